/- Contracts of CheckRules and Shift of optics. Contracts of the validity of pulses: optics.valid, the reference's pulse, pulses, truth, shiftable. Plain lemmas for the walk of optics.Carry; a store of four cells. -/
import Derived.Test.YtchhkokpjdkkiaaTopSiftsa07
import Derived.Test.YtchhkokpjdkkiaaTopSiftsa02
import Derived.Test.YtchhkokpjdkkiaaTopSiftsa09
namespace Go.Proofs.Ytchhkokpjdkkiaa
open Go.RowKit

theorem rulesErr_long {L : List Ru} (h : 32 < L.length) : rulesErr L = 5 := by unfold rulesErr; rw [if_pos h]
theorem rulesErr_bad {L : List Ru} (h : ¬ 32 < L.length) {k : Nat} {r : Ru} (hr : L[k]? = some r) (hb : okRu r = false) : rulesErr L = 2 := by
  have : L.all okRu = false := by
    cases ha : L.all okRu
    · rfl
    · have := List.all_eq_true.1 ha r (List.mem_of_getElem? hr); rw [hb] at this; cases this
  unfold rulesErr; rw [if_neg h, this]; rfl
theorem rulesErr_all {L : List Ru} (h : ¬ 32 < L.length) (ha : L.all okRu = true) : rulesErr L = if 1 < shifts L then 10 else 0 := by unfold rulesErr; rw [if_neg h, if_pos ha]
theorem ruErr_ok {r : Ru} (h : okRu r = true) : ruErr r = 0 := (ruErr_yes h).symm
theorem ruErr_bad {r : Ru} (h : okRu r = false) : ruErr r = 2 := (ruErr_no h).symm

set_option maxRecDepth 100000 in
set_option maxHeartbeats 3200000 in
theorem checkRules_c (A : Option Addr) (n c : Nat) (L : List Ru) (w : World) (r : Rd eRu w w.heap.size A n c L) :
    Calls Try.prog 35 #[.slice A n c] w fun e w' => e = .returned (.int .i64 (rulesErr L)) ∧ Below w.heap.size w w' := by
  have hm := r.max
  have hcap := r.cap
  have HL := hide r.len
  by_cases hbig : 32 < (n : Int)
  · have HE := hide (rulesErr_long (L := L) (by have := HL.out; omega))
    go_enter Try.func35, Try.ntmps35
    go_wp2
    go_ret
    exact ⟨ret_ru HE.out.symm, Below.refl _ _⟩
  have HN := hide (show ¬ 32 < L.length by have := HL.out; omega)
  have hn2 : n ≤ 32 := by omega
  go_enter Try.func35, Try.ntmps35
  go_wp2
  go_loopw [3, 12] (fun sv iv wr => ∃ k : Nat, k ≤ n ∧ iv = .int .i64 k ∧ sv = .int .i64 (shifts (L.take k)) ∧ (L.take k).all okRu = true ∧ Below w.heap.size w wr) (fun _ iv _ => n - (intOf iv).toNat)
  case atStart => exact ⟨0, by omega, rfl, rfl, by simp, Below.refl _ _⟩
  case round =>
    obtain ⟨k, hk, rfl, rfl, hall, hbw⟩ := hrel
    have HA := hide hall
    clear hall
    have hs := shifts_le (L.take k)
    have hs2 : (shifts (L.take k)) ≤ 32 := by rw [List.length_take] at hs; omega
    have hs0 : (0 : Int) ≤ (shifts (L.take k) : Int) := by omega
    have hs1 : (shifts (L.take k) : Int) ≤ 32 := by omega
    clear hs
    by_cases hlt : k < n
    · obtain ⟨b, off, x, rfl, hb', hx, hc⟩ := (r.below hbw).get hlt
      have c0 := hc 0 _ rfl
      have c1 := hc 1 _ rfl
      have c2 := hc 2 _ rfl
      have c3 := hc 3 _ rfl
      have c4 := hc 4 _ rfl
      simp only [eRu, Nat.add_zero] at c0 c1 c2 c3 c4
      have HSN := hide (shifts_snoc hx)
      have HX := hide hx
      clear hc hx
      have hck := fun W => checkRule_c x W
      cases hok : okRu x
      · rw [ruErr_bad hok] at hck
        have HCK := hide hck
        have HE := hide (rulesErr_bad HN.out HX.out hok)
        obtain ⟨xk, xf, xt, xa, xb⟩ := x
        simp only at c0 c1 c2 c3 c4
        clear hck hok
        go_wp2_with (go_at_call 64; refine (HCK.out _).mono ?_; rintro e w1 ⟨rfl, hb1⟩)
        go_ret
        exact ⟨ret_ru HE.out.symm, below_on hbw (below_on (below_alloc _ _) hb1)⟩
      · rw [ruErr_ok hok] at hck
        have HCK := hide hck
        have HOK := hide hok
        obtain ⟨xk, xf, xt, xa, xb⟩ := x
        simp only at c0 c1 c2 c3 c4
        clear hck hok
        by_cases h3 : xk = 3
        · subst h3
          go_wp2_with (go_at_call 64; refine (HCK.out _).mono ?_; rintro e w1 ⟨rfl, hb1⟩; have hB := (Blk.new wr _ _).keep hb1; have z0 := hB.cell 0; simp only [List.getElem?_toArray, List.getElem?_cons_zero] at z0)
          go_roundw
          case rel => exact ⟨k + 1, by omega, by go_num, by rw [HSN.out]; go_num, all_take_succ HA.out HX.out HOK.out, below_on hbw (below_on (below_alloc _ _) hb1)⟩
          case measure => simp [intOf] <;> omega
        · have HSN2 := hide (show shifts (L.take (k + 1)) = shifts (L.take k) by rw [HSN.out, if_neg h3]; rfl)
          go_wp2_with (go_at_call 64; refine (HCK.out _).mono ?_; rintro e w1 ⟨rfl, hb1⟩; have hB := (Blk.new wr _ _).keep hb1; have z0 := hB.cell 0; simp only [List.getElem?_toArray, List.getElem?_cons_zero] at z0)
          go_roundw
          case rel => exact ⟨k + 1, by omega, by go_num, by rw [HSN2.out], all_take_succ HA.out HX.out HOK.out, below_on hbw (below_on (below_alloc _ _) hb1)⟩
          case measure => simp [intOf] <;> omega
    · have hall := all_whole HA.out HL.out hlt
      have hkn : L.take k = L := by rw [List.take_of_length_le]; have := HL.out; omega
      rw [hkn] at hs0 hs1 hs2 ⊢
      have HE := hide (rulesErr_all HN.out hall)
      clear hall hkn
      by_cases h1 : (1 : Int) < (shifts L : Int)
      · have HE2 := hide (show rulesErr L = 10 by rw [HE.out, if_pos (by omega)])
        go_wp2
        go_ret
        exact ⟨ret_ru HE2.out.symm, hbw⟩
      · have HE2 := hide (show rulesErr L = 0 by rw [HE.out, if_neg (by omega)])
        go_wp2
        go_ret
        exact ⟨ret_ru HE2.out.symm, hbw⟩

theorem shiftOf_at {L : List Ru} {k : Nat} {r : Ru} (hb : (L.take k).all (fun r => !isSh r) = true) (hr : L[k]? = some r) (h : r.k = 3) : shiftOf L = r.a * (1 - 2 * r.b) := by
  have hk : k < L.length := (List.getElem?_eq_some_iff.1 hr).1
  have e : L = L.take k ++ r :: L.drop (k + 1) := by
    conv => lhs; rw [← List.take_append_drop k L]
    rw [List.drop_eq_getElem_cons hk]
    have : L[k] = r := by rw [List.getElem?_eq_getElem hk] at hr; injection hr
    rw [this]
  have hf : L.find? isSh = some r := by
    rw [e, List.find?_append]
    have h0 : (L.take k).find? isSh = none := by
      rw [List.find?_eq_none]; intro x hx
      have := List.all_eq_true.1 hb x hx
      simpa using this
    rw [h0]; simp [isSh, h]
  unfold shiftOf; rw [hf]
theorem shiftOf_none {L : List Ru} (hb : L.all (fun r => !isSh r) = true) : shiftOf L = 0 := by
  have hf : L.find? isSh = none := by
    rw [List.find?_eq_none]; intro x hx
    have := List.all_eq_true.1 hb x hx
    simpa using this
  unfold shiftOf; rw [hf]
theorem okRu_shift {r : Ru} (h : okRu r = true) (h3 : r.k = 3) : (r.b = 0 ∨ r.b = 1) ∧ r.b ≤ r.a ∧ r.a ≤ 16 := by
  unfold okRu at h; rw [if_neg (by omega), if_pos h3] at h
  simp at h; omega
theorem rulesErr_zero {L : List Ru} (h : rulesErr L = 0) : L.length ≤ 32 ∧ L.all okRu = true := by
  unfold rulesErr at h
  split at h
  · omega
  split at h
  · exact ⟨by omega, by assumption⟩
  · omega

set_option maxRecDepth 100000 in
set_option maxHeartbeats 3200000 in
theorem shift_c (A : Option Addr) (n c : Nat) (L : List Ru) (w : World) (r : Rd eRu w w.heap.size A n c L) :
    Calls Try.prog 37 #[.slice A n c] w fun e w' => e = .returned (.tuple #[.int .i64 (shiftErr L), .int .i64 (rulesErr L)]) ∧ Below w.heap.size w w' := by
  have hm := r.max
  have hcap := r.cap
  have HL := hide r.len
  have hcr := checkRules_c A n c L w r
  by_cases h0 : rulesErr L = 0
  · have HE := hide (show shiftErr L = shiftOf L by unfold shiftErr; rw [if_pos h0])
    have HZ := hide (rulesErr_zero h0)
    rw [h0] at hcr
    have HCR := hide hcr
    have H0 := hide h0
    clear hcr h0
    go_enter Try.func37, Try.ntmps37
    go_wp2_with (go_at_call 35; refine HCR.out.mono ?_; rintro e w1 ⟨rfl, hb1⟩)
    have r1 := r.on hb1
    go_loopw [14] (fun iv wr => ∃ k : Nat, k ≤ n ∧ iv = .int .i64 k ∧ (L.take k).all (fun r => !isSh r) = true ∧ Below w1.heap.size w1 wr) (fun iv _ => n - (intOf iv).toNat)
    case atStart => exact ⟨0, by omega, rfl, by simp, Below.refl _ _⟩
    case round =>
      obtain ⟨k, hk, rfl, hall, hbw⟩ := hrel
      have HA := hide hall
      clear hall
      by_cases hlt : k < n
      · obtain ⟨b, off, x, rfl, hb', hx, hc⟩ := (r1.below hbw).get hlt
        have c0 := hc 0 _ rfl
        have c1 := hc 1 _ rfl
        have c2 := hc 2 _ rfl
        have c3 := hc 3 _ rfl
        have c4 := hc 4 _ rfl
        simp only [eRu, Nat.add_zero] at c0 c1 c2 c3 c4
        have HX := hide hx
        have hokx : okRu x = true := List.all_eq_true.1 HZ.out.2 x (List.mem_of_getElem? hx)
        clear hc hx
        obtain ⟨xk, xf, xt, xa, xb⟩ := x
        simp only at c0 c1 c2 c3 c4
        by_cases h3 : xk = 3
        · subst h3
          have HS := hide (shiftOf_at HA.out HX.out rfl)
          obtain ⟨hb2, hb3, hb4⟩ := okRu_shift hokx rfl
          simp only at hb2 hb3 hb4
          clear hokx
          rcases hb2 with rfl | rfl
          all_goals
            go_wp2
            go_ret2
            refine ⟨?_, below_on hb1 (below_on hbw (below_alloc _ _))⟩
            rw [HE.out, HS.out, H0.out]
            first
              | (simp only; done)
              | (simp only; go_num)
              | (simp; done)
        · clear hokx
          have HN := hide (show (!isSh ⟨xk, xf, xt, xa, xb⟩) = true by simp [isSh, h3])
          go_wp2
          go_roundw
          case rel => exact ⟨k + 1, by omega, by go_num, all_take_succ (f := fun r => !isSh r) HA.out HX.out HN.out, below_on hbw (below_alloc _ _)⟩
          case measure => simp [intOf] <;> omega
      · have hall := all_whole HA.out HL.out hlt
        have HS := hide (shiftOf_none hall)
        clear hall
        go_wp2
        go_ret2
        exact ⟨by rw [HE.out, HS.out, H0.out]; rfl, below_on hb1 hbw⟩
  · have HE := hide (show shiftErr L = 0 by unfold shiftErr; rw [if_neg h0])
    have HCR := hide hcr
    have hne : (rulesErr L == 0) = false := by simpa using h0
    have hne2 : (rulesErr L != 0) = true := by simpa using h0
    clear hcr
    go_enter Try.func37, Try.ntmps37
    go_wp2_with (go_at_call 35; refine HCR.out.mono ?_; rintro e w1 ⟨rfl, hb1⟩)
    go_ret2
    exact ⟨by rw [HE.out]; rfl, hb1⟩
end Go.Proofs.Ytchhkokpjdkkiaa

namespace Go.Proofs.Ytchhkokpjdkkiaa
open Go.RowKit

theorem pulsesErr_many {L : List Pu} (h : 4096 < L.length) : pulsesErr L = 5 := by unfold pulsesErr; rw [if_pos h]
theorem pulsesErr_bad {L : List Pu} {k : Nat} {x : Pu} (h : L.length ≤ 4096) (hx : L[k]? = some x) (hf : okPu x = false) : pulsesErr L = 2 := by
  unfold pulsesErr; rw [if_neg (by omega), if_neg (by rw [all_false hx hf]; simp)]
theorem pulsesErr_ok {L : List Pu} (h : L.length ≤ 4096) (ha : L.all okPu = true) : pulsesErr L = 0 := by
  unfold pulsesErr; rw [if_neg (by omega), if_pos ha]
theorem okPu_mk {x : Pu} (h1 : 0 ≤ x.b) (h2 : x.b ≤ 1) (h3 : 0 ≤ x.cl) (h4 : x.cl ≤ 2) (h5 : 0 ≤ x.ph) (h6 : x.ph ≤ 3) : okPu x = true := by
  unfold okPu; exact decide_eq_true ⟨h1, h2, h3, h4, h5, h6⟩
theorem okPu_not {x : Pu} (h : ¬(0 ≤ x.b ∧ x.b ≤ 1 ∧ 0 ≤ x.cl ∧ x.cl ≤ 2 ∧ 0 ≤ x.ph ∧ x.ph ≤ 3)) : okPu x = false := by
  unfold okPu; exact decide_eq_false h

set_option maxRecDepth 100000 in
set_option maxHeartbeats 1600000 in
theorem valid_c (A : Option Addr) (n c : Nat) (L : List Pu) (w : World) (s : Rd ePu w w.heap.size A n c L) :
    Calls Try.prog 66 #[.slice A n c] w fun e w' => e = .returned (.int .i64 (pulsesErr L)) ∧ Below w.heap.size w w' := by
  have hl := s.len
  have hm := s.max
  have hcap := s.cap
  have HL := hide hl
  clear hl
  by_cases hbig : 4096 < (n : Int)
  · go_enter Try.func66, Try.ntmps66
    go_wp2
    go_ret
    exact ⟨ret_i (pulsesErr_many (by have := HL.out; omega)).symm, Below.refl _ _⟩
  · go_enter Try.func66, Try.ntmps66
    go_wp2
    go_loopw [10] (fun iv wr => ∃ k : Nat, k ≤ n ∧ iv = .int .i64 k ∧ (L.take k).all okPu = true ∧ Below w.heap.size w wr) (fun iv _ => n - (intOf iv).toNat)
    case atStart => exact ⟨0, by omega, rfl, by simp, Below.refl _ _⟩
    case round =>
      obtain ⟨k, hk, rfl, hall, hbw⟩ := hrel
      have HA := hide hall
      clear hall
      by_cases hlt : k < n
      · obtain ⟨b, off, x, rfl, hb, hx, hc⟩ := (s.below hbw).get hlt
        have c0 := hc 0 _ rfl
        have c1 := hc 1 _ rfl
        have c2 := hc 2 _ rfl
        have c3 := hc 3 _ rfl
        have c4 := hc 4 _ rfl
        simp only [ePu, Nat.add_zero] at c0 c1 c2 c3 c4
        have HX := hide hx
        clear hc hx
        go_wp2
        all_goals first
          | (go_roundw
             case rel => exact ⟨k + 1, by omega, by go_num, all_take_succ HA.out HX.out (okPu_mk (by omega) (by omega) (by omega) (by omega) (by omega) (by omega)), hbw.alloc hbw.size _⟩
             case measure => simp [intOf] <;> omega)
          | (go_ret
             exact ⟨ret_i (pulsesErr_bad (by have := HL.out; omega) HX.out (okPu_not (by omega))).symm, hbw.alloc hbw.size _⟩)
      · go_wp2
        go_ret
        exact ⟨ret_i (pulsesErr_ok (by have := HL.out; omega) (by have h := HA.out; rwa [List.take_of_length_le (by have := HL.out; omega)] at h)).symm, hbw⟩

end Go.Proofs.Ytchhkokpjdkkiaa

namespace Go.Proofs.Ytchhkokpjdkkiaa
open Go.RowKit

theorem set4 {α : Type} (a b c d : α) : ∀ (l : List α) (j : Nat), j + 3 < l.length → (((l.set j a).set (j + 1) b).set (j + 2) c).set (j + 3) d = l.take j ++ [a, b, c, d] ++ l.drop (j + 4)
  | [], j, h => by simp at h
  | [_], j, h => by simp at h
  | [_, _], j, h => by simp only [List.length_cons, List.length_nil] at h; omega
  | [_, _, _], j, h => by simp only [List.length_cons, List.length_nil] at h; omega
  | x :: y :: z :: u :: l, 0, h => by simp
  | x :: y :: z :: u :: l, j + 1, h => by
    have ih := set4 a b c d (y :: z :: u :: l) j (by simpa using h)
    simpa using ih
theorem Ow.store4 {α : Type} {e : Enc α} {w : World} {base g n c : Nat} {E : TypeId} {L : List α} (h : Ow e w base E (some ⟨g, 0, none⟩) n c L) {i : Nat} (hi : i < n) (y : α) {v1 v2 v3 v4 : Value} (hv : e.cells y = [v1, v2, v3, v4]) {p q r s : Addr} (hp : p = ⟨g, i * 4, none⟩) (hq : q = ⟨g, i * 4 + 1, none⟩) (hr : r = ⟨g, i * 4 + 2, none⟩) (hs : s = ⟨g, i * 4 + 3, none⟩) :
    Ow e ((((w.setCell p v1).setCell q v2).setCell r v3).setCell s v4) base E (some ⟨g, 0, none⟩) n c (L.set i y) := by
  subst hp
  subst hq
  subst hr
  subst hs
  have hnf : e.nf = 4 := by rw [← e.len y, hv]; rfl
  rcases h.form with ⟨h0, _⟩ | ⟨g', cur, ea, hb, hlt, hh, h1, h2, h3, h4⟩
  · cases h0
  injection ea with ea; injection ea with ea; subst ea
  refine h.put hi y ⟨cur, hh, ?_⟩
  have hin : i * 4 + 3 < cur.size := by rw [h3, hnf]; omega
  rw [heap_setCell_same _ g (i * 4 + 3) _ E v4 (heap_setCell_same _ g (i * 4 + 2) _ E v3 (heap_setCell_same _ g (i * 4 + 1) _ E v2 (heap_setCell_same w g (i * 4) cur E v1 hh))), hv, hnf, ← set4 _ _ _ _ _ _ (by simpa using hin)]
  congr 2
  apply Array.toList_inj.1
  simp
theorem put_repl {α : Type} {K : List α} {k n : Nat} {z y : α} (hk : K.length = k) (hn : k < n) : (K ++ List.replicate (n - k) z).set k y = (K ++ [y]) ++ List.replicate (n - (k + 1)) z := by
  rw [List.set_append_right _ _ (by omega), hk, Nat.sub_self, show n - k = (n - (k + 1)) + 1 by omega, List.replicate_succ]
  simp
theorem skip_repl {α : Type} {K : List α} {k n : Nat} {z : α} (hn : k < n) : K ++ List.replicate (n - k) z = (K ++ [z]) ++ List.replicate (n - (k + 1)) z := by
  rw [show n - k = (n - (k + 1)) + 1 by omega, List.replicate_succ]; simp

theorem Sta.on {w w' : World} {base X D E : Nat} {x : Li} {s : Nat} {N : List No} (h : Sta w base X D E x s N) (g : Geo base X D E) (hb : Below w.heap.size w w') : Sta w' base X D E x s N :=
  h.quiet g (Blk.keep h.1 hb) (Blk.keep h.2.1 hb) (Fr.of_below hb)
def Env (w : World) (gA gDo : Nat) : Prop := Caps w gA ∧ Blk w gDo 162 (actV gA)
theorem Env.fr {w w' : World} {gA gDo : Nat} {T : Nat → Prop} (h : Env w gA gDo) (f : Fr T w w') (h1 : ¬ T (gA + 1)) (h2 : ¬ T (gA + 2)) (h3 : ¬ T (gA + 3)) (h4 : ¬ T (gA + 4)) (h5 : ¬ T gDo) : Env w' gA gDo :=
  ⟨⟨Blk.fr h.1.1 f h1, Blk.fr h.1.2.1 f h2, Blk.fr h.1.2.2.1 f h3, Blk.fr h.1.2.2.2 f h4⟩, Blk.fr h.2 f h5⟩
theorem Env.on {w w' : World} {gA gDo : Nat} (h : Env w gA gDo) (hb : Below w.heap.size w w') : Env w' gA gDo :=
  h.fr (Fr.of_below (T := fun _ => False) hb) (fun h => h) (fun h => h) (fun h => h) (fun h => h) (fun h => h)
/-- Where the blocks of a call of Carry lie. -/
structure Lie (base D E gA gDo gO : Nat) : Prop where
  d : D < base
  e : E < base
  a : gA + 4 < base
  o : gDo < base
  u : gO < base
  de : D ≠ E
  da : D < gA
  ea : E < gA
  ao : gA + 4 < gDo
  ou : gDo < gO
def Tu (base D E gO : Nat) : Nat → Prop := fun i => base ≤ i ∨ i = D ∨ i = E ∨ i = gO
theorem Env.tu {w w' : World} {base D E gA gDo gO : Nat} (h : Env w gA gDo) (l : Lie base D E gA gDo gO) (f : Fr (Tu base D E gO) w w') : Env w' gA gDo := by
  obtain ⟨l1, l2, l3, l4, l5, l6, l7, l8, l9, l10⟩ := l
  exact h.fr f (by unfold Tu; omega) (by unfold Tu; omega) (by unfold Tu; omega) (by unfold Tu; omega) (by unfold Tu; omega)
theorem Env.tr {w w' : World} {base D E gA gDo gO : Nat} (h : Env w gA gDo) (l : Lie base D E gA gDo gO) (f : Fr (Tr base D E) w w') : Env w' gA gDo :=
  h.tu l (f.imp (fun i _ c => by unfold Tr at c; unfold Tu; omega))
theorem Fr.tu {w w' : World} {base D E : Nat} (gO : Nat) (f : Fr (Tr base D E) w w') : Fr (Tu base D E gO) w w' := f.imp (fun i _ c => by unfold Tr at c; unfold Tu; omega)
def SCar (L : List Ru) (P : List Pu) (s : Nat) (w : World) (e : Ending) (w' : World) : Prop :=
  ∃ A n c A' n' c', e = .returned (.tuple #[.slice A n c, .slice A' n' c', .int .i64 (carryErr L P)]) ∧ Rd eLi w' w'.heap.size A n c (carryX L P s) ∧ Rd eNo w' w'.heap.size A' n' c' (carryN L P s) ∧ Below w.heap.size w w'
theorem SCar.err {L : List Ru} {P : List Pu} {s : Nat} {w w' : World} {x : Int} (h : carryErr L P = x) (hx : x ≠ 0) (hb : Below w.heap.size w w') :
    SCar L P s w (.returned (.tuple #[.slice none 0 0, .slice none 0 0, .int .i64 x])) w' := by
  refine ⟨none, 0, 0, none, 0, 0, by rw [h], ?_, ?_, hb⟩
  · unfold carryX; rw [if_neg (by omega)]; exact Rd.nil _ _ _ _ (by omega)
  · unfold carryN; rw [if_neg (by omega)]; exact Rd.nil _ _ _ _ (by omega)
theorem carryErr_rules {L : List Ru} {P : List Pu} (h : rulesErr L ≠ 0) : carryErr L P = rulesErr L := by unfold carryErr; rw [if_neg h]
theorem carryErr_pulses {L : List Ru} {P : List Pu} (h : rulesErr L = 0) : carryErr L P = pulsesErr P := by unfold carryErr; rw [if_pos h]
theorem pulsesErr_zero {P : List Pu} (h : pulsesErr P = 0) : P.length ≤ 4096 ∧ P.all okPu = true := by
  unfold pulsesErr at h
  split at h
  · omega
  split at h
  · exact ⟨by omega, by assumption⟩
  · omega
theorem okPu_ph {p : Pu} (h : okPu p = true) : 0 ≤ p.ph ∧ p.ph ≤ 3 := by
  unfold okPu at h; simp at h; omega
theorem covers_lo {r : Ru} {i : Nat} (h : ¬ 4 ≤ r.k) : covers r i = true := by unfold covers; exact decide_eq_true (Or.inl (by omega))
theorem covers_in {r : Ru} {i : Nat} (h1 : r.fr ≤ i) (h2 : (i : Int) ≤ r.to) : covers r i = true := by unfold covers; exact decide_eq_true (Or.inr ⟨h1, h2⟩)
theorem covers_no {r : Ru} {i : Nat} (h : 4 ≤ r.k) (h2 : ¬ (r.fr ≤ i ∧ (i : Int) ≤ r.to)) : covers r i = false := by
  unfold covers; apply decide_eq_false; rintro (c | c)
  · omega
  · exact h2 c
theorem stepF_yes {i : Nat} {t : Li × List No × Nat} {r : Ru} (h : covers r i = true) : stepF i t r = actT r i t.1 t.2.2 t.2.1 := by unfold stepF actT; rw [if_pos h]
theorem stepF_not {i : Nat} {t : Li × List No × Nat} {r : Ru} (h : covers r i = false) : stepF i t r = t := by unfold stepF; rw [if_neg (by simp [h])]
theorem notes_bound {L : List Ru} {P : List Pu} {s i : Nat} (hL : L.length ≤ 32) (hi : i ≤ 4096) : (carrF L P s i).2.1.length ≤ 131072 := by
  have h1 := carrF_notes L P s i
  have h2 : i * L.length ≤ 4096 * 32 := Nat.mul_le_mul hi hL
  omega
theorem info_li : (Try.prog.info? 165).map (fun i => (i.zero, i.size, i.bytes)) = some (some (.agg #[.int .i64 0, .int .i64 0, .bool false, .bool false]), 4, 24) := by kernel_rfl
end Go.Proofs.Ytchhkokpjdkkiaa
