/- Contracts of the reference's text and Text. -/
import Derived.Test.YtgilhkdmgbeieaaSc
import Derived.Test.YtgilhkdmgbeieaaWn
namespace Go.Proofs.Ytgilhkdmgbeieaa
open Go.RowKit

/-- Dividing by ten from the top, into a new row. -/
def ShortQ (b : Nat) (l lo : List Nat) (k rest : Nat) : Prop :=
  val b (lo.drop k) = val b (l.drop k) / 10 ∧ rest = val b (l.drop k) % 10
theorem ShortQ.start (b : Nat) (l lo : List Nat) (n : Nat) (h : l.length = n) (h' : lo.length = n) : ShortQ b l lo n 0 := by
  refine ⟨?_, ?_⟩ <;> rw [List.drop_of_length_le (by omega)]
  · rw [List.drop_of_length_le (by omega)]; simp [val]
  · simp [val]
theorem ShortQ.step {b : Nat} {l lo : List Nat} {j rest x t : Nat} (h : ShortQ b l lo (j + 1) rest) (hj : j < lo.length) (hjl : j < l.length) (hx : l.getD j 0 = x) (ht : t = rest * b + x) :
    ShortQ b l (lo.set j (t / 10)) j (t % 10) := by
  obtain ⟨h2, h3⟩ := h
  have e1 : l.drop j = x :: l.drop (j + 1) := by rw [List.drop_eq_getElem_cons hjl, ← hx]; simp [hjl]
  have e2 : (lo.set j (t / 10)).drop j = (t / 10) :: lo.drop (j + 1) := by
    rw [List.drop_eq_getElem_cons (by rw [List.length_set]; exact hj), drop_set_succ]; simp
  have h4 : val b (l.drop j) = 10 * (b * (val b (l.drop (j + 1)) / 10)) + t := by
    rw [e1]
    simp only [val]
    generalize val b (l.drop (j + 1)) = H at *
    have e := Nat.div_add_mod H 10
    rw [← h3] at e
    generalize H / 10 = q at *
    subst ht
    subst e
    grind
  refine ⟨?_, ?_⟩
  · rw [e2]
    simp only [val]
    rw [h2, h4]
    omega
  · rw [h4]; omega

/-- Reversing in place: i pairs are exchanged. -/
def RevS (lb lo : List Nat) (i : Nat) : Prop := lo.length = lb.length ∧ ∀ j, j < lb.length → lo.getD j 0 = if j < i ∨ lb.length ≤ j + i then lb.getD (lb.length - 1 - j) 0 else lb.getD j 0
theorem RevS.start (lb : List Nat) : RevS lb lb 0 := ⟨rfl, fun j hj => by rw [if_neg (by omega)]⟩
theorem getD_set (l : List Nat) (i j y : Nat) (hi : i < l.length) : (l.set i y).getD j 0 = if j = i then y else l.getD j 0 := by
  rw [List.getD_eq_getElem?_getD, List.getElem?_set]
  by_cases h : i = j
  · subst h; simp [hi]
  · rw [if_neg h, if_neg (by omega), ← List.getD_eq_getElem?_getD]
theorem RevS.step {lb lo : List Nat} {i k x y : Nat} (h : RevS lb lo i) (hk : k + i + 1 = lb.length) (hik : i < k) (hx : lo.getD i 0 = x) (hy : lo.getD k 0 = y) : RevS lb ((lo.set i y).set k x) (i + 1) := by
  obtain ⟨hl, hj⟩ := h
  have e1 := hj i (by omega)
  have e2 := hj k (by omega)
  rw [if_neg (by omega), hx] at e1
  rw [if_neg (by omega), hy] at e2
  refine ⟨by rw [List.length_set, List.length_set]; exact hl, fun j hjl => ?_⟩
  rw [getD_set _ _ _ _ (by rw [List.length_set]; omega), getD_set _ _ _ _ (by omega)]
  by_cases h1 : j = k
  · rw [if_pos h1, if_pos (by omega), e1]; congr 1; omega
  · rw [if_neg h1]
    by_cases h2 : j = i
    · rw [if_pos h2, if_pos (by omega), e2]; congr 1; omega
    · rw [if_neg h2, hj j hjl]
      by_cases h3 : j < i ∨ lb.length ≤ j + i
      · rw [if_pos h3, if_pos (by omega)]
      · rw [if_neg h3, if_neg (by omega)]
theorem RevS.done {lb lo : List Nat} {i : Nat} (h : RevS lb lo i) (hi : lb.length ≤ i + i + 1) : lo = lb.reverse := by
  obtain ⟨hl, hj⟩ := h
  refine List.ext_getElem (by rw [List.length_reverse]; exact hl) fun k h1 h2 => ?_
  have := hj k (by omega)
  rw [List.getElem_reverse]
  rw [List.getD_eq_getElem?_getD, List.getElem?_eq_getElem h1] at this
  have e : lo[k] = lb.getD (lb.length - 1 - k) 0 := by
    split at this
    · exact this
    · rw [show lb.length - 1 - k = k by omega]; exact this
  rw [e, List.getD_eq_getElem?_getD, List.getElem?_eq_getElem (by omega)]
  rfl

set_option maxRecDepth 100000 in
set_option maxHeartbeats 6400000 in
theorem rtext1_c (A : Option Addr) (n c : Nat) (l : List Nat) (V : Nat) (w : World) (h : Sl w w.heap.size .i64 A n c l) (hN : Num 256 l V) (hn : n ≤ 1048576) :
    Calls Try.prog 96 #[.slice A n c] w fun e w' => e = .returned (.string (strN (textN V))) ∧ Below w.heap.size w w' := by
  have hcap := h.cap
  have hmax := h.max
  by_cases h0 : n = 0
  · subst h0
    have hV0 := (hN.zero_iff (by omega)).1 h.len
    subst hV0
    go_enter Try.func96, Try.ntmps96
    go_wp2
    go_ret
    exact ⟨rfl, Below.refl _ _⟩
  · have hV0 : Hid (V ≠ 0) := fun e => h0 (by have := (hN.zero_iff (by omega)).2 e; rwa [h.len] at this)
    have h0' : ((n : Int) == 0) = false := beq_eq_false_iff_ne.2 (by omega)
    have hVL := hN.lt
    rw [h.len] at hVL
    have HVL := hide hVL
    have HVM : Hid (V < 4294967296 ^ n) := Nat.lt_of_lt_of_le hVL (Nat.pow_le_pow_left (by omega) n)
    clear hVL
    go_enter Try.func96, Try.ntmps96
    go_wp2
    go_loopg [0, 3] V (fun X v0 v3 wr => ∃ (A1 : Option Addr) (na ca : Nat) (la : List Nat) (A : Option Addr) (nb cb : Nat) (lb d : List Nat), v0 = .slice A1 na ca ∧ v3 = .slice A nb cb ∧
      Sl wr wr.heap.size .i64 A1 na ca la ∧ Num 256 la X ∧ Own wr w.heap.size 5 .u8 A nb cb lb ∧ lb = d.map (· + 48) ∧ DecI V X d ∧ X < 256 ^ n ∧ nb ≤ 32 * n ∧ Below w.heap.size w wr)
    case atStart => exact ⟨A, n, c, l, none, 0, 0, [], [], rfl, rfl, h, hN, Own.nil _ _ _ _, rfl, DecI.start V, HVL.out, by omega, Below.refl _ _⟩
    case round =>
      obtain ⟨A1, na, ca, la, A, nb, cb, lb, d, rfl, rfl, sa, Na, ob, hlb, hD, hXn, hnb, hbw⟩ := hrel
      obtain ⟨X, rfl⟩ : ∃ X, X = gk := ⟨_, rfl⟩
      have hma := sa.max
      have hca := sa.cap
      have hna : na ≤ n := by
        have := (Na.length_le (by omega) n).2 hXn
        rwa [sa.len] at this
      have HLB := hide hlb
      have HXn := hide hXn
      clear hlb hXn
      have hcb := ob.sl.cap
      have hmb := ob.sl.max
      by_cases hX : 0 < X
      · have hpa : 0 < na := by
          have := Na.zero_iff (by omega)
          rw [sa.len] at this; omega
        have hk : d.length < 32 * n := ten_len hD.val_ hX HVM.out
        have hnbd : nb ≤ d.length ∧ d.length ≤ nb := by
          have := ob.len
          rw [HLB.out, List.length_map] at this
          omega
        obtain ⟨wo, rfl⟩ : ∃ wo : World, wo = wr := ⟨_, rfl⟩
        go_wp2_with (first
          | (at_make; refine wl_make _ rfl (.tmp 16) _ _ rfl 3 .i64 8 Try.underlying82 info_int (by omega) _ _ na rfl rfl (by omega) (by omega) (by omega) ?_; intro w5 o5 hg5 hsz5))
        have hb5 : Below wo.heap.size wo w5 := (Below.refl _ _).grown hg5 (Nat.le_refl _) (fun k hk => by cases hk)
        go_loopw [4, 6] (fun rv iv wq => ∃ (k rest : Nat) (lo : List Nat), k ≤ na ∧ iv = .int .i64 ((k : Int) - 1) ∧ rv = .int .i64 rest ∧ rest < 10 ∧
            Own wq wo.heap.size 3 .i64 (some ⟨wo.heap.size, 0, none⟩) na na lo ∧ Digs 256 lo ∧ ShortQ 256 la lo k rest ∧ Below wo.heap.size wo wq)
          (fun _ iv _ => (intOf iv + 1).toNat)
        case atStart => exact ⟨na, 0, _, Nat.le_refl _, by go_num, rfl, by omega, o5, fun x hx => by rw [List.eq_of_mem_replicate hx]; omega, ShortQ.start _ _ _ _ sa.len (by rw [List.length_replicate]), hb5⟩
        case round =>
          clear hg5 hsz5 o5 hb5
          obtain ⟨k, rest, lo, hk, rfl, rfl, hr, ho, hdo, hI, hbr⟩ := hrel
          by_cases hk0 : 0 < k
          · obtain ⟨j, rfl⟩ : ∃ j, k = j + 1 := ⟨k - 1, by omega⟩
            rw [show ((j + 1 : Nat) : Int) - 1 = (j : Int) from by omega]
            obtain ⟨b1, o1, x, rfl, hb1, hx, hxm, hcx⟩ := ((sa.below hbr)).cell (i := j) (by omega)
            have hx1 := Na.dig x hxm
            obtain ⟨z, _, _, hcz⟩ := ho.cell (show j < na by omega)
            have hfz := ho.frozen j
            have HX := hide hx
            clear hx
            obtain ⟨t, HT, ht⟩ : ∃ t : Nat, Hid (t = rest * 256 + x) ∧ t < 2560 := ⟨_, rfl, by omega⟩
            have hti : (rest : Int) * 256 + (x : Int) = (t : Int) := by have := HT.out; omega
            go_wp2
            go_roundw
            case rel => exact ⟨j, t % 10, lo.set j (t / 10), by omega, rfl, by go_num, by omega, ho.store j (t / 10) (by go_num), hdo.set _ _ (by omega), hI.step (by rw [ho.len]; omega) (by rw [sa.len]; omega) HX.out HT.out, hbr.setCell (Nat.le_refl _) _⟩
            case measure => simp [intOf] <;> omega
          · obtain rfl : k = 0 := by omega
            obtain ⟨e1, e2⟩ := hI
            simp only [List.drop_zero] at e1 e2
            rw [Na.val_] at e1 e2
            have E2 := hide e2
            clear e2
            have t1 := rtrim_n _ _ _ _ _ _ ho.sl hdo
            rw [e1] at t1
            clear e1
            go_wp2_with fail
            refine t1.mono ?_
            rintro e w' ⟨m, hm, rfl, ta, rfl⟩
            clear t1
            have oq := ho.take hm
            have ob2 := ob.below hbr (Nat.le_refl _)
            have hbw2 := hbw.trans (hbr.mono hbw.size)
            have hAlt : ∀ g, A = some ⟨g, 0, none⟩ → g < wo.heap.size := fun g hg => (ob.lt hg).2
            have hsz := hbw2.size
            go_wp2_with (first
              | (at_builtin; refine wl_append _ rfl (.tmp 41) (.tmp 45) _ rfl w.heap.size 5 .u8 1 Try.underlying119 info_u8 (by omega) A nb cb lb rfl (ob2.alloc _) (some ⟨wr.heap.size, 0, none⟩) 1 1 [rest + 48] rfl (wr.heap.size + 1) (Sl.one wr _ _ (rest + 48) (congrArg (Value.int .u8) (by omega))) (by omega) (by simp; omega) ?_; intro A3 c3 w3 o3 hg3 hA3))
            have oq3 := (oq.alloc (.cells #[.int .u8 (48 + (rest : Int))] 5)).grown hg3 (fun g hgg => by
              cases hgg
              cases A with
              | none => simp
              | some ad =>
                rcases ob2.form with ⟨h', _⟩ | ⟨g', _, h', hg', _⟩
                · cases h'
                · injection h' with h'
                  subst h'
                  have := hAlt g' rfl
                  simp; omega)
            have hbw3 := (hbw2.alloc hbw2.size (.cells #[.int .u8 (48 + (rest : Int))] 5)).grown hg3 (by simp; omega) (fun k hk => by
              cases A with
              | none => cases hk
              | some ad =>
                rcases ob2.form with ⟨h', _⟩ | ⟨g', _, h', hg', _⟩
                · cases h'
                · injection h' with h'
                  subst h'
                  simp at hk
                  omega)
            go_wp2
            go_roundg (X / 10)
            case measure => omega
            case rel =>
              have hD2 := hD.step hX
              rw [← E2.out] at hD2
              exact ⟨_, m, na, _, A3, nb + 1, c3, _, d ++ [rest], rfl, rfl, oq3.sl, ta, o3, by rw [HLB.out]; simp, hD2, Nat.lt_of_le_of_lt (Nat.div_le_self _ _) HXn.out, by omega, hbw3⟩
      · obtain rfl : X = 0 := by omega
        obtain rfl : na = 0 := by have := (Na.zero_iff (by omega)).2 rfl; rwa [sa.len] at this
        have hn10 := hD.done.dec
        have hpb : 0 < nb := by
          have h1 := ob.len
          have h2 := hD.done.zero_iff (by omega)
          have h3 := hV0.out
          rw [HLB.out, List.length_map] at h1
          omega
        have hA0 : ∃ g, A = some ⟨g, 0, none⟩ ∧ w.heap.size ≤ g := by
          rcases ob.form with ⟨_, e, _⟩ | ⟨g, _, e, hg, _⟩
          · omega
          · exact ⟨g, e, hg⟩
        obtain ⟨g, rfl, hgw⟩ := hA0
        obtain ⟨wo, rfl⟩ : ∃ wo : World, wo = wr := ⟨_, rfl⟩
        have hl := ob.len
        go_wp2
        go_loopw [7, 8] (fun iv kv wq => ∃ (i : Nat) (lo : List Nat), i + i ≤ nb ∧ iv = .int .i64 i ∧ kv = .int .i64 ((nb : Int) - 1 - i) ∧ Own wq w.heap.size 5 .u8 (some ⟨g, 0, none⟩) nb cb lo ∧ RevS lb lo i ∧ Below w.heap.size w wq)
          (fun iv _ _ => nb - (intOf iv).toNat)
        case atStart => exact ⟨0, lb, by omega, rfl, by go_num, ob, RevS.start lb, hbw⟩
        case round =>
          clear ob hbw
          obtain ⟨i, lo, hii, rfl, rfl, ho, hR, hbq⟩ := hrel
          by_cases hik : (i : Int) < (nb : Int) - 1 - i
          · obtain ⟨k, hk⟩ : ∃ k : Nat, (nb : Int) - 1 - i = (k : Int) := ⟨nb - 1 - i, by omega⟩
            rw [hk] at hik ⊢
            obtain ⟨x, hx, _, hcx⟩ := ho.cell (i := i) (by omega)
            obtain ⟨y, hy, _, hcy⟩ := ho.cell (i := k) (by omega)
            have hfx := ho.frozen i
            have hfy := ho.frozen k
            have HX := hide hx
            have HY := hide hy
            have hi1 : (i : Int) < (nb : Int) := by omega
            have hk1 : (k : Int) < (nb : Int) := by omega
            clear hx hy
            go_wp2
            go_region
            go_wp2
            go_roundw
            case rel =>
              have hR2 := hR.step (k := k) (by rw [hl]; omega) (by omega) HX.out HY.out
              exact ⟨i + 1, _, by omega, by go_num, congrArg (Value.int .i64) (by omega), ((ho.store i y rfl).store k x rfl).drew, hR2, ((hbq.setCell (p := ⟨g, i, none⟩) hgw _).setCell (p := ⟨g, k, none⟩) hgw _).drew⟩
            case measure => simp [intOf] <;> omega
          · have hcv := run_bytes_str (P := Try.prog) ho.sl (src := 119) (dst := 9) (e := 5) Try.underlying119 Try.underlying5 Try.underlying9
            go_wp2
            go_ret
            have hlo : lo = textN V := by
              rw [hR.done (by omega), HLB.out, hn10, textN, if_neg hV0.out, List.map_reverse]
            exact ⟨by rw [← hlo]; rfl, hbq⟩

set_option maxHeartbeats 400000 in
theorem rtext_c (A : Option Addr) (n c : Nat) (l : List Nat) (w : World) (h : Sl w w.heap.size .u32 A n c l) (hd : Digs 4294967296 l) :
    Calls Try.prog 65 #[.slice A n c] w fun e w' => e = .returned (.tuple #[.string (if n ≤ 64 then strN (textN (val 4294967296 l)) else ⟨#[]⟩), .int .i64 (if n ≤ 64 then 0 else 4)]) ∧ Below w.heap.size w w' := by
  have h1 := rcheck1_c A n c w h.n63
  by_cases hk : n ≤ 64
  · rw [if_pos hk] at h1 ⊢
    rw [if_pos hk]
    go_enter Try.func65, Try.ntmps65
    go_wp2_with fail
    refine h1.mono ?_
    rintro e w' ⟨rfl, rfl⟩
    clear h1
    go_wp2_with fail
    refine (rdigits_c _ _ _ _ w _ h (Nat.le_refl _) hd (by omega)).mono ?_
    rintro e w1 ⟨A1, n1, c1, l1, rfl, s1, N1, hb, _⟩
    have hl := N1.l256 (h.fits hd hk) s1.len
    go_wp2_with fail
    refine (rtext1_c _ _ _ _ _ w1 s1 N1 (by omega)).mono ?_
    rintro e w2 ⟨rfl, hb2⟩
    go_wp2
    go_ret2
    exact ⟨rfl, hb.trans (hb2.mono hb.size)⟩
  · rw [if_neg hk] at h1 ⊢
    rw [if_neg hk]
    go_enter Try.func65, Try.ntmps65
    go_wp2_with fail
    refine h1.mono ?_
    rintro e w' ⟨rfl, rfl⟩
    clear h1
    go_wp2
    go_ret2
    exact ⟨rfl, Below.refl _ _⟩
end Go.Proofs.Ytgilhkdmgbeieaa
