/- The plain model of Detect; a store of two cells. Contract of optics.Detect. The plain model of Run; contract of optics.Run. -/
import Derived.Test.YtchhkokpjdkkiaaTopSiftsa06
import Derived.Test.YtchhkokpjdkkiaaTopSiftsa07
import Derived.Test.YtchhkokpjdkkiaaTopSiftsa11
namespace Go.Proofs.Ytchhkokpjdkkiaa
open Go.RowKit

def okLi (x : Li) : Bool := decide (0 ≤ x.b ∧ x.b ≤ 1 ∧ 0 ≤ x.ph ∧ x.ph ≤ 3)
def liZ : Li := ⟨0, 0, false, false⟩
/-- What light is in slot i behind a shift. -/
def ltAt (L : List Li) (sh : Int) (i : Nat) : Li := if 0 ≤ (i : Int) - sh then (L[((i : Int) - sh).toNat]?).getD liZ else liZ
def dets (eta dark sh : Int) (L : List Li) (s : Nat) : Nat → List Ck × Nat
  | 0 => ([], s)
  | k + 1 => ((dets eta dark sh L s k).1 ++ [(detF eta dark (ltAt L sh k) (dets eta dark sh L s k).2).1], (detF eta dark (ltAt L sh k) (dets eta dark sh L s k).2).2)
theorem dets_len (eta dark sh : Int) (L : List Li) (s k : Nat) : (dets eta dark sh L s k).1.length = k := by
  induction k with
  | zero => rfl
  | succ k ih => simp [dets, ih]
def detErr (f : Nat → Int) (sh : Int) (L : List Li) : Int :=
  if checkErr f ≠ 0 then checkErr f else if ¬ (-16 ≤ sh ∧ sh ≤ 16) then 3 else if 4096 < L.length then 5 else if L.all okLi then 0 else 2
def detL (f : Nat → Int) (sh : Int) (L : List Li) (s : Nat) : List Ck := if detErr f sh L = 0 then (dets (f 16) (f 17) sh L s L.length).1 else []
def SDet (f : Nat → Int) (sh : Int) (L : List Li) (s : Nat) (w : World) (e : Ending) (w' : World) : Prop :=
  ∃ A n c, e = .returned (.tuple #[.slice A n c, .int .i64 (detErr f sh L)]) ∧ Rd eCk w' w'.heap.size A n c (detL f sh L s) ∧ Below w.heap.size w w'
theorem SDet.err {f : Nat → Int} {sh : Int} {L : List Li} {s : Nat} {w w' : World} {x : Int} (h : detErr f sh L = x) (hx : x ≠ 0) (hb : Below w.heap.size w w') :
    SDet f sh L s w (.returned (.tuple #[.slice none 0 0, .int .i64 x])) w' := by
  refine ⟨none, 0, 0, by rw [h], ?_, hb⟩
  unfold detL; rw [if_neg (by omega)]; exact Rd.nil _ _ _ _ (by omega)
theorem SDet.ok {f : Nat → Int} {sh : Int} {L : List Li} {s : Nat} {w w' : World} {A : Option Addr} {n c : Nat} {K : List Ck} (h : detErr f sh L = 0) (hb : Below w.heap.size w w') (hK : K = (dets (f 16) (f 17) sh L s L.length).1) (hr : Rd eCk w' w'.heap.size A n c K) :
    SDet f sh L s w (.returned (.tuple #[.slice A n c, .int .i64 0])) w' := by
  refine ⟨A, n, c, by rw [h], ?_, hb⟩
  unfold detL; rw [if_pos h, ← hK]; exact hr
theorem checkErr_two {f : Nat → Int} (h : checkErr f ≠ 0) : checkErr f = 2 := by
  unfold checkErr at *; split at h
  · exact absurd rfl h
  · rename_i hn; rw [if_neg hn]
theorem detErr_check {f : Nat → Int} {sh : Int} {L : List Li} (h : checkErr f = 2) : detErr f sh L = 2 := by unfold detErr; rw [h]; rfl
theorem detErr_shift {f : Nat → Int} {sh : Int} {L : List Li} (h : checkErr f = 0) (hs : ¬ (-16 ≤ sh ∧ sh ≤ 16)) : detErr f sh L = 3 := by unfold detErr; rw [if_neg (by omega), if_pos hs]
theorem detErr_long {f : Nat → Int} {sh : Int} {L : List Li} (h : checkErr f = 0) (hs : -16 ≤ sh ∧ sh ≤ 16) (hl : 4096 < L.length) : detErr f sh L = 5 := by unfold detErr; rw [if_neg (by omega), if_neg (by omega), if_pos hl]
theorem detErr_all {f : Nat → Int} {sh : Int} {L : List Li} (h : checkErr f = 0) (hs : -16 ≤ sh ∧ sh ≤ 16) (hl : ¬ 4096 < L.length) : detErr f sh L = if L.all okLi then 0 else 2 := by unfold detErr; rw [if_neg (by omega), if_neg (by omega), if_neg hl]
theorem okLi_iff (x : Li) : okLi x = true ↔ (0 ≤ x.b ∧ x.b ≤ 1 ∧ 0 ≤ x.ph ∧ x.ph ≤ 3) := by unfold okLi; simp
theorem ltAt_in {L : List Li} {sh : Int} {i j : Nat} {x : Li} (hj : (i : Int) - sh = j) (hx : L[j]? = some x) : ltAt L sh i = x := by
  unfold ltAt; rw [if_pos (by omega), hj, Int.toNat_natCast, hx]; rfl
theorem ltAt_neg {L : List Li} {sh : Int} {i : Nat} (h : (i : Int) - sh < 0) : ltAt L sh i = liZ := by unfold ltAt; rw [if_neg (by omega)]
theorem ltAt_over {L : List Li} {sh : Int} {i : Nat} (h : (L.length : Int) ≤ (i : Int) - sh) : ltAt L sh i = liZ := by
  unfold ltAt; split
  · rw [List.getElem?_eq_none (by omega)]; rfl
  · rfl
theorem info_ck : (Try.prog.info? 81).map (fun i => (i.zero, i.size, i.bytes)) = some (some (.agg #[.int .i64 0, .int .i64 0]), 2, 16) := by kernel_rfl

theorem set2 {α : Type} (a b : α) : ∀ (l : List α) (j : Nat), j + 1 < l.length → (l.set j a).set (j + 1) b = l.take j ++ [a, b] ++ l.drop (j + 2)
  | [], j, h => by simp at h
  | [_], j, h => by simp at h
  | x :: y :: l, 0, h => by simp
  | x :: y :: l, j + 1, h => by
    have ih := set2 a b (y :: l) j (by simpa using h)
    simpa using ih
theorem Ow.store2 {α : Type} {e : Enc α} {w : World} {base g n c : Nat} {E : TypeId} {L : List α} (h : Ow e w base E (some ⟨g, 0, none⟩) n c L) {i : Nat} (hi : i < n) (y : α) {v1 v2 : Value} (hv : e.cells y = [v1, v2]) {p q : Addr} (hp : p = ⟨g, i * 2, none⟩) (hq : q = ⟨g, i * 2 + 1, none⟩) :
    Ow e ((w.setCell p v1).setCell q v2) base E (some ⟨g, 0, none⟩) n c (L.set i y) := by
  subst hp
  subst hq
  have hnf : e.nf = 2 := by rw [← e.len y, hv]; rfl
  rcases h.form with ⟨h0, _⟩ | ⟨g', cur, ea, hb, hlt, hh, h1, h2, h3, h4⟩
  · cases h0
  injection ea with ea; injection ea with ea; subst ea
  refine h.put hi y ⟨cur, hh, ?_⟩
  have hin : i * 2 + 1 < cur.size := by rw [h3, hnf]; omega
  rw [heap_setCell_same _ g (i * 2 + 1) _ E v2 (heap_setCell_same w g (i * 2) cur E v1 hh), hv, hnf, ← set2 _ _ _ _ (by simpa using hin)]
  congr 2
  apply Array.toList_inj.1
  simp
theorem set_repl {K : List Ck} {k n : Nat} {z y : Ck} (hk : K.length = k) (hn : k < n) : (K ++ List.replicate (n - k) z).set k y = (K ++ [y]) ++ List.replicate (n - (k + 1)) z := by
  rw [List.set_append_right _ _ (by omega), hk, Nat.sub_self, show n - k = (n - (k + 1)) + 1 by omega, List.replicate_succ]
  simp
end Go.Proofs.Ytchhkokpjdkkiaa

namespace Go.Proofs.Ytchhkokpjdkkiaa
open Go.RowKit

theorem click_at {f : Nat → Int} {x : Li} {D t t2 : Nat} {w : World} {y : Ck} (h : Dr w D t) (hp : 0 ≤ x.ph ∧ x.ph ≤ 3) (hdf : detF (f 16) (f 17) x t = (y, t2)) :
    Calls Try.prog 70 #[.agg (cells18 f), .agg #[.int .i64 x.ph, .int .i64 x.b, .bool x.bit, .bool x.bright], .pointer (some ⟨D, 0, none⟩)] w fun e w' => e = .returned (.agg #[.int .i64 y.b, .int .i64 y.k]) ∧ Dr w' D t2 ∧ w.grownBy w' (some D) :=
  (click_c f x D t w h hp).mono fun e w' h => by unfold SClick at h; rw [hdf] at h; exact h

set_option maxRecDepth 100000 in
set_option maxHeartbeats 6400000 in
theorem detect_c (f : Nat → Int) (A : Option Addr) (n c : Nat) (L : List Li) (sh : Int) (s : Nat) (w : World) (r : Rd eLi w w.heap.size A n c L) :
    Calls Try.prog 39 #[.agg (cells18 f), .slice A n c, .int .i64 sh, .int .u64 (s : Int)] w (SDet f sh L s w) := by
  have hl := r.len
  have hm := r.max
  have hcap := r.cap
  have HL := hide hl
  clear hl
  go_enter Try.func39, Try.ntmps39
  go_upto_region 1 with fail
  have hO := Blk.newAt w 57 (cells18 f) w.heap.size rfl
  have hb := below_alloc w (.cells (cells18 f) 57)
  have r1 := r.alloc (.cells (cells18 f) 57)
  obtain ⟨W, hW⟩ : ∃ W, W = w.alloc (.cells (cells18 f) 57) := ⟨_, rfl⟩
  rw [← hW] at hO hb r1 ⊢
  clear hW r
  have hlt0 := hO.lt
  have hck := check_c f W
  by_cases h0 : checkErr f = 0
  · rw [h0] at hck
    have HCK := hide hck
    have H0 := hide h0
    clear hck h0
    by_cases hs : -16 ≤ sh ∧ sh ≤ 16
    · have HS := hide hs
      obtain ⟨s1, s2⟩ := hs
      by_cases hbig : 4096 < (n : Int)
      · go_wp2_with (first | (refine wl_load (o := ⟨some 18, _, _, _, _, _⟩) rfl 57 _ rfl w.heap.size rfl 57 (cells18 f) _ hO Try.underlying57 rfl (by kernel_rfl) ?_) | (go_at_call 34; refine HCK.out.mono ?_; rintro e w1 ⟨rfl, hb1⟩))
        go_ret2
        exact SDet.err (detErr_long H0.out HS.out (by have := HL.out; omega)) (by omega) (below_on hb hb1)
      · have HE := hide (detErr_all H0.out HS.out (show ¬ 4096 < L.length by have := HL.out; omega))
        have hn2 : n ≤ 4096 := by omega
        go_wp2_with (first | (refine wl_load (o := ⟨some 18, _, _, _, _, _⟩) rfl 57 _ rfl w.heap.size rfl 57 (cells18 f) _ hO Try.underlying57 rfl (by kernel_rfl) ?_) | (go_at_call 34; refine HCK.out.mono ?_; rintro e w1 ⟨rfl, hb1⟩))
        have r2 := r1.on hb1
        have hO2 := hO.keep hb1
        have hb2 := below_on hb hb1
        have hlt1 := hO2.lt
        clear r1 hO hb hb1 hlt0 HCK
        go_loopw [34] (fun iv wr => ∃ k : Nat, k ≤ n ∧ iv = .int .i64 k ∧ (L.take k).all okLi = true ∧ Below w1.heap.size w1 wr) (fun iv _ => n - (intOf iv).toNat)
        case atStart => exact ⟨0, by omega, rfl, by simp, Below.refl _ _⟩
        case round =>
          obtain ⟨k, hk, rfl, hall, hbw⟩ := hrel
          have HA := hide hall
          clear hall
          by_cases hlt : k < n
          · obtain ⟨b, off, x, rfl, hb', hx, hc⟩ := (r2.below hbw).get hlt
            have c0 := hc 0 _ rfl
            have c1 := hc 1 _ rfl
            have c2 := hc 2 _ rfl
            have c3 := hc 3 _ rfl
            simp only [eLi, Nat.add_zero] at c0 c1 c2 c3
            have HX := hide hx
            clear hc hx
            obtain ⟨xp, xb, xbit, xbr⟩ := x
            simp only at c0 c1 c2 c3
            by_cases hgood : 0 ≤ xb ∧ xb ≤ 1 ∧ 0 ≤ xp ∧ xp ≤ 3
            · have HG := hide ((okLi_iff ⟨xp, xb, xbit, xbr⟩).2 hgood)
              obtain ⟨g1, g2, g3, g4⟩ := hgood
              go_wp2
              go_roundw
              case rel => exact ⟨k + 1, by omega, by go_num, all_take_succ HA.out HX.out HG.out, hbw.alloc hbw.size _⟩
              case measure => simp [intOf] <;> omega
            · have HI := hide hgood
              have HB := hide (show okLi ⟨xp, xb, xbit, xbr⟩ = false by cases h : okLi ⟨xp, xb, xbit, xbr⟩; rfl; exact absurd ((okLi_iff _).1 h) hgood)
              clear hgood
              have HS2 := hide (show detErr f sh L = 2 by rw [HE.out, all_false HX.out HB.out]; rfl)
              go_wp2
              all_goals first
                | (exfalso; have := HI.out; omega)
                | (go_ret2
                   exact SDet.err HS2.out (by omega) (below_on hb2 (hbw.alloc hbw.size _)))
          · have hall := all_whole HA.out HL.out hlt
            have HALL := hide hall
            have HZ := hide (show detErr f sh L = 0 by rw [HE.out, hall]; rfl)
            clear hall HE HA
            have r3 := r2.below hbw
            have hO3 := hO2.keep hbw
            have hb3 := below_on hb2 hbw
            have hsz3 := hbw.size
            go_wp2_with (first | (go_at_call 67; refine (new_c s _).mono ?_; rintro e w2 ⟨rfl, hD, hw2⟩) | (at_make; refine wl_mk eCk _ rfl _ _ _ rfl 81 (.agg #[.int .i64 0, .int .i64 0]) 16 ⟨0, 0⟩ Try.underlying63 info_ck rfl (by omega) _ _ n (by rfl) (by rfl) rfl rfl (by omega) ?_; intro w3 o3 hg3 hlt3))
            rw [← hw2] at o3 hg3 hlt3
            have hsz2 : w2.heap.size = wr.heap.size + 1 := by rw [hw2]; simp
            have hb4 : Below w1.heap.size w1 w2 := by rw [hw2]; exact hbw.alloc hbw.size _
            have hb5 : Below w1.heap.size w1 w3 := hb4.trans ((⟨hg3.os, hg3.tape, hg3.output, hg3.size, fun i hi => hg3.block i hi (by simp)⟩ : Below w2.heap.size w2 w3).mono hb4.size)
            have hD5 : Dr w3 wr.heap.size s := Blk.grown hD hg3 (by simp)
            clear hw2 hD hb4 hg3 r3 hO3 hb3 hbw
            rw [hsz2] at o3
            obtain ⟨G, hGe⟩ : ∃ d, d = wr.heap.size + 1 := ⟨_, rfl⟩
            rw [← hGe] at o3 ⊢
            obtain ⟨D, hDe⟩ : ∃ d, d = wr.heap.size := ⟨_, rfl⟩
            rw [← hDe] at hD5 hsz3 hGe ⊢
            have hDG : D ≠ G := by omega
            have hGD : G ≠ D := by omega
            have hD0 : w1.heap.size ≤ D := hsz3
            have hG0 : w1.heap.size ≤ G := by omega
            have hw01 := hb2.size
            clear hDe hGe hlt3 hsz2 hsz3
            go_loopw [64] (fun iv wq => ∃ i : Nat, i ≤ n ∧ iv = .int .i64 i ∧ Dr wq D (dets (f 16) (f 17) sh L s i).2 ∧ Ow eCk wq G 81 (some ⟨G, 0, none⟩) n n ((dets (f 16) (f 17) sh L s i).1 ++ List.replicate (n - i) ⟨0, 0⟩) ∧ Below w1.heap.size w1 wq) (fun iv _ => n - (intOf iv).toNat)
            case atStart => exact ⟨0, by omega, rfl, hD5, o3, hb5⟩
            case round =>
              clear hD5 o3 hb5 hlt hk
              obtain ⟨i, hi, rfl, hD, hOw, hbq⟩ := hrel
              have hlen := dets_len (f 16) (f 17) sh L s i
              by_cases hlt : i < n
              · obtain ⟨K, t, hKt⟩ : ∃ K t, dets (f 16) (f 17) sh L s i = (K, t) := ⟨_, _, rfl⟩
                rw [hKt] at hD hOw hlen
                have HKT := hide hKt
                have HLEN := hide hlen
                clear hKt hlen
                have hO3 := hO2.keep hbq
                by_cases hneg : (i : Int) - sh < 0
                · have HLT := hide (ltAt_neg (L := L) hneg)
                  go_upto_region 23 with fail
                  have hL := Blk.newAt wr 165 #[.int .i64 0, .int .i64 0, .bool false, .bool false] wr.heap.size rfl
                  have hOq := hO3.alloc (.cells #[.int .i64 0, .int .i64 0, .bool false, .bool false] 165)
                  have hDq := Dr.alloc hD (.cells #[.int .i64 0, .int .i64 0, .bool false, .bool false] 165)
                  have hOwq := hOw.alloc (.cells #[.int .i64 0, .int .i64 0, .bool false, .bool false] 165)
                  have hbs := hbq.alloc hbq.size (.cells #[.int .i64 0, .int .i64 0, .bool false, .bool false] 165)
                  obtain ⟨wq, hwq⟩ : ∃ q, q = wr.alloc (.cells #[.int .i64 0, .int .i64 0, .bool false, .bool false] 165) := ⟨_, rfl⟩
                  rw [← hwq] at hL hOq hDq hOwq hbs ⊢
                  clear hwq hO3 hD hOw hbq
                  have l0 := hL.cell 0
                  have l1 := hL.cell 1
                  have l2 := hL.cell 2
                  have l3 := hL.cell 3
                  simp only [List.getElem?_toArray, List.getElem?_cons_zero, List.getElem?_cons_succ] at l0 l1 l2 l3
                  obtain ⟨⟨yb, yk⟩, t2, hdf⟩ : ∃ y t2, detF (f 16) (f 17) ⟨0, 0, false, false⟩ t = (y, t2) := ⟨_, _, rfl⟩
                  have HDET := hide (show dets (f 16) (f 17) sh L s (i + 1) = (K ++ [⟨yb, yk⟩], t2) by rw [dets, HKT.out, HLT.out]; exact congrArg (fun q : Ck × Nat => (K ++ [q.1], q.2)) hdf)
                  have HCL := hide (click_at hDq (by first | (simp; done) | exact ⟨HOK.out.2.2.1, HOK.out.2.2.2⟩) hdf)
                  clear hdf
                  go_wp2_with (first | (refine wl_load (o := ⟨some 84, _, _, _, _, _⟩) rfl 57 _ rfl w.heap.size rfl 57 (cells18 f) _ hOq Try.underlying57 rfl (by kernel_rfl) ?_) | (go_at_call 70; refine HCL.out.mono ?_; rintro e w4 ⟨rfl, hD4, hg4⟩; refine Hid.out ?_))
                  have o4 := hOwq.grown hg4 (by rintro g' hg'; injection hg' with hg'; injection hg' with hg'; simp; omega)
                  obtain ⟨g', y, eg, _, hgl, _, hcv⟩ := o4.get hlt
                  injection eg with eg
                  injection eg with eg
                  subst eg
                  have k0 := hcv 0 _ rfl
                  have k1 := hcv 1 _ rfl
                  have kf0 := o4.frozen (i * 2)
                  have kf1 := o4.frozen (i * 2 + 1)
                  simp only [eCk, Nat.add_zero] at k0 k1
                  have hb6 := below_grown hbs hg4 hD0 (Nat.le_refl _)
                  clear hcv hL hOq hDq hOwq hbs l0 l1 l2 l3 HCL hg4
                  refine hide ?_
                  go_wp2
                  go_roundw
                  case rel => exact ⟨i + 1, by omega, by go_num, by rw [HDET.out]; exact Dr.far (Dr.far hD4 hDG _) hDG _, by rw [HDET.out]; exact set_repl HLEN.out hlt ▸ o4.store2 hlt ⟨yb, yk⟩ rfl rfl rfl, (hb6.setCell hG0 _).setCell hG0 _⟩
                  case measure => simp [intOf] <;> omega
                · by_cases hover : (n : Int) ≤ (i : Int) - sh
                  · have HLT := hide (ltAt_over (L := L) (sh := sh) (i := i) (by have := HL.out; omega))
                    go_upto_region 23 with fail
                    have hL := Blk.newAt wr 165 #[.int .i64 0, .int .i64 0, .bool false, .bool false] wr.heap.size rfl
                    have hOq := hO3.alloc (.cells #[.int .i64 0, .int .i64 0, .bool false, .bool false] 165)
                    have hDq := Dr.alloc hD (.cells #[.int .i64 0, .int .i64 0, .bool false, .bool false] 165)
                    have hOwq := hOw.alloc (.cells #[.int .i64 0, .int .i64 0, .bool false, .bool false] 165)
                    have hbs := hbq.alloc hbq.size (.cells #[.int .i64 0, .int .i64 0, .bool false, .bool false] 165)
                    obtain ⟨wq, hwq⟩ : ∃ q, q = wr.alloc (.cells #[.int .i64 0, .int .i64 0, .bool false, .bool false] 165) := ⟨_, rfl⟩
                    rw [← hwq] at hL hOq hDq hOwq hbs ⊢
                    clear hwq hO3 hD hOw hbq
                    have l0 := hL.cell 0
                    have l1 := hL.cell 1
                    have l2 := hL.cell 2
                    have l3 := hL.cell 3
                    simp only [List.getElem?_toArray, List.getElem?_cons_zero, List.getElem?_cons_succ] at l0 l1 l2 l3
                    obtain ⟨⟨yb, yk⟩, t2, hdf⟩ : ∃ y t2, detF (f 16) (f 17) ⟨0, 0, false, false⟩ t = (y, t2) := ⟨_, _, rfl⟩
                    have HDET := hide (show dets (f 16) (f 17) sh L s (i + 1) = (K ++ [⟨yb, yk⟩], t2) by rw [dets, HKT.out, HLT.out]; exact congrArg (fun q : Ck × Nat => (K ++ [q.1], q.2)) hdf)
                    have HCL := hide (click_at hDq (by first | (simp; done) | exact ⟨HOK.out.2.2.1, HOK.out.2.2.2⟩) hdf)
                    clear hdf
                    go_wp2_with (first | (refine wl_load (o := ⟨some 84, _, _, _, _, _⟩) rfl 57 _ rfl w.heap.size rfl 57 (cells18 f) _ hOq Try.underlying57 rfl (by kernel_rfl) ?_) | (go_at_call 70; refine HCL.out.mono ?_; rintro e w4 ⟨rfl, hD4, hg4⟩; refine Hid.out ?_))
                    have o4 := hOwq.grown hg4 (by rintro g' hg'; injection hg' with hg'; injection hg' with hg'; simp; omega)
                    obtain ⟨g', y, eg, _, hgl, _, hcv⟩ := o4.get hlt
                    injection eg with eg
                    injection eg with eg
                    subst eg
                    have k0 := hcv 0 _ rfl
                    have k1 := hcv 1 _ rfl
                    have kf0 := o4.frozen (i * 2)
                    have kf1 := o4.frozen (i * 2 + 1)
                    simp only [eCk, Nat.add_zero] at k0 k1
                    have hb6 := below_grown hbs hg4 hD0 (Nat.le_refl _)
                    clear hcv hL hOq hDq hOwq hbs l0 l1 l2 l3 HCL hg4
                    refine hide ?_
                    go_wp2
                    go_roundw
                    case rel => exact ⟨i + 1, by omega, by go_num, by rw [HDET.out]; exact Dr.far (Dr.far hD4 hDG _) hDG _, by rw [HDET.out]; exact set_repl HLEN.out hlt ▸ o4.store2 hlt ⟨yb, yk⟩ rfl rfl rfl, (hb6.setCell hG0 _).setCell hG0 _⟩
                    case measure => simp [intOf] <;> omega
                  · obtain ⟨j, hj⟩ : ∃ j : Nat, (i : Int) - sh = (j : Int) := ⟨((i : Int) - sh).toNat, by omega⟩
                    have hjn : j < n := by omega
                    obtain ⟨b, off, x, rfl, hb', hx, hc⟩ := (r2.below (hbq.alloc hbq.size (.cells #[.int .i64 0, .int .i64 0, .bool false, .bool false] 165))).get hjn
                    have HLT := hide (ltAt_in hj hx)
                    have HOK := hide ((okLi_iff x).1 (List.all_eq_true.1 HALL.out x (List.mem_of_getElem? hx)))
                    have c0 := hc 0 _ rfl
                    have c1 := hc 1 _ rfl
                    have c2 := hc 2 _ rfl
                    have c3 := hc 3 _ rfl
                    simp only [eLi, Nat.add_zero] at c0 c1 c2 c3
                    clear hc hx
                    obtain ⟨xp, xb, xbit, xbr⟩ := x
                    simp only at c0 c1 c2 c3
                    go_upto_region 23 with fail
                    have hL := Blk.newAt wr 165 #[.int .i64 xp, .int .i64 xb, .bool xbit, .bool xbr] wr.heap.size rfl
                    have hOq := hO3.alloc (.cells #[.int .i64 xp, .int .i64 xb, .bool xbit, .bool xbr] 165)
                    have hDq := Dr.alloc hD (.cells #[.int .i64 xp, .int .i64 xb, .bool xbit, .bool xbr] 165)
                    have hOwq := hOw.alloc (.cells #[.int .i64 xp, .int .i64 xb, .bool xbit, .bool xbr] 165)
                    have hbs := hbq.alloc hbq.size (.cells #[.int .i64 xp, .int .i64 xb, .bool xbit, .bool xbr] 165)
                    obtain ⟨wq, hwq⟩ : ∃ q, q = wr.alloc (.cells #[.int .i64 xp, .int .i64 xb, .bool xbit, .bool xbr] 165) := ⟨_, rfl⟩
                    rw [← hwq] at hL hOq hDq hOwq hbs ⊢
                    clear hwq hO3 hD hOw hbq
                    have l0 := hL.cell 0
                    have l1 := hL.cell 1
                    have l2 := hL.cell 2
                    have l3 := hL.cell 3
                    simp only [List.getElem?_toArray, List.getElem?_cons_zero, List.getElem?_cons_succ] at l0 l1 l2 l3
                    obtain ⟨⟨yb, yk⟩, t2, hdf⟩ : ∃ y t2, detF (f 16) (f 17) ⟨xp, xb, xbit, xbr⟩ t = (y, t2) := ⟨_, _, rfl⟩
                    have HDET := hide (show dets (f 16) (f 17) sh L s (i + 1) = (K ++ [⟨yb, yk⟩], t2) by rw [dets, HKT.out, HLT.out]; exact congrArg (fun q : Ck × Nat => (K ++ [q.1], q.2)) hdf)
                    have HCL := hide (click_at hDq (by first | (simp; done) | exact ⟨HOK.out.2.2.1, HOK.out.2.2.2⟩) hdf)
                    clear hdf
                    go_wp2_with (first | (refine wl_load (o := ⟨some 84, _, _, _, _, _⟩) rfl 57 _ rfl w.heap.size rfl 57 (cells18 f) _ hOq Try.underlying57 rfl (by kernel_rfl) ?_) | (go_at_call 70; refine HCL.out.mono ?_; rintro e w4 ⟨rfl, hD4, hg4⟩; refine Hid.out ?_))
                    have o4 := hOwq.grown hg4 (by rintro g' hg'; injection hg' with hg'; injection hg' with hg'; simp; omega)
                    obtain ⟨g', y, eg, _, hgl, _, hcv⟩ := o4.get hlt
                    injection eg with eg
                    injection eg with eg
                    subst eg
                    have k0 := hcv 0 _ rfl
                    have k1 := hcv 1 _ rfl
                    have kf0 := o4.frozen (i * 2)
                    have kf1 := o4.frozen (i * 2 + 1)
                    simp only [eCk, Nat.add_zero] at k0 k1
                    have hb6 := below_grown hbs hg4 hD0 (Nat.le_refl _)
                    clear hcv hL hOq hDq hOwq hbs l0 l1 l2 l3 HCL hg4
                    refine hide ?_
                    go_wp2
                    go_roundw
                    case rel => exact ⟨i + 1, by omega, by go_num, by rw [HDET.out]; exact Dr.far (Dr.far hD4 hDG _) hDG _, by rw [HDET.out]; exact set_repl HLEN.out hlt ▸ o4.store2 hlt ⟨yb, yk⟩ rfl rfl rfl, (hb6.setCell hG0 _).setCell hG0 _⟩
                    case measure => simp [intOf] <;> omega
              · obtain rfl : n = i := by omega
                go_wp2
                go_ret2
                exact SDet.ok HZ.out (below_on hb2 hbq) (by rw [HL.out]; simp) hOw.rd
    · have HS := hide hs
      by_cases hs1 : sh < -16
      · clear hs
        go_wp2_with (first | (refine wl_load (o := ⟨some 18, _, _, _, _, _⟩) rfl 57 _ rfl w.heap.size rfl 57 (cells18 f) _ hO Try.underlying57 rfl (by kernel_rfl) ?_) | (go_at_call 34; refine HCK.out.mono ?_; rintro e w1 ⟨rfl, hb1⟩))
        go_ret2
        exact SDet.err (detErr_shift H0.out HS.out) (by omega) (below_on hb hb1)
      · have hs2 : 16 < sh := by omega
        clear hs
        go_wp2_with (first | (refine wl_load (o := ⟨some 18, _, _, _, _, _⟩) rfl 57 _ rfl w.heap.size rfl 57 (cells18 f) _ hO Try.underlying57 rfl (by kernel_rfl) ?_) | (go_at_call 34; refine HCK.out.mono ?_; rintro e w1 ⟨rfl, hb1⟩))
        go_ret2
        exact SDet.err (detErr_shift H0.out HS.out) (by omega) (below_on hb hb1)
  · have h2 := checkErr_two h0
    rw [h2] at hck
    have HCK := hide hck
    have H2 := hide h2
    clear hck h0 h2
    go_wp2_with (first | (refine wl_load (o := ⟨some 18, _, _, _, _, _⟩) rfl 57 _ rfl w.heap.size rfl 57 (cells18 f) _ hO Try.underlying57 rfl (by kernel_rfl) ?_) | (go_at_call 34; refine HCK.out.mono ?_; rintro e w1 ⟨rfl, hb1⟩))
    go_ret2
    exact SDet.err (detErr_check H2.out) (by omega) (below_on hb hb1)
end Go.Proofs.Ytchhkokpjdkkiaa

namespace Go.Proofs.Ytchhkokpjdkkiaa
open Go.RowKit

def runErr (f : Nat → Int) (L : List Ru) (n : Int) : Int := if checkErr f ≠ 0 then checkErr f else if rulesErr L ≠ 0 then rulesErr L else emitErr f n
def runP (f : Nat → Int) (L : List Ru) (n : Int) (a : Nat) : List Pu := if runErr f L n = 0 then emitL f n a else []
def runN (f : Nat → Int) (L : List Ru) (n : Int) (a b : Nat) : List No := if runErr f L n = 0 then carryN L (emitL f n a) b else []
def runC (f : Nat → Int) (L : List Ru) (n : Int) (a b c : Nat) : List Ck := if runErr f L n = 0 then detL f (shiftErr L) (carryX L (emitL f n a) b) c else []
def runSh (f : Nat → Int) (L : List Ru) (n : Int) : Int := if runErr f L n = 0 then shiftErr L else 0
/-- A flight: its pulses, clicks, notes and shift. -/
def SRun (f : Nat → Int) (L : List Ru) (n : Int) (a b c : Nat) (w : World) (e : Ending) (w' : World) : Prop :=
  ∃ A1 n1 c1 A2 n2 c2 A3 n3 c3, e = .returned (.tuple #[.agg #[.slice A1 n1 c1, .slice A2 n2 c2, .slice A3 n3 c3, .int .i64 (runSh f L n)], .int .i64 (runErr f L n)]) ∧
    Rd ePu w' w'.heap.size A1 n1 c1 (runP f L n a) ∧ Rd eCk w' w'.heap.size A2 n2 c2 (runC f L n a b c) ∧ Rd eNo w' w'.heap.size A3 n3 c3 (runN f L n a b) ∧ Below w.heap.size w w'
theorem SRun.err {f : Nat → Int} {L : List Ru} {n : Int} {a b c : Nat} {w w' : World} {x : Int} (h : runErr f L n = x) (hx : x ≠ 0) (hb : Below w.heap.size w w') :
    SRun f L n a b c w (.returned (.tuple #[.agg #[.slice none 0 0, .slice none 0 0, .slice none 0 0, .int .i64 0], .int .i64 x])) w' := by
  have h0 : ¬ runErr f L n = 0 := by omega
  refine ⟨none, 0, 0, none, 0, 0, none, 0, 0, by rw [h]; unfold runSh; rw [if_neg h0], ?_, ?_, ?_, hb⟩
  · unfold runP; rw [if_neg h0]; exact Rd.nil _ _ _ _ (by omega)
  · unfold runC; rw [if_neg h0]; exact Rd.nil _ _ _ _ (by omega)
  · unfold runN; rw [if_neg h0]; exact Rd.nil _ _ _ _ (by omega)
theorem SRun.ok {f : Nat → Int} {L : List Ru} {n : Int} {a b c : Nat} {w w' : World} {A1 A2 A3 : Option Addr} {n1 c1 n2 c2 n3 c3 : Nat} (h : runErr f L n = 0) (hb : Below w.heap.size w w')
    (r1 : Rd ePu w' w'.heap.size A1 n1 c1 (emitL f n a)) (r2 : Rd eCk w' w'.heap.size A2 n2 c2 (detL f (shiftErr L) (carryX L (emitL f n a) b) c)) (r3 : Rd eNo w' w'.heap.size A3 n3 c3 (carryN L (emitL f n a) b)) :
    SRun f L n a b c w (.returned (.tuple #[.agg #[.slice A1 n1 c1, .slice A2 n2 c2, .slice A3 n3 c3, .int .i64 (shiftErr L)], .int .i64 0])) w' := by
  refine ⟨A1, n1, c1, A2, n2, c2, A3, n3, c3, by rw [h]; unfold runSh; rw [if_pos h], ?_, ?_, ?_, hb⟩
  · unfold runP; rw [if_pos h]; exact r1
  · unfold runC; rw [if_pos h]; exact r2
  · unfold runN; rw [if_pos h]; exact r3
theorem runErr_check {f : Nat → Int} {L : List Ru} {n : Int} (h : checkErr f = 2) : runErr f L n = 2 := by unfold runErr; rw [h]; rfl
theorem runErr_rules {f : Nat → Int} {L : List Ru} {n : Int} (h : checkErr f = 0) (h2 : rulesErr L ≠ 0) : runErr f L n = rulesErr L := by unfold runErr; rw [if_neg (by omega), if_pos h2]
theorem runErr_emit {f : Nat → Int} {L : List Ru} {n : Int} (h : checkErr f = 0) (h2 : rulesErr L = 0) : runErr f L n = emitErr f n := by unfold runErr; rw [if_neg (by omega), if_neg (by omega)]
end Go.Proofs.Ytchhkokpjdkkiaa
