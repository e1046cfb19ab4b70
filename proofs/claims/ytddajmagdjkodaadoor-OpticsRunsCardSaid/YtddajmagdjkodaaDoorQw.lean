/- Contract of the reference's Detect. -/
import Derived.Test.YtddajmagdjkodaaDoorQu
import Derived.Test.YtddajmagdjkodaaDoorQb
namespace Go.Proofs.YtddajmagdjkodaaDoor
open Go.RowKit

theorem rdetect_at {f : Nat → Int} {x : Li} {D t t2 : Nat} {w : World} {y : Ck} (h : Rr w D t) (hp : 0 ≤ x.ph ∧ x.ph ≤ 3) (hdf : detF (f 16) (f 17) x t = (y, t2)) :
    Calls Tryd.prog 68 #[.agg (cells18 f), .agg #[.int .i64 x.ph, .int .i64 x.b, .bool x.bit, .bool x.bright], .pointer (some ⟨D, 0, none⟩)] w fun e w' => e = .returned (.agg #[.int .i64 y.b, .int .i64 y.k]) ∧ Rr w' D t2 ∧ w.grownBy w' (some D) :=
  (rdetect_c f x D t w h hp).mono fun e w' h => by unfold SDetect at h; rw [hdf] at h; exact h

set_option maxRecDepth 100000 in
set_option maxHeartbeats 6400000 in
theorem rDetect_c (f : Nat → Int) (A : Option Addr) (n c : Nat) (L : List Li) (sh : Int) (s : Nat) (w : World) (r : Rd eLi w w.heap.size A n c L) :
    Calls Tryd.prog 27 #[.agg (cells18 f), .slice A n c, .int .i64 sh, .int .u64 (s : Int)] w (SDet f sh L s w) := by
  have hl := r.len
  have hm := r.max
  have hcap := r.cap
  have HL := hide hl
  clear hl
  go_enter Tryd.func27, Tryd.ntmps27
  go_upto_region 1 with fail
  have hO := Blk.newAt w 40 (cells18 f) w.heap.size rfl
  have hb := below_alloc w (.cells (cells18 f) 40)
  have r1 := r.alloc (.cells (cells18 f) 40)
  obtain ⟨W, hW⟩ : ∃ W, W = w.alloc (.cells (cells18 f) 40) := ⟨_, rfl⟩
  rw [← hW] at hO hb r1 ⊢
  clear hW r
  have hlt0 := hO.lt
  have hck := rcheck_c f W
  have hsf := rshiftable_c sh
  by_cases h0 : checkErr f = 0
  · rw [h0] at hck
    have HCK := hide hck
    have H0 := hide h0
    clear hck h0
    by_cases hs : -16 ≤ sh ∧ sh ≤ 16
    · have HS := hide hs
      rw [decide_eq_true hs] at hsf
      have HSF := hide hsf
      clear hsf
      obtain ⟨s1, s2⟩ := hs
      by_cases hbig : 4096 < (n : Int)
      · go_wp2_with (first | (refine wl_load (o := ⟨some 15, _, _, _, _, _⟩) rfl 40 _ rfl w.heap.size rfl 40 (cells18 f) _ hO Tryd.underlying40 rfl (by kernel_rfl) ?_) | (go_at_call 41; refine HCK.out.mono ?_; rintro e w1 ⟨rfl, hb1⟩) | (go_at_call 62; refine (HSF.out _).mono ?_; rintro e w' ⟨rfl, rfl⟩))
        go_ret2
        exact SDet.err (detErr_long H0.out HS.out (by have := HL.out; omega)) (by omega) (below_on hb hb1)
      · have HE := hide (detErr_all H0.out HS.out (show ¬ 4096 < L.length by have := HL.out; omega))
        have hn2 : n ≤ 4096 := by omega
        go_wp2_with (first | (refine wl_load (o := ⟨some 15, _, _, _, _, _⟩) rfl 40 _ rfl w.heap.size rfl 40 (cells18 f) _ hO Tryd.underlying40 rfl (by kernel_rfl) ?_) | (go_at_call 41; refine HCK.out.mono ?_; rintro e w1 ⟨rfl, hb1⟩) | (go_at_call 62; refine (HSF.out _).mono ?_; rintro e w' ⟨rfl, rfl⟩))
        have r2 := r1.on hb1
        have hO2 := hO.keep hb1
        have hb2 := below_on hb hb1
        have hlt1 := hO2.lt
        clear r1 hO hb hb1 hlt0 HCK HSF
        go_loopw [10] (fun iv wr => ∃ k : Nat, k ≤ n ∧ iv = .int .i64 k ∧ (L.take k).all okLi = true ∧ w1 = wr) (fun iv _ => n - (intOf iv).toNat)
        case atStart => exact ⟨0, by omega, rfl, by simp, rfl⟩
        case round =>
          obtain ⟨k, hk, rfl, hall, rfl⟩ := hrel
          have HA := hide hall
          clear hall
          by_cases hlt : k < n
          · obtain ⟨b, off, x, rfl, hb', hx, hc⟩ := r2.get hlt
            have c0 := hc 0 _ rfl
            have c1 := hc 1 _ rfl
            simp only [eLi, Nat.add_zero] at c0 c1
            have HX := hide hx
            clear hc hx
            obtain ⟨xp, xb, xbit, xbr⟩ := x
            simp only at c0 c1
            have htr := rtruth_c xb
            by_cases hxb : xb = 0 ∨ xb = 1
            · rw [decide_eq_true hxb] at htr
              have HT := hide htr
              have HXB := hide hxb
              clear htr hxb
              by_cases hgood : 0 ≤ xp ∧ xp ≤ 3
              · have HG := hide ((okLi_iff ⟨xp, xb, xbit, xbr⟩).2 ⟨by have := HXB.out; simp only; omega, by have := HXB.out; simp only; omega, hgood⟩)
                obtain ⟨g3, g4⟩ := hgood
                go_wp2_with (go_at_call 64; refine (HT.out _).mono ?_; rintro e w' ⟨rfl, rfl⟩)
                go_roundw
                case rel => exact ⟨k + 1, by omega, by go_num, all_take_succ HA.out HX.out HG.out, by first | rfl | trivial⟩
                case measure => simp [intOf] <;> omega
              · have HI := hide hgood
                have HB := hide (show okLi ⟨xp, xb, xbit, xbr⟩ = false by cases h : okLi ⟨xp, xb, xbit, xbr⟩; rfl; exact absurd ((okLi_iff _).1 h).2.2 hgood)
                clear hgood
                have HS2 := hide (show detErr f sh L = 2 by rw [HE.out, all_false HX.out HB.out]; rfl)
                go_wp2_with (go_at_call 64; refine (HT.out _).mono ?_; rintro e w' ⟨rfl, rfl⟩)
                all_goals first
                  | (exfalso; have := HI.out; omega)
                  | (go_ret2
                     exact SDet.err HS2.out (by omega) hb2)
            · rw [decide_eq_false hxb] at htr
              have HT := hide htr
              have HB := hide (show okLi ⟨xp, xb, xbit, xbr⟩ = false by cases h : okLi ⟨xp, xb, xbit, xbr⟩; rfl; have h2 := (okLi_iff _).1 h; simp only at h2; omega)
              have HS2 := hide (show detErr f sh L = 2 by rw [HE.out, all_false HX.out HB.out]; rfl)
              clear htr hxb
              go_wp2_with (go_at_call 64; refine (HT.out _).mono ?_; rintro e w' ⟨rfl, rfl⟩)
              go_ret2
              exact SDet.err HS2.out (by omega) hb2
          · have hall := all_whole HA.out HL.out hlt
            have HALL := hide hall
            have HZ := hide (show detErr f sh L = 0 by rw [HE.out, hall]; rfl)
            clear hall HE HA
            go_wp2_with (go_at_call 67; refine (rnew_c s _).mono ?_; rintro e w2 ⟨rfl, hD, hw2⟩)
            have hsz2 : w2.heap.size = w1.heap.size + 1 := by rw [hw2]; simp
            have hb5 : Below w1.heap.size w1 w2 := by rw [hw2]; exact below_alloc _ _
            try rw [← hw2]
            have o3 := Ow.nil (e := eCk) w2 (w1.heap.size + 1) 67
            have hw01 := hb2.size
            clear hw2 hlt hk
            go_loopw [13, 12] (fun iv sv wr => ∃ (i : Nat) (A2 : Option Addr) (c2 : Nat), i ≤ n ∧ iv = .int .i64 i ∧ sv = .slice A2 i c2 ∧ Rr wr w1.heap.size (dets (f 16) (f 17) sh L s i).2 ∧ Ow eCk wr (w1.heap.size + 1) 67 A2 i c2 (dets (f 16) (f 17) sh L s i).1 ∧ Below w1.heap.size w1 wr ∧ w1.heap.size + 1 ≤ wr.heap.size) (fun iv _ _ => n - (intOf iv).toNat)
            case atStart => exact ⟨0, none, 0, by omega, rfl, rfl, hD, o3, hb5, by omega⟩
            case round =>
              clear hD o3 hb5 hsz2
              obtain ⟨i, A2, c2, hi, rfl, rfl, hD, hOw, hbq, hq⟩ := hrel
              by_cases hlt : i < n
              · obtain ⟨K, t, hKt⟩ : ∃ K t, dets (f 16) (f 17) sh L s i = (K, t) := ⟨_, _, rfl⟩
                rw [hKt] at hD hOw
                have HKT := hide hKt
                clear hKt
                have hO3 := hO2.keep hbq
                by_cases hneg : (i : Int) - sh < 0
                · have HLT := hide (ltAt_neg (L := L) hneg)
                  go_upto_region 20 with fail
                  have hL := Blk.newAt wr 65 #[.int .i64 0, .int .i64 0, .bool false, .bool false] wr.heap.size rfl
                  have hOq := hO3.alloc (.cells #[.int .i64 0, .int .i64 0, .bool false, .bool false] 65)
                  have hDq := Rr.alloc hD (.cells #[.int .i64 0, .int .i64 0, .bool false, .bool false] 65)
                  have hOwq := hOw.alloc (.cells #[.int .i64 0, .int .i64 0, .bool false, .bool false] 65)
                  have hbs := hbq.alloc hbq.size (.cells #[.int .i64 0, .int .i64 0, .bool false, .bool false] 65)
                  have hqs : w1.heap.size + 1 ≤ (wr.alloc (.cells #[.int .i64 0, .int .i64 0, .bool false, .bool false] 65)).heap.size := by simp; omega
                  obtain ⟨wz, hwz⟩ : ∃ q, q = wr.alloc (.cells #[.int .i64 0, .int .i64 0, .bool false, .bool false] 65) := ⟨_, rfl⟩
                  rw [← hwz] at hL hOq hDq hOwq hbs hqs ⊢
                  clear hwz hO3 hD hOw hbq
                  have l0 := hL.cell 0
                  have l1 := hL.cell 1
                  have l2 := hL.cell 2
                  have l3 := hL.cell 3
                  simp only [List.getElem?_toArray, List.getElem?_cons_zero, List.getElem?_cons_succ] at l0 l1 l2 l3
                  obtain ⟨⟨yb, yk⟩, t2, hdf⟩ : ∃ y t2, detF (f 16) (f 17) ⟨0, 0, false, false⟩ t = (y, t2) := ⟨_, _, rfl⟩
                  have HDET := hide (show dets (f 16) (f 17) sh L s (i + 1) = (K ++ [⟨yb, yk⟩], t2) by rw [dets, HKT.out, HLT.out]; exact congrArg (fun q : Ck × Nat => (K ++ [q.1], q.2)) hdf)
                  have HCL := hide (rdetect_at hDq (by first | (simp; done) | exact ⟨HOK.out.2.2.1, HOK.out.2.2.2⟩) hdf)
                  clear hdf
                  go_wp2_with (first | (refine wl_load (o := ⟨some 81, _, _, _, _, _⟩) rfl 40 _ rfl w.heap.size rfl 40 (cells18 f) _ hOq Tryd.underlying40 rfl (by kernel_rfl) ?_) | (go_at_call 68; refine HCL.out.mono ?_; rintro e w4 ⟨rfl, hD4, hg4⟩; have o4 := hOwq.grown hg4 (fun g' hg' hg2 => by injection hg2 with hg2; have := (hOwq.lt hg').1; omega); have hb6 := below_grown hbs hg4 (Nat.le_refl _) (Nat.le_refl _); have hq4 := hg4.size) | (at_builtin; refine wl_app eCk _ rfl (.tmp 80) (.tmp 85) _ rfl (w1.heap.size + 1) 67 (.agg #[.int .i64 0, .int .i64 0]) 16 Tryd.underlying23 info_ck rfl (by omega) _ _ _ _ (by rfl) (o4.alloc _) _ 1 1 [⟨yb, yk⟩] (by rfl) _ (Rd.newAt (e := eCk) w4 67 ⟨yb, yk⟩ #[.int .i64 yb, .int .i64 yk] rfl w4.heap.size rfl) (by omega) (by first | omega | (simp; omega)) ?_; intro A3 c3 w5 o5 hg5 hA5; refine Hid.out ?_))
                  refine hide ?_
                  have hD5 := Blk.grown (Rr.alloc hD4 _) hg5 (fun h => by have := ((o4.alloc (.cells #[.int .i64 yb, .int .i64 yk] 67)).block _ h.symm).1; omega)
                  have hb7 := below_app (hb6.alloc hb6.size _) (o4.alloc _) hg5 (Nat.le_succ _) (Nat.le_refl _)
                  have hq5 := hg5.size
                  go_wp2
                  go_roundw
                  case rel => exact ⟨i + 1, A3, c3, by omega, by go_num, rfl, by rw [HDET.out]; exact hD5, by rw [HDET.out]; exact o5, hb7, by simp at hq5; omega⟩
                  case measure => simp [intOf] <;> omega
                · by_cases hover : (n : Int) ≤ (i : Int) - sh
                  · have HLT := hide (ltAt_over (L := L) (sh := sh) (i := i) (by have := HL.out; omega))
                    go_upto_region 20 with fail
                    have hL := Blk.newAt wr 65 #[.int .i64 0, .int .i64 0, .bool false, .bool false] wr.heap.size rfl
                    have hOq := hO3.alloc (.cells #[.int .i64 0, .int .i64 0, .bool false, .bool false] 65)
                    have hDq := Rr.alloc hD (.cells #[.int .i64 0, .int .i64 0, .bool false, .bool false] 65)
                    have hOwq := hOw.alloc (.cells #[.int .i64 0, .int .i64 0, .bool false, .bool false] 65)
                    have hbs := hbq.alloc hbq.size (.cells #[.int .i64 0, .int .i64 0, .bool false, .bool false] 65)
                    have hqs : w1.heap.size + 1 ≤ (wr.alloc (.cells #[.int .i64 0, .int .i64 0, .bool false, .bool false] 65)).heap.size := by simp; omega
                    obtain ⟨wz, hwz⟩ : ∃ q, q = wr.alloc (.cells #[.int .i64 0, .int .i64 0, .bool false, .bool false] 65) := ⟨_, rfl⟩
                    rw [← hwz] at hL hOq hDq hOwq hbs hqs ⊢
                    clear hwz hO3 hD hOw hbq
                    have l0 := hL.cell 0
                    have l1 := hL.cell 1
                    have l2 := hL.cell 2
                    have l3 := hL.cell 3
                    simp only [List.getElem?_toArray, List.getElem?_cons_zero, List.getElem?_cons_succ] at l0 l1 l2 l3
                    obtain ⟨⟨yb, yk⟩, t2, hdf⟩ : ∃ y t2, detF (f 16) (f 17) ⟨0, 0, false, false⟩ t = (y, t2) := ⟨_, _, rfl⟩
                    have HDET := hide (show dets (f 16) (f 17) sh L s (i + 1) = (K ++ [⟨yb, yk⟩], t2) by rw [dets, HKT.out, HLT.out]; exact congrArg (fun q : Ck × Nat => (K ++ [q.1], q.2)) hdf)
                    have HCL := hide (rdetect_at hDq (by first | (simp; done) | exact ⟨HOK.out.2.2.1, HOK.out.2.2.2⟩) hdf)
                    clear hdf
                    go_wp2_with (first | (refine wl_load (o := ⟨some 81, _, _, _, _, _⟩) rfl 40 _ rfl w.heap.size rfl 40 (cells18 f) _ hOq Tryd.underlying40 rfl (by kernel_rfl) ?_) | (go_at_call 68; refine HCL.out.mono ?_; rintro e w4 ⟨rfl, hD4, hg4⟩; have o4 := hOwq.grown hg4 (fun g' hg' hg2 => by injection hg2 with hg2; have := (hOwq.lt hg').1; omega); have hb6 := below_grown hbs hg4 (Nat.le_refl _) (Nat.le_refl _); have hq4 := hg4.size) | (at_builtin; refine wl_app eCk _ rfl (.tmp 80) (.tmp 85) _ rfl (w1.heap.size + 1) 67 (.agg #[.int .i64 0, .int .i64 0]) 16 Tryd.underlying23 info_ck rfl (by omega) _ _ _ _ (by rfl) (o4.alloc _) _ 1 1 [⟨yb, yk⟩] (by rfl) _ (Rd.newAt (e := eCk) w4 67 ⟨yb, yk⟩ #[.int .i64 yb, .int .i64 yk] rfl w4.heap.size rfl) (by omega) (by first | omega | (simp; omega)) ?_; intro A3 c3 w5 o5 hg5 hA5; refine Hid.out ?_))
                    refine hide ?_
                    have hD5 := Blk.grown (Rr.alloc hD4 _) hg5 (fun h => by have := ((o4.alloc (.cells #[.int .i64 yb, .int .i64 yk] 67)).block _ h.symm).1; omega)
                    have hb7 := below_app (hb6.alloc hb6.size _) (o4.alloc _) hg5 (Nat.le_succ _) (Nat.le_refl _)
                    have hq5 := hg5.size
                    go_wp2
                    go_roundw
                    case rel => exact ⟨i + 1, A3, c3, by omega, by go_num, rfl, by rw [HDET.out]; exact hD5, by rw [HDET.out]; exact o5, hb7, by simp at hq5; omega⟩
                    case measure => simp [intOf] <;> omega
                  · obtain ⟨j, hj⟩ : ∃ j : Nat, (i : Int) - sh = (j : Int) := ⟨((i : Int) - sh).toNat, by omega⟩
                    have hjn : j < n := by omega
                    obtain ⟨b, off, x, rfl, hb', hx, hc⟩ := (r2.below (hbq.alloc hbq.size (.cells #[.int .i64 0, .int .i64 0, .bool false, .bool false] 65))).get hjn
                    have HLT := hide (ltAt_in hj hx)
                    have HOK := hide ((okLi_iff x).1 (List.all_eq_true.1 HALL.out x (List.mem_of_getElem? hx)))
                    have c0 := hc 0 _ rfl
                    have c1 := hc 1 _ rfl
                    have c2' := hc 2 _ rfl
                    have c3 := hc 3 _ rfl
                    simp only [eLi, Nat.add_zero] at c0 c1 c2' c3
                    clear hc hx
                    obtain ⟨xp, xb, xbit, xbr⟩ := x
                    simp only at c0 c1 c2' c3
                    go_upto_region 20 with fail
                    have hL := Blk.newAt wr 65 #[.int .i64 xp, .int .i64 xb, .bool xbit, .bool xbr] wr.heap.size rfl
                    have hOq := hO3.alloc (.cells #[.int .i64 xp, .int .i64 xb, .bool xbit, .bool xbr] 65)
                    have hDq := Rr.alloc hD (.cells #[.int .i64 xp, .int .i64 xb, .bool xbit, .bool xbr] 65)
                    have hOwq := hOw.alloc (.cells #[.int .i64 xp, .int .i64 xb, .bool xbit, .bool xbr] 65)
                    have hbs := hbq.alloc hbq.size (.cells #[.int .i64 xp, .int .i64 xb, .bool xbit, .bool xbr] 65)
                    have hqs : w1.heap.size + 1 ≤ (wr.alloc (.cells #[.int .i64 xp, .int .i64 xb, .bool xbit, .bool xbr] 65)).heap.size := by simp; omega
                    obtain ⟨wz, hwz⟩ : ∃ q, q = wr.alloc (.cells #[.int .i64 xp, .int .i64 xb, .bool xbit, .bool xbr] 65) := ⟨_, rfl⟩
                    rw [← hwz] at hL hOq hDq hOwq hbs hqs ⊢
                    clear hwz hO3 hD hOw hbq
                    have l0 := hL.cell 0
                    have l1 := hL.cell 1
                    have l2 := hL.cell 2
                    have l3 := hL.cell 3
                    simp only [List.getElem?_toArray, List.getElem?_cons_zero, List.getElem?_cons_succ] at l0 l1 l2 l3
                    obtain ⟨⟨yb, yk⟩, t2, hdf⟩ : ∃ y t2, detF (f 16) (f 17) ⟨xp, xb, xbit, xbr⟩ t = (y, t2) := ⟨_, _, rfl⟩
                    have HDET := hide (show dets (f 16) (f 17) sh L s (i + 1) = (K ++ [⟨yb, yk⟩], t2) by rw [dets, HKT.out, HLT.out]; exact congrArg (fun q : Ck × Nat => (K ++ [q.1], q.2)) hdf)
                    have HCL := hide (rdetect_at hDq (by first | (simp; done) | exact ⟨HOK.out.2.2.1, HOK.out.2.2.2⟩) hdf)
                    clear hdf
                    go_wp2_with (first | (refine wl_load (o := ⟨some 81, _, _, _, _, _⟩) rfl 40 _ rfl w.heap.size rfl 40 (cells18 f) _ hOq Tryd.underlying40 rfl (by kernel_rfl) ?_) | (go_at_call 68; refine HCL.out.mono ?_; rintro e w4 ⟨rfl, hD4, hg4⟩; have o4 := hOwq.grown hg4 (fun g' hg' hg2 => by injection hg2 with hg2; have := (hOwq.lt hg').1; omega); have hb6 := below_grown hbs hg4 (Nat.le_refl _) (Nat.le_refl _); have hq4 := hg4.size) | (at_builtin; refine wl_app eCk _ rfl (.tmp 80) (.tmp 85) _ rfl (w1.heap.size + 1) 67 (.agg #[.int .i64 0, .int .i64 0]) 16 Tryd.underlying23 info_ck rfl (by omega) _ _ _ _ (by rfl) (o4.alloc _) _ 1 1 [⟨yb, yk⟩] (by rfl) _ (Rd.newAt (e := eCk) w4 67 ⟨yb, yk⟩ #[.int .i64 yb, .int .i64 yk] rfl w4.heap.size rfl) (by omega) (by first | omega | (simp; omega)) ?_; intro A3 c3 w5 o5 hg5 hA5; refine Hid.out ?_))
                    refine hide ?_
                    have hD5 := Blk.grown (Rr.alloc hD4 _) hg5 (fun h => by have := ((o4.alloc (.cells #[.int .i64 yb, .int .i64 yk] 67)).block _ h.symm).1; omega)
                    have hb7 := below_app (hb6.alloc hb6.size _) (o4.alloc _) hg5 (Nat.le_succ _) (Nat.le_refl _)
                    have hq5 := hg5.size
                    go_wp2
                    go_roundw
                    case rel => exact ⟨i + 1, A3, c3, by omega, by go_num, rfl, by rw [HDET.out]; exact hD5, by rw [HDET.out]; exact o5, hb7, by simp at hq5; omega⟩
                    case measure => simp [intOf] <;> omega
              · obtain rfl : n = i := by omega
                go_wp2
                go_ret2
                exact SDet.ok HZ.out (below_on hb2 hbq) (by rw [HL.out]) hOw.rd
    · have HS := hide hs
      rw [decide_eq_false hs] at hsf
      have HSF := hide hsf
      clear hs hsf
      go_wp2_with (first | (refine wl_load (o := ⟨some 15, _, _, _, _, _⟩) rfl 40 _ rfl w.heap.size rfl 40 (cells18 f) _ hO Tryd.underlying40 rfl (by kernel_rfl) ?_) | (go_at_call 41; refine HCK.out.mono ?_; rintro e w1 ⟨rfl, hb1⟩) | (go_at_call 62; refine (HSF.out _).mono ?_; rintro e w' ⟨rfl, rfl⟩))
      go_ret2
      exact SDet.err (detErr_shift H0.out HS.out) (by omega) (below_on hb hb1)
  · have h2 := checkErr_two h0
    rw [h2] at hck
    have HCK := hide hck
    have H2 := hide h2
    clear hck h0 h2 hsf
    go_wp2_with (first | (refine wl_load (o := ⟨some 15, _, _, _, _, _⟩) rfl 40 _ rfl w.heap.size rfl 40 (cells18 f) _ hO Tryd.underlying40 rfl (by kernel_rfl) ?_) | (go_at_call 41; refine HCK.out.mono ?_; rintro e w1 ⟨rfl, hb1⟩))
    go_ret2
    exact SDet.err (detErr_check H2.out) (by omega) (below_on hb hb1)
end Go.Proofs.YtddajmagdjkodaaDoor
