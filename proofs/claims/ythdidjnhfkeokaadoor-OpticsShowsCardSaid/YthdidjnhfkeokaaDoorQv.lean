/- Contract of optics.Detect. -/
import Derived.Test.YthdidjnhfkeokaaDoorQu
namespace Go.Proofs.YthdidjnhfkeokaaDoor
open Go.RowKit

theorem click_at {f : Nat → Int} {x : Li} {D t t2 : Nat} {w : World} {y : Ck} (h : Dr w D t) (hp : 0 ≤ x.ph ∧ x.ph ≤ 3) (hdf : detF (f 16) (f 17) x t = (y, t2)) :
    Calls Tryd.prog 79 #[.agg (cells18 f), .agg #[.int .i64 x.ph, .int .i64 x.b, .bool x.bit, .bool x.bright], .pointer (some ⟨D, 0, none⟩)] w fun e w' => e = .returned (.agg #[.int .i64 y.b, .int .i64 y.k]) ∧ Dr w' D t2 ∧ w.grownBy w' (some D) :=
  (click_c f x D t w h hp).mono fun e w' h => by unfold SClick at h; rw [hdf] at h; exact h

set_option maxRecDepth 100000 in
set_option maxHeartbeats 6400000 in
theorem detect_c (f : Nat → Int) (A : Option Addr) (n c : Nat) (L : List Li) (sh : Int) (s : Nat) (w : World) (r : Rd eLi w w.heap.size A n c L) :
    Calls Tryd.prog 64 #[.agg (cells18 f), .slice A n c, .int .i64 sh, .int .u64 (s : Int)] w (SDet f sh L s w) := by
  have hl := r.len
  have hm := r.max
  have hcap := r.cap
  have HL := hide hl
  clear hl
  go_enter Tryd.func64, Tryd.ntmps64
  go_upto_region 1 with fail
  have hO := Blk.newAt w 26 (cells18 f) w.heap.size rfl
  have hb := below_alloc w (.cells (cells18 f) 26)
  have r1 := r.alloc (.cells (cells18 f) 26)
  obtain ⟨W, hW⟩ : ∃ W, W = w.alloc (.cells (cells18 f) 26) := ⟨_, rfl⟩
  rw [← hW] at hO hb r1 ⊢
  clear hW r
  have hlt0 := hO.lt
  have hck := check_c f W
  by_cases h0 : checkErr f = 0
  · rw [h0] at hck
    have HCK := hide hck
    have H0 := hide h0
    clear hck h0
    by_cases hs : -16 ≤ sh ∧ sh ≤ 16
    · have HS := hide hs
      obtain ⟨s1, s2⟩ := hs
      by_cases hbig : 4096 < (n : Int)
      · go_wp2_with (first | (refine wl_load (o := ⟨some 18, _, _, _, _, _⟩) rfl 26 _ rfl w.heap.size rfl 26 (cells18 f) _ hO Tryd.underlying26 rfl (by kernel_rfl) ?_) | (go_at_call 10; refine HCK.out.mono ?_; rintro e w1 ⟨rfl, hb1⟩))
        go_ret2
        exact SDet.err (detErr_long H0.out HS.out (by have := HL.out; omega)) (by omega) (below_on hb hb1)
      · have HE := hide (detErr_all H0.out HS.out (show ¬ 4096 < L.length by have := HL.out; omega))
        have hn2 : n ≤ 4096 := by omega
        go_wp2_with (first | (refine wl_load (o := ⟨some 18, _, _, _, _, _⟩) rfl 26 _ rfl w.heap.size rfl 26 (cells18 f) _ hO Tryd.underlying26 rfl (by kernel_rfl) ?_) | (go_at_call 10; refine HCK.out.mono ?_; rintro e w1 ⟨rfl, hb1⟩))
        have r2 := r1.on hb1
        have hO2 := hO.keep hb1
        have hb2 := below_on hb hb1
        have hlt1 := hO2.lt
        clear r1 hO hb hb1 hlt0 HCK
        go_loopw [34] (fun iv wr => ∃ k : Nat, k ≤ n ∧ iv = .int .i64 k ∧ (L.take k).all okLi = true ∧ Below w1.heap.size w1 wr) (fun iv _ => n - (intOf iv).toNat)
        case atStart => exact ⟨0, by omega, rfl, by simp, Below.refl _ _⟩
        case round =>
          obtain ⟨k, hk, rfl, hall, hbw⟩ := hrel
          have HA := hide hall
          clear hall
          by_cases hlt : k < n
          · obtain ⟨b, off, x, rfl, hb', hx, hc⟩ := (r2.below hbw).get hlt
            have c0 := hc 0 _ rfl
            have c1 := hc 1 _ rfl
            have c2 := hc 2 _ rfl
            have c3 := hc 3 _ rfl
            simp only [eLi, Nat.add_zero] at c0 c1 c2 c3
            have HX := hide hx
            clear hc hx
            obtain ⟨xp, xb, xbit, xbr⟩ := x
            simp only at c0 c1 c2 c3
            by_cases hgood : 0 ≤ xb ∧ xb ≤ 1 ∧ 0 ≤ xp ∧ xp ≤ 3
            · have HG := hide ((okLi_iff ⟨xp, xb, xbit, xbr⟩).2 hgood)
              obtain ⟨g1, g2, g3, g4⟩ := hgood
              go_wp2
              go_roundw
              case rel => exact ⟨k + 1, by omega, by go_num, all_take_succ HA.out HX.out HG.out, hbw.alloc hbw.size _⟩
              case measure => simp [intOf] <;> omega
            · have HI := hide hgood
              have HB := hide (show okLi ⟨xp, xb, xbit, xbr⟩ = false by cases h : okLi ⟨xp, xb, xbit, xbr⟩; rfl; exact absurd ((okLi_iff _).1 h) hgood)
              clear hgood
              have HS2 := hide (show detErr f sh L = 2 by rw [HE.out, all_false HX.out HB.out]; rfl)
              go_wp2
              all_goals first
                | (exfalso; have := HI.out; omega)
                | (go_ret2
                   exact SDet.err HS2.out (by omega) (below_on hb2 (hbw.alloc hbw.size _)))
          · have hall := all_whole HA.out HL.out hlt
            have HALL := hide hall
            have HZ := hide (show detErr f sh L = 0 by rw [HE.out, hall]; rfl)
            clear hall HE HA
            have r3 := r2.below hbw
            have hO3 := hO2.keep hbw
            have hb3 := below_on hb2 hbw
            have hsz3 := hbw.size
            go_wp2_with (first | (go_at_call 77; refine (new_c s _).mono ?_; rintro e w2 ⟨rfl, hD, hw2⟩) | (at_make; refine wl_mk eCk _ rfl _ _ _ rfl 95 (.agg #[.int .i64 0, .int .i64 0]) 16 ⟨0, 0⟩ Tryd.underlying39 info_ck rfl (by omega) _ _ n (by rfl) (by rfl) rfl rfl (by omega) ?_; intro w3 o3 hg3 hlt3))
            rw [← hw2] at o3 hg3 hlt3
            have hsz2 : w2.heap.size = wr.heap.size + 1 := by rw [hw2]; simp
            have hb4 : Below w1.heap.size w1 w2 := by rw [hw2]; exact hbw.alloc hbw.size _
            have hb5 : Below w1.heap.size w1 w3 := hb4.trans ((⟨hg3.os, hg3.tape, hg3.output, hg3.size, fun i hi => hg3.block i hi (by simp)⟩ : Below w2.heap.size w2 w3).mono hb4.size)
            have hD5 : Dr w3 wr.heap.size s := Blk.grown hD hg3 (by simp)
            clear hw2 hD hb4 hg3 r3 hO3 hb3 hbw
            rw [hsz2] at o3
            obtain ⟨G, hGe⟩ : ∃ d, d = wr.heap.size + 1 := ⟨_, rfl⟩
            rw [← hGe] at o3 ⊢
            obtain ⟨D, hDe⟩ : ∃ d, d = wr.heap.size := ⟨_, rfl⟩
            rw [← hDe] at hD5 hsz3 hGe ⊢
            have hDG : D ≠ G := by omega
            have hGD : G ≠ D := by omega
            have hD0 : w1.heap.size ≤ D := hsz3
            have hG0 : w1.heap.size ≤ G := by omega
            have hw01 := hb2.size
            clear hDe hGe hlt3 hsz2 hsz3
            go_loopw [64] (fun iv wq => ∃ i : Nat, i ≤ n ∧ iv = .int .i64 i ∧ Dr wq D (dets (f 16) (f 17) sh L s i).2 ∧ Ow eCk wq G 95 (some ⟨G, 0, none⟩) n n ((dets (f 16) (f 17) sh L s i).1 ++ List.replicate (n - i) ⟨0, 0⟩) ∧ Below w1.heap.size w1 wq) (fun iv _ => n - (intOf iv).toNat)
            case atStart => exact ⟨0, by omega, rfl, hD5, o3, hb5⟩
            case round =>
              clear hD5 o3 hb5 hlt hk
              obtain ⟨i, hi, rfl, hD, hOw, hbq⟩ := hrel
              have hlen := dets_len (f 16) (f 17) sh L s i
              by_cases hlt : i < n
              · obtain ⟨K, t, hKt⟩ : ∃ K t, dets (f 16) (f 17) sh L s i = (K, t) := ⟨_, _, rfl⟩
                rw [hKt] at hD hOw hlen
                have HKT := hide hKt
                have HLEN := hide hlen
                clear hKt hlen
                have hO3 := hO2.keep hbq
                by_cases hneg : (i : Int) - sh < 0
                · have HLT := hide (ltAt_neg (L := L) hneg)
                  go_upto_region 23 with fail
                  have hL := Blk.newAt wr 144 #[.int .i64 0, .int .i64 0, .bool false, .bool false] wr.heap.size rfl
                  have hOq := hO3.alloc (.cells #[.int .i64 0, .int .i64 0, .bool false, .bool false] 144)
                  have hDq := Dr.alloc hD (.cells #[.int .i64 0, .int .i64 0, .bool false, .bool false] 144)
                  have hOwq := hOw.alloc (.cells #[.int .i64 0, .int .i64 0, .bool false, .bool false] 144)
                  have hbs := hbq.alloc hbq.size (.cells #[.int .i64 0, .int .i64 0, .bool false, .bool false] 144)
                  obtain ⟨wq, hwq⟩ : ∃ q, q = wr.alloc (.cells #[.int .i64 0, .int .i64 0, .bool false, .bool false] 144) := ⟨_, rfl⟩
                  rw [← hwq] at hL hOq hDq hOwq hbs ⊢
                  clear hwq hO3 hD hOw hbq
                  have l0 := hL.cell 0
                  have l1 := hL.cell 1
                  have l2 := hL.cell 2
                  have l3 := hL.cell 3
                  simp only [List.getElem?_toArray, List.getElem?_cons_zero, List.getElem?_cons_succ] at l0 l1 l2 l3
                  obtain ⟨⟨yb, yk⟩, t2, hdf⟩ : ∃ y t2, detF (f 16) (f 17) ⟨0, 0, false, false⟩ t = (y, t2) := ⟨_, _, rfl⟩
                  have HDET := hide (show dets (f 16) (f 17) sh L s (i + 1) = (K ++ [⟨yb, yk⟩], t2) by rw [dets, HKT.out, HLT.out]; exact congrArg (fun q : Ck × Nat => (K ++ [q.1], q.2)) hdf)
                  have HCL := hide (click_at hDq (by first | (simp; done) | exact ⟨HOK.out.2.2.1, HOK.out.2.2.2⟩) hdf)
                  clear hdf
                  go_wp2_with (first | (refine wl_load (o := ⟨some 84, _, _, _, _, _⟩) rfl 26 _ rfl w.heap.size rfl 26 (cells18 f) _ hOq Tryd.underlying26 rfl (by kernel_rfl) ?_) | (go_at_call 79; refine HCL.out.mono ?_; rintro e w4 ⟨rfl, hD4, hg4⟩; refine Hid.out ?_))
                  have o4 := hOwq.grown hg4 (by rintro g' hg'; injection hg' with hg'; injection hg' with hg'; simp; omega)
                  obtain ⟨g', y, eg, _, hgl, _, hcv⟩ := o4.get hlt
                  injection eg with eg
                  injection eg with eg
                  subst eg
                  have k0 := hcv 0 _ rfl
                  have k1 := hcv 1 _ rfl
                  have kf0 := o4.frozen (i * 2)
                  have kf1 := o4.frozen (i * 2 + 1)
                  simp only [eCk, Nat.add_zero] at k0 k1
                  have hb6 := below_grown hbs hg4 hD0 (Nat.le_refl _)
                  clear hcv hL hOq hDq hOwq hbs l0 l1 l2 l3 HCL hg4
                  refine hide ?_
                  go_wp2
                  go_roundw
                  case rel => exact ⟨i + 1, by omega, by go_num, by rw [HDET.out]; exact Dr.far (Dr.far hD4 hDG _) hDG _, by rw [HDET.out]; exact set_repl HLEN.out hlt ▸ o4.store2 hlt ⟨yb, yk⟩ rfl rfl rfl, (hb6.setCell hG0 _).setCell hG0 _⟩
                  case measure => simp [intOf] <;> omega
                · by_cases hover : (n : Int) ≤ (i : Int) - sh
                  · have HLT := hide (ltAt_over (L := L) (sh := sh) (i := i) (by have := HL.out; omega))
                    go_upto_region 23 with fail
                    have hL := Blk.newAt wr 144 #[.int .i64 0, .int .i64 0, .bool false, .bool false] wr.heap.size rfl
                    have hOq := hO3.alloc (.cells #[.int .i64 0, .int .i64 0, .bool false, .bool false] 144)
                    have hDq := Dr.alloc hD (.cells #[.int .i64 0, .int .i64 0, .bool false, .bool false] 144)
                    have hOwq := hOw.alloc (.cells #[.int .i64 0, .int .i64 0, .bool false, .bool false] 144)
                    have hbs := hbq.alloc hbq.size (.cells #[.int .i64 0, .int .i64 0, .bool false, .bool false] 144)
                    obtain ⟨wq, hwq⟩ : ∃ q, q = wr.alloc (.cells #[.int .i64 0, .int .i64 0, .bool false, .bool false] 144) := ⟨_, rfl⟩
                    rw [← hwq] at hL hOq hDq hOwq hbs ⊢
                    clear hwq hO3 hD hOw hbq
                    have l0 := hL.cell 0
                    have l1 := hL.cell 1
                    have l2 := hL.cell 2
                    have l3 := hL.cell 3
                    simp only [List.getElem?_toArray, List.getElem?_cons_zero, List.getElem?_cons_succ] at l0 l1 l2 l3
                    obtain ⟨⟨yb, yk⟩, t2, hdf⟩ : ∃ y t2, detF (f 16) (f 17) ⟨0, 0, false, false⟩ t = (y, t2) := ⟨_, _, rfl⟩
                    have HDET := hide (show dets (f 16) (f 17) sh L s (i + 1) = (K ++ [⟨yb, yk⟩], t2) by rw [dets, HKT.out, HLT.out]; exact congrArg (fun q : Ck × Nat => (K ++ [q.1], q.2)) hdf)
                    have HCL := hide (click_at hDq (by first | (simp; done) | exact ⟨HOK.out.2.2.1, HOK.out.2.2.2⟩) hdf)
                    clear hdf
                    go_wp2_with (first | (refine wl_load (o := ⟨some 84, _, _, _, _, _⟩) rfl 26 _ rfl w.heap.size rfl 26 (cells18 f) _ hOq Tryd.underlying26 rfl (by kernel_rfl) ?_) | (go_at_call 79; refine HCL.out.mono ?_; rintro e w4 ⟨rfl, hD4, hg4⟩; refine Hid.out ?_))
                    have o4 := hOwq.grown hg4 (by rintro g' hg'; injection hg' with hg'; injection hg' with hg'; simp; omega)
                    obtain ⟨g', y, eg, _, hgl, _, hcv⟩ := o4.get hlt
                    injection eg with eg
                    injection eg with eg
                    subst eg
                    have k0 := hcv 0 _ rfl
                    have k1 := hcv 1 _ rfl
                    have kf0 := o4.frozen (i * 2)
                    have kf1 := o4.frozen (i * 2 + 1)
                    simp only [eCk, Nat.add_zero] at k0 k1
                    have hb6 := below_grown hbs hg4 hD0 (Nat.le_refl _)
                    clear hcv hL hOq hDq hOwq hbs l0 l1 l2 l3 HCL hg4
                    refine hide ?_
                    go_wp2
                    go_roundw
                    case rel => exact ⟨i + 1, by omega, by go_num, by rw [HDET.out]; exact Dr.far (Dr.far hD4 hDG _) hDG _, by rw [HDET.out]; exact set_repl HLEN.out hlt ▸ o4.store2 hlt ⟨yb, yk⟩ rfl rfl rfl, (hb6.setCell hG0 _).setCell hG0 _⟩
                    case measure => simp [intOf] <;> omega
                  · obtain ⟨j, hj⟩ : ∃ j : Nat, (i : Int) - sh = (j : Int) := ⟨((i : Int) - sh).toNat, by omega⟩
                    have hjn : j < n := by omega
                    obtain ⟨b, off, x, rfl, hb', hx, hc⟩ := (r2.below (hbq.alloc hbq.size (.cells #[.int .i64 0, .int .i64 0, .bool false, .bool false] 144))).get hjn
                    have HLT := hide (ltAt_in hj hx)
                    have HOK := hide ((okLi_iff x).1 (List.all_eq_true.1 HALL.out x (List.mem_of_getElem? hx)))
                    have c0 := hc 0 _ rfl
                    have c1 := hc 1 _ rfl
                    have c2 := hc 2 _ rfl
                    have c3 := hc 3 _ rfl
                    simp only [eLi, Nat.add_zero] at c0 c1 c2 c3
                    clear hc hx
                    obtain ⟨xp, xb, xbit, xbr⟩ := x
                    simp only at c0 c1 c2 c3
                    go_upto_region 23 with fail
                    have hL := Blk.newAt wr 144 #[.int .i64 xp, .int .i64 xb, .bool xbit, .bool xbr] wr.heap.size rfl
                    have hOq := hO3.alloc (.cells #[.int .i64 xp, .int .i64 xb, .bool xbit, .bool xbr] 144)
                    have hDq := Dr.alloc hD (.cells #[.int .i64 xp, .int .i64 xb, .bool xbit, .bool xbr] 144)
                    have hOwq := hOw.alloc (.cells #[.int .i64 xp, .int .i64 xb, .bool xbit, .bool xbr] 144)
                    have hbs := hbq.alloc hbq.size (.cells #[.int .i64 xp, .int .i64 xb, .bool xbit, .bool xbr] 144)
                    obtain ⟨wq, hwq⟩ : ∃ q, q = wr.alloc (.cells #[.int .i64 xp, .int .i64 xb, .bool xbit, .bool xbr] 144) := ⟨_, rfl⟩
                    rw [← hwq] at hL hOq hDq hOwq hbs ⊢
                    clear hwq hO3 hD hOw hbq
                    have l0 := hL.cell 0
                    have l1 := hL.cell 1
                    have l2 := hL.cell 2
                    have l3 := hL.cell 3
                    simp only [List.getElem?_toArray, List.getElem?_cons_zero, List.getElem?_cons_succ] at l0 l1 l2 l3
                    obtain ⟨⟨yb, yk⟩, t2, hdf⟩ : ∃ y t2, detF (f 16) (f 17) ⟨xp, xb, xbit, xbr⟩ t = (y, t2) := ⟨_, _, rfl⟩
                    have HDET := hide (show dets (f 16) (f 17) sh L s (i + 1) = (K ++ [⟨yb, yk⟩], t2) by rw [dets, HKT.out, HLT.out]; exact congrArg (fun q : Ck × Nat => (K ++ [q.1], q.2)) hdf)
                    have HCL := hide (click_at hDq (by first | (simp; done) | exact ⟨HOK.out.2.2.1, HOK.out.2.2.2⟩) hdf)
                    clear hdf
                    go_wp2_with (first | (refine wl_load (o := ⟨some 84, _, _, _, _, _⟩) rfl 26 _ rfl w.heap.size rfl 26 (cells18 f) _ hOq Tryd.underlying26 rfl (by kernel_rfl) ?_) | (go_at_call 79; refine HCL.out.mono ?_; rintro e w4 ⟨rfl, hD4, hg4⟩; refine Hid.out ?_))
                    have o4 := hOwq.grown hg4 (by rintro g' hg'; injection hg' with hg'; injection hg' with hg'; simp; omega)
                    obtain ⟨g', y, eg, _, hgl, _, hcv⟩ := o4.get hlt
                    injection eg with eg
                    injection eg with eg
                    subst eg
                    have k0 := hcv 0 _ rfl
                    have k1 := hcv 1 _ rfl
                    have kf0 := o4.frozen (i * 2)
                    have kf1 := o4.frozen (i * 2 + 1)
                    simp only [eCk, Nat.add_zero] at k0 k1
                    have hb6 := below_grown hbs hg4 hD0 (Nat.le_refl _)
                    clear hcv hL hOq hDq hOwq hbs l0 l1 l2 l3 HCL hg4
                    refine hide ?_
                    go_wp2
                    go_roundw
                    case rel => exact ⟨i + 1, by omega, by go_num, by rw [HDET.out]; exact Dr.far (Dr.far hD4 hDG _) hDG _, by rw [HDET.out]; exact set_repl HLEN.out hlt ▸ o4.store2 hlt ⟨yb, yk⟩ rfl rfl rfl, (hb6.setCell hG0 _).setCell hG0 _⟩
                    case measure => simp [intOf] <;> omega
              · obtain rfl : n = i := by omega
                go_wp2
                go_ret2
                exact SDet.ok HZ.out (below_on hb2 hbq) (by rw [HL.out]; simp) hOw.rd
    · have HS := hide hs
      by_cases hs1 : sh < -16
      · clear hs
        go_wp2_with (first | (refine wl_load (o := ⟨some 18, _, _, _, _, _⟩) rfl 26 _ rfl w.heap.size rfl 26 (cells18 f) _ hO Tryd.underlying26 rfl (by kernel_rfl) ?_) | (go_at_call 10; refine HCK.out.mono ?_; rintro e w1 ⟨rfl, hb1⟩))
        go_ret2
        exact SDet.err (detErr_shift H0.out HS.out) (by omega) (below_on hb hb1)
      · have hs2 : 16 < sh := by omega
        clear hs
        go_wp2_with (first | (refine wl_load (o := ⟨some 18, _, _, _, _, _⟩) rfl 26 _ rfl w.heap.size rfl 26 (cells18 f) _ hO Tryd.underlying26 rfl (by kernel_rfl) ?_) | (go_at_call 10; refine HCK.out.mono ?_; rintro e w1 ⟨rfl, hb1⟩))
        go_ret2
        exact SDet.err (detErr_shift H0.out HS.out) (by omega) (below_on hb hb1)
  · have h2 := checkErr_two h0
    rw [h2] at hck
    have HCK := hide hck
    have H2 := hide h2
    clear hck h0 h2
    go_wp2_with (first | (refine wl_load (o := ⟨some 18, _, _, _, _, _⟩) rfl 26 _ rfl w.heap.size rfl 26 (cells18 f) _ hO Tryd.underlying26 rfl (by kernel_rfl) ?_) | (go_at_call 10; refine HCK.out.mono ?_; rintro e w1 ⟨rfl, hb1⟩))
    go_ret2
    exact SDet.err (detErr_check H2.out) (by omega) (below_on hb hb1)
end Go.Proofs.YthdidjnhfkeokaaDoor
