/- The walk of the law OpticsTexts. -/
import Derived.Test.YthdidjnhfkeokaaDoorZg
import Derived.Test.YthdidjnhfkeokaaDoorZh
import Derived.Test.YthdidjnhfkeokaaDoorQl
import Derived.Test.YthdidjnhfkeokaaDoorZj
import Derived.Test.YthdidjnhfkeokaaDoorZm
import Derived.Deep.RegionHeld3
namespace Go.Proofs.YthdidjnhfkeokaaDoor
open Go.RowKit

set_option linter.unusedSimpArgs false in
set_option maxRecDepth 100000 in
set_option maxHeartbeats 6400000 in
theorem texts_c (f : Nat → Int) (w : World) (ht : Tab w) (hm : Mx w) :
    Calls Tryd.prog 3 #[.agg (cells18 f)] w fun e w' => e = .returned (.bool true) ∧ Below w.heap.size w w' := by
  have hO := Blk.newAt w 26 (cells18 f) w.heap.size rfl
  have hb := below_alloc w (.cells (cells18 f) 26)
  have ht1 := ht.on hb
  have hm1 := hm.on hb
  obtain ⟨T, hT⟩ : ∃ T, T = (if okO f then textB f else ByteArray.empty) := ⟨_, rfl⟩
  obtain ⟨v, hv⟩ : ∃ v, v = checkErr f := ⟨_, rfl⟩
  have HT := hide hT
  have HV := hide hv
  have HX1 := hide (show ∀ W, Tab W → Calls Tryd.prog 8 #[.agg (cells18 f)] W fun e w' => e = .returned (.tuple #[.string T, .int .i64 v]) ∧ Below W.heap.size W w' from fun W h => by rw [hT, hv]; exact text_c f W h)
  have HX2 := hide (show ∀ W, Calls Tryd.prog 9 #[.agg (cells18 f)] W fun e w' => e = .returned (.tuple #[.string T, .int .i64 v]) ∧ Below W.heap.size W w' from fun W => by rw [hT, hv]; exact rtext_c f W)
  have hvv : (v != v) = false := by simp
  clear hT hv
  go_enter Tryd.func3, Tryd.ntmps3
  go_upto_region 1 with fail
  obtain ⟨W, hW⟩ : ∃ W, W = w.alloc (.cells (cells18 f) 26) := ⟨_, rfl⟩
  rw [← hW] at hO hb ht1 hm1 ⊢
  clear hW ht hm
  obtain ⟨gO, hgO⟩ : ∃ q, q = w.heap.size := ⟨_, rfl⟩
  rw [← hgO] at hO ⊢
  have HGO := hide hgO
  clear hgO
  go_upto_region 2 with (first | (refine wl_load (o := ⟨some 9, _, _, _, _, _⟩) rfl 26 _ rfl gO rfl 26 (cells18 f) _ hO Tryd.underlying26 rfl (by kernel_rfl) ?_) | (go_at_call 8; refine (HX1.out W ht1).mono ?_; rintro e w1 ⟨rfl, hb1⟩))
  have hO1 := hO.keep hb1
  go_upto_region 3 with (first | (refine wl_load (o := ⟨some 14, _, _, _, _, _⟩) rfl 26 _ rfl gO rfl 26 (cells18 f) _ hO1 Tryd.underlying26 rfl (by kernel_rfl) ?_) | (go_at_call 9; refine (HX2.out w1).mono ?_; rintro e w2 ⟨rfl, hb2⟩))
  have hb3 := below_on hb1 hb2
  have hO2 := hO.keep hb3
  have ht2 := ht1.on hb3
  have hm2 := hm1.on hb3
  have hbw := below_on hb hb3
  clear hO hO1 hb1 hb2 hb3 ht1 hm1 hb HX1 HX2
  have E0 := hide (Below.refl w2.heap.size w2).drew
  have HC1 := hide (show ∀ W, Below w2.heap.size w2 W → Calls Tryd.prog 10 #[.agg (cells18 f)] W fun e w' => e = .returned (.int .i64 v) ∧ Below w2.heap.size w2 w' from fun W h => (check_c f W).mono fun e w' q => ⟨by rw [HV.out]; exact q.1, below_on h q.2⟩)
  have HC2 := hide (show ∀ W, Below w2.heap.size w2 W → Calls Tryd.prog 11 #[.agg (cells18 f)] W fun e w' => e = .returned (.int .i64 v) ∧ Below w2.heap.size w2 w' from fun W h => (rcheck_c f W).mono fun e w' q => ⟨by rw [HV.out]; exact q.1, below_on h q.2⟩)
  refine wp_region_held_drew (S := fun W => Blk W gO 26 (cells18 f)) (by kernel_rfl) (hO2.keep E0.out) (fun hHeld => ?_)
  refine wpAnyH_take (i := 0) (v := _) rfl (by kernel_rfl) (by kernel_rfl) (by kernel_rfl) (fun _ _ _ h => h) (yieldsIf_load_blk (by rfl) 26 _ rfl gO rfl 26 (cells18 f) _ (fun _ h => h) Tryd.underlying26 rfl (by kernel_rfl)) hHeld ?_
  try simp only [Act.put, List.getElem_toArray, List.getElem_cons_succ, List.getElem_cons_zero, List.setIfInBounds_toArray, List.set_cons_zero, List.set_cons_succ]
  refine wpAnyH_take (i := 2) (v := _) rfl (by kernel_rfl) (by kernel_rfl) (by kernel_rfl) (fun _ _ _ h => h) (yieldsIf_load_blk (by rfl) 26 _ rfl gO rfl 26 (cells18 f) _ (fun _ h => h) Tryd.underlying26 rfl (by kernel_rfl)) hHeld ?_
  try simp only [Act.put, List.getElem_toArray, List.getElem_cons_succ, List.getElem_cons_zero, List.setIfInBounds_toArray, List.set_cons_zero, List.set_cons_succ]
  refine wpAnyH_ready (rs := [1]) (by kernel_rfl) (by simp) ?_
  refine AllReadyH.cons (i := 1) rfl (fun K hK => ?_) AllReadyH.nil
  go_simp
  refine (HC1.out w2.drew E0.out).mono ?_
  rintro e w1 ⟨rfl, hb1⟩
  refine hK.out _ _ (hO2.keep hb1) (fun hHeld => ?_)
  clear hK K
  try simp only [Act.put, List.getElem_toArray, List.getElem_cons_succ, List.getElem_cons_zero, List.setIfInBounds_toArray, List.set_cons_zero, List.set_cons_succ]
  refine wpAnyH_ready (rs := [3]) (by kernel_rfl) (by simp) ?_
  refine AllReadyH.cons (i := 3) rfl (fun K hK => ?_) AllReadyH.nil
  go_simp
  refine (HC2.out w1 hb1).mono ?_
  rintro e w3 ⟨rfl, hb3⟩
  refine hK.out _ _ (hO2.keep hb3) (fun hHeld => ?_)
  clear hK K
  try simp only [Act.put, List.getElem_toArray, List.getElem_cons_succ, List.getElem_cons_zero, List.setIfInBounds_toArray, List.set_cons_zero, List.set_cons_succ]
  refine wpAnyH_take (i := 4) (v := .bool false) rfl (by kernel_rfl) (by kernel_rfl) (by kernel_rfl) (fun _ _ _ h => h) (yieldsIf_neq_int (by rfl) _ _ _ _ rfl .i64 v rfl rfl) hHeld ?_
  try simp only [Act.put, List.getElem_toArray, List.getElem_cons_succ, List.getElem_cons_zero, List.setIfInBounds_toArray, List.set_cons_zero, List.set_cons_succ]
  refine wpAnyH_take (i := 5) (v := .bool false) rfl (by kernel_rfl) (by kernel_rfl) (by kernel_rfl) (fun _ _ _ h => h) (yieldsIf_move (by rfl) _ (Or.inl rfl) _ rfl) hHeld ?_
  try simp only [Act.put, List.getElem_toArray, List.getElem_cons_succ, List.getElem_cons_zero, List.setIfInBounds_toArray, List.set_cons_zero, List.set_cons_succ]
  refine wpAnyH_take (i := 6) (v := .string T) rfl (by kernel_rfl) (by kernel_rfl) (by kernel_rfl) (fun _ _ _ h => h) (yieldsIf_move (by rfl) _ (Or.inl rfl) _ rfl) hHeld ?_
  try simp only [Act.put, List.getElem_toArray, List.getElem_cons_succ, List.getElem_cons_zero, List.setIfInBounds_toArray, List.set_cons_zero, List.set_cons_succ]
  refine wpAnyH_take (i := 7) (v := .string T) rfl (by kernel_rfl) (by kernel_rfl) (by kernel_rfl) (fun _ _ _ h => h) (yieldsIf_move (by rfl) _ (Or.inl rfl) _ rfl) hHeld ?_
  try simp only [Act.put, List.getElem_toArray, List.getElem_cons_succ, List.getElem_cons_zero, List.setIfInBounds_toArray, List.set_cons_zero, List.set_cons_succ]
  refine wpAnyH_take (i := 8) (v := .bool false) rfl (by kernel_rfl) (by kernel_rfl) (by kernel_rfl) (fun _ _ _ h => h) (yieldsIf_neq_str (by rfl) _ _ _ _ rfl T rfl rfl) hHeld ?_
  try simp only [Act.put, List.getElem_toArray, List.getElem_cons_succ, List.getElem_cons_zero, List.setIfInBounds_toArray, List.set_cons_zero, List.set_cons_succ]
  refine wpAnyH_take (i := 9) (v := .bool false) rfl (by kernel_rfl) (by kernel_rfl) (by kernel_rfl) (fun _ _ _ h => h) (yieldsIf_pick_false (by rfl) _ _ _ rfl rfl _ rfl) hHeld ?_
  try simp only [Act.put, List.getElem_toArray, List.getElem_cons_succ, List.getElem_cons_zero, List.setIfInBounds_toArray, List.set_cons_zero, List.set_cons_succ]
  refine wpAnyH_take (i := 10) (v := .bool false) rfl (by kernel_rfl) (by kernel_rfl) (by kernel_rfl) (fun _ _ _ h => h) (yieldsIf_move (by rfl) _ (Or.inl rfl) _ rfl) hHeld ?_
  try simp only [Act.put, List.getElem_toArray, List.getElem_cons_succ, List.getElem_cons_zero, List.setIfInBounds_toArray, List.set_cons_zero, List.set_cons_succ]
  refine wpAnyH_take (i := 11) (v := .int .i64 v) rfl (by kernel_rfl) (by kernel_rfl) (by kernel_rfl) (fun _ _ _ h => h) (yieldsIf_move (by rfl) _ (Or.inl rfl) _ rfl) hHeld ?_
  try simp only [Act.put, List.getElem_toArray, List.getElem_cons_succ, List.getElem_cons_zero, List.setIfInBounds_toArray, List.set_cons_zero, List.set_cons_succ]
  refine wpAnyH_take (i := 12) (v := .int .i64 v) rfl (by kernel_rfl) (by kernel_rfl) (by kernel_rfl) (fun _ _ _ h => h) (yieldsIf_move (by rfl) _ (Or.inl rfl) _ rfl) hHeld ?_
  try simp only [Act.put, List.getElem_toArray, List.getElem_cons_succ, List.getElem_cons_zero, List.setIfInBounds_toArray, List.set_cons_zero, List.set_cons_succ]
  refine wpAnyH_take (i := 13) (v := .bool false) rfl (by kernel_rfl) (by kernel_rfl) (by kernel_rfl) (fun _ _ _ h => h) (yieldsIf_neq_int (by rfl) _ _ _ _ rfl .i64 v rfl rfl) hHeld ?_
  try simp only [Act.put, List.getElem_toArray, List.getElem_cons_succ, List.getElem_cons_zero, List.setIfInBounds_toArray, List.set_cons_zero, List.set_cons_succ]
  refine wpAnyH_take (i := 14) (v := .bool false) rfl (by kernel_rfl) (by kernel_rfl) (by kernel_rfl) (fun _ _ _ h => h) (yieldsIf_pick_false (by rfl) _ _ _ rfl rfl _ rfl) hHeld ?_
  try simp only [Act.put, List.getElem_toArray, List.getElem_cons_succ, List.getElem_cons_zero, List.setIfInBounds_toArray, List.set_cons_zero, List.set_cons_succ]
  refine wpAnyH_done (by kernel_rfl) ?_ _
  have hO3 := hO2.keep hb3
  have ht3 := ht2.on hb3
  have hm3 := hm2.on hb3
  have hbx := below_on hbw hb3
  clear hHeld hO2 ht2 hm2 hbw hb1 hb3 HC1 HC2 E0
  cases hok : okO f
  · obtain rfl : v = 2 := by rw [HV.out]; unfold checkErr; rw [hok]; rfl
    have HW := hide (works_c w3 ht3)
    clear hok hO3
    go_wp2_with (go_at_call 12; refine HW.out.mono ?_; rintro e w5 ⟨rfl, hb5⟩)
    go_ret
    exact ⟨rfl, below_on hbx hb5⟩
  · obtain rfl : v = 0 := by rw [HV.out]; unfold checkErr; rw [hok]; rfl
    have hT : T = textB f := by rw [HT.out, if_pos hok]
    have hTs : T.size ≤ 1000000 := by
      rw [hT, textB_tx, strB_size]
      have := txL_len hok 17 (Nat.le_refl _)
      omega
    have HP := hide (show Calls Tryd.prog 13 #[.string T] w3 fun e w' => e = .returned (.tuple #[.agg (cells18 f), .int .i64 0]) ∧ Below w3.heap.size w3 w' from (parse_c T w3 hm3 hTs).mono fun e w' h => by
      obtain ⟨g, err, he, hp, hb⟩ := h
      obtain ⟨hc, herr⟩ := (SPar.refGood hok hT.symm).uniq hp
      rw [he, ← hc, ← herr]
      exact ⟨rfl, hb⟩)
    have HTB := hide ht3
    clear hok hT hTs hm3 ht3
    go_upto_region 8 with (first | (go_at_call 13; refine HP.out.mono ?_; rintro e w5 ⟨rfl, hb5⟩; have b0 := Blk.newAt w5 26 (cells18 fun _ => 0) w5.heap.size rfl) | (refine wl_store (o := ⟨none, _, _, _, _, _⟩) rfl 26 _ _ rfl w5.heap.size (cells18 f) rfl rfl 26 (cells18 fun _ => 0) b0 (by kernel_rfl) rfl (cells18_one _) ?_; intro W6 b6 hgr6))
    have hbz := (below_on hbx hb5).size
    have hO6 := ((hO3.keep hb5).alloc (.cells (cells18 fun _ => 0) 26)).grown hgr6 (by have := (hO3.keep hb5).lt; simp; omega)
    have hb6 := below_grown (below_on (below_on hbx hb5) (below_alloc w5 (.cells (cells18 fun _ => 0) 26))) hgr6 hbz (Nat.le_refl _)
    obtain ⟨g6, hg6⟩ : ∃ q, q = w5.heap.size := ⟨_, rfl⟩
    rw [← hg6] at b6 ⊢
    have HW := hide (works_c W6 (HTB.out.on (below_grown (below_on hb5 (below_alloc w5 (.cells (cells18 fun _ => 0) 26))) hgr6 hb5.size (Nat.le_refl _))))
    have HE := eqlO f
    clear hg6 b0 hgr6 hbz hb5 hbx hO3
    go_wp2_with (first | (refine wl_loadG (o := ⟨some 44, _, _, _, _, _⟩) (by rfl) 26 _ rfl g6 rfl 26 (cells18 f) _ b6 Tryd.underlying26 rfl (by kernel_rfl) ?_) | (refine wl_loadG (o := ⟨some 45, _, _, _, _, _⟩) (by rfl) 26 _ rfl gO rfl 26 (cells18 f) _ hO6 Tryd.underlying26 rfl (by kernel_rfl) ?_) | (go_at_call 12; refine HW.out.mono ?_; rintro e w7 ⟨rfl, hb7⟩))
    go_ret
    exact ⟨by simp, below_on hb6 hb7⟩
theorem texts_w (f : Nat → Int) (_ : True) (w : World) (ht : Tab w) (hm : Mx w) : Calls Tryd.prog 3 #[.agg (cells18 f)] w fun e w' => e = .returned (.bool true) ∧ Below w.heap.size w w' := texts_c f w ht hm
end Go.Proofs.YthdidjnhfkeokaaDoor
