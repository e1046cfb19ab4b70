/- Contract of the reference's Check. -/
import Derived.Test.YthdidjnhfkeokaaDoorQs
namespace Go.Proofs.YthdidjnhfkeokaaDoor
open Go.RowKit

theorem checkErr_A {f : Nat → Int} (h : okA f = false) : checkErr f = 2 := by unfold checkErr okO; rw [h]; rfl
theorem checkErr_R {f : Nat → Int} {k : Nat} (hk : k < 3) (h : wts (rowL f k) = false) : checkErr f = 2 := by
  have : rowsOk f 3 = false := by
    cases hr : rowsOk f 3
    · rfl
    · have := List.all_eq_true.1 hr k (by simp; omega)
      rw [h] at this; exact this.symm
  unfold checkErr okO; rw [this, Bool.and_false]; rfl
theorem checkErr_Z {f : Nat → Int} (hA : okA f = true) (hr : rowsOk f 3 = true) : checkErr f = if (decide (f 4 = 256) && (decide (f 0 = 1) || (decide (f 3 = 256) && decide (f 8 = 256)))) then 0 else 2 := by
  unfold checkErr; rw [okO_iff hA hr]

set_option maxRecDepth 100000 in
set_option maxHeartbeats 6400000 in
theorem rcheck_c (f : Nat → Int) (w : World) : Calls Tryd.prog 11 #[.agg (cells18 f)] w fun e w' => e = .returned (.int .i64 (checkErr f)) ∧ Below w.heap.size w w' := by
  go_enter Tryd.func11, Tryd.ntmps11
  go_upto_region 1 with fail
  have hO := Blk.newAt w 26 (cells18 f) w.heap.size rfl
  have hb := below_alloc w (.cells (cells18 f) 26)
  obtain ⟨W, hW⟩ : ∃ W, W = w.alloc (.cells (cells18 f) 26) := ⟨_, rfl⟩
  rw [← hW] at hO hb ⊢
  clear hW
  have c0 := hO.cell 0
  have c16 := hO.cell 16
  have c17 := hO.cell 17
  rw [cells18_get f (by omega)] at c0 c16 c17
  have hw := fun W' (h : W = W') => rrow_c _ _ _ _ W _ (cls_rd hO) (by omega)
  have hw := hw W rfl
  have h16 := fun W' => rpart_c (f 16) W'
  have h17 := fun W' => rpart_c (f 17) W'
  by_cases hlo : f 0 < 0
  · have HF := hide (checkErr_A (f := f) (by unfold okA; rw [decide_eq_false (by omega)]; rfl))
    go_wp2
    go_ret
    exact ⟨ret_i HF.out.symm, hb⟩
  by_cases hhi : f 0 > 2
  · have HF := hide (checkErr_A (f := f) (by unfold okA; rw [decide_eq_false (by omega)]; rfl))
    go_wp2
    go_ret
    exact ⟨ret_i HF.out.symm, hb⟩
  have HD := hide (show decide (0 ≤ f 0 ∧ f 0 ≤ 2) = true from decide_eq_true (by omega))
  obtain ⟨bw, hbw⟩ : ∃ b, wts [f 1, f 2, f 3] = b := ⟨_, rfl⟩
  obtain ⟨b16, hb16⟩ : ∃ b, part (f 16) = b := ⟨_, rfl⟩
  obtain ⟨b17, hb17⟩ : ∃ b, part (f 17) = b := ⟨_, rfl⟩
  rw [hbw] at hw
  rw [hb16] at h16
  rw [hb17] at h17
  have HW := hide hw
  have H16 := hide h16
  have H17 := hide h17
  have HBW := hide hbw
  have HB16 := hide hb16
  have HB17 := hide hb17
  clear hw h16 h17 hbw hb16 hb17
  cases bw
  · have HF := hide (checkErr_A (f := f) (by unfold okA; rw [HBW.out, Bool.and_false]; rfl))
    go_wp2_with (go_at_call 40; refine HW.out.mono ?_; rintro e w' ⟨rfl, rfl⟩)
    go_ret
    exact ⟨ret_i HF.out.symm, hb⟩
  cases b16
  · have HF := hide (checkErr_A (f := f) (by unfold okA; rw [HB16.out, Bool.and_false]; rfl))
    go_wp2_with (first | (go_at_call 40; refine HW.out.mono ?_; rintro e w' ⟨rfl, rfl⟩) | (go_at_call 41; refine (H16.out _).mono ?_; rintro e w' ⟨rfl, rfl⟩))
    go_ret
    exact ⟨ret_i HF.out.symm, hb⟩
  cases b17
  · have HF := hide (checkErr_A (f := f) (by unfold okA; rw [HB17.out, Bool.and_false]))
    go_wp2_with (first | (go_at_call 40; refine HW.out.mono ?_; rintro e w' ⟨rfl, rfl⟩) | (go_at_call 41; refine (H16.out _).mono ?_; rintro e w' ⟨rfl, rfl⟩) | (go_at_call 41; refine (H17.out _).mono ?_; rintro e w' ⟨rfl, rfl⟩))
    go_ret
    exact ⟨ret_i HF.out.symm, hb⟩
  have HA := hide (show okA f = true by unfold okA; rw [HD.out, HBW.out, HB16.out, HB17.out]; rfl)
  clear HD HBW HB16 HB17
  go_wp2_with (first | (go_at_call 40; refine HW.out.mono ?_; rintro e w' ⟨rfl, rfl⟩) | (go_at_call 41; refine (H16.out _).mono ?_; rintro e w' ⟨rfl, rfl⟩) | (go_at_call 41; refine (H17.out _).mono ?_; rintro e w' ⟨rfl, rfl⟩))
  go_loopw [3] (fun iv wr => ∃ k : Nat, k ≤ 3 ∧ iv = .int .i64 k ∧ rowsOk f k = true ∧ wr = W) (fun iv _ => 3 - (intOf iv).toNat)
  case atStart => exact ⟨0, by omega, rfl, by simp [rowsOk], rfl⟩
  case round =>
    obtain ⟨k, hk, rfl, hall, rfl⟩ := hrel
    have HALL := hide hall
    clear hall
    by_cases hlt : k < 3
    · have hw := rrow_c _ _ _ _ wr _ (row_rd2 hlt hO) (by omega)
      obtain ⟨bk, hbk⟩ : ∃ b, wts (rowL f k) = b := ⟨_, rfl⟩
      rw [hbk] at hw
      have HK := hide hw
      have HBK := hide hbk
      clear hw hbk HW
      have hk3 : k = 0 ∨ k = 1 ∨ k = 2 := by omega
      rcases hk3 with rfl | rfl | rfl
      · cases bk
        · have HF := hide (checkErr_R (by omega) HBK.out)
          go_wp2_with (go_at_call 40; refine HK.out.mono ?_; rintro e w' ⟨rfl, rfl⟩)
          go_ret
          exact ⟨ret_i HF.out.symm, hb⟩
        · go_wp2_with (go_at_call 40; refine HK.out.mono ?_; rintro e w' ⟨rfl, rfl⟩)
          go_roundw
          case rel => exact ⟨1, by omega, by go_num, by rw [rowsOk_succ, HALL.out, HBK.out]; rfl, by first | rfl | trivial⟩
          case measure => simp [intOf] <;> omega
      · cases bk
        · have HF := hide (checkErr_R (by omega) HBK.out)
          go_wp2_with (go_at_call 40; refine HK.out.mono ?_; rintro e w' ⟨rfl, rfl⟩)
          go_ret
          exact ⟨ret_i HF.out.symm, hb⟩
        · go_wp2_with (go_at_call 40; refine HK.out.mono ?_; rintro e w' ⟨rfl, rfl⟩)
          go_roundw
          case rel => exact ⟨2, by omega, by go_num, by rw [rowsOk_succ, HALL.out, HBK.out]; rfl, by first | rfl | trivial⟩
          case measure => simp [intOf] <;> omega
      · cases bk
        · have HF := hide (checkErr_R (by omega) HBK.out)
          go_wp2_with (go_at_call 40; refine HK.out.mono ?_; rintro e w' ⟨rfl, rfl⟩)
          go_ret
          exact ⟨ret_i HF.out.symm, hb⟩
        · go_wp2_with (go_at_call 40; refine HK.out.mono ?_; rintro e w' ⟨rfl, rfl⟩)
          go_roundw
          case rel => exact ⟨3, by omega, by go_num, by rw [rowsOk_succ, HALL.out, HBK.out]; rfl, by first | rfl | trivial⟩
          case measure => simp [intOf] <;> omega
    · obtain rfl : k = 3 := by omega
      have HZ := hide (checkErr_Z HA.out HALL.out)
      have c4 := hO.cell 4
      have c3 := hO.cell 3
      have c8 := hO.cell 8
      rw [cells18_get f (by omega)] at c3 c4 c8
      by_cases h4 : f 4 = 256
      · rw [decide_eq_true h4, Bool.true_and] at HZ
        have g4 : (f 4 != 256) = false := by simpa using h4
        clear h4
        by_cases h1 : f 0 = 1
        · rw [decide_eq_true h1, Bool.true_or] at HZ
          have g1 : (f 0 != 1) = false := by simpa using h1
          clear h1
          go_wp2
          go_ret
          exact ⟨ret_i HZ.out.symm, hb⟩
        · rw [decide_eq_false h1, Bool.false_or] at HZ
          have g1 : (f 0 != 1) = true := by simpa using h1
          clear h1
          by_cases h3 : f 3 = 256
          · rw [decide_eq_true h3, Bool.true_and] at HZ
            have g3 : (f 3 != 256) = false := by simpa using h3
            clear h3
            by_cases h8 : f 8 = 256
            · rw [decide_eq_true h8] at HZ
              have g8 : (f 8 != 256) = false := by simpa using h8
              clear h8
              go_wp2
              go_ret
              exact ⟨ret_i HZ.out.symm, hb⟩
            · rw [decide_eq_false h8] at HZ
              have g8 : (f 8 != 256) = true := by simpa using h8
              clear h8
              go_wp2
              go_ret
              exact ⟨ret_i HZ.out.symm, hb⟩
          · rw [decide_eq_false h3, Bool.false_and] at HZ
            have g3 : (f 3 != 256) = true := by simpa using h3
            clear h3
            go_wp2
            go_ret
            exact ⟨ret_i HZ.out.symm, hb⟩
      · rw [decide_eq_false h4, Bool.false_and] at HZ
        have g4 : (f 4 != 256) = true := by simpa using h4
        clear h4
        go_wp2
        go_ret
        exact ⟨ret_i HZ.out.symm, hb⟩
end Go.Proofs.YthdidjnhfkeokaaDoor
