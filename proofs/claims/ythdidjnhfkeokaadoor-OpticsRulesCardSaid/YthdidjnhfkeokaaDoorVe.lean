/- Contracts of the reference's span and CheckRule. -/
import Derived.Test.YthdidjnhfkeokaaDoorVc
import Derived.Test.YthdidjnhfkeokaaDoorQb
namespace Go.Proofs.YthdidjnhfkeokaaDoor
open Go.RowKit

theorem span_true {k fr td a b : Int} (h : okSpan ⟨k, fr, td, a, b⟩ = true) : 0 ≤ fr ∧ fr ≤ td ∧ td < 4096 := by simpa [okSpan] using h
theorem span_false {k fr td a b : Int} (h : okSpan ⟨k, fr, td, a, b⟩ = false) : ¬ (0 ≤ fr ∧ fr ≤ td ∧ td < 4096) := by
  intro hc; unfold okSpan at h; rw [decide_eq_true (by simpa using hc)] at h; cases h
set_option maxRecDepth 100000 in
set_option maxHeartbeats 1600000 in
theorem rspan_v (k fr td a b : Int) (v : Bool) (h : okSpan ⟨k, fr, td, a, b⟩ = v) (w : World) : Calls Tryd.prog 55 #[.agg #[.int .i64 k, .int .i64 fr, .int .i64 td, .int .i64 a, .int .i64 b]] w fun e w' => e = .returned (.bool v) ∧ Below w.heap.size w w' := by
  cases v
  · have HS := hide (span_false h)
    clear h
    go_enter Tryd.func55, Tryd.ntmps55
    go_wp2
    all_goals
      first
        | (exfalso; have := HS.out; omega)
        | (go_ret
           first
             | exact ⟨rfl, below_alloc _ _⟩
             | (have hz : ¬ td < 4096 := by have := HS.out; omega
                exact ⟨by simp [hz], below_alloc _ _⟩))
  · obtain ⟨s1, s2, s3⟩ := span_true h
    clear h
    go_enter Tryd.func55, Tryd.ntmps55
    go_wp2
    go_ret
    exact ⟨rfl, below_alloc _ _⟩

set_option maxRecDepth 100000 in
set_option maxHeartbeats 3200000 in
theorem rcheckRule_1 (fr td a b : Int) (w : World) : Calls Tryd.prog 24 #[.agg #[.int .i64 1, .int .i64 fr, .int .i64 td, .int .i64 a, .int .i64 b]] w fun e w' => e = .returned (.int .i64 (ruErr ⟨1, fr, td, a, b⟩)) ∧ Below w.heap.size w w' := by
  cases hpv : part a
  · have hpc := fun W => rpart_c a W
    rw [hpv] at hpc
    have HP := hide hpc
    have HPP := hide hpv
    clear hpc hpv
    go_enter Tryd.func24, Tryd.ntmps24
    go_wp2_with (first | (go_at_call 41; refine (HP.out _).mono ?_; rintro e w' ⟨rfl, rfl⟩))
    all_goals
      go_ret
      have hqp := part_false HPP.out
      refine ⟨ret_ru ?_, by first | exact below_alloc _ _ | exact below_on (below_alloc _ _) hb1⟩
      first
        | (refine ruErr_no ?_; unfold okRu okSpan; simp; intros; omega)
        | (refine ruErr_yes ?_; unfold okRu okSpan; simp; omega)
        | (have hz := ‹(!b == 0) = true›
           simp at hz
           refine ruErr_no ?_; unfold okRu okSpan; simp; intros; omega)
        | (have hz := ‹(!b == 0) = false›
           simp at hz
           refine ruErr_yes ?_; unfold okRu okSpan; simp; omega)
  · have hpc := fun W => rpart_c a W
    rw [hpv] at hpc
    have HP := hide hpc
    have HPP := hide hpv
    clear hpc hpv
    go_enter Tryd.func24, Tryd.ntmps24
    go_wp2_with (first | (go_at_call 41; refine (HP.out _).mono ?_; rintro e w' ⟨rfl, rfl⟩))
    all_goals
      go_ret
      have hqp := part_true HPP.out
      refine ⟨ret_ru ?_, by first | exact below_alloc _ _ | exact below_on (below_alloc _ _) hb1⟩
      first
        | (refine ruErr_no ?_; unfold okRu okSpan; simp; intros; omega)
        | (refine ruErr_yes ?_; unfold okRu okSpan; simp; omega)
        | (have hz := ‹(!b == 0) = true›
           simp at hz
           refine ruErr_no ?_; unfold okRu okSpan; simp; intros; omega)
        | (have hz := ‹(!b == 0) = false›
           simp at hz
           refine ruErr_yes ?_; unfold okRu okSpan; simp; omega)

set_option maxRecDepth 100000 in
set_option maxHeartbeats 3200000 in
theorem rcheckRule_2 (fr td a b : Int) (w : World) : Calls Tryd.prog 24 #[.agg #[.int .i64 2, .int .i64 fr, .int .i64 td, .int .i64 a, .int .i64 b]] w fun e w' => e = .returned (.int .i64 (ruErr ⟨2, fr, td, a, b⟩)) ∧ Below w.heap.size w w' := by
  cases hpv : part a
  · have hpc := fun W => rpart_c a W
    rw [hpv] at hpc
    have HP := hide hpc
    have HPP := hide hpv
    clear hpc hpv
    go_enter Tryd.func24, Tryd.ntmps24
    go_wp2_with (first | (go_at_call 41; refine (HP.out _).mono ?_; rintro e w' ⟨rfl, rfl⟩))
    all_goals
      go_ret
      have hqp := part_false HPP.out
      refine ⟨ret_ru ?_, by first | exact below_alloc _ _ | exact below_on (below_alloc _ _) hb1⟩
      first
        | (refine ruErr_no ?_; unfold okRu okSpan; simp; intros; omega)
        | (refine ruErr_yes ?_; unfold okRu okSpan; simp; omega)
        | (have hz := ‹(!b == 0) = true›
           simp at hz
           refine ruErr_no ?_; unfold okRu okSpan; simp; intros; omega)
        | (have hz := ‹(!b == 0) = false›
           simp at hz
           refine ruErr_yes ?_; unfold okRu okSpan; simp; omega)
  · have hpc := fun W => rpart_c a W
    rw [hpv] at hpc
    have HP := hide hpc
    have HPP := hide hpv
    clear hpc hpv
    go_enter Tryd.func24, Tryd.ntmps24
    go_wp2_with (first | (go_at_call 41; refine (HP.out _).mono ?_; rintro e w' ⟨rfl, rfl⟩))
    all_goals
      go_ret
      have hqp := part_true HPP.out
      refine ⟨ret_ru ?_, by first | exact below_alloc _ _ | exact below_on (below_alloc _ _) hb1⟩
      first
        | (refine ruErr_no ?_; unfold okRu okSpan; simp; intros; omega)
        | (refine ruErr_yes ?_; unfold okRu okSpan; simp; omega)
        | (have hz := ‹(!b == 0) = true›
           simp at hz
           refine ruErr_no ?_; unfold okRu okSpan; simp; intros; omega)
        | (have hz := ‹(!b == 0) = false›
           simp at hz
           refine ruErr_yes ?_; unfold okRu okSpan; simp; omega)

set_option maxRecDepth 100000 in
set_option maxHeartbeats 3200000 in
theorem rcheckRule_3 (fr td a b : Int) (w : World) : Calls Tryd.prog 24 #[.agg #[.int .i64 3, .int .i64 fr, .int .i64 td, .int .i64 a, .int .i64 b]] w fun e w' => e = .returned (.int .i64 (ruErr ⟨3, fr, td, a, b⟩)) ∧ Below w.heap.size w w' := by
  go_enter Tryd.func24, Tryd.ntmps24
  go_wp2_with (first | (go_at_call 54; refine (rtruth_c _ _).mono ?_; rintro e w' ⟨rfl, rfl⟩))
  all_goals
    go_ret
    refine ⟨ret_ru ?_, by first | exact below_alloc _ _ | exact below_on (below_alloc _ _) hb1⟩
    first
      | (refine ruErr_no ?_; unfold okRu okSpan; simp; intros; omega)
      | (refine ruErr_yes ?_; unfold okRu okSpan; simp; omega)
      | (have hz := ‹(!decide (b = 0)) = true ∧ (!decide (b = 1)) = true ∨ (!decide (a ≤ 16)) = true›
         simp at hz
         refine ruErr_no ?_; unfold okRu okSpan; simp; intros; omega)
      | (have hz := ‹((!decide (b = 0)) = false ∨ (!decide (b = 1)) = false) ∧ (!decide (a ≤ 16)) = false›
         simp at hz
         refine ruErr_yes ?_; unfold okRu okSpan; simp; omega)

set_option maxRecDepth 100000 in
set_option maxHeartbeats 3200000 in
theorem rcheckRule_4 (fr td a b : Int) (w : World) : Calls Tryd.prog 24 #[.agg #[.int .i64 4, .int .i64 fr, .int .i64 td, .int .i64 a, .int .i64 b]] w fun e w' => e = .returned (.int .i64 (ruErr ⟨4, fr, td, a, b⟩)) ∧ Below w.heap.size w w' := by
  cases hsv : okSpan ⟨4, fr, td, a, b⟩
  · have HSP := hide hsv
    clear hsv
    cases hpv : part a
    · have hpc := fun W => rpart_c a W
      rw [hpv] at hpc
      have HP := hide hpc
      have HPP := hide hpv
      clear hpc hpv
      by_cases hf : fr = 0
      · subst hf
        go_enter Tryd.func24, Tryd.ntmps24
        go_wp2_with (first | (go_at_call 55; refine (rspan_v _ _ _ _ _ _ HSP.out _).mono ?_; rintro e w1 ⟨rfl, hb1⟩; have hB := (Blk.new w _ _).keep hb1; have z3 := hB.cell 3; have z4 := hB.cell 4; simp only [List.getElem?_toArray, List.getElem?_cons_zero, List.getElem?_cons_succ] at z3 z4) | (go_at_call 41; refine (HP.out _).mono ?_; rintro e w' ⟨rfl, rfl⟩))
        all_goals
          go_ret
          have hqs := span_false HSP.out
          have hqp := part_false HPP.out
          refine ⟨ret_ru ?_, by first | exact below_alloc _ _ | exact below_on (below_alloc _ _) hb1⟩
          first
            | (refine ruErr_no ?_; unfold okRu okSpan; simp; intros; omega)
            | (refine ruErr_yes ?_; unfold okRu okSpan; simp; omega)
            | (have hz := ‹(!b == 0) = true›
               simp at hz
               refine ruErr_no ?_; unfold okRu okSpan; simp; intros; omega)
            | (have hz := ‹(!b == 0) = false›
               simp at hz
               refine ruErr_yes ?_; unfold okRu okSpan; simp; omega)
      · go_enter Tryd.func24, Tryd.ntmps24
        go_wp2_with (first | (go_at_call 55; refine (rspan_v _ _ _ _ _ _ HSP.out _).mono ?_; rintro e w1 ⟨rfl, hb1⟩; have hB := (Blk.new w _ _).keep hb1; have z3 := hB.cell 3; have z4 := hB.cell 4; simp only [List.getElem?_toArray, List.getElem?_cons_zero, List.getElem?_cons_succ] at z3 z4) | (go_at_call 41; refine (HP.out _).mono ?_; rintro e w' ⟨rfl, rfl⟩))
        all_goals
          go_ret
          have hqs := span_false HSP.out
          have hqp := part_false HPP.out
          refine ⟨ret_ru ?_, by first | exact below_alloc _ _ | exact below_on (below_alloc _ _) hb1⟩
          first
            | (refine ruErr_no ?_; unfold okRu okSpan; simp; intros; omega)
            | (refine ruErr_yes ?_; unfold okRu okSpan; simp; omega)
            | (have hz := ‹(!b == 0) = true›
               simp at hz
               refine ruErr_no ?_; unfold okRu okSpan; simp; intros; omega)
            | (have hz := ‹(!b == 0) = false›
               simp at hz
               refine ruErr_yes ?_; unfold okRu okSpan; simp; omega)
    · have hpc := fun W => rpart_c a W
      rw [hpv] at hpc
      have HP := hide hpc
      have HPP := hide hpv
      clear hpc hpv
      by_cases hf : fr = 0
      · subst hf
        go_enter Tryd.func24, Tryd.ntmps24
        go_wp2_with (first | (go_at_call 55; refine (rspan_v _ _ _ _ _ _ HSP.out _).mono ?_; rintro e w1 ⟨rfl, hb1⟩; have hB := (Blk.new w _ _).keep hb1; have z3 := hB.cell 3; have z4 := hB.cell 4; simp only [List.getElem?_toArray, List.getElem?_cons_zero, List.getElem?_cons_succ] at z3 z4) | (go_at_call 41; refine (HP.out _).mono ?_; rintro e w' ⟨rfl, rfl⟩))
        all_goals
          go_ret
          have hqs := span_false HSP.out
          have hqp := part_true HPP.out
          refine ⟨ret_ru ?_, by first | exact below_alloc _ _ | exact below_on (below_alloc _ _) hb1⟩
          first
            | (refine ruErr_no ?_; unfold okRu okSpan; simp; intros; omega)
            | (refine ruErr_yes ?_; unfold okRu okSpan; simp; omega)
            | (have hz := ‹(!b == 0) = true›
               simp at hz
               refine ruErr_no ?_; unfold okRu okSpan; simp; intros; omega)
            | (have hz := ‹(!b == 0) = false›
               simp at hz
               refine ruErr_yes ?_; unfold okRu okSpan; simp; omega)
      · go_enter Tryd.func24, Tryd.ntmps24
        go_wp2_with (first | (go_at_call 55; refine (rspan_v _ _ _ _ _ _ HSP.out _).mono ?_; rintro e w1 ⟨rfl, hb1⟩; have hB := (Blk.new w _ _).keep hb1; have z3 := hB.cell 3; have z4 := hB.cell 4; simp only [List.getElem?_toArray, List.getElem?_cons_zero, List.getElem?_cons_succ] at z3 z4) | (go_at_call 41; refine (HP.out _).mono ?_; rintro e w' ⟨rfl, rfl⟩))
        all_goals
          go_ret
          have hqs := span_false HSP.out
          have hqp := part_true HPP.out
          refine ⟨ret_ru ?_, by first | exact below_alloc _ _ | exact below_on (below_alloc _ _) hb1⟩
          first
            | (refine ruErr_no ?_; unfold okRu okSpan; simp; intros; omega)
            | (refine ruErr_yes ?_; unfold okRu okSpan; simp; omega)
            | (have hz := ‹(!b == 0) = true›
               simp at hz
               refine ruErr_no ?_; unfold okRu okSpan; simp; intros; omega)
            | (have hz := ‹(!b == 0) = false›
               simp at hz
               refine ruErr_yes ?_; unfold okRu okSpan; simp; omega)
  · have HSP := hide hsv
    clear hsv
    cases hpv : part a
    · have hpc := fun W => rpart_c a W
      rw [hpv] at hpc
      have HP := hide hpc
      have HPP := hide hpv
      clear hpc hpv
      by_cases hf : fr = 0
      · subst hf
        go_enter Tryd.func24, Tryd.ntmps24
        go_wp2_with (first | (go_at_call 55; refine (rspan_v _ _ _ _ _ _ HSP.out _).mono ?_; rintro e w1 ⟨rfl, hb1⟩; have hB := (Blk.new w _ _).keep hb1; have z3 := hB.cell 3; have z4 := hB.cell 4; simp only [List.getElem?_toArray, List.getElem?_cons_zero, List.getElem?_cons_succ] at z3 z4) | (go_at_call 41; refine (HP.out _).mono ?_; rintro e w' ⟨rfl, rfl⟩))
        all_goals
          go_ret
          have hqs := span_true HSP.out
          have hqp := part_false HPP.out
          refine ⟨ret_ru ?_, by first | exact below_alloc _ _ | exact below_on (below_alloc _ _) hb1⟩
          first
            | (refine ruErr_no ?_; unfold okRu okSpan; simp; intros; omega)
            | (refine ruErr_yes ?_; unfold okRu okSpan; simp; omega)
            | (have hz := ‹(!b == 0) = true›
               simp at hz
               refine ruErr_no ?_; unfold okRu okSpan; simp; intros; omega)
            | (have hz := ‹(!b == 0) = false›
               simp at hz
               refine ruErr_yes ?_; unfold okRu okSpan; simp; omega)
      · go_enter Tryd.func24, Tryd.ntmps24
        go_wp2_with (first | (go_at_call 55; refine (rspan_v _ _ _ _ _ _ HSP.out _).mono ?_; rintro e w1 ⟨rfl, hb1⟩; have hB := (Blk.new w _ _).keep hb1; have z3 := hB.cell 3; have z4 := hB.cell 4; simp only [List.getElem?_toArray, List.getElem?_cons_zero, List.getElem?_cons_succ] at z3 z4) | (go_at_call 41; refine (HP.out _).mono ?_; rintro e w' ⟨rfl, rfl⟩))
        all_goals
          go_ret
          have hqs := span_true HSP.out
          have hqp := part_false HPP.out
          refine ⟨ret_ru ?_, by first | exact below_alloc _ _ | exact below_on (below_alloc _ _) hb1⟩
          first
            | (refine ruErr_no ?_; unfold okRu okSpan; simp; intros; omega)
            | (refine ruErr_yes ?_; unfold okRu okSpan; simp; omega)
            | (have hz := ‹(!b == 0) = true›
               simp at hz
               refine ruErr_no ?_; unfold okRu okSpan; simp; intros; omega)
            | (have hz := ‹(!b == 0) = false›
               simp at hz
               refine ruErr_yes ?_; unfold okRu okSpan; simp; omega)
    · have hpc := fun W => rpart_c a W
      rw [hpv] at hpc
      have HP := hide hpc
      have HPP := hide hpv
      clear hpc hpv
      by_cases hf : fr = 0
      · subst hf
        go_enter Tryd.func24, Tryd.ntmps24
        go_wp2_with (first | (go_at_call 55; refine (rspan_v _ _ _ _ _ _ HSP.out _).mono ?_; rintro e w1 ⟨rfl, hb1⟩; have hB := (Blk.new w _ _).keep hb1; have z3 := hB.cell 3; have z4 := hB.cell 4; simp only [List.getElem?_toArray, List.getElem?_cons_zero, List.getElem?_cons_succ] at z3 z4) | (go_at_call 41; refine (HP.out _).mono ?_; rintro e w' ⟨rfl, rfl⟩))
        all_goals
          go_ret
          have hqs := span_true HSP.out
          have hqp := part_true HPP.out
          refine ⟨ret_ru ?_, by first | exact below_alloc _ _ | exact below_on (below_alloc _ _) hb1⟩
          first
            | (refine ruErr_no ?_; unfold okRu okSpan; simp; intros; omega)
            | (refine ruErr_yes ?_; unfold okRu okSpan; simp; omega)
            | (have hz := ‹(!b == 0) = true›
               simp at hz
               refine ruErr_no ?_; unfold okRu okSpan; simp; intros; omega)
            | (have hz := ‹(!b == 0) = false›
               simp at hz
               refine ruErr_yes ?_; unfold okRu okSpan; simp; omega)
      · go_enter Tryd.func24, Tryd.ntmps24
        go_wp2_with (first | (go_at_call 55; refine (rspan_v _ _ _ _ _ _ HSP.out _).mono ?_; rintro e w1 ⟨rfl, hb1⟩; have hB := (Blk.new w _ _).keep hb1; have z3 := hB.cell 3; have z4 := hB.cell 4; simp only [List.getElem?_toArray, List.getElem?_cons_zero, List.getElem?_cons_succ] at z3 z4) | (go_at_call 41; refine (HP.out _).mono ?_; rintro e w' ⟨rfl, rfl⟩))
        all_goals
          go_ret
          have hqs := span_true HSP.out
          have hqp := part_true HPP.out
          refine ⟨ret_ru ?_, by first | exact below_alloc _ _ | exact below_on (below_alloc _ _) hb1⟩
          first
            | (refine ruErr_no ?_; unfold okRu okSpan; simp; intros; omega)
            | (refine ruErr_yes ?_; unfold okRu okSpan; simp; omega)
            | (have hz := ‹(!b == 0) = true›
               simp at hz
               refine ruErr_no ?_; unfold okRu okSpan; simp; intros; omega)
            | (have hz := ‹(!b == 0) = false›
               simp at hz
               refine ruErr_yes ?_; unfold okRu okSpan; simp; omega)

set_option maxRecDepth 100000 in
set_option maxHeartbeats 3200000 in
theorem rcheckRule_5 (fr td a b : Int) (w : World) : Calls Tryd.prog 24 #[.agg #[.int .i64 5, .int .i64 fr, .int .i64 td, .int .i64 a, .int .i64 b]] w fun e w' => e = .returned (.int .i64 (ruErr ⟨5, fr, td, a, b⟩)) ∧ Below w.heap.size w w' := by
  cases hsv : okSpan ⟨5, fr, td, a, b⟩
  · have HSP := hide hsv
    clear hsv
    by_cases hf : fr = 0
    · subst hf
      go_enter Tryd.func24, Tryd.ntmps24
      go_wp2_with (first | (go_at_call 55; refine (rspan_v _ _ _ _ _ _ HSP.out _).mono ?_; rintro e w1 ⟨rfl, hb1⟩; have hB := (Blk.new w _ _).keep hb1; have z3 := hB.cell 3; have z4 := hB.cell 4; simp only [List.getElem?_toArray, List.getElem?_cons_zero, List.getElem?_cons_succ] at z3 z4))
      all_goals
        go_ret
        have hqs := span_false HSP.out
        refine ⟨ret_ru ?_, by first | exact below_alloc _ _ | exact below_on (below_alloc _ _) hb1⟩
        first
          | (refine ruErr_no ?_; unfold okRu okSpan; simp; intros; omega)
          | (refine ruErr_yes ?_; unfold okRu okSpan; simp; omega)
          | (have hz := ‹(!b == 0) = true›
             simp at hz
             refine ruErr_no ?_; unfold okRu okSpan; simp; intros; omega)
          | (have hz := ‹(!b == 0) = false›
             simp at hz
             refine ruErr_yes ?_; unfold okRu okSpan; simp; omega)
    · go_enter Tryd.func24, Tryd.ntmps24
      go_wp2_with (first | (go_at_call 55; refine (rspan_v _ _ _ _ _ _ HSP.out _).mono ?_; rintro e w1 ⟨rfl, hb1⟩; have hB := (Blk.new w _ _).keep hb1; have z3 := hB.cell 3; have z4 := hB.cell 4; simp only [List.getElem?_toArray, List.getElem?_cons_zero, List.getElem?_cons_succ] at z3 z4))
      all_goals
        go_ret
        have hqs := span_false HSP.out
        refine ⟨ret_ru ?_, by first | exact below_alloc _ _ | exact below_on (below_alloc _ _) hb1⟩
        first
          | (refine ruErr_no ?_; unfold okRu okSpan; simp; intros; omega)
          | (refine ruErr_yes ?_; unfold okRu okSpan; simp; omega)
          | (have hz := ‹(!b == 0) = true›
             simp at hz
             refine ruErr_no ?_; unfold okRu okSpan; simp; intros; omega)
          | (have hz := ‹(!b == 0) = false›
             simp at hz
             refine ruErr_yes ?_; unfold okRu okSpan; simp; omega)
  · have HSP := hide hsv
    clear hsv
    by_cases hf : fr = 0
    · subst hf
      go_enter Tryd.func24, Tryd.ntmps24
      go_wp2_with (first | (go_at_call 55; refine (rspan_v _ _ _ _ _ _ HSP.out _).mono ?_; rintro e w1 ⟨rfl, hb1⟩; have hB := (Blk.new w _ _).keep hb1; have z3 := hB.cell 3; have z4 := hB.cell 4; simp only [List.getElem?_toArray, List.getElem?_cons_zero, List.getElem?_cons_succ] at z3 z4))
      all_goals
        go_ret
        have hqs := span_true HSP.out
        refine ⟨ret_ru ?_, by first | exact below_alloc _ _ | exact below_on (below_alloc _ _) hb1⟩
        first
          | (refine ruErr_no ?_; unfold okRu okSpan; simp; intros; omega)
          | (refine ruErr_yes ?_; unfold okRu okSpan; simp; omega)
          | (have hz := ‹(!b == 0) = true›
             simp at hz
             refine ruErr_no ?_; unfold okRu okSpan; simp; intros; omega)
          | (have hz := ‹(!b == 0) = false›
             simp at hz
             refine ruErr_yes ?_; unfold okRu okSpan; simp; omega)
    · go_enter Tryd.func24, Tryd.ntmps24
      go_wp2_with (first | (go_at_call 55; refine (rspan_v _ _ _ _ _ _ HSP.out _).mono ?_; rintro e w1 ⟨rfl, hb1⟩; have hB := (Blk.new w _ _).keep hb1; have z3 := hB.cell 3; have z4 := hB.cell 4; simp only [List.getElem?_toArray, List.getElem?_cons_zero, List.getElem?_cons_succ] at z3 z4))
      all_goals
        go_ret
        have hqs := span_true HSP.out
        refine ⟨ret_ru ?_, by first | exact below_alloc _ _ | exact below_on (below_alloc _ _) hb1⟩
        first
          | (refine ruErr_no ?_; unfold okRu okSpan; simp; intros; omega)
          | (refine ruErr_yes ?_; unfold okRu okSpan; simp; omega)
          | (have hz := ‹(!b == 0) = true›
             simp at hz
             refine ruErr_no ?_; unfold okRu okSpan; simp; intros; omega)
          | (have hz := ‹(!b == 0) = false›
             simp at hz
             refine ruErr_yes ?_; unfold okRu okSpan; simp; omega)

set_option maxRecDepth 100000 in
set_option maxHeartbeats 3200000 in
theorem rcheckRule_6 (fr td a b : Int) (w : World) : Calls Tryd.prog 24 #[.agg #[.int .i64 6, .int .i64 fr, .int .i64 td, .int .i64 a, .int .i64 b]] w fun e w' => e = .returned (.int .i64 (ruErr ⟨6, fr, td, a, b⟩)) ∧ Below w.heap.size w w' := by
  cases hsv : okSpan ⟨6, fr, td, a, b⟩
  · have HSP := hide hsv
    clear hsv
    cases hpv : part a
    · have hpc := fun W => rpart_c a W
      rw [hpv] at hpc
      have HP := hide hpc
      have HPP := hide hpv
      clear hpc hpv
      by_cases hf : fr = 0
      · subst hf
        go_enter Tryd.func24, Tryd.ntmps24
        go_wp2_with (first | (go_at_call 55; refine (rspan_v _ _ _ _ _ _ HSP.out _).mono ?_; rintro e w1 ⟨rfl, hb1⟩; have hB := (Blk.new w _ _).keep hb1; have z3 := hB.cell 3; have z4 := hB.cell 4; simp only [List.getElem?_toArray, List.getElem?_cons_zero, List.getElem?_cons_succ] at z3 z4) | (go_at_call 41; refine (HP.out _).mono ?_; rintro e w' ⟨rfl, rfl⟩))
        all_goals
          go_ret
          have hqs := span_false HSP.out
          have hqp := part_false HPP.out
          refine ⟨ret_ru ?_, by first | exact below_alloc _ _ | exact below_on (below_alloc _ _) hb1⟩
          first
            | (refine ruErr_no ?_; unfold okRu okSpan; simp; intros; omega)
            | (refine ruErr_yes ?_; unfold okRu okSpan; simp; omega)
            | (have hz := ‹(!b == 0) = true›
               simp at hz
               refine ruErr_no ?_; unfold okRu okSpan; simp; intros; omega)
            | (have hz := ‹(!b == 0) = false›
               simp at hz
               refine ruErr_yes ?_; unfold okRu okSpan; simp; omega)
      · go_enter Tryd.func24, Tryd.ntmps24
        go_wp2_with (first | (go_at_call 55; refine (rspan_v _ _ _ _ _ _ HSP.out _).mono ?_; rintro e w1 ⟨rfl, hb1⟩; have hB := (Blk.new w _ _).keep hb1; have z3 := hB.cell 3; have z4 := hB.cell 4; simp only [List.getElem?_toArray, List.getElem?_cons_zero, List.getElem?_cons_succ] at z3 z4) | (go_at_call 41; refine (HP.out _).mono ?_; rintro e w' ⟨rfl, rfl⟩))
        all_goals
          go_ret
          have hqs := span_false HSP.out
          have hqp := part_false HPP.out
          refine ⟨ret_ru ?_, by first | exact below_alloc _ _ | exact below_on (below_alloc _ _) hb1⟩
          first
            | (refine ruErr_no ?_; unfold okRu okSpan; simp; intros; omega)
            | (refine ruErr_yes ?_; unfold okRu okSpan; simp; omega)
            | (have hz := ‹(!b == 0) = true›
               simp at hz
               refine ruErr_no ?_; unfold okRu okSpan; simp; intros; omega)
            | (have hz := ‹(!b == 0) = false›
               simp at hz
               refine ruErr_yes ?_; unfold okRu okSpan; simp; omega)
    · have hpc := fun W => rpart_c a W
      rw [hpv] at hpc
      have HP := hide hpc
      have HPP := hide hpv
      clear hpc hpv
      by_cases hf : fr = 0
      · subst hf
        go_enter Tryd.func24, Tryd.ntmps24
        go_wp2_with (first | (go_at_call 55; refine (rspan_v _ _ _ _ _ _ HSP.out _).mono ?_; rintro e w1 ⟨rfl, hb1⟩; have hB := (Blk.new w _ _).keep hb1; have z3 := hB.cell 3; have z4 := hB.cell 4; simp only [List.getElem?_toArray, List.getElem?_cons_zero, List.getElem?_cons_succ] at z3 z4) | (go_at_call 41; refine (HP.out _).mono ?_; rintro e w' ⟨rfl, rfl⟩))
        all_goals
          go_ret
          have hqs := span_false HSP.out
          have hqp := part_true HPP.out
          refine ⟨ret_ru ?_, by first | exact below_alloc _ _ | exact below_on (below_alloc _ _) hb1⟩
          first
            | (refine ruErr_no ?_; unfold okRu okSpan; simp; intros; omega)
            | (refine ruErr_yes ?_; unfold okRu okSpan; simp; omega)
            | (have hz := ‹(!b == 0) = true›
               simp at hz
               refine ruErr_no ?_; unfold okRu okSpan; simp; intros; omega)
            | (have hz := ‹(!b == 0) = false›
               simp at hz
               refine ruErr_yes ?_; unfold okRu okSpan; simp; omega)
      · go_enter Tryd.func24, Tryd.ntmps24
        go_wp2_with (first | (go_at_call 55; refine (rspan_v _ _ _ _ _ _ HSP.out _).mono ?_; rintro e w1 ⟨rfl, hb1⟩; have hB := (Blk.new w _ _).keep hb1; have z3 := hB.cell 3; have z4 := hB.cell 4; simp only [List.getElem?_toArray, List.getElem?_cons_zero, List.getElem?_cons_succ] at z3 z4) | (go_at_call 41; refine (HP.out _).mono ?_; rintro e w' ⟨rfl, rfl⟩))
        all_goals
          go_ret
          have hqs := span_false HSP.out
          have hqp := part_true HPP.out
          refine ⟨ret_ru ?_, by first | exact below_alloc _ _ | exact below_on (below_alloc _ _) hb1⟩
          first
            | (refine ruErr_no ?_; unfold okRu okSpan; simp; intros; omega)
            | (refine ruErr_yes ?_; unfold okRu okSpan; simp; omega)
            | (have hz := ‹(!b == 0) = true›
               simp at hz
               refine ruErr_no ?_; unfold okRu okSpan; simp; intros; omega)
            | (have hz := ‹(!b == 0) = false›
               simp at hz
               refine ruErr_yes ?_; unfold okRu okSpan; simp; omega)
  · have HSP := hide hsv
    clear hsv
    cases hpv : part a
    · have hpc := fun W => rpart_c a W
      rw [hpv] at hpc
      have HP := hide hpc
      have HPP := hide hpv
      clear hpc hpv
      by_cases hf : fr = 0
      · subst hf
        go_enter Tryd.func24, Tryd.ntmps24
        go_wp2_with (first | (go_at_call 55; refine (rspan_v _ _ _ _ _ _ HSP.out _).mono ?_; rintro e w1 ⟨rfl, hb1⟩; have hB := (Blk.new w _ _).keep hb1; have z3 := hB.cell 3; have z4 := hB.cell 4; simp only [List.getElem?_toArray, List.getElem?_cons_zero, List.getElem?_cons_succ] at z3 z4) | (go_at_call 41; refine (HP.out _).mono ?_; rintro e w' ⟨rfl, rfl⟩))
        all_goals
          go_ret
          have hqs := span_true HSP.out
          have hqp := part_false HPP.out
          refine ⟨ret_ru ?_, by first | exact below_alloc _ _ | exact below_on (below_alloc _ _) hb1⟩
          first
            | (refine ruErr_no ?_; unfold okRu okSpan; simp; intros; omega)
            | (refine ruErr_yes ?_; unfold okRu okSpan; simp; omega)
            | (have hz := ‹(!b == 0) = true›
               simp at hz
               refine ruErr_no ?_; unfold okRu okSpan; simp; intros; omega)
            | (have hz := ‹(!b == 0) = false›
               simp at hz
               refine ruErr_yes ?_; unfold okRu okSpan; simp; omega)
      · go_enter Tryd.func24, Tryd.ntmps24
        go_wp2_with (first | (go_at_call 55; refine (rspan_v _ _ _ _ _ _ HSP.out _).mono ?_; rintro e w1 ⟨rfl, hb1⟩; have hB := (Blk.new w _ _).keep hb1; have z3 := hB.cell 3; have z4 := hB.cell 4; simp only [List.getElem?_toArray, List.getElem?_cons_zero, List.getElem?_cons_succ] at z3 z4) | (go_at_call 41; refine (HP.out _).mono ?_; rintro e w' ⟨rfl, rfl⟩))
        all_goals
          go_ret
          have hqs := span_true HSP.out
          have hqp := part_false HPP.out
          refine ⟨ret_ru ?_, by first | exact below_alloc _ _ | exact below_on (below_alloc _ _) hb1⟩
          first
            | (refine ruErr_no ?_; unfold okRu okSpan; simp; intros; omega)
            | (refine ruErr_yes ?_; unfold okRu okSpan; simp; omega)
            | (have hz := ‹(!b == 0) = true›
               simp at hz
               refine ruErr_no ?_; unfold okRu okSpan; simp; intros; omega)
            | (have hz := ‹(!b == 0) = false›
               simp at hz
               refine ruErr_yes ?_; unfold okRu okSpan; simp; omega)
    · have hpc := fun W => rpart_c a W
      rw [hpv] at hpc
      have HP := hide hpc
      have HPP := hide hpv
      clear hpc hpv
      by_cases hf : fr = 0
      · subst hf
        go_enter Tryd.func24, Tryd.ntmps24
        go_wp2_with (first | (go_at_call 55; refine (rspan_v _ _ _ _ _ _ HSP.out _).mono ?_; rintro e w1 ⟨rfl, hb1⟩; have hB := (Blk.new w _ _).keep hb1; have z3 := hB.cell 3; have z4 := hB.cell 4; simp only [List.getElem?_toArray, List.getElem?_cons_zero, List.getElem?_cons_succ] at z3 z4) | (go_at_call 41; refine (HP.out _).mono ?_; rintro e w' ⟨rfl, rfl⟩))
        all_goals
          go_ret
          have hqs := span_true HSP.out
          have hqp := part_true HPP.out
          refine ⟨ret_ru ?_, by first | exact below_alloc _ _ | exact below_on (below_alloc _ _) hb1⟩
          first
            | (refine ruErr_no ?_; unfold okRu okSpan; simp; intros; omega)
            | (refine ruErr_yes ?_; unfold okRu okSpan; simp; omega)
            | (have hz := ‹(!b == 0) = true›
               simp at hz
               refine ruErr_no ?_; unfold okRu okSpan; simp; intros; omega)
            | (have hz := ‹(!b == 0) = false›
               simp at hz
               refine ruErr_yes ?_; unfold okRu okSpan; simp; omega)
      · go_enter Tryd.func24, Tryd.ntmps24
        go_wp2_with (first | (go_at_call 55; refine (rspan_v _ _ _ _ _ _ HSP.out _).mono ?_; rintro e w1 ⟨rfl, hb1⟩; have hB := (Blk.new w _ _).keep hb1; have z3 := hB.cell 3; have z4 := hB.cell 4; simp only [List.getElem?_toArray, List.getElem?_cons_zero, List.getElem?_cons_succ] at z3 z4) | (go_at_call 41; refine (HP.out _).mono ?_; rintro e w' ⟨rfl, rfl⟩))
        all_goals
          go_ret
          have hqs := span_true HSP.out
          have hqp := part_true HPP.out
          refine ⟨ret_ru ?_, by first | exact below_alloc _ _ | exact below_on (below_alloc _ _) hb1⟩
          first
            | (refine ruErr_no ?_; unfold okRu okSpan; simp; intros; omega)
            | (refine ruErr_yes ?_; unfold okRu okSpan; simp; omega)
            | (have hz := ‹(!b == 0) = true›
               simp at hz
               refine ruErr_no ?_; unfold okRu okSpan; simp; intros; omega)
            | (have hz := ‹(!b == 0) = false›
               simp at hz
               refine ruErr_yes ?_; unfold okRu okSpan; simp; omega)

set_option maxRecDepth 100000 in
set_option maxHeartbeats 3200000 in
theorem rcheckRule_7 (fr td a b : Int) (w : World) : Calls Tryd.prog 24 #[.agg #[.int .i64 7, .int .i64 fr, .int .i64 td, .int .i64 a, .int .i64 b]] w fun e w' => e = .returned (.int .i64 (ruErr ⟨7, fr, td, a, b⟩)) ∧ Below w.heap.size w w' := by
  cases hsv : okSpan ⟨7, fr, td, a, b⟩
  · have HSP := hide hsv
    clear hsv
    by_cases hf : fr = 0
    · subst hf
      go_enter Tryd.func24, Tryd.ntmps24
      go_wp2_with (first | (go_at_call 55; refine (rspan_v _ _ _ _ _ _ HSP.out _).mono ?_; rintro e w1 ⟨rfl, hb1⟩; have hB := (Blk.new w _ _).keep hb1; have z3 := hB.cell 3; have z4 := hB.cell 4; simp only [List.getElem?_toArray, List.getElem?_cons_zero, List.getElem?_cons_succ] at z3 z4) | (go_at_call 54; refine (rtruth_c _ _).mono ?_; rintro e w' ⟨rfl, rfl⟩))
      all_goals
        go_ret
        have hqs := span_false HSP.out
        refine ⟨ret_ru ?_, by first | exact below_alloc _ _ | exact below_on (below_alloc _ _) hb1⟩
        first
          | (refine ruErr_no ?_; unfold okRu okSpan; simp; intros; omega)
          | (refine ruErr_yes ?_; unfold okRu okSpan; simp; omega)
          | (have hz := ‹(!decide (a = 0)) = true ∧ (!decide (a = 1)) = true ∨ (!decide (b = 0)) = true ∧ (!decide (b = 1)) = true›
             simp at hz
             refine ruErr_no ?_; unfold okRu okSpan; simp; intros; omega)
          | (have hz := ‹((!decide (a = 0)) = false ∨ (!decide (a = 1)) = false) ∧ ((!decide (b = 0)) = false ∨ (!decide (b = 1)) = false)›
             simp at hz
             refine ruErr_yes ?_; unfold okRu okSpan; simp; omega)
    · go_enter Tryd.func24, Tryd.ntmps24
      go_wp2_with (first | (go_at_call 55; refine (rspan_v _ _ _ _ _ _ HSP.out _).mono ?_; rintro e w1 ⟨rfl, hb1⟩; have hB := (Blk.new w _ _).keep hb1; have z3 := hB.cell 3; have z4 := hB.cell 4; simp only [List.getElem?_toArray, List.getElem?_cons_zero, List.getElem?_cons_succ] at z3 z4) | (go_at_call 54; refine (rtruth_c _ _).mono ?_; rintro e w' ⟨rfl, rfl⟩))
      all_goals
        go_ret
        have hqs := span_false HSP.out
        refine ⟨ret_ru ?_, by first | exact below_alloc _ _ | exact below_on (below_alloc _ _) hb1⟩
        first
          | (refine ruErr_no ?_; unfold okRu okSpan; simp; intros; omega)
          | (refine ruErr_yes ?_; unfold okRu okSpan; simp; omega)
          | (have hz := ‹(!decide (a = 0)) = true ∧ (!decide (a = 1)) = true ∨ (!decide (b = 0)) = true ∧ (!decide (b = 1)) = true›
             simp at hz
             refine ruErr_no ?_; unfold okRu okSpan; simp; intros; omega)
          | (have hz := ‹((!decide (a = 0)) = false ∨ (!decide (a = 1)) = false) ∧ ((!decide (b = 0)) = false ∨ (!decide (b = 1)) = false)›
             simp at hz
             refine ruErr_yes ?_; unfold okRu okSpan; simp; omega)
  · have HSP := hide hsv
    clear hsv
    by_cases hf : fr = 0
    · subst hf
      go_enter Tryd.func24, Tryd.ntmps24
      go_wp2_with (first | (go_at_call 55; refine (rspan_v _ _ _ _ _ _ HSP.out _).mono ?_; rintro e w1 ⟨rfl, hb1⟩; have hB := (Blk.new w _ _).keep hb1; have z3 := hB.cell 3; have z4 := hB.cell 4; simp only [List.getElem?_toArray, List.getElem?_cons_zero, List.getElem?_cons_succ] at z3 z4) | (go_at_call 54; refine (rtruth_c _ _).mono ?_; rintro e w' ⟨rfl, rfl⟩))
      all_goals
        go_ret
        have hqs := span_true HSP.out
        refine ⟨ret_ru ?_, by first | exact below_alloc _ _ | exact below_on (below_alloc _ _) hb1⟩
        first
          | (refine ruErr_no ?_; unfold okRu okSpan; simp; intros; omega)
          | (refine ruErr_yes ?_; unfold okRu okSpan; simp; omega)
          | (have hz := ‹(!decide (a = 0)) = true ∧ (!decide (a = 1)) = true ∨ (!decide (b = 0)) = true ∧ (!decide (b = 1)) = true›
             simp at hz
             refine ruErr_no ?_; unfold okRu okSpan; simp; intros; omega)
          | (have hz := ‹((!decide (a = 0)) = false ∨ (!decide (a = 1)) = false) ∧ ((!decide (b = 0)) = false ∨ (!decide (b = 1)) = false)›
             simp at hz
             refine ruErr_yes ?_; unfold okRu okSpan; simp; omega)
    · go_enter Tryd.func24, Tryd.ntmps24
      go_wp2_with (first | (go_at_call 55; refine (rspan_v _ _ _ _ _ _ HSP.out _).mono ?_; rintro e w1 ⟨rfl, hb1⟩; have hB := (Blk.new w _ _).keep hb1; have z3 := hB.cell 3; have z4 := hB.cell 4; simp only [List.getElem?_toArray, List.getElem?_cons_zero, List.getElem?_cons_succ] at z3 z4) | (go_at_call 54; refine (rtruth_c _ _).mono ?_; rintro e w' ⟨rfl, rfl⟩))
      all_goals
        go_ret
        have hqs := span_true HSP.out
        refine ⟨ret_ru ?_, by first | exact below_alloc _ _ | exact below_on (below_alloc _ _) hb1⟩
        first
          | (refine ruErr_no ?_; unfold okRu okSpan; simp; intros; omega)
          | (refine ruErr_yes ?_; unfold okRu okSpan; simp; omega)
          | (have hz := ‹(!decide (a = 0)) = true ∧ (!decide (a = 1)) = true ∨ (!decide (b = 0)) = true ∧ (!decide (b = 1)) = true›
             simp at hz
             refine ruErr_no ?_; unfold okRu okSpan; simp; intros; omega)
          | (have hz := ‹((!decide (a = 0)) = false ∨ (!decide (a = 1)) = false) ∧ ((!decide (b = 0)) = false ∨ (!decide (b = 1)) = false)›
             simp at hz
             refine ruErr_yes ?_; unfold okRu okSpan; simp; omega)

set_option maxRecDepth 100000 in
set_option maxHeartbeats 3200000 in
theorem rcheckRule_n (k : Int) (h1 : ¬ k = 1) (h2 : ¬ k = 2) (h3 : ¬ k = 3) (h4 : ¬ k = 4) (h5 : ¬ k = 5) (h6 : ¬ k = 6) (h7 : ¬ k = 7) (fr td a b : Int) (w : World) : Calls Tryd.prog 24 #[.agg #[.int .i64 k, .int .i64 fr, .int .i64 td, .int .i64 a, .int .i64 b]] w fun e w' => e = .returned (.int .i64 (ruErr ⟨k, fr, td, a, b⟩)) ∧ Below w.heap.size w w' := by
  have HN := hide (show okRu ⟨k, fr, td, a, b⟩ = false by unfold okRu; simp only; rw [if_neg (by omega), if_neg h3, if_neg (by omega), if_neg h5, if_neg h7])
  go_enter Tryd.func24, Tryd.ntmps24
  go_wp2
  all_goals (go_ret; exact ⟨ret_ru (ruErr_no HN.out), below_alloc _ _⟩)

theorem rcheckRule_c (r : Ru) (w : World) : Calls Tryd.prog 24 #[.agg #[.int .i64 r.k, .int .i64 r.fr, .int .i64 r.to, .int .i64 r.a, .int .i64 r.b]] w fun e w' => e = .returned (.int .i64 (ruErr r)) ∧ Below w.heap.size w w' := by
  obtain ⟨k, fr, td, a, b⟩ := r
  by_cases h1 : k = 1
  · subst h1; exact rcheckRule_1 fr td a b w
  by_cases h2 : k = 2
  · subst h2; exact rcheckRule_2 fr td a b w
  by_cases h3 : k = 3
  · subst h3; exact rcheckRule_3 fr td a b w
  by_cases h4 : k = 4
  · subst h4; exact rcheckRule_4 fr td a b w
  by_cases h5 : k = 5
  · subst h5; exact rcheckRule_5 fr td a b w
  by_cases h6 : k = 6
  · subst h6; exact rcheckRule_6 fr td a b w
  by_cases h7 : k = 7
  · subst h7; exact rcheckRule_7 fr td a b w
  exact rcheckRule_n k h1 h2 h3 h4 h5 h6 h7 fr td a b w
end Go.Proofs.YthdidjnhfkeokaaDoor
