/- Contracts of ranged and CheckRule of optics. -/
import Derived.Test.YthdidjnhfkeokaaDoorVa
import Derived.Test.YthdidjnhfkeokaaDoorQi
namespace Go.Proofs.YthdidjnhfkeokaaDoor
open Go.RowKit

def ruErr (r : Ru) : Int := if okRu r then 0 else 2
theorem ret_ru {a b : Int} (h : a = b) : Ending.returned (.int .i64 a) = .returned (.int .i64 b) := by rw [h]
theorem ruErr_no {r : Ru} (h : okRu r = false) : (2 : Int) = ruErr r := by unfold ruErr; rw [h]; rfl
theorem ruErr_yes {r : Ru} (h : okRu r = true) : (0 : Int) = ruErr r := by unfold ruErr; rw [h]; rfl
theorem part_true {a : Int} (h : part a = true) : 0 ≤ a ∧ a ≤ 256 := by simpa [part] using h
theorem part_false {a : Int} (h : part a = false) : ¬ (0 ≤ a ∧ a ≤ 256) := by simpa [part] using h

set_option maxRecDepth 100000 in
set_option maxHeartbeats 1600000 in
theorem ranged_c (r : Ru) (w : World) : Calls Tryd.prog 53 #[.agg #[.int .i64 r.k, .int .i64 r.fr, .int .i64 r.to, .int .i64 r.a, .int .i64 r.b]] w fun e w' => e = .returned (.bool (decide (4 ≤ r.k))) ∧ Below w.heap.size w w' := by
  obtain ⟨k, fr, td, a, b⟩ := r
  go_enter Tryd.func53, Tryd.ntmps53
  go_wp2
  go_ret
  exact ⟨rfl, below_alloc _ _⟩
theorem ranged_v (k fr td a b : Int) (v : Bool) (h : decide (4 ≤ k) = v) (w : World) : Calls Tryd.prog 53 #[.agg #[.int .i64 k, .int .i64 fr, .int .i64 td, .int .i64 a, .int .i64 b]] w fun e w' => e = .returned (.bool v) ∧ Below w.heap.size w w' := by
  subst h; exact ranged_c ⟨k, fr, td, a, b⟩ w

set_option maxRecDepth 100000 in
set_option maxHeartbeats 3200000 in
theorem checkRule_1 (fr td a b : Int) (w : World) : Calls Tryd.prog 23 #[.agg #[.int .i64 1, .int .i64 fr, .int .i64 td, .int .i64 a, .int .i64 b]] w fun e w' => e = .returned (.int .i64 (ruErr ⟨1, fr, td, a, b⟩)) ∧ Below w.heap.size w w' := by
  cases hp : part a
  · have hpc := fun W => part_c a W
    rw [hp] at hpc
    have HP := hide hpc
    have HPP := hide hp
    clear hpc hp
    go_enter Tryd.func23, Tryd.ntmps23
    go_wp2_with (first | (go_at_call 39; refine (HP.out _).mono ?_; rintro e w' ⟨rfl, rfl⟩) | (go_at_call 53; refine (ranged_v _ _ _ _ _ false (by simp) _).mono ?_; rintro e w1 ⟨rfl, hb1⟩; have hB := (Blk.new w _ _).keep hb1; have z1 := hB.cell 1; have z2 := hB.cell 2; simp only [List.getElem?_toArray, List.getElem?_cons_zero, List.getElem?_cons_succ] at z1 z2))
    all_goals
      go_ret
      have hq := part_false HPP.out
      refine ⟨ret_ru ?_, by first | exact below_alloc _ _ | exact below_on (below_alloc _ _) hb1⟩
      first
        | (refine ruErr_no ?_; unfold okRu okSpan; simp; intros; omega)
        | (have hz : ¬ td < 4096 := by simpa using ‹(!decide (td < 4096)) = true›
           refine ruErr_no ?_; unfold okRu okSpan; simp; intros; omega)
        | (have hz : td < 4096 := by simpa using ‹(!decide (td < 4096)) = false›
           refine ruErr_yes ?_; unfold okRu okSpan; simp; omega)
        | (refine ruErr_yes ?_; unfold okRu okSpan; simp; omega)
        | (exfalso; have hz := ‹(!b == 0) = false›; simp at hz; exact absurd hz ‹¬b = 0›)
  · have hpc := fun W => part_c a W
    rw [hp] at hpc
    have HP := hide hpc
    have HPP := hide hp
    clear hpc hp
    go_enter Tryd.func23, Tryd.ntmps23
    go_wp2_with (first | (go_at_call 39; refine (HP.out _).mono ?_; rintro e w' ⟨rfl, rfl⟩) | (go_at_call 53; refine (ranged_v _ _ _ _ _ false (by simp) _).mono ?_; rintro e w1 ⟨rfl, hb1⟩; have hB := (Blk.new w _ _).keep hb1; have z1 := hB.cell 1; have z2 := hB.cell 2; simp only [List.getElem?_toArray, List.getElem?_cons_zero, List.getElem?_cons_succ] at z1 z2))
    all_goals
      go_ret
      have hq := part_true HPP.out
      refine ⟨ret_ru ?_, by first | exact below_alloc _ _ | exact below_on (below_alloc _ _) hb1⟩
      first
        | (refine ruErr_no ?_; unfold okRu okSpan; simp; intros; omega)
        | (have hz : ¬ td < 4096 := by simpa using ‹(!decide (td < 4096)) = true›
           refine ruErr_no ?_; unfold okRu okSpan; simp; intros; omega)
        | (have hz : td < 4096 := by simpa using ‹(!decide (td < 4096)) = false›
           refine ruErr_yes ?_; unfold okRu okSpan; simp; omega)
        | (refine ruErr_yes ?_; unfold okRu okSpan; simp; omega)
        | (exfalso; have hz := ‹(!b == 0) = false›; simp at hz; exact absurd hz ‹¬b = 0›)

set_option maxRecDepth 100000 in
set_option maxHeartbeats 3200000 in
theorem checkRule_2 (fr td a b : Int) (w : World) : Calls Tryd.prog 23 #[.agg #[.int .i64 2, .int .i64 fr, .int .i64 td, .int .i64 a, .int .i64 b]] w fun e w' => e = .returned (.int .i64 (ruErr ⟨2, fr, td, a, b⟩)) ∧ Below w.heap.size w w' := by
  cases hp : part a
  · have hpc := fun W => part_c a W
    rw [hp] at hpc
    have HP := hide hpc
    have HPP := hide hp
    clear hpc hp
    go_enter Tryd.func23, Tryd.ntmps23
    go_wp2_with (first | (go_at_call 39; refine (HP.out _).mono ?_; rintro e w' ⟨rfl, rfl⟩) | (go_at_call 53; refine (ranged_v _ _ _ _ _ false (by simp) _).mono ?_; rintro e w1 ⟨rfl, hb1⟩; have hB := (Blk.new w _ _).keep hb1; have z1 := hB.cell 1; have z2 := hB.cell 2; simp only [List.getElem?_toArray, List.getElem?_cons_zero, List.getElem?_cons_succ] at z1 z2))
    all_goals
      go_ret
      have hq := part_false HPP.out
      refine ⟨ret_ru ?_, by first | exact below_alloc _ _ | exact below_on (below_alloc _ _) hb1⟩
      first
        | (refine ruErr_no ?_; unfold okRu okSpan; simp; intros; omega)
        | (have hz : ¬ td < 4096 := by simpa using ‹(!decide (td < 4096)) = true›
           refine ruErr_no ?_; unfold okRu okSpan; simp; intros; omega)
        | (have hz : td < 4096 := by simpa using ‹(!decide (td < 4096)) = false›
           refine ruErr_yes ?_; unfold okRu okSpan; simp; omega)
        | (refine ruErr_yes ?_; unfold okRu okSpan; simp; omega)
        | (exfalso; have hz := ‹(!b == 0) = false›; simp at hz; exact absurd hz ‹¬b = 0›)
  · have hpc := fun W => part_c a W
    rw [hp] at hpc
    have HP := hide hpc
    have HPP := hide hp
    clear hpc hp
    go_enter Tryd.func23, Tryd.ntmps23
    go_wp2_with (first | (go_at_call 39; refine (HP.out _).mono ?_; rintro e w' ⟨rfl, rfl⟩) | (go_at_call 53; refine (ranged_v _ _ _ _ _ false (by simp) _).mono ?_; rintro e w1 ⟨rfl, hb1⟩; have hB := (Blk.new w _ _).keep hb1; have z1 := hB.cell 1; have z2 := hB.cell 2; simp only [List.getElem?_toArray, List.getElem?_cons_zero, List.getElem?_cons_succ] at z1 z2))
    all_goals
      go_ret
      have hq := part_true HPP.out
      refine ⟨ret_ru ?_, by first | exact below_alloc _ _ | exact below_on (below_alloc _ _) hb1⟩
      first
        | (refine ruErr_no ?_; unfold okRu okSpan; simp; intros; omega)
        | (have hz : ¬ td < 4096 := by simpa using ‹(!decide (td < 4096)) = true›
           refine ruErr_no ?_; unfold okRu okSpan; simp; intros; omega)
        | (have hz : td < 4096 := by simpa using ‹(!decide (td < 4096)) = false›
           refine ruErr_yes ?_; unfold okRu okSpan; simp; omega)
        | (refine ruErr_yes ?_; unfold okRu okSpan; simp; omega)
        | (exfalso; have hz := ‹(!b == 0) = false›; simp at hz; exact absurd hz ‹¬b = 0›)

set_option maxRecDepth 100000 in
set_option maxHeartbeats 3200000 in
theorem checkRule_3 (fr td a b : Int) (w : World) : Calls Tryd.prog 23 #[.agg #[.int .i64 3, .int .i64 fr, .int .i64 td, .int .i64 a, .int .i64 b]] w fun e w' => e = .returned (.int .i64 (ruErr ⟨3, fr, td, a, b⟩)) ∧ Below w.heap.size w w' := by
  go_enter Tryd.func23, Tryd.ntmps23
  go_wp2_with ((go_at_call 53; refine (ranged_v _ _ _ _ _ false (by simp) _).mono ?_; rintro e w1 ⟨rfl, hb1⟩; have hB := (Blk.new w _ _).keep hb1; have z1 := hB.cell 1; have z2 := hB.cell 2; simp only [List.getElem?_toArray, List.getElem?_cons_zero, List.getElem?_cons_succ] at z1 z2))
  all_goals
    go_ret
    refine ⟨ret_ru ?_, by first | exact below_alloc _ _ | exact below_on (below_alloc _ _) hb1⟩
    first
      | (refine ruErr_no ?_; unfold okRu okSpan; simp; intros; omega)
      | (have hz : ¬ td < 4096 := by simpa using ‹(!decide (td < 4096)) = true›
         refine ruErr_no ?_; unfold okRu okSpan; simp; intros; omega)
      | (have hz : td < 4096 := by simpa using ‹(!decide (td < 4096)) = false›
         refine ruErr_yes ?_; unfold okRu okSpan; simp; omega)
      | (refine ruErr_yes ?_; unfold okRu okSpan; simp; omega)
      | (exfalso; have hz := ‹(!b == 0) = false›; simp at hz; exact absurd hz ‹¬b = 0›)

set_option maxRecDepth 100000 in
set_option maxHeartbeats 3200000 in
theorem checkRule_4 (fr td a b : Int) (w : World) : Calls Tryd.prog 23 #[.agg #[.int .i64 4, .int .i64 fr, .int .i64 td, .int .i64 a, .int .i64 b]] w fun e w' => e = .returned (.int .i64 (ruErr ⟨4, fr, td, a, b⟩)) ∧ Below w.heap.size w w' := by
  cases hp : part a
  · have hpc := fun W => part_c a W
    rw [hp] at hpc
    have HP := hide hpc
    have HPP := hide hp
    clear hpc hp
    go_enter Tryd.func23, Tryd.ntmps23
    go_wp2_with (first | (go_at_call 39; refine (HP.out _).mono ?_; rintro e w' ⟨rfl, rfl⟩) | (go_at_call 53; refine (ranged_v _ _ _ _ _ true (by simp) _).mono ?_; rintro e w1 ⟨rfl, hb1⟩; have hB := (Blk.new w _ _).keep hb1; have z1 := hB.cell 1; have z2 := hB.cell 2; simp only [List.getElem?_toArray, List.getElem?_cons_zero, List.getElem?_cons_succ] at z1 z2))
    all_goals
      go_ret
      have hq := part_false HPP.out
      refine ⟨ret_ru ?_, by first | exact below_alloc _ _ | exact below_on (below_alloc _ _) hb1⟩
      first
        | (refine ruErr_no ?_; unfold okRu okSpan; simp; intros; omega)
        | (have hz : ¬ td < 4096 := by simpa using ‹(!decide (td < 4096)) = true›
           refine ruErr_no ?_; unfold okRu okSpan; simp; intros; omega)
        | (have hz : td < 4096 := by simpa using ‹(!decide (td < 4096)) = false›
           refine ruErr_yes ?_; unfold okRu okSpan; simp; omega)
        | (refine ruErr_yes ?_; unfold okRu okSpan; simp; omega)
        | (exfalso; have hz := ‹(!b == 0) = false›; simp at hz; exact absurd hz ‹¬b = 0›)
  · have hpc := fun W => part_c a W
    rw [hp] at hpc
    have HP := hide hpc
    have HPP := hide hp
    clear hpc hp
    go_enter Tryd.func23, Tryd.ntmps23
    go_wp2_with (first | (go_at_call 39; refine (HP.out _).mono ?_; rintro e w' ⟨rfl, rfl⟩) | (go_at_call 53; refine (ranged_v _ _ _ _ _ true (by simp) _).mono ?_; rintro e w1 ⟨rfl, hb1⟩; have hB := (Blk.new w _ _).keep hb1; have z1 := hB.cell 1; have z2 := hB.cell 2; simp only [List.getElem?_toArray, List.getElem?_cons_zero, List.getElem?_cons_succ] at z1 z2))
    all_goals
      go_ret
      have hq := part_true HPP.out
      refine ⟨ret_ru ?_, by first | exact below_alloc _ _ | exact below_on (below_alloc _ _) hb1⟩
      first
        | (refine ruErr_no ?_; unfold okRu okSpan; simp; intros; omega)
        | (have hz : ¬ td < 4096 := by simpa using ‹(!decide (td < 4096)) = true›
           refine ruErr_no ?_; unfold okRu okSpan; simp; intros; omega)
        | (have hz : td < 4096 := by simpa using ‹(!decide (td < 4096)) = false›
           refine ruErr_yes ?_; unfold okRu okSpan; simp; omega)
        | (refine ruErr_yes ?_; unfold okRu okSpan; simp; omega)
        | (exfalso; have hz := ‹(!b == 0) = false›; simp at hz; exact absurd hz ‹¬b = 0›)

set_option maxRecDepth 100000 in
set_option maxHeartbeats 3200000 in
theorem checkRule_5 (fr td a b : Int) (w : World) : Calls Tryd.prog 23 #[.agg #[.int .i64 5, .int .i64 fr, .int .i64 td, .int .i64 a, .int .i64 b]] w fun e w' => e = .returned (.int .i64 (ruErr ⟨5, fr, td, a, b⟩)) ∧ Below w.heap.size w w' := by
  go_enter Tryd.func23, Tryd.ntmps23
  go_wp2_with ((go_at_call 53; refine (ranged_v _ _ _ _ _ true (by simp) _).mono ?_; rintro e w1 ⟨rfl, hb1⟩; have hB := (Blk.new w _ _).keep hb1; have z1 := hB.cell 1; have z2 := hB.cell 2; simp only [List.getElem?_toArray, List.getElem?_cons_zero, List.getElem?_cons_succ] at z1 z2))
  all_goals
    go_ret
    refine ⟨ret_ru ?_, by first | exact below_alloc _ _ | exact below_on (below_alloc _ _) hb1⟩
    first
      | (refine ruErr_no ?_; unfold okRu okSpan; simp; intros; omega)
      | (have hz : ¬ td < 4096 := by simpa using ‹(!decide (td < 4096)) = true›
         refine ruErr_no ?_; unfold okRu okSpan; simp; intros; omega)
      | (have hz : td < 4096 := by simpa using ‹(!decide (td < 4096)) = false›
         refine ruErr_yes ?_; unfold okRu okSpan; simp; omega)
      | (refine ruErr_yes ?_; unfold okRu okSpan; simp; omega)
      | (exfalso; have hz := ‹(!b == 0) = false›; simp at hz; exact absurd hz ‹¬b = 0›)

set_option maxRecDepth 100000 in
set_option maxHeartbeats 3200000 in
theorem checkRule_6 (fr td a b : Int) (w : World) : Calls Tryd.prog 23 #[.agg #[.int .i64 6, .int .i64 fr, .int .i64 td, .int .i64 a, .int .i64 b]] w fun e w' => e = .returned (.int .i64 (ruErr ⟨6, fr, td, a, b⟩)) ∧ Below w.heap.size w w' := by
  cases hp : part a
  · have hpc := fun W => part_c a W
    rw [hp] at hpc
    have HP := hide hpc
    have HPP := hide hp
    clear hpc hp
    go_enter Tryd.func23, Tryd.ntmps23
    go_wp2_with (first | (go_at_call 39; refine (HP.out _).mono ?_; rintro e w' ⟨rfl, rfl⟩) | (go_at_call 53; refine (ranged_v _ _ _ _ _ true (by simp) _).mono ?_; rintro e w1 ⟨rfl, hb1⟩; have hB := (Blk.new w _ _).keep hb1; have z1 := hB.cell 1; have z2 := hB.cell 2; simp only [List.getElem?_toArray, List.getElem?_cons_zero, List.getElem?_cons_succ] at z1 z2))
    all_goals
      go_ret
      have hq := part_false HPP.out
      refine ⟨ret_ru ?_, by first | exact below_alloc _ _ | exact below_on (below_alloc _ _) hb1⟩
      first
        | (refine ruErr_no ?_; unfold okRu okSpan; simp; intros; omega)
        | (have hz : ¬ td < 4096 := by simpa using ‹(!decide (td < 4096)) = true›
           refine ruErr_no ?_; unfold okRu okSpan; simp; intros; omega)
        | (have hz : td < 4096 := by simpa using ‹(!decide (td < 4096)) = false›
           refine ruErr_yes ?_; unfold okRu okSpan; simp; omega)
        | (refine ruErr_yes ?_; unfold okRu okSpan; simp; omega)
        | (exfalso; have hz := ‹(!b == 0) = false›; simp at hz; exact absurd hz ‹¬b = 0›)
  · have hpc := fun W => part_c a W
    rw [hp] at hpc
    have HP := hide hpc
    have HPP := hide hp
    clear hpc hp
    go_enter Tryd.func23, Tryd.ntmps23
    go_wp2_with (first | (go_at_call 39; refine (HP.out _).mono ?_; rintro e w' ⟨rfl, rfl⟩) | (go_at_call 53; refine (ranged_v _ _ _ _ _ true (by simp) _).mono ?_; rintro e w1 ⟨rfl, hb1⟩; have hB := (Blk.new w _ _).keep hb1; have z1 := hB.cell 1; have z2 := hB.cell 2; simp only [List.getElem?_toArray, List.getElem?_cons_zero, List.getElem?_cons_succ] at z1 z2))
    all_goals
      go_ret
      have hq := part_true HPP.out
      refine ⟨ret_ru ?_, by first | exact below_alloc _ _ | exact below_on (below_alloc _ _) hb1⟩
      first
        | (refine ruErr_no ?_; unfold okRu okSpan; simp; intros; omega)
        | (have hz : ¬ td < 4096 := by simpa using ‹(!decide (td < 4096)) = true›
           refine ruErr_no ?_; unfold okRu okSpan; simp; intros; omega)
        | (have hz : td < 4096 := by simpa using ‹(!decide (td < 4096)) = false›
           refine ruErr_yes ?_; unfold okRu okSpan; simp; omega)
        | (refine ruErr_yes ?_; unfold okRu okSpan; simp; omega)
        | (exfalso; have hz := ‹(!b == 0) = false›; simp at hz; exact absurd hz ‹¬b = 0›)

set_option maxRecDepth 100000 in
set_option maxHeartbeats 3200000 in
theorem checkRule_7 (fr td a b : Int) (w : World) : Calls Tryd.prog 23 #[.agg #[.int .i64 7, .int .i64 fr, .int .i64 td, .int .i64 a, .int .i64 b]] w fun e w' => e = .returned (.int .i64 (ruErr ⟨7, fr, td, a, b⟩)) ∧ Below w.heap.size w w' := by
  go_enter Tryd.func23, Tryd.ntmps23
  go_wp2_with ((go_at_call 53; refine (ranged_v _ _ _ _ _ true (by simp) _).mono ?_; rintro e w1 ⟨rfl, hb1⟩; have hB := (Blk.new w _ _).keep hb1; have z1 := hB.cell 1; have z2 := hB.cell 2; simp only [List.getElem?_toArray, List.getElem?_cons_zero, List.getElem?_cons_succ] at z1 z2))
  all_goals
    go_ret
    refine ⟨ret_ru ?_, by first | exact below_alloc _ _ | exact below_on (below_alloc _ _) hb1⟩
    first
      | (refine ruErr_no ?_; unfold okRu okSpan; simp; intros; omega)
      | (have hz : ¬ td < 4096 := by simpa using ‹(!decide (td < 4096)) = true›
         refine ruErr_no ?_; unfold okRu okSpan; simp; intros; omega)
      | (have hz : td < 4096 := by simpa using ‹(!decide (td < 4096)) = false›
         refine ruErr_yes ?_; unfold okRu okSpan; simp; omega)
      | (refine ruErr_yes ?_; unfold okRu okSpan; simp; omega)
      | (exfalso; have hz := ‹(!b == 0) = false›; simp at hz; exact absurd hz ‹¬b = 0›)

set_option maxRecDepth 100000 in
set_option maxHeartbeats 3200000 in
theorem checkRule_n (k : Int) (h1 : ¬ k = 1) (h2 : ¬ k = 2) (h3 : ¬ k = 3) (h4 : ¬ k = 4) (h5 : ¬ k = 5) (h6 : ¬ k = 6) (h7 : ¬ k = 7) (fr td a b : Int) (w : World) : Calls Tryd.prog 23 #[.agg #[.int .i64 k, .int .i64 fr, .int .i64 td, .int .i64 a, .int .i64 b]] w fun e w' => e = .returned (.int .i64 (ruErr ⟨k, fr, td, a, b⟩)) ∧ Below w.heap.size w w' := by
  have HN := hide (show okRu ⟨k, fr, td, a, b⟩ = false by unfold okRu; simp only; rw [if_neg (by omega), if_neg h3, if_neg (by omega), if_neg h5, if_neg h7])
  go_enter Tryd.func23, Tryd.ntmps23
  go_wp2
  go_ret
  exact ⟨ret_ru (ruErr_no HN.out), below_alloc _ _⟩

theorem checkRule_c (r : Ru) (w : World) : Calls Tryd.prog 23 #[.agg #[.int .i64 r.k, .int .i64 r.fr, .int .i64 r.to, .int .i64 r.a, .int .i64 r.b]] w fun e w' => e = .returned (.int .i64 (ruErr r)) ∧ Below w.heap.size w w' := by
  obtain ⟨k, fr, td, a, b⟩ := r
  by_cases h1 : k = 1
  · subst h1; exact checkRule_1 fr td a b w
  by_cases h2 : k = 2
  · subst h2; exact checkRule_2 fr td a b w
  by_cases h3 : k = 3
  · subst h3; exact checkRule_3 fr td a b w
  by_cases h4 : k = 4
  · subst h4; exact checkRule_4 fr td a b w
  by_cases h5 : k = 5
  · subst h5; exact checkRule_5 fr td a b w
  by_cases h6 : k = 6
  · subst h6; exact checkRule_6 fr td a b w
  by_cases h7 : k = 7
  · subst h7; exact checkRule_7 fr td a b w
  exact checkRule_n k h1 h2 h3 h4 h5 h6 h7 fr td a b w
end Go.Proofs.YthdidjnhfkeokaaDoor
