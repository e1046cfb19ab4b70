/- Contracts of acts, and of the wrapper of a quiet rule. -/
import Derived.Test.YthdidjnhfkeokaaDoorVb
namespace Go.Proofs.YthdidjnhfkeokaaDoor
open Go.RowKit

/-- What acts returns, the captured functions lying behind block g. -/
def actV (g : Nat) : Array Value :=
  #[.nilFunc, .func (.func 93) #[] #[.pointer (some ⟨g + 1, 0, none⟩)], .func (.func 93) #[] #[.pointer (some ⟨g + 2, 0, none⟩)], .func (.func 93) #[] #[.pointer (some ⟨g + 3, 0, none⟩)],
    .func (.func 100) #[] #[], .func (.func 99) #[] #[], .func (.func 93) #[] #[.pointer (some ⟨g + 4, 0, none⟩)], .func (.func 101) #[] #[]]
def capB (w : World) (g f : Nat) : Prop := Blk w g 162 #[.func (.func f) #[] #[]]
def Caps (w : World) (g : Nat) : Prop := capB w (g + 1) 94 ∧ capB w (g + 2) 96 ∧ capB w (g + 3) 97 ∧ capB w (g + 4) 98
theorem info_acts : (Tryd.prog.info? 141).map (·.size) = some 8 := by kernel_rfl

set_option maxRecDepth 100000 in
set_option maxHeartbeats 3200000 in
theorem acts_c (w : World) : Calls Tryd.prog 78 #[] w fun e w' => e = .returned (.agg (actV w.heap.size)) ∧ Caps w' w.heap.size ∧ Below w.heap.size w w' ∧ w.heap.size + 4 < w'.heap.size := by
  have hb := below_alloc w (.cells #[.nilFunc, .nilFunc, .nilFunc, .nilFunc, .nilFunc, .nilFunc, .nilFunc, .nilFunc] 141)
  have B0 := Blk.newAt w 141 #[.nilFunc, .nilFunc, .nilFunc, .nilFunc, .nilFunc, .nilFunc, .nilFunc, .nilFunc] w.heap.size rfl
  obtain ⟨w0, hw0⟩ : ∃ q, q = w.alloc (.cells #[.nilFunc, .nilFunc, .nilFunc, .nilFunc, .nilFunc, .nilFunc, .nilFunc, .nilFunc] 141) := ⟨_, rfl⟩
  have hz0 : w0.heap.size = w.heap.size + 1 := by rw [hw0]; simp
  rw [← hw0] at hb B0
  obtain ⟨w1, hw1⟩ : ∃ q, q = w0.alloc (.cells #[.func (.func 94) #[] #[]] 162) := ⟨_, rfl⟩
  have hz1 : w1.heap.size = w.heap.size + 2 := by rw [hw1]; simp [hz0]
  obtain ⟨w2, hw2⟩ : ∃ q, q = w1.alloc (.cells #[.func (.func 96) #[] #[]] 162) := ⟨_, rfl⟩
  have hz2 : w2.heap.size = w.heap.size + 3 := by rw [hw2]; simp [hz1]
  obtain ⟨w3, hw3⟩ : ∃ q, q = w2.alloc (.cells #[.func (.func 97) #[] #[]] 162) := ⟨_, rfl⟩
  have hz3 : w3.heap.size = w.heap.size + 4 := by rw [hw3]; simp [hz2]
  obtain ⟨w4, hw4⟩ : ∃ q, q = w3.alloc (.cells #[.func (.func 98) #[] #[]] 162) := ⟨_, rfl⟩
  have hz4 : w4.heap.size = w.heap.size + 5 := by rw [hw4]; simp [hz3]
  have k1 : capB w4 (w.heap.size + 1) 94 := by
    rw [hw4, hw3, hw2, hw1]; exact (((Blk.newAt w0 _ _ _ hz0).alloc _).alloc _).alloc _
  have k2 : capB w4 (w.heap.size + 2) 96 := by
    rw [hw4, hw3, hw2]; exact ((Blk.newAt w1 _ _ _ hz1).alloc _).alloc _
  have k3 : capB w4 (w.heap.size + 3) 97 := by
    rw [hw4, hw3]; exact (Blk.newAt w2 _ _ _ hz2).alloc _
  have k4 : capB w4 (w.heap.size + 4) 98 := by
    rw [hw4]; exact Blk.newAt w3 _ _ _ hz3
  have hb4 : Below w.heap.size w w4 := by
    rw [hw4, hw3, hw2, hw1]
    exact (((hb.alloc (by omega) _).alloc (by simp; omega) _).alloc (by simp; omega) _).alloc (by simp; omega) _
  have B4 : Blk w4 w.heap.size 141 #[.nilFunc, .nilFunc, .nilFunc, .nilFunc, .nilFunc, .nilFunc, .nilFunc, .nilFunc] := by
    rw [hw4, hw3, hw2, hw1]; exact (((B0.alloc _).alloc _).alloc _).alloc _
  have HZ := hide hz4
  have HW := hide (show w4 = ((((w.alloc (.cells #[.nilFunc, .nilFunc, .nilFunc, .nilFunc, .nilFunc, .nilFunc, .nilFunc, .nilFunc] 141)).alloc (.cells #[.func (.func 94) #[] #[]] 162)).alloc (.cells #[.func (.func 96) #[] #[]] 162)).alloc (.cells #[.func (.func 97) #[] #[]] 162)).alloc (.cells #[.func (.func 98) #[] #[]] 162) by rw [hw4, hw3, hw2, hw1, hw0])
  clear hz0 hz1 hz2 hz3 hz4 hw4 hw3 hw2 hw1 hw0 hb B0
  rw [HW.out] at B4
  go_enter Tryd.func78, Tryd.ntmps78
  go_wp2_with (first | (refine wl_store (o := ⟨none, _, _, _, _, _⟩) rfl 141 _ _ rfl w.heap.size (actV w.heap.size) rfl rfl 141 _ B4 info_acts rfl (by simp [actV, Value.oneCell']) ?_; intro w5 hA hg) | go_in)
  rw [← HW.out] at hg
  refine bodyPost_ret (results_cell_row rfl _ _ w.heap.size _ _ (0, 0) _ rfl hA Tryd.underlying141 rfl (by kernel_rfl)) rfl ⟨rfl, ⟨k1.grown hg (by simp), k2.grown hg (by simp), k3.grown hg (by simp), k4.grown hg (by simp)⟩, below_grown hb4 hg (Nat.le_refl _) (Nat.le_refl _), by have := hg.size; have := HZ.out; omega⟩
end Go.Proofs.YthdidjnhfkeokaaDoor
