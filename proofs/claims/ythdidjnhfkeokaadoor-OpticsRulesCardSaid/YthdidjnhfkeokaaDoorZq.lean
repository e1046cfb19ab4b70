/- Contracts of optics.forms and its closures. -/
import Derived.Test.YthdidjnhfkeokaaDoorZd
import Derived.Test.YthdidjnhfkeokaaDoorZp
import Derived.Test.YthdidjnhfkeokaaDoorQj
import Derived.Test.YthdidjnhfkeokaaDoorQk
import Derived.Deep.RegionHeld3
namespace Go.Proofs.YthdidjnhfkeokaaDoor
open Go.RowKit

/-- The closure that says where a form's numbers lie. -/
def fmFn (j : Nat) : Nat := if j ≤ 3 then 66 else if j = 4 then 68 else if j = 5 then 67 else if j = 6 then 68 else 69
def eFm : Enc Nat := ⟨4, fun j => [.int .i64 (fmK j), .int .i64 (fmB j), .string (strB (fmW j)), .func (.func (fmFn j)) #[] #[]], fun _ => rfl, by simp [Value.oneCell'], by omega⟩
set_option maxRecDepth 100000 in
set_option maxHeartbeats 1600000 in
theorem forms_c (w : World) : Calls Tryd.prog 52 #[] w fun e w' => ∃ A, e = .returned (.slice A 8 8) ∧ Rd eFm w' w'.heap.size A 8 8 (List.range 8) ∧ Below w.heap.size w w' := by
  go_enter Tryd.func52, Tryd.ntmps52
  go_wp2
  go_ret
  exact ⟨_, rfl, Rd.many (e := eFm) w _ (List.range 8) _ rfl 8 rfl (by omega) w.heap.size rfl, below_alloc w _⟩
theorem cfm {j : Nat} (hj : j < 8) (args : Array Value) (W : World) : (callFunc (fmFn j) args).run Tryd.prog W = .ok (.enter (fmFn j) args) W := by
  rcases cases8 hj with rfl | rfl | rfl | rfl | rfl | rfl | rfl | rfl <;> kernel_rfl
def SFld (g n : Nat) (L : List Nat) (w : World) (e : Ending) (w' : World) : Prop := ∃ A, e = .returned (.slice A n n) ∧ Rd (ePtr g) w' w'.heap.size A n n L ∧ Below w.heap.size w w'
set_option maxRecDepth 100000 in
set_option maxHeartbeats 1600000 in
theorem fields1_c (g : Nat) (w : World) : Calls Tryd.prog 66 #[.pointer (some ⟨g, 0, none⟩)] w (SFld g 1 [3] w) := by
  go_enter Tryd.func66, Tryd.ntmps66
  go_wp2
  go_ret
  exact ⟨_, rfl, Rd.many (e := ePtr g) w _ [3] _ rfl 1 rfl (by omega) w.heap.size rfl, below_alloc w _⟩
set_option maxRecDepth 100000 in
set_option maxHeartbeats 1600000 in
theorem fields2_c (g : Nat) (w : World) : Calls Tryd.prog 67 #[.pointer (some ⟨g, 0, none⟩)] w (SFld g 2 [1, 2] w) := by
  go_enter Tryd.func67, Tryd.ntmps67
  go_upto_region 1 with fail
  go_region_with (fail)
  go_wp2
  go_ret
  exact ⟨_, rfl, Rd.many (e := ePtr g) w.drew _ [1, 2] _ rfl 2 rfl (by omega) w.heap.size rfl, below_on (Below.refl _ w).drew (below_alloc w.drew _)⟩
set_option maxRecDepth 100000 in
set_option maxHeartbeats 1600000 in
theorem fields3_c (g : Nat) (w : World) : Calls Tryd.prog 68 #[.pointer (some ⟨g, 0, none⟩)] w (SFld g 3 [1, 2, 3] w) := by
  go_enter Tryd.func68, Tryd.ntmps68
  go_upto_region 1 with fail
  go_region_with (fail)
  go_wp2
  go_ret
  exact ⟨_, rfl, Rd.many (e := ePtr g) w.drew _ [1, 2, 3] _ rfl 3 rfl (by omega) w.heap.size rfl, below_on (Below.refl _ w).drew (below_alloc w.drew _)⟩
set_option maxRecDepth 100000 in
set_option maxHeartbeats 1600000 in
theorem fields4_c (g : Nat) (w : World) : Calls Tryd.prog 69 #[.pointer (some ⟨g, 0, none⟩)] w (SFld g 4 [1, 2, 3, 4] w) := by
  go_enter Tryd.func69, Tryd.ntmps69
  go_upto_region 1 with fail
  go_region_with (fail)
  go_wp2
  go_ret
  exact ⟨_, rfl, Rd.many (e := ePtr g) w.drew _ [1, 2, 3, 4] _ rfl 4 rfl (by omega) w.heap.size rfl, below_on (Below.refl _ w).drew (below_alloc w.drew _)⟩
theorem fields_c {j : Nat} (hj : j < 8) (g : Nat) (w : World) : Calls Tryd.prog (fmFn j) #[.pointer (some ⟨g, 0, none⟩)] w (SFld g (fmF j).length (fmF j) w) := by
  rcases cases8 hj with rfl | rfl | rfl | rfl | rfl | rfl | rfl | rfl
  · exact fields1_c g w
  · exact fields1_c g w
  · exact fields1_c g w
  · exact fields1_c g w
  · exact fields3_c g w
  · exact fields2_c g w
  · exact fields3_c g w
  · exact fields4_c g w
end Go.Proofs.YthdidjnhfkeokaaDoor
