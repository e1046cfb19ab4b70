/- Contract of the reference's Emit. -/
import Derived.Test.YthdidjnhfkeokaaDoorVx
import Derived.Test.YthdidjnhfkeokaaDoorQt
import Derived.Test.YthdidjnhfkeokaaDoorVb
namespace Go.Proofs.YthdidjnhfkeokaaDoor
open Go.RowKit

def emitErr (f : Nat → Int) (n : Int) : Int := if checkErr f ≠ 0 then checkErr f else if n < 0 ∨ 4096 < n then 3 else 0
def emitL (f : Nat → Int) (n : Int) (s : Nat) : List Pu := if emitErr f n = 0 then (emiF f s n.toNat).1 else []
def SEm (f : Nat → Int) (n : Int) (s : Nat) (w : World) (e : Ending) (w' : World) : Prop :=
  ∃ A k c, e = .returned (.tuple #[.slice A k c, .int .i64 (emitErr f n)]) ∧ Rd ePu w' w'.heap.size A k c (emitL f n s) ∧ Below w.heap.size w w'
theorem SEm.err {f : Nat → Int} {n : Int} {s : Nat} {w w' : World} {x : Int} (h : emitErr f n = x) (hx : x ≠ 0) (hb : Below w.heap.size w w') : SEm f n s w (.returned (.tuple #[.slice none 0 0, .int .i64 x])) w' := by
  refine ⟨none, 0, 0, by rw [h], ?_, hb⟩
  unfold emitL; rw [if_neg (by omega)]; exact Rd.nil _ _ _ _ (by omega)
theorem SEm.ok {f : Nat → Int} {n : Nat} {s : Nat} {w w' : World} {A : Option Addr} {c : Nat} (h : emitErr f n = 0) (hb : Below w.heap.size w w') (hr : Rd ePu w' w'.heap.size A n c (emiF f s n).1) : SEm f n s w (.returned (.tuple #[.slice A n c, .int .i64 0])) w' := by
  refine ⟨A, n, c, by rw [h], ?_, hb⟩
  unfold emitL; rw [if_pos h, Int.toNat_natCast]; exact hr
theorem emitErr_check {f : Nat → Int} {n : Int} (h : checkErr f = 2) : emitErr f n = 2 := by unfold emitErr; rw [h]; rfl
theorem emitErr_range {f : Nat → Int} {n : Int} (h : checkErr f = 0) (hn : n < 0 ∨ 4096 < n) : emitErr f n = 3 := by unfold emitErr; rw [if_neg (by omega), if_pos hn]
theorem emitErr_ok {f : Nat → Int} {n : Int} (h : checkErr f = 0) (hn : ¬ (n < 0 ∨ 4096 < n)) : emitErr f n = 0 := by unfold emitErr; rw [if_neg (by omega), if_neg hn]
theorem check_two {f : Nat → Int} (h : checkErr f ≠ 0) : checkErr f = 2 := by
  unfold checkErr at *; split at h
  · exact absurd rfl h
  · rename_i hn; rw [if_neg hn]
theorem info_pu : (Tryd.prog.info? 55).map (fun i => (i.zero, i.size, i.bytes)) = some (some (.agg #[.int .i64 0, .bool false, .int .i64 0, .int .i64 0, .bool false]), 5, 40) := by kernel_rfl
theorem emiF_succ {f : Nat → Int} {s i t : Nat} {xs : List Pu} (h : emiF f s i = (xs, t)) {p : Pu} {t2 : Nat} (h2 : pulF f t = (p, t2)) : emiF f s (i + 1) = (xs ++ [p], t2) := by rw [emiF, h]; simp only [h2]

structure PQ (w : World) (gO gP D : Nat) : Prop where
  o : gO < w.heap.size
  p : w.heap.size ≤ gP
  d : D < w.heap.size
  od : gO ≠ D
section
variable {w W W' : World} {gO gP D s s' : Nat} {f : Nat → Int} {p p' : Pu}
end

end Go.Proofs.YthdidjnhfkeokaaDoor
