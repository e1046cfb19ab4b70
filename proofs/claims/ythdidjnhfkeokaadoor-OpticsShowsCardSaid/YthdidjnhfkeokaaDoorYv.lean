/- Contract of the law's has: it only reads. Plain lemmas of the laws over an arrangement without dark counts: what Agree and Knows return of a flight. -/
import Derived.Test.YthdidjnhfkeokaaDoorQc
import Derived.Test.YthdidjnhfkeokaaDoorYq
import Derived.Test.YthdidjnhfkeokaaDoorQd
import Derived.Test.YthdidjnhfkeokaaDoorQf
namespace Go.Proofs.YthdidjnhfkeokaaDoor
open Go.RowKit

end Go.Proofs.YthdidjnhfkeokaaDoor
namespace Go.Proofs.YthdidjnhfkeokaaDoor
open Go.RowKit

def undark (f : Nat → Int) : Nat → Int := fun k => if k = 17 then 0 else f k
theorem undark_set (f : Nat → Int) : (cells18 f).setIfInBounds 17 (.int .i64 0) = cells18 (undark f) := rfl
/-- Agree over a flight: no error. -/
theorem agree_fl {P : List Pu} {C : List Ck} {m : Nat} (hP : P.all okPu = true) (hC : C.all okCk = true) (hm : m ≤ 4096) (A1 : Option Addr) (c1 : Nat) (A2 : Option Addr) (c2 : Nat) (W : World) (p : Rd ePu W W.heap.size A1 m c1 P) (k : Rd eCk W W.heap.size A2 m c2 C) :
    Calls Tryd.prog 17 #[.slice A1 m c1, .slice A2 m c2, .int .i64 0] W fun e w' => ∃ B1 n1 d1 B2 n2 d2, e = .returned (.tuple #[.slice B1 n1 d1, .slice B2 n2 d2, .int .i64 0]) ∧ Rd eNat w' w'.heap.size B1 n1 d1 (slotsOf (agr C 0) P m) ∧ Rd eNat w' w'.heap.size B2 n2 d2 (slotsOf (dif C 0) P m) ∧ Below W.heap.size W w' := by
  have hpl := p.len
  have hkl := k.len
  have hag := agreeErr_ok hP hC (by omega) (by omega)
  refine (agree_c A1 m c1 P A2 m c2 C 0 W p k).mono fun e w' h => ?_
  obtain ⟨B1, n1, d1, B2, n2, d2, he, q1, q2, hb⟩ := h
  rw [hag] at he
  unfold agreeSame at q1
  unfold agreeWrong at q2
  rw [if_pos hag, hpl] at q1 q2
  exact ⟨B1, n1, d1, B2, n2, d2, he, q1, q2, hb⟩
end Go.Proofs.YthdidjnhfkeokaaDoor
