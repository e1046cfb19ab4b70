/- The walk of OpticsDetects in the order that law3.py hands its arguments. -/
import Derived.Test.YtddajmagdjkodaaDoorQy
import Derived.Test.YtddajmagdjkodaaDoorQz
import Derived.Test.YtddajmagdjkodaaDoorQza
namespace Go.Proofs.YtddajmagdjkodaaDoor
open Go.RowKit
theorem detects_w (f : Nat → Int) (_ : True) (A : Option Addr) (n c : Nat) (L : List Li) (sh : Int) (_wsh : (Lit.int .i64 sh).wf = true) (sd : Int) (wsd : (Lit.int .u64 sd).wf = true) (w : World) (s : Rd eLi w w.heap.size A n c L) (ht : Tab w) :
    Calls Tryd.prog 4 #[.agg (cells18 f), .slice A n c, .int .i64 sh, .int .u64 sd] w fun e w' => e = .returned (.bool true) ∧ Below w.heap.size w w' := by
  have h0 : 0 ≤ sd := by simp [Lit.wf, IntKind.min, IntKind.max, IntKind.signed, IntKind.bits] at wsd; omega
  obtain ⟨q, rfl⟩ := Int.eq_ofNat_of_zero_le h0
  exact detects_c f A n c L sh q w s ht
end Go.Proofs.YtddajmagdjkodaaDoor
