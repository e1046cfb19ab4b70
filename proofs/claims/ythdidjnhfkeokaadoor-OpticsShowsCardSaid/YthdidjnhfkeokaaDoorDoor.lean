/- Closed facts of the program that every law of this seat uses: the start that its witness takes. No condition. -/
import Derived.Test.YthdidjnhfkeokaaDoorQo
namespace Go.Proofs.YthdidjnhfkeokaaDoor
open Go.ChangeShapes Go.WideShapes Go.ChangeAt Go.RowKit

theorem own : ownKnob Tryd.prog.godebug = none := by kernel_rfl
theorem laidOut : laidOutB Tryd.prog = true := by kernel_rfl
end Go.Proofs.YthdidjnhfkeokaaDoor
