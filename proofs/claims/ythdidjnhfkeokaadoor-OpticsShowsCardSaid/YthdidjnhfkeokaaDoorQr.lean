/- Contracts of the reference's kind, detect. -/
import Derived.Test.YthdidjnhfkeokaaDoorQq
namespace Go.Proofs.YthdidjnhfkeokaaDoor
open Go.RowKit

end Go.Proofs.YthdidjnhfkeokaaDoor
