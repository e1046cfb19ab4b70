/- Contract of the reference's weighed. -/
import Derived.Test.YthdidjnhfkeokaaDoorVw
import Derived.Test.YthdidjnhfkeokaaDoorQr
namespace Go.Proofs.YthdidjnhfkeokaaDoor
open Go.RowKit

end Go.Proofs.YthdidjnhfkeokaaDoor
