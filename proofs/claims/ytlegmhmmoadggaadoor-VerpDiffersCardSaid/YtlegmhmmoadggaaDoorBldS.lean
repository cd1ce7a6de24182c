/- (*strings.Builder).WriteString at this translation. -/
import Derived.Test.YtlegmhmmoadggaaDoorBldW
namespace Go.Proofs.YtlegmhmmoadggaaDoor
open Go.RowKit
end Go.Proofs.YtlegmhmmoadggaaDoor
