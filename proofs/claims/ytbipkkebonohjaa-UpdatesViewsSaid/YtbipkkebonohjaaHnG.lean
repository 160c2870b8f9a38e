/- HN, part G: a slice is nil, or is not: both ways told, it is told. -/
import Derived.Test.YtbipkkebonohjaaHnF
namespace Go.HM
variable {P : Program}
end Go.HM
