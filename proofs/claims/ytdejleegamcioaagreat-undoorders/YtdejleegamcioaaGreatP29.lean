/- The reference of cleanings: what levels show; its Check. -/
import Derived.Test.YtdejleegamcioaaGreatP28
namespace Go.Proofs.YtdejleegamcioaaGreat
open Go Go.M
end Go.Proofs.YtdejleegamcioaaGreat
