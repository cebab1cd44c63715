/- What is reckoned on the data with slices: sizes. -/
import Derived.Test.YtbhnekiclbfmgaaGreatDeep
import Derived.Test.YtbhnekiclbfmgaaGreatSlq
namespace Go.Proofs.YtbhnekiclbfmgaaGreat
open SL Go.RowKit
end Go.Proofs.YtbhnekiclbfmgaaGreat
