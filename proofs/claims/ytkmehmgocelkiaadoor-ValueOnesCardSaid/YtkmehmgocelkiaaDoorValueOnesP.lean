import Derived.Test.YtkmehmgocelkiaaDoorValueOnesT
import Derived.Test.YtkmehmgocelkiaaDoorVpF
namespace Go.Proofs.YtkmehmgocelkiaaDoor
open Go.AV
theorem ValueOnes_true : ValueOnes_law := fun _ _ _ _ h _ => ValueOnes_plain (wf64.1 h)
end Go.Proofs.YtkmehmgocelkiaaDoor
