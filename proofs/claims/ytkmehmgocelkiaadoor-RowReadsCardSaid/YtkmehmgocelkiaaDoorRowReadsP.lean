import Derived.Test.YtkmehmgocelkiaaDoorRowReadsT
import Derived.Test.YtkmehmgocelkiaaDoorRpI
namespace Go.Proofs.YtkmehmgocelkiaaDoor
open Go.AV
theorem RowReads_true : RowReads_law := fun a0 a1 _ _ => RowReads_plain a0 a1
end Go.Proofs.YtkmehmgocelkiaaDoor
