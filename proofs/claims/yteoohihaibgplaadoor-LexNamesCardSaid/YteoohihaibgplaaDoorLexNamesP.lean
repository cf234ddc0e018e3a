import Derived.Test.YteoohihaibgplaaDoorLexNamesT
import Derived.Test.YteoohihaibgplaaDoorLpE
namespace Go.Proofs.YteoohihaibgplaaDoor
open Go.AV
theorem wfu16 {n : Int} : (Lit.int .u16 n).wf = true ↔ 0 ≤ n ∧ n ≤ 65535 := by
  simp [Lit.wf, IntKind.min, IntKind.max, IntKind.signed, IntKind.bits]
theorem LexNames_true : LexNames_law := fun _ _ _ h => LexNames_plain (wfu16.1 h).1 (wfu16.1 h).2
end Go.Proofs.YteoohihaibgplaaDoor
