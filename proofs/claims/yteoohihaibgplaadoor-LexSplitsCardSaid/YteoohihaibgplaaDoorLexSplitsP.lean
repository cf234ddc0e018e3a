import Derived.Test.YteoohihaibgplaaDoorLexSplitsT
import Derived.Test.YteoohihaibgplaaDoorLqE
namespace Go.Proofs.YteoohihaibgplaaDoor
open Go.AV
theorem LexSplits_true : LexSplits_law := fun s _ => LexSplits_plain s
end Go.Proofs.YteoohihaibgplaaDoor
