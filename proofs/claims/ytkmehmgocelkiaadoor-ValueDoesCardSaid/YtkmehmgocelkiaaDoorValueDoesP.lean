import Derived.Test.YtkmehmgocelkiaaDoorValueDoesT
import Derived.Test.YtkmehmgocelkiaaDoorVpC
namespace Go.Proofs.YtkmehmgocelkiaaDoor
open Go.AV
theorem lok {x : LV} (h : R_law06_Value_23 x) : LOk x := by
  obtain ⟨h1, h2, _⟩ := h
  have a := wfu8.1 h1
  have b := wf64.1 h2
  exact ⟨a.1, a.2, b⟩
theorem ValueDoes_true : ValueDoes_law := fun _ _ _ _ h1 h2 => ValueDoes_plain (lok h1) (lok h2)
end Go.Proofs.YtkmehmgocelkiaaDoor
