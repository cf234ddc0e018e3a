import Derived.Test.YtkmehmgocelkiaaDoorValueOrdersT
import Derived.Test.YtkmehmgocelkiaaDoorVpD
namespace Go.Proofs.YtkmehmgocelkiaaDoor
open Go.AV
theorem lok {x : LV} (h : R_law06_Value_23 x) : LOk x := by
  obtain ⟨h1, h2, _⟩ := h
  have a := wfu8.1 h1
  have b := wf64.1 h2
  exact ⟨a.1, a.2, b⟩
theorem ValueOrders_true : ValueOrders_law := fun _ _ h1 h2 => ValueOrders_plain (lok h1) (lok h2)
end Go.Proofs.YtkmehmgocelkiaaDoor
