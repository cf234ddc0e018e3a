import Derived.Test.YtkmehmgocelkiaaDoorRowKeysT
import Derived.Test.YtkmehmgocelkiaaDoorRpF
namespace Go.Proofs.YtkmehmgocelkiaaDoor
open Go.AV
theorem lok7 {x : LV} (h : R_law07_Value_90 x) : LOk x := by
  obtain ⟨h1, h2, _⟩ := h
  have a := wfu8.1 h1
  have b := wf64.1 h2
  exact ⟨a.1, a.2, b⟩
theorem RowKeys_true : RowKeys_law := fun _ _ h1 h2 => RowKeys_plain (fun v hv => lok7 (h1.2 v hv)) (fun v hv => lok7 (h2.2 v hv))
end Go.Proofs.YtkmehmgocelkiaaDoor
