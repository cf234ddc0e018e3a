/-
  regraterlaw07.RowReads: what comes in, told by its types.
-/
import Derived.Test.YtkmehmgocelkiaaDoorRa
import Derived.Test.YtkmehmgocelkiaaDoorAvZ
namespace Go.Proofs.YtkmehmgocelkiaaDoor
open Go.AV Go.RowKit


/-- what is left to show -/
def RowReads_law : Prop := ∀ (a0 : (List Str)) (a1 : Str), (fun l : List Str => l.length ≤ maxLen ∧ ∀ v ∈ l, (fun s : Str => s.length ≤ maxLen) v) a0 → (fun s : Str => s.length ≤ maxLen) a1 → law07_RowReads_o a0 a1 true
set_option maxRecDepth 100000 in
theorem RowReads_pure {a0 : (List Str)} {a1 : Str} (h : law07_RowReads_o a0 a1 true) : Pure Tryd.prog 8 [slA eS a0, .st a1] (.bl true) := by
  have e : Pure Tryd.prog law07_RowReads_sp.f (pencs CC law07_RowReads_sp.ps [.d (.v 64 a0), .d (.v 9 a1)]) (tresA (([.v 4 true] : List (DV KK)).map (dvA CC))) = Pure Tryd.prog 8 [slA eS a0, .st a1] (.bl true) := by kernel_rfl
  have w : law07_RowReads_sp.W [.d (.v 64 a0), .d (.v 9 a1)] [.v 4 true] = law07_RowReads_o a0 a1 true := by kernel_rfl
  exact e.mp (law07_RowReads_ok _ _ (fun F h => by simp at h) (w.mpr h)).2
end Go.Proofs.YtkmehmgocelkiaaDoor
