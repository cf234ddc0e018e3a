/-
  regraterlaw14.LexSplits: what comes in, told by its types.
-/
import Derived.Test.YteoohihaibgplaaDoorLa
import Derived.Test.YteoohihaibgplaaDoorAvZ
namespace Go.Proofs.YteoohihaibgplaaDoor
open Go.AV Go.RowKit


/-- what is left to show -/
def LexSplits_law : Prop := ∀ (a0 : Str), (fun s : Str => s.length ≤ maxLen) a0 → law14_LexSplits_o a0 true
set_option maxRecDepth 100000 in
theorem LexSplits_pure {a0 : Str} (h : law14_LexSplits_o a0 true) : Pure Tryd.prog 6 [.st a0] (.bl true) := by
  have e : Pure Tryd.prog law14_LexSplits_sp.f (pencs CC law14_LexSplits_sp.ps [.d (.v 9 a0)]) (tresA (([.v 4 true] : List (DV KK)).map (dvA CC))) = Pure Tryd.prog 6 [.st a0] (.bl true) := by kernel_rfl
  have w : law14_LexSplits_sp.W [.d (.v 9 a0)] [.v 4 true] = law14_LexSplits_o a0 true := by kernel_rfl
  exact e.mp (law14_LexSplits_ok _ _ (fun F h => by simp at h) (w.mpr h)).2
end Go.Proofs.YteoohihaibgplaaDoor
