/-
  regraterlaw14.LexNames: what comes in, told by its types.
-/
import Derived.Test.YteoohihaibgplaaDoorLa
import Derived.Test.YteoohihaibgplaaDoorAvZ
namespace Go.Proofs.YteoohihaibgplaaDoor
open Go.AV Go.RowKit


/-- what is left to show -/
def LexNames_law : Prop := ∀ (a0 : Str) (a1 : Int), (fun s : Str => s.length ≤ maxLen) a0 → (fun n : Int => (Lit.int .u16 n).wf = true) a1 → law14_LexNames_o a0 a1 true
set_option maxRecDepth 100000 in
theorem LexNames_pure {a0 : Str} {a1 : Int} (h : law14_LexNames_o a0 a1 true) : Pure Tryd.prog 5 [.st a0, .it .u16 a1] (.bl true) := by
  have e : Pure Tryd.prog law14_LexNames_sp.f (pencs CC law14_LexNames_sp.ps [.d (.v 9 a0), .d (.v 48 a1)]) (tresA (([.v 4 true] : List (DV KK)).map (dvA CC))) = Pure Tryd.prog 5 [.st a0, .it .u16 a1] (.bl true) := by kernel_rfl
  have w : law14_LexNames_sp.W [.d (.v 9 a0), .d (.v 48 a1)] [.v 4 true] = law14_LexNames_o a0 a1 true := by kernel_rfl
  exact e.mp (law14_LexNames_ok _ _ (fun F h => by simp at h) (w.mpr h)).2
end Go.Proofs.YteoohihaibgplaaDoor
