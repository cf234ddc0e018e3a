/-
  regraterlaw06.ValueOnes: what comes in, told by its types.
-/
import Derived.Test.YtkmehmgocelkiaaDoorVa
import Derived.Test.YtkmehmgocelkiaaDoorAvZ
namespace Go.Proofs.YtkmehmgocelkiaaDoor
open Go.AV Go.RowKit


/-- what is left to show -/
def ValueOnes_law : Prop := ∀ (a0 : Int) (a1 : Int) (a2 : Str), (fun n : Int => (Lit.int .i64 n).wf = true) a0 → (fun n : Int => (Lit.int .i64 n).wf = true) a1 → (fun s : Str => s.length ≤ maxLen) a2 → law06_ValueOnes_o a0 a1 a2 true
set_option maxRecDepth 100000 in
theorem ValueOnes_pure {a0 : Int} {a1 : Int} {a2 : Str} (h : law06_ValueOnes_o a0 a1 a2 true) : Pure Tryd.prog 6 [.it .i64 a0, .it .i64 a1, .st a2] (.bl true) := by
  have e : Pure Tryd.prog law06_ValueOnes_sp.f (pencs CC law06_ValueOnes_sp.ps [.d (.v 3 a0), .d (.v 2 a1), .d (.v 9 a2)]) (tresA (([.v 4 true] : List (DV KK)).map (dvA CC))) = Pure Tryd.prog 6 [.it .i64 a0, .it .i64 a1, .st a2] (.bl true) := by kernel_rfl
  have w : law06_ValueOnes_sp.W [.d (.v 3 a0), .d (.v 2 a1), .d (.v 9 a2)] [.v 4 true] = law06_ValueOnes_o a0 a1 a2 true := by kernel_rfl
  exact e.mp (law06_ValueOnes_ok _ _ (fun F h => by simp at h) (w.mpr h)).2
end Go.Proofs.YtkmehmgocelkiaaDoor
