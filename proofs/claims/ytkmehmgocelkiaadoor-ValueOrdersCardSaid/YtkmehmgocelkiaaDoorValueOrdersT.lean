/-
  regraterlaw06.ValueOrders: what comes in, told by its types.
-/
import Derived.Test.YtkmehmgocelkiaaDoorVa
import Derived.Test.YtkmehmgocelkiaaDoorAvZ
namespace Go.Proofs.YtkmehmgocelkiaaDoor
open Go.AV Go.RowKit

def R_law06_Value_23 (v : T_law06_Value) : Prop := (fun n : Int => (Lit.int .u8 n).wf = true) v.Kind ∧ (fun n : Int => (Lit.int .i64 n).wf = true) v.N ∧ (fun s : Str => s.length ≤ maxLen) v.S
theorem told_law06_Value_23 : ToldT Tryd.prog 23 e_law06_Value.c R_law06_Value_23 := by
  intro us h
  have r := h.fields Tryd.underlying23
  obtain ⟨v0, q0, rfl, h0, r⟩ := r.first (told_int Tryd.underlying5)
  obtain ⟨v1, q1, rfl, h1, r⟩ := r.first (told_int Tryd.underlying2)
  obtain ⟨v2, q2, rfl, h2, r⟩ := r.first (told_str Tryd.underlying9)
  obtain rfl := r.last
  exact ⟨⟨v0, v1, v2⟩, rfl, h0, h1, h2⟩

/-- what is left to show -/
def ValueOrders_law : Prop := ∀ (a0 : T_law06_Value) (a1 : T_law06_Value), R_law06_Value_23 a0 → R_law06_Value_23 a1 → law06_ValueOrders_o a0 a1 true
set_option maxRecDepth 100000 in
theorem ValueOrders_pure {a0 : T_law06_Value} {a1 : T_law06_Value} (h : law06_ValueOrders_o a0 a1 true) : Pure Tryd.prog 4 [.agg (e_law06_Value.c a0), .agg (e_law06_Value.c a1)] (.bl true) := by
  have e : Pure Tryd.prog law06_ValueOrders_sp.f (pencs CC law06_ValueOrders_sp.ps [.d (.v 23 a0), .d (.v 23 a1)]) (tresA (([.v 4 true] : List (DV KK)).map (dvA CC))) = Pure Tryd.prog 4 [.agg (e_law06_Value.c a0), .agg (e_law06_Value.c a1)] (.bl true) := by kernel_rfl
  have w : law06_ValueOrders_sp.W [.d (.v 23 a0), .d (.v 23 a1)] [.v 4 true] = law06_ValueOrders_o a0 a1 true := by kernel_rfl
  exact e.mp (law06_ValueOrders_ok _ _ (fun F h => by simp at h) (w.mpr h)).2
end Go.Proofs.YtkmehmgocelkiaaDoor
