/-
  regraterlaw06.ValueLaws: what comes in, told by its types.
-/
import Derived.Test.YtkmehmgocelkiaaDoorVa
import Derived.Test.YtkmehmgocelkiaaDoorAvZ
namespace Go.Proofs.YtkmehmgocelkiaaDoor
open Go.AV Go.RowKit

def R_law06_Value_23 (v : T_law06_Value) : Prop := (fun n : Int => (Lit.int .u8 n).wf = true) v.Kind ∧ (fun n : Int => (Lit.int .i64 n).wf = true) v.N ∧ (fun s : Str => s.length ≤ maxLen) v.S
theorem told_law06_Value_23 : ToldT Tryd.prog 23 e_law06_Value.c R_law06_Value_23 := by
  intro us h
  have r := h.fields Tryd.underlying23
  obtain ⟨v0, q0, rfl, h0, r⟩ := r.first (told_int Tryd.underlying5)
  obtain ⟨v1, q1, rfl, h1, r⟩ := r.first (told_int Tryd.underlying2)
  obtain ⟨v2, q2, rfl, h2, r⟩ := r.first (told_str Tryd.underlying9)
  obtain rfl := r.last
  exact ⟨⟨v0, v1, v2⟩, rfl, h0, h1, h2⟩

def R_law06_Pair_40 (v : T_law06_Pair) : Prop := R_law06_Value_23 v.X ∧ R_law06_Value_23 v.Y ∧ (fun n : Int => (Lit.int .i64 n).wf = true) v.A ∧ (fun n : Int => (Lit.int .i64 n).wf = true) v.B
theorem told_law06_Pair_40 : ToldT Tryd.prog 40 e_law06_Pair.c R_law06_Pair_40 := by
  intro us h
  have r := h.fields Tryd.underlying40
  obtain ⟨v0, q0, rfl, h0, r⟩ := r.first told_law06_Value_23
  obtain ⟨v1, q1, rfl, h1, r⟩ := r.first told_law06_Value_23
  obtain ⟨v2, q2, rfl, h2, r⟩ := r.first (told_int Tryd.underlying2)
  obtain ⟨v3, q3, rfl, h3, r⟩ := r.first (told_int Tryd.underlying2)
  obtain rfl := r.last
  exact ⟨⟨v0, v1, v2, v3⟩, rfl, h0, h1, h2, h3⟩

/-- what is left to show -/
def ValueLaws_law : Prop := ∀ (a0 : T_law06_Pair), R_law06_Pair_40 a0 → law06_ValueLaws_o a0 true
set_option maxRecDepth 100000 in
theorem ValueLaws_pure {a0 : T_law06_Pair} (h : law06_ValueLaws_o a0 true) : Pure Tryd.prog 5 [.agg (e_law06_Pair.c a0)] (.bl true) := by
  have e : Pure Tryd.prog law06_ValueLaws_sp.f (pencs CC law06_ValueLaws_sp.ps [.d (.v 40 a0)]) (tresA (([.v 4 true] : List (DV KK)).map (dvA CC))) = Pure Tryd.prog 5 [.agg (e_law06_Pair.c a0)] (.bl true) := by kernel_rfl
  have w : law06_ValueLaws_sp.W [.d (.v 40 a0)] [.v 4 true] = law06_ValueLaws_o a0 true := by kernel_rfl
  exact e.mp (law06_ValueLaws_ok _ _ (fun F h => by simp at h) (w.mpr h)).2
end Go.Proofs.YtkmehmgocelkiaaDoor
