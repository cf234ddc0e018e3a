/-
  regraterlaw23.AggTurns: what comes in, told by its types.
-/
import Derived.Test.YtkmehmgocelkiaaAggb
import Derived.Test.YtkmehmgocelkiaaAvZ
namespace Go.Proofs.Ytkmehmgocelkiaa
open Go.AV Go.RowKit

def R_law23_Value_67 (v : T_law23_Value) : Prop := (fun n : Int => (Lit.int .u8 n).wf = true) v.Kind ∧ (fun n : Int => (Lit.int .i64 n).wf = true) v.N ∧ (fun s : Str => s.length ≤ maxLen) v.S
theorem told_law23_Value_67 : ToldT Try.prog 67 e_law23_Value.c R_law23_Value_67 := by
  intro us h
  have r := h.fields Try.underlying67
  obtain ⟨v0, q0, rfl, h0, r⟩ := r.first (told_int Try.underlying5)
  obtain ⟨v1, q1, rfl, h1, r⟩ := r.first (told_int Try.underlying2)
  obtain ⟨v2, q2, rfl, h2, r⟩ := r.first (told_str Try.underlying9)
  obtain rfl := r.last
  exact ⟨⟨v0, v1, v2⟩, rfl, h0, h1, h2⟩

def R_law23_Row_69 (v : T_law23_Row) : Prop := (fun n : Int => (Lit.int .u8 n).wf = true) v.Group ∧ R_law23_Value_67 v.A ∧ R_law23_Value_67 v.B
theorem told_law23_Row_69 : ToldT Try.prog 69 e_law23_Row.c R_law23_Row_69 := by
  intro us h
  have r := h.fields Try.underlying69
  obtain ⟨v0, q0, rfl, h0, r⟩ := r.first (told_int Try.underlying5)
  obtain ⟨v1, q1, rfl, h1, r⟩ := r.first told_law23_Value_67
  obtain ⟨v2, q2, rfl, h2, r⟩ := r.first told_law23_Value_67
  obtain rfl := r.last
  exact ⟨⟨v0, v1, v2⟩, rfl, h0, h1, h2⟩

/-- what is left to show -/
def AggTurns_law : Prop := ∀ (a0 : (List T_law23_Row)), (fun l : List T_law23_Row => l.length ≤ maxLen ∧ ∀ v ∈ l, R_law23_Row_69 v) a0 → law23_AggTurns_o a0 true
end Go.Proofs.Ytkmehmgocelkiaa
