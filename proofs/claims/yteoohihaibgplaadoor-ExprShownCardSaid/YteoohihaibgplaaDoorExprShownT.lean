/-
  regraterlaw15.ExprShown: what comes in, told by its types.
-/
import Derived.Test.YteoohihaibgplaaDoorEa
import Derived.Test.YteoohihaibgplaaDoorAvZ
namespace Go.Proofs.YteoohihaibgplaaDoor
open Go.AV Go.RowKit

def R_law15_Part_65 (v : T_law15_Part) : Prop := (fun n : Int => (Lit.int .u8 n).wf = true) v.Kind ∧ (fun n : Int => (Lit.int .u8 n).wf = true) v.Op ∧ (fun n : Int => (Lit.int .u8 n).wf = true) v.Value ∧ (fun n : Int => (Lit.int .u8 n).wf = true) v.Parts ∧ (fun n : Int => (Lit.int .i64 n).wf = true) v.N ∧ (fun s : Str => s.length ≤ maxLen) v.Name ∧ (fun s : Str => s.length ≤ maxLen) v.Table
theorem told_law15_Part_65 : ToldT Tryd.prog 65 e_law15_Part.c R_law15_Part_65 := by
  intro us h
  have r := h.fields Tryd.underlying65
  obtain ⟨v0, q0, rfl, h0, r⟩ := r.first (told_int Tryd.underlying5)
  obtain ⟨v1, q1, rfl, h1, r⟩ := r.first (told_int Tryd.underlying5)
  obtain ⟨v2, q2, rfl, h2, r⟩ := r.first (told_int Tryd.underlying5)
  obtain ⟨v3, q3, rfl, h3, r⟩ := r.first (told_int Tryd.underlying5)
  obtain ⟨v4, q4, rfl, h4, r⟩ := r.first (told_int Tryd.underlying2)
  obtain ⟨v5, q5, rfl, h5, r⟩ := r.first (told_str Tryd.underlying9)
  obtain ⟨v6, q6, rfl, h6, r⟩ := r.first (told_str Tryd.underlying9)
  obtain rfl := r.last
  exact ⟨⟨v0, v1, v2, v3, v4, v5, v6⟩, rfl, h0, h1, h2, h3, h4, h5, h6⟩

/-- what is left to show -/
def ExprShown_law : Prop := ∀ (a0 : (List T_law15_Part)) (a1 : (List T_law15_Part)), (fun l : List T_law15_Part => l.length ≤ maxLen ∧ ∀ v ∈ l, R_law15_Part_65 v) a0 → (fun l : List T_law15_Part => l.length ≤ maxLen ∧ ∀ v ∈ l, R_law15_Part_65 v) a1 → law15_ExprShown_o a0 a1 true
set_option maxRecDepth 100000 in
theorem ExprShown_pure {a0 : (List T_law15_Part)} {a1 : (List T_law15_Part)} (h : law15_ExprShown_o a0 a1 true) : Pure Tryd.prog 3 [slA e_law15_Part a0, slA e_law15_Part a1] (.bl true) := by
  have e : Pure Tryd.prog law15_ExprShown_sp.f (pencs CC law15_ExprShown_sp.ps [.d (.v 22 a0), .d (.v 22 a1)]) (tresA (([.v 4 true] : List (DV KK)).map (dvA CC))) = Pure Tryd.prog 3 [slA e_law15_Part a0, slA e_law15_Part a1] (.bl true) := by kernel_rfl
  have w : law15_ExprShown_sp.W [.d (.v 22 a0), .d (.v 22 a1)] [.v 4 true] = law15_ExprShown_o a0 a1 true := by kernel_rfl
  exact e.mp (law15_ExprShown_ok _ _ (fun F h => by simp at h) (w.mpr h)).2
end Go.Proofs.YteoohihaibgplaaDoor
