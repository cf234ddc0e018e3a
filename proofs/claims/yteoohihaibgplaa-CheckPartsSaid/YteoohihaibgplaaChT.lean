/-
  regraterlaw20.CheckParts: what comes in, told by its types.
-/
import Derived.Test.YteoohihaibgplaaChP
import Derived.Test.YteoohihaibgplaaAvZ
namespace Go.Proofs.Yteoohihaibgplaa
open Go.AV Go.RowKit

def R_law15_Part_109 (v : T_law15_Part) : Prop := (fun n : Int => (Lit.int .u8 n).wf = true) v.Kind ∧ (fun n : Int => (Lit.int .u8 n).wf = true) v.Op ∧ (fun n : Int => (Lit.int .u8 n).wf = true) v.Value ∧ (fun n : Int => (Lit.int .u8 n).wf = true) v.Parts ∧ (fun n : Int => (Lit.int .i64 n).wf = true) v.N ∧ (fun s : Str => s.length ≤ maxLen) v.Name ∧ (fun s : Str => s.length ≤ maxLen) v.Table
theorem told_law15_Part_109 : ToldT Try.prog 109 e_law15_Part.c R_law15_Part_109 := by
  intro us h
  have r := h.fields Try.underlying109
  obtain ⟨v0, q0, rfl, h0, r⟩ := r.first (told_int Try.underlying5)
  obtain ⟨v1, q1, rfl, h1, r⟩ := r.first (told_int Try.underlying5)
  obtain ⟨v2, q2, rfl, h2, r⟩ := r.first (told_int Try.underlying5)
  obtain ⟨v3, q3, rfl, h3, r⟩ := r.first (told_int Try.underlying5)
  obtain ⟨v4, q4, rfl, h4, r⟩ := r.first (told_int Try.underlying2)
  obtain ⟨v5, q5, rfl, h5, r⟩ := r.first (told_str Try.underlying9)
  obtain ⟨v6, q6, rfl, h6, r⟩ := r.first (told_str Try.underlying9)
  obtain rfl := r.last
  exact ⟨⟨v0, v1, v2, v3, v4, v5, v6⟩, rfl, h0, h1, h2, h3, h4, h5, h6⟩

def R_law20_Cell_112 (v : T_law20_Cell) : Prop := (fun n : Int => (Lit.int .u8 n).wf = true) v.Table ∧ (fun n : Int => (Lit.int .u8 n).wf = true) v.Name ∧ (fun n : Int => (Lit.int .u8 n).wf = true) v.Kind ∧ (fun _ : Bool => True) v.Null ∧ (fun n : Int => (Lit.int .i64 n).wf = true) v.N ∧ (fun s : Str => s.length ≤ maxLen) v.S
theorem told_law20_Cell_112 : ToldT Try.prog 112 e_law20_Cell.c R_law20_Cell_112 := by
  intro us h
  have r := h.fields Try.underlying112
  obtain ⟨v0, q0, rfl, h0, r⟩ := r.first (told_int Try.underlying5)
  obtain ⟨v1, q1, rfl, h1, r⟩ := r.first (told_int Try.underlying5)
  obtain ⟨v2, q2, rfl, h2, r⟩ := r.first (told_int Try.underlying5)
  obtain ⟨v3, q3, rfl, h3, r⟩ := r.first (told_bool Try.underlying4)
  obtain ⟨v4, q4, rfl, h4, r⟩ := r.first (told_int Try.underlying2)
  obtain ⟨v5, q5, rfl, h5, r⟩ := r.first (told_str Try.underlying9)
  obtain rfl := r.last
  exact ⟨⟨v0, v1, v2, v3, v4, v5⟩, rfl, h0, h1, h2, h3, h4, h5⟩

/-- what is left to show -/
def CheckParts_law : Prop := ∀ (a0 : (List T_law15_Part)) (a1 : (List T_law20_Cell)), (fun l : List T_law15_Part => l.length ≤ maxLen ∧ ∀ v ∈ l, R_law15_Part_109 v) a0 → (fun l : List T_law20_Cell => l.length ≤ maxLen ∧ ∀ v ∈ l, R_law20_Cell_112 v) a1 → law20_CheckParts_o a0 a1 true
set_option maxRecDepth 100000 in
theorem CheckParts_pure {a0 : (List T_law15_Part)} {a1 : (List T_law20_Cell)} (h : law20_CheckParts_o a0 a1 true) : Pure Try.prog 3 [slA e_law15_Part a0, slA e_law20_Cell a1] (.bl true) := by
  have e : Pure Try.prog law20_CheckParts_sp.f (pencs CC law20_CheckParts_sp.ps [.d (.v 22 a0), .d (.v 23 a1)]) (tresA (([.v 4 true] : List (DV KK)).map (dvA CC))) = Pure Try.prog 3 [slA e_law15_Part a0, slA e_law20_Cell a1] (.bl true) := by kernel_rfl
  have w : law20_CheckParts_sp.W [.d (.v 22 a0), .d (.v 23 a1)] [.v 4 true] = law20_CheckParts_o a0 a1 true := by kernel_rfl
  exact e.mp (law20_CheckParts_ok _ _ (fun F h => by simp at h) (w.mpr h)).2
end Go.Proofs.Yteoohihaibgplaa
