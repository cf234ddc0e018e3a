/-
  regraterlaw07.RowKeys: what comes in, told by its types.
-/
import Derived.Test.YtkmehmgocelkiaaDoorRa
import Derived.Test.YtkmehmgocelkiaaDoorAvZ
namespace Go.Proofs.YtkmehmgocelkiaaDoor
open Go.AV Go.RowKit

def R_law07_Value_90 (v : T_law07_Value) : Prop := (fun n : Int => (Lit.int .u8 n).wf = true) v.Kind ∧ (fun n : Int => (Lit.int .i64 n).wf = true) v.N ∧ (fun s : Str => s.length ≤ maxLen) v.S
theorem told_law07_Value_90 : ToldT Tryd.prog 90 e_law07_Value.c R_law07_Value_90 := by
  intro us h
  have r := h.fields Tryd.underlying90
  obtain ⟨v0, q0, rfl, h0, r⟩ := r.first (told_int Tryd.underlying5)
  obtain ⟨v1, q1, rfl, h1, r⟩ := r.first (told_int Tryd.underlying2)
  obtain ⟨v2, q2, rfl, h2, r⟩ := r.first (told_str Tryd.underlying9)
  obtain rfl := r.last
  exact ⟨⟨v0, v1, v2⟩, rfl, h0, h1, h2⟩

/-- what is left to show -/
def RowKeys_law : Prop := ∀ (a0 : (List T_law07_Value)) (a1 : (List T_law07_Value)), (fun l : List T_law07_Value => l.length ≤ maxLen ∧ ∀ v ∈ l, R_law07_Value_90 v) a0 → (fun l : List T_law07_Value => l.length ≤ maxLen ∧ ∀ v ∈ l, R_law07_Value_90 v) a1 → law07_RowKeys_o a0 a1 true
set_option maxRecDepth 100000 in
theorem RowKeys_pure {a0 : (List T_law07_Value)} {a1 : (List T_law07_Value)} (h : law07_RowKeys_o a0 a1 true) : Pure Tryd.prog 7 [slA e_law07_Value a0, slA e_law07_Value a1] (.bl true) := by
  have e : Pure Tryd.prog law07_RowKeys_sp.f (pencs CC law07_RowKeys_sp.ps [.d (.v 50 a0), .d (.v 50 a1)]) (tresA (([.v 4 true] : List (DV KK)).map (dvA CC))) = Pure Tryd.prog 7 [slA e_law07_Value a0, slA e_law07_Value a1] (.bl true) := by kernel_rfl
  have w : law07_RowKeys_sp.W [.d (.v 50 a0), .d (.v 50 a1)] [.v 4 true] = law07_RowKeys_o a0 a1 true := by kernel_rfl
  exact e.mp (law07_RowKeys_ok _ _ (fun F h => by simp at h) (w.mpr h)).2
end Go.Proofs.YtkmehmgocelkiaaDoor
