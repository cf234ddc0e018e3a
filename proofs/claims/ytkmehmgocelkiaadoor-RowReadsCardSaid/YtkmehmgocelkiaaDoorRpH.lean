import Derived.Test.YtkmehmgocelkiaaDoorRpG
namespace Go.Proofs.YtkmehmgocelkiaaDoor
open Go.AV Go.RowKit

theorem take_min {s : Str} {k : Nat} : (List.take ((if (k : Int) < (s.length : Int) then (k : Int) else (s.length : Int)).toNat - (0 : Int).toNat) (List.drop (0 : Int).toNat s)) = s.take k := by
  split
  · simp
  · have : s.length ≤ k := by omega
    simp [List.take_of_length_le this]
theorem min_ok {s : Str} {k : Nat} : 0 ≤ (0 : Int) ∧ (0 : Int) ≤ (if (k : Int) < (s.length : Int) then (k : Int) else (s.length : Int)) ∧ (if (k : Int) < (s.length : Int) then (k : Int) else (s.length : Int)) ≤ (s.length : Int) := by
  split <;> omega
def sShort (l : List Str) : List Str := (l.take 9).map (·.take 80)
theorem sShort_ok (l : List Str) : ∀ s ∈ sShort l, s.length ≤ 80 := by
  intro s hs
  obtain ⟨t, _, rfl⟩ := List.mem_map.1 hs
  simp; omega
theorem cnd_mk {b : Bool} {p q : Prop} (h : b = true → p) (k : b = false → q) : cnd b p q := ⟨h, k⟩
theorem and_mk {a b c : Prop} (h : a ∧ b) (k : c) : (a ∧ b) ∧ c := ⟨h, k⟩
/-- one text's look -/
theorem look {P : Bool → Prop} {y : Str} (hP : P (tOk y)) : cnd (decide ((0 : Int) < (y.length : Int))) ((0 ≤ (0 : Int) ∧ (0 : Int) < (y.length : Int)) ∧ cnd ((bAt y (0 : Int)) == (0 : Int)) (cnd ((y.length : Int) == (1 : Int)) (P true) ((0 ≤ (0 : Int) ∧ (0 : Int) < (y.length : Int)) ∧ cnd ((bAt y (0 : Int)) == (1 : Int)) (cnd ((y.length : Int) == (2 : Int)) ((0 ≤ (1 : Int) ∧ (1 : Int) < (y.length : Int)) ∧ cnd (decide ((bAt y (1 : Int)) < (2 : Int))) (P true) ((0 ≤ (0 : Int) ∧ (0 : Int) < (y.length : Int)) ∧ cnd ((bAt y (0 : Int)) == (2 : Int)) (cnd ((y.length : Int) == (9 : Int)) (P true) ((0 ≤ (0 : Int) ∧ (0 : Int) < (y.length : Int)) ∧ cnd ((bAt y (0 : Int)) == (3 : Int)) (P (decide ((y.length : Int) ≤ (65 : Int)))) (P false))) ((0 ≤ (0 : Int) ∧ (0 : Int) < (y.length : Int)) ∧ cnd ((bAt y (0 : Int)) == (3 : Int)) (P (decide ((y.length : Int) ≤ (65 : Int)))) (P false)))) ((0 ≤ (0 : Int) ∧ (0 : Int) < (y.length : Int)) ∧ cnd ((bAt y (0 : Int)) == (2 : Int)) (cnd ((y.length : Int) == (9 : Int)) (P true) ((0 ≤ (0 : Int) ∧ (0 : Int) < (y.length : Int)) ∧ cnd ((bAt y (0 : Int)) == (3 : Int)) (P (decide ((y.length : Int) ≤ (65 : Int)))) (P false))) ((0 ≤ (0 : Int) ∧ (0 : Int) < (y.length : Int)) ∧ cnd ((bAt y (0 : Int)) == (3 : Int)) (P (decide ((y.length : Int) ≤ (65 : Int)))) (P false)))) ((0 ≤ (0 : Int) ∧ (0 : Int) < (y.length : Int)) ∧ cnd ((bAt y (0 : Int)) == (2 : Int)) (cnd ((y.length : Int) == (9 : Int)) (P true) ((0 ≤ (0 : Int) ∧ (0 : Int) < (y.length : Int)) ∧ cnd ((bAt y (0 : Int)) == (3 : Int)) (P (decide ((y.length : Int) ≤ (65 : Int)))) (P false))) ((0 ≤ (0 : Int) ∧ (0 : Int) < (y.length : Int)) ∧ cnd ((bAt y (0 : Int)) == (3 : Int)) (P (decide ((y.length : Int) ≤ (65 : Int)))) (P false))))) ((0 ≤ (0 : Int) ∧ (0 : Int) < (y.length : Int)) ∧ cnd ((bAt y (0 : Int)) == (1 : Int)) (cnd ((y.length : Int) == (2 : Int)) ((0 ≤ (1 : Int) ∧ (1 : Int) < (y.length : Int)) ∧ cnd (decide ((bAt y (1 : Int)) < (2 : Int))) (P true) ((0 ≤ (0 : Int) ∧ (0 : Int) < (y.length : Int)) ∧ cnd ((bAt y (0 : Int)) == (2 : Int)) (cnd ((y.length : Int) == (9 : Int)) (P true) ((0 ≤ (0 : Int) ∧ (0 : Int) < (y.length : Int)) ∧ cnd ((bAt y (0 : Int)) == (3 : Int)) (P (decide ((y.length : Int) ≤ (65 : Int)))) (P false))) ((0 ≤ (0 : Int) ∧ (0 : Int) < (y.length : Int)) ∧ cnd ((bAt y (0 : Int)) == (3 : Int)) (P (decide ((y.length : Int) ≤ (65 : Int)))) (P false)))) ((0 ≤ (0 : Int) ∧ (0 : Int) < (y.length : Int)) ∧ cnd ((bAt y (0 : Int)) == (2 : Int)) (cnd ((y.length : Int) == (9 : Int)) (P true) ((0 ≤ (0 : Int) ∧ (0 : Int) < (y.length : Int)) ∧ cnd ((bAt y (0 : Int)) == (3 : Int)) (P (decide ((y.length : Int) ≤ (65 : Int)))) (P false))) ((0 ≤ (0 : Int) ∧ (0 : Int) < (y.length : Int)) ∧ cnd ((bAt y (0 : Int)) == (3 : Int)) (P (decide ((y.length : Int) ≤ (65 : Int)))) (P false)))) ((0 ≤ (0 : Int) ∧ (0 : Int) < (y.length : Int)) ∧ cnd ((bAt y (0 : Int)) == (2 : Int)) (cnd ((y.length : Int) == (9 : Int)) (P true) ((0 ≤ (0 : Int) ∧ (0 : Int) < (y.length : Int)) ∧ cnd ((bAt y (0 : Int)) == (3 : Int)) (P (decide ((y.length : Int) ≤ (65 : Int)))) (P false))) ((0 ≤ (0 : Int) ∧ (0 : Int) < (y.length : Int)) ∧ cnd ((bAt y (0 : Int)) == (3 : Int)) (P (decide ((y.length : Int) ≤ (65 : Int)))) (P false))))) (P false) := by
  have hT : ∀ b : Bool, b = tOk y → P b := fun b h => by rw [h]; exact hP
  unfold tOk at hT
  generalize bAt y 0 = k at *
  generalize bAt y 1 = k1 at *
  generalize hn : y.length = n at *
  clear hP hn
  refine ⟨fun c => ?_, fun c => hT _ ?_⟩
  rotate_left
  · have c : ¬ (0 : Int) < n := of_decide_eq_false c
    have : n = 0 := by omega
    subst this; rfl
  have c : (0 : Int) < n := of_decide_eq_true c
  repeat' first
    | (refine and_mk (by omega) ?_)
    | (refine cnd_mk (fun q => ?_) (fun q => ?_) <;> simp only [beq_iff_eq, beq_eq_false_iff_ne, ne_eq, decide_eq_true_eq, decide_eq_false_iff_not] at q)
  all_goals
    refine hT _ ?_
    rw [Bool.eq_iff_iff]
    simp only [Bool.and_eq_true, Bool.or_eq_true, beq_iff_eq, decide_eq_true_eq, true_iff, false_iff, Bool.false_eq_true]
    omega
end Go.Proofs.YtkmehmgocelkiaaDoor
