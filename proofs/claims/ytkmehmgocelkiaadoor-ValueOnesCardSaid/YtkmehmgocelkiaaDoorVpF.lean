import Derived.Test.YtkmehmgocelkiaaDoorVpE
namespace Go.Proofs.YtkmehmgocelkiaaDoor
open Go.AV Go.RowKit

def sNeg (v : V) : V × Int := if v.Kind = 0 then (v, 0) else if v.Kind ≠ 2 then (D0, 5) else if v.N = -9223372036854775808 then (D0, 8) else (⟨2, IntKind.i64.wrap (0 - v.N), []⟩, 0)
theorem pNeg (v : V) : value_Neg_o v (sNeg v).1 (sNeg v).2 := by
  refine ⟨_, pNone v, fun c => ?_, fun c => ⟨fun c1 => ?_, fun c1 => ⟨fun c2 => ?_, fun c2 => ⟨_, pOfInt _, ?_⟩⟩⟩⟩
  · have c : v.Kind = 0 := by simpa using c
    simp [sNeg, c]
  · have c : ¬ v.Kind = 0 := by simpa using c
    have c1 : ¬ v.Kind = 2 := by simpa using c1
    simp [sNeg, c, c1, D0]
  · have c1 : v.Kind = 2 := by simpa using c1
    have c2 : v.N = -9223372036854775808 := by simpa using c2
    simp [sNeg, c1, c2, D0]
  · have c1 : v.Kind = 2 := by simpa using c1
    have c2 : ¬ v.N = -9223372036854775808 := by simpa using c2
    simp [sNeg, c1, c2]
theorem ones2 {k n : Int} {a2 s : Str} (hE : (a2.drop (0 : Int).toNat).take ((if (70 : Int) < (a2.length : Int) then (70 : Int) else (a2.length : Int)).toNat - (0 : Int).toNat) = s) (hr : Rg n) : law06_ValueOnes_J2i k n a2 true false := by
  simp only [law06_ValueOnes_J2i]
  rw [hE]
  refine ⟨fun q => (by cases q), fun _ => ⟨_, pGood6 ⟨k, n, s⟩, fun q => trivial, fun q => ⟨_, _, pNot ⟨k, n, s⟩, _, _, pNeg ⟨k, n, s⟩, ?_⟩⟩⟩
  have q : sGood ⟨k, n, s⟩ = true := by simpa using q
  unfold sGood at q
  simp only at q
  refine ⟨fun c => ?_, fun c => ⟨fun c1 => ?_, fun c1 => ⟨fun c2 => ?_, fun c2 => ?_⟩⟩⟩
  · have c : k = 0 := by simpa using c
    simp [c, cnd, sNeg]
  · have c : k = 1 := by simpa using c1
    subst c
    have q : (n = 0 ∨ n = 1) ∧ s = [] := by simpa using q
    obtain ⟨q1, rfl⟩ := q
    rcases q1 with rfl | rfl
    · exact ⟨fun _ => ⟨fun _ => ⟨_, pOfBool _, rfl⟩, fun q => (by cases q)⟩, fun q => (by cases q)⟩
    · exact ⟨fun _ => ⟨fun _ => ⟨_, pOfBool _, rfl⟩, fun q => (by cases q)⟩, fun q => (by cases q)⟩
  · have c : k = 2 := by simpa using c2
    subst c
    refine ⟨fun d => ?_, fun d => ?_⟩
    · have d : n = -9223372036854775808 := by simpa using d
      simp [d, cnd, sNeg, D0]
    · have d : ¬ n = -9223372036854775808 := by simpa using d
      have e : sNeg ⟨2, n, s⟩ = (⟨2, IntKind.i64.wrap (0 - n), []⟩, 0) := by simp [sNeg, d]
      rw [e]
      exact ⟨fun _ => ⟨fun _ => ⟨_, pOfInt _, by simp⟩, fun q => (by cases q)⟩, fun q => (by simp at q)⟩
  · have c : ¬ k = 0 := by simpa using c
    have c1 : ¬ k = 1 := by simpa using c1
    have c2 : ¬ k = 2 := by simpa using c2
    simp [c, c1, c2, cnd, sNeg]
theorem ValueOnes_plain {k n : Int} {a2 : Str} (hr : Rg n) : law06_ValueOnes_o k n a2 true := by
  apply law06_ValueOnes_i
  simp only [law06_ValueOnes_oi]
  have hl : ((a2.drop (0 : Int).toNat).take ((if (70 : Int) < (a2.length : Int) then (70 : Int) else (a2.length : Int)).toNat - (0 : Int).toNat)).length ≤ 70 := by
    rw [List.length_take]
    split <;> omega
  have j1 : law06_ValueOnes_J1i k n a2 true false := by
    simp only [law06_ValueOnes_J1i]
    refine ⟨fun q => (by cases q), fun _ => ⟨_, pOfText _, fun q => (by simp at q), fun _ => ⟨_, pOfInt _, fun q => (by simp at q), fun _ => ⟨_, pOfBool _, _, pTrue _, ?_⟩⟩⟩⟩
    have : (!(eqV (bV (decide (0 < n))) (bV true) == decide (0 < n))) = false := by
      cases decide (0 < n) <;> rfl
    rw [this]
    exact ones2 rfl hr
  generalize hE : (a2.drop (0 : Int).toNat).take ((if (70 : Int) < (a2.length : Int) then (70 : Int) else (a2.length : Int)).toNat - (0 : Int).toNat) = s at *
  refine ⟨_, pSpeaks, fun q => (by cases q), fun _ => ⟨⟨by omega, by split <;> omega, by split <;> omega⟩, _, pGoodV ⟨k, n, s⟩, _, pGood6 ⟨k, n, s⟩, fun q => (by simp at q), fun _ => ⟨_, pShow (v := ⟨k, n, s⟩) hr ?_ (by show s.length ≤ 1000; omega), _, pShow6 (v := ⟨k, n, s⟩) hr (by show s.length ≤ 1000; omega), fun q => (by simp at q), fun _ => ⟨_, pTrue _, fun c => ⟨fun d => ?_, fun d => ?_⟩, fun c => ?_⟩⟩⟩⟩
  · rw [replAll]
    have := dq_len s
    show (dq s).length ≤ _
    omega
  · have c : k = 1 := by simpa using c
    have d : n = 1 := by simpa using d
    have : (!(eqV ⟨k, n, s⟩ (bV true) == (s == ([] : Str)))) = false := by
      subst c; subst d
      simp [eqV, bV]
    rw [this]; exact j1
  · have d : ¬ n = 1 := by simpa using d
    have : (!(eqV ⟨k, n, s⟩ (bV true) == false)) = false := by simp [eqV, bV, d]
    rw [this]; exact j1
  · have c : ¬ k = 1 := by simpa using c
    have : (!(eqV ⟨k, n, s⟩ (bV true) == false)) = false := by simp [eqV, bV, c]
    rw [this]; exact j1
end Go.Proofs.YtkmehmgocelkiaaDoor
