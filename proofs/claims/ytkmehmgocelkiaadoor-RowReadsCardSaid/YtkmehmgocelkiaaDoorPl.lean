/-
  Plain Lean for what the functions compute: loops by an invariant and a measure; wraps of what fits; orders of texts.
-/
import Derived.Test.YtkmehmgocelkiaaDoorAvG
namespace Go.AV
open Go.RowKit

theorem wrap64 {n : Int} (h : -9223372036854775808 ≤ n) (k : n < 9223372036854775808) : IntKind.i64.wrap n = n := by
  simp [IntKind.wrap, IntKind.bits, IntKind.signed]; omega
theorem wrapu64 {n : Int} (h : 0 ≤ n) (k : n < 18446744073709551616) : IntKind.u64.wrap n = n := by
  simp [IntKind.wrap, IntKind.bits, IntKind.signed]; omega
theorem wrapu8 {n : Int} (h : 0 ≤ n) (k : n < 256) : IntKind.u8.wrap n = n := by
  simp [IntKind.wrap, IntKind.bits, IntKind.signed]; omega
theorem wrap64_eq (n : Int) : IntKind.i64.wrap n = if n % 18446744073709551616 ≥ 9223372036854775808 then n % 18446744073709551616 - 18446744073709551616 else n % 18446744073709551616 := by
  simp [IntKind.wrap, IntKind.bits, IntKind.signed]
theorem wrapu64_eq (n : Int) : IntKind.u64.wrap n = n % 18446744073709551616 := by
  simp [IntKind.wrap, IntKind.bits, IntKind.signed]
theorem wrapu8_eq (n : Int) : IntKind.u8.wrap n = n % 256 := by
  simp [IntKind.wrap, IntKind.bits, IntKind.signed]
theorem wrap64_range (n : Int) : -9223372036854775808 ≤ IntKind.i64.wrap n ∧ IntKind.i64.wrap n < 9223372036854775808 := by
  rw [wrap64_eq]; split <;> omega
theorem i64_and1 (n : Int) : bits .and .i64 n 1 = n % 2 := by
  have h1 : (BitVec.ofInt 64 1).toNat = 2 ^ 1 - 1 := by decide
  have key : (BitVec.ofInt 64 n &&& BitVec.ofInt 64 1).toNat = (n % ((2 ^ 64 : Nat) : Int)).toNat % 2 ^ 1 := by
    rw [BitVec.toNat_and, BitVec.toNat_ofInt, h1, Nat.and_two_pow_sub_one_eq_mod]
  show IntKind.i64.wrap ((BitVec.ofInt 64 n &&& BitVec.ofInt 64 1).toNat : Nat) = n % 2
  rw [key, wrap64_eq]
  split <;> omega
theorem bl_irrefl : ∀ x : List UInt8, Op.bytesLess x x = false
  | [] => rfl
  | a :: x => by simp [Op.bytesLess, bl_irrefl x]
theorem bl_trans : ∀ x y z : List UInt8, Op.bytesLess x y = true → Op.bytesLess y z = true → Op.bytesLess x z = true
  | _, [], _, h, _ => by simp [Op.bytesLess] at h
  | _, _ :: _, [], _, k => by simp [Op.bytesLess] at k
  | [], _ :: _, _ :: _, _, _ => rfl
  | a :: x, b :: y, c :: z, h, k => by
    simp only [Op.bytesLess, Bool.or_eq_true, Bool.and_eq_true, decide_eq_true_eq, beq_iff_eq, UInt8.lt_iff_toNat_lt, ← UInt8.toNat_inj] at *
    rcases h with h | ⟨h, h'⟩ <;> rcases k with k | ⟨k, k'⟩
    · exact .inl (by omega)
    · exact .inl (by omega)
    · exact .inl (by omega)
    · exact .inr ⟨by omega, bl_trans x y z h' k'⟩
theorem bl_total : ∀ x y : List UInt8, Op.bytesLess x y = true ∨ x = y ∨ Op.bytesLess y x = true
  | [], [] => .inr (.inl rfl)
  | [], _ :: _ => .inl rfl
  | _ :: _, [] => .inr (.inr rfl)
  | a :: x, b :: y => by
    simp only [Op.bytesLess, Bool.or_eq_true, Bool.and_eq_true, decide_eq_true_eq, beq_iff_eq, UInt8.lt_iff_toNat_lt, List.cons.injEq, ← UInt8.toNat_inj]
    rcases Nat.lt_trichotomy a.toNat b.toNat with h | h | h
    · exact .inl (.inl h)
    · rcases bl_total x y with k | k | k
      · exact .inl (.inr ⟨h, k⟩)
      · exact .inr (.inl ⟨h, k⟩)
      · exact .inr (.inr (.inr ⟨h.symm, k⟩))
    · exact .inr (.inr (.inl h))
/-! ### loops -/
theorem lp1 {α : Type} {L : (α → Prop) → α → Prop} (I : α → Prop) (m : α → Nat) (step : ∀ X a, I a → (∀ b, I b → m b < m a → X b) → L X a) {a : α} (ha : I a) : ∀ X : α → Prop, (∀ x, L X x → X x) → X a := by
  intro X hX
  have key : ∀ n a, I a → m a = n → X a := by
    intro n
    induction n using Nat.strongRecOn with
    | _ n ih => intro a ha hm; exact hX a (step X a ha fun b hb hlt => ih (m b) (by omega) b hb rfl)
  exact key _ a ha rfl
theorem lp2 {α β : Type} {L : (α → β → Prop) → α → β → Prop} (I : α → β → Prop) (m : α → β → Nat) (step : ∀ X a b, I a b → (∀ a' b', I a' b' → m a' b' < m a b → X a' b') → L X a b) {a : α} {b : β} (ha : I a b) : ∀ X : α → β → Prop, (∀ x y, L X x y → X x y) → X a b := by
  intro X hX
  have key : ∀ n a b, I a b → m a b = n → X a b := by
    intro n
    induction n using Nat.strongRecOn with
    | _ n ih => intro a b ha hm; exact hX a b (step X a b ha fun a' b' hb hlt => ih (m a' b') (by omega) a' b' hb rfl)
  exact key _ a b ha rfl
theorem lp3 {α β γ : Type} {L : (α → β → γ → Prop) → α → β → γ → Prop} (I : α → β → γ → Prop) (m : α → β → γ → Nat) (step : ∀ X a b c, I a b c → (∀ a' b' c', I a' b' c' → m a' b' c' < m a b c → X a' b' c') → L X a b c) {a : α} {b : β} {c : γ} (ha : I a b c) : ∀ X : α → β → γ → Prop, (∀ x y z, L X x y z → X x y z) → X a b c := by
  intro X hX
  have key : ∀ n a b c, I a b c → m a b c = n → X a b c := by
    intro n
    induction n using Nat.strongRecOn with
    | _ n ih => intro a b c ha hm; exact hX a b c (step X a b c ha fun a' b' c' hb hlt => ih (m a' b' c') (by omega) a' b' c' hb rfl)
  exact key _ a b c ha rfl

end Go.AV

