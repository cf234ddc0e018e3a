/-
  Plain Lean for what the functions compute: loops by an invariant and a measure; wraps of what fits; orders of texts.
-/
import Derived.Test.YteoohihaibgplaaDoorAvG
namespace Go.AV
open Go.RowKit

theorem wrap64 {n : Int} (h : -9223372036854775808 ≤ n) (k : n < 9223372036854775808) : IntKind.i64.wrap n = n := by
  simp [IntKind.wrap, IntKind.bits, IntKind.signed]; omega
theorem wrapu64 {n : Int} (h : 0 ≤ n) (k : n < 18446744073709551616) : IntKind.u64.wrap n = n := by
  simp [IntKind.wrap, IntKind.bits, IntKind.signed]; omega
theorem wrapu8 {n : Int} (h : 0 ≤ n) (k : n < 256) : IntKind.u8.wrap n = n := by
  simp [IntKind.wrap, IntKind.bits, IntKind.signed]; omega
/-! ### loops -/
theorem lp1 {α : Type} {L : (α → Prop) → α → Prop} (I : α → Prop) (m : α → Nat) (step : ∀ X a, I a → (∀ b, I b → m b < m a → X b) → L X a) {a : α} (ha : I a) : ∀ X : α → Prop, (∀ x, L X x → X x) → X a := by
  intro X hX
  have key : ∀ n a, I a → m a = n → X a := by
    intro n
    induction n using Nat.strongRecOn with
    | _ n ih => intro a ha hm; exact hX a (step X a ha fun b hb hlt => ih (m b) (by omega) b hb rfl)
  exact key _ a ha rfl
theorem lp2 {α β : Type} {L : (α → β → Prop) → α → β → Prop} (I : α → β → Prop) (m : α → β → Nat) (step : ∀ X a b, I a b → (∀ a' b', I a' b' → m a' b' < m a b → X a' b') → L X a b) {a : α} {b : β} (ha : I a b) : ∀ X : α → β → Prop, (∀ x y, L X x y → X x y) → X a b := by
  intro X hX
  have key : ∀ n a b, I a b → m a b = n → X a b := by
    intro n
    induction n using Nat.strongRecOn with
    | _ n ih => intro a b ha hm; exact hX a b (step X a b ha fun a' b' hb hlt => ih (m a' b') (by omega) a' b' hb rfl)
  exact key _ a b ha rfl
theorem lp3 {α β γ : Type} {L : (α → β → γ → Prop) → α → β → γ → Prop} (I : α → β → γ → Prop) (m : α → β → γ → Nat) (step : ∀ X a b c, I a b c → (∀ a' b' c', I a' b' c' → m a' b' c' < m a b c → X a' b' c') → L X a b c) {a : α} {b : β} {c : γ} (ha : I a b c) : ∀ X : α → β → γ → Prop, (∀ x y z, L X x y z → X x y z) → X a b c := by
  intro X hX
  have key : ∀ n a b c, I a b c → m a b c = n → X a b c := by
    intro n
    induction n using Nat.strongRecOn with
    | _ n ih => intro a b c ha hm; exact hX a b c (step X a b c ha fun a' b' c' hb hlt => ih (m a' b' c') (by omega) a' b' c' hb rfl)
  exact key _ a b c ha rfl

end Go.AV

