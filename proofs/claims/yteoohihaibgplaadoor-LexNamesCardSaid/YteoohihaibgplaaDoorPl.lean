/-
  Plain Lean for what the functions compute: loops by an invariant and a measure; wraps of what fits; orders of texts.
-/
import Derived.Test.YteoohihaibgplaaDoorAvG
namespace Go.AV
open Go.RowKit

theorem wrap64 {n : Int} (h : -9223372036854775808 ≤ n) (k : n < 9223372036854775808) : IntKind.i64.wrap n = n := by
  simp [IntKind.wrap, IntKind.bits, IntKind.signed]; omega
/-! ### loops -/
theorem lp1 {α : Type} {L : (α → Prop) → α → Prop} (I : α → Prop) (m : α → Nat) (step : ∀ X a, I a → (∀ b, I b → m b < m a → X b) → L X a) {a : α} (ha : I a) : ∀ X : α → Prop, (∀ x, L X x → X x) → X a := by
  intro X hX
  have key : ∀ n a, I a → m a = n → X a := by
    intro n
    induction n using Nat.strongRecOn with
    | _ n ih => intro a ha hm; exact hX a (step X a ha fun b hb hlt => ih (m b) (by omega) b hb rfl)
  exact key _ a ha rfl
theorem lp2 {α β : Type} {L : (α → β → Prop) → α → β → Prop} (I : α → β → Prop) (m : α → β → Nat) (step : ∀ X a b, I a b → (∀ a' b', I a' b' → m a' b' < m a b → X a' b') → L X a b) {a : α} {b : β} (ha : I a b) : ∀ X : α → β → Prop, (∀ x y, L X x y → X x y) → X a b := by
  intro X hX
  have key : ∀ n a b, I a b → m a b = n → X a b := by
    intro n
    induction n using Nat.strongRecOn with
    | _ n ih => intro a b ha hm; exact hX a b (step X a b ha fun a' b' hb hlt => ih (m a' b') (by omega) a' b' hb rfl)
  exact key _ a b ha rfl
end Go.AV

