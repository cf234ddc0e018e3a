/-
  A region that draws its order, walked once: each operation has ONE obligation, whatever order the draw gives. Conditions: the operations' edges point back, each slot is written once, each owned row has one consumer.
-/
import Derived.Orders
import Derived.Below
import Derived.OneCell
import Derived.Calls
import Derived.Laws.World
namespace Go.RG
open Go.RowKit

theorem hid {p : Prop} (h : p) : Hid p := h

def dstOf (ops : Array Oper) (i : Nat) : Option Nat := (ops[i]?).bind (·.dst)

def upd (D : Nat → Bool) (i : Nat) : Nat → Bool := fun j => j == i || D j

section
variable {P : Program} {ops : Array Oper} {Q : Exit → Act → World → Prop}

/-- ready, as a proposition -/
theorem mem_ready {md : Region.Mode} {listed : Array Bool} {i : Nat} : i ∈ Region.ready md ops listed ↔
    i < ops.size ∧ listed.getD i true = false ∧ ∀ o, ops[i]? = some o → ∀ e ∈ o.after.toList, Region.binds md e = true → listed.getD e.on false = true := by
  unfold Region.ready
  simp only [List.mem_filter, List.mem_range, Bool.and_eq_true, Bool.not_eq_true']
  constructor
  · rintro ⟨h1, h2, h3⟩
    refine ⟨h1, h2, fun o ho e he hb => ?_⟩
    rw [ho] at h3
    simp only [Option.map_some, Option.getD_some, Array.all_eq_true', Bool.or_eq_true, Bool.not_eq_true'] at h3
    rcases h3 e (by simpa using he) with h | h
    · rw [hb] at h; cases h
    · exact h
  · rintro ⟨h1, h2, h3⟩
    refine ⟨h1, h2, ?_⟩
    rw [Array.getElem?_eq_getElem h1]
    simp only [Option.map_some, Option.getD_some, Array.all_eq_true', Bool.or_eq_true, Bool.not_eq_true']
    intro e he
    cases hb : Region.binds md e
    · exact .inl rfl
    · exact .inr (h3 _ (Array.getElem?_eq_getElem h1) e (by simpa using he) hb)

/-- the plan of a region -/
structure Plan where
  anc : Nat → List Nat
  cons : Nat → List Nat
  own : Nat → Bool
  F : Nat → Value → World → Prop
  iv : Nat → Value
  m : Nat
  B : Nat

def Plan.fp (pl : Plan) (p : Nat) (v : Value) : Option Nat := if pl.own p then v.ownBlock else none

def chkWf (ops : Array Oper) : Bool := (List.range ops.size).all fun i => ((ops[i]?).map fun o => o.after.toList.all fun e => !Region.binds .any e || decide (e.on < i)).getD true
def live (ops : Array Oper) (pl : Plan) (D : Nat → Bool) (p : Nat) : Prop :=
  (D p = true ∨ (ops.size ≤ p ∧ p < ops.size + pl.m)) ∧ ∀ c, D c = true → p ∉ pl.cons c

end
end Go.RG

