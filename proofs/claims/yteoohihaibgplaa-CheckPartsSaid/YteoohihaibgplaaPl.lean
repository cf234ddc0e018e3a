/-
  Plain Lean for what the functions compute: loops by an invariant and a measure; wraps of what fits; orders of texts.
-/
import Derived.Test.YteoohihaibgplaaAvG
namespace Go.AV
open Go.RowKit

theorem cnd_intro {b : Bool} {x y : Prop} (h : b = true → x) (k : b = false → y) : cnd b x y := ⟨h, k⟩
theorem cnd_of_true {b : Bool} {x y : Prop} (hb : b = true) (h : x) : cnd b x y := ⟨fun _ => h, fun e => (by rw [hb] at e; cases e)⟩
theorem cnd_of_false {b : Bool} {x y : Prop} (hb : b = false) (h : y) : cnd b x y := ⟨fun e => (by rw [hb] at e; cases e), fun _ => h⟩
theorem wrap64 {n : Int} (h : -9223372036854775808 ≤ n) (k : n < 9223372036854775808) : IntKind.i64.wrap n = n := by
  simp [IntKind.wrap, IntKind.bits, IntKind.signed]; omega
theorem wrapu64 {n : Int} (h : 0 ≤ n) (k : n < 18446744073709551616) : IntKind.u64.wrap n = n := by
  simp [IntKind.wrap, IntKind.bits, IntKind.signed]; omega
theorem wrapu8 {n : Int} (h : 0 ≤ n) (k : n < 256) : IntKind.u8.wrap n = n := by
  simp [IntKind.wrap, IntKind.bits, IntKind.signed]; omega
theorem wrap64_eq (n : Int) : IntKind.i64.wrap n = if n % 18446744073709551616 ≥ 9223372036854775808 then n % 18446744073709551616 - 18446744073709551616 else n % 18446744073709551616 := by
  simp [IntKind.wrap, IntKind.bits, IntKind.signed]
theorem wrapu64_eq (n : Int) : IntKind.u64.wrap n = n % 18446744073709551616 := by
  simp [IntKind.wrap, IntKind.bits, IntKind.signed]
theorem wrapu8_eq (n : Int) : IntKind.u8.wrap n = n % 256 := by
  simp [IntKind.wrap, IntKind.bits, IntKind.signed]
theorem wrap64_range (n : Int) : -9223372036854775808 ≤ IntKind.i64.wrap n ∧ IntKind.i64.wrap n < 9223372036854775808 := by
  rw [wrap64_eq]; split <;> omega
theorem wrap64_l (u v : Int) : IntKind.i64.wrap (IntKind.i64.wrap u + v) = IntKind.i64.wrap (u + v) := by
  simp only [wrap64_eq]; split <;> split <;> split <;> omega
theorem wrap64_r (u v : Int) : IntKind.i64.wrap (u + IntKind.i64.wrap v) = IntKind.i64.wrap (u + v) := by
  rw [Int.add_comm, wrap64_l, Int.add_comm]
theorem bits64_range (op : BinOp) (x y : Int) : -9223372036854775808 ≤ bits op .i64 x y ∧ bits op .i64 x y < 9223372036854775808 := wrap64_range _
theorem i64_and1 (n : Int) : bits .and .i64 n 1 = n % 2 := by
  have h1 : (BitVec.ofInt 64 1).toNat = 2 ^ 1 - 1 := by decide
  have key : (BitVec.ofInt 64 n &&& BitVec.ofInt 64 1).toNat = (n % ((2 ^ 64 : Nat) : Int)).toNat % 2 ^ 1 := by
    rw [BitVec.toNat_and, BitVec.toNat_ofInt, h1, Nat.and_two_pow_sub_one_eq_mod]
  show IntKind.i64.wrap ((BitVec.ofInt 64 n &&& BitVec.ofInt 64 1).toNat : Nat) = n % 2
  rw [key, wrap64_eq]
  split <;> omega
theorem wf64 {n : Int} : (Lit.int .i64 n).wf = true ↔ -9223372036854775808 ≤ n ∧ n ≤ 9223372036854775807 := by
  simp [Lit.wf, IntKind.min, IntKind.max, IntKind.signed, IntKind.bits]
theorem wfu8 {n : Int} : (Lit.int .u8 n).wf = true ↔ 0 ≤ n ∧ n ≤ 255 := by
  simp [Lit.wf, IntKind.min, IntKind.max, IntKind.signed, IntKind.bits]
theorem wfu64 {n : Int} : (Lit.int .u64 n).wf = true ↔ 0 ≤ n ∧ n ≤ 18446744073709551615 := by
  simp [Lit.wf, IntKind.min, IntKind.max, IntKind.signed, IntKind.bits]

theorem Lp1_of {α0 : Type} {F : (α0 → Prop) → α0 → Prop} (I : α0 → Prop) (m : α0 → Nat) (step : ∀ (X : α0 → Prop) (a0 : α0), I a0 → (∀ (b0 : α0), I b0 → m b0 < m a0 → X b0) → F X a0) {a0 : α0} (h : I a0) : Lp1 F a0 := by
  intro X hX
  have key : ∀ (q : Nat) (a0 : α0), m a0 ≤ q → I a0 → X a0 := by
    intro q
    induction q with
    | zero => intro a0 hq hI; exact hX _ (step X a0 hI fun b0 _ hl => absurd hl (by omega))
    | succ q ih => intro a0 hq hI; exact hX _ (step X a0 hI fun b0 hJ hl => ih b0 (by omega) hJ)
  exact key _ a0 (Nat.le_refl _) h
theorem Lp2_of {α0 α1 : Type} {F : (α0 → α1 → Prop) → α0 → α1 → Prop} (I : α0 → α1 → Prop) (m : α0 → α1 → Nat) (step : ∀ (X : α0 → α1 → Prop) (a0 : α0) (a1 : α1), I a0 a1 → (∀ (b0 : α0) (b1 : α1), I b0 b1 → m b0 b1 < m a0 a1 → X b0 b1) → F X a0 a1) {a0 : α0} {a1 : α1} (h : I a0 a1) : Lp2 F a0 a1 := by
  intro X hX
  have key : ∀ (q : Nat) (a0 : α0) (a1 : α1), m a0 a1 ≤ q → I a0 a1 → X a0 a1 := by
    intro q
    induction q with
    | zero => intro a0 a1 hq hI; exact hX _ _ (step X a0 a1 hI fun b0 b1 _ hl => absurd hl (by omega))
    | succ q ih => intro a0 a1 hq hI; exact hX _ _ (step X a0 a1 hI fun b0 b1 hJ hl => ih b0 b1 (by omega) hJ)
  exact key _ a0 a1 (Nat.le_refl _) h
theorem Lp3_of {α0 α1 α2 : Type} {F : (α0 → α1 → α2 → Prop) → α0 → α1 → α2 → Prop} (I : α0 → α1 → α2 → Prop) (m : α0 → α1 → α2 → Nat) (step : ∀ (X : α0 → α1 → α2 → Prop) (a0 : α0) (a1 : α1) (a2 : α2), I a0 a1 a2 → (∀ (b0 : α0) (b1 : α1) (b2 : α2), I b0 b1 b2 → m b0 b1 b2 < m a0 a1 a2 → X b0 b1 b2) → F X a0 a1 a2) {a0 : α0} {a1 : α1} {a2 : α2} (h : I a0 a1 a2) : Lp3 F a0 a1 a2 := by
  intro X hX
  have key : ∀ (q : Nat) (a0 : α0) (a1 : α1) (a2 : α2), m a0 a1 a2 ≤ q → I a0 a1 a2 → X a0 a1 a2 := by
    intro q
    induction q with
    | zero => intro a0 a1 a2 hq hI; exact hX _ _ _ (step X a0 a1 a2 hI fun b0 b1 b2 _ hl => absurd hl (by omega))
    | succ q ih => intro a0 a1 a2 hq hI; exact hX _ _ _ (step X a0 a1 a2 hI fun b0 b1 b2 hJ hl => ih b0 b1 b2 (by omega) hJ)
  exact key _ a0 a1 a2 (Nat.le_refl _) h
theorem Lp4_of {α0 α1 α2 α3 : Type} {F : (α0 → α1 → α2 → α3 → Prop) → α0 → α1 → α2 → α3 → Prop} (I : α0 → α1 → α2 → α3 → Prop) (m : α0 → α1 → α2 → α3 → Nat) (step : ∀ (X : α0 → α1 → α2 → α3 → Prop) (a0 : α0) (a1 : α1) (a2 : α2) (a3 : α3), I a0 a1 a2 a3 → (∀ (b0 : α0) (b1 : α1) (b2 : α2) (b3 : α3), I b0 b1 b2 b3 → m b0 b1 b2 b3 < m a0 a1 a2 a3 → X b0 b1 b2 b3) → F X a0 a1 a2 a3) {a0 : α0} {a1 : α1} {a2 : α2} {a3 : α3} (h : I a0 a1 a2 a3) : Lp4 F a0 a1 a2 a3 := by
  intro X hX
  have key : ∀ (q : Nat) (a0 : α0) (a1 : α1) (a2 : α2) (a3 : α3), m a0 a1 a2 a3 ≤ q → I a0 a1 a2 a3 → X a0 a1 a2 a3 := by
    intro q
    induction q with
    | zero => intro a0 a1 a2 a3 hq hI; exact hX _ _ _ _ (step X a0 a1 a2 a3 hI fun b0 b1 b2 b3 _ hl => absurd hl (by omega))
    | succ q ih => intro a0 a1 a2 a3 hq hI; exact hX _ _ _ _ (step X a0 a1 a2 a3 hI fun b0 b1 b2 b3 hJ hl => ih b0 b1 b2 b3 (by omega) hJ)
  exact key _ a0 a1 a2 a3 (Nat.le_refl _) h
theorem Lp5_of {α0 α1 α2 α3 α4 : Type} {F : (α0 → α1 → α2 → α3 → α4 → Prop) → α0 → α1 → α2 → α3 → α4 → Prop} (I : α0 → α1 → α2 → α3 → α4 → Prop) (m : α0 → α1 → α2 → α3 → α4 → Nat) (step : ∀ (X : α0 → α1 → α2 → α3 → α4 → Prop) (a0 : α0) (a1 : α1) (a2 : α2) (a3 : α3) (a4 : α4), I a0 a1 a2 a3 a4 → (∀ (b0 : α0) (b1 : α1) (b2 : α2) (b3 : α3) (b4 : α4), I b0 b1 b2 b3 b4 → m b0 b1 b2 b3 b4 < m a0 a1 a2 a3 a4 → X b0 b1 b2 b3 b4) → F X a0 a1 a2 a3 a4) {a0 : α0} {a1 : α1} {a2 : α2} {a3 : α3} {a4 : α4} (h : I a0 a1 a2 a3 a4) : Lp5 F a0 a1 a2 a3 a4 := by
  intro X hX
  have key : ∀ (q : Nat) (a0 : α0) (a1 : α1) (a2 : α2) (a3 : α3) (a4 : α4), m a0 a1 a2 a3 a4 ≤ q → I a0 a1 a2 a3 a4 → X a0 a1 a2 a3 a4 := by
    intro q
    induction q with
    | zero => intro a0 a1 a2 a3 a4 hq hI; exact hX _ _ _ _ _ (step X a0 a1 a2 a3 a4 hI fun b0 b1 b2 b3 b4 _ hl => absurd hl (by omega))
    | succ q ih => intro a0 a1 a2 a3 a4 hq hI; exact hX _ _ _ _ _ (step X a0 a1 a2 a3 a4 hI fun b0 b1 b2 b3 b4 hJ hl => ih b0 b1 b2 b3 b4 (by omega) hJ)
  exact key _ a0 a1 a2 a3 a4 (Nat.le_refl _) h
theorem Lp6_of {α0 α1 α2 α3 α4 α5 : Type} {F : (α0 → α1 → α2 → α3 → α4 → α5 → Prop) → α0 → α1 → α2 → α3 → α4 → α5 → Prop} (I : α0 → α1 → α2 → α3 → α4 → α5 → Prop) (m : α0 → α1 → α2 → α3 → α4 → α5 → Nat) (step : ∀ (X : α0 → α1 → α2 → α3 → α4 → α5 → Prop) (a0 : α0) (a1 : α1) (a2 : α2) (a3 : α3) (a4 : α4) (a5 : α5), I a0 a1 a2 a3 a4 a5 → (∀ (b0 : α0) (b1 : α1) (b2 : α2) (b3 : α3) (b4 : α4) (b5 : α5), I b0 b1 b2 b3 b4 b5 → m b0 b1 b2 b3 b4 b5 < m a0 a1 a2 a3 a4 a5 → X b0 b1 b2 b3 b4 b5) → F X a0 a1 a2 a3 a4 a5) {a0 : α0} {a1 : α1} {a2 : α2} {a3 : α3} {a4 : α4} {a5 : α5} (h : I a0 a1 a2 a3 a4 a5) : Lp6 F a0 a1 a2 a3 a4 a5 := by
  intro X hX
  have key : ∀ (q : Nat) (a0 : α0) (a1 : α1) (a2 : α2) (a3 : α3) (a4 : α4) (a5 : α5), m a0 a1 a2 a3 a4 a5 ≤ q → I a0 a1 a2 a3 a4 a5 → X a0 a1 a2 a3 a4 a5 := by
    intro q
    induction q with
    | zero => intro a0 a1 a2 a3 a4 a5 hq hI; exact hX _ _ _ _ _ _ (step X a0 a1 a2 a3 a4 a5 hI fun b0 b1 b2 b3 b4 b5 _ hl => absurd hl (by omega))
    | succ q ih => intro a0 a1 a2 a3 a4 a5 hq hI; exact hX _ _ _ _ _ _ (step X a0 a1 a2 a3 a4 a5 hI fun b0 b1 b2 b3 b4 b5 hJ hl => ih b0 b1 b2 b3 b4 b5 (by omega) hJ)
  exact key _ a0 a1 a2 a3 a4 a5 (Nat.le_refl _) h
theorem Lp7_of {α0 α1 α2 α3 α4 α5 α6 : Type} {F : (α0 → α1 → α2 → α3 → α4 → α5 → α6 → Prop) → α0 → α1 → α2 → α3 → α4 → α5 → α6 → Prop} (I : α0 → α1 → α2 → α3 → α4 → α5 → α6 → Prop) (m : α0 → α1 → α2 → α3 → α4 → α5 → α6 → Nat) (step : ∀ (X : α0 → α1 → α2 → α3 → α4 → α5 → α6 → Prop) (a0 : α0) (a1 : α1) (a2 : α2) (a3 : α3) (a4 : α4) (a5 : α5) (a6 : α6), I a0 a1 a2 a3 a4 a5 a6 → (∀ (b0 : α0) (b1 : α1) (b2 : α2) (b3 : α3) (b4 : α4) (b5 : α5) (b6 : α6), I b0 b1 b2 b3 b4 b5 b6 → m b0 b1 b2 b3 b4 b5 b6 < m a0 a1 a2 a3 a4 a5 a6 → X b0 b1 b2 b3 b4 b5 b6) → F X a0 a1 a2 a3 a4 a5 a6) {a0 : α0} {a1 : α1} {a2 : α2} {a3 : α3} {a4 : α4} {a5 : α5} {a6 : α6} (h : I a0 a1 a2 a3 a4 a5 a6) : Lp7 F a0 a1 a2 a3 a4 a5 a6 := by
  intro X hX
  have key : ∀ (q : Nat) (a0 : α0) (a1 : α1) (a2 : α2) (a3 : α3) (a4 : α4) (a5 : α5) (a6 : α6), m a0 a1 a2 a3 a4 a5 a6 ≤ q → I a0 a1 a2 a3 a4 a5 a6 → X a0 a1 a2 a3 a4 a5 a6 := by
    intro q
    induction q with
    | zero => intro a0 a1 a2 a3 a4 a5 a6 hq hI; exact hX _ _ _ _ _ _ _ (step X a0 a1 a2 a3 a4 a5 a6 hI fun b0 b1 b2 b3 b4 b5 b6 _ hl => absurd hl (by omega))
    | succ q ih => intro a0 a1 a2 a3 a4 a5 a6 hq hI; exact hX _ _ _ _ _ _ _ (step X a0 a1 a2 a3 a4 a5 a6 hI fun b0 b1 b2 b3 b4 b5 b6 hJ hl => ih b0 b1 b2 b3 b4 b5 b6 (by omega) hJ)
  exact key _ a0 a1 a2 a3 a4 a5 a6 (Nat.le_refl _) h
theorem Lp8_of {α0 α1 α2 α3 α4 α5 α6 α7 : Type} {F : (α0 → α1 → α2 → α3 → α4 → α5 → α6 → α7 → Prop) → α0 → α1 → α2 → α3 → α4 → α5 → α6 → α7 → Prop} (I : α0 → α1 → α2 → α3 → α4 → α5 → α6 → α7 → Prop) (m : α0 → α1 → α2 → α3 → α4 → α5 → α6 → α7 → Nat) (step : ∀ (X : α0 → α1 → α2 → α3 → α4 → α5 → α6 → α7 → Prop) (a0 : α0) (a1 : α1) (a2 : α2) (a3 : α3) (a4 : α4) (a5 : α5) (a6 : α6) (a7 : α7), I a0 a1 a2 a3 a4 a5 a6 a7 → (∀ (b0 : α0) (b1 : α1) (b2 : α2) (b3 : α3) (b4 : α4) (b5 : α5) (b6 : α6) (b7 : α7), I b0 b1 b2 b3 b4 b5 b6 b7 → m b0 b1 b2 b3 b4 b5 b6 b7 < m a0 a1 a2 a3 a4 a5 a6 a7 → X b0 b1 b2 b3 b4 b5 b6 b7) → F X a0 a1 a2 a3 a4 a5 a6 a7) {a0 : α0} {a1 : α1} {a2 : α2} {a3 : α3} {a4 : α4} {a5 : α5} {a6 : α6} {a7 : α7} (h : I a0 a1 a2 a3 a4 a5 a6 a7) : Lp8 F a0 a1 a2 a3 a4 a5 a6 a7 := by
  intro X hX
  have key : ∀ (q : Nat) (a0 : α0) (a1 : α1) (a2 : α2) (a3 : α3) (a4 : α4) (a5 : α5) (a6 : α6) (a7 : α7), m a0 a1 a2 a3 a4 a5 a6 a7 ≤ q → I a0 a1 a2 a3 a4 a5 a6 a7 → X a0 a1 a2 a3 a4 a5 a6 a7 := by
    intro q
    induction q with
    | zero => intro a0 a1 a2 a3 a4 a5 a6 a7 hq hI; exact hX _ _ _ _ _ _ _ _ (step X a0 a1 a2 a3 a4 a5 a6 a7 hI fun b0 b1 b2 b3 b4 b5 b6 b7 _ hl => absurd hl (by omega))
    | succ q ih => intro a0 a1 a2 a3 a4 a5 a6 a7 hq hI; exact hX _ _ _ _ _ _ _ _ (step X a0 a1 a2 a3 a4 a5 a6 a7 hI fun b0 b1 b2 b3 b4 b5 b6 b7 hJ hl => ih b0 b1 b2 b3 b4 b5 b6 b7 (by omega) hJ)
  exact key _ a0 a1 a2 a3 a4 a5 a6 a7 (Nat.le_refl _) h
theorem Lp9_of {α0 α1 α2 α3 α4 α5 α6 α7 α8 : Type} {F : (α0 → α1 → α2 → α3 → α4 → α5 → α6 → α7 → α8 → Prop) → α0 → α1 → α2 → α3 → α4 → α5 → α6 → α7 → α8 → Prop} (I : α0 → α1 → α2 → α3 → α4 → α5 → α6 → α7 → α8 → Prop) (m : α0 → α1 → α2 → α3 → α4 → α5 → α6 → α7 → α8 → Nat) (step : ∀ (X : α0 → α1 → α2 → α3 → α4 → α5 → α6 → α7 → α8 → Prop) (a0 : α0) (a1 : α1) (a2 : α2) (a3 : α3) (a4 : α4) (a5 : α5) (a6 : α6) (a7 : α7) (a8 : α8), I a0 a1 a2 a3 a4 a5 a6 a7 a8 → (∀ (b0 : α0) (b1 : α1) (b2 : α2) (b3 : α3) (b4 : α4) (b5 : α5) (b6 : α6) (b7 : α7) (b8 : α8), I b0 b1 b2 b3 b4 b5 b6 b7 b8 → m b0 b1 b2 b3 b4 b5 b6 b7 b8 < m a0 a1 a2 a3 a4 a5 a6 a7 a8 → X b0 b1 b2 b3 b4 b5 b6 b7 b8) → F X a0 a1 a2 a3 a4 a5 a6 a7 a8) {a0 : α0} {a1 : α1} {a2 : α2} {a3 : α3} {a4 : α4} {a5 : α5} {a6 : α6} {a7 : α7} {a8 : α8} (h : I a0 a1 a2 a3 a4 a5 a6 a7 a8) : Lp9 F a0 a1 a2 a3 a4 a5 a6 a7 a8 := by
  intro X hX
  have key : ∀ (q : Nat) (a0 : α0) (a1 : α1) (a2 : α2) (a3 : α3) (a4 : α4) (a5 : α5) (a6 : α6) (a7 : α7) (a8 : α8), m a0 a1 a2 a3 a4 a5 a6 a7 a8 ≤ q → I a0 a1 a2 a3 a4 a5 a6 a7 a8 → X a0 a1 a2 a3 a4 a5 a6 a7 a8 := by
    intro q
    induction q with
    | zero => intro a0 a1 a2 a3 a4 a5 a6 a7 a8 hq hI; exact hX _ _ _ _ _ _ _ _ _ (step X a0 a1 a2 a3 a4 a5 a6 a7 a8 hI fun b0 b1 b2 b3 b4 b5 b6 b7 b8 _ hl => absurd hl (by omega))
    | succ q ih => intro a0 a1 a2 a3 a4 a5 a6 a7 a8 hq hI; exact hX _ _ _ _ _ _ _ _ _ (step X a0 a1 a2 a3 a4 a5 a6 a7 a8 hI fun b0 b1 b2 b3 b4 b5 b6 b7 b8 hJ hl => ih b0 b1 b2 b3 b4 b5 b6 b7 b8 (by omega) hJ)
  exact key _ a0 a1 a2 a3 a4 a5 a6 a7 a8 (Nat.le_refl _) h
theorem Lp10_of {α0 α1 α2 α3 α4 α5 α6 α7 α8 α9 : Type} {F : (α0 → α1 → α2 → α3 → α4 → α5 → α6 → α7 → α8 → α9 → Prop) → α0 → α1 → α2 → α3 → α4 → α5 → α6 → α7 → α8 → α9 → Prop} (I : α0 → α1 → α2 → α3 → α4 → α5 → α6 → α7 → α8 → α9 → Prop) (m : α0 → α1 → α2 → α3 → α4 → α5 → α6 → α7 → α8 → α9 → Nat) (step : ∀ (X : α0 → α1 → α2 → α3 → α4 → α5 → α6 → α7 → α8 → α9 → Prop) (a0 : α0) (a1 : α1) (a2 : α2) (a3 : α3) (a4 : α4) (a5 : α5) (a6 : α6) (a7 : α7) (a8 : α8) (a9 : α9), I a0 a1 a2 a3 a4 a5 a6 a7 a8 a9 → (∀ (b0 : α0) (b1 : α1) (b2 : α2) (b3 : α3) (b4 : α4) (b5 : α5) (b6 : α6) (b7 : α7) (b8 : α8) (b9 : α9), I b0 b1 b2 b3 b4 b5 b6 b7 b8 b9 → m b0 b1 b2 b3 b4 b5 b6 b7 b8 b9 < m a0 a1 a2 a3 a4 a5 a6 a7 a8 a9 → X b0 b1 b2 b3 b4 b5 b6 b7 b8 b9) → F X a0 a1 a2 a3 a4 a5 a6 a7 a8 a9) {a0 : α0} {a1 : α1} {a2 : α2} {a3 : α3} {a4 : α4} {a5 : α5} {a6 : α6} {a7 : α7} {a8 : α8} {a9 : α9} (h : I a0 a1 a2 a3 a4 a5 a6 a7 a8 a9) : Lp10 F a0 a1 a2 a3 a4 a5 a6 a7 a8 a9 := by
  intro X hX
  have key : ∀ (q : Nat) (a0 : α0) (a1 : α1) (a2 : α2) (a3 : α3) (a4 : α4) (a5 : α5) (a6 : α6) (a7 : α7) (a8 : α8) (a9 : α9), m a0 a1 a2 a3 a4 a5 a6 a7 a8 a9 ≤ q → I a0 a1 a2 a3 a4 a5 a6 a7 a8 a9 → X a0 a1 a2 a3 a4 a5 a6 a7 a8 a9 := by
    intro q
    induction q with
    | zero => intro a0 a1 a2 a3 a4 a5 a6 a7 a8 a9 hq hI; exact hX _ _ _ _ _ _ _ _ _ _ (step X a0 a1 a2 a3 a4 a5 a6 a7 a8 a9 hI fun b0 b1 b2 b3 b4 b5 b6 b7 b8 b9 _ hl => absurd hl (by omega))
    | succ q ih => intro a0 a1 a2 a3 a4 a5 a6 a7 a8 a9 hq hI; exact hX _ _ _ _ _ _ _ _ _ _ (step X a0 a1 a2 a3 a4 a5 a6 a7 a8 a9 hI fun b0 b1 b2 b3 b4 b5 b6 b7 b8 b9 hJ hl => ih b0 b1 b2 b3 b4 b5 b6 b7 b8 b9 (by omega) hJ)
  exact key _ a0 a1 a2 a3 a4 a5 a6 a7 a8 a9 (Nat.le_refl _) h
theorem Lp11_of {α0 α1 α2 α3 α4 α5 α6 α7 α8 α9 α10 : Type} {F : (α0 → α1 → α2 → α3 → α4 → α5 → α6 → α7 → α8 → α9 → α10 → Prop) → α0 → α1 → α2 → α3 → α4 → α5 → α6 → α7 → α8 → α9 → α10 → Prop} (I : α0 → α1 → α2 → α3 → α4 → α5 → α6 → α7 → α8 → α9 → α10 → Prop) (m : α0 → α1 → α2 → α3 → α4 → α5 → α6 → α7 → α8 → α9 → α10 → Nat) (step : ∀ (X : α0 → α1 → α2 → α3 → α4 → α5 → α6 → α7 → α8 → α9 → α10 → Prop) (a0 : α0) (a1 : α1) (a2 : α2) (a3 : α3) (a4 : α4) (a5 : α5) (a6 : α6) (a7 : α7) (a8 : α8) (a9 : α9) (a10 : α10), I a0 a1 a2 a3 a4 a5 a6 a7 a8 a9 a10 → (∀ (b0 : α0) (b1 : α1) (b2 : α2) (b3 : α3) (b4 : α4) (b5 : α5) (b6 : α6) (b7 : α7) (b8 : α8) (b9 : α9) (b10 : α10), I b0 b1 b2 b3 b4 b5 b6 b7 b8 b9 b10 → m b0 b1 b2 b3 b4 b5 b6 b7 b8 b9 b10 < m a0 a1 a2 a3 a4 a5 a6 a7 a8 a9 a10 → X b0 b1 b2 b3 b4 b5 b6 b7 b8 b9 b10) → F X a0 a1 a2 a3 a4 a5 a6 a7 a8 a9 a10) {a0 : α0} {a1 : α1} {a2 : α2} {a3 : α3} {a4 : α4} {a5 : α5} {a6 : α6} {a7 : α7} {a8 : α8} {a9 : α9} {a10 : α10} (h : I a0 a1 a2 a3 a4 a5 a6 a7 a8 a9 a10) : Lp11 F a0 a1 a2 a3 a4 a5 a6 a7 a8 a9 a10 := by
  intro X hX
  have key : ∀ (q : Nat) (a0 : α0) (a1 : α1) (a2 : α2) (a3 : α3) (a4 : α4) (a5 : α5) (a6 : α6) (a7 : α7) (a8 : α8) (a9 : α9) (a10 : α10), m a0 a1 a2 a3 a4 a5 a6 a7 a8 a9 a10 ≤ q → I a0 a1 a2 a3 a4 a5 a6 a7 a8 a9 a10 → X a0 a1 a2 a3 a4 a5 a6 a7 a8 a9 a10 := by
    intro q
    induction q with
    | zero => intro a0 a1 a2 a3 a4 a5 a6 a7 a8 a9 a10 hq hI; exact hX _ _ _ _ _ _ _ _ _ _ _ (step X a0 a1 a2 a3 a4 a5 a6 a7 a8 a9 a10 hI fun b0 b1 b2 b3 b4 b5 b6 b7 b8 b9 b10 _ hl => absurd hl (by omega))
    | succ q ih => intro a0 a1 a2 a3 a4 a5 a6 a7 a8 a9 a10 hq hI; exact hX _ _ _ _ _ _ _ _ _ _ _ (step X a0 a1 a2 a3 a4 a5 a6 a7 a8 a9 a10 hI fun b0 b1 b2 b3 b4 b5 b6 b7 b8 b9 b10 hJ hl => ih b0 b1 b2 b3 b4 b5 b6 b7 b8 b9 b10 (by omega) hJ)
  exact key _ a0 a1 a2 a3 a4 a5 a6 a7 a8 a9 a10 (Nat.le_refl _) h
theorem Lp12_of {α0 α1 α2 α3 α4 α5 α6 α7 α8 α9 α10 α11 : Type} {F : (α0 → α1 → α2 → α3 → α4 → α5 → α6 → α7 → α8 → α9 → α10 → α11 → Prop) → α0 → α1 → α2 → α3 → α4 → α5 → α6 → α7 → α8 → α9 → α10 → α11 → Prop} (I : α0 → α1 → α2 → α3 → α4 → α5 → α6 → α7 → α8 → α9 → α10 → α11 → Prop) (m : α0 → α1 → α2 → α3 → α4 → α5 → α6 → α7 → α8 → α9 → α10 → α11 → Nat) (step : ∀ (X : α0 → α1 → α2 → α3 → α4 → α5 → α6 → α7 → α8 → α9 → α10 → α11 → Prop) (a0 : α0) (a1 : α1) (a2 : α2) (a3 : α3) (a4 : α4) (a5 : α5) (a6 : α6) (a7 : α7) (a8 : α8) (a9 : α9) (a10 : α10) (a11 : α11), I a0 a1 a2 a3 a4 a5 a6 a7 a8 a9 a10 a11 → (∀ (b0 : α0) (b1 : α1) (b2 : α2) (b3 : α3) (b4 : α4) (b5 : α5) (b6 : α6) (b7 : α7) (b8 : α8) (b9 : α9) (b10 : α10) (b11 : α11), I b0 b1 b2 b3 b4 b5 b6 b7 b8 b9 b10 b11 → m b0 b1 b2 b3 b4 b5 b6 b7 b8 b9 b10 b11 < m a0 a1 a2 a3 a4 a5 a6 a7 a8 a9 a10 a11 → X b0 b1 b2 b3 b4 b5 b6 b7 b8 b9 b10 b11) → F X a0 a1 a2 a3 a4 a5 a6 a7 a8 a9 a10 a11) {a0 : α0} {a1 : α1} {a2 : α2} {a3 : α3} {a4 : α4} {a5 : α5} {a6 : α6} {a7 : α7} {a8 : α8} {a9 : α9} {a10 : α10} {a11 : α11} (h : I a0 a1 a2 a3 a4 a5 a6 a7 a8 a9 a10 a11) : Lp12 F a0 a1 a2 a3 a4 a5 a6 a7 a8 a9 a10 a11 := by
  intro X hX
  have key : ∀ (q : Nat) (a0 : α0) (a1 : α1) (a2 : α2) (a3 : α3) (a4 : α4) (a5 : α5) (a6 : α6) (a7 : α7) (a8 : α8) (a9 : α9) (a10 : α10) (a11 : α11), m a0 a1 a2 a3 a4 a5 a6 a7 a8 a9 a10 a11 ≤ q → I a0 a1 a2 a3 a4 a5 a6 a7 a8 a9 a10 a11 → X a0 a1 a2 a3 a4 a5 a6 a7 a8 a9 a10 a11 := by
    intro q
    induction q with
    | zero => intro a0 a1 a2 a3 a4 a5 a6 a7 a8 a9 a10 a11 hq hI; exact hX _ _ _ _ _ _ _ _ _ _ _ _ (step X a0 a1 a2 a3 a4 a5 a6 a7 a8 a9 a10 a11 hI fun b0 b1 b2 b3 b4 b5 b6 b7 b8 b9 b10 b11 _ hl => absurd hl (by omega))
    | succ q ih => intro a0 a1 a2 a3 a4 a5 a6 a7 a8 a9 a10 a11 hq hI; exact hX _ _ _ _ _ _ _ _ _ _ _ _ (step X a0 a1 a2 a3 a4 a5 a6 a7 a8 a9 a10 a11 hI fun b0 b1 b2 b3 b4 b5 b6 b7 b8 b9 b10 b11 hJ hl => ih b0 b1 b2 b3 b4 b5 b6 b7 b8 b9 b10 b11 (by omega) hJ)
  exact key _ a0 a1 a2 a3 a4 a5 a6 a7 a8 a9 a10 a11 (Nat.le_refl _) h

/-! ### the order of texts -/
theorem bl_irrefl : ∀ x : List UInt8, Op.bytesLess x x = false
  | [] => rfl
  | a :: x => by simp [Op.bytesLess, bl_irrefl x]
theorem bl_trans : ∀ x y z : List UInt8, Op.bytesLess x y = true → Op.bytesLess y z = true → Op.bytesLess x z = true
  | _, [], _, h, _ => by simp [Op.bytesLess] at h
  | _, _ :: _, [], _, k => by simp [Op.bytesLess] at k
  | [], _ :: _, _ :: _, _, _ => rfl
  | a :: x, b :: y, c :: z, h, k => by
    simp only [Op.bytesLess, Bool.or_eq_true, Bool.and_eq_true, decide_eq_true_eq, beq_iff_eq, UInt8.lt_iff_toNat_lt, ← UInt8.toNat_inj] at *
    rcases h with h | ⟨h, h'⟩ <;> rcases k with k | ⟨k, k'⟩
    · exact .inl (by omega)
    · exact .inl (by omega)
    · exact .inl (by omega)
    · exact .inr ⟨by omega, bl_trans x y z h' k'⟩
theorem bl_total : ∀ x y : List UInt8, Op.bytesLess x y = true ∨ x = y ∨ Op.bytesLess y x = true
  | [], [] => .inr (.inl rfl)
  | [], _ :: _ => .inl rfl
  | _ :: _, [] => .inr (.inr rfl)
  | a :: x, b :: y => by
    simp only [Op.bytesLess, Bool.or_eq_true, Bool.and_eq_true, decide_eq_true_eq, beq_iff_eq, UInt8.lt_iff_toNat_lt, List.cons.injEq, ← UInt8.toNat_inj]
    rcases Nat.lt_trichotomy a.toNat b.toNat with h | h | h
    · exact .inl (.inl h)
    · rcases bl_total x y with k | k | k
      · exact .inl (.inr ⟨h, k⟩)
      · exact .inr (.inl ⟨h, k⟩)
      · exact .inr (.inr (.inr ⟨h.symm, k⟩))
    · exact .inr (.inr (.inl h))
end Go.AV
