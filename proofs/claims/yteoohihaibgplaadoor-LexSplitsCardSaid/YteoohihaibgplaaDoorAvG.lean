/-
  Typed rows: slices and own rows that tell lists of plain data; loops of plain data.
-/
import Derived.Test.YteoohihaibgplaaDoorAvY
namespace Go.AV
open Go.RowKit Go.RG Go.Lib

/-- plain data as cells -/
structure Enc (T : Type) where
  c : T → List AV
  sz : Nat
  pos : 0 < sz
  len : ∀ x, (c x).length = sz
  no : ∀ x, noLs (c x) = true
  one : ∀ x, (c x).all AV.one = true
def cl {T : Type} (E : Enc T) (l : List T) : List AV := l.flatMap E.c
def slA {T : Type} (E : Enc T) (l : List T) : AV := .sl false l.length (cl E l)
section
variable {T : Type} (E : Enc T)
theorem cl_len (l : List T) : (cl E l).length = l.length * E.sz := by
  induction l with
  | nil => simp [cl]
  | cons x l ih => simp only [cl, List.flatMap_cons, List.length_append, List.length_cons, E.len] at ih ⊢; rw [ih, Nat.add_mul]; omega
theorem cl_no (l : List T) : noLs (cl E l) = true := by
  induction l with
  | nil => rfl
  | cons x l ih => rw [show cl E (x :: l) = E.c x ++ cl E l from by simp [cl], noLs_append, E.no, ih]; rfl
theorem cl_app (l k : List T) : cl E (l ++ k) = cl E l ++ cl E k := by simp [cl]
theorem cl_at {l : List T} {m : Nat} {y : T} (h : l[m]? = some y) (o w : Nat) (hw : o + w ≤ E.sz) : ((cl E l).drop (m * E.sz + o)).take w = ((E.c y).drop o).take w := by
  induction l generalizing m with
  | nil => simp at h
  | cons x l ih =>
    have e : cl E (x :: l) = E.c x ++ cl E l := by simp [cl]
    rw [e]
    cases m with
    | zero =>
      simp at h; subst h
      rw [Nat.zero_mul, Nat.zero_add, List.drop_append_of_le_length (by rw [E.len]; omega), List.take_append_of_le_length (by simp [E.len]; omega)]
    | succ m =>
      have := ih (m := m) (by simpa using h)
      rw [← this]
      congr 1
      rw [show (m + 1) * E.sz + o = E.sz + (m * E.sz + o) by rw [Nat.add_mul]; omega]
      have h2 : E.sz = (E.c x).length := (E.len x).symm
      rw [h2, ← List.drop_drop, List.drop_left]
theorem cl_set {l : List T} {m : Nat} {y y' : T} (h : l[m]? = some y) (o w : Nat) (hw : o + w ≤ E.sz) {vs : List AV} (hy : (E.c y).take o ++ vs ++ (E.c y).drop (o + w) = E.c y') :
    (cl E l).take (m * E.sz + o) ++ vs ++ (cl E l).drop (m * E.sz + o + w) = cl E (l.set m y') := by
  induction l generalizing m with
  | nil => simp at h
  | cons x l ih =>
    have e : cl E (x :: l) = E.c x ++ cl E l := by simp [cl]
    rw [e]
    cases m with
    | zero =>
      simp at h; subst h
      rw [List.set_cons_zero, show cl E (y' :: l) = E.c y' ++ cl E l by simp [cl], ← hy]
      rw [Nat.zero_mul, Nat.zero_add, List.take_append_of_le_length (by rw [E.len]; omega), List.drop_append_of_le_length (by rw [E.len]; omega)]
      simp
    | succ m =>
      rw [List.set_cons_succ, show cl E (x :: l.set m y') = E.c x ++ cl E (l.set m y') by simp [cl], ← ih (m := m) (by simpa using h)]
      have h2 : E.sz = (E.c x).length := (E.len x).symm
      rw [show (m + 1) * E.sz + o = (E.c x).length + (m * E.sz + o) by rw [← h2, Nat.add_mul]; omega, show (E.c x).length + (m * E.sz + o) + w = (E.c x).length + (m * E.sz + o + w) by omega]
      rw [List.take_length_add_append, List.drop_length_add_append]
      simp
theorem cl_sub (l : List T) (a b : Nat) : ((cl E l).drop (a * E.sz)).take (b * E.sz) = cl E ((l.drop a).take b) := by
  induction l generalizing a with
  | nil => simp [cl]
  | cons x l ih =>
    have e : cl E (x :: l) = E.c x ++ cl E l := by simp [cl]
    have h2 : E.sz = (E.c x).length := (E.len x).symm
    cases a with
    | zero =>
      simp only [Nat.zero_mul, List.drop_zero]
      clear ih
      have key : ∀ (k : List T) (b : Nat), (cl E k).take (b * E.sz) = cl E (k.take b) := by
        intro k
        induction k with
        | nil => intro b; simp [cl]
        | cons z k ihk =>
          intro b
          have h3 : E.sz = (E.c z).length := (E.len z).symm
          cases b with
          | zero => simp [cl]
          | succ b =>
            rw [List.take_succ_cons, show cl E (z :: k) = E.c z ++ cl E k by simp [cl], show cl E (z :: k.take b) = E.c z ++ cl E (k.take b) by simp [cl], ← ihk b, show (b + 1) * E.sz = (E.c z).length + b * E.sz by rw [← h3, Nat.add_mul]; omega, List.take_length_add_append]
      exact key _ b
    | succ a =>
      rw [e, List.drop_succ_cons, ← ih a, show (a + 1) * E.sz = (E.c x).length + a * E.sz by rw [← h2, Nat.add_mul]; omega, List.drop_length_add_append]
end

section
variable {P : Program} {B : Base} [GB P B] {N : Nat} {ro : Option Nat} {L : List AO} {Q : KS → Prop} {ds : DS} {i : Nat} {o : AO} {T : Type} {d : Option Nat}

/-! ### bytes -/
def toB (n : Int) : UInt8 := UInt8.ofNat n.toNat
def ofB (b : UInt8) : Int := (b.toNat : Int)
end

/-! ### the kinds of plain data -/
abbrev Str := List UInt8
def eB : Enc Bool := ⟨fun b => [.bl b], 1, by omega, fun _ => rfl, fun _ => rfl, fun _ => rfl⟩
def eI (k : IntKind) : Enc Int := ⟨fun n => [.it k n], 1, by omega, fun _ => rfl, fun _ => rfl, fun _ => rfl⟩
def eS : Enc Str := ⟨fun s => [.st s], 1, by omega, fun _ => rfl, fun _ => rfl, fun _ => rfl⟩
def eSl {T : Type} (E : Enc T) : Enc (List T) := ⟨fun l => [slA E l], 1, by omega, fun _ => rfl, fun _ => rfl, fun _ => rfl⟩
def bAt (s : Str) (i : Int) : Int := ((s[i.toNat]?.getD 0).toNat : Int)

/-! ### loops of plain data: the least of what a round asks -/
/-- both ways of a bool -/
def cnd (b : Bool) (x y : Prop) : Prop := (b = true → x) ∧ (b = false → y)
end Go.AV

