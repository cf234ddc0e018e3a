import Derived.Test.YteoohihaibgplaaDoorEpE
namespace Go.Proofs.YteoohihaibgplaaDoor
open Go.AV Go.RowKit

/-! ### reading what is shown: pieces -/
def strip (p s : Str) : Option Str := if p.isPrefixOf s then some (s.drop p.length) else none
theorem strip_app (p s : Str) : strip p (p ++ s) = some s := by
  unfold strip
  rw [if_pos (by rw [List.isPrefixOf_iff_prefix]; exact List.prefix_append p s)]
  simp
/-- what may follow -/
def dl (u : Str) : Bool := match u with
  | [] => true
  | c :: _ => c == 32 || c == 41
theorem tw {f : UInt8 → Bool} {s u : Str} (hs : ∀ c ∈ s, f c = true) (hu : ∀ c r, u = c :: r → f c = false) : (s ++ u).takeWhile f = s ∧ (s ++ u).dropWhile f = u := by
  induction s with
  | nil =>
    cases u with
    | nil => exact ⟨rfl, rfl⟩
    | cons c r =>
      have := hu c r rfl
      simp [List.takeWhile_cons, List.dropWhile_cons, this]
  | cons d s ih =>
    have hd := hs d (by simp)
    obtain ⟨a, b⟩ := ih (fun c hc => hs c (List.mem_cons_of_mem _ hc))
    simp [List.takeWhile_cons, List.dropWhile_cons, hd, a, b]
theorem dl_out {u : Str} (h : dl u = true) (f : UInt8 → Bool) (h1 : f 32 = false) (h2 : f 41 = false) : ∀ c r, u = c :: r → f c = false := by
  rintro c r rfl
  simp only [dl, Bool.or_eq_true, beq_iff_eq] at h
  rcases h with rfl | rfl
  · exact h1
  · exact h2
def uq : Str → Option (Str × Str)
  | [] => none
  | [c] => if c = 39 then some ([], []) else none
  | c :: d :: r => if c = 39 then (if d = 39 then (uq r).map fun p => (39 :: p.1, p.2) else some ([], d :: r)) else (uq (d :: r)).map fun p => (c :: p.1, p.2)
theorem uq_dq : ∀ (s u : Str), (∀ c r, u = c :: r → c ≠ 39) → uq (dq s ++ 39 :: u) = some (s, u)
  | [], u, h => by
    cases u with
    | nil => rfl
    | cons c r =>
      have := h c r rfl
      simp [dq, uq, this]
  | c :: s, u, h => by
    have ih := uq_dq s u h
    have e : dq (c :: s) = (if c = 39 then [39, 39] else [c]) ++ dq s := rfl
    rw [e]
    by_cases hc : c = 39
    · subst hc
      show uq (39 :: 39 :: (dq s ++ 39 :: u)) = _
      rw [uq, if_pos rfl, if_pos rfl, ih]; rfl
    · rw [if_neg hc]
      show uq (c :: (dq s ++ 39 :: u)) = _
      have hne : ∃ d r, dq s ++ 39 :: u = d :: r := by
        cases dq s with
        | nil => exact ⟨_, _, rfl⟩
        | cons d r => exact ⟨_, _, rfl⟩
      obtain ⟨d, r, hdr⟩ := hne
      rw [hdr] at ih ⊢
      rw [uq, if_neg hc, ih]; rfl
/-! numbers -/
def dnum (s : Str) : Nat := s.foldl (fun a c => a * 10 + (c.toNat - 48)) 0
theorem dnum_snoc (s : Str) (c : UInt8) : dnum (s ++ [c]) = dnum s * 10 + (c.toNat - 48) := by simp [dnum]
theorem dec_ok : ∀ (k : Nat) (n : Nat), n ≤ k → dnum (Go.Lib.decDigits n) = n ∧ (∀ c ∈ Go.Lib.decDigits n, isD c = true) ∧ Go.Lib.decDigits n ≠ [] := by
  intro k
  induction k with
  | zero =>
    intro n hn
    have : n = 0 := by omega
    subst this
    rw [Go.Lib.decDigits.eq_1, dif_pos (by omega)]
    refine ⟨rfl, fun c hc => ?_, by simp⟩
    simp at hc; subst hc; rfl
  | succ k ih =>
    intro n hn
    have one : ∀ d : Nat, d < 10 → (UInt8.ofNat (48 + d)).toNat = 48 + d := fun d hd => by rw [UInt8.toNat_ofNat']; omega
    have oneD : ∀ d : Nat, d < 10 → isD (UInt8.ofNat (48 + d)) = true := fun d hd => by
      unfold isD; rw [one d hd]; simp; omega
    rw [Go.Lib.decDigits.eq_1]
    by_cases h10 : n < 10
    · rw [dif_pos h10]
      refine ⟨?_, fun c hc => ?_, by simp⟩
      · show 0 * 10 + ((UInt8.ofNat (48 + n)).toNat - 48) = n
        rw [one n h10]; omega
      · rw [List.mem_singleton] at hc; subst hc; exact oneD n h10
    · rw [dif_neg h10]
      obtain ⟨i1, i2, _⟩ := ih (n / 10) (by omega)
      refine ⟨?_, fun c hc => ?_, by simp⟩
      · rw [dnum_snoc, i1, one (n % 10) (by omega)]; omega
      · rcases List.mem_append.1 hc with h | h
        · exact i2 c h
        · rw [List.mem_singleton] at h; subst h; exact oneD _ (by omega)
theorem itoa_ok {n : Int} (h : 0 ≤ n) : (dnum (Go.Lib.itoa n) : Int) = n ∧ (∀ c ∈ Go.Lib.itoa n, isD c = true) ∧ Go.Lib.itoa n ≠ [] := by
  have e : Go.Lib.itoa n = Go.Lib.decDigits n.toNat := by unfold Go.Lib.itoa; rw [if_neg (by omega)]
  obtain ⟨a, b, c⟩ := dec_ok n.toNat n.toNat (Nat.le_refl _)
  rw [e]
  exact ⟨by rw [a]; omega, b, c⟩
/-! ### the reading -/
def idxO (o : Str) : Int := (ops.idxOf o : Int)
def idxA (o : Str) : Int := (ags.idxOf o : Int)
def isU (c : UInt8) : Bool := decide (65 ≤ c.toNat) && decide (c.toNat ≤ 90)
def n32 (c : UInt8) : Bool := !(c == 32)
def rdP (P : Str → Option (X × Str)) (r : Str) : Option (X × Str) :=
  match strip [78, 79, 84, 32] r with
  | some q => (P q).map fun p => (.mk 4 0 D0 [] [] [p.1], p.2.drop 1)
  | none => match strip [45, 32] r with
    | some q => (P q).map fun p => (.mk 5 0 D0 [] [] [p.1], p.2.drop 1)
    | none => match P r with
      | none => none
      | some (a, q) => match strip [32, 73, 83, 32, 78, 85, 76, 76, 41] q with
        | some q => some (.mk 6 0 D0 [] [] [a], q)
        | none => match strip [32, 73, 83, 32, 78, 79, 84, 32, 78, 85, 76, 76, 41] q with
          | some q => some (.mk 7 0 D0 [] [] [a], q)
          | none => (P (((q.drop 1).dropWhile n32).drop 1)).map fun p => (.mk 3 (idxO ((q.drop 1).takeWhile n32)) D0 [] [] [a, p.1], p.2.drop 1)
def rdU (P : Str → Option (X × Str)) (w r : Str) : Option (X × Str) :=
  if w = [78, 85, 76, 76] then some (.mk 1 0 D0 [] [] [], r) else if w = [84, 82, 85, 69] then some (.mk 1 0 (bV true) [] [] [], r) else if w = [70, 65, 76, 83, 69] then some (.mk 1 0 (bV false) [] [] [], r) else
    match strip [40, 42, 41] r with
    | some q => some (.mk 8 1 D0 [] [] [], q)
    | none => (P (r.drop 1)).map fun p => (.mk 8 (idxA w) D0 [] [] [p.1], p.2.drop 1)
def rdN (w r : Str) : Option (X × Str) := match r with
  | [] => some (.mk 2 0 D0 [] w [], r)
  | c :: q => if c = 46 then some (.mk 2 0 D0 w (q.takeWhile isR) [], q.dropWhile isR) else some (.mk 2 0 D0 [] w [], r)
def rd (P : Str → Option (X × Str)) (s : Str) : Option (X × Str) := match s with
  | [] => none
  | c :: r => if c = 40 then rdP P r else if c = 39 then (uq r).map (fun p => (.mk 1 0 ⟨3, 0, p.1⟩ [] [] [], p.2)) else if isD c then some (.mk 1 0 ⟨2, (dnum (s.takeWhile isD) : Int), []⟩ [] [] [], s.dropWhile isD) else
      if isS c then rdN (s.takeWhile isR) (s.dropWhile isR) else rdU P (s.takeWhile isU) (s.dropWhile isU)
def rdn : Nat → Str → Option (X × Str)
  | 0 => fun _ => none
  | n + 1 => rd (rdn n)
end Go.Proofs.YteoohihaibgplaaDoor
