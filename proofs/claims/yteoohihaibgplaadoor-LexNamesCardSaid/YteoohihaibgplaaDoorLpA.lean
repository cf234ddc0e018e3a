import Derived.Test.YteoohihaibgplaaDoorLa
import Derived.Test.YteoohihaibgplaaDoorPl
namespace Go.Proofs.YteoohihaibgplaaDoor
open Go.AV Go.RowKit

theorem bAt_nat {s : Str} {i : Nat} (h : i < s.length) : bAt s (i : Int) = (s[i].toNat : Int) := by
  unfold bAt
  rw [Int.toNat_natCast, List.getElem?_eq_getElem h]; rfl
theorem w1 {i : Nat} (h : i < 1000000000) : IntKind.i64.wrap ((i : Int) + 1) = ((i + 1 : Nat) : Int) := by rw [wrap64 (by omega) (by omega)]; omega
theorem gAt {α : Type} {l : List α} {i : Nat} (h : i < l.length) : l[((i : Nat) : Int).toNat]? = some l[i] := by rw [Int.toNat_natCast]; exact List.getElem?_eq_getElem h
def isS (c : UInt8) : Bool := decide (97 ≤ c.toNat) && decide (c.toNat ≤ 122)
def isD (c : UInt8) : Bool := decide (48 ≤ c.toNat) && decide (c.toNat ≤ 57)
def isR (c : UInt8) : Bool := isS c || (isD c || c.toNat == 95)
theorem pSmall (c : UInt8) : lex_small_o (c.toNat : Int) (isS c) := by
  unfold lex_small_o isS
  refine ⟨fun h => ?_, fun h => ?_⟩
  · have h : (97 : Int) ≤ c.toNat := of_decide_eq_true h
    rw [decide_eq_true (show 97 ≤ c.toNat by omega), Bool.true_and, decide_eq_decide]; omega
  · have h : ¬ (97 : Int) ≤ c.toNat := of_decide_eq_false h
    rw [decide_eq_false (show ¬ 97 ≤ c.toNat by omega)]; rfl
theorem pDigit (c : UInt8) : lex_digit_o (c.toNat : Int) (isD c) := by
  unfold lex_digit_o isD
  refine ⟨fun h => ?_, fun h => ?_⟩
  · have h : (48 : Int) ≤ c.toNat := of_decide_eq_true h
    rw [decide_eq_true (show 48 ≤ c.toNat by omega), Bool.true_and, decide_eq_decide]; omega
  · have h : ¬ (48 : Int) ≤ c.toNat := of_decide_eq_false h
    rw [decide_eq_false (show ¬ 48 ≤ c.toNat by omega)]; rfl
theorem pRest (c : UInt8) : lex_rest_o (c.toNat : Int) (isR c) := by
  refine ⟨_, pSmall c, fun h => ?_, fun h => ⟨_, pDigit c, fun k => ?_, fun k => ?_⟩⟩
  · simp [isR, h]
  · simp [isR, k]
  · unfold isR
    rw [h, k, Bool.eq_iff_iff]; simp; omega
theorem pSpanG {g : Int → Bool → Prop} {f : UInt8 → Bool} (hg : ∀ c : UInt8, g (c.toNat : Int) (f c)) (s : Str) (h : s.length ≤ 100000) : lex_span_o s g (s.takeWhile f) := by
  apply lex_span_i
  refine lp1 (fun (x : Int) => ∃ k : Nat, x = k ∧ k ≤ s.length ∧ s.takeWhile f = s.take k ++ (s.drop k).takeWhile f) (fun (x : Int) => s.length - x.toNat) ?_ ⟨0, rfl, by omega, by simp⟩
  rintro X0 x ⟨k, rfl, h1, he⟩ hX
  have stop : (s.drop k).takeWhile f = [] → lex_span_J2i X0 s (s.takeWhile f) k false := by
    intro hw
    refine ⟨fun q => (by cases q), fun _ => ⟨⟨by omega, by omega, by omega⟩, ?_⟩⟩
    rw [he, hw, Int.toNat_natCast]; simp
  simp only [lex_span_L1i]
  refine ⟨fun c => ?_, fun c => ?_⟩
  · have c : (k : Int) < s.length := of_decide_eq_true c
    have hk : k < s.length := by omega
    refine ⟨⟨by omega, c⟩, f s[k], by rw [bAt_nat hk]; exact hg _, ?_⟩
    cases hr : f s[k] with
    | true =>
      refine ⟨fun _ => ?_, fun q => (by cases q)⟩
      rw [w1 (by omega)]
      refine hX _ ⟨k + 1, rfl, by omega, ?_⟩ (by omega)
      rw [he, List.drop_eq_getElem_cons hk, List.takeWhile_cons, hr, List.take_succ_eq_append_getElem hk, List.append_assoc]
      rfl
    | false =>
      refine stop ?_
      rw [List.drop_eq_getElem_cons hk, List.takeWhile_cons, hr]; rfl
  · have c : ¬ (k : Int) < s.length := of_decide_eq_false c
    refine stop ?_
    rw [List.drop_of_length_le (by omega)]; rfl
theorem pSpan (s : Str) (h : s.length ≤ 100000) : lex_span_o s lex_rest_o (s.takeWhile isR) := pSpanG pRest s h
def sLex (s : Str) : Bool := match s with
  | [] => false
  | c :: r => decide ((c :: r).length ≤ 16) && (isS c && (c :: r).all isR)
theorem tw_all {s : Str} : (s.takeWhile isR == s) = s.all isR := by
  induction s with
  | nil => rfl
  | cons c s ih =>
    rw [List.takeWhile_cons]
    cases h : isR c with
    | true => simp [h, ← ih]
    | false => simp [h]
theorem pLex (s : Str) : lex_Good_o s (sLex s) := by
  cases s with
  | nil => exact ⟨fun q => (by simp at q), fun _ => rfl⟩
  | cons c r =>
    refine ⟨fun _ => ⟨fun h => ⟨⟨by omega, by simp⟩, _, pSmall c, fun k => ⟨_, pSpan (c :: r) ?_, ?_⟩, fun k => ?_⟩, fun h => ?_⟩, fun q => (by simp at q)⟩
    · have h : ((c :: r).length : Int) ≤ 16 := of_decide_eq_true h
      omega
    · have h : ((c :: r).length : Int) ≤ 16 := of_decide_eq_true h
      rw [tw_all]
      simp only [sLex, k, Bool.true_and]
      rw [decide_eq_true (show (c :: r).length ≤ 16 by omega), Bool.true_and]
    · simp only [sLex, k, Bool.false_and, Bool.and_false]
    · have h : ¬ ((c :: r).length : Int) ≤ 16 := of_decide_eq_false h
      simp only [sLex]
      rw [decide_eq_false (show ¬ (c :: r).length ≤ 16 by omega)]; rfl
theorem cT {p q : Prop} (h : p) : cnd true p q := ⟨fun _ => h, fun e => by cases e⟩
theorem cF {p q : Prop} (h : q) : cnd false p q := ⟨fun e => (by cases e), fun _ => h⟩
theorem tw {f : UInt8 → Bool} {s u : Str} (hs : ∀ c ∈ s, f c = true) (hu : ∀ c r, u = c :: r → f c = false) : (s ++ u).takeWhile f = s ∧ (s ++ u).dropWhile f = u := by
  induction s with
  | nil =>
    cases u with
    | nil => exact ⟨rfl, rfl⟩
    | cons c r =>
      have := hu c r rfl
      simp [List.takeWhile_cons, List.dropWhile_cons, this]
  | cons d s ih =>
    have hd := hs d (by simp)
    obtain ⟨a, b⟩ := ih (fun c hc => hs c (List.mem_cons_of_mem _ hc))
    simp [List.takeWhile_cons, List.dropWhile_cons, hd, a, b]
theorem sLex_ok {s : Str} (h : sLex s = true) : ∃ c r, s = c :: r ∧ isS c = true ∧ ∀ d ∈ s, isR d = true := by
  cases s with
  | nil => cases h
  | cons c r =>
    simp only [sLex, Bool.and_eq_true] at h
    exact ⟨c, r, rfl, h.2.1, List.all_eq_true.1 h.2.2⟩
theorem isS_no {c : UInt8} (h : isS c = true) : c ≠ 40 ∧ c ≠ 39 ∧ isD c = false ∧ c ≠ 42 ∧ c ≠ 45 ∧ c ≠ 78 := by
  simp only [isS, Bool.and_eq_true, decide_eq_true_eq] at h
  refine ⟨?_, ?_, ?_, ?_, ?_, ?_⟩
  · rintro rfl; exact absurd h.1 (by decide)
  · rintro rfl; exact absurd h.1 (by decide)
  · unfold isD
    rw [decide_eq_false (show ¬ c.toNat ≤ 57 by omega), Bool.and_false]
  · rintro rfl; exact absurd h.1 (by decide)
  · rintro rfl; exact absurd h.1 (by decide)
  · rintro rfl; exact absurd h.1 (by decide)
theorem isD_no {c : UInt8} (h : isD c = true) : c ≠ 40 ∧ c ≠ 39 ∧ c ≠ 42 ∧ c ≠ 45 ∧ c ≠ 78 := by
  simp only [isD, Bool.and_eq_true, decide_eq_true_eq] at h
  refine ⟨?_, ?_, ?_, ?_, ?_⟩
  · rintro rfl; exact absurd h.1 (by decide)
  · rintro rfl; exact absurd h.1 (by decide)
  · rintro rfl; exact absurd h.1 (by decide)
  · rintro rfl; exact absurd h.1 (by decide)
  · rintro rfl; exact absurd h.2 (by decide)
/-- how a shown one begins -/
def sClass (c : Int) : Int := if 97 ≤ c ∧ c ≤ 122 then 1 else if 65 ≤ c ∧ c ≤ 90 then 2 else if 48 ≤ c ∧ c ≤ 57 then 3 else if c = 95 then 4 else if c = 39 then 5 else if c = 32 ∨ c = 10 then 6 else 0
theorem pClass (c : Int) : ref14_class_o c (sClass c) := by
  apply ref14_class_i
  simp only [ref14_class_oi, ref14_class_J1i, ref14_class_J2i, ref14_class_J3i, ref14_class_J4i]
  grind [sClass, cnd]
end Go.Proofs.YteoohihaibgplaaDoor
