import Derived.Test.YteoohihaibgplaaDoorLpA
namespace Go.Proofs.YteoohihaibgplaaDoor
open Go.AV Go.RowKit

abbrev Tok := T_lex_Token
def tok0 : Tok := ⟨0, [], 0, 0⟩
/-- loops that end: whichever the result -/
theorem ex2 {α β ρ : Type} {L : ρ → (α → β → Prop) → α → β → Prop} (I : α → β → Prop) (m : α → β → Nat) (G : ρ → Prop)
    (step : ∀ a b, I a b → (∃ r, G r ∧ ∀ X, L r X a b) ∨ ∃ a' b', I a' b' ∧ m a' b' < m a b ∧ ∀ r X, X a' b' → L r X a b) {a : α} {b : β} (h : I a b) : ∃ r, G r ∧ ∀ X : α → β → Prop, (∀ x y, L r X x y → X x y) → X a b := by
  have key : ∀ n a b, I a b → m a b = n → ∃ r, G r ∧ ∀ X : α → β → Prop, (∀ x y, L r X x y → X x y) → X a b := by
    intro n
    induction n using Nat.strongRecOn with
    | _ n ih =>
      intro a b h hm
      rcases step a b h with ⟨r, h1, h2⟩ | ⟨a', b', h1, h2, h3⟩
      · exact ⟨r, h1, fun X hX => hX _ _ (h2 X)⟩
      · obtain ⟨r, g, k⟩ := ih (m a' b') (by omega) a' b' h1 rfl
        exact ⟨r, g, fun X hX => hX _ _ (h3 r X (k X hX))⟩
  exact key _ a b h rfl
theorem ex1 {α ρ : Type} {L : ρ → (α → Prop) → α → Prop} (I : α → Prop) (m : α → Nat) (G : ρ → Prop)
    (step : ∀ a, I a → (∃ r, G r ∧ ∀ X, L r X a) ∨ ∃ a', I a' ∧ m a' < m a ∧ ∀ r X, X a' → L r X a) {a : α} (h : I a) : ∃ r, G r ∧ ∀ X : α → Prop, (∀ x, L r X x → X x) → X a := by
  have key : ∀ n a, I a → m a = n → ∃ r, G r ∧ ∀ X : α → Prop, (∀ x, L r X x → X x) → X a := by
    intro n
    induction n using Nat.strongRecOn with
    | _ n ih =>
      intro a h hm
      rcases step a h with ⟨r, h1, h2⟩ | ⟨a', h1, h2, h3⟩
      · exact ⟨r, h1, fun X hX => hX _ (h2 X)⟩
      · obtain ⟨r, g, k⟩ := ih (m a') (by omega) a' h1 rfl
        exact ⟨r, g, fun X hX => hX _ (h3 r X (k X hX))⟩
  exact key _ a h rfl
def isU (c : UInt8) : Bool := decide (65 ≤ c.toNat) && decide (c.toNat ≤ 90)
def isB (c : UInt8) : Bool := c.toNat == 32 || c.toNat == 10
theorem pGreat (c : UInt8) : lex_great_o (c.toNat : Int) (isU c) := by
  unfold lex_great_o isU
  refine ⟨fun h => ?_, fun h => ?_⟩
  · have h : (65 : Int) ≤ c.toNat := of_decide_eq_true h
    rw [decide_eq_true (show 65 ≤ c.toNat by omega), Bool.true_and, decide_eq_decide]; omega
  · have h : ¬ (65 : Int) ≤ c.toNat := of_decide_eq_false h
    rw [decide_eq_false (show ¬ 65 ≤ c.toNat by omega)]; rfl
theorem pBlank (c : UInt8) : lex_blank_o (c.toNat : Int) (isB c) := by
  unfold lex_blank_o isB
  refine ⟨fun h => ?_, fun h => ?_⟩
  · have h : (c.toNat : Int) = 32 := by simpa using h
    rw [show c.toNat = 32 by omega]; rfl
  · have h : ¬ (c.toNat : Int) = 32 := by simpa using h
    rw [Bool.eq_iff_iff]; simp; omega
theorem tw_len (f : UInt8 → Bool) (s : Str) : (s.takeWhile f).length ≤ s.length := by
  exact (List.takeWhile_sublist f).length_le
theorem bAt_drop {s : Str} {p : Nat} : (s.drop ((p : Nat) : Int).toNat).take ((s.length : Int).toNat - ((p : Nat) : Int).toNat) = s.drop p := by
  rw [Int.toNat_natCast, Int.toNat_natCast]
  exact List.take_of_length_le (by rw [List.length_drop]; omega)
theorem q39 : bAt ([39] : Str) (0 : Int) = 39 := rfl
theorem bAt39 {s : Str} {i : Nat} (h : i < s.length) : (bAt s (i : Int) == 39) = (s[i] == 39) := by
  rw [bAt_nat h, Bool.eq_iff_iff, beq_iff_eq, beq_iff_eq]
  constructor
  · intro e; exact UInt8.toNat_inj.1 (by show s[i].toNat = 39; omega)
  · rintro e; rw [e]; rfl
/-- texts -/
theorem pText {s : Str} (h : s.length ≤ 100000) : ∃ t n e, lex_text_o s t n e ∧ (e = 0 → 1 ≤ n ∧ n ≤ s.length) := by
  have step : ∀ (x : Int) (y : List Int), (∃ i : Nat, x = i ∧ 1 ≤ i ∧ y.length ≤ i ∧ i ≤ s.length + 2) → (∃ r : Str × Int × Int, (r.2.2 = 0 → 1 ≤ r.2.1 ∧ r.2.1 ≤ s.length) ∧ ∀ X, lex_text_L1i s r.1 r.2.1 r.2.2 X x y) ∨ ∃ (x' : Int) (y' : List Int), (∃ i : Nat, x' = i ∧ 1 ≤ i ∧ y'.length ≤ i ∧ i ≤ s.length + 2) ∧ s.length + 2 - x'.toNat < s.length + 2 - x.toNat ∧ ∀ (r : Str × Int × Int) X, X x' y' → lex_text_L1i s r.1 r.2.1 r.2.2 X x y := by
    rintro x y ⟨i, rfl, h1, h2, h3⟩
    by_cases hi : i < s.length
    · have c : decide ((i : Int) < s.length) = true := decide_eq_true (by omega)
      have wi := w1 (i := i) (by omega)
      by_cases h39 : s[i] = 39
      · by_cases hn : i + 1 < s.length ∧ s[i + 1]? = some 39
        · refine .inr ⟨((i + 2 : Nat) : Int), y ++ [bAt s i], ⟨i + 2, rfl, by omega, by simp; omega, by omega⟩, by omega, fun r X hX => ?_⟩
          have e39 : s[i + 1]'hn.1 = 39 := by
            have := hn.2; rw [List.getElem?_eq_getElem hn.1] at this; exact Option.some.inj this
          unfold lex_text_L1i
          rw [c, wi, q39, bAt39 hi, h39]
          refine cT ⟨⟨by omega, by omega⟩, ⟨by omega, by decide⟩, cF ?_⟩
          rw [decide_eq_true (show ((i + 1 : Nat) : Int) < s.length by omega), bAt39 hn.1, e39]
          refine cT ⟨⟨by omega, by omega⟩, ⟨by omega, by decide⟩, ?_⟩
          unfold lex_text_J2i
          refine cT ⟨⟨by omega, by omega⟩, by omega, ?_⟩
          rw [wi, w1 (i := i + 1) (by omega)]; exact hX
        · have ex : ∃ r : Str × Int × Int, (r.2.2 = 0 → 1 ≤ r.2.1 ∧ r.2.1 ≤ s.length) ∧ ∀ X, lex_text_J2i X s r.1 r.2.1 r.2.2 i false y := by
            by_cases hl : 64 < y.length
            · refine ⟨([], 0, 8), fun q => (by cases q), fun X => cF ?_⟩
              rw [decide_eq_true (show (64 : Int) < y.length by omega)]
              exact cT ⟨rfl, rfl, rfl⟩
            · refine ⟨(y.map toB, ((i + 1 : Nat) : Int), 0), fun _ => ⟨by show (1 : Int) ≤ ((i + 1 : Nat) : Int); omega, by show ((i + 1 : Nat) : Int) ≤ _; omega⟩, fun X => cF ?_⟩
              rw [decide_eq_false (show ¬ (64 : Int) < y.length by omega)]
              exact cF ⟨rfl, wi, rfl⟩
          obtain ⟨r, g, k⟩ := ex
          refine .inl ⟨r, g, fun X => ?_⟩
          unfold lex_text_L1i
          rw [c, wi, q39, bAt39 hi, h39]
          refine cT ⟨⟨by omega, by omega⟩, ⟨by omega, by decide⟩, cF ?_⟩
          by_cases hj : i + 1 < s.length
          · have e39 : (s[i + 1] == 39) = false := by
              rw [beq_eq_false_iff_ne]; intro e
              exact hn ⟨hj, by rw [List.getElem?_eq_getElem hj, e]⟩
            rw [decide_eq_true (show ((i + 1 : Nat) : Int) < s.length by omega), bAt39 hj, e39]
            exact cT ⟨⟨by omega, by omega⟩, ⟨by omega, by decide⟩, k X⟩
          · rw [decide_eq_false (show ¬ ((i + 1 : Nat) : Int) < s.length by omega)]
            exact cF (k X)
      · refine .inr ⟨((i + 1 : Nat) : Int), y ++ [bAt s i], ⟨i + 1, rfl, by omega, by simp; omega, by omega⟩, by omega, fun r X hX => ?_⟩
        unfold lex_text_L1i
        rw [c, wi, q39, bAt39 hi, show (s[i] == 39) = false by rw [beq_eq_false_iff_ne]; exact h39]
        exact cT ⟨⟨by omega, by omega⟩, ⟨by omega, by decide⟩, cT ⟨⟨by omega, by omega⟩, by omega, hX⟩⟩
    · refine .inl ⟨([], 0, 4), fun q => (by cases q), fun X => ?_⟩
      unfold lex_text_L1i
      rw [decide_eq_false (show ¬ (i : Int) < s.length by omega)]
      exact cF ⟨rfl, rfl, rfl⟩
  obtain ⟨r, g, k⟩ := ex2 (L := fun r : Str × Int × Int => lex_text_L1i s r.1 r.2.1 r.2.2) (fun (x : Int) (y : List Int) => ∃ i : Nat, x = i ∧ 1 ≤ i ∧ y.length ≤ i ∧ i ≤ s.length + 2) (fun (x : Int) (_ : List Int) => s.length + 2 - x.toNat) (fun r => r.2.2 = 0 → 1 ≤ r.2.1 ∧ r.2.1 ≤ s.length) step (a := 1) (b := []) ⟨1, rfl, by omega, by simp, by omega⟩
  exact ⟨r.1, r.2.1, r.2.2, lex_text_i _ _ _ _ k, g⟩
/-- numbers -/
theorem parseM (M : Nat) : ∀ (l : Str) (acc : Nat), (∀ c ∈ l, isD c = true) → (∃ v, Go.Lib.parseUintM M acc l = .ok v) ∨ Go.Lib.parseUintM M acc l = .range := by
  intro l
  induction l with
  | nil => intro acc _; exact .inl ⟨acc, rfl⟩
  | cons c l ih =>
    intro acc h
    have hc := h c (by simp)
    simp only [isD, Bool.and_eq_true, decide_eq_true_eq] at hc
    unfold Go.Lib.parseUintM
    rw [if_pos hc]
    split
    · exact .inr rfl
    · split
      · exact .inr rfl
      · exact ih _ fun d hd => h d (List.mem_cons_of_mem _ hd)
theorem parseI {l : Str} (h : ∀ c ∈ l, isD c = true) (hn : l ≠ []) : (∃ v, Go.Lib.parseIntB 64 l = .ok v) ∨ Go.Lib.parseIntB 64 l = .range := by
  cases l with
  | nil => exact absurd rfl hn
  | cons c r =>
    have hc := h c (by simp)
    simp only [isD, Bool.and_eq_true, decide_eq_true_eq] at hc
    unfold Go.Lib.parseIntB
    have n1 : ¬ (c.toNat = 43 ∨ c.toNat = 45) := by omega
    have n2 : ¬ c.toNat = 45 := by omega
    simp only [if_neg n1]
    have hu : Go.Lib.parseUintB 64 (c :: r) = Go.Lib.parseUintM (2 ^ 64 - 1) 0 (c :: r) := by
      unfold Go.Lib.parseUintB; rw [if_neg (by simp)]
    rcases parseM (2 ^ 64 - 1) (c :: r) 0 h with ⟨v, hv⟩ | hv
    · rw [hu, hv]
      simp only
      split
      · exact .inr rfl
      · split
        · exact .inr rfl
        · exact .inl ⟨_, rfl⟩
    · rw [hu, hv]; exact .inr rfl
theorem pNumber {w : Str} (h : ∀ c ∈ w, isD c = true) (hn : w ≠ []) (hl : w.length ≤ 100000) : ∃ t n e, lex_number_o w t n e ∧ (e = 0 → n = w.length ∧ t.Kind = 3) := by
  rcases parseI h hn with ⟨v, hv⟩ | hv
  · by_cases h19 : w.length ≤ 19
    · exact ⟨⟨3, w, v, 0⟩, w.length, 0, ⟨by omega, .inl ⟨v, hv, h19, rfl, rfl, rfl, rfl, rfl, rfl⟩⟩, fun _ => ⟨rfl, rfl⟩⟩
    · exact ⟨tok0, 0, 8, ⟨by omega, .inr ⟨.inl ⟨v, hv, by omega⟩, rfl, rfl, rfl, rfl, rfl, rfl⟩⟩, fun q => (by cases q)⟩
  · exact ⟨tok0, 0, 8, ⟨by omega, .inr ⟨.inr hv, rfl, rfl, rfl, rfl, rfl, rfl⟩⟩, fun q => (by cases q)⟩
theorem pWord (k : Int) (w : Str) : ∃ t n e, lex_word_o k w t n e ∧ (e = 0 → n = w.length ∧ t = ⟨k, w, 0, 0⟩ ∧ w.length ≤ 16) := by
  by_cases h : 16 < w.length
  · refine ⟨tok0, 0, 8, ?_, fun q => (by cases q)⟩
    unfold lex_word_o
    rw [decide_eq_true (show (16 : Int) < w.length by omega)]
    exact cT ⟨rfl, rfl, rfl⟩
  · refine ⟨⟨k, w, 0, 0⟩, w.length, 0, ?_, fun _ => ⟨rfl, rfl, by omega⟩⟩
    unfold lex_word_o
    rw [decide_eq_false (show ¬ (16 : Int) < w.length by omega)]
    exact cF ⟨rfl, rfl, rfl⟩
theorem pPrefix (s p : Str) : strings_HasPrefix_o s p (decide (p.length ≤ s.length) && s.take p.length == p) := by
  refine ⟨_, ?_, rfl⟩
  unfold internal_stringslite_HasPrefix_o
  by_cases h : p.length ≤ s.length
  · rw [decide_eq_true (show (p.length : Int) ≤ s.length by omega), decide_eq_true h]
    refine cT ⟨⟨by omega, by omega, by omega⟩, ?_⟩
    rw [Int.toNat_natCast]; simp
  · rw [decide_eq_false (show ¬ (p.length : Int) ≤ s.length by omega), decide_eq_false h]
    exact cF rfl
end Go.Proofs.YteoohihaibgplaaDoor
