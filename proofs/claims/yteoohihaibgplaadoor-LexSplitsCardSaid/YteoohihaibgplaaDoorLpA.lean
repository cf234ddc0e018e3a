import Derived.Test.YteoohihaibgplaaDoorLa
import Derived.Test.YteoohihaibgplaaDoorPl
namespace Go.Proofs.YteoohihaibgplaaDoor
open Go.AV Go.RowKit

theorem bAt_nat {s : Str} {i : Nat} (h : i < s.length) : bAt s (i : Int) = (s[i].toNat : Int) := by
  unfold bAt
  rw [Int.toNat_natCast, List.getElem?_eq_getElem h]; rfl
theorem w1 {i : Nat} (h : i < 1000000000) : IntKind.i64.wrap ((i : Int) + 1) = ((i + 1 : Nat) : Int) := by rw [wrap64 (by omega) (by omega)]; omega
theorem gAt {α : Type} {l : List α} {i : Nat} (h : i < l.length) : l[((i : Nat) : Int).toNat]? = some l[i] := by rw [Int.toNat_natCast]; exact List.getElem?_eq_getElem h
def isS (c : UInt8) : Bool := decide (97 ≤ c.toNat) && decide (c.toNat ≤ 122)
def isD (c : UInt8) : Bool := decide (48 ≤ c.toNat) && decide (c.toNat ≤ 57)
def isR (c : UInt8) : Bool := isS c || (isD c || c.toNat == 95)
theorem pSmall (c : UInt8) : lex_small_o (c.toNat : Int) (isS c) := by
  unfold lex_small_o isS
  refine ⟨fun h => ?_, fun h => ?_⟩
  · have h : (97 : Int) ≤ c.toNat := of_decide_eq_true h
    rw [decide_eq_true (show 97 ≤ c.toNat by omega), Bool.true_and, decide_eq_decide]; omega
  · have h : ¬ (97 : Int) ≤ c.toNat := of_decide_eq_false h
    rw [decide_eq_false (show ¬ 97 ≤ c.toNat by omega)]; rfl
theorem pDigit (c : UInt8) : lex_digit_o (c.toNat : Int) (isD c) := by
  unfold lex_digit_o isD
  refine ⟨fun h => ?_, fun h => ?_⟩
  · have h : (48 : Int) ≤ c.toNat := of_decide_eq_true h
    rw [decide_eq_true (show 48 ≤ c.toNat by omega), Bool.true_and, decide_eq_decide]; omega
  · have h : ¬ (48 : Int) ≤ c.toNat := of_decide_eq_false h
    rw [decide_eq_false (show ¬ 48 ≤ c.toNat by omega)]; rfl
theorem pRest (c : UInt8) : lex_rest_o (c.toNat : Int) (isR c) := by
  refine ⟨_, pSmall c, fun h => ?_, fun h => ⟨_, pDigit c, fun k => ?_, fun k => ?_⟩⟩
  · simp [isR, h]
  · simp [isR, k]
  · unfold isR
    rw [h, k, Bool.eq_iff_iff]; simp; omega
theorem pSpanG {g : Int → Bool → Prop} {f : UInt8 → Bool} (hg : ∀ c : UInt8, g (c.toNat : Int) (f c)) (s : Str) (h : s.length ≤ 100000) : lex_span_o s g (s.takeWhile f) := by
  apply lex_span_i
  refine lp1 (fun (x : Int) => ∃ k : Nat, x = k ∧ k ≤ s.length ∧ s.takeWhile f = s.take k ++ (s.drop k).takeWhile f) (fun (x : Int) => s.length - x.toNat) ?_ ⟨0, rfl, by omega, by simp⟩
  rintro X0 x ⟨k, rfl, h1, he⟩ hX
  have stop : (s.drop k).takeWhile f = [] → lex_span_J2i X0 s (s.takeWhile f) k false := by
    intro hw
    refine ⟨fun q => (by cases q), fun _ => ⟨⟨by omega, by omega, by omega⟩, ?_⟩⟩
    rw [he, hw, Int.toNat_natCast]; simp
  simp only [lex_span_L1i]
  refine ⟨fun c => ?_, fun c => ?_⟩
  · have c : (k : Int) < s.length := of_decide_eq_true c
    have hk : k < s.length := by omega
    refine ⟨⟨by omega, c⟩, f s[k], by rw [bAt_nat hk]; exact hg _, ?_⟩
    cases hr : f s[k] with
    | true =>
      refine ⟨fun _ => ?_, fun q => (by cases q)⟩
      rw [w1 (by omega)]
      refine hX _ ⟨k + 1, rfl, by omega, ?_⟩ (by omega)
      rw [he, List.drop_eq_getElem_cons hk, List.takeWhile_cons, hr, List.take_succ_eq_append_getElem hk, List.append_assoc]
      rfl
    | false =>
      refine stop ?_
      rw [List.drop_eq_getElem_cons hk, List.takeWhile_cons, hr]; rfl
  · have c : ¬ (k : Int) < s.length := of_decide_eq_false c
    refine stop ?_
    rw [List.drop_of_length_le (by omega)]; rfl
theorem pSpan (s : Str) (h : s.length ≤ 100000) : lex_span_o s lex_rest_o (s.takeWhile isR) := pSpanG pRest s h
def sLex (s : Str) : Bool := match s with
  | [] => false
  | c :: r => decide ((c :: r).length ≤ 16) && (isS c && (c :: r).all isR)
theorem tw_all {s : Str} : (s.takeWhile isR == s) = s.all isR := by
  induction s with
  | nil => rfl
  | cons c s ih =>
    rw [List.takeWhile_cons]
    cases h : isR c with
    | true => simp [h, ← ih]
    | false => simp [h]
theorem pLex (s : Str) : lex_Good_o s (sLex s) := by
  cases s with
  | nil => exact ⟨fun q => (by simp at q), fun _ => rfl⟩
  | cons c r =>
    refine ⟨fun _ => ⟨fun h => ⟨⟨by omega, by simp⟩, _, pSmall c, fun k => ⟨_, pSpan (c :: r) ?_, ?_⟩, fun k => ?_⟩, fun h => ?_⟩, fun q => (by simp at q)⟩
    · have h : ((c :: r).length : Int) ≤ 16 := of_decide_eq_true h
      omega
    · have h : ((c :: r).length : Int) ≤ 16 := of_decide_eq_true h
      rw [tw_all]
      simp only [sLex, k, Bool.true_and]
      rw [decide_eq_true (show (c :: r).length ≤ 16 by omega), Bool.true_and]
    · simp only [sLex, k, Bool.false_and, Bool.and_false]
    · have h : ¬ ((c :: r).length : Int) ≤ 16 := of_decide_eq_false h
      simp only [sLex]
      rw [decide_eq_false (show ¬ (c :: r).length ≤ 16 by omega)]; rfl
theorem cT {p q : Prop} (h : p) : cnd true p q := ⟨fun _ => h, fun e => by cases e⟩
theorem cF {p q : Prop} (h : q) : cnd false p q := ⟨fun e => (by cases e), fun _ => h⟩
theorem tw {f : UInt8 → Bool} {s u : Str} (hs : ∀ c ∈ s, f c = true) (hu : ∀ c r, u = c :: r → f c = false) : (s ++ u).takeWhile f = s ∧ (s ++ u).dropWhile f = u := by
  induction s with
  | nil =>
    cases u with
    | nil => exact ⟨rfl, rfl⟩
    | cons c r =>
      have := hu c r rfl
      simp [List.takeWhile_cons, List.dropWhile_cons, this]
  | cons d s ih =>
    have hd := hs d (by simp)
    obtain ⟨a, b⟩ := ih (fun c hc => hs c (List.mem_cons_of_mem _ hc))
    simp [List.takeWhile_cons, List.dropWhile_cons, hd, a, b]
theorem sLex_ok {s : Str} (h : sLex s = true) : ∃ c r, s = c :: r ∧ isS c = true ∧ ∀ d ∈ s, isR d = true := by
  cases s with
  | nil => cases h
  | cons c r =>
    simp only [sLex, Bool.and_eq_true] at h
    exact ⟨c, r, rfl, h.2.1, List.all_eq_true.1 h.2.2⟩
theorem isS_no {c : UInt8} (h : isS c = true) : c ≠ 40 ∧ c ≠ 39 ∧ isD c = false ∧ c ≠ 42 ∧ c ≠ 45 ∧ c ≠ 78 := by
  simp only [isS, Bool.and_eq_true, decide_eq_true_eq] at h
  refine ⟨?_, ?_, ?_, ?_, ?_, ?_⟩
  · rintro rfl; exact absurd h.1 (by decide)
  · rintro rfl; exact absurd h.1 (by decide)
  · unfold isD
    rw [decide_eq_false (show ¬ c.toNat ≤ 57 by omega), Bool.and_false]
  · rintro rfl; exact absurd h.1 (by decide)
  · rintro rfl; exact absurd h.1 (by decide)
  · rintro rfl; exact absurd h.1 (by decide)
theorem isD_no {c : UInt8} (h : isD c = true) : c ≠ 40 ∧ c ≠ 39 ∧ c ≠ 42 ∧ c ≠ 45 ∧ c ≠ 78 := by
  simp only [isD, Bool.and_eq_true, decide_eq_true_eq] at h
  refine ⟨?_, ?_, ?_, ?_, ?_⟩
  · rintro rfl; exact absurd h.1 (by decide)
  · rintro rfl; exact absurd h.1 (by decide)
  · rintro rfl; exact absurd h.1 (by decide)
  · rintro rfl; exact absurd h.1 (by decide)
  · rintro rfl; exact absurd h.2 (by decide)
/-- how a shown one begins -/
def sClass (c : Int) : Int := if 97 ≤ c ∧ c ≤ 122 then 1 else if 65 ≤ c ∧ c ≤ 90 then 2 else if 48 ≤ c ∧ c ≤ 57 then 3 else if c = 95 then 4 else if c = 39 then 5 else if c = 32 ∨ c = 10 then 6 else 0
theorem pClass (c : Int) : ref14_class_o c (sClass c) := by
  apply ref14_class_i
  simp only [ref14_class_oi, ref14_class_J1i, ref14_class_J2i, ref14_class_J3i, ref14_class_J4i]
  grind [sClass, cnd]
abbrev Tok := T_lex_Token
def tok0 : Tok := ⟨0, [], 0, 0⟩
/-- loops that end: whichever the result -/
theorem ex2 {α β ρ : Type} {L : ρ → (α → β → Prop) → α → β → Prop} (I : α → β → Prop) (m : α → β → Nat) (G : ρ → Prop)
    (step : ∀ a b, I a b → (∃ r, G r ∧ ∀ X, L r X a b) ∨ ∃ a' b', I a' b' ∧ m a' b' < m a b ∧ ∀ r X, X a' b' → L r X a b) {a : α} {b : β} (h : I a b) : ∃ r, G r ∧ ∀ X : α → β → Prop, (∀ x y, L r X x y → X x y) → X a b := by
  have key : ∀ n a b, I a b → m a b = n → ∃ r, G r ∧ ∀ X : α → β → Prop, (∀ x y, L r X x y → X x y) → X a b := by
    intro n
    induction n using Nat.strongRecOn with
    | _ n ih =>
      intro a b h hm
      rcases step a b h with ⟨r, h1, h2⟩ | ⟨a', b', h1, h2, h3⟩
      · exact ⟨r, h1, fun X hX => hX _ _ (h2 X)⟩
      · obtain ⟨r, g, k⟩ := ih (m a' b') (by omega) a' b' h1 rfl
        exact ⟨r, g, fun X hX => hX _ _ (h3 r X (k X hX))⟩
  exact key _ a b h rfl
theorem ex1 {α ρ : Type} {L : ρ → (α → Prop) → α → Prop} (I : α → Prop) (m : α → Nat) (G : ρ → Prop)
    (step : ∀ a, I a → (∃ r, G r ∧ ∀ X, L r X a) ∨ ∃ a', I a' ∧ m a' < m a ∧ ∀ r X, X a' → L r X a) {a : α} (h : I a) : ∃ r, G r ∧ ∀ X : α → Prop, (∀ x, L r X x → X x) → X a := by
  have key : ∀ n a, I a → m a = n → ∃ r, G r ∧ ∀ X : α → Prop, (∀ x, L r X x → X x) → X a := by
    intro n
    induction n using Nat.strongRecOn with
    | _ n ih =>
      intro a h hm
      rcases step a h with ⟨r, h1, h2⟩ | ⟨a', h1, h2, h3⟩
      · exact ⟨r, h1, fun X hX => hX _ (h2 X)⟩
      · obtain ⟨r, g, k⟩ := ih (m a') (by omega) a' h1 rfl
        exact ⟨r, g, fun X hX => hX _ (h3 r X (k X hX))⟩
  exact key _ a h rfl
def isU (c : UInt8) : Bool := decide (65 ≤ c.toNat) && decide (c.toNat ≤ 90)
def isB (c : UInt8) : Bool := c.toNat == 32 || c.toNat == 10
theorem pGreat (c : UInt8) : lex_great_o (c.toNat : Int) (isU c) := by
  unfold lex_great_o isU
  refine ⟨fun h => ?_, fun h => ?_⟩
  · have h : (65 : Int) ≤ c.toNat := of_decide_eq_true h
    rw [decide_eq_true (show 65 ≤ c.toNat by omega), Bool.true_and, decide_eq_decide]; omega
  · have h : ¬ (65 : Int) ≤ c.toNat := of_decide_eq_false h
    rw [decide_eq_false (show ¬ 65 ≤ c.toNat by omega)]; rfl
theorem pBlank (c : UInt8) : lex_blank_o (c.toNat : Int) (isB c) := by
  unfold lex_blank_o isB
  refine ⟨fun h => ?_, fun h => ?_⟩
  · have h : (c.toNat : Int) = 32 := by simpa using h
    rw [show c.toNat = 32 by omega]; rfl
  · have h : ¬ (c.toNat : Int) = 32 := by simpa using h
    rw [Bool.eq_iff_iff]; simp; omega
theorem tw_len (f : UInt8 → Bool) (s : Str) : (s.takeWhile f).length ≤ s.length := by
  exact (List.takeWhile_sublist f).length_le
theorem bAt_drop {s : Str} {p : Nat} : (s.drop ((p : Nat) : Int).toNat).take ((s.length : Int).toNat - ((p : Nat) : Int).toNat) = s.drop p := by
  rw [Int.toNat_natCast, Int.toNat_natCast]
  exact List.take_of_length_le (by rw [List.length_drop]; omega)
theorem q39 : bAt ([39] : Str) (0 : Int) = 39 := rfl
theorem bAt39 {s : Str} {i : Nat} (h : i < s.length) : (bAt s (i : Int) == 39) = (s[i] == 39) := by
  rw [bAt_nat h, Bool.eq_iff_iff, beq_iff_eq, beq_iff_eq]
  constructor
  · intro e; exact UInt8.toNat_inj.1 (by show s[i].toNat = 39; omega)
  · rintro e; rw [e]; rfl
/-- texts -/
theorem pText {s : Str} (h : s.length ≤ 100000) : ∃ t n e, lex_text_o s t n e ∧ (e = 0 → 1 ≤ n ∧ n ≤ s.length) := by
  have step : ∀ (x : Int) (y : List Int), (∃ i : Nat, x = i ∧ 1 ≤ i ∧ y.length ≤ i ∧ i ≤ s.length + 2) → (∃ r : Str × Int × Int, (r.2.2 = 0 → 1 ≤ r.2.1 ∧ r.2.1 ≤ s.length) ∧ ∀ X, lex_text_L1i s r.1 r.2.1 r.2.2 X x y) ∨ ∃ (x' : Int) (y' : List Int), (∃ i : Nat, x' = i ∧ 1 ≤ i ∧ y'.length ≤ i ∧ i ≤ s.length + 2) ∧ s.length + 2 - x'.toNat < s.length + 2 - x.toNat ∧ ∀ (r : Str × Int × Int) X, X x' y' → lex_text_L1i s r.1 r.2.1 r.2.2 X x y := by
    rintro x y ⟨i, rfl, h1, h2, h3⟩
    by_cases hi : i < s.length
    · have c : decide ((i : Int) < s.length) = true := decide_eq_true (by omega)
      have wi := w1 (i := i) (by omega)
      by_cases h39 : s[i] = 39
      · by_cases hn : i + 1 < s.length ∧ s[i + 1]? = some 39
        · refine .inr ⟨((i + 2 : Nat) : Int), y ++ [bAt s i], ⟨i + 2, rfl, by omega, by simp; omega, by omega⟩, by omega, fun r X hX => ?_⟩
          have e39 : s[i + 1]'hn.1 = 39 := by
            have := hn.2; rw [List.getElem?_eq_getElem hn.1] at this; exact Option.some.inj this
          unfold lex_text_L1i
          rw [c, wi, q39, bAt39 hi, h39]
          refine cT ⟨⟨by omega, by omega⟩, ⟨by omega, by decide⟩, cF ?_⟩
          rw [decide_eq_true (show ((i + 1 : Nat) : Int) < s.length by omega), bAt39 hn.1, e39]
          refine cT ⟨⟨by omega, by omega⟩, ⟨by omega, by decide⟩, ?_⟩
          unfold lex_text_J2i
          refine cT ⟨⟨by omega, by omega⟩, by omega, ?_⟩
          rw [wi, w1 (i := i + 1) (by omega)]; exact hX
        · have ex : ∃ r : Str × Int × Int, (r.2.2 = 0 → 1 ≤ r.2.1 ∧ r.2.1 ≤ s.length) ∧ ∀ X, lex_text_J2i X s r.1 r.2.1 r.2.2 i false y := by
            by_cases hl : 64 < y.length
            · refine ⟨([], 0, 8), fun q => (by cases q), fun X => cF ?_⟩
              rw [decide_eq_true (show (64 : Int) < y.length by omega)]
              exact cT ⟨rfl, rfl, rfl⟩
            · refine ⟨(y.map toB, ((i + 1 : Nat) : Int), 0), fun _ => ⟨by show (1 : Int) ≤ ((i + 1 : Nat) : Int); omega, by show ((i + 1 : Nat) : Int) ≤ _; omega⟩, fun X => cF ?_⟩
              rw [decide_eq_false (show ¬ (64 : Int) < y.length by omega)]
              exact cF ⟨rfl, wi, rfl⟩
          obtain ⟨r, g, k⟩ := ex
          refine .inl ⟨r, g, fun X => ?_⟩
          unfold lex_text_L1i
          rw [c, wi, q39, bAt39 hi, h39]
          refine cT ⟨⟨by omega, by omega⟩, ⟨by omega, by decide⟩, cF ?_⟩
          by_cases hj : i + 1 < s.length
          · have e39 : (s[i + 1] == 39) = false := by
              rw [beq_eq_false_iff_ne]; intro e
              exact hn ⟨hj, by rw [List.getElem?_eq_getElem hj, e]⟩
            rw [decide_eq_true (show ((i + 1 : Nat) : Int) < s.length by omega), bAt39 hj, e39]
            exact cT ⟨⟨by omega, by omega⟩, ⟨by omega, by decide⟩, k X⟩
          · rw [decide_eq_false (show ¬ ((i + 1 : Nat) : Int) < s.length by omega)]
            exact cF (k X)
      · refine .inr ⟨((i + 1 : Nat) : Int), y ++ [bAt s i], ⟨i + 1, rfl, by omega, by simp; omega, by omega⟩, by omega, fun r X hX => ?_⟩
        unfold lex_text_L1i
        rw [c, wi, q39, bAt39 hi, show (s[i] == 39) = false by rw [beq_eq_false_iff_ne]; exact h39]
        exact cT ⟨⟨by omega, by omega⟩, ⟨by omega, by decide⟩, cT ⟨⟨by omega, by omega⟩, by omega, hX⟩⟩
    · refine .inl ⟨([], 0, 4), fun q => (by cases q), fun X => ?_⟩
      unfold lex_text_L1i
      rw [decide_eq_false (show ¬ (i : Int) < s.length by omega)]
      exact cF ⟨rfl, rfl, rfl⟩
  obtain ⟨r, g, k⟩ := ex2 (L := fun r : Str × Int × Int => lex_text_L1i s r.1 r.2.1 r.2.2) (fun (x : Int) (y : List Int) => ∃ i : Nat, x = i ∧ 1 ≤ i ∧ y.length ≤ i ∧ i ≤ s.length + 2) (fun (x : Int) (_ : List Int) => s.length + 2 - x.toNat) (fun r => r.2.2 = 0 → 1 ≤ r.2.1 ∧ r.2.1 ≤ s.length) step (a := 1) (b := []) ⟨1, rfl, by omega, by simp, by omega⟩
  exact ⟨r.1, r.2.1, r.2.2, lex_text_i _ _ _ _ k, g⟩
/-- numbers -/
theorem parseM (M : Nat) : ∀ (l : Str) (acc : Nat), (∀ c ∈ l, isD c = true) → (∃ v, Go.Lib.parseUintM M acc l = .ok v) ∨ Go.Lib.parseUintM M acc l = .range := by
  intro l
  induction l with
  | nil => intro acc _; exact .inl ⟨acc, rfl⟩
  | cons c l ih =>
    intro acc h
    have hc := h c (by simp)
    simp only [isD, Bool.and_eq_true, decide_eq_true_eq] at hc
    unfold Go.Lib.parseUintM
    rw [if_pos hc]
    split
    · exact .inr rfl
    · split
      · exact .inr rfl
      · exact ih _ fun d hd => h d (List.mem_cons_of_mem _ hd)
theorem parseI {l : Str} (h : ∀ c ∈ l, isD c = true) (hn : l ≠ []) : (∃ v, Go.Lib.parseIntB 64 l = .ok v) ∨ Go.Lib.parseIntB 64 l = .range := by
  cases l with
  | nil => exact absurd rfl hn
  | cons c r =>
    have hc := h c (by simp)
    simp only [isD, Bool.and_eq_true, decide_eq_true_eq] at hc
    unfold Go.Lib.parseIntB
    have n1 : ¬ (c.toNat = 43 ∨ c.toNat = 45) := by omega
    have n2 : ¬ c.toNat = 45 := by omega
    simp only [if_neg n1]
    have hu : Go.Lib.parseUintB 64 (c :: r) = Go.Lib.parseUintM (2 ^ 64 - 1) 0 (c :: r) := by
      unfold Go.Lib.parseUintB; rw [if_neg (by simp)]
    rcases parseM (2 ^ 64 - 1) (c :: r) 0 h with ⟨v, hv⟩ | hv
    · rw [hu, hv]
      simp only
      split
      · exact .inr rfl
      · split
        · exact .inr rfl
        · exact .inl ⟨_, rfl⟩
    · rw [hu, hv]; exact .inr rfl
theorem pNumber {w : Str} (h : ∀ c ∈ w, isD c = true) (hn : w ≠ []) (hl : w.length ≤ 100000) : ∃ t n e, lex_number_o w t n e ∧ (e = 0 → n = w.length ∧ t.Kind = 3) := by
  rcases parseI h hn with ⟨v, hv⟩ | hv
  · by_cases h19 : w.length ≤ 19
    · exact ⟨⟨3, w, v, 0⟩, w.length, 0, ⟨by omega, .inl ⟨v, hv, h19, rfl, rfl, rfl, rfl, rfl, rfl⟩⟩, fun _ => ⟨rfl, rfl⟩⟩
    · exact ⟨tok0, 0, 8, ⟨by omega, .inr ⟨.inl ⟨v, hv, by omega⟩, rfl, rfl, rfl, rfl, rfl, rfl⟩⟩, fun q => (by cases q)⟩
  · exact ⟨tok0, 0, 8, ⟨by omega, .inr ⟨.inr hv, rfl, rfl, rfl, rfl, rfl, rfl⟩⟩, fun q => (by cases q)⟩
theorem pWord (k : Int) (w : Str) : ∃ t n e, lex_word_o k w t n e ∧ (e = 0 → n = w.length ∧ t = ⟨k, w, 0, 0⟩ ∧ w.length ≤ 16) := by
  by_cases h : 16 < w.length
  · refine ⟨tok0, 0, 8, ?_, fun q => (by cases q)⟩
    unfold lex_word_o
    rw [decide_eq_true (show (16 : Int) < w.length by omega)]
    exact cT ⟨rfl, rfl, rfl⟩
  · refine ⟨⟨k, w, 0, 0⟩, w.length, 0, ?_, fun _ => ⟨rfl, rfl, by omega⟩⟩
    unfold lex_word_o
    rw [decide_eq_false (show ¬ (16 : Int) < w.length by omega)]
    exact cF ⟨rfl, rfl, rfl⟩
theorem pPrefix (s p : Str) : strings_HasPrefix_o s p (decide (p.length ≤ s.length) && s.take p.length == p) := by
  refine ⟨_, ?_, rfl⟩
  unfold internal_stringslite_HasPrefix_o
  by_cases h : p.length ≤ s.length
  · rw [decide_eq_true (show (p.length : Int) ≤ s.length by omega), decide_eq_true h]
    refine cT ⟨⟨by omega, by omega, by omega⟩, ?_⟩
    rw [Int.toNat_natCast]; simp
  · rw [decide_eq_false (show ¬ (p.length : Int) ≤ s.length by omega), decide_eq_false h]
    exact cF rfl
def sgs : List Str := [[60, 62], [60, 61], [62, 61], [124, 124], [40], [41], [44], [46], [42], [43], [45], [47], [37], [61], [60], [62]]
def pre (s p : Str) : Bool := decide (p.length ≤ s.length) && s.take p.length == p
def sgAt (k : Nat) : Str := (sgs[k]?).getD []
theorem sgAt_pos {k : Nat} (h : k < 16) : 1 ≤ (sgAt k).length := by
  have : k = 0 ∨ k = 1 ∨ k = 2 ∨ k = 3 ∨ k = 4 ∨ k = 5 ∨ k = 6 ∨ k = 7 ∨ k = 8 ∨ k = 9 ∨ k = 10 ∨ k = 11 ∨ k = 12 ∨ k = 13 ∨ k = 14 ∨ k = 15 := by omega
  rcases this with rfl | rfl | rfl | rfl | rfl | rfl | rfl | rfl | rfl | rfl | rfl | rfl | rfl | rfl | rfl | rfl <;> decide
theorem sgStep {s : Str} {k : Nat} (h : k < 16) {t : Tok} {n e : Int} {X : Int → Prop} (hp : pre s (sgAt k) = true → t = ⟨5, sgAt k, 0, 0⟩ ∧ n = (sgAt k).length ∧ e = 0) (hx : pre s (sgAt k) = false → X ((k + 1 : Nat) : Int)) : lex_first_L1i s t n e X k := by
  unfold lex_first_L1i
  rw [decide_eq_true (show (k : Int) < 16 by omega)]
  refine cT ⟨⟨by omega, by omega⟩, pre s (sgAt k), ?_, ?_⟩
  · have := pPrefix s (sgAt k)
    rw [Int.toNat_natCast]; exact this
  · rw [Int.toNat_natCast, w1 (by omega)]
    refine ⟨fun c => ?_, hx⟩
    obtain ⟨rfl, rfl, rfl⟩ := hp c
    exact ⟨rfl, rfl, rfl⟩
theorem pSigns (s : Str) : ∃ r : Tok × Int × Int, (r.2.2 = 0 → 1 ≤ r.2.1 ∧ r.2.1 ≤ s.length ∧ r.1.Kind = 5) ∧ ∀ X1 : Int → Prop, (∀ x, lex_first_L1i s r.1 r.2.1 r.2.2 X1 x → X1 x) → X1 0 := by
  refine ex1 (L := fun r : Tok × Int × Int => lex_first_L1i s r.1 r.2.1 r.2.2) (fun (x : Int) => ∃ k : Nat, x = k ∧ k ≤ 16) (fun (x : Int) => 16 - x.toNat) (fun r => r.2.2 = 0 → 1 ≤ r.2.1 ∧ r.2.1 ≤ s.length ∧ r.1.Kind = 5) ?_ ⟨0, rfl, by omega⟩
  rintro x ⟨k, rfl, hk⟩
  by_cases h : k < 16
  · cases hp : pre s (sgAt k) with
    | true =>
      have hle : (sgAt k).length ≤ s.length := by
        simp only [pre, Bool.and_eq_true, decide_eq_true_eq] at hp; exact hp.1
      have := sgAt_pos h
      exact .inl ⟨(⟨5, sgAt k, 0, 0⟩, (sgAt k).length, 0), fun _ => ⟨by show (1 : Int) ≤ (sgAt k).length; omega, by show ((sgAt k).length : Int) ≤ _; omega, rfl⟩, fun X => sgStep h (fun _ => ⟨rfl, rfl, rfl⟩) (fun q => by rw [hp] at q; cases q)⟩
    | false => exact .inr ⟨((k + 1 : Nat) : Int), ⟨k + 1, rfl, by omega⟩, by omega, fun r X hX => sgStep h (fun q => by rw [hp] at q; cases q) (fun _ => hX)⟩
  · refine .inl ⟨(tok0, 0, 4), fun q => (by cases q), fun X => ?_⟩
    unfold lex_first_L1i
    rw [decide_eq_false (show ¬ (k : Int) < 16 by omega)]
    exact cF ⟨rfl, rfl, rfl⟩
theorem tw_all' (f : UInt8 → Bool) (s : Str) : ∀ c ∈ s.takeWhile f, f c = true := fun c hc => by
  have := List.all_takeWhile (l := s) (p := f)
  exact List.all_eq_true.1 this c hc
theorem isS_R {c : UInt8} (h : isS c = true) : isR c = true := by simp [isR, h]
/-- the first token, whichever -/
theorem pFirst {c : UInt8} {r : Str} (hl : (c :: r).length ≤ 100000) : ∃ t n e, lex_first_o (c :: r) t n e ∧ (e = 0 → 1 ≤ n ∧ n ≤ (c :: r).length ∧ (t.Kind = 1 → sLex t.S = true)) := by
  have b0 : bAt (c :: r) 0 = (c.toNat : Int) := rfl
  have hb : (0 : Int) ≤ 0 ∧ (0 : Int) < ((c :: r).length : Int) := ⟨by omega, by simp⟩
  have wl : ∀ f : UInt8 → Bool, f c = true → 1 ≤ ((c :: r).takeWhile f).length := fun f h => by rw [List.takeWhile_cons, h]; simp
  cases hS : isS c with
  | true =>
    obtain ⟨t, n, e, h1, h2⟩ := pWord 1 ((c :: r).takeWhile isR)
    refine ⟨t, n, e, lex_first_i _ _ _ _ ⟨hb, true, by rw [b0, ← hS]; exact pSmall c, cT ⟨_, pSpan _ hl, t, n, e, h1, rfl, rfl, rfl⟩⟩, fun q => ?_⟩
    obtain ⟨rfl, rfl, h16⟩ := h2 q
    have := wl isR (isS_R hS)
    have := tw_len isR (c :: r)
    refine ⟨by omega, by omega, fun _ => ?_⟩
    have hall := tw_all' isR (c :: r)
    show sLex ((c :: r).takeWhile isR) = true
    have ee : (c :: r).takeWhile isR = c :: r.takeWhile isR := by rw [List.takeWhile_cons, isS_R hS]; rfl
    rw [ee] at h16 hall ⊢
    show (decide ((c :: r.takeWhile isR).length ≤ 16) && (isS c && (c :: r.takeWhile isR).all isR)) = true
    rw [decide_eq_true h16, hS, List.all_eq_true.2 hall]; rfl
  | false =>
    cases hU : isU c with
    | true =>
      obtain ⟨t, n, e, h1, h2⟩ := pWord 2 ((c :: r).takeWhile isU)
      refine ⟨t, n, e, lex_first_i _ _ _ _ ⟨hb, false, by rw [b0, ← hS]; exact pSmall c, cF ⟨true, by rw [b0, ← hU]; exact pGreat c, cT ⟨_, pSpanG pGreat _ hl, t, n, e, h1, rfl, rfl, rfl⟩⟩⟩, fun q => ?_⟩
      obtain ⟨rfl, rfl, h16⟩ := h2 q
      have := wl isU hU
      have := tw_len isU (c :: r)
      exact ⟨by omega, by omega, fun k => by cases k⟩
    | false =>
      cases hD : isD c with
      | true =>
        have hw := wl isD hD
        have hw2 := tw_len isD (c :: r)
        obtain ⟨t, n, e, h1, h2⟩ := pNumber (tw_all' isD (c :: r)) (fun q => by rw [q] at hw; simp at hw) (by omega)
        refine ⟨t, n, e, lex_first_i _ _ _ _ ⟨hb, false, by rw [b0, ← hS]; exact pSmall c, cF ⟨false, by rw [b0, ← hU]; exact pGreat c, cF ⟨true, by rw [b0, ← hD]; exact pDigit c, cT ⟨_, pSpanG pDigit _ hl, t, n, e, h1, rfl, rfl, rfl⟩⟩⟩⟩, fun q => ?_⟩
        obtain ⟨rfl, hk⟩ := h2 q
        exact ⟨by omega, by omega, fun k => by rw [hk] at k; cases k⟩
      | false =>
        cases h39 : (c == 39) with
        | true =>
          obtain ⟨t, n, e, h1, h2⟩ := pText hl
          refine ⟨⟨4, t, 0, 0⟩, n, e, lex_first_i _ _ _ _ ⟨hb, false, by rw [b0, ← hS]; exact pSmall c, cF ⟨false, by rw [b0, ← hU]; exact pGreat c, cF ⟨false, by rw [b0, ← hD]; exact pDigit c, cF ⟨⟨by omega, by decide⟩, ?_⟩⟩⟩⟩, fun q => ⟨(h2 q).1, (h2 q).2, fun k => by cases k⟩⟩
          have e39 : (bAt (c :: r) 0 == bAt ([39] : Str) 0) = true := by
            have : c = 39 := by simpa using h39
            subst this; rfl
          rw [e39]
          exact cT ⟨_, _, _, h1, rfl, rfl, rfl⟩
        | false =>
          obtain ⟨q, g, k⟩ := pSigns (c :: r)
          refine ⟨q.1, q.2.1, q.2.2, lex_first_i _ _ _ _ ⟨hb, false, by rw [b0, ← hS]; exact pSmall c, cF ⟨false, by rw [b0, ← hU]; exact pGreat c, cF ⟨false, by rw [b0, ← hD]; exact pDigit c, cF ⟨⟨by omega, by decide⟩, ?_⟩⟩⟩⟩, fun z => ⟨(g z).1, (g z).2.1, fun k1 => by rw [(g z).2.2] at k1; cases k1⟩⟩
          have e39 : (bAt (c :: r) 0 == bAt ([39] : Str) 0) = false := by
            rw [q39, show bAt (c :: r) (0 : Int) = bAt (c :: r) ((0 : Nat) : Int) from rfl, bAt39 (s := c :: r) (i := 0) (by simp)]; exact h39
          rw [e39]
          exact cF k
def TOK (l : List Tok) : Prop := ∀ t ∈ l, t.Kind = 1 → sLex t.S = true
/-- one step of the split -/
theorem splStep {s : Str} {p n k : Nat} {out : List Tok} {r0 : List Tok} {r1 r2 : Int} {t : Tok} {X : Int → List Tok → Prop} (hp : p < s.length) (hl : s.length ≤ 2000) (ho : out.length ≤ p)
    (h : lex_first_o (s.drop p) t n 0) (hn : n ≤ s.length - p) (hk : ((s.drop (p + n)).takeWhile isB).length = k) (hX : X ((p + n + k : Nat) : Int) (out ++ [⟨t.Kind, t.S, t.N, p⟩])) : lex_Split_L1i s r0 r1 r2 X p out := by
  unfold lex_Split_L1i
  rw [decide_eq_true (show (p : Int) < s.length by omega)]
  have wn : IntKind.i64.wrap ((p : Int) + (n : Int)) = ((p + n : Nat) : Int) := by rw [wrap64 (by omega) (by omega)]; omega
  have hk2 := tw_len isB (s.drop (p + n))
  rw [List.length_drop] at hk2
  refine cT ⟨⟨by omega, by omega, by omega⟩, t, n, 0, by rw [bAt_drop]; exact h, cF ⟨by omega, ⟨by rw [wn]; omega, by rw [wn]; omega, by omega⟩, (s.drop (p + n)).takeWhile isB, ?_, ?_⟩⟩
  · rw [wn, bAt_drop]
    exact pSpanG pBlank _ (by rw [List.length_drop]; omega)
  · rw [wn, hk, wrap64 (n := ((p + n : Nat) : Int) + (k : Int)) (by omega) (by omega)]
    have : ((p + n : Nat) : Int) + (k : Int) = ((p + n + k : Nat) : Int) := by omega
    rw [this]; exact hX
theorem splEnd {s : Str} {p : Nat} {out : List Tok} {X : Int → List Tok → Prop} (hp : s.length ≤ p) : lex_Split_L1i s out 0 0 X p out := by
  unfold lex_Split_L1i
  rw [decide_eq_false (show ¬ (p : Int) < s.length by omega)]
  exact cF ⟨rfl, rfl, rfl⟩
theorem pSplit {s : Str} (hl : s.length ≤ 2000) : ∃ l a e, lex_Split_o s l a e ∧ (e = 0 → TOK l ∧ l.length ≤ 2000) := by
  have step : ∀ (x : Int) (y : List Tok), (∃ p : Nat, x = p ∧ p ≤ s.length ∧ y.length ≤ p ∧ TOK y) → (∃ r : List Tok × Int × Int, (r.2.2 = 0 → TOK r.1 ∧ r.1.length ≤ 2000) ∧ ∀ X, lex_Split_L1i s r.1 r.2.1 r.2.2 X x y) ∨
      ∃ (x' : Int) (y' : List Tok), (∃ p : Nat, x' = p ∧ p ≤ s.length ∧ y'.length ≤ p ∧ TOK y') ∧ s.length - x'.toNat < s.length - x.toNat ∧ ∀ (r : List Tok × Int × Int) X, X x' y' → lex_Split_L1i s r.1 r.2.1 r.2.2 X x y := by
    rintro x y ⟨p, rfl, h1, h2, h3⟩
    by_cases hp : p < s.length
    · have hd : s.drop p = s[p] :: s.drop (p + 1) := List.drop_eq_getElem_cons hp
      obtain ⟨t, n, e, f1, f2⟩ := pFirst (c := s[p]) (r := s.drop (p + 1)) (by rw [← hd, List.length_drop]; omega)
      rw [← hd] at f1 f2
      rw [List.length_drop] at f2
      by_cases he : e = 0
      · subst he
        obtain ⟨g1, g2, g3⟩ := f2 rfl
        have hn : (n.toNat : Int) = n := by omega
        have hk2 := tw_len isB (s.drop (p + n.toNat))
        rw [List.length_drop] at hk2
        refine .inr ⟨((p + n.toNat + ((s.drop (p + n.toNat)).takeWhile isB).length : Nat) : Int), y ++ [⟨t.Kind, t.S, t.N, p⟩], ⟨_, rfl, by omega, by simp; omega, fun u hu => ?_⟩, by omega, fun r X hX => splStep hp hl h2 (by rw [hn]; exact f1) (by omega) rfl hX⟩
        rcases List.mem_append.1 hu with hu | hu
        · exact h3 u hu
        · rw [List.mem_singleton] at hu; subst hu; exact g3
      · refine .inl ⟨([], p, e), fun q => absurd q he, fun X => ?_⟩
        unfold lex_Split_L1i
        rw [decide_eq_true (show (p : Int) < s.length by omega)]
        refine cT ⟨⟨by omega, by omega, by omega⟩, t, n, e, by rw [bAt_drop]; exact f1, ?_⟩
        have : (!(e == 0)) = true := by simpa using he
        rw [this]
        exact cT ⟨rfl, rfl, rfl⟩
    · exact .inl ⟨(y, 0, 0), fun _ => ⟨h3, by show y.length ≤ 2000; omega⟩, fun X => splEnd (by omega)⟩
  have hb := tw_len isB s
  obtain ⟨r, g, k⟩ := ex2 (L := fun r : List Tok × Int × Int => lex_Split_L1i s r.1 r.2.1 r.2.2) (fun (x : Int) (y : List Tok) => ∃ p : Nat, x = p ∧ p ≤ s.length ∧ y.length ≤ p ∧ TOK y) (fun (x : Int) (_ : List Tok) => s.length - x.toNat) (fun r => r.2.2 = 0 → TOK r.1 ∧ r.1.length ≤ 2000) step (a := ((s.takeWhile isB).length : Int)) (b := []) ⟨_, rfl, hb, by simp, fun t ht => by cases ht⟩
  refine ⟨r.1, r.2.1, r.2.2, lex_Split_i _ _ _ _ ?_, g⟩
  unfold lex_Split_oi
  rw [decide_eq_false (show ¬ (2000 : Int) < s.length by omega)]
  exact cF ⟨_, pSpanG pBlank s (by omega), k⟩
end Go.Proofs.YteoohihaibgplaaDoor
