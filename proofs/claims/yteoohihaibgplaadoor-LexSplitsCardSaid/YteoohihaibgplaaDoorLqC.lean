import Derived.Test.YteoohihaibgplaaDoorLqA
namespace Go.Proofs.YteoohihaibgplaaDoor
open Go.AV Go.RowKit

/-! ### numbers -/
def dn (acc : Nat) (l : Str) : Nat := l.foldl (fun a c => a * 10 + (c.toNat - 48)) acc
theorem dn_cons (acc : Nat) (c : UInt8) (l : Str) : dn acc (c :: l) = dn (acc * 10 + (c.toNat - 48)) l := by unfold dn; rw [List.foldl_cons]
theorem dn_snoc (acc : Nat) (c : UInt8) (l : Str) : dn acc (l ++ [c]) = dn acc l * 10 + (c.toNat - 48) := by simp [dn]
theorem dn_ge : ∀ (l : Str) (acc : Nat), acc ≤ dn acc l
  | [], acc => Nat.le_refl _
  | c :: l, acc => by rw [dn_cons]; have := dn_ge l (acc * 10 + (c.toNat - 48)); omega
theorem dn_lt : ∀ (l : Str) (acc : Nat), (∀ c ∈ l, isD c = true) → dn acc l < (acc + 1) * 10 ^ l.length
  | [], acc, _ => by simp [dn]
  | c :: l, acc, h => by
    have hc := h c (by simp)
    simp only [isD, Bool.and_eq_true, decide_eq_true_eq] at hc
    have := dn_lt l (acc * 10 + (c.toNat - 48)) fun d hd => h d (List.mem_cons_of_mem _ hd)
    rw [dn_cons, List.length_cons, Nat.pow_succ]
    have : (acc * 10 + (c.toNat - 48) + 1) * 10 ^ l.length ≤ ((acc + 1) * 10) * 10 ^ l.length := Nat.mul_le_mul_right _ (by omega)
    have e : (acc + 1) * (10 ^ l.length * 10) = ((acc + 1) * 10) * 10 ^ l.length := by rw [Nat.mul_comm (10 ^ l.length) 10, Nat.mul_assoc]
    omega
theorem dn19 {w : Str} (h : ∀ c ∈ w, isD c = true) (hl : w.length ≤ 19) : dn 0 w < 10000000000000000000 := by
  have h1 := dn_lt w 0 h
  have : 10 ^ w.length ≤ 10 ^ 19 := Nat.pow_le_pow_right (by omega) hl
  omega
theorem pM : ∀ (l : Str) (acc : Nat), (∀ c ∈ l, isD c = true) → dn acc l < 18446744073709551616 → Go.Lib.parseUintM (2 ^ 64 - 1) acc l = .ok (dn acc l)
  | [], acc, _, _ => rfl
  | c :: l, acc, h, hb => by
    have hc := h c (by simp)
    simp only [isD, Bool.and_eq_true, decide_eq_true_eq] at hc
    rw [dn_cons] at hb
    have hg := dn_ge l (acc * 10 + (c.toNat - 48))
    unfold Go.Lib.parseUintM
    rw [if_pos hc, if_neg (by omega), if_neg (by omega), pM l _ (fun d hd => h d (List.mem_cons_of_mem _ hd)) hb, dn_cons]
theorem parseF {w : Str} (h : ∀ c ∈ w, isD c = true) (hn : w ≠ []) (hl : w.length ≤ 19) : Go.Lib.parseIntB 64 w = if 9223372036854775807 < dn 0 w then .range else .ok (dn 0 w : Int) := by
  have hb := dn19 h hl
  cases w with
  | nil => exact absurd rfl hn
  | cons c r =>
    have hc := h c (by simp)
    simp only [isD, Bool.and_eq_true, decide_eq_true_eq] at hc
    unfold Go.Lib.parseIntB
    have n1 : ¬ (c.toNat = 43 ∨ c.toNat = 45) := by omega
    have n2 : ¬ c.toNat = 45 := by omega
    simp only [if_neg n1]
    have hu : Go.Lib.parseUintB 64 (c :: r) = .ok (dn 0 (c :: r)) := by
      unfold Go.Lib.parseUintB; rw [if_neg (by simp)]; exact pM _ _ h (by omega)
    rw [hu]
    simp only
    by_cases k : 9223372036854775807 < dn 0 (c :: r)
    · rw [if_pos k, if_pos ⟨n2, by omega⟩]
    · rw [if_neg k, if_neg (fun q => by have := q.2; omega), if_neg (fun q => n2 q.1), if_neg n2]
def numR (w : Str) : Tok × Int × Int := if 19 < w.length then (tok0, 0, 8) else if 9223372036854775807 < dn 0 w then (tok0, 0, 8) else (⟨3, w, dn 0 w, 0⟩, w.length, 0)
theorem pNumF {w : Str} (h : ∀ c ∈ w, isD c = true) (hn : w ≠ []) (hl : w.length ≤ 100000) : lex_number_o w (numR w).1 (numR w).2.1 (numR w).2.2 := by
  unfold numR
  by_cases h19 : 19 < w.length
  · rw [if_pos h19]
    rcases parseI h hn with ⟨v, hv⟩ | hv
    · exact ⟨by omega, .inr ⟨.inl ⟨v, hv, h19⟩, rfl, rfl, rfl, rfl, rfl, rfl⟩⟩
    · exact ⟨by omega, .inr ⟨.inr hv, rfl, rfl, rfl, rfl, rfl, rfl⟩⟩
  · rw [if_neg h19]
    have hp := parseF h hn (by omega)
    by_cases k : 9223372036854775807 < dn 0 w
    · rw [if_pos k] at hp ⊢
      exact ⟨by omega, .inr ⟨.inr hp, rfl, rfl, rfl, rfl, rfl, rfl⟩⟩
    · rw [if_neg k] at hp ⊢
      exact ⟨by omega, .inl ⟨_, hp, by omega, rfl, rfl, rfl, rfl, rfl, rfl⟩⟩
def wordR (k : Int) (w : Str) : Tok × Int × Int := if 16 < w.length then (tok0, 0, 8) else (⟨k, w, 0, 0⟩, w.length, 0)
theorem pWordF (k : Int) (w : Str) : lex_word_o k w (wordR k w).1 (wordR k w).2.1 (wordR k w).2.2 := by
  unfold lex_word_o wordR
  by_cases h : 16 < w.length
  · rw [if_pos h, decide_eq_true (show (16 : Int) < w.length by omega)]
    exact cT ⟨rfl, rfl, rfl⟩
  · rw [if_neg h, decide_eq_false (show ¬ (16 : Int) < w.length by omega)]
    exact cF ⟨rfl, rfl, rfl⟩
def sgR (s : Str) : Tok × Int × Int := (if sg s = [] then tok0 else ⟨5, sg s, 0, 0⟩, if sg s = [] then 0 else (sg s).length, if sg s = [] then 4 else 0)
def fR (c : UInt8) (r : Str) : Tok × Int × Int := if isS c then wordR 1 ((c :: r).takeWhile isR) else if isU c then wordR 2 ((c :: r).takeWhile isU) else if isD c then numR ((c :: r).takeWhile isD) else
  if c == 39 then (⟨4, (txR r).1, 0, 0⟩, (txR r).2.1, (txR r).2.2) else sgR (c :: r)
theorem pFirstF {c : UInt8} {r : Str} (hl : (c :: r).length ≤ 2000) : lex_first_o (c :: r) (fR c r).1 (fR c r).2.1 (fR c r).2.2 := by
  have b0 : bAt (c :: r) 0 = (c.toNat : Int) := rfl
  unfold fR
  cases hS : isS c with
  | true => exact lex_first_i _ _ _ _ ⟨hb0, true, by rw [b0, ← hS]; exact pSmall c, cT ⟨_, pSpan _ (by omega), _, _, _, pWordF 1 _, rfl, rfl, rfl⟩⟩
  | false =>
    cases hU : isU c with
    | true => exact lex_first_i _ _ _ _ ⟨hb0, false, by rw [b0, ← hS]; exact pSmall c, cF ⟨true, by rw [b0, ← hU]; exact pGreat c, cT ⟨_, pSpanG pGreat _ (by omega), _, _, _, pWordF 2 _, rfl, rfl, rfl⟩⟩⟩
    | false =>
      cases hD : isD c with
      | true =>
        have hw : (c :: r).takeWhile isD ≠ [] := by rw [List.takeWhile_cons, hD]; simp
        have hw2 := tw_len isD (c :: r)
        exact lex_first_i _ _ _ _ ⟨hb0, false, by rw [b0, ← hS]; exact pSmall c, cF ⟨false, by rw [b0, ← hU]; exact pGreat c, cF ⟨true, by rw [b0, ← hD]; exact pDigit c, cT ⟨_, pSpanG pDigit _ (by omega), _, _, _, pNumF (tw_all' isD _) hw (by omega), rfl, rfl, rfl⟩⟩⟩⟩
      | false =>
        have e39 : (bAt (c :: r) 0 == bAt ([39] : Str) 0) = (c == 39) := by
          rw [q39, show bAt (c :: r) (0 : Int) = bAt (c :: r) ((0 : Nat) : Int) from rfl, bAt39 (s := c :: r) (i := 0) (by simp)]; rfl
        refine lex_first_i _ _ _ _ ⟨hb0, false, by rw [b0, ← hS]; exact pSmall c, cF ⟨false, by rw [b0, ← hU]; exact pGreat c, cF ⟨false, by rw [b0, ← hD]; exact pDigit c, cF ⟨⟨by omega, by decide⟩, ?_⟩⟩⟩⟩
        rw [e39]
        cases h39 : (c == 39) with
        | true => exact cT ⟨_, _, _, pTextF (s := c :: r) hl (by simp), rfl, rfl, rfl⟩
        | false => exact cF (pSgF (c :: r))
/-! ### tokens that are written and read -/
def WT (t : Tok) : Prop := (t.Kind = 1 ∧ sLex t.S = true ∧ t.N = 0) ∨ (t.Kind = 2 ∧ t.S ≠ [] ∧ (∀ c ∈ t.S, isU c = true) ∧ t.S.length ≤ 16 ∧ t.N = 0) ∨ (t.Kind = 3 ∧ 0 ≤ t.N ∧ t.N ≤ 9223372036854775807) ∨ (t.Kind = 4 ∧ t.S.length ≤ 64 ∧ t.N = 0) ∨ (t.Kind = 5 ∧ t.S ∈ sgs ∧ t.N = 0)
theorem txR_ok {r : Str} (h : (txR r).2.2 = 0) : 1 ≤ (txR r).2.1 ∧ (txR r).2.1 ≤ r.length + 1 ∧ (txR r).1.length ≤ 64 := by
  unfold txR at h ⊢
  cases hq : tx r with
  | none => rw [hq] at h; cases h
  | some q =>
    obtain ⟨t, k⟩ := q
    rw [hq] at h
    have hk := tx_le _ r (Nat.le_refl _) t k hq
    by_cases hl : 64 < t.length
    · simp only [if_pos hl] at h; cases h
    · simp only [if_neg hl]
      exact ⟨by omega, by omega, by omega⟩
theorem fR_ok {c : UInt8} {r : Str} (h : (fR c r).2.2 = 0) : 1 ≤ (fR c r).2.1 ∧ (fR c r).2.1 ≤ (c :: r).length ∧ WT (fR c r).1 := by
  have wl : ∀ f : UInt8 → Bool, f c = true → 1 ≤ ((c :: r).takeWhile f).length := fun f h => by rw [List.takeWhile_cons, h]; simp
  unfold fR at h ⊢
  cases hS : isS c with
  | true =>
    rw [hS] at h
    simp only [if_true] at h ⊢
    unfold wordR at h ⊢
    by_cases h16 : 16 < ((c :: r).takeWhile isR).length
    · rw [if_pos h16] at h; cases h
    · rw [if_neg h16]
      have := wl isR (isS_R hS)
      have := tw_len isR (c :: r)
      refine ⟨by show (1 : Int) ≤ ((c :: r).takeWhile isR).length; omega, by show (((c :: r).takeWhile isR).length : Int) ≤ _; omega, .inl ⟨rfl, ?_, rfl⟩⟩
      have hall := tw_all' isR (c :: r)
      show sLex ((c :: r).takeWhile isR) = true
      have ee : (c :: r).takeWhile isR = c :: r.takeWhile isR := by rw [List.takeWhile_cons, isS_R hS]; rfl
      rw [ee] at h16 hall ⊢
      show (decide ((c :: r.takeWhile isR).length ≤ 16) && (isS c && (c :: r.takeWhile isR).all isR)) = true
      rw [decide_eq_true (by omega), hS, List.all_eq_true.2 hall]; rfl
  | false =>
    rw [hS] at h
    simp only [Bool.false_eq_true, if_false] at h ⊢
    cases hU : isU c with
    | true =>
      rw [hU] at h
      simp only [if_true] at h ⊢
      unfold wordR at h ⊢
      by_cases h16 : 16 < ((c :: r).takeWhile isU).length
      · rw [if_pos h16] at h; cases h
      · rw [if_neg h16]
        have hw := wl isU hU
        have := tw_len isU (c :: r)
        exact ⟨by show (1 : Int) ≤ ((c :: r).takeWhile isU).length; omega, by show (((c :: r).takeWhile isU).length : Int) ≤ _; omega, .inr (.inl ⟨rfl, fun q => by rw [show (c :: r).takeWhile isU = [] from q] at hw; simp at hw, tw_all' isU _, by show ((c :: r).takeWhile isU).length ≤ 16; omega, rfl⟩)⟩
    | false =>
      rw [hU] at h
      simp only [Bool.false_eq_true, if_false] at h ⊢
      cases hD : isD c with
      | true =>
        rw [hD] at h
        simp only [if_true] at h ⊢
        have hw := wl isD hD
        have := tw_len isD (c :: r)
        unfold numR at h ⊢
        by_cases h19 : 19 < ((c :: r).takeWhile isD).length
        · rw [if_pos h19] at h; cases h
        · rw [if_neg h19] at h ⊢
          by_cases k : 9223372036854775807 < dn 0 ((c :: r).takeWhile isD)
          · rw [if_pos k] at h; cases h
          · rw [if_neg k]
            exact ⟨by show (1 : Int) ≤ ((c :: r).takeWhile isD).length; omega, by show (((c :: r).takeWhile isD).length : Int) ≤ _; omega, .inr (.inr (.inl ⟨rfl, by show (0 : Int) ≤ (dn 0 _ : Nat); omega, by show ((dn 0 ((c :: r).takeWhile isD) : Nat) : Int) ≤ _; omega⟩))⟩
      | false =>
        rw [hD] at h
        simp only [Bool.false_eq_true, if_false] at h ⊢
        cases h39 : (c == 39) with
        | true =>
          rw [h39] at h
          simp only [if_true] at h ⊢
          obtain ⟨a1, a2, a3⟩ := txR_ok h
          exact ⟨a1, by rw [List.length_cons]; omega, .inr (.inr (.inr (.inl ⟨rfl, a3, rfl⟩)))⟩
        | false =>
          rw [h39] at h
          simp only [Bool.false_eq_true, if_false] at h ⊢
          unfold sgR at h ⊢
          have hne : ¬ sg (c :: r) = [] := fun q => by simp only [if_pos q] at h; cases h
          have hle := sg_le (c :: r)
          have hpos : 1 ≤ (sg (c :: r)).length := by
            cases hq : sg (c :: r) with
            | nil => exact absurd hq hne
            | cons => simp
          simp only [if_neg hne]
          refine ⟨by omega, by omega, .inr (.inr (.inr (.inr ⟨rfl, ?_, rfl⟩)))⟩
          show sg (c :: r) ∈ sgs
          unfold sg at hne ⊢
          cases hq : sgs.find? (pre (c :: r)) with
          | none => rw [hq] at hne; exact absurd rfl hne
          | some x => exact List.mem_of_find?_eq_some hq
theorem take_tw (f : UInt8 → Bool) (s : Str) : s.take (s.takeWhile f).length = s.takeWhile f := (List.prefix_iff_eq_take.1 (List.takeWhile_prefix f)).symm
theorem slTw {s : Str} {p : Nat} {f : UInt8 → Bool} : (s.drop ((p : Nat) : Int).toNat).take ((((p + ((s.drop p).takeWhile f).length : Nat) : Int)).toNat - ((p : Nat) : Int).toNat) = (s.drop p).takeWhile f := by
  rw [Int.toNat_natCast, Int.toNat_natCast, Nat.add_sub_cancel_left, take_tw]
theorem wAdd {p k : Nat} (h : p + k < 1000000000) : IntKind.i64.wrap ((p : Int) + (k : Int)) = ((p + k : Nat) : Int) := by rw [wrap64 (by omega) (by omega)]; omega
/-- the document's step -/
theorem refStep {s : Str} {p : Nat} {out : List T14} {r0 : List T14} {r1 r2 : Int} {X : Int → List T14 → Prop} (hp : p < s.length) (hl : s.length ≤ 2000) (ho : out.length ≤ 2000) (hb : isB s[p] = false)
    (hE : (fR s[p] (s.drop (p + 1))).2.2 ≠ 0 → ([] = r0 ∧ (p : Int) = r1 ∧ (fR s[p] (s.drop (p + 1))).2.2 = r2))
    (hG : (fR s[p] (s.drop (p + 1))).2.2 = 0 → X ((p : Int) + (fR s[p] (s.drop (p + 1))).2.1) (out ++ [⟨(fR s[p] (s.drop (p + 1))).1.Kind, (fR s[p] (s.drop (p + 1))).1.S, (fR s[p] (s.drop (p + 1))).1.N, p⟩])) : ref14_Split_L1i s r0 r1 r2 X p out := by
  have hd : s.drop p = s[p] :: s.drop (p + 1) := List.drop_eq_getElem_cons hp
  have hdl : (s.drop p).length = s.length - p := List.length_drop
  unfold ref14_Split_L1i
  rw [decide_eq_true (show (p : Int) < s.length by omega)]
  refine cT ⟨⟨by omega, by omega⟩, _, pClass _, ?_⟩
  rw [bAt_nat hp]
  have j2 : ∀ (n : Nat) (k : Int) (w : Str) (v : Int), p + n ≤ s.length → X ((p : Int) + (n : Int)) (out ++ [⟨k, w, v, p⟩]) → ref14_Split_J2i X p n k w v p out := by
    intro n k w v hn hx
    unfold ref14_Split_J2i
    rw [wAdd (by omega)]
    refine ⟨by omega, ?_⟩
    have : ((p : Int) + (n : Int)) = ((p + n : Nat) : Int) := by omega
    rw [← this]; exact hx
  have c6 : (sClass (s[p].toNat : Int) == 6) = false := by
    rw [beq_eq_false_iff_ne]; intro e; rw [clsB.1 e] at hb; cases hb
  rw [c6]
  refine cF ?_
  unfold fR at hE hG
  cases hS : isS s[p] with
  | true =>
    rw [hS] at hE hG
    simp only [if_true] at hE hG
    rw [← hd] at hE hG
    have ht := tw_len isR (s.drop p)
    rw [hdl] at ht
    have c1 : (sClass (s[p].toNat : Int) == 1) = true := by rw [cls.1.2 hS]; rfl
    rw [c1]
    refine cT ⟨_, pRun (f := isR) (fun c => cls.2.symm) (by omega) hl, ?_⟩
    rw [wAdd (by omega)]
    refine ⟨⟨by omega, by omega, by omega⟩, ?_⟩
    unfold wordR at hE hG
    by_cases h16 : 16 < ((s.drop p).takeWhile isR).length
    · rw [if_pos h16] at hE
      rw [decide_eq_true (show (16 : Int) < ((s.drop p).takeWhile isR).length by omega)]
      exact cT (hE (by show (8 : Int) ≠ 0; decide))
    · rw [if_neg h16] at hG
      rw [decide_eq_false (show ¬ (16 : Int) < ((s.drop p).takeWhile isR).length by omega), slTw]
      exact cF (j2 _ _ _ _ (by omega) (hG rfl))
  | false =>
    rw [hS] at hE hG
    simp only [Bool.false_eq_true, if_false] at hE hG
    have c1 : (sClass (s[p].toNat : Int) == 1) = false := by
      rw [beq_eq_false_iff_ne]; intro e; rw [cls.1.1 e] at hS; cases hS
    rw [c1]
    refine cF ?_
    cases hU : isU s[p] with
    | true =>
      rw [hU] at hE hG
      simp only [if_true] at hE hG
      rw [← hd] at hE hG
      have ht := tw_len isU (s.drop p)
      rw [hdl] at ht
      have c2 : (sClass (s[p].toNat : Int) == 2) = true := by rw [clsU.2 hU]; rfl
      rw [c2]
      refine cT ⟨_, pRun (f := isU) (fun c => by rw [← clsU]; simp) (by omega) hl, ?_⟩
      rw [wAdd (by omega)]
      refine ⟨⟨by omega, by omega, by omega⟩, ?_⟩
      unfold wordR at hE hG
      by_cases h16 : 16 < ((s.drop p).takeWhile isU).length
      · rw [if_pos h16] at hE
        rw [decide_eq_true (show (16 : Int) < ((s.drop p).takeWhile isU).length by omega)]
        exact cT (hE (by show (8 : Int) ≠ 0; decide))
      · rw [if_neg h16] at hG
        rw [decide_eq_false (show ¬ (16 : Int) < ((s.drop p).takeWhile isU).length by omega), slTw]
        exact cF (j2 _ _ _ _ (by omega) (hG rfl))
    | false =>
      rw [hU] at hE hG
      simp only [Bool.false_eq_true, if_false] at hE hG
      have c2 : (sClass (s[p].toNat : Int) == 2) = false := by
        rw [beq_eq_false_iff_ne]; intro e; rw [clsU.1 e] at hU; cases hU
      rw [c2]
      refine cF ?_
      cases hD : isD s[p] with
      | true =>
        rw [hD] at hE hG
        simp only [if_true] at hE hG
        rw [← hd] at hE hG
        have ht := tw_len isD (s.drop p)
        rw [hdl] at ht
        have c3 : (sClass (s[p].toNat : Int) == 3) = true := by rw [clsD.2 hD]; rfl
        rw [c3]
        refine cT ⟨_, pRun (f := isD) (fun c => by rw [← clsD]; simp) (by omega) hl, ?_⟩
        rw [wAdd (by omega)]
        refine ⟨⟨by omega, by omega, by omega⟩, ?_⟩
        have hall := tw_all' isD (s.drop p)
        have hsl := slTw (s := s) (p := p) (f := isD)
        have hat : ∀ i (h : i < ((s.drop p).takeWhile isD).length), ∃ h' : p + i < s.length, s[p + i] = ((s.drop p).takeWhile isD)[i] := by
          intro i h
          refine ⟨by omega, ?_⟩
          have e1 : (s.drop p)[i]? = some (((s.drop p).takeWhile isD)[i]) := by
            have := List.takeWhile_prefix isD (l := s.drop p)
            have := List.prefix_iff_getElem?.1 this i h
            exact this
          rw [List.getElem?_drop, List.getElem?_eq_getElem (by omega)] at e1
          exact Option.some.inj e1
        unfold numR at hE hG
        generalize hw : (s.drop p).takeWhile isD = w at *
        by_cases h19 : 19 < w.length
        · rw [if_pos h19] at hE
          rw [decide_eq_true (show (19 : Int) < w.length by omega)]
          exact cT (hE (by show (8 : Int) ≠ 0; decide))
        · rw [if_neg h19] at hE hG
          rw [decide_eq_false (show ¬ (19 : Int) < w.length by omega)]
          refine cF ?_
          refine lp3 (fun (x y : Int) (z : List T14) => ∃ i : Nat, y = i ∧ i ≤ w.length ∧ x = (dn 0 (w.take i) : Int) ∧ z = out) (fun (_ y : Int) (_ : List T14) => w.length - y.toNat) ?_ ⟨0, rfl, by omega, by simp [dn], rfl⟩
          rintro X3 x y z ⟨i, rfl, hi, rfl, rfl⟩ hX
          unfold ref14_Split_L3i
          have hbd : dn 0 (w.take i) < 10000000000000000000 := dn19 (fun c hc => hall c (List.mem_of_mem_take hc)) (by rw [List.length_take]; omega)
          by_cases hlt : i < w.length
          · rw [decide_eq_true (show (i : Int) < w.length by omega)]
            obtain ⟨h', e⟩ := hat i hlt
            rw [wAdd (by omega), bAt_nat h', e, w1 (by omega)]
            have hc := hall w[i] (List.getElem_mem hlt)
            simp only [isD, Bool.and_eq_true, decide_eq_true_eq] at hc
            have hstep : w.take (i + 1) = w.take i ++ [w[i]] := List.take_succ_eq_append_getElem hlt
            have hbd2 : dn 0 (w.take (i + 1)) < 10000000000000000000 := dn19 (fun c hc => hall c (List.mem_of_mem_take hc)) (by rw [List.length_take]; omega)
            rw [hstep, dn_snoc] at hbd2
            refine cT ⟨⟨by omega, by omega⟩, hX _ _ _ ⟨i + 1, rfl, by omega, ?_, rfl⟩ (by omega)⟩
            rw [hstep, dn_snoc, wrapu8 (by omega) (by omega), wrapu64 (n := (w[i].toNat : Int) - 48) (by omega) (by omega), wrapu64 (n := 10 * (dn 0 (w.take i) : Int)) (by omega) (by omega), wrapu64 (by omega) (by omega)]
            omega
          · have : i = w.length := by omega
            subst this
            rw [decide_eq_false (show ¬ ((w.length : Nat) : Int) < w.length by omega)]
            rw [List.take_length] at hbd ⊢
            refine cF ?_
            by_cases k : 9223372036854775807 < dn 0 w
            · rw [if_pos k] at hE
              rw [decide_eq_true (show (9223372036854775807 : Int) < dn 0 w by omega)]
              exact cT (hE (by show (8 : Int) ≠ 0; decide))
            · rw [if_neg k] at hG
              rw [decide_eq_false (show ¬ (9223372036854775807 : Int) < dn 0 w by omega), wAdd (by omega), hsl, wrap64 (n := (dn 0 w : Int)) (by omega) (by omega)]
              exact cF (j2 _ _ _ _ (by omega) (hG rfl))
      | false =>
        rw [hD] at hE hG
        simp only [Bool.false_eq_true, if_false] at hE hG
        have c3 : (sClass (s[p].toNat : Int) == 3) = false := by
          rw [beq_eq_false_iff_ne]; intro e; rw [clsD.1 e] at hD; cases hD
        rw [c3]
        refine cF ?_
        cases h39 : (s[p] == 39) with
        | true =>
          rw [h39] at hE hG
          simp only [if_true] at hE hG
          have e39 : s[p] = 39 := by simpa using h39
          have c5 : (sClass (s[p].toNat : Int) == 5) = true := by rw [cls39.2 e39]; rfl
          rw [c5]
          refine cT ?_
          rw [w1 (by omega)]
          refine lp3 (fun (x : Int) (y : Str) (z : List T14) => ∃ i : Nat, x = i ∧ p + 1 ≤ i ∧ i ≤ s.length + 1 ∧ y.length ≤ i ∧ z = out ∧ tx (s.drop (p + 1)) = addT y (i - (p + 1)) (tx (s.drop i))) (fun (x : Int) (_ : Str) (_ : List T14) => s.length + 2 - x.toNat) ?_ ⟨p + 1, rfl, by omega, by omega, by simp, rfl, by rw [Nat.sub_self, addT0]⟩
          rintro X4 x y z ⟨i, rfl, g1, g2, g3, rfl, he⟩ hX
          unfold ref14_Split_L4i
          by_cases hi : i < s.length
          · rw [decide_eq_false (show ¬ (s.length : Int) ≤ i by omega), show (bAt s (i : Int) == 39) = (s[i] == 39) from bAt39 hi]
            refine cF ⟨⟨by omega, by omega⟩, ?_⟩
            have one : ∀ {j : Nat} (hj : j < s.length), (s.drop ((j : Nat) : Int).toNat).take ((((j + 1 : Nat) : Int)).toNat - ((j : Nat) : Int).toNat) = [s[j]] := by
              intro j hj
              rw [Int.toNat_natCast, Int.toNat_natCast, Nat.add_sub_cancel_left, List.drop_eq_getElem_cons hj]; rfl
            have j5 : ∀ {j : Nat} (hj : j < s.length), X4 ((j + 1 : Nat) : Int) (y ++ [s[j]]) z → ref14_Split_J5i X4 s j y z := by
              intro j hj hx
              unfold ref14_Split_J5i
              rw [w1 (by omega), one hj]
              exact ⟨⟨by omega, by omega, by omega⟩, by simp; omega, hx⟩
            by_cases h39 : s[i] = 39
            · rw [h39]
              refine cT ?_
              rw [w1 (by omega)]
              by_cases hn : ∃ hj : i + 1 < s.length, s[i + 1] = 39
              · obtain ⟨hj, e2⟩ := hn
                rw [decide_eq_false (show ¬ (s.length : Int) ≤ ((i + 1 : Nat) : Int) by omega), bAt39 hj, e2]
                refine cF ⟨⟨by omega, by omega⟩, ?_⟩
                unfold ref14_Split_J6i
                refine cF ?_
                rw [w1 (by omega)]
                refine j5 hj (hX _ _ _ ⟨i + 2, rfl, by omega, by omega, by simp; omega, rfl, ?_⟩ (by omega))
                rw [he, tx_two hj h39 e2, addT_add, e2]
                have : i - (p + 1) + 2 = i + 2 - (p + 1) := by omega
                rw [this]
              · have hend := tx_end hi h39 (fun hj e => hn ⟨hj, e⟩)
                rw [hend] at he
                have hR : txR (s.drop (p + 1)) = if 64 < y.length then ([], 0, 8) else (y, ((i - p + 1 : Nat) : Int), 0) := by
                  unfold txR
                  rw [he]
                  simp only [addT, Option.map_some, List.append_nil]
                  have : i - (p + 1) + 1 + 1 = i - p + 1 := by omega
                  rw [this]
                have fin : ref14_Split_J6i X X4 s r0 r1 r2 p i y true z := by
                  unfold ref14_Split_J6i
                  refine cT ?_
                  rw [hR] at hE hG
                  by_cases hl4 : 64 < y.length
                  · rw [if_pos hl4] at hE
                    rw [decide_eq_true (show (64 : Int) < y.length by omega)]
                    exact cT (hE (by show (8 : Int) ≠ 0; decide))
                  · rw [if_neg hl4] at hG
                    rw [decide_eq_false (show ¬ (64 : Int) < y.length by omega), w1 (by omega)]
                    have : IntKind.i64.wrap (((i + 1 : Nat) : Int) - (p : Int)) = ((i - p + 1 : Nat) : Int) := by rw [wrap64 (by omega) (by omega)]; omega
                    rw [this]
                    exact cF (j2 _ _ _ _ (by omega) (hG rfl))
                by_cases hj : i + 1 < s.length
                · have e2 : (s[i + 1] == 39) = false := by
                    rw [beq_eq_false_iff_ne]; exact fun e => hn ⟨hj, e⟩
                  rw [decide_eq_false (show ¬ (s.length : Int) ≤ ((i + 1 : Nat) : Int) by omega), bAt39 hj, e2]
                  exact cF ⟨⟨by omega, by omega⟩, fin⟩
                · rw [decide_eq_true (show (s.length : Int) ≤ ((i + 1 : Nat) : Int) by omega)]
                  exact cT fin
            · rw [show (s[i] == 39) = false by rw [beq_eq_false_iff_ne]; exact h39]
              refine cF (j5 hi (hX _ _ _ ⟨i + 1, rfl, by omega, by omega, by simp; omega, rfl, ?_⟩ (by omega)))
              rw [he, tx_go hi h39, addT_add]
              have : i - (p + 1) + 1 = i + 1 - (p + 1) := by omega
              rw [this]
          · rw [tx_none (s := s) (i := i) (by omega)] at he
            have hR : txR (s.drop (p + 1)) = ([], 0, 4) := by unfold txR; rw [he]; rfl
            rw [hR] at hE
            rw [decide_eq_true (show (s.length : Int) ≤ i by omega)]
            exact cT (hE (by show (4 : Int) ≠ 0; decide))
        | false =>
          rw [h39] at hE hG
          simp only [Bool.false_eq_true, if_false] at hE hG
          have e39 : ¬ s[p] = 39 := by simpa using h39
          have c5 : (sClass (s[p].toNat : Int) == 5) = false := by
            rw [beq_eq_false_iff_ne]; intro e; exact e39 (cls39.1 e)
          rw [c5]
          rw [← hd] at hE hG
          refine cF ⟨⟨by omega, by omega, by omega⟩, sg (s.drop p), ?_, ?_⟩
          · rw [bAt_drop, hd]; exact pSign14 (by rw [← hd, hdl]; omega)
          · have hle := sg_le (s.drop p)
            rw [hdl] at hle
            unfold sgR at hE hG
            by_cases hz : sg (s.drop p) = []
            · simp only [if_pos hz] at hE
              rw [hz]
              exact cT (hE (by decide))
            · simp only [if_neg hz] at hG
              have : (sg (s.drop p) == []) = false := by simpa using hz
              rw [this]
              exact cF (j2 _ _ _ _ (by omega) (hG trivial))
end Go.Proofs.YteoohihaibgplaaDoor
