import Derived.Test.YteoohihaibgplaaDoorLpB
namespace Go.Proofs.YteoohihaibgplaaDoor
open Go.AV Go.RowKit

def sgs : List Str := [[60, 62], [60, 61], [62, 61], [124, 124], [40], [41], [44], [46], [42], [43], [45], [47], [37], [61], [60], [62]]
def pre (s p : Str) : Bool := decide (p.length ≤ s.length) && s.take p.length == p
def sgAt (k : Nat) : Str := (sgs[k]?).getD []
theorem sgAt_pos {k : Nat} (h : k < 16) : 1 ≤ (sgAt k).length := by
  have : k = 0 ∨ k = 1 ∨ k = 2 ∨ k = 3 ∨ k = 4 ∨ k = 5 ∨ k = 6 ∨ k = 7 ∨ k = 8 ∨ k = 9 ∨ k = 10 ∨ k = 11 ∨ k = 12 ∨ k = 13 ∨ k = 14 ∨ k = 15 := by omega
  rcases this with rfl | rfl | rfl | rfl | rfl | rfl | rfl | rfl | rfl | rfl | rfl | rfl | rfl | rfl | rfl | rfl <;> decide
theorem sgStep {s : Str} {k : Nat} (h : k < 16) {t : Tok} {n e : Int} {X : Int → Prop} (hp : pre s (sgAt k) = true → t = ⟨5, sgAt k, 0, 0⟩ ∧ n = (sgAt k).length ∧ e = 0) (hx : pre s (sgAt k) = false → X ((k + 1 : Nat) : Int)) : lex_first_L1i s t n e X k := by
  unfold lex_first_L1i
  rw [decide_eq_true (show (k : Int) < 16 by omega)]
  refine cT ⟨⟨by omega, by omega⟩, pre s (sgAt k), ?_, ?_⟩
  · have := pPrefix s (sgAt k)
    rw [Int.toNat_natCast]; exact this
  · rw [Int.toNat_natCast, w1 (by omega)]
    refine ⟨fun c => ?_, hx⟩
    obtain ⟨rfl, rfl, rfl⟩ := hp c
    exact ⟨rfl, rfl, rfl⟩
theorem pSigns (s : Str) : ∃ r : Tok × Int × Int, (r.2.2 = 0 → 1 ≤ r.2.1 ∧ r.2.1 ≤ s.length ∧ r.1.Kind = 5) ∧ ∀ X1 : Int → Prop, (∀ x, lex_first_L1i s r.1 r.2.1 r.2.2 X1 x → X1 x) → X1 0 := by
  refine ex1 (L := fun r : Tok × Int × Int => lex_first_L1i s r.1 r.2.1 r.2.2) (fun (x : Int) => ∃ k : Nat, x = k ∧ k ≤ 16) (fun (x : Int) => 16 - x.toNat) (fun r => r.2.2 = 0 → 1 ≤ r.2.1 ∧ r.2.1 ≤ s.length ∧ r.1.Kind = 5) ?_ ⟨0, rfl, by omega⟩
  rintro x ⟨k, rfl, hk⟩
  by_cases h : k < 16
  · cases hp : pre s (sgAt k) with
    | true =>
      have hle : (sgAt k).length ≤ s.length := by
        simp only [pre, Bool.and_eq_true, decide_eq_true_eq] at hp; exact hp.1
      have := sgAt_pos h
      exact .inl ⟨(⟨5, sgAt k, 0, 0⟩, (sgAt k).length, 0), fun _ => ⟨by show (1 : Int) ≤ (sgAt k).length; omega, by show ((sgAt k).length : Int) ≤ _; omega, rfl⟩, fun X => sgStep h (fun _ => ⟨rfl, rfl, rfl⟩) (fun q => by rw [hp] at q; cases q)⟩
    | false => exact .inr ⟨((k + 1 : Nat) : Int), ⟨k + 1, rfl, by omega⟩, by omega, fun r X hX => sgStep h (fun q => by rw [hp] at q; cases q) (fun _ => hX)⟩
  · refine .inl ⟨(tok0, 0, 4), fun q => (by cases q), fun X => ?_⟩
    unfold lex_first_L1i
    rw [decide_eq_false (show ¬ (k : Int) < 16 by omega)]
    exact cF ⟨rfl, rfl, rfl⟩
theorem tw_all' (f : UInt8 → Bool) (s : Str) : ∀ c ∈ s.takeWhile f, f c = true := fun c hc => by
  have := List.all_takeWhile (l := s) (p := f)
  exact List.all_eq_true.1 this c hc
theorem isS_R {c : UInt8} (h : isS c = true) : isR c = true := by simp [isR, h]
/-- the first token, whichever -/
theorem pFirst {c : UInt8} {r : Str} (hl : (c :: r).length ≤ 100000) : ∃ t n e, lex_first_o (c :: r) t n e ∧ (e = 0 → 1 ≤ n ∧ n ≤ (c :: r).length ∧ (t.Kind = 1 → sLex t.S = true)) := by
  have b0 : bAt (c :: r) 0 = (c.toNat : Int) := rfl
  have hb : (0 : Int) ≤ 0 ∧ (0 : Int) < ((c :: r).length : Int) := ⟨by omega, by simp⟩
  have wl : ∀ f : UInt8 → Bool, f c = true → 1 ≤ ((c :: r).takeWhile f).length := fun f h => by rw [List.takeWhile_cons, h]; simp
  cases hS : isS c with
  | true =>
    obtain ⟨t, n, e, h1, h2⟩ := pWord 1 ((c :: r).takeWhile isR)
    refine ⟨t, n, e, lex_first_i _ _ _ _ ⟨hb, true, by rw [b0, ← hS]; exact pSmall c, cT ⟨_, pSpan _ hl, t, n, e, h1, rfl, rfl, rfl⟩⟩, fun q => ?_⟩
    obtain ⟨rfl, rfl, h16⟩ := h2 q
    have := wl isR (isS_R hS)
    have := tw_len isR (c :: r)
    refine ⟨by omega, by omega, fun _ => ?_⟩
    have hall := tw_all' isR (c :: r)
    show sLex ((c :: r).takeWhile isR) = true
    have ee : (c :: r).takeWhile isR = c :: r.takeWhile isR := by rw [List.takeWhile_cons, isS_R hS]; rfl
    rw [ee] at h16 hall ⊢
    show (decide ((c :: r.takeWhile isR).length ≤ 16) && (isS c && (c :: r.takeWhile isR).all isR)) = true
    rw [decide_eq_true h16, hS, List.all_eq_true.2 hall]; rfl
  | false =>
    cases hU : isU c with
    | true =>
      obtain ⟨t, n, e, h1, h2⟩ := pWord 2 ((c :: r).takeWhile isU)
      refine ⟨t, n, e, lex_first_i _ _ _ _ ⟨hb, false, by rw [b0, ← hS]; exact pSmall c, cF ⟨true, by rw [b0, ← hU]; exact pGreat c, cT ⟨_, pSpanG pGreat _ hl, t, n, e, h1, rfl, rfl, rfl⟩⟩⟩, fun q => ?_⟩
      obtain ⟨rfl, rfl, h16⟩ := h2 q
      have := wl isU hU
      have := tw_len isU (c :: r)
      exact ⟨by omega, by omega, fun k => by cases k⟩
    | false =>
      cases hD : isD c with
      | true =>
        have hw := wl isD hD
        have hw2 := tw_len isD (c :: r)
        obtain ⟨t, n, e, h1, h2⟩ := pNumber (tw_all' isD (c :: r)) (fun q => by rw [q] at hw; simp at hw) (by omega)
        refine ⟨t, n, e, lex_first_i _ _ _ _ ⟨hb, false, by rw [b0, ← hS]; exact pSmall c, cF ⟨false, by rw [b0, ← hU]; exact pGreat c, cF ⟨true, by rw [b0, ← hD]; exact pDigit c, cT ⟨_, pSpanG pDigit _ hl, t, n, e, h1, rfl, rfl, rfl⟩⟩⟩⟩, fun q => ?_⟩
        obtain ⟨rfl, hk⟩ := h2 q
        exact ⟨by omega, by omega, fun k => by rw [hk] at k; cases k⟩
      | false =>
        cases h39 : (c == 39) with
        | true =>
          obtain ⟨t, n, e, h1, h2⟩ := pText hl
          refine ⟨⟨4, t, 0, 0⟩, n, e, lex_first_i _ _ _ _ ⟨hb, false, by rw [b0, ← hS]; exact pSmall c, cF ⟨false, by rw [b0, ← hU]; exact pGreat c, cF ⟨false, by rw [b0, ← hD]; exact pDigit c, cF ⟨⟨by omega, by decide⟩, ?_⟩⟩⟩⟩, fun q => ⟨(h2 q).1, (h2 q).2, fun k => by cases k⟩⟩
          have e39 : (bAt (c :: r) 0 == bAt ([39] : Str) 0) = true := by
            have : c = 39 := by simpa using h39
            subst this; rfl
          rw [e39]
          exact cT ⟨_, _, _, h1, rfl, rfl, rfl⟩
        | false =>
          obtain ⟨q, g, k⟩ := pSigns (c :: r)
          refine ⟨q.1, q.2.1, q.2.2, lex_first_i _ _ _ _ ⟨hb, false, by rw [b0, ← hS]; exact pSmall c, cF ⟨false, by rw [b0, ← hU]; exact pGreat c, cF ⟨false, by rw [b0, ← hD]; exact pDigit c, cF ⟨⟨by omega, by decide⟩, ?_⟩⟩⟩⟩, fun z => ⟨(g z).1, (g z).2.1, fun k1 => by rw [(g z).2.2] at k1; cases k1⟩⟩
          have e39 : (bAt (c :: r) 0 == bAt ([39] : Str) 0) = false := by
            rw [q39, show bAt (c :: r) (0 : Int) = bAt (c :: r) ((0 : Nat) : Int) from rfl, bAt39 (s := c :: r) (i := 0) (by simp)]; exact h39
          rw [e39]
          exact cF k
def TOK (l : List Tok) : Prop := ∀ t ∈ l, t.Kind = 1 → sLex t.S = true
/-- one step of the split -/
theorem splStep {s : Str} {p n k : Nat} {out : List Tok} {r0 : List Tok} {r1 r2 : Int} {t : Tok} {X : Int → List Tok → Prop} (hp : p < s.length) (hl : s.length ≤ 2000) (ho : out.length ≤ p)
    (h : lex_first_o (s.drop p) t n 0) (hn : n ≤ s.length - p) (hk : ((s.drop (p + n)).takeWhile isB).length = k) (hX : X ((p + n + k : Nat) : Int) (out ++ [⟨t.Kind, t.S, t.N, p⟩])) : lex_Split_L1i s r0 r1 r2 X p out := by
  unfold lex_Split_L1i
  rw [decide_eq_true (show (p : Int) < s.length by omega)]
  have wn : IntKind.i64.wrap ((p : Int) + (n : Int)) = ((p + n : Nat) : Int) := by rw [wrap64 (by omega) (by omega)]; omega
  have hk2 := tw_len isB (s.drop (p + n))
  rw [List.length_drop] at hk2
  refine cT ⟨⟨by omega, by omega, by omega⟩, t, n, 0, by rw [bAt_drop]; exact h, cF ⟨by omega, ⟨by rw [wn]; omega, by rw [wn]; omega, by omega⟩, (s.drop (p + n)).takeWhile isB, ?_, ?_⟩⟩
  · rw [wn, bAt_drop]
    exact pSpanG pBlank _ (by rw [List.length_drop]; omega)
  · rw [wn, hk, wrap64 (n := ((p + n : Nat) : Int) + (k : Int)) (by omega) (by omega)]
    have : ((p + n : Nat) : Int) + (k : Int) = ((p + n + k : Nat) : Int) := by omega
    rw [this]; exact hX
theorem splEnd {s : Str} {p : Nat} {out : List Tok} {X : Int → List Tok → Prop} (hp : s.length ≤ p) : lex_Split_L1i s out 0 0 X p out := by
  unfold lex_Split_L1i
  rw [decide_eq_false (show ¬ (p : Int) < s.length by omega)]
  exact cF ⟨rfl, rfl, rfl⟩
theorem pSplit {s : Str} (hl : s.length ≤ 2000) : ∃ l a e, lex_Split_o s l a e ∧ (e = 0 → TOK l ∧ l.length ≤ 2000) := by
  have step : ∀ (x : Int) (y : List Tok), (∃ p : Nat, x = p ∧ p ≤ s.length ∧ y.length ≤ p ∧ TOK y) → (∃ r : List Tok × Int × Int, (r.2.2 = 0 → TOK r.1 ∧ r.1.length ≤ 2000) ∧ ∀ X, lex_Split_L1i s r.1 r.2.1 r.2.2 X x y) ∨
      ∃ (x' : Int) (y' : List Tok), (∃ p : Nat, x' = p ∧ p ≤ s.length ∧ y'.length ≤ p ∧ TOK y') ∧ s.length - x'.toNat < s.length - x.toNat ∧ ∀ (r : List Tok × Int × Int) X, X x' y' → lex_Split_L1i s r.1 r.2.1 r.2.2 X x y := by
    rintro x y ⟨p, rfl, h1, h2, h3⟩
    by_cases hp : p < s.length
    · have hd : s.drop p = s[p] :: s.drop (p + 1) := List.drop_eq_getElem_cons hp
      obtain ⟨t, n, e, f1, f2⟩ := pFirst (c := s[p]) (r := s.drop (p + 1)) (by rw [← hd, List.length_drop]; omega)
      rw [← hd] at f1 f2
      rw [List.length_drop] at f2
      by_cases he : e = 0
      · subst he
        obtain ⟨g1, g2, g3⟩ := f2 rfl
        have hn : (n.toNat : Int) = n := by omega
        have hk2 := tw_len isB (s.drop (p + n.toNat))
        rw [List.length_drop] at hk2
        refine .inr ⟨((p + n.toNat + ((s.drop (p + n.toNat)).takeWhile isB).length : Nat) : Int), y ++ [⟨t.Kind, t.S, t.N, p⟩], ⟨_, rfl, by omega, by simp; omega, fun u hu => ?_⟩, by omega, fun r X hX => splStep hp hl h2 (by rw [hn]; exact f1) (by omega) rfl hX⟩
        rcases List.mem_append.1 hu with hu | hu
        · exact h3 u hu
        · rw [List.mem_singleton] at hu; subst hu; exact g3
      · refine .inl ⟨([], p, e), fun q => absurd q he, fun X => ?_⟩
        unfold lex_Split_L1i
        rw [decide_eq_true (show (p : Int) < s.length by omega)]
        refine cT ⟨⟨by omega, by omega, by omega⟩, t, n, e, by rw [bAt_drop]; exact f1, ?_⟩
        have : (!(e == 0)) = true := by simpa using he
        rw [this]
        exact cT ⟨rfl, rfl, rfl⟩
    · exact .inl ⟨(y, 0, 0), fun _ => ⟨h3, by show y.length ≤ 2000; omega⟩, fun X => splEnd (by omega)⟩
  have hb := tw_len isB s
  obtain ⟨r, g, k⟩ := ex2 (L := fun r : List Tok × Int × Int => lex_Split_L1i s r.1 r.2.1 r.2.2) (fun (x : Int) (y : List Tok) => ∃ p : Nat, x = p ∧ p ≤ s.length ∧ y.length ≤ p ∧ TOK y) (fun (x : Int) (_ : List Tok) => s.length - x.toNat) (fun r => r.2.2 = 0 → TOK r.1 ∧ r.1.length ≤ 2000) step (a := ((s.takeWhile isB).length : Int)) (b := []) ⟨_, rfl, hb, by simp, fun t ht => by cases ht⟩
  refine ⟨r.1, r.2.1, r.2.2, lex_Split_i _ _ _ _ ?_, g⟩
  unfold lex_Split_oi
  rw [decide_eq_false (show ¬ (2000 : Int) < s.length by omega)]
  exact cF ⟨_, pSpanG pBlank s (by omega), k⟩
end Go.Proofs.YteoohihaibgplaaDoor
