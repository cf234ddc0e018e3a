import Derived.Test.YteoohihaibgplaaDoorLpA
namespace Go.Proofs.YteoohihaibgplaaDoor
open Go.AV Go.RowKit

theorem hb0 {c : UInt8} {r : Str} : (0 : Int) ≤ 0 ∧ (0 : Int) < ((c :: r).length : Int) := ⟨by omega, by simp⟩
theorem firstS {c : UInt8} {r w : Str} (hS : isS c = true) (hl : (c :: r).length ≤ 100000) (hw : (c :: r).takeWhile isR = w) (h16 : w.length ≤ 16) : lex_first_o (c :: r) ⟨1, w, 0, 0⟩ w.length 0 := by
  refine lex_first_i _ _ _ _ ⟨hb0, true, by rw [show bAt (c :: r) 0 = (c.toNat : Int) from rfl, ← hS]; exact pSmall c, cT ⟨w, by rw [← hw]; exact pSpan _ hl, _, _, _, ?_, rfl, rfl, rfl⟩⟩
  unfold lex_word_o
  rw [decide_eq_false (show ¬ (16 : Int) < w.length by omega)]
  exact cF ⟨rfl, rfl, rfl⟩
theorem firstD {c : UInt8} {r w : Str} {v : Int} (hS : isS c = false) (hU : isU c = false) (hD : isD c = true) (hl : (c :: r).length ≤ 100000) (hw : (c :: r).takeWhile isD = w) (h : Go.Lib.parseIntB 64 w = .ok v) (h19 : w.length ≤ 19) : lex_first_o (c :: r) ⟨3, w, v, 0⟩ w.length 0 := by
  refine lex_first_i _ _ _ _ ⟨hb0, false, by rw [show bAt (c :: r) 0 = (c.toNat : Int) from rfl, ← hS]; exact pSmall c, cF ⟨false, by rw [show bAt (c :: r) 0 = (c.toNat : Int) from rfl, ← hU]; exact pGreat c, cF ⟨true, by rw [show bAt (c :: r) 0 = (c.toNat : Int) from rfl, ← hD]; exact pDigit c, cT ⟨w, by rw [← hw]; exact pSpanG pDigit _ hl, _, _, _, ?_, rfl, rfl, rfl⟩⟩⟩⟩
  exact ⟨by omega, .inl ⟨v, h, h19, rfl, rfl, rfl, rfl, rfl, rfl⟩⟩
theorem sgRun {s : Str} {j : Nat} (hj : j < 16) (hno : ∀ i, i < j → pre s (sgAt i) = false) (hyes : pre s (sgAt j) = true) : ∀ X1 : Int → Prop, (∀ x, lex_first_L1i s ⟨5, sgAt j, 0, 0⟩ (sgAt j).length 0 X1 x → X1 x) → X1 0 := by
  refine lp1 (fun (x : Int) => ∃ k : Nat, x = k ∧ k ≤ j) (fun (x : Int) => j - x.toNat) ?_ ⟨0, rfl, by omega⟩
  rintro X x ⟨k, rfl, hk⟩ hX
  refine sgStep (by omega) (fun q => ?_) (fun q => ?_)
  · by_cases e : k = j
    · subst e; exact ⟨rfl, rfl, rfl⟩
    · rw [hno k (by omega)] at q; cases q
  · by_cases e : k = j
    · subst e; rw [hyes] at q; cases q
    · exact hX _ ⟨k + 1, rfl, by omega⟩ (by omega)
theorem firstSg {c : UInt8} {r : Str} {j : Nat} (hS : isS c = false) (hU : isU c = false) (hD : isD c = false) (h39 : c ≠ 39) (hj : j < 16) (hno : ∀ i, i < j → pre (c :: r) (sgAt i) = false) (hyes : pre (c :: r) (sgAt j) = true) : lex_first_o (c :: r) ⟨5, sgAt j, 0, 0⟩ (sgAt j).length 0 := by
  refine lex_first_i _ _ _ _ ⟨hb0, false, by rw [show bAt (c :: r) 0 = (c.toNat : Int) from rfl, ← hS]; exact pSmall c, cF ⟨false, by rw [show bAt (c :: r) 0 = (c.toNat : Int) from rfl, ← hU]; exact pGreat c, cF ⟨false, by rw [show bAt (c :: r) 0 = (c.toNat : Int) from rfl, ← hD]; exact pDigit c, cF ⟨⟨by omega, by decide⟩, ?_⟩⟩⟩⟩
  have e39 : (bAt (c :: r) 0 == bAt ([39] : Str) 0) = false := by
    rw [q39, show bAt (c :: r) (0 : Int) = bAt (c :: r) ((0 : Nat) : Int) from rfl, bAt39 (s := c :: r) (i := 0) (by simp)]; simpa using h39
  rw [e39]
  exact cF (sgRun hj hno hyes)
theorem isS_B {c : UInt8} (h : isS c = true) : isB c = false := by
  simp only [isS, Bool.and_eq_true, decide_eq_true_eq] at h
  unfold isB
  rw [Bool.or_eq_false_iff, beq_eq_false_iff_ne, beq_eq_false_iff_ne]; omega
theorem splStart {s : Str} {l : List Tok} {a e : Int} (hl : s.length ≤ 2000) (hb : s.takeWhile isB = []) (h : ∀ X1 : Int → List Tok → Prop, (∀ x y, lex_Split_L1i s l a e X1 x y → X1 x y) → X1 0 []) : lex_Split_o s l a e := by
  apply lex_Split_i
  unfold lex_Split_oi
  rw [decide_eq_false (show ¬ (2000 : Int) < s.length by omega)]
  refine cF ⟨[], ?_, h⟩
  have := pSpanG pBlank s (by omega)
  rw [hb] at this; exact this
/-- a name is one token -/
theorem split_name {s : Str} (h : sLex s = true) : lex_Split_o s [⟨1, s, 0, 0⟩] 0 0 := by
  obtain ⟨c, r, rfl, hS, hR⟩ := sLex_ok h
  have h16 : (c :: r).length ≤ 16 := by
    simp only [sLex, Bool.and_eq_true, decide_eq_true_eq] at h; exact h.1
  have hw : (c :: r).takeWhile isR = c :: r := by
    have := (tw (u := []) hR (fun c r q => by cases q)).1
    rw [List.append_nil] at this; exact this
  refine splStart (by omega) (by rw [List.takeWhile_cons, isS_B hS]; rfl) fun X hX => ?_
  refine hX 0 [] (splStep (p := 0) (n := (c :: r).length) (k := 0) (by simp) (by omega) (by simp) (by show lex_first_o (c :: r) _ _ _; exact firstS hS (by omega) hw h16) (by omega) (by rw [List.drop_of_length_le (by omega)]; rfl) ?_)
  refine hX _ _ ?_
  have : (0 + (c :: r).length + 0 : Nat) = (c :: r).length := by omega
  rw [this]
  exact splEnd (Nat.le_refl _)
/-- parentheses -/
theorem pre_no {c : UInt8} {r : Str} {d : UInt8} {q : Str} (h : c ≠ d) : pre (c :: r) (d :: q) = false := by
  unfold pre
  rw [Bool.and_eq_false_iff]
  right
  rw [beq_eq_false_iff_ne]
  intro e
  rw [List.length_cons, List.take_succ_cons] at e
  exact h (List.cons.inj e).1
theorem firstP (r : Str) : lex_first_o (40 :: r) ⟨5, [40], 0, 0⟩ 1 0 := by
  refine firstSg (j := 4) (by decide) (by decide) (by decide) (by decide) (by omega) (fun i hi => ?_) ?_
  · have : i = 0 ∨ i = 1 ∨ i = 2 ∨ i = 3 := by omega
    rcases this with rfl | rfl | rfl | rfl <;> exact pre_no (by decide)
  · show (decide (1 ≤ (40 :: r).length) && (40 :: r).take 1 == [40]) = true
    simp
def pTok (i : Nat) : Tok := ⟨5, [40], 0, i⟩
theorem split_par {m : Nat} (hm : m ≤ 2000) : lex_Split_o (List.replicate m 40) ((List.range m).map pTok) 0 0 := by
  have hl : (List.replicate m (40 : UInt8)).length = m := List.length_replicate
  refine splStart (by omega) ?_ ?_
  · cases m with
    | zero => rfl
    | succ m => rfl
  refine lp2 (fun (x : Int) (y : List Tok) => ∃ p : Nat, x = p ∧ p ≤ m ∧ y = (List.range p).map pTok) (fun (x : Int) (_ : List Tok) => m - x.toNat) ?_ ⟨0, rfl, by omega, rfl⟩
  rintro X x y ⟨p, rfl, hp, rfl⟩ hX
  by_cases h : p < m
  · have hd : (List.replicate m (40 : UInt8)).drop p = 40 :: List.replicate (m - p - 1) 40 := by
      rw [List.drop_replicate]
      have : m - p = (m - p - 1) + 1 := by omega
      rw [this]; rfl
    refine splStep (n := 1) (k := 0) (by omega) (by omega) (by simp) (by rw [hd]; exact firstP _) (by omega) ?_ ?_
    · rw [List.drop_replicate]
      cases m - (p + 1) with
      | zero => rfl
      | succ q => rfl
    · refine hX _ _ ⟨p + 1, rfl, by omega, ?_⟩ (by omega)
      rw [List.range_succ, List.map_append]; rfl
  · have : p = m := by omega
    subst this
    exact splEnd (by omega)
theorem split_long {s : Str} (h : 2000 < s.length) : lex_Split_o s [] 0 3 := by
  apply lex_Split_i
  unfold lex_Split_oi
  rw [decide_eq_true (show (2000 : Int) < s.length by omega)]
  exact cT ⟨rfl, rfl, rfl⟩
/-- the document's names -/
theorem cls {c : UInt8} : (sClass (c.toNat : Int) = 1 ↔ isS c = true) ∧ ((sClass (c.toNat : Int) = 1 ∨ sClass (c.toNat : Int) = 3 ∨ sClass (c.toNat : Int) = 4) ↔ isR c = true) := by
  simp only [isR, isS, isD, Bool.or_eq_true, Bool.and_eq_true, decide_eq_true_eq, beq_iff_eq]
  unfold sClass
  constructor
  · split <;> (try split) <;> (try split) <;> (try split) <;> (try split) <;> (try split) <;> omega
  · split <;> (try split) <;> (try split) <;> (try split) <;> (try split) <;> (try split) <;> omega
theorem pGood14 {s : Str} (hl : s.length ≤ 100000) : ref14_Good_o s (sLex s) := by
  apply ref14_Good_i
  have no : sLex s = false → ref14_Good_J1i s (sLex s) true := fun q => cT q.symm
  cases s with
  | nil => exact cT (no rfl)
  | cons c r =>
    unfold ref14_Good_oi
    rw [decide_eq_false (show ¬ ((c :: r).length : Int) < 1 by rw [List.length_cons]; omega)]
    refine cF ⟨fun h => no ?_, fun h => ⟨hb0, _, pClass _, ?_⟩⟩
    · have h : (16 : Int) < (c :: r).length := of_decide_eq_true h
      simp only [sLex]
      rw [decide_eq_false (show ¬ (c :: r).length ≤ 16 by omega)]; rfl
    · have h : ¬ (16 : Int) < (c :: r).length := of_decide_eq_false h
      have e0 : bAt (c :: r) 0 = (c.toNat : Int) := rfl
      rw [e0]
      have hs : sLex (c :: r) = (isS c && (c :: r).all isR) := by
        simp only [sLex]
        rw [decide_eq_true (show (c :: r).length ≤ 16 by omega)]; rfl
      cases hS : isS c with
      | false =>
        have : ¬ sClass (c.toNat : Int) = 1 := fun q => by rw [cls.1.1 q] at hS; cases hS
        have e : (!(sClass (c.toNat : Int) == 1)) = true := by simpa using this
        rw [e]
        exact no (by rw [hs, hS]; rfl)
      | true =>
        have := cls.1.2 hS
        rw [this]
        rw [hS] at hs
        refine cF ?_
        refine lp1 (fun (x : Int) => ∃ k : Nat, x = k ∧ k ≤ (c :: r).length ∧ ((c :: r).take k).all isR = true) (fun (x : Int) => (c :: r).length - x.toNat) ?_ ⟨0, rfl, by omega, rfl⟩
        rintro X x ⟨k, rfl, hk, ha⟩ hX
        unfold ref14_Good_L2i
        by_cases hlt : k < (c :: r).length
        · rw [decide_eq_true (show (k : Int) < (c :: r).length by omega)]
          refine cT ⟨⟨by omega, by omega⟩, _, pClass _, ?_⟩
          rw [bAt_nat hlt]
          have hc := cls (c := (c :: r)[k])
          have stop : isR (c :: r)[k] = false → ref14_Good_J3i X (sLex (c :: r)) k true := fun q => cT (by
            rw [hs]
            symm
            rw [Bool.true_and, ← Bool.not_eq_true]
            intro hall
            have := List.all_eq_true.1 hall _ (List.getElem_mem hlt)
            rw [q] at this; cases this)
          have go : isR (c :: r)[k] = true → ref14_Good_J3i X (sLex (c :: r)) k false := fun q => cF (by
            rw [w1 (by omega)]
            refine hX _ ⟨k + 1, rfl, by omega, ?_⟩ (by omega)
            rw [List.take_succ_eq_append_getElem hlt, List.all_append, ha]; simp [q])
          generalize hz : sClass ((c :: r)[k].toNat : Int) = z at *
          refine ⟨fun a => ⟨fun b => ?_, fun b => go ?_⟩, fun a => go ?_⟩
          · have a : ¬ z = 1 := by simpa using a
            have b : ¬ z = 3 := by simpa using b
            by_cases d : z = 4
            · subst d; exact go (hc.2.1 (by omega))
            · have e : (!(z == 4)) = true := by simpa using d
              rw [e]
              refine stop ?_
              rw [← Bool.not_eq_true]
              intro q
              have := hc.2.2 q
              omega
          · have b : z = 3 := by simpa using b
            exact hc.2.1 (by omega)
          · have a : z = 1 := by simpa using a
            exact hc.2.1 (by omega)
        · rw [decide_eq_false (show ¬ (k : Int) < (c :: r).length by omega)]
          rw [List.take_of_length_le (by omega)] at ha
          exact cF (by rw [hs, ha]; rfl)
theorem pSpeaks14 : law14_speaks_o true := by
  have hno1 : ∀ i, i < 1 → pre [60, 61, 49] (sgAt i) = false := fun i hi => by
    have : i = 0 := by omega
    subst this; decide
  have hsp : lex_Split_o [97, 60, 61, 49] [⟨1, [97], 0, 0⟩, ⟨5, [60, 61], 0, 1⟩, ⟨3, [49], 1, 3⟩] 0 0 := by
    refine splStart (by decide) (by decide) fun X hX => ?_
    refine hX 0 [] (splStep (p := 0) (n := 1) (k := 0) (by decide) (by decide) (by decide) (firstS (c := 97) (r := [60, 61, 49]) (w := [97]) (by decide) (by decide) (by decide) (by decide)) (by decide) (by decide) ?_)
    refine hX _ _ (splStep (p := 1) (n := 2) (k := 0) (by decide) (by decide) (by decide) (firstSg (c := 60) (r := [61, 49]) (j := 1) (by decide) (by decide) (by decide) (by decide) (by decide) hno1 (by decide)) (by decide) (by decide) ?_)
    refine hX _ _ (splStep (p := 3) (n := 1) (k := 0) (by decide) (by decide) (by decide) (firstD (c := 49) (r := []) (w := [49]) (v := 1) (by decide) (by decide) (by decide) (by decide) (by decide) (by decide) (by decide)) (by decide) (by decide) ?_)
    exact hX _ _ (splEnd (p := 4) (by decide))
  apply law14_speaks_i
  refine ⟨_, _, _, hsp, cT fun _ => cT ⟨by omega, by decide, _, rfl, cT ⟨by omega, by decide, _, rfl, cT ⟨by omega, by decide, _, rfl, cT ⟨by omega, by decide, _, rfl, cT ⟨_, pLex _, show sLex [97, 95, 49] = true by decide⟩⟩⟩⟩⟩⟩
theorem take30 {s : Str} : (List.take ((if (30 : Int) < (s.length : Int) then (30 : Int) else (s.length : Int)).toNat - (0 : Int).toNat) (List.drop (0 : Int).toNat s)) = s.take 30 := by
  split
  · simp
  · have : s.length ≤ 30 := by omega
    simp [List.take_of_length_le this]
theorem min30 {s : Str} : 0 ≤ (0 : Int) ∧ (0 : Int) ≤ (if (30 : Int) < (s.length : Int) then (30 : Int) else (s.length : Int)) ∧ (if (30 : Int) < (s.length : Int) then (30 : Int) else (s.length : Int)) ≤ (s.length : Int) := by
  split <;> omega
theorem par_map (m : Nat) : (List.replicate m (40 : Int)).map toB = List.replicate m (40 : UInt8) := by
  rw [List.map_replicate]; rfl
/-- the second half -/
theorem half (s : Str) {n : Int} (h0 : 0 ≤ n) (h1 : n ≤ 65535) : law14_LexNames_J1i s n true (sLex (s.take 30)) (sLex (s.take 30)) := by
  have hn : (IntKind.i64.wrap n).tmod 4000 = n % 4000 := by
    rw [wrap64 (by omega) (by omega), Int.tmod_eq_emod_of_nonneg h0]
  unfold law14_LexNames_J1i
  rw [hn]
  obtain ⟨m, hm⟩ : ∃ m : Nat, (n % 4000).toNat = m := ⟨_, rfl⟩
  have hm2 : n % 4000 = (m : Int) := by omega
  rw [hm, hm2]
  refine ⟨by omega, by omega, by omega, ?_⟩
  refine lp2 (fun (x : Int) (y : List Int) => ∃ k : Nat, x = k ∧ k ≤ m ∧ y = List.replicate k (40 : Int) ++ List.replicate (m - k) (0 : Int)) (fun (x : Int) (_ : List Int) => m - x.toNat) ?_ ⟨0, rfl, by omega, rfl⟩
  rintro X x y ⟨k, rfl, hk, rfl⟩ hX
  unfold law14_LexNames_L2i
  have hl : (List.replicate k (40 : Int) ++ List.replicate (m - k) (0 : Int)).length = m := by simp; omega
  by_cases hlt : k < m
  · rw [decide_eq_true (show (k : Int) < ((List.replicate k (40 : Int) ++ List.replicate (m - k) (0 : Int)).length : Nat) by rw [hl]; omega)]
    have er : List.replicate (m - k) (0 : Int) = 0 :: List.replicate (m - (k + 1)) 0 := by
      have : m - k = (m - (k + 1)) + 1 := by omega
      rw [this]; rfl
    refine cT ⟨by omega, by rw [hl]; omega, 0, ?_, ?_⟩
    · rw [Int.toNat_natCast, List.getElem?_append_right (by simp), er]; simp
    · rw [w1 (by omega), Int.toNat_natCast]
      refine hX _ _ ⟨k + 1, rfl, by omega, ?_⟩ (by omega)
      rw [List.set_append_right _ _ (by simp), er, List.replicate_succ']
      simp
  · have e : k = m := by omega
    subst e
    rw [decide_eq_false (show ¬ (k : Int) < ((List.replicate k (40 : Int) ++ List.replicate (k - k) (0 : Int)).length : Nat) by rw [hl]; omega)]
    have e2 : List.replicate k (40 : Int) ++ List.replicate (k - k) (0 : Int) = List.replicate k 40 := by simp
    rw [e2, par_map]
    have hl2 : (List.replicate k (40 : Int)).length = k := List.length_replicate
    rw [hl2]
    have g14 := pGood14 (s := s.take 30) (by rw [List.length_take]; omega)
    by_cases hb : 2000 < k
    · refine cF ⟨[], 0, 3, split_long (by rw [List.length_replicate]; omega), ?_⟩
      rw [decide_eq_true (show (2000 : Int) < k by omega)]
      refine cT ⟨_, by rw [take30]; exact g14, ?_⟩
      have e : ∀ b : Bool, (b == b) = true := fun b => by simp
      rw [e]
      exact cT (cT (cT (cT fun _ => rfl)))
    · refine cF ⟨(List.range k).map pTok, 0, 0, split_par (by omega), ?_⟩
      rw [decide_eq_false (show ¬ (2000 : Int) < k by omega)]
      refine cF ⟨_, by rw [take30]; exact g14, ?_⟩
      have e : ∀ b : Bool, (b == b) = true := fun b => by simp
      rw [e]
      refine cT (cT (cT fun _ => ?_))
      rw [List.length_map, List.length_range]; simp
theorem LexNames_plain {s : Str} {n : Int} (h0 : 0 ≤ n) (h1 : n ≤ 65535) : law14_LexNames_o s n true := by
  apply law14_LexNames_i
  have hh := half s h0 h1
  have hl : (s.take 30).length ≤ 2000 := by rw [List.length_take]; omega
  refine ⟨true, pSpeaks14, cF ⟨min30, sLex (s.take 30), by rw [take30]; exact pLex _, ?_⟩⟩
  cases hs : sLex (s.take 30) with
  | true =>
    rw [hs] at hh
    have sn := split_name hs
    refine ⟨[⟨1, s.take 30, 0, 0⟩], 0, 0, by rw [take30]; exact sn, cT fun _ => cT ⟨by omega, by show (0 : Int) < 1; omega, ⟨1, s.take 30, 0, 0⟩, rfl, cT ⟨by omega, by show (0 : Int) < 1; omega, ⟨1, s.take 30, 0, 0⟩, rfl, ?_⟩⟩⟩
    rw [take30]
    have : (s.take 30 == s.take 30) = true := by simp
    rw [show ((⟨1, s.take 30, 0, 0⟩ : Tok).S == s.take 30) = true from this]
    exact hh
  | false =>
    rw [hs] at hh
    obtain ⟨l, a, e, k1, k2⟩ := pSplit hl
    refine ⟨l, a, e, by rw [take30]; exact k1, fun c => fun _ => ⟨fun d => ?_, fun d => hh⟩, fun c => hh⟩
    have c : e = 0 := by simpa using c
    obtain ⟨t1, _⟩ := k2 c
    have d : l.length = 1 := by
      have : (l.length : Int) = 1 := by simpa using d
      omega
    match l, d with
    | [t], _ =>
      refine ⟨by omega, by show (0 : Int) < 1; omega, t, rfl, fun z => ⟨by omega, by show (0 : Int) < 1; omega, t, rfl, ?_⟩, fun z => hh⟩
      have z : t.Kind = 1 := by simpa using z
      have hn := t1 t (by simp) z
      rw [take30]
      have : (t.S == s.take 30) = false := by
        rw [beq_eq_false_iff_ne]
        intro q
        rw [q, hs] at hn; cases hn
      rw [this]
      exact hh
end Go.Proofs.YteoohihaibgplaaDoor
