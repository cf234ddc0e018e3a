import Derived.Test.YteoohihaibgplaaDoorLpD
namespace Go.Proofs.YteoohihaibgplaaDoor
open Go.AV Go.RowKit

abbrev T14 := T_ref14_Token
/-! ### runs -/
theorem pRun {s : Str} {p : Nat} {a b d : Int} {f : UInt8 → Bool} (hf : ∀ c : UInt8, f c = true ↔ (sClass (c.toNat : Int) = a ∨ sClass (c.toNat : Int) = b ∨ sClass (c.toNat : Int) = d)) (hp : p ≤ s.length) (hl : s.length ≤ 2000) :
    ref14_run_o s p a b d ((s.drop p).takeWhile f).length := by
  apply ref14_run_i
  have ht := tw_len f (s.drop p)
  rw [List.length_drop] at ht
  refine lp1 (fun (x : Int) => ∃ k : Nat, x = k ∧ p + k ≤ s.length ∧ ((s.drop p).takeWhile f).length = k + ((s.drop (p + k)).takeWhile f).length) (fun (x : Int) => s.length - x.toNat) ?_ ⟨0, rfl, by omega, by simp⟩
  rintro X x ⟨k, rfl, h1, he⟩ hX
  unfold ref14_run_L1i
  have wk : IntKind.i64.wrap ((p : Int) + (k : Int)) = ((p + k : Nat) : Int) := by rw [wrap64 (by omega) (by omega)]; omega
  rw [wk]
  by_cases hlt : p + k < s.length
  · rw [decide_eq_true (show ((p + k : Nat) : Int) < s.length by omega)]
    refine cT ⟨⟨by omega, by omega⟩, _, pClass _, ?_⟩
    rw [bAt_nat hlt]
    have hc := hf s[p + k]
    have hd : s.drop (p + k) = s[p + k] :: s.drop (p + (k + 1)) := List.drop_eq_getElem_cons hlt
    have stop : f s[p + k] = false → ref14_run_J2i X ((s.drop p).takeWhile f).length k true := fun q => cT (by
      rw [he, hd, List.takeWhile_cons, q]; simp)
    have go : f s[p + k] = true → ref14_run_J2i X ((s.drop p).takeWhile f).length k false := fun q => cF (by
      rw [w1 (by omega)]
      refine hX _ ⟨k + 1, rfl, by omega, ?_⟩ (by omega)
      rw [he, hd, List.takeWhile_cons, q]
      show k + (s[p + k] :: (s.drop (p + (k + 1))).takeWhile f).length = _
      rw [List.length_cons]; omega)
    generalize sClass (s[p + k].toNat : Int) = z at *
    refine ⟨fun ha => ⟨fun hb => ?_, fun hb => go ?_⟩, fun ha => go ?_⟩
    · have ha : ¬ z = a := by simpa using ha
      have hb : ¬ z = b := by simpa using hb
      by_cases e : z = d
      · have e' : (!(z == d)) = false := by simpa using e
        rw [e']; exact go (hc.2 (.inr (.inr e)))
      · have e' : (!(z == d)) = true := by simpa using e
        rw [e']
        refine stop ?_
        rw [← Bool.not_eq_true]
        intro q
        rcases hc.1 q with q | q | q
        · exact ha q
        · exact hb q
        · exact e q
    · have hb : z = b := by simpa using hb
      exact hc.2 (.inr (.inl hb))
    · have ha : z = a := by simpa using ha
      exact hc.2 (.inl ha)
  · rw [decide_eq_false (show ¬ ((p + k : Nat) : Int) < s.length by omega)]
    refine cF ?_
    rw [he, List.drop_of_length_le (by omega)]; simp
theorem clsU {c : UInt8} : sClass (c.toNat : Int) = 2 ↔ isU c = true := by
  simp only [isU, Bool.and_eq_true, decide_eq_true_eq]
  unfold sClass
  split <;> (try split) <;> (try split) <;> (try split) <;> (try split) <;> (try split) <;> omega
theorem clsD {c : UInt8} : sClass (c.toNat : Int) = 3 ↔ isD c = true := by
  simp only [isD, Bool.and_eq_true, decide_eq_true_eq]
  unfold sClass
  split <;> (try split) <;> (try split) <;> (try split) <;> (try split) <;> (try split) <;> omega
theorem cls39 {c : UInt8} : sClass (c.toNat : Int) = 5 ↔ c = 39 := by
  have h : c = 39 ↔ c.toNat = 39 := ⟨fun e => by rw [e]; rfl, fun e => UInt8.toNat_inj.1 (by rw [e]; rfl)⟩
  rw [h]
  unfold sClass
  split <;> (try split) <;> (try split) <;> (try split) <;> (try split) <;> (try split) <;> omega
theorem clsB {c : UInt8} : sClass (c.toNat : Int) = 6 ↔ isB c = true := by
  simp only [isB, Bool.or_eq_true, beq_iff_eq]
  unfold sClass
  split <;> (try split) <;> (try split) <;> (try split) <;> (try split) <;> (try split) <;> omega
/-! ### texts -/
def tx : Str → Option (Str × Nat)
  | [] => none
  | [c] => if c = 39 then some ([], 1) else none
  | c :: d :: r => if c = 39 then (if d = 39 then (tx r).map fun p => (39 :: p.1, p.2 + 2) else some ([], 1)) else (tx (d :: r)).map fun p => (c :: p.1, p.2 + 1)
theorem tx_le : ∀ (n : Nat) (r : Str), r.length ≤ n → ∀ t k, tx r = some (t, k) → k ≤ r.length := by
  intro n
  induction n with
  | zero =>
    intro r h t k e
    have : r = [] := List.eq_nil_of_length_eq_zero (by omega)
    subst this; cases e
  | succ n ih =>
    intro r h t k e
    match r, h, e with
    | [c], h, e =>
      simp only [tx] at e
      split at e
      · cases e; simp
      · cases e
    | c :: d :: r, h, e =>
      simp only [tx] at e
      split at e
      · split at e
        · rw [Option.map_eq_some_iff] at e
          obtain ⟨⟨t', k'⟩, h1, h2⟩ := e
          cases h2
          have := ih r (by simp at h; omega) t' k' h1
          simp; omega
        · cases e; simp
      · rw [Option.map_eq_some_iff] at e
        obtain ⟨⟨t', k'⟩, h1, h2⟩ := e
        cases h2
        have := ih (d :: r) (by simp at h ⊢; omega) t' k' h1
        simp at this ⊢; omega
/-- what a text's look comes to -/
def txR (r : Str) : Str × Int × Int := match tx r with
  | none => ([], 0, 4)
  | some (t, k) => if 64 < t.length then ([], 0, 8) else (t, ((k + 1 : Nat) : Int), 0)
def addT (o : Str) (k : Nat) (q : Option (Str × Nat)) : Option (Str × Nat) := q.map fun p => (o ++ p.1, k + p.2)
theorem addT_add (o o' : Str) (k k' : Nat) (q : Option (Str × Nat)) : addT o k (addT o' k' q) = addT (o ++ o') (k + k') q := by
  cases q with
  | none => rfl
  | some q => simp [addT, Nat.add_assoc]
theorem addT0 (q : Option (Str × Nat)) : addT [] 0 q = q := by cases q <;> simp [addT]
/-- one step: at a place i -/
theorem tx_go {s : Str} {i : Nat} (hi : i < s.length) (h : ¬ s[i] = 39) : tx (s.drop i) = addT [s[i]] 1 (tx (s.drop (i + 1))) := by
  rw [List.drop_eq_getElem_cons hi]
  cases hd : s.drop (i + 1) with
  | nil => simp only [tx, addT]; rw [if_neg h]; rfl
  | cons d r =>
    simp only [tx]
    rw [if_neg h]
    cases tx (d :: r) <;> simp [addT, Nat.add_comm]
theorem tx_two {s : Str} {i : Nat} (hi : i + 1 < s.length) (h : s[i] = 39) (h' : s[i + 1] = 39) : tx (s.drop i) = addT [39] 2 (tx (s.drop (i + 2))) := by
  rw [List.drop_eq_getElem_cons (show i < s.length by omega), List.drop_eq_getElem_cons hi]
  simp only [tx]
  rw [if_pos h, if_pos h']
  cases tx (s.drop (i + 2)) <;> simp [addT, Nat.add_comm]
theorem tx_end {s : Str} {i : Nat} (hi : i < s.length) (h : s[i] = 39) (h' : ∀ hj : i + 1 < s.length, ¬ s[i + 1] = 39) : tx (s.drop i) = some ([], 1) := by
  rw [List.drop_eq_getElem_cons hi]
  by_cases hj : i + 1 < s.length
  · rw [List.drop_eq_getElem_cons hj]
    simp only [tx]
    rw [if_pos h, if_neg (h' hj)]
  · rw [List.drop_of_length_le (by omega)]
    simp only [tx]
    rw [if_pos h]
theorem tx_none {s : Str} {i : Nat} (hi : s.length ≤ i) : tx (s.drop i) = none := by
  rw [List.drop_of_length_le hi]; rfl
theorem toB_ofB (s : Str) : (s.map ofB).map toB = s := by
  induction s with
  | nil => rfl
  | cons c s ih =>
    simp only [List.map_cons, ih]
    congr 1
    show UInt8.ofNat ((c.toNat : Int).toNat) = c
    rw [Int.toNat_natCast]; exact UInt8.ofNat_toNat
theorem pTextF {s : Str} (h : s.length ≤ 2000) (hs : 1 ≤ s.length) : lex_text_o s (txR (s.drop 1)).1 (txR (s.drop 1)).2.1 (txR (s.drop 1)).2.2 := by
  apply lex_text_i
  refine lp2 (fun (x : Int) (y : List Int) => ∃ (i : Nat) (o : Str), x = i ∧ 1 ≤ i ∧ i ≤ s.length + 1 ∧ y = o.map ofB ∧ o.length ≤ i ∧ tx (s.drop 1) = addT o (i - 1) (tx (s.drop i))) (fun (x : Int) (_ : List Int) => s.length + 2 - x.toNat) ?_ ⟨1, [], rfl, by omega, by omega, rfl, by simp, by rw [addT0]⟩
  rintro X x y ⟨i, o, rfl, h1, h2, rfl, h3, he⟩ hX
  unfold lex_text_L1i
  by_cases hi : i < s.length
  · have wi := w1 (i := i) (by omega)
    rw [decide_eq_true (show (i : Int) < s.length by omega), wi, q39, bAt39 hi]
    by_cases h39 : s[i] = 39
    · rw [h39]
      refine cT ⟨⟨by omega, by omega⟩, ⟨by omega, by decide⟩, cF ?_⟩
      by_cases hn : ∃ hj : i + 1 < s.length, s[i + 1] = 39
      · obtain ⟨hj, e39⟩ := hn
        rw [decide_eq_true (show ((i + 1 : Nat) : Int) < s.length by omega), bAt39 hj, e39]
        refine cT ⟨⟨by omega, by omega⟩, ⟨by omega, by decide⟩, ?_⟩
        unfold lex_text_J2i
        refine cT ⟨⟨by omega, by omega⟩, by rw [List.length_map]; omega, ?_⟩
        rw [wi, w1 (i := i + 1) (by omega)]
        refine hX _ _ ⟨i + 2, o ++ [39], rfl, by omega, by omega, ?_, by simp; omega, ?_⟩ (by omega)
        · rw [bAt_nat hi, h39, List.map_append]; rfl
        · rw [he, tx_two hj h39 e39, addT_add]
          have : i - 1 + 2 = i + 2 - 1 := by omega
          rw [this]
      · have hend := tx_end hi h39 (fun hj e => hn ⟨hj, e⟩)
        rw [hend] at he
        have hR : txR (s.drop 1) = if 64 < o.length then ([], 0, 8) else (o, ((i + 1 : Nat) : Int), 0) := by
          unfold txR
          rw [he]
          simp only [addT, Option.map_some, List.append_nil]
          have : i - 1 + 1 + 1 = i + 1 := by omega
          rw [this]
        have fin : lex_text_J2i X s (txR (s.drop 1)).1 (txR (s.drop 1)).2.1 (txR (s.drop 1)).2.2 i false (o.map ofB) := by
          unfold lex_text_J2i
          refine cF ?_
          rw [hR, List.length_map]
          by_cases hl : 64 < o.length
          · rw [if_pos hl, decide_eq_true (show (64 : Int) < o.length by omega)]
            exact cT ⟨rfl, rfl, rfl⟩
          · rw [if_neg hl, decide_eq_false (show ¬ (64 : Int) < o.length by omega)]
            exact cF ⟨toB_ofB o, wi, rfl⟩
        by_cases hj : i + 1 < s.length
        · have e39 : (s[i + 1] == 39) = false := by
            rw [beq_eq_false_iff_ne]; exact fun e => hn ⟨hj, e⟩
          rw [decide_eq_true (show ((i + 1 : Nat) : Int) < s.length by omega), bAt39 hj, e39]
          exact cT ⟨⟨by omega, by omega⟩, ⟨by omega, by decide⟩, fin⟩
        · rw [decide_eq_false (show ¬ ((i + 1 : Nat) : Int) < s.length by omega)]
          exact cF fin
    · rw [show (s[i] == 39) = false by rw [beq_eq_false_iff_ne]; exact h39]
      refine cT ⟨⟨by omega, by omega⟩, ⟨by omega, by decide⟩, cT ⟨⟨by omega, by omega⟩, by rw [List.length_map]; omega, hX _ _ ⟨i + 1, o ++ [s[i]], rfl, by omega, by omega, ?_, by simp; omega, ?_⟩ (by omega)⟩⟩
      · rw [bAt_nat hi, List.map_append]; rfl
      · rw [he, tx_go hi h39, addT_add]
        have : i - 1 + 1 = i + 1 - 1 := by omega
        rw [this]
  · rw [decide_eq_false (show ¬ (i : Int) < s.length by omega)]
    rw [tx_none (s := s) (i := i) (by omega)] at he
    have hR : txR (s.drop 1) = ([], 0, 4) := by unfold txR; rw [he]; rfl
    rw [hR]
    exact cF ⟨rfl, rfl, rfl⟩
/-! ### signs -/
def sg (s : Str) : Str := (sgs.find? (pre s)).getD []
theorem pSgF (s : Str) : ∀ X1 : Int → Prop, (∀ x, lex_first_L1i s (if sg s = [] then tok0 else ⟨5, sg s, 0, 0⟩) (if sg s = [] then 0 else (sg s).length) (if sg s = [] then 4 else 0) X1 x → X1 x) → X1 0 := by
  refine lp1 (fun (x : Int) => ∃ k : Nat, x = k ∧ k ≤ 16 ∧ sg s = ((sgs.drop k).find? (pre s)).getD []) (fun (x : Int) => 16 - x.toNat) ?_ ⟨0, rfl, by omega, rfl⟩
  rintro X x ⟨k, rfl, hk, he⟩ hX
  by_cases h : k < 16
  · have hlt : k < sgs.length := by show k < 16; omega
    have hd : sgs.drop k = sgAt k :: sgs.drop (k + 1) := by
      rw [List.drop_eq_getElem_cons hlt]
      congr 1
      unfold sgAt
      rw [List.getElem?_eq_getElem hlt]; rfl
    rw [hd, List.find?_cons] at he
    refine sgStep h (fun q => ?_) (fun q => ?_)
    · rw [q] at he
      have he : sg s = sgAt k := he
      have := sgAt_pos h
      have hne : ¬ sgAt k = [] := fun e => by rw [e] at this; simp at this
      rw [he, if_neg hne, if_neg hne, if_neg hne]
      exact ⟨rfl, rfl, rfl⟩
    · rw [q] at he
      exact hX _ ⟨k + 1, rfl, by omega, he⟩ (by omega)
  · have : k = 16 := by omega
    subst this
    have he : sg s = [] := he
    unfold lex_first_L1i
    rw [decide_eq_false (show ¬ ((16 : Nat) : Int) < 16 by omega), if_pos he, if_pos he, if_pos he]
    exact cF ⟨rfl, rfl, rfl⟩
theorem pre1 (c d : UInt8) (r : Str) : pre (c :: r) [d] = (c == d) := by
  unfold pre
  rw [Bool.eq_iff_iff]; simp
theorem sg_le (s : Str) : (sg s).length ≤ s.length := by
  unfold sg
  cases h : sgs.find? (pre s) with
  | none => simp
  | some x =>
    have := List.find?_some h
    simp only [pre, Bool.and_eq_true, decide_eq_true_eq] at this
    exact this.1
def one12 (c : UInt8) : Bool := c == 40 || (c == 41 || (c == 44 || (c == 46 || (c == 42 || (c == 43 || (c == 45 || (c == 47 || (c == 37 || (c == 61 || (c == 60 || c == 62))))))))))
def two4 (s : Str) : Bool := pre s [60, 62] || (pre s [60, 61] || (pre s [62, 61] || pre s [124, 124]))
theorem sg_two {s : Str} (h : two4 s = true) : sg s = s.take 2 := by
  unfold two4 at h
  unfold sg sgs
  have eq : ∀ {p : Str}, p.length = 2 → pre s p = true → s.take 2 = p := fun hp q => by
    simp only [pre, Bool.and_eq_true, decide_eq_true_eq, beq_iff_eq] at q
    rw [← hp]; exact q.2
  simp only [List.find?_cons]
  cases h1 : pre s [60, 62] with
  | true => exact (eq rfl h1).symm
  | false =>
    cases h2 : pre s [60, 61] with
    | true => exact (eq rfl h2).symm
    | false =>
      cases h3 : pre s [62, 61] with
      | true => exact (eq rfl h3).symm
      | false =>
        cases h4 : pre s [124, 124] with
        | true => exact (eq rfl h4).symm
        | false => rw [h1, h2, h3, h4] at h; cases h
theorem sg_one {c : UInt8} {r : Str} (h : two4 (c :: r) = false) : sg (c :: r) = if one12 c then [c] else [] := by
  unfold two4 at h
  simp only [Bool.or_eq_false_iff] at h
  obtain ⟨h1, h2, h3, h4⟩ := h
  unfold sg sgs one12
  simp only [List.find?_cons, h1, h2, h3, h4, pre1, List.find?_nil]
  by_cases e1 : c = 40
  · subst e1; rfl
  by_cases e2 : c = 41
  · subst e2; rfl
  by_cases e3 : c = 44
  · subst e3; rfl
  by_cases e4 : c = 46
  · subst e4; rfl
  by_cases e5 : c = 42
  · subst e5; rfl
  by_cases e6 : c = 43
  · subst e6; rfl
  by_cases e7 : c = 45
  · subst e7; rfl
  by_cases e8 : c = 47
  · subst e8; rfl
  by_cases e9 : c = 37
  · subst e9; rfl
  by_cases e10 : c = 61
  · subst e10; rfl
  by_cases e11 : c = 60
  · subst e11; rfl
  by_cases e12 : c = 62
  · subst e12; rfl
  have b : ∀ d : UInt8, ¬ c = d → (c == d) = false := fun d q => by rw [beq_eq_false_iff_ne]; exact q
  simp only [b 40 e1, b 41 e2, b 44 e3, b 46 e4, b 42 e5, b 43 e6, b 45 e7, b 47 e8, b 37 e9, b 61 e10, b 60 e11, b 62 e12]
  rfl
theorem bEq {c : UInt8} {n : Nat} (h : n < 256) : ((c.toNat : Int) == (n : Int)) = (c == UInt8.ofNat n) := by
  rw [Bool.eq_iff_iff, beq_iff_eq, beq_iff_eq]
  constructor
  · intro e
    refine UInt8.toNat_inj.1 ?_
    rw [UInt8.toNat_ofNat', Nat.mod_eq_of_lt h]; omega
  · intro e; rw [e, UInt8.toNat_ofNat', Nat.mod_eq_of_lt h]
theorem pSign14 {c : UInt8} {r : Str} (hl : (c :: r).length ≤ 2000) : ref14_sign_o (c :: r) (sg (c :: r)) := by
  apply ref14_sign_i
  have one : two4 (c :: r) = false → ref14_sign_J1i (sg (c :: r)) (c :: r) := by
    intro h2
    have hs := sg_one h2
    unfold ref14_sign_J1i
    have b0 : bAt (c :: r) 0 = (c.toNat : Int) := rfl
    rw [b0]
    have k : ∀ b : Bool, b = one12 c → ref14_sign_J2i (sg (c :: r)) (c :: r) b := by
      intro b hb
      unfold ref14_sign_J2i
      subst hb
      cases h : one12 c with
      | true => rw [h] at hs; rw [hs]; exact cT ⟨⟨by omega, by omega, by rw [List.length_cons]; omega⟩, rfl⟩
      | false => rw [h] at hs; rw [hs]; exact cF rfl
    refine ⟨hb0, ?_⟩
    have e := fun n h => bEq (c := c) (n := n) h
    have e40 := e 40 (by decide); have e41 := e 41 (by decide); have e44 := e 44 (by decide); have e46 := e 46 (by decide); have e42 := e 42 (by decide); have e43 := e 43 (by decide); have e45 := e 45 (by decide); have e47 := e 47 (by decide); have e37 := e 37 (by decide); have e61 := e 61 (by decide); have e60 := e 60 (by decide); have e62 := e 62 (by decide)
    rw [show ((40 : Nat) : Int) = 40 from rfl] at e40
    rw [show ((41 : Nat) : Int) = 41 from rfl] at e41
    rw [show ((44 : Nat) : Int) = 44 from rfl] at e44
    rw [show ((46 : Nat) : Int) = 46 from rfl] at e46
    rw [show ((42 : Nat) : Int) = 42 from rfl] at e42
    rw [show ((43 : Nat) : Int) = 43 from rfl] at e43
    rw [show ((45 : Nat) : Int) = 45 from rfl] at e45
    rw [show ((47 : Nat) : Int) = 47 from rfl] at e47
    rw [show ((37 : Nat) : Int) = 37 from rfl] at e37
    rw [show ((61 : Nat) : Int) = 61 from rfl] at e61
    rw [show ((60 : Nat) : Int) = 60 from rfl] at e60
    rw [show ((62 : Nat) : Int) = 62 from rfl] at e62
    rw [e40, e41, e44, e46, e42, e43, e45, e47, e37, e61, e60, e62]
    unfold one12 at k
    clear e40 e41 e44 e46 e42 e43 e45 e47 e37 e61 e60 e62 e
    generalize (c == 40) = y1 at *
    generalize (c == 41) = y2 at *
    generalize (c == 44) = y3 at *
    generalize (c == 46) = y4 at *
    generalize (c == 42) = y5 at *
    generalize (c == 43) = y6 at *
    generalize (c == 45) = y7 at *
    generalize (c == 47) = y8 at *
    generalize (c == 37) = y9 at *
    generalize (c == 61) = y10 at *
    generalize (c == 60) = y11 at *
    generalize (c == 62) = y12 at *
    refine ⟨fun a1 => k _ ?_, fun a1 => ⟨fun a2 => k _ ?_, fun a2 => ⟨fun a3 => k _ ?_, fun a3 => ⟨fun a4 => k _ ?_, fun a4 => ⟨fun a5 => k _ ?_, fun a5 => ⟨fun a6 => k _ ?_, fun a6 => ⟨fun a7 => k _ ?_, fun a7 => ⟨fun a8 => k _ ?_, fun a8 => ⟨fun a9 => k _ ?_, fun a9 => ⟨fun a10 => k _ ?_, fun a10 => ⟨fun a11 => k _ ?_, fun a11 => k _ ?_⟩⟩⟩⟩⟩⟩⟩⟩⟩⟩⟩
    all_goals simp only [*, Bool.true_or, Bool.false_or, Bool.or_true]
  have two : two4 (c :: r) = true → ref14_sign_J3i (c :: r) (sg (c :: r)) true := by
    intro h2
    have hs := sg_two h2
    have h2l : 2 ≤ (c :: r).length := by
      unfold two4 at h2
      simp only [Bool.or_eq_true, pre, Bool.and_eq_true, decide_eq_true_eq] at h2
      rcases h2 with h | h | h | h <;> exact h.1
    rw [hs]
    exact cT ⟨⟨by omega, by omega, by omega⟩, rfl⟩
  unfold ref14_sign_oi
  by_cases hl2 : 2 ≤ (c :: r).length
  · rw [decide_eq_true (show (2 : Int) ≤ (c :: r).length by omega)]
    refine cT ⟨⟨by omega, by omega, by omega⟩, ?_⟩
    have et : (List.take ((2 : Int).toNat - (0 : Int).toNat) (List.drop (0 : Int).toNat (c :: r))) = (c :: r).take 2 := rfl
    rw [et]
    have ep : ∀ p : Str, p.length = 2 → ((c :: r).take 2 == p) = pre (c :: r) p := fun p hp => by
      unfold pre; rw [hp, decide_eq_true hl2]; rfl
    rw [ep [60, 62] rfl, ep [60, 61] rfl, ep [62, 61] rfl, ep [124, 124] rfl]
    have k : ∀ b : Bool, b = two4 (c :: r) → ref14_sign_J3i (c :: r) (sg (c :: r)) b := by
      intro b hb
      cases b with
      | true => exact two hb.symm
      | false => exact cF (one hb.symm)
    unfold two4 at k
    generalize pre (c :: r) [60, 62] = x1 at *
    generalize pre (c :: r) [60, 61] = x2 at *
    generalize pre (c :: r) [62, 61] = x3 at *
    generalize pre (c :: r) [124, 124] = x4 at *
    refine ⟨fun a1 => k _ ?_, fun a1 => ⟨fun a2 => k _ ?_, fun a2 => ⟨fun a3 => k _ ?_, fun a3 => k _ ?_⟩⟩⟩
    · rw [a1]; rfl
    · rw [a1, a2]; rfl
    · rw [a1, a2, a3]; rfl
    · rw [a1, a2, a3]; rfl
  · rw [decide_eq_false (show ¬ (2 : Int) ≤ (c :: r).length by omega)]
    refine cF (one ?_)
    rw [← Bool.not_eq_true]
    intro h2
    unfold two4 at h2
    simp only [Bool.or_eq_true, pre, Bool.and_eq_true, decide_eq_true_eq] at h2
    rcases h2 with h | h | h | h <;> exact hl2 h.1
end Go.Proofs.YteoohihaibgplaaDoor
