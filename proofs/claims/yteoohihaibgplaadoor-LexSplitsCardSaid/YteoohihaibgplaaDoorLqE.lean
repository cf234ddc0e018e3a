import Derived.Test.YteoohihaibgplaaDoorLqC
import Derived.Lib.ItoaLen
import Derived.Lib.ReplaceLaws
import Derived.Lib.Join
namespace Go.Proofs.YteoohihaibgplaaDoor
open Go.AV Go.RowKit

def dq (s : Str) : Str := s.flatMap fun c => if c = 39 then [39, 39] else [c]
theorem dq_len (s : Str) : (dq s).length ≤ 2 * s.length := by
  induction s with
  | nil => simp [dq]
  | cons c s ih =>
    have : (dq (c :: s)).length = (if c = 39 then [39, 39] else [c]).length + (dq s).length := by simp [dq]
    rw [this]; split <;> simp <;> omega
theorem dq_app (a b : Str) : dq (a ++ b) = dq a ++ dq b := by simp [dq]
theorem dq_id {s : Str} (h : ∀ c ∈ s, c ≠ 39) : dq s = s := by
  induction s with
  | nil => rfl
  | cons c s ih =>
    have e : dq (c :: s) = (if c = 39 then [39, 39] else [c]) ++ dq s := rfl
    rw [e, if_neg (h c (by simp)), ih fun d hd => h d (List.mem_cons_of_mem _ hd)]; rfl
theorem occ39 (s : Str) (j : Nat) : Go.Lib.occAt s [39] j = true ↔ s[j]? = some 39 := by
  unfold Go.Lib.occAt
  by_cases h : j < s.length
  · rw [List.drop_eq_getElem_cons h, List.getElem?_eq_getElem h]
    simp [List.isPrefixOf]
    exact eq_comm
  · rw [List.drop_of_length_le (by omega), List.getElem?_eq_none (by omega)]; simp
theorem repl39 : ∀ (n : Nat) (s : Str), s.length ≤ n → Go.Lib.replaceK [39] [39, 39] (Go.Lib.count s [39]) s = dq s := by
  intro n
  induction n with
  | zero =>
    intro s hs
    have : s = [] := List.eq_nil_of_length_eq_zero (by omega)
    subst this; rfl
  | succ n ih =>
    intro s hs
    rcases Go.Lib.index_spec s [39] with ⟨h1, h2⟩ | ⟨i, h1, h2, h3, h4⟩
    · have hc : Go.Lib.count s [39] = 0 := by
        unfold Go.Lib.count Go.Lib.countFrom
        rw [h1]; rfl
      rw [hc]
      have : ∀ c ∈ s, c ≠ 39 := by
        intro c hm e
        subst e
        obtain ⟨j, hj⟩ := List.getElem?_of_mem hm
        have hlt : j < s.length := (List.getElem?_eq_some_iff.1 hj).1
        have := h2 j (by omega)
        rw [(occ39 s j).2 hj] at this; cases this
      rw [dq_id this]; rfl
    · have hi := (occ39 s i).1 h3
      have hlt : i < s.length := (List.getElem?_eq_some_iff.1 hi).1
      have hc : Go.Lib.count s [39] = Go.Lib.count (s.drop (i + 1)) [39] + 1 := by
        rw [Go.Lib.count_hit (by simp) h1, Nat.add_comm]; rfl
      rw [hc, Go.Lib.replaceK_hit _ _ _ _ i h1]
      show s.take i ++ [39, 39] ++ Go.Lib.replaceK [39] [39, 39] (Go.Lib.count (s.drop (i + 1)) [39]) (s.drop (i + 1)) = dq s
      rw [ih (s.drop (i + 1)) (by rw [List.length_drop]; omega)]
      have hs' : s = s.take i ++ ([39] ++ s.drop (i + 1)) := by
        have e1 : s[i] = 39 := by rw [List.getElem?_eq_getElem hlt] at hi; exact Option.some.inj hi
        have := List.drop_eq_getElem_cons hlt
        rw [e1] at this
        conv => lhs; rw [← List.take_append_drop i s, this]
        rfl
      have hd : dq s = dq (s.take i) ++ ([39, 39] ++ dq (s.drop (i + 1))) := by
        conv => lhs; rw [hs', dq_app, dq_app]
        rfl
      have ht : dq (s.take i) = s.take i := by
        refine dq_id fun c hm e => ?_
        subst e
        obtain ⟨j, hj⟩ := List.getElem?_of_mem hm
        have hlt' : j < (s.take i).length := (List.getElem?_eq_some_iff.1 hj).1
        rw [List.length_take] at hlt'
        rw [List.getElem?_take, if_pos (by omega)] at hj
        have := h4 j (by omega)
        rw [(occ39 s j).2 hj] at this; cases this
      rw [hd, ht, List.append_assoc]
theorem replAll (s : Str) : Go.Lib.replaceAll s [39] [39, 39] = dq s := by
  unfold Go.Lib.replaceAll Go.Lib.replace Go.Lib.replaceNum
  rw [if_neg (by decide), if_pos (.inl (by omega))]
  exact repl39 _ _ (Nat.le_refl _)
def dnum (s : Str) : Nat := s.foldl (fun a c => a * 10 + (c.toNat - 48)) 0
theorem dnum_snoc (s : Str) (c : UInt8) : dnum (s ++ [c]) = dnum s * 10 + (c.toNat - 48) := by simp [dnum]
theorem dec_ok : ∀ (k : Nat) (n : Nat), n ≤ k → dnum (Go.Lib.decDigits n) = n ∧ (∀ c ∈ Go.Lib.decDigits n, isD c = true) ∧ Go.Lib.decDigits n ≠ [] := by
  intro k
  induction k with
  | zero =>
    intro n hn
    have : n = 0 := by omega
    subst this
    rw [Go.Lib.decDigits.eq_1, dif_pos (by omega)]
    refine ⟨rfl, fun c hc => ?_, by simp⟩
    simp at hc; subst hc; rfl
  | succ k ih =>
    intro n hn
    have one : ∀ d : Nat, d < 10 → (UInt8.ofNat (48 + d)).toNat = 48 + d := fun d hd => by rw [UInt8.toNat_ofNat']; omega
    have oneD : ∀ d : Nat, d < 10 → isD (UInt8.ofNat (48 + d)) = true := fun d hd => by
      unfold isD; rw [one d hd]; simp; omega
    rw [Go.Lib.decDigits.eq_1]
    by_cases h10 : n < 10
    · rw [dif_pos h10]
      refine ⟨?_, fun c hc => ?_, by simp⟩
      · show 0 * 10 + ((UInt8.ofNat (48 + n)).toNat - 48) = n
        rw [one n h10]; omega
      · rw [List.mem_singleton] at hc; subst hc; exact oneD n h10
    · rw [dif_neg h10]
      obtain ⟨i1, i2, _⟩ := ih (n / 10) (by omega)
      refine ⟨?_, fun c hc => ?_, by simp⟩
      · rw [dnum_snoc, i1, one (n % 10) (by omega)]; omega
      · rcases List.mem_append.1 hc with h | h
        · exact i2 c h
        · rw [List.mem_singleton] at h; subst h; exact oneD _ (by omega)
theorem itoa_ok {n : Int} (h : 0 ≤ n) : (dnum (Go.Lib.itoa n) : Int) = n ∧ (∀ c ∈ Go.Lib.itoa n, isD c = true) ∧ Go.Lib.itoa n ≠ [] := by
  have e : Go.Lib.itoa n = Go.Lib.decDigits n.toNat := by unfold Go.Lib.itoa; rw [if_neg (by omega)]
  obtain ⟨a, b, c⟩ := dec_ok n.toNat n.toNat (Nat.le_refl _)
  rw [e]
  exact ⟨by rw [a]; omega, b, c⟩

/-! ### both splits -/
def r14 (t : Tok) : T14 := ⟨t.Kind, t.S, t.N, t.At⟩
def LR (s : Str) (l : List Tok) (a e : Int) (p : Nat) (out : List Tok) : Prop := ∀ X : Int → List Tok → Prop, (∀ x y, lex_Split_L1i s l a e X x y → X x y) → X (p : Int) out
def RR (s : Str) (l : List T14) (a e : Int) (p : Nat) (out : List T14) : Prop := ∀ X : Int → List T14 → Prop, (∀ x y, ref14_Split_L1i s l a e X x y → X x y) → X (p : Int) out
theorem rrB {s : Str} (hl : s.length ≤ 2000) {l : List T14} {a e : Int} {out : List T14} : ∀ (k p : Nat), ((s.drop p).takeWhile isB).length = k → RR s l a e (p + k) out → RR s l a e p out := by
  intro k
  induction k with
  | zero => intro p _ h; exact h
  | succ k ih =>
    intro p hk h
    have hp : p < s.length := by
      have := tw_len isB (s.drop p)
      rw [List.length_drop] at this; omega
    have hd : s.drop p = s[p] :: s.drop (p + 1) := List.drop_eq_getElem_cons hp
    rw [hd, List.takeWhile_cons] at hk
    cases hb : isB s[p] with
    | false => rw [hb] at hk; simp at hk
    | true =>
      rw [hb] at hk
      have hk : ((s.drop (p + 1)).takeWhile isB).length = k := by simpa using hk
      have h' := ih (p + 1) hk (by have : p + 1 + k = p + (k + 1) := by omega
                                   rw [this]; exact h)
      intro X hX
      refine hX _ _ ?_
      unfold ref14_Split_L1i
      rw [decide_eq_true (show (p : Int) < s.length by omega)]
      refine cT ⟨⟨by omega, by omega⟩, _, pClass _, ?_⟩
      rw [bAt_nat hp, clsB.2 hb, w1 (by omega)]
      exact cT (h' X hX)
theorem nbB {s : Str} : ∀ (k p : Nat), ((s.drop p).takeWhile isB).length = k → ∀ h : p + k < s.length, isB s[p + k] = false := by
  intro k
  induction k with
  | zero =>
    intro p hk h
    have hd : s.drop p = s[p] :: s.drop (p + 1) := List.drop_eq_getElem_cons (by omega)
    rw [hd, List.takeWhile_cons] at hk
    cases hb : isB s[p] with
    | false => rfl
    | true => rw [hb] at hk; simp at hk
  | succ k ih =>
    intro p hk h
    have hd : s.drop p = s[p] :: s.drop (p + 1) := List.drop_eq_getElem_cons (by omega)
    rw [hd, List.takeWhile_cons] at hk
    cases hb : isB s[p] with
    | false => rw [hb] at hk; simp at hk
    | true =>
      rw [hb] at hk
      have hk : ((s.drop (p + 1)).takeWhile isB).length = k := by simpa using hk
      have := ih (p + 1) hk (by omega)
      have e : p + (k + 1) = p + 1 + k := by omega
      simp only [e]; exact this
theorem both {s : Str} (hl : s.length ≤ 2000) : ∀ (n p : Nat) (out : List Tok), s.length - p ≤ n → p ≤ s.length → out.length ≤ p → (∀ h : p < s.length, isB s[p] = false) →
    ∃ l a e, LR s l a e p out ∧ RR s (l.map r14) a e p (out.map r14) ∧ (e = 0 → (∀ t ∈ out, WT t) → ∀ t ∈ l, WT t) ∧ l.length ≤ s.length := by
  intro n
  induction n using Nat.strongRecOn with
  | _ n ih =>
    intro p out hn hp ho hb
    by_cases hlt : p < s.length
    · have hd : s.drop p = s[p] :: s.drop (p + 1) := List.drop_eq_getElem_cons hlt
      have hdl : (s.drop p).length = s.length - p := List.length_drop
      have hf := pFirstF (c := s[p]) (r := s.drop (p + 1)) (by rw [← hd, hdl]; omega)
      rw [← hd] at hf
      by_cases he : (fR s[p] (s.drop (p + 1))).2.2 = 0
      · obtain ⟨g1, g2, g3⟩ := fR_ok he
        rw [← hd, hdl] at g2
        obtain ⟨m, hm⟩ : ∃ m : Nat, (fR s[p] (s.drop (p + 1))).2.1 = m := ⟨(fR s[p] (s.drop (p + 1))).2.1.toNat, by omega⟩
        have hk2 := tw_len isB (s.drop (p + m))
        rw [List.length_drop] at hk2
        obtain ⟨k, hk⟩ : ∃ k, ((s.drop (p + m)).takeWhile isB).length = k := ⟨_, rfl⟩
        obtain ⟨l, a, e, i1, i2, i3, i4⟩ := ih (s.length - (p + m + k)) (by omega) (p + m + k) (out ++ [⟨(fR s[p] (s.drop (p + 1))).1.Kind, (fR s[p] (s.drop (p + 1))).1.S, (fR s[p] (s.drop (p + 1))).1.N, p⟩]) (Nat.le_refl _) (by omega) (by simp; omega) (nbB k (p + m) hk)
        refine ⟨l, a, e, fun X hX => hX _ _ ?_, fun X hX => hX _ _ ?_, fun q hw => i3 q fun t ht => ?_, i4⟩
        · rw [he, hm] at hf
          exact splStep hlt hl ho hf (by omega) hk (i1 X hX)
        · refine refStep hlt hl (by rw [List.length_map]; omega) (hb hlt) (fun q => absurd he q) (fun _ => ?_)
          rw [hm]
          have := rrB hl k (p + m) hk i2 X hX
          rw [List.map_append] at this
          have e2 : ((p : Int) + (m : Int)) = ((p + m : Nat) : Int) := by omega
          rw [e2]; exact this
        · rcases List.mem_append.1 ht with ht | ht
          · exact hw t ht
          · rw [List.mem_singleton] at ht; subst ht; exact g3
      · refine ⟨[], p, (fR s[p] (s.drop (p + 1))).2.2, fun X hX => hX _ _ ?_, fun X hX => hX _ _ ?_, fun q => absurd q he, by simp⟩
        · unfold lex_Split_L1i
          rw [decide_eq_true (show (p : Int) < s.length by omega)]
          refine cT ⟨⟨by omega, by omega, by omega⟩, _, _, _, by rw [bAt_drop]; exact hf, ?_⟩
          have : (!((fR s[p] (s.drop (p + 1))).2.2 == 0)) = true := by simpa using he
          rw [this]
          exact cT ⟨rfl, rfl, rfl⟩
        · exact refStep hlt hl (by rw [List.length_map]; omega) (hb hlt) (fun _ => ⟨rfl, rfl, rfl⟩) (fun q => absurd q he)
    · refine ⟨out, 0, 0, fun X hX => hX _ _ (splEnd (by omega)), fun X hX => hX _ _ ?_, fun _ h => h, by omega⟩
      unfold ref14_Split_L1i
      rw [decide_eq_false (show ¬ (p : Int) < s.length by omega)]
      exact cF ⟨rfl, rfl, rfl⟩
theorem pSplits {s : Str} (hl : s.length ≤ 2000) : ∃ l a e, lex_Split_o s l a e ∧ ref14_Split_o s (l.map r14) a e ∧ (e = 0 → ∀ t ∈ l, WT t) ∧ l.length ≤ s.length := by
  have hk := tw_len isB s
  obtain ⟨l, a, e, i1, i2, i3, i4⟩ := both hl _ (s.takeWhile isB).length [] (Nat.le_refl _) hk (by simp) (fun h => by
    have := nbB (s := s) (s.takeWhile isB).length 0 rfl (by omega)
    simpa using this)
  refine ⟨l, a, e, lex_Split_i _ _ _ _ ?_, ref14_Split_i _ _ _ _ ?_, fun q => i3 q (fun t ht => by cases ht), i4⟩
  · unfold lex_Split_oi
    rw [decide_eq_false (show ¬ (2000 : Int) < s.length by omega)]
    exact cF ⟨_, pSpanG pBlank s (by omega), i1⟩
  · unfold ref14_Split_oi
    rw [decide_eq_false (show ¬ (2000 : Int) < s.length by omega)]
    refine cF ?_
    have := rrB hl (s.takeWhile isB).length 0 rfl (by rw [Nat.zero_add]; exact i2)
    exact this
/-! ### written, and read again -/
def wr (t : Tok) : Str := if t.Kind = 3 then Go.Lib.itoa t.N else if t.Kind = 4 then [39] ++ dq t.S ++ [39] else t.S
def sS (t : Tok) : Str := if t.Kind = 3 then Go.Lib.itoa t.N else t.S
theorem pWritten {t : Tok} (h : WT t) : lex_Token_written_o t (wr t) := by
  unfold lex_Token_written_o wr
  by_cases k3 : t.Kind = 3
  · have : (t.Kind == 3) = true := by simpa using k3
    rw [this, if_pos k3]
    have hn : 0 ≤ t.N ∧ t.N ≤ 9223372036854775807 := by
      unfold WT at h; rcases h with h | h | h | h | h <;> first | exact ⟨h.2.1, h.2.2⟩ | (have := h.1; omega)
    exact cT ⟨_, ⟨rfl, by omega, hn.2, rfl⟩, rfl⟩
  · have : (t.Kind == 3) = false := by simpa using k3
    rw [this, if_neg k3]
    refine cF ?_
    by_cases k4 : t.Kind = 4
    · have : (t.Kind == 4) = true := by simpa using k4
      rw [this, if_pos k4]
      have hs : t.S.length ≤ 64 := by
        unfold WT at h; rcases h with h | h | h | h | h <;> first | exact h.2.1 | (have := h.1; omega)
      have hd := dq_len t.S
      refine cT ⟨dq t.S, ⟨by omega, by simp, by simp, (replAll t.S).symm⟩, ?_, ?_, rfl⟩
      · simp; omega
      · simp; omega
    · have : (t.Kind == 4) = false := by simpa using k4
      rw [this, if_neg k4]
      exact cF rfl
theorem dec_len : ∀ (k n : Nat), n < 10 ^ (k + 1) → (Go.Lib.decDigits n).length ≤ k + 1 := by
  intro k
  induction k with
  | zero => intro n h; rw [Go.Lib.decDigits.eq_1, dif_pos (by simpa using h)]; simp
  | succ k ih =>
    intro n h
    rw [Go.Lib.decDigits.eq_1]
    by_cases h10 : n < 10
    · rw [dif_pos h10]; simp
    · rw [dif_neg h10, List.length_append]
      have : n / 10 < 10 ^ (k + 1) := by
        rw [Nat.pow_succ] at h
        omega
      have := ih (n / 10) this
      simp; omega
theorem itoa_len {n : Int} (h0 : 0 ≤ n) (h1 : n ≤ 9223372036854775807) : (Go.Lib.itoa n).length ≤ 19 := by
  have e : Go.Lib.itoa n = Go.Lib.decDigits n.toNat := by unfold Go.Lib.itoa; rw [if_neg (by omega)]
  rw [e]
  exact dec_len 18 _ (by
    have : (10 : Nat) ^ (18 + 1) = 10000000000000000000 := by decide
    omega)
theorem tx_dq : ∀ (s u : Str), (∀ c r, u = c :: r → c ≠ 39) → tx (dq s ++ 39 :: u) = some (s, (dq s).length + 1)
  | [], u, h => by
    cases u with
    | nil => rfl
    | cons c r =>
      have := h c r rfl
      show tx (39 :: c :: r) = _
      simp only [tx]
      rw [if_pos trivial, if_neg this]; rfl
  | c :: s, u, h => by
    have ih := tx_dq s u h
    have e : dq (c :: s) = (if c = 39 then [39, 39] else [c]) ++ dq s := rfl
    rw [e]
    by_cases hc : c = 39
    · subst hc
      show tx (39 :: 39 :: (dq s ++ 39 :: u)) = some (39 :: s, ((39 : UInt8) :: 39 :: dq s).length + 1)
      simp only [tx]
      rw [if_pos trivial, if_pos trivial, ih]
      simp
    · rw [if_neg hc]
      show tx (c :: (dq s ++ 39 :: u)) = some (c :: s, (c :: dq s).length + 1)
      have hne : ∃ d r, dq s ++ 39 :: u = d :: r := by
        cases dq s with
        | nil => exact ⟨_, _, rfl⟩
        | cons d r => exact ⟨_, _, rfl⟩
      obtain ⟨d, r, hdr⟩ := hne
      rw [hdr] at ih ⊢
      simp only [tx]
      rw [if_neg hc, ih]; rfl
/-- what may follow -/
def dlS (u : Str) : Prop := u = [] ∨ ∃ v, u = 32 :: v
theorem dlS_out {u : Str} (h : dlS u) (f : UInt8 → Bool) (hf : f 32 = false) : ∀ c r, u = c :: r → f c = false := by
  rintro c r rfl
  rcases h with h | ⟨v, h⟩
  · cases h
  · cases h; exact hf
theorem sg_app {S u : Str} (h : S ∈ sgs) (hu : dlS u) : sg (S ++ u) = S := by
  have two : ∀ a b : UInt8, two4 (a :: b :: u) = true → sg ([a, b] ++ u) = [a, b] := fun a b q => sg_two q
  have one : ∀ a : UInt8, one12 a = true → (∀ v, two4 (a :: 32 :: v) = false) → two4 [a] = false → sg ([a] ++ u) = [a] := fun a q q1 q2 => by
    have e : two4 (a :: u) = false := by
      rcases hu with rfl | ⟨v, rfl⟩
      · exact q2
      · exact q1 v
    have := sg_one e
    rw [q] at this; exact this
  simp only [sgs, List.mem_cons, List.not_mem_nil, or_false] at h
  rcases h with rfl | rfl | rfl | rfl | rfl | rfl | rfl | rfl | rfl | rfl | rfl | rfl | rfl | rfl | rfl | rfl
  · exact two _ _ (by simp [two4, pre])
  · exact two _ _ (by simp [two4, pre])
  · exact two _ _ (by simp [two4, pre])
  · exact two _ _ (by simp [two4, pre])
  all_goals exact one _ rfl (fun v => by simp [two4, pre]) (by simp [two4, pre])
theorem sgs_head {S : Str} (h : S ∈ sgs) : ∃ c r, S = c :: r ∧ isS c = false ∧ isU c = false ∧ isD c = false ∧ (c == 39) = false ∧ isB c = false := by
  simp only [sgs, List.mem_cons, List.not_mem_nil, or_false] at h
  rcases h with rfl | rfl | rfl | rfl | rfl | rfl | rfl | rfl | rfl | rfl | rfl | rfl | rfl | rfl | rfl | rfl <;> exact ⟨_, _, rfl, by decide, by decide, by decide, by decide, by decide⟩
theorem isU_no {c : UInt8} (h : isU c = true) : isS c = false ∧ isB c = false := by
  simp only [isU, Bool.and_eq_true, decide_eq_true_eq] at h
  unfold isS isB
  refine ⟨?_, ?_⟩
  · rw [decide_eq_false (show ¬ 97 ≤ c.toNat by omega)]; rfl
  · rw [Bool.or_eq_false_iff, beq_eq_false_iff_ne, beq_eq_false_iff_ne]; omega
theorem isD_no2 {c : UInt8} (h : isD c = true) : isS c = false ∧ isU c = false ∧ isB c = false := by
  simp only [isD, Bool.and_eq_true, decide_eq_true_eq] at h
  unfold isS isU isB
  refine ⟨?_, ?_, ?_⟩
  · rw [decide_eq_false (show ¬ 97 ≤ c.toNat by omega)]; rfl
  · rw [decide_eq_false (show ¬ 65 ≤ c.toNat by omega)]; rfl
  · rw [Bool.or_eq_false_iff, beq_eq_false_iff_ne, beq_eq_false_iff_ne]; omega
theorem firstW {t : Tok} {u : Str} (h : WT t) (hu : dlS u) (hl : (wr t ++ u).length ≤ 2000) : lex_first_o (wr t ++ u) ⟨t.Kind, sS t, t.N, 0⟩ (wr t).length 0 ∧ ∃ c v, wr t = c :: v ∧ isB c = false := by
  obtain ⟨K, S, N, A⟩ := t
  unfold WT at h
  simp only at h
  rcases h with ⟨rfl, hs, rfl⟩ | ⟨rfl, hs, hall, h16, rfl⟩ | ⟨rfl, h0, h1⟩ | ⟨rfl, hs, rfl⟩ | ⟨rfl, hs, rfl⟩
  · have ew : wr ⟨1, S, 0, A⟩ = S := rfl
    have es : sS ⟨1, S, 0, A⟩ = S := rfl
    rw [ew] at hl ⊢
    rw [es]
    obtain ⟨c, r, rfl, hS, hR⟩ := sLex_ok hs
    have h16 : (c :: r).length ≤ 16 := by
      simp only [sLex, Bool.and_eq_true, decide_eq_true_eq] at hs; exact hs.1
    have hl' : (c :: (r ++ u)).length ≤ 2000 := hl
    exact ⟨firstS (c := c) (r := r ++ u) hS (by omega) (tw hR (dlS_out hu isR (by decide))).1 h16, c, r, rfl, isS_B hS⟩
  · have ew : wr ⟨2, S, 0, A⟩ = S := rfl
    have es : sS ⟨2, S, 0, A⟩ = S := rfl
    rw [ew] at hl ⊢
    rw [es]
    cases S with
    | nil => exact absurd rfl hs
    | cons c r =>
      have hU := hall c (by simp)
      obtain ⟨n1, n2⟩ := isU_no hU
      refine ⟨?_, c, r, rfl, n2⟩
      have htw := (tw hall (dlS_out hu isU (by decide))).1
      have hf := pFirstF (c := c) (r := r ++ u) hl
      unfold fR at hf
      rw [n1, hU] at hf
      simp only [Bool.false_eq_true, if_false, if_true] at hf
      rw [show (c :: (r ++ u)).takeWhile isU = c :: r from htw] at hf
      unfold wordR at hf
      rw [if_neg (by omega)] at hf
      exact hf
  · have ew : wr ⟨3, S, N, A⟩ = Go.Lib.itoa N := rfl
    have es : sS ⟨3, S, N, A⟩ = Go.Lib.itoa N := rfl
    rw [ew] at hl ⊢
    rw [es]
    obtain ⟨a1, a2, a3⟩ := itoa_ok h0
    have hlen := itoa_len h0 h1
    have hdn : (dn 0 (Go.Lib.itoa N) : Int) = N := a1
    generalize Go.Lib.itoa N = w at *
    cases w with
    | nil => exact absurd rfl a3
    | cons c r =>
      have hD := a2 c (by simp)
      obtain ⟨n1, n2, n3⟩ := isD_no2 hD
      have hp := parseF a2 (by simp) hlen
      rw [if_neg (by omega), hdn] at hp
      have hl' : (c :: (r ++ u)).length ≤ 2000 := hl
      exact ⟨firstD (c := c) (r := r ++ u) n1 n2 hD (by omega) (tw a2 (dlS_out hu isD (by decide))).1 hp hlen, c, r, rfl, n3⟩
  · have ew : wr ⟨4, S, 0, A⟩ = 39 :: (dq S ++ [39]) := rfl
    have es : sS ⟨4, S, 0, A⟩ = S := rfl
    rw [ew] at hl ⊢
    rw [es]
    refine ⟨?_, 39, _, rfl, by decide⟩
    have hl' : (39 :: (dq S ++ [39] ++ u)).length ≤ 2000 := hl
    have hf := pFirstF (c := 39) (r := dq S ++ [39] ++ u) hl'
    have e1 : dq S ++ [39] ++ u = dq S ++ 39 :: u := by simp
    have htx : txR (dq S ++ 39 :: u) = (S, (((dq S).length + 1 + 1 : Nat) : Int), 0) := by
      unfold txR
      rw [tx_dq S u (fun c r q => by
        subst q
        rcases hu with q | ⟨v, q⟩
        · cases q
        · cases q; decide)]
      simp only
      rw [if_neg (by omega)]
    have e2 : fR 39 (dq S ++ [39] ++ u) = (⟨4, S, 0, 0⟩, (((dq S).length + 1 + 1 : Nat) : Int), 0) := by
      unfold fR
      rw [show isS 39 = false by decide, show isU 39 = false by decide, show isD 39 = false by decide, show ((39 : UInt8) == 39) = true by decide]
      simp only [Bool.false_eq_true, if_false, if_true]
      rw [e1, htx]
    rw [e2] at hf
    have e3 : ((39 :: (dq S ++ [39])).length : Int) = (((dq S).length + 1 + 1 : Nat) : Int) := by simp
    rw [e3]
    exact hf
  · have ew : wr ⟨5, S, 0, A⟩ = S := rfl
    have es : sS ⟨5, S, 0, A⟩ = S := rfl
    rw [ew] at hl ⊢
    rw [es]
    have hsg := sg_app hs hu
    obtain ⟨c, r, rfl, n1, n2, n3, n4, n5⟩ := sgs_head hs
    refine ⟨?_, c, r, rfl, n5⟩
    have hf := pFirstF (c := c) (r := r ++ u) hl
    have e2 : fR c (r ++ u) = (⟨5, c :: r, 0, 0⟩, ((c :: r).length : Int), 0) := by
      unfold fR
      rw [n1, n2, n3, n4]
      simp only [Bool.false_eq_true, if_false]
      unfold sgR
      rw [show sg (c :: (r ++ u)) = c :: r from hsg]
      rfl
    rw [e2] at hf
    exact hf
theorem jt_cons (y : Str) (r : List Str) : Go.Lib.joinTail [32] (y :: r) = 32 :: (y ++ Go.Lib.joinTail [32] r) := by
  simp [Go.Lib.joinTail]
theorem jt_dl (r : List Str) : dlS (Go.Lib.joinTail [32] r) := by
  cases r with
  | nil => exact .inl rfl
  | cons y r => exact .inr ⟨_, jt_cons y r⟩
theorem rt {s : Str} (hl : s.length ≤ 2000) : ∀ (r : List Tok) (t : Tok) (p : Nat) (out : List Tok), (∀ x ∈ t :: r, WT x) → s.drop p = wr t ++ Go.Lib.joinTail [32] (r.map wr) → p ≤ s.length → out.length ≤ p →
    ∃ l', LR s (out ++ l') 0 0 p out ∧ l'.length = (t :: r).length ∧ ∀ (i : Nat) (x y : Tok), (t :: r)[i]? = some x → l'[i]? = some y → y.Kind = x.Kind ∧ y.N = x.N ∧ y.S = sS x := by
  intro r
  induction r with
  | nil =>
    intro t p out hw hd hp ho
    have hlen : (s.drop p).length = s.length - p := List.length_drop
    obtain ⟨hf, c, v, hc, _⟩ := firstW (hw t (by simp)) (jt_dl []) (by rw [← show s.drop p = wr t ++ Go.Lib.joinTail [32] [] from hd, hlen]; omega)
    have hd : s.drop p = wr t := by
      have : Go.Lib.joinTail [32] ([] : List Str) = [] := rfl
      rw [hd, List.map_nil, this, List.append_nil]
    have hf : lex_first_o (s.drop p) ⟨t.Kind, sS t, t.N, 0⟩ (wr t).length 0 := by
      have : Go.Lib.joinTail [32] ([] : List Str) = [] := rfl
      rw [this, List.append_nil] at hf
      rw [hd]; exact hf
    have hwl : (wr t).length = s.length - p := by rw [← hd, hlen]
    have hp' : p < s.length := by rw [hc, List.length_cons] at hwl; omega
    refine ⟨[⟨t.Kind, sS t, t.N, p⟩], fun X hX => hX _ _ (splStep (k := 0) hp' hl ho hf (by omega) (by rw [List.drop_of_length_le (by omega)]; rfl) (hX _ _ ?_)), rfl, fun i x y h1 h2 => ?_⟩
    · exact splEnd (by omega)
    · cases i with
      | zero => simp at h1 h2; subst h1; subst h2; exact ⟨rfl, rfl, rfl⟩
      | succ i => simp at h1
  | cons t2 r ih =>
    intro t p out hw hd hp ho
    have hlen : (s.drop p).length = s.length - p := List.length_drop
    obtain ⟨hf, c, v, hc, _⟩ := firstW (hw t (by simp)) (jt_dl ((t2 :: r).map wr)) (by rw [← hd, hlen]; omega)
    rw [← hd] at hf
    rw [List.map_cons, jt_cons] at hd
    have hwl : (wr t).length + 1 ≤ s.length - p := by
      rw [← hlen, hd, List.length_append, List.length_cons]; omega
    have hcl : 1 ≤ (wr t).length := by rw [hc]; simp
    have hd1 : s.drop (p + (wr t).length) = 32 :: (wr t2 ++ Go.Lib.joinTail [32] (r.map wr)) := by
      rw [← List.drop_drop, hd]; simp
    have hd2 : s.drop (p + (wr t).length + 1) = wr t2 ++ Go.Lib.joinTail [32] (r.map wr) := by
      rw [← List.drop_drop, hd1]; rfl
    obtain ⟨_, c2, v2, hc2, hb2⟩ := firstW (hw t2 (by simp)) (jt_dl (r.map wr)) (by rw [← hd2, List.length_drop]; omega)
    have hk : ((s.drop (p + (wr t).length)).takeWhile isB).length = 1 := by
      rw [hd1, hc2, List.cons_append, List.takeWhile_cons, show isB 32 = true by decide, if_pos rfl, List.takeWhile_cons, hb2]; rfl
    obtain ⟨l', g1, g2, g3⟩ := ih t2 (p + (wr t).length + 1) (out ++ [⟨t.Kind, sS t, t.N, p⟩]) (fun x hx => hw x (List.mem_cons_of_mem _ hx)) hd2 (by omega) (by simp; omega)
    refine ⟨⟨t.Kind, sS t, t.N, p⟩ :: l', fun X hX => hX _ _ (splStep (by omega) hl ho hf (by omega) hk ?_), by simp [g2], fun i x y h1 h2 => ?_⟩
    · have := g1 X (by rw [List.append_assoc]; exact hX)
      exact this
    · cases i with
      | zero => simp at h1 h2; subst h1; subst h2; exact ⟨rfl, rfl, rfl⟩
      | succ i => exact g3 i x y (by simpa using h1) (by simpa using h2)
theorem wr_len {t : Tok} (h : WT t) : (wr t).length ≤ 130 := by
  obtain ⟨K, S, N, A⟩ := t
  unfold WT at h
  simp only at h
  rcases h with ⟨rfl, hs, rfl⟩ | ⟨rfl, hs, hall, h16, rfl⟩ | ⟨rfl, h0, h1⟩ | ⟨rfl, hs, rfl⟩ | ⟨rfl, hs, rfl⟩
  · show S.length ≤ 130
    cases S with
    | nil => simp
    | cons c r =>
      simp only [sLex, Bool.and_eq_true, decide_eq_true_eq] at hs
      have := hs.1; omega
  · show S.length ≤ 130; omega
  · show (Go.Lib.itoa N).length ≤ 130
    have := itoa_len h0 h1; omega
  · show (39 :: (dq S ++ [39])).length ≤ 130
    have := dq_len S
    simp; omega
  · show S.length ≤ 130
    simp only [sgs, List.mem_cons, List.not_mem_nil, or_false] at hs
    rcases hs with rfl | rfl | rfl | rfl | rfl | rfl | rfl | rfl | rfl | rfl | rfl | rfl | rfl | rfl | rfl | rfl <;> decide
theorem jt_len : ∀ l : List Tok, (∀ t ∈ l, WT t) → (Go.Lib.joinTail [32] (l.map wr)).length ≤ 131 * l.length
  | [], _ => by simp [Go.Lib.joinTail]
  | t :: l, h => by
    have h1 := wr_len (h t (by simp))
    have h2 := jt_len l fun x hx => h x (List.mem_cons_of_mem _ hx)
    rw [List.map_cons, jt_cons, List.length_cons, List.length_append, List.length_cons]; omega
def sJoin (l : List Tok) : Str := Go.Lib.join (l.map wr) [32]
theorem sJoin_len {l : List Tok} (h : ∀ t ∈ l, WT t) : (sJoin l).length ≤ 131 * l.length := by
  cases l with
  | nil => simp [sJoin, Go.Lib.join_nil]
  | cons t r =>
    unfold sJoin
    rw [List.map_cons, Go.Lib.join_cons, List.length_append]
    have h1 := wr_len (h t (by simp))
    have h2 := jt_len r fun x hx => h x (List.mem_cons_of_mem _ hx)
    rw [List.length_cons]; omega
theorem pJoin {l : List Tok} (hl : l.length ≤ 2000) (h : ∀ t ∈ l, WT t) : lex_Join_o l (sJoin l) := by
  apply lex_Join_i
  intro _
  refine lp2 (fun (x : Int) (y : List Str) => ∃ i : Nat, x = i ∧ i ≤ l.length ∧ y = (l.take i).map wr) (fun (x : Int) (_ : List Str) => l.length - x.toNat) ?_ ⟨0, rfl, by omega, by simp⟩
  rintro X x y ⟨i, rfl, hi, rfl⟩ hX
  unfold lex_Join_L1i
  by_cases hlt : i < l.length
  · rw [decide_eq_true (show (i : Int) < l.length by omega)]
    refine cT ⟨by omega, by omega, _, gAt hlt, _, pWritten (h _ (List.getElem_mem hlt)), by simp; omega, ?_⟩
    rw [w1 (by omega)]
    refine hX _ _ ⟨i + 1, rfl, by omega, ?_⟩ (by omega)
    rw [List.take_succ_eq_append_getElem hlt, List.map_append]; rfl
  · rw [decide_eq_false (show ¬ (i : Int) < l.length by omega), List.take_of_length_le (by omega)]
    have := sJoin_len h
    exact cF ⟨_, ⟨by simp; omega, by unfold sJoin at this; omega, rfl⟩, rfl⟩
/-- the joined tokens split again -/
theorem again {l : List Tok} (h : ∀ t ∈ l, WT t) (hj : (sJoin l).length ≤ 2000) : ∃ l', lex_Split_o (sJoin l) l' 0 0 ∧ l'.length = l.length ∧ ∀ (i : Nat) (x y : Tok), l[i]? = some x → l'[i]? = some y → y.Kind = x.Kind ∧ y.N = x.N ∧ y.S = sS x := by
  cases l with
  | nil =>
    refine ⟨[], ?_, rfl, fun i x y q => by simp at q⟩
    exact splStart (by simp [sJoin, Go.Lib.join_nil]) rfl fun X hX => hX _ _ (splEnd (p := 0) (by simp [sJoin, Go.Lib.join_nil]))
  | cons t r =>
    have ej : sJoin (t :: r) = wr t ++ Go.Lib.joinTail [32] (r.map wr) := by unfold sJoin; rw [List.map_cons, Go.Lib.join_cons]
    obtain ⟨l', g1, g2, g3⟩ := rt hj r t 0 [] h (by rw [List.drop_zero]; exact ej) (by omega) (by simp)
    refine ⟨l', splStart hj ?_ ?_, g2, g3⟩
    · obtain ⟨_, c, v, hc, hb⟩ := firstW (h t (by simp)) (jt_dl (r.map wr)) (by rw [← ej]; exact hj)
      rw [ej, hc, List.cons_append, List.takeWhile_cons, hb]; rfl
    · rw [List.nil_append] at g1; exact g1
theorem take300 {s : Str} : (List.take ((if (300 : Int) < (s.length : Int) then (300 : Int) else (s.length : Int)).toNat - (0 : Int).toNat) (List.drop (0 : Int).toNat s)) = s.take 300 := by
  split
  · simp
  · have : s.length ≤ 300 := by omega
    simp [List.take_of_length_le this]
theorem min300 {s : Str} : 0 ≤ (0 : Int) ∧ (0 : Int) ≤ (if (300 : Int) < (s.length : Int) then (300 : Int) else (s.length : Int)) ∧ (if (300 : Int) < (s.length : Int) then (300 : Int) else (s.length : Int)) ≤ (s.length : Int) := by
  split <;> omega
theorem LexSplits_plain (s : Str) : law14_LexSplits_o s true := by
  apply law14_LexSplits_i
  have hl3 : (s.take 300).length ≤ 300 := by rw [List.length_take]; omega
  obtain ⟨l, a, e, k1, k2, k3, k4⟩ := pSplits (s := s.take 300) (by omega)
  have ll : (l.map r14).length = l.length := List.length_map ..
  refine ⟨true, pSpeaks14, cF ⟨min300, l, a, e, by rw [take300]; exact k1, l.map r14, a, e, by rw [take300]; exact k2, ?_⟩⟩
  have e0 : (!(e == e)) = false := by simp
  have a0 : (!(a == a)) = false := by simp
  rw [e0, a0]
  refine cF (cF fun _ _ => ?_)
  have l0 : (!((l.length : Int) == ((l.map r14).length : Int))) = false := by rw [ll]; simp
  rw [l0]
  unfold law14_LexSplits_J1i
  refine cF ?_
  refine lp1 (fun (x : Int) => ∃ i : Nat, x = i ∧ i ≤ l.length) (fun (x : Int) => l.length - x.toNat) ?_ ⟨0, rfl, by omega⟩
  rintro X x ⟨i, rfl, hi⟩ hX
  unfold law14_LexSplits_L2i
  intro _
  by_cases hlt : i < l.length
  · rw [decide_eq_true (show (i : Int) < l.length by omega)]
    have eg : (l.map r14)[((i : Nat) : Int).toNat]? = some (r14 l[i]) := by
      rw [gAt (by rw [ll]; exact hlt)]; simp
    refine cT ⟨by omega, by omega, _, gAt hlt, by omega, by rw [ll]; omega, _, eg, ?_⟩
    have : (!((l[i].Kind == (r14 l[i]).Kind) && ((l[i].S == (r14 l[i]).S) && ((l[i].N == (r14 l[i]).N) && ((l[i].At == (r14 l[i]).At) && true))))) = false := by simp [r14]
    rw [this]
    refine cF ?_
    rw [w1 (by omega)]
    exact hX _ ⟨i + 1, rfl, by omega⟩ (by omega)
  · rw [decide_eq_false (show ¬ (i : Int) < l.length by omega)]
    refine cF ⟨fun _ => rfl, fun q => ?_⟩
    have q : e = 0 := by simpa using q
    have hw := k3 q
    have hpj := pJoin (l := l) (by omega) hw
    by_cases hb : 2000 < (sJoin l).length
    · refine ⟨sJoin l, hpj, [], 0, 3, split_long hb, sJoin l, hpj, ?_⟩
      rw [decide_eq_true (show (2000 : Int) < (sJoin l).length by omega)]
      exact cT rfl
    · obtain ⟨l', g1, g2, g3⟩ := again hw (by omega)
      refine ⟨sJoin l, hpj, l', 0, 0, g1, sJoin l, hpj, ?_⟩
      rw [decide_eq_false (show ¬ (2000 : Int) < (sJoin l).length by omega)]
      refine cF (cF fun _ _ => ?_)
      have l1 : (!((l'.length : Int) == (l.length : Int))) = false := by rw [g2]; simp
      rw [l1]
      unfold law14_LexSplits_J3i
      refine cF ?_
      refine lp1 (fun (x : Int) => ∃ i : Nat, x = i ∧ i ≤ l.length) (fun (x : Int) => l.length - x.toNat) ?_ ⟨0, rfl, by omega⟩
      rintro X x ⟨j, rfl, hj⟩ hX
      unfold law14_LexSplits_L4i
      intro _
      by_cases hlt2 : j < l.length
      · rw [decide_eq_true (show (j : Int) < l.length by omega)]
        have hj' : j < l'.length := by omega
        obtain ⟨z1, z2, z3⟩ := g3 j l[j] l'[j] (List.getElem?_eq_getElem hlt2) (List.getElem?_eq_getElem hj')
        have go : law14_LexSplits_J5i X true j false := cF (by
          rw [w1 (by omega)]
          exact hX _ ⟨j + 1, rfl, by omega⟩ (by omega))
        refine cT ⟨by omega, by omega, _, gAt hj', by omega, by omega, _, gAt hlt2, ?_⟩
        have y1 : (!(l'[j].Kind == l[j].Kind)) = false := by rw [z1]; simp
        rw [y1]
        refine cF ⟨by omega, by omega, _, gAt hj', by omega, by omega, _, gAt hlt2, ?_⟩
        have y2 : (!(l'[j].N == l[j].N)) = false := by rw [z2]; simp
        rw [y2]
        refine cF ⟨by omega, by omega, _, gAt hlt2, fun k => ⟨by omega, by omega, _, gAt hj', by omega, by omega, _, gAt hlt2, ?_⟩, fun _ => go⟩
        have k : ¬ l[j].Kind = 3 := by simpa using k
        have y3 : (!(l'[j].S == l[j].S)) = false := by
          rw [z3]; unfold sS; rw [if_neg k]; simp
        rw [y3]; exact go
      · rw [decide_eq_false (show ¬ (j : Int) < l.length by omega)]
        exact cF rfl
end Go.Proofs.YteoohihaibgplaaDoor
