import Derived.Test.YtkmehmgocelkiaaDoorRpE
namespace Go.Proofs.YtkmehmgocelkiaaDoor
open Go.AV Go.RowKit

/-! ### the document's split -/
theorem n4 {s : Str} (h : 4 ≤ s.length) : IntKind.u64.wrap ((IntKind.u64.wrap ((IntKind.u64.wrap ((IntKind.u64.wrap ((IntKind.u64.wrap (bAt s (0 : Int))) * (16777216 : Int))) + (IntKind.u64.wrap ((IntKind.u64.wrap (bAt s (1 : Int))) * (65536 : Int))))) + (IntKind.u64.wrap ((IntKind.u64.wrap (bAt s (2 : Int))) * (256 : Int))))) + (IntKind.u64.wrap (bAt s (3 : Int)))) = (num (s.take 4) : Int) := by
  match s, h with
  | a :: b :: c :: d :: r, _ =>
    have e0 : bAt (a :: b :: c :: d :: r) 0 = (a.toNat : Int) := rfl
    have e1 : bAt (a :: b :: c :: d :: r) 1 = (b.toNat : Int) := rfl
    have e2 : bAt (a :: b :: c :: d :: r) 2 = (c.toNat : Int) := rfl
    have e3 : bAt (a :: b :: c :: d :: r) 3 = (d.toNat : Int) := rfl
    have h0 : a.toNat < 256 := a.toNat_lt
    have h1 : b.toNat < 256 := b.toNat_lt
    have h2 : c.toNat < 256 := c.toNat_lt
    have h3 : d.toNat < 256 := d.toNat_lt
    have en : num (List.take 4 (a :: b :: c :: d :: r)) = a.toNat * 16777216 + (b.toNat * 65536 + (c.toNat * 256 + (d.toNat * 1 + 0))) := by simp [num]
    rw [e0, e1, e2, e3, en]
    simp only [wrapu64_eq]
    omega
def sp4 : Nat → Str → List Str × Bool
  | 0, s => ([], s == [])
  | n + 1, s => if s.length < 4 then ([], s == []) else if s.length - 4 < num (s.take 4) then ([], false) else ((s.drop 4).take (num (s.take 4)) :: (sp4 n (s.drop (4 + num (s.take 4)))).1, (sp4 n (s.drop (4 + num (s.take 4)))).2)
def pk (p : List Str × Bool) : Option (List Str) := match p.2 with
  | true => some p.1
  | false => none
theorem sp4_spl : ∀ {n : Nat} {s : Str}, s.length ≤ n → spl n s = pk (sp4 n s) := by
  intro n
  induction n with
  | zero =>
    intro s hs
    have : s = [] := List.eq_nil_of_length_eq_zero (by omega)
    subst this; rfl
  | succ n ih =>
    intro s hs
    rw [spl.eq_2, sp4.eq_2]
    by_cases h0 : s = []
    · subst h0; rfl
    · rw [if_neg h0]
      have hp : 0 < s.length := by
        cases s with
        | nil => exact absurd rfl h0
        | cons => simp
      by_cases h4 : s.length < 4
      · rw [if_pos h4, if_pos h4]
        have : (s == []) = false := by simpa using h0
        rw [this]; rfl
      · rw [if_neg h4, if_neg h4]
        by_cases hn : s.length - 4 < num (s.take 4)
        · rw [if_pos hn, if_pos hn]; rfl
        · rw [if_neg hn, if_neg hn, ih (s := s.drop (4 + num (s.take 4))) (by rw [List.length_drop]; omega)]
          generalize sp4 n (s.drop (4 + num (s.take 4))) = q
          obtain ⟨q1, q2⟩ := q
          cases q2 <;> rfl
theorem pSplit4 {s : Str} (h : s.length ≤ 100000000) : ref04_Split_o s (sp4 s.length s).1 (sp4 s.length s).2 := by
  apply ref04_Split_i
  intro X hX
  have key : ∀ n, ∀ (x : Str) (y : List Str), x.length ≤ n → x.length ≤ 100000000 → y.length + x.length ≤ 100000000 →
      ((y ++ (sp4 n x).1, (sp4 n x).2) = sp4 s.length s) → X x y := by
    intro n
    induction n with
    | zero =>
      intro x y hx _ _ he
      have : x = [] := List.eq_nil_of_length_eq_zero (by omega)
      subst this
      apply hX
      refine ⟨fun c => (by simp at c), fun _ => ?_⟩
      rw [← he]; simp [sp4]
    | succ n ih =>
      intro x y hx hb hyx he
      apply hX
      simp only [sp4] at he
      simp only [ref04_Split_L1i]
      refine ⟨fun c => ?_, fun c => ?_⟩
      · have c : (4 : Int) ≤ x.length := of_decide_eq_true c
        have c4 : 4 ≤ x.length := by omega
        rw [if_neg (by omega)] at he
        have hl : (x.take 4).length = 4 := by rw [List.length_take]; omega
        have hn := num_lt (x.take 4)
        rw [hl] at hn
        rw [n4 c4]
        have w1 : IntKind.u64.wrap (IntKind.i64.wrap ((x.length : Int) - 4)) = (x.length : Int) - 4 := by rw [wrap64 (by omega) (by omega), wrapu64 (by omega) (by omega)]
        have w2 : IntKind.i64.wrap (4 + IntKind.i64.wrap (num (x.take 4) : Int)) = ((4 + num (x.take 4) : Nat) : Int) := by rw [wrap64 (n := (num (x.take 4) : Int)) (by omega) (by omega), wrap64 (by omega) (by omega)]; omega
        rw [w1, w2]
        refine ⟨⟨by omega, by omega⟩, ⟨by omega, by omega⟩, ⟨by omega, by omega⟩, ⟨by omega, by omega⟩, fun d => ?_, fun d => ?_⟩
        · have d : (x.length : Int) - 4 < num (x.take 4) := of_decide_eq_true d
          rw [if_pos (by omega)] at he
          rw [← he]; simp
        · have d : ¬ (x.length : Int) - 4 < num (x.take 4) := of_decide_eq_false d
          rw [if_neg (by omega)] at he
          refine ⟨⟨by omega, by omega, by omega⟩, by omega, ⟨by omega, by omega, by omega⟩, ?_⟩
          have hd : (x.drop (4 + num (x.take 4))).length = x.length - (4 + num (x.take 4)) := List.length_drop
          rw [Int.toNat_natCast, Int.toNat_natCast, List.take_of_length_le (l := x.drop (4 + num (x.take 4))) (by omega)]
          refine ih _ _ (by omega) (by omega) (by rw [hd]; simp; omega) ?_
          rw [← he]
          have : 4 + num (x.take 4) - (4 : Int).toNat = num (x.take 4) := by omega
          rw [this, List.append_assoc]; rfl
      · have c : ¬ (4 : Int) ≤ x.length := of_decide_eq_false c
        rw [if_pos (by omega)] at he
        rw [← he]; simp
  refine key s.length s [] (Nat.le_refl _) (by omega) (by simp; omega) ?_
  simp
/-! ### which texts are values -/
def tOk (y : Str) : Bool := decide (0 < y.length) && ((bAt y 0 == 0 && y.length == 1) || (bAt y 0 == 1 && y.length == 2 && decide (bAt y 1 < 2)) || (bAt y 0 == 2 && y.length == 9) || (bAt y 0 == 3 && decide (y.length ≤ 65)))
theorem sRead_ok (y : Str) : (sRead y).2 = tOk y := by
  cases y with
  | nil => rfl
  | cons c r =>
    have e0 : bAt (c :: r) 0 = (c.toNat : Int) := rfl
    have hl : (c :: r).length = r.length + 1 := rfl
    rw [sRead_c]
    unfold sRd1 tOk
    rw [e0, hl]
    by_cases k : c.toNat = 0
    · rw [if_pos k, k]
      cases r <;> simp
    · rw [if_neg k]
      by_cases k1 : c.toNat = 1
      · rw [if_pos k1, k1]
        by_cases l : r.length = 1
        · rw [if_pos l]
          match r, l with
          | [d], _ =>
            have e1 : bAt [c, d] 1 = (d.toNat : Int) := rfl
            have e2 : bAt [d] 0 = (d.toNat : Int) := rfl
            rw [e1, e2]
            simp only [sGood]
            rw [if_neg (by decide), if_pos trivial, Bool.eq_iff_iff]
            simp
            omega
        · rw [if_neg l]
          simp [l]
      · rw [if_neg k1]
        by_cases k2 : c.toNat = 2
        · rw [if_pos k2, k2]
          by_cases l : r.length = 8
          · rw [if_pos l, l]; simp
          · rw [if_neg l]
            simp [l]
        · rw [if_neg k2]
          have q0 : ¬ (c.toNat : Int) = 0 := by omega
          have q1 : ¬ (c.toNat : Int) = 1 := by omega
          have q2 : ¬ (c.toNat : Int) = 2 := by omega
          simp only [sGood]
          rw [if_neg q0, if_neg q1, if_neg q2]
          by_cases q3 : (c.toNat : Int) = 3
          · rw [if_pos q3, Bool.eq_iff_iff]
            simp [q3]
            omega
          · rw [if_neg q3]
            simp [k, q1, q2, q3]
end Go.Proofs.YtkmehmgocelkiaaDoor
