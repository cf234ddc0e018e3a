import Derived.Test.YtkmehmgocelkiaaDoorVa
import Derived.Test.YtkmehmgocelkiaaDoorPl
namespace Go.Proofs.YtkmehmgocelkiaaDoor
open Go.AV Go.RowKit

abbrev V := T_value_Value
abbrev V6 := T_ref06_Value
def Rg (n : Int) : Prop := -9223372036854775808 ≤ n ∧ n ≤ 9223372036854775807
def inR (n : Int) : Bool := decide (-9223372036854775808 ≤ n) && decide (n ≤ 9223372036854775807)
theorem inR_iff (n : Int) : inR n = true ↔ Rg n := by simp [inR, Rg]
def good (v : V) : Prop := (v.Kind = 0 ∧ v.N = 0 ∧ v.S = []) ∨ (v.Kind = 1 ∧ (v.N = 0 ∨ v.N = 1) ∧ v.S = []) ∨ (v.Kind = 2 ∧ Rg v.N ∧ v.S = []) ∨ (v.Kind = 3 ∧ v.N = 0 ∧ v.S.length ≤ 64)
def v6 (a : V) : V6 := ⟨a.Kind, a.N, a.S⟩
def D0 : V := ⟨0, 0, []⟩
def bV (b : Bool) : V := ⟨1, if b then 1 else 0, []⟩
def eqV (a b : V) : Bool := (a.Kind == b.Kind) && ((a.N == b.N) && ((a.S == b.S) && true))
theorem eqV_iff {a b : V} : eqV a b = true ↔ a = b := by
  cases a; cases b; simp [eqV]
theorem rg_wrap (n : Int) : Rg (IntKind.i64.wrap n) := by
  have := wrap64_range n; unfold Rg; omega

theorem pNone (v : V) : value_Value_none_o v (v.Kind == 0) := by
  unfold value_Value_none_o; grind [cnd]
theorem pOfBool (b : Bool) : value_OfBool_o b (bV b) := by
  unfold value_OfBool_o; cases b <;> simp [cnd, bV]
theorem pOfInt (n : Int) : value_OfInt_o n ⟨2, n, []⟩ := by unfold value_OfInt_o; rfl
theorem pOfText (s : Str) : value_OfText_o s ⟨3, 0, s⟩ := by unfold value_OfText_o; rfl
theorem pTrue (v : V) : value_Value_True_o v (eqV v (bV true)) := ⟨_, pOfBool true, rfl⟩
def sTakes (op : Int) : Int := if 7 ≤ op ∧ op ≤ 11 then 2 else if op = 12 then 3 else if op = 13 ∨ op = 14 then 1 else 0
theorem pTakes (op : Int) : value_takes_o op (sTakes op) := by
  apply value_takes_i
  simp only [value_takes_oi, value_takes_J1i, value_takes_J2i]
  grind [sTakes, cnd]
def sFit (op : Int) (a b : V) : Bool := if sTakes op = 0 then a.Kind == 0 || b.Kind == 0 || a.Kind == b.Kind else (a.Kind == 0 || a.Kind == sTakes op) && (b.Kind == 0 || b.Kind == sTakes op)
theorem pFit (op : Int) (a b : V) : value_fit_o op a b (sFit op a b) := by
  apply value_fit_i
  simp only [value_fit_oi, value_fit_J1i]
  refine ⟨_, pTakes op, ?_⟩
  have h1 := pNone a
  have h2 := pNone b
  refine ⟨fun h => ⟨_, h1, ?_⟩, fun h => ⟨_, h1, ?_⟩⟩ <;> grind [sFit, cnd]
def sLogic (d : Bool) (a b : V) : V := if eqV a (bV d) || eqV b (bV d) then bV d else if a.Kind == 0 || b.Kind == 0 then D0 else bV (!d)
theorem pLogic (d : Bool) (a b : V) : value_logic_o d a b (sLogic d a b) := by
  have ha := pNone a
  have hb := pNone b
  have hd := pOfBool d
  have hn := pOfBool (!d)
  have e1 : ((a.Kind == (bV d).Kind) && ((a.N == (bV d).N) && ((a.S == (bV d).S) && true))) = eqV a (bV d) := rfl
  have e2 : ((b.Kind == (bV d).Kind) && ((b.N == (bV d).N) && ((b.S == (bV d).S) && true))) = eqV b (bV d) := rfl
  apply value_logic_i
  simp only [value_logic_oi, value_logic_J1i, value_logic_J2i]
  refine ⟨_, hd, ?_⟩
  rw [e1, e2]
  generalize hx : eqV a (bV d) = x
  generalize hy : eqV b (bV d) = y
  unfold sLogic
  rw [hx, hy]
  have hD : (⟨0, 0, []⟩ : V) = D0 := rfl
  rw [hD]
  grind [cnd]
def cI (a b : Int) : Int := if a < b then -1 else if b < a then 1 else 0
def cS (a b : Str) : Int := if Op.bytesLess a b then -1 else if !(Op.bytesLess a b || a == b) then 1 else 0
theorem pCmpI (a b : Int) : cmp_Compare_int_o a b (cI a b) := by
  refine ⟨_, rfl, _, rfl, ?_⟩
  grind [cnd, cI]
theorem pCmpJ (a b : Int) : cmp_Compare_int64_o a b (cI a b) := by
  refine ⟨_, rfl, _, rfl, ?_⟩
  grind [cnd, cI]
theorem pCmpS (a b : Str) : cmp_Compare_string_o a b (cS a b) := by
  refine ⟨_, rfl, _, rfl, ?_⟩
  grind [cnd, cS]
def sOr (a b c : Int) : Int := if a ≠ 0 then a else if b ≠ 0 then b else c
theorem pOr (a b c : Int) : cmp_Or_int_o [a, b, c] (sOr a b c) := by
  apply cmp_Or_int_i
  intro _ X hX
  apply hX
  refine ⟨fun _ => ⟨by omega, by simp, a, rfl, ?_⟩, fun h => by simp at h⟩
  refine ⟨fun h => by grind [sOr], fun h => ?_⟩
  rw [wrap64 (by omega) (by omega)]
  apply hX
  refine ⟨fun _ => ⟨by omega, by simp, b, rfl, ?_⟩, fun h => by simp at h⟩
  refine ⟨fun h => by grind [sOr], fun h => ?_⟩
  rw [wrap64 (by omega) (by omega)]
  apply hX
  refine ⟨fun _ => ⟨by omega, by simp, c, rfl, ?_⟩, fun h => by simp at h⟩
  refine ⟨fun h => by grind [sOr], fun h => ?_⟩
  rw [wrap64 (by omega) (by omega)]
  apply hX
  refine ⟨fun h => by simp at h, fun _ => by grind [sOr]⟩
def sCmp (a b : V) : Int := sOr (cI a.Kind b.Kind) (cI a.N b.N) (cS a.S b.S)
theorem pCompare (a b : V) : value_Compare_o a b (sCmp a b) :=
  ⟨_, pCmpI a.Kind b.Kind, _, pCmpJ a.N b.N, _, pCmpS a.S b.S, _, pOr _ _ _, rfl⟩
def sHolds (op n : Int) : Bool := if op = 1 then n == 0 else if op = 2 then !(n == 0) else if op = 3 then decide (n < 0) else if op = 4 then decide (n ≤ 0) else if op = 5 then decide (0 < n) else decide (0 ≤ n)
theorem pHolds (op n : Int) : value_holds_o op n (sHolds op n) := by
  unfold value_holds_o
  grind [cnd, sHolds]
/-! ### numbers -/
theorem absw {a : Int} (h : Rg a) : (if IntKind.i64.wrap (0 - a) > a then IntKind.i64.wrap (0 - a) else a) = (if a = -9223372036854775808 then a else (a.natAbs : Int)) := by
  unfold Rg at h
  by_cases h1 : a = -9223372036854775808
  · subst h1; rfl
  · rw [if_neg h1, wrap64 (by omega) (by omega)]; split <;> omega
theorem absu {a : Int} (h : Rg a) : IntKind.u64.wrap (if IntKind.i64.wrap (0 - a) > a then IntKind.i64.wrap (0 - a) else a) = (a.natAbs : Int) := by
  rw [absw h]
  unfold Rg at h
  split
  · rename_i e; subst e; rfl
  · exact wrapu64 (by omega) (by omega)
theorem natAbs_mul_sign {a b : Int} (h : (decide (a < 0) == decide (b < 0)) = true) : a * b = (a.natAbs : Int) * b.natAbs := by
  rcases Int.lt_or_le a 0 with h1 | h1 <;> rcases Int.lt_or_le b 0 with h2 | h2
  · have e1 : (a.natAbs : Int) = -a := by omega
    have e2 : (b.natAbs : Int) = -b := by omega
    rw [e1, e2, Int.neg_mul_neg]
  · simp [h1, Int.not_lt.2 h2] at h
  · simp [h2, Int.not_lt.2 h1] at h
  · have e1 : (a.natAbs : Int) = a := by omega
    have e2 : (b.natAbs : Int) = b := by omega
    rw [e1, e2]
theorem natAbs_mul_nsign {a b : Int} (h : (decide (a < 0) == decide (b < 0)) = false) : a * b = -((a.natAbs : Int) * b.natAbs) := by
  rcases Int.lt_or_le a 0 with h1 | h1 <;> rcases Int.lt_or_le b 0 with h2 | h2
  · simp [h1, h2] at h
  · have e1 : (a.natAbs : Int) = -a := by omega
    have e2 : (b.natAbs : Int) = b := by omega
    rw [e1, e2, Int.neg_mul, Int.neg_neg]
  · have e1 : (a.natAbs : Int) = a := by omega
    have e2 : (b.natAbs : Int) = -b := by omega
    rw [e1, e2, Int.mul_neg, Int.neg_neg]
  · simp [Int.not_lt.2 h1, Int.not_lt.2 h2] at h
theorem pProduct {a b : Int} (ha : Rg a) (hb : Rg b) : ∃ n, value_product_o a b n (inR (a * b)) ∧ (Rg (a * b) → n = a * b) := by
  have h := fun z1 z2 => (show math_bits_Mul64_o (IntKind.u64.wrap (if (IntKind.i64.wrap (0 - a)) > a then (IntKind.i64.wrap (0 - a)) else a)) (IntKind.u64.wrap (if (IntKind.i64.wrap (0 - b)) > b then (IntKind.i64.wrap (0 - b)) else b)) z1 z2 ↔ z1 = (a.natAbs : Int) * b.natAbs / 18446744073709551616 ∧ z2 = (a.natAbs : Int) * b.natAbs % 18446744073709551616 by
    rw [absu ha, absu hb]
    unfold Rg at ha hb
    unfold math_bits_Mul64_o
    constructor
    · rintro ⟨_, _, _, _, h1, h2⟩; exact ⟨h1, h2⟩
    · rintro ⟨h1, h2⟩; exact ⟨by omega, by omega, by omega, by omega, h1, h2⟩)
  have hp0 : 0 ≤ (a.natAbs : Int) * b.natAbs := Int.mul_nonneg (by omega) (by omega)
  by_cases hs : (decide (a < 0) == decide (b < 0)) = true
  · have e := natAbs_mul_sign hs
    generalize hp : (a.natAbs : Int) * b.natAbs = p at *
    refine ⟨IntKind.i64.wrap (p % 18446744073709551616), ⟨_, _, (h _ _).2 ⟨rfl, rfl⟩, ?_⟩, ?_⟩
    · rw [hs]
      refine ⟨fun c => (by simp at c), fun _ => ⟨fun c => ⟨rfl, ?_⟩, fun c => ⟨rfl, ?_⟩⟩⟩
      · have c : p / 18446744073709551616 = 0 := by simpa using c
        rw [e]; unfold inR
        rw [Bool.eq_iff_iff]; simp; omega
      · have c : ¬ p / 18446744073709551616 = 0 := by simpa using c
        rw [e]; unfold inR
        rw [Bool.eq_iff_iff]; simp; omega
    · intro hr
      rw [e] at hr ⊢
      unfold Rg at hr
      rw [wrap64 (by omega) (by omega)]; omega
  · have hs : (decide (a < 0) == decide (b < 0)) = false := by simpa using hs
    have e := natAbs_mul_nsign hs
    generalize hp : (a.natAbs : Int) * b.natAbs = p at *
    refine ⟨IntKind.i64.wrap (0 - IntKind.i64.wrap (p % 18446744073709551616)), ⟨_, _, (h _ _).2 ⟨rfl, rfl⟩, ?_⟩, ?_⟩
    · rw [hs]
      refine ⟨fun _ => ⟨fun c => ⟨rfl, ?_⟩, fun c => ⟨rfl, ?_⟩⟩, fun c => (by simp at c)⟩
      · have c : p / 18446744073709551616 = 0 := by simpa using c
        rw [e]; unfold inR
        rw [Bool.eq_iff_iff]; simp; omega
      · have c : ¬ p / 18446744073709551616 = 0 := by simpa using c
        rw [e]; unfold inR
        rw [Bool.eq_iff_iff]; simp; omega
    · intro hr
      rw [e] at hr ⊢
      unfold Rg at hr
      rw [wrap64_eq, wrap64_eq]
      split <;> split <;> omega
def sRk (op a b : Int) : Int × Int := if op = 7 then (if inR (a + b) then (a + b, 0) else (0, 8)) else if op = 8 then (if inR (a - b) then (a - b, 0) else (0, 8)) else if op = 9 then (if inR (a * b) then (a * b, 0) else (0, 8)) else
  if b = 0 then (0, 9) else if op = 11 then (a.tmod b, 0) else if a = -9223372036854775808 ∧ b = -1 then (0, 8) else (a.tdiv b, 0)
theorem tdiv_rg {a b : Int} (ha : Rg a) (h : ¬ (a = -9223372036854775808 ∧ b = -1)) : Rg (a.tdiv b) := by
  unfold Rg at *
  have h1 : (a.tdiv b).natAbs = a.natAbs / b.natAbs := Int.natAbs_tdiv a b
  by_cases hb : b.natAbs ≤ 1
  · have : b = 0 ∨ b = 1 ∨ b = -1 := by omega
    rcases this with rfl | rfl | rfl
    · simp
    · simp; omega
    · have : a.tdiv (-1) = -a := by rw [Int.tdiv_neg, Int.tdiv_one]
      rw [this]; omega
  · have h2 : a.natAbs / b.natAbs ≤ a.natAbs / 2 := Nat.div_le_div_left (by omega) (by omega)
    omega
theorem pReckon {op a b : Int} (ha : Rg a) (hb : Rg b) : value_reckon_o op a b (sRk op a b).1 (sRk op a b).2 := by
  apply value_reckon_i
  simp only [value_reckon_oi, value_reckon_J1i]
  have ha' := ha
  have hb' := hb
  unfold Rg at ha' hb'
  refine ⟨fun c => ?_, fun c => ⟨fun c' => ?_, fun c' => ⟨fun c2 => ?_, fun c2 => ⟨fun c3 => ?_, fun c3 => ⟨fun c4 => ?_, fun c4 => ?_⟩⟩⟩⟩⟩
  · have c : op = 7 := by simpa using c
    subst c
    have hw := wrap64_eq (a + b)
    have hi := inR_iff (a + b)
    unfold Rg at hi
    simp only [sRk, if_true]
    by_cases hr : inR (a + b) = true
    · have hr' := hi.1 hr
      rw [if_pos hr, wrap64 (n := a + b) (by omega) (by omega)]
      refine ⟨fun d => ⟨fun e => (by simp at e), fun _ => ⟨rfl, rfl⟩⟩, fun d => ⟨fun e => ?_, fun e => ⟨rfl, rfl⟩⟩⟩
      have d : ¬ ((a < a + b) ↔ (0 < b)) := by simpa using d
      omega
    · have hr' : ¬ _ := fun q => hr (hi.2 q)
      rw [if_neg hr]
      refine ⟨fun d => ?_, fun d => ⟨fun e => ⟨rfl, rfl⟩, fun e => ?_⟩⟩
      · have d : (a < IntKind.i64.wrap (a + b)) ↔ (0 < b) := by simpa using d
        rw [hw] at d
        split at d <;> omega
      · have e : b = 0 := by simpa using e
        omega
  · have c' : op = 8 := by simpa using c'
    subst c'
    have hw := wrap64_eq (a - b)
    have hi := inR_iff (a - b)
    unfold Rg at hi
    simp only [sRk, if_true, show (8 : Int) ≠ 7 by decide, if_false]
    by_cases hr : inR (a - b) = true
    · have hr' := hi.1 hr
      rw [if_pos hr, wrap64 (n := a - b) (by omega) (by omega)]
      refine ⟨fun d => ⟨fun e => (by simp at e), fun _ => ⟨rfl, rfl⟩⟩, fun d => ⟨fun e => ?_, fun e => ⟨rfl, rfl⟩⟩⟩
      have d : ¬ ((a - b < a) ↔ (0 < b)) := by simpa using d
      omega
    · have hr' : ¬ _ := fun q => hr (hi.2 q)
      rw [if_neg hr]
      refine ⟨fun d => ?_, fun d => ⟨fun e => ⟨rfl, rfl⟩, fun e => ?_⟩⟩
      · have d : (IntKind.i64.wrap (a - b) < a) ↔ (0 < b) := by simpa using d
        rw [hw] at d
        split at d <;> omega
      · have e : b = 0 := by simpa using e
        omega
  · have c2 : op = 9 := by simpa using c2
    subst c2
    obtain ⟨n, h1, h2⟩ := pProduct ha hb
    refine ⟨n, _, h1, ?_⟩
    simp only [sRk, show (9 : Int) ≠ 7 by decide, show (9 : Int) ≠ 8 by decide, if_false, if_true]
    have hi := inR_iff (a * b)
    refine ⟨fun d => ?_, fun d => ?_⟩
    · have d : inR (a * b) = false := by simpa using d
      rw [d]; exact ⟨rfl, rfl⟩
    · have d : inR (a * b) = true := by simpa using d
      rw [d, if_pos rfl]; exact ⟨h2 (hi.1 d), rfl⟩
  · have c3 : b = 0 := by simpa using c3
    have c1 : ¬ op = 7 := by simpa using c
    have c4 : ¬ op = 8 := by simpa using c'
    have c5 : ¬ op = 9 := by simpa using c2
    simp [sRk, c1, c4, c5, c3]
  · have c3 : ¬ b = 0 := by simpa using c3
    have c1 : ¬ op = 7 := by simpa using c
    have c5 : ¬ op = 8 := by simpa using c'
    have c6 : ¬ op = 9 := by simpa using c2
    have c4 : op = 11 := by simpa using c4
    refine ⟨c3, ?_⟩
    simp [sRk, c3, c4]
  · have c3 : ¬ b = 0 := by simpa using c3
    have c1 : ¬ op = 7 := by simpa using c
    have c5 : ¬ op = 8 := by simpa using c'
    have c6 : ¬ op = 9 := by simpa using c2
    have c4 : ¬ op = 11 := by simpa using c4
    refine ⟨c3, ?_⟩
    simp only [sRk, c1, c5, c6, c3, c4, if_false]
    by_cases hm : a = -9223372036854775808 ∧ b = -1
    · rw [if_pos hm]
      obtain ⟨rfl, rfl⟩ := hm
      refine ⟨fun d => (by simp at d), fun _ => ⟨fun _ => ⟨rfl, rfl⟩, fun d => (by simp at d)⟩⟩
    · have := tdiv_rg (b := b) ha hm
      unfold Rg at this
      rw [if_neg hm, wrap64 (by omega) (by omega)]
      refine ⟨fun d => ⟨fun e => (by simp at e), fun _ => ⟨rfl, rfl⟩⟩, fun d => ⟨fun e => ?_, fun _ => ⟨rfl, rfl⟩⟩⟩
      exfalso; apply hm
      exact ⟨by simpa using d, by simpa using e⟩
def sDo (op : Int) (a b : V) : V × Int :=
  if op < 1 ∨ 14 < op then (D0, 1) else if sFit op a b = false then (D0, 5) else if 13 ≤ op then (sLogic (op == 14) a b, 0) else if a.Kind = 0 ∨ b.Kind = 0 then (D0, 0) else
  if op ≤ 6 then (bV (sHolds op (sCmp a b)), 0) else if op = 12 then (if 64 < a.S.length + b.S.length then (D0, 8) else (⟨3, 0, a.S ++ b.S⟩, 0)) else
  if (sRk op a.N b.N).2 ≠ 0 then (D0, (sRk op a.N b.N).2) else (⟨2, (sRk op a.N b.N).1, []⟩, 0)
theorem pDo {op : Int} {a b : V} (ha : Rg a.N) (hb : Rg b.N) (h1 : a.S.length ≤ 1000) (h2 : b.S.length ≤ 1000) : value_Do_o op a b (sDo op a b).1 (sDo op a b).2 := by
  apply value_Do_i
  simp only [value_Do_oi, value_Do_J1i, value_Do_J2i]
  have f := pFit op a b
  have lg := pLogic (op == 14) a b
  have n1 := pNone a
  have n2 := pNone b
  have cp := pCompare a b
  have hd := pHolds op (sCmp a b)
  have ob := pOfBool (sHolds op (sCmp a b))
  have tx := pOfText (a.S ++ b.S)
  have rk := pReckon (op := op) ha hb
  have oi := pOfInt (sRk op a.N b.N).1
  have hw : IntKind.i64.wrap ((a.S.length : Int) + (b.S.length : Int)) = (a.S.length : Int) + b.S.length := wrap64 (by omega) (by omega)
  rw [hw]
  have h0 : (⟨0, 0, []⟩ : V) = D0 := rfl
  rw [h0]
  have tail : ¬ (op < 1 ∨ 14 < op) → cnd false (D0 = (sDo op a b).1 ∧ (1 : Int) = (sDo op a b).2) (∃ z2, value_fit_o op a b z2 ∧ cnd (!z2) (D0 = (sDo op a b).1 ∧ (5 : Int) = (sDo op a b).2) (cnd (decide ((13 : Int) ≤ op)) (∃ z3, (value_logic_o (op == 14) a b z3) ∧ z3 = (sDo op a b).1 ∧ (0 : Int) = (sDo op a b).2) (∃ z12, (value_Value_none_o a z12) ∧ cnd z12 (cnd true (D0 = (sDo op a b).1 ∧ (0 : Int) = (sDo op a b).2) (cnd (decide (op ≤ (6 : Int))) (∃ z5, (value_Compare_o a b z5) ∧ ∃ z6, (value_holds_o op z5 z6) ∧ ∃ z7, (value_OfBool_o z6 z7) ∧ z7 = (sDo op a b).1 ∧ (0 : Int) = (sDo op a b).2) (cnd (op == (12 : Int)) (cnd (decide ((64 : Int) < ((a.S.length : Int) + (b.S.length : Int)))) (D0 = (sDo op a b).1 ∧ (8 : Int) = (sDo op a b).2) ((a.S.length + b.S.length ≤ 9223372036854775807) ∧ ∃ z8, (value_OfText_o (a.S ++ b.S) z8) ∧ z8 = (sDo op a b).1 ∧ (0 : Int) = (sDo op a b).2)) (∃ z9, ∃ z10, (value_reckon_o op a.N b.N z9 z10) ∧ cnd (!(z10 == (0 : Int))) (D0 = (sDo op a b).1 ∧ z10 = (sDo op a b).2) (∃ z11, (value_OfInt_o z9 z11) ∧ z11 = (sDo op a b).1 ∧ (0 : Int) = (sDo op a b).2))))) (∃ z13, (value_Value_none_o b z13) ∧ cnd z13 (D0 = (sDo op a b).1 ∧ (0 : Int) = (sDo op a b).2) (cnd (decide (op ≤ (6 : Int))) (∃ z5, (value_Compare_o a b z5) ∧ ∃ z6, (value_holds_o op z5 z6) ∧ ∃ z7, (value_OfBool_o z6 z7) ∧ z7 = (sDo op a b).1 ∧ (0 : Int) = (sDo op a b).2) (cnd (op == (12 : Int)) (cnd (decide ((64 : Int) < ((a.S.length : Int) + (b.S.length : Int)))) (D0 = (sDo op a b).1 ∧ (8 : Int) = (sDo op a b).2) ((a.S.length + b.S.length ≤ 9223372036854775807) ∧ ∃ z8, (value_OfText_o (a.S ++ b.S) z8) ∧ z8 = (sDo op a b).1 ∧ (0 : Int) = (sDo op a b).2)) (∃ z9, ∃ z10, (value_reckon_o op a.N b.N z9 z10) ∧ cnd (!(z10 == (0 : Int))) (D0 = (sDo op a b).1 ∧ z10 = (sDo op a b).2) (∃ z11, (value_OfInt_o z9 z11) ∧ z11 = (sDo op a b).1 ∧ (0 : Int) = (sDo op a b).2)))))))) := by
    intro hop
    refine ⟨fun c => (by cases c), fun _ => ⟨_, f, ?_⟩⟩
    refine ⟨fun c => ?_, fun c => ⟨fun c1 => ⟨_, lg, ?_⟩, fun c1 => ⟨_, n1, ?_⟩⟩⟩
    · have c : sFit op a b = false := by simpa using c
      simp [sDo, hop, c]
    · have c : ¬ sFit op a b = false := by simpa using c
      have c1 : 13 ≤ op := by simpa using c1
      simp [sDo, hop, c, c1]
    · have c : ¬ sFit op a b = false := by simpa using c
      have c1 : ¬ 13 ≤ op := by simpa using c1
      refine ⟨fun c2 => ?_, fun c2 => ⟨_, n2, fun c3 => ?_, fun c3 => ?_⟩⟩
      · have c2 : a.Kind = 0 := by simpa using c2
        refine ⟨fun _ => ?_, fun q => (by cases q)⟩
        simp [sDo, hop, c, c1, c2]
      · have c3 : b.Kind = 0 := by simpa using c3
        simp [sDo, hop, c, c1, c3]
      · have c2 : ¬ a.Kind = 0 := by simpa using c2
        have c3 : ¬ b.Kind = 0 := by simpa using c3
        refine ⟨fun c4 => ⟨_, cp, _, hd, _, ob, ?_⟩, fun c4 => ⟨fun c5 => ⟨fun c6 => ?_, fun c6 => ⟨by omega, _, tx, ?_⟩⟩, fun c5 => ⟨_, _, rk, fun c6 => ?_, fun c6 => ⟨_, oi, ?_⟩⟩⟩⟩
        · have c4 : op ≤ 6 := by simpa using c4
          simp [sDo, hop, c, c1, c2, c3, c4]
        · have c4 : ¬ op ≤ 6 := by simpa using c4
          have c5 : op = 12 := by simpa using c5
          subst c5
          have c6' : (64 : Int) < a.S.length + b.S.length := by simpa using c6
          have c6 : 64 < a.S.length + b.S.length := by omega
          simp [sDo, c, c2, c3, c6]
        · have c4 : ¬ op ≤ 6 := by simpa using c4
          have c5 : op = 12 := by simpa using c5
          subst c5
          have c6' : ¬ (64 : Int) < a.S.length + b.S.length := by simpa using c6
          have c6 : ¬ 64 < a.S.length + b.S.length := by omega
          simp [sDo, c, c2, c3, c6]
        · have c4 : ¬ op ≤ 6 := by simpa using c4
          have c5 : ¬ op = 12 := by simpa using c5
          have c6 : ¬ (sRk op a.N b.N).2 = 0 := by simpa using c6
          simp [sDo, hop, c, c1, c2, c3, c4, c5, c6]
        · have c4 : ¬ op ≤ 6 := by simpa using c4
          have c5 : ¬ op = 12 := by simpa using c5
          have c6 : (sRk op a.N b.N).2 = 0 := by simpa using c6
          simp [sDo, hop, c, c1, c2, c3, c4, c5, c6]
  refine ⟨fun c => ⟨fun _ => ?_, fun q => (by cases q)⟩, fun c => ?_⟩
  · have c : op < 1 := by simpa using c
    simp [sDo, c]
  · have c : ¬ op < 1 := by simpa using c
    by_cases c' : 14 < op
    · simp only [c', decide_true]
      refine ⟨fun _ => ?_, fun q => (by cases q)⟩
      simp [sDo, c']
    · simp only [c', decide_false]
      exact tail (by omega)
end Go.Proofs.YtkmehmgocelkiaaDoor
