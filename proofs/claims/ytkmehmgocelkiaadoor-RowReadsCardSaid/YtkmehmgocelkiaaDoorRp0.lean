import Derived.Test.YtkmehmgocelkiaaDoorRa
import Derived.Test.YtkmehmgocelkiaaDoorPl
namespace Go.Proofs.YtkmehmgocelkiaaDoor
open Go.AV Go.RowKit

abbrev V := T_value_Value
abbrev V6 := T_ref06_Value
def Rg (n : Int) : Prop := -9223372036854775808 ≤ n ∧ n ≤ 9223372036854775807
def good (v : V) : Prop := (v.Kind = 0 ∧ v.N = 0 ∧ v.S = []) ∨ (v.Kind = 1 ∧ (v.N = 0 ∨ v.N = 1) ∧ v.S = []) ∨ (v.Kind = 2 ∧ Rg v.N ∧ v.S = []) ∨ (v.Kind = 3 ∧ v.N = 0 ∧ v.S.length ≤ 64)
def v6 (a : V) : V6 := ⟨a.Kind, a.N, a.S⟩
def D0 : V := ⟨0, 0, []⟩
def bV (b : Bool) : V := ⟨1, if b then 1 else 0, []⟩
def eqV (a b : V) : Bool := (a.Kind == b.Kind) && ((a.N == b.N) && ((a.S == b.S) && true))
theorem eqV_iff {a b : V} : eqV a b = true ↔ a = b := by
  cases a; cases b; simp [eqV]
theorem rg_wrap (n : Int) : Rg (IntKind.i64.wrap n) := by
  have := wrap64_range n; unfold Rg; omega
theorem pNone (v : V) : value_Value_none_o v (v.Kind == 0) := by
  unfold value_Value_none_o; grind [cnd]
theorem pOfBool (b : Bool) : value_OfBool_o b (bV b) := by
  unfold value_OfBool_o; cases b <;> simp [cnd, bV]
theorem pOfInt (n : Int) : value_OfInt_o n ⟨2, n, []⟩ := by unfold value_OfInt_o; rfl
theorem pTrue (v : V) : value_Value_True_o v (eqV v (bV true)) := ⟨_, pOfBool true, rfl⟩
def cI (a b : Int) : Int := if a < b then -1 else if b < a then 1 else 0
def cS (a b : Str) : Int := if Op.bytesLess a b then -1 else if !(Op.bytesLess a b || a == b) then 1 else 0
theorem pCmpI (a b : Int) : cmp_Compare_int_o a b (cI a b) := by
  refine ⟨_, rfl, _, rfl, ?_⟩
  grind [cnd, cI]
theorem pCmpJ (a b : Int) : cmp_Compare_int64_o a b (cI a b) := by
  refine ⟨_, rfl, _, rfl, ?_⟩
  grind [cnd, cI]
theorem pCmpS (a b : Str) : cmp_Compare_string_o a b (cS a b) := by
  refine ⟨_, rfl, _, rfl, ?_⟩
  grind [cnd, cS]
def sOr (a b c : Int) : Int := if a ≠ 0 then a else if b ≠ 0 then b else c
theorem pOr (a b c : Int) : cmp_Or_int_o [a, b, c] (sOr a b c) := by
  apply cmp_Or_int_i
  intro _ X hX
  apply hX
  refine ⟨fun _ => ⟨by omega, by simp, a, rfl, ?_⟩, fun h => by simp at h⟩
  refine ⟨fun h => by grind [sOr], fun h => ?_⟩
  rw [wrap64 (by omega) (by omega)]
  apply hX
  refine ⟨fun _ => ⟨by omega, by simp, b, rfl, ?_⟩, fun h => by simp at h⟩
  refine ⟨fun h => by grind [sOr], fun h => ?_⟩
  rw [wrap64 (by omega) (by omega)]
  apply hX
  refine ⟨fun _ => ⟨by omega, by simp, c, rfl, ?_⟩, fun h => by simp at h⟩
  refine ⟨fun h => by grind [sOr], fun h => ?_⟩
  rw [wrap64 (by omega) (by omega)]
  apply hX
  refine ⟨fun h => by simp at h, fun _ => by grind [sOr]⟩
def sCmp (a b : V) : Int := sOr (cI a.Kind b.Kind) (cI a.N b.N) (cS a.S b.S)
theorem pCompare (a b : V) : value_Compare_o a b (sCmp a b) :=
  ⟨_, pCmpI a.Kind b.Kind, _, pCmpJ a.N b.N, _, pCmpS a.S b.S, _, pOr _ _ _, rfl⟩
def s6Before (a b : V6) : Bool := if a.Kind ≠ b.Kind then decide (a.Kind < b.Kind) else if a.Kind = 3 then Op.bytesLess a.S b.S else decide (a.N < b.N)
theorem bl_step {a b : Str} {i : Nat} (h1 : i < a.length) (h2 : i < b.length) : Op.bytesLess (a.drop i) (b.drop i) = (decide (a[i] < b[i]) || (a[i] == b[i] && Op.bytesLess (a.drop (i + 1)) (b.drop (i + 1)))) := by
  rw [List.drop_eq_getElem_cons h1, List.drop_eq_getElem_cons h2]
  simp only [Op.bytesLess]
theorem bl_endL {a b : Str} {i : Nat} (h1 : a.length ≤ i) (h2 : i ≤ b.length) : Op.bytesLess (a.drop i) (b.drop i) = decide (i < b.length) := by
  rw [List.drop_of_length_le h1]
  by_cases h : i < b.length
  · rw [List.drop_eq_getElem_cons h]; simp [Op.bytesLess, h]
  · rw [List.drop_of_length_le (by omega)]; simp [Op.bytesLess, h]
theorem bl_endR {a b : Str} {i : Nat} (h2 : b.length ≤ i) : Op.bytesLess (a.drop i) (b.drop i) = false := by
  rw [List.drop_of_length_le h2]
  cases a.drop i <;> rfl
theorem bAt_nat {s : Str} {i : Nat} (h : i < s.length) : bAt s (i : Int) = (s[i].toNat : Int) := by
  unfold bAt
  rw [Int.toNat_natCast, List.getElem?_eq_getElem h]; rfl
theorem pBefore (a b : V6) (h1 : a.S.length ≤ 1000) (h2 : b.S.length ≤ 1000) : ref06_Before_o a b (s6Before a b) := by
  apply ref06_Before_i
  refine ⟨fun c => ?_, fun c => ⟨fun c3 => ?_, fun c3 => ?_⟩⟩
  · have c : a.Kind ≠ b.Kind := by simpa using c
    simp [s6Before, c]
  · have c : a.Kind = b.Kind := by simpa using c
    have c3 : a.Kind = 3 := by simpa using c3
    have hs : s6Before a b = Op.bytesLess a.S b.S := by simp [s6Before, ← c, c3]
    rw [hs]
    refine lp1 (fun (x : Int) => ∃ i : Nat, x = (i : Int) ∧ i ≤ a.S.length ∧ i ≤ b.S.length ∧ Op.bytesLess a.S b.S = Op.bytesLess (a.S.drop i) (b.S.drop i)) (fun (x : Int) => a.S.length - x.toNat) ?_ ⟨0, rfl, by omega, by omega, rfl⟩
    rintro X x ⟨i, rfl, hi1, hi2, he⟩ hX
    rw [he]
    simp only [ref06_Before_L1i, ref06_Before_J2i]
    by_cases l1 : i < a.S.length
    · by_cases l2 : i < b.S.length
      · have t1 : ((i : Int) < a.S.length) := by omega
        have t2 : ((i : Int) < b.S.length) := by omega
        simp only [t1, t2, decide_true]
        refine ⟨fun _ => ⟨fun _ => ⟨(by refine ⟨?_, ?_⟩ <;> first | trivial | omega), (by refine ⟨?_, ?_⟩ <;> first | trivial | omega), ?_⟩, fun q => (by cases q)⟩, fun q => (by cases q)⟩
        rw [bAt_nat l1, bAt_nat l2, bl_step l1 l2]
        refine ⟨fun d => ⟨(by refine ⟨?_, ?_⟩ <;> first | trivial | omega), (by refine ⟨?_, ?_⟩ <;> first | trivial | omega), ?_⟩, fun d => ?_⟩
        · have d0 : ¬ (a.S[i].toNat : Int) = b.S[i].toNat := by simpa using d
          have d : ¬ a.S[i].toNat = b.S[i].toNat := by omega
          have d' : ¬ a.S[i] = b.S[i] := fun e => d (by rw [e])
          rw [Bool.eq_iff_iff]
          simp [d', UInt8.lt_iff_toNat_lt]
        · have d : a.S[i] = b.S[i] := by
            have d0 : (a.S[i].toNat : Int) = b.S[i].toNat := by simpa using d
            have : a.S[i].toNat = b.S[i].toNat := by omega
            exact UInt8.toNat_inj.1 this
          rw [wrap64 (by omega) (by omega)]
          refine hX _ ⟨i + 1, by omega, by omega, by omega, ?_⟩ (by omega)
          rw [he, bl_step l1 l2]
          have hlt : ¬ b.S[i] < b.S[i] := Nat.lt_irrefl _
          simp [d, hlt]
      · have t1 : ((i : Int) < a.S.length) := by omega
        have t2 : ¬ ((i : Int) < b.S.length) := by omega
        simp only [t1, t2, decide_true, decide_false]
        refine ⟨fun _ => ⟨fun q => (by cases q), fun _ => ?_⟩, fun q => (by cases q)⟩
        rw [bl_endR (by omega)]
        simp; omega
    · have t1 : ¬ ((i : Int) < a.S.length) := by omega
      simp only [t1, decide_false]
      refine ⟨fun q => (by cases q), fun _ => ⟨fun q => (by cases q), fun _ => ?_⟩⟩
      rw [bl_endL (by omega) hi2]
      rw [Bool.eq_iff_iff]; simp; omega
  · have c : a.Kind = b.Kind := by simpa using c
    have c3 : ¬ a.Kind = 3 := by simpa using c3
    simp [s6Before, ← c, c3]
theorem cS_0 {a b : Str} : cS a b = 0 ↔ a = b := by
  unfold cS
  have := bl_irrefl b
  rcases bl_total a b with h | rfl | h
  · rw [if_pos h]; refine ⟨fun q => (by cases q), ?_⟩; rintro rfl; rw [h] at this; cases this
  · simp [this]
  · have hn : ¬ Op.bytesLess a b = true := fun q => by have := bl_trans _ _ _ q h; rw [bl_irrefl] at this; cases this
    have he : ¬ a = b := fun e => by subst e; rw [h] at this; cases this
    simp [hn, he]
theorem cS_neg {a b : Str} : cS a b < 0 ↔ Op.bytesLess a b = true := by
  unfold cS; split
  · rename_i h; simp [h]
  · rename_i h; split <;> simp [h]
theorem cS_pos {a b : Str} : 0 < cS a b ↔ Op.bytesLess b a = true := by
  have hi := bl_irrefl b
  unfold cS
  rcases bl_total a b with h | rfl | h
  · have hn : ¬ Op.bytesLess b a = true := fun q => by have := bl_trans _ _ _ h q; rw [bl_irrefl] at this; cases this
    simp [h, hn]
  · simp [hi]
  · have hn : ¬ Op.bytesLess a b = true := fun q => by have := bl_trans _ _ _ q h; rw [bl_irrefl] at this; cases this
    have he : ¬ a = b := fun e => by subst e; rw [h] at hi; cases hi
    simp [hn, he, h]
theorem cI_iff {a b : Int} : (cI a b = 0 ↔ a = b) ∧ (cI a b < 0 ↔ a < b) ∧ (0 < cI a b ↔ b < a) := by
  unfold cI
  split
  · refine ⟨by omega, by omega, by omega⟩
  · split <;> refine ⟨by omega, by omega, by omega⟩
theorem sCmp_0 {a b : V} : sCmp a b = 0 ↔ a = b := by
  unfold sCmp sOr
  have h1 := (cI_iff (a := a.Kind) (b := b.Kind)).1
  have h2 := (cI_iff (a := a.N) (b := b.N)).1
  have h3 := cS_0 (a := a.S) (b := b.S)
  cases a; cases b
  simp only [T_value_Value.mk.injEq]
  simp only at h1 h2 h3
  split
  · rename_i c; exact ⟨fun q => absurd q c, fun q => absurd (h1.2 q.1) c⟩
  · rename_i c
    have c := Decidable.not_not.1 c
    split
    · rename_i d; exact ⟨fun q => absurd q d, fun q => absurd (h2.2 q.2.1) d⟩
    · rename_i d
      have d := Decidable.not_not.1 d
      rw [h3]; exact ⟨fun q => ⟨h1.1 c, h2.1 d, q⟩, fun q => q.2.2⟩
theorem good_cmp {a b : V} (ha : good a) (hb : good b) : (sCmp a b < 0 ↔ s6Before (v6 a) (v6 b) = true) ∧ (0 < sCmp a b ↔ s6Before (v6 b) (v6 a) = true) := by
  have h1 := cI_iff (a := a.Kind) (b := b.Kind)
  have h2 := cI_iff (a := a.N) (b := b.N)
  have h3 := cS_neg (a := a.S) (b := b.S)
  have h4 := cS_pos (a := a.S) (b := b.S)
  have hs : ∀ {u v : V}, good u → good v → u.Kind = v.Kind → (u.Kind = 3 → u.N = v.N) ∧ (¬ u.Kind = 3 → u.S = v.S) := by
    intro u v hu hv e
    unfold good at hu hv
    refine ⟨fun k => ?_, fun k => ?_⟩
    · rcases hu with h | h | h | h <;> rcases hv with h' | h' | h' | h' <;> omega
    · rcases hu with h | h | h | h <;> rcases hv with h' | h' | h' | h' <;> first | (rw [h.2.2, h'.2.2]; done) | omega
  unfold sCmp sOr s6Before v6
  simp only
  by_cases hk : a.Kind = b.Kind
  · have hk0 := h1.1.2 hk
    obtain ⟨e3, e4⟩ := hs ha hb hk
    rw [hk0]
    simp only [ne_eq, not_true_eq_false, if_false, hk]
    by_cases k3 : b.Kind = 3
    · have hn0 := h2.1.2 (e3 (by omega))
      rw [hn0]
      simp only [not_true_eq_false, if_false, k3, if_true]
      exact ⟨h3, h4⟩
    · have es := e4 (by omega)
      simp only [k3, if_false]
      have hc : cS a.S b.S = 0 := cS_0.2 es
      rw [hc]
      by_cases hn : cI a.N b.N = 0
      · have e1 := h2.2.1
        have e2 := h2.2.2
        simp only [hn, not_true_eq_false, if_false, decide_eq_true_eq] at *
        exact ⟨by omega, by omega⟩
      · simp only [hn, not_false_eq_true, if_true]
        exact ⟨by rw [h2.2.1]; simp, by rw [h2.2.2]; simp⟩
  · have hn : ¬ cI a.Kind b.Kind = 0 := fun q => hk (h1.1.1 q)
    have hk' : ¬ b.Kind = a.Kind := fun q => hk q.symm
    simp only [ne_eq, hn, not_false_eq_true, if_true, hk, hk']
    exact ⟨by rw [h1.2.1]; simp, by rw [h1.2.2]; simp⟩
theorem goodN {a : V} (h : good a) : Rg a.N := by
  unfold good at h; unfold Rg at *
  rcases h with h | h | h | h <;> omega
theorem goodS {a : V} (h : good a) : a.S.length ≤ 64 := by
  unfold good at h
  rcases h with h | h | h | h
  · rw [h.2.2]; simp
  · rw [h.2.2]; simp
  · rw [h.2.2]; simp
  · exact h.2.2
theorem v6_eq {a b : V} : (((v6 a).Kind == (v6 b).Kind) && (((v6 a).N == (v6 b).N) && (((v6 a).S == (v6 b).S) && true))) = eqV a b := rfl
theorem v6_D0 : (⟨0, 0, []⟩ : V6) = v6 D0 := rfl
abbrev LV := T_law07_Value
def told (x : LV) : V := if x.Kind % 4 = 1 then ⟨1, x.N % 2, []⟩ else if x.Kind % 4 = 2 then ⟨2, x.N, []⟩ else if x.Kind % 4 = 3 then ⟨3, 0, x.S.take 64⟩ else ⟨0, 0, []⟩
def LOk (x : LV) : Prop := 0 ≤ x.Kind ∧ x.Kind ≤ 255 ∧ Rg x.N
theorem told_good {x : LV} (h : LOk x) : good (told x) := by
  obtain ⟨h1, h2, h3⟩ := h
  unfold told good
  have : x.N % 2 = 0 ∨ x.N % 2 = 1 := by omega
  split
  · exact .inr (.inl ⟨rfl, this, rfl⟩)
  · split
    · exact .inr (.inr (.inl ⟨rfl, h3, rfl⟩))
    · split
      · exact .inr (.inr (.inr ⟨rfl, rfl, by simp; omega⟩))
      · exact .inl ⟨rfl, rfl, rfl⟩
def sGood (v : V) : Bool := if v.Kind = 0 then eqV v D0 else if v.Kind = 1 then (v.N == 0 || v.N == 1) && v.S == [] else if v.Kind = 2 then v.S == [] else if v.Kind = 3 then v.N == 0 && decide ((v.S.length : Int) ≤ 64) else false
theorem pGoodV (v : V) : value_Value_Good_o v (sGood v) := by
  unfold value_Value_Good_o
  have e : ((v.Kind == 0) && ((v.N == 0) && ((v.S == ([] : Str)) && true))) = eqV v D0 := rfl
  rw [e]
  unfold sGood
  generalize eqV v D0 = z
  refine ⟨fun c => ?_, fun c => ⟨fun c1 => ?_, fun c1 => ⟨fun c2 => ?_, fun c2 => ⟨fun c3 => ?_, fun c3 => ?_⟩⟩⟩⟩ <;> simp only [beq_iff_eq, beq_eq_false_iff_ne, ne_eq] at * <;> grind [cnd]
def sShow (v : V) : Str := if !sGood v || v.Kind == 0 then [78, 85, 76, 76] else if eqV v (bV true) then [84, 82, 85, 69] else if v.Kind = 1 then [70, 65, 76, 83, 69] else if v.Kind = 2 then Go.Lib.itoa v.N else [39] ++ Go.Lib.replaceAll v.S [39] [39, 39] ++ [39]
theorem pShow {v : V} (hr : Rg v.N) (hl : (Go.Lib.replaceAll v.S [39] [39, 39]).length ≤ 100000) (hs : v.S.length ≤ 1000) : value_Value_Show_o v (sShow v) := by
  apply value_Value_Show_i
  simp only [value_Value_Show_oi, value_Value_Show_J1i]
  have g := pGoodV v
  have n := pNone v
  have t := pTrue v
  unfold Rg at hr
  have f : strconv_FormatInt_o v.N 10 (Go.Lib.itoa v.N) := ⟨rfl, hr.1, hr.2, rfl⟩
  have r : strings_ReplaceAll_o v.S [39] [39, 39] (Go.Lib.replaceAll v.S [39] [39, 39]) := ⟨by omega, by simp, by simp, rfl⟩
  have tail : ∀ b : Bool, (b = true → (!sGood v || v.Kind == 0) = true) → (b = false → (!sGood v || v.Kind == 0) = false) → cnd b (([78, 85, 76, 76] : Str) = sShow v) (∃ z2 : Bool, (value_Value_True_o v z2) ∧ cnd z2 (([84, 82, 85, 69] : Str) = sShow v) (cnd (v.Kind == (1 : Int)) (([70, 65, 76, 83, 69] : Str) = sShow v) (cnd (v.Kind == (2 : Int)) (∃ z3 : Str, (strconv_FormatInt_o v.N (10 : Int) z3) ∧ z3 = sShow v) (∃ z4 : Str, (strings_ReplaceAll_o v.S ([39] : Str) ([39, 39] : Str) z4) ∧ (([39] : Str).length + z4.length ≤ 9223372036854775807) ∧ ((([39] : Str) ++ z4).length + ([39] : Str).length ≤ 9223372036854775807) ∧ ((([39] : Str) ++ z4) ++ ([39] : Str)) = sShow v)))) := by
    intro b h1 h2
    refine ⟨fun e => ?_, fun e => ⟨_, t, fun c => ?_, fun c => ⟨fun c1 => ?_, fun c1 => ⟨fun c2 => ⟨_, f, ?_⟩, fun c2 => ⟨_, r, ?_, ?_, ?_⟩⟩⟩⟩⟩
    · unfold sShow; rw [if_pos (h1 e)]
    · unfold sShow; rw [h2 e, if_neg (by simp), if_pos c]
    · have c1 : v.Kind = 1 := by simpa using c1
      unfold sShow; rw [h2 e, if_neg (by simp), c, if_neg (by simp), if_pos c1]
    · have c1 : ¬ v.Kind = 1 := by simpa using c1
      have c2 : v.Kind = 2 := by simpa using c2
      unfold sShow; rw [h2 e, if_neg (by simp), c, if_neg (by simp), if_neg c1, if_pos c2]
    · simp; omega
    · simp; omega
    · have c1 : ¬ v.Kind = 1 := by simpa using c1
      have c2 : ¬ v.Kind = 2 := by simpa using c2
      unfold sShow; rw [h2 e, if_neg (by simp), c, if_neg (by simp), if_neg c1, if_neg c2]
  refine ⟨_, g, fun c => ?_, fun c => ⟨_, n, ?_⟩⟩
  · exact tail true (fun _ => by rw [c]; rfl) (fun q => (by cases q))
  · exact tail _ (fun q => by rw [q]; simp) (fun q => by rw [q, c]; rfl)
end Go.Proofs.YtkmehmgocelkiaaDoor
