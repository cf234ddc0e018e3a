/-
  Parts that are put together are the same in any order: what law 23's AggTurns computes is true. Plain Lean: no program in sight.
-/
import Derived.Test.YtkmehmgocelkiaaAggT
import Derived.Test.YtkmehmgocelkiaaPl
namespace Go.Proofs.Ytkmehmgocelkiaa
open Go.AV Go.RowKit

/-! ### values in order -/
def vlt (a b : T_value_Value) : Bool := decide (a.Kind < b.Kind) || (a.Kind == b.Kind && (decide (a.N < b.N) || (a.N == b.N && Op.bytesLess a.S b.S)))
def cc3 (lt gt : Bool) : Int := if lt then -1 else if gt then 1 else 0
theorem cmp_int (a b : Int) : cmp_Compare_int_o a b (cc3 (decide (a < b)) (decide (b < a))) := by
  refine ⟨false, by simp [cmp_isNaN_int_o], false, by simp [cmp_isNaN_int_o], cnd_of_false rfl (cnd_of_false rfl ?_)⟩
  refine ⟨fun h => by rw [h]; rfl, fun h => ⟨fun k => by rw [h, k]; rfl, fun k => by rw [h, k]; rfl⟩⟩
theorem cmp_int64 (a b : Int) : cmp_Compare_int64_o a b (cc3 (decide (a < b)) (decide (b < a))) := by
  refine ⟨false, by simp [cmp_isNaN_int64_o], false, by simp [cmp_isNaN_int64_o], cnd_of_false rfl (cnd_of_false rfl ?_)⟩
  refine ⟨fun h => by rw [h]; rfl, fun h => ⟨fun k => by rw [h, k]; rfl, fun k => by rw [h, k]; rfl⟩⟩
theorem cmp_str (a b : Str) : cmp_Compare_string_o a b (cc3 (Op.bytesLess a b) (!(Op.bytesLess a b || a == b))) := by
  refine ⟨false, by simp [cmp_isNaN_string_o], false, by simp [cmp_isNaN_string_o], cnd_of_false rfl (cnd_of_false rfl ?_)⟩
  refine ⟨fun h => by rw [h]; rfl, fun h => ⟨fun k => by rw [k, h]; rfl, fun k => by rw [k, h]; rfl⟩⟩
theorem cmp_or3 (a b c : Int) : cmp_Or_int_o [a, b, c] (if a ≠ 0 then a else if b ≠ 0 then b else c) := by
  intro _ X hX
  by_cases h : a = 0
  · rw [if_neg (by simpa using h)] at hX
    refine hX _ (cnd_of_true (by simp) ⟨by simp, a, rfl, cnd_of_false (by simpa using h) ?_⟩)
    rw [wrap64 (by omega) (by omega)]
    by_cases k : b = 0
    · rw [if_neg (by simpa using k)] at hX
      refine hX _ (cnd_of_true (by simp) ⟨by simp, b, rfl, cnd_of_false (by simpa using k) ?_⟩)
      rw [wrap64 (by omega) (by omega)]
      refine hX _ (cnd_of_true (by simp) ⟨by simp, c, rfl, fun _ => rfl, fun l => ?_⟩)
      rw [wrap64 (by omega) (by omega)]
      refine hX _ (cnd_of_false (by simp) ?_)
      simp at l
      exact l.symm
    · rw [if_pos (by simpa using k)] at hX
      exact hX _ (cnd_of_true (by simp) ⟨by simp, b, rfl, cnd_of_true (by simpa using k) rfl⟩)
  · rw [if_pos (by simpa using h)] at hX
    exact hX _ (cnd_of_true (by simp) ⟨by simp, a, rfl, cnd_of_true (by simpa using h) rfl⟩)
theorem value_compare (a b : T_value_Value) : ∃ z, value_Compare_o a b z ∧ decide (z < 0) = vlt a b ∧ decide (0 < z) = vlt b a := by
  refine ⟨_, ⟨_, cmp_int _ _, _, cmp_int64 _ _, _, cmp_str _ _, _, cmp_or3 _ _ _, rfl⟩, ?_, ?_⟩
  all_goals
    unfold vlt cc3
    rcases Int.lt_trichotomy a.Kind b.Kind with h | h | h
    · simp [h, Int.lt_asymm h, show ¬ b.Kind = a.Kind by omega, show ¬ a.Kind = b.Kind by omega]
    · rcases Int.lt_trichotomy a.N b.N with k | k | k
      · simp [h, k, Int.lt_asymm k, show ¬ b.N = a.N by omega, show ¬ a.N = b.N by omega]
      · rcases bl_total a.S b.S with q | q | q
        · have : Op.bytesLess b.S a.S = false := by
            cases e : Op.bytesLess b.S a.S with
            | false => rfl
            | true => have := bl_trans _ _ _ q e; rw [bl_irrefl] at this; cases this
          simp [h, k, q, this]
        · simp [h, k, q, bl_irrefl]
        · have : Op.bytesLess a.S b.S = false := by
            cases e : Op.bytesLess a.S b.S with
            | false => rfl
            | true => have := bl_trans _ _ _ q e; rw [bl_irrefl] at this; cases this
          have hne : ¬ a.S = b.S := fun e => by rw [e, bl_irrefl] at q; cases q
          simp [h, k, q, this, hne]
      · simp [h, k, Int.lt_asymm k, show ¬ b.N = a.N by omega, show ¬ a.N = b.N by omega]
    · simp [h, Int.lt_asymm h, show ¬ b.Kind = a.Kind by omega, show ¬ a.Kind = b.Kind by omega]
theorem vlt_trans {a b c : T_value_Value} (h : vlt a b = true) (k : vlt b c = true) : vlt a c = true := by
  simp only [vlt, Bool.or_eq_true, Bool.and_eq_true, decide_eq_true_eq, beq_iff_eq] at *
  rcases h with h | ⟨h, h⟩ <;> rcases k with k | ⟨k, k⟩
  · exact .inl (by omega)
  · exact .inl (by omega)
  · exact .inl (by omega)
  · refine .inr ⟨by omega, ?_⟩
    rcases h with h | ⟨h, h⟩ <;> rcases k with k | ⟨k, k⟩
    · exact .inl (by omega)
    · exact .inl (by omega)
    · exact .inl (by omega)
    · exact .inr ⟨by omega, bl_trans _ _ _ h k⟩
theorem vlt_total (a b : T_value_Value) : vlt a b = true ∨ a = b ∨ vlt b a = true := by
  obtain ⟨k, n, s⟩ := a
  obtain ⟨k', n', s'⟩ := b
  simp only [vlt, Bool.or_eq_true, Bool.and_eq_true, decide_eq_true_eq, beq_iff_eq, T_value_Value.mk.injEq]
  rcases Int.lt_trichotomy k k' with h | h | h
  · exact .inl (.inl h)
  · rcases Int.lt_trichotomy n n' with q | q | q
    · exact .inl (.inr ⟨h, .inl q⟩)
    · rcases bl_total s s' with r | r | r
      · exact .inl (.inr ⟨h, .inr ⟨q, r⟩⟩)
      · exact .inr (.inl ⟨h, q, r⟩)
      · exact .inr (.inr (.inr ⟨h.symm, .inr ⟨q.symm, r⟩⟩))
    · exact .inr (.inr (.inr ⟨h.symm, .inl q⟩))
  · exact .inr (.inr (.inl h))
theorem vlt_irrefl (a : T_value_Value) : vlt a a = false := by simp [vlt, bl_irrefl]
theorem vlt_neg {a b c : T_value_Value} (h : vlt a b = false) (k : vlt b c = false) : vlt a c = false := by
  cases e : vlt a c with
  | false => rfl
  | true =>
    rcases vlt_total a b with q | q | q
    · rw [q] at h; cases h
    · rw [q, k] at e; cases e
    · rw [vlt_trans q e] at k; cases k

/-! ### wide sums -/
def GW (a : T_wide_Wide) : Prop := -9223372036854775808 ≤ a.Hi ∧ a.Hi < 9223372036854775808 ∧ 0 ≤ a.Lo ∧ a.Lo < 18446744073709551616
def wadd (a b : T_wide_Wide) : T_wide_Wide := ⟨IntKind.i64.wrap (a.Hi + b.Hi + (a.Lo + b.Lo) / 18446744073709551616), (a.Lo + b.Lo) % 18446744073709551616⟩
theorem wadd_good (a b : T_wide_Wide) : GW (wadd a b) := by
  have := wrap64_range (a.Hi + b.Hi + (a.Lo + b.Lo) / 18446744073709551616)
  refine ⟨this.1, this.2, ?_, ?_⟩ <;> simp only [wadd] <;> omega
theorem wadd_assoc {a b c : T_wide_Wide} (ha : GW a) (hb : GW b) (hc : GW c) : wadd (wadd a b) c = wadd a (wadd b c) := by
  unfold GW at ha hb hc
  simp only [wadd, T_wide_Wide.mk.injEq]
  refine ⟨?_, by omega⟩
  rw [show ∀ p q r : Int, IntKind.i64.wrap p + q + r = IntKind.i64.wrap p + (q + r) from fun p q r => by omega, wrap64_l, show a.Hi + IntKind.i64.wrap (b.Hi + c.Hi + (b.Lo + c.Lo) / 18446744073709551616) + (a.Lo + (b.Lo + c.Lo) % 18446744073709551616) / 18446744073709551616 = (a.Hi + (a.Lo + (b.Lo + c.Lo) % 18446744073709551616) / 18446744073709551616) + IntKind.i64.wrap (b.Hi + c.Hi + (b.Lo + c.Lo) / 18446744073709551616) by omega, wrap64_r]
  congr 1
  omega
theorem wide_plus {a b : T_wide_Wide} (ha : GW a) (hb : GW b) : wide_Plus_o [a, b] (wadd a b) := by
  obtain ⟨h1, h2, h3, h4⟩ := ha
  obtain ⟨k1, k2, k3, k4⟩ := hb
  intro _ X hX
  refine hX _ _ _ (cnd_of_true (by simp) ⟨by simp, a, rfl, _, ⟨by omega, h3, by omega, by omega, rfl⟩, ?_⟩)
  refine hX _ _ _ (cnd_of_true (by rw [wrap64 (by omega) (by omega)]; simp) ⟨by rw [wrap64 (by omega) (by omega)]; omega, b, by rw [wrap64 (by omega) (by omega)]; rfl, _, ⟨by simp only; omega, k3, by omega, by omega, rfl⟩, ?_⟩)
  refine hX _ _ _ (cnd_of_false (by rw [wrap64 (n := 0 + 1) (by omega) (by omega), wrap64 (by omega) (by omega)]; simp) ?_)
  simp only [wide_Plus_J1, wadd, T_wide_Wide.mk.injEq]
  refine ⟨?_, by omega⟩
  rw [wrap64 (n := (0 + a.Lo + 0) / 18446744073709551616) (by omega) (by omega), wrap64 (n := 0 + a.Hi) (by omega) (by omega), wrap64 (n := 0 + a.Hi + (0 + a.Lo + 0) / 18446744073709551616) (by omega) (by omega), wrap64 (n := ((0 + a.Lo + 0) % 18446744073709551616 + b.Lo + 0) / 18446744073709551616) (by omega) (by omega)]
  simp only [wrap64_eq]
  split <;> split <;> split <;> omega

/-! ### one aggregate's parts -/
def oz : T_agg_One := ⟨0, ⟨0, 0⟩, ⟨0, 0, []⟩, ⟨0, 0, []⟩⟩
structure GO (m : Int) (x : T_agg_One) : Prop where
  n0 : 0 ≤ x.N
  n1 : x.N ≤ m
  z : x.N = 0 → x = oz
  w : GW x.Sum
  a : x.Min.S.length ≤ 64
  b : x.Max.S.length ≤ 64
def oplus (x y : T_agg_One) : T_agg_One :=
  if x.N = 0 then y else if y.N = 0 then x else ⟨x.N + y.N, wadd x.Sum y.Sum, if vlt y.Min x.Min = true then y.Min else x.Min, if vlt x.Max y.Max = true then y.Max else x.Max⟩
theorem oplus_good {m n : Int} {x y : T_agg_One} (hx : GO m x) (hy : GO n y) : GO (m + n) (oplus x y) := by
  have hx0 := hx.n0; have hx1 := hx.n1; have hy0 := hy.n0; have hy1 := hy.n1
  unfold oplus
  by_cases h : x.N = 0
  · rw [if_pos h]; exact ⟨hy.n0, by omega, hy.z, hy.w, hy.a, hy.b⟩
  rw [if_neg h]
  by_cases k : y.N = 0
  · rw [if_pos k]; exact ⟨hx.n0, by omega, hx.z, hx.w, hx.a, hx.b⟩
  rw [if_neg k]
  refine ⟨by simp only; omega, by simp only; omega, fun q => by simp only at q; omega, wadd_good _ _, ?_, ?_⟩
  · simp only; split
    · exact hy.a
    · exact hx.a
  · simp only; split
    · exact hy.b
    · exact hx.b
theorem one_plus {m n : Int} {x y : T_agg_One} (hx : GO m x) (hy : GO n y) (hm : m ≤ 1000) (hn : n ≤ 1000) : agg_One_plus_o x y (oplus x y) := by
  have hx0 := hx.n0; have hx1 := hx.n1; have hy0 := hy.n0; have hy1 := hy.n1
  unfold oplus
  refine ⟨fun h => ?_, fun h => ⟨fun k => ?_, fun k => ?_⟩⟩
  · rw [if_pos (by simpa using h)]
  · rw [if_neg (by simpa using h), if_pos (by simpa using k)]
  rw [if_neg (by simpa using h), if_neg (by simpa using k)]
  obtain ⟨z, c1, c2, c3'⟩ := value_compare y.Min x.Min
  obtain ⟨u, d1, d2, d3⟩ := value_compare y.Max x.Max
  have hw : IntKind.i64.wrap (x.N + y.N) = x.N + y.N := wrap64 (by omega) (by omega)
  refine ⟨_, wide_plus hx.w hy.w, z, c1, ?_⟩
  rw [c2]
  refine ⟨fun e => ⟨u, d1, ?_⟩, fun e => ⟨u, d1, ?_⟩⟩ <;> rw [d3] <;> refine ⟨fun f => ?_, fun f => ?_⟩ <;> simp only [agg_One_plus_J2, hw, e, f] <;> rfl
theorem oplus_assoc {m n q : Int} {x y z : T_agg_One} (hx : GO m x) (hy : GO n y) (hz : GO q z) : oplus (oplus x y) z = oplus x (oplus y z) := by
  have hx0 := hx.n0; have hy0 := hy.n0; have hz0 := hz.n0
  by_cases h : x.N = 0
  · simp [oplus, h]
  by_cases k : y.N = 0
  · simp [oplus, h, k]
  by_cases l : z.N = 0
  · have : ¬ x.N + y.N = 0 := by omega
    simp [oplus, h, k, l, this]
  have e1 : ¬ x.N + y.N = 0 := by omega
  have e2 : ¬ y.N + z.N = 0 := by omega
  simp only [oplus, h, k, l, e1, e2, if_false, T_agg_One.mk.injEq]
  refine ⟨by omega, wadd_assoc hx.w hy.w hz.w, ?_, ?_⟩
  · cases a : vlt y.Min x.Min <;> cases b : vlt z.Min y.Min
    · simp [a, vlt_neg b a]
    · simp [a]
    · simp [a, b]
    · simp [a, b, vlt_trans b a]
  · cases a : vlt x.Max y.Max <;> cases b : vlt y.Max z.Max
    · simp [a, vlt_neg a b]
    · simp [a]
    · simp [a, b]
    · simp [a, b, vlt_trans a b]
theorem oplus_zr {m : Int} {x : T_agg_One} (hx : GO m x) : oplus x oz = x := by
  unfold oplus
  by_cases h : x.N = 0
  · rw [if_pos h, hx.z h]
  · rw [if_neg h, if_pos (show oz.N = 0 from rfl)]
theorem oplus_zl (x : T_agg_One) : oplus oz x = x := rfl

/-! ### parts -/
def GP (m : Int) (p : T_agg_Part) : Prop := p.Rows = m ∧ ∃ x y, p.L = [x, y] ∧ GO m x ∧ GO m y
def pz : T_agg_Part := ⟨0, [oz, oz]⟩
theorem oz_good : GO 0 oz := ⟨by decide, by decide, fun _ => rfl, ⟨by decide, by decide, by decide, by decide⟩, by decide, by decide⟩
theorem pz_good : GP 0 pz := ⟨rfl, oz, oz, rfl, oz_good, oz_good⟩
def pplus (p q : T_agg_Part) : T_agg_Part := ⟨p.Rows + q.Rows, List.zipWith oplus p.L q.L⟩
theorem pplus_good {m n : Int} {p q : T_agg_Part} (hp : GP m p) (hq : GP n q) : GP (m + n) (pplus p q) := by
  obtain ⟨rfl, x, y, e, hx, hy⟩ := hp
  obtain ⟨rfl, z, u, f, hz, hu⟩ := hq
  exact ⟨rfl, _, _, by simp only [pplus, e, f]; rfl, oplus_good hx hz, oplus_good hy hu⟩
theorem pplus_assoc {m n k : Int} {p q r : T_agg_Part} (hp : GP m p) (hq : GP n q) (hr : GP k r) : pplus (pplus p q) r = pplus p (pplus q r) := by
  obtain ⟨rfl, x, y, e, hx, hy⟩ := hp
  obtain ⟨rfl, z, u, f, hz, hu⟩ := hq
  obtain ⟨rfl, v, w, g, hv, hw⟩ := hr
  simp only [pplus, e, f, g, List.zipWith, T_agg_Part.mk.injEq, oplus_assoc hx hz hv, oplus_assoc hy hu hw]
  exact ⟨by omega, trivial⟩
theorem pplus_zr {m : Int} {p : T_agg_Part} (hp : GP m p) : pplus p pz = p := by
  obtain ⟨r, l⟩ := p
  obtain ⟨rfl, x, y, e, hx, hy⟩ := hp
  simp only at e
  simp only [pplus, e, pz, List.zipWith, T_agg_Part.mk.injEq, oplus_zr hx, oplus_zr hy]
  exact ⟨by omega, trivial⟩
theorem pplus_zl {m : Int} {p : T_agg_Part} (hp : GP m p) : pplus pz p = p := by
  obtain ⟨r, l⟩ := p
  obtain ⟨rfl, x, y, e, hx, hy⟩ := hp
  simp only at e
  simp only [pplus, e, pz, List.zipWith, T_agg_Part.mk.injEq, oplus_zl]
  exact ⟨by omega, trivial⟩
theorem plus_o {m n : Int} {p q : T_agg_Part} (hp : GP m p) (hq : GP n q) (hm0 : 0 ≤ m) (hn0 : 0 ≤ n) (hm : m ≤ 1000) (hn : n ≤ 1000) : agg_Plus_o p q (pplus p q) := by
  obtain ⟨rp, lp⟩ := p
  obtain ⟨rq, lq⟩ := q
  obtain ⟨rfl, x, y, e, hx, hy⟩ := hp
  obtain ⟨rfl, z, u, f, hz, hu⟩ := hq
  simp only at e f hm hn hm0 hn0
  subst e f
  intro _ _ X hX
  refine hX _ _ (cnd_of_true (by simp) ⟨by simp, x, rfl, by simp, z, rfl, _, one_plus hx hz hm hn, by simp, ?_⟩)
  rw [wrap64 (n := 0 + 1) (by omega) (by omega)]
  refine hX _ _ (cnd_of_true (by simp) ⟨by simp, y, rfl, by simp, u, rfl, _, one_plus hy hu hm hn, by simp, ?_⟩)
  rw [wrap64 (n := 0 + 1 + 1) (by omega) (by omega)]
  refine hX _ _ (cnd_of_false (by simp) ?_)
  simp only [agg_Plus_J1, pplus, T_agg_Part.mk.injEq]
  exact ⟨wrap64 (by omega) (by omega), rfl⟩
theorem none_o : agg_None_o 2 pz := ⟨by decide, by decide, by decide, rfl⟩

/-! ### packing ends -/
theorem pack_wide (a n : Int) (h0 : 0 ≤ n) (h1 : n ≤ 100) : ∃ r, pack_wide_o a n r ∧ (r.length : Int) = n := by
  suffices h : ∀ (k : Nat) (l : List Int), (k : Int) ≤ n → (l.length : Int) = n → ∃ r, (r.length : Int) = n ∧ ∀ X : List Int → Int → Prop, (∀ a0 a1, pack_wide_L3 n a r X a0 a1 → X a0 a1) → X l (n - k) by
    obtain ⟨r, h2, h3⟩ := h n.toNat (List.replicate n.toNat 0) (by omega) (by rw [List.length_replicate]; omega)
    refine ⟨r, ⟨h0, by omega, by omega, fun X hX => ?_⟩, h2⟩
    have := h3 X hX
    rwa [show n - (n.toNat : Int) = 0 by omega] at this
  intro k
  induction k with
  | zero =>
    intro l _ hl
    refine ⟨l, hl, fun X hX => hX _ _ (cnd_of_false ?_ rfl)⟩
    rw [List.length_replicate]
    exact decide_eq_false (by omega)
  | succ k ih =>
    intro l hk hl
    have e1 : IntKind.i64.wrap (8 * (n - (k + 1 : Nat))) = 8 * (n - (k + 1 : Nat)) := wrap64 (by omega) (by omega)
    have e2 : IntKind.i64.wrap (IntKind.i64.wrap (n - 1) - (n - (k + 1 : Nat))) = k := by
      rw [wrap64 (n := n - 1) (by omega) (by omega), wrap64 (by omega) (by omega)]; omega
    have e3 : IntKind.i64.wrap (n - (k + 1 : Nat) + 1) = n - k := by
      rw [wrap64 (by omega) (by omega)]; omega
    obtain ⟨r, h2, h3⟩ := ih (l.set k (IntKind.u8.wrap (a.fdiv (2 ^ (min (8 * (n - (k + 1 : Nat))).toNat IntKind.u64.bits))))) (by omega) (by rw [List.length_set]; exact hl)
    refine ⟨r, h2, fun X hX => hX _ _ (cnd_of_true ?_ ?_)⟩
    · rw [List.length_replicate]
      exact decide_eq_true (by omega)
    · rw [e1, e2, e3]
      exact ⟨by omega, by omega, l[k]'(by omega), List.getElem?_eq_getElem (by omega), h3 X hX⟩
theorem pack_int (a : Int) : ∃ s, pack_Int_o a s ∧ s.length = 8 := by
  obtain ⟨r, h1, h2⟩ := pack_wide (bits .xor .u64 (IntKind.u64.wrap a) (9223372036854775808 : Int)) 8 (by omega) (by omega)
  exact ⟨_, ⟨r, h1, rfl⟩, by rw [List.length_map]; omega⟩
theorem row_text (v : T_value_Value) (h : v.S.length ≤ 64) : ∃ s, row_text_o v s ∧ s.length ≤ 65 := by
  unfold row_text_o
  by_cases k1 : v.Kind = 1
  · exact ⟨_, cnd_of_true (by simp [k1]) ⟨by simp, rfl⟩, by simp⟩
  by_cases k2 : v.Kind = 2
  · obtain ⟨s, h1, h2⟩ := pack_int v.N
    exact ⟨_, cnd_of_false (by simp [k1]) (cnd_of_true (by simp [k2]) ⟨s, h1, by simp [h2], rfl⟩), by simp [h2]⟩
  by_cases k3 : v.Kind = 3
  · exact ⟨_, cnd_of_false (by simp [k1]) (cnd_of_false (by simp [k2]) (cnd_of_true (by simp [k3]) ⟨by simp; omega, rfl⟩)), by simp; omega⟩
  · exact ⟨_, cnd_of_false (by simp [k1]) (cnd_of_false (by simp [k2]) (cnd_of_false (by simp [k3]) rfl)), by simp⟩
/-- the bytes of all -/
def tot : List Str → Nat
  | [] => 0
  | s :: l => s.length + 4 + tot l
theorem tot_append : ∀ (l m : List Str), tot (l ++ m) = tot l + tot m
  | [], m => by simp [tot]
  | s :: l, m => by simp [tot, tot_append l m]; omega
theorem tot_len : ∀ l : List Str, 4 * l.length ≤ tot l
  | [] => by simp [tot]
  | s :: l => by have := tot_len l; simp [tot]; omega
theorem tot_at : ∀ (l : List Str) (i : Nat) (s : Str), l[i]? = some s → tot (l.drop i) = s.length + 4 + tot (l.drop (i + 1))
  | [], i, s, h => by simp at h
  | t :: l, 0, s, h => by simp at h; subst h; simp [tot]
  | t :: l, i + 1, s, h => by simpa using tot_at l i s (by simpa using h)
theorem pack_pack (l : List Str) (hl : tot l ≤ 100000000) : ∃ s, pack_Pack_o l s ∧ s.length = tot l := by
  have hlen := tot_len l
  suffices h : ∀ (k : Nat) (b : List Int), k ≤ l.length → b.length + tot (l.drop (l.length - k)) = tot l → ∃ s, s.length = tot l ∧ ∀ X : List Int → Int → Prop, (∀ a0 a1, pack_Pack_L3 l s X a0 a1 → X a0 a1) → X b ((l.length - k : Nat) : Int) by
    obtain ⟨s, h1, h2⟩ := h l.length [] (Nat.le_refl _) (by simp)
    refine ⟨s, fun _ X hX => ?_, h1⟩
    have := h2 X hX
    rwa [Nat.sub_self] at this
  intro k
  induction k with
  | zero =>
    intro b _ hb
    refine ⟨b.map toB, by simp [tot] at hb; rw [List.length_map]; exact hb, fun X hX => hX _ _ (cnd_of_false ?_ rfl)⟩
    exact decide_eq_false (by omega)
  | succ k ih =>
    intro b hk hb
    obtain ⟨y, hy⟩ : ∃ y, l[l.length - (k + 1)]? = some y := ⟨_, List.getElem?_eq_getElem (by omega)⟩
    rw [tot_at l _ y hy, show l.length - (k + 1) + 1 = l.length - k by omega] at hb
    obtain ⟨z, h1, h2⟩ := pack_wide (IntKind.u64.wrap (y.length : Int)) 4 (by omega) (by omega)
    obtain ⟨s, h3, h4⟩ := ih ((b ++ z) ++ y.map ofB) (by omega) (by simp; omega)
    refine ⟨s, h3, fun X hX => hX _ _ (cnd_of_true (decide_eq_true (by omega)) ⟨by omega, y, hy, z, h1, by omega, by omega, by simp; omega, by omega, ?_⟩)⟩
    have := h4 X hX
    rwa [wrap64 (by omega) (by omega), show ((l.length - (k + 1) : Nat) : Int) + 1 = ((l.length - k : Nat) : Int) by omega]
theorem row_key1 (v : T_value_Value) (h : v.S.length ≤ 64) : ∃ s, row_Key_o [v] s ∧ s.length ≤ 69 := by
  obtain ⟨t, h1, h2⟩ := row_text v h
  obtain ⟨s, h3, h4⟩ := pack_pack [t] (by simp [tot]; omega)
  refine ⟨s, fun _ X hX => ?_, by simp [tot] at h4; omega⟩
  refine hX _ _ (cnd_of_true (by simp) ⟨by simp, v, rfl, t, h1, by simp, ?_⟩)
  rw [wrap64 (n := 0 + 1) (by omega) (by omega)]
  exact hX _ _ (cnd_of_false (by simp) ⟨s, h3, rfl⟩)
theorem row_key0 : ∃ s, row_Key_o [] s ∧ s.length ≤ 69 := by
  obtain ⟨s, h3, h4⟩ := pack_pack [] (by simp [tot])
  exact ⟨s, fun _ X hX => hX _ _ (cnd_of_false (by simp) ⟨s, h3, rfl⟩), by simp [tot] at h4; simp [h4]⟩
theorem wide_eight (a : Int) : ∃ s, wide_eight_o a s ∧ s.length = 8 := by
  suffices h : ∀ (k : Nat) (l : List Int), k ≤ 8 → l.length = 8 → ∃ r, r.length = 8 ∧ ∀ X : List Int → Int → Prop, (∀ a0 a1, wide_eight_L3 a r X a0 a1 → X a0 a1) → X l ((8 - k : Nat) : Int) by
    obtain ⟨r, h2, h3⟩ := h 8 (List.replicate 8 0) (by omega) (by simp)
    exact ⟨r, ⟨by omega, by decide, by omega, fun X hX => h3 X hX⟩, h2⟩
  intro k
  induction k with
  | zero =>
    intro l _ hl
    exact ⟨l.map toB, by simpa using hl, fun X hX => hX _ _ (cnd_of_false (by simp) rfl)⟩
  | succ k ih =>
    intro l hk hl
    have e1 : IntKind.i64.wrap (8 * ((8 - (k + 1) : Nat) : Int)) = 8 * ((8 - (k + 1) : Nat) : Int) := wrap64 (by omega) (by omega)
    have e2 : IntKind.i64.wrap (7 - ((8 - (k + 1) : Nat) : Int)) = k := by
      rw [wrap64 (by omega) (by omega)]; omega
    have e3 : IntKind.i64.wrap (((8 - (k + 1) : Nat) : Int) + 1) = ((8 - k : Nat) : Int) := by
      rw [wrap64 (by omega) (by omega)]; omega
    obtain ⟨r, h2, h3⟩ := ih (l.set k (IntKind.u8.wrap (a.fdiv (2 ^ (min (8 * ((8 - (k + 1) : Nat) : Int)).toNat IntKind.u64.bits))))) (by omega) (by rw [List.length_set]; exact hl)
    refine ⟨r, h2, fun X hX => hX _ _ (cnd_of_true ?_ ?_)⟩
    · rw [List.length_replicate]
      exact decide_eq_true (by simp; omega)
    · rw [e1, e2, e3]
      exact ⟨by omega, by omega, l[k]'(by omega), List.getElem?_eq_getElem (by omega), h3 X hX⟩
theorem wide_key (a : T_wide_Wide) : ∃ s, wide_Wide_Key_o a s ∧ s.length = 16 := by
  obtain ⟨s, h1, h2⟩ := wide_eight (IntKind.u64.wrap a.Hi)
  obtain ⟨t, h3, h4⟩ := wide_eight a.Lo
  exact ⟨s ++ t, ⟨s, h1, t, h3, by omega, rfl⟩, by simp; omega⟩
theorem part_text {m : Int} {p : T_agg_Part} (h : GP m p) : ∃ s, agg_Part_text_o p s ∧ s.length ≤ 1000 := by
  obtain ⟨r, l⟩ := p
  obtain ⟨rfl, x, y, e, hx, hy⟩ := h
  simp only at e
  subst e
  obtain ⟨a, a1, a2⟩ := pack_int r
  obtain ⟨b, b1, b2⟩ := pack_int x.N
  obtain ⟨c, c1, c2⟩ := wide_key x.Sum
  obtain ⟨d, d1, d2⟩ := row_key1 x.Min hx.a
  obtain ⟨f, f1, f2⟩ := row_key1 x.Max hx.b
  obtain ⟨b', b3, b4⟩ := pack_int y.N
  obtain ⟨c', c3, c4⟩ := wide_key y.Sum
  obtain ⟨d', d3, d4⟩ := row_key1 y.Min hy.a
  obtain ⟨f', f3, f4⟩ := row_key1 y.Max hy.b
  obtain ⟨s, s1, s2⟩ := pack_pack ([a] ++ [b, c, d, f] ++ [b', c', d', f']) (by simp [tot]; omega)
  refine ⟨s, ⟨a, a1, fun _ X hX => ?_⟩, by simp [tot] at s2; omega⟩
  refine hX _ _ (cnd_of_true (by simp) ⟨by simp, x, rfl, b, b1, c, c1, d, d1, f, f1, by simp, ?_⟩)
  rw [wrap64 (n := 0 + 1) (by omega) (by omega)]
  refine hX _ _ (cnd_of_true (by simp) ⟨by simp, y, rfl, b', b3, c', c3, d', d3, f', f3, by simp, ?_⟩)
  rw [wrap64 (n := 0 + 1 + 1) (by omega) (by omega)]
  exact hX _ _ (cnd_of_false (by simp) ⟨s, s1, rfl⟩)
theorem one_o {m : Int} {p : T_agg_Part} (h : GP m p) : ∃ s, law23_AggTurns_1_o p s := by
  obtain ⟨a, a1, a2⟩ := row_key0
  obtain ⟨b, b1, b2⟩ := part_text h
  obtain ⟨s, s1, s2⟩ := pack_pack ([] ++ [a, b]) (by simp [tot]; omega)
  refine ⟨s, s, fun _ X hX => ?_, rfl⟩
  refine hX _ _ (cnd_of_true (by simp) ⟨by simp, _, rfl, a, a1, b, b1, by simp, ?_⟩)
  rw [wrap64 (n := 0 + 1) (by omega) (by omega)]
  exact hX _ _ (cnd_of_false (by simp) ⟨s, s1, rfl⟩)

/-! ### a row's part -/
def wof (n : Int) : T_wide_Wide := ⟨n.fdiv (2 ^ (min (63 : Int).toNat IntKind.i64.bits)), IntKind.u64.wrap n⟩
def ofOne (v : T_value_Value) : T_agg_One := if v.Kind = 0 then oz else ⟨1, if v.Kind = 2 then wof v.N else ⟨0, 0⟩, v, v⟩
theorem wof_good {n : Int} (h0 : -9223372036854775808 ≤ n) (h1 : n < 9223372036854775808) : GW (wof n) := by
  have e : wof n = ⟨n / 9223372036854775808, n % 18446744073709551616⟩ := by
    simp only [wof, wrapu64_eq, T_wide_Wide.mk.injEq, and_true]
    rw [Int.fdiv_eq_ediv_of_nonneg _ (by decide)]
    rfl
  rw [e]
  refine ⟨?_, ?_, ?_, ?_⟩ <;> simp only <;> omega
theorem of_o (l : List T_value_Value) (hl : l.length ≤ 1000) : agg_Of_o l ⟨1, l.map ofOne⟩ := by
  intro _
  refine Lp2_of (fun (x : Int) (a : List T_agg_One) => ∃ i : Nat, x = i ∧ i ≤ l.length ∧ a = (l.take i).map ofOne) (fun (x : Int) (_ : List T_agg_One) => ((l.length : Int) - x).toNat) ?_ ?_
  rotate_left
  · exact ⟨0, rfl, by omega, rfl⟩
  rintro X x a ⟨i, rfl, hi, rfl⟩ hX
  refine ⟨fun hc => ?_, fun hc => ?_⟩
  · have hi' : i < l.length := by simpa using hc
    have hw : IntKind.i64.wrap ((i : Int) + 1) = ((i + 1 : Nat) : Int) := by rw [wrap64 (by omega) (by omega)]; omega
    have key : X ((i + 1 : Nat) : Int) ((l.take i).map ofOne ++ [ofOne l[i]]) := by
      refine hX _ _ ⟨i + 1, rfl, by omega, ?_⟩ (by omega)
      rw [List.take_add_one, List.getElem?_eq_getElem hi', List.map_append]; rfl
    refine ⟨by omega, l[i], List.getElem?_eq_getElem (by omega), fun h => ?_, fun h => ?_⟩
    · have h0 : ¬ l[i].Kind = 0 := by simpa using h
      refine ⟨fun k => ⟨wof l[i].N, rfl, by simp; omega, ?_⟩, fun k => ⟨by simp; omega, ?_⟩⟩
      · rw [hw]
        have h2 : l[i].Kind = 2 := by simpa using k
        have e : ofOne l[i] = ⟨1, wof l[i].N, l[i], l[i]⟩ := by simp [ofOne, h2]
        rw [e] at key
        exact key
      · rw [hw]
        have h2 : ¬ l[i].Kind = 2 := by simpa using k
        have e : ofOne l[i] = ⟨1, ⟨0, 0⟩, l[i], l[i]⟩ := by simp [ofOne, h0, h2]
        rw [e] at key
        exact key
    · have h0 : l[i].Kind = 0 := by simpa using h
      have e : ofOne l[i] = oz := by simp [ofOne, h0]
      rw [e] at key
      refine ⟨fun k => ?_, fun k => ⟨by simp; omega, ?_⟩⟩
      · rw [h0] at k; cases k
      · rw [hw]; exact key
  · have hi' : i = l.length := by
      have : ¬ i < l.length := by simpa using hc
      omega
    subst hi'
    rw [List.take_length]
    exact rfl
theorem ofOne_good {v : T_value_Value} (h0 : -9223372036854775808 ≤ v.N) (h1 : v.N < 9223372036854775808) (h2 : v.S.length ≤ 64) : GO 1 (ofOne v) := by
  unfold ofOne
  by_cases h : v.Kind = 0
  · rw [if_pos h]; exact ⟨by decide, by decide, fun _ => rfl, ⟨by decide, by decide, by decide, by decide⟩, by decide, by decide⟩
  · rw [if_neg h]
    refine ⟨Int.le.intro_sub 1 rfl, Int.le_refl _, fun e => (by cases e), ?_, h2, h2⟩
    simp only; split
    · exact wof_good h0 h1
    · exact ⟨by decide, by decide, by decide, by decide⟩
theorem of_law {x : T_law23_Value} (hx : R_law23_Value_67 x) : ∃ v, law23_of_o x v ∧ -9223372036854775808 ≤ v.1.N ∧ v.1.N < 9223372036854775808 ∧ v.1.S.length ≤ 64 := by
  obtain ⟨h1, h2, h3⟩ := hx
  have h2' := wf64.1 h2
  unfold law23_of_o
  generalize hk : IntKind.i64.wrap (x.Kind.tmod 4) = k
  by_cases k1 : k = 1
  · refine ⟨_, cnd_of_true (by simp [k1]) rfl, ?_⟩
    have hb := bits64_range .and x.N 1
    exact ⟨by simp only; omega, by simp only; omega, by simp⟩
  by_cases k2 : k = 2
  · exact ⟨_, cnd_of_false (by simp [k1]) (cnd_of_true (by simp [k2]) rfl), by simp only; omega, by simp only; omega, by simp⟩
  by_cases k3 : k = 3
  · refine ⟨_, cnd_of_false (by simp [k1]) (cnd_of_false (by simp [k2]) (cnd_of_true (by simp [k3]) ⟨⟨by omega, ?_, ?_⟩, rfl⟩)), by simp, by simp, ?_⟩
    · split <;> omega
    · split <;> omega
    · simp only [List.length_take, List.length_drop]
      split <;> simp <;> omega
  · exact ⟨_, cnd_of_false (by simp [k1]) (cnd_of_false (by simp [k2]) (cnd_of_false (by simp [k3]) rfl)), by simp, by simp, by simp⟩
theorem told_o {x : T_law23_Row} (hx : R_law23_Row_69 x) : ∃ g, law23_told_o x g ∧ GP 1 g.1.Part := by
  obtain ⟨_, hA, hB⟩ := hx
  obtain ⟨v, v1, v2, v3, v4⟩ := of_law hA
  obtain ⟨u, u1, u2, u3, u4⟩ := of_law hB
  exact ⟨_, ⟨v, v1, u, u1, _, rfl, _, of_o [v.1, u.1] (by simp), rfl⟩, rfl, _, _, rfl, ofOne_good v2 v3 v4, ofOne_good u2 u3 u4⟩

theorem plus1_o {m n r q : Int} {x z : T_agg_One} (hx : GO m x) (hz : GO n z) (hm : m ≤ 1000) (hn : n ≤ 1000) : agg_Plus_o ⟨r, [x]⟩ ⟨q, [z]⟩ ⟨IntKind.i64.wrap (r + q), [oplus x z]⟩ := by
  intro _ _ X hX
  refine hX _ _ (cnd_of_true (by simp) ⟨by simp, x, rfl, by simp, z, rfl, _, one_plus hx hz hm hn, by simp, ?_⟩)
  rw [wrap64 (n := 0 + 1) (by omega) (by omega)]
  exact hX _ _ (cnd_of_false (by simp) rfl)
theorem speaks_o : law23_speaks_o true := by
  have g1 : GO 1 (ofOne ⟨2, 1, []⟩) := ofOne_good (by decide) (by decide) (by decide)
  have g2 : GO 1 (ofOne ⟨0, 0, []⟩) := ofOne_good (by decide) (by decide) (by decide)
  refine ⟨_, rfl, _, of_o _ (by simp), _, of_o _ (by simp), _, plus1_o g1 g2 (by omega) (by omega), (⟨2, 1, []⟩, 0), ?_, (⟨2, 2, []⟩, 0), ?_, cnd_of_true rfl (cnd_of_true rfl ⟨_, rfl, cnd_of_true rfl (cnd_of_true rfl ⟨_, rfl, cnd_of_true rfl ⟨by omega, _, rfl, rfl⟩⟩)⟩)⟩
  · refine cnd_of_false rfl ⟨by omega, _, rfl, cnd_of_false rfl (cnd_of_false rfl (cnd_of_false rfl (cnd_of_false rfl ⟨(1, true), ⟨_, rfl, cnd_of_false ?_ ?_⟩, cnd_of_false rfl ⟨_, rfl, rfl⟩⟩)))⟩
    · decide
    · decide
  · exact cnd_of_true rfl ⟨_, rfl, rfl⟩

/-! ### the law -/
theorem choose_told : ∃ tl : T_law23_Row → T_agg_Group × T_ref23_Row, ∀ x, R_law23_Row_69 x → law23_told_o x (tl x) ∧ GP 1 (tl x).1.Part := by
  have h : ∀ x, ∃ g, R_law23_Row_69 x → law23_told_o x g ∧ GP 1 g.1.Part := by
    intro x
    by_cases hx : R_law23_Row_69 x
    · obtain ⟨g, hg⟩ := told_o hx
      exact ⟨g, fun _ => hg⟩
    · exact ⟨(⟨[], pz⟩, ⟨[], []⟩), fun h => absurd h hx⟩
  exact ⟨fun x => (h x).choose, fun x => (h x).choose_spec⟩
def fwd (p : Nat → T_agg_Part) : Nat → T_agg_Part
  | 0 => pz
  | k + 1 => pplus (fwd p k) (p k)
def bwd (p : Nat → T_agg_Part) (n : Nat) : Nat → T_agg_Part
  | 0 => pz
  | k + 1 => pplus (p (n - 1 - k)) (bwd p n k)
theorem fwd_good {p : Nat → T_agg_Part} {n : Nat} (hp : ∀ i, i < n → GP 1 (p i)) : ∀ k, k ≤ n → GP k (fwd p k)
  | 0, _ => pz_good
  | k + 1, h => pplus_good (fwd_good hp k (by omega)) (hp k (by omega))
theorem bwd_good {p : Nat → T_agg_Part} {n : Nat} (hp : ∀ i, i < n → GP 1 (p i)) : ∀ k, k ≤ n → GP k (bwd p n k)
  | 0, _ => pz_good
  | k + 1, h => by
    have := pplus_good (hp (n - 1 - k) (by omega)) (bwd_good hp k (by omega))
    rwa [show (1 : Int) + (k : Int) = ((k + 1 : Nat) : Int) by omega] at this
theorem fwd_bwd {p : Nat → T_agg_Part} {n : Nat} (hp : ∀ i, i < n → GP 1 (p i)) : ∀ k, k ≤ n → pplus (fwd p (n - k)) (bwd p n k) = fwd p n
  | 0, _ => pplus_zr (fwd_good hp n (Nat.le_refl _))
  | k + 1, h => by
    rw [← fwd_bwd hp k (by omega), show n - k = (n - (k + 1)) + 1 by omega]
    show pplus (fwd p (n - (k + 1))) (pplus (p (n - 1 - k)) (bwd p n k)) = pplus (pplus (fwd p (n - (k + 1))) (p (n - (k + 1)))) (bwd p n k)
    rw [show n - 1 - k = n - (k + 1) by omega]
    exact (pplus_assoc (fwd_good hp _ (by omega)) (hp _ (by omega)) (bwd_good hp k (by omega))).symm
theorem AggTurns_true : AggTurns_law := by
  rintro l ⟨hl, hR⟩
  obtain ⟨tl, htl⟩ := choose_told
  have hat : ∀ i (h : i < l.length), law23_told_o l[i] (tl l[i]) ∧ GP 1 (tl l[i]).1.Part := fun i h => htl _ (hR _ (List.getElem_mem h))
  obtain ⟨n, hn⟩ : ∃ n : Nat, n = min 30 l.length := ⟨_, rfl⟩
  have hmin : (if (30 : Int) < (l.length : Int) then (30 : Int) else (l.length : Int)) = n := by split <;> omega
  obtain ⟨p, hp⟩ : ∃ p : Nat → T_agg_Part, ∀ i (h : i < l.length), p i = (tl l[i]).1.Part := ⟨fun i => if h : i < l.length then (tl l[i]).1.Part else pz, fun i h => by simp [h]⟩
  have hpg : ∀ i, i < n → GP 1 (p i) := fun i h => by rw [hp i (by omega)]; exact (hat i (by omega)).2
  refine ⟨true, speaks_o, cnd_of_false rfl ⟨pz, none_o, pz, none_o, ?_⟩⟩
  refine Lp5_of (fun (i ra : Int) (la : List T_agg_One) (rb : Int) (lb : List T_agg_One) => ∃ k : Nat, i = k ∧ k ≤ n ∧ (⟨ra, la⟩ : T_agg_Part) = fwd p k ∧ (⟨rb, lb⟩ : T_agg_Part) = bwd p n k) (fun (i _ : Int) (_ : List T_agg_One) (_ : Int) (_ : List T_agg_One) => ((n : Int) - i).toNat) ?_ ?_
  rotate_left
  · exact ⟨0, rfl, by omega, rfl, rfl⟩
  rintro X i ra la rb lb ⟨k, rfl, hk, ha, hb⟩ hX
  have stop : k = n → law23_AggTurns_J1 l true ra la rb lb := by
    rintro rfl
    have ga := fwd_good hpg k hk
    have hab : (⟨rb, lb⟩ : T_agg_Part) = ⟨ra, la⟩ := by
      have := fwd_bwd hpg k hk
      rw [Nat.sub_self] at this
      rw [ha, hb, ← this]
      exact (pplus_zl (bwd_good hpg k hk)).symm
    obtain ⟨s, hs⟩ := one_o ga
    refine ⟨pz, none_o, fwd p k, ?_, s, ?_, s, ?_, cnd_of_true (by simp) ⟨s, hs, s, ?_, cnd_of_true (by simp) ?_⟩⟩
    · have := plus_o ga pz_good (by omega) (by omega) (by omega) (by omega)
      rw [ha]
      rwa [pplus_zr ga] at this
    · rw [ha]; exact hs
    · rw [hab, ha]; exact hs
    · rw [ha]; exact hs
    · have : ra = k := by
        have h1 := ga.1
        rw [← ha] at h1
        exact h1
      rw [hmin, this]; simp
  intro _
  refine ⟨fun hc => ?_, fun hc => ?_⟩
  · have hkl : k < l.length := by simpa using hc
    refine ⟨fun hd => ?_, fun hd => ?_⟩
    · have hk30 : k < 30 := by simp at hd; omega
      have hkn : k < n := by omega
      refine ⟨by omega, l[k], List.getElem?_eq_getElem (by omega), tl l[k], (hat k hkl).1, fun _ => ?_⟩
      have e1 : IntKind.i64.wrap (IntKind.i64.wrap ((n : Int) - 1) - k) = ((n - 1 - k : Nat) : Int) := by
        rw [wrap64 (n := (n : Int) - 1) (by omega) (by omega), wrap64 (by omega) (by omega)]; omega
      have e2 : IntKind.i64.wrap ((k : Int) + 1) = ((k + 1 : Nat) : Int) := by rw [wrap64 (by omega) (by omega)]; omega
      rw [hmin, e1, e2]
      have hj : n - 1 - k < l.length := by omega
      refine ⟨by omega, l[n - 1 - k], List.getElem?_eq_getElem (by omega), tl l[n - 1 - k], (hat _ hj).1, fwd p (k + 1), ?_, bwd p n (k + 1), ?_, hX _ _ _ _ _ ⟨k + 1, rfl, by omega, rfl, rfl⟩ (by omega)⟩
      · rw [ha]
        have := plus_o (fwd_good hpg k hk) (hat k hkl).2 (by omega) (by omega) (by omega) (by omega)
        show agg_Plus_o (fwd p k) _ (pplus (fwd p k) (p k))
        rw [hp k hkl]
        exact this
      · rw [hb]
        have := plus_o (hat _ hj).2 (bwd_good hpg k hk) (by omega) (by omega) (by omega) (by omega)
        show agg_Plus_o _ (bwd p n k) (pplus (p (n - 1 - k)) (bwd p n k))
        rw [hp _ hj]
        exact this
    · exact stop (by simp at hd; omega)
  · refine cnd_of_false rfl (stop ?_)
    simp at hc; omega
end Go.Proofs.Ytkmehmgocelkiaa
