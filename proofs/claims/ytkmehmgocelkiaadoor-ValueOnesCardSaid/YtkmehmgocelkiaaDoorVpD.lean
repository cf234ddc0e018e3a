import Derived.Test.YtkmehmgocelkiaaDoorVpC
namespace Go.Proofs.YtkmehmgocelkiaaDoor
open Go.AV Go.RowKit

theorem cI_rng (a b : Int) : cI a b = -1 ∨ cI a b = 0 ∨ cI a b = 1 := by unfold cI; split <;> (try split) <;> simp
theorem cS_rng (a b : Str) : cS a b = -1 ∨ cS a b = 0 ∨ cS a b = 1 := by unfold cS; split <;> (try split) <;> simp
theorem sCmp_rng (a b : V) : sCmp a b = -1 ∨ sCmp a b = 0 ∨ sCmp a b = 1 := by
  unfold sCmp sOr
  split
  · exact cI_rng _ _
  · split
    · exact cI_rng _ _
    · exact cS_rng _ _
theorem ValueOrders_plain {x y : LV} (hx : LOk x) (hy : LOk y) : law06_ValueOrders_o x y true := by
  have gx := told_good hx
  have gy := told_good hy
  have sx := goodS gx
  have sy := goodS gy
  generalize ha : told x = a at *
  generalize hb : told y = b at *
  have tx := pTold hx
  have ty := pTold hy
  rw [ha] at tx; rw [hb] at ty
  obtain ⟨g1, g2⟩ := good_cmp gx gy
  obtain ⟨g3, g4⟩ := good_cmp gy gx
  have g0 := sCmp_0 (a := a) (b := b)
  have r1 := sCmp_rng a b
  have r2 := sCmp_rng b a
  have c1 := pCompare a b
  have c2 := pCompare b a
  have b1 := pBefore (v6 a) (v6 b) (by show a.S.length ≤ 1000; omega) (by show b.S.length ≤ 1000; omega)
  have b2 := pBefore (v6 b) (v6 a) (by show b.S.length ≤ 1000; omega) (by show a.S.length ≤ 1000; omega)
  apply law06_ValueOrders_i
  simp only [law06_ValueOrders_oi, law06_ValueOrders_J1i, law06_ValueOrders_J2i]
  have leaf : ∀ w : Int, w = sCmp a b → ∃ z8 : Int, (value_Compare_o a b z8) ∧ cnd (z8 == w) (∃ z9 : Int, (value_Compare_o b a z9) ∧ cnd (z9 == (IntKind.i64.wrap (0 - w))) (((w == (0 : Int)) == (((v6 a).Kind == (v6 b).Kind) && (((v6 a).N == (v6 b).N) && (((v6 a).S == (v6 b).S) && true)))) = true) (false = true)) (false = true) := by
    intro w hw
    refine ⟨_, c1, fun _ => ⟨_, c2, fun _ => ?_, fun q => ?_⟩, fun q => ?_⟩
    · rw [v6_eq, hw]
      have := eqV_iff (a := a) (b := b)
      rw [← g0] at this
      cases he : eqV a b with
      | true => rw [this.1 he]; rfl
      | false =>
        have : ¬ sCmp a b = 0 := fun h => by rw [this.2 h] at he; cases he
        simp [this]
    · exfalso
      have q : ¬ sCmp b a = IntKind.i64.wrap (0 - w) := by simpa using q
      rw [wrap64 (by omega) (by omega)] at q
      apply q
      cases hp : s6Before (v6 a) (v6 b) <;> cases hq : s6Before (v6 b) (v6 a) <;> simp [hp, hq] at g1 g2 g3 g4 <;> omega
    · exfalso
      have q : ¬ sCmp a b = w := by simpa using q
      exact q hw.symm
  refine ⟨_, pSpeaks, fun q => (by cases q), fun _ => ⟨_, _, tx, _, _, ty, _, b1, fun p => ⟨_, b2, fun q => leaf _ ?_, fun q => leaf _ ?_⟩, fun p => ⟨_, b2, fun q => leaf _ ?_, fun q => leaf _ ?_⟩⟩⟩
  all_goals
    rw [p] at g1 g4
    rw [q] at g2 g3
    simp at g1 g2 g3 g4
    omega
/-! ### the laws of values -/
theorem pNot (v : V) : value_Not_o v (if v.Kind = 0 then v else if v.Kind = 1 then bV (!eqV v (bV true)) else D0) (if v.Kind = 0 ∨ v.Kind = 1 then 0 else 5) := by
  have t := pTrue v
  have ob := pOfBool (!eqV v (bV true))
  refine ⟨fun c => ?_, fun c => ⟨fun c1 => ⟨_, t, _, ob, ?_⟩, fun c1 => ?_⟩⟩
  · have c : v.Kind = 0 := by simpa using c
    simp [c]
  · have c1 : v.Kind = 1 := by simpa using c1
    simp [c1]
  · have c : ¬ v.Kind = 0 := by simpa using c
    have c1 : ¬ v.Kind = 1 := by simpa using c1
    simp [c, c1, D0]
inductive LB : V → Prop
  | n : LB D0
  | b (x : Bool) : LB (bV x)
theorem sRk_comm {op a b : Int} (h : op = 7 ∨ op = 9) : sRk op a b = sRk op b a := by
  unfold sRk
  rcases h with rfl | rfl
  · simp only [if_true]; rw [Int.add_comm]
  · simp only [show (9 : Int) ≠ 7 by decide, show (9 : Int) ≠ 8 by decide, if_true, if_false]; rw [Int.mul_comm]
theorem sDo_int {op a b : Int} (h1 : 7 ≤ op) (h2 : op ≤ 11) : sDo op ⟨2, a, []⟩ ⟨2, b, []⟩ = if (sRk op a b).2 ≠ 0 then (D0, (sRk op a b).2) else (⟨2, (sRk op a b).1, []⟩, 0) := by
  have ht : sTakes op = 2 := by unfold sTakes; rw [if_pos ⟨h1, h2⟩]
  have hf : sFit op ⟨2, a, []⟩ ⟨2, b, []⟩ = true := by unfold sFit; rw [ht]; rfl
  unfold sDo
  rw [if_neg (by omega), hf, if_neg (by simp), if_neg (by omega), if_neg (by simp), if_neg (by omega), if_neg (by omega)]
theorem demorgan {p q : V} (hp : LB p) (hq : LB q) : ∃ x y u v w, value_Do_o 13 p q x 0 ∧ value_Not_o x y 0 ∧ value_Not_o p u 0 ∧ value_Not_o q v 0 ∧ value_Do_o 14 u v w 0 ∧ y = w := by
  have rgB : ∀ {v : V}, LB v → Rg v.N ∧ v.S.length ≤ 1000 := by
    intro v h
    cases h with
    | n => exact ⟨by unfold Rg D0; simp, by simp [D0]⟩
    | b x => exact ⟨by unfold Rg bV; cases x <;> simp, by simp [bV]⟩
  have key : ∀ {p q x y u v w : V}, LB p → LB q → LB x → LB u → LB v → sDo 13 p q = (x, 0) → (y = if x.Kind = 0 then x else if x.Kind = 1 then bV (!eqV x (bV true)) else D0) → (u = if p.Kind = 0 then p else if p.Kind = 1 then bV (!eqV p (bV true)) else D0) →
      (v = if q.Kind = 0 then q else if q.Kind = 1 then bV (!eqV q (bV true)) else D0) → sDo 14 u v = (w, 0) → y = w → ∃ x y u v w, value_Do_o 13 p q x 0 ∧ value_Not_o x y 0 ∧ value_Not_o p u 0 ∧ value_Not_o q v 0 ∧ value_Do_o 14 u v w 0 ∧ y = w := by
    intro p q x y u v w hp hq hx hu hv e1 e2 e3 e4 e5 e6
    have k : ∀ {z : V}, LB z → (if z.Kind = 0 ∨ z.Kind = 1 then (0 : Int) else 5) = 0 := by
      intro z hz; cases hz <;> simp [D0, bV]
    have n1 := pNot x
    have n2 := pNot p
    have n3 := pNot q
    rw [k hx, ← e2] at n1; rw [k hp, ← e3] at n2; rw [k hq, ← e4] at n3
    have d1 := pDo (op := 13) (rgB hp).1 (rgB hq).1 (rgB hp).2 (rgB hq).2
    have d2 := pDo (op := 14) (rgB hu).1 (rgB hv).1 (rgB hu).2 (rgB hv).2
    rw [e1] at d1; rw [e5] at d2
    exact ⟨_, _, _, _, _, d1, n1, n2, n3, d2, e6⟩
  cases hp with
  | n => cases hq with
    | n => exact key .n .n .n .n .n rfl rfl rfl rfl rfl rfl
    | b y => cases y
             · exact key .n (.b false) (.b false) .n (.b true) rfl rfl rfl rfl rfl rfl
             · exact key .n (.b true) .n .n (.b false) rfl rfl rfl rfl rfl rfl
  | b x => cases hq with
    | n => cases x
           · exact key (.b false) .n (.b false) (.b true) .n rfl rfl rfl rfl rfl rfl
           · exact key (.b true) .n .n (.b false) .n rfl rfl rfl rfl rfl rfl
    | b y => cases x <;> cases y
             · exact key (.b false) (.b false) (.b false) (.b true) (.b true) rfl rfl rfl rfl rfl rfl
             · exact key (.b false) (.b true) (.b false) (.b true) (.b false) rfl rfl rfl rfl rfl rfl
             · exact key (.b true) (.b false) (.b false) (.b false) (.b true) rfl rfl rfl rfl rfl rfl
             · exact key (.b true) (.b true) (.b true) (.b false) (.b false) rfl rfl rfl rfl rfl rfl
theorem pLoop {z : T_law06_Pair} (hA : Rg z.A) (hB : Rg z.B) : ∀ X3 : Int → Prop, (∀ x22 : Int, law06_ValueLaws_L3i z true ⟨2, z.A, []⟩ ⟨2, z.B, []⟩ X3 x22 → X3 x22) → X3 7 := by
  have dd : ∀ op a b, Rg a → Rg b → value_Do_o op ⟨2, a, []⟩ ⟨2, b, []⟩ (sDo op ⟨2, a, []⟩ ⟨2, b, []⟩).1 (sDo op ⟨2, a, []⟩ ⟨2, b, []⟩).2 := fun op a b h1 h2 => pDo h1 h2 (by simp) (by simp)
  refine lp1 (fun (x : Int) => x = 7 ∨ x = 9 ∨ x = 11) (fun (x : Int) => (20 - x).toNat) ?_ (.inl rfl)
  intro X x hx hX
  simp only [law06_ValueLaws_L3i, law06_ValueLaws_J4i, law06_ValueLaws_J5i]
  refine ⟨fun c => ?_, fun c => ?_⟩
  · have c : x ≤ 9 := by simpa using c
    have e : sDo x ⟨2, z.A, []⟩ ⟨2, z.B, []⟩ = sDo x ⟨2, z.B, []⟩ ⟨2, z.A, []⟩ := by rw [sDo_int (by omega) (by omega), sDo_int (by omega) (by omega), sRk_comm (by omega)]
    have d1 := dd x z.A z.B hA hB
    have d2 := dd x z.B z.A hB hA
    rw [← e] at d2
    refine ⟨_, _, d1, _, _, d2, fun q => (by simp at q), fun _ => ⟨fun q => (by simp at q), fun _ => ?_⟩⟩
    rw [wrap64 (by omega) (by omega)]
    exact hX _ (by omega) (by omega)
  · have c : ¬ x ≤ 9 := by simpa using c
    have d1 := dd 10 z.A z.B hA hB
    have d2 := dd 11 z.A z.B hA hB
    rw [sDo_int (by omega) (by omega)] at d1 d2
    have k1 : sRk 10 z.A z.B = if z.B = 0 then (0, 9) else if z.A = -9223372036854775808 ∧ z.B = -1 then (0, 8) else (z.A.tdiv z.B, 0) := by simp [sRk]
    have k2 : sRk 11 z.A z.B = if z.B = 0 then (0, 9) else (z.A.tmod z.B, 0) := by simp [sRk]
    by_cases b0 : z.B = 0
    · rw [if_pos b0] at k1 k2
      rw [k1] at d1; rw [k2] at d2
      refine ⟨_, _, d1, _, _, d2, fun _ => ⟨fun _ => ⟨fun _ => trivial, fun q => (by simp at q)⟩, fun q => ?_⟩, fun q => (by simp at q)⟩
      exact absurd b0 (by simpa using q)
    · rw [if_neg b0] at k1 k2
      by_cases hm : z.A = -9223372036854775808 ∧ z.B = -1
      · rw [if_pos hm] at k1
        have t0 : z.A.tmod z.B = 0 := by rw [hm.2, Int.tmod_neg, Int.tmod_one]
        rw [t0] at k2
        rw [k1] at d1; rw [k2] at d2
        have arm : cnd (z.B == (-1 : Int)) (cnd ((8 : Int) == 8) (cnd ((0 : Int) == 0) (∃ z33 : T_value_Value, (value_OfInt_o (0 : Int) z33) ∧ (((⟨2, 0, []⟩ : V).Kind == z33.Kind) && (((⟨2, 0, []⟩ : V).N == z33.N) && (((⟨2, 0, []⟩ : V).S == z33.S) && true))) = true) (false = true)) (false = true)) (false = true) :=
          ⟨fun _ => ⟨fun _ => ⟨fun _ => ⟨_, pOfInt 0, rfl⟩, fun q => (by simp at q)⟩, fun q => (by simp at q)⟩, fun q => absurd hm.2 (by simpa using q)⟩
        exact ⟨_, _, d1, _, _, d2, fun _ => ⟨fun q => absurd (by simpa using q) b0, fun _ => arm⟩, fun q => (by simp at q)⟩
      · rw [if_neg hm] at k1
        rw [k1] at d1; rw [k2] at d2
        refine ⟨_, _, d1, _, _, d2, fun q => (by simp at q), fun _ => ⟨fun _ => ?_, fun q => (by simp at q)⟩⟩
        show (IntKind.i64.wrap (IntKind.i64.wrap (z.A.tdiv z.B * z.B) + z.A.tmod z.B) == z.A) = true
        have e2 := Int.mul_tdiv_add_tmod z.A z.B
        have e3 : z.B * z.A.tdiv z.B = z.A.tdiv z.B * z.B := Int.mul_comm _ _
        rw [e3] at e2
        rw [wrap64_l, e2]
        unfold Rg at hA
        rw [wrap64 (by omega) (by omega)]; simp
def LOk2 (z : T_law06_Pair) : Prop := 0 ≤ z.X.Kind ∧ z.X.Kind ≤ 255 ∧ 0 ≤ z.Y.Kind ∧ z.Y.Kind ≤ 255 ∧ Rg z.A ∧ Rg z.B
theorem ValueLaws_plain {z : T_law06_Pair} (h : LOk2 z) : law06_ValueLaws_o z true := by
  obtain ⟨_, _, _, _, hA, hB⟩ := h
  apply law06_ValueLaws_i
  have j2 : ∀ {p q : V}, LB p → LB q → law06_ValueLaws_J2i z true p.Kind p.N p.S q.Kind q.N q.S := by
    intro p q hp hq
    obtain ⟨x, y, u, v, w, h1, h2, h3, h4, h5, rfl⟩ := demorgan hp hq
    simp only [law06_ValueLaws_J2i]
    exact ⟨_, _, h1, _, _, h2, _, _, h3, _, _, h4, _, _, h5, fun q => (by simp at q), fun _ => ⟨_, pOfInt _, _, pOfInt _, pLoop hA hB⟩⟩
  simp only [law06_ValueLaws_oi, law06_ValueLaws_J1i]
  refine ⟨_, pSpeaks, fun q => (by cases q), fun _ => ⟨_, pOfBool _, _, pOfBool _, fun _ => ⟨fun _ => j2 .n .n, fun _ => j2 .n (.b _)⟩, fun _ => ⟨fun _ => j2 (.b _) .n, fun _ => j2 (.b _) (.b _)⟩⟩⟩
end Go.Proofs.YtkmehmgocelkiaaDoor
