import Derived.Test.YteoohihaibgplaaChP
import Derived.Test.YteoohihaibgplaaPl
namespace Go.Proofs.Yteoohihaibgplaa
open Go.AV Go.RowKit

abbrev V := T_value_Value
abbrev X := T_expr_Expr
abbrev E6 := T_ref15_Expr
abbrev Fd := T_check_Field
@[simp] theorem e_ref (x : E6) : T_ref15_Expr.mk x.Kind x.Op (⟨x.V.Kind, x.V.N, x.V.S⟩ : T_ref06_Value) x.Table x.Name x.L = x := by cases x; rfl
@[simp] theorem e_expr (x : X) : T_expr_Expr.mk x.Kind x.Op (⟨x.V.Kind, x.V.N, x.V.S⟩ : T_value_Value) x.Table x.Name x.L = x := by cases x; rfl

/-! ### loops -/
theorem lp1 {α : Type} {L : (α → Prop) → α → Prop} (I : α → Prop) (m : α → Nat) (step : ∀ X a, I a → (∀ b, I b → m b < m a → X b) → L X a) {a : α} (ha : I a) : ∀ X : α → Prop, (∀ x, L X x → X x) → X a := by
  intro X hX
  have key : ∀ n a, I a → m a = n → X a := by
    intro n
    induction n using Nat.strongRecOn with
    | _ n ih => intro a ha hm; exact hX a (step X a ha fun b hb hlt => ih (m b) (by omega) b hb rfl)
  exact key _ a ha rfl
theorem lp2 {α β : Type} {L : (α → β → Prop) → α → β → Prop} (I : α → β → Prop) (m : α → β → Nat) (step : ∀ X a b, I a b → (∀ a' b', I a' b' → m a' b' < m a b → X a' b') → L X a b) {a : α} {b : β} (ha : I a b) : ∀ X : α → β → Prop, (∀ x y, L X x y → X x y) → X a b := by
  intro X hX
  have key : ∀ n a b, I a b → m a b = n → X a b := by
    intro n
    induction n using Nat.strongRecOn with
    | _ n ih => intro a b ha hm; exact hX a b (step X a b ha fun a' b' hb hlt => ih (m a' b') (by omega) a' b' hb rfl)
  exact key _ a b ha rfl
theorem lp3 {α β γ : Type} {L : (α → β → γ → Prop) → α → β → γ → Prop} (I : α → β → γ → Prop) (m : α → β → γ → Nat) (step : ∀ X a b c, I a b c → (∀ a' b' c', I a' b' c' → m a' b' c' < m a b c → X a' b' c') → L X a b c) {a : α} {b : β} {c : γ} (ha : I a b c) : ∀ X : α → β → γ → Prop, (∀ x y z, L X x y z → X x y z) → X a b c := by
  intro X hX
  have key : ∀ n a b c, I a b c → m a b c = n → X a b c := by
    intro n
    induction n using Nat.strongRecOn with
    | _ n ih => intro a b c ha hm; exact hX a b c (step X a b c ha fun a' b' c' hb hlt => ih (m a' b' c') (by omega) a' b' c' hb rfl)
  exact key _ a b c ha rfl

/-! ### values -/
def Rg (n : Int) : Prop := -9223372036854775808 ≤ n ∧ n ≤ 9223372036854775807
def good (v : V) : Prop := (v.Kind = 0 ∧ v.N = 0 ∧ v.S = []) ∨ (v.Kind = 1 ∧ (v.N = 0 ∨ v.N = 1) ∧ v.S = []) ∨ (v.Kind = 2 ∧ Rg v.N ∧ v.S = []) ∨ (v.Kind = 3 ∧ v.N = 0 ∧ v.S.length ≤ 64)
def has (v : V) (t : Int) : Prop := good v ∧ (v.Kind = t ∨ v.Kind = 0)
theorem pNone (v : V) : value_Value_none_o v (v.Kind == 0) := by
  unfold value_Value_none_o; grind [cnd]
theorem pOfBool (b : Bool) : value_OfBool_o b ⟨1, if b then 1 else 0, []⟩ := by
  unfold value_OfBool_o; cases b <;> simp [cnd]
theorem pOfInt (n : Int) : value_OfInt_o n ⟨2, n, []⟩ := by unfold value_OfInt_o; rfl
theorem pOfText (s : Str) : value_OfText_o s ⟨3, 0, s⟩ := by unfold value_OfText_o; rfl
theorem pTrue (v : V) : ∃ b, value_Value_True_o v b ∧ (b = true ↔ v = ⟨1, 1, []⟩) := by
  refine ⟨_, ⟨_, pOfBool true, rfl⟩, ?_⟩
  cases v; simp
def sTakes (op : Int) : Int := if 7 ≤ op ∧ op ≤ 11 then 2 else if op = 12 then 3 else if op = 13 ∨ op = 14 then 1 else 0
theorem pTakes (op : Int) : value_takes_o op (sTakes op) := by
  apply value_takes_i
  simp only [value_takes_oi, value_takes_J1i, value_takes_J2i]
  grind [sTakes, cnd]
def sFit (op : Int) (a b : V) : Bool := if sTakes op = 0 then a.Kind == 0 || b.Kind == 0 || a.Kind == b.Kind else (a.Kind == 0 || a.Kind == sTakes op) && (b.Kind == 0 || b.Kind == sTakes op)
theorem pFit (op : Int) (a b : V) : value_fit_o op a b (sFit op a b) := by
  apply value_fit_i
  simp only [value_fit_oi, value_fit_J1i]
  refine ⟨_, pTakes op, ?_⟩
  have h1 := pNone a
  have h2 := pNone b
  refine ⟨fun h => ⟨_, h1, ?_⟩, fun h => ⟨_, h1, ?_⟩⟩ <;> grind [sFit, cnd]
theorem pLogic (d : Bool) (a b : V) : ∃ v, value_logic_o d a b v ∧ has v 1 := by
  have ha := pNone a
  have hb := pNone b
  have hd := pOfBool d
  have hn := pOfBool (!d)
  by_cases h1 : a = ⟨1, if d then 1 else 0, []⟩ ∨ b = ⟨1, if d then 1 else 0, []⟩
  · refine ⟨⟨1, if d then 1 else 0, []⟩, ?_, ?_⟩
    · apply value_logic_i
      simp only [value_logic_oi, value_logic_J1i, value_logic_J2i]
      refine ⟨_, hd, ?_⟩
      cases a; cases b
      grind [cnd]
    · cases d <;> simp [has, good]
  · by_cases h2 : a.Kind = 0 ∨ b.Kind = 0
    · refine ⟨⟨0, 0, []⟩, ?_, by simp [has, good]⟩
      apply value_logic_i
      simp only [value_logic_oi, value_logic_J1i, value_logic_J2i]
      refine ⟨_, hd, ?_⟩
      cases a; cases b
      grind [cnd]
    · refine ⟨⟨1, if !d then 1 else 0, []⟩, ?_, by cases d <;> simp [has, good]⟩
      apply value_logic_i
      simp only [value_logic_oi, value_logic_J1i, value_logic_J2i]
      refine ⟨_, hd, ?_⟩
      cases a; cases b
      grind [cnd]
theorem rg_wrap (n : Int) : Rg (IntKind.i64.wrap n) := by
  have := wrap64_range n; unfold Rg; omega
theorem pCmpI (a b : Int) : ∃ r, cmp_Compare_int_o a b r := by
  refine ⟨if a < b then -1 else if b < a then 1 else 0, _, rfl, _, rfl, ?_⟩
  grind [cnd]
theorem pCmpJ (a b : Int) : ∃ r, cmp_Compare_int64_o a b r := by
  refine ⟨if a < b then -1 else if b < a then 1 else 0, _, rfl, _, rfl, ?_⟩
  grind [cnd]
theorem pCmpS (a b : Str) : ∃ r, cmp_Compare_string_o a b r := by
  refine ⟨if Op.bytesLess a b then -1 else if !(Op.bytesLess a b || a == b) then 1 else 0, _, rfl, _, rfl, ?_⟩
  grind [cnd]
theorem pOr (a b c : Int) : ∃ r, cmp_Or_int_o [a, b, c] r := by
  refine ⟨if a ≠ 0 then a else if b ≠ 0 then b else c, ?_⟩
  apply cmp_Or_int_i
  intro _ X hX
  apply hX
  refine ⟨fun _ => ⟨by omega, by simp, a, rfl, ?_⟩, fun h => by simp at h⟩
  refine ⟨fun h => by grind, fun h => ?_⟩
  rw [wrap64 (by omega) (by omega)]
  apply hX
  refine ⟨fun _ => ⟨by omega, by simp, b, rfl, ?_⟩, fun h => by simp at h⟩
  refine ⟨fun h => by grind, fun h => ?_⟩
  rw [wrap64 (by omega) (by omega)]
  apply hX
  refine ⟨fun _ => ⟨by omega, by simp, c, rfl, ?_⟩, fun h => by simp at h⟩
  refine ⟨fun h => by grind, fun h => ?_⟩
  rw [wrap64 (by omega) (by omega)]
  apply hX
  refine ⟨fun h => by simp at h, fun _ => by grind⟩
theorem pCompare (a b : V) : ∃ r, value_Compare_o a b r := by
  obtain ⟨x, hx⟩ := pCmpI a.Kind b.Kind
  obtain ⟨y, hy⟩ := pCmpJ a.N b.N
  obtain ⟨z, hz⟩ := pCmpS a.S b.S
  obtain ⟨r, hr⟩ := pOr x y z
  exact ⟨r, x, hx, y, hy, z, hz, r, hr, rfl⟩
theorem pHolds (op n : Int) : ∃ r, value_holds_o op n r := by
  refine ⟨if op = 1 then n == 0 else if op = 2 then !(n == 0) else if op = 3 then decide (n < 0) else if op = 4 then decide (n ≤ 0) else if op = 5 then decide (0 < n) else decide (0 ≤ n), ?_⟩
  unfold value_holds_o
  grind [cnd]
theorem pProduct (a b : Int) : ∃ n ok, value_product_o a b n ok ∧ Rg n := by
  obtain ⟨hi, lo, h⟩ : ∃ hi lo, math_bits_Mul64_o (IntKind.u64.wrap (if (IntKind.i64.wrap (0 - a)) > a then (IntKind.i64.wrap (0 - a)) else a)) (IntKind.u64.wrap (if (IntKind.i64.wrap (0 - b)) > b then (IntKind.i64.wrap (0 - b)) else b)) hi lo := ⟨_, _, rfl, rfl⟩
  have r1 := rg_wrap (0 - IntKind.i64.wrap lo)
  have r2 := rg_wrap lo
  by_cases hs : (decide (a < 0) == decide (b < 0)) = true
  · refine ⟨IntKind.i64.wrap lo, hi == 0 && decide (lo ≤ 9223372036854775807), ⟨hi, lo, h, ?_⟩, r2⟩
    grind [cnd]
  · refine ⟨IntKind.i64.wrap (0 - IntKind.i64.wrap lo), hi == 0 && decide (lo ≤ 9223372036854775808), ⟨hi, lo, h, ?_⟩, r1⟩
    grind [cnd]
theorem rg_tmod {a b : Int} (h : Rg a) : Rg (a.tmod b) := by
  unfold Rg at *
  have h1 := Int.natAbs_tmod a b
  have h2 : (a.tmod b).natAbs ≤ a.natAbs := by rw [h1]; exact Nat.mod_le _ _
  have h3 : 0 ≤ a → 0 ≤ a.tmod b := fun h => Int.tmod_nonneg b h
  have h4 : 0 ≤ -a → 0 ≤ (-a).tmod b := fun h => Int.tmod_nonneg b h
  rw [Int.neg_tmod] at h4
  omega
theorem pReckon (op a b : Int) (ha : Rg a) : ∃ n e, value_reckon_o op a b n e ∧ Rg n := by
  have r0 : Rg 0 := by unfold Rg; omega
  have go : ∀ (n : Int) (ok : Bool), Rg n → (∀ r0 r1, value_reckon_J1i r0 r1 n ok → value_reckon_oi op a b r0 r1) → ∃ n e, value_reckon_o op a b n e ∧ Rg n := by
    intro n ok hn h
    cases ok with
    | true => exact ⟨n, 0, value_reckon_i _ _ _ _ _ (h _ _ (by simp [value_reckon_J1i, cnd])), hn⟩
    | false => exact ⟨0, 8, value_reckon_i _ _ _ _ _ (h _ _ (by simp [value_reckon_J1i, cnd])), r0⟩
  by_cases h7 : op = 7
  · refine go (IntKind.i64.wrap (a + b)) (if (decide (a < IntKind.i64.wrap (a + b)) == decide (0 < b)) then true else b == 0) (rg_wrap _) fun r0 r1 h => ?_
    simp only [value_reckon_oi]; grind [cnd]
  by_cases h8 : op = 8
  · refine go (IntKind.i64.wrap (a - b)) (if (decide (IntKind.i64.wrap (a - b) < a) == decide (0 < b)) then true else b == 0) (rg_wrap _) fun r0 r1 h => ?_
    simp only [value_reckon_oi]; grind [cnd]
  by_cases h9 : op = 9
  · obtain ⟨n, ok, h1, h2⟩ := pProduct a b
    refine go n ok h2 fun r0 r1 h => ?_
    simp only [value_reckon_oi]; grind [cnd]
  by_cases hb : b = 0
  · refine ⟨0, 9, value_reckon_i _ _ _ _ _ ?_, r0⟩
    simp only [value_reckon_oi]; grind [cnd]
  by_cases h11 : op = 11
  · refine ⟨a.tmod b, 0, value_reckon_i _ _ _ _ _ ?_, rg_tmod ha⟩
    simp only [value_reckon_oi]; grind [cnd]
  · refine go (IntKind.i64.wrap (a.tdiv b)) (if a == -9223372036854775808 then !(b == -1) else true) (rg_wrap _) fun r0 r1 h => ?_
    simp only [value_reckon_oi]; grind [cnd]
def sBinary (op a b : Int) : Int × Int := if op ≤ 6 then (if a ≠ b ∧ a ≠ 0 ∧ b ≠ 0 then (0, 5) else (1, 0)) else
  let w := if op = 13 ∨ op = 14 then 1 else if op = 12 then 3 else 2
  if (a = 0 ∨ a = w) ∧ (b = 0 ∨ b = w) then (w, 0) else (0, 5)
theorem pIs (a b : Int) : check_is_o a b (a = 0 ∨ a = b) := by
  unfold check_is_o
  grind [cnd]
theorem pBinary (op a b : Int) : check_binary_o op a b (sBinary op a b).1 (sBinary op a b).2 := by
  apply check_binary_i
  have key : ∀ w r0 r1, (if (a = 0 ∨ a = w) ∧ (b = 0 ∨ b = w) then ((w, 0) : Int × Int) else (0, 5)) = (r0, r1) → check_binary_J1i a b r0 r1 w w := by
    intro w r0 r1 h
    simp only [check_binary_J1i, check_binary_J2i]
    refine ⟨_, pIs a w, fun _ => ?_, fun _ => ⟨_, pIs b w, ?_⟩⟩ <;> grind [cnd]
  simp only [check_binary_oi, check_binary_J3i, check_binary_J4i]
  grind [sBinary, cnd]
def sUnary (k w o : Int) : Int × Int := if w ≠ 0 ∧ ¬ (k = 0 ∨ k = w) then (0, 5) else (o, 0)
theorem pUnary (k w o : Int) : check_unary_o k w o (sUnary k w o).1 (sUnary k w o).2 := by
  apply check_unary_i
  unfold check_unary_oi check_unary_J1i
  grind [sUnary, cnd, pIs]
theorem pDo {op : Int} {a b : V} {ta tb : Int} (h1 : 1 ≤ op) (h14 : op ≤ 14) (ha : has a ta) (hb : has b tb) (ht : (sBinary op ta tb).2 = 0) : ∃ v e, value_Do_o op a b v e ∧ (e = 0 → has v (sBinary op ta tb).1) := by
  have hf := pFit op a b
  have na := pNone a
  have nb := pNone b
  have z0 : has ⟨0, 0, []⟩ (sBinary op ta tb).1 := by simp [has, good]
  have go : ∀ v e, value_Do_J1i op a b v e (decide (14 < op)) → value_Do_o op a b v e := by
    intro v e h
    apply value_Do_i
    simp only [value_Do_oi]
    exact ⟨fun h => by simp at h; omega, fun _ => h⟩
  have hop : decide (14 < op) = false := by simp; omega
  cases hfit : sFit op a b with
  | false =>
    refine ⟨⟨0, 0, []⟩, 5, go _ _ ?_, fun _ => z0⟩
    simp only [value_Do_J1i, hop]
    rw [hfit] at hf
    exact ⟨fun h => by simp at h, fun _ => ⟨_, hf, ⟨fun _ => by simp, fun h => by simp at h⟩⟩⟩
  | true =>
    rw [hfit] at hf
    by_cases h13 : 13 ≤ op
    · obtain ⟨v, hv, hv2⟩ := pLogic (op == 14) a b
      refine ⟨v, 0, go _ _ ?_, fun _ => ?_⟩
      · simp only [value_Do_J1i, hop]
        exact ⟨fun h => by simp at h, fun _ => ⟨_, hf, ⟨fun h => by simp at h, fun _ => ⟨fun _ => ⟨v, hv, by simp⟩, fun h => by simp at h; omega⟩⟩⟩⟩
      · have : (sBinary op ta tb).1 = 1 := by revert ht; grind [sBinary]
        rw [this]; exact hv2
    · have go2 : ∀ v e x, (x = true ↔ a.Kind = 0 ∨ b.Kind = 0) → value_Do_J2i op a b v e x → value_Do_o op a b v e := by
        intro v e x hx h
        refine go v e ?_
        simp only [value_Do_J1i, hop]
        refine ⟨fun h => by simp at h, fun _ => ⟨_, hf, ⟨fun h => by simp at h, fun _ => ⟨fun h => by simp at h; omega, fun _ => ⟨_, na, ?_⟩⟩⟩⟩⟩
        refine ⟨fun ha => ?_, fun ha => ⟨_, nb, ?_⟩⟩
        · have : x = true := hx.2 (.inl (by simpa using ha))
          rw [← this]; exact h
        · have : x = (b.Kind == 0) := by
            cases x
            · have := mt hx.2 (by simp); simp at this; simp [this.2]
            · have := hx.1 rfl; simp at ha; simp [ha] at this; simp [this]
          rw [← this]; exact h
      by_cases hn : a.Kind = 0 ∨ b.Kind = 0
      · refine ⟨⟨0, 0, []⟩, 0, go2 _ _ true (by simp [hn]) ⟨fun _ => ⟨rfl, rfl⟩, fun h => by simp at h⟩, fun _ => z0⟩
      · by_cases h6 : op ≤ 6
        · obtain ⟨z, hz⟩ := pCompare a b
          obtain ⟨q, hq⟩ := pHolds op z
          refine ⟨_, 0, go2 _ _ false (by simp [hn]) ⟨fun h => by simp at h, fun _ => ⟨fun _ => ⟨z, hz, q, hq, _, pOfBool q, rfl, rfl⟩, fun h => by simp at h; omega⟩⟩, fun _ => ?_⟩
          have : (sBinary op ta tb).1 = 1 := by revert ht; grind [sBinary]
          rw [this]; cases q <;> simp [has, good]
        · by_cases h12 : op = 12
          · subst h12
            have hk : (sBinary 12 ta tb).1 = 3 := by revert ht; grind [sBinary]
            have ga := ha.1
            have gb := hb.1
            have la : a.S.length ≤ 64 := by rcases ga with g | g | g | g <;> grind
            have lb : b.S.length ≤ 64 := by rcases gb with g | g | g | g <;> grind
            have hw : IntKind.i64.wrap ((a.S.length : Int) + (b.S.length : Int)) = (a.S.length : Int) + (b.S.length : Int) := wrap64 (by omega) (by omega)
            by_cases hl : 64 < a.S.length + b.S.length
            · refine ⟨⟨0, 0, []⟩, 8, go2 _ _ false (by simp [hn]) ⟨fun h => by simp at h, fun _ => ⟨fun h => by simp at h, fun _ => ⟨fun _ => ⟨fun _ => ⟨rfl, rfl⟩, fun h => ?_⟩, fun h => by simp at h⟩⟩⟩, fun _ => z0⟩
              rw [hw] at h; simp at h; omega
            · refine ⟨⟨3, 0, a.S ++ b.S⟩, 0, go2 _ _ false (by simp [hn]) ⟨fun h => by simp at h, fun _ => ⟨fun h => by simp at h, fun _ => ⟨fun _ => ⟨fun h => ?_, fun _ => ⟨by omega, _, pOfText _, rfl, rfl⟩⟩, fun h => by simp at h⟩⟩⟩, fun _ => ?_⟩
              · rw [hw] at h; simp at h; omega
              · rw [hk]; refine ⟨.inr (.inr (.inr ⟨rfl, rfl, ?_⟩)), .inl rfl⟩; simp; omega
          · have hk : (sBinary op ta tb).1 = 2 := by revert ht; grind [sBinary]
            have ra : Rg a.N := by rcases ha.1 with g | g | g | g <;> (unfold Rg at *; omega)
            obtain ⟨n, e, hr, hg⟩ := pReckon op a.N b.N ra
            by_cases he : e = 0
            · subst he
              refine ⟨⟨2, n, []⟩, 0, go2 _ _ false (by simp [hn]) ⟨fun h => by simp at h, fun _ => ⟨fun h => by simp at h; omega, fun _ => ⟨fun h => by simp at h; omega, fun _ => ⟨n, 0, hr, ⟨fun h => by simp at h, fun _ => ⟨_, pOfInt n, rfl, rfl⟩⟩⟩⟩⟩⟩, fun _ => ?_⟩
              rw [hk]; exact ⟨.inr (.inr (.inl ⟨rfl, hg, rfl⟩)), .inl rfl⟩
            · refine ⟨⟨0, 0, []⟩, e, go2 _ _ false (by simp [hn]) ⟨fun h => by simp at h, fun _ => ⟨fun h => by simp at h; omega, fun _ => ⟨fun h => by simp at h; omega, fun _ => ⟨n, e, hr, ⟨fun _ => ⟨rfl, rfl⟩, fun h => by simp at h; omega⟩⟩⟩⟩⟩, fun h => absurd h he⟩

/-! ### columns -/
def fmt (c : X) (f : Fd) : Bool := f.Name == c.Name && (c.Table == [] || c.Table == f.Table)
def fgo (c : X) : List Fd → Int → Int → Int → Int × Int
  | [], _, p, n => (p, n)
  | f :: r, i, p, n => if fmt c f then fgo c r (i + 1) i (n + 1) else fgo c r (i + 1) p n
def sFind (l : List Fd) (c : X) : Int × Int := let q := fgo c l 0 0 0; if q.2 = 0 then (0, 6) else if q.2 = 1 then (q.1, 0) else (0, 7)
theorem fgo_0 (c : X) : ∀ (l : List Fd) (i p n : Int), n ≤ (fgo c l i p n).2
  | [], i, p, n => by simp [fgo]
  | f :: r, i, p, n => by
    simp only [fgo]
    split
    · have := fgo_0 c r (i + 1) i (n + 1); omega
    · exact fgo_0 c r (i + 1) p n
theorem fgo_1 (c : X) : ∀ (l : List Fd) (i p n : Int), (fgo c l i p n).2 = n → (fgo c l i p n).1 = p
  | [], i, p, n, _ => rfl
  | f :: r, i, p, n, h => by
    simp only [fgo] at h ⊢
    split
    · rename_i hm
      rw [if_pos hm] at h
      have := fgo_0 c r (i + 1) i (n + 1); omega
    · rename_i hm
      rw [if_neg hm] at h
      exact fgo_1 c r _ _ _ h
theorem fgo_n (c : X) : ∀ (l : List Fd) (i p n : Int), (n < (fgo c l i p n).2 → i ≤ (fgo c l i p n).1 ∧ (fgo c l i p n).1 < i + l.length)
  | [], i, p, n => by simp [fgo]
  | f :: r, i, p, n => by
    simp only [fgo]
    split
    · have := fgo_n c r (i + 1) i (n + 1)
      have h2 := fgo_1 c r (i + 1) i (n + 1)
      have h3 := fgo_0 c r (i + 1) i (n + 1)
      simp only [List.length_cons]
      omega
    · have := fgo_n c r (i + 1) p n
      simp only [List.length_cons]
      omega
theorem sFind_lt {l : List Fd} {c : X} (h : (sFind l c).2 = 0) : 0 ≤ (sFind l c).1 ∧ (sFind l c).1 < l.length := by
  have := fgo_n c l 0 0 0
  unfold sFind at *
  simp only at *
  split at h
  · simp at h
  · split at h
    · rename_i h1 h2; rw [if_neg h1, if_pos h2]; simp only; omega
    · simp at h
theorem drop_at {α : Type} {l : List α} {i : Nat} (h : i < l.length) : l.drop i = l[i] :: l.drop (i + 1) := List.drop_eq_getElem_cons h
theorem pFind (l : List Fd) (c : X) : check_Find_o l c (sFind l c).1 (sFind l c).2 := by
  apply check_Find_i
  intro hlen
  have hl : (l.length : Int) ≤ 9223372036854775807 := by have hm : maxLen = 9223372036854775807 := rfl; omega
  refine lp3 (fun (p n i : Int) => 0 ≤ i ∧ i ≤ l.length ∧ 0 ≤ n ∧ n ≤ i ∧ fgo c (l.drop i.toNat) i p n = fgo c l 0 0 0) (fun _ _ (i : Int) => (l.length - i.toNat)) ?_ ⟨by omega, by omega, by omega, by omega, rfl⟩
  intro X p n i ⟨h0, h1, h2, h3, h4⟩ hX
  simp only [check_Find_L1i, check_Find_J2i]
  refine ⟨fun hlt => ?_, fun hge => ?_⟩
  · have hlt : i < l.length := by simpa using hlt
    have hi : i.toNat < l.length := by omega
    refine ⟨h0, hlt, l[i.toNat], by simp [hi], ?_⟩
    rw [drop_at hi] at h4
    have e1 : i.toNat + 1 = (i + 1).toNat := by omega
    simp only [fgo, e1] at h4
    rw [wrap64 (n := i + 1) (by omega) (by omega), wrap64 (n := n + 1) (by omega) (by omega)]
    have yes : fmt c l[i.toNat] = true → X i (n + 1) (i + 1) := fun hm => hX _ _ _ ⟨by omega, by omega, by omega, by omega, by rw [if_pos hm] at h4; exact h4⟩ (by omega)
    have no : fmt c l[i.toNat] = false → X p n (i + 1) := fun hm => hX _ _ _ ⟨by omega, by omega, by omega, by omega, by rw [if_neg (by rw [hm]; simp)] at h4; exact h4⟩ (by omega)
    unfold fmt at yes no
    refine ⟨fun a => ⟨fun b => ⟨fun _ => yes (by simp [a, b]), fun h => (by cases h)⟩, fun b => ⟨fun d => yes (by simp [a, b, d]), fun d => no (by simp [a, b, d])⟩⟩, fun a => ⟨fun h => (by cases h), fun _ => no (by simp [a])⟩⟩
  · have hge : ¬ i < l.length := by simpa using hge
    have : l.drop i.toNat = [] := List.drop_eq_nil_of_le (by omega)
    rw [this] at h4
    simp only [fgo] at h4
    unfold sFind
    rw [← h4]
    simp only
    grind [cnd]

/-! ### kinds -/
theorem pType_ok {x : X} {l : List Fd} {ag : Bool} {ks : List Int} {k f : Int} (h8 : x.Kind ≠ 8 ∨ ag = true) (hL : x.L.length ≤ 1000000000) (hk : ks.length = x.L.length) (hs : ∀ (i : Nat) (y : X) (q : Int), x.L[i]? = some y → ks[i]? = some q → check_Type_o y l ag q 0) (hkind : check_kindOf_o x l ks k f) : check_Type_o x l ag k f := by
  intro Xr hXr
  apply hXr
  apply check_Type_Bm
  have main : check_Type_J1i Xr x l ag k f false := by
    refine ⟨fun h => (by cases h), fun _ hlen => ?_⟩
    refine lp2 (fun (i : Int) out => 0 ≤ i ∧ i ≤ x.L.length ∧ out = ks.take i.toNat) (fun (i : Int) _ => x.L.length - i.toNat) ?_ ⟨by omega, by omega, rfl⟩
    intro X2 i out ⟨h0, h1, h2⟩ hX
    subst h2
    refine ⟨fun hlt => ?_, fun hge => ?_⟩
    · have hlt : i < x.L.length := by simpa using hlt
      have hi : i.toNat < x.L.length := by omega
      have hi' : i.toNat < ks.length := by omega
      refine ⟨h0, hlt, x.L[i.toNat], by simp [hi], ks[i.toNat], 0, ?_, fun h => by simp at h, fun _ => ⟨by simp; omega, ?_⟩⟩
      · rw [e_expr]
        exact hs i.toNat _ _ (List.getElem?_eq_getElem hi) (List.getElem?_eq_getElem hi') Xr hXr
      · rw [wrap64 (by omega) (by omega)]
        refine hX _ _ ⟨by omega, by omega, ?_⟩ (by omega)
        have e1 : (i + 1).toNat = i.toNat + 1 := by omega
        rw [e1, List.take_succ_eq_append_getElem hi']
    · have hge : ¬ i < x.L.length := by simpa using hge
      have : ks.take i.toNat = ks := List.take_of_length_le (by omega)
      rw [this]
      exact ⟨k, f, by rw [e_expr]; exact hkind, rfl, rfl⟩
  unfold check_Type_Bi
  refine ⟨fun h => ?_, fun _ => main⟩
  have : ag = true := by rcases h8 with h8 | h8; exact absurd (by simpa using h) h8; exact h8
  rw [this] at main ⊢
  exact main
theorem pType_fail {x : X} {l : List Fd} {ag : Bool} {ks : List Int} {k f : Int} (h8 : x.Kind ≠ 8 ∨ ag = true) (hL : x.L.length ≤ 1000000000) (hk : ks.length < x.L.length) (hs : ∀ (i : Nat) (y : X) (q : Int), x.L[i]? = some y → ks[i]? = some q → check_Type_o y l ag q 0) (hf : f ≠ 0) (hy : ∀ y, x.L[ks.length]? = some y → check_Type_o y l ag k f) : check_Type_o x l ag 0 f := by
  intro Xr hXr
  apply hXr
  apply check_Type_Bm
  have main : check_Type_J1i Xr x l ag 0 f false := by
    refine ⟨fun h => (by cases h), fun _ hlen => ?_⟩
    refine lp2 (fun (i : Int) out => 0 ≤ i ∧ i ≤ ks.length ∧ out = ks.take i.toNat) (fun (i : Int) _ => x.L.length - i.toNat) ?_ ⟨by omega, by omega, rfl⟩
    intro X2 i out ⟨h0, h1, h2⟩ hX
    subst h2
    refine ⟨fun _ => ?_, fun hge => ?_⟩
    · have hi : i.toNat < x.L.length := by omega
      refine ⟨h0, by omega, x.L[i.toNat], by simp [hi], ?_⟩
      by_cases hlt : i < ks.length
      · have hi' : i.toNat < ks.length := by omega
        refine ⟨ks[i.toNat], 0, ?_, fun h => by simp at h, fun _ => ⟨by simp; omega, ?_⟩⟩
        · rw [e_expr]
          exact hs i.toNat _ _ (List.getElem?_eq_getElem hi) (List.getElem?_eq_getElem hi') Xr hXr
        · rw [wrap64 (by omega) (by omega)]
          refine hX _ _ ⟨by omega, by omega, ?_⟩ (by omega)
          have e1 : (i + 1).toNat = i.toNat + 1 := by omega
          rw [e1, List.take_succ_eq_append_getElem hi']
      · have e2 : ks.length = i.toNat := by omega
        refine ⟨k, f, ?_, fun _ => ⟨rfl, rfl⟩, fun h => absurd (by simpa using h) hf⟩
        rw [e_expr]
        exact hy _ (by rw [e2]; exact List.getElem?_eq_getElem hi) Xr hXr
    · have : ¬ i < x.L.length := by simpa using hge
      omega
  unfold check_Type_Bi
  refine ⟨fun h => ?_, fun _ => main⟩
  have : ag = true := by rcases h8 with h8 | h8; exact absurd (by simpa using h) h8; exact h8
  rw [this] at main ⊢
  exact main
theorem pEval_ok {x : X} {l : List Fd} {row vs : List V} {v : V} {e : Int} (hL : x.L.length ≤ 1000000000) (hk : vs.length = x.L.length) (hs : ∀ (i : Nat) (y : X) (q : V), x.L[i]? = some y → vs[i]? = some q → check_Eval_o y l row q 0) (ht : ∀ Xr X1, check_Eval_L1i Xr x l row v e X1 (x.L.length : Int) vs) : check_Eval_o x l row v e := by
  intro Xr hXr
  apply hXr
  apply check_Eval_Bm
  intro hlen
  refine lp2 (fun (i : Int) out => 0 ≤ i ∧ i ≤ x.L.length ∧ out = vs.take i.toNat) (fun (i : Int) _ => x.L.length - i.toNat) ?_ ⟨by omega, by omega, rfl⟩
  intro X2 i out ⟨h0, h1, h2⟩ hX
  subst h2
  by_cases hlt : i < x.L.length
  · have hi : i.toNat < x.L.length := by omega
    have hi' : i.toNat < vs.length := by omega
    refine ⟨fun _ => ⟨h0, hlt, x.L[i.toNat], by simp [hi], vs[i.toNat], 0, ?_, fun h => by simp at h, fun _ => ⟨by simp; omega, ?_⟩⟩, fun h => absurd hlt (by simpa using h)⟩
    · rw [e_expr]
      exact hs i.toNat _ _ (List.getElem?_eq_getElem hi) (List.getElem?_eq_getElem hi') Xr hXr
    · rw [wrap64 (by omega) (by omega)]
      refine hX _ _ ⟨by omega, by omega, ?_⟩ (by omega)
      have e1 : (i + 1).toNat = i.toNat + 1 := by omega
      rw [e1, List.take_succ_eq_append_getElem hi']
  · have e1 : i = x.L.length := by omega
    subst e1
    have : vs.take ((x.L.length : Int)).toNat = vs := List.take_of_length_le (by simp; omega)
    rw [this]
    exact ht _ _
theorem pEval_fail {x : X} {l : List Fd} {row vs : List V} {v : V} {f : Int} (hL : x.L.length ≤ 1000000000) (hk : vs.length < x.L.length) (hs : ∀ (i : Nat) (y : X) (q : V), x.L[i]? = some y → vs[i]? = some q → check_Eval_o y l row q 0) (hf : f ≠ 0) (hy : ∀ y, x.L[vs.length]? = some y → check_Eval_o y l row v f) : check_Eval_o x l row ⟨0, 0, []⟩ f := by
  intro Xr hXr
  apply hXr
  apply check_Eval_Bm
  intro hlen
  refine lp2 (fun (i : Int) out => 0 ≤ i ∧ i ≤ vs.length ∧ out = vs.take i.toNat) (fun (i : Int) _ => x.L.length - i.toNat) ?_ ⟨by omega, by omega, rfl⟩
  intro X2 i out ⟨h0, h1, h2⟩ hX
  subst h2
  have hi : i.toNat < x.L.length := by omega
  refine ⟨fun _ => ⟨h0, by omega, x.L[i.toNat], by simp [hi], ?_⟩, fun h => absurd (by omega : i < x.L.length) (by simpa using h)⟩
  by_cases hlt : i < vs.length
  · have hi' : i.toNat < vs.length := by omega
    refine ⟨vs[i.toNat], 0, ?_, fun h => by simp at h, fun _ => ⟨by simp; omega, ?_⟩⟩
    · rw [e_expr]
      exact hs i.toNat _ _ (List.getElem?_eq_getElem hi) (List.getElem?_eq_getElem hi') Xr hXr
    · rw [wrap64 (by omega) (by omega)]
      refine hX _ _ ⟨by omega, by omega, ?_⟩ (by omega)
      have e1 : (i + 1).toNat = i.toNat + 1 := by omega
      rw [e1, List.take_succ_eq_append_getElem hi']
  · have e2 : vs.length = i.toNat := by omega
    refine ⟨v, f, ?_, fun _ => ⟨rfl, rfl⟩, fun h => absurd (by simpa using h) hf⟩
    rw [e_expr]
    exact hy _ (by rw [e2]; exact List.getElem?_eq_getElem hi) Xr hXr

/-! ### one step -/
def sUn (kd k : Int) : Int × Int := if kd = 4 then sUnary k 1 1 else if kd = 5 then sUnary k 2 2 else (1, 0)
theorem tUn {x a : X} {l : List Fd} {ag : Bool} {k : Int} (h : 4 ≤ x.Kind) (h' : x.Kind ≤ 7) (hl : x.L = [a]) (ha : check_Type_o a l ag k 0) : check_Type_o x l ag (sUn x.Kind k).1 (sUn x.Kind k).2 := by
  refine pType_ok (ks := [k]) (.inl (by omega)) (by simp [hl]) (by simp [hl]) (fun i y q h1 h2 => ?_) ?_
  · rw [hl] at h1
    cases i with
    | zero => simp at h1 h2; subst h1; subst h2; exact ha
    | succ i => simp at h1
  · apply check_kindOf_i
    have u1 := pUnary k 1 1
    have u2 := pUnary k 2 2
    simp only [check_kindOf_oi, check_kindOf_J1i]
    have hk : x.Kind = 4 ∨ x.Kind = 5 ∨ x.Kind = 6 ∨ x.Kind = 7 := by omega
    rcases hk with hk | hk | hk | hk <;> simp [hk, cnd, sUn]
    · exact u1
    · exact u2
theorem tUnF {x a : X} {l : List Fd} {ag : Bool} {k f : Int} (h : 4 ≤ x.Kind) (h' : x.Kind ≤ 7) (hl : x.L = [a]) (hf : f ≠ 0) (ha : check_Type_o a l ag k f) : check_Type_o x l ag 0 f := by
  refine pType_fail (ks := []) (k := k) (.inl (by omega)) (by simp [hl]) (by simp [hl]) (fun i y q h1 h2 => by simp at h2) hf (fun y hy => ?_)
  rw [hl] at hy; simp at hy; subst hy; exact ha
theorem tBin {x a b : X} {l : List Fd} {ag : Bool} {ka kb : Int} (h : x.Kind = 3) (hl : x.L = [a, b]) (ha : check_Type_o a l ag ka 0) (hb : check_Type_o b l ag kb 0) : check_Type_o x l ag (sBinary x.Op ka kb).1 (sBinary x.Op ka kb).2 := by
  refine pType_ok (ks := [ka, kb]) (.inl (by omega)) (by simp [hl]) (by simp [hl]) (fun i y q h1 h2 => ?_) ?_
  · rw [hl] at h1
    match i with
    | 0 => simp at h1 h2; subst h1; subst h2; exact ha
    | 1 => simp at h1 h2; subst h1; subst h2; exact hb
    | i + 2 => simp at h1
  · apply check_kindOf_i
    have u1 := pBinary x.Op ka kb
    simp only [check_kindOf_oi]
    simp [h, cnd]
    exact u1
theorem tBinF1 {x a b : X} {l : List Fd} {ag : Bool} {k f : Int} (h : x.Kind = 3) (hl : x.L = [a, b]) (hf : f ≠ 0) (ha : check_Type_o a l ag k f) : check_Type_o x l ag 0 f := by
  refine pType_fail (ks := []) (k := k) (.inl (by omega)) (by simp [hl]) (by simp [hl]) (fun i y q h1 h2 => by simp at h2) hf (fun y hy => ?_)
  rw [hl] at hy; simp at hy; subst hy; exact ha
theorem tBinF2 {x a b : X} {l : List Fd} {ag : Bool} {ka k f : Int} (h : x.Kind = 3) (hl : x.L = [a, b]) (ha : check_Type_o a l ag ka 0) (hf : f ≠ 0) (hb : check_Type_o b l ag k f) : check_Type_o x l ag 0 f := by
  refine pType_fail (ks := [ka]) (k := k) (.inl (by omega)) (by simp [hl]) (by simp [hl]) (fun i y q h1 h2 => ?_) hf (fun y hy => ?_)
  · rw [hl] at h1
    cases i with
    | zero => simp at h1 h2; subst h1; subst h2; exact ha
    | succ i => simp at h2
  · rw [hl] at hy; simp at hy; subst hy; exact hb
theorem tLit {x : X} {l : List Fd} {ag : Bool} (h : x.Kind = 1) (hl : x.L = []) : check_Type_o x l ag x.V.Kind 0 := by
  refine pType_ok (ks := []) (.inl (by omega)) (by simp [hl]) (by simp [hl]) (fun i y q h1 h2 => by simp at h2) ?_
  apply check_kindOf_i
  simp [check_kindOf_oi, h, cnd]
def sCol (l : List Fd) (x : X) : Int × Int := if (sFind l x).2 = 0 then (((l[(sFind l x).1.toNat]?).map (·.Kind)).getD 0, 0) else (0, (sFind l x).2)
theorem tCol {x : X} {l : List Fd} {ag : Bool} (h : x.Kind = 2) (hl : x.L = []) : check_Type_o x l ag (sCol l x).1 (sCol l x).2 := by
  refine pType_ok (ks := []) (.inl (by omega)) (by simp [hl]) (by simp [hl]) (fun i y q h1 h2 => by simp at h2) ?_
  apply check_kindOf_i
  have hF := pFind l x
  simp only [check_kindOf_oi]
  refine ⟨fun c => (by simp [h] at c), fun _ => ⟨fun _ => ⟨_, _, by rw [e_expr]; exact hF, fun c => ?_, fun c => ?_⟩, fun c => (by simp [h] at c)⟩⟩
  · have c : (sFind l x).2 ≠ 0 := by simpa using c
    simp [sCol, c]
  · have c : (sFind l x).2 = 0 := by simpa using c
    obtain ⟨q1, q2⟩ := sFind_lt c
    have hi : (sFind l x).1.toNat < l.length := by omega
    refine ⟨q1, q2, l[(sFind l x).1.toNat], by simp [hi], ?_, ?_⟩ <;> simp [sCol, c, hi]
def sNot (v : V) : V × Int := if v.Kind = 0 then (v, 0) else if v.Kind = 1 then (⟨1, if v.N = 1 ∧ v.S = [] then 0 else 1, []⟩, 0) else (⟨0, 0, []⟩, 5)
theorem pNot (v : V) : value_Not_o v (sNot v).1 (sNot v).2 := by
  unfold value_Not_o
  refine ⟨fun h => ?_, fun h => ⟨fun h' => ?_, fun h' => ?_⟩⟩
  · have : v.Kind = 0 := by simpa using h
    simp [sNot, this]
  · have h1 : v.Kind = 1 := by simpa using h'
    refine ⟨_, ⟨_, pOfBool true, rfl⟩, _, pOfBool _, ?_⟩
    have e1 : sNot v = (⟨1, if v.N = 1 ∧ v.S = [] then 0 else 1, []⟩, 0) := by simp [sNot, h1]
    rw [e1]
    by_cases q : v.N = 1 <;> by_cases q2 : v.S = [] <;> simp [h1, q, q2]
  · have h0 : v.Kind ≠ 0 := by simpa using h
    have h1 : v.Kind ≠ 1 := by simpa using h'
    simp [sNot, h0, h1]
def sNeg (v : V) : V × Int := if v.Kind = 0 then (v, 0) else if v.Kind ≠ 2 then (⟨0, 0, []⟩, 5) else if v.N = -9223372036854775808 then (⟨0, 0, []⟩, 8) else (⟨2, IntKind.i64.wrap (0 - v.N), []⟩, 0)
theorem pNeg (v : V) : value_Neg_o v (sNeg v).1 (sNeg v).2 := by
  have h1 := pNone v
  have h2 := pOfInt (IntKind.i64.wrap (0 - v.N))
  unfold value_Neg_o
  refine ⟨_, h1, ?_⟩
  grind [sNeg, cnd]
def sEU (kd : Int) (v : V) : V × Int := if kd = 4 then sNot v else if kd = 5 then sNeg v else (⟨1, if ((v.Kind == 0) == (kd == 6)) then 1 else 0, []⟩, 0)
theorem eUn {x a : X} {l : List Fd} {row : List V} {v : V} (h : 4 ≤ x.Kind) (h' : x.Kind ≤ 7) (hl : x.L = [a]) (ha : check_Eval_o a l row v 0) : check_Eval_o x l row (sEU x.Kind v).1 (sEU x.Kind v).2 := by
  refine pEval_ok (vs := [v]) (by simp [hl]) (by simp [hl]) (fun i y q h1 h2 => ?_) (fun Xr X1 => ?_)
  · rw [hl] at h1
    cases i with
    | zero => simp at h1 h2; subst h1; subst h2; exact ha
    | succ i => simp at h1
  · have u1 := pNot v
    have u2 := pNeg v
    simp only [check_Eval_L1i]
    have hk : x.Kind = 4 ∨ x.Kind = 5 ∨ x.Kind = 6 ∨ x.Kind = 7 := by omega
    rcases hk with hk | hk | hk | hk <;> simp [hk, hl, cnd, sEU]
    · exact u1
    · exact u2
    · have := pOfBool (v.Kind == 0); simpa using this
    · have := pOfBool (!(v.Kind == 0)); simpa using this
theorem eUnF {x a : X} {l : List Fd} {row : List V} {v : V} {f : Int} (hl : x.L = [a]) (hf : f ≠ 0) (ha : check_Eval_o a l row v f) : check_Eval_o x l row ⟨0, 0, []⟩ f := by
  refine pEval_fail (vs := []) (v := v) (by simp [hl]) (by simp [hl]) (fun i y q h1 h2 => by simp at h2) hf (fun y hy => ?_)
  rw [hl] at hy; simp at hy; subst hy; exact ha
theorem eBin {x a b : X} {l : List Fd} {row : List V} {u v w : V} {e : Int} (h : x.Kind = 3) (hl : x.L = [a, b]) (ha : check_Eval_o a l row u 0) (hb : check_Eval_o b l row v 0) (hd : value_Do_o x.Op u v w e) : check_Eval_o x l row w e := by
  refine pEval_ok (vs := [u, v]) (by simp [hl]) (by simp [hl]) (fun i y q h1 h2 => ?_) (fun Xr X1 => ?_)
  · rw [hl] at h1
    match i with
    | 0 => simp at h1 h2; subst h1; subst h2; exact ha
    | 1 => simp at h1 h2; subst h1; subst h2; exact hb
    | i + 2 => simp at h1
  · simp only [check_Eval_L1i]
    simp [h, hl, cnd]
    exact hd
theorem eBinF1 {x a b : X} {l : List Fd} {row : List V} {v : V} {f : Int} (hl : x.L = [a, b]) (hf : f ≠ 0) (ha : check_Eval_o a l row v f) : check_Eval_o x l row ⟨0, 0, []⟩ f := by
  refine pEval_fail (vs := []) (v := v) (by simp [hl]) (by simp [hl]) (fun i y q h1 h2 => by simp at h2) hf (fun y hy => ?_)
  rw [hl] at hy; simp at hy; subst hy; exact ha
theorem eBinF2 {x a b : X} {l : List Fd} {row : List V} {u v : V} {f : Int} (hl : x.L = [a, b]) (ha : check_Eval_o a l row u 0) (hf : f ≠ 0) (hb : check_Eval_o b l row v f) : check_Eval_o x l row ⟨0, 0, []⟩ f := by
  refine pEval_fail (vs := [u]) (v := v) (by simp [hl]) (by simp [hl]) (fun i y q h1 h2 => ?_) hf (fun y hy => ?_)
  · rw [hl] at h1
    cases i with
    | zero => simp at h1 h2; subst h1; subst h2; exact ha
    | succ i => simp at h2
  · rw [hl] at hy; simp at hy; subst hy; exact hb
theorem eLit {x : X} {l : List Fd} {row : List V} (h : x.Kind = 1) (hl : x.L = []) : check_Eval_o x l row x.V 0 := by
  refine pEval_ok (vs := []) (by simp [hl]) (by simp [hl]) (fun i y q h1 h2 => by simp at h2) (fun Xr X1 => ?_)
  simp [check_Eval_L1i, h, hl, cnd]
theorem eCol {x : X} {l : List Fd} {row : List V} {v : V} (h : x.Kind = 2) (hl : x.L = []) (hf : (sFind l x).2 = 0) (hv : row[(sFind l x).1.toNat]? = some v) : check_Eval_o x l row v 0 := by
  refine pEval_ok (vs := []) (by simp [hl]) (by simp [hl]) (fun i y q h1 h2 => by simp at h2) (fun Xr X1 => ?_)
  have hF := pFind l x
  have hlt := (List.getElem?_eq_some_iff.1 hv).1
  obtain ⟨q1, q2⟩ := sFind_lt hf
  simp only [check_Eval_L1i]
  refine ⟨fun c => (by simp at c), fun _ => ⟨fun c => (by simp [h] at c), fun _ => ⟨fun _ => ⟨_, _, by rw [e_expr]; exact hF, fun c => (by simp [hf] at c), fun c => ⟨q1, by omega, v, hv, by simp⟩⟩, fun c => (by simp [h] at c)⟩⟩⟩

/-! ### sound -/
inductive Ok : X → Prop
  | lit (x : X) (h : x.Kind = 1) (hl : x.L = []) (hv : good x.V) : Ok x
  | col (x : X) (h : x.Kind = 2) (hl : x.L = []) : Ok x
  | bin (x a b : X) (h : x.Kind = 3) (hl : x.L = [a, b]) (h1 : 1 ≤ x.Op) (h14 : x.Op ≤ 14) (ha : Ok a) (hb : Ok b) : Ok x
  | un (x a : X) (h : 4 ≤ x.Kind) (h' : x.Kind ≤ 7) (hl : x.L = [a]) (ha : Ok a) : Ok x
def Row (l : List Fd) (row : List V) : Prop := row.length = l.length ∧ ∀ (i : Nat) f v, l[i]? = some f → row[i]? = some v → has v f.Kind
theorem sNot_has {v : V} {k : Int} (h : has v k) (hk : k = 0 ∨ k = 1) : (sNot v).2 = 0 ∧ has (sNot v).1 1 ∧ (k = 0 → has (sNot v).1 0) ∧ sNot (sNot v).1 = (v, 0) := by
  obtain ⟨g, e⟩ := h
  cases v with
  | mk K N S =>
    simp only [good] at g
    rcases g with ⟨rfl, rfl, rfl⟩ | ⟨rfl, h1 | h1, rfl⟩ | ⟨rfl, _, rfl⟩ | ⟨rfl, _, _⟩
    · simp [sNot, has, good]
    · subst h1; rcases hk with rfl | rfl <;> simp at e <;> simp [sNot, has, good]
    · subst h1; rcases hk with rfl | rfl <;> simp at e <;> simp [sNot, has, good]
    · rcases hk with rfl | rfl <;> simp at e
    · rcases hk with rfl | rfl <;> simp at e
theorem sNeg_has {v : V} {k : Int} (h : has v k) (hk : k = 0 ∨ k = 2) : ((sNeg v).2 = 8 ∨ ((sNeg v).2 = 0 ∧ has (sNeg v).1 2 ∧ (k = 0 → has (sNeg v).1 0) ∧ sNeg (sNeg v).1 = (v, 0))) := by
  obtain ⟨g, e⟩ := h
  cases v with
  | mk K N S =>
    simp only [good] at g
    rcases g with ⟨rfl, rfl, rfl⟩ | ⟨rfl, h1, rfl⟩ | ⟨rfl, hr, rfl⟩ | ⟨rfl, _, _⟩
    · right; simp [sNeg, has, good]
    · rcases hk with rfl | rfl <;> simp at e
    · unfold Rg at hr
      by_cases hm : N = -9223372036854775808
      · left; simp [sNeg, hm]
      · right
        have hw : IntKind.i64.wrap (-N) = -N := wrap64 (by omega) (by omega)
        have hw2 : IntKind.i64.wrap N = N := wrap64 (by omega) (by omega)
        have hk2 : k = 2 := by rcases hk with rfl | rfl; simp at e; rfl
        subst hk2
        have e1 : sNeg ⟨2, N, []⟩ = (⟨2, -N, []⟩, 0) := by simp [sNeg, hm, hw]
        have hm2 : ¬ -N = -9223372036854775808 := by omega
        have e2 : sNeg ⟨2, -N, []⟩ = (⟨2, N, []⟩, 0) := by simp [sNeg, hm2, hw2]
        rw [e1]
        exact ⟨rfl, by simp [has, good, Rg]; omega, fun c => by simp at c, e2⟩
    · rcases hk with rfl | rfl <;> simp at e
theorem hasB (b : Bool) : has ⟨1, if b then 1 else 0, []⟩ 1 := by cases b <;> simp [has, good]
theorem Ok.sound {x : X} (h : Ok x) (l : List Fd) : ∃ k f, check_Type_o x l false k f ∧ (f ≠ 0 → k = 0) ∧ (f = 0 → ∀ row, Row l row → ∃ v e, check_Eval_o x l row v e ∧ (e = 0 → has v k)) := by
  induction h with
  | lit x h hl hv => exact ⟨x.V.Kind, 0, tLit h hl, fun c => absurd rfl c, fun _ row _ => ⟨x.V, 0, eLit h hl, fun _ => ⟨hv, .inl rfl⟩⟩⟩
  | col x h hl =>
    refine ⟨_, _, tCol h hl, fun c => ?_, fun c row hr => ?_⟩
    · unfold sCol at c ⊢; split <;> simp_all
    · have hf : (sFind l x).2 = 0 := by unfold sCol at c; split at c; assumption; exact c
      obtain ⟨q1, q2⟩ := sFind_lt hf
      have hi : (sFind l x).1.toNat < l.length := by omega
      have hj : (sFind l x).1.toNat < row.length := by rw [hr.1]; exact hi
      refine ⟨row[(sFind l x).1.toNat], 0, eCol h hl hf (List.getElem?_eq_getElem hj), fun _ => ?_⟩
      have := hr.2 _ _ _ (List.getElem?_eq_getElem hi) (List.getElem?_eq_getElem hj)
      have e1 : (sCol l x).1 = l[(sFind l x).1.toNat].Kind := by simp [sCol, hf, hi]
      rw [e1]; exact this
  | bin x a b h hl h1 h14 _ _ iha ihb =>
    obtain ⟨ka, fa, a1, a2, a3⟩ := iha
    obtain ⟨kb, fb, b1, b2, b3⟩ := ihb
    by_cases hfa : fa = 0
    · subst hfa
      by_cases hfb : fb = 0
      · subst hfb
        refine ⟨_, _, tBin h hl a1 b1, fun c => ?_, fun c row hr => ?_⟩
        · revert c; grind [sBinary]
        · obtain ⟨u, e, u1, u2⟩ := a3 rfl row hr
          by_cases he : e = 0
          · subst he
            obtain ⟨w, e', w1, w2⟩ := b3 rfl row hr
            by_cases he' : e' = 0
            · subst he'
              obtain ⟨z, e2, z1, z2⟩ := pDo h1 h14 (u2 rfl) (w2 rfl) c
              exact ⟨z, e2, eBin h hl u1 w1 z1, z2⟩
            · exact ⟨_, e', eBinF2 hl u1 he' w1, fun q => absurd q he'⟩
          · exact ⟨_, e, eBinF1 hl he u1, fun q => absurd q he⟩
      · exact ⟨0, fb, tBinF2 h hl a1 hfb b1, fun _ => rfl, fun c => absurd c hfb⟩
    · exact ⟨0, fa, tBinF1 h hl hfa a1, fun _ => rfl, fun c => absurd c hfa⟩
  | un x a h h' hl _ iha =>
    obtain ⟨ka, fa, a1, a2, a3⟩ := iha
    by_cases hfa : fa = 0
    · subst hfa
      refine ⟨_, _, tUn h h' hl a1, fun c => ?_, fun c row hr => ?_⟩
      · revert c; grind [sUn, sUnary]
      · obtain ⟨u, e, u1, u2⟩ := a3 rfl row hr
        by_cases he : e = 0
        · subst he
          refine ⟨_, _, eUn h h' hl u1, fun q => ?_⟩
          have hu := u2 rfl
          have hk : x.Kind = 4 ∨ x.Kind = 5 ∨ x.Kind = 6 ∨ x.Kind = 7 := by omega
          rcases hk with hk | hk | hk | hk
          · have hka : ka = 0 ∨ ka = 1 := by revert c; simp only [sUn, hk, sUnary]; grind
            have e1 : (sUn x.Kind ka).1 = 1 := by simp only [sUn, hk, sUnary]; grind
            rw [e1]; simp only [sEU, hk, if_true]; exact (sNot_has hu hka).2.1
          · have hka : ka = 0 ∨ ka = 2 := by revert c; simp only [sUn, hk, sUnary]; grind
            have e1 : (sUn x.Kind ka).1 = 2 := by simp only [sUn, hk, sUnary]; grind
            rw [e1]
            have e2 : sEU x.Kind u = sNeg u := by simp [sEU, hk]
            rw [e2] at q ⊢
            rcases sNeg_has hu hka with r | r
            · rw [r] at q; cases q
            · exact r.2.1
          · have e1 : (sUn x.Kind ka).1 = 1 := by simp [sUn, hk]
            have e2 : (sEU x.Kind u).1 = ⟨1, if ((u.Kind == 0) == (x.Kind == 6)) then 1 else 0, []⟩ := by simp only [sEU]; rw [if_neg (by omega), if_neg (by omega)]
            rw [e1, e2]; exact hasB _
          · have e1 : (sUn x.Kind ka).1 = 1 := by simp [sUn, hk]
            have e2 : (sEU x.Kind u).1 = ⟨1, if ((u.Kind == 0) == (x.Kind == 6)) then 1 else 0, []⟩ := by simp only [sEU]; rw [if_neg (by omega), if_neg (by omega)]
            rw [e1, e2]; exact hasB _
        · exact ⟨_, e, eUnF hl he u1, fun q => absurd q he⟩
    · exact ⟨0, fa, tUnF h h' hl hfa a1, fun _ => rfl, fun c => absurd c hfa⟩
end Go.Proofs.Yteoohihaibgplaa
