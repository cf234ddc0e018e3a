import Derived.Test.YteoohihaibgplaaDoorEpD
namespace Go.Proofs.YteoohihaibgplaaDoor
open Go.AV Go.RowKit

theorem cT {p q : Prop} (h : p) : cnd true p q := ⟨fun _ => h, fun e => by cases e⟩
theorem cF {p q : Prop} (h : q) : cnd false p q := ⟨fun e => (by cases e), fun _ => h⟩
theorem d1 (a : X) (k op : Int) (v : V) (t n : Str) : dX (.mk k op v t n [a]) = dX a + 1 := by
  rw [dX_eq]; show 1 + dXs [a] = _; simp [dXs]; omega
theorem d2 (a b : X) (k op : Int) (v : V) (t n : Str) : dX (.mk k op v t n [a, b]) = max (dX a) (dX b) + 1 := by
  rw [dX_eq]; show 1 + dXs [a, b] = _; simp [dXs]; omega
theorem Sh.short {e : X} {s : Str} (h : Sh e s) (hd : dX e ≤ 40) : s.length ≤ 164926744166400 := by
  have := h.len
  have : 2 ^ dX e ≤ 2 ^ 40 := Nat.pow_le_pow_right (by omega) hd
  omega
theorem pShowE {e : X} {s : Str} (h : Sh e s) : dX e ≤ 40 → expr_Expr_show_o e s := by
  induction h with
  | lit v hv hn =>
    intro _ Xr hXr
    exact hXr _ _ (cT ⟨_, pShowV hv, rfl⟩)
  | col1 n hn =>
    intro _ Xr hXr
    exact hXr _ _ (cF (cT (cF rfl)))
  | col2 t n hn ht =>
    intro _ Xr hXr
    have l1 := sLex_len hn
    have l2 := sLex_len ht
    refine hXr _ _ (cF (cT ⟨fun _ => ⟨?_, ?_, rfl⟩, fun q => ?_⟩))
    · show t.length + 1 ≤ _; omega
    · show (t ++ [46]).length + n.length ≤ _; rw [List.length_append]; show t.length + 1 + _ ≤ _; omega
    · cases t with
      | nil => cases ht
      | cons c r => cases (show true = false from q)
  | bin op o a b s t h1 h2 ho ha hb i1 i2 =>
    intro hd Xr hXr
    rw [d2] at hd
    have la := ha.short (by omega)
    have lb := hb.short (by omega)
    have lo := ops_len ho
    refine hXr _ _ (cF (cF (cT ⟨by omega, by show (0 : Int) < 2; omega, a, rfl, s, by rw [e_expr]; exact i1 (by omega) Xr hXr, ?_, ?_, ⟨by show 0 ≤ op; omega, by show op < 15; omega⟩, o, ?_, ?_, ?_, by omega, by show (1 : Int) < 2; omega, b, rfl, t, by rw [e_expr]; exact i2 (by omega) Xr hXr, ?_, ?_, rfl⟩)))
    · simp; omega
    · simp; omega
    · show ops[0 + op.toNat * 1]? = some o
      rw [Nat.zero_add, Nat.mul_one]; exact ho
    · simp; omega
    · simp; omega
    · simp; omega
    · simp; omega
  | no a s ha ih =>
    intro hd Xr hXr
    rw [d1] at hd
    have la := ha.short (by omega)
    refine hXr _ _ (cF (cF (cF (cT ⟨by omega, by show (0 : Int) < 1; omega, a, rfl, s, by rw [e_expr]; exact ih (by omega) Xr hXr, ?_, ?_, rfl⟩)))) <;> simp <;> omega
  | neg a s ha ih =>
    intro hd Xr hXr
    rw [d1] at hd
    have la := ha.short (by omega)
    refine hXr _ _ (cF (cF (cF (cF (cT ⟨by omega, by show (0 : Int) < 1; omega, a, rfl, s, by rw [e_expr]; exact ih (by omega) Xr hXr, ?_, ?_, rfl⟩))))) <;> simp <;> omega
  | isn a s ha ih =>
    intro hd Xr hXr
    rw [d1] at hd
    have la := ha.short (by omega)
    refine hXr _ _ (cF (cF (cF (cF (cF (cT ⟨by omega, by show (0 : Int) < 1; omega, a, rfl, s, by rw [e_expr]; exact ih (by omega) Xr hXr, ?_, ?_, rfl⟩)))))) <;> simp <;> omega
  | ntn a s ha ih =>
    intro hd Xr hXr
    rw [d1] at hd
    have la := ha.short (by omega)
    refine hXr _ _ (cF (cF (cF (cF (cF (cF (cT ⟨by omega, by show (0 : Int) < 1; omega, a, rfl, s, by rw [e_expr]; exact ih (by omega) Xr hXr, ?_, ?_, rfl⟩))))))) <;> simp <;> omega
  | cnt =>
    intro _ Xr hXr
    exact hXr _ _ (cF (cF (cF (cF (cF (cF (cF (fun _ => cT ⟨⟨by show (0 : Int) ≤ 1; omega, by show (1 : Int) < 5; omega⟩, [67, 79, 85, 78, 84], rfl, by simp, rfl⟩))))))))
  | agg op o a s h1 h2 ho ha ih =>
    intro hd Xr hXr
    rw [d1] at hd
    have la := ha.short (by omega)
    have lo := ags_len ho
    refine hXr _ _ (cF (cF (cF (cF (cF (cF (cF (fun _ => cF ⟨⟨by show 0 ≤ op; omega, by show op < 5; omega⟩, o, ?_, ?_, by omega, by show (0 : Int) < 1; omega, a, rfl, s, by rw [e_expr]; exact ih (by omega) Xr hXr, ?_, ?_, rfl⟩))))))))
    · show ags[0 + op.toNat * 1]? = some o
      rw [Nat.zero_add, Nat.mul_one]; exact ho
    · simp; omega
    · simp; omega
    · simp; omega
/-! ### the same -/
mutual
def eqX : X → X → Bool
  | .mk k op v t n l, .mk k' op' v' t' n' l' => k == k' && (op == op' && (eqV v v' && (t == t' && (n == n' && eqXs l l'))))
def eqXs : List X → List X → Bool
  | [], [] => true
  | x :: r, y :: q => eqX x y && eqXs r q
  | _, _ => false
end
mutual
theorem eqX_iff : ∀ (a b : X), eqX a b = true ↔ a = b
  | .mk k op v t n l, .mk k' op' v' t' n' l' => by
    simp only [eqX, Bool.and_eq_true, beq_iff_eq, eqV_iff, eqXs_iff l l', T_expr_Expr.mk.injEq]
theorem eqXs_iff : ∀ (a b : List X), eqXs a b = true ↔ a = b
  | [], [] => by simp [eqXs]
  | x :: r, [] => by simp [eqXs]
  | [], y :: q => by simp [eqXs]
  | x :: r, y :: q => by simp only [eqXs, Bool.and_eq_true, eqX_iff x y, eqXs_iff r q, List.cons.injEq]
end
theorem eqX_eq (a b : X) : eqX a b = (a.Kind == b.Kind && (a.Op == b.Op && (eqV a.V b.V && (a.Table == b.Table && (a.Name == b.Name && eqXs a.L b.L))))) := by cases a; cases b; rfl
theorem eqXs_len : ∀ {a b : List X}, eqXs a b = true → a.length = b.length := fun h => by rw [(eqXs_iff _ _).1 h]
theorem eqXs_take {a b : List X} (hl : a.length = b.length) {k : Nat} (h : k < a.length) (h' : k < b.length) : eqXs (a.drop k) (b.drop k) = (eqX a[k] b[k] && eqXs (a.drop (k + 1)) (b.drop (k + 1))) := by
  rw [List.drop_eq_getElem_cons h, List.drop_eq_getElem_cons h']; rfl
theorem pSameX {a : X} (ha : WX a) : ∀ {b : X}, WX b → expr_Same_o a b (eqX a b) := by
  induction ha with
  | mk a h hn hs ih =>
    intro b hb Xr hXr
    obtain ⟨_, h', hn', hs'⟩ := hb
    apply hXr
    apply expr_Same_Bm
    have lst : slices_EqualFunc_Expr_o a.L b.L Xr (eqXs a.L b.L) := by
      apply slices_EqualFunc_Expr_i
      intro _ _
      refine ⟨fun q => ?_, fun q _ => ?_⟩
      · symm; rw [← Bool.not_eq_true]
        intro e
        have := eqXs_len e
        rw [this] at q; simp at q
      · have hl : a.L.length = b.L.length := by
          have : (a.L.length : Int) = b.L.length := by simpa using q
          omega
        refine lp1 (fun (x : Int) => ∃ k : Nat, x = k ∧ k ≤ a.L.length ∧ eqXs a.L b.L = eqXs (a.L.drop k) (b.L.drop k)) (fun (x : Int) => a.L.length - x.toNat) ?_ ⟨0, rfl, by omega, rfl⟩
        rintro X0 x ⟨k, rfl, h1, he⟩ hX
        simp only [slices_EqualFunc_Expr_L1i]
        refine ⟨fun d => ?_, fun d => ?_⟩
        · have d : (k : Int) < a.L.length := of_decide_eq_true d
          have hk : k < a.L.length := by omega
          have hk' : k < b.L.length := by omega
          have es := eqXs_take hl hk hk'
          refine ⟨by omega, d, _, gAt hk, by omega, by omega, _, gAt hk', eqX a.L[k] b.L[k], ?_, fun z => ?_, fun z => ?_⟩
          · rw [e_expr, e_expr]; exact ih _ (List.getElem_mem hk) (hs' _ (List.getElem_mem hk')) Xr hXr
          · have z : eqX a.L[k] b.L[k] = false := by simpa using z
            rw [he, es, z]; rfl
          · have z : eqX a.L[k] b.L[k] = true := by simpa using z
            rw [w1 (by omega)]
            refine hX _ ⟨k + 1, rfl, by omega, ?_⟩ (by omega)
            rw [he, es, z]; rfl
        · have d : ¬ (k : Int) < a.L.length := of_decide_eq_false d
          rw [he, List.drop_of_length_le (by omega), List.drop_of_length_le (by omega)]; rfl
    have ev : (a.V.Kind == b.V.Kind && (a.V.N == b.V.N && (a.V.S == b.V.S && true))) = eqV a.V b.V := rfl
    rw [eqX_eq]
    unfold expr_Same_Bi
    rw [ev]
    simp only [expr_Same_J1i]
    refine ⟨fun c1 => ⟨fun c2 => ⟨fun c3 => ⟨fun c4 => ⟨fun c5 => ⟨_, lst, ?_⟩, fun c5 => ?_⟩, fun c4 => ?_⟩, fun c3 => ?_⟩, fun c2 => ?_⟩, fun c1 => ?_⟩
    · rw [c1, c2, c3, c4, c5]; rfl
    · rw [c5]; simp
    · rw [c4]; simp
    · rw [c3]; simp
    · rw [c2]; simp
    · rw [c1]; rfl
end Go.Proofs.YteoohihaibgplaaDoor
