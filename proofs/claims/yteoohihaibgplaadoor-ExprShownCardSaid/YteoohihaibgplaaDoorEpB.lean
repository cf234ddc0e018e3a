import Derived.Test.YteoohihaibgplaaDoorEpA
namespace Go.Proofs.YteoohihaibgplaaDoor
open Go.AV Go.RowKit
abbrev E6 := T_ref15_Expr
abbrev X := T_expr_Expr
theorem e_ref (x : E6) : T_ref15_Expr.mk x.Kind x.Op (⟨x.V.Kind, x.V.N, x.V.S⟩ : T_ref06_Value) x.Table x.Name x.L = x := by cases x; rfl
theorem e_expr (x : X) : T_expr_Expr.mk x.Kind x.Op (⟨x.V.Kind, x.V.N, x.V.S⟩ : T_value_Value) x.Table x.Name x.L = x := by cases x; rfl

mutual
def dep : E6 → Nat
  | .mk _ _ _ _ _ L => 1 + deps L
def deps : List E6 → Nat
  | [] => 0
  | x :: r => max (dep x) (deps r)
end
theorem deps_app (x : E6) : ∀ (l : List E6), deps (l ++ [x]) = max (deps l) (dep x)
  | [] => by simp [deps]
  | y :: l => by simp only [List.cons_append, deps, deps_app x l]; omega
theorem dep_eq (m : E6) : dep m = 1 + deps m.L := by cases m; simp [dep, T_ref15_Expr.L]
theorem deps_mem {x : E6} : ∀ {l : List E6}, x ∈ l → dep x ≤ deps l
  | y :: l, h => by
    simp only [deps]
    rcases List.mem_cons.1 h with rfl | h
    · omega
    · have := deps_mem h; omega
inductive WF : E6 → Prop
  | mk (m : E6) (h : m.L.length ≤ 3) (hn : Rg m.V.N) (hs : ∀ y ∈ m.L, WF y) : WF m
mutual
def told : E6 → X
  | .mk k o v t n L => .mk k o ⟨v.Kind, v.N, v.S⟩ t n (tolds L)
def tolds : List E6 → List X
  | [] => []
  | x :: r => told x :: tolds r
end
theorem tolds_map : ∀ l : List E6, tolds l = l.map told
  | [] => rfl
  | x :: r => by simp [tolds, tolds_map r]
theorem told_eq (m : E6) : told m = .mk m.Kind m.Op ⟨m.V.Kind, m.V.N, m.V.S⟩ m.Table m.Name (m.L.map told) := by
  cases m; simp only [told, tolds_map]; rfl
theorem pTold {m : E6} (h : WF m) : law15_told_o m (told m) := by
  induction h with
  | mk m h hn hs ih =>
    intro Xr hXr
    apply hXr
    apply law15_told_Bm
    refine lp2 (fun (i : Int) out => 0 ≤ i ∧ i ≤ m.L.length ∧ out = (m.L.map told).take i.toNat) (fun (i : Int) _ => m.L.length - i.toNat) ?_ ⟨by omega, by omega, rfl⟩
    intro X1 i out ⟨h0, h1, h2⟩ hX hlen
    subst h2
    refine ⟨fun hlt => ?_, fun hge => ?_⟩
    · have hlt : i < m.L.length := by simpa using hlt
      have hi : i.toNat < m.L.length := by omega
      have hi' : i.toNat < (m.L.map told).length := by simpa using hi
      refine ⟨h0, hlt, m.L[i.toNat], by simp [hi], told m.L[i.toNat], ?_, by simp; omega, ?_⟩
      · rw [e_ref]; exact ih _ (List.getElem_mem hi) Xr hXr
      · rw [wrap64 (by omega) (by omega), e_expr]
        refine hX _ _ ⟨by omega, by omega, ?_⟩ (by omega)
        have e1 : (i + 1).toNat = i.toNat + 1 := by omega
        rw [e1, List.take_succ_eq_append_getElem hi', List.getElem_map]
    · have hge : ¬ i < m.L.length := by simpa using hge
      have : (m.L.map told).take i.toNat = m.L.map told := List.take_of_length_le (by simp; omega)
      rw [this, told_eq]
/-- aggregates of an expression, out of those of its parts -/
abbrev Pt := T_law15_Part
def PtOk (p : Pt) : Prop := 0 ≤ p.Kind ∧ p.Kind ≤ 255 ∧ 0 ≤ p.Op ∧ p.Op ≤ 255 ∧ 0 ≤ p.Value ∧ p.Value ≤ 255 ∧ 0 ≤ p.Parts ∧ p.Parts ≤ 255 ∧ Rg p.N
theorem tm {a b : Int} (h : 0 ≤ a) : a.tmod b = a % b := Int.tmod_eq_emod_of_nonneg h
theorem bc10 (y : Pt) (hy : PtOk y) : ∃ x3 x4 x5, Rg x4 ∧ ∀ Xr l a d r0 r1, law15_Built_J2i Xr l a d r0 r1 y x3 x4 x5 → cnd (y.Kind.tmod 10 == 1) (law15_Built_J10i Xr l a d r0 r1 y true) (law15_Built_J10i Xr l a d r0 r1 y (decide (250 ≤ y.Kind))) := by
  have hn : Rg y.N := hy.2.2.2.2.2.2.2.2
  have h0 : Rg 0 := by unfold Rg; omega
  have h1 : Rg (bits .and .i64 y.N 1) := by rw [i64_and1]; unfold Rg; omega
  by_cases c : y.Kind.tmod 10 = 1 ∨ 250 ≤ y.Kind
  · have go : ∀ x3 x4 x5, (∀ Xr l a d r0 r1, law15_Built_J2i Xr l a d r0 r1 y x3 x4 x5 → law15_Built_J10i Xr l a d r0 r1 y true) → Rg x4 → ∃ x3 x4 x5, Rg x4 ∧ ∀ Xr l a d r0 r1, law15_Built_J2i Xr l a d r0 r1 y x3 x4 x5 → cnd (y.Kind.tmod 10 == 1) (law15_Built_J10i Xr l a d r0 r1 y true) (law15_Built_J10i Xr l a d r0 r1 y (decide (250 ≤ y.Kind))) := by
      intro x3 x4 x5 h hr
      refine ⟨x3, x4, x5, hr, fun Xr l a d r0 r1 q => ?_⟩
      have := h Xr l a d r0 r1 q
      grind [cnd]
    by_cases k1 : IntKind.i64.wrap (y.Value.tmod 5) = 1
    · refine go _ _ _ (fun Xr l a d r0 r1 q => ⟨fun _ => ⟨fun _ => q, fun e => absurd k1 (by simpa using e)⟩, fun e => (by cases e)⟩) h1
    by_cases k2 : IntKind.i64.wrap (y.Value.tmod 5) = 2
    · refine go _ _ _ (fun Xr l a d r0 r1 q => ⟨fun _ => ⟨fun e => absurd (by simpa using e) k1, fun _ => ⟨fun _ => q, fun e => absurd k2 (by simpa using e)⟩⟩, fun e => (by cases e)⟩) hn
    by_cases k3 : IntKind.i64.wrap (y.Value.tmod 5) = 3
    · refine go _ _ _ (fun Xr l a d r0 r1 q => ⟨fun _ => ⟨fun e => absurd (by simpa using e) k1, fun _ => ⟨fun e => absurd (by simpa using e) k2, fun _ => ⟨fun _ => ⟨?_, q⟩, fun e => absurd k3 (by simpa using e)⟩⟩⟩, fun e => (by cases e)⟩) h0
      split <;> omega
    · refine go _ _ _ (fun Xr l a d r0 r1 q => ⟨fun _ => ⟨fun e => absurd (by simpa using e) k1, fun _ => ⟨fun e => absurd (by simpa using e) k2, fun _ => ⟨fun e => absurd (by simpa using e) k3, fun _ => q⟩⟩⟩, fun e => (by cases e)⟩) h0
  · refine ⟨0, 0, [], h0, fun Xr l a d r0 r1 q => ⟨fun e => absurd (.inl (by simpa using e)) c, fun _ => ⟨fun e => absurd (.inr (by simpa using e)) c, fun _ => q⟩⟩⟩
theorem bc9 (y : Pt) : ∃ x6 x7, ∀ Xr l a d r0 r1 x3 x4 x5, law15_Built_J3i Xr l a d r0 r1 x3 x4 x5 y x6 x7 → law15_Built_J2i Xr l a d r0 r1 y x3 x4 x5 := by
  by_cases c : y.Kind.tmod 10 = 2 ∨ 250 ≤ y.Kind
  · refine ⟨((y.Table.drop (0 : Int).toNat).take ((if (20 : Int) < (y.Table.length : Int) then (20 : Int) else (y.Table.length : Int)).toNat - (0 : Int).toNat)), ((y.Name.drop (0 : Int).toNat).take ((if (20 : Int) < (y.Name.length : Int) then (20 : Int) else (y.Name.length : Int)).toNat - (0 : Int).toNat)), fun Xr l a d r0 r1 x3 x4 x5 q => ?_⟩
    have h : law15_Built_J9i Xr l a d r0 r1 x3 x4 x5 y true := ⟨fun _ => ⟨by split <;> omega, by split <;> omega, q⟩, fun e => (by cases e)⟩
    simp only [law15_Built_J2i]
    grind [cnd]
  · refine ⟨[], [], fun Xr l a d r0 r1 x3 x4 x5 q => ⟨fun e => absurd (.inl (by simpa using e)) c, fun _ => ⟨fun e => absurd (.inr (by simpa using e)) c, fun _ => q⟩⟩⟩
theorem bc3 (y : Pt) (hy : PtOk y) : ∃ x8 x9, 0 ≤ x8 ∧ x8 ≤ 3 ∧ ∀ Xr l a d r0 r1 x3 x4 x5 x6 x7, law15_Built_J4i Xr l a d r0 r1 x3 x4 x5 y x8 x9 x6 x7 → law15_Built_J3i Xr l a d r0 r1 x3 x4 x5 y x6 x7 := by
  obtain ⟨y1, y2, y3, y4, y5, y6, y7, y8, _⟩ := hy
  have w2 : IntKind.i64.wrap (y.Parts.tmod 2) = y.Parts % 2 := by rw [tm y7, wrap64 (by omega) (by omega)]
  have w3 : IntKind.i64.wrap (y.Parts.tmod 3) = y.Parts % 3 := by rw [tm y7, wrap64 (by omega) (by omega)]
  simp only [law15_Built_J3i, law15_Built_J7i, law15_Built_J8i, w2, w3]
  generalize y.Kind.tmod 10 = k
  by_cases k3 : k = 3
  · exact ⟨2, IntKind.i64.wrap (y.Op.tmod 16), by omega, by omega, fun Xr l a d r0 r1 x3 x4 x5 x6 x7 q => by grind [cnd]⟩
  by_cases k4 : k = 4 ∨ k = 5 ∨ k = 6 ∨ k = 7
  · exact ⟨1, 0, by omega, by omega, fun Xr l a d r0 r1 x3 x4 x5 x6 x7 q => by grind [cnd]⟩
  by_cases k8 : k = 8
  · exact ⟨y.Parts % 2, IntKind.i64.wrap (y.Op.tmod 6), by omega, by omega, fun Xr l a d r0 r1 x3 x4 x5 x6 x7 q => by grind [cnd]⟩
  by_cases k1 : k = 1 ∨ k = 2
  · exact ⟨0, 0, by omega, by omega, fun Xr l a d r0 r1 x3 x4 x5 x6 x7 q => by grind [cnd]⟩
  · exact ⟨y.Parts % 3, 0, by omega, by omega, fun Xr l a d r0 r1 x3 x4 x5 x6 x7 q => by grind [cnd]⟩
theorem bc4 (y : Pt) (hy : PtOk y) {x8 : Int} (h0 : 0 ≤ x8) (h3 : x8 ≤ 3) : ∃ x12, 0 ≤ x12 ∧ x12 ≤ 3 ∧ ∀ Xr l a d r0 r1 x3 x4 x5 x9 x10 x11, law15_Built_J5i Xr l a d r0 r1 x3 x4 x5 x9 x10 x11 y x12 → law15_Built_J4i Xr l a d r0 r1 x3 x4 x5 y x8 x9 x10 x11 := by
  obtain ⟨y1, y2, y3, y4, y5, y6, y7, y8, _⟩ := hy
  have w4 : IntKind.i64.wrap (y.Parts.tmod 4) = y.Parts % 4 := by rw [tm y7, wrap64 (by omega) (by omega)]
  simp only [law15_Built_J4i, w4]
  by_cases k : 240 ≤ y.Kind
  · exact ⟨y.Parts % 4, by omega, by omega, fun Xr l a d r0 r1 x3 x4 x5 x9 x10 x11 q => ⟨fun _ => q, fun e => absurd k (by simpa using e)⟩⟩
  · exact ⟨x8, h0, h3, fun Xr l a d r0 r1 x3 x4 x5 x9 x10 x11 q => ⟨fun e => absurd (by simpa using e) k, fun _ => q⟩⟩
def BI (l : List Pt) (n : Nat) (d : Int) : Prop := ∀ a : Int, 0 ≤ a → a + 4 ^ (n + 1) ≤ 1152921504606846976 → ∃ e nx, law15_Built_o l a d e nx ∧ WF e ∧ dep e ≤ n + 1 ∧ a ≤ nx ∧ nx ≤ a + 4 ^ (n + 1)
theorem bLoop {l : List Pt} {n : Nat} {d : Int} (hd : IntKind.i64.wrap (d + 1) = d + 1) (ih : BI l n (d + 1)) {x3 x4 : Int} {x5 : Str} {x9 : Int} {x10 x11 : Str} {y : Pt} (h4 : Rg x4) {cnt : Int} (hc0 : 0 ≤ cnt) (hc : cnt ≤ 3) :
    ∀ (k : Nat) (i : Int) (nx : Int) (ps : List E6), 0 ≤ i → i + k = cnt → 0 ≤ nx → nx + k * 4 ^ (n + 1) ≤ 1152921504606846976 → ps.length = i.toNat → (∀ q ∈ ps, WF q ∧ dep q ≤ n + 1) →
    ∃ r0 r1, WF r0 ∧ dep r0 ≤ n + 2 ∧ nx ≤ r1 ∧ r1 ≤ nx + k * 4 ^ (n + 1) ∧ ∀ Xr : List Pt → Int → Int → E6 → Int → Prop, (∀ a0 a1 a2 r0 r1, law15_Built_B Xr a0 a1 a2 r0 r1 → Xr a0 a1 a2 r0 r1) → ∀ X6 : Int → Int → List E6 → Prop, (∀ x13 x14 x15, law15_Built_L6i Xr l d r0 r1 x3 x4 x5 x9 x10 x11 cnt y X6 x13 x14 x15 → X6 x13 x14 x15) → X6 nx i ps := by
  intro k
  induction k with
  | zero =>
    intro i nx ps h0 hi hn hb hl hw
    refine ⟨.mk (IntKind.i64.wrap (y.Kind.tmod 10)) x9 ⟨x3, x4, x5⟩ x10 x11 ps, nx, .mk _ ?_ h4 (fun q hq => (hw q hq).1), ?_, by omega, by omega, fun Xr hXr X6 hX => hX _ _ _ ⟨fun c => ?_, fun _ => ⟨rfl, rfl⟩⟩⟩
    · show ps.length ≤ 3; omega
    · rw [dep_eq]
      show 1 + deps ps ≤ n + 2
      have : deps ps ≤ n + 1 := by
        clear hl
        induction ps with
        | nil => simp [deps]
        | cons a ps ih2 =>
          simp only [deps]
          have := (hw a (by simp)).2
          have := ih2 (fun q hq => hw q (by simp [hq]))
          omega
      omega
    · have : i < cnt := by simpa using c
      omega
  | succ k ihk =>
    intro i nx ps h0 hi hn hb hl hw
    have hp : (0 : Int) < 4 ^ (n + 1) := Int.pow_pos (by omega)
    have hexp : ((k + 1 : Nat) : Int) * 4 ^ (n + 1) = k * 4 ^ (n + 1) + 4 ^ (n + 1) := by push_cast; rw [Int.add_mul]; omega
    rw [hexp] at hb
    have hk0 : (0 : Int) ≤ k * 4 ^ (n + 1) := Int.mul_nonneg (by omega) (by omega)
    obtain ⟨e, nx', e1, e2, e3, e4, e5⟩ := ih nx hn (by omega)
    obtain ⟨r0, r1, q1, q2, q3, q4, q5⟩ := ihk (i + 1) nx' (ps ++ [e]) (by omega) (by push_cast at hi; omega) (by omega) (by omega) (by simp; omega) (fun q hq => by
      rcases List.mem_append.1 hq with hq | hq
      · exact hw q hq
      · simp at hq; subst hq; exact ⟨e2, e3⟩)
    refine ⟨r0, r1, q1, q2, by omega, by rw [hexp]; omega, fun Xr hXr X6 hX => hX _ _ _ ⟨fun _ => ⟨e, nx', ?_, by omega, ?_⟩, fun c => ?_⟩⟩
    · rw [hd]; exact e1 Xr hXr
    · rw [wrap64 (by push_cast at hi; omega) (by push_cast at hi; omega), e_ref]; exact q5 Xr hXr X6 hX
    · have : ¬ i < cnt := by simpa using c
      push_cast at hi; omega
theorem bLeaf {l : List Pt} {a d : Int} (h0 : 0 ≤ a) (h1 : a ≤ 1152921504606846976) (h : l.length ≤ a ∨ 24 < d) : law15_Built_o l a d (.mk 1 0 ⟨0, 0, []⟩ [] [] []) (a + 1) := by
  intro Xr hXr
  refine hXr _ _ _ _ _ (law15_Built_Bm _ _ _ _ _ _ fun _ => ?_)
  have hw : IntKind.i64.wrap (a + 1) = a + 1 := wrap64 (by omega) (by omega)
  have m : law15_Built_J1i Xr l a d (.mk 1 0 ⟨0, 0, []⟩ [] [] []) (a + 1) true := ⟨fun _ => ⟨rfl, hw⟩, fun e => (by cases e)⟩
  refine ⟨fun _ => m, fun c => ?_⟩
  have c : ¬ (l.length : Int) ≤ a := by simpa using c
  have : decide (24 < d) = true := by simp; omega
  rw [this]; exact m
theorem leafWF : WF (.mk 1 0 ⟨0, 0, []⟩ [] [] []) ∧ dep (.mk 1 0 ⟨0, 0, []⟩ [] [] []) ≤ 1 := ⟨.mk _ (by show 0 ≤ 3; omega) (by show Rg 0; unfold Rg; omega) (fun y hy => by cases hy), by rw [dep_eq]; show 1 + deps [] ≤ 1; simp [deps]⟩
theorem pBuilt {l : List Pt} (hl : ∀ p ∈ l, PtOk p) : ∀ (n : Nat) (d : Int), d + n = 25 → 0 ≤ d → BI l n d := by
  intro n
  induction n with
  | zero =>
    intro d hd h0 a ha hb
    have hb : a + 4 ≤ 1152921504606846976 := by simpa using hb
    exact ⟨_, _, bLeaf ha (by omega) (.inr (by omega)), leafWF.1, leafWF.2, by omega, by simp⟩
  | succ n ih =>
    intro d hd h0 a ha hb
    have hp : (0 : Int) < 4 ^ (n + 1) := Int.pow_pos (by omega)
    have hexp : (4 : Int) ^ (n + 1 + 1) = 4 * 4 ^ (n + 1) := by rw [Int.pow_succ]; omega
    rw [hexp] at hb
    by_cases hle : (l.length : Int) ≤ a
    · exact ⟨_, _, bLeaf ha (by omega) (.inl hle), leafWF.1, by have := leafWF.2; omega, by omega, by rw [hexp]; omega⟩
    · have hi : a.toNat < l.length := by omega
      have hy := hl _ (List.getElem_mem hi)
      obtain ⟨x3, x4, x5, hx4, f10⟩ := bc10 _ hy
      obtain ⟨x6, x7, f9⟩ := bc9 l[a.toNat]
      obtain ⟨x8, x9, h8, h8', f3⟩ := bc3 _ hy
      obtain ⟨x12, h12, h12', f4⟩ := bc4 _ hy h8 h8'
      have hd1 : IntKind.i64.wrap (d + 1) = d + 1 := wrap64 (by omega) (by omega)
      have hk : (x12.toNat : Int) ≤ 3 := by omega
      have hm : (x12.toNat : Int) * 4 ^ (n + 1) ≤ 3 * 4 ^ (n + 1) := Int.mul_le_mul_of_nonneg_right hk (by omega)
      obtain ⟨r0, r1, q1, q2, q3, q4, q5⟩ := bLoop (x3 := x3) (x5 := x5) (x9 := x9) (x10 := x6) (x11 := x7) (y := l[a.toNat]) hd1 (ih (d + 1) (by push_cast at hd; omega) (by omega)) hx4 h12 h12' x12.toNat 0 (a + 1) [] (by omega) (by omega) (by omega) (by omega) rfl (fun q hq => by cases hq)
      refine ⟨r0, r1, fun Xr hXr => hXr _ _ _ _ _ (law15_Built_Bm _ _ _ _ _ _ fun _ => ?_), q1, by omega, by omega, by rw [hexp]; omega⟩
      have m : law15_Built_J1i Xr l a d r0 r1 false := by
        refine ⟨fun e => (by cases e), fun _ => ⟨ha, by omega, l[a.toNat], by simp [hi], f10 _ _ _ _ _ _ (f9 _ _ _ _ _ _ _ _ _ (f3 _ _ _ _ _ _ _ _ _ _ _ (f4 _ _ _ _ _ _ _ _ _ _ _ _ ?_)))⟩⟩
        intro X6 hX
        rw [wrap64 (by omega) (by omega)]
        exact q5 Xr hXr X6 hX
      refine ⟨fun c => absurd (by simpa using c) hle, fun _ => ?_⟩
      have : decide (24 < d) = false := by simp; push_cast at hd; omega
      rw [this]; exact m
end Go.Proofs.YteoohihaibgplaaDoor
