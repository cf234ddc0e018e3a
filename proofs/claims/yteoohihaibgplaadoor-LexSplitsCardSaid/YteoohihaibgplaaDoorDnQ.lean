/-
  Typed states: where ways meet.
-/
import Derived.Test.YteoohihaibgplaaDoorDnJ
namespace Go.AV
open Go.RowKit Go.RG Go.Lib
variable {K : Nat → Type}

theorem lkA_cons {α : Type} (p : Nat × α) (r : List (Nat × α)) (t : Nat) : lkA (p :: r) t = if p.1 = t then some p.2 else lkA r t := by
  show (match Nat.beq p.1 t with | true => some p.2 | false => lkA r t) = _
  cases h : Nat.beq p.1 t with
  | true => simp [nbeq.1 h]
  | false => simp only; rw [if_neg (fun e => by rw [nbeq.2 e] at h; cases h)]
def SubA {α : Type} (m m' : List (Nat × α)) : Prop := ∀ s x, lkA m s = some x → lkA m' s = some x
theorem addA_ok {α : Type} {eq : α → α → Bool} (heq : ∀ a b, eq a b = true → a = b) {m m' : List (Nat × α)} {s : Nat} {x : α} (h : addA eq m s x = some m') : SubA m m' ∧ lkA m' s = some x := by
  unfold addA at h
  split at h
  · rename_i e
    cases h
    refine ⟨fun t y hy => ?_, by rw [lkA_cons]; simp⟩
    rw [lkA_cons]
    split
    · rename_i e'; simp only at e'; subst e'; rw [e] at hy; cases hy
    · exact hy
  · rename_i q e
    split at h
    · rename_i hq
      cases h
      exact ⟨fun _ _ h => h, by rw [e, heq _ _ hq]⟩
    · cases h
theorem sameP_ok {p q : Nat × Nat} (h : sameP p q = true) : p = q := by
  unfold sameP at h
  simp only [Bool.and_eq_true] at h
  exact Prod.ext (nbeq.1 h.1) (nbeq.1 h.2)
theorem sameO_ok : ∀ {p q : Option (Nat × Nat)}, sameO p q = true → p = q
  | none, none, _ => rfl
  | some p, some q, h => by rw [sameP_ok (show sameP p q = true from h)]
  | none, some _, h => by cases h
  | some _, none, h => by cases h
structure SubM (m m' : RM) : Prop where
  r : SubA m.r m'.r
  b : SubA m.b m'.b
theorem SubM.refl {m : RM} : SubM m m := ⟨fun _ _ h => h, fun _ _ h => h⟩
theorem SubM.trans {a b c : RM} (h : SubM a b) (k : SubM b c) : SubM a c := ⟨fun s x q => k.r s x (h.r s x q), fun s x q => k.b s x (h.b s x q)⟩

section
variable {P : Program} {C : Cx K} {R : List (HO K) → Hp → Nat → Prop} {ts ts1 : TS K} {χ : Nat → Nat → Bool} {ξ : Nat → Bool} {ds : DS} {B : Base} {N : Nat} {ρ : Nat → Option (Nat × Nat)} {p : Nat × Nat → Prop} {rg : List (Nat × TV K)}

theorem outV_ok (hC : CxOk P C) {t : Nat} {u : TV K} {x : K t} {v : AV} (h : outV C t u = some x) (hv : TR P C ts χ u v) : dwk v = eV C t x ∧ v.noL = true ∧ ∀ (ts' : TS K) (χ' : Nat → Nat → Bool), TR P C ts' χ' (inV C t x) v := by
  unfold outV at h
  unfold eV inV
  have hs := hv.s
  revert h hs
  generalize hw : u.s = w
  intro h hs
  cases hg : (C.T t).g with
  | true =>
    rw [hg] at h
    cases w with
    | agg cs =>
      simp only at h ⊢
      obtain ⟨vs, rfl, a, b⟩ := hs.agg'
      have tl := (show TL P C ts χ cs vs from ⟨a, b⟩).mapS
      have hd := hC.rd t _ x ts χ vs h tl.1 tl.2
      refine ⟨by simp only [dwk, hd], ?_, fun ts' χ' => ?_⟩
      · simp only [AV.noL]; rw [← dwks_noL, hd]; exact (C.E t).no x
      · obtain ⟨c1, c2⟩ := hC.c t x ts' χ'
        refine .agg _ _ (by rw [← c1, ← hd, dwks_len]) (fun j u' v' h1 h2 => ?_)
        refine TR.undwk (c2 j u' (dwk v') h1 ?_) rfl
        rw [← hd, dwks_map, List.getElem?_map, h2]; rfl
    | _ => cases h
  | false =>
    rw [hg] at h
    have hsz := hC.g t hg
    have go : (C.T t).rd [w] = some x → dwk v = ((C.E t).c x).headD .un ∧ v.noL = true ∧ ∀ (ts' : TS K) (χ' : Nat → Nat → Bool), TR P C ts' χ' (match (C.T t).c x with | [v] => v | _ => .un) v := by
      intro h
      have tl : TL P C ts χ [w] [v] := .cons hs .nil
      have hd := hC.rd t [w] x ts χ [v] h tl.1 tl.2
      simp only [dwks] at hd
      refine ⟨by rw [← hd]; rfl, ?_, fun ts' χ' => ?_⟩
      · have := (C.E t).no x
        rw [← hd] at this
        simp only [noLs, Bool.and_true] at this
        rw [← dwk_noL]; exact this
      · obtain ⟨c1, c2⟩ := hC.c t x ts' χ'
        rw [← hd] at c1 c2
        cases hc : (C.T t).c x with
        | nil => rw [hc] at c1; simp at c1
        | cons a r => cases r with
          | cons b r => rw [hc] at c1; simp at c1
          | nil => rw [hc] at c2; exact (c2 0 a (dwk v) rfl rfl).undwk rfl
    cases w with
    | agg cs => cases h
    | _ => exact go h

variable (P C ts ts1 χ ξ ρ) in
/-- the places are as they are named -/
structure Good (M : RM) : Prop where
  r : ∀ s k, lkA M.r s = some (some k) → ∀ n, tln (ts.tb k.1 k.2) = some n → tln (ts1.tb s 1) = some n ∧ (χ k.1 k.2 = false → ρ s = some k ∧ ξ s = false) ∧ (χ k.1 k.2 = true → ξ s = true)
  rn : ∀ s k, lkA M.r s = some (some k) → ∃ n, tln (ts.tb k.1 k.2) = some n
  n : ∀ s, lkA M.r s = some none → tln (ts1.tb s 1) = some 0 ∧ ξ s = true
  b : ∀ s k, lkA M.b s = some k → ρ s = some k
  rg : ts1.rg = rg
theorem Good.sub {M m : RM} (h : Good (rg := rg) ts ts1 χ ξ ρ M) (k : SubM m M) : Good (rg := rg) ts ts1 χ ξ ρ m :=
  ⟨fun s q a => h.r s q (k.r _ _ a), fun s q a => h.rn s q (k.r _ _ a), fun s a => h.n s (k.r _ _ a), fun s q a => h.b s q (k.b _ _ a), h.rg⟩
/-- what was marked stays marked -/
def ExtR (rg rg' : List (Nat × TV K)) : Prop := ∀ id w, lkR rg id = some w → lkR rg' id = some w
theorem TM.stp {u : TV K} : ∀ {w u1 : TV K}, u.s = w → TM P C ts ts1 χ ξ ds ρ p w u1 → TM P C ts ts1 χ ξ ds ρ p u u1 := by
  intro w u1 e t
  cases u with
  | cn id v => simp only [TV.s] at e; subst e; exact TM.strip t
  | _ => simp only [TV.s] at e; subst e; exact t
theorem rd1_ok (hC : CxOk P C) (hx : ExtR rg ts.rg) {k : Kd} {u : TV K} {m m' : RM} {a : List (DV K)} (h : rd1 C k u m = some (a, m')) : SubM m m' ∧ ∀ r, ∃ u1, bdV C rg k (a ++ r) = (u1, r) ∧ (Good (rg := rg) ts ts1 χ ξ ρ m' → TM P C ts ts1 χ ξ ds ρ p u u1) := by
  have st := @TM.stp K P C ts ts1 χ ξ ds ρ p u
  cases k with
  | it k =>
    simp only [rd1] at h
    split at h
    · rename_i k' n e
      split at h
      · rename_i ek
        subst ek; cases h
        refine ⟨.refl, fun r => ⟨.it k n, rfl, fun _ => ?_⟩⟩
        have e2 : u.s = .it k n ∨ u.s = .li k n := by
          revert e; generalize u.s = w; intro e
          cases w <;> simp [tint] at e
          · obtain ⟨rfl, rfl⟩ := e; exact .inr rfl
          · obtain ⟨rfl, rfl⟩ := e; exact .inl rfl
        rcases e2 with e2 | e2
        · exact st e2 (TM.noref rfl)
        · exact st e2 (TM.sem fun v hv => by cases hv; exact ⟨.it k n, rfl⟩)
      · cases h
    · cases h
  | bl =>
    simp only [rd1] at h
    split at h
    · rename_i b e
      cases h
      refine ⟨.refl, fun r => ⟨.bl b, rfl, fun _ => ?_⟩⟩
      have e2 : u.s = .bl b ∨ u.s = .lb b := by
        revert e; generalize u.s = w; intro e
        cases w <;> simp [tbo] at e
        · subst e; exact .inr rfl
        · subst e; exact .inl rfl
      rcases e2 with e2 | e2
      · exact st e2 (TM.noref rfl)
      · exact st e2 (TM.sem fun v hv => by cases hv; exact ⟨.bl b, rfl⟩)
    · cases h
  | st =>
    simp only [rd1] at h
    split at h
    · rename_i s e
      cases h
      exact ⟨.refl, fun r => ⟨.st s, rfl, fun _ => st e (TM.noref rfl)⟩⟩
    · cases h
  | sl e =>
    simp only [rd1] at h
    have bd : ∀ (l : List (K e)) r, bdV C rg (.sl e) (.l e l :: r) = (.sl e l, r) := by
      intro l r; simp [bdV, castL]
    split at h
    · rename_i e' l eu
      split at h
      · rename_i l' hl
        obtain ⟨rfl, rfl⟩ := castL_out hl
        cases h
        exact ⟨.refl, fun r => ⟨_, bd _ r, fun _ => st eu (TM.noref rfl)⟩⟩
      · cases h
    · rename_i eu
      cases h
      exact ⟨.refl, fun r => ⟨_, bd [] r, fun _ => st eu (TM.sem fun v hv => by cases hv; exact ⟨.sl e [] _ _ _ rfl rfl, rfl⟩)⟩⟩
    · rename_i eu
      cases h
      exact ⟨.refl, fun r => ⟨_, bd [] r, fun _ => st eu (TM.sem fun v hv => by cases hv; exact ⟨.sl e [] _ _ _ rfl rfl, rfl⟩)⟩⟩
    · cases h
  | v t =>
    simp only [rd1] at h
    split at h
    · rename_i x e
      cases h
      refine ⟨.refl, fun r => ⟨inV C t x, by simp [bdV], fun _ => TM.sem fun v hv => ?_⟩⟩
      obtain ⟨_, a2, a3⟩ := outV_ok hC e hv
      exact ⟨a3 _ _, a2⟩
    · cases h
  | agg l => simp only [rd1] at h; cases h
  | row s =>
    simp only [rd1] at h
    split at h
    · rename_i s' c e
      unfold addR at h
      split at h
      · rename_i r' hr
        cases h
        obtain ⟨h1, h2⟩ := addA_ok (fun _ _ => sameO_ok) hr
        refine ⟨⟨h1, fun _ _ q => q⟩, fun r => ⟨.rw s 1, rfl, fun hg => st e ?_⟩⟩
        obtain ⟨n, hn⟩ := hg.rn s (s', c) h2
        obtain ⟨g1, g2, g3⟩ := hg.r s (s', c) h2 n hn
        exact TM.rw hn g1 g2 g3
      · cases h
    · rename_i e
      unfold addR at h
      split at h
      · rename_i r' hr
        cases h
        obtain ⟨h1, h2⟩ := addA_ok (fun _ _ => sameO_ok) hr
        refine ⟨⟨h1, fun _ _ q => q⟩, fun r => ⟨.rw s 1, rfl, fun hg => st e ?_⟩⟩
        obtain ⟨g1, g2⟩ := hg.n s h2
        exact TM.nilrw g1 g2
      · cases h
    · cases h
  | px s off =>
    simp only [rd1] at h
    split at h
    · rename_i s' c off' e
      split at h
      · rename_i ho
        have := nbeq.1 ho; subst this
        unfold addB at h
        split at h
        · rename_i b' hb
          cases h
          obtain ⟨h1, h2⟩ := addA_ok (fun _ _ => sameP_ok) hb
          exact ⟨⟨fun _ _ q => q, h1⟩, fun r => ⟨.px s 1 off, rfl, fun hg => st e (TM.px (hg.b s (s', c) h2))⟩⟩
        · cases h
      · cases h
    · cases h
  | kp id =>
    simp only [rd1] at h
    split at h
    · rename_i id' w
      split at h
      · rename_i hi
        have := nbeq.1 hi; subst this
        cases h
        refine ⟨.refl, fun r => ⟨match lkR rg id with | some v => .cn id v | none => .un, rfl, fun hg => ?_⟩⟩
        cases hr : lkR rg id with
        | none => exact TM.un _
        | some v =>
          intro v0 hv
          cases hv with
          | cn _ _ _ h1 hn hv =>
            have := hx id v hr
            rw [h1] at this; cases this
            exact ⟨v0, .cn id w v0 (by rw [hg.rg]; exact hr) hn (hv.noref hn).1, .no v0 (hv.noL' hn)⟩
      · cases h
    · cases h
  | nil =>
    simp only [rd1] at h
    split at h
    · rename_i e
      cases h
      exact ⟨.refl, fun r => ⟨.nil, rfl, fun _ => st e (TM.noref rfl)⟩⟩
    · cases h
  | un =>
    simp only [rd1] at h
    cases h
    exact ⟨.refl, fun r => ⟨.un, by cases r <;> rfl, fun _ => TM.un _⟩⟩
mutual
theorem rdV_ok (hC : CxOk P C) (hx : ExtR rg ts.rg) : ∀ (k : Kd) (u : TV K) (m m' : RM) (a : List (DV K)), rdV C k u m = some (a, m') → SubM m m' ∧ ∀ r, ∃ u1, bdV C rg k (a ++ r) = (u1, r) ∧ (Good (rg := rg) ts ts1 χ ξ ρ m' → TM P C ts ts1 χ ξ ds ρ p u u1)
  | .agg l, u, m, m', a, h => by
    simp only [rdV] at h
    split at h
    · rename_i vs e
      obtain ⟨h1, h2⟩ := rdVs_ok hC hx l vs m m' a h
      refine ⟨h1, fun r => ?_⟩
      obtain ⟨us1, e1, e2, e3⟩ := h2 r
      refine ⟨.agg us1, by simp only [bdV, e1], fun hg => ?_⟩
      exact TM.stp e (TM.agg e2 (e3 hg))
    · cases h
  | .it k, u, m, m', a, h => rd1_ok hC hx h
  | .bl, u, m, m', a, h => rd1_ok hC hx h
  | .st, u, m, m', a, h => rd1_ok hC hx h
  | .sl e, u, m, m', a, h => rd1_ok hC hx h
  | .v t, u, m, m', a, h => rd1_ok hC hx h
  | .row s, u, m, m', a, h => rd1_ok hC hx h
  | .px s o, u, m, m', a, h => rd1_ok hC hx h
  | .kp id, u, m, m', a, h => rd1_ok hC hx h
  | .nil, u, m, m', a, h => rd1_ok hC hx h
  | .un, u, m, m', a, h => rd1_ok hC hx h
theorem rdVs_ok (hC : CxOk P C) (hx : ExtR rg ts.rg) : ∀ (l : List Kd) (us : List (TV K)) (m m' : RM) (a : List (DV K)), rdVs C l us m = some (a, m') → SubM m m' ∧ ∀ r, ∃ us1, bdVs C rg l (a ++ r) = (us1, r) ∧ us1.length = us.length ∧ (Good (rg := rg) ts ts1 χ ξ ρ m' → ∀ (j : Nat) (u u1 : TV K), us[j]? = some u → us1[j]? = some u1 → TM P C ts ts1 χ ξ ds ρ p u u1)
  | [], [], m, m', a, h => by
    simp only [rdVs] at h; cases h
    exact ⟨.refl, fun r => ⟨[], rfl, rfl, fun _ j u u1 h => by simp at h⟩⟩
  | k :: l, u :: us, m, m', a, h => by
    simp only [rdVs] at h
    split at h
    · rename_i a1 m1 h1
      split at h
      · rename_i a2 m2 h2
        cases h
        obtain ⟨s1, t1⟩ := rdV_ok hC hx k u m m1 a1 h1
        obtain ⟨s2, t2⟩ := rdVs_ok hC hx l us m1 m' a2 h2
        refine ⟨s1.trans s2, fun r => ?_⟩
        obtain ⟨u1, e1, f1⟩ := t1 (a2 ++ r)
        obtain ⟨us1, e2, e3, f2⟩ := t2 r
        refine ⟨u1 :: us1, ?_, by simp [e3], fun hg j u' u1' x y => ?_⟩
        · rw [List.append_assoc]; simp only [bdVs, e1, e2]
        · cases j with
          | zero => simp at x y; subst x; subst y; exact f1 (hg.sub s2)
          | succ j => exact f2 hg j u' u1' (by simpa using x) (by simpa using y)
      · cases h
    · cases h
  | [], _ :: _, _, _, _, h => by simp [rdVs] at h
  | _ :: _, [], _, _, _, h => by simp [rdVs] at h
end
theorem rdS_ok (hC : CxOk P C) (hx : ExtR rg ts.rg) : ∀ (l : List (Nat × Kd)) (m m' : RM) (a : List (DV K)), rdS C ts.fr l m = some (a, m') → SubM m m' ∧ ∀ r, ∃ fr1, bdS C rg l (a ++ r) = (fr1, r) ∧ (Good (rg := rg) ts ts1 χ ξ ρ m' → ∀ t, TM P C ts ts1 χ ξ ds ρ p (lkT ts.fr t) (lkT fr1 t))
  | [], m, m', a, h => by
    simp only [rdS] at h; cases h
    exact ⟨.refl, fun r => ⟨[], rfl, fun _ t => TM.un _⟩⟩
  | k :: l, m, m', a, h => by
    simp only [rdS] at h
    split at h
    · rename_i a1 m1 h1
      split at h
      · rename_i a2 m2 h2
        cases h
        obtain ⟨s1, t1⟩ := rdV_ok hC hx k.2 (lkT ts.fr k.1) m m1 a1 h1
        obtain ⟨s2, t2⟩ := rdS_ok hC hx l m1 m' a2 h2
        refine ⟨s1.trans s2, fun r => ?_⟩
        obtain ⟨u1, e1, f1⟩ := t1 (a2 ++ r)
        obtain ⟨fr1, e2, f2⟩ := t2 r
        refine ⟨(k.1, u1) :: fr1, ?_, fun hg t => ?_⟩
        · rw [List.append_assoc]; simp only [bdS, e1, e2]
        · rw [lkT_put]
          split
          · rename_i e; rw [← e]; exact f1 (hg.sub s2)
          · exact f2 hg t
      · cases h
    · cases h
theorem rdB_ok (hC : CxOk P C) (hx : ExtR rg ts.rg) : ∀ (l : List (Nat × Nat × List Kd)) (m m' : RM) (a : List (DV K)), rdB C ts l m = some (a, m') → SubM m m' ∧ ∀ r, ∃ od1, bdB C rg l (a ++ r) = (od1, r) ∧ (∀ s, memB od1 s = l.any fun q => Nat.beq q.1 s) ∧ (∀ s, memB od1 s = true → ∃ q e cs cs1, lkA m'.b s = some q ∧ ts.tb q.1 q.2 = some (.box e cs) ∧ lkB od1 s = some (.box e cs1) ∧
      (Good (rg := rg) ts ts1 χ ξ ρ m' → BM P C ts ts1 χ ξ ds ρ p (.box e cs) (.box e cs1)))
  | [], m, m', a, h => by
    simp only [rdB] at h; cases h
    exact ⟨.refl, fun r => ⟨[], rfl, fun s => rfl, fun s h => by cases h⟩⟩
  | k :: l, m, m', a, h => by
    simp only [rdB] at h
    split at h
    · rename_i q hq
      split at h
      · rename_i e cs hb
        split at h
        · rename_i he
          have he := nbeq.1 he
          split at h
          · rename_i a1 m1 h1
            split at h
            · rename_i a2 m2 h2
              cases h
              obtain ⟨s1, t1⟩ := rdVs_ok hC hx k.2.2 cs m m1 a1 h1
              obtain ⟨s2, t2⟩ := rdB_ok hC hx l m1 m' a2 h2
              refine ⟨s1.trans s2, fun r => ?_⟩
              obtain ⟨us1, e1, e1', f1⟩ := t1 (a2 ++ r)
              obtain ⟨od1, e2, g2, f2⟩ := t2 r
              refine ⟨(k.1, some (.box k.2.1 us1)) :: od1, ?_, fun s => ?_, fun s hs => ?_⟩
              · rw [List.append_assoc]; simp only [bdB, e1, e2]
              · show (Nat.beq k.1 s || memB od1 s) = _; rw [g2, List.any_cons]
              · rw [lkB_cons]
                by_cases ek : k.1 = s
                · subst ek
                  refine ⟨q, e, cs, us1, (s1.trans s2).b _ _ hq, hb, by simp [he], fun hg => BM.box e1' (f1 (hg.sub s2))⟩
                · rw [if_neg ek]
                  have hs' : memB od1 s = true := by
                    have : (Nat.beq k.1 s || memB od1 s) = true := hs
                    have hb' : Nat.beq k.1 s = false := by
                      cases hh : Nat.beq k.1 s with
                      | false => rfl
                      | true => exact absurd (nbeq.1 hh) ek
                    rwa [hb', Bool.false_or] at this
                  exact f2 s hs'
            · cases h
          · cases h
        · cases h
      · cases h
    · cases h
theorem rdR_ok {m : RM} : ∀ (l : List (Nat × Nat)) (a : List (DV K)), rdR C ts m l = some a → (∀ s, memB (bdR l a) s = l.any fun q => Nat.beq q.1 s) ∧ ∀ s, memB (bdR l a) s = true → ∃ e, (lkA m.r s = some none ∧ lkB (bdR l a) s = some (.row e [])) ∨ ∃ q l', lkA m.r s = some (some q) ∧ trow C e (ts.tb q.1 q.2) = some l' ∧ lkB (bdR l a) s = some (.row e l')
  | [], a, h => by
    simp only [rdR] at h; cases h
    exact ⟨fun s => rfl, fun s h => by cases h⟩
  | k :: l, a, h => by
    have step : ∀ {x : List (K k.2)} {b : List (DV K)}, rdR C ts m l = some b → (lkA m.r k.1 = some none ∧ x = [] ∨ ∃ q, lkA m.r k.1 = some (some q) ∧ trow C k.2 (ts.tb q.1 q.2) = some x) → (∀ s, memB (bdR (k :: l) (.l k.2 x :: b)) s = (k :: l).any fun q => Nat.beq q.1 s) ∧
        ∀ s, memB (bdR (k :: l) (.l k.2 x :: b)) s = true → ∃ e, (lkA m.r s = some none ∧ lkB (bdR (k :: l) (.l k.2 x :: b)) s = some (.row e [])) ∨ ∃ q l', lkA m.r s = some (some q) ∧ trow C e (ts.tb q.1 q.2) = some l' ∧ lkB (bdR (k :: l) (.l k.2 x :: b)) s = some (.row e l') := by
      intro x b hb hx
      obtain ⟨g1, g2⟩ := rdR_ok l b hb
      have e : bdR (k :: l) (.l k.2 x :: b) = (k.1, some (.row k.2 x)) :: bdR l b := by simp [bdR, castL]
      rw [e]
      refine ⟨fun s => ?_, fun s hs => ?_⟩
      · show (Nat.beq k.1 s || memB (bdR l b) s) = _; rw [g1, List.any_cons]
      · rw [lkB_cons]
        by_cases ek : k.1 = s
        · subst ek
          rcases hx with ⟨h1, rfl⟩ | ⟨q, h1, h2⟩
          · exact ⟨k.2, .inl ⟨h1, by simp⟩⟩
          · exact ⟨k.2, .inr ⟨q, x, h1, h2, by simp⟩⟩
        · rw [if_neg ek]
          refine g2 s ?_
          have : (Nat.beq k.1 s || memB (bdR l b) s) = true := hs
          have hb' : Nat.beq k.1 s = false := by
            cases hh : Nat.beq k.1 s with
            | false => rfl
            | true => exact absurd (nbeq.1 hh) ek
          rwa [hb', Bool.false_or] at this
    simp only [rdR] at h
    split at h
    · rename_i hq
      obtain ⟨b, hb, rfl⟩ := Option.map_eq_some_iff.1 h
      exact step hb (.inl ⟨hq, rfl⟩)
    · rename_i q hq
      split at h
      · rename_i l' hl
        obtain ⟨b, hb, rfl⟩ := Option.map_eq_some_iff.1 h
        exact step hb (.inr ⟨q, hq, hl⟩)
      · cases h
    · cases h
theorem memN2_mem : ∀ {l : List (Nat × Nat)} {q : Nat × Nat}, q ∈ l → memN2 l q = true
  | p :: r, q, h => by
    show (sameP p q || memN2 r q) = true
    rcases List.mem_cons.1 h with rfl | h
    · have : sameP q q = true := by unfold sameP; rw [nbeq.2 rfl, nbeq.2 rfl]; rfl
      rw [this]; rfl
    · rw [memN2_mem h, Bool.or_true]
theorem nodN2_ok : ∀ {l : List (Nat × Nat)}, nodN2 l = true → l.Nodup
  | [], _ => List.nodup_nil
  | p :: r, h => by
    simp only [nodN2, Bool.and_eq_true, Bool.not_eq_true'] at h
    refine List.nodup_cons.2 ⟨fun hm => ?_, nodN2_ok h.2⟩
    rw [memN2_mem hm] at h; cases h.1
theorem plsR_mem : ∀ {m : List (Nat × Option (Nat × Nat))} {s : Nat} {k : Nat × Nat}, lkA m s = some (some k) → k ∈ plsR m
  | [], _, _, h => by cases h
  | (t, x) :: r, s, k, h => by
    rw [lkA_cons] at h
    split at h
    · cases h; simp [plsR]
    · have := plsR_mem h
      cases x with
      | none => exact this
      | some q => exact List.mem_cons_of_mem _ this
theorem plsR_inj : ∀ {m : List (Nat × Option (Nat × Nat))} {s s' : Nat} {k : Nat × Nat}, (plsR m).Nodup → lkA m s = some (some k) → lkA m s' = some (some k) → s = s'
  | [], _, _, _, _, h, _ => by cases h
  | (t, x) :: r, s, s', k, hn, h, h' => by
    rw [lkA_cons] at h h'
    cases x with
    | none =>
      split at h
      · cases h
      · split at h'
        · cases h'
        · exact plsR_inj (m := r) hn h h'
    | some q =>
      have hn' := List.nodup_cons.1 (show (q :: plsR r).Nodup from hn)
      split at h
      · rename_i e1
        split at h'
        · rename_i e2; simp only at e1 e2; rw [← e1, ← e2]
        · cases h; exact absurd (plsR_mem h') hn'.1
      · split at h'
        · cases h'; exact absurd (plsR_mem h) hn'.1
        · exact plsR_inj hn'.2 h h'
theorem plsB_mem : ∀ {m : List (Nat × (Nat × Nat))} {s : Nat} {k : Nat × Nat}, lkA m s = some k → k ∈ m.map (·.2)
  | [], _, _, h => by cases h
  | (t, x) :: r, s, k, h => by
    rw [lkA_cons] at h
    split at h
    · cases h; simp
    · exact List.mem_cons_of_mem _ (plsB_mem h)
theorem plsB_inj : ∀ {m : List (Nat × (Nat × Nat))} {s s' : Nat} {k : Nat × Nat}, (m.map (·.2)).Nodup → lkA m s = some k → lkA m s' = some k → s = s'
  | [], _, _, _, _, h, _ => by cases h
  | (t, x) :: r, s, s', k, hn, h, h' => by
    rw [lkA_cons] at h h'
    have hn' := List.nodup_cons.1 (show (x :: r.map (·.2)).Nodup from hn)
    split at h
    · rename_i e1
      split at h'
      · rename_i e2; simp only at e1 e2; rw [← e1, ← e2]
      · cases h; exact absurd (plsB_mem h') hn'.1
    · split at h'
      · cases h'; exact absurd (plsB_mem h) hn'.1
      · exact plsB_inj hn'.2 h h'
theorem lkA_any {α : Type} {m : List (Nat × α)} {s : Nat} {x : α} {f : Nat × α → Bool} (h : lkA m s = some x) (ha : m.all f = true) : f (s, x) = true := by
  induction m with
  | nil => cases h
  | cons q m ih =>
    rw [lkA_cons] at h
    simp only [List.all_cons, Bool.and_eq_true] at ha
    split at h
    · rename_i e; cases h; subst e; exact ha.1
    · exact ih h ha.2
/-- where ways meet -/
theorem rdT_ok (hB : LentB B) (hC : CxOk P C) (hx : ExtR rg ts.rg) {τ : Tm} {env : List (DV K)} (h : rdT C τ ts = some env) (hh : List (HO K)) (hR : ∀ h h' H n, R h H n → R h' H n) : REt P C R B N ts (bdT C τ rg hh env) := by
  intro χ ds hk hγ
  unfold rdT at h
  split at h
  rotate_left
  · cases h
  rename_i a m1 h1
  split at h
  rotate_left
  · cases h
  rename_i b M h2
  split at h
  rotate_left
  · cases h
  rename_i c h3 h4
  cases h
  simp only [Bool.and_eq_true] at h4
  obtain ⟨⟨hnod, hdom⟩, hfixM⟩ := h4
  simp only [fixM, Bool.and_eq_true] at hfixM
  simp only [domRM, Bool.and_eq_true] at hdom
  obtain ⟨⟨hdb, hdr⟩, hdis⟩ := hdom
  have hnod := nodN2_ok hnod
  obtain ⟨nr, nb, ndis⟩ := List.nodup_append.1 hnod
  -- the state
  let ρ : Nat → Option (Nat × Nat) := fun s => match lkA M.b s with
    | some k => some k
    | none => match lkA M.r s with
      | some (some k) => if χ k.1 k.2 = true then none else some k
      | _ => none
  let ξ : Nat → Bool := fun s => match lkA M.b s with
    | some _ => false
    | none => match lkA M.r s with
      | some none => true
      | some (some k) => χ k.1 k.2
      | none => false
  obtain ⟨rb, gb1, gb2⟩ := rdR_ok τ.rw c h3 |> fun x => (⟨rfl, x.1, x.2⟩ : (bdR τ.rw c = bdR τ.rw c) ∧ _ ∧ _)
  -- names
  have hbname : ∀ s k, lkA M.b s = some k → τ.bx.any (fun q => Nat.beq q.1 s) = true := fun s k hs => lkA_any hs hdb
  have hrname : ∀ s k, lkA M.r s = some k → τ.rw.any (fun q => Nat.beq q.1 s) = true := fun s k hs => lkA_any hs hdr
  have hapart : ∀ s, τ.bx.any (fun q => Nat.beq q.1 s) = true → τ.rw.any (fun q => Nat.beq q.1 s) = true → False := by
    intro s q1 q2
    obtain ⟨x, hx1, hx2⟩ := List.any_eq_true.1 q1
    obtain ⟨y, hy1, hy2⟩ := List.any_eq_true.1 q2
    have := List.all_eq_true.1 (List.all_eq_true.1 hdis x hx1) y hy1
    rw [nbeq.1 hx2, nbeq.1 hy2, nbeq.2 rfl] at this; cases this
  have hbr : ∀ s k k', lkA M.b s = some k → lkA M.r s = some k' → False := fun s k k' q1 q2 => hapart s (hbname s k q1) (hrname s k' q2)
  have hρb : ∀ s k, lkA M.b s = some k → ρ s = some k := by
    intro s k hs
    show (match lkA M.b s with | some k => some k | none => _) = _
    rw [hs]
  have hρr : ∀ s k, lkA M.r s = some (some k) → ρ s = (if χ k.1 k.2 = true then none else some k) ∧ ξ s = χ k.1 k.2 := by
    intro s k hs
    have hn : lkA M.b s = none := by
      cases hq : lkA M.b s with
      | none => rfl
      | some k' => exact (hbr s k' _ hq hs).elim
    constructor
    · show (match lkA M.b s with | some k => some k | none => match lkA M.r s with | some (some k) => if χ k.1 k.2 = true then none else some k | _ => none) = _
      rw [hn, hs]
    · show (match lkA M.b s with | some _ => false | none => match lkA M.r s with | some none => true | some (some k) => χ k.1 k.2 | none => false) = _
      rw [hn, hs]
  have hξn : ∀ s, lkA M.r s = some none → ρ s = none ∧ ξ s = true := by
    intro s hs
    have hn : lkA M.b s = none := by
      cases hq : lkA M.b s with
      | none => rfl
      | some k' => exact (hbr s k' _ hq hs).elim
    constructor
    · show (match lkA M.b s with | some k => some k | none => match lkA M.r s with | some (some k) => if χ k.1 k.2 = true then none else some k | _ => none) = _
      rw [hn, hs]
    · show (match lkA M.b s with | some _ => false | none => match lkA M.r s with | some none => true | some (some k) => χ k.1 k.2 | none => false) = _
      rw [hn, hs]
  have hρi : ∀ s k, ρ s = some k → (lkA M.b s = some k) ∨ (lkA M.r s = some (some k) ∧ χ k.1 k.2 = false) := by
    intro s k hs
    have hs' : (match lkA M.b s with | some k => some k | none => match lkA M.r s with | some (some k) => if χ k.1 k.2 = true then none else some k | _ => none) = some k := hs
    split at hs'
    · rename_i k' e; cases hs'; exact .inl e
    · split at hs'
      · rename_i k' e
        split at hs'
        · cases hs'
        · rename_i hx'; cases hs'; exact .inr ⟨e, by simpa using hx'⟩
      · cases hs'
  -- what is built
  let tsS : TS K := bdT C τ rg hh (a ++ b ++ c)
  obtain ⟨sub1, t1⟩ := rdS_ok (P := P) (ts1 := tsS) (χ := χ) (ξ := ξ) (ρ := ρ) (ds := ds) (p := fun _ => False) hC hx τ.ks ⟨[], []⟩ m1 a h1
  obtain ⟨sub2, t2⟩ := rdB_ok (P := P) (ts1 := tsS) (χ := χ) (ξ := ξ) (ρ := ρ) (ds := ds) (p := fun _ => False) hC hx τ.bx m1 M b h2
  obtain ⟨fr1, e1, f1⟩ := t1 (b ++ c)
  obtain ⟨od1, e2, g2, f2⟩ := t2 c
  have hS : tsS = ⟨fr1, od1 ++ bdR τ.rw c, [], rg, hh⟩ := by
    show bdT C τ rg hh (a ++ b ++ c) = _
    unfold bdT
    rw [List.append_assoc, e1]
    simp only
    rw [e2]
  have hlk : ∀ s, lkB tsS.od s = if memB od1 s = true then lkB od1 s else lkB (bdR τ.rw c) s := by
    intro s; rw [hS]; exact lkB_app _ _ s
  have hrowlk : ∀ s, τ.rw.any (fun q => Nat.beq q.1 s) = true → lkB tsS.od s = lkB (bdR τ.rw c) s := by
    intro s hs
    rw [hlk, if_neg]
    intro hm
    rw [g2] at hm
    exact hapart s hm hs
  have hGood : Good (rg := rg) ts tsS χ ξ ρ M := by
    refine ⟨?_, ?_, ?_, hρb, by rw [hS]⟩
    · intro s k hs n hn
      obtain ⟨r1, r2⟩ := hρr s k hs
      have hnm := hrname s _ hs
      obtain ⟨e, ⟨q1, _⟩ | ⟨q, l', q1, q2, q3⟩⟩ := gb2 s (by rw [gb1]; exact hnm)
      · rw [hs] at q1; cases q1
      · rw [hs] at q1; cases q1
        refine ⟨?_, fun hx' => ⟨by rw [r1, hx']; rfl, by rw [r2, hx']⟩, fun hx' => by rw [r2, hx']⟩
        show tln (lkB tsS.od s) = _
        rw [hrowlk s hnm, q3]
        rw [(hγ.trow hC q2).1] at hn
        exact hn
    · intro s k hs
      obtain ⟨e, ⟨q1, _⟩ | ⟨q, l', q1, q2, q3⟩⟩ := gb2 s (by rw [gb1]; exact hrname s _ hs)
      · rw [hs] at q1; cases q1
      · rw [hs] at q1; cases q1
        exact ⟨_, (hγ.trow hC q2).1⟩
    · intro s hs
      obtain ⟨r1, r2⟩ := hξn s hs
      refine ⟨?_, r2⟩
      have hnm := hrname s _ hs
      obtain ⟨e, ⟨q1, q3⟩ | ⟨q, l', q1, q2, q3⟩⟩ := gb2 s (by rw [gb1]; exact hnm)
      · show tln (lkB tsS.od s) = _
        rw [hrowlk s hnm, q3]; rfl
      · rw [hs] at q1; cases q1
  refine RE_tm hB hγ hk ρ (fun _ => False) ξ tsS (by rw [hS]) (fun H n => hR _ _ H n) ?_ ?_ ?_ ?_ ?_ (fun k h => h.elim) hC ?_ (fun ks h1 h2 => ⟨h1, _, h2⟩)
  · intro s k hs
    rcases hρi s k hs with hb | ⟨hr, hx'⟩
    · have hm : memB od1 s = true := by rw [g2]; exact hbname s k hb
      obtain ⟨q, e, cs, cs1, q1, q2, q3, q4⟩ := f2 s hm
      rw [hb] at q1; cases q1
      exact ⟨hγ.box q2, _, _, q2, by rw [hlk, if_pos hm]; exact q3, q4 hGood⟩
    · have hnm := hrname s _ hr
      obtain ⟨e, ⟨q1, _⟩ | ⟨q, l', q1, q2, q3⟩⟩ := gb2 s (by rw [gb1]; exact hnm)
      · rw [hr] at q1; cases q1
      · rw [hr] at q1; cases q1
        refine ⟨hx', ?_⟩
        have q3' : lkB tsS.od s = some (.row e l') := by rw [hrowlk s hnm]; exact q3
        unfold trow at q2
        split at q2
        · rename_i e' l0 hb
          obtain ⟨rfl, rfl⟩ := castL_out q2
          exact ⟨_, _, hb, q3', BM.row⟩
        · rename_i e' n cs hb
          split at q2
          · rename_i he
            have := nbeq.1 he; subst this
            exact ⟨_, _, hb, q3', BM.lr hC q2⟩
          · cases q2
        · cases q2
  · intro s b1 hs hxx
    rw [hlk] at hs
    by_cases hm : memB od1 s = true
    · obtain ⟨q, e, cs, cs1, q1, _⟩ := f2 s hm
      exact ⟨q, hρb s q q1⟩
    · rw [if_neg hm] at hs
      have hm2 := lkB_mem hs
      obtain ⟨e, ⟨q1, _⟩ | ⟨q, l', q1, q2, q3⟩⟩ := gb2 s hm2
      · rw [(hξn s q1).2] at hxx; cases hxx
      · obtain ⟨r1, r2⟩ := hρr s q q1
        rw [r2] at hxx
        exact ⟨q, by rw [r1, hxx]; rfl⟩
  · intro s hs
    have hs' : (match lkA M.b s with | some _ => false | none => match lkA M.r s with | some none => true | some (some k) => χ k.1 k.2 | none => false) = true := hs
    split at hs'
    · cases hs'
    · split at hs'
      · rename_i hr
        obtain ⟨r1, r2⟩ := hξn s hr
        refine ⟨r1, ?_⟩
        have hnm := hrname s _ hr
        obtain ⟨e, ⟨q1, q3⟩ | ⟨q, l', q1, q2, q3⟩⟩ := gb2 s (by rw [gb1]; exact hnm)
        · exact ⟨e, by rw [hrowlk s hnm]; exact q3⟩
        · rw [hr] at q1; cases q1
      · rename_i k hr
        obtain ⟨r1, r2⟩ := hρr s k hr
        refine ⟨by rw [r1, if_pos hs'], ?_⟩
        have hnm := hrname s _ hr
        obtain ⟨e, ⟨q1, q3⟩ | ⟨q, l', q1, q2, q3⟩⟩ := gb2 s (by rw [gb1]; exact hnm)
        · rw [hr] at q1; cases q1
        · rw [hr] at q1; cases q1
          have := (hγ.trow hC q2).2.1 hs'
          subst this
          exact ⟨e, by rw [hrowlk s hnm]; exact q3⟩
      · cases hs'
  · intro s k h2 hs
    have hbl : Nat.ble 2000000 s = true := Nat.ble_eq_true_of_le h2
    rcases hρi s k hs with q1 | ⟨q1, _⟩
    · have := lkA_any q1 hfixM.1
      simp only [hbl, Bool.not_true, Bool.false_or] at this
      exact sameP_ok this
    · have := lkA_any q1 hfixM.2
      simp only [hbl, Bool.not_true, Bool.false_or] at this
      exact sameP_ok this
  · intro s s' k hs hs'
    rcases hρi s k hs with q1 | ⟨q1, _⟩ <;> rcases hρi s' k hs' with q2 | ⟨q2, _⟩
    · exact plsB_inj nb q1 q2
    · exact absurd rfl (ndis k (plsR_mem q2) k (plsB_mem q1))
    · exact absurd rfl (ndis k (plsR_mem q1) k (plsB_mem q2))
    · exact plsR_inj nr q1 q2
  · intro t
    have := f1 (hGood.sub sub2) t
    rw [hS]; rw [hS] at this
    exact this
end
end Go.AV

