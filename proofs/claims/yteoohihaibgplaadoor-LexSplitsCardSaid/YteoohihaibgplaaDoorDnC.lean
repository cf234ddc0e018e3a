/-
  Typed states: calls.
-/
import Derived.Test.YteoohihaibgplaaDoorDnQ
namespace Go.AV
open Go.RowKit Go.RG Go.Lib
variable {K : Nat → Type}
section
variable {P : Program} {C : Cx K} {R : List (HO K) → Hp → Nat → Prop} {ts ts1 : TS K} {χ : Nat → Nat → Bool} {ds : DS} {B : Base} [GB P B] {N : Nat} {ro : Option Nat}

theorem inV_ok (hC : CxOk P C) (t : Nat) (x : K t) : TR P C ts χ (inV C t x) (eV C t x) ∧ (eV C t x).noL = true ∧ dwk (eV C t x) = eV C t x := by
  obtain ⟨c1, c2⟩ := hC.c t x ts χ
  have hno := (C.E t).no x
  have hdw := hC.dw t x
  unfold inV eV
  cases hg : (C.T t).g with
  | true => exact ⟨.agg _ _ c1 c2, hno, by simp only [dwk, hdw]⟩
  | false =>
    have hl := (C.E t).len x
    rw [hC.g t hg] at hl
    cases he : (C.E t).c x with
    | nil => rw [he] at hl; cases hl
    | cons a r =>
      cases r with
      | cons b r => rw [he] at hl; simp at hl
      | nil =>
        rw [he] at c1 c2 hno hdw
        simp only [noLs, Bool.and_true] at hno
        simp only [dwks, List.cons.injEq, and_true] at hdw
        cases hc : (C.T t).c x with
        | nil => rw [hc] at c1; simp at c1
        | cons u r => cases r with
          | cons b r => rw [hc] at c1; simp at c1
          | nil => rw [hc] at c2; exact ⟨c2 0 u a rfl rfl, hno, hdw⟩
mutual
theorem tAV_ok : ∀ (u : TV K) (v : AV), norefV u = true → TR P C ts χ u v → dwk v = tAV C u
  | .un, v, h, _ => by simp [norefV] at h
  | .lb b, v, _, t => by rw [t.lbi]; rfl
  | .bl b, v, _, t => by rw [t.bli]; rfl
  | .li k n, v, _, t => by rw [t.int (k := k) (n := n) rfl]; rfl
  | .it k n, v, _, t => by rw [t.int (k := k) (n := n) rfl]; rfl
  | .st s, v, _, t => by rw [t.str]; rfl
  | .agg us, v, h, t => by
    obtain ⟨vs, rfl, a, b⟩ := t.agg'
    simp only [norefV] at h
    simp only [dwk, tAV, tAVs_ok us vs h ⟨a, b⟩]
  | .tup us, v, h, t => by
    obtain ⟨vs, rfl, a, b⟩ := t.tup'
    simp only [norefV] at h
    simp only [dwk, tAV, tAVs_ok us vs h ⟨a, b⟩]
  | .nil, v, _, t => by cases t; rfl
  | .em, v, _, t => by cases t; rfl
  | .sl e l, v, _, t => by
    obtain ⟨z, xs, hx, rfl⟩ := t.sli
    simp only [dwk, hx, tAV, slA]
  | .rw s c, v, h, _ => by simp [norefV] at h
  | .px s c o, v, h, _ => by simp [norefV] at h
  | .pr e s c i o, v, h, _ => by simp [norefV] at h
  | .ep e l i o, v, _, t => by
    obtain ⟨xs, hx, rfl⟩ := t.epi
    simp only [dwk, hx, tAV]
  | .gs l i, v, _, t => by
    obtain ⟨xs, hx, rfl⟩ := t.gsi
    simp only [dwk, hx, tAV]
  | .nptr, v, _, t => by cases t; rfl
  | .fn f a c, v, h, t => by
    simp only [norefV, Bool.and_eq_true] at h
    cases t with
    | fn _ _ _ a' c' ha hc h1 h2 => simp only [dwk, tAV, tAVs_ok a a' h.1 ⟨ha, h1⟩, tAVs_ok c c' h.2 ⟨hc, h2⟩]
  | .fv ps rs F, v, _, t => by cases t with | fv _ _ _ _ h hv => exact hv
  | .cn id v', v, h, _ => by simp [norefV] at h
theorem tAVs_ok : ∀ (us : List (TV K)) (vs : List AV), norefVs us = true → TL P C ts χ us vs → dwks vs = tAVs C us
  | [], vs, _, t => by
    have : vs = [] := List.eq_nil_of_length_eq_zero t.1
    subst this; rfl
  | u :: us, vs, h, t => by
    cases vs with
    | nil => simp [TL] at t
    | cons v vs =>
      simp only [norefVs, Bool.and_eq_true] at h
      simp only [dwks, tAVs, tAV_ok u v h.1 t.head.1, tAVs_ok us vs h.2 t.head.2]
end
theorem out1_ok (hC : CxOk P C) {pd : PD} {u : TV K} {v : AV} {x : AD K} (h : out1 C pd u = some x) (hv : TR P C ts χ u v) : v.noL = true ∧ dwk v = penc C pd x ∧ ∃ y, x = .d y := by
  cases pd with
  | v t =>
    simp only [out1] at h
    split at h
    · rename_i y e
      cases h
      obtain ⟨a1, a2, _⟩ := outV_ok hC e hv
      exact ⟨a2, a1, _, rfl⟩
    · cases h
  | p t =>
    simp only [out1] at h
    split at h
    · rename_i e x' eu
      split at h
      · rename_i he
        subst he
        cases h
        have := hv.s
        rw [eu] at this
        obtain ⟨xs, hx, rfl⟩ := this.epi
        refine ⟨rfl, ?_, _, rfl⟩
        simp only [dwk, hx, penc, dif_pos, cl, List.flatMap_cons, List.flatMap_nil, List.append_nil]
        simp
      · cases h
    · cases h
  | f ps rs => simp only [out1] at h; cases h
theorem outD_ok (hC : CxOk P C) : ∀ (ps : List PD) (us : List (TV K)) (vs : List AV) (xs : List (AD K)), outD C ps us = some xs → TL P C ts χ us vs → noLs vs = true ∧ dwks vs = pencs C ps xs ∧ xs.length = ps.length ∧ (∀ x ∈ xs, ∃ y, x = .d y)
  | [], [], vs, xs, h, t => by
    cases h
    have : vs = [] := List.eq_nil_of_length_eq_zero t.1
    subst this; exact ⟨rfl, rfl, rfl, fun x hx => by cases hx⟩
  | p :: ps, u :: us, vs, xs, h, t => by
    cases vs with
    | nil => simp [TL] at t
    | cons v vs =>
      simp only [outD] at h
      split at h
      · rename_i x r h1 h2
        cases h
        obtain ⟨a1, a2, a3⟩ := out1_ok hC h1 t.head.1
        obtain ⟨b1, b2, b3, b4⟩ := outD_ok hC ps us vs r h2 t.head.2
        refine ⟨by simp [noLs, a1, b1], by simp only [dwks, pencs, a2, b2], by simp [b3], fun x hx => ?_⟩
        rcases List.mem_cons.1 hx with rfl | hx
        · exact a3
        · exact b4 x hx
      · cases h
  | [], _ :: _, _, _, h, _ => by simp [outD] at h
  | _ :: _, [], _, _, h, _ => by simp [outD] at h
theorem pencs_app (C : Cx K) : ∀ (ps qs : List PD) (xs ys : List (AD K)), xs.length = ps.length → pencs C (ps ++ qs) (xs ++ ys) = pencs C ps xs ++ pencs C qs ys
  | [], qs, xs, ys, h => by
    have : xs = [] := List.eq_nil_of_length_eq_zero h
    subst this; rfl
  | p :: ps, qs, xs, ys, h => by
    cases xs with
    | nil => simp at h
    | cons x xs => simp only [List.cons_append, pencs]; rw [pencs_app C ps qs xs ys (by simpa using h)]
theorem pencs_v (C : Cx K) : ∀ (ps : List PD) (e : List (DV K)), allV ps = true → e.length = ps.length → pencs C ps (e.map .d) = e.map (dvA C)
  | [], [], _, _ => rfl
  | [], _ :: _, _, h => by simp at h
  | p :: ps, [], _, h => by simp at h
  | p :: ps, y :: e, h, hl => by
    cases p with
    | v t => simp only [List.map_cons, pencs]; rw [pencs_v C ps e h (by simpa using hl)]; rfl
    | p t => cases h
    | f a b => cases h
/-- the functions that are called do as they are told -/
def SsOk (P : Program) (C : Cx K) (Φ : List (Sp K)) : Prop := ∀ sp ∈ Φ, SpOk P C sp
theorem lkS_ok {Φ : List (Sp K)} {f : Nat} {sp : Sp K} (h : lkS Φ f = some sp) : sp ∈ Φ ∧ sp.f = f := by
  induction Φ with
  | nil => cases h
  | cons q Φ ih =>
    simp only [lkS] at h
    split at h
    · rename_i e; cases h; exact ⟨List.mem_cons_self, nbeq.1 e⟩
    · exact ⟨List.mem_cons_of_mem _ (ih h).1, (ih h).2⟩
theorem outA1_ok (hC : CxOk P C) {Φ : List (Sp K)} (hS : SsOk P C Φ) {pd : PD} {u : TV K} {v : AV} {x : AD K} (h : outA1 C Φ pd u = some x) (hv : TR P C ts χ u v) : v.noL = true ∧ dwk v = penc C pd x ∧ ∀ F, x = .f F → FOk P C F := by
  have data : out1 C pd u = some x → v.noL = true ∧ dwk v = penc C pd x ∧ ∀ F, x = .f F → FOk P C F := by
    intro h
    obtain ⟨a, b, y, rfl⟩ := out1_ok hC h hv
    exact ⟨a, b, fun F e => by cases e⟩
  cases pd with
  | v t => exact data h
  | p t => exact data h
  | f ps rs =>
    simp only [outA1] at h
    have hs := hv.s
    split at h
    · rename_i ps' rs' F e
      cases h
      rw [e] at hs
      cases hs with
      | fv _ _ _ _ hF hv' => exact ⟨by rw [← dwk_noL, hv']; exact hF.1, hv', fun F' e => by cases e; exact hF⟩
    · rename_i f a c e
      rw [e] at hs
      split at h
      · rename_i sp hsp
        obtain ⟨hmem, hf⟩ := lkS_ok hsp
        split at h
        · rename_i xa xc ho
          split at h
          · rename_i hall
            cases h
            simp only [Bool.and_eq_true] at hall
            obtain ⟨⟨hall, hna⟩, hnc⟩ := hall
            unfold outFn at ho
            split at ho
            · rename_i xa' xc' h1 h2
              cases ho
              cases hs with
              | fn _ _ _ a' c' ha hc t1 t2 =>
                have ta : TL P C ts χ a a' := ⟨ha, t1⟩
                have tc : TL P C ts χ c c' := ⟨hc, t2⟩
                obtain ⟨p1, p2, p3, p4⟩ := outD_ok hC _ a a' xa h1 ta
                obtain ⟨q1, q2, q3, q4⟩ := outD_ok hC _ c c' xc h2 tc
                have ea := tAVs_ok a a' hna ta
                have ec := tAVs_ok c c' hnc tc
                have hdv : dwk (.fn (.func f) a' c') = .fn (.func f) (tAVs C a) (tAVs C c) := by simp only [dwk, ea, ec]
                refine ⟨by simp [AV.noL, p1, q1], hdv, fun F e => ?_⟩
                cases e
                refine ⟨?_, ?_, rfl, f, tAVs C a, tAVs C c, rfl, fun en r hW => ?_⟩
                · rw [← hdv, dwk_noL]; simp [AV.noL, p1, q1]
                · rw [← hdv, dwk_idem]
                · simp only at hW
                  split at hW
                  · rename_i hlen
                    have hlen := nbeq.1 hlen
                    obtain ⟨hl, hP⟩ := hS sp hmem _ _ (fun F hF => by
                      rcases List.mem_append.1 hF with hF | hF
                      · rcases List.mem_append.1 hF with hF | hF
                        · obtain ⟨y, hy⟩ := p4 _ hF; cases hy
                        · obtain ⟨y, _, hy⟩ := List.mem_map.1 hF; cases hy
                      · obtain ⟨y, hy⟩ := q4 _ hF; cases hy) hW
                    rw [hf] at hP
                    have hps : sp.ps = sp.ps.take a.length ++ ((sp.ps.drop a.length).take ps.length ++ sp.ps.drop (a.length + ps.length)) := by
                      rw [← List.drop_drop, List.take_append_drop, List.take_append_drop]
                    simp only [List.length_append, List.length_map] at hl
                    have hal : (sp.ps.take a.length).length = xa.length := p3.symm
                    have hml : ((sp.ps.drop a.length).take ps.length).length = ps.length := by
                      rw [q3, p3] at hl
                      simp only [List.length_take, List.length_drop] at hl ⊢
                      omega
                    rw [hps, List.append_assoc, pencs_app C _ _ _ _ p3, pencs_app C _ _ _ _ (by simp [hlen, hml]), ← p2, ← q2, ea, ec, pencs_v C _ _ hall (by rw [hml, hlen]), ← List.append_assoc] at hP
                    exact hP
                  · exact hW.elim
            · cases ho
          · cases h
        · cases h
      · cases h
    · cases h
theorem outA_ok (hC : CxOk P C) {Φ : List (Sp K)} (hS : SsOk P C Φ) : ∀ (ps : List PD) (us : List (TV K)) (vs : List AV) (xs : List (AD K)), outA C Φ ps us = some xs → TL P C ts χ us vs → noLs vs = true ∧ dwks vs = pencs C ps xs ∧ ∀ F, AD.f F ∈ xs → FOk P C F
  | [], [], vs, xs, h, t => by
    cases h
    have : vs = [] := List.eq_nil_of_length_eq_zero t.1
    subst this; exact ⟨rfl, rfl, fun F hF => by cases hF⟩
  | p :: ps, u :: us, vs, xs, h, t => by
    cases vs with
    | nil => simp [TL] at t
    | cons v vs =>
      simp only [outA] at h
      split at h
      · rename_i x r h1 h2
        cases h
        obtain ⟨a1, a2, a3⟩ := outA1_ok hC hS h1 t.head.1
        obtain ⟨b1, b2, b3⟩ := outA_ok hC hS ps us vs r h2 t.head.2
        refine ⟨by simp [noLs, a1, b1], by simp only [dwks, pencs, a2, b2], fun F hF => ?_⟩
        rcases List.mem_cons.1 hF with e | hF
        · exact a3 F e.symm
        · exact b3 F hF
      · cases h
  | [], _ :: _, _, _, h, _ => by simp [outA] at h
  | _ :: _, [], _, _, h, _ => by simp [outA] at h
/-! ### rows are handed over -/
/-- places are only forgotten -/
structure Kil (ts ts' : TS K) (χ χ' : Nat → Nat → Bool) : Prop where
  m : Mono ts ts' χ χ'
  d : ∀ s c, tln (ts.tb s c) = none → χ s c = false → tln (ts'.tb s c) = none ∧ χ' s c = false
theorem Kil.refl {ts : TS K} {χ : Nat → Nat → Bool} : Kil ts ts χ χ := ⟨.refl, fun _ _ a b => ⟨a, b⟩⟩
theorem Kil.trans {ts ts' ts'' : TS K} {χ χ' χ'' : Nat → Nat → Bool} (h : Kil ts ts' χ χ') (k : Kil ts' ts'' χ' χ'') : Kil ts ts'' χ χ'' := ⟨h.m.trans k.m k.d, fun s c a b => k.d s c (h.d s c a b).1 (h.d s c a b).2⟩
theorem Kil.one {ts : TS K} {χ : Nat → Nat → Bool} {s c : Nat} (hc : c = 1 ∨ c = 2) : Kil ts (ts.setb s c none) χ (updχ χ s c false) := by
  refine ⟨Mono.setb hc (fun _ => .inl ⟨rfl, rfl⟩), fun s' c' a b => ?_⟩
  rw [setb_tb ts s c none hc]
  unfold updχ
  by_cases e : s' = s ∧ c' = c
  · rw [if_pos e, if_pos e]; exact ⟨rfl, rfl⟩
  · rw [if_neg e, if_neg e]; exact ⟨a, b⟩
theorem outA_noL (hC : CxOk P C) {Φ : List (Sp K)} (hS : SsOk P C Φ) : ∀ (ps : List PD) (us : List (TV K)) (xs : List (AD K)), outA C Φ ps us = some xs → ∀ u ∈ us, ∀ (ts : TS K) (χ : Nat → Nat → Bool) (v : AV), TR P C ts χ u v → v.noL = true
  | [], [], _, _, u, hu, _, _, _, _ => by cases hu
  | p :: ps, w :: us, xs, h, u, hu, ts, χ, v, hv => by
    simp only [outA] at h
    split at h
    · rename_i x r h1 h2
      rcases List.mem_cons.1 hu with rfl | hu
      · exact (outA1_ok hC hS h1 hv).1
      · exact outA_noL hC hS ps us r h2 u hu ts χ v hv
    · cases h
  | [], _ :: _, _, h, _, _, _, _, _, _ => by simp [outA] at h
  | _ :: _, [], _, h, _, _, _, _, _, _ => by simp [outA] at h
theorem outD_noL (hC : CxOk P C) : ∀ (ps : List PD) (us : List (TV K)) (xs : List (AD K)), outD C ps us = some xs → ∀ u ∈ us, ∀ (ts : TS K) (χ : Nat → Nat → Bool) (v : AV), TR P C ts χ u v → v.noL = true
  | [], [], _, _, u, hu, _, _, _, _ => by cases hu
  | p :: ps, w :: us, xs, h, u, hu, ts, χ, v, hv => by
    simp only [outD] at h
    split at h
    · rename_i x r h1 h2
      rcases List.mem_cons.1 hu with rfl | hu
      · exact (out1_ok hC h1 hv).1
      · exact outD_noL hC ps us r h2 u hu ts χ v hv
    · cases h
  | [], _ :: _, _, h, _, _, _, _, _, _ => by simp [outD] at h
  | _ :: _, [], _, h, _, _, _, _, _, _ => by simp [outD] at h
theorem tpubs_ok (hC : CxOk P C) : ∀ (us : List (TV K)) (vs : List AV) (ts : TS K) (χ : Nat → Nat → Bool) (ds : DS) (ws : List (TV K)) (ts' : TS K), DOk ds → GM P C R ts χ ds → TL P C ts χ us vs → tpubs C ts us = some (ws, ts') → (∀ w ∈ ws, ∀ (ts : TS K) (χ : Nat → Nat → Bool) (v : AV), TR P C ts χ w v → v.noL = true) →
    ∃ vs' kl ds1 χ', pubLD vs ds = some (vs', kl, ds1) ∧ noLs vs' = true ∧ TL P C ts' χ' ws vs' ∧ GM P C R ts' χ' ds1 ∧ DOk ds1 ∧ ts'.rg = ts.rg ∧ Kil ts ts' χ χ' ∧ (∀ k ∈ kl, ∃ u ∈ us, u.s = .rw k.1 k.2)
  | [], vs, ts, χ, ds, ws, ts', hk, hγ, t, h, hn => by
    cases h
    have : vs = [] := List.eq_nil_of_length_eq_zero t.1
    subst this
    exact ⟨[], [], ds, χ, rfl, rfl, .nil, hγ, hk, rfl, .refl, fun k hk => by cases hk⟩
  | u :: us, vs, ts, χ, ds, ws, ts', hk, hγ, t, h, hn => by
    cases vs with
    | nil => simp [TL] at t
    | cons v vs =>
      -- what is no own row
      have quiet : ∀ {ws2 : List (TV K)}, tpubs C ts us = some (ws2, ts') → ws = u :: ws2 → ∃ vs' kl ds1 χ', pubLD (v :: vs) ds = some (vs', kl, ds1) ∧ noLs vs' = true ∧ TL P C ts' χ' ws vs' ∧ GM P C R ts' χ' ds1 ∧ DOk ds1 ∧ ts'.rg = ts.rg ∧ Kil ts ts' χ χ' ∧ (∀ k ∈ kl, ∃ u' ∈ u :: us, u'.s = .rw k.1 k.2) := by
        intro ws2 h2 e
        subst e
        have hv : v.noL = true := hn u List.mem_cons_self ts χ v t.head.1
        obtain ⟨vs', kl, ds1, χ', a1, a2, a3, a4, a5, a6, a7, a8⟩ := tpubs_ok hC us vs ts χ ds ws2 ts' hk hγ t.head.2 h2 (fun w hw => hn w (List.mem_cons_of_mem _ hw))
        refine ⟨v :: vs', kl, ds1, χ', ?_, by simp [noLs, hv, a2], .cons (t.head.1.mono a7.m) a3, a4, a5, a6, a7, fun k hk => ?_⟩
        · simp only [pubLD, hv, a1]
        · obtain ⟨u', h1, h2⟩ := a8 k hk; exact ⟨u', List.mem_cons_of_mem _ h1, h2⟩
      simp only [tpubs] at h
      split at h
      · rename_i s c eu
        split at h
        · rename_i l hl
          split at h
          · rename_i ws2 ts2 h2
            cases h
            have hs := t.head.1.s
            rw [eu] at hs
            obtain ⟨g1, g2, g3⟩ := hγ.trow hC hl
            have hcc : c = 1 ∨ c = 2 := (tln_ok g1).imp id (·.1)
            rcases hs.rwi g1 with ⟨hχ, rfl⟩ | ⟨hχ, h0, rfl⟩
            · obtain ⟨kb, k1, k2, k3, k4⟩ := g3 hχ
              have hγ1 := hγ.setb (s := s) (c := c) (b := none) (kb := none) hcc (Kil.one hcc).m (fun b' hb' => by cases hb')
              have hk1 : DOk (ds.set s c none) := hk.set hcc (fun x hx => by cases hx)
              obtain ⟨vs', kl, ds1, χ', a1, a2, a3, a4, a5, a6, a7, a8⟩ := tpubs_ok hC us vs (ts.setb s c none) (updχ χ s c false) (ds.set s c none) ws2 ts' hk1 hγ1 (t.head.2.mono (Kil.one hcc).m) h2 (fun w hw => hn w (List.mem_cons_of_mem _ hw))
              refine ⟨.sl false l.length kb.cells :: vs', (s, c) :: kl, ds1, χ', ?_, by simp [noLs, AV.noL, a2], .cons (.sl _ l _ _ _ rfl k4) a3, a4, a5, by rw [a6, setb_rg], (Kil.one hcc).trans a7, fun k hk => ?_⟩
              · have hb : (Nat.beq kb.cells.length (l.length * kb.sz) && noLs kb.cells) = true := by
                  rw [Bool.and_eq_true]
                  exact ⟨nbeq.2 (by rw [k3, ← dwks_len kb.cells, k4, cl_len]), noLs_of_dwks k4⟩
                simp only [pubLD, AV.noL, k1, hb, a1]
              · rcases List.mem_cons.1 hk with rfl | hk
                · exact ⟨u, List.mem_cons_self, eu⟩
                · obtain ⟨u', h1, h2⟩ := a8 k hk; exact ⟨u', List.mem_cons_of_mem _ h1, h2⟩
            · have hnil := g2 hχ
              have hγ1 := hγ.kill (s := s) (c := c) hcc
              obtain ⟨vs', kl, ds1, χ', a1, a2, a3, a4, a5, a6, a7, a8⟩ := tpubs_ok hC us vs (ts.setb s c none) (updχ χ s c false) ds ws2 ts' hk hγ1 (t.head.2.mono (Kil.one hcc).m) h2 (fun w hw => hn w (List.mem_cons_of_mem _ hw))
              refine ⟨.sl true 0 [] :: vs', kl, ds1, χ', ?_, by simp [noLs, AV.noL, a2], .cons (by rw [hnil]; exact .sl _ [] _ _ _ rfl rfl) a3, a4, a5, by rw [a6, setb_rg], (Kil.one hcc).trans a7, fun k hk => ?_⟩
              · simp only [pubLD, AV.noL, a1]
              · obtain ⟨u', h1, h2⟩ := a8 k hk; exact ⟨u', List.mem_cons_of_mem _ h1, h2⟩
          · cases h
        · cases h
      · rename_i hne
        split at h
        · rename_i ws2 ts2 h2
          cases h
          exact quiet h2 rfl
        · cases h
theorem exR_ok (hC : CxOk P C) : ∀ (rs : List Nat) (p : List (DV K) → List (TV K) → Prop), exR C rs p → ∃ r us, p r us ∧ noLs (r.map (dvA C)) = true ∧ ∀ (ts : TS K) (χ : Nat → Nat → Bool), TL P C ts χ us (r.map (dvA C))
  | [], p, h => ⟨[], [], h, rfl, fun _ _ => .nil⟩
  | t :: rs, p, h => by
    obtain ⟨z, h⟩ := h
    obtain ⟨r, us, h1, h2, h3⟩ := exR_ok hC rs _ h
    exact ⟨.v t z :: r, inV C t z :: us, h1, by simp only [List.map_cons, noLs, h2, Bool.and_true]; exact (inV_ok (P := P) (ts := ⟨[], [], [], [], []⟩) (χ := fun _ _ => false) hC t z).2.1, fun ts χ => .cons (inV_ok hC t z).1 (h3 ts χ)⟩
theorem tres_ok {us : List (TV K)} {vs : List AV} (h : TL P C ts χ us vs) : TR P C ts χ (tres us) (tresA vs) := by
  match us, vs, h with
  | [], [], h => exact .tup _ _ rfl (fun j u v h => by simp at h)
  | [u], [v], h => exact h.head.1
  | u :: u' :: us, v :: v' :: vs, h => exact .tup _ _ h.1 h.2
  | [], _ :: _, h => simp [TL] at h
  | _ :: _, [], h => simp [TL] at h
  | [_], _ :: _ :: _, h => simp [TL] at h
  | _ :: _ :: _, [_], h => simp [TL] at h
theorem CallsO_pureD {f : FuncId} {vs vs' : List AV} {S : St} {S1 : St} {v : AV} {k : AV → St → Prop} (hp : pubL vs S = (vs', S1)) (hn : noLs vs' = true) (hF : Pure P f (dwks vs') v) (h : k v S1) : CallsO P (.f f) vs S k := by
  unfold CallsO
  rw [hp]
  refine ⟨hn, (Contract.dwkA (hF S1.hp S1.nx)).mono ?_⟩
  rintro av H' n' ⟨rfl, rfl, rfl⟩
  rw [withH_self]
  exact h
theorem pubLD_pre : ∀ (a : List AV) {vs vs' : List AV} {ds d1 : DS} {kl : List (Nat × Nat)}, noLs a = true → pubLD vs ds = some (vs', kl, d1) → pubLD (a ++ vs) ds = some (a ++ vs', kl, d1)
  | [], _, _, _, _, _, _, h => h
  | x :: a, vs, vs', ds, d1, kl, hn, h => by
    simp only [noLs, Bool.and_eq_true] at hn
    simp only [List.cons_append, pubLD, hn.1, pubLD_pre a hn.2 h]
theorem pubLD_noL : ∀ (a : List AV) (ds : DS), noLs a = true → pubLD a ds = some (a, [], ds)
  | [], _, _ => rfl
  | x :: a, ds, hn => by
    simp only [noLs, Bool.and_eq_true] at hn
    simp only [pubLD, hn.1, pubLD_noL a ds hn.2]
theorem pubLD_post : ∀ (vs : List AV) {c vs' : List AV} {ds d1 : DS} {kl : List (Nat × Nat)}, noLs c = true → pubLD vs ds = some (vs', kl, d1) → pubLD (vs ++ c) ds = some (vs' ++ c, kl, d1)
  | [], c, vs', ds, d1, kl, hn, h => by cases h; exact pubLD_noL c _ hn
  | x :: vs, c, vs', ds, d1, kl, hn, h => by
    simp only [List.cons_append, pubLD] at h ⊢
    split at h
    · split at h
      · rename_i h1; cases h; simp only [pubLD_post vs hn h1, List.cons_append]
      · cases h
    · split at h
      · split at h
        · split at h
          · split at h
            · rename_i hkb _ hb _ _ _ _ h1; cases h; simp only [pubLD_post vs hn h1, hb, hkb, List.cons_append]
            · cases h
          · cases h
        · cases h
      · cases h
theorem noLs_app {a b : List AV} : noLs (a ++ b) = (noLs a && noLs b) := by
  induction a with
  | nil => rfl
  | cons x a ih => simp only [List.cons_append, noLs, ih, Bool.and_assoc]
/-- what a call comes to -/
structure CallR (P : Program) (o : AO) (ds : DS) (f : FuncId) (vs vs' : List AV) (kl : List (Nat × Nat)) (d1 : DS) (v : AV) : Prop where
  ho : CalO o ds f vs
  nl : noLs vs' = true
  pure : Pure P f (dwks vs') v
  way : pubLD vs ds = some (vs', kl, d1) ∨ (kl = [] ∧ d1 = ds ∧ vs' = vs.map (vwV (toD ds).M) ∧ v.flat = true)
theorem vw1_id {M : Key → Option Blk} {v : AV} (h : v.noL = true) : vw1 M v = v := by
  unfold vw1
  split
  · simp [AV.noL] at h
  · rfl
theorem vt1_ok (hC : CxOk P C) (hγ : GM P C R ts χ ds) (hk : DOk ds) {u : TV K} {v : AV} (h : TR P C ts χ u v) : TR P C ts χ (vt1 C ts u) (vw1 (toD ds).M v) := by
  unfold vt1
  split
  · rename_i s c eu
    split
    · rename_i l hl
      have hs := h.s
      rw [eu] at hs
      obtain ⟨g1, g2, g3⟩ := hγ.trow hC hl
      rcases hs.rwi g1 with ⟨hχ, rfl⟩ | ⟨hχ, h0, rfl⟩
      · obtain ⟨kb, k1, k2, k3, k4⟩ := g3 hχ
        have hm : (toD ds).M (.l s c) = some kb.blk := by show (ds.kb s c).map KB.blk = _; rw [k1]; rfl
        have hcond : kb.blk.cells.length = l.length * kb.blk.sz ∧ kb.blk.sz ≠ 0 ∧ noLs kb.blk.cells = true :=
          ⟨by show kb.cells.length = _ * kb.sz; rw [k3, ← dwks_len kb.cells, k4, cl_len], (hk s c kb k1).1, noLs_of_dwks k4⟩
        simp only [vw1, hm]
        rw [if_pos hcond]
        exact .sl _ l _ _ _ rfl k4
      · have := g2 hχ
        rw [this]
        exact .sl _ [] _ _ _ rfl rfl
    · exact .un _
  · rename_i hne
    have hv : vw1 (toD ds).M v = v ∨ u.s = .un := by
      have hs := h.s
      revert hs hne
      generalize u.s = w
      intro hne hs
      cases hs with
      | rwd s c v _ _ _ => exact absurd rfl (hne s c)
      | rw s c n _ _ _ => exact absurd rfl (hne s c)
      | rwn s c _ _ _ => exact absurd rfl (hne s c)
      | un v => exact .inr rfl
      | fv ps rs F v hF hv' =>
        left
        obtain ⟨g1, _⟩ := hF
        exact vw1_id (by rw [← dwk_noL, hv']; exact g1)
      | cn id w v hl hn hv' => exact .inl (vw1_id (hv'.noref hn (ts' := ts) (χ' := χ)).2)
      | _ => exact .inl rfl
    rcases hv with e | e
    · rw [e]; exact h
    · cases u with
      | un => exact .un _
      | cn id w =>
        cases h with
        | cn _ _ _ hl hn hv' =>
          simp only [TV.s] at e
          subst e
          simp [norefV] at hn
      | _ => cases e
theorem vtV_ok (hC : CxOk P C) (hγ : GM P C R ts χ ds) (hk : DOk ds) {u : TV K} {v : AV} (h : TR P C ts χ u v) : TR P C ts χ (vtV C ts u) (vwV (toD ds).M v) := by
  unfold vtV
  split
  · rename_i cs eu
    have hs := h.s
    rw [eu] at hs
    obtain ⟨vs, rfl, hl, hc⟩ := hs.agg'
    refine .agg _ _ (by simpa using hl) fun j u' v' p q => ?_
    rw [List.getElem?_map] at p q
    obtain ⟨x, h1, rfl⟩ := Option.map_eq_some_iff.1 p
    obtain ⟨y, h2, rfl⟩ := Option.map_eq_some_iff.1 q
    exact vt1_ok hC hγ hk (hc j x y h1 h2)
  · rename_i hne
    have h1 := vt1_ok hC hγ hk h
    cases v with
    | agg cs =>
      have hs := h.s
      revert hs
      cases hw : u.s with
      | agg us => exact absurd hw (hne us)
      | un =>
        intro _
        have : vt1 C ts u = u := by unfold vt1; rw [hw]
        rw [this]
        cases u with
        | un => exact .un _
        | cn id w =>
          cases h with
          | cn _ _ _ hl hn hv' => simp only [TV.s] at hw; subst hw; simp [norefV] at hn
        | _ => cases hw
      | rw s c =>
        intro hs
        cases hs with
        | rwd _ _ _ _ _ h0 => cases h0
      | fv ps rs F =>
        intro hs
        cases hs with
        | fv _ _ _ _ hF hv' =>
          obtain ⟨_, _, _, f, a, c, e, _⟩ := hF
          rw [e] at hv'; simp [dwk] at hv'
      | cn id w =>
        intro _
        cases u with
        | cn id' w' =>
          cases h with
          | cn _ _ _ hl hn hv' => simp only [TV.s] at hw; subst hw; simp [norefV] at hn
        | _ => cases hw
      | _ => intro hs; cases hs
    | _ => exact h1
theorem vtL_ok (hC : CxOk P C) (hγ : GM P C R ts χ ds) (hk : DOk ds) {us : List (TV K)} {vs : List AV} (h : TL P C ts χ us vs) : TL P C ts χ (us.map (vtV C ts)) (vs.map (vwV (toD ds).M)) := by
  refine ⟨by simpa using h.1, fun j u v p q => ?_⟩
  rw [List.getElem?_map] at p q
  obtain ⟨x, h1, rfl⟩ := Option.map_eq_some_iff.1 p
  obtain ⟨y, h2, rfl⟩ := Option.map_eq_some_iff.1 q
  exact vtV_ok hC hγ hk (h.2 j x y h1 h2)
theorem eV_flat (hC : CxOk P C) {t : Nat} (h : (C.T t).fl = true) (x : K t) : (eV C t x).flat = true := by
  have := hC.fl t h x
  unfold eV
  split
  · exact this
  · rename_i hg
    have h1 := hC.g t hg
    have h2 := (C.E t).len x
    rw [h1] at h2
    obtain ⟨v, hv⟩ := List.length_eq_one_iff.1 h2
    rw [hv] at this ⊢
    simp only [flats, Bool.and_true] at this
    exact this
theorem exR_flat (hC : CxOk P C) : ∀ (rs : List Nat) (p : List (DV K) → List (TV K) → Prop), rs.all (fun t => (C.T t).fl) = true → exR C rs p → ∃ r us, p r us ∧ noLs (r.map (dvA C)) = true ∧ (∀ (ts : TS K) (χ : Nat → Nat → Bool), TL P C ts χ us (r.map (dvA C))) ∧ flats (r.map (dvA C)) = true
  | [], p, _, h => ⟨[], [], h, rfl, fun _ _ => .nil, rfl⟩
  | t :: rs, p, hf, h => by
    obtain ⟨z, h⟩ := h
    simp only [List.all_cons, Bool.and_eq_true] at hf
    obtain ⟨r, us, h1, h2, h3, h4⟩ := exR_flat hC rs _ hf.2 h
    obtain ⟨q1, q2, q3⟩ := inV_ok (P := P) (ts := ⟨[], [], [], [], []⟩) (χ := fun _ _ => false) hC t z
    refine ⟨.v t z :: r, inV C t z :: us, h1, by simp [noLs, dvA, q2, h2], fun ts χ => .cons (inV_ok (P := P) (ts := ts) (χ := χ) hC t z).1 (h3 ts χ), ?_⟩
    simp only [List.map_cons, flats, dvA, eV_flat hC hf.1 z, h4, Bool.and_true]
theorem tresA_flat : ∀ {vs : List AV}, flats vs = true → (tresA vs).flat = true
  | [], _ => rfl
  | [v], h => by simpa [flats, tresA] using h
  | v :: w :: vs, h => h
theorem tcall_ok (hC : CxOk P C) {Φ : List (Sp K)} (hS : SsOk P C Φ) (hγ : GM P C R ts χ ds) (hk : DOk ds) {o : AO} {f : Nat} {us : List (TV K)} {vs : List AV} {X : TS K → Prop} (ht : TL P C ts χ us vs) (ho : CalO o ds f vs) (h : tcall C Φ ts o.dst f us X) :
    ∃ vs' kl d1 v ts' χ', CallR P o ds f vs vs' kl d1 v ∧ GM P C R ts' χ' (d1.put o.dst v) ∧ DOk d1 ∧ X ts' ∧ ts'.rg = ts.rg ∧ (flS C Φ f = true → kl = []) ∧ (∀ k ∈ kl, ∃ u ∈ us, u.s = .rw k.1 k.2) := by
  unfold tcall at h
  split at h
  rotate_left
  · exact h.elim
  rename_i sp h1
  obtain ⟨hmem, hf⟩ := lkS_ok h1
  split at h
  · rename_i hfl
    split at h
    · rename_i env he
      have tv := vtL_ok hC hγ hk ht
      obtain ⟨b1, b2, b3⟩ := outA_ok hC hS _ _ _ _ he tv
      obtain ⟨r, rs, ⟨hW, hX⟩, n1, n2, n3⟩ := exR_flat (P := P) hC _ _ hfl h
      obtain ⟨_, hP⟩ := hS sp hmem env r b3 hW
      rw [hf] at hP
      exact ⟨vs.map (vwV (toD ds).M), [], ds, tresA (r.map (dvA C)), _, χ, ⟨ho, b1, by rw [b2]; exact hP, .inr ⟨rfl, rfl, rfl, tresA_flat n3⟩⟩, hγ.put (tres_ok (n2 _ _)), hk, hX, by rw [put_rg], fun _ => rfl, fun k hk => by cases hk⟩
    · exact h.elim
  · rename_i hfl
    split at h
    rotate_left
    · exact h.elim
    rename_i ws ts2 h2
    split at h
    · rename_i env he
      obtain ⟨vs', kl, ds1, χ', a1, a2, a3, a4, a5, a6, a7, a8⟩ := tpubs_ok hC us vs ts χ ds ws ts2 hk hγ ht h2 (outA_noL hC hS _ _ _ he)
      obtain ⟨b1, b2, b3⟩ := outA_ok hC hS _ _ _ _ he a3
      obtain ⟨r, rs, ⟨hW, hX⟩, n1, n2⟩ := exR_ok (P := P) hC _ _ h
      obtain ⟨_, hP⟩ := hS sp hmem env r b3 hW
      rw [hf] at hP
      exact ⟨vs', kl, ds1, tresA (r.map (dvA C)), _, χ', ⟨ho, a2, by rw [b2]; exact hP, .inl a1⟩, a4.put (tres_ok (n2 _ _)), a5, hX, by rw [put_rg]; exact a6, fun hq => (by unfold flS at hq; rw [h1] at hq; simp only at hq; rw [hfl] at hq; cases hq), a8⟩
    · exact h.elim
theorem tcalv_ok (hC : CxOk P C) (hγ : GM P C R ts χ ds) (hk : DOk ds) {o : AO} {F : FV K} (hF : FOk P C F) {ps rs : List Nat} {x : AOpd} {args : List AOpd} {v : AV} (hop : o.op = .calv x args) (hx : ev (lkF ds.fr) x = v) (hv : dwk v = F.av) {us : List (TV K)} {X : TS K → Prop} (ht : TL P C ts χ us (args.map (ev (lkF ds.fr)))) (h : tcalv C ts o.dst F ps rs us X) :
    ∃ f vs vs' kl d1 w ts' χ', CallR P o ds f vs vs' kl d1 w ∧ GM P C R ts' χ' (d1.put o.dst w) ∧ DOk d1 ∧ X ts' ∧ ts'.rg = ts.rg ∧ (∀ k ∈ kl, ∃ u ∈ us, u.s = .rw k.1 k.2) := by
  unfold tcalv at h
  split at h
  · rename_i ws ts2 h2
    split at h
    · rename_i env he
      obtain ⟨vs', kl, ds1, χ', a1, a2, a3, a4, a5, a6, a7, a8⟩ := tpubs_ok hC us _ ts χ ds ws ts2 hk hγ ht h2 (outD_noL hC _ _ _ he)
      obtain ⟨b1, b2, b3, b4⟩ := outD_ok hC _ _ _ _ he a3
      obtain ⟨r, rr, ⟨hW, hX⟩, n1, n2⟩ := exR_ok (P := P) hC _ _ h
      obtain ⟨g1, g2, g3, f, a, c, g4, g5⟩ := hF
      have hP := g5 _ _ hW
      rw [g4] at hv
      cases v with
      | fn f' a' c' =>
        simp only [dwk, AV.fn.injEq] at hv
        obtain ⟨rfl, e1, e2⟩ := hv
        have hnl : noLs a' = true ∧ noLs c' = true := by
          rw [g4] at g1
          simp only [AV.noL, Bool.and_eq_true] at g1
          rw [← e1, ← e2, dwks_noL, dwks_noL] at g1
          exact g1
        have henv : (env.filterMap adD).map (dvA C) = dwks vs' := by
          rw [b2]
          clear he h hX hW hP b2 b1
          induction env generalizing ps with
          | nil => cases ps <;> rfl
          | cons y env ih =>
            cases ps with
            | nil => simp at b3
            | cons q ps =>
              obtain ⟨z, rfl⟩ := b4 y List.mem_cons_self
              simp only [List.filterMap_cons, adD, List.map_cons, pencs]
              rw [ih (by simpa using b3) (fun x hx => b4 x (List.mem_cons_of_mem _ hx))]
              rfl
        have hpub := pubLD_pre a' hnl.1 (pubLD_post _ hnl.2 a1)
        refine ⟨f, a' ++ (args.map (ev (lkF ds.fr)) ++ c'), a' ++ (vs' ++ c'), kl, ds1, tresA (r.map (dvA C)), _, χ', ⟨.inr ⟨x, args, a', c', hop, hx, by rw [List.append_assoc]⟩, by simp [noLs_app, hnl, a2], ?_, .inl hpub⟩, a4.put (tres_ok (n2 _ _)), a5, hX, by rw [put_rg]; exact a6, a8⟩
        rw [dwks_app, dwks_app, e1, e2, ← henv, ← List.append_assoc]
        exact hP
      | _ => simp [dwk] at hv
    · exact h.elim
  · exact h.elim
section
variable {L : List AO} {Q : KS → Prop} {i : Nat}
theorem WD_callD {o : AO} {f : FuncId} {vs vs' : List AV} {kl : List (Nat × Nat)} {d1 : DS} {v : AV} (e0 : L[i]? = some o) (hg : gok o.guard ds.fr = true) (h : CallR P o ds f vs vs' kl d1 v) (k : WD P B N ro L (i + 1) Q (d1.put o.dst v)) : WD P B N ro L i Q ds := by
  refine WD_aop (hs := fun _ => false) e0 hg fun hk => ?_
  have fin : CallsA P (.f f) vs (toD ds) fun v S' => ∃ ds', S'.put o.dst v = toD ds' ∧ DOk ds' ∧ WD P B N ro L (i + 1) Q ds' := by
    rcases h.way with hw | ⟨rfl, rfl, rfl, hfl⟩
    · obtain ⟨a1, a2, a3, _⟩ := pubLD_ok vs ds vs' kl d1 hk hw
      exact .inl (CallsO_pureD a1 h.nl h.pure ⟨_, putD_toD d1 o.dst v, a3.put, k⟩)
    · exact .inr (.inl ⟨f, v, rfl, h.nl, fun H n => Contract.dwkA (h.pure H n), hfl, _, putD_toD d1 o.dst v, hk.put, k⟩)
  rcases h.ho with ⟨args, h1, h2⟩ | ⟨x, args, first, cap, h1, h2, h3⟩
  · rw [h1]; simp only [aop]; rw [toD_fr, h2]; exact fin
  · rw [h1]; simp only [aop]; rw [toD_fr, h2]; simp only; rw [h3]; exact fin
end
end
end Go.AV

