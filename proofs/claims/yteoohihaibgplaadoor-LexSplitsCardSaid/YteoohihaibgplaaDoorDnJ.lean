/-
  Typed states: the end of a region; rows made ones for good; where ways meet.
-/
import Derived.Test.YteoohihaibgplaaDoorDnM
namespace Go.AV
open Go.RowKit Go.RG Go.Lib
variable {K : Nat → Type}
section
variable {P : Program} {C : Cx K} {R : List (HO K) → Hp → Nat → Prop} {ts ts1 : TS K} {χ : Nat → Nat → Bool} {ξ : Nat → Bool} {ds : DS} {B : Base} {N : Nat} {ρ : Nat → Option (Nat × Nat)} {p : Nat × Nat → Prop}

theorem rnVs_len (A : Nat → Nat → Option (TV K)) (D : Nat → Nat → Option Nat) (l : List (TV K)) : (rnVs A D l).length = l.length := by
  induction l with
  | nil => rfl
  | cons x l ih => simp [rnVs, ih]
variable (P C R ts ts1 χ ξ ds ρ p) in
structure RnOk (A : Nat → Nat → Option (TV K)) (D : Nat → Nat → Option Nat) : Prop where
  cx : CxOk P C
  γ : GM P C R ts χ ds
  A : ∀ s c w, A s c = some w → (∃ s1 n, w = .rw s1 1 ∧ tln (ts.tb s c) = some n ∧ tln (ts1.tb s1 1) = some n ∧ (χ s c = false → ρ s1 = some (s, c) ∧ ξ s1 = false) ∧ (χ s c = true → ξ s1 = true)) ∨
    (∃ e l, w = .sl e l ∧ trow C e (ts.tb s c) = some l ∧ (χ s c = false → p (s, c)))
  D : ∀ s c s1, D s c = some s1 → ρ s1 = some (s, c)
  rg : ∀ id w, lkR ts.rg id = some w → lkR ts1.rg id = some w
mutual
theorem rnV_ok {A : Nat → Nat → Option (TV K)} {D : Nat → Nat → Option Nat} (h : RnOk P C R ts ts1 χ ξ ds ρ p A D) : ∀ u, TM P C ts ts1 χ ξ ds ρ p u (rnV A D u)
  | .un => TM.un _
  | .lb b => TM.noref rfl
  | .bl b => TM.noref rfl
  | .li k n => TM.noref rfl
  | .it k n => TM.noref rfl
  | .st s => TM.noref rfl
  | .agg cs => TM.agg (rnVs_len A D cs) (rnVs_ok h cs)
  | .tup cs => TM.tup (rnVs_len A D cs) (rnVs_ok h cs)
  | .nil => TM.noref rfl
  | .em => TM.noref rfl
  | .sl e l => TM.noref rfl
  | .rw s c => by
    simp only [rnV]
    split
    · rename_i w e
      rcases h.A s c w e with ⟨s1, n, rfl, h1, h2, h3, h4⟩ | ⟨e0, l, rfl, h1, h2⟩
      · exact TM.rw h1 h2 h3 h4
      · exact TM.fz h.cx h.γ h1 h2
    · exact TM.un _
  | .px s c o => by
    simp only [rnV]
    split
    · rename_i s1 e; exact TM.px (h.D s c s1 e)
    · exact TM.un _
  | .pr e0 s c i o => by
    simp only [rnV]
    split
    · rename_i s1 c1 e
      rcases h.A s c _ e with ⟨s2, n, e1, h1, h2, h3, h4⟩ | ⟨e0, l, e1, _⟩
      · cases e1; exact TM.pr h3
      · cases e1
    · exact TM.un _
  | .ep e l i o => TM.noref rfl
  | .gs l i => TM.noref rfl
  | .nptr => TM.noref rfl
  | .fn f a c => TM.fn (rnVs_len A D a) (rnVs_ok h a) (rnVs_len A D c) (rnVs_ok h c)
  | .fv ps rs F => TM.noref rfl
  | .cn id v => TM.cn h.rg
theorem rnVs_ok {A : Nat → Nat → Option (TV K)} {D : Nat → Nat → Option Nat} (h : RnOk P C R ts ts1 χ ξ ds ρ p A D) : ∀ (us : List (TV K)) (j : Nat) (u u1 : TV K), us[j]? = some u → (rnVs A D us)[j]? = some u1 → TM P C ts ts1 χ ξ ds ρ p u u1
  | [], j, u, u1, h1, _ => by simp at h1
  | x :: us, j, u, u1, h1, h2 => by
    cases j with
    | zero => simp [rnVs] at h1 h2; subst h1; subst h2; exact rnV_ok h x
    | succ j => exact rnVs_ok h us j u u1 (by simpa using h1) (by simpa [rnVs] using h2)
end
theorem BM.map {A : Nat → Nat → Option (TV K)} {D : Nat → Nat → Option Nat} (h : RnOk P C R ts ts1 χ ξ ds ρ p A D) {b b1 : TB K} (hb : mapB (rnV A D) (some b) = some b1) : BM P C ts ts1 χ ξ ds ρ p b b1 := by
  have hc : ∀ (cs : List (TV K)) (j : Nat) (u u1 : TV K), cs[j]? = some u → (cs.map (rnV A D))[j]? = some u1 → TM P C ts ts1 χ ξ ds ρ p u u1 := by
    intro cs j u u1 h1 h2
    rw [List.getElem?_map, h1] at h2
    cases h2; exact rnV_ok h u
  cases b with
  | box e cs => cases hb; exact BM.box (by simp) (hc cs)
  | row e l => cases hb; exact BM.row
  | lrow e n cs => cases hb; exact BM.lrow (by simp) (hc cs)
theorem lkB_app (a b : List (Nat × Option (TB K))) (s : Nat) : lkB (a ++ b) s = if memB a s = true then lkB a s else lkB b s := by
  induction a with
  | nil => rfl
  | cons p a ih =>
    have hm : memB (p :: a) s = (Nat.beq p.1 s || memB a s) := rfl
    rw [List.cons_append, lkB_cons, lkB_cons, ih, hm]
    by_cases e : p.1 = s
    · rw [if_pos e, if_pos e, nbeq.2 e]; rfl
    · rw [if_neg e, if_neg e]
      have : Nat.beq p.1 s = false := by
        cases h : Nat.beq p.1 s with
        | false => rfl
        | true => exact absurd (nbeq.1 h) e
      rw [this, Bool.false_or]
/-- what a state is told as, whatever the concrete one -/
def REt (P : Program) (C : Cx K) (R : List (HO K) → Hp → Nat → Prop) (B : Base) (N : Nat) (ts ts1 : TS K) : Prop := ∀ χ ds, DOk ds → GM P C R ts χ ds → RE B N (toD ds) (fun ks => KOk ks ∧ ∃ ξ, GM P C R ts1 ξ (ofK ks))
theorem nwL_mem {nw : List (Nat × Option (TB K))} {s : Nat} (h : memB (nwL nw) s = true) : s < 2000000 := by
  induction nw with
  | nil => cases h
  | cons p r ih =>
    simp only [nwL] at h
    split at h
    · exact ih h
    · rename_i hp
      simp only [memB, Bool.or_eq_true] at h
      rcases h with h | h
      · have := nbeq.1 h; subst this
        exact Nat.lt_of_not_le fun q => by rw [Nat.ble_eq_true_of_le q] at hp; cases hp
      · exact ih h
theorem nwL_lk {nw : List (Nat × Option (TB K))} {s : Nat} (h : s < 2000000) : lkB (nwL nw) s = lkB nw s := by
  induction nw with
  | nil => rfl
  | cons p r ih =>
    simp only [nwL]
    split
    · rename_i hp
      have := Nat.le_of_ble_eq_true hp
      rw [ih, lkB_cons, if_neg (by omega)]
    · rw [lkB_cons, lkB_cons, ih]
/-- the end of a region -/
theorem er_ok (hB : LentB B) (hC : CxOk P C) : REt P C R B N ts (er ts) := by
  intro χ ds hk hγ
  let cc : Nat → Nat := fun s => if memB (nwL ts.nw) s = true then 2 else 1
  let ρ : Nat → Option (Nat × Nat) := fun s => match ts.tb s (cc s) with
    | some _ => if χ s (cc s) = true then none else some (s, cc s)
    | none => none
  let ξ : Nat → Bool := fun s => χ s (cc s)
  have hlk : ∀ s, lkB (nwL ts.nw ++ ts.od) s = ts.tb s (cc s) := by
    intro s
    rw [lkB_app]
    by_cases h : memB (nwL ts.nw) s = true
    · rw [if_pos h]; show _ = ts.tb s (if memB (nwL ts.nw) s = true then 2 else 1); rw [if_pos h]; exact nwL_lk (nwL_mem h)
    · rw [if_neg h]; show _ = ts.tb s (if memB (nwL ts.nw) s = true then 2 else 1); rw [if_neg h]; rfl
  have hod : ∀ s, lkB (er ts).od s = mapB (rnV (erA ts) (erB ts)) (ts.tb s (cc s)) := by
    intro s; show lkB (mapM _ (nwL ts.nw ++ ts.od)) s = _; rw [mapM_at, hlk]
  have hρi : ∀ s k, ρ s = some k → k = (s, cc s) ∧ χ s (cc s) = false ∧ ∃ b, ts.tb s (cc s) = some b := by
    intro s k h
    have h' : (match ts.tb s (cc s) with | some _ => if χ s (cc s) = true then none else some (s, cc s) | none => none) = some k := h
    split at h'
    · rename_i b hb
      split at h'
      · cases h'
      · rename_i hx
        cases h'
        exact ⟨rfl, by simpa using hx, b, hb⟩
    · cases h'
  have hρs : ∀ s b, ts.tb s (cc s) = some b → χ s (cc s) = false → ρ s = some (s, cc s) := by
    intro s b hb hx
    show (match ts.tb s (cc s) with | some _ => if χ s (cc s) = true then none else some (s, cc s) | none => none) = _
    rw [hb]; simp [hx]
  have hN : ∀ s c s1, erN (nwL ts.nw) s c = some s1 → s1 = s ∧ c = cc s := by
    intro s c s1 h
    unfold erN at h
    show s1 = s ∧ c = if memB (nwL ts.nw) s = true then 2 else 1
    split at h
    · rename_i hm
      rw [if_pos hm]
      split at h
      · rename_i e; cases h; exact ⟨rfl, nbeq.1 e⟩
      · cases h
    · rename_i hm
      rw [if_neg (by rw [hm]; simp)]
      split at h
      · rename_i e; cases h; exact ⟨rfl, nbeq.1 e⟩
      · cases h
  have hRn : RnOk P C R ts (er ts) χ ξ ds ρ (fun _ => False) (erA ts) (erB ts) := by
    refine ⟨hC, hγ, ?_, ?_, fun _ _ h => h⟩
    · intro s c w h
      unfold erA at h
      split at h
      · rename_i n hn
        split at h
        · rename_i s1 h1
          cases h
          obtain ⟨rfl, rfl⟩ := hN s c s1 h1
          refine .inl ⟨s1, n, rfl, hn, ?_, fun hx => ⟨?_, hx⟩, fun hx => hx⟩
          · show tln (lkB (er ts).od s1) = _
            rw [hod, tln_map]; exact hn
          · cases hq : ts.tb s1 (cc s1) with
            | none => rw [hq] at hn; cases hn
            | some b => exact hρs s1 b hq hx
        · cases h
      · cases h
    · intro s c s1 h
      unfold erB at h
      split at h
      · rename_i e cs hb
        obtain ⟨rfl, rfl⟩ := hN s c s1 h
        exact hρs s1 _ hb (hγ.box hb)
      · cases h
  refine RE_tm hB hγ hk ρ (fun _ => False) ξ (er ts) rfl (fun _ _ h => h) ?_ ?_ ?_ ?_ ?_ (fun k h => h.elim) hC ?_ (fun ks h1 h2 => ⟨h1, _, h2⟩)
  · intro s k h
    obtain ⟨rfl, h1, b, hb⟩ := hρi s k h
    refine ⟨h1, b, ?_⟩
    cases hm : mapB (rnV (erA ts) (erB ts)) (some b) with
    | none => cases b <;> cases hm
    | some b1 => exact ⟨b1, hb, by rw [hod, hb]; exact hm, BM.map hRn hm⟩
  · intro s b1 h hx
    rw [hod] at h
    cases hq : ts.tb s (cc s) with
    | none => rw [hq] at h; cases h
    | some b => exact ⟨_, hρs s b hq hx⟩
  · intro s hx
    obtain ⟨e, h1⟩ := hγ.vi s (cc s) hx
    refine ⟨?_, e, by rw [hod, h1]; rfl⟩
    show (match ts.tb s (cc s) with | some _ => if χ s (cc s) = true then none else some (s, cc s) | none => none) = none
    rw [h1]
    exact if_pos hx
  · intro s k hs h
    have e1 := (hρi s k h).1
    have hm : ¬ memB (nwL ts.nw) s = true := fun hm => by have := nwL_mem hm; omega
    rw [e1]; show (s, if memB (nwL ts.nw) s = true then 2 else 1) = _; rw [if_neg hm]
  · intro s s' k h h'
    have e1 := (hρi s k h).1
    have e2 := (hρi s' k h').1
    rw [e1] at e2
    exact (Prod.mk.inj e2).1
  · intro t
    show TM _ _ _ _ _ _ _ _ _ (lkT ts.fr t) (lkT (mapF (rnV (erA ts) (erB ts)) ts.fr) t)
    rw [mapF_at _ rfl]
    exact rnV_ok hRn _
theorem RE.bind {S : St} {X Y : KS → Prop} (h : RE B N S X) (k : ∀ ks, KOk ks → X ks → RE B N (toS ks) Y) : RE B N S Y := by
  intro a G hR
  obtain ⟨ks1, G1, h1, h2, h3⟩ := h a G hR
  obtain ⟨ks2, G2, k1, k2, k3⟩ := k ks1 h2.2 h3 a G1 h2.1
  exact ⟨ks2, G2, by rw [k1, h1], k2, k3⟩
theorem REt.trans {ts2 : TS K} (h : REt P C R B N ts ts1) (k : REt P C R B N ts1 ts2) : REt P C R B N ts ts2 := by
  intro χ ds hk hγ
  refine RE.bind (h χ ds hk hγ) fun ks hko ⟨_, ξ, hg⟩ => ?_
  rw [← ofK_toD]
  exact k ξ (ofK ks) (ofK_ok hko) hg
/-- told of states as data alone -/
def REk (P : Program) (C : Cx K) (R : List (HO K) → Hp → Nat → Prop) (B : Base) (N : Nat) (ts ts1 : TS K) : Prop := ∀ χ ks, KOk ks → GM P C R ts χ (ofK ks) → RE B N (toS ks) (fun ks => KOk ks ∧ ∃ ξ, GM P C R ts1 ξ (ofK ks))
theorem REt.k (h : REt P C R B N ts ts1) : REk P C R B N ts ts1 := by
  intro χ ks hk hγ
  have := h χ (ofK ks) (ofK_ok hk) hγ
  rw [ofK_toD] at this
  exact this
theorem REk.refl : REk P C R B N ts ts := fun χ ks hk hγ => RE.id hk ⟨hk, χ, hγ⟩
theorem REk.trans {ts2 : TS K} (h : REk P C R B N ts ts1) (k : REk P C R B N ts1 ts2) : REk P C R B N ts ts2 := fun χ ks hk hγ => RE.bind (h χ ks hk hγ) fun ks' hko ⟨_, ξ, hg⟩ => k ξ ks' hko hg
theorem REt.thenk {ts2 : TS K} (h : REt P C R B N ts ts1) (k : REk P C R B N ts1 ts2) : REt P C R B N ts ts2 := fun χ ds hk hγ => RE.bind (h χ ds hk hγ) fun ks' hko ⟨_, ξ, hg⟩ => k ξ ks' hko hg
/-- a row is made one for good -/
theorem fz_ok (hB : LentB B) (hC : CxOk P C) (s0 : Nat) : REk P C R B N ts (fz C ts s0) := by
  intro χ ks hk hγ
  unfold fz
  split
  rotate_left
  · exact RE.id hk ⟨hk, χ, hγ⟩
  · rename_i l hnw hl
    rw [← ofK_toD]
    generalize he0 : tbe (ts.tb s0 1) = e0 at l hl
    let A := fzS ts s0 (.sl e0 l)
    let D := fzB ts
    let tsF : TS K := ⟨mapF (rnV A D) ts.fr, (s0, none) :: mapM (rnV A D) ts.od, [], ts.rg, ts.h⟩
    let ρ : Nat → Option (Nat × Nat) := fun s => if s = s0 then none else match ts.tb s 1 with
      | some _ => if χ s 1 = true then none else some (s, 1)
      | none => none
    let ξ : Nat → Bool := fun s => if s = s0 then false else χ s 1
    let p : Nat × Nat → Prop := fun k => k = (s0, 1) ∧ χ s0 1 = false
    have hod : ∀ s, s ≠ s0 → lkB tsF.od s = mapB (rnV A D) (ts.tb s 1) := by
      intro s hs
      show lkB ((s0, none) :: mapM (rnV A D) ts.od) s = _
      rw [lkB_cons, if_neg (fun e => hs e.symm), mapM_at]; rfl
    have hod0 : lkB tsF.od s0 = none := by show lkB ((s0, none) :: mapM (rnV A D) ts.od) s0 = _; rw [lkB_cons, if_pos rfl]
    have hρi : ∀ s k, ρ s = some k → s ≠ s0 ∧ k = (s, 1) ∧ χ s 1 = false ∧ ∃ b, ts.tb s 1 = some b := by
      intro s k h
      have h' : (if s = s0 then none else match ts.tb s 1 with | some _ => if χ s 1 = true then none else some (s, 1) | none => none) = some k := h
      split at h'
      · cases h'
      · rename_i hs
        split at h'
        · rename_i b hb
          split at h'
          · cases h'
          · rename_i hx; cases h'; exact ⟨hs, rfl, by simpa using hx, b, hb⟩
        · cases h'
    have hρs : ∀ s b, s ≠ s0 → ts.tb s 1 = some b → χ s 1 = false → ρ s = some (s, 1) := by
      intro s b hs hb hx
      show (if s = s0 then none else match ts.tb s 1 with | some _ => if χ s 1 = true then none else some (s, 1) | none => none) = _
      rw [if_neg hs, hb]; simp [hx]
    have hRn : RnOk P C R ts tsF χ ξ (ofK ks) ρ p A D := by
      refine ⟨hC, hγ, ?_, ?_, fun _ _ h => h⟩
      · intro s c w h
        have h' : fzS ts s0 (.sl e0 l) s c = some w := h
        unfold fzS at h'
        split at h'
        · rename_i hc
          have := nbeq.1 hc; subst this
          split at h'
          · rename_i hs
            have := nbeq.1 hs; subst this
            cases h'
            exact .inr ⟨e0, l, rfl, hl, fun hx => ⟨rfl, hx⟩⟩
          · rename_i hs
            have hs' : s ≠ s0 := fun e => by rw [nbeq.2 e] at hs; cases hs
            split at h'
            · rename_i n hn
              cases h'
              refine .inl ⟨s, n, rfl, hn, ?_, fun hx => ⟨?_, ?_⟩, fun hx => ?_⟩
              · show tln (lkB tsF.od s) = _
                rw [hod s hs', tln_map]; exact hn
              · cases hq : ts.tb s 1 with
                | none => rw [hq] at hn; cases hn
                | some b => exact hρs s b hs' hq hx
              · show (if s = s0 then false else χ s 1) = false; rw [if_neg hs']; exact hx
              · show (if s = s0 then false else χ s 1) = true; rw [if_neg hs']; exact hx
            · cases h'
        · cases h'
      · intro s c s1 h
        have h' : fzB ts s c = some s1 := h
        unfold fzB at h'
        split at h'
        · rename_i e cs hc hb
          cases h'
          have := nbeq.1 hc; subst this
          refine hρs _ _ ?_ hb (hγ.box hb)
          rintro rfl
          rw [hb] at hl; cases hl
        · cases h'
    refine RE_tm hB hγ (ofK_ok hk) ρ p ξ tsF rfl (fun _ _ h => h) ?_ ?_ ?_ (fun s k _ h => (hρi s k h).2.1) ?_ ?_ hC ?_ (fun ks h1 h2 => ⟨h1, _, h2⟩)
    · intro s k h
      obtain ⟨hs, rfl, h1, b, hb⟩ := hρi s k h
      refine ⟨h1, b, ?_⟩
      cases hm : mapB (rnV A D) (some b) with
      | none => cases b <;> cases hm
      | some b1 => exact ⟨b1, hb, by rw [hod s hs, hb]; exact hm, BM.map hRn hm⟩
    · intro s b1 h hx
      have hs : s ≠ s0 := by rintro rfl; rw [hod0] at h; cases h
      rw [hod s hs] at h
      have hx' : χ s 1 = false := by
        have : (if s = s0 then false else χ s 1) = false := hx
        rw [if_neg hs] at this; exact this
      cases hq : ts.tb s 1 with
      | none => rw [hq] at h; cases h
      | some b => exact ⟨_, hρs s b hs hq hx'⟩
    · intro s hx
      have hx' : (if s = s0 then false else χ s 1) = true := hx
      split at hx'
      · cases hx'
      · rename_i hs
        obtain ⟨e, h1⟩ := hγ.vi s 1 hx'
        refine ⟨?_, e, by rw [hod s hs, h1]; rfl⟩
        show (if s = s0 then none else match ts.tb s 1 with | some _ => if χ s 1 = true then none else some (s, 1) | none => none) = none
        rw [if_neg hs, h1]
        exact if_pos hx'
    · intro s s' k h h'
      have e1 := (hρi s k h).2.1
      have e2 := (hρi s' k h').2.1
      rw [e1] at e2
      exact (Prod.mk.inj e2).1
    · rintro k ⟨rfl, hx⟩
      refine ⟨hx, e0, l, hl, fun s h => ?_⟩
      obtain ⟨hs, e1, _⟩ := hρi s _ h
      exact hs (Prod.mk.inj e1).1.symm
    · intro t
      show TM _ _ _ _ _ _ _ _ _ (lkT ts.fr t) (lkT (mapF (rnV A D) ts.fr) t)
      rw [mapF_at _ rfl]
      exact rnV_ok hRn _
theorem fzA_ok (hB : LentB B) (hC : CxOk P C) : ∀ (n : Nat) (vs : List (TV K)) (ts : TS K), REk P C R B N ts (fzA C n vs ts)
  | 0, _, _ => .refl
  | n + 1, vs, ts => by
    simp only [fzA]
    split
    · exact .refl
    · split
      · exact (fzA_ok hB hC n _ ts).trans (fz_ok hB hC _)
      · exact fz_ok hB hC _
theorem fzT_ok (hB : LentB B) (hC : CxOk P C) (fr : List (Nat × TV K)) : ∀ (l : List (Nat × Kd)) (ts : TS K), REk P C R B N ts (fzT C fr l ts)
  | [], _ => .refl
  | (t, k) :: r, ts => by
    cases k with
    | sl e =>
      simp only [fzT]
      refine REk.trans ?_ (fzT_ok hB hC fr r _)
      split
      · exact fz_ok hB hC _
      · exact .refl
    | _ => simp only [fzT]; exact fzT_ok hB hC fr r ts
end
end Go.AV

