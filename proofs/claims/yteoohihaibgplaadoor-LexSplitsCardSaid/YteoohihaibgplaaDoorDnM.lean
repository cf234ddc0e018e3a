/-
  Typed states are told anew.
-/
import Derived.Test.YteoohihaibgplaaDoorDnV
namespace Go.AV
open Go.RowKit Go.RG Go.Lib
variable {K : Nat → Type}
/-- a state's virtual rows, by their sites -/
def χ1 (χ : Nat → Bool) : Nat → Nat → Bool := fun s c => decide (c = 1) && χ s
section
variable {P : Program} {C : Cx K} {R : List (HO K) → Hp → Nat → Prop} {ts ts1 : TS K} {χ : Nat → Nat → Bool} {ξ : Nat → Bool} {ds : DS} {B : Base} {N : Nat} {ρ : Nat → Option (Nat × Nat)} {p : Nat × Nat → Prop}

theorem TR.noL' {u : TV K} {v : AV} (h : TR P C ts χ u v) (hn : norefV u = true) : v.noL = true := (h.noref (ts' := ts) (χ' := χ) hn).2
variable (P C ts ts1 χ ξ ds ρ p) in
/-- a value is told anew -/
def TM (u u1 : TV K) : Prop := ∀ v, TR P C ts χ u v → ∃ v1, TR P C ts1 (χ1 ξ) u1 v1 ∧ RV ρ (toD ds) p v1 v
theorem TM.un (u : TV K) : TM P C ts ts1 χ ξ ds ρ p u .un := fun v _ => ⟨.un, .un _, .un _⟩
theorem TM.noref {u : TV K} (h : norefV u = true) : TM P C ts ts1 χ ξ ds ρ p u u := fun v hv => ⟨v, (hv.noref h).1, .no v (hv.noL' h)⟩
theorem TM.list : ∀ {us us1 : List (TV K)} {vs : List AV}, us1.length = us.length → (∀ (j : Nat) (u u1 : TV K), us[j]? = some u → us1[j]? = some u1 → TM P C ts ts1 χ ξ ds ρ p u u1) → TL P C ts χ us vs →
    ∃ vs1, TL P C ts1 (χ1 ξ) us1 vs1 ∧ vs1.length = vs.length ∧ ∀ (j : Nat) (a b : AV), vs1[j]? = some a → vs[j]? = some b → RV ρ (toD ds) p a b
  | [], us1, vs, hl, _, t => by
    have h1 : us1 = [] := List.eq_nil_of_length_eq_zero hl
    have h2 : vs = [] := List.eq_nil_of_length_eq_zero t.1
    subst h1; subst h2
    exact ⟨[], .nil, rfl, fun j a b h => by simp at h⟩
  | u :: us, us1, vs, hl, hh, t => by
    cases us1 with
    | nil => simp at hl
    | cons u1 us1 => cases vs with
      | nil => simp [TL] at t
      | cons v vs =>
        obtain ⟨v1, a1, a2⟩ := hh 0 u u1 rfl rfl v t.head.1
        obtain ⟨vs1, b1, b2, b3⟩ := TM.list (us := us) (us1 := us1) (vs := vs) (by simpa using hl) (fun j u u1 x y => hh (j + 1) u u1 (by simpa using x) (by simpa using y)) t.head.2
        refine ⟨v1 :: vs1, .cons a1 b1, by simp [b2], fun j a b x y => ?_⟩
        cases j with
        | zero => simp at x y; subst x; subst y; exact a2
        | succ j => exact b3 j a b (by simpa using x) (by simpa using y)
theorem TM.agg {us us1 : List (TV K)} (hl : us1.length = us.length) (hh : ∀ (j : Nat) (u u1 : TV K), us[j]? = some u → us1[j]? = some u1 → TM P C ts ts1 χ ξ ds ρ p u u1) : TM P C ts ts1 χ ξ ds ρ p (.agg us) (.agg us1) := by
  intro v hv
  obtain ⟨vs, rfl, t⟩ := hv.agg'
  obtain ⟨vs1, a, b, c⟩ := TM.list hl hh t
  exact ⟨.agg vs1, .agg _ _ a.1 a.2, .agg _ _ b c⟩
theorem TM.tup {us us1 : List (TV K)} (hl : us1.length = us.length) (hh : ∀ (j : Nat) (u u1 : TV K), us[j]? = some u → us1[j]? = some u1 → TM P C ts ts1 χ ξ ds ρ p u u1) : TM P C ts ts1 χ ξ ds ρ p (.tup us) (.tup us1) := by
  intro v hv
  obtain ⟨vs, rfl, t⟩ := hv.tup'
  obtain ⟨vs1, a, b, c⟩ := TM.list hl hh t
  exact ⟨.tup vs1, .tup _ _ a.1 a.2, .tup _ _ b c⟩
theorem TM.fn {f : Nat} {us us1 ws ws1 : List (TV K)} (hl : us1.length = us.length) (hh : ∀ (j : Nat) (u u1 : TV K), us[j]? = some u → us1[j]? = some u1 → TM P C ts ts1 χ ξ ds ρ p u u1)
    (hl' : ws1.length = ws.length) (hh' : ∀ (j : Nat) (u u1 : TV K), ws[j]? = some u → ws1[j]? = some u1 → TM P C ts ts1 χ ξ ds ρ p u u1) : TM P C ts ts1 χ ξ ds ρ p (.fn f us ws) (.fn f us1 ws1) := by
  intro v hv
  cases hv with
  | fn _ _ _ a' c' ha hc h h' =>
    obtain ⟨vs1, a, b, c⟩ := TM.list hl hh (show TL P C ts χ us a' from ⟨ha, h⟩)
    obtain ⟨vs2, a2, b2, c2⟩ := TM.list hl' hh' (show TL P C ts χ ws c' from ⟨hc, h'⟩)
    exact ⟨.fn (.func f) vs1 vs2, .fn _ _ _ _ _ a.1 a2.1 a.2 a2.2, .fn _ _ _ _ _ b c b2 c2⟩
theorem TM.cn {id : Nat} {u : TV K} (hrg : ∀ id w, lkR ts.rg id = some w → lkR ts1.rg id = some w) : TM P C ts ts1 χ ξ ds ρ p (.cn id u) (.cn id u) := by
  intro v hv
  cases hv with
  | cn _ _ _ h hn hv => exact ⟨v, .cn id u v (hrg _ _ h) hn (hv.noref hn).1, .no v (hv.noL' hn)⟩
theorem TM.strip {id : Nat} {u u1 : TV K} (h : TM P C ts ts1 χ ξ ds ρ p u u1) : TM P C ts ts1 χ ξ ds ρ p (.cn id u) u1 := by
  intro v hv
  cases hv with
  | cn _ _ _ _ hn hv => exact h v hv
/-- a row's new name -/
theorem TM.rw {s c s1 n : Nat} (hn : tln (ts.tb s c) = some n) (hn1 : tln (ts1.tb s1 1) = some n) (h0 : χ s c = false → ρ s1 = some (s, c) ∧ ξ s1 = false) (h1 : χ s c = true → ξ s1 = true) : TM P C ts ts1 χ ξ ds ρ p (.rw s c) (.rw s1 1) := by
  intro v hv
  rcases hv.rwi hn with ⟨hx, rfl⟩ | ⟨hx, rfl, rfl⟩
  · obtain ⟨q1, q2⟩ := h0 hx
    exact ⟨.gs (.l s1 1) n, .rw s1 1 n (.inl rfl) hn1 (by simp [χ1, q2]), .gs s1 n (s, c) q1⟩
  · exact ⟨.sl true 0 [], .rwn s1 1 (.inl rfl) hn1 (by simp [χ1, h1 hx]), .no _ rfl⟩
theorem TM.nilrw {s1 : Nat} (hn1 : tln (ts1.tb s1 1) = some 0) (h1 : ξ s1 = true) : TM P C ts ts1 χ ξ ds ρ p .nil (.rw s1 1) := by
  intro v hv
  cases hv
  exact ⟨.sl true 0 [], .rwn s1 1 (.inl rfl) hn1 (by simp [χ1, h1]), .no _ rfl⟩
theorem TM.px {s c s1 o : Nat} (h : ρ s1 = some (s, c)) : TM P C ts ts1 χ ξ ds ρ p (.px s c o) (.px s1 1 o) := by
  intro v hv
  rw [hv.pxi]
  exact ⟨.pt (.l s1 1) o, .px _ _ _ (.inl rfl), .pt s1 o (s, c) h⟩
theorem TM.pr {e s c i o s1 : Nat} (h : χ s c = false → ρ s1 = some (s, c) ∧ ξ s1 = false) : TM P C ts ts1 χ ξ ds ρ p (.pr e s c i o) (.pr e s1 1 i o) := by
  intro v hv
  obtain ⟨hx, rfl⟩ := hv.pri
  obtain ⟨q1, q2⟩ := h hx
  exact ⟨.pt (.l s1 1) _, .pr _ _ _ _ _ (.inl rfl) (by simp [χ1, q2]), .pt s1 _ (s, c) q1⟩
/-- a row is made one for good -/
theorem TM.fz (hC : CxOk P C) (hγ : GM P C R ts χ ds) {s c e : Nat} {l : List (K e)} (hl : trow C e (ts.tb s c) = some l) (hp : χ s c = false → p (s, c)) : TM P C ts ts1 χ ξ ds ρ p (.rw s c) (.sl e l) := by
  intro v hv
  obtain ⟨g1, g2, g3⟩ := hγ.trow hC hl
  rcases hv.rwi g1 with ⟨hx, rfl⟩ | ⟨hx, h0, rfl⟩
  · obtain ⟨kb, k1, k2, k3, k4⟩ := g3 hx
    refine ⟨.sl false l.length kb.cells, .sl e l _ _ _ rfl k4, ?_⟩
    exact .pub (s, c) l.length kb.blk (hp hx) (by show (ds.kb s c).map KB.blk = _; rw [k1]; rfl) (by show kb.cells.length = l.length * kb.sz; rw [k3, ← dwks_len kb.cells, k4, cl_len]) (by show kb.sz ≠ 0; rw [k3]; exact Nat.pos_iff_ne_zero.1 (C.E e).pos) (noLs_of_dwks k4)
  · have := g2 hx; subst this
    exact ⟨.sl true 0 [], .sl e [] _ _ _ rfl rfl, .no _ rfl⟩
theorem TM.sem {u u1 : TV K} (h : ∀ v, TR P C ts χ u v → TR P C ts1 (χ1 ξ) u1 v ∧ v.noL = true) : TM P C ts ts1 χ ξ ds ρ p u u1 := fun v hv => ⟨v, (h v hv).1, .no v (h v hv).2⟩

variable (P C ts ts1 χ ξ ds ρ p) in
/-- a place's contents are told anew -/
def BM (b b1 : TB K) : Prop := ∀ kb, MR P C ts χ b kb → ∃ cells1, MR P C ts1 (χ1 ξ) b1 ⟨kb.e, kb.sz, cells1, false⟩ ∧ RVL ρ (toD ds) p cells1 kb.cells
theorem BM.row {e : Nat} {l : List (K e)} : BM P C ts ts1 χ ξ ds ρ p (.row e l) (.row e l) := fun kb h => ⟨kb.cells, h, RVL.no (noLs_of_dwks h.2.2)⟩
theorem BM.box {e : Nat} {cs cs1 : List (TV K)} (hl : cs1.length = cs.length) (hh : ∀ (j : Nat) (u u1 : TV K), cs[j]? = some u → cs1[j]? = some u1 → TM P C ts ts1 χ ξ ds ρ p u u1) : BM P C ts ts1 χ ξ ds ρ p (.box e cs) (.box e cs1) := by
  intro kb h
  obtain ⟨vs1, a, b, c⟩ := TM.list hl hh (show TL P C ts χ cs kb.cells from ⟨h.2.2.1, h.2.2.2⟩)
  exact ⟨vs1, ⟨h.1, by rw [hl]; exact h.2.1, a.1, a.2⟩, b, c⟩
theorem BM.lrow {e n : Nat} {cs cs1 : List (TV K)} (hl : cs1.length = cs.length) (hh : ∀ (j : Nat) (u u1 : TV K), cs[j]? = some u → cs1[j]? = some u1 → TM P C ts ts1 χ ξ ds ρ p u u1) : BM P C ts ts1 χ ξ ds ρ p (.lrow e n cs) (.lrow e n cs1) := by
  intro kb h
  obtain ⟨vs1, a, b, c⟩ := TM.list hl hh (show TL P C ts χ cs kb.cells from ⟨h.2.2.1, h.2.2.2.2⟩)
  exact ⟨vs1, ⟨h.1, h.2.1, a.1, by rw [hl]; exact h.2.2.2.1, a.2⟩, b, c⟩
theorem BM.lr {e n : Nat} {cs : List (TV K)} {l : List (K e)} (hC : CxOk P C) (hc : chunk (C.T e).rd (C.E e).sz n cs = some l) : BM P C ts ts1 χ ξ ds ρ p (.lrow e n cs) (.row e l) := by
  intro kb h
  obtain ⟨a1, a2⟩ := chunk_ok hC n cs kb.cells l hc ⟨h.2.2.1, h.2.2.2.2⟩ h.2.2.2.1
  exact ⟨kb.cells, ⟨h.1, h.2.1, a1⟩, RVL.no (noLs_of_dwks a1)⟩

theorem lkF_gen (g : Nat → AV) : ∀ (l : List (Nat × TV K)) (t : Nat), (lkF (l.map fun p => (p.1, g p.1)) t = g t) ∨ (lkF (l.map fun p => (p.1, g p.1)) t = .un ∧ lkT l t = .un)
  | [], t => .inr ⟨rfl, rfl⟩
  | p :: r, t => by
    rw [List.map_cons, lkF_cons, show p :: r = (p.1, p.2) :: r from rfl, lkT_put]
    simp only
    by_cases e : p.1 = t
    · subst e; simp
    · rw [if_neg e, if_neg e]; exact lkF_gen g r t
theorem lkM_gen (q : Nat → Bool) (g : Nat → KB) : ∀ (l : List (Nat × Option (TB K))) (s : Nat), lkM ((l.filter fun p => q p.1).map fun p => (p.1, g p.1)) s = if memB l s = true ∧ q s = true then some (g s) else none
  | [], s => by simp [lkM, memB]
  | p :: r, s => by
    have hm : memB (p :: r) s = (Nat.beq p.1 s || memB r s) := rfl
    rw [hm]
    by_cases e : p.1 = s
    · subst e
      rw [nbeq.2 rfl]
      cases hq : q p.1 with
      | true =>
        rw [List.filter_cons, if_pos hq, List.map_cons, lkM_cons]; simp
      | false =>
        rw [List.filter_cons, if_neg (by rw [hq]; simp), lkM_gen q g r p.1]; simp [hq]
    · have hb : Nat.beq p.1 s = false := by
        cases h : Nat.beq p.1 s with
        | false => rfl
        | true => exact absurd (nbeq.1 h) e
      rw [hb, Bool.false_or]
      cases hq : q p.1 with
      | true => rw [List.filter_cons, if_pos hq, List.map_cons, lkM_cons]; simp only [e, if_false]; exact lkM_gen q g r s
      | false => rw [List.filter_cons, if_neg (by rw [hq]; simp)]; exact lkM_gen q g r s
/-- a state is told anew -/
theorem RE_tm (hB : LentB B) (hγ : GM P C R ts χ ds) (hk : DOk ds) (ρ : Nat → Option (Nat × Nat)) (p : Nat × Nat → Prop) (ξ : Nat → Bool) (ts1 : TS K) (hnw : ts1.nw = []) (hhp : ∀ H n, R ts.h H n → R ts1.h H n)
    (hρ : ∀ s k, ρ s = some k → χ k.1 k.2 = false ∧ ∃ b b1, ts.tb k.1 k.2 = some b ∧ lkB ts1.od s = some b1 ∧ BM P C ts ts1 χ ξ ds ρ p b b1)
    (hm : ∀ s b1, lkB ts1.od s = some b1 → ξ s = false → ∃ k, ρ s = some k) (hv : ∀ s, ξ s = true → ρ s = none ∧ ∃ e, lkB ts1.od s = some (.row e []))
    (hfix : ∀ s k, 2000000 ≤ s → ρ s = some k → k = (s, 1)) (inj : ∀ s s' k, ρ s = some k → ρ s' = some k → s = s') (hp : ∀ k, p k → χ k.1 k.2 = false ∧ ∃ e l, trow C e (ts.tb k.1 k.2) = some l ∧ ∀ s, ρ s ≠ some k) (hC : CxOk P C)
    (fr : ∀ t, TM P C ts ts1 χ ξ ds ρ p (lkT ts.fr t) (lkT ts1.fr t)) {X : KS → Prop} (h : ∀ ks, KOk ks → GM P C R ts1 (χ1 ξ) (ofK ks) → X ks) : RE B N (toD ds) X := by
  have hg : ∀ t, ∃ v1, TR P C ts1 (χ1 ξ) (lkT ts1.fr t) v1 ∧ RV ρ (toD ds) p v1 (lkF ds.fr t) := fun t => fr t _ (hγ.fr t)
  let g : Nat → AV := fun t => Classical.choose (hg t)
  have hg' : ∀ t, TR P C ts1 (χ1 ξ) (lkT ts1.fr t) (g t) ∧ RV ρ (toD ds) p (g t) (lkF ds.fr t) := fun t => Classical.choose_spec (hg t)
  have hgm : ∀ s, ∃ kb1 : KB, ∀ k, ρ s = some k → ∃ kb b1, ds.kb k.1 k.2 = some kb ∧ lkB ts1.od s = some b1 ∧ kb1.e = kb.e ∧ kb1.sz = kb.sz ∧ kb1.q = false ∧ MR P C ts1 (χ1 ξ) b1 kb1 ∧ RVL ρ (toD ds) p kb1.cells kb.cells := by
    intro s
    cases hs : ρ s with
    | none => exact ⟨⟨0, 0, [], false⟩, fun k hk => by cases hk⟩
    | some k =>
      obtain ⟨h0, b, b1, h1, h2, h3⟩ := hρ s k hs
      obtain ⟨kb, k1, k2⟩ := hγ.mb k.1 k.2 b h1 h0
      obtain ⟨cells1, c1, c2⟩ := h3 kb k2
      exact ⟨⟨kb.e, kb.sz, cells1, false⟩, fun k' hk' => by cases hk'; exact ⟨kb, b1, k1, h2, rfl, rfl, rfl, c1, c2⟩⟩
  let gm : Nat → KB := fun s => Classical.choose (hgm s)
  have hgm' : ∀ s k, ρ s = some k → ∃ kb b1, ds.kb k.1 k.2 = some kb ∧ lkB ts1.od s = some b1 ∧ (gm s).e = kb.e ∧ (gm s).sz = kb.sz ∧ (gm s).q = false ∧ MR P C ts1 (χ1 ξ) b1 (gm s) ∧ RVL ρ (toD ds) p (gm s).cells kb.cells := fun s => Classical.choose_spec (hgm s)
  let ks1 : KS := ⟨ts1.fr.map fun p => (p.1, g p.1), (ts1.od.filter fun p => (ρ p.1).isSome).map fun p => (p.1, gm p.1), ds.H, ds.nx⟩
  have hmem : ∀ s, lkM ks1.mem s = if (ρ s).isSome = true then some (gm s) else none := by
    intro s
    show lkM ((ts1.od.filter fun p => (ρ p.1).isSome).map fun p => (p.1, gm p.1)) s = _
    rw [lkM_gen (fun s => (ρ s).isSome) gm ts1.od s]
    by_cases hs : (ρ s).isSome = true
    · obtain ⟨k, hk'⟩ := Option.isSome_iff_exists.1 hs
      obtain ⟨_, b, b1, _, h2, _⟩ := hρ s k hk'
      rw [if_pos ⟨lkB_mem h2, hs⟩, if_pos hs]
    · rw [if_neg (fun q => hs q.2), if_neg hs]
  have hok : KOk ks1 := by
    intro s b hb
    rw [hmem] at hb
    split at hb
    · rename_i hs
      cases hb
      obtain ⟨k, hk'⟩ := Option.isSome_iff_exists.1 hs
      obtain ⟨kb, b1, h1, h2, h3, h4, h5, _⟩ := hgm' s k hk'
      exact ⟨by rw [h4]; exact (hk k.1 k.2 kb h1).1, fun q => by rw [h5] at q; cases q⟩
    · cases hb
  refine RE.of (ks1 := ks1) hB (ρ := ρ) (p := p) { dom := ?_, at' := ?_, inj := inj, disj := ?_, pub := ?_, fr := ?_, H := fun _ => rfl, nx := rfl, fix := fun d k hd h => hfix d k hd h } hok (h ks1 hok ⟨?_, ?_, ?_, ?_, hhp _ _ hγ.hp⟩)
  · intro d b1 hb
    rw [hmem] at hb
    split at hb
    · rename_i hs; exact Option.isSome_iff_exists.1 hs
    · cases hb
  · intro d k hd
    obtain ⟨kb, b1, h1, h2, h3, h4, h5, h6, h7⟩ := hgm' d k hd
    refine ⟨kb.blk, gm d, by show (ds.kb k.1 k.2).map KB.blk = _; rw [h1]; rfl, (hk k.1 k.2 kb h1).1, by rw [hmem, hd]; rfl, h3, h4, h7⟩
  · intro k d hp' hd; obtain ⟨_, e, l, _, h3⟩ := hp k hp'; exact h3 d hd
  · intro k hp'
    obtain ⟨h0, e, l, h1, _⟩ := hp k hp'
    obtain ⟨kb, k1, k2, k3, k4⟩ := (hγ.trow hC h1).2.2 h0
    exact ⟨kb.blk, by show (ds.kb k.1 k.2).map KB.blk = _; rw [k1]; rfl, (hk k.1 k.2 kb k1).1⟩
  · intro t
    show RV ρ (toD ds) p (lkF (ts1.fr.map fun p => (p.1, g p.1)) t) (lkF ds.fr t)
    rcases lkF_gen g ts1.fr t with e | ⟨e, _⟩
    · rw [e]; exact (hg' t).2
    · rw [e]; exact .un _
  · intro t
    show TR P C ts1 (χ1 ξ) (lkT ts1.fr t) (lkF (ts1.fr.map fun p => (p.1, g p.1)) t)
    rcases lkF_gen g ts1.fr t with e | ⟨e, e2⟩
    · rw [e]; exact (hg' t).1
    · rw [e, e2]; exact .un _
  · intro s c b hb hx
    rcases tb_c hb with rfl | rfl
    · have hx' : ξ s = false := by simpa [χ1] using hx
      obtain ⟨k, hk'⟩ := hm s b hb hx'
      obtain ⟨kb, b1, h1, h2, h3, h4, h5, h6, h7⟩ := hgm' s k hk'
      have : b1 = b := by
        have hb' : lkB ts1.od s = some b := hb
        rw [h2] at hb'; exact Option.some.inj hb'
      subst this
      refine ⟨gm s, ?_, h6⟩
      show lkO (someL ks1.mem) s = _
      rw [lkO_some, hmem, hk']; rfl
    · have hb' : lkB ts1.nw s = some b := hb
      rw [hnw] at hb'; cases hb'
  · intro s c hx
    simp only [χ1, Bool.and_eq_true, decide_eq_true_eq] at hx
    obtain ⟨rfl, hx⟩ := hx
    exact (hv s hx).2
  · intro s _; rfl
end
end Go.AV

