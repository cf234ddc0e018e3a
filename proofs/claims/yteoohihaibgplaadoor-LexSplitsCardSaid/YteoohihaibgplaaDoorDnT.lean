/-
  Typed states: operations on memory do as they are told.
-/
import Derived.Test.YteoohihaibgplaaDoorDnS
namespace Go.AV
open Go.RowKit Go.RG Go.Lib
variable {K : Nat → Type}

/-! ### deep weakness -/
mutual
theorem dwk_idem : ∀ (u : AV), dwk (dwk u) = dwk u
  | .agg cs => by simp only [dwk]; rw [dwks_idem cs]
  | .tup cs => by simp only [dwk]; rw [dwks_idem cs]
  | .fn f a c => by simp only [dwk]; rw [dwks_idem a, dwks_idem c]
  | .sl z n xs => by simp only [dwk]; rw [dwks_idem xs]
  | .ep xs off => by simp only [dwk]; rw [dwks_idem xs]
  | .gs k n => rfl
  | .pt k n => rfl
  | .bl b => rfl
  | .it k n => rfl
  | .st s => rfl
  | .nptr => rfl
  | .nfn => rfl
  | .un => rfl
  | .yld o => rfl
  | .rcd a b c d => rfl
theorem dwks_idem : ∀ (l : List AV), dwks (dwks l) = dwks l
  | [] => rfl
  | x :: l => by simp only [dwks]; rw [dwk_idem x, dwks_idem l]
end
theorem dwks_app (a b : List AV) : dwks (a ++ b) = dwks a ++ dwks b := by simp [dwks_map]
theorem dwks_take (a : List AV) (n : Nat) : dwks (a.take n) = (dwks a).take n := by simp [dwks_map, List.map_take]
theorem dwks_drop (a : List AV) (n : Nat) : dwks (a.drop n) = (dwks a).drop n := by simp [dwks_map, List.map_drop]
mutual
theorem dwk_weak : ∀ (u : AV), dwk (weak u) = dwk u
  | .agg cs => by simp only [weak, dwk]; rw [dwks_weaks cs]
  | .tup cs => by simp only [weak, dwk]; rw [dwks_weaks cs]
  | .fn f a c => by simp only [weak, dwk]; rw [dwks_weaks a, dwks_weaks c]
  | .sl z n xs => rfl
  | .ep xs off => rfl
  | .gs k n => rfl
  | .pt k n => rfl
  | .bl b => rfl
  | .it k n => rfl
  | .st s => rfl
  | .nptr => rfl
  | .nfn => rfl
  | .un => rfl
  | .yld o => rfl
  | .rcd a b c d => rfl
theorem dwks_weaks : ∀ (l : List AV), dwks (weaks l) = dwks l
  | [] => rfl
  | x :: l => by simp only [weaks, dwks]; rw [dwk_weak x, dwks_weaks l]
end
theorem noLs_of_dwks {l : List AV} {T : Type} {E : Enc T} {k : List T} (h : dwks l = cl E k) : noLs l = true := by rw [← dwks_noL, h]; exact cl_no E k
section
variable {P : Program} {C : Cx K} {R : List (HO K) → Hp → Nat → Prop} {ts ts' : TS K} {χ χ' : Nat → Nat → Bool} {ds : DS}
theorem TR.undwk {u : TV K} {w : AV} (h : TR P C ts χ u w) : ∀ {v : AV}, w = dwk v → TR P C ts χ u v := by
  have hL : ∀ {us : List (TV K)} {ws : List AV}, ws.length = us.length → (∀ (j : Nat) (u : TV K) (w : AV), us[j]? = some u → ws[j]? = some w → ∀ {v : AV}, w = dwk v → TR P C ts χ u v) → ∀ {vs : List AV}, ws = dwks vs → vs.length = us.length ∧ ∀ (j : Nat) (u : TV K) (v : AV), us[j]? = some u → vs[j]? = some v → TR P C ts χ u v := by
    intro us ws hl hh vs e
    subst e
    refine ⟨by rw [← hl, dwks_len], fun j u v h1 h2 => hh j u (dwk v) h1 (by rw [dwks_map, List.getElem?_map, h2]; rfl) rfl⟩
  induction h with
  | un w => exact fun _ => .un _
  | lb b => intro v e; cases v <;> simp [dwk] at e; subst e; exact .lb _
  | bl b => intro v e; cases v <;> simp [dwk] at e; subst e; exact .bl _
  | li k n => intro v e; cases v <;> simp [dwk] at e; obtain ⟨rfl, rfl⟩ := e; exact .li _ _
  | it k n => intro v e; cases v <;> simp [dwk] at e; obtain ⟨rfl, rfl⟩ := e; exact .it _ _
  | st s => intro v e; cases v <;> simp [dwk] at e; subst e; exact .st _
  | agg us ws hl _ ih =>
    intro v e
    cases v with
    | agg vs => simp only [dwk, AV.agg.injEq] at e; obtain ⟨a, b⟩ := hL hl ih e; exact .agg us vs a b
    | _ => simp [dwk] at e
  | tup us ws hl _ ih =>
    intro v e
    cases v with
    | tup vs => simp only [dwk, AV.tup.injEq] at e; obtain ⟨a, b⟩ := hL hl ih e; exact .tup us vs a b
    | _ => simp [dwk] at e
  | nil => intro v e; cases v <;> simp [dwk] at e
  | em z =>
    intro v e
    cases v with
    | sl z' n xs =>
      simp only [dwk, AV.sl.injEq] at e
      obtain ⟨_, rfl, e⟩ := e
      have : xs = [] := by cases xs with | nil => rfl | cons => simp [dwks] at e
      subst this; exact .em _
    | _ => simp [dwk] at e
  | sl e0 l z n xs hn hx =>
    intro v e
    cases v with
    | sl z' n' xs' =>
      simp only [dwk, AV.sl.injEq] at e
      obtain ⟨_, rfl, rfl⟩ := e
      exact .sl e0 l _ _ _ hn (by rw [← hx, dwks_idem])
    | _ => simp [dwk] at e
  | rwd s c w hr h h1 => intro v e; subst e; exact .rwd s c v hr h (by rw [← dwk_one]; exact h1)
  | rw s c n hr h hx => intro v e; cases v <;> simp [dwk] at e; obtain ⟨rfl, rfl⟩ := e; exact .rw _ _ _ hr h hx
  | rwn s c hr h hx => intro v e; cases v <;> simp [dwk] at e
  | px s c off hr => intro v e; cases v <;> simp [dwk] at e; obtain ⟨rfl, rfl⟩ := e; exact .px _ _ _ hr
  | pr e0 s c i of hr hx => intro v e; cases v <;> simp [dwk] at e; obtain ⟨rfl, rfl⟩ := e; exact .pr _ _ _ _ _ hr hx
  | ep e0 l i of xs hx =>
    intro v e
    cases v with
    | ep xs' off =>
      simp only [dwk, AV.ep.injEq] at e
      obtain ⟨rfl, rfl⟩ := e
      exact .ep e0 l i of _ (by rw [← hx, dwks_idem])
    | _ => simp [dwk] at e
  | gs l i xs hx =>
    intro v e
    cases v with
    | ep xs' off =>
      simp only [dwk, AV.ep.injEq] at e
      obtain ⟨rfl, rfl⟩ := e
      exact .gs l _ _ (by rw [← hx, dwks_idem])
    | _ => simp [dwk] at e
  | nptr => intro v e; cases v <;> simp [dwk] at e; exact .nptr
  | fn f a c a' c' ha hc _ _ ih ih' =>
    intro v e
    cases v with
    | fn f' a2 c2 =>
      simp only [dwk, AV.fn.injEq] at e
      obtain ⟨rfl, e1, e2⟩ := e
      obtain ⟨p1, p2⟩ := hL ha ih e1
      obtain ⟨q1, q2⟩ := hL hc ih' e2
      exact .fn f a c a2 c2 p1 q1 p2 q2
    | _ => simp [dwk] at e
  | fv ps rs F w h hv => intro v e; subst e; exact .fv ps rs F v h (by rw [← hv, dwk_idem])
  | cn id u w h hn _ ih => intro v e; exact .cn id u v h hn (ih e)
theorem TR.pri {e s c i of : Nat} {v : AV} (h : TR P C ts χ (.pr e s c i of) v) : χ s c = false ∧ v = .pt (.l s c) (i * (C.E e).sz + of) := by cases h; exact ⟨by assumption, rfl⟩
theorem TR.epi {e i of : Nat} {l : List (K e)} {v : AV} (h : TR P C ts χ (.ep e l i of) v) : ∃ xs, dwks xs = cl (C.E e) l ∧ v = .ep xs (i * (C.E e).sz + of) := by cases h; exact ⟨_, by assumption, rfl⟩
theorem dwks_sti : ∀ (l : List Str) {xs : List AV}, dwks xs = l.map .st → xs = l.map .st
  | [], xs, h => by cases xs with | nil => rfl | cons x xs => simp [dwks] at h
  | s :: l, xs, h => by
    cases xs with
    | nil => simp [dwks] at h
    | cons x xs =>
      simp only [dwks, List.map_cons, List.cons.injEq] at h
      rw [dwks_sti l h.2, List.map_cons]
      congr 1
      cases x <;> simp [dwk] at h
      rw [h.1]
theorem TR.gsi {i : Nat} {l : List Str} {v : AV} (h : TR P C ts χ (.gs l i) v) : ∃ xs, dwks xs = l.map .st ∧ v = .ep xs i := by cases h; exact ⟨_, by assumption, rfl⟩
theorem TR.sli {e : Nat} {l : List (K e)} {v : AV} (h : TR P C ts χ (.sl e l) v) : ∃ z xs, dwks xs = cl (C.E e) l ∧ v = .sl z l.length xs := by
  cases h with
  | sl _ _ z n xs hn hx => subst hn; exact ⟨z, xs, hx, rfl⟩
theorem TR.rwi {s c : Nat} {n : Nat} {v : AV} (h : TR P C ts χ (.rw s c) v) (hn : tln (ts.tb s c) = some n) : (χ s c = false ∧ v = .gs (.l s c) n) ∨ (χ s c = true ∧ n = 0 ∧ v = .sl true 0 []) := by
  cases h with
  | rwd _ _ _ _ h => rw [hn] at h; cases h
  | rw _ _ n' _ h hx => rw [hn] at h; cases h; exact .inl ⟨hx, rfl⟩
  | rwn _ _ _ h hx => rw [hn] at h; cases h; exact .inr ⟨hx, rfl, rfl⟩
theorem TR.twk {u : TV K} {v : AV} (h : TR P C ts χ u v) : TR P C ts χ (Go.AV.twk u) (weak v) := by
  have hs := h.s
  unfold Go.AV.twk
  revert hs
  have hnc : ∀ id w, u.s ≠ .cn id w := by
    intro id w e
    cases h with
    | cn id' u v h hn hv => simp only [TV.s] at e; rw [e] at hn; cases hn
    | _ => cases e
  revert hnc
  generalize u.s = w
  intro hnc hs
  cases hs with
  | un v => exact .un _
  | lb b => exact .lb b
  | bl b => exact .bl b
  | li k n => exact .li k n
  | it k n => exact .it k n
  | st s => exact .st s
  | agg us vs hl h => exact .un _
  | tup us vs hl h => exact .un _
  | nil => exact .em _
  | em z => exact .em _
  | sl e l z n xs hn hx => exact .sl e l _ n xs hn hx
  | rwd s c v hr h h1 => exact .un _
  | rw s c n hr h hx => exact .un _
  | rwn s c hr h hx => exact .un _
  | px s c off hr => exact .px s c off hr
  | pr e s c i of hr hx => exact .pr e s c i of hr hx
  | ep e l i of xs hx => exact .ep e l i of xs hx
  | gs l i xs hx => exact .gs l i xs hx
  | nptr => exact .nptr
  | fn f a c a' c' ha hc h h' => exact .un _
  | fv ps rs F v h hv => exact .fv ps rs F _ h (by rw [dwk_weak]; exact hv)
  | cn id u v h hn hv => exact (hnc _ _ rfl).elim

/-! ### rows -/
theorem castL_out {e e' : Nat} {l : List (K e)} {l' : List (K e')} (h : castL e e' l = some l') : ∃ he : e = e', he ▸ l = l' := by
  unfold castL at h
  split at h
  · rename_i he; exact ⟨he, Option.some.inj h⟩
  · cases h
theorem chunk_ok (hC : CxOk P C) {e : Nat} : ∀ (n : Nat) (cs : List (TV K)) (vs : List AV) (l : List (K e)), chunk (C.T e).rd (C.E e).sz n cs = some l → TL P C ts χ cs vs → cs.length = n * (C.E e).sz → dwks vs = cl (C.E e) l ∧ l.length = n
  | 0, cs, vs, l, h, t, hl => by
    cases h
    have : vs = [] := List.eq_nil_of_length_eq_zero (by rw [t.1, hl]; simp)
    subst this; exact ⟨rfl, rfl⟩
  | n + 1, cs, vs, l, h, t, hl => by
    simp only [chunk] at h
    split at h
    · rename_i x r h1 h2
      cases h
      obtain ⟨a1, a2⟩ := chunk_ok hC n _ (vs.drop (C.E e).sz) r h2 (t.drop _) (by rw [List.length_drop, hl, Nat.add_mul]; omega)
      have b1 := (t.take (C.E e).sz).mapS
      have b2 := hC.rd e _ x ts χ _ h1 (by rw [b1.1]) b1.2
      refine ⟨?_, by simp [a2]⟩
      rw [show cl (C.E e) (x :: r) = (C.E e).c x ++ cl (C.E e) r by simp [cl], ← a1, ← b2, ← dwks_app, List.take_append_drop]
    · cases h
theorem GM.trow (hC : CxOk P C) (h : GM P C R ts χ ds) {s c e : Nat} {l : List (K e)} (hr : trow C e (ts.tb s c) = some l) : tln (ts.tb s c) = some l.length ∧ (χ s c = true → l = []) ∧ (χ s c = false → ∃ kb, ds.kb s c = some kb ∧ kb.e = e ∧ kb.sz = (C.E e).sz ∧ dwks kb.cells = cl (C.E e) l) := by
  unfold Go.AV.trow at hr
  split at hr
  · rename_i e' l' hb
    obtain ⟨rfl, rfl⟩ := castL_out hr
    refine ⟨by rw [hb]; rfl, fun hx => ?_, fun hx => ?_⟩
    · obtain ⟨e2, h2⟩ := h.vi s c hx
      rw [hb] at h2
      cases h2; rfl
    · obtain ⟨kb, h1, h2⟩ := h.mb s c _ hb hx
      exact ⟨kb, h1, h2⟩
  · rename_i e' n cs hb
    split at hr
    · rename_i he
      have := nbeq.1 he; subst this
      have hx := h.lrow hb
      obtain ⟨kb, h1, h2, h3, h4, h5, h6⟩ := h.mb s c _ hb hx
      obtain ⟨a1, a2⟩ := chunk_ok hC n cs kb.cells l hr ⟨h4, h6⟩ h5
      exact ⟨by rw [hb, a2]; rfl, fun q => (by rw [hx] at q; cases q), fun _ => ⟨kb, h1, h2, h3, a1⟩⟩
    · cases hr
  · cases hr
/-- a thing of a row, as cells -/
theorem row_cells (hC : CxOk P C) {e : Nat} {l : List (K e)} {cells : List AV} {i : Nat} {y : K e} (hc : dwks cells = cl (C.E e) l) (hy : l[i]? = some y) : TL P C ts χ ((C.T e).c y) ((cells.drop (i * (C.E e).sz)).take (C.E e).sz) := by
  obtain ⟨c1, c2⟩ := hC.c e y ts χ
  have h1 : dwks ((cells.drop (i * (C.E e).sz)).take (C.E e).sz) = (C.E e).c y := by
    rw [dwks_take, dwks_drop, hc]
    have := cl_at (C.E e) hy 0 (C.E e).sz (by omega)
    rw [Nat.add_zero] at this
    rw [this, List.drop_zero, List.take_of_length_le (by rw [(C.E e).len]; exact Nat.le_refl _)]
  have hlen : ((cells.drop (i * (C.E e).sz)).take (C.E e).sz).length = ((C.T e).c y).length := by
    rw [← c1, ← h1, dwks_len]
  refine ⟨hlen, fun j u v h2 h3 => ?_⟩
  refine TR.undwk (c2 j u (dwk v) h2 ?_) rfl
  rw [← h1, dwks_map, List.getElem?_map, h3]; rfl
theorem tldc_ok {g : Bool} {sz off : Nat} {cs : List (TV K)} {vs : List AV} {u : TV K} (t : TL P C ts χ cs vs) (h : tldc g sz off cs = some u) : ∃ v, kld g sz vs off = some v ∧ TR P C ts χ u v := by
  unfold tldc at h
  split at h
  · split at h
    · rename_i hb
      cases h
      have := Nat.le_of_ble_eq_true hb
      refine ⟨.agg ((vs.drop off).take sz), ?_, .agg _ _ ((t.drop off).take sz).1 ((t.drop off).take sz).2⟩
      simp only [kld]
      rw [if_pos (by rw [t.1]; exact this)]
    · cases h
  · obtain ⟨v, h1, h2⟩ := t.at' h
    exact ⟨v, h1, h2⟩
theorem row_le {e : Nat} {l : List (K e)} {cells : List AV} {i : Nat} {y : K e} (hc : dwks cells = cl (C.E e) l) (hy : l[i]? = some y) : i * (C.E e).sz ≤ cells.length := by
  rw [← dwks_len cells, hc, cl_len]
  exact Nat.mul_le_mul_right _ (Nat.le_of_lt (List.getElem?_eq_some_iff.1 hy).1)
/-- the same within a longer row -/
theorem kld_in {g : Bool} {w of o sz : Nat} {cells : List AV} {v : AV} (hoo : o ≤ cells.length) (hw : (g = true → of + w ≤ sz) ∧ (g = false → of < sz)) (h : kld g w ((cells.drop o).take sz) of = some v) : kld g w cells (o + of) = some v := by
  cases g with
  | true =>
    simp only [kld] at h ⊢
    split at h
    · rename_i hle
      cases h
      have h1 := hw.1 rfl
      simp only [List.length_take, List.length_drop] at hle
      rw [if_pos (by omega)]
      congr 2
      rw [List.drop_take, List.drop_drop, List.take_take]
      congr 1
      omega
    · cases h
  | false =>
    simp only [kld] at h ⊢
    have h1 := hw.2 rfl
    rw [List.getElem?_take, if_pos h1, List.getElem?_drop] at h
    exact h
theorem tldc_in {g : Bool} {w of : Nat} {cs : List (TV K)} {u : TV K} (h : tldc g w of cs = some u) : (g = true → of + w ≤ cs.length) ∧ (g = false → of < cs.length) := by
  unfold tldc at h
  split at h
  · split at h
    · rename_i hb; exact ⟨fun _ => Nat.le_of_ble_eq_true hb, fun e => by cases e⟩
    · cases h
  · exact ⟨fun e => by (cases e), fun _ => (List.getElem?_eq_some_iff.1 h).1⟩

/-! ### an operation's step -/
variable (P C R) in
def SR (o : AO) (ts : TS K) (ds : DS) (X : TS K → Prop) : Prop := ∃ e ds' ts' χ', Eff o.op o.dst ds e ds' ∧ (∀ p ∈ e.mem, p.1 ∈ twk' ts o) ∧ e.H = none ∧ GM P C R ts' χ' ds' ∧ X ts' ∧ ts'.rg = ts.rg
theorem put_rg (ts : TS K) (d : Option Nat) (u : TV K) : (ts.put d u).rg = ts.rg := by cases d <;> rfl
theorem eff_ld {g : Bool} {sz : Nat} {x : AOpd} {d : Option Nat} {v : AV} (hk : DOk ds) (h : (∃ s c off b, ev (lkF ds.fr) x = .pt (.l s c) off ∧ ds.kb s c = some b ∧ kld g sz b.cells off = some v) ∨ ∃ xs off, ev (lkF ds.fr) x = .ep xs off ∧ kld g sz xs off = some v) : Eff (.ld g sz x) d ds (eff1 v) (ds.put d v) := by
  refine kx_ok (C := []) ?_ trivial hk
  rcases h with ⟨s, c, off, b, h1, h2, h3⟩ | ⟨xs, off, h1, h2⟩
  · simp only [kx, h1, h2, h3]
  · simp only [kx, h1, h2]
theorem SR_val {o : AO} {X : TS K → Prop} {u : TV K} {v : AV} (hγ : GM P C R ts χ ds) (hv : TR P C ts χ u v) (he : Eff o.op o.dst ds (eff1 v) (ds.put o.dst v)) (hX : X (ts.put o.dst u)) : SR P C R o ts ds X :=
  ⟨_, _, _, χ, he, fun p hp => (by cases hp), rfl, hγ.put hv, hX, put_rg _ _ _⟩
theorem tld_ok (hC : CxOk P C) (hγ : GM P C R ts χ ds) (hk : DOk ds) {o : AO} {g : Bool} {sz : Nat} {x : AOpd} {X : TS K → Prop} (ho : o.op = .ld g sz x) (h : tld C g sz ts (fun v => X (ts.put o.dst v)) (tev ts.fr x)) : SR P C R o ts ds X := by
  have hx := hγ.tev x
  have pxc : ∀ {s c off : Nat} {cs : List (TV K)} {kb : KB}, tev ts.fr x = .px s c off → ds.kb s c = some kb → TL P C ts χ cs kb.cells → wpo' (tldc g sz off cs) (fun v => X (ts.put o.dst v)) → SR P C R o ts ds X := by
    intro s c off cs kb e h1 t hw
    obtain ⟨u, h2, hX⟩ := wpo'_out hw
    rw [e] at hx
    obtain ⟨v, h3, h4⟩ := tldc_ok t h2
    exact SR_val hγ h4 (by rw [ho]; exact eff_ld hk (.inl ⟨s, c, off, kb, hx.pxi, h1, h3⟩)) hX
  unfold tld at h
  split at h
  · rename_i s c off e
    split at h
    · rename_i e' cs hb
      obtain ⟨kb, h1, _, _, h4, h5⟩ := hγ.mb s c _ hb (hγ.box hb)
      exact pxc e h1 ⟨h4, h5⟩ h
    · rename_i e' n cs hb
      obtain ⟨kb, h1, _, _, h4, _, h5⟩ := hγ.mb s c _ hb (hγ.lrow hb)
      exact pxc e h1 ⟨h4, h5⟩ h
    · exact h.elim
  · rename_i e' s c i of e
    obtain ⟨l, hl, y, hy, hw⟩ := wpo'_out h
    obtain ⟨u, h2, hX⟩ := wpo'_out hw
    rw [e] at hx
    have hx' := hx.pri
    obtain ⟨kb, k1, k2, k3, k4⟩ := (hγ.trow hC hl).2.2 hx'.1
    have t := row_cells (P := P) (ts := ts) (χ := χ) hC k4 hy
    obtain ⟨v, h3, h4⟩ := tldc_ok t h2
    have hin := tldc_in h2
    rw [← (hC.c e' y ts χ).1, (C.E e').len] at hin
    exact SR_val hγ h4 (by rw [ho]; exact eff_ld hk (.inl ⟨s, c, _, kb, hx'.2, k1, kld_in (row_le k4 hy) hin h3⟩)) hX
  · rename_i e' l i of e
    obtain ⟨y, hy, hw⟩ := h
    obtain ⟨u, h2, hX⟩ := wpo'_out hw
    rw [e] at hx
    obtain ⟨xs, hxs, hev⟩ := hx.epi
    have t := row_cells (P := P) (ts := ts) (χ := χ) hC hxs hy
    obtain ⟨v, h3, h4⟩ := tldc_ok t h2
    have hin := tldc_in h2
    rw [← (hC.c e' y ts χ).1, (C.E e').len] at hin
    exact SR_val hγ h4 (by rw [ho]; exact eff_ld hk (.inr ⟨xs, _, hev, kld_in (row_le hxs hy) hin h3⟩)) hX
  · rename_i l i e
    rw [e] at hx
    obtain ⟨xs, hxs, hev⟩ := hx.gsi
    obtain rfl := dwks_sti l hxs
    split at h
    · split at h
      · rename_i hb
        have hb := Bool.and_eq_true_iff.1 hb
        have hi : i = 0 := nbeq.1 hb.1
        have hs : sz = (l.map AV.st).length := by rw [List.length_map]; exact nbeq.1 hb.2
        have hkl : kld true sz (l.map AV.st) i = some (.agg (l.map .st)) := by
          simp only [kld, hi, hs, List.drop_zero, List.take_length]
          first | done | simp
        refine SR_val (v := .agg (l.map .st)) hγ ?_ (by rw [ho]; exact eff_ld hk (.inr ⟨_, _, hev, hkl⟩)) h
        refine .agg _ _ (by simp) fun j u v h1 h2 => ?_
        rw [List.getElem?_map] at h1 h2
        cases hj : l[j]? with
        | none => rw [hj] at h1; cases h1
        | some s => rw [hj] at h1 h2; cases h1; cases h2; exact .st s
      · exact h.elim
    · obtain ⟨y, hy, hX⟩ := h
      have hkl : kld false sz (l.map AV.st) i = some (.st y) := by
        simp only [kld, List.getElem?_map, hy, Option.map_some]
      exact SR_val (v := .st y) hγ (.st y) (by rw [ho]; exact eff_ld hk (.inr ⟨_, _, hev, hkl⟩)) hX
  · exact h.elim

/-! ### places turn -/
theorem lkB_cons (p : Nat × Option (TB K)) (r : List (Nat × Option (TB K))) (t : Nat) : lkB (p :: r) t = if p.1 = t then p.2 else lkB r t := by
  show (match Nat.beq p.1 t with | true => p.2 | false => lkB r t) = _
  cases h : Nat.beq p.1 t with
  | true => simp [nbeq.1 h]
  | false => simp only; rw [if_neg (fun e => by rw [nbeq.2 e] at h; cases h)]
theorem setb_tb (ts : TS K) (q c : Nat) (b : Option (TB K)) (hc : c = 1 ∨ c = 2) (s c' : Nat) : (ts.setb q c b).tb s c' = if s = q ∧ c' = c then b else ts.tb s c' := by
  have h1 : ∀ (ts : TS K) (s : Nat), ts.tb s 1 = lkB ts.od s := fun _ _ => rfl
  have h2 : ∀ (ts : TS K) (s : Nat), ts.tb s 2 = lkB ts.nw s := fun _ _ => rfl
  have h3 : ∀ (ts : TS K) (s : Nat) (c : Nat), c ≠ 1 → c ≠ 2 → ts.tb s c = none := by
    intro ts s c n1 n2
    unfold TS.tb
    cases e1 : Nat.beq c 1 with
    | true => exact absurd (nbeq.1 e1) n1
    | false => cases e2 : Nat.beq c 2 with
      | true => exact absurd (nbeq.1 e2) n2
      | false => rfl
  by_cases k1 : c' = 1
  · subst k1
    rw [h1, h1]
    rcases hc with rfl | rfl
    · show lkB ((q, b) :: ts.od) s = _
      rw [lkB_cons]
      by_cases e : q = s
      · subst e; simp
      · rw [if_neg e, if_neg (fun x => e x.1.symm)]
    · rw [if_neg (fun x => by cases x.2)]; rfl
  · by_cases k2 : c' = 2
    · subst k2
      rw [h2, h2]
      rcases hc with rfl | rfl
      · rw [if_neg (fun x => by cases x.2)]; rfl
      · show lkB ((q, b) :: ts.nw) s = _
        rw [lkB_cons]
        by_cases e : q = s
        · subst e; simp
        · rw [if_neg e, if_neg (fun x => e x.1.symm)]
    · rw [h3 _ _ _ k1 k2, h3 _ _ _ k1 k2, if_neg]
      rintro ⟨_, rfl⟩
      rcases hc with rfl | rfl
      · exact k1 rfl
      · exact k2 rfl
def updχ (χ : Nat → Nat → Bool) (s c : Nat) (v : Bool) : Nat → Nat → Bool := fun s' c' => if s' = s ∧ c' = c then v else χ s' c'
theorem setb_rg (ts : TS K) (q c : Nat) (b : Option (TB K)) : (ts.setb q c b).rg = ts.rg := by unfold TS.setb; split <;> rfl
theorem setb_h (ts : TS K) (q c : Nat) (b : Option (TB K)) : (ts.setb q c b).h = ts.h := by unfold TS.setb; split <;> rfl
theorem setb_fr (ts : TS K) (q c : Nat) (b : Option (TB K)) : (ts.setb q c b).fr = ts.fr := by unfold TS.setb; split <;> rfl
theorem setb_okr (ts : TS K) (q c : Nat) (b : Option (TB K)) (hc : c = 1 ∨ c = 2) {s c' : Nat} (h : okr ts s c') : okr (ts.setb q c b) s c' := by
  rcases h with h | ⟨h1, h2⟩
  · exact .inl h
  · refine .inr ⟨h1, ?_⟩
    rcases hc with rfl | rfl
    · exact h2
    · show (Nat.beq q s || memB ts.nw s) = true
      rw [h2, Bool.or_true]
/-- a place turns, its length as it was; or is gone; or is new -/
theorem Mono.setb {s c : Nat} {b : Option (TB K)} {v : Bool} (hc : c = 1 ∨ c = 2) (h : okr ts s c → (tln b = none ∧ v = false) ∨ (tln b = tln (ts.tb s c) ∧ v = χ s c)) : Mono ts (ts.setb s c b) χ (updχ χ s c v) := by
  refine ⟨fun id u q => by rw [setb_rg]; exact q, fun s' c' q => setb_okr ts s c b hc q, fun s' c' q => ?_⟩
  rw [setb_tb ts s c b hc]
  unfold updχ
  by_cases e : s' = s ∧ c' = c
  · obtain ⟨rfl, rfl⟩ := e
    simpa using h q
  · rw [if_neg e, if_neg e]; exact .inr ⟨rfl, rfl⟩
theorem GM.setb {s c : Nat} {b : Option (TB K)} {kb : Option KB} (hγ : GM P C R ts χ ds) (hc : c = 1 ∨ c = 2) (hm : Mono ts (ts.setb s c b) χ (updχ χ s c false)) (hb : ∀ b', b = some b' → ∃ k', kb = some k' ∧ MR P C ts χ b' k') : GM P C R (ts.setb s c b) (updχ χ s c false) (ds.set s c kb) := by
  refine ⟨fun t => ?_, fun s' c' b' h1 h2 => ?_, fun s' c' h1 => ?_, fun s' h1 => ?_, by rw [setb_h, set_H, set_nx]; exact hγ.hp⟩
  · rw [setb_fr, set_fr]; exact (hγ.fr t).mono hm
  · rw [setb_tb ts s c b hc] at h1
    rw [set_kb ds s c kb hc]
    unfold updχ at h2
    by_cases e : s' = s ∧ c' = c
    · rw [if_pos e] at h1 ⊢
      obtain ⟨k', q1, q2⟩ := hb b' h1
      exact ⟨k', q1, q2.mono hm⟩
    · rw [if_neg e] at h1 h2 ⊢
      obtain ⟨k', q1, q2⟩ := hγ.mb s' c' b' h1 h2
      exact ⟨k', q1, q2.mono hm⟩
  · unfold updχ at h1
    rw [setb_tb ts s c b hc]
    by_cases e : s' = s ∧ c' = c
    · rw [if_pos e] at h1; cases h1
    · rw [if_neg e] at h1 ⊢; exact hγ.vi s' c' h1
  · rcases hc with rfl | rfl
    · exact hγ.nw s' h1
    · have h1' : (Nat.beq s s' || memB ts.nw s') = false := h1
      simp only [Bool.or_eq_false_iff] at h1'
      show (Nat.beq s s' || memO ds.nw s') = false
      rw [h1'.1, hγ.nw s' h1'.2]; rfl
/-- a new row that is nil -/
theorem GM.setv {s e : Nat} (hγ : GM P C R ts χ ds) (hn : memB ts.nw s = false) : GM P C R (ts.setb s 2 (some (.row e []))) (updχ χ s 2 true) ds := by
  have hm : Mono ts (ts.setb s 2 (some (.row e []))) χ (updχ χ s 2 true) := Mono.setb (.inr rfl) (fun q => by
    rcases q with q | ⟨_, q⟩
    · cases q
    · rw [hn] at q; cases q)
  refine ⟨fun t => ?_, fun s' c' b' h1 h2 => ?_, fun s' c' h1 => ?_, fun s' h1 => ?_, by rw [setb_h]; exact hγ.hp⟩
  · rw [setb_fr]; exact (hγ.fr t).mono hm
  · rw [setb_tb ts s 2 _ (.inr rfl)] at h1
    unfold updχ at h2
    by_cases e : s' = s ∧ c' = 2
    · rw [if_pos e] at h2; cases h2
    · rw [if_neg e] at h1 h2
      obtain ⟨k', q1, q2⟩ := hγ.mb s' c' b' h1 h2
      exact ⟨k', q1, q2.mono hm⟩
  · unfold updχ at h1
    rw [setb_tb ts s 2 _ (.inr rfl)]
    by_cases e : s' = s ∧ c' = 2
    · rw [if_pos e]; exact ⟨_, rfl⟩
    · rw [if_neg e] at h1 ⊢; exact hγ.vi s' c' h1
  · have h1' : (Nat.beq s s' || memB ts.nw s') = false := h1
    simp only [Bool.or_eq_false_iff] at h1'
    exact hγ.nw s' h1'.2
theorem tb_c {s c : Nat} {b : TB K} (h : ts.tb s c = some b) : c = 1 ∨ c = 2 := by
  unfold TS.tb at h
  split at h
  · rename_i e; exact .inl (nbeq.1 e)
  · split at h
    · rename_i e; exact .inr (nbeq.1 e)
    · cases h
theorem lkB_mem : ∀ {l : List (Nat × Option (TB K))} {s : Nat} {b : TB K}, lkB l s = some b → memB l s = true
  | [], _, _, h => by cases h
  | p :: r, s, b, h => by
    rw [lkB_cons] at h
    show (Nat.beq p.1 s || memB r s) = true
    split at h
    · rename_i e; rw [nbeq.2 e]; rfl
    · rw [lkB_mem h, Bool.or_true]
theorem tb_ok {s c : Nat} {b : TB K} (h : ts.tb s c = some b) : okr ts s c := by
  rcases tb_c h with rfl | rfl
  · exact .inl rfl
  · exact .inr ⟨rfl, lkB_mem h⟩
/-! ### the operations -/
theorem tsplice_ok {cs vs : List (TV K)} {cs' vs' : List AV} {off sz : Nat} (h : TL P C ts χ cs cs') (k : TL P C ts χ vs vs') (hs : vs.length = sz) : TL P C ts χ (tsplice cs off vs) (cs'.take off ++ vs' ++ cs'.drop (off + sz)) := by
  unfold tsplice
  rw [hs]
  exact ((h.take off).app k).app (h.drop _)
theorem eff_sto {sz : Nat} {x y : AOpd} {d : Option Nat} {s c off : Nat} {b : KB} (hk : DOk ds) (h1 : ev (lkF ds.fr) x = .pt (.l s c) off) (h2 : ds.kb s c = some b) (h3 : (ev (lkF ds.fr) y).cells.length = sz) (h4 : (ev (lkF ds.fr) y).cells.all AV.one = true) (h5 : off + sz ≤ b.cells.length) :
    Eff (.sto sz x y) d ds ⟨.un, [((s, c), some ⟨b.e, b.sz, b.cells.take off ++ (ev (lkF ds.fr) y).cells ++ b.cells.drop (off + sz)⟩)], [], none⟩ ((ds.set s c (some ⟨b.e, b.sz, b.cells.take off ++ (ev (lkF ds.fr) y).cells ++ b.cells.drop (off + sz), false⟩)).put d .un) := by
  refine kx_ok (C := []) ?_ trivial hk
  simp only [kx, h1, h2]
  rw [if_pos ⟨h3, h4, h5⟩]
theorem tsto_ok (hC : CxOk P C) (hγ : GM P C R ts χ ds) (hk : DOk ds) {o : AO} {sz : Nat} {x y : AOpd} {X : TS K → Prop} (ho : o.op = .sto sz x y) (h : tsto C sz ts (tcl (tea ts.fr y)) (fun t => X (t.put o.dst .un)) (tev ts.fr x)) : SR P C R o ts ds X := by
  have hx := hγ.tev x
  unfold tsto at h
  split at h
  · rename_i s c off e
    rw [e] at hx
    split at h
    · rename_i e' cs hb
      split at h
      · rename_i hc
        simp only [Bool.and_eq_true] at hc
        obtain ⟨⟨c1, c2⟩, c3⟩ := hc
        have c1 := nbeq.1 c1
        obtain ⟨t1, t2⟩ := (hγ.tea y).tcl c2
        have hχ := hγ.box hb
        obtain ⟨kb, k1, k2, k3, k4, k5⟩ := hγ.mb s c _ hb hχ
        have hE := eff_sto (sz := sz) (d := o.dst) hk hx.pxi k1 (by rw [t1.1, c1]) t2 (by rw [k4]; exact Nat.le_of_ble_eq_true c3)
        have hm : Mono ts (ts.setb s c (some (.box e' (tsplice cs off (tcl (tea ts.fr y)))))) χ (updχ χ s c false) := Mono.setb (tb_c hb) (fun _ => .inl ⟨rfl, rfl⟩)
        have hsp := tsplice_ok (off := off) (show TL P C ts χ cs kb.cells from ⟨k4, k5⟩) t1 c1
        have hlen : (tsplice cs off (tcl (tea ts.fr y))).length = cs.length := by
          have := Nat.le_of_ble_eq_true c3
          unfold tsplice
          simp only [List.length_append, List.length_take, List.length_drop, c1]; omega
        refine ⟨_, _, _, _, by rw [ho]; exact hE, fun p hp => ?_, rfl, (hγ.setb (tb_c hb) hm fun b' hb' => ⟨_, rfl, ?_⟩).put (.un _), h, by rw [put_rg, setb_rg]⟩
        · simp only [List.mem_singleton] at hp; subst hp; simp only [twk', ho, e, trf, List.mem_singleton]
        · cases hb'
          exact ⟨k2, by rw [hlen]; exact k3, hsp.1, hsp.2⟩
      · exact h.elim
    · exact h.elim
  · rename_i e' s c i of e
    rw [e] at hx
    split at h
    · rename_i hc
      simp only [Bool.and_eq_true] at hc
      obtain ⟨⟨c1, c2⟩, c4⟩ := hc
      have c1 := nbeq.1 c1
      have c4 := Nat.le_of_ble_eq_true c4
      obtain ⟨t1, t2⟩ := (hγ.tea y).tcl c2
      obtain ⟨l, hl, y0, hy, hw⟩ := wpo'_out h
      obtain ⟨y', hy', hX⟩ := wpo'_out hw
      obtain ⟨hχ, hev⟩ := hx.pri
      obtain ⟨hln, _, hkb⟩ := hγ.trow hC hl
      obtain ⟨kb, k1, k2, k3, k4⟩ := hkb hχ
      have hil : i < l.length := (List.getElem?_eq_some_iff.1 hy).1
      have hclen : kb.cells.length = l.length * (C.E e').sz := by rw [← dwks_len kb.cells, k4, cl_len]
      have hoff : i * (C.E e').sz + of + sz ≤ kb.cells.length := by
        rw [hclen]
        have : (i + 1) * (C.E e').sz ≤ l.length * (C.E e').sz := Nat.mul_le_mul_right _ hil
        rw [Nat.add_mul] at this
        omega
      have hE := eff_sto (sz := sz) (d := o.dst) hk hev k1 (by rw [t1.1, c1]) t2 hoff
      have hbt : ∃ b0, ts.tb s c = some b0 := by
        cases hq : ts.tb s c with
        | none => rw [hq] at hln; cases hln
        | some b0 => exact ⟨b0, rfl⟩
      obtain ⟨b0, hb0⟩ := hbt
      have hm : Mono ts (ts.setb s c (some (.row e' (l.set i y')))) χ (updχ χ s c false) := Mono.setb (tb_c hb0) (fun _ => .inr ⟨by rw [hln]; simp [tln], hχ.symm⟩)
      have hcells : dwks (kb.cells.take (i * (C.E e').sz + of) ++ (ev (lkF ds.fr) y).cells ++ kb.cells.drop (i * (C.E e').sz + of + sz)) = cl (C.E e') (l.set i y') := by
        have tt := tsplice_ok (off := of) (row_cells (P := P) (ts := ts) (χ := χ) hC k4 hy) t1 c1
        have hd := hC.rd e' _ y' ts χ _ hy' (by rw [tt.mapS.1]) tt.mapS.2
        rw [dwks_app, dwks_app, dwks_take, dwks_drop] at hd
        rw [dwks_app, dwks_app, dwks_take, dwks_drop, k4]
        have hch : dwks ((kb.cells.drop (i * (C.E e').sz)).take (C.E e').sz) = (C.E e').c y0 := by
          rw [dwks_take, dwks_drop, k4]
          have := cl_at (C.E e') hy 0 (C.E e').sz (by omega)
          rw [Nat.add_zero] at this
          rw [this, List.drop_zero, List.take_of_length_le (by rw [(C.E e').len]; exact Nat.le_refl _)]
        rw [hch] at hd
        refine cl_set (C.E e') hy of sz c4 ?_
        exact hd
      refine ⟨_, _, _, _, by rw [ho]; exact hE, fun p hp => ?_, rfl, (hγ.setb (tb_c hb0) hm fun b' hb' => ⟨_, rfl, ?_⟩).put (.un _), hX, by rw [put_rg, setb_rg]⟩
      · simp only [List.mem_singleton] at hp; subst hp; simp only [twk', ho, e, trf, List.mem_singleton]
      · cases hb'
        exact ⟨k2, k3, hcells⟩
    · exact h.elim
  · exact h.elim
end
end Go.AV

