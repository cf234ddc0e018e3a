/-
  Typed states: new places, rows that grow and are cut.
-/
import Derived.Test.YteoohihaibgplaaDoorDnT
namespace Go.AV
open Go.RowKit Go.RG Go.Lib
variable {K : Nat → Type}
section
variable {P : Program} {C : Cx K} {R : List (HO K) → Hp → Nat → Prop} {ts ts' : TS K} {χ χ' : Nat → Nat → Bool} {ds : DS}

theorem tfresh_out {d : Nat} {p : Prop} (h : tfresh ts d p) : memB ts.nw d = false ∧ p := by
  unfold tfresh at h
  split at h
  · exact h.elim
  · rename_i e; exact ⟨e, h⟩
theorem fresh_ok {s : Nat} (h : memB ts.nw s = false) : ¬ okr ts s 2 := by
  rintro (q | ⟨_, q⟩)
  · cases q
  · rw [h] at q; cases q
theorem Mono.new {s : Nat} {b : Option (TB K)} {v : Bool} (h : memB ts.nw s = false) : Mono ts (ts.setb s 2 b) χ (updχ χ s 2 v) := Mono.setb (.inr rfl) (fun q => (fresh_ok h q).elim)
theorem okr_new (ts : TS K) (s : Nat) (b : Option (TB K)) : okr (ts.setb s 2 b) s 2 := .inr ⟨rfl, by show (Nat.beq s s || memB ts.nw s) = true; rw [nbeq.2 rfl]; rfl⟩
/-- a new thing at a site -/
theorem SR_new {o : AO} {X : TS K → Prop} {b : TB K} {kb : KB} {w : Nat → TV K} {v : AV} {e : REff} (hγ : GM P C R ts χ ds) (hn : memB ts.nw (site o.dst) = false) (hE : Eff o.op o.dst ds e ((ds.set (site o.dst) 2 (some kb)).put o.dst v))
    (he : ∀ p ∈ e.mem, p.1 ∈ twk' ts o) (hH : e.H = none) (hM : MR P C ts χ b kb) (hv : okr (ts.setb (site o.dst) 2 (some b)) (site o.dst) 2 → TR P C (ts.setb (site o.dst) 2 (some b)) (updχ χ (site o.dst) 2 false) (w (site o.dst)) v) (hX : X (tnew ts o.dst b w)) : SR P C R o ts ds X := by
  have hg := hγ.setb (s := site o.dst) (c := 2) (b := some b) (kb := some kb) (.inr rfl) (Mono.new hn) (fun b' hb' => ⟨kb, rfl, by cases hb'; exact hM⟩)
  exact ⟨e, _, _, _, hE, he, hH, hg.put (hv (okr_new _ _ _)), hX, by rw [put_rg, setb_rg]⟩
theorem upd_at' (χ : Nat → Nat → Bool) (s c : Nat) (v : Bool) : updχ χ s c v s c = v := by simp [updχ]
theorem tb_new (ts : TS K) (s : Nat) (b : Option (TB K)) : (ts.setb s 2 b).tb s 2 = b := by rw [setb_tb ts s 2 b (.inr rfl)]; simp
theorem tbox_ok (hγ : GM P C R ts χ ds) (hk : DOk ds) {F : Cf K} {o : AO} {e sz : Nat} {x : AOpd} {X : TS K → Prop} {dr : Bool} (ho : o.op = .box e sz x) (h : step F dr o ts X) : SR P C R o ts ds X := by
  unfold step at h
  rw [ho] at h
  simp only at h
  split at h
  · rename_i hc
    simp only [Bool.and_eq_true] at hc
    obtain ⟨⟨c1, c2⟩, c3⟩ := hc
    obtain ⟨hn, hX⟩ := tfresh_out h
    obtain ⟨t1, t2⟩ := (hγ.tea x).tcl c2
    have c1 := nbeq.1 c1
    have hE : Eff o.op o.dst ds ⟨.pt (.l (site o.dst) 2) 0, [((site o.dst, 2), some ⟨e, sz, (ev (lkF ds.fr) x).cells⟩)], [site o.dst], none⟩ ((ds.set (site o.dst) 2 (some ⟨e, sz, (ev (lkF ds.fr) x).cells, false⟩)).put o.dst (.pt (.l (site o.dst) 2) 0)) := by
      rw [ho]
      refine kx_ok (C := []) ?_ trivial hk
      simp only [kx, hγ.nw _ hn]
      rw [if_pos ⟨by rw [t1.1, c1], t2, Nat.le_of_ble_eq_true c3⟩]
    refine SR_new (b := .box e (Go.AV.tcl (Go.AV.tea ts.fr x))) (w := fun s => .px s 2 0) hγ hn hE (fun p hp => ?_) rfl ⟨rfl, c1.symm, t1.1, t1.2⟩ (fun q => .px _ _ _ q) hX
    simp only [List.mem_singleton] at hp; subst hp; simp [twk', ho]
  · exact h.elim
theorem tfill_len : ∀ (l : List (Nat × Nat × TV K)) (cells cs : List (TV K)), tfill cells l = some cs → cs.length = cells.length
  | [], cells, cs, h => by cases h; rfl
  | (off, sz, v) :: l, cells, cs, h => by
    simp only [tfill] at h
    split at h
    · rename_i hc
      simp only [Bool.and_eq_true] at hc
      have c1 := nbeq.1 hc.1.1
      have c2 := Nat.le_of_ble_eq_true hc.1.2
      rw [tfill_len l _ cs h]
      simp only [List.length_append, List.length_take, List.length_drop, c1]; omega
    · cases h
theorem TL.rep {us : List (TV K)} {vs : List AV} (h : TL P C ts χ us vs) : ∀ n, TL P C ts χ (List.replicate n us).flatten (List.replicate n vs).flatten
  | 0 => .nil
  | n + 1 => by rw [List.replicate_succ, List.replicate_succ, List.flatten_cons, List.flatten_cons]; exact h.app (TL.rep h n)
theorem len_rep {α : Type} (z : List α) : ∀ n, (List.replicate n z).flatten.length = n * z.length
  | 0 => by simp
  | n + 1 => by rw [List.replicate_succ, List.flatten_cons, List.length_append, len_rep z n, Nat.add_mul]; omega
theorem TL.twk {us : List (TV K)} {vs : List AV} (h : TL P C ts χ us vs) : TL P C ts χ (us.map Go.AV.twk) (vs.map weak) := by
  refine ⟨by simp [h.1], fun j u v h1 h2 => ?_⟩
  rw [List.getElem?_map] at h1 h2
  obtain ⟨u', e1, rfl⟩ := Option.map_eq_some_iff.1 h1
  obtain ⟨v', e2, rfl⟩ := Option.map_eq_some_iff.1 h2
  exact (h.2 j u' v' e1 e2).twk
theorem tbsl_ok (hγ : GM P C R ts χ ds) (hk : DOk ds) {F : Cf K} (hF : F.C = C) {o : AO} {e sz n : Nat} {z : List AV} {parts : List (Nat × Nat × AOpd)} {X : TS K → Prop} {dr : Bool} (ho : o.op = .bsl e sz n z parts) (h : step F dr o ts X) : SR P C R o ts ds X := by
  unfold step at h
  rw [ho, hF] at h
  simp only at h
  split at h
  · rename_i hc
    simp only [Bool.and_eq_true] at hc
    obtain ⟨⟨c1, c2⟩, c3⟩ := hc
    have c1 := nbeq.1 c1
    have c2 := nbeq.1 c2
    have c3 := Nat.le_of_ble_eq_true c3
    obtain ⟨hn, h⟩ := tfresh_out h
    obtain ⟨cs, hcs, hX⟩ := wpo'_out h
    obtain ⟨cs', e2, t⟩ := tfill_ok (P := P) (C := C) (ts := ts) (χ := χ) _ (parts.map fun p => (p.1, p.2.1, ev (lkF ds.fr) p.2.2)) _ (zerosL z n) _ (TL.rep (TL.cvAs z) n) (by simp) (fun j p q a b => by
      rw [List.getElem?_map] at a b
      cases hp : parts[j]? with
      | none => rw [hp] at a; cases a
      | some r => rw [hp] at a b; cases a; cases b; exact ⟨rfl, rfl, hγ.tea _⟩) hcs
    have hz : 0 < sz := by rw [← c2]; exact (C.E e).pos
    have hE : Eff o.op o.dst ds ⟨.gs (.l (site o.dst) 2) n, [((site o.dst, 2), some ⟨e, sz, cs'.map weak⟩)], [site o.dst], none⟩ ((ds.set (site o.dst) 2 (some ⟨e, sz, cs'.map weak, false⟩)).put o.dst (.gs (.l (site o.dst) 2) n)) := by
      rw [ho]
      refine kx_ok (C := []) ?_ trivial hk
      simp only [kx, hγ.nw _ hn, e2]
      rw [if_pos ⟨c1, hz, c3⟩]
    have hcl : cs.length = n * sz := by rw [tfill_len _ _ _ hcs, len_rep]; rw [← (TL.cvAs (P := P) (C := C) (ts := ts) (χ := χ) z).1, c1]
    refine SR_new (b := .lrow e n (cs.map Go.AV.twk)) (w := trw) hγ hn hE (fun p hp => ?_) rfl ⟨rfl, c2.symm, (TL.twk t).1, by simp [hcl, c2], (TL.twk t).2⟩ (fun q => .rw _ _ n q (by rw [tb_new]; rfl) (upd_at' _ _ _ _)) hX
    simp only [List.mem_singleton] at hp; subst hp; simp [twk', ho]
  · exact h.elim
theorem eqO_ok {x y : AOpd} {k k' : IntKind} {n m : Int} (h : eqO x y = true) (hx : ev (lkF ds.fr) x = .it k n) (hy : ev (lkF ds.fr) y = .it k' m) : n = m := by
  unfold eqO at h
  split at h
  · have := nbeq.1 h; subst this; rw [hx] at hy; cases hy; rfl
  · have := of_decide_eq_true h
    simp only [ev] at hx hy
    cases hx; cases hy; exact this
  · cases h
theorem cl_rep {T : Type} (E : Enc T) (v : T) : ∀ n, cl E (List.replicate n v) = (List.replicate n (E.c v)).flatten
  | 0 => rfl
  | n + 1 => by rw [List.replicate_succ, List.replicate_succ, List.flatten_cons, ← cl_rep E v n]; simp [cl]
theorem dwks_rep (z : List AV) : ∀ n, dwks (List.replicate n z).flatten = (List.replicate n (dwks z)).flatten
  | 0 => rfl
  | n + 1 => by rw [List.replicate_succ, List.replicate_succ, List.flatten_cons, List.flatten_cons, dwks_app, dwks_rep z n]
theorem tmks_ok (hC : CxOk P C) (hγ : GM P C R ts χ ds) (hk : DOk ds) {F : Cf K} (hF : F.C = C) {o : AO} {e sz bytes : Nat} {z : List AV} {x y : AOpd} {X : TS K → Prop} {dr : Bool} (ho : o.op = .mks e sz bytes z x y) (h : step F dr o ts X) : SR P C R o ts ds X := by
  unfold step at h
  rw [ho, hF] at h
  simp only at h
  split at h
  · rename_i k q k' q' v e1 e2 e3
    split at h
    · rename_i hc
      simp only [Bool.and_eq_true] at hc
      obtain ⟨⟨c1, c2⟩, c3⟩ := hc
      have c1 := nbeq.1 c1
      have c2 := nbeq.1 c2
      obtain ⟨hn, h0, h1, h2, hX⟩ := tfresh_out h
      have hx := (hγ.tev x).int e1
      have hy := (hγ.tev y).int e2
      have hqq := eqO_ok c3 hx hy
      have hz : 0 < sz := by rw [← c2]; exact (C.E e).pos
      have hE : Eff o.op o.dst ds ⟨.gs (.l (site o.dst) 2) q.toNat, [((site o.dst, 2), some ⟨e, sz, zerosL z q.toNat⟩)], [site o.dst], none⟩ ((ds.set (site o.dst) 2 (some ⟨e, sz, zerosL z q.toNat, false⟩)).put o.dst (.gs (.l (site o.dst) 2) q.toNat)) := by
        rw [ho]
        refine ⟨?_, new_app (b := ⟨e, sz, zerosL z q.toNat, false⟩) (hγ.nw _ hn), DOk.put (hk.set (.inr rfl) fun x hx => by cases hx; exact ⟨Nat.pos_iff_ne_zero.1 hz, fun q => by cases q⟩)⟩
        simp only [effA]
        rw [toD_fr, hx, hy]
        simp only
        rw [if_pos ⟨hqq, h0, c1, hz, h1, h2⟩, effNew_D (hγ.nw _ hn)]
        rfl
      have hcells : dwks (zerosL z q.toNat) = cl (C.E e) (List.replicate q.toNat v) := by
        have t := (TL.cvAs (P := P) (C := C) (ts := ts) (χ := χ) z).mapS
        have := hC.rd e _ v ts χ z e3 t.1 t.2
        unfold zerosL
        rw [dwks_rep, this, cl_rep]
      refine SR_new (b := .row e (List.replicate q.toNat v)) (w := trw) hγ hn hE (fun p hp => ?_) rfl ⟨rfl, c2.symm, hcells⟩ (fun q => .rw _ _ _ q (by rw [tb_new]; simp [tln]) (upd_at' _ _ _ _)) hX
      simp only [List.mem_singleton] at hp; subst hp; simp [twk', ho]
    · exact h.elim
  · exact h.elim
theorem tln_ok {s c n : Nat} (h : tln (ts.tb s c) = some n) : okr ts s c := by
  cases hq : ts.tb s c with
  | none => rw [hq] at h; cases h
  | some b0 => exact tb_ok hq
theorem tiad_ok (hC : CxOk P C) (hγ : GM P C R ts χ ds) (hk : DOk ds) {F : Cf K} (hF : F.C = C) {o : AO} {sz : Nat} {x i : AOpd} {X : TS K → Prop} {dr : Bool} (ho : o.op = .iad sz x i) (h : step F dr o ts X) : SR P C R o ts ds X := by
  unfold step at h
  rw [ho, hF] at h
  simp only at h
  split at h
  · rename_i k q e1
    have hi := (hγ.tev i).int e1
    have hx := hγ.tev x
    unfold tiad at h
    split at h
    · rename_i e l ex
      split at h
      · rename_i hz
        have hz := nbeq.1 hz
        obtain ⟨h0, h1, hX⟩ := h
        rw [ex] at hx
        obtain ⟨z, xs, hxs, hv⟩ := hx.sli
        refine SR_val hγ (TR.ep e l q.toNat 0 xs hxs) ?_ hX
        rw [ho]
        refine kx_ok (C := [0 ≤ q ∧ q < (l.length : Int)]) ?_ ⟨⟨h0, h1⟩, trivial⟩ hk
        simp only [kx, kpv, hv, hi, hz, Nat.add_zero]
      · exact h.elim
    · rename_i s c ex
      split at h
      · rename_i hz
        have hz := nbeq.1 hz
        obtain ⟨l, hl, h0, h1, hX⟩ := wpo'_out h
        rw [ex] at hx
        obtain ⟨g1, g2, g3⟩ := hγ.trow hC hl
        rcases hx.rwi g1 with ⟨hχ, hv⟩ | ⟨hχ, hn, _⟩
        · have hro : okr ts s c := tln_ok g1
          refine SR_val hγ (TR.pr _ s c q.toNat 0 hro hχ) ?_ hX
          rw [ho]
          refine kx_ok (C := [0 ≤ q ∧ q < (l.length : Int)]) ?_ ⟨⟨h0, h1⟩, trivial⟩ hk
          obtain ⟨kb, k1, _⟩ := g3 hχ
          have hlv : liveB (toD ds) (.l s c) = true := by show ((ds.kb s c).map KB.blk).isSome = true; rw [k1]; rfl
          simp only [kx, kpv, hv, hi, hlv, hz, Nat.add_zero]
        · rw [hn] at h1; exact absurd h1 (by omega)
      · exact h.elim
    · exact h.elim
  · exact h.elim
theorem eff_quiet' {u : AOp} {d : Option Nat} {D : List Prop} {v : AV} (hk : DOk ds) (hm : isMem u = false) (h : kpv (liveB (toD ds)) ds.fr u = some (D, v)) (hD : AllP D) : Eff u d ds (eff1 v) (ds.put d v) := by
  refine kx_ok (C := D) ?_ hD hk
  unfold kx
  split <;> first | (cases hm; done) | (rw [h])
theorem tlen_ok (hγ : GM P C R ts χ ds) (hk : DOk ds) {o : AO} {x : AOpd} {X : TS K → Prop} (ho : o.op = .len x) (h : tlen C true ts (fun v => X (ts.put o.dst v)) (tev ts.fr x)) : SR P C R o ts ds X := by
  have hx := hγ.tev x
  have fin : ∀ {u : TV K} {v : AV}, TR P C ts χ u v → pval (liveB (toD ds)) (ev (lkF ds.fr)) (.len x) = some v → X (ts.put o.dst u) → SR P C R o ts ds X := by
    intro u v hv hp hX
    refine SR_val hγ hv ?_ hX
    rw [ho]
    exact eff_quiet' hk rfl (show kok (pval (liveB (toD ds)) (ev (lkF ds.fr)) (.len x)) = some ([], v) by rw [hp]; rfl) trivial
  unfold tlen at h
  split at h
  · rename_i e l ex
    rw [ex] at hx
    obtain ⟨z, xs, hxs, hv⟩ := hx.sli
    exact fin (.it .i64 _) (by simp only [pval, hv]) h
  · rename_i ex
    rw [ex] at hx
    have : ev (lkF ds.fr) x = .sl true 0 [] := by
      revert hx; generalize ev (lkF ds.fr) x = w; intro hx; cases hx; rfl
    exact fin (.li .i64 0) (by simp only [pval, this]; rfl) h
  · rename_i ex
    rw [ex] at hx
    have : ∃ z, ev (lkF ds.fr) x = .sl z 0 [] := by
      revert hx; generalize ev (lkF ds.fr) x = w; intro hx; cases hx; exact ⟨_, rfl⟩
    obtain ⟨z, this⟩ := this
    exact fin (.li .i64 0) (by simp only [pval, this]; rfl) h
  · rename_i s c ex
    rw [ex] at hx
    have go : ∀ {n : Nat} {b : TB K} {u : TV K}, ts.tb s c = some b → tln (some b) = some n → TR P C ts χ u (.it .i64 (n : Int)) → X (ts.put o.dst u) → SR P C R o ts ds X := by
      intro n b u hb hn hu hX
      rcases hx.rwi (n := n) (by rw [hb]; exact hn) with ⟨hχ, hv⟩ | ⟨hχ, h0, hv⟩
      · exact fin hu (by simp only [pval, hv, hγ.live hb hχ, if_true]) hX
      · subst h0; exact fin hu (by simp only [pval, hv]) hX
    split at h
    · rename_i e l hb; exact go hb rfl (.it _ _) h
    · rename_i e n cs hb; exact go hb rfl (.li _ _) h
    · exact h.elim
  · exact h.elim
end
end Go.AV

