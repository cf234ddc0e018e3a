/-
  Typed states: append, cut; every operation that is no call.
-/
import Derived.Test.YteoohihaibgplaaDoorDnU
namespace Go.AV
open Go.RowKit Go.RG Go.Lib
variable {K : Nat → Type}
section
variable {P : Program} {C : Cx K} {R : List (HO K) → Hp → Nat → Prop} {ts ts' : TS K} {χ χ' : Nat → Nat → Bool} {ds : DS}

theorem AllP_if {b : Bool} {c : Prop} (h : AllP (ifL b c)) : b = false → c := by
  intro e; subst e; exact h.1
theorem tfew_ok (hC : CxOk P C) (hγ : GM P C R ts χ ds) {s c e : Nat} {l : List (K e)} (hl : trow C e (ts.tb s c) = some l) (h : tfew (ts.tb s c) = true) : l.length ≤ 1000 := by
  obtain ⟨g1, _⟩ := hγ.trow hC hl
  unfold tfew at h
  split at h
  · rename_i e' n cs hb
    rw [hb] at g1
    cases g1
    exact Nat.le_of_ble_eq_true h
  · cases h
theorem tsrc_ok (hC : CxOk P C) (hγ : GM P C R ts χ ds) {e : Nat} {u : TV K} {v : AV} {l2 : List (K e)} (hv : TR P C ts χ u v) (h : tsrc C e ts u = some l2) : ∃ ys, srcA (toD ds) v = some (l2.length, ys) ∧ dwks ys = cl (C.E e) l2 := by
  unfold tsrc at h
  split at h
  · obtain ⟨rfl, rfl⟩ := castL_out h
    obtain ⟨z, xs, hx, rfl⟩ := hv.sli
    exact ⟨xs, rfl, hx⟩
  · rename_i s c
    obtain ⟨g1, g2, g3⟩ := hγ.trow hC h
    rcases hv.rwi g1 with ⟨hχ, rfl⟩ | ⟨hχ, h0, rfl⟩
    · obtain ⟨kb, k1, k2, k3, k4⟩ := g3 hχ
      refine ⟨kb.cells, ?_, k4⟩
      show (((ds.kb s c).map KB.blk).bind fun b => if b.sz = 0 then none else some (l2.length, b.cells)) = _
      rw [k1]
      show (if kb.sz = 0 then none else some (l2.length, kb.cells)) = _
      rw [if_neg (by rw [k3]; exact Nat.pos_iff_ne_zero.1 (C.E e).pos)]
    · have := g2 hχ; subst this
      exact ⟨[], rfl, rfl⟩
  · cases h; cases hv; exact ⟨[], rfl, rfl⟩
  · cases h; cases hv; exact ⟨[], rfl, rfl⟩
  · cases h
theorem tshort_ok (hC : CxOk P C) (hγ : GM P C R ts χ ds) {e : Nat} {u : TV K} {l2 : List (K e)} (h : tsrc C e ts u = some l2) (hc : AllP (ifL (tshort ts u) (l2.length ≤ 400000000))) : l2.length ≤ 400000000 := by
  cases hs : tshort ts u with
  | false => exact AllP_if hc hs
  | true =>
    unfold tshort at hs
    split at hs
    · have := tfew_ok hC hγ (by simpa [tsrc] using h) hs; omega
    · simp only [tsrc] at h; cases h; simp
    · simp only [tsrc] at h; cases h; simp
    · cases hs
/-- a place is forgotten -/
theorem GM.kill {s c : Nat} (hγ : GM P C R ts χ ds) (hc : c = 1 ∨ c = 2) : GM P C R (ts.setb s c none) (updχ χ s c false) ds := by
  have hm : Mono ts (ts.setb s c none) χ (updχ χ s c false) := Mono.setb hc (fun _ => .inl ⟨rfl, rfl⟩)
  refine ⟨fun t => ?_, fun s' c' b' h1 h2 => ?_, fun s' c' h1 => ?_, fun s' h1 => ?_, by rw [setb_h]; exact hγ.hp⟩
  · rw [setb_fr]; exact (hγ.fr t).mono hm
  · rw [setb_tb ts s c none hc] at h1
    unfold updχ at h2
    by_cases e : s' = s ∧ c' = c
    · rw [if_pos e] at h1; cases h1
    · rw [if_neg e] at h1 h2
      obtain ⟨k', q1, q2⟩ := hγ.mb s' c' b' h1 h2
      exact ⟨k', q1, q2.mono hm⟩
  · unfold updχ at h1
    rw [setb_tb ts s c none hc]
    by_cases e : s' = s ∧ c' = c
    · rw [if_pos e] at h1; cases h1
    · rw [if_neg e] at h1 ⊢; exact hγ.vi s' c' h1
  · rcases hc with rfl | rfl
    · exact hγ.nw s' h1
    · have h1' : (Nat.beq s s' || memB ts.nw s') = false := h1
      simp only [Bool.or_eq_false_iff] at h1'
      exact hγ.nw s' h1'.2
/-- what append comes to -/
structure AppC (u : AOp) (d : Option Nat) (ds : DS) (x : AOpd) (e sz m : Nat) (ys : List AV) : Prop where
  eff : effA (fun _ => false) u d (toD ds) = effApp (fun _ => false) (site d) e sz m ys (toD ds) (ev (lkF ds.fr) x)
  pos : 0 < sz
theorem eff_app_nil {u : AOp} {d : Option Nat} {x : AOpd} {e sz m n : Nat} {ys xs : List AV} (hk : DOk ds) (hA : AppC u d ds x e sz m ys) (hx : ev (lkF ds.fr) x = .sl true n xs) (hm : 0 < m) (hnw : memO ds.nw (site d) = false) :
    Eff u d ds ⟨.gs (.l (site d) 2) m, [((site d, 2), some ⟨e, sz, ys⟩)], [site d], none⟩ ((ds.set (site d) 2 (some ⟨e, sz, ys, false⟩)).put d (.gs (.l (site d) 2) m)) := by
  refine ⟨?_, new_app (b := ⟨e, sz, ys, false⟩) hnw, DOk.put (hk.set (.inr rfl) fun x hx => by cases hx; exact ⟨Nat.pos_iff_ne_zero.1 hA.pos, fun q => by cases q⟩)⟩
  rw [hA.eff, hx]
  simp only [effApp]
  rw [if_neg (by omega), effNew_D hnw]
  rfl
theorem eff_app_00 {u : AOp} {d : Option Nat} {x : AOpd} {e sz m n : Nat} {ys xs : List AV} (hk : DOk ds) (hA : AppC u d ds x e sz m ys) (hx : ev (lkF ds.fr) x = .sl true n xs) (hm : m = 0) :
    Eff u d ds (eff1 (.sl true 0 [])) (ds.put d (.sl true 0 [])) := by
  refine ⟨?_, eff1_app _ d ds, hk.put⟩
  rw [hA.eff, hx]
  simp only [effApp]
  rw [if_pos hm]
theorem eff_app_own {u : AOp} {d : Option Nat} {x : AOpd} {e sz m n s c : Nat} {ys : List AV} {kb : KB} (hk : DOk ds) (hA : AppC u d ds x e sz m ys) (hx : ev (lkF ds.fr) x = .gs (.l s c) n) (hm : ds.kb s c = some kb) (he : kb.e = e) (hz : kb.sz = sz) (hl : kb.cells.length = n * sz) (hn : n ≤ 1000000000) (hnw : memO ds.nw (site d) = false) :
    Eff u d ds ⟨.gs (.l (site d) 2) (n + m), [((s, c), none), ((site d, 2), some ⟨e, sz, kb.cells ++ ys⟩)], [site d], none⟩ (((ds.set s c none).set (site d) 2 (some ⟨e, sz, kb.cells ++ ys, false⟩)).put d (.gs (.l (site d) 2) (n + m))) := by
  have hcc := kb_c hm
  refine ⟨?_, newX_app (b := ⟨e, sz, kb.cells ++ ys, false⟩) hnw hcc, DOk.put ((hk.set (hcc.imp id (·.1)) fun x hx => by cases hx).set (.inr rfl) fun x hx => by cases hx; exact ⟨Nat.pos_iff_ne_zero.1 hA.pos, fun q => by cases q⟩)⟩
  rw [hA.eff, hx]
  simp only [effApp]
  show (((ds.kb s c).map KB.blk).bind _) = _
  rw [hm]
  simp only [Option.map_some, Option.bind_some, KB.blk]
  rw [if_pos ⟨he, hz, hl, hn⟩, effNew_D hnw]
  rfl
theorem tapp_ok (hC : CxOk P C) (hγ : GM P C R ts χ ds) (hk : DOk ds) {o : AO} {x : AOpd} {e : Nat} {l2 : List (K e)} {c2 : List Prop} {ys : List AV} {X : TS K → Prop} (h : tapp C e o.dst ts l2 c2 X (tev ts.fr x)) (hA : AllP c2 → AppC o.op o.dst ds x e (C.E e).sz l2.length ys) (hys : dwks ys = cl (C.E e) l2)
    (hw : twk' ts o = (site o.dst, 2) :: trf (tev ts.fr x)) : SR P C R o ts ds X := by
  have hx := hγ.tev x
  have hyl : ys.length = l2.length * (C.E e).sz := by rw [← dwks_len ys, hys, cl_len]
  -- onto nothing
  have nilC : ∀ {ts0 : TS K} {χ0 : Nat → Nat → Bool}, GM P C R ts0 χ0 ds → memB ts0.nw (site o.dst) = false → ts0.rg = ts.rg → AllP c2 → ev (lkF ds.fr) x = .sl true 0 [] → X (tnew ts0 o.dst (.row e l2) trw) → SR P C R o ts ds X := by
    intro ts0 χ0 hγ0 hn hrg hc hev hX
    have hnw := hγ0.nw _ hn
    by_cases h0 : l2 = []
    · subst h0
      have hE := eff_app_00 hk (hA hc) hev rfl
      refine ⟨_, _, _, _, hE, fun p hp => (by cases hp), rfl, GM.put (hγ0.setv hn) ?_, hX, by rw [put_rg, setb_rg, hrg]⟩
      exact .rwn _ _ (okr_new _ _ _) (by rw [tb_new]; rfl) (upd_at' _ _ _ _)
    · have hm : 0 < l2.length := List.length_pos_iff.2 h0
      have hE := eff_app_nil hk (hA hc) hev hm hnw
      have hg := hγ0.setb (s := site o.dst) (c := 2) (b := some (.row e l2)) (kb := some ⟨e, (C.E e).sz, ys, false⟩) (.inr rfl) (Mono.new hn) (fun b' hb' => ⟨_, rfl, by cases hb'; exact ⟨rfl, rfl, hys⟩⟩)
      refine ⟨_, _, _, _, hE, fun p hp => ?_, rfl, hg.put (.rw _ _ _ (okr_new _ _ _) (by rw [tb_new]; rfl) (upd_at' _ _ _ _)), hX, by rw [put_rg, setb_rg, hrg]⟩
      simp only [List.mem_singleton] at hp; subst hp; rw [hw]; simp
  unfold tapp at h
  split at h
  · rename_i ex
    obtain ⟨hn, h⟩ := tfresh_out h
    obtain ⟨hc, hX⟩ := andL_out h
    rw [ex] at hx
    have hev : ev (lkF ds.fr) x = .sl true 0 [] := by
      revert hx; generalize ev (lkF ds.fr) x = w; intro hx; cases hx; rfl
    exact nilC hγ hn rfl hc hev hX
  · rename_i s c ex
    obtain ⟨hn, h⟩ := tfresh_out h
    obtain ⟨l, hl, h⟩ := wpo'_out h
    obtain ⟨hc1, h⟩ := andL_out h
    obtain ⟨hc, hX⟩ := andL_out h
    rw [ex] at hx
    obtain ⟨g1, g2, g3⟩ := hγ.trow hC hl
    have hok := tln_ok g1
    have hcc : c = 1 ∨ c = 2 := hok.imp id (·.1)
    have hne : ¬ (s = site o.dst ∧ c = 2) := by
      rintro ⟨rfl, rfl⟩; exact fresh_ok hn hok
    have hn' : memB (ts.setb s c none).nw (site o.dst) = false := by
      rcases hcc with rfl | rfl
      · exact hn
      · show (Nat.beq s (site o.dst) || memB ts.nw (site o.dst)) = false
        rw [hn, Bool.or_false]
        cases hq : Nat.beq s (site o.dst) with
        | false => rfl
        | true => exact (hne ⟨nbeq.1 hq, rfl⟩).elim
    rcases hx.rwi g1 with ⟨hχ, hv⟩ | ⟨hχ, hz, hv⟩
    · obtain ⟨kb, k1, k2, k3, k4⟩ := g3 hχ
      have hlen : l.length ≤ 1000000000 := by
        cases hf : tfew (ts.tb s c) with
        | false => exact AllP_if hc1 hf
        | true => have := tfew_ok hC hγ hl hf; omega
      have hkl : kb.cells.length = l.length * (C.E e).sz := by rw [← dwks_len kb.cells, k4, cl_len]
      have hE := eff_app_own hk (hA hc) hv k1 k2 k3 hkl hlen (hγ.nw _ hn)
      have hg1 := hγ.setb (s := s) (c := c) (b := none) (kb := none) hcc (Mono.setb hcc (fun _ => .inl ⟨rfl, rfl⟩)) (fun b' hb' => by cases hb')
      have hg2 := hg1.setb (s := site o.dst) (c := 2) (b := some (.row e (l ++ l2))) (kb := some ⟨e, (C.E e).sz, kb.cells ++ ys, false⟩) (.inr rfl) (Mono.new hn') (fun b' hb' => ⟨_, rfl, by cases hb'; exact ⟨rfl, rfl, by show dwks (kb.cells ++ ys) = _; rw [dwks_app, k4, hys, cl_app]⟩⟩)
      refine ⟨_, _, _, _, hE, fun p hp => ?_, rfl, hg2.put (.rw _ _ _ (okr_new _ _ _) (by rw [tb_new]; simp [tln]) (upd_at' _ _ _ _)), hX, by rw [put_rg, setb_rg, setb_rg]⟩
      simp only [List.mem_cons, List.not_mem_nil, or_false] at hp
      rw [hw, ex]
      rcases hp with rfl | rfl <;> simp [trf]
    · have := g2 hχ; subst this
      exact nilC (hγ.kill (s := s) (c := c) hcc) hn' (setb_rg _ _ _ _) hc hv (by simpa using hX)
  · exact h.elim
theorem bytes_ok {e : Nat} {f : K e → UInt8} (hC : CxOk P C) (hf : (C.T e).tb = some f) : ∀ (l : List (K e)) (ys : List AV), dwks ys = cl (C.E e) l → bytesA ys = some (l.map f) ∧ ys.length = l.length
  | [], ys, h => by
    have : ys = [] := by cases ys with | nil => rfl | cons => simp [dwks, cl] at h
    subst this; exact ⟨rfl, rfl⟩
  | x :: l, ys, h => by
    obtain ⟨n, h1, h2⟩ := hC.tb e f hf x
    rw [show cl (C.E e) (x :: l) = (C.E e).c x ++ cl (C.E e) l by simp [cl], h1] at h
    cases ys with
    | nil => simp [dwks] at h
    | cons y ys =>
      simp only [dwks, List.cons_append, List.nil_append, List.cons.injEq] at h
      obtain ⟨a1, a2⟩ := bytes_ok hC hf l ys h.2
      have : y = .it .u8 n := by
        have h1 := h.1
        cases y <;> simp [dwk] at h1
        obtain ⟨rfl, rfl⟩ := h1; rfl
      subst this
      exact ⟨by simp only [bytesA, byteA, a1, List.map_cons, h2], by simp [a2]⟩
theorem tb2s_ok (hC : CxOk P C) (hγ : GM P C R ts χ ds) (hk : DOk ds) {F : Cf K} (hF : F.C = C) {o : AO} {x : AOpd} {X : TS K → Prop} {dr : Bool} (ho : o.op = .b2s x) (h : step F dr o ts X) : SR P C R o ts ds X := by
  unfold step at h
  rw [ho, hF] at h
  simp only at h
  have hx := hγ.tev x
  have fin : ∀ {s : Str}, effA (fun _ => false) (.b2s x) o.dst (toD ds) = some (eff1 (.st s)) → X (ts.put o.dst (.st s)) → SR P C R o ts ds X := by
    intro s he hX
    exact SR_val hγ (.st s) (by rw [ho]; exact ⟨he, eff1_app _ _ _, hk.put⟩) hX
  split at h
  · rename_i e l ex
    rw [ex] at hx
    obtain ⟨z, xs, hxs, hv⟩ := hx.sli
    split at h
    · rename_i f hf
      obtain ⟨b1, b2⟩ := bytes_ok hC hf l xs hxs
      refine fin ?_ h
      simp only [effA]
      rw [toD_fr, hv]
      simp only
      rw [if_pos b2, b1]; rfl
    · exact h.elim
  · rename_i s c ex
    rw [ex] at hx
    split at h
    · rename_i f l hf hl
      obtain ⟨g1, g2, g3⟩ := hγ.trow hC hl
      rcases hx.rwi g1 with ⟨hχ, hv⟩ | ⟨hχ, h0, hv⟩
      · obtain ⟨kb, k1, k2, k3, k4⟩ := g3 hχ
        obtain ⟨b1, b2⟩ := bytes_ok hC hf l kb.cells k4
        refine fin ?_ h
        simp only [effA]
        rw [toD_fr, hv]
        simp only
        show (((ds.kb s c).map KB.blk).bind _) = _
        rw [k1]
        simp only [Option.map_some, Option.bind_some, KB.blk]
        rw [if_pos ⟨by rw [k3]; exact Nat.pos_iff_ne_zero.1 (C.E _).pos, b2⟩, b1]; rfl
      · have := g2 hχ; subst this
        refine fin ?_ h
        simp only [effA]
        rw [toD_fr, hv]
        rfl
    · exact h.elim
  · rename_i ex
    rw [ex] at hx
    have hev : ev (lkF ds.fr) x = .sl true 0 [] := by
      revert hx; generalize ev (lkF ds.fr) x = w; intro hx; cases hx; rfl
    refine fin ?_ h
    simp only [effA]
    rw [toD_fr, hev]
    rfl
  · exact h.elim
/-! ### a row is cut -/
structure MonoX (s c : Nat) (ts ts' : TS K) (χ χ' : Nat → Nat → Bool) : Prop where
  rg : ∀ id u, lkR ts.rg id = some u → lkR ts'.rg id = some u
  ok : ∀ s c, okr ts s c → okr ts' s c
  pl : ∀ s' c', ¬ (s' = s ∧ c' = c) → okr ts s' c' → (tln (ts'.tb s' c') = none ∧ χ' s' c' = false) ∨ (tln (ts'.tb s' c') = tln (ts.tb s' c') ∧ χ' s' c' = χ s' c')
theorem tdrops_at (s c : Nat) (l : List (TV K)) (j : Nat) : (tdrops s c l)[j]? = (l[j]?).map (tdrop s c) := by
  induction l generalizing j with
  | nil => simp [tdrops]
  | cons x l ih => cases j with
    | zero => simp [tdrops]
    | succ j => simp [tdrops, ih]
theorem tdrops_len (s c : Nat) (l : List (TV K)) : (tdrops s c l).length = l.length := by
  induction l with
  | nil => rfl
  | cons x l ih => simp [tdrops, ih]
theorem beq2 {a b c d : Nat} (h : (Nat.beq a b && Nat.beq c d) = false) : ¬ (b = a ∧ d = c) := by
  rintro ⟨rfl, rfl⟩; rw [nbeq.2 rfl, nbeq.2 rfl] at h; cases h
theorem TR.drop {s c : Nat} (hm : MonoX s c ts ts' χ χ') {u : TV K} {v : AV} (h : TR P C ts χ u v) : TR P C ts' χ' (tdrop s c u) v := by
  induction h with
  | cn id u v h hn hv _ => exact .cn id u v (hm.rg id u h) hn (hv.noref hn).1
  | un v => exact .un v
  | lb b => exact .lb b
  | bl b => exact .bl b
  | li k n => exact .li k n
  | it k n => exact .it k n
  | st s => exact .st s
  | agg us vs hl _ ih =>
    refine .agg _ vs (by rw [tdrops_len]; exact hl) (fun j u v h1 h2 => ?_)
    rw [tdrops_at] at h1
    obtain ⟨u', e1, rfl⟩ := Option.map_eq_some_iff.1 h1
    exact ih j u' v e1 h2
  | tup us vs hl _ ih =>
    refine .tup _ vs (by rw [tdrops_len]; exact hl) (fun j u v h1 h2 => ?_)
    rw [tdrops_at] at h1
    obtain ⟨u', e1, rfl⟩ := Option.map_eq_some_iff.1 h1
    exact ih j u' v e1 h2
  | nil => exact .nil
  | em z => exact .em z
  | sl e l z n xs hn hx => exact .sl e l z n xs hn hx
  | rwd s' c' v hr h ho =>
    simp only [tdrop]
    split
    · exact .un _
    · rename_i e
      refine .rwd s' c' v (hm.ok s' c' hr) ?_ ho
      rcases hm.pl s' c' (beq2 e) hr with h1 | h1
      · exact h1.1
      · rw [h1.1]; exact h
  | rw s' c' n hr h hx =>
    simp only [tdrop]
    split
    · exact .un _
    · rename_i e
      rcases hm.pl s' c' (beq2 e) hr with h1 | h1
      · exact .rwd s' c' _ (hm.ok s' c' hr) h1.1 rfl
      · exact .rw s' c' n (hm.ok s' c' hr) (by rw [h1.1]; exact h) (by rw [h1.2]; exact hx)
  | rwn s' c' hr h hx =>
    simp only [tdrop]
    split
    · exact .un _
    · rename_i e
      rcases hm.pl s' c' (beq2 e) hr with h1 | h1
      · exact .rwd s' c' _ (hm.ok s' c' hr) h1.1 rfl
      · exact .rwn s' c' (hm.ok s' c' hr) (by rw [h1.1]; exact h) (by rw [h1.2]; exact hx)
  | px s' c' off hr => exact .px s' c' off (hm.ok s' c' hr)
  | pr e0 s' c' i of hr hx =>
    simp only [tdrop]
    split
    · exact .un _
    · rename_i e
      refine .pr e0 s' c' i of (hm.ok s' c' hr) ?_
      rcases hm.pl s' c' (beq2 e) hr with h1 | h1
      · exact h1.2
      · rw [h1.2]; exact hx
  | ep e l i of xs hx => exact .ep e l i of xs hx
  | gs l i xs hx => exact .gs l i xs hx
  | nptr => exact .nptr
  | fn f a c a' c' ha hc _ _ ih ih' => exact .un _
  | fv ps rs F v h hv => exact .fv ps rs F v h hv
theorem mapF_at (f : TV K → TV K) (hf : f .un = .un) : ∀ (l : List (Nat × TV K)) (t : Nat), lkT (mapF f l) t = f (lkT l t)
  | [], t => hf.symm
  | p :: r, t => by
    rw [show mapF f (p :: r) = (p.1, f p.2) :: mapF f r from rfl, lkT_put, mapF_at f hf r t]
    rw [show p :: r = (p.1, p.2) :: r from rfl, lkT_put]
    split <;> rfl
theorem mapM_at (f : TV K → TV K) : ∀ (l : List (Nat × Option (TB K))) (t : Nat), lkB (mapM f l) t = mapB f (lkB l t)
  | [], t => rfl
  | p :: r, t => by
    rw [show mapM f (p :: r) = (p.1, mapB f p.2) :: mapM f r from rfl, lkB_cons, lkB_cons, mapM_at f r t]
    split <;> rfl
theorem mapM_mem (f : TV K → TV K) : ∀ (l : List (Nat × Option (TB K))) (t : Nat), memB (mapM f l) t = memB l t
  | [], t => rfl
  | p :: r, t => by show (Nat.beq p.1 t || memB (mapM f r) t) = (Nat.beq p.1 t || memB r t); rw [mapM_mem f r t]
theorem mapv_tb (ts : TS K) (f : TV K → TV K) (s c : Nat) : (ts.mapv f).tb s c = mapB f (ts.tb s c) := by
  unfold TS.tb TS.mapv
  cases Nat.beq c 1 with
  | true => exact mapM_at f _ _
  | false => cases Nat.beq c 2 with
    | true => exact mapM_at f _ _
    | false => rfl
theorem tln_map (f : TV K → TV K) (b : Option (TB K)) : tln (mapB f b) = tln b := by
  cases b with
  | none => rfl
  | some b => cases b <;> rfl
/-- a row is cut: other ways to it are dropped -/
theorem GM.cut {s c e : Nat} {l : List (K e)} {kb : Option KB} {v : Bool} {ds' : DS} (hγ : GM P C R ts χ ds) (hc : c = 1 ∨ c = 2) (hok : okr ts s c) (hds : ds' = match v with | true => ds | false => ds.set s c kb)
    (hb : v = false → ∃ k', kb = some k' ∧ k'.e = e ∧ k'.sz = (C.E e).sz ∧ dwks k'.cells = cl (C.E e) l) (hv : v = true → l = []) : GM P C R ((ts.mapv (tdrop s c)).setb s c (some (.row e l))) (updχ χ s c v) ds' := by
  have hokm : ∀ s' c', okr ts s' c' → okr (ts.mapv (tdrop s c)) s' c' := by
    intro s' c' q
    rcases q with q | ⟨q1, q2⟩
    · exact .inl q
    · exact .inr ⟨q1, by show memB (mapM _ ts.nw) s' = true; rw [mapM_mem]; exact q2⟩
  have hm : MonoX s c ts ((ts.mapv (tdrop s c)).setb s c (some (.row e l))) χ (updχ χ s c v) := by
    refine ⟨fun id u q => by rw [setb_rg]; exact q, fun s' c' q => setb_okr _ _ _ _ hc (hokm s' c' q), fun s' c' hne q => .inr ⟨?_, ?_⟩⟩
    · rw [setb_tb _ s c _ hc, if_neg hne, mapv_tb, tln_map]
    · unfold updχ; rw [if_neg hne]
  have hkb : ∀ s' c', ¬ (s' = s ∧ c' = c) → ds'.kb s' c' = ds.kb s' c' := by
    intro s' c' hne
    subst hds
    cases v with
    | true => rfl
    | false => show (ds.set s c kb).kb s' c' = _; rw [set_kb ds s c kb hc, if_neg hne]
  refine ⟨fun t => ?_, fun s' c' b' h1 h2 => ?_, fun s' c' h1 => ?_, fun s' h1 => ?_, ?_⟩
  rotate_right
  · rw [setb_h]
    show R ts.h ds'.H ds'.nx
    subst hds
    cases v with
    | true => exact hγ.hp
    | false => show R ts.h (ds.set s c kb).H (ds.set s c kb).nx; rw [set_H, set_nx]; exact hγ.hp
  · rw [setb_fr]
    show TR P C _ _ (lkT (mapF (tdrop s c) ts.fr) t) _
    rw [mapF_at _ rfl]
    have : lkF ds'.fr t = lkF ds.fr t := by
      subst hds
      cases v with
      | true => rfl
      | false => show lkF (ds.set s c kb).fr t = _; rw [set_fr]
    rw [this]
    exact (hγ.fr t).drop hm
  · rw [setb_tb _ s c _ hc] at h1
    unfold updχ at h2
    by_cases e' : s' = s ∧ c' = c
    · rw [if_pos e'] at h1 h2
      obtain ⟨rfl, rfl⟩ := e'
      subst h2
      obtain ⟨k', q1, q2, q3, q4⟩ := hb rfl
      cases h1
      refine ⟨k', ?_, q2, q3, q4⟩
      subst hds
      show (ds.set s' c' kb).kb s' c' = _
      rw [set_kb ds s' c' kb hc]; simpa using q1
    · rw [if_neg e'] at h1 h2
      rw [mapv_tb] at h1
      rw [hkb s' c' e']
      cases hq : ts.tb s' c' with
      | none => rw [hq] at h1; cases h1
      | some b0 =>
        rw [hq] at h1
        obtain ⟨k', q1, q2⟩ := hγ.mb s' c' b0 hq h2
        refine ⟨k', q1, ?_⟩
        cases b0 with
        | row e0 l0 => cases h1; exact q2
        | box e0 cs =>
          cases h1
          refine ⟨q2.1, by simpa using q2.2.1, by simpa using q2.2.2.1, fun j u v a b => ?_⟩
          rw [List.getElem?_map] at a
          obtain ⟨u', e1, rfl⟩ := Option.map_eq_some_iff.1 a
          exact (q2.2.2.2 j u' v e1 b).drop hm
        | lrow e0 n cs =>
          cases h1
          refine ⟨q2.1, q2.2.1, by simpa using q2.2.2.1, by simpa using q2.2.2.2.1, fun j u v a b => ?_⟩
          rw [List.getElem?_map] at a
          obtain ⟨u', e1, rfl⟩ := Option.map_eq_some_iff.1 a
          exact (q2.2.2.2.2 j u' v e1 b).drop hm
  · unfold updχ at h1
    rw [setb_tb _ s c _ hc]
    by_cases e' : s' = s ∧ c' = c
    · rw [if_pos e'] at h1 ⊢
      have := hv h1; subst this
      exact ⟨_, rfl⟩
    · rw [if_neg e'] at h1 ⊢
      obtain ⟨e0, h3⟩ := hγ.vi s' c' h1
      exact ⟨e0, by rw [mapv_tb, h3]; rfl⟩
  · have hmem : memB ts.nw s' = false := by
      rcases hc with rfl | rfl
      · rw [← mapM_mem (tdrop s 1)]; exact h1
      · have h1' : (Nat.beq s s' || memB (mapM (tdrop s 2) ts.nw) s') = false := h1
        simp only [Bool.or_eq_false_iff] at h1'
        rw [← mapM_mem (tdrop s 2)]; exact h1'.2
    have := hγ.nw s' hmem
    subst hds
    cases v with
    | true => exact this
    | false =>
      show memO (ds.set s c kb).nw s' = false
      rcases hc with rfl | rfl
      · exact this
      · have h1' : (Nat.beq s s' || memB (mapM (tdrop s 2) ts.nw) s') = false := h1
        simp only [Bool.or_eq_false_iff] at h1'
        show (Nat.beq s s' || memO ds.nw s') = false
        rw [h1'.1, this]; rfl

theorem tslice_len {T : Type} {l : List T} {a b : Int} (h : 0 ≤ a ∧ a ≤ b ∧ b ≤ l.length) : (tslice l a b).length = b.toNat - a.toNat := by
  unfold tslice; simp; omega
theorem tsll_ok (hC : CxOk P C) (hγ : GM P C R ts χ ds) (hk : DOk ds) {F : Cf K} (hF : F.C = C) {o : AO} {sz : Nat} {x : AOpd} {lo hi : Option AOpd} {X : TS K → Prop} {dr : Bool} (ho : o.op = .sll sz x lo hi) (h : step F dr o ts X) : SR P C R o ts ds X := by
  unfold step at h
  rw [ho, hF] at h
  simp only at h
  have hx := hγ.tev x
  have slc : ∀ {z : Bool} {n : Nat} {xs : List AV} {a b : Int} {u : TV K}, ev (lkF ds.fr) x = .sl z n xs → bnd (ev (lkF ds.fr)) 0 lo = some a → bnd (ev (lkF ds.fr)) n hi = some b → (0 ≤ a ∧ a ≤ b ∧ b ≤ n) → TR P C ts χ u (.sl z (b.toNat - a.toNat) ((xs.drop (a.toNat * sz)).take ((b.toNat - a.toNat) * sz))) → X (ts.put o.dst u) → SR P C R o ts ds X := by
    intro z n xs a b u hev h1 h2 hc hu hX
    refine SR_val hγ hu ?_ hX
    rw [ho]
    refine ⟨?_, eff1_app _ _ _, hk.put⟩
    simp only [effA]
    rw [toD_fr, hev]
    simp only [effSll, pval]
    rw [hev]
    simp only
    rw [h1, h2]
    simp only
    rw [if_pos hc]; rfl
  split at h
  · rename_i e l ex
    rw [ex] at hx
    obtain ⟨z, xs, hxs, hv⟩ := hx.sli
    split at h
    · rename_i a b hz e1 e2
      have hz := nbeq.1 hz
      obtain ⟨hc, hX⟩ := h
      refine slc hv (tbnd_ok hγ e1) (tbnd_ok hγ e2) hc (.sl e _ z _ _ (tslice_len hc).symm ?_) hX
      rw [dwks_take, dwks_drop, hxs, hz]
      exact cl_sub (C.E e) l a.toNat (b.toNat - a.toNat)
    · exact h.elim
  · rename_i s c ex
    rw [ex] at hx
    split at h
    · rename_i l hz hl
      have hz := nbeq.1 hz
      split at h
      · rename_i b e2
        obtain ⟨hc, hX⟩ := h
        obtain ⟨g1, g2, g3⟩ := hγ.trow hC hl
        have hok := tln_ok g1
        have hcc : c = 1 ∨ c = 2 := hok.imp id (·.1)
        rcases hx.rwi g1 with ⟨hχ, hv⟩ | ⟨hχ, h0, hv⟩
        · obtain ⟨kb, k1, k2, k3, k4⟩ := g3 hχ
          have hcc2 := kb_c k1
          have hlt : (l.take b.toNat).length = b.toNat := by simp; omega
          have hE : Eff (.sll sz x none hi) o.dst ds ⟨.gs (.l s c) b.toNat, [((s, c), some ⟨kb.e, kb.sz, kb.cells.take (b.toNat * sz)⟩)], [], none⟩ ((ds.set s c (some ⟨kb.e, kb.sz, kb.cells.take (b.toNat * sz), false⟩)).put o.dst (.gs (.l s c) b.toNat)) := by
            refine ⟨?_, set_app (b := ⟨kb.e, kb.sz, kb.cells.take (b.toNat * sz), false⟩) hcc2, DOk.put (hk.set hcc fun x hx => by cases hx; exact ⟨by show kb.sz ≠ 0; rw [k3]; exact Nat.pos_iff_ne_zero.1 (C.E _).pos, fun q => by cases q⟩)⟩
            simp only [effA]
            rw [toD_fr, hv]
            simp only [effSll]
            rw [show bnd (ev (lkF ds.fr)) 0 none = some 0 from rfl, tbnd_ok hγ e2]
            simp only [effCut]
            show (((ds.kb s c).map KB.blk).bind _) = _
            rw [k1]
            simp only [Option.map_some, Option.bind_some, KB.blk]
            rw [if_pos ⟨by rw [k3, hz], by rw [hz]; exact (C.E _).pos, hc.1, hc.2, by rw [← dwks_len kb.cells, k4, cl_len, hz]; exact Nat.le_refl _⟩]
          have hg := hγ.cut (s := s) (c := c) (e := tbe (ts.tb s c)) (l := l.take b.toNat) (kb := some ⟨kb.e, kb.sz, kb.cells.take (b.toNat * sz), false⟩) (v := false) hcc hok rfl (fun _ => ⟨_, rfl, k2, k3, by
            show dwks (kb.cells.take (b.toNat * sz)) = _
            rw [dwks_take, k4, hz]
            have := cl_sub (C.E (tbe (ts.tb s c))) l 0 b.toNat
            simpa using this⟩) (fun q => by cases q)
          refine ⟨_, _, _, _, by rw [ho]; exact hE, fun p hp => ?_, rfl, hg.put (.rw s c b.toNat ?_ ?_ (upd_at' _ _ _ _)), hX, by rw [put_rg, setb_rg]; rfl⟩
          · simp only [List.mem_singleton] at hp; subst hp; simp [twk', ho, ex, trf]
          · refine setb_okr _ _ _ _ hcc ?_
            rcases hok with q | ⟨q1, q2⟩
            · exact .inl q
            · exact .inr ⟨q1, by show memB (mapM _ ts.nw) s = true; rw [mapM_mem]; exact q2⟩
          · rw [setb_tb _ s c _ hcc]; simp only [and_self, if_true, tln]; rw [hlt]
        · have := g2 hχ; subst this
          have hb0 : b = 0 := by have := hc.2; simp at this; omega
          subst hb0
          have e2' : bnd (ev (lkF ds.fr)) ((0 : Nat) : Int) hi = some 0 := tbnd_ok hγ e2
          have hE : Eff (.sll sz x none hi) o.dst ds (eff1 (.sl true 0 [])) (ds.put o.dst (.sl true 0 [])) := by
            refine ⟨?_, eff1_app _ _ _, hk.put⟩
            simp only [effA]
            rw [toD_fr, hv]
            simp only [effSll, pval]
            rw [hv]
            simp only
            rw [show bnd (ev (lkF ds.fr)) 0 none = some 0 from rfl, e2']
            simp only
            rw [if_pos ⟨by omega, by omega, by omega⟩]
            simp [effP]
          have hg := hγ.cut (s := s) (c := c) (e := tbe (ts.tb s c)) (l := ([] : List (K (tbe (ts.tb s c))))) (kb := none) (v := true) hcc hok rfl (fun q => by cases q) (fun _ => rfl)
          refine ⟨_, _, _, _, by rw [ho]; exact hE, fun p hp => (by cases hp), rfl, hg.put (.rwn s c ?_ ?_ (upd_at' _ _ _ _)), hX, by rw [put_rg, setb_rg]; rfl⟩
          · refine setb_okr _ _ _ _ hcc ?_
            rcases hok with q | ⟨q1, q2⟩
            · exact .inl q
            · exact .inr ⟨q1, by show memB (mapM _ ts.nw) s = true; rw [mapM_mem]; exact q2⟩
          · rw [setb_tb _ s c _ hcc]; simp [tln]
      · exact h.elim
    · exact h.elim
  · exact h.elim
theorem tpick_ok (hγ : GM P C R ts χ ds) (hk : DOk ds) {F : Cf K} {o : AO} {c a b : AOpd} {X : TS K → Prop} {dr : Bool} (ho : o.op = .pick c a b) (h : step F dr o ts X) : SR P C R o ts ds X := by
  unfold step at h
  rw [ho] at h
  simp only at h
  have hc := hγ.tev c
  have fin : ∀ {u : TV K} {v : AV}, TR P C ts χ u v → pval (liveB (toD ds)) (ev (lkF ds.fr)) (.pick c a b) = some v → X (ts.put o.dst u) → SR P C R o ts ds X := by
    intro u v hv hp hX
    refine SR_val hγ hv ?_ hX
    rw [ho]
    exact eff_quiet' hk rfl (show kok (pval (liveB (toD ds)) (ev (lkF ds.fr)) (.pick c a b)) = some ([], v) by rw [hp]; rfl) trivial
  split at h
  · rename_i ex; rw [ex] at hc
    exact fin (hγ.tea a) (by simp only [pval, hc.lbi]) h
  · rename_i ex; rw [ex] at hc
    exact fin (hγ.tea b) (by simp only [pval, hc.lbi]) h
  · exact h.elim
theorem tap_ok (hC : CxOk P C) (hγ : GM P C R ts χ ds) (hk : DOk ds) {F : Cf K} (hF : F.C = C) {o : AO} {e sz bytes : Nat} {x y : AOpd} {X : TS K → Prop} {dr : Bool} (ho : o.op = .app e sz bytes x y) (h : step F dr o ts X) : SR P C R o ts ds X := by
  unfold step at h
  rw [ho, hF] at h
  simp only at h
  split at h
  · rename_i hc
    simp only [Bool.and_eq_true] at hc
    have hz := nbeq.1 hc.1
    have hb := Nat.le_of_ble_eq_true hc.2
    obtain ⟨l2, hl2, h⟩ := wpo'_out h
    obtain ⟨ys, hs, hys⟩ := tsrc_ok hC hγ (hγ.tev y) hl2
    refine tapp_ok hC hγ hk h (fun hA => ?_) hys (by rw [twk', ho])
    refine ⟨?_, (C.E e).pos⟩
    rw [ho]
    simp only [effA]
    rw [toD_fr, hs, Option.bind_some, if_pos ⟨by rw [← hz]; exact (C.E e).pos, hb, by rw [← dwks_len ys, hys, cl_len, hz], tshort_ok hC hγ hl2 hA⟩, hz]
  · exact h.elim
theorem taps_ok (hC : CxOk P C) (hγ : GM P C R ts χ ds) (hk : DOk ds) {F : Cf K} (hF : F.C = C) {o : AO} {e : Nat} {x y : AOpd} {X : TS K → Prop} {dr : Bool} (ho : o.op = .apps e x y) (h : step F dr o ts X) : SR P C R o ts ds X := by
  unfold step at h
  rw [ho, hF] at h
  simp only at h
  split at h
  · rename_i l f ey hf
    have hy := hγ.tev y
    rw [ey] at hy
    have hsz : (C.E e).sz = 1 := by
      have := hC.ob e f hf 0
      rw [← (C.E e).len (f 0), this]; rfl
    have hys : dwks (encB l) = cl (C.E e) (l.map f) := by
      clear hy ey h
      induction l with
      | nil => rfl
      | cons b l ih =>
        rw [List.map_cons, show cl (C.E e) (f b :: l.map f) = (C.E e).c (f b) ++ cl (C.E e) (l.map f) by simp [cl], hC.ob e f hf b, ← ih]
        rfl
    refine tapp_ok hC hγ hk (ys := encB l) h (fun hA => ?_) hys (by rw [twk', ho])
    refine ⟨?_, (C.E e).pos⟩
    rw [ho]
    simp only [effA]
    rw [toD_fr, hy.str]
    simp only
    rw [if_pos hA.1, hsz, List.length_map]
  · exact h.elim
def notCall : AOp → Bool
  | .call .. | .calv .. => false
  | _ => true
/-- every operation that is no call -/
theorem tstep_ok (hC : CxOk P C) (hγ : GM P C R ts χ ds) (hk : DOk ds) {F : Cf K} (hF : F.C = C) {o : AO} {X : TS K → Prop} (hn : notCall o.op = true) (h : step F true o ts X) : SR P C R o ts ds X := by
  have quiet : ∀ {u : AOp}, o.op = u → (match tqv ts u with | some (cs, v) => andL cs (X (ts.put o.dst v)) | none => False) → SR P C R o ts ds X := by
    intro u ho h
    split at h
    · rename_i cs v e
      obtain ⟨hc, hX⟩ := andL_out h
      obtain ⟨hm, D, w, h1, h2, h3⟩ := tqv_ok hγ e hc
      refine SR_val hγ h3 ?_ hX
      rw [ho]
      exact eff_quiet' hk hm h1 h2
    · exact h.elim
  cases ho : o.op with
  | ld g sz x => unfold step at h; rw [ho, hF] at h; exact tld_ok hC hγ hk ho h
  | sto sz x y => unfold step at h; rw [ho, hF] at h; exact tsto_ok hC hγ hk ho h
  | pick c a b => exact tpick_ok hγ hk ho h
  | box e sz x => exact tbox_ok hγ hk ho h
  | bsl e sz n z parts => exact tbsl_ok hγ hk hF ho h
  | mks e sz b z x y => exact tmks_ok hC hγ hk hF ho h
  | iad sz x i => exact tiad_ok hC hγ hk hF ho h
  | len x => unfold step at h; rw [ho, hF] at h; exact tlen_ok hγ hk ho h
  | app e sz b x y => exact tap_ok hC hγ hk hF ho h
  | apps e x y => exact taps_ok hC hγ hk hF ho h
  | b2s x => exact tb2s_ok hC hγ hk hF ho h
  | sll sz x lo hi => exact tsll_ok hC hγ hk hF ho h
  | call f args => rw [ho] at hn; cases hn
  | calv x args => rw [ho] at hn; cases hn
  | _ => unfold step at h; rw [ho] at h; exact quiet ho h
end
end Go.AV

