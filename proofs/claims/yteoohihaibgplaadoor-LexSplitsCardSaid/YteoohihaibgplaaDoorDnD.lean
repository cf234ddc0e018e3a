/-
  Typed states: code, and a function's contract out of it.
-/
import Derived.Test.YteoohihaibgplaaDoorDnC
namespace Go.AV
open Go.RowKit Go.RG Go.Lib
variable {K : Nat → Type}
section
variable {P : Program} {C : Cx K} {R : List (HO K) → Hp → Nat → Prop} {ts ts1 : TS K} {χ : Nat → Nat → Bool} {ds : DS} {B : Base} [GB P B] {N : Nat} {ro : Option Nat}

theorem lkR_cons (p : Nat × TV K) (r : List (Nat × TV K)) (t : Nat) : lkR (p :: r) t = if p.1 = t then some p.2 else lkR r t := by
  show (match Nat.beq p.1 t with | true => some p.2 | false => lkR r t) = _
  cases h : Nat.beq p.1 t with
  | true => simp [nbeq.1 h]
  | false => simp only; rw [if_neg (fun e => by rw [nbeq.2 e] at h; cases h)]
theorem ExtR.refl {rg : List (Nat × TV K)} : ExtR rg rg := fun _ _ h => h
theorem ExtR.trans {a b c : List (Nat × TV K)} (h : ExtR a b) (k : ExtR b c) : ExtR a c := fun id w q => k id w (h id w q)
/-! ### what stays is marked -/
/-- the same places, more marks -/
def Same (ts ts' : TS K) : Prop := ts'.od = ts.od ∧ ts'.nw = ts.nw
theorem tagV_ext : ∀ (k : Kd) (v : TV K) (rg : List (Nat × TV K)), ExtR rg (tagV k v rg).2
  | .kp id, v, rg => by
    simp only [tagV]
    split
    · rename_i h1 h2
      intro id' w h
      rw [lkR_cons]
      split
      · rename_i e; simp only at e; subst e; rw [h2] at h; cases h
      · exact h
    · exact .refl
  | .agg l, v, rg => by
    cases v with
    | agg vs =>
      simp only [tagV]
      exact tagVs_ext l vs rg
    | _ => exact .refl
  | .it _, v, rg => .refl
  | .bl, v, rg => .refl
  | .st, v, rg => .refl
  | .sl _, v, rg => .refl
  | .v _, v, rg => .refl
  | .row _, v, rg => .refl
  | .px _ _, v, rg => .refl
  | .nil, v, rg => .refl
  | .un, v, rg => .refl
where tagVs_ext : ∀ (l : List Kd) (vs : List (TV K)) (rg : List (Nat × TV K)), ExtR rg (tagVs l vs rg).2
  | [], vs, rg => .refl
  | k :: l, [], rg => .refl
  | k :: l, v :: vs, rg => by
    simp only [tagVs]
    exact (tagV_ext k v rg).trans (tagVs_ext l vs _)

theorem Mono.same {ts ts' : TS K} (hs : Same ts ts') (hx : ExtR ts.rg ts'.rg) : Mono ts ts' χ χ := by
  have ht : ∀ s c, ts'.tb s c = ts.tb s c := by intro s c; unfold TS.tb; rw [hs.1, hs.2]
  refine ⟨hx, fun s c h => ?_, fun s c _ => .inr ⟨by rw [ht], rfl⟩⟩
  rcases h with h | ⟨h1, h2⟩
  · exact .inl h
  · exact .inr ⟨h1, by rw [hs.2]; exact h2⟩
mutual
theorem tagV_ok : ∀ (k : Kd) (v : TV K) (rg : List (Nat × TV K)) (a : AV) (ts' : TS K), TR P C ts χ v a → Mono ts ts' χ χ → ExtR (tagV k v rg).2 ts'.rg → TR P C ts' χ (tagV k v rg).1 a
  | .kp id, v, rg, a, ts', h, hm, hx => by
    simp only [tagV] at hx ⊢
    split
    · rename_i h1 h2
      rw [h1, h2] at hx
      exact .cn id v a (hx id v (by rw [lkR_cons]; simp)) h1 (h.noref h1).1
    · exact h.mono hm
  | .agg l, .agg vs, rg, a, ts', h, hm, hx => by
    simp only [tagV] at hx ⊢
    obtain ⟨as, rfl, t1, t2⟩ := h.agg'
    have := tagVs_ok l vs rg as ts' ⟨t1, t2⟩ hm hx
    exact .agg _ _ this.1 this.2
  | .agg l, .un, rg, a, ts', h, hm, hx => h.mono hm
  | .agg l, .lb b, rg, a, ts', h, hm, hx => h.mono hm
  | .agg l, .bl b, rg, a, ts', h, hm, hx => h.mono hm
  | .agg l, .li k n, rg, a, ts', h, hm, hx => h.mono hm
  | .agg l, .it k n, rg, a, ts', h, hm, hx => h.mono hm
  | .agg l, .st s, rg, a, ts', h, hm, hx => h.mono hm
  | .agg l, .tup s, rg, a, ts', h, hm, hx => h.mono hm
  | .agg l, .nil, rg, a, ts', h, hm, hx => h.mono hm
  | .agg l, .em, rg, a, ts', h, hm, hx => h.mono hm
  | .agg l, .sl _ _, rg, a, ts', h, hm, hx => h.mono hm
  | .agg l, .rw _ _, rg, a, ts', h, hm, hx => h.mono hm
  | .agg l, .px _ _ _, rg, a, ts', h, hm, hx => h.mono hm
  | .agg l, .pr _ _ _ _ _, rg, a, ts', h, hm, hx => h.mono hm
  | .agg l, .ep _ _ _ _, rg, a, ts', h, hm, hx => h.mono hm
  | .agg l, .gs _ _, rg, a, ts', h, hm, hx => h.mono hm
  | .agg l, .nptr, rg, a, ts', h, hm, hx => h.mono hm
  | .agg l, .fn _ _ _, rg, a, ts', h, hm, hx => h.mono hm
  | .agg l, .fv _ _ _, rg, a, ts', h, hm, hx => h.mono hm
  | .agg l, .cn _ _, rg, a, ts', h, hm, hx => h.mono hm
  | .it _, v, rg, a, ts', h, hm, hx => h.mono hm
  | .bl, v, rg, a, ts', h, hm, hx => h.mono hm
  | .st, v, rg, a, ts', h, hm, hx => h.mono hm
  | .sl _, v, rg, a, ts', h, hm, hx => h.mono hm
  | .v _, v, rg, a, ts', h, hm, hx => h.mono hm
  | .row _, v, rg, a, ts', h, hm, hx => h.mono hm
  | .px _ _, v, rg, a, ts', h, hm, hx => h.mono hm
  | .nil, v, rg, a, ts', h, hm, hx => h.mono hm
  | .un, v, rg, a, ts', h, hm, hx => h.mono hm
theorem tagVs_ok : ∀ (l : List Kd) (vs : List (TV K)) (rg : List (Nat × TV K)) (as : List AV) (ts' : TS K), TL P C ts χ vs as → Mono ts ts' χ χ → ExtR (tagVs l vs rg).2 ts'.rg → TL P C ts' χ (tagVs l vs rg).1 as
  | [], vs, rg, as, ts', h, hm, hx => h.mono hm
  | k :: l, [], rg, as, ts', h, hm, hx => h.mono hm
  | k :: l, v :: vs, rg, as, ts', h, hm, hx => by
    cases as with
    | nil => simp [TL] at h
    | cons a as =>
      simp only [tagVs] at hx ⊢
      exact .cons (tagV_ok k v rg a ts' h.head.1 hm ((tagV_ext.tagVs_ext l vs _).trans hx)) (tagVs_ok l vs _ as ts' h.head.2 hm hx)
end
theorem tagS_ext : ∀ (l : List (Nat × Kd)) (ts : TS K), ExtR ts.rg (tagS l ts).rg ∧ (tagS l ts).nw = ts.nw ∧ (tagS l ts).h = ts.h
  | [], ts => ⟨.refl, rfl, rfl⟩
  | p :: l, ts => by
    simp only [tagS]
    have := tagS_ext l ⟨(p.1, (tagV p.2 (lkT ts.fr p.1) ts.rg).1) :: ts.fr, ts.od, ts.nw, (tagV p.2 (lkT ts.fr p.1) ts.rg).2, ts.h⟩
    exact ⟨(tagV_ext _ _ _).trans this.1, this.2.1, this.2.2⟩
theorem tagS_ok : ∀ (l : List (Nat × Kd)) (ts : TS K), GM P C R ts χ ds → GM P C R (tagS l ts) χ ds
  | [], ts, h => h
  | p :: l, ts, h => by
    simp only [tagS]
    refine tagS_ok l _ ?_
    have hm : Mono ts ⟨(p.1, (tagV p.2 (lkT ts.fr p.1) ts.rg).1) :: ts.fr, ts.od, ts.nw, (tagV p.2 (lkT ts.fr p.1) ts.rg).2, ts.h⟩ χ χ := Mono.same ⟨rfl, rfl⟩ (tagV_ext _ _ _)
    refine ⟨fun t => ?_, fun s c b hb hx => ?_, h.vi, h.nw, h.hp⟩
    · show TR P C _ χ (lkT ((p.1, _) :: ts.fr) t) _
      rw [lkT_put]
      split
      · rename_i e; rw [← e]; exact tagV_ok p.2 _ ts.rg _ _ (h.fr p.1) hm .refl
      · exact (h.fr t).mono hm
    · obtain ⟨kb, h1, h2⟩ := h.mb s c b hb hx
      exact ⟨kb, h1, h2.mono hm⟩
theorem tagVs_len : ∀ (l : List Kd) (vs : List (TV K)) (rg : List (Nat × TV K)), (tagVs l vs rg).1.length = vs.length
  | [], vs, rg => rfl
  | k :: l, [], rg => rfl
  | k :: l, v :: vs, rg => by simp only [tagVs, List.length_cons, tagVs_len l vs]
theorem tagB_ext : ∀ (l : List (Nat × Nat × List Kd)) (ts : TS K), ExtR ts.rg (tagB l ts).rg ∧ (tagB l ts).nw = ts.nw ∧ (tagB l ts).h = ts.h
  | [], ts => ⟨.refl, rfl, rfl⟩
  | p :: l, ts => by
    simp only [tagB]
    split
    · rename_i e cs hb
      have := tagB_ext l ⟨ts.fr, (p.1, some (.box e (tagVs p.2.2 cs ts.rg).1)) :: ts.od, ts.nw, (tagVs p.2.2 cs ts.rg).2, ts.h⟩
      exact ⟨(tagV_ext.tagVs_ext _ _ _).trans this.1, this.2.1, this.2.2⟩
    · exact tagB_ext l ts
theorem tagB_ok : ∀ (l : List (Nat × Nat × List Kd)) (ts : TS K), GM P C R ts χ ds → GM P C R (tagB l ts) χ ds
  | [], ts, h => h
  | p :: l, ts, h => by
    simp only [tagB]
    split
    · rename_i e cs hb
      refine tagB_ok l _ ?_
      have htb : ∀ s c, (⟨ts.fr, (p.1, some (.box e (tagVs p.2.2 cs ts.rg).1)) :: ts.od, ts.nw, (tagVs p.2.2 cs ts.rg).2, ts.h⟩ : TS K).tb s c = if s = p.1 ∧ c = 1 then some (.box e (tagVs p.2.2 cs ts.rg).1) else ts.tb s c := fun s c => setb_tb ts p.1 1 (some (.box e (tagVs p.2.2 cs ts.rg).1)) (.inl rfl) s c
      have hbx : ts.tb p.1 1 = some (.box e cs) := hb
      have hm : Mono ts ⟨ts.fr, (p.1, some (.box e (tagVs p.2.2 cs ts.rg).1)) :: ts.od, ts.nw, (tagVs p.2.2 cs ts.rg).2, ts.h⟩ χ χ := by
        refine ⟨tagV_ext.tagVs_ext _ _ _, fun s c q => q, fun s c _ => .inr ⟨?_, rfl⟩⟩
        rw [htb]
        split
        · rename_i q; obtain ⟨rfl, rfl⟩ := q; rw [hbx]; rfl
        · rfl
      refine ⟨fun t => (h.fr t).mono hm, fun s c b hb' hx => ?_, fun s c hx => ?_, h.nw, h.hp⟩
      · rw [htb] at hb'
        split at hb'
        · rename_i q
          obtain ⟨rfl, rfl⟩ := q
          cases hb'
          obtain ⟨kb, h1, h2⟩ := h.mb _ _ _ hbx hx
          refine ⟨kb, h1, ?_⟩
          have t := tagVs_ok (P := P) (C := C) (ts := ts) (χ := χ) p.2.2 cs ts.rg kb.cells _ ⟨h2.2.2.1, h2.2.2.2⟩ hm .refl
          exact ⟨h2.1, by rw [tagVs_len]; exact h2.2.1, t.1, t.2⟩
        · obtain ⟨kb, h1, h2⟩ := h.mb s c b hb' hx
          exact ⟨kb, h1, h2.mono hm⟩
      · obtain ⟨e', h1⟩ := h.vi s c hx
        refine ⟨e', ?_⟩
        rw [htb]
        split
        · rename_i q; obtain ⟨rfl, rfl⟩ := q; rw [hbx] at h1; cases h1
        · exact h1
    · exact tagB_ok l ts h
theorem tagT_ok {τ : Tm} (h : GM P C R ts χ ds) : GM P C R (tagT τ ts) χ ds := tagB_ok _ _ (tagS_ok _ _ h)
theorem tagT_ext (τ : Tm) (ts : TS K) : ExtR ts.rg (tagT τ ts).rg := (tagS_ext τ.ks ts).1.trans (tagB_ext τ.bx _).1
/-! ### curried variables -/
def curC : (cs : List CT) → (List (DV K) → Prop) → Cur K Prop cs
  | [], p => p []
  | _ :: cs, p => fun x => curC cs fun env => p (inC _ x :: env)
theorem outC_in (c : CT) (x : CTy K c) : outC c (inC c x) = some x := by
  cases c with
  | l e => exact dif_pos rfl
  | v t => exact dif_pos rfl
  | i => rfl
  | b => rfl
  | s => rfl
theorem outI_ok {x : DV K} {n : Int} (h : outI x = some n) : .i n = x := by
  cases x <;> first | (cases h; rfl) | (cases h; done)
theorem outBo_ok {x : DV K} {n : Bool} (h : outBo x = some n) : .b n = x := by
  cases x <;> first | (cases h; rfl) | (cases h; done)
theorem outS_ok {x : DV K} {n : Str} (h : outS x = some n) : .s n = x := by
  cases x <;> first | (cases h; rfl) | (cases h; done)
theorem outL_ok {e : Nat} {x : DV K} {l : List (K e)} (h : outL e x = some l) : .l e l = x := by
  cases x with
  | l e' l' => obtain ⟨rfl, rfl⟩ := castL_out h; rfl
  | _ => cases h
theorem outT_ok {t : Nat} {x : DV K} {y : K t} (h : outT t x = some y) : .v t y = x := by
  cases x with
  | v t' y' =>
    simp only [outT] at h
    split at h
    · rename_i e; subst e; cases h; rfl
    · cases h
  | _ => cases h
theorem outC_ok {c : CT} {x : DV K} {y : CTy K c} (h : outC c x = some y) : inC c y = x := by
  cases c with
  | l e => exact outL_ok h
  | v t => exact outT_ok h
  | i => exact outI_ok h
  | b => exact outBo_ok h
  | s => exact outS_ok h
theorem apC_cur : ∀ (cs : List CT) (p : List (DV K) → Prop) (env : List (DV K)), apC False cs (curC cs p) env → p env
  | [], p, [], h => h
  | [], p, _ :: _, h => h.elim
  | c :: cs, p, [], h => h.elim
  | c :: cs, p, x :: env, h => by
    simp only [apC] at h
    split at h
    · rename_i y hy
      have := apC_cur cs _ env h
      rw [outC_ok hy] at this; exact this
    · exact h.elim
theorem allC_cur : ∀ (cs : List CT) (p : List (DV K) → Prop) (q : List (DV K) → Prop), (∀ env, q env → p env) → allC cs fun env => q env → apC False cs (curC cs p) env
  | [], p, q, h => fun hq => h [] hq
  | c :: cs, p, q, h => fun x => by
    have := allC_cur cs (fun env => p (inC c x :: env)) (fun env => q (inC c x :: env)) (fun env => h _)
    show allC cs fun env => q (inC c x :: env) → (match outC c (inC c x) with | some y => apC False cs (curC (c :: cs) p y) env | none => False)
    rw [outC_in]
    exact this
/-! ### operations -/
variable (P C R) in
/-- what is told behind a piece of code -/
def Kq (rg : List (Nat × TV K)) (Q : AEx → TS K → Prop) (e : AEx) (ks : KS) : Prop := KOk ks ∧ ∃ ts χ, GM P C R ts χ (ofK ks) ∧ ExtR rg ts.rg ∧ Q e ts
theorem Kq.mono {rg rg' : List (Nat × TV K)} {Q : AEx → TS K → Prop} {e : AEx} {ks : KS} (h : Kq P C R rg Q e ks) (hx : ExtR rg' rg) : Kq P C R rg' Q e ks := by
  obtain ⟨a, ts, χ, b, c, d⟩ := h
  exact ⟨a, ts, χ, b, hx.trans c, d⟩
theorem fz_rg (C : Cx K) (ts : TS K) (s : Nat) : (fz C ts s).rg = ts.rg := by unfold fz; split <;> rfl
theorem fzA_rg (C : Cx K) : ∀ (n : Nat) (vs : List (TV K)) (ts : TS K), (fzA C n vs ts).rg = ts.rg
  | 0, _, _ => rfl
  | n + 1, vs, ts => by
    simp only [fzA]
    split
    · rfl
    · split
      · rw [fz_rg, fzA_rg C n]
      · rw [fz_rg]
theorem fzT_rg (C : Cx K) (fr : List (Nat × TV K)) : ∀ (l : List (Nat × Kd)) (ts : TS K), (fzT C fr l ts).rg = ts.rg
  | [], _ => rfl
  | (t, k) :: r, ts => by
    cases k with
    | sl e =>
      simp only [fzT]
      rw [fzT_rg C fr r]
      split
      · rw [fz_rg]
      · rfl
    | _ => simp only [fzT]; exact fzT_rg C fr r ts
theorem fzF_ok (hB : LentB B) (hC : CxOk P C) (f : TS K → List (TV K)) : ∀ (l : List AOpd) (ts : TS K), REk P C R B N ts (l.foldl (fun ts x => fzA C 9 [tea ts.fr x] ts) ts) ∧ (l.foldl (fun ts x => fzA C 9 [tea ts.fr x] ts) ts).rg = ts.rg
  | [], ts => ⟨.refl, rfl⟩
  | x :: l, ts => by
    have _ := (inferInstance : GB P B)
    obtain ⟨a, b⟩ := fzF_ok hB hC f l (fzA C 9 [tea ts.fr x] ts)
    exact ⟨(fzA_ok hB hC _ _ _).trans a, by rw [List.foldl_cons, b, fzA_rg]⟩
theorem frzA_ok (hB : LentB B) (hC : CxOk P C) {F : Cf K} (hF : F.C = C) {o : AO} : (frzA F o ts = ts ∨ REt P C R B N ts (frzA F o ts)) ∧ (frzA F o ts).rg = ts.rg := by
  have go : ∀ (args : List AOpd), REt P C R B N ts (args.foldl (fun ts x => fzA F.C 9 [tea ts.fr x] ts) (er ts)) ∧ (args.foldl (fun ts x => fzA F.C 9 [tea ts.fr x] ts) (er ts)).rg = ts.rg := by
    intro args
    rw [hF]
    obtain ⟨a, b⟩ := fzF_ok (N := N) hB hC (fun _ => []) args (er ts)
    exact ⟨(er_ok hB hC).thenk a, b⟩
  unfold frzA frzs
  split
  · exact ⟨.inl rfl, rfl⟩
  · exact ⟨.inr (go _).1, (go _).2⟩
section
variable {L : List AO} {i : Nat}
theorem WD_ret (hB : LentB B) {Q : KS → Prop} (h : REt P C R B N ts ts1) (hk : DOk ds) (hγ : GM P C R ts χ ds) (k : ∀ ks ξ, KOk ks → GM P C R ts1 ξ (ofK ks) → WD P B N ro L i Q (ofK ks)) : WD P B N ro L i Q ds :=
  WD_re fun _ => (h χ ds hk hγ).mono fun ks ⟨h1, ξ, h2⟩ => k ks ξ h1 h2
theorem WD_fin {Q : KS → Prop} (e : L.drop i = []) (h : DOk ds → RE B N (toD ds) Q) : WD P B N ro L i Q ds := by
  have _ := (inferInstance : GB P B)
  intro ops pre suf he ht a G hR
  rw [e] at ht
  cases suf with
  | cons x suf =>
    simp only [trOps] at ht
    split at ht <;> cases ht
  | nil =>
    obtain ⟨ks1, G1, h1, h2, h3⟩ := h hR.2 a G hR.1
    simp only [List.length_nil, List.range'_zero, wpOpsIn]
    rw [← h1]
    exact ⟨ks1, G1, h2, rfl, h3⟩
theorem gok_of {g : Option (Nat × Bool)} {fr : List (Nat × AV)} {d : Nat} {b : Bool} (e : g = some (d, b)) (h : lkF fr d = .bl b) : gok g fr = true := by
  subst e; simp only [gok, h]; cases b <;> rfl
theorem gno_of {g : Option (Nat × Bool)} {fr : List (Nat × AV)} {d : Nat} {b c : Bool} (e : g = some (d, b)) (h : lkF fr d = .bl c) (hn : c ≠ b) : gno g fr = true := by
  subst e; simp only [gno, h]; cases b <;> cases c <;> first | rfl | exact absurd rfl hn
/-- one step of operations in the order of the text -/
theorem WD_step (hB : LentB B) (hC : CxOk P C) {F : Cf K} (hF : F.C = C) (hS : SsOk P C F.S) (hN : F.N = N) {o : AO} {X : TS K → Prop} {Q : KS → Prop} (e0 : L[i]? = some o) (hγ : GM P C R ts χ ds) (hk : DOk ds) (hg : gok o.guard ds.fr = true) (h : step F false o ts X)
    (k : ∀ ts' χ' ds', GM P C R ts' χ' ds' → DOk ds' → X ts' → ts'.rg = ts.rg → WD P B N ro L (i + 1) Q ds') : WD P B N ro L i Q ds := by
  have calls : ∀ {f : FuncId} {us : List (TV K)} {vs : List AV}, TL P C ts χ us vs → CalO o ds f vs → tcall F.C F.S ts o.dst f us X → WD P B N ro L i Q ds := by
    intro f us vs ht ho h
    rw [hF] at h
    obtain ⟨vs', kl, d1, v, ts', χ', c1, c2, c3, c4, c5, _, _⟩ := tcall_ok hC hS hγ hk ht ho h
    exact WD_callD e0 hg c1 (k ts' χ' _ c2 c3.put c4 c5)
  have rest : notCall o.op = true → step F true o ts X → WD P B N ro L i Q ds := by
    intro hn h
    obtain ⟨e, ds', ts', χ', h1, h2, h3, h4, h5, h6⟩ := tstep_ok hC hγ hk hF hn h
    have hc : isMC o.op = false := by cases hop : o.op <;> rw [hop] at hn <;> first | rfl | (cases hn; done)
    exact WD_e e0 hg (fun _ => h1) hc (k ts' χ' ds' h4 h1.ok h5 h6)
  cases ho : o.op with
  | call f args =>
    unfold step at h; rw [ho] at h
    exact calls (TL.tea hγ args) (.inl ⟨args, ho, rfl⟩) h
  | calv x args =>
    unfold step at h; rw [ho] at h
    simp only at h
    have hx := hγ.tev x
    split at h
    · rename_i f a c ex
      rw [ex] at hx
      generalize hv : ev (lkF ds.fr) x = v at hx
      cases hx with
      | fn _ _ _ a' c' ha hc h1 h2 =>
        exact calls (((show TL P C ts χ a a' from ⟨ha, h1⟩).app (TL.tea hγ args)).app ⟨hc, h2⟩) (.inr ⟨x, args, a', c', ho, hv, rfl⟩) h
    · rename_i ps rs V ex
      rw [ex] at hx
      cases hx with
      | fv _ _ _ _ hV hv =>
        rw [hF] at h
        obtain ⟨f, vs, vs', kl, d1, w, ts', χ', c1, c2, c3, c4, c5, _⟩ := tcalv_ok hC hγ hk hV ho rfl hv (TL.tea hγ args) h
        exact WD_callD e0 hg c1 (k ts' χ' _ c2 c3.put c4 c5)
    · exact h.elim
  | len x =>
    cases hs : tslot F.N x with
    | false =>
      refine rest (by rw [ho]; rfl) ?_
      unfold step at h ⊢; rw [ho] at h ⊢
      simp only [hs] at h ⊢
      exact h
    | true =>
      unfold step at h; rw [ho] at h
      simp only [hs, Bool.not_true, Bool.or_false] at h
      unfold tlen at h
      split at h
      · rename_i e l ex
        have hx := hγ.tev x
        rw [ex] at hx
        cases x with
        | c v => cases hs
        | t n =>
          obtain ⟨z, xs, hxs, hv⟩ := hx.sli
          refine WD_len (t := n) (by rw [← hN]; exact Nat.le_of_ble_eq_true hs) hv fun hm => ?_
          refine rest (by rw [ho]; rfl) ?_
          unfold step; rw [ho]
          simp only [Bool.true_or]
          unfold tlen
          rw [ex]
          exact h hm
      · rename_i ex
        refine rest (by rw [ho]; rfl) ?_
        unfold step; rw [ho]; simp only [Bool.true_or]; unfold tlen; rw [ex]; exact h
      · rename_i ex
        refine rest (by rw [ho]; rfl) ?_
        unfold step; rw [ho]; simp only [Bool.true_or]; unfold tlen; rw [ex]; exact h
      · rename_i s c ex
        refine rest (by rw [ho]; rfl) ?_
        unfold step; rw [ho]; simp only [Bool.true_or]; unfold tlen; rw [ex]; exact h
      · exact h.elim
  | _ =>
    refine rest (by rw [ho]; rfl) ?_
    unfold step at h ⊢; rw [ho] at h ⊢; exact h
theorem tops_ok (hB : LentB B) (hC : CxOk P C) {F : Cf K} (hF : F.C = C) (hS : SsOk P C F.S) (hN : F.N = N) {X : TS K → Prop} {Q : KS → Prop} : ∀ (L' : List AO) (i : Nat) (ts : TS K) (χ : Nat → Nat → Bool) (ds : DS), L.drop i = L' → GM P C R ts χ ds → DOk ds → tops F L' ts X →
    (∀ ts' χ' ds', GM P C R ts' χ' ds' → DOk ds' → X ts' → ExtR ts.rg ts'.rg → RE B N (toD ds') Q) → WD P B N ro L i Q ds
  | [], i, ts, χ, ds, e, hγ, hk, h, fin => WD_fin e fun _ => fin ts χ ds hγ hk h .refl
  | o :: r, i, ts, χ, ds, e, hγ, hk, h, fin => by
    have e0 : L[i]? = some o := by
      have := congrArg (·[0]?) e
      simpa using this
    have e1 : L.drop (i + 1) = r := by rw [← List.drop_drop, e]; rfl
    have next : ∀ {ts ts2 : TS K} {χ2 : Nat → Nat → Bool} {ds2 : DS}, (∀ ts' χ' ds', GM P C R ts' χ' ds' → DOk ds' → X ts' → ExtR ts.rg ts'.rg → RE B N (toD ds') Q) → GM P C R ts2 χ2 ds2 → DOk ds2 → tops F r ts2 X → ts2.rg = ts.rg → WD P B N ro L (i + 1) Q ds2 := by
      intro ts ts2 χ2 ds2 fin a b c d
      exact tops_ok hB hC hF hS hN r (i + 1) ts2 χ2 ds2 e1 a b c fun ts3 χ3 ds3 p q s t => fin ts3 χ3 ds3 p q s (by rw [← d]; exact t)
    have main : ∀ {ts : TS K} {χ : Nat → Nat → Bool} {ds : DS}, GM P C R ts χ ds → DOk ds → topg F o (fun t => tops F r t X) ts → (∀ ts' χ' ds', GM P C R ts' χ' ds' → DOk ds' → X ts' → ExtR ts.rg ts'.rg → RE B N (toD ds') Q) → WD P B N ro L i Q ds := by
      intro ts χ ds hγ hk h fin
      have run : ∀ {ts0 : TS K} {ds0 : DS}, GM P C R ts0 χ ds0 → DOk ds0 → ts0.rg = ts.rg → gok o.guard ds0.fr = true → step F false o ts0 (fun t => tops F r t X) → WD P B N ro L i Q ds0 := by
        intro ts0 ds0 hγ0 hk0 hr hg hst
        exact WD_step hB hC hF hS hN e0 hγ0 hk0 hg hst fun ts2 χ2 ds2 a b c d => next fin a b c (d.trans hr)
      have skip : ∀ {ts0 : TS K} {ds0 : DS}, GM P C R ts0 χ ds0 → DOk ds0 → ts0.rg = ts.rg → gno o.guard ds0.fr = true → tops F r (ts0.put o.dst (.tup [])) X → WD P B N ro L i Q ds0 := by
        intro ts0 ds0 hγ0 hk0 hr hg hst
        exact WD_skp e0 hg (next fin (hγ0.put (.tup [] [] rfl (fun j u v h => by simp at h))) hk0.put hst ((put_rg _ _ _).trans hr))
      unfold topg tgd at h
      split at h
      · rename_i hg
        exact run hγ hk rfl (by rw [hg]; rfl) h
      · rename_i d b hg
        have hd := (hγ.fr d).s
        split at h
        · rename_i c hc
          rw [hc] at hd
          have hv := hd.lbi
          split at h
          · rename_i hcb
            have : c = b := by cases c <;> cases b <;> first | rfl | cases hcb
            subst this
            exact run hγ hk rfl (gok_of hg hv) h
          · rename_i hcb
            exact skip hγ hk rfl (gno_of hg hv (by intro q; subst q; cases c <;> cases hcb)) h
        · rename_i c hc
          rw [hc] at hd
          have hv := hd.bli
          obtain ⟨h1, h2⟩ := h
          refine WD_bool hv (fun hb => ?_) (fun hb => ?_)
          · have hh := h1 hb
            have g1 := hγ.put (d := some d) (TR.lb (P := P) (C := C) (ts := ts) (χ := χ) true)
            have v1 : lkF (ds.put (some d) (.bl true)).fr d = .bl true := by show lkF ((d, .bl true) :: ds.fr) d = _; rw [lkF_cons]; simp
            cases b with
            | true => exact run g1 hk.put (put_rg _ _ _) (gok_of hg v1) hh
            | false => exact skip g1 hk.put (put_rg _ _ _) (gno_of hg v1 (by simp)) hh
          · have hh := h2 hb
            have g1 := hγ.put (d := some d) (TR.lb (P := P) (C := C) (ts := ts) (χ := χ) false)
            have v1 : lkF (ds.put (some d) (.bl false)).fr d = .bl false := by show lkF ((d, .bl false) :: ds.fr) d = _; rw [lkF_cons]; simp
            cases b with
            | true => exact skip g1 hk.put (put_rg _ _ _) (gno_of hg v1 (by simp)) hh
            | false => exact run g1 hk.put (put_rg _ _ _) (gok_of hg v1) hh
        · rename_i hc
          rw [hc] at hd
          obtain ⟨vs, hv, hl, _⟩ := hd.tup'
          have : vs = [] := List.eq_nil_of_length_eq_zero hl
          subst this
          exact skip hγ hk rfl (by rw [hg]; simp only [gno, hv]) h
        · exact h.elim
    obtain ⟨hfr, hrg⟩ := frzA_ok (N := N) (ts := ts) hB hC hF (o := o)
    rcases hfr with hq | hq
    · rw [tops, hq] at h; exact main hγ hk h fin
    · rw [tops] at h
      exact WD_ret hB hq hk hγ fun ks ξ a b => main b (ofK_ok a) h fun ts' χ' ds' p q s t => fin ts' χ' ds' p q s (by rw [← hrg]; exact t)
end
/-! ### a region that draws its order -/
section
/-- no more than it is told -/
structure LeF (f : Foot) (t : TFt) : Prop where
  rk : ∀ k ∈ f.rk, (∃ o, k = .h o) ∨ ∃ q ∈ t.rk, k = .l q.1 q.2
  wk : ∀ q ∈ f.wk, q ∈ t.wk
  wh : f.wh = false
  bs : ∀ s ∈ f.bs, (s, 2) ∈ t.wk
theorem memQ_mem : ∀ {l : List (Nat × Nat)} {q : Nat × Nat}, q ∈ l → memQ l q = true
  | p :: r, q, h => by
    show ((Nat.beq p.1 q.1 && Nat.beq p.2 q.2) || memQ r q) = true
    rcases List.mem_cons.1 h with rfl | h
    · rw [nbeq.2 rfl, nbeq.2 rfl]; rfl
    · rw [memQ_mem h, Bool.or_true]
theorem okT_ok {a b : Foot} {s t : TFt} (ha : LeF a s) (hb : LeF b t) (h : okT s t = true) : okF a b := by
  simp only [okT, Bool.and_eq_true, List.all_eq_true, Bool.not_eq_true'] at h
  obtain ⟨h1, h2⟩ := h
  have nk : ∀ {q : Nat × Nat} {k : Key} {l : List (Nat × Nat)}, memQ l q = false → ((∃ o, k = .h o) ∨ ∃ r ∈ l, k = .l r.1 r.2) → Key.l q.1 q.2 ≠ k := by
    rintro q k l hq (⟨o, rfl⟩ | ⟨r, hr, rfl⟩) e
    · cases e
    · simp only [Key.l.injEq] at e
      have : q = r := Prod.ext e.1 e.2
      subst this
      rw [memQ_mem hr] at hq; cases hq
  refine ⟨allL_iff.2 fun q hq => ⟨allL_iff.2 fun k hk => nk (h1 q (ha.wk q hq)).1 (hb.rk k hk), allL_iff.2 fun r hr e => ?_⟩, allL_iff.2 fun q hq => allL_iff.2 fun k hk => nk (h2 q (hb.wk q hq)) (ha.rk k hk), fun e => (by rw [ha.wh] at e; cases e), fun e => (by rw [hb.wh] at e; cases e), allL_iff.2 fun q hq => allL_iff.2 fun r hr e => ?_⟩
  · subst e
    have := (h1 q (ha.wk q hq)).2
    rw [memQ_mem (hb.wk q hr)] at this; cases this
  · subst e
    have := (h1 (q, 2) (ha.bs q hq)).2
    rw [memQ_mem (hb.bs q hr)] at this; cases this
def LeA (acc : List Foot) (tacc : List TFt) : Prop := acc.length = tacc.length ∧ ∀ (j : Nat) (f : Foot) (t : TFt), acc[j]? = some f → tacc[j]? = some t → LeF f t
theorem LeA.snoc {acc : List Foot} {tacc : List TFt} {f : Foot} {t : TFt} (h : LeA acc tacc) (k : LeF f t) : LeA (acc ++ [f]) (tacc ++ [t]) := by
  refine ⟨by simp [h.1], fun j g s a b => ?_⟩
  by_cases hj : j < acc.length
  · rw [List.getElem?_append_left hj] at a
    rw [List.getElem?_append_left (by rw [← h.1]; exact hj)] at b
    exact h.2 j g s a b
  · rw [List.getElem?_append_right (by omega)] at a
    rw [List.getElem?_append_right (by rw [← h.1]; omega), ← h.1] at b
    cases hq : j - acc.length with
    | zero => rw [hq] at a b; simp at a b; subst a; subst b; exact k
    | succ m => rw [hq] at a; simp at a
theorem okTs_ok {f : Foot} {t : TFt} {acc : List Foot} {tacc : List TFt} (hf : LeF f t) (ha : LeA acc tacc) : ∀ (fre : List Nat), okTs t tacc fre = true → okAcc f acc fre
  | [], _ => trivial
  | j :: r, h => by
    simp only [okTs, Bool.and_eq_true] at h
    refine ⟨?_, okTs_ok hf ha r h.2⟩
    show wpo acc[j]? (okF f)
    cases hj : acc[j]? with
    | none => trivial
    | some g =>
      have hlt : j < tacc.length := by rw [← ha.1]; exact (List.getElem?_eq_some_iff.1 hj).1
      have ht : tacc[j]? = some tacc[j] := List.getElem?_eq_getElem hlt
      rw [ht] at h
      exact okT_ok hf (ha.2 j g _ hj ht) h.1
/-- keys that are told -/
def LeK (l : List Key) (t : List (Nat × Nat)) : Prop := ∀ k ∈ l, (∃ o, k = .h o) ∨ ∃ q ∈ t, k = .l q.1 q.2
theorem LeK.app {a b : List Key} {s t : List (Nat × Nat)} (h : LeK a s) (k : LeK b t) : LeK (a ++ b) (s ++ t) := by
  intro x hx
  rcases List.mem_append.1 hx with hx | hx
  · rcases h x hx with q | ⟨r, hr, e⟩
    · exact .inl q
    · exact .inr ⟨r, List.mem_append_left _ hr, e⟩
  · rcases k x hx with q | ⟨r, hr, e⟩
    · exact .inl q
    · exact .inr ⟨r, List.mem_append_right _ hr, e⟩
theorem LeK.nil {t : List (Nat × Nat)} : LeK [] t := fun k h => by cases h
theorem TR.hascn {u : TV K} {v : AV} (h : TR P C ts χ u v) : ∀ id w, u.s ≠ .cn id w := by
  intro id w e
  cases h with
  | cn id' u v h hn hv => simp only [TV.s] at e; rw [e] at hn; cases hn
  | _ => cases e
theorem noL_keys {v : AV} (h : v.noL = true) : LeK (keyOf v) [] ∧ LeK (key1 v) [] := by
  cases v with
  | gs k n => cases k with
    | h o => exact ⟨fun k hk => by simp [keyOf] at hk; exact .inl ⟨o, hk⟩, fun k hk => by simp [key1] at hk; exact .inl ⟨o, hk⟩⟩
    | l d c => cases h
  | pt k n => cases k with
    | h o => exact ⟨fun k hk => by simp [keyOf] at hk; exact .inl ⟨o, hk⟩, fun k hk => by simp [key1] at hk; exact .inl ⟨o, hk⟩⟩
    | l d c => cases h
  | agg cs =>
    refine ⟨fun k hk => ?_, .nil⟩
    simp only [keyOf, List.mem_flatMap] at hk
    obtain ⟨x, hx, hk⟩ := hk
    have hn : x.noL = true := noLs_mem.1 (show noLs cs = true from h) x hx
    cases x with
    | gs q n => cases q with
      | h o => simp [key1] at hk; exact .inl ⟨o, hk⟩
      | l d c => cases hn
    | pt q n => cases q with
      | h o => simp [key1] at hk; exact .inl ⟨o, hk⟩
      | l d c => cases hn
    | _ => simp [key1] at hk
  | _ => exact ⟨.nil, .nil⟩
theorem tky1_ok {u : TV K} {v : AV} {l : List (Nat × Nat)} (h : TR P C ts χ u v) (hl : tky1 ts u = some l) : LeK (key1 v) l ∧ ((∀ vs, v ≠ .agg vs) → LeK (keyOf v) l) := by
  have hs := h.s
  have hc := h.hascn
  unfold tky1 at hl
  revert hs hc hl
  generalize u.s = w
  intro hl hs hc
  have no : ∀ {v : AV} {l : List (Nat × Nat)}, v.noL = true → LeK (key1 v) l ∧ ((∀ vs, v ≠ .agg vs) → LeK (keyOf v) l) := by
    intro v l hv
    obtain ⟨a, b⟩ := noL_keys hv
    have up : ∀ {x : List Key}, LeK x [] → LeK x l := fun hx k hk => (hx k hk).imp id (fun ⟨q, hq, _⟩ => by cases hq)
    exact ⟨up b, fun _ => up a⟩
  cases hs with
  | un v => cases hl
  | lb b => exact no rfl
  | bl b => exact no rfl
  | li k n => exact no rfl
  | it k n => exact no rfl
  | st s => exact no rfl
  | agg us vs _ _ => exact ⟨.nil, fun hn => absurd rfl (hn vs)⟩
  | tup us vs _ _ => exact ⟨.nil, fun _ => .nil⟩
  | nil => exact no rfl
  | em z => exact no rfl
  | sl e l z n xs hn hx => exact no rfl
  | rwd s c v hr hn ho => simp only [hn] at hl; cases hl
  | rw s c n hr hn hx =>
    simp only [hn, Option.some.injEq] at hl; subst hl
    exact ⟨fun k hk => by simp [key1] at hk; exact .inr ⟨_, List.mem_singleton.2 rfl, hk⟩, fun _ k hk => by simp [keyOf] at hk; exact .inr ⟨_, List.mem_singleton.2 rfl, hk⟩⟩
  | rwn s c hr h hx => exact no rfl
  | px s c off hr =>
    cases hl
    exact ⟨fun k hk => by simp [key1] at hk; exact .inr ⟨_, List.mem_singleton.2 rfl, hk⟩, fun _ k hk => by simp [keyOf] at hk; exact .inr ⟨_, List.mem_singleton.2 rfl, hk⟩⟩
  | pr e s c i of hr hx =>
    cases hl
    exact ⟨fun k hk => by simp [key1] at hk; exact .inr ⟨_, List.mem_singleton.2 rfl, hk⟩, fun _ k hk => by simp [keyOf] at hk; exact .inr ⟨_, List.mem_singleton.2 rfl, hk⟩⟩
  | ep e l i of xs hx => exact no rfl
  | gs l i xs hx => exact no rfl
  | nptr => exact no rfl
  | fn f a c a' c' _ _ _ _ => exact ⟨.nil, fun _ => .nil⟩
  | fv ps rs F v h hv => exact no (by rw [← dwk_noL, hv]; exact h.1)
  | cn id u v h hn hv => exact absurd rfl (hc id u)
theorem tkys_ok {f : TV K → Option (List (Nat × Nat))} {g : AV → List Key} (hf : ∀ u v l, TR P C ts χ u v → f u = some l → LeK (g v) l) : ∀ (us : List (TV K)) (vs : List AV) (l : List (Nat × Nat)), TL P C ts χ us vs → tkys ts f us = some l → LeK (vs.flatMap g) l
  | [], vs, l, t, h => by
    have : vs = [] := List.eq_nil_of_length_eq_zero t.1
    subst this; exact .nil
  | u :: us, vs, l, t, h => by
    cases vs with
    | nil => simp [TL] at t
    | cons v vs =>
      simp only [tkys] at h
      split at h
      · rename_i a b h1 h2
        cases h
        rw [List.flatMap_cons]
        exact (hf u v a t.head.1 h1).app (tkys_ok hf us vs b t.head.2 h2)
      · cases h
theorem tky_ok {u : TV K} {v : AV} {l : List (Nat × Nat)} (h : TR P C ts χ u v) (hl : tky ts u = some l) : LeK (keyOf v) l := by
  unfold tky at hl
  split at hl
  · rename_i cs e
    have hs := h.s
    rw [e] at hs
    obtain ⟨vs, rfl, a, b⟩ := hs.agg'
    exact tkys_ok (g := key1) (fun u v l h hl => (tky1_ok h hl).1) cs vs l ⟨a, b⟩ hl
  · rename_i hne
    refine (tky1_ok h hl).2 ?_
    rintro vs rfl
    have hs := h.s
    have hc := h.hascn
    have hdead : u.s ≠ .un := by
      intro e; unfold tky1 at hl; rw [e] at hl; cases hl
    revert hs hc hne hdead
    generalize u.s = w
    intro hne hs hc hdead
    cases hs with
    | un v => exact hdead rfl
    | agg us vs _ _ => exact hne _ rfl
    | rwd s c v hr h ho => cases ho
    | fv ps rs F v h hv => obtain ⟨_, _, h1, _⟩ := h; rw [← hv] at h1; cases h1
    | cn id u v h hn hv => exact hc _ _ rfl
theorem opds_keys {u : AOp} (hγ : GM P C R ts χ ds) {l : List (Nat × Nat)} (h : tkys ts (tky ts) ((opds u).map (tea ts.fr)) = some l) : LeK ((opds u).flatMap fun x => keyOf (ev (lkF ds.fr) x)) l := by
  have := tkys_ok (g := keyOf) (fun u v l h hl => tky_ok h hl) _ _ l (TL.tea hγ (opds u)) h
  rw [List.flatMap_map] at this
  exact this
theorem LeF.skip : LeF footSkip ⟨[], []⟩ := ⟨fun k h => (by cases h), fun q h => (by cases h), rfl, fun s h => (by cases h)⟩
variable {LD : List (AO × List Nat)} {QD : St → Prop} {i : Nat} {acc : List Foot}
theorem DD_callD {o : AO} {fre : List Nat} {f : FuncId} {vs vs' : List AV} {kl : List (Nat × Nat)} {d1 : DS} {v : AV} (e0 : LD[i]? = some (o, fre)) (hg : gok o.guard ds.fr = true) (hc : CallR P o ds f vs vs' kl d1 v)
    (hf : okAcc (footOf o.op (toD ds) ⟨v, kl.map (fun k => (k, none)), [], none⟩) acc fre) (k : DD P LD (i + 1) (acc ++ [footOf o.op (toD ds) ⟨v, kl.map (fun k => (k, none)), [], none⟩]) QD (d1.put o.dst v)) : DD P LD i acc QD ds := by
  refine DD_eop e0 hg fun hk => ?_
  have hmst : REff.mst ⟨v, kl.map (fun k => (k, none)), [], none⟩ (toD ds) = toD d1 ∧ CallE P (.f f) vs (toD ds) ⟨v, kl.map (fun k => (k, none)), [], none⟩ ∧ DOk d1 := by
    rcases hc.way with hw | ⟨rfl, rfl, rfl, hfl⟩
    · obtain ⟨a1, a2, a3, _⟩ := pubLD_ok vs ds vs' kl d1 hk hw
      have hmst : REff.mst ⟨v, kl.map (fun k => (k, none)), [], none⟩ (toD ds) = toD d1 := by
        have h1 : (pubL vs (toD ds)).2 = (toD ds).kills (pkL vs (toD ds)) := pubL_k vs (toD ds)
        rw [a1, a2] at h1
        simp only at h1
        rw [h1]
        unfold REff.mst St.kills REff.cntF
        simp only [St.mk.injEq, cntB_nil, true_and, and_true]
        funext q
        have : ∀ (l : List (Nat × Nat)) (M : Key → Option Blk), List.foldl (fun M (p : Key × Option Blk) => updK M p.1 p.2) M ((l.map fun k => (k, (none : Option Blk))).map fun p => (Key.l p.1.1 p.1.2, p.2)) = l.foldl (fun M k => updK M (.l k.1 k.2) none) M := by
          intro l
          induction l with
          | nil => intro M; rfl
          | cons a l ih => intro M; simp only [List.map_cons, List.foldl_cons]; exact ih _
        show (List.foldl (fun M (p : Key × Option Blk) => updK M p.1 p.2) (toD ds).M ((kl.map fun k => (k, (none : Option Blk))).map fun p => (Key.l p.1.1 p.1.2, p.2))) q = _
        rw [this]
      exact ⟨hmst, .inl ⟨rfl, by rw [a2], CallsO_pureD a1 hc.nl hc.pure ⟨rfl, hmst.symm⟩⟩, a3⟩
    · exact ⟨mst_eff1 v _, .inr (.inl ⟨rfl, f, v, rfl, hc.nl, fun H n => Contract.dwkA (hc.pure H n), hfl, rfl⟩), hk⟩
  obtain ⟨hmst, hE, a3⟩ := hmst
  have fin : ∀ K : REff → Prop, K ⟨v, kl.map (fun k => (k, none)), [], none⟩ → eop (fun _ => false) P o.op o.dst (toD ds) K := by
    intro K hK
    rcases hc.ho with ⟨args, h1, h2⟩ | ⟨x, args, first, cap, h1, h2, h3⟩
    · rw [h1]; simp only [eop]; rw [toD_fr, h2]; exact ⟨_, hE, hK⟩
    · rw [h1]; simp only [eop]; rw [toD_fr, h2]; simp only; rw [h3]; exact ⟨_, hE, hK⟩
  refine fin _ ⟨hf, ?_⟩
  rw [show REff.app ⟨v, kl.map (fun k => (k, none)), [], none⟩ o.dst (toD ds) = toD (d1.put o.dst v) by unfold REff.app; rw [hmst, putD_toD]]
  exact k a3.put
theorem DD_eff {o : AO} {fre : List Nat} {e : REff} {ds' : DS} (e0 : LD[i]? = some (o, fre)) (hg : gok o.guard ds.fr = true) (h : Eff o.op o.dst ds e ds') (hc : isMC o.op = false) (hf : okAcc (footOf o.op (toD ds) e) acc fre) (k : DD P LD (i + 1) (acc ++ [footOf o.op (toD ds) e]) QD ds') : DD P LD i acc QD ds := by
  refine DD_eop e0 hg fun hk => ?_
  obtain ⟨h1, h2, h3⟩ := h
  have hE : ∀ K : REff → Prop, K e → eop (fun _ => false) P o.op o.dst (toD ds) K := by
    intro K hK
    cases hop : o.op <;> rw [hop] at h1 hc <;> first | (cases hc; done) | (simp only [eop]; rw [h1]; exact hK)
  refine hE _ ⟨hf, ?_⟩
  rw [h2]
  exact k h3
theorem trows_mem : ∀ {us : List (TV K)} {q : Nat × Nat}, (∃ u ∈ us, u.s = .rw q.1 q.2) → q ∈ trows us
  | [], _, ⟨u, h, _⟩ => by cases h
  | v :: us, q, ⟨u, h, e⟩ => by
    simp only [trows]
    rcases List.mem_cons.1 h with rfl | h
    · rw [e]; simp
    · have := trows_mem ⟨u, h, e⟩
      split
      · exact List.mem_cons_of_mem _ this
      · exact this
theorem tkys_rw {q : Nat × Nat} : ∀ {us : List (TV K)} {l : List (Nat × Nat)}, tkys ts (tky ts) us = some l → (∃ u ∈ us, u.s = .rw q.1 q.2) → q ∈ l
  | [], _, _, ⟨u, h, _⟩ => by cases h
  | v :: us, l, h, ⟨u, hu, e⟩ => by
    simp only [tkys] at h
    split at h
    · rename_i a b h1 h2
      cases h
      rcases List.mem_cons.1 hu with rfl | hu
      · refine List.mem_append_left _ ?_
        unfold tky at h1
        rw [e] at h1
        simp only at h1
        unfold tky1 at h1
        rw [e] at h1
        simp only at h1
        split at h1
        · cases h1; simp
        · cases h1
      · exact List.mem_append_right _ (tkys_rw h2 ⟨u, hu, e⟩)
    · cases h
/-- one step of a region that draws -/
theorem DD_step (hC : CxOk P C) {F : Cf K} (hF : F.C = C) (hS : SsOk P C F.S) {o : AO} {fre : List Nat} {tacc : List TFt} {Rn : List TFt → TS K → Prop} (e0 : LD[i]? = some (o, fre)) (hγ : GM P C R ts χ ds) (hk : DOk ds) (hg : gok o.guard ds.fr = true) (ha : LeA acc tacc) (h : tdrun F o fre tacc Rn ts)
    (k : ∀ acc' tacc' ts' χ' ds', LeA acc' tacc' → GM P C R ts' χ' ds' → DOk ds' → Rn tacc' ts' → ts'.rg = ts.rg → DD P LD (i + 1) acc' QD ds') : DD P LD i acc QD ds := by
  unfold tdrun at h
  split at h
  rotate_left
  · exact h.elim
  rename_i t ht
  split at h
  rotate_left
  · exact h.elim
  rename_i hok
  have calls : ∀ {f : FuncId} {vs vs' : List AV} {kl : List (Nat × Nat)} {d1 : DS} {v : AV} {ts' : TS K} {χ' : Nat → Nat → Bool}, CallR P o ds f vs vs' kl d1 v → GM P C R ts' χ' (d1.put o.dst v) → DOk d1 → Rn (tacc ++ [t]) ts' → ts'.rg = ts.rg → LeK (rkOf o.op (toD ds)) t.rk → (∀ q ∈ kl, q ∈ t.wk) → (∀ q ∈ kl, q ∈ t.rk) → DD P LD i acc QD ds := by
    intro f vs vs' kl d1 v ts' χ' c1 c2 c3 c4 c5 hrk hwk hwr
    have hle : LeF (footOf o.op (toD ds) ⟨v, kl.map (fun k => (k, none)), [], none⟩) t := by
      refine ⟨fun k hk' => ?_, fun q hq => hwk q ?_, rfl, fun s hs => by cases hs⟩
      · rcases List.mem_append.1 hk' with hq | hq
        · exact hrk k hq
        · have hic : isCall o.op = true := by rcases c1.ho with ⟨args, h1, _⟩ | ⟨x, args, first, cap, h1, _⟩ <;> rw [h1] <;> rfl
          rw [hic] at hq
          obtain ⟨p, hp, rfl⟩ := List.mem_map.1 hq
          obtain ⟨q, hq', rfl⟩ := List.mem_map.1 hp
          exact .inr ⟨q, hwr q hq', rfl⟩
      have hq' : q ∈ (kl.map fun k => (k, (none : Option Blk))).map (·.1) := hq
      simpa using hq'
    exact DD_callD e0 hg c1 (okTs_ok hle ha fre hok) (k _ _ ts' χ' _ (ha.snoc hle) c2 c3.put c4 c5)
  have rest : notCall o.op = true → DD P LD i acc QD ds := by
    intro hn
    obtain ⟨e, ds', ts', χ', h1, h2, h3, h4, h5, h6⟩ := tstep_ok hC hγ hk hF hn h
    have hc : isMC o.op = false := by cases hop : o.op <;> rw [hop] at hn <;> first | rfl | (cases hn; done)
    have hle : LeF (footOf o.op (toD ds) e) t := by
      have ht' : ∃ l, tkys ts (tky ts) ((opds o.op).map (tea ts.fr)) = some l ∧ t = ⟨l, twk' ts o⟩ := by
        unfold tft at ht
        cases hop : o.op <;> rw [hop] at ht hn <;> first | (cases hn; done) | skip
        all_goals
          simp only at ht
          split at ht
          · rename_i l hl; cases ht; exact ⟨l, hl, rfl⟩
          · cases ht
      obtain ⟨l, hl, rfl⟩ := ht'
      have hrk := opds_keys hγ hl
      have hnc : isCall o.op = false := by cases hop : o.op <;> rw [hop] at hn <;> first | rfl | (cases hn; done)
      refine ⟨?_, fun q hq => ?_, by show e.H.isSome = false; rw [h3]; rfl, fun s hs => ?_⟩
      rotate_right
      · have hE : effA (fun _ => false) o.op o.dst (toD ds) = some e := by cases hop : o.op <;> rw [hop] at hn <;> first | (cases hn; done) | (rw [← hop]; exact h1.1)
        obtain ⟨al, rfl⟩ := eff_bump hE hs
        show _ ∈ twk' ts o
        unfold twk'
        cases hop : o.op <;> rw [hop] at al hn <;> first | (cases al; done) | (cases hn; done) | simp
      · show LeK (rkOf o.op (toD ds) ++ _) l
        rw [hnc]
        simp only [List.append_nil]
        have : rkOf o.op (toD ds) = (opds o.op).flatMap fun x => keyOf (ev (lkF ds.fr) x) := by
          cases hop : o.op <;> rw [hop] at hn <;> first | rfl | (cases hn; done)
        rw [this]; exact hrk
      · have hq' : q ∈ e.mem.map (·.1) := hq
        obtain ⟨x, hx, rfl⟩ := List.mem_map.1 hq'
        exact h2 x hx
    exact DD_eff e0 hg h1 hc (okTs_ok hle ha fre hok) (k _ _ ts' χ' ds' (ha.snoc hle) h4 h1.ok h5 h6)
  cases ho : o.op with
  | call f args =>
    have h0 := h
    unfold step at h; rw [ho, hF] at h
    obtain ⟨vs', kl, d1, v, ts', χ', c1, c2, c3, c4, c5, c7, c6⟩ := tcall_ok hC hS hγ hk (TL.tea hγ args) (.inl ⟨args, ho, rfl⟩) h
    unfold tft at ht; rw [ho] at ht
    simp only at ht
    split at ht
    · rename_i l hl
      cases ht
      have hrk := tkys_ok (g := keyOf) (fun u v l h hl => tky_ok h hl) _ _ l (TL.tea hγ args) hl
      rw [List.flatMap_map] at hrk
      refine calls c1 c2 c3 c4 c5 (by rw [ho]; exact hrk) (fun q hq => ?_) ?_
      rw [hF]
      cases hfl : flS C F.S f with
      | true => rw [c7 hfl] at hq; cases hq
      | false => exact trows_mem (c6 q hq)
      · exact fun q hq => tkys_rw hl (c6 q hq)
    · cases ht
  | calv x args =>
    unfold step at h; rw [ho] at h
    simp only at h
    unfold tft at ht; rw [ho] at ht
    simp only at ht
    split at ht
    rotate_left
    · cases ht
    rename_i ca l hca hl
    cases ht
    have hrk := tkys_ok (g := keyOf) (fun u v l h hl => tky_ok h hl) _ _ l (TL.tea hγ args) hl
    rw [List.flatMap_map] at hrk
    have hx := hγ.tev x
    split at h
    · rename_i f a c ex
      rw [ex] at hx
      generalize hv : ev (lkF ds.fr) x = w at hx
      cases hx with
      | fn _ _ _ a' c' ha' hc' h1 h2 =>
        have ta : TL P C ts χ a a' := ⟨ha', h1⟩
        have tc : TL P C ts χ c c' := ⟨hc', h2⟩
        rw [hF] at h
        obtain ⟨vs', kl, d1, v, ts', χ', c1, c2, c3, c4, c5, _, c6⟩ := tcall_ok hC hS hγ hk ((ta.app (TL.tea hγ args)).app tc) (.inr ⟨x, args, a', c', ho, hv, rfl⟩) h
        refine calls c1 c2 c3 c4 c5 ?_ (fun q hq => by simp only [ex]; exact trows_mem (c6 q hq)) (fun q hq => by
          obtain ⟨u, hu, e⟩ := c6 q hq
          have hca' : tkys ts (tky ts) (a ++ c) = some ca := by
            unfold tkcap at hca
            rw [show (tea ts.fr x).s = .fn f a c from ex] at hca
            exact hca
          rcases List.mem_append.1 hu with hu | hu
          · rcases List.mem_append.1 hu with hu | hu
            · exact List.mem_append_left _ (tkys_rw hca' ⟨u, List.mem_append_left _ hu, e⟩)
            · exact List.mem_append_right _ (tkys_rw hl ⟨u, hu, e⟩)
          · exact List.mem_append_left _ (tkys_rw hca' ⟨u, List.mem_append_right _ hu, e⟩))
        rw [ho]
        show LeK (rkCap (ev (lkF ds.fr) x) ++ args.flatMap fun y => keyOf (ev (lkF ds.fr) y)) _
        rw [hv]
        refine LeK.app ?_ hrk
        unfold tkcap at hca
        have ex' : (tea ts.fr x).s = .fn f a c := ex
        rw [ex'] at hca
        have := tkys_ok (g := keyOf) (fun u v l h hl => tky_ok h hl) _ _ ca (ta.app tc) hca
        rw [List.flatMap_append] at this
        exact this
    · rename_i ps rs V ex
      rw [ex] at hx
      generalize hv : ev (lkF ds.fr) x = w at hx
      cases hx with
      | fv _ _ _ _ hV hv' =>
        rw [hF] at h
        obtain ⟨f, vs, vs', kl, d1, v, ts', χ', c1, c2, c3, c4, c5, c6⟩ := tcalv_ok hC hγ hk hV ho hv hv' (TL.tea hγ args) h
        refine calls c1 c2 c3 c4 c5 ?_ (fun q hq => by simp only [ex]; exact trows_mem (c6 q hq)) (fun q hq => List.mem_append_right _ (tkys_rw hl (c6 q hq)))
        rw [ho]
        show LeK (rkCap (ev (lkF ds.fr) x) ++ args.flatMap fun y => keyOf (ev (lkF ds.fr) y)) _
        rw [hv]
        refine LeK.app ?_ hrk
        obtain ⟨g1, _, _, f', a, c, g4, _⟩ := hV
        rw [← hv', dwk_noL] at g1
        cases w with
        | fn f0 a0 c0 =>
          simp only [AV.noL, Bool.and_eq_true] at g1
          intro q hq
          simp only [rkCap, List.mem_append, List.mem_flatMap] at hq
          rcases hq with ⟨y, hy, hq⟩ | ⟨y, hy, hq⟩
          · rcases (noL_keys (noLs_mem.1 g1.1 y hy)).1 q hq with r | ⟨r, hr, _⟩
            · exact .inl r
            · cases hr
          · rcases (noL_keys (noLs_mem.1 g1.2 y hy)).1 q hq with r | ⟨r, hr, _⟩
            · exact .inl r
            · cases hr
        | _ => exact .nil
    · exact h.elim
  | _ => exact rest (by rw [ho]; rfl)
theorem tdrw_ok (hC : CxOk P C) {F : Cf K} (hF : F.C = C) (hS : SsOk P C F.S) {X : TS K → Prop} {Q : KS → Prop} : ∀ (L' : List (AO × List Nat)) (i : Nat) (acc : List Foot) (tacc : List TFt) (ts : TS K) (χ : Nat → Nat → Bool) (ds : DS), LD.drop i = L' → LeA acc tacc → GM P C R ts χ ds → DOk ds → tdrw F L' tacc ts X →
    (∀ ts' χ' ds', GM P C R ts' χ' ds' → DOk ds' → X ts' → ExtR ts.rg ts'.rg → RE B N (toD ds') Q) → DD P LD i acc (fun S => RE B N S Q) ds
  | [], i, acc, tacc, ts, χ, ds, e, ha, hγ, hk, h, fin => by
    have _ := (inferInstance : GB P B)
    intro _
    rw [e]
    exact fin ts χ ds hγ hk h .refl
  | (o, fre) :: r, i, acc, tacc, ts, χ, ds, e, ha, hγ, hk, h, fin => by
    have e0 : LD[i]? = some (o, fre) := by
      have := congrArg (·[0]?) e
      simpa using this
    have e1 : LD.drop (i + 1) = r := by rw [← List.drop_drop, e]; rfl
    have next : ∀ {ts2 : TS K} {χ2 : Nat → Nat → Bool} {ds2 : DS} {acc2 : List Foot} {tacc2 : List TFt}, LeA acc2 tacc2 → GM P C R ts2 χ2 ds2 → DOk ds2 → tdrw F r tacc2 ts2 X → ts2.rg = ts.rg → DD P LD (i + 1) acc2 (fun S => RE B N S Q) ds2 := by
      intro ts2 χ2 ds2 acc2 tacc2 la a b c d
      exact tdrw_ok hC hF hS r (i + 1) acc2 tacc2 ts2 χ2 ds2 e1 la a b c fun ts3 χ3 ds3 p q s t => fin ts3 χ3 ds3 p q s (by rw [← d]; exact t)
    have run : ∀ {ts0 : TS K} {ds0 : DS}, GM P C R ts0 χ ds0 → DOk ds0 → ts0.rg = ts.rg → gok o.guard ds0.fr = true → tdrun F o fre tacc (fun acc t => tdrw F r acc t X) ts0 → DD P LD i acc (fun S => RE B N S Q) ds0 := by
      intro ts0 ds0 hγ0 hk0 hr hg hst
      exact DD_step hC hF hS e0 hγ0 hk0 hg ha hst fun acc2 tacc2 ts2 χ2 ds2 la a b c d => next la a b c (d.trans hr)
    have skip : ∀ {ts0 : TS K} {ds0 : DS}, GM P C R ts0 χ ds0 → DOk ds0 → ts0.rg = ts.rg → gno o.guard ds0.fr = true → tdrw F r (tacc ++ [⟨[], []⟩]) (ts0.put o.dst (.tup [])) X → DD P LD i acc (fun S => RE B N S Q) ds0 := by
      intro ts0 ds0 hγ0 hk0 hr hg hst
      exact DD_skp e0 hg (next (ha.snoc LeF.skip) (hγ0.put (.tup [] [] rfl (fun j u v h => by simp at h))) hk0.put hst ((put_rg _ _ _).trans hr))
    rw [tdrw] at h
    unfold tdg tgd at h
    split at h
    · rename_i hg
      exact run hγ hk rfl (by rw [hg]; rfl) h
    · rename_i d b hg
      have hd := (hγ.fr d).s
      split at h
      · rename_i c hc
        rw [hc] at hd
        have hv := hd.lbi
        split at h
        · rename_i hcb
          have : c = b := by cases c <;> cases b <;> first | rfl | cases hcb
          subst this
          exact run hγ hk rfl (gok_of hg hv) h
        · rename_i hcb
          exact skip hγ hk rfl (gno_of hg hv (by intro q; subst q; cases c <;> cases hcb)) h
      · rename_i c hc
        rw [hc] at hd
        have hv := hd.bli
        obtain ⟨h1, h2⟩ := h
        refine DD_bool hv (fun hb => ?_) (fun hb => ?_)
        · have hh := h1 hb
          have g1 := hγ.put (d := some d) (TR.lb (P := P) (C := C) (ts := ts) (χ := χ) true)
          have v1 : lkF (ds.put (some d) (.bl true)).fr d = .bl true := by show lkF ((d, .bl true) :: ds.fr) d = _; rw [lkF_cons]; simp
          cases b with
          | true => exact run g1 hk.put (put_rg _ _ _) (gok_of hg v1) hh
          | false => exact skip g1 hk.put (put_rg _ _ _) (gno_of hg v1 (by simp)) hh
        · have hh := h2 hb
          have g1 := hγ.put (d := some d) (TR.lb (P := P) (C := C) (ts := ts) (χ := χ) false)
          have v1 : lkF (ds.put (some d) (.bl false)).fr d = .bl false := by show lkF ((d, .bl false) :: ds.fr) d = _; rw [lkF_cons]; simp
          cases b with
          | true => exact skip g1 hk.put (put_rg _ _ _) (gno_of hg v1 (by simp)) hh
          | false => exact run g1 hk.put (put_rg _ _ _) (gok_of hg v1) hh
      · rename_i hc
        rw [hc] at hd
        obtain ⟨vs, hv, hl, _⟩ := hd.tup'
        have : vs = [] := List.eq_nil_of_length_eq_zero hl
        subst this
        exact skip hγ hk rfl (by rw [hg]; simp only [gno, hv]) h
      · exact h.elim
theorem frzD_ok (hB : LentB B) (hC : CxOk P C) {F : Cf K} (hF : F.C = C) (L : List (AO × List Nat)) : REk P C R B N ts (frzD F L ts) ∧ (frzD F L ts).rg = ts.rg := by
  have _ := (inferInstance : GB P B)
  unfold frzD
  rw [hF]
  generalize (L.flatMap fun p => (frzO F ts.fr p.1.op).flatMap fun x => match x with | .t n => [srcD L 9 n] | .c _ => []) = l
  induction l generalizing ts with
  | nil => exact ⟨.refl, rfl⟩
  | cons n l ih =>
    obtain ⟨a, b⟩ := ih (ts := fzA C 9 [lkT ts.fr n] ts)
    exact ⟨(fzA_ok hB hC _ _ _).trans a, by rw [List.foldl_cons, b, fzA_rg]⟩
end
/-! ### code -/
section
theorem RE_Kq {Q : AEx → TS K → Prop} {e : AEx} {rg : List (Nat × TV K)} (hB : LentB B) (hC : CxOk P C) (hγ : GM P C R ts χ ds) (hk : DOk ds) (hx : ExtR rg ts.rg) (h : Q e (er ts)) : RE B N (toD ds) (Kq P C R rg Q e) :=
  have _ := (inferInstance : GB P B)
  (er_ok (N := N) hB hC χ ds hk hγ).mono fun ks ⟨h1, ξ, h2⟩ => ⟨h1, er ts, ξ, h2, hx, h⟩
/-- where ways meet, the rest is as it is told for the data -/
theorem rdJ_ok (hR : ∀ h h' H n, R h H n → R h' H n) (hB : LentB B) (hC : CxOk P C) {τ : Tm} {rg : List (Nat × TV K)} {hh : List (HO K)} {J : List (DV K) → Prop} {ks : KS} (hk : KOk ks) (hγ : GM P C R ts χ (ofK ks)) (hx : ExtR rg ts.rg) (h : rdJ C τ ts J) :
    RE B N (toS ks) fun ks' => ∃ env, J env ∧ KOk ks' ∧ ∃ ξ, GM P C R (bdT C τ rg hh env) ξ (ofK ks') := by
  have _ := (inferInstance : GB P B)
  unfold rdJ at h
  split at h
  · rename_i env he
    have h1 := fzT_ok (R := R) (N := N) hB hC ts.fr τ.ks ts
    have h2 := (rdT_ok (N := N) (rg := rg) hB hC (by rw [fzT_rg]; exact hx) he hh hR).k
    exact ((h1.trans h2) χ ks hk hγ).mono fun ks' ⟨a, b⟩ => ⟨env, h, a, b⟩
  · exact h.elim
theorem WK_mono {c : ACode} {Q Q' : AEx → KS → Prop} {ks : KS} (h : WK P B N ro c Q ks) (hq : ∀ e ks, Q e ks → Q' e ks) : WK P B N ro c Q' ks := have _ := (inferInstance : GB P B); fun x hx a G hR => wpIn_mono (h x hx a G hR) fun _ _ _ hp => PostK.mono hq hp
theorem bdT_rg (C : Cx K) (τ : Tm) (rg : List (Nat × TV K)) (hh : List (HO K)) (env : List (DV K)) : (bdT C τ rg hh env).rg = rg := rfl
theorem Dn_ok (hR : ∀ h h' H n, R h H n → R h' H n) (hB : LentB B) (hC : CxOk P C) {F : Cf K} (hF : F.C = C) (hS : SsOk P C F.S) (hN : F.N = N) : ∀ (A : An K) (c : ACode) (Q : AEx → TS K → Prop) (ts : TS K) (χ : Nat → Nat → Bool) (ks : KS), KOk ks → GM P C R ts χ (ofK ks) → Dn F A c Q ts → WK P B N ro c (Kq P C R ts.rg Q) ks := by
  intro A
  induction A with
  | o =>
    intro c Q ts χ ks hk hγ h
    have at' : ∀ {e : AEx}, Q e ts → Kq P C R ts.rg Q e ks := fun h => ⟨hk, ts, χ, hγ, .refl, h⟩
    cases c with
    | skip => exact WK_skip (at' h)
    | exit id => exact WK_exit (at' h)
    | ret => exact WK_ret (at' h)
    | ops L =>
      refine WK_ops ?_
      exact tops_ok (L := L) hB hC hF hS hN L 0 ts χ (ofK ks) rfl hγ (ofK_ok hk) h fun ts' χ' ds' a b d e => RE_Kq hB hC a b e d
    | drw L =>
      obtain ⟨f1, f2⟩ := frzD_ok (R := R) (N := N) (ts := ts) hB hC hF L
      refine WK_re fun _ => (f1 χ ks hk hγ).mono fun ks' ⟨hk', ξ, hγ'⟩ => WK_drw ?_
      exact tdrw_ok (LD := L) hC hF hS L 0 [] [] _ ξ (ofK ks') rfl ⟨rfl, fun j f t h => by simp at h⟩ hγ' (ofK_ok hk') h fun ts' χ' ds' a b d e => RE_Kq hB hC a b (by rw [← f2]; exact e) d
    | _ => exact h.elim
  | s a b iha ihb =>
    intro c Q ts χ ks hk hγ h
    cases c with
    | seq x y =>
      refine WK_seq (WK_mono (iha x _ ts χ ks hk hγ h) fun e ks' hq => ?_)
      obtain ⟨h1, ts', χ', h2, h3, h4⟩ := hq
      cases e with
      | n => exact WK_mono (ihb y Q ts' χ' ks' h1 h2 h4) fun e ks2 hq => hq.mono h3
      | x id => exact ⟨h1, ts', χ', h2, h3, h4⟩
      | r => exact ⟨h1, ts', χ', h2, h3, h4⟩
    | _ => exact h.elim
  | c a b iha ihb =>
    intro c Q ts χ ks hk hγ h
    cases c with
    | cond u x y =>
      have hu := hγ.tev u
      unfold Dn at h
      split at h
      · rename_i e
        rw [e] at hu
        exact WK_cond (b := true) hu.lbi (fun _ => iha x Q ts χ ks hk hγ h) (fun q => by cases q)
      · rename_i e
        rw [e] at hu
        exact WK_cond (b := false) hu.lbi (fun q => by cases q) (fun _ => ihb y Q ts χ ks hk hγ h)
      · rename_i q e
        rw [e] at hu
        exact WK_cond (b := q) hu.bli (fun hq => iha x Q ts χ ks hk hγ (h.1 hq)) (fun hq => ihb y Q ts χ ks hk hγ (h.2 hq))
      · exact h.elim
    | _ => exact h.elim
  | b a iha =>
    intro c Q ts χ ks hk hγ h
    cases c with
    | block id x =>
      refine WK_block (WK_mono (iha x _ ts χ ks hk hγ h) fun e ks' hq => ?_)
      obtain ⟨h1, ts', χ', h2, h3, h4⟩ := hq
      cases e with
      | n => exact ⟨h1, ts', χ', h2, h3, h4⟩
      | r => exact ⟨h1, ts', χ', h2, h3, h4⟩
      | x i =>
        show bkQ id _ (.x i) ks'
        simp only at h4
        unfold bkQ
        simp only
        split at h4
        · rename_i e; rw [e]; exact ⟨h1, ts', χ', h2, h3, h4⟩
        · rename_i e; rw [e]; exact ⟨h1, ts', χ', h2, h3, h4⟩
    | _ => exact h.elim
  | l τ a iha =>
    intro c Q ts χ ks hk hγ h
    cases c with
    | loop x =>
      refine WK_loop fun Y hY => ?_
      let Sem : List (DV K) → Prop := fun env => ∀ ks', KOk ks' → (∃ ξ, GM P C R (bdT F.C τ (tagT τ ts).rg ts.h env) ξ (ofK ks')) → WK P B N ro x (sqQ (Kq P C R ts.rg Q) Y) ks'
      -- a state that is told so leads on
      have go : ∀ {ts' : TS K} {χ' : Nat → Nat → Bool} {ks' : KS}, KOk ks' → GM P C R ts' χ' (ofK ks') → ExtR (tagT τ ts).rg ts'.rg → rdJ F.C τ ts' (apC False (ctT τ) (curC (ctT τ) Sem)) → Y ks' := by
        intro ts' χ' ks' hk' hγ' hx' hj
        refine hY ks' (WK_re fun _ => ?_)
        rw [hF] at hj
        refine (rdJ_ok (hh := ts.h) hR hB hC hk' hγ' hx' hj).mono fun ks2 ⟨env, e1, e2, ξ, e3⟩ => ?_
        exact apC_cur _ _ _ e1 ks2 e2 ⟨ξ, by rw [hF]; exact e3⟩
      refine go hk (tagT_ok hγ) .refl (h (curC (ctT τ) Sem) (allC_cur _ _ _ fun env hd => ?_))
      rintro ks' hk' ⟨ξ, hγ'⟩
      refine WK_mono (iha env x _ _ ξ ks' hk' hγ' hd) fun e ks2 hq => ?_
      obtain ⟨h1, ts', χ', h2, h3, h4⟩ := hq
      rw [bdT_rg] at h3
      cases e with
      | n => exact go h1 h2 h3 h4
      | x id => exact ⟨h1, ts', χ', h2, (tagT_ext τ ts).trans h3, h4⟩
      | r => exact ⟨h1, ts', χ', h2, (tagT_ext τ ts).trans h3, h4⟩
    | _ => exact h.elim
  | j τ a b iha ihb =>
    intro c Q ts χ ks hk hγ h
    cases c with
    | seq x y =>
      let Sem : List (DV K) → Prop := fun env => ∀ ks', KOk ks' → (∃ ξ, GM P C R (bdT F.C τ (tagT τ ts).rg ts.h env) ξ (ofK ks')) → WK P B N ro y (Kq P C R ts.rg Q) ks'
      have hd := h (curC (ctT τ) Sem) (allC_cur _ _ _ fun env hd => by
        rintro ks' hk' ⟨ξ, hγ'⟩
        exact WK_mono (ihb env y Q _ ξ ks' hk' hγ' hd) fun e ks2 hq => hq.mono (tagT_ext τ ts))
      refine WK_seq (WK_mono (iha x _ (tagT τ ts) χ ks hk (tagT_ok hγ) hd) fun e ks' hq => ?_)
      obtain ⟨h1, ts', χ', h2, h3, h4⟩ := hq
      cases e with
      | n =>
        refine WK_re fun _ => ?_
        simp only at h4
        rw [hF] at h4
        refine (rdJ_ok (hh := ts.h) hR hB hC h1 h2 h3 h4).mono fun ks2 ⟨env, e1, e2, ξ, e3⟩ => ?_
        exact apC_cur _ _ _ e1 ks2 e2 ⟨ξ, by rw [hF]; exact e3⟩
      | x id => exact ⟨h1, ts', χ', h2, (tagT_ext τ ts).trans h3, h4⟩
      | r => exact ⟨h1, ts', χ', h2, (tagT_ext τ ts).trans h3, h4⟩
    | _ => exact h.elim
end
/-! ### a function -/
theorem WK_post {c : ACode} {Q Q' : AEx → KS → Prop} {ks : KS} (h : WK P B N ro c Q ks) (hq : ∀ e ks, KOk ks → Q e ks → RE B N (toS ks) (Q' e)) : WK P B N ro c Q' ks := by
  have _ := (inferInstance : GB P B)
  intro x hx a G hR
  refine wpIn_mono (h x hx a G hR) ?_
  rintro e a' w' ⟨ks1, G1, h1, h2, h3⟩
  have go : ∀ e', Q e' ks1 → ∃ ks2 G2, RelK B N ks2 a' G2 ∧ G2.w = w' ∧ Q' e' ks2 := by
    intro e' h3
    obtain ⟨ks2, G2, k1, k2, k3⟩ := hq e' ks1 h1.2 h3 a' G1 h1.1
    exact ⟨ks2, G2, k2, by rw [k1, h2], k3⟩
  cases e with
  | normal => exact go .n h3
  | exit id => exact go (.x id) h3
  | ret => exact go .r h3
  | goto l => exact h3.elim
  | panic ch => exact h3.elim
  | outgrown => exact h3.elim
theorem resT_ok {ks : KS} (hk : KOk ks) (hγ : GM P C R ts χ (ofK ks)) {q : Nat × Option Nat} {u : TV K} (h : resT ts q = some u) : ∃ v, res1 (toS ks) q = some v ∧ TR P C ts χ u v := by
  have box : ∀ {t s c o e : Nat} {cs : List (TV K)}, (lkT ts.fr t).s = .px s c o → ts.tb s c = some (.box e cs) → ∃ kb : KB, (toS ks).fr t = .pt (.l s c) o ∧ tgt (toS ks) (.pt (.l s c) o) = some (kb.cells, o) ∧ TL P C ts χ cs kb.cells := by
    intro t s c o e cs e1 e2
    have ht := (hγ.fr t).s
    rw [e1] at ht
    obtain ⟨kb, h1, h2⟩ := hγ.mb s c _ e2 (hγ.box e2)
    refine ⟨kb, ht.pxi, ?_, h2.2.2.1, h2.2.2.2⟩
    have hz := (ofK_ok hk s c kb h1).1
    show ((toS ks).M (.l s c)).bind _ = _
    rw [← ofK_toD]
    show (((ofK ks).kb s c).map KB.blk).bind _ = _
    rw [h1]
    exact if_neg hz
  unfold resT at h
  split at h
  · cases h; exact ⟨_, rfl, hγ.fr _⟩
  · split at h
    · rename_i s c o e1
      split at h
      · rename_i e cs e2
        obtain ⟨kb, b1, b2, b3⟩ := box e1 e2
        obtain ⟨v, h1, h2⟩ := b3.at' h
        exact ⟨v, by simp only [res1, b1, b2, Option.bind_some]; exact h1, h2⟩
      · cases h
    · cases h
  · rename_i t sz
    split at h
    · rename_i s c o e1
      split at h
      · rename_i e cs e2
        obtain ⟨kb, b1, b2, b3⟩ := box e1 e2
        obtain ⟨v, h1, h2⟩ := tldc_ok b3 h
        refine ⟨v, ?_, h2⟩
        simp only [res1, b1, b2, Option.bind_some]
        simp only [kld] at h1
        exact h1
      · cases h
    · cases h
theorem resTs_ok {ks : KS} (hk : KOk ks) (hγ : GM P C R ts χ (ofK ks)) : ∀ (l : List (Nat × Option Nat)) (us : List (TV K)), resTs ts l = some us → ∃ vs, resL (toS ks) l = some vs ∧ TL P C ts χ us vs
  | [], us, h => by cases h; exact ⟨[], rfl, .nil⟩
  | q :: l, us, h => by
    simp only [resTs] at h
    split at h
    · rename_i v vs h1 h2
      cases h
      obtain ⟨a, a1, a2⟩ := resT_ok hk hγ h1
      obtain ⟨as, b1, b2⟩ := resTs_ok hk hγ l vs h2
      exact ⟨a :: as, by simp only [resL, a1, b1], .cons a2 b2⟩
    · cases h
theorem outR_ok (hC : CxOk P C) : ∀ (rs : List Nat) (us : List (TV K)) (vs : List AV) (p : List (DV K) → Prop), outR C rs us p → TL P C ts χ us vs → ∃ xs, p xs ∧ noLs vs = true ∧ dwks vs = xs.map (dvA C)
  | [], [], vs, p, h, t => by
    have : vs = [] := List.eq_nil_of_length_eq_zero t.1
    subst this; exact ⟨[], h, rfl, rfl⟩
  | r :: rs, u :: us, vs, p, h, t => by
    cases vs with
    | nil => simp [TL] at t
    | cons v vs =>
      simp only [outR] at h
      split at h
      · rename_i x e
        obtain ⟨xs, a1, a2, a3⟩ := outR_ok hC rs us vs _ h t.head.2
        obtain ⟨b1, b2, _⟩ := outV_ok hC e t.head.1
        exact ⟨.v r x :: xs, a1, by simp [noLs, b2, a2], by simp only [dwks, List.map_cons, a3, b1]; rfl⟩
      · exact h.elim
  | [], _ :: _, _, _, h, _ => h.elim
  | _ :: _, [], _, _, h, _ => h.elim
theorem eqR_ok : ∀ {x r : List (DV K)}, eqR x r → x = r := by
  have one : ∀ {t t' : Nat} {x : K t} {y : K t'}, (if h : t = t' then h ▸ x = y else False) → (DV.v t x : DV K) = .v t' y := by
    intro t t' x y h
    split at h
    · rename_i e; subst e; subst h; rfl
    · exact h.elim
  intro x
  induction x with
  | nil => intro r h; cases r with | nil => rfl | cons => exact h.elim
  | cons a x ih =>
    intro r h
    cases r with
    | nil => cases a <;> first | exact h.elim | (cases x <;> exact h.elim)
    | cons b r =>
      cases a with
      | v t y =>
        cases b with
        | v t' z =>
          cases x with
          | nil =>
            cases r with
            | nil => rw [one h]
            | cons => cases ih h.2
          | cons c x =>
            have h' : (if h : t = t' then h ▸ y = z else False) ∧ eqR (c :: x) r := h
            rw [one h'.1, ih h'.2]
        | _ => cases x <;> cases r <;> exact h.elim
      | _ => cases b <;> cases x <;> cases r <;> exact h.elim
theorem retF_ok (hB : LentB B) (hC : CxOk P C) (res : List (Nat × Option Nat)) : ∀ (n : Nat) (ts : TS K), REk P C R B N ts (retF C res ts n)
  | 0, ts => .refl
  | n + 1, ts => by
    have _ := (inferInstance : GB P B)
    simp only [retF]
    split
    · split
      · exact .refl
      · exact (fzA_ok hB hC 9 _ ts).trans (retF_ok hB hC res n _)
    · exact .refl
theorem entT_ok (hC : CxOk P C) : ∀ (ps : List PD) (env : List (AD K)) (i : Nat), env.length = ps.length → (∀ F, AD.f F ∈ env → FOk P C F) → ∀ t, TR P C ts χ (lkT (entT C ps env i) t) (lkF (entF (pencs C ps env) i) t)
  | [], [], i, _, _, t => .un _
  | [], _ :: _, i, h, _, t => by simp at h
  | _ :: _, [], i, h, _, t => by simp at h
  | p :: ps, x :: env, i, h, hF, t => by
    have ih := entT_ok hC ps env (i + 1) (by simpa using h) (fun F hf => hF F (List.mem_cons_of_mem _ hf)) t
    have bad : TR P C ts χ (lkT ([] : List (Nat × TV K)) t) (lkF (entF (pencs C (p :: ps) (x :: env)) i) t) := .un _
    have cons : ∀ {u : TV K}, TR P C ts χ u (penc C p x) → TR P C ts χ (lkT ((i, u) :: entT C ps env (i + 1)) t) (lkF (entF (pencs C (p :: ps) (x :: env)) i) t) := by
      intro u hu
      show TR P C ts χ _ (lkF ((i, penc C p x) :: entF (pencs C ps env) (i + 1)) t)
      rw [lkT_put, lkF_cons]
      simp only
      split
      · exact hu
      · exact ih
    cases p with
    | v t' =>
      cases x with
      | d y =>
        cases y with
        | v t2 z =>
          simp only [entT]
          refine cons ?_
          split
          · rename_i e; subst e; exact (inV_ok hC t2 z).1
          · exact .un _
        | _ => exact bad
      | f F => exact bad
    | p t' =>
      cases x with
      | d y =>
        cases y with
        | v t2 z =>
          simp only [entT]
          refine cons ?_
          split
          · rename_i e; subst e
            have : penc C (.p t2) (.d (.v t2 z)) = .ep ((C.E t2).c z) (0 * (C.E t2).sz + 0) := by simp [penc]
            rw [this]
            exact .ep t2 [z] 0 0 _ (by simp [cl, hC.dw])
          · exact .un _
        | _ => exact bad
      | f F => exact bad
    | f as bs =>
      cases x with
      | d y => exact bad
      | f F =>
        simp only [entT]
        exact cons (.fv as bs F _ (hF F List.mem_cons_self) (hF F List.mem_cons_self).2.1)
theorem pencs_noL (hC : CxOk P C) : ∀ (ps : List PD) (env : List (AD K)), (∀ F, AD.f F ∈ env → FOk P C F) → noLs (pencs C ps env) = true
  | [], _, _ => by simp [pencs, noLs]
  | _ :: _, [], _ => by simp [pencs, noLs]
  | p :: ps, x :: env, hF => by
    have ih := pencs_noL hC ps env (fun F hf => hF F (List.mem_cons_of_mem _ hf))
    have dv : ∀ y : DV K, (dvA C y).noL = true := by
      intro y
      cases y with
      | v t z => exact (inV_ok (P := P) (ts := ⟨[], [], [], [], []⟩) (χ := fun _ _ => false) hC t z).2.1
      | _ => rfl
    simp only [pencs, noLs, ih, Bool.and_true]
    cases x with
    | f F => cases p <;> exact (hF F List.mem_cons_self).1
    | d y =>
      cases p with
      | p t' =>
        cases y with
        | v t2 z =>
          simp only [penc]
          split <;> rfl
        | _ => rfl
      | _ => exact dv y
theorem pencs_len (C : Cx K) : ∀ (ps : List PD) (env : List (AD K)), env.length = ps.length → (pencs C ps env).length = ps.length
  | [], [], _ => rfl
  | [], _ :: _, h => by simp at h
  | _ :: _, [], h => by simp at h
  | p :: ps, x :: env, h => by simp only [pencs, List.length_cons]; rw [pencs_len C ps env (by simpa using h)]
end
theorem DnF_ok {P : Program} {F : Cf K} (hC : CxOk P F.C) (hS : SsOk P F.C F.S) {f : FuncId} {c : AFn} (hF : trF P f = some c) {A : An K} {ps : List PD} {rs : List Nat} (hN : F.N = c.N) (hps : ps.length ≤ c.N) {env : List (AD K)} {r : List (DV K)} (hlen : env.length = ps.length) (hFs : ∀ G, AD.f G ∈ env → FOk P F.C G)
    (h : DnF F A c ps rs env r) : Pure P f (pencs F.C ps env) (tresA (r.map (dvA F.C))) := by
  intro H n
  refine Contract.dwkR ?_
  refine contractK hF (by rw [pencs_len _ _ _ hlen]; exact hps) (pencs_noL hC ps env hFs) fun B _ hB => ?_
  let R : List (HO K) → Hp → Nat → Prop := fun _ H' n' => H' = H ∧ n' = n
  let ks0 : KS := entK (pencs F.C ps env) H n
  let ts0 : TS K := ⟨entT F.C ps env 0, [], [], [], []⟩
  have hk0 : KOk ks0 := fun d b hb => by cases hb
  have hg0 : GM P F.C R ts0 (fun _ _ => false) (ofK ks0) := by
    refine ⟨fun t => entT_ok hC ps env 0 hlen hFs t, fun s c b hb _ => ?_, fun s c h => by (cases h), fun s _ => rfl, rfl, rfl⟩
    rcases tb_c hb with rfl | rfl <;> cases hb
  have hmain := Dn_ok (ro := none) (R := R) (fun _ _ _ _ h => h) hB hC rfl hS hN A c.body _ ts0 _ ks0 hk0 hg0 h
  refine WK_post hmain fun e ks hk hq => ?_
  obtain ⟨_, ts, χ, hγ, _, hq⟩ := hq
  have fin : retD F.C c.res rs (fun x => eqR x r) .r ts → RE B c.N (toS ks) (retK c.res (fun av H' n' => dwk av = tresA (r.map (dvA F.C)) ∧ H' = H ∧ n' = n) .r) := by
    intro hq
    simp only [retD] at hq
    refine (retF_ok hB hC c.res 9 ts χ ks hk hγ).mono fun ks' ⟨hk', ξ, hγ'⟩ => ?_
    split at hq
    · rename_i us hus
      obtain ⟨vs, h1, h2⟩ := resTs_ok hk' hγ' c.res us hus
      obtain ⟨xs, h3, h4, h5⟩ := outR_ok hC rs us vs _ hq h2
      have := eqR_ok h3
      subst this
      show wpv (resA (toS ks') c.res) _
      unfold resA
      rw [h1]
      have hA : ∀ (vs : List AV) (xs : List AV), noLs vs = true → dwks vs = xs → (match vs with | [u] => u | us => AV.tup us).noL = true ∧ dwk (match vs with | [u] => u | us => AV.tup us) = tresA xs := by
        intro vs xs hn hd
        match vs, hn, hd with
        | [], _, hd => subst hd; exact ⟨rfl, rfl⟩
        | [v], hn, hd => subst hd; exact ⟨by simpa [noLs] using hn, rfl⟩
        | v :: v' :: vs, hn, hd => subst hd; exact ⟨hn, rfl⟩
      obtain ⟨a1, a2⟩ := hA vs _ h4 h5
      exact ⟨a1, by rw [dwk_weak]; exact a2, hγ'.hp.1, hγ'.hp.2⟩
    · exact hq.elim
  cases e with
  | x id => exact hq.elim
  | r => exact fin hq
  | n => exact fin hq
end Go.AV

