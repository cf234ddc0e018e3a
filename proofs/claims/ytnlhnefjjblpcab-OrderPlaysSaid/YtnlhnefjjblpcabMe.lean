/- General texts and own ones, joined: what the program computes, told of abstract states, and the laws of plain data. No condition. -/
import Derived.Test.YtnlhnefjjblpcabMd
import Derived.Test.YtnlhnefjjblpcabMa
import Derived.Test.YtnlhnefjjblpcabRows
import Derived.KernelRfl
noncomputable section
namespace Go.AV
open Go.RowKit Go.RG Go.Lib
variable {K : Nat → Type}
section
variable {P : Program} {C : Cx K} {R : RR K} {ts ts1 : TS K} {χ : Nat → Nat → Bool} {ds : DS} {B : Base} [GB P B] {N : Nat} {ro : Option Nat}
theorem lkR_cons (p : Nat × TV K) (r : List (Nat × TV K)) (t : Nat) : lkR (p :: r) t = if p.1 = t then some p.2 else lkR r t := by
 show (match Nat.beq p.1 t with | true => some p.2 | false => lkR r t) = _
 cases h : Nat.beq p.1 t with
 | true => simp [nbeq.1 h]
 | false => simp only; rw [if_neg (fun e => by rw [nbeq.2 e] at h; cases h)]
theorem ExtR.refl {rg : List (Nat × TV K)} : ExtR rg rg := fun _ _ h => h
theorem ExtR.trans {a b c : List (Nat × TV K)} (h : ExtR a b) (k : ExtR b c) : ExtR a c := fun id w q => k id w (h id w q)
def Same (ts ts' : TS K) : Prop := ts'.od = ts.od ∧ ts'.nw = ts.nw
theorem tagV_ext : ∀ (k : Kd) (v : TV K) (rg : List (Nat × TV K)), ExtR rg (tagV k v rg).2
 | .kp id, v, rg => by
   simp only [tagV]
   split
   ·rename_i h1 h2
    intro id' w h
    rw [lkR_cons]
    split
    ·rename_i e; simp only at e; subst e; rw [h2] at h; cases h
    ·exact h
   ·exact .refl
 | .agg l, v, rg => by
   cases v with
   | agg vs =>
     simp only [tagV]
     exact tagVs_ext l vs rg
   | _ => exact .refl
 | .it _, v, rg => .refl
 | .bl, v, rg => .refl
 | .st, v, rg => .refl
 | .sl _, v, rg => .refl
 | .v _, v, rg => .refl
 | .row _, v, rg => .refl
 | .px _ _, v, rg => .refl
 | .nil, v, rg => .refl
 | .np, v, rg => .refl
 | .fn _ _ _, v, rg => .refl
 | .un, v, rg => .refl
where tagVs_ext : ∀ (l : List Kd) (vs : List (TV K)) (rg : List (Nat × TV K)), ExtR rg (tagVs l vs rg).2
 | [], vs, rg => .refl
 | k :: l, [], rg => .refl
 | k :: l, v :: vs, rg => by
   simp only [tagVs]
   exact (tagV_ext k v rg).trans (tagVs_ext l vs _)
theorem Mono.same {ts ts' : TS K} (hs : Same ts ts') (hx : ExtR ts.rg ts'.rg) : Mono ts ts' χ χ := by
 have ht : ∀ s c, ts'.tb s c = ts.tb s c := by intro s c; unfold TS.tb; rw [hs.1, hs.2]
 refine ⟨hx, fun s c h => ?_, fun s c _ => .inr ⟨by rw [ht], rfl⟩⟩
 rcases h with h | ⟨h1, h2⟩
 ·exact .inl h
 ·exact .inr ⟨h1, by rw [hs.2]; exact h2⟩
mutual
theorem tagV_ok : ∀ (k : Kd) (v : TV K) (rg : List (Nat × TV K)) (a : AV) (ts' : TS K), TR P C ts χ v a → Mono ts ts' χ χ → ExtR (tagV k v rg).2 ts'.rg → TR P C ts' χ (tagV k v rg).1 a
 | .kp id, v, rg, a, ts', h, hm, hx => by
   simp only [tagV] at hx ⊢
   split
   ·rename_i h1 h2
    rw [h1, h2] at hx
    exact .cn id v a (hx id v (by rw [lkR_cons]; simp)) h1 (h.noref h1).1
   ·exact h.mono hm
 | .agg l, .agg vs, rg, a, ts', h, hm, hx => by
   simp only [tagV] at hx ⊢
   obtain ⟨az, rfl, t1, t2⟩ := h.agg'
   have := tagVs_ok l vs rg az ts' ⟨t1, t2⟩ hm hx
   exact .agg _ _ this.1 this.2
 | .agg l, .un, rg, a, ts', h, hm, hx => h.mono hm
 | .agg l, .lb b, rg, a, ts', h, hm, hx => h.mono hm
 | .agg l, .bl b, rg, a, ts', h, hm, hx => h.mono hm
 | .agg l, .li k n, rg, a, ts', h, hm, hx => h.mono hm
 | .agg l, .it k n, rg, a, ts', h, hm, hx => h.mono hm
 | .agg l, .st s, rg, a, ts', h, hm, hx => h.mono hm
 | .agg l, .tup s, rg, a, ts', h, hm, hx => h.mono hm
 | .agg l, .nil, rg, a, ts', h, hm, hx => h.mono hm
 | .agg l, .em, rg, a, ts', h, hm, hx => h.mono hm
 | .agg l, .sl _ _, rg, a, ts', h, hm, hx => h.mono hm
 | .agg l, .rw _ _, rg, a, ts', h, hm, hx => h.mono hm
 | .agg l, .px _ _ _, rg, a, ts', h, hm, hx => h.mono hm
 | .agg l, .pr _ _ _ _ _, rg, a, ts', h, hm, hx => h.mono hm
 | .agg l, .ep _ _ _ _, rg, a, ts', h, hm, hx => h.mono hm
 | .agg l, .gs _ _, rg, a, ts', h, hm, hx => h.mono hm
 | .agg l, .nptr, rg, a, ts', h, hm, hx => h.mono hm
 | .agg l, .fn _ _ _, rg, a, ts', h, hm, hx => h.mono hm
 | .agg l, .fv _ _ _, rg, a, ts', h, hm, hx => h.mono hm
 | .agg l, .yl _, rg, a, ts', h, hm, hx => h.mono hm
 | .agg l, .cn _ _, rg, a, ts', h, hm, hx => h.mono hm
 | .it _, v, rg, a, ts', h, hm, hx => h.mono hm
 | .bl, v, rg, a, ts', h, hm, hx => h.mono hm
 | .st, v, rg, a, ts', h, hm, hx => h.mono hm
 | .sl _, v, rg, a, ts', h, hm, hx => h.mono hm
 | .v _, v, rg, a, ts', h, hm, hx => h.mono hm
 | .row _, v, rg, a, ts', h, hm, hx => h.mono hm
 | .px _ _, v, rg, a, ts', h, hm, hx => h.mono hm
 | .nil, v, rg, a, ts', h, hm, hx => h.mono hm
 | .np, v, rg, a, ts', h, hm, hx => h.mono hm
 | .fn _ _ _, v, rg, a, ts', h, hm, hx => h.mono hm
 | .un, v, rg, a, ts', h, hm, hx => h.mono hm
theorem tagVs_ok : ∀ (l : List Kd) (vs : List (TV K)) (rg : List (Nat × TV K)) (az : List AV) (ts' : TS K), TL P C ts χ vs az → Mono ts ts' χ χ → ExtR (tagVs l vs rg).2 ts'.rg → TL P C ts' χ (tagVs l vs rg).1 az
 | [], vs, rg, az, ts', h, hm, hx => h.mono hm
 | k :: l, [], rg, az, ts', h, hm, hx => h.mono hm
 | k :: l, v :: vs, rg, az, ts', h, hm, hx => by
   cases az with
   | nil => simp [TL] at h
   | cons a az =>
     simp only [tagVs] at hx ⊢
     exact .cons (tagV_ok k v rg a ts' h.head.1 hm ((tagV_ext.tagVs_ext l vs _).trans hx)) (tagVs_ok l vs _ az ts' h.head.2 hm hx)
end
theorem tagS_ext : ∀ (l : List (Nat × Kd)) (ts : TS K), ExtR ts.rg (tagS l ts).rg ∧ (tagS l ts).nw = ts.nw ∧ (tagS l ts).h = ts.h
 | [], ts => ⟨.refl, rfl, rfl⟩
 | p :: l, ts => by
   simp only [tagS]
   have := tagS_ext l ⟨(p.1, (tagV p.2 (lkT ts.fr p.1) ts.rg).1) :: ts.fr, ts.od, ts.nw, (tagV p.2 (lkT ts.fr p.1) ts.rg).2, ts.h⟩
   exact ⟨(tagV_ext _ _ _).trans this.1, this.2.1, this.2.2⟩
theorem tagS_ok : ∀ (l : List (Nat × Kd)) (ts : TS K), GM P C R ts χ ds → GM P C R (tagS l ts) χ ds
 | [], ts, h => h
 | p :: l, ts, h => by
   simp only [tagS]
   refine tagS_ok l _ ?_
   have hm : Mono ts ⟨(p.1, (tagV p.2 (lkT ts.fr p.1) ts.rg).1) :: ts.fr, ts.od, ts.nw, (tagV p.2 (lkT ts.fr p.1) ts.rg).2, ts.h⟩ χ χ := Mono.same ⟨rfl, rfl⟩ (tagV_ext _ _ _)
   refine ⟨fun t => ?_, fun s c b hb hx => ?_, h.vi, h.nw, h.hp, h.lv⟩
   ·show TR P C _ χ (lkT ((p.1, _) :: ts.fr) t) _
    rw [lkT_put]
    split
    ·rename_i e; rw [← e]; exact tagV_ok p.2 _ ts.rg _ _ (h.fr p.1) hm .refl
    ·exact (h.fr t).mono hm
   ·obtain ⟨kb, h1, h2⟩ := h.mb s c b hb hx
    exact ⟨kb, h1, h2.mono hm⟩
theorem tagVs_len : ∀ (l : List Kd) (vs : List (TV K)) (rg : List (Nat × TV K)), (tagVs l vs rg).1.length = vs.length
 | [], vs, rg => rfl
 | k :: l, [], rg => rfl
 | k :: l, v :: vs, rg => by simp only [tagVs, List.length_cons, tagVs_len l vs]
theorem tagB_ext : ∀ (l : List (Nat × Nat × List Kd)) (ts : TS K), ExtR ts.rg (tagB l ts).rg ∧ (tagB l ts).nw = ts.nw ∧ (tagB l ts).h = ts.h
 | [], ts => ⟨.refl, rfl, rfl⟩
 | p :: l, ts => by
   simp only [tagB]
   split
   ·rename_i e cs hb
    have := tagB_ext l ⟨ts.fr, (p.1, some (.box e (tagVs p.2.2 cs ts.rg).1)) :: ts.od, ts.nw, (tagVs p.2.2 cs ts.rg).2, ts.h⟩
    exact ⟨(tagV_ext.tagVs_ext _ _ _).trans this.1, this.2.1, this.2.2⟩
   ·exact tagB_ext l ts
theorem tagB_ok : ∀ (l : List (Nat × Nat × List Kd)) (ts : TS K), GM P C R ts χ ds → GM P C R (tagB l ts) χ ds
 | [], ts, h => h
 | p :: l, ts, h => by
   simp only [tagB]
   split
   ·rename_i e cs hb
    refine tagB_ok l _ ?_
    have htb : ∀ s c, (⟨ts.fr, (p.1, some (.box e (tagVs p.2.2 cs ts.rg).1)) :: ts.od, ts.nw, (tagVs p.2.2 cs ts.rg).2, ts.h⟩ : TS K).tb s c = if s = p.1 ∧ c = 1 then some (.box e (tagVs p.2.2 cs ts.rg).1) else ts.tb s c := fun s c => setb_tb ts p.1 1 (some (.box e (tagVs p.2.2 cs ts.rg).1)) (.inl rfl) s c
    have hbx : ts.tb p.1 1 = some (.box e cs) := hb
    have hm : Mono ts ⟨ts.fr, (p.1, some (.box e (tagVs p.2.2 cs ts.rg).1)) :: ts.od, ts.nw, (tagVs p.2.2 cs ts.rg).2, ts.h⟩ χ χ := by
     refine ⟨tagV_ext.tagVs_ext _ _ _, fun s c q => q, fun s c _ => .inr ⟨?_, rfl⟩⟩
     rw [htb]
     split
     ·rename_i q; obtain ⟨rfl, rfl⟩ := q; rw [hbx]; rfl
     ·rfl
    refine ⟨fun t => (h.fr t).mono hm, fun s c b hb' hx => ?_, fun s c hx => ?_, h.nw, h.hp, fun s b q e => ?_⟩
    rotate_right
    ·rw [htb] at e
     split at e
     ·rename_i q'; obtain ⟨rfl, _⟩ := q'; exact h.lv _ _ q hbx
     ·exact h.lv s b q e
    ·rw [htb] at hb'
     split at hb'
     ·rename_i q
      obtain ⟨rfl, rfl⟩ := q
      cases hb'
      obtain ⟨kb, h1, h2⟩ := h.mb _ _ _ hbx hx
      refine ⟨kb, h1, ?_⟩
      have t := tagVs_ok (P := P) (C := C) (ts := ts) (χ := χ) p.2.2 cs ts.rg kb.cells _ ⟨h2.2.2.1, h2.2.2.2⟩ hm .refl
      exact ⟨h2.1, by rw [tagVs_len]; exact h2.2.1, t.1, t.2⟩
     ·obtain ⟨kb, h1, h2⟩ := h.mb s c b hb' hx
      exact ⟨kb, h1, h2.mono hm⟩
    ·obtain ⟨e', h1⟩ := h.vi s c hx
     refine ⟨e', ?_⟩
     rw [htb]
     split
     ·rename_i q; obtain ⟨rfl, rfl⟩ := q; rw [hbx] at h1; cases h1
     ·exact h1
   ·exact tagB_ok l ts h
theorem tagT_ok {τ : Tm} (h : GM P C R ts χ ds) : GM P C R (tagT τ ts) χ ds := tagB_ok _ _ (tagS_ok _ _ h)
theorem tagT_ext (τ : Tm) (ts : TS K) : ExtR ts.rg (tagT τ ts).rg := (tagS_ext τ.ks ts).1.trans (tagB_ext τ.bx _).1
def curC : (cs : List CT) → (List (DV K) → Prop) → Cur K Prop cs
 | [], p => p []
 | _ :: cs, p => fun x => curC cs fun env => p (inC _ x :: env)
theorem outC_in (c : CT) (x : CTy K c) : outC c (inC c x) = some x := by
 cases c with
 | l e => exact dif_pos rfl
 | v t => exact dif_pos rfl
 | i => rfl
 | b => rfl
 | s => rfl
theorem outI_ok {x : DV K} {n : Int} (h : outI x = some n) : .i n = x := by
 cases x <;> first | (cases h; rfl) | (cases h; done)
theorem outBo_ok {x : DV K} {n : Bool} (h : outBo x = some n) : .b n = x := by
 cases x <;> first | (cases h; rfl) | (cases h; done)
theorem outS_ok {x : DV K} {n : Str} (h : outS x = some n) : .s n = x := by
 cases x <;> first | (cases h; rfl) | (cases h; done)
theorem outL_ok {e : Nat} {x : DV K} {l : List (K e)} (h : outL e x = some l) : .l e l = x := by
 cases x with
 | l e' l' => obtain ⟨rfl, rfl⟩ := castL_out h; rfl
 | _ => cases h
theorem outT_ok {t : Nat} {x : DV K} {y : K t} (h : outT t x = some y) : .v t y = x := by
 cases x with
 | v t' y' =>
   simp only [outT] at h
   split at h
   ·rename_i e; subst e; cases h; rfl
   ·cases h
 | _ => cases h
theorem outC_ok {c : CT} {x : DV K} {y : CTy K c} (h : outC c x = some y) : inC c y = x := by
 cases c with
 | l e => exact outL_ok h
 | v t => exact outT_ok h
 | i => exact outI_ok h
 | b => exact outBo_ok h
 | s => exact outS_ok h
theorem apC_cur : ∀ (cs : List CT) (p : List (DV K) → Prop) (env : List (DV K)), apC False cs (curC cs p) env → p env
 | [], p, [], h => h
 | [], p, _ :: _, h => h.elim
 | c :: cs, p, [], h => h.elim
 | c :: cs, p, x :: env, h => by
   simp only [apC] at h
   split at h
   ·rename_i y hy
    have := apC_cur cs _ env h
    rw [outC_ok hy] at this; exact this
   ·exact h.elim
theorem allC_cur : ∀ (cs : List CT) (p : List (DV K) → Prop) (q : List (DV K) → Prop), (∀ env, q env → p env) → allC cs fun env => q env → apC False cs (curC cs p) env
 | [], p, q, h => fun hq => h [] hq
 | c :: cs, p, q, h => fun x => by
   have := allC_cur cs (fun env => p (inC c x :: env)) (fun env => q (inC c x :: env)) (fun env => h _)
   show allC cs fun env => q (inC c x :: env) → (match outC c (inC c x) with | some y => apC False cs (curC (c :: cs) p y) env | none => False)
   rw [outC_in]
   exact this
variable (P C R) in
def Kq (rg : List (Nat × TV K)) (Q : AEx → TS K → Prop) (e : AEx) (ks : KS) : Prop := KOk ks ∧ ∃ ts χ, GM P C R ts χ (ofK ks) ∧ ExtR rg ts.rg ∧ Q e ts
theorem Kq.mono {rg rg' : List (Nat × TV K)} {Q : AEx → TS K → Prop} {e : AEx} {ks : KS} (h : Kq P C R rg Q e ks) (hx : ExtR rg' rg) : Kq P C R rg' Q e ks := by
 obtain ⟨a, ts, χ, b, c, d⟩ := h
 exact ⟨a, ts, χ, b, hx.trans c, d⟩
theorem fz_rg (C : Cx K) (ts : TS K) (s : Nat) : (fz C ts s).rg = ts.rg := by unfold fz; split <;> rfl
theorem fz_h (C : Cx K) (ts : TS K) (s : Nat) : (fz C ts s).h = ts.h := by unfold fz; split <;> rfl
theorem ExtR.eq {a b : List (Nat × TV K)} (h : b = a) : ExtR a b := h ▸ .refl
theorem fzA_rg (C : Cx K) : ∀ (n : Nat) (vs : List (TV K)) (ts : TS K), (fzA C n vs ts).rg = ts.rg
 | 0, _, _ => rfl
 | n + 1, vs, ts => by
   simp only [fzA]
   split
   ·rfl
   ·split
    ·rw [fz_rg, fzA_rg C n]
    ·rw [fz_rg]
theorem fzT_rg (C : Cx K) (fr : List (Nat × TV K)) : ∀ (l : List (Nat × Kd)) (ts : TS K), (fzT C fr l ts).rg = ts.rg
 | [], _ => rfl
 | (t, k) :: r, ts => by
   cases k with
   | sl e =>
     simp only [fzT]
     rw [fzT_rg C fr r]
     split
     ·rw [fz_rg]
     ·rfl
   | _ => simp only [fzT]; exact fzT_rg C fr r ts
theorem fzF_ok (hB : LentB B) (hC : CxOk P C) (f : TS K → List (TV K)) : ∀ (l : List AOpd) (ts : TS K), REk P C R B N ts (l.foldl (fun ts x => fzA C 9 [tea ts.fr x] ts) ts) ∧ (l.foldl (fun ts x => fzA C 9 [tea ts.fr x] ts) ts).rg = ts.rg
 | [], ts => ⟨.refl, rfl⟩
 | x :: l, ts => by
   have _ := (inferInstance : GB P B)
   obtain ⟨a, b⟩ := fzF_ok hB hC f l (fzA C 9 [tea ts.fr x] ts)
   exact ⟨(fzA_ok hB hC _ _ _).trans a, by rw [List.foldl_cons, b, fzA_rg]⟩
theorem frzA_ok (hB : LentB B) (hC : CxOk P C) {F : Cf K} (hF : F.C = C) {o : AO} : (frzA F o ts = ts ∨ REt P C R B N ts (frzA F o ts)) ∧ (frzA F o ts).rg = ts.rg := by
 have go : ∀ (args : List AOpd), REt P C R B N ts (args.foldl (fun ts x => fzA F.C 9 [tea ts.fr x] ts) (er ts)) ∧ (args.foldl (fun ts x => fzA F.C 9 [tea ts.fr x] ts) (er ts)).rg = ts.rg := by
  intro args
  rw [hF]
  obtain ⟨a, b⟩ := fzF_ok (N := N) hB hC (fun _ => []) args (er ts)
  exact ⟨(er_ok hB hC).thenk a, b⟩
 unfold frzA frzs
 split
 ·exact ⟨.inl rfl, rfl⟩
 ·exact ⟨.inr (go _).1, (go _).2⟩
section
variable {L : List AO} {i : Nat}
theorem WD_ret (hB : LentB B) {Q : KS → Prop} (h : REt P C R B N ts ts1) (hk : DOk ds) (hγ : GM P C R ts χ ds) (k : ∀ ks ξ, KOk ks → GM P C R ts1 ξ (ofK ks) → WD P B N ro L i Q (ofK ks)) : WD P B N ro L i Q ds :=
 WD_re fun _ => (h χ ds hk hγ).mono fun ks ⟨h1, ξ, h2⟩ => k ks ξ h1 h2
theorem WD_fin {Q : KS → Prop} (e : L.drop i = []) (h : DOk ds → RE B N (toD ds) Q) : WD P B N ro L i Q ds := by
 have _ := (inferInstance : GB P B)
 intro ops pre suf he ht a G hR
 rw [e] at ht
 cases suf with
 | cons x suf =>
   simp only [trOps] at ht
   split at ht <;> cases ht
 | nil =>
   obtain ⟨ks1, G1, h1, h2, h3⟩ := h hR.2 a G hR.1
   simp only [List.length_nil, List.range'_zero, wpOpsIn]
   rw [← h1]
   exact ⟨ks1, G1, h2, rfl, h3⟩
theorem gok_of {g : Option (Nat × Bool)} {fr : List (Nat × AV)} {d : Nat} {b : Bool} (e : g = some (d, b)) (h : lkF fr d = .bl b) : gok g fr = true := by
 subst e; simp only [gok, h]; cases b <;> rfl
theorem gno_of {g : Option (Nat × Bool)} {fr : List (Nat × AV)} {d : Nat} {b c : Bool} (e : g = some (d, b)) (h : lkF fr d = .bl c) (hn : c ≠ b) : gno g fr = true := by
 subst e; simp only [gno, h]; cases b <;> cases c <;> first | rfl | exact absurd rfl hn
variable (P C R B N ro) in
def YOk (rY : Nat) (Y : Option (Nat × (Nat → Option (Nat × Bool) → AOpd → List AOpd → TS K → (Bool → TS K → Prop) → Prop))) : Prop := ∀ y, Y = some y → ∀ (L : List AO) (i : Nat) (o : AO) (x : AOpd) (args : List AOpd) (ts : TS K) (χ : Nat → Nat → Bool) (ds : DS) (X : Bool → TS K → Prop) (Q : KS → Prop),
 L[i]? = some o → gok o.guard ds.fr = true → o.op = .calv x args → GM P C R ts χ ds → DOk ds → lkR ts.rg y.1 = some (.yl rY) → y.2 N o.guard x args ts X →
 (∀ b ts' χ' ks', GM P C R ts' χ' (ofK ks') → KOk ks' → ExtR ts.rg ts'.rg → X b ts' → WD P B N ro L (i + 1) Q ((ofK ks').put o.dst (.bl b))) → WD P B N ro L i Q ds
theorem WD_step (hB : LentB B) (hC : CxOk P C) {F : Cf K} (hF : F.C = C) (hS : SsOk P C F.S) (hL : SLOk P C F.L) (hN : F.N = N) {rY : Nat} (hY : YOk P C R B N ro rY F.Y) {o : AO} {X : TS K → Prop} {Q : KS → Prop} (e0 : L[i]? = some o) (hγ : GM P C R ts χ ds) (hk : DOk ds) (hg : gok o.guard ds.fr = true) (hYI : ∀ y, F.Y = some y → lkR ts.rg y.1 = some (.yl rY)) (h : step F false o ts X)
  (k : ∀ ts' χ' ds', GM P C R ts' χ' ds' → DOk ds' → X ts' → ExtR ts.rg ts'.rg → WD P B N ro L (i + 1) Q ds') : WD P B N ro L i Q ds := by
 have calls : ∀ {f : FuncId} {us : List (TV K)} {vs : List AV}, TL P C ts χ us vs → CalO o ds f vs → tcall F.C F.S ts o.dst f us X → WD P B N ro L i Q ds := by
  intro f us vs ht ho h
  rw [hF] at h
  obtain ⟨vs', kl, d1, v, ts', χ', c1, c2, c3, c4, c5, _, _⟩ := tcall_ok hC hS hγ hk ht ho h
  exact WD_callD e0 hg c1 (k ts' χ' _ c2 c3.put c4 (.eq c5))
 have callL : ∀ {f : FuncId} {us : List (TV K)} {vs : List AV} {sp : Sl K} {env : List (DV K)} {M : RM}, TL P C ts χ us vs → CalO o ds f vs → pickL F.C ts f us F.L = some (sp, env, M) → tcallL F.C F.S false ts o.dst sp env M us X → WD P B N ro L i Q ds := by
  intro f us vs sp env M ht ho hp h
  rw [hF] at h hp
  exact WD_callL hC hS hL e0 hg hγ ht ho hp h fun a b c d e f g => k a b c d e f (.eq g)
 have rest : notCall o.op = true → step F true o ts X → WD P B N ro L i Q ds := by
  intro hn h
  obtain ⟨e, ds', ts', χ', h1, h2, h3, h4, h5, h6⟩ := tstep_ok hC hγ hk hF hn h
  have hc : isMC o.op = false := by cases hop : o.op <;> rw [hop] at hn <;> first | rfl | (cases hn; done)
  exact WD_e e0 hg (fun _ => h1) hc (k ts' χ' ds' h4 h1.ok h5 (.eq h6))
 cases ho : o.op with
 | call f args =>
   unfold step at h; rw [ho] at h
   simp only at h
   split at h
   ·rename_i sp env M hp
    exact callL (TL.tea hγ args) (.inl ⟨args, ho, rfl⟩) hp h
   ·exact calls (TL.tea hγ args) (.inl ⟨args, ho, rfl⟩) h
 | calv x args =>
   unfold step at h; rw [ho] at h
   simp only at h
   have hx := hγ.tev x
   split at h
   ·rename_i f a c ex
    rw [ex] at hx
    generalize hv : ev (lkF ds.fr) x = v at hx
    cases hx with
    | fn _ _ _ a' c' ha hc h1 h2 =>
      split at h
      ·rename_i sp env M hp
       exact callL (((show TL P C ts χ a a' from ⟨ha, h1⟩).app (TL.tea hγ args)).app ⟨hc, h2⟩) (.inr ⟨x, args, a', c', ho, hv, rfl⟩) hp h
      ·exact calls (((show TL P C ts χ a a' from ⟨ha, h1⟩).app (TL.tea hγ args)).app ⟨hc, h2⟩) (.inr ⟨x, args, a', c', ho, hv, rfl⟩) h
   ·rename_i ps rs V ex
    rw [ex] at hx
    cases hx with
    | fv _ _ _ _ hV hv =>
      rw [hF] at h
      obtain ⟨f, vs, vs', kl, d1, w, ts', χ', c1, c2, c3, c4, c5, _⟩ := tcalv_ok hC hγ hk hV ho rfl hv (TL.tea hγ args) h
      exact WD_callD e0 hg c1 (k ts' χ' _ c2 c3.put c4 (.eq c5))
   ·split at h
    ·rename_i id u y _ hu hy
     split at h
     ·rename_i hid
      rw [hN] at h
      refine hY y hy L i o x args ts χ ds _ Q e0 hg ho hγ hk (hYI y hy) h fun b ts' χ' ks' a1 a2 a3 a4 => ?_
      exact k _ χ' _ (a1.put (d := o.dst) (TR.lb b)) (ofK_ok a2).put a4 (by rw [put_rg]; exact a3)
     ·exact h.elim
    ·exact h.elim
   ·exact h.elim
 | len x =>
   cases hs : tslot F.N x with
   | false =>
     refine rest (by rw [ho]; rfl) ?_
     unfold step at h ⊢; rw [ho] at h ⊢
     simp only [hs] at h ⊢
     exact h
   | true =>
     unfold step at h; rw [ho] at h
     simp only [hs, Bool.not_true, Bool.or_false] at h
     unfold tlen at h
     split at h
     ·rename_i e l ex
      have hx := hγ.tev x
      rw [ex] at hx
      cases x with
      | c v => cases hs
      | t n =>
        obtain ⟨z, xs, hxs, hv⟩ := hx.sli
        refine WD_len (t := n) (by rw [← hN]; exact Nat.le_of_ble_eq_true hs) hv fun hm => ?_
        refine rest (by rw [ho]; rfl) ?_
        unfold step; rw [ho]
        simp only [Bool.true_or]
        unfold tlen
        rw [ex]
        exact h hm
     ·rename_i ex
      refine rest (by rw [ho]; rfl) ?_
      unfold step; rw [ho]; simp only [Bool.true_or]; unfold tlen; rw [ex]; exact h
     ·rename_i ex
      refine rest (by rw [ho]; rfl) ?_
      unfold step; rw [ho]; simp only [Bool.true_or]; unfold tlen; rw [ex]; exact h
     ·rename_i s c ex
      refine rest (by rw [ho]; rfl) ?_
      unfold step; rw [ho]; simp only [Bool.true_or]; unfold tlen; rw [ex]; exact h
     ·exact h.elim
 | _ =>
   refine rest (by rw [ho]; rfl) ?_
   unfold step at h ⊢; rw [ho] at h ⊢; exact h
theorem tops_ok (hB : LentB B) (hC : CxOk P C) {F : Cf K} (hF : F.C = C) (hS : SsOk P C F.S) (hL : SLOk P C F.L) (hN : F.N = N) {rY : Nat} (hY : YOk P C R B N ro rY F.Y) {X : TS K → Prop} {Q : KS → Prop} : ∀ (L' : List AO) (i : Nat) (ts : TS K) (χ : Nat → Nat → Bool) (ds : DS), L.drop i = L' → GM P C R ts χ ds → DOk ds → (∀ y, F.Y = some y → lkR ts.rg y.1 = some (.yl rY)) → tops F L' ts X →
  (∀ ts' χ' ds', GM P C R ts' χ' ds' → DOk ds' → X ts' → ExtR ts.rg ts'.rg → RE B N (toD ds') Q) → WD P B N ro L i Q ds
 | [], i, ts, χ, ds, e, hγ, hk, _, h, fin => WD_fin e fun _ => fin ts χ ds hγ hk h .refl
 | o :: r, i, ts, χ, ds, e, hγ, hk, hYI, h, fin => by
   have e0 : L[i]? = some o := by
    have := congrArg (·[0]?) e
    simpa using this
   have e1 : L.drop (i + 1) = r := by rw [← List.drop_drop, e]; rfl
   have next : ∀ {ts ts2 : TS K} {χ2 : Nat → Nat → Bool} {ds2 : DS}, (∀ ts' χ' ds', GM P C R ts' χ' ds' → DOk ds' → X ts' → ExtR ts.rg ts'.rg → RE B N (toD ds') Q) → (∀ y, F.Y = some y → lkR ts.rg y.1 = some (.yl rY)) → GM P C R ts2 χ2 ds2 → DOk ds2 → tops F r ts2 X → ExtR ts.rg ts2.rg → WD P B N ro L (i + 1) Q ds2 := by
    intro ts ts2 χ2 ds2 fin hYI a b c d
    exact tops_ok hB hC hF hS hL hN hY r (i + 1) ts2 χ2 ds2 e1 a b (fun y e => d _ _ (hYI y e)) c fun ts3 χ3 ds3 p q s t => fin ts3 χ3 ds3 p q s (d.trans t)
   have main : ∀ {ts : TS K} {χ : Nat → Nat → Bool} {ds : DS}, GM P C R ts χ ds → DOk ds → (∀ y, F.Y = some y → lkR ts.rg y.1 = some (.yl rY)) → topg F o (fun t => tops F r t X) ts → (∀ ts' χ' ds', GM P C R ts' χ' ds' → DOk ds' → X ts' → ExtR ts.rg ts'.rg → RE B N (toD ds') Q) → WD P B N ro L i Q ds := by
    intro ts χ ds hγ hk hYI h fin
    have run : ∀ {ts0 : TS K} {ds0 : DS}, GM P C R ts0 χ ds0 → DOk ds0 → ts0.rg = ts.rg → gok o.guard ds0.fr = true → step F false o ts0 (fun t => tops F r t X) → WD P B N ro L i Q ds0 := by
     intro ts0 ds0 hγ0 hk0 hr hg hst
     exact WD_step hB hC hF hS hL hN hY e0 hγ0 hk0 hg (by rw [hr]; exact hYI) hst fun ts2 χ2 ds2 a b c d => next fin hYI a b c ((ExtR.eq hr).trans d)
    have skip : ∀ {ts0 : TS K} {ds0 : DS}, GM P C R ts0 χ ds0 → DOk ds0 → ts0.rg = ts.rg → gno o.guard ds0.fr = true → tops F r (ts0.put o.dst (.tup [])) X → WD P B N ro L i Q ds0 := by
     intro ts0 ds0 hγ0 hk0 hr hg hst
     exact WD_skp e0 hg (next fin hYI (hγ0.put (.tup [] [] rfl (fun j u v h => by simp at h))) hk0.put hst (.eq ((put_rg _ _ _).trans hr)))
    unfold topg tgd at h
    split at h
    ·rename_i hg
     exact run hγ hk rfl (by rw [hg]; rfl) h
    ·rename_i d b hg
     have hd := (hγ.fr d).s
     split at h
     ·rename_i c hc
      rw [hc] at hd
      have hv := hd.lbi
      split at h
      ·rename_i hcb
       have : c = b := by cases c <;> cases b <;> first | rfl | cases hcb
       subst this
       exact run hγ hk rfl (gok_of hg hv) h
      ·rename_i hcb
       exact skip hγ hk rfl (gno_of hg hv (by intro q; subst q; cases c <;> cases hcb)) h
     ·rename_i c hc
      rw [hc] at hd
      have hv := hd.bli
      obtain ⟨h1, h2⟩ := h
      refine WD_bool hv (fun hb => ?_) (fun hb => ?_)
      ·have hh := h1 hb
       have g1 := hγ.put (d := some d) (TR.lb (P := P) (C := C) (ts := ts) (χ := χ) true)
       have v1 : lkF (ds.put (some d) (.bl true)).fr d = .bl true := by show lkF ((d, .bl true) :: ds.fr) d = _; rw [lkF_cons]; simp
       cases b with
       | true => exact run g1 hk.put (put_rg _ _ _) (gok_of hg v1) hh
       | false => exact skip g1 hk.put (put_rg _ _ _) (gno_of hg v1 (by simp)) hh
      ·have hh := h2 hb
       have g1 := hγ.put (d := some d) (TR.lb (P := P) (C := C) (ts := ts) (χ := χ) false)
       have v1 : lkF (ds.put (some d) (.bl false)).fr d = .bl false := by show lkF ((d, .bl false) :: ds.fr) d = _; rw [lkF_cons]; simp
       cases b with
       | true => exact skip g1 hk.put (put_rg _ _ _) (gno_of hg v1 (by simp)) hh
       | false => exact run g1 hk.put (put_rg _ _ _) (gok_of hg v1) hh
     ·rename_i hc
      rw [hc] at hd
      obtain ⟨vs, hv, hl, _⟩ := hd.tup'
      have : vs = [] := List.eq_nil_of_length_eq_zero hl
      subst this
      exact skip hγ hk rfl (by rw [hg]; simp only [gno, hv]) h
     ·exact h.elim
   obtain ⟨hfr, hrg⟩ := frzA_ok (N := N) (ts := ts) hB hC hF (o := o)
   rcases hfr with hq | hq
   ·rw [tops, hq] at h; exact main hγ hk hYI h fin
   ·rw [tops] at h
    exact WD_ret hB hq hk hγ fun ks ξ a b => main b (ofK_ok a) (by rw [hrg]; exact hYI) h fun ts' χ' ds' p q s t => fin ts' χ' ds' p q s (by rw [← hrg]; exact t)
end
section
structure LeF (f : Foot) (t : TFt) : Prop where
 rk : ∀ k ∈ f.rk, (∃ o, k = .h o) ∨ ∃ q ∈ t.rk, k = .l q.1 q.2
 wk : ∀ q ∈ f.wk, q ∈ t.wk
 wh : f.wh = false
 bs : ∀ s ∈ f.bs, (s, 2) ∈ t.wk
theorem memQ_mem : ∀ {l : List (Nat × Nat)} {q : Nat × Nat}, q ∈ l → memQ l q = true
 | p :: r, q, h => by
   show ((Nat.beq p.1 q.1 && Nat.beq p.2 q.2) || memQ r q) = true
   rcases List.mem_cons.1 h with rfl | h
   ·rw [nbeq.2 rfl, nbeq.2 rfl]; rfl
   ·rw [memQ_mem h, Bool.or_true]
theorem okT_ok {a b : Foot} {s t : TFt} (ha : LeF a s) (hb : LeF b t) (h : okT s t = true) : okF a b := by
 simp only [okT, Bool.and_eq_true, List.all_eq_true, Bool.not_eq_true'] at h
 obtain ⟨h1, h2⟩ := h
 have nk : ∀ {q : Nat × Nat} {k : Key} {l : List (Nat × Nat)}, memQ l q = false → ((∃ o, k = .h o) ∨ ∃ r ∈ l, k = .l r.1 r.2) → Key.l q.1 q.2 ≠ k := by
  rintro q k l hq (⟨o, rfl⟩ | ⟨r, hr, rfl⟩) e
  ·cases e
  ·simp only [Key.l.injEq] at e
   have : q = r := Prod.ext e.1 e.2
   subst this
   rw [memQ_mem hr] at hq; cases hq
 refine ⟨allL_iff.2 fun q hq => ⟨allL_iff.2 fun k hk => nk (h1 q (ha.wk q hq)).1 (hb.rk k hk), allL_iff.2 fun r hr e => ?_⟩, allL_iff.2 fun q hq => allL_iff.2 fun k hk => nk (h2 q (hb.wk q hq)) (ha.rk k hk), fun e => (by rw [ha.wh] at e; cases e), fun e => (by rw [hb.wh] at e; cases e), allL_iff.2 fun q hq => allL_iff.2 fun r hr e => ?_⟩
 ·subst e
  have := (h1 q (ha.wk q hq)).2
  rw [memQ_mem (hb.wk q hr)] at this; cases this
 ·subst e
  have := (h1 (q, 2) (ha.bs q hq)).2
  rw [memQ_mem (hb.bs q hr)] at this; cases this
def LeA (acc : List Foot) (tacc : List TFt) : Prop := acc.length = tacc.length ∧ ∀ (j : Nat) (f : Foot) (t : TFt), acc[j]? = some f → tacc[j]? = some t → LeF f t
theorem LeA.snoc {acc : List Foot} {tacc : List TFt} {f : Foot} {t : TFt} (h : LeA acc tacc) (k : LeF f t) : LeA (acc ++ [f]) (tacc ++ [t]) := by
 refine ⟨by simp [h.1], fun j g s a b => ?_⟩
 by_cases hj : j < acc.length
 ·rw [List.getElem?_append_left hj] at a
  rw [List.getElem?_append_left (by rw [← h.1]; exact hj)] at b
  exact h.2 j g s a b
 ·rw [List.getElem?_append_right (by omega)] at a
  rw [List.getElem?_append_right (by rw [← h.1]; omega), ← h.1] at b
  cases hq : j - acc.length with
  | zero => rw [hq] at a b; simp at a b; subst a; subst b; exact k
  | succ m => rw [hq] at a; simp at a
theorem okTs_ok {f : Foot} {t : TFt} {acc : List Foot} {tacc : List TFt} (hf : LeF f t) (ha : LeA acc tacc) : ∀ (fre : List Nat), okTs t tacc fre = true → okAcc f acc fre
 | [], _ => trivial
 | j :: r, h => by
   simp only [okTs, Bool.and_eq_true] at h
   refine ⟨?_, okTs_ok hf ha r h.2⟩
   show wpo acc[j]? (okF f)
   cases hj : acc[j]? with
   | none => trivial
   | some g =>
     have hlt : j < tacc.length := by rw [← ha.1]; exact (List.getElem?_eq_some_iff.1 hj).1
     have ht : tacc[j]? = some tacc[j] := List.getElem?_eq_getElem hlt
     rw [ht] at h
     exact okT_ok hf (ha.2 j g _ hj ht) h.1
def LeK (l : List Key) (t : List (Nat × Nat)) : Prop := ∀ k ∈ l, (∃ o, k = .h o) ∨ ∃ q ∈ t, k = .l q.1 q.2
theorem LeK.app {a b : List Key} {s t : List (Nat × Nat)} (h : LeK a s) (k : LeK b t) : LeK (a ++ b) (s ++ t) := by
 intro x hx
 rcases List.mem_append.1 hx with hx | hx
 ·rcases h x hx with q | ⟨r, hr, e⟩
  ·exact .inl q
  ·exact .inr ⟨r, List.mem_append_left _ hr, e⟩
 ·rcases k x hx with q | ⟨r, hr, e⟩
  ·exact .inl q
  ·exact .inr ⟨r, List.mem_append_right _ hr, e⟩
theorem LeK.nil {t : List (Nat × Nat)} : LeK [] t := fun k h => by cases h
theorem TR.hascn {u : TV K} {v : AV} (h : TR P C ts χ u v) : ∀ id w, u.s ≠ .cn id w := by
 intro id w e
 cases h with
 | cn id' u v h hn hv => simp only [TV.s] at e; rw [e] at hn; cases hn
 | _ => cases e
theorem noL_keys {v : AV} (h : v.noL = true) : LeK (keyOf v) [] ∧ LeK (key1 v) [] := by
 cases v with
 | gs k n => cases k with
   | h o => exact ⟨fun k hk => by simp [keyOf] at hk; exact .inl ⟨o, hk⟩, fun k hk => by simp [key1] at hk; exact .inl ⟨o, hk⟩⟩
   | l d c => cases h
 | pt k n => cases k with
   | h o => exact ⟨fun k hk => by simp [keyOf] at hk; exact .inl ⟨o, hk⟩, fun k hk => by simp [key1] at hk; exact .inl ⟨o, hk⟩⟩
   | l d c => cases h
 | agg cs =>
   refine ⟨fun k hk => ?_, .nil⟩
   simp only [keyOf, List.mem_flatMap] at hk
   obtain ⟨x, hx, hk⟩ := hk
   have hn : x.noL = true := noLs_mem.1 (show noLs cs = true from h) x hx
   cases x with
   | gs q n => cases q with
     | h o => simp [key1] at hk; exact .inl ⟨o, hk⟩
     | l d c => cases hn
   | pt q n => cases q with
     | h o => simp [key1] at hk; exact .inl ⟨o, hk⟩
     | l d c => cases hn
   | _ => simp [key1] at hk
 | _ => exact ⟨.nil, .nil⟩
theorem tky1_ok {u : TV K} {v : AV} {l : List (Nat × Nat)} (h : TR P C ts χ u v) (hl : tky1 ts u = some l) : LeK (key1 v) l ∧ ((∀ vs, v ≠ .agg vs) → LeK (keyOf v) l) := by
 have hs := h.s
 have hc := h.hascn
 unfold tky1 at hl
 revert hs hc hl
 generalize u.s = w
 intro hl hs hc
 have no : ∀ {v : AV} {l : List (Nat × Nat)}, v.noL = true → LeK (key1 v) l ∧ ((∀ vs, v ≠ .agg vs) → LeK (keyOf v) l) := by
  intro v l hv
  obtain ⟨a, b⟩ := noL_keys hv
  have up : ∀ {x : List Key}, LeK x [] → LeK x l := fun hx k hk => (hx k hk).imp id (fun ⟨q, hq, _⟩ => by cases hq)
  exact ⟨up b, fun _ => up a⟩
 cases hs with
 | un v => cases hl
 | lb b => exact no rfl
 | bl b => exact no rfl
 | li k n => exact no rfl
 | it k n => exact no rfl
 | st s => exact no rfl
 | agg us vs _ _ => exact ⟨.nil, fun hn => absurd rfl (hn vs)⟩
 | tup us vs _ _ => exact ⟨.nil, fun _ => .nil⟩
 | nil => exact no rfl
 | em z => exact no rfl
 | sl e l z n xs hn hx => exact no rfl
 | rwd s c v hr hn ho => simp only [hn] at hl; cases hl
 | rw s c n hr hn hx =>
   simp only [hn, Option.some.injEq] at hl; subst hl
   exact ⟨fun k hk => by simp [key1] at hk; exact .inr ⟨_, List.mem_singleton.2 rfl, hk⟩, fun _ k hk => by simp [keyOf] at hk; exact .inr ⟨_, List.mem_singleton.2 rfl, hk⟩⟩
 | rwn s c hr h hx => exact no rfl
 | px s c off hr =>
   cases hl
   exact ⟨fun k hk => by simp [key1] at hk; exact .inr ⟨_, List.mem_singleton.2 rfl, hk⟩, fun _ k hk => by simp [keyOf] at hk; exact .inr ⟨_, List.mem_singleton.2 rfl, hk⟩⟩
 | pr e s c i of hr hx =>
   cases hl
   exact ⟨fun k hk => by simp [key1] at hk; exact .inr ⟨_, List.mem_singleton.2 rfl, hk⟩, fun _ k hk => by simp [keyOf] at hk; exact .inr ⟨_, List.mem_singleton.2 rfl, hk⟩⟩
 | ep e l i of xs hx => exact no rfl
 | gs l i xs hx => exact no rfl
 | nptr => exact no rfl
 | fn f a c a' c' _ _ _ _ => exact ⟨.nil, fun _ => .nil⟩
 | fv ps rs F v h hv => exact no (by rw [← dwk_noL, hv]; exact h.1)
 | yl r => exact no rfl
 | cn id u v h hn hv => exact absurd rfl (hc id u)
theorem tkys_ok {f : TV K → Option (List (Nat × Nat))} {g : AV → List Key} (hf : ∀ u v l, TR P C ts χ u v → f u = some l → LeK (g v) l) : ∀ (us : List (TV K)) (vs : List AV) (l : List (Nat × Nat)), TL P C ts χ us vs → tkys ts f us = some l → LeK (vs.flatMap g) l
 | [], vs, l, t, h => by
   have : vs = [] := List.eq_nil_of_length_eq_zero t.1
   subst this; exact .nil
 | u :: us, vs, l, t, h => by
   cases vs with
   | nil => simp [TL] at t
   | cons v vs =>
     simp only [tkys] at h
     split at h
     ·rename_i a b h1 h2
      cases h
      rw [List.flatMap_cons]
      exact (hf u v a t.head.1 h1).app (tkys_ok hf us vs b t.head.2 h2)
     ·cases h
theorem tky_ok {u : TV K} {v : AV} {l : List (Nat × Nat)} (h : TR P C ts χ u v) (hl : tky ts u = some l) : LeK (keyOf v) l := by
 unfold tky at hl
 split at hl
 ·rename_i cs e
  have hs := h.s
  rw [e] at hs
  obtain ⟨vs, rfl, a, b⟩ := hs.agg'
  exact tkys_ok (g := key1) (fun u v l h hl => (tky1_ok h hl).1) cs vs l ⟨a, b⟩ hl
 ·rename_i hne
  refine (tky1_ok h hl).2 ?_
  rintro vs rfl
  have hs := h.s
  have hc := h.hascn
  have hdead : u.s ≠ .un := by
   intro e; unfold tky1 at hl; rw [e] at hl; cases hl
  revert hs hc hne hdead
  generalize u.s = w
  intro hne hs hc hdead
  cases hs with
  | un v => exact hdead rfl
  | agg us vs _ _ => exact hne _ rfl
  | rwd s c v hr h ho => cases ho
  | fv ps rs F v h hv => obtain ⟨_, _, h1, _⟩ := h; rw [← hv] at h1; cases h1
  | cn id u v h hn hv => exact hc _ _ rfl
theorem opds_keys {u : AOp} (hγ : GM P C R ts χ ds) {l : List (Nat × Nat)} (h : tkys ts (tky ts) ((opds u).map (tea ts.fr)) = some l) : LeK ((opds u).flatMap fun x => keyOf (ev (lkF ds.fr) x)) l := by
 have := tkys_ok (g := keyOf) (fun u v l h hl => tky_ok h hl) _ _ l (TL.tea hγ (opds u)) h
 rw [List.flatMap_map] at this
 exact this
theorem LeF.skip : LeF footSkip ⟨[], []⟩ := ⟨fun k h => (by cases h), fun q h => (by cases h), rfl, fun s h => (by cases h)⟩
variable {LD : List (AO × List Nat)} {QD : St → Prop} {i : Nat} {acc : List Foot}
theorem DD_callD {o : AO} {fre : List Nat} {f : FuncId} {vs vs' : List AV} {kl : List (Nat × Nat)} {d1 : DS} {v : AV} (e0 : LD[i]? = some (o, fre)) (hg : gok o.guard ds.fr = true) (hc : CallR P o ds f vs vs' kl d1 v)
  (hf : okAcc (footOf o.op (toD ds) ⟨v, kl.map (fun k => (k, none)), [], none⟩) acc fre) (k : DD P LD (i + 1) (acc ++ [footOf o.op (toD ds) ⟨v, kl.map (fun k => (k, none)), [], none⟩]) QD (d1.put o.dst v)) : DD P LD i acc QD ds := by
 refine DD_eop e0 hg fun hk => ?_
 have hmst : REff.mst ⟨v, kl.map (fun k => (k, none)), [], none⟩ (toD ds) = toD d1 ∧ CallE P (.f f) vs (toD ds) ⟨v, kl.map (fun k => (k, none)), [], none⟩ ∧ DOk d1 := by
  rcases hc.way with hw | ⟨rfl, rfl, rfl, hfl⟩
  ·obtain ⟨a1, a2, a3, _⟩ := pubLD_ok vs ds vs' kl d1 hk hw
   have hmst : REff.mst ⟨v, kl.map (fun k => (k, none)), [], none⟩ (toD ds) = toD d1 := by
    have h1 : (pubL vs (toD ds)).2 = (toD ds).kills (pkL vs (toD ds)) := pubL_k vs (toD ds)
    rw [a1, a2] at h1
    simp only at h1
    rw [h1]
    unfold REff.mst St.kills REff.cntF
    simp only [St.mk.injEq, cntB_nil, true_and, and_true]
    funext q
    have : ∀ (l : List (Nat × Nat)) (M : Key → Option Blk), List.foldl (fun M (p : Key × Option Blk) => updK M p.1 p.2) M ((l.map fun k => (k, (none : Option Blk))).map fun p => (Key.l p.1.1 p.1.2, p.2)) = l.foldl (fun M k => updK M (.l k.1 k.2) none) M := by
     intro l
     induction l with
     | nil => intro M; rfl
     | cons a l ih => intro M; simp only [List.map_cons, List.foldl_cons]; exact ih _
    show (List.foldl (fun M (p : Key × Option Blk) => updK M p.1 p.2) (toD ds).M ((kl.map fun k => (k, (none : Option Blk))).map fun p => (Key.l p.1.1 p.1.2, p.2))) q = _
    rw [this]
   exact ⟨hmst, .inl ⟨rfl, by rw [a2], CallsO_pureD a1 hc.nl hc.pure ⟨rfl, hmst.symm⟩⟩, a3⟩
  ·exact ⟨mst_eff1 v _, .inr (.inl ⟨rfl, f, v, rfl, hc.nl, fun H n => Contract.dwkA (hc.pure H n), hfl, rfl⟩), hk⟩
 obtain ⟨hmst, hE, a3⟩ := hmst
 have fin : ∀ K : REff → Prop, K ⟨v, kl.map (fun k => (k, none)), [], none⟩ → eop (fun _ => false) P o.op o.dst (toD ds) K := by
  intro K hK
  rcases hc.ho with ⟨args, h1, h2⟩ | ⟨x, args, first, cap, h1, h2, h3⟩
  ·rw [h1]; simp only [eop]; rw [toD_fr, h2]; exact ⟨_, hE, hK⟩
  ·rw [h1]; simp only [eop]; rw [toD_fr, h2]; simp only; rw [h3]; exact ⟨_, hE, hK⟩
 refine fin _ ⟨hf, ?_⟩
 rw [show REff.app ⟨v, kl.map (fun k => (k, none)), [], none⟩ o.dst (toD ds) = toD (d1.put o.dst v) by unfold REff.app; rw [hmst, putD_toD]]
 exact k a3.put
theorem DD_eff {o : AO} {fre : List Nat} {e : REff} {ds' : DS} (e0 : LD[i]? = some (o, fre)) (hg : gok o.guard ds.fr = true) (h : Eff o.op o.dst ds e ds') (hc : isMC o.op = false) (hf : okAcc (footOf o.op (toD ds) e) acc fre) (k : DD P LD (i + 1) (acc ++ [footOf o.op (toD ds) e]) QD ds') : DD P LD i acc QD ds := by
 refine DD_eop e0 hg fun hk => ?_
 obtain ⟨h1, h2, h3⟩ := h
 have hE : ∀ K : REff → Prop, K e → eop (fun _ => false) P o.op o.dst (toD ds) K := by
  intro K hK
  cases hop : o.op <;> rw [hop] at h1 hc <;> first | (cases hc; done) | (simp only [eop]; rw [h1]; exact hK)
 refine hE _ ⟨hf, ?_⟩
 rw [h2]
 exact k h3
theorem trows_mem : ∀ {us : List (TV K)} {q : Nat × Nat}, (∃ u ∈ us, u.s = .rw q.1 q.2) → q ∈ trows us
 | [], _, ⟨u, h, _⟩ => by cases h
 | v :: us, q, ⟨u, h, e⟩ => by
   simp only [trows]
   rcases List.mem_cons.1 h with rfl | h
   ·rw [e]; simp
   ·have := trows_mem ⟨u, h, e⟩
    split
    ·exact List.mem_cons_of_mem _ this
    ·exact this
theorem tkys_rw {q : Nat × Nat} : ∀ {us : List (TV K)} {l : List (Nat × Nat)}, tkys ts (tky ts) us = some l → (∃ u ∈ us, u.s = .rw q.1 q.2) → q ∈ l
 | [], _, _, ⟨u, h, _⟩ => by cases h
 | v :: us, l, h, ⟨u, hu, e⟩ => by
   simp only [tkys] at h
   split at h
   ·rename_i a b h1 h2
    cases h
    rcases List.mem_cons.1 hu with rfl | hu
    ·refine List.mem_append_left _ ?_
     unfold tky at h1
     rw [e] at h1
     simp only at h1
     unfold tky1 at h1
     rw [e] at h1
     simp only at h1
     split at h1
     ·cases h1; simp
     ·cases h1
    ·exact List.mem_append_right _ (tkys_rw h2 ⟨u, hu, e⟩)
   ·cases h
theorem DD_step (hC : CxOk P C) {F : Cf K} (hF : F.C = C) (hS : SsOk P C F.S) (hL : SLOk P C F.L) {o : AO} {fre : List Nat} {tacc : List TFt} {Rn : List TFt → TS K → Prop} (e0 : LD[i]? = some (o, fre)) (hγ : GM P C R ts χ ds) (hk : DOk ds) (hg : gok o.guard ds.fr = true) (ha : LeA acc tacc) (h : tdrun F o fre tacc Rn ts)
  (k : ∀ acc' tacc' ts' χ' ds', LeA acc' tacc' → GM P C R ts' χ' ds' → DOk ds' → Rn tacc' ts' → ts'.rg = ts.rg → DD P LD (i + 1) acc' QD ds') : DD P LD i acc QD ds := by
 unfold tdrun at h
 split at h
 rotate_left
 ·exact h.elim
 rename_i t ht
 split at h
 rotate_left
 ·exact h.elim
 rename_i hok
 have calls : ∀ {f : FuncId} {vs vs' : List AV} {kl : List (Nat × Nat)} {d1 : DS} {v : AV} {ts' : TS K} {χ' : Nat → Nat → Bool}, CallR P o ds f vs vs' kl d1 v → GM P C R ts' χ' (d1.put o.dst v) → DOk d1 → Rn (tacc ++ [t]) ts' → ts'.rg = ts.rg → LeK (rkOf o.op (toD ds)) t.rk → (∀ q ∈ kl, q ∈ t.wk) → (∀ q ∈ kl, q ∈ t.rk) → DD P LD i acc QD ds := by
  intro f vs vs' kl d1 v ts' χ' c1 c2 c3 c4 c5 hrk hwk hwr
  have hle : LeF (footOf o.op (toD ds) ⟨v, kl.map (fun k => (k, none)), [], none⟩) t := by
   refine ⟨fun k hk' => ?_, fun q hq => hwk q ?_, rfl, fun s hs => by cases hs⟩
   ·rcases List.mem_append.1 hk' with hq | hq
    ·exact hrk k hq
    ·have hic : isCall o.op = true := by rcases c1.ho with ⟨args, h1, _⟩ | ⟨x, args, first, cap, h1, _⟩ <;> rw [h1] <;> rfl
     rw [hic] at hq
     obtain ⟨p, hp, rfl⟩ := List.mem_map.1 hq
     obtain ⟨q, hq', rfl⟩ := List.mem_map.1 hp
     exact .inr ⟨q, hwr q hq', rfl⟩
   have hq' : q ∈ (kl.map fun k => (k, (none : Option Blk))).map (·.1) := hq
   simpa using hq'
  exact DD_callD e0 hg c1 (okTs_ok hle ha fre hok) (k _ _ ts' χ' _ (ha.snoc hle) c2 c3.put c4 c5)
 have callL : ∀ {f : FuncId} {us : List (TV K)} {vs : List AV} {sp : Sl K} {env : List (DV K)} {M : RM} {l : List (Nat × Nat)}, TL P C ts χ us vs → CalO o ds f vs → pickL C ts f us F.L = some (sp, env, M) → tcallL C F.S true ts o.dst sp env M us (Rn (tacc ++ [t])) → LeK (rkOf o.op (toD ds)) l → t = ⟨l ++ plcs sp o.dst M, plcs sp o.dst M⟩ → DD P LD i acc QD ds := by
  intro f us vs sp env M l ht ho hp h hrk het
  refine DD_callL hC hS hL e0 hg hγ hk ht ho hp h fun e ts' χ' ds' a1 a2 a3 a4 a5 a6 a7 => ?_
  have hle : LeF (footOf o.op (toD ds) e) t := by
   rw [het]
   refine ⟨fun k hk' => ?_, fun q hq => a1 q hq, by show e.H.isSome = false; rw [a2]; rfl, fun s hs => a3 s hs⟩
   rcases List.mem_append.1 hk' with hq | hq
   ·rcases hrk k hq with r | ⟨r, hr, e⟩
    ·exact .inl r
    ·exact .inr ⟨r, List.mem_append_left _ hr, e⟩
   ·have hic : isCall o.op = true := by rcases ho with ⟨args, h1, _⟩ | ⟨x, args, first, cap, h1, _⟩ <;> rw [h1] <;> rfl
    rw [hic] at hq
    obtain ⟨p, hp, rfl⟩ := List.mem_map.1 hq
    exact .inr ⟨p.1, List.mem_append_right _ (a1 p.1 (List.mem_map_of_mem (f := (·.1)) hp)), rfl⟩
  exact ⟨okTs_ok hle ha fre hok, k _ _ ts' χ' ds' (ha.snoc hle) a4 a5 a6 a7⟩
 have rest : notCall o.op = true → DD P LD i acc QD ds := by
  intro hn
  obtain ⟨e, ds', ts', χ', h1, h2, h3, h4, h5, h6⟩ := tstep_ok hC hγ hk hF hn h
  have hc : isMC o.op = false := by cases hop : o.op <;> rw [hop] at hn <;> first | rfl | (cases hn; done)
  have hle : LeF (footOf o.op (toD ds) e) t := by
   by_cases hmv : ∃ x, o.op = .mv x
   ·obtain ⟨x, hop⟩ := hmv
    unfold tft at ht
    rw [hop] at ht
    cases ht
    have hE : effA (fun _ => false) o.op o.dst (toD ds) = some e := h1.1
    rw [hop] at hE
    simp only [effA, pval, effP, Option.map_some, Option.some.injEq] at hE
    subst hE
    rw [hop]
    exact ⟨fun k h => (by cases h), fun q h => (by cases h), rfl, fun s h => (by cases h)⟩
   have ht' : ∃ l, tkys ts (tky ts) ((opds o.op).map (tea ts.fr)) = some l ∧ t = ⟨l, twk' ts o⟩ := by
    unfold tft at ht
    cases hop : o.op <;> rw [hop] at ht hn <;> first | (cases hn; done) | skip
    case mv x => exact absurd ⟨x, hop⟩ hmv
    all_goals
     simp only at ht
     split at ht
     ·rename_i l hl; cases ht; exact ⟨l, hl, rfl⟩
     ·cases ht
   obtain ⟨l, hl, rfl⟩ := ht'
   have hrk := opds_keys hγ hl
   have hnc : isCall o.op = false := by cases hop : o.op <;> rw [hop] at hn <;> first | rfl | (cases hn; done)
   refine ⟨?_, fun q hq => ?_, by show e.H.isSome = false; rw [h3]; rfl, fun s hs => ?_⟩
   rotate_right
   ·have hE : effA (fun _ => false) o.op o.dst (toD ds) = some e := by cases hop : o.op <;> rw [hop] at hn <;> first | (cases hn; done) | (rw [← hop]; exact h1.1)
    obtain ⟨al, rfl⟩ := eff_bump hE hs
    show _ ∈ twk' ts o
    unfold twk'
    cases hop : o.op <;> rw [hop] at al hn <;> first | (cases al; done) | (cases hn; done) | simp
   ·show LeK (rkOf o.op (toD ds) ++ _) l
    rw [hnc]
    simp only [List.append_nil]
    have : rkOf o.op (toD ds) = (opds o.op).flatMap fun x => keyOf (ev (lkF ds.fr) x) := by
     cases hop : o.op <;> rw [hop] at hn <;> first | rfl | (cases hn; done) | skip
     case mv x => exact absurd ⟨x, hop⟩ hmv
    rw [this]; exact hrk
   ·have hq' : q ∈ e.mem.map (·.1) := hq
    obtain ⟨x, hx, rfl⟩ := List.mem_map.1 hq'
    exact h2 x hx
  exact DD_eff e0 hg h1 hc (okTs_ok hle ha fre hok) (k _ _ ts' χ' ds' (ha.snoc hle) h4 h1.ok h5 h6)
 cases ho : o.op with
 | call f args =>
   have h0 := h
   unfold step at h; rw [ho] at h
   simp only at h
   unfold tft at ht; rw [ho] at ht
   simp only at ht
   split at ht
   ·rename_i l hl
    split at h
    ·rename_i sp env M hp
     rw [hp] at ht
     cases ht
     rw [hF] at h hp
     have hrk := tkys_ok (g := keyOf) (fun u v l h hl => tky_ok h hl) _ _ l (TL.tea hγ args) hl
     rw [List.flatMap_map] at hrk
     exact callL (TL.tea hγ args) (.inl ⟨args, ho, rfl⟩) hp h (by rw [ho]; exact hrk) rfl
    rename_i hp
    rw [hp] at ht
    rw [hF] at h ht
    cases ht
    obtain ⟨vs', kl, d1, v, ts', χ', c1, c2, c3, c4, c5, c7, c6⟩ := tcall_ok hC hS hγ hk (TL.tea hγ args) (.inl ⟨args, ho, rfl⟩) h
    have hrk := tkys_ok (g := keyOf) (fun u v l h hl => tky_ok h hl) _ _ l (TL.tea hγ args) hl
    rw [List.flatMap_map] at hrk
    refine calls c1 c2 c3 c4 c5 (by rw [ho]; exact hrk) (fun q hq => ?_) ?_
    cases hfl : flS C F.S f with
    | true => rw [c7 hfl] at hq; cases hq
    | false => exact trows_mem (c6 q hq)
    ·exact fun q hq => tkys_rw hl (c6 q hq)
   ·cases ht
 | calv x args =>
   unfold step at h; rw [ho] at h
   simp only at h
   unfold tft at ht; rw [ho] at ht
   simp only at ht
   split at ht
   rotate_left
   ·cases ht
   rename_i ca l hca hl
   have hrk := tkys_ok (g := keyOf) (fun u v l h hl => tky_ok h hl) _ _ l (TL.tea hγ args) hl
   rw [List.flatMap_map] at hrk
   have hx := hγ.tev x
   split at h
   ·rename_i f a c ex
    rw [ex] at hx
    rw [ex] at ht
    simp only at ht
    generalize hv : ev (lkF ds.fr) x = w at hx
    cases hx with
    | fn _ _ _ a' c' ha' hc' h1 h2 =>
      have ta : TL P C ts χ a a' := ⟨ha', h1⟩
      have tc : TL P C ts χ c c' := ⟨hc', h2⟩
      have hrk' : LeK (rkOf o.op (toD ds)) (ca ++ l) := by
       rw [ho]
       show LeK (rkCap (ev (lkF ds.fr) x) ++ args.flatMap fun y => keyOf (ev (lkF ds.fr) y)) _
       rw [hv]
       refine LeK.app ?_ hrk
       unfold tkcap at hca
       have ex' : (tea ts.fr x).s = .fn f a c := ex
       rw [ex'] at hca
       have := tkys_ok (g := keyOf) (fun u v l h hl => tky_ok h hl) _ _ ca (ta.app tc) hca
       rw [List.flatMap_append] at this
       exact this
      split at h
      ·rename_i sp env M hp
       rw [hp] at ht
       cases ht
       rw [hF] at h hp
       exact callL ((ta.app (TL.tea hγ args)).app tc) (.inr ⟨x, args, a', c', ho, hv, rfl⟩) hp h hrk' rfl
      rename_i hp
      rw [hp] at ht
      cases ht
      rw [hF] at h
      obtain ⟨vs', kl, d1, v, ts', χ', c1, c2, c3, c4, c5, _, c6⟩ := tcall_ok hC hS hγ hk ((ta.app (TL.tea hγ args)).app tc) (.inr ⟨x, args, a', c', ho, hv, rfl⟩) h
      refine calls c1 c2 c3 c4 c5 hrk' (fun q hq => trows_mem (c6 q hq)) (fun q hq => by
       obtain ⟨u, hu, e⟩ := c6 q hq
       have hca' : tkys ts (tky ts) (a ++ c) = some ca := by
        unfold tkcap at hca
        rw [show (tea ts.fr x).s = .fn f a c from ex] at hca
        exact hca
       rcases List.mem_append.1 hu with hu | hu
       ·rcases List.mem_append.1 hu with hu | hu
        ·exact List.mem_append_left _ (tkys_rw hca' ⟨u, List.mem_append_left _ hu, e⟩)
        ·exact List.mem_append_right _ (tkys_rw hl ⟨u, hu, e⟩)
       ·exact List.mem_append_left _ (tkys_rw hca' ⟨u, List.mem_append_right _ hu, e⟩))
   ·rename_i ps rs V ex
    rw [ex] at hx
    rw [ex] at ht
    cases ht
    generalize hv : ev (lkF ds.fr) x = w at hx
    cases hx with
    | fv _ _ _ _ hV hv' =>
      rw [hF] at h
      obtain ⟨f, vs, vs', kl, d1, v, ts', χ', c1, c2, c3, c4, c5, c6⟩ := tcalv_ok hC hγ hk hV ho hv hv' (TL.tea hγ args) h
      refine calls c1 c2 c3 c4 c5 ?_ (fun q hq => trows_mem (c6 q hq)) (fun q hq => List.mem_append_right _ (tkys_rw hl (c6 q hq)))
      rw [ho]
      show LeK (rkCap (ev (lkF ds.fr) x) ++ args.flatMap fun y => keyOf (ev (lkF ds.fr) y)) _
      rw [hv]
      refine LeK.app ?_ hrk
      obtain ⟨g1, _, _, f', a, c, g4, _⟩ := hV
      rw [← hv', dwk_noL] at g1
      cases w with
      | fn f0 a0 c0 =>
        simp only [AV.noL, Bool.and_eq_true] at g1
        intro q hq
        simp only [rkCap, List.mem_append, List.mem_flatMap] at hq
        rcases hq with ⟨y, hy, hq⟩ | ⟨y, hy, hq⟩
        ·rcases (noL_keys (noLs_mem.1 g1.1 y hy)).1 q hq with r | ⟨r, hr, _⟩
         ·exact .inl r
         ·cases hr
        ·rcases (noL_keys (noLs_mem.1 g1.2 y hy)).1 q hq with r | ⟨r, hr, _⟩
         ·exact .inl r
         ·cases hr
      | _ => exact .nil
   ·exact absurd h (by simp)
   ·exact h.elim
 | _ => exact rest (by rw [ho]; rfl)
theorem tdrw_ok (hC : CxOk P C) {F : Cf K} (hF : F.C = C) (hS : SsOk P C F.S) (hL : SLOk P C F.L) {X : TS K → Prop} {Q : KS → Prop} : ∀ (L' : List (AO × List Nat)) (i : Nat) (acc : List Foot) (tacc : List TFt) (ts : TS K) (χ : Nat → Nat → Bool) (ds : DS), LD.drop i = L' → LeA acc tacc → GM P C R ts χ ds → DOk ds → tdrw F L' tacc ts X →
  (∀ ts' χ' ds', GM P C R ts' χ' ds' → DOk ds' → X ts' → ExtR ts.rg ts'.rg → RE B N (toD ds') Q) → DD P LD i acc (fun S => RE B N S Q) ds
 | [], i, acc, tacc, ts, χ, ds, e, ha, hγ, hk, h, fin => by
   have _ := (inferInstance : GB P B)
   intro _
   rw [e]
   exact fin ts χ ds hγ hk h .refl
 | (o, fre) :: r, i, acc, tacc, ts, χ, ds, e, ha, hγ, hk, h, fin => by
   have e0 : LD[i]? = some (o, fre) := by
    have := congrArg (·[0]?) e
    simpa using this
   have e1 : LD.drop (i + 1) = r := by rw [← List.drop_drop, e]; rfl
   have next : ∀ {ts2 : TS K} {χ2 : Nat → Nat → Bool} {ds2 : DS} {acc2 : List Foot} {tacc2 : List TFt}, LeA acc2 tacc2 → GM P C R ts2 χ2 ds2 → DOk ds2 → tdrw F r tacc2 ts2 X → ts2.rg = ts.rg → DD P LD (i + 1) acc2 (fun S => RE B N S Q) ds2 := by
    intro ts2 χ2 ds2 acc2 tacc2 la a b c d
    exact tdrw_ok hC hF hS hL r (i + 1) acc2 tacc2 ts2 χ2 ds2 e1 la a b c fun ts3 χ3 ds3 p q s t => fin ts3 χ3 ds3 p q s (by rw [← d]; exact t)
   have run : ∀ {ts0 : TS K} {ds0 : DS}, GM P C R ts0 χ ds0 → DOk ds0 → ts0.rg = ts.rg → gok o.guard ds0.fr = true → tdrun F o fre tacc (fun acc t => tdrw F r acc t X) ts0 → DD P LD i acc (fun S => RE B N S Q) ds0 := by
    intro ts0 ds0 hγ0 hk0 hr hg hst
    exact DD_step hC hF hS hL e0 hγ0 hk0 hg ha hst fun acc2 tacc2 ts2 χ2 ds2 la a b c d => next la a b c (d.trans hr)
   have skip : ∀ {ts0 : TS K} {ds0 : DS}, GM P C R ts0 χ ds0 → DOk ds0 → ts0.rg = ts.rg → gno o.guard ds0.fr = true → tdrw F r (tacc ++ [⟨[], []⟩]) (ts0.put o.dst (.tup [])) X → DD P LD i acc (fun S => RE B N S Q) ds0 := by
    intro ts0 ds0 hγ0 hk0 hr hg hst
    exact DD_skp e0 hg (next (ha.snoc LeF.skip) (hγ0.put (.tup [] [] rfl (fun j u v h => by simp at h))) hk0.put hst ((put_rg _ _ _).trans hr))
   rw [tdrw] at h
   unfold tdg tgd at h
   split at h
   ·rename_i hg
    exact run hγ hk rfl (by rw [hg]; rfl) h
   ·rename_i d b hg
    have hd := (hγ.fr d).s
    split at h
    ·rename_i c hc
     rw [hc] at hd
     have hv := hd.lbi
     split at h
     ·rename_i hcb
      have : c = b := by cases c <;> cases b <;> first | rfl | cases hcb
      subst this
      exact run hγ hk rfl (gok_of hg hv) h
     ·rename_i hcb
      exact skip hγ hk rfl (gno_of hg hv (by intro q; subst q; cases c <;> cases hcb)) h
    ·rename_i c hc
     rw [hc] at hd
     have hv := hd.bli
     obtain ⟨h1, h2⟩ := h
     refine DD_bool hv (fun hb => ?_) (fun hb => ?_)
     ·have hh := h1 hb
      have g1 := hγ.put (d := some d) (TR.lb (P := P) (C := C) (ts := ts) (χ := χ) true)
      have v1 : lkF (ds.put (some d) (.bl true)).fr d = .bl true := by show lkF ((d, .bl true) :: ds.fr) d = _; rw [lkF_cons]; simp
      cases b with
      | true => exact run g1 hk.put (put_rg _ _ _) (gok_of hg v1) hh
      | false => exact skip g1 hk.put (put_rg _ _ _) (gno_of hg v1 (by simp)) hh
     ·have hh := h2 hb
      have g1 := hγ.put (d := some d) (TR.lb (P := P) (C := C) (ts := ts) (χ := χ) false)
      have v1 : lkF (ds.put (some d) (.bl false)).fr d = .bl false := by show lkF ((d, .bl false) :: ds.fr) d = _; rw [lkF_cons]; simp
      cases b with
      | true => exact skip g1 hk.put (put_rg _ _ _) (gno_of hg v1 (by simp)) hh
      | false => exact run g1 hk.put (put_rg _ _ _) (gok_of hg v1) hh
    ·rename_i hc
     rw [hc] at hd
     obtain ⟨vs, hv, hl, _⟩ := hd.tup'
     have : vs = [] := List.eq_nil_of_length_eq_zero hl
     subst this
     exact skip hγ hk rfl (by rw [hg]; simp only [gno, hv]) h
    ·exact h.elim
theorem frzD_ok (hB : LentB B) (hC : CxOk P C) {F : Cf K} (hF : F.C = C) (L : List (AO × List Nat)) : REk P C R B N ts (frzD F L ts) ∧ (frzD F L ts).rg = ts.rg := by
 have _ := (inferInstance : GB P B)
 unfold frzD
 rw [hF]
 generalize (L.flatMap fun p => (frzO F ts.fr p.1.op).flatMap fun x => match x with | .t n => [srcD L 9 n] | .c _ => []) = l
 induction l generalizing ts with
 | nil => exact ⟨.refl, rfl⟩
 | cons n l ih =>
   obtain ⟨a, b⟩ := ih (ts := fzA C 9 [lkT ts.fr n] ts)
   exact ⟨(fzA_ok hB hC _ _ _).trans a, by rw [List.foldl_cons, b, fzA_rg]⟩
end
section
theorem RE_Kq {Q : AEx → TS K → Prop} {e : AEx} {rg : List (Nat × TV K)} (hB : LentB B) (hC : CxOk P C) (hγ : GM P C R ts χ ds) (hk : DOk ds) (hx : ExtR rg ts.rg) (h : Q e (er ts)) : RE B N (toD ds) (Kq P C R rg Q e) :=
 have _ := (inferInstance : GB P B)
 (er_ok (N := N) hB hC χ ds hk hγ).mono fun ks ⟨h1, ξ, h2⟩ => ⟨h1, er ts, ξ, h2, hx, h⟩
theorem fzT_h (C : Cx K) (fr : List (Nat × TV K)) : ∀ (l : List (Nat × Kd)) (ts : TS K), (fzT C fr l ts).h = ts.h
 | [], _ => rfl
 | (t, k) :: r, ts => by
   cases k with
   | sl e =>
     simp only [fzT]
     rw [fzT_h C fr r]
     split
     ·exact fz_h C ts _
     ·rfl
   | _ => simp only [fzT]; exact fzT_h C fr r ts
theorem rdJ_ok {hh : List RS} (hR : ∀ H n, R ts.h H n → R hh H n) (hB : LentB B) (hC : CxOk P C) {τ : Tm} {rg : List (Nat × TV K)} {J : List (DV K) → Prop} {ks : KS} (hk : KOk ks) (hγ : GM P C R ts χ (ofK ks)) (hx : ExtR rg ts.rg) (h : rdJ C τ ts J) :
  RE B N (toS ks) fun ks' => ∃ env, J env ∧ KOk ks' ∧ ∃ ξ, GM P C R (bdT C τ rg hh env) ξ (ofK ks') := by
 have _ := (inferInstance : GB P B)
 unfold rdJ at h
 split at h
 ·rename_i env he
  have h1 := fzT_ok (R := R) (N := N) hB hC ts.fr τ.ks ts
  have h2 := (rdT_ok (R := R) (N := N) (rg := rg) hB hC (by rw [fzT_rg]; exact hx) he hh (by rw [fzT_h]; exact hR)).k
  exact ((h1.trans h2) χ ks hk hγ).mono fun ks' ⟨a, b⟩ => ⟨env, h, a, b⟩
 ·exact h.elim
theorem eqRS_ok {a b : RS} (h : eqRS a b = true) : a = b := by
 cases a <;> cases b <;> first | rfl | (cases h; done) | (rw [nbeq.1 h])
theorem eqH_ok : ∀ {a b : List RS}, eqH a b = true → a = b
 | [], [], _ => rfl
 | [], _ :: _, h => by cases h
 | _ :: _, [], h => by cases h
 | x :: a, y :: b, h => by
   simp only [eqH, Bool.and_eq_true] at h
   rw [eqRS_ok h.1, eqH_ok h.2]
theorem rdH_out {C : Cx K} {τ : Tm} {h : List RS} {ts : TS K} {J : List (DV K) → Prop} (q : rdH C τ h ts J) : ts.h = h ∧ rdJ C τ ts J := by
 unfold rdH at q
 split at q
 ·rename_i e; exact ⟨eqH_ok e, q⟩
 ·exact q.elim
theorem WK_mono {c : ACode} {Q Q' : AEx → KS → Prop} {ks : KS} (h : WK P B N ro c Q ks) (hq : ∀ e ks, Q e ks → Q' e ks) : WK P B N ro c Q' ks := have _ := (inferInstance : GB P B); fun x hx a G hR => wpIn_mono (h x hx a G hR) fun _ _ _ hp => PostK.mono hq hp
theorem bdT_rg (C : Cx K) (τ : Tm) (rg : List (Nat × TV K)) (hh : List RS) (env : List (DV K)) : (bdT C τ rg hh env).rg = rg := rfl
def IOk (P : Program) (I : List (Nat × AFn)) : Prop := ∀ f c, lkI I f = some c → trF P f = some c
theorem tagT_h (τ : Tm) (ts : TS K) : (tagT τ ts).h = ts.h := (tagB_ext τ.bx _).2.2.trans (tagS_ext τ.ks ts).2.2
theorem YOk.none {B : Base} {N : Nat} {ro : Option Nat} {R : RR K} {rY : Nat} : YOk P C R B N ro rY none := fun y h => by cases h
theorem lkT_reix {g : Nat → Option Nat} (hg : injx g) {s t : Nat} (h : g s = some t) : ∀ l : List (Nat × TV K), lkT (reix g l) t = lkT l s
 | [] => rfl
 | p :: r => by
   have ih := lkT_reix hg h r
   show lkT (match g p.1 with | some t => (t, p.2) :: reix g r | none => reix g r) t = lkT ((p.1, p.2) :: r) s
   rw [lkT_put]
   by_cases e : p.1 = s
   ·rw [if_pos e, e, h]; simp only; rw [lkT_put, if_pos rfl]
   ·rw [if_neg e]
    split
    ·rename_i u hu
     rw [lkT_put, if_neg (fun q => e (hg _ _ _ hu (by rw [q]; exact h)))]; exact ih
    ·exact ih
theorem lkT_reix_no {g : Nat → Option Nat} {t : Nat} (h : ∀ s, g s ≠ some t) : ∀ l : List (Nat × TV K), lkT (reix g l) t = .un
 | [] => rfl
 | p :: r => by
   show lkT (match g p.1 with | some t => (t, p.2) :: reix g r | none => reix g r) t = _
   split
   ·rename_i u hu
    rw [lkT_put, if_neg (fun q => h p.1 (by rw [hu, q]))]; exact lkT_reix_no h r
   ·exact lkT_reix_no h r
def memV : List (Nat × TV K) → Nat → Bool
 | [], _ => false
 | p :: r, t => Nat.beq p.1 t || memV r t
theorem lkT_app (a b : List (Nat × TV K)) (t : Nat) : lkT (a ++ b) t = if memV a t = true then lkT a t else lkT b t := by
 induction a with
 | nil => rfl
 | cons p a ih =>
   have hm : memV (p :: a) t = (Nat.beq p.1 t || memV a t) := rfl
   show lkT ((p.1, p.2) :: (a ++ b)) t = if _ then lkT ((p.1, p.2) :: a) t else _
   rw [lkT_put, lkT_put, ih, hm]
   by_cases e : p.1 = t
   ·rw [if_pos e, if_pos e, nbeq.2 e]; rfl
   ·rw [if_neg e, if_neg e]
    have : Nat.beq p.1 t = false := by
     cases h : Nat.beq p.1 t with
     | false => rfl
     | true => exact absurd (nbeq.1 h) e
    rw [this, Bool.false_or]
theorem memV_reix {g : Nat → Option Nat} {t : Nat} (h : ∀ s, g s ≠ some t) : ∀ l : List (Nat × TV K), memV (reix g l) t = false
 | [] => rfl
 | p :: r => by
   simp only [reix]
   split
   ·rename_i u hu
    have hb : Nat.beq u t = false := by
     cases q : Nat.beq u t with
     | false => rfl
     | true => exact absurd (hu.trans (congrArg some (nbeq.1 q))) (h p.1)
    show (Nat.beq u t || memV (reix g r) t) = false
    rw [hb, memV_reix h r]; rfl
   ·exact memV_reix h r
theorem lkT_reix_mem {g : Nat → Option Nat} (hg : injx g) {s t : Nat} (h : g s = some t) : ∀ l : List (Nat × TV K), memV (reix g l) t = false → lkT l s = .un
 | [], _ => rfl
 | p :: r, hm => by
   simp only [reix] at hm
   show lkT ((p.1, p.2) :: r) s = _
   rw [lkT_put]
   by_cases e : p.1 = s
   ·rw [e, h] at hm
    simp [memV, nbeq.2] at hm
   ·rw [if_neg e]
    split at hm
    ·simp only [memV, Bool.or_eq_false_iff] at hm; exact lkT_reix_mem hg h r hm.2
    ·exact lkT_reix_mem hg h r hm
theorem lkT_zip : ∀ (us : List (TV K)) (i t : Nat), lkT (zipT us i) t = if i ≤ t then (us[t - i]?).getD .un else .un
 | [], i, t => by simp [zipT, lkT]
 | u :: r, i, t => by
   simp only [zipT]
   rw [lkT_put, lkT_zip r (i + 1) t]
   by_cases h : i = t
   ·subst h; simp
   ·rw [if_neg h]
    by_cases h2 : i ≤ t
    ·have h3 : i + 1 ≤ t := by omega
     rw [if_pos h2, if_pos h3, show t - i = (t - (i + 1)) + 1 from by omega, List.getElem?_cons_succ]
    ·have h3 : ¬ i + 1 ≤ t := by omega
     rw [if_neg h2, if_neg h3]
theorem memV_zip : ∀ (us : List (TV K)) (i t : Nat), memV (zipT us i) t = decide (i ≤ t ∧ t < i + us.length)
 | [], i, t => by simp [zipT, memV]
 | u :: r, i, t => by
   simp only [zipT, memV, memV_zip r (i + 1) t, List.length_cons]
   by_cases h : i = t
   ·subst h; simp [nbeq.2]
   ·have hb : Nat.beq i t = false := by
     cases q : Nat.beq i t with
     | false => rfl
     | true => exact absurd (nbeq.1 q) h
    rw [hb, Bool.false_or]
    simp only [decide_eq_decide]; omega
theorem GM.frame {ks : KS} (h : GM P C R ts χ (ofK ks)) {R' : RR K} {fr' : List (Nat × TV K)} {rg' : List (Nat × TV K)} {h' : List RS} {frk' : List (Nat × AV)} {H' : Hp} {n' : Nat} (hx : ExtR ts.rg rg') (hL : R'.L = R.L)
  (hfr : ∀ t, TR P C ⟨fr', ts.od, ts.nw, rg', h'⟩ χ (lkT fr' t) (lkF frk' t)) (hp : R' h' H' n') : GM P C R' ⟨fr', ts.od, ts.nw, rg', h'⟩ χ (ofK ⟨frk', ks.mem, H', n'⟩) := by
 have hm : Mono ts ⟨fr', ts.od, ts.nw, rg', h'⟩ χ χ := ⟨hx, fun _ _ q => q, fun _ _ _ => .inr ⟨rfl, rfl⟩⟩
 refine ⟨hfr, fun s c b hb hx => ?_, h.vi, h.nw, hp, fun s b q e => by rw [hL]; exact h.lv s b q e⟩
 obtain ⟨kb, h1, h2⟩ := h.mb s c b hb hx
 exact ⟨kb, h1, h2.mono hm⟩
theorem isY_ok {id r : Nat} {u : TV K} {v : AV} (h : isY id u = true) (ht : TR P C ts χ u v) (hr : lkR ts.rg id = some (.yl r)) : v = .yld r := by
 unfold isY at h
 split at h
 ·rename_i i w
  have := nbeq.1 h; subst this
  cases ht with
  | cn _ _ _ h1 _ h2 => rw [hr] at h1; cases h1; cases h2; rfl
 ·cases h
def lsR : RS → LS
 | .rdy => .ready
 | .busy => .busy
 | .ret => .ret
 | .ex i => .exit i
def RR.push (R : RR K) (r : Nat) (f : LS → Blk) : RR K := ⟨fun h H n => ∃ st h', h = st :: h' ∧ H r = some (f (lsR st)) ∧ R.R h' (fun o => if o = r then none else H o) n, R.L⟩
theorem RR.push_out {R : RR K} {r : Nat} {f : LS → Blk} {st : RS} {h : List RS} {H : Hp} {n : Nat} (q : R.push r f (st :: h) H n) : H r = some (f (lsR st)) ∧ R.R h (fun o => if o = r then none else H o) n := by
 obtain ⟨st', h', e, a, b⟩ := q
 cases e; exact ⟨a, b⟩
theorem RR.push_set {R : RR K} {r : Nat} {f : LS → Blk} {st st' : RS} {h : List RS} {H : Hp} {n : Nat} (q : R.push r f (st :: h) H n) : R.push r f (st' :: h) (fun o => if o = r then some (f (lsR st')) else H o) n := by
 refine ⟨st', h, rfl, if_pos rfl, ?_⟩
 have : (fun o => if o = r then none else (if o = r then some (f (lsR st')) else H o)) = fun o => if o = r then none else H o := by
  funext o
  by_cases e : o = r
  ·simp [e]
  ·simp [e]
 rw [this]; exact (RR.push_out q).2
theorem okG_ok {g : Option (Nat × Bool)} {ds : DS} (hγ : GM P C R ts χ ds) (h : okG g ts.fr = true) : gok g ds.fr = true := by
 unfold okG at h
 split at h
 ·rfl
 ·rename_i d b
  have hd := (hγ.fr d).s
  split at h
  ·rename_i c e; rw [e] at hd; simp only [gok, hd.bli]; exact h
  ·rename_i c e; rw [e] at hd; simp only [gok, hd.lbi]; exact h
  ·cases h
theorem TL.at2 {us : List (TV K)} {vs : List AV} (t : TL P C ts χ us vs) (j : Nat) : TR P C ts χ ((us[j]?).getD .un) ((vs[j]?).getD .un) := by
 cases hu : us[j]? with
 | none => exact .un _
 | some u =>
   have hj : j < vs.length := by rw [t.1]; exact (List.getElem?_eq_some_iff.1 hu).1
   rw [List.getElem?_eq_getElem hj]
   exact t.2 j u _ hu (List.getElem?_eq_getElem hj)
theorem foldT : ∀ (ps : List Nat) (us : List (TV K)) (vs : List AV) (a : List (Nat × TV K)) (b : List (Nat × AV)), TL P C ts χ us vs → (∀ t, TR P C ts χ (lkT a t) (lkF b t)) → ∀ t, TR P C ts χ (lkT ((ps.zip us).foldl (fun l p => p :: l) a) t) (lkF ((ps.zip vs).foldl (fun l p => p :: l) b) t)
 | [], us, vs, a, b, _, h => h
 | p :: ps, [], vs, a, b, t, h => by
   have : vs = [] := List.eq_nil_of_length_eq_zero t.1
   subst this; exact h
 | p :: ps, u :: us, [], a, b, t, h => by simp [TL] at t
 | p :: ps, u :: us, v :: vs, a, b, t, h => by
   simp only [List.zip_cons_cons, List.foldl_cons]
   refine foldT ps us vs _ _ t.head.2 fun q => ?_
   rw [lkT_put, lkF_cons]
   simp only
   split
   ·exact t.head.1
   ·exact h q
theorem Dn_ok (hC : CxOk P C) : ∀ (A : An K) {B : Base} [GB P B] {N : Nat} {ro : Option Nat} {R : RR K} {F : Cf K} {rY : Nat}, LentB B → F.C = C → SsOk P C F.S → SLOk P C F.L → F.N = N → IOk P F.I → (F.rd = false → ro = none) → (F.I = [] ∨ ∀ h H n m, R h H n → n ≤ m → R h H m) → YOk P C R B N ro rY F.Y →
  ∀ (c : ACode) (Q : AEx → TS K → Prop) (ts : TS K) (χ : Nat → Nat → Bool) (ks : KS), KOk ks → GM P C R ts χ (ofK ks) → (∀ y, F.Y = some y → lkR ts.rg y.1 = some (.yl rY)) → Dn F A c Q ts → WK P B N ro c (Kq P C R ts.rg Q) ks := by
 intro A
 induction A with
 | o =>
   intro B _ N ro R F rY hB hF hS hL hN hI hr hRm hY c Q ts χ ks hk hγ hYI h
   have at' : ∀ {e : AEx}, Q e ts → Kq P C R ts.rg Q e ks := fun h => ⟨hk, ts, χ, hγ, .refl, h⟩
   cases c with
   | skip => exact WK_skip (at' h)
   | exit id => exact WK_exit (at' h)
   | ret => exact WK_ret (at' h)
   | ops L =>
     refine WK_ops ?_
     exact tops_ok (L := L) hB hC hF hS hL hN hY L 0 ts χ (ofK ks) rfl hγ (ofK_ok hk) hYI h fun ts' χ' ds' a b d e => RE_Kq hB hC a b e d
   | drw L =>
     obtain ⟨f1, f2⟩ := frzD_ok (R := R) (N := N) (ts := ts) hB hC hF L
     refine WK_re fun _ => (f1 χ ks hk hγ).mono fun ks' ⟨hk', ξ, hγ'⟩ => WK_drw ?_
     exact tdrw_ok (LD := L) hC hF hS hL L 0 [] [] _ ξ (ofK ks') rfl ⟨rfl, fun j f t h => by simp at h⟩ hγ' (ofK_ok hk') h fun ts' χ' ds' a b d e => RE_Kq hB hC a b (by rw [← f2]; exact e) d
   | _ => exact h.elim
 | s a b iha ihb =>
   intro B _ N ro R F rY hB hF hS hL hN hI hr hRm hY c Q ts χ ks hk hγ hYI h
   cases c with
   | seq x y =>
     refine WK_seq (WK_mono (iha hB hF hS hL hN hI hr hRm hY x _ ts χ ks hk hγ hYI h) fun e ks' hq => ?_)
     obtain ⟨h1, ts', χ', h2, h3, h4⟩ := hq
     cases e with
     | n => exact WK_mono (ihb hB hF hS hL hN hI hr hRm hY y Q ts' χ' ks' h1 h2 (fun y e => h3 _ _ (hYI y e)) h4) fun e ks2 hq => hq.mono h3
     | x id => exact ⟨h1, ts', χ', h2, h3, h4⟩
     | r => exact ⟨h1, ts', χ', h2, h3, h4⟩
   | _ => exact h.elim
 | c a b iha ihb =>
   intro B _ N ro R F rY hB hF hS hL hN hI hr hRm hY c Q ts χ ks hk hγ hYI h
   cases c with
   | cond u x y =>
     have hu := hγ.tev u
     unfold Dn at h
     split at h
     ·rename_i e
      rw [e] at hu
      exact WK_cond (b := true) hu.lbi (fun _ => iha hB hF hS hL hN hI hr hRm hY x Q ts χ ks hk hγ hYI h) (fun q => by cases q)
     ·rename_i e
      rw [e] at hu
      exact WK_cond (b := false) hu.lbi (fun q => by cases q) (fun _ => ihb hB hF hS hL hN hI hr hRm hY y Q ts χ ks hk hγ hYI h)
     ·rename_i q e
      rw [e] at hu
      exact WK_cond (b := q) hu.bli (fun hq => iha hB hF hS hL hN hI hr hRm hY x Q ts χ ks hk hγ hYI (h.1 hq)) (fun hq => ihb hB hF hS hL hN hI hr hRm hY y Q ts χ ks hk hγ hYI (h.2 hq))
     ·exact h.elim
   | _ => exact h.elim
 | b a iha =>
   intro B _ N ro R F rY hB hF hS hL hN hI hr hRm hY c Q ts χ ks hk hγ hYI h
   cases c with
   | block id x =>
     refine WK_block (WK_mono (iha hB hF hS hL hN hI hr hRm hY x _ ts χ ks hk hγ hYI h) fun e ks' hq => ?_)
     obtain ⟨h1, ts', χ', h2, h3, h4⟩ := hq
     cases e with
     | n => exact ⟨h1, ts', χ', h2, h3, h4⟩
     | r => exact ⟨h1, ts', χ', h2, h3, h4⟩
     | x i =>
       show bkQ id _ (.x i) ks'
       simp only at h4
       unfold bkQ
       simp only
       split at h4
       ·rename_i e; try rw [e]
        exact ⟨h1, ts', χ', h2, h3, h4⟩
       ·rename_i e; try rw [e]
        exact ⟨h1, ts', χ', h2, h3, h4⟩
   | _ => exact h.elim
 | l τ a iha =>
   intro B _ N ro R F rY hB hF hS hL hN hI hr hRm hY c Q ts χ ks hk hγ hYI h
   cases c with
   | loop x =>
     refine WK_loop fun Y hYl => ?_
     let Sem : List (DV K) → Prop := fun env => ∀ ks', KOk ks' → (∃ ξ, GM P C R (bdT F.C τ (tagT τ ts).rg ts.h env) ξ (ofK ks')) → WK P B N ro x (sqQ (Kq P C R ts.rg Q) Y) ks'
     have go : ∀ {ts' : TS K} {χ' : Nat → Nat → Bool} {ks' : KS}, KOk ks' → GM P C R ts' χ' (ofK ks') → ExtR (tagT τ ts).rg ts'.rg → ts'.h = ts.h → rdJ F.C τ ts' (apC False (ctT τ) (curC (ctT τ) Sem)) → Y ks' := by
      intro ts' χ' ks' hk' hγ' hx' hh hj
      refine hYl ks' (WK_re fun _ => ?_)
      rw [hF] at hj
      refine (rdJ_ok (hh := ts.h) (fun H n q => by rw [hh] at q; exact q) hB hC hk' hγ' hx' hj).mono fun ks2 ⟨env, e1, e2, ξ, e3⟩ => ?_
      exact apC_cur _ _ _ e1 ks2 e2 ⟨ξ, by rw [hF]; exact e3⟩
     refine go hk (tagT_ok hγ) .refl (tagT_h τ ts) (h (curC (ctT τ) Sem) (allC_cur _ _ _ fun env hd => ?_))
     rintro ks' hk' ⟨ξ, hγ'⟩
     refine WK_mono (iha env hB hF hS hL hN hI hr hRm hY x _ _ ξ ks' hk' hγ' (fun y e => tagT_ext τ ts _ _ (hYI y e)) hd) fun e ks2 hq => ?_
     obtain ⟨h1, ts', χ', h2, h3, h4⟩ := hq
     rw [bdT_rg] at h3
     cases e with
     | n => obtain ⟨g1, g2⟩ := rdH_out h4; exact go h1 h2 h3 g1 g2
     | x id => exact ⟨h1, ts', χ', h2, (tagT_ext τ ts).trans h3, h4⟩
     | r => exact ⟨h1, ts', χ', h2, (tagT_ext τ ts).trans h3, h4⟩
   | _ => exact h.elim
 | j τ a b iha ihb =>
   intro B _ N ro R F rY hB hF hS hL hN hI hr hRm hY c Q ts χ ks hk hγ hYI h
   cases c with
   | seq x y =>
     let Sem : List (DV K) → Prop := fun env => ∀ ks', KOk ks' → (∃ ξ, GM P C R (bdT F.C τ (tagT τ ts).rg ts.h env) ξ (ofK ks')) → WK P B N ro y (Kq P C R ts.rg Q) ks'
     have hd := h (curC (ctT τ) Sem) (allC_cur _ _ _ fun env hd => by
      rintro ks' hk' ⟨ξ, hγ'⟩
      exact WK_mono (ihb env hB hF hS hL hN hI hr hRm hY y Q _ ξ ks' hk' hγ' (fun y e => tagT_ext τ ts _ _ (hYI y e)) hd) fun e ks2 hq => hq.mono (tagT_ext τ ts))
     refine WK_seq (WK_mono (iha hB hF hS hL hN hI hr hRm hY x _ (tagT τ ts) χ ks hk (tagT_ok hγ) (fun y e => tagT_ext τ ts _ _ (hYI y e)) hd) fun e ks' hq => ?_)
     obtain ⟨h1, ts', χ', h2, h3, h4⟩ := hq
     cases e with
     | n =>
       refine WK_re fun _ => ?_
       simp only at h4
       rw [hF] at h4
       obtain ⟨g1, g2⟩ := rdH_out h4
       refine (rdJ_ok (hh := ts.h) (fun H n q => by rw [g1] at q; exact q) hB hC h1 h2 h3 g2).mono fun ks2 ⟨env, e1, e2, ξ, e3⟩ => ?_
       exact apC_cur _ _ _ e1 ks2 e2 ⟨ξ, by rw [hF]; exact e3⟩
     | x id => exact ⟨h1, ts', χ', h2, (tagT_ext τ ts).trans h3, h4⟩
     | r => exact ⟨h1, ts', χ', h2, (tagT_ext τ ts).trans h3, h4⟩
   | _ => exact h.elim
 | g id τ τY ai aa ab ih1 ih2 ih3 =>
   intro B _ N ro R F rY hB hF hS hL hN hI hr hRm hY c Q ts χ ks hk hγ hYI h
   cases c with
   | rng u ps aA aB =>
     subst hF
     unfold Dn at h
     split at h
     ·exact h.elim
     rename_i hrd
     have hro := hr hrd
     subst hro
     refine WK_re fun _ => (rdJ_ok (hh := ts.h) (fun H n q => by rw [tagT_h] at q; exact q) hB hC hk (tagT_ok hγ) .refl h).mono fun ks1 ⟨env, h1, hk1, ξ1, hγ1⟩ => ?_
     have hrg : (bdT F.C τ (tagT τ ts).rg ts.h env).rg = (tagT τ ts).rg := rfl
     have hnw : (bdT F.C τ (tagT τ ts).rg ts.h env).nw = [] := rfl
     have hh1 : (bdT F.C τ (tagT τ ts).rg ts.h env).h = ts.h := rfl
     generalize bdT F.C τ (tagT τ ts).rg ts.h env = ts1 at h1 hγ1 hrg hnw hh1
     split at h1
     case h_2 => exact h1.elim
     rename_i f fa fc hu
     split at h1
     case h_2 => exact h1.elim
     rename_i c2 hc2
     replace hRm := hRm.resolve_left (fun e => by rw [e] at hc2; cases hc2)
     split at h1
     case h_2 => exact h1.elim
     rename_i hcond
     simp only [Bool.and_eq_true] at hcond
     obtain ⟨⟨hid, hlen⟩, hnil⟩ := hcond
     rw [← hrg] at hid
     have hid : lkR ts1.rg id = none := by
      cases hq : lkR ts1.rg id with
      | none => rfl
      | some w => rw [hq] at hid; cases hid
     have hlen := Nat.le_of_ble_eq_true hlen
     have hres : c2.res = [] := by
      cases hq : c2.res with
      | nil => rfl
      | cons a b => rw [hq] at hnil; cases hnil
     have hu' := hγ1.tev u
     rw [hu] at hu'
     generalize hv : ev (lkF (ofK ks1).fr) u = v at hu'
     cases hu' with
     | fn _ _ _ a' c' ha hc hta htc =>
       refine WK_rng (hI f c2 hc2) hres hv (by simp; omega) hB fun B2 _ tm asg body yv rest hB2 hH htm hxs hA hBd hps => ?_
       subst hN
       let f0 : LS → Blk := rcdB tm ps asg body
       have h2 := h1 ks1.nx
       have hx1 : ExtR ts1.rg ((id, .yl ks1.nx) :: ts1.rg) := fun id' w hw => by
        rw [lkR_cons]
        split
        ·rename_i e; simp only at e; subst e; rw [hid] at hw; cases hw
        ·exact hw
       have hRm2 : ∀ h H n m, R.push ks1.nx f0 h H n → n ≤ m → R.push ks1.nx f0 h H m := fun h H n m ⟨st, h', a1, a2, a3⟩ hm => ⟨st, h', a1, a2, hRm _ _ _ _ a3 hm⟩
       have hγ2 : GM P F.C (R.push ks1.nx f0) (rngS id ks1.nx c2.N fa fc ts1) ξ1 (ofK (rngK c2.N (a' ++ .yld ks1.nx :: c') (f0 .ready) ks1)) := by
        refine GM.frame hγ1 hx1 rfl (fun t => ?_) ⟨.rdy, ts1.h, rfl, if_pos rfl, ?_⟩
        ·have hm : Mono ts1 (rngS id ks1.nx c2.N fa fc ts1) ξ1 ξ1 := ⟨hx1, fun _ _ q => q, fun _ _ _ => .inr ⟨rfl, rfl⟩⟩
         have hyT : TR P F.C (rngS id ks1.nx c2.N fa fc ts1) ξ1 (.cn id (.yl ks1.nx)) (.yld ks1.nx) := .cn id (.yl ks1.nx) _ (by show lkR ((id, .yl ks1.nx) :: ts1.rg) id = _; rw [lkR_cons, if_pos rfl]) rfl (.yl _)
         have hTL : TL P F.C (rngS id ks1.nx c2.N fa fc ts1) ξ1 (fa ++ .cn id (.yl ks1.nx) :: fc) (a' ++ .yld ks1.nx :: c') := ((show TL P F.C ts1 ξ1 fa a' from ⟨ha, hta⟩).mono hm).app (.cons hyT ((show TL P F.C ts1 ξ1 fc c' from ⟨hc, htc⟩).mono hm))
         show TR P F.C (rngS id ks1.nx c2.N fa fc ts1) ξ1 (lkT (zipT (fa ++ .cn id (.yl ks1.nx) :: fc) 0 ++ (c2.N, .cn id (.yl ks1.nx)) :: reix (upx (c2.N + 1)) ts1.fr) t) (lkF (entF (a' ++ .yld ks1.nx :: c') 0 ++ (c2.N, .yld ks1.nx) :: reix (upx (c2.N + 1)) ks1.fr) t)
         rw [lkT_app, memV_zip, lkF_app, memI_ent, hTL.1]
         by_cases ht : 0 ≤ t ∧ t < 0 + (fa ++ .cn id (.yl ks1.nx) :: fc).length
         ·rw [if_pos (decide_eq_true ht), if_pos (decide_eq_true ht), lkT_zip, lkF_ent, if_pos (Nat.zero_le _), if_pos (Nat.zero_le _)]
          exact hTL.at2 _
         ·rw [if_neg (by simpa using ht), if_neg (by simpa using ht), lkT_put, lkF_cons]
          simp only
          by_cases h3 : c2.N = t
          ·rw [if_pos h3, if_pos h3]; exact hyT
          ·rw [if_neg h3, if_neg h3]
           by_cases h4 : c2.N < t
           ·have hg : upx (c2.N + 1) (t - (c2.N + 1)) = some t := by simp only [upx, Option.some.injEq]; omega
            rw [lkT_reix (upx_inj _) hg, lkF_reix (upx_inj _) hg]
            exact (hγ1.fr _).mono hm
           ·rw [lkT_reix_no (fun s e => by simp only [upx, Option.some.injEq] at e; omega)]
            exact .un _
        ·have : (fun o => if o = ks1.nx then none else (if o = ks1.nx then some (f0 .ready) else ks1.H o)) = ks1.H := by
          funext o
          by_cases e : o = ks1.nx
          ·rw [if_pos e, e, hH]
          ·simp [e]
         rw [this]; exact hRm _ _ _ _ hγ1.hp (Nat.le_succ _)
       have hbk : ∀ {t8 : TS K} {χ8 : Nat → Nat → Bool} {ks8 : KS} {h8 : List RS} {R' : RR K} {H' : Hp} (m : Nat), GM P F.C (R.push ks1.nx f0) t8 χ8 (ofK ks8) → R'.L = R.L → R' h8 H' ks8.nx → GM P F.C R' ⟨reix (dnx m) t8.fr, t8.od, t8.nw, t8.rg, h8⟩ χ8 (ofK ⟨reix (dnx m) ks8.fr, ks8.mem, H', ks8.nx⟩) := by
        intro t8 χ8 ks8 h8 R' H' m hg hL hp
        refine GM.frame hg .refl hL (fun t => ?_) hp
        have hm : Mono t8 ⟨reix (dnx m) t8.fr, t8.od, t8.nw, t8.rg, h8⟩ χ8 χ8 := ⟨fun _ _ q => q, fun _ _ q => q, fun _ _ _ => .inr ⟨rfl, rfl⟩⟩
        have hd : dnx m (t + m) = some t := dnx_some.2 rfl
        rw [lkT_reix (dnx_inj _) hd, lkF_reix (dnx_inj _) hd]
        exact (hg.fr _).mono hm
       refine WK_mono (ih1 (rY := ks1.nx) (F := { C := F.C, S := F.S, L := F.L, N := c2.N, I := F.I, Y := some (id, _), rd := false }) hB2 rfl hS hL rfl hI (fun _ => rfl) (.inr hRm2) ?_ c2.body _ _ ξ1 _ (show KOk (rngK c2.N (a' ++ .yld ks1.nx :: c') (f0 .ready) ks1) from hk1) hγ2 (fun y hy => by cases hy; show lkR ((id, .yl ks1.nx) :: ts1.rg) id = _; rw [lkR_cons, if_pos rfl]) h2) ?_
       ·intro y hy L i o x args t χt ds X Qd e0 hg ho hγt hkt hlk hrun k
        cases hy
        simp only at hlk hrun
        refine WD_re fun _ => RE.bind (er_ok (N := c2.N) hB2 hC χt ds hkt hγt) fun ks3 _ ⟨hk3, ξ3, hγ3⟩ => (rdJ_ok (hh := t.h) (R := R.push ks1.nx f0) (N := c2.N) (fun H n q => by rw [tagT_h] at q; exact q) hB2 hC hk3 (tagT_ok hγ3) .refl hrun).mono fun ks4 ⟨env2, h4, hk4, ξ4, hγ4⟩ => ?_
        have hrg4 : (bdT F.C τY (tagT τY (er t)).rg t.h env2).rg = (tagT τY (er t)).rg := rfl
        have hh4 : (bdT F.C τY (tagT τY (er t)).rg t.h env2).h = t.h := rfl
        generalize bdT F.C τY (tagT τY (er t)).rg t.h env2 = t4 at h4 hγ4 hrg4 hh4
        split at h4
        case h_2 => exact h4.elim
        rename_i _ _ tl hcond4 hth
        simp only [Bool.and_eq_true] at hcond4
        obtain ⟨⟨⟨q1, q2⟩, q3⟩, q4⟩ := hcond4
        have hext4 : ExtR t.rg t4.rg := by rw [hrg4]; exact tagT_ext τY (er t)
        have hlk4 := hext4 _ _ hlk
        have hx4 := isY_ok q2 (hγ4.tea x) hlk4
        have hy4 := isY_ok q1 (hγ4.fr c2.N) hlk4
        have hp4 := hγ4.hp
        rw [hh4, hth] at hp4
        have hH4 := (RR.push_out hp4).1
        refine WD_yld hB2 e0 (okG_ok hγ4 q4) ho hx4 hy4 hH4 htm hxs (nbeq.1 q3) hps hA hBd fun B3 _ l hB3 => ?_
        have hγ5 : GM P F.C (R.push ks1.nx f0) (yldS c2.N F.N (ps.toList.zip (args.map (tea t4.fr))) t4) ξ4 (ofK (yldK c2.N F.N (ps.toList.zip (args.map (ev (lkF ks4.fr)))) ks4)) := by
         refine GM.frame hγ4 .refl rfl (fun t' => ?_) hγ4.hp
         have hm : Mono t4 (yldS c2.N F.N (ps.toList.zip (args.map (tea t4.fr))) t4) ξ4 ξ4 := ⟨fun _ _ q => q, fun _ _ q => q, fun _ _ _ => .inr ⟨rfl, rfl⟩⟩
         refine foldT ps.toList (args.map (tea t4.fr)) (args.map (ev (lkF ks4.fr))) _ _ ((TL.tea hγ4 args).mono hm) (fun t' => ?_) t'
         rw [lkT_app, lkF_app]
         have hbase : ∀ {b1 b2 : Bool}, (b1 = false → lkT (reix (acx (c2.N + 1) F.N) t4.fr) t' = .un) → (b2 = false → lkF (reix (acx (c2.N + 1) F.N) ks4.fr) t' = .un) → True := fun _ _ => trivial
         by_cases ht : t' < F.N
         ·have hg1 : acx (c2.N + 1) F.N (t' + (c2.N + 1)) = some t' := acx_some.2 ⟨rfl, ht⟩
          have hno : ∀ s, upx F.N s ≠ some t' := fun s e => by simp only [upx, Option.some.injEq] at e; omega
          have e1 : (if memV (reix (acx (c2.N + 1) F.N) t4.fr) t' = true then lkT (reix (acx (c2.N + 1) F.N) t4.fr) t' else lkT (reix (upx F.N) t4.fr) t') = lkT t4.fr (t' + (c2.N + 1)) := by
           split
           ·exact lkT_reix (acx_inj _ _) hg1 _
           ·rename_i hm'
            rw [lkT_reix_no hno]
            exact (lkT_reix_mem (acx_inj _ _) hg1 _ (by simpa using hm')).symm
          have e2 : (if memI (reix (acx (c2.N + 1) F.N) ks4.fr) t' = true then lkF (reix (acx (c2.N + 1) F.N) ks4.fr) t' else lkF (reix (upx F.N) ks4.fr) t') = lkF ks4.fr (t' + (c2.N + 1)) := by
           split
           ·exact lkF_reix (acx_inj _ _) hg1 _
           ·rename_i hm'
            rw [lkF_reix_no hno]
            exact (lkF_reix_mem (acx_inj _ _) hg1 _ (by simpa using hm')).symm
          rw [e1, e2]
          exact (hγ4.fr _).mono hm
         ·have hno : ∀ s, acx (c2.N + 1) F.N s ≠ some t' := fun s e => ht (acx_some.1 e).2
          have hg1 : upx F.N (t' - F.N) = some t' := by simp only [upx, Option.some.injEq]; omega
          rw [memV_reix hno, memI_reix hno, if_neg (by simp), if_neg (by simp), lkT_reix (upx_inj _) hg1, lkF_reix (upx_inj _) hg1]
          exact (hγ4.fr _).mono hm
        refine WK_mono (ih2 (rY := 0) (F := { C := F.C, S := F.S, L := F.L, N := F.N, I := F.I, Y := none, rd := true }) hB3 rfl hS hL rfl hI (fun e => by cases e) (.inr hRm2) YOk.none aA _ _ ξ4 _ (show KOk (yldK c2.N F.N (ps.toList.zip (args.map (ev (lkF ks4.fr)))) ks4) from hk4) hγ5 (fun y e => by cases e) h4) fun e ks6 hq6 => ?_
        obtain ⟨hk6, t6, χ6, hγ6, hx6, hq6⟩ := hq6
        cases e with
        | x id' => exact hq6.elim
        | r => exact hq6.elim
        | n =>
          simp only [asgT] at hq6
          split at hq6
          case h_2 => exact hq6.elim
          rename_i _ _ h6 hy6 hh6
          have hp6 := hγ6.hp
          rw [hh6] at hp6
          have hlk6 := hx6 _ _ hlk4
          refine ⟨(RR.push_out hp6).1, isY_ok hy6 (hγ6.fr _) hlk6, ?_⟩
          have hγ7 : GM P F.C (R.push ks1.nx f0) (setS (.busy :: h6) t6) χ6 (ofK (setLK ks1.nx (f0 .busy) ks6)) :=
           GM.frame hγ6 .refl rfl (fun t' => TR.mono (ts := t6) (ts' := ⟨t6.fr, t6.od, t6.nw, t6.rg, .busy :: h6⟩) (χ := χ6) (χ' := χ6) ⟨fun _ _ q => q, fun _ _ q => q, fun _ _ _ => .inr ⟨rfl, rfl⟩⟩ (hγ6.fr t')) (RR.push_set (st' := .busy) hp6)
          refine WK_mono (ih3 (rY := 0) (F := { C := F.C, S := F.S, L := F.L, N := F.N, I := F.I, Y := none, rd := true }) hB3 rfl hS hL rfl hI (fun e => by cases e) (.inr hRm2) YOk.none aB _ _ χ6 _ (show KOk (setLK ks1.nx (f0 .busy) ks6) from hk6) hγ7 (fun y e => by cases e) hq6) fun e ks8 hq8 => ?_
          obtain ⟨hk8, t8, χ8, hγ8, hx8, hq8⟩ := hq8
          simp only [rndT] at hq8
          split at hq8
          case h_2 => exact hq8.elim
          rename_i _ _ h8 hy8 hh8
          have hp8 := hγ8.hp
          rw [hh8] at hp8
          have hlk8 := hx8 _ _ hlk6
          refine ⟨(RR.push_out hp8).1, isY_ok hy8 (hγ8.fr _) hlk8, ?_⟩
          have hext8 : ExtR t.rg t8.rg := (hext4.trans hx6).trans hx8
          have key : ∀ (st : RS) (b : Bool), X b (bkS F.N (st :: h8) t8) → WD P B2 c2.N none L (i + 1) Qd ((ofK (bkK F.N (setLK ks1.nx (f0 (lsR st)) ks8))).put o.dst (.bl b)) := fun st b hX =>
           k b (bkS F.N (st :: h8) t8) χ8 (bkK F.N (setLK ks1.nx (f0 (lsR st)) ks8)) (show GM P F.C (R.push ks1.nx f0) (bkS F.N (st :: h8) t8) χ8 (ofK ⟨reix (dnx F.N) ks8.fr, ks8.mem, fun o => if o = ks1.nx then some (f0 (lsR st)) else ks8.H o, ks8.nx⟩) from hbk F.N hγ8 rfl (RR.push_set (st' := st) hp8)) hk8 hext8 hX
          cases e with
          | n => exact key .rdy true hq8
          | r => exact key .ret false hq8
          | x i' => exact key (.ex i') false hq8
       ·rintro e ks9 ⟨hk9, t9, χ9, hγ9, hx9, hq9⟩
        have hlk9 : lkR t9.rg id = some (.yl ks1.nx) := hx9 _ _ (by show lkR ((id, .yl ks1.nx) :: ts1.rg) id = _; rw [lkR_cons, if_pos rfl])
        have hext9 : ExtR ts.rg t9.rg := ((tagT_ext τ ts).trans (by rw [← hrg]; exact hx1)).trans hx9
        have fin : ∀ e, (∀ i, e ≠ .x i) → rngT id c2.N Q e t9 → rngQ ks1.nx c2.N (Kq P F.C R ts.rg Q) e ks9 := by
         intro e he hq9
         have hq9 : (match isY id (lkT t9.fr c2.N), t9.h with
          | true, .rdy :: h => Q .n (dnS c2.N h t9)
          | true, .ret :: h => Q .r (dnS c2.N h t9)
          | true, .ex i :: h => Q (.x i) (dnS c2.N h t9)
          | _, _ => False) := by
          cases e with
          | x i => exact absurd rfl (he i)
          | n => exact hq9
          | r => exact hq9
         have goal : lkF ks9.fr c2.N = .yld ks1.nx ∧ ∃ j, lsOf (ks9.H ks1.nx) = some j ∧ (match j with
          | .busy => False
          | .ready => Kq P F.C R ts.rg Q .n (dnK ks1.nx c2.N ks9)
          | .ret => Kq P F.C R ts.rg Q .r (dnK ks1.nx c2.N ks9)
          | .exit id => Kq P F.C R ts.rg Q (.x id) (dnK ks1.nx c2.N ks9)) := by
          have hp9 := hγ9.hp
          have key : ∀ {st : RS} {h : List RS} {e' : AEx}, t9.h = st :: h → Q e' (dnS c2.N h t9) → lsOf (ks9.H ks1.nx) = some (lsR st) ∧ Kq P F.C R ts.rg Q e' (dnK ks1.nx c2.N ks9) := by
           intro st h e' hh hQ
           rw [hh] at hp9
           obtain ⟨a1, a2⟩ := RR.push_out hp9
           refine ⟨by rw [show ks9.H ks1.nx = _ from a1]; rfl, hk9, dnS c2.N h t9, χ9, hbk (c2.N + 1) hγ9 rfl a2, hext9, hQ⟩
          split at hq9
          ·rename_i h hy hh
           obtain ⟨a1, a2⟩ := key hh hq9
           exact ⟨isY_ok hy (hγ9.fr _) hlk9, _, a1, a2⟩
          ·rename_i h hy hh
           obtain ⟨a1, a2⟩ := key hh hq9
           exact ⟨isY_ok hy (hγ9.fr _) hlk9, _, a1, a2⟩
          ·rename_i i h hy hh
           obtain ⟨a1, a2⟩ := key hh hq9
           exact ⟨isY_ok hy (hγ9.fr _) hlk9, _, a1, a2⟩
          ·exact hq9.elim
         cases e with
         | x i => exact absurd rfl (he i)
         | n => exact goal
         | r => exact goal
        cases e with
        | x i => exact hq9.elim
        | n => exact fin .n (fun i e => by cases e) hq9
        | r => exact fin .r (fun i e => by cases e) hq9
   | _ => exact h.elim
end
theorem WK_post {c : ACode} {Q Q' : AEx → KS → Prop} {ks : KS} (h : WK P B N ro c Q ks) (hq : ∀ e ks, KOk ks → Q e ks → RE B N (toS ks) (Q' e)) : WK P B N ro c Q' ks := by
 have _ := (inferInstance : GB P B)
 intro x hx a G hR
 refine wpIn_mono (h x hx a G hR) ?_
 rintro e a' w' ⟨ks1, G1, h1, h2, h3⟩
 have go : ∀ e', Q e' ks1 → ∃ ks2 G2, RelK B N ks2 a' G2 ∧ G2.w = w' ∧ Q' e' ks2 := by
  intro e' h3
  obtain ⟨ks2, G2, k1, k2, k3⟩ := hq e' ks1 h1.2 h3 a' G1 h1.1
  exact ⟨ks2, G2, k2, by rw [k1, h2], k3⟩
 cases e with
 | normal => exact go .n h3
 | exit id => exact go (.x id) h3
 | ret => exact go .r h3
 | goto l => exact h3.elim
 | panic ch => exact h3.elim
 | outgrown => exact h3.elim
theorem resT_ok {ks : KS} (hk : KOk ks) (hγ : GM P C R ts χ (ofK ks)) {q : Nat × Option Nat} {u : TV K} (h : resT ts q = some u) : ∃ v, res1 (toS ks) q = some v ∧ TR P C ts χ u v := by
 have box : ∀ {t s c o e : Nat} {cs : List (TV K)}, (lkT ts.fr t).s = .px s c o → ts.tb s c = some (.box e cs) → ∃ kb : KB, (toS ks).fr t = .pt (.l s c) o ∧ tgt (toS ks) (.pt (.l s c) o) = some (kb.cells, o) ∧ TL P C ts χ cs kb.cells := by
  intro t s c o e cs e1 e2
  have ht := (hγ.fr t).s
  rw [e1] at ht
  obtain ⟨kb, h1, h2⟩ := hγ.mb s c _ e2 (hγ.box e2)
  refine ⟨kb, ht.pxi, ?_, h2.2.2.1, h2.2.2.2⟩
  have hz := (ofK_ok hk s c kb h1).1
  show ((toS ks).M (.l s c)).bind _ = _
  rw [← ofK_toD]
  show (((ofK ks).kb s c).map KB.blk).bind _ = _
  rw [h1]
  exact if_neg hz
 unfold resT at h
 split at h
 ·cases h; exact ⟨_, rfl, hγ.fr _⟩
 ·split at h
  ·rename_i s c o e1
   split at h
   ·rename_i e cs e2
    obtain ⟨kb, b1, b2, b3⟩ := box e1 e2
    obtain ⟨v, h1, h2⟩ := b3.at' h
    exact ⟨v, by simp only [res1, b1, b2, Option.bind_some]; exact h1, h2⟩
   ·cases h
  ·cases h
 ·rename_i t sz
  split at h
  ·rename_i s c o e1
   split at h
   ·rename_i e cs e2
    obtain ⟨kb, b1, b2, b3⟩ := box e1 e2
    obtain ⟨v, h1, h2⟩ := tldc_ok b3 h
    refine ⟨v, ?_, h2⟩
    simp only [res1, b1, b2, Option.bind_some]
    simp only [kld] at h1
    exact h1
   ·cases h
  ·cases h
theorem resTs_ok {ks : KS} (hk : KOk ks) (hγ : GM P C R ts χ (ofK ks)) : ∀ (l : List (Nat × Option Nat)) (us : List (TV K)), resTs ts l = some us → ∃ vs, resL (toS ks) l = some vs ∧ TL P C ts χ us vs
 | [], us, h => by cases h; exact ⟨[], rfl, .nil⟩
 | q :: l, us, h => by
   simp only [resTs] at h
   split at h
   ·rename_i v vs h1 h2
    cases h
    obtain ⟨a, a1, a2⟩ := resT_ok hk hγ h1
    obtain ⟨az, b1, b2⟩ := resTs_ok hk hγ l vs h2
    exact ⟨a :: az, by simp only [resL, a1, b1], .cons a2 b2⟩
   ·cases h
theorem outR_ok (hC : CxOk P C) : ∀ (rs : List Nat) (us : List (TV K)) (vs : List AV) (p : List (DV K) → Prop), outR C rs us p → TL P C ts χ us vs → ∃ xs, p xs ∧ noLs vs = true ∧ dwks vs = xs.map (dvA C)
 | [], [], vs, p, h, t => by
   have : vs = [] := List.eq_nil_of_length_eq_zero t.1
   subst this; exact ⟨[], h, rfl, rfl⟩
 | r :: rs, u :: us, vs, p, h, t => by
   cases vs with
   | nil => simp [TL] at t
   | cons v vs =>
     simp only [outR] at h
     split at h
     ·rename_i x e
      obtain ⟨xs, a1, a2, a3⟩ := outR_ok hC rs us vs _ h t.head.2
      obtain ⟨b1, b2, _⟩ := outV_ok hC e t.head.1
      exact ⟨.v r x :: xs, a1, by simp [noLs, b2, a2], by simp only [dwks, List.map_cons, a3, b1]; rfl⟩
     ·exact h.elim
 | [], _ :: _, _, _, h, _ => h.elim
 | _ :: _, [], _, _, h, _ => h.elim
theorem eqR_ok : ∀ {x r : List (DV K)}, eqR x r → x = r := by
 have one : ∀ {t t' : Nat} {x : K t} {y : K t'}, (if h : t = t' then h ▸ x = y else False) → (DV.v t x : DV K) = .v t' y := by
  intro t t' x y h
  split at h
  ·rename_i e; subst e; subst h; rfl
  ·exact h.elim
 intro x
 induction x with
 | nil => intro r h; cases r with | nil => rfl | cons => exact h.elim
 | cons a x ih =>
   intro r h
   cases r with
   | nil => cases a <;> first | exact h.elim | (cases x <;> exact h.elim)
   | cons b r =>
     cases a with
     | v t y =>
       cases b with
       | v t' z =>
         cases x with
         | nil =>
           cases r with
           | nil => rw [one h]
           | cons => cases ih h.2
         | cons c x =>
           have h' : (if h : t = t' then h ▸ y = z else False) ∧ eqR (c :: x) r := h
           rw [one h'.1, ih h'.2]
       | _ => cases x <;> cases r <;> exact h.elim
     | _ => cases b <;> cases x <;> cases r <;> exact h.elim
theorem retF_ok (hB : LentB B) (hC : CxOk P C) (res : List (Nat × Option Nat)) : ∀ (n : Nat) (ts : TS K), REk P C R B N ts (retF C res ts n)
 | 0, ts => .refl
 | n + 1, ts => by
   have _ := (inferInstance : GB P B)
   simp only [retF]
   split
   ·split
    ·exact .refl
    ·exact (fzA_ok hB hC 9 _ ts).trans (retF_ok hB hC res n _)
   ·exact .refl
theorem entT_ok (hC : CxOk P C) : ∀ (ps : List PD) (env : List (AD K)) (i : Nat), env.length = ps.length → (∀ F, AD.f F ∈ env → FOk P C F) → ∀ t, TR P C ts χ (lkT (entT C ps env i) t) (lkF (entF (pencs C ps env) i) t)
 | [], [], i, _, _, t => .un _
 | [], _ :: _, i, h, _, t => by simp at h
 | _ :: _, [], i, h, _, t => by simp at h
 | p :: ps, x :: env, i, h, hF, t => by
   have ih := entT_ok hC ps env (i + 1) (by simpa using h) (fun F hf => hF F (List.mem_cons_of_mem _ hf)) t
   have bad : TR P C ts χ (lkT ([] : List (Nat × TV K)) t) (lkF (entF (pencs C (p :: ps) (x :: env)) i) t) := .un _
   have cons : ∀ {u : TV K}, TR P C ts χ u (penc C p x) → TR P C ts χ (lkT ((i, u) :: entT C ps env (i + 1)) t) (lkF (entF (pencs C (p :: ps) (x :: env)) i) t) := by
    intro u hu
    show TR P C ts χ _ (lkF ((i, penc C p x) :: entF (pencs C ps env) (i + 1)) t)
    rw [lkT_put, lkF_cons]
    simp only
    split
    ·exact hu
    ·exact ih
   cases p with
   | v t' =>
     cases x with
     | d y =>
       cases y with
       | v t2 z =>
         simp only [entT]
         refine cons ?_
         split
         ·rename_i e; subst e; exact (inV_ok hC t2 z).1
         ·exact .un _
       | _ => exact bad
     | f F => exact bad
   | p t' =>
     cases x with
     | d y =>
       cases y with
       | v t2 z =>
         simp only [entT]
         refine cons ?_
         split
         ·rename_i e; subst e
          have : penc C (.p t2) (.d (.v t2 z)) = .ep ((C.E t2).c z) (0 * (C.E t2).sz + 0) := by simp [penc]
          rw [this]
          exact .ep t2 [z] 0 0 _ (by simp [cl, hC.dw])
         ·exact .un _
       | _ => exact bad
     | f F => exact bad
   | f az bs =>
     cases x with
     | d y => exact bad
     | f F =>
       simp only [entT]
       exact cons (.fv az bs F _ (hF F List.mem_cons_self) (hF F List.mem_cons_self).2.1)
theorem pencs_noL (hC : CxOk P C) : ∀ (ps : List PD) (env : List (AD K)), (∀ F, AD.f F ∈ env → FOk P C F) → noLs (pencs C ps env) = true
 | [], _, _ => by simp [pencs, noLs]
 | _ :: _, [], _ => by simp [pencs, noLs]
 | p :: ps, x :: env, hF => by
   have ih := pencs_noL hC ps env (fun F hf => hF F (List.mem_cons_of_mem _ hf))
   have dv : ∀ y : DV K, (dvA C y).noL = true := by
    intro y
    cases y with
    | v t z => exact (inV_ok (P := P) (ts := ⟨[], [], [], [], []⟩) (χ := fun _ _ => false) hC t z).2.1
    | _ => rfl
   simp only [pencs, noLs, ih, Bool.and_true]
   cases x with
   | f F => cases p <;> exact (hF F List.mem_cons_self).1
   | d y =>
     cases p with
     | p t' =>
       cases y with
       | v t2 z =>
         simp only [penc]
         split <;> rfl
       | _ => rfl
     | _ => exact dv y
theorem pencs_len (C : Cx K) : ∀ (ps : List PD) (env : List (AD K)), env.length = ps.length → (pencs C ps env).length = ps.length
 | [], [], _ => rfl
 | [], _ :: _, h => by simp at h
 | _ :: _, [], h => by simp at h
 | p :: ps, x :: env, h => by simp only [pencs, List.length_cons]; rw [pencs_len C ps env (by simpa using h)]
end
mutual
theorem hlt_dwk (m : Nat) : ∀ u : AV, hlt m (dwk u) = hlt m u
 | .agg cs => by simp only [dwk, hlt]; exact hlts_dwk m cs
 | .tup cs => by simp only [dwk, hlt]; exact hlts_dwk m cs
 | .fn f a c => by simp only [dwk, hlt, hlts_dwk m a, hlts_dwk m c]
 | .sl z n xs => by simp only [dwk, hlt]; exact hlts_dwk m xs
 | .ep xs off => by simp only [dwk, hlt]; exact hlts_dwk m xs
 | .gs k n => rfl
 | .pt k n => rfl
 | .bl b => rfl
 | .it k n => rfl
 | .st s => rfl
 | .nptr => rfl
 | .nfn => rfl
 | .un => rfl
 | .yld o => rfl
 | .rcd _ _ _ _ _ => rfl
theorem hlts_dwk (m : Nat) : ∀ l : List AV, hlts m (dwks l) = hlts m l
 | [] => rfl
 | u :: r => by simp only [dwks, hlts, hlt_dwk m u, hlts_dwk m r]
end
theorem hlt_tres {P : Program} {C : Cx K} (hC : CxOk P C) (r : List (DV K)) (m : Nat) : hlt m (tresA (r.map (dvA C))) = true := by
 have one : ∀ x : DV K, hlt m (dvA C x) = true := by
  intro x
  cases x with
  | v t y =>
    have h := hC.hl t y m
    show hlt m (match (C.T t).g with | true => .agg ((C.E t).c y) | false => ((C.E t).c y).headD .un) = true
    split
    ·simpa only [hlt] using h
    ·cases hq : (C.E t).c y with
     | nil => rfl
     | cons a b => rw [hq] at h; simp only [hlts, Bool.and_eq_true] at h; exact h.1
  | _ => rfl
 have all : ∀ l : List (DV K), hlts m (l.map (dvA C)) = true := by
  intro l
  induction l with
  | nil => rfl
  | cons x l ih => simp only [List.map_cons, hlts, one x, ih, Bool.and_self]
 match r with
 | [] => rfl
 | [x] => exact one x
 | x :: y :: l => have := all (x :: y :: l); simpa only [List.map_cons, tresA, hlt] using this
theorem DnF_ok {P : Program} {F : Cf K} (hC : CxOk P F.C) (hS : SsOk P F.C F.S) (hL : SLOk P F.C F.L) {f : FuncId} {c : AFn} (hF : trF P f = some c) {A : An K} {ps : List PD} {rs : List Nat} (hN : F.N = c.N) (hps : ps.length ≤ c.N) {env : List (AD K)} {r : List (DV K)} (hlen : env.length = ps.length) (hFs : ∀ G, AD.f G ∈ env → FOk P F.C G)
  (h : DnF F A c ps rs env r) (hI : IOk P F.I) (hY : F.Y = none) : Pure P f (pencs F.C ps env) (tresA (r.map (dvA F.C))) := by
 intro H n
 refine Contract.dwkR (Contract.shr (Post := fun av => dwk av = tresA (r.map (dvA F.C))) ?_ fun av hP m => by rw [← hlt_dwk, hP]; exact hlt_tres hC r m)
 refine contractK hF (by rw [pencs_len _ _ _ hlen]; exact hps) (pencs_noL hC ps env hFs) fun B _ hB => ?_
 let R : RR K := ⟨fun _ H' n' => H' = H ∧ n ≤ n', fun _ => false⟩
 let ks0 : KS := entK (pencs F.C ps env) H n
 let ts0 : TS K := ⟨entT F.C ps env 0, [], [], [], []⟩
 have hk0 : KOk ks0 := fun d b hb => by cases hb
 have hg0 : GM P F.C R ts0 (fun _ _ => false) (ofK ks0) := by
  refine ⟨fun t => entT_ok hC ps env 0 hlen hFs t, fun s c b hb _ => ?_, fun s c h => by (cases h), fun s _ => rfl, ⟨rfl, Nat.le_refl _⟩, fun s b _ hb => (by cases hb)⟩
  rcases tb_c hb with rfl | rfl <;> cases hb
 have hmain := Dn_ok hC A (ro := none) (R := R) (rY := 0) hB rfl hS hL hN hI (fun _ => rfl) (.inr fun _ _ _ _ q hm => ⟨q.1, Nat.le_trans q.2 hm⟩) (by rw [hY]; exact YOk.none) c.body _ ts0 _ ks0 hk0 hg0 (fun y e => by rw [hY] at e; cases e) h
 refine WK_post hmain fun e ks hk hq => ?_
 obtain ⟨_, ts, χ, hγ, _, hq⟩ := hq
 have fin : retD F.C c.res rs (fun x => eqR x r) .r ts → RE B c.N (toS ks) (retK c.res (fun av H' n' => dwk av = tresA (r.map (dvA F.C)) ∧ H' = H ∧ n ≤ n') .r) := by
  intro hq
  simp only [retD] at hq
  refine (retF_ok hB hC c.res 9 ts χ ks hk hγ).mono fun ks' ⟨hk', ξ, hγ'⟩ => ?_
  split at hq
  ·rename_i us hus
   obtain ⟨vs, h1, h2⟩ := resTs_ok hk' hγ' c.res us hus
   obtain ⟨xs, h3, h4, h5⟩ := outR_ok hC rs us vs _ hq h2
   have := eqR_ok h3
   subst this
   show wpv (resA (toS ks') c.res) _
   unfold resA
   rw [h1]
   have hA : ∀ (vs : List AV) (xs : List AV), noLs vs = true → dwks vs = xs → (match vs with | [u] => u | us => AV.tup us).noL = true ∧ dwk (match vs with | [u] => u | us => AV.tup us) = tresA xs := by
    intro vs xs hn hd
    match vs, hn, hd with
    | [], _, hd => subst hd; exact ⟨rfl, rfl⟩
    | [v], hn, hd => subst hd; exact ⟨by simpa [noLs] using hn, rfl⟩
    | v :: v' :: vs, hn, hd => subst hd; exact ⟨hn, rfl⟩
   obtain ⟨a1, a2⟩ := hA vs _ h4 h5
   exact ⟨a1, by rw [dwk_weak]; exact a2, hγ'.hp.1, hγ'.hp.2⟩
  ·exact hq.elim
 cases e with
 | x id => exact hq.elim
 | r => exact fin hq
 | n => exact fin hq
end Go.AV
end
noncomputable section
namespace Go.AV
open Go.RowKit Go.RG Go.Lib
variable {K : Nat → Type}
section
variable {P : Program} {C : Cx K} {ts : TS K} {χ : Nat → Nat → Bool}
theorem bT_BW {P : Program} {C : Cx K} {R : RR K} {ts : TS K} {χ : Nat → Nat → Bool} {ks : KS} (hk : KOk ks) (hγ : GM P C R ts χ (ofK ks)) {s : Nat} {b : TB K} (hb : lkB ts.od s = some b) (hx : χ s 1 = false) : BW (ks.M (.l s 1)) (some (bT C ts χ b)) := by
 obtain ⟨kb, h1, h2⟩ := hγ.mb s 1 b hb hx
 have h1' : lkO (someL ks.mem) s = some kb := h1
 rw [lkO_some] at h1'
 have : ks.M (.l s 1) = some kb.blk := by rw [M_l1, h1']; rfl
 rw [this]
 exact h2.canon (hk s kb h1').1
theorem TL_VWs {us : List (TV K)} {vs : List AV} (t : TL P C ts χ us vs) : VWs vs (aTs C ts χ us) := by
 refine ⟨by rw [aTs_map, List.length_map]; exact t.1, fun j u v p q => ?_⟩
 rw [aTs_map, List.getElem?_map] at q
 obtain ⟨x, e1, rfl⟩ := Option.map_eq_some_iff.1 q
 exact (t.2 j x u e1 p).canon
theorem tres_eq (vs : List AV) : (match vs with | [u] => u | us => AV.tup us) = tresA vs := by
 cases vs with
 | nil => rfl
 | cons a r => cases r <;> rfl
theorem VW_tres {vs ws : List AV} (h : VWs vs ws) : VW (tresA vs) (tresA ws) := by
 match vs, ws, h with
 | [], [], h => exact VW.tup h
 | [v], [w], h => exact h.2 0 v w rfl rfl
 | v :: v' :: r, w :: w' :: q, h => exact VW.tup h
 | [], _ :: _, h => simp [VWs] at h
 | _ :: _, [], h => simp [VWs] at h
 | [_], _ :: _ :: _, h => simp [VWs] at h
 | _ :: _ :: _, [_], h => simp [VWs] at h
def endS (C : Cx K) (t : TS K) (χ : Nat → Nat → Bool) (S : St) : St := { S with M := fun k => match k with
 | .h o => S.M (.h o)
 | .l d c => if c = 1 then (match lkB t.od d with
   | some b => if χ d 1 = true then S.M (.l d c) else some (bT C t χ b)
   | none => S.M (.l d c)) else S.M (.l d c) }
theorem BW.refl {S : St} {k : Key} (h : ∀ b, S.M k = some b → b.sz ≠ 0) : BW (S.M k) (S.M k) := by
 cases hb : S.M k with
 | none => trivial
 | some b => exact ⟨h b hb, rfl, rfl, rfl, fun j u v p q => by rw [p] at q; cases q; exact VW.refl _⟩
end
theorem DnL_ok {P : Program} {F : Cf K} (hC : CxOk P F.C) (hS : SsOk P F.C F.S) (hL : SLOk P F.C F.L) {f : FuncId} {c : AFn} (hF : trF P f = some c) {A : An K} {sp : Sl K} (hf : sp.f = f) (hN : F.N = c.N) (hres : c.res = sp.res) (hnp : npL sp ≤ c.N)
  {fs : List (FV K)} {env out : List (DV K)} (hE : okS sp env = true) (hfs : ∀ G ∈ fs, FOk P F.C G) (h : DnL F A c sp fs env out) (hI : F.I = []) (hY : F.Y = none) {χ : Nat → Nat → Bool} (hv : ViOk (entL F.C sp fs env) χ) (H : Hp) (n : Nat) :
  LContract P sp.f (argT F.C sp (entL F.C sp fs env) χ) (memT F.C (entL F.C sp fs env) χ) H n (EndL F.C sp (entL F.C sp fs env) χ out H n) := by
 subst hf
 let R : RR K := ⟨fun _ H' n' => H' = H ∧ n' = n, fun s => χ s 1⟩
 obtain ⟨g0, k0, m0⟩ := ent_ok (R := R) (H := H) (n := n) hC hE hfs hv ⟨rfl, rfl⟩ rfl
 have hal : (argT F.C sp (entL F.C sp fs env) χ).length ≤ c.N := by unfold argT; simpa using hnp
 have main := lcontractK (Post := fun av ks => ∃ ξ env' us vs, wt (ctT sp.to) env' = true ∧ GM P F.C R (bdT F.C sp.to [] [] env') ξ (ofK ks) ∧ kpt (entL F.C sp fs env) (bdT F.C sp.to [] [] env') sp.kp (eqDV (selL sp env') out) ∧
   resTs (bdT F.C sp.to [] [] env') sp.res = some us ∧ TL P F.C (bdT F.C sp.to [] [] env') ξ us vs ∧ av = tresA vs) hF hal m0 k0 fun B _ hB => by
  have hmain := Dn_ok hC A (ro := none) (R := R) (rY := 0) hB rfl hS hL hN (by rw [hI]; intro f c h; cases h) (fun _ => rfl) (.inl hI) (by rw [hY]; exact YOk.none) c.body _ _ χ _ k0 g0 (fun y e => by rw [hY] at e; cases e) h
  refine WK_post hmain fun e ks hk hq => ?_
  obtain ⟨_, ts, χ', hγ, hx, hq⟩ := hq
  have fin : rdJ F.C sp.to (frF F.C sp ts) (fun env' => match resTs (bdT F.C sp.to [] [] env') sp.res with | some _ => kpt (entL F.C sp fs env) (bdT F.C sp.to [] [] env') sp.kp (eqDV (selL sp env') out) | none => False) → RE B c.N (toS ks) (retLK c.res (fun av ks => ∃ ξ env' us vs, wt (ctT sp.to) env' = true ∧ GM P F.C R (bdT F.C sp.to [] [] env') ξ (ofK ks) ∧ kpt (entL F.C sp fs env) (bdT F.C sp.to [] [] env') sp.kp (eqDV (selL sp env') out) ∧
    resTs (bdT F.C sp.to [] [] env') sp.res = some us ∧ TL P F.C (bdT F.C sp.to [] [] env') ξ us vs ∧ av = tresA vs) .r) := by
   intro hq
   have hfr : REk P F.C R B c.N ts (frF F.C sp ts) := by
    unfold frF
    split
    ·exact retF_ok hB hC sp.res 9 ts
    ·exact .refl
   refine RE.bind (hfr χ' ks hk hγ) fun ks0 hk ⟨_, ξ0, hγ⟩ => ?_
   refine (rdJ_ok (rg := []) (hh := []) (fun _ _ h => h) hB hC hk hγ (fun id w q => by cases q) (rdJ_wt hq)).mono fun ks' ⟨env', ⟨h0, h1⟩, h2, ξ, h3⟩ => ?_
   cases hu : resTs (bdT F.C sp.to [] [] env') sp.res with
   | none => rw [hu] at h1; exact h1.elim
   | some us =>
     rw [hu] at h1
     obtain ⟨vs, r1, r2⟩ := resTs_ok h2 h3 c.res us (by rw [hres]; exact hu)
     show wpv (resA (toS ks') c.res) _
     unfold resA
     rw [r1]
     exact ⟨ξ, env', us, vs, h0, h3, h1, hu, r2, tres_eq vs⟩
  cases e with
  | x id => exact hq.elim
  | r => exact fin hq
  | n => exact fin hq
 rw [memK_T] at main
 refine main.canon ?_
 rintro av S1 ⟨ks, rfl, hk, ξ, env', us, vs, h0, h1, h2, hus, h4, rfl⟩
 refine ⟨_, endS F.C (bdT F.C sp.to [] [] env') ξ (toS ks), VW_tres (TL_VWs h4), rfl, rfl, fun o => rfl, fun d c' => ?_, env', ξ, h0, h2, h1.vi, fun s b q hb => (h1.lv s b q hb).symm, ⟨us, hus, rfl⟩, h1.hp.1, h1.hp.2, fun d => rfl, fun s b hb hx => ?_⟩
 ·have hz : ∀ b, (toS ks).M (.l d c') = some b → b.sz ≠ 0 := by
   intro b hb
   obtain ⟨rfl, kb, e1, rfl⟩ := M_lc ks hb
   exact (hk d kb e1).1
  show BW _ (if c' = 1 then _ else _)
  split
  ·rename_i e; subst e
   split
   ·rename_i b hb
    split
    ·exact BW.refl hz
    ·rename_i hx; exact bT_BW hk h1 hb (by simpa using hx)
   ·exact BW.refl hz
  ·exact BW.refl hz
 ·simp only [endS, hb, hx, Bool.false_eq_true, if_false, if_true]
theorem outC_inC {c : CT} {x : DV K} {y : CTy K c} (h : outC c x = some y) : x = inC c y := by
 cases c with
 | i => cases x <;> simp only [outC, outI] at h <;> cases h; rfl
 | b => cases x <;> simp only [outC, outBo] at h <;> cases h; rfl
 | s => cases x <;> simp only [outC, outS] at h <;> cases h; rfl
 | l e =>
   cases x with
   | l e' l =>
     simp only [outC, outL] at h
     obtain ⟨rfl, rfl⟩ := castL_out h
     rfl
   | _ => simp only [outC, outL] at h; cases h
 | v t =>
   cases x with
   | v t' x =>
     simp only [outC, outT] at h
     split at h
     ·rename_i e; subst e; cases h; rfl
     ·cases h
   | _ => simp only [outC, outT] at h; cases h
theorem apOut_n {f : Cur K Prop []} {out : List (DV K)} (h : apOut [] f out) : out = [] ∧ f := by
 cases out with
 | nil => exact ⟨rfl, h⟩
 | cons x r => exact h.elim
theorem apOut_c {c : CT} {co : List CT} {f : Cur K Prop (c :: co)} {out : List (DV K)} (h : apOut (c :: co) f out) : ∃ (y : CTy K c) (r : List (DV K)), out = inC c y :: r ∧ apOut co (f y) r := by
 cases out with
 | nil => exact h.elim
 | cons x r =>
   have h : (match outC c x with | some y => apOut co (f y) r | none => False) := h
   revert h
   cases e : outC c x with
   | none => exact fun h => h.elim
   | some y => exact fun h => ⟨y, r, by rw [outC_inC e], h⟩
theorem apIn_n {co : List CT} {f : Cur K (Cur K Prop co) []} {env out : List (DV K)} (h : apIn co [] f env out) : env = [] ∧ apOut co f out := by
 cases env with
 | nil => exact ⟨rfl, h⟩
 | cons x r => exact h.elim
theorem apIn_c {co : List CT} {c : CT} {ci : List CT} {f : Cur K (Cur K Prop co) (c :: ci)} {env out : List (DV K)} (h : apIn co (c :: ci) f env out) : ∃ (y : CTy K c) (r : List (DV K)), env = inC c y :: r ∧ apIn co ci (f y) r out := by
 cases env with
 | nil => exact h.elim
 | cons x r =>
   have h : (match outC c x with | some y => apIn co ci (f y) r out | none => False) := h
   revert h
   cases e : outC c x with
   | none => exact fun h => h.elim
   | some y => exact fun h => ⟨y, r, by rw [outC_inC e], h⟩
theorem apFs_n {ci co : List CT} {f : FsTy K (Cur K (Cur K Prop co) ci) []} {fs : List (FV K)} {env out : List (DV K)} (h : apFs ci co [] f fs env out) : fs = [] ∧ apIn co ci f env out := by
 cases fs with
 | nil => exact ⟨rfl, h⟩
 | cons x r => exact h.elim
def SlC (P : Program) (C : Cx K) (sp : Sl K) (fs : List (FV K)) (env out : List (DV K)) : Prop := ∀ χ, ViOk (entL C sp fs env) χ → ∀ H n, LContract P sp.f (argT C sp (entL C sp fs env) χ) (memT C (entL C sp fs env) χ) H n (EndL C sp (entL C sp fs env) χ out H n)
theorem DnL_by {P : Program} {F : Cf K} (hC : CxOk P F.C) (hS : SsOk P F.C F.S) (hL : SLOk P F.C F.L) {f : FuncId} {c : AFn} (hF : trF P f = some c) {A : An K} {sp : Sl K} (hf : sp.f = f) (hN : F.N = c.N) (hres : c.res = sp.res) (hnp : npL sp ≤ c.N)
  {fs : List (FV K)} {env out : List (DV K)} (hE : okS sp env = true) (hfs : ∀ G ∈ fs, FOk P F.C G) {X : Prop} (h : X) (e : X = DnL F A c sp fs env out) (hI : F.I = [] := by rfl) (hY : F.Y = none := by rfl) : SlC P F.C sp fs env out := fun χ hv H n => DnL_ok hC hS hL hF hf hN hres hnp hE hfs (e ▸ h) hI hY hv H n
theorem SLOk_n {P : Program} {C : Cx K} : SLOk P C [] := fun sp h => by cases h
theorem SLOk_c {P : Program} {C : Cx K} {sp : Sl K} {l : List (Sl K)} (h : SlOk P C sp) (k : SLOk P C l) : SLOk P C (sp :: l) := fun q hq => by
 rcases List.mem_cons.1 hq with rfl | hq
 ·exact h
 ·exact k q hq
end Go.AV
end
noncomputable section
namespace Go.AV
open Go.RowKit Go.RG Go.Lib
variable {K : Nat → Type}
theorem cnd_mono {c : Bool} {a b a' b' : Prop} (h : cnd c a b) (ha : a → a') (hb : b → b') : cnd c a' b' := ⟨fun e => ha (h.1 e), fun e => hb (h.2 e)⟩
structure Tb (K : Nat → Type) (X : Type) where
 g : Bool
 c : X → List (TV K)
 rd : List (TV K) → Option X
 tb : Option (X → UInt8)
 ob : Option (UInt8 → X)
 fl : Bool
 E : Enc X
structure TbOk (P : Program) (C : Cx K) {X : Type} (b : Tb K X) : Prop where
 c : ∀ (x : X) ts χ, ((b.E).c x).length = (b.c x).length ∧ ∀ (j : Nat) (u : TV K) (v : AV), (b.c x)[j]? = some u → (b.E.c x)[j]? = some v → TR P C ts χ u v
 rd : ∀ (cs : List (TV K)) (x : X) ts χ (vs : List AV), b.rd cs = some x → vs.length = cs.length → (∀ (j : Nat) (u : TV K) (v : AV), cs[j]? = some u → vs[j]? = some v → TR P C ts χ u v) → dwks vs = b.E.c x
 g : b.g = false → b.E.sz = 1
 dw : ∀ x : X, dwks (b.E.c x) = b.E.c x
 tb : ∀ f, b.tb = some f → ∀ x, ∃ n, b.E.c x = [.it .u8 n] ∧ f x = UInt8.ofNat n.toNat
 ob : ∀ f, b.ob = some f → ∀ y : UInt8, b.E.c (f y) = [.it .u8 y.toNat]
 fl : b.fl = true → ∀ x : X, flats (b.E.c x) = true
 nr : ∀ x, norefVs (b.c x) = true
 hl : ∀ x m, hlts m (b.E.c x) = true
def tbI (k : IntKind) : Tb K Int := ⟨false, fun n => [.it k n], fun cs => match cs with
 | [u] => match tint u with
   | some (k', n) => if k' = k then some n else none
   | none => none
 | _ => none, (match k with | .u8 => some toB | _ => none), (match k with | .u8 => some ofB | _ => none), true, eI k⟩
def tbB : Tb K Bool := ⟨false, fun b => [.bl b], fun cs => match cs with
 | [u] => tbo u
 | _ => none, none, none, true, eB⟩
def tbL (e : Nat) (E : Enc (K e)) : Tb K (List (K e)) := ⟨false, fun l => [.sl e l], fun cs => match cs with
 | [.sl e' l] => castL e' e l
 | [.nil] => some []
 | [.em] => some []
 | _ => none, none, none, false, eSl E⟩
def tbCat {A B : Type} (a : Tb K A) (b : Tb K B) : Tb K (A × B) := ⟨true, fun x => a.c x.1 ++ b.c x.2, fun cs => match a.rd (cs.take a.E.sz), b.rd (cs.drop a.E.sz) with
 | some x, some y => some (x, y)
 | _, _ => none, none, none, a.fl && b.fl, ⟨fun x => a.E.c x.1 ++ b.E.c x.2, a.E.sz + b.E.sz, by have := a.E.pos; omega, fun x => by rw [List.length_append, a.E.len, b.E.len], fun x => by rw [noLs_app, a.E.no, b.E.no]; rfl, fun x => by rw [List.all_append, a.E.one, b.E.one]; rfl⟩⟩
def tbIso {A X : Type} (a : Tb K A) (f : X → A) (g : A → X) (E : Enc X) : Tb K X := ⟨true, fun x => a.c (f x), fun cs => match a.rd cs with
 | some y => some (g y)
 | none => none, none, none, a.fl, E⟩
def encIso {A X : Type} (a : Enc A) (f : X → A) : Enc X := ⟨fun x => a.c (f x), a.sz, a.pos, fun x => a.len _, fun x => a.no _, fun x => a.one _⟩
def tbU : Tb K Unit := ⟨false, fun _ => [.lb true], fun _ => none, none, none, false, ⟨fun _ => [.bl true], 1, by omega, fun _ => rfl, fun _ => rfl, fun _ => rfl⟩⟩
theorem hlts_app (m : Nat) (a b : List AV) : hlts m (a ++ b) = (hlts m a && hlts m b) := by
 induction a with
 | nil => simp [hlts]
 | cons x a ih => simp [hlts, ih, Bool.and_assoc]
theorem cl_hl {T : Type} {E : Enc T} (h : ∀ x m, hlts m (E.c x) = true) (l : List T) (m : Nat) : hlts m (cl E l) = true := by
 induction l with
 | nil => rfl
 | cons x l ih => show hlts m (E.c x ++ cl E l) = true; rw [hlts_app, h, ih]; rfl
theorem eSl_hl {T : Type} {E : Enc T} (h : ∀ x m, hlts m (E.c x) = true) : ∀ l m, hlts m ((eSl E).c l) = true := fun l m => by
 show hlts m [slA E l] = true
 simp only [hlts, slA, hlt, cl_hl h, Bool.and_true]
section
variable {P : Program} {C : Cx K}
theorem at1 {α : Type} {x u : α} {j : Nat} (h : [x][j]? = some u) : j = 0 ∧ u = x := by
 cases j with
 | zero => simp at h; exact ⟨rfl, h.symm⟩
 | succ j => simp at h
theorem len1 {α : Type} {l : List α} (h : l.length = 1) : ∃ x, l = [x] := by
 match l, h with
 | [x], _ => exact ⟨x, rfl⟩
theorem tbI_ok (k : IntKind) : TbOk P C (tbI k : Tb K Int) := by
 refine ⟨fun x ts χ => ⟨rfl, fun j u v hu hv => ?_⟩, fun cs x ts χ vs h hl ht => ?_, fun _ => rfl, fun _ => rfl, fun f hf x => ?_, fun f hf x => ?_, fun _ _ => rfl, fun _ => rfl, fun _ _ => rfl⟩
 ·obtain ⟨rfl, rfl⟩ := at1 hu; obtain ⟨_, rfl⟩ := at1 hv; exact .it k x
 ·simp only [tbI] at h
  split at h
  ·rename_i u
   obtain ⟨v, rfl⟩ := len1 hl
   split at h
   ·rename_i k' n hn
    split at h
    ·rename_i e; cases h; subst e; rw [TR.int (ht 0 _ _ rfl rfl) hn]; rfl
    ·cases h
   ·cases h
  ·cases h
 ·cases k <;> simp [tbI] at hf; subst hf; exact ⟨x, rfl, rfl⟩
 ·cases k <;> simp [tbI] at hf; subst hf; rfl
theorem tbB_ok : TbOk P C (tbB : Tb K Bool) := by
 refine ⟨fun x ts χ => ⟨rfl, fun j u v hu hv => ?_⟩, fun cs x ts χ vs h hl ht => ?_, fun _ => rfl, fun _ => rfl, fun f hf x => (by cases hf), fun f hf x => (by cases hf), fun _ _ => rfl, fun _ => rfl, fun _ _ => rfl⟩
 ·obtain ⟨rfl, rfl⟩ := at1 hu; obtain ⟨_, rfl⟩ := at1 hv; exact .bl x
 ·simp only [tbB] at h
  split at h
  ·obtain ⟨v, rfl⟩ := len1 hl; rw [TR.bool (ht 0 _ _ rfl rfl) h]; rfl
  ·cases h
theorem cl_dw {T : Type} {E : Enc T} (h : ∀ x, dwks (E.c x) = E.c x) (l : List T) : dwks (cl E l) = cl E l := by
 induction l with
 | nil => rfl
 | cons x l ih => show dwks (E.c x ++ cl E l) = E.c x ++ cl E l; rw [dwks_app, h, ih]
theorem tbL_ok (e : Nat) {E : Enc (K e)} (hE : C.E e = E) (hd : ∀ x, dwks (E.c x) = E.c x) (hh : ∀ x m, hlts m (E.c x) = true) : TbOk P C (tbL e E) := by
 refine ⟨fun x ts χ => ⟨rfl, fun j u v hu hv => ?_⟩, fun cs x ts χ vs h hl ht => ?_, fun _ => rfl, fun x => ?_, fun f hf x => (by cases hf), fun f hf x => (by cases hf), fun h => (by cases h), fun _ => rfl, fun x m => eSl_hl hh x m⟩
 ·obtain ⟨rfl, rfl⟩ := at1 hu; obtain ⟨_, rfl⟩ := at1 hv; exact .sl e x false _ _ rfl (by rw [hE]; exact cl_dw hd x)
 ·simp only [tbL] at h
  split at h
  ·obtain ⟨v, rfl⟩ := len1 hl
   obtain ⟨rfl, h⟩ := castL_out h
   obtain ⟨z, xs, h1, rfl⟩ := (ht 0 _ _ rfl rfl).sli
   subst h
   show [dwk (AV.sl z _ xs)] = _
   simp only [dwk, h1, hE]; rfl
  ·obtain ⟨v, rfl⟩ := len1 hl; cases h
   have := ht 0 _ _ rfl rfl
   cases this; rfl
  ·obtain ⟨v, rfl⟩ := len1 hl; cases h
   have := ht 0 _ _ rfl rfl
   cases this; rfl
  ·cases h
 ·show [dwk (slA E x)] = [slA E x]
  simp only [slA, dwk, cl_dw hd]
theorem flats_app (a b : List AV) : flats (a ++ b) = (flats a && flats b) := by
 induction a with
 | nil => simp [flats]
 | cons x a ih => simp [flats, ih, Bool.and_assoc]
theorem norefVs_app (a b : List (TV K)) : norefVs (a ++ b) = (norefVs a && norefVs b) := by
 induction a with
 | nil => simp [norefVs]
 | cons x a ih => simp [norefVs, ih, Bool.and_assoc]
theorem tbCat_ok {A B : Type} {a : Tb K A} {b : Tb K B} (ha : TbOk P C a) (hb : TbOk P C b) : TbOk P C (tbCat a b) := by
 refine ⟨fun x ts χ => ?_, fun cs x ts χ vs h hl ht => ?_, fun h => (by cases h), fun x => ?_, fun f hf x => (by cases hf), fun f hf x => (by cases hf), fun h x => ?_, fun x => ?_, fun x m => by show hlts m (a.E.c x.1 ++ b.E.c x.2) = true; rw [hlts_app, ha.hl, hb.hl]; rfl⟩
 ·exact TL.app (ts := ts) (χ := χ) (P := P) (C := C) (us := a.c x.1) (us' := b.c x.2) (vs := a.E.c x.1) (vs' := b.E.c x.2) (ha.c x.1 ts χ) (hb.c x.2 ts χ)
 ·simp only [tbCat] at h
  split at h
  ·rename_i x1 y1 h1 h2
   cases h
   have t : TL P C ts χ cs vs := ⟨hl, ht⟩
   have e1 := ha.rd _ _ ts χ _ h1 (t.take a.E.sz).1 (t.take a.E.sz).2
   have e2 := hb.rd _ _ ts χ _ h2 (t.drop a.E.sz).1 (t.drop a.E.sz).2
   show dwks vs = a.E.c x1 ++ b.E.c y1
   rw [← e1, ← e2, ← dwks_app, List.take_append_drop]
  ·cases h
 ·show dwks (a.E.c x.1 ++ b.E.c x.2) = _; rw [dwks_app, ha.dw, hb.dw]; rfl
 ·have h' : (a.fl && b.fl) = true := h
  rw [Bool.and_eq_true] at h'
  show flats (a.E.c x.1 ++ b.E.c x.2) = true
  rw [flats_app, ha.fl h'.1, hb.fl h'.2]; rfl
 ·show norefVs (a.c x.1 ++ b.c x.2) = true; rw [norefVs_app, ha.nr, hb.nr]; rfl
theorem tbIso_ok {A X : Type} {a : Tb K A} {f : X → A} {g : A → X} {E : Enc X} (ha : TbOk P C a) (hfg : ∀ y, f (g y) = y) (hE : ∀ x, E.c x = a.E.c (f x)) : TbOk P C (tbIso a f g E) := by
 refine ⟨fun x ts χ => ?_, fun cs x ts χ vs h hl ht => ?_, fun h => (by cases h), fun x => ?_, fun f hf x => (by cases hf), fun f hf x => (by cases hf), fun h x => ?_, fun x => ha.nr (f x), fun x m => by show hlts m (E.c x) = true; rw [hE]; exact ha.hl _ m⟩
 ·have := ha.c (f x) ts χ; rw [← hE] at this; exact this
 ·simp only [tbIso] at h
  split at h
  ·rename_i y hy; cases h; show dwks vs = E.c (g y); rw [hE, hfg]; exact ha.rd _ _ ts χ _ hy hl ht
  ·cases h
 ·show dwks (E.c x) = E.c x; rw [hE]; exact ha.dw _
 ·show flats (E.c x) = true; rw [hE]; exact ha.fl h _
theorem tbU_ok : TbOk P C (tbU : Tb K Unit) := by
 refine ⟨fun x ts χ => ⟨rfl, fun j u v hu hv => ?_⟩, fun cs x ts χ vs h hl ht => (by cases h), fun _ => rfl, fun _ => rfl, fun f hf x => (by cases hf), fun f hf x => (by cases hf), fun h => (by cases h), fun _ => rfl, fun _ _ => rfl⟩
 obtain ⟨rfl, rfl⟩ := at1 hu; obtain ⟨_, rfl⟩ := at1 hv; exact .lb true
end
section
variable {TC : Type} {KF : TC → Type} {code : Nat → TC}
def cxOf (TF : (c : TC) → Tb (fun t => KF (code t)) (KF c)) : Cx (fun t => KF (code t)) :=
 ⟨fun t => ⟨(TF (code t)).g, (TF (code t)).c, (TF (code t)).rd, (TF (code t)).tb, (TF (code t)).ob, (TF (code t)).fl⟩, fun t => (TF (code t)).E⟩
theorem cxOf_ok {P : Program} {TF : (c : TC) → Tb (fun t => KF (code t)) (KF c)} (h : ∀ c, TbOk P (cxOf TF) (TF c)) : CxOk P (cxOf TF) :=
 ⟨fun t x ts χ => (h (code t)).c x ts χ, fun t cs x ts χ vs a b c => (h (code t)).rd cs x ts χ vs a b c, fun t e => (h (code t)).g e, fun t x => (h (code t)).dw x, fun t f e => (h (code t)).tb f e, fun t f e => (h (code t)).ob f e, fun t e => (h (code t)).fl e, fun t x => (h (code t)).nr x, fun t => (h _).hl⟩
def lkC (d : TC) : List (Nat × TC) → Nat → TC
 | [], _ => d
 | p :: r, t => match Nat.beq p.1 t with
   | true => p.2
   | false => lkC d r t
end
theorem appW_v {rs : List Nat} {p : Nat} {ps : List PD} {w : WTy K rs (.v p :: ps)} {a : List (AD K)} {b : List (DV K)} (h : appW rs (.v p :: ps) w a b) : ∃ (x : K p) (a' : List (AD K)), a = .d (.v p x) :: a' ∧ appW rs ps (w x) a' b := by
 cases a with
 | nil => exact h.elim
 | cons u a' =>
   simp only [appW] at h
   split at h
   ·rename_i y hy
    cases u with
    | f F => simp [outP] at hy
    | d x =>
      cases x with
      | v t x =>
        simp only [outP] at hy
        split at hy
        ·rename_i e; subst e; cases hy; exact ⟨x, a', rfl, h⟩
        ·cases hy
      | _ => simp [outP] at hy
   ·exact h.elim
theorem appW_p {rs : List Nat} {p : Nat} {ps : List PD} {w : WTy K rs (.p p :: ps)} {a : List (AD K)} {b : List (DV K)} (h : appW rs (.p p :: ps) w a b) : ∃ (x : K p) (a' : List (AD K)), a = .d (.v p x) :: a' ∧ appW rs ps (w x) a' b := by
 cases a with
 | nil => exact h.elim
 | cons u a' =>
   simp only [appW] at h
   split at h
   ·rename_i y hy
    cases u with
    | f F => simp [outP] at hy
    | d x =>
      cases x with
      | v t x =>
        simp only [outP] at hy
        split at hy
        ·rename_i e; subst e; cases hy; exact ⟨x, a', rfl, h⟩
        ·cases hy
      | _ => simp [outP] at hy
   ·exact h.elim
theorem appW_f {rs az bs : List Nat} {ps : List PD} {w : WTy K rs (.f az bs :: ps)} {a : List (AD K)} {b : List (DV K)} (h : appW rs (.f az bs :: ps) w a b) : ∃ (F : FV K) (a' : List (AD K)), a = .f F :: a' ∧ appW rs ps (w (curF bs az F.W)) a' b := by
 cases a with
 | nil => exact h.elim
 | cons u a' =>
   simp only [appW] at h
   split at h
   ·rename_i y hy
    cases u with
    | f F => simp only [outP] at hy; cases hy; exact ⟨F, a', rfl, h⟩
    | d x => cases x <;> simp [outP] at hy
   ·exact h.elim
theorem appW_n {rs : List Nat} {w : WTy K rs []} {a : List (AD K)} {b : List (DV K)} (h : appW rs [] w a b) : a = [] ∧ apR rs w b := by
 cases a with
 | nil => exact ⟨rfl, h⟩
 | cons u a' => exact h.elim
theorem apR_v {r : Nat} {rs : List Nat} {w : RTy K (r :: rs)} {b : List (DV K)} (h : apR (r :: rs) w b) : ∃ (x : K r) (b' : List (DV K)), b = .v r x :: b' ∧ apR rs (w x) b' := by
 cases b with
 | nil => exact h.elim
 | cons u b' =>
   cases u with
   | v t x =>
     have h' : (if e : t = r then apR rs (w (e ▸ x)) b' else False) := h
     by_cases e : t = r
     ·subst e; rw [dif_pos rfl] at h'; exact ⟨x, b', rfl, h'⟩
     ·rw [dif_neg e] at h'; exact h'.elim
   | _ => exact h.elim
theorem apR_n {w : RTy K []} {b : List (DV K)} (h : apR [] w b) : b = [] ∧ w := by
 cases b with
 | nil => exact ⟨rfl, h⟩
 | cons u b' => exact h.elim
theorem IOk_n {P : Program} : IOk P [] := fun f c h => by cases h
theorem IOk_c {P : Program} {f : Nat} {c : AFn} {l : List (Nat × AFn)} (h : trF P f = some c) (k : IOk P l) : IOk P ((f, c) :: l) := fun g d e => by
 simp only [lkI] at e
 split at e
 ·rename_i q; rw [← nbeq.1 q]; cases e; exact h
 ·exact k g d e
def kps (a : Nat) : Nat → List Kd
 | 0 => []
 | n + 1 => .kp a :: kps (a + 1) n
def huR : (rs : List Nat) → RTy K rs → (List (DV K) → Prop) → Prop
 | [], w, D => @Eq Prop w (D [])
 | r :: rs, w, D => ∀ x : K r, huR rs (w x) fun b => D (.v r x :: b)
def huW (rs : List Nat) : (ps : List PD) → WTy K rs ps → (List (AD K) → List (DV K) → Prop) → Prop
 | [], w, D => huR rs w (D [])
 | .v p :: ps, w, D => ∀ x : K p, huW rs ps (w x) fun a => D (.d (.v p x) :: a)
 | .p p :: ps, w, D => ∀ x : K p, huW rs ps (w x) fun a => D (.d (.v p x) :: a)
 | .f az bs :: ps, w, D => ∀ F : FV K, huW rs ps (w (curF bs az F.W)) fun a => D (.f F :: a)
theorem huR_ok : ∀ {rs : List Nat} {w : RTy K rs} {D : List (DV K) → Prop} {b : List (DV K)}, huR rs w D → apR rs w b → D b
 | [], w, D, b, e, h => by
   obtain ⟨rfl, h⟩ := apR_n h
   have e : @Eq Prop w (D []) := e
   exact e ▸ h
 | r :: rs, w, D, b, e, h => by
   obtain ⟨x, b', rfl, k⟩ := apR_v h
   exact huR_ok (rs := rs) (w := w x) (D := fun b => D (.v r x :: b)) (e x) k
theorem huW_ok {rs : List Nat} : ∀ {ps : List PD} {w : WTy K rs ps} {D : List (AD K) → List (DV K) → Prop} {a : List (AD K)} {b : List (DV K)}, huW rs ps w D → appW rs ps w a b → a.length = ps.length ∧ D a b
 | [], w, D, a, b, e, h => by
   obtain ⟨rfl, h⟩ := appW_n h
   exact ⟨rfl, huR_ok (w := w) e h⟩
 | .v p :: ps, w, D, a, b, e, h => by
   obtain ⟨x, a', rfl, k⟩ := appW_v h
   obtain ⟨h1, h2⟩ := huW_ok (ps := ps) (w := w x) (D := fun a => D (.d (.v p x) :: a)) (e x) k
   exact ⟨by simp [h1], h2⟩
 | .p p :: ps, w, D, a, b, e, h => by
   obtain ⟨x, a', rfl, k⟩ := appW_p h
   obtain ⟨h1, h2⟩ := huW_ok (ps := ps) (w := w x) (D := fun a => D (.d (.v p x) :: a)) (e x) k
   exact ⟨by simp [h1], h2⟩
 | .f az bs :: ps, w, D, a, b, e, h => by
   obtain ⟨F, a', rfl, k⟩ := appW_f h
   obtain ⟨h1, h2⟩ := huW_ok (ps := ps) (w := w (curF bs az F.W)) (D := fun a => D (.f F :: a)) (e F) k
   exact ⟨by simp [h1], h2⟩
theorem SpOk_by {P : Program} {F : Cf K} (hC : CxOk P F.C) (hS : SsOk P F.C F.S) (hL : SLOk P F.C F.L) {f : FuncId} {c : AFn} (hF : trF P f = some c) {A : An K} {ps : List PD} {rs : List Nat} {w : WTy K rs ps} (hN : F.N = c.N) (hps : Nat.ble ps.length c.N = true) (e : huW rs ps w (DnF F A c ps rs)) (hI : IOk P F.I := by exact IOk_n) (hY : F.Y = none := by rfl) : SpOk P F.C ⟨f, ps, rs, appW rs ps w⟩ := fun env r hFs h => by
 obtain ⟨h1, h2⟩ := huW_ok e h
 exact ⟨h1, DnF_ok hC hS hL hF hN (Nat.le_of_ble_eq_true hps) h1 hFs h2 hI hY⟩
theorem SsOk_n {P : Program} {C : Cx K} : SsOk P C [] := fun sp h => by cases h
theorem SsOk_c {P : Program} {C : Cx K} {sp : Sp K} {l : List (Sp K)} (h : SpOk P C sp) (k : SsOk P C l) : SsOk P C (sp :: l) := fun q hq => by
 rcases List.mem_cons.1 hq with rfl | hq
 ·exact h
 ·exact k q hq
end Go.AV
end
noncomputable section
namespace Go.Proofs.Ytnlhnefjjblpcab
open Go.AV
def c3 : AFn := cF Try.prog 3
theorem t3 : trF Try.prog 3 = some c3 := tF (by kernel_rfl)
def c4 : AFn := cF Try.prog 4
theorem t4 : trF Try.prog 4 = some c4 := tF (by kernel_rfl)
def c5 : AFn := cF Try.prog 5
theorem t5 : trF Try.prog 5 = some c5 := tF (by kernel_rfl)
def c6 : AFn := cF Try.prog 6
theorem t6 : trF Try.prog 6 = some c6 := tF (by kernel_rfl)
def c7 : AFn := cF Try.prog 7
theorem t7 : trF Try.prog 7 = some c7 := tF (by kernel_rfl)
def c8 : AFn := cF Try.prog 8
theorem t8 : trF Try.prog 8 = some c8 := tF (by kernel_rfl)
def c9 : AFn := cF Try.prog 9
theorem t9 : trF Try.prog 9 = some c9 := tF (by kernel_rfl)
def c10 : AFn := cF Try.prog 10
theorem t10 : trF Try.prog 10 = some c10 := tF (by kernel_rfl)
def c11 : AFn := cF Try.prog 11
theorem t11 : trF Try.prog 11 = some c11 := tF (by kernel_rfl)
def c12 : AFn := cF Try.prog 12
theorem t12 : trF Try.prog 12 = some c12 := tF (by kernel_rfl)
def c13 : AFn := cF Try.prog 13
theorem t13 : trF Try.prog 13 = some c13 := tF (by kernel_rfl)
def c14 : AFn := cF Try.prog 14
theorem t14 : trF Try.prog 14 = some c14 := tF (by kernel_rfl)
def c15 : AFn := cF Try.prog 15
theorem t15 : trF Try.prog 15 = some c15 := tF (by kernel_rfl)
def c16 : AFn := cF Try.prog 16
theorem t16 : trF Try.prog 16 = some c16 := tF (by kernel_rfl)
def c17 : AFn := cF Try.prog 17
theorem t17 : trF Try.prog 17 = some c17 := tF (by kernel_rfl)
def c18 : AFn := cF Try.prog 18
theorem t18 : trF Try.prog 18 = some c18 := tF (by kernel_rfl)
def c19 : AFn := cF Try.prog 19
theorem t19 : trF Try.prog 19 = some c19 := tF (by kernel_rfl)
def c20 : AFn := cF Try.prog 20
theorem t20 : trF Try.prog 20 = some c20 := tF (by kernel_rfl)
def c21 : AFn := cF Try.prog 21
theorem t21 : trF Try.prog 21 = some c21 := tF (by kernel_rfl)
def c22 : AFn := cF Try.prog 22
theorem t22 : trF Try.prog 22 = some c22 := tF (by kernel_rfl)
def c23 : AFn := cF Try.prog 23
theorem t23 : trF Try.prog 23 = some c23 := tF (by kernel_rfl)
def c24 : AFn := cF Try.prog 24
theorem t24 : trF Try.prog 24 = some c24 := tF (by kernel_rfl)
def c25 : AFn := cF Try.prog 25
theorem t25 : trF Try.prog 25 = some c25 := tF (by kernel_rfl)
def c26 : AFn := cF Try.prog 26
theorem t26 : trF Try.prog 26 = some c26 := tF (by kernel_rfl)
def c27 : AFn := cF Try.prog 27
theorem t27 : trF Try.prog 27 = some c27 := tF (by kernel_rfl)
def c28 : AFn := cF Try.prog 28
theorem t28 : trF Try.prog 28 = some c28 := tF (by kernel_rfl)
def c29 : AFn := cF Try.prog 29
theorem t29 : trF Try.prog 29 = some c29 := tF (by kernel_rfl)
def c30 : AFn := cF Try.prog 30
theorem t30 : trF Try.prog 30 = some c30 := tF (by kernel_rfl)
def c31 : AFn := cF Try.prog 31
theorem t31 : trF Try.prog 31 = some c31 := tF (by kernel_rfl)
def c32 : AFn := cF Try.prog 32
theorem t32 : trF Try.prog 32 = some c32 := tF (by kernel_rfl)
end Go.Proofs.Ytnlhnefjjblpcab
end
noncomputable section
namespace Go.Proofs.Ytnlhnefjjblpcab
open Go.AV Go.RowKit
set_option maxRecDepth 100000
structure T_order_stamp where
 label : Int
 next : Int
 prev : Int
structure T_arena_slot where
 x : T_order_stamp
 used : Bool
structure T_law02_Act where
 What : Int
 A : Int
 B : Int
structure T_ref01_Arena where
 Room : Int
 Things : (List Int)
 Used : (List Bool)
 Freed : (List Int)
structure T_ref02_List where
 Order : (List Int)
 Numbers : T_ref01_Arena
inductive TC where
 | c0
 | c3
 | c4
 | c22
 | c23
 | c34
 | c35
 | c37
 | c39
 | c42
 | c52
 | c54
 | c72
def KF : TC → Type
 | .c0 => Unit
 | .c3 => Int
 | .c4 => Bool
 | .c22 => Int
 | .c23 => (List Bool)
 | .c34 => (List T_law02_Act)
 | .c35 => (List Int)
 | .c37 => T_ref01_Arena
 | .c39 => T_ref02_List
 | .c42 => T_law02_Act
 | .c52 => Int
 | .c54 => T_order_stamp
 | .c72 => T_arena_slot
def codes : List (Nat × TC) := [(3, .c3), (4, .c4), (22, .c22), (23, .c23), (34, .c34), (35, .c35), (37, .c37), (39, .c39), (42, .c42), (52, .c52), (54, .c54), (72, .c72)]
def code (t : Nat) : TC := lkC .c0 codes t
abbrev KK (t : Nat) : Type := KF (code t)
def e_law02_Act : Enc T_law02_Act := encIso ((tbCat (tbI .i64) (tbCat (tbI .i64) (tbI .i64))) : Tb KK _).E (fun x : T_law02_Act => (x.What, x.A, x.B))
def b42 : Tb KK T_law02_Act := tbIso (tbCat (tbI .i64) (tbCat (tbI .i64) (tbI .i64))) (fun x : T_law02_Act => (x.What, x.A, x.B)) (fun y => (⟨y.1, y.2.1, y.2.2⟩ : T_law02_Act)) e_law02_Act
def e_ref01_Arena : Enc T_ref01_Arena := encIso ((tbCat (tbI .i64) (tbCat (tbL 3 (eI .i64) : Tb KK (List Int)) (tbCat (tbL 4 eB : Tb KK (List Bool)) (tbL 3 (eI .i64) : Tb KK (List Int))))) : Tb KK _).E (fun x : T_ref01_Arena => (x.Room, x.Things, x.Used, x.Freed))
def b37 : Tb KK T_ref01_Arena := tbIso (tbCat (tbI .i64) (tbCat (tbL 3 (eI .i64) : Tb KK (List Int)) (tbCat (tbL 4 eB : Tb KK (List Bool)) (tbL 3 (eI .i64) : Tb KK (List Int))))) (fun x : T_ref01_Arena => (x.Room, x.Things, x.Used, x.Freed)) (fun y => (⟨y.1, y.2.1, y.2.2.1, y.2.2.2⟩ : T_ref01_Arena)) e_ref01_Arena
def e_ref02_List : Enc T_ref02_List := encIso ((tbCat (tbL 3 (eI .i64) : Tb KK (List Int)) b37) : Tb KK _).E (fun x : T_ref02_List => (x.Order, x.Numbers))
def b39 : Tb KK T_ref02_List := tbIso (tbCat (tbL 3 (eI .i64) : Tb KK (List Int)) b37) (fun x : T_ref02_List => (x.Order, x.Numbers)) (fun y => (⟨y.1, y.2⟩ : T_ref02_List)) e_ref02_List
def e_order_stamp : Enc T_order_stamp := encIso ((tbCat (tbI .u64) (tbCat (tbI .i64) (tbI .i64))) : Tb KK _).E (fun x : T_order_stamp => (x.label, x.next, x.prev))
def b54 : Tb KK T_order_stamp := tbIso (tbCat (tbI .u64) (tbCat (tbI .i64) (tbI .i64))) (fun x : T_order_stamp => (x.label, x.next, x.prev)) (fun y => (⟨y.1, y.2.1, y.2.2⟩ : T_order_stamp)) e_order_stamp
def e_arena_slot : Enc T_arena_slot := encIso ((tbCat b54 tbB) : Tb KK _).E (fun x : T_arena_slot => (x.x, x.used))
def b72 : Tb KK T_arena_slot := tbIso (tbCat b54 tbB) (fun x : T_arena_slot => (x.x, x.used)) (fun y => (⟨y.1, y.2⟩ : T_arena_slot)) e_arena_slot
def TF : (c : TC) → Tb KK (KF c)
 | .c0 => tbU
 | .c3 => (tbI .i64)
 | .c4 => tbB
 | .c22 => (tbI .u16)
 | .c23 => (tbL 4 eB : Tb KK (List Bool))
 | .c34 => (tbL 42 e_law02_Act : Tb KK (List T_law02_Act))
 | .c35 => (tbL 3 (eI .i64) : Tb KK (List Int))
 | .c37 => b37
 | .c39 => b39
 | .c42 => b42
 | .c52 => (tbI .u64)
 | .c54 => b54
 | .c72 => b72
def CC : Cx KK := @cxOf TC KF code TF
theorem b42_ok : TbOk Try.prog CC b42 := tbIso_ok (tbCat_ok (tbI_ok _) (tbCat_ok (tbI_ok _) (tbI_ok _))) (fun y => rfl) (fun x => rfl)
theorem dw_law02_Act : ∀ x, dwks (e_law02_Act.c x) = e_law02_Act.c x := b42_ok.dw
theorem hl_law02_Act : ∀ x m, hlts m (e_law02_Act.c x) = true := b42_ok.hl
theorem b37_ok : TbOk Try.prog CC b37 := tbIso_ok (tbCat_ok (tbI_ok _) (tbCat_ok (tbL_ok _ rfl (fun _ => rfl) (fun _ _ => rfl)) (tbCat_ok (tbL_ok _ rfl (fun _ => rfl) (fun _ _ => rfl)) (tbL_ok _ rfl (fun _ => rfl) (fun _ _ => rfl))))) (fun y => rfl) (fun x => rfl)
theorem b39_ok : TbOk Try.prog CC b39 := tbIso_ok (tbCat_ok (tbL_ok _ rfl (fun _ => rfl) (fun _ _ => rfl)) b37_ok) (fun y => rfl) (fun x => rfl)
theorem b54_ok : TbOk Try.prog CC b54 := tbIso_ok (tbCat_ok (tbI_ok _) (tbCat_ok (tbI_ok _) (tbI_ok _))) (fun y => rfl) (fun x => rfl)
theorem b72_ok : TbOk Try.prog CC b72 := tbIso_ok (tbCat_ok b54_ok tbB_ok) (fun y => rfl) (fun x => rfl)
theorem CC_ok : CxOk Try.prog CC := @cxOf_ok TC KF code _ TF fun c => match c with
 | .c0 => tbU_ok
 | .c3 => (tbI_ok _)
 | .c4 => tbB_ok
 | .c22 => (tbI_ok _)
 | .c23 => (tbL_ok _ rfl (fun _ => rfl) (fun _ _ => rfl))
 | .c34 => (tbL_ok _ rfl dw_law02_Act hl_law02_Act)
 | .c35 => (tbL_ok _ rfl (fun _ => rfl) (fun _ _ => rfl))
 | .c37 => b37_ok
 | .c39 => b39_ok
 | .c42 => b42_ok
 | .c52 => (tbI_ok _)
 | .c54 => b54_ok
 | .c72 => b72_ok
def arena_New_stamp_v0_o (a0 r0 : Int) (r1 : List T_arena_slot) (r2 : List Int) : Prop :=
 (if (1048576 : Int) < (if (0 : Int) > a0 then (0 : Int) else a0) then (1048576 : Int) else (if (0 : Int) > a0 then (0 : Int) else a0)) = r0 ∧ ([] : List T_arena_slot) = r1 ∧ ([] : List Int) = r2
def arena_New_stamp_v0_s0 : Sl KK := ⟨17, [], ⟨[(0, .it .i64)], [], []⟩, ⟨[(2, .px 1000000 0)], [(1000000, 70, [.it .i64, .row 1000001, .row 1000002])], [(1000001, 72), (1000002, 3)]⟩, [], [(2, none)], true, fun _ _ _ => True⟩
def arena_New_stamp_v0_sl : Sl KK := ⟨17, [], ⟨[(0, .it .i64)], [], []⟩, ⟨[(2, .px 1000000 0)], [(1000000, 70, [.it .i64, .row 1000001, .row 1000002])], [(1000001, 72), (1000002, 3)]⟩, [], [(2, none)], true, apFs (K := KK) (ctT arena_New_stamp_v0_s0.ti) (ctT arena_New_stamp_v0_s0.te) [] arena_New_stamp_v0_o⟩
def arena_New_stamp_v0_an : An KK := (.s .o (.s .o .o))
def arena_New_stamp_v0_cf : Cf KK := ⟨CC, [], [], 8, [], none, false⟩
theorem arena_New_stamp_v0_ok : SlOk Try.prog CC arena_New_stamp_v0_sl := by
 intro fs env out hl hF hW
 obtain ⟨rfl, h0⟩ := apFs_n hW
 obtain ⟨a0, ea0, rfl, h1⟩ := apIn_c h0
 obtain ⟨rfl, h2⟩ := apIn_n h1
 obtain ⟨r0, er0, rfl, h3⟩ := apOut_c h2
 obtain ⟨r1, er1, rfl, h4⟩ := apOut_c h3
 obtain ⟨r2, er2, rfl, h5⟩ := apOut_c h4
 obtain ⟨rfl, h6⟩ := apOut_n h5
 show SlC Try.prog CC arena_New_stamp_v0_sl [] [.i a0] [.i r0, .l 72 r1, .l 3 r2]
 rw [show SlC Try.prog CC arena_New_stamp_v0_sl [] [.i a0] [.i r0, .l 72 r1, .l 3 r2] = SlC Try.prog CC arena_New_stamp_v0_s0 [] [.i a0] [.i r0, .l 72 r1, .l 3 r2] by kernel_rfl]
 exact DnL_by (F := arena_New_stamp_v0_cf) CC_ok SsOk_n SLOk_n t17 (A := arena_New_stamp_v0_an) (sp := arena_New_stamp_v0_s0) rfl (by kernel_rfl) (by kernel_rfl) (Nat.le_of_ble_eq_true (by kernel_rfl)) (fs := []) (env := [.i a0]) (out := [.i r0, .l 72 r1, .l 3 r2]) (by kernel_rfl) hF (X := arena_New_stamp_v0_o a0 r0 r1 r2) h6 (by kernel_rfl)
def arena_Arena_stamp_Live_v0_o (a0 : Int) (a1 : List T_arena_slot) (a2 : List Int) (r0 : Int) : Prop :=
 ((a0 = a0) ∧ (True) ∧ (True)) ∧ (a1 = a1) ∧ (a2 = a2) ∧ (IntKind.i64.wrap ((a1.length : Int) - (a2.length : Int))) = r0
def arena_Arena_stamp_Live_v0_oi (a0 : Int) (a1 : List T_arena_slot) (a2 : List Int) (r0 : Int) : Prop :=
 (IntKind.i64.wrap ((a1.length : Int) - (a2.length : Int))) = r0
theorem arena_Arena_stamp_Live_v0_i (a0 : Int) (a1 : List T_arena_slot) (a2 : List Int) (r0 : Int) (h : arena_Arena_stamp_Live_v0_oi a0 a1 a2 r0) : arena_Arena_stamp_Live_v0_o a0 a1 a2 r0 := by
 unfold arena_Arena_stamp_Live_v0_o
 unfold arena_Arena_stamp_Live_v0_oi at h
 exact ⟨by and_intros <;> first | rfl | trivial, ⟨by and_intros <;> first | rfl | trivial, ⟨by and_intros <;> first | rfl | trivial, h⟩⟩⟩
def arena_Arena_stamp_Live_v0_s0 : Sl KK := ⟨24, [], ⟨[(0, .px 2000000 0)], [(2000000, 70, [.it .i64, .row 2000001, .row 2000002])], [(2000001, 72), (2000002, 3)]⟩, ⟨[(2, .it .i64)], [], []⟩, [2000000, 2000001, 2000002], [(2, none)], true, fun _ _ _ => True⟩
def arena_Arena_stamp_Live_v0_sl : Sl KK := ⟨24, [], ⟨[(0, .px 2000000 0)], [(2000000, 70, [.it .i64, .row 2000001, .row 2000002])], [(2000001, 72), (2000002, 3)]⟩, ⟨[(2, .it .i64)], [], []⟩, [2000000, 2000001, 2000002], [(2, none)], true, apFs (K := KK) (ctT arena_Arena_stamp_Live_v0_s0.ti) (ctT arena_Arena_stamp_Live_v0_s0.te) [] arena_Arena_stamp_Live_v0_o⟩
def arena_Arena_stamp_Live_v0_an : An KK := (.s .o (.s (.s .o (.c (.s .o .o) .o)) (.s .o .o)))
def arena_Arena_stamp_Live_v0_cf : Cf KK := ⟨CC, [], [], 16, [], none, false⟩
theorem arena_Arena_stamp_Live_v0_ok : SlOk Try.prog CC arena_Arena_stamp_Live_v0_sl := by
 intro fs env out hl hF hW
 obtain ⟨rfl, h0⟩ := apFs_n hW
 obtain ⟨a0, ea0, rfl, h1⟩ := apIn_c h0
 obtain ⟨a1, ea1, rfl, h2⟩ := apIn_c h1
 obtain ⟨a2, ea2, rfl, h3⟩ := apIn_c h2
 obtain ⟨rfl, h4⟩ := apIn_n h3
 obtain ⟨r0, er0, rfl, h5⟩ := apOut_c h4
 obtain ⟨rfl, h6⟩ := apOut_n h5
 show SlC Try.prog CC arena_Arena_stamp_Live_v0_sl [] [.i a0, .l 72 a1, .l 3 a2] [.i r0]
 rw [show SlC Try.prog CC arena_Arena_stamp_Live_v0_sl [] [.i a0, .l 72 a1, .l 3 a2] [.i r0] = SlC Try.prog CC arena_Arena_stamp_Live_v0_s0 [] [.i a0, .l 72 a1, .l 3 a2] [.i r0] by kernel_rfl]
 exact DnL_by (F := arena_Arena_stamp_Live_v0_cf) CC_ok SsOk_n SLOk_n t24 (A := arena_Arena_stamp_Live_v0_an) (sp := arena_Arena_stamp_Live_v0_s0) rfl (by kernel_rfl) (by kernel_rfl) (Nat.le_of_ble_eq_true (by kernel_rfl)) (fs := []) (env := [.i a0, .l 72 a1, .l 3 a2]) (out := [.i r0]) (by kernel_rfl) hF (X := arena_Arena_stamp_Live_v0_o a0 a1 a2 r0) h6 (by kernel_rfl)
def arena_Arena_stamp_most_v0_o (a0 : Int) (a1 : List T_arena_slot) (a2 : List Int) (r0 : Int) : Prop :=
 ((a0 = a0) ∧ (True) ∧ (True)) ∧ (a1 = a1) ∧ (a2 = a2) ∧ a0 = r0
def arena_Arena_stamp_most_v0_oi (a0 : Int) (a1 : List T_arena_slot) (a2 : List Int) (r0 : Int) : Prop :=
 a0 = r0
theorem arena_Arena_stamp_most_v0_i (a0 : Int) (a1 : List T_arena_slot) (a2 : List Int) (r0 : Int) (h : arena_Arena_stamp_most_v0_oi a0 a1 a2 r0) : arena_Arena_stamp_most_v0_o a0 a1 a2 r0 := by
 unfold arena_Arena_stamp_most_v0_o
 unfold arena_Arena_stamp_most_v0_oi at h
 exact ⟨by and_intros <;> first | rfl | trivial, ⟨by and_intros <;> first | rfl | trivial, ⟨by and_intros <;> first | rfl | trivial, h⟩⟩⟩
def arena_Arena_stamp_most_v0_s0 : Sl KK := ⟨29, [], ⟨[(0, .px 2000000 0)], [(2000000, 70, [.it .i64, .row 2000001, .row 2000002])], [(2000001, 72), (2000002, 3)]⟩, ⟨[(2, .it .i64)], [], []⟩, [2000000, 2000001, 2000002], [(2, none)], true, fun _ _ _ => True⟩
def arena_Arena_stamp_most_v0_sl : Sl KK := ⟨29, [], ⟨[(0, .px 2000000 0)], [(2000000, 70, [.it .i64, .row 2000001, .row 2000002])], [(2000001, 72), (2000002, 3)]⟩, ⟨[(2, .it .i64)], [], []⟩, [2000000, 2000001, 2000002], [(2, none)], true, apFs (K := KK) (ctT arena_Arena_stamp_most_v0_s0.ti) (ctT arena_Arena_stamp_most_v0_s0.te) [] arena_Arena_stamp_most_v0_o⟩
def arena_Arena_stamp_most_v0_an : An KK := (.s .o (.s (.s .o (.c (.s .o .o) .o)) (.s .o .o)))
def arena_Arena_stamp_most_v0_cf : Cf KK := ⟨CC, [], [], 9, [], none, false⟩
theorem arena_Arena_stamp_most_v0_ok : SlOk Try.prog CC arena_Arena_stamp_most_v0_sl := by
 intro fs env out hl hF hW
 obtain ⟨rfl, h0⟩ := apFs_n hW
 obtain ⟨a0, ea0, rfl, h1⟩ := apIn_c h0
 obtain ⟨a1, ea1, rfl, h2⟩ := apIn_c h1
 obtain ⟨a2, ea2, rfl, h3⟩ := apIn_c h2
 obtain ⟨rfl, h4⟩ := apIn_n h3
 obtain ⟨r0, er0, rfl, h5⟩ := apOut_c h4
 obtain ⟨rfl, h6⟩ := apOut_n h5
 show SlC Try.prog CC arena_Arena_stamp_most_v0_sl [] [.i a0, .l 72 a1, .l 3 a2] [.i r0]
 rw [show SlC Try.prog CC arena_Arena_stamp_most_v0_sl [] [.i a0, .l 72 a1, .l 3 a2] [.i r0] = SlC Try.prog CC arena_Arena_stamp_most_v0_s0 [] [.i a0, .l 72 a1, .l 3 a2] [.i r0] by kernel_rfl]
 exact DnL_by (F := arena_Arena_stamp_most_v0_cf) CC_ok SsOk_n SLOk_n t29 (A := arena_Arena_stamp_most_v0_an) (sp := arena_Arena_stamp_most_v0_s0) rfl (by kernel_rfl) (by kernel_rfl) (Nat.le_of_ble_eq_true (by kernel_rfl)) (fs := []) (env := [.i a0, .l 72 a1, .l 3 a2]) (out := [.i r0]) (by kernel_rfl) hF (X := arena_Arena_stamp_most_v0_o a0 a1 a2 r0) h6 (by kernel_rfl)
def arena_Arena_stamp_Alloc_v0_o (a0 : T_order_stamp) (a1 : Int) (a2 : List T_arena_slot) (a3 : List Int) (r0 : Int) (r1 : Bool) (r2 : Int) (r3 : List T_arena_slot) (r4 : List Int) : Prop :=
 ∃ z1, (arena_Arena_stamp_Live_v0_o a1 a2 a3 z1) ∧ ∃ z2, (arena_Arena_stamp_most_v0_o a1 a2 a3 z2) ∧ cnd (decide (z2 ≤ z1)) ((0 : Int) = r0 ∧ false = r1 ∧ a1 = r2 ∧ a2 = r3 ∧ a3 = r4) (cnd (decide ((0 : Int) ≤ (IntKind.i64.wrap ((a3.length : Int) - (1 : Int))))) ((0 ≤ (IntKind.i64.wrap ((a3.length : Int) - (1 : Int)))) ∧ ((IntKind.i64.wrap ((a3.length : Int) - (1 : Int))) < (a3.length : Int)) ∧ ∃ y3 : Int, (a3[(IntKind.i64.wrap ((a3.length : Int) - (1 : Int))).toNat]? = some y3) ∧ (0 ≤ (IntKind.i64.wrap ((a3.length : Int) - (1 : Int))) ∧ (IntKind.i64.wrap ((a3.length : Int) - (1 : Int))) ≤ (a3.length : Int)) ∧ (0 ≤ y3) ∧ (y3 < (a2.length : Int)) ∧ ∃ y4 : T_arena_slot, (a2[y3.toNat]? = some y4) ∧ y3 = r0 ∧ true = r1 ∧ a1 = r2 ∧ (a2.set y3.toNat (⟨a0, true⟩ : T_arena_slot)) = r3 ∧ (a3.take (IntKind.i64.wrap ((a3.length : Int) - (1 : Int))).toNat) = r4) ((a2.length ≤ 1000000000) ∧ (IntKind.i64.wrap (((a2 ++ ([(⟨a0, true⟩ : T_arena_slot)] : List T_arena_slot)).length : Int) - (1 : Int))) = r0 ∧ true = r1 ∧ a1 = r2 ∧ (a2 ++ ([(⟨a0, true⟩ : T_arena_slot)] : List T_arena_slot)) = r3 ∧ a3 = r4))
def arena_Arena_stamp_Alloc_v0_s0 : Sl KK := ⟨18, [], ⟨[(0, .px 2000000 0), (1, .v 54)], [(2000000, 70, [.it .i64, .row 2000001, .row 2000002])], [(2000001, 72), (2000002, 3)]⟩, ⟨[(4, .it .i64), (5, .bl)], [(2000000, 70, [.it .i64, .row 1000000, .row 1000001])], [(1000000, 72), (1000001, 3)]⟩, [], [(4, none), (5, none)], true, fun _ _ _ => True⟩
def arena_Arena_stamp_Alloc_v0_sl : Sl KK := ⟨18, [], ⟨[(0, .px 2000000 0), (1, .v 54)], [(2000000, 70, [.it .i64, .row 2000001, .row 2000002])], [(2000001, 72), (2000002, 3)]⟩, ⟨[(4, .it .i64), (5, .bl)], [(2000000, 70, [.it .i64, .row 1000000, .row 1000001])], [(1000000, 72), (1000001, 3)]⟩, [], [(4, none), (5, none)], true, apFs (K := KK) (ctT arena_Arena_stamp_Alloc_v0_s0.ti) (ctT arena_Arena_stamp_Alloc_v0_s0.te) [] arena_Arena_stamp_Alloc_v0_o⟩
def arena_Arena_stamp_Alloc_v0_an : An KK := (.s .o (.s (.s .o (.c (.s .o .o) .o)) (.s (.s .o (.s .o (.c (.s .o (.s .o (.s .o (.s .o .o)))) .o))) (.s .o (.s .o .o)))))
def arena_Arena_stamp_Alloc_v0_cf : Cf KK := ⟨CC, [], [arena_Arena_stamp_Live_v0_sl, arena_Arena_stamp_most_v0_sl], 63, [], none, false⟩
theorem arena_Arena_stamp_Alloc_v0_ok : SlOk Try.prog CC arena_Arena_stamp_Alloc_v0_sl := by
 intro fs env out hl hF hW
 obtain ⟨rfl, h0⟩ := apFs_n hW
 obtain ⟨a0, ea0, rfl, h1⟩ := apIn_c h0
 obtain ⟨a1, ea1, rfl, h2⟩ := apIn_c h1
 obtain ⟨a2, ea2, rfl, h3⟩ := apIn_c h2
 obtain ⟨a3, ea3, rfl, h4⟩ := apIn_c h3
 obtain ⟨rfl, h5⟩ := apIn_n h4
 obtain ⟨r0, er0, rfl, h6⟩ := apOut_c h5
 obtain ⟨r1, er1, rfl, h7⟩ := apOut_c h6
 obtain ⟨r2, er2, rfl, h8⟩ := apOut_c h7
 obtain ⟨r3, er3, rfl, h9⟩ := apOut_c h8
 obtain ⟨r4, er4, rfl, h10⟩ := apOut_c h9
 obtain ⟨rfl, h11⟩ := apOut_n h10
 show SlC Try.prog CC arena_Arena_stamp_Alloc_v0_sl [] [.v 54 a0, .i a1, .l 72 a2, .l 3 a3] [.i r0, .b r1, .i r2, .l 72 r3, .l 3 r4]
 rw [show SlC Try.prog CC arena_Arena_stamp_Alloc_v0_sl [] [.v 54 a0, .i a1, .l 72 a2, .l 3 a3] [.i r0, .b r1, .i r2, .l 72 r3, .l 3 r4] = SlC Try.prog CC arena_Arena_stamp_Alloc_v0_s0 [] [.v 54 a0, .i a1, .l 72 a2, .l 3 a3] [.i r0, .b r1, .i r2, .l 72 r3, .l 3 r4] by kernel_rfl]
 exact DnL_by (F := arena_Arena_stamp_Alloc_v0_cf) CC_ok SsOk_n (SLOk_c arena_Arena_stamp_Live_v0_ok (SLOk_c arena_Arena_stamp_most_v0_ok SLOk_n)) t18 (A := arena_Arena_stamp_Alloc_v0_an) (sp := arena_Arena_stamp_Alloc_v0_s0) rfl (by kernel_rfl) (by kernel_rfl) (Nat.le_of_ble_eq_true (by kernel_rfl)) (fs := []) (env := [.v 54 a0, .i a1, .l 72 a2, .l 3 a3]) (out := [.i r0, .b r1, .i r2, .l 72 r3, .l 3 r4]) (by kernel_rfl) hF (X := arena_Arena_stamp_Alloc_v0_o a0 a1 a2 a3 r0 r1 r2 r3 r4) h11 (by kernel_rfl)
def order_New_v0_o (r0 : Int) (r1 : List T_arena_slot) (r2 : List Int) : Prop :=
 ∃ z1 z2 z3, (arena_New_stamp_v0_o (1048576 : Int) z1 z2 z3) ∧ ∃ z4 z5 z6 z7 z8, (arena_Arena_stamp_Alloc_v0_o (⟨(0 : Int), (-1 : Int), (-1 : Int)⟩ : T_order_stamp) z1 z2 z3 z4 z5 z6 z7 z8) ∧ z6 = r0 ∧ z7 = r1 ∧ z8 = r2
def order_New_v0_s0 : Sl KK := ⟨6, [], ⟨[], [], []⟩, ⟨[(0, .px 1000000 0)], [(1000000, 56, [.px 1000001 0]), (1000001, 70, [.it .i64, .row 1000002, .row 1000003])], [(1000002, 72), (1000003, 3)]⟩, [], [(0, none)], true, fun _ _ _ => True⟩
def order_New_v0_sl : Sl KK := ⟨6, [], ⟨[], [], []⟩, ⟨[(0, .px 1000000 0)], [(1000000, 56, [.px 1000001 0]), (1000001, 70, [.it .i64, .row 1000002, .row 1000003])], [(1000002, 72), (1000003, 3)]⟩, [], [(0, none)], true, apFs (K := KK) (ctT order_New_v0_s0.ti) (ctT order_New_v0_s0.te) [] order_New_v0_o⟩
def order_New_v0_an : An KK := (.s .o (.s .o (.s .o (.s .o .o))))
def order_New_v0_cf : Cf KK := ⟨CC, [], [arena_New_stamp_v0_sl, arena_Arena_stamp_Alloc_v0_sl], 12, [], none, false⟩
theorem order_New_v0_ok : SlOk Try.prog CC order_New_v0_sl := by
 intro fs env out hl hF hW
 obtain ⟨rfl, h0⟩ := apFs_n hW
 obtain ⟨rfl, h1⟩ := apIn_n h0
 obtain ⟨r0, er0, rfl, h2⟩ := apOut_c h1
 obtain ⟨r1, er1, rfl, h3⟩ := apOut_c h2
 obtain ⟨r2, er2, rfl, h4⟩ := apOut_c h3
 obtain ⟨rfl, h5⟩ := apOut_n h4
 show SlC Try.prog CC order_New_v0_sl [] [] [.i r0, .l 72 r1, .l 3 r2]
 rw [show SlC Try.prog CC order_New_v0_sl [] [] [.i r0, .l 72 r1, .l 3 r2] = SlC Try.prog CC order_New_v0_s0 [] [] [.i r0, .l 72 r1, .l 3 r2] by kernel_rfl]
 exact DnL_by (F := order_New_v0_cf) CC_ok SsOk_n (SLOk_c arena_New_stamp_v0_ok (SLOk_c arena_Arena_stamp_Alloc_v0_ok SLOk_n)) t6 (A := order_New_v0_an) (sp := order_New_v0_s0) rfl (by kernel_rfl) (by kernel_rfl) (Nat.le_of_ble_eq_true (by kernel_rfl)) (fs := []) (env := []) (out := [.i r0, .l 72 r1, .l 3 r2]) (by kernel_rfl) hF (X := order_New_v0_o r0 r1 r2) h5 (by kernel_rfl)
def arena_Arena_stamp_has_v0_o (a0 a1 : Int) (a2 : List T_arena_slot) (a3 : List Int) (r0 : Bool) : Prop :=
 cnd (decide ((0 : Int) ≤ a0)) (cnd (decide (a0 < (a2.length : Int))) ((0 ≤ a0) ∧ (a0 < (a2.length : Int)) ∧ ∃ y1 : T_arena_slot, (a2[a0.toNat]? = some y1) ∧ ((a1 = a1) ∧ (True) ∧ (True)) ∧ (a2 = a2) ∧ (a3 = a3) ∧ y1.used = r0) (((a1 = a1) ∧ (True) ∧ (True)) ∧ (a2 = a2) ∧ (a3 = a3) ∧ false = r0)) (((a1 = a1) ∧ (True) ∧ (True)) ∧ (a2 = a2) ∧ (a3 = a3) ∧ false = r0)
def arena_Arena_stamp_has_v0_oi (a0 a1 : Int) (a2 : List T_arena_slot) (a3 : List Int) (r0 : Bool) : Prop :=
 cnd (decide ((0 : Int) ≤ a0)) (cnd (decide (a0 < (a2.length : Int))) ((0 ≤ a0) ∧ (a0 < (a2.length : Int)) ∧ ∃ y1 : T_arena_slot, (a2[a0.toNat]? = some y1) ∧ y1.used = r0) (false = r0)) (false = r0)
theorem arena_Arena_stamp_has_v0_i (a0 a1 : Int) (a2 : List T_arena_slot) (a3 : List Int) (r0 : Bool) (h : arena_Arena_stamp_has_v0_oi a0 a1 a2 a3 r0) : arena_Arena_stamp_has_v0_o a0 a1 a2 a3 r0 := by
 unfold arena_Arena_stamp_has_v0_o
 unfold arena_Arena_stamp_has_v0_oi at h
 refine cnd_mono h (fun h => ?_) (fun h => ?_)
 ·refine cnd_mono h (fun h => ?_) (fun h => ?_)
  ·obtain ⟨h0, h⟩ := h
   refine ⟨h0, ?_⟩
   obtain ⟨h0, h⟩ := h
   refine ⟨h0, ?_⟩
   obtain ⟨y1, h⟩ := h
   refine ⟨y1, ?_⟩
   obtain ⟨h0, h⟩ := h
   refine ⟨h0, ?_⟩
   exact ⟨by and_intros <;> first | rfl | trivial, ⟨by and_intros <;> first | rfl | trivial, ⟨by and_intros <;> first | rfl | trivial, h⟩⟩⟩
  ·exact ⟨by and_intros <;> first | rfl | trivial, ⟨by and_intros <;> first | rfl | trivial, ⟨by and_intros <;> first | rfl | trivial, h⟩⟩⟩
 ·exact ⟨by and_intros <;> first | rfl | trivial, ⟨by and_intros <;> first | rfl | trivial, ⟨by and_intros <;> first | rfl | trivial, h⟩⟩⟩
def arena_Arena_stamp_has_v0_s0 : Sl KK := ⟨30, [], ⟨[(0, .px 2000000 0), (1, .it .i64)], [(2000000, 70, [.it .i64, .row 2000001, .row 2000002])], [(2000001, 72), (2000002, 3)]⟩, ⟨[(4, .bl)], [], []⟩, [2000000, 2000001, 2000002], [(4, none)], true, fun _ _ _ => True⟩
def arena_Arena_stamp_has_v0_sl : Sl KK := ⟨30, [], ⟨[(0, .px 2000000 0), (1, .it .i64)], [(2000000, 70, [.it .i64, .row 2000001, .row 2000002])], [(2000001, 72), (2000002, 3)]⟩, ⟨[(4, .bl)], [], []⟩, [2000000, 2000001, 2000002], [(4, none)], true, apFs (K := KK) (ctT arena_Arena_stamp_has_v0_s0.ti) (ctT arena_Arena_stamp_has_v0_s0.te) [] arena_Arena_stamp_has_v0_o⟩
def arena_Arena_stamp_has_v0_an : An KK := (.s .o (.s .o .o))
def arena_Arena_stamp_has_v0_cf : Cf KK := ⟨CC, [], [], 30, [], none, false⟩
theorem arena_Arena_stamp_has_v0_ok : SlOk Try.prog CC arena_Arena_stamp_has_v0_sl := by
 intro fs env out hl hF hW
 obtain ⟨rfl, h0⟩ := apFs_n hW
 obtain ⟨a0, ea0, rfl, h1⟩ := apIn_c h0
 obtain ⟨a1, ea1, rfl, h2⟩ := apIn_c h1
 obtain ⟨a2, ea2, rfl, h3⟩ := apIn_c h2
 obtain ⟨a3, ea3, rfl, h4⟩ := apIn_c h3
 obtain ⟨rfl, h5⟩ := apIn_n h4
 obtain ⟨r0, er0, rfl, h6⟩ := apOut_c h5
 obtain ⟨rfl, h7⟩ := apOut_n h6
 show SlC Try.prog CC arena_Arena_stamp_has_v0_sl [] [.i a0, .i a1, .l 72 a2, .l 3 a3] [.b r0]
 rw [show SlC Try.prog CC arena_Arena_stamp_has_v0_sl [] [.i a0, .i a1, .l 72 a2, .l 3 a3] [.b r0] = SlC Try.prog CC arena_Arena_stamp_has_v0_s0 [] [.i a0, .i a1, .l 72 a2, .l 3 a3] [.b r0] by kernel_rfl]
 exact DnL_by (F := arena_Arena_stamp_has_v0_cf) CC_ok SsOk_n SLOk_n t30 (A := arena_Arena_stamp_has_v0_an) (sp := arena_Arena_stamp_has_v0_s0) rfl (by kernel_rfl) (by kernel_rfl) (Nat.le_of_ble_eq_true (by kernel_rfl)) (fs := []) (env := [.i a0, .i a1, .l 72 a2, .l 3 a3]) (out := [.b r0]) (by kernel_rfl) hF (X := arena_Arena_stamp_has_v0_o a0 a1 a2 a3 r0) h7 (by kernel_rfl)
def arena_Arena_stamp_Get_v0_o (a0 a1 : Int) (a2 : List T_arena_slot) (a3 : List Int) (r0 : Bool) (r1 : T_order_stamp) : Prop :=
 ∃ z1, (arena_Arena_stamp_has_v0_o a0 a1 a2 a3 z1) ∧ cnd (!z1) (((a1 = a1) ∧ (True) ∧ (True)) ∧ (a2 = a2) ∧ (a3 = a3) ∧ false = r0 ∧ (⟨(0 : Int), (0 : Int), (0 : Int)⟩ : T_order_stamp) = r1) ((0 ≤ a0) ∧ (a0 < (a2.length : Int)) ∧ ∃ y2 : T_arena_slot, (a2[a0.toNat]? = some y2) ∧ ((a1 = a1) ∧ (True) ∧ (True)) ∧ (a2 = a2) ∧ (a3 = a3) ∧ true = r0 ∧ (⟨y2.x.label, y2.x.next, y2.x.prev⟩ : T_order_stamp) = r1)
def arena_Arena_stamp_Get_v0_oi (a0 a1 : Int) (a2 : List T_arena_slot) (a3 : List Int) (r0 : Bool) (r1 : T_order_stamp) : Prop :=
 ∃ z1, (arena_Arena_stamp_has_v0_o a0 a1 a2 a3 z1) ∧ cnd (!z1) (false = r0 ∧ (⟨(0 : Int), (0 : Int), (0 : Int)⟩ : T_order_stamp) = r1) ((0 ≤ a0) ∧ (a0 < (a2.length : Int)) ∧ ∃ y2 : T_arena_slot, (a2[a0.toNat]? = some y2) ∧ true = r0 ∧ (⟨y2.x.label, y2.x.next, y2.x.prev⟩ : T_order_stamp) = r1)
theorem arena_Arena_stamp_Get_v0_i (a0 a1 : Int) (a2 : List T_arena_slot) (a3 : List Int) (r0 : Bool) (r1 : T_order_stamp) (h : arena_Arena_stamp_Get_v0_oi a0 a1 a2 a3 r0 r1) : arena_Arena_stamp_Get_v0_o a0 a1 a2 a3 r0 r1 := by
 unfold arena_Arena_stamp_Get_v0_o
 unfold arena_Arena_stamp_Get_v0_oi at h
 obtain ⟨z1, h⟩ := h
 refine ⟨z1, ?_⟩
 obtain ⟨h0, h⟩ := h
 refine ⟨h0, ?_⟩
 refine cnd_mono h (fun h => ?_) (fun h => ?_)
 ·exact ⟨by and_intros <;> first | rfl | trivial, ⟨by and_intros <;> first | rfl | trivial, ⟨by and_intros <;> first | rfl | trivial, h⟩⟩⟩
 ·obtain ⟨h0, h⟩ := h
  refine ⟨h0, ?_⟩
  obtain ⟨h0, h⟩ := h
  refine ⟨h0, ?_⟩
  obtain ⟨y2, h⟩ := h
  refine ⟨y2, ?_⟩
  obtain ⟨h0, h⟩ := h
  refine ⟨h0, ?_⟩
  exact ⟨by and_intros <;> first | rfl | trivial, ⟨by and_intros <;> first | rfl | trivial, ⟨by and_intros <;> first | rfl | trivial, h⟩⟩⟩
def arena_Arena_stamp_Get_v0_s0 : Sl KK := ⟨28, [], ⟨[(0, .px 2000000 0), (1, .it .i64)], [(2000000, 70, [.it .i64, .row 2000001, .row 2000002])], [(2000001, 72), (2000002, 3)]⟩, ⟨[(4, .px 1000000 0), (5, .bl)], [(1000000, 54, [.v 54])], []⟩, [2000000, 2000001, 2000002], [(4, some 3), (5, none)], true, fun _ _ _ => True⟩
def arena_Arena_stamp_Get_v0_sl : Sl KK := ⟨28, [], ⟨[(0, .px 2000000 0), (1, .it .i64)], [(2000000, 70, [.it .i64, .row 2000001, .row 2000002])], [(2000001, 72), (2000002, 3)]⟩, ⟨[(4, .px 1000000 0), (5, .bl)], [(1000000, 54, [.v 54])], []⟩, [2000000, 2000001, 2000002], [(4, some 3), (5, none)], true, apFs (K := KK) (ctT arena_Arena_stamp_Get_v0_s0.ti) (ctT arena_Arena_stamp_Get_v0_s0.te) [] arena_Arena_stamp_Get_v0_o⟩
def arena_Arena_stamp_Get_v0_an : An KK := (.s .o (.s (.s .o (.c (.s .o (.s .o .o)) .o)) (.s .o .o)))
def arena_Arena_stamp_Get_v0_cf : Cf KK := ⟨CC, [], [arena_Arena_stamp_has_v0_sl], 20, [], none, false⟩
theorem arena_Arena_stamp_Get_v0_ok : SlOk Try.prog CC arena_Arena_stamp_Get_v0_sl := by
 intro fs env out hl hF hW
 obtain ⟨rfl, h0⟩ := apFs_n hW
 obtain ⟨a0, ea0, rfl, h1⟩ := apIn_c h0
 obtain ⟨a1, ea1, rfl, h2⟩ := apIn_c h1
 obtain ⟨a2, ea2, rfl, h3⟩ := apIn_c h2
 obtain ⟨a3, ea3, rfl, h4⟩ := apIn_c h3
 obtain ⟨rfl, h5⟩ := apIn_n h4
 obtain ⟨r0, er0, rfl, h6⟩ := apOut_c h5
 obtain ⟨r1, er1, rfl, h7⟩ := apOut_c h6
 obtain ⟨rfl, h8⟩ := apOut_n h7
 show SlC Try.prog CC arena_Arena_stamp_Get_v0_sl [] [.i a0, .i a1, .l 72 a2, .l 3 a3] [.b r0, .v 54 r1]
 rw [show SlC Try.prog CC arena_Arena_stamp_Get_v0_sl [] [.i a0, .i a1, .l 72 a2, .l 3 a3] [.b r0, .v 54 r1] = SlC Try.prog CC arena_Arena_stamp_Get_v0_s0 [] [.i a0, .i a1, .l 72 a2, .l 3 a3] [.b r0, .v 54 r1] by kernel_rfl]
 exact DnL_by (F := arena_Arena_stamp_Get_v0_cf) CC_ok SsOk_n (SLOk_c arena_Arena_stamp_has_v0_ok SLOk_n) t28 (A := arena_Arena_stamp_Get_v0_an) (sp := arena_Arena_stamp_Get_v0_s0) rfl (by kernel_rfl) (by kernel_rfl) (Nat.le_of_ble_eq_true (by kernel_rfl)) (fs := []) (env := [.i a0, .i a1, .l 72 a2, .l 3 a3]) (out := [.b r0, .v 54 r1]) (by kernel_rfl) hF (X := arena_Arena_stamp_Get_v0_o a0 a1 a2 a3 r0 r1) h8 (by kernel_rfl)
def order_List_Has_v0_o (a0 a1 : Int) (a2 : List T_arena_slot) (a3 : List Int) (r0 : Bool) : Prop :=
 ∃ z1 z2, (arena_Arena_stamp_Get_v0_o a0 a1 a2 a3 z1 z2) ∧ ((True)) ∧ ((a1 = a1) ∧ (True) ∧ (True)) ∧ (a2 = a2) ∧ (a3 = a3) ∧ z1 = r0
def order_List_Has_v0_oi (a0 a1 : Int) (a2 : List T_arena_slot) (a3 : List Int) (r0 : Bool) : Prop :=
 ∃ z1 z2, (arena_Arena_stamp_Get_v0_o a0 a1 a2 a3 z1 z2) ∧ z1 = r0
theorem order_List_Has_v0_i (a0 a1 : Int) (a2 : List T_arena_slot) (a3 : List Int) (r0 : Bool) (h : order_List_Has_v0_oi a0 a1 a2 a3 r0) : order_List_Has_v0_o a0 a1 a2 a3 r0 := by
 unfold order_List_Has_v0_o
 unfold order_List_Has_v0_oi at h
 obtain ⟨z1, h⟩ := h
 refine ⟨z1, ?_⟩
 obtain ⟨z2, h⟩ := h
 refine ⟨z2, ?_⟩
 obtain ⟨h0, h⟩ := h
 refine ⟨h0, ?_⟩
 exact ⟨by and_intros <;> first | rfl | trivial, ⟨by and_intros <;> first | rfl | trivial, ⟨by and_intros <;> first | rfl | trivial, ⟨by and_intros <;> first | rfl | trivial, h⟩⟩⟩⟩
def order_List_Has_v0_s0 : Sl KK := ⟨15, [], ⟨[(0, .px 2000000 0), (1, .it .i64)], [(2000000, 56, [.px 2000001 0]), (2000001, 70, [.it .i64, .row 2000002, .row 2000003])], [(2000002, 72), (2000003, 3)]⟩, ⟨[(4, .bl)], [], []⟩, [2000000, 2000001, 2000002, 2000003], [(4, none)], true, fun _ _ _ => True⟩
def order_List_Has_v0_sl : Sl KK := ⟨15, [], ⟨[(0, .px 2000000 0), (1, .it .i64)], [(2000000, 56, [.px 2000001 0]), (2000001, 70, [.it .i64, .row 2000002, .row 2000003])], [(2000002, 72), (2000003, 3)]⟩, ⟨[(4, .bl)], [], []⟩, [2000000, 2000001, 2000002, 2000003], [(4, none)], true, apFs (K := KK) (ctT order_List_Has_v0_s0.ti) (ctT order_List_Has_v0_s0.te) [] order_List_Has_v0_o⟩
def order_List_Has_v0_an : An KK := (.s .o (.s (.s .o (.c (.s .o .o) .o)) (.s .o (.s .o .o))))
def order_List_Has_v0_cf : Cf KK := ⟨CC, [], [arena_Arena_stamp_Get_v0_sl], 19, [], none, false⟩
theorem order_List_Has_v0_ok : SlOk Try.prog CC order_List_Has_v0_sl := by
 intro fs env out hl hF hW
 obtain ⟨rfl, h0⟩ := apFs_n hW
 obtain ⟨a0, ea0, rfl, h1⟩ := apIn_c h0
 obtain ⟨a1, ea1, rfl, h2⟩ := apIn_c h1
 obtain ⟨a2, ea2, rfl, h3⟩ := apIn_c h2
 obtain ⟨a3, ea3, rfl, h4⟩ := apIn_c h3
 obtain ⟨rfl, h5⟩ := apIn_n h4
 obtain ⟨r0, er0, rfl, h6⟩ := apOut_c h5
 obtain ⟨rfl, h7⟩ := apOut_n h6
 show SlC Try.prog CC order_List_Has_v0_sl [] [.i a0, .i a1, .l 72 a2, .l 3 a3] [.b r0]
 rw [show SlC Try.prog CC order_List_Has_v0_sl [] [.i a0, .i a1, .l 72 a2, .l 3 a3] [.b r0] = SlC Try.prog CC order_List_Has_v0_s0 [] [.i a0, .i a1, .l 72 a2, .l 3 a3] [.b r0] by kernel_rfl]
 exact DnL_by (F := order_List_Has_v0_cf) CC_ok SsOk_n (SLOk_c arena_Arena_stamp_Get_v0_ok SLOk_n) t15 (A := order_List_Has_v0_an) (sp := order_List_Has_v0_s0) rfl (by kernel_rfl) (by kernel_rfl) (Nat.le_of_ble_eq_true (by kernel_rfl)) (fs := []) (env := [.i a0, .i a1, .l 72 a2, .l 3 a3]) (out := [.b r0]) (by kernel_rfl) hF (X := order_List_Has_v0_o a0 a1 a2 a3 r0) h7 (by kernel_rfl)
def order_List_at_v0_o (a0 a1 : Int) (a2 : List T_arena_slot) (a3 : List Int) (r0 : T_order_stamp) : Prop :=
 ∃ z1 z2, (arena_Arena_stamp_Get_v0_o a0 a1 a2 a3 z1 z2) ∧ ((True)) ∧ ((a1 = a1) ∧ (True) ∧ (True)) ∧ (a2 = a2) ∧ (a3 = a3) ∧ z2 = r0
def order_List_at_v0_oi (a0 a1 : Int) (a2 : List T_arena_slot) (a3 : List Int) (r0 : T_order_stamp) : Prop :=
 ∃ z1 z2, (arena_Arena_stamp_Get_v0_o a0 a1 a2 a3 z1 z2) ∧ z2 = r0
theorem order_List_at_v0_i (a0 a1 : Int) (a2 : List T_arena_slot) (a3 : List Int) (r0 : T_order_stamp) (h : order_List_at_v0_oi a0 a1 a2 a3 r0) : order_List_at_v0_o a0 a1 a2 a3 r0 := by
 unfold order_List_at_v0_o
 unfold order_List_at_v0_oi at h
 obtain ⟨z1, h⟩ := h
 refine ⟨z1, ?_⟩
 obtain ⟨z2, h⟩ := h
 refine ⟨z2, ?_⟩
 obtain ⟨h0, h⟩ := h
 refine ⟨h0, ?_⟩
 exact ⟨by and_intros <;> first | rfl | trivial, ⟨by and_intros <;> first | rfl | trivial, ⟨by and_intros <;> first | rfl | trivial, ⟨by and_intros <;> first | rfl | trivial, h⟩⟩⟩⟩
def order_List_at_v0_s0 : Sl KK := ⟨21, [], ⟨[(0, .px 2000000 0), (1, .it .i64)], [(2000000, 56, [.px 2000001 0]), (2000001, 70, [.it .i64, .row 2000002, .row 2000003])], [(2000002, 72), (2000003, 3)]⟩, ⟨[(4, .px 1000000 0)], [(1000000, 54, [.v 54])], []⟩, [2000000, 2000001, 2000002, 2000003], [(4, some 3)], true, fun _ _ _ => True⟩
def order_List_at_v0_sl : Sl KK := ⟨21, [], ⟨[(0, .px 2000000 0), (1, .it .i64)], [(2000000, 56, [.px 2000001 0]), (2000001, 70, [.it .i64, .row 2000002, .row 2000003])], [(2000002, 72), (2000003, 3)]⟩, ⟨[(4, .px 1000000 0)], [(1000000, 54, [.v 54])], []⟩, [2000000, 2000001, 2000002, 2000003], [(4, some 3)], true, apFs (K := KK) (ctT order_List_at_v0_s0.ti) (ctT order_List_at_v0_s0.te) [] order_List_at_v0_o⟩
def order_List_at_v0_an : An KK := (.s .o (.s .o (.s .o .o)))
def order_List_at_v0_cf : Cf KK := ⟨CC, [], [arena_Arena_stamp_Get_v0_sl], 17, [], none, false⟩
theorem order_List_at_v0_ok : SlOk Try.prog CC order_List_at_v0_sl := by
 intro fs env out hl hF hW
 obtain ⟨rfl, h0⟩ := apFs_n hW
 obtain ⟨a0, ea0, rfl, h1⟩ := apIn_c h0
 obtain ⟨a1, ea1, rfl, h2⟩ := apIn_c h1
 obtain ⟨a2, ea2, rfl, h3⟩ := apIn_c h2
 obtain ⟨a3, ea3, rfl, h4⟩ := apIn_c h3
 obtain ⟨rfl, h5⟩ := apIn_n h4
 obtain ⟨r0, er0, rfl, h6⟩ := apOut_c h5
 obtain ⟨rfl, h7⟩ := apOut_n h6
 show SlC Try.prog CC order_List_at_v0_sl [] [.i a0, .i a1, .l 72 a2, .l 3 a3] [.v 54 r0]
 rw [show SlC Try.prog CC order_List_at_v0_sl [] [.i a0, .i a1, .l 72 a2, .l 3 a3] [.v 54 r0] = SlC Try.prog CC order_List_at_v0_s0 [] [.i a0, .i a1, .l 72 a2, .l 3 a3] [.v 54 r0] by kernel_rfl]
 exact DnL_by (F := order_List_at_v0_cf) CC_ok SsOk_n (SLOk_c arena_Arena_stamp_Get_v0_ok SLOk_n) t21 (A := order_List_at_v0_an) (sp := order_List_at_v0_s0) rfl (by kernel_rfl) (by kernel_rfl) (Nat.le_of_ble_eq_true (by kernel_rfl)) (fs := []) (env := [.i a0, .i a1, .l 72 a2, .l 3 a3]) (out := [.v 54 r0]) (by kernel_rfl) hF (X := order_List_at_v0_o a0 a1 a2 a3 r0) h7 (by kernel_rfl)
def order_List_between_v0_J1 (z1 : T_order_stamp) (r0 : Int) (r1 : Bool) (r2 : Int) (r3 : List T_arena_slot) (r4 : List Int) (x2 x3 : Int) (x4 : List T_arena_slot) (x5 : List Int) : Prop :=
 ((True)) ∧ (IntKind.u64.wrap (z1.label + (if (1048576 : Int) < (IntKind.u64.wrap ((IntKind.u64.wrap (x2 - z1.label)).tdiv (2 : Int))) then (1048576 : Int) else (IntKind.u64.wrap ((IntKind.u64.wrap (x2 - z1.label)).tdiv (2 : Int)))))) = r0 ∧ (decide ((1 : Int) < (IntKind.u64.wrap (x2 - z1.label)))) = r1 ∧ x3 = r2 ∧ x4 = r3 ∧ x5 = r4
def order_List_between_v0_o (a0 a1 : Int) (a2 : List T_arena_slot) (a3 : List Int) (r0 : Int) (r1 : Bool) (r2 : Int) (r3 : List T_arena_slot) (r4 : List Int) : Prop :=
 ∃ z1, (order_List_at_v0_o a0 a1 a2 a3 z1) ∧ ∀ J1 : Int → Int → (List T_arena_slot) → (List Int) → Prop, (∀ x2 x3 x4 x5, order_List_between_v0_J1 z1 r0 r1 r2 r3 r4 x2 x3 x4 x5 → J1 x2 x3 x4 x5) → cnd (!(z1.next == (-1 : Int))) (∃ z6, (order_List_at_v0_o z1.next a1 a2 a3 z6) ∧ J1 z6.label a1 a2 a3) (J1 (18446744073709551615 : Int) a1 a2 a3)
def order_List_between_v0_J1i (r0 : Int) (r1 : Bool) (r2 : Int) (r3 : List T_arena_slot) (r4 : List Int) (z1 : T_order_stamp) (x2 x3 : Int) (x4 : List T_arena_slot) (x5 : List Int) : Prop :=
 (IntKind.u64.wrap (z1.label + (if (1048576 : Int) < (IntKind.u64.wrap ((IntKind.u64.wrap (x2 - z1.label)).tdiv (2 : Int))) then (1048576 : Int) else (IntKind.u64.wrap ((IntKind.u64.wrap (x2 - z1.label)).tdiv (2 : Int)))))) = r0 ∧ (decide ((1 : Int) < (IntKind.u64.wrap (x2 - z1.label)))) = r1 ∧ x3 = r2 ∧ x4 = r3 ∧ x5 = r4
def order_List_between_v0_oi (a0 a1 : Int) (a2 : List T_arena_slot) (a3 : List Int) (r0 : Int) (r1 : Bool) (r2 : Int) (r3 : List T_arena_slot) (r4 : List Int) : Prop :=
 ∃ z1, (order_List_at_v0_o a0 a1 a2 a3 z1) ∧ cnd (!(z1.next == (-1 : Int))) (∃ z6, (order_List_at_v0_o z1.next a1 a2 a3 z6) ∧ order_List_between_v0_J1i r0 r1 r2 r3 r4 z1 z6.label a1 a2 a3) (order_List_between_v0_J1i r0 r1 r2 r3 r4 z1 (18446744073709551615 : Int) a1 a2 a3)
theorem order_List_between_v0_J1_m (r0 : Int) (r1 : Bool) (r2 : Int) (r3 : List T_arena_slot) (r4 : List Int) (z1 : T_order_stamp) {x2 x3 : Int} {x4 : List T_arena_slot} {x5 : List Int} (h : order_List_between_v0_J1i r0 r1 r2 r3 r4 z1 x2 x3 x4 x5) : order_List_between_v0_J1 z1 r0 r1 r2 r3 r4 x2 x3 x4 x5 := by
 unfold order_List_between_v0_J1
 unfold order_List_between_v0_J1i at h
 exact ⟨by and_intros <;> first | rfl | trivial, h⟩
theorem order_List_between_v0_i (a0 a1 : Int) (a2 : List T_arena_slot) (a3 : List Int) (r0 : Int) (r1 : Bool) (r2 : Int) (r3 : List T_arena_slot) (r4 : List Int) (h : order_List_between_v0_oi a0 a1 a2 a3 r0 r1 r2 r3 r4) : order_List_between_v0_o a0 a1 a2 a3 r0 r1 r2 r3 r4 := by
 unfold order_List_between_v0_o
 unfold order_List_between_v0_oi at h
 obtain ⟨z1, h⟩ := h
 refine ⟨z1, ?_⟩
 obtain ⟨h0, h⟩ := h
 refine ⟨h0, ?_⟩
 intro J1 kJ1
 have hJ1 : ∀ x2 x3 x4 x5, order_List_between_v0_J1i r0 r1 r2 r3 r4 z1 x2 x3 x4 x5 → J1 x2 x3 x4 x5 := fun x2 x3 x4 x5 q => kJ1 x2 x3 x4 x5 (order_List_between_v0_J1_m r0 r1 r2 r3 r4 z1 q)
 refine cnd_mono h (fun h => ?_) (fun h => ?_)
 ·obtain ⟨z6, h⟩ := h
  refine ⟨z6, ?_⟩
  obtain ⟨h0, h⟩ := h
  refine ⟨h0, ?_⟩
  exact hJ1 _ _ _ _ h
 ·exact hJ1 _ _ _ _ h
def order_List_between_v0_s0 : Sl KK := ⟨19, [], ⟨[(0, .px 2000000 0), (1, .it .i64)], [(2000000, 56, [.px 2000001 0]), (2000001, 70, [.it .i64, .row 2000002, .row 2000003])], [(2000002, 72), (2000003, 3)]⟩, ⟨[(4, .it .u64), (5, .bl)], [(2000001, 70, [.it .i64, .row 1000000, .row 1000001])], [(1000000, 72), (1000001, 3)]⟩, [2000000], [(4, none), (5, none)], true, fun _ _ _ => True⟩
def order_List_between_v0_sl : Sl KK := ⟨19, [], ⟨[(0, .px 2000000 0), (1, .it .i64)], [(2000000, 56, [.px 2000001 0]), (2000001, 70, [.it .i64, .row 2000002, .row 2000003])], [(2000002, 72), (2000003, 3)]⟩, ⟨[(4, .it .u64), (5, .bl)], [(2000001, 70, [.it .i64, .row 1000000, .row 1000001])], [(1000000, 72), (1000001, 3)]⟩, [2000000], [(4, none), (5, none)], true, apFs (K := KK) (ctT order_List_between_v0_s0.ti) (ctT order_List_between_v0_s0.te) [] order_List_between_v0_o⟩
def order_List_between_v0_an : An KK := (.s .o (.s .o (.s .o (.j ⟨[(6, .px 6 0), (7, .it .u64)], [(6, 54, [.kp 1, .kp 2, .kp 3]), (2000000, 56, [.px 2000001 0]), (2000001, 70, [.it .i64, .row 2000002, .row 2000003])], [(2000002, 72), (2000003, 3)]⟩ (.s .o (.c .o .o)) (fun _ => (.s .o .o))))))
def order_List_between_v0_cf : Cf KK := ⟨CC, [], [order_List_at_v0_sl], 33, [], none, false⟩
theorem order_List_between_v0_ok : SlOk Try.prog CC order_List_between_v0_sl := by
 intro fs env out hl hF hW
 obtain ⟨rfl, h0⟩ := apFs_n hW
 obtain ⟨a0, ea0, rfl, h1⟩ := apIn_c h0
 obtain ⟨a1, ea1, rfl, h2⟩ := apIn_c h1
 obtain ⟨a2, ea2, rfl, h3⟩ := apIn_c h2
 obtain ⟨a3, ea3, rfl, h4⟩ := apIn_c h3
 obtain ⟨rfl, h5⟩ := apIn_n h4
 obtain ⟨r0, er0, rfl, h6⟩ := apOut_c h5
 obtain ⟨r1, er1, rfl, h7⟩ := apOut_c h6
 obtain ⟨r2, er2, rfl, h8⟩ := apOut_c h7
 obtain ⟨r3, er3, rfl, h9⟩ := apOut_c h8
 obtain ⟨r4, er4, rfl, h10⟩ := apOut_c h9
 obtain ⟨rfl, h11⟩ := apOut_n h10
 show SlC Try.prog CC order_List_between_v0_sl [] [.i a0, .i a1, .l 72 a2, .l 3 a3] [.i r0, .b r1, .i r2, .l 72 r3, .l 3 r4]
 rw [show SlC Try.prog CC order_List_between_v0_sl [] [.i a0, .i a1, .l 72 a2, .l 3 a3] [.i r0, .b r1, .i r2, .l 72 r3, .l 3 r4] = SlC Try.prog CC order_List_between_v0_s0 [] [.i a0, .i a1, .l 72 a2, .l 3 a3] [.i r0, .b r1, .i r2, .l 72 r3, .l 3 r4] by kernel_rfl]
 exact DnL_by (F := order_List_between_v0_cf) CC_ok SsOk_n (SLOk_c order_List_at_v0_ok SLOk_n) t19 (A := order_List_between_v0_an) (sp := order_List_between_v0_s0) rfl (by kernel_rfl) (by kernel_rfl) (Nat.le_of_ble_eq_true (by kernel_rfl)) (fs := []) (env := [.i a0, .i a1, .l 72 a2, .l 3 a3]) (out := [.i r0, .b r1, .i r2, .l 72 r3, .l 3 r4]) (by kernel_rfl) hF (X := order_List_between_v0_o a0 a1 a2 a3 r0 r1 r2 r3 r4) h11 (by kernel_rfl)
def arena_Arena_stamp_Set_v0_o (a0 : Int) (a1 : T_order_stamp) (a2 : Int) (a3 : List T_arena_slot) (a4 : List Int) (r0 : Bool) (r1 : Int) (r2 : List T_arena_slot) : Prop :=
 ∃ z1, (arena_Arena_stamp_has_v0_o a0 a2 a3 a4 z1) ∧ cnd (!z1) ((a4 = a4) ∧ false = r0 ∧ a2 = r1 ∧ a3 = r2) ((0 ≤ a0) ∧ (a0 < (a3.length : Int)) ∧ ∃ y2 : T_arena_slot, (a3[a0.toNat]? = some y2) ∧ (a4 = a4) ∧ true = r0 ∧ a2 = r1 ∧ (a3.set a0.toNat (⟨a1, y2.used⟩ : T_arena_slot)) = r2)
def arena_Arena_stamp_Set_v0_oi (a0 : Int) (a1 : T_order_stamp) (a2 : Int) (a3 : List T_arena_slot) (a4 : List Int) (r0 : Bool) (r1 : Int) (r2 : List T_arena_slot) : Prop :=
 ∃ z1, (arena_Arena_stamp_has_v0_o a0 a2 a3 a4 z1) ∧ cnd (!z1) (false = r0 ∧ a2 = r1 ∧ a3 = r2) ((0 ≤ a0) ∧ (a0 < (a3.length : Int)) ∧ ∃ y2 : T_arena_slot, (a3[a0.toNat]? = some y2) ∧ true = r0 ∧ a2 = r1 ∧ (a3.set a0.toNat (⟨a1, y2.used⟩ : T_arena_slot)) = r2)
theorem arena_Arena_stamp_Set_v0_i (a0 : Int) (a1 : T_order_stamp) (a2 : Int) (a3 : List T_arena_slot) (a4 : List Int) (r0 : Bool) (r1 : Int) (r2 : List T_arena_slot) (h : arena_Arena_stamp_Set_v0_oi a0 a1 a2 a3 a4 r0 r1 r2) : arena_Arena_stamp_Set_v0_o a0 a1 a2 a3 a4 r0 r1 r2 := by
 unfold arena_Arena_stamp_Set_v0_o
 unfold arena_Arena_stamp_Set_v0_oi at h
 obtain ⟨z1, h⟩ := h
 refine ⟨z1, ?_⟩
 obtain ⟨h0, h⟩ := h
 refine ⟨h0, ?_⟩
 refine cnd_mono h (fun h => ?_) (fun h => ?_)
 ·exact ⟨by and_intros <;> first | rfl | trivial, h⟩
 ·obtain ⟨h0, h⟩ := h
  refine ⟨h0, ?_⟩
  obtain ⟨h0, h⟩ := h
  refine ⟨h0, ?_⟩
  obtain ⟨y2, h⟩ := h
  refine ⟨y2, ?_⟩
  obtain ⟨h0, h⟩ := h
  refine ⟨h0, ?_⟩
  exact ⟨by and_intros <;> first | rfl | trivial, h⟩
def arena_Arena_stamp_Set_v0_s0 : Sl KK := ⟨22, [], ⟨[(0, .px 2000000 0), (1, .it .i64), (2, .v 54)], [(2000000, 70, [.it .i64, .row 2000001, .row 2000002])], [(2000001, 72), (2000002, 3)]⟩, ⟨[(6, .bl)], [(2000000, 70, [.it .i64, .row 1000000, .row 2000002])], [(1000000, 72)]⟩, [2000002], [(6, none)], true, fun _ _ _ => True⟩
def arena_Arena_stamp_Set_v0_sl : Sl KK := ⟨22, [], ⟨[(0, .px 2000000 0), (1, .it .i64), (2, .v 54)], [(2000000, 70, [.it .i64, .row 2000001, .row 2000002])], [(2000001, 72), (2000002, 3)]⟩, ⟨[(6, .bl)], [(2000000, 70, [.it .i64, .row 1000000, .row 2000002])], [(1000000, 72)]⟩, [2000002], [(6, none)], true, apFs (K := KK) (ctT arena_Arena_stamp_Set_v0_s0.ti) (ctT arena_Arena_stamp_Set_v0_s0.te) [] arena_Arena_stamp_Set_v0_o⟩
def arena_Arena_stamp_Set_v0_an : An KK := (.s .o (.s (.s .o (.c (.s .o .o) .o)) (.s .o (.s .o .o))))
def arena_Arena_stamp_Set_v0_cf : Cf KK := ⟨CC, [], [arena_Arena_stamp_has_v0_sl], 19, [], none, false⟩
theorem arena_Arena_stamp_Set_v0_ok : SlOk Try.prog CC arena_Arena_stamp_Set_v0_sl := by
 intro fs env out hl hF hW
 obtain ⟨rfl, h0⟩ := apFs_n hW
 obtain ⟨a0, ea0, rfl, h1⟩ := apIn_c h0
 obtain ⟨a1, ea1, rfl, h2⟩ := apIn_c h1
 obtain ⟨a2, ea2, rfl, h3⟩ := apIn_c h2
 obtain ⟨a3, ea3, rfl, h4⟩ := apIn_c h3
 obtain ⟨a4, ea4, rfl, h5⟩ := apIn_c h4
 obtain ⟨rfl, h6⟩ := apIn_n h5
 obtain ⟨r0, er0, rfl, h7⟩ := apOut_c h6
 obtain ⟨r1, er1, rfl, h8⟩ := apOut_c h7
 obtain ⟨r2, er2, rfl, h9⟩ := apOut_c h8
 obtain ⟨rfl, h10⟩ := apOut_n h9
 show SlC Try.prog CC arena_Arena_stamp_Set_v0_sl [] [.i a0, .v 54 a1, .i a2, .l 72 a3, .l 3 a4] [.b r0, .i r1, .l 72 r2]
 rw [show SlC Try.prog CC arena_Arena_stamp_Set_v0_sl [] [.i a0, .v 54 a1, .i a2, .l 72 a3, .l 3 a4] [.b r0, .i r1, .l 72 r2] = SlC Try.prog CC arena_Arena_stamp_Set_v0_s0 [] [.i a0, .v 54 a1, .i a2, .l 72 a3, .l 3 a4] [.b r0, .i r1, .l 72 r2] by kernel_rfl]
 exact DnL_by (F := arena_Arena_stamp_Set_v0_cf) CC_ok SsOk_n (SLOk_c arena_Arena_stamp_has_v0_ok SLOk_n) t22 (A := arena_Arena_stamp_Set_v0_an) (sp := arena_Arena_stamp_Set_v0_s0) rfl (by kernel_rfl) (by kernel_rfl) (Nat.le_of_ble_eq_true (by kernel_rfl)) (fs := []) (env := [.i a0, .v 54 a1, .i a2, .l 72 a3, .l 3 a4]) (out := [.b r0, .i r1, .l 72 r2]) (by kernel_rfl) hF (X := arena_Arena_stamp_Set_v0_o a0 a1 a2 a3 a4 r0 r1 r2) h10 (by kernel_rfl)
def order_List_relabel_v0_L1 (r0 : Int) (r1 : List T_arena_slot) (r2 : List Int) (X1 : Int → Int → Int → (List Int) → (List T_arena_slot) → Prop) (x1 x2 x3 : Int) (x4 : List Int) (x5 : List T_arena_slot) : Prop :=
 cnd (!(x2 == (-1 : Int))) (∃ z6, (order_List_at_v0_o x2 x3 x5 x4 z6) ∧ ∃ z7 z8 z9, (arena_Arena_stamp_Set_v0_o x2 (⟨x1, z6.next, z6.prev⟩ : T_order_stamp) x3 x5 x4 z7 z8 z9) ∧ ∃ z10, (order_List_at_v0_o x2 z8 z9 x4 z10) ∧ X1 (IntKind.u64.wrap (x1 + (1048576 : Int))) z10.next z8 x4 z9) (((True)) ∧ x3 = r0 ∧ x5 = r1 ∧ x4 = r2)
def order_List_relabel_v0_o (a0 : Int) (a1 : List T_arena_slot) (a2 : List Int) (r0 : Int) (r1 : List T_arena_slot) (r2 : List Int) : Prop :=
 ∀ X1 : Int → Int → Int → (List Int) → (List T_arena_slot) → Prop, (∀ x1 x2 x3 x4 x5, order_List_relabel_v0_L1 r0 r1 r2 X1 x1 x2 x3 x4 x5 → X1 x1 x2 x3 x4 x5) → X1 (0 : Int) (0 : Int) a0 a2 a1
def order_List_relabel_v0_L1i (r0 : Int) (r1 : List T_arena_slot) (r2 : List Int) (X1 : Int → Int → Int → (List Int) → (List T_arena_slot) → Prop) (x1 x2 x3 : Int) (x4 : List Int) (x5 : List T_arena_slot) : Prop :=
 cnd (!(x2 == (-1 : Int))) (∃ z6, (order_List_at_v0_o x2 x3 x5 x4 z6) ∧ ∃ z7 z8 z9, (arena_Arena_stamp_Set_v0_o x2 (⟨x1, z6.next, z6.prev⟩ : T_order_stamp) x3 x5 x4 z7 z8 z9) ∧ ∃ z10, (order_List_at_v0_o x2 z8 z9 x4 z10) ∧ X1 (IntKind.u64.wrap (x1 + (1048576 : Int))) z10.next z8 x4 z9) (x3 = r0 ∧ x5 = r1 ∧ x4 = r2)
def order_List_relabel_v0_oi (a0 : Int) (a1 : List T_arena_slot) (a2 : List Int) (r0 : Int) (r1 : List T_arena_slot) (r2 : List Int) : Prop :=
 ∀ X1 : Int → Int → Int → (List Int) → (List T_arena_slot) → Prop, (∀ x1 x2 x3 x4 x5, order_List_relabel_v0_L1i r0 r1 r2 X1 x1 x2 x3 x4 x5 → X1 x1 x2 x3 x4 x5) → X1 (0 : Int) (0 : Int) a0 a2 a1
theorem order_List_relabel_v0_L1_m (r0 : Int) (r1 : List T_arena_slot) (r2 : List Int) {X1 : Int → Int → Int → (List Int) → (List T_arena_slot) → Prop} {x1 x2 x3 : Int} {x4 : List Int} {x5 : List T_arena_slot} (h : order_List_relabel_v0_L1i r0 r1 r2 X1 x1 x2 x3 x4 x5) : order_List_relabel_v0_L1 r0 r1 r2 X1 x1 x2 x3 x4 x5 := by
 unfold order_List_relabel_v0_L1
 unfold order_List_relabel_v0_L1i at h
 refine cnd_mono h (fun h => ?_) (fun h => ?_)
 ·exact h
 ·exact ⟨by and_intros <;> first | rfl | trivial, h⟩
theorem order_List_relabel_v0_i (a0 : Int) (a1 : List T_arena_slot) (a2 : List Int) (r0 : Int) (r1 : List T_arena_slot) (r2 : List Int) (h : order_List_relabel_v0_oi a0 a1 a2 r0 r1 r2) : order_List_relabel_v0_o a0 a1 a2 r0 r1 r2 := by
 unfold order_List_relabel_v0_o
 unfold order_List_relabel_v0_oi at h
 intro X1 k
 exact h X1 (fun x1 x2 x3 x4 x5 q => k x1 x2 x3 x4 x5 (order_List_relabel_v0_L1_m r0 r1 r2 q))
def order_List_relabel_v0_s0 : Sl KK := ⟨20, [], ⟨[(0, .px 2000000 0)], [(2000000, 56, [.px 2000001 0]), (2000001, 70, [.it .i64, .row 2000002, .row 2000003])], [(2000002, 72), (2000003, 3)]⟩, ⟨[], [(2000001, 70, [.it .i64, .row 1000000, .row 1000001])], [(1000000, 72), (1000001, 3)]⟩, [2000000], [], true, fun _ _ _ => True⟩
def order_List_relabel_v0_sl : Sl KK := ⟨20, [], ⟨[(0, .px 2000000 0)], [(2000000, 56, [.px 2000001 0]), (2000001, 70, [.it .i64, .row 2000002, .row 2000003])], [(2000002, 72), (2000003, 3)]⟩, ⟨[], [(2000001, 70, [.it .i64, .row 1000000, .row 1000001])], [(1000000, 72), (1000001, 3)]⟩, [2000000], [], true, apFs (K := KK) (ctT order_List_relabel_v0_s0.ti) (ctT order_List_relabel_v0_s0.te) [] order_List_relabel_v0_o⟩
def order_List_relabel_v0_an : An KK := (.s .o (.s .o (.b (.l ⟨[(0, .px 2000000 0), (2, .it .u64), (3, .it .i64)], [(2000000, 56, [.px 2000001 0]), (2000001, 70, [.it .i64, .row 1001408, .row 2000003])], [(2000003, 3), (1001408, 72)]⟩ (fun _ => (.s (.s .o (.c .o .o)) (.s (.b (.s .o (.s .o (.s .o .o)))) .o)))))))
def order_List_relabel_v0_cf : Cf KK := ⟨CC, [], [order_List_at_v0_sl, arena_Arena_stamp_Set_v0_sl], 25, [], none, false⟩
theorem order_List_relabel_v0_ok : SlOk Try.prog CC order_List_relabel_v0_sl := by
 intro fs env out hl hF hW
 obtain ⟨rfl, h0⟩ := apFs_n hW
 obtain ⟨a0, ea0, rfl, h1⟩ := apIn_c h0
 obtain ⟨a1, ea1, rfl, h2⟩ := apIn_c h1
 obtain ⟨a2, ea2, rfl, h3⟩ := apIn_c h2
 obtain ⟨rfl, h4⟩ := apIn_n h3
 obtain ⟨r0, er0, rfl, h5⟩ := apOut_c h4
 obtain ⟨r1, er1, rfl, h6⟩ := apOut_c h5
 obtain ⟨r2, er2, rfl, h7⟩ := apOut_c h6
 obtain ⟨rfl, h8⟩ := apOut_n h7
 show SlC Try.prog CC order_List_relabel_v0_sl [] [.i a0, .l 72 a1, .l 3 a2] [.i r0, .l 72 r1, .l 3 r2]
 rw [show SlC Try.prog CC order_List_relabel_v0_sl [] [.i a0, .l 72 a1, .l 3 a2] [.i r0, .l 72 r1, .l 3 r2] = SlC Try.prog CC order_List_relabel_v0_s0 [] [.i a0, .l 72 a1, .l 3 a2] [.i r0, .l 72 r1, .l 3 r2] by kernel_rfl]
 exact DnL_by (F := order_List_relabel_v0_cf) CC_ok SsOk_n (SLOk_c order_List_at_v0_ok (SLOk_c arena_Arena_stamp_Set_v0_ok SLOk_n)) t20 (A := order_List_relabel_v0_an) (sp := order_List_relabel_v0_s0) rfl (by kernel_rfl) (by kernel_rfl) (Nat.le_of_ble_eq_true (by kernel_rfl)) (fs := []) (env := [.i a0, .l 72 a1, .l 3 a2]) (out := [.i r0, .l 72 r1, .l 3 r2]) (by kernel_rfl) hF (X := order_List_relabel_v0_o a0 a1 a2 r0 r1 r2) h8 (by kernel_rfl)
def order_List_After_v0_J2 (a0 : Int) (z11 : T_order_stamp) (z12 r0 : Int) (r1 : Bool) (r2 : Int) (r3 : List T_arena_slot) (r4 : List Int) (x17 : Int) (x18 : List T_arena_slot) (x19 : List Int) : Prop :=
 ∃ z20 z21 z22, (arena_Arena_stamp_Set_v0_o a0 (⟨z11.label, z12, z11.prev⟩ : T_order_stamp) x17 x18 x19 z20 z21 z22) ∧ ((True)) ∧ z12 = r0 ∧ true = r1 ∧ z21 = r2 ∧ z22 = r3 ∧ x19 = r4
def order_List_After_v0_J1 (a0 r0 : Int) (r1 : Bool) (r2 : Int) (r3 : List T_arena_slot) (r4 : List Int) (x7 x8 : Int) (x9 : List T_arena_slot) (x10 : List Int) : Prop :=
 ∃ z11, (order_List_at_v0_o a0 x8 x9 x10 z11) ∧ ∃ z12 z13 z14 z15 z16, (arena_Arena_stamp_Alloc_v0_o (⟨x7, z11.next, a0⟩ : T_order_stamp) x8 x9 x10 z12 z13 z14 z15 z16) ∧ cnd (!z13) (((True)) ∧ (0 : Int) = r0 ∧ false = r1 ∧ z14 = r2 ∧ z15 = r3 ∧ z16 = r4) (∀ J2 : Int → (List T_arena_slot) → (List Int) → Prop, (∀ x17 x18 x19, order_List_After_v0_J2 a0 z11 z12 r0 r1 r2 r3 r4 x17 x18 x19 → J2 x17 x18 x19) → cnd (!(z11.next == (-1 : Int))) (∃ z23, (order_List_at_v0_o z11.next z14 z15 z16 z23) ∧ ∃ z24 z25 z26, (arena_Arena_stamp_Set_v0_o z11.next (⟨z23.label, z23.next, z12⟩ : T_order_stamp) z14 z15 z16 z24 z25 z26) ∧ J2 z25 z26 z16) (J2 z14 z15 z16))
def order_List_After_v0_o (a0 a1 : Int) (a2 : List T_arena_slot) (a3 : List Int) (r0 : Int) (r1 : Bool) (r2 : Int) (r3 : List T_arena_slot) (r4 : List Int) : Prop :=
 ∃ z1, (order_List_Has_v0_o a0 a1 a2 a3 z1) ∧ cnd (!z1) (((True)) ∧ (0 : Int) = r0 ∧ false = r1 ∧ a1 = r2 ∧ a2 = r3 ∧ a3 = r4) (∃ z2 z3 z4 z5 z6, (order_List_between_v0_o a0 a1 a2 a3 z2 z3 z4 z5 z6) ∧ ∀ J1 : Int → Int → (List T_arena_slot) → (List Int) → Prop, (∀ x7 x8 x9 x10, order_List_After_v0_J1 a0 r0 r1 r2 r3 r4 x7 x8 x9 x10 → J1 x7 x8 x9 x10) → cnd (!z3) (∃ z27 z28 z29, (order_List_relabel_v0_o z4 z5 z6 z27 z28 z29) ∧ ∃ z30 z31 z32 z33 z34, (order_List_between_v0_o a0 z27 z28 z29 z30 z31 z32 z33 z34) ∧ J1 z30 z32 z33 z34) (J1 z2 z4 z5 z6))
def order_List_After_v0_J2i (a0 r0 : Int) (r1 : Bool) (r2 : Int) (r3 : List T_arena_slot) (r4 : List Int) (z11 : T_order_stamp) (z12 x17 : Int) (x18 : List T_arena_slot) (x19 : List Int) : Prop :=
 ∃ z20 z21 z22, (arena_Arena_stamp_Set_v0_o a0 (⟨z11.label, z12, z11.prev⟩ : T_order_stamp) x17 x18 x19 z20 z21 z22) ∧ z12 = r0 ∧ true = r1 ∧ z21 = r2 ∧ z22 = r3 ∧ x19 = r4
def order_List_After_v0_J1i (a0 r0 : Int) (r1 : Bool) (r2 : Int) (r3 : List T_arena_slot) (r4 : List Int) (x7 x8 : Int) (x9 : List T_arena_slot) (x10 : List Int) : Prop :=
 ∃ z11, (order_List_at_v0_o a0 x8 x9 x10 z11) ∧ ∃ z12 z13 z14 z15 z16, (arena_Arena_stamp_Alloc_v0_o (⟨x7, z11.next, a0⟩ : T_order_stamp) x8 x9 x10 z12 z13 z14 z15 z16) ∧ cnd (!z13) ((0 : Int) = r0 ∧ false = r1 ∧ z14 = r2 ∧ z15 = r3 ∧ z16 = r4) (cnd (!(z11.next == (-1 : Int))) (∃ z23, (order_List_at_v0_o z11.next z14 z15 z16 z23) ∧ ∃ z24 z25 z26, (arena_Arena_stamp_Set_v0_o z11.next (⟨z23.label, z23.next, z12⟩ : T_order_stamp) z14 z15 z16 z24 z25 z26) ∧ order_List_After_v0_J2i a0 r0 r1 r2 r3 r4 z11 z12 z25 z26 z16) (order_List_After_v0_J2i a0 r0 r1 r2 r3 r4 z11 z12 z14 z15 z16))
def order_List_After_v0_oi (a0 a1 : Int) (a2 : List T_arena_slot) (a3 : List Int) (r0 : Int) (r1 : Bool) (r2 : Int) (r3 : List T_arena_slot) (r4 : List Int) : Prop :=
 ∃ z1, (order_List_Has_v0_o a0 a1 a2 a3 z1) ∧ cnd (!z1) ((0 : Int) = r0 ∧ false = r1 ∧ a1 = r2 ∧ a2 = r3 ∧ a3 = r4) (∃ z2 z3 z4 z5 z6, (order_List_between_v0_o a0 a1 a2 a3 z2 z3 z4 z5 z6) ∧ cnd (!z3) (∃ z27 z28 z29, (order_List_relabel_v0_o z4 z5 z6 z27 z28 z29) ∧ ∃ z30 z31 z32 z33 z34, (order_List_between_v0_o a0 z27 z28 z29 z30 z31 z32 z33 z34) ∧ order_List_After_v0_J1i a0 r0 r1 r2 r3 r4 z30 z32 z33 z34) (order_List_After_v0_J1i a0 r0 r1 r2 r3 r4 z2 z4 z5 z6))
theorem order_List_After_v0_J2_m (a0 r0 : Int) (r1 : Bool) (r2 : Int) (r3 : List T_arena_slot) (r4 : List Int) (z11 : T_order_stamp) (z12 : Int) {x17 : Int} {x18 : List T_arena_slot} {x19 : List Int} (h : order_List_After_v0_J2i a0 r0 r1 r2 r3 r4 z11 z12 x17 x18 x19) : order_List_After_v0_J2 a0 z11 z12 r0 r1 r2 r3 r4 x17 x18 x19 := by
 unfold order_List_After_v0_J2
 unfold order_List_After_v0_J2i at h
 obtain ⟨z20, h⟩ := h
 refine ⟨z20, ?_⟩
 obtain ⟨z21, h⟩ := h
 refine ⟨z21, ?_⟩
 obtain ⟨z22, h⟩ := h
 refine ⟨z22, ?_⟩
 obtain ⟨h0, h⟩ := h
 refine ⟨h0, ?_⟩
 exact ⟨by and_intros <;> first | rfl | trivial, h⟩
theorem order_List_After_v0_J1_m (a0 r0 : Int) (r1 : Bool) (r2 : Int) (r3 : List T_arena_slot) (r4 : List Int) {x7 x8 : Int} {x9 : List T_arena_slot} {x10 : List Int} (h : order_List_After_v0_J1i a0 r0 r1 r2 r3 r4 x7 x8 x9 x10) : order_List_After_v0_J1 a0 r0 r1 r2 r3 r4 x7 x8 x9 x10 := by
 unfold order_List_After_v0_J1
 unfold order_List_After_v0_J1i at h
 obtain ⟨z11, h⟩ := h
 refine ⟨z11, ?_⟩
 obtain ⟨h0, h⟩ := h
 refine ⟨h0, ?_⟩
 obtain ⟨z12, h⟩ := h
 refine ⟨z12, ?_⟩
 obtain ⟨z13, h⟩ := h
 refine ⟨z13, ?_⟩
 obtain ⟨z14, h⟩ := h
 refine ⟨z14, ?_⟩
 obtain ⟨z15, h⟩ := h
 refine ⟨z15, ?_⟩
 obtain ⟨z16, h⟩ := h
 refine ⟨z16, ?_⟩
 obtain ⟨h0, h⟩ := h
 refine ⟨h0, ?_⟩
 refine cnd_mono h (fun h => ?_) (fun h => ?_)
 ·exact ⟨by and_intros <;> first | rfl | trivial, h⟩
 ·intro J2 kJ2
  have hJ2 : ∀ x17 x18 x19, order_List_After_v0_J2i a0 r0 r1 r2 r3 r4 z11 z12 x17 x18 x19 → J2 x17 x18 x19 := fun x17 x18 x19 q => kJ2 x17 x18 x19 (order_List_After_v0_J2_m a0 r0 r1 r2 r3 r4 z11 z12 q)
  refine cnd_mono h (fun h => ?_) (fun h => ?_)
  ·obtain ⟨z23, h⟩ := h
   refine ⟨z23, ?_⟩
   obtain ⟨h0, h⟩ := h
   refine ⟨h0, ?_⟩
   obtain ⟨z24, h⟩ := h
   refine ⟨z24, ?_⟩
   obtain ⟨z25, h⟩ := h
   refine ⟨z25, ?_⟩
   obtain ⟨z26, h⟩ := h
   refine ⟨z26, ?_⟩
   obtain ⟨h0, h⟩ := h
   refine ⟨h0, ?_⟩
   exact hJ2 _ _ _ h
  ·exact hJ2 _ _ _ h
theorem order_List_After_v0_i (a0 a1 : Int) (a2 : List T_arena_slot) (a3 : List Int) (r0 : Int) (r1 : Bool) (r2 : Int) (r3 : List T_arena_slot) (r4 : List Int) (h : order_List_After_v0_oi a0 a1 a2 a3 r0 r1 r2 r3 r4) : order_List_After_v0_o a0 a1 a2 a3 r0 r1 r2 r3 r4 := by
 unfold order_List_After_v0_o
 unfold order_List_After_v0_oi at h
 obtain ⟨z1, h⟩ := h
 refine ⟨z1, ?_⟩
 obtain ⟨h0, h⟩ := h
 refine ⟨h0, ?_⟩
 refine cnd_mono h (fun h => ?_) (fun h => ?_)
 ·exact ⟨by and_intros <;> first | rfl | trivial, h⟩
 ·obtain ⟨z2, h⟩ := h
  refine ⟨z2, ?_⟩
  obtain ⟨z3, h⟩ := h
  refine ⟨z3, ?_⟩
  obtain ⟨z4, h⟩ := h
  refine ⟨z4, ?_⟩
  obtain ⟨z5, h⟩ := h
  refine ⟨z5, ?_⟩
  obtain ⟨z6, h⟩ := h
  refine ⟨z6, ?_⟩
  obtain ⟨h0, h⟩ := h
  refine ⟨h0, ?_⟩
  intro J1 kJ1
  have hJ1 : ∀ x7 x8 x9 x10, order_List_After_v0_J1i a0 r0 r1 r2 r3 r4 x7 x8 x9 x10 → J1 x7 x8 x9 x10 := fun x7 x8 x9 x10 q => kJ1 x7 x8 x9 x10 (order_List_After_v0_J1_m a0 r0 r1 r2 r3 r4 q)
  refine cnd_mono h (fun h => ?_) (fun h => ?_)
  ·obtain ⟨z27, h⟩ := h
   refine ⟨z27, ?_⟩
   obtain ⟨z28, h⟩ := h
   refine ⟨z28, ?_⟩
   obtain ⟨z29, h⟩ := h
   refine ⟨z29, ?_⟩
   obtain ⟨h0, h⟩ := h
   refine ⟨h0, ?_⟩
   obtain ⟨z30, h⟩ := h
   refine ⟨z30, ?_⟩
   obtain ⟨z31, h⟩ := h
   refine ⟨z31, ?_⟩
   obtain ⟨z32, h⟩ := h
   refine ⟨z32, ?_⟩
   obtain ⟨z33, h⟩ := h
   refine ⟨z33, ?_⟩
   obtain ⟨z34, h⟩ := h
   refine ⟨z34, ?_⟩
   obtain ⟨h0, h⟩ := h
   refine ⟨h0, ?_⟩
   exact hJ1 _ _ _ _ h
  ·exact hJ1 _ _ _ _ h
def order_List_After_v0_s0 : Sl KK := ⟨7, [], ⟨[(0, .px 2000000 0), (1, .it .i64)], [(2000000, 56, [.px 2000001 0]), (2000001, 70, [.it .i64, .row 2000002, .row 2000003])], [(2000002, 72), (2000003, 3)]⟩, ⟨[(4, .it .i64), (5, .bl)], [(2000001, 70, [.it .i64, .row 1000000, .row 1000001])], [(1000000, 72), (1000001, 3)]⟩, [2000000], [(4, none), (5, none)], true, fun _ _ _ => True⟩
def order_List_After_v0_sl : Sl KK := ⟨7, [], ⟨[(0, .px 2000000 0), (1, .it .i64)], [(2000000, 56, [.px 2000001 0]), (2000001, 70, [.it .i64, .row 2000002, .row 2000003])], [(2000002, 72), (2000003, 3)]⟩, ⟨[(4, .it .i64), (5, .bl)], [(2000001, 70, [.it .i64, .row 1000000, .row 1000001])], [(1000000, 72), (1000001, 3)]⟩, [2000000], [(4, none), (5, none)], true, apFs (K := KK) (ctT order_List_After_v0_s0.ti) (ctT order_List_After_v0_s0.te) [] order_List_After_v0_o⟩
def order_List_After_v0_an : An KK := (.s .o (.s (.s .o (.c (.s .o .o) .o)) (.s .o (.j ⟨[(0, .px 2000000 0), (1, .kp 1), (6, .it .u64)], [(2000000, 56, [.px 2000001 0]), (2000001, 70, [.it .i64, .row 1001792, .row 1001793])], [(1001792, 72), (1001793, 3)]⟩ (.s .o (.c (.s .o .o) .o)) (fun _ => (.s .o (.s .o (.s (.s .o (.c (.s .o .o) .o)) (.j ⟨[(0, .px 2000000 0), (1, .kp 1), (8, .px 8 0), (9, .kp 2)], [(2000000, 56, [.px 2000001 0]), (8, 54, [.kp 3, .kp 4, .kp 5]), (2000001, 70, [.it .i64, .row 1004160, .row 1002817])], [(1004160, 72), (1002817, 3)]⟩ (.s .o (.c (.s .o (.s .o .o)) .o)) (fun _ => (.s .o (.s .o (.s .o .o)))))))))))))
def order_List_After_v0_cf : Cf KK := ⟨CC, [], [order_List_Has_v0_sl, order_List_between_v0_sl, order_List_relabel_v0_sl, order_List_at_v0_sl, arena_Arena_stamp_Alloc_v0_sl, arena_Arena_stamp_Set_v0_sl], 76, [], none, false⟩
theorem order_List_After_v0_ok : SlOk Try.prog CC order_List_After_v0_sl := by
 intro fs env out hl hF hW
 obtain ⟨rfl, h0⟩ := apFs_n hW
 obtain ⟨a0, ea0, rfl, h1⟩ := apIn_c h0
 obtain ⟨a1, ea1, rfl, h2⟩ := apIn_c h1
 obtain ⟨a2, ea2, rfl, h3⟩ := apIn_c h2
 obtain ⟨a3, ea3, rfl, h4⟩ := apIn_c h3
 obtain ⟨rfl, h5⟩ := apIn_n h4
 obtain ⟨r0, er0, rfl, h6⟩ := apOut_c h5
 obtain ⟨r1, er1, rfl, h7⟩ := apOut_c h6
 obtain ⟨r2, er2, rfl, h8⟩ := apOut_c h7
 obtain ⟨r3, er3, rfl, h9⟩ := apOut_c h8
 obtain ⟨r4, er4, rfl, h10⟩ := apOut_c h9
 obtain ⟨rfl, h11⟩ := apOut_n h10
 show SlC Try.prog CC order_List_After_v0_sl [] [.i a0, .i a1, .l 72 a2, .l 3 a3] [.i r0, .b r1, .i r2, .l 72 r3, .l 3 r4]
 rw [show SlC Try.prog CC order_List_After_v0_sl [] [.i a0, .i a1, .l 72 a2, .l 3 a3] [.i r0, .b r1, .i r2, .l 72 r3, .l 3 r4] = SlC Try.prog CC order_List_After_v0_s0 [] [.i a0, .i a1, .l 72 a2, .l 3 a3] [.i r0, .b r1, .i r2, .l 72 r3, .l 3 r4] by kernel_rfl]
 exact DnL_by (F := order_List_After_v0_cf) CC_ok SsOk_n (SLOk_c order_List_Has_v0_ok (SLOk_c order_List_between_v0_ok (SLOk_c order_List_relabel_v0_ok (SLOk_c order_List_at_v0_ok (SLOk_c arena_Arena_stamp_Alloc_v0_ok (SLOk_c arena_Arena_stamp_Set_v0_ok SLOk_n)))))) t7 (A := order_List_After_v0_an) (sp := order_List_After_v0_s0) rfl (by kernel_rfl) (by kernel_rfl) (Nat.le_of_ble_eq_true (by kernel_rfl)) (fs := []) (env := [.i a0, .i a1, .l 72 a2, .l 3 a3]) (out := [.i r0, .b r1, .i r2, .l 72 r3, .l 3 r4]) (by kernel_rfl) hF (X := order_List_After_v0_o a0 a1 a2 a3 r0 r1 r2 r3 r4) h11 (by kernel_rfl)
def order_List_Less_v0_o (a0 a1 a2 : Int) (a3 : List T_arena_slot) (a4 : List Int) (r0 : Bool) : Prop :=
 ∃ z1, (order_List_Has_v0_o a0 a2 a3 a4 z1) ∧ cnd z1 (∃ z2, (order_List_Has_v0_o a1 a2 a3 a4 z2) ∧ cnd z2 (∃ z3, (order_List_at_v0_o a0 a2 a3 a4 z3) ∧ ∃ z4, (order_List_at_v0_o a1 a2 a3 a4 z4) ∧ ((True)) ∧ ((a2 = a2) ∧ (True) ∧ (True)) ∧ (a3 = a3) ∧ (a4 = a4) ∧ (decide (z3.label < z4.label)) = r0) (((True)) ∧ ((a2 = a2) ∧ (True) ∧ (True)) ∧ (a3 = a3) ∧ (a4 = a4) ∧ false = r0)) (((True)) ∧ ((a2 = a2) ∧ (True) ∧ (True)) ∧ (a3 = a3) ∧ (a4 = a4) ∧ false = r0)
def order_List_Less_v0_oi (a0 a1 a2 : Int) (a3 : List T_arena_slot) (a4 : List Int) (r0 : Bool) : Prop :=
 ∃ z1, (order_List_Has_v0_o a0 a2 a3 a4 z1) ∧ cnd z1 (∃ z2, (order_List_Has_v0_o a1 a2 a3 a4 z2) ∧ cnd z2 (∃ z3, (order_List_at_v0_o a0 a2 a3 a4 z3) ∧ ∃ z4, (order_List_at_v0_o a1 a2 a3 a4 z4) ∧ (decide (z3.label < z4.label)) = r0) (false = r0)) (false = r0)
theorem order_List_Less_v0_i (a0 a1 a2 : Int) (a3 : List T_arena_slot) (a4 : List Int) (r0 : Bool) (h : order_List_Less_v0_oi a0 a1 a2 a3 a4 r0) : order_List_Less_v0_o a0 a1 a2 a3 a4 r0 := by
 unfold order_List_Less_v0_o
 unfold order_List_Less_v0_oi at h
 obtain ⟨z1, h⟩ := h
 refine ⟨z1, ?_⟩
 obtain ⟨h0, h⟩ := h
 refine ⟨h0, ?_⟩
 refine cnd_mono h (fun h => ?_) (fun h => ?_)
 ·obtain ⟨z2, h⟩ := h
  refine ⟨z2, ?_⟩
  obtain ⟨h0, h⟩ := h
  refine ⟨h0, ?_⟩
  refine cnd_mono h (fun h => ?_) (fun h => ?_)
  ·obtain ⟨z3, h⟩ := h
   refine ⟨z3, ?_⟩
   obtain ⟨h0, h⟩ := h
   refine ⟨h0, ?_⟩
   obtain ⟨z4, h⟩ := h
   refine ⟨z4, ?_⟩
   obtain ⟨h0, h⟩ := h
   refine ⟨h0, ?_⟩
   exact ⟨by and_intros <;> first | rfl | trivial, ⟨by and_intros <;> first | rfl | trivial, ⟨by and_intros <;> first | rfl | trivial, ⟨by and_intros <;> first | rfl | trivial, h⟩⟩⟩⟩
  ·exact ⟨by and_intros <;> first | rfl | trivial, ⟨by and_intros <;> first | rfl | trivial, ⟨by and_intros <;> first | rfl | trivial, ⟨by and_intros <;> first | rfl | trivial, h⟩⟩⟩⟩
 ·exact ⟨by and_intros <;> first | rfl | trivial, ⟨by and_intros <;> first | rfl | trivial, ⟨by and_intros <;> first | rfl | trivial, ⟨by and_intros <;> first | rfl | trivial, h⟩⟩⟩⟩
def order_List_Less_v0_s0 : Sl KK := ⟨8, [], ⟨[(0, .px 2000000 0), (1, .it .i64), (2, .it .i64)], [(2000000, 56, [.px 2000001 0]), (2000001, 70, [.it .i64, .row 2000002, .row 2000003])], [(2000002, 72), (2000003, 3)]⟩, ⟨[(6, .bl)], [], []⟩, [2000000, 2000001, 2000002, 2000003], [(6, none)], true, fun _ _ _ => True⟩
def order_List_Less_v0_sl : Sl KK := ⟨8, [], ⟨[(0, .px 2000000 0), (1, .it .i64), (2, .it .i64)], [(2000000, 56, [.px 2000001 0]), (2000001, 70, [.it .i64, .row 2000002, .row 2000003])], [(2000002, 72), (2000003, 3)]⟩, ⟨[(6, .bl)], [], []⟩, [2000000, 2000001, 2000002, 2000003], [(6, none)], true, apFs (K := KK) (ctT order_List_Less_v0_s0.ti) (ctT order_List_Less_v0_s0.te) [] order_List_Less_v0_o⟩
def order_List_Less_v0_an : An KK := (.s .o (.s .o .o))
def order_List_Less_v0_cf : Cf KK := ⟨CC, [], [order_List_Has_v0_sl, order_List_at_v0_sl], 26, [], none, false⟩
theorem order_List_Less_v0_ok : SlOk Try.prog CC order_List_Less_v0_sl := by
 intro fs env out hl hF hW
 obtain ⟨rfl, h0⟩ := apFs_n hW
 obtain ⟨a0, ea0, rfl, h1⟩ := apIn_c h0
 obtain ⟨a1, ea1, rfl, h2⟩ := apIn_c h1
 obtain ⟨a2, ea2, rfl, h3⟩ := apIn_c h2
 obtain ⟨a3, ea3, rfl, h4⟩ := apIn_c h3
 obtain ⟨a4, ea4, rfl, h5⟩ := apIn_c h4
 obtain ⟨rfl, h6⟩ := apIn_n h5
 obtain ⟨r0, er0, rfl, h7⟩ := apOut_c h6
 obtain ⟨rfl, h8⟩ := apOut_n h7
 show SlC Try.prog CC order_List_Less_v0_sl [] [.i a0, .i a1, .i a2, .l 72 a3, .l 3 a4] [.b r0]
 rw [show SlC Try.prog CC order_List_Less_v0_sl [] [.i a0, .i a1, .i a2, .l 72 a3, .l 3 a4] [.b r0] = SlC Try.prog CC order_List_Less_v0_s0 [] [.i a0, .i a1, .i a2, .l 72 a3, .l 3 a4] [.b r0] by kernel_rfl]
 exact DnL_by (F := order_List_Less_v0_cf) CC_ok SsOk_n (SLOk_c order_List_Has_v0_ok (SLOk_c order_List_at_v0_ok SLOk_n)) t8 (A := order_List_Less_v0_an) (sp := order_List_Less_v0_s0) rfl (by kernel_rfl) (by kernel_rfl) (Nat.le_of_ble_eq_true (by kernel_rfl)) (fs := []) (env := [.i a0, .i a1, .i a2, .l 72 a3, .l 3 a4]) (out := [.b r0]) (by kernel_rfl) hF (X := order_List_Less_v0_o a0 a1 a2 a3 a4 r0) h8 (by kernel_rfl)
def order_List_Len_v0_o (a0 : Int) (a1 : List T_arena_slot) (a2 : List Int) (r0 : Int) : Prop :=
 ∃ z1, (arena_Arena_stamp_Live_v0_o a0 a1 a2 z1) ∧ ((True)) ∧ ((a0 = a0) ∧ (True) ∧ (True)) ∧ (a1 = a1) ∧ (a2 = a2) ∧ z1 = r0
def order_List_Len_v0_oi (a0 : Int) (a1 : List T_arena_slot) (a2 : List Int) (r0 : Int) : Prop :=
 ∃ z1, (arena_Arena_stamp_Live_v0_o a0 a1 a2 z1) ∧ z1 = r0
theorem order_List_Len_v0_i (a0 : Int) (a1 : List T_arena_slot) (a2 : List Int) (r0 : Int) (h : order_List_Len_v0_oi a0 a1 a2 r0) : order_List_Len_v0_o a0 a1 a2 r0 := by
 unfold order_List_Len_v0_o
 unfold order_List_Len_v0_oi at h
 obtain ⟨z1, h⟩ := h
 refine ⟨z1, ?_⟩
 obtain ⟨h0, h⟩ := h
 refine ⟨h0, ?_⟩
 exact ⟨by and_intros <;> first | rfl | trivial, ⟨by and_intros <;> first | rfl | trivial, ⟨by and_intros <;> first | rfl | trivial, ⟨by and_intros <;> first | rfl | trivial, h⟩⟩⟩⟩
def order_List_Len_v0_s0 : Sl KK := ⟨10, [], ⟨[(0, .px 2000000 0)], [(2000000, 56, [.px 2000001 0]), (2000001, 70, [.it .i64, .row 2000002, .row 2000003])], [(2000002, 72), (2000003, 3)]⟩, ⟨[(2, .it .i64)], [], []⟩, [2000000, 2000001, 2000002, 2000003], [(2, none)], true, fun _ _ _ => True⟩
def order_List_Len_v0_sl : Sl KK := ⟨10, [], ⟨[(0, .px 2000000 0)], [(2000000, 56, [.px 2000001 0]), (2000001, 70, [.it .i64, .row 2000002, .row 2000003])], [(2000002, 72), (2000003, 3)]⟩, ⟨[(2, .it .i64)], [], []⟩, [2000000, 2000001, 2000002, 2000003], [(2, none)], true, apFs (K := KK) (ctT order_List_Len_v0_s0.ti) (ctT order_List_Len_v0_s0.te) [] order_List_Len_v0_o⟩
def order_List_Len_v0_an : An KK := (.s .o (.s (.s .o (.c (.s .o .o) .o)) (.s .o .o)))
def order_List_Len_v0_cf : Cf KK := ⟨CC, [], [arena_Arena_stamp_Live_v0_sl], 10, [], none, false⟩
theorem order_List_Len_v0_ok : SlOk Try.prog CC order_List_Len_v0_sl := by
 intro fs env out hl hF hW
 obtain ⟨rfl, h0⟩ := apFs_n hW
 obtain ⟨a0, ea0, rfl, h1⟩ := apIn_c h0
 obtain ⟨a1, ea1, rfl, h2⟩ := apIn_c h1
 obtain ⟨a2, ea2, rfl, h3⟩ := apIn_c h2
 obtain ⟨rfl, h4⟩ := apIn_n h3
 obtain ⟨r0, er0, rfl, h5⟩ := apOut_c h4
 obtain ⟨rfl, h6⟩ := apOut_n h5
 show SlC Try.prog CC order_List_Len_v0_sl [] [.i a0, .l 72 a1, .l 3 a2] [.i r0]
 rw [show SlC Try.prog CC order_List_Len_v0_sl [] [.i a0, .l 72 a1, .l 3 a2] [.i r0] = SlC Try.prog CC order_List_Len_v0_s0 [] [.i a0, .l 72 a1, .l 3 a2] [.i r0] by kernel_rfl]
 exact DnL_by (F := order_List_Len_v0_cf) CC_ok SsOk_n (SLOk_c arena_Arena_stamp_Live_v0_ok SLOk_n) t10 (A := order_List_Len_v0_an) (sp := order_List_Len_v0_s0) rfl (by kernel_rfl) (by kernel_rfl) (Nat.le_of_ble_eq_true (by kernel_rfl)) (fs := []) (env := [.i a0, .l 72 a1, .l 3 a2]) (out := [.i r0]) (by kernel_rfl) hF (X := order_List_Len_v0_o a0 a1 a2 r0) h6 (by kernel_rfl)
def law02_speaks_J1 (r0 x14 : Bool) : Prop :=
 x14 = r0
def law02_speaks_o (r0 : Bool) : Prop :=
 ∃ z1 z2 z3, (order_New_v0_o z1 z2 z3) ∧ ∃ z4 z5 z6 z7 z8, (order_List_After_v0_o (0 : Int) z1 z2 z3 z4 z5 z6 z7 z8) ∧ ∃ z9 z10 z11 z12 z13, (order_List_After_v0_o (0 : Int) z6 z7 z8 z9 z10 z11 z12 z13) ∧ ∀ J1 : Bool → Prop, (∀ x14, law02_speaks_J1 r0 x14 → J1 x14) → cnd z5 (cnd z10 (cnd (z4 == (1 : Int)) (cnd (z9 == (2 : Int)) (∃ z15, (order_List_Less_v0_o z9 z4 z11 z12 z13 z15) ∧ cnd z15 (∃ z16, (order_List_Less_v0_o z4 z9 z11 z12 z13 z16) ∧ cnd (!z16) (∃ z17, (order_List_Len_v0_o z11 z12 z13 z17) ∧ J1 (z17 == (3 : Int))) (J1 false)) (J1 false)) (J1 false)) (J1 false)) (J1 false)) (J1 false)
def law02_speaks_J1i (r0 x14 : Bool) : Prop :=
 x14 = r0
def law02_speaks_oi (r0 : Bool) : Prop :=
 ∃ z1 z2 z3, (order_New_v0_o z1 z2 z3) ∧ ∃ z4 z5 z6 z7 z8, (order_List_After_v0_o (0 : Int) z1 z2 z3 z4 z5 z6 z7 z8) ∧ ∃ z9 z10 z11 z12 z13, (order_List_After_v0_o (0 : Int) z6 z7 z8 z9 z10 z11 z12 z13) ∧ cnd z5 (cnd z10 (cnd (z4 == (1 : Int)) (cnd (z9 == (2 : Int)) (∃ z15, (order_List_Less_v0_o z9 z4 z11 z12 z13 z15) ∧ cnd z15 (∃ z16, (order_List_Less_v0_o z4 z9 z11 z12 z13 z16) ∧ cnd (!z16) (∃ z17, (order_List_Len_v0_o z11 z12 z13 z17) ∧ law02_speaks_J1i r0 (z17 == (3 : Int))) (law02_speaks_J1i r0 false)) (law02_speaks_J1i r0 false)) (law02_speaks_J1i r0 false)) (law02_speaks_J1i r0 false)) (law02_speaks_J1i r0 false)) (law02_speaks_J1i r0 false)
theorem law02_speaks_J1_m (r0 : Bool) {x14 : Bool} (h : law02_speaks_J1i r0 x14) : law02_speaks_J1 r0 x14 := by
 unfold law02_speaks_J1
 unfold law02_speaks_J1i at h
 exact h
theorem law02_speaks_i (r0 : Bool) (h : law02_speaks_oi r0) : law02_speaks_o r0 := by
 unfold law02_speaks_o
 unfold law02_speaks_oi at h
 obtain ⟨z1, h⟩ := h
 refine ⟨z1, ?_⟩
 obtain ⟨z2, h⟩ := h
 refine ⟨z2, ?_⟩
 obtain ⟨z3, h⟩ := h
 refine ⟨z3, ?_⟩
 obtain ⟨h0, h⟩ := h
 refine ⟨h0, ?_⟩
 obtain ⟨z4, h⟩ := h
 refine ⟨z4, ?_⟩
 obtain ⟨z5, h⟩ := h
 refine ⟨z5, ?_⟩
 obtain ⟨z6, h⟩ := h
 refine ⟨z6, ?_⟩
 obtain ⟨z7, h⟩ := h
 refine ⟨z7, ?_⟩
 obtain ⟨z8, h⟩ := h
 refine ⟨z8, ?_⟩
 obtain ⟨h0, h⟩ := h
 refine ⟨h0, ?_⟩
 obtain ⟨z9, h⟩ := h
 refine ⟨z9, ?_⟩
 obtain ⟨z10, h⟩ := h
 refine ⟨z10, ?_⟩
 obtain ⟨z11, h⟩ := h
 refine ⟨z11, ?_⟩
 obtain ⟨z12, h⟩ := h
 refine ⟨z12, ?_⟩
 obtain ⟨z13, h⟩ := h
 refine ⟨z13, ?_⟩
 obtain ⟨h0, h⟩ := h
 refine ⟨h0, ?_⟩
 intro J1 kJ1
 have hJ1 : ∀ x14, law02_speaks_J1i r0 x14 → J1 x14 := fun x14 q => kJ1 x14 (law02_speaks_J1_m r0 q)
 refine cnd_mono h (fun h => ?_) (fun h => ?_)
 ·refine cnd_mono h (fun h => ?_) (fun h => ?_)
  ·refine cnd_mono h (fun h => ?_) (fun h => ?_)
   ·refine cnd_mono h (fun h => ?_) (fun h => ?_)
    ·obtain ⟨z15, h⟩ := h
     refine ⟨z15, ?_⟩
     obtain ⟨h0, h⟩ := h
     refine ⟨h0, ?_⟩
     refine cnd_mono h (fun h => ?_) (fun h => ?_)
     ·obtain ⟨z16, h⟩ := h
      refine ⟨z16, ?_⟩
      obtain ⟨h0, h⟩ := h
      refine ⟨h0, ?_⟩
      refine cnd_mono h (fun h => ?_) (fun h => ?_)
      ·obtain ⟨z17, h⟩ := h
       refine ⟨z17, ?_⟩
       obtain ⟨h0, h⟩ := h
       refine ⟨h0, ?_⟩
       exact hJ1 _ h
      ·exact hJ1 _ h
     ·exact hJ1 _ h
    ·exact hJ1 _ h
   ·exact hJ1 _ h
  ·exact hJ1 _ h
 ·exact hJ1 _ h
def law02_speaks_sp : Sp KK := ⟨5, [], [4], appW (K := KK) [4] [] law02_speaks_o⟩
def law02_speaks_an : An KK := (.s .o (.s .o (.s .o (.s .o (.j ⟨[(0, .bl)], [], []⟩ .o (fun _ => .o))))))
def law02_speaks_cf : Cf KK := ⟨CC, [], [order_New_v0_sl, order_List_After_v0_sl, order_List_Less_v0_sl, order_List_Len_v0_sl], 47, [], none, false⟩
theorem law02_speaks_ok : SpOk Try.prog CC law02_speaks_sp := SpOk_by (F := law02_speaks_cf) (ps := []) (rs := [4]) (w := law02_speaks_o) CC_ok SsOk_n (SLOk_c order_New_v0_ok (SLOk_c order_List_After_v0_ok (SLOk_c order_List_Less_v0_ok (SLOk_c order_List_Len_v0_ok SLOk_n)))) t5 (A := law02_speaks_an) (by kernel_rfl) (by kernel_rfl) (fun r0 => show _ = _ by kernel_rfl)
def order_List_All_v0_o (a0 : Int) (a1 : List T_arena_slot) (a2 : List Int) : Prop :=
 ((True)) ∧ ((a0 = a0) ∧ (True) ∧ (True)) ∧ (a1 = a1) ∧ (a2 = a2) ∧ True
def order_List_All_v0_oi (a0 : Int) (a1 : List T_arena_slot) (a2 : List Int) : Prop :=
 True
theorem order_List_All_v0_i (a0 : Int) (a1 : List T_arena_slot) (a2 : List Int) (h : order_List_All_v0_oi a0 a1 a2) : order_List_All_v0_o a0 a1 a2 := by
 unfold order_List_All_v0_o
 unfold order_List_All_v0_oi at h
 exact ⟨by and_intros <;> first | rfl | trivial, ⟨by and_intros <;> first | rfl | trivial, ⟨by and_intros <;> first | rfl | trivial, ⟨by and_intros <;> first | rfl | trivial, h⟩⟩⟩⟩
def order_List_All_v0_s0 : Sl KK := ⟨9, [], ⟨[(0, .px 2000000 0)], [(2000000, 56, [.px 2000001 0]), (2000001, 70, [.it .i64, .row 2000002, .row 2000003])], [(2000002, 72), (2000003, 3)]⟩, ⟨[(2, .fn 23 [] [.px 1000000 0])], [(1000000, 25, [.px 2000000 0])], []⟩, [2000000, 2000001, 2000002, 2000003], [(2, none)], true, fun _ _ _ => True⟩
def order_List_All_v0_sl : Sl KK := ⟨9, [], ⟨[(0, .px 2000000 0)], [(2000000, 56, [.px 2000001 0]), (2000001, 70, [.it .i64, .row 2000002, .row 2000003])], [(2000002, 72), (2000003, 3)]⟩, ⟨[(2, .fn 23 [] [.px 1000000 0])], [(1000000, 25, [.px 2000000 0])], []⟩, [2000000, 2000001, 2000002, 2000003], [(2, none)], true, apFs (K := KK) (ctT order_List_All_v0_s0.ti) (ctT order_List_All_v0_s0.te) [] order_List_All_v0_o⟩
def order_List_All_v0_an : An KK := (.s .o (.s .o .o))
def order_List_All_v0_cf : Cf KK := ⟨CC, [], [], 4, [], none, false⟩
theorem order_List_All_v0_ok : SlOk Try.prog CC order_List_All_v0_sl := by
 intro fs env out hl hF hW
 obtain ⟨rfl, h0⟩ := apFs_n hW
 obtain ⟨a0, ea0, rfl, h1⟩ := apIn_c h0
 obtain ⟨a1, ea1, rfl, h2⟩ := apIn_c h1
 obtain ⟨a2, ea2, rfl, h3⟩ := apIn_c h2
 obtain ⟨rfl, h4⟩ := apIn_n h3
 obtain ⟨rfl, h5⟩ := apOut_n h4
 show SlC Try.prog CC order_List_All_v0_sl [] [.i a0, .l 72 a1, .l 3 a2] []
 rw [show SlC Try.prog CC order_List_All_v0_sl [] [.i a0, .l 72 a1, .l 3 a2] [] = SlC Try.prog CC order_List_All_v0_s0 [] [.i a0, .l 72 a1, .l 3 a2] [] by kernel_rfl]
 exact DnL_by (F := order_List_All_v0_cf) CC_ok SsOk_n SLOk_n t9 (A := order_List_All_v0_an) (sp := order_List_All_v0_s0) rfl (by kernel_rfl) (by kernel_rfl) (Nat.le_of_ble_eq_true (by kernel_rfl)) (fs := []) (env := [.i a0, .l 72 a1, .l 3 a2]) (out := []) (by kernel_rfl) hF (X := order_List_All_v0_o a0 a1 a2) h5 (by kernel_rfl)
def ref01_Live_L1 (a0 : T_ref01_Arena) (r0 : Int) (X1 : Int → Int → Prop) (x1 x2 : Int) : Prop :=
 (a0.Used.length ≤ maxLen → cnd (decide (x2 < (a0.Used.length : Int))) ((0 ≤ x2) ∧ (x2 < (a0.Used.length : Int)) ∧ ∃ y3 : Bool, (a0.Used[x2.toNat]? = some y3) ∧ cnd y3 (X1 (IntKind.i64.wrap (x1 + (1 : Int))) (IntKind.i64.wrap (x2 + (1 : Int)))) (X1 x1 (IntKind.i64.wrap (x2 + (1 : Int))))) (x1 = r0))
def ref01_Live_o (a0 : T_ref01_Arena) (r0 : Int) : Prop :=
 ∀ X1 : Int → Int → Prop, (∀ x1 x2, ref01_Live_L1 a0 r0 X1 x1 x2 → X1 x1 x2) → X1 (0 : Int) (0 : Int)
def ref01_Live_L1i (a0 : T_ref01_Arena) (r0 : Int) (X1 : Int → Int → Prop) (x1 x2 : Int) : Prop :=
 (a0.Used.length ≤ maxLen → cnd (decide (x2 < (a0.Used.length : Int))) ((0 ≤ x2) ∧ (x2 < (a0.Used.length : Int)) ∧ ∃ y3 : Bool, (a0.Used[x2.toNat]? = some y3) ∧ cnd y3 (X1 (IntKind.i64.wrap (x1 + (1 : Int))) (IntKind.i64.wrap (x2 + (1 : Int)))) (X1 x1 (IntKind.i64.wrap (x2 + (1 : Int))))) (x1 = r0))
def ref01_Live_oi (a0 : T_ref01_Arena) (r0 : Int) : Prop :=
 ∀ X1 : Int → Int → Prop, (∀ x1 x2, ref01_Live_L1i a0 r0 X1 x1 x2 → X1 x1 x2) → X1 (0 : Int) (0 : Int)
theorem ref01_Live_L1_m (a0 : T_ref01_Arena) (r0 : Int) {X1 : Int → Int → Prop} {x1 x2 : Int} (h : ref01_Live_L1i a0 r0 X1 x1 x2) : ref01_Live_L1 a0 r0 X1 x1 x2 := by
 unfold ref01_Live_L1
 unfold ref01_Live_L1i at h
 exact h
theorem ref01_Live_i (a0 : T_ref01_Arena) (r0 : Int) (h : ref01_Live_oi a0 r0) : ref01_Live_o a0 r0 := by
 unfold ref01_Live_o
 unfold ref01_Live_oi at h
 intro X1 k
 exact h X1 (fun x1 x2 q => k x1 x2 (ref01_Live_L1_m a0 r0 q))
def ref01_Live_sp : Sp KK := ⟨31, [.v 37], [3], appW (K := KK) [3] [.v 37] ref01_Live_o⟩
def ref01_Live_an : An KK := (.s .o (.s .o (.s (.s .o (.b (.l ⟨[(1, .px 1 0), (3, .it .i64), (4, .it .i64)], [(1, 37, [.kp 9, .kp 10, .kp 11, .kp 12])], []⟩ (fun _ => (.s (.s .o (.c .o .o)) (.s (.b (.s .o (.c .o .o))) .o)))))) (.s .o .o))))
def ref01_Live_cf : Cf KK := ⟨CC, [], [], 20, [], none, false⟩
theorem ref01_Live_ok : SpOk Try.prog CC ref01_Live_sp := SpOk_by (F := ref01_Live_cf) (ps := [.v 37]) (rs := [3]) (w := ref01_Live_o) CC_ok SsOk_n SLOk_n t31 (A := ref01_Live_an) (by kernel_rfl) (by kernel_rfl) (fun a0 r0 => show _ = _ by kernel_rfl)
def ref01_Alloc_o (a0 : T_ref01_Arena) (a1 : Int) (r0 : T_ref01_Arena) (r1 : Int) (r2 : Bool) : Prop :=
 ∃ z1, (ref01_Live_o a0 z1) ∧ cnd (decide (a0.Room ≤ z1)) (a0 = r0 ∧ (0 : Int) = r1 ∧ false = r2) ((a0.Things.length ≤ 400000000) ∧ (a0.Used.length ≤ 400000000) ∧ (a0.Freed.length ≤ maxLen → cnd (decide ((0 : Int) < (a0.Freed.length : Int))) ((0 ≤ (IntKind.i64.wrap ((a0.Freed.length : Int) - (1 : Int)))) ∧ ((IntKind.i64.wrap ((a0.Freed.length : Int) - (1 : Int))) < (a0.Freed.length : Int)) ∧ ∃ y2 : Int, (a0.Freed[(IntKind.i64.wrap ((a0.Freed.length : Int) - (1 : Int))).toNat]? = some y2) ∧ (0 ≤ y2) ∧ (y2 < ((([] : List Int) ++ a0.Things).length : Int)) ∧ ∃ y3 : Int, ((([] : List Int) ++ a0.Things)[y2.toNat]? = some y3) ∧ (0 ≤ y2) ∧ (y2 < ((([] : List Bool) ++ a0.Used).length : Int)) ∧ ∃ y4 : Bool, ((([] : List Bool) ++ a0.Used)[y2.toNat]? = some y4) ∧ (0 ≤ (0 : Int) ∧ (0 : Int) ≤ (IntKind.i64.wrap ((a0.Freed.length : Int) - (1 : Int))) ∧ (IntKind.i64.wrap ((a0.Freed.length : Int) - (1 : Int))) ≤ (a0.Freed.length : Int)) ∧ (⟨a0.Room, (([] : List Int) ++ a0.Things).set y2.toNat a1, (([] : List Bool) ++ a0.Used).set y2.toNat true, tslice a0.Freed (0 : Int) (IntKind.i64.wrap ((a0.Freed.length : Int) - (1 : Int)))⟩ : T_ref01_Arena) = r0 ∧ y2 = r1 ∧ true = r2) (((([] : List Int) ++ a0.Things).length ≤ 1000000000) ∧ ((([] : List Bool) ++ a0.Used).length ≤ 1000000000) ∧ (⟨a0.Room, (([] : List Int) ++ a0.Things) ++ ([a1] : List Int), (([] : List Bool) ++ a0.Used) ++ ([true] : List Bool), a0.Freed⟩ : T_ref01_Arena) = r0 ∧ (a0.Things.length : Int) = r1 ∧ true = r2)))
def ref01_Alloc_sp : Sp KK := ⟨25, [.v 37, .v 3], [37, 3, 4], appW (K := KK) [37, 3, 4] [.v 37, .v 3] ref01_Alloc_o⟩
def ref01_Alloc_an : An KK := (.s .o (.s (.s .o (.c (.s .o .o) .o)) (.s .o (.s (.s .o (.s .o (.c (.s .o (.s .o (.s .o .o))) .o))) (.s .o .o)))))
def ref01_Alloc_cf : Cf KK := ⟨CC, [ref01_Live_sp], [], 69, [], none, false⟩
theorem ref01_Alloc_ok : SpOk Try.prog CC ref01_Alloc_sp := SpOk_by (F := ref01_Alloc_cf) (ps := [.v 37, .v 3]) (rs := [37, 3, 4]) (w := ref01_Alloc_o) CC_ok (SsOk_c ref01_Live_ok SsOk_n) SLOk_n t25 (A := ref01_Alloc_an) (by kernel_rfl) (by kernel_rfl) (fun a0 a1 r0 r1 r2 => show _ = _ by kernel_rfl)
def ref02_New_o (r0 : T_ref02_List) : Prop :=
 ∃ z1 z2 z3, (ref01_Alloc_o (⟨(1048576 : Int), ([] : List Int), ([] : List Bool), ([] : List Int)⟩ : T_ref01_Arena) (0 : Int) z1 z2 z3) ∧ (⟨([(0 : Int)] : List Int), z1⟩ : T_ref02_List) = r0
def ref02_New_sp : Sp KK := ⟨11, [], [39], appW (K := KK) [39] [] ref02_New_o⟩
def ref02_New_an : An KK := (.s .o (.s .o (.s .o .o)))
def ref02_New_cf : Cf KK := ⟨CC, [ref01_Alloc_sp], [], 13, [], none, false⟩
theorem ref02_New_ok : SpOk Try.prog CC ref02_New_sp := SpOk_by (F := ref02_New_cf) (ps := []) (rs := [39]) (w := ref02_New_o) CC_ok (SsOk_c ref01_Alloc_ok SsOk_n) SLOk_n t11 (A := ref02_New_an) (by kernel_rfl) (by kernel_rfl) (fun r0 => show _ = _ by kernel_rfl)
def ref02_At_L1 (a0 : T_ref02_List) (a1 r0 : Int) (X1 : Int → Prop) (x1 : Int) : Prop :=
 (a0.Order.length ≤ maxLen → cnd (decide (x1 < (a0.Order.length : Int))) ((0 ≤ x1) ∧ (x1 < (a0.Order.length : Int)) ∧ ∃ y2 : Int, (a0.Order[x1.toNat]? = some y2) ∧ cnd (y2 == a1) (x1 = r0) (X1 (IntKind.i64.wrap (x1 + (1 : Int))))) ((-1 : Int) = r0))
def ref02_At_o (a0 : T_ref02_List) (a1 r0 : Int) : Prop :=
 ∀ X1 : Int → Prop, (∀ x1, ref02_At_L1 a0 a1 r0 X1 x1 → X1 x1) → X1 (0 : Int)
def ref02_At_L1i (a0 : T_ref02_List) (a1 r0 : Int) (X1 : Int → Prop) (x1 : Int) : Prop :=
 (a0.Order.length ≤ maxLen → cnd (decide (x1 < (a0.Order.length : Int))) ((0 ≤ x1) ∧ (x1 < (a0.Order.length : Int)) ∧ ∃ y2 : Int, (a0.Order[x1.toNat]? = some y2) ∧ cnd (y2 == a1) (x1 = r0) (X1 (IntKind.i64.wrap (x1 + (1 : Int))))) ((-1 : Int) = r0))
def ref02_At_oi (a0 : T_ref02_List) (a1 r0 : Int) : Prop :=
 ∀ X1 : Int → Prop, (∀ x1, ref02_At_L1i a0 a1 r0 X1 x1 → X1 x1) → X1 (0 : Int)
theorem ref02_At_L1_m (a0 : T_ref02_List) (a1 r0 : Int) {X1 : Int → Prop} {x1 : Int} (h : ref02_At_L1i a0 a1 r0 X1 x1) : ref02_At_L1 a0 a1 r0 X1 x1 := by
 unfold ref02_At_L1
 unfold ref02_At_L1i at h
 exact h
theorem ref02_At_i (a0 : T_ref02_List) (a1 r0 : Int) (h : ref02_At_oi a0 a1 r0) : ref02_At_o a0 a1 r0 := by
 unfold ref02_At_o
 unfold ref02_At_oi at h
 intro X1 k
 exact h X1 (fun x1 q => k x1 (ref02_At_L1_m a0 a1 r0 q))
def ref02_At_sp : Sp KK := ⟨14, [.v 39, .v 3], [3], appW (K := KK) [3] [.v 39, .v 3] ref02_At_o⟩
def ref02_At_an : An KK := (.s .o (.s (.s .o (.b (.l ⟨[(1, .kp 8), (2, .px 2 0), (5, .it .i64)], [(2, 39, (kps 10 5))], []⟩ (fun _ => (.s (.s .o (.c .o .o)) (.s (.b (.s .o (.c (.s .o .o) .o))) .o)))))) (.s .o .o)))
def ref02_At_cf : Cf KK := ⟨CC, [], [], 21, [], none, false⟩
theorem ref02_At_ok : SpOk Try.prog CC ref02_At_sp := SpOk_by (F := ref02_At_cf) (ps := [.v 39, .v 3]) (rs := [3]) (w := ref02_At_o) CC_ok SsOk_n SLOk_n t14 (A := ref02_At_an) (by kernel_rfl) (by kernel_rfl) (fun a0 a1 r0 => show _ = _ by kernel_rfl)
def ref01_Has_o (a0 : T_ref01_Arena) (a1 : Int) (r0 : Bool) : Prop :=
 cnd (decide ((0 : Int) ≤ a1)) ((a0.Used.length ≤ maxLen → cnd (decide (a1 < (a0.Used.length : Int))) ((0 ≤ a1) ∧ (a1 < (a0.Used.length : Int)) ∧ ∃ y1 : Bool, (a0.Used[a1.toNat]? = some y1) ∧ y1 = r0) (false = r0))) (false = r0)
def ref01_Has_sp : Sp KK := ⟨32, [.v 37, .v 3], [4], appW (K := KK) [4] [.v 37, .v 3] ref01_Has_o⟩
def ref01_Has_an : An KK := (.s .o (.s .o .o))
def ref01_Has_cf : Cf KK := ⟨CC, [], [], 21, [], none, false⟩
theorem ref01_Has_ok : SpOk Try.prog CC ref01_Has_sp := SpOk_by (F := ref01_Has_cf) (ps := [.v 37, .v 3]) (rs := [4]) (w := ref01_Has_o) CC_ok SsOk_n SLOk_n t32 (A := ref01_Has_an) (by kernel_rfl) (by kernel_rfl) (fun a0 a1 r0 => show _ = _ by kernel_rfl)
def ref01_Free_o (a0 : T_ref01_Arena) (a1 : Int) (r0 : T_ref01_Arena) (r1 : Bool) : Prop :=
 ∃ z1, (ref01_Has_o a0 a1 z1) ∧ cnd (!z1) (a0 = r0 ∧ false = r1) ((a0.Used.length ≤ 400000000) ∧ (0 ≤ a1) ∧ (a1 < ((([] : List Bool) ++ a0.Used).length : Int)) ∧ ∃ y2 : Bool, ((([] : List Bool) ++ a0.Used)[a1.toNat]? = some y2) ∧ (a0.Freed.length ≤ 400000000) ∧ ((([] : List Int) ++ a0.Freed).length ≤ 1000000000) ∧ (⟨a0.Room, a0.Things, (([] : List Bool) ++ a0.Used).set a1.toNat false, (([] : List Int) ++ a0.Freed) ++ ([a1] : List Int)⟩ : T_ref01_Arena) = r0 ∧ true = r1)
def ref01_Free_sp : Sp KK := ⟨26, [.v 37, .v 3], [37, 4], appW (K := KK) [37, 4] [.v 37, .v 3] ref01_Free_o⟩
def ref01_Free_an : An KK := (.s .o (.s (.s .o (.c (.s .o .o) .o)) (.s .o (.s .o (.s .o .o)))))
def ref01_Free_cf : Cf KK := ⟨CC, [ref01_Has_sp], [], 32, [], none, false⟩
theorem ref01_Free_ok : SpOk Try.prog CC ref01_Free_sp := SpOk_by (F := ref01_Free_cf) (ps := [.v 37, .v 3]) (rs := [37, 4]) (w := ref01_Free_o) CC_ok (SsOk_c ref01_Has_ok SsOk_n) SLOk_n t26 (A := ref01_Free_an) (by kernel_rfl) (by kernel_rfl) (fun a0 a1 r0 r1 => show _ = _ by kernel_rfl)
def ref02_Delete_o (a0 : T_ref02_List) (a1 : Int) (r0 : T_ref02_List) (r1 : Bool) : Prop :=
 ∃ z1, (ref02_At_o (⟨a0.Order, (⟨a0.Numbers.Room, a0.Numbers.Things, a0.Numbers.Used, a0.Numbers.Freed⟩ : T_ref01_Arena)⟩ : T_ref02_List) a1 z1) ∧ cnd (decide (z1 ≤ (0 : Int))) ((⟨a0.Order, (⟨a0.Numbers.Room, a0.Numbers.Things, a0.Numbers.Used, a0.Numbers.Freed⟩ : T_ref01_Arena)⟩ : T_ref02_List) = r0 ∧ false = r1) (∃ z2 z3, (ref01_Free_o (⟨a0.Numbers.Room, a0.Numbers.Things, a0.Numbers.Used, a0.Numbers.Freed⟩ : T_ref01_Arena) a1 z2 z3) ∧ (0 ≤ (0 : Int) ∧ (0 : Int) ≤ z1 ∧ z1 ≤ (a0.Order.length : Int)) ∧ ((tslice a0.Order (0 : Int) z1).length ≤ 400000000) ∧ (0 ≤ (IntKind.i64.wrap (z1 + (1 : Int))) ∧ (IntKind.i64.wrap (z1 + (1 : Int))) ≤ (a0.Order.length : Int) ∧ (a0.Order.length : Int) ≤ (a0.Order.length : Int)) ∧ ((([] : List Int) ++ (tslice a0.Order (0 : Int) z1)).length ≤ 1000000000) ∧ ((tslice a0.Order (IntKind.i64.wrap (z1 + (1 : Int))) (a0.Order.length : Int)).length ≤ 400000000) ∧ (⟨(([] : List Int) ++ (tslice a0.Order (0 : Int) z1)) ++ (tslice a0.Order (IntKind.i64.wrap (z1 + (1 : Int))) (a0.Order.length : Int)), z2⟩ : T_ref02_List) = r0 ∧ true = r1)
def ref02_Delete_sp : Sp KK := ⟨12, [.v 39, .v 3], [39, 4], appW (K := KK) [39, 4] [.v 39, .v 3] ref02_Delete_o⟩
def ref02_Delete_an : An KK := (.s .o (.s .o (.s (.s .o (.c (.s .o .o) .o)) (.s .o (.s .o .o)))))
def ref02_Delete_cf : Cf KK := ⟨CC, [ref02_At_sp, ref01_Free_sp], [], 36, [], none, false⟩
theorem ref02_Delete_ok : SpOk Try.prog CC ref02_Delete_sp := SpOk_by (F := ref02_Delete_cf) (ps := [.v 39, .v 3]) (rs := [39, 4]) (w := ref02_Delete_o) CC_ok (SsOk_c ref02_At_ok (SsOk_c ref01_Free_ok SsOk_n)) SLOk_n t12 (A := ref02_Delete_an) (by kernel_rfl) (by kernel_rfl) (fun a0 a1 r0 r1 => show _ = _ by kernel_rfl)
def ref02_After_o (a0 : T_ref02_List) (a1 : Int) (r0 : T_ref02_List) (r1 : Int) (r2 : Bool) : Prop :=
 ∃ z1, (ref02_At_o (⟨a0.Order, (⟨a0.Numbers.Room, a0.Numbers.Things, a0.Numbers.Used, a0.Numbers.Freed⟩ : T_ref01_Arena)⟩ : T_ref02_List) a1 z1) ∧ cnd (decide (z1 < (0 : Int))) ((⟨a0.Order, (⟨a0.Numbers.Room, a0.Numbers.Things, a0.Numbers.Used, a0.Numbers.Freed⟩ : T_ref01_Arena)⟩ : T_ref02_List) = r0 ∧ (0 : Int) = r1 ∧ false = r2) (∃ z2 z3 z4, (ref01_Alloc_o (⟨a0.Numbers.Room, a0.Numbers.Things, a0.Numbers.Used, a0.Numbers.Freed⟩ : T_ref01_Arena) (0 : Int) z2 z3 z4) ∧ (0 ≤ (0 : Int) ∧ (0 : Int) ≤ (IntKind.i64.wrap (z1 + (1 : Int))) ∧ (IntKind.i64.wrap (z1 + (1 : Int))) ≤ (a0.Order.length : Int)) ∧ ((tslice a0.Order (0 : Int) (IntKind.i64.wrap (z1 + (1 : Int)))).length ≤ 400000000) ∧ ((([] : List Int) ++ (tslice a0.Order (0 : Int) (IntKind.i64.wrap (z1 + (1 : Int))))).length ≤ 1000000000) ∧ (0 ≤ (IntKind.i64.wrap (z1 + (1 : Int))) ∧ (IntKind.i64.wrap (z1 + (1 : Int))) ≤ (a0.Order.length : Int) ∧ (a0.Order.length : Int) ≤ (a0.Order.length : Int)) ∧ (((([] : List Int) ++ (tslice a0.Order (0 : Int) (IntKind.i64.wrap (z1 + (1 : Int))))) ++ ([z3] : List Int)).length ≤ 1000000000) ∧ ((tslice a0.Order (IntKind.i64.wrap (z1 + (1 : Int))) (a0.Order.length : Int)).length ≤ 400000000) ∧ (⟨((([] : List Int) ++ (tslice a0.Order (0 : Int) (IntKind.i64.wrap (z1 + (1 : Int))))) ++ ([z3] : List Int)) ++ (tslice a0.Order (IntKind.i64.wrap (z1 + (1 : Int))) (a0.Order.length : Int)), z2⟩ : T_ref02_List) = r0 ∧ z3 = r1 ∧ true = r2)
def ref02_After_sp : Sp KK := ⟨16, [.v 39, .v 3], [39, 3, 4], appW (K := KK) [39, 3, 4] [.v 39, .v 3] ref02_After_o⟩
def ref02_After_an : An KK := (.s .o (.s .o (.s (.s .o (.c (.s .o .o) .o)) (.s .o (.s .o (.s .o (.s .o .o)))))))
def ref02_After_cf : Cf KK := ⟨CC, [ref02_At_sp, ref01_Alloc_sp], [], 46, [], none, false⟩
theorem ref02_After_ok : SpOk Try.prog CC ref02_After_sp := SpOk_by (F := ref02_After_cf) (ps := [.v 39, .v 3]) (rs := [39, 3, 4]) (w := ref02_After_o) CC_ok (SsOk_c ref02_At_ok (SsOk_c ref01_Alloc_ok SsOk_n)) SLOk_n t16 (A := ref02_After_an) (by kernel_rfl) (by kernel_rfl) (fun a0 a1 r0 r1 r2 => show _ = _ by kernel_rfl)
def arena_Arena_stamp_Free_v0_o (a0 a1 : Int) (a2 : List T_arena_slot) (a3 : List Int) (r0 : Bool) (r1 : Int) (r2 : List T_arena_slot) (r3 : List Int) : Prop :=
 ∃ z1, (arena_Arena_stamp_has_v0_o a0 a1 a2 a3 z1) ∧ cnd (!z1) (false = r0 ∧ a1 = r1 ∧ a2 = r2 ∧ a3 = r3) ((0 ≤ a0) ∧ (a0 < (a2.length : Int)) ∧ ∃ y2 : T_arena_slot, (a2[a0.toNat]? = some y2) ∧ (a3.length ≤ 1000000000) ∧ true = r0 ∧ a1 = r1 ∧ (a2.set a0.toNat (⟨(⟨(0 : Int), (0 : Int), (0 : Int)⟩ : T_order_stamp), false⟩ : T_arena_slot)) = r2 ∧ (a3 ++ ([a0] : List Int)) = r3)
def arena_Arena_stamp_Free_v0_s0 : Sl KK := ⟨27, [], ⟨[(0, .px 2000000 0), (1, .it .i64)], [(2000000, 70, [.it .i64, .row 2000001, .row 2000002])], [(2000001, 72), (2000002, 3)]⟩, ⟨[(4, .bl)], [(2000000, 70, [.it .i64, .row 1000000, .row 1000001])], [(1000000, 72), (1000001, 3)]⟩, [], [(4, none)], true, fun _ _ _ => True⟩
def arena_Arena_stamp_Free_v0_sl : Sl KK := ⟨27, [], ⟨[(0, .px 2000000 0), (1, .it .i64)], [(2000000, 70, [.it .i64, .row 2000001, .row 2000002])], [(2000001, 72), (2000002, 3)]⟩, ⟨[(4, .bl)], [(2000000, 70, [.it .i64, .row 1000000, .row 1000001])], [(1000000, 72), (1000001, 3)]⟩, [], [(4, none)], true, apFs (K := KK) (ctT arena_Arena_stamp_Free_v0_s0.ti) (ctT arena_Arena_stamp_Free_v0_s0.te) [] arena_Arena_stamp_Free_v0_o⟩
def arena_Arena_stamp_Free_v0_an : An KK := (.s .o (.s (.s .o (.c (.s .o .o) .o)) (.s .o (.s .o (.s .o .o)))))
def arena_Arena_stamp_Free_v0_cf : Cf KK := ⟨CC, [], [arena_Arena_stamp_has_v0_sl], 26, [], none, false⟩
theorem arena_Arena_stamp_Free_v0_ok : SlOk Try.prog CC arena_Arena_stamp_Free_v0_sl := by
 intro fs env out hl hF hW
 obtain ⟨rfl, h0⟩ := apFs_n hW
 obtain ⟨a0, ea0, rfl, h1⟩ := apIn_c h0
 obtain ⟨a1, ea1, rfl, h2⟩ := apIn_c h1
 obtain ⟨a2, ea2, rfl, h3⟩ := apIn_c h2
 obtain ⟨a3, ea3, rfl, h4⟩ := apIn_c h3
 obtain ⟨rfl, h5⟩ := apIn_n h4
 obtain ⟨r0, er0, rfl, h6⟩ := apOut_c h5
 obtain ⟨r1, er1, rfl, h7⟩ := apOut_c h6
 obtain ⟨r2, er2, rfl, h8⟩ := apOut_c h7
 obtain ⟨r3, er3, rfl, h9⟩ := apOut_c h8
 obtain ⟨rfl, h10⟩ := apOut_n h9
 show SlC Try.prog CC arena_Arena_stamp_Free_v0_sl [] [.i a0, .i a1, .l 72 a2, .l 3 a3] [.b r0, .i r1, .l 72 r2, .l 3 r3]
 rw [show SlC Try.prog CC arena_Arena_stamp_Free_v0_sl [] [.i a0, .i a1, .l 72 a2, .l 3 a3] [.b r0, .i r1, .l 72 r2, .l 3 r3] = SlC Try.prog CC arena_Arena_stamp_Free_v0_s0 [] [.i a0, .i a1, .l 72 a2, .l 3 a3] [.b r0, .i r1, .l 72 r2, .l 3 r3] by kernel_rfl]
 exact DnL_by (F := arena_Arena_stamp_Free_v0_cf) CC_ok SsOk_n (SLOk_c arena_Arena_stamp_has_v0_ok SLOk_n) t27 (A := arena_Arena_stamp_Free_v0_an) (sp := arena_Arena_stamp_Free_v0_s0) rfl (by kernel_rfl) (by kernel_rfl) (Nat.le_of_ble_eq_true (by kernel_rfl)) (fs := []) (env := [.i a0, .i a1, .l 72 a2, .l 3 a3]) (out := [.b r0, .i r1, .l 72 r2, .l 3 r3]) (by kernel_rfl) hF (X := arena_Arena_stamp_Free_v0_o a0 a1 a2 a3 r0 r1 r2 r3) h10 (by kernel_rfl)
def order_List_Delete_v0_J2 (a0 : Int) (r0 : Bool) (r1 : Int) (r2 : List T_arena_slot) (r3 : List Int) (x10 : Int) (x11 : List Int) (x12 : List T_arena_slot) : Prop :=
 ∃ z13 z14 z15 z16, (arena_Arena_stamp_Free_v0_o a0 x10 x12 x11 z13 z14 z15 z16) ∧ ((True)) ∧ z13 = r0 ∧ z14 = r1 ∧ z15 = r2 ∧ z16 = r3
def order_List_Delete_v0_J1 (r0 : Bool) (r1 : Int) (r2 : List T_arena_slot) (r3 : List Int) (a0 : Int) (x1 : Bool) (x2 : Int) (x3 : List T_arena_slot) (x4 : List Int) : Prop :=
 cnd x1 (((True)) ∧ false = r0 ∧ x2 = r1 ∧ x3 = r2 ∧ x4 = r3) (∃ z5, (order_List_at_v0_o a0 x2 x3 x4 z5) ∧ ∃ z6, (order_List_at_v0_o z5.prev x2 x3 x4 z6) ∧ ∃ z7 z8 z9, (arena_Arena_stamp_Set_v0_o z5.prev (⟨z6.label, z5.next, z6.prev⟩ : T_order_stamp) x2 x3 x4 z7 z8 z9) ∧ ∀ J2 : Int → (List Int) → (List T_arena_slot) → Prop, (∀ x10 x11 x12, order_List_Delete_v0_J2 a0 r0 r1 r2 r3 x10 x11 x12 → J2 x10 x11 x12) → cnd (!(z5.next == (-1 : Int))) (∃ z17, (order_List_at_v0_o z5.next z8 z9 x4 z17) ∧ ∃ z18 z19 z20, (arena_Arena_stamp_Set_v0_o z5.next (⟨z17.label, z17.next, z5.prev⟩ : T_order_stamp) z8 z9 x4 z18 z19 z20) ∧ J2 z19 x4 z20) (J2 z8 x4 z9))
def order_List_Delete_v0_o (a0 a1 : Int) (a2 : List T_arena_slot) (a3 : List Int) (r0 : Bool) (r1 : Int) (r2 : List T_arena_slot) (r3 : List Int) : Prop :=
 ∀ J1 : Bool → Int → (List T_arena_slot) → (List Int) → Prop, (∀ x1 x2 x3 x4, order_List_Delete_v0_J1 r0 r1 r2 r3 a0 x1 x2 x3 x4 → J1 x1 x2 x3 x4) → cnd (a0 == (0 : Int)) (J1 true a1 a2 a3) (∃ z21, (order_List_Has_v0_o a0 a1 a2 a3 z21) ∧ J1 (!z21) a1 a2 a3)
def order_List_Delete_v0_J2i (a0 : Int) (r0 : Bool) (r1 : Int) (r2 : List T_arena_slot) (r3 : List Int) (x10 : Int) (x11 : List Int) (x12 : List T_arena_slot) : Prop :=
 ∃ z13 z14 z15 z16, (arena_Arena_stamp_Free_v0_o a0 x10 x12 x11 z13 z14 z15 z16) ∧ z13 = r0 ∧ z14 = r1 ∧ z15 = r2 ∧ z16 = r3
def order_List_Delete_v0_J1i (a0 : Int) (r0 : Bool) (r1 : Int) (r2 : List T_arena_slot) (r3 : List Int) (x1 : Bool) (x2 : Int) (x3 : List T_arena_slot) (x4 : List Int) : Prop :=
 cnd x1 (false = r0 ∧ x2 = r1 ∧ x3 = r2 ∧ x4 = r3) (∃ z5, (order_List_at_v0_o a0 x2 x3 x4 z5) ∧ ∃ z6, (order_List_at_v0_o z5.prev x2 x3 x4 z6) ∧ ∃ z7 z8 z9, (arena_Arena_stamp_Set_v0_o z5.prev (⟨z6.label, z5.next, z6.prev⟩ : T_order_stamp) x2 x3 x4 z7 z8 z9) ∧ cnd (!(z5.next == (-1 : Int))) (∃ z17, (order_List_at_v0_o z5.next z8 z9 x4 z17) ∧ ∃ z18 z19 z20, (arena_Arena_stamp_Set_v0_o z5.next (⟨z17.label, z17.next, z5.prev⟩ : T_order_stamp) z8 z9 x4 z18 z19 z20) ∧ order_List_Delete_v0_J2i a0 r0 r1 r2 r3 z19 x4 z20) (order_List_Delete_v0_J2i a0 r0 r1 r2 r3 z8 x4 z9))
def order_List_Delete_v0_oi (a0 a1 : Int) (a2 : List T_arena_slot) (a3 : List Int) (r0 : Bool) (r1 : Int) (r2 : List T_arena_slot) (r3 : List Int) : Prop :=
 cnd (a0 == (0 : Int)) (order_List_Delete_v0_J1i a0 r0 r1 r2 r3 true a1 a2 a3) (∃ z21, (order_List_Has_v0_o a0 a1 a2 a3 z21) ∧ order_List_Delete_v0_J1i a0 r0 r1 r2 r3 (!z21) a1 a2 a3)
theorem order_List_Delete_v0_J2_m (a0 : Int) (r0 : Bool) (r1 : Int) (r2 : List T_arena_slot) (r3 : List Int) {x10 : Int} {x11 : List Int} {x12 : List T_arena_slot} (h : order_List_Delete_v0_J2i a0 r0 r1 r2 r3 x10 x11 x12) : order_List_Delete_v0_J2 a0 r0 r1 r2 r3 x10 x11 x12 := by
 unfold order_List_Delete_v0_J2
 unfold order_List_Delete_v0_J2i at h
 obtain ⟨z13, h⟩ := h
 refine ⟨z13, ?_⟩
 obtain ⟨z14, h⟩ := h
 refine ⟨z14, ?_⟩
 obtain ⟨z15, h⟩ := h
 refine ⟨z15, ?_⟩
 obtain ⟨z16, h⟩ := h
 refine ⟨z16, ?_⟩
 obtain ⟨h0, h⟩ := h
 refine ⟨h0, ?_⟩
 exact ⟨by and_intros <;> first | rfl | trivial, h⟩
theorem order_List_Delete_v0_J1_m (a0 : Int) (r0 : Bool) (r1 : Int) (r2 : List T_arena_slot) (r3 : List Int) {x1 : Bool} {x2 : Int} {x3 : List T_arena_slot} {x4 : List Int} (h : order_List_Delete_v0_J1i a0 r0 r1 r2 r3 x1 x2 x3 x4) : order_List_Delete_v0_J1 r0 r1 r2 r3 a0 x1 x2 x3 x4 := by
 unfold order_List_Delete_v0_J1
 unfold order_List_Delete_v0_J1i at h
 refine cnd_mono h (fun h => ?_) (fun h => ?_)
 ·exact ⟨by and_intros <;> first | rfl | trivial, h⟩
 ·obtain ⟨z5, h⟩ := h
  refine ⟨z5, ?_⟩
  obtain ⟨h0, h⟩ := h
  refine ⟨h0, ?_⟩
  obtain ⟨z6, h⟩ := h
  refine ⟨z6, ?_⟩
  obtain ⟨h0, h⟩ := h
  refine ⟨h0, ?_⟩
  obtain ⟨z7, h⟩ := h
  refine ⟨z7, ?_⟩
  obtain ⟨z8, h⟩ := h
  refine ⟨z8, ?_⟩
  obtain ⟨z9, h⟩ := h
  refine ⟨z9, ?_⟩
  obtain ⟨h0, h⟩ := h
  refine ⟨h0, ?_⟩
  intro J2 kJ2
  have hJ2 : ∀ x10 x11 x12, order_List_Delete_v0_J2i a0 r0 r1 r2 r3 x10 x11 x12 → J2 x10 x11 x12 := fun x10 x11 x12 q => kJ2 x10 x11 x12 (order_List_Delete_v0_J2_m a0 r0 r1 r2 r3 q)
  refine cnd_mono h (fun h => ?_) (fun h => ?_)
  ·obtain ⟨z17, h⟩ := h
   refine ⟨z17, ?_⟩
   obtain ⟨h0, h⟩ := h
   refine ⟨h0, ?_⟩
   obtain ⟨z18, h⟩ := h
   refine ⟨z18, ?_⟩
   obtain ⟨z19, h⟩ := h
   refine ⟨z19, ?_⟩
   obtain ⟨z20, h⟩ := h
   refine ⟨z20, ?_⟩
   obtain ⟨h0, h⟩ := h
   refine ⟨h0, ?_⟩
   exact hJ2 _ _ _ h
  ·exact hJ2 _ _ _ h
theorem order_List_Delete_v0_i (a0 a1 : Int) (a2 : List T_arena_slot) (a3 : List Int) (r0 : Bool) (r1 : Int) (r2 : List T_arena_slot) (r3 : List Int) (h : order_List_Delete_v0_oi a0 a1 a2 a3 r0 r1 r2 r3) : order_List_Delete_v0_o a0 a1 a2 a3 r0 r1 r2 r3 := by
 unfold order_List_Delete_v0_o
 unfold order_List_Delete_v0_oi at h
 intro J1 kJ1
 have hJ1 : ∀ x1 x2 x3 x4, order_List_Delete_v0_J1i a0 r0 r1 r2 r3 x1 x2 x3 x4 → J1 x1 x2 x3 x4 := fun x1 x2 x3 x4 q => kJ1 x1 x2 x3 x4 (order_List_Delete_v0_J1_m a0 r0 r1 r2 r3 q)
 refine cnd_mono h (fun h => ?_) (fun h => ?_)
 ·exact hJ1 _ _ _ _ h
 ·obtain ⟨z21, h⟩ := h
  refine ⟨z21, ?_⟩
  obtain ⟨h0, h⟩ := h
  refine ⟨h0, ?_⟩
  exact hJ1 _ _ _ _ h
def order_List_Delete_v0_s0 : Sl KK := ⟨13, [], ⟨[(0, .px 2000000 0), (1, .it .i64)], [(2000000, 56, [.px 2000001 0]), (2000001, 70, [.it .i64, .row 2000002, .row 2000003])], [(2000002, 72), (2000003, 3)]⟩, ⟨[(4, .bl)], [(2000001, 70, [.it .i64, .row 1000000, .row 1000001])], [(1000000, 72), (1000001, 3)]⟩, [2000000], [(4, none)], true, fun _ _ _ => True⟩
def order_List_Delete_v0_sl : Sl KK := ⟨13, [], ⟨[(0, .px 2000000 0), (1, .it .i64)], [(2000000, 56, [.px 2000001 0]), (2000001, 70, [.it .i64, .row 2000002, .row 2000003])], [(2000002, 72), (2000003, 3)]⟩, ⟨[(4, .bl)], [(2000001, 70, [.it .i64, .row 1000000, .row 1000001])], [(1000000, 72), (1000001, 3)]⟩, [2000000], [(4, none)], true, apFs (K := KK) (ctT order_List_Delete_v0_s0.ti) (ctT order_List_Delete_v0_s0.te) [] order_List_Delete_v0_o⟩
def order_List_Delete_v0_an : An KK := (.s .o (.s (.j ⟨[(0, .px 2000000 0), (1, .kp 3), (15, .bl)], [(2000000, 56, [.px 2000001 0]), (2000001, 70, [.it .i64, .row 2000002, .row 2000003])], [(2000002, 72), (2000003, 3)]⟩ .o (fun _ => (.c (.s .o .o) .o))) (.s .o (.s .o (.s .o (.s .o (.j ⟨[(0, .px 2000000 0), (1, .kp 3)], [(2000000, 56, [.px 2000001 0]), (2000001, 70, [.it .i64, .row 1003264, .row 2000003])], [(2000003, 3), (1003264, 72)]⟩ (.s .o (.c (.s .o (.s .o .o)) .o)) (fun _ => (.s .o .o)))))))))
def order_List_Delete_v0_cf : Cf KK := ⟨CC, [], [order_List_Has_v0_sl, order_List_at_v0_sl, arena_Arena_stamp_Set_v0_sl, arena_Arena_stamp_Free_v0_sl], 58, [], none, false⟩
theorem order_List_Delete_v0_ok : SlOk Try.prog CC order_List_Delete_v0_sl := by
 intro fs env out hl hF hW
 obtain ⟨rfl, h0⟩ := apFs_n hW
 obtain ⟨a0, ea0, rfl, h1⟩ := apIn_c h0
 obtain ⟨a1, ea1, rfl, h2⟩ := apIn_c h1
 obtain ⟨a2, ea2, rfl, h3⟩ := apIn_c h2
 obtain ⟨a3, ea3, rfl, h4⟩ := apIn_c h3
 obtain ⟨rfl, h5⟩ := apIn_n h4
 obtain ⟨r0, er0, rfl, h6⟩ := apOut_c h5
 obtain ⟨r1, er1, rfl, h7⟩ := apOut_c h6
 obtain ⟨r2, er2, rfl, h8⟩ := apOut_c h7
 obtain ⟨r3, er3, rfl, h9⟩ := apOut_c h8
 obtain ⟨rfl, h10⟩ := apOut_n h9
 show SlC Try.prog CC order_List_Delete_v0_sl [] [.i a0, .i a1, .l 72 a2, .l 3 a3] [.b r0, .i r1, .l 72 r2, .l 3 r3]
 rw [show SlC Try.prog CC order_List_Delete_v0_sl [] [.i a0, .i a1, .l 72 a2, .l 3 a3] [.b r0, .i r1, .l 72 r2, .l 3 r3] = SlC Try.prog CC order_List_Delete_v0_s0 [] [.i a0, .i a1, .l 72 a2, .l 3 a3] [.b r0, .i r1, .l 72 r2, .l 3 r3] by kernel_rfl]
 exact DnL_by (F := order_List_Delete_v0_cf) CC_ok SsOk_n (SLOk_c order_List_Has_v0_ok (SLOk_c order_List_at_v0_ok (SLOk_c arena_Arena_stamp_Set_v0_ok (SLOk_c arena_Arena_stamp_Free_v0_ok SLOk_n)))) t13 (A := order_List_Delete_v0_an) (sp := order_List_Delete_v0_s0) rfl (by kernel_rfl) (by kernel_rfl) (Nat.le_of_ble_eq_true (by kernel_rfl)) (fs := []) (env := [.i a0, .i a1, .l 72 a2, .l 3 a3]) (out := [.b r0, .i r1, .l 72 r2, .l 3 r3]) (by kernel_rfl) hF (X := order_List_Delete_v0_o a0 a1 a2 a3 r0 r1 r2 r3) h10 (by kernel_rfl)
def order_List_Has_v1_o (a0 : Int) (r0 : Bool) : Prop :=
 false = r0
def order_List_Has_v1_s0 : Sl KK := ⟨15, [], ⟨[(0, .np), (1, .it .i64)], [], []⟩, ⟨[(4, .bl)], [], []⟩, [], [(4, none)], true, fun _ _ _ => True⟩
def order_List_Has_v1_sl : Sl KK := ⟨15, [], ⟨[(0, .np), (1, .it .i64)], [], []⟩, ⟨[(4, .bl)], [], []⟩, [], [(4, none)], true, apFs (K := KK) (ctT order_List_Has_v1_s0.ti) (ctT order_List_Has_v1_s0.te) [] order_List_Has_v1_o⟩
def order_List_Has_v1_an : An KK := (.s .o (.s (.s .o (.c (.s .o .o) .o)) (.s .o (.s .o .o))))
def order_List_Has_v1_cf : Cf KK := ⟨CC, [], [], 19, [], none, false⟩
theorem order_List_Has_v1_ok : SlOk Try.prog CC order_List_Has_v1_sl := by
 intro fs env out hl hF hW
 obtain ⟨rfl, h0⟩ := apFs_n hW
 obtain ⟨a0, ea0, rfl, h1⟩ := apIn_c h0
 obtain ⟨rfl, h2⟩ := apIn_n h1
 obtain ⟨r0, er0, rfl, h3⟩ := apOut_c h2
 obtain ⟨rfl, h4⟩ := apOut_n h3
 show SlC Try.prog CC order_List_Has_v1_sl [] [.i a0] [.b r0]
 rw [show SlC Try.prog CC order_List_Has_v1_sl [] [.i a0] [.b r0] = SlC Try.prog CC order_List_Has_v1_s0 [] [.i a0] [.b r0] by kernel_rfl]
 exact DnL_by (F := order_List_Has_v1_cf) CC_ok SsOk_n SLOk_n t15 (A := order_List_Has_v1_an) (sp := order_List_Has_v1_s0) rfl (by kernel_rfl) (by kernel_rfl) (Nat.le_of_ble_eq_true (by kernel_rfl)) (fs := []) (env := [.i a0]) (out := [.b r0]) (by kernel_rfl) hF (X := order_List_Has_v1_o a0 r0) h4 (by kernel_rfl)
def order_List_at_v1_o (a0 : Int) (r0 : T_order_stamp) : Prop :=
 False
def order_List_at_v1_s0 : Sl KK := ⟨21, [], ⟨[(0, .np), (1, .it .i64)], [], []⟩, ⟨[(4, .px 1000000 0)], [(1000000, 54, [.v 54])], []⟩, [], [(4, some 3)], true, fun _ _ _ => True⟩
def order_List_at_v1_sl : Sl KK := ⟨21, [], ⟨[(0, .np), (1, .it .i64)], [], []⟩, ⟨[(4, .px 1000000 0)], [(1000000, 54, [.v 54])], []⟩, [], [(4, some 3)], true, apFs (K := KK) (ctT order_List_at_v1_s0.ti) (ctT order_List_at_v1_s0.te) [] order_List_at_v1_o⟩
def order_List_at_v1_an : An KK := (.s .o (.s .o (.s .o .o)))
def order_List_at_v1_cf : Cf KK := ⟨CC, [], [], 17, [], none, false⟩
theorem order_List_at_v1_ok : SlOk Try.prog CC order_List_at_v1_sl := by
 intro fs env out hl hF hW
 obtain ⟨rfl, h0⟩ := apFs_n hW
 obtain ⟨a0, ea0, rfl, h1⟩ := apIn_c h0
 obtain ⟨rfl, h2⟩ := apIn_n h1
 obtain ⟨r0, er0, rfl, h3⟩ := apOut_c h2
 obtain ⟨rfl, h4⟩ := apOut_n h3
 show SlC Try.prog CC order_List_at_v1_sl [] [.i a0] [.v 54 r0]
 rw [show SlC Try.prog CC order_List_at_v1_sl [] [.i a0] [.v 54 r0] = SlC Try.prog CC order_List_at_v1_s0 [] [.i a0] [.v 54 r0] by kernel_rfl]
 exact DnL_by (F := order_List_at_v1_cf) CC_ok SsOk_n SLOk_n t21 (A := order_List_at_v1_an) (sp := order_List_at_v1_s0) rfl (by kernel_rfl) (by kernel_rfl) (Nat.le_of_ble_eq_true (by kernel_rfl)) (fs := []) (env := [.i a0]) (out := [.v 54 r0]) (by kernel_rfl) hF (X := order_List_at_v1_o a0 r0) h4 (by kernel_rfl)
def order_List_between_v1_J1 (z1 : T_order_stamp) (r0 : Int) (r1 : Bool) (x2 : Int) : Prop :=
 (IntKind.u64.wrap (z1.label + (if (1048576 : Int) < (IntKind.u64.wrap ((IntKind.u64.wrap (x2 - z1.label)).tdiv (2 : Int))) then (1048576 : Int) else (IntKind.u64.wrap ((IntKind.u64.wrap (x2 - z1.label)).tdiv (2 : Int)))))) = r0 ∧ (decide ((1 : Int) < (IntKind.u64.wrap (x2 - z1.label)))) = r1
def order_List_between_v1_o (a0 r0 : Int) (r1 : Bool) : Prop :=
 ∃ z1, (order_List_at_v1_o a0 z1) ∧ ∀ J1 : Int → Prop, (∀ x2, order_List_between_v1_J1 z1 r0 r1 x2 → J1 x2) → cnd (!(z1.next == (-1 : Int))) (∃ z3, (order_List_at_v1_o z1.next z3) ∧ J1 z3.label) (J1 (18446744073709551615 : Int))
def order_List_between_v1_s0 : Sl KK := ⟨19, [], ⟨[(0, .np), (1, .it .i64)], [], []⟩, ⟨[(4, .it .u64), (5, .bl)], [], []⟩, [], [(4, none), (5, none)], true, fun _ _ _ => True⟩
def order_List_between_v1_sl : Sl KK := ⟨19, [], ⟨[(0, .np), (1, .it .i64)], [], []⟩, ⟨[(4, .it .u64), (5, .bl)], [], []⟩, [], [(4, none), (5, none)], true, apFs (K := KK) (ctT order_List_between_v1_s0.ti) (ctT order_List_between_v1_s0.te) [] order_List_between_v1_o⟩
def order_List_between_v1_an : An KK := (.s .o (.s .o (.s .o (.j ⟨[(6, .px 6 0), (7, .it .u64)], [(6, 54, [.kp 1, .kp 2, .kp 3])], []⟩ (.s .o (.c .o .o)) (fun _ => (.s .o .o))))))
def order_List_between_v1_cf : Cf KK := ⟨CC, [], [order_List_at_v1_sl], 33, [], none, false⟩
theorem order_List_between_v1_ok : SlOk Try.prog CC order_List_between_v1_sl := by
 intro fs env out hl hF hW
 obtain ⟨rfl, h0⟩ := apFs_n hW
 obtain ⟨a0, ea0, rfl, h1⟩ := apIn_c h0
 obtain ⟨rfl, h2⟩ := apIn_n h1
 obtain ⟨r0, er0, rfl, h3⟩ := apOut_c h2
 obtain ⟨r1, er1, rfl, h4⟩ := apOut_c h3
 obtain ⟨rfl, h5⟩ := apOut_n h4
 show SlC Try.prog CC order_List_between_v1_sl [] [.i a0] [.i r0, .b r1]
 rw [show SlC Try.prog CC order_List_between_v1_sl [] [.i a0] [.i r0, .b r1] = SlC Try.prog CC order_List_between_v1_s0 [] [.i a0] [.i r0, .b r1] by kernel_rfl]
 exact DnL_by (F := order_List_between_v1_cf) CC_ok SsOk_n (SLOk_c order_List_at_v1_ok SLOk_n) t19 (A := order_List_between_v1_an) (sp := order_List_between_v1_s0) rfl (by kernel_rfl) (by kernel_rfl) (Nat.le_of_ble_eq_true (by kernel_rfl)) (fs := []) (env := [.i a0]) (out := [.i r0, .b r1]) (by kernel_rfl) hF (X := order_List_between_v1_o a0 r0 r1) h5 (by kernel_rfl)
def order_List_relabel_v1_L1 (X1 : Prop) : Prop :=
 cnd (!((0 : Int) == (-1 : Int))) (∃ z1, (order_List_at_v1_o (0 : Int) z1) ∧ False) (True)
def order_List_relabel_v1_o  : Prop :=
 ∀ X1 : Prop, (order_List_relabel_v1_L1 X1 → X1) → X1
def order_List_relabel_v1_s0 : Sl KK := ⟨20, [], ⟨[(0, .np)], [], []⟩, ⟨[], [], []⟩, [], [], true, fun _ _ _ => True⟩
def order_List_relabel_v1_sl : Sl KK := ⟨20, [], ⟨[(0, .np)], [], []⟩, ⟨[], [], []⟩, [], [], true, apFs (K := KK) (ctT order_List_relabel_v1_s0.ti) (ctT order_List_relabel_v1_s0.te) [] order_List_relabel_v1_o⟩
def order_List_relabel_v1_an : An KK := (.s .o (.s .o (.b (.l ⟨[(0, .kp 1), (2, .kp 2), (3, .kp 3)], [], []⟩ (fun _ => (.s (.s .o (.c .o .o)) (.s (.b (.s .o (.s .o (.s .o .o)))) .o)))))))
def order_List_relabel_v1_cf : Cf KK := ⟨CC, [], [order_List_at_v1_sl], 25, [], none, false⟩
theorem order_List_relabel_v1_ok : SlOk Try.prog CC order_List_relabel_v1_sl := by
 intro fs env out hl hF hW
 obtain ⟨rfl, h0⟩ := apFs_n hW
 obtain ⟨rfl, h1⟩ := apIn_n h0
 obtain ⟨rfl, h2⟩ := apOut_n h1
 show SlC Try.prog CC order_List_relabel_v1_sl [] [] []
 rw [show SlC Try.prog CC order_List_relabel_v1_sl [] [] [] = SlC Try.prog CC order_List_relabel_v1_s0 [] [] [] by kernel_rfl]
 exact DnL_by (F := order_List_relabel_v1_cf) CC_ok SsOk_n (SLOk_c order_List_at_v1_ok SLOk_n) t20 (A := order_List_relabel_v1_an) (sp := order_List_relabel_v1_s0) rfl (by kernel_rfl) (by kernel_rfl) (Nat.le_of_ble_eq_true (by kernel_rfl)) (fs := []) (env := []) (out := []) (by kernel_rfl) hF (X := order_List_relabel_v1_o ) h2 (by kernel_rfl)
def order_List_After_v1_J1 (a0 x4 : Int) : Prop :=
 ∃ z5, (order_List_at_v1_o a0 z5) ∧ False
def order_List_After_v1_o (a0 r0 : Int) (r1 : Bool) : Prop :=
 ∃ z1, (order_List_Has_v1_o a0 z1) ∧ cnd (!z1) ((0 : Int) = r0 ∧ false = r1) (∃ z2 z3, (order_List_between_v1_o a0 z2 z3) ∧ ∀ J1 : Int → Prop, (∀ x4, order_List_After_v1_J1 a0 x4 → J1 x4) → cnd (!z3) ((order_List_relabel_v1_o) ∧ ∃ z6 z7, (order_List_between_v1_o a0 z6 z7) ∧ J1 z6) (J1 z2))
def order_List_After_v1_J1i (a0 x4 : Int) : Prop :=
 ∃ z5, (order_List_at_v1_o a0 z5) ∧ False
def order_List_After_v1_oi (a0 r0 : Int) (r1 : Bool) : Prop :=
 ∃ z1, (order_List_Has_v1_o a0 z1) ∧ cnd (!z1) ((0 : Int) = r0 ∧ false = r1) (∃ z2 z3, (order_List_between_v1_o a0 z2 z3) ∧ cnd (!z3) ((order_List_relabel_v1_o) ∧ ∃ z6 z7, (order_List_between_v1_o a0 z6 z7) ∧ order_List_After_v1_J1i a0 z6) (order_List_After_v1_J1i a0 z2))
theorem order_List_After_v1_J1_m (a0 : Int) {x4 : Int} (h : order_List_After_v1_J1i a0 x4) : order_List_After_v1_J1 a0 x4 := by
 unfold order_List_After_v1_J1
 unfold order_List_After_v1_J1i at h
 exact h
theorem order_List_After_v1_i (a0 r0 : Int) (r1 : Bool) (h : order_List_After_v1_oi a0 r0 r1) : order_List_After_v1_o a0 r0 r1 := by
 unfold order_List_After_v1_o
 unfold order_List_After_v1_oi at h
 obtain ⟨z1, h⟩ := h
 refine ⟨z1, ?_⟩
 obtain ⟨h0, h⟩ := h
 refine ⟨h0, ?_⟩
 refine cnd_mono h (fun h => ?_) (fun h => ?_)
 ·exact h
 ·obtain ⟨z2, h⟩ := h
  refine ⟨z2, ?_⟩
  obtain ⟨z3, h⟩ := h
  refine ⟨z3, ?_⟩
  obtain ⟨h0, h⟩ := h
  refine ⟨h0, ?_⟩
  intro J1 kJ1
  have hJ1 : ∀ x4, order_List_After_v1_J1i a0 x4 → J1 x4 := fun x4 q => kJ1 x4 (order_List_After_v1_J1_m a0 q)
  refine cnd_mono h (fun h => ?_) (fun h => ?_)
  ·obtain ⟨h0, h⟩ := h
   refine ⟨h0, ?_⟩
   obtain ⟨z6, h⟩ := h
   refine ⟨z6, ?_⟩
   obtain ⟨z7, h⟩ := h
   refine ⟨z7, ?_⟩
   obtain ⟨h0, h⟩ := h
   refine ⟨h0, ?_⟩
   exact hJ1 _ h
  ·exact hJ1 _ h
def order_List_After_v1_s0 : Sl KK := ⟨7, [], ⟨[(0, .np), (1, .it .i64)], [], []⟩, ⟨[(4, .it .i64), (5, .bl)], [], []⟩, [], [(4, none), (5, none)], true, fun _ _ _ => True⟩
def order_List_After_v1_sl : Sl KK := ⟨7, [], ⟨[(0, .np), (1, .it .i64)], [], []⟩, ⟨[(4, .it .i64), (5, .bl)], [], []⟩, [], [(4, none), (5, none)], true, apFs (K := KK) (ctT order_List_After_v1_s0.ti) (ctT order_List_After_v1_s0.te) [] order_List_After_v1_o⟩
def order_List_After_v1_an : An KK := (.s .o (.s (.s .o (.c (.s .o .o) .o)) (.s .o (.j ⟨[(0, .kp 1), (1, .kp 2), (6, .it .u64)], [], []⟩ (.s .o (.c (.s .o .o) .o)) (fun _ => (.s .o (.s .o (.s (.s .o (.c (.s .o .o) .o)) (.s (.s .o (.c (.s .o (.s .o .o)) .o)) (.s .o (.s .o (.s .o .o))))))))))))
def order_List_After_v1_cf : Cf KK := ⟨CC, [], [order_List_Has_v1_sl, order_List_between_v1_sl, order_List_relabel_v1_sl, order_List_at_v1_sl], 76, [], none, false⟩
theorem order_List_After_v1_ok : SlOk Try.prog CC order_List_After_v1_sl := by
 intro fs env out hl hF hW
 obtain ⟨rfl, h0⟩ := apFs_n hW
 obtain ⟨a0, ea0, rfl, h1⟩ := apIn_c h0
 obtain ⟨rfl, h2⟩ := apIn_n h1
 obtain ⟨r0, er0, rfl, h3⟩ := apOut_c h2
 obtain ⟨r1, er1, rfl, h4⟩ := apOut_c h3
 obtain ⟨rfl, h5⟩ := apOut_n h4
 show SlC Try.prog CC order_List_After_v1_sl [] [.i a0] [.i r0, .b r1]
 rw [show SlC Try.prog CC order_List_After_v1_sl [] [.i a0] [.i r0, .b r1] = SlC Try.prog CC order_List_After_v1_s0 [] [.i a0] [.i r0, .b r1] by kernel_rfl]
 exact DnL_by (F := order_List_After_v1_cf) CC_ok SsOk_n (SLOk_c order_List_Has_v1_ok (SLOk_c order_List_between_v1_ok (SLOk_c order_List_relabel_v1_ok (SLOk_c order_List_at_v1_ok SLOk_n)))) t7 (A := order_List_After_v1_an) (sp := order_List_After_v1_s0) rfl (by kernel_rfl) (by kernel_rfl) (Nat.le_of_ble_eq_true (by kernel_rfl)) (fs := []) (env := [.i a0]) (out := [.i r0, .b r1]) (by kernel_rfl) hF (X := order_List_After_v1_o a0 r0 r1) h5 (by kernel_rfl)
def order_List_All_v1_o  : Prop :=
 True
def order_List_All_v1_s0 : Sl KK := ⟨9, [], ⟨[(0, .np)], [], []⟩, ⟨[(2, .fn 23 [] [.px 1000000 0])], [(1000000, 25, [.np])], []⟩, [], [(2, none)], true, fun _ _ _ => True⟩
def order_List_All_v1_sl : Sl KK := ⟨9, [], ⟨[(0, .np)], [], []⟩, ⟨[(2, .fn 23 [] [.px 1000000 0])], [(1000000, 25, [.np])], []⟩, [], [(2, none)], true, apFs (K := KK) (ctT order_List_All_v1_s0.ti) (ctT order_List_All_v1_s0.te) [] order_List_All_v1_o⟩
def order_List_All_v1_an : An KK := (.s .o (.s .o .o))
def order_List_All_v1_cf : Cf KK := ⟨CC, [], [], 4, [], none, false⟩
theorem order_List_All_v1_ok : SlOk Try.prog CC order_List_All_v1_sl := by
 intro fs env out hl hF hW
 obtain ⟨rfl, h0⟩ := apFs_n hW
 obtain ⟨rfl, h1⟩ := apIn_n h0
 obtain ⟨rfl, h2⟩ := apOut_n h1
 show SlC Try.prog CC order_List_All_v1_sl [] [] []
 rw [show SlC Try.prog CC order_List_All_v1_sl [] [] [] = SlC Try.prog CC order_List_All_v1_s0 [] [] [] by kernel_rfl]
 exact DnL_by (F := order_List_All_v1_cf) CC_ok SsOk_n SLOk_n t9 (A := order_List_All_v1_an) (sp := order_List_All_v1_s0) rfl (by kernel_rfl) (by kernel_rfl) (Nat.le_of_ble_eq_true (by kernel_rfl)) (fs := []) (env := []) (out := []) (by kernel_rfl) hF (X := order_List_All_v1_o ) h2 (by kernel_rfl)
def order_List_Delete_v1_J1 (r0 : Bool) (a0 : Int) (x1 : Bool) : Prop :=
 cnd x1 (false = r0) (∃ z2, (order_List_at_v1_o a0 z2) ∧ ∃ z3, (order_List_at_v1_o z2.prev z3) ∧ False)
def order_List_Delete_v1_o (a0 : Int) (r0 : Bool) : Prop :=
 ∀ J1 : Bool → Prop, (∀ x1, order_List_Delete_v1_J1 r0 a0 x1 → J1 x1) → cnd (a0 == (0 : Int)) (J1 true) (∃ z4, (order_List_Has_v1_o a0 z4) ∧ J1 (!z4))
def order_List_Delete_v1_J1i (a0 : Int) (r0 x1 : Bool) : Prop :=
 cnd x1 (false = r0) (∃ z2, (order_List_at_v1_o a0 z2) ∧ ∃ z3, (order_List_at_v1_o z2.prev z3) ∧ False)
def order_List_Delete_v1_oi (a0 : Int) (r0 : Bool) : Prop :=
 cnd (a0 == (0 : Int)) (order_List_Delete_v1_J1i a0 r0 true) (∃ z4, (order_List_Has_v1_o a0 z4) ∧ order_List_Delete_v1_J1i a0 r0 (!z4))
theorem order_List_Delete_v1_J1_m (a0 : Int) (r0 : Bool) {x1 : Bool} (h : order_List_Delete_v1_J1i a0 r0 x1) : order_List_Delete_v1_J1 r0 a0 x1 := by
 unfold order_List_Delete_v1_J1
 unfold order_List_Delete_v1_J1i at h
 exact h
theorem order_List_Delete_v1_i (a0 : Int) (r0 : Bool) (h : order_List_Delete_v1_oi a0 r0) : order_List_Delete_v1_o a0 r0 := by
 unfold order_List_Delete_v1_o
 unfold order_List_Delete_v1_oi at h
 intro J1 kJ1
 have hJ1 : ∀ x1, order_List_Delete_v1_J1i a0 r0 x1 → J1 x1 := fun x1 q => kJ1 x1 (order_List_Delete_v1_J1_m a0 r0 q)
 refine cnd_mono h (fun h => ?_) (fun h => ?_)
 ·exact hJ1 _ h
 ·obtain ⟨z4, h⟩ := h
  refine ⟨z4, ?_⟩
  obtain ⟨h0, h⟩ := h
  refine ⟨h0, ?_⟩
  exact hJ1 _ h
def order_List_Delete_v1_s0 : Sl KK := ⟨13, [], ⟨[(0, .np), (1, .it .i64)], [], []⟩, ⟨[(4, .bl)], [], []⟩, [], [(4, none)], true, fun _ _ _ => True⟩
def order_List_Delete_v1_sl : Sl KK := ⟨13, [], ⟨[(0, .np), (1, .it .i64)], [], []⟩, ⟨[(4, .bl)], [], []⟩, [], [(4, none)], true, apFs (K := KK) (ctT order_List_Delete_v1_s0.ti) (ctT order_List_Delete_v1_s0.te) [] order_List_Delete_v1_o⟩
def order_List_Delete_v1_an : An KK := (.s .o (.s (.j ⟨[(0, .kp 3), (1, .kp 4), (15, .bl)], [], []⟩ .o (fun _ => (.c (.s .o .o) .o))) (.s .o (.s .o (.s .o (.s .o (.s (.s .o (.c (.s .o (.s .o .o)) .o)) (.s .o .o))))))))
def order_List_Delete_v1_cf : Cf KK := ⟨CC, [], [order_List_Has_v1_sl, order_List_at_v1_sl], 58, [], none, false⟩
theorem order_List_Delete_v1_ok : SlOk Try.prog CC order_List_Delete_v1_sl := by
 intro fs env out hl hF hW
 obtain ⟨rfl, h0⟩ := apFs_n hW
 obtain ⟨a0, ea0, rfl, h1⟩ := apIn_c h0
 obtain ⟨rfl, h2⟩ := apIn_n h1
 obtain ⟨r0, er0, rfl, h3⟩ := apOut_c h2
 obtain ⟨rfl, h4⟩ := apOut_n h3
 show SlC Try.prog CC order_List_Delete_v1_sl [] [.i a0] [.b r0]
 rw [show SlC Try.prog CC order_List_Delete_v1_sl [] [.i a0] [.b r0] = SlC Try.prog CC order_List_Delete_v1_s0 [] [.i a0] [.b r0] by kernel_rfl]
 exact DnL_by (F := order_List_Delete_v1_cf) CC_ok SsOk_n (SLOk_c order_List_Has_v1_ok (SLOk_c order_List_at_v1_ok SLOk_n)) t13 (A := order_List_Delete_v1_an) (sp := order_List_Delete_v1_s0) rfl (by kernel_rfl) (by kernel_rfl) (Nat.le_of_ble_eq_true (by kernel_rfl)) (fs := []) (env := [.i a0]) (out := [.b r0]) (by kernel_rfl) hF (X := order_List_Delete_v1_o a0 r0) h4 (by kernel_rfl)
def order_List_Less_v1_o (a0 a1 : Int) (r0 : Bool) : Prop :=
 ∃ z1, (order_List_Has_v1_o a0 z1) ∧ cnd z1 (∃ z2, (order_List_Has_v1_o a1 z2) ∧ cnd z2 (∃ z3, (order_List_at_v1_o a0 z3) ∧ ∃ z4, (order_List_at_v1_o a1 z4) ∧ (decide (z3.label < z4.label)) = r0) (false = r0)) (false = r0)
def order_List_Less_v1_s0 : Sl KK := ⟨8, [], ⟨[(0, .np), (1, .it .i64), (2, .it .i64)], [], []⟩, ⟨[(6, .bl)], [], []⟩, [], [(6, none)], true, fun _ _ _ => True⟩
def order_List_Less_v1_sl : Sl KK := ⟨8, [], ⟨[(0, .np), (1, .it .i64), (2, .it .i64)], [], []⟩, ⟨[(6, .bl)], [], []⟩, [], [(6, none)], true, apFs (K := KK) (ctT order_List_Less_v1_s0.ti) (ctT order_List_Less_v1_s0.te) [] order_List_Less_v1_o⟩
def order_List_Less_v1_an : An KK := (.s .o (.s .o .o))
def order_List_Less_v1_cf : Cf KK := ⟨CC, [], [order_List_Has_v1_sl, order_List_at_v1_sl], 26, [], none, false⟩
theorem order_List_Less_v1_ok : SlOk Try.prog CC order_List_Less_v1_sl := by
 intro fs env out hl hF hW
 obtain ⟨rfl, h0⟩ := apFs_n hW
 obtain ⟨a0, ea0, rfl, h1⟩ := apIn_c h0
 obtain ⟨a1, ea1, rfl, h2⟩ := apIn_c h1
 obtain ⟨rfl, h3⟩ := apIn_n h2
 obtain ⟨r0, er0, rfl, h4⟩ := apOut_c h3
 obtain ⟨rfl, h5⟩ := apOut_n h4
 show SlC Try.prog CC order_List_Less_v1_sl [] [.i a0, .i a1] [.b r0]
 rw [show SlC Try.prog CC order_List_Less_v1_sl [] [.i a0, .i a1] [.b r0] = SlC Try.prog CC order_List_Less_v1_s0 [] [.i a0, .i a1] [.b r0] by kernel_rfl]
 exact DnL_by (F := order_List_Less_v1_cf) CC_ok SsOk_n (SLOk_c order_List_Has_v1_ok (SLOk_c order_List_at_v1_ok SLOk_n)) t8 (A := order_List_Less_v1_an) (sp := order_List_Less_v1_s0) rfl (by kernel_rfl) (by kernel_rfl) (Nat.le_of_ble_eq_true (by kernel_rfl)) (fs := []) (env := [.i a0, .i a1]) (out := [.b r0]) (by kernel_rfl) hF (X := order_List_Less_v1_o a0 a1 r0) h5 (by kernel_rfl)
def order_List_Len_v1_o (r0 : Int) : Prop :=
 (0 : Int) = r0
def order_List_Len_v1_s0 : Sl KK := ⟨10, [], ⟨[(0, .np)], [], []⟩, ⟨[(2, .it .i64)], [], []⟩, [], [(2, none)], true, fun _ _ _ => True⟩
def order_List_Len_v1_sl : Sl KK := ⟨10, [], ⟨[(0, .np)], [], []⟩, ⟨[(2, .it .i64)], [], []⟩, [], [(2, none)], true, apFs (K := KK) (ctT order_List_Len_v1_s0.ti) (ctT order_List_Len_v1_s0.te) [] order_List_Len_v1_o⟩
def order_List_Len_v1_an : An KK := (.s .o (.s (.s .o (.c (.s .o .o) .o)) (.s .o .o)))
def order_List_Len_v1_cf : Cf KK := ⟨CC, [], [], 10, [], none, false⟩
theorem order_List_Len_v1_ok : SlOk Try.prog CC order_List_Len_v1_sl := by
 intro fs env out hl hF hW
 obtain ⟨rfl, h0⟩ := apFs_n hW
 obtain ⟨rfl, h1⟩ := apIn_n h0
 obtain ⟨r0, er0, rfl, h2⟩ := apOut_c h1
 obtain ⟨rfl, h3⟩ := apOut_n h2
 show SlC Try.prog CC order_List_Len_v1_sl [] [] [.i r0]
 rw [show SlC Try.prog CC order_List_Len_v1_sl [] [] [.i r0] = SlC Try.prog CC order_List_Len_v1_s0 [] [] [.i r0] by kernel_rfl]
 exact DnL_by (F := order_List_Len_v1_cf) CC_ok SsOk_n SLOk_n t10 (A := order_List_Len_v1_an) (sp := order_List_Len_v1_s0) rfl (by kernel_rfl) (by kernel_rfl) (Nat.le_of_ble_eq_true (by kernel_rfl)) (fs := []) (env := []) (out := [.i r0]) (by kernel_rfl) hF (X := order_List_Len_v1_o r0) h3 (by kernel_rfl)
def law02_OrderPlays_J3 (r0 : Bool) (X1 : Int → (List Int) → Int → (List Int) → (List Bool) → (List Int) → Int → (List T_arena_slot) → (List Int) → Prop) (x6 : Int) (x19 : List Int) (x20 : Int) (x21 : List Int) (x22 : List Bool) (x23 : List Int) (x24 : Int) (x25 : List T_arena_slot) (x26 : List Int) : Prop :=
 ∃ z27, (order_List_Len_v0_o x24 x25 x26 z27) ∧ cnd (!(z27 == (x19.length : Int))) (false = r0) (X1 (IntKind.i64.wrap (x6 + (1 : Int))) x19 x20 x21 x22 x23 x24 x25 x26)
def law02_OrderPlays_J4 (r0 : Bool) (J3 : (List Int) → Int → (List Int) → (List Bool) → (List Int) → Int → (List T_arena_slot) → (List Int) → Prop) (x7 : List Int) (x8 : Int) (x9 : List Int) (x10 : List Bool) (x11 : List Int) (x36 : Bool) (x37 : Int) (x38 : List T_arena_slot) (x39 : List Int) : Prop :=
 cnd x36 (false = r0) (J3 x7 x8 x9 x10 x11 x37 x38 x39)
def law02_OrderPlays_J5 (r0 : Bool) (J3 : (List Int) → Int → (List Int) → (List Bool) → (List Int) → Int → (List T_arena_slot) → (List Int) → Prop) (z49 : T_ref02_List) (z46 : Int) (x52 : Bool) (x53 : List T_arena_slot) (x54 : List Int) : Prop :=
 cnd x52 (false = r0) (J3 z49.Order z49.Numbers.Room z49.Numbers.Things z49.Numbers.Used z49.Numbers.Freed z46 x53 x54)
def law02_OrderPlays_J7 (r0 : Bool) (x55 x57 : Int) (X6 : Int → Int → Int → (List T_arena_slot) → (List Int) → Prop) (x56 : Int) (x60 : Bool) (x61 : List T_arena_slot) (x62 : List Int) : Prop :=
 cnd x60 (false = r0) (∃ z63, (order_List_at_v0_o x55 x57 x61 x62 z63) ∧ X6 z63.next (IntKind.i64.wrap (x56 + (1 : Int))) x57 x61 x62)
def law02_OrderPlays_J8 (r0 x67 : Bool) : Prop :=
 x67 = r0
def law02_OrderPlays_L6 (r0 : Bool) (x7 : List Int) (X6 : Int → Int → Int → (List T_arena_slot) → (List Int) → Prop) (x55 x56 x57 : Int) (x58 : List T_arena_slot) (x59 : List Int) : Prop :=
 cnd (!(x55 == (-1 : Int))) (∀ J7 : Bool → (List T_arena_slot) → (List Int) → Prop, (∀ x60 x61 x62, law02_OrderPlays_J7 r0 x55 x57 X6 x56 x60 x61 x62 → J7 x60 x61 x62) → (x7.length ≤ maxLen → cnd (decide ((x7.length : Int) ≤ x56)) (J7 true x58 x59) ((0 ≤ x56) ∧ (x56 < (x7.length : Int)) ∧ ∃ y64 : Int, (x7[x56.toNat]? = some y64) ∧ J7 (!(x55 == y64)) x58 x59))) (∃ z65 z66, (order_List_After_v1_o (0 : Int) z65 z66) ∧ (order_List_All_v1_o) ∧ (Nat → ∀ J8 : Bool → Prop, (∀ x67, law02_OrderPlays_J8 r0 x67 → J8 x67) → (x7.length ≤ maxLen → cnd (x56 == (x7.length : Int)) (cnd (!z66) (∃ z68, (order_List_Delete_v1_o (1 : Int) z68) ∧ cnd (!z68) (∃ z69, (order_List_Less_v1_o (0 : Int) (1 : Int) z69) ∧ cnd (!z69) (∃ z70, (order_List_Has_v1_o (0 : Int) z70) ∧ cnd (!z70) (∃ z71, (order_List_Len_v1_o z71) ∧ J8 (z71 == (0 : Int))) (J8 false)) (J8 false)) (J8 false)) (J8 false)) (J8 false))))
def law02_OrderPlays_J2 (x6 : Int) (a0 : List T_law02_Act) (r0 : Bool) (X1 : Int → (List Int) → Int → (List Int) → (List Bool) → (List Int) → Int → (List T_arena_slot) → (List Int) → Prop) (x7 : List Int) (x8 : Int) (x9 : List Int) (x10 : List Bool) (x11 : List Int) (x12 : Int) (x15 : Bool) (x16 : List T_arena_slot) (x17 : List Int) : Prop :=
 cnd x15 ((0 ≤ x6) ∧ (x6 < (a0.length : Int)) ∧ ∃ y18 : T_law02_Act, (a0[x6.toNat]? = some y18) ∧ ∀ J3 : (List Int) → Int → (List Int) → (List Bool) → (List Int) → Int → (List T_arena_slot) → (List Int) → Prop, (∀ x19 x20 x21 x22 x23 x24 x25 x26, law02_OrderPlays_J3 r0 X1 x6 x19 x20 x21 x22 x23 x24 x25 x26 → J3 x19 x20 x21 x22 x23 x24 x25 x26) → cnd (((IntKind.i64.wrap ((y18.What.tmod (5 : Int)) + (5 : Int))).tmod (5 : Int)) == (3 : Int)) (∃ z28 z29, (ref02_Delete_o (⟨x7, (⟨x8, x9, x10, x11⟩ : T_ref01_Arena)⟩ : T_ref02_List) y18.A z28 z29) ∧ ∃ z30 z31 z32 z33, (order_List_Delete_v0_o y18.A x12 x16 x17 z30 z31 z32 z33) ∧ cnd (!(z30 == z29)) (false = r0) (J3 z28.Order z28.Numbers.Room z28.Numbers.Things z28.Numbers.Used z28.Numbers.Freed z31 z32 z33)) (cnd (((IntKind.i64.wrap ((y18.What.tmod (5 : Int)) + (5 : Int))).tmod (5 : Int)) == (4 : Int)) (∃ z34, (ref02_At_o (⟨x7, (⟨x8, x9, x10, x11⟩ : T_ref01_Arena)⟩ : T_ref02_List) y18.A z34) ∧ ∃ z35, (ref02_At_o (⟨x7, (⟨x8, x9, x10, x11⟩ : T_ref01_Arena)⟩ : T_ref02_List) y18.B z35) ∧ ∀ J4 : Bool → Int → (List T_arena_slot) → (List Int) → Prop, (∀ x36 x37 x38 x39, law02_OrderPlays_J4 r0 J3 x7 x8 x9 x10 x11 x36 x37 x38 x39 → J4 x36 x37 x38 x39) → ∃ z40, (order_List_Less_v0_o y18.A y18.B x12 x16 x17 z40) ∧ cnd (decide ((0 : Int) ≤ z34)) (cnd (decide ((0 : Int) ≤ z35)) (cnd (!(z40 == (decide (z34 < z35)))) (J4 true x12 x16 x17) (∃ z41, (order_List_Has_v0_o y18.A x12 x16 x17 z41) ∧ J4 (!(z41 == (decide ((0 : Int) ≤ z34)))) x12 x16 x17)) (cnd (!(z40 == false)) (J4 true x12 x16 x17) (∃ z42, (order_List_Has_v0_o y18.A x12 x16 x17 z42) ∧ J4 (!(z42 == (decide ((0 : Int) ≤ z34)))) x12 x16 x17))) (cnd (!(z40 == false)) (J4 true x12 x16 x17) (∃ z43, (order_List_Has_v0_o y18.A x12 x16 x17 z43) ∧ J4 (!(z43 == (decide ((0 : Int) ≤ z34)))) x12 x16 x17))) (∃ z44 z45 z46 z47 z48, (order_List_After_v0_o y18.A x12 x16 x17 z44 z45 z46 z47 z48) ∧ ∃ z49 z50 z51, (ref02_After_o (⟨x7, (⟨x8, x9, x10, x11⟩ : T_ref01_Arena)⟩ : T_ref02_List) y18.A z49 z50 z51) ∧ ∀ J5 : Bool → (List T_arena_slot) → (List Int) → Prop, (∀ x52 x53 x54, law02_OrderPlays_J5 r0 J3 z49 z46 x52 x53 x54 → J5 x52 x53 x54) → cnd (!(z44 == z50)) (J5 true z47 z48) (J5 (!(z45 == z51)) z47 z48)))) ((order_List_All_v0_o x12 x16 x17) ∧ (Nat → ∀ X6 : Int → Int → Int → (List T_arena_slot) → (List Int) → Prop, (∀ x55 x56 x57 x58 x59, law02_OrderPlays_L6 r0 x7 X6 x55 x56 x57 x58 x59 → X6 x55 x56 x57 x58 x59) → X6 (0 : Int) (0 : Int) x12 x16 x17))
def law02_OrderPlays_L1 (a0 : List T_law02_Act) (r0 : Bool) (X1 : Int → (List Int) → Int → (List Int) → (List Bool) → (List Int) → Int → (List T_arena_slot) → (List Int) → Prop) (x6 : Int) (x7 : List Int) (x8 : Int) (x9 : List Int) (x10 : List Bool) (x11 : List Int) (x12 : Int) (x13 : List T_arena_slot) (x14 : List Int) : Prop :=
 ∀ J2 : Bool → (List T_arena_slot) → (List Int) → Prop, (∀ x15 x16 x17, law02_OrderPlays_J2 x6 a0 r0 X1 x7 x8 x9 x10 x11 x12 x15 x16 x17 → J2 x15 x16 x17) → (a0.length ≤ maxLen → cnd (decide (x6 < (a0.length : Int))) (J2 (decide (x6 < (80 : Int))) x13 x14) (J2 false x13 x14))
def law02_OrderPlays_o (a0 : List T_law02_Act) (r0 : Bool) : Prop :=
 ∃ z1, (law02_speaks_o z1) ∧ cnd (!z1) (false = r0) (∃ z2 z3 z4, (order_New_v0_o z2 z3 z4) ∧ ∃ z5, (ref02_New_o z5) ∧ ∀ X1 : Int → (List Int) → Int → (List Int) → (List Bool) → (List Int) → Int → (List T_arena_slot) → (List Int) → Prop, (∀ x6 x7 x8 x9 x10 x11 x12 x13 x14, law02_OrderPlays_L1 a0 r0 X1 x6 x7 x8 x9 x10 x11 x12 x13 x14 → X1 x6 x7 x8 x9 x10 x11 x12 x13 x14) → X1 (0 : Int) z5.Order z5.Numbers.Room z5.Numbers.Things z5.Numbers.Used z5.Numbers.Freed z2 z3 z4)
def law02_OrderPlays_J3i (X1 : Int → (List Int) → Int → (List Int) → (List Bool) → (List Int) → Int → (List T_arena_slot) → (List Int) → Prop) (r0 : Bool) (x6 : Int) (x19 : List Int) (x20 : Int) (x21 : List Int) (x22 : List Bool) (x23 : List Int) (x24 : Int) (x25 : List T_arena_slot) (x26 : List Int) : Prop :=
 ∃ z27, (order_List_Len_v0_o x24 x25 x26 z27) ∧ cnd (!(z27 == (x19.length : Int))) (false = r0) (X1 (IntKind.i64.wrap (x6 + (1 : Int))) x19 x20 x21 x22 x23 x24 x25 x26)
def law02_OrderPlays_J4i (X1 : Int → (List Int) → Int → (List Int) → (List Bool) → (List Int) → Int → (List T_arena_slot) → (List Int) → Prop) (r0 : Bool) (x6 : Int) (x7 : List Int) (x8 : Int) (x9 : List Int) (x10 : List Bool) (x11 : List Int) (x36 : Bool) (x37 : Int) (x38 : List T_arena_slot) (x39 : List Int) : Prop :=
 cnd x36 (false = r0) (law02_OrderPlays_J3i X1 r0 x6 x7 x8 x9 x10 x11 x37 x38 x39)
def law02_OrderPlays_J5i (X1 : Int → (List Int) → Int → (List Int) → (List Bool) → (List Int) → Int → (List T_arena_slot) → (List Int) → Prop) (r0 : Bool) (x6 z46 : Int) (z49 : T_ref02_List) (x52 : Bool) (x53 : List T_arena_slot) (x54 : List Int) : Prop :=
 cnd x52 (false = r0) (law02_OrderPlays_J3i X1 r0 x6 z49.Order z49.Numbers.Room z49.Numbers.Things z49.Numbers.Used z49.Numbers.Freed z46 x53 x54)
def law02_OrderPlays_J7i (X6 : Int → Int → Int → (List T_arena_slot) → (List Int) → Prop) (r0 : Bool) (x55 x56 x57 : Int) (x60 : Bool) (x61 : List T_arena_slot) (x62 : List Int) : Prop :=
 cnd x60 (false = r0) (∃ z63, (order_List_at_v0_o x55 x57 x61 x62 z63) ∧ X6 z63.next (IntKind.i64.wrap (x56 + (1 : Int))) x57 x61 x62)
def law02_OrderPlays_J8i (r0 x67 : Bool) : Prop :=
 x67 = r0
def law02_OrderPlays_L6i (r0 : Bool) (x7 : List Int) (X6 : Int → Int → Int → (List T_arena_slot) → (List Int) → Prop) (x55 x56 x57 : Int) (x58 : List T_arena_slot) (x59 : List Int) : Prop :=
 cnd (!(x55 == (-1 : Int))) ((x7.length ≤ maxLen → cnd (decide ((x7.length : Int) ≤ x56)) (law02_OrderPlays_J7i X6 r0 x55 x56 x57 true x58 x59) ((0 ≤ x56) ∧ (x56 < (x7.length : Int)) ∧ ∃ y64 : Int, (x7[x56.toNat]? = some y64) ∧ law02_OrderPlays_J7i X6 r0 x55 x56 x57 (!(x55 == y64)) x58 x59))) (∃ z65 z66, (order_List_After_v1_o (0 : Int) z65 z66) ∧ (order_List_All_v1_o) ∧ (Nat → (x7.length ≤ maxLen → cnd (x56 == (x7.length : Int)) (cnd (!z66) (∃ z68, (order_List_Delete_v1_o (1 : Int) z68) ∧ cnd (!z68) (∃ z69, (order_List_Less_v1_o (0 : Int) (1 : Int) z69) ∧ cnd (!z69) (∃ z70, (order_List_Has_v1_o (0 : Int) z70) ∧ cnd (!z70) (∃ z71, (order_List_Len_v1_o z71) ∧ law02_OrderPlays_J8i r0 (z71 == (0 : Int))) (law02_OrderPlays_J8i r0 false)) (law02_OrderPlays_J8i r0 false)) (law02_OrderPlays_J8i r0 false)) (law02_OrderPlays_J8i r0 false)) (law02_OrderPlays_J8i r0 false))))
def law02_OrderPlays_J2i (X1 : Int → (List Int) → Int → (List Int) → (List Bool) → (List Int) → Int → (List T_arena_slot) → (List Int) → Prop) (a0 : List T_law02_Act) (r0 : Bool) (x6 : Int) (x7 : List Int) (x8 : Int) (x9 : List Int) (x10 : List Bool) (x11 : List Int) (x12 : Int) (x15 : Bool) (x16 : List T_arena_slot) (x17 : List Int) : Prop :=
 cnd x15 ((0 ≤ x6) ∧ (x6 < (a0.length : Int)) ∧ ∃ y18 : T_law02_Act, (a0[x6.toNat]? = some y18) ∧ cnd (((IntKind.i64.wrap ((y18.What.tmod (5 : Int)) + (5 : Int))).tmod (5 : Int)) == (3 : Int)) (∃ z28 z29, (ref02_Delete_o (⟨x7, (⟨x8, x9, x10, x11⟩ : T_ref01_Arena)⟩ : T_ref02_List) y18.A z28 z29) ∧ ∃ z30 z31 z32 z33, (order_List_Delete_v0_o y18.A x12 x16 x17 z30 z31 z32 z33) ∧ cnd (!(z30 == z29)) (false = r0) (law02_OrderPlays_J3i X1 r0 x6 z28.Order z28.Numbers.Room z28.Numbers.Things z28.Numbers.Used z28.Numbers.Freed z31 z32 z33)) (cnd (((IntKind.i64.wrap ((y18.What.tmod (5 : Int)) + (5 : Int))).tmod (5 : Int)) == (4 : Int)) (∃ z34, (ref02_At_o (⟨x7, (⟨x8, x9, x10, x11⟩ : T_ref01_Arena)⟩ : T_ref02_List) y18.A z34) ∧ ∃ z35, (ref02_At_o (⟨x7, (⟨x8, x9, x10, x11⟩ : T_ref01_Arena)⟩ : T_ref02_List) y18.B z35) ∧ ∃ z40, (order_List_Less_v0_o y18.A y18.B x12 x16 x17 z40) ∧ cnd (decide ((0 : Int) ≤ z34)) (cnd (decide ((0 : Int) ≤ z35)) (cnd (!(z40 == (decide (z34 < z35)))) (law02_OrderPlays_J4i X1 r0 x6 x7 x8 x9 x10 x11 true x12 x16 x17) (∃ z41, (order_List_Has_v0_o y18.A x12 x16 x17 z41) ∧ law02_OrderPlays_J4i X1 r0 x6 x7 x8 x9 x10 x11 (!(z41 == (decide ((0 : Int) ≤ z34)))) x12 x16 x17)) (cnd (!(z40 == false)) (law02_OrderPlays_J4i X1 r0 x6 x7 x8 x9 x10 x11 true x12 x16 x17) (∃ z42, (order_List_Has_v0_o y18.A x12 x16 x17 z42) ∧ law02_OrderPlays_J4i X1 r0 x6 x7 x8 x9 x10 x11 (!(z42 == (decide ((0 : Int) ≤ z34)))) x12 x16 x17))) (cnd (!(z40 == false)) (law02_OrderPlays_J4i X1 r0 x6 x7 x8 x9 x10 x11 true x12 x16 x17) (∃ z43, (order_List_Has_v0_o y18.A x12 x16 x17 z43) ∧ law02_OrderPlays_J4i X1 r0 x6 x7 x8 x9 x10 x11 (!(z43 == (decide ((0 : Int) ≤ z34)))) x12 x16 x17))) (∃ z44 z45 z46 z47 z48, (order_List_After_v0_o y18.A x12 x16 x17 z44 z45 z46 z47 z48) ∧ ∃ z49 z50 z51, (ref02_After_o (⟨x7, (⟨x8, x9, x10, x11⟩ : T_ref01_Arena)⟩ : T_ref02_List) y18.A z49 z50 z51) ∧ cnd (!(z44 == z50)) (law02_OrderPlays_J5i X1 r0 x6 z46 z49 true z47 z48) (law02_OrderPlays_J5i X1 r0 x6 z46 z49 (!(z45 == z51)) z47 z48)))) ((order_List_All_v0_o x12 x16 x17) ∧ (Nat → ∀ X6 : Int → Int → Int → (List T_arena_slot) → (List Int) → Prop, (∀ x55 x56 x57 x58 x59, law02_OrderPlays_L6i r0 x7 X6 x55 x56 x57 x58 x59 → X6 x55 x56 x57 x58 x59) → X6 (0 : Int) (0 : Int) x12 x16 x17))
def law02_OrderPlays_L1i (a0 : List T_law02_Act) (r0 : Bool) (X1 : Int → (List Int) → Int → (List Int) → (List Bool) → (List Int) → Int → (List T_arena_slot) → (List Int) → Prop) (x6 : Int) (x7 : List Int) (x8 : Int) (x9 : List Int) (x10 : List Bool) (x11 : List Int) (x12 : Int) (x13 : List T_arena_slot) (x14 : List Int) : Prop :=
 (a0.length ≤ maxLen → cnd (decide (x6 < (a0.length : Int))) (law02_OrderPlays_J2i X1 a0 r0 x6 x7 x8 x9 x10 x11 x12 (decide (x6 < (80 : Int))) x13 x14) (law02_OrderPlays_J2i X1 a0 r0 x6 x7 x8 x9 x10 x11 x12 false x13 x14))
def law02_OrderPlays_oi (a0 : List T_law02_Act) (r0 : Bool) : Prop :=
 ∃ z1, (law02_speaks_o z1) ∧ cnd (!z1) (false = r0) (∃ z2 z3 z4, (order_New_v0_o z2 z3 z4) ∧ ∃ z5, (ref02_New_o z5) ∧ ∀ X1 : Int → (List Int) → Int → (List Int) → (List Bool) → (List Int) → Int → (List T_arena_slot) → (List Int) → Prop, (∀ x6 x7 x8 x9 x10 x11 x12 x13 x14, law02_OrderPlays_L1i a0 r0 X1 x6 x7 x8 x9 x10 x11 x12 x13 x14 → X1 x6 x7 x8 x9 x10 x11 x12 x13 x14) → X1 (0 : Int) z5.Order z5.Numbers.Room z5.Numbers.Things z5.Numbers.Used z5.Numbers.Freed z2 z3 z4)
theorem law02_OrderPlays_J3_m (X1 : Int → (List Int) → Int → (List Int) → (List Bool) → (List Int) → Int → (List T_arena_slot) → (List Int) → Prop) (r0 : Bool) (x6 : Int) {x19 : List Int} {x20 : Int} {x21 : List Int} {x22 : List Bool} {x23 : List Int} {x24 : Int} {x25 : List T_arena_slot} {x26 : List Int} (h : law02_OrderPlays_J3i X1 r0 x6 x19 x20 x21 x22 x23 x24 x25 x26) : law02_OrderPlays_J3 r0 X1 x6 x19 x20 x21 x22 x23 x24 x25 x26 := by
 unfold law02_OrderPlays_J3
 unfold law02_OrderPlays_J3i at h
 exact h
theorem law02_OrderPlays_J4_m (J3 : (List Int) → Int → (List Int) → (List Bool) → (List Int) → Int → (List T_arena_slot) → (List Int) → Prop) (X1 : Int → (List Int) → Int → (List Int) → (List Bool) → (List Int) → Int → (List T_arena_slot) → (List Int) → Prop) (r0 : Bool) (x6 : Int) (x7 : List Int) (x8 : Int) (x9 : List Int) (x10 : List Bool) (x11 : List Int) (hJ3 : ∀ (x19 : (List Int)) (x20 : Int) (x21 : (List Int)) (x22 : (List Bool)) (x23 : (List Int)) (x24 : Int) (x25 : (List T_arena_slot)) (x26 : (List Int)), law02_OrderPlays_J3i X1 r0 x6 x19 x20 x21 x22 x23 x24 x25 x26 → J3 x19 x20 x21 x22 x23 x24 x25 x26) {x36 : Bool} {x37 : Int} {x38 : List T_arena_slot} {x39 : List Int} (h : law02_OrderPlays_J4i X1 r0 x6 x7 x8 x9 x10 x11 x36 x37 x38 x39) : law02_OrderPlays_J4 r0 J3 x7 x8 x9 x10 x11 x36 x37 x38 x39 := by
 unfold law02_OrderPlays_J4
 unfold law02_OrderPlays_J4i at h
 refine cnd_mono h (fun h => ?_) (fun h => ?_)
 ·exact h
 ·exact hJ3 _ _ _ _ _ _ _ _ h
theorem law02_OrderPlays_J5_m (J3 : (List Int) → Int → (List Int) → (List Bool) → (List Int) → Int → (List T_arena_slot) → (List Int) → Prop) (X1 : Int → (List Int) → Int → (List Int) → (List Bool) → (List Int) → Int → (List T_arena_slot) → (List Int) → Prop) (r0 : Bool) (x6 z46 : Int) (z49 : T_ref02_List) (hJ3 : ∀ (x19 : (List Int)) (x20 : Int) (x21 : (List Int)) (x22 : (List Bool)) (x23 : (List Int)) (x24 : Int) (x25 : (List T_arena_slot)) (x26 : (List Int)), law02_OrderPlays_J3i X1 r0 x6 x19 x20 x21 x22 x23 x24 x25 x26 → J3 x19 x20 x21 x22 x23 x24 x25 x26) {x52 : Bool} {x53 : List T_arena_slot} {x54 : List Int} (h : law02_OrderPlays_J5i X1 r0 x6 z46 z49 x52 x53 x54) : law02_OrderPlays_J5 r0 J3 z49 z46 x52 x53 x54 := by
 unfold law02_OrderPlays_J5
 unfold law02_OrderPlays_J5i at h
 refine cnd_mono h (fun h => ?_) (fun h => ?_)
 ·exact h
 ·exact hJ3 _ _ _ _ _ _ _ _ h
theorem law02_OrderPlays_J7_m (X6 : Int → Int → Int → (List T_arena_slot) → (List Int) → Prop) (r0 : Bool) (x55 x56 x57 : Int) {x60 : Bool} {x61 : List T_arena_slot} {x62 : List Int} (h : law02_OrderPlays_J7i X6 r0 x55 x56 x57 x60 x61 x62) : law02_OrderPlays_J7 r0 x55 x57 X6 x56 x60 x61 x62 := by
 unfold law02_OrderPlays_J7
 unfold law02_OrderPlays_J7i at h
 exact h
theorem law02_OrderPlays_J8_m (r0 : Bool) {x67 : Bool} (h : law02_OrderPlays_J8i r0 x67) : law02_OrderPlays_J8 r0 x67 := by
 unfold law02_OrderPlays_J8
 unfold law02_OrderPlays_J8i at h
 exact h
theorem law02_OrderPlays_L6_m (r0 : Bool) (x7 : List Int) {X6 : Int → Int → Int → (List T_arena_slot) → (List Int) → Prop} {x55 x56 x57 : Int} {x58 : List T_arena_slot} {x59 : List Int} (h : law02_OrderPlays_L6i r0 x7 X6 x55 x56 x57 x58 x59) : law02_OrderPlays_L6 r0 x7 X6 x55 x56 x57 x58 x59 := by
 unfold law02_OrderPlays_L6
 unfold law02_OrderPlays_L6i at h
 refine cnd_mono h (fun h => ?_) (fun h => ?_)
 ·intro J7 kJ7
  have hJ7 : ∀ x60 x61 x62, law02_OrderPlays_J7i X6 r0 x55 x56 x57 x60 x61 x62 → J7 x60 x61 x62 := fun x60 x61 x62 q => kJ7 x60 x61 x62 (law02_OrderPlays_J7_m X6 r0 x55 x56 x57 q)
  intro c
  replace h := h c
  refine cnd_mono h (fun h => ?_) (fun h => ?_)
  ·exact hJ7 _ _ _ h
  ·obtain ⟨h0, h⟩ := h
   refine ⟨h0, ?_⟩
   obtain ⟨h0, h⟩ := h
   refine ⟨h0, ?_⟩
   obtain ⟨y64, h⟩ := h
   refine ⟨y64, ?_⟩
   obtain ⟨h0, h⟩ := h
   refine ⟨h0, ?_⟩
   exact hJ7 _ _ _ h
 ·obtain ⟨z65, h⟩ := h
  refine ⟨z65, ?_⟩
  obtain ⟨z66, h⟩ := h
  refine ⟨z66, ?_⟩
  obtain ⟨h0, h⟩ := h
  refine ⟨h0, ?_⟩
  obtain ⟨h0, h⟩ := h
  refine ⟨h0, ?_⟩
  intro c
  replace h := h c
  intro J8 kJ8
  have hJ8 : ∀ x67, law02_OrderPlays_J8i r0 x67 → J8 x67 := fun x67 q => kJ8 x67 (law02_OrderPlays_J8_m r0 q)
  intro c
  replace h := h c
  refine cnd_mono h (fun h => ?_) (fun h => ?_)
  ·refine cnd_mono h (fun h => ?_) (fun h => ?_)
   ·obtain ⟨z68, h⟩ := h
    refine ⟨z68, ?_⟩
    obtain ⟨h0, h⟩ := h
    refine ⟨h0, ?_⟩
    refine cnd_mono h (fun h => ?_) (fun h => ?_)
    ·obtain ⟨z69, h⟩ := h
     refine ⟨z69, ?_⟩
     obtain ⟨h0, h⟩ := h
     refine ⟨h0, ?_⟩
     refine cnd_mono h (fun h => ?_) (fun h => ?_)
     ·obtain ⟨z70, h⟩ := h
      refine ⟨z70, ?_⟩
      obtain ⟨h0, h⟩ := h
      refine ⟨h0, ?_⟩
      refine cnd_mono h (fun h => ?_) (fun h => ?_)
      ·obtain ⟨z71, h⟩ := h
       refine ⟨z71, ?_⟩
       obtain ⟨h0, h⟩ := h
       refine ⟨h0, ?_⟩
       exact hJ8 _ h
      ·exact hJ8 _ h
     ·exact hJ8 _ h
    ·exact hJ8 _ h
   ·exact hJ8 _ h
  ·exact hJ8 _ h
theorem law02_OrderPlays_J2_m (X1 : Int → (List Int) → Int → (List Int) → (List Bool) → (List Int) → Int → (List T_arena_slot) → (List Int) → Prop) (a0 : List T_law02_Act) (r0 : Bool) (x6 : Int) (x7 : List Int) (x8 : Int) (x9 : List Int) (x10 : List Bool) (x11 : List Int) (x12 : Int) {x15 : Bool} {x16 : List T_arena_slot} {x17 : List Int} (h : law02_OrderPlays_J2i X1 a0 r0 x6 x7 x8 x9 x10 x11 x12 x15 x16 x17) : law02_OrderPlays_J2 x6 a0 r0 X1 x7 x8 x9 x10 x11 x12 x15 x16 x17 := by
 unfold law02_OrderPlays_J2
 unfold law02_OrderPlays_J2i at h
 refine cnd_mono h (fun h => ?_) (fun h => ?_)
 ·obtain ⟨h0, h⟩ := h
  refine ⟨h0, ?_⟩
  obtain ⟨h0, h⟩ := h
  refine ⟨h0, ?_⟩
  obtain ⟨y18, h⟩ := h
  refine ⟨y18, ?_⟩
  obtain ⟨h0, h⟩ := h
  refine ⟨h0, ?_⟩
  intro J3 kJ3
  have hJ3 : ∀ x19 x20 x21 x22 x23 x24 x25 x26, law02_OrderPlays_J3i X1 r0 x6 x19 x20 x21 x22 x23 x24 x25 x26 → J3 x19 x20 x21 x22 x23 x24 x25 x26 := fun x19 x20 x21 x22 x23 x24 x25 x26 q => kJ3 x19 x20 x21 x22 x23 x24 x25 x26 (law02_OrderPlays_J3_m X1 r0 x6 q)
  refine cnd_mono h (fun h => ?_) (fun h => ?_)
  ·obtain ⟨z28, h⟩ := h
   refine ⟨z28, ?_⟩
   obtain ⟨z29, h⟩ := h
   refine ⟨z29, ?_⟩
   obtain ⟨h0, h⟩ := h
   refine ⟨h0, ?_⟩
   obtain ⟨z30, h⟩ := h
   refine ⟨z30, ?_⟩
   obtain ⟨z31, h⟩ := h
   refine ⟨z31, ?_⟩
   obtain ⟨z32, h⟩ := h
   refine ⟨z32, ?_⟩
   obtain ⟨z33, h⟩ := h
   refine ⟨z33, ?_⟩
   obtain ⟨h0, h⟩ := h
   refine ⟨h0, ?_⟩
   refine cnd_mono h (fun h => ?_) (fun h => ?_)
   ·exact h
   ·exact hJ3 _ _ _ _ _ _ _ _ h
  ·refine cnd_mono h (fun h => ?_) (fun h => ?_)
   ·obtain ⟨z34, h⟩ := h
    refine ⟨z34, ?_⟩
    obtain ⟨h0, h⟩ := h
    refine ⟨h0, ?_⟩
    obtain ⟨z35, h⟩ := h
    refine ⟨z35, ?_⟩
    obtain ⟨h0, h⟩ := h
    refine ⟨h0, ?_⟩
    intro J4 kJ4
    have hJ4 : ∀ x36 x37 x38 x39, law02_OrderPlays_J4i X1 r0 x6 x7 x8 x9 x10 x11 x36 x37 x38 x39 → J4 x36 x37 x38 x39 := fun x36 x37 x38 x39 q => kJ4 x36 x37 x38 x39 (law02_OrderPlays_J4_m J3 X1 r0 x6 x7 x8 x9 x10 x11 hJ3 q)
    obtain ⟨z40, h⟩ := h
    refine ⟨z40, ?_⟩
    obtain ⟨h0, h⟩ := h
    refine ⟨h0, ?_⟩
    refine cnd_mono h (fun h => ?_) (fun h => ?_)
    ·refine cnd_mono h (fun h => ?_) (fun h => ?_)
     ·refine cnd_mono h (fun h => ?_) (fun h => ?_)
      ·exact hJ4 _ _ _ _ h
      ·obtain ⟨z41, h⟩ := h
       refine ⟨z41, ?_⟩
       obtain ⟨h0, h⟩ := h
       refine ⟨h0, ?_⟩
       exact hJ4 _ _ _ _ h
     ·refine cnd_mono h (fun h => ?_) (fun h => ?_)
      ·exact hJ4 _ _ _ _ h
      ·obtain ⟨z42, h⟩ := h
       refine ⟨z42, ?_⟩
       obtain ⟨h0, h⟩ := h
       refine ⟨h0, ?_⟩
       exact hJ4 _ _ _ _ h
    ·refine cnd_mono h (fun h => ?_) (fun h => ?_)
     ·exact hJ4 _ _ _ _ h
     ·obtain ⟨z43, h⟩ := h
      refine ⟨z43, ?_⟩
      obtain ⟨h0, h⟩ := h
      refine ⟨h0, ?_⟩
      exact hJ4 _ _ _ _ h
   ·obtain ⟨z44, h⟩ := h
    refine ⟨z44, ?_⟩
    obtain ⟨z45, h⟩ := h
    refine ⟨z45, ?_⟩
    obtain ⟨z46, h⟩ := h
    refine ⟨z46, ?_⟩
    obtain ⟨z47, h⟩ := h
    refine ⟨z47, ?_⟩
    obtain ⟨z48, h⟩ := h
    refine ⟨z48, ?_⟩
    obtain ⟨h0, h⟩ := h
    refine ⟨h0, ?_⟩
    obtain ⟨z49, h⟩ := h
    refine ⟨z49, ?_⟩
    obtain ⟨z50, h⟩ := h
    refine ⟨z50, ?_⟩
    obtain ⟨z51, h⟩ := h
    refine ⟨z51, ?_⟩
    obtain ⟨h0, h⟩ := h
    refine ⟨h0, ?_⟩
    intro J5 kJ5
    have hJ5 : ∀ x52 x53 x54, law02_OrderPlays_J5i X1 r0 x6 z46 z49 x52 x53 x54 → J5 x52 x53 x54 := fun x52 x53 x54 q => kJ5 x52 x53 x54 (law02_OrderPlays_J5_m J3 X1 r0 x6 z46 z49 hJ3 q)
    refine cnd_mono h (fun h => ?_) (fun h => ?_)
    ·exact hJ5 _ _ _ h
    ·exact hJ5 _ _ _ h
 ·obtain ⟨h0, h⟩ := h
  refine ⟨h0, ?_⟩
  intro c
  replace h := h c
  intro X6 k
  exact h X6 (fun x55 x56 x57 x58 x59 q => k x55 x56 x57 x58 x59 (law02_OrderPlays_L6_m r0 x7 q))
theorem law02_OrderPlays_L1_m (a0 : List T_law02_Act) (r0 : Bool) {X1 : Int → (List Int) → Int → (List Int) → (List Bool) → (List Int) → Int → (List T_arena_slot) → (List Int) → Prop} {x6 : Int} {x7 : List Int} {x8 : Int} {x9 : List Int} {x10 : List Bool} {x11 : List Int} {x12 : Int} {x13 : List T_arena_slot} {x14 : List Int} (h : law02_OrderPlays_L1i a0 r0 X1 x6 x7 x8 x9 x10 x11 x12 x13 x14) : law02_OrderPlays_L1 a0 r0 X1 x6 x7 x8 x9 x10 x11 x12 x13 x14 := by
 unfold law02_OrderPlays_L1
 unfold law02_OrderPlays_L1i at h
 intro J2 kJ2
 have hJ2 : ∀ x15 x16 x17, law02_OrderPlays_J2i X1 a0 r0 x6 x7 x8 x9 x10 x11 x12 x15 x16 x17 → J2 x15 x16 x17 := fun x15 x16 x17 q => kJ2 x15 x16 x17 (law02_OrderPlays_J2_m X1 a0 r0 x6 x7 x8 x9 x10 x11 x12 q)
 intro c
 replace h := h c
 refine cnd_mono h (fun h => ?_) (fun h => ?_)
 ·exact hJ2 _ _ _ h
 ·exact hJ2 _ _ _ h
theorem law02_OrderPlays_i (a0 : List T_law02_Act) (r0 : Bool) (h : law02_OrderPlays_oi a0 r0) : law02_OrderPlays_o a0 r0 := by
 unfold law02_OrderPlays_o
 unfold law02_OrderPlays_oi at h
 obtain ⟨z1, h⟩ := h
 refine ⟨z1, ?_⟩
 obtain ⟨h0, h⟩ := h
 refine ⟨h0, ?_⟩
 refine cnd_mono h (fun h => ?_) (fun h => ?_)
 ·exact h
 ·obtain ⟨z2, h⟩ := h
  refine ⟨z2, ?_⟩
  obtain ⟨z3, h⟩ := h
  refine ⟨z3, ?_⟩
  obtain ⟨z4, h⟩ := h
  refine ⟨z4, ?_⟩
  obtain ⟨h0, h⟩ := h
  refine ⟨h0, ?_⟩
  obtain ⟨z5, h⟩ := h
  refine ⟨z5, ?_⟩
  obtain ⟨h0, h⟩ := h
  refine ⟨h0, ?_⟩
  intro X1 k
  exact h X1 (fun x6 x7 x8 x9 x10 x11 x12 x13 x14 q => k x6 x7 x8 x9 x10 x11 x12 x13 x14 (law02_OrderPlays_L1_m a0 r0 q))
def law02_OrderPlays_sp : Sp KK := ⟨4, [.v 34], [4], appW (K := KK) [4] [.v 34] law02_OrderPlays_o⟩
def law02_OrderPlays_an : An KK := (.s .o (.s (.s .o (.c (.s .o .o) .o)) (.s .o (.s (.s .o (.b (.l ⟨[(0, .kp 254), (2, .px 2 0), (3, .px 1001472 0), (4, .px 4 0), (5, .it .i64)], [(2, 4, [.kp 256]), (1001472, 56, [.px 1001473 0]), (4, 39, [.sl 3, .it .i64, .sl 3, .sl 4, .sl 3]), (1001473, 70, [.it .i64, .row 1001474, .row 1001475])], [(1001474, 72), (1001475, 3)]⟩ (fun _ => (.s (.j ⟨[(0, .kp 254), (2, .px 2 0), (3, .px 1001472 0), (4, .px 4 0), (5, .kp 428), (32, .bl)], [(2, 4, [.kp 256]), (1001472, 56, [.px 1001473 0]), (4, 39, (kps 429 5)), (1001473, 70, [.kp 434, .row 1001474, .row 1001475])], [(1001474, 72), (1001475, 3)]⟩ .o (fun _ => (.c .o .o))) (.s (.b (.s .o (.j ⟨[(0, .kp 254), (2, .px 2 0), (3, .px 1001472 0), (4, .px 4 0), (5, .kp 428)], [(2, 4, [.kp 256]), (1001472, 56, [.px 1001473 0]), (4, 39, [.sl 3, .it .i64, .sl 3, .sl 4, .sl 3]), (1001473, 70, [.it .i64, .row 1005120, .row 1005121])], [(1005120, 72), (1005121, 3)]⟩ (.s .o (.b (.s .o (.c (.s .o (.s (.s .o (.c (.s .o .o) .o)) .o)) (.s .o (.c (.s .o (.j ⟨[(0, .kp 254), (2, .px 2 0), (3, .px 1001472 0), (4, .px 4 0), (5, .kp 428), (120, .bl)], [(2, 4, [.kp 256]), (1001472, 56, [.px 1001473 0]), (4, 39, (kps 429 5)), (1001473, 70, [.it .i64, .row 1001474, .row 1001475])], [(1001474, 72), (1001475, 3)]⟩ .o (fun _ => (.c (.s .o .o) .o)))) (.s .o (.s .o (.s (.j ⟨[(0, .kp 254), (2, .px 2 0), (3, .px 1001472 0), (4, .px 4 0), (5, .kp 428), (13, .px 13 0), (66, .bl)], [(2, 4, [.kp 256]), (1001472, 56, [.px 1001473 0]), (4, 39, (kps 429 5)), (13, 39, (kps 501 5)), (1001473, 70, [.kp 506, .row 1003072, .row 1003073])], [(1003072, 72), (1003073, 3)]⟩ .o (fun _ => (.c (.s .o .o) .o))) .o))))))))) (fun _ => (.s .o (.c (.s .o .o) .o)))))) .o)))))) (.s .o (.s (.s .o (.b (.g 507 ⟨[(2, .px 100002 0), (4, .px 100004 0), (16, .px 100016 0), (128, .fn 23 [] [.px 108192 0])], [(100002, 4, [.kp 256]), (100004, 39, (kps 429 5)), (100016, 3, [.it .i64]), (108192, 25, [.px 101472 0]), (101472, 56, [.px 101473 0]), (101473, 70, [.it .i64, .row 101474, .row 101475])], [(101474, 72), (101475, 3)]⟩ ⟨[(0, .kp 507), (1, .px 208192 0), (3, .it .i64), (12, .kp 507), (13, .it .i64), (16, .kp 507), (19, .px 200002 0), (21, .px 200004 0), (33, .px 200016 0)], [(208192, 25, [.px 201472 0]), (200002, 4, [.kp 256]), (200004, 39, (kps 429 5)), (200016, 3, [.it .i64]), (201472, 56, [.px 201473 0]), (201473, 70, [.it .i64, .row 201474, .row 201475])], [(201474, 72), (201475, 3)]⟩ (.s (.s .o (.c .o .o)) (.s .o (.b (.l ⟨[(0, .kp 507), (1, .px 108192 0), (3, .it .i64), (16, .kp 507), (19, .px 100002 0), (21, .px 100004 0), (33, .px 100016 0)], [(108192, 25, [.px 101472 0]), (100002, 4, [.kp 256]), (100004, 39, (kps 429 5)), (100016, 3, [.it .i64]), (101472, 56, [.px 101473 0]), (101473, 70, [.it .i64, .row 101474, .row 101475])], [(101474, 72), (101475, 3)]⟩ (fun _ => (.s (.s .o (.c .o .o)) (.s (.b (.s .o (.c .o .o))) .o))))))) .o (.b (.s (.j ⟨[(2, .px 200002 0), (16, .px 200016 0), (143, .bl), (183, .kp 507), (184, .px 208192 0), (186, .kp 559), (199, .kp 507), (202, .px 200002 0), (204, .px 200004 0), (216, .px 200016 0)], [(200002, 4, [.kp 256]), (200016, 3, [.kp 560]), (208192, 25, [.px 201472 0]), (200004, 39, (kps 429 5)), (201472, 56, [.px 201473 0]), (201473, 70, [.kp 561, .row 201474, .row 201475])], [(201474, 72), (201475, 3)]⟩ .o (fun _ => (.c (.s .o .o) .o))) .o))))) (.s .o (.s .o (.s (.s .o (.b (.g 562 ⟨[(2, .px 100002 0), (4, .px 100004 0), (16, .px 100016 0), (18, .np), (20, .bl), (152, .fn 23 [] [.px 109728 0])], [(100002, 4, [.kp 256]), (100004, 39, (kps 429 5)), (100016, 3, [.it .i64]), (109728, 25, [.np])], []⟩ ⟨[], [], []⟩ (.s (.s .o (.c .o .o)) (.s .o (.b .o))) .o (.b (.s .o .o))))) (.j ⟨[(2, .px 100002 0)], [(100002, 4, [.bl])], []⟩ .o (fun _ => .o)))))))))))
def law02_OrderPlays_cf : Cf KK := ⟨CC, [law02_speaks_sp, ref02_New_sp, ref02_Delete_sp, ref02_At_sp, ref02_After_sp], [order_New_v0_sl, order_List_Delete_v0_sl, order_List_Less_v0_sl, order_List_Has_v0_sl, order_List_After_v0_sl, order_List_Len_v0_sl, order_List_All_v0_sl, order_List_at_v0_sl, order_List_After_v1_sl, order_List_All_v1_sl, order_List_Delete_v1_sl, order_List_Less_v1_sl, order_List_Has_v1_sl, order_List_Len_v1_sl], 183, [(23, c23)], none, false⟩
theorem law02_OrderPlays_ok : SpOk Try.prog CC law02_OrderPlays_sp := SpOk_by (F := law02_OrderPlays_cf) (ps := [.v 34]) (rs := [4]) (w := law02_OrderPlays_o) CC_ok (SsOk_c law02_speaks_ok (SsOk_c ref02_New_ok (SsOk_c ref02_Delete_ok (SsOk_c ref02_At_ok (SsOk_c ref02_After_ok SsOk_n))))) (SLOk_c order_New_v0_ok (SLOk_c order_List_Delete_v0_ok (SLOk_c order_List_Less_v0_ok (SLOk_c order_List_Has_v0_ok (SLOk_c order_List_After_v0_ok (SLOk_c order_List_Len_v0_ok (SLOk_c order_List_All_v0_ok (SLOk_c order_List_at_v0_ok (SLOk_c order_List_After_v1_ok (SLOk_c order_List_All_v1_ok (SLOk_c order_List_Delete_v1_ok (SLOk_c order_List_Less_v1_ok (SLOk_c order_List_Has_v1_ok (SLOk_c order_List_Len_v1_ok SLOk_n)))))))))))))) t4 (A := law02_OrderPlays_an) (by kernel_rfl) (by kernel_rfl) (fun a0 r0 => show _ = _ by kernel_rfl) (hI := (IOk_c t23 IOk_n))
end Go.Proofs.Ytnlhnefjjblpcab
end
