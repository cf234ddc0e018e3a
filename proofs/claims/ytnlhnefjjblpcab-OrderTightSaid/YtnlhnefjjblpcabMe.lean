/- General texts and own ones, joined: what the program computes, told of abstract states, and the laws of plain data. No condition. -/
import Derived.Test.YtnlhnefjjblpcabMd
import Derived.Test.YtnlhnefjjblpcabMa
import Derived.Test.YtnlhnefjjblpcabRows
import Derived.KernelRfl
import Derived.Test.YtnlhnefjjblpcabMc
noncomputable section
namespace Go.AV
open Go.RowKit Go.RG Go.Lib
variable {K : Nat → Type}
section
variable {P : Program} {C : Cx K} {R : RR K} {ts ts1 : TS K} {χ : Nat → Nat → Bool} {ds : DS} {B : Base} [GB P B] {N : Nat} {ro : Option Nat}
theorem lkR_cons (p : Nat × TV K) (r : List (Nat × TV K)) (t : Nat) : lkR (p :: r) t = if p.1 = t then some p.2 else lkR r t := by
 show (match Nat.beq p.1 t with | true => some p.2 | false => lkR r t) = _
 cases h : Nat.beq p.1 t with
 | true => simp [nbeq.1 h]
 | false => simp only; rw [if_neg (fun e => by rw [nbeq.2 e] at h; cases h)]
theorem ExtR.refl {rg : List (Nat × TV K)} : ExtR rg rg := fun _ _ h => h
theorem ExtR.trans {a b c : List (Nat × TV K)} (h : ExtR a b) (k : ExtR b c) : ExtR a c := fun id w q => k id w (h id w q)
def Same (ts ts' : TS K) : Prop := ts'.od = ts.od ∧ ts'.nw = ts.nw
theorem tagV_ext : ∀ (k : Kd) (v : TV K) (rg : List (Nat × TV K)), ExtR rg (tagV k v rg).2
 | .kp id, v, rg => by
   simp only [tagV]
   split
   ·rename_i h1 h2
    intro id' w h
    rw [lkR_cons]
    split
    ·rename_i e; simp only at e; subst e; rw [h2] at h; cases h
    ·exact h
   ·exact .refl
 | .agg l, v, rg => by
   cases v with
   | agg vs =>
     simp only [tagV]
     exact tagVs_ext l vs rg
   | _ => exact .refl
 | .it _, v, rg => .refl
 | .bl, v, rg => .refl
 | .st, v, rg => .refl
 | .sl _, v, rg => .refl
 | .v _, v, rg => .refl
 | .row _, v, rg => .refl
 | .px _ _, v, rg => .refl
 | .nil, v, rg => .refl
 | .np, v, rg => .refl
 | .fn _ _ _, v, rg => .refl
 | .un, v, rg => .refl
where tagVs_ext : ∀ (l : List Kd) (vs : List (TV K)) (rg : List (Nat × TV K)), ExtR rg (tagVs l vs rg).2
 | [], vs, rg => .refl
 | k :: l, [], rg => .refl
 | k :: l, v :: vs, rg => by
   simp only [tagVs]
   exact (tagV_ext k v rg).trans (tagVs_ext l vs _)
theorem Mono.same {ts ts' : TS K} (hs : Same ts ts') (hx : ExtR ts.rg ts'.rg) : Mono ts ts' χ χ := by
 have ht : ∀ s c, ts'.tb s c = ts.tb s c := by intro s c; unfold TS.tb; rw [hs.1, hs.2]
 refine ⟨hx, fun s c h => ?_, fun s c _ => .inr ⟨by rw [ht], rfl⟩⟩
 rcases h with h | ⟨h1, h2⟩
 ·exact .inl h
 ·exact .inr ⟨h1, by rw [hs.2]; exact h2⟩
mutual
theorem tagV_ok : ∀ (k : Kd) (v : TV K) (rg : List (Nat × TV K)) (a : AV) (ts' : TS K), TR P C ts χ v a → Mono ts ts' χ χ → ExtR (tagV k v rg).2 ts'.rg → TR P C ts' χ (tagV k v rg).1 a
 | .kp id, v, rg, a, ts', h, hm, hx => by
   simp only [tagV] at hx ⊢
   split
   ·rename_i h1 h2
    rw [h1, h2] at hx
    exact .cn id v a (hx id v (by rw [lkR_cons]; simp)) h1 (h.noref h1).1
   ·exact h.mono hm
 | .agg l, .agg vs, rg, a, ts', h, hm, hx => by
   simp only [tagV] at hx ⊢
   obtain ⟨az, rfl, t1, t2⟩ := h.agg'
   have := tagVs_ok l vs rg az ts' ⟨t1, t2⟩ hm hx
   exact .agg _ _ this.1 this.2
 | .agg l, .un, rg, a, ts', h, hm, hx => h.mono hm
 | .agg l, .lb b, rg, a, ts', h, hm, hx => h.mono hm
 | .agg l, .bl b, rg, a, ts', h, hm, hx => h.mono hm
 | .agg l, .li k n, rg, a, ts', h, hm, hx => h.mono hm
 | .agg l, .it k n, rg, a, ts', h, hm, hx => h.mono hm
 | .agg l, .st s, rg, a, ts', h, hm, hx => h.mono hm
 | .agg l, .tup s, rg, a, ts', h, hm, hx => h.mono hm
 | .agg l, .nil, rg, a, ts', h, hm, hx => h.mono hm
 | .agg l, .em, rg, a, ts', h, hm, hx => h.mono hm
 | .agg l, .sl _ _, rg, a, ts', h, hm, hx => h.mono hm
 | .agg l, .rw _ _, rg, a, ts', h, hm, hx => h.mono hm
 | .agg l, .px _ _ _, rg, a, ts', h, hm, hx => h.mono hm
 | .agg l, .pr _ _ _ _ _, rg, a, ts', h, hm, hx => h.mono hm
 | .agg l, .ep _ _ _ _, rg, a, ts', h, hm, hx => h.mono hm
 | .agg l, .gs _ _, rg, a, ts', h, hm, hx => h.mono hm
 | .agg l, .nptr, rg, a, ts', h, hm, hx => h.mono hm
 | .agg l, .fn _ _ _, rg, a, ts', h, hm, hx => h.mono hm
 | .agg l, .fv _ _ _, rg, a, ts', h, hm, hx => h.mono hm
 | .agg l, .yl _, rg, a, ts', h, hm, hx => h.mono hm
 | .agg l, .cn _ _, rg, a, ts', h, hm, hx => h.mono hm
 | .it _, v, rg, a, ts', h, hm, hx => h.mono hm
 | .bl, v, rg, a, ts', h, hm, hx => h.mono hm
 | .st, v, rg, a, ts', h, hm, hx => h.mono hm
 | .sl _, v, rg, a, ts', h, hm, hx => h.mono hm
 | .v _, v, rg, a, ts', h, hm, hx => h.mono hm
 | .row _, v, rg, a, ts', h, hm, hx => h.mono hm
 | .px _ _, v, rg, a, ts', h, hm, hx => h.mono hm
 | .nil, v, rg, a, ts', h, hm, hx => h.mono hm
 | .np, v, rg, a, ts', h, hm, hx => h.mono hm
 | .fn _ _ _, v, rg, a, ts', h, hm, hx => h.mono hm
 | .un, v, rg, a, ts', h, hm, hx => h.mono hm
theorem tagVs_ok : ∀ (l : List Kd) (vs : List (TV K)) (rg : List (Nat × TV K)) (az : List AV) (ts' : TS K), TL P C ts χ vs az → Mono ts ts' χ χ → ExtR (tagVs l vs rg).2 ts'.rg → TL P C ts' χ (tagVs l vs rg).1 az
 | [], vs, rg, az, ts', h, hm, hx => h.mono hm
 | k :: l, [], rg, az, ts', h, hm, hx => h.mono hm
 | k :: l, v :: vs, rg, az, ts', h, hm, hx => by
   cases az with
   | nil => simp [TL] at h
   | cons a az =>
     simp only [tagVs] at hx ⊢
     exact .cons (tagV_ok k v rg a ts' h.head.1 hm ((tagV_ext.tagVs_ext l vs _).trans hx)) (tagVs_ok l vs _ az ts' h.head.2 hm hx)
end
theorem tagS_ext : ∀ (l : List (Nat × Kd)) (ts : TS K), ExtR ts.rg (tagS l ts).rg ∧ (tagS l ts).nw = ts.nw ∧ (tagS l ts).h = ts.h
 | [], ts => ⟨.refl, rfl, rfl⟩
 | p :: l, ts => by
   simp only [tagS]
   have := tagS_ext l ⟨(p.1, (tagV p.2 (lkT ts.fr p.1) ts.rg).1) :: ts.fr, ts.od, ts.nw, (tagV p.2 (lkT ts.fr p.1) ts.rg).2, ts.h⟩
   exact ⟨(tagV_ext _ _ _).trans this.1, this.2.1, this.2.2⟩
theorem tagS_ok : ∀ (l : List (Nat × Kd)) (ts : TS K), GM P C R ts χ ds → GM P C R (tagS l ts) χ ds
 | [], ts, h => h
 | p :: l, ts, h => by
   simp only [tagS]
   refine tagS_ok l _ ?_
   have hm : Mono ts ⟨(p.1, (tagV p.2 (lkT ts.fr p.1) ts.rg).1) :: ts.fr, ts.od, ts.nw, (tagV p.2 (lkT ts.fr p.1) ts.rg).2, ts.h⟩ χ χ := Mono.same ⟨rfl, rfl⟩ (tagV_ext _ _ _)
   refine ⟨fun t => ?_, fun s c b hb hx => ?_, h.vi, h.nw, h.hp, h.lv⟩
   ·show TR P C _ χ (lkT ((p.1, _) :: ts.fr) t) _
    rw [lkT_put]
    split
    ·rename_i e; rw [← e]; exact tagV_ok p.2 _ ts.rg _ _ (h.fr p.1) hm .refl
    ·exact (h.fr t).mono hm
   ·obtain ⟨kb, h1, h2⟩ := h.mb s c b hb hx
    exact ⟨kb, h1, h2.mono hm⟩
theorem tagVs_len : ∀ (l : List Kd) (vs : List (TV K)) (rg : List (Nat × TV K)), (tagVs l vs rg).1.length = vs.length
 | [], vs, rg => rfl
 | k :: l, [], rg => rfl
 | k :: l, v :: vs, rg => by simp only [tagVs, List.length_cons, tagVs_len l vs]
theorem tagB_ext : ∀ (l : List (Nat × Nat × List Kd)) (ts : TS K), ExtR ts.rg (tagB l ts).rg ∧ (tagB l ts).nw = ts.nw ∧ (tagB l ts).h = ts.h
 | [], ts => ⟨.refl, rfl, rfl⟩
 | p :: l, ts => by
   simp only [tagB]
   split
   ·rename_i e cs hb
    have := tagB_ext l ⟨ts.fr, (p.1, some (.box e (tagVs p.2.2 cs ts.rg).1)) :: ts.od, ts.nw, (tagVs p.2.2 cs ts.rg).2, ts.h⟩
    exact ⟨(tagV_ext.tagVs_ext _ _ _).trans this.1, this.2.1, this.2.2⟩
   ·exact tagB_ext l ts
theorem tagB_ok : ∀ (l : List (Nat × Nat × List Kd)) (ts : TS K), GM P C R ts χ ds → GM P C R (tagB l ts) χ ds
 | [], ts, h => h
 | p :: l, ts, h => by
   simp only [tagB]
   split
   ·rename_i e cs hb
    refine tagB_ok l _ ?_
    have htb : ∀ s c, (⟨ts.fr, (p.1, some (.box e (tagVs p.2.2 cs ts.rg).1)) :: ts.od, ts.nw, (tagVs p.2.2 cs ts.rg).2, ts.h⟩ : TS K).tb s c = if s = p.1 ∧ c = 1 then some (.box e (tagVs p.2.2 cs ts.rg).1) else ts.tb s c := fun s c => setb_tb ts p.1 1 (some (.box e (tagVs p.2.2 cs ts.rg).1)) (.inl rfl) s c
    have hbx : ts.tb p.1 1 = some (.box e cs) := hb
    have hm : Mono ts ⟨ts.fr, (p.1, some (.box e (tagVs p.2.2 cs ts.rg).1)) :: ts.od, ts.nw, (tagVs p.2.2 cs ts.rg).2, ts.h⟩ χ χ := by
     refine ⟨tagV_ext.tagVs_ext _ _ _, fun s c q => q, fun s c _ => .inr ⟨?_, rfl⟩⟩
     rw [htb]
     split
     ·rename_i q; obtain ⟨rfl, rfl⟩ := q; rw [hbx]; rfl
     ·rfl
    refine ⟨fun t => (h.fr t).mono hm, fun s c b hb' hx => ?_, fun s c hx => ?_, h.nw, h.hp, fun s b q e => ?_⟩
    rotate_right
    ·rw [htb] at e
     split at e
     ·rename_i q'; obtain ⟨rfl, _⟩ := q'; exact h.lv _ _ q hbx
     ·exact h.lv s b q e
    ·rw [htb] at hb'
     split at hb'
     ·rename_i q
      obtain ⟨rfl, rfl⟩ := q
      cases hb'
      obtain ⟨kb, h1, h2⟩ := h.mb _ _ _ hbx hx
      refine ⟨kb, h1, ?_⟩
      have t := tagVs_ok (P := P) (C := C) (ts := ts) (χ := χ) p.2.2 cs ts.rg kb.cells _ ⟨h2.2.2.1, h2.2.2.2⟩ hm .refl
      exact ⟨h2.1, by rw [tagVs_len]; exact h2.2.1, t.1, t.2⟩
     ·obtain ⟨kb, h1, h2⟩ := h.mb s c b hb' hx
      exact ⟨kb, h1, h2.mono hm⟩
    ·obtain ⟨e', h1⟩ := h.vi s c hx
     refine ⟨e', ?_⟩
     rw [htb]
     split
     ·rename_i q; obtain ⟨rfl, rfl⟩ := q; rw [hbx] at h1; cases h1
     ·exact h1
   ·exact tagB_ok l ts h
theorem tagT_ok {τ : Tm} (h : GM P C R ts χ ds) : GM P C R (tagT τ ts) χ ds := tagB_ok _ _ (tagS_ok _ _ h)
theorem tagT_ext (τ : Tm) (ts : TS K) : ExtR ts.rg (tagT τ ts).rg := (tagS_ext τ.ks ts).1.trans (tagB_ext τ.bx _).1
def curC : (cs : List CT) → (List (DV K) → Prop) → Cur K Prop cs
 | [], p => p []
 | _ :: cs, p => fun x => curC cs fun env => p (inC _ x :: env)
theorem outC_in (c : CT) (x : CTy K c) : outC c (inC c x) = some x := by
 cases c with
 | l e => exact dif_pos rfl
 | v t => exact dif_pos rfl
 | i => rfl
 | b => rfl
 | s => rfl
theorem outI_ok {x : DV K} {n : Int} (h : outI x = some n) : .i n = x := by
 cases x <;> first | (cases h; rfl) | (cases h; done)
theorem outBo_ok {x : DV K} {n : Bool} (h : outBo x = some n) : .b n = x := by
 cases x <;> first | (cases h; rfl) | (cases h; done)
theorem outS_ok {x : DV K} {n : Str} (h : outS x = some n) : .s n = x := by
 cases x <;> first | (cases h; rfl) | (cases h; done)
theorem outL_ok {e : Nat} {x : DV K} {l : List (K e)} (h : outL e x = some l) : .l e l = x := by
 cases x with
 | l e' l' => obtain ⟨rfl, rfl⟩ := castL_out h; rfl
 | _ => cases h
theorem outT_ok {t : Nat} {x : DV K} {y : K t} (h : outT t x = some y) : .v t y = x := by
 cases x with
 | v t' y' =>
   simp only [outT] at h
   split at h
   ·rename_i e; subst e; cases h; rfl
   ·cases h
 | _ => cases h
theorem outC_ok {c : CT} {x : DV K} {y : CTy K c} (h : outC c x = some y) : inC c y = x := by
 cases c with
 | l e => exact outL_ok h
 | v t => exact outT_ok h
 | i => exact outI_ok h
 | b => exact outBo_ok h
 | s => exact outS_ok h
theorem apC_cur : ∀ (cs : List CT) (p : List (DV K) → Prop) (env : List (DV K)), apC False cs (curC cs p) env → p env
 | [], p, [], h => h
 | [], p, _ :: _, h => h.elim
 | c :: cs, p, [], h => h.elim
 | c :: cs, p, x :: env, h => by
   simp only [apC] at h
   split at h
   ·rename_i y hy
    have := apC_cur cs _ env h
    rw [outC_ok hy] at this; exact this
   ·exact h.elim
theorem allC_cur : ∀ (cs : List CT) (p : List (DV K) → Prop) (q : List (DV K) → Prop), (∀ env, q env → p env) → allC cs fun env => q env → apC False cs (curC cs p) env
 | [], p, q, h => fun hq => h [] hq
 | c :: cs, p, q, h => fun x => by
   have := allC_cur cs (fun env => p (inC c x :: env)) (fun env => q (inC c x :: env)) (fun env => h _)
   show allC cs fun env => q (inC c x :: env) → (match outC c (inC c x) with | some y => apC False cs (curC (c :: cs) p y) env | none => False)
   rw [outC_in]
   exact this
variable (P C R) in
def Kq (rg : List (Nat × TV K)) (Q : AEx → TS K → Prop) (e : AEx) (ks : KS) : Prop := KOk ks ∧ ∃ ts χ, GM P C R ts χ (ofK ks) ∧ ExtR rg ts.rg ∧ Q e ts
theorem Kq.mono {rg rg' : List (Nat × TV K)} {Q : AEx → TS K → Prop} {e : AEx} {ks : KS} (h : Kq P C R rg Q e ks) (hx : ExtR rg' rg) : Kq P C R rg' Q e ks := by
 obtain ⟨a, ts, χ, b, c, d⟩ := h
 exact ⟨a, ts, χ, b, hx.trans c, d⟩
theorem fz_rg (C : Cx K) (ts : TS K) (s : Nat) : (fz C ts s).rg = ts.rg := by unfold fz; split <;> rfl
theorem fz_h (C : Cx K) (ts : TS K) (s : Nat) : (fz C ts s).h = ts.h := by unfold fz; split <;> rfl
theorem ExtR.eq {a b : List (Nat × TV K)} (h : b = a) : ExtR a b := h ▸ .refl
theorem fzA_rg (C : Cx K) : ∀ (n : Nat) (vs : List (TV K)) (ts : TS K), (fzA C n vs ts).rg = ts.rg
 | 0, _, _ => rfl
 | n + 1, vs, ts => by
   simp only [fzA]
   split
   ·rfl
   ·split
    ·rw [fz_rg, fzA_rg C n]
    ·rw [fz_rg]
theorem fzT_rg (C : Cx K) (fr : List (Nat × TV K)) : ∀ (l : List (Nat × Kd)) (ts : TS K), (fzT C fr l ts).rg = ts.rg
 | [], _ => rfl
 | (t, k) :: r, ts => by
   cases k with
   | sl e =>
     simp only [fzT]
     rw [fzT_rg C fr r]
     split
     ·rw [fz_rg]
     ·rfl
   | _ => simp only [fzT]; exact fzT_rg C fr r ts
theorem fzF_ok (hB : LentB B) (hC : CxOk P C) (f : TS K → List (TV K)) : ∀ (l : List AOpd) (ts : TS K), REk P C R B N ts (l.foldl (fun ts x => fzA C 9 [tea ts.fr x] ts) ts) ∧ (l.foldl (fun ts x => fzA C 9 [tea ts.fr x] ts) ts).rg = ts.rg
 | [], ts => ⟨.refl, rfl⟩
 | x :: l, ts => by
   have _ := (inferInstance : GB P B)
   obtain ⟨a, b⟩ := fzF_ok hB hC f l (fzA C 9 [tea ts.fr x] ts)
   exact ⟨(fzA_ok hB hC _ _ _).trans a, by rw [List.foldl_cons, b, fzA_rg]⟩
theorem frzA_ok (hB : LentB B) (hC : CxOk P C) {F : Cf K} (hF : F.C = C) {o : AO} : (frzA F o ts = ts ∨ REt P C R B N ts (frzA F o ts)) ∧ (frzA F o ts).rg = ts.rg := by
 have go : ∀ (args : List AOpd), REt P C R B N ts (args.foldl (fun ts x => fzA F.C 9 [tea ts.fr x] ts) (er ts)) ∧ (args.foldl (fun ts x => fzA F.C 9 [tea ts.fr x] ts) (er ts)).rg = ts.rg := by
  intro args
  rw [hF]
  obtain ⟨a, b⟩ := fzF_ok (N := N) hB hC (fun _ => []) args (er ts)
  exact ⟨(er_ok hB hC).thenk a, b⟩
 unfold frzA frzs
 split
 ·exact ⟨.inl rfl, rfl⟩
 ·exact ⟨.inr (go _).1, (go _).2⟩
section
variable {L : List AO} {i : Nat}
theorem WD_ret (hB : LentB B) {Q : KS → Prop} (h : REt P C R B N ts ts1) (hk : DOk ds) (hγ : GM P C R ts χ ds) (k : ∀ ks ξ, KOk ks → GM P C R ts1 ξ (ofK ks) → WD P B N ro L i Q (ofK ks)) : WD P B N ro L i Q ds :=
 WD_re fun _ => (h χ ds hk hγ).mono fun ks ⟨h1, ξ, h2⟩ => k ks ξ h1 h2
theorem WD_fin {Q : KS → Prop} (e : L.drop i = []) (h : DOk ds → RE B N (toD ds) Q) : WD P B N ro L i Q ds := by
 have _ := (inferInstance : GB P B)
 intro ops pre suf he ht a G hR
 rw [e] at ht
 cases suf with
 | cons x suf =>
   simp only [trOps] at ht
   split at ht <;> cases ht
 | nil =>
   obtain ⟨ks1, G1, h1, h2, h3⟩ := h hR.2 a G hR.1
   simp only [List.length_nil, List.range'_zero, wpOpsIn]
   rw [← h1]
   exact ⟨ks1, G1, h2, rfl, h3⟩
theorem gok_of {g : Option (Nat × Bool)} {fr : List (Nat × AV)} {d : Nat} {b : Bool} (e : g = some (d, b)) (h : lkF fr d = .bl b) : gok g fr = true := by
 subst e; simp only [gok, h]; cases b <;> rfl
theorem gno_of {g : Option (Nat × Bool)} {fr : List (Nat × AV)} {d : Nat} {b c : Bool} (e : g = some (d, b)) (h : lkF fr d = .bl c) (hn : c ≠ b) : gno g fr = true := by
 subst e; simp only [gno, h]; cases b <;> cases c <;> first | rfl | exact absurd rfl hn
variable (P C R B N ro) in
def YOk (rY : Nat) (Y : Option (Nat × (Nat → Option (Nat × Bool) → AOpd → List AOpd → TS K → (Bool → TS K → Prop) → Prop))) : Prop := ∀ y, Y = some y → ∀ (L : List AO) (i : Nat) (o : AO) (x : AOpd) (args : List AOpd) (ts : TS K) (χ : Nat → Nat → Bool) (ds : DS) (X : Bool → TS K → Prop) (Q : KS → Prop),
 L[i]? = some o → gok o.guard ds.fr = true → o.op = .calv x args → GM P C R ts χ ds → DOk ds → lkR ts.rg y.1 = some (.yl rY) → y.2 N o.guard x args ts X →
 (∀ b ts' χ' ks', GM P C R ts' χ' (ofK ks') → KOk ks' → ExtR ts.rg ts'.rg → X b ts' → WD P B N ro L (i + 1) Q ((ofK ks').put o.dst (.bl b))) → WD P B N ro L i Q ds
theorem WD_step (hB : LentB B) (hC : CxOk P C) {F : Cf K} (hF : F.C = C) (hS : SsOk P C F.S) (hL : SLOk P C F.L) (hN : F.N = N) {rY : Nat} (hY : YOk P C R B N ro rY F.Y) {o : AO} {X : TS K → Prop} {Q : KS → Prop} (e0 : L[i]? = some o) (hγ : GM P C R ts χ ds) (hk : DOk ds) (hg : gok o.guard ds.fr = true) (hYI : ∀ y, F.Y = some y → lkR ts.rg y.1 = some (.yl rY)) (h : step F false o ts X)
  (k : ∀ ts' χ' ds', GM P C R ts' χ' ds' → DOk ds' → X ts' → ExtR ts.rg ts'.rg → WD P B N ro L (i + 1) Q ds') : WD P B N ro L i Q ds := by
 have calls : ∀ {f : FuncId} {us : List (TV K)} {vs : List AV}, TL P C ts χ us vs → CalO o ds f vs → tcall F.C F.S ts o.dst f us X → WD P B N ro L i Q ds := by
  intro f us vs ht ho h
  rw [hF] at h
  obtain ⟨vs', kl, d1, v, ts', χ', c1, c2, c3, c4, c5, _, _⟩ := tcall_ok hC hS hγ hk ht ho h
  exact WD_callD e0 hg c1 (k ts' χ' _ c2 c3.put c4 (.eq c5))
 have callL : ∀ {f : FuncId} {us : List (TV K)} {vs : List AV} {sp : Sl K} {env : List (DV K)} {M : RM}, TL P C ts χ us vs → CalO o ds f vs → pickL F.C ts f us F.L = some (sp, env, M) → tcallL F.C F.S false ts o.dst sp env M us X → WD P B N ro L i Q ds := by
  intro f us vs sp env M ht ho hp h
  rw [hF] at h hp
  exact WD_callL hC hS hL e0 hg hγ ht ho hp h fun a b c d e f g => k a b c d e f (.eq g)
 have rest : notCall o.op = true → step F true o ts X → WD P B N ro L i Q ds := by
  intro hn h
  obtain ⟨e, ds', ts', χ', h1, h2, h3, h4, h5, h6⟩ := tstep_ok hC hγ hk hF hn h
  have hc : isMC o.op = false := by cases hop : o.op <;> rw [hop] at hn <;> first | rfl | (cases hn; done)
  exact WD_e e0 hg (fun _ => h1) hc (k ts' χ' ds' h4 h1.ok h5 (.eq h6))
 cases ho : o.op with
 | call f args =>
   unfold step at h; rw [ho] at h
   simp only at h
   split at h
   ·rename_i sp env M hp
    exact callL (TL.tea hγ args) (.inl ⟨args, ho, rfl⟩) hp h
   ·exact calls (TL.tea hγ args) (.inl ⟨args, ho, rfl⟩) h
 | calv x args =>
   unfold step at h; rw [ho] at h
   simp only at h
   have hx := hγ.tev x
   split at h
   ·rename_i f a c ex
    rw [ex] at hx
    generalize hv : ev (lkF ds.fr) x = v at hx
    cases hx with
    | fn _ _ _ a' c' ha hc h1 h2 =>
      split at h
      ·rename_i sp env M hp
       exact callL (((show TL P C ts χ a a' from ⟨ha, h1⟩).app (TL.tea hγ args)).app ⟨hc, h2⟩) (.inr ⟨x, args, a', c', ho, hv, rfl⟩) hp h
      ·exact calls (((show TL P C ts χ a a' from ⟨ha, h1⟩).app (TL.tea hγ args)).app ⟨hc, h2⟩) (.inr ⟨x, args, a', c', ho, hv, rfl⟩) h
   ·rename_i ps rs V ex
    rw [ex] at hx
    cases hx with
    | fv _ _ _ _ hV hv =>
      rw [hF] at h
      obtain ⟨f, vs, vs', kl, d1, w, ts', χ', c1, c2, c3, c4, c5, _⟩ := tcalv_ok hC hγ hk hV ho rfl hv (TL.tea hγ args) h
      exact WD_callD e0 hg c1 (k ts' χ' _ c2 c3.put c4 (.eq c5))
   ·split at h
    ·rename_i id u y _ hu hy
     split at h
     ·rename_i hid
      rw [hN] at h
      refine hY y hy L i o x args ts χ ds _ Q e0 hg ho hγ hk (hYI y hy) h fun b ts' χ' ks' a1 a2 a3 a4 => ?_
      exact k _ χ' _ (a1.put (d := o.dst) (TR.lb b)) (ofK_ok a2).put a4 (by rw [put_rg]; exact a3)
     ·exact h.elim
    ·exact h.elim
   ·exact h.elim
 | len x =>
   cases hs : tslot F.N x with
   | false =>
     refine rest (by rw [ho]; rfl) ?_
     unfold step at h ⊢; rw [ho] at h ⊢
     simp only [hs] at h ⊢
     exact h
   | true =>
     unfold step at h; rw [ho] at h
     simp only [hs, Bool.not_true, Bool.or_false] at h
     unfold tlen at h
     split at h
     ·rename_i e l ex
      have hx := hγ.tev x
      rw [ex] at hx
      cases x with
      | c v => cases hs
      | t n =>
        obtain ⟨z, xs, hxs, hv⟩ := hx.sli
        refine WD_len (t := n) (by rw [← hN]; exact Nat.le_of_ble_eq_true hs) hv fun hm => ?_
        refine rest (by rw [ho]; rfl) ?_
        unfold step; rw [ho]
        simp only [Bool.true_or]
        unfold tlen
        rw [ex]
        exact h hm
     ·rename_i ex
      refine rest (by rw [ho]; rfl) ?_
      unfold step; rw [ho]; simp only [Bool.true_or]; unfold tlen; rw [ex]; exact h
     ·rename_i ex
      refine rest (by rw [ho]; rfl) ?_
      unfold step; rw [ho]; simp only [Bool.true_or]; unfold tlen; rw [ex]; exact h
     ·rename_i s c ex
      refine rest (by rw [ho]; rfl) ?_
      unfold step; rw [ho]; simp only [Bool.true_or]; unfold tlen; rw [ex]; exact h
     ·exact h.elim
 | _ =>
   refine rest (by rw [ho]; rfl) ?_
   unfold step at h ⊢; rw [ho] at h ⊢; exact h
theorem tops_ok (hB : LentB B) (hC : CxOk P C) {F : Cf K} (hF : F.C = C) (hS : SsOk P C F.S) (hL : SLOk P C F.L) (hN : F.N = N) {rY : Nat} (hY : YOk P C R B N ro rY F.Y) {X : TS K → Prop} {Q : KS → Prop} : ∀ (L' : List AO) (i : Nat) (ts : TS K) (χ : Nat → Nat → Bool) (ds : DS), L.drop i = L' → GM P C R ts χ ds → DOk ds → (∀ y, F.Y = some y → lkR ts.rg y.1 = some (.yl rY)) → tops F L' ts X →
  (∀ ts' χ' ds', GM P C R ts' χ' ds' → DOk ds' → X ts' → ExtR ts.rg ts'.rg → RE B N (toD ds') Q) → WD P B N ro L i Q ds
 | [], i, ts, χ, ds, e, hγ, hk, _, h, fin => WD_fin e fun _ => fin ts χ ds hγ hk h .refl
 | o :: r, i, ts, χ, ds, e, hγ, hk, hYI, h, fin => by
   have e0 : L[i]? = some o := by
    have := congrArg (·[0]?) e
    simpa using this
   have e1 : L.drop (i + 1) = r := by rw [← List.drop_drop, e]; rfl
   have next : ∀ {ts ts2 : TS K} {χ2 : Nat → Nat → Bool} {ds2 : DS}, (∀ ts' χ' ds', GM P C R ts' χ' ds' → DOk ds' → X ts' → ExtR ts.rg ts'.rg → RE B N (toD ds') Q) → (∀ y, F.Y = some y → lkR ts.rg y.1 = some (.yl rY)) → GM P C R ts2 χ2 ds2 → DOk ds2 → tops F r ts2 X → ExtR ts.rg ts2.rg → WD P B N ro L (i + 1) Q ds2 := by
    intro ts ts2 χ2 ds2 fin hYI a b c d
    exact tops_ok hB hC hF hS hL hN hY r (i + 1) ts2 χ2 ds2 e1 a b (fun y e => d _ _ (hYI y e)) c fun ts3 χ3 ds3 p q s t => fin ts3 χ3 ds3 p q s (d.trans t)
   have main : ∀ {ts : TS K} {χ : Nat → Nat → Bool} {ds : DS}, GM P C R ts χ ds → DOk ds → (∀ y, F.Y = some y → lkR ts.rg y.1 = some (.yl rY)) → topg F o (fun t => tops F r t X) ts → (∀ ts' χ' ds', GM P C R ts' χ' ds' → DOk ds' → X ts' → ExtR ts.rg ts'.rg → RE B N (toD ds') Q) → WD P B N ro L i Q ds := by
    intro ts χ ds hγ hk hYI h fin
    have run : ∀ {ts0 : TS K} {ds0 : DS}, GM P C R ts0 χ ds0 → DOk ds0 → ts0.rg = ts.rg → gok o.guard ds0.fr = true → step F false o ts0 (fun t => tops F r t X) → WD P B N ro L i Q ds0 := by
     intro ts0 ds0 hγ0 hk0 hr hg hst
     exact WD_step hB hC hF hS hL hN hY e0 hγ0 hk0 hg (by rw [hr]; exact hYI) hst fun ts2 χ2 ds2 a b c d => next fin hYI a b c ((ExtR.eq hr).trans d)
    have skip : ∀ {ts0 : TS K} {ds0 : DS}, GM P C R ts0 χ ds0 → DOk ds0 → ts0.rg = ts.rg → gno o.guard ds0.fr = true → tops F r (ts0.put o.dst (.tup [])) X → WD P B N ro L i Q ds0 := by
     intro ts0 ds0 hγ0 hk0 hr hg hst
     exact WD_skp e0 hg (next fin hYI (hγ0.put (.tup [] [] rfl (fun j u v h => by simp at h))) hk0.put hst (.eq ((put_rg _ _ _).trans hr)))
    unfold topg tgd at h
    split at h
    ·rename_i hg
     exact run hγ hk rfl (by rw [hg]; rfl) h
    ·rename_i d b hg
     have hd := (hγ.fr d).s
     split at h
     ·rename_i c hc
      rw [hc] at hd
      have hv := hd.lbi
      split at h
      ·rename_i hcb
       have : c = b := by cases c <;> cases b <;> first | rfl | cases hcb
       subst this
       exact run hγ hk rfl (gok_of hg hv) h
      ·rename_i hcb
       exact skip hγ hk rfl (gno_of hg hv (by intro q; subst q; cases c <;> cases hcb)) h
     ·rename_i c hc
      rw [hc] at hd
      have hv := hd.bli
      obtain ⟨h1, h2⟩ := h
      refine WD_bool hv (fun hb => ?_) (fun hb => ?_)
      ·have hh := h1 hb
       have g1 := hγ.put (d := some d) (TR.lb (P := P) (C := C) (ts := ts) (χ := χ) true)
       have v1 : lkF (ds.put (some d) (.bl true)).fr d = .bl true := by show lkF ((d, .bl true) :: ds.fr) d = _; rw [lkF_cons]; simp
       cases b with
       | true => exact run g1 hk.put (put_rg _ _ _) (gok_of hg v1) hh
       | false => exact skip g1 hk.put (put_rg _ _ _) (gno_of hg v1 (by simp)) hh
      ·have hh := h2 hb
       have g1 := hγ.put (d := some d) (TR.lb (P := P) (C := C) (ts := ts) (χ := χ) false)
       have v1 : lkF (ds.put (some d) (.bl false)).fr d = .bl false := by show lkF ((d, .bl false) :: ds.fr) d = _; rw [lkF_cons]; simp
       cases b with
       | true => exact skip g1 hk.put (put_rg _ _ _) (gno_of hg v1 (by simp)) hh
       | false => exact run g1 hk.put (put_rg _ _ _) (gok_of hg v1) hh
     ·rename_i hc
      rw [hc] at hd
      obtain ⟨vs, hv, hl, _⟩ := hd.tup'
      have : vs = [] := List.eq_nil_of_length_eq_zero hl
      subst this
      exact skip hγ hk rfl (by rw [hg]; simp only [gno, hv]) h
     ·exact h.elim
   obtain ⟨hfr, hrg⟩ := frzA_ok (N := N) (ts := ts) hB hC hF (o := o)
   rcases hfr with hq | hq
   ·rw [tops, hq] at h; exact main hγ hk hYI h fin
   ·rw [tops] at h
    exact WD_ret hB hq hk hγ fun ks ξ a b => main b (ofK_ok a) (by rw [hrg]; exact hYI) h fun ts' χ' ds' p q s t => fin ts' χ' ds' p q s (by rw [← hrg]; exact t)
end
section
structure LeF (f : Foot) (t : TFt) : Prop where
 rk : ∀ k ∈ f.rk, (∃ o, k = .h o) ∨ ∃ q ∈ t.rk, k = .l q.1 q.2
 wk : ∀ q ∈ f.wk, q ∈ t.wk
 wh : f.wh = false
 bs : ∀ s ∈ f.bs, (s, 2) ∈ t.wk
theorem memQ_mem : ∀ {l : List (Nat × Nat)} {q : Nat × Nat}, q ∈ l → memQ l q = true
 | p :: r, q, h => by
   show ((Nat.beq p.1 q.1 && Nat.beq p.2 q.2) || memQ r q) = true
   rcases List.mem_cons.1 h with rfl | h
   ·rw [nbeq.2 rfl, nbeq.2 rfl]; rfl
   ·rw [memQ_mem h, Bool.or_true]
theorem okT_ok {a b : Foot} {s t : TFt} (ha : LeF a s) (hb : LeF b t) (h : okT s t = true) : okF a b := by
 simp only [okT, Bool.and_eq_true, List.all_eq_true, Bool.not_eq_true'] at h
 obtain ⟨h1, h2⟩ := h
 have nk : ∀ {q : Nat × Nat} {k : Key} {l : List (Nat × Nat)}, memQ l q = false → ((∃ o, k = .h o) ∨ ∃ r ∈ l, k = .l r.1 r.2) → Key.l q.1 q.2 ≠ k := by
  rintro q k l hq (⟨o, rfl⟩ | ⟨r, hr, rfl⟩) e
  ·cases e
  ·simp only [Key.l.injEq] at e
   have : q = r := Prod.ext e.1 e.2
   subst this
   rw [memQ_mem hr] at hq; cases hq
 refine ⟨allL_iff.2 fun q hq => ⟨allL_iff.2 fun k hk => nk (h1 q (ha.wk q hq)).1 (hb.rk k hk), allL_iff.2 fun r hr e => ?_⟩, allL_iff.2 fun q hq => allL_iff.2 fun k hk => nk (h2 q (hb.wk q hq)) (ha.rk k hk), fun e => (by rw [ha.wh] at e; cases e), fun e => (by rw [hb.wh] at e; cases e), allL_iff.2 fun q hq => allL_iff.2 fun r hr e => ?_⟩
 ·subst e
  have := (h1 q (ha.wk q hq)).2
  rw [memQ_mem (hb.wk q hr)] at this; cases this
 ·subst e
  have := (h1 (q, 2) (ha.bs q hq)).2
  rw [memQ_mem (hb.bs q hr)] at this; cases this
def LeA (acc : List Foot) (tacc : List TFt) : Prop := acc.length = tacc.length ∧ ∀ (j : Nat) (f : Foot) (t : TFt), acc[j]? = some f → tacc[j]? = some t → LeF f t
theorem LeA.snoc {acc : List Foot} {tacc : List TFt} {f : Foot} {t : TFt} (h : LeA acc tacc) (k : LeF f t) : LeA (acc ++ [f]) (tacc ++ [t]) := by
 refine ⟨by simp [h.1], fun j g s a b => ?_⟩
 by_cases hj : j < acc.length
 ·rw [List.getElem?_append_left hj] at a
  rw [List.getElem?_append_left (by rw [← h.1]; exact hj)] at b
  exact h.2 j g s a b
 ·rw [List.getElem?_append_right (by omega)] at a
  rw [List.getElem?_append_right (by rw [← h.1]; omega), ← h.1] at b
  cases hq : j - acc.length with
  | zero => rw [hq] at a b; simp at a b; subst a; subst b; exact k
  | succ m => rw [hq] at a; simp at a
theorem okTs_ok {f : Foot} {t : TFt} {acc : List Foot} {tacc : List TFt} (hf : LeF f t) (ha : LeA acc tacc) : ∀ (fre : List Nat), okTs t tacc fre = true → okAcc f acc fre
 | [], _ => trivial
 | j :: r, h => by
   simp only [okTs, Bool.and_eq_true] at h
   refine ⟨?_, okTs_ok hf ha r h.2⟩
   show wpo acc[j]? (okF f)
   cases hj : acc[j]? with
   | none => trivial
   | some g =>
     have hlt : j < tacc.length := by rw [← ha.1]; exact (List.getElem?_eq_some_iff.1 hj).1
     have ht : tacc[j]? = some tacc[j] := List.getElem?_eq_getElem hlt
     rw [ht] at h
     exact okT_ok hf (ha.2 j g _ hj ht) h.1
def LeK (l : List Key) (t : List (Nat × Nat)) : Prop := ∀ k ∈ l, (∃ o, k = .h o) ∨ ∃ q ∈ t, k = .l q.1 q.2
theorem LeK.app {a b : List Key} {s t : List (Nat × Nat)} (h : LeK a s) (k : LeK b t) : LeK (a ++ b) (s ++ t) := by
 intro x hx
 rcases List.mem_append.1 hx with hx | hx
 ·rcases h x hx with q | ⟨r, hr, e⟩
  ·exact .inl q
  ·exact .inr ⟨r, List.mem_append_left _ hr, e⟩
 ·rcases k x hx with q | ⟨r, hr, e⟩
  ·exact .inl q
  ·exact .inr ⟨r, List.mem_append_right _ hr, e⟩
theorem LeK.nil {t : List (Nat × Nat)} : LeK [] t := fun k h => by cases h
theorem TR.hascn {u : TV K} {v : AV} (h : TR P C ts χ u v) : ∀ id w, u.s ≠ .cn id w := by
 intro id w e
 cases h with
 | cn id' u v h hn hv => simp only [TV.s] at e; rw [e] at hn; cases hn
 | _ => cases e
theorem noL_keys {v : AV} (h : v.noL = true) : LeK (keyOf v) [] ∧ LeK (key1 v) [] := by
 cases v with
 | gs k n => cases k with
   | h o => exact ⟨fun k hk => by simp [keyOf] at hk; exact .inl ⟨o, hk⟩, fun k hk => by simp [key1] at hk; exact .inl ⟨o, hk⟩⟩
   | l d c => cases h
 | pt k n => cases k with
   | h o => exact ⟨fun k hk => by simp [keyOf] at hk; exact .inl ⟨o, hk⟩, fun k hk => by simp [key1] at hk; exact .inl ⟨o, hk⟩⟩
   | l d c => cases h
 | agg cs =>
   refine ⟨fun k hk => ?_, .nil⟩
   simp only [keyOf, List.mem_flatMap] at hk
   obtain ⟨x, hx, hk⟩ := hk
   have hn : x.noL = true := noLs_mem.1 (show noLs cs = true from h) x hx
   cases x with
   | gs q n => cases q with
     | h o => simp [key1] at hk; exact .inl ⟨o, hk⟩
     | l d c => cases hn
   | pt q n => cases q with
     | h o => simp [key1] at hk; exact .inl ⟨o, hk⟩
     | l d c => cases hn
   | _ => simp [key1] at hk
 | _ => exact ⟨.nil, .nil⟩
theorem tky1_ok {u : TV K} {v : AV} {l : List (Nat × Nat)} (h : TR P C ts χ u v) (hl : tky1 ts u = some l) : LeK (key1 v) l ∧ ((∀ vs, v ≠ .agg vs) → LeK (keyOf v) l) := by
 have hs := h.s
 have hc := h.hascn
 unfold tky1 at hl
 revert hs hc hl
 generalize u.s = w
 intro hl hs hc
 have no : ∀ {v : AV} {l : List (Nat × Nat)}, v.noL = true → LeK (key1 v) l ∧ ((∀ vs, v ≠ .agg vs) → LeK (keyOf v) l) := by
  intro v l hv
  obtain ⟨a, b⟩ := noL_keys hv
  have up : ∀ {x : List Key}, LeK x [] → LeK x l := fun hx k hk => (hx k hk).imp id (fun ⟨q, hq, _⟩ => by cases hq)
  exact ⟨up b, fun _ => up a⟩
 cases hs with
 | un v => cases hl
 | lb b => exact no rfl
 | bl b => exact no rfl
 | li k n => exact no rfl
 | it k n => exact no rfl
 | st s => exact no rfl
 | agg us vs _ _ => exact ⟨.nil, fun hn => absurd rfl (hn vs)⟩
 | tup us vs _ _ => exact ⟨.nil, fun _ => .nil⟩
 | nil => exact no rfl
 | em z => exact no rfl
 | sl e l z n xs hn hx => exact no rfl
 | rwd s c v hr hn ho => simp only [hn] at hl; cases hl
 | rw s c n hr hn hx =>
   simp only [hn, Option.some.injEq] at hl; subst hl
   exact ⟨fun k hk => by simp [key1] at hk; exact .inr ⟨_, List.mem_singleton.2 rfl, hk⟩, fun _ k hk => by simp [keyOf] at hk; exact .inr ⟨_, List.mem_singleton.2 rfl, hk⟩⟩
 | rwn s c hr h hx => exact no rfl
 | px s c off hr =>
   cases hl
   exact ⟨fun k hk => by simp [key1] at hk; exact .inr ⟨_, List.mem_singleton.2 rfl, hk⟩, fun _ k hk => by simp [keyOf] at hk; exact .inr ⟨_, List.mem_singleton.2 rfl, hk⟩⟩
 | pr e s c i of hr hx =>
   cases hl
   exact ⟨fun k hk => by simp [key1] at hk; exact .inr ⟨_, List.mem_singleton.2 rfl, hk⟩, fun _ k hk => by simp [keyOf] at hk; exact .inr ⟨_, List.mem_singleton.2 rfl, hk⟩⟩
 | ep e l i of xs hx => exact no rfl
 | gs l i xs hx => exact no rfl
 | nptr => exact no rfl
 | fn f a c a' c' _ _ _ _ => exact ⟨.nil, fun _ => .nil⟩
 | fv ps rs F v h hv => exact no (by rw [← dwk_noL, hv]; exact h.1)
 | yl r => exact no rfl
 | cn id u v h hn hv => exact absurd rfl (hc id u)
theorem tkys_ok {f : TV K → Option (List (Nat × Nat))} {g : AV → List Key} (hf : ∀ u v l, TR P C ts χ u v → f u = some l → LeK (g v) l) : ∀ (us : List (TV K)) (vs : List AV) (l : List (Nat × Nat)), TL P C ts χ us vs → tkys ts f us = some l → LeK (vs.flatMap g) l
 | [], vs, l, t, h => by
   have : vs = [] := List.eq_nil_of_length_eq_zero t.1
   subst this; exact .nil
 | u :: us, vs, l, t, h => by
   cases vs with
   | nil => simp [TL] at t
   | cons v vs =>
     simp only [tkys] at h
     split at h
     ·rename_i a b h1 h2
      cases h
      rw [List.flatMap_cons]
      exact (hf u v a t.head.1 h1).app (tkys_ok hf us vs b t.head.2 h2)
     ·cases h
theorem tky_ok {u : TV K} {v : AV} {l : List (Nat × Nat)} (h : TR P C ts χ u v) (hl : tky ts u = some l) : LeK (keyOf v) l := by
 unfold tky at hl
 split at hl
 ·rename_i cs e
  have hs := h.s
  rw [e] at hs
  obtain ⟨vs, rfl, a, b⟩ := hs.agg'
  exact tkys_ok (g := key1) (fun u v l h hl => (tky1_ok h hl).1) cs vs l ⟨a, b⟩ hl
 ·rename_i hne
  refine (tky1_ok h hl).2 ?_
  rintro vs rfl
  have hs := h.s
  have hc := h.hascn
  have hdead : u.s ≠ .un := by
   intro e; unfold tky1 at hl; rw [e] at hl; cases hl
  revert hs hc hne hdead
  generalize u.s = w
  intro hne hs hc hdead
  cases hs with
  | un v => exact hdead rfl
  | agg us vs _ _ => exact hne _ rfl
  | rwd s c v hr h ho => cases ho
  | fv ps rs F v h hv => obtain ⟨_, _, h1, _⟩ := h; rw [← hv] at h1; cases h1
  | cn id u v h hn hv => exact hc _ _ rfl
theorem opds_keys {u : AOp} (hγ : GM P C R ts χ ds) {l : List (Nat × Nat)} (h : tkys ts (tky ts) ((opds u).map (tea ts.fr)) = some l) : LeK ((opds u).flatMap fun x => keyOf (ev (lkF ds.fr) x)) l := by
 have := tkys_ok (g := keyOf) (fun u v l h hl => tky_ok h hl) _ _ l (TL.tea hγ (opds u)) h
 rw [List.flatMap_map] at this
 exact this
theorem LeF.skip : LeF footSkip ⟨[], []⟩ := ⟨fun k h => (by cases h), fun q h => (by cases h), rfl, fun s h => (by cases h)⟩
variable {LD : List (AO × List Nat)} {QD : St → Prop} {i : Nat} {acc : List Foot}
theorem DD_callD {o : AO} {fre : List Nat} {f : FuncId} {vs vs' : List AV} {kl : List (Nat × Nat)} {d1 : DS} {v : AV} (e0 : LD[i]? = some (o, fre)) (hg : gok o.guard ds.fr = true) (hc : CallR P o ds f vs vs' kl d1 v)
  (hf : okAcc (footOf o.op (toD ds) ⟨v, kl.map (fun k => (k, none)), [], none⟩) acc fre) (k : DD P LD (i + 1) (acc ++ [footOf o.op (toD ds) ⟨v, kl.map (fun k => (k, none)), [], none⟩]) QD (d1.put o.dst v)) : DD P LD i acc QD ds := by
 refine DD_eop e0 hg fun hk => ?_
 have hmst : REff.mst ⟨v, kl.map (fun k => (k, none)), [], none⟩ (toD ds) = toD d1 ∧ CallE P (.f f) vs (toD ds) ⟨v, kl.map (fun k => (k, none)), [], none⟩ ∧ DOk d1 := by
  rcases hc.way with hw | ⟨rfl, rfl, rfl, hfl⟩
  ·obtain ⟨a1, a2, a3, _⟩ := pubLD_ok vs ds vs' kl d1 hk hw
   have hmst : REff.mst ⟨v, kl.map (fun k => (k, none)), [], none⟩ (toD ds) = toD d1 := by
    have h1 : (pubL vs (toD ds)).2 = (toD ds).kills (pkL vs (toD ds)) := pubL_k vs (toD ds)
    rw [a1, a2] at h1
    simp only at h1
    rw [h1]
    unfold REff.mst St.kills REff.cntF
    simp only [St.mk.injEq, cntB_nil, true_and, and_true]
    funext q
    have : ∀ (l : List (Nat × Nat)) (M : Key → Option Blk), List.foldl (fun M (p : Key × Option Blk) => updK M p.1 p.2) M ((l.map fun k => (k, (none : Option Blk))).map fun p => (Key.l p.1.1 p.1.2, p.2)) = l.foldl (fun M k => updK M (.l k.1 k.2) none) M := by
     intro l
     induction l with
     | nil => intro M; rfl
     | cons a l ih => intro M; simp only [List.map_cons, List.foldl_cons]; exact ih _
    show (List.foldl (fun M (p : Key × Option Blk) => updK M p.1 p.2) (toD ds).M ((kl.map fun k => (k, (none : Option Blk))).map fun p => (Key.l p.1.1 p.1.2, p.2))) q = _
    rw [this]
   exact ⟨hmst, .inl ⟨rfl, by rw [a2], CallsO_pureD a1 hc.nl hc.pure ⟨rfl, hmst.symm⟩⟩, a3⟩
  ·exact ⟨mst_eff1 v _, .inr (.inl ⟨rfl, f, v, rfl, hc.nl, fun H n => Contract.dwkA (hc.pure H n), hfl, rfl⟩), hk⟩
 obtain ⟨hmst, hE, a3⟩ := hmst
 have fin : ∀ K : REff → Prop, K ⟨v, kl.map (fun k => (k, none)), [], none⟩ → eop (fun _ => false) P o.op o.dst (toD ds) K := by
  intro K hK
  rcases hc.ho with ⟨args, h1, h2⟩ | ⟨x, args, first, cap, h1, h2, h3⟩
  ·rw [h1]; simp only [eop]; rw [toD_fr, h2]; exact ⟨_, hE, hK⟩
  ·rw [h1]; simp only [eop]; rw [toD_fr, h2]; simp only; rw [h3]; exact ⟨_, hE, hK⟩
 refine fin _ ⟨hf, ?_⟩
 rw [show REff.app ⟨v, kl.map (fun k => (k, none)), [], none⟩ o.dst (toD ds) = toD (d1.put o.dst v) by unfold REff.app; rw [hmst, putD_toD]]
 exact k a3.put
theorem DD_eff {o : AO} {fre : List Nat} {e : REff} {ds' : DS} (e0 : LD[i]? = some (o, fre)) (hg : gok o.guard ds.fr = true) (h : Eff o.op o.dst ds e ds') (hc : isMC o.op = false) (hf : okAcc (footOf o.op (toD ds) e) acc fre) (k : DD P LD (i + 1) (acc ++ [footOf o.op (toD ds) e]) QD ds') : DD P LD i acc QD ds := by
 refine DD_eop e0 hg fun hk => ?_
 obtain ⟨h1, h2, h3⟩ := h
 have hE : ∀ K : REff → Prop, K e → eop (fun _ => false) P o.op o.dst (toD ds) K := by
  intro K hK
  cases hop : o.op <;> rw [hop] at h1 hc <;> first | (cases hc; done) | (simp only [eop]; rw [h1]; exact hK)
 refine hE _ ⟨hf, ?_⟩
 rw [h2]
 exact k h3
theorem trows_mem : ∀ {us : List (TV K)} {q : Nat × Nat}, (∃ u ∈ us, u.s = .rw q.1 q.2) → q ∈ trows us
 | [], _, ⟨u, h, _⟩ => by cases h
 | v :: us, q, ⟨u, h, e⟩ => by
   simp only [trows]
   rcases List.mem_cons.1 h with rfl | h
   ·rw [e]; simp
   ·have := trows_mem ⟨u, h, e⟩
    split
    ·exact List.mem_cons_of_mem _ this
    ·exact this
theorem tkys_rw {q : Nat × Nat} : ∀ {us : List (TV K)} {l : List (Nat × Nat)}, tkys ts (tky ts) us = some l → (∃ u ∈ us, u.s = .rw q.1 q.2) → q ∈ l
 | [], _, _, ⟨u, h, _⟩ => by cases h
 | v :: us, l, h, ⟨u, hu, e⟩ => by
   simp only [tkys] at h
   split at h
   ·rename_i a b h1 h2
    cases h
    rcases List.mem_cons.1 hu with rfl | hu
    ·refine List.mem_append_left _ ?_
     unfold tky at h1
     rw [e] at h1
     simp only at h1
     unfold tky1 at h1
     rw [e] at h1
     simp only at h1
     split at h1
     ·cases h1; simp
     ·cases h1
    ·exact List.mem_append_right _ (tkys_rw h2 ⟨u, hu, e⟩)
   ·cases h
theorem DD_step (hC : CxOk P C) {F : Cf K} (hF : F.C = C) (hS : SsOk P C F.S) (hL : SLOk P C F.L) {o : AO} {fre : List Nat} {tacc : List TFt} {Rn : List TFt → TS K → Prop} (e0 : LD[i]? = some (o, fre)) (hγ : GM P C R ts χ ds) (hk : DOk ds) (hg : gok o.guard ds.fr = true) (ha : LeA acc tacc) (h : tdrun F o fre tacc Rn ts)
  (k : ∀ acc' tacc' ts' χ' ds', LeA acc' tacc' → GM P C R ts' χ' ds' → DOk ds' → Rn tacc' ts' → ts'.rg = ts.rg → DD P LD (i + 1) acc' QD ds') : DD P LD i acc QD ds := by
 unfold tdrun at h
 split at h
 rotate_left
 ·exact h.elim
 rename_i t ht
 split at h
 rotate_left
 ·exact h.elim
 rename_i hok
 have calls : ∀ {f : FuncId} {vs vs' : List AV} {kl : List (Nat × Nat)} {d1 : DS} {v : AV} {ts' : TS K} {χ' : Nat → Nat → Bool}, CallR P o ds f vs vs' kl d1 v → GM P C R ts' χ' (d1.put o.dst v) → DOk d1 → Rn (tacc ++ [t]) ts' → ts'.rg = ts.rg → LeK (rkOf o.op (toD ds)) t.rk → (∀ q ∈ kl, q ∈ t.wk) → (∀ q ∈ kl, q ∈ t.rk) → DD P LD i acc QD ds := by
  intro f vs vs' kl d1 v ts' χ' c1 c2 c3 c4 c5 hrk hwk hwr
  have hle : LeF (footOf o.op (toD ds) ⟨v, kl.map (fun k => (k, none)), [], none⟩) t := by
   refine ⟨fun k hk' => ?_, fun q hq => hwk q ?_, rfl, fun s hs => by cases hs⟩
   ·rcases List.mem_append.1 hk' with hq | hq
    ·exact hrk k hq
    ·have hic : isCall o.op = true := by rcases c1.ho with ⟨args, h1, _⟩ | ⟨x, args, first, cap, h1, _⟩ <;> rw [h1] <;> rfl
     rw [hic] at hq
     obtain ⟨p, hp, rfl⟩ := List.mem_map.1 hq
     obtain ⟨q, hq', rfl⟩ := List.mem_map.1 hp
     exact .inr ⟨q, hwr q hq', rfl⟩
   have hq' : q ∈ (kl.map fun k => (k, (none : Option Blk))).map (·.1) := hq
   simpa using hq'
  exact DD_callD e0 hg c1 (okTs_ok hle ha fre hok) (k _ _ ts' χ' _ (ha.snoc hle) c2 c3.put c4 c5)
 have callL : ∀ {f : FuncId} {us : List (TV K)} {vs : List AV} {sp : Sl K} {env : List (DV K)} {M : RM} {l : List (Nat × Nat)}, TL P C ts χ us vs → CalO o ds f vs → pickL C ts f us F.L = some (sp, env, M) → tcallL C F.S true ts o.dst sp env M us (Rn (tacc ++ [t])) → LeK (rkOf o.op (toD ds)) l → t = ⟨l ++ plcs sp o.dst M, plcs sp o.dst M⟩ → DD P LD i acc QD ds := by
  intro f us vs sp env M l ht ho hp h hrk het
  refine DD_callL hC hS hL e0 hg hγ hk ht ho hp h fun e ts' χ' ds' a1 a2 a3 a4 a5 a6 a7 => ?_
  have hle : LeF (footOf o.op (toD ds) e) t := by
   rw [het]
   refine ⟨fun k hk' => ?_, fun q hq => a1 q hq, by show e.H.isSome = false; rw [a2]; rfl, fun s hs => a3 s hs⟩
   rcases List.mem_append.1 hk' with hq | hq
   ·rcases hrk k hq with r | ⟨r, hr, e⟩
    ·exact .inl r
    ·exact .inr ⟨r, List.mem_append_left _ hr, e⟩
   ·have hic : isCall o.op = true := by rcases ho with ⟨args, h1, _⟩ | ⟨x, args, first, cap, h1, _⟩ <;> rw [h1] <;> rfl
    rw [hic] at hq
    obtain ⟨p, hp, rfl⟩ := List.mem_map.1 hq
    exact .inr ⟨p.1, List.mem_append_right _ (a1 p.1 (List.mem_map_of_mem (f := (·.1)) hp)), rfl⟩
  exact ⟨okTs_ok hle ha fre hok, k _ _ ts' χ' ds' (ha.snoc hle) a4 a5 a6 a7⟩
 have rest : notCall o.op = true → DD P LD i acc QD ds := by
  intro hn
  obtain ⟨e, ds', ts', χ', h1, h2, h3, h4, h5, h6⟩ := tstep_ok hC hγ hk hF hn h
  have hc : isMC o.op = false := by cases hop : o.op <;> rw [hop] at hn <;> first | rfl | (cases hn; done)
  have hle : LeF (footOf o.op (toD ds) e) t := by
   by_cases hmv : ∃ x, o.op = .mv x
   ·obtain ⟨x, hop⟩ := hmv
    unfold tft at ht
    rw [hop] at ht
    cases ht
    have hE : effA (fun _ => false) o.op o.dst (toD ds) = some e := h1.1
    rw [hop] at hE
    simp only [effA, pval, effP, Option.map_some, Option.some.injEq] at hE
    subst hE
    rw [hop]
    exact ⟨fun k h => (by cases h), fun q h => (by cases h), rfl, fun s h => (by cases h)⟩
   have ht' : ∃ l, tkys ts (tky ts) ((opds o.op).map (tea ts.fr)) = some l ∧ t = ⟨l, twk' ts o⟩ := by
    unfold tft at ht
    cases hop : o.op <;> rw [hop] at ht hn <;> first | (cases hn; done) | skip
    case mv x => exact absurd ⟨x, hop⟩ hmv
    all_goals
     simp only at ht
     split at ht
     ·rename_i l hl; cases ht; exact ⟨l, hl, rfl⟩
     ·cases ht
   obtain ⟨l, hl, rfl⟩ := ht'
   have hrk := opds_keys hγ hl
   have hnc : isCall o.op = false := by cases hop : o.op <;> rw [hop] at hn <;> first | rfl | (cases hn; done)
   refine ⟨?_, fun q hq => ?_, by show e.H.isSome = false; rw [h3]; rfl, fun s hs => ?_⟩
   rotate_right
   ·have hE : effA (fun _ => false) o.op o.dst (toD ds) = some e := by cases hop : o.op <;> rw [hop] at hn <;> first | (cases hn; done) | (rw [← hop]; exact h1.1)
    obtain ⟨al, rfl⟩ := eff_bump hE hs
    show _ ∈ twk' ts o
    unfold twk'
    cases hop : o.op <;> rw [hop] at al hn <;> first | (cases al; done) | (cases hn; done) | simp
   ·show LeK (rkOf o.op (toD ds) ++ _) l
    rw [hnc]
    simp only [List.append_nil]
    have : rkOf o.op (toD ds) = (opds o.op).flatMap fun x => keyOf (ev (lkF ds.fr) x) := by
     cases hop : o.op <;> rw [hop] at hn <;> first | rfl | (cases hn; done) | skip
     case mv x => exact absurd ⟨x, hop⟩ hmv
    rw [this]; exact hrk
   ·have hq' : q ∈ e.mem.map (·.1) := hq
    obtain ⟨x, hx, rfl⟩ := List.mem_map.1 hq'
    exact h2 x hx
  exact DD_eff e0 hg h1 hc (okTs_ok hle ha fre hok) (k _ _ ts' χ' ds' (ha.snoc hle) h4 h1.ok h5 h6)
 cases ho : o.op with
 | call f args =>
   have h0 := h
   unfold step at h; rw [ho] at h
   simp only at h
   unfold tft at ht; rw [ho] at ht
   simp only at ht
   split at ht
   ·rename_i l hl
    split at h
    ·rename_i sp env M hp
     rw [hp] at ht
     cases ht
     rw [hF] at h hp
     have hrk := tkys_ok (g := keyOf) (fun u v l h hl => tky_ok h hl) _ _ l (TL.tea hγ args) hl
     rw [List.flatMap_map] at hrk
     exact callL (TL.tea hγ args) (.inl ⟨args, ho, rfl⟩) hp h (by rw [ho]; exact hrk) rfl
    rename_i hp
    rw [hp] at ht
    rw [hF] at h ht
    cases ht
    obtain ⟨vs', kl, d1, v, ts', χ', c1, c2, c3, c4, c5, c7, c6⟩ := tcall_ok hC hS hγ hk (TL.tea hγ args) (.inl ⟨args, ho, rfl⟩) h
    have hrk := tkys_ok (g := keyOf) (fun u v l h hl => tky_ok h hl) _ _ l (TL.tea hγ args) hl
    rw [List.flatMap_map] at hrk
    refine calls c1 c2 c3 c4 c5 (by rw [ho]; exact hrk) (fun q hq => ?_) ?_
    cases hfl : flS C F.S f with
    | true => rw [c7 hfl] at hq; cases hq
    | false => exact trows_mem (c6 q hq)
    ·exact fun q hq => tkys_rw hl (c6 q hq)
   ·cases ht
 | calv x args =>
   unfold step at h; rw [ho] at h
   simp only at h
   unfold tft at ht; rw [ho] at ht
   simp only at ht
   split at ht
   rotate_left
   ·cases ht
   rename_i ca l hca hl
   have hrk := tkys_ok (g := keyOf) (fun u v l h hl => tky_ok h hl) _ _ l (TL.tea hγ args) hl
   rw [List.flatMap_map] at hrk
   have hx := hγ.tev x
   split at h
   ·rename_i f a c ex
    rw [ex] at hx
    rw [ex] at ht
    simp only at ht
    generalize hv : ev (lkF ds.fr) x = w at hx
    cases hx with
    | fn _ _ _ a' c' ha' hc' h1 h2 =>
      have ta : TL P C ts χ a a' := ⟨ha', h1⟩
      have tc : TL P C ts χ c c' := ⟨hc', h2⟩
      have hrk' : LeK (rkOf o.op (toD ds)) (ca ++ l) := by
       rw [ho]
       show LeK (rkCap (ev (lkF ds.fr) x) ++ args.flatMap fun y => keyOf (ev (lkF ds.fr) y)) _
       rw [hv]
       refine LeK.app ?_ hrk
       unfold tkcap at hca
       have ex' : (tea ts.fr x).s = .fn f a c := ex
       rw [ex'] at hca
       have := tkys_ok (g := keyOf) (fun u v l h hl => tky_ok h hl) _ _ ca (ta.app tc) hca
       rw [List.flatMap_append] at this
       exact this
      split at h
      ·rename_i sp env M hp
       rw [hp] at ht
       cases ht
       rw [hF] at h hp
       exact callL ((ta.app (TL.tea hγ args)).app tc) (.inr ⟨x, args, a', c', ho, hv, rfl⟩) hp h hrk' rfl
      rename_i hp
      rw [hp] at ht
      cases ht
      rw [hF] at h
      obtain ⟨vs', kl, d1, v, ts', χ', c1, c2, c3, c4, c5, _, c6⟩ := tcall_ok hC hS hγ hk ((ta.app (TL.tea hγ args)).app tc) (.inr ⟨x, args, a', c', ho, hv, rfl⟩) h
      refine calls c1 c2 c3 c4 c5 hrk' (fun q hq => trows_mem (c6 q hq)) (fun q hq => by
       obtain ⟨u, hu, e⟩ := c6 q hq
       have hca' : tkys ts (tky ts) (a ++ c) = some ca := by
        unfold tkcap at hca
        rw [show (tea ts.fr x).s = .fn f a c from ex] at hca
        exact hca
       rcases List.mem_append.1 hu with hu | hu
       ·rcases List.mem_append.1 hu with hu | hu
        ·exact List.mem_append_left _ (tkys_rw hca' ⟨u, List.mem_append_left _ hu, e⟩)
        ·exact List.mem_append_right _ (tkys_rw hl ⟨u, hu, e⟩)
       ·exact List.mem_append_left _ (tkys_rw hca' ⟨u, List.mem_append_right _ hu, e⟩))
   ·rename_i ps rs V ex
    rw [ex] at hx
    rw [ex] at ht
    cases ht
    generalize hv : ev (lkF ds.fr) x = w at hx
    cases hx with
    | fv _ _ _ _ hV hv' =>
      rw [hF] at h
      obtain ⟨f, vs, vs', kl, d1, v, ts', χ', c1, c2, c3, c4, c5, c6⟩ := tcalv_ok hC hγ hk hV ho hv hv' (TL.tea hγ args) h
      refine calls c1 c2 c3 c4 c5 ?_ (fun q hq => trows_mem (c6 q hq)) (fun q hq => List.mem_append_right _ (tkys_rw hl (c6 q hq)))
      rw [ho]
      show LeK (rkCap (ev (lkF ds.fr) x) ++ args.flatMap fun y => keyOf (ev (lkF ds.fr) y)) _
      rw [hv]
      refine LeK.app ?_ hrk
      obtain ⟨g1, _, _, f', a, c, g4, _⟩ := hV
      rw [← hv', dwk_noL] at g1
      cases w with
      | fn f0 a0 c0 =>
        simp only [AV.noL, Bool.and_eq_true] at g1
        intro q hq
        simp only [rkCap, List.mem_append, List.mem_flatMap] at hq
        rcases hq with ⟨y, hy, hq⟩ | ⟨y, hy, hq⟩
        ·rcases (noL_keys (noLs_mem.1 g1.1 y hy)).1 q hq with r | ⟨r, hr, _⟩
         ·exact .inl r
         ·cases hr
        ·rcases (noL_keys (noLs_mem.1 g1.2 y hy)).1 q hq with r | ⟨r, hr, _⟩
         ·exact .inl r
         ·cases hr
      | _ => exact .nil
   ·exact absurd h (by simp)
   ·exact h.elim
 | _ => exact rest (by rw [ho]; rfl)
theorem tdrw_ok (hC : CxOk P C) {F : Cf K} (hF : F.C = C) (hS : SsOk P C F.S) (hL : SLOk P C F.L) {X : TS K → Prop} {Q : KS → Prop} : ∀ (L' : List (AO × List Nat)) (i : Nat) (acc : List Foot) (tacc : List TFt) (ts : TS K) (χ : Nat → Nat → Bool) (ds : DS), LD.drop i = L' → LeA acc tacc → GM P C R ts χ ds → DOk ds → tdrw F L' tacc ts X →
  (∀ ts' χ' ds', GM P C R ts' χ' ds' → DOk ds' → X ts' → ExtR ts.rg ts'.rg → RE B N (toD ds') Q) → DD P LD i acc (fun S => RE B N S Q) ds
 | [], i, acc, tacc, ts, χ, ds, e, ha, hγ, hk, h, fin => by
   have _ := (inferInstance : GB P B)
   intro _
   rw [e]
   exact fin ts χ ds hγ hk h .refl
 | (o, fre) :: r, i, acc, tacc, ts, χ, ds, e, ha, hγ, hk, h, fin => by
   have e0 : LD[i]? = some (o, fre) := by
    have := congrArg (·[0]?) e
    simpa using this
   have e1 : LD.drop (i + 1) = r := by rw [← List.drop_drop, e]; rfl
   have next : ∀ {ts2 : TS K} {χ2 : Nat → Nat → Bool} {ds2 : DS} {acc2 : List Foot} {tacc2 : List TFt}, LeA acc2 tacc2 → GM P C R ts2 χ2 ds2 → DOk ds2 → tdrw F r tacc2 ts2 X → ts2.rg = ts.rg → DD P LD (i + 1) acc2 (fun S => RE B N S Q) ds2 := by
    intro ts2 χ2 ds2 acc2 tacc2 la a b c d
    exact tdrw_ok hC hF hS hL r (i + 1) acc2 tacc2 ts2 χ2 ds2 e1 la a b c fun ts3 χ3 ds3 p q s t => fin ts3 χ3 ds3 p q s (by rw [← d]; exact t)
   have run : ∀ {ts0 : TS K} {ds0 : DS}, GM P C R ts0 χ ds0 → DOk ds0 → ts0.rg = ts.rg → gok o.guard ds0.fr = true → tdrun F o fre tacc (fun acc t => tdrw F r acc t X) ts0 → DD P LD i acc (fun S => RE B N S Q) ds0 := by
    intro ts0 ds0 hγ0 hk0 hr hg hst
    exact DD_step hC hF hS hL e0 hγ0 hk0 hg ha hst fun acc2 tacc2 ts2 χ2 ds2 la a b c d => next la a b c (d.trans hr)
   have skip : ∀ {ts0 : TS K} {ds0 : DS}, GM P C R ts0 χ ds0 → DOk ds0 → ts0.rg = ts.rg → gno o.guard ds0.fr = true → tdrw F r (tacc ++ [⟨[], []⟩]) (ts0.put o.dst (.tup [])) X → DD P LD i acc (fun S => RE B N S Q) ds0 := by
    intro ts0 ds0 hγ0 hk0 hr hg hst
    exact DD_skp e0 hg (next (ha.snoc LeF.skip) (hγ0.put (.tup [] [] rfl (fun j u v h => by simp at h))) hk0.put hst ((put_rg _ _ _).trans hr))
   rw [tdrw] at h
   unfold tdg tgd at h
   split at h
   ·rename_i hg
    exact run hγ hk rfl (by rw [hg]; rfl) h
   ·rename_i d b hg
    have hd := (hγ.fr d).s
    split at h
    ·rename_i c hc
     rw [hc] at hd
     have hv := hd.lbi
     split at h
     ·rename_i hcb
      have : c = b := by cases c <;> cases b <;> first | rfl | cases hcb
      subst this
      exact run hγ hk rfl (gok_of hg hv) h
     ·rename_i hcb
      exact skip hγ hk rfl (gno_of hg hv (by intro q; subst q; cases c <;> cases hcb)) h
    ·rename_i c hc
     rw [hc] at hd
     have hv := hd.bli
     obtain ⟨h1, h2⟩ := h
     refine DD_bool hv (fun hb => ?_) (fun hb => ?_)
     ·have hh := h1 hb
      have g1 := hγ.put (d := some d) (TR.lb (P := P) (C := C) (ts := ts) (χ := χ) true)
      have v1 : lkF (ds.put (some d) (.bl true)).fr d = .bl true := by show lkF ((d, .bl true) :: ds.fr) d = _; rw [lkF_cons]; simp
      cases b with
      | true => exact run g1 hk.put (put_rg _ _ _) (gok_of hg v1) hh
      | false => exact skip g1 hk.put (put_rg _ _ _) (gno_of hg v1 (by simp)) hh
     ·have hh := h2 hb
      have g1 := hγ.put (d := some d) (TR.lb (P := P) (C := C) (ts := ts) (χ := χ) false)
      have v1 : lkF (ds.put (some d) (.bl false)).fr d = .bl false := by show lkF ((d, .bl false) :: ds.fr) d = _; rw [lkF_cons]; simp
      cases b with
      | true => exact skip g1 hk.put (put_rg _ _ _) (gno_of hg v1 (by simp)) hh
      | false => exact run g1 hk.put (put_rg _ _ _) (gok_of hg v1) hh
    ·rename_i hc
     rw [hc] at hd
     obtain ⟨vs, hv, hl, _⟩ := hd.tup'
     have : vs = [] := List.eq_nil_of_length_eq_zero hl
     subst this
     exact skip hγ hk rfl (by rw [hg]; simp only [gno, hv]) h
    ·exact h.elim
theorem frzD_ok (hB : LentB B) (hC : CxOk P C) {F : Cf K} (hF : F.C = C) (L : List (AO × List Nat)) : REk P C R B N ts (frzD F L ts) ∧ (frzD F L ts).rg = ts.rg := by
 have _ := (inferInstance : GB P B)
 unfold frzD
 rw [hF]
 generalize (L.flatMap fun p => (frzO F ts.fr p.1.op).flatMap fun x => match x with | .t n => [srcD L 9 n] | .c _ => []) = l
 induction l generalizing ts with
 | nil => exact ⟨.refl, rfl⟩
 | cons n l ih =>
   obtain ⟨a, b⟩ := ih (ts := fzA C 9 [lkT ts.fr n] ts)
   exact ⟨(fzA_ok hB hC _ _ _).trans a, by rw [List.foldl_cons, b, fzA_rg]⟩
end
section
theorem RE_Kq {Q : AEx → TS K → Prop} {e : AEx} {rg : List (Nat × TV K)} (hB : LentB B) (hC : CxOk P C) (hγ : GM P C R ts χ ds) (hk : DOk ds) (hx : ExtR rg ts.rg) (h : Q e (er ts)) : RE B N (toD ds) (Kq P C R rg Q e) :=
 have _ := (inferInstance : GB P B)
 (er_ok (N := N) hB hC χ ds hk hγ).mono fun ks ⟨h1, ξ, h2⟩ => ⟨h1, er ts, ξ, h2, hx, h⟩
theorem fzT_h (C : Cx K) (fr : List (Nat × TV K)) : ∀ (l : List (Nat × Kd)) (ts : TS K), (fzT C fr l ts).h = ts.h
 | [], _ => rfl
 | (t, k) :: r, ts => by
   cases k with
   | sl e =>
     simp only [fzT]
     rw [fzT_h C fr r]
     split
     ·exact fz_h C ts _
     ·rfl
   | _ => simp only [fzT]; exact fzT_h C fr r ts
theorem rdJ_ok {hh : List RS} (hR : ∀ H n, R ts.h H n → R hh H n) (hB : LentB B) (hC : CxOk P C) {τ : Tm} {rg : List (Nat × TV K)} {J : List (DV K) → Prop} {ks : KS} (hk : KOk ks) (hγ : GM P C R ts χ (ofK ks)) (hx : ExtR rg ts.rg) (h : rdJ C τ ts J) :
  RE B N (toS ks) fun ks' => ∃ env, J env ∧ KOk ks' ∧ ∃ ξ, GM P C R (bdT C τ rg hh env) ξ (ofK ks') := by
 have _ := (inferInstance : GB P B)
 unfold rdJ at h
 split at h
 ·rename_i env he
  have h1 := fzT_ok (R := R) (N := N) hB hC ts.fr τ.ks ts
  have h2 := (rdT_ok (R := R) (N := N) (rg := rg) hB hC (by rw [fzT_rg]; exact hx) he hh (by rw [fzT_h]; exact hR)).k
  exact ((h1.trans h2) χ ks hk hγ).mono fun ks' ⟨a, b⟩ => ⟨env, h, a, b⟩
 ·exact h.elim
theorem eqRS_ok {a b : RS} (h : eqRS a b = true) : a = b := by
 cases a <;> cases b <;> first | rfl | (cases h; done) | (rw [nbeq.1 h])
theorem eqH_ok : ∀ {a b : List RS}, eqH a b = true → a = b
 | [], [], _ => rfl
 | [], _ :: _, h => by cases h
 | _ :: _, [], h => by cases h
 | x :: a, y :: b, h => by
   simp only [eqH, Bool.and_eq_true] at h
   rw [eqRS_ok h.1, eqH_ok h.2]
theorem rdH_out {C : Cx K} {τ : Tm} {h : List RS} {ts : TS K} {J : List (DV K) → Prop} (q : rdH C τ h ts J) : ts.h = h ∧ rdJ C τ ts J := by
 unfold rdH at q
 split at q
 ·rename_i e; exact ⟨eqH_ok e, q⟩
 ·exact q.elim
theorem WK_mono {c : ACode} {Q Q' : AEx → KS → Prop} {ks : KS} (h : WK P B N ro c Q ks) (hq : ∀ e ks, Q e ks → Q' e ks) : WK P B N ro c Q' ks := have _ := (inferInstance : GB P B); fun x hx a G hR => wpIn_mono (h x hx a G hR) fun _ _ _ hp => PostK.mono hq hp
theorem bdT_rg (C : Cx K) (τ : Tm) (rg : List (Nat × TV K)) (hh : List RS) (env : List (DV K)) : (bdT C τ rg hh env).rg = rg := rfl
def IOk (P : Program) (I : List (Nat × AFn)) : Prop := ∀ f c, lkI I f = some c → trF P f = some c
theorem tagT_h (τ : Tm) (ts : TS K) : (tagT τ ts).h = ts.h := (tagB_ext τ.bx _).2.2.trans (tagS_ext τ.ks ts).2.2
theorem YOk.none {B : Base} {N : Nat} {ro : Option Nat} {R : RR K} {rY : Nat} : YOk P C R B N ro rY none := fun y h => by cases h
theorem lkT_reix {g : Nat → Option Nat} (hg : injx g) {s t : Nat} (h : g s = some t) : ∀ l : List (Nat × TV K), lkT (reix g l) t = lkT l s
 | [] => rfl
 | p :: r => by
   have ih := lkT_reix hg h r
   show lkT (match g p.1 with | some t => (t, p.2) :: reix g r | none => reix g r) t = lkT ((p.1, p.2) :: r) s
   rw [lkT_put]
   by_cases e : p.1 = s
   ·rw [if_pos e, e, h]; simp only; rw [lkT_put, if_pos rfl]
   ·rw [if_neg e]
    split
    ·rename_i u hu
     rw [lkT_put, if_neg (fun q => e (hg _ _ _ hu (by rw [q]; exact h)))]; exact ih
    ·exact ih
theorem lkT_reix_no {g : Nat → Option Nat} {t : Nat} (h : ∀ s, g s ≠ some t) : ∀ l : List (Nat × TV K), lkT (reix g l) t = .un
 | [] => rfl
 | p :: r => by
   show lkT (match g p.1 with | some t => (t, p.2) :: reix g r | none => reix g r) t = _
   split
   ·rename_i u hu
    rw [lkT_put, if_neg (fun q => h p.1 (by rw [hu, q]))]; exact lkT_reix_no h r
   ·exact lkT_reix_no h r
def memV : List (Nat × TV K) → Nat → Bool
 | [], _ => false
 | p :: r, t => Nat.beq p.1 t || memV r t
theorem lkT_app (a b : List (Nat × TV K)) (t : Nat) : lkT (a ++ b) t = if memV a t = true then lkT a t else lkT b t := by
 induction a with
 | nil => rfl
 | cons p a ih =>
   have hm : memV (p :: a) t = (Nat.beq p.1 t || memV a t) := rfl
   show lkT ((p.1, p.2) :: (a ++ b)) t = if _ then lkT ((p.1, p.2) :: a) t else _
   rw [lkT_put, lkT_put, ih, hm]
   by_cases e : p.1 = t
   ·rw [if_pos e, if_pos e, nbeq.2 e]; rfl
   ·rw [if_neg e, if_neg e]
    have : Nat.beq p.1 t = false := by
     cases h : Nat.beq p.1 t with
     | false => rfl
     | true => exact absurd (nbeq.1 h) e
    rw [this, Bool.false_or]
theorem memV_reix {g : Nat → Option Nat} {t : Nat} (h : ∀ s, g s ≠ some t) : ∀ l : List (Nat × TV K), memV (reix g l) t = false
 | [] => rfl
 | p :: r => by
   simp only [reix]
   split
   ·rename_i u hu
    have hb : Nat.beq u t = false := by
     cases q : Nat.beq u t with
     | false => rfl
     | true => exact absurd (hu.trans (congrArg some (nbeq.1 q))) (h p.1)
    show (Nat.beq u t || memV (reix g r) t) = false
    rw [hb, memV_reix h r]; rfl
   ·exact memV_reix h r
theorem lkT_reix_mem {g : Nat → Option Nat} (hg : injx g) {s t : Nat} (h : g s = some t) : ∀ l : List (Nat × TV K), memV (reix g l) t = false → lkT l s = .un
 | [], _ => rfl
 | p :: r, hm => by
   simp only [reix] at hm
   show lkT ((p.1, p.2) :: r) s = _
   rw [lkT_put]
   by_cases e : p.1 = s
   ·rw [e, h] at hm
    simp [memV, nbeq.2] at hm
   ·rw [if_neg e]
    split at hm
    ·simp only [memV, Bool.or_eq_false_iff] at hm; exact lkT_reix_mem hg h r hm.2
    ·exact lkT_reix_mem hg h r hm
theorem lkT_zip : ∀ (us : List (TV K)) (i t : Nat), lkT (zipT us i) t = if i ≤ t then (us[t - i]?).getD .un else .un
 | [], i, t => by simp [zipT, lkT]
 | u :: r, i, t => by
   simp only [zipT]
   rw [lkT_put, lkT_zip r (i + 1) t]
   by_cases h : i = t
   ·subst h; simp
   ·rw [if_neg h]
    by_cases h2 : i ≤ t
    ·have h3 : i + 1 ≤ t := by omega
     rw [if_pos h2, if_pos h3, show t - i = (t - (i + 1)) + 1 from by omega, List.getElem?_cons_succ]
    ·have h3 : ¬ i + 1 ≤ t := by omega
     rw [if_neg h2, if_neg h3]
theorem memV_zip : ∀ (us : List (TV K)) (i t : Nat), memV (zipT us i) t = decide (i ≤ t ∧ t < i + us.length)
 | [], i, t => by simp [zipT, memV]
 | u :: r, i, t => by
   simp only [zipT, memV, memV_zip r (i + 1) t, List.length_cons]
   by_cases h : i = t
   ·subst h; simp [nbeq.2]
   ·have hb : Nat.beq i t = false := by
     cases q : Nat.beq i t with
     | false => rfl
     | true => exact absurd (nbeq.1 q) h
    rw [hb, Bool.false_or]
    simp only [decide_eq_decide]; omega
theorem GM.frame {ks : KS} (h : GM P C R ts χ (ofK ks)) {R' : RR K} {fr' : List (Nat × TV K)} {rg' : List (Nat × TV K)} {h' : List RS} {frk' : List (Nat × AV)} {H' : Hp} {n' : Nat} (hx : ExtR ts.rg rg') (hL : R'.L = R.L)
  (hfr : ∀ t, TR P C ⟨fr', ts.od, ts.nw, rg', h'⟩ χ (lkT fr' t) (lkF frk' t)) (hp : R' h' H' n') : GM P C R' ⟨fr', ts.od, ts.nw, rg', h'⟩ χ (ofK ⟨frk', ks.mem, H', n'⟩) := by
 have hm : Mono ts ⟨fr', ts.od, ts.nw, rg', h'⟩ χ χ := ⟨hx, fun _ _ q => q, fun _ _ _ => .inr ⟨rfl, rfl⟩⟩
 refine ⟨hfr, fun s c b hb hx => ?_, h.vi, h.nw, hp, fun s b q e => by rw [hL]; exact h.lv s b q e⟩
 obtain ⟨kb, h1, h2⟩ := h.mb s c b hb hx
 exact ⟨kb, h1, h2.mono hm⟩
theorem isY_ok {id r : Nat} {u : TV K} {v : AV} (h : isY id u = true) (ht : TR P C ts χ u v) (hr : lkR ts.rg id = some (.yl r)) : v = .yld r := by
 unfold isY at h
 split at h
 ·rename_i i w
  have := nbeq.1 h; subst this
  cases ht with
  | cn _ _ _ h1 _ h2 => rw [hr] at h1; cases h1; cases h2; rfl
 ·cases h
def lsR : RS → LS
 | .rdy => .ready
 | .busy => .busy
 | .ret => .ret
 | .ex i => .exit i
def RR.push (R : RR K) (r : Nat) (f : LS → Blk) : RR K := ⟨fun h H n => ∃ st h', h = st :: h' ∧ H r = some (f (lsR st)) ∧ R.R h' (fun o => if o = r then none else H o) n, R.L⟩
theorem RR.push_out {R : RR K} {r : Nat} {f : LS → Blk} {st : RS} {h : List RS} {H : Hp} {n : Nat} (q : R.push r f (st :: h) H n) : H r = some (f (lsR st)) ∧ R.R h (fun o => if o = r then none else H o) n := by
 obtain ⟨st', h', e, a, b⟩ := q
 cases e; exact ⟨a, b⟩
theorem RR.push_set {R : RR K} {r : Nat} {f : LS → Blk} {st st' : RS} {h : List RS} {H : Hp} {n : Nat} (q : R.push r f (st :: h) H n) : R.push r f (st' :: h) (fun o => if o = r then some (f (lsR st')) else H o) n := by
 refine ⟨st', h, rfl, if_pos rfl, ?_⟩
 have : (fun o => if o = r then none else (if o = r then some (f (lsR st')) else H o)) = fun o => if o = r then none else H o := by
  funext o
  by_cases e : o = r
  ·simp [e]
  ·simp [e]
 rw [this]; exact (RR.push_out q).2
theorem okG_ok {g : Option (Nat × Bool)} {ds : DS} (hγ : GM P C R ts χ ds) (h : okG g ts.fr = true) : gok g ds.fr = true := by
 unfold okG at h
 split at h
 ·rfl
 ·rename_i d b
  have hd := (hγ.fr d).s
  split at h
  ·rename_i c e; rw [e] at hd; simp only [gok, hd.bli]; exact h
  ·rename_i c e; rw [e] at hd; simp only [gok, hd.lbi]; exact h
  ·cases h
theorem TL.at2 {us : List (TV K)} {vs : List AV} (t : TL P C ts χ us vs) (j : Nat) : TR P C ts χ ((us[j]?).getD .un) ((vs[j]?).getD .un) := by
 cases hu : us[j]? with
 | none => exact .un _
 | some u =>
   have hj : j < vs.length := by rw [t.1]; exact (List.getElem?_eq_some_iff.1 hu).1
   rw [List.getElem?_eq_getElem hj]
   exact t.2 j u _ hu (List.getElem?_eq_getElem hj)
theorem foldT : ∀ (ps : List Nat) (us : List (TV K)) (vs : List AV) (a : List (Nat × TV K)) (b : List (Nat × AV)), TL P C ts χ us vs → (∀ t, TR P C ts χ (lkT a t) (lkF b t)) → ∀ t, TR P C ts χ (lkT ((ps.zip us).foldl (fun l p => p :: l) a) t) (lkF ((ps.zip vs).foldl (fun l p => p :: l) b) t)
 | [], us, vs, a, b, _, h => h
 | p :: ps, [], vs, a, b, t, h => by
   have : vs = [] := List.eq_nil_of_length_eq_zero t.1
   subst this; exact h
 | p :: ps, u :: us, [], a, b, t, h => by simp [TL] at t
 | p :: ps, u :: us, v :: vs, a, b, t, h => by
   simp only [List.zip_cons_cons, List.foldl_cons]
   refine foldT ps us vs _ _ t.head.2 fun q => ?_
   rw [lkT_put, lkF_cons]
   simp only
   split
   ·exact t.head.1
   ·exact h q
theorem Dn_ok (hC : CxOk P C) : ∀ (A : An K) {B : Base} [GB P B] {N : Nat} {ro : Option Nat} {R : RR K} {F : Cf K} {rY : Nat}, LentB B → F.C = C → SsOk P C F.S → SLOk P C F.L → F.N = N → IOk P F.I → (F.rd = false → ro = none) → (F.I = [] ∨ ∀ h H n m, R h H n → n ≤ m → R h H m) → YOk P C R B N ro rY F.Y →
  ∀ (c : ACode) (Q : AEx → TS K → Prop) (ts : TS K) (χ : Nat → Nat → Bool) (ks : KS), KOk ks → GM P C R ts χ (ofK ks) → (∀ y, F.Y = some y → lkR ts.rg y.1 = some (.yl rY)) → Dn F A c Q ts → WK P B N ro c (Kq P C R ts.rg Q) ks := by
 intro A
 induction A with
 | o =>
   intro B _ N ro R F rY hB hF hS hL hN hI hr hRm hY c Q ts χ ks hk hγ hYI h
   have at' : ∀ {e : AEx}, Q e ts → Kq P C R ts.rg Q e ks := fun h => ⟨hk, ts, χ, hγ, .refl, h⟩
   cases c with
   | skip => exact WK_skip (at' h)
   | exit id => exact WK_exit (at' h)
   | ret => exact WK_ret (at' h)
   | ops L =>
     refine WK_ops ?_
     exact tops_ok (L := L) hB hC hF hS hL hN hY L 0 ts χ (ofK ks) rfl hγ (ofK_ok hk) hYI h fun ts' χ' ds' a b d e => RE_Kq hB hC a b e d
   | drw L =>
     obtain ⟨f1, f2⟩ := frzD_ok (R := R) (N := N) (ts := ts) hB hC hF L
     refine WK_re fun _ => (f1 χ ks hk hγ).mono fun ks' ⟨hk', ξ, hγ'⟩ => WK_drw ?_
     exact tdrw_ok (LD := L) hC hF hS hL L 0 [] [] _ ξ (ofK ks') rfl ⟨rfl, fun j f t h => by simp at h⟩ hγ' (ofK_ok hk') h fun ts' χ' ds' a b d e => RE_Kq hB hC a b (by rw [← f2]; exact e) d
   | _ => exact h.elim
 | s a b iha ihb =>
   intro B _ N ro R F rY hB hF hS hL hN hI hr hRm hY c Q ts χ ks hk hγ hYI h
   cases c with
   | seq x y =>
     refine WK_seq (WK_mono (iha hB hF hS hL hN hI hr hRm hY x _ ts χ ks hk hγ hYI h) fun e ks' hq => ?_)
     obtain ⟨h1, ts', χ', h2, h3, h4⟩ := hq
     cases e with
     | n => exact WK_mono (ihb hB hF hS hL hN hI hr hRm hY y Q ts' χ' ks' h1 h2 (fun y e => h3 _ _ (hYI y e)) h4) fun e ks2 hq => hq.mono h3
     | x id => exact ⟨h1, ts', χ', h2, h3, h4⟩
     | r => exact ⟨h1, ts', χ', h2, h3, h4⟩
   | _ => exact h.elim
 | c a b iha ihb =>
   intro B _ N ro R F rY hB hF hS hL hN hI hr hRm hY c Q ts χ ks hk hγ hYI h
   cases c with
   | cond u x y =>
     have hu := hγ.tev u
     unfold Dn at h
     split at h
     ·rename_i e
      rw [e] at hu
      exact WK_cond (b := true) hu.lbi (fun _ => iha hB hF hS hL hN hI hr hRm hY x Q ts χ ks hk hγ hYI h) (fun q => by cases q)
     ·rename_i e
      rw [e] at hu
      exact WK_cond (b := false) hu.lbi (fun q => by cases q) (fun _ => ihb hB hF hS hL hN hI hr hRm hY y Q ts χ ks hk hγ hYI h)
     ·rename_i q e
      rw [e] at hu
      exact WK_cond (b := q) hu.bli (fun hq => iha hB hF hS hL hN hI hr hRm hY x Q ts χ ks hk hγ hYI (h.1 hq)) (fun hq => ihb hB hF hS hL hN hI hr hRm hY y Q ts χ ks hk hγ hYI (h.2 hq))
     ·exact h.elim
   | _ => exact h.elim
 | b a iha =>
   intro B _ N ro R F rY hB hF hS hL hN hI hr hRm hY c Q ts χ ks hk hγ hYI h
   cases c with
   | block id x =>
     refine WK_block (WK_mono (iha hB hF hS hL hN hI hr hRm hY x _ ts χ ks hk hγ hYI h) fun e ks' hq => ?_)
     obtain ⟨h1, ts', χ', h2, h3, h4⟩ := hq
     cases e with
     | n => exact ⟨h1, ts', χ', h2, h3, h4⟩
     | r => exact ⟨h1, ts', χ', h2, h3, h4⟩
     | x i =>
       show bkQ id _ (.x i) ks'
       simp only at h4
       unfold bkQ
       simp only
       split at h4
       ·rename_i e; try rw [e]
        exact ⟨h1, ts', χ', h2, h3, h4⟩
       ·rename_i e; try rw [e]
        exact ⟨h1, ts', χ', h2, h3, h4⟩
   | _ => exact h.elim
 | l τ a iha =>
   intro B _ N ro R F rY hB hF hS hL hN hI hr hRm hY c Q ts χ ks hk hγ hYI h
   cases c with
   | loop x =>
     refine WK_loop fun Y hYl => ?_
     let Sem : List (DV K) → Prop := fun env => ∀ ks', KOk ks' → (∃ ξ, GM P C R (bdT F.C τ (tagT τ ts).rg ts.h env) ξ (ofK ks')) → WK P B N ro x (sqQ (Kq P C R ts.rg Q) Y) ks'
     have go : ∀ {ts' : TS K} {χ' : Nat → Nat → Bool} {ks' : KS}, KOk ks' → GM P C R ts' χ' (ofK ks') → ExtR (tagT τ ts).rg ts'.rg → ts'.h = ts.h → rdJ F.C τ ts' (apC False (ctT τ) (curC (ctT τ) Sem)) → Y ks' := by
      intro ts' χ' ks' hk' hγ' hx' hh hj
      refine hYl ks' (WK_re fun _ => ?_)
      rw [hF] at hj
      refine (rdJ_ok (hh := ts.h) (fun H n q => by rw [hh] at q; exact q) hB hC hk' hγ' hx' hj).mono fun ks2 ⟨env, e1, e2, ξ, e3⟩ => ?_
      exact apC_cur _ _ _ e1 ks2 e2 ⟨ξ, by rw [hF]; exact e3⟩
     refine go hk (tagT_ok hγ) .refl (tagT_h τ ts) (h (curC (ctT τ) Sem) (allC_cur _ _ _ fun env hd => ?_))
     rintro ks' hk' ⟨ξ, hγ'⟩
     refine WK_mono (iha env hB hF hS hL hN hI hr hRm hY x _ _ ξ ks' hk' hγ' (fun y e => tagT_ext τ ts _ _ (hYI y e)) hd) fun e ks2 hq => ?_
     obtain ⟨h1, ts', χ', h2, h3, h4⟩ := hq
     rw [bdT_rg] at h3
     cases e with
     | n => obtain ⟨g1, g2⟩ := rdH_out h4; exact go h1 h2 h3 g1 g2
     | x id => exact ⟨h1, ts', χ', h2, (tagT_ext τ ts).trans h3, h4⟩
     | r => exact ⟨h1, ts', χ', h2, (tagT_ext τ ts).trans h3, h4⟩
   | _ => exact h.elim
 | j τ a b iha ihb =>
   intro B _ N ro R F rY hB hF hS hL hN hI hr hRm hY c Q ts χ ks hk hγ hYI h
   cases c with
   | seq x y =>
     let Sem : List (DV K) → Prop := fun env => ∀ ks', KOk ks' → (∃ ξ, GM P C R (bdT F.C τ (tagT τ ts).rg ts.h env) ξ (ofK ks')) → WK P B N ro y (Kq P C R ts.rg Q) ks'
     have hd := h (curC (ctT τ) Sem) (allC_cur _ _ _ fun env hd => by
      rintro ks' hk' ⟨ξ, hγ'⟩
      exact WK_mono (ihb env hB hF hS hL hN hI hr hRm hY y Q _ ξ ks' hk' hγ' (fun y e => tagT_ext τ ts _ _ (hYI y e)) hd) fun e ks2 hq => hq.mono (tagT_ext τ ts))
     refine WK_seq (WK_mono (iha hB hF hS hL hN hI hr hRm hY x _ (tagT τ ts) χ ks hk (tagT_ok hγ) (fun y e => tagT_ext τ ts _ _ (hYI y e)) hd) fun e ks' hq => ?_)
     obtain ⟨h1, ts', χ', h2, h3, h4⟩ := hq
     cases e with
     | n =>
       refine WK_re fun _ => ?_
       simp only at h4
       rw [hF] at h4
       obtain ⟨g1, g2⟩ := rdH_out h4
       refine (rdJ_ok (hh := ts.h) (fun H n q => by rw [g1] at q; exact q) hB hC h1 h2 h3 g2).mono fun ks2 ⟨env, e1, e2, ξ, e3⟩ => ?_
       exact apC_cur _ _ _ e1 ks2 e2 ⟨ξ, by rw [hF]; exact e3⟩
     | x id => exact ⟨h1, ts', χ', h2, (tagT_ext τ ts).trans h3, h4⟩
     | r => exact ⟨h1, ts', χ', h2, (tagT_ext τ ts).trans h3, h4⟩
   | _ => exact h.elim
 | g id τ τY ai aa ab ih1 ih2 ih3 =>
   intro B _ N ro R F rY hB hF hS hL hN hI hr hRm hY c Q ts χ ks hk hγ hYI h
   cases c with
   | rng u ps aA aB =>
     subst hF
     unfold Dn at h
     split at h
     ·exact h.elim
     rename_i hrd
     have hro := hr hrd
     subst hro
     refine WK_re fun _ => (rdJ_ok (hh := ts.h) (fun H n q => by rw [tagT_h] at q; exact q) hB hC hk (tagT_ok hγ) .refl h).mono fun ks1 ⟨env, h1, hk1, ξ1, hγ1⟩ => ?_
     have hrg : (bdT F.C τ (tagT τ ts).rg ts.h env).rg = (tagT τ ts).rg := rfl
     have hnw : (bdT F.C τ (tagT τ ts).rg ts.h env).nw = [] := rfl
     have hh1 : (bdT F.C τ (tagT τ ts).rg ts.h env).h = ts.h := rfl
     generalize bdT F.C τ (tagT τ ts).rg ts.h env = ts1 at h1 hγ1 hrg hnw hh1
     split at h1
     case h_2 => exact h1.elim
     rename_i f fa fc hu
     split at h1
     case h_2 => exact h1.elim
     rename_i c2 hc2
     replace hRm := hRm.resolve_left (fun e => by rw [e] at hc2; cases hc2)
     split at h1
     case h_2 => exact h1.elim
     rename_i hcond
     simp only [Bool.and_eq_true] at hcond
     obtain ⟨⟨hid, hlen⟩, hnil⟩ := hcond
     rw [← hrg] at hid
     have hid : lkR ts1.rg id = none := by
      cases hq : lkR ts1.rg id with
      | none => rfl
      | some w => rw [hq] at hid; cases hid
     have hlen := Nat.le_of_ble_eq_true hlen
     have hres : c2.res = [] := by
      cases hq : c2.res with
      | nil => rfl
      | cons a b => rw [hq] at hnil; cases hnil
     have hu' := hγ1.tev u
     rw [hu] at hu'
     generalize hv : ev (lkF (ofK ks1).fr) u = v at hu'
     cases hu' with
     | fn _ _ _ a' c' ha hc hta htc =>
       refine WK_rng (hI f c2 hc2) hres hv (by simp; omega) hB fun B2 _ tm asg body yv rest hB2 hH htm hxs hA hBd hps => ?_
       subst hN
       let f0 : LS → Blk := rcdB tm ps asg body
       have h2 := h1 ks1.nx
       have hx1 : ExtR ts1.rg ((id, .yl ks1.nx) :: ts1.rg) := fun id' w hw => by
        rw [lkR_cons]
        split
        ·rename_i e; simp only at e; subst e; rw [hid] at hw; cases hw
        ·exact hw
       have hRm2 : ∀ h H n m, R.push ks1.nx f0 h H n → n ≤ m → R.push ks1.nx f0 h H m := fun h H n m ⟨st, h', a1, a2, a3⟩ hm => ⟨st, h', a1, a2, hRm _ _ _ _ a3 hm⟩
       have hγ2 : GM P F.C (R.push ks1.nx f0) (rngS id ks1.nx c2.N fa fc ts1) ξ1 (ofK (rngK c2.N (a' ++ .yld ks1.nx :: c') (f0 .ready) ks1)) := by
        refine GM.frame hγ1 hx1 rfl (fun t => ?_) ⟨.rdy, ts1.h, rfl, if_pos rfl, ?_⟩
        ·have hm : Mono ts1 (rngS id ks1.nx c2.N fa fc ts1) ξ1 ξ1 := ⟨hx1, fun _ _ q => q, fun _ _ _ => .inr ⟨rfl, rfl⟩⟩
         have hyT : TR P F.C (rngS id ks1.nx c2.N fa fc ts1) ξ1 (.cn id (.yl ks1.nx)) (.yld ks1.nx) := .cn id (.yl ks1.nx) _ (by show lkR ((id, .yl ks1.nx) :: ts1.rg) id = _; rw [lkR_cons, if_pos rfl]) rfl (.yl _)
         have hTL : TL P F.C (rngS id ks1.nx c2.N fa fc ts1) ξ1 (fa ++ .cn id (.yl ks1.nx) :: fc) (a' ++ .yld ks1.nx :: c') := ((show TL P F.C ts1 ξ1 fa a' from ⟨ha, hta⟩).mono hm).app (.cons hyT ((show TL P F.C ts1 ξ1 fc c' from ⟨hc, htc⟩).mono hm))
         show TR P F.C (rngS id ks1.nx c2.N fa fc ts1) ξ1 (lkT (zipT (fa ++ .cn id (.yl ks1.nx) :: fc) 0 ++ (c2.N, .cn id (.yl ks1.nx)) :: reix (upx (c2.N + 1)) ts1.fr) t) (lkF (entF (a' ++ .yld ks1.nx :: c') 0 ++ (c2.N, .yld ks1.nx) :: reix (upx (c2.N + 1)) ks1.fr) t)
         rw [lkT_app, memV_zip, lkF_app, memI_ent, hTL.1]
         by_cases ht : 0 ≤ t ∧ t < 0 + (fa ++ .cn id (.yl ks1.nx) :: fc).length
         ·rw [if_pos (decide_eq_true ht), if_pos (decide_eq_true ht), lkT_zip, lkF_ent, if_pos (Nat.zero_le _), if_pos (Nat.zero_le _)]
          exact hTL.at2 _
         ·rw [if_neg (by simpa using ht), if_neg (by simpa using ht), lkT_put, lkF_cons]
          simp only
          by_cases h3 : c2.N = t
          ·rw [if_pos h3, if_pos h3]; exact hyT
          ·rw [if_neg h3, if_neg h3]
           by_cases h4 : c2.N < t
           ·have hg : upx (c2.N + 1) (t - (c2.N + 1)) = some t := by simp only [upx, Option.some.injEq]; omega
            rw [lkT_reix (upx_inj _) hg, lkF_reix (upx_inj _) hg]
            exact (hγ1.fr _).mono hm
           ·rw [lkT_reix_no (fun s e => by simp only [upx, Option.some.injEq] at e; omega)]
            exact .un _
        ·have : (fun o => if o = ks1.nx then none else (if o = ks1.nx then some (f0 .ready) else ks1.H o)) = ks1.H := by
          funext o
          by_cases e : o = ks1.nx
          ·rw [if_pos e, e, hH]
          ·simp [e]
         rw [this]; exact hRm _ _ _ _ hγ1.hp (Nat.le_succ _)
       have hbk : ∀ {t8 : TS K} {χ8 : Nat → Nat → Bool} {ks8 : KS} {h8 : List RS} {R' : RR K} {H' : Hp} (m : Nat), GM P F.C (R.push ks1.nx f0) t8 χ8 (ofK ks8) → R'.L = R.L → R' h8 H' ks8.nx → GM P F.C R' ⟨reix (dnx m) t8.fr, t8.od, t8.nw, t8.rg, h8⟩ χ8 (ofK ⟨reix (dnx m) ks8.fr, ks8.mem, H', ks8.nx⟩) := by
        intro t8 χ8 ks8 h8 R' H' m hg hL hp
        refine GM.frame hg .refl hL (fun t => ?_) hp
        have hm : Mono t8 ⟨reix (dnx m) t8.fr, t8.od, t8.nw, t8.rg, h8⟩ χ8 χ8 := ⟨fun _ _ q => q, fun _ _ q => q, fun _ _ _ => .inr ⟨rfl, rfl⟩⟩
        have hd : dnx m (t + m) = some t := dnx_some.2 rfl
        rw [lkT_reix (dnx_inj _) hd, lkF_reix (dnx_inj _) hd]
        exact (hg.fr _).mono hm
       refine WK_mono (ih1 (rY := ks1.nx) (F := { C := F.C, S := F.S, L := F.L, N := c2.N, I := F.I, Y := some (id, _), rd := false }) hB2 rfl hS hL rfl hI (fun _ => rfl) (.inr hRm2) ?_ c2.body _ _ ξ1 _ (show KOk (rngK c2.N (a' ++ .yld ks1.nx :: c') (f0 .ready) ks1) from hk1) hγ2 (fun y hy => by cases hy; show lkR ((id, .yl ks1.nx) :: ts1.rg) id = _; rw [lkR_cons, if_pos rfl]) h2) ?_
       ·intro y hy L i o x args t χt ds X Qd e0 hg ho hγt hkt hlk hrun k
        cases hy
        simp only at hlk hrun
        refine WD_re fun _ => RE.bind (er_ok (N := c2.N) hB2 hC χt ds hkt hγt) fun ks3 _ ⟨hk3, ξ3, hγ3⟩ => (rdJ_ok (hh := t.h) (R := R.push ks1.nx f0) (N := c2.N) (fun H n q => by rw [tagT_h] at q; exact q) hB2 hC hk3 (tagT_ok hγ3) .refl hrun).mono fun ks4 ⟨env2, h4, hk4, ξ4, hγ4⟩ => ?_
        have hrg4 : (bdT F.C τY (tagT τY (er t)).rg t.h env2).rg = (tagT τY (er t)).rg := rfl
        have hh4 : (bdT F.C τY (tagT τY (er t)).rg t.h env2).h = t.h := rfl
        generalize bdT F.C τY (tagT τY (er t)).rg t.h env2 = t4 at h4 hγ4 hrg4 hh4
        split at h4
        case h_2 => exact h4.elim
        rename_i _ _ tl hcond4 hth
        simp only [Bool.and_eq_true] at hcond4
        obtain ⟨⟨⟨q1, q2⟩, q3⟩, q4⟩ := hcond4
        have hext4 : ExtR t.rg t4.rg := by rw [hrg4]; exact tagT_ext τY (er t)
        have hlk4 := hext4 _ _ hlk
        have hx4 := isY_ok q2 (hγ4.tea x) hlk4
        have hy4 := isY_ok q1 (hγ4.fr c2.N) hlk4
        have hp4 := hγ4.hp
        rw [hh4, hth] at hp4
        have hH4 := (RR.push_out hp4).1
        refine WD_yld hB2 e0 (okG_ok hγ4 q4) ho hx4 hy4 hH4 htm hxs (nbeq.1 q3) hps hA hBd fun B3 _ l hB3 => ?_
        have hγ5 : GM P F.C (R.push ks1.nx f0) (yldS c2.N F.N (ps.toList.zip (args.map (tea t4.fr))) t4) ξ4 (ofK (yldK c2.N F.N (ps.toList.zip (args.map (ev (lkF ks4.fr)))) ks4)) := by
         refine GM.frame hγ4 .refl rfl (fun t' => ?_) hγ4.hp
         have hm : Mono t4 (yldS c2.N F.N (ps.toList.zip (args.map (tea t4.fr))) t4) ξ4 ξ4 := ⟨fun _ _ q => q, fun _ _ q => q, fun _ _ _ => .inr ⟨rfl, rfl⟩⟩
         refine foldT ps.toList (args.map (tea t4.fr)) (args.map (ev (lkF ks4.fr))) _ _ ((TL.tea hγ4 args).mono hm) (fun t' => ?_) t'
         rw [lkT_app, lkF_app]
         have hbase : ∀ {b1 b2 : Bool}, (b1 = false → lkT (reix (acx (c2.N + 1) F.N) t4.fr) t' = .un) → (b2 = false → lkF (reix (acx (c2.N + 1) F.N) ks4.fr) t' = .un) → True := fun _ _ => trivial
         by_cases ht : t' < F.N
         ·have hg1 : acx (c2.N + 1) F.N (t' + (c2.N + 1)) = some t' := acx_some.2 ⟨rfl, ht⟩
          have hno : ∀ s, upx F.N s ≠ some t' := fun s e => by simp only [upx, Option.some.injEq] at e; omega
          have e1 : (if memV (reix (acx (c2.N + 1) F.N) t4.fr) t' = true then lkT (reix (acx (c2.N + 1) F.N) t4.fr) t' else lkT (reix (upx F.N) t4.fr) t') = lkT t4.fr (t' + (c2.N + 1)) := by
           split
           ·exact lkT_reix (acx_inj _ _) hg1 _
           ·rename_i hm'
            rw [lkT_reix_no hno]
            exact (lkT_reix_mem (acx_inj _ _) hg1 _ (by simpa using hm')).symm
          have e2 : (if memI (reix (acx (c2.N + 1) F.N) ks4.fr) t' = true then lkF (reix (acx (c2.N + 1) F.N) ks4.fr) t' else lkF (reix (upx F.N) ks4.fr) t') = lkF ks4.fr (t' + (c2.N + 1)) := by
           split
           ·exact lkF_reix (acx_inj _ _) hg1 _
           ·rename_i hm'
            rw [lkF_reix_no hno]
            exact (lkF_reix_mem (acx_inj _ _) hg1 _ (by simpa using hm')).symm
          rw [e1, e2]
          exact (hγ4.fr _).mono hm
         ·have hno : ∀ s, acx (c2.N + 1) F.N s ≠ some t' := fun s e => ht (acx_some.1 e).2
          have hg1 : upx F.N (t' - F.N) = some t' := by simp only [upx, Option.some.injEq]; omega
          rw [memV_reix hno, memI_reix hno, if_neg (by simp), if_neg (by simp), lkT_reix (upx_inj _) hg1, lkF_reix (upx_inj _) hg1]
          exact (hγ4.fr _).mono hm
        refine WK_mono (ih2 (rY := 0) (F := { C := F.C, S := F.S, L := F.L, N := F.N, I := F.I, Y := none, rd := true }) hB3 rfl hS hL rfl hI (fun e => by cases e) (.inr hRm2) YOk.none aA _ _ ξ4 _ (show KOk (yldK c2.N F.N (ps.toList.zip (args.map (ev (lkF ks4.fr)))) ks4) from hk4) hγ5 (fun y e => by cases e) h4) fun e ks6 hq6 => ?_
        obtain ⟨hk6, t6, χ6, hγ6, hx6, hq6⟩ := hq6
        cases e with
        | x id' => exact hq6.elim
        | r => exact hq6.elim
        | n =>
          simp only [asgT] at hq6
          split at hq6
          case h_2 => exact hq6.elim
          rename_i _ _ h6 hy6 hh6
          have hp6 := hγ6.hp
          rw [hh6] at hp6
          have hlk6 := hx6 _ _ hlk4
          refine ⟨(RR.push_out hp6).1, isY_ok hy6 (hγ6.fr _) hlk6, ?_⟩
          have hγ7 : GM P F.C (R.push ks1.nx f0) (setS (.busy :: h6) t6) χ6 (ofK (setLK ks1.nx (f0 .busy) ks6)) :=
           GM.frame hγ6 .refl rfl (fun t' => TR.mono (ts := t6) (ts' := ⟨t6.fr, t6.od, t6.nw, t6.rg, .busy :: h6⟩) (χ := χ6) (χ' := χ6) ⟨fun _ _ q => q, fun _ _ q => q, fun _ _ _ => .inr ⟨rfl, rfl⟩⟩ (hγ6.fr t')) (RR.push_set (st' := .busy) hp6)
          refine WK_mono (ih3 (rY := 0) (F := { C := F.C, S := F.S, L := F.L, N := F.N, I := F.I, Y := none, rd := true }) hB3 rfl hS hL rfl hI (fun e => by cases e) (.inr hRm2) YOk.none aB _ _ χ6 _ (show KOk (setLK ks1.nx (f0 .busy) ks6) from hk6) hγ7 (fun y e => by cases e) hq6) fun e ks8 hq8 => ?_
          obtain ⟨hk8, t8, χ8, hγ8, hx8, hq8⟩ := hq8
          simp only [rndT] at hq8
          split at hq8
          case h_2 => exact hq8.elim
          rename_i _ _ h8 hy8 hh8
          have hp8 := hγ8.hp
          rw [hh8] at hp8
          have hlk8 := hx8 _ _ hlk6
          refine ⟨(RR.push_out hp8).1, isY_ok hy8 (hγ8.fr _) hlk8, ?_⟩
          have hext8 : ExtR t.rg t8.rg := (hext4.trans hx6).trans hx8
          have key : ∀ (st : RS) (b : Bool), X b (bkS F.N (st :: h8) t8) → WD P B2 c2.N none L (i + 1) Qd ((ofK (bkK F.N (setLK ks1.nx (f0 (lsR st)) ks8))).put o.dst (.bl b)) := fun st b hX =>
           k b (bkS F.N (st :: h8) t8) χ8 (bkK F.N (setLK ks1.nx (f0 (lsR st)) ks8)) (show GM P F.C (R.push ks1.nx f0) (bkS F.N (st :: h8) t8) χ8 (ofK ⟨reix (dnx F.N) ks8.fr, ks8.mem, fun o => if o = ks1.nx then some (f0 (lsR st)) else ks8.H o, ks8.nx⟩) from hbk F.N hγ8 rfl (RR.push_set (st' := st) hp8)) hk8 hext8 hX
          cases e with
          | n => exact key .rdy true hq8
          | r => exact key .ret false hq8
          | x i' => exact key (.ex i') false hq8
       ·rintro e ks9 ⟨hk9, t9, χ9, hγ9, hx9, hq9⟩
        have hlk9 : lkR t9.rg id = some (.yl ks1.nx) := hx9 _ _ (by show lkR ((id, .yl ks1.nx) :: ts1.rg) id = _; rw [lkR_cons, if_pos rfl])
        have hext9 : ExtR ts.rg t9.rg := ((tagT_ext τ ts).trans (by rw [← hrg]; exact hx1)).trans hx9
        have fin : ∀ e, (∀ i, e ≠ .x i) → rngT id c2.N Q e t9 → rngQ ks1.nx c2.N (Kq P F.C R ts.rg Q) e ks9 := by
         intro e he hq9
         have hq9 : (match isY id (lkT t9.fr c2.N), t9.h with
          | true, .rdy :: h => Q .n (dnS c2.N h t9)
          | true, .ret :: h => Q .r (dnS c2.N h t9)
          | true, .ex i :: h => Q (.x i) (dnS c2.N h t9)
          | _, _ => False) := by
          cases e with
          | x i => exact absurd rfl (he i)
          | n => exact hq9
          | r => exact hq9
         have goal : lkF ks9.fr c2.N = .yld ks1.nx ∧ ∃ j, lsOf (ks9.H ks1.nx) = some j ∧ (match j with
          | .busy => False
          | .ready => Kq P F.C R ts.rg Q .n (dnK ks1.nx c2.N ks9)
          | .ret => Kq P F.C R ts.rg Q .r (dnK ks1.nx c2.N ks9)
          | .exit id => Kq P F.C R ts.rg Q (.x id) (dnK ks1.nx c2.N ks9)) := by
          have hp9 := hγ9.hp
          have key : ∀ {st : RS} {h : List RS} {e' : AEx}, t9.h = st :: h → Q e' (dnS c2.N h t9) → lsOf (ks9.H ks1.nx) = some (lsR st) ∧ Kq P F.C R ts.rg Q e' (dnK ks1.nx c2.N ks9) := by
           intro st h e' hh hQ
           rw [hh] at hp9
           obtain ⟨a1, a2⟩ := RR.push_out hp9
           refine ⟨by rw [show ks9.H ks1.nx = _ from a1]; rfl, hk9, dnS c2.N h t9, χ9, hbk (c2.N + 1) hγ9 rfl a2, hext9, hQ⟩
          split at hq9
          ·rename_i h hy hh
           obtain ⟨a1, a2⟩ := key hh hq9
           exact ⟨isY_ok hy (hγ9.fr _) hlk9, _, a1, a2⟩
          ·rename_i h hy hh
           obtain ⟨a1, a2⟩ := key hh hq9
           exact ⟨isY_ok hy (hγ9.fr _) hlk9, _, a1, a2⟩
          ·rename_i i h hy hh
           obtain ⟨a1, a2⟩ := key hh hq9
           exact ⟨isY_ok hy (hγ9.fr _) hlk9, _, a1, a2⟩
          ·exact hq9.elim
         cases e with
         | x i => exact absurd rfl (he i)
         | n => exact goal
         | r => exact goal
        cases e with
        | x i => exact hq9.elim
        | n => exact fin .n (fun i e => by cases e) hq9
        | r => exact fin .r (fun i e => by cases e) hq9
   | _ => exact h.elim
end
theorem WK_post {c : ACode} {Q Q' : AEx → KS → Prop} {ks : KS} (h : WK P B N ro c Q ks) (hq : ∀ e ks, KOk ks → Q e ks → RE B N (toS ks) (Q' e)) : WK P B N ro c Q' ks := by
 have _ := (inferInstance : GB P B)
 intro x hx a G hR
 refine wpIn_mono (h x hx a G hR) ?_
 rintro e a' w' ⟨ks1, G1, h1, h2, h3⟩
 have go : ∀ e', Q e' ks1 → ∃ ks2 G2, RelK B N ks2 a' G2 ∧ G2.w = w' ∧ Q' e' ks2 := by
  intro e' h3
  obtain ⟨ks2, G2, k1, k2, k3⟩ := hq e' ks1 h1.2 h3 a' G1 h1.1
  exact ⟨ks2, G2, k2, by rw [k1, h2], k3⟩
 cases e with
 | normal => exact go .n h3
 | exit id => exact go (.x id) h3
 | ret => exact go .r h3
 | goto l => exact h3.elim
 | panic ch => exact h3.elim
 | outgrown => exact h3.elim
theorem resT_ok {ks : KS} (hk : KOk ks) (hγ : GM P C R ts χ (ofK ks)) {q : Nat × Option Nat} {u : TV K} (h : resT ts q = some u) : ∃ v, res1 (toS ks) q = some v ∧ TR P C ts χ u v := by
 have box : ∀ {t s c o e : Nat} {cs : List (TV K)}, (lkT ts.fr t).s = .px s c o → ts.tb s c = some (.box e cs) → ∃ kb : KB, (toS ks).fr t = .pt (.l s c) o ∧ tgt (toS ks) (.pt (.l s c) o) = some (kb.cells, o) ∧ TL P C ts χ cs kb.cells := by
  intro t s c o e cs e1 e2
  have ht := (hγ.fr t).s
  rw [e1] at ht
  obtain ⟨kb, h1, h2⟩ := hγ.mb s c _ e2 (hγ.box e2)
  refine ⟨kb, ht.pxi, ?_, h2.2.2.1, h2.2.2.2⟩
  have hz := (ofK_ok hk s c kb h1).1
  show ((toS ks).M (.l s c)).bind _ = _
  rw [← ofK_toD]
  show (((ofK ks).kb s c).map KB.blk).bind _ = _
  rw [h1]
  exact if_neg hz
 unfold resT at h
 split at h
 ·cases h; exact ⟨_, rfl, hγ.fr _⟩
 ·split at h
  ·rename_i s c o e1
   split at h
   ·rename_i e cs e2
    obtain ⟨kb, b1, b2, b3⟩ := box e1 e2
    obtain ⟨v, h1, h2⟩ := b3.at' h
    exact ⟨v, by simp only [res1, b1, b2, Option.bind_some]; exact h1, h2⟩
   ·cases h
  ·cases h
 ·rename_i t sz
  split at h
  ·rename_i s c o e1
   split at h
   ·rename_i e cs e2
    obtain ⟨kb, b1, b2, b3⟩ := box e1 e2
    obtain ⟨v, h1, h2⟩ := tldc_ok b3 h
    refine ⟨v, ?_, h2⟩
    simp only [res1, b1, b2, Option.bind_some]
    simp only [kld] at h1
    exact h1
   ·cases h
  ·cases h
theorem resTs_ok {ks : KS} (hk : KOk ks) (hγ : GM P C R ts χ (ofK ks)) : ∀ (l : List (Nat × Option Nat)) (us : List (TV K)), resTs ts l = some us → ∃ vs, resL (toS ks) l = some vs ∧ TL P C ts χ us vs
 | [], us, h => by cases h; exact ⟨[], rfl, .nil⟩
 | q :: l, us, h => by
   simp only [resTs] at h
   split at h
   ·rename_i v vs h1 h2
    cases h
    obtain ⟨a, a1, a2⟩ := resT_ok hk hγ h1
    obtain ⟨az, b1, b2⟩ := resTs_ok hk hγ l vs h2
    exact ⟨a :: az, by simp only [resL, a1, b1], .cons a2 b2⟩
   ·cases h
theorem outR_ok (hC : CxOk P C) : ∀ (rs : List Nat) (us : List (TV K)) (vs : List AV) (p : List (DV K) → Prop), outR C rs us p → TL P C ts χ us vs → ∃ xs, p xs ∧ noLs vs = true ∧ dwks vs = xs.map (dvA C)
 | [], [], vs, p, h, t => by
   have : vs = [] := List.eq_nil_of_length_eq_zero t.1
   subst this; exact ⟨[], h, rfl, rfl⟩
 | r :: rs, u :: us, vs, p, h, t => by
   cases vs with
   | nil => simp [TL] at t
   | cons v vs =>
     simp only [outR] at h
     split at h
     ·rename_i x e
      obtain ⟨xs, a1, a2, a3⟩ := outR_ok hC rs us vs _ h t.head.2
      obtain ⟨b1, b2, _⟩ := outV_ok hC e t.head.1
      exact ⟨.v r x :: xs, a1, by simp [noLs, b2, a2], by simp only [dwks, List.map_cons, a3, b1]; rfl⟩
     ·exact h.elim
 | [], _ :: _, _, _, h, _ => h.elim
 | _ :: _, [], _, _, h, _ => h.elim
theorem eqR_ok : ∀ {x r : List (DV K)}, eqR x r → x = r := by
 have one : ∀ {t t' : Nat} {x : K t} {y : K t'}, (if h : t = t' then h ▸ x = y else False) → (DV.v t x : DV K) = .v t' y := by
  intro t t' x y h
  split at h
  ·rename_i e; subst e; subst h; rfl
  ·exact h.elim
 intro x
 induction x with
 | nil => intro r h; cases r with | nil => rfl | cons => exact h.elim
 | cons a x ih =>
   intro r h
   cases r with
   | nil => cases a <;> first | exact h.elim | (cases x <;> exact h.elim)
   | cons b r =>
     cases a with
     | v t y =>
       cases b with
       | v t' z =>
         cases x with
         | nil =>
           cases r with
           | nil => rw [one h]
           | cons => cases ih h.2
         | cons c x =>
           have h' : (if h : t = t' then h ▸ y = z else False) ∧ eqR (c :: x) r := h
           rw [one h'.1, ih h'.2]
       | _ => cases x <;> cases r <;> exact h.elim
     | _ => cases b <;> cases x <;> cases r <;> exact h.elim
theorem retF_ok (hB : LentB B) (hC : CxOk P C) (res : List (Nat × Option Nat)) : ∀ (n : Nat) (ts : TS K), REk P C R B N ts (retF C res ts n)
 | 0, ts => .refl
 | n + 1, ts => by
   have _ := (inferInstance : GB P B)
   simp only [retF]
   split
   ·split
    ·exact .refl
    ·exact (fzA_ok hB hC 9 _ ts).trans (retF_ok hB hC res n _)
   ·exact .refl
theorem entT_ok (hC : CxOk P C) : ∀ (ps : List PD) (env : List (AD K)) (i : Nat), env.length = ps.length → (∀ F, AD.f F ∈ env → FOk P C F) → ∀ t, TR P C ts χ (lkT (entT C ps env i) t) (lkF (entF (pencs C ps env) i) t)
 | [], [], i, _, _, t => .un _
 | [], _ :: _, i, h, _, t => by simp at h
 | _ :: _, [], i, h, _, t => by simp at h
 | p :: ps, x :: env, i, h, hF, t => by
   have ih := entT_ok hC ps env (i + 1) (by simpa using h) (fun F hf => hF F (List.mem_cons_of_mem _ hf)) t
   have bad : TR P C ts χ (lkT ([] : List (Nat × TV K)) t) (lkF (entF (pencs C (p :: ps) (x :: env)) i) t) := .un _
   have cons : ∀ {u : TV K}, TR P C ts χ u (penc C p x) → TR P C ts χ (lkT ((i, u) :: entT C ps env (i + 1)) t) (lkF (entF (pencs C (p :: ps) (x :: env)) i) t) := by
    intro u hu
    show TR P C ts χ _ (lkF ((i, penc C p x) :: entF (pencs C ps env) (i + 1)) t)
    rw [lkT_put, lkF_cons]
    simp only
    split
    ·exact hu
    ·exact ih
   cases p with
   | v t' =>
     cases x with
     | d y =>
       cases y with
       | v t2 z =>
         simp only [entT]
         refine cons ?_
         split
         ·rename_i e; subst e; exact (inV_ok hC t2 z).1
         ·exact .un _
       | _ => exact bad
     | f F => exact bad
   | p t' =>
     cases x with
     | d y =>
       cases y with
       | v t2 z =>
         simp only [entT]
         refine cons ?_
         split
         ·rename_i e; subst e
          have : penc C (.p t2) (.d (.v t2 z)) = .ep ((C.E t2).c z) (0 * (C.E t2).sz + 0) := by simp [penc]
          rw [this]
          exact .ep t2 [z] 0 0 _ (by simp [cl, hC.dw])
         ·exact .un _
       | _ => exact bad
     | f F => exact bad
   | f az bs =>
     cases x with
     | d y => exact bad
     | f F =>
       simp only [entT]
       exact cons (.fv az bs F _ (hF F List.mem_cons_self) (hF F List.mem_cons_self).2.1)
theorem pencs_noL (hC : CxOk P C) : ∀ (ps : List PD) (env : List (AD K)), (∀ F, AD.f F ∈ env → FOk P C F) → noLs (pencs C ps env) = true
 | [], _, _ => by simp [pencs, noLs]
 | _ :: _, [], _ => by simp [pencs, noLs]
 | p :: ps, x :: env, hF => by
   have ih := pencs_noL hC ps env (fun F hf => hF F (List.mem_cons_of_mem _ hf))
   have dv : ∀ y : DV K, (dvA C y).noL = true := by
    intro y
    cases y with
    | v t z => exact (inV_ok (P := P) (ts := ⟨[], [], [], [], []⟩) (χ := fun _ _ => false) hC t z).2.1
    | _ => rfl
   simp only [pencs, noLs, ih, Bool.and_true]
   cases x with
   | f F => cases p <;> exact (hF F List.mem_cons_self).1
   | d y =>
     cases p with
     | p t' =>
       cases y with
       | v t2 z =>
         simp only [penc]
         split <;> rfl
       | _ => rfl
     | _ => exact dv y
theorem pencs_len (C : Cx K) : ∀ (ps : List PD) (env : List (AD K)), env.length = ps.length → (pencs C ps env).length = ps.length
 | [], [], _ => rfl
 | [], _ :: _, h => by simp at h
 | _ :: _, [], h => by simp at h
 | p :: ps, x :: env, h => by simp only [pencs, List.length_cons]; rw [pencs_len C ps env (by simpa using h)]
end
mutual
theorem hlt_dwk (m : Nat) : ∀ u : AV, hlt m (dwk u) = hlt m u
 | .agg cs => by simp only [dwk, hlt]; exact hlts_dwk m cs
 | .tup cs => by simp only [dwk, hlt]; exact hlts_dwk m cs
 | .fn f a c => by simp only [dwk, hlt, hlts_dwk m a, hlts_dwk m c]
 | .sl z n xs => by simp only [dwk, hlt]; exact hlts_dwk m xs
 | .ep xs off => by simp only [dwk, hlt]; exact hlts_dwk m xs
 | .gs k n => rfl
 | .pt k n => rfl
 | .bl b => rfl
 | .it k n => rfl
 | .st s => rfl
 | .nptr => rfl
 | .nfn => rfl
 | .un => rfl
 | .yld o => rfl
 | .rcd _ _ _ _ _ => rfl
theorem hlts_dwk (m : Nat) : ∀ l : List AV, hlts m (dwks l) = hlts m l
 | [] => rfl
 | u :: r => by simp only [dwks, hlts, hlt_dwk m u, hlts_dwk m r]
end
theorem hlt_tres {P : Program} {C : Cx K} (hC : CxOk P C) (r : List (DV K)) (m : Nat) : hlt m (tresA (r.map (dvA C))) = true := by
 have one : ∀ x : DV K, hlt m (dvA C x) = true := by
  intro x
  cases x with
  | v t y =>
    have h := hC.hl t y m
    show hlt m (match (C.T t).g with | true => .agg ((C.E t).c y) | false => ((C.E t).c y).headD .un) = true
    split
    ·simpa only [hlt] using h
    ·cases hq : (C.E t).c y with
     | nil => rfl
     | cons a b => rw [hq] at h; simp only [hlts, Bool.and_eq_true] at h; exact h.1
  | _ => rfl
 have all : ∀ l : List (DV K), hlts m (l.map (dvA C)) = true := by
  intro l
  induction l with
  | nil => rfl
  | cons x l ih => simp only [List.map_cons, hlts, one x, ih, Bool.and_self]
 match r with
 | [] => rfl
 | [x] => exact one x
 | x :: y :: l => have := all (x :: y :: l); simpa only [List.map_cons, tresA, hlt] using this
theorem DnF_ok {P : Program} {F : Cf K} (hC : CxOk P F.C) (hS : SsOk P F.C F.S) (hL : SLOk P F.C F.L) {f : FuncId} {c : AFn} (hF : trF P f = some c) {A : An K} {ps : List PD} {rs : List Nat} (hN : F.N = c.N) (hps : ps.length ≤ c.N) {env : List (AD K)} {r : List (DV K)} (hlen : env.length = ps.length) (hFs : ∀ G, AD.f G ∈ env → FOk P F.C G)
  (h : DnF F A c ps rs env r) (hI : IOk P F.I) (hY : F.Y = none) : Pure P f (pencs F.C ps env) (tresA (r.map (dvA F.C))) := by
 intro H n
 refine Contract.dwkR (Contract.shr (Post := fun av => dwk av = tresA (r.map (dvA F.C))) ?_ fun av hP m => by rw [← hlt_dwk, hP]; exact hlt_tres hC r m)
 refine contractK hF (by rw [pencs_len _ _ _ hlen]; exact hps) (pencs_noL hC ps env hFs) fun B _ hB => ?_
 let R : RR K := ⟨fun _ H' n' => H' = H ∧ n ≤ n', fun _ => false⟩
 let ks0 : KS := entK (pencs F.C ps env) H n
 let ts0 : TS K := ⟨entT F.C ps env 0, [], [], [], []⟩
 have hk0 : KOk ks0 := fun d b hb => by cases hb
 have hg0 : GM P F.C R ts0 (fun _ _ => false) (ofK ks0) := by
  refine ⟨fun t => entT_ok hC ps env 0 hlen hFs t, fun s c b hb _ => ?_, fun s c h => by (cases h), fun s _ => rfl, ⟨rfl, Nat.le_refl _⟩, fun s b _ hb => (by cases hb)⟩
  rcases tb_c hb with rfl | rfl <;> cases hb
 have hmain := Dn_ok hC A (ro := none) (R := R) (rY := 0) hB rfl hS hL hN hI (fun _ => rfl) (.inr fun _ _ _ _ q hm => ⟨q.1, Nat.le_trans q.2 hm⟩) (by rw [hY]; exact YOk.none) c.body _ ts0 _ ks0 hk0 hg0 (fun y e => by rw [hY] at e; cases e) h
 refine WK_post hmain fun e ks hk hq => ?_
 obtain ⟨_, ts, χ, hγ, _, hq⟩ := hq
 have fin : retD F.C c.res rs (fun x => eqR x r) .r ts → RE B c.N (toS ks) (retK c.res (fun av H' n' => dwk av = tresA (r.map (dvA F.C)) ∧ H' = H ∧ n ≤ n') .r) := by
  intro hq
  simp only [retD] at hq
  refine (retF_ok hB hC c.res 9 ts χ ks hk hγ).mono fun ks' ⟨hk', ξ, hγ'⟩ => ?_
  split at hq
  ·rename_i us hus
   obtain ⟨vs, h1, h2⟩ := resTs_ok hk' hγ' c.res us hus
   obtain ⟨xs, h3, h4, h5⟩ := outR_ok hC rs us vs _ hq h2
   have := eqR_ok h3
   subst this
   show wpv (resA (toS ks') c.res) _
   unfold resA
   rw [h1]
   have hA : ∀ (vs : List AV) (xs : List AV), noLs vs = true → dwks vs = xs → (match vs with | [u] => u | us => AV.tup us).noL = true ∧ dwk (match vs with | [u] => u | us => AV.tup us) = tresA xs := by
    intro vs xs hn hd
    match vs, hn, hd with
    | [], _, hd => subst hd; exact ⟨rfl, rfl⟩
    | [v], hn, hd => subst hd; exact ⟨by simpa [noLs] using hn, rfl⟩
    | v :: v' :: vs, hn, hd => subst hd; exact ⟨hn, rfl⟩
   obtain ⟨a1, a2⟩ := hA vs _ h4 h5
   exact ⟨a1, by rw [dwk_weak]; exact a2, hγ'.hp.1, hγ'.hp.2⟩
  ·exact hq.elim
 cases e with
 | x id => exact hq.elim
 | r => exact fin hq
 | n => exact fin hq
end Go.AV
end
noncomputable section
namespace Go.AV
open Go.RowKit Go.RG Go.Lib
variable {K : Nat → Type}
section
variable {P : Program} {C : Cx K} {ts : TS K} {χ : Nat → Nat → Bool}
theorem bT_BW {P : Program} {C : Cx K} {R : RR K} {ts : TS K} {χ : Nat → Nat → Bool} {ks : KS} (hk : KOk ks) (hγ : GM P C R ts χ (ofK ks)) {s : Nat} {b : TB K} (hb : lkB ts.od s = some b) (hx : χ s 1 = false) : BW (ks.M (.l s 1)) (some (bT C ts χ b)) := by
 obtain ⟨kb, h1, h2⟩ := hγ.mb s 1 b hb hx
 have h1' : lkO (someL ks.mem) s = some kb := h1
 rw [lkO_some] at h1'
 have : ks.M (.l s 1) = some kb.blk := by rw [M_l1, h1']; rfl
 rw [this]
 exact h2.canon (hk s kb h1').1
theorem TL_VWs {us : List (TV K)} {vs : List AV} (t : TL P C ts χ us vs) : VWs vs (aTs C ts χ us) := by
 refine ⟨by rw [aTs_map, List.length_map]; exact t.1, fun j u v p q => ?_⟩
 rw [aTs_map, List.getElem?_map] at q
 obtain ⟨x, e1, rfl⟩ := Option.map_eq_some_iff.1 q
 exact (t.2 j x u e1 p).canon
theorem tres_eq (vs : List AV) : (match vs with | [u] => u | us => AV.tup us) = tresA vs := by
 cases vs with
 | nil => rfl
 | cons a r => cases r <;> rfl
theorem VW_tres {vs ws : List AV} (h : VWs vs ws) : VW (tresA vs) (tresA ws) := by
 match vs, ws, h with
 | [], [], h => exact VW.tup h
 | [v], [w], h => exact h.2 0 v w rfl rfl
 | v :: v' :: r, w :: w' :: q, h => exact VW.tup h
 | [], _ :: _, h => simp [VWs] at h
 | _ :: _, [], h => simp [VWs] at h
 | [_], _ :: _ :: _, h => simp [VWs] at h
 | _ :: _ :: _, [_], h => simp [VWs] at h
def endS (C : Cx K) (t : TS K) (χ : Nat → Nat → Bool) (S : St) : St := { S with M := fun k => match k with
 | .h o => S.M (.h o)
 | .l d c => if c = 1 then (match lkB t.od d with
   | some b => if χ d 1 = true then S.M (.l d c) else some (bT C t χ b)
   | none => S.M (.l d c)) else S.M (.l d c) }
theorem BW.refl {S : St} {k : Key} (h : ∀ b, S.M k = some b → b.sz ≠ 0) : BW (S.M k) (S.M k) := by
 cases hb : S.M k with
 | none => trivial
 | some b => exact ⟨h b hb, rfl, rfl, rfl, fun j u v p q => by rw [p] at q; cases q; exact VW.refl _⟩
end
theorem DnL_ok {P : Program} {F : Cf K} (hC : CxOk P F.C) (hS : SsOk P F.C F.S) (hL : SLOk P F.C F.L) {f : FuncId} {c : AFn} (hF : trF P f = some c) {A : An K} {sp : Sl K} (hf : sp.f = f) (hN : F.N = c.N) (hres : c.res = sp.res) (hnp : npL sp ≤ c.N)
  {fs : List (FV K)} {env out : List (DV K)} (hE : okS sp env = true) (hfs : ∀ G ∈ fs, FOk P F.C G) (h : DnL F A c sp fs env out) (hI : F.I = []) (hY : F.Y = none) {χ : Nat → Nat → Bool} (hv : ViOk (entL F.C sp fs env) χ) (H : Hp) (n : Nat) :
  LContract P sp.f (argT F.C sp (entL F.C sp fs env) χ) (memT F.C (entL F.C sp fs env) χ) H n (EndL F.C sp (entL F.C sp fs env) χ out H n) := by
 subst hf
 let R : RR K := ⟨fun _ H' n' => H' = H ∧ n' = n, fun s => χ s 1⟩
 obtain ⟨g0, k0, m0⟩ := ent_ok (R := R) (H := H) (n := n) hC hE hfs hv ⟨rfl, rfl⟩ rfl
 have hal : (argT F.C sp (entL F.C sp fs env) χ).length ≤ c.N := by unfold argT; simpa using hnp
 have main := lcontractK (Post := fun av ks => ∃ ξ env' us vs, wt (ctT sp.to) env' = true ∧ GM P F.C R (bdT F.C sp.to [] [] env') ξ (ofK ks) ∧ kpt (entL F.C sp fs env) (bdT F.C sp.to [] [] env') sp.kp (eqDV (selL sp env') out) ∧
   resTs (bdT F.C sp.to [] [] env') sp.res = some us ∧ TL P F.C (bdT F.C sp.to [] [] env') ξ us vs ∧ av = tresA vs) hF hal m0 k0 fun B _ hB => by
  have hmain := Dn_ok hC A (ro := none) (R := R) (rY := 0) hB rfl hS hL hN (by rw [hI]; intro f c h; cases h) (fun _ => rfl) (.inl hI) (by rw [hY]; exact YOk.none) c.body _ _ χ _ k0 g0 (fun y e => by rw [hY] at e; cases e) h
  refine WK_post hmain fun e ks hk hq => ?_
  obtain ⟨_, ts, χ', hγ, hx, hq⟩ := hq
  have fin : rdJ F.C sp.to (frF F.C sp ts) (fun env' => match resTs (bdT F.C sp.to [] [] env') sp.res with | some _ => kpt (entL F.C sp fs env) (bdT F.C sp.to [] [] env') sp.kp (eqDV (selL sp env') out) | none => False) → RE B c.N (toS ks) (retLK c.res (fun av ks => ∃ ξ env' us vs, wt (ctT sp.to) env' = true ∧ GM P F.C R (bdT F.C sp.to [] [] env') ξ (ofK ks) ∧ kpt (entL F.C sp fs env) (bdT F.C sp.to [] [] env') sp.kp (eqDV (selL sp env') out) ∧
    resTs (bdT F.C sp.to [] [] env') sp.res = some us ∧ TL P F.C (bdT F.C sp.to [] [] env') ξ us vs ∧ av = tresA vs) .r) := by
   intro hq
   have hfr : REk P F.C R B c.N ts (frF F.C sp ts) := by
    unfold frF
    split
    ·exact retF_ok hB hC sp.res 9 ts
    ·exact .refl
   refine RE.bind (hfr χ' ks hk hγ) fun ks0 hk ⟨_, ξ0, hγ⟩ => ?_
   refine (rdJ_ok (rg := []) (hh := []) (fun _ _ h => h) hB hC hk hγ (fun id w q => by cases q) (rdJ_wt hq)).mono fun ks' ⟨env', ⟨h0, h1⟩, h2, ξ, h3⟩ => ?_
   cases hu : resTs (bdT F.C sp.to [] [] env') sp.res with
   | none => rw [hu] at h1; exact h1.elim
   | some us =>
     rw [hu] at h1
     obtain ⟨vs, r1, r2⟩ := resTs_ok h2 h3 c.res us (by rw [hres]; exact hu)
     show wpv (resA (toS ks') c.res) _
     unfold resA
     rw [r1]
     exact ⟨ξ, env', us, vs, h0, h3, h1, hu, r2, tres_eq vs⟩
  cases e with
  | x id => exact hq.elim
  | r => exact fin hq
  | n => exact fin hq
 rw [memK_T] at main
 refine main.canon ?_
 rintro av S1 ⟨ks, rfl, hk, ξ, env', us, vs, h0, h1, h2, hus, h4, rfl⟩
 refine ⟨_, endS F.C (bdT F.C sp.to [] [] env') ξ (toS ks), VW_tres (TL_VWs h4), rfl, rfl, fun o => rfl, fun d c' => ?_, env', ξ, h0, h2, h1.vi, fun s b q hb => (h1.lv s b q hb).symm, ⟨us, hus, rfl⟩, h1.hp.1, h1.hp.2, fun d => rfl, fun s b hb hx => ?_⟩
 ·have hz : ∀ b, (toS ks).M (.l d c') = some b → b.sz ≠ 0 := by
   intro b hb
   obtain ⟨rfl, kb, e1, rfl⟩ := M_lc ks hb
   exact (hk d kb e1).1
  show BW _ (if c' = 1 then _ else _)
  split
  ·rename_i e; subst e
   split
   ·rename_i b hb
    split
    ·exact BW.refl hz
    ·rename_i hx; exact bT_BW hk h1 hb (by simpa using hx)
   ·exact BW.refl hz
  ·exact BW.refl hz
 ·simp only [endS, hb, hx, Bool.false_eq_true, if_false, if_true]
theorem outC_inC {c : CT} {x : DV K} {y : CTy K c} (h : outC c x = some y) : x = inC c y := by
 cases c with
 | i => cases x <;> simp only [outC, outI] at h <;> cases h; rfl
 | b => cases x <;> simp only [outC, outBo] at h <;> cases h; rfl
 | s => cases x <;> simp only [outC, outS] at h <;> cases h; rfl
 | l e =>
   cases x with
   | l e' l =>
     simp only [outC, outL] at h
     obtain ⟨rfl, rfl⟩ := castL_out h
     rfl
   | _ => simp only [outC, outL] at h; cases h
 | v t =>
   cases x with
   | v t' x =>
     simp only [outC, outT] at h
     split at h
     ·rename_i e; subst e; cases h; rfl
     ·cases h
   | _ => simp only [outC, outT] at h; cases h
theorem apOut_n {f : Cur K Prop []} {out : List (DV K)} (h : apOut [] f out) : out = [] ∧ f := by
 cases out with
 | nil => exact ⟨rfl, h⟩
 | cons x r => exact h.elim
theorem apOut_c {c : CT} {co : List CT} {f : Cur K Prop (c :: co)} {out : List (DV K)} (h : apOut (c :: co) f out) : ∃ (y : CTy K c) (r : List (DV K)), out = inC c y :: r ∧ apOut co (f y) r := by
 cases out with
 | nil => exact h.elim
 | cons x r =>
   have h : (match outC c x with | some y => apOut co (f y) r | none => False) := h
   revert h
   cases e : outC c x with
   | none => exact fun h => h.elim
   | some y => exact fun h => ⟨y, r, by rw [outC_inC e], h⟩
theorem apIn_n {co : List CT} {f : Cur K (Cur K Prop co) []} {env out : List (DV K)} (h : apIn co [] f env out) : env = [] ∧ apOut co f out := by
 cases env with
 | nil => exact ⟨rfl, h⟩
 | cons x r => exact h.elim
theorem apIn_c {co : List CT} {c : CT} {ci : List CT} {f : Cur K (Cur K Prop co) (c :: ci)} {env out : List (DV K)} (h : apIn co (c :: ci) f env out) : ∃ (y : CTy K c) (r : List (DV K)), env = inC c y :: r ∧ apIn co ci (f y) r out := by
 cases env with
 | nil => exact h.elim
 | cons x r =>
   have h : (match outC c x with | some y => apIn co ci (f y) r out | none => False) := h
   revert h
   cases e : outC c x with
   | none => exact fun h => h.elim
   | some y => exact fun h => ⟨y, r, by rw [outC_inC e], h⟩
theorem apFs_n {ci co : List CT} {f : FsTy K (Cur K (Cur K Prop co) ci) []} {fs : List (FV K)} {env out : List (DV K)} (h : apFs ci co [] f fs env out) : fs = [] ∧ apIn co ci f env out := by
 cases fs with
 | nil => exact ⟨rfl, h⟩
 | cons x r => exact h.elim
def SlC (P : Program) (C : Cx K) (sp : Sl K) (fs : List (FV K)) (env out : List (DV K)) : Prop := ∀ χ, ViOk (entL C sp fs env) χ → ∀ H n, LContract P sp.f (argT C sp (entL C sp fs env) χ) (memT C (entL C sp fs env) χ) H n (EndL C sp (entL C sp fs env) χ out H n)
theorem DnL_by {P : Program} {F : Cf K} (hC : CxOk P F.C) (hS : SsOk P F.C F.S) (hL : SLOk P F.C F.L) {f : FuncId} {c : AFn} (hF : trF P f = some c) {A : An K} {sp : Sl K} (hf : sp.f = f) (hN : F.N = c.N) (hres : c.res = sp.res) (hnp : npL sp ≤ c.N)
  {fs : List (FV K)} {env out : List (DV K)} (hE : okS sp env = true) (hfs : ∀ G ∈ fs, FOk P F.C G) {X : Prop} (h : X) (e : X = DnL F A c sp fs env out) (hI : F.I = [] := by rfl) (hY : F.Y = none := by rfl) : SlC P F.C sp fs env out := fun χ hv H n => DnL_ok hC hS hL hF hf hN hres hnp hE hfs (e ▸ h) hI hY hv H n
theorem SLOk_n {P : Program} {C : Cx K} : SLOk P C [] := fun sp h => by cases h
theorem SLOk_c {P : Program} {C : Cx K} {sp : Sl K} {l : List (Sl K)} (h : SlOk P C sp) (k : SLOk P C l) : SLOk P C (sp :: l) := fun q hq => by
 rcases List.mem_cons.1 hq with rfl | hq
 ·exact h
 ·exact k q hq
end Go.AV
end
noncomputable section
namespace Go.AV
open Go.RowKit Go.RG Go.Lib
variable {K : Nat → Type}
theorem cnd_mono {c : Bool} {a b a' b' : Prop} (h : cnd c a b) (ha : a → a') (hb : b → b') : cnd c a' b' := ⟨fun e => ha (h.1 e), fun e => hb (h.2 e)⟩
structure Tb (K : Nat → Type) (X : Type) where
 g : Bool
 c : X → List (TV K)
 rd : List (TV K) → Option X
 tb : Option (X → UInt8)
 ob : Option (UInt8 → X)
 fl : Bool
 E : Enc X
structure TbOk (P : Program) (C : Cx K) {X : Type} (b : Tb K X) : Prop where
 c : ∀ (x : X) ts χ, ((b.E).c x).length = (b.c x).length ∧ ∀ (j : Nat) (u : TV K) (v : AV), (b.c x)[j]? = some u → (b.E.c x)[j]? = some v → TR P C ts χ u v
 rd : ∀ (cs : List (TV K)) (x : X) ts χ (vs : List AV), b.rd cs = some x → vs.length = cs.length → (∀ (j : Nat) (u : TV K) (v : AV), cs[j]? = some u → vs[j]? = some v → TR P C ts χ u v) → dwks vs = b.E.c x
 g : b.g = false → b.E.sz = 1
 dw : ∀ x : X, dwks (b.E.c x) = b.E.c x
 tb : ∀ f, b.tb = some f → ∀ x, ∃ n, b.E.c x = [.it .u8 n] ∧ f x = UInt8.ofNat n.toNat
 ob : ∀ f, b.ob = some f → ∀ y : UInt8, b.E.c (f y) = [.it .u8 y.toNat]
 fl : b.fl = true → ∀ x : X, flats (b.E.c x) = true
 nr : ∀ x, norefVs (b.c x) = true
 hl : ∀ x m, hlts m (b.E.c x) = true
def tbI (k : IntKind) : Tb K Int := ⟨false, fun n => [.it k n], fun cs => match cs with
 | [u] => match tint u with
   | some (k', n) => if k' = k then some n else none
   | none => none
 | _ => none, (match k with | .u8 => some toB | _ => none), (match k with | .u8 => some ofB | _ => none), true, eI k⟩
def tbB : Tb K Bool := ⟨false, fun b => [.bl b], fun cs => match cs with
 | [u] => tbo u
 | _ => none, none, none, true, eB⟩
def tbL (e : Nat) (E : Enc (K e)) : Tb K (List (K e)) := ⟨false, fun l => [.sl e l], fun cs => match cs with
 | [.sl e' l] => castL e' e l
 | [.nil] => some []
 | [.em] => some []
 | _ => none, none, none, false, eSl E⟩
def tbCat {A B : Type} (a : Tb K A) (b : Tb K B) : Tb K (A × B) := ⟨true, fun x => a.c x.1 ++ b.c x.2, fun cs => match a.rd (cs.take a.E.sz), b.rd (cs.drop a.E.sz) with
 | some x, some y => some (x, y)
 | _, _ => none, none, none, a.fl && b.fl, ⟨fun x => a.E.c x.1 ++ b.E.c x.2, a.E.sz + b.E.sz, by have := a.E.pos; omega, fun x => by rw [List.length_append, a.E.len, b.E.len], fun x => by rw [noLs_app, a.E.no, b.E.no]; rfl, fun x => by rw [List.all_append, a.E.one, b.E.one]; rfl⟩⟩
def tbIso {A X : Type} (a : Tb K A) (f : X → A) (g : A → X) (E : Enc X) : Tb K X := ⟨true, fun x => a.c (f x), fun cs => match a.rd cs with
 | some y => some (g y)
 | none => none, none, none, a.fl, E⟩
def encIso {A X : Type} (a : Enc A) (f : X → A) : Enc X := ⟨fun x => a.c (f x), a.sz, a.pos, fun x => a.len _, fun x => a.no _, fun x => a.one _⟩
def tbU : Tb K Unit := ⟨false, fun _ => [.lb true], fun _ => none, none, none, false, ⟨fun _ => [.bl true], 1, by omega, fun _ => rfl, fun _ => rfl, fun _ => rfl⟩⟩
theorem hlts_app (m : Nat) (a b : List AV) : hlts m (a ++ b) = (hlts m a && hlts m b) := by
 induction a with
 | nil => simp [hlts]
 | cons x a ih => simp [hlts, ih, Bool.and_assoc]
theorem cl_hl {T : Type} {E : Enc T} (h : ∀ x m, hlts m (E.c x) = true) (l : List T) (m : Nat) : hlts m (cl E l) = true := by
 induction l with
 | nil => rfl
 | cons x l ih => show hlts m (E.c x ++ cl E l) = true; rw [hlts_app, h, ih]; rfl
theorem eSl_hl {T : Type} {E : Enc T} (h : ∀ x m, hlts m (E.c x) = true) : ∀ l m, hlts m ((eSl E).c l) = true := fun l m => by
 show hlts m [slA E l] = true
 simp only [hlts, slA, hlt, cl_hl h, Bool.and_true]
section
variable {P : Program} {C : Cx K}
theorem at1 {α : Type} {x u : α} {j : Nat} (h : [x][j]? = some u) : j = 0 ∧ u = x := by
 cases j with
 | zero => simp at h; exact ⟨rfl, h.symm⟩
 | succ j => simp at h
theorem len1 {α : Type} {l : List α} (h : l.length = 1) : ∃ x, l = [x] := by
 match l, h with
 | [x], _ => exact ⟨x, rfl⟩
theorem tbI_ok (k : IntKind) : TbOk P C (tbI k : Tb K Int) := by
 refine ⟨fun x ts χ => ⟨rfl, fun j u v hu hv => ?_⟩, fun cs x ts χ vs h hl ht => ?_, fun _ => rfl, fun _ => rfl, fun f hf x => ?_, fun f hf x => ?_, fun _ _ => rfl, fun _ => rfl, fun _ _ => rfl⟩
 ·obtain ⟨rfl, rfl⟩ := at1 hu; obtain ⟨_, rfl⟩ := at1 hv; exact .it k x
 ·simp only [tbI] at h
  split at h
  ·rename_i u
   obtain ⟨v, rfl⟩ := len1 hl
   split at h
   ·rename_i k' n hn
    split at h
    ·rename_i e; cases h; subst e; rw [TR.int (ht 0 _ _ rfl rfl) hn]; rfl
    ·cases h
   ·cases h
  ·cases h
 ·cases k <;> simp [tbI] at hf; subst hf; exact ⟨x, rfl, rfl⟩
 ·cases k <;> simp [tbI] at hf; subst hf; rfl
theorem tbB_ok : TbOk P C (tbB : Tb K Bool) := by
 refine ⟨fun x ts χ => ⟨rfl, fun j u v hu hv => ?_⟩, fun cs x ts χ vs h hl ht => ?_, fun _ => rfl, fun _ => rfl, fun f hf x => (by cases hf), fun f hf x => (by cases hf), fun _ _ => rfl, fun _ => rfl, fun _ _ => rfl⟩
 ·obtain ⟨rfl, rfl⟩ := at1 hu; obtain ⟨_, rfl⟩ := at1 hv; exact .bl x
 ·simp only [tbB] at h
  split at h
  ·obtain ⟨v, rfl⟩ := len1 hl; rw [TR.bool (ht 0 _ _ rfl rfl) h]; rfl
  ·cases h
theorem cl_dw {T : Type} {E : Enc T} (h : ∀ x, dwks (E.c x) = E.c x) (l : List T) : dwks (cl E l) = cl E l := by
 induction l with
 | nil => rfl
 | cons x l ih => show dwks (E.c x ++ cl E l) = E.c x ++ cl E l; rw [dwks_app, h, ih]
theorem tbL_ok (e : Nat) {E : Enc (K e)} (hE : C.E e = E) (hd : ∀ x, dwks (E.c x) = E.c x) (hh : ∀ x m, hlts m (E.c x) = true) : TbOk P C (tbL e E) := by
 refine ⟨fun x ts χ => ⟨rfl, fun j u v hu hv => ?_⟩, fun cs x ts χ vs h hl ht => ?_, fun _ => rfl, fun x => ?_, fun f hf x => (by cases hf), fun f hf x => (by cases hf), fun h => (by cases h), fun _ => rfl, fun x m => eSl_hl hh x m⟩
 ·obtain ⟨rfl, rfl⟩ := at1 hu; obtain ⟨_, rfl⟩ := at1 hv; exact .sl e x false _ _ rfl (by rw [hE]; exact cl_dw hd x)
 ·simp only [tbL] at h
  split at h
  ·obtain ⟨v, rfl⟩ := len1 hl
   obtain ⟨rfl, h⟩ := castL_out h
   obtain ⟨z, xs, h1, rfl⟩ := (ht 0 _ _ rfl rfl).sli
   subst h
   show [dwk (AV.sl z _ xs)] = _
   simp only [dwk, h1, hE]; rfl
  ·obtain ⟨v, rfl⟩ := len1 hl; cases h
   have := ht 0 _ _ rfl rfl
   cases this; rfl
  ·obtain ⟨v, rfl⟩ := len1 hl; cases h
   have := ht 0 _ _ rfl rfl
   cases this; rfl
  ·cases h
 ·show [dwk (slA E x)] = [slA E x]
  simp only [slA, dwk, cl_dw hd]
theorem flats_app (a b : List AV) : flats (a ++ b) = (flats a && flats b) := by
 induction a with
 | nil => simp [flats]
 | cons x a ih => simp [flats, ih, Bool.and_assoc]
theorem norefVs_app (a b : List (TV K)) : norefVs (a ++ b) = (norefVs a && norefVs b) := by
 induction a with
 | nil => simp [norefVs]
 | cons x a ih => simp [norefVs, ih, Bool.and_assoc]
theorem tbCat_ok {A B : Type} {a : Tb K A} {b : Tb K B} (ha : TbOk P C a) (hb : TbOk P C b) : TbOk P C (tbCat a b) := by
 refine ⟨fun x ts χ => ?_, fun cs x ts χ vs h hl ht => ?_, fun h => (by cases h), fun x => ?_, fun f hf x => (by cases hf), fun f hf x => (by cases hf), fun h x => ?_, fun x => ?_, fun x m => by show hlts m (a.E.c x.1 ++ b.E.c x.2) = true; rw [hlts_app, ha.hl, hb.hl]; rfl⟩
 ·exact TL.app (ts := ts) (χ := χ) (P := P) (C := C) (us := a.c x.1) (us' := b.c x.2) (vs := a.E.c x.1) (vs' := b.E.c x.2) (ha.c x.1 ts χ) (hb.c x.2 ts χ)
 ·simp only [tbCat] at h
  split at h
  ·rename_i x1 y1 h1 h2
   cases h
   have t : TL P C ts χ cs vs := ⟨hl, ht⟩
   have e1 := ha.rd _ _ ts χ _ h1 (t.take a.E.sz).1 (t.take a.E.sz).2
   have e2 := hb.rd _ _ ts χ _ h2 (t.drop a.E.sz).1 (t.drop a.E.sz).2
   show dwks vs = a.E.c x1 ++ b.E.c y1
   rw [← e1, ← e2, ← dwks_app, List.take_append_drop]
  ·cases h
 ·show dwks (a.E.c x.1 ++ b.E.c x.2) = _; rw [dwks_app, ha.dw, hb.dw]; rfl
 ·have h' : (a.fl && b.fl) = true := h
  rw [Bool.and_eq_true] at h'
  show flats (a.E.c x.1 ++ b.E.c x.2) = true
  rw [flats_app, ha.fl h'.1, hb.fl h'.2]; rfl
 ·show norefVs (a.c x.1 ++ b.c x.2) = true; rw [norefVs_app, ha.nr, hb.nr]; rfl
theorem tbIso_ok {A X : Type} {a : Tb K A} {f : X → A} {g : A → X} {E : Enc X} (ha : TbOk P C a) (hfg : ∀ y, f (g y) = y) (hE : ∀ x, E.c x = a.E.c (f x)) : TbOk P C (tbIso a f g E) := by
 refine ⟨fun x ts χ => ?_, fun cs x ts χ vs h hl ht => ?_, fun h => (by cases h), fun x => ?_, fun f hf x => (by cases hf), fun f hf x => (by cases hf), fun h x => ?_, fun x => ha.nr (f x), fun x m => by show hlts m (E.c x) = true; rw [hE]; exact ha.hl _ m⟩
 ·have := ha.c (f x) ts χ; rw [← hE] at this; exact this
 ·simp only [tbIso] at h
  split at h
  ·rename_i y hy; cases h; show dwks vs = E.c (g y); rw [hE, hfg]; exact ha.rd _ _ ts χ _ hy hl ht
  ·cases h
 ·show dwks (E.c x) = E.c x; rw [hE]; exact ha.dw _
 ·show flats (E.c x) = true; rw [hE]; exact ha.fl h _
theorem tbU_ok : TbOk P C (tbU : Tb K Unit) := by
 refine ⟨fun x ts χ => ⟨rfl, fun j u v hu hv => ?_⟩, fun cs x ts χ vs h hl ht => (by cases h), fun _ => rfl, fun _ => rfl, fun f hf x => (by cases hf), fun f hf x => (by cases hf), fun h => (by cases h), fun _ => rfl, fun _ _ => rfl⟩
 obtain ⟨rfl, rfl⟩ := at1 hu; obtain ⟨_, rfl⟩ := at1 hv; exact .lb true
end
section
variable {TC : Type} {KF : TC → Type} {code : Nat → TC}
def cxOf (TF : (c : TC) → Tb (fun t => KF (code t)) (KF c)) : Cx (fun t => KF (code t)) :=
 ⟨fun t => ⟨(TF (code t)).g, (TF (code t)).c, (TF (code t)).rd, (TF (code t)).tb, (TF (code t)).ob, (TF (code t)).fl⟩, fun t => (TF (code t)).E⟩
theorem cxOf_ok {P : Program} {TF : (c : TC) → Tb (fun t => KF (code t)) (KF c)} (h : ∀ c, TbOk P (cxOf TF) (TF c)) : CxOk P (cxOf TF) :=
 ⟨fun t x ts χ => (h (code t)).c x ts χ, fun t cs x ts χ vs a b c => (h (code t)).rd cs x ts χ vs a b c, fun t e => (h (code t)).g e, fun t x => (h (code t)).dw x, fun t f e => (h (code t)).tb f e, fun t f e => (h (code t)).ob f e, fun t e => (h (code t)).fl e, fun t x => (h (code t)).nr x, fun t => (h _).hl⟩
def lkC (d : TC) : List (Nat × TC) → Nat → TC
 | [], _ => d
 | p :: r, t => match Nat.beq p.1 t with
   | true => p.2
   | false => lkC d r t
end
theorem appW_v {rs : List Nat} {p : Nat} {ps : List PD} {w : WTy K rs (.v p :: ps)} {a : List (AD K)} {b : List (DV K)} (h : appW rs (.v p :: ps) w a b) : ∃ (x : K p) (a' : List (AD K)), a = .d (.v p x) :: a' ∧ appW rs ps (w x) a' b := by
 cases a with
 | nil => exact h.elim
 | cons u a' =>
   simp only [appW] at h
   split at h
   ·rename_i y hy
    cases u with
    | f F => simp [outP] at hy
    | d x =>
      cases x with
      | v t x =>
        simp only [outP] at hy
        split at hy
        ·rename_i e; subst e; cases hy; exact ⟨x, a', rfl, h⟩
        ·cases hy
      | _ => simp [outP] at hy
   ·exact h.elim
theorem appW_p {rs : List Nat} {p : Nat} {ps : List PD} {w : WTy K rs (.p p :: ps)} {a : List (AD K)} {b : List (DV K)} (h : appW rs (.p p :: ps) w a b) : ∃ (x : K p) (a' : List (AD K)), a = .d (.v p x) :: a' ∧ appW rs ps (w x) a' b := by
 cases a with
 | nil => exact h.elim
 | cons u a' =>
   simp only [appW] at h
   split at h
   ·rename_i y hy
    cases u with
    | f F => simp [outP] at hy
    | d x =>
      cases x with
      | v t x =>
        simp only [outP] at hy
        split at hy
        ·rename_i e; subst e; cases hy; exact ⟨x, a', rfl, h⟩
        ·cases hy
      | _ => simp [outP] at hy
   ·exact h.elim
theorem appW_f {rs az bs : List Nat} {ps : List PD} {w : WTy K rs (.f az bs :: ps)} {a : List (AD K)} {b : List (DV K)} (h : appW rs (.f az bs :: ps) w a b) : ∃ (F : FV K) (a' : List (AD K)), a = .f F :: a' ∧ appW rs ps (w (curF bs az F.W)) a' b := by
 cases a with
 | nil => exact h.elim
 | cons u a' =>
   simp only [appW] at h
   split at h
   ·rename_i y hy
    cases u with
    | f F => simp only [outP] at hy; cases hy; exact ⟨F, a', rfl, h⟩
    | d x => cases x <;> simp [outP] at hy
   ·exact h.elim
theorem appW_n {rs : List Nat} {w : WTy K rs []} {a : List (AD K)} {b : List (DV K)} (h : appW rs [] w a b) : a = [] ∧ apR rs w b := by
 cases a with
 | nil => exact ⟨rfl, h⟩
 | cons u a' => exact h.elim
theorem apR_v {r : Nat} {rs : List Nat} {w : RTy K (r :: rs)} {b : List (DV K)} (h : apR (r :: rs) w b) : ∃ (x : K r) (b' : List (DV K)), b = .v r x :: b' ∧ apR rs (w x) b' := by
 cases b with
 | nil => exact h.elim
 | cons u b' =>
   cases u with
   | v t x =>
     have h' : (if e : t = r then apR rs (w (e ▸ x)) b' else False) := h
     by_cases e : t = r
     ·subst e; rw [dif_pos rfl] at h'; exact ⟨x, b', rfl, h'⟩
     ·rw [dif_neg e] at h'; exact h'.elim
   | _ => exact h.elim
theorem apR_n {w : RTy K []} {b : List (DV K)} (h : apR [] w b) : b = [] ∧ w := by
 cases b with
 | nil => exact ⟨rfl, h⟩
 | cons u b' => exact h.elim
theorem IOk_n {P : Program} : IOk P [] := fun f c h => by cases h
theorem IOk_c {P : Program} {f : Nat} {c : AFn} {l : List (Nat × AFn)} (h : trF P f = some c) (k : IOk P l) : IOk P ((f, c) :: l) := fun g d e => by
 simp only [lkI] at e
 split at e
 ·rename_i q; rw [← nbeq.1 q]; cases e; exact h
 ·exact k g d e
def huR : (rs : List Nat) → RTy K rs → (List (DV K) → Prop) → Prop
 | [], w, D => @Eq Prop w (D [])
 | r :: rs, w, D => ∀ x : K r, huR rs (w x) fun b => D (.v r x :: b)
def huW (rs : List Nat) : (ps : List PD) → WTy K rs ps → (List (AD K) → List (DV K) → Prop) → Prop
 | [], w, D => huR rs w (D [])
 | .v p :: ps, w, D => ∀ x : K p, huW rs ps (w x) fun a => D (.d (.v p x) :: a)
 | .p p :: ps, w, D => ∀ x : K p, huW rs ps (w x) fun a => D (.d (.v p x) :: a)
 | .f az bs :: ps, w, D => ∀ F : FV K, huW rs ps (w (curF bs az F.W)) fun a => D (.f F :: a)
theorem huR_ok : ∀ {rs : List Nat} {w : RTy K rs} {D : List (DV K) → Prop} {b : List (DV K)}, huR rs w D → apR rs w b → D b
 | [], w, D, b, e, h => by
   obtain ⟨rfl, h⟩ := apR_n h
   have e : @Eq Prop w (D []) := e
   exact e ▸ h
 | r :: rs, w, D, b, e, h => by
   obtain ⟨x, b', rfl, k⟩ := apR_v h
   exact huR_ok (rs := rs) (w := w x) (D := fun b => D (.v r x :: b)) (e x) k
theorem huW_ok {rs : List Nat} : ∀ {ps : List PD} {w : WTy K rs ps} {D : List (AD K) → List (DV K) → Prop} {a : List (AD K)} {b : List (DV K)}, huW rs ps w D → appW rs ps w a b → a.length = ps.length ∧ D a b
 | [], w, D, a, b, e, h => by
   obtain ⟨rfl, h⟩ := appW_n h
   exact ⟨rfl, huR_ok (w := w) e h⟩
 | .v p :: ps, w, D, a, b, e, h => by
   obtain ⟨x, a', rfl, k⟩ := appW_v h
   obtain ⟨h1, h2⟩ := huW_ok (ps := ps) (w := w x) (D := fun a => D (.d (.v p x) :: a)) (e x) k
   exact ⟨by simp [h1], h2⟩
 | .p p :: ps, w, D, a, b, e, h => by
   obtain ⟨x, a', rfl, k⟩ := appW_p h
   obtain ⟨h1, h2⟩ := huW_ok (ps := ps) (w := w x) (D := fun a => D (.d (.v p x) :: a)) (e x) k
   exact ⟨by simp [h1], h2⟩
 | .f az bs :: ps, w, D, a, b, e, h => by
   obtain ⟨F, a', rfl, k⟩ := appW_f h
   obtain ⟨h1, h2⟩ := huW_ok (ps := ps) (w := w (curF bs az F.W)) (D := fun a => D (.f F :: a)) (e F) k
   exact ⟨by simp [h1], h2⟩
theorem SpOk_by {P : Program} {F : Cf K} (hC : CxOk P F.C) (hS : SsOk P F.C F.S) (hL : SLOk P F.C F.L) {f : FuncId} {c : AFn} (hF : trF P f = some c) {A : An K} {ps : List PD} {rs : List Nat} {w : WTy K rs ps} (hN : F.N = c.N) (hps : Nat.ble ps.length c.N = true) (e : huW rs ps w (DnF F A c ps rs)) (hI : IOk P F.I := by exact IOk_n) (hY : F.Y = none := by rfl) : SpOk P F.C ⟨f, ps, rs, appW rs ps w⟩ := fun env r hFs h => by
 obtain ⟨h1, h2⟩ := huW_ok e h
 exact ⟨h1, DnF_ok hC hS hL hF hN (Nat.le_of_ble_eq_true hps) h1 hFs h2 hI hY⟩
theorem SsOk_n {P : Program} {C : Cx K} : SsOk P C [] := fun sp h => by cases h
theorem SsOk_c {P : Program} {C : Cx K} {sp : Sp K} {l : List (Sp K)} (h : SpOk P C sp) (k : SsOk P C l) : SsOk P C (sp :: l) := fun q hq => by
 rcases List.mem_cons.1 hq with rfl | hq
 ·exact h
 ·exact k q hq
end Go.AV
end
noncomputable section
namespace Go.Proofs.Ytnlhnefjjblpcab
open Go.AV
def c3 : AFn := cF Try.prog 3
theorem t3 : trF Try.prog 3 = some c3 := tF (by kernel_rfl)
def c4 : AFn := cF Try.prog 4
theorem t4 : trF Try.prog 4 = some c4 := tF (by kernel_rfl)
def c5 : AFn := cF Try.prog 5
theorem t5 : trF Try.prog 5 = some c5 := tF (by kernel_rfl)
def c6 : AFn := cF Try.prog 6
theorem t6 : trF Try.prog 6 = some c6 := tF (by kernel_rfl)
def c7 : AFn := cF Try.prog 7
theorem t7 : trF Try.prog 7 = some c7 := tF (by kernel_rfl)
def c8 : AFn := cF Try.prog 8
theorem t8 : trF Try.prog 8 = some c8 := tF (by kernel_rfl)
def c9 : AFn := cF Try.prog 9
theorem t9 : trF Try.prog 9 = some c9 := tF (by kernel_rfl)
def c10 : AFn := cF Try.prog 10
theorem t10 : trF Try.prog 10 = some c10 := tF (by kernel_rfl)
def c12 : AFn := cF Try.prog 12
def c15 : AFn := cF Try.prog 15
theorem t15 : trF Try.prog 15 = some c15 := tF (by kernel_rfl)
def c17 : AFn := cF Try.prog 17
theorem t17 : trF Try.prog 17 = some c17 := tF (by kernel_rfl)
def c18 : AFn := cF Try.prog 18
theorem t18 : trF Try.prog 18 = some c18 := tF (by kernel_rfl)
def c19 : AFn := cF Try.prog 19
theorem t19 : trF Try.prog 19 = some c19 := tF (by kernel_rfl)
def c20 : AFn := cF Try.prog 20
theorem t20 : trF Try.prog 20 = some c20 := tF (by kernel_rfl)
def c21 : AFn := cF Try.prog 21
theorem t21 : trF Try.prog 21 = some c21 := tF (by kernel_rfl)
def c22 : AFn := cF Try.prog 22
theorem t22 : trF Try.prog 22 = some c22 := tF (by kernel_rfl)
def c23 : AFn := cF Try.prog 23
theorem t23 : trF Try.prog 23 = some c23 := tF (by kernel_rfl)
def c24 : AFn := cF Try.prog 24
theorem t24 : trF Try.prog 24 = some c24 := tF (by kernel_rfl)
def c28 : AFn := cF Try.prog 28
theorem t28 : trF Try.prog 28 = some c28 := tF (by kernel_rfl)
def c29 : AFn := cF Try.prog 29
theorem t29 : trF Try.prog 29 = some c29 := tF (by kernel_rfl)
def c30 : AFn := cF Try.prog 30
theorem t30 : trF Try.prog 30 = some c30 := tF (by kernel_rfl)
end Go.Proofs.Ytnlhnefjjblpcab
end
noncomputable section
namespace Go.Proofs.Ytnlhnefjjblpcab
open Go.AV Go.RowKit
set_option maxRecDepth 100000
structure T_order_stamp where
 label : Int
 next : Int
 prev : Int
structure T_arena_slot where
 x : T_order_stamp
 used : Bool
structure T_law02_Act where
 What : Int
 A : Int
 B : Int
structure T_ref01_Arena where
 Room : Int
 Things : (List Int)
 Used : (List Bool)
 Freed : (List Int)
structure T_ref02_List where
 Order : (List Int)
 Numbers : T_ref01_Arena
inductive TC where
 | c0
 | c3
 | c4
 | c22
 | c23
 | c34
 | c35
 | c37
 | c39
 | c42
 | c52
 | c54
 | c72
def KF : TC → Type
 | .c0 => Unit
 | .c3 => Int
 | .c4 => Bool
 | .c22 => Int
 | .c23 => (List Bool)
 | .c34 => (List T_law02_Act)
 | .c35 => (List Int)
 | .c37 => T_ref01_Arena
 | .c39 => T_ref02_List
 | .c42 => T_law02_Act
 | .c52 => Int
 | .c54 => T_order_stamp
 | .c72 => T_arena_slot
def codes : List (Nat × TC) := [(3, .c3), (4, .c4), (22, .c22), (23, .c23), (34, .c34), (35, .c35), (37, .c37), (39, .c39), (42, .c42), (52, .c52), (54, .c54), (72, .c72)]
def code (t : Nat) : TC := lkC .c0 codes t
abbrev KK (t : Nat) : Type := KF (code t)
def e_law02_Act : Enc T_law02_Act := encIso ((tbCat (tbI .i64) (tbCat (tbI .i64) (tbI .i64))) : Tb KK _).E (fun x : T_law02_Act => (x.What, x.A, x.B))
def b42 : Tb KK T_law02_Act := tbIso (tbCat (tbI .i64) (tbCat (tbI .i64) (tbI .i64))) (fun x : T_law02_Act => (x.What, x.A, x.B)) (fun y => (⟨y.1, y.2.1, y.2.2⟩ : T_law02_Act)) e_law02_Act
def e_ref01_Arena : Enc T_ref01_Arena := encIso ((tbCat (tbI .i64) (tbCat (tbL 3 (eI .i64) : Tb KK (List Int)) (tbCat (tbL 4 eB : Tb KK (List Bool)) (tbL 3 (eI .i64) : Tb KK (List Int))))) : Tb KK _).E (fun x : T_ref01_Arena => (x.Room, x.Things, x.Used, x.Freed))
def b37 : Tb KK T_ref01_Arena := tbIso (tbCat (tbI .i64) (tbCat (tbL 3 (eI .i64) : Tb KK (List Int)) (tbCat (tbL 4 eB : Tb KK (List Bool)) (tbL 3 (eI .i64) : Tb KK (List Int))))) (fun x : T_ref01_Arena => (x.Room, x.Things, x.Used, x.Freed)) (fun y => (⟨y.1, y.2.1, y.2.2.1, y.2.2.2⟩ : T_ref01_Arena)) e_ref01_Arena
def e_ref02_List : Enc T_ref02_List := encIso ((tbCat (tbL 3 (eI .i64) : Tb KK (List Int)) b37) : Tb KK _).E (fun x : T_ref02_List => (x.Order, x.Numbers))
def b39 : Tb KK T_ref02_List := tbIso (tbCat (tbL 3 (eI .i64) : Tb KK (List Int)) b37) (fun x : T_ref02_List => (x.Order, x.Numbers)) (fun y => (⟨y.1, y.2⟩ : T_ref02_List)) e_ref02_List
def e_order_stamp : Enc T_order_stamp := encIso ((tbCat (tbI .u64) (tbCat (tbI .i64) (tbI .i64))) : Tb KK _).E (fun x : T_order_stamp => (x.label, x.next, x.prev))
def b54 : Tb KK T_order_stamp := tbIso (tbCat (tbI .u64) (tbCat (tbI .i64) (tbI .i64))) (fun x : T_order_stamp => (x.label, x.next, x.prev)) (fun y => (⟨y.1, y.2.1, y.2.2⟩ : T_order_stamp)) e_order_stamp
def e_arena_slot : Enc T_arena_slot := encIso ((tbCat b54 tbB) : Tb KK _).E (fun x : T_arena_slot => (x.x, x.used))
def b72 : Tb KK T_arena_slot := tbIso (tbCat b54 tbB) (fun x : T_arena_slot => (x.x, x.used)) (fun y => (⟨y.1, y.2⟩ : T_arena_slot)) e_arena_slot
def TF : (c : TC) → Tb KK (KF c)
 | .c0 => tbU
 | .c3 => (tbI .i64)
 | .c4 => tbB
 | .c22 => (tbI .u16)
 | .c23 => (tbL 4 eB : Tb KK (List Bool))
 | .c34 => (tbL 42 e_law02_Act : Tb KK (List T_law02_Act))
 | .c35 => (tbL 3 (eI .i64) : Tb KK (List Int))
 | .c37 => b37
 | .c39 => b39
 | .c42 => b42
 | .c52 => (tbI .u64)
 | .c54 => b54
 | .c72 => b72
def CC : Cx KK := @cxOf TC KF code TF
theorem b42_ok : TbOk Try.prog CC b42 := tbIso_ok (tbCat_ok (tbI_ok _) (tbCat_ok (tbI_ok _) (tbI_ok _))) (fun y => rfl) (fun x => rfl)
theorem dw_law02_Act : ∀ x, dwks (e_law02_Act.c x) = e_law02_Act.c x := b42_ok.dw
theorem hl_law02_Act : ∀ x m, hlts m (e_law02_Act.c x) = true := b42_ok.hl
theorem b37_ok : TbOk Try.prog CC b37 := tbIso_ok (tbCat_ok (tbI_ok _) (tbCat_ok (tbL_ok _ rfl (fun _ => rfl) (fun _ _ => rfl)) (tbCat_ok (tbL_ok _ rfl (fun _ => rfl) (fun _ _ => rfl)) (tbL_ok _ rfl (fun _ => rfl) (fun _ _ => rfl))))) (fun y => rfl) (fun x => rfl)
theorem b39_ok : TbOk Try.prog CC b39 := tbIso_ok (tbCat_ok (tbL_ok _ rfl (fun _ => rfl) (fun _ _ => rfl)) b37_ok) (fun y => rfl) (fun x => rfl)
theorem b54_ok : TbOk Try.prog CC b54 := tbIso_ok (tbCat_ok (tbI_ok _) (tbCat_ok (tbI_ok _) (tbI_ok _))) (fun y => rfl) (fun x => rfl)
theorem b72_ok : TbOk Try.prog CC b72 := tbIso_ok (tbCat_ok b54_ok tbB_ok) (fun y => rfl) (fun x => rfl)
theorem CC_ok : CxOk Try.prog CC := @cxOf_ok TC KF code _ TF fun c => match c with
 | .c0 => tbU_ok
 | .c3 => (tbI_ok _)
 | .c4 => tbB_ok
 | .c22 => (tbI_ok _)
 | .c23 => (tbL_ok _ rfl (fun _ => rfl) (fun _ _ => rfl))
 | .c34 => (tbL_ok _ rfl dw_law02_Act hl_law02_Act)
 | .c35 => (tbL_ok _ rfl (fun _ => rfl) (fun _ _ => rfl))
 | .c37 => b37_ok
 | .c39 => b39_ok
 | .c42 => b42_ok
 | .c52 => (tbI_ok _)
 | .c54 => b54_ok
 | .c72 => b72_ok
def arena_New_stamp_v0_o (a0 r0 : Int) (r1 : List T_arena_slot) (r2 : List Int) : Prop :=
 (if (1048576 : Int) < (if (0 : Int) > a0 then (0 : Int) else a0) then (1048576 : Int) else (if (0 : Int) > a0 then (0 : Int) else a0)) = r0 ∧ ([] : List T_arena_slot) = r1 ∧ ([] : List Int) = r2
def arena_New_stamp_v0_s0 : Sl KK := ⟨17, [], ⟨[(0, .it .i64)], [], []⟩, ⟨[(2, .px 1000000 0)], [(1000000, 70, [.it .i64, .row 1000001, .row 1000002])], [(1000001, 72), (1000002, 3)]⟩, [], [(2, none)], true, fun _ _ _ => True⟩
def arena_New_stamp_v0_sl : Sl KK := ⟨17, [], ⟨[(0, .it .i64)], [], []⟩, ⟨[(2, .px 1000000 0)], [(1000000, 70, [.it .i64, .row 1000001, .row 1000002])], [(1000001, 72), (1000002, 3)]⟩, [], [(2, none)], true, apFs (K := KK) (ctT arena_New_stamp_v0_s0.ti) (ctT arena_New_stamp_v0_s0.te) [] arena_New_stamp_v0_o⟩
def arena_New_stamp_v0_an : An KK := (.s .o (.s .o .o))
def arena_New_stamp_v0_cf : Cf KK := ⟨CC, [], [], 8, [], none, false⟩
theorem arena_New_stamp_v0_ok : SlOk Try.prog CC arena_New_stamp_v0_sl := by
 intro fs env out hl hF hW
 obtain ⟨rfl, h0⟩ := apFs_n hW
 obtain ⟨a0, ea0, rfl, h1⟩ := apIn_c h0
 obtain ⟨rfl, h2⟩ := apIn_n h1
 obtain ⟨r0, er0, rfl, h3⟩ := apOut_c h2
 obtain ⟨r1, er1, rfl, h4⟩ := apOut_c h3
 obtain ⟨r2, er2, rfl, h5⟩ := apOut_c h4
 obtain ⟨rfl, h6⟩ := apOut_n h5
 show SlC Try.prog CC arena_New_stamp_v0_sl [] [.i a0] [.i r0, .l 72 r1, .l 3 r2]
 rw [show SlC Try.prog CC arena_New_stamp_v0_sl [] [.i a0] [.i r0, .l 72 r1, .l 3 r2] = SlC Try.prog CC arena_New_stamp_v0_s0 [] [.i a0] [.i r0, .l 72 r1, .l 3 r2] by kernel_rfl]
 exact DnL_by (F := arena_New_stamp_v0_cf) CC_ok SsOk_n SLOk_n t17 (A := arena_New_stamp_v0_an) (sp := arena_New_stamp_v0_s0) rfl (by kernel_rfl) (by kernel_rfl) (Nat.le_of_ble_eq_true (by kernel_rfl)) (fs := []) (env := [.i a0]) (out := [.i r0, .l 72 r1, .l 3 r2]) (by kernel_rfl) hF (X := arena_New_stamp_v0_o a0 r0 r1 r2) h6 (by kernel_rfl)
def arena_Arena_stamp_Live_v0_o (a0 : Int) (a1 : List T_arena_slot) (a2 : List Int) (r0 : Int) : Prop :=
 ((a0 = a0) ∧ (True) ∧ (True)) ∧ (a1 = a1) ∧ (a2 = a2) ∧ (IntKind.i64.wrap ((a1.length : Int) - (a2.length : Int))) = r0
def arena_Arena_stamp_Live_v0_oi (a0 : Int) (a1 : List T_arena_slot) (a2 : List Int) (r0 : Int) : Prop :=
 (IntKind.i64.wrap ((a1.length : Int) - (a2.length : Int))) = r0
theorem arena_Arena_stamp_Live_v0_i (a0 : Int) (a1 : List T_arena_slot) (a2 : List Int) (r0 : Int) (h : arena_Arena_stamp_Live_v0_oi a0 a1 a2 r0) : arena_Arena_stamp_Live_v0_o a0 a1 a2 r0 := by
 unfold arena_Arena_stamp_Live_v0_o
 unfold arena_Arena_stamp_Live_v0_oi at h
 exact ⟨by and_intros <;> first | rfl | trivial, ⟨by and_intros <;> first | rfl | trivial, ⟨by and_intros <;> first | rfl | trivial, h⟩⟩⟩
def arena_Arena_stamp_Live_v0_s0 : Sl KK := ⟨24, [], ⟨[(0, .px 2000000 0)], [(2000000, 70, [.it .i64, .row 2000001, .row 2000002])], [(2000001, 72), (2000002, 3)]⟩, ⟨[(2, .it .i64)], [], []⟩, [2000000, 2000001, 2000002], [(2, none)], true, fun _ _ _ => True⟩
def arena_Arena_stamp_Live_v0_sl : Sl KK := ⟨24, [], ⟨[(0, .px 2000000 0)], [(2000000, 70, [.it .i64, .row 2000001, .row 2000002])], [(2000001, 72), (2000002, 3)]⟩, ⟨[(2, .it .i64)], [], []⟩, [2000000, 2000001, 2000002], [(2, none)], true, apFs (K := KK) (ctT arena_Arena_stamp_Live_v0_s0.ti) (ctT arena_Arena_stamp_Live_v0_s0.te) [] arena_Arena_stamp_Live_v0_o⟩
def arena_Arena_stamp_Live_v0_an : An KK := (.s .o (.s (.s .o (.c (.s .o .o) .o)) (.s .o .o)))
def arena_Arena_stamp_Live_v0_cf : Cf KK := ⟨CC, [], [], 16, [], none, false⟩
theorem arena_Arena_stamp_Live_v0_ok : SlOk Try.prog CC arena_Arena_stamp_Live_v0_sl := by
 intro fs env out hl hF hW
 obtain ⟨rfl, h0⟩ := apFs_n hW
 obtain ⟨a0, ea0, rfl, h1⟩ := apIn_c h0
 obtain ⟨a1, ea1, rfl, h2⟩ := apIn_c h1
 obtain ⟨a2, ea2, rfl, h3⟩ := apIn_c h2
 obtain ⟨rfl, h4⟩ := apIn_n h3
 obtain ⟨r0, er0, rfl, h5⟩ := apOut_c h4
 obtain ⟨rfl, h6⟩ := apOut_n h5
 show SlC Try.prog CC arena_Arena_stamp_Live_v0_sl [] [.i a0, .l 72 a1, .l 3 a2] [.i r0]
 rw [show SlC Try.prog CC arena_Arena_stamp_Live_v0_sl [] [.i a0, .l 72 a1, .l 3 a2] [.i r0] = SlC Try.prog CC arena_Arena_stamp_Live_v0_s0 [] [.i a0, .l 72 a1, .l 3 a2] [.i r0] by kernel_rfl]
 exact DnL_by (F := arena_Arena_stamp_Live_v0_cf) CC_ok SsOk_n SLOk_n t24 (A := arena_Arena_stamp_Live_v0_an) (sp := arena_Arena_stamp_Live_v0_s0) rfl (by kernel_rfl) (by kernel_rfl) (Nat.le_of_ble_eq_true (by kernel_rfl)) (fs := []) (env := [.i a0, .l 72 a1, .l 3 a2]) (out := [.i r0]) (by kernel_rfl) hF (X := arena_Arena_stamp_Live_v0_o a0 a1 a2 r0) h6 (by kernel_rfl)
def arena_Arena_stamp_most_v0_o (a0 : Int) (a1 : List T_arena_slot) (a2 : List Int) (r0 : Int) : Prop :=
 ((a0 = a0) ∧ (True) ∧ (True)) ∧ (a1 = a1) ∧ (a2 = a2) ∧ a0 = r0
def arena_Arena_stamp_most_v0_oi (a0 : Int) (a1 : List T_arena_slot) (a2 : List Int) (r0 : Int) : Prop :=
 a0 = r0
theorem arena_Arena_stamp_most_v0_i (a0 : Int) (a1 : List T_arena_slot) (a2 : List Int) (r0 : Int) (h : arena_Arena_stamp_most_v0_oi a0 a1 a2 r0) : arena_Arena_stamp_most_v0_o a0 a1 a2 r0 := by
 unfold arena_Arena_stamp_most_v0_o
 unfold arena_Arena_stamp_most_v0_oi at h
 exact ⟨by and_intros <;> first | rfl | trivial, ⟨by and_intros <;> first | rfl | trivial, ⟨by and_intros <;> first | rfl | trivial, h⟩⟩⟩
def arena_Arena_stamp_most_v0_s0 : Sl KK := ⟨29, [], ⟨[(0, .px 2000000 0)], [(2000000, 70, [.it .i64, .row 2000001, .row 2000002])], [(2000001, 72), (2000002, 3)]⟩, ⟨[(2, .it .i64)], [], []⟩, [2000000, 2000001, 2000002], [(2, none)], true, fun _ _ _ => True⟩
def arena_Arena_stamp_most_v0_sl : Sl KK := ⟨29, [], ⟨[(0, .px 2000000 0)], [(2000000, 70, [.it .i64, .row 2000001, .row 2000002])], [(2000001, 72), (2000002, 3)]⟩, ⟨[(2, .it .i64)], [], []⟩, [2000000, 2000001, 2000002], [(2, none)], true, apFs (K := KK) (ctT arena_Arena_stamp_most_v0_s0.ti) (ctT arena_Arena_stamp_most_v0_s0.te) [] arena_Arena_stamp_most_v0_o⟩
def arena_Arena_stamp_most_v0_an : An KK := (.s .o (.s (.s .o (.c (.s .o .o) .o)) (.s .o .o)))
def arena_Arena_stamp_most_v0_cf : Cf KK := ⟨CC, [], [], 9, [], none, false⟩
theorem arena_Arena_stamp_most_v0_ok : SlOk Try.prog CC arena_Arena_stamp_most_v0_sl := by
 intro fs env out hl hF hW
 obtain ⟨rfl, h0⟩ := apFs_n hW
 obtain ⟨a0, ea0, rfl, h1⟩ := apIn_c h0
 obtain ⟨a1, ea1, rfl, h2⟩ := apIn_c h1
 obtain ⟨a2, ea2, rfl, h3⟩ := apIn_c h2
 obtain ⟨rfl, h4⟩ := apIn_n h3
 obtain ⟨r0, er0, rfl, h5⟩ := apOut_c h4
 obtain ⟨rfl, h6⟩ := apOut_n h5
 show SlC Try.prog CC arena_Arena_stamp_most_v0_sl [] [.i a0, .l 72 a1, .l 3 a2] [.i r0]
 rw [show SlC Try.prog CC arena_Arena_stamp_most_v0_sl [] [.i a0, .l 72 a1, .l 3 a2] [.i r0] = SlC Try.prog CC arena_Arena_stamp_most_v0_s0 [] [.i a0, .l 72 a1, .l 3 a2] [.i r0] by kernel_rfl]
 exact DnL_by (F := arena_Arena_stamp_most_v0_cf) CC_ok SsOk_n SLOk_n t29 (A := arena_Arena_stamp_most_v0_an) (sp := arena_Arena_stamp_most_v0_s0) rfl (by kernel_rfl) (by kernel_rfl) (Nat.le_of_ble_eq_true (by kernel_rfl)) (fs := []) (env := [.i a0, .l 72 a1, .l 3 a2]) (out := [.i r0]) (by kernel_rfl) hF (X := arena_Arena_stamp_most_v0_o a0 a1 a2 r0) h6 (by kernel_rfl)
def arena_Arena_stamp_Alloc_v0_o (a0 : T_order_stamp) (a1 : Int) (a2 : List T_arena_slot) (a3 : List Int) (r0 : Int) (r1 : Bool) (r2 : Int) (r3 : List T_arena_slot) (r4 : List Int) : Prop :=
 ∃ z1, (arena_Arena_stamp_Live_v0_o a1 a2 a3 z1) ∧ ∃ z2, (arena_Arena_stamp_most_v0_o a1 a2 a3 z2) ∧ cnd (decide (z2 ≤ z1)) ((0 : Int) = r0 ∧ false = r1 ∧ a1 = r2 ∧ a2 = r3 ∧ a3 = r4) (cnd (decide ((0 : Int) ≤ (IntKind.i64.wrap ((a3.length : Int) - (1 : Int))))) ((0 ≤ (IntKind.i64.wrap ((a3.length : Int) - (1 : Int)))) ∧ ((IntKind.i64.wrap ((a3.length : Int) - (1 : Int))) < (a3.length : Int)) ∧ ∃ y3 : Int, (a3[(IntKind.i64.wrap ((a3.length : Int) - (1 : Int))).toNat]? = some y3) ∧ (0 ≤ (IntKind.i64.wrap ((a3.length : Int) - (1 : Int))) ∧ (IntKind.i64.wrap ((a3.length : Int) - (1 : Int))) ≤ (a3.length : Int)) ∧ (0 ≤ y3) ∧ (y3 < (a2.length : Int)) ∧ ∃ y4 : T_arena_slot, (a2[y3.toNat]? = some y4) ∧ y3 = r0 ∧ true = r1 ∧ a1 = r2 ∧ (a2.set y3.toNat (⟨a0, true⟩ : T_arena_slot)) = r3 ∧ (a3.take (IntKind.i64.wrap ((a3.length : Int) - (1 : Int))).toNat) = r4) ((a2.length ≤ 1000000000) ∧ (IntKind.i64.wrap (((a2 ++ ([(⟨a0, true⟩ : T_arena_slot)] : List T_arena_slot)).length : Int) - (1 : Int))) = r0 ∧ true = r1 ∧ a1 = r2 ∧ (a2 ++ ([(⟨a0, true⟩ : T_arena_slot)] : List T_arena_slot)) = r3 ∧ a3 = r4))
def arena_Arena_stamp_Alloc_v0_s0 : Sl KK := ⟨18, [], ⟨[(0, .px 2000000 0), (1, .v 54)], [(2000000, 70, [.it .i64, .row 2000001, .row 2000002])], [(2000001, 72), (2000002, 3)]⟩, ⟨[(4, .it .i64), (5, .bl)], [(2000000, 70, [.it .i64, .row 1000000, .row 1000001])], [(1000000, 72), (1000001, 3)]⟩, [], [(4, none), (5, none)], true, fun _ _ _ => True⟩
def arena_Arena_stamp_Alloc_v0_sl : Sl KK := ⟨18, [], ⟨[(0, .px 2000000 0), (1, .v 54)], [(2000000, 70, [.it .i64, .row 2000001, .row 2000002])], [(2000001, 72), (2000002, 3)]⟩, ⟨[(4, .it .i64), (5, .bl)], [(2000000, 70, [.it .i64, .row 1000000, .row 1000001])], [(1000000, 72), (1000001, 3)]⟩, [], [(4, none), (5, none)], true, apFs (K := KK) (ctT arena_Arena_stamp_Alloc_v0_s0.ti) (ctT arena_Arena_stamp_Alloc_v0_s0.te) [] arena_Arena_stamp_Alloc_v0_o⟩
def arena_Arena_stamp_Alloc_v0_an : An KK := (.s .o (.s (.s .o (.c (.s .o .o) .o)) (.s (.s .o (.s .o (.c (.s .o (.s .o (.s .o (.s .o .o)))) .o))) (.s .o (.s .o .o)))))
def arena_Arena_stamp_Alloc_v0_cf : Cf KK := ⟨CC, [], [arena_Arena_stamp_Live_v0_sl, arena_Arena_stamp_most_v0_sl], 63, [], none, false⟩
theorem arena_Arena_stamp_Alloc_v0_ok : SlOk Try.prog CC arena_Arena_stamp_Alloc_v0_sl := by
 intro fs env out hl hF hW
 obtain ⟨rfl, h0⟩ := apFs_n hW
 obtain ⟨a0, ea0, rfl, h1⟩ := apIn_c h0
 obtain ⟨a1, ea1, rfl, h2⟩ := apIn_c h1
 obtain ⟨a2, ea2, rfl, h3⟩ := apIn_c h2
 obtain ⟨a3, ea3, rfl, h4⟩ := apIn_c h3
 obtain ⟨rfl, h5⟩ := apIn_n h4
 obtain ⟨r0, er0, rfl, h6⟩ := apOut_c h5
 obtain ⟨r1, er1, rfl, h7⟩ := apOut_c h6
 obtain ⟨r2, er2, rfl, h8⟩ := apOut_c h7
 obtain ⟨r3, er3, rfl, h9⟩ := apOut_c h8
 obtain ⟨r4, er4, rfl, h10⟩ := apOut_c h9
 obtain ⟨rfl, h11⟩ := apOut_n h10
 show SlC Try.prog CC arena_Arena_stamp_Alloc_v0_sl [] [.v 54 a0, .i a1, .l 72 a2, .l 3 a3] [.i r0, .b r1, .i r2, .l 72 r3, .l 3 r4]
 rw [show SlC Try.prog CC arena_Arena_stamp_Alloc_v0_sl [] [.v 54 a0, .i a1, .l 72 a2, .l 3 a3] [.i r0, .b r1, .i r2, .l 72 r3, .l 3 r4] = SlC Try.prog CC arena_Arena_stamp_Alloc_v0_s0 [] [.v 54 a0, .i a1, .l 72 a2, .l 3 a3] [.i r0, .b r1, .i r2, .l 72 r3, .l 3 r4] by kernel_rfl]
 exact DnL_by (F := arena_Arena_stamp_Alloc_v0_cf) CC_ok SsOk_n (SLOk_c arena_Arena_stamp_Live_v0_ok (SLOk_c arena_Arena_stamp_most_v0_ok SLOk_n)) t18 (A := arena_Arena_stamp_Alloc_v0_an) (sp := arena_Arena_stamp_Alloc_v0_s0) rfl (by kernel_rfl) (by kernel_rfl) (Nat.le_of_ble_eq_true (by kernel_rfl)) (fs := []) (env := [.v 54 a0, .i a1, .l 72 a2, .l 3 a3]) (out := [.i r0, .b r1, .i r2, .l 72 r3, .l 3 r4]) (by kernel_rfl) hF (X := arena_Arena_stamp_Alloc_v0_o a0 a1 a2 a3 r0 r1 r2 r3 r4) h11 (by kernel_rfl)
def order_New_v0_o (r0 : Int) (r1 : List T_arena_slot) (r2 : List Int) : Prop :=
 ∃ z1 z2 z3, (arena_New_stamp_v0_o (1048576 : Int) z1 z2 z3) ∧ ∃ z4 z5 z6 z7 z8, (arena_Arena_stamp_Alloc_v0_o (⟨(0 : Int), (-1 : Int), (-1 : Int)⟩ : T_order_stamp) z1 z2 z3 z4 z5 z6 z7 z8) ∧ z6 = r0 ∧ z7 = r1 ∧ z8 = r2
def order_New_v0_s0 : Sl KK := ⟨6, [], ⟨[], [], []⟩, ⟨[(0, .px 1000000 0)], [(1000000, 56, [.px 1000001 0]), (1000001, 70, [.it .i64, .row 1000002, .row 1000003])], [(1000002, 72), (1000003, 3)]⟩, [], [(0, none)], true, fun _ _ _ => True⟩
def order_New_v0_sl : Sl KK := ⟨6, [], ⟨[], [], []⟩, ⟨[(0, .px 1000000 0)], [(1000000, 56, [.px 1000001 0]), (1000001, 70, [.it .i64, .row 1000002, .row 1000003])], [(1000002, 72), (1000003, 3)]⟩, [], [(0, none)], true, apFs (K := KK) (ctT order_New_v0_s0.ti) (ctT order_New_v0_s0.te) [] order_New_v0_o⟩
def order_New_v0_an : An KK := (.s .o (.s .o (.s .o (.s .o .o))))
def order_New_v0_cf : Cf KK := ⟨CC, [], [arena_New_stamp_v0_sl, arena_Arena_stamp_Alloc_v0_sl], 12, [], none, false⟩
theorem order_New_v0_ok : SlOk Try.prog CC order_New_v0_sl := by
 intro fs env out hl hF hW
 obtain ⟨rfl, h0⟩ := apFs_n hW
 obtain ⟨rfl, h1⟩ := apIn_n h0
 obtain ⟨r0, er0, rfl, h2⟩ := apOut_c h1
 obtain ⟨r1, er1, rfl, h3⟩ := apOut_c h2
 obtain ⟨r2, er2, rfl, h4⟩ := apOut_c h3
 obtain ⟨rfl, h5⟩ := apOut_n h4
 show SlC Try.prog CC order_New_v0_sl [] [] [.i r0, .l 72 r1, .l 3 r2]
 rw [show SlC Try.prog CC order_New_v0_sl [] [] [.i r0, .l 72 r1, .l 3 r2] = SlC Try.prog CC order_New_v0_s0 [] [] [.i r0, .l 72 r1, .l 3 r2] by kernel_rfl]
 exact DnL_by (F := order_New_v0_cf) CC_ok SsOk_n (SLOk_c arena_New_stamp_v0_ok (SLOk_c arena_Arena_stamp_Alloc_v0_ok SLOk_n)) t6 (A := order_New_v0_an) (sp := order_New_v0_s0) rfl (by kernel_rfl) (by kernel_rfl) (Nat.le_of_ble_eq_true (by kernel_rfl)) (fs := []) (env := []) (out := [.i r0, .l 72 r1, .l 3 r2]) (by kernel_rfl) hF (X := order_New_v0_o r0 r1 r2) h5 (by kernel_rfl)
def arena_Arena_stamp_has_v0_o (a0 a1 : Int) (a2 : List T_arena_slot) (a3 : List Int) (r0 : Bool) : Prop :=
 cnd (decide ((0 : Int) ≤ a0)) (cnd (decide (a0 < (a2.length : Int))) ((0 ≤ a0) ∧ (a0 < (a2.length : Int)) ∧ ∃ y1 : T_arena_slot, (a2[a0.toNat]? = some y1) ∧ ((a1 = a1) ∧ (True) ∧ (True)) ∧ (a2 = a2) ∧ (a3 = a3) ∧ y1.used = r0) (((a1 = a1) ∧ (True) ∧ (True)) ∧ (a2 = a2) ∧ (a3 = a3) ∧ false = r0)) (((a1 = a1) ∧ (True) ∧ (True)) ∧ (a2 = a2) ∧ (a3 = a3) ∧ false = r0)
def arena_Arena_stamp_has_v0_oi (a0 a1 : Int) (a2 : List T_arena_slot) (a3 : List Int) (r0 : Bool) : Prop :=
 cnd (decide ((0 : Int) ≤ a0)) (cnd (decide (a0 < (a2.length : Int))) ((0 ≤ a0) ∧ (a0 < (a2.length : Int)) ∧ ∃ y1 : T_arena_slot, (a2[a0.toNat]? = some y1) ∧ y1.used = r0) (false = r0)) (false = r0)
theorem arena_Arena_stamp_has_v0_i (a0 a1 : Int) (a2 : List T_arena_slot) (a3 : List Int) (r0 : Bool) (h : arena_Arena_stamp_has_v0_oi a0 a1 a2 a3 r0) : arena_Arena_stamp_has_v0_o a0 a1 a2 a3 r0 := by
 unfold arena_Arena_stamp_has_v0_o
 unfold arena_Arena_stamp_has_v0_oi at h
 refine cnd_mono h (fun h => ?_) (fun h => ?_)
 ·refine cnd_mono h (fun h => ?_) (fun h => ?_)
  ·obtain ⟨h0, h⟩ := h
   refine ⟨h0, ?_⟩
   obtain ⟨h0, h⟩ := h
   refine ⟨h0, ?_⟩
   obtain ⟨y1, h⟩ := h
   refine ⟨y1, ?_⟩
   obtain ⟨h0, h⟩ := h
   refine ⟨h0, ?_⟩
   exact ⟨by and_intros <;> first | rfl | trivial, ⟨by and_intros <;> first | rfl | trivial, ⟨by and_intros <;> first | rfl | trivial, h⟩⟩⟩
  ·exact ⟨by and_intros <;> first | rfl | trivial, ⟨by and_intros <;> first | rfl | trivial, ⟨by and_intros <;> first | rfl | trivial, h⟩⟩⟩
 ·exact ⟨by and_intros <;> first | rfl | trivial, ⟨by and_intros <;> first | rfl | trivial, ⟨by and_intros <;> first | rfl | trivial, h⟩⟩⟩
def arena_Arena_stamp_has_v0_s0 : Sl KK := ⟨30, [], ⟨[(0, .px 2000000 0), (1, .it .i64)], [(2000000, 70, [.it .i64, .row 2000001, .row 2000002])], [(2000001, 72), (2000002, 3)]⟩, ⟨[(4, .bl)], [], []⟩, [2000000, 2000001, 2000002], [(4, none)], true, fun _ _ _ => True⟩
def arena_Arena_stamp_has_v0_sl : Sl KK := ⟨30, [], ⟨[(0, .px 2000000 0), (1, .it .i64)], [(2000000, 70, [.it .i64, .row 2000001, .row 2000002])], [(2000001, 72), (2000002, 3)]⟩, ⟨[(4, .bl)], [], []⟩, [2000000, 2000001, 2000002], [(4, none)], true, apFs (K := KK) (ctT arena_Arena_stamp_has_v0_s0.ti) (ctT arena_Arena_stamp_has_v0_s0.te) [] arena_Arena_stamp_has_v0_o⟩
def arena_Arena_stamp_has_v0_an : An KK := (.s .o (.s .o .o))
def arena_Arena_stamp_has_v0_cf : Cf KK := ⟨CC, [], [], 30, [], none, false⟩
theorem arena_Arena_stamp_has_v0_ok : SlOk Try.prog CC arena_Arena_stamp_has_v0_sl := by
 intro fs env out hl hF hW
 obtain ⟨rfl, h0⟩ := apFs_n hW
 obtain ⟨a0, ea0, rfl, h1⟩ := apIn_c h0
 obtain ⟨a1, ea1, rfl, h2⟩ := apIn_c h1
 obtain ⟨a2, ea2, rfl, h3⟩ := apIn_c h2
 obtain ⟨a3, ea3, rfl, h4⟩ := apIn_c h3
 obtain ⟨rfl, h5⟩ := apIn_n h4
 obtain ⟨r0, er0, rfl, h6⟩ := apOut_c h5
 obtain ⟨rfl, h7⟩ := apOut_n h6
 show SlC Try.prog CC arena_Arena_stamp_has_v0_sl [] [.i a0, .i a1, .l 72 a2, .l 3 a3] [.b r0]
 rw [show SlC Try.prog CC arena_Arena_stamp_has_v0_sl [] [.i a0, .i a1, .l 72 a2, .l 3 a3] [.b r0] = SlC Try.prog CC arena_Arena_stamp_has_v0_s0 [] [.i a0, .i a1, .l 72 a2, .l 3 a3] [.b r0] by kernel_rfl]
 exact DnL_by (F := arena_Arena_stamp_has_v0_cf) CC_ok SsOk_n SLOk_n t30 (A := arena_Arena_stamp_has_v0_an) (sp := arena_Arena_stamp_has_v0_s0) rfl (by kernel_rfl) (by kernel_rfl) (Nat.le_of_ble_eq_true (by kernel_rfl)) (fs := []) (env := [.i a0, .i a1, .l 72 a2, .l 3 a3]) (out := [.b r0]) (by kernel_rfl) hF (X := arena_Arena_stamp_has_v0_o a0 a1 a2 a3 r0) h7 (by kernel_rfl)
def arena_Arena_stamp_Get_v0_o (a0 a1 : Int) (a2 : List T_arena_slot) (a3 : List Int) (r0 : Bool) (r1 : T_order_stamp) : Prop :=
 ∃ z1, (arena_Arena_stamp_has_v0_o a0 a1 a2 a3 z1) ∧ cnd (!z1) (((a1 = a1) ∧ (True) ∧ (True)) ∧ (a2 = a2) ∧ (a3 = a3) ∧ false = r0 ∧ (⟨(0 : Int), (0 : Int), (0 : Int)⟩ : T_order_stamp) = r1) ((0 ≤ a0) ∧ (a0 < (a2.length : Int)) ∧ ∃ y2 : T_arena_slot, (a2[a0.toNat]? = some y2) ∧ ((a1 = a1) ∧ (True) ∧ (True)) ∧ (a2 = a2) ∧ (a3 = a3) ∧ true = r0 ∧ (⟨y2.x.label, y2.x.next, y2.x.prev⟩ : T_order_stamp) = r1)
def arena_Arena_stamp_Get_v0_oi (a0 a1 : Int) (a2 : List T_arena_slot) (a3 : List Int) (r0 : Bool) (r1 : T_order_stamp) : Prop :=
 ∃ z1, (arena_Arena_stamp_has_v0_o a0 a1 a2 a3 z1) ∧ cnd (!z1) (false = r0 ∧ (⟨(0 : Int), (0 : Int), (0 : Int)⟩ : T_order_stamp) = r1) ((0 ≤ a0) ∧ (a0 < (a2.length : Int)) ∧ ∃ y2 : T_arena_slot, (a2[a0.toNat]? = some y2) ∧ true = r0 ∧ (⟨y2.x.label, y2.x.next, y2.x.prev⟩ : T_order_stamp) = r1)
theorem arena_Arena_stamp_Get_v0_i (a0 a1 : Int) (a2 : List T_arena_slot) (a3 : List Int) (r0 : Bool) (r1 : T_order_stamp) (h : arena_Arena_stamp_Get_v0_oi a0 a1 a2 a3 r0 r1) : arena_Arena_stamp_Get_v0_o a0 a1 a2 a3 r0 r1 := by
 unfold arena_Arena_stamp_Get_v0_o
 unfold arena_Arena_stamp_Get_v0_oi at h
 obtain ⟨z1, h⟩ := h
 refine ⟨z1, ?_⟩
 obtain ⟨h0, h⟩ := h
 refine ⟨h0, ?_⟩
 refine cnd_mono h (fun h => ?_) (fun h => ?_)
 ·exact ⟨by and_intros <;> first | rfl | trivial, ⟨by and_intros <;> first | rfl | trivial, ⟨by and_intros <;> first | rfl | trivial, h⟩⟩⟩
 ·obtain ⟨h0, h⟩ := h
  refine ⟨h0, ?_⟩
  obtain ⟨h0, h⟩ := h
  refine ⟨h0, ?_⟩
  obtain ⟨y2, h⟩ := h
  refine ⟨y2, ?_⟩
  obtain ⟨h0, h⟩ := h
  refine ⟨h0, ?_⟩
  exact ⟨by and_intros <;> first | rfl | trivial, ⟨by and_intros <;> first | rfl | trivial, ⟨by and_intros <;> first | rfl | trivial, h⟩⟩⟩
def arena_Arena_stamp_Get_v0_s0 : Sl KK := ⟨28, [], ⟨[(0, .px 2000000 0), (1, .it .i64)], [(2000000, 70, [.it .i64, .row 2000001, .row 2000002])], [(2000001, 72), (2000002, 3)]⟩, ⟨[(4, .px 1000000 0), (5, .bl)], [(1000000, 54, [.v 54])], []⟩, [2000000, 2000001, 2000002], [(4, some 3), (5, none)], true, fun _ _ _ => True⟩
def arena_Arena_stamp_Get_v0_sl : Sl KK := ⟨28, [], ⟨[(0, .px 2000000 0), (1, .it .i64)], [(2000000, 70, [.it .i64, .row 2000001, .row 2000002])], [(2000001, 72), (2000002, 3)]⟩, ⟨[(4, .px 1000000 0), (5, .bl)], [(1000000, 54, [.v 54])], []⟩, [2000000, 2000001, 2000002], [(4, some 3), (5, none)], true, apFs (K := KK) (ctT arena_Arena_stamp_Get_v0_s0.ti) (ctT arena_Arena_stamp_Get_v0_s0.te) [] arena_Arena_stamp_Get_v0_o⟩
def arena_Arena_stamp_Get_v0_an : An KK := (.s .o (.s (.s .o (.c (.s .o (.s .o .o)) .o)) (.s .o .o)))
def arena_Arena_stamp_Get_v0_cf : Cf KK := ⟨CC, [], [arena_Arena_stamp_has_v0_sl], 20, [], none, false⟩
theorem arena_Arena_stamp_Get_v0_ok : SlOk Try.prog CC arena_Arena_stamp_Get_v0_sl := by
 intro fs env out hl hF hW
 obtain ⟨rfl, h0⟩ := apFs_n hW
 obtain ⟨a0, ea0, rfl, h1⟩ := apIn_c h0
 obtain ⟨a1, ea1, rfl, h2⟩ := apIn_c h1
 obtain ⟨a2, ea2, rfl, h3⟩ := apIn_c h2
 obtain ⟨a3, ea3, rfl, h4⟩ := apIn_c h3
 obtain ⟨rfl, h5⟩ := apIn_n h4
 obtain ⟨r0, er0, rfl, h6⟩ := apOut_c h5
 obtain ⟨r1, er1, rfl, h7⟩ := apOut_c h6
 obtain ⟨rfl, h8⟩ := apOut_n h7
 show SlC Try.prog CC arena_Arena_stamp_Get_v0_sl [] [.i a0, .i a1, .l 72 a2, .l 3 a3] [.b r0, .v 54 r1]
 rw [show SlC Try.prog CC arena_Arena_stamp_Get_v0_sl [] [.i a0, .i a1, .l 72 a2, .l 3 a3] [.b r0, .v 54 r1] = SlC Try.prog CC arena_Arena_stamp_Get_v0_s0 [] [.i a0, .i a1, .l 72 a2, .l 3 a3] [.b r0, .v 54 r1] by kernel_rfl]
 exact DnL_by (F := arena_Arena_stamp_Get_v0_cf) CC_ok SsOk_n (SLOk_c arena_Arena_stamp_has_v0_ok SLOk_n) t28 (A := arena_Arena_stamp_Get_v0_an) (sp := arena_Arena_stamp_Get_v0_s0) rfl (by kernel_rfl) (by kernel_rfl) (Nat.le_of_ble_eq_true (by kernel_rfl)) (fs := []) (env := [.i a0, .i a1, .l 72 a2, .l 3 a3]) (out := [.b r0, .v 54 r1]) (by kernel_rfl) hF (X := arena_Arena_stamp_Get_v0_o a0 a1 a2 a3 r0 r1) h8 (by kernel_rfl)
def order_List_Has_v0_o (a0 a1 : Int) (a2 : List T_arena_slot) (a3 : List Int) (r0 : Bool) : Prop :=
 ∃ z1 z2, (arena_Arena_stamp_Get_v0_o a0 a1 a2 a3 z1 z2) ∧ ((True)) ∧ ((a1 = a1) ∧ (True) ∧ (True)) ∧ (a2 = a2) ∧ (a3 = a3) ∧ z1 = r0
def order_List_Has_v0_oi (a0 a1 : Int) (a2 : List T_arena_slot) (a3 : List Int) (r0 : Bool) : Prop :=
 ∃ z1 z2, (arena_Arena_stamp_Get_v0_o a0 a1 a2 a3 z1 z2) ∧ z1 = r0
theorem order_List_Has_v0_i (a0 a1 : Int) (a2 : List T_arena_slot) (a3 : List Int) (r0 : Bool) (h : order_List_Has_v0_oi a0 a1 a2 a3 r0) : order_List_Has_v0_o a0 a1 a2 a3 r0 := by
 unfold order_List_Has_v0_o
 unfold order_List_Has_v0_oi at h
 obtain ⟨z1, h⟩ := h
 refine ⟨z1, ?_⟩
 obtain ⟨z2, h⟩ := h
 refine ⟨z2, ?_⟩
 obtain ⟨h0, h⟩ := h
 refine ⟨h0, ?_⟩
 exact ⟨by and_intros <;> first | rfl | trivial, ⟨by and_intros <;> first | rfl | trivial, ⟨by and_intros <;> first | rfl | trivial, ⟨by and_intros <;> first | rfl | trivial, h⟩⟩⟩⟩
def order_List_Has_v0_s0 : Sl KK := ⟨15, [], ⟨[(0, .px 2000000 0), (1, .it .i64)], [(2000000, 56, [.px 2000001 0]), (2000001, 70, [.it .i64, .row 2000002, .row 2000003])], [(2000002, 72), (2000003, 3)]⟩, ⟨[(4, .bl)], [], []⟩, [2000000, 2000001, 2000002, 2000003], [(4, none)], true, fun _ _ _ => True⟩
def order_List_Has_v0_sl : Sl KK := ⟨15, [], ⟨[(0, .px 2000000 0), (1, .it .i64)], [(2000000, 56, [.px 2000001 0]), (2000001, 70, [.it .i64, .row 2000002, .row 2000003])], [(2000002, 72), (2000003, 3)]⟩, ⟨[(4, .bl)], [], []⟩, [2000000, 2000001, 2000002, 2000003], [(4, none)], true, apFs (K := KK) (ctT order_List_Has_v0_s0.ti) (ctT order_List_Has_v0_s0.te) [] order_List_Has_v0_o⟩
def order_List_Has_v0_an : An KK := (.s .o (.s (.s .o (.c (.s .o .o) .o)) (.s .o (.s .o .o))))
def order_List_Has_v0_cf : Cf KK := ⟨CC, [], [arena_Arena_stamp_Get_v0_sl], 19, [], none, false⟩
theorem order_List_Has_v0_ok : SlOk Try.prog CC order_List_Has_v0_sl := by
 intro fs env out hl hF hW
 obtain ⟨rfl, h0⟩ := apFs_n hW
 obtain ⟨a0, ea0, rfl, h1⟩ := apIn_c h0
 obtain ⟨a1, ea1, rfl, h2⟩ := apIn_c h1
 obtain ⟨a2, ea2, rfl, h3⟩ := apIn_c h2
 obtain ⟨a3, ea3, rfl, h4⟩ := apIn_c h3
 obtain ⟨rfl, h5⟩ := apIn_n h4
 obtain ⟨r0, er0, rfl, h6⟩ := apOut_c h5
 obtain ⟨rfl, h7⟩ := apOut_n h6
 show SlC Try.prog CC order_List_Has_v0_sl [] [.i a0, .i a1, .l 72 a2, .l 3 a3] [.b r0]
 rw [show SlC Try.prog CC order_List_Has_v0_sl [] [.i a0, .i a1, .l 72 a2, .l 3 a3] [.b r0] = SlC Try.prog CC order_List_Has_v0_s0 [] [.i a0, .i a1, .l 72 a2, .l 3 a3] [.b r0] by kernel_rfl]
 exact DnL_by (F := order_List_Has_v0_cf) CC_ok SsOk_n (SLOk_c arena_Arena_stamp_Get_v0_ok SLOk_n) t15 (A := order_List_Has_v0_an) (sp := order_List_Has_v0_s0) rfl (by kernel_rfl) (by kernel_rfl) (Nat.le_of_ble_eq_true (by kernel_rfl)) (fs := []) (env := [.i a0, .i a1, .l 72 a2, .l 3 a3]) (out := [.b r0]) (by kernel_rfl) hF (X := order_List_Has_v0_o a0 a1 a2 a3 r0) h7 (by kernel_rfl)
def order_List_at_v0_o (a0 a1 : Int) (a2 : List T_arena_slot) (a3 : List Int) (r0 : T_order_stamp) : Prop :=
 ∃ z1 z2, (arena_Arena_stamp_Get_v0_o a0 a1 a2 a3 z1 z2) ∧ ((True)) ∧ ((a1 = a1) ∧ (True) ∧ (True)) ∧ (a2 = a2) ∧ (a3 = a3) ∧ z2 = r0
def order_List_at_v0_oi (a0 a1 : Int) (a2 : List T_arena_slot) (a3 : List Int) (r0 : T_order_stamp) : Prop :=
 ∃ z1 z2, (arena_Arena_stamp_Get_v0_o a0 a1 a2 a3 z1 z2) ∧ z2 = r0
theorem order_List_at_v0_i (a0 a1 : Int) (a2 : List T_arena_slot) (a3 : List Int) (r0 : T_order_stamp) (h : order_List_at_v0_oi a0 a1 a2 a3 r0) : order_List_at_v0_o a0 a1 a2 a3 r0 := by
 unfold order_List_at_v0_o
 unfold order_List_at_v0_oi at h
 obtain ⟨z1, h⟩ := h
 refine ⟨z1, ?_⟩
 obtain ⟨z2, h⟩ := h
 refine ⟨z2, ?_⟩
 obtain ⟨h0, h⟩ := h
 refine ⟨h0, ?_⟩
 exact ⟨by and_intros <;> first | rfl | trivial, ⟨by and_intros <;> first | rfl | trivial, ⟨by and_intros <;> first | rfl | trivial, ⟨by and_intros <;> first | rfl | trivial, h⟩⟩⟩⟩
def order_List_at_v0_s0 : Sl KK := ⟨21, [], ⟨[(0, .px 2000000 0), (1, .it .i64)], [(2000000, 56, [.px 2000001 0]), (2000001, 70, [.it .i64, .row 2000002, .row 2000003])], [(2000002, 72), (2000003, 3)]⟩, ⟨[(4, .px 1000000 0)], [(1000000, 54, [.v 54])], []⟩, [2000000, 2000001, 2000002, 2000003], [(4, some 3)], true, fun _ _ _ => True⟩
def order_List_at_v0_sl : Sl KK := ⟨21, [], ⟨[(0, .px 2000000 0), (1, .it .i64)], [(2000000, 56, [.px 2000001 0]), (2000001, 70, [.it .i64, .row 2000002, .row 2000003])], [(2000002, 72), (2000003, 3)]⟩, ⟨[(4, .px 1000000 0)], [(1000000, 54, [.v 54])], []⟩, [2000000, 2000001, 2000002, 2000003], [(4, some 3)], true, apFs (K := KK) (ctT order_List_at_v0_s0.ti) (ctT order_List_at_v0_s0.te) [] order_List_at_v0_o⟩
def order_List_at_v0_an : An KK := (.s .o (.s .o (.s .o .o)))
def order_List_at_v0_cf : Cf KK := ⟨CC, [], [arena_Arena_stamp_Get_v0_sl], 17, [], none, false⟩
theorem order_List_at_v0_ok : SlOk Try.prog CC order_List_at_v0_sl := by
 intro fs env out hl hF hW
 obtain ⟨rfl, h0⟩ := apFs_n hW
 obtain ⟨a0, ea0, rfl, h1⟩ := apIn_c h0
 obtain ⟨a1, ea1, rfl, h2⟩ := apIn_c h1
 obtain ⟨a2, ea2, rfl, h3⟩ := apIn_c h2
 obtain ⟨a3, ea3, rfl, h4⟩ := apIn_c h3
 obtain ⟨rfl, h5⟩ := apIn_n h4
 obtain ⟨r0, er0, rfl, h6⟩ := apOut_c h5
 obtain ⟨rfl, h7⟩ := apOut_n h6
 show SlC Try.prog CC order_List_at_v0_sl [] [.i a0, .i a1, .l 72 a2, .l 3 a3] [.v 54 r0]
 rw [show SlC Try.prog CC order_List_at_v0_sl [] [.i a0, .i a1, .l 72 a2, .l 3 a3] [.v 54 r0] = SlC Try.prog CC order_List_at_v0_s0 [] [.i a0, .i a1, .l 72 a2, .l 3 a3] [.v 54 r0] by kernel_rfl]
 exact DnL_by (F := order_List_at_v0_cf) CC_ok SsOk_n (SLOk_c arena_Arena_stamp_Get_v0_ok SLOk_n) t21 (A := order_List_at_v0_an) (sp := order_List_at_v0_s0) rfl (by kernel_rfl) (by kernel_rfl) (Nat.le_of_ble_eq_true (by kernel_rfl)) (fs := []) (env := [.i a0, .i a1, .l 72 a2, .l 3 a3]) (out := [.v 54 r0]) (by kernel_rfl) hF (X := order_List_at_v0_o a0 a1 a2 a3 r0) h7 (by kernel_rfl)
def order_List_between_v0_J1 (z1 : T_order_stamp) (r0 : Int) (r1 : Bool) (r2 : Int) (r3 : List T_arena_slot) (r4 : List Int) (x2 x3 : Int) (x4 : List T_arena_slot) (x5 : List Int) : Prop :=
 ((True)) ∧ (IntKind.u64.wrap (z1.label + (if (1048576 : Int) < (IntKind.u64.wrap ((IntKind.u64.wrap (x2 - z1.label)).tdiv (2 : Int))) then (1048576 : Int) else (IntKind.u64.wrap ((IntKind.u64.wrap (x2 - z1.label)).tdiv (2 : Int)))))) = r0 ∧ (decide ((1 : Int) < (IntKind.u64.wrap (x2 - z1.label)))) = r1 ∧ x3 = r2 ∧ x4 = r3 ∧ x5 = r4
def order_List_between_v0_o (a0 a1 : Int) (a2 : List T_arena_slot) (a3 : List Int) (r0 : Int) (r1 : Bool) (r2 : Int) (r3 : List T_arena_slot) (r4 : List Int) : Prop :=
 ∃ z1, (order_List_at_v0_o a0 a1 a2 a3 z1) ∧ ∀ J1 : Int → Int → (List T_arena_slot) → (List Int) → Prop, (∀ x2 x3 x4 x5, order_List_between_v0_J1 z1 r0 r1 r2 r3 r4 x2 x3 x4 x5 → J1 x2 x3 x4 x5) → cnd (!(z1.next == (-1 : Int))) (∃ z6, (order_List_at_v0_o z1.next a1 a2 a3 z6) ∧ J1 z6.label a1 a2 a3) (J1 (18446744073709551615 : Int) a1 a2 a3)
def order_List_between_v0_J1i (r0 : Int) (r1 : Bool) (r2 : Int) (r3 : List T_arena_slot) (r4 : List Int) (z1 : T_order_stamp) (x2 x3 : Int) (x4 : List T_arena_slot) (x5 : List Int) : Prop :=
 (IntKind.u64.wrap (z1.label + (if (1048576 : Int) < (IntKind.u64.wrap ((IntKind.u64.wrap (x2 - z1.label)).tdiv (2 : Int))) then (1048576 : Int) else (IntKind.u64.wrap ((IntKind.u64.wrap (x2 - z1.label)).tdiv (2 : Int)))))) = r0 ∧ (decide ((1 : Int) < (IntKind.u64.wrap (x2 - z1.label)))) = r1 ∧ x3 = r2 ∧ x4 = r3 ∧ x5 = r4
def order_List_between_v0_oi (a0 a1 : Int) (a2 : List T_arena_slot) (a3 : List Int) (r0 : Int) (r1 : Bool) (r2 : Int) (r3 : List T_arena_slot) (r4 : List Int) : Prop :=
 ∃ z1, (order_List_at_v0_o a0 a1 a2 a3 z1) ∧ cnd (!(z1.next == (-1 : Int))) (∃ z6, (order_List_at_v0_o z1.next a1 a2 a3 z6) ∧ order_List_between_v0_J1i r0 r1 r2 r3 r4 z1 z6.label a1 a2 a3) (order_List_between_v0_J1i r0 r1 r2 r3 r4 z1 (18446744073709551615 : Int) a1 a2 a3)
theorem order_List_between_v0_J1_m (r0 : Int) (r1 : Bool) (r2 : Int) (r3 : List T_arena_slot) (r4 : List Int) (z1 : T_order_stamp) {x2 x3 : Int} {x4 : List T_arena_slot} {x5 : List Int} (h : order_List_between_v0_J1i r0 r1 r2 r3 r4 z1 x2 x3 x4 x5) : order_List_between_v0_J1 z1 r0 r1 r2 r3 r4 x2 x3 x4 x5 := by
 unfold order_List_between_v0_J1
 unfold order_List_between_v0_J1i at h
 exact ⟨by and_intros <;> first | rfl | trivial, h⟩
theorem order_List_between_v0_i (a0 a1 : Int) (a2 : List T_arena_slot) (a3 : List Int) (r0 : Int) (r1 : Bool) (r2 : Int) (r3 : List T_arena_slot) (r4 : List Int) (h : order_List_between_v0_oi a0 a1 a2 a3 r0 r1 r2 r3 r4) : order_List_between_v0_o a0 a1 a2 a3 r0 r1 r2 r3 r4 := by
 unfold order_List_between_v0_o
 unfold order_List_between_v0_oi at h
 obtain ⟨z1, h⟩ := h
 refine ⟨z1, ?_⟩
 obtain ⟨h0, h⟩ := h
 refine ⟨h0, ?_⟩
 intro J1 kJ1
 have hJ1 : ∀ x2 x3 x4 x5, order_List_between_v0_J1i r0 r1 r2 r3 r4 z1 x2 x3 x4 x5 → J1 x2 x3 x4 x5 := fun x2 x3 x4 x5 q => kJ1 x2 x3 x4 x5 (order_List_between_v0_J1_m r0 r1 r2 r3 r4 z1 q)
 refine cnd_mono h (fun h => ?_) (fun h => ?_)
 ·obtain ⟨z6, h⟩ := h
  refine ⟨z6, ?_⟩
  obtain ⟨h0, h⟩ := h
  refine ⟨h0, ?_⟩
  exact hJ1 _ _ _ _ h
 ·exact hJ1 _ _ _ _ h
def order_List_between_v0_s0 : Sl KK := ⟨19, [], ⟨[(0, .px 2000000 0), (1, .it .i64)], [(2000000, 56, [.px 2000001 0]), (2000001, 70, [.it .i64, .row 2000002, .row 2000003])], [(2000002, 72), (2000003, 3)]⟩, ⟨[(4, .it .u64), (5, .bl)], [(2000001, 70, [.it .i64, .row 1000000, .row 1000001])], [(1000000, 72), (1000001, 3)]⟩, [2000000], [(4, none), (5, none)], true, fun _ _ _ => True⟩
def order_List_between_v0_sl : Sl KK := ⟨19, [], ⟨[(0, .px 2000000 0), (1, .it .i64)], [(2000000, 56, [.px 2000001 0]), (2000001, 70, [.it .i64, .row 2000002, .row 2000003])], [(2000002, 72), (2000003, 3)]⟩, ⟨[(4, .it .u64), (5, .bl)], [(2000001, 70, [.it .i64, .row 1000000, .row 1000001])], [(1000000, 72), (1000001, 3)]⟩, [2000000], [(4, none), (5, none)], true, apFs (K := KK) (ctT order_List_between_v0_s0.ti) (ctT order_List_between_v0_s0.te) [] order_List_between_v0_o⟩
def order_List_between_v0_an : An KK := (.s .o (.s .o (.s .o (.j ⟨[(6, .px 6 0), (7, .it .u64)], [(6, 54, [.kp 1, .kp 2, .kp 3]), (2000000, 56, [.px 2000001 0]), (2000001, 70, [.it .i64, .row 2000002, .row 2000003])], [(2000002, 72), (2000003, 3)]⟩ (.s .o (.c .o .o)) (fun _ => (.s .o .o))))))
def order_List_between_v0_cf : Cf KK := ⟨CC, [], [order_List_at_v0_sl], 33, [], none, false⟩
theorem order_List_between_v0_ok : SlOk Try.prog CC order_List_between_v0_sl := by
 intro fs env out hl hF hW
 obtain ⟨rfl, h0⟩ := apFs_n hW
 obtain ⟨a0, ea0, rfl, h1⟩ := apIn_c h0
 obtain ⟨a1, ea1, rfl, h2⟩ := apIn_c h1
 obtain ⟨a2, ea2, rfl, h3⟩ := apIn_c h2
 obtain ⟨a3, ea3, rfl, h4⟩ := apIn_c h3
 obtain ⟨rfl, h5⟩ := apIn_n h4
 obtain ⟨r0, er0, rfl, h6⟩ := apOut_c h5
 obtain ⟨r1, er1, rfl, h7⟩ := apOut_c h6
 obtain ⟨r2, er2, rfl, h8⟩ := apOut_c h7
 obtain ⟨r3, er3, rfl, h9⟩ := apOut_c h8
 obtain ⟨r4, er4, rfl, h10⟩ := apOut_c h9
 obtain ⟨rfl, h11⟩ := apOut_n h10
 show SlC Try.prog CC order_List_between_v0_sl [] [.i a0, .i a1, .l 72 a2, .l 3 a3] [.i r0, .b r1, .i r2, .l 72 r3, .l 3 r4]
 rw [show SlC Try.prog CC order_List_between_v0_sl [] [.i a0, .i a1, .l 72 a2, .l 3 a3] [.i r0, .b r1, .i r2, .l 72 r3, .l 3 r4] = SlC Try.prog CC order_List_between_v0_s0 [] [.i a0, .i a1, .l 72 a2, .l 3 a3] [.i r0, .b r1, .i r2, .l 72 r3, .l 3 r4] by kernel_rfl]
 exact DnL_by (F := order_List_between_v0_cf) CC_ok SsOk_n (SLOk_c order_List_at_v0_ok SLOk_n) t19 (A := order_List_between_v0_an) (sp := order_List_between_v0_s0) rfl (by kernel_rfl) (by kernel_rfl) (Nat.le_of_ble_eq_true (by kernel_rfl)) (fs := []) (env := [.i a0, .i a1, .l 72 a2, .l 3 a3]) (out := [.i r0, .b r1, .i r2, .l 72 r3, .l 3 r4]) (by kernel_rfl) hF (X := order_List_between_v0_o a0 a1 a2 a3 r0 r1 r2 r3 r4) h11 (by kernel_rfl)
def arena_Arena_stamp_Set_v0_o (a0 : Int) (a1 : T_order_stamp) (a2 : Int) (a3 : List T_arena_slot) (a4 : List Int) (r0 : Bool) (r1 : Int) (r2 : List T_arena_slot) : Prop :=
 ∃ z1, (arena_Arena_stamp_has_v0_o a0 a2 a3 a4 z1) ∧ cnd (!z1) ((a4 = a4) ∧ false = r0 ∧ a2 = r1 ∧ a3 = r2) ((0 ≤ a0) ∧ (a0 < (a3.length : Int)) ∧ ∃ y2 : T_arena_slot, (a3[a0.toNat]? = some y2) ∧ (a4 = a4) ∧ true = r0 ∧ a2 = r1 ∧ (a3.set a0.toNat (⟨a1, y2.used⟩ : T_arena_slot)) = r2)
def arena_Arena_stamp_Set_v0_oi (a0 : Int) (a1 : T_order_stamp) (a2 : Int) (a3 : List T_arena_slot) (a4 : List Int) (r0 : Bool) (r1 : Int) (r2 : List T_arena_slot) : Prop :=
 ∃ z1, (arena_Arena_stamp_has_v0_o a0 a2 a3 a4 z1) ∧ cnd (!z1) (false = r0 ∧ a2 = r1 ∧ a3 = r2) ((0 ≤ a0) ∧ (a0 < (a3.length : Int)) ∧ ∃ y2 : T_arena_slot, (a3[a0.toNat]? = some y2) ∧ true = r0 ∧ a2 = r1 ∧ (a3.set a0.toNat (⟨a1, y2.used⟩ : T_arena_slot)) = r2)
theorem arena_Arena_stamp_Set_v0_i (a0 : Int) (a1 : T_order_stamp) (a2 : Int) (a3 : List T_arena_slot) (a4 : List Int) (r0 : Bool) (r1 : Int) (r2 : List T_arena_slot) (h : arena_Arena_stamp_Set_v0_oi a0 a1 a2 a3 a4 r0 r1 r2) : arena_Arena_stamp_Set_v0_o a0 a1 a2 a3 a4 r0 r1 r2 := by
 unfold arena_Arena_stamp_Set_v0_o
 unfold arena_Arena_stamp_Set_v0_oi at h
 obtain ⟨z1, h⟩ := h
 refine ⟨z1, ?_⟩
 obtain ⟨h0, h⟩ := h
 refine ⟨h0, ?_⟩
 refine cnd_mono h (fun h => ?_) (fun h => ?_)
 ·exact ⟨by and_intros <;> first | rfl | trivial, h⟩
 ·obtain ⟨h0, h⟩ := h
  refine ⟨h0, ?_⟩
  obtain ⟨h0, h⟩ := h
  refine ⟨h0, ?_⟩
  obtain ⟨y2, h⟩ := h
  refine ⟨y2, ?_⟩
  obtain ⟨h0, h⟩ := h
  refine ⟨h0, ?_⟩
  exact ⟨by and_intros <;> first | rfl | trivial, h⟩
def arena_Arena_stamp_Set_v0_s0 : Sl KK := ⟨22, [], ⟨[(0, .px 2000000 0), (1, .it .i64), (2, .v 54)], [(2000000, 70, [.it .i64, .row 2000001, .row 2000002])], [(2000001, 72), (2000002, 3)]⟩, ⟨[(6, .bl)], [(2000000, 70, [.it .i64, .row 1000000, .row 2000002])], [(1000000, 72)]⟩, [2000002], [(6, none)], true, fun _ _ _ => True⟩
def arena_Arena_stamp_Set_v0_sl : Sl KK := ⟨22, [], ⟨[(0, .px 2000000 0), (1, .it .i64), (2, .v 54)], [(2000000, 70, [.it .i64, .row 2000001, .row 2000002])], [(2000001, 72), (2000002, 3)]⟩, ⟨[(6, .bl)], [(2000000, 70, [.it .i64, .row 1000000, .row 2000002])], [(1000000, 72)]⟩, [2000002], [(6, none)], true, apFs (K := KK) (ctT arena_Arena_stamp_Set_v0_s0.ti) (ctT arena_Arena_stamp_Set_v0_s0.te) [] arena_Arena_stamp_Set_v0_o⟩
def arena_Arena_stamp_Set_v0_an : An KK := (.s .o (.s (.s .o (.c (.s .o .o) .o)) (.s .o (.s .o .o))))
def arena_Arena_stamp_Set_v0_cf : Cf KK := ⟨CC, [], [arena_Arena_stamp_has_v0_sl], 19, [], none, false⟩
theorem arena_Arena_stamp_Set_v0_ok : SlOk Try.prog CC arena_Arena_stamp_Set_v0_sl := by
 intro fs env out hl hF hW
 obtain ⟨rfl, h0⟩ := apFs_n hW
 obtain ⟨a0, ea0, rfl, h1⟩ := apIn_c h0
 obtain ⟨a1, ea1, rfl, h2⟩ := apIn_c h1
 obtain ⟨a2, ea2, rfl, h3⟩ := apIn_c h2
 obtain ⟨a3, ea3, rfl, h4⟩ := apIn_c h3
 obtain ⟨a4, ea4, rfl, h5⟩ := apIn_c h4
 obtain ⟨rfl, h6⟩ := apIn_n h5
 obtain ⟨r0, er0, rfl, h7⟩ := apOut_c h6
 obtain ⟨r1, er1, rfl, h8⟩ := apOut_c h7
 obtain ⟨r2, er2, rfl, h9⟩ := apOut_c h8
 obtain ⟨rfl, h10⟩ := apOut_n h9
 show SlC Try.prog CC arena_Arena_stamp_Set_v0_sl [] [.i a0, .v 54 a1, .i a2, .l 72 a3, .l 3 a4] [.b r0, .i r1, .l 72 r2]
 rw [show SlC Try.prog CC arena_Arena_stamp_Set_v0_sl [] [.i a0, .v 54 a1, .i a2, .l 72 a3, .l 3 a4] [.b r0, .i r1, .l 72 r2] = SlC Try.prog CC arena_Arena_stamp_Set_v0_s0 [] [.i a0, .v 54 a1, .i a2, .l 72 a3, .l 3 a4] [.b r0, .i r1, .l 72 r2] by kernel_rfl]
 exact DnL_by (F := arena_Arena_stamp_Set_v0_cf) CC_ok SsOk_n (SLOk_c arena_Arena_stamp_has_v0_ok SLOk_n) t22 (A := arena_Arena_stamp_Set_v0_an) (sp := arena_Arena_stamp_Set_v0_s0) rfl (by kernel_rfl) (by kernel_rfl) (Nat.le_of_ble_eq_true (by kernel_rfl)) (fs := []) (env := [.i a0, .v 54 a1, .i a2, .l 72 a3, .l 3 a4]) (out := [.b r0, .i r1, .l 72 r2]) (by kernel_rfl) hF (X := arena_Arena_stamp_Set_v0_o a0 a1 a2 a3 a4 r0 r1 r2) h10 (by kernel_rfl)
def order_List_relabel_v0_L1 (r0 : Int) (r1 : List T_arena_slot) (r2 : List Int) (X1 : Int → Int → Int → (List Int) → (List T_arena_slot) → Prop) (x1 x2 x3 : Int) (x4 : List Int) (x5 : List T_arena_slot) : Prop :=
 cnd (!(x2 == (-1 : Int))) (∃ z6, (order_List_at_v0_o x2 x3 x5 x4 z6) ∧ ∃ z7 z8 z9, (arena_Arena_stamp_Set_v0_o x2 (⟨x1, z6.next, z6.prev⟩ : T_order_stamp) x3 x5 x4 z7 z8 z9) ∧ ∃ z10, (order_List_at_v0_o x2 z8 z9 x4 z10) ∧ X1 (IntKind.u64.wrap (x1 + (1048576 : Int))) z10.next z8 x4 z9) (((True)) ∧ x3 = r0 ∧ x5 = r1 ∧ x4 = r2)
def order_List_relabel_v0_o (a0 : Int) (a1 : List T_arena_slot) (a2 : List Int) (r0 : Int) (r1 : List T_arena_slot) (r2 : List Int) : Prop :=
 ∀ X1 : Int → Int → Int → (List Int) → (List T_arena_slot) → Prop, (∀ x1 x2 x3 x4 x5, order_List_relabel_v0_L1 r0 r1 r2 X1 x1 x2 x3 x4 x5 → X1 x1 x2 x3 x4 x5) → X1 (0 : Int) (0 : Int) a0 a2 a1
def order_List_relabel_v0_L1i (r0 : Int) (r1 : List T_arena_slot) (r2 : List Int) (X1 : Int → Int → Int → (List Int) → (List T_arena_slot) → Prop) (x1 x2 x3 : Int) (x4 : List Int) (x5 : List T_arena_slot) : Prop :=
 cnd (!(x2 == (-1 : Int))) (∃ z6, (order_List_at_v0_o x2 x3 x5 x4 z6) ∧ ∃ z7 z8 z9, (arena_Arena_stamp_Set_v0_o x2 (⟨x1, z6.next, z6.prev⟩ : T_order_stamp) x3 x5 x4 z7 z8 z9) ∧ ∃ z10, (order_List_at_v0_o x2 z8 z9 x4 z10) ∧ X1 (IntKind.u64.wrap (x1 + (1048576 : Int))) z10.next z8 x4 z9) (x3 = r0 ∧ x5 = r1 ∧ x4 = r2)
def order_List_relabel_v0_oi (a0 : Int) (a1 : List T_arena_slot) (a2 : List Int) (r0 : Int) (r1 : List T_arena_slot) (r2 : List Int) : Prop :=
 ∀ X1 : Int → Int → Int → (List Int) → (List T_arena_slot) → Prop, (∀ x1 x2 x3 x4 x5, order_List_relabel_v0_L1i r0 r1 r2 X1 x1 x2 x3 x4 x5 → X1 x1 x2 x3 x4 x5) → X1 (0 : Int) (0 : Int) a0 a2 a1
theorem order_List_relabel_v0_L1_m (r0 : Int) (r1 : List T_arena_slot) (r2 : List Int) {X1 : Int → Int → Int → (List Int) → (List T_arena_slot) → Prop} {x1 x2 x3 : Int} {x4 : List Int} {x5 : List T_arena_slot} (h : order_List_relabel_v0_L1i r0 r1 r2 X1 x1 x2 x3 x4 x5) : order_List_relabel_v0_L1 r0 r1 r2 X1 x1 x2 x3 x4 x5 := by
 unfold order_List_relabel_v0_L1
 unfold order_List_relabel_v0_L1i at h
 refine cnd_mono h (fun h => ?_) (fun h => ?_)
 ·exact h
 ·exact ⟨by and_intros <;> first | rfl | trivial, h⟩
theorem order_List_relabel_v0_i (a0 : Int) (a1 : List T_arena_slot) (a2 : List Int) (r0 : Int) (r1 : List T_arena_slot) (r2 : List Int) (h : order_List_relabel_v0_oi a0 a1 a2 r0 r1 r2) : order_List_relabel_v0_o a0 a1 a2 r0 r1 r2 := by
 unfold order_List_relabel_v0_o
 unfold order_List_relabel_v0_oi at h
 intro X1 k
 exact h X1 (fun x1 x2 x3 x4 x5 q => k x1 x2 x3 x4 x5 (order_List_relabel_v0_L1_m r0 r1 r2 q))
def order_List_relabel_v0_s0 : Sl KK := ⟨20, [], ⟨[(0, .px 2000000 0)], [(2000000, 56, [.px 2000001 0]), (2000001, 70, [.it .i64, .row 2000002, .row 2000003])], [(2000002, 72), (2000003, 3)]⟩, ⟨[], [(2000001, 70, [.it .i64, .row 1000000, .row 1000001])], [(1000000, 72), (1000001, 3)]⟩, [2000000], [], true, fun _ _ _ => True⟩
def order_List_relabel_v0_sl : Sl KK := ⟨20, [], ⟨[(0, .px 2000000 0)], [(2000000, 56, [.px 2000001 0]), (2000001, 70, [.it .i64, .row 2000002, .row 2000003])], [(2000002, 72), (2000003, 3)]⟩, ⟨[], [(2000001, 70, [.it .i64, .row 1000000, .row 1000001])], [(1000000, 72), (1000001, 3)]⟩, [2000000], [], true, apFs (K := KK) (ctT order_List_relabel_v0_s0.ti) (ctT order_List_relabel_v0_s0.te) [] order_List_relabel_v0_o⟩
def order_List_relabel_v0_an : An KK := (.s .o (.s .o (.b (.l ⟨[(0, .px 2000000 0), (2, .it .u64), (3, .it .i64)], [(2000000, 56, [.px 2000001 0]), (2000001, 70, [.it .i64, .row 1001408, .row 2000003])], [(2000003, 3), (1001408, 72)]⟩ (fun _ => (.s (.s .o (.c .o .o)) (.s (.b (.s .o (.s .o (.s .o .o)))) .o)))))))
def order_List_relabel_v0_cf : Cf KK := ⟨CC, [], [order_List_at_v0_sl, arena_Arena_stamp_Set_v0_sl], 25, [], none, false⟩
theorem order_List_relabel_v0_ok : SlOk Try.prog CC order_List_relabel_v0_sl := by
 intro fs env out hl hF hW
 obtain ⟨rfl, h0⟩ := apFs_n hW
 obtain ⟨a0, ea0, rfl, h1⟩ := apIn_c h0
 obtain ⟨a1, ea1, rfl, h2⟩ := apIn_c h1
 obtain ⟨a2, ea2, rfl, h3⟩ := apIn_c h2
 obtain ⟨rfl, h4⟩ := apIn_n h3
 obtain ⟨r0, er0, rfl, h5⟩ := apOut_c h4
 obtain ⟨r1, er1, rfl, h6⟩ := apOut_c h5
 obtain ⟨r2, er2, rfl, h7⟩ := apOut_c h6
 obtain ⟨rfl, h8⟩ := apOut_n h7
 show SlC Try.prog CC order_List_relabel_v0_sl [] [.i a0, .l 72 a1, .l 3 a2] [.i r0, .l 72 r1, .l 3 r2]
 rw [show SlC Try.prog CC order_List_relabel_v0_sl [] [.i a0, .l 72 a1, .l 3 a2] [.i r0, .l 72 r1, .l 3 r2] = SlC Try.prog CC order_List_relabel_v0_s0 [] [.i a0, .l 72 a1, .l 3 a2] [.i r0, .l 72 r1, .l 3 r2] by kernel_rfl]
 exact DnL_by (F := order_List_relabel_v0_cf) CC_ok SsOk_n (SLOk_c order_List_at_v0_ok (SLOk_c arena_Arena_stamp_Set_v0_ok SLOk_n)) t20 (A := order_List_relabel_v0_an) (sp := order_List_relabel_v0_s0) rfl (by kernel_rfl) (by kernel_rfl) (Nat.le_of_ble_eq_true (by kernel_rfl)) (fs := []) (env := [.i a0, .l 72 a1, .l 3 a2]) (out := [.i r0, .l 72 r1, .l 3 r2]) (by kernel_rfl) hF (X := order_List_relabel_v0_o a0 a1 a2 r0 r1 r2) h8 (by kernel_rfl)
def order_List_After_v0_J2 (a0 : Int) (z11 : T_order_stamp) (z12 r0 : Int) (r1 : Bool) (r2 : Int) (r3 : List T_arena_slot) (r4 : List Int) (x17 : Int) (x18 : List T_arena_slot) (x19 : List Int) : Prop :=
 ∃ z20 z21 z22, (arena_Arena_stamp_Set_v0_o a0 (⟨z11.label, z12, z11.prev⟩ : T_order_stamp) x17 x18 x19 z20 z21 z22) ∧ ((True)) ∧ z12 = r0 ∧ true = r1 ∧ z21 = r2 ∧ z22 = r3 ∧ x19 = r4
def order_List_After_v0_J1 (a0 r0 : Int) (r1 : Bool) (r2 : Int) (r3 : List T_arena_slot) (r4 : List Int) (x7 x8 : Int) (x9 : List T_arena_slot) (x10 : List Int) : Prop :=
 ∃ z11, (order_List_at_v0_o a0 x8 x9 x10 z11) ∧ ∃ z12 z13 z14 z15 z16, (arena_Arena_stamp_Alloc_v0_o (⟨x7, z11.next, a0⟩ : T_order_stamp) x8 x9 x10 z12 z13 z14 z15 z16) ∧ cnd (!z13) (((True)) ∧ (0 : Int) = r0 ∧ false = r1 ∧ z14 = r2 ∧ z15 = r3 ∧ z16 = r4) (∀ J2 : Int → (List T_arena_slot) → (List Int) → Prop, (∀ x17 x18 x19, order_List_After_v0_J2 a0 z11 z12 r0 r1 r2 r3 r4 x17 x18 x19 → J2 x17 x18 x19) → cnd (!(z11.next == (-1 : Int))) (∃ z23, (order_List_at_v0_o z11.next z14 z15 z16 z23) ∧ ∃ z24 z25 z26, (arena_Arena_stamp_Set_v0_o z11.next (⟨z23.label, z23.next, z12⟩ : T_order_stamp) z14 z15 z16 z24 z25 z26) ∧ J2 z25 z26 z16) (J2 z14 z15 z16))
def order_List_After_v0_o (a0 a1 : Int) (a2 : List T_arena_slot) (a3 : List Int) (r0 : Int) (r1 : Bool) (r2 : Int) (r3 : List T_arena_slot) (r4 : List Int) : Prop :=
 ∃ z1, (order_List_Has_v0_o a0 a1 a2 a3 z1) ∧ cnd (!z1) (((True)) ∧ (0 : Int) = r0 ∧ false = r1 ∧ a1 = r2 ∧ a2 = r3 ∧ a3 = r4) (∃ z2 z3 z4 z5 z6, (order_List_between_v0_o a0 a1 a2 a3 z2 z3 z4 z5 z6) ∧ ∀ J1 : Int → Int → (List T_arena_slot) → (List Int) → Prop, (∀ x7 x8 x9 x10, order_List_After_v0_J1 a0 r0 r1 r2 r3 r4 x7 x8 x9 x10 → J1 x7 x8 x9 x10) → cnd (!z3) (∃ z27 z28 z29, (order_List_relabel_v0_o z4 z5 z6 z27 z28 z29) ∧ ∃ z30 z31 z32 z33 z34, (order_List_between_v0_o a0 z27 z28 z29 z30 z31 z32 z33 z34) ∧ J1 z30 z32 z33 z34) (J1 z2 z4 z5 z6))
def order_List_After_v0_J2i (a0 r0 : Int) (r1 : Bool) (r2 : Int) (r3 : List T_arena_slot) (r4 : List Int) (z11 : T_order_stamp) (z12 x17 : Int) (x18 : List T_arena_slot) (x19 : List Int) : Prop :=
 ∃ z20 z21 z22, (arena_Arena_stamp_Set_v0_o a0 (⟨z11.label, z12, z11.prev⟩ : T_order_stamp) x17 x18 x19 z20 z21 z22) ∧ z12 = r0 ∧ true = r1 ∧ z21 = r2 ∧ z22 = r3 ∧ x19 = r4
def order_List_After_v0_J1i (a0 r0 : Int) (r1 : Bool) (r2 : Int) (r3 : List T_arena_slot) (r4 : List Int) (x7 x8 : Int) (x9 : List T_arena_slot) (x10 : List Int) : Prop :=
 ∃ z11, (order_List_at_v0_o a0 x8 x9 x10 z11) ∧ ∃ z12 z13 z14 z15 z16, (arena_Arena_stamp_Alloc_v0_o (⟨x7, z11.next, a0⟩ : T_order_stamp) x8 x9 x10 z12 z13 z14 z15 z16) ∧ cnd (!z13) ((0 : Int) = r0 ∧ false = r1 ∧ z14 = r2 ∧ z15 = r3 ∧ z16 = r4) (cnd (!(z11.next == (-1 : Int))) (∃ z23, (order_List_at_v0_o z11.next z14 z15 z16 z23) ∧ ∃ z24 z25 z26, (arena_Arena_stamp_Set_v0_o z11.next (⟨z23.label, z23.next, z12⟩ : T_order_stamp) z14 z15 z16 z24 z25 z26) ∧ order_List_After_v0_J2i a0 r0 r1 r2 r3 r4 z11 z12 z25 z26 z16) (order_List_After_v0_J2i a0 r0 r1 r2 r3 r4 z11 z12 z14 z15 z16))
def order_List_After_v0_oi (a0 a1 : Int) (a2 : List T_arena_slot) (a3 : List Int) (r0 : Int) (r1 : Bool) (r2 : Int) (r3 : List T_arena_slot) (r4 : List Int) : Prop :=
 ∃ z1, (order_List_Has_v0_o a0 a1 a2 a3 z1) ∧ cnd (!z1) ((0 : Int) = r0 ∧ false = r1 ∧ a1 = r2 ∧ a2 = r3 ∧ a3 = r4) (∃ z2 z3 z4 z5 z6, (order_List_between_v0_o a0 a1 a2 a3 z2 z3 z4 z5 z6) ∧ cnd (!z3) (∃ z27 z28 z29, (order_List_relabel_v0_o z4 z5 z6 z27 z28 z29) ∧ ∃ z30 z31 z32 z33 z34, (order_List_between_v0_o a0 z27 z28 z29 z30 z31 z32 z33 z34) ∧ order_List_After_v0_J1i a0 r0 r1 r2 r3 r4 z30 z32 z33 z34) (order_List_After_v0_J1i a0 r0 r1 r2 r3 r4 z2 z4 z5 z6))
theorem order_List_After_v0_J2_m (a0 r0 : Int) (r1 : Bool) (r2 : Int) (r3 : List T_arena_slot) (r4 : List Int) (z11 : T_order_stamp) (z12 : Int) {x17 : Int} {x18 : List T_arena_slot} {x19 : List Int} (h : order_List_After_v0_J2i a0 r0 r1 r2 r3 r4 z11 z12 x17 x18 x19) : order_List_After_v0_J2 a0 z11 z12 r0 r1 r2 r3 r4 x17 x18 x19 := by
 unfold order_List_After_v0_J2
 unfold order_List_After_v0_J2i at h
 obtain ⟨z20, h⟩ := h
 refine ⟨z20, ?_⟩
 obtain ⟨z21, h⟩ := h
 refine ⟨z21, ?_⟩
 obtain ⟨z22, h⟩ := h
 refine ⟨z22, ?_⟩
 obtain ⟨h0, h⟩ := h
 refine ⟨h0, ?_⟩
 exact ⟨by and_intros <;> first | rfl | trivial, h⟩
theorem order_List_After_v0_J1_m (a0 r0 : Int) (r1 : Bool) (r2 : Int) (r3 : List T_arena_slot) (r4 : List Int) {x7 x8 : Int} {x9 : List T_arena_slot} {x10 : List Int} (h : order_List_After_v0_J1i a0 r0 r1 r2 r3 r4 x7 x8 x9 x10) : order_List_After_v0_J1 a0 r0 r1 r2 r3 r4 x7 x8 x9 x10 := by
 unfold order_List_After_v0_J1
 unfold order_List_After_v0_J1i at h
 obtain ⟨z11, h⟩ := h
 refine ⟨z11, ?_⟩
 obtain ⟨h0, h⟩ := h
 refine ⟨h0, ?_⟩
 obtain ⟨z12, h⟩ := h
 refine ⟨z12, ?_⟩
 obtain ⟨z13, h⟩ := h
 refine ⟨z13, ?_⟩
 obtain ⟨z14, h⟩ := h
 refine ⟨z14, ?_⟩
 obtain ⟨z15, h⟩ := h
 refine ⟨z15, ?_⟩
 obtain ⟨z16, h⟩ := h
 refine ⟨z16, ?_⟩
 obtain ⟨h0, h⟩ := h
 refine ⟨h0, ?_⟩
 refine cnd_mono h (fun h => ?_) (fun h => ?_)
 ·exact ⟨by and_intros <;> first | rfl | trivial, h⟩
 ·intro J2 kJ2
  have hJ2 : ∀ x17 x18 x19, order_List_After_v0_J2i a0 r0 r1 r2 r3 r4 z11 z12 x17 x18 x19 → J2 x17 x18 x19 := fun x17 x18 x19 q => kJ2 x17 x18 x19 (order_List_After_v0_J2_m a0 r0 r1 r2 r3 r4 z11 z12 q)
  refine cnd_mono h (fun h => ?_) (fun h => ?_)
  ·obtain ⟨z23, h⟩ := h
   refine ⟨z23, ?_⟩
   obtain ⟨h0, h⟩ := h
   refine ⟨h0, ?_⟩
   obtain ⟨z24, h⟩ := h
   refine ⟨z24, ?_⟩
   obtain ⟨z25, h⟩ := h
   refine ⟨z25, ?_⟩
   obtain ⟨z26, h⟩ := h
   refine ⟨z26, ?_⟩
   obtain ⟨h0, h⟩ := h
   refine ⟨h0, ?_⟩
   exact hJ2 _ _ _ h
  ·exact hJ2 _ _ _ h
theorem order_List_After_v0_i (a0 a1 : Int) (a2 : List T_arena_slot) (a3 : List Int) (r0 : Int) (r1 : Bool) (r2 : Int) (r3 : List T_arena_slot) (r4 : List Int) (h : order_List_After_v0_oi a0 a1 a2 a3 r0 r1 r2 r3 r4) : order_List_After_v0_o a0 a1 a2 a3 r0 r1 r2 r3 r4 := by
 unfold order_List_After_v0_o
 unfold order_List_After_v0_oi at h
 obtain ⟨z1, h⟩ := h
 refine ⟨z1, ?_⟩
 obtain ⟨h0, h⟩ := h
 refine ⟨h0, ?_⟩
 refine cnd_mono h (fun h => ?_) (fun h => ?_)
 ·exact ⟨by and_intros <;> first | rfl | trivial, h⟩
 ·obtain ⟨z2, h⟩ := h
  refine ⟨z2, ?_⟩
  obtain ⟨z3, h⟩ := h
  refine ⟨z3, ?_⟩
  obtain ⟨z4, h⟩ := h
  refine ⟨z4, ?_⟩
  obtain ⟨z5, h⟩ := h
  refine ⟨z5, ?_⟩
  obtain ⟨z6, h⟩ := h
  refine ⟨z6, ?_⟩
  obtain ⟨h0, h⟩ := h
  refine ⟨h0, ?_⟩
  intro J1 kJ1
  have hJ1 : ∀ x7 x8 x9 x10, order_List_After_v0_J1i a0 r0 r1 r2 r3 r4 x7 x8 x9 x10 → J1 x7 x8 x9 x10 := fun x7 x8 x9 x10 q => kJ1 x7 x8 x9 x10 (order_List_After_v0_J1_m a0 r0 r1 r2 r3 r4 q)
  refine cnd_mono h (fun h => ?_) (fun h => ?_)
  ·obtain ⟨z27, h⟩ := h
   refine ⟨z27, ?_⟩
   obtain ⟨z28, h⟩ := h
   refine ⟨z28, ?_⟩
   obtain ⟨z29, h⟩ := h
   refine ⟨z29, ?_⟩
   obtain ⟨h0, h⟩ := h
   refine ⟨h0, ?_⟩
   obtain ⟨z30, h⟩ := h
   refine ⟨z30, ?_⟩
   obtain ⟨z31, h⟩ := h
   refine ⟨z31, ?_⟩
   obtain ⟨z32, h⟩ := h
   refine ⟨z32, ?_⟩
   obtain ⟨z33, h⟩ := h
   refine ⟨z33, ?_⟩
   obtain ⟨z34, h⟩ := h
   refine ⟨z34, ?_⟩
   obtain ⟨h0, h⟩ := h
   refine ⟨h0, ?_⟩
   exact hJ1 _ _ _ _ h
  ·exact hJ1 _ _ _ _ h
def order_List_After_v0_s0 : Sl KK := ⟨7, [], ⟨[(0, .px 2000000 0), (1, .it .i64)], [(2000000, 56, [.px 2000001 0]), (2000001, 70, [.it .i64, .row 2000002, .row 2000003])], [(2000002, 72), (2000003, 3)]⟩, ⟨[(4, .it .i64), (5, .bl)], [(2000001, 70, [.it .i64, .row 1000000, .row 1000001])], [(1000000, 72), (1000001, 3)]⟩, [2000000], [(4, none), (5, none)], true, fun _ _ _ => True⟩
def order_List_After_v0_sl : Sl KK := ⟨7, [], ⟨[(0, .px 2000000 0), (1, .it .i64)], [(2000000, 56, [.px 2000001 0]), (2000001, 70, [.it .i64, .row 2000002, .row 2000003])], [(2000002, 72), (2000003, 3)]⟩, ⟨[(4, .it .i64), (5, .bl)], [(2000001, 70, [.it .i64, .row 1000000, .row 1000001])], [(1000000, 72), (1000001, 3)]⟩, [2000000], [(4, none), (5, none)], true, apFs (K := KK) (ctT order_List_After_v0_s0.ti) (ctT order_List_After_v0_s0.te) [] order_List_After_v0_o⟩
def order_List_After_v0_an : An KK := (.s .o (.s (.s .o (.c (.s .o .o) .o)) (.s .o (.j ⟨[(0, .px 2000000 0), (1, .kp 1), (6, .it .u64)], [(2000000, 56, [.px 2000001 0]), (2000001, 70, [.it .i64, .row 1001792, .row 1001793])], [(1001792, 72), (1001793, 3)]⟩ (.s .o (.c (.s .o .o) .o)) (fun _ => (.s .o (.s .o (.s (.s .o (.c (.s .o .o) .o)) (.j ⟨[(0, .px 2000000 0), (1, .kp 1), (8, .px 8 0), (9, .kp 2)], [(2000000, 56, [.px 2000001 0]), (8, 54, [.kp 3, .kp 4, .kp 5]), (2000001, 70, [.it .i64, .row 1004160, .row 1002817])], [(1004160, 72), (1002817, 3)]⟩ (.s .o (.c (.s .o (.s .o .o)) .o)) (fun _ => (.s .o (.s .o (.s .o .o)))))))))))))
def order_List_After_v0_cf : Cf KK := ⟨CC, [], [order_List_Has_v0_sl, order_List_between_v0_sl, order_List_relabel_v0_sl, order_List_at_v0_sl, arena_Arena_stamp_Alloc_v0_sl, arena_Arena_stamp_Set_v0_sl], 76, [], none, false⟩
theorem order_List_After_v0_ok : SlOk Try.prog CC order_List_After_v0_sl := by
 intro fs env out hl hF hW
 obtain ⟨rfl, h0⟩ := apFs_n hW
 obtain ⟨a0, ea0, rfl, h1⟩ := apIn_c h0
 obtain ⟨a1, ea1, rfl, h2⟩ := apIn_c h1
 obtain ⟨a2, ea2, rfl, h3⟩ := apIn_c h2
 obtain ⟨a3, ea3, rfl, h4⟩ := apIn_c h3
 obtain ⟨rfl, h5⟩ := apIn_n h4
 obtain ⟨r0, er0, rfl, h6⟩ := apOut_c h5
 obtain ⟨r1, er1, rfl, h7⟩ := apOut_c h6
 obtain ⟨r2, er2, rfl, h8⟩ := apOut_c h7
 obtain ⟨r3, er3, rfl, h9⟩ := apOut_c h8
 obtain ⟨r4, er4, rfl, h10⟩ := apOut_c h9
 obtain ⟨rfl, h11⟩ := apOut_n h10
 show SlC Try.prog CC order_List_After_v0_sl [] [.i a0, .i a1, .l 72 a2, .l 3 a3] [.i r0, .b r1, .i r2, .l 72 r3, .l 3 r4]
 rw [show SlC Try.prog CC order_List_After_v0_sl [] [.i a0, .i a1, .l 72 a2, .l 3 a3] [.i r0, .b r1, .i r2, .l 72 r3, .l 3 r4] = SlC Try.prog CC order_List_After_v0_s0 [] [.i a0, .i a1, .l 72 a2, .l 3 a3] [.i r0, .b r1, .i r2, .l 72 r3, .l 3 r4] by kernel_rfl]
 exact DnL_by (F := order_List_After_v0_cf) CC_ok SsOk_n (SLOk_c order_List_Has_v0_ok (SLOk_c order_List_between_v0_ok (SLOk_c order_List_relabel_v0_ok (SLOk_c order_List_at_v0_ok (SLOk_c arena_Arena_stamp_Alloc_v0_ok (SLOk_c arena_Arena_stamp_Set_v0_ok SLOk_n)))))) t7 (A := order_List_After_v0_an) (sp := order_List_After_v0_s0) rfl (by kernel_rfl) (by kernel_rfl) (Nat.le_of_ble_eq_true (by kernel_rfl)) (fs := []) (env := [.i a0, .i a1, .l 72 a2, .l 3 a3]) (out := [.i r0, .b r1, .i r2, .l 72 r3, .l 3 r4]) (by kernel_rfl) hF (X := order_List_After_v0_o a0 a1 a2 a3 r0 r1 r2 r3 r4) h11 (by kernel_rfl)
def order_List_Less_v0_o (a0 a1 a2 : Int) (a3 : List T_arena_slot) (a4 : List Int) (r0 : Bool) : Prop :=
 ∃ z1, (order_List_Has_v0_o a0 a2 a3 a4 z1) ∧ cnd z1 (∃ z2, (order_List_Has_v0_o a1 a2 a3 a4 z2) ∧ cnd z2 (∃ z3, (order_List_at_v0_o a0 a2 a3 a4 z3) ∧ ∃ z4, (order_List_at_v0_o a1 a2 a3 a4 z4) ∧ ((True)) ∧ ((a2 = a2) ∧ (True) ∧ (True)) ∧ (a3 = a3) ∧ (a4 = a4) ∧ (decide (z3.label < z4.label)) = r0) (((True)) ∧ ((a2 = a2) ∧ (True) ∧ (True)) ∧ (a3 = a3) ∧ (a4 = a4) ∧ false = r0)) (((True)) ∧ ((a2 = a2) ∧ (True) ∧ (True)) ∧ (a3 = a3) ∧ (a4 = a4) ∧ false = r0)
def order_List_Less_v0_oi (a0 a1 a2 : Int) (a3 : List T_arena_slot) (a4 : List Int) (r0 : Bool) : Prop :=
 ∃ z1, (order_List_Has_v0_o a0 a2 a3 a4 z1) ∧ cnd z1 (∃ z2, (order_List_Has_v0_o a1 a2 a3 a4 z2) ∧ cnd z2 (∃ z3, (order_List_at_v0_o a0 a2 a3 a4 z3) ∧ ∃ z4, (order_List_at_v0_o a1 a2 a3 a4 z4) ∧ (decide (z3.label < z4.label)) = r0) (false = r0)) (false = r0)
theorem order_List_Less_v0_i (a0 a1 a2 : Int) (a3 : List T_arena_slot) (a4 : List Int) (r0 : Bool) (h : order_List_Less_v0_oi a0 a1 a2 a3 a4 r0) : order_List_Less_v0_o a0 a1 a2 a3 a4 r0 := by
 unfold order_List_Less_v0_o
 unfold order_List_Less_v0_oi at h
 obtain ⟨z1, h⟩ := h
 refine ⟨z1, ?_⟩
 obtain ⟨h0, h⟩ := h
 refine ⟨h0, ?_⟩
 refine cnd_mono h (fun h => ?_) (fun h => ?_)
 ·obtain ⟨z2, h⟩ := h
  refine ⟨z2, ?_⟩
  obtain ⟨h0, h⟩ := h
  refine ⟨h0, ?_⟩
  refine cnd_mono h (fun h => ?_) (fun h => ?_)
  ·obtain ⟨z3, h⟩ := h
   refine ⟨z3, ?_⟩
   obtain ⟨h0, h⟩ := h
   refine ⟨h0, ?_⟩
   obtain ⟨z4, h⟩ := h
   refine ⟨z4, ?_⟩
   obtain ⟨h0, h⟩ := h
   refine ⟨h0, ?_⟩
   exact ⟨by and_intros <;> first | rfl | trivial, ⟨by and_intros <;> first | rfl | trivial, ⟨by and_intros <;> first | rfl | trivial, ⟨by and_intros <;> first | rfl | trivial, h⟩⟩⟩⟩
  ·exact ⟨by and_intros <;> first | rfl | trivial, ⟨by and_intros <;> first | rfl | trivial, ⟨by and_intros <;> first | rfl | trivial, ⟨by and_intros <;> first | rfl | trivial, h⟩⟩⟩⟩
 ·exact ⟨by and_intros <;> first | rfl | trivial, ⟨by and_intros <;> first | rfl | trivial, ⟨by and_intros <;> first | rfl | trivial, ⟨by and_intros <;> first | rfl | trivial, h⟩⟩⟩⟩
def order_List_Less_v0_s0 : Sl KK := ⟨8, [], ⟨[(0, .px 2000000 0), (1, .it .i64), (2, .it .i64)], [(2000000, 56, [.px 2000001 0]), (2000001, 70, [.it .i64, .row 2000002, .row 2000003])], [(2000002, 72), (2000003, 3)]⟩, ⟨[(6, .bl)], [], []⟩, [2000000, 2000001, 2000002, 2000003], [(6, none)], true, fun _ _ _ => True⟩
def order_List_Less_v0_sl : Sl KK := ⟨8, [], ⟨[(0, .px 2000000 0), (1, .it .i64), (2, .it .i64)], [(2000000, 56, [.px 2000001 0]), (2000001, 70, [.it .i64, .row 2000002, .row 2000003])], [(2000002, 72), (2000003, 3)]⟩, ⟨[(6, .bl)], [], []⟩, [2000000, 2000001, 2000002, 2000003], [(6, none)], true, apFs (K := KK) (ctT order_List_Less_v0_s0.ti) (ctT order_List_Less_v0_s0.te) [] order_List_Less_v0_o⟩
def order_List_Less_v0_an : An KK := (.s .o (.s .o .o))
def order_List_Less_v0_cf : Cf KK := ⟨CC, [], [order_List_Has_v0_sl, order_List_at_v0_sl], 26, [], none, false⟩
theorem order_List_Less_v0_ok : SlOk Try.prog CC order_List_Less_v0_sl := by
 intro fs env out hl hF hW
 obtain ⟨rfl, h0⟩ := apFs_n hW
 obtain ⟨a0, ea0, rfl, h1⟩ := apIn_c h0
 obtain ⟨a1, ea1, rfl, h2⟩ := apIn_c h1
 obtain ⟨a2, ea2, rfl, h3⟩ := apIn_c h2
 obtain ⟨a3, ea3, rfl, h4⟩ := apIn_c h3
 obtain ⟨a4, ea4, rfl, h5⟩ := apIn_c h4
 obtain ⟨rfl, h6⟩ := apIn_n h5
 obtain ⟨r0, er0, rfl, h7⟩ := apOut_c h6
 obtain ⟨rfl, h8⟩ := apOut_n h7
 show SlC Try.prog CC order_List_Less_v0_sl [] [.i a0, .i a1, .i a2, .l 72 a3, .l 3 a4] [.b r0]
 rw [show SlC Try.prog CC order_List_Less_v0_sl [] [.i a0, .i a1, .i a2, .l 72 a3, .l 3 a4] [.b r0] = SlC Try.prog CC order_List_Less_v0_s0 [] [.i a0, .i a1, .i a2, .l 72 a3, .l 3 a4] [.b r0] by kernel_rfl]
 exact DnL_by (F := order_List_Less_v0_cf) CC_ok SsOk_n (SLOk_c order_List_Has_v0_ok (SLOk_c order_List_at_v0_ok SLOk_n)) t8 (A := order_List_Less_v0_an) (sp := order_List_Less_v0_s0) rfl (by kernel_rfl) (by kernel_rfl) (Nat.le_of_ble_eq_true (by kernel_rfl)) (fs := []) (env := [.i a0, .i a1, .i a2, .l 72 a3, .l 3 a4]) (out := [.b r0]) (by kernel_rfl) hF (X := order_List_Less_v0_o a0 a1 a2 a3 a4 r0) h8 (by kernel_rfl)
def order_List_Len_v0_o (a0 : Int) (a1 : List T_arena_slot) (a2 : List Int) (r0 : Int) : Prop :=
 ∃ z1, (arena_Arena_stamp_Live_v0_o a0 a1 a2 z1) ∧ ((True)) ∧ ((a0 = a0) ∧ (True) ∧ (True)) ∧ (a1 = a1) ∧ (a2 = a2) ∧ z1 = r0
def order_List_Len_v0_oi (a0 : Int) (a1 : List T_arena_slot) (a2 : List Int) (r0 : Int) : Prop :=
 ∃ z1, (arena_Arena_stamp_Live_v0_o a0 a1 a2 z1) ∧ z1 = r0
theorem order_List_Len_v0_i (a0 : Int) (a1 : List T_arena_slot) (a2 : List Int) (r0 : Int) (h : order_List_Len_v0_oi a0 a1 a2 r0) : order_List_Len_v0_o a0 a1 a2 r0 := by
 unfold order_List_Len_v0_o
 unfold order_List_Len_v0_oi at h
 obtain ⟨z1, h⟩ := h
 refine ⟨z1, ?_⟩
 obtain ⟨h0, h⟩ := h
 refine ⟨h0, ?_⟩
 exact ⟨by and_intros <;> first | rfl | trivial, ⟨by and_intros <;> first | rfl | trivial, ⟨by and_intros <;> first | rfl | trivial, ⟨by and_intros <;> first | rfl | trivial, h⟩⟩⟩⟩
def order_List_Len_v0_s0 : Sl KK := ⟨10, [], ⟨[(0, .px 2000000 0)], [(2000000, 56, [.px 2000001 0]), (2000001, 70, [.it .i64, .row 2000002, .row 2000003])], [(2000002, 72), (2000003, 3)]⟩, ⟨[(2, .it .i64)], [], []⟩, [2000000, 2000001, 2000002, 2000003], [(2, none)], true, fun _ _ _ => True⟩
def order_List_Len_v0_sl : Sl KK := ⟨10, [], ⟨[(0, .px 2000000 0)], [(2000000, 56, [.px 2000001 0]), (2000001, 70, [.it .i64, .row 2000002, .row 2000003])], [(2000002, 72), (2000003, 3)]⟩, ⟨[(2, .it .i64)], [], []⟩, [2000000, 2000001, 2000002, 2000003], [(2, none)], true, apFs (K := KK) (ctT order_List_Len_v0_s0.ti) (ctT order_List_Len_v0_s0.te) [] order_List_Len_v0_o⟩
def order_List_Len_v0_an : An KK := (.s .o (.s (.s .o (.c (.s .o .o) .o)) (.s .o .o)))
def order_List_Len_v0_cf : Cf KK := ⟨CC, [], [arena_Arena_stamp_Live_v0_sl], 10, [], none, false⟩
theorem order_List_Len_v0_ok : SlOk Try.prog CC order_List_Len_v0_sl := by
 intro fs env out hl hF hW
 obtain ⟨rfl, h0⟩ := apFs_n hW
 obtain ⟨a0, ea0, rfl, h1⟩ := apIn_c h0
 obtain ⟨a1, ea1, rfl, h2⟩ := apIn_c h1
 obtain ⟨a2, ea2, rfl, h3⟩ := apIn_c h2
 obtain ⟨rfl, h4⟩ := apIn_n h3
 obtain ⟨r0, er0, rfl, h5⟩ := apOut_c h4
 obtain ⟨rfl, h6⟩ := apOut_n h5
 show SlC Try.prog CC order_List_Len_v0_sl [] [.i a0, .l 72 a1, .l 3 a2] [.i r0]
 rw [show SlC Try.prog CC order_List_Len_v0_sl [] [.i a0, .l 72 a1, .l 3 a2] [.i r0] = SlC Try.prog CC order_List_Len_v0_s0 [] [.i a0, .l 72 a1, .l 3 a2] [.i r0] by kernel_rfl]
 exact DnL_by (F := order_List_Len_v0_cf) CC_ok SsOk_n (SLOk_c arena_Arena_stamp_Live_v0_ok SLOk_n) t10 (A := order_List_Len_v0_an) (sp := order_List_Len_v0_s0) rfl (by kernel_rfl) (by kernel_rfl) (Nat.le_of_ble_eq_true (by kernel_rfl)) (fs := []) (env := [.i a0, .l 72 a1, .l 3 a2]) (out := [.i r0]) (by kernel_rfl) hF (X := order_List_Len_v0_o a0 a1 a2 r0) h6 (by kernel_rfl)
def law02_speaks_J1 (r0 x14 : Bool) : Prop :=
 x14 = r0
def law02_speaks_o (r0 : Bool) : Prop :=
 ∃ z1 z2 z3, (order_New_v0_o z1 z2 z3) ∧ ∃ z4 z5 z6 z7 z8, (order_List_After_v0_o (0 : Int) z1 z2 z3 z4 z5 z6 z7 z8) ∧ ∃ z9 z10 z11 z12 z13, (order_List_After_v0_o (0 : Int) z6 z7 z8 z9 z10 z11 z12 z13) ∧ ∀ J1 : Bool → Prop, (∀ x14, law02_speaks_J1 r0 x14 → J1 x14) → cnd z5 (cnd z10 (cnd (z4 == (1 : Int)) (cnd (z9 == (2 : Int)) (∃ z15, (order_List_Less_v0_o z9 z4 z11 z12 z13 z15) ∧ cnd z15 (∃ z16, (order_List_Less_v0_o z4 z9 z11 z12 z13 z16) ∧ cnd (!z16) (∃ z17, (order_List_Len_v0_o z11 z12 z13 z17) ∧ J1 (z17 == (3 : Int))) (J1 false)) (J1 false)) (J1 false)) (J1 false)) (J1 false)) (J1 false)
def law02_speaks_J1i (r0 x14 : Bool) : Prop :=
 x14 = r0
def law02_speaks_oi (r0 : Bool) : Prop :=
 ∃ z1 z2 z3, (order_New_v0_o z1 z2 z3) ∧ ∃ z4 z5 z6 z7 z8, (order_List_After_v0_o (0 : Int) z1 z2 z3 z4 z5 z6 z7 z8) ∧ ∃ z9 z10 z11 z12 z13, (order_List_After_v0_o (0 : Int) z6 z7 z8 z9 z10 z11 z12 z13) ∧ cnd z5 (cnd z10 (cnd (z4 == (1 : Int)) (cnd (z9 == (2 : Int)) (∃ z15, (order_List_Less_v0_o z9 z4 z11 z12 z13 z15) ∧ cnd z15 (∃ z16, (order_List_Less_v0_o z4 z9 z11 z12 z13 z16) ∧ cnd (!z16) (∃ z17, (order_List_Len_v0_o z11 z12 z13 z17) ∧ law02_speaks_J1i r0 (z17 == (3 : Int))) (law02_speaks_J1i r0 false)) (law02_speaks_J1i r0 false)) (law02_speaks_J1i r0 false)) (law02_speaks_J1i r0 false)) (law02_speaks_J1i r0 false)) (law02_speaks_J1i r0 false)
theorem law02_speaks_J1_m (r0 : Bool) {x14 : Bool} (h : law02_speaks_J1i r0 x14) : law02_speaks_J1 r0 x14 := by
 unfold law02_speaks_J1
 unfold law02_speaks_J1i at h
 exact h
theorem law02_speaks_i (r0 : Bool) (h : law02_speaks_oi r0) : law02_speaks_o r0 := by
 unfold law02_speaks_o
 unfold law02_speaks_oi at h
 obtain ⟨z1, h⟩ := h
 refine ⟨z1, ?_⟩
 obtain ⟨z2, h⟩ := h
 refine ⟨z2, ?_⟩
 obtain ⟨z3, h⟩ := h
 refine ⟨z3, ?_⟩
 obtain ⟨h0, h⟩ := h
 refine ⟨h0, ?_⟩
 obtain ⟨z4, h⟩ := h
 refine ⟨z4, ?_⟩
 obtain ⟨z5, h⟩ := h
 refine ⟨z5, ?_⟩
 obtain ⟨z6, h⟩ := h
 refine ⟨z6, ?_⟩
 obtain ⟨z7, h⟩ := h
 refine ⟨z7, ?_⟩
 obtain ⟨z8, h⟩ := h
 refine ⟨z8, ?_⟩
 obtain ⟨h0, h⟩ := h
 refine ⟨h0, ?_⟩
 obtain ⟨z9, h⟩ := h
 refine ⟨z9, ?_⟩
 obtain ⟨z10, h⟩ := h
 refine ⟨z10, ?_⟩
 obtain ⟨z11, h⟩ := h
 refine ⟨z11, ?_⟩
 obtain ⟨z12, h⟩ := h
 refine ⟨z12, ?_⟩
 obtain ⟨z13, h⟩ := h
 refine ⟨z13, ?_⟩
 obtain ⟨h0, h⟩ := h
 refine ⟨h0, ?_⟩
 intro J1 kJ1
 have hJ1 : ∀ x14, law02_speaks_J1i r0 x14 → J1 x14 := fun x14 q => kJ1 x14 (law02_speaks_J1_m r0 q)
 refine cnd_mono h (fun h => ?_) (fun h => ?_)
 ·refine cnd_mono h (fun h => ?_) (fun h => ?_)
  ·refine cnd_mono h (fun h => ?_) (fun h => ?_)
   ·refine cnd_mono h (fun h => ?_) (fun h => ?_)
    ·obtain ⟨z15, h⟩ := h
     refine ⟨z15, ?_⟩
     obtain ⟨h0, h⟩ := h
     refine ⟨h0, ?_⟩
     refine cnd_mono h (fun h => ?_) (fun h => ?_)
     ·obtain ⟨z16, h⟩ := h
      refine ⟨z16, ?_⟩
      obtain ⟨h0, h⟩ := h
      refine ⟨h0, ?_⟩
      refine cnd_mono h (fun h => ?_) (fun h => ?_)
      ·obtain ⟨z17, h⟩ := h
       refine ⟨z17, ?_⟩
       obtain ⟨h0, h⟩ := h
       refine ⟨h0, ?_⟩
       exact hJ1 _ h
      ·exact hJ1 _ h
     ·exact hJ1 _ h
    ·exact hJ1 _ h
   ·exact hJ1 _ h
  ·exact hJ1 _ h
 ·exact hJ1 _ h
def law02_speaks_sp : Sp KK := ⟨5, [], [4], appW (K := KK) [4] [] law02_speaks_o⟩
def law02_speaks_an : An KK := (.s .o (.s .o (.s .o (.s .o (.j ⟨[(0, .bl)], [], []⟩ .o (fun _ => .o))))))
def law02_speaks_cf : Cf KK := ⟨CC, [], [order_New_v0_sl, order_List_After_v0_sl, order_List_Less_v0_sl, order_List_Len_v0_sl], 47, [], none, false⟩
theorem law02_speaks_ok : SpOk Try.prog CC law02_speaks_sp := SpOk_by (F := law02_speaks_cf) (ps := []) (rs := [4]) (w := law02_speaks_o) CC_ok SsOk_n (SLOk_c order_New_v0_ok (SLOk_c order_List_After_v0_ok (SLOk_c order_List_Less_v0_ok (SLOk_c order_List_Len_v0_ok SLOk_n)))) t5 (A := law02_speaks_an) (by kernel_rfl) (by kernel_rfl) (fun r0 => show _ = _ by kernel_rfl)
def order_List_All_v0_o (a0 : Int) (a1 : List T_arena_slot) (a2 : List Int) : Prop :=
 ((True)) ∧ ((a0 = a0) ∧ (True) ∧ (True)) ∧ (a1 = a1) ∧ (a2 = a2) ∧ True
def order_List_All_v0_oi (a0 : Int) (a1 : List T_arena_slot) (a2 : List Int) : Prop :=
 True
theorem order_List_All_v0_i (a0 : Int) (a1 : List T_arena_slot) (a2 : List Int) (h : order_List_All_v0_oi a0 a1 a2) : order_List_All_v0_o a0 a1 a2 := by
 unfold order_List_All_v0_o
 unfold order_List_All_v0_oi at h
 exact ⟨by and_intros <;> first | rfl | trivial, ⟨by and_intros <;> first | rfl | trivial, ⟨by and_intros <;> first | rfl | trivial, ⟨by and_intros <;> first | rfl | trivial, h⟩⟩⟩⟩
def order_List_All_v0_s0 : Sl KK := ⟨9, [], ⟨[(0, .px 2000000 0)], [(2000000, 56, [.px 2000001 0]), (2000001, 70, [.it .i64, .row 2000002, .row 2000003])], [(2000002, 72), (2000003, 3)]⟩, ⟨[(2, .fn 23 [] [.px 1000000 0])], [(1000000, 25, [.px 2000000 0])], []⟩, [2000000, 2000001, 2000002, 2000003], [(2, none)], true, fun _ _ _ => True⟩
def order_List_All_v0_sl : Sl KK := ⟨9, [], ⟨[(0, .px 2000000 0)], [(2000000, 56, [.px 2000001 0]), (2000001, 70, [.it .i64, .row 2000002, .row 2000003])], [(2000002, 72), (2000003, 3)]⟩, ⟨[(2, .fn 23 [] [.px 1000000 0])], [(1000000, 25, [.px 2000000 0])], []⟩, [2000000, 2000001, 2000002, 2000003], [(2, none)], true, apFs (K := KK) (ctT order_List_All_v0_s0.ti) (ctT order_List_All_v0_s0.te) [] order_List_All_v0_o⟩
def order_List_All_v0_an : An KK := (.s .o (.s .o .o))
def order_List_All_v0_cf : Cf KK := ⟨CC, [], [], 4, [], none, false⟩
theorem order_List_All_v0_ok : SlOk Try.prog CC order_List_All_v0_sl := by
 intro fs env out hl hF hW
 obtain ⟨rfl, h0⟩ := apFs_n hW
 obtain ⟨a0, ea0, rfl, h1⟩ := apIn_c h0
 obtain ⟨a1, ea1, rfl, h2⟩ := apIn_c h1
 obtain ⟨a2, ea2, rfl, h3⟩ := apIn_c h2
 obtain ⟨rfl, h4⟩ := apIn_n h3
 obtain ⟨rfl, h5⟩ := apOut_n h4
 show SlC Try.prog CC order_List_All_v0_sl [] [.i a0, .l 72 a1, .l 3 a2] []
 rw [show SlC Try.prog CC order_List_All_v0_sl [] [.i a0, .l 72 a1, .l 3 a2] [] = SlC Try.prog CC order_List_All_v0_s0 [] [.i a0, .l 72 a1, .l 3 a2] [] by kernel_rfl]
 exact DnL_by (F := order_List_All_v0_cf) CC_ok SsOk_n SLOk_n t9 (A := order_List_All_v0_an) (sp := order_List_All_v0_s0) rfl (by kernel_rfl) (by kernel_rfl) (Nat.le_of_ble_eq_true (by kernel_rfl)) (fs := []) (env := [.i a0, .l 72 a1, .l 3 a2]) (out := []) (by kernel_rfl) hF (X := order_List_All_v0_o a0 a1 a2) h5 (by kernel_rfl)
def law02_OrderTight_J3 (r0 : Bool) (X1 : Int → Int → Int → (List T_arena_slot) → (List Int) → Prop) (z15 x10 : Int) (x20 : Bool) (x21 : Int) (x22 : List T_arena_slot) (x23 : List Int) : Prop :=
 cnd x20 (false = r0) (X1 z15 (IntKind.i64.wrap (x10 + (1 : Int))) x21 x22 x23)
def law02_OrderTight_J2 (r0 : Bool) (X1 : Int → Int → Int → (List T_arena_slot) → (List Int) → Prop) (x10 x11 x12 : Int) (x13 : List T_arena_slot) (x14 : List Int) : Prop :=
 ∃ z15 z16 z17 z18 z19, (order_List_After_v0_o x11 x12 x13 x14 z15 z16 z17 z18 z19) ∧ ∀ J3 : Bool → Int → (List T_arena_slot) → (List Int) → Prop, (∀ x20 x21 x22 x23, law02_OrderTight_J3 r0 X1 z15 x10 x20 x21 x22 x23 → J3 x20 x21 x22 x23) → cnd (!z16) (J3 true z17 z18 z19) (∃ z24, (order_List_Less_v0_o x11 z15 z17 z18 z19 z24) ∧ cnd (!z24) (J3 true z17 z18 z19) (∃ z25, (order_List_Less_v0_o (0 : Int) z15 z17 z18 z19 z25) ∧ J3 (!z25) z17 z18 z19))
def law02_OrderTight_J4 (J2 : Int → Int → Int → (List T_arena_slot) → (List Int) → Prop) (x6 x5 x7 : Int) (x26 : Bool) (x27 : List T_arena_slot) (x28 : List Int) : Prop :=
 cnd x26 (J2 x6 x5 x7 x27 x28) (J2 x6 (0 : Int) x7 x27 x28)
def law02_OrderTight_J6 (X5 : Int → Int → Bool → Int → (List T_arena_slot) → (List Int) → Prop) (x38 x39 : Int) (x40 : Bool) (x41 : Int) (x42 : List T_arena_slot) (x43 : List Int) : Prop :=
 ∃ z44, (order_List_at_v0_o x38 x41 x42 x43 z44) ∧ X5 z44.next x39 x40 x41 x42 x43
def law02_OrderTight_J7 (r0 : Bool) (J6 : Int → Int → Bool → Int → (List T_arena_slot) → (List Int) → Prop) (x32 : Int) (x45 : Bool) (x46 : Int) (x47 : List T_arena_slot) (x48 : List Int) : Prop :=
 cnd x45 (false = r0) (J6 x32 x32 false x46 x47 x48)
def law02_OrderTight_L5 (r0 : Bool) (a0 : Int) (X5 : Int → Int → Bool → Int → (List T_arena_slot) → (List Int) → Prop) (x32 x33 : Int) (x34 : Bool) (x35 : Int) (x36 : List T_arena_slot) (x37 : List Int) : Prop :=
 cnd (!(x32 == (-1 : Int))) (∀ J6 : Int → Int → Bool → Int → (List T_arena_slot) → (List Int) → Prop, (∀ x38 x39 x40 x41 x42 x43, law02_OrderTight_J6 X5 x38 x39 x40 x41 x42 x43 → J6 x38 x39 x40 x41 x42 x43) → cnd x34 (cnd (!(x32 == (0 : Int))) (false = r0) (J6 x32 x32 false x35 x36 x37)) (∀ J7 : Bool → Int → (List T_arena_slot) → (List Int) → Prop, (∀ x45 x46 x47 x48, law02_OrderTight_J7 r0 J6 x32 x45 x46 x47 x48 → J7 x45 x46 x47 x48) → ∃ z49, (order_List_Less_v0_o x33 x32 x35 x36 x37 z49) ∧ cnd (!z49) (J7 true x35 x36 x37) (∃ z50, (order_List_Less_v0_o x32 x33 x35 x36 x37 z50) ∧ J7 z50 x35 x36 x37))) (∃ z51, (order_List_Len_v0_o x35 x36 x37 z51) ∧ (z51 == (IntKind.i64.wrap ((1 : Int) + ((IntKind.i64.wrap a0).tmod (700 : Int))))) = r0)
def law02_OrderTight_L1 (a0 : Int) (r0 : Bool) (a1 : List Bool) (X1 : Int → Int → Int → (List T_arena_slot) → (List Int) → Prop) (x5 x6 x7 : Int) (x8 : List T_arena_slot) (x9 : List Int) : Prop :=
 cnd (decide (x6 < ((IntKind.i64.wrap a0).tmod (700 : Int)))) (∀ J2 : Int → Int → Int → (List T_arena_slot) → (List Int) → Prop, (∀ x10 x11 x12 x13 x14, law02_OrderTight_J2 r0 X1 x10 x11 x12 x13 x14 → J2 x10 x11 x12 x13 x14) → ∀ J4 : Bool → (List T_arena_slot) → (List Int) → Prop, (∀ x26 x27 x28, law02_OrderTight_J4 J2 x6 x5 x7 x26 x27 x28 → J4 x26 x27 x28) → (a1.length ≤ maxLen → cnd (decide (x6 < (a1.length : Int))) ((0 ≤ x6) ∧ (x6 < (a1.length : Int)) ∧ ∃ y29 : Bool, (a1[x6.toNat]? = some y29) ∧ cnd y29 (J4 true x8 x9) ((a1.length ≤ maxLen → cnd (decide ((0 : Int) < (a1.length : Int))) ((a1.length ≤ maxLen → ((a1.length : Int) ≠ 0) ∧ (0 ≤ (x6.tmod (a1.length : Int))) ∧ ((x6.tmod (a1.length : Int)) < (a1.length : Int)) ∧ ∃ y30 : Bool, (a1[(x6.tmod (a1.length : Int)).toNat]? = some y30) ∧ J4 y30 x8 x9)) (J4 false x8 x9)))) ((a1.length ≤ maxLen → cnd (decide ((0 : Int) < (a1.length : Int))) ((a1.length ≤ maxLen → ((a1.length : Int) ≠ 0) ∧ (0 ≤ (x6.tmod (a1.length : Int))) ∧ ((x6.tmod (a1.length : Int)) < (a1.length : Int)) ∧ ∃ y31 : Bool, (a1[(x6.tmod (a1.length : Int)).toNat]? = some y31) ∧ J4 y31 x8 x9)) (J4 false x8 x9))))) ((order_List_All_v0_o x7 x8 x9) ∧ (Nat → ∀ X5 : Int → Int → Bool → Int → (List T_arena_slot) → (List Int) → Prop, (∀ x32 x33 x34 x35 x36 x37, law02_OrderTight_L5 r0 a0 X5 x32 x33 x34 x35 x36 x37 → X5 x32 x33 x34 x35 x36 x37) → X5 (0 : Int) (0 : Int) true x7 x8 x9))
def law02_OrderTight_o (a0 : Int) (a1 : List Bool) (r0 : Bool) : Prop :=
 ∃ z1, (law02_speaks_o z1) ∧ cnd (!z1) (false = r0) (∃ z2 z3 z4, (order_New_v0_o z2 z3 z4) ∧ ∀ X1 : Int → Int → Int → (List T_arena_slot) → (List Int) → Prop, (∀ x5 x6 x7 x8 x9, law02_OrderTight_L1 a0 r0 a1 X1 x5 x6 x7 x8 x9 → X1 x5 x6 x7 x8 x9) → X1 (0 : Int) (0 : Int) z2 z3 z4)
def law02_OrderTight_J3i (X1 : Int → Int → Int → (List T_arena_slot) → (List Int) → Prop) (r0 : Bool) (x10 z15 : Int) (x20 : Bool) (x21 : Int) (x22 : List T_arena_slot) (x23 : List Int) : Prop :=
 cnd x20 (false = r0) (X1 z15 (IntKind.i64.wrap (x10 + (1 : Int))) x21 x22 x23)
def law02_OrderTight_J2i (X1 : Int → Int → Int → (List T_arena_slot) → (List Int) → Prop) (r0 : Bool) (x10 x11 x12 : Int) (x13 : List T_arena_slot) (x14 : List Int) : Prop :=
 ∃ z15 z16 z17 z18 z19, (order_List_After_v0_o x11 x12 x13 x14 z15 z16 z17 z18 z19) ∧ cnd (!z16) (law02_OrderTight_J3i X1 r0 x10 z15 true z17 z18 z19) (∃ z24, (order_List_Less_v0_o x11 z15 z17 z18 z19 z24) ∧ cnd (!z24) (law02_OrderTight_J3i X1 r0 x10 z15 true z17 z18 z19) (∃ z25, (order_List_Less_v0_o (0 : Int) z15 z17 z18 z19 z25) ∧ law02_OrderTight_J3i X1 r0 x10 z15 (!z25) z17 z18 z19))
def law02_OrderTight_J4i (X1 : Int → Int → Int → (List T_arena_slot) → (List Int) → Prop) (r0 : Bool) (x5 x6 x7 : Int) (x26 : Bool) (x27 : List T_arena_slot) (x28 : List Int) : Prop :=
 cnd x26 (law02_OrderTight_J2i X1 r0 x6 x5 x7 x27 x28) (law02_OrderTight_J2i X1 r0 x6 (0 : Int) x7 x27 x28)
def law02_OrderTight_J6i (X5 : Int → Int → Bool → Int → (List T_arena_slot) → (List Int) → Prop) (x38 x39 : Int) (x40 : Bool) (x41 : Int) (x42 : List T_arena_slot) (x43 : List Int) : Prop :=
 ∃ z44, (order_List_at_v0_o x38 x41 x42 x43 z44) ∧ X5 z44.next x39 x40 x41 x42 x43
def law02_OrderTight_J7i (X5 : Int → Int → Bool → Int → (List T_arena_slot) → (List Int) → Prop) (r0 : Bool) (x32 : Int) (x45 : Bool) (x46 : Int) (x47 : List T_arena_slot) (x48 : List Int) : Prop :=
 cnd x45 (false = r0) (law02_OrderTight_J6i X5 x32 x32 false x46 x47 x48)
def law02_OrderTight_L5i (a0 : Int) (r0 : Bool) (X5 : Int → Int → Bool → Int → (List T_arena_slot) → (List Int) → Prop) (x32 x33 : Int) (x34 : Bool) (x35 : Int) (x36 : List T_arena_slot) (x37 : List Int) : Prop :=
 cnd (!(x32 == (-1 : Int))) (cnd x34 (cnd (!(x32 == (0 : Int))) (false = r0) (law02_OrderTight_J6i X5 x32 x32 false x35 x36 x37)) (∃ z49, (order_List_Less_v0_o x33 x32 x35 x36 x37 z49) ∧ cnd (!z49) (law02_OrderTight_J7i X5 r0 x32 true x35 x36 x37) (∃ z50, (order_List_Less_v0_o x32 x33 x35 x36 x37 z50) ∧ law02_OrderTight_J7i X5 r0 x32 z50 x35 x36 x37))) (∃ z51, (order_List_Len_v0_o x35 x36 x37 z51) ∧ (z51 == (IntKind.i64.wrap ((1 : Int) + ((IntKind.i64.wrap a0).tmod (700 : Int))))) = r0)
def law02_OrderTight_L1i (a0 : Int) (a1 : List Bool) (r0 : Bool) (X1 : Int → Int → Int → (List T_arena_slot) → (List Int) → Prop) (x5 x6 x7 : Int) (x8 : List T_arena_slot) (x9 : List Int) : Prop :=
 cnd (decide (x6 < ((IntKind.i64.wrap a0).tmod (700 : Int)))) ((a1.length ≤ maxLen → cnd (decide (x6 < (a1.length : Int))) ((0 ≤ x6) ∧ (x6 < (a1.length : Int)) ∧ ∃ y29 : Bool, (a1[x6.toNat]? = some y29) ∧ cnd y29 (law02_OrderTight_J4i X1 r0 x5 x6 x7 true x8 x9) ((a1.length ≤ maxLen → cnd (decide ((0 : Int) < (a1.length : Int))) ((a1.length ≤ maxLen → ((a1.length : Int) ≠ 0) ∧ (0 ≤ (x6.tmod (a1.length : Int))) ∧ ((x6.tmod (a1.length : Int)) < (a1.length : Int)) ∧ ∃ y30 : Bool, (a1[(x6.tmod (a1.length : Int)).toNat]? = some y30) ∧ law02_OrderTight_J4i X1 r0 x5 x6 x7 y30 x8 x9)) (law02_OrderTight_J4i X1 r0 x5 x6 x7 false x8 x9)))) ((a1.length ≤ maxLen → cnd (decide ((0 : Int) < (a1.length : Int))) ((a1.length ≤ maxLen → ((a1.length : Int) ≠ 0) ∧ (0 ≤ (x6.tmod (a1.length : Int))) ∧ ((x6.tmod (a1.length : Int)) < (a1.length : Int)) ∧ ∃ y31 : Bool, (a1[(x6.tmod (a1.length : Int)).toNat]? = some y31) ∧ law02_OrderTight_J4i X1 r0 x5 x6 x7 y31 x8 x9)) (law02_OrderTight_J4i X1 r0 x5 x6 x7 false x8 x9))))) ((order_List_All_v0_o x7 x8 x9) ∧ (Nat → ∀ X5 : Int → Int → Bool → Int → (List T_arena_slot) → (List Int) → Prop, (∀ x32 x33 x34 x35 x36 x37, law02_OrderTight_L5i a0 r0 X5 x32 x33 x34 x35 x36 x37 → X5 x32 x33 x34 x35 x36 x37) → X5 (0 : Int) (0 : Int) true x7 x8 x9))
def law02_OrderTight_oi (a0 : Int) (a1 : List Bool) (r0 : Bool) : Prop :=
 ∃ z1, (law02_speaks_o z1) ∧ cnd (!z1) (false = r0) (∃ z2 z3 z4, (order_New_v0_o z2 z3 z4) ∧ ∀ X1 : Int → Int → Int → (List T_arena_slot) → (List Int) → Prop, (∀ x5 x6 x7 x8 x9, law02_OrderTight_L1i a0 a1 r0 X1 x5 x6 x7 x8 x9 → X1 x5 x6 x7 x8 x9) → X1 (0 : Int) (0 : Int) z2 z3 z4)
theorem law02_OrderTight_J3_m (X1 : Int → Int → Int → (List T_arena_slot) → (List Int) → Prop) (r0 : Bool) (x10 z15 : Int) {x20 : Bool} {x21 : Int} {x22 : List T_arena_slot} {x23 : List Int} (h : law02_OrderTight_J3i X1 r0 x10 z15 x20 x21 x22 x23) : law02_OrderTight_J3 r0 X1 z15 x10 x20 x21 x22 x23 := by
 unfold law02_OrderTight_J3
 unfold law02_OrderTight_J3i at h
 exact h
theorem law02_OrderTight_J2_m (X1 : Int → Int → Int → (List T_arena_slot) → (List Int) → Prop) (r0 : Bool) {x10 x11 x12 : Int} {x13 : List T_arena_slot} {x14 : List Int} (h : law02_OrderTight_J2i X1 r0 x10 x11 x12 x13 x14) : law02_OrderTight_J2 r0 X1 x10 x11 x12 x13 x14 := by
 unfold law02_OrderTight_J2
 unfold law02_OrderTight_J2i at h
 obtain ⟨z15, h⟩ := h
 refine ⟨z15, ?_⟩
 obtain ⟨z16, h⟩ := h
 refine ⟨z16, ?_⟩
 obtain ⟨z17, h⟩ := h
 refine ⟨z17, ?_⟩
 obtain ⟨z18, h⟩ := h
 refine ⟨z18, ?_⟩
 obtain ⟨z19, h⟩ := h
 refine ⟨z19, ?_⟩
 obtain ⟨h0, h⟩ := h
 refine ⟨h0, ?_⟩
 intro J3 kJ3
 have hJ3 : ∀ x20 x21 x22 x23, law02_OrderTight_J3i X1 r0 x10 z15 x20 x21 x22 x23 → J3 x20 x21 x22 x23 := fun x20 x21 x22 x23 q => kJ3 x20 x21 x22 x23 (law02_OrderTight_J3_m X1 r0 x10 z15 q)
 refine cnd_mono h (fun h => ?_) (fun h => ?_)
 ·exact hJ3 _ _ _ _ h
 ·obtain ⟨z24, h⟩ := h
  refine ⟨z24, ?_⟩
  obtain ⟨h0, h⟩ := h
  refine ⟨h0, ?_⟩
  refine cnd_mono h (fun h => ?_) (fun h => ?_)
  ·exact hJ3 _ _ _ _ h
  ·obtain ⟨z25, h⟩ := h
   refine ⟨z25, ?_⟩
   obtain ⟨h0, h⟩ := h
   refine ⟨h0, ?_⟩
   exact hJ3 _ _ _ _ h
theorem law02_OrderTight_J4_m (J2 X1 : Int → Int → Int → (List T_arena_slot) → (List Int) → Prop) (r0 : Bool) (x5 x6 x7 : Int) (hJ2 : ∀ (x10 : Int) (x11 : Int) (x12 : Int) (x13 : (List T_arena_slot)) (x14 : (List Int)), law02_OrderTight_J2i X1 r0 x10 x11 x12 x13 x14 → J2 x10 x11 x12 x13 x14) {x26 : Bool} {x27 : List T_arena_slot} {x28 : List Int} (h : law02_OrderTight_J4i X1 r0 x5 x6 x7 x26 x27 x28) : law02_OrderTight_J4 J2 x6 x5 x7 x26 x27 x28 := by
 unfold law02_OrderTight_J4
 unfold law02_OrderTight_J4i at h
 refine cnd_mono h (fun h => ?_) (fun h => ?_)
 ·exact hJ2 _ _ _ _ _ h
 ·exact hJ2 _ _ _ _ _ h
theorem law02_OrderTight_J6_m (X5 : Int → Int → Bool → Int → (List T_arena_slot) → (List Int) → Prop) {x38 x39 : Int} {x40 : Bool} {x41 : Int} {x42 : List T_arena_slot} {x43 : List Int} (h : law02_OrderTight_J6i X5 x38 x39 x40 x41 x42 x43) : law02_OrderTight_J6 X5 x38 x39 x40 x41 x42 x43 := by
 unfold law02_OrderTight_J6
 unfold law02_OrderTight_J6i at h
 exact h
theorem law02_OrderTight_J7_m (J6 X5 : Int → Int → Bool → Int → (List T_arena_slot) → (List Int) → Prop) (r0 : Bool) (x32 : Int) (hJ6 : ∀ (x38 : Int) (x39 : Int) (x40 : Bool) (x41 : Int) (x42 : (List T_arena_slot)) (x43 : (List Int)), law02_OrderTight_J6i X5 x38 x39 x40 x41 x42 x43 → J6 x38 x39 x40 x41 x42 x43) {x45 : Bool} {x46 : Int} {x47 : List T_arena_slot} {x48 : List Int} (h : law02_OrderTight_J7i X5 r0 x32 x45 x46 x47 x48) : law02_OrderTight_J7 r0 J6 x32 x45 x46 x47 x48 := by
 unfold law02_OrderTight_J7
 unfold law02_OrderTight_J7i at h
 refine cnd_mono h (fun h => ?_) (fun h => ?_)
 ·exact h
 ·exact hJ6 _ _ _ _ _ _ h
theorem law02_OrderTight_L5_m (a0 : Int) (r0 : Bool) {X5 : Int → Int → Bool → Int → (List T_arena_slot) → (List Int) → Prop} {x32 x33 : Int} {x34 : Bool} {x35 : Int} {x36 : List T_arena_slot} {x37 : List Int} (h : law02_OrderTight_L5i a0 r0 X5 x32 x33 x34 x35 x36 x37) : law02_OrderTight_L5 r0 a0 X5 x32 x33 x34 x35 x36 x37 := by
 unfold law02_OrderTight_L5
 unfold law02_OrderTight_L5i at h
 refine cnd_mono h (fun h => ?_) (fun h => ?_)
 ·intro J6 kJ6
  have hJ6 : ∀ x38 x39 x40 x41 x42 x43, law02_OrderTight_J6i X5 x38 x39 x40 x41 x42 x43 → J6 x38 x39 x40 x41 x42 x43 := fun x38 x39 x40 x41 x42 x43 q => kJ6 x38 x39 x40 x41 x42 x43 (law02_OrderTight_J6_m X5 q)
  refine cnd_mono h (fun h => ?_) (fun h => ?_)
  ·refine cnd_mono h (fun h => ?_) (fun h => ?_)
   ·exact h
   ·exact hJ6 _ _ _ _ _ _ h
  ·intro J7 kJ7
   have hJ7 : ∀ x45 x46 x47 x48, law02_OrderTight_J7i X5 r0 x32 x45 x46 x47 x48 → J7 x45 x46 x47 x48 := fun x45 x46 x47 x48 q => kJ7 x45 x46 x47 x48 (law02_OrderTight_J7_m J6 X5 r0 x32 hJ6 q)
   obtain ⟨z49, h⟩ := h
   refine ⟨z49, ?_⟩
   obtain ⟨h0, h⟩ := h
   refine ⟨h0, ?_⟩
   refine cnd_mono h (fun h => ?_) (fun h => ?_)
   ·exact hJ7 _ _ _ _ h
   ·obtain ⟨z50, h⟩ := h
    refine ⟨z50, ?_⟩
    obtain ⟨h0, h⟩ := h
    refine ⟨h0, ?_⟩
    exact hJ7 _ _ _ _ h
 ·exact h
theorem law02_OrderTight_L1_m (a0 : Int) (a1 : List Bool) (r0 : Bool) {X1 : Int → Int → Int → (List T_arena_slot) → (List Int) → Prop} {x5 x6 x7 : Int} {x8 : List T_arena_slot} {x9 : List Int} (h : law02_OrderTight_L1i a0 a1 r0 X1 x5 x6 x7 x8 x9) : law02_OrderTight_L1 a0 r0 a1 X1 x5 x6 x7 x8 x9 := by
 unfold law02_OrderTight_L1
 unfold law02_OrderTight_L1i at h
 refine cnd_mono h (fun h => ?_) (fun h => ?_)
 ·intro J2 kJ2
  have hJ2 : ∀ x10 x11 x12 x13 x14, law02_OrderTight_J2i X1 r0 x10 x11 x12 x13 x14 → J2 x10 x11 x12 x13 x14 := fun x10 x11 x12 x13 x14 q => kJ2 x10 x11 x12 x13 x14 (law02_OrderTight_J2_m X1 r0 q)
  intro J4 kJ4
  have hJ4 : ∀ x26 x27 x28, law02_OrderTight_J4i X1 r0 x5 x6 x7 x26 x27 x28 → J4 x26 x27 x28 := fun x26 x27 x28 q => kJ4 x26 x27 x28 (law02_OrderTight_J4_m J2 X1 r0 x5 x6 x7 hJ2 q)
  intro c
  replace h := h c
  refine cnd_mono h (fun h => ?_) (fun h => ?_)
  ·obtain ⟨h0, h⟩ := h
   refine ⟨h0, ?_⟩
   obtain ⟨h0, h⟩ := h
   refine ⟨h0, ?_⟩
   obtain ⟨y29, h⟩ := h
   refine ⟨y29, ?_⟩
   obtain ⟨h0, h⟩ := h
   refine ⟨h0, ?_⟩
   refine cnd_mono h (fun h => ?_) (fun h => ?_)
   ·exact hJ4 _ _ _ h
   ·intro c
    replace h := h c
    refine cnd_mono h (fun h => ?_) (fun h => ?_)
    ·intro c
     replace h := h c
     obtain ⟨h0, h⟩ := h
     refine ⟨h0, ?_⟩
     obtain ⟨h0, h⟩ := h
     refine ⟨h0, ?_⟩
     obtain ⟨h0, h⟩ := h
     refine ⟨h0, ?_⟩
     obtain ⟨y30, h⟩ := h
     refine ⟨y30, ?_⟩
     obtain ⟨h0, h⟩ := h
     refine ⟨h0, ?_⟩
     exact hJ4 _ _ _ h
    ·exact hJ4 _ _ _ h
  ·intro c
   replace h := h c
   refine cnd_mono h (fun h => ?_) (fun h => ?_)
   ·intro c
    replace h := h c
    obtain ⟨h0, h⟩ := h
    refine ⟨h0, ?_⟩
    obtain ⟨h0, h⟩ := h
    refine ⟨h0, ?_⟩
    obtain ⟨h0, h⟩ := h
    refine ⟨h0, ?_⟩
    obtain ⟨y31, h⟩ := h
    refine ⟨y31, ?_⟩
    obtain ⟨h0, h⟩ := h
    refine ⟨h0, ?_⟩
    exact hJ4 _ _ _ h
   ·exact hJ4 _ _ _ h
 ·obtain ⟨h0, h⟩ := h
  refine ⟨h0, ?_⟩
  intro c
  replace h := h c
  intro X5 k
  exact h X5 (fun x32 x33 x34 x35 x36 x37 q => k x32 x33 x34 x35 x36 x37 (law02_OrderTight_L5_m a0 r0 q))
theorem law02_OrderTight_i (a0 : Int) (a1 : List Bool) (r0 : Bool) (h : law02_OrderTight_oi a0 a1 r0) : law02_OrderTight_o a0 a1 r0 := by
 unfold law02_OrderTight_o
 unfold law02_OrderTight_oi at h
 obtain ⟨z1, h⟩ := h
 refine ⟨z1, ?_⟩
 obtain ⟨h0, h⟩ := h
 refine ⟨h0, ?_⟩
 refine cnd_mono h (fun h => ?_) (fun h => ?_)
 ·exact h
 ·obtain ⟨z2, h⟩ := h
  refine ⟨z2, ?_⟩
  obtain ⟨z3, h⟩ := h
  refine ⟨z3, ?_⟩
  obtain ⟨z4, h⟩ := h
  refine ⟨z4, ?_⟩
  obtain ⟨h0, h⟩ := h
  refine ⟨h0, ?_⟩
  intro X1 k
  exact h X1 (fun x5 x6 x7 x8 x9 q => k x5 x6 x7 x8 x9 (law02_OrderTight_L1_m a0 a1 r0 q))
def law02_OrderTight_sp : Sp KK := ⟨3, [.v 22, .v 23], [4], appW (K := KK) [4] [.v 22, .v 23] law02_OrderTight_o⟩
def law02_OrderTight_an : An KK := (.s .o (.s (.s .o (.c (.s .o .o) .o)) (.s .o (.s .o (.s (.s .o (.b (.l ⟨[(0, .kp 93), (1, .kp 94), (4, .px 4 0), (5, .px 5 0), (6, .it .i64), (7, .it .i64)], [(4, 4, [.kp 97]), (5, 25, [.px 1001024 0]), (1001024, 56, [.px 1001025 0]), (1001025, 70, [.it .i64, .row 1001026, .row 1001027])], [(1001026, 72), (1001027, 3)]⟩ (fun _ => (.s (.s .o (.c .o .o)) (.s (.b (.s .o (.j ⟨[(0, .kp 93), (1, .kp 94), (4, .px 4 0), (5, .px 5 0), (7, .it .i64), (8, .it .i64)], [(4, 4, [.kp 97]), (5, 25, [.px 1001024 0]), (1001024, 56, [.px 1001025 0]), (1001025, 70, [.it .i64, .row 1001026, .row 1001027])], [(1001026, 72), (1001027, 3)]⟩ (.j ⟨[(0, .kp 93), (1, .kp 94), (4, .px 4 0), (5, .px 5 0), (6, .kp 181), (7, .kp 182), (8, .kp 183), (47, .bl)], [(4, 4, [.kp 97]), (5, 25, [.px 1001024 0]), (1001024, 56, [.px 1001025 0]), (1001025, 70, [.kp 184, .row 1001026, .row 1001027])], [(1001026, 72), (1001027, 3)]⟩ .o (fun _ => (.c .o .o))) (fun _ => (.s .o (.s (.j ⟨[(0, .kp 93), (1, .kp 94), (4, .px 4 0), (5, .px 5 0), (7, .kp 178), (9, .kp 179), (69, .bl)], [(4, 4, [.kp 97]), (5, 25, [.px 1001024 0]), (1001024, 56, [.px 1001025 0]), (1001025, 70, [.it .i64, .row 1003328, .row 1003329])], [(1003328, 72), (1003329, 3)]⟩ .o (fun _ => (.c (.s .o .o) .o))) .o)))))) .o)))))) (.s .o (.s (.s .o (.b (.g 185 ⟨[(0, .kp 93), (4, .px 100004 0), (5, .px 100005 0), (11, .px 100011 0), (12, .px 100012 0), (72, .fn 23 [] [.px 104608 0])], [(100004, 4, [.kp 97]), (100005, 25, [.px 101024 0]), (100011, 3, [.it .i64]), (100012, 4, [.bl]), (104608, 25, [.px 101024 0]), (101024, 56, [.px 101025 0]), (101025, 70, [.it .i64, .row 101026, .row 101027])], [(101026, 72), (101027, 3)]⟩ ⟨[(0, .kp 185), (1, .px 204608 0), (3, .it .i64), (12, .kp 185), (13, .it .i64), (16, .kp 185), (17, .kp 93), (21, .px 200004 0), (22, .px 200005 0), (28, .px 200011 0), (29, .px 200012 0)], [(204608, 25, [.px 201024 0]), (200004, 4, [.kp 97]), (200005, 25, [.px 201024 0]), (200011, 3, [.it .i64]), (200012, 4, [.bl]), (201024, 56, [.px 201025 0]), (201025, 70, [.it .i64, .row 201026, .row 201027])], [(201026, 72), (201027, 3)]⟩ (.s (.s .o (.c .o .o)) (.s .o (.b (.l ⟨[(0, .kp 185), (1, .px 104608 0), (3, .it .i64), (16, .kp 185), (17, .kp 93), (21, .px 100004 0), (22, .px 100005 0), (28, .px 100011 0), (29, .px 100012 0)], [(104608, 25, [.px 101024 0]), (100004, 4, [.kp 97]), (100005, 25, [.px 101024 0]), (100011, 3, [.it .i64]), (100012, 4, [.bl]), (101024, 56, [.px 101025 0]), (101025, 70, [.it .i64, .row 101026, .row 101027])], [(101026, 72), (101027, 3)]⟩ (fun _ => (.s (.s .o (.c .o .o)) (.j ⟨[(0, .kp 185), (1, .px 204608 0), (3, .it .i64), (16, .kp 185), (17, .kp 93), (21, .px 200004 0), (22, .px 200005 0), (28, .px 200011 0), (29, .px 200012 0)], [(204608, 25, [.px 201024 0]), (200004, 4, [.kp 97]), (200005, 25, [.px 201024 0]), (200011, 3, [.it .i64]), (200012, 4, [.bl]), (201024, 56, [.px 201025 0]), (201025, 70, [.it .i64, .row 201026, .row 201027])], [(201026, 72), (201027, 3)]⟩ (.b (.s .o (.c .o .o))) (fun _ => .o)))))))) .o (.b (.s (.s .o (.c (.s .o (.c (.s .o .o) .o)) (.j ⟨[(4, .px 200004 0), (11, .px 200011 0), (12, .px 200012 0), (13, .kp 309), (87, .bl), (96, .kp 185), (97, .px 204608 0), (99, .kp 310), (112, .kp 185), (113, .kp 93), (117, .px 200004 0), (118, .px 200005 0), (124, .px 200011 0), (125, .px 200012 0)], [(200004, 4, [.kp 97]), (200011, 3, [.kp 311]), (200012, 4, [.kp 312]), (204608, 25, [.px 201024 0]), (200005, 25, [.px 201024 0]), (201024, 56, [.px 201025 0]), (201025, 70, [.it .i64, .row 201026, .row 201027])], [(201026, 72), (201027, 3)]⟩ .o (fun _ => (.c (.s .o .o) .o))))) .o))))) (.s .o .o))))))))
def law02_OrderTight_cf : Cf KK := ⟨CC, [law02_speaks_sp], [order_New_v0_sl, order_List_After_v0_sl, order_List_Less_v0_sl, order_List_All_v0_sl, order_List_at_v0_sl, order_List_Len_v0_sl], 96, [(23, c23)], none, false⟩
theorem law02_OrderTight_ok : SpOk Try.prog CC law02_OrderTight_sp := SpOk_by (F := law02_OrderTight_cf) (ps := [.v 22, .v 23]) (rs := [4]) (w := law02_OrderTight_o) CC_ok (SsOk_c law02_speaks_ok SsOk_n) (SLOk_c order_New_v0_ok (SLOk_c order_List_After_v0_ok (SLOk_c order_List_Less_v0_ok (SLOk_c order_List_All_v0_ok (SLOk_c order_List_at_v0_ok (SLOk_c order_List_Len_v0_ok SLOk_n)))))) t3 (A := law02_OrderTight_an) (by kernel_rfl) (by kernel_rfl) (fun a0 a1 r0 => show _ = _ by kernel_rfl) (hI := (IOk_c t23 IOk_n))
end Go.Proofs.Ytnlhnefjjblpcab
end
noncomputable section
namespace Go.Proofs.Ytnlhnefjjblpcab
open Go.AV Go.RowKit
abbrev SL := T_arena_slot
abbrev ST := T_order_stamp
def st0 : ST := ⟨0, 0, 0⟩
structure AI (s : List SL) (f : List Int) : Prop where
 nd : f.Nodup
 un : ∀ i ∈ f, 0 ≤ i ∧ ∃ y, s[i.toNat]? = some y ∧ y.used = false
 ct : s.countP T_arena_slot.used + f.length = s.length
theorem snoc_cases {α : Type} : ∀ l : List α, l = [] ∨ ∃ l' b, l = l' ++ [b]
 | [] => .inl rfl
 | a :: l => .inr (match snoc_cases l with
   | .inl e => ⟨[], a, by rw [e]; rfl⟩
   | .inr ⟨l', b, e⟩ => ⟨a :: l', b, by rw [e]; rfl⟩)
theorem countP_set {α : Type} (p : α → Bool) : ∀ (l : List α) (n : Nat) (y x : α), l[n]? = some y → (l.set n x).countP p + (if p y then 1 else 0) = l.countP p + (if p x then 1 else 0)
 | [], n, y, x, h => by simp at h
 | a :: l, 0, y, x, h => by
   simp at h; subst h
   simp only [List.set_cons_zero, List.countP_cons]; omega
 | a :: l, n + 1, y, x, h => by
   simp at h
   have := countP_set p l n y x h
   simp only [List.set_cons_succ, List.countP_cons]; omega
theorem set_get {α : Type} {l : List α} {n m : Nat} {y x : α} (h : l[n]? = some y) : (l.set n x)[m]? = if m = n then some x else l[m]? := by
 have hn : n < l.length := by
  rcases Nat.lt_or_ge n l.length with k | k
  ·exact k
  ·rw [List.getElem?_eq_none k] at h; cases h
 by_cases e : m = n
 ·subst e; rw [List.getElem?_set_self hn, if_pos rfl]
 ·rw [List.getElem?_set_ne (fun q => e q.symm), if_neg e]
theorem get_lt {α : Type} {l : List α} {n : Nat} {y : α} (h : l[n]? = some y) : n < l.length := by
 rcases Nat.lt_or_ge n l.length with k | k
 ·exact k
 ·rw [List.getElem?_eq_none k] at h; cases h
theorem AI.le {s : List SL} {f : List Int} (h : AI s f) : f.length ≤ s.length := by have := h.ct; omega
theorem AI.setU {s : List SL} {f : List Int} {i : Int} {x : ST} (h : AI s (f ++ [i])) : AI (s.set i.toNat ⟨x, true⟩) f := by
 obtain ⟨h0, y, h1, h2⟩ := h.un i (by simp)
 have nd := List.nodup_append.1 h.nd
 refine ⟨nd.1, fun j hj => ?_, ?_⟩
 ·obtain ⟨k0, z, k1, k2⟩ := h.un j (by simp [hj])
  refine ⟨k0, z, ?_, k2⟩
  rw [set_get h1, if_neg]
  ·exact k1
  ·intro e
   exact nd.2.2 j hj i (by simp) (by omega)
 ·have := countP_set T_arena_slot.used s i.toNat y ⟨x, true⟩ h1
  have ct := h.ct
  rw [h2] at this
  simp at this ct ⊢
  omega
theorem AI.app {s : List SL} {x : ST} (h : AI s []) : AI (s ++ [⟨x, true⟩]) [] := by
 refine ⟨by simp, fun j hj => by simp at hj, ?_⟩
 have := h.ct
 simp [List.countP_append] at this ⊢
 omega
theorem AI.free {s : List SL} {f : List Int} {i : Int} {y : SL} (h : AI s f) (hi : 0 ≤ i) (hy : s[i.toNat]? = some y) (hu : y.used = true) : AI (s.set i.toNat ⟨st0, false⟩) (f ++ [i]) := by
 have hn : i ∉ f := fun e => by
  obtain ⟨_, z, k1, k2⟩ := h.un i e
  rw [hy] at k1; cases k1; rw [hu] at k2; cases k2
 refine ⟨List.nodup_append.2 ⟨h.nd, by simp, fun a ha b hb => ?_⟩, fun j hj => ?_, ?_⟩
 ·simp at hb; subst hb; intro e; subst e; exact hn ha
 ·rw [set_get hy]
  rcases List.mem_append.1 hj with hj | hj
  ·obtain ⟨k0, z, k1, k2⟩ := h.un j hj
   refine ⟨k0, ?_⟩
   by_cases e : j.toNat = i.toNat
   ·rw [if_pos e]; exact ⟨_, rfl, rfl⟩
   ·rw [if_neg e]; exact ⟨z, k1, k2⟩
  ·simp at hj; subst hj
   exact ⟨hi, _, if_pos rfl, rfl⟩
 ·have := countP_set T_arena_slot.used s i.toNat y ⟨st0, false⟩ hy
  have ct := h.ct
  rw [hu] at this
  simp at this ct ⊢
  omega
theorem AI.put {s : List SL} {f : List Int} {i : Int} {x : ST} {y : SL} (h : AI s f) (hy : s[i.toNat]? = some y) : AI (s.set i.toNat ⟨x, y.used⟩) f := by
 refine ⟨h.nd, fun j hj => ?_, ?_⟩
 ·obtain ⟨k0, z, k1, k2⟩ := h.un j hj
  rw [set_get hy]
  refine ⟨k0, ?_⟩
  by_cases e : j.toNat = i.toNat
  ·rw [if_pos e]
   rw [e, hy] at k1; cases k1
   exact ⟨_, rfl, k2⟩
  ·rw [if_neg e]; exact ⟨z, k1, k2⟩
 ·have := countP_set T_arena_slot.used s i.toNat y ⟨x, y.used⟩ hy
  have ct := h.ct
  simp at this ct ⊢
  omega
def has (s : List SL) (i : Int) : Bool := decide (0 ≤ i) && (match s[i.toNat]? with | some y => y.used | none => false)
theorem has_iff {s : List SL} {i : Int} : has s i = true ↔ 0 ≤ i ∧ ∃ y, s[i.toNat]? = some y ∧ y.used = true := by
 unfold has
 cases h : s[i.toNat]? with
 | none => simp
 | some y => simp
theorem pHas (a i : Int) (s : List SL) (f : List Int) : arena_Arena_stamp_has_v0_o i a s f (has s i) := by
 refine arena_Arena_stamp_has_v0_i _ _ _ _ _ ⟨fun h => ⟨fun k => ?_, fun k => ?_⟩, fun h => ?_⟩
 ·have h : 0 ≤ i := by simpa using h
  have k : i < (s.length : Int) := by simpa using k
  have hl : i.toNat < s.length := by omega
  exact ⟨h, k, s[i.toNat], List.getElem?_eq_getElem hl, by unfold has; rw [List.getElem?_eq_getElem hl]; simp [h]⟩
 ·have k : ¬ i < (s.length : Int) := by simpa using k
  have h : 0 ≤ i := by simpa using h
  unfold has; rw [List.getElem?_eq_none (by omega)]; simp
 ·unfold has; rw [h]; rfl
theorem pLive {a : Int} {s : List SL} {f : List Int} (h : AI s f) (hs : s.length ≤ 1000000000) : arena_Arena_stamp_Live_v0_o a s f ((s.length : Int) - f.length) := by
 have := h.le
 refine arena_Arena_stamp_Live_v0_i _ _ _ _ ?_
 exact wrap64 (by omega) (by omega)
def cell (s : List SL) (i : Int) : Option ST := if 0 ≤ i then (match s[i.toNat]? with | some y => if y.used then some y.x else none | none => none) else none
theorem cell_some {s : List SL} {i : Int} {x : ST} : cell s i = some x ↔ 0 ≤ i ∧ s[i.toNat]? = some ⟨x, true⟩ := by
 unfold cell
 split
 ·rename_i h
  cases e : s[i.toNat]? with
  | none => simp
  | some y =>
    obtain ⟨y, u⟩ := y
    cases u <;> simp [h]
 ·rename_i h; simp [h]
theorem has_cell (s : List SL) (i : Int) : has s i = (cell s i).isSome := by
 unfold has cell
 by_cases h : 0 ≤ i
 ·simp only [h, if_true, decide_true, Bool.true_and]
  cases s[i.toNat]? with
  | none => rfl
  | some y => cases hy : y.used <;> simp [hy]
 ·simp [h]
theorem pGet (a i : Int) (s : List SL) (f : List Int) : arena_Arena_stamp_Get_v0_o i a s f (cell s i).isSome ((cell s i).getD st0) := by
 refine arena_Arena_stamp_Get_v0_i _ _ _ _ _ _ ⟨_, pHas a i s f, fun h => ?_, fun h => ?_⟩
 ·have h : has s i = false := by simpa using h
  rw [has_cell] at h
  cases hc : cell s i with
  | none => exact ⟨rfl, rfl⟩
  | some x => rw [hc] at h; cases h
 ·have h : has s i = true := by simpa using h
  obtain ⟨k0, y, k1, k2⟩ := has_iff.1 h
  have := get_lt k1
  have hc : cell s i = some y.x := cell_some.2 ⟨k0, by rw [k1, ← k2]⟩
  rw [hc]
  exact ⟨k0, by omega, y, k1, rfl, rfl⟩
theorem pAt (a i : Int) (s : List SL) (f : List Int) : order_List_at_v0_o i a s f ((cell s i).getD st0) := order_List_at_v0_i _ _ _ _ _ ⟨_, _, pGet a i s f, rfl⟩
theorem pHasL (a i : Int) (s : List SL) (f : List Int) : order_List_Has_v0_o i a s f (cell s i).isSome := order_List_Has_v0_i _ _ _ _ _ ⟨_, _, pGet a i s f, rfl⟩
theorem pSet (a : Int) {i : Int} (x : ST) {s : List SL} (f : List Int) {x0 : ST} (hc : cell s i = some x0) : arena_Arena_stamp_Set_v0_o i x a s f true a (s.set i.toNat ⟨x, true⟩) := by
 obtain ⟨k0, k1⟩ := cell_some.1 hc
 have := get_lt k1
 have hh : has s i = true := has_iff.2 ⟨k0, _, k1, rfl⟩
 have p := pHas a i s f
 rw [hh] at p
 exact arena_Arena_stamp_Set_v0_i _ _ _ _ _ _ _ _ ⟨_, p, cnd_of_false rfl ⟨k0, by omega, _, k1, rfl, rfl, rfl⟩⟩
def upd (c : Int → Option ST) (i : Int) (x : Option ST) : Int → Option ST := fun j => if j = i then x else c j
theorem cell_set {s : List SL} {i : Int} {y : SL} (k0 : 0 ≤ i) (k1 : s[i.toNat]? = some y) (z : SL) : cell (s.set i.toNat z) = upd (cell s) i (if z.used then some z.x else none) := by
 funext j
 unfold cell upd
 by_cases hj : 0 ≤ j
 ·simp only [hj, if_true]
  rw [set_get k1]
  by_cases e : j = i
  ·subst e; simp
  ·have : ¬ j.toNat = i.toNat := by omega
   simp [e, this]
 ·have e : ¬ j = i := by omega
  simp [hj, e]
theorem cell_app (s : List SL) (x : ST) : cell (s ++ [⟨x, true⟩]) = upd (cell s) (s.length : Int) (some x) := by
 funext j
 unfold cell upd
 by_cases hj : 0 ≤ j
 ·simp only [hj, if_true]
  rcases Nat.lt_trichotomy j.toNat s.length with h | h | h
  ·rw [List.getElem?_append_left h, if_neg (by omega)]
  ·have e : j = (s.length : Int) := by omega
   subst e; simp
  ·rw [List.getElem?_append_right (by omega), List.getElem?_eq_none (by simp; omega), List.getElem?_eq_none (by omega), if_neg (by omega)]
 ·have e : ¬ j = (s.length : Int) := by omega
  simp [hj, e]
structure Got where
 i : Int
 ok : Bool
 s : List SL
 f : List Int
def alloc (x : ST) (a : Int) (s : List SL) (f : List Int) : Got := if a ≤ (s.length : Int) - f.length then ⟨0, false, s, f⟩ else match f.getLast? with
 | some i => ⟨i, true, s.set i.toNat ⟨x, true⟩, f.dropLast⟩
 | none => ⟨s.length, true, s ++ [⟨x, true⟩], f⟩
theorem pAlloc {x : ST} {a : Int} {s : List SL} {f : List Int} (h : AI s f) (hs : s.length ≤ 1000000) : arena_Arena_stamp_Alloc_v0_o x a s f (alloc x a s f).i (alloc x a s f).ok a (alloc x a s f).s (alloc x a s f).f := by
 have hle := h.le
 refine ⟨_, pLive h (by omega), a, arena_Arena_stamp_most_v0_i _ _ _ _ rfl, fun c => ?_, fun c => ?_⟩
 ·have c : a ≤ (s.length : Int) - f.length := by simpa using c
  unfold alloc; rw [if_pos c]
  exact ⟨rfl, rfl, rfl, rfl, rfl⟩
 ·have c : ¬ a ≤ (s.length : Int) - f.length := by simpa using c
  unfold alloc; rw [if_neg c, wrap64 (by omega) (by omega)]
  rcases snoc_cases f with rfl | ⟨f', i, rfl⟩
  ·refine cnd_of_false (by simp) ⟨by omega, ?_, rfl, rfl, rfl, rfl⟩
   rw [wrap64 (by simp <;> omega) (by simp <;> omega)]
   simp
  ·obtain ⟨h0, y, h1, h2⟩ := h.un i (by simp)
   have hl := get_lt h1
   have e : (((f' ++ [i]).length : Int) - 1) = (f'.length : Int) := by simp
   rw [e]
   refine cnd_of_true (by simp) ⟨by omega, by simp; omega, i, by simp, ⟨by omega, by simp; omega⟩, h0, by omega, y, h1, ?_⟩
   simp
theorem alloc_AI {x : ST} {a : Int} {s : List SL} {f : List Int} (h : AI s f) : AI (alloc x a s f).s (alloc x a s f).f := by
 unfold alloc
 split
 ·exact h
 ·rcases snoc_cases f with rfl | ⟨f', i, rfl⟩
  ·exact h.app
  ·simp only [List.getLast?_append, List.getLast?_singleton, Option.some_or, List.dropLast_concat]
   exact h.setU
theorem alloc_len {x : ST} {a : Int} {s : List SL} {f : List Int} : (alloc x a s f).s.length ≤ s.length + 1 := by
 unfold alloc
 split
 ·simp
 ·split <;> simp
theorem alloc_ok {x : ST} {a : Int} {s : List SL} {f : List Int} (h : AI s f) (hr : (s.length : Int) - f.length < a) : (alloc x a s f).ok = true ∧ cell s (alloc x a s f).i = none ∧ 0 ≤ (alloc x a s f).i ∧ cell (alloc x a s f).s = upd (cell s) (alloc x a s f).i (some x) ∧ ((alloc x a s f).s.length : Int) - (alloc x a s f).f.length = (s.length : Int) - f.length + 1 := by
 unfold alloc
 rw [if_neg (by omega)]
 rcases snoc_cases f with rfl | ⟨f', i, rfl⟩
 ·simp only [List.getLast?_nil]
  refine ⟨trivial, ?_, by omega, cell_app s x, by simp⟩
  unfold cell; simp
 ·simp only [List.getLast?_append, List.getLast?_singleton, Option.some_or, List.dropLast_concat]
  obtain ⟨h0, y, h1, h2⟩ := h.un i (by simp)
  refine ⟨trivial, ?_, h0, ?_, by simp; omega⟩
  ·unfold cell; simp [h0, h1, h2]
  ·rw [cell_set h0 h1]; simp
end Go.Proofs.Ytnlhnefjjblpcab
end
noncomputable section
namespace Go.Proofs.Ytnlhnefjjblpcab
open Go.AV Go.RowKit
def Ch (c : Int → Option ST) : Int → List Int → Int → Prop
 | _, [], _ => True
 | p, i :: r, e => (∃ l, c i = some ⟨l, r.headD e, p⟩) ∧ Ch c i r e
theorem Ch.congr {c c' : Int → Option ST} : ∀ {o : List Int} {p e : Int}, (∀ i ∈ o, c' i = c i) → Ch c p o e → Ch c' p o e
 | [], _, _, _, _ => trivial
 | i :: r, p, e, h, ⟨⟨l, hl⟩, k⟩ => ⟨⟨l, by rw [h i List.mem_cons_self, hl]⟩, Ch.congr (fun j hj => h j (List.mem_cons_of_mem _ hj)) k⟩
theorem headD_app (r B : List Int) (e : Int) : (r ++ B).headD e = r.headD (B.headD e) := by cases r <;> rfl
theorem Ch.app {c : Int → Option ST} : ∀ {A B : List Int} {p e : Int}, Ch c p (A ++ B) e ↔ Ch c p A (B.headD e) ∧ Ch c (A.getLastD p) B e
 | [], B, p, e => by simp [Ch]
 | i :: r, B, p, e => by
   rw [List.cons_append]
   show ((∃ l, c i = some ⟨l, (r ++ B).headD e, p⟩) ∧ Ch c i (r ++ B) e) ↔ ((∃ l, c i = some ⟨l, r.headD (B.headD e), p⟩) ∧ Ch c i r (B.headD e)) ∧ Ch c ((i :: r).getLastD p) B e
   rw [headD_app, Ch.app (A := r), List.getLastD_cons]
   exact ⟨fun ⟨a, b, d⟩ => ⟨⟨a, b⟩, d⟩, fun ⟨⟨a, b⟩, d⟩ => ⟨a, b, d⟩⟩
theorem Ch.mem {c : Int → Option ST} : ∀ {o : List Int} {p e i : Int}, Ch c p o e → i ∈ o → ∃ x, c i = some x
 | a :: r, p, e, i, ⟨⟨l, hl⟩, k⟩, h => by
   rcases List.mem_cons.1 h with rfl | h
   ·exact ⟨_, hl⟩
   ·exact Ch.mem k h
theorem Ch.relab {c : Int → Option ST} {i l l' nx pv : Int} (hc : c i = some ⟨l, nx, pv⟩) : ∀ {o : List Int} {p e : Int}, Ch c p o e → Ch (upd c i (some ⟨l', nx, pv⟩)) p o e
 | [], _, _, _ => trivial
 | a :: r, p, e, ⟨⟨l2, hl⟩, k⟩ => by
   refine ⟨?_, Ch.relab hc k⟩
   by_cases ea : a = i
   ·subst ea
    rw [hc] at hl
    simp only [Option.some.injEq, T_order_stamp.mk.injEq] at hl
    exact ⟨l', by unfold upd; rw [if_pos rfl, hl.2.1, hl.2.2]⟩
   ·exact ⟨l2, by unfold upd; rw [if_neg ea, hl]⟩
def lab (c : Int → Option ST) (i : Int) : Int := match c i with | some x => x.label | none => 0
theorem lab_some {c : Int → Option ST} {i : Int} {x : ST} (h : c i = some x) : lab c i = x.label := by unfold lab; rw [h]
structure OI (c : Int → Option ST) (o : List Int) : Prop where
 nd : o.Nodup
 ch : Ch c (-1) o (-1)
 us : ∀ i, c i ≠ none → i ∈ o
 lb : o.Pairwise fun x y => lab c x < lab c y
 rg : ∀ i ∈ o, 0 ≤ lab c i ∧ lab c i < 18446744073709551616
 h0 : o.head? = some 0
 nn : ∀ i ∈ o, 0 ≤ i
theorem OI.at {c : Int → Option ST} {A B : List Int} {i : Int} (h : OI c (A ++ i :: B)) : c i = some ⟨lab c i, B.headD (-1), A.getLastD (-1)⟩ := by
 obtain ⟨l, hl⟩ := (Ch.app.1 h.ch).2.1
 rw [lab_some hl, hl]
theorem OI.lt {c : Int → Option ST} {A B : List Int} {i j : Int} (h : OI c (A ++ i :: B)) (hj : j ∈ B) : lab c i < lab c j :=
 (List.pairwise_cons.1 (List.pairwise_append.1 h.lb).2.1).1 j hj
theorem nd_split {A B : List Int} {i : Int} (h : (A ++ i :: B).Nodup) : i ∉ A ∧ i ∉ B ∧ (∀ k ∈ A, k ∉ B) ∧ B.Nodup := by
 have h1 := List.nodup_append.1 h
 have h2 := List.nodup_cons.1 h1.2.1
 exact ⟨fun e => h1.2.2 i e i List.mem_cons_self rfl, h2.1, fun k ka kb => h1.2.2 k ka k (List.mem_cons_of_mem _ kb) rfl, h2.2⟩
theorem OI.ins {c c' : Int → Option ST} {A B : List Int} {i n nl : Int} (h : OI c (A ++ i :: B)) (hn : c n = none) (n0 : 0 ≤ n) (h1 : lab c i < nl) (h2 : nl < 18446744073709551616) (h3 : ∀ j ∈ B, nl < lab c j)
  (e1 : ∀ k, k ≠ n → k ≠ i → B.head? ≠ some k → c' k = c k) (ei : c' i = some ⟨lab c i, n, A.getLastD (-1)⟩) (en : c' n = some ⟨nl, B.headD (-1), i⟩) (ej : ∀ j B', B = j :: B' → c' j = some ⟨lab c j, B'.headD (-1), n⟩) : OI c' (A ++ i :: n :: B) := by
 have hno : n ∉ A ++ i :: B := fun e => by
  obtain ⟨x, hx⟩ := h.ch.mem e
  rw [hn] at hx; cases hx
 obtain ⟨iA, iB, AB, ndB⟩ := nd_split h.nd
 have nA : n ∉ A := fun e => hno (List.mem_append_left _ e)
 have nB : n ∉ B := fun e => hno (List.mem_append_right _ (List.mem_cons_of_mem _ e))
 have ni : n ≠ i := fun e => hno (by rw [e]; exact List.mem_append_right _ List.mem_cons_self)
 have cA : ∀ k ∈ A, c' k = c k := fun k hk => e1 k (fun e => nA (e ▸ hk)) (fun e => iA (e ▸ hk)) fun e => AB k hk (List.mem_of_mem_head? (by rw [e]; rfl))
 have lA : ∀ k ∈ A, lab c' k = lab c k := fun k hk => by unfold lab; rw [cA k hk]
 have li : lab c' i = lab c i := lab_some ei
 have ln : lab c' n = nl := lab_some en
 have lB : ∀ k ∈ B, lab c' k = lab c k := by
  intro k hk
  cases B with
  | nil => cases hk
  | cons j B' =>
    by_cases e : k = j
    ·subst e; exact lab_some (ej k B' rfl)
    ·have := e1 k (fun e => nB (e ▸ hk)) (fun e => iB (e ▸ hk)) (fun q => by simp at q; exact e q.symm)
     unfold lab; rw [this]
 have hp := List.pairwise_append.1 h.lb
 have hq := List.pairwise_cons.1 hp.2.1
 refine ⟨?_, ?_, ?_, ?_, ?_, ?_, ?_⟩
 ·refine List.nodup_append.2 ⟨(List.nodup_append.1 h.nd).1, List.nodup_cons.2 ⟨?_, List.nodup_cons.2 ⟨nB, ndB⟩⟩, ?_⟩
  ·intro e
   rcases List.mem_cons.1 e with e | e
   ·exact ni e.symm
   ·exact iB e
  ·intro a ha b hb e
   subst e
   rcases List.mem_cons.1 hb with e | hb
   ·exact iA (e ▸ ha)
   ·rcases List.mem_cons.1 hb with e | hb
    ·exact nA (e ▸ ha)
    ·exact AB a ha hb
 ·have hc := Ch.app.1 h.ch
  refine Ch.app.2 ⟨hc.1.congr cA, ⟨_, ei⟩, ⟨_, en⟩, ?_⟩
  cases B with
  | nil => trivial
  | cons j B' =>
    refine ⟨⟨_, ej j B' rfl⟩, Ch.congr (fun k hk => ?_) hc.2.2.2⟩
    have hkj : k ≠ j := fun e => (List.nodup_cons.1 ndB).1 (e ▸ hk)
    exact e1 k (fun e => nB (e ▸ List.mem_cons_of_mem _ hk)) (fun e => iB (e ▸ List.mem_cons_of_mem _ hk)) (fun q => by simp at q; exact hkj q.symm)
 ·intro k hk
  by_cases a1 : k = n
  ·subst a1; simp
  ·by_cases a2 : k = i
   ·subst a2; simp
   ·by_cases a3 : B.head? = some k
    ·have := List.mem_of_mem_head? (l := B) (a := k) (by rw [a3]; rfl)
     simp [this]
    ·rw [e1 k a1 a2 a3] at hk
     have := h.us k hk
     simp only [List.mem_append, List.mem_cons] at this ⊢
     rcases this with t | t | t
     ·exact .inl t
     ·exact .inr (.inl t)
     ·exact .inr (.inr (.inr t))
 ·refine List.pairwise_append.2 ⟨hp.1.imp_of_mem fun ha hb r => by rw [lA _ ha, lA _ hb]; exact r, List.pairwise_cons.2 ⟨fun b hb => ?_, List.pairwise_cons.2 ⟨fun b hb => by rw [ln, lB b hb]; exact h3 b hb, hq.2.imp_of_mem fun ha hb r => by rw [lB _ ha, lB _ hb]; exact r⟩⟩, fun a ha b hb => ?_⟩
  ·rw [li]
   rcases List.mem_cons.1 hb with rfl | hb
   ·rw [ln]; exact h1
   ·rw [lB b hb]; exact hq.1 b hb
  ·rw [lA a ha]
   have hai := hp.2.2 a ha i List.mem_cons_self
   rcases List.mem_cons.1 hb with rfl | hb
   ·rw [li]; exact hai
   ·rcases List.mem_cons.1 hb with rfl | hb
    ·rw [ln]; omega
    ·rw [lB b hb]; exact hp.2.2 a ha b (List.mem_cons_of_mem _ hb)
 ·intro k hk
  have ri := h.rg i (by simp)
  rcases List.mem_append.1 hk with hk | hk
  ·rw [lA k hk]; exact h.rg k (List.mem_append_left _ hk)
  ·rcases List.mem_cons.1 hk with rfl | hk
   ·rw [li]; exact ri
   ·rcases List.mem_cons.1 hk with rfl | hk
    ·rw [ln]; omega
    ·rw [lB k hk]; exact h.rg k (by simp [hk])
 ·have := h.h0
  cases A with
  | nil => simpa using this
  | cons a A => simpa using this
 ·intro k hk
  rcases List.mem_append.1 hk with hk | hk
  ·exact h.nn k (List.mem_append_left _ hk)
  ·rcases List.mem_cons.1 hk with rfl | hk
   ·exact h.nn k (by simp)
   ·rcases List.mem_cons.1 hk with rfl | hk
    ·exact n0
    ·exact h.nn k (by simp [hk])
end Go.Proofs.Ytnlhnefjjblpcab
end
noncomputable section
namespace Go.Proofs.Ytnlhnefjjblpcab
open Go.AV Go.RowKit
theorem lp5 {α β γ δ ε : Type} {L : (α → β → γ → δ → ε → Prop) → α → β → γ → δ → ε → Prop} (I : α → β → γ → δ → ε → Prop) (m : α → β → γ → δ → ε → Nat) (step : ∀ X a b c d e, I a b c d e → (∀ a' b' c' d' e', I a' b' c' d' e' → m a' b' c' d' e' < m a b c d e → X a' b' c' d' e') → L X a b c d e) {a : α} {b : β} {c : γ} {d : δ} {e : ε} (ha : I a b c d e) : ∀ X : α → β → γ → δ → ε → Prop, (∀ x y z w v, L X x y z w v → X x y z w v) → X a b c d e := by
 intro X hX
 have key : ∀ n a b c d e, I a b c d e → m a b c d e = n → X a b c d e := by
  intro n
  induction n using Nat.strongRecOn with
  | _ n ih => intro a b c d e ha hm; exact hX a b c d e (step X a b c d e ha fun a' b' c' d' e' hb hlt => ih (m a' b' c' d' e') (by omega) a' b' c' d' e' hb rfl)
 exact key _ a b c d e ha rfl
def endL (c : Int → Option ST) (B : List Int) : Int := match B with | [] => 18446744073709551615 | j :: _ => lab c j
def newL (a e : Int) : Int := a + (if 1048576 < (e - a) / 2 then 1048576 else (e - a) / 2)
theorem OI.endL {c : Int → Option ST} {A B : List Int} {i : Int} (h : OI c (A ++ i :: B)) : 0 ≤ lab c i ∧ lab c i ≤ endL c B ∧ endL c B ≤ 18446744073709551615 := by
 have r := h.rg i (by simp)
 cases B with
 | nil => unfold Go.Proofs.Ytnlhnefjjblpcab.endL; simp only; omega
 | cons j B' =>
   have r2 := h.rg j (by simp)
   have := h.lt (j := j) (by simp)
   unfold Go.Proofs.Ytnlhnefjjblpcab.endL; simp only; omega
theorem OI.endL_lt {c : Int → Option ST} {A B : List Int} {i x : Int} (h : OI c (A ++ i :: B)) (hx : x < Go.Proofs.Ytnlhnefjjblpcab.endL c B) : ∀ j ∈ B, x < lab c j := by
 intro j hj
 cases B with
 | nil => cases hj
 | cons b B' =>
   unfold Go.Proofs.Ytnlhnefjjblpcab.endL at hx
   simp only at hx
   rcases List.mem_cons.1 hj with rfl | hj
   ·exact hx
   ·have h' : OI c ((A ++ [i]) ++ b :: B') := by simpa using h
    have := h'.lt hj
    omega
theorem pBetween (room : Int) {s : List SL} (f : List Int) {A B : List Int} {i : Int} (h : OI (cell s) (A ++ i :: B)) :
  order_List_between_v0_o i room s f (newL (lab (cell s) i) (endL (cell s) B)) (decide (1 < endL (cell s) B - lab (cell s) i)) room s f := by
 have at' := pAt room i s f
 rw [h.at] at at'
 have hr := h.endL
 have J : ∀ e, e = endL (cell s) B → order_List_between_v0_J1i (newL (lab (cell s) i) (endL (cell s) B)) (decide (1 < endL (cell s) B - lab (cell s) i)) room s f ⟨lab (cell s) i, B.headD (-1), A.getLastD (-1)⟩ e room s f := by
  rintro e rfl
  unfold order_List_between_v0_J1i
  simp only
  have e1 : IntKind.u64.wrap (endL (cell s) B - lab (cell s) i) = endL (cell s) B - lab (cell s) i := wrapu64 (by omega) (by omega)
  have e2 : (endL (cell s) B - lab (cell s) i).tdiv 2 = (endL (cell s) B - lab (cell s) i) / 2 := by rw [Int.tdiv_eq_ediv_of_nonneg (by omega)]
  rw [e1, e2, wrapu64 (n := (endL (cell s) B - lab (cell s) i) / 2) (by omega) (by omega)]
  refine ⟨?_, rfl, trivial, trivial, trivial⟩
  unfold newL
  split
  ·exact wrapu64 (by omega) (by omega)
  ·exact wrapu64 (by omega) (by omega)
 refine order_List_between_v0_i _ _ _ _ _ _ _ _ _ ⟨_, at', ?_⟩
 cases B with
 | nil => exact cnd_of_false (by simp) (J _ rfl)
 | cons j B' =>
   have h' : OI (cell s) ((A ++ [i]) ++ j :: B') := by simpa using h
   have hj := pAt room j s f
   rw [h'.at] at hj
   have n := h.nn j (by simp)
   exact cnd_of_true (by simp; omega) ⟨_, hj, J _ rfl⟩
def usd (s : List SL) : List Bool := s.map T_arena_slot.used
theorem usd_set {s : List SL} {n : Nat} {x y : ST} (h : s[n]? = some ⟨x, true⟩) : usd (s.set n ⟨y, true⟩) = usd s := by
 unfold usd
 rw [List.map_set]
 refine List.ext_getElem? fun m => ?_
 have g : (s.map T_arena_slot.used)[n]? = some true := by rw [List.getElem?_map, h]; rfl
 rw [set_get g]
 split
 ·rename_i e; rw [e, g]
 ·rfl
theorem usd_len {s t : List SL} (h : usd s = usd t) : s.length = t.length := by have := congrArg List.length h; simpa [usd] using this
structure RlI (s0 : List SL) (f : List Int) (o A B : List Int) (s : List SL) : Prop where
 e : o = A ++ B
 ln : usd s = usd s0
 ai : AI s f
 ch : Ch (cell s) (-1) o (-1)
 us : ∀ k, cell s k ≠ none → k ∈ o
 lb : ∀ (k : Nat) (i : Int), A[k]? = some i → lab (cell s) i = (k : Int) * 1048576
def rl : List Int → Int → List SL → List SL
 | [], _, s => s
 | i :: B, x, s => rl B (x + 1048576) (match cell s i with | some y => s.set i.toNat ⟨⟨x, y.next, y.prev⟩, true⟩ | none => s)
theorem RlI.step {s0 : List SL} {f : List Int} {o A B : List Int} {s : List SL} {i : Int} (h : RlI s0 f o A (i :: B) s) (nd : o.Nodup) : ∃ y, cell s i = some y ∧ y.next = B.headD (-1) ∧ RlI s0 f o (A ++ [i]) B (s.set i.toNat ⟨⟨(A.length : Int) * 1048576, y.next, y.prev⟩, true⟩) ∧ cell (s.set i.toNat ⟨⟨(A.length : Int) * 1048576, y.next, y.prev⟩, true⟩) = upd (cell s) i (some ⟨(A.length : Int) * 1048576, y.next, y.prev⟩) := by
 have hc := h.ch
 rw [h.e] at hc
 obtain ⟨l, hl⟩ := (Ch.app.1 hc).2.1
 obtain ⟨k0, k1⟩ := cell_some.1 hl
 have hu := cell_set k0 k1 ⟨⟨(A.length : Int) * 1048576, B.headD (-1), A.getLastD (-1)⟩, true⟩
 simp only [if_true] at hu
 have nd' := nd
 rw [h.e] at nd'
 have iA := (nd_split nd').1
 have hp := AI.put (x := ⟨(A.length : Int) * 1048576, B.headD (-1), A.getLastD (-1)⟩) h.ai k1
 refine ⟨_, hl, rfl, ⟨by rw [h.e]; simp, by rw [usd_set k1]; exact h.ln, hp, ?_, ?_, ?_⟩, hu⟩
 ·rw [hu]; exact Ch.relab hl h.ch
 ·intro k hk
  rw [hu] at hk
  unfold upd at hk
  split at hk
  ·rename_i e; rw [e, h.e]; simp
  ·exact h.us k hk
 ·intro k j hj
  rw [hu]
  rcases Nat.lt_or_ge k A.length with q | q
  ·rw [List.getElem?_append_left q] at hj
   have hne : j ≠ i := fun e => iA (e ▸ List.mem_of_getElem? hj)
   have := h.lb k j hj
   rw [← this]; unfold lab upd; rw [if_neg hne]
  ·rw [List.getElem?_append_right q] at hj
   have : k - A.length = 0 := by
    rcases Nat.eq_zero_or_pos (k - A.length) with e | e
    ·exact e
    ·rw [List.getElem?_eq_none (by simp; omega)] at hj; cases hj
   rw [this] at hj
   simp at hj; subst hj
   have : k = A.length := by omega
   subst this
   unfold lab upd; rw [if_pos rfl]
theorem rl_ok {s0 : List SL} {f : List Int} {o : List Int} (nd : o.Nodup) : ∀ {B A : List Int} {s : List SL}, RlI s0 f o A B s → RlI s0 f o o [] (rl B ((A.length : Int) * 1048576) s)
 | [], A, s, h => by
   have e : o = A := by rw [h.e]; simp
   unfold rl
   exact ⟨by simp, h.ln, h.ai, h.ch, h.us, by rw [e]; exact h.lb⟩
 | i :: B, A, s, h => by
   obtain ⟨y, hy, _, hs, _⟩ := h.step nd
   have := rl_ok nd hs
   unfold rl
   rw [hy]
   have e : ((A ++ [i]).length : Int) * 1048576 = (A.length : Int) * 1048576 + 1048576 := by simp; omega
   rw [e] at this
   exact this
theorem pRelabel (room : Int) {s : List SL} {f : List Int} {o : List Int} (h : OI (cell s) o) (ai : AI s f) (ho : o.length ≤ 100000) :
  ∃ s', order_List_relabel_v0_o room s f room s' f ∧ OI (cell s') o ∧ AI s' f ∧ usd s' = usd s ∧ ∀ (k : Nat) (i : Int), o[k]? = some i → lab (cell s') i = (k : Int) * 1048576 := by
 have fin : ∃ s', RlI s f o o [] s' ∧ order_List_relabel_v0_o room s f room s' f := by
  have r0 : RlI s f o [] o s := ⟨rfl, rfl, ai, h.ch, h.us, fun k i hk => by simp at hk⟩
  refine ⟨rl o 0 s, by simpa using rl_ok h.nd r0, order_List_relabel_v0_i _ _ _ _ _ _ ?_⟩
  refine lp5 (fun (x1 x2 x3 : Int) (x4 : List Int) (x5 : List SL) => ∃ A B, RlI s f o A B x5 ∧ x1 = (A.length : Int) * 1048576 ∧ x2 = B.headD (-1) ∧ x3 = room ∧ x4 = f ∧ rl B x1 x5 = rl o 0 s) (fun x1 _ _ _ _ => (200000 * 1048576 - x1).toNat) ?_ ⟨[], o, r0, by simp, ?_, rfl, rfl, rfl⟩
  ·rintro X x1 x2 x3 x4 x5 ⟨A, B, r, rfl, rfl, rfl, rfl, hrl⟩ ih
   have hlen : A.length ≤ 100000 := by
    have := congrArg List.length r.e; simp at this; omega
   cases B with
   | nil => exact cnd_of_false (by simp) ⟨rfl, hrl, rfl⟩
   | cons i B =>
     obtain ⟨y, hy, hnx, hs, hu⟩ := r.step h.nd
     have n0 := (cell_some.1 hy).1
     have a1 := pAt x3 i x5 x4
     rw [hy] at a1
     have a2 := pSet x3 ⟨(A.length : Int) * 1048576, y.next, y.prev⟩ x4 hy
     have a3 := pAt x3 i (x5.set i.toNat ⟨⟨(A.length : Int) * 1048576, y.next, y.prev⟩, true⟩) x4
     have a4 : cell (x5.set i.toNat ⟨⟨(A.length : Int) * 1048576, y.next, y.prev⟩, true⟩) i = some ⟨(A.length : Int) * 1048576, y.next, y.prev⟩ := by rw [hu]; unfold upd; rw [if_pos rfl]
     rw [a4] at a3
     refine cnd_of_true (by simp; omega) ⟨_, a1, _, _, _, a2, _, a3, ?_⟩
     rw [wrapu64 (by omega) (by omega)]
     refine ih _ _ _ _ _ ⟨A ++ [i], B, hs, by simp; omega, hnx, rfl, rfl, ?_⟩ (by omega)
     rw [← hrl]
     conv => rhs; unfold rl
     rw [hy]
  ·obtain ⟨r, hr⟩ : ∃ r, o = 0 :: r := by
    have := h.h0
    cases o with
    | nil => cases this
    | cons a r => simp at this; exact ⟨r, by rw [this]⟩
   rw [hr]; rfl
 obtain ⟨s', r, hr⟩ := fin
 refine ⟨s', hr, ⟨h.nd, r.ch, r.us, ?_, ?_, h.h0, h.nn⟩, r.ai, r.ln, r.lb⟩
 ·refine List.pairwise_iff_getElem.2 fun i j hi hj hij => ?_
  rw [r.lb i _ (List.getElem?_eq_getElem hi), r.lb j _ (List.getElem?_eq_getElem hj)]
  omega
 ·intro i hi
  obtain ⟨k, hk, rfl⟩ := List.mem_iff_getElem.1 hi
  rw [r.lb k _ (List.getElem?_eq_getElem hk)]
  omega
structure LI (s : List SL) (f : List Int) (o : List Int) : Prop where
 ai : AI s f
 oi : OI (cell s) o
 ln : (o.length : Int) = (s.length : Int) - f.length
theorem newL_in {a e : Int} (h : 1 < e - a) : a < newL a e ∧ newL a e < e := by
 unfold newL; split <;> omega
def nextP (s : List SL) (f : List Int) : Int := (alloc st0 1048576 s f).i
theorem nextP_eq {x : ST} {s : List SL} {f : List Int} : (s.length : Int) - f.length < 1048576 → (alloc x 1048576 s f).i = nextP s f := by
 intro h
 unfold nextP alloc
 rw [if_neg (by omega), if_neg (by omega)]
 cases f.getLast? <;> rfl
theorem alloc_same {x : ST} {s : List SL} {f : List Int} : (alloc x 1048576 s f).f = (alloc st0 1048576 s f).f ∧ usd (alloc x 1048576 s f).s = usd (alloc st0 1048576 s f).s := by
 unfold alloc
 split
 ·exact ⟨rfl, rfl⟩
 ·cases f.getLast? with
  | none => refine ⟨rfl, ?_⟩; unfold usd; simp
  | some i => refine ⟨rfl, ?_⟩; unfold usd; simp [List.map_set]
theorem J1_ok {s : List SL} {f : List Int} {A B : List Int} {i nl : Int} (h : LI s f (A ++ i :: B)) (hs : s.length ≤ 10000) (h1 : lab (cell s) i < nl) (h2 : nl < endL (cell s) B) :
  ∃ s' f', order_List_After_v0_J1i i (nextP s f) true 1048576 s' f' nl 1048576 s f ∧ LI s' f' (A ++ i :: nextP s f :: B) ∧ s'.length ≤ s.length + 1 ∧ cell s (nextP s f) = none ∧ f' = (alloc st0 1048576 s f).f ∧ usd s' = usd (alloc st0 1048576 s f).s := by
 have hr := h.oi.endL
 have hlt := h.oi.endL_lt h2
 have hle := h.ai.le
 have hi := h.oi.at
 have at1 := pAt 1048576 i s f
 rw [hi] at at1
 have hroom : (s.length : Int) - f.length < 1048576 := by omega
 obtain ⟨q1, q2, q3, q4, q5⟩ := alloc_ok (x := ⟨nl, B.headD (-1), i⟩) (a := 1048576) h.ai hroom
 have p := pAlloc (x := ⟨nl, B.headD (-1), i⟩) (a := 1048576) h.ai (by omega)
 have hA := alloc_AI (x := ⟨nl, B.headD (-1), i⟩) (a := 1048576) h.ai
 have hL := alloc_len (x := ⟨nl, B.headD (-1), i⟩) (a := 1048576) (s := s) (f := f)
 have hsame := alloc_same (x := ⟨nl, B.headD (-1), i⟩) (s := s) (f := f)
 rw [q1] at p
 rw [nextP_eq hroom] at p q2 q3 q4
 generalize nextP s f = n at *
 generalize (alloc ⟨nl, B.headD (-1), i⟩ 1048576 s f).s = s1 at *
 generalize (alloc ⟨nl, B.headD (-1), i⟩ 1048576 s f).f = f1 at *
 have hno : n ∉ A ++ i :: B := fun e => by
  obtain ⟨x, hx⟩ := h.oi.ch.mem e
  rw [q2] at hx; cases hx
 have ni : n ≠ i := fun e => hno (by rw [e]; simp)
 have iB := (nd_split h.oi.nd).2.1
 have c1i : cell s1 i = some ⟨lab (cell s) i, B.headD (-1), A.getLastD (-1)⟩ := by rw [q4]; unfold upd; rw [if_neg (fun e => ni e.symm), hi]
 have c1n : cell s1 n = some ⟨nl, B.headD (-1), i⟩ := by rw [q4]; unfold upd; rw [if_pos rfl]
 have hln := h.ln
 have hlen : ((A ++ i :: n :: B).length : Int) = ((A ++ i :: B).length : Int) + 1 := by simp; omega
 cases B with
 | nil =>
   obtain ⟨k0, k1⟩ := cell_some.1 c1i
   have a2 := pSet 1048576 (⟨lab (cell s) i, n, A.getLastD (-1)⟩ : ST) f1 c1i
   have hu := cell_set k0 k1 ⟨⟨lab (cell s) i, n, A.getLastD (-1)⟩, true⟩
   simp only [if_true] at hu
   refine ⟨_, f1, ⟨_, at1, n, true, 1048576, s1, f1, p, cnd_of_false rfl (cnd_of_false (by simp) ⟨_, _, _, a2, rfl, rfl, rfl, rfl, rfl⟩)⟩, ⟨AI.put hA k1, ?_, ?_⟩, by simp; omega, q2, hsame.1, by rw [usd_set k1]; exact hsame.2⟩
   ·refine h.oi.ins q2 q3 h1 (by omega) hlt (fun k kn ki _ => ?_) ?_ ?_ (fun j B' e => by cases e)
    ·rw [hu, q4]; unfold upd; rw [if_neg ki, if_neg kn]
    ·rw [hu]; unfold upd; rw [if_pos rfl]
    ·rw [hu]; unfold upd; rw [if_neg ni]; exact c1n
   ·rw [hlen]; simp only [List.length_set]; omega
 | cons j B' =>
   have h' : OI (cell s) ((A ++ [i]) ++ j :: B') := by simpa using h.oi
   have hj := h'.at
   have jn : j ≠ n := fun e => hno (by rw [← e]; simp)
   have ji : j ≠ i := fun e => iB (by rw [← e]; simp)
   have j0 := h.oi.nn j (by simp)
   have e1 : (A ++ [i]).getLastD (-1) = i := by simp
   rw [e1] at hj
   have c1j : cell s1 j = some ⟨lab (cell s) j, B'.headD (-1), i⟩ := by rw [q4]; unfold upd; rw [if_neg jn, hj]
   have at2 := pAt 1048576 j s1 f1
   rw [c1j] at at2
   obtain ⟨m0, m1⟩ := cell_some.1 c1j
   have a1 := pSet 1048576 (⟨lab (cell s) j, B'.headD (-1), n⟩ : ST) f1 c1j
   have hv := cell_set m0 m1 ⟨⟨lab (cell s) j, B'.headD (-1), n⟩, true⟩
   simp only [if_true] at hv
   have hA2 := AI.put (x := ⟨lab (cell s) j, B'.headD (-1), n⟩) hA m1
   have us2 : usd (s1.set j.toNat ⟨⟨lab (cell s) j, B'.headD (-1), n⟩, true⟩) = usd s1 := usd_set m1
   have len2 : (s1.set j.toNat ⟨⟨lab (cell s) j, B'.headD (-1), n⟩, true⟩).length = s1.length := by simp
   simp only at hA2
   generalize (s1.set j.toNat ⟨⟨lab (cell s) j, B'.headD (-1), n⟩, true⟩) = s2 at *
   have c2i : cell s2 i = some ⟨lab (cell s) i, j, A.getLastD (-1)⟩ := by rw [hv]; unfold upd; rw [if_neg (fun e => ji e.symm)]; exact c1i
   obtain ⟨k0, k1⟩ := cell_some.1 c2i
   have a2 := pSet 1048576 (⟨lab (cell s) i, n, A.getLastD (-1)⟩ : ST) f1 c2i
   have hu := cell_set k0 k1 ⟨⟨lab (cell s) i, n, A.getLastD (-1)⟩, true⟩
   simp only [if_true] at hu
   refine ⟨_, f1, ⟨_, at1, n, true, 1048576, s1, f1, p, cnd_of_false rfl (cnd_of_true (by simp; omega) ⟨_, at2, _, _, _, a1, _, _, _, a2, rfl, rfl, rfl, rfl, rfl⟩)⟩, ⟨AI.put hA2 k1, ?_, ?_⟩, by simp; omega, q2, hsame.1, by rw [usd_set k1, us2]; exact hsame.2⟩
   ·refine h.oi.ins q2 q3 h1 (by omega) hlt (fun k kn ki kb => ?_) ?_ ?_ (fun j2 B2 e => ?_)
    ·have kj : k ≠ j := fun e => kb (by rw [e]; rfl)
     rw [hu]; unfold upd; rw [if_neg ki, hv]; unfold upd; rw [if_neg kj, q4]; unfold upd; rw [if_neg kn]
    ·rw [hu]; unfold upd; rw [if_pos rfl]
    ·rw [hu]; unfold upd; rw [if_neg ni, hv]; unfold upd; rw [if_neg (fun e => jn e.symm)]; exact c1n
    ·cases e
     rw [hu]; unfold upd; rw [if_neg ji, hv]; unfold upd; rw [if_pos rfl]
   ·rw [hlen]; simp only [List.length_set]; omega
theorem pAfter {s : List SL} {f : List Int} {A B : List Int} {i : Int} (h : LI s f (A ++ i :: B)) (hs : s.length ≤ 10000) :
  ∃ s' f', order_List_After_v0_o i 1048576 s f (nextP s f) true 1048576 s' f' ∧ LI s' f' (A ++ i :: nextP s f :: B) ∧ s'.length ≤ s.length + 1 ∧ cell s (nextP s f) = none ∧ f' = (alloc st0 1048576 s f).f ∧ usd s' = usd (alloc st0 1048576 s f).s := by
 have hH := pHasL 1048576 i s f
 rw [h.oi.at] at hH
 have hb := pBetween 1048576 f h.oi
 have hln := h.ln
 have hle := h.ai.le
 by_cases c : 1 < endL (cell s) B - lab (cell s) i
 ·obtain ⟨n1, n2⟩ := newL_in c
  obtain ⟨s', f', j1, j2, j3, j4, j5⟩ := J1_ok h hs n1 n2
  rw [decide_eq_true c] at hb
  exact ⟨s', f', order_List_After_v0_i _ _ _ _ _ _ _ _ _ ⟨_, hH, cnd_of_false rfl ⟨_, _, _, _, _, hb, cnd_of_false rfl j1⟩⟩, j2, j3, j4, j5⟩
 ·rw [decide_eq_false c] at hb
  obtain ⟨s1, r1, r2, r3, r4', r5⟩ := pRelabel 1048576 h.oi h.ai (by omega)
  have r4 := usd_len r4'
  have hb2 := pBetween 1048576 f r2
  have li : lab (cell s1) i = (A.length : Int) * 1048576 := r5 A.length i (by simp)
  have c2 : 1 < endL (cell s1) B - lab (cell s1) i := by
   cases B with
   | nil => unfold endL; simp only; rw [li]; simp at hln; omega
   | cons j B' =>
     have lj : lab (cell s1) j = ((A.length + 1 : Nat) : Int) * 1048576 := r5 (A.length + 1) j (by
      rw [List.getElem?_append_right (by omega)]; simp)
     unfold endL; simp only; rw [li, lj]; omega
  rw [decide_eq_true c2] at hb2
  obtain ⟨n1, n2⟩ := newL_in c2
  have h1 : LI s1 f (A ++ i :: B) := ⟨r3, r2, by rw [hln, r4]⟩
  obtain ⟨s', f', j1, j2, j3, j4, j5, j6⟩ := J1_ok h1 (by omega) n1 n2
  have en : nextP s1 f = nextP s f := by
   unfold nextP alloc
   rw [if_neg (by omega), if_neg (by omega), r4]
   cases f.getLast? <;> rfl
  rw [en] at j1 j2 j4
  have ef : (alloc st0 1048576 s1 f).f = (alloc st0 1048576 s f).f := by
   unfold alloc
   rw [if_neg (by omega), if_neg (by omega)]
   cases f.getLast? <;> rfl
  have eu : usd (alloc st0 1048576 s1 f).s = usd (alloc st0 1048576 s f).s := by
   have r4u : s1.map T_arena_slot.used = s.map T_arena_slot.used := r4'
   unfold alloc
   rw [if_neg (by omega), if_neg (by omega)]
   cases f.getLast? with
   | none => unfold usd; simp [r4u]
   | some i => unfold usd; simp [List.map_set, r4u]
  refine ⟨s', f', order_List_After_v0_i _ _ _ _ _ _ _ _ _ ⟨_, hH, cnd_of_false rfl ⟨_, _, _, _, _, hb, cnd_of_true rfl ⟨_, _, _, r1, _, _, _, _, _, hb2, j1⟩⟩⟩, j2, by omega, ?_, by rw [j5, ef], by rw [j6, eu]⟩
  cases e : cell s (nextP s f) with
  | none => rfl
  | some x =>
    have := h.oi.us _ (by rw [e]; simp)
    obtain ⟨y, hy⟩ := r2.ch.mem this
    rw [j4] at hy; cases hy
theorem pLess (a : Int) {s : List SL} (f : List Int) {x y : Int} {p q : ST} (hx : cell s x = some p) (hy : cell s y = some q) : order_List_Less_v0_o x y a s f (decide (lab (cell s) x < lab (cell s) y)) := by
 have h1 := pHasL a x s f
 have h2 := pHasL a y s f
 have h3 := pAt a x s f
 have h4 := pAt a y s f
 rw [hx] at h1 h3
 rw [hy] at h2 h4
 rw [lab_some hx, lab_some hy]
 exact order_List_Less_v0_i _ _ _ _ _ _ ⟨_, h1, cnd_of_true rfl ⟨_, h2, cnd_of_true rfl ⟨_, h3, _, h4, rfl⟩⟩⟩
theorem pLen {s : List SL} {f o : List Int} (h : LI s f o) (hs : s.length ≤ 100000) (a : Int) : order_List_Len_v0_o a s f (o.length : Int) := by
 have hle := h.ai.le
 refine order_List_Len_v0_i _ _ _ _ ⟨_, arena_Arena_stamp_Live_v0_i _ _ _ _ rfl, ?_⟩
 rw [wrap64 (by omega) (by omega), h.ln]
theorem pNew : ∃ s, order_New_v0_o 1048576 s [] ∧ LI s [] [0] ∧ s.length = 1 := by
 refine ⟨[⟨⟨0, -1, -1⟩, true⟩], ⟨1048576, [], [], ⟨by decide, rfl, rfl⟩, 0, true, 1048576, [⟨⟨0, -1, -1⟩, true⟩], [], ?_, rfl, rfl, rfl⟩, ⟨⟨by simp, fun i h => by simp at h, by simp⟩, ?_, by simp⟩, rfl⟩
 ·exact pAlloc (x := ⟨0, -1, -1⟩) (a := 1048576) (s := []) (f := []) ⟨by simp, fun _ h => by simp at h, by simp⟩ (by simp)
 ·have hc : cell [⟨⟨0, -1, -1⟩, true⟩] 0 = some ⟨0, -1, -1⟩ := by simp [cell]
  refine ⟨by simp, ⟨⟨0, hc⟩, trivial⟩, fun i hi => ?_, by simp, fun i hi => ?_, rfl, fun i hi => ?_⟩
  ·unfold cell at hi
   by_cases h0 : 0 ≤ i
   ·by_cases h1 : i = 0
    ·simp [h1]
    ·rw [List.getElem?_eq_none (by simp; omega)] at hi; simp at hi
   ·simp [h0] at hi
  ·simp at hi; subst hi; rw [lab_some hc]; simp
  ·simp at hi; omega
end Go.Proofs.Ytnlhnefjjblpcab
end
noncomputable section
namespace Go.Proofs.Ytnlhnefjjblpcab
open Go.AV Go.RowKit
theorem next0 {s : List SL} (h : s.length < 1000000) : nextP s [] = s.length ∧ (alloc st0 1048576 s []).f = [] ∧ (usd (alloc st0 1048576 s []).s).length = s.length + 1 := by
 unfold nextP alloc
 rw [if_neg (by simp; omega)]
 refine ⟨rfl, rfl, by simp [usd]⟩
theorem OI.head {c : Int → Option ST} {o : List Int} (h : OI c o) {n : Int} (hn : n ∈ o) (h0 : n ≠ 0) : lab c 0 < lab c n := by
 have hh := h.h0
 cases o with
 | nil => cases hh
 | cons a r =>
   simp at hh; subst hh
   have h' : OI c ([] ++ 0 :: r) := h
   rcases List.mem_cons.1 hn with e | e
   ·exact (h0 e).elim
   ·exact h'.lt e
theorem OI.some0 {c : Int → Option ST} {o : List Int} (h : OI c o) : (0 : Int) ∈ o ∧ ∃ x, c 0 = some x := by
 have hh := h.h0
 cases o with
 | nil => cases hh
 | cons a r =>
   simp at hh; subst hh
   exact ⟨by simp, h.ch.mem List.mem_cons_self⟩
theorem put0 {s : List SL} {o : List Int} (h : LI s [] o) (hs : s.length ≤ 9000) {i : Int} (hi : i ∈ o) :
  ∃ s' A B, o = A ++ i :: B ∧ order_List_After_v0_o i 1048576 s [] (s.length : Int) true 1048576 s' [] ∧ LI s' [] (A ++ i :: (s.length : Int) :: B) ∧ s'.length = s.length + 1 ∧ (s.length : Int) ≠ 0 := by
 obtain ⟨A, B, rfl⟩ := List.append_of_mem hi
 obtain ⟨s', f', a1, a2, a3, a4, a5, a6⟩ := pAfter h (by omega)
 obtain ⟨n1, n2, n3⟩ := next0 (s := s) (by omega)
 rw [n1] at a1 a2 a4
 rw [n2] at a5
 subst a5
 refine ⟨s', A, B, rfl, a1, a2, ?_, ?_⟩
 ·have := congrArg List.length a6
  rw [n3] at this; simpa [usd] using this
 ·intro e
  obtain ⟨x, hx⟩ := h.oi.some0.2
  rw [e, hx] at a4; cases a4
theorem speaks_true : law02_speaks_o true := by
 refine law02_speaks_i true ?_
 obtain ⟨s1, w1, h1, l1⟩ := pNew
 obtain ⟨s2, A, B, e, w2, h2, l2, _⟩ := put0 h1 (by omega) (i := 0) (by simp)
 obtain ⟨rfl, rfl⟩ : A = [] ∧ B = [] := by
  cases A with
  | nil => simp at e; exact ⟨rfl, e⟩
  | cons a A => simp at e
 rw [l1] at w2 h2
 obtain ⟨s3, A, B, e, w3, h3, l3, _⟩ := put0 h2 (by omega) (i := 0) (by simp)
 obtain ⟨rfl, rfl⟩ : A = [] ∧ B = [1] := by
  cases A with
  | nil => simp at e; exact ⟨rfl, e.symm⟩
  | cons a A =>
    simp at e
    cases A with
    | nil => simp at e
    | cons b A => simp at e
 rw [l2, l1] at w3 h3
 have h3' : OI (cell s3) ([0] ++ 2 :: [1]) := h3.oi
 have lt := h3'.lt (j := 1) (by simp)
 obtain ⟨x1, c1⟩ := h3.oi.ch.mem (i := 1) (by simp)
 obtain ⟨x2, c2⟩ := h3.oi.ch.mem (i := 2) (by simp)
 have p1 := pLess 1048576 [] c2 c1
 have p2 := pLess 1048576 [] c1 c2
 have p3 := pLen h3 (by omega) 1048576
 refine ⟨_, _, _, w1, _, _, _, _, _, w2, _, _, _, _, _, w3, cnd_of_true rfl (cnd_of_true rfl (cnd_of_true rfl (cnd_of_true rfl ⟨_, p1, cnd_of_true (by simpa using lt) ⟨_, p2, cnd_of_true (by simp; omega) ⟨_, p3, ?_⟩⟩⟩)))⟩
 show _ = _
 simp
theorem walk_ok {a0 : Int} {s : List SL} {o : List Int} (h : LI s [] o) (hs : s.length ≤ 9000) (hn : ((o.length : Int) == IntKind.i64.wrap (1 + (IntKind.i64.wrap a0).tmod 700)) = true) :
  ∀ X5 : Int → Int → Bool → Int → (List T_arena_slot) → (List Int) → Prop, (∀ x32 x33 x34 x35 x36 x37, law02_OrderTight_L5i a0 true X5 x32 x33 x34 x35 x36 x37 → X5 x32 x33 x34 x35 x36 x37) → X5 0 0 true 1048576 s [] := by
 intro X hX
 have key : ∀ (B A : List Int) (ah : Int) (fst : Bool), o = A ++ B → (A = [] ∧ fst = true) ∨ (∃ A', A = A' ++ [ah] ∧ fst = false) → X (B.headD (-1)) ah fst 1048576 s [] := by
  intro B
  induction B with
  | nil =>
    intro A ah fst e _
    refine hX _ _ _ _ _ _ (cnd_of_false (by simp) ⟨_, pLen h (by omega) 1048576, hn⟩)
  | cons b B ih =>
    intro A ah fst e hc
    have hb : b ∈ o := by rw [e]; simp
    have b0 := h.oi.nn b hb
    have ho := h.oi
    rw [e] at ho
    have at1 := pAt 1048576 b s []
    rw [ho.at] at at1
    have nx : law02_OrderTight_J6i X b b false 1048576 s [] := ⟨_, at1, ih (A ++ [b]) b false (by rw [e]; simp) (.inr ⟨A, rfl, rfl⟩)⟩
    refine hX _ _ _ _ _ _ (cnd_of_true (by simp; omega) ?_)
    rcases hc with ⟨rfl, rfl⟩ | ⟨A', rfl, rfl⟩
    ·have e0 : b = 0 := by have := ho.h0; simpa using this
     refine cnd_of_true rfl (cnd_of_false (by simp [e0]) nx)
    ·have ho' : OI (cell s) (A' ++ ah :: b :: B) := by simpa using ho
     have lt := ho'.lt (j := b) (by simp)
     refine cnd_of_false rfl ⟨_, pLess 1048576 [] ho'.at ho.at, cnd_of_false (by simpa using lt) ⟨_, pLess 1048576 [] ho.at ho'.at, cnd_of_false (by simp; omega) nx⟩⟩
 have hh := h.oi.h0
 cases o with
 | nil => cases hh
 | cons a r => simp at hh; subst hh; exact key (0 :: r) [] 0 true rfl (.inl ⟨rfl, rfl⟩)
theorem tight_true {a0 : Int} (h0 : 0 ≤ a0) (h1 : a0 ≤ 65535) (l : List Bool) : law02_OrderTight_o a0 l true := by
 obtain ⟨s1, w1, k1, l1⟩ := pNew
 refine law02_OrderTight_i _ _ _ ⟨true, speaks_true, cnd_of_false rfl ⟨_, _, _, w1, ?_⟩⟩
 have eN : (IntKind.i64.wrap a0).tmod 700 = a0 % 700 := by rw [wrap64 (by omega) (by omega), Int.tmod_eq_emod_of_nonneg h0]
 refine lp5 (fun (la i room : Int) (s : List SL) (f : List Int) => room = 1048576 ∧ f = [] ∧ 0 ≤ i ∧ i ≤ a0 % 700 ∧ (s.length : Int) = i + 1 ∧ ∃ o, LI s [] o ∧ la ∈ o) (fun _ i _ _ _ => (1000 - i).toNat) ?_ ⟨rfl, rfl, by omega, by omega, by omega, [0], k1, by simp⟩
 rintro X la i room s f ⟨rfl, rfl, i0, i1, hs, o, h, hla⟩ ih
 unfold law02_OrderTight_L1i
 rw [eN]
 refine ⟨fun c => ?_, fun c => ?_⟩
 ·have c : i < a0 % 700 := by simpa using c
  have e1 : IntKind.i64.wrap (i + 1) = i + 1 := wrap64 (by omega) (by omega)
  have go : ∀ at_, at_ ∈ o → law02_OrderTight_J2i X true i at_ 1048576 s [] := by
   intro at_ hat
   obtain ⟨s', A, B, e, p1, p2, p3, p4⟩ := put0 h (by omega) hat
   have lt := p2.oi.lt (j := (s.length : Int)) (by simp)
   have lt0 := p2.oi.head (n := (s.length : Int)) (by simp) p4
   obtain ⟨x1, c1⟩ := p2.oi.ch.mem (i := at_) (by simp)
   obtain ⟨x2, c2⟩ := p2.oi.ch.mem (i := (s.length : Int)) (by simp)
   obtain ⟨x3, c3⟩ := p2.oi.some0.2
   refine ⟨_, _, _, _, _, p1, cnd_of_false rfl ⟨_, pLess 1048576 [] c1 c2, cnd_of_false (by simpa using lt) ⟨_, pLess 1048576 [] c3 c2, cnd_of_false (by simpa using lt0) ?_⟩⟩⟩
   rw [e1]
   exact ih _ _ _ _ _ ⟨rfl, rfl, by omega, by omega, by omega, _, p2, by simp⟩ (by omega)
  have g : ∀ b, law02_OrderTight_J4i X true la i 1048576 b s [] := fun b => ⟨fun _ => go la hla, fun _ => go 0 h.oi.some0.1⟩
  have tail : (l.length ≤ maxLen → cnd (decide ((0 : Int) < (l.length : Int))) ((l.length ≤ maxLen → ((l.length : Int) ≠ 0) ∧ (0 ≤ (i.tmod (l.length : Int))) ∧ ((i.tmod (l.length : Int)) < (l.length : Int)) ∧ ∃ y30 : Bool, (l[(i.tmod (l.length : Int)).toNat]? = some y30) ∧ law02_OrderTight_J4i X true la i 1048576 y30 s [])) (law02_OrderTight_J4i X true la i 1048576 false s [])) := by
   refine fun _ => ⟨fun c => fun _ => ?_, fun _ => g _⟩
   have c : (0 : Int) < l.length := by simpa using c
   have em : i.tmod (l.length : Int) = i % (l.length : Int) := Int.tmod_eq_emod_of_nonneg i0
   have m0 := Int.emod_nonneg i (show (l.length : Int) ≠ 0 by omega)
   have m1 := Int.emod_lt_of_pos i c
   rw [em]
   exact ⟨by omega, m0, m1, _, List.getElem?_eq_getElem (by omega), g _⟩
  refine fun _ => ⟨fun c => ?_, fun _ => tail⟩
  have c : i < (l.length : Int) := by simpa using c
  exact ⟨i0, c, _, List.getElem?_eq_getElem (by omega), fun _ => g _, fun _ => tail⟩
 ·have c : ¬ i < a0 % 700 := by simpa using c
  refine ⟨order_List_All_v0_i _ _ _ trivial, fun _ => walk_ok h (by omega) ?_⟩
  rw [eN, wrap64 (by omega) (by omega)]
  have := h.ln
  simp at this ⊢
  omega
end Go.Proofs.Ytnlhnefjjblpcab
end
noncomputable section
namespace Go.Proofs.Ytnlhnefjjblpcab
open Go.AV Go.RowKit
def OrderTight_law : Prop := ∀ (a0 : Int) (a1 : (List Bool)), (fun n : Int => (Lit.int .u16 n).wf = true) a0 → (fun l : List Bool => l.length ≤ maxLen ∧ ∀ v ∈ l, (fun _ : Bool => True) v) a1 → law02_OrderTight_o a0 a1 true
set_option maxRecDepth 100000 in
theorem OrderTight_pure {a0 : Int} {a1 : (List Bool)} (h : law02_OrderTight_o a0 a1 true) : Pure Try.prog 3 [.it .u16 a0, slA eB a1] (.bl true) := by
 have e : Pure Try.prog law02_OrderTight_sp.f (pencs CC law02_OrderTight_sp.ps [.d (.v 22 a0), .d (.v 23 a1)]) (tresA (([.v 4 true] : List (DV KK)).map (dvA CC))) = Pure Try.prog 3 [.it .u16 a0, slA eB a1] (.bl true) := by kernel_rfl
 have w : law02_OrderTight_sp.W [.d (.v 22 a0), .d (.v 23 a1)] [.v 4 true] = law02_OrderTight_o a0 a1 true := by kernel_rfl
 exact e.mp (law02_OrderTight_ok _ _ (fun F h => by simp at h) (w.mpr h)).2
end Go.Proofs.Ytnlhnefjjblpcab
end
noncomputable section
namespace Go.Proofs.Ytnlhnefjjblpcab
open Go.AV
theorem OrderTight_true : OrderTight_law := fun a0 a1 h _ => by
 have h : 0 ≤ a0 ∧ a0 ≤ 65535 := by simpa [Lit.wf, IntKind.min, IntKind.max, IntKind.signed, IntKind.bits] using h
 exact tight_true h.1 h.2 a1
end Go.Proofs.Ytnlhnefjjblpcab
end
