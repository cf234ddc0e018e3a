/- General texts and own ones, joined: what the program computes, told of abstract states, and the laws of plain data. No condition. -/
import Derived.Test.YtoiojmpkifgimaaDoorMc
import Derived.Test.YtoiojmpkifgimaaDoorMb
noncomputable section
namespace Go.AV
open Go.RowKit Go.RG Go.Lib
variable {K : Nat -> Type}
section
variable {P : Program} {C : Cx K} {R : List (HO K) -> Hp -> Nat -> Prop} {ts ts1 : TS K} {χ : Nat -> Nat -> Bool} {ds : DS} {B : Base} [GB P B] {N : Nat} {ro : Option Nat}
theorem ymA (p : Nat × TV K) (r : List (Nat × TV K)) (t : Nat) : lkR (p :: r) t = if p.1 = t then some p.2 else lkR r t := by
 show (match Nat.beq p.1 t with | true => some p.2 | false => lkR r t) = _
 cases h : Nat.beq p.1 t with
 | true => simp [nbeq.1 h]
 | false => simp only; rw [if_neg (fun e => by rw [nbeq.2 e] at h; cases h)]
theorem ExtR.refl {rg : List (Nat × TV K)} : ExtR rg rg := fun _ _ h => h
theorem ExtR.trans {a b c : List (Nat × TV K)} (h : ExtR a b) (k : ExtR b c) : ExtR a c := fun id w q => k id w (h id w q)
def Same (ts ts' : TS K) : Prop := ts'.od = ts.od /\ ts'.nw = ts.nw
theorem yeR : ∀ (k : Kd) (v : TV K) (rg : List (Nat × TV K)), ExtR rg (tagV k v rg).2
 | .kp id, v, rg => by
   simp only [tagV]
   split
   ·rename_i h1 h2
    intro id' w h
    rw [ymA]
    split
    ·rename_i e; simp only at e; subst e; rw [h2] at h; cases h
    ·exact h
   ·exact .refl
 | .agg l, v, rg => by
   cases v with
   | agg vs =>
     simp only [tagV]
     exact tagVs_ext l vs rg
   | _ => exact .refl
 | .it _, v, rg => .refl
 | .bl, v, rg => .refl
 | .st, v, rg => .refl
 | .sl _, v, rg => .refl
 | .v _, v, rg => .refl
 | .row _, v, rg => .refl
 | .px _ _, v, rg => .refl
 | .nil, v, rg => .refl
 | .un, v, rg => .refl
where tagVs_ext : ∀ (l : List Kd) (vs : List (TV K)) (rg : List (Nat × TV K)), ExtR rg (yen l vs rg).2
 | [], vs, rg => .refl
 | k :: l, [], rg => .refl
 | k :: l, v :: vs, rg => by
   simp only [yen]
   exact (yeR k v rg).trans (tagVs_ext l vs _)
theorem Mono.same {ts ts' : TS K} (hs : Same ts ts') (hx : ExtR ts.rg ts'.rg) : Mono ts ts' χ χ := by
 have ht : ∀ s c, ts'.tb s c = ts.tb s c := by intro s c; unfold TS.tb; rw [hs.1, hs.2]
 refine ⟨hx, fun s c h => ?_, fun s c _ => .inr ⟨by rw [ht], rfl⟩⟩
 rcases h with h | ⟨h1, h2⟩
 ·exact .inl h
 ·exact .inr ⟨h1, by rw [hs.2]; exact h2⟩
mutual
theorem yn4 : ∀ (k : Kd) (v : TV K) (rg : List (Nat × TV K)) (a : AV) (ts' : TS K), TR P C ts χ v a → Mono ts ts' χ χ → ExtR (tagV k v rg).2 ts'.rg → TR P C ts' χ (tagV k v rg).1 a
 | .kp id, v, rg, a, ts', h, hm, hx => by
   simp only [tagV] at hx ⊢
   split
   ·rename_i h1 h2
    rw [h1, h2] at hx
    exact .cn id v a (hx id v (by rw [ymA]; simp)) h1 (h.noref h1).1
   ·exact h.mono hm
 | .agg l, .agg vs, rg, a, ts', h, hm, hx => by
   simp only [tagV] at hx ⊢
   obtain ⟨az, rfl, t1, t2⟩ := h.agg'
   have := ykb l vs rg az ts' ⟨t1, t2⟩ hm hx
   exact .agg _ _ this.1 this.2
 | .agg l, .un, rg, a, ts', h, hm, hx => h.mono hm
 | .agg l, .lb b, rg, a, ts', h, hm, hx => h.mono hm
 | .agg l, .bl b, rg, a, ts', h, hm, hx => h.mono hm
 | .agg l, .li k n, rg, a, ts', h, hm, hx => h.mono hm
 | .agg l, .it k n, rg, a, ts', h, hm, hx => h.mono hm
 | .agg l, .st s, rg, a, ts', h, hm, hx => h.mono hm
 | .agg l, .tup s, rg, a, ts', h, hm, hx => h.mono hm
 | .agg l, .nil, rg, a, ts', h, hm, hx => h.mono hm
 | .agg l, .em, rg, a, ts', h, hm, hx => h.mono hm
 | .agg l, .sl _ _, rg, a, ts', h, hm, hx => h.mono hm
 | .agg l, .rw _ _, rg, a, ts', h, hm, hx => h.mono hm
 | .agg l, .px _ _ _, rg, a, ts', h, hm, hx => h.mono hm
 | .agg l, .pr _ _ _ _ _, rg, a, ts', h, hm, hx => h.mono hm
 | .agg l, .ep _ _ _ _, rg, a, ts', h, hm, hx => h.mono hm
 | .agg l, .gs _ _, rg, a, ts', h, hm, hx => h.mono hm
 | .agg l, .nptr, rg, a, ts', h, hm, hx => h.mono hm
 | .agg l, .fn _ _ _, rg, a, ts', h, hm, hx => h.mono hm
 | .agg l, .fv _ _ _, rg, a, ts', h, hm, hx => h.mono hm
 | .agg l, .cn _ _, rg, a, ts', h, hm, hx => h.mono hm
 | .it _, v, rg, a, ts', h, hm, hx => h.mono hm
 | .bl, v, rg, a, ts', h, hm, hx => h.mono hm
 | .st, v, rg, a, ts', h, hm, hx => h.mono hm
 | .sl _, v, rg, a, ts', h, hm, hx => h.mono hm
 | .v _, v, rg, a, ts', h, hm, hx => h.mono hm
 | .row _, v, rg, a, ts', h, hm, hx => h.mono hm
 | .px _ _, v, rg, a, ts', h, hm, hx => h.mono hm
 | .nil, v, rg, a, ts', h, hm, hx => h.mono hm
 | .un, v, rg, a, ts', h, hm, hx => h.mono hm
theorem ykb : ∀ (l : List Kd) (vs : List (TV K)) (rg : List (Nat × TV K)) (az : List AV) (ts' : TS K), TL P C ts χ vs az → Mono ts ts' χ χ → ExtR (yen l vs rg).2 ts'.rg → TL P C ts' χ (yen l vs rg).1 az
 | [], vs, rg, az, ts', h, hm, hx => h.mono hm
 | k :: l, [], rg, az, ts', h, hm, hx => h.mono hm
 | k :: l, v :: vs, rg, az, ts', h, hm, hx => by
   cases az with
   | nil => simp [TL] at h
   | cons a az =>
     simp only [yen] at hx ⊢
     exact .cons (yn4 k v rg a ts' h.head.1 hm ((yeR.tagVs_ext l vs _).trans hx)) (ykb l vs _ az ts' h.head.2 hm hx)
end
theorem ymr : ∀ (l : List (Nat × Kd)) (ts : TS K), ExtR ts.rg (tagS l ts).rg ∧ (tagS l ts).nw = ts.nw ∧ (tagS l ts).h = ts.h
 | [], ts => ⟨.refl, rfl, rfl⟩
 | p :: l, ts => by
   simp only [tagS]
   have := ymr l ⟨(p.1, (tagV p.2 (lkT ts.fr p.1) ts.rg).1) :: ts.fr, ts.od, ts.nw, (tagV p.2 (lkT ts.fr p.1) ts.rg).2, ts.h⟩
   exact ⟨(yeR _ _ _).trans this.1, this.2.1, this.2.2⟩
theorem ynE : ∀ (l : List (Nat × Kd)) (ts : TS K), GM P C R ts χ ds → GM P C R (tagS l ts) χ ds
 | [], ts, h => h
 | p :: l, ts, h => by
   simp only [tagS]
   refine ynE l _ ?_
   have hm : Mono ts ⟨(p.1, (tagV p.2 (lkT ts.fr p.1) ts.rg).1) :: ts.fr, ts.od, ts.nw, (tagV p.2 (lkT ts.fr p.1) ts.rg).2, ts.h⟩ χ χ := Mono.same ⟨rfl, rfl⟩ (yeR _ _ _)
   refine ⟨fun t => ?_, fun s c b hb hx => ?_, h.vi, h.nw, h.hp⟩
   ·show TR P C _ χ (lkT ((p.1, _) :: ts.fr) t) _
    rw [yfe]
    split
    ·rename_i e; rw [<- e]; exact yn4 p.2 _ ts.rg _ _ (h.fr p.1) hm .refl
    ·exact (h.fr t).mono hm
   ·obtain ⟨kb, h1, h2⟩ := h.mb s c b hb hx
    exact ⟨kb, h1, h2.mono hm⟩
theorem yk5 : ∀ (l : List Kd) (vs : List (TV K)) (rg : List (Nat × TV K)), (yen l vs rg).1.length = vs.length
 | [], vs, rg => rfl
 | k :: l, [], rg => rfl
 | k :: l, v :: vs, rg => by simp only [yen, List.length_cons, yk5 l vs]
theorem yjA : ∀ (l : List (Nat × Nat × List Kd)) (ts : TS K), ExtR ts.rg (tagB l ts).rg ∧ (tagB l ts).nw = ts.nw ∧ (tagB l ts).h = ts.h
 | [], ts => ⟨.refl, rfl, rfl⟩
 | p :: l, ts => by
   simp only [tagB]
   split
   ·rename_i e cs hb
    have := yjA l ⟨ts.fr, (p.1, some (.box e (yen p.2.2 cs ts.rg).1)) :: ts.od, ts.nw, (yen p.2.2 cs ts.rg).2, ts.h⟩
    exact ⟨(yeR.tagVs_ext _ _ _).trans this.1, this.2.1, this.2.2⟩
   ·exact yjA l ts
theorem ylm : ∀ (l : List (Nat × Nat × List Kd)) (ts : TS K), GM P C R ts χ ds → GM P C R (tagB l ts) χ ds
 | [], ts, h => h
 | p :: l, ts, h => by
   simp only [tagB]
   split
   ·rename_i e cs hb
    refine ylm l _ ?_
    have htb : ∀ s c, (⟨ts.fr, (p.1, some (.box e (yen p.2.2 cs ts.rg).1)) :: ts.od, ts.nw, (yen p.2.2 cs ts.rg).2, ts.h⟩ : TS K).tb s c = if s = p.1 /\ c = 1 then some (.box e (yen p.2.2 cs ts.rg).1) else ts.tb s c := fun s c => ybW ts p.1 1 (some (.box e (yen p.2.2 cs ts.rg).1)) (.inl rfl) s c
    have hbx : ts.tb p.1 1 = some (.box e cs) := hb
    have hm : Mono ts ⟨ts.fr, (p.1, some (.box e (yen p.2.2 cs ts.rg).1)) :: ts.od, ts.nw, (yen p.2.2 cs ts.rg).2, ts.h⟩ χ χ := by
     refine ⟨yeR.tagVs_ext _ _ _, fun s c q => q, fun s c _ => .inr ⟨?_, rfl⟩⟩
     rw [htb]
     split
     ·rename_i q; obtain ⟨rfl, rfl⟩ := q; rw [hbx]; rfl
     ·rfl
    refine ⟨fun t => (h.fr t).mono hm, fun s c b hb' hx => ?_, fun s c hx => ?_, h.nw, h.hp⟩
    ·rw [htb] at hb'
     split at hb'
     ·rename_i q
      obtain ⟨rfl, rfl⟩ := q
      cases hb'
      obtain ⟨kb, h1, h2⟩ := h.mb _ _ _ hbx hx
      refine ⟨kb, h1, ?_⟩
      have t := ykb (P := P) (C := C) (ts := ts) (χ := χ) p.2.2 cs ts.rg kb.cells _ ⟨h2.2.2.1, h2.2.2.2⟩ hm .refl
      exact ⟨h2.1, by rw [yk5]; exact h2.2.1, t.1, t.2⟩
     ·obtain ⟨kb, h1, h2⟩ := h.mb s c b hb' hx
      exact ⟨kb, h1, h2.mono hm⟩
    ·obtain ⟨e', h1⟩ := h.vi s c hx
     refine ⟨e', ?_⟩
     rw [htb]
     split
     ·rename_i q; obtain ⟨rfl, rfl⟩ := q; rw [hbx] at h1; cases h1
     ·exact h1
   ·exact ylm l ts h
theorem ynp {τ : Tm} (h : GM P C R ts χ ds) : GM P C R (tagT τ ts) χ ds := ylm _ _ (ynE _ _ h)
theorem yf7 (τ : Tm) (ts : TS K) : ExtR ts.rg (tagT τ ts).rg := (ymr τ.ks ts).1.trans (yjA τ.bx _).1
def curC : (cs : List CT) → (List (DV K) → Prop) → Cur K Prop cs
 | [], p => p []
 | _ :: cs, p => fun x => curC cs fun env => p (inC _ x :: env)
theorem yrL (c : CT) (x : CTy K c) : outC c (inC c x) = some x := by
 cases c with
 | l e => exact dif_pos rfl
 | v t => exact dif_pos rfl
 | i => rfl
 | b => rfl
 | s => rfl
theorem yqt {x : DV K} {n : Int} (h : outI x = some n) : .i n = x := by
 cases x <;> first | (cases h; rfl) | (cases h; done)
theorem ypr {x : DV K} {n : Bool} (h : yr7 x = some n) : .b n = x := by
 cases x <;> first | (cases h; rfl) | (cases h; done)
theorem yrl {x : DV K} {n : Str} (h : outS x = some n) : .s n = x := by
 cases x <;> first | (cases h; rfl) | (cases h; done)
theorem yqO {e : Nat} {x : DV K} {l : List (K e)} (h : outL e x = some l) : .l e l = x := by
 cases x with
 | l e' l' => obtain ⟨rfl, rfl⟩ := ydF h; rfl
 | _ => cases h
theorem yqD {t : Nat} {x : DV K} {y : K t} (h : outT t x = some y) : .v t y = x := by
 cases x with
 | v t' y' =>
   simp only [outT] at h
   split at h
   ·rename_i e; subst e; cases h; rfl
   ·cases h
 | _ => cases h
theorem yqv {c : CT} {x : DV K} {y : CTy K c} (h : outC c x = some y) : inC c y = x := by
 cases c with
 | l e => exact yqO h
 | v t => exact yqD h
 | i => exact yqt h
 | b => exact ypr h
 | s => exact yrl h
theorem ylo : ∀ (cs : List CT) (p : List (DV K) → Prop) (env : List (DV K)), apC False cs (curC cs p) env → p env
 | [], p, [], h => h
 | [], p, _ :: _, h => h.elim
 | c :: cs, p, [], h => h.elim
 | c :: cs, p, x :: env, h => by
   simp only [apC] at h
   split at h
   ·rename_i y hy
    have := ylo cs _ env h
    rw [yqv hy] at this; exact this
   ·exact h.elim
theorem yi8 : ∀ (cs : List CT) (p : List (DV K) → Prop) (q : List (DV K) → Prop), (∀ env, q env → p env) → allC cs fun env => q env → apC False cs (curC cs p) env
 | [], p, q, h => fun hq => h [] hq
 | c :: cs, p, q, h => fun x => by
   have := yi8 cs (fun env => p (inC c x :: env)) (fun env => q (inC c x :: env)) (fun env => h _)
   show allC cs fun env => q (inC c x :: env) -> (match outC c (inC c x) with | some y => apC False cs (curC (c :: cs) p y) env | none => False)
   rw [yrL]
   exact this
variable (P C R) in
def Kq (rg : List (Nat × TV K)) (Q : AEx -> TS K -> Prop) (e : AEx) (ks : KS) : Prop := KOk ks /\ ∃ ts χ, GM P C R ts χ (ofK ks) /\ ExtR rg ts.rg /\ Q e ts
theorem Kq.mono {rg rg' : List (Nat × TV K)} {Q : AEx → TS K → Prop} {e : AEx} {ks : KS} (h : Kq P C R rg Q e ks) (hx : ExtR rg' rg) : Kq P C R rg' Q e ks := by
 obtain ⟨a, ts, χ, b, c, d⟩ := h
 exact ⟨a, ts, χ, b, hx.trans c, d⟩
theorem yrb (C : Cx K) (ts : TS K) (s : Nat) : (fz C ts s).rg = ts.rg := by unfold fz; split <;> rfl
theorem yot (C : Cx K) : ∀ (n : Nat) (vs : List (TV K)) (ts : TS K), (fzA C n vs ts).rg = ts.rg
 | 0, _, _ => rfl
 | n + 1, vs, ts => by
   simp only [fzA]
   split
   ·rfl
   ·split
    ·rw [yrb, yot C n]
    ·rw [yrb]
theorem ynR (C : Cx K) (fr : List (Nat × TV K)) : ∀ (l : List (Nat × Kd)) (ts : TS K), (fzT C fr l ts).rg = ts.rg
 | [], _ => rfl
 | (t, k) :: r, ts => by
   cases k with
   | sl e =>
     simp only [fzT]
     rw [ynR C fr r]
     split
     ·rw [yrb]
     ·rfl
   | _ => simp only [fzT]; exact ynR C fr r ts
theorem yqj (hB : ycW B) (hC : CxOk P C) (f : TS K → List (TV K)) : ∀ (l : List AOpd) (ts : TS K), REk P C R B N ts (l.foldl (fun ts x => fzA C 9 [tea ts.fr x] ts) ts) ∧ (l.foldl (fun ts x => fzA C 9 [tea ts.fr x] ts) ts).rg = ts.rg
 | [], ts => ⟨.refl, rfl⟩
 | x :: l, ts => by
   have _ := (inferInstance : GB P B)
   obtain ⟨a, b⟩ := yqj hB hC f l (fzA C 9 [tea ts.fr x] ts)
   exact ⟨(ymy hB hC _ _ _).trans a, by rw [List.foldl_cons, b, yot]⟩
theorem yrk (hB : ycW B) (hC : CxOk P C) {F : Cf K} (hF : F.C = C) {o : AO} : (frzA F o ts = ts ∨ REt P C R B N ts (frzA F o ts)) ∧ (frzA F o ts).rg = ts.rg := by
 have go : ∀ (args : List AOpd), REt P C R B N ts (args.foldl (fun ts x => fzA F.C 9 [tea ts.fr x] ts) (er ts)) ∧ (args.foldl (fun ts x => fzA F.C 9 [tea ts.fr x] ts) (er ts)).rg = ts.rg := by
  intro args
  rw [hF]
  obtain ⟨a, b⟩ := yqj (N := N) hB hC (fun _ => []) args (er ts)
  exact ⟨(ytn hB hC).thenk a, b⟩
 unfold frzA frzs
 split
 ·exact ⟨.inl rfl, rfl⟩
 ·exact ⟨.inr (go _).1, (go _).2⟩
section
variable {L : List AO} {i : Nat}
theorem yr1 (hB : ycW B) {Q : KS → Prop} (h : REt P C R B N ts ts1) (hk : DOk ds) (hγ : GM P C R ts χ ds) (k : ∀ ks ξ, KOk ks → GM P C R ts1 ξ (ofK ks) → WD P B N ro L i Q (ofK ks)) : WD P B N ro L i Q ds :=
 yt6 fun _ => (h χ ds hk hγ).mono fun ks ⟨h1, ξ, h2⟩ => k ks ξ h1 h2
theorem ytr {Q : KS → Prop} (e : L.drop i = []) (h : DOk ds → RE B N (toD ds) Q) : WD P B N ro L i Q ds := by
 have _ := (inferInstance : GB P B)
 intro ops pre suf he ht a G hR
 rw [e] at ht
 cases suf with
 | cons x suf =>
   simp only [yeU] at ht
   split at ht <;> cases ht
 | nil =>
   obtain ⟨ks1, G1, h1, h2, h3⟩ := h hR.2 a G hR.1
   simp only [List.length_nil, List.range'_zero, wpOpsIn]
   rw [<- h1]
   exact ⟨ks1, G1, h2, rfl, h3⟩
theorem yi6 {g : Option (Nat × Bool)} {fr : List (Nat × AV)} {d : Nat} {b : Bool} (e : g = some (d, b)) (h : lkF fr d = .bl b) : gok g fr = true := by
 subst e; simp only [gok, h]; cases b <;> rfl
theorem yiP {g : Option (Nat × Bool)} {fr : List (Nat × AV)} {d : Nat} {b c : Bool} (e : g = some (d, b)) (h : lkF fr d = .bl c) (hn : c ≠ b) : gno g fr = true := by
 subst e; simp only [gno, h]; cases b <;> cases c <;> first | rfl | exact absurd rfl hn
theorem yq2 (hB : ycW B) (hC : CxOk P C) {F : Cf K} (hF : F.C = C) (hS : SsOk P C F.S) (hN : F.N = N) {o : AO} {X : TS K → Prop} {Q : KS → Prop} (e0 : L[i]? = some o) (hγ : GM P C R ts χ ds) (hk : DOk ds) (hg : gok o.guard ds.fr = true) (h : step F false o ts X)
  (k : ∀ ts' χ' ds', GM P C R ts' χ' ds' -> DOk ds' -> X ts' -> ts'.rg = ts.rg -> WD P B N ro L (i + 1) Q ds') : WD P B N ro L i Q ds := by
 have calls : ∀ {f : FuncId} {us : List (TV K)} {vs : List AV}, TL P C ts χ us vs → CalO o ds f vs → yo4 F.C F.S ts o.dst f us X → WD P B N ro L i Q ds := by
  intro f us vs ht ho h
  rw [hF] at h
  obtain ⟨vs', kl, d1, v, ts', χ', c1, c2, c3, c4, c5, _, _⟩ := yi7 hC hS hγ hk ht ho h
  exact ymg e0 hg c1 (k ts' χ' _ c2 c3.put c4 c5)
 have rest : ylF o.op = true → step F true o ts X → WD P B N ro L i Q ds := by
  intro hn h
  obtain ⟨e, ds', ts', χ', h1, h2, h3, h4, h5, h6⟩ := ymM hC hγ hk hF hn h
  have hc : isMC o.op = false := by cases hop : o.op <;> rw [hop] at hn <;> first | rfl | (cases hn; done)
  exact WD_e e0 hg (fun _ => h1) hc (k ts' χ' ds' h4 h1.ok h5 h6)
 cases ho : o.op with
 | call f args =>
   unfold step at h; rw [ho] at h
   exact calls (TL.tea hγ args) (.inl ⟨args, ho, rfl⟩) h
 | calv x args =>
   unfold step at h; rw [ho] at h
   simp only at h
   have hx := hγ.tev x
   split at h
   ·rename_i f a c ex
    rw [ex] at hx
    generalize hv : ev (lkF ds.fr) x = v at hx
    cases hx with
    | fn _ _ _ a' c' ha hc h1 h2 =>
      exact calls (((show TL P C ts χ a a' from ⟨ha, h1⟩).app (TL.tea hγ args)).app ⟨hc, h2⟩) (.inr ⟨x, args, a', c', ho, hv, rfl⟩) h
   ·rename_i ps rs V ex
    rw [ex] at hx
    cases hx with
    | fv _ _ _ _ hV hv =>
      rw [hF] at h
      obtain ⟨f, vs, vs', kl, d1, w, ts', χ', c1, c2, c3, c4, c5, _⟩ := ymW hC hγ hk hV ho rfl hv (TL.tea hγ args) h
      exact ymg e0 hg c1 (k ts' χ' _ c2 c3.put c4 c5)
   ·exact h.elim
 | len x =>
   cases hs : ysp F.N x with
   | false =>
     refine rest (by rw [ho]; rfl) ?_
     unfold step at h ⊢; rw [ho] at h ⊢
     simp only [hs] at h ⊢
     exact h
   | true =>
     unfold step at h; rw [ho] at h
     simp only [hs, Bool.not_true, Bool.or_false] at h
     unfold tlen at h
     split at h
     ·rename_i e l ex
      have hx := hγ.tev x
      rw [ex] at hx
      cases x with
      | c v => cases hs
      | t n =>
        obtain ⟨z, xs, hxs, hv⟩ := hx.sli
        refine yrT (t := n) (by rw [<- hN]; exact Nat.le_of_ble_eq_true hs) hv fun hm => ?_
        refine rest (by rw [ho]; rfl) ?_
        unfold step; rw [ho]
        simp only [Bool.true_or]
        unfold tlen
        rw [ex]
        exact h hm
     ·rename_i ex
      refine rest (by rw [ho]; rfl) ?_
      unfold step; rw [ho]; simp only [Bool.true_or]; unfold tlen; rw [ex]; exact h
     ·rename_i ex
      refine rest (by rw [ho]; rfl) ?_
      unfold step; rw [ho]; simp only [Bool.true_or]; unfold tlen; rw [ex]; exact h
     ·rename_i s c ex
      refine rest (by rw [ho]; rfl) ?_
      unfold step; rw [ho]; simp only [Bool.true_or]; unfold tlen; rw [ex]; exact h
     ·exact h.elim
 | _ =>
   refine rest (by rw [ho]; rfl) ?_
   unfold step at h ⊢; rw [ho] at h ⊢; exact h
theorem ynV (hB : ycW B) (hC : CxOk P C) {F : Cf K} (hF : F.C = C) (hS : SsOk P C F.S) (hN : F.N = N) {X : TS K → Prop} {Q : KS → Prop} : ∀ (L' : List AO) (i : Nat) (ts : TS K) (χ : Nat → Nat → Bool) (ds : DS), L.drop i = L' → GM P C R ts χ ds → DOk ds → tops F L' ts X →
  (∀ ts' χ' ds', GM P C R ts' χ' ds' -> DOk ds' -> X ts' -> ExtR ts.rg ts'.rg -> RE B N (toD ds') Q) -> WD P B N ro L i Q ds
 | [], i, ts, χ, ds, e, hγ, hk, h, fin => ytr e fun _ => fin ts χ ds hγ hk h .refl
 | o :: r, i, ts, χ, ds, e, hγ, hk, h, fin => by
   have e0 : L[i]? = some o := by
    have := congrArg (·[0]?) e
    simpa using this
   have e1 : L.drop (i + 1) = r := by rw [<- List.drop_drop, e]; rfl
   have next : ∀ {ts ts2 : TS K} {χ2 : Nat → Nat → Bool} {ds2 : DS}, (∀ ts' χ' ds', GM P C R ts' χ' ds' → DOk ds' → X ts' → ExtR ts.rg ts'.rg → RE B N (toD ds') Q) → GM P C R ts2 χ2 ds2 → DOk ds2 → tops F r ts2 X → ts2.rg = ts.rg → WD P B N ro L (i + 1) Q ds2 := by
    intro ts ts2 χ2 ds2 fin a b c d
    exact ynV hB hC hF hS hN r (i + 1) ts2 χ2 ds2 e1 a b c fun ts3 χ3 ds3 p q s t => fin ts3 χ3 ds3 p q s (by rw [<- d]; exact t)
   have main : ∀ {ts : TS K} {χ : Nat → Nat → Bool} {ds : DS}, GM P C R ts χ ds → DOk ds → topg F o (fun t => tops F r t X) ts → (∀ ts' χ' ds', GM P C R ts' χ' ds' → DOk ds' → X ts' → ExtR ts.rg ts'.rg → RE B N (toD ds') Q) → WD P B N ro L i Q ds := by
    intro ts χ ds hγ hk h fin
    have run : ∀ {ts0 : TS K} {ds0 : DS}, GM P C R ts0 χ ds0 → DOk ds0 → ts0.rg = ts.rg → gok o.guard ds0.fr = true → step F false o ts0 (fun t => tops F r t X) → WD P B N ro L i Q ds0 := by
     intro ts0 ds0 hγ0 hk0 hr hg hst
     exact yq2 hB hC hF hS hN e0 hγ0 hk0 hg hst fun ts2 χ2 ds2 a b c d => next fin a b c (d.trans hr)
    have skip : ∀ {ts0 : TS K} {ds0 : DS}, GM P C R ts0 χ ds0 → DOk ds0 → ts0.rg = ts.rg → gno o.guard ds0.fr = true → tops F r (ts0.put o.dst (.tup [])) X → WD P B N ro L i Q ds0 := by
     intro ts0 ds0 hγ0 hk0 hr hg hst
     exact yrY e0 hg (next fin (hγ0.put (.tup [] [] rfl (fun j u v h => by simp at h))) hk0.put hst ((ybK _ _ _).trans hr))
    unfold topg tgd at h
    split at h
    ·rename_i hg
     exact run hγ hk rfl (by rw [hg]; rfl) h
    ·rename_i d b hg
     have hd := (hγ.fr d).s
     split at h
     ·rename_i c hc
      rw [hc] at hd
      have hv := hd.lbi
      split at h
      ·rename_i hcb
       have : c = b := by cases c <;> cases b <;> first | rfl | cases hcb
       subst this
       exact run hγ hk rfl (yi6 hg hv) h
      ·rename_i hcb
       exact skip hγ hk rfl (yiP hg hv (by intro q; subst q; cases c <;> cases hcb)) h
     ·rename_i c hc
      rw [hc] at hd
      have hv := hd.bli
      obtain ⟨h1, h2⟩ := h
      refine yrw hv (fun hb => ?_) (fun hb => ?_)
      ·have hh := h1 hb
       have g1 := hγ.put (d := some d) (TR.lb (P := P) (C := C) (ts := ts) (χ := χ) true)
       have v1 : lkF (ds.put (some d) (.bl true)).fr d = .bl true := by show lkF ((d, .bl true) :: ds.fr) d = _; rw [ycX]; simp
       cases b with
       | true => exact run g1 hk.put (ybK _ _ _) (yi6 hg v1) hh
       | false => exact skip g1 hk.put (ybK _ _ _) (yiP hg v1 (by simp)) hh
      ·have hh := h2 hb
       have g1 := hγ.put (d := some d) (TR.lb (P := P) (C := C) (ts := ts) (χ := χ) false)
       have v1 : lkF (ds.put (some d) (.bl false)).fr d = .bl false := by show lkF ((d, .bl false) :: ds.fr) d = _; rw [ycX]; simp
       cases b with
       | true => exact skip g1 hk.put (ybK _ _ _) (yiP hg v1 (by simp)) hh
       | false => exact run g1 hk.put (ybK _ _ _) (yi6 hg v1) hh
     ·rename_i hc
      rw [hc] at hd
      obtain ⟨vs, hv, hl, _⟩ := hd.tup'
      have : vs = [] := List.eq_nil_of_length_eq_zero hl
      subst this
      exact skip hγ hk rfl (by rw [hg]; simp only [gno, hv]) h
     ·exact h.elim
   obtain ⟨hfr, hrg⟩ := yrk (N := N) (ts := ts) hB hC hF (o := o)
   rcases hfr with hq | hq
   ·rw [tops, hq] at h; exact main hγ hk h fin
   ·rw [tops] at h
    exact yr1 hB hq hk hγ fun ks ξ a b => main b (yfa a) h fun ts' χ' ds' p q s t => fin ts' χ' ds' p q s (by rw [<- hrg]; exact t)
end
section
structure LeF (f : Foot) (t : TFt) : Prop where
 rk : ∀ k ∈ f.rk, (∃ o, k = .h o) ∨ ∃ q ∈ t.rk, k = .l q.1 q.2
 wk : ∀ q ∈ f.wk, q ∈ t.wk
 wh : f.wh = false
 bs : ∀ s ∈ f.bs, (s, 2) ∈ t.wk
theorem yhr : ∀ {l : List (Nat × Nat)} {q : Nat × Nat}, q ∈ l → memQ l q = true
 | p :: r, q, h => by
   show ((Nat.beq p.1 q.1 && Nat.beq p.2 q.2) || memQ r q) = true
   rcases List.mem_cons.1 h with rfl | h
   ·rw [nbeq.2 rfl, nbeq.2 rfl]; rfl
   ·rw [yhr h, Bool.or_true]
theorem ytc {a b : Foot} {s t : TFt} (ha : LeF a s) (hb : LeF b t) (h : okT s t = true) : okF a b := by
 simp only [okT, Bool.and_eq_true, List.all_eq_true, Bool.not_eq_true'] at h
 obtain ⟨h1, h2⟩ := h
 have nk : ∀ {q : Nat × Nat} {k : Key} {l : List (Nat × Nat)}, memQ l q = false → ((∃ o, k = .h o) ∨ ∃ r ∈ l, k = .l r.1 r.2) → Key.l q.1 q.2 ≠ k := by
  rintro q k l hq (⟨o, rfl⟩ | ⟨r, hr, rfl⟩) e
  ·cases e
  ·simp only [Key.l.injEq] at e
   have : q = r := Prod.ext e.1 e.2
   subst this
   rw [yhr hr] at hq; cases hq
 refine ⟨yaA.2 fun q hq => ⟨yaA.2 fun k hk => nk (h1 q (ha.wk q hq)).1 (hb.rk k hk), yaA.2 fun r hr e => ?_⟩, yaA.2 fun q hq => yaA.2 fun k hk => nk (h2 q (hb.wk q hq)) (ha.rk k hk), fun e => (by rw [ha.wh] at e; cases e), fun e => (by rw [hb.wh] at e; cases e), yaA.2 fun q hq => yaA.2 fun r hr e => ?_⟩
 ·subst e
  have := (h1 q (ha.wk q hq)).2
  rw [yhr (hb.wk q hr)] at this; cases this
 ·subst e
  have := (h1 (q, 2) (ha.bs q hq)).2
  rw [yhr (hb.bs q hr)] at this; cases this
def LeA (acc : List Foot) (tacc : List TFt) : Prop := acc.length = tacc.length /\ ∀ (j : Nat) (f : Foot) (t : TFt), acc[j]? = some f -> tacc[j]? = some t -> LeF f t
theorem LeA.snoc {acc : List Foot} {tacc : List TFt} {f : Foot} {t : TFt} (h : LeA acc tacc) (k : LeF f t) : LeA (acc ++ [f]) (tacc ++ [t]) := by
 refine ⟨by simp [h.1], fun j g s a b => ?_⟩
 by_cases hj : j < acc.length
 ·rw [List.getElem?_append_left hj] at a
  rw [List.getElem?_append_left (by rw [<- h.1]; exact hj)] at b
  exact h.2 j g s a b
 ·rw [List.getElem?_append_right (by omega)] at a
  rw [List.getElem?_append_right (by rw [<- h.1]; omega), <- h.1] at b
  cases hq : j - acc.length with
  | zero => rw [hq] at a b; simp at a b; subst a; subst b; exact k
  | succ m => rw [hq] at a; simp at a
theorem ylS {f : Foot} {t : TFt} {acc : List Foot} {tacc : List TFt} (hf : LeF f t) (ha : LeA acc tacc) : ∀ (fre : List Nat), okTs t tacc fre = true → ygc f acc fre
 | [], _ => trivial
 | j :: r, h => by
   simp only [okTs, Bool.and_eq_true] at h
   refine ⟨?_, ylS hf ha r h.2⟩
   show wpo acc[j]? (okF f)
   cases hj : acc[j]? with
   | none => trivial
   | some g =>
     have hlt : j < tacc.length := by rw [<- ha.1]; exact (List.getElem?_eq_some_iff.1 hj).1
     have ht : tacc[j]? = some tacc[j] := List.getElem?_eq_getElem hlt
     rw [ht] at h
     exact ytc hf (ha.2 j g _ hj ht) h.1
def LeK (l : List Key) (t : List (Nat × Nat)) : Prop := ∀ k ∈ l, (∃ o, k = .h o) ∨ ∃ q ∈ t, k = .l q.1 q.2
theorem LeK.app {a b : List Key} {s t : List (Nat × Nat)} (h : LeK a s) (k : LeK b t) : LeK (a ++ b) (s ++ t) := by
 intro x hx
 rcases List.mem_append.1 hx with hx | hx
 ·rcases h x hx with q | ⟨r, hr, e⟩
  ·exact .inl q
  ·exact .inr ⟨r, List.mem_append_left _ hr, e⟩
 ·rcases k x hx with q | ⟨r, hr, e⟩
  ·exact .inl q
  ·exact .inr ⟨r, List.mem_append_right _ hr, e⟩
theorem LeK.nil {t : List (Nat × Nat)} : LeK [] t := fun k h => by cases h
theorem TR.hascn {u : TV K} {v : AV} (h : TR P C ts χ u v) : ∀ id w, u.s ≠ .cn id w := by
 intro id w e
 cases h with
 | cn id' u v h hn hv => simp only [TV.s] at e; rw [e] at hn; cases hn
 | _ => cases e
theorem yjU {v : AV} (h : v.noL = true) : LeK (keyOf v) [] ∧ LeK (key1 v) [] := by
 cases v with
 | gs k n => cases k with
   | h o => exact ⟨fun k hk => by simp [keyOf] at hk; exact .inl ⟨o, hk⟩, fun k hk => by simp [key1] at hk; exact .inl ⟨o, hk⟩⟩
   | l d c => cases h
 | pt k n => cases k with
   | h o => exact ⟨fun k hk => by simp [keyOf] at hk; exact .inl ⟨o, hk⟩, fun k hk => by simp [key1] at hk; exact .inl ⟨o, hk⟩⟩
   | l d c => cases h
 | agg cs =>
   refine ⟨fun k hk => ?_, .nil⟩
   simp only [keyOf, List.mem_flatMap] at hk
   obtain ⟨x, hx, hk⟩ := hk
   have hn : x.noL = true := yd3.1 (show noLs cs = true from h) x hx
   cases x with
   | gs q n => cases q with
     | h o => simp [key1] at hk; exact .inl ⟨o, hk⟩
     | l d c => cases hn
   | pt q n => cases q with
     | h o => simp [key1] at hk; exact .inl ⟨o, hk⟩
     | l d c => cases hn
   | _ => simp [key1] at hk
 | _ => exact ⟨.nil, .nil⟩
theorem ynt {u : TV K} {v : AV} {l : List (Nat × Nat)} (h : TR P C ts χ u v) (hl : tky1 ts u = some l) : LeK (key1 v) l ∧ ((∀ vs, v ≠ .agg vs) → LeK (keyOf v) l) := by
 have hs := h.s
 have hc := h.hascn
 unfold tky1 at hl
 revert hs hc hl
 generalize u.s = w
 intro hl hs hc
 have no : ∀ {v : AV} {l : List (Nat × Nat)}, v.noL = true → LeK (key1 v) l ∧ ((∀ vs, v ≠ .agg vs) → LeK (keyOf v) l) := by
  intro v l hv
  obtain ⟨a, b⟩ := yjU hv
  have up : ∀ {x : List Key}, LeK x [] -> LeK x l := fun hx k hk => (hx k hk).imp id (fun ⟨q, hq, _⟩ => by cases hq)
  exact ⟨up b, fun _ => up a⟩
 cases hs with
 | un v => cases hl
 | lb b => exact no rfl
 | bl b => exact no rfl
 | li k n => exact no rfl
 | it k n => exact no rfl
 | st s => exact no rfl
 | agg us vs _ _ => exact ⟨.nil, fun hn => absurd rfl (hn vs)⟩
 | tup us vs _ _ => exact ⟨.nil, fun _ => .nil⟩
 | nil => exact no rfl
 | em z => exact no rfl
 | sl e l z n xs hn hx => exact no rfl
 | rwd s c v hr hn ho => simp only [hn] at hl; cases hl
 | rw s c n hr hn hx =>
   simp only [hn, Option.some.injEq] at hl; subst hl
   exact ⟨fun k hk => by simp [key1] at hk; exact .inr ⟨_, List.mem_singleton.2 rfl, hk⟩, fun _ k hk => by simp [keyOf] at hk; exact .inr ⟨_, List.mem_singleton.2 rfl, hk⟩⟩
 | rwn s c hr h hx => exact no rfl
 | px s c off hr =>
   cases hl
   exact ⟨fun k hk => by simp [key1] at hk; exact .inr ⟨_, List.mem_singleton.2 rfl, hk⟩, fun _ k hk => by simp [keyOf] at hk; exact .inr ⟨_, List.mem_singleton.2 rfl, hk⟩⟩
 | pr e s c i of hr hx =>
   cases hl
   exact ⟨fun k hk => by simp [key1] at hk; exact .inr ⟨_, List.mem_singleton.2 rfl, hk⟩, fun _ k hk => by simp [keyOf] at hk; exact .inr ⟨_, List.mem_singleton.2 rfl, hk⟩⟩
 | ep e l i of xs hx => exact no rfl
 | gs l i xs hx => exact no rfl
 | nptr => exact no rfl
 | fn f a c a' c' _ _ _ _ => exact ⟨.nil, fun _ => .nil⟩
 | fv ps rs F v h hv => exact no (by rw [<- yd9, hv]; exact h.1)
 | cn id u v h hn hv => exact absurd rfl (hc id u)
theorem ygG {f : TV K → Option (List (Nat × Nat))} {g : AV → List Key} (hf : ∀ u v l, TR P C ts χ u v → f u = some l → LeK (g v) l) : ∀ (us : List (TV K)) (vs : List AV) (l : List (Nat × Nat)), TL P C ts χ us vs → tkys ts f us = some l → LeK (vs.flatMap g) l
 | [], vs, l, t, h => by
   have : vs = [] := List.eq_nil_of_length_eq_zero t.1
   subst this; exact .nil
 | u :: us, vs, l, t, h => by
   cases vs with
   | nil => simp [TL] at t
   | cons v vs =>
     simp only [tkys] at h
     split at h
     ·rename_i a b h1 h2
      cases h
      rw [List.flatMap_cons]
      exact (hf u v a t.head.1 h1).app (ygG hf us vs b t.head.2 h2)
     ·cases h
theorem ymS {u : TV K} {v : AV} {l : List (Nat × Nat)} (h : TR P C ts χ u v) (hl : tky ts u = some l) : LeK (keyOf v) l := by
 unfold tky at hl
 split at hl
 ·rename_i cs e
  have hs := h.s
  rw [e] at hs
  obtain ⟨vs, rfl, a, b⟩ := hs.agg'
  exact ygG (g := key1) (fun u v l h hl => (ynt h hl).1) cs vs l ⟨a, b⟩ hl
 ·rename_i hne
  refine (ynt h hl).2 ?_
  rintro vs rfl
  have hs := h.s
  have hc := h.hascn
  have hdead : u.s ≠ .un := by
   intro e; unfold tky1 at hl; rw [e] at hl; cases hl
  revert hs hc hne hdead
  generalize u.s = w
  intro hne hs hc hdead
  cases hs with
  | un v => exact hdead rfl
  | agg us vs _ _ => exact hne _ rfl
  | rwd s c v hr h ho => cases ho
  | fv ps rs F v h hv => obtain ⟨_, _, h1, _⟩ := h; rw [<- hv] at h1; cases h1
  | cn id u v h hn hv => exact hc _ _ rfl
theorem yn2 {u : AOp} (hγ : GM P C R ts χ ds) {l : List (Nat × Nat)} (h : tkys ts (tky ts) ((opds u).map (tea ts.fr)) = some l) : LeK ((opds u).flatMap fun x => keyOf (ev (lkF ds.fr) x)) l := by
 have := ygG (g := keyOf) (fun u v l h hl => ymS h hl) _ _ l (TL.tea hγ (opds u)) h
 rw [List.flatMap_map] at this
 exact this
theorem LeF.skip : LeF yd5 ⟨[], []⟩ := ⟨fun k h => (by cases h), fun q h => (by cases h), rfl, fun s h => (by cases h)⟩
variable {LD : List (AO × List Nat)} {QD : St -> Prop} {i : Nat} {acc : List Foot}
theorem ypu {o : AO} {fre : List Nat} {f : FuncId} {vs vs' : List AV} {kl : List (Nat × Nat)} {d1 : DS} {v : AV} (e0 : LD[i]? = some (o, fre)) (hg : gok o.guard ds.fr = true) (hc : yoH P o ds f vs vs' kl d1 v)
  (hf : ygc (ybv o.op (toD ds) ⟨v, kl.map (fun k => (k, none)), [], none⟩) acc fre) (k : DD P LD (i + 1) (acc ++ [ybv o.op (toD ds) ⟨v, kl.map (fun k => (k, none)), [], none⟩]) QD (d1.put o.dst v)) : DD P LD i acc QD ds := by
 refine ypY e0 hg fun hk => ?_
 have hmst : REff.mst ⟨v, kl.map (fun k => (k, none)), [], none⟩ (toD ds) = toD d1 ∧ yhY P (.f f) vs (toD ds) ⟨v, kl.map (fun k => (k, none)), [], none⟩ ∧ DOk d1 := by
  rcases hc.way with hw | ⟨rfl, rfl, rfl, hfl⟩
  ·obtain ⟨a1, a2, a3, _⟩ := yhq vs ds vs' kl d1 hk hw
   have hmst : REff.mst ⟨v, kl.map (fun k => (k, none)), [], none⟩ (toD ds) = toD d1 := by
    have h1 : (pubL vs (toD ds)).2 = (toD ds).kills (pkL vs (toD ds)) := yow vs (toD ds)
    rw [a1, a2] at h1
    simp only at h1
    rw [h1]
    unfold REff.mst St.kills REff.cntF
    simp only [St.mk.injEq, yeN, true_and, and_true]
    funext q
    have : ∀ (l : List (Nat × Nat)) (M : Key → Option Blk), List.foldl (fun M (p : Key × Option Blk) => updK M p.1 p.2) M ((l.map fun k => (k, (none : Option Blk))).map fun p => (Key.l p.1.1 p.1.2, p.2)) = l.foldl (fun M k => updK M (.l k.1 k.2) none) M := by
     intro l
     induction l with
     | nil => intro M; rfl
     | cons a l ih => intro M; simp only [List.map_cons, List.foldl_cons]; exact ih _
    show (List.foldl (fun M (p : Key × Option Blk) => updK M p.1 p.2) (toD ds).M ((kl.map fun k => (k, (none : Option Blk))).map fun p => (Key.l p.1.1 p.1.2, p.2))) q = _
    rw [this]
   exact ⟨hmst, .inl ⟨rfl, by rw [a2], ygT a1 hc.nl hc.pure ⟨rfl, hmst.symm⟩⟩, a3⟩
  ·exact ⟨ybG v _, .inr (.inl ⟨rfl, f, v, rfl, hc.nl, fun H n => yao.dwkA (hc.pure H n), hfl, rfl⟩), hk⟩
 obtain ⟨hmst, hE, a3⟩ := hmst
 have fin : ∀ K : REff → Prop, K ⟨v, kl.map (fun k => (k, none)), [], none⟩ → eop (fun _ => false) P o.op o.dst (toD ds) K := by
  intro K hK
  rcases hc.ho with ⟨args, h1, h2⟩ | ⟨x, args, first, cap, h1, h2, h3⟩
  ·rw [h1]; simp only [eop]; rw [yb6, h2]; exact ⟨_, hE, hK⟩
  ·rw [h1]; simp only [eop]; rw [yb6, h2]; simp only; rw [h3]; exact ⟨_, hE, hK⟩
 refine fin _ ⟨hf, ?_⟩
 rw [show REff.app ⟨v, kl.map (fun k => (k, none)), [], none⟩ o.dst (toD ds) = toD (d1.put o.dst v) by unfold REff.app; rw [hmst, ybS]]
 exact k a3.put
theorem ysR {o : AO} {fre : List Nat} {e : REff} {ds' : DS} (e0 : LD[i]? = some (o, fre)) (hg : gok o.guard ds.fr = true) (h : Eff o.op o.dst ds e ds') (hc : isMC o.op = false) (hf : ygc (ybv o.op (toD ds) e) acc fre) (k : DD P LD (i + 1) (acc ++ [ybv o.op (toD ds) e]) QD ds') : DD P LD i acc QD ds := by
 refine ypY e0 hg fun hk => ?_
 obtain ⟨h1, h2, h3⟩ := h
 have hE : ∀ K : REff → Prop, K e → eop (fun _ => false) P o.op o.dst (toD ds) K := by
  intro K hK
  cases hop : o.op <;> rw [hop] at h1 hc <;> first | (cases hc; done) | (simp only [eop]; rw [h1]; exact hK)
 refine hE _ ⟨hf, ?_⟩
 rw [h2]
 exact k h3
theorem yfW : ∀ {us : List (TV K)} {q : Nat × Nat}, (∃ u ∈ us, u.s = .rw q.1 q.2) → q ∈ ym4 us
 | [], _, ⟨u, h, _⟩ => by cases h
 | v :: us, q, ⟨u, h, e⟩ => by
   simp only [ym4]
   rcases List.mem_cons.1 h with rfl | h
   ·rw [e]; simp
   ·have := yfW ⟨u, h, e⟩
    split
    ·exact List.mem_cons_of_mem _ this
    ·exact this
theorem ygq {q : Nat × Nat} : ∀ {us : List (TV K)} {l : List (Nat × Nat)}, tkys ts (tky ts) us = some l → (∃ u ∈ us, u.s = .rw q.1 q.2) → q ∈ l
 | [], _, _, ⟨u, h, _⟩ => by cases h
 | v :: us, l, h, ⟨u, hu, e⟩ => by
   simp only [tkys] at h
   split at h
   ·rename_i a b h1 h2
    cases h
    rcases List.mem_cons.1 hu with rfl | hu
    ·refine List.mem_append_left _ ?_
     unfold tky at h1
     rw [e] at h1
     simp only at h1
     unfold tky1 at h1
     rw [e] at h1
     simp only at h1
     split at h1
     ·cases h1; simp
     ·cases h1
    ·exact List.mem_append_right _ (ygq h2 ⟨u, hu, e⟩)
   ·cases h
theorem yrn (hC : CxOk P C) {F : Cf K} (hF : F.C = C) (hS : SsOk P C F.S) {o : AO} {fre : List Nat} {tacc : List TFt} {Rn : List TFt → TS K → Prop} (e0 : LD[i]? = some (o, fre)) (hγ : GM P C R ts χ ds) (hk : DOk ds) (hg : gok o.guard ds.fr = true) (ha : LeA acc tacc) (h : yna F o fre tacc Rn ts)
  (k : ∀ acc' tacc' ts' χ' ds', LeA acc' tacc' -> GM P C R ts' χ' ds' -> DOk ds' -> Rn tacc' ts' -> ts'.rg = ts.rg -> DD P LD (i + 1) acc' QD ds') : DD P LD i acc QD ds := by
 unfold yna at h
 split at h
 rotate_left
 ·exact h.elim
 rename_i t ht
 split at h
 rotate_left
 ·exact h.elim
 rename_i hok
 have calls : ∀ {f : FuncId} {vs vs' : List AV} {kl : List (Nat × Nat)} {d1 : DS} {v : AV} {ts' : TS K} {χ' : Nat → Nat → Bool}, yoH P o ds f vs vs' kl d1 v → GM P C R ts' χ' (d1.put o.dst v) → DOk d1 → Rn (tacc ++ [t]) ts' → ts'.rg = ts.rg → LeK (rkOf o.op (toD ds)) t.rk → (∀ q ∈ kl, q ∈ t.wk) → (∀ q ∈ kl, q ∈ t.rk) → DD P LD i acc QD ds := by
  intro f vs vs' kl d1 v ts' χ' c1 c2 c3 c4 c5 hrk hwk hwr
  have hle : LeF (ybv o.op (toD ds) ⟨v, kl.map (fun k => (k, none)), [], none⟩) t := by
   refine ⟨fun k hk' => ?_, fun q hq => hwk q ?_, rfl, fun s hs => by cases hs⟩
   ·rcases List.mem_append.1 hk' with hq | hq
    ·exact hrk k hq
    ·have hic : yg0 o.op = true := by rcases c1.ho with ⟨args, h1, _⟩ | ⟨x, args, first, cap, h1, _⟩ <;> rw [h1] <;> rfl
     rw [hic] at hq
     obtain ⟨p, hp, rfl⟩ := List.mem_map.1 hq
     obtain ⟨q, hq', rfl⟩ := List.mem_map.1 hp
     exact .inr ⟨q, hwr q hq', rfl⟩
   have hq' : q ∈ (kl.map fun k => (k, (none : Option Blk))).map (·.1) := hq
   simpa using hq'
  exact ypu e0 hg c1 (ylS hle ha fre hok) (k _ _ ts' χ' _ (ha.snoc hle) c2 c3.put c4 c5)
 have rest : ylF o.op = true → DD P LD i acc QD ds := by
  intro hn
  obtain ⟨e, ds', ts', χ', h1, h2, h3, h4, h5, h6⟩ := ymM hC hγ hk hF hn h
  have hc : isMC o.op = false := by cases hop : o.op <;> rw [hop] at hn <;> first | rfl | (cases hn; done)
  have hle : LeF (ybv o.op (toD ds) e) t := by
   have ht' : ∃ l, tkys ts (tky ts) ((opds o.op).map (tea ts.fr)) = some l ∧ t = ⟨l, twk' ts o⟩ := by
    unfold tft at ht
    cases hop : o.op <;> rw [hop] at ht hn <;> first | (cases hn; done) | skip
    all_goals
     simp only at ht
     split at ht
     ·rename_i l hl; cases ht; exact ⟨l, hl, rfl⟩
     ·cases ht
   obtain ⟨l, hl, rfl⟩ := ht'
   have hrk := yn2 hγ hl
   have hnc : yg0 o.op = false := by cases hop : o.op <;> rw [hop] at hn <;> first | rfl | (cases hn; done)
   refine ⟨?_, fun q hq => ?_, by show e.H.isSome = false; rw [h3]; rfl, fun s hs => ?_⟩
   rotate_right
   ·have hE : effA (fun _ => false) o.op o.dst (toD ds) = some e := by cases hop : o.op <;> rw [hop] at hn <;> first | (cases hn; done) | (rw [← hop]; exact h1.1)
    obtain ⟨al, rfl⟩ := ypm hE hs
    show _ ∈ twk' ts o
    unfold twk'
    cases hop : o.op <;> rw [hop] at al hn <;> first | (cases al; done) | (cases hn; done) | simp
   ·show LeK (rkOf o.op (toD ds) ++ _) l
    rw [hnc]
    simp only [List.append_nil]
    have : rkOf o.op (toD ds) = (opds o.op).flatMap fun x => keyOf (ev (lkF ds.fr) x) := by
     cases hop : o.op <;> rw [hop] at hn <;> first | rfl | (cases hn; done)
    rw [this]; exact hrk
   ·have hq' : q ∈ e.mem.map (·.1) := hq
    obtain ⟨x, hx, rfl⟩ := List.mem_map.1 hq'
    exact h2 x hx
  exact ysR e0 hg h1 hc (ylS hle ha fre hok) (k _ _ ts' χ' ds' (ha.snoc hle) h4 h1.ok h5 h6)
 cases ho : o.op with
 | call f args =>
   have h0 := h
   unfold step at h; rw [ho, hF] at h
   obtain ⟨vs', kl, d1, v, ts', χ', c1, c2, c3, c4, c5, c7, c6⟩ := yi7 hC hS hγ hk (TL.tea hγ args) (.inl ⟨args, ho, rfl⟩) h
   unfold tft at ht; rw [ho] at ht
   simp only at ht
   split at ht
   ·rename_i l hl
    cases ht
    have hrk := ygG (g := keyOf) (fun u v l h hl => ymS h hl) _ _ l (TL.tea hγ args) hl
    rw [List.flatMap_map] at hrk
    refine calls c1 c2 c3 c4 c5 (by rw [ho]; exact hrk) (fun q hq => ?_) ?_
    rw [hF]
    cases hfl : flS C F.S f with
    | true => rw [c7 hfl] at hq; cases hq
    | false => exact yfW (c6 q hq)
    ·exact fun q hq => ygq hl (c6 q hq)
   ·cases ht
 | calv x args =>
   unfold step at h; rw [ho] at h
   simp only at h
   unfold tft at ht; rw [ho] at ht
   simp only at ht
   split at ht
   rotate_left
   ·cases ht
   rename_i ca l hca hl
   cases ht
   have hrk := ygG (g := keyOf) (fun u v l h hl => ymS h hl) _ _ l (TL.tea hγ args) hl
   rw [List.flatMap_map] at hrk
   have hx := hγ.tev x
   split at h
   ·rename_i f a c ex
    rw [ex] at hx
    generalize hv : ev (lkF ds.fr) x = w at hx
    cases hx with
    | fn _ _ _ a' c' ha' hc' h1 h2 =>
      have ta : TL P C ts χ a a' := ⟨ha', h1⟩
      have tc : TL P C ts χ c c' := ⟨hc', h2⟩
      rw [hF] at h
      obtain ⟨vs', kl, d1, v, ts', χ', c1, c2, c3, c4, c5, _, c6⟩ := yi7 hC hS hγ hk ((ta.app (TL.tea hγ args)).app tc) (.inr ⟨x, args, a', c', ho, hv, rfl⟩) h
      refine calls c1 c2 c3 c4 c5 ?_ (fun q hq => by simp only [ex]; exact yfW (c6 q hq)) (fun q hq => by
       obtain ⟨u, hu, e⟩ := c6 q hq
       have hca' : tkys ts (tky ts) (a ++ c) = some ca := by
        unfold yrF at hca
        rw [show (tea ts.fr x).s = .fn f a c from ex] at hca
        exact hca
       rcases List.mem_append.1 hu with hu | hu
       ·rcases List.mem_append.1 hu with hu | hu
        ·exact List.mem_append_left _ (ygq hca' ⟨u, List.mem_append_left _ hu, e⟩)
        ·exact List.mem_append_right _ (ygq hl ⟨u, hu, e⟩)
       ·exact List.mem_append_left _ (ygq hca' ⟨u, List.mem_append_right _ hu, e⟩))
      rw [ho]
      show LeK (ync (ev (lkF ds.fr) x) ++ args.flatMap fun y => keyOf (ev (lkF ds.fr) y)) _
      rw [hv]
      refine LeK.app ?_ hrk
      unfold yrF at hca
      have ex' : (tea ts.fr x).s = .fn f a c := ex
      rw [ex'] at hca
      have := ygG (g := keyOf) (fun u v l h hl => ymS h hl) _ _ ca (ta.app tc) hca
      rw [List.flatMap_append] at this
      exact this
   ·rename_i ps rs V ex
    rw [ex] at hx
    generalize hv : ev (lkF ds.fr) x = w at hx
    cases hx with
    | fv _ _ _ _ hV hv' =>
      rw [hF] at h
      obtain ⟨f, vs, vs', kl, d1, v, ts', χ', c1, c2, c3, c4, c5, c6⟩ := ymW hC hγ hk hV ho hv hv' (TL.tea hγ args) h
      refine calls c1 c2 c3 c4 c5 ?_ (fun q hq => by simp only [ex]; exact yfW (c6 q hq)) (fun q hq => List.mem_append_right _ (ygq hl (c6 q hq)))
      rw [ho]
      show LeK (ync (ev (lkF ds.fr) x) ++ args.flatMap fun y => keyOf (ev (lkF ds.fr) y)) _
      rw [hv]
      refine LeK.app ?_ hrk
      obtain ⟨g1, _, _, f', a, c, g4, _⟩ := hV
      rw [<- hv', yd9] at g1
      cases w with
      | fn f0 a0 c0 =>
        simp only [AV.noL, Bool.and_eq_true] at g1
        intro q hq
        simp only [ync, List.mem_append, List.mem_flatMap] at hq
        rcases hq with ⟨y, hy, hq⟩ | ⟨y, hy, hq⟩
        ·rcases (yjU (yd3.1 g1.1 y hy)).1 q hq with r | ⟨r, hr, _⟩
         ·exact .inl r
         ·cases hr
        ·rcases (yjU (yd3.1 g1.2 y hy)).1 q hq with r | ⟨r, hr, _⟩
         ·exact .inl r
         ·cases hr
      | _ => exact .nil
   ·exact h.elim
 | _ => exact rest (by rw [ho]; rfl)
theorem yoJ (hC : CxOk P C) {F : Cf K} (hF : F.C = C) (hS : SsOk P C F.S) {X : TS K → Prop} {Q : KS → Prop} : ∀ (L' : List (AO × List Nat)) (i : Nat) (acc : List Foot) (tacc : List TFt) (ts : TS K) (χ : Nat → Nat → Bool) (ds : DS), LD.drop i = L' → LeA acc tacc → GM P C R ts χ ds → DOk ds → tdrw F L' tacc ts X →
  (∀ ts' χ' ds', GM P C R ts' χ' ds' -> DOk ds' -> X ts' -> ExtR ts.rg ts'.rg -> RE B N (toD ds') Q) -> DD P LD i acc (fun S => RE B N S Q) ds
 | [], i, acc, tacc, ts, χ, ds, e, ha, hγ, hk, h, fin => by
   have _ := (inferInstance : GB P B)
   intro _
   rw [e]
   exact fin ts χ ds hγ hk h .refl
 | (o, fre) :: r, i, acc, tacc, ts, χ, ds, e, ha, hγ, hk, h, fin => by
   have e0 : LD[i]? = some (o, fre) := by
    have := congrArg (·[0]?) e
    simpa using this
   have e1 : LD.drop (i + 1) = r := by rw [<- List.drop_drop, e]; rfl
   have next : ∀ {ts2 : TS K} {χ2 : Nat → Nat → Bool} {ds2 : DS} {acc2 : List Foot} {tacc2 : List TFt}, LeA acc2 tacc2 → GM P C R ts2 χ2 ds2 → DOk ds2 → tdrw F r tacc2 ts2 X → ts2.rg = ts.rg → DD P LD (i + 1) acc2 (fun S => RE B N S Q) ds2 := by
    intro ts2 χ2 ds2 acc2 tacc2 la a b c d
    exact yoJ hC hF hS r (i + 1) acc2 tacc2 ts2 χ2 ds2 e1 la a b c fun ts3 χ3 ds3 p q s t => fin ts3 χ3 ds3 p q s (by rw [<- d]; exact t)
   have run : ∀ {ts0 : TS K} {ds0 : DS}, GM P C R ts0 χ ds0 → DOk ds0 → ts0.rg = ts.rg → gok o.guard ds0.fr = true → yna F o fre tacc (fun acc t => tdrw F r acc t X) ts0 → DD P LD i acc (fun S => RE B N S Q) ds0 := by
    intro ts0 ds0 hγ0 hk0 hr hg hst
    exact yrn hC hF hS e0 hγ0 hk0 hg ha hst fun acc2 tacc2 ts2 χ2 ds2 la a b c d => next la a b c (d.trans hr)
   have skip : ∀ {ts0 : TS K} {ds0 : DS}, GM P C R ts0 χ ds0 → DOk ds0 → ts0.rg = ts.rg → gno o.guard ds0.fr = true → tdrw F r (tacc ++ [⟨[], []⟩]) (ts0.put o.dst (.tup [])) X → DD P LD i acc (fun S => RE B N S Q) ds0 := by
    intro ts0 ds0 hγ0 hk0 hr hg hst
    exact ysm e0 hg (next (ha.snoc LeF.skip) (hγ0.put (.tup [] [] rfl (fun j u v h => by simp at h))) hk0.put hst ((ybK _ _ _).trans hr))
   rw [tdrw] at h
   unfold tdg tgd at h
   split at h
   ·rename_i hg
    exact run hγ hk rfl (by rw [hg]; rfl) h
   ·rename_i d b hg
    have hd := (hγ.fr d).s
    split at h
    ·rename_i c hc
     rw [hc] at hd
     have hv := hd.lbi
     split at h
     ·rename_i hcb
      have : c = b := by cases c <;> cases b <;> first | rfl | cases hcb
      subst this
      exact run hγ hk rfl (yi6 hg hv) h
     ·rename_i hcb
      exact skip hγ hk rfl (yiP hg hv (by intro q; subst q; cases c <;> cases hcb)) h
    ·rename_i c hc
     rw [hc] at hd
     have hv := hd.bli
     obtain ⟨h1, h2⟩ := h
     refine yqQ hv (fun hb => ?_) (fun hb => ?_)
     ·have hh := h1 hb
      have g1 := hγ.put (d := some d) (TR.lb (P := P) (C := C) (ts := ts) (χ := χ) true)
      have v1 : lkF (ds.put (some d) (.bl true)).fr d = .bl true := by show lkF ((d, .bl true) :: ds.fr) d = _; rw [ycX]; simp
      cases b with
      | true => exact run g1 hk.put (ybK _ _ _) (yi6 hg v1) hh
      | false => exact skip g1 hk.put (ybK _ _ _) (yiP hg v1 (by simp)) hh
     ·have hh := h2 hb
      have g1 := hγ.put (d := some d) (TR.lb (P := P) (C := C) (ts := ts) (χ := χ) false)
      have v1 : lkF (ds.put (some d) (.bl false)).fr d = .bl false := by show lkF ((d, .bl false) :: ds.fr) d = _; rw [ycX]; simp
      cases b with
      | true => exact skip g1 hk.put (ybK _ _ _) (yiP hg v1 (by simp)) hh
      | false => exact run g1 hk.put (ybK _ _ _) (yi6 hg v1) hh
    ·rename_i hc
     rw [hc] at hd
     obtain ⟨vs, hv, hl, _⟩ := hd.tup'
     have : vs = [] := List.eq_nil_of_length_eq_zero hl
     subst this
     exact skip hγ hk rfl (by rw [hg]; simp only [gno, hv]) h
    ·exact h.elim
theorem yra (hB : ycW B) (hC : CxOk P C) {F : Cf K} (hF : F.C = C) (L : List (AO × List Nat)) : REk P C R B N ts (frzD F L ts) ∧ (frzD F L ts).rg = ts.rg := by
 have _ := (inferInstance : GB P B)
 unfold frzD
 rw [hF]
 generalize (L.flatMap fun p => (frzO F ts.fr p.1.op).flatMap fun x => match x with | .t n => [srcD L 9 n] | .c _ => []) = l
 induction l generalizing ts with
 | nil => exact ⟨.refl, rfl⟩
 | cons n l ih =>
   obtain ⟨a, b⟩ := ih (ts := fzA C 9 [lkT ts.fr n] ts)
   exact ⟨(ymy hB hC _ _ _).trans a, by rw [List.foldl_cons, b, yot]⟩
end
section
theorem ysZ {Q : AEx → TS K → Prop} {e : AEx} {rg : List (Nat × TV K)} (hB : ycW B) (hC : CxOk P C) (hγ : GM P C R ts χ ds) (hk : DOk ds) (hx : ExtR rg ts.rg) (h : Q e (er ts)) : RE B N (toD ds) (Kq P C R rg Q e) :=
 have _ := (inferInstance : GB P B)
 (ytn (N := N) hB hC χ ds hk hγ).mono fun ks ⟨h1, ξ, h2⟩ => ⟨h1, er ts, ξ, h2, hx, h⟩
theorem yqg (hR : ∀ h h' H n, R h H n → R h' H n) (hB : ycW B) (hC : CxOk P C) {τ : Tm} {rg : List (Nat × TV K)} {hh : List (HO K)} {J : List (DV K) → Prop} {ks : KS} (hk : KOk ks) (hγ : GM P C R ts χ (ofK ks)) (hx : ExtR rg ts.rg) (h : rdJ C τ ts J) :
  RE B N (toS ks) fun ks' => ∃ env, J env /\ KOk ks' /\ ∃ ξ, GM P C R (bdT C τ rg hh env) ξ (ofK ks') := by
 have _ := (inferInstance : GB P B)
 unfold rdJ at h
 split at h
 ·rename_i env he
  have h1 := yoW (R := R) (N := N) hB hC ts.fr τ.ks ts
  have h2 := (ysh (N := N) (rg := rg) hB hC (by rw [ynR]; exact hx) he hh hR).k
  exact ((h1.trans h2) χ ks hk hγ).mono fun ks' ⟨a, b⟩ => ⟨env, h, a, b⟩
 ·exact h.elim
theorem ygv {c : ybC} {Q Q' : AEx -> KS -> Prop} {ks : KS} (h : WK P B N ro c Q ks) (hq : ∀ e ks, Q e ks -> Q' e ks) : WK P B N ro c Q' ks := have _ := (inferInstance : GB P B); fun x hx a G hR => wpIn_mono (h x hx a G hR) fun _ _ _ hp => yla.mono hq hp
theorem ys0 (C : Cx K) (τ : Tm) (rg : List (Nat × TV K)) (hh : List (HO K)) (env : List (DV K)) : (bdT C τ rg hh env).rg = rg := rfl
theorem yt3 (hR : ∀ h h' H n, R h H n → R h' H n) (hB : ycW B) (hC : CxOk P C) {F : Cf K} (hF : F.C = C) (hS : SsOk P C F.S) (hN : F.N = N) : ∀ (A : An K) (c : ybC) (Q : AEx → TS K → Prop) (ts : TS K) (χ : Nat → Nat → Bool) (ks : KS), KOk ks → GM P C R ts χ (ofK ks) → Dn F A c Q ts → WK P B N ro c (Kq P C R ts.rg Q) ks := by
 intro A
 induction A with
 | o =>
   intro c Q ts χ ks hk hγ h
   have at' : ∀ {e : AEx}, Q e ts -> Kq P C R ts.rg Q e ks := fun h => ⟨hk, ts, χ, hγ, .refl, h⟩
   cases c with
   | skip => exact yqM (at' h)
   | exit id => exact yqz (at' h)
   | ret => exact ysx (at' h)
   | ops L =>
     refine ysE ?_
     exact ynV (L := L) hB hC hF hS hN L 0 ts χ (ofK ks) rfl hγ (yfa hk) h fun ts' χ' ds' a b d e => ysZ hB hC a b e d
   | drw L =>
     obtain ⟨f1, f2⟩ := yra (R := R) (N := N) (ts := ts) hB hC hF L
     refine yqH fun _ => (f1 χ ks hk hγ).mono fun ks' ⟨hk', ξ, hγ'⟩ => ytf ?_
     exact yoJ (LD := L) hC hF hS L 0 [] [] _ ξ (ofK ks') rfl ⟨rfl, fun j f t h => by simp at h⟩ hγ' (yfa hk') h fun ts' χ' ds' a b d e => ysZ hB hC a b (by rw [<- f2]; exact e) d
   | _ => exact h.elim
 | s a b iha ihb =>
   intro c Q ts χ ks hk hγ h
   cases c with
   | seq x y =>
     refine yp9 (ygv (iha x _ ts χ ks hk hγ h) fun e ks' hq => ?_)
     obtain ⟨h1, ts', χ', h2, h3, h4⟩ := hq
     cases e with
     | n => exact ygv (ihb y Q ts' χ' ks' h1 h2 h4) fun e ks2 hq => hq.mono h3
     | x id => exact ⟨h1, ts', χ', h2, h3, h4⟩
     | r => exact ⟨h1, ts', χ', h2, h3, h4⟩
   | _ => exact h.elim
 | c a b iha ihb =>
   intro c Q ts χ ks hk hγ h
   cases c with
   | cond u x y =>
     have hu := hγ.tev u
     unfold Dn at h
     split at h
     ·rename_i e
      rw [e] at hu
      exact yl2 (b := true) hu.lbi (fun _ => iha x Q ts χ ks hk hγ h) (fun q => by cases q)
     ·rename_i e
      rw [e] at hu
      exact yl2 (b := false) hu.lbi (fun q => by cases q) (fun _ => ihb y Q ts χ ks hk hγ h)
     ·rename_i q e
      rw [e] at hu
      exact yl2 (b := q) hu.bli (fun hq => iha x Q ts χ ks hk hγ (h.1 hq)) (fun hq => ihb y Q ts χ ks hk hγ (h.2 hq))
     ·exact h.elim
   | _ => exact h.elim
 | b a iha =>
   intro c Q ts χ ks hk hγ h
   cases c with
   | block id x =>
     refine ypo (ygv (iha x _ ts χ ks hk hγ h) fun e ks' hq => ?_)
     obtain ⟨h1, ts', χ', h2, h3, h4⟩ := hq
     cases e with
     | n => exact ⟨h1, ts', χ', h2, h3, h4⟩
     | r => exact ⟨h1, ts', χ', h2, h3, h4⟩
     | x i =>
       show bkQ id _ (.x i) ks'
       simp only at h4
       unfold bkQ
       simp only
       split at h4
       ·rename_i e; rw [e]; exact ⟨h1, ts', χ', h2, h3, h4⟩
       ·rename_i e; rw [e]; exact ⟨h1, ts', χ', h2, h3, h4⟩
   | _ => exact h.elim
 | l τ a iha =>
   intro c Q ts χ ks hk hγ h
   cases c with
   | loop x =>
     refine yrt fun Y hY => ?_
     let Sem : List (DV K) -> Prop := fun env => ∀ ks', KOk ks' -> (∃ ξ, GM P C R (bdT F.C τ (tagT τ ts).rg ts.h env) ξ (ofK ks')) -> WK P B N ro x (sqQ (Kq P C R ts.rg Q) Y) ks'
     have go : ∀ {ts' : TS K} {χ' : Nat → Nat → Bool} {ks' : KS}, KOk ks' → GM P C R ts' χ' (ofK ks') → ExtR (tagT τ ts).rg ts'.rg → rdJ F.C τ ts' (apC False (ctT τ) (curC (ctT τ) Sem)) → Y ks' := by
      intro ts' χ' ks' hk' hγ' hx' hj
      refine hY ks' (yqH fun _ => ?_)
      rw [hF] at hj
      refine (yqg (hh := ts.h) hR hB hC hk' hγ' hx' hj).mono fun ks2 ⟨env, e1, e2, ξ, e3⟩ => ?_
      exact ylo _ _ _ e1 ks2 e2 ⟨ξ, by rw [hF]; exact e3⟩
     refine go hk (ynp hγ) .refl (h (curC (ctT τ) Sem) (yi8 _ _ _ fun env hd => ?_))
     rintro ks' hk' ⟨ξ, hγ'⟩
     refine ygv (iha env x _ _ ξ ks' hk' hγ' hd) fun e ks2 hq => ?_
     obtain ⟨h1, ts', χ', h2, h3, h4⟩ := hq
     rw [ys0] at h3
     cases e with
     | n => exact go h1 h2 h3 h4
     | x id => exact ⟨h1, ts', χ', h2, (yf7 τ ts).trans h3, h4⟩
     | r => exact ⟨h1, ts', χ', h2, (yf7 τ ts).trans h3, h4⟩
   | _ => exact h.elim
 | j τ a b iha ihb =>
   intro c Q ts χ ks hk hγ h
   cases c with
   | seq x y =>
     let Sem : List (DV K) -> Prop := fun env => ∀ ks', KOk ks' -> (∃ ξ, GM P C R (bdT F.C τ (tagT τ ts).rg ts.h env) ξ (ofK ks')) -> WK P B N ro y (Kq P C R ts.rg Q) ks'
     have hd := h (curC (ctT τ) Sem) (yi8 _ _ _ fun env hd => by
      rintro ks' hk' ⟨ξ, hγ'⟩
      exact ygv (ihb env y Q _ ξ ks' hk' hγ' hd) fun e ks2 hq => hq.mono (yf7 τ ts))
     refine yp9 (ygv (iha x _ (tagT τ ts) χ ks hk (ynp hγ) hd) fun e ks' hq => ?_)
     obtain ⟨h1, ts', χ', h2, h3, h4⟩ := hq
     cases e with
     | n =>
       refine yqH fun _ => ?_
       simp only at h4
       rw [hF] at h4
       refine (yqg (hh := ts.h) hR hB hC h1 h2 h3 h4).mono fun ks2 ⟨env, e1, e2, ξ, e3⟩ => ?_
       exact ylo _ _ _ e1 ks2 e2 ⟨ξ, by rw [hF]; exact e3⟩
     | x id => exact ⟨h1, ts', χ', h2, (yf7 τ ts).trans h3, h4⟩
     | r => exact ⟨h1, ts', χ', h2, (yf7 τ ts).trans h3, h4⟩
   | _ => exact h.elim
end
theorem yrv {c : ybC} {Q Q' : AEx → KS → Prop} {ks : KS} (h : WK P B N ro c Q ks) (hq : ∀ e ks, KOk ks → Q e ks → RE B N (toS ks) (Q' e)) : WK P B N ro c Q' ks := by
 have _ := (inferInstance : GB P B)
 intro x hx a G hR
 refine wpIn_mono (h x hx a G hR) ?_
 rintro e a' w' ⟨ks1, G1, h1, h2, h3⟩
 have go : ∀ e', Q e' ks1 → ∃ ks2 G2, RelK B N ks2 a' G2 ∧ G2.w = w' ∧ Q' e' ks2 := by
  intro e' h3
  obtain ⟨ks2, G2, k1, k2, k3⟩ := hq e' ks1 h1.2 h3 a' G1 h1.1
  exact ⟨ks2, G2, k2, by rw [k1, h2], k3⟩
 cases e with
 | normal => exact go .n h3
 | exit id => exact go (.x id) h3
 | ret => exact go .r h3
 | goto l => exact h3.elim
 | panic ch => exact h3.elim
 | outgrown => exact h3.elim
theorem yrq {ks : KS} (hk : KOk ks) (hγ : GM P C R ts χ (ofK ks)) {q : Nat × Option Nat} {u : TV K} (h : resT ts q = some u) : ∃ v, res1 (toS ks) q = some v ∧ TR P C ts χ u v := by
 have box : ∀ {t s c o e : Nat} {cs : List (TV K)}, (lkT ts.fr t).s = .px s c o → ts.tb s c = some (.box e cs) → ∃ kb : KB, (toS ks).fr t = .pt (.l s c) o ∧ tgt (toS ks) (.pt (.l s c) o) = some (kb.cells, o) ∧ TL P C ts χ cs kb.cells := by
  intro t s c o e cs e1 e2
  have ht := (hγ.fr t).s
  rw [e1] at ht
  obtain ⟨kb, h1, h2⟩ := hγ.mb s c _ e2 (hγ.box e2)
  refine ⟨kb, ht.pxi, ?_, h2.2.2.1, h2.2.2.2⟩
  have hz := (yfa hk s c kb h1).1
  show ((toS ks).M (.l s c)).bind _ = _
  rw [<- yfE]
  show (((ofK ks).kb s c).map KB.blk).bind _ = _
  rw [h1]
  exact if_neg hz
 unfold resT at h
 split at h
 ·cases h; exact ⟨_, rfl, hγ.fr _⟩
 ·split at h
  ·rename_i s c o e1
   split at h
   ·rename_i e cs e2
    obtain ⟨kb, b1, b2, b3⟩ := box e1 e2
    obtain ⟨v, h1, h2⟩ := b3.at' h
    exact ⟨v, by simp only [res1, b1, b2, Option.bind_some]; exact h1, h2⟩
   ·cases h
  ·cases h
 ·rename_i t sz
  split at h
  ·rename_i s c o e1
   split at h
   ·rename_i e cs e2
    obtain ⟨kb, b1, b2, b3⟩ := box e1 e2
    obtain ⟨v, h1, h2⟩ := yjd b3 h
    refine ⟨v, ?_, h2⟩
    simp only [res1, b1, b2, Option.bind_some]
    simp only [kld] at h1
    exact h1
   ·cases h
  ·cases h
theorem ymC {ks : KS} (hk : KOk ks) (hγ : GM P C R ts χ (ofK ks)) : ∀ (l : List (Nat × Option Nat)) (us : List (TV K)), yoI ts l = some us → ∃ vs, resL (toS ks) l = some vs ∧ TL P C ts χ us vs
 | [], us, h => by cases h; exact ⟨[], rfl, .nil⟩
 | q :: l, us, h => by
   simp only [yoI] at h
   split at h
   ·rename_i v vs h1 h2
    cases h
    obtain ⟨a, a1, a2⟩ := yrq hk hγ h1
    obtain ⟨az, b1, b2⟩ := ymC hk hγ l vs h2
    exact ⟨a :: az, by simp only [resL, a1, b1], .cons a2 b2⟩
   ·cases h
theorem ynY (hC : CxOk P C) : ∀ (rs : List Nat) (us : List (TV K)) (vs : List AV) (p : List (DV K) → Prop), outR C rs us p → TL P C ts χ us vs → ∃ xs, p xs ∧ noLs vs = true ∧ dwks vs = xs.map (dvA C)
 | [], [], vs, p, h, t => by
   have : vs = [] := List.eq_nil_of_length_eq_zero t.1
   subst this; exact ⟨[], h, rfl, rfl⟩
 | r :: rs, u :: us, vs, p, h, t => by
   cases vs with
   | nil => simp [TL] at t
   | cons v vs =>
     simp only [outR] at h
     split at h
     ·rename_i x e
      obtain ⟨xs, a1, a2, a3⟩ := ynY hC rs us vs _ h t.head.2
      obtain ⟨b1, b2, _⟩ := ylJ hC e t.head.1
      exact ⟨.v r x :: xs, a1, by simp [noLs, b2, a2], by simp only [dwks, List.map_cons, a3, b1]; rfl⟩
     ·exact h.elim
 | [], _ :: _, _, _, h, _ => h.elim
 | _ :: _, [], _, _, h, _ => h.elim
theorem yss : ∀ {x r : List (DV K)}, eqR x r → x = r := by
 have one : ∀ {t t' : Nat} {x : K t} {y : K t'}, (if h : t = t' then h ▸ x = y else False) → (DV.v t x : DV K) = .v t' y := by
  intro t t' x y h
  split at h
  ·rename_i e; subst e; subst h; rfl
  ·exact h.elim
 intro x
 induction x with
 | nil => intro r h; cases r with | nil => rfl | cons => exact h.elim
 | cons a x ih =>
   intro r h
   cases r with
   | nil => cases a <;> first | exact h.elim | (cases x <;> exact h.elim)
   | cons b r =>
     cases a with
     | v t y =>
       cases b with
       | v t' z =>
         cases x with
         | nil =>
           cases r with
           | nil => rw [one h]
           | cons => cases ih h.2
         | cons c x =>
           have h' : (if h : t = t' then h ▸ y = z else False) /\ eqR (c :: x) r := h
           rw [one h'.1, ih h'.2]
       | _ => cases x <;> cases r <;> exact h.elim
     | _ => cases b <;> cases x <;> cases r <;> exact h.elim
theorem yn6 (hB : ycW B) (hC : CxOk P C) (res : List (Nat × Option Nat)) : ∀ (n : Nat) (ts : TS K), REk P C R B N ts (retF C res ts n)
 | 0, ts => .refl
 | n + 1, ts => by
   have _ := (inferInstance : GB P B)
   simp only [retF]
   split
   ·split
    ·exact .refl
    ·exact (ymy hB hC 9 _ ts).trans (yn6 hB hC res n _)
   ·exact .refl
theorem yn5 (hC : CxOk P C) : ∀ (ps : List PD) (env : List (AD K)) (i : Nat), env.length = ps.length → (∀ F, AD.f F ∈ env → FOk P C F) → ∀ t, TR P C ts χ (lkT (entT C ps env i) t) (lkF (entF (yax C ps env) i) t)
 | [], [], i, _, _, t => .un _
 | [], _ :: _, i, h, _, t => by simp at h
 | _ :: _, [], i, h, _, t => by simp at h
 | p :: ps, x :: env, i, h, hF, t => by
   have ih := yn5 hC ps env (i + 1) (by simpa using h) (fun F hf => hF F (List.mem_cons_of_mem _ hf)) t
   have bad : TR P C ts χ (lkT ([] : List (Nat × TV K)) t) (lkF (entF (yax C (p :: ps) (x :: env)) i) t) := .un _
   have cons : ∀ {u : TV K}, TR P C ts χ u (penc C p x) → TR P C ts χ (lkT ((i, u) :: entT C ps env (i + 1)) t) (lkF (entF (yax C (p :: ps) (x :: env)) i) t) := by
    intro u hu
    show TR P C ts χ _ (lkF ((i, penc C p x) :: entF (yax C ps env) (i + 1)) t)
    rw [yfe, ycX]
    simp only
    split
    ·exact hu
    ·exact ih
   cases p with
   | v t' =>
     cases x with
     | d y =>
       cases y with
       | v t2 z =>
         simp only [entT]
         refine cons ?_
         split
         ·rename_i e; subst e; exact (yi1 hC t2 z).1
         ·exact .un _
       | _ => exact bad
     | f F => exact bad
   | p t' =>
     cases x with
     | d y =>
       cases y with
       | v t2 z =>
         simp only [entT]
         refine cons ?_
         split
         ·rename_i e; subst e
          have : penc C (.p t2) (.d (.v t2 z)) = .ep ((C.E t2).c z) (0 * (C.E t2).sz + 0) := by simp [penc]
          rw [this]
          exact .ep t2 [z] 0 0 _ (by simp [cl, hC.dw])
         ·exact .un _
       | _ => exact bad
     | f F => exact bad
   | f az bs =>
     cases x with
     | d y => exact bad
     | f F =>
       simp only [entT]
       exact cons (.fv az bs F _ (hF F List.mem_cons_self) (hF F List.mem_cons_self).2.1)
theorem ykL (hC : CxOk P C) : ∀ (ps : List PD) (env : List (AD K)), (∀ F, AD.f F ∈ env → FOk P C F) → noLs (yax C ps env) = true
 | [], _, _ => by simp [yax, noLs]
 | _ :: _, [], _ => by simp [yax, noLs]
 | p :: ps, x :: env, hF => by
   have ih := ykL hC ps env (fun F hf => hF F (List.mem_cons_of_mem _ hf))
   have dv : ∀ y : DV K, (dvA C y).noL = true := by
    intro y
    cases y with
    | v t z => exact (yi1 (P := P) (ts := ⟨[], [], [], [], []⟩) (χ := fun _ _ => false) hC t z).2.1
    | _ => rfl
   simp only [yax, noLs, ih, Bool.and_true]
   cases x with
   | f F => cases p <;> exact (hF F List.mem_cons_self).1
   | d y =>
     cases p with
     | p t' =>
       cases y with
       | v t2 z =>
         simp only [penc]
         split <;> rfl
       | _ => rfl
     | _ => exact dv y
theorem ykH (C : Cx K) : ∀ (ps : List PD) (env : List (AD K)), env.length = ps.length → (yax C ps env).length = ps.length
 | [], [], _ => rfl
 | [], _ :: _, h => by simp at h
 | _ :: _, [], h => by simp at h
 | p :: ps, x :: env, h => by simp only [yax, List.length_cons]; rw [ykH C ps env (by simpa using h)]
end
theorem yts {P : Program} {F : Cf K} (hC : CxOk P F.C) (hS : SsOk P F.C F.S) {f : FuncId} {c : AFn} (hF : trF P f = some c) {A : An K} {ps : List PD} {rs : List Nat} (hN : F.N = c.N) (hps : ps.length ≤ c.N) {env : List (AD K)} {r : List (DV K)} (hlen : env.length = ps.length) (hFs : ∀ G, AD.f G ∈ env → FOk P F.C G)
  (h : DnF F A c ps rs env r) : Pure P f (yax F.C ps env) (yaP (r.map (dvA F.C))) := by
 intro H n
 refine yao.dwkR ?_
 refine yks hF (by rw [ykH _ _ _ hlen]; exact hps) (ykL hC ps env hFs) fun B _ hB => ?_
 let R : List (HO K) -> Hp -> Nat -> Prop := fun _ H' n' => H' = H /\ n' = n
 let ks0 : KS := entK (yax F.C ps env) H n
 let ts0 : TS K := ⟨entT F.C ps env 0, [], [], [], []⟩
 have hk0 : KOk ks0 := fun d b hb => by cases hb
 have hg0 : GM P F.C R ts0 (fun _ _ => false) (ofK ks0) := by
  refine ⟨fun t => yn5 hC ps env 0 hlen hFs t, fun s c b hb _ => ?_, fun s c h => by (cases h), fun s _ => rfl, rfl, rfl⟩
  rcases tb_c hb with rfl | rfl <;> cases hb
 have hmain := yt3 (ro := none) (R := R) (fun _ _ _ _ h => h) hB hC rfl hS hN A c.body _ ts0 _ ks0 hk0 hg0 h
 refine yrv hmain fun e ks hk hq => ?_
 obtain ⟨_, ts, χ, hγ, _, hq⟩ := hq
 have fin : retD F.C c.res rs (fun x => eqR x r) .r ts → RE B c.N (toS ks) (retK c.res (fun av H' n' => dwk av = yaP (r.map (dvA F.C)) ∧ H' = H ∧ n' = n) .r) := by
  intro hq
  simp only [retD] at hq
  refine (yn6 hB hC c.res 9 ts χ ks hk hγ).mono fun ks' ⟨hk', ξ, hγ'⟩ => ?_
  split at hq
  ·rename_i us hus
   obtain ⟨vs, h1, h2⟩ := ymC hk' hγ' c.res us hus
   obtain ⟨xs, h3, h4, h5⟩ := ynY hC rs us vs _ hq h2
   have := yss h3
   subst this
   show wpv (resA (toS ks') c.res) _
   unfold resA
   rw [h1]
   have hA : ∀ (vs : List AV) (xs : List AV), noLs vs = true → dwks vs = xs → (match vs with | [u] => u | us => AV.tup us).noL = true ∧ dwk (match vs with | [u] => u | us => AV.tup us) = yaP xs := by
    intro vs xs hn hd
    match vs, hn, hd with
    | [], _, hd => subst hd; exact ⟨rfl, rfl⟩
    | [v], hn, hd => subst hd; exact ⟨by simpa [noLs] using hn, rfl⟩
    | v :: v' :: vs, hn, hd => subst hd; exact ⟨hn, rfl⟩
   obtain ⟨a1, a2⟩ := hA vs _ h4 h5
   exact ⟨a1, by rw [yjk]; exact a2, hγ'.hp.1, hγ'.hp.2⟩
  ·exact hq.elim
 cases e with
 | x id => exact hq.elim
 | r => exact fin hq
 | n => exact fin hq
end Go.AV
end
noncomputable section
namespace Go.AV
open Go.RowKit Go.RG Go.Lib
variable {K : Nat -> Type}
theorem yai {c : Bool} {a b a' b' : Prop} (h : cnd c a b) (ha : a -> a') (hb : b -> b') : cnd c a' b' := ⟨fun e => ha (h.1 e), fun e => hb (h.2 e)⟩
structure Tb (K : Nat → Type) (X : Type) where
 g : Bool
 c : X -> List (TV K)
 rd : List (TV K) -> Option X
 tb : Option (X -> UInt8)
 ob : Option (UInt8 -> X)
 fl : Bool
 E : Enc X
structure TbOk (P : Program) (C : Cx K) {X : Type} (b : Tb K X) : Prop where
 c : ∀ (x : X) ts χ, ((b.E).c x).length = (b.c x).length /\ ∀ (j : Nat) (u : TV K) (v : AV), (b.c x)[j]? = some u -> (b.E.c x)[j]? = some v -> TR P C ts χ u v
 rd : ∀ (cs : List (TV K)) (x : X) ts χ (vs : List AV), b.rd cs = some x -> vs.length = cs.length -> (∀ (j : Nat) (u : TV K) (v : AV), cs[j]? = some u -> vs[j]? = some v -> TR P C ts χ u v) -> dwks vs = b.E.c x
 g : b.g = false -> b.E.sz = 1
 dw : ∀ x : X, dwks (b.E.c x) = b.E.c x
 tb : ∀ f, b.tb = some f -> ∀ x, ∃ n, b.E.c x = [.it .u8 n] /\ f x = UInt8.ofNat n.toNat
 ob : ∀ f, b.ob = some f -> ∀ y : UInt8, b.E.c (f y) = [.it .u8 y.toNat]
 fl : b.fl = true -> ∀ x : X, ydY (b.E.c x) = true
 nr : ∀ x, ybp (b.c x) = true
def tbI (k : IntKind) : Tb K Int := ⟨false, fun n => [.it k n], fun cs => match cs with
 | [u] => match tint u with
   | some (k', n) => if k' = k then some n else none
   | none => none
 | _ => none, (match k with | .u8 => some toB | _ => none), (match k with | .u8 => some ofB | _ => none), true, eI k⟩
def tbB : Tb K Bool := ⟨false, fun b => [.bl b], fun cs => match cs with
 | [u] => tbo u
 | _ => none, none, none, true, eB⟩
def tbS : Tb K Str := ⟨false, fun s => [.st s], fun cs => match cs with
 | [.st s] => some s
 | _ => none, none, none, true, eS⟩
def tbL (e : Nat) (E : Enc (K e)) : Tb K (List (K e)) := ⟨false, fun l => [.sl e l], fun cs => match cs with
 | [.sl e' l] => yhy e' e l
 | [.nil] => some []
 | [.em] => some []
 | _ => none, none, none, false, eSl E⟩
def ybN {A B : Type} (a : Tb K A) (b : Tb K B) : Tb K (A × B) := ⟨true, fun x => a.c x.1 ++ b.c x.2, fun cs => match a.rd (cs.take a.E.sz), b.rd (cs.drop a.E.sz) with
 | some x, some y => some (x, y)
 | _, _ => none, none, none, a.fl && b.fl, ⟨fun x => a.E.c x.1 ++ b.E.c x.2, a.E.sz + b.E.sz, by have := a.E.pos; omega, fun x => by rw [List.length_append, a.E.len, b.E.len], fun x => by rw [yht, a.E.no, b.E.no]; rfl, fun x => by rw [List.all_append, a.E.one, b.E.one]; rfl⟩⟩
def ylY {A X : Type} (a : Tb K A) (f : X → A) (g : A → X) (E : Enc X) : Tb K X := ⟨true, fun x => a.c (f x), fun cs => match a.rd cs with
 | some y => some (g y)
 | none => none, none, none, a.fl, E⟩
def yon {A X : Type} (a : Enc A) (f : X -> A) : Enc X := ⟨fun x => a.c (f x), a.sz, a.pos, fun x => a.len _, fun x => a.no _, fun x => a.one _⟩
def tbU : Tb K Unit := ⟨false, fun _ => [.lb true], fun _ => none, none, none, false, ⟨fun _ => [.bl true], 1, by omega, fun _ => rfl, fun _ => rfl, fun _ => rfl⟩⟩
section
variable {P : Program} {C : Cx K}
theorem at1 {α : Type} {x u : α} {j : Nat} (h : [x][j]? = some u) : j = 0 ∧ u = x := by
 cases j with
 | zero => simp at h; exact ⟨rfl, h.symm⟩
 | succ j => simp at h
theorem len1 {α : Type} {l : List α} (h : l.length = 1) : ∃ x, l = [x] := by
 match l, h with
 | [x], _ => exact ⟨x, rfl⟩
theorem ycO (k : IntKind) : TbOk P C (tbI k : Tb K Int) := by
 refine ⟨fun x ts χ => ⟨rfl, fun j u v hu hv => ?_⟩, fun cs x ts χ vs h hl ht => ?_, fun _ => rfl, fun _ => rfl, fun f hf x => ?_, fun f hf x => ?_, fun _ _ => rfl, fun _ => rfl⟩
 ·obtain ⟨rfl, rfl⟩ := at1 hu; obtain ⟨_, rfl⟩ := at1 hv; exact .it k x
 ·simp only [tbI] at h
  split at h
  ·rename_i u
   obtain ⟨v, rfl⟩ := len1 hl
   split at h
   ·rename_i k' n hn
    split at h
    ·rename_i e; cases h; subst e; rw [TR.int (ht 0 _ _ rfl rfl) hn]; rfl
    ·cases h
   ·cases h
  ·cases h
 ·cases k <;> simp [tbI] at hf; subst hf; exact ⟨x, rfl, rfl⟩
 ·cases k <;> simp [tbI] at hf; subst hf; rfl
theorem yr2 : TbOk P C (tbB : Tb K Bool) := by
 refine ⟨fun x ts χ => ⟨rfl, fun j u v hu hv => ?_⟩, fun cs x ts χ vs h hl ht => ?_, fun _ => rfl, fun _ => rfl, fun f hf x => (by cases hf), fun f hf x => (by cases hf), fun _ _ => rfl, fun _ => rfl⟩
 ·obtain ⟨rfl, rfl⟩ := at1 hu; obtain ⟨_, rfl⟩ := at1 hv; exact .bl x
 ·simp only [tbB] at h
  split at h
  ·obtain ⟨v, rfl⟩ := len1 hl; rw [TR.bool (ht 0 _ _ rfl rfl) h]; rfl
  ·cases h
theorem yf3 : TbOk P C (tbS : Tb K Str) := by
 refine ⟨fun x ts χ => ⟨rfl, fun j u v hu hv => ?_⟩, fun cs x ts χ vs h hl ht => ?_, fun _ => rfl, fun _ => rfl, fun f hf x => (by cases hf), fun f hf x => (by cases hf), fun _ _ => rfl, fun _ => rfl⟩
 ·obtain ⟨rfl, rfl⟩ := at1 hu; obtain ⟨_, rfl⟩ := at1 hv; exact .st x
 ·simp only [tbS] at h
  split at h
  ·obtain ⟨v, rfl⟩ := len1 hl; cases h; rw [TR.str (ht 0 _ _ rfl rfl)]; rfl
  ·cases h
theorem ys3 {T : Type} {E : Enc T} (h : ∀ x, dwks (E.c x) = E.c x) (l : List T) : dwks (cl E l) = cl E l := by
 induction l with
 | nil => rfl
 | cons x l ih => show dwks (E.c x ++ cl E l) = E.c x ++ cl E l; rw [ybi, h, ih]
theorem ykw (e : Nat) {E : Enc (K e)} (hE : C.E e = E) (hd : ∀ x, dwks (E.c x) = E.c x) : TbOk P C (tbL e E) := by
 refine ⟨fun x ts χ => ⟨rfl, fun j u v hu hv => ?_⟩, fun cs x ts χ vs h hl ht => ?_, fun _ => rfl, fun x => ?_, fun f hf x => (by cases hf), fun f hf x => (by cases hf), fun h => (by cases h), fun _ => rfl⟩
 ·obtain ⟨rfl, rfl⟩ := at1 hu; obtain ⟨_, rfl⟩ := at1 hv; exact .sl e x false _ _ rfl (by rw [hE]; exact ys3 hd x)
 ·simp only [tbL] at h
  split at h
  ·obtain ⟨v, rfl⟩ := len1 hl
   obtain ⟨rfl, h⟩ := ydF h
   obtain ⟨z, xs, h1, rfl⟩ := (ht 0 _ _ rfl rfl).sli
   subst h
   show [dwk (AV.sl z _ xs)] = _
   simp only [dwk, h1, hE]; rfl
  ·obtain ⟨v, rfl⟩ := len1 hl; cases h
   have := ht 0 _ _ rfl rfl
   cases this; rfl
  ·obtain ⟨v, rfl⟩ := len1 hl; cases h
   have := ht 0 _ _ rfl rfl
   cases this; rfl
  ·cases h
 ·show [dwk (slA E x)] = [slA E x]
  simp only [slA, dwk, ys3 hd]
theorem ynA (a b : List AV) : ydY (a ++ b) = (ydY a && ydY b) := by
 induction a with
 | nil => simp [ydY]
 | cons x a ih => simp [ydY, ih, Bool.and_assoc]
theorem yl1 (a b : List (TV K)) : ybp (a ++ b) = (ybp a && ybp b) := by
 induction a with
 | nil => simp [ybp]
 | cons x a ih => simp [ybp, ih, Bool.and_assoc]
theorem yaZ {A B : Type} {a : Tb K A} {b : Tb K B} (ha : TbOk P C a) (hb : TbOk P C b) : TbOk P C (ybN a b) := by
 refine ⟨fun x ts χ => ?_, fun cs x ts χ vs h hl ht => ?_, fun h => (by cases h), fun x => ?_, fun f hf x => (by cases hf), fun f hf x => (by cases hf), fun h x => ?_, fun x => ?_⟩
 ·exact TL.app (ts := ts) (χ := χ) (P := P) (C := C) (us := a.c x.1) (us' := b.c x.2) (vs := a.E.c x.1) (vs' := b.E.c x.2) (ha.c x.1 ts χ) (hb.c x.2 ts χ)
 ·simp only [ybN] at h
  split at h
  ·rename_i x1 y1 h1 h2
   cases h
   have t : TL P C ts χ cs vs := ⟨hl, ht⟩
   have e1 := ha.rd _ _ ts χ _ h1 (t.take a.E.sz).1 (t.take a.E.sz).2
   have e2 := hb.rd _ _ ts χ _ h2 (t.drop a.E.sz).1 (t.drop a.E.sz).2
   show dwks vs = a.E.c x1 ++ b.E.c y1
   rw [<- e1, <- e2, <- ybi, List.take_append_drop]
  ·cases h
 ·show dwks (a.E.c x.1 ++ b.E.c x.2) = _; rw [ybi, ha.dw, hb.dw]; rfl
 ·have h' : (a.fl && b.fl) = true := h
  rw [Bool.and_eq_true] at h'
  show ydY (a.E.c x.1 ++ b.E.c x.2) = true
  rw [ynA, ha.fl h'.1, hb.fl h'.2]; rfl
 ·show ybp (a.c x.1 ++ b.c x.2) = true; rw [yl1, ha.nr, hb.nr]; rfl
theorem yfO {A X : Type} {a : Tb K A} {f : X → A} {g : A → X} {E : Enc X} (ha : TbOk P C a) (hfg : ∀ y, f (g y) = y) (hE : ∀ x, E.c x = a.E.c (f x)) : TbOk P C (ylY a f g E) := by
 refine ⟨fun x ts χ => ?_, fun cs x ts χ vs h hl ht => ?_, fun h => (by cases h), fun x => ?_, fun f hf x => (by cases hf), fun f hf x => (by cases hf), fun h x => ?_, fun x => ha.nr (f x)⟩
 ·have := ha.c (f x) ts χ; rw [<- hE] at this; exact this
 ·simp only [ylY] at h
  split at h
  ·rename_i y hy; cases h; show dwks vs = E.c (g y); rw [hE, hfg]; exact ha.rd _ _ ts χ _ hy hl ht
  ·cases h
 ·show dwks (E.c x) = E.c x; rw [hE]; exact ha.dw _
 ·show ydY (E.c x) = true; rw [hE]; exact ha.fl h _
theorem ytp : TbOk P C (tbU : Tb K Unit) := by
 refine ⟨fun x ts χ => ⟨rfl, fun j u v hu hv => ?_⟩, fun cs x ts χ vs h hl ht => (by cases h), fun _ => rfl, fun _ => rfl, fun f hf x => (by cases hf), fun f hf x => (by cases hf), fun h => (by cases h), fun _ => rfl⟩
 obtain ⟨rfl, rfl⟩ := at1 hu; obtain ⟨_, rfl⟩ := at1 hv; exact .lb true
end
section
variable {TC : Type} {KF : TC -> Type} {code : Nat -> TC}
def cxOf (TF : (c : TC) → Tb (fun t => KF (code t)) (KF c)) : Cx (fun t => KF (code t)) :=
 ⟨fun t => ⟨(TF (code t)).g, (TF (code t)).c, (TF (code t)).rd, (TF (code t)).tb, (TF (code t)).ob, (TF (code t)).fl⟩, fun t => (TF (code t)).E⟩
theorem yqP {P : Program} {TF : (c : TC) → Tb (fun t => KF (code t)) (KF c)} (h : ∀ c, TbOk P (cxOf TF) (TF c)) : CxOk P (cxOf TF) :=
 ⟨fun t x ts χ => (h (code t)).c x ts χ, fun t cs x ts χ vs a b c => (h (code t)).rd cs x ts χ vs a b c, fun t e => (h (code t)).g e, fun t x => (h (code t)).dw x, fun t f e => (h (code t)).tb f e, fun t f e => (h (code t)).ob f e, fun t e => (h (code t)).fl e, fun t x => (h (code t)).nr x⟩
def lkC (d : TC) : List (Nat × TC) → Nat → TC
 | [], _ => d
 | p :: r, t => match Nat.beq p.1 t with
   | true => p.2
   | false => lkC d r t
end
theorem yam {rs : List Nat} {p : Nat} {ps : List PD} {w : WTy K rs (.v p :: ps)} {a : List (AD K)} {b : List (DV K)} (h : appW rs (.v p :: ps) w a b) : ∃ (x : K p) (a' : List (AD K)), a = .d (.v p x) :: a' ∧ appW rs ps (w x) a' b := by
 cases a with
 | nil => exact h.elim
 | cons u a' =>
   simp only [appW] at h
   split at h
   ·rename_i y hy
    cases u with
    | f F => simp [outP] at hy
    | d x =>
      cases x with
      | v t x =>
        simp only [outP] at hy
        split at hy
        ·rename_i e; subst e; cases hy; exact ⟨x, a', rfl, h⟩
        ·cases hy
      | _ => simp [outP] at hy
   ·exact h.elim
theorem ypN {rs az bs : List Nat} {ps : List PD} {w : WTy K rs (.f az bs :: ps)} {a : List (AD K)} {b : List (DV K)} (h : appW rs (.f az bs :: ps) w a b) : ∃ (F : FV K) (a' : List (AD K)), a = .f F :: a' ∧ appW rs ps (w (curF bs az F.W)) a' b := by
 cases a with
 | nil => exact h.elim
 | cons u a' =>
   simp only [appW] at h
   split at h
   ·rename_i y hy
    cases u with
    | f F => simp only [outP] at hy; cases hy; exact ⟨F, a', rfl, h⟩
    | d x => cases x <;> simp [outP] at hy
   ·exact h.elim
theorem yav {rs : List Nat} {w : WTy K rs []} {a : List (AD K)} {b : List (DV K)} (h : appW rs [] w a b) : a = [] ∧ apR rs w b := by
 cases a with
 | nil => exact ⟨rfl, h⟩
 | cons u a' => exact h.elim
theorem ya3 {r : Nat} {rs : List Nat} {w : RTy K (r :: rs)} {b : List (DV K)} (h : apR (r :: rs) w b) : ∃ (x : K r) (b' : List (DV K)), b = .v r x :: b' ∧ apR rs (w x) b' := by
 cases b with
 | nil => exact h.elim
 | cons u b' =>
   cases u with
   | v t x =>
     have h' : (if e : t = r then apR rs (w (e ▸ x)) b' else False) := h
     by_cases e : t = r
     ·subst e; rw [dif_pos rfl] at h'; exact ⟨x, b', rfl, h'⟩
     ·rw [dif_neg e] at h'; exact h'.elim
   | _ => exact h.elim
theorem ya5 {w : RTy K []} {b : List (DV K)} (h : apR [] w b) : b = [] ∧ w := by
 cases b with
 | nil => exact ⟨rfl, h⟩
 | cons u b' => exact h.elim
theorem yaT {P : Program} {F : Cf K} (hC : CxOk P F.C) (hS : SsOk P F.C F.S) {f : FuncId} {c : AFn} (hF : trF P f = some c) {A : An K} {ps : List PD} {rs : List Nat} (hN : F.N = c.N) (hps : ps.length ≤ c.N) {env : List (AD K)} {r : List (DV K)} (hlen : env.length = ps.length) (hFs : ∀ G, AD.f G ∈ env → FOk P F.C G)
  {X : Prop} (h : X) (e : X = DnF F A c ps rs env r) : Pure P f (yax F.C ps env) (yaP (r.map (dvA F.C))) := yts hC hS hF hN hps hlen hFs (e ▸ h)
theorem yaU {P : Program} {C : Cx K} : SsOk P C [] := fun sp h => by cases h
theorem yaw {P : Program} {C : Cx K} {sp : Sp K} {l : List (Sp K)} (h : SpOk P C sp) (k : SsOk P C l) : SsOk P C (sp :: l) := fun q hq => by
 rcases List.mem_cons.1 hq with rfl | hq
 ·exact h
 ·exact k q hq
end Go.AV
end
noncomputable section
namespace Go.AV
open Go.RowKit Go.RG Go.Lib
section
variable {P : Program} {B : Base} [GB P B] {S : St} {G : Gh}
theorem yq9 (h : MRel B S G) {q n : Nat} {b : Blk} {v : Value} (hv : VR G (.gs (.h q) n) v) (hm : S.M (.h q) = some b) (hl : b.cells.length = n * b.sz) (hz : b.sz ≠ 0) (hqn : noLs b.cells = true) : ∃ G', MRel B (S.kill (.h q)) G' ∧ LE G G' ∧ G'.w = G.w ∧ VR G' (.sl false n b.cells) v := by
 obtain ⟨g, cap, hk, e⟩ := hv.gs_inv h (by simp [yaz, hm])
 obtain ⟨r, hr, hb⟩ := h.κcell hm hz
 rw [hk] at hr; cases hr
 obtain ⟨G', e1, e2, e3, e4, e5⟩ := h.kill true (S' := S.kill (.h q)) hk rfl
 refine ⟨G', e4, e5, e1, ?_⟩
 obtain ⟨cur, c1, c2, c3, c4, c5, c6, c7⟩ := hb
 have hnc : n ≤ cap := by
  have : n * b.sz <= cap * b.sz := by rw [<- hl, <- c2]; exact c5
  exact Nat.le_of_mul_le_mul_right this c4
 rw [e]
 have hcell : ∀ (j : Nat) (u : AV), b.cells[j]? = some u → ∃ x, cur[j]? = some x := by
  intro j u hu
  have hj : j < cur.size := Nat.lt_of_lt_of_le (List.getElem?_eq_some_iff.1 hu).1 c5
  exact ⟨cur[j], Array.getElem?_eq_getElem hj⟩
 refine .sl n b.cells g 0 cap (fun j => (cur[j]?).getD undef) (e2 rfl) ?_ ?_ ?_ hnc (Nat.le_trans hnc c3) hqn
 ·intro j u hu
  obtain ⟨x, hx⟩ := hcell j u hu
  rw [e1]
  simp only [World.cell?, Nat.zero_add]
  simp [c1, hx]
 ·intro j u hu
  obtain ⟨x, hx⟩ := hcell j u hu
  rw [hx]; exact (c6 j u x hu hx).le e5
 ·intro j u hu
  obtain ⟨x, hx⟩ := hcell j u hu
  rw [hx]; exact c7 j x (List.getElem?_eq_some_iff.1 hu).1 hx
end
mutual
def hlt (n : Nat) : AV → Bool
 | .agg cs => hlts n cs
 | .tup cs => hlts n cs
 | .gs (.h o) _ => decide (o < n)
 | .pt (.h o) _ => decide (o < n)
 | .yld o => decide (o < n)
 | .fn _ a c => hlts n a && hlts n c
 | .sl _ _ xs => hlts n xs
 | .ep xs _ => hlts n xs
 | _ => true
def hlts (n : Nat) : List AV → Bool
 | [] => true
 | u :: r => hlt n u && hlts n r
end
theorem yjs {n : Nat} : ∀ {l : List AV}, (∀ (j : Nat) (u : AV), l[j]? = some u → hlt n u = true) → hlts n l = true
 | [], _ => rfl
 | u :: r, h => by
   simp only [hlts, Bool.and_eq_true]
   exact ⟨h 0 u rfl, yjs fun j u hu => h (j + 1) u (by simpa using hu)⟩
theorem yfg {n : Nat} : ∀ {l : List AV}, hlts n l = true → ∀ (j : Nat) (u : AV), l[j]? = some u → hlt n u = true
 | [], _, j, u, hu => by simp at hu
 | x :: r, h, j, u, hu => by
   simp only [hlts, Bool.and_eq_true] at h
   cases j with
   | zero => simp at hu; subst hu; exact h.1
   | succ j => exact yfg h.2 j u (by simpa using hu)
theorem VR.hlt {B : Base} {S : St} {G : Gh} (h0 : MRel B S G) {n : Nat} (hn : ∀ o, ybe S (.h o) → o < n) : ∀ {u : AV} {x : Value}, VR G u x → AV.hlt n u = true := by
 have ko : ∀ {o : Nat} {r : Nat × Nat}, G.κ (.h o) = some r → o < n := fun hk => by
  obtain ⟨b, hb, _⟩ := h0.Msome hk
  exact hn _ (h0.live _ b hb)
 have kd : ∀ {o : Nat}, G.dead (.h o) -> o < n := fun hd => hn _ ((h0.dead _).1 hd).2
 have arr : ∀ {us : List AV} {vs : Array Value}, vs.size = us.length → (∀ (j : Nat) (u : AV) (x : Value), us[j]? = some u → vs[j]? = some x → AV.hlt n u = true) → hlts n us = true := fun {us vs} hl h => yjs fun j u hu => by
  have hj : j < vs.size := by rw [hl]; exact (List.getElem?_eq_some_iff.1 hu).1
  exact h j u vs[j] hu (Array.getElem?_eq_getElem hj)
 intro u x h
 induction h with
 | agg cs vs hl h h1 ih => simp only [AV.hlt]; exact arr hl ih
 | tup cs vs hl h ih => simp only [AV.hlt]; exact arr hl ih
 | nsl z n' xs hn hx => subst hx; rfl
 | esl n' xs hn hx a cap => subst hx; rfl
 | sl n' xs b off cap f hI hc h h1 hn hm hq ih => simp only [AV.hlt]; exact yjs fun j u hu => ih j u hu
 | gs k n' b cap hk => cases k with | l d c => rfl | h o => simp only [AV.hlt, decide_eq_true_eq]; exact ko hk
 | gsd k n' v hk h1 => cases k with | l d c => rfl | h o => simp only [AV.hlt, decide_eq_true_eq]; exact kd hk
 | pt k off b cap hk => cases k with | l d c => rfl | h o => simp only [AV.hlt, decide_eq_true_eq]; exact ko hk
 | ptd k off v hk h1 => cases k with | l d c => rfl | h o => simp only [AV.hlt, decide_eq_true_eq]; exact kd hk
 | ep xs off b base f hI hc h h1 hq ih => simp only [AV.hlt]; exact yjs fun j u hu => ih j u hu
 | fn f a c va vc ha hc h h' ih ih' => simp only [AV.hlt, Bool.and_eq_true]; exact ⟨arr ha ih, arr hc ih'⟩
 | yld o l cap hk => simp only [AV.hlt, decide_eq_true_eq]; exact ko hk
 | yldd o v hk h1 => simp only [AV.hlt, decide_eq_true_eq]; exact kd hk
 | _ => rfl
theorem VR.shr {G G' : Gh} {n : Nat} (hκ : ∀ o r, o < n → G.κ (.h o) = some r → G'.κ (.h o) = some r) (hd : ∀ o, o < n → G.dead (.h o) → G'.dead (.h o)) (hI : ∀ b, G.I b → G'.I b) (hw : G'.w = G.w) : ∀ {u : AV} {x : Value}, VR G u x → u.noL = true → AV.hlt n u = true → VR G' u x := by
 intro u x h
 induction h with
 | bl b => exact fun _ _ => .bl b
 | it k n => exact fun _ _ => .it k n
 | st l s h => exact fun _ _ => .st l s h
 | agg cs vs hl h h1 ih => intro hn hh; simp only [AV.noL] at hn; simp only [AV.hlt] at hh; exact .agg cs vs hl (fun j u x a b => ih j u x a b (yaB hn j u a) (yfg hh j u a)) h1
 | tup cs vs hl h ih => intro hn hh; simp only [AV.noL] at hn; simp only [AV.hlt] at hh; exact .tup cs vs hl (fun j u x a b => ih j u x a b (yaB hn j u a) (yfg hh j u a))
 | nsl z n xs hn hx => exact fun _ _ => .nsl z n xs hn hx
 | esl n xs hn hx a cap => exact fun _ _ => .esl n xs hn hx a cap
 | sl n xs b off cap f hIb hc h h1 hn hm hq ih => intro _ hh; simp only [AV.hlt] at hh; exact .sl n xs b off cap f (hI b hIb) (fun j u a => by rw [hw]; exact hc j u a) (fun j u a => ih j u a (yaB hq j u a) (yfg hh j u a)) h1 hn hm hq
 | gs k n b cap hk => cases k with
   | l d c => intro hn; simp [AV.noL] at hn
   | h o => intro _ hh; simp only [AV.hlt, decide_eq_true_eq] at hh; exact .gs _ n b cap (hκ o _ hh hk)
 | gsd k n v hk h1 => cases k with
   | l d c => intro hn; simp [AV.noL] at hn
   | h o => intro _ hh; simp only [AV.hlt, decide_eq_true_eq] at hh; exact .gsd _ n v (hd o hh hk) h1
 | nptr => exact fun _ _ => .nptr
 | pt k off b cap hk => cases k with
   | l d c => intro hn; simp [AV.noL] at hn
   | h o => intro _ hh; simp only [AV.hlt, decide_eq_true_eq] at hh; exact .pt _ off b cap (hκ o _ hh hk)
 | ptd k off v hk h1 => cases k with
   | l d c => intro hn; simp [AV.noL] at hn
   | h o => intro _ hh; simp only [AV.hlt, decide_eq_true_eq] at hh; exact .ptd _ off v (hd o hh hk) h1
 | ep xs off b base f hIb hc h h1 hq ih => intro _ hh; simp only [AV.hlt] at hh; exact .ep xs off b base f (hI b hIb) (fun j u a => by rw [hw]; exact hc j u a) (fun j u a => ih j u a (yaB hq j u a) (yfg hh j u a)) h1 hq
 | fn f a c va vc ha hc h h' ih ih' =>
   intro hn hh
   simp only [AV.noL, Bool.and_eq_true] at hn
   simp only [AV.hlt, Bool.and_eq_true] at hh
   exact .fn f a c va vc ha hc (fun j u x p q => ih j u x p q (yaB hn.1 j u p) (yfg hh.1 j u p)) (fun j u x p q => ih' j u x p q (yaB hn.2 j u p) (yfg hh.2 j u p))
 | nfn => exact fun _ _ => .nfn
 | yld o l cap hk => intro _ hh; simp only [AV.hlt, decide_eq_true_eq] at hh; exact .yld o l cap (hκ o _ hh hk)
 | yldd o v hk h1 => intro _ hh; simp only [AV.hlt, decide_eq_true_eq] at hh; exact .yldd o v (hd o hh hk) h1
 | un v => exact fun _ _ => .un v
theorem yao.shr {P : Program} {f : FuncId} {args : List AV} {H : Hp} {n : Nat} {Post : AV → Prop} (h : yao P f args H n fun av H' n' => (∃ av', Post av' ∧ ((av' = av ∨ av = .sl true 0 [] ∧ av' = .sl false 0 []) ∨ ∃ q m b, av = .gs (.h q) m ∧ n ≤ q ∧ H' q = some b ∧ b.cells.length = m * b.sz ∧ b.sz ≠ 0 ∧ noLs b.cells = true ∧ av' = .sl false m b.cells)) ∧ (∀ o, o < n → H' o = H o) ∧ n ≤ n') (hp : ∀ av, Post av → av.noL = true ∧ ∀ m, hlt m av = true) : yao P f args H n fun av H' n' => Post av ∧ H' = H ∧ n' = n := by
 intro G vs hg hM hV
 refine (h G vs hg hM hV).mono ?_
 rintro e w' ⟨v, av, H', n', G', rfl, ⟨⟨av', hP, hav⟩, hH, hn⟩, hM', rfl, hv, hno⟩
 haveI : GB P (yaN G n) := GB.of hg hM
 obtain ⟨H1, G1, k1, k2, k3, k4⟩ : ∃ H1 G1, (∀ o, o < n → H1 o = H o) ∧ MRel (yaN G n) (hSt H1 n') G1 ∧ G1.w = G'.w ∧ VR G1 av' v := by
  rcases hav with (rfl | ⟨rfl, rfl⟩) | ⟨q, m, b, rfl, hq, hb, h1, h2, h3, rfl⟩
  ·exact ⟨H', G', hH, hM', rfl, hv⟩
  ·refine ⟨H', G', hH, hM', rfl, ?_⟩
   cases hv with
   | nsl z n xs hn hx => exact .nsl _ _ _ rfl rfl
  ·obtain ⟨G1, a1, a2, a3, a4⟩ := yq9 hM' hv hb h1 h2 h3
   refine ⟨fun o => if o = q then none else H' o, G1, fun o ho => ?_, ?_, a3, a4⟩
   ·show (if o = q then none else H' o) = H o
    rw [if_neg (by omega)]; exact hH o ho
   ·have : (hSt H' n').kill (.h q) = hSt (fun o => if o = q then none else H' o) n' := by
     unfold St.kill hSt
     congr 1
     funext k
     cases k with
     | l d c => rfl
     | h o => simp only [updK, Key.h.injEq]
    rw [<- this]; exact a1
 clear hv hno hav hM' hH
 obtain ⟨hno, hp⟩ := hp _ hP
 let G2 : Gh := ⟨fun k => match k with | .h o => if o < n then G1.κ (.h o) else none | .l _ _ => none, yb0 (hSt H n), G1.I, G1.w⟩
 have hκ : ∀ o r, o < n -> G1.κ (.h o) = some r -> G2.κ (.h o) = some r := fun o r ho hr => (if_pos ho).trans hr
 have hd : ∀ o, o < n -> G1.dead (.h o) -> G2.dead (.h o) := fun o ho hq => ⟨(k1 o ho).symm.trans ((k2.dead _).1 hq).1, ho⟩
 have hsh : ∀ {u : AV} {x : Value}, VR G1 u x -> u.noL = true -> hlt n u = true -> VR G2 u x := VR.shr hκ hd (fun _ q => q) rfl
 have hl0 : ∀ d c, G1.κ (.l d c) = none := fun d c => k2.κnone rfl
 have hinv : ∀ k r, G2.κ k = some r → G1.κ k = some r ∧ ∃ o, k = .h o ∧ o < n := by
  intro k r hr
  cases k with
  | l d c => cases hr
  | h o =>
    have hr' : (if o < n then G1.κ (.h o) else none) = some r := hr
    split at hr'
    ·rename_i ho; exact ⟨hr', o, rfl, ho⟩
    ·cases hr'
 refine ⟨v, av', H, n, G2, rfl, ⟨hP, rfl, rfl⟩, ⟨?_, ?_, fun k => Iff.rfl, ?_, ?_, k2.lt, ?_, ?_, ?_, Nat.le_refl _, ?_, k2.I0, k2.I1, k2.os, k2.tape, k2.output, k2.size, k2.same, hM.hno⟩, k3, hsh k4 hno (hp n), hno⟩
 ·intro k
  cases k with
  | l d c => trivial
  | h o =>
    show yak G2 (H o) (if o < n then G1.κ (.h o) else none)
    cases hb : H o with
    | none =>
      split
      ·rename_i ho
       have : G1.κ (.h o) = none := k2.κnone (k := .h o) ((k1 o ho).trans hb)
       rw [this]; trivial
      ·trivial
    | some b =>
      have ho : o < n := hM.live (.h o) b hb
      rw [if_pos ho]
      obtain ⟨r, hr, hB⟩ := k2.κsome (k := .h o) ((k1 o ho).trans hb)
      obtain ⟨r0, hr0, hB0⟩ := hM.κsome (k := .h o) hb
      rw [hr]
      by_cases hz : b.sz = 0
      ·obtain ⟨q, j, fr, c1, c2, c3, c4, c5⟩ := (yak.loop (G := G1) hz).1 hB
       obtain ⟨q0, j0, fr0, d1, d2, d3, d4, d5⟩ := (yak.loop (G := G) hz).1 hB0
       rw [d1] at c1
       simp only [List.cons.injEq, AV.rcd.injEq] at c1
       obtain ⟨_, rfl⟩ := c1
       refine (yak.loop hz).2 ⟨q, j, fr0, by rw [d1]; simp_all, c2, c3, c4, fun t u x p q' => ?_⟩
       have ht : t < q0.tmps.size := by rw [d4]; exact (List.getElem?_eq_some_iff.1 p).1
       have hno := hM.hno (.h o) b hb
       rw [d1] at hno
       simp only [hOk, noLs, Bool.and_eq_true] at hno
       exact hsh (c5 t u x p q') (yaB hno.2 t u p) ((d5 t u q0.tmps[t] p (Array.getElem?_eq_getElem ht)).hlt hM fun o h => h)
      ·obtain ⟨cur, c1, c2, c3, c4, c5, c6, c7⟩ := (yak.cell hz).1 hB
       obtain ⟨cur0, d1, d2, d3, d4, d5, d6, d7⟩ := (yak.cell hz).1 hB0
       refine (yak.cell hz).2 ⟨cur, c1, c2, c3, c4, c5, fun j u x p q => ?_, c7⟩
       have hj : j < cur0.size := Nat.lt_of_lt_of_le (List.getElem?_eq_some_iff.1 p).1 d5
       exact hsh (c6 j u x p q) (yaB (hM.hno (.h o) b hb) j u p) ((d6 j u cur0[j] p (Array.getElem?_eq_getElem hj)).hlt hM fun o h => h)
 ·intro k k' r r' hr hr' e
  exact k2.inj k k' r r' (hinv k r hr).1 (hinv k' r' hr').1 e
 ·intro k b hb
  cases k with
  | l d c => cases hb
  | h o => exact hM.live (.h o) b hb
 ·intro k r hr; exact k2.apart k r (hinv k r hr).1
 ·intro d c r hr; cases hr
 ·intro k r hr
  cases k with
  | l d c => have : (yaN G n).κ (.l d c) = none := hM.κnone (k := .l d c) rfl
             rw [this] at hr; cases hr
  | h o =>
    obtain ⟨b, hb, _⟩ := hM.Msome (k := .h o) hr
    have ho : o < n := hM.live (.h o) b hb
    rcases k2.keep (.h o) r hr with hq | hq
    ·exact .inl (hκ o r ho hq)
    ·exact .inr (hd o ho hq)
 ·intro o r hr; exact k2.heap o r (hinv _ r hr).1
 ·intro o ho hb
  show (if o < n then G1.κ (.h o) else none) = none
  rw [k2.gone o ho hb]; split <;> rfl
end Go.AV
end
