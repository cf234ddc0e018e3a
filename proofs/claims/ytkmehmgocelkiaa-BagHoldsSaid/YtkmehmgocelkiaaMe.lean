/- General texts and own ones, joined: what the program computes, told of abstract states, and the laws of plain data. No condition. -/
import Derived.Test.YtkmehmgocelkiaaMd
import Derived.Test.YtkmehmgocelkiaaMa
import Derived.Test.YtkmehmgocelkiaaRows
import Derived.KernelRfl
noncomputable section
namespace Go.AV
open Go.RowKit Go.RG Go.Lib
variable {K : Nat -> Type}
section
variable {P : Program} {C : Cx K} {R : RR K} {ts ts1 : TS K} {χ : Nat -> Nat -> Bool} {ds : DS} {B : Base} [GB P B] {N : Nat} {ro : Option Nat}
theorem yhC (p : Nat × TV K) (r : List (Nat × TV K)) (t : Nat) : lkR (p :: r) t = if p.1 = t then some p.2 else lkR r t := by
 show (match Nat.beq p.1 t with | true => some p.2 | false => lkR r t) = _
 cases h : Nat.beq p.1 t with
 | true => simp [nbeq.1 h]
 | false => simp only; rw [if_neg (fun e => by rw [nbeq.2 e] at h; cases h)]
theorem ExtR.refl {rg : List (Nat × TV K)} : ExtR rg rg := fun _ _ h => h
theorem ExtR.trans {a b c : List (Nat × TV K)} (h : ExtR a b) (k : ExtR b c) : ExtR a c := fun id w q => k id w (h id w q)
def Same (ts ts' : TS K) : Prop := ts'.od = ts.od /\ ts'.nw = ts.nw
theorem yhJ : ∀ (k : Kd) (v : TV K) (rg : List (Nat × TV K)), ExtR rg (tagV k v rg).2
 | .kp id, v, rg => by
   simp only [tagV]
   split
   ·rename_i h1 h2
    intro id' w h
    rw [yhC]
    split
    ·rename_i e; simp only at e; subst e; rw [h2] at h; cases h
    ·exact h
   ·exact .refl
 | .agg l, v, rg => by
   cases v with
   | agg vs =>
     simp only [tagV]
     exact tagVs_ext l vs rg
   | _ => exact .refl
 | .it _, v, rg => .refl
 | .bl, v, rg => .refl
 | .st, v, rg => .refl
 | .sl _, v, rg => .refl
 | .v _, v, rg => .refl
 | .row _, v, rg => .refl
 | .px _ _, v, rg => .refl
 | .nil, v, rg => .refl
 | .np, v, rg => .refl
 | .fn _ _ _, v, rg => .refl
 | .un, v, rg => .refl
where tagVs_ext : ∀ (l : List Kd) (vs : List (TV K)) (rg : List (Nat × TV K)), ExtR rg (ygH l vs rg).2
 | [], vs, rg => .refl
 | k :: l, [], rg => .refl
 | k :: l, v :: vs, rg => by
   simp only [ygH]
   exact (yhJ k v rg).trans (tagVs_ext l vs _)
theorem Mono.same {ts ts' : TS K} (hs : Same ts ts') (hx : ExtR ts.rg ts'.rg) : Mono ts ts' χ χ := by
 have ht : ∀ s c, ts'.tb s c = ts.tb s c := by intro s c; unfold TS.tb; rw [hs.1, hs.2]
 refine ⟨hx, fun s c h => ?_, fun s c _ => .inr ⟨by rw [ht], rfl⟩⟩
 rcases h with h | ⟨h1, h2⟩
 ·exact .inl h
 ·exact .inr ⟨h1, by rw [hs.2]; exact h2⟩
mutual
theorem ysD : ∀ (k : Kd) (v : TV K) (rg : List (Nat × TV K)) (a : AV) (ts' : TS K), TR P C ts χ v a → Mono ts ts' χ χ → ExtR (tagV k v rg).2 ts'.rg → TR P C ts' χ (tagV k v rg).1 a
 | .kp id, v, rg, a, ts', h, hm, hx => by
   simp only [tagV] at hx ⊢
   split
   ·rename_i h1 h2
    rw [h1, h2] at hx
    exact .cn id v a (hx id v (by rw [yhC]; simp)) h1 (h.noref h1).1
   ·exact h.mono hm
 | .agg l, .agg vs, rg, a, ts', h, hm, hx => by
   simp only [tagV] at hx ⊢
   obtain ⟨az, rfl, t1, t2⟩ := h.agg'
   have := ym2 l vs rg az ts' ⟨t1, t2⟩ hm hx
   exact .agg _ _ this.1 this.2
 | .agg l, .un, rg, a, ts', h, hm, hx => h.mono hm
 | .agg l, .lb b, rg, a, ts', h, hm, hx => h.mono hm
 | .agg l, .bl b, rg, a, ts', h, hm, hx => h.mono hm
 | .agg l, .li k n, rg, a, ts', h, hm, hx => h.mono hm
 | .agg l, .it k n, rg, a, ts', h, hm, hx => h.mono hm
 | .agg l, .st s, rg, a, ts', h, hm, hx => h.mono hm
 | .agg l, .tup s, rg, a, ts', h, hm, hx => h.mono hm
 | .agg l, .nil, rg, a, ts', h, hm, hx => h.mono hm
 | .agg l, .em, rg, a, ts', h, hm, hx => h.mono hm
 | .agg l, .sl _ _, rg, a, ts', h, hm, hx => h.mono hm
 | .agg l, .rw _ _, rg, a, ts', h, hm, hx => h.mono hm
 | .agg l, .px _ _ _, rg, a, ts', h, hm, hx => h.mono hm
 | .agg l, .pr _ _ _ _ _, rg, a, ts', h, hm, hx => h.mono hm
 | .agg l, .ep _ _ _ _, rg, a, ts', h, hm, hx => h.mono hm
 | .agg l, .gs _ _, rg, a, ts', h, hm, hx => h.mono hm
 | .agg l, .nptr, rg, a, ts', h, hm, hx => h.mono hm
 | .agg l, .fn _ _ _, rg, a, ts', h, hm, hx => h.mono hm
 | .agg l, .fv _ _ _, rg, a, ts', h, hm, hx => h.mono hm
 | .agg l, .yl _, rg, a, ts', h, hm, hx => h.mono hm
 | .agg l, .cn _ _, rg, a, ts', h, hm, hx => h.mono hm
 | .it _, v, rg, a, ts', h, hm, hx => h.mono hm
 | .bl, v, rg, a, ts', h, hm, hx => h.mono hm
 | .st, v, rg, a, ts', h, hm, hx => h.mono hm
 | .sl _, v, rg, a, ts', h, hm, hx => h.mono hm
 | .v _, v, rg, a, ts', h, hm, hx => h.mono hm
 | .row _, v, rg, a, ts', h, hm, hx => h.mono hm
 | .px _ _, v, rg, a, ts', h, hm, hx => h.mono hm
 | .nil, v, rg, a, ts', h, hm, hx => h.mono hm
 | .np, v, rg, a, ts', h, hm, hx => h.mono hm
 | .fn _ _ _, v, rg, a, ts', h, hm, hx => h.mono hm
 | .un, v, rg, a, ts', h, hm, hx => h.mono hm
theorem ym2 : ∀ (l : List Kd) (vs : List (TV K)) (rg : List (Nat × TV K)) (az : List AV) (ts' : TS K), TL P C ts χ vs az → Mono ts ts' χ χ → ExtR (ygH l vs rg).2 ts'.rg → TL P C ts' χ (ygH l vs rg).1 az
 | [], vs, rg, az, ts', h, hm, hx => h.mono hm
 | k :: l, [], rg, az, ts', h, hm, hx => h.mono hm
 | k :: l, v :: vs, rg, az, ts', h, hm, hx => by
   cases az with
   | nil => simp [TL] at h
   | cons a az =>
     simp only [ygH] at hx ⊢
     exact .cons (ysD k v rg a ts' h.head.1 hm ((yhJ.tagVs_ext l vs _).trans hx)) (ym2 l vs _ az ts' h.head.2 hm hx)
end
theorem ynp : ∀ (l : List (Nat × Kd)) (ts : TS K), ExtR ts.rg (tagS l ts).rg ∧ (tagS l ts).nw = ts.nw ∧ (tagS l ts).h = ts.h
 | [], ts => ⟨.refl, rfl, rfl⟩
 | p :: l, ts => by
   simp only [tagS]
   have := ynp l ⟨(p.1, (tagV p.2 (lkT ts.fr p.1) ts.rg).1) :: ts.fr, ts.od, ts.nw, (tagV p.2 (lkT ts.fr p.1) ts.rg).2, ts.h⟩
   exact ⟨(yhJ _ _ _).trans this.1, this.2.1, this.2.2⟩
theorem ysS : ∀ (l : List (Nat × Kd)) (ts : TS K), GM P C R ts χ ds → GM P C R (tagS l ts) χ ds
 | [], ts, h => h
 | p :: l, ts, h => by
   simp only [tagS]
   refine ysS l _ ?_
   have hm : Mono ts ⟨(p.1, (tagV p.2 (lkT ts.fr p.1) ts.rg).1) :: ts.fr, ts.od, ts.nw, (tagV p.2 (lkT ts.fr p.1) ts.rg).2, ts.h⟩ χ χ := Mono.same ⟨rfl, rfl⟩ (yhJ _ _ _)
   refine ⟨fun t => ?_, fun s c b hb hx => ?_, h.vi, h.nw, h.hp, h.lv⟩
   ·show TR P C _ χ (lkT ((p.1, _) :: ts.fr) t) _
    rw [yca]
    split
    ·rename_i e; rw [<- e]; exact ysD p.2 _ ts.rg _ _ (h.fr p.1) hm .refl
    ·exact (h.fr t).mono hm
   ·obtain ⟨kb, h1, h2⟩ := h.mb s c b hb hx
    exact ⟨kb, h1, h2.mono hm⟩
theorem ynL : ∀ (l : List Kd) (vs : List (TV K)) (rg : List (Nat × TV K)), (ygH l vs rg).1.length = vs.length
 | [], vs, rg => rfl
 | k :: l, [], rg => rfl
 | k :: l, v :: vs, rg => by simp only [ygH, jaG, ynL l vs]
theorem ykd : ∀ (l : List (Nat × Nat × List Kd)) (ts : TS K), ExtR ts.rg (tagB l ts).rg ∧ (tagB l ts).nw = ts.nw ∧ (tagB l ts).h = ts.h
 | [], ts => ⟨.refl, rfl, rfl⟩
 | p :: l, ts => by
   simp only [tagB]
   split
   ·rename_i e cs hb
    have := ykd l ⟨ts.fr, (p.1, some (.box e (ygH p.2.2 cs ts.rg).1)) :: ts.od, ts.nw, (ygH p.2.2 cs ts.rg).2, ts.h⟩
    exact ⟨(yhJ.tagVs_ext _ _ _).trans this.1, this.2.1, this.2.2⟩
   ·exact ykd l ts
theorem ype : ∀ (l : List (Nat × Nat × List Kd)) (ts : TS K), GM P C R ts χ ds → GM P C R (tagB l ts) χ ds
 | [], ts, h => h
 | p :: l, ts, h => by
   simp only [tagB]
   split
   ·rename_i e cs hb
    refine ype l _ ?_
    have htb : ∀ s c, (⟨ts.fr, (p.1, some (.box e (ygH p.2.2 cs ts.rg).1)) :: ts.od, ts.nw, (ygH p.2.2 cs ts.rg).2, ts.h⟩ : TS K).tb s c = if s = p.1 /\ c = 1 then some (.box e (ygH p.2.2 cs ts.rg).1) else ts.tb s c := fun s c => ycq ts p.1 1 (some (.box e (ygH p.2.2 cs ts.rg).1)) (.inl rfl) s c
    have hbx : ts.tb p.1 1 = some (.box e cs) := hb
    have hm : Mono ts ⟨ts.fr, (p.1, some (.box e (ygH p.2.2 cs ts.rg).1)) :: ts.od, ts.nw, (ygH p.2.2 cs ts.rg).2, ts.h⟩ χ χ := by
     refine ⟨yhJ.tagVs_ext _ _ _, fun s c q => q, fun s c _ => .inr ⟨?_, rfl⟩⟩
     rw [htb]
     split
     ·rename_i q; obtain ⟨rfl, rfl⟩ := q; rw [hbx]; rfl
     ·rfl
    refine ⟨fun t => (h.fr t).mono hm, fun s c b hb' hx => ?_, fun s c hx => ?_, h.nw, h.hp, fun s b q e => ?_⟩
    rotate_right
    ·rw [htb] at e
     split at e
     ·rename_i q'; obtain ⟨rfl, _⟩ := q'; exact h.lv _ _ q hbx
     ·exact h.lv s b q e
    ·rw [htb] at hb'
     split at hb'
     ·rename_i q
      obtain ⟨rfl, rfl⟩ := q
      cases hb'
      obtain ⟨kb, h1, h2⟩ := h.mb _ _ _ hbx hx
      refine ⟨kb, h1, ?_⟩
      have t := ym2 (P := P) (C := C) (ts := ts) (χ := χ) p.2.2 cs ts.rg kb.cells _ ⟨h2.2.2.1, h2.2.2.2⟩ hm .refl
      exact ⟨h2.1, by rw [ynL]; exact h2.2.1, t.1, t.2⟩
     ·obtain ⟨kb, h1, h2⟩ := h.mb s c b hb' hx
      exact ⟨kb, h1, h2.mono hm⟩
    ·obtain ⟨e', h1⟩ := h.vi s c hx
     refine ⟨e', ?_⟩
     rw [htb]
     split
     ·rename_i q; obtain ⟨rfl, rfl⟩ := q; rw [hbx] at h1; cases h1
     ·exact h1
   ·exact ype l ts h
theorem yme {τ : Tm} (h : GM P C R ts χ ds) : GM P C R (tagT τ ts) χ ds := ype _ _ (ysS _ _ h)
theorem yen (τ : Tm) (ts : TS K) : ExtR ts.rg (tagT τ ts).rg := (ynp τ.ks ts).1.trans (ykd τ.bx _).1
def curC : (cs : List CT) → (List (DV K) → Prop) → Cur K Prop cs
 | [], p => p []
 | _ :: cs, p => fun x => curC cs fun env => p (inC _ x :: env)
theorem ywX (c : CT) (x : CTy K c) : outC c (inC c x) = some x := by
 cases c with
 | l e => exact dif_pos rfl
 | v t => exact dif_pos rfl
 | i => rfl
 | b => rfl
 | s => rfl
theorem ywB {x : DV K} {n : Int} (h : outI x = some n) : .i n = x := by
 cases x <;> first | (cases h; rfl) | (cases h; done)
theorem yua {x : DV K} {n : Bool} (h : yxb x = some n) : .b n = x := by
 cases x <;> first | (cases h; rfl) | (cases h; done)
theorem yxg {x : DV K} {n : Str} (h : outS x = some n) : .s n = x := by
 cases x <;> first | (cases h; rfl) | (cases h; done)
theorem ywS {e : Nat} {x : DV K} {l : List (K e)} (h : outL e x = some l) : .l e l = x := by
 cases x with
 | l e' l' => obtain ⟨rfl, rfl⟩ := yeD h; rfl
 | _ => cases h
theorem yw2 {t : Nat} {x : DV K} {y : K t} (h : outT t x = some y) : .v t y = x := by
 cases x with
 | v t' y' =>
   simp only [outT] at h
   split at h
   ·rename_i e; subst e; cases h; rfl
   ·cases h
 | _ => cases h
theorem ywI {c : CT} {x : DV K} {y : CTy K c} (h : outC c x = some y) : inC c y = x := by
 cases c with
 | l e => exact ywS h
 | v t => exact yw2 h
 | i => exact ywB h
 | b => exact yua h
 | s => exact yxg h
theorem ypB : ∀ (cs : List CT) (p : List (DV K) → Prop) (env : List (DV K)), apC False cs (curC cs p) env → p env
 | [], p, [], h => h
 | [], p, _ :: _, h => h.elim
 | c :: cs, p, [], h => h.elim
 | c :: cs, p, x :: env, h => by
   simp only [apC] at h
   split at h
   ·rename_i y hy
    have := ypB cs _ env h
    rw [ywI hy] at this; exact this
   ·exact h.elim
theorem ym1 : ∀ (cs : List CT) (p : List (DV K) → Prop) (q : List (DV K) → Prop), (∀ env, q env → p env) → allC cs fun env => q env → apC False cs (curC cs p) env
 | [], p, q, h => fun hq => h [] hq
 | c :: cs, p, q, h => fun x => by
   have := ym1 cs (fun env => p (inC c x :: env)) (fun env => q (inC c x :: env)) (fun env => h _)
   show allC cs fun env => q (inC c x :: env) -> (match outC c (inC c x) with | some y => apC False cs (curC (c :: cs) p y) env | none => False)
   rw [ywX]
   exact this
variable (P C R) in
def Kq (rg : List (Nat × TV K)) (Q : AEx -> TS K -> Prop) (e : AEx) (ks : KS) : Prop := KOk ks /\ ∃ ts χ, GM P C R ts χ (ofK ks) /\ ExtR rg ts.rg /\ Q e ts
theorem Kq.mono {rg rg' : List (Nat × TV K)} {Q : AEx → TS K → Prop} {e : AEx} {ks : KS} (h : Kq P C R rg Q e ks) (hx : ExtR rg' rg) : Kq P C R rg' Q e ks := by
 obtain ⟨a, ts, χ, b, c, d⟩ := h
 exact ⟨a, ts, χ, b, hx.trans c, d⟩
theorem ywJ (C : Cx K) (ts : TS K) (s : Nat) : (fz C ts s).rg = ts.rg := by unfold fz; split <;> rfl
theorem fz_h (C : Cx K) (ts : TS K) (s : Nat) : (fz C ts s).h = ts.h := by unfold fz; split <;> rfl
theorem ExtR.eq {a b : List (Nat × TV K)} (h : b = a) : ExtR a b := h ▸ .refl
theorem yrN (C : Cx K) : ∀ (n : Nat) (vs : List (TV K)) (ts : TS K), (fzA C n vs ts).rg = ts.rg
 | 0, _, _ => rfl
 | n + 1, vs, ts => by
   simp only [fzA]
   split
   ·rfl
   ·split
    ·rw [ywJ, yrN C n]
    ·rw [ywJ]
theorem yrQ (C : Cx K) (fr : List (Nat × TV K)) : ∀ (l : List (Nat × Kd)) (ts : TS K), (fzT C fr l ts).rg = ts.rg
 | [], _ => rfl
 | (t, k) :: r, ts => by
   cases k with
   | sl e =>
     simp only [fzT]
     rw [yrQ C fr r]
     split
     ·rw [ywJ]
     ·rfl
   | _ => simp only [fzT]; exact yrQ C fr r ts
theorem yu0 (hB : ydc B) (hC : CxOk P C) (f : TS K → List (TV K)) : ∀ (l : List AOpd) (ts : TS K), REk P C R B N ts (l.foldl (fun ts x => fzA C 9 [tea ts.fr x] ts) ts) ∧ (l.foldl (fun ts x => fzA C 9 [tea ts.fr x] ts) ts).rg = ts.rg
 | [], ts => ⟨.refl, rfl⟩
 | x :: l, ts => by
   have _ := (inferInstance : GB P B)
   obtain ⟨a, b⟩ := yu0 hB hC f l (fzA C 9 [tea ts.fr x] ts)
   exact ⟨(yqh hB hC _ _ _).trans a, by rw [ja0, b, yrN]⟩
theorem ywm (hB : ydc B) (hC : CxOk P C) {F : Cf K} (hF : F.C = C) {o : AO} : (frzA F o ts = ts ∨ REt P C R B N ts (frzA F o ts)) ∧ (frzA F o ts).rg = ts.rg := by
 have go : ∀ (args : List AOpd), REt P C R B N ts (args.foldl (fun ts x => fzA F.C 9 [tea ts.fr x] ts) (er ts)) ∧ (args.foldl (fun ts x => fzA F.C 9 [tea ts.fr x] ts) (er ts)).rg = ts.rg := by
  intro args
  rw [hF]
  obtain ⟨a, b⟩ := yu0 (N := N) hB hC (fun _ => []) args (er ts)
  exact ⟨(yv4 hB hC).thenk a, b⟩
 unfold frzA frzs
 split
 ·exact ⟨.inl rfl, rfl⟩
 ·exact ⟨.inr (go _).1, (go _).2⟩
section
variable {L : List AO} {i : Nat}
theorem yyo (hB : ydc B) {Q : KS → Prop} (h : REt P C R B N ts ts1) (hk : DOk ds) (hγ : GM P C R ts χ ds) (k : ∀ ks ξ, KOk ks → GM P C R ts1 ξ (ofK ks) → WD P B N ro L i Q (ofK ks)) : WD P B N ro L i Q ds :=
 yyb fun _ => (h χ ds hk hγ).mono fun ks ⟨h1, ξ, h2⟩ => k ks ξ h1 h2
theorem yyn {Q : KS → Prop} (e : L.drop i = []) (h : DOk ds → RE B N (toD ds) Q) : WD P B N ro L i Q ds := by
 have _ := (inferInstance : GB P B)
 intro ops pre suf he ht a G hR
 rw [e] at ht
 cases suf with
 | cons x suf =>
   simp only [yhh] at ht
   split at ht <;> cases ht
 | nil =>
   obtain ⟨ks1, G1, h1, h2, h3⟩ := h hR.2 a G hR.1
   simp only [jbb, List.range'_zero, wpOpsIn]
   rw [<- h1]
   exact ⟨ks1, G1, h2, rfl, h3⟩
theorem yl4 {g : Option (Nat × Bool)} {fr : List (Nat × AV)} {d : Nat} {b : Bool} (e : g = some (d, b)) (h : lkF fr d = .bl b) : gok g fr = true := by
 subst e; simp only [gok, h]; cases b <;> rfl
theorem yl7 {g : Option (Nat × Bool)} {fr : List (Nat × AV)} {d : Nat} {b c : Bool} (e : g = some (d, b)) (h : lkF fr d = .bl c) (hn : c ≠ b) : gno g fr = true := by
 subst e; simp only [gno, h]; cases b <;> cases c <;> first | rfl | exact absurd rfl hn
variable (P C R B N ro) in
def YOk (rY : Nat) (Y : Option (Nat × (Nat → Option (Nat × Bool) → AOpd → List AOpd → TS K → (Bool → TS K → Prop) → Prop))) : Prop := ∀ y, Y = some y → ∀ (L : List AO) (i : Nat) (o : AO) (x : AOpd) (args : List AOpd) (ts : TS K) (χ : Nat → Nat → Bool) (ds : DS) (X : Bool → TS K → Prop) (Q : KS → Prop),
 L[i]? = some o -> gok o.guard ds.fr = true -> o.op = .calv x args -> GM P C R ts χ ds -> DOk ds -> lkR ts.rg y.1 = some (.yl rY) -> y.2 N o.guard x args ts X ->
 (∀ b ts' χ' ks', GM P C R ts' χ' (ofK ks') -> KOk ks' -> ExtR ts.rg ts'.rg -> X b ts' -> WD P B N ro L (i + 1) Q ((ofK ks').put o.dst (.bl b))) -> WD P B N ro L i Q ds
theorem ywH (hB : ydc B) (hC : CxOk P C) {F : Cf K} (hF : F.C = C) (hS : SsOk P C F.S) (hL : SLOk P C F.L) (hN : F.N = N) {rY : Nat} (hY : YOk P C R B N ro rY F.Y) {o : AO} {X : TS K → Prop} {Q : KS → Prop} (e0 : L[i]? = some o) (hγ : GM P C R ts χ ds) (hk : DOk ds) (hg : gok o.guard ds.fr = true) (hYI : ∀ y, F.Y = some y → lkR ts.rg y.1 = some (.yl rY)) (h : step F false o ts X)
  (k : ∀ ts' χ' ds', GM P C R ts' χ' ds' -> DOk ds' -> X ts' -> ExtR ts.rg ts'.rg -> WD P B N ro L (i + 1) Q ds') : WD P B N ro L i Q ds := by
 have calls : ∀ {f : FuncId} {us : List (TV K)} {vs : List AV}, TL P C ts χ us vs → CalO o ds f vs → yti F.C F.S ts o.dst f us X → WD P B N ro L i Q ds := by
  intro f us vs ht ho h
  rw [hF] at h
  obtain ⟨vs', kl, d1, v, ts', χ', c1, c2, c3, c4, c5, _, _⟩ := ymW hC hS hγ hk ht ho h
  exact yqs e0 hg c1 (k ts' χ' _ c2 c3.put c4 (.eq c5))
 have callL : ∀ {f : FuncId} {us : List (TV K)} {vs : List AV} {sp : Sl K} {env : List (DV K)} {M : RM}, TL P C ts χ us vs → CalO o ds f vs → yjD F.C ts f us F.L = some (sp, env, M) → yjM F.C F.S false ts o.dst sp env M us X → WD P B N ro L i Q ds := by
  intro f us vs sp env M ht ho hp h
  rw [hF] at h hp
  exact yuU hC hS hL e0 hg hγ ht ho hp h fun a b c d e f g => k a b c d e f (.eq g)
 have rest : ypl o.op = true → step F true o ts X → WD P B N ro L i Q ds := by
  intro hn h
  obtain ⟨e, ds', ts', χ', h1, h2, h3, h4, h5, h6⟩ := yqM hC hγ hk hF hn h
  have hc : isMC o.op = false := by cases hop : o.op <;> rw [hop] at hn <;> first | rfl | (cases hn; done)
  exact WD_e e0 hg (fun _ => h1) hc (k ts' χ' ds' h4 h1.ok h5 (.eq h6))
 cases ho : o.op with
 | call f args =>
   unfold step at h; rw [ho] at h
   simp only at h
   split at h
   ·rename_i sp env M hp
    exact callL (TL.tea hγ args) (.inl ⟨args, ho, rfl⟩) hp h
   ·exact calls (TL.tea hγ args) (.inl ⟨args, ho, rfl⟩) h
 | calv x args =>
   unfold step at h; rw [ho] at h
   simp only at h
   have hx := hγ.tev x
   split at h
   ·rename_i f a c ex
    rw [ex] at hx
    generalize hv : ev (lkF ds.fr) x = v at hx
    cases hx with
    | fn _ _ _ a' c' ha hc h1 h2 =>
      split at h
      ·rename_i sp env M hp
       exact callL (((show TL P C ts χ a a' from ⟨ha, h1⟩).app (TL.tea hγ args)).app ⟨hc, h2⟩) (.inr ⟨x, args, a', c', ho, hv, rfl⟩) hp h
      ·exact calls (((show TL P C ts χ a a' from ⟨ha, h1⟩).app (TL.tea hγ args)).app ⟨hc, h2⟩) (.inr ⟨x, args, a', c', ho, hv, rfl⟩) h
   ·rename_i ps rs V ex
    rw [ex] at hx
    cases hx with
    | fv _ _ _ _ hV hv =>
      rw [hF] at h
      obtain ⟨f, vs, vs', kl, d1, w, ts', χ', c1, c2, c3, c4, c5, _⟩ := yq2 hC hγ hk hV ho rfl hv (TL.tea hγ args) h
      exact yqs e0 hg c1 (k ts' χ' _ c2 c3.put c4 (.eq c5))
   ·split at h
    ·rename_i id u y _ hu hy
     split at h
     ·rename_i hid
      rw [hN] at h
      refine hY y hy L i o x args ts χ ds _ Q e0 hg ho hγ hk (hYI y hy) h fun b ts' χ' ks' a1 a2 a3 a4 => ?_
      exact k _ χ' _ (a1.put (d := o.dst) (TR.lb b)) (ygz a2).put a4 (by rw [ycj]; exact a3)
     ·exact h.elim
    ·exact h.elim
   ·exact h.elim
 | len x =>
   cases hs : yx4 F.N x with
   | false =>
     refine rest (by rw [ho]; rfl) ?_
     unfold step at h ⊢; rw [ho] at h ⊢
     simp only [hs] at h ⊢
     exact h
   | true =>
     unfold step at h; rw [ho] at h
     simp only [hs, jbN, Bool.or_false] at h
     unfold tlen at h
     split at h
     ·rename_i e l ex
      have hx := hγ.tev x
      rw [ex] at hx
      cases x with
      | c v => cases hs
      | t n =>
        obtain ⟨z, xs, hxs, hv⟩ := hx.sli
        refine yxP (t := n) (by rw [<- hN]; exact jah hs) hv fun hm => ?_
        refine rest (by rw [ho]; rfl) ?_
        unfold step; rw [ho]
        simp only [Bool.true_or]
        unfold tlen
        rw [ex]
        exact h hm
     ·rename_i ex
      refine rest (by rw [ho]; rfl) ?_
      unfold step; rw [ho]; simp only [Bool.true_or]; unfold tlen; rw [ex]; exact h
     ·rename_i ex
      refine rest (by rw [ho]; rfl) ?_
      unfold step; rw [ho]; simp only [Bool.true_or]; unfold tlen; rw [ex]; exact h
     ·rename_i s c ex
      refine rest (by rw [ho]; rfl) ?_
      unfold step; rw [ho]; simp only [Bool.true_or]; unfold tlen; rw [ex]; exact h
     ·exact h.elim
 | eq g kind x y =>
   have other : (match tqv ts (.eq g kind x y) with | some (cs, v) => andL cs (X (ts.put o.dst v)) | none => False) → WD P B N ro L i Q ds := by
    intro h
    refine rest (by rw [ho]; rfl) ?_
    unfold step; rw [ho]; simp only [teqn]; exact h
   unfold step at h; rw [ho] at h
   simp only [teqn] at h
   split at h
   ·exact other h
   ·rename_i hk4
    have hk4 := Nat.eq_of_beq_eq_true hk4
    subst hk4
    have hx := hγ.tev x
    have hy := hγ.tev y
    split at h
    ·rename_i e l ex
     rw [ex] at hx
     split at h
     ·rename_i ey
      rw [ey] at hy
      obtain ⟨z, xs, hxs, hv⟩ := hx.sli
      generalize hw : ev (lkF ds.fr) y = w at hy
      cases hy
      refine yzf e0 hg ho hv hw fun b hb => ?_
      exact k _ χ _ (hγ.put (TR.bl _)) hk.put (h b fun q => ja2.1 (hb q)) (.eq (ycj _ _ _))
     ·exact other h
    ·exact other h
 | _ =>
   refine rest (by rw [ho]; rfl) ?_
   unfold step at h ⊢; rw [ho] at h ⊢; exact h
theorem ytc (hB : ydc B) (hC : CxOk P C) {F : Cf K} (hF : F.C = C) (hS : SsOk P C F.S) (hL : SLOk P C F.L) (hN : F.N = N) {rY : Nat} (hY : YOk P C R B N ro rY F.Y) {X : TS K → Prop} {Q : KS → Prop} : ∀ (L' : List AO) (i : Nat) (ts : TS K) (χ : Nat → Nat → Bool) (ds : DS), L.drop i = L' → GM P C R ts χ ds → DOk ds → (∀ y, F.Y = some y → lkR ts.rg y.1 = some (.yl rY)) → tops F L' ts X →
  (∀ ts' χ' ds', GM P C R ts' χ' ds' -> DOk ds' -> X ts' -> ExtR ts.rg ts'.rg -> RE B N (toD ds') Q) -> WD P B N ro L i Q ds
 | [], i, ts, χ, ds, e, hγ, hk, _, h, fin => yyn e fun _ => fin ts χ ds hγ hk h .refl
 | o :: r, i, ts, χ, ds, e, hγ, hk, hYI, h, fin => by
   have e0 : L[i]? = some o := by
    have := congrArg (·[0]?) e
    simpa using this
   have e1 : L.drop (i + 1) = r := by rw [<- jbu, e]; rfl
   have next : ∀ {ts ts2 : TS K} {χ2 : Nat → Nat → Bool} {ds2 : DS}, (∀ ts' χ' ds', GM P C R ts' χ' ds' → DOk ds' → X ts' → ExtR ts.rg ts'.rg → RE B N (toD ds') Q) → (∀ y, F.Y = some y → lkR ts.rg y.1 = some (.yl rY)) → GM P C R ts2 χ2 ds2 → DOk ds2 → tops F r ts2 X → ExtR ts.rg ts2.rg → WD P B N ro L (i + 1) Q ds2 := by
    intro ts ts2 χ2 ds2 fin hYI a b c d
    exact ytc hB hC hF hS hL hN hY r (i + 1) ts2 χ2 ds2 e1 a b (fun y e => d _ _ (hYI y e)) c fun ts3 χ3 ds3 p q s t => fin ts3 χ3 ds3 p q s (d.trans t)
   have main : ∀ {ts : TS K} {χ : Nat → Nat → Bool} {ds : DS}, GM P C R ts χ ds → DOk ds → (∀ y, F.Y = some y → lkR ts.rg y.1 = some (.yl rY)) → topg F o (fun t => tops F r t X) ts → (∀ ts' χ' ds', GM P C R ts' χ' ds' → DOk ds' → X ts' → ExtR ts.rg ts'.rg → RE B N (toD ds') Q) → WD P B N ro L i Q ds := by
    intro ts χ ds hγ hk hYI h fin
    have run : ∀ {ts0 : TS K} {ds0 : DS}, GM P C R ts0 χ ds0 → DOk ds0 → ts0.rg = ts.rg → gok o.guard ds0.fr = true → step F false o ts0 (fun t => tops F r t X) → WD P B N ro L i Q ds0 := by
     intro ts0 ds0 hγ0 hk0 hr hg hst
     exact ywH hB hC hF hS hL hN hY e0 hγ0 hk0 hg (by rw [hr]; exact hYI) hst fun ts2 χ2 ds2 a b c d => next fin hYI a b c ((ExtR.eq hr).trans d)
    have skip : ∀ {ts0 : TS K} {ds0 : DS}, GM P C R ts0 χ ds0 → DOk ds0 → ts0.rg = ts.rg → gno o.guard ds0.fr = true → tops F r (ts0.put o.dst (.tup [])) X → WD P B N ro L i Q ds0 := by
     intro ts0 ds0 hγ0 hk0 hr hg hst
     exact yyT e0 hg (next fin hYI (hγ0.put (.tup [] [] rfl (fun j u v h => by simp at h))) hk0.put hst (.eq ((ycj _ _ _).trans hr)))
    unfold topg tgd at h
    split at h
    ·rename_i hg
     exact run hγ hk rfl (by rw [hg]; rfl) h
    ·rename_i d b hg
     have hd := (hγ.fr d).s
     split at h
     ·rename_i c hc
      rw [hc] at hd
      have hv := hd.lbi
      split at h
      ·rename_i hcb
       have : c = b := by cases c <;> cases b <;> first | rfl | cases hcb
       subst this
       exact run hγ hk rfl (yl4 hg hv) h
      ·rename_i hcb
       exact skip hγ hk rfl (yl7 hg hv (by intro q; subst q; cases c <;> cases hcb)) h
     ·rename_i c hc
      rw [hc] at hd
      have hv := hd.bli
      obtain ⟨h1, h2⟩ := h
      refine ywz hv (fun hb => ?_) (fun hb => ?_)
      ·have hh := h1 hb
       have g1 := hγ.put (d := some d) (TR.lb (P := P) (C := C) (ts := ts) (χ := χ) true)
       have v1 : lkF (ds.put (some d) (.bl true)).fr d = .bl true := by show lkF ((d, .bl true) :: ds.fr) d = _; rw [ybe]; simp
       cases b with
       | true => exact run g1 hk.put (ycj _ _ _) (yl4 hg v1) hh
       | false => exact skip g1 hk.put (ycj _ _ _) (yl7 hg v1 (by simp)) hh
      ·have hh := h2 hb
       have g1 := hγ.put (d := some d) (TR.lb (P := P) (C := C) (ts := ts) (χ := χ) false)
       have v1 : lkF (ds.put (some d) (.bl false)).fr d = .bl false := by show lkF ((d, .bl false) :: ds.fr) d = _; rw [ybe]; simp
       cases b with
       | true => exact skip g1 hk.put (ycj _ _ _) (yl7 hg v1 (by simp)) hh
       | false => exact run g1 hk.put (ycj _ _ _) (yl4 hg v1) hh
     ·rename_i hc
      rw [hc] at hd
      obtain ⟨vs, hv, hl, _⟩ := hd.tup'
      have : vs = [] := jal hl
      subst this
      exact skip hγ hk rfl (by rw [hg]; simp only [gno, hv]) h
     ·exact h.elim
   obtain ⟨hfr, hrg⟩ := ywm (N := N) (ts := ts) hB hC hF (o := o)
   rcases hfr with hq | hq
   ·rw [tops, hq] at h; exact main hγ hk hYI h fin
   ·rw [tops] at h
    exact yyo hB hq hk hγ fun ks ξ a b => main b (ygz a) (by rw [hrg]; exact hYI) h fun ts' χ' ds' p q s t => fin ts' χ' ds' p q s (by rw [<- hrg]; exact t)
end
section
structure LeF (f : Foot) (t : TFt) : Prop where
 rk : ∀ k ∈ f.rk, (∃ o, k = .h o) ∨ ∃ q ∈ t.rk, k = .l q.1 q.2
 wk : ∀ q ∈ f.wk, q ∈ t.wk
 wh : f.wh = false
 bs : ∀ s ∈ f.bs, (s, 2) ∈ t.wk
theorem ykc : ∀ {l : List (Nat × Nat)} {q : Nat × Nat}, q ∈ l → memQ l q = true
 | p :: r, q, h => by
   show ((Nat.beq p.1 q.1 && Nat.beq p.2 q.2) || memQ r q) = true
   rcases jaq.1 h with rfl | h
   ·rw [nbeq.2 rfl, nbeq.2 rfl]; rfl
   ·rw [ykc h, Bool.or_true]
theorem yyx {a b : Foot} {s t : TFt} (ha : LeF a s) (hb : LeF b t) (h : okT s t = true) : okF a b := by
 simp only [okT, jab, jaD, jaT] at h
 obtain ⟨h1, h2⟩ := h
 have nk : ∀ {q : Nat × Nat} {k : Key} {l : List (Nat × Nat)}, memQ l q = false → ((∃ o, k = .h o) ∨ ∃ r ∈ l, k = .l r.1 r.2) → Key.l q.1 q.2 ≠ k := by
  rintro q k l hq (⟨o, rfl⟩ | ⟨r, hr, rfl⟩) e
  ·cases e
  ·simp only [Key.l.injEq] at e
   have : q = r := jbm e.1 e.2
   subst this
   rw [ykc hr] at hq; cases hq
 refine ⟨ybR.2 fun q hq => ⟨ybR.2 fun k hk => nk (h1 q (ha.wk q hq)).1 (hb.rk k hk), ybR.2 fun r hr e => ?_⟩, ybR.2 fun q hq => ybR.2 fun k hk => nk (h2 q (hb.wk q hq)) (ha.rk k hk), fun e => (by rw [ha.wh] at e; cases e), fun e => (by rw [hb.wh] at e; cases e), ybR.2 fun q hq => ybR.2 fun r hr e => ?_⟩
 ·subst e
  have := (h1 q (ha.wk q hq)).2
  rw [ykc (hb.wk q hr)] at this; cases this
 ·subst e
  have := (h1 (q, 2) (ha.bs q hq)).2
  rw [ykc (hb.bs q hr)] at this; cases this
def LeA (acc : List Foot) (tacc : List TFt) : Prop := acc.length = tacc.length /\ ∀ (j : Nat) (f : Foot) (t : TFt), acc[j]? = some f -> tacc[j]? = some t -> LeF f t
theorem LeA.snoc {acc : List Foot} {tacc : List TFt} {f : Foot} {t : TFt} (h : LeA acc tacc) (k : LeF f t) : LeA (acc ++ [f]) (tacc ++ [t]) := by
 refine ⟨by simp [h.1], fun j g s a b => ?_⟩
 by_cases hj : j < acc.length
 ·rw [jan hj] at a
  rw [jan (by rw [<- h.1]; exact hj)] at b
  exact h.2 j g s a b
 ·rw [jam (by omega)] at a
  rw [jam (by rw [<- h.1]; omega), <- h.1] at b
  cases hq : j - acc.length with
  | zero => rw [hq] at a b; simp at a b; subst a; subst b; exact k
  | succ m => rw [hq] at a; simp at a
theorem ymr {f : Foot} {t : TFt} {acc : List Foot} {tacc : List TFt} (hf : LeF f t) (ha : LeA acc tacc) : ∀ (fre : List Nat), okTs t tacc fre = true → yjp f acc fre
 | [], _ => trivial
 | j :: r, h => by
   simp only [okTs, jab] at h
   refine ⟨?_, ymr hf ha r h.2⟩
   show wpo acc[j]? (okF f)
   cases hj : acc[j]? with
   | none => trivial
   | some g =>
     have hlt : j < tacc.length := by rw [<- ha.1]; exact (jae.1 hj).1
     have ht : tacc[j]? = some tacc[j] := jad hlt
     rw [ht] at h
     exact yyx hf (ha.2 j g _ hj ht) h.1
def LeK (l : List Key) (t : List (Nat × Nat)) : Prop := ∀ k ∈ l, (∃ o, k = .h o) ∨ ∃ q ∈ t, k = .l q.1 q.2
theorem LeK.app {a b : List Key} {s t : List (Nat × Nat)} (h : LeK a s) (k : LeK b t) : LeK (a ++ b) (s ++ t) := by
 intro x hx
 rcases jar.1 hx with hx | hx
 ·rcases h x hx with q | ⟨r, hr, e⟩
  ·exact .inl q
  ·exact .inr ⟨r, jas _ hr, e⟩
 ·rcases k x hx with q | ⟨r, hr, e⟩
  ·exact .inl q
  ·exact .inr ⟨r, jax _ hr, e⟩
theorem LeK.nil {t : List (Nat × Nat)} : LeK [] t := fun k h => by cases h
theorem TR.hascn {u : TV K} {v : AV} (h : TR P C ts χ u v) : ∀ id w, u.s ≠ .cn id w := by
 intro id w e
 cases h with
 | cn id' u v h hn hv => simp only [TV.s] at e; rw [e] at hn; cases hn
 | _ => cases e
theorem ym8 {v : AV} (h : v.noL = true) : LeK (ybt v) [] ∧ LeK (key1 v) [] := by
 cases v with
 | gs k n => cases k with
   | h o => exact ⟨fun k hk => by simp [ybt] at hk; exact .inl ⟨o, hk⟩, fun k hk => by simp [key1] at hk; exact .inl ⟨o, hk⟩⟩
   | l d c => cases h
 | pt k n => cases k with
   | h o => exact ⟨fun k hk => by simp [ybt] at hk; exact .inl ⟨o, hk⟩, fun k hk => by simp [key1] at hk; exact .inl ⟨o, hk⟩⟩
   | l d c => cases h
 | agg cs =>
   refine ⟨fun k hk => ?_, .nil⟩
   simp only [ybt, jby] at hk
   obtain ⟨x, hx, hk⟩ := hk
   have hn : x.noL = true := yhD.1 (show noLs cs = true from h) x hx
   cases x with
   | gs q n => cases q with
     | h o => simp [key1] at hk; exact .inl ⟨o, hk⟩
     | l d c => cases hn
   | pt q n => cases q with
     | h o => simp [key1] at hk; exact .inl ⟨o, hk⟩
     | l d c => cases hn
   | _ => simp [key1] at hk
 | _ => exact ⟨.nil, .nil⟩
theorem ytL {u : TV K} {v : AV} {l : List (Nat × Nat)} (h : TR P C ts χ u v) (hl : tky1 ts u = some l) : LeK (key1 v) l ∧ ((∀ vs, v ≠ .agg vs) → LeK (ybt v) l) := by
 have hs := h.s
 have hc := h.hascn
 unfold tky1 at hl
 revert hs hc hl
 generalize u.s = w
 intro hl hs hc
 have no : ∀ {v : AV} {l : List (Nat × Nat)}, v.noL = true → LeK (key1 v) l ∧ ((∀ vs, v ≠ .agg vs) → LeK (ybt v) l) := by
  intro v l hv
  obtain ⟨a, b⟩ := ym8 hv
  have up : ∀ {x : List Key}, LeK x [] -> LeK x l := fun hx k hk => (hx k hk).imp id (fun ⟨q, hq, _⟩ => by cases hq)
  exact ⟨up b, fun _ => up a⟩
 cases hs with
 | un v => cases hl
 | lb b => exact no rfl
 | bl b => exact no rfl
 | li k n => exact no rfl
 | it k n => exact no rfl
 | st s => exact no rfl
 | agg us vs _ _ => exact ⟨.nil, fun hn => absurd rfl (hn vs)⟩
 | tup us vs _ _ => exact ⟨.nil, fun _ => .nil⟩
 | nil => exact no rfl
 | em z => exact no rfl
 | sl e l z n xs hn hx => exact no rfl
 | rwd s c v hr hn ho => simp only [hn] at hl; cases hl
 | rw s c n hr hn hx =>
   simp only [hn, jaa] at hl; subst hl
   exact ⟨fun k hk => by simp [key1] at hk; exact .inr ⟨_, jaJ.2 rfl, hk⟩, fun _ k hk => by simp [ybt] at hk; exact .inr ⟨_, jaJ.2 rfl, hk⟩⟩
 | rwn s c hr h hx => exact no rfl
 | px s c off hr =>
   cases hl
   exact ⟨fun k hk => by simp [key1] at hk; exact .inr ⟨_, jaJ.2 rfl, hk⟩, fun _ k hk => by simp [ybt] at hk; exact .inr ⟨_, jaJ.2 rfl, hk⟩⟩
 | pr e s c i of hr hx =>
   cases hl
   exact ⟨fun k hk => by simp [key1] at hk; exact .inr ⟨_, jaJ.2 rfl, hk⟩, fun _ k hk => by simp [ybt] at hk; exact .inr ⟨_, jaJ.2 rfl, hk⟩⟩
 | ep e l i of xs hx => exact no rfl
 | gs l i xs hx => exact no rfl
 | nptr => exact no rfl
 | fn f a c a' c' _ _ _ _ => exact ⟨.nil, fun _ => .nil⟩
 | fv ps rs F v h hv => exact no (by rw [<- yge, hv]; exact h.1)
 | yl r => exact no rfl
 | cn id u v h hn hv => exact absurd rfl (hc id u)
theorem yii {f : TV K → Option (List (Nat × Nat))} {g : AV → List Key} (hf : ∀ u v l, TR P C ts χ u v → f u = some l → LeK (g v) l) : ∀ (us : List (TV K)) (vs : List AV) (l : List (Nat × Nat)), TL P C ts χ us vs → tkys ts f us = some l → LeK (vs.flatMap g) l
 | [], vs, l, t, h => by
   have : vs = [] := jal t.1
   subst this; exact .nil
 | u :: us, vs, l, t, h => by
   cases vs with
   | nil => simp [TL] at t
   | cons v vs =>
     simp only [tkys] at h
     split at h
     ·rename_i a b h1 h2
      cases h
      rw [jbF]
      exact (hf u v a t.head.1 h1).app (yii hf us vs b t.head.2 h2)
     ·cases h
theorem ynz {u : TV K} {v : AV} {l : List (Nat × Nat)} (h : TR P C ts χ u v) (hl : tky ts u = some l) : LeK (ybt v) l := by
 unfold tky at hl
 split at hl
 ·rename_i cs e
  have hs := h.s
  rw [e] at hs
  obtain ⟨vs, rfl, a, b⟩ := hs.agg'
  exact yii (g := key1) (fun u v l h hl => (ytL h hl).1) cs vs l ⟨a, b⟩ hl
 ·rename_i hne
  refine (ytL h hl).2 ?_
  rintro vs rfl
  have hs := h.s
  have hc := h.hascn
  have hdead : u.s ≠ .un := by
   intro e; unfold tky1 at hl; rw [e] at hl; cases hl
  revert hs hc hne hdead
  generalize u.s = w
  intro hne hs hc hdead
  cases hs with
  | un v => exact hdead rfl
  | agg us vs _ _ => exact hne _ rfl
  | rwd s c v hr h ho => cases ho
  | fv ps rs F v h hv => obtain ⟨_, _, h1, _⟩ := h; rw [<- hv] at h1; cases h1
  | cn id u v h hn hv => exact hc _ _ rfl
theorem ytv {u : AOp} (hγ : GM P C R ts χ ds) {l : List (Nat × Nat)} (h : tkys ts (tky ts) ((opds u).map (tea ts.fr)) = some l) : LeK ((opds u).flatMap fun x => ybt (ev (lkF ds.fr) x)) l := by
 have := yii (g := ybt) (fun u v l h hl => ynz h hl) _ _ l (TL.tea hγ (opds u)) h
 rw [jbg] at this
 exact this
theorem LeF.skip : LeF ygf ⟨[], []⟩ := ⟨fun k h => (by cases h), fun q h => (by cases h), rfl, fun s h => (by cases h)⟩
variable {LD : List (AO × List Nat)} {QD : St -> Prop} {i : Nat} {acc : List Foot}
theorem yuy {o : AO} {fre : List Nat} {f : FuncId} {vs vs' : List AV} {kl : List (Nat × Nat)} {d1 : DS} {v : AV} (e0 : LD[i]? = some (o, fre)) (hg : gok o.guard ds.fr = true) (hc : ytx P o ds f vs vs' kl d1 v)
  (hf : yjp (ycF o.op (toD ds) ⟨v, kl.map (fun k => (k, none)), [], none⟩) acc fre) (k : DD P LD (i + 1) (acc ++ [ycF o.op (toD ds) ⟨v, kl.map (fun k => (k, none)), [], none⟩]) QD (d1.put o.dst v)) : DD P LD i acc QD ds := by
 refine yrL e0 hg fun hk => ?_
 have hmst : REff.mst ⟨v, kl.map (fun k => (k, none)), [], none⟩ (toD ds) = toD d1 ∧ ykG P (.f f) vs (toD ds) ⟨v, kl.map (fun k => (k, none)), [], none⟩ ∧ DOk d1 := by
  rcases hc.way with hw | ⟨rfl, rfl, rfl, hfl⟩
  ·obtain ⟨a1, a2, a3, _⟩ := yke vs ds vs' kl d1 hk hw
   have hmst : REff.mst ⟨v, kl.map (fun k => (k, none)), [], none⟩ (toD ds) = toD d1 := by
    have h1 : (pubL vs (toD ds)).2 = (toD ds).kills (pkL vs (toD ds)) := yry vs (toD ds)
    rw [a1, a2] at h1
    simp only at h1
    rw [h1]
    unfold REff.mst St.kills REff.cntF
    simp only [St.mk.injEq, yhw, true_and, and_true]
    funext q
    have : ∀ (l : List (Nat × Nat)) (M : Key → Option Blk), List.foldl (fun M (p : Key × Option Blk) => updK M p.1 p.2) M ((l.map fun k => (k, (none : Option Blk))).map fun p => (Key.l p.1.1 p.1.2, p.2)) = l.foldl (fun M k => updK M (.l k.1 k.2) none) M := by
     intro l
     induction l with
     | nil => intro M; rfl
     | cons a l ih => intro M; simp only [jav, ja0]; exact ih _
    show (List.foldl (fun M (p : Key × Option Blk) => updK M p.1 p.2) (toD ds).M ((kl.map fun k => (k, (none : Option Blk))).map fun p => (Key.l p.1.1 p.1.2, p.2))) q = _
    rw [this]
   exact ⟨hmst, .inl ⟨rfl, by rw [a2], yjP a1 hc.nl hc.pure ⟨rfl, hmst.symm⟩⟩, a3⟩
  ·exact ⟨yel v _, .inr (.inl ⟨rfl, f, v, rfl, hc.nl, fun H n => yaV.dwkA (hc.pure H n), hfl, rfl⟩), hk⟩
 obtain ⟨hmst, hE, a3⟩ := hmst
 have fin : ∀ K : REff → Prop, K ⟨v, kl.map (fun k => (k, none)), [], none⟩ → eop (fun _ => false) P o.op o.dst (toD ds) K := by
  intro K hK
  rcases hc.ho with ⟨args, h1, h2⟩ | ⟨x, args, first, cap, h1, h2, h3⟩
  ·rw [h1]; simp only [eop]; rw [ycG, h2]; exact ⟨_, hE, hK⟩
  ·rw [h1]; simp only [eop]; rw [ycG, h2]; simp only; rw [h3]; exact ⟨_, hE, hK⟩
 refine fin _ ⟨hf, ?_⟩
 rw [show REff.app ⟨v, kl.map (fun k => (k, none)), [], none⟩ o.dst (toD ds) = toD (d1.put o.dst v) by unfold REff.app; rw [hmst, ycd]]
 exact k a3.put
theorem yxL {o : AO} {fre : List Nat} {e : REff} {ds' : DS} (e0 : LD[i]? = some (o, fre)) (hg : gok o.guard ds.fr = true) (h : Eff o.op o.dst ds e ds') (hc : isMC o.op = false) (hf : yjp (ycF o.op (toD ds) e) acc fre) (k : DD P LD (i + 1) (acc ++ [ycF o.op (toD ds) e]) QD ds') : DD P LD i acc QD ds := by
 refine yrL e0 hg fun hk => ?_
 obtain ⟨h1, h2, h3⟩ := h
 have hE : ∀ K : REff → Prop, K e → eop (fun _ => false) P o.op o.dst (toD ds) K := by
  intro K hK
  cases hop : o.op <;> rw [hop] at h1 hc <;> first | (cases hc; done) | (simp only [eop]; rw [h1]; exact hK)
 refine hE _ ⟨hf, ?_⟩
 rw [h2]
 exact k h3
theorem yja : ∀ {us : List (TV K)} {q : Nat × Nat}, (∃ u ∈ us, u.s = .rw q.1 q.2) → q ∈ yo0 us
 | [], _, ⟨u, h, _⟩ => by cases h
 | v :: us, q, ⟨u, h, e⟩ => by
   simp only [yo0]
   rcases jaq.1 h with rfl | h
   ·rw [e]; simp
   ·have := yja ⟨u, h, e⟩
    split
    ·exact jag _ this
    ·exact this
theorem yjz {q : Nat × Nat} : ∀ {us : List (TV K)} {l : List (Nat × Nat)}, tkys ts (tky ts) us = some l → (∃ u ∈ us, u.s = .rw q.1 q.2) → q ∈ l
 | [], _, _, ⟨u, h, _⟩ => by cases h
 | v :: us, l, h, ⟨u, hu, e⟩ => by
   simp only [tkys] at h
   split at h
   ·rename_i a b h1 h2
    cases h
    rcases jaq.1 hu with rfl | hu
    ·refine jas _ ?_
     unfold tky at h1
     rw [e] at h1
     simp only at h1
     unfold tky1 at h1
     rw [e] at h1
     simp only at h1
     split at h1
     ·cases h1; simp
     ·cases h1
    ·exact jax _ (yjz h2 ⟨u, hu, e⟩)
   ·cases h
theorem ywd (hC : CxOk P C) {F : Cf K} (hF : F.C = C) (hS : SsOk P C F.S) (hL : SLOk P C F.L) {o : AO} {fre : List Nat} {tacc : List TFt} {Rn : List TFt → TS K → Prop} (e0 : LD[i]? = some (o, fre)) (hγ : GM P C R ts χ ds) (hk : DOk ds) (hg : gok o.guard ds.fr = true) (ha : LeA acc tacc) (h : yrc F o fre tacc Rn ts)
  (k : ∀ acc' tacc' ts' χ' ds', LeA acc' tacc' -> GM P C R ts' χ' ds' -> DOk ds' -> Rn tacc' ts' -> ts'.rg = ts.rg -> DD P LD (i + 1) acc' QD ds') : DD P LD i acc QD ds := by
 unfold yrc at h
 split at h
 rotate_left
 ·exact h.elim
 rename_i t ht
 split at h
 rotate_left
 ·exact h.elim
 rename_i hok
 have calls : ∀ {f : FuncId} {vs vs' : List AV} {kl : List (Nat × Nat)} {d1 : DS} {v : AV} {ts' : TS K} {χ' : Nat → Nat → Bool}, ytx P o ds f vs vs' kl d1 v → GM P C R ts' χ' (d1.put o.dst v) → DOk d1 → Rn (tacc ++ [t]) ts' → ts'.rg = ts.rg → LeK (rkOf o.op (toD ds)) t.rk → (∀ q ∈ kl, q ∈ t.wk) → (∀ q ∈ kl, q ∈ t.rk) → DD P LD i acc QD ds := by
  intro f vs vs' kl d1 v ts' χ' c1 c2 c3 c4 c5 hrk hwk hwr
  have hle : LeF (ycF o.op (toD ds) ⟨v, kl.map (fun k => (k, none)), [], none⟩) t := by
   refine ⟨fun k hk' => ?_, fun q hq => hwk q ?_, rfl, fun s hs => by cases hs⟩
   ·rcases jar.1 hk' with hq | hq
    ·exact hrk k hq
    ·have hic : yjJ o.op = true := by rcases c1.ho with ⟨args, h1, _⟩ | ⟨x, args, first, cap, h1, _⟩ <;> rw [h1] <;> rfl
     rw [hic] at hq
     obtain ⟨p, hp, rfl⟩ := jaf.1 hq
     obtain ⟨q, hq', rfl⟩ := jaf.1 hp
     exact .inr ⟨q, hwr q hq', rfl⟩
   have hq' : q ∈ (kl.map fun k => (k, (none : Option Blk))).map (·.1) := hq
   simpa using hq'
  exact yuy e0 hg c1 (ymr hle ha fre hok) (k _ _ ts' χ' _ (ha.snoc hle) c2 c3.put c4 c5)
 have callL : ∀ {f : FuncId} {us : List (TV K)} {vs : List AV} {sp : Sl K} {env : List (DV K)} {M : RM} {l : List (Nat × Nat)}, TL P C ts χ us vs → CalO o ds f vs → yjD C ts f us F.L = some (sp, env, M) → yjM C F.S true ts o.dst sp env M us (Rn (tacc ++ [t])) → LeK (rkOf o.op (toD ds)) l → t = ⟨l ++ plcs sp o.dst M, plcs sp o.dst M⟩ → DD P LD i acc QD ds := by
  intro f us vs sp env M l ht ho hp h hrk het
  refine yue hC hS hL e0 hg hγ hk ht ho hp h fun e ts' χ' ds' a1 a2 a3 a4 a5 a6 a7 => ?_
  have hle : LeF (ycF o.op (toD ds) e) t := by
   rw [het]
   refine ⟨fun k hk' => ?_, fun q hq => a1 q hq, by show e.H.isSome = false; rw [a2]; rfl, fun s hs => a3 s hs⟩
   rcases jar.1 hk' with hq | hq
   ·rcases hrk k hq with r | ⟨r, hr, e⟩
    ·exact .inl r
    ·exact .inr ⟨r, jas _ hr, e⟩
   ·have hic : yjJ o.op = true := by rcases ho with ⟨args, h1, _⟩ | ⟨x, args, first, cap, h1, _⟩ <;> rw [h1] <;> rfl
    rw [hic] at hq
    obtain ⟨p, hp, rfl⟩ := jaf.1 hq
    exact .inr ⟨p.1, jax _ (a1 p.1 (jao (f := (·.1)) hp)), rfl⟩
  exact ⟨ymr hle ha fre hok, k _ _ ts' χ' ds' (ha.snoc hle) a4 a5 a6 a7⟩
 have rest : ypl o.op = true → DD P LD i acc QD ds := by
  intro hn
  obtain ⟨e, ds', ts', χ', h1, h2, h3, h4, h5, h6⟩ := yqM hC hγ hk hF hn h
  have hc : isMC o.op = false := by cases hop : o.op <;> rw [hop] at hn <;> first | rfl | (cases hn; done)
  have hle : LeF (ycF o.op (toD ds) e) t := by
   by_cases hmv : ∃ x, o.op = .mv x
   ·obtain ⟨x, hop⟩ := hmv
    unfold tft at ht
    rw [hop] at ht
    cases ht
    have hE : effA (fun _ => false) o.op o.dst (toD ds) = some e := h1.1
    rw [hop] at hE
    simp only [effA, pval, effP, jaw, jaa] at hE
    subst hE
    rw [hop]
    exact ⟨fun k h => (by cases h), fun q h => (by cases h), rfl, fun s h => (by cases h)⟩
   have ht' : ∃ l, tkys ts (tky ts) ((opds o.op).map (tea ts.fr)) = some l ∧ t = ⟨l, twk' ts o⟩ := by
    unfold tft at ht
    cases hop : o.op <;> rw [hop] at ht hn <;> first | (cases hn; done) | skip
    case mv x => exact absurd ⟨x, hop⟩ hmv
    all_goals
     simp only at ht
     split at ht
     ·rename_i l hl; cases ht; exact ⟨l, hl, rfl⟩
     ·cases ht
   obtain ⟨l, hl, rfl⟩ := ht'
   have hrk := ytv hγ hl
   have hnc : yjJ o.op = false := by cases hop : o.op <;> rw [hop] at hn <;> first | rfl | (cases hn; done)
   refine ⟨?_, fun q hq => ?_, by show e.H.isSome = false; rw [h3]; rfl, fun s hs => ?_⟩
   rotate_right
   ·have hE : effA (fun _ => false) o.op o.dst (toD ds) = some e := by cases hop : o.op <;> rw [hop] at hn <;> first | (cases hn; done) | (rw [← hop]; exact h1.1)
    obtain ⟨al, rfl⟩ := yus hE hs
    show _ ∈ twk' ts o
    unfold twk'
    cases hop : o.op <;> rw [hop] at al hn <;> first | (cases al; done) | (cases hn; done) | simp
   ·show LeK (rkOf o.op (toD ds) ++ _) l
    rw [hnc]
    simp only [jbl]
    have : rkOf o.op (toD ds) = (opds o.op).flatMap fun x => ybt (ev (lkF ds.fr) x) := by
     cases hop : o.op <;> rw [hop] at hn <;> first | rfl | (cases hn; done) | skip
     case mv x => exact absurd ⟨x, hop⟩ hmv
    rw [this]; exact hrk
   ·have hq' : q ∈ e.mem.map (·.1) := hq
    obtain ⟨x, hx, rfl⟩ := jaf.1 hq'
    exact h2 x hx
  exact yxL e0 hg h1 hc (ymr hle ha fre hok) (k _ _ ts' χ' ds' (ha.snoc hle) h4 h1.ok h5 h6)
 cases ho : o.op with
 | call f args =>
   have h0 := h
   unfold step at h; rw [ho] at h
   simp only at h
   unfold tft at ht; rw [ho] at ht
   simp only at ht
   split at ht
   ·rename_i l hl
    split at h
    ·rename_i sp env M hp
     rw [hp] at ht
     cases ht
     rw [hF] at h hp
     have hrk := yii (g := ybt) (fun u v l h hl => ynz h hl) _ _ l (TL.tea hγ args) hl
     rw [jbg] at hrk
     exact callL (TL.tea hγ args) (.inl ⟨args, ho, rfl⟩) hp h (by rw [ho]; exact hrk) rfl
    rename_i hp
    rw [hp] at ht
    rw [hF] at h ht
    cases ht
    obtain ⟨vs', kl, d1, v, ts', χ', c1, c2, c3, c4, c5, c7, c6⟩ := ymW hC hS hγ hk (TL.tea hγ args) (.inl ⟨args, ho, rfl⟩) h
    have hrk := yii (g := ybt) (fun u v l h hl => ynz h hl) _ _ l (TL.tea hγ args) hl
    rw [jbg] at hrk
    refine calls c1 c2 c3 c4 c5 (by rw [ho]; exact hrk) (fun q hq => ?_) ?_
    cases hfl : flS C F.S f with
    | true => rw [c7 hfl] at hq; cases hq
    | false => exact yja (c6 q hq)
    ·exact fun q hq => yjz hl (c6 q hq)
   ·cases ht
 | calv x args =>
   unfold step at h; rw [ho] at h
   simp only at h
   unfold tft at ht; rw [ho] at ht
   simp only at ht
   split at ht
   rotate_left
   ·cases ht
   rename_i ca l hca hl
   have hrk := yii (g := ybt) (fun u v l h hl => ynz h hl) _ _ l (TL.tea hγ args) hl
   rw [jbg] at hrk
   have hx := hγ.tev x
   split at h
   ·rename_i f a c ex
    rw [ex] at hx
    rw [ex] at ht
    simp only at ht
    generalize hv : ev (lkF ds.fr) x = w at hx
    cases hx with
    | fn _ _ _ a' c' ha' hc' h1 h2 =>
      have ta : TL P C ts χ a a' := ⟨ha', h1⟩
      have tc : TL P C ts χ c c' := ⟨hc', h2⟩
      have hrk' : LeK (rkOf o.op (toD ds)) (ca ++ l) := by
       rw [ho]
       show LeK (yrq (ev (lkF ds.fr) x) ++ args.flatMap fun y => ybt (ev (lkF ds.fr) y)) _
       rw [hv]
       refine LeK.app ?_ hrk
       unfold yxm at hca
       have ex' : (tea ts.fr x).s = .fn f a c := ex
       rw [ex'] at hca
       have := yii (g := ybt) (fun u v l h hl => ynz h hl) _ _ ca (ta.app tc) hca
       rw [List.flatMap_append] at this
       exact this
      split at h
      ·rename_i sp env M hp
       rw [hp] at ht
       cases ht
       rw [hF] at h hp
       exact callL ((ta.app (TL.tea hγ args)).app tc) (.inr ⟨x, args, a', c', ho, hv, rfl⟩) hp h hrk' rfl
      rename_i hp
      rw [hp] at ht
      cases ht
      rw [hF] at h
      obtain ⟨vs', kl, d1, v, ts', χ', c1, c2, c3, c4, c5, _, c6⟩ := ymW hC hS hγ hk ((ta.app (TL.tea hγ args)).app tc) (.inr ⟨x, args, a', c', ho, hv, rfl⟩) h
      refine calls c1 c2 c3 c4 c5 hrk' (fun q hq => yja (c6 q hq)) (fun q hq => by
       obtain ⟨u, hu, e⟩ := c6 q hq
       have hca' : tkys ts (tky ts) (a ++ c) = some ca := by
        unfold yxm at hca
        rw [show (tea ts.fr x).s = .fn f a c from ex] at hca
        exact hca
       rcases jar.1 hu with hu | hu
       ·rcases jar.1 hu with hu | hu
        ·exact jas _ (yjz hca' ⟨u, jas _ hu, e⟩)
        ·exact jax _ (yjz hl ⟨u, hu, e⟩)
       ·exact jas _ (yjz hca' ⟨u, jax _ hu, e⟩))
   ·rename_i ps rs V ex
    rw [ex] at hx
    rw [ex] at ht
    cases ht
    generalize hv : ev (lkF ds.fr) x = w at hx
    cases hx with
    | fv _ _ _ _ hV hv' =>
      rw [hF] at h
      obtain ⟨f, vs, vs', kl, d1, v, ts', χ', c1, c2, c3, c4, c5, c6⟩ := yq2 hC hγ hk hV ho hv hv' (TL.tea hγ args) h
      refine calls c1 c2 c3 c4 c5 ?_ (fun q hq => yja (c6 q hq)) (fun q hq => jax _ (yjz hl (c6 q hq)))
      rw [ho]
      show LeK (yrq (ev (lkF ds.fr) x) ++ args.flatMap fun y => ybt (ev (lkF ds.fr) y)) _
      rw [hv]
      refine LeK.app ?_ hrk
      obtain ⟨g1, _, _, f', a, c, g4, _⟩ := hV
      rw [<- hv', yge] at g1
      cases w with
      | fn f0 a0 c0 =>
        simp only [AV.noL, jab] at g1
        intro q hq
        simp only [yrq, jar, jby] at hq
        rcases hq with ⟨y, hy, hq⟩ | ⟨y, hy, hq⟩
        ·rcases (ym8 (yhD.1 g1.1 y hy)).1 q hq with r | ⟨r, hr, _⟩
         ·exact .inl r
         ·cases hr
        ·rcases (ym8 (yhD.1 g1.2 y hy)).1 q hq with r | ⟨r, hr, _⟩
         ·exact .inl r
         ·cases hr
      | _ => exact .nil
   ·exact absurd h (by simp)
   ·exact h.elim
 | _ => exact rest (by rw [ho]; rfl)
theorem yta (hC : CxOk P C) {F : Cf K} (hF : F.C = C) (hS : SsOk P C F.S) (hL : SLOk P C F.L) {X : TS K → Prop} {Q : KS → Prop} : ∀ (L' : List (AO × List Nat)) (i : Nat) (acc : List Foot) (tacc : List TFt) (ts : TS K) (χ : Nat → Nat → Bool) (ds : DS), LD.drop i = L' → LeA acc tacc → GM P C R ts χ ds → DOk ds → tdrw F L' tacc ts X →
  (∀ ts' χ' ds', GM P C R ts' χ' ds' -> DOk ds' -> X ts' -> ExtR ts.rg ts'.rg -> RE B N (toD ds') Q) -> DD P LD i acc (fun S => RE B N S Q) ds
 | [], i, acc, tacc, ts, χ, ds, e, ha, hγ, hk, h, fin => by
   have _ := (inferInstance : GB P B)
   intro _
   rw [e]
   exact fin ts χ ds hγ hk h .refl
 | (o, fre) :: r, i, acc, tacc, ts, χ, ds, e, ha, hγ, hk, h, fin => by
   have e0 : LD[i]? = some (o, fre) := by
    have := congrArg (·[0]?) e
    simpa using this
   have e1 : LD.drop (i + 1) = r := by rw [<- jbu, e]; rfl
   have next : ∀ {ts2 : TS K} {χ2 : Nat → Nat → Bool} {ds2 : DS} {acc2 : List Foot} {tacc2 : List TFt}, LeA acc2 tacc2 → GM P C R ts2 χ2 ds2 → DOk ds2 → tdrw F r tacc2 ts2 X → ts2.rg = ts.rg → DD P LD (i + 1) acc2 (fun S => RE B N S Q) ds2 := by
    intro ts2 χ2 ds2 acc2 tacc2 la a b c d
    exact yta hC hF hS hL r (i + 1) acc2 tacc2 ts2 χ2 ds2 e1 la a b c fun ts3 χ3 ds3 p q s t => fin ts3 χ3 ds3 p q s (by rw [<- d]; exact t)
   have run : ∀ {ts0 : TS K} {ds0 : DS}, GM P C R ts0 χ ds0 → DOk ds0 → ts0.rg = ts.rg → gok o.guard ds0.fr = true → yrc F o fre tacc (fun acc t => tdrw F r acc t X) ts0 → DD P LD i acc (fun S => RE B N S Q) ds0 := by
    intro ts0 ds0 hγ0 hk0 hr hg hst
    exact ywd hC hF hS hL e0 hγ0 hk0 hg ha hst fun acc2 tacc2 ts2 χ2 ds2 la a b c d => next la a b c (d.trans hr)
   have skip : ∀ {ts0 : TS K} {ds0 : DS}, GM P C R ts0 χ ds0 → DOk ds0 → ts0.rg = ts.rg → gno o.guard ds0.fr = true → tdrw F r (tacc ++ [⟨[], []⟩]) (ts0.put o.dst (.tup [])) X → DD P LD i acc (fun S => RE B N S Q) ds0 := by
    intro ts0 ds0 hγ0 hk0 hr hg hst
    exact yx0 e0 hg (next (ha.snoc LeF.skip) (hγ0.put (.tup [] [] rfl (fun j u v h => by simp at h))) hk0.put hst ((ycj _ _ _).trans hr))
   rw [tdrw] at h
   unfold tdg tgd at h
   split at h
   ·rename_i hg
    exact run hγ hk rfl (by rw [hg]; rfl) h
   ·rename_i d b hg
    have hd := (hγ.fr d).s
    split at h
    ·rename_i c hc
     rw [hc] at hd
     have hv := hd.lbi
     split at h
     ·rename_i hcb
      have : c = b := by cases c <;> cases b <;> first | rfl | cases hcb
      subst this
      exact run hγ hk rfl (yl4 hg hv) h
     ·rename_i hcb
      exact skip hγ hk rfl (yl7 hg hv (by intro q; subst q; cases c <;> cases hcb)) h
    ·rename_i c hc
     rw [hc] at hd
     have hv := hd.bli
     obtain ⟨h1, h2⟩ := h
     refine ywC hv (fun hb => ?_) (fun hb => ?_)
     ·have hh := h1 hb
      have g1 := hγ.put (d := some d) (TR.lb (P := P) (C := C) (ts := ts) (χ := χ) true)
      have v1 : lkF (ds.put (some d) (.bl true)).fr d = .bl true := by show lkF ((d, .bl true) :: ds.fr) d = _; rw [ybe]; simp
      cases b with
      | true => exact run g1 hk.put (ycj _ _ _) (yl4 hg v1) hh
      | false => exact skip g1 hk.put (ycj _ _ _) (yl7 hg v1 (by simp)) hh
     ·have hh := h2 hb
      have g1 := hγ.put (d := some d) (TR.lb (P := P) (C := C) (ts := ts) (χ := χ) false)
      have v1 : lkF (ds.put (some d) (.bl false)).fr d = .bl false := by show lkF ((d, .bl false) :: ds.fr) d = _; rw [ybe]; simp
      cases b with
      | true => exact skip g1 hk.put (ycj _ _ _) (yl7 hg v1 (by simp)) hh
      | false => exact run g1 hk.put (ycj _ _ _) (yl4 hg v1) hh
    ·rename_i hc
     rw [hc] at hd
     obtain ⟨vs, hv, hl, _⟩ := hd.tup'
     have : vs = [] := jal hl
     subst this
     exact skip hγ hk rfl (by rw [hg]; simp only [gno, hv]) h
    ·exact h.elim
theorem yw9 (hB : ydc B) (hC : CxOk P C) {F : Cf K} (hF : F.C = C) (L : List (AO × List Nat)) : REk P C R B N ts (frzD F L ts) ∧ (frzD F L ts).rg = ts.rg := by
 have _ := (inferInstance : GB P B)
 unfold frzD
 rw [hF]
 generalize (L.flatMap fun p => (frzO F ts.fr p.1.op).flatMap fun x => match x with | .t n => [srcD L 9 n] | .c _ => []) = l
 induction l generalizing ts with
 | nil => exact ⟨.refl, rfl⟩
 | cons n l ih =>
   obtain ⟨a, b⟩ := ih (ts := fzA C 9 [lkT ts.fr n] ts)
   exact ⟨(yqh hB hC _ _ _).trans a, by rw [ja0, b, yrN]⟩
end
section
theorem yyL {Q : AEx → TS K → Prop} {e : AEx} {rg : List (Nat × TV K)} (hB : ydc B) (hC : CxOk P C) (hγ : GM P C R ts χ ds) (hk : DOk ds) (hx : ExtR rg ts.rg) (h : Q e (er ts)) : RE B N (toD ds) (Kq P C R rg Q e) :=
 have _ := (inferInstance : GB P B)
 (yv4 (N := N) hB hC χ ds hk hγ).mono fun ks ⟨h1, ξ, h2⟩ => ⟨h1, er ts, ξ, h2, hx, h⟩
theorem ywj (C : Cx K) (fr : List (Nat × TV K)) : ∀ (l : List (Nat × Kd)) (ts : TS K), (fzT C fr l ts).h = ts.h
 | [], _ => rfl
 | (t, k) :: r, ts => by
   cases k with
   | sl e =>
     simp only [fzT]
     rw [ywj C fr r]
     split
     ·exact fz_h C ts _
     ·rfl
   | _ => simp only [fzT]; exact ywj C fr r ts
theorem ynJ {hh : List RS} (hR : ∀ H n, R ts.h H n → R hh H n) (hB : ydc B) (hC : CxOk P C) {τ : Tm} {rg : List (Nat × TV K)} {J : List (DV K) → Prop} {ks : KS} (hk : KOk ks) (hγ : GM P C R ts χ (ofK ks)) (hx : ExtR rg ts.rg) (h : rdJ C τ ts J) :
  RE B N (toS ks) fun ks' => ∃ env, J env /\ KOk ks' /\ ∃ ξ, GM P C R (bdT C τ rg hh env) ξ (ofK ks') := by
 have _ := (inferInstance : GB P B)
 unfold rdJ at h
 split at h
 ·rename_i env he
  have h1 := yr0 (R := R) (N := N) hB hC ts.fr τ.ks ts
  have h2 := (yyd (R := R) (N := N) (rg := rg) hB hC (by rw [yrQ]; exact hx) he hh (by rw [ywj]; exact hR)).k
  exact ((h1.trans h2) χ ks hk hγ).mono fun ks' ⟨a, b⟩ => ⟨env, h, a, b⟩
 ·exact h.elim
theorem yv0 {a b : RS} (h : eqRS a b = true) : a = b := by
 cases a <;> cases b <;> first | rfl | (cases h; done) | (rw [nbeq.1 h])
theorem yvC : ∀ {a b : List RS}, eqH a b = true → a = b
 | [], [], _ => rfl
 | [], _ :: _, h => by cases h
 | _ :: _, [], h => by cases h
 | x :: a, y :: b, h => by
   simp only [eqH, jab] at h
   rw [yv0 h.1, yvC h.2]
theorem ytX {C : Cx K} {τ : Tm} {h : List RS} {ts : TS K} {J : List (DV K) → Prop} (q : rdH C τ h ts J) : ts.h = h ∧ rdJ C τ ts J := by
 unfold rdH at q
 split at q
 ·rename_i e; exact ⟨yvC e, q⟩
 ·exact q.elim
theorem yf7 {c : yes} {Q Q' : AEx -> KS -> Prop} {ks : KS} (h : WK P B N ro c Q ks) (hq : ∀ e ks, Q e ks -> Q' e ks) : WK P B N ro c Q' ks := have _ := (inferInstance : GB P B); fun x hx a G hR => wpIn_mono (h x hx a G hR) fun _ _ _ hp => yj3.mono hq hp
theorem yxw (C : Cx K) (τ : Tm) (rg : List (Nat × TV K)) (hh : List RS) (env : List (DV K)) : (bdT C τ rg hh env).rg = rg := rfl
def IOk (P : Program) (I : List (Nat × AFn)) : Prop := ∀ f c, lkI I f = some c -> trF P f = some c
theorem yt3 (τ : Tm) (ts : TS K) : (tagT τ ts).h = ts.h := (ykd τ.bx _).2.2.trans (ynp τ.ks ts).2.2
theorem YOk.none {B : Base} {N : Nat} {ro : Option Nat} {R : RR K} {rY : Nat} : YOk P C R B N ro rY none := fun y h => by cases h
theorem yjb {g : Nat → Option Nat} (hg : injx g) {s t : Nat} (h : g s = some t) : ∀ l : List (Nat × TV K), lkT (reix g l) t = lkT l s
 | [] => rfl
 | p :: r => by
   have ih := yjb hg h r
   show lkT (match g p.1 with | some t => (t, p.2) :: reix g r | none => reix g r) t = lkT ((p.1, p.2) :: r) s
   rw [yca]
   by_cases e : p.1 = s
   ·rw [if_pos e, e, h]; simp only; rw [yca, if_pos rfl]
   ·rw [if_neg e]
    split
    ·rename_i u hu
     rw [yca, if_neg (fun q => e (hg _ _ _ hu (by rw [q]; exact h)))]; exact ih
    ·exact ih
theorem yf8 {g : Nat → Option Nat} {t : Nat} (h : ∀ s, g s ≠ some t) : ∀ l : List (Nat × TV K), lkT (reix g l) t = .un
 | [] => rfl
 | p :: r => by
   show lkT (match g p.1 with | some t => (t, p.2) :: reix g r | none => reix g r) t = _
   split
   ·rename_i u hu
    rw [yca, if_neg (fun q => h p.1 (by rw [hu, q]))]; exact yf8 h r
   ·exact yf8 h r
def memV : List (Nat × TV K) → Nat → Bool
 | [], _ => false
 | p :: r, t => Nat.beq p.1 t || memV r t
theorem ytN (a b : List (Nat × TV K)) (t : Nat) : lkT (a ++ b) t = if memV a t = true then lkT a t else lkT b t := by
 induction a with
 | nil => rfl
 | cons p a ih =>
   have hm : memV (p :: a) t = (Nat.beq p.1 t || memV a t) := rfl
   show lkT ((p.1, p.2) :: (a ++ b)) t = if _ then lkT ((p.1, p.2) :: a) t else _
   rw [yca, yca, ih, hm]
   by_cases e : p.1 = t
   ·rw [if_pos e, if_pos e, nbeq.2 e]; rfl
   ·rw [if_neg e, if_neg e]
    have : Nat.beq p.1 t = false := by
     cases h : Nat.beq p.1 t with
     | false => rfl
     | true => exact absurd (nbeq.1 h) e
    rw [this, jbh]
theorem ykS {g : Nat → Option Nat} {t : Nat} (h : ∀ s, g s ≠ some t) : ∀ l : List (Nat × TV K), memV (reix g l) t = false
 | [] => rfl
 | p :: r => by
   simp only [reix]
   split
   ·rename_i u hu
    have hb : Nat.beq u t = false := by
     cases q : Nat.beq u t with
     | false => rfl
     | true => exact absurd (hu.trans (congrArg some (nbeq.1 q))) (h p.1)
    show (Nat.beq u t || memV (reix g r) t) = false
    rw [hb, ykS h r]; rfl
   ·exact ykS h r
theorem ygX {g : Nat → Option Nat} (hg : injx g) {s t : Nat} (h : g s = some t) : ∀ l : List (Nat × TV K), memV (reix g l) t = false → lkT l s = .un
 | [], _ => rfl
 | p :: r, hm => by
   simp only [reix] at hm
   show lkT ((p.1, p.2) :: r) s = _
   rw [yca]
   by_cases e : p.1 = s
   ·rw [e, h] at hm
    simp [memV, nbeq.2] at hm
   ·rw [if_neg e]
    split at hm
    ·simp only [memV, jba] at hm; exact ygX hg h r hm.2
    ·exact ygX hg h r hm
theorem yr6 : ∀ (us : List (TV K)) (i t : Nat), lkT (zipT us i) t = if i ≤ t then (us[t - i]?).getD .un else .un
 | [], i, t => by simp [zipT, lkT]
 | u :: r, i, t => by
   simp only [zipT]
   rw [yca, yr6 r (i + 1) t]
   by_cases h : i = t
   ·subst h; simp
   ·rw [if_neg h]
    by_cases h2 : i <= t
    ·have h3 : i + 1 ≤ t := by omega
     rw [if_pos h2, if_pos h3, show t - i = (t - (i + 1)) + 1 from by omega, ja9]
    ·have h3 : ¬ i + 1 ≤ t := by omega
     rw [if_neg h2, if_neg h3]
theorem yqv : ∀ (us : List (TV K)) (i t : Nat), memV (zipT us i) t = decide (i ≤ t ∧ t < i + us.length)
 | [], i, t => by simp [zipT, memV]
 | u :: r, i, t => by
   simp only [zipT, memV, yqv r (i + 1) t, jaG]
   by_cases h : i = t
   ·subst h; simp [nbeq.2]
   ·have hb : Nat.beq i t = false := by
     cases q : Nat.beq i t with
     | false => rfl
     | true => exact absurd (nbeq.1 q) h
    rw [hb, jbh]
    simp only [decide_eq_decide]; omega
theorem GM.frame {ks : KS} (h : GM P C R ts χ (ofK ks)) {R' : RR K} {fr' : List (Nat × TV K)} {rg' : List (Nat × TV K)} {h' : List RS} {frk' : List (Nat × AV)} {H' : Hp} {n' : Nat} (hx : ExtR ts.rg rg') (hL : R'.L = R.L)
  (hfr : ∀ t, TR P C ⟨fr', ts.od, ts.nw, rg', h'⟩ χ (lkT fr' t) (lkF frk' t)) (hp : R' h' H' n') : GM P C R' ⟨fr', ts.od, ts.nw, rg', h'⟩ χ (ofK ⟨frk', ks.mem, H', n'⟩) := by
 have hm : Mono ts ⟨fr', ts.od, ts.nw, rg', h'⟩ χ χ := ⟨hx, fun _ _ q => q, fun _ _ _ => .inr ⟨rfl, rfl⟩⟩
 refine ⟨hfr, fun s c b hb hx => ?_, h.vi, h.nw, hp, fun s b q e => by rw [hL]; exact h.lv s b q e⟩
 obtain ⟨kb, h1, h2⟩ := h.mb s c b hb hx
 exact ⟨kb, h1, h2.mono hm⟩
theorem ykY {id r : Nat} {u : TV K} {v : AV} (h : isY id u = true) (ht : TR P C ts χ u v) (hr : lkR ts.rg id = some (.yl r)) : v = .yld r := by
 unfold isY at h
 split at h
 ·rename_i i w
  have := nbeq.1 h; subst this
  cases ht with
  | cn _ _ _ h1 _ h2 => rw [hr] at h1; cases h1; cases h2; rfl
 ·cases h
def lsR : RS → LS
 | .rdy => .ready
 | .busy => .busy
 | .ret => .ret
 | .ex i => .exit i
def RR.push (R : RR K) (r : Nat) (f : LS -> Blk) : RR K := ⟨fun h H n => ∃ st h', h = st :: h' /\ H r = some (f (lsR st)) /\ R.R h' (fun o => if o = r then none else H o) n, R.L⟩
theorem RR.push_out {R : RR K} {r : Nat} {f : LS → Blk} {st : RS} {h : List RS} {H : Hp} {n : Nat} (q : R.push r f (st :: h) H n) : H r = some (f (lsR st)) ∧ R.R h (fun o => if o = r then none else H o) n := by
 obtain ⟨st', h', e, a, b⟩ := q
 cases e; exact ⟨a, b⟩
theorem RR.push_set {R : RR K} {r : Nat} {f : LS → Blk} {st st' : RS} {h : List RS} {H : Hp} {n : Nat} (q : R.push r f (st :: h) H n) : R.push r f (st' :: h) (fun o => if o = r then some (f (lsR st')) else H o) n := by
 refine ⟨st', h, rfl, if_pos rfl, ?_⟩
 have : (fun o => if o = r then none else (if o = r then some (f (lsR st')) else H o)) = fun o => if o = r then none else H o := by
  funext o
  by_cases e : o = r
  ·simp [e]
  ·simp [e]
 rw [this]; exact (RR.push_out q).2
theorem yy7 {g : Option (Nat × Bool)} {ds : DS} (hγ : GM P C R ts χ ds) (h : okG g ts.fr = true) : gok g ds.fr = true := by
 unfold okG at h
 split at h
 ·rfl
 ·rename_i d b
  have hd := (hγ.fr d).s
  split at h
  ·rename_i c e; rw [e] at hd; simp only [gok, hd.bli]; exact h
  ·rename_i c e; rw [e] at hd; simp only [gok, hd.lbi]; exact h
  ·cases h
theorem TL.at2 {us : List (TV K)} {vs : List AV} (t : TL P C ts χ us vs) (j : Nat) : TR P C ts χ ((us[j]?).getD .un) ((vs[j]?).getD .un) := by
 cases hu : us[j]? with
 | none => exact .un _
 | some u =>
   have hj : j < vs.length := by rw [t.1]; exact (jae.1 hu).1
   rw [jad hj]
   exact t.2 j u _ hu (jad hj)
theorem yyK : ∀ (ps : List Nat) (us : List (TV K)) (vs : List AV) (a : List (Nat × TV K)) (b : List (Nat × AV)), TL P C ts χ us vs → (∀ t, TR P C ts χ (lkT a t) (lkF b t)) → ∀ t, TR P C ts χ (lkT ((ps.zip us).foldl (fun l p => p :: l) a) t) (lkF ((ps.zip vs).foldl (fun l p => p :: l) b) t)
 | [], us, vs, a, b, _, h => h
 | p :: ps, [], vs, a, b, t, h => by
   have : vs = [] := jal t.1
   subst this; exact h
 | p :: ps, u :: us, [], a, b, t, h => by simp [TL] at t
 | p :: ps, u :: us, v :: vs, a, b, t, h => by
   simp only [List.zip_cons_cons, ja0]
   refine yyK ps us vs _ _ t.head.2 fun q => ?_
   rw [yca, ybe]
   simp only
   split
   ·exact t.head.1
   ·exact h q
theorem yyD (hC : CxOk P C) : ∀ (A : An K) {B : Base} [GB P B] {N : Nat} {ro : Option Nat} {R : RR K} {F : Cf K} {rY : Nat}, ydc B → F.C = C → SsOk P C F.S → SLOk P C F.L → F.N = N → IOk P F.I → (F.rd = false → ro = none) → (F.I = [] ∨ ∀ h H n m, R h H n → n ≤ m → R h H m) → YOk P C R B N ro rY F.Y →
  ∀ (c : yes) (Q : AEx -> TS K -> Prop) (ts : TS K) (χ : Nat -> Nat -> Bool) (ks : KS), KOk ks -> GM P C R ts χ (ofK ks) -> (∀ y, F.Y = some y -> lkR ts.rg y.1 = some (.yl rY)) -> Dn F A c Q ts -> WK P B N ro c (Kq P C R ts.rg Q) ks := by
 intro A
 induction A with
 | o =>
   intro B _ N ro R F rY hB hF hS hL hN hI hr hRm hY c Q ts χ ks hk hγ hYI h
   have at' : ∀ {e : AEx}, Q e ts -> Kq P C R ts.rg Q e ks := fun h => ⟨hk, ts, χ, hγ, .refl, h⟩
   cases c with
   | skip => exact ywA (at' h)
   | exit id => exact yxk (at' h)
   | ret => exact yy4 (at' h)
   | ops L =>
     refine yyg ?_
     exact ytc (L := L) hB hC hF hS hL hN hY L 0 ts χ (ofK ks) rfl hγ (ygz hk) hYI h fun ts' χ' ds' a b d e => yyL hB hC a b e d
   | drw L =>
     obtain ⟨f1, f2⟩ := yw9 (R := R) (N := N) (ts := ts) hB hC hF L
     refine yt8 fun _ => (f1 χ ks hk hγ).mono fun ks' ⟨hk', ξ, hγ'⟩ => yxG ?_
     exact yta (LD := L) hC hF hS hL L 0 [] [] _ ξ (ofK ks') rfl ⟨rfl, fun j f t h => by simp at h⟩ hγ' (ygz hk') h fun ts' χ' ds' a b d e => yyL hB hC a b (by rw [<- f2]; exact e) d
   | _ => exact h.elim
 | s a b iha ihb =>
   intro B _ N ro R F rY hB hF hS hL hN hI hr hRm hY c Q ts χ ks hk hγ hYI h
   cases c with
   | seq x y =>
     refine yvv (yf7 (iha hB hF hS hL hN hI hr hRm hY x _ ts χ ks hk hγ hYI h) fun e ks' hq => ?_)
     obtain ⟨h1, ts', χ', h2, h3, h4⟩ := hq
     cases e with
     | n => exact yf7 (ihb hB hF hS hL hN hI hr hRm hY y Q ts' χ' ks' h1 h2 (fun y e => h3 _ _ (hYI y e)) h4) fun e ks2 hq => hq.mono h3
     | x id => exact ⟨h1, ts', χ', h2, h3, h4⟩
     | r => exact ⟨h1, ts', χ', h2, h3, h4⟩
   | _ => exact h.elim
 | c a b iha ihb =>
   intro B _ N ro R F rY hB hF hS hL hN hI hr hRm hY c Q ts χ ks hk hγ hYI h
   cases c with
   | cond u x y =>
     have hu := hγ.tev u
     unfold Dn at h
     split at h
     ·rename_i e
      rw [e] at hu
      exact ypt (b := true) hu.lbi (fun _ => iha hB hF hS hL hN hI hr hRm hY x Q ts χ ks hk hγ hYI h) (fun q => by cases q)
     ·rename_i e
      rw [e] at hu
      exact ypt (b := false) hu.lbi (fun q => by cases q) (fun _ => ihb hB hF hS hL hN hI hr hRm hY y Q ts χ ks hk hγ hYI h)
     ·rename_i q e
      rw [e] at hu
      exact ypt (b := q) hu.bli (fun hq => iha hB hF hS hL hN hI hr hRm hY x Q ts χ ks hk hγ hYI (h.1 hq)) (fun hq => ihb hB hF hS hL hN hI hr hRm hY y Q ts χ ks hk hγ hYI (h.2 hq))
     ·exact h.elim
   | _ => exact h.elim
 | b a iha =>
   intro B _ N ro R F rY hB hF hS hL hN hI hr hRm hY c Q ts χ ks hk hγ hYI h
   cases c with
   | block id x =>
     refine yum (yf7 (iha hB hF hS hL hN hI hr hRm hY x _ ts χ ks hk hγ hYI h) fun e ks' hq => ?_)
     obtain ⟨h1, ts', χ', h2, h3, h4⟩ := hq
     cases e with
     | n => exact ⟨h1, ts', χ', h2, h3, h4⟩
     | r => exact ⟨h1, ts', χ', h2, h3, h4⟩
     | x i =>
       show bkQ id _ (.x i) ks'
       simp only at h4
       unfold bkQ
       simp only
       split at h4
       ·rename_i e; try rw [e]
        exact ⟨h1, ts', χ', h2, h3, h4⟩
       ·rename_i e; try rw [e]
        exact ⟨h1, ts', χ', h2, h3, h4⟩
   | _ => exact h.elim
 | l τ a iha =>
   intro B _ N ro R F rY hB hF hS hL hN hI hr hRm hY c Q ts χ ks hk hγ hYI h
   cases c with
   | loop x =>
     refine yvU fun Y hYl => ?_
     let Sem : List (DV K) -> Prop := fun env => ∀ ks', KOk ks' -> (∃ ξ, GM P C R (bdT F.C τ (tagT τ ts).rg ts.h env) ξ (ofK ks')) -> WK P B N ro x (sqQ (Kq P C R ts.rg Q) Y) ks'
     have go : ∀ {ts' : TS K} {χ' : Nat → Nat → Bool} {ks' : KS}, KOk ks' → GM P C R ts' χ' (ofK ks') → ExtR (tagT τ ts).rg ts'.rg → ts'.h = ts.h → rdJ F.C τ ts' (apC False (ctT τ) (curC (ctT τ) Sem)) → Y ks' := by
      intro ts' χ' ks' hk' hγ' hx' hh hj
      refine hYl ks' (yt8 fun _ => ?_)
      rw [hF] at hj
      refine (ynJ (hh := ts.h) (fun H n q => by rw [hh] at q; exact q) hB hC hk' hγ' hx' hj).mono fun ks2 ⟨env, e1, e2, ξ, e3⟩ => ?_
      exact ypB _ _ _ e1 ks2 e2 ⟨ξ, by rw [hF]; exact e3⟩
     refine go hk (yme hγ) .refl (yt3 τ ts) (h (curC (ctT τ) Sem) (ym1 _ _ _ fun env hd => ?_))
     rintro ks' hk' ⟨ξ, hγ'⟩
     refine yf7 (iha env hB hF hS hL hN hI hr hRm hY x _ _ ξ ks' hk' hγ' (fun y e => yen τ ts _ _ (hYI y e)) hd) fun e ks2 hq => ?_
     obtain ⟨h1, ts', χ', h2, h3, h4⟩ := hq
     rw [yxw] at h3
     cases e with
     | n => obtain ⟨g1, g2⟩ := ytX h4; exact go h1 h2 h3 g1 g2
     | x id => exact ⟨h1, ts', χ', h2, (yen τ ts).trans h3, h4⟩
     | r => exact ⟨h1, ts', χ', h2, (yen τ ts).trans h3, h4⟩
   | _ => exact h.elim
 | j τ a b iha ihb =>
   intro B _ N ro R F rY hB hF hS hL hN hI hr hRm hY c Q ts χ ks hk hγ hYI h
   cases c with
   | seq x y =>
     let Sem : List (DV K) -> Prop := fun env => ∀ ks', KOk ks' -> (∃ ξ, GM P C R (bdT F.C τ (tagT τ ts).rg ts.h env) ξ (ofK ks')) -> WK P B N ro y (Kq P C R ts.rg Q) ks'
     have hd := h (curC (ctT τ) Sem) (ym1 _ _ _ fun env hd => by
      rintro ks' hk' ⟨ξ, hγ'⟩
      exact yf7 (ihb env hB hF hS hL hN hI hr hRm hY y Q _ ξ ks' hk' hγ' (fun y e => yen τ ts _ _ (hYI y e)) hd) fun e ks2 hq => hq.mono (yen τ ts))
     refine yvv (yf7 (iha hB hF hS hL hN hI hr hRm hY x _ (tagT τ ts) χ ks hk (yme hγ) (fun y e => yen τ ts _ _ (hYI y e)) hd) fun e ks' hq => ?_)
     obtain ⟨h1, ts', χ', h2, h3, h4⟩ := hq
     cases e with
     | n =>
       refine yt8 fun _ => ?_
       simp only at h4
       rw [hF] at h4
       obtain ⟨g1, g2⟩ := ytX h4
       refine (ynJ (hh := ts.h) (fun H n q => by rw [g1] at q; exact q) hB hC h1 h2 h3 g2).mono fun ks2 ⟨env, e1, e2, ξ, e3⟩ => ?_
       exact ypB _ _ _ e1 ks2 e2 ⟨ξ, by rw [hF]; exact e3⟩
     | x id => exact ⟨h1, ts', χ', h2, (yen τ ts).trans h3, h4⟩
     | r => exact ⟨h1, ts', χ', h2, (yen τ ts).trans h3, h4⟩
   | _ => exact h.elim
 | g id τ τY ai aa ab ih1 ih2 ih3 =>
   intro B _ N ro R F rY hB hF hS hL hN hI hr hRm hY c Q ts χ ks hk hγ hYI h
   cases c with
   | rng u ps aA aB =>
     subst hF
     unfold Dn at h
     split at h
     ·exact h.elim
     rename_i hrd
     have hro := hr hrd
     subst hro
     refine yt8 fun _ => (ynJ (hh := ts.h) (fun H n q => by rw [yt3] at q; exact q) hB hC hk (yme hγ) .refl h).mono fun ks1 ⟨env, h1, hk1, ξ1, hγ1⟩ => ?_
     have hrg : (bdT F.C τ (tagT τ ts).rg ts.h env).rg = (tagT τ ts).rg := rfl
     have hnw : (bdT F.C τ (tagT τ ts).rg ts.h env).nw = [] := rfl
     have hh1 : (bdT F.C τ (tagT τ ts).rg ts.h env).h = ts.h := rfl
     generalize bdT F.C τ (tagT τ ts).rg ts.h env = ts1 at h1 hγ1 hrg hnw hh1
     split at h1
     case h_2 => exact h1.elim
     rename_i f fa fc hu
     split at h1
     case h_2 => exact h1.elim
     rename_i c2 hc2
     replace hRm := hRm.resolve_left (fun e => by rw [e] at hc2; cases hc2)
     split at h1
     case h_2 => exact h1.elim
     rename_i hcond
     simp only [jab] at hcond
     obtain ⟨⟨hid, hlen⟩, hnil⟩ := hcond
     rw [<- hrg] at hid
     have hid : lkR ts1.rg id = none := by
      cases hq : lkR ts1.rg id with
      | none => rfl
      | some w => rw [hq] at hid; cases hid
     have hlen := jah hlen
     have hres : c2.res = [] := by
      cases hq : c2.res with
      | nil => rfl
      | cons a b => rw [hq] at hnil; cases hnil
     have hu' := hγ1.tev u
     rw [hu] at hu'
     generalize hv : ev (lkF (ofK ks1).fr) u = v at hu'
     cases hu' with
     | fn _ _ _ a' c' ha hc hta htc =>
       refine yx1 (hI f c2 hc2) hres hv (by simp; omega) hB fun B2 _ tm asg body yv rest hB2 hH htm hxs hA hBd hps => ?_
       subst hN
       let f0 : LS -> Blk := rcdB tm ps asg body
       have h2 := h1 ks1.nx
       have hx1 : ExtR ts1.rg ((id, .yl ks1.nx) :: ts1.rg) := fun id' w hw => by
        rw [yhC]
        split
        ·rename_i e; simp only at e; subst e; rw [hid] at hw; cases hw
        ·exact hw
       have hRm2 : ∀ h H n m, R.push ks1.nx f0 h H n -> n <= m -> R.push ks1.nx f0 h H m := fun h H n m ⟨st, h', a1, a2, a3⟩ hm => ⟨st, h', a1, a2, hRm _ _ _ _ a3 hm⟩
       have hγ2 : GM P F.C (R.push ks1.nx f0) (rngS id ks1.nx c2.N fa fc ts1) ξ1 (ofK (rngK c2.N (a' ++ .yld ks1.nx :: c') (f0 .ready) ks1)) := by
        refine GM.frame hγ1 hx1 rfl (fun t => ?_) ⟨.rdy, ts1.h, rfl, if_pos rfl, ?_⟩
        ·have hm : Mono ts1 (rngS id ks1.nx c2.N fa fc ts1) ξ1 ξ1 := ⟨hx1, fun _ _ q => q, fun _ _ _ => .inr ⟨rfl, rfl⟩⟩
         have hyT : TR P F.C (rngS id ks1.nx c2.N fa fc ts1) ξ1 (.cn id (.yl ks1.nx)) (.yld ks1.nx) := .cn id (.yl ks1.nx) _ (by show lkR ((id, .yl ks1.nx) :: ts1.rg) id = _; rw [yhC, if_pos rfl]) rfl (.yl _)
         have hTL : TL P F.C (rngS id ks1.nx c2.N fa fc ts1) ξ1 (fa ++ .cn id (.yl ks1.nx) :: fc) (a' ++ .yld ks1.nx :: c') := ((show TL P F.C ts1 ξ1 fa a' from ⟨ha, hta⟩).mono hm).app (.cons hyT ((show TL P F.C ts1 ξ1 fc c' from ⟨hc, htc⟩).mono hm))
         show TR P F.C (rngS id ks1.nx c2.N fa fc ts1) ξ1 (lkT (zipT (fa ++ .cn id (.yl ks1.nx) :: fc) 0 ++ (c2.N, .cn id (.yl ks1.nx)) :: reix (upx (c2.N + 1)) ts1.fr) t) (lkF (entF (a' ++ .yld ks1.nx :: c') 0 ++ (c2.N, .yld ks1.nx) :: reix (upx (c2.N + 1)) ks1.fr) t)
         rw [ytN, yqv, ykL, ymJ, hTL.1]
         by_cases ht : 0 <= t /\ t < 0 + (fa ++ .cn id (.yl ks1.nx) :: fc).length
         ·rw [if_pos (decide_eq_true ht), if_pos (decide_eq_true ht), yr6, ykC, if_pos (jbf _), if_pos (jbf _)]
          exact hTL.at2 _
         ·rw [if_neg (by simpa using ht), if_neg (by simpa using ht), yca, ybe]
          simp only
          by_cases h3 : c2.N = t
          ·rw [if_pos h3, if_pos h3]; exact hyT
          ·rw [if_neg h3, if_neg h3]
           by_cases h4 : c2.N < t
           ·have hg : upx (c2.N + 1) (t - (c2.N + 1)) = some t := by simp only [upx, jaa]; omega
            rw [yjb (yjG _) hg, yeg (yjG _) hg]
            exact (hγ1.fr _).mono hm
           ·rw [yf8 (fun s e => by simp only [upx, jaa] at e; omega)]
            exact .un _
        ·have : (fun o => if o = ks1.nx then none else (if o = ks1.nx then some (f0 .ready) else ks1.H o)) = ks1.H := by
          funext o
          by_cases e : o = ks1.nx
          ·rw [if_pos e, e, hH]
          ·simp [e]
         rw [this]; exact hRm _ _ _ _ hγ1.hp (Nat.le_succ _)
       have hbk : ∀ {t8 : TS K} {χ8 : Nat → Nat → Bool} {ks8 : KS} {h8 : List RS} {R' : RR K} {H' : Hp} (m : Nat), GM P F.C (R.push ks1.nx f0) t8 χ8 (ofK ks8) → R'.L = R.L → R' h8 H' ks8.nx → GM P F.C R' ⟨reix (dnx m) t8.fr, t8.od, t8.nw, t8.rg, h8⟩ χ8 (ofK ⟨reix (dnx m) ks8.fr, ks8.mem, H', ks8.nx⟩) := by
        intro t8 χ8 ks8 h8 R' H' m hg hL hp
        refine GM.frame hg .refl hL (fun t => ?_) hp
        have hm : Mono t8 ⟨reix (dnx m) t8.fr, t8.od, t8.nw, t8.rg, h8⟩ χ8 χ8 := ⟨fun _ _ q => q, fun _ _ q => q, fun _ _ _ => .inr ⟨rfl, rfl⟩⟩
        have hd : dnx m (t + m) = some t := ykj.2 rfl
        rw [yjb (ymS _) hd, yeg (ymS _) hd]
        exact (hg.fr _).mono hm
       refine yf7 (ih1 (rY := ks1.nx) (F := { C := F.C, S := F.S, L := F.L, N := c2.N, I := F.I, Y := some (id, _), rd := false }) hB2 rfl hS hL rfl hI (fun _ => rfl) (.inr hRm2) ?_ c2.body _ _ ξ1 _ (show KOk (rngK c2.N (a' ++ .yld ks1.nx :: c') (f0 .ready) ks1) from hk1) hγ2 (fun y hy => by cases hy; show lkR ((id, .yl ks1.nx) :: ts1.rg) id = _; rw [yhC, if_pos rfl]) h2) ?_
       ·intro y hy L i o x args t χt ds X Qd e0 hg ho hγt hkt hlk hrun k
        cases hy
        simp only at hlk hrun
        refine yyb fun _ => RE.bind (yv4 (N := c2.N) hB2 hC χt ds hkt hγt) fun ks3 _ ⟨hk3, ξ3, hγ3⟩ => (ynJ (hh := t.h) (R := R.push ks1.nx f0) (N := c2.N) (fun H n q => by rw [yt3] at q; exact q) hB2 hC hk3 (yme hγ3) .refl hrun).mono fun ks4 ⟨env2, h4, hk4, ξ4, hγ4⟩ => ?_
        have hrg4 : (bdT F.C τY (tagT τY (er t)).rg t.h env2).rg = (tagT τY (er t)).rg := rfl
        have hh4 : (bdT F.C τY (tagT τY (er t)).rg t.h env2).h = t.h := rfl
        generalize bdT F.C τY (tagT τY (er t)).rg t.h env2 = t4 at h4 hγ4 hrg4 hh4
        split at h4
        case h_2 => exact h4.elim
        rename_i _ _ tl hcond4 hth
        simp only [jab] at hcond4
        obtain ⟨⟨⟨q1, q2⟩, q3⟩, q4⟩ := hcond4
        have hext4 : ExtR t.rg t4.rg := by rw [hrg4]; exact yen τY (er t)
        have hlk4 := hext4 _ _ hlk
        have hx4 := ykY q2 (hγ4.tea x) hlk4
        have hy4 := ykY q1 (hγ4.fr c2.N) hlk4
        have hp4 := hγ4.hp
        rw [hh4, hth] at hp4
        have hH4 := (RR.push_out hp4).1
        refine yyJ hB2 e0 (yy7 hγ4 q4) ho hx4 hy4 hH4 htm hxs (nbeq.1 q3) hps hA hBd fun B3 _ l hB3 => ?_
        have hγ5 : GM P F.C (R.push ks1.nx f0) (yldS c2.N F.N (ps.toList.zip (args.map (tea t4.fr))) t4) ξ4 (ofK (yldK c2.N F.N (ps.toList.zip (args.map (ev (lkF ks4.fr)))) ks4)) := by
         refine GM.frame hγ4 .refl rfl (fun t' => ?_) hγ4.hp
         have hm : Mono t4 (yldS c2.N F.N (ps.toList.zip (args.map (tea t4.fr))) t4) ξ4 ξ4 := ⟨fun _ _ q => q, fun _ _ q => q, fun _ _ _ => .inr ⟨rfl, rfl⟩⟩
         refine yyK ps.toList (args.map (tea t4.fr)) (args.map (ev (lkF ks4.fr))) _ _ ((TL.tea hγ4 args).mono hm) (fun t' => ?_) t'
         rw [ytN, ykL]
         have hbase : ∀ {b1 b2 : Bool}, (b1 = false -> lkT (reix (acx (c2.N + 1) F.N) t4.fr) t' = .un) -> (b2 = false -> lkF (reix (acx (c2.N + 1) F.N) ks4.fr) t' = .un) -> True := fun _ _ => trivial
         by_cases ht : t' < F.N
         ·have hg1 : acx (c2.N + 1) F.N (t' + (c2.N + 1)) = some t' := yiw.2 ⟨rfl, ht⟩
          have hno : ∀ s, upx F.N s ≠ some t' := fun s e => by simp only [upx, jaa] at e; omega
          have e1 : (if memV (reix (acx (c2.N + 1) F.N) t4.fr) t' = true then lkT (reix (acx (c2.N + 1) F.N) t4.fr) t' else lkT (reix (upx F.N) t4.fr) t') = lkT t4.fr (t' + (c2.N + 1)) := by
           split
           ·exact yjb (yjn _ _) hg1 _
           ·rename_i hm'
            rw [yf8 hno]
            exact (ygX (yjn _ _) hg1 _ (by simpa using hm')).symm
          have e2 : (if memI (reix (acx (c2.N + 1) F.N) ks4.fr) t' = true then lkF (reix (acx (c2.N + 1) F.N) ks4.fr) t' else lkF (reix (upx F.N) ks4.fr) t') = lkF ks4.fr (t' + (c2.N + 1)) := by
           split
           ·exact yeg (yjn _ _) hg1 _
           ·rename_i hm'
            rw [yfe hno]
            exact (yfn (yjn _ _) hg1 _ (by simpa using hm')).symm
          rw [e1, e2]
          exact (hγ4.fr _).mono hm
         ·have hno : ∀ s, acx (c2.N + 1) F.N s ≠ some t' := fun s e => ht (yiw.1 e).2
          have hg1 : upx F.N (t' - F.N) = some t' := by simp only [upx, jaa]; omega
          rw [ykS hno, yiF hno, if_neg (by simp), if_neg (by simp), yjb (yjG _) hg1, yeg (yjG _) hg1]
          exact (hγ4.fr _).mono hm
        refine yf7 (ih2 (rY := 0) (F := { C := F.C, S := F.S, L := F.L, N := F.N, I := F.I, Y := none, rd := true }) hB3 rfl hS hL rfl hI (fun e => by cases e) (.inr hRm2) YOk.none aA _ _ ξ4 _ (show KOk (yldK c2.N F.N (ps.toList.zip (args.map (ev (lkF ks4.fr)))) ks4) from hk4) hγ5 (fun y e => by cases e) h4) fun e ks6 hq6 => ?_
        obtain ⟨hk6, t6, χ6, hγ6, hx6, hq6⟩ := hq6
        cases e with
        | x id' => exact hq6.elim
        | r => exact hq6.elim
        | n =>
          simp only [asgT] at hq6
          split at hq6
          case h_2 => exact hq6.elim
          rename_i _ _ h6 hy6 hh6
          have hp6 := hγ6.hp
          rw [hh6] at hp6
          have hlk6 := hx6 _ _ hlk4
          refine ⟨(RR.push_out hp6).1, ykY hy6 (hγ6.fr _) hlk6, ?_⟩
          have hγ7 : GM P F.C (R.push ks1.nx f0) (setS (.busy :: h6) t6) χ6 (ofK (yfF ks1.nx (f0 .busy) ks6)) :=
           GM.frame hγ6 .refl rfl (fun t' => TR.mono (ts := t6) (ts' := ⟨t6.fr, t6.od, t6.nw, t6.rg, .busy :: h6⟩) (χ := χ6) (χ' := χ6) ⟨fun _ _ q => q, fun _ _ q => q, fun _ _ _ => .inr ⟨rfl, rfl⟩⟩ (hγ6.fr t')) (RR.push_set (st' := .busy) hp6)
          refine yf7 (ih3 (rY := 0) (F := { C := F.C, S := F.S, L := F.L, N := F.N, I := F.I, Y := none, rd := true }) hB3 rfl hS hL rfl hI (fun e => by cases e) (.inr hRm2) YOk.none aB _ _ χ6 _ (show KOk (yfF ks1.nx (f0 .busy) ks6) from hk6) hγ7 (fun y e => by cases e) hq6) fun e ks8 hq8 => ?_
          obtain ⟨hk8, t8, χ8, hγ8, hx8, hq8⟩ := hq8
          simp only [rndT] at hq8
          split at hq8
          case h_2 => exact hq8.elim
          rename_i _ _ h8 hy8 hh8
          have hp8 := hγ8.hp
          rw [hh8] at hp8
          have hlk8 := hx8 _ _ hlk6
          refine ⟨(RR.push_out hp8).1, ykY hy8 (hγ8.fr _) hlk8, ?_⟩
          have hext8 : ExtR t.rg t8.rg := (hext4.trans hx6).trans hx8
          have key : ∀ (st : RS) (b : Bool), X b (bkS F.N (st :: h8) t8) → WD P B2 c2.N none L (i + 1) Qd ((ofK (bkK F.N (yfF ks1.nx (f0 (lsR st)) ks8))).put o.dst (.bl b)) := fun st b hX =>
           k b (bkS F.N (st :: h8) t8) χ8 (bkK F.N (yfF ks1.nx (f0 (lsR st)) ks8)) (show GM P F.C (R.push ks1.nx f0) (bkS F.N (st :: h8) t8) χ8 (ofK ⟨reix (dnx F.N) ks8.fr, ks8.mem, fun o => if o = ks1.nx then some (f0 (lsR st)) else ks8.H o, ks8.nx⟩) from hbk F.N hγ8 rfl (RR.push_set (st' := st) hp8)) hk8 hext8 hX
          cases e with
          | n => exact key .rdy true hq8
          | r => exact key .ret false hq8
          | x i' => exact key (.ex i') false hq8
       ·rintro e ks9 ⟨hk9, t9, χ9, hγ9, hx9, hq9⟩
        have hlk9 : lkR t9.rg id = some (.yl ks1.nx) := hx9 _ _ (by show lkR ((id, .yl ks1.nx) :: ts1.rg) id = _; rw [yhC, if_pos rfl])
        have hext9 : ExtR ts.rg t9.rg := ((yen τ ts).trans (by rw [<- hrg]; exact hx1)).trans hx9
        have fin : ∀ e, (∀ i, e ≠ .x i) → rngT id c2.N Q e t9 → rngQ ks1.nx c2.N (Kq P F.C R ts.rg Q) e ks9 := by
         intro e he hq9
         have hq9 : (match isY id (lkT t9.fr c2.N), t9.h with
          | true, .rdy :: h => Q .n (dnS c2.N h t9)
          | true, .ret :: h => Q .r (dnS c2.N h t9)
          | true, .ex i :: h => Q (.x i) (dnS c2.N h t9)
          | _, _ => False) := by
          cases e with
          | x i => exact absurd rfl (he i)
          | n => exact hq9
          | r => exact hq9
         have goal : lkF ks9.fr c2.N = .yld ks1.nx ∧ ∃ j, lsOf (ks9.H ks1.nx) = some j ∧ (match j with
          | .busy => False
          | .ready => Kq P F.C R ts.rg Q .n (dnK ks1.nx c2.N ks9)
          | .ret => Kq P F.C R ts.rg Q .r (dnK ks1.nx c2.N ks9)
          | .exit id => Kq P F.C R ts.rg Q (.x id) (dnK ks1.nx c2.N ks9)) := by
          have hp9 := hγ9.hp
          have key : ∀ {st : RS} {h : List RS} {e' : AEx}, t9.h = st :: h → Q e' (dnS c2.N h t9) → lsOf (ks9.H ks1.nx) = some (lsR st) ∧ Kq P F.C R ts.rg Q e' (dnK ks1.nx c2.N ks9) := by
           intro st h e' hh hQ
           rw [hh] at hp9
           obtain ⟨a1, a2⟩ := RR.push_out hp9
           refine ⟨by rw [show ks9.H ks1.nx = _ from a1]; rfl, hk9, dnS c2.N h t9, χ9, hbk (c2.N + 1) hγ9 rfl a2, hext9, hQ⟩
          split at hq9
          ·rename_i h hy hh
           obtain ⟨a1, a2⟩ := key hh hq9
           exact ⟨ykY hy (hγ9.fr _) hlk9, _, a1, a2⟩
          ·rename_i h hy hh
           obtain ⟨a1, a2⟩ := key hh hq9
           exact ⟨ykY hy (hγ9.fr _) hlk9, _, a1, a2⟩
          ·rename_i i h hy hh
           obtain ⟨a1, a2⟩ := key hh hq9
           exact ⟨ykY hy (hγ9.fr _) hlk9, _, a1, a2⟩
          ·exact hq9.elim
         cases e with
         | x i => exact absurd rfl (he i)
         | n => exact goal
         | r => exact goal
        cases e with
        | x i => exact hq9.elim
        | n => exact fin .n (fun i e => by cases e) hq9
        | r => exact fin .r (fun i e => by cases e) hq9
   | _ => exact h.elim
end
theorem yrZ {c : yes} {Q Q' : AEx → KS → Prop} {ks : KS} (h : WK P B N ro c Q ks) (hq : ∀ e ks, KOk ks → Q e ks → RE B N (toS ks) (Q' e)) : WK P B N ro c Q' ks := by
 have _ := (inferInstance : GB P B)
 intro x hx a G hR
 refine wpIn_mono (h x hx a G hR) ?_
 rintro e a' w' ⟨ks1, G1, h1, h2, h3⟩
 have go : ∀ e', Q e' ks1 → ∃ ks2 G2, RelK B N ks2 a' G2 ∧ G2.w = w' ∧ Q' e' ks2 := by
  intro e' h3
  obtain ⟨ks2, G2, k1, k2, k3⟩ := hq e' ks1 h1.2 h3 a' G1 h1.1
  exact ⟨ks2, G2, k2, by rw [k1, h2], k3⟩
 cases e with
 | normal => exact go .n h3
 | exit id => exact go (.x id) h3
 | ret => exact go .r h3
 | goto l => exact h3.elim
 | panic ch => exact h3.elim
 | outgrown => exact h3.elim
theorem yvN {ks : KS} (hk : KOk ks) (hγ : GM P C R ts χ (ofK ks)) {q : Nat × Option Nat} {u : TV K} (h : resT ts q = some u) : ∃ v, res1 (toS ks) q = some v ∧ TR P C ts χ u v := by
 have box : ∀ {t s c o e : Nat} {cs : List (TV K)}, (lkT ts.fr t).s = .px s c o → ts.tb s c = some (.box e cs) → ∃ kb : KB, (toS ks).fr t = .pt (.l s c) o ∧ tgt (toS ks) (.pt (.l s c) o) = some (kb.cells, o) ∧ TL P C ts χ cs kb.cells := by
  intro t s c o e cs e1 e2
  have ht := (hγ.fr t).s
  rw [e1] at ht
  obtain ⟨kb, h1, h2⟩ := hγ.mb s c _ e2 (hγ.box e2)
  refine ⟨kb, ht.pxi, ?_, h2.2.2.1, h2.2.2.2⟩
  have hz := (ygz hk s c kb h1).1
  show ((toS ks).M (.l s c)).bind _ = _
  rw [<- ygo]
  show (((ofK ks).kb s c).map KB.blk).bind _ = _
  rw [h1]
  exact if_neg hz
 unfold resT at h
 split at h
 ·cases h; exact ⟨_, rfl, hγ.fr _⟩
 ·split at h
  ·rename_i s c o e1
   split at h
   ·rename_i e cs e2
    obtain ⟨kb, b1, b2, b3⟩ := box e1 e2
    obtain ⟨v, h1, h2⟩ := b3.at' h
    exact ⟨v, by simp only [res1, b1, b2, jaV]; exact h1, h2⟩
   ·cases h
  ·cases h
 ·rename_i t sz
  split at h
  ·rename_i s c o e1
   split at h
   ·rename_i e cs e2
    obtain ⟨kb, b1, b2, b3⟩ := box e1 e2
    obtain ⟨v, h1, h2⟩ := yml b3 h
    refine ⟨v, ?_, h2⟩
    simp only [res1, b1, b2, jaV]
    simp only [kld] at h1
    exact h1
   ·cases h
  ·cases h
theorem ymG {ks : KS} (hk : KOk ks) (hγ : GM P C R ts χ (ofK ks)) : ∀ (l : List (Nat × Option Nat)) (us : List (TV K)), ydz ts l = some us → ∃ vs, resL (toS ks) l = some vs ∧ TL P C ts χ us vs
 | [], us, h => by cases h; exact ⟨[], rfl, .nil⟩
 | q :: l, us, h => by
   simp only [ydz] at h
   split at h
   ·rename_i v vs h1 h2
    cases h
    obtain ⟨a, a1, a2⟩ := yvN hk hγ h1
    obtain ⟨az, b1, b2⟩ := ymG hk hγ l vs h2
    exact ⟨a :: az, by simp only [resL, a1, b1], .cons a2 b2⟩
   ·cases h
theorem ysY (hC : CxOk P C) : ∀ (rs : List Nat) (us : List (TV K)) (vs : List AV) (p : List (DV K) → Prop), outR C rs us p → TL P C ts χ us vs → ∃ xs, p xs ∧ noLs vs = true ∧ dwks vs = xs.map (dvA C)
 | [], [], vs, p, h, t => by
   have : vs = [] := jal t.1
   subst this; exact ⟨[], h, rfl, rfl⟩
 | r :: rs, u :: us, vs, p, h, t => by
   cases vs with
   | nil => simp [TL] at t
   | cons v vs =>
     simp only [outR] at h
     split at h
     ·rename_i x e
      obtain ⟨xs, a1, a2, a3⟩ := ysY hC rs us vs _ h t.head.2
      obtain ⟨b1, b2, _⟩ := ynl hC e t.head.1
      exact ⟨.v r x :: xs, a1, by simp [noLs, b2, a2], by simp only [dwks, jav, a3, b1]; rfl⟩
     ·exact h.elim
 | [], _ :: _, _, _, h, _ => h.elim
 | _ :: _, [], _, _, h, _ => h.elim
theorem yyQ : ∀ {x r : List (DV K)}, eqR x r → x = r := by
 have one : ∀ {t t' : Nat} {x : K t} {y : K t'}, (if h : t = t' then h ▸ x = y else False) → (DV.v t x : DV K) = .v t' y := by
  intro t t' x y h
  split at h
  ·rename_i e; subst e; subst h; rfl
  ·exact h.elim
 intro x
 induction x with
 | nil => intro r h; cases r with | nil => rfl | cons => exact h.elim
 | cons a x ih =>
   intro r h
   cases r with
   | nil => cases a <;> first | exact h.elim | (cases x <;> exact h.elim)
   | cons b r =>
     cases a with
     | v t y =>
       cases b with
       | v t' z =>
         cases x with
         | nil =>
           cases r with
           | nil => rw [one h]
           | cons => cases ih h.2
         | cons c x =>
           have h' : (if h : t = t' then h ▸ y = z else False) /\ eqR (c :: x) r := h
           rw [one h'.1, ih h'.2]
       | _ => cases x <;> cases r <;> exact h.elim
     | _ => cases b <;> cases x <;> cases r <;> exact h.elim
theorem yoU (hB : ydc B) (hC : CxOk P C) (res : List (Nat × Option Nat)) : ∀ (n : Nat) (ts : TS K), REk P C R B N ts (retF C res ts n)
 | 0, ts => .refl
 | n + 1, ts => by
   have _ := (inferInstance : GB P B)
   simp only [retF]
   split
   ·split
    ·exact .refl
    ·exact (yqh hB hC 9 _ ts).trans (yoU hB hC res n _)
   ·exact .refl
theorem ysG (hC : CxOk P C) : ∀ (ps : List PD) (env : List (AD K)) (i : Nat), env.length = ps.length → (∀ F, AD.f F ∈ env → FOk P C F) → ∀ t, TR P C ts χ (lkT (entT C ps env i) t) (lkF (entF (yeG C ps env) i) t)
 | [], [], i, _, _, t => .un _
 | [], _ :: _, i, h, _, t => by simp at h
 | _ :: _, [], i, h, _, t => by simp at h
 | p :: ps, x :: env, i, h, hF, t => by
   have ih := ysG hC ps env (i + 1) (by simpa using h) (fun F hf => hF F (jag _ hf)) t
   have bad : TR P C ts χ (lkT ([] : List (Nat × TV K)) t) (lkF (entF (yeG C (p :: ps) (x :: env)) i) t) := .un _
   have cons : ∀ {u : TV K}, TR P C ts χ u (penc C p x) → TR P C ts χ (lkT ((i, u) :: entT C ps env (i + 1)) t) (lkF (entF (yeG C (p :: ps) (x :: env)) i) t) := by
    intro u hu
    show TR P C ts χ _ (lkF ((i, penc C p x) :: entF (yeG C ps env) (i + 1)) t)
    rw [yca, ybe]
    simp only
    split
    ·exact hu
    ·exact ih
   cases p with
   | v t' =>
     cases x with
     | d y =>
       cases y with
       | v t2 z =>
         simp only [entT]
         refine cons ?_
         split
         ·rename_i e; subst e; exact (ylf hC t2 z).1
         ·exact .un _
       | _ => exact bad
     | f F => exact bad
   | p t' =>
     cases x with
     | d y =>
       cases y with
       | v t2 z =>
         simp only [entT]
         refine cons ?_
         split
         ·rename_i e; subst e
          have : penc C (.p t2) (.d (.v t2 z)) = .ep ((C.E t2).c z) (0 * (C.E t2).sz + 0) := by simp [penc]
          rw [this]
          exact .ep t2 [z] 0 0 _ (by simp [cl, hC.dw])
         ·exact .un _
       | _ => exact bad
     | f F => exact bad
   | f az bs =>
     cases x with
     | d y => exact bad
     | f F =>
       simp only [entT]
       exact cons (.fv az bs F _ (hF F jaz) (hF F jaz).2.1)
theorem yoa (hC : CxOk P C) : ∀ (ps : List PD) (env : List (AD K)), (∀ F, AD.f F ∈ env → FOk P C F) → noLs (yeG C ps env) = true
 | [], _, _ => by simp [yeG, noLs]
 | _ :: _, [], _ => by simp [yeG, noLs]
 | p :: ps, x :: env, hF => by
   have ih := yoa hC ps env (fun F hf => hF F (jag _ hf))
   have dv : ∀ y : DV K, (dvA C y).noL = true := by
    intro y
    cases y with
    | v t z => exact (ylf (P := P) (ts := ⟨[], [], [], [], []⟩) (χ := fun _ _ => false) hC t z).2.1
    | _ => rfl
   simp only [yeG, noLs, ih, jbe]
   cases x with
   | f F => cases p <;> exact (hF F jaz).1
   | d y =>
     cases p with
     | p t' =>
       cases y with
       | v t2 z =>
         simp only [penc]
         split <;> rfl
       | _ => rfl
     | _ => exact dv y
theorem yoE (C : Cx K) : ∀ (ps : List PD) (env : List (AD K)), env.length = ps.length → (yeG C ps env).length = ps.length
 | [], [], _ => rfl
 | [], _ :: _, h => by simp at h
 | _ :: _, [], h => by simp at h
 | p :: ps, x :: env, h => by simp only [yeG, jaG]; rw [yoE C ps env (by simpa using h)]
end
mutual
theorem yst (m : Nat) : ∀ u : AV, hlt m (dwk u) = hlt m u
 | .agg cs => by simp only [dwk, hlt]; exact yfR m cs
 | .tup cs => by simp only [dwk, hlt]; exact yfR m cs
 | .fn f a c => by simp only [dwk, hlt, yfR m a, yfR m c]
 | .sl z n xs => by simp only [dwk, hlt]; exact yfR m xs
 | .ep xs off => by simp only [dwk, hlt]; exact yfR m xs
 | .gs k n => rfl
 | .pt k n => rfl
 | .bl b => rfl
 | .it k n => rfl
 | .st s => rfl
 | .nptr => rfl
 | .nfn => rfl
 | .un => rfl
 | .yld o => rfl
 | .rcd _ _ _ _ _ => rfl
theorem yfR (m : Nat) : ∀ l : List AV, hlts m (dwks l) = hlts m l
 | [] => rfl
 | u :: r => by simp only [dwks, hlts, yst m u, yfR m r]
end
theorem yt9 {P : Program} {C : Cx K} (hC : CxOk P C) (r : List (DV K)) (m : Nat) : hlt m (ydp (r.map (dvA C))) = true := by
 have one : ∀ x : DV K, hlt m (dvA C x) = true := by
  intro x
  cases x with
  | v t y =>
    have h := hC.hl t y m
    show hlt m (match (C.T t).g with | true => .agg ((C.E t).c y) | false => ((C.E t).c y).headD .un) = true
    split
    ·simpa only [hlt] using h
    ·cases hq : (C.E t).c y with
     | nil => rfl
     | cons a b => rw [hq] at h; simp only [hlts, jab] at h; exact h.1
  | _ => rfl
 have all : ∀ l : List (DV K), hlts m (l.map (dvA C)) = true := by
  intro l
  induction l with
  | nil => rfl
  | cons x l ih => simp only [jav, hlts, one x, ih, Bool.and_self]
 match r with
 | [] => rfl
 | [x] => exact one x
 | x :: y :: l => have := all (x :: y :: l); simpa only [jav, ydp, hlt] using this
theorem yyX {P : Program} {F : Cf K} (hC : CxOk P F.C) (hS : SsOk P F.C F.S) (hL : SLOk P F.C F.L) {f : FuncId} {c : AFn} (hF : trF P f = some c) {A : An K} {ps : List PD} {rs : List Nat} (hN : F.N = c.N) (hps : ps.length ≤ c.N) {env : List (AD K)} {r : List (DV K)} (hlen : env.length = ps.length) (hFs : ∀ G, AD.f G ∈ env → FOk P F.C G)
  (h : DnF F A c ps rs env r) (hI : IOk P F.I) (hY : F.Y = none) : Pure P f (yeG F.C ps env) (ydp (r.map (dvA F.C))) := by
 intro H n
 refine yaV.dwkR (yaV.shr (Post := fun av => dwk av = ydp (r.map (dvA F.C))) ?_ fun av hP m => by rw [<- yst, hP]; exact yt9 hC r m)
 refine ytE hF (by rw [yoE _ _ _ hlen]; exact hps) (yoa hC ps env hFs) fun B _ hB => ?_
 let R : RR K := ⟨fun _ H' n' => H' = H /\ n <= n', fun _ => false⟩
 let ks0 : KS := entK (yeG F.C ps env) H n
 let ts0 : TS K := ⟨entT F.C ps env 0, [], [], [], []⟩
 have hk0 : KOk ks0 := fun d b hb => by cases hb
 have hg0 : GM P F.C R ts0 (fun _ _ => false) (ofK ks0) := by
  refine ⟨fun t => ysG hC ps env 0 hlen hFs t, fun s c b hb _ => ?_, fun s c h => by (cases h), fun s _ => rfl, ⟨rfl, jaP _⟩, fun s b _ hb => (by cases hb)⟩
  rcases tb_c hb with rfl | rfl <;> cases hb
 have hmain := yyD hC A (ro := none) (R := R) (rY := 0) hB rfl hS hL hN hI (fun _ => rfl) (.inr fun _ _ _ _ q hm => ⟨q.1, jaX q.2 hm⟩) (by rw [hY]; exact YOk.none) c.body _ ts0 _ ks0 hk0 hg0 (fun y e => by rw [hY] at e; cases e) h
 refine yrZ hmain fun e ks hk hq => ?_
 obtain ⟨_, ts, χ, hγ, _, hq⟩ := hq
 have fin : retD F.C c.res rs (fun x => eqR x r) .r ts → RE B c.N (toS ks) (retK c.res (fun av H' n' => dwk av = ydp (r.map (dvA F.C)) ∧ H' = H ∧ n ≤ n') .r) := by
  intro hq
  simp only [retD] at hq
  refine (yoU hB hC c.res 9 ts χ ks hk hγ).mono fun ks' ⟨hk', ξ, hγ'⟩ => ?_
  split at hq
  ·rename_i us hus
   obtain ⟨vs, h1, h2⟩ := ymG hk' hγ' c.res us hus
   obtain ⟨xs, h3, h4, h5⟩ := ysY hC rs us vs _ hq h2
   have := yyQ h3
   subst this
   show wpv (resA (toS ks') c.res) _
   unfold resA
   rw [h1]
   have hA : ∀ (vs : List AV) (xs : List AV), noLs vs = true → dwks vs = xs → (match vs with | [u] => u | us => AV.tup us).noL = true ∧ dwk (match vs with | [u] => u | us => AV.tup us) = ydp xs := by
    intro vs xs hn hd
    match vs, hn, hd with
    | [], _, hd => subst hd; exact ⟨rfl, rfl⟩
    | [v], hn, hd => subst hd; exact ⟨by simpa [noLs] using hn, rfl⟩
    | v :: v' :: vs, hn, hd => subst hd; exact ⟨hn, rfl⟩
   obtain ⟨a1, a2⟩ := hA vs _ h4 h5
   exact ⟨a1, by rw [ymK]; exact a2, hγ'.hp.1, hγ'.hp.2⟩
  ·exact hq.elim
 cases e with
 | x id => exact hq.elim
 | r => exact fin hq
 | n => exact fin hq
end Go.AV
end
noncomputable section
namespace Go.AV
open Go.RowKit Go.RG Go.Lib
variable {K : Nat -> Type}
section
variable {P : Program} {C : Cx K} {ts : TS K} {χ : Nat -> Nat -> Bool}
theorem yzF {P : Program} {C : Cx K} {R : RR K} {ts : TS K} {χ : Nat → Nat → Bool} {ks : KS} (hk : KOk ks) (hγ : GM P C R ts χ (ofK ks)) {s : Nat} {b : TB K} (hb : lkB ts.od s = some b) (hx : χ s 1 = false) : BW (ks.M (.l s 1)) (some (bT C ts χ b)) := by
 obtain ⟨kb, h1, h2⟩ := hγ.mb s 1 b hb hx
 have h1' : lkO (ynY ks.mem) s = some kb := h1
 rw [yhK] at h1'
 have : ks.M (.l s 1) = some kb.blk := by rw [M_l1, h1']; rfl
 rw [this]
 exact h2.canon (hk s kb h1').1
theorem yyz {us : List (TV K)} {vs : List AV} (t : TL P C ts χ us vs) : VWs vs (aTs C ts χ us) := by
 refine ⟨by rw [ycK, jaM]; exact t.1, fun j u v p q => ?_⟩
 rw [ycK, jap] at q
 obtain ⟨x, e1, rfl⟩ := jac.1 q
 exact (t.2 j x u e1 p).canon
theorem yxd (vs : List AV) : (match vs with | [u] => u | us => AV.tup us) = ydp vs := by
 cases vs with
 | nil => rfl
 | cons a r => cases r <;> rfl
theorem ywD {vs ws : List AV} (h : VWs vs ws) : VW (ydp vs) (ydp ws) := by
 match vs, ws, h with
 | [], [], h => exact VW.tup h
 | [v], [w], h => exact h.2 0 v w rfl rfl
 | v :: v' :: r, w :: w' :: q, h => exact VW.tup h
 | [], _ :: _, h => simp [VWs] at h
 | _ :: _, [], h => simp [VWs] at h
 | [_], _ :: _ :: _, h => simp [VWs] at h
 | _ :: _ :: _, [_], h => simp [VWs] at h
def endS (C : Cx K) (t : TS K) (χ : Nat → Nat → Bool) (S : St) : St := { S with M := fun k => match k with
 | .h o => S.M (.h o)
 | .l d c => if c = 1 then (match lkB t.od d with
   | some b => if χ d 1 = true then S.M (.l d c) else some (bT C t χ b)
   | none => S.M (.l d c)) else S.M (.l d c) }
theorem BW.refl {S : St} {k : Key} (h : ∀ b, S.M k = some b → b.sz ≠ 0) : BW (S.M k) (S.M k) := by
 cases hb : S.M k with
 | none => trivial
 | some b => exact ⟨h b hb, rfl, rfl, rfl, fun j u v p q => by rw [p] at q; cases q; exact VW.refl _⟩
end
def EndG (C : Cx K) (sp : Sl K) (ts0 : TS K) (χ : Nat → Nat → Bool) (out : List (DV K)) (H : Hp) (n : Nat) (av : AV) (S1 : St) : Prop :=
 ∃ env' χ', wt (ctT sp.to) env' = true ∧ kpt ts0 (bdT C sp.to [] [] env') sp.kp (eqDV (selL sp env') out) ∧ ViOk (bdT C sp.to [] [] env') χ' ∧ (∀ s b, 2000000 ≤ s → (bdT C sp.to [] [] env').tb s 1 = some b → χ' s 1 = χ s 1) ∧
  (∃ us, ydz (bdT C sp.to [] [] env') sp.res = some us /\ av = ydp (aTs C (bdT C sp.to [] [] env') χ' us)) /\ S1.hp = H /\ n <= S1.nx /\ (∀ d, S1.cnt d = 1) /\
  ∀ s b, lkB (bdT C sp.to [] [] env').od s = some b -> χ' s 1 = false -> S1.M (.l s 1) = some (bT C (bdT C sp.to [] [] env') χ' b)
section
variable {P : Program} {C : Cx K} {ts : TS K} {χ : Nat -> Nat -> Bool} {m : Nat}
theorem ys0 (m : Nat) (a b : List AV) : hlts m (a ++ b) = (hlts m a && hlts m b) := by
 induction a with
 | nil => simp [hlts]
 | cons x a ih => simp [hlts, ih, jbJ]
theorem ytk (hC : CxOk P C) (e : Nat) (l : List (K e)) : hlts m (cl (C.E e) l) = true := by
 induction l with
 | nil => rfl
 | cons x l ih => show hlts m ((C.E e).c x ++ cl (C.E e) l) = true; rw [ys0, hC.hl, ih]; rfl
theorem yxD : ∀ l : List Str, hlts m (l.map .st) = true
 | [] => rfl
 | _ :: r => by simp only [jav, hlts, hlt, yxD r]; rfl
mutual
theorem yvs (hC : CxOk P C) : ∀ v : TV K, noyV v = true → hlt m (aT C ts χ v) = true
 | .lb b, _ => rfl
 | .bl b, _ => rfl
 | .li k n, _ => rfl
 | .it k n, _ => rfl
 | .st s, _ => rfl
 | .agg cs, h => by simp only [noyV] at h; simp only [aT, hlt]; exact yfm hC h
 | .tup cs, h => by simp only [noyV] at h; simp only [aT, hlt]; exact yfm hC h
 | .nil, _ => rfl
 | .em, _ => rfl
 | .sl e l, _ => by simp only [aT, slA, hlt]; exact ytk hC e l
 | .rw s c, _ => by
   simp only [aT]
   split
   ·split <;> rfl
   ·rfl
 | .px s c o, _ => rfl
 | .pr e s c i of, _ => rfl
 | .ep e l i of, _ => by simp only [aT, hlt]; exact ytk hC e l
 | .gs l i, _ => by simp only [aT, hlt]; exact yxD l
 | .nptr, _ => rfl
 | .fn f a c, h => by simp only [noyV, jab] at h; simp only [aT, hlt, jab]; exact ⟨yfm hC h.1, yfm hC h.2⟩
 | .fv _ _ F, h => by simp [noyV] at h
 | .yl r, h => by simp [noyV] at h
 | .cn _ v, h => by simp only [noyV] at h; simp only [aT]; exact yvs hC v h
 | .un, _ => rfl
theorem yfm (hC : CxOk P C) : ∀ {l : List (TV K)}, ycA l = true → hlts m (aTs C ts χ l) = true
 | [], _ => rfl
 | v :: r, h => by simp only [ycA, jab] at h; simp only [aTs, hlts, jab]; exact ⟨yvs hC v h.1, yfm hC h.2⟩
end
theorem yt4 : ∀ {l : List AV}, hlts m l = true → hlt m (ydp l) = true
 | [], _ => rfl
 | [v], h => by simp only [hlts, jbe] at h; exact h
 | v :: v' :: r, h => h
end
theorem yqC : ∀ {l : List (TV K)} {j : Nat} {v : TV K}, ycA l = true → l[j]? = some v → noyV v = true
 | [], _, _, _, h => by simp at h
 | a :: r, 0, v, hn, h => by simp only [ycA, jab] at hn; simp at h; exact h ▸ hn.1
 | a :: r, j + 1, v, hn, h => by simp only [ycA, jab] at hn; simp at h; exact yqC hn.2 h
theorem ylT : ∀ (n : Nat) {l : List (TV K)}, ycA l = true → ycA (l.take n) = true
 | 0, _, _ => by simp [ycA]
 | n + 1, [], _ => rfl
 | n + 1, a :: r, h => by simp only [ycA, jab] at h; simp only [List.take_succ_cons, ycA, jab]; exact ⟨h.1, ylT n h.2⟩
theorem ylZ : ∀ (n : Nat) {l : List (TV K)}, ycA l = true → ycA (l.drop n) = true
 | 0, _, h => by simpa using h
 | n + 1, [], _ => rfl
 | n + 1, a :: r, h => by simp only [ycA, jab] at h; simp only [List.drop_succ_cons]; exact ylZ n h.2
section
variable {P : Program} {C : Cx K}
theorem yvO (hC : CxOk P C) (t : Nat) (x : K t) : noyV (inV C t x) = true := by
 have h := hC.ny t x
 unfold inV
 split
 ·exact h
 ·split
  ·rename_i v e; rw [e] at h; simpa [ycA] using h
  ·rfl
mutual
theorem yrX (hC : CxOk P C) : ∀ (k : Kd) (r : List (DV K)), noyV (bdV C [] k r).1 = true
 | k, r => by
   unfold bdV
   split
   all_goals first
    | rfl
    | (simp only [noyV]; exact yhq hC _ _)
    | (simp only [noyV, jab]; exact ⟨yhq hC _ _, yhq hC _ _⟩)
    | ((try dsimp only); split <;> first | rfl | exact yvO hC _ _ | (simp only [lkR] at *; done) | (rename_i h; cases h))
theorem yhq (hC : CxOk P C) : ∀ (l : List Kd) (r : List (DV K)), ycA (bdVs C [] l r).1 = true
 | [], r => by simp [bdVs, ycA]
 | k :: q, r => by simp only [bdVs, ycA, jab]; exact ⟨yrX hC k r, yhq hC q _⟩
end
def tbNo : TB K → Bool
 | .box _ cs => ycA cs
 | .row _ _ => true
 | .lrow _ _ cs => ycA cs
structure NoY (ts : TS K) : Prop where
 fr : ∀ t, noyV (lkT ts.fr t) = true
 od : ∀ s b, lkB ts.od s = some b -> tbNo b = true
 nw : ts.nw = []
theorem yso (hC : CxOk P C) : ∀ (l : List (Nat × Kd)) (r : List (DV K)) (t : Nat), noyV (lkT (bdS C [] l r).1 t) = true
 | [], _, _ => rfl
 | k :: q, r, t => by
   simp only [bdS, lkT]
   split
   ·exact yrX hC _ _
   ·exact yso hC q _ t
theorem yv8 (hC : CxOk P C) (ks : List Kd) (env : List (DV K)) : ycA (bdW C [] ks env).1 = true := by
 unfold bdW
 split
 ·split
  ·split
   ·dsimp only
    split
    ·exact hC.ny _ _
    ·rfl
   ·rfl
  ·exact yhq hC _ _
 ·exact yhq hC _ _
theorem ysP {Pr : TB K → Prop} : ∀ (l : List (Nat × Option (TB K))), (∀ p ∈ l, ∀ c, p.2 = some c → Pr c) → ∀ s b, lkB l s = some b → Pr b
 | [], _, s, b, h => by cases h
 | q :: l, hl, s, b, h => by
   simp only [lkB] at h
   split at h
   ·exact hl q jaz b h
   ·exact ysP l (fun p hp => hl p (jag _ hp)) s b h
theorem ysR (hC : CxOk P C) : ∀ (l : List (Nat × Nat × List Kd)) (r : List (DV K)), ∀ p ∈ (bdB C [] l r).1, ∀ c, p.2 = some c → tbNo c = true
 | [], _, p, hp => by simp [bdB] at hp
 | k :: q, r, p, hp => by
   simp only [bdB] at hp
   rcases jaq.1 hp with rfl | hp
   ·intro c hc; cases hc; exact yv8 hC _ _
   ·exact ysR hC q _ p hp
theorem yxr : ∀ (l : List (Nat × Nat)) (r : List (DV K)), ∀ p ∈ bdR (K := K) l r, ∀ c, p.2 = some c → tbNo c = true := by
 intro l
 induction l with
 | nil => intro r p hp; simp [bdR] at hp
 | cons k q ih =>
   intro r p hp
   cases r with
   | nil => simp [bdR] at hp
   | cons x r =>
     cases x with
     | l e xs =>
       simp only [bdR] at hp
       rcases jaq.1 hp with rfl | hp
       ·intro c hc
        split at hc
        ·cases hc; rfl
        ·cases hc
       ·exact ih r p hp
     | _ => simp [bdR] at hp
theorem ywn (hC : CxOk P C) (τ : Tm) (env : List (DV K)) : NoY (bdT C τ [] [] env) :=
 ⟨fun t => yso hC _ _ t, ysP _ fun p hp => by
   rcases jar.1 hp with hp | hp
   ·exact ysR hC _ _ p hp
   ·exact yxr _ _ p hp, rfl⟩
theorem yu5 {ts : TS K} (h : NoY ts) {s c : Nat} {b : TB K} (hb : ts.tb s c = some b) : tbNo b = true := by
 unfold TS.tb at hb
 split at hb
 ·exact h.od s b hb
 ·split at hb
  ·rw [h.nw] at hb; cases hb
  ·cases hb
theorem yrI {ts : TS K} (h : NoY ts) : ∀ (l : List (Nat × Option Nat)) (us : List (TV K)), ydz ts l = some us → ycA us = true
 | [], us, e => by cases e; rfl
 | p :: r, us, e => by
   simp only [ydz] at e
   split at e
   ·rename_i v vs h1 h2
    cases e
    simp only [ycA, jab]
    refine ⟨?_, yrI h r vs h2⟩
    unfold resT at h1
    split at h1
    ·cases h1; exact h.fr _
    ·split at h1
     ·split at h1
      ·rename_i hb; exact yqC (show ycA _ = true from yu5 h hb) h1
      ·cases h1
     ·cases h1
    ·split at h1
     ·split at h1
      ·rename_i hb
       have hn : ycA _ = true := yu5 h hb
       simp only [tldc] at h1
       split at h1
       ·cases h1; exact ylT _ (ylZ _ hn)
       ·cases h1
      ·cases h1
     ·cases h1
   ·cases e
theorem ywK (hC : CxOk P C) {ts : TS K} {χ : Nat → Nat → Bool} {m : Nat} {b : TB K} (h : tbNo b = true) : hlts m (bT C ts χ b).cells = true := by
 cases b with
 | box e cs => exact yfm hC h
 | row e l => exact ytk hC e l
 | lrow e n cs => exact yfm hC h
theorem yxo {ts : TS K} (h : NoY ts) {s : Nat} {b : TB K} (hb : lkB ts.od s = some b) : tbNo b = true := h.od s b hb
end
theorem yxu {P : Program} {F : Cf K} (hC : CxOk P F.C) (hS : SsOk P F.C F.S) (hL : SLOk P F.C F.L) {f : FuncId} {c : AFn} (hF : trF P f = some c) {A : An K} {sp : Sl K} (hf : sp.f = f) (hN : F.N = c.N) (hres : c.res = sp.res) (hnp : npL sp ≤ c.N)
  {fs : List (FV K)} {env out : List (DV K)} (hE : okS sp env = true) (hfs : ∀ G ∈ fs, FOk P F.C G) (h : DnL F A c sp fs env out) (hI : IOk P F.I) (hY : F.Y = none) {χ : Nat -> Nat -> Bool} (hv : ViOk (entL F.C sp fs env) χ) (H : Hp) (n : Nat) :
  ya8 P sp.f (argT F.C sp (entL F.C sp fs env) χ) (memT F.C (entL F.C sp fs env) χ) H n (EndL F.C sp (entL F.C sp fs env) χ out H n) := by
 subst hf
 let R : RR K := ⟨fun _ H' n' => H' = H /\ n <= n', fun s => χ s 1⟩
 obtain ⟨g0, k0, m0⟩ := yyh (R := R) (H := H) (n := n) hC hE hfs hv ⟨rfl, jaP _⟩ rfl
 have hal : (argT F.C sp (entL F.C sp fs env) χ).length <= c.N := by unfold argT; simpa using hnp
 have main := yrm (Post := fun av ks => ∃ ξ env' us vs, wt (ctT sp.to) env' = true ∧ GM P F.C R (bdT F.C sp.to [] [] env') ξ (ofK ks) ∧ kpt (entL F.C sp fs env) (bdT F.C sp.to [] [] env') sp.kp (eqDV (selL sp env') out) ∧
   ydz (bdT F.C sp.to [] [] env') sp.res = some us /\ TL P F.C (bdT F.C sp.to [] [] env') ξ us vs /\ av = ydp vs) hF hal m0 k0 fun B _ hB => by
  have hmain := yyD hC A (ro := none) (R := R) (rY := 0) hB rfl hS hL hN hI (fun _ => rfl) (.inr fun _ _ _ _ q hm => ⟨q.1, jaX q.2 hm⟩) (by rw [hY]; exact YOk.none) c.body _ _ χ _ k0 g0 (fun y e => by rw [hY] at e; cases e) h
  refine yrZ hmain fun e ks hk hq => ?_
  obtain ⟨_, ts, χ', hγ, hx, hq⟩ := hq
  have fin : rdJ F.C sp.to (frF F.C sp ts) (fun env' => match ydz (bdT F.C sp.to [] [] env') sp.res with | some _ => kpt (entL F.C sp fs env) (bdT F.C sp.to [] [] env') sp.kp (eqDV (selL sp env') out) | none => False) → RE B c.N (toS ks) (ywW c.res (fun av ks => ∃ ξ env' us vs, wt (ctT sp.to) env' = true ∧ GM P F.C R (bdT F.C sp.to [] [] env') ξ (ofK ks) ∧ kpt (entL F.C sp fs env) (bdT F.C sp.to [] [] env') sp.kp (eqDV (selL sp env') out) ∧
    ydz (bdT F.C sp.to [] [] env') sp.res = some us /\ TL P F.C (bdT F.C sp.to [] [] env') ξ us vs /\ av = ydp vs) .r) := by
   intro hq
   have hfr : REk P F.C R B c.N ts (frF F.C sp ts) := by
    unfold frF
    split
    ·exact yoU hB hC sp.res 9 ts
    ·exact .refl
   refine RE.bind (hfr χ' ks hk hγ) fun ks0 hk ⟨_, ξ0, hγ⟩ => ?_
   refine (ynJ (rg := []) (hh := []) (fun _ _ h => h) hB hC hk hγ (fun id w q => by cases q) (yxz hq)).mono fun ks' ⟨env', ⟨h0, h1⟩, h2, ξ, h3⟩ => ?_
   cases hu : ydz (bdT F.C sp.to [] [] env') sp.res with
   | none => rw [hu] at h1; exact h1.elim
   | some us =>
     rw [hu] at h1
     obtain ⟨vs, r1, r2⟩ := ymG h2 h3 c.res us (by rw [hres]; exact hu)
     show wpv (resA (toS ks') c.res) _
     unfold resA
     rw [r1]
     exact ⟨ξ, env', us, vs, h0, h3, h1, hu, r2, yxd vs⟩
  cases e with
  | x id => exact hq.elim
  | r => exact fin hq
  | n => exact fin hq
 rw [yx3] at main
 refine ya8.shr (Post := EndG F.C sp (entL F.C sp fs env) χ out H n) (main.canon ?_) fun av S1 hP => ?_
 rotate_left
 ·obtain ⟨env', χ', h0, h2, hvi, hlv, ⟨us, hus, rfl⟩, hH, hn, hcnt, hM⟩ := hP
  have ny := ywn hC sp.to env'
  refine ⟨fun d => (lkB (bdT F.C sp.to [] [] env').od d).isSome && !χ' d 1, fun o => by rw [<- hH]; rfl, hn, ?_, fun d b ht hb => ?_, env', χ', h0, h2, hvi, hlv, ⟨us, hus, rfl⟩, ?_, rfl, fun d => hcnt d, fun s b hb hx => ?_⟩
  ·have := yrI ny sp.res us hus
   exact yt4 (yfm hC this)
  ·simp only [jab, jaT] at ht
   obtain ⟨tb, htb⟩ := jaU.1 ht.1
   rw [hM d tb htb ht.2] at hb
   cases hb
   exact ywK hC (yxo ny htb)
  ·funext o; show S1.M (.h o) = H o; rw [<- hH]; rfl
  ·show (if ((lkB (bdT F.C sp.to [] [] env').od s).isSome && !χ' s 1) = true ∧ 1 = 1 then S1.M (.l s 1) else none) = _
   rw [if_pos ⟨by rw [hb, hx]; rfl, rfl⟩]
   exact hM s b hb hx
 rintro av S1 ⟨ks, rfl, hk, ξ, env', us, vs, h0, h1, h2, hus, h4, rfl⟩
 refine ⟨_, endS F.C (bdT F.C sp.to [] [] env') ξ (toS ks), ywD (yyz h4), rfl, rfl, fun o => rfl, fun d c' => ?_, env', ξ, h0, h2, h1.vi, fun s b q hb => (h1.lv s b q hb).symm, ⟨us, hus, rfl⟩, h1.hp.1, h1.hp.2, fun d => rfl, fun s b hb hx => ?_⟩
 ·have hz : ∀ b, (toS ks).M (.l d c') = some b → b.sz ≠ 0 := by
   intro b hb
   obtain ⟨rfl, kb, e1, rfl⟩ := M_lc ks hb
   exact (hk d kb e1).1
  show BW _ (if c' = 1 then _ else _)
  split
  ·rename_i e; subst e
   split
   ·rename_i b hb
    split
    ·exact BW.refl hz
    ·rename_i hx; exact yzF hk h1 hb (by simpa using hx)
   ·exact BW.refl hz
  ·exact BW.refl hz
 ·simp only [endS, hb, hx, jaI, if_false, if_true]
theorem yqa {c : CT} {x : DV K} {y : CTy K c} (h : outC c x = some y) : x = inC c y := by
 cases c with
 | i => cases x <;> simp only [outC, outI] at h <;> cases h; rfl
 | b => cases x <;> simp only [outC, yxb] at h <;> cases h; rfl
 | s => cases x <;> simp only [outC, outS] at h <;> cases h; rfl
 | l e =>
   cases x with
   | l e' l =>
     simp only [outC, outL] at h
     obtain ⟨rfl, rfl⟩ := yeD h
     rfl
   | _ => simp only [outC, outL] at h; cases h
 | v t =>
   cases x with
   | v t' x =>
     simp only [outC, outT] at h
     split at h
     ·rename_i e; subst e; cases h; rfl
     ·cases h
   | _ => simp only [outC, outT] at h; cases h
theorem yeJ {f : Cur K Prop []} {out : List (DV K)} (h : ypJ [] f out) : out = [] ∧ f := by
 cases out with
 | nil => exact ⟨rfl, h⟩
 | cons x r => exact h.elim
theorem yeI {c : CT} {co : List CT} {f : Cur K Prop (c :: co)} {out : List (DV K)} (h : ypJ (c :: co) f out) : ∃ (y : CTy K c) (r : List (DV K)), out = inC c y :: r ∧ ypJ co (f y) r := by
 cases out with
 | nil => exact h.elim
 | cons x r =>
   have h : (match outC c x with | some y => ypJ co (f y) r | none => False) := h
   revert h
   cases e : outC c x with
   | none => exact fun h => h.elim
   | some y => exact fun h => ⟨y, r, by rw [yqa e], h⟩
theorem ygA {co : List CT} {f : Cur K (Cur K Prop co) []} {env out : List (DV K)} (h : apIn co [] f env out) : env = [] ∧ ypJ co f out := by
 cases env with
 | nil => exact ⟨rfl, h⟩
 | cons x r => exact h.elim
theorem ycb {co : List CT} {c : CT} {ci : List CT} {f : Cur K (Cur K Prop co) (c :: ci)} {env out : List (DV K)} (h : apIn co (c :: ci) f env out) : ∃ (y : CTy K c) (r : List (DV K)), env = inC c y :: r ∧ apIn co ci (f y) r out := by
 cases env with
 | nil => exact h.elim
 | cons x r =>
   have h : (match outC c x with | some y => apIn co ci (f y) r out | none => False) := h
   revert h
   cases e : outC c x with
   | none => exact fun h => h.elim
   | some y => exact fun h => ⟨y, r, by rw [yqa e], h⟩
theorem ygC {ci co : List CT} {f : FsTy K (Cur K (Cur K Prop co) ci) []} {fs : List (FV K)} {env out : List (DV K)} (h : apFs ci co [] f fs env out) : fs = [] ∧ apIn co ci f env out := by
 cases fs with
 | nil => exact ⟨rfl, h⟩
 | cons x r => exact h.elim
theorem yjN {ci co : List CT} {p : Nat × List Nat × List Nat} {l : List (Nat × List Nat × List Nat)} {f : FsTy K (Cur K (Cur K Prop co) ci) (p :: l)} {fs : List (FV K)} {env out : List (DV K)} (h : apFs ci co (p :: l) f fs env out) : ∃ (F : FV K) (r : List (FV K)), fs = F :: r ∧ apFs ci co l (f (curF p.2.2 p.2.1 F.W)) r env out := by
 cases fs with
 | nil => exact h.elim
 | cons x r => exact ⟨x, r, rfl, h⟩
def SlC (P : Program) (C : Cx K) (sp : Sl K) (fs : List (FV K)) (env out : List (DV K)) : Prop := ∀ χ, ViOk (entL C sp fs env) χ -> ∀ H n, ya8 P sp.f (argT C sp (entL C sp fs env) χ) (memT C (entL C sp fs env) χ) H n (EndL C sp (entL C sp fs env) χ out H n)
theorem yhj {P : Program} {F : Cf K} (hC : CxOk P F.C) (hS : SsOk P F.C F.S) (hL : SLOk P F.C F.L) {f : FuncId} {c : AFn} (hF : trF P f = some c) {A : An K} {sp : Sl K} (hf : sp.f = f) (hN : F.N = c.N) (hres : c.res = sp.res) (hnp : npL sp ≤ c.N)
  {fs : List (FV K)} {env out : List (DV K)} (hE : okS sp env = true) (hfs : ∀ G ∈ fs, FOk P F.C G) {X : Prop} (h : X) (e : X = DnL F A c sp fs env out) (hI : IOk P F.I := by exact fun f c h => by cases h) (hY : F.Y = none := by rfl) : SlC P F.C sp fs env out := fun χ hv H n => yxu hC hS hL hF hf hN hres hnp hE hfs (e ▸ h) hI hY hv H n
theorem yaw {P : Program} {C : Cx K} : SLOk P C [] := fun sp h => by cases h
theorem yfH {P : Program} {C : Cx K} {sp : Sl K} {l : List (Sl K)} (h : SlOk P C sp) (k : SLOk P C l) : SLOk P C (sp :: l) := fun q hq => by
 rcases jaq.1 hq with rfl | hq
 ·exact h
 ·exact k q hq
end Go.AV
end
noncomputable section
namespace Go.AV
open Go.RowKit Go.RG Go.Lib
variable {K : Nat -> Type}
theorem yag {c : Bool} {a b a' b' : Prop} (h : cnd c a b) (ha : a -> a') (hb : b -> b') : cnd c a' b' := ⟨fun e => ha (h.1 e), fun e => hb (h.2 e)⟩
structure Tb (K : Nat → Type) (X : Type) where
 g : Bool
 c : X -> List (TV K)
 rd : List (TV K) -> Option X
 tb : Option (X -> UInt8)
 ob : Option (UInt8 -> X)
 fl : Bool
 E : Enc X
structure TbOk (P : Program) (C : Cx K) {X : Type} (b : Tb K X) : Prop where
 c : ∀ (x : X) ts χ, ((b.E).c x).length = (b.c x).length /\ ∀ (j : Nat) (u : TV K) (v : AV), (b.c x)[j]? = some u -> (b.E.c x)[j]? = some v -> TR P C ts χ u v
 rd : ∀ (cs : List (TV K)) (x : X) ts χ (vs : List AV), b.rd cs = some x -> vs.length = cs.length -> (∀ (j : Nat) (u : TV K) (v : AV), cs[j]? = some u -> vs[j]? = some v -> TR P C ts χ u v) -> dwks vs = b.E.c x
 g : b.g = false -> b.E.sz = 1
 dw : ∀ x : X, dwks (b.E.c x) = b.E.c x
 tb : ∀ f, b.tb = some f -> ∀ x, ∃ n, b.E.c x = [.it .u8 n] /\ f x = UInt8.ofNat n.toNat
 ob : ∀ f, b.ob = some f -> ∀ y : UInt8, b.E.c (f y) = [.it .u8 y.toNat]
 fl : b.fl = true -> ∀ x : X, yfS (b.E.c x) = true
 nr : ∀ x, ybL (b.c x) = true
 hl : ∀ x m, hlts m (b.E.c x) = true
 ny : ∀ x, ycA (b.c x) = true
def tbI (k : IntKind) : Tb K Int := ⟨false, fun n => [.it k n], fun cs => match cs with
 | [u] => match tint u with
   | some (k', n) => if k' = k then some n else none
   | none => none
 | _ => none, (match k with | .u8 => some toB | _ => none), (match k with | .u8 => some ofB | _ => none), true, eI k⟩
def tbB : Tb K Bool := ⟨false, fun b => [.bl b], fun cs => match cs with
 | [u] => tbo u
 | _ => none, none, none, true, eB⟩
def tbS : Tb K Str := ⟨false, fun s => [.st s], fun cs => match cs with
 | [.st s] => some s
 | _ => none, none, none, true, eS⟩
def tbL (e : Nat) (E : Enc (K e)) : Tb K (List (K e)) := ⟨false, fun l => [.sl e l], fun cs => match cs with
 | [.sl e' l] => yj2 e' e l
 | [.nil] => some []
 | [.em] => some []
 | _ => none, none, none, false, eSl E⟩
def yiY {A B : Type} (a : Tb K A) (b : Tb K B) : Tb K (A × B) := ⟨true, fun x => a.c x.1 ++ b.c x.2, fun cs => match a.rd (cs.take a.E.sz), b.rd (cs.drop a.E.sz) with
 | some x, some y => some (x, y)
 | _, _ => none, none, none, a.fl && b.fl, ⟨fun x => a.E.c x.1 ++ b.E.c x.2, a.E.sz + b.E.sz, by have := a.E.pos; omega, fun x => by rw [jaj, a.E.len, b.E.len], fun x => by rw [yqZ, a.E.no, b.E.no]; rfl, fun x => by rw [List.all_append, a.E.one, b.E.one]; rfl⟩⟩
def yq4 {A X : Type} (a : Tb K A) (f : X → A) (g : A → X) (E : Enc X) : Tb K X := ⟨true, fun x => a.c (f x), fun cs => match a.rd cs with
 | some y => some (g y)
 | none => none, none, none, a.fl, E⟩
def yqJ {A X : Type} (a : Enc A) (f : X -> A) : Enc X := ⟨fun x => a.c (f x), a.sz, a.pos, fun x => a.len _, fun x => a.no _, fun x => a.one _⟩
def tbU : Tb K Unit := ⟨false, fun _ => [.lb true], fun _ => none, none, none, false, ⟨fun _ => [.bl true], 1, by omega, fun _ => rfl, fun _ => rfl, fun _ => rfl⟩⟩
theorem yp2 (m : Nat) (a b : List AV) : hlts m (a ++ b) = (hlts m a && hlts m b) := by
 induction a with
 | nil => simp [hlts]
 | cons x a ih => simp [hlts, ih, jbJ]
theorem yzV {T : Type} {E : Enc T} (h : ∀ x m, hlts m (E.c x) = true) (l : List T) (m : Nat) : hlts m (cl E l) = true := by
 induction l with
 | nil => rfl
 | cons x l ih => show hlts m (E.c x ++ cl E l) = true; rw [yp2, h, ih]; rfl
theorem ynF {T : Type} {E : Enc T} (h : ∀ x m, hlts m (E.c x) = true) : ∀ l m, hlts m ((eSl E).c l) = true := fun l m => by
 show hlts m [slA E l] = true
 simp only [hlts, slA, hlt, yzV h, jbe]
section
variable {P : Program} {C : Cx K}
theorem at1 {α : Type} {x u : α} {j : Nat} (h : [x][j]? = some u) : j = 0 ∧ u = x := by
 cases j with
 | zero => simp at h; exact ⟨rfl, h.symm⟩
 | succ j => simp at h
theorem len1 {α : Type} {l : List α} (h : l.length = 1) : ∃ x, l = [x] := by
 match l, h with
 | [x], _ => exact ⟨x, rfl⟩
theorem yg0 (k : IntKind) : TbOk P C (tbI k : Tb K Int) := by
 refine ⟨fun x ts χ => ⟨rfl, fun j u v hu hv => ?_⟩, fun cs x ts χ vs h hl ht => ?_, fun _ => rfl, fun _ => rfl, fun f hf x => ?_, fun f hf x => ?_, fun _ _ => rfl, fun _ => rfl, fun _ _ => rfl, fun _ => rfl⟩
 ·obtain ⟨rfl, rfl⟩ := at1 hu; obtain ⟨_, rfl⟩ := at1 hv; exact .it k x
 ·simp only [tbI] at h
  split at h
  ·rename_i u
   obtain ⟨v, rfl⟩ := len1 hl
   split at h
   ·rename_i k' n hn
    split at h
    ·rename_i e; cases h; subst e; rw [TR.int (ht 0 _ _ rfl rfl) hn]; rfl
    ·cases h
   ·cases h
  ·cases h
 ·cases k <;> simp [tbI] at hf; subst hf; exact ⟨x, rfl, rfl⟩
 ·cases k <;> simp [tbI] at hf; subst hf; rfl
theorem yxF : TbOk P C (tbB : Tb K Bool) := by
 refine ⟨fun x ts χ => ⟨rfl, fun j u v hu hv => ?_⟩, fun cs x ts χ vs h hl ht => ?_, fun _ => rfl, fun _ => rfl, fun f hf x => (by cases hf), fun f hf x => (by cases hf), fun _ _ => rfl, fun _ => rfl, fun _ _ => rfl, fun _ => rfl⟩
 ·obtain ⟨rfl, rfl⟩ := at1 hu; obtain ⟨_, rfl⟩ := at1 hv; exact .bl x
 ·simp only [tbB] at h
  split at h
  ·obtain ⟨v, rfl⟩ := len1 hl; rw [TR.bool (ht 0 _ _ rfl rfl) h]; rfl
  ·cases h
theorem yqw : TbOk P C (tbS : Tb K Str) := by
 refine ⟨fun x ts χ => ⟨rfl, fun j u v hu hv => ?_⟩, fun cs x ts χ vs h hl ht => ?_, fun _ => rfl, fun _ => rfl, fun f hf x => (by cases hf), fun f hf x => (by cases hf), fun _ _ => rfl, fun _ => rfl, fun _ _ => rfl, fun _ => rfl⟩
 ·obtain ⟨rfl, rfl⟩ := at1 hu; obtain ⟨_, rfl⟩ := at1 hv; exact .st x
 ·simp only [tbS] at h
  split at h
  ·obtain ⟨v, rfl⟩ := len1 hl; cases h; rw [TR.str (ht 0 _ _ rfl rfl)]; rfl
  ·cases h
theorem ywv {T : Type} {E : Enc T} (h : ∀ x, dwks (E.c x) = E.c x) (l : List T) : dwks (cl E l) = cl E l := by
 induction l with
 | nil => rfl
 | cons x l ih => show dwks (E.c x ++ cl E l) = E.c x ++ cl E l; rw [yde, h, ih]
theorem ypS {T : Type} {E : Enc T} (h : ∀ x, dwks (E.c x) = E.c x) : ∀ l, dwks ((eSl E).c l) = (eSl E).c l := fun l => by
 show [dwk (slA E l)] = [slA E l]
 simp only [slA, dwk, ywv h]
theorem yhg (e : Nat) {E : Enc (K e)} (hE : C.E e = E) (hd : ∀ x, dwks (E.c x) = E.c x) (hh : ∀ x m, hlts m (E.c x) = true) : TbOk P C (tbL e E) := by
 refine ⟨fun x ts χ => ⟨rfl, fun j u v hu hv => ?_⟩, fun cs x ts χ vs h hl ht => ?_, fun _ => rfl, fun x => ?_, fun f hf x => (by cases hf), fun f hf x => (by cases hf), fun h => (by cases h), fun _ => rfl, fun x m => ynF hh x m, fun _ => rfl⟩
 ·obtain ⟨rfl, rfl⟩ := at1 hu; obtain ⟨_, rfl⟩ := at1 hv; exact .sl e x false _ _ rfl (by rw [hE]; exact ywv hd x)
 ·simp only [tbL] at h
  split at h
  ·obtain ⟨v, rfl⟩ := len1 hl
   obtain ⟨rfl, h⟩ := yeD h
   obtain ⟨z, xs, h1, rfl⟩ := (ht 0 _ _ rfl rfl).sli
   subst h
   show [dwk (AV.sl z _ xs)] = _
   simp only [dwk, h1, hE]; rfl
  ·obtain ⟨v, rfl⟩ := len1 hl; cases h
   have := ht 0 _ _ rfl rfl
   cases this; rfl
  ·obtain ⟨v, rfl⟩ := len1 hl; cases h
   have := ht 0 _ _ rfl rfl
   cases this; rfl
  ·cases h
 ·show [dwk (slA E x)] = [slA E x]
  simp only [slA, dwk, ywv hd]
theorem ysh (a b : List AV) : yfS (a ++ b) = (yfS a && yfS b) := by
 induction a with
 | nil => simp [yfS]
 | cons x a ih => simp [yfS, ih, jbJ]
theorem ypQ (a b : List (TV K)) : ybL (a ++ b) = (ybL a && ybL b) := by
 induction a with
 | nil => simp [ybL]
 | cons x a ih => simp [ybL, ih, jbJ]
theorem ys4 (a b : List (TV K)) : ycA (a ++ b) = (ycA a && ycA b) := by
 induction a with
 | nil => simp [ycA]
 | cons x a ih => simp [ycA, ih, jbJ]
theorem yhu {A B : Type} {a : Tb K A} {b : Tb K B} (ha : TbOk P C a) (hb : TbOk P C b) : TbOk P C (yiY a b) := by
 refine ⟨fun x ts χ => ?_, fun cs x ts χ vs h hl ht => ?_, fun h => (by cases h), fun x => ?_, fun f hf x => (by cases hf), fun f hf x => (by cases hf), fun h x => ?_, fun x => ?_, fun x m => by show hlts m (a.E.c x.1 ++ b.E.c x.2) = true; rw [yp2, ha.hl, hb.hl]; rfl, fun x => by show ycA (a.c x.1 ++ b.c x.2) = true; rw [ys4, ha.ny, hb.ny]; rfl⟩
 ·exact TL.app (ts := ts) (χ := χ) (P := P) (C := C) (us := a.c x.1) (us' := b.c x.2) (vs := a.E.c x.1) (vs' := b.E.c x.2) (ha.c x.1 ts χ) (hb.c x.2 ts χ)
 ·simp only [yiY] at h
  split at h
  ·rename_i x1 y1 h1 h2
   cases h
   have t : TL P C ts χ cs vs := ⟨hl, ht⟩
   have e1 := ha.rd _ _ ts χ _ h1 (t.take a.E.sz).1 (t.take a.E.sz).2
   have e2 := hb.rd _ _ ts χ _ h2 (t.drop a.E.sz).1 (t.drop a.E.sz).2
   show dwks vs = a.E.c x1 ++ b.E.c y1
   rw [<- e1, <- e2, <- yde, ja7]
  ·cases h
 ·show dwks (a.E.c x.1 ++ b.E.c x.2) = _; rw [yde, ha.dw, hb.dw]; rfl
 ·have h' : (a.fl && b.fl) = true := h
  rw [jab] at h'
  show yfS (a.E.c x.1 ++ b.E.c x.2) = true
  rw [ysh, ha.fl h'.1, hb.fl h'.2]; rfl
 ·show ybL (a.c x.1 ++ b.c x.2) = true; rw [ypQ, ha.nr, hb.nr]; rfl
theorem ykb {A X : Type} {a : Tb K A} {f : X → A} {g : A → X} {E : Enc X} (ha : TbOk P C a) (hfg : ∀ y, f (g y) = y) (hE : ∀ x, E.c x = a.E.c (f x)) : TbOk P C (yq4 a f g E) := by
 refine ⟨fun x ts χ => ?_, fun cs x ts χ vs h hl ht => ?_, fun h => (by cases h), fun x => ?_, fun f hf x => (by cases hf), fun f hf x => (by cases hf), fun h x => ?_, fun x => ha.nr (f x), fun x m => by show hlts m (E.c x) = true; rw [hE]; exact ha.hl _ m, fun x => ha.ny (f x)⟩
 ·have := ha.c (f x) ts χ; rw [<- hE] at this; exact this
 ·simp only [yq4] at h
  split at h
  ·rename_i y hy; cases h; show dwks vs = E.c (g y); rw [hE, hfg]; exact ha.rd _ _ ts χ _ hy hl ht
  ·cases h
 ·show dwks (E.c x) = E.c x; rw [hE]; exact ha.dw _
 ·show yfS (E.c x) = true; rw [hE]; exact ha.fl h _
theorem yxM : TbOk P C (tbU : Tb K Unit) := by
 refine ⟨fun x ts χ => ⟨rfl, fun j u v hu hv => ?_⟩, fun cs x ts χ vs h hl ht => (by cases h), fun _ => rfl, fun _ => rfl, fun f hf x => (by cases hf), fun f hf x => (by cases hf), fun h => (by cases h), fun _ => rfl, fun _ _ => rfl, fun _ => rfl⟩
 obtain ⟨rfl, rfl⟩ := at1 hu; obtain ⟨_, rfl⟩ := at1 hv; exact .lb true
end
section
variable {TC : Type} {KF : TC -> Type} {code : Nat -> TC}
def cxOf (TF : (c : TC) → Tb (fun t => KF (code t)) (KF c)) : Cx (fun t => KF (code t)) :=
 ⟨fun t => ⟨(TF (code t)).g, (TF (code t)).c, (TF (code t)).rd, (TF (code t)).tb, (TF (code t)).ob, (TF (code t)).fl⟩, fun t => (TF (code t)).E⟩
theorem yvK {P : Program} {TF : (c : TC) → Tb (fun t => KF (code t)) (KF c)} (h : ∀ c, TbOk P (cxOf TF) (TF c)) : CxOk P (cxOf TF) :=
 ⟨fun t x ts χ => (h (code t)).c x ts χ, fun t cs x ts χ vs a b c => (h (code t)).rd cs x ts χ vs a b c, fun t e => (h (code t)).g e, fun t x => (h (code t)).dw x, fun t f e => (h (code t)).tb f e, fun t f e => (h (code t)).ob f e, fun t e => (h (code t)).fl e, fun t x => (h (code t)).nr x, fun t => (h _).hl, fun t => (h _).ny⟩
def lkC (d : TC) : List (Nat × TC) → Nat → TC
 | [], _ => d
 | p :: r, t => match Nat.beq p.1 t with
   | true => p.2
   | false => lkC d r t
end
theorem yyr {rs : List Nat} {p : Nat} {ps : List PD} {w : WTy K rs (.v p :: ps)} {a : List (AD K)} {b : List (DV K)} (h : appW rs (.v p :: ps) w a b) : ∃ (x : K p) (a' : List (AD K)), a = .d (.v p x) :: a' ∧ appW rs ps (w x) a' b := by
 cases a with
 | nil => exact h.elim
 | cons u a' =>
   simp only [appW] at h
   split at h
   ·rename_i y hy
    cases u with
    | f F => simp [outP] at hy
    | d x =>
      cases x with
      | v t x =>
        simp only [outP] at hy
        split at hy
        ·rename_i e; subst e; cases hy; exact ⟨x, a', rfl, h⟩
        ·cases hy
      | _ => simp [outP] at hy
   ·exact h.elim
theorem yyG {rs : List Nat} {p : Nat} {ps : List PD} {w : WTy K rs (.p p :: ps)} {a : List (AD K)} {b : List (DV K)} (h : appW rs (.p p :: ps) w a b) : ∃ (x : K p) (a' : List (AD K)), a = .d (.v p x) :: a' ∧ appW rs ps (w x) a' b := by
 cases a with
 | nil => exact h.elim
 | cons u a' =>
   simp only [appW] at h
   split at h
   ·rename_i y hy
    cases u with
    | f F => simp [outP] at hy
    | d x =>
      cases x with
      | v t x =>
        simp only [outP] at hy
        split at hy
        ·rename_i e; subst e; cases hy; exact ⟨x, a', rfl, h⟩
        ·cases hy
      | _ => simp [outP] at hy
   ·exact h.elim
theorem yxT {rs az bs : List Nat} {ps : List PD} {w : WTy K rs (.f az bs :: ps)} {a : List (AD K)} {b : List (DV K)} (h : appW rs (.f az bs :: ps) w a b) : ∃ (F : FV K) (a' : List (AD K)), a = .f F :: a' ∧ appW rs ps (w (curF bs az F.W)) a' b := by
 cases a with
 | nil => exact h.elim
 | cons u a' =>
   simp only [appW] at h
   split at h
   ·rename_i y hy
    cases u with
    | f F => simp only [outP] at hy; cases hy; exact ⟨F, a', rfl, h⟩
    | d x => cases x <;> simp [outP] at hy
   ·exact h.elim
theorem yy8 {rs : List Nat} {w : WTy K rs []} {a : List (AD K)} {b : List (DV K)} (h : appW rs [] w a b) : a = [] ∧ apR rs w b := by
 cases a with
 | nil => exact ⟨rfl, h⟩
 | cons u a' => exact h.elim
theorem yzT {r : Nat} {rs : List Nat} {w : RTy K (r :: rs)} {b : List (DV K)} (h : apR (r :: rs) w b) : ∃ (x : K r) (b' : List (DV K)), b = .v r x :: b' ∧ apR rs (w x) b' := by
 cases b with
 | nil => exact h.elim
 | cons u b' =>
   cases u with
   | v t x =>
     have h' : (if e : t = r then apR rs (w (e ▸ x)) b' else False) := h
     by_cases e : t = r
     ·subst e; rw [dif_pos rfl] at h'; exact ⟨x, b', rfl, h'⟩
     ·rw [dif_neg e] at h'; exact h'.elim
   | _ => exact h.elim
theorem yzR {w : RTy K []} {b : List (DV K)} (h : apR [] w b) : b = [] ∧ w := by
 cases b with
 | nil => exact ⟨rfl, h⟩
 | cons u b' => exact h.elim
theorem yuj {P : Program} : IOk P [] := fun f c h => by cases h
theorem ywM {P : Program} {f : Nat} {c : AFn} {l : List (Nat × AFn)} (h : trF P f = some c) (k : IOk P l) : IOk P ((f, c) :: l) := fun g d e => by
 simp only [lkI] at e
 split at e
 ·rename_i q; rw [<- nbeq.1 q]; cases e; exact h
 ·exact k g d e
def huR : (rs : List Nat) → RTy K rs → (List (DV K) → Prop) → Prop
 | [], w, D => @Eq Prop w (D [])
 | r :: rs, w, D => ∀ x : K r, huR rs (w x) fun b => D (.v r x :: b)
def huW (rs : List Nat) : (ps : List PD) → WTy K rs ps → (List (AD K) → List (DV K) → Prop) → Prop
 | [], w, D => huR rs w (D [])
 | .v p :: ps, w, D => ∀ x : K p, huW rs ps (w x) fun a => D (.d (.v p x) :: a)
 | .p p :: ps, w, D => ∀ x : K p, huW rs ps (w x) fun a => D (.d (.v p x) :: a)
 | .f az bs :: ps, w, D => ∀ F : FV K, huW rs ps (w (curF bs az F.W)) fun a => D (.f F :: a)
theorem yvn : ∀ {rs : List Nat} {w : RTy K rs} {D : List (DV K) → Prop} {b : List (DV K)}, huR rs w D → apR rs w b → D b
 | [], w, D, b, e, h => by
   obtain ⟨rfl, h⟩ := yzR h
   have e : @Eq Prop w (D []) := e
   exact e ▸ h
 | r :: rs, w, D, b, e, h => by
   obtain ⟨x, b', rfl, k⟩ := yzT h
   exact yvn (rs := rs) (w := w x) (D := fun b => D (.v r x :: b)) (e x) k
theorem yqu {rs : List Nat} : ∀ {ps : List PD} {w : WTy K rs ps} {D : List (AD K) → List (DV K) → Prop} {a : List (AD K)} {b : List (DV K)}, huW rs ps w D → appW rs ps w a b → a.length = ps.length ∧ D a b
 | [], w, D, a, b, e, h => by
   obtain ⟨rfl, h⟩ := yy8 h
   exact ⟨rfl, yvn (w := w) e h⟩
 | .v p :: ps, w, D, a, b, e, h => by
   obtain ⟨x, a', rfl, k⟩ := yyr h
   obtain ⟨h1, h2⟩ := yqu (ps := ps) (w := w x) (D := fun a => D (.d (.v p x) :: a)) (e x) k
   exact ⟨by simp [h1], h2⟩
 | .p p :: ps, w, D, a, b, e, h => by
   obtain ⟨x, a', rfl, k⟩ := yyG h
   obtain ⟨h1, h2⟩ := yqu (ps := ps) (w := w x) (D := fun a => D (.d (.v p x) :: a)) (e x) k
   exact ⟨by simp [h1], h2⟩
 | .f az bs :: ps, w, D, a, b, e, h => by
   obtain ⟨F, a', rfl, k⟩ := yxT h
   obtain ⟨h1, h2⟩ := yqu (ps := ps) (w := w (curF bs az F.W)) (D := fun a => D (.f F :: a)) (e F) k
   exact ⟨by simp [h1], h2⟩
theorem yat {P : Program} {F : Cf K} (hC : CxOk P F.C) (hS : SsOk P F.C F.S) (hL : SLOk P F.C F.L) {f : FuncId} {c : AFn} (hF : trF P f = some c) {A : An K} {ps : List PD} {rs : List Nat} {w : WTy K rs ps} (hN : F.N = c.N) (hps : Nat.ble ps.length c.N = true) (e : huW rs ps w (DnF F A c ps rs)) (hI : IOk P F.I := by exact yuj) (hY : F.Y = none := by rfl) : SpOk P F.C ⟨f, ps, rs, appW rs ps w⟩ := fun env r hFs h => by
 obtain ⟨h1, h2⟩ := yqu e h
 exact ⟨h1, yyX hC hS hL hF hN (jah hps) h1 hFs h2 hI hY⟩
theorem yav {P : Program} {C : Cx K} : SsOk P C [] := fun sp h => by cases h
theorem yar {P : Program} {C : Cx K} {sp : Sp K} {l : List (Sp K)} (h : SpOk P C sp) (k : SsOk P C l) : SsOk P C (sp :: l) := fun q hq => by
 rcases jaq.1 hq with rfl | hq
 ·exact h
 ·exact k q hq
end Go.AV
end
noncomputable section
namespace Go.Proofs.Ytkmehmgocelkiaa
open Go.AV
set_option maxRecDepth 1000000
def c5 : AFn := cF Try.prog 5
theorem t5 : trF Try.prog 5 = some c5 := tF (by kernel_rfl)
def c8 : AFn := cF Try.prog 8
theorem t8 : trF Try.prog 8 = some c8 := tF (by kernel_rfl)
def c9 : AFn := cF Try.prog 9
theorem t9 : trF Try.prog 9 = some c9 := tF (by kernel_rfl)
def c10 : AFn := cF Try.prog 10
theorem t10 : trF Try.prog 10 = some c10 := tF (by kernel_rfl)
def c11 : AFn := cF Try.prog 11
theorem t11 : trF Try.prog 11 = some c11 := tF (by kernel_rfl)
def c12 : AFn := cF Try.prog 12
theorem t12 : trF Try.prog 12 = some c12 := tF (by kernel_rfl)
def c13 : AFn := cF Try.prog 13
theorem t13 : trF Try.prog 13 = some c13 := tF (by kernel_rfl)
def c14 : AFn := cF Try.prog 14
theorem t14 : trF Try.prog 14 = some c14 := tF (by kernel_rfl)
def c15 : AFn := cF Try.prog 15
theorem t15 : trF Try.prog 15 = some c15 := tF (by kernel_rfl)
def c16 : AFn := cF Try.prog 16
theorem t16 : trF Try.prog 16 = some c16 := tF (by kernel_rfl)
def c17 : AFn := cF Try.prog 17
theorem t17 : trF Try.prog 17 = some c17 := tF (by kernel_rfl)
def c18 : AFn := cF Try.prog 18
theorem t18 : trF Try.prog 18 = some c18 := tF (by kernel_rfl)
def c19 : AFn := cF Try.prog 19
theorem t19 : trF Try.prog 19 = some c19 := tF (by kernel_rfl)
def c20 : AFn := cF Try.prog 20
theorem t20 : trF Try.prog 20 = some c20 := tF (by kernel_rfl)
def c21 : AFn := cF Try.prog 21
theorem t21 : trF Try.prog 21 = some c21 := tF (by kernel_rfl)
def c22 : AFn := cF Try.prog 22
theorem t22 : trF Try.prog 22 = some c22 := tF (by kernel_rfl)
def c23 : AFn := cF Try.prog 23
theorem t23 : trF Try.prog 23 = some c23 := tF (by kernel_rfl)
def c32 : AFn := cF Try.prog 32
theorem t32 : trF Try.prog 32 = some c32 := tF (by kernel_rfl)
def c33 : AFn := cF Try.prog 33
theorem t33 : trF Try.prog 33 = some c33 := tF (by kernel_rfl)
def c36 : AFn := cF Try.prog 36
theorem t36 : trF Try.prog 36 = some c36 := tF (by kernel_rfl)
def c37 : AFn := cF Try.prog 37
theorem t37 : trF Try.prog 37 = some c37 := tF (by kernel_rfl)
def c38 : AFn := cF Try.prog 38
theorem t38 : trF Try.prog 38 = some c38 := tF (by kernel_rfl)
def c39 : AFn := cF Try.prog 39
theorem t39 : trF Try.prog 39 = some c39 := tF (by kernel_rfl)
def c40 : AFn := cF Try.prog 40
theorem t40 : trF Try.prog 40 = some c40 := tF (by kernel_rfl)
def c41 : AFn := cF Try.prog 41
theorem t41 : trF Try.prog 41 = some c41 := tF (by kernel_rfl)
def c42 : AFn := cF Try.prog 42
theorem t42 : trF Try.prog 42 = some c42 := tF (by kernel_rfl)
def c43 : AFn := cF Try.prog 43
theorem t43 : trF Try.prog 43 = some c43 := tF (by kernel_rfl)
def c44 : AFn := cF Try.prog 44
theorem t44 : trF Try.prog 44 = some c44 := tF (by kernel_rfl)
def c45 : AFn := cF Try.prog 45
theorem t45 : trF Try.prog 45 = some c45 := tF (by kernel_rfl)
def c46 : AFn := cF Try.prog 46
theorem t46 : trF Try.prog 46 = some c46 := tF (by kernel_rfl)
def c47 : AFn := cF Try.prog 47
theorem t47 : trF Try.prog 47 = some c47 := tF (by kernel_rfl)
def c48 : AFn := cF Try.prog 48
theorem t48 : trF Try.prog 48 = some c48 := tF (by kernel_rfl)
def c49 : AFn := cF Try.prog 49
theorem t49 : trF Try.prog 49 = some c49 := tF (by kernel_rfl)
def c58 : AFn := cF Try.prog 58
theorem t58 : trF Try.prog 58 = some c58 := tF (by kernel_rfl)
def c59 : AFn := cF Try.prog 59
theorem t59 : trF Try.prog 59 = some c59 := tF (by kernel_rfl)
def c62 : AFn := cF Try.prog 62
theorem t62 : trF Try.prog 62 = some c62 := tF (by kernel_rfl)
def c63 : AFn := cF Try.prog 63
theorem t63 : trF Try.prog 63 = some c63 := tF (by kernel_rfl)
def c64 : AFn := cF Try.prog 64
theorem t64 : trF Try.prog 64 = some c64 := tF (by kernel_rfl)
def c65 : AFn := cF Try.prog 65
theorem t65 : trF Try.prog 65 = some c65 := tF (by kernel_rfl)
def c66 : AFn := cF Try.prog 66
theorem t66 : trF Try.prog 66 = some c66 := tF (by kernel_rfl)
def c67 : AFn := cF Try.prog 67
theorem t67 : trF Try.prog 67 = some c67 := tF (by kernel_rfl)
def c68 : AFn := cF Try.prog 68
theorem t68 : trF Try.prog 68 = some c68 := tF (by kernel_rfl)
def c69 : AFn := cF Try.prog 69
theorem t69 : trF Try.prog 69 = some c69 := tF (by kernel_rfl)
def c70 : AFn := cF Try.prog 70
theorem t70 : trF Try.prog 70 = some c70 := tF (by kernel_rfl)
def c71 : AFn := cF Try.prog 71
theorem t71 : trF Try.prog 71 = some c71 := tF (by kernel_rfl)
def c72 : AFn := cF Try.prog 72
theorem t72 : trF Try.prog 72 = some c72 := tF (by kernel_rfl)
def c73 : AFn := cF Try.prog 73
theorem t73 : trF Try.prog 73 = some c73 := tF (by kernel_rfl)
def c74 : AFn := cF Try.prog 74
theorem t74 : trF Try.prog 74 = some c74 := tF (by kernel_rfl)
def c78 : AFn := cF Try.prog 78
theorem t78 : trF Try.prog 78 = some c78 := tF (by kernel_rfl)
def c86 : AFn := cF Try.prog 86
theorem t86 : trF Try.prog 86 = some c86 := tF (by kernel_rfl)
def c87 : AFn := cF Try.prog 87
theorem t87 : trF Try.prog 87 = some c87 := tF (by kernel_rfl)
def c88 : AFn := cF Try.prog 88
theorem t88 : trF Try.prog 88 = some c88 := tF (by kernel_rfl)
def c89 : AFn := cF Try.prog 89
theorem t89 : trF Try.prog 89 = some c89 := tF (by kernel_rfl)
def c90 : AFn := cF Try.prog 90
theorem t90 : trF Try.prog 90 = some c90 := tF (by kernel_rfl)
def c91 : AFn := cF Try.prog 91
theorem t91 : trF Try.prog 91 = some c91 := tF (by kernel_rfl)
def c92 : AFn := cF Try.prog 92
theorem t92 : trF Try.prog 92 = some c92 := tF (by kernel_rfl)
def c101 : AFn := cF Try.prog 101
theorem t101 : trF Try.prog 101 = some c101 := tF (by kernel_rfl)
def c102 : AFn := cF Try.prog 102
theorem t102 : trF Try.prog 102 = some c102 := tF (by kernel_rfl)
def c104 : AFn := cF Try.prog 104
theorem t104 : trF Try.prog 104 = some c104 := tF (by kernel_rfl)
def c105 : AFn := cF Try.prog 105
theorem t105 : trF Try.prog 105 = some c105 := tF (by kernel_rfl)
def c107 : AFn := cF Try.prog 107
theorem t107 : trF Try.prog 107 = some c107 := tF (by kernel_rfl)
def c108 : AFn := cF Try.prog 108
theorem t108 : trF Try.prog 108 = some c108 := tF (by kernel_rfl)
end Go.Proofs.Ytkmehmgocelkiaa
end
noncomputable section
namespace Go.Proofs.Ytkmehmgocelkiaa
open Go.AV Go.RowKit
set_option maxRecDepth 100000
structure yac where
 Kind : Int
 N : Int
 S : Str
structure yaa where
 Kind : Int
 N : Int
 S : Str
structure yab where
 Kind : Int
 N : Int
 S : Str
structure yaf where
 rows : (List (List yaa))
inductive TC where
 | c0
 | c2
 | c3
 | c4
 | c5
 | c9
 | c22
 | c24
 | c25
 | c29
 | c31
 | c37
 | c39
 | c50
 | c75
 | c88
 | c93
 | c97
 | c111
 | c116
 | c130
 | c161
def KF : TC → Type
 | .c0 => Unit
 | .c2 => Int
 | .c3 => Int
 | .c4 => Bool
 | .c5 => Int
 | .c9 => Str
 | .c22 => (List (List yac))
 | .c24 => (List (List yaa))
 | .c25 => (List (List yab))
 | .c29 => (List yaa)
 | .c31 => yaf
 | .c37 => (List Str)
 | .c39 => Int
 | .c50 => (List yab)
 | .c75 => (List Int)
 | .c88 => yaa
 | .c93 => (List yac)
 | .c97 => (List yaf)
 | .c111 => Int
 | .c116 => yab
 | .c130 => yac
 | .c161 => (List Int)
def yzt : List (Nat × TC) := [(2, .c2), (3, .c3), (4, .c4), (5, .c5), (9, .c9), (22, .c22), (24, .c24), (25, .c25), (29, .c29), (31, .c31), (37, .c37), (39, .c39), (50, .c50), (75, .c75), (88, .c88), (93, .c93), (97, .c97), (111, .c111), (116, .c116), (130, .c130), (161, .c161)]
def code (t : Nat) : TC := lkC .c0 yzt t
abbrev KK (t : Nat) : Type := KF (code t)
def yaz : Enc yac := yqJ ((yiY (tbI .u8) (yiY (tbI .u8) tbS)) : Tb KK _).E (fun x : yac => (x.Kind, x.N, x.S))
def b130 : Tb KK yac := yq4 (yiY (tbI .u8) (yiY (tbI .u8) tbS)) (fun x : yac => (x.Kind, x.N, x.S)) (fun y => (⟨y.1, y.2.1, y.2.2⟩ : yac)) yaz
def yb4 : Enc yaa := yqJ ((yiY (tbI .i64) (yiY (tbI .i64) tbS)) : Tb KK _).E (fun x : yaa => (x.Kind, x.N, x.S))
def b88 : Tb KK yaa := yq4 (yiY (tbI .i64) (yiY (tbI .i64) tbS)) (fun x : yaa => (x.Kind, x.N, x.S)) (fun y => (⟨y.1, y.2.1, y.2.2⟩ : yaa)) yb4
def ycX : Enc yab := yqJ ((yiY (tbI .i64) (yiY (tbI .i64) tbS)) : Tb KK _).E (fun x : yab => (x.Kind, x.N, x.S))
def b116 : Tb KK yab := yq4 (yiY (tbI .i64) (yiY (tbI .i64) tbS)) (fun x : yab => (x.Kind, x.N, x.S)) (fun y => (⟨y.1, y.2.1, y.2.2⟩ : yab)) ycX
def ygR : Enc yaf := yqJ ((tbL 29 (eSl yb4) : Tb KK (List (List yaa))) : Tb KK _).E (fun x : yaf => x.rows)
def b31 : Tb KK yaf := yq4 (tbL 29 (eSl yb4) : Tb KK (List (List yaa))) (fun x : yaf => x.rows) (fun y => (⟨y⟩ : yaf)) ygR
def TF : (c : TC) → Tb KK (KF c)
 | .c0 => tbU
 | .c2 => (tbI .i64)
 | .c3 => (tbI .i64)
 | .c4 => tbB
 | .c5 => (tbI .u8)
 | .c9 => tbS
 | .c22 => (tbL 93 (eSl yaz) : Tb KK (List (List yac)))
 | .c24 => (tbL 29 (eSl yb4) : Tb KK (List (List yaa)))
 | .c25 => (tbL 50 (eSl ycX) : Tb KK (List (List yab)))
 | .c29 => (tbL 88 yb4 : Tb KK (List yaa))
 | .c31 => b31
 | .c37 => (tbL 9 eS : Tb KK (List Str))
 | .c39 => (tbI .i64)
 | .c50 => (tbL 116 ycX : Tb KK (List yab))
 | .c75 => (tbL 5 (eI .u8) : Tb KK (List Int))
 | .c88 => b88
 | .c93 => (tbL 130 yaz : Tb KK (List yac))
 | .c97 => (tbL 31 ygR : Tb KK (List yaf))
 | .c111 => (tbI .u64)
 | .c116 => b116
 | .c130 => b130
 | .c161 => (tbL 3 (eI .i64) : Tb KK (List Int))
def CC : Cx KK := @cxOf TC KF code TF
theorem ypx : TbOk Try.prog CC b130 := ykb (yhu (yg0 _) (yhu (yg0 _) yqw)) (fun y => rfl) (fun x => rfl)
theorem yhP : ∀ x, dwks (yaz.c x) = yaz.c x := ypx.dw
theorem yhT : ∀ x m, hlts m (yaz.c x) = true := ypx.hl
theorem ysr : TbOk Try.prog CC b88 := ykb (yhu (yg0 _) (yhu (yg0 _) yqw)) (fun y => rfl) (fun x => rfl)
theorem yfx : ∀ x, dwks (yb4.c x) = yb4.c x := ysr.dw
theorem yfy : ∀ x m, hlts m (yb4.c x) = true := ysr.hl
theorem yoZ : TbOk Try.prog CC b116 := ykb (yhu (yg0 _) (yhu (yg0 _) yqw)) (fun y => rfl) (fun x => rfl)
theorem yhW : ∀ x, dwks (ycX.c x) = ycX.c x := yoZ.dw
theorem yhQ : ∀ x m, hlts m (ycX.c x) = true := yoZ.hl
theorem yss : TbOk Try.prog CC b31 := ykb (yhg _ rfl (ypS yfx) (ynF yfy)) (fun y => rfl) (fun x => rfl)
theorem yri : ∀ x, dwks (ygR.c x) = ygR.c x := yss.dw
theorem yq3 : ∀ x m, hlts m (ygR.c x) = true := yss.hl
theorem ybd : CxOk Try.prog CC := @yvK TC KF code _ TF fun c => match c with
 | .c0 => yxM
 | .c2 => (yg0 _)
 | .c3 => (yg0 _)
 | .c4 => yxF
 | .c5 => (yg0 _)
 | .c9 => yqw
 | .c22 => (yhg _ rfl (ypS yhP) (ynF yhT))
 | .c24 => (yhg _ rfl (ypS yfx) (ynF yfy))
 | .c25 => (yhg _ rfl (ypS yhW) (ynF yhQ))
 | .c29 => (yhg _ rfl yfx yfy)
 | .c31 => yss
 | .c37 => (yhg _ rfl (fun _ => rfl) (fun _ _ => rfl))
 | .c39 => (yg0 _)
 | .c50 => (yhg _ rfl yhW yhQ)
 | .c75 => (yhg _ rfl (fun _ => rfl) (fun _ _ => rfl))
 | .c88 => ysr
 | .c93 => (yhg _ rfl yhP yhT)
 | .c97 => (yhg _ rfl yri yq3)
 | .c111 => (yg0 _)
 | .c116 => yoZ
 | .c130 => ypx
 | .c161 => (yhg _ rfl (fun _ => rfl) (fun _ _ => rfl))
def yb0 (a0 : Int) (r0 : yaa) : Prop :=
 (⟨(2 : Int), a0, ([] : Str)⟩ : yaa) = r0
def yhV : Sp KK := ⟨36, [.v 2], [88], appW (K := KK) [88] [.v 2] yb0⟩
def ylP : An KK := (.s .o (.s .o .o))
def ylO : Cf KK := ⟨CC, [], [], 5, [], none, false⟩
theorem ylK : SpOk Try.prog CC yhV := yat (F := ylO) (ps := [.v 2]) (rs := [88]) (w := yb0) ybd yav yaw t36 (A := ylP) (by kernel_rfl) (by kernel_rfl) (fun a0 r0 => show _ = _ by kernel_rfl)
def ydI (a0 : Int) (r0 : Bool) : Prop :=
 (!(a0 == a0)) = r0
def ygG : Sp KK := ⟨90, [.v 3], [4], appW (K := KK) [4] [.v 3] ydI⟩
def yj7 : An KK := (.s .o (.s .o .o))
def yj5 : Cf KK := ⟨CC, [], [], 6, [], none, false⟩
theorem yj6 : SpOk Try.prog CC ygG := yat (F := yj5) (ps := [.v 3]) (rs := [4]) (w := ydI) ybd yav yaw t90 (A := yj7) (by kernel_rfl) (by kernel_rfl) (fun a0 r0 => show _ = _ by kernel_rfl)
def ycY (a0 a1 r0 : Int) : Prop :=
 ∃ z1, (ydI a0 z1) /\ ∃ z2, (ydI a1 z2) /\ cnd z1 (cnd z2 ((0 : Int) = r0) ((-1 : Int) = r0)) (cnd z2 ((1 : Int) = r0) (cnd (decide (a0 < a1)) ((-1 : Int) = r0) (cnd (decide (a1 < a0)) ((1 : Int) = r0) ((0 : Int) = r0))))
def yft : Sp KK := ⟨69, [.v 3, .v 3], [3], appW (K := KK) [3] [.v 3, .v 3] ycY⟩
def yi3 : An KK := (.s .o (.s .o (.s .o (.s (.s .o (.c (.s (.s .o (.c (.s .o .o) .o)) (.s .o .o)) .o)) (.s (.s .o (.c (.s .o .o) .o)) (.s (.s .o (.c (.s .o .o) .o)) (.s (.s .o (.c (.s .o .o) .o)) (.s .o .o))))))))
def yiW : Cf KK := ⟨CC, [ygG], [], 20, [], none, false⟩
theorem yiV : SpOk Try.prog CC yft := yat (F := yiW) (ps := [.v 3, .v 3]) (rs := [3]) (w := ycY) ybd (yar yj6 yav) yaw t69 (A := yi3) (by kernel_rfl) (by kernel_rfl) (fun a0 a1 r0 => show _ = _ by kernel_rfl)
def ycR (a0 : Int) (r0 : Bool) : Prop :=
 (!(a0 == a0)) = r0
def yfo : Sp KK := ⟨91, [.v 2], [4], appW (K := KK) [4] [.v 2] ycR⟩
def yiS : An KK := (.s .o (.s .o .o))
def yiD : Cf KK := ⟨CC, [], [], 6, [], none, false⟩
theorem yiU : SpOk Try.prog CC yfo := yat (F := yiD) (ps := [.v 2]) (rs := [4]) (w := ycR) ybd yav yaw t91 (A := yiS) (by kernel_rfl) (by kernel_rfl) (fun a0 r0 => show _ = _ by kernel_rfl)
def ycr (a0 a1 r0 : Int) : Prop :=
 ∃ z1, (ycR a0 z1) /\ ∃ z2, (ycR a1 z2) /\ cnd z1 (cnd z2 ((0 : Int) = r0) ((-1 : Int) = r0)) (cnd z2 ((1 : Int) = r0) (cnd (decide (a0 < a1)) ((-1 : Int) = r0) (cnd (decide (a1 < a0)) ((1 : Int) = r0) ((0 : Int) = r0))))
def yeN : Sp KK := ⟨70, [.v 2, .v 2], [3], appW (K := KK) [3] [.v 2, .v 2] ycr⟩
def yhM : An KK := (.s .o (.s .o (.s .o (.s (.s .o (.c (.s (.s .o (.c (.s .o .o) .o)) (.s .o .o)) .o)) (.s (.s .o (.c (.s .o .o) .o)) (.s (.s .o (.c (.s .o .o) .o)) (.s (.s .o (.c (.s .o .o) .o)) (.s .o .o))))))))
def yhL : Cf KK := ⟨CC, [yfo], [], 20, [], none, false⟩
theorem yhN : SpOk Try.prog CC yeN := yat (F := yhL) (ps := [.v 2, .v 2]) (rs := [3]) (w := ycr) ybd (yar yiU yav) yaw t70 (A := yhM) (by kernel_rfl) (by kernel_rfl) (fun a0 a1 r0 => show _ = _ by kernel_rfl)
def ycC (a0 : Str) (r0 : Bool) : Prop :=
 (!(a0 == a0)) = r0
def yeX : Sp KK := ⟨92, [.v 9], [4], appW (K := KK) [4] [.v 9] ycC⟩
def yij : An KK := (.s .o (.s .o .o))
def yin : Cf KK := ⟨CC, [], [], 6, [], none, false⟩
theorem yig : SpOk Try.prog CC yeX := yat (F := yin) (ps := [.v 9]) (rs := [4]) (w := ycC) ybd yav yaw t92 (A := yij) (by kernel_rfl) (by kernel_rfl) (fun a0 r0 => show _ = _ by kernel_rfl)
def yce (a0 a1 : Str) (r0 : Int) : Prop :=
 ∃ z1, (ycC a0 z1) /\ ∃ z2, (ycC a1 z2) /\ cnd z1 (cnd z2 ((0 : Int) = r0) ((-1 : Int) = r0)) (cnd z2 ((1 : Int) = r0) (cnd (Op.bytesLess a0 a1) ((-1 : Int) = r0) (cnd (!(Op.bytesLess a0 a1 || a0 == a1)) ((1 : Int) = r0) ((0 : Int) = r0))))
def yev : Sp KK := ⟨71, [.v 9, .v 9], [3], appW (K := KK) [3] [.v 9, .v 9] yce⟩
def yg5 : An KK := (.s .o (.s .o (.s .o (.s (.s .o (.c (.s (.s .o (.c (.s .o .o) .o)) (.s .o .o)) .o)) (.s (.s .o (.c (.s .o .o) .o)) (.s (.s .o (.c (.s .o .o) .o)) (.s (.s .o (.c (.s .o .o) .o)) (.s .o .o))))))))
def ygS : Cf KK := ⟨CC, [yeX], [], 20, [], none, false⟩
theorem yhp : SpOk Try.prog CC yev := yat (F := ygS) (ps := [.v 9, .v 9]) (rs := [3]) (w := yce) ybd (yar yig yav) yaw t71 (A := yg5) (by kernel_rfl) (by kernel_rfl) (fun a0 a1 r0 => show _ = _ by kernel_rfl)
def ync (a0 : List Int) (r0 : Int) (X1 : Int → Prop) (x1 : Int) : Prop :=
 cnd (decide (x1 < (a0.length : Int))) ((0 <= x1) /\ (x1 < (a0.length : Int)) /\ ∃ y2 : Int, (a0[x1.toNat]? = some y2) /\ cnd (!(y2 == (0 : Int))) (y2 = r0) (X1 (IntKind.i64.wrap (x1 + (1 : Int))))) ((0 : Int) = r0)
def yet (a0 : List Int) (r0 : Int) : Prop :=
 (a0.length <= maxLen -> ∀ X1 : Int -> Prop, (∀ x1, ync a0 r0 X1 x1 -> X1 x1) -> X1 (0 : Int))
def yi7 : Sp KK := ⟨68, [.v 161], [3], appW (K := KK) [3] [.v 161] yet⟩
def ym7 : An KK := (.s .o (.s .o (.s (.s .o (.b (.l ⟨[(3, .kp 5), (6, .kp 6), (7, .kp 7), (8, .it .i64)], [], []⟩ (fun _ => (.s .o (.s (.c .o .o) (.s (.b (.s .o (.s .o (.c (.s .o .o) .o)))) .o))))))) (.s .o .o))))
def ymD : Cf KK := ⟨CC, [], [], 18, [], none, false⟩
theorem ymh : SpOk Try.prog CC yi7 := yat (F := ymD) (ps := [.v 161]) (rs := [3]) (w := yet) ybd yav yaw t68 (A := ym7) (by kernel_rfl) (by kernel_rfl) (fun a0 r0 => show _ = _ by kernel_rfl)
def ydR (a0 a1 : yaa) (r0 : Int) : Prop :=
 ∃ z1, (ycY a0.Kind a1.Kind z1) /\ ∃ z2, (ycr a0.N a1.N z2) /\ ∃ z3, (yce a0.S a1.S z3) /\ ∃ z4, (yet ([z1, z2, z3] : List Int) z4) /\ z4 = r0
def ygy : Sp KK := ⟨46, [.v 88, .v 88], [3], appW (K := KK) [3] [.v 88, .v 88] ydR⟩
def yj1 : An KK := (.s .o (.s .o .o))
def yka : Cf KK := ⟨CC, [yft, yeN, yev, yi7], [], 22, [], none, false⟩
theorem yj4 : SpOk Try.prog CC ygy := yat (F := yka) (ps := [.v 88, .v 88]) (rs := [3]) (w := ydR) ybd (yar yiV (yar yhN (yar yhp (yar ymh yav)))) yaw t46 (A := yj1) (by kernel_rfl) (by kernel_rfl) (fun a0 a1 r0 => show _ = _ by kernel_rfl)
def ye3 (a0 a1 : List yaa) (r0 : Int) (g2 : yaa → yaa → Int → Prop) (X1 : Int → Prop) (x1 : Int) : Prop :=
 cnd (decide (x1 < (a0.length : Int))) ((0 <= x1) /\ (x1 < (a0.length : Int)) /\ ∃ y2 : yaa, (a0[x1.toNat]? = some y2) /\ (a1.length <= maxLen -> cnd (decide ((a1.length : Int) <= x1)) ((1 : Int) = r0) ((0 <= x1) /\ (x1 < (a1.length : Int)) /\ ∃ y3 : yaa, (a1[x1.toNat]? = some y3) /\ ∃ z4, (g2 y2 y3 z4) /\ cnd (!(z4 == (0 : Int))) (z4 = r0) (X1 (IntKind.i64.wrap (x1 + (1 : Int))))))) ((a0.length <= maxLen -> (a1.length <= maxLen -> cnd (decide ((a0.length : Int) < (a1.length : Int))) ((-1 : Int) = r0) ((0 : Int) = r0))))
def ybT (a0 a1 : List yaa) (g2 : yaa → yaa → Int → Prop) (r0 : Int) : Prop :=
 (a0.length <= maxLen -> ∀ X1 : Int -> Prop, (∀ x1, ye3 a0 a1 r0 g2 X1 x1 -> X1 x1) -> X1 (0 : Int))
def ycJ : Sp KK := ⟨45, [.v 29, .v 29, .f [88, 88] [3]], [3], appW (K := KK) [3] [.v 29, .v 29, .f [88, 88] [3]] ybT⟩
def yfd : An KK := (.s .o (.s (.s .o (.b (.l ⟨[(0, .kp 7), (1, .kp 8), (2, .kp 9), (11, .kp 10), (12, .kp 11), (13, .it .i64)], [], []⟩ (fun _ => (.s .o (.s (.c .o .o) (.s (.b (.s .o (.s (.s .o (.c (.s .o .o) .o)) (.s .o (.s .o (.s .o (.c (.s .o .o) .o))))))) .o))))))) (.s (.s .o (.c (.s .o .o) .o)) (.s .o .o))))
def yfb : Cf KK := ⟨CC, [], [], 39, [], none, false⟩
theorem ye1 : SpOk Try.prog CC ycJ := yat (F := yfb) (ps := [.v 29, .v 29, .f [88, 88] [3]]) (rs := [3]) (w := ybT) ybd yav yaw t45 (A := yfd) (by kernel_rfl) (by kernel_rfl) (fun a0 a1 F2 r0 => show _ = _ by kernel_rfl)
def ya9 (a0 a1 : List yaa) (r0 : Int) : Prop :=
 ∃ z1, (ybT a0 a1 ydR z1) /\ z1 = r0
def ycu : Sp KK := ⟨17, [.v 29, .v 29], [3], appW (K := KK) [3] [.v 29, .v 29] ya9⟩
def ylL : An KK := (.s .o (.s .o .o))
def ylR : Cf KK := ⟨CC, [ygy, ycJ], [], 8, [], none, false⟩
theorem yc5 : SpOk Try.prog CC ycu := yat (F := ylR) (ps := [.v 29, .v 29]) (rs := [3]) (w := ya9) ybd (yar yj4 (yar ye1 yav)) yaw t17 (A := ylL) (by kernel_rfl) (by kernel_rfl) (fun a0 a1 r0 => show _ = _ by kernel_rfl)
def ycz (a0 r0 : List (List yaa)) : Prop :=
 a0 = r0
def ybM : Sl KK := ⟨64, [], ⟨[(0, .sl 29)], [], []⟩, ⟨[(2, .fn 88 [] [.px 1000000 0])], [(1000000, 24, [.sl 29])], []⟩, [], [(2, none)], true, fun _ _ _ => True⟩
def ybK : Sl KK := ⟨64, [], ⟨[(0, .sl 29)], [], []⟩, ⟨[(2, .fn 88 [] [.px 1000000 0])], [(1000000, 24, [.sl 29])], []⟩, [], [(2, none)], true, apFs (K := KK) (ctT ybM.ti) (ctT ybM.te) [] ycz⟩
def ygm : An KK := (.s .o (.s .o .o))
def yfQ : Cf KK := ⟨CC, [], [], 4, [], none, false⟩
theorem yf0 : SlOk Try.prog CC ybK := by
 intro fs env out hl hF hW
 obtain ⟨rfl, h0⟩ := ygC hW
 obtain ⟨a0, ea0, rfl, h1⟩ := ycb h0
 obtain ⟨rfl, h2⟩ := ygA h1
 obtain ⟨r0, er0, rfl, h3⟩ := yeI h2
 obtain ⟨rfl, h4⟩ := yeJ h3
 show SlC Try.prog CC ybK [] [.l 29 a0] [.l 29 r0]
 rw [show SlC Try.prog CC ybK [] [.l 29 a0] [.l 29 r0] = SlC Try.prog CC ybM [] [.l 29 a0] [.l 29 r0] by kernel_rfl]
 exact yhj (F := yfQ) ybd yav yaw t64 (A := ygm) (sp := ybM) rfl (by kernel_rfl) (by kernel_rfl) (jah (by kernel_rfl)) (fs := []) (env := [.l 29 a0]) (out := [.l 29 r0]) (by kernel_rfl) hF (X := ycz a0 r0) h4 (by kernel_rfl)
def yfj (a0 r0 : List (List yaa)) (X1 : Int → (List (List yaa)) → Prop) (x1 : Int) (x2 : List (List yaa)) : Prop :=
 cnd (decide (x1 < (a0.length : Int))) ((0 <= x1) /\ (x1 < (a0.length : Int)) /\ ∃ y3 : (List yaa), (a0[x1.toNat]? = some y3) /\ (x2.length <= 1000000000) /\ X1 (IntKind.i64.wrap (x1 + (1 : Int))) (x2 ++ ([y3] : List (List yaa)))) (((a0 = a0)) /\ x2 = r0)
def yb7 (a0 a1 r0 : List (List yaa)) : Prop :=
 (Nat -> (a0.length <= maxLen -> ∀ X1 : Int -> (List (List yaa)) -> Prop, (∀ x1 x2, yfj a0 r0 X1 x1 x2 -> X1 x1 x2) -> X1 (0 : Int) a1))
def ybv : Sl KK := ⟨101, [], ⟨[(0, .row 2000000), (1, .fn 88 [] [.px 2000001 0])], [(2000001, 24, [.sl 29])], [(2000000, 29)]⟩, ⟨[(4, .row 1000000)], [], [(1000000, 29)]⟩, [2000001], [(4, none)], false, fun _ _ _ => True⟩
def ybu : Sl KK := ⟨101, [], ⟨[(0, .row 2000000), (1, .fn 88 [] [.px 2000001 0])], [(2000001, 24, [.sl 29])], [(2000000, 29)]⟩, ⟨[(4, .row 1000000)], [], [(1000000, 29)]⟩, [2000001], [(4, none)], false, apFs (K := KK) (ctT ybv.ti) (ctT ybv.te) [] yb7⟩
def yfh : An KK := (.s .o (.s (.s .o (.b (.g 1 ⟨[(2, .px 100002 0), (6, .fn 88 [] [.px 2000001 0])], [(100002, 24, [.row 2000000]), (2000001, 24, [.sl 29])], [(2000000, 29)]⟩ ⟨[(0, .kp 1), (5, .kp 6), (6, .kp 7), (7, .it .i64), (11, .kp 1), (12, .sl 88), (16, .kp 1), (19, .px 200002 0)], [(200002, 24, [.row 200011]), (2000001, 24, [.kp 9])], [(200011, 29)]⟩ (.s .o (.b (.l ⟨[(0, .kp 1), (5, .kp 6), (6, .kp 7), (7, .it .i64), (16, .kp 1), (19, .px 100002 0)], [(100002, 24, [.row 11]), (2000001, 24, [.kp 9])], [(11, 29)]⟩ (fun _ => (.s .o (.s (.c .o .o) (.s (.b (.s .o (.s .o (.c .o .o)))) .o))))))) .o (.b .o)))) (.s .o .o)))
def yfg : Cf KK := ⟨CC, [], [], 13, [(88, c88)], none, false⟩
theorem yfk : SlOk Try.prog CC ybu := by
 intro fs env out hl hF hW
 obtain ⟨rfl, h0⟩ := ygC hW
 obtain ⟨a0, ea0, rfl, h1⟩ := ycb h0
 obtain ⟨a1, ea1, rfl, h2⟩ := ycb h1
 obtain ⟨rfl, h3⟩ := ygA h2
 obtain ⟨r0, er0, rfl, h4⟩ := yeI h3
 obtain ⟨rfl, h5⟩ := yeJ h4
 show SlC Try.prog CC ybu [] [.l 29 a0, .l 29 a1] [.l 29 r0]
 rw [show SlC Try.prog CC ybu [] [.l 29 a0, .l 29 a1] [.l 29 r0] = SlC Try.prog CC ybv [] [.l 29 a0, .l 29 a1] [.l 29 r0] by kernel_rfl]
 exact yhj (F := yfg) ybd yav yaw t101 (A := yfh) (sp := ybv) rfl (by kernel_rfl) (by kernel_rfl) (jah (by kernel_rfl)) (fs := []) (env := [.l 29 a0, .l 29 a1]) (out := [.l 29 r0]) (by kernel_rfl) hF (X := yb7 a0 a1 r0) h5 (by kernel_rfl) (hI := (ywM t88 yuj))
def ybJ (a0 r0 : List (List yaa)) : Prop :=
 ∃ z1, (yb7 a0 ([] : List (List yaa)) z1) /\ ((a0 = a0)) /\ z1 = r0
def ybG : Sl KK := ⟨86, [], ⟨[(0, .fn 88 [] [.px 2000000 0])], [(2000000, 24, [.sl 29])], []⟩, ⟨[(2, .row 1000000)], [], [(1000000, 29)]⟩, [2000000], [(2, none)], false, fun _ _ _ => True⟩
def ybE : Sl KK := ⟨86, [], ⟨[(0, .fn 88 [] [.px 2000000 0])], [(2000000, 24, [.sl 29])], []⟩, ⟨[(2, .row 1000000)], [], [(1000000, 29)]⟩, [2000000], [(2, none)], false, apFs (K := KK) (ctT ybG.ti) (ctT ybG.te) [] ybJ⟩
def yfA : An KK := (.s .o (.s .o .o))
def yfD : Cf KK := ⟨CC, [], [ybu], 5, [], none, false⟩
theorem yfB : SlOk Try.prog CC ybE := by
 intro fs env out hl hF hW
 obtain ⟨rfl, h0⟩ := ygC hW
 obtain ⟨a0, ea0, rfl, h1⟩ := ycb h0
 obtain ⟨rfl, h2⟩ := ygA h1
 obtain ⟨r0, er0, rfl, h3⟩ := yeI h2
 obtain ⟨rfl, h4⟩ := yeJ h3
 show SlC Try.prog CC ybE [] [.l 29 a0] [.l 29 r0]
 rw [show SlC Try.prog CC ybE [] [.l 29 a0] [.l 29 r0] = SlC Try.prog CC ybG [] [.l 29 a0] [.l 29 r0] by kernel_rfl]
 exact yhj (F := yfD) ybd yav (yfH yfk yaw) t86 (A := yfA) (sp := ybG) rfl (by kernel_rfl) (by kernel_rfl) (jah (by kernel_rfl)) (fs := []) (env := [.l 29 a0]) (out := [.l 29 r0]) (by kernel_rfl) hF (X := ybJ a0 r0) h4 (by kernel_rfl)
def ya0 (x3 : Int) (X2 X1 : Int → (List (List yaa)) → Prop) (x1 : Int) (x5 : Bool) (x6 : List (List yaa)) : Prop :=
 cnd x5 ((0 <= (IntKind.i64.wrap (x3 - (1 : Int)))) /\ ((IntKind.i64.wrap (x3 - (1 : Int))) < (x6.length : Int)) /\ ∃ y7 : (List yaa), (x6[(IntKind.i64.wrap (x3 - (1 : Int))).toNat]? = some y7) /\ (0 <= x3) /\ (x3 < (x6.length : Int)) /\ ∃ y8 : (List yaa), (x6[x3.toNat]? = some y8) /\ (0 <= x3) /\ (x3 < (x6.length : Int)) /\ ∃ y9 : (List yaa), (x6[x3.toNat]? = some y9) /\ (0 <= (IntKind.i64.wrap (x3 - (1 : Int)))) /\ ((IntKind.i64.wrap (x3 - (1 : Int))) < ((x6.set x3.toNat y7).length : Int)) /\ ∃ y10 : (List yaa), ((x6.set x3.toNat y7)[(IntKind.i64.wrap (x3 - (1 : Int))).toNat]? = some y10) /\ X2 (IntKind.i64.wrap (x3 - (1 : Int))) ((x6.set x3.toNat y7).set ((IntKind.i64.wrap (x3 - (1 : Int))).toNat) y8)) (X1 (IntKind.i64.wrap (x1 + (1 : Int))) x6)
def yaY (X1 : Int → (List (List yaa)) → Prop) (x1 a0 : Int) (g3 : (List yaa) → (List yaa) → Int → Prop) (X2 : Int → (List (List yaa)) → Prop) (x3 : Int) (x4 : List (List yaa)) : Prop :=
 ∀ J3 : Bool -> (List (List yaa)) -> Prop, (∀ x5 x6, ya0 x3 X2 X1 x1 x5 x6 -> J3 x5 x6) -> cnd (decide (a0 < x3)) ((0 <= x3) /\ (x3 < (x4.length : Int)) /\ ∃ y11 : (List yaa), (x4[x3.toNat]? = some y11) /\ (0 <= (IntKind.i64.wrap (x3 - (1 : Int)))) /\ ((IntKind.i64.wrap (x3 - (1 : Int))) < (x4.length : Int)) /\ ∃ y12 : (List yaa), (x4[(IntKind.i64.wrap (x3 - (1 : Int))).toNat]? = some y12) /\ ∃ z13, (g3 y11 y12 z13) /\ J3 (decide (z13 < (0 : Int))) x4) (J3 false x4)
def yaZ (a1 a0 : Int) (g3 : (List yaa) → (List yaa) → Int → Prop) (r0 : List (List yaa)) (X1 : Int → (List (List yaa)) → Prop) (x1 : Int) (x2 : List (List yaa)) : Prop :=
 cnd (decide (x1 < a1)) (∀ X2 : Int -> (List (List yaa)) -> Prop, (∀ x3 x4, yaY X1 x1 a0 g3 X2 x3 x4 -> X2 x3 x4) -> X2 x1 x2) (x2 = r0)
def yaj (g3 : (List yaa) → (List yaa) → Int → Prop) (a0 a1 : Int) (a2 r0 : List (List yaa)) : Prop :=
 ∀ X1 : Int -> (List (List yaa)) -> Prop, (∀ x1 x2, yaZ a1 a0 g3 r0 X1 x1 x2 -> X1 x1 x2) -> X1 (IntKind.i64.wrap (a0 + (1 : Int))) a2
def yam (X1 X2 : Int → (List (List yaa)) → Prop) (x1 x3 : Int) (x5 : Bool) (x6 : List (List yaa)) : Prop :=
 cnd x5 ((0 <= (IntKind.i64.wrap (x3 - (1 : Int)))) /\ ((IntKind.i64.wrap (x3 - (1 : Int))) < (x6.length : Int)) /\ ∃ y7 : (List yaa), (x6[(IntKind.i64.wrap (x3 - (1 : Int))).toNat]? = some y7) /\ (0 <= x3) /\ (x3 < (x6.length : Int)) /\ ∃ y8 : (List yaa), (x6[x3.toNat]? = some y8) /\ (0 <= x3) /\ (x3 < (x6.length : Int)) /\ ∃ y9 : (List yaa), (x6[x3.toNat]? = some y9) /\ (0 <= (IntKind.i64.wrap (x3 - (1 : Int)))) /\ ((IntKind.i64.wrap (x3 - (1 : Int))) < ((x6.set x3.toNat y7).length : Int)) /\ ∃ y10 : (List yaa), ((x6.set x3.toNat y7)[(IntKind.i64.wrap (x3 - (1 : Int))).toNat]? = some y10) /\ X2 (IntKind.i64.wrap (x3 - (1 : Int))) ((x6.set x3.toNat y7).set ((IntKind.i64.wrap (x3 - (1 : Int))).toNat) y8)) (X1 (IntKind.i64.wrap (x1 + (1 : Int))) x6)
def yaD (X1 : Int → (List (List yaa)) → Prop) (a0 : Int) (g3 : (List yaa) → (List yaa) → Int → Prop) (x1 : Int) (X2 : Int → (List (List yaa)) → Prop) (x3 : Int) (x4 : List (List yaa)) : Prop :=
 cnd (decide (a0 < x3)) ((0 <= x3) /\ (x3 < (x4.length : Int)) /\ ∃ y11 : (List yaa), (x4[x3.toNat]? = some y11) /\ (0 <= (IntKind.i64.wrap (x3 - (1 : Int)))) /\ ((IntKind.i64.wrap (x3 - (1 : Int))) < (x4.length : Int)) /\ ∃ y12 : (List yaa), (x4[(IntKind.i64.wrap (x3 - (1 : Int))).toNat]? = some y12) /\ ∃ z13, (g3 y11 y12 z13) /\ yam X1 X2 x1 x3 (decide (z13 < (0 : Int))) x4) (yam X1 X2 x1 x3 false x4)
def yaE (a0 a1 : Int) (g3 : (List yaa) → (List yaa) → Int → Prop) (r0 : List (List yaa)) (X1 : Int → (List (List yaa)) → Prop) (x1 : Int) (x2 : List (List yaa)) : Prop :=
 cnd (decide (x1 < a1)) (∀ X2 : Int -> (List (List yaa)) -> Prop, (∀ x3 x4, yaD X1 a0 g3 x1 X2 x3 x4 -> X2 x3 x4) -> X2 x1 x2) (x2 = r0)
def ya1 (g3 : (List yaa) → (List yaa) → Int → Prop) (a0 a1 : Int) (a2 r0 : List (List yaa)) : Prop :=
 ∀ X1 : Int -> (List (List yaa)) -> Prop, (∀ x1 x2, yaE a0 a1 g3 r0 X1 x1 x2 -> X1 x1 x2) -> X1 (IntKind.i64.wrap (a0 + (1 : Int))) a2
theorem ycE (X1 X2 : Int → (List (List yaa)) → Prop) (x1 x3 : Int) {x5 : Bool} {x6 : List (List yaa)} (h : yam X1 X2 x1 x3 x5 x6) : ya0 x3 X2 X1 x1 x5 x6 := by
 unfold ya0
 unfold yam at h
 exact h
theorem ycI (X1 : Int → (List (List yaa)) → Prop) (a0 : Int) (g3 : (List yaa) → (List yaa) → Int → Prop) (x1 : Int) {X2 : Int → (List (List yaa)) → Prop} {x3 : Int} {x4 : List (List yaa)} (h : yaD X1 a0 g3 x1 X2 x3 x4) : yaY X1 x1 a0 g3 X2 x3 x4 := by
 unfold yaY
 unfold yaD at h
 intro J3 kJ3
 have hJ3 : ∀ x5 x6, yam X1 X2 x1 x3 x5 x6 -> J3 x5 x6 := fun x5 x6 q => kJ3 x5 x6 (ycE X1 X2 x1 x3 q)
 refine yag h (fun h => ?_) (fun h => ?_)
 ·obtain ⟨h0, h⟩ := h
  refine ⟨h0, ?_⟩
  obtain ⟨h0, h⟩ := h
  refine ⟨h0, ?_⟩
  obtain ⟨y11, h⟩ := h
  refine ⟨y11, ?_⟩
  obtain ⟨h0, h⟩ := h
  refine ⟨h0, ?_⟩
  obtain ⟨h0, h⟩ := h
  refine ⟨h0, ?_⟩
  obtain ⟨h0, h⟩ := h
  refine ⟨h0, ?_⟩
  obtain ⟨y12, h⟩ := h
  refine ⟨y12, ?_⟩
  obtain ⟨h0, h⟩ := h
  refine ⟨h0, ?_⟩
  obtain ⟨z13, h⟩ := h
  refine ⟨z13, ?_⟩
  obtain ⟨h0, h⟩ := h
  refine ⟨h0, ?_⟩
  exact hJ3 _ _ h
 ·exact hJ3 _ _ h
theorem ycM (a0 a1 : Int) (g3 : (List yaa) → (List yaa) → Int → Prop) (r0 : List (List yaa)) {X1 : Int → (List (List yaa)) → Prop} {x1 : Int} {x2 : List (List yaa)} (h : yaE a0 a1 g3 r0 X1 x1 x2) : yaZ a1 a0 g3 r0 X1 x1 x2 := by
 unfold yaZ
 unfold yaE at h
 refine yag h (fun h => ?_) (fun h => ?_)
 ·intro X2 k
  exact h X2 (fun x3 x4 q => k x3 x4 (ycI X1 a0 g3 x1 q))
 ·exact h
theorem yda (g3 : (List yaa) → (List yaa) → Int → Prop) (a0 a1 : Int) (a2 r0 : List (List yaa)) (h : ya1 g3 a0 a1 a2 r0) : yaj g3 a0 a1 a2 r0 := by
 unfold yaj
 unfold ya1 at h
 intro X1 k
 exact h X1 (fun x1 x2 q => k x1 x2 (ycM a0 a1 g3 r0 q))
def yaI : Sl KK := ⟨104, [(3, [29, 29], [3])], ⟨[(0, .row 2000000), (1, .it .i64), (2, .it .i64)], [], [(2000000, 29)]⟩, ⟨[], [], [(2000000, 29)]⟩, [], [], true, fun _ _ _ => True⟩
def yaH : Sl KK := ⟨104, [(3, [29, 29], [3])], ⟨[(0, .row 2000000), (1, .it .i64), (2, .it .i64)], [], [(2000000, 29)]⟩, ⟨[], [], [(2000000, 29)]⟩, [], [], true, apFs (K := KK) (ctT yaI.ti) (ctT yaI.te) [(3, [29, 29], [3])] yaj⟩
def yc3 : An KK := (.s .o (.b (.l ⟨[(0, .row 2000000), (1, .kp 1), (2, .kp 2), (3, .kp 3), (8, .it .i64)], [], [(2000000, 29)]⟩ (fun _ => (.s (.s .o (.c .o .o)) (.s (.b (.s .o (.b (.l ⟨[(0, .row 2000000), (1, .kp 1), (2, .kp 2), (3, .kp 3), (8, .kp 31), (9, .it .i64)], [], [(2000000, 29)]⟩ (fun _ => (.s (.j ⟨[(0, .row 2000000), (1, .kp 1), (2, .kp 2), (3, .kp 3), (8, .kp 31), (9, .kp 36), (34, .bl)], [], [(2000000, 29)]⟩ .o (fun _ => (.c .o .o))) (.s (.b .o) .o))))))) .o))))))
def yc4 : Cf KK := ⟨CC, [], [], 53, [], none, false⟩
theorem yc2 : SlOk Try.prog CC yaH := by
 intro fs env out hl hF hW
 obtain ⟨F3, fs3, rfl, h0⟩ := yjN hW
 obtain ⟨rfl, h1⟩ := ygC h0
 obtain ⟨a0, ea0, rfl, h2⟩ := ycb h1
 obtain ⟨a1, ea1, rfl, h3⟩ := ycb h2
 obtain ⟨a2, ea2, rfl, h4⟩ := ycb h3
 obtain ⟨rfl, h5⟩ := ygA h4
 obtain ⟨r0, er0, rfl, h6⟩ := yeI h5
 obtain ⟨rfl, h7⟩ := yeJ h6
 show SlC Try.prog CC yaH [F3] [.i a0, .i a1, .l 29 a2] [.l 29 r0]
 rw [show SlC Try.prog CC yaH [F3] [.i a0, .i a1, .l 29 a2] [.l 29 r0] = SlC Try.prog CC yaI [F3] [.i a0, .i a1, .l 29 a2] [.l 29 r0] by kernel_rfl]
 exact yhj (F := yc4) ybd yav yaw t104 (A := yc3) (sp := yaI) rfl (by kernel_rfl) (by kernel_rfl) (jah (by kernel_rfl)) (fs := [F3]) (env := [.i a0, .i a1, .l 29 a2]) (out := [.l 29 r0]) (by kernel_rfl) hF (X := yaj (curF [3] [29, 29] F3.W) a0 a1 a2 r0) h7 (by kernel_rfl)
def yb2 (a2 a1 a0 : Int) (r0 : List (List yaa)) (X1 : Int → (List (List yaa)) → Prop) (x1 : Int) (x2 : List (List yaa)) : Prop :=
 cnd (decide (x1 < a2)) ((0 <= (IntKind.i64.wrap (a1 + x1))) /\ ((IntKind.i64.wrap (a1 + x1)) < (x2.length : Int)) /\ ∃ y3 : (List yaa), (x2[(IntKind.i64.wrap (a1 + x1)).toNat]? = some y3) /\ (0 <= (IntKind.i64.wrap (a0 + x1))) /\ ((IntKind.i64.wrap (a0 + x1)) < (x2.length : Int)) /\ ∃ y4 : (List yaa), (x2[(IntKind.i64.wrap (a0 + x1)).toNat]? = some y4) /\ (0 <= (IntKind.i64.wrap (a0 + x1))) /\ ((IntKind.i64.wrap (a0 + x1)) < (x2.length : Int)) /\ ∃ y5 : (List yaa), (x2[(IntKind.i64.wrap (a0 + x1)).toNat]? = some y5) /\ (0 <= (IntKind.i64.wrap (a1 + x1))) /\ ((IntKind.i64.wrap (a1 + x1)) < ((x2.set ((IntKind.i64.wrap (a0 + x1)).toNat) y3).length : Int)) /\ ∃ y6 : (List yaa), ((x2.set ((IntKind.i64.wrap (a0 + x1)).toNat) y3)[(IntKind.i64.wrap (a1 + x1)).toNat]? = some y6) /\ X1 (IntKind.i64.wrap (x1 + (1 : Int))) ((x2.set ((IntKind.i64.wrap (a0 + x1)).toNat) y3).set ((IntKind.i64.wrap (a1 + x1)).toNat) y4)) (x2 = r0)
def yao (g4 : (List yaa) → (List yaa) → Int → Prop) (a0 a1 a2 : Int) (a3 r0 : List (List yaa)) : Prop :=
 ∀ X1 : Int -> (List (List yaa)) -> Prop, (∀ x1 x2, yb2 a2 a1 a0 r0 X1 x1 x2 -> X1 x1 x2) -> X1 (0 : Int) a3
def yaN : Sl KK := ⟨108, [(4, [29, 29], [3])], ⟨[(0, .row 2000000), (1, .it .i64), (2, .it .i64), (3, .it .i64)], [], [(2000000, 29)]⟩, ⟨[], [], [(2000000, 29)]⟩, [], [], true, fun _ _ _ => True⟩
def yaS : Sl KK := ⟨108, [(4, [29, 29], [3])], ⟨[(0, .row 2000000), (1, .it .i64), (2, .it .i64), (3, .it .i64)], [], [(2000000, 29)]⟩, ⟨[], [], [(2000000, 29)]⟩, [], [], true, apFs (K := KK) (ctT yaN.ti) (ctT yaN.te) [(4, [29, 29], [3])] yao⟩
def ydL : An KK := (.s .o (.b (.l ⟨[(0, .row 2000000), (1, .kp 1), (2, .kp 2), (3, .kp 3), (10, .it .i64)], [], [(2000000, 29)]⟩ (fun _ => (.s (.s .o (.c .o .o)) (.s (.b .o) .o))))))
def ydQ : Cf KK := ⟨CC, [], [], 38, [], none, false⟩
theorem ydM : SlOk Try.prog CC yaS := by
 intro fs env out hl hF hW
 obtain ⟨F4, fs4, rfl, h0⟩ := yjN hW
 obtain ⟨rfl, h1⟩ := ygC h0
 obtain ⟨a0, ea0, rfl, h2⟩ := ycb h1
 obtain ⟨a1, ea1, rfl, h3⟩ := ycb h2
 obtain ⟨a2, ea2, rfl, h4⟩ := ycb h3
 obtain ⟨a3, ea3, rfl, h5⟩ := ycb h4
 obtain ⟨rfl, h6⟩ := ygA h5
 obtain ⟨r0, er0, rfl, h7⟩ := yeI h6
 obtain ⟨rfl, h8⟩ := yeJ h7
 show SlC Try.prog CC yaS [F4] [.i a0, .i a1, .i a2, .l 29 a3] [.l 29 r0]
 rw [show SlC Try.prog CC yaS [F4] [.i a0, .i a1, .i a2, .l 29 a3] [.l 29 r0] = SlC Try.prog CC yaN [F4] [.i a0, .i a1, .i a2, .l 29 a3] [.l 29 r0] by kernel_rfl]
 exact yhj (F := ydQ) ybd yav yaw t108 (A := ydL) (sp := yaN) rfl (by kernel_rfl) (by kernel_rfl) (jah (by kernel_rfl)) (fs := [F4]) (env := [.i a0, .i a1, .i a2, .l 29 a3]) (out := [.l 29 r0]) (by kernel_rfl) hF (X := yao (curF [3] [29, 29] F4.W) a0 a1 a2 a3 r0) h8 (by kernel_rfl)
def ycl (g4 : (List yaa) → (List yaa) → Int → Prop) (a1 : Int) (r0 : List (List yaa)) (X1 : Int → Int → (List (List yaa)) → Prop) (x1 x2 : Int) (x3 : List (List yaa)) : Prop :=
 cnd (!(x1 == x2)) (cnd (decide (x2 < x1)) (∃ z4, (yao g4 (IntKind.i64.wrap (a1 - x1)) a1 x2 x3 z4) /\ (z4.length = x3.length) /\ X1 (IntKind.i64.wrap (x1 - x2)) x2 z4) (∃ z5, (yao g4 (IntKind.i64.wrap (a1 - x1)) (IntKind.i64.wrap ((IntKind.i64.wrap (a1 + x2)) - x1)) x1 x3 z5) /\ (z5.length = x3.length) /\ X1 x1 (IntKind.i64.wrap (x2 - x1)) z5)) (∃ z6, (yao g4 (IntKind.i64.wrap (a1 - x1)) a1 x1 x3 z6) /\ (z6.length = x3.length) /\ z6 = r0)
def yax (g4 : (List yaa) → (List yaa) → Int → Prop) (a0 a1 a2 : Int) (a3 r0 : List (List yaa)) : Prop :=
 ∀ X1 : Int -> Int -> (List (List yaa)) -> Prop, (∀ x1 x2 x3, ycl g4 a1 r0 X1 x1 x2 x3 -> X1 x1 x2 x3) -> X1 (IntKind.i64.wrap (a1 - a0)) (IntKind.i64.wrap (a2 - a1)) a3
def ya5 : Sl KK := ⟨107, [(4, [29, 29], [3])], ⟨[(0, .row 2000000), (1, .it .i64), (2, .it .i64), (3, .it .i64)], [], [(2000000, 29)]⟩, ⟨[], [], [(2000000, 29)]⟩, [], [], true, fun _ _ _ => True⟩
def ya3 : Sl KK := ⟨107, [(4, [29, 29], [3])], ⟨[(0, .row 2000000), (1, .it .i64), (2, .it .i64), (3, .it .i64)], [], [(2000000, 29)]⟩, ⟨[], [], [(2000000, 29)]⟩, [], [], true, apFs (K := KK) (ctT ya5.ti) (ctT ya5.te) [(4, [29, 29], [3])] yax⟩
def yey : An KK := (.s .o (.s .o (.s (.b (.l ⟨[(0, .row 2000000), (2, .kp 5), (4, .kp 6), (10, .it .i64), (11, .it .i64)], [], [(2000000, 29)]⟩ (fun _ => (.s (.s .o (.c .o .o)) (.b (.s .o (.c (.s .o .o) (.s .o .o)))))))) .o)))
def yer : Cf KK := ⟨CC, [], [yaS], 58, [], none, false⟩
theorem yeE : SlOk Try.prog CC ya3 := by
 intro fs env out hl hF hW
 obtain ⟨F4, fs4, rfl, h0⟩ := yjN hW
 obtain ⟨rfl, h1⟩ := ygC h0
 obtain ⟨a0, ea0, rfl, h2⟩ := ycb h1
 obtain ⟨a1, ea1, rfl, h3⟩ := ycb h2
 obtain ⟨a2, ea2, rfl, h4⟩ := ycb h3
 obtain ⟨a3, ea3, rfl, h5⟩ := ycb h4
 obtain ⟨rfl, h6⟩ := ygA h5
 obtain ⟨r0, er0, rfl, h7⟩ := yeI h6
 obtain ⟨rfl, h8⟩ := yeJ h7
 show SlC Try.prog CC ya3 [F4] [.i a0, .i a1, .i a2, .l 29 a3] [.l 29 r0]
 rw [show SlC Try.prog CC ya3 [F4] [.i a0, .i a1, .i a2, .l 29 a3] [.l 29 r0] = SlC Try.prog CC ya5 [F4] [.i a0, .i a1, .i a2, .l 29 a3] [.l 29 r0] by kernel_rfl]
 exact yhj (F := yer) ybd yav (yfH ydM yaw) t107 (A := yey) (sp := ya5) rfl (by kernel_rfl) (by kernel_rfl) (jah (by kernel_rfl)) (fs := [F4]) (env := [.i a0, .i a1, .i a2, .l 29 a3]) (out := [.l 29 r0]) (by kernel_rfl) hF (X := yax (curF [3] [29, 29] F4.W) a0 a1 a2 a3 r0) h8 (by kernel_rfl)
def ybn (x1 : Int) (r0 : List (List yaa)) (X2 : Int → (List (List yaa)) → Prop) (x7 : Int) (x8 : List (List yaa)) : Prop :=
 cnd (decide (x7 < (IntKind.i64.wrap (x1 - (1 : Int))))) ((0 <= (IntKind.i64.wrap (x7 + (1 : Int)))) /\ ((IntKind.i64.wrap (x7 + (1 : Int))) < (x8.length : Int)) /\ ∃ y9 : (List yaa), (x8[(IntKind.i64.wrap (x7 + (1 : Int))).toNat]? = some y9) /\ (0 <= x7) /\ (x7 < (x8.length : Int)) /\ ∃ y10 : (List yaa), (x8[x7.toNat]? = some y10) /\ (0 <= x7) /\ (x7 < (x8.length : Int)) /\ ∃ y11 : (List yaa), (x8[x7.toNat]? = some y11) /\ (0 <= (IntKind.i64.wrap (x7 + (1 : Int)))) /\ ((IntKind.i64.wrap (x7 + (1 : Int))) < ((x8.set x7.toNat y9).length : Int)) /\ ∃ y12 : (List yaa), ((x8.set x7.toNat y9)[(IntKind.i64.wrap (x7 + (1 : Int))).toNat]? = some y12) /\ X2 (IntKind.i64.wrap (x7 + (1 : Int))) ((x8.set x7.toNat y9).set ((IntKind.i64.wrap (x7 + (1 : Int))).toNat) y10)) (x8 = r0)
def ybs (a0 : Int) (g4 : (List yaa) → (List yaa) → Int → Prop) (r0 : List (List yaa)) (X1 : Int → Int → (List (List yaa)) → Prop) (x1 x2 : Int) (x3 : List (List yaa)) : Prop :=
 cnd (decide (x1 < x2)) ((0 <= (IntKind.i64.wrap ((IntKind.u64.wrap (IntKind.i64.wrap (x1 + x2))).fdiv (2 ^ (min (1 : Int).toNat IntKind.u64.bits))))) /\ ((IntKind.i64.wrap ((IntKind.u64.wrap (IntKind.i64.wrap (x1 + x2))).fdiv (2 ^ (min (1 : Int).toNat IntKind.u64.bits)))) < (x3.length : Int)) /\ ∃ y4 : (List yaa), (x3[(IntKind.i64.wrap ((IntKind.u64.wrap (IntKind.i64.wrap (x1 + x2))).fdiv (2 ^ (min (1 : Int).toNat IntKind.u64.bits)))).toNat]? = some y4) /\ (0 <= a0) /\ (a0 < (x3.length : Int)) /\ ∃ y5 : (List yaa), (x3[a0.toNat]? = some y5) /\ ∃ z6, (g4 y4 y5 z6) /\ cnd (decide (z6 < (0 : Int))) (X1 (IntKind.i64.wrap ((IntKind.i64.wrap ((IntKind.u64.wrap (IntKind.i64.wrap (x1 + x2))).fdiv (2 ^ (min (1 : Int).toNat IntKind.u64.bits)))) + (1 : Int))) x2 x3) (X1 x1 (IntKind.i64.wrap ((IntKind.u64.wrap (IntKind.i64.wrap (x1 + x2))).fdiv (2 ^ (min (1 : Int).toNat IntKind.u64.bits)))) x3)) (∀ X2 : Int -> (List (List yaa)) -> Prop, (∀ x7 x8, ybn x1 r0 X2 x7 x8 -> X2 x7 x8) -> X2 a0 x3)
def ybm (x13 : Int) (r0 : List (List yaa)) (X4 : Int → (List (List yaa)) → Prop) (x19 : Int) (x20 : List (List yaa)) : Prop :=
 cnd (decide (x13 < x19)) ((0 <= (IntKind.i64.wrap (x19 - (1 : Int)))) /\ ((IntKind.i64.wrap (x19 - (1 : Int))) < (x20.length : Int)) /\ ∃ y21 : (List yaa), (x20[(IntKind.i64.wrap (x19 - (1 : Int))).toNat]? = some y21) /\ (0 <= x19) /\ (x19 < (x20.length : Int)) /\ ∃ y22 : (List yaa), (x20[x19.toNat]? = some y22) /\ (0 <= x19) /\ (x19 < (x20.length : Int)) /\ ∃ y23 : (List yaa), (x20[x19.toNat]? = some y23) /\ (0 <= (IntKind.i64.wrap (x19 - (1 : Int)))) /\ ((IntKind.i64.wrap (x19 - (1 : Int))) < ((x20.set x19.toNat y21).length : Int)) /\ ∃ y24 : (List yaa), ((x20.set x19.toNat y21)[(IntKind.i64.wrap (x19 - (1 : Int))).toNat]? = some y24) /\ X4 (IntKind.i64.wrap (x19 - (1 : Int))) ((x20.set x19.toNat y21).set ((IntKind.i64.wrap (x19 - (1 : Int))).toNat) y22)) (x20 = r0)
def ybl (a1 : Int) (g4 : (List yaa) → (List yaa) → Int → Prop) (r0 : List (List yaa)) (X3 : Int → Int → (List (List yaa)) → Prop) (x13 x14 : Int) (x15 : List (List yaa)) : Prop :=
 cnd (decide (x13 < x14)) ((0 <= a1) /\ (a1 < (x15.length : Int)) /\ ∃ y16 : (List yaa), (x15[a1.toNat]? = some y16) /\ (0 <= (IntKind.i64.wrap ((IntKind.u64.wrap (IntKind.i64.wrap (x13 + x14))).fdiv (2 ^ (min (1 : Int).toNat IntKind.u64.bits))))) /\ ((IntKind.i64.wrap ((IntKind.u64.wrap (IntKind.i64.wrap (x13 + x14))).fdiv (2 ^ (min (1 : Int).toNat IntKind.u64.bits)))) < (x15.length : Int)) /\ ∃ y17 : (List yaa), (x15[(IntKind.i64.wrap ((IntKind.u64.wrap (IntKind.i64.wrap (x13 + x14))).fdiv (2 ^ (min (1 : Int).toNat IntKind.u64.bits)))).toNat]? = some y17) /\ ∃ z18, (g4 y16 y17 z18) /\ cnd (!(decide (z18 < (0 : Int)))) (X3 (IntKind.i64.wrap ((IntKind.i64.wrap ((IntKind.u64.wrap (IntKind.i64.wrap (x13 + x14))).fdiv (2 ^ (min (1 : Int).toNat IntKind.u64.bits)))) + (1 : Int))) x14 x15) (X3 x13 (IntKind.i64.wrap ((IntKind.u64.wrap (IntKind.i64.wrap (x13 + x14))).fdiv (2 ^ (min (1 : Int).toNat IntKind.u64.bits)))) x15)) (∀ X4 : Int -> (List (List yaa)) -> Prop, (∀ x19 x20, ybm x13 r0 X4 x19 x20 -> X4 x19 x20) -> X4 a1 x15)
def ybo (Xr : ((List yaa) → (List yaa) → Int → Prop) → Int → Int → Int → (List (List yaa)) → (List (List yaa)) → Prop) (g4 : (List yaa) → (List yaa) → Int → Prop) (a0 a2 x37 : Int) (r0 : List (List yaa)) (x39 : Bool) (x40 : List (List yaa)) : Prop :=
 cnd x39 (∃ z41, (Xr g4 (IntKind.i64.wrap ((IntKind.u64.wrap (IntKind.i64.wrap (a0 + a2))).fdiv (2 ^ (min (1 : Int).toNat IntKind.u64.bits)))) x37 a2 x40 z41) /\ (z41.length = x40.length) /\ z41 = r0) (x40 = r0)
def ybk (Xr : ((List yaa) → (List yaa) → Int → Prop) → Int → Int → Int → (List (List yaa)) → (List (List yaa)) → Prop) (g4 : (List yaa) → (List yaa) → Int → Prop) (a0 a2 : Int) (r0 : List (List yaa)) (x37 : Int) (x38 : List (List yaa)) : Prop :=
 ∀ J9 : Bool -> (List (List yaa)) -> Prop, (∀ x39 x40, ybo Xr g4 a0 a2 x37 r0 x39 x40 -> J9 x39 x40) -> cnd (decide ((IntKind.i64.wrap ((IntKind.u64.wrap (IntKind.i64.wrap (a0 + a2))).fdiv (2 ^ (min (1 : Int).toNat IntKind.u64.bits)))) < x37)) (J9 (decide (x37 < a2)) x38) (J9 false x38)
def ybg (Xr : ((List yaa) → (List yaa) → Int → Prop) → Int → Int → Int → (List (List yaa)) → (List (List yaa)) → Prop) (g4 : (List yaa) → (List yaa) → Int → Prop) (a0 x34 a2 : Int) (J8 : Int → (List (List yaa)) → Prop) (x35 : Int) (x42 : Bool) (x43 : List (List yaa)) : Prop :=
 cnd x42 (∃ z44, (Xr g4 a0 x34 (IntKind.i64.wrap ((IntKind.u64.wrap (IntKind.i64.wrap (a0 + a2))).fdiv (2 ^ (min (1 : Int).toNat IntKind.u64.bits)))) x43 z44) /\ (z44.length = x43.length) /\ J8 x35 z44) (J8 x35 x43)
def ybp (Xr : ((List yaa) → (List yaa) → Int → Prop) → Int → Int → Int → (List (List yaa)) → (List (List yaa)) → Prop) (g4 : (List yaa) → (List yaa) → Int → Prop) (a0 a2 : Int) (r0 : List (List yaa)) (x34 x35 : Int) (x36 : List (List yaa)) : Prop :=
 ∀ J8 : Int -> (List (List yaa)) -> Prop, (∀ x37 x38, ybk Xr g4 a0 a2 r0 x37 x38 -> J8 x37 x38) -> ∀ J10 : Bool -> (List (List yaa)) -> Prop, (∀ x42 x43, ybg Xr g4 a0 x34 a2 J8 x35 x42 x43 -> J10 x42 x43) -> cnd (decide (a0 < x34)) (J10 (decide (x34 < (IntKind.i64.wrap ((IntKind.u64.wrap (IntKind.i64.wrap (a0 + a2))).fdiv (2 ^ (min (1 : Int).toNat IntKind.u64.bits)))))) x36) (J10 false x36)
def ybf (g4 : (List yaa) → (List yaa) → Int → Prop) (x28 a1 a0 a2 : Int) (J7 : Int → Int → (List (List yaa)) → Prop) (x45 : Bool) (x46 : List (List yaa)) : Prop :=
 cnd x45 (∃ z47, (yax g4 x28 a1 (IntKind.i64.wrap ((IntKind.i64.wrap ((IntKind.i64.wrap ((IntKind.u64.wrap (IntKind.i64.wrap (a0 + a2))).fdiv (2 ^ (min (1 : Int).toNat IntKind.u64.bits)))) + a1)) - x28)) x46 z47) /\ (z47.length = x46.length) /\ J7 x28 (IntKind.i64.wrap ((IntKind.i64.wrap ((IntKind.i64.wrap ((IntKind.u64.wrap (IntKind.i64.wrap (a0 + a2))).fdiv (2 ^ (min (1 : Int).toNat IntKind.u64.bits)))) + a1)) - x28)) z47) (J7 x28 (IntKind.i64.wrap ((IntKind.i64.wrap ((IntKind.i64.wrap ((IntKind.u64.wrap (IntKind.i64.wrap (a0 + a2))).fdiv (2 ^ (min (1 : Int).toNat IntKind.u64.bits)))) + a1)) - x28)) x46)
def ybq (a0 a2 a1 : Int) (g4 : (List yaa) → (List yaa) → Int → Prop) (Xr : ((List yaa) → (List yaa) → Int → Prop) → Int → Int → Int → (List (List yaa)) → (List (List yaa)) → Prop) (r0 : List (List yaa)) (X6 : Int → Int → (List (List yaa)) → Prop) (x28 x29 : Int) (x30 : List (List yaa)) : Prop :=
 cnd (decide (x28 < x29)) ((0 <= (IntKind.i64.wrap ((IntKind.i64.wrap ((IntKind.i64.wrap ((IntKind.i64.wrap ((IntKind.u64.wrap (IntKind.i64.wrap (a0 + a2))).fdiv (2 ^ (min (1 : Int).toNat IntKind.u64.bits)))) + a1)) - (1 : Int))) - (IntKind.i64.wrap ((IntKind.u64.wrap (IntKind.i64.wrap (x28 + x29))).fdiv (2 ^ (min (1 : Int).toNat IntKind.u64.bits))))))) /\ ((IntKind.i64.wrap ((IntKind.i64.wrap ((IntKind.i64.wrap ((IntKind.i64.wrap ((IntKind.u64.wrap (IntKind.i64.wrap (a0 + a2))).fdiv (2 ^ (min (1 : Int).toNat IntKind.u64.bits)))) + a1)) - (1 : Int))) - (IntKind.i64.wrap ((IntKind.u64.wrap (IntKind.i64.wrap (x28 + x29))).fdiv (2 ^ (min (1 : Int).toNat IntKind.u64.bits)))))) < (x30.length : Int)) /\ ∃ y31 : (List yaa), (x30[(IntKind.i64.wrap ((IntKind.i64.wrap ((IntKind.i64.wrap ((IntKind.i64.wrap ((IntKind.u64.wrap (IntKind.i64.wrap (a0 + a2))).fdiv (2 ^ (min (1 : Int).toNat IntKind.u64.bits)))) + a1)) - (1 : Int))) - (IntKind.i64.wrap ((IntKind.u64.wrap (IntKind.i64.wrap (x28 + x29))).fdiv (2 ^ (min (1 : Int).toNat IntKind.u64.bits)))))).toNat]? = some y31) /\ (0 <= (IntKind.i64.wrap ((IntKind.u64.wrap (IntKind.i64.wrap (x28 + x29))).fdiv (2 ^ (min (1 : Int).toNat IntKind.u64.bits))))) /\ ((IntKind.i64.wrap ((IntKind.u64.wrap (IntKind.i64.wrap (x28 + x29))).fdiv (2 ^ (min (1 : Int).toNat IntKind.u64.bits)))) < (x30.length : Int)) /\ ∃ y32 : (List yaa), (x30[(IntKind.i64.wrap ((IntKind.u64.wrap (IntKind.i64.wrap (x28 + x29))).fdiv (2 ^ (min (1 : Int).toNat IntKind.u64.bits)))).toNat]? = some y32) /\ ∃ z33, (g4 y31 y32 z33) /\ cnd (!(decide (z33 < (0 : Int)))) (X6 (IntKind.i64.wrap ((IntKind.i64.wrap ((IntKind.u64.wrap (IntKind.i64.wrap (x28 + x29))).fdiv (2 ^ (min (1 : Int).toNat IntKind.u64.bits)))) + (1 : Int))) x29 x30) (X6 x28 (IntKind.i64.wrap ((IntKind.u64.wrap (IntKind.i64.wrap (x28 + x29))).fdiv (2 ^ (min (1 : Int).toNat IntKind.u64.bits)))) x30)) (∀ J7 : Int -> Int -> (List (List yaa)) -> Prop, (∀ x34 x35 x36, ybp Xr g4 a0 a2 r0 x34 x35 x36 -> J7 x34 x35 x36) -> ∀ J11 : Bool -> (List (List yaa)) -> Prop, (∀ x45 x46, ybf g4 x28 a1 a0 a2 J7 x45 x46 -> J11 x45 x46) -> cnd (decide (x28 < a1)) (J11 (decide (a1 < (IntKind.i64.wrap ((IntKind.i64.wrap ((IntKind.i64.wrap ((IntKind.u64.wrap (IntKind.i64.wrap (a0 + a2))).fdiv (2 ^ (min (1 : Int).toNat IntKind.u64.bits)))) + a1)) - x28)))) x30) (J11 false x30))
def ybj (a0 a2 a1 : Int) (g4 : (List yaa) → (List yaa) → Int → Prop) (Xr : ((List yaa) → (List yaa) → Int → Prop) → Int → Int → Int → (List (List yaa)) → (List (List yaa)) → Prop) (r0 : List (List yaa)) (x25 x26 : Int) (x27 : List (List yaa)) : Prop :=
 ∀ X6 : Int -> Int -> (List (List yaa)) -> Prop, (∀ x28 x29 x30, ybq a0 a2 a1 g4 Xr r0 X6 x28 x29 x30 -> X6 x28 x29 x30) -> X6 x25 x26 x27
def yaK (Xr : ((List yaa) → (List yaa) → Int → Prop) → Int → Int → Int → (List (List yaa)) → (List (List yaa)) → Prop) (g4 : (List yaa) → (List yaa) → Int → Prop) (a0 a1 a2 : Int) (a3 r0 : List (List yaa)) : Prop :=
 cnd ((IntKind.i64.wrap (a1 - a0)) == (1 : Int)) (∀ X1 : Int -> Int -> (List (List yaa)) -> Prop, (∀ x1 x2 x3, ybs a0 g4 r0 X1 x1 x2 x3 -> X1 x1 x2 x3) -> X1 a1 a2 a3) (cnd ((IntKind.i64.wrap (a2 - a1)) == (1 : Int)) (∀ X3 : Int -> Int -> (List (List yaa)) -> Prop, (∀ x13 x14 x15, ybl a1 g4 r0 X3 x13 x14 x15 -> X3 x13 x14 x15) -> X3 a0 a1 a3) (∀ J5 : Int -> Int -> (List (List yaa)) -> Prop, (∀ x25 x26 x27, ybj a0 a2 a1 g4 Xr r0 x25 x26 x27 -> J5 x25 x26 x27) -> cnd (decide ((IntKind.i64.wrap ((IntKind.u64.wrap (IntKind.i64.wrap (a0 + a2))).fdiv (2 ^ (min (1 : Int).toNat IntKind.u64.bits)))) < a1)) (J5 (IntKind.i64.wrap ((IntKind.i64.wrap ((IntKind.i64.wrap ((IntKind.u64.wrap (IntKind.i64.wrap (a0 + a2))).fdiv (2 ^ (min (1 : Int).toNat IntKind.u64.bits)))) + a1)) - a2)) (IntKind.i64.wrap ((IntKind.u64.wrap (IntKind.i64.wrap (a0 + a2))).fdiv (2 ^ (min (1 : Int).toNat IntKind.u64.bits)))) a3) (J5 a0 a1 a3)))
def yaJ (g4 : (List yaa) -> (List yaa) -> Int -> Prop) (a0 a1 a2 : Int) (a3 r0 : List (List yaa)) : Prop := ∀ Xr : ((List yaa) -> (List yaa) -> Int -> Prop) -> Int -> Int -> Int -> (List (List yaa)) -> (List (List yaa)) -> Prop, (∀ (g4 : (List yaa) -> (List yaa) -> Int -> Prop) (a0 : Int) (a1 : Int) (a2 : Int) (a3 : (List (List yaa))) (r0 : (List (List yaa))), yaK Xr g4 a0 a1 a2 a3 r0 -> Xr g4 a0 a1 a2 a3 r0) -> Xr g4 a0 a1 a2 a3 r0
def yaR (r0 : List (List yaa)) (x1 : Int) (X2 : Int → (List (List yaa)) → Prop) (x7 : Int) (x8 : List (List yaa)) : Prop :=
 cnd (decide (x7 < (IntKind.i64.wrap (x1 - (1 : Int))))) ((0 <= (IntKind.i64.wrap (x7 + (1 : Int)))) /\ ((IntKind.i64.wrap (x7 + (1 : Int))) < (x8.length : Int)) /\ ∃ y9 : (List yaa), (x8[(IntKind.i64.wrap (x7 + (1 : Int))).toNat]? = some y9) /\ (0 <= x7) /\ (x7 < (x8.length : Int)) /\ ∃ y10 : (List yaa), (x8[x7.toNat]? = some y10) /\ (0 <= x7) /\ (x7 < (x8.length : Int)) /\ ∃ y11 : (List yaa), (x8[x7.toNat]? = some y11) /\ (0 <= (IntKind.i64.wrap (x7 + (1 : Int)))) /\ ((IntKind.i64.wrap (x7 + (1 : Int))) < ((x8.set x7.toNat y9).length : Int)) /\ ∃ y12 : (List yaa), ((x8.set x7.toNat y9)[(IntKind.i64.wrap (x7 + (1 : Int))).toNat]? = some y12) /\ X2 (IntKind.i64.wrap (x7 + (1 : Int))) ((x8.set x7.toNat y9).set ((IntKind.i64.wrap (x7 + (1 : Int))).toNat) y10)) (x8 = r0)
def yay (a0 : Int) (g4 : (List yaa) → (List yaa) → Int → Prop) (r0 : List (List yaa)) (X1 : Int → Int → (List (List yaa)) → Prop) (x1 x2 : Int) (x3 : List (List yaa)) : Prop :=
 cnd (decide (x1 < x2)) ((0 <= (IntKind.i64.wrap ((IntKind.u64.wrap (IntKind.i64.wrap (x1 + x2))).fdiv (2 ^ (min (1 : Int).toNat IntKind.u64.bits))))) /\ ((IntKind.i64.wrap ((IntKind.u64.wrap (IntKind.i64.wrap (x1 + x2))).fdiv (2 ^ (min (1 : Int).toNat IntKind.u64.bits)))) < (x3.length : Int)) /\ ∃ y4 : (List yaa), (x3[(IntKind.i64.wrap ((IntKind.u64.wrap (IntKind.i64.wrap (x1 + x2))).fdiv (2 ^ (min (1 : Int).toNat IntKind.u64.bits)))).toNat]? = some y4) /\ (0 <= a0) /\ (a0 < (x3.length : Int)) /\ ∃ y5 : (List yaa), (x3[a0.toNat]? = some y5) /\ ∃ z6, (g4 y4 y5 z6) /\ cnd (decide (z6 < (0 : Int))) (X1 (IntKind.i64.wrap ((IntKind.i64.wrap ((IntKind.u64.wrap (IntKind.i64.wrap (x1 + x2))).fdiv (2 ^ (min (1 : Int).toNat IntKind.u64.bits)))) + (1 : Int))) x2 x3) (X1 x1 (IntKind.i64.wrap ((IntKind.u64.wrap (IntKind.i64.wrap (x1 + x2))).fdiv (2 ^ (min (1 : Int).toNat IntKind.u64.bits)))) x3)) (∀ X2 : Int -> (List (List yaa)) -> Prop, (∀ x7 x8, yaR r0 x1 X2 x7 x8 -> X2 x7 x8) -> X2 a0 x3)
def yaP (r0 : List (List yaa)) (x13 : Int) (X4 : Int → (List (List yaa)) → Prop) (x19 : Int) (x20 : List (List yaa)) : Prop :=
 cnd (decide (x13 < x19)) ((0 <= (IntKind.i64.wrap (x19 - (1 : Int)))) /\ ((IntKind.i64.wrap (x19 - (1 : Int))) < (x20.length : Int)) /\ ∃ y21 : (List yaa), (x20[(IntKind.i64.wrap (x19 - (1 : Int))).toNat]? = some y21) /\ (0 <= x19) /\ (x19 < (x20.length : Int)) /\ ∃ y22 : (List yaa), (x20[x19.toNat]? = some y22) /\ (0 <= x19) /\ (x19 < (x20.length : Int)) /\ ∃ y23 : (List yaa), (x20[x19.toNat]? = some y23) /\ (0 <= (IntKind.i64.wrap (x19 - (1 : Int)))) /\ ((IntKind.i64.wrap (x19 - (1 : Int))) < ((x20.set x19.toNat y21).length : Int)) /\ ∃ y24 : (List yaa), ((x20.set x19.toNat y21)[(IntKind.i64.wrap (x19 - (1 : Int))).toNat]? = some y24) /\ X4 (IntKind.i64.wrap (x19 - (1 : Int))) ((x20.set x19.toNat y21).set ((IntKind.i64.wrap (x19 - (1 : Int))).toNat) y22)) (x20 = r0)
def yaB (a1 : Int) (g4 : (List yaa) → (List yaa) → Int → Prop) (r0 : List (List yaa)) (X3 : Int → Int → (List (List yaa)) → Prop) (x13 x14 : Int) (x15 : List (List yaa)) : Prop :=
 cnd (decide (x13 < x14)) ((0 <= a1) /\ (a1 < (x15.length : Int)) /\ ∃ y16 : (List yaa), (x15[a1.toNat]? = some y16) /\ (0 <= (IntKind.i64.wrap ((IntKind.u64.wrap (IntKind.i64.wrap (x13 + x14))).fdiv (2 ^ (min (1 : Int).toNat IntKind.u64.bits))))) /\ ((IntKind.i64.wrap ((IntKind.u64.wrap (IntKind.i64.wrap (x13 + x14))).fdiv (2 ^ (min (1 : Int).toNat IntKind.u64.bits)))) < (x15.length : Int)) /\ ∃ y17 : (List yaa), (x15[(IntKind.i64.wrap ((IntKind.u64.wrap (IntKind.i64.wrap (x13 + x14))).fdiv (2 ^ (min (1 : Int).toNat IntKind.u64.bits)))).toNat]? = some y17) /\ ∃ z18, (g4 y16 y17 z18) /\ cnd (!(decide (z18 < (0 : Int)))) (X3 (IntKind.i64.wrap ((IntKind.i64.wrap ((IntKind.u64.wrap (IntKind.i64.wrap (x13 + x14))).fdiv (2 ^ (min (1 : Int).toNat IntKind.u64.bits)))) + (1 : Int))) x14 x15) (X3 x13 (IntKind.i64.wrap ((IntKind.u64.wrap (IntKind.i64.wrap (x13 + x14))).fdiv (2 ^ (min (1 : Int).toNat IntKind.u64.bits)))) x15)) (∀ X4 : Int -> (List (List yaa)) -> Prop, (∀ x19 x20, yaP r0 x13 X4 x19 x20 -> X4 x19 x20) -> X4 a1 x15)
def yas (Xr : ((List yaa) → (List yaa) → Int → Prop) → Int → Int → Int → (List (List yaa)) → (List (List yaa)) → Prop) (a0 a2 : Int) (g4 : (List yaa) → (List yaa) → Int → Prop) (r0 : List (List yaa)) (x37 : Int) (x39 : Bool) (x40 : List (List yaa)) : Prop :=
 cnd x39 (∃ z41, (Xr g4 (IntKind.i64.wrap ((IntKind.u64.wrap (IntKind.i64.wrap (a0 + a2))).fdiv (2 ^ (min (1 : Int).toNat IntKind.u64.bits)))) x37 a2 x40 z41) /\ (z41.length = x40.length) /\ z41 = r0) (x40 = r0)
def yah (Xr : ((List yaa) → (List yaa) → Int → Prop) → Int → Int → Int → (List (List yaa)) → (List (List yaa)) → Prop) (a0 a2 : Int) (g4 : (List yaa) → (List yaa) → Int → Prop) (r0 : List (List yaa)) (x37 : Int) (x38 : List (List yaa)) : Prop :=
 cnd (decide ((IntKind.i64.wrap ((IntKind.u64.wrap (IntKind.i64.wrap (a0 + a2))).fdiv (2 ^ (min (1 : Int).toNat IntKind.u64.bits)))) < x37)) (yas Xr a0 a2 g4 r0 x37 (decide (x37 < a2)) x38) (yas Xr a0 a2 g4 r0 x37 false x38)
def yaq (Xr : ((List yaa) → (List yaa) → Int → Prop) → Int → Int → Int → (List (List yaa)) → (List (List yaa)) → Prop) (a0 a2 : Int) (g4 : (List yaa) → (List yaa) → Int → Prop) (r0 : List (List yaa)) (x34 x35 : Int) (x42 : Bool) (x43 : List (List yaa)) : Prop :=
 cnd x42 (∃ z44, (Xr g4 a0 x34 (IntKind.i64.wrap ((IntKind.u64.wrap (IntKind.i64.wrap (a0 + a2))).fdiv (2 ^ (min (1 : Int).toNat IntKind.u64.bits)))) x43 z44) /\ (z44.length = x43.length) /\ yah Xr a0 a2 g4 r0 x35 z44) (yah Xr a0 a2 g4 r0 x35 x43)
def yai (Xr : ((List yaa) → (List yaa) → Int → Prop) → Int → Int → Int → (List (List yaa)) → (List (List yaa)) → Prop) (a0 a2 : Int) (g4 : (List yaa) → (List yaa) → Int → Prop) (r0 : List (List yaa)) (x34 x35 : Int) (x36 : List (List yaa)) : Prop :=
 cnd (decide (a0 < x34)) (yaq Xr a0 a2 g4 r0 x34 x35 (decide (x34 < (IntKind.i64.wrap ((IntKind.u64.wrap (IntKind.i64.wrap (a0 + a2))).fdiv (2 ^ (min (1 : Int).toNat IntKind.u64.bits)))))) x36) (yaq Xr a0 a2 g4 r0 x34 x35 false x36)
def yap (Xr : ((List yaa) → (List yaa) → Int → Prop) → Int → Int → Int → (List (List yaa)) → (List (List yaa)) → Prop) (a0 a1 a2 : Int) (g4 : (List yaa) → (List yaa) → Int → Prop) (r0 : List (List yaa)) (x28 : Int) (x45 : Bool) (x46 : List (List yaa)) : Prop :=
 cnd x45 (∃ z47, (yax g4 x28 a1 (IntKind.i64.wrap ((IntKind.i64.wrap ((IntKind.i64.wrap ((IntKind.u64.wrap (IntKind.i64.wrap (a0 + a2))).fdiv (2 ^ (min (1 : Int).toNat IntKind.u64.bits)))) + a1)) - x28)) x46 z47) /\ (z47.length = x46.length) /\ yai Xr a0 a2 g4 r0 x28 (IntKind.i64.wrap ((IntKind.i64.wrap ((IntKind.i64.wrap ((IntKind.u64.wrap (IntKind.i64.wrap (a0 + a2))).fdiv (2 ^ (min (1 : Int).toNat IntKind.u64.bits)))) + a1)) - x28)) z47) (yai Xr a0 a2 g4 r0 x28 (IntKind.i64.wrap ((IntKind.i64.wrap ((IntKind.i64.wrap ((IntKind.u64.wrap (IntKind.i64.wrap (a0 + a2))).fdiv (2 ^ (min (1 : Int).toNat IntKind.u64.bits)))) + a1)) - x28)) x46)
def yaO (Xr : ((List yaa) → (List yaa) → Int → Prop) → Int → Int → Int → (List (List yaa)) → (List (List yaa)) → Prop) (a0 a1 a2 : Int) (g4 : (List yaa) → (List yaa) → Int → Prop) (r0 : List (List yaa)) (X6 : Int → Int → (List (List yaa)) → Prop) (x28 x29 : Int) (x30 : List (List yaa)) : Prop :=
 cnd (decide (x28 < x29)) ((0 <= (IntKind.i64.wrap ((IntKind.i64.wrap ((IntKind.i64.wrap ((IntKind.i64.wrap ((IntKind.u64.wrap (IntKind.i64.wrap (a0 + a2))).fdiv (2 ^ (min (1 : Int).toNat IntKind.u64.bits)))) + a1)) - (1 : Int))) - (IntKind.i64.wrap ((IntKind.u64.wrap (IntKind.i64.wrap (x28 + x29))).fdiv (2 ^ (min (1 : Int).toNat IntKind.u64.bits))))))) /\ ((IntKind.i64.wrap ((IntKind.i64.wrap ((IntKind.i64.wrap ((IntKind.i64.wrap ((IntKind.u64.wrap (IntKind.i64.wrap (a0 + a2))).fdiv (2 ^ (min (1 : Int).toNat IntKind.u64.bits)))) + a1)) - (1 : Int))) - (IntKind.i64.wrap ((IntKind.u64.wrap (IntKind.i64.wrap (x28 + x29))).fdiv (2 ^ (min (1 : Int).toNat IntKind.u64.bits)))))) < (x30.length : Int)) /\ ∃ y31 : (List yaa), (x30[(IntKind.i64.wrap ((IntKind.i64.wrap ((IntKind.i64.wrap ((IntKind.i64.wrap ((IntKind.u64.wrap (IntKind.i64.wrap (a0 + a2))).fdiv (2 ^ (min (1 : Int).toNat IntKind.u64.bits)))) + a1)) - (1 : Int))) - (IntKind.i64.wrap ((IntKind.u64.wrap (IntKind.i64.wrap (x28 + x29))).fdiv (2 ^ (min (1 : Int).toNat IntKind.u64.bits)))))).toNat]? = some y31) /\ (0 <= (IntKind.i64.wrap ((IntKind.u64.wrap (IntKind.i64.wrap (x28 + x29))).fdiv (2 ^ (min (1 : Int).toNat IntKind.u64.bits))))) /\ ((IntKind.i64.wrap ((IntKind.u64.wrap (IntKind.i64.wrap (x28 + x29))).fdiv (2 ^ (min (1 : Int).toNat IntKind.u64.bits)))) < (x30.length : Int)) /\ ∃ y32 : (List yaa), (x30[(IntKind.i64.wrap ((IntKind.u64.wrap (IntKind.i64.wrap (x28 + x29))).fdiv (2 ^ (min (1 : Int).toNat IntKind.u64.bits)))).toNat]? = some y32) /\ ∃ z33, (g4 y31 y32 z33) /\ cnd (!(decide (z33 < (0 : Int)))) (X6 (IntKind.i64.wrap ((IntKind.i64.wrap ((IntKind.u64.wrap (IntKind.i64.wrap (x28 + x29))).fdiv (2 ^ (min (1 : Int).toNat IntKind.u64.bits)))) + (1 : Int))) x29 x30) (X6 x28 (IntKind.i64.wrap ((IntKind.u64.wrap (IntKind.i64.wrap (x28 + x29))).fdiv (2 ^ (min (1 : Int).toNat IntKind.u64.bits)))) x30)) (cnd (decide (x28 < a1)) (yap Xr a0 a1 a2 g4 r0 x28 (decide (a1 < (IntKind.i64.wrap ((IntKind.i64.wrap ((IntKind.i64.wrap ((IntKind.u64.wrap (IntKind.i64.wrap (a0 + a2))).fdiv (2 ^ (min (1 : Int).toNat IntKind.u64.bits)))) + a1)) - x28)))) x30) (yap Xr a0 a1 a2 g4 r0 x28 false x30))
def yan (Xr : ((List yaa) → (List yaa) → Int → Prop) → Int → Int → Int → (List (List yaa)) → (List (List yaa)) → Prop) (a0 a1 a2 : Int) (g4 : (List yaa) → (List yaa) → Int → Prop) (r0 : List (List yaa)) (x25 x26 : Int) (x27 : List (List yaa)) : Prop :=
 ∀ X6 : Int -> Int -> (List (List yaa)) -> Prop, (∀ x28 x29 x30, yaO Xr a0 a1 a2 g4 r0 X6 x28 x29 x30 -> X6 x28 x29 x30) -> X6 x25 x26 x27
def yaF (Xr : ((List yaa) → (List yaa) → Int → Prop) → Int → Int → Int → (List (List yaa)) → (List (List yaa)) → Prop) (g4 : (List yaa) → (List yaa) → Int → Prop) (a0 a1 a2 : Int) (a3 r0 : List (List yaa)) : Prop :=
 cnd ((IntKind.i64.wrap (a1 - a0)) == (1 : Int)) (∀ X1 : Int -> Int -> (List (List yaa)) -> Prop, (∀ x1 x2 x3, yay a0 g4 r0 X1 x1 x2 x3 -> X1 x1 x2 x3) -> X1 a1 a2 a3) (cnd ((IntKind.i64.wrap (a2 - a1)) == (1 : Int)) (∀ X3 : Int -> Int -> (List (List yaa)) -> Prop, (∀ x13 x14 x15, yaB a1 g4 r0 X3 x13 x14 x15 -> X3 x13 x14 x15) -> X3 a0 a1 a3) (cnd (decide ((IntKind.i64.wrap ((IntKind.u64.wrap (IntKind.i64.wrap (a0 + a2))).fdiv (2 ^ (min (1 : Int).toNat IntKind.u64.bits)))) < a1)) (yan Xr a0 a1 a2 g4 r0 (IntKind.i64.wrap ((IntKind.i64.wrap ((IntKind.i64.wrap ((IntKind.u64.wrap (IntKind.i64.wrap (a0 + a2))).fdiv (2 ^ (min (1 : Int).toNat IntKind.u64.bits)))) + a1)) - a2)) (IntKind.i64.wrap ((IntKind.u64.wrap (IntKind.i64.wrap (a0 + a2))).fdiv (2 ^ (min (1 : Int).toNat IntKind.u64.bits)))) a3) (yan Xr a0 a1 a2 g4 r0 a0 a1 a3)))
theorem ydA (r0 : List (List yaa)) (x1 : Int) {X2 : Int → (List (List yaa)) → Prop} {x7 : Int} {x8 : List (List yaa)} (h : yaR r0 x1 X2 x7 x8) : ybn x1 r0 X2 x7 x8 := by
 unfold ybn
 unfold yaR at h
 exact h
theorem ydB (a0 : Int) (g4 : (List yaa) → (List yaa) → Int → Prop) (r0 : List (List yaa)) {X1 : Int → Int → (List (List yaa)) → Prop} {x1 x2 : Int} {x3 : List (List yaa)} (h : yay a0 g4 r0 X1 x1 x2 x3) : ybs a0 g4 r0 X1 x1 x2 x3 := by
 unfold ybs
 unfold yay at h
 refine yag h (fun h => ?_) (fun h => ?_)
 ·exact h
 ·intro X2 k
  exact h X2 (fun x7 x8 q => k x7 x8 (ydA r0 x1 q))
theorem ydy (r0 : List (List yaa)) (x13 : Int) {X4 : Int → (List (List yaa)) → Prop} {x19 : Int} {x20 : List (List yaa)} (h : yaP r0 x13 X4 x19 x20) : ybm x13 r0 X4 x19 x20 := by
 unfold ybm
 unfold yaP at h
 exact h
theorem ydC (a1 : Int) (g4 : (List yaa) → (List yaa) → Int → Prop) (r0 : List (List yaa)) {X3 : Int → Int → (List (List yaa)) → Prop} {x13 x14 : Int} {x15 : List (List yaa)} (h : yaB a1 g4 r0 X3 x13 x14 x15) : ybl a1 g4 r0 X3 x13 x14 x15 := by
 unfold ybl
 unfold yaB at h
 refine yag h (fun h => ?_) (fun h => ?_)
 ·exact h
 ·intro X4 k
  exact h X4 (fun x19 x20 q => k x19 x20 (ydy r0 x13 q))
theorem ydw (Xr : ((List yaa) → (List yaa) → Int → Prop) → Int → Int → Int → (List (List yaa)) → (List (List yaa)) → Prop) (a0 a2 : Int) (g4 : (List yaa) → (List yaa) → Int → Prop) (r0 : List (List yaa)) (x37 : Int) {x39 : Bool} {x40 : List (List yaa)} (h : yas Xr a0 a2 g4 r0 x37 x39 x40) : ybo Xr g4 a0 a2 x37 r0 x39 x40 := by
 unfold ybo
 unfold yas at h
 exact h
theorem ydt (Xr : ((List yaa) → (List yaa) → Int → Prop) → Int → Int → Int → (List (List yaa)) → (List (List yaa)) → Prop) (a0 a2 : Int) (g4 : (List yaa) → (List yaa) → Int → Prop) (r0 : List (List yaa)) {x37 : Int} {x38 : List (List yaa)} (h : yah Xr a0 a2 g4 r0 x37 x38) : ybk Xr g4 a0 a2 r0 x37 x38 := by
 unfold ybk
 unfold yah at h
 intro J9 kJ9
 have hJ9 : ∀ x39 x40, yas Xr a0 a2 g4 r0 x37 x39 x40 -> J9 x39 x40 := fun x39 x40 q => kJ9 x39 x40 (ydw Xr a0 a2 g4 r0 x37 q)
 refine yag h (fun h => ?_) (fun h => ?_)
 ·exact hJ9 _ _ h
 ·exact hJ9 _ _ h
theorem ydl (J8 : Int → (List (List yaa)) → Prop) (Xr : ((List yaa) → (List yaa) → Int → Prop) → Int → Int → Int → (List (List yaa)) → (List (List yaa)) → Prop) (a0 a2 : Int) (g4 : (List yaa) → (List yaa) → Int → Prop) (r0 : List (List yaa)) (x34 x35 : Int) (hJ8 : ∀ (x37 : Int) (x38 : (List (List yaa))), yah Xr a0 a2 g4 r0 x37 x38 → J8 x37 x38) {x42 : Bool} {x43 : List (List yaa)} (h : yaq Xr a0 a2 g4 r0 x34 x35 x42 x43) : ybg Xr g4 a0 x34 a2 J8 x35 x42 x43 := by
 unfold ybg
 unfold yaq at h
 refine yag h (fun h => ?_) (fun h => ?_)
 ·obtain ⟨z44, h⟩ := h
  refine ⟨z44, ?_⟩
  obtain ⟨h0, h⟩ := h
  refine ⟨h0, ?_⟩
  obtain ⟨h0, h⟩ := h
  refine ⟨h0, ?_⟩
  exact hJ8 _ _ h
 ·exact hJ8 _ _ h
theorem ydx (Xr : ((List yaa) → (List yaa) → Int → Prop) → Int → Int → Int → (List (List yaa)) → (List (List yaa)) → Prop) (a0 a2 : Int) (g4 : (List yaa) → (List yaa) → Int → Prop) (r0 : List (List yaa)) {x34 x35 : Int} {x36 : List (List yaa)} (h : yai Xr a0 a2 g4 r0 x34 x35 x36) : ybp Xr g4 a0 a2 r0 x34 x35 x36 := by
 unfold ybp
 unfold yai at h
 intro J8 kJ8
 have hJ8 : ∀ x37 x38, yah Xr a0 a2 g4 r0 x37 x38 -> J8 x37 x38 := fun x37 x38 q => kJ8 x37 x38 (ydt Xr a0 a2 g4 r0 q)
 intro J10 kJ10
 have hJ10 : ∀ x42 x43, yaq Xr a0 a2 g4 r0 x34 x35 x42 x43 -> J10 x42 x43 := fun x42 x43 q => kJ10 x42 x43 (ydl J8 Xr a0 a2 g4 r0 x34 x35 hJ8 q)
 refine yag h (fun h => ?_) (fun h => ?_)
 ·exact hJ10 _ _ h
 ·exact hJ10 _ _ h
theorem ydo (J7 : Int → Int → (List (List yaa)) → Prop) (Xr : ((List yaa) → (List yaa) → Int → Prop) → Int → Int → Int → (List (List yaa)) → (List (List yaa)) → Prop) (a0 a1 a2 : Int) (g4 : (List yaa) → (List yaa) → Int → Prop) (r0 : List (List yaa)) (x28 : Int) (hJ7 : ∀ (x34 : Int) (x35 : Int) (x36 : (List (List yaa))), yai Xr a0 a2 g4 r0 x34 x35 x36 → J7 x34 x35 x36) {x45 : Bool} {x46 : List (List yaa)} (h : yap Xr a0 a1 a2 g4 r0 x28 x45 x46) : ybf g4 x28 a1 a0 a2 J7 x45 x46 := by
 unfold ybf
 unfold yap at h
 refine yag h (fun h => ?_) (fun h => ?_)
 ·obtain ⟨z47, h⟩ := h
  refine ⟨z47, ?_⟩
  obtain ⟨h0, h⟩ := h
  refine ⟨h0, ?_⟩
  obtain ⟨h0, h⟩ := h
  refine ⟨h0, ?_⟩
  exact hJ7 _ _ _ h
 ·exact hJ7 _ _ _ h
theorem ydu (Xr : ((List yaa) → (List yaa) → Int → Prop) → Int → Int → Int → (List (List yaa)) → (List (List yaa)) → Prop) (a0 a1 a2 : Int) (g4 : (List yaa) → (List yaa) → Int → Prop) (r0 : List (List yaa)) {X6 : Int → Int → (List (List yaa)) → Prop} {x28 x29 : Int} {x30 : List (List yaa)} (h : yaO Xr a0 a1 a2 g4 r0 X6 x28 x29 x30) : ybq a0 a2 a1 g4 Xr r0 X6 x28 x29 x30 := by
 unfold ybq
 unfold yaO at h
 refine yag h (fun h => ?_) (fun h => ?_)
 ·exact h
 ·intro J7 kJ7
  have hJ7 : ∀ x34 x35 x36, yai Xr a0 a2 g4 r0 x34 x35 x36 -> J7 x34 x35 x36 := fun x34 x35 x36 q => kJ7 x34 x35 x36 (ydx Xr a0 a2 g4 r0 q)
  intro J11 kJ11
  have hJ11 : ∀ x45 x46, yap Xr a0 a1 a2 g4 r0 x28 x45 x46 -> J11 x45 x46 := fun x45 x46 q => kJ11 x45 x46 (ydo J7 Xr a0 a1 a2 g4 r0 x28 hJ7 q)
  refine yag h (fun h => ?_) (fun h => ?_)
  ·exact hJ11 _ _ h
  ·exact hJ11 _ _ h
theorem ydv (Xr : ((List yaa) → (List yaa) → Int → Prop) → Int → Int → Int → (List (List yaa)) → (List (List yaa)) → Prop) (a0 a1 a2 : Int) (g4 : (List yaa) → (List yaa) → Int → Prop) (r0 : List (List yaa)) {x25 x26 : Int} {x27 : List (List yaa)} (h : yan Xr a0 a1 a2 g4 r0 x25 x26 x27) : ybj a0 a2 a1 g4 Xr r0 x25 x26 x27 := by
 unfold ybj
 unfold yan at h
 intro X6 k
 exact h X6 (fun x28 x29 x30 q => k x28 x29 x30 (ydu Xr a0 a1 a2 g4 r0 q))
theorem ydW (Xr : ((List yaa) → (List yaa) → Int → Prop) → Int → Int → Int → (List (List yaa)) → (List (List yaa)) → Prop) (g4 : (List yaa) → (List yaa) → Int → Prop) (a0 a1 a2 : Int) (a3 r0 : List (List yaa)) (h : yaF Xr g4 a0 a1 a2 a3 r0) : yaK Xr g4 a0 a1 a2 a3 r0 := by
 unfold yaK
 unfold yaF at h
 refine yag h (fun h => ?_) (fun h => ?_)
 ·intro X1 k
  exact h X1 (fun x1 x2 x3 q => k x1 x2 x3 (ydB a0 g4 r0 q))
 ·refine yag h (fun h => ?_) (fun h => ?_)
  ·intro X3 k
   exact h X3 (fun x13 x14 x15 q => k x13 x14 x15 (ydC a1 g4 r0 q))
  ·intro J5 kJ5
   have hJ5 : ∀ x25 x26 x27, yan Xr a0 a1 a2 g4 r0 x25 x26 x27 -> J5 x25 x26 x27 := fun x25 x26 x27 q => kJ5 x25 x26 x27 (ydv Xr a0 a1 a2 g4 r0 q)
   refine yag h (fun h => ?_) (fun h => ?_)
   ·exact hJ5 _ _ _ h
   ·exact hJ5 _ _ _ h
theorem yd5 (g4 : (List yaa) -> (List yaa) -> Int -> Prop) (a0 a1 a2 : Int) (a3 r0 : List (List yaa)) (h : ∀ Xr : ((List yaa) -> (List yaa) -> Int -> Prop) -> Int -> Int -> Int -> (List (List yaa)) -> (List (List yaa)) -> Prop, (∀ (g4 : (List yaa) -> (List yaa) -> Int -> Prop) (a0 : Int) (a1 : Int) (a2 : Int) (a3 : (List (List yaa))) (r0 : (List (List yaa))), yaF Xr g4 a0 a1 a2 a3 r0 -> Xr g4 a0 a1 a2 a3 r0) -> Xr g4 a0 a1 a2 a3 r0) : yaJ g4 a0 a1 a2 a3 r0 := fun Xr k => h Xr fun g4 a0 a1 a2 a3 r0 q => k g4 a0 a1 a2 a3 r0 (ydW Xr g4 a0 a1 a2 a3 r0 q)
def yad : Sl KK := ⟨105, [(4, [29, 29], [3])], ⟨[(0, .row 2000000), (1, .it .i64), (2, .it .i64), (3, .it .i64)], [], [(2000000, 29)]⟩, ⟨[], [], [(2000000, 29)]⟩, [], [], true, fun _ _ _ => True⟩
def yaU : Sl KK := ⟨105, [(4, [29, 29], [3])], ⟨[(0, .row 2000000), (1, .it .i64), (2, .it .i64), (3, .it .i64)], [], [(2000000, 29)]⟩, ⟨[], [], [(2000000, 29)]⟩, [], [], true, apFs (K := KK) (ctT yad.ti) (ctT yad.te) [(4, [29, 29], [3])] yaJ⟩
def ydV : An KK := (.s (.s .o (.c (.s .o (.s .o (.s (.b (.l ⟨[(0, .row 2000000), (1, .kp 15), (4, .kp 16), (10, .it .i64), (11, .it .i64)], [], [(2000000, 29)]⟩ (fun _ => (.s (.s .o (.c .o .o)) (.b (.s .o (.s .o (.c .o .o)))))))) (.s (.s .o (.b (.l ⟨[(0, .row 2000000), (10, .kp 20), (13, .it .i64)], [], [(2000000, 29)]⟩ (fun _ => (.s (.s .o (.c .o .o)) (.s (.b .o) .o)))))) .o)))) .o)) (.s (.s .o (.c (.s .o (.s .o (.s (.b (.l ⟨[(0, .row 2000000), (2, .kp 35), (4, .kp 36), (14, .it .i64), (15, .it .i64)], [], [(2000000, 29)]⟩ (fun _ => (.s (.s .o (.c .o .o)) (.b (.s .o (.s .o (.c .o .o)))))))) (.s (.s .o (.b (.l ⟨[(0, .row 2000000), (14, .kp 40), (17, .it .i64)], [], [(2000000, 29)]⟩ (fun _ => (.s (.s .o (.c .o .o)) (.s (.b .o) .o)))))) .o)))) .o)) (.s .o (.s .o (.s .o (.j ⟨[(0, .row 2000000), (1, .kp 41), (2, .kp 42), (3, .kp 43), (4, .kp 44), (18, .kp 45), (19, .kp 46), (20, .it .i64), (21, .it .i64)], [], [(2000000, 29)]⟩ (.s .o (.c (.s .o .o) (.s .o .o))) (fun _ => (.s .o (.s (.b (.l ⟨[(0, .row 2000000), (1, .kp 41), (2, .kp 42), (3, .kp 43), (4, .kp 44), (18, .kp 45), (19, .kp 46), (20, .it .i64), (21, .it .i64), (22, .kp 52)], [], [(2000000, 29)]⟩ (fun _ => (.s (.s .o (.c .o .o)) (.b (.s .o (.s .o (.c .o .o)))))))) (.s .o (.j ⟨[(0, .row 2000000), (1, .kp 41), (3, .kp 43), (4, .kp 44), (18, .kp 45), (20, .it .i64), (24, .it .i64)], [], [(2000000, 29)]⟩ (.j ⟨[(0, .row 2000000), (1, .kp 41), (2, .kp 42), (3, .kp 43), (4, .kp 44), (18, .kp 45), (20, .kp 64), (24, .kp 65), (185, .bl)], [], [(2000000, 29)]⟩ .o (fun _ => (.c .o .o))) (fun _ => (.j ⟨[(0, .row 2000000), (3, .kp 43), (4, .kp 44), (18, .kp 45), (24, .it .i64)], [], [(2000000, 29)]⟩ (.j ⟨[(0, .row 2000000), (1, .kp 41), (3, .kp 43), (4, .kp 44), (18, .kp 45), (20, .kp 62), (24, .kp 63), (199, .bl)], [], [(2000000, 29)]⟩ .o (fun _ => (.c .o .o))) (fun _ => (.j ⟨[(0, .row 2000000), (3, .kp 43), (4, .kp 44), (18, .kp 45), (24, .kp 61), (213, .bl)], [], [(2000000, 29)]⟩ .o (fun _ => (.c .o .o)))))))))))))))))
def ydX (Xr : ((List yaa) -> (List yaa) -> Int -> Prop) -> Int -> Int -> Int -> (List (List yaa)) -> (List (List yaa)) -> Prop) : Cf KK := ⟨CC, [], [⟨105, [(4, [29, 29], [3])], ⟨[(0, .row 2000000), (1, .it .i64), (2, .it .i64), (3, .it .i64)], [], [(2000000, 29)]⟩, ⟨[], [], [(2000000, 29)]⟩, [], [], true, apFs (K := KK) (ctT yad.ti) (ctT yad.te) [(4, [29, 29], [3])] Xr⟩, ya3], 220, [], none, false⟩
theorem ydS (Xr : ((List yaa) → (List yaa) → Int → Prop) → Int → Int → Int → (List (List yaa)) → (List (List yaa)) → Prop) (hX : ∀ (F4 : FV KK) (hF4 : FOk Try.prog CC F4) (a0 : Int) (a1 : Int) (a2 : Int) (a3 : (List (List yaa))) (r0 : (List (List yaa))), Xr (curF [3] [29, 29] F4.W) a0 a1 a2 a3 r0 → SlC Try.prog CC yad [F4] [.i a0, .i a1, .i a2, .l 29 a3] [.l 29 r0]) : ∀ (F4 : FV KK) (hF4 : FOk Try.prog CC F4) (a0 : Int) (a1 : Int) (a2 : Int) (a3 : (List (List yaa))) (r0 : (List (List yaa))), yaK Xr (curF [3] [29, 29] F4.W) a0 a1 a2 a3 r0 → SlC Try.prog CC yad [F4] [.i a0, .i a1, .i a2, .l 29 a3] [.l 29 r0] := by
 intro F4 hF4 a0 a1 a2 a3 r0 h
 refine yhj (F := ydX Xr) ybd yav (yfH ?_ (yfH yeE yaw)) t105 (A := ydV) (sp := yad) rfl (by kernel_rfl) (by kernel_rfl) (jah (by kernel_rfl)) (fs := [F4]) (env := [.i a0, .i a1, .i a2, .l 29 a3]) (out := [.l 29 r0]) (by kernel_rfl) (fun G hG => by simp at hG; subst hG; assumption) (X := yaK Xr (curF [3] [29, 29] F4.W) a0 a1 a2 a3 r0) h (by kernel_rfl)
 clear h a0 a1 a2 a3 r0 hF4 F4
 intro fs env out hl hF hW
 obtain ⟨F4, fs4, rfl, h0⟩ := yjN hW
 obtain ⟨rfl, h1⟩ := ygC h0
 obtain ⟨a0, ea0, rfl, h2⟩ := ycb h1
 obtain ⟨a1, ea1, rfl, h3⟩ := ycb h2
 obtain ⟨a2, ea2, rfl, h4⟩ := ycb h3
 obtain ⟨a3, ea3, rfl, h5⟩ := ycb h4
 obtain ⟨rfl, h6⟩ := ygA h5
 obtain ⟨r0, er0, rfl, h7⟩ := yeI h6
 obtain ⟨rfl, h8⟩ := yeJ h7
 show SlC Try.prog CC ⟨105, [(4, [29, 29], [3])], ⟨[(0, .row 2000000), (1, .it .i64), (2, .it .i64), (3, .it .i64)], [], [(2000000, 29)]⟩, ⟨[], [], [(2000000, 29)]⟩, [], [], true, apFs (K := KK) (ctT yad.ti) (ctT yad.te) [(4, [29, 29], [3])] Xr⟩ [F4] [.i a0, .i a1, .i a2, .l 29 a3] [.l 29 r0]
 rw [show SlC Try.prog CC ⟨105, [(4, [29, 29], [3])], ⟨[(0, .row 2000000), (1, .it .i64), (2, .it .i64), (3, .it .i64)], [], [(2000000, 29)]⟩, ⟨[], [], [(2000000, 29)]⟩, [], [], true, apFs (K := KK) (ctT yad.ti) (ctT yad.te) [(4, [29, 29], [3])] Xr⟩ [F4] [.i a0, .i a1, .i a2, .l 29 a3] [.l 29 r0] = SlC Try.prog CC yad [F4] [.i a0, .i a1, .i a2, .l 29 a3] [.l 29 r0] by kernel_rfl]
 exact hX F4 (hF _ (by simp)) a0 a1 a2 a3 r0 h8
theorem ydT : SlOk Try.prog CC yaU := by
 intro fs env out hl hF hW
 obtain ⟨F4, fs4, rfl, h0⟩ := yjN hW
 obtain ⟨rfl, h1⟩ := ygC h0
 obtain ⟨a0, ea0, rfl, h2⟩ := ycb h1
 obtain ⟨a1, ea1, rfl, h3⟩ := ycb h2
 obtain ⟨a2, ea2, rfl, h4⟩ := ycb h3
 obtain ⟨a3, ea3, rfl, h5⟩ := ycb h4
 obtain ⟨rfl, h6⟩ := ygA h5
 obtain ⟨r0, er0, rfl, h7⟩ := yeI h6
 obtain ⟨rfl, h8⟩ := yeJ h7
 show SlC Try.prog CC yaU [F4] [.i a0, .i a1, .i a2, .l 29 a3] [.l 29 r0]
 rw [show SlC Try.prog CC yaU [F4] [.i a0, .i a1, .i a2, .l 29 a3] [.l 29 r0] = SlC Try.prog CC yad [F4] [.i a0, .i a1, .i a2, .l 29 a3] [.l 29 r0] by kernel_rfl]
 exact h8 (fun g4 a0 a1 a2 a3 r0 => ∀ F4 : FV KK, FOk Try.prog CC F4 -> curF [3] [29, 29] F4.W = g4 -> SlC Try.prog CC yad [F4] [.i a0, .i a1, .i a2, .l 29 a3] [.l 29 r0]) (fun g4 a0 a1 a2 a3 r0 h => fun F4 hF4 e4 => ydS (fun g4 a0 a1 a2 a3 r0 => ∀ F4 : FV KK, FOk Try.prog CC F4 -> curF [3] [29, 29] F4.W = g4 -> SlC Try.prog CC yad [F4] [.i a0, .i a1, .i a2, .l 29 a3] [.l 29 r0]) (fun F4 hF4 a0 a1 a2 a3 r0 h => h F4 hF4 rfl) F4 hF4 a0 a1 a2 a3 r0 (by subst e4; exact h)) F4 (hF _ (by simp)) rfl
def ycm (a0 : Int) (g2 : (List yaa) → (List yaa) → Int → Prop) (x6 : Int) (X2 : Int → (List (List yaa)) → Prop) (X3 : Int → Int → (List (List yaa)) → Prop) (x8 x9 : Int) (x10 : List (List yaa)) : Prop :=
 cnd (decide (x9 <= a0)) (∃ z11, (yaJ g2 x8 (IntKind.i64.wrap (x8 + x6)) x9 x10 z11) /\ (z11.length = x10.length) /\ X3 x9 (IntKind.i64.wrap (x9 + (IntKind.i64.wrap ((2 : Int) * x6)))) z11) (cnd (decide ((IntKind.i64.wrap (x8 + x6)) < a0)) (∃ z12, (yaJ g2 x8 (IntKind.i64.wrap (x8 + x6)) a0 x10 z12) /\ (z12.length = x10.length) /\ X2 (IntKind.i64.wrap (x6 * (2 : Int))) z12) (X2 (IntKind.i64.wrap (x6 * (2 : Int))) x10))
def yeA (a0 : Int) (g2 : (List yaa) → (List yaa) → Int → Prop) (r0 : List (List yaa)) (X2 : Int → (List (List yaa)) → Prop) (x6 : Int) (x7 : List (List yaa)) : Prop :=
 cnd (decide (x6 < a0)) (∀ X3 : Int -> Int -> (List (List yaa)) -> Prop, (∀ x8 x9 x10, ycm a0 g2 x6 X2 X3 x8 x9 x10 -> X3 x8 x9 x10) -> X3 (0 : Int) (IntKind.i64.wrap ((2 : Int) * x6)) x7) (x7 = r0)
def yex (a0 : Int) (g2 : (List yaa) → (List yaa) → Int → Prop) (r0 : List (List yaa)) (X1 : Int → Int → (List (List yaa)) → Prop) (x1 x2 : Int) (x3 : List (List yaa)) : Prop :=
 cnd (decide (x2 <= a0)) (∃ z4, (yaj g2 x1 x2 x3 z4) /\ (z4.length = x3.length) /\ X1 x2 (IntKind.i64.wrap (x2 + (20 : Int))) z4) (∃ z5, (yaj g2 x1 a0 x3 z5) /\ (z5.length = x3.length) /\ ∀ X2 : Int -> (List (List yaa)) -> Prop, (∀ x6 x7, yeA a0 g2 r0 X2 x6 x7 -> X2 x6 x7) -> X2 (20 : Int) z5)
def yaL (g2 : (List yaa) → (List yaa) → Int → Prop) (a0 : Int) (a1 r0 : List (List yaa)) : Prop :=
 ∀ X1 : Int -> Int -> (List (List yaa)) -> Prop, (∀ x1 x2 x3, yex a0 g2 r0 X1 x1 x2 x3 -> X1 x1 x2 x3) -> X1 (0 : Int) (20 : Int) a1
def ya4 : Sl KK := ⟨102, [(2, [29, 29], [3])], ⟨[(0, .row 2000000), (1, .it .i64)], [], [(2000000, 29)]⟩, ⟨[], [], [(2000000, 29)]⟩, [], [], true, fun _ _ _ => True⟩
def ya6 : Sl KK := ⟨102, [(2, [29, 29], [3])], ⟨[(0, .row 2000000), (1, .it .i64)], [], [(2000000, 29)]⟩, ⟨[], [], [(2000000, 29)]⟩, [], [], true, apFs (K := KK) (ctT ya4.ti) (ctT ya4.te) [(2, [29, 29], [3])] yaL⟩
def yez : An KK := (.s .o (.s .o (.s (.b (.l ⟨[(0, .row 2000000), (1, .kp 6), (2, .kp 7), (6, .kp 8), (7, .it .i64), (8, .it .i64)], [], [(2000000, 29)]⟩ (fun _ => (.s (.s .o (.c .o .o)) (.b (.s .o (.s .o .o))))))) (.s .o (.b (.l ⟨[(0, .row 2000000), (1, .kp 6), (2, .kp 7), (6, .it .i64)], [], [(2000000, 29)]⟩ (fun _ => (.s (.s .o (.c .o .o)) (.b (.s .o (.s (.b (.l ⟨[(0, .row 2000000), (1, .kp 6), (2, .kp 7), (6, .kp 24), (7, .it .i64), (8, .it .i64)], [], [(2000000, 29)]⟩ (fun _ => (.s (.s .o (.c .o .o)) (.b (.s .o (.s .o .o))))))) (.s (.s .o (.s .o (.c .o .o))) .o))))))))))))
def yeF : Cf KK := ⟨CC, [], [yaH, yaU], 63, [], none, false⟩
theorem yeC : SlOk Try.prog CC ya6 := by
 intro fs env out hl hF hW
 obtain ⟨F2, fs2, rfl, h0⟩ := yjN hW
 obtain ⟨rfl, h1⟩ := ygC h0
 obtain ⟨a0, ea0, rfl, h2⟩ := ycb h1
 obtain ⟨a1, ea1, rfl, h3⟩ := ycb h2
 obtain ⟨rfl, h4⟩ := ygA h3
 obtain ⟨r0, er0, rfl, h5⟩ := yeI h4
 obtain ⟨rfl, h6⟩ := yeJ h5
 show SlC Try.prog CC ya6 [F2] [.i a0, .l 29 a1] [.l 29 r0]
 rw [show SlC Try.prog CC ya6 [F2] [.i a0, .l 29 a1] [.l 29 r0] = SlC Try.prog CC ya4 [F2] [.i a0, .l 29 a1] [.l 29 r0] by kernel_rfl]
 exact yhj (F := yeF) ybd yav (yfH yc2 (yfH ydT yaw)) t102 (A := yez) (sp := ya4) rfl (by kernel_rfl) (by kernel_rfl) (jah (by kernel_rfl)) (fs := [F2]) (env := [.i a0, .l 29 a1]) (out := [.l 29 r0]) (by kernel_rfl) hF (X := yaL (curF [3] [29, 29] F2.W) a0 a1 r0) h6 (by kernel_rfl)
def ybB (g1 : (List yaa) → (List yaa) → Int → Prop) (a0 r0 : List (List yaa)) : Prop :=
 ∃ z1, (yaL g1 (a0.length : Int) a0 z1) /\ (z1.length = a0.length) /\ z1 = r0
def yaW : Sl KK := ⟨87, [(1, [29, 29], [3])], ⟨[(0, .row 2000000)], [], [(2000000, 29)]⟩, ⟨[], [], [(2000000, 29)]⟩, [], [], true, fun _ _ _ => True⟩
def yaX : Sl KK := ⟨87, [(1, [29, 29], [3])], ⟨[(0, .row 2000000)], [], [(2000000, 29)]⟩, ⟨[], [], [(2000000, 29)]⟩, [], [], true, apFs (K := KK) (ctT yaW.ti) (ctT yaW.te) [(1, [29, 29], [3])] ybB⟩
def yd3 : An KK := .o
def yd1 : Cf KK := ⟨CC, [], [ya6], 9, [], none, false⟩
theorem yd6 : SlOk Try.prog CC yaX := by
 intro fs env out hl hF hW
 obtain ⟨F1, fs1, rfl, h0⟩ := yjN hW
 obtain ⟨rfl, h1⟩ := ygC h0
 obtain ⟨a0, ea0, rfl, h2⟩ := ycb h1
 obtain ⟨rfl, h3⟩ := ygA h2
 obtain ⟨r0, er0, rfl, h4⟩ := yeI h3
 obtain ⟨rfl, h5⟩ := yeJ h4
 show SlC Try.prog CC yaX [F1] [.l 29 a0] [.l 29 r0]
 rw [show SlC Try.prog CC yaX [F1] [.l 29 a0] [.l 29 r0] = SlC Try.prog CC yaW [F1] [.l 29 a0] [.l 29 r0] by kernel_rfl]
 exact yhj (F := yd1) ybd yav (yfH yeC yaw) t87 (A := yd3) (sp := yaW) rfl (by kernel_rfl) (by kernel_rfl) (jah (by kernel_rfl)) (fs := [F1]) (env := [.l 29 a0]) (out := [.l 29 r0]) (by kernel_rfl) hF (X := ybB (curF [3] [29, 29] F1.W) a0 r0) h5 (by kernel_rfl)
def ybr (g1 : (List yaa) → (List yaa) → Int → Prop) (a0 r0 : List (List yaa)) : Prop :=
 ∃ z1, (ybJ a0 z1) /\ ∃ z2, (ybB g1 z1 z2) /\ (z2.length = z1.length) /\ ((a0 = a0)) /\ z2 = r0
def yaQ : Sl KK := ⟨63, [(1, [29, 29], [3])], ⟨[(0, .fn 88 [] [.px 2000000 0])], [(2000000, 24, [.sl 29])], []⟩, ⟨[(4, .row 1000000)], [], [(1000000, 29)]⟩, [2000000], [(4, none)], false, fun _ _ _ => True⟩
def yaT : Sl KK := ⟨63, [(1, [29, 29], [3])], ⟨[(0, .fn 88 [] [.px 2000000 0])], [(2000000, 24, [.sl 29])], []⟩, ⟨[(4, .row 1000000)], [], [(1000000, 29)]⟩, [2000000], [(4, none)], false, apFs (K := KK) (ctT yaQ.ti) (ctT yaQ.te) [(1, [29, 29], [3])] ybr⟩
def ydJ : An KK := (.s .o (.s .o (.s .o (.s .o .o))))
def ydK : Cf KK := ⟨CC, [], [ybE, yaX], 12, [], none, false⟩
theorem ydD : SlOk Try.prog CC yaT := by
 intro fs env out hl hF hW
 obtain ⟨F1, fs1, rfl, h0⟩ := yjN hW
 obtain ⟨rfl, h1⟩ := ygC h0
 obtain ⟨a0, ea0, rfl, h2⟩ := ycb h1
 obtain ⟨rfl, h3⟩ := ygA h2
 obtain ⟨r0, er0, rfl, h4⟩ := yeI h3
 obtain ⟨rfl, h5⟩ := yeJ h4
 show SlC Try.prog CC yaT [F1] [.l 29 a0] [.l 29 r0]
 rw [show SlC Try.prog CC yaT [F1] [.l 29 a0] [.l 29 r0] = SlC Try.prog CC yaQ [F1] [.l 29 a0] [.l 29 r0] by kernel_rfl]
 exact yhj (F := ydK) ybd yav (yfH yfB (yfH yd6 yaw)) t63 (A := ydJ) (sp := yaQ) rfl (by kernel_rfl) (by kernel_rfl) (jah (by kernel_rfl)) (fs := [F1]) (env := [.l 29 a0]) (out := [.l 29 r0]) (by kernel_rfl) hF (X := ybr (curF [3] [29, 29] F1.W) a0 r0) h5 (by kernel_rfl)
def yhy (a0 r0 : List (List yaa)) : Prop :=
 ∃ z1, (ycz a0 z1) /\ ∃ z2, (ybr ya9 z1 z2) /\ z2 = r0
def yk5 : Sp KK := ⟨39, [.v 24], [24], appW (K := KK) [24] [.v 24] yhy⟩
def yo6 : An KK := (.s .o (.s .o .o))
def ypm : Cf KK := ⟨CC, [ycu], [ybK, yaT], 6, [], none, false⟩
theorem yo4 : SpOk Try.prog CC yk5 := yat (F := ypm) (ps := [.v 24]) (rs := [24]) (w := yhy) ybd (yar yc5 yav) (yfH yf0 (yfH ydD yaw)) t39 (A := yo6) (by kernel_rfl) (by kernel_rfl) (fun a0 r0 => show _ = _ by kernel_rfl)
def yeQ (a0 : List (List yaa)) (r0 : yaf) : Prop :=
 ∃ z1, (yhy a0 z1) /\ (⟨z1⟩ : yaf) = r0
def yiO : Sp KK := ⟨10, [.v 24], [31], appW (K := KK) [31] [.v 24] yeQ⟩
def yrA : An KK := (.s .o (.s .o .o))
def ysx : Cf KK := ⟨CC, [yk5], [], 6, [], none, false⟩
theorem ylt : SpOk Try.prog CC yiO := yat (F := ysx) (ps := [.v 24]) (rs := [31]) (w := yeQ) ybd (yar yo4 yav) yaw t10 (A := yrA) (by kernel_rfl) (by kernel_rfl) (fun a0 r0 => show _ = _ by kernel_rfl)
def yaM (a0 r0 : List yaa) : Prop :=
 ∀ u1 : Bool, ((u1 = true -> a0 = []) -> cnd u1 (([] : List yaa) = r0) ((a0.length <= 400000000) /\ (([] : List yaa) ++ a0) = r0))
def yb1 : Sp KK := ⟨62, [.v 29], [29], appW (K := KK) [29] [.v 29] yaM⟩
def yhi : An KK := (.s .o (.s (.s .o (.c (.s .o .o) .o)) (.s .o .o)))
def yhf : Cf KK := ⟨CC, [], [], 8, [], none, false⟩
theorem ycH : SpOk Try.prog CC yb1 := yat (F := yhf) (ps := [.v 29]) (rs := [29]) (w := yaM) ybd yav yaw t62 (A := yhi) (by kernel_rfl) (by kernel_rfl) (fun a0 r0 => show _ = _ by kernel_rfl)
def yg1 (a0 : yaf) (r0 : List (List yaa)) (X1 : Int → (List (List yaa)) → Prop) (x1 : Int) (x2 : List (List yaa)) : Prop :=
 cnd (decide (x1 < (a0.rows.length : Int))) ((0 <= x1) /\ (x1 < (a0.rows.length : Int)) /\ ∃ y3 : (List yaa), (a0.rows[x1.toNat]? = some y3) /\ ∃ z4, (yaM y3 z4) /\ (x2.length <= 1000000000) /\ X1 (IntKind.i64.wrap (x1 + (1 : Int))) (x2 ++ ([z4] : List (List yaa)))) (x2 = r0)
def yb9 (a0 : yaf) (r0 : List (List yaa)) : Prop :=
 (a0.rows.length <= maxLen -> ∀ X1 : Int -> (List (List yaa)) -> Prop, (∀ x1 x2, yg1 a0 r0 X1 x1 x2 -> X1 x1 x2) -> X1 (0 : Int) ([] : List (List yaa)))
def yeV : Sp KK := ⟨37, [.v 31], [24], appW (K := KK) [24] [.v 31] yb9⟩
def ylm : An KK := (.s .o (.s .o (.s (.s .o (.b (.l ⟨[(3, .row 17), (7, .kp 6), (8, .kp 7), (9, .it .i64)], [], [(17, 29)]⟩ (fun _ => (.s .o (.s (.c .o .o) (.s (.b (.s .o .o)) .o))))))) (.s .o .o))))
def ylb : Cf KK := ⟨CC, [yb1], [], 20, [], none, false⟩
theorem ygK : SpOk Try.prog CC yeV := yat (F := ylb) (ps := [.v 31]) (rs := [24]) (w := yb9) ybd (yar ycH yav) yaw t37 (A := ylm) (by kernel_rfl) (by kernel_rfl) (fun a0 r0 => show _ = _ by kernel_rfl)
def ycp (a0 : yaf) (r0 : Int) : Prop :=
 (a0.rows.length <= maxLen -> (a0.rows.length : Int) = r0)
def yfv : Sp KK := ⟨13, [.v 31], [3], appW (K := KK) [3] [.v 31] ycp⟩
def ylI : An KK := (.s .o (.s .o .o))
def ylM : Cf KK := ⟨CC, [], [], 6, [], none, false⟩
theorem yhU : SpOk Try.prog CC yfv := yat (F := ylM) (ps := [.v 31]) (rs := [3]) (w := ycp) ybd yav yaw t13 (A := ylI) (by kernel_rfl) (by kernel_rfl) (fun a0 r0 => show _ = _ by kernel_rfl)
def ybU (a0 : yaf) (r0 : List (List yaa)) : Prop :=
 a0.rows = r0
def ycS : Sl KK := ⟨49, [], ⟨[(0, .v 31)], [], []⟩, ⟨[(2, .fn 74 [] [.px 1000000 0])], [(1000000, 31, [.sl 29])], []⟩, [], [(2, none)], true, fun _ _ _ => True⟩
def ych : Sl KK := ⟨49, [], ⟨[(0, .v 31)], [], []⟩, ⟨[(2, .fn 74 [] [.px 1000000 0])], [(1000000, 31, [.sl 29])], []⟩, [], [(2, none)], true, apFs (K := KK) (ctT ycS.ti) (ctT ycS.te) [] ybU⟩
def yjv : An KK := (.s .o (.s .o .o))
def yjy : Cf KK := ⟨CC, [], [], 4, [], none, false⟩
theorem yfC : SlOk Try.prog CC ych := by
 intro fs env out hl hF hW
 obtain ⟨rfl, h0⟩ := ygC hW
 obtain ⟨a0, ea0, rfl, h1⟩ := ycb h0
 obtain ⟨rfl, h2⟩ := ygA h1
 obtain ⟨r0, er0, rfl, h3⟩ := yeI h2
 obtain ⟨rfl, h4⟩ := yeJ h3
 show SlC Try.prog CC ych [] [.v 31 a0] [.l 29 r0]
 rw [show SlC Try.prog CC ych [] [.v 31 a0] [.l 29 r0] = SlC Try.prog CC ycS [] [.v 31 a0] [.l 29 r0] by kernel_rfl]
 exact yhj (F := yjy) ybd yav yaw t49 (A := yjv) (sp := ycS) rfl (by kernel_rfl) (by kernel_rfl) (jah (by kernel_rfl)) (fs := []) (env := [.v 31 a0]) (out := [.l 29 r0]) (by kernel_rfl) hF (X := ybU a0 r0) h4 (by kernel_rfl)
def ydm (X2 : Int → (List (List yaa)) → Prop) (x4 x2 : Int) (z1 : List (List yaa)) (X1 : Int → (List (List yaa)) → Prop) (x6 : Bool) (x7 : List (List yaa)) : Prop :=
 cnd x6 (X2 (IntKind.i64.wrap (x4 + (1 : Int))) x7) ((0 <= x2) /\ (x2 < (z1.length : Int)) /\ ∃ y8 : (List yaa), (z1[x2.toNat]? = some y8) /\ ∃ z9, (yaM y8 z9) /\ (x7.length <= 1000000000) /\ X1 (IntKind.i64.wrap (x2 + x4)) (x7 ++ ([z9] : List (List yaa))))
def ydn (x2 : Int) (z1 : List (List yaa)) (X1 X2 : Int → (List (List yaa)) → Prop) (x4 : Int) (x5 : List (List yaa)) : Prop :=
 ∀ J3 : Bool -> (List (List yaa)) -> Prop, (∀ x6 x7, ydm X2 x4 x2 z1 X1 x6 x7 -> J3 x6 x7) -> cnd (decide ((IntKind.i64.wrap (x2 + x4)) < (z1.length : Int))) ((0 <= x2) /\ (x2 < (z1.length : Int)) /\ ∃ y10 : (List yaa), (z1[x2.toNat]? = some y10) /\ (0 <= (IntKind.i64.wrap (x2 + x4))) /\ ((IntKind.i64.wrap (x2 + x4)) < (z1.length : Int)) /\ ∃ y11 : (List yaa), (z1[(IntKind.i64.wrap (x2 + x4)).toNat]? = some y11) /\ ∃ z12, (ya9 y10 y11 z12) /\ J3 (z12 == (0 : Int)) x5) (J3 false x5)
def ydk (z1 : List (List yaa)) (r0 : yaf) (X1 : Int → (List (List yaa)) → Prop) (x2 : Int) (x3 : List (List yaa)) : Prop :=
 (z1.length <= maxLen -> cnd (decide (x2 < (z1.length : Int))) (∀ X2 : Int -> (List (List yaa)) -> Prop, (∀ x4 x5, ydn x2 z1 X1 X2 x4 x5 -> X2 x4 x5) -> X2 (1 : Int) x3) ((⟨x3⟩ : yaf) = r0))
def ya2 (a0 r0 : yaf) : Prop :=
 ∃ z1, (ybU a0 z1) /\ (Nat -> ∀ X1 : Int -> (List (List yaa)) -> Prop, (∀ x2 x3, ydk z1 r0 X1 x2 x3 -> X1 x2 x3) -> X1 (0 : Int) ([] : List (List yaa)))
def ybh (X1 X2 : Int → (List (List yaa)) → Prop) (x2 x4 : Int) (z1 : List (List yaa)) (x6 : Bool) (x7 : List (List yaa)) : Prop :=
 cnd x6 (X2 (IntKind.i64.wrap (x4 + (1 : Int))) x7) ((0 <= x2) /\ (x2 < (z1.length : Int)) /\ ∃ y8 : (List yaa), (z1[x2.toNat]? = some y8) /\ ∃ z9, (yaM y8 z9) /\ (x7.length <= 1000000000) /\ X1 (IntKind.i64.wrap (x2 + x4)) (x7 ++ ([z9] : List (List yaa))))
def ycc (X1 : Int → (List (List yaa)) → Prop) (x2 : Int) (z1 : List (List yaa)) (X2 : Int → (List (List yaa)) → Prop) (x4 : Int) (x5 : List (List yaa)) : Prop :=
 cnd (decide ((IntKind.i64.wrap (x2 + x4)) < (z1.length : Int))) ((0 <= x2) /\ (x2 < (z1.length : Int)) /\ ∃ y10 : (List yaa), (z1[x2.toNat]? = some y10) /\ (0 <= (IntKind.i64.wrap (x2 + x4))) /\ ((IntKind.i64.wrap (x2 + x4)) < (z1.length : Int)) /\ ∃ y11 : (List yaa), (z1[(IntKind.i64.wrap (x2 + x4)).toNat]? = some y11) /\ ∃ z12, (ya9 y10 y11 z12) /\ ybh X1 X2 x2 x4 z1 (z12 == (0 : Int)) x5) (ybh X1 X2 x2 x4 z1 false x5)
def ycf (r0 : yaf) (z1 : List (List yaa)) (X1 : Int → (List (List yaa)) → Prop) (x2 : Int) (x3 : List (List yaa)) : Prop :=
 (z1.length <= maxLen -> cnd (decide (x2 < (z1.length : Int))) (∀ X2 : Int -> (List (List yaa)) -> Prop, (∀ x4 x5, ycc X1 x2 z1 X2 x4 x5 -> X2 x4 x5) -> X2 (1 : Int) x3) ((⟨x3⟩ : yaf) = r0))
def yfc (a0 r0 : yaf) : Prop :=
 ∃ z1, (ybU a0 z1) /\ (Nat -> ∀ X1 : Int -> (List (List yaa)) -> Prop, (∀ x2 x3, ycf r0 z1 X1 x2 x3 -> X1 x2 x3) -> X1 (0 : Int) ([] : List (List yaa)))
theorem yhl (X1 X2 : Int → (List (List yaa)) → Prop) (x2 x4 : Int) (z1 : List (List yaa)) {x6 : Bool} {x7 : List (List yaa)} (h : ybh X1 X2 x2 x4 z1 x6 x7) : ydm X2 x4 x2 z1 X1 x6 x7 := by
 unfold ydm
 unfold ybh at h
 exact h
theorem yhc (X1 : Int → (List (List yaa)) → Prop) (x2 : Int) (z1 : List (List yaa)) {X2 : Int → (List (List yaa)) → Prop} {x4 : Int} {x5 : List (List yaa)} (h : ycc X1 x2 z1 X2 x4 x5) : ydn x2 z1 X1 X2 x4 x5 := by
 unfold ydn
 unfold ycc at h
 intro J3 kJ3
 have hJ3 : ∀ x6 x7, ybh X1 X2 x2 x4 z1 x6 x7 -> J3 x6 x7 := fun x6 x7 q => kJ3 x6 x7 (yhl X1 X2 x2 x4 z1 q)
 refine yag h (fun h => ?_) (fun h => ?_)
 ·obtain ⟨h0, h⟩ := h
  refine ⟨h0, ?_⟩
  obtain ⟨h0, h⟩ := h
  refine ⟨h0, ?_⟩
  obtain ⟨y10, h⟩ := h
  refine ⟨y10, ?_⟩
  obtain ⟨h0, h⟩ := h
  refine ⟨h0, ?_⟩
  obtain ⟨h0, h⟩ := h
  refine ⟨h0, ?_⟩
  obtain ⟨h0, h⟩ := h
  refine ⟨h0, ?_⟩
  obtain ⟨y11, h⟩ := h
  refine ⟨y11, ?_⟩
  obtain ⟨h0, h⟩ := h
  refine ⟨h0, ?_⟩
  obtain ⟨z12, h⟩ := h
  refine ⟨z12, ?_⟩
  obtain ⟨h0, h⟩ := h
  refine ⟨h0, ?_⟩
  exact hJ3 _ _ h
 ·exact hJ3 _ _ h
theorem yha (r0 : yaf) (z1 : List (List yaa)) {X1 : Int → (List (List yaa)) → Prop} {x2 : Int} {x3 : List (List yaa)} (h : ycf r0 z1 X1 x2 x3) : ydk z1 r0 X1 x2 x3 := by
 unfold ydk
 unfold ycf at h
 intro c
 replace h := h c
 refine yag h (fun h => ?_) (fun h => ?_)
 ·intro X2 k
  exact h X2 (fun x4 x5 q => k x4 x5 (yhc X1 x2 z1 q))
 ·exact h
theorem yiv (a0 r0 : yaf) (h : yfc a0 r0) : ya2 a0 r0 := by
 unfold ya2
 unfold yfc at h
 obtain ⟨z1, h⟩ := h
 refine ⟨z1, ?_⟩
 obtain ⟨h0, h⟩ := h
 refine ⟨h0, ?_⟩
 intro c
 replace h := h c
 intro X1 k
 exact h X1 (fun x2 x3 q => k x2 x3 (yha r0 z1 q))
def ydj : Sp KK := ⟨22, [.v 31], [31], appW (K := KK) [31] [.v 31] ya2⟩
def yh5 : An KK := (.s .o (.s .o (.s (.s .o (.b (.g 1 ⟨[(2, .px 100002 0), (3, .px 100003 0), (6, .fn 74 [] [.px 100384 0])], [(100002, 31, [.nil]), (100003, 24, [.nil]), (100384, 31, [.sl 29])], []⟩ ⟨[(0, .kp 1), (1, .px 200384 0), (3, .kp 72), (4, .kp 77), (35, .kp 1), (41, .sl 88), (42, .kp 77), (48, .kp 1), (51, .px 200002 0), (52, .px 200003 0)], [(200384, 31, [.kp 41]), (200002, 31, [.kp 42]), (200003, 24, [.row 200012])], [(200012, 29)]⟩ (.s .o (.b (.l ⟨[(0, .kp 1), (1, .px 100384 0), (3, .it .i64), (48, .kp 1), (51, .px 100002 0), (52, .px 100003 0)], [(100384, 31, [.kp 41]), (100002, 31, [.kp 42]), (100003, 24, [.row 12])], [(12, 29)]⟩ (fun _ => (.s (.s .o (.c .o .o)) (.b (.s .o (.s (.b (.l ⟨[(0, .kp 1), (1, .px 100384 0), (3, .kp 72), (4, .it .i64), (48, .kp 1), (51, .px 100002 0), (52, .px 100003 0)], [(100384, 31, [.kp 41]), (100002, 31, [.kp 42]), (100003, 24, [.row 12])], [(12, 29)]⟩ (fun _ => (.s (.j ⟨[(0, .kp 1), (1, .px 100384 0), (3, .kp 72), (4, .kp 77), (32, .bl), (48, .kp 1), (51, .px 100002 0), (52, .px 100003 0)], [(100384, 31, [.kp 41]), (100002, 31, [.kp 42]), (100003, 24, [.row 12])], [(12, 29)]⟩ .o (fun _ => (.c .o .o))) (.b .o))))) (.s (.s .o (.c .o .o)) .o))))))))) .o (.b .o)))) (.s .o .o))))
def yh7 : Cf KK := ⟨CC, [ycu, yb1], [ych], 15, [(74, c74)], none, false⟩
theorem yeY : SpOk Try.prog CC ydj := yat (F := yh7) (ps := [.v 31]) (rs := [31]) (w := ya2) ybd (yar yc5 (yar ycH yav)) (yfH yfC yaw) t22 (A := yh5) (by kernel_rfl) (by kernel_rfl) (fun a0 r0 => show _ = _ by kernel_rfl) (hI := (ywM t74 yuj))
def yk6 (r0 x5 : Bool) : Prop :=
 x5 = r0
def yc9 (r0 : Bool) : Prop :=
 ∃ z1, (yb0 (1 : Int) z1) /\ ∃ z2, (yb0 (0 : Int) z2) /\ ∃ z3, (yeQ ([([z1] : List yaa), ([z2] : List yaa), ([z1] : List yaa)] : List (List yaa)) z3) /\ ∃ z4, (yb9 z3 z4) /\ ∀ J1 : Bool -> Prop, (∀ x5, yk6 r0 x5 -> J1 x5) -> ∃ z6, (ycp z3 z6) /\ cnd (z6 == (3 : Int)) (∃ z7, (ya2 z3 z7) /\ ∃ z8, (ycp z7 z8) /\ cnd (z8 == (2 : Int)) (cnd ((z4.length : Int) == (3 : Int)) ((0 <= (0 : Int)) /\ ((0 : Int) < (z4.length : Int)) /\ ∃ y9 : (List yaa), (z4[(0 : Int).toNat]? = some y9) /\ (0 <= (0 : Int)) /\ ((0 : Int) < (y9.length : Int)) /\ ∃ y10 : yaa, (y9[(0 : Int).toNat]? = some y10) /\ ∃ z11, (yb0 (0 : Int) z11) /\ cnd ((y10.Kind == z11.Kind) && ((y10.N == z11.N) && ((y10.S == z11.S) && true))) ((0 <= (2 : Int)) /\ ((2 : Int) < (z4.length : Int)) /\ ∃ y12 : (List yaa), (z4[(2 : Int).toNat]? = some y12) /\ (0 <= (0 : Int)) /\ ((0 : Int) < (y12.length : Int)) /\ ∃ y13 : yaa, (y12[(0 : Int).toNat]? = some y13) /\ ∃ z14, (yb0 (1 : Int) z14) /\ J1 ((y13.Kind == z14.Kind) && ((y13.N == z14.N) && ((y13.S == z14.S) && true)))) (J1 false)) (J1 false)) (J1 false)) (J1 false)
def ygP : Sp KK := ⟨8, [], [4], appW (K := KK) [4] [] yc9⟩
def ykF : An KK := (.s .o (.s .o (.s .o (.s .o (.j ⟨[(0, .bl)], [], []⟩ .o (fun _ => .o))))))
def yk8 : Cf KK := ⟨CC, [yhV, yiO, yeV, yfv, ydj], [], 46, [], none, false⟩
theorem ykN : SpOk Try.prog CC ygP := yat (F := yk8) (ps := []) (rs := [4]) (w := yc9) ybd (yar ylK (yar ylt (yar ygK (yar yhU (yar yeY yav))))) yaw t8 (A := ykF) (by kernel_rfl) (by kernel_rfl) (fun r0 => show _ = _ by kernel_rfl)
def ygp (X1 : Int → (List yaa) → (List yab) → Prop) (x1 : Int) (y7 : yac) (x8 : Int) (x9 : Str) (x10 : List yaa) (x11 : List yab) : Prop :=
 (x10.length <= 1000000000) /\ (x11.length <= 1000000000) /\ X1 (IntKind.i64.wrap (x1 + (1 : Int))) (x10 ++ ([(⟨IntKind.i64.wrap (y7.Kind.tmod (4 : Int)), x8, x9⟩ : yaa)] : List yaa)) (x11 ++ ([(⟨IntKind.i64.wrap (y7.Kind.tmod (4 : Int)), x8, x9⟩ : yab)] : List yab))
def yfT (x1 : Int) (a0 : List yac) (X1 : Int → (List yaa) → (List yab) → Prop) (r0 : List yaa) (r1 : List yab) (x4 : Bool) (x5 : List yaa) (x6 : List yab) : Prop :=
 cnd x4 ((0 <= x1) /\ (x1 < (a0.length : Int)) /\ ∃ y7 : yac, (a0[x1.toNat]? = some y7) /\ ∀ J3 : Int -> Str -> (List yaa) -> (List yab) -> Prop, (∀ x8 x9 x10 x11, ygp X1 x1 y7 x8 x9 x10 x11 -> J3 x8 x9 x10 x11) -> cnd ((IntKind.i64.wrap (y7.Kind.tmod (4 : Int))) == (1 : Int)) ((0 <= x1) /\ (x1 < (a0.length : Int)) /\ ∃ y12 : yac, (a0[x1.toNat]? = some y12) /\ J3 (IntKind.i64.wrap (bits .and .u8 y12.N (1 : Int))) ([] : Str) x5 x6) (cnd ((IntKind.i64.wrap (y7.Kind.tmod (4 : Int))) == (2 : Int)) ((0 <= x1) /\ (x1 < (a0.length : Int)) /\ ∃ y13 : yac, (a0[x1.toNat]? = some y13) /\ J3 (IntKind.i64.wrap y13.N) ([] : Str) x5 x6) (cnd ((IntKind.i64.wrap (y7.Kind.tmod (4 : Int))) == (3 : Int)) ((0 <= x1) /\ (x1 < (a0.length : Int)) /\ ∃ y14 : yac, (a0[x1.toNat]? = some y14) /\ (0 <= x1) /\ (x1 < (a0.length : Int)) /\ ∃ y15 : yac, (a0[x1.toNat]? = some y15) /\ (0 <= (0 : Int) /\ (0 : Int) <= (if (64 : Int) < (y15.S.length : Int) then (64 : Int) else (y15.S.length : Int)) /\ (if (64 : Int) < (y15.S.length : Int) then (64 : Int) else (y15.S.length : Int)) <= (y14.S.length : Int)) /\ J3 (0 : Int) ((y14.S.drop (0 : Int).toNat).take ((if (64 : Int) < (y15.S.length : Int) then (64 : Int) else (y15.S.length : Int)).toNat - (0 : Int).toNat)) x5 x6) (J3 (0 : Int) ([] : Str) x5 x6)))) (x5 = r0 /\ x6 = r1)
def ygd (a0 : List yac) (r0 : List yaa) (r1 : List yab) (X1 : Int → (List yaa) → (List yab) → Prop) (x1 : Int) (x2 : List yaa) (x3 : List yab) : Prop :=
 ∀ J2 : Bool -> (List yaa) -> (List yab) -> Prop, (∀ x4 x5 x6, yfT x1 a0 X1 r0 r1 x4 x5 x6 -> J2 x4 x5 x6) -> (a0.length <= maxLen -> cnd (decide (x1 < (a0.length : Int))) (J2 (decide (x1 < (4 : Int))) x2 x3) (J2 false x2 x3))
def ycD (a0 : List yac) (r0 : List yaa) (r1 : List yab) : Prop :=
 ∀ X1 : Int -> (List yaa) -> (List yab) -> Prop, (∀ x1 x2 x3, ygd a0 r0 r1 X1 x1 x2 x3 -> X1 x1 x2 x3) -> X1 (0 : Int) ([] : List yaa) ([] : List yab)
def ybO (X1 : Int → (List yaa) → (List yab) → Prop) (x1 : Int) (y7 : yac) (x8 : Int) (x9 : Str) (x10 : List yaa) (x11 : List yab) : Prop :=
 (x10.length <= 1000000000) /\ (x11.length <= 1000000000) /\ X1 (IntKind.i64.wrap (x1 + (1 : Int))) (x10 ++ ([(⟨IntKind.i64.wrap (y7.Kind.tmod (4 : Int)), x8, x9⟩ : yaa)] : List yaa)) (x11 ++ ([(⟨IntKind.i64.wrap (y7.Kind.tmod (4 : Int)), x8, x9⟩ : yab)] : List yab))
def yb5 (X1 : Int → (List yaa) → (List yab) → Prop) (a0 : List yac) (r0 : List yaa) (r1 : List yab) (x1 : Int) (x4 : Bool) (x5 : List yaa) (x6 : List yab) : Prop :=
 cnd x4 ((0 <= x1) /\ (x1 < (a0.length : Int)) /\ ∃ y7 : yac, (a0[x1.toNat]? = some y7) /\ cnd ((IntKind.i64.wrap (y7.Kind.tmod (4 : Int))) == (1 : Int)) ((0 <= x1) /\ (x1 < (a0.length : Int)) /\ ∃ y12 : yac, (a0[x1.toNat]? = some y12) /\ ybO X1 x1 y7 (IntKind.i64.wrap (bits .and .u8 y12.N (1 : Int))) ([] : Str) x5 x6) (cnd ((IntKind.i64.wrap (y7.Kind.tmod (4 : Int))) == (2 : Int)) ((0 <= x1) /\ (x1 < (a0.length : Int)) /\ ∃ y13 : yac, (a0[x1.toNat]? = some y13) /\ ybO X1 x1 y7 (IntKind.i64.wrap y13.N) ([] : Str) x5 x6) (cnd ((IntKind.i64.wrap (y7.Kind.tmod (4 : Int))) == (3 : Int)) ((0 <= x1) /\ (x1 < (a0.length : Int)) /\ ∃ y14 : yac, (a0[x1.toNat]? = some y14) /\ (0 <= x1) /\ (x1 < (a0.length : Int)) /\ ∃ y15 : yac, (a0[x1.toNat]? = some y15) /\ (0 <= (0 : Int) /\ (0 : Int) <= (if (64 : Int) < (y15.S.length : Int) then (64 : Int) else (y15.S.length : Int)) /\ (if (64 : Int) < (y15.S.length : Int) then (64 : Int) else (y15.S.length : Int)) <= (y14.S.length : Int)) /\ ybO X1 x1 y7 (0 : Int) ((y14.S.drop (0 : Int).toNat).take ((if (64 : Int) < (y15.S.length : Int) then (64 : Int) else (y15.S.length : Int)).toNat - (0 : Int).toNat)) x5 x6) (ybO X1 x1 y7 (0 : Int) ([] : Str) x5 x6)))) (x5 = r0 /\ x6 = r1)
def yei (a0 : List yac) (r0 : List yaa) (r1 : List yab) (X1 : Int → (List yaa) → (List yab) → Prop) (x1 : Int) (x2 : List yaa) (x3 : List yab) : Prop :=
 (a0.length <= maxLen -> cnd (decide (x1 < (a0.length : Int))) (yb5 X1 a0 r0 r1 x1 (decide (x1 < (4 : Int))) x2 x3) (yb5 X1 a0 r0 r1 x1 false x2 x3))
def yi6 (a0 : List yac) (r0 : List yaa) (r1 : List yab) : Prop :=
 ∀ X1 : Int -> (List yaa) -> (List yab) -> Prop, (∀ x1 x2 x3, yei a0 r0 r1 X1 x1 x2 x3 -> X1 x1 x2 x3) -> X1 (0 : Int) ([] : List yaa) ([] : List yab)
theorem yli (X1 : Int → (List yaa) → (List yab) → Prop) (x1 : Int) (y7 : yac) {x8 : Int} {x9 : Str} {x10 : List yaa} {x11 : List yab} (h : ybO X1 x1 y7 x8 x9 x10 x11) : ygp X1 x1 y7 x8 x9 x10 x11 := by
 unfold ygp
 unfold ybO at h
 exact h
theorem ykO (X1 : Int → (List yaa) → (List yab) → Prop) (a0 : List yac) (r0 : List yaa) (r1 : List yab) (x1 : Int) {x4 : Bool} {x5 : List yaa} {x6 : List yab} (h : yb5 X1 a0 r0 r1 x1 x4 x5 x6) : yfT x1 a0 X1 r0 r1 x4 x5 x6 := by
 unfold yfT
 unfold yb5 at h
 refine yag h (fun h => ?_) (fun h => ?_)
 ·obtain ⟨h0, h⟩ := h
  refine ⟨h0, ?_⟩
  obtain ⟨h0, h⟩ := h
  refine ⟨h0, ?_⟩
  obtain ⟨y7, h⟩ := h
  refine ⟨y7, ?_⟩
  obtain ⟨h0, h⟩ := h
  refine ⟨h0, ?_⟩
  intro J3 kJ3
  have hJ3 : ∀ x8 x9 x10 x11, ybO X1 x1 y7 x8 x9 x10 x11 -> J3 x8 x9 x10 x11 := fun x8 x9 x10 x11 q => kJ3 x8 x9 x10 x11 (yli X1 x1 y7 q)
  refine yag h (fun h => ?_) (fun h => ?_)
  ·obtain ⟨h0, h⟩ := h
   refine ⟨h0, ?_⟩
   obtain ⟨h0, h⟩ := h
   refine ⟨h0, ?_⟩
   obtain ⟨y12, h⟩ := h
   refine ⟨y12, ?_⟩
   obtain ⟨h0, h⟩ := h
   refine ⟨h0, ?_⟩
   exact hJ3 _ _ _ _ h
  ·refine yag h (fun h => ?_) (fun h => ?_)
   ·obtain ⟨h0, h⟩ := h
    refine ⟨h0, ?_⟩
    obtain ⟨h0, h⟩ := h
    refine ⟨h0, ?_⟩
    obtain ⟨y13, h⟩ := h
    refine ⟨y13, ?_⟩
    obtain ⟨h0, h⟩ := h
    refine ⟨h0, ?_⟩
    exact hJ3 _ _ _ _ h
   ·refine yag h (fun h => ?_) (fun h => ?_)
    ·obtain ⟨h0, h⟩ := h
     refine ⟨h0, ?_⟩
     obtain ⟨h0, h⟩ := h
     refine ⟨h0, ?_⟩
     obtain ⟨y14, h⟩ := h
     refine ⟨y14, ?_⟩
     obtain ⟨h0, h⟩ := h
     refine ⟨h0, ?_⟩
     obtain ⟨h0, h⟩ := h
     refine ⟨h0, ?_⟩
     obtain ⟨h0, h⟩ := h
     refine ⟨h0, ?_⟩
     obtain ⟨y15, h⟩ := h
     refine ⟨y15, ?_⟩
     obtain ⟨h0, h⟩ := h
     refine ⟨h0, ?_⟩
     obtain ⟨h0, h⟩ := h
     refine ⟨h0, ?_⟩
     exact hJ3 _ _ _ _ h
    ·exact hJ3 _ _ _ _ h
 ·exact h
theorem ykK (a0 : List yac) (r0 : List yaa) (r1 : List yab) {X1 : Int → (List yaa) → (List yab) → Prop} {x1 : Int} {x2 : List yaa} {x3 : List yab} (h : yei a0 r0 r1 X1 x1 x2 x3) : ygd a0 r0 r1 X1 x1 x2 x3 := by
 unfold ygd
 unfold yei at h
 intro J2 kJ2
 have hJ2 : ∀ x4 x5 x6, yb5 X1 a0 r0 r1 x1 x4 x5 x6 -> J2 x4 x5 x6 := fun x4 x5 x6 q => kJ2 x4 x5 x6 (ykO X1 a0 r0 r1 x1 q)
 intro c
 replace h := h c
 refine yag h (fun h => ?_) (fun h => ?_)
 ·exact hJ2 _ _ _ h
 ·exact hJ2 _ _ _ h
theorem ynK (a0 : List yac) (r0 : List yaa) (r1 : List yab) (h : yi6 a0 r0 r1) : ycD a0 r0 r1 := by
 unfold ycD
 unfold yi6 at h
 intro X1 k
 exact h X1 (fun x1 x2 x3 q => k x1 x2 x3 (ykK a0 r0 r1 q))
def yiR : Sp KK := ⟨38, [.v 93], [29, 50], appW (K := KK) [29, 50] [.v 93] ycD⟩
def ymx : An KK := (.s .o (.s .o (.s .o (.s (.s .o (.b (.l ⟨[(0, .kp 15), (4, .row 66), (5, .row 70), (6, .it .i64)], [], [(66, 88), (70, 116)]⟩ (fun _ => (.s (.j ⟨[(0, .kp 15), (4, .row 66), (5, .row 70), (6, .kp 26), (15, .bl)], [], [(66, 88), (70, 116)]⟩ .o (fun _ => (.c .o .o))) (.s (.b (.s .o (.j ⟨[(0, .kp 15), (4, .row 66), (5, .row 70), (6, .kp 26), (7, .px 7 0)], [(7, 116, [.kp 28, .it .i64, .st])], [(66, 88), (70, 116)]⟩ (.s .o (.b (.s .o (.c .o (.s .o (.c .o (.s .o (.c .o .o)))))))) (fun _ => .o)))) .o)))))) (.s .o .o)))))
def ynu : Cf KK := ⟨CC, [], [], 73, [], none, false⟩
theorem ymZ : SpOk Try.prog CC yiR := yat (F := ynu) (ps := [.v 93]) (rs := [29, 50]) (w := ycD) ybd yav yaw t38 (A := ymx) (by kernel_rfl) (by kernel_rfl) (fun a0 r0 r1 => show _ = _ by kernel_rfl)
def yf3 (x1 : Int) (a0 : List (List yac)) (X1 : Int → (List (List yaa)) → (List (List yab)) → Prop) (r0 : List (List yaa)) (r1 : List (List yab)) (x4 : Bool) (x5 : List (List yaa)) (x6 : List (List yab)) : Prop :=
 cnd x4 ((0 <= x1) /\ (x1 < (a0.length : Int)) /\ ∃ y7 : (List yac), (a0[x1.toNat]? = some y7) /\ ∃ z8 z9, (ycD y7 z8 z9) /\ (x5.length <= 1000000000) /\ (x6.length <= 1000000000) /\ X1 (IntKind.i64.wrap (x1 + (1 : Int))) (x5 ++ ([z8] : List (List yaa))) (x6 ++ ([z9] : List (List yab)))) (x5 = r0 /\ x6 = r1)
def ygb (a0 : List (List yac)) (r0 : List (List yaa)) (r1 : List (List yab)) (X1 : Int → (List (List yaa)) → (List (List yab)) → Prop) (x1 : Int) (x2 : List (List yaa)) (x3 : List (List yab)) : Prop :=
 ∀ J2 : Bool -> (List (List yaa)) -> (List (List yab)) -> Prop, (∀ x4 x5 x6, yf3 x1 a0 X1 r0 r1 x4 x5 x6 -> J2 x4 x5 x6) -> (a0.length <= maxLen -> cnd (decide (x1 < (a0.length : Int))) (J2 (decide (x1 < (12 : Int))) x2 x3) (J2 false x2 x3))
def ybX (a0 : List (List yac)) (r0 : List (List yaa)) (r1 : List (List yab)) : Prop :=
 ∀ X1 : Int -> (List (List yaa)) -> (List (List yab)) -> Prop, (∀ x1 x2 x3, ygb a0 r0 r1 X1 x1 x2 x3 -> X1 x1 x2 x3) -> X1 (0 : Int) ([] : List (List yaa)) ([] : List (List yab))
def ycs (X1 : Int → (List (List yaa)) → (List (List yab)) → Prop) (a0 : List (List yac)) (r0 : List (List yaa)) (r1 : List (List yab)) (x1 : Int) (x4 : Bool) (x5 : List (List yaa)) (x6 : List (List yab)) : Prop :=
 cnd x4 ((0 <= x1) /\ (x1 < (a0.length : Int)) /\ ∃ y7 : (List yac), (a0[x1.toNat]? = some y7) /\ ∃ z8 z9, (ycD y7 z8 z9) /\ (x5.length <= 1000000000) /\ (x6.length <= 1000000000) /\ X1 (IntKind.i64.wrap (x1 + (1 : Int))) (x5 ++ ([z8] : List (List yaa))) (x6 ++ ([z9] : List (List yab)))) (x5 = r0 /\ x6 = r1)
def yeo (a0 : List (List yac)) (r0 : List (List yaa)) (r1 : List (List yab)) (X1 : Int → (List (List yaa)) → (List (List yab)) → Prop) (x1 : Int) (x2 : List (List yaa)) (x3 : List (List yab)) : Prop :=
 (a0.length <= maxLen -> cnd (decide (x1 < (a0.length : Int))) (ycs X1 a0 r0 r1 x1 (decide (x1 < (12 : Int))) x2 x3) (ycs X1 a0 r0 r1 x1 false x2 x3))
def yiK (a0 : List (List yac)) (r0 : List (List yaa)) (r1 : List (List yab)) : Prop :=
 ∀ X1 : Int -> (List (List yaa)) -> (List (List yab)) -> Prop, (∀ x1 x2 x3, yeo a0 r0 r1 X1 x1 x2 x3 -> X1 x1 x2 x3) -> X1 (0 : Int) ([] : List (List yaa)) ([] : List (List yab))
theorem ylj (X1 : Int → (List (List yaa)) → (List (List yab)) → Prop) (a0 : List (List yac)) (r0 : List (List yaa)) (r1 : List (List yab)) (x1 : Int) {x4 : Bool} {x5 : List (List yaa)} {x6 : List (List yab)} (h : ycs X1 a0 r0 r1 x1 x4 x5 x6) : yf3 x1 a0 X1 r0 r1 x4 x5 x6 := by
 unfold yf3
 unfold ycs at h
 exact h
theorem ykr (a0 : List (List yac)) (r0 : List (List yaa)) (r1 : List (List yab)) {X1 : Int → (List (List yaa)) → (List (List yab)) → Prop} {x1 : Int} {x2 : List (List yaa)} {x3 : List (List yab)} (h : yeo a0 r0 r1 X1 x1 x2 x3) : ygb a0 r0 r1 X1 x1 x2 x3 := by
 unfold ygb
 unfold yeo at h
 intro J2 kJ2
 have hJ2 : ∀ x4 x5 x6, ycs X1 a0 r0 r1 x1 x4 x5 x6 -> J2 x4 x5 x6 := fun x4 x5 x6 q => kJ2 x4 x5 x6 (ylj X1 a0 r0 r1 x1 q)
 intro c
 replace h := h c
 refine yag h (fun h => ?_) (fun h => ?_)
 ·exact hJ2 _ _ _ h
 ·exact hJ2 _ _ _ h
theorem yoI (a0 : List (List yac)) (r0 : List (List yaa)) (r1 : List (List yab)) (h : yiK a0 r0 r1) : ybX a0 r0 r1 := by
 unfold ybX
 unfold yiK at h
 intro X1 k
 exact h X1 (fun x1 x2 x3 q => k x1 x2 x3 (ykr a0 r0 r1 q))
def yiX : Sp KK := ⟨9, [.v 22], [24, 25], appW (K := KK) [24, 25] [.v 22] ybX⟩
def ymM : An KK := (.s .o (.s .o (.s .o (.s (.s .o (.b (.l ⟨[(0, .kp 9), (4, .row 30), (5, .row 34), (6, .it .i64)], [], [(30, 29), (34, 50)]⟩ (fun _ => (.s (.j ⟨[(0, .kp 9), (4, .row 30), (5, .row 34), (6, .kp 16), (16, .bl)], [], [(30, 29), (34, 50)]⟩ .o (fun _ => (.c .o .o))) (.s (.b (.s .o .o)) .o)))))) (.s .o .o)))))
def ynr : Cf KK := ⟨CC, [yiR], [], 37, [], none, false⟩
theorem ymz : SpOk Try.prog CC yiX := yat (F := ynr) (ps := [.v 22]) (rs := [24, 25]) (w := ybX) ybd (yar ymZ yav) yaw t9 (A := ymM) (by kernel_rfl) (by kernel_rfl) (fun a0 r0 r1 => show _ = _ by kernel_rfl)
def yeH (a0 a1 : List yaa) (r0 : Bool) : Prop :=
 ∃ z1, (ya9 a0 a1 z1) /\ (z1 == (0 : Int)) = r0
def yiA : Sp KK := ⟨41, [.v 29, .v 29], [4], appW (K := KK) [4] [.v 29, .v 29] yeH⟩
def ymL : An KK := (.s .o (.s .o .o))
def ynq : Cf KK := ⟨CC, [ycu], [], 9, [], none, false⟩
theorem ymF : SpOk Try.prog CC yiA := yat (F := ynq) (ps := [.v 29, .v 29]) (rs := [4]) (w := yeH) ybd (yar yc5 yav) yaw t41 (A := ymL) (by kernel_rfl) (by kernel_rfl) (fun a0 a1 r0 => show _ = _ by kernel_rfl)
def ydH (a0 a1 : List (List yaa)) (g2 : (List yaa) → (List yaa) → Bool → Prop) (r0 : Bool) (X1 : Int → Prop) (x1 : Int) : Prop :=
 cnd (decide (x1 < (a0.length : Int))) ((0 <= x1) /\ (x1 < (a0.length : Int)) /\ ∃ y2 : (List yaa), (a0[x1.toNat]? = some y2) /\ (0 <= x1) /\ (x1 < (a1.length : Int)) /\ ∃ y3 : (List yaa), (a1[x1.toNat]? = some y3) /\ ∃ z4, (g2 y2 y3 z4) /\ cnd (!z4) (false = r0) (X1 (IntKind.i64.wrap (x1 + (1 : Int))))) (true = r0)
def ybw (a0 a1 : List (List yaa)) (g2 : (List yaa) → (List yaa) → Bool → Prop) (r0 : Bool) : Prop :=
 (a0.length <= maxLen -> (a1.length <= maxLen -> cnd (!((a0.length : Int) == (a1.length : Int))) (false = r0) ((a0.length <= maxLen -> ∀ X1 : Int -> Prop, (∀ x1, ydH a0 a1 g2 r0 X1 x1 -> X1 x1) -> X1 (0 : Int)))))
def ydE : Sp KK := ⟨40, [.v 24, .v 24, .f [29, 29] [4]], [4], appW (K := KK) [4] [.v 24, .v 24, .f [29, 29] [4]] ybw⟩
def ygn : An KK := (.s .o (.s (.s .o (.c (.s .o .o) .o)) (.s (.s .o (.b (.l ⟨[(1, .kp 6), (2, .kp 7), (15, .kp 8), (16, .kp 9), (17, .it .i64)], [], []⟩ (fun _ => (.s .o (.s (.c .o .o) (.s (.b (.s .o (.s .o (.s .o (.c (.s .o .o) .o))))) .o))))))) (.s .o .o))))
def ygv : Cf KK := ⟨CC, [], [], 32, [], none, false⟩
theorem ygi : SpOk Try.prog CC ydE := yat (F := ygv) (ps := [.v 24, .v 24, .f [29, 29] [4]]) (rs := [4]) (w := ybw) ybd yav yaw t40 (A := ygn) (by kernel_rfl) (by kernel_rfl) (fun a0 a1 F2 r0 => show _ = _ by kernel_rfl)
def yds (a0 a1 : yaf) (r0 : Bool) : Prop :=
 ∃ z1, (ybw a0.rows a1.rows yeH z1) /\ z1 = r0
def ylc : Sp KK := ⟨11, [.v 31, .v 31], [4], appW (K := KK) [4] [.v 31, .v 31] yds⟩
def yo7 : An KK := (.s .o (.s .o .o))
def ypk : Cf KK := ⟨CC, [yiA, ydE], [], 10, [], none, false⟩
theorem ypy : SpOk Try.prog CC ylc := yat (F := ypk) (ps := [.v 31, .v 31]) (rs := [4]) (w := yds) ybd (yar ymF (yar ygi yav)) yaw t11 (A := yo7) (by kernel_rfl) (by kernel_rfl) (fun a0 a1 r0 => show _ = _ by kernel_rfl)
def yky (a0 : List yaf) (r0 : yaf) (X1 : Int → (List (List yaa)) → Prop) (x1 : Int) (x2 : List (List yaa)) : Prop :=
 cnd (decide (x1 < (a0.length : Int))) ((0 <= x1) /\ (x1 < (a0.length : Int)) /\ ∃ y3 : yaf, (a0[x1.toNat]? = some y3) /\ (x2.length <= 1000000000) /\ (y3.rows.length <= 400000000) /\ X1 (IntKind.i64.wrap (x1 + (1 : Int))) (x2 ++ y3.rows)) (∃ z4, (yeQ x2 z4) /\ z4 = r0)
def ycw (a0 : List yaf) (r0 : yaf) : Prop :=
 (a0.length <= maxLen -> ∀ X1 : Int -> (List (List yaa)) -> Prop, (∀ x1 x2, yky a0 r0 X1 x1 x2 -> X1 x1 x2) -> X1 (0 : Int) ([] : List (List yaa)))
def ykZ : Sp KK := ⟨12, [.v 97], [31], appW (K := KK) [31] [.v 97] ycw⟩
def yoW : An KK := (.s .o (.s .o (.s (.s .o (.b (.l ⟨[(2, .px 2 0), (3, .row 15), (6, .kp 7), (7, .kp 8), (8, .it .i64)], [(2, 31, [.kp 10])], [(15, 29)]⟩ (fun _ => (.s .o (.s (.c .o .o) (.s (.b (.s .o .o)) .o))))))) (.s .o .o))))
def ypq : Cf KK := ⟨CC, [yiO], [], 19, [], none, false⟩
theorem ypc : SpOk Try.prog CC ykZ := yat (F := ypq) (ps := [.v 97]) (rs := [31]) (w := ycw) ybd (yar ylt yav) yaw t12 (A := yoW) (by kernel_rfl) (by kernel_rfl) (fun a0 r0 => show _ = _ by kernel_rfl)
def yi2 (a0 : List Str) (r0 : Str) (X1 : Str → Int → Prop) (x1 : Str) (x2 : Int) : Prop :=
 (a0.length <= maxLen -> cnd (decide (x2 < (a0.length : Int))) ((0 <= x2) /\ (x2 < (a0.length : Int)) /\ ∃ y3 : Str, (a0[x2.toNat]? = some y3) /\ (0 <= x2) /\ (x2 < (a0.length : Int)) /\ ∃ y4 : Str, (a0[x2.toNat]? = some y4) /\ ((([IntKind.u8.wrap ((IntKind.i64.wrap ((y3.length : Int).tdiv (16777216 : Int))).tmod (256 : Int)), IntKind.u8.wrap ((IntKind.i64.wrap ((y3.length : Int).tdiv (65536 : Int))).tmod (256 : Int)), IntKind.u8.wrap ((IntKind.i64.wrap ((y3.length : Int).tdiv (256 : Int))).tmod (256 : Int)), IntKind.u8.wrap ((y3.length : Int).tmod (256 : Int))] : List Int).map toB).length + y4.length <= 9223372036854775807) /\ (x1.length + ((([IntKind.u8.wrap ((IntKind.i64.wrap ((y3.length : Int).tdiv (16777216 : Int))).tmod (256 : Int)), IntKind.u8.wrap ((IntKind.i64.wrap ((y3.length : Int).tdiv (65536 : Int))).tmod (256 : Int)), IntKind.u8.wrap ((IntKind.i64.wrap ((y3.length : Int).tdiv (256 : Int))).tmod (256 : Int)), IntKind.u8.wrap ((y3.length : Int).tmod (256 : Int))] : List Int).map toB) ++ y4).length <= 9223372036854775807) /\ X1 (x1 ++ ((([IntKind.u8.wrap ((IntKind.i64.wrap ((y3.length : Int).tdiv (16777216 : Int))).tmod (256 : Int)), IntKind.u8.wrap ((IntKind.i64.wrap ((y3.length : Int).tdiv (65536 : Int))).tmod (256 : Int)), IntKind.u8.wrap ((IntKind.i64.wrap ((y3.length : Int).tdiv (256 : Int))).tmod (256 : Int)), IntKind.u8.wrap ((y3.length : Int).tmod (256 : Int))] : List Int).map toB) ++ y4)) (IntKind.i64.wrap (x2 + (1 : Int)))) (x1 = r0))
def yck (a0 : List Str) (r0 : Str) : Prop :=
 ∀ X1 : Str -> Int -> Prop, (∀ x1 x2, yi2 a0 r0 X1 x1 x2 -> X1 x1 x2) -> X1 ([] : Str) (0 : Int)
def ygs : Sp KK := ⟨14, [.v 37], [9], appW (K := KK) [9] [.v 37] yck⟩
def ynk : An KK := (.s .o (.s .o (.s (.s .o (.b (.l ⟨[(0, .kp 4), (3, .st), (4, .it .i64)], [], []⟩ (fun _ => (.s (.s .o (.c .o .o)) (.s (.b (.s .o .o)) .o)))))) (.s .o .o))))
def yng : Cf KK := ⟨CC, [], [], 42, [], none, false⟩
theorem yiz : SpOk Try.prog CC ygs := yat (F := yng) (ps := [.v 37]) (rs := [9]) (w := yck) ybd yav yaw t14 (A := ynk) (by kernel_rfl) (by kernel_rfl) (fun a0 r0 => show _ = _ by kernel_rfl)
def yh2 (a0 : Str) (r0 : Int) (X1 : Int → Int → Prop) (x1 x2 : Int) : Prop :=
 cnd (decide (x2 < (a0.length : Int))) ((0 <= x2 /\ x2 < (a0.length : Int)) /\ X1 (bits .or .u64 (IntKind.u64.wrap (x1 * 2 ^ (min (8 : Int).toNat IntKind.u64.bits))) (IntKind.u64.wrap (bAt a0 x2))) (IntKind.i64.wrap (x2 + (1 : Int)))) (x1 = r0)
def ycT (a0 : Str) (r0 : Int) : Prop :=
 ∀ X1 : Int -> Int -> Prop, (∀ x1 x2, yh2 a0 r0 X1 x1 x2 -> X1 x1 x2) -> X1 (0 : Int) (0 : Int)
def yfu : Sp KK := ⟨89, [.v 9], [111], appW (K := KK) [111] [.v 9] ycT⟩
def ylz : An KK := (.s .o (.s .o (.s (.s .o (.b (.l ⟨[(0, .kp 5), (3, .it .u64), (6, .kp 7), (7, .it .i64)], [], []⟩ (fun _ => (.s .o (.s (.c .o .o) (.s (.b (.s .o .o)) .o))))))) (.s .o .o))))
def ylE : Cf KK := ⟨CC, [], [], 19, [], none, false⟩
theorem yhZ : SpOk Try.prog CC yfu := yat (F := ylE) (ps := [.v 9]) (rs := [111]) (w := ycT) ybd yav yaw t89 (A := ylz) (by kernel_rfl) (by kernel_rfl) (fun a0 r0 => show _ = _ by kernel_rfl)
def yfs (a0 r0 r1 : Str) (r2 : Bool) : Prop :=
 cnd (decide ((a0.length : Int) < (4 : Int))) (([] : Str) = r0 /\ a0 = r1 /\ false = r2) ((0 <= (0 : Int) /\ (0 : Int) <= (4 : Int) /\ (4 : Int) <= (a0.length : Int)) /\ ∃ z1, (ycT ((a0.drop (0 : Int).toNat).take ((4 : Int).toNat - (0 : Int).toNat)) z1) /\ cnd (decide ((IntKind.u64.wrap (IntKind.i64.wrap ((a0.length : Int) - (4 : Int)))) < z1)) (([] : Str) = r0 /\ a0 = r1 /\ false = r2) ((0 <= (4 : Int) /\ (4 : Int) <= (IntKind.i64.wrap ((4 : Int) + (IntKind.i64.wrap z1))) /\ (IntKind.i64.wrap ((4 : Int) + (IntKind.i64.wrap z1))) <= (a0.length : Int)) /\ (0 <= (IntKind.i64.wrap ((4 : Int) + (IntKind.i64.wrap z1))) /\ (IntKind.i64.wrap ((4 : Int) + (IntKind.i64.wrap z1))) <= (a0.length : Int) /\ (a0.length : Int) <= (a0.length : Int)) /\ ((a0.drop (4 : Int).toNat).take ((IntKind.i64.wrap ((4 : Int) + (IntKind.i64.wrap z1))).toNat - (4 : Int).toNat)) = r0 /\ ((a0.drop (IntKind.i64.wrap ((4 : Int) + (IntKind.i64.wrap z1))).toNat).take ((a0.length : Int).toNat - (IntKind.i64.wrap ((4 : Int) + (IntKind.i64.wrap z1))).toNat)) = r1 /\ true = r2))
def yiP : Sp KK := ⟨65, [.v 9], [9, 9, 4], appW (K := KK) [9, 9, 4] [.v 9] yfs⟩
def ymC : An KK := (.s .o (.s (.s .o (.c (.s .o .o) .o)) (.s .o (.s (.s .o (.c (.s .o .o) .o)) (.s .o (.s .o .o))))))
def ymI : Cf KK := ⟨CC, [yfu], [], 30, [], none, false⟩
theorem ymE : SpOk Try.prog CC yiP := yat (F := ymI) (ps := [.v 9]) (rs := [9, 9, 4]) (w := yfs) ybd (yar yhZ yav) yaw t65 (A := ymC) (by kernel_rfl) (by kernel_rfl) (fun a0 r0 r1 r2 => show _ = _ by kernel_rfl)
def ymQ (r0 : List Str) (r1 : Int) (X1 : Str → (List Str) → Prop) (x1 : Str) (x2 : List Str) : Prop :=
 cnd (!(x1 == ([] : Str))) (∃ z3 z4 z5, (yfs x1 z3 z4 z5) /\ cnd (!z5) (([] : List Str) = r0 /\ (2 : Int) = r1) ((x2.length <= 1000000000) /\ X1 z4 (x2 ++ ([z3] : List Str)))) (x2 = r0 /\ (0 : Int) = r1)
def ydq (a0 : Str) (r0 : List Str) (r1 : Int) : Prop :=
 ∀ X1 : Str -> (List Str) -> Prop, (∀ x1 x2, ymQ r0 r1 X1 x1 x2 -> X1 x1 x2) -> X1 a0 ([] : List Str)
def ygg : Sp KK := ⟨42, [.v 9], [37, 39], appW (K := KK) [37, 39] [.v 9] ydq⟩
def yni : An KK := (.s .o (.s .o (.s (.b (.l ⟨[(0, .st), (4, .row 21)], [], [(21, 9)]⟩ (fun _ => (.s (.s .o (.c .o .o)) (.b (.s .o (.s (.s .o (.c (.s .o .o) .o)) .o))))))) (.s .o .o))))
def ynd : Cf KK := ⟨CC, [yiP], [], 24, [], none, false⟩
theorem yiL : SpOk Try.prog CC ygg := yat (F := ynd) (ps := [.v 9]) (rs := [37, 39]) (w := ydq) ybd (yar ymE yav) yaw t42 (A := yni) (by kernel_rfl) (by kernel_rfl) (fun a0 r0 r1 => show _ = _ by kernel_rfl)
def ydO (a0 : Str) (r0 : Int) (r1 : Bool) : Prop :=
 cnd (!((a0.length : Int) == (8 : Int))) ((0 : Int) = r0 /\ false = r1) (∃ z1, (ycT a0 z1) /\ (IntKind.i64.wrap (bits .xor .u64 z1 (9223372036854775808 : Int))) = r0 /\ true = r1)
def yhS : Sp KK := ⟨66, [.v 9], [2, 4], appW (K := KK) [2, 4] [.v 9] ydO⟩
def ylJ : An KK := (.s .o (.s (.s .o (.c (.s .o .o) .o)) (.s .o .o)))
def ylB : Cf KK := ⟨CC, [yfu], [], 11, [], none, false⟩
theorem yly : SpOk Try.prog CC yhS := yat (F := ylB) (ps := [.v 9]) (rs := [2, 4]) (w := ydO) ybd (yar yhZ yav) yaw t66 (A := ylJ) (by kernel_rfl) (by kernel_rfl) (fun a0 r0 r1 => show _ = _ by kernel_rfl)
def ybF (a0 : yaa) (r0 : Bool) : Prop :=
 cnd (a0.Kind == (0 : Int)) (((a0.Kind == (0 : Int)) && ((a0.N == (0 : Int)) && ((a0.S == ([] : Str)) && true))) = r0) (cnd (a0.Kind == (1 : Int)) (cnd (a0.N == (0 : Int)) ((a0.S == ([] : Str)) = r0) (cnd (a0.N == (1 : Int)) ((a0.S == ([] : Str)) = r0) (false = r0))) (cnd (a0.Kind == (2 : Int)) ((a0.S == ([] : Str)) = r0) (cnd (a0.Kind == (3 : Int)) (cnd (a0.N == (0 : Int)) ((decide ((a0.S.length : Int) <= (64 : Int))) = r0) (false = r0)) (false = r0))))
def ye0 : Sp KK := ⟨67, [.v 88], [4], appW (K := KK) [4] [.v 88] ybF⟩
def yip : An KK := (.s .o (.s (.s .o (.b (.s .o (.c (.s .o .o) (.s .o (.c (.s .o .o) (.s .o (.c (.s .o .o) (.s .o (.c (.s .o .o) .o)))))))))) (.s .o .o)))
def yid : Cf KK := ⟨CC, [], [], 41, [], none, false⟩
theorem yim : SpOk Try.prog CC ye0 := yat (F := yid) (ps := [.v 88]) (rs := [4]) (w := ybF) ybd yav yaw t67 (A := yip) (by kernel_rfl) (by kernel_rfl) (fun a0 r0 => show _ = _ by kernel_rfl)
def yh9 (a0 : Str) (r0 : yaa) (r1 : Bool) (x1 : Int) (x2 : Str) : Prop :=
 ∃ z3, (ybF (⟨IntKind.i64.wrap (bAt a0 (0 : Int)), x1, x2⟩ : yaa) z3) /\ (⟨IntKind.i64.wrap (bAt a0 (0 : Int)), x1, x2⟩ : yaa) = r0 /\ z3 = r1
def yeU (a0 : Str) (r0 : yaa) (r1 : Bool) : Prop :=
 cnd (a0 == ([] : Str)) ((⟨(0 : Int), (0 : Int), ([] : Str)⟩ : yaa) = r0 /\ false = r1) ((0 <= (1 : Int) /\ (1 : Int) <= (a0.length : Int) /\ (a0.length : Int) <= (a0.length : Int)) /\ (0 <= (0 : Int) /\ (0 : Int) < (a0.length : Int)) /\ ∀ J1 : Int -> Str -> Prop, (∀ x1 x2, yh9 a0 r0 r1 x1 x2 -> J1 x1 x2) -> cnd ((IntKind.i64.wrap (bAt a0 (0 : Int))) == (0 : Int)) ((⟨IntKind.i64.wrap (bAt a0 (0 : Int)), (0 : Int), ([] : Str)⟩ : yaa) = r0 /\ (((a0.drop (1 : Int).toNat).take ((a0.length : Int).toNat - (1 : Int).toNat)) == ([] : Str)) = r1) (cnd ((IntKind.i64.wrap (bAt a0 (0 : Int))) == (1 : Int)) (cnd (!((((a0.drop (1 : Int).toNat).take ((a0.length : Int).toNat - (1 : Int).toNat)).length : Int) == (1 : Int))) ((⟨IntKind.i64.wrap (bAt a0 (0 : Int)), (0 : Int), ([] : Str)⟩ : yaa) = r0 /\ false = r1) ((0 <= (0 : Int) /\ (0 : Int) < (((a0.drop (1 : Int).toNat).take ((a0.length : Int).toNat - (1 : Int).toNat)).length : Int)) /\ J1 (IntKind.i64.wrap (bAt ((a0.drop (1 : Int).toNat).take ((a0.length : Int).toNat - (1 : Int).toNat)) (0 : Int))) ([] : Str))) (cnd ((IntKind.i64.wrap (bAt a0 (0 : Int))) == (2 : Int)) (∃ z4 z5, (ydO ((a0.drop (1 : Int).toNat).take ((a0.length : Int).toNat - (1 : Int).toNat)) z4 z5) /\ cnd (!z5) ((⟨IntKind.i64.wrap (bAt a0 (0 : Int)), (0 : Int), ([] : Str)⟩ : yaa) = r0 /\ false = r1) (J1 z4 ([] : Str))) (J1 (0 : Int) ((a0.drop (1 : Int).toNat).take ((a0.length : Int).toNat - (1 : Int).toNat))))))
def ycP (a0 : Str) (r0 : yaa) (r1 : Bool) (x1 : Int) (x2 : Str) : Prop :=
 ∃ z3, (ybF (⟨IntKind.i64.wrap (bAt a0 (0 : Int)), x1, x2⟩ : yaa) z3) /\ (⟨IntKind.i64.wrap (bAt a0 (0 : Int)), x1, x2⟩ : yaa) = r0 /\ z3 = r1
def ykB (a0 : Str) (r0 : yaa) (r1 : Bool) : Prop :=
 cnd (a0 == ([] : Str)) ((⟨(0 : Int), (0 : Int), ([] : Str)⟩ : yaa) = r0 /\ false = r1) ((0 <= (1 : Int) /\ (1 : Int) <= (a0.length : Int) /\ (a0.length : Int) <= (a0.length : Int)) /\ (0 <= (0 : Int) /\ (0 : Int) < (a0.length : Int)) /\ cnd ((IntKind.i64.wrap (bAt a0 (0 : Int))) == (0 : Int)) ((⟨IntKind.i64.wrap (bAt a0 (0 : Int)), (0 : Int), ([] : Str)⟩ : yaa) = r0 /\ (((a0.drop (1 : Int).toNat).take ((a0.length : Int).toNat - (1 : Int).toNat)) == ([] : Str)) = r1) (cnd ((IntKind.i64.wrap (bAt a0 (0 : Int))) == (1 : Int)) (cnd (!((((a0.drop (1 : Int).toNat).take ((a0.length : Int).toNat - (1 : Int).toNat)).length : Int) == (1 : Int))) ((⟨IntKind.i64.wrap (bAt a0 (0 : Int)), (0 : Int), ([] : Str)⟩ : yaa) = r0 /\ false = r1) ((0 <= (0 : Int) /\ (0 : Int) < (((a0.drop (1 : Int).toNat).take ((a0.length : Int).toNat - (1 : Int).toNat)).length : Int)) /\ ycP a0 r0 r1 (IntKind.i64.wrap (bAt ((a0.drop (1 : Int).toNat).take ((a0.length : Int).toNat - (1 : Int).toNat)) (0 : Int))) ([] : Str))) (cnd ((IntKind.i64.wrap (bAt a0 (0 : Int))) == (2 : Int)) (∃ z4 z5, (ydO ((a0.drop (1 : Int).toNat).take ((a0.length : Int).toNat - (1 : Int).toNat)) z4 z5) /\ cnd (!z5) ((⟨IntKind.i64.wrap (bAt a0 (0 : Int)), (0 : Int), ([] : Str)⟩ : yaa) = r0 /\ false = r1) (ycP a0 r0 r1 z4 ([] : Str))) (ycP a0 r0 r1 (0 : Int) ((a0.drop (1 : Int).toNat).take ((a0.length : Int).toNat - (1 : Int).toNat))))))
theorem ymP (a0 : Str) (r0 : yaa) (r1 : Bool) {x1 : Int} {x2 : Str} (h : ycP a0 r0 r1 x1 x2) : yh9 a0 r0 r1 x1 x2 := by
 unfold yh9
 unfold ycP at h
 exact h
theorem yrp (a0 : Str) (r0 : yaa) (r1 : Bool) (h : ykB a0 r0 r1) : yeU a0 r0 r1 := by
 unfold yeU
 unfold ykB at h
 refine yag h (fun h => ?_) (fun h => ?_)
 ·exact h
 ·obtain ⟨h0, h⟩ := h
  refine ⟨h0, ?_⟩
  obtain ⟨h0, h⟩ := h
  refine ⟨h0, ?_⟩
  intro J1 kJ1
  have hJ1 : ∀ x1 x2, ycP a0 r0 r1 x1 x2 -> J1 x1 x2 := fun x1 x2 q => kJ1 x1 x2 (ymP a0 r0 r1 q)
  refine yag h (fun h => ?_) (fun h => ?_)
  ·exact h
  ·refine yag h (fun h => ?_) (fun h => ?_)
   ·refine yag h (fun h => ?_) (fun h => ?_)
    ·exact h
    ·obtain ⟨h0, h⟩ := h
     refine ⟨h0, ?_⟩
     exact hJ1 _ _ h
   ·refine yag h (fun h => ?_) (fun h => ?_)
    ·obtain ⟨z4, h⟩ := h
     refine ⟨z4, ?_⟩
     obtain ⟨z5, h⟩ := h
     refine ⟨z5, ?_⟩
     obtain ⟨h0, h⟩ := h
     refine ⟨h0, ?_⟩
     refine yag h (fun h => ?_) (fun h => ?_)
     ·exact h
     ·exact hJ1 _ _ h
    ·exact hJ1 _ _ h
def ylq : Sp KK := ⟨44, [.v 9], [88, 4], appW (K := KK) [88, 4] [.v 9] yeU⟩
def yo3 : An KK := (.s .o (.s (.s .o (.c (.s .o .o) .o)) (.s .o (.s .o (.j ⟨[(2, .px 2 0), (5, .px 5 0)], [(2, 88, [.kp 1, .kp 2, .kp 3]), (5, 88, [.kp 4, .it .i64, .st])], []⟩ (.s .o (.b (.s .o (.c (.s .o .o) (.s .o (.c (.s (.s .o (.c (.s .o .o) .o)) .o) (.s .o (.c (.s .o (.s (.s .o (.c (.s .o .o) .o)) .o)) .o)))))))) (fun _ => (.s .o .o)))))))
def ypH : Cf KK := ⟨CC, [yhS, ye0], [], 51, [], none, false⟩
theorem ypP : SpOk Try.prog CC ylq := yat (F := ypH) (ps := [.v 9]) (rs := [88, 4]) (w := yeU) ybd (yar yly (yar yim yav)) yaw t44 (A := yo3) (by kernel_rfl) (by kernel_rfl) (fun a0 r0 r1 => show _ = _ by kernel_rfl)
def yjh (z1 : List Str) (r0 : List yaa) (r1 : Int) (X1 : Int → (List yaa) → Prop) (x3 : Int) (x4 : List yaa) : Prop :=
 cnd (decide (x3 < (z1.length : Int))) ((0 <= x3) /\ (x3 < (z1.length : Int)) /\ ∃ y5 : Str, (z1[x3.toNat]? = some y5) /\ ∃ z6 z7, (yeU y5 z6 z7) /\ cnd (!z7) (([] : List yaa) = r0 /\ (4 : Int) = r1) ((x4.length <= 1000000000) /\ X1 (IntKind.i64.wrap (x3 + (1 : Int))) (x4 ++ ([z6] : List yaa)))) (x4 = r0 /\ (0 : Int) = r1)
def yhn (a0 : Str) (r0 : List yaa) (r1 : Int) : Prop :=
 ∃ z1 z2, (ydq a0 z1 z2) /\ cnd (!(z2 == (0 : Int))) (([] : List yaa) = r0 /\ z2 = r1) ((z1.length <= maxLen -> ∀ X1 : Int -> (List yaa) -> Prop, (∀ x3 x4, yjh z1 r0 r1 X1 x3 x4 -> X1 x3 x4) -> X1 (0 : Int) ([] : List yaa)))
def yl0 : Sp KK := ⟨16, [.v 9], [29, 39], appW (K := KK) [29, 39] [.v 9] yhn⟩
def yq5 : An KK := (.s .o (.s .o (.s (.s .o (.c (.s .o .o) .o)) (.s .o (.s (.s .o (.b (.l ⟨[(6, .row 35), (19, .kp 6), (20, .kp 7), (21, .it .i64)], [], [(35, 88)]⟩ (fun _ => (.s .o (.s (.c .o .o) (.s (.b (.s .o (.s .o (.s (.s .o (.c (.s .o .o) .o)) .o)))) .o))))))) (.s .o .o))))))
def yrj : Cf KK := ⟨CC, [ygg, ylq], [], 38, [], none, false⟩
theorem yro : SpOk Try.prog CC yl0 := yat (F := yrj) (ps := [.v 9]) (rs := [29, 39]) (w := yhn) ybd (yar yiL (yar ypP yav)) yaw t16 (A := yq5) (by kernel_rfl) (by kernel_rfl) (fun a0 r0 r1 => show _ = _ by kernel_rfl)
def yc1 (a0 : List (List yaa)) (g1 : (List yaa) → (List yaa) → Int → Prop) (r0 : Bool) (X1 : Int → Prop) (x1 : Int) : Prop :=
 cnd (decide ((0 : Int) < x1)) ((0 <= x1) /\ (x1 < (a0.length : Int)) /\ ∃ y2 : (List yaa), (a0[x1.toNat]? = some y2) /\ (0 <= (IntKind.i64.wrap (x1 - (1 : Int)))) /\ ((IntKind.i64.wrap (x1 - (1 : Int))) < (a0.length : Int)) /\ ∃ y3 : (List yaa), (a0[(IntKind.i64.wrap (x1 - (1 : Int))).toNat]? = some y3) /\ ∃ z4, (g1 y2 y3 z4) /\ cnd (decide (z4 < (0 : Int))) (false = r0) (X1 (IntKind.i64.wrap (x1 - (1 : Int))))) (true = r0)
def ya7 (a0 : List (List yaa)) (g1 : (List yaa) → (List yaa) → Int → Prop) (r0 : Bool) : Prop :=
 (a0.length <= maxLen -> ∀ X1 : Int -> Prop, (∀ x1, yc1 a0 g1 r0 X1 x1 -> X1 x1) -> X1 (IntKind.i64.wrap ((a0.length : Int) - (1 : Int))))
def yc0 : Sp KK := ⟨43, [.v 24, .f [29, 29] [3]], [4], appW (K := KK) [4] [.v 24, .f [29, 29] [3]] ya7⟩
def yfi : An KK := (.s .o (.s (.s .o (.b (.l ⟨[(0, .kp 4), (1, .kp 5), (5, .it .i64)], [], []⟩ (fun _ => (.s (.s .o (.c .o .o)) (.s (.b (.s .o (.c (.s .o .o) .o))) .o)))))) (.s .o .o)))
def yfl : Cf KK := ⟨CC, [], [], 25, [], none, false⟩
theorem yff : SpOk Try.prog CC yc0 := yat (F := yfl) (ps := [.v 24, .f [29, 29] [3]]) (rs := [4]) (w := ya7) ybd yav yaw t43 (A := yfi) (by kernel_rfl) (by kernel_rfl) (fun a0 F1 r0 => show _ = _ by kernel_rfl)
def yjI (z1 : List Str) (r0 : yaf) (r1 : Int) (X1 : Int → (List (List yaa)) → Prop) (x3 : Int) (x4 : List (List yaa)) : Prop :=
 cnd (decide (x3 < (z1.length : Int))) ((0 <= x3) /\ (x3 < (z1.length : Int)) /\ ∃ y5 : Str, (z1[x3.toNat]? = some y5) /\ ∃ z6 z7, (yhn y5 z6 z7) /\ cnd (!(z7 == (0 : Int))) ((⟨([] : List (List yaa))⟩ : yaf) = r0 /\ z7 = r1) ((x4.length <= 1000000000) /\ X1 (IntKind.i64.wrap (x3 + (1 : Int))) (x4 ++ ([z6] : List (List yaa))))) (∃ z8, (ya7 x4 ya9 z8) /\ cnd (!z8) ((⟨([] : List (List yaa))⟩ : yaf) = r0 /\ (4 : Int) = r1) ((⟨x4⟩ : yaf) = r0 /\ (0 : Int) = r1))
def yeW (a0 : Str) (r0 : yaf) (r1 : Int) : Prop :=
 ∃ z1 z2, (ydq a0 z1 z2) /\ cnd (!(z2 == (0 : Int))) ((⟨([] : List (List yaa))⟩ : yaf) = r0 /\ z2 = r1) ((z1.length <= maxLen -> ∀ X1 : Int -> (List (List yaa)) -> Prop, (∀ x3 x4, yjI z1 r0 r1 X1 x3 x4 -> X1 x3 x4) -> X1 (0 : Int) ([] : List (List yaa))))
def yl8 : Sp KK := ⟨15, [.v 9], [31, 39], appW (K := KK) [31, 39] [.v 9] yeW⟩
def yrg : An KK := (.s .o (.s .o (.s (.s .o (.c (.s .o .o) .o)) (.s .o (.s (.s .o (.b (.l ⟨[(2, .px 2 0), (6, .row 38), (20, .kp 7), (21, .kp 8), (22, .it .i64)], [(2, 31, [.kp 10])], [(38, 29)]⟩ (fun _ => (.s .o (.s (.c .o .o) (.s (.b (.s .o (.s .o (.s (.s .o (.c (.s .o .o) .o)) .o)))) .o))))))) (.s (.s .o (.c (.s .o .o) .o)) (.s .o .o)))))))
def yrv : Cf KK := ⟨CC, [ygg, yl0, ycu, yc0], [], 46, [], none, false⟩
theorem yrn : SpOk Try.prog CC yl8 := yat (F := yrv) (ps := [.v 9]) (rs := [31, 39]) (w := yeW) ybd (yar yiL (yar yro (yar yc5 (yar yff yav)))) yaw t15 (A := yrg) (by kernel_rfl) (by kernel_rfl) (fun a0 r0 r1 => show _ = _ by kernel_rfl)
def yjY (a1 a0 : Int) (r0 : List Int) (X1 : Int → (List Int) → Prop) (x1 : Int) (x2 : List Int) : Prop :=
 cnd (decide (x1 < ((List.replicate a1.toNat (0 : Int)).length : Int))) ((¬ (IntKind.i64.wrap ((8 : Int) * x1)) < 0) /\ (0 <= (IntKind.i64.wrap ((IntKind.i64.wrap (a1 - (1 : Int))) - x1))) /\ ((IntKind.i64.wrap ((IntKind.i64.wrap (a1 - (1 : Int))) - x1)) < (x2.length : Int)) /\ ∃ y3 : Int, (x2[(IntKind.i64.wrap ((IntKind.i64.wrap (a1 - (1 : Int))) - x1)).toNat]? = some y3) /\ X1 (IntKind.i64.wrap (x1 + (1 : Int))) (x2.set ((IntKind.i64.wrap ((IntKind.i64.wrap (a1 - (1 : Int))) - x1)).toNat) (IntKind.u8.wrap (a0.fdiv (2 ^ (min (IntKind.i64.wrap ((8 : Int) * x1)).toNat IntKind.u64.bits)))))) (x2 = r0)
def yd4 (a0 a1 : Int) (r0 : List Int) : Prop :=
 (0 <= a1) /\ (1 * a1.toNat <= 281474976710656) /\ (a1 <= 1000000000) /\ ∀ X1 : Int -> (List Int) -> Prop, (∀ x1 x2, yjY a1 a0 r0 X1 x1 x2 -> X1 x1 x2) -> X1 (0 : Int) (List.replicate a1.toNat (0 : Int))
def yhd : Sp KK := ⟨72, [.v 111, .v 3], [75], appW (K := KK) [75] [.v 111, .v 3] yd4⟩
def ynX : An KK := (.s .o (.s .o (.s (.s .o (.b (.l ⟨[(0, .kp 5), (1, .kp 6), (5, .row 8), (10, .kp 7), (11, .it .i64)], [], [(8, 5)]⟩ (fun _ => (.s .o (.s (.c .o .o) (.s (.b (.s .o .o)) .o))))))) (.s .o .o))))
def ynE : Cf KK := ⟨CC, [], [], 27, [], none, false⟩
theorem yjV : SpOk Try.prog CC yhd := yat (F := ynE) (ps := [.v 111, .v 3]) (rs := [75]) (w := yd4) ybd yav yaw t72 (A := ynX) (by kernel_rfl) (by kernel_rfl) (fun a0 a1 r0 => show _ = _ by kernel_rfl)
def yhx (a0 : Int) (r0 : Str) : Prop :=
 ∃ z1, (yd4 (bits .xor .u64 (IntKind.u64.wrap a0) (9223372036854775808 : Int)) (8 : Int) z1) /\ (z1.map toB) = r0
def ykt : Sp KK := ⟨78, [.v 2], [9], appW (K := KK) [9] [.v 2] yhx⟩
def ypw : An KK := (.s .o (.s .o .o))
def ypf : Cf KK := ⟨CC, [yhd], [], 8, [], none, false⟩
theorem ypr : SpOk Try.prog CC ykt := yat (F := ypf) (ps := [.v 2]) (rs := [9]) (w := yhx) ybd (yar yjV yav) yaw t78 (A := ypw) (by kernel_rfl) (by kernel_rfl) (fun a0 r0 => show _ = _ by kernel_rfl)
def yfP (a0 : yaa) (r0 : Str) : Prop :=
 cnd (a0.Kind == (1 : Int)) (((([IntKind.u8.wrap a0.Kind] : List Int).map toB).length + (([IntKind.u8.wrap a0.N] : List Int).map toB).length <= 9223372036854775807) /\ ((([IntKind.u8.wrap a0.Kind] : List Int).map toB) ++ (([IntKind.u8.wrap a0.N] : List Int).map toB)) = r0) (cnd (a0.Kind == (2 : Int)) (∃ z1, (yhx a0.N z1) /\ ((([IntKind.u8.wrap a0.Kind] : List Int).map toB).length + z1.length <= 9223372036854775807) /\ ((([IntKind.u8.wrap a0.Kind] : List Int).map toB) ++ z1) = r0) (cnd (a0.Kind == (3 : Int)) (((([IntKind.u8.wrap a0.Kind] : List Int).map toB).length + a0.S.length <= 9223372036854775807) /\ ((([IntKind.u8.wrap a0.Kind] : List Int).map toB) ++ a0.S) = r0) ((([IntKind.u8.wrap a0.Kind] : List Int).map toB) = r0)))
def ykA : Sp KK := ⟨58, [.v 88], [9], appW (K := KK) [9] [.v 88] yfP⟩
def ypO : An KK := (.s .o (.s .o (.s (.s .o (.b (.s .o (.c .o (.s .o (.c .o (.s .o (.c .o .o)))))))) (.s .o .o))))
def ypn : Cf KK := ⟨CC, [ykt], [], 34, [], none, false⟩
theorem ypK : SpOk Try.prog CC ykA := yat (F := ypn) (ps := [.v 88]) (rs := [9]) (w := yfP) ybd (yar ypr yav) yaw t58 (A := ypO) (by kernel_rfl) (by kernel_rfl) (fun a0 r0 => show _ = _ by kernel_rfl)
def yjO (a0 : List Str) (r0 : Str) (X1 : Int → (List Int) → Prop) (x1 : Int) (x2 : List Int) : Prop :=
 cnd (decide (x1 < (a0.length : Int))) ((0 <= x1) /\ (x1 < (a0.length : Int)) /\ ∃ y3 : Str, (a0[x1.toNat]? = some y3) /\ ∃ z4, (yd4 (IntKind.u64.wrap (y3.length : Int)) (4 : Int) z4) /\ (x2.length <= 1000000000) /\ (z4.length <= 400000000) /\ ((x2 ++ z4).length <= 1000000000) /\ (y3.length <= 400000000) /\ X1 (IntKind.i64.wrap (x1 + (1 : Int))) ((x2 ++ z4) ++ (y3.map ofB))) ((x2.map toB) = r0)
def yd8 (a0 : List Str) (r0 : Str) : Prop :=
 (a0.length <= maxLen -> ∀ X1 : Int -> (List Int) -> Prop, (∀ x1 x2, yjO a0 r0 X1 x1 x2 -> X1 x1 x2) -> X1 (0 : Int) ([] : List Int))
def yg7 : Sp KK := ⟨47, [.v 37], [9], appW (K := KK) [9] [.v 37] yd8⟩
def ynZ : An KK := (.s .o (.s .o (.s (.s .o (.b (.l ⟨[(3, .row 20), (6, .kp 6), (7, .kp 7), (8, .it .i64)], [], [(20, 5)]⟩ (fun _ => (.s .o (.s (.c .o .o) (.s (.b (.s .o (.s .o .o))) .o))))))) (.s .o .o))))
def yov : Cf KK := ⟨CC, [yhd], [], 24, [], none, false⟩
theorem yjU : SpOk Try.prog CC yg7 := yat (F := yov) (ps := [.v 37]) (rs := [9]) (w := yd8) ybd (yar yjV yav) yaw t47 (A := ynZ) (by kernel_rfl) (by kernel_rfl) (fun a0 r0 => show _ = _ by kernel_rfl)
def yl1 (a0 : List yaa) (r0 : Str) (X1 : Int → (List Str) → Prop) (x1 : Int) (x2 : List Str) : Prop :=
 cnd (decide (x1 < (a0.length : Int))) ((0 <= x1) /\ (x1 < (a0.length : Int)) /\ ∃ y3 : yaa, (a0[x1.toNat]? = some y3) /\ ∃ z4, (yfP y3 z4) /\ (x2.length <= 1000000000) /\ X1 (IntKind.i64.wrap (x1 + (1 : Int))) (x2 ++ ([z4] : List Str))) (∃ z5, (yd8 x2 z5) /\ z5 = r0)
def yci (a0 : List yaa) (r0 : Str) : Prop :=
 (a0.length <= maxLen -> ∀ X1 : Int -> (List Str) -> Prop, (∀ x1 x2, yl1 a0 r0 X1 x1 x2 -> X1 x1 x2) -> X1 (0 : Int) ([] : List Str))
def yjl : Sp KK := ⟨32, [.v 29], [9], appW (K := KK) [9] [.v 29] yci⟩
def yq6 : An KK := (.s .o (.s .o (.s (.s .o (.b (.l ⟨[(3, .row 16), (6, .kp 6), (7, .kp 7), (8, .it .i64)], [], [(16, 9)]⟩ (fun _ => (.s .o (.s (.c .o .o) (.s (.b (.s .o .o)) .o))))))) (.s .o .o))))
def yrd : Cf KK := ⟨CC, [ykA, yg7], [], 20, [], none, false⟩
theorem yl5 : SpOk Try.prog CC yjl := yat (F := yrd) (ps := [.v 29]) (rs := [9]) (w := yci) ybd (yar ypK (yar yjU yav)) yaw t32 (A := yq6) (by kernel_rfl) (by kernel_rfl) (fun a0 r0 => show _ = _ by kernel_rfl)
def yhR (a0 : yaf) (r0 : Str) (X1 : Int → (List Str) → Prop) (x1 : Int) (x2 : List Str) : Prop :=
 cnd (decide (x1 < (a0.rows.length : Int))) ((0 <= x1) /\ (x1 < (a0.rows.length : Int)) /\ ∃ y3 : (List yaa), (a0.rows[x1.toNat]? = some y3) /\ ∃ z4, (yci y3 z4) /\ (x2.length <= 1000000000) /\ X1 (IntKind.i64.wrap (x1 + (1 : Int))) (x2 ++ ([z4] : List Str))) (∃ z5, (yd8 x2 z5) /\ z5 = r0)
def ybZ (a0 : yaf) (r0 : Str) : Prop :=
 (a0.rows.length <= maxLen -> ∀ X1 : Int -> (List Str) -> Prop, (∀ x1 x2, yhR a0 r0 X1 x1 x2 -> X1 x1 x2) -> X1 (0 : Int) ([] : List Str))
def yfz : Sp KK := ⟨18, [.v 31], [9], appW (K := KK) [9] [.v 31] ybZ⟩
def ylH : An KK := (.s .o (.s .o (.s (.s .o (.b (.l ⟨[(3, .row 17), (7, .kp 6), (8, .kp 7), (9, .it .i64)], [], [(17, 9)]⟩ (fun _ => (.s .o (.s (.c .o .o) (.s (.b (.s .o .o)) .o))))))) (.s .o .o))))
def ylF : Cf KK := ⟨CC, [yjl, yg7], [], 21, [], none, false⟩
theorem yhX : SpOk Try.prog CC yfz := yat (F := ylF) (ps := [.v 31]) (rs := [9]) (w := ybZ) ybd (yar yl5 (yar yjU yav)) yaw t18 (A := ylH) (by kernel_rfl) (by kernel_rfl) (fun a0 r0 => show _ = _ by kernel_rfl)
def ye7 (x1 : Int) (a0 a1 : yab) (r0 : Bool) (X1 : Int → Prop) (x2 : Bool) : Prop :=
 cnd x2 ((0 <= x1 /\ x1 < (a0.S.length : Int)) /\ (0 <= x1 /\ x1 < (a1.S.length : Int)) /\ cnd (!((bAt a0.S x1) == (bAt a1.S x1))) ((0 <= x1 /\ x1 < (a0.S.length : Int)) /\ (0 <= x1 /\ x1 < (a1.S.length : Int)) /\ (decide ((bAt a0.S x1) < (bAt a1.S x1))) = r0) (X1 (IntKind.i64.wrap (x1 + (1 : Int))))) ((decide ((a0.S.length : Int) < (a1.S.length : Int))) = r0)
def ye2 (a0 a1 : yab) (r0 : Bool) (X1 : Int → Prop) (x1 : Int) : Prop :=
 ∀ J2 : Bool -> Prop, (∀ x2, ye7 x1 a0 a1 r0 X1 x2 -> J2 x2) -> cnd (decide (x1 < (a0.S.length : Int))) (J2 (decide (x1 < (a1.S.length : Int)))) (J2 false)
def yb6 (a0 a1 : yab) (r0 : Bool) : Prop :=
 cnd (!(a0.Kind == a1.Kind)) ((decide (a0.Kind < a1.Kind)) = r0) (cnd (a0.Kind == (3 : Int)) (∀ X1 : Int -> Prop, (∀ x1, ye2 a0 a1 r0 X1 x1 -> X1 x1) -> X1 (0 : Int)) ((decide (a0.N < a1.N)) = r0))
def ybV (X1 : Int → Prop) (a0 a1 : yab) (r0 : Bool) (x1 : Int) (x2 : Bool) : Prop :=
 cnd x2 ((0 <= x1 /\ x1 < (a0.S.length : Int)) /\ (0 <= x1 /\ x1 < (a1.S.length : Int)) /\ cnd (!((bAt a0.S x1) == (bAt a1.S x1))) ((0 <= x1 /\ x1 < (a0.S.length : Int)) /\ (0 <= x1 /\ x1 < (a1.S.length : Int)) /\ (decide ((bAt a0.S x1) < (bAt a1.S x1))) = r0) (X1 (IntKind.i64.wrap (x1 + (1 : Int))))) ((decide ((a0.S.length : Int) < (a1.S.length : Int))) = r0)
def ydi (a0 a1 : yab) (r0 : Bool) (X1 : Int → Prop) (x1 : Int) : Prop :=
 cnd (decide (x1 < (a0.S.length : Int))) (ybV X1 a0 a1 r0 x1 (decide (x1 < (a1.S.length : Int)))) (ybV X1 a0 a1 r0 x1 false)
def ygU (a0 a1 : yab) (r0 : Bool) : Prop :=
 cnd (!(a0.Kind == a1.Kind)) ((decide (a0.Kind < a1.Kind)) = r0) (cnd (a0.Kind == (3 : Int)) (∀ X1 : Int -> Prop, (∀ x1, ydi a0 a1 r0 X1 x1 -> X1 x1) -> X1 (0 : Int)) ((decide (a0.N < a1.N)) = r0))
theorem yjg (X1 : Int → Prop) (a0 a1 : yab) (r0 : Bool) (x1 : Int) {x2 : Bool} (h : ybV X1 a0 a1 r0 x1 x2) : ye7 x1 a0 a1 r0 X1 x2 := by
 unfold ye7
 unfold ybV at h
 exact h
theorem yjx (a0 a1 : yab) (r0 : Bool) {X1 : Int → Prop} {x1 : Int} (h : ydi a0 a1 r0 X1 x1) : ye2 a0 a1 r0 X1 x1 := by
 unfold ye2
 unfold ydi at h
 intro J2 kJ2
 have hJ2 : ∀ x2, ybV X1 a0 a1 r0 x1 x2 -> J2 x2 := fun x2 q => kJ2 x2 (yjg X1 a0 a1 r0 x1 q)
 refine yag h (fun h => ?_) (fun h => ?_)
 ·exact hJ2 _ h
 ·exact hJ2 _ h
theorem ylQ (a0 a1 : yab) (r0 : Bool) (h : ygU a0 a1 r0) : yb6 a0 a1 r0 := by
 unfold yb6
 unfold ygU at h
 refine yag h (fun h => ?_) (fun h => ?_)
 ·exact h
 ·refine yag h (fun h => ?_) (fun h => ?_)
  ·intro X1 k
   exact h X1 (fun x1 q => k x1 (yjx a0 a1 r0 q))
  ·exact h
def ygV : Sp KK := ⟨73, [.v 116, .v 116], [4], appW (K := KK) [4] [.v 116, .v 116] yb6⟩
def ylr : An KK := (.s .o (.s (.s .o (.c (.s .o .o) .o)) (.s (.s .o (.c (.s (.s .o (.b (.l ⟨[(2, .px 2 0), (3, .px 3 0), (5, .it .i64)], [(2, 116, [.kp 35, .kp 36, .kp 37]), (3, 116, [.kp 38, .kp 39, .kp 40])], []⟩ (fun _ => (.s (.j ⟨[(2, .px 2 0), (3, .px 3 0), (5, .kp 44), (30, .bl)], [(2, 116, [.kp 35, .kp 36, .kp 37]), (3, 116, [.kp 38, .kp 39, .kp 40])], []⟩ .o (fun _ => (.c .o .o))) (.s (.b (.s .o (.c (.s .o .o) .o))) .o)))))) (.s .o .o)) .o)) (.s .o .o))))
def ykT : Cf KK := ⟨CC, [], [], 63, [], none, false⟩
theorem yk0 : SpOk Try.prog CC ygV := yat (F := ykT) (ps := [.v 116, .v 116]) (rs := [4]) (w := yb6) ybd yav yaw t73 (A := ylr) (by kernel_rfl) (by kernel_rfl) (fun a0 a1 r0 => show _ = _ by kernel_rfl)
def yeZ (x1 : Int) (a0 a1 : List yab) (r0 : Bool) (X1 : Int → Prop) (x2 : Bool) : Prop :=
 cnd x2 ((0 <= x1) /\ (x1 < (a0.length : Int)) /\ ∃ y3 : yab, (a0[x1.toNat]? = some y3) /\ (0 <= x1) /\ (x1 < (a1.length : Int)) /\ ∃ y4 : yab, (a1[x1.toNat]? = some y4) /\ cnd (!((y3.Kind == y4.Kind) && ((y3.N == y4.N) && ((y3.S == y4.S) && true)))) ((0 <= x1) /\ (x1 < (a0.length : Int)) /\ ∃ y5 : yab, (a0[x1.toNat]? = some y5) /\ (0 <= x1) /\ (x1 < (a1.length : Int)) /\ ∃ y6 : yab, (a1[x1.toNat]? = some y6) /\ ∃ z7, (yb6 y5 y6 z7) /\ z7 = r0) (X1 (IntKind.i64.wrap (x1 + (1 : Int))))) ((a0.length <= maxLen -> (a1.length <= maxLen -> (decide ((a0.length : Int) < (a1.length : Int))) = r0)))
def ye5 (a0 a1 : List yab) (r0 : Bool) (X1 : Int → Prop) (x1 : Int) : Prop :=
 ∀ J2 : Bool -> Prop, (∀ x2, yeZ x1 a0 a1 r0 X1 x2 -> J2 x2) -> (a0.length <= maxLen -> cnd (decide (x1 < (a0.length : Int))) ((a1.length <= maxLen -> J2 (decide (x1 < (a1.length : Int))))) (J2 false))
def ybA (a0 a1 : List yab) (r0 : Bool) : Prop :=
 ∀ X1 : Int -> Prop, (∀ x1, ye5 a0 a1 r0 X1 x1 -> X1 x1) -> X1 (0 : Int)
def ybW (X1 : Int → Prop) (a0 a1 : List yab) (r0 : Bool) (x1 : Int) (x2 : Bool) : Prop :=
 cnd x2 ((0 <= x1) /\ (x1 < (a0.length : Int)) /\ ∃ y3 : yab, (a0[x1.toNat]? = some y3) /\ (0 <= x1) /\ (x1 < (a1.length : Int)) /\ ∃ y4 : yab, (a1[x1.toNat]? = some y4) /\ cnd (!((y3.Kind == y4.Kind) && ((y3.N == y4.N) && ((y3.S == y4.S) && true)))) ((0 <= x1) /\ (x1 < (a0.length : Int)) /\ ∃ y5 : yab, (a0[x1.toNat]? = some y5) /\ (0 <= x1) /\ (x1 < (a1.length : Int)) /\ ∃ y6 : yab, (a1[x1.toNat]? = some y6) /\ ∃ z7, (yb6 y5 y6 z7) /\ z7 = r0) (X1 (IntKind.i64.wrap (x1 + (1 : Int))))) ((a0.length <= maxLen -> (a1.length <= maxLen -> (decide ((a0.length : Int) < (a1.length : Int))) = r0)))
def ydf (a0 a1 : List yab) (r0 : Bool) (X1 : Int → Prop) (x1 : Int) : Prop :=
 (a0.length <= maxLen -> cnd (decide (x1 < (a0.length : Int))) ((a1.length <= maxLen -> ybW X1 a0 a1 r0 x1 (decide (x1 < (a1.length : Int))))) (ybW X1 a0 a1 r0 x1 false))
def yg2 (a0 a1 : List yab) (r0 : Bool) : Prop :=
 ∀ X1 : Int -> Prop, (∀ x1, ydf a0 a1 r0 X1 x1 -> X1 x1) -> X1 (0 : Int)
theorem yjj (X1 : Int → Prop) (a0 a1 : List yab) (r0 : Bool) (x1 : Int) {x2 : Bool} (h : ybW X1 a0 a1 r0 x1 x2) : yeZ x1 a0 a1 r0 X1 x2 := by
 unfold yeZ
 unfold ybW at h
 exact h
theorem yju (a0 a1 : List yab) (r0 : Bool) {X1 : Int → Prop} {x1 : Int} (h : ydf a0 a1 r0 X1 x1) : ye5 a0 a1 r0 X1 x1 := by
 unfold ye5
 unfold ydf at h
 intro J2 kJ2
 have hJ2 : ∀ x2, ybW X1 a0 a1 r0 x1 x2 -> J2 x2 := fun x2 q => kJ2 x2 (yjj X1 a0 a1 r0 x1 q)
 intro c
 replace h := h c
 refine yag h (fun h => ?_) (fun h => ?_)
 ·intro c
  replace h := h c
  exact hJ2 _ h
 ·exact hJ2 _ h
theorem ylG (a0 a1 : List yab) (r0 : Bool) (h : yg2 a0 a1 r0) : ybA a0 a1 r0 := by
 unfold ybA
 unfold yg2 at h
 intro X1 k
 exact h X1 (fun x1 q => k x1 (yju a0 a1 r0 q))
def yfa : Sp KK := ⟨48, [.v 50, .v 50], [4], appW (K := KK) [4] [.v 50, .v 50] ybA⟩
def ykR : An KK := (.s .o (.s (.s .o (.b (.l ⟨[(0, .kp 8), (1, .kp 9), (5, .it .i64)], [], []⟩ (fun _ => (.s (.j ⟨[(0, .kp 8), (1, .kp 9), (5, .kp 14), (15, .bl)], [], []⟩ .o (fun _ => (.c .o .o))) (.s (.b (.s .o (.c (.s .o .o) .o))) .o)))))) (.s .o .o)))
def yk1 : Cf KK := ⟨CC, [ygV], [], 41, [], none, false⟩
theorem yhm : SpOk Try.prog CC yfa := yat (F := yk1) (ps := [.v 50, .v 50]) (rs := [4]) (w := ybA) ybd (yar yk0 yav) yaw t48 (A := ykR) (by kernel_rfl) (by kernel_rfl) (fun a0 a1 r0 => show _ = _ by kernel_rfl)
def ygh (X2 : Int → Prop) (x3 : Int) (x1 : List (List yab)) (x2 : Int) (a0 : List (List yab)) (X1 : (List (List yab)) → Int → Prop) (x4 : Bool) : Prop :=
 cnd x4 (X2 (IntKind.i64.wrap (x3 - (1 : Int)))) ((0 <= (0 : Int) /\ (0 : Int) <= x3 /\ x3 <= (x1.length : Int)) /\ ((ydb x1 (0 : Int) x3).length <= 400000000) /\ (0 <= x2) /\ (x2 < (a0.length : Int)) /\ ∃ y5 : (List yab), (a0[x2.toNat]? = some y5) /\ ((([] : List (List yab)) ++ (ydb x1 (0 : Int) x3)).length <= 1000000000) /\ (0 <= x3 /\ x3 <= (x1.length : Int) /\ (x1.length : Int) <= (x1.length : Int)) /\ (((([] : List (List yab)) ++ (ydb x1 (0 : Int) x3)) ++ ([y5] : List (List yab))).length <= 1000000000) /\ ((ydb x1 x3 (x1.length : Int)).length <= 400000000) /\ X1 (((([] : List (List yab)) ++ (ydb x1 (0 : Int) x3)) ++ ([y5] : List (List yab))) ++ (ydb x1 x3 (x1.length : Int))) (IntKind.i64.wrap (x2 + (1 : Int))))
def yfX (x1 : List (List yab)) (x2 : Int) (a0 : List (List yab)) (X1 : (List (List yab)) → Int → Prop) (X2 : Int → Prop) (x3 : Int) : Prop :=
 ∀ J3 : Bool -> Prop, (∀ x4, ygh X2 x3 x1 x2 a0 X1 x4 -> J3 x4) -> cnd (decide ((0 : Int) < x3)) ((0 <= x2) /\ (x2 < (a0.length : Int)) /\ ∃ y6 : (List yab), (a0[x2.toNat]? = some y6) /\ (0 <= (IntKind.i64.wrap (x3 - (1 : Int)))) /\ ((IntKind.i64.wrap (x3 - (1 : Int))) < (x1.length : Int)) /\ ∃ y7 : (List yab), (x1[(IntKind.i64.wrap (x3 - (1 : Int))).toNat]? = some y7) /\ ∃ z8, (ybA y6 y7 z8) /\ J3 z8) (J3 false)
def yf2 (a0 r0 : List (List yab)) (X1 : (List (List yab)) → Int → Prop) (x1 : List (List yab)) (x2 : Int) : Prop :=
 (a0.length <= maxLen -> cnd (decide (x2 < (a0.length : Int))) ((x1.length <= maxLen -> ∀ X2 : Int -> Prop, (∀ x3, yfX x1 x2 a0 X1 X2 x3 -> X2 x3) -> X2 (x1.length : Int))) (x1 = r0))
def ybN (a0 r0 : List (List yab)) : Prop :=
 ∀ X1 : (List (List yab)) -> Int -> Prop, (∀ x1 x2, yf2 a0 r0 X1 x1 x2 -> X1 x1 x2) -> X1 ([] : List (List yab)) (0 : Int)
def ycv (X1 : (List (List yab)) → Int → Prop) (X2 : Int → Prop) (a0 x1 : List (List yab)) (x2 x3 : Int) (x4 : Bool) : Prop :=
 cnd x4 (X2 (IntKind.i64.wrap (x3 - (1 : Int)))) ((0 <= (0 : Int) /\ (0 : Int) <= x3 /\ x3 <= (x1.length : Int)) /\ ((ydb x1 (0 : Int) x3).length <= 400000000) /\ (0 <= x2) /\ (x2 < (a0.length : Int)) /\ ∃ y5 : (List yab), (a0[x2.toNat]? = some y5) /\ ((([] : List (List yab)) ++ (ydb x1 (0 : Int) x3)).length <= 1000000000) /\ (0 <= x3 /\ x3 <= (x1.length : Int) /\ (x1.length : Int) <= (x1.length : Int)) /\ (((([] : List (List yab)) ++ (ydb x1 (0 : Int) x3)) ++ ([y5] : List (List yab))).length <= 1000000000) /\ ((ydb x1 x3 (x1.length : Int)).length <= 400000000) /\ X1 (((([] : List (List yab)) ++ (ydb x1 (0 : Int) x3)) ++ ([y5] : List (List yab))) ++ (ydb x1 x3 (x1.length : Int))) (IntKind.i64.wrap (x2 + (1 : Int))))
def yea (X1 : (List (List yab)) → Int → Prop) (a0 x1 : List (List yab)) (x2 : Int) (X2 : Int → Prop) (x3 : Int) : Prop :=
 cnd (decide ((0 : Int) < x3)) ((0 <= x2) /\ (x2 < (a0.length : Int)) /\ ∃ y6 : (List yab), (a0[x2.toNat]? = some y6) /\ (0 <= (IntKind.i64.wrap (x3 - (1 : Int)))) /\ ((IntKind.i64.wrap (x3 - (1 : Int))) < (x1.length : Int)) /\ ∃ y7 : (List yab), (x1[(IntKind.i64.wrap (x3 - (1 : Int))).toNat]? = some y7) /\ ∃ z8, (ybA y6 y7 z8) /\ ycv X1 X2 a0 x1 x2 x3 z8) (ycv X1 X2 a0 x1 x2 x3 false)
def yed (a0 r0 : List (List yab)) (X1 : (List (List yab)) → Int → Prop) (x1 : List (List yab)) (x2 : Int) : Prop :=
 (a0.length <= maxLen -> cnd (decide (x2 < (a0.length : Int))) ((x1.length <= maxLen -> ∀ X2 : Int -> Prop, (∀ x3, yea X1 a0 x1 x2 X2 x3 -> X2 x3) -> X2 (x1.length : Int))) (x1 = r0))
def yiM (a0 r0 : List (List yab)) : Prop :=
 ∀ X1 : (List (List yab)) -> Int -> Prop, (∀ x1 x2, yed a0 r0 X1 x1 x2 -> X1 x1 x2) -> X1 ([] : List (List yab)) (0 : Int)
theorem yla (X1 : (List (List yab)) → Int → Prop) (X2 : Int → Prop) (a0 x1 : List (List yab)) (x2 x3 : Int) {x4 : Bool} (h : ycv X1 X2 a0 x1 x2 x3 x4) : ygh X2 x3 x1 x2 a0 X1 x4 := by
 unfold ygh
 unfold ycv at h
 exact h
theorem ykD (X1 : (List (List yab)) → Int → Prop) (a0 x1 : List (List yab)) (x2 : Int) {X2 : Int → Prop} {x3 : Int} (h : yea X1 a0 x1 x2 X2 x3) : yfX x1 x2 a0 X1 X2 x3 := by
 unfold yfX
 unfold yea at h
 intro J3 kJ3
 have hJ3 : ∀ x4, ycv X1 X2 a0 x1 x2 x3 x4 -> J3 x4 := fun x4 q => kJ3 x4 (yla X1 X2 a0 x1 x2 x3 q)
 refine yag h (fun h => ?_) (fun h => ?_)
 ·obtain ⟨h0, h⟩ := h
  refine ⟨h0, ?_⟩
  obtain ⟨h0, h⟩ := h
  refine ⟨h0, ?_⟩
  obtain ⟨y6, h⟩ := h
  refine ⟨y6, ?_⟩
  obtain ⟨h0, h⟩ := h
  refine ⟨h0, ?_⟩
  obtain ⟨h0, h⟩ := h
  refine ⟨h0, ?_⟩
  obtain ⟨h0, h⟩ := h
  refine ⟨h0, ?_⟩
  obtain ⟨y7, h⟩ := h
  refine ⟨y7, ?_⟩
  obtain ⟨h0, h⟩ := h
  refine ⟨h0, ?_⟩
  obtain ⟨z8, h⟩ := h
  refine ⟨z8, ?_⟩
  obtain ⟨h0, h⟩ := h
  refine ⟨h0, ?_⟩
  exact hJ3 _ h
 ·exact hJ3 _ h
theorem ykQ (a0 r0 : List (List yab)) {X1 : (List (List yab)) → Int → Prop} {x1 : List (List yab)} {x2 : Int} (h : yed a0 r0 X1 x1 x2) : yf2 a0 r0 X1 x1 x2 := by
 unfold yf2
 unfold yed at h
 intro c
 replace h := h c
 refine yag h (fun h => ?_) (fun h => ?_)
 ·intro c
  replace h := h c
  intro X2 k
  exact h X2 (fun x3 q => k x3 (ykD X1 a0 x1 x2 q))
 ·exact h
theorem yn9 (a0 r0 : List (List yab)) (h : yiM a0 r0) : ybN a0 r0 := by
 unfold ybN
 unfold yiM at h
 intro X1 k
 exact h X1 (fun x1 x2 q => k x1 x2 (ykQ a0 r0 q))
def yeR : Sp KK := ⟨19, [.v 25], [25], appW (K := KK) [25] [.v 25] ybN⟩
def ymV : An KK := (.s .o (.s .o (.s (.s .o (.b (.l ⟨[(0, .kp 86), (3, .sl 50), (4, .it .i64)], [], []⟩ (fun _ => (.s (.s .o (.c .o .o)) (.s (.b (.s .o (.s (.b (.l ⟨[(0, .kp 86), (3, .kp 162), (4, .kp 163), (5, .it .i64)], [], []⟩ (fun _ => (.s (.j ⟨[(0, .kp 86), (3, .kp 162), (4, .kp 163), (5, .kp 168), (27, .bl)], [], []⟩ .o (fun _ => (.c .o .o))) (.b .o))))) .o))) .o)))))) (.s .o .o))))
def yna : Cf KK := ⟨CC, [yfa], [], 46, [], none, false⟩
theorem yfU : SpOk Try.prog CC yeR := yat (F := yna) (ps := [.v 25]) (rs := [25]) (w := ybN) ybd (yar yhm yav) yaw t19 (A := ymV) (by kernel_rfl) (by kernel_rfl) (fun a0 r0 => show _ = _ by kernel_rfl)
end Go.Proofs.Ytkmehmgocelkiaa
end
