/- General texts and own ones, joined: what the program computes, told of abstract states, and the laws of plain data. No condition. -/
import Derived.Test.YtkmehmgocelkiaaMd
import Derived.Test.YtkmehmgocelkiaaMa
import Derived.Test.YtkmehmgocelkiaaRows
import Derived.KernelRfl
import Derived.Test.YtkmehmgocelkiaaMb
noncomputable section
namespace Go.AV
open Go.RowKit Go.RG Go.Lib
variable {K : Nat -> Type}
section
variable {P : Program} {C : Cx K} {R : RR K} {ts ts1 : TS K} {χ : Nat -> Nat -> Bool} {ds : DS} {B : Base} [GB P B] {N : Nat} {ro : Option Nat}
theorem ygp (p : Nat × TV K) (r : List (Nat × TV K)) (t : Nat) : lkR (p :: r) t = if p.1 = t then some p.2 else lkR r t := by
 show (match Nat.beq p.1 t with | true => some p.2 | false => lkR r t) = _
 cases h : Nat.beq p.1 t with
 | true => simp [nbeq.1 h]
 | false => simp only; rw [if_neg (fun e => by rw [nbeq.2 e] at h; cases h)]
theorem ExtR.refl {rg : List (Nat × TV K)} : ExtR rg rg := fun _ _ h => h
theorem ExtR.trans {a b c : List (Nat × TV K)} (h : ExtR a b) (k : ExtR b c) : ExtR a c := fun id w q => k id w (h id w q)
def Same (ts ts' : TS K) : Prop := ts'.od = ts.od /\ ts'.nw = ts.nw
theorem ygv : ∀ (k : Kd) (v : TV K) (rg : List (Nat × TV K)), ExtR rg (tagV k v rg).2
 | .kp id, v, rg => by
   simp only [tagV]
   split
   ·rename_i h1 h2
    intro id' w h
    rw [ygp]
    split
    ·rename_i e; simp only at e; subst e; rw [h2] at h; cases h
    ·exact h
   ·exact .refl
 | .agg l, v, rg => by
   cases v with
   | agg vs =>
     simp only [tagV]
     exact tagVs_ext l vs rg
   | _ => exact .refl
 | .it _, v, rg => .refl
 | .bl, v, rg => .refl
 | .st, v, rg => .refl
 | .sl _, v, rg => .refl
 | .v _, v, rg => .refl
 | .row _, v, rg => .refl
 | .px _ _, v, rg => .refl
 | .nil, v, rg => .refl
 | .np, v, rg => .refl
 | .fn _ _ _, v, rg => .refl
 | .un, v, rg => .refl
where tagVs_ext : ∀ (l : List Kd) (vs : List (TV K)) (rg : List (Nat × TV K)), ExtR rg (yfF l vs rg).2
 | [], vs, rg => .refl
 | k :: l, [], rg => .refl
 | k :: l, v :: vs, rg => by
   simp only [yfF]
   exact (ygv k v rg).trans (tagVs_ext l vs _)
theorem Mono.same {ts ts' : TS K} (hs : Same ts ts') (hx : ExtR ts.rg ts'.rg) : Mono ts ts' χ χ := by
 have ht : ∀ s c, ts'.tb s c = ts.tb s c := by intro s c; unfold TS.tb; rw [hs.1, hs.2]
 refine ⟨hx, fun s c h => ?_, fun s c _ => .inr ⟨by rw [ht], rfl⟩⟩
 rcases h with h | ⟨h1, h2⟩
 ·exact .inl h
 ·exact .inr ⟨h1, by rw [hs.2]; exact h2⟩
mutual
theorem ypD : ∀ (k : Kd) (v : TV K) (rg : List (Nat × TV K)) (a : AV) (ts' : TS K), TR P C ts χ v a → Mono ts ts' χ χ → ExtR (tagV k v rg).2 ts'.rg → TR P C ts' χ (tagV k v rg).1 a
 | .kp id, v, rg, a, ts', h, hm, hx => by
   simp only [tagV] at hx ⊢
   split
   ·rename_i h1 h2
    rw [h1, h2] at hx
    exact .cn id v a (hx id v (by rw [ygp]; simp)) h1 (h.noref h1).1
   ·exact h.mono hm
 | .agg l, .agg vs, rg, a, ts', h, hm, hx => by
   simp only [tagV] at hx ⊢
   obtain ⟨az, rfl, t1, t2⟩ := h.agg'
   have := ylc l vs rg az ts' ⟨t1, t2⟩ hm hx
   exact .agg _ _ this.1 this.2
 | .agg l, .un, rg, a, ts', h, hm, hx => h.mono hm
 | .agg l, .lb b, rg, a, ts', h, hm, hx => h.mono hm
 | .agg l, .bl b, rg, a, ts', h, hm, hx => h.mono hm
 | .agg l, .li k n, rg, a, ts', h, hm, hx => h.mono hm
 | .agg l, .it k n, rg, a, ts', h, hm, hx => h.mono hm
 | .agg l, .st s, rg, a, ts', h, hm, hx => h.mono hm
 | .agg l, .tup s, rg, a, ts', h, hm, hx => h.mono hm
 | .agg l, .nil, rg, a, ts', h, hm, hx => h.mono hm
 | .agg l, .em, rg, a, ts', h, hm, hx => h.mono hm
 | .agg l, .sl _ _, rg, a, ts', h, hm, hx => h.mono hm
 | .agg l, .rw _ _, rg, a, ts', h, hm, hx => h.mono hm
 | .agg l, .px _ _ _, rg, a, ts', h, hm, hx => h.mono hm
 | .agg l, .pr _ _ _ _ _, rg, a, ts', h, hm, hx => h.mono hm
 | .agg l, .ep _ _ _ _, rg, a, ts', h, hm, hx => h.mono hm
 | .agg l, .gs _ _, rg, a, ts', h, hm, hx => h.mono hm
 | .agg l, .nptr, rg, a, ts', h, hm, hx => h.mono hm
 | .agg l, .fn _ _ _, rg, a, ts', h, hm, hx => h.mono hm
 | .agg l, .fv _ _ _, rg, a, ts', h, hm, hx => h.mono hm
 | .agg l, .yl _, rg, a, ts', h, hm, hx => h.mono hm
 | .agg l, .cn _ _, rg, a, ts', h, hm, hx => h.mono hm
 | .it _, v, rg, a, ts', h, hm, hx => h.mono hm
 | .bl, v, rg, a, ts', h, hm, hx => h.mono hm
 | .st, v, rg, a, ts', h, hm, hx => h.mono hm
 | .sl _, v, rg, a, ts', h, hm, hx => h.mono hm
 | .v _, v, rg, a, ts', h, hm, hx => h.mono hm
 | .row _, v, rg, a, ts', h, hm, hx => h.mono hm
 | .px _ _, v, rg, a, ts', h, hm, hx => h.mono hm
 | .nil, v, rg, a, ts', h, hm, hx => h.mono hm
 | .np, v, rg, a, ts', h, hm, hx => h.mono hm
 | .fn _ _ _, v, rg, a, ts', h, hm, hx => h.mono hm
 | .un, v, rg, a, ts', h, hm, hx => h.mono hm
theorem ylc : ∀ (l : List Kd) (vs : List (TV K)) (rg : List (Nat × TV K)) (az : List AV) (ts' : TS K), TL P C ts χ vs az → Mono ts ts' χ χ → ExtR (yfF l vs rg).2 ts'.rg → TL P C ts' χ (yfF l vs rg).1 az
 | [], vs, rg, az, ts', h, hm, hx => h.mono hm
 | k :: l, [], rg, az, ts', h, hm, hx => h.mono hm
 | k :: l, v :: vs, rg, az, ts', h, hm, hx => by
   cases az with
   | nil => simp [TL] at h
   | cons a az =>
     simp only [yfF] at hx ⊢
     exact .cons (ypD k v rg a ts' h.head.1 hm ((ygv.tagVs_ext l vs _).trans hx)) (ylc l vs _ az ts' h.head.2 hm hx)
end
theorem ykL : ∀ (l : List (Nat × Kd)) (ts : TS K), ExtR ts.rg (tagS l ts).rg ∧ (tagS l ts).nw = ts.nw ∧ (tagS l ts).h = ts.h
 | [], ts => ⟨.refl, rfl, rfl⟩
 | p :: l, ts => by
   simp only [tagS]
   have := ykL l ⟨(p.1, (tagV p.2 (lkT ts.fr p.1) ts.rg).1) :: ts.fr, ts.od, ts.nw, (tagV p.2 (lkT ts.fr p.1) ts.rg).2, ts.h⟩
   exact ⟨(ygv _ _ _).trans this.1, this.2.1, this.2.2⟩
theorem yry : ∀ (l : List (Nat × Kd)) (ts : TS K), GM P C R ts χ ds → GM P C R (tagS l ts) χ ds
 | [], ts, h => h
 | p :: l, ts, h => by
   simp only [tagS]
   refine yry l _ ?_
   have hm : Mono ts ⟨(p.1, (tagV p.2 (lkT ts.fr p.1) ts.rg).1) :: ts.fr, ts.od, ts.nw, (tagV p.2 (lkT ts.fr p.1) ts.rg).2, ts.h⟩ χ χ := Mono.same ⟨rfl, rfl⟩ (ygv _ _ _)
   refine ⟨fun t => ?_, fun s c b hb hx => ?_, h.vi, h.nw, h.hp, h.lv⟩
   ·show TR P C _ χ (lkT ((p.1, _) :: ts.fr) t) _
    rw [ybW]
    split
    ·rename_i e; rw [<- e]; exact ypD p.2 _ ts.rg _ _ (h.fr p.1) hm .refl
    ·exact (h.fr t).mono hm
   ·obtain ⟨kb, h1, h2⟩ := h.mb s c b hb hx
    exact ⟨kb, h1, h2.mono hm⟩
theorem ymh : ∀ (l : List Kd) (vs : List (TV K)) (rg : List (Nat × TV K)), (yfF l vs rg).1.length = vs.length
 | [], vs, rg => rfl
 | k :: l, [], rg => rfl
 | k :: l, v :: vs, rg => by simp only [yfF, List.length_cons, ymh l vs]
theorem yiK : ∀ (l : List (Nat × Nat × List Kd)) (ts : TS K), ExtR ts.rg (tagB l ts).rg ∧ (tagB l ts).nw = ts.nw ∧ (tagB l ts).h = ts.h
 | [], ts => ⟨.refl, rfl, rfl⟩
 | p :: l, ts => by
   simp only [tagB]
   split
   ·rename_i e cs hb
    have := yiK l ⟨ts.fr, (p.1, some (.box e (yfF p.2.2 cs ts.rg).1)) :: ts.od, ts.nw, (yfF p.2.2 cs ts.rg).2, ts.h⟩
    exact ⟨(ygv.tagVs_ext _ _ _).trans this.1, this.2.1, this.2.2⟩
   ·exact yiK l ts
theorem ym5 : ∀ (l : List (Nat × Nat × List Kd)) (ts : TS K), GM P C R ts χ ds → GM P C R (tagB l ts) χ ds
 | [], ts, h => h
 | p :: l, ts, h => by
   simp only [tagB]
   split
   ·rename_i e cs hb
    refine ym5 l _ ?_
    have htb : ∀ s c, (⟨ts.fr, (p.1, some (.box e (yfF p.2.2 cs ts.rg).1)) :: ts.od, ts.nw, (yfF p.2.2 cs ts.rg).2, ts.h⟩ : TS K).tb s c = if s = p.1 /\ c = 1 then some (.box e (yfF p.2.2 cs ts.rg).1) else ts.tb s c := fun s c => yb7 ts p.1 1 (some (.box e (yfF p.2.2 cs ts.rg).1)) (.inl rfl) s c
    have hbx : ts.tb p.1 1 = some (.box e cs) := hb
    have hm : Mono ts ⟨ts.fr, (p.1, some (.box e (yfF p.2.2 cs ts.rg).1)) :: ts.od, ts.nw, (yfF p.2.2 cs ts.rg).2, ts.h⟩ χ χ := by
     refine ⟨ygv.tagVs_ext _ _ _, fun s c q => q, fun s c _ => .inr ⟨?_, rfl⟩⟩
     rw [htb]
     split
     ·rename_i q; obtain ⟨rfl, rfl⟩ := q; rw [hbx]; rfl
     ·rfl
    refine ⟨fun t => (h.fr t).mono hm, fun s c b hb' hx => ?_, fun s c hx => ?_, h.nw, h.hp, fun s b q e => ?_⟩
    rotate_right
    ·rw [htb] at e
     split at e
     ·rename_i q'; obtain ⟨rfl, _⟩ := q'; exact h.lv _ _ q hbx
     ·exact h.lv s b q e
    ·rw [htb] at hb'
     split at hb'
     ·rename_i q
      obtain ⟨rfl, rfl⟩ := q
      cases hb'
      obtain ⟨kb, h1, h2⟩ := h.mb _ _ _ hbx hx
      refine ⟨kb, h1, ?_⟩
      have t := ylc (P := P) (C := C) (ts := ts) (χ := χ) p.2.2 cs ts.rg kb.cells _ ⟨h2.2.2.1, h2.2.2.2⟩ hm .refl
      exact ⟨h2.1, by rw [ymh]; exact h2.2.1, t.1, t.2⟩
     ·obtain ⟨kb, h1, h2⟩ := h.mb s c b hb' hx
      exact ⟨kb, h1, h2.mono hm⟩
    ·obtain ⟨e', h1⟩ := h.vi s c hx
     refine ⟨e', ?_⟩
     rw [htb]
     split
     ·rename_i q; obtain ⟨rfl, rfl⟩ := q; rw [hbx] at h1; cases h1
     ·exact h1
   ·exact ym5 l ts h
theorem ykp {τ : Tm} (h : GM P C R ts χ ds) : GM P C R (tagT τ ts) χ ds := ym5 _ _ (yry _ _ h)
theorem ydQ (τ : Tm) (ts : TS K) : ExtR ts.rg (tagT τ ts).rg := (ykL τ.ks ts).1.trans (yiK τ.bx _).1
def curC : (cs : List CT) → (List (DV K) → Prop) → Cur K Prop cs
 | [], p => p []
 | _ :: cs, p => fun x => curC cs fun env => p (inC _ x :: env)
theorem yuy (c : CT) (x : CTy K c) : outC c (inC c x) = some x := by
 cases c with
 | l e => exact dif_pos rfl
 | v t => exact dif_pos rfl
 | i => rfl
 | b => rfl
 | s => rfl
theorem ytR {x : DV K} {n : Int} (h : outI x = some n) : .i n = x := by
 cases x <;> first | (cases h; rfl) | (cases h; done)
theorem yr1 {x : DV K} {n : Bool} (h : yth x = some n) : .b n = x := by
 cases x <;> first | (cases h; rfl) | (cases h; done)
theorem yt1 {x : DV K} {n : Str} (h : outS x = some n) : .s n = x := by
 cases x <;> first | (cases h; rfl) | (cases h; done)
theorem yui {e : Nat} {x : DV K} {l : List (K e)} (h : outL e x = some l) : .l e l = x := by
 cases x with
 | l e' l' => obtain ⟨rfl, rfl⟩ := yd5 h; rfl
 | _ => cases h
theorem yuz {t : Nat} {x : DV K} {y : K t} (h : outT t x = some y) : .v t y = x := by
 cases x with
 | v t' y' =>
   simp only [outT] at h
   split at h
   ·rename_i e; subst e; cases h; rfl
   ·cases h
 | _ => cases h
theorem ytA {c : CT} {x : DV K} {y : CTy K c} (h : outC c x = some y) : inC c y = x := by
 cases c with
 | l e => exact yui h
 | v t => exact yuz h
 | i => exact ytR h
 | b => exact yr1 h
 | s => exact yt1 h
theorem ynb : ∀ (cs : List CT) (p : List (DV K) → Prop) (env : List (DV K)), apC False cs (curC cs p) env → p env
 | [], p, [], h => h
 | [], p, _ :: _, h => h.elim
 | c :: cs, p, [], h => h.elim
 | c :: cs, p, x :: env, h => by
   simp only [apC] at h
   split at h
   ·rename_i y hy
    have := ynb cs _ env h
    rw [ytA hy] at this; exact this
   ·exact h.elim
theorem ykF : ∀ (cs : List CT) (p : List (DV K) → Prop) (q : List (DV K) → Prop), (∀ env, q env → p env) → allC cs fun env => q env → apC False cs (curC cs p) env
 | [], p, q, h => fun hq => h [] hq
 | c :: cs, p, q, h => fun x => by
   have := ykF cs (fun env => p (inC c x :: env)) (fun env => q (inC c x :: env)) (fun env => h _)
   show allC cs fun env => q (inC c x :: env) -> (match outC c (inC c x) with | some y => apC False cs (curC (c :: cs) p y) env | none => False)
   rw [yuy]
   exact this
variable (P C R) in
def Kq (rg : List (Nat × TV K)) (Q : AEx -> TS K -> Prop) (e : AEx) (ks : KS) : Prop := KOk ks /\ ∃ ts χ, GM P C R ts χ (ofK ks) /\ ExtR rg ts.rg /\ Q e ts
theorem Kq.mono {rg rg' : List (Nat × TV K)} {Q : AEx → TS K → Prop} {e : AEx} {ks : KS} (h : Kq P C R rg Q e ks) (hx : ExtR rg' rg) : Kq P C R rg' Q e ks := by
 obtain ⟨a, ts, χ, b, c, d⟩ := h
 exact ⟨a, ts, χ, b, hx.trans c, d⟩
theorem yur (C : Cx K) (ts : TS K) (s : Nat) : (fz C ts s).rg = ts.rg := by unfold fz; split <;> rfl
theorem fz_h (C : Cx K) (ts : TS K) (s : Nat) : (fz C ts s).h = ts.h := by unfold fz; split <;> rfl
theorem ExtR.eq {a b : List (Nat × TV K)} (h : b = a) : ExtR a b := h ▸ .refl
theorem ypt (C : Cx K) : ∀ (n : Nat) (vs : List (TV K)) (ts : TS K), (fzA C n vs ts).rg = ts.rg
 | 0, _, _ => rfl
 | n + 1, vs, ts => by
   simp only [fzA]
   split
   ·rfl
   ·split
    ·rw [yur, ypt C n]
    ·rw [yur]
theorem yq1 (C : Cx K) (fr : List (Nat × TV K)) : ∀ (l : List (Nat × Kd)) (ts : TS K), (fzT C fr l ts).rg = ts.rg
 | [], _ => rfl
 | (t, k) :: r, ts => by
   cases k with
   | sl e =>
     simp only [fzT]
     rw [yq1 C fr r]
     split
     ·rw [yur]
     ·rfl
   | _ => simp only [fzT]; exact yq1 C fr r ts
theorem ys0 (hB : ycJ B) (hC : CxOk P C) (f : TS K → List (TV K)) : ∀ (l : List AOpd) (ts : TS K), REk P C R B N ts (l.foldl (fun ts x => fzA C 9 [tea ts.fr x] ts) ts) ∧ (l.foldl (fun ts x => fzA C 9 [tea ts.fr x] ts) ts).rg = ts.rg
 | [], ts => ⟨.refl, rfl⟩
 | x :: l, ts => by
   have _ := (inferInstance : GB P B)
   obtain ⟨a, b⟩ := ys0 hB hC f l (fzA C 9 [tea ts.fr x] ts)
   exact ⟨(yoz hB hC _ _ _).trans a, by rw [List.foldl_cons, b, ypt]⟩
theorem yun (hB : ycJ B) (hC : CxOk P C) {F : Cf K} (hF : F.C = C) {o : AO} : (frzA F o ts = ts ∨ REt P C R B N ts (frzA F o ts)) ∧ (frzA F o ts).rg = ts.rg := by
 have go : ∀ (args : List AOpd), REt P C R B N ts (args.foldl (fun ts x => fzA F.C 9 [tea ts.fr x] ts) (er ts)) ∧ (args.foldl (fun ts x => fzA F.C 9 [tea ts.fr x] ts) (er ts)).rg = ts.rg := by
  intro args
  rw [hF]
  obtain ⟨a, b⟩ := ys0 (N := N) hB hC (fun _ => []) args (er ts)
  exact ⟨(yto hB hC).thenk a, b⟩
 unfold frzA frzs
 split
 ·exact ⟨.inl rfl, rfl⟩
 ·exact ⟨.inr (go _).1, (go _).2⟩
section
variable {L : List AO} {i : Nat}
theorem yu4 (hB : ycJ B) {Q : KS → Prop} (h : REt P C R B N ts ts1) (hk : DOk ds) (hγ : GM P C R ts χ ds) (k : ∀ ks ξ, KOk ks → GM P C R ts1 ξ (ofK ks) → WD P B N ro L i Q (ofK ks)) : WD P B N ro L i Q ds :=
 yva fun _ => (h χ ds hk hγ).mono fun ks ⟨h1, ξ, h2⟩ => k ks ξ h1 h2
theorem ywk {Q : KS → Prop} (e : L.drop i = []) (h : DOk ds → RE B N (toD ds) Q) : WD P B N ro L i Q ds := by
 have _ := (inferInstance : GB P B)
 intro ops pre suf he ht a G hR
 rw [e] at ht
 cases suf with
 | cons x suf =>
   simp only [yf8] at ht
   split at ht <;> cases ht
 | nil =>
   obtain ⟨ks1, G1, h1, h2, h3⟩ := h hR.2 a G hR.1
   simp only [List.length_nil, List.range'_zero, wpOpsIn]
   rw [<- h1]
   exact ⟨ks1, G1, h2, rfl, h3⟩
theorem yj8 {g : Option (Nat × Bool)} {fr : List (Nat × AV)} {d : Nat} {b : Bool} (e : g = some (d, b)) (h : lkF fr d = .bl b) : gok g fr = true := by
 subst e; simp only [gok, h]; cases b <;> rfl
theorem yj7 {g : Option (Nat × Bool)} {fr : List (Nat × AV)} {d : Nat} {b c : Bool} (e : g = some (d, b)) (h : lkF fr d = .bl c) (hn : c ≠ b) : gno g fr = true := by
 subst e; simp only [gno, h]; cases b <;> cases c <;> first | rfl | exact absurd rfl hn
variable (P C R B N ro) in
def YOk (rY : Nat) (Y : Option (Nat × (Nat → Option (Nat × Bool) → AOpd → List AOpd → TS K → (Bool → TS K → Prop) → Prop))) : Prop := ∀ y, Y = some y → ∀ (L : List AO) (i : Nat) (o : AO) (x : AOpd) (args : List AOpd) (ts : TS K) (χ : Nat → Nat → Bool) (ds : DS) (X : Bool → TS K → Prop) (Q : KS → Prop),
 L[i]? = some o -> gok o.guard ds.fr = true -> o.op = .calv x args -> GM P C R ts χ ds -> DOk ds -> lkR ts.rg y.1 = some (.yl rY) -> y.2 N o.guard x args ts X ->
 (∀ b ts' χ' ks', GM P C R ts' χ' (ofK ks') -> KOk ks' -> ExtR ts.rg ts'.rg -> X b ts' -> WD P B N ro L (i + 1) Q ((ofK ks').put o.dst (.bl b))) -> WD P B N ro L i Q ds
theorem yuS (hB : ycJ B) (hC : CxOk P C) {F : Cf K} (hF : F.C = C) (hS : SsOk P C F.S) (hL : SLOk P C F.L) (hN : F.N = N) {rY : Nat} (hY : YOk P C R B N ro rY F.Y) {o : AO} {X : TS K → Prop} {Q : KS → Prop} (e0 : L[i]? = some o) (hγ : GM P C R ts χ ds) (hk : DOk ds) (hg : gok o.guard ds.fr = true) (hYI : ∀ y, F.Y = some y → lkR ts.rg y.1 = some (.yl rY)) (h : step F false o ts X)
  (k : ∀ ts' χ' ds', GM P C R ts' χ' ds' -> DOk ds' -> X ts' -> ExtR ts.rg ts'.rg -> WD P B N ro L (i + 1) Q ds') : WD P B N ro L i Q ds := by
 have calls : ∀ {f : FuncId} {us : List (TV K)} {vs : List AV}, TL P C ts χ us vs → CalO o ds f vs → yqA F.C F.S ts o.dst f us X → WD P B N ro L i Q ds := by
  intro f us vs ht ho h
  rw [hF] at h
  obtain ⟨vs', kl, d1, v, ts', χ', c1, c2, c3, c4, c5, _, _⟩ := ykt hC hS hγ hk ht ho h
  exact ynD e0 hg c1 (k ts' χ' _ c2 c3.put c4 (.eq c5))
 have callL : ∀ {f : FuncId} {us : List (TV K)} {vs : List AV} {sp : Sl K} {env : List (DV K)} {M : RM}, TL P C ts χ us vs → CalO o ds f vs → yie F.C ts f us F.L = some (sp, env, M) → yit F.C F.S false ts o.dst sp env M us X → WD P B N ro L i Q ds := by
  intro f us vs sp env M ht ho hp h
  rw [hF] at h hp
  exact ysk hC hS hL e0 hg hγ ht ho hp h fun a b c d e f g => k a b c d e f (.eq g)
 have rest : yni o.op = true → step F true o ts X → WD P B N ro L i Q ds := by
  intro hn h
  obtain ⟨e, ds', ts', χ', h1, h2, h3, h4, h5, h6⟩ := yol hC hγ hk hF hn h
  have hc : isMC o.op = false := by cases hop : o.op <;> rw [hop] at hn <;> first | rfl | (cases hn; done)
  exact WD_e e0 hg (fun _ => h1) hc (k ts' χ' ds' h4 h1.ok h5 (.eq h6))
 cases ho : o.op with
 | call f args =>
   unfold step at h; rw [ho] at h
   simp only at h
   split at h
   ·rename_i sp env M hp
    exact callL (TL.tea hγ args) (.inl ⟨args, ho, rfl⟩) hp h
   ·exact calls (TL.tea hγ args) (.inl ⟨args, ho, rfl⟩) h
 | calv x args =>
   unfold step at h; rw [ho] at h
   simp only at h
   have hx := hγ.tev x
   split at h
   ·rename_i f a c ex
    rw [ex] at hx
    generalize hv : ev (lkF ds.fr) x = v at hx
    cases hx with
    | fn _ _ _ a' c' ha hc h1 h2 =>
      split at h
      ·rename_i sp env M hp
       exact callL (((show TL P C ts χ a a' from ⟨ha, h1⟩).app (TL.tea hγ args)).app ⟨hc, h2⟩) (.inr ⟨x, args, a', c', ho, hv, rfl⟩) hp h
      ·exact calls (((show TL P C ts χ a a' from ⟨ha, h1⟩).app (TL.tea hγ args)).app ⟨hc, h2⟩) (.inr ⟨x, args, a', c', ho, hv, rfl⟩) h
   ·rename_i ps rs V ex
    rw [ex] at hx
    cases hx with
    | fv _ _ _ _ hV hv =>
      rw [hF] at h
      obtain ⟨f, vs, vs', kl, d1, w, ts', χ', c1, c2, c3, c4, c5, _⟩ := yov hC hγ hk hV ho rfl hv (TL.tea hγ args) h
      exact ynD e0 hg c1 (k ts' χ' _ c2 c3.put c4 (.eq c5))
   ·split at h
    ·rename_i id u y _ hu hy
     split at h
     ·rename_i hid
      rw [hN] at h
      refine hY y hy L i o x args ts χ ds _ Q e0 hg ho hγ hk (hYI y hy) h fun b ts' χ' ks' a1 a2 a3 a4 => ?_
      exact k _ χ' _ (a1.put (d := o.dst) (TR.lb b)) (yfD a2).put a4 (by rw [yb4]; exact a3)
     ·exact h.elim
    ·exact h.elim
   ·exact h.elim
 | len x =>
   cases hs : yvk F.N x with
   | false =>
     refine rest (by rw [ho]; rfl) ?_
     unfold step at h ⊢; rw [ho] at h ⊢
     simp only [hs] at h ⊢
     exact h
   | true =>
     unfold step at h; rw [ho] at h
     simp only [hs, Bool.not_true, Bool.or_false] at h
     unfold tlen at h
     split at h
     ·rename_i e l ex
      have hx := hγ.tev x
      rw [ex] at hx
      cases x with
      | c v => cases hs
      | t n =>
        obtain ⟨z, xs, hxs, hv⟩ := hx.sli
        refine yvT (t := n) (by rw [<- hN]; exact Nat.le_of_ble_eq_true hs) hv fun hm => ?_
        refine rest (by rw [ho]; rfl) ?_
        unfold step; rw [ho]
        simp only [Bool.true_or]
        unfold tlen
        rw [ex]
        exact h hm
     ·rename_i ex
      refine rest (by rw [ho]; rfl) ?_
      unfold step; rw [ho]; simp only [Bool.true_or]; unfold tlen; rw [ex]; exact h
     ·rename_i ex
      refine rest (by rw [ho]; rfl) ?_
      unfold step; rw [ho]; simp only [Bool.true_or]; unfold tlen; rw [ex]; exact h
     ·rename_i s c ex
      refine rest (by rw [ho]; rfl) ?_
      unfold step; rw [ho]; simp only [Bool.true_or]; unfold tlen; rw [ex]; exact h
     ·exact h.elim
 | eq g kind x y =>
   have other : (match tqv ts (.eq g kind x y) with | some (cs, v) => andL cs (X (ts.put o.dst v)) | none => False) → WD P B N ro L i Q ds := by
    intro h
    refine rest (by rw [ho]; rfl) ?_
    unfold step; rw [ho]; simp only [teqn]; exact h
   unfold step at h; rw [ho] at h
   simp only [teqn] at h
   split at h
   ·exact other h
   ·rename_i hk4
    have hk4 := Nat.eq_of_beq_eq_true hk4
    subst hk4
    have hx := hγ.tev x
    have hy := hγ.tev y
    split at h
    ·rename_i e l ex
     rw [ex] at hx
     split at h
     ·rename_i ey
      rw [ey] at hy
      obtain ⟨z, xs, hxs, hv⟩ := hx.sli
      generalize hw : ev (lkF ds.fr) y = w at hy
      cases hy
      refine ywA e0 hg ho hv hw fun b hb => ?_
      exact k _ χ _ (hγ.put (TR.bl _)) hk.put (h b fun q => List.length_eq_zero_iff.1 (hb q)) (.eq (yb4 _ _ _))
     ·exact other h
    ·exact other h
 | _ =>
   refine rest (by rw [ho]; rfl) ?_
   unfold step at h ⊢; rw [ho] at h ⊢; exact h
theorem yrl (hB : ycJ B) (hC : CxOk P C) {F : Cf K} (hF : F.C = C) (hS : SsOk P C F.S) (hL : SLOk P C F.L) (hN : F.N = N) {rY : Nat} (hY : YOk P C R B N ro rY F.Y) {X : TS K → Prop} {Q : KS → Prop} : ∀ (L' : List AO) (i : Nat) (ts : TS K) (χ : Nat → Nat → Bool) (ds : DS), L.drop i = L' → GM P C R ts χ ds → DOk ds → (∀ y, F.Y = some y → lkR ts.rg y.1 = some (.yl rY)) → tops F L' ts X →
  (∀ ts' χ' ds', GM P C R ts' χ' ds' -> DOk ds' -> X ts' -> ExtR ts.rg ts'.rg -> RE B N (toD ds') Q) -> WD P B N ro L i Q ds
 | [], i, ts, χ, ds, e, hγ, hk, _, h, fin => ywk e fun _ => fin ts χ ds hγ hk h .refl
 | o :: r, i, ts, χ, ds, e, hγ, hk, hYI, h, fin => by
   have e0 : L[i]? = some o := by
    have := congrArg (·[0]?) e
    simpa using this
   have e1 : L.drop (i + 1) = r := by rw [<- List.drop_drop, e]; rfl
   have next : ∀ {ts ts2 : TS K} {χ2 : Nat → Nat → Bool} {ds2 : DS}, (∀ ts' χ' ds', GM P C R ts' χ' ds' → DOk ds' → X ts' → ExtR ts.rg ts'.rg → RE B N (toD ds') Q) → (∀ y, F.Y = some y → lkR ts.rg y.1 = some (.yl rY)) → GM P C R ts2 χ2 ds2 → DOk ds2 → tops F r ts2 X → ExtR ts.rg ts2.rg → WD P B N ro L (i + 1) Q ds2 := by
    intro ts ts2 χ2 ds2 fin hYI a b c d
    exact yrl hB hC hF hS hL hN hY r (i + 1) ts2 χ2 ds2 e1 a b (fun y e => d _ _ (hYI y e)) c fun ts3 χ3 ds3 p q s t => fin ts3 χ3 ds3 p q s (d.trans t)
   have main : ∀ {ts : TS K} {χ : Nat → Nat → Bool} {ds : DS}, GM P C R ts χ ds → DOk ds → (∀ y, F.Y = some y → lkR ts.rg y.1 = some (.yl rY)) → topg F o (fun t => tops F r t X) ts → (∀ ts' χ' ds', GM P C R ts' χ' ds' → DOk ds' → X ts' → ExtR ts.rg ts'.rg → RE B N (toD ds') Q) → WD P B N ro L i Q ds := by
    intro ts χ ds hγ hk hYI h fin
    have run : ∀ {ts0 : TS K} {ds0 : DS}, GM P C R ts0 χ ds0 → DOk ds0 → ts0.rg = ts.rg → gok o.guard ds0.fr = true → step F false o ts0 (fun t => tops F r t X) → WD P B N ro L i Q ds0 := by
     intro ts0 ds0 hγ0 hk0 hr hg hst
     exact yuS hB hC hF hS hL hN hY e0 hγ0 hk0 hg (by rw [hr]; exact hYI) hst fun ts2 χ2 ds2 a b c d => next fin hYI a b c ((ExtR.eq hr).trans d)
    have skip : ∀ {ts0 : TS K} {ds0 : DS}, GM P C R ts0 χ ds0 → DOk ds0 → ts0.rg = ts.rg → gno o.guard ds0.fr = true → tops F r (ts0.put o.dst (.tup [])) X → WD P B N ro L i Q ds0 := by
     intro ts0 ds0 hγ0 hk0 hr hg hst
     exact yvo e0 hg (next fin hYI (hγ0.put (.tup [] [] rfl (fun j u v h => by simp at h))) hk0.put hst (.eq ((yb4 _ _ _).trans hr)))
    unfold topg tgd at h
    split at h
    ·rename_i hg
     exact run hγ hk rfl (by rw [hg]; rfl) h
    ·rename_i d b hg
     have hd := (hγ.fr d).s
     split at h
     ·rename_i c hc
      rw [hc] at hd
      have hv := hd.lbi
      split at h
      ·rename_i hcb
       have : c = b := by cases c <;> cases b <;> first | rfl | cases hcb
       subst this
       exact run hγ hk rfl (yj8 hg hv) h
      ·rename_i hcb
       exact skip hγ hk rfl (yj7 hg hv (by intro q; subst q; cases c <;> cases hcb)) h
     ·rename_i c hc
      rw [hc] at hd
      have hv := hd.bli
      obtain ⟨h1, h2⟩ := h
      refine yug hv (fun hb => ?_) (fun hb => ?_)
      ·have hh := h1 hb
       have g1 := hγ.put (d := some d) (TR.lb (P := P) (C := C) (ts := ts) (χ := χ) true)
       have v1 : lkF (ds.put (some d) (.bl true)).fr d = .bl true := by show lkF ((d, .bl true) :: ds.fr) d = _; rw [ya7]; simp
       cases b with
       | true => exact run g1 hk.put (yb4 _ _ _) (yj8 hg v1) hh
       | false => exact skip g1 hk.put (yb4 _ _ _) (yj7 hg v1 (by simp)) hh
      ·have hh := h2 hb
       have g1 := hγ.put (d := some d) (TR.lb (P := P) (C := C) (ts := ts) (χ := χ) false)
       have v1 : lkF (ds.put (some d) (.bl false)).fr d = .bl false := by show lkF ((d, .bl false) :: ds.fr) d = _; rw [ya7]; simp
       cases b with
       | true => exact skip g1 hk.put (yb4 _ _ _) (yj7 hg v1 (by simp)) hh
       | false => exact run g1 hk.put (yb4 _ _ _) (yj8 hg v1) hh
     ·rename_i hc
      rw [hc] at hd
      obtain ⟨vs, hv, hl, _⟩ := hd.tup'
      have : vs = [] := List.eq_nil_of_length_eq_zero hl
      subst this
      exact skip hγ hk rfl (by rw [hg]; simp only [gno, hv]) h
     ·exact h.elim
   obtain ⟨hfr, hrg⟩ := yun (N := N) (ts := ts) hB hC hF (o := o)
   rcases hfr with hq | hq
   ·rw [tops, hq] at h; exact main hγ hk hYI h fin
   ·rw [tops] at h
    exact yu4 hB hq hk hγ fun ks ξ a b => main b (yfD a) (by rw [hrg]; exact hYI) h fun ts' χ' ds' p q s t => fin ts' χ' ds' p q s (by rw [<- hrg]; exact t)
end
section
structure LeF (f : Foot) (t : TFt) : Prop where
 rk : ∀ k ∈ f.rk, (∃ o, k = .h o) ∨ ∃ q ∈ t.rk, k = .l q.1 q.2
 wk : ∀ q ∈ f.wk, q ∈ t.wk
 wh : f.wh = false
 bs : ∀ s ∈ f.bs, (s, 2) ∈ t.wk
theorem yiS : ∀ {l : List (Nat × Nat)} {q : Nat × Nat}, q ∈ l → memQ l q = true
 | p :: r, q, h => by
   show ((Nat.beq p.1 q.1 && Nat.beq p.2 q.2) || memQ r q) = true
   rcases List.mem_cons.1 h with rfl | h
   ·rw [nbeq.2 rfl, nbeq.2 rfl]; rfl
   ·rw [yiS h, Bool.or_true]
theorem yvK {a b : Foot} {s t : TFt} (ha : LeF a s) (hb : LeF b t) (h : okT s t = true) : okF a b := by
 simp only [okT, Bool.and_eq_true, List.all_eq_true, Bool.not_eq_true'] at h
 obtain ⟨h1, h2⟩ := h
 have nk : ∀ {q : Nat × Nat} {k : Key} {l : List (Nat × Nat)}, memQ l q = false → ((∃ o, k = .h o) ∨ ∃ r ∈ l, k = .l r.1 r.2) → Key.l q.1 q.2 ≠ k := by
  rintro q k l hq (⟨o, rfl⟩ | ⟨r, hr, rfl⟩) e
  ·cases e
  ·simp only [Key.l.injEq] at e
   have : q = r := Prod.ext e.1 e.2
   subst this
   rw [yiS hr] at hq; cases hq
 refine ⟨ybN.2 fun q hq => ⟨ybN.2 fun k hk => nk (h1 q (ha.wk q hq)).1 (hb.rk k hk), ybN.2 fun r hr e => ?_⟩, ybN.2 fun q hq => ybN.2 fun k hk => nk (h2 q (hb.wk q hq)) (ha.rk k hk), fun e => (by rw [ha.wh] at e; cases e), fun e => (by rw [hb.wh] at e; cases e), ybN.2 fun q hq => ybN.2 fun r hr e => ?_⟩
 ·subst e
  have := (h1 q (ha.wk q hq)).2
  rw [yiS (hb.wk q hr)] at this; cases this
 ·subst e
  have := (h1 (q, 2) (ha.bs q hq)).2
  rw [yiS (hb.bs q hr)] at this; cases this
def LeA (acc : List Foot) (tacc : List TFt) : Prop := acc.length = tacc.length /\ ∀ (j : Nat) (f : Foot) (t : TFt), acc[j]? = some f -> tacc[j]? = some t -> LeF f t
theorem LeA.snoc {acc : List Foot} {tacc : List TFt} {f : Foot} {t : TFt} (h : LeA acc tacc) (k : LeF f t) : LeA (acc ++ [f]) (tacc ++ [t]) := by
 refine ⟨by simp [h.1], fun j g s a b => ?_⟩
 by_cases hj : j < acc.length
 ·rw [List.getElem?_append_left hj] at a
  rw [List.getElem?_append_left (by rw [<- h.1]; exact hj)] at b
  exact h.2 j g s a b
 ·rw [List.getElem?_append_right (by omega)] at a
  rw [List.getElem?_append_right (by rw [<- h.1]; omega), <- h.1] at b
  cases hq : j - acc.length with
  | zero => rw [hq] at a b; simp at a b; subst a; subst b; exact k
  | succ m => rw [hq] at a; simp at a
theorem ykI {f : Foot} {t : TFt} {acc : List Foot} {tacc : List TFt} (hf : LeF f t) (ha : LeA acc tacc) : ∀ (fre : List Nat), okTs t tacc fre = true → yim f acc fre
 | [], _ => trivial
 | j :: r, h => by
   simp only [okTs, Bool.and_eq_true] at h
   refine ⟨?_, ykI hf ha r h.2⟩
   show wpo acc[j]? (okF f)
   cases hj : acc[j]? with
   | none => trivial
   | some g =>
     have hlt : j < tacc.length := by rw [<- ha.1]; exact (List.getElem?_eq_some_iff.1 hj).1
     have ht : tacc[j]? = some tacc[j] := List.getElem?_eq_getElem hlt
     rw [ht] at h
     exact yvK hf (ha.2 j g _ hj ht) h.1
def LeK (l : List Key) (t : List (Nat × Nat)) : Prop := ∀ k ∈ l, (∃ o, k = .h o) ∨ ∃ q ∈ t, k = .l q.1 q.2
theorem LeK.app {a b : List Key} {s t : List (Nat × Nat)} (h : LeK a s) (k : LeK b t) : LeK (a ++ b) (s ++ t) := by
 intro x hx
 rcases List.mem_append.1 hx with hx | hx
 ·rcases h x hx with q | ⟨r, hr, e⟩
  ·exact .inl q
  ·exact .inr ⟨r, List.mem_append_left _ hr, e⟩
 ·rcases k x hx with q | ⟨r, hr, e⟩
  ·exact .inl q
  ·exact .inr ⟨r, List.mem_append_right _ hr, e⟩
theorem LeK.nil {t : List (Nat × Nat)} : LeK [] t := fun k h => by cases h
theorem TR.hascn {u : TV K} {v : AV} (h : TR P C ts χ u v) : ∀ id w, u.s ≠ .cn id w := by
 intro id w e
 cases h with
 | cn id' u v h hn hv => simp only [TV.s] at e; rw [e] at hn; cases hn
 | _ => cases e
theorem yk1 {v : AV} (h : v.noL = true) : LeK (ybn v) [] ∧ LeK (key1 v) [] := by
 cases v with
 | gs k n => cases k with
   | h o => exact ⟨fun k hk => by simp [ybn] at hk; exact .inl ⟨o, hk⟩, fun k hk => by simp [key1] at hk; exact .inl ⟨o, hk⟩⟩
   | l d c => cases h
 | pt k n => cases k with
   | h o => exact ⟨fun k hk => by simp [ybn] at hk; exact .inl ⟨o, hk⟩, fun k hk => by simp [key1] at hk; exact .inl ⟨o, hk⟩⟩
   | l d c => cases h
 | agg cs =>
   refine ⟨fun k hk => ?_, .nil⟩
   simp only [ybn, List.mem_flatMap] at hk
   obtain ⟨x, hx, hk⟩ := hk
   have hn : x.noL = true := ygt.1 (show noLs cs = true from h) x hx
   cases x with
   | gs q n => cases q with
     | h o => simp [key1] at hk; exact .inl ⟨o, hk⟩
     | l d c => cases hn
   | pt q n => cases q with
     | h o => simp [key1] at hk; exact .inl ⟨o, hk⟩
     | l d c => cases hn
   | _ => simp [key1] at hk
 | _ => exact ⟨.nil, .nil⟩
theorem ypO {u : TV K} {v : AV} {l : List (Nat × Nat)} (h : TR P C ts χ u v) (hl : tky1 ts u = some l) : LeK (key1 v) l ∧ ((∀ vs, v ≠ .agg vs) → LeK (ybn v) l) := by
 have hs := h.s
 have hc := h.hascn
 unfold tky1 at hl
 revert hs hc hl
 generalize u.s = w
 intro hl hs hc
 have no : ∀ {v : AV} {l : List (Nat × Nat)}, v.noL = true → LeK (key1 v) l ∧ ((∀ vs, v ≠ .agg vs) → LeK (ybn v) l) := by
  intro v l hv
  obtain ⟨a, b⟩ := yk1 hv
  have up : ∀ {x : List Key}, LeK x [] -> LeK x l := fun hx k hk => (hx k hk).imp id (fun ⟨q, hq, _⟩ => by cases hq)
  exact ⟨up b, fun _ => up a⟩
 cases hs with
 | un v => cases hl
 | lb b => exact no rfl
 | bl b => exact no rfl
 | li k n => exact no rfl
 | it k n => exact no rfl
 | st s => exact no rfl
 | agg us vs _ _ => exact ⟨.nil, fun hn => absurd rfl (hn vs)⟩
 | tup us vs _ _ => exact ⟨.nil, fun _ => .nil⟩
 | nil => exact no rfl
 | em z => exact no rfl
 | sl e l z n xs hn hx => exact no rfl
 | rwd s c v hr hn ho => simp only [hn] at hl; cases hl
 | rw s c n hr hn hx =>
   simp only [hn, Option.some.injEq] at hl; subst hl
   exact ⟨fun k hk => by simp [key1] at hk; exact .inr ⟨_, List.mem_singleton.2 rfl, hk⟩, fun _ k hk => by simp [ybn] at hk; exact .inr ⟨_, List.mem_singleton.2 rfl, hk⟩⟩
 | rwn s c hr h hx => exact no rfl
 | px s c off hr =>
   cases hl
   exact ⟨fun k hk => by simp [key1] at hk; exact .inr ⟨_, List.mem_singleton.2 rfl, hk⟩, fun _ k hk => by simp [ybn] at hk; exact .inr ⟨_, List.mem_singleton.2 rfl, hk⟩⟩
 | pr e s c i of hr hx =>
   cases hl
   exact ⟨fun k hk => by simp [key1] at hk; exact .inr ⟨_, List.mem_singleton.2 rfl, hk⟩, fun _ k hk => by simp [ybn] at hk; exact .inr ⟨_, List.mem_singleton.2 rfl, hk⟩⟩
 | ep e l i of xs hx => exact no rfl
 | gs l i xs hx => exact no rfl
 | nptr => exact no rfl
 | fn f a c a' c' _ _ _ _ => exact ⟨.nil, fun _ => .nil⟩
 | fv ps rs F v h hv => exact no (by rw [<- yfe, hv]; exact h.1)
 | yl r => exact no rfl
 | cn id u v h hn hv => exact absurd rfl (hc id u)
theorem yg5 {f : TV K → Option (List (Nat × Nat))} {g : AV → List Key} (hf : ∀ u v l, TR P C ts χ u v → f u = some l → LeK (g v) l) : ∀ (us : List (TV K)) (vs : List AV) (l : List (Nat × Nat)), TL P C ts χ us vs → tkys ts f us = some l → LeK (vs.flatMap g) l
 | [], vs, l, t, h => by
   have : vs = [] := List.eq_nil_of_length_eq_zero t.1
   subst this; exact .nil
 | u :: us, vs, l, t, h => by
   cases vs with
   | nil => simp [TL] at t
   | cons v vs =>
     simp only [tkys] at h
     split at h
     ·rename_i a b h1 h2
      cases h
      rw [List.flatMap_cons]
      exact (hf u v a t.head.1 h1).app (yg5 hf us vs b t.head.2 h2)
     ·cases h
theorem yl3 {u : TV K} {v : AV} {l : List (Nat × Nat)} (h : TR P C ts χ u v) (hl : tky ts u = some l) : LeK (ybn v) l := by
 unfold tky at hl
 split at hl
 ·rename_i cs e
  have hs := h.s
  rw [e] at hs
  obtain ⟨vs, rfl, a, b⟩ := hs.agg'
  exact yg5 (g := key1) (fun u v l h hl => (ypO h hl).1) cs vs l ⟨a, b⟩ hl
 ·rename_i hne
  refine (ypO h hl).2 ?_
  rintro vs rfl
  have hs := h.s
  have hc := h.hascn
  have hdead : u.s ≠ .un := by
   intro e; unfold tky1 at hl; rw [e] at hl; cases hl
  revert hs hc hne hdead
  generalize u.s = w
  intro hne hs hc hdead
  cases hs with
  | un v => exact hdead rfl
  | agg us vs _ _ => exact hne _ rfl
  | rwd s c v hr h ho => cases ho
  | fv ps rs F v h hv => obtain ⟨_, _, h1, _⟩ := h; rw [<- hv] at h1; cases h1
  | cn id u v h hn hv => exact hc _ _ rfl
theorem yra {u : AOp} (hγ : GM P C R ts χ ds) {l : List (Nat × Nat)} (h : tkys ts (tky ts) ((opds u).map (tea ts.fr)) = some l) : LeK ((opds u).flatMap fun x => ybn (ev (lkF ds.fr) x)) l := by
 have := yg5 (g := ybn) (fun u v l h hl => yl3 h hl) _ _ l (TL.tea hγ (opds u)) h
 rw [List.flatMap_map] at this
 exact this
theorem LeF.skip : LeF yfr ⟨[], []⟩ := ⟨fun k h => (by cases h), fun q h => (by cases h), rfl, fun s h => (by cases h)⟩
variable {LD : List (AO × List Nat)} {QD : St -> Prop} {i : Nat} {acc : List Foot}
theorem yr3 {o : AO} {fre : List Nat} {f : FuncId} {vs vs' : List AV} {kl : List (Nat × Nat)} {d1 : DS} {v : AV} (e0 : LD[i]? = some (o, fre)) (hg : gok o.guard ds.fr = true) (hc : yrg P o ds f vs vs' kl d1 v)
  (hf : yim (ycp o.op (toD ds) ⟨v, kl.map (fun k => (k, none)), [], none⟩) acc fre) (k : DD P LD (i + 1) (acc ++ [ycp o.op (toD ds) ⟨v, kl.map (fun k => (k, none)), [], none⟩]) QD (d1.put o.dst v)) : DD P LD i acc QD ds := by
 refine yqN e0 hg fun hk => ?_
 have hmst : REff.mst ⟨v, kl.map (fun k => (k, none)), [], none⟩ (toD ds) = toD d1 ∧ yjA P (.f f) vs (toD ds) ⟨v, kl.map (fun k => (k, none)), [], none⟩ ∧ DOk d1 := by
  rcases hc.way with hw | ⟨rfl, rfl, rfl, hfl⟩
  ·obtain ⟨a1, a2, a3, _⟩ := yiO vs ds vs' kl d1 hk hw
   have hmst : REff.mst ⟨v, kl.map (fun k => (k, none)), [], none⟩ (toD ds) = toD d1 := by
    have h1 : (pubL vs (toD ds)).2 = (toD ds).kills (pkL vs (toD ds)) := yqq vs (toD ds)
    rw [a1, a2] at h1
    simp only at h1
    rw [h1]
    unfold REff.mst St.kills REff.cntF
    simp only [St.mk.injEq, ygy, true_and, and_true]
    funext q
    have : ∀ (l : List (Nat × Nat)) (M : Key → Option Blk), List.foldl (fun M (p : Key × Option Blk) => updK M p.1 p.2) M ((l.map fun k => (k, (none : Option Blk))).map fun p => (Key.l p.1.1 p.1.2, p.2)) = l.foldl (fun M k => updK M (.l k.1 k.2) none) M := by
     intro l
     induction l with
     | nil => intro M; rfl
     | cons a l ih => intro M; simp only [List.map_cons, List.foldl_cons]; exact ih _
    show (List.foldl (fun M (p : Key × Option Blk) => updK M p.1 p.2) (toD ds).M ((kl.map fun k => (k, (none : Option Blk))).map fun p => (Key.l p.1.1 p.1.2, p.2))) q = _
    rw [this]
   exact ⟨hmst, .inl ⟨rfl, by rw [a2], yip a1 hc.nl hc.pure ⟨rfl, hmst.symm⟩⟩, a3⟩
  ·exact ⟨ydP v _, .inr (.inl ⟨rfl, f, v, rfl, hc.nl, fun H n => yaP.dwkA (hc.pure H n), hfl, rfl⟩), hk⟩
 obtain ⟨hmst, hE, a3⟩ := hmst
 have fin : ∀ K : REff → Prop, K ⟨v, kl.map (fun k => (k, none)), [], none⟩ → eop (fun _ => false) P o.op o.dst (toD ds) K := by
  intro K hK
  rcases hc.ho with ⟨args, h1, h2⟩ | ⟨x, args, first, cap, h1, h2, h3⟩
  ·rw [h1]; simp only [eop]; rw [yco, h2]; exact ⟨_, hE, hK⟩
  ·rw [h1]; simp only [eop]; rw [yco, h2]; simp only; rw [h3]; exact ⟨_, hE, hK⟩
 refine fin _ ⟨hf, ?_⟩
 rw [show REff.app ⟨v, kl.map (fun k => (k, none)), [], none⟩ o.dst (toD ds) = toD (d1.put o.dst v) by unfold REff.app; rw [hmst, ybY]]
 exact k a3.put
theorem yu8 {o : AO} {fre : List Nat} {e : REff} {ds' : DS} (e0 : LD[i]? = some (o, fre)) (hg : gok o.guard ds.fr = true) (h : Eff o.op o.dst ds e ds') (hc : isMC o.op = false) (hf : yim (ycp o.op (toD ds) e) acc fre) (k : DD P LD (i + 1) (acc ++ [ycp o.op (toD ds) e]) QD ds') : DD P LD i acc QD ds := by
 refine yqN e0 hg fun hk => ?_
 obtain ⟨h1, h2, h3⟩ := h
 have hE : ∀ K : REff → Prop, K e → eop (fun _ => false) P o.op o.dst (toD ds) K := by
  intro K hK
  cases hop : o.op <;> rw [hop] at h1 hc <;> first | (cases hc; done) | (simp only [eop]; rw [h1]; exact hK)
 refine hE _ ⟨hf, ?_⟩
 rw [h2]
 exact k h3
theorem yhR : ∀ {us : List (TV K)} {q : Nat × Nat}, (∃ u ∈ us, u.s = .rw q.1 q.2) → q ∈ ymE us
 | [], _, ⟨u, h, _⟩ => by cases h
 | v :: us, q, ⟨u, h, e⟩ => by
   simp only [ymE]
   rcases List.mem_cons.1 h with rfl | h
   ·rw [e]; simp
   ·have := yhR ⟨u, h, e⟩
    split
    ·exact List.mem_cons_of_mem _ this
    ·exact this
theorem yh0 {q : Nat × Nat} : ∀ {us : List (TV K)} {l : List (Nat × Nat)}, tkys ts (tky ts) us = some l → (∃ u ∈ us, u.s = .rw q.1 q.2) → q ∈ l
 | [], _, _, ⟨u, h, _⟩ => by cases h
 | v :: us, l, h, ⟨u, hu, e⟩ => by
   simp only [tkys] at h
   split at h
   ·rename_i a b h1 h2
    cases h
    rcases List.mem_cons.1 hu with rfl | hu
    ·refine List.mem_append_left _ ?_
     unfold tky at h1
     rw [e] at h1
     simp only at h1
     unfold tky1 at h1
     rw [e] at h1
     simp only at h1
     split at h1
     ·cases h1; simp
     ·cases h1
    ·exact List.mem_append_right _ (yh0 h2 ⟨u, hu, e⟩)
   ·cases h
theorem ytG (hC : CxOk P C) {F : Cf K} (hF : F.C = C) (hS : SsOk P C F.S) (hL : SLOk P C F.L) {o : AO} {fre : List Nat} {tacc : List TFt} {Rn : List TFt → TS K → Prop} (e0 : LD[i]? = some (o, fre)) (hγ : GM P C R ts χ ds) (hk : DOk ds) (hg : gok o.guard ds.fr = true) (ha : LeA acc tacc) (h : yoZ F o fre tacc Rn ts)
  (k : ∀ acc' tacc' ts' χ' ds', LeA acc' tacc' -> GM P C R ts' χ' ds' -> DOk ds' -> Rn tacc' ts' -> ts'.rg = ts.rg -> DD P LD (i + 1) acc' QD ds') : DD P LD i acc QD ds := by
 unfold yoZ at h
 split at h
 rotate_left
 ·exact h.elim
 rename_i t ht
 split at h
 rotate_left
 ·exact h.elim
 rename_i hok
 have calls : ∀ {f : FuncId} {vs vs' : List AV} {kl : List (Nat × Nat)} {d1 : DS} {v : AV} {ts' : TS K} {χ' : Nat → Nat → Bool}, yrg P o ds f vs vs' kl d1 v → GM P C R ts' χ' (d1.put o.dst v) → DOk d1 → Rn (tacc ++ [t]) ts' → ts'.rg = ts.rg → LeK (rkOf o.op (toD ds)) t.rk → (∀ q ∈ kl, q ∈ t.wk) → (∀ q ∈ kl, q ∈ t.rk) → DD P LD i acc QD ds := by
  intro f vs vs' kl d1 v ts' χ' c1 c2 c3 c4 c5 hrk hwk hwr
  have hle : LeF (ycp o.op (toD ds) ⟨v, kl.map (fun k => (k, none)), [], none⟩) t := by
   refine ⟨fun k hk' => ?_, fun q hq => hwk q ?_, rfl, fun s hs => by cases hs⟩
   ·rcases List.mem_append.1 hk' with hq | hq
    ·exact hrk k hq
    ·have hic : yio o.op = true := by rcases c1.ho with ⟨args, h1, _⟩ | ⟨x, args, first, cap, h1, _⟩ <;> rw [h1] <;> rfl
     rw [hic] at hq
     obtain ⟨p, hp, rfl⟩ := List.mem_map.1 hq
     obtain ⟨q, hq', rfl⟩ := List.mem_map.1 hp
     exact .inr ⟨q, hwr q hq', rfl⟩
   have hq' : q ∈ (kl.map fun k => (k, (none : Option Blk))).map (·.1) := hq
   simpa using hq'
  exact yr3 e0 hg c1 (ykI hle ha fre hok) (k _ _ ts' χ' _ (ha.snoc hle) c2 c3.put c4 c5)
 have callL : ∀ {f : FuncId} {us : List (TV K)} {vs : List AV} {sp : Sl K} {env : List (DV K)} {M : RM} {l : List (Nat × Nat)}, TL P C ts χ us vs → CalO o ds f vs → yie C ts f us F.L = some (sp, env, M) → yit C F.S true ts o.dst sp env M us (Rn (tacc ++ [t])) → LeK (rkOf o.op (toD ds)) l → t = ⟨l ++ plcs sp o.dst M, plcs sp o.dst M⟩ → DD P LD i acc QD ds := by
  intro f us vs sp env M l ht ho hp h hrk het
  refine ysl hC hS hL e0 hg hγ hk ht ho hp h fun e ts' χ' ds' a1 a2 a3 a4 a5 a6 a7 => ?_
  have hle : LeF (ycp o.op (toD ds) e) t := by
   rw [het]
   refine ⟨fun k hk' => ?_, fun q hq => a1 q hq, by show e.H.isSome = false; rw [a2]; rfl, fun s hs => a3 s hs⟩
   rcases List.mem_append.1 hk' with hq | hq
   ·rcases hrk k hq with r | ⟨r, hr, e⟩
    ·exact .inl r
    ·exact .inr ⟨r, List.mem_append_left _ hr, e⟩
   ·have hic : yio o.op = true := by rcases ho with ⟨args, h1, _⟩ | ⟨x, args, first, cap, h1, _⟩ <;> rw [h1] <;> rfl
    rw [hic] at hq
    obtain ⟨p, hp, rfl⟩ := List.mem_map.1 hq
    exact .inr ⟨p.1, List.mem_append_right _ (a1 p.1 (List.mem_map_of_mem (f := (·.1)) hp)), rfl⟩
  exact ⟨ykI hle ha fre hok, k _ _ ts' χ' ds' (ha.snoc hle) a4 a5 a6 a7⟩
 have rest : yni o.op = true → DD P LD i acc QD ds := by
  intro hn
  obtain ⟨e, ds', ts', χ', h1, h2, h3, h4, h5, h6⟩ := yol hC hγ hk hF hn h
  have hc : isMC o.op = false := by cases hop : o.op <;> rw [hop] at hn <;> first | rfl | (cases hn; done)
  have hle : LeF (ycp o.op (toD ds) e) t := by
   by_cases hmv : ∃ x, o.op = .mv x
   ·obtain ⟨x, hop⟩ := hmv
    unfold tft at ht
    rw [hop] at ht
    cases ht
    have hE : effA (fun _ => false) o.op o.dst (toD ds) = some e := h1.1
    rw [hop] at hE
    simp only [effA, pval, effP, Option.map_some, Option.some.injEq] at hE
    subst hE
    rw [hop]
    exact ⟨fun k h => (by cases h), fun q h => (by cases h), rfl, fun s h => (by cases h)⟩
   have ht' : ∃ l, tkys ts (tky ts) ((opds o.op).map (tea ts.fr)) = some l ∧ t = ⟨l, twk' ts o⟩ := by
    unfold tft at ht
    cases hop : o.op <;> rw [hop] at ht hn <;> first | (cases hn; done) | skip
    case mv x => exact absurd ⟨x, hop⟩ hmv
    all_goals
     simp only at ht
     split at ht
     ·rename_i l hl; cases ht; exact ⟨l, hl, rfl⟩
     ·cases ht
   obtain ⟨l, hl, rfl⟩ := ht'
   have hrk := yra hγ hl
   have hnc : yio o.op = false := by cases hop : o.op <;> rw [hop] at hn <;> first | rfl | (cases hn; done)
   refine ⟨?_, fun q hq => ?_, by show e.H.isSome = false; rw [h3]; rfl, fun s hs => ?_⟩
   rotate_right
   ·have hE : effA (fun _ => false) o.op o.dst (toD ds) = some e := by cases hop : o.op <;> rw [hop] at hn <;> first | (cases hn; done) | (rw [← hop]; exact h1.1)
    obtain ⟨al, rfl⟩ := ysr hE hs
    show _ ∈ twk' ts o
    unfold twk'
    cases hop : o.op <;> rw [hop] at al hn <;> first | (cases al; done) | (cases hn; done) | simp
   ·show LeK (rkOf o.op (toD ds) ++ _) l
    rw [hnc]
    simp only [List.append_nil]
    have : rkOf o.op (toD ds) = (opds o.op).flatMap fun x => ybn (ev (lkF ds.fr) x) := by
     cases hop : o.op <;> rw [hop] at hn <;> first | rfl | (cases hn; done) | skip
     case mv x => exact absurd ⟨x, hop⟩ hmv
    rw [this]; exact hrk
   ·have hq' : q ∈ e.mem.map (·.1) := hq
    obtain ⟨x, hx, rfl⟩ := List.mem_map.1 hq'
    exact h2 x hx
  exact yu8 e0 hg h1 hc (ykI hle ha fre hok) (k _ _ ts' χ' ds' (ha.snoc hle) h4 h1.ok h5 h6)
 cases ho : o.op with
 | call f args =>
   have h0 := h
   unfold step at h; rw [ho] at h
   simp only at h
   unfold tft at ht; rw [ho] at ht
   simp only at ht
   split at ht
   ·rename_i l hl
    split at h
    ·rename_i sp env M hp
     rw [hp] at ht
     cases ht
     rw [hF] at h hp
     have hrk := yg5 (g := ybn) (fun u v l h hl => yl3 h hl) _ _ l (TL.tea hγ args) hl
     rw [List.flatMap_map] at hrk
     exact callL (TL.tea hγ args) (.inl ⟨args, ho, rfl⟩) hp h (by rw [ho]; exact hrk) rfl
    rename_i hp
    rw [hp] at ht
    rw [hF] at h ht
    cases ht
    obtain ⟨vs', kl, d1, v, ts', χ', c1, c2, c3, c4, c5, c7, c6⟩ := ykt hC hS hγ hk (TL.tea hγ args) (.inl ⟨args, ho, rfl⟩) h
    have hrk := yg5 (g := ybn) (fun u v l h hl => yl3 h hl) _ _ l (TL.tea hγ args) hl
    rw [List.flatMap_map] at hrk
    refine calls c1 c2 c3 c4 c5 (by rw [ho]; exact hrk) (fun q hq => ?_) ?_
    cases hfl : flS C F.S f with
    | true => rw [c7 hfl] at hq; cases hq
    | false => exact yhR (c6 q hq)
    ·exact fun q hq => yh0 hl (c6 q hq)
   ·cases ht
 | calv x args =>
   unfold step at h; rw [ho] at h
   simp only at h
   unfold tft at ht; rw [ho] at ht
   simp only at ht
   split at ht
   rotate_left
   ·cases ht
   rename_i ca l hca hl
   have hrk := yg5 (g := ybn) (fun u v l h hl => yl3 h hl) _ _ l (TL.tea hγ args) hl
   rw [List.flatMap_map] at hrk
   have hx := hγ.tev x
   split at h
   ·rename_i f a c ex
    rw [ex] at hx
    rw [ex] at ht
    simp only at ht
    generalize hv : ev (lkF ds.fr) x = w at hx
    cases hx with
    | fn _ _ _ a' c' ha' hc' h1 h2 =>
      have ta : TL P C ts χ a a' := ⟨ha', h1⟩
      have tc : TL P C ts χ c c' := ⟨hc', h2⟩
      have hrk' : LeK (rkOf o.op (toD ds)) (ca ++ l) := by
       rw [ho]
       show LeK (yoW (ev (lkF ds.fr) x) ++ args.flatMap fun y => ybn (ev (lkF ds.fr) y)) _
       rw [hv]
       refine LeK.app ?_ hrk
       unfold ytu at hca
       have ex' : (tea ts.fr x).s = .fn f a c := ex
       rw [ex'] at hca
       have := yg5 (g := ybn) (fun u v l h hl => yl3 h hl) _ _ ca (ta.app tc) hca
       rw [List.flatMap_append] at this
       exact this
      split at h
      ·rename_i sp env M hp
       rw [hp] at ht
       cases ht
       rw [hF] at h hp
       exact callL ((ta.app (TL.tea hγ args)).app tc) (.inr ⟨x, args, a', c', ho, hv, rfl⟩) hp h hrk' rfl
      rename_i hp
      rw [hp] at ht
      cases ht
      rw [hF] at h
      obtain ⟨vs', kl, d1, v, ts', χ', c1, c2, c3, c4, c5, _, c6⟩ := ykt hC hS hγ hk ((ta.app (TL.tea hγ args)).app tc) (.inr ⟨x, args, a', c', ho, hv, rfl⟩) h
      refine calls c1 c2 c3 c4 c5 hrk' (fun q hq => yhR (c6 q hq)) (fun q hq => by
       obtain ⟨u, hu, e⟩ := c6 q hq
       have hca' : tkys ts (tky ts) (a ++ c) = some ca := by
        unfold ytu at hca
        rw [show (tea ts.fr x).s = .fn f a c from ex] at hca
        exact hca
       rcases List.mem_append.1 hu with hu | hu
       ·rcases List.mem_append.1 hu with hu | hu
        ·exact List.mem_append_left _ (yh0 hca' ⟨u, List.mem_append_left _ hu, e⟩)
        ·exact List.mem_append_right _ (yh0 hl ⟨u, hu, e⟩)
       ·exact List.mem_append_left _ (yh0 hca' ⟨u, List.mem_append_right _ hu, e⟩))
   ·rename_i ps rs V ex
    rw [ex] at hx
    rw [ex] at ht
    cases ht
    generalize hv : ev (lkF ds.fr) x = w at hx
    cases hx with
    | fv _ _ _ _ hV hv' =>
      rw [hF] at h
      obtain ⟨f, vs, vs', kl, d1, v, ts', χ', c1, c2, c3, c4, c5, c6⟩ := yov hC hγ hk hV ho hv hv' (TL.tea hγ args) h
      refine calls c1 c2 c3 c4 c5 ?_ (fun q hq => yhR (c6 q hq)) (fun q hq => List.mem_append_right _ (yh0 hl (c6 q hq)))
      rw [ho]
      show LeK (yoW (ev (lkF ds.fr) x) ++ args.flatMap fun y => ybn (ev (lkF ds.fr) y)) _
      rw [hv]
      refine LeK.app ?_ hrk
      obtain ⟨g1, _, _, f', a, c, g4, _⟩ := hV
      rw [<- hv', yfe] at g1
      cases w with
      | fn f0 a0 c0 =>
        simp only [AV.noL, Bool.and_eq_true] at g1
        intro q hq
        simp only [yoW, List.mem_append, List.mem_flatMap] at hq
        rcases hq with ⟨y, hy, hq⟩ | ⟨y, hy, hq⟩
        ·rcases (yk1 (ygt.1 g1.1 y hy)).1 q hq with r | ⟨r, hr, _⟩
         ·exact .inl r
         ·cases hr
        ·rcases (yk1 (ygt.1 g1.2 y hy)).1 q hq with r | ⟨r, hr, _⟩
         ·exact .inl r
         ·cases hr
      | _ => exact .nil
   ·exact absurd h (by simp)
   ·exact h.elim
 | _ => exact rest (by rw [ho]; rfl)
theorem ypG (hC : CxOk P C) {F : Cf K} (hF : F.C = C) (hS : SsOk P C F.S) (hL : SLOk P C F.L) {X : TS K → Prop} {Q : KS → Prop} : ∀ (L' : List (AO × List Nat)) (i : Nat) (acc : List Foot) (tacc : List TFt) (ts : TS K) (χ : Nat → Nat → Bool) (ds : DS), LD.drop i = L' → LeA acc tacc → GM P C R ts χ ds → DOk ds → tdrw F L' tacc ts X →
  (∀ ts' χ' ds', GM P C R ts' χ' ds' -> DOk ds' -> X ts' -> ExtR ts.rg ts'.rg -> RE B N (toD ds') Q) -> DD P LD i acc (fun S => RE B N S Q) ds
 | [], i, acc, tacc, ts, χ, ds, e, ha, hγ, hk, h, fin => by
   have _ := (inferInstance : GB P B)
   intro _
   rw [e]
   exact fin ts χ ds hγ hk h .refl
 | (o, fre) :: r, i, acc, tacc, ts, χ, ds, e, ha, hγ, hk, h, fin => by
   have e0 : LD[i]? = some (o, fre) := by
    have := congrArg (·[0]?) e
    simpa using this
   have e1 : LD.drop (i + 1) = r := by rw [<- List.drop_drop, e]; rfl
   have next : ∀ {ts2 : TS K} {χ2 : Nat → Nat → Bool} {ds2 : DS} {acc2 : List Foot} {tacc2 : List TFt}, LeA acc2 tacc2 → GM P C R ts2 χ2 ds2 → DOk ds2 → tdrw F r tacc2 ts2 X → ts2.rg = ts.rg → DD P LD (i + 1) acc2 (fun S => RE B N S Q) ds2 := by
    intro ts2 χ2 ds2 acc2 tacc2 la a b c d
    exact ypG hC hF hS hL r (i + 1) acc2 tacc2 ts2 χ2 ds2 e1 la a b c fun ts3 χ3 ds3 p q s t => fin ts3 χ3 ds3 p q s (by rw [<- d]; exact t)
   have run : ∀ {ts0 : TS K} {ds0 : DS}, GM P C R ts0 χ ds0 → DOk ds0 → ts0.rg = ts.rg → gok o.guard ds0.fr = true → yoZ F o fre tacc (fun acc t => tdrw F r acc t X) ts0 → DD P LD i acc (fun S => RE B N S Q) ds0 := by
    intro ts0 ds0 hγ0 hk0 hr hg hst
    exact ytG hC hF hS hL e0 hγ0 hk0 hg ha hst fun acc2 tacc2 ts2 χ2 ds2 la a b c d => next la a b c (d.trans hr)
   have skip : ∀ {ts0 : TS K} {ds0 : DS}, GM P C R ts0 χ ds0 → DOk ds0 → ts0.rg = ts.rg → gno o.guard ds0.fr = true → tdrw F r (tacc ++ [⟨[], []⟩]) (ts0.put o.dst (.tup [])) X → DD P LD i acc (fun S => RE B N S Q) ds0 := by
    intro ts0 ds0 hγ0 hk0 hr hg hst
    exact ywj e0 hg (next (ha.snoc LeF.skip) (hγ0.put (.tup [] [] rfl (fun j u v h => by simp at h))) hk0.put hst ((yb4 _ _ _).trans hr))
   rw [tdrw] at h
   unfold tdg tgd at h
   split at h
   ·rename_i hg
    exact run hγ hk rfl (by rw [hg]; rfl) h
   ·rename_i d b hg
    have hd := (hγ.fr d).s
    split at h
    ·rename_i c hc
     rw [hc] at hd
     have hv := hd.lbi
     split at h
     ·rename_i hcb
      have : c = b := by cases c <;> cases b <;> first | rfl | cases hcb
      subst this
      exact run hγ hk rfl (yj8 hg hv) h
     ·rename_i hcb
      exact skip hγ hk rfl (yj7 hg hv (by intro q; subst q; cases c <;> cases hcb)) h
    ·rename_i c hc
     rw [hc] at hd
     have hv := hd.bli
     obtain ⟨h1, h2⟩ := h
     refine yuO hv (fun hb => ?_) (fun hb => ?_)
     ·have hh := h1 hb
      have g1 := hγ.put (d := some d) (TR.lb (P := P) (C := C) (ts := ts) (χ := χ) true)
      have v1 : lkF (ds.put (some d) (.bl true)).fr d = .bl true := by show lkF ((d, .bl true) :: ds.fr) d = _; rw [ya7]; simp
      cases b with
      | true => exact run g1 hk.put (yb4 _ _ _) (yj8 hg v1) hh
      | false => exact skip g1 hk.put (yb4 _ _ _) (yj7 hg v1 (by simp)) hh
     ·have hh := h2 hb
      have g1 := hγ.put (d := some d) (TR.lb (P := P) (C := C) (ts := ts) (χ := χ) false)
      have v1 : lkF (ds.put (some d) (.bl false)).fr d = .bl false := by show lkF ((d, .bl false) :: ds.fr) d = _; rw [ya7]; simp
      cases b with
      | true => exact skip g1 hk.put (yb4 _ _ _) (yj7 hg v1 (by simp)) hh
      | false => exact run g1 hk.put (yb4 _ _ _) (yj8 hg v1) hh
    ·rename_i hc
     rw [hc] at hd
     obtain ⟨vs, hv, hl, _⟩ := hd.tup'
     have : vs = [] := List.eq_nil_of_length_eq_zero hl
     subst this
     exact skip hγ hk rfl (by rw [hg]; simp only [gno, hv]) h
    ·exact h.elim
theorem yt2 (hB : ycJ B) (hC : CxOk P C) {F : Cf K} (hF : F.C = C) (L : List (AO × List Nat)) : REk P C R B N ts (frzD F L ts) ∧ (frzD F L ts).rg = ts.rg := by
 have _ := (inferInstance : GB P B)
 unfold frzD
 rw [hF]
 generalize (L.flatMap fun p => (frzO F ts.fr p.1.op).flatMap fun x => match x with | .t n => [srcD L 9 n] | .c _ => []) = l
 induction l generalizing ts with
 | nil => exact ⟨.refl, rfl⟩
 | cons n l ih =>
   obtain ⟨a, b⟩ := ih (ts := fzA C 9 [lkT ts.fr n] ts)
   exact ⟨(yoz hB hC _ _ _).trans a, by rw [List.foldl_cons, b, ypt]⟩
end
section
theorem yuT {Q : AEx → TS K → Prop} {e : AEx} {rg : List (Nat × TV K)} (hB : ycJ B) (hC : CxOk P C) (hγ : GM P C R ts χ ds) (hk : DOk ds) (hx : ExtR rg ts.rg) (h : Q e (er ts)) : RE B N (toD ds) (Kq P C R rg Q e) :=
 have _ := (inferInstance : GB P B)
 (yto (N := N) hB hC χ ds hk hγ).mono fun ks ⟨h1, ξ, h2⟩ => ⟨h1, er ts, ξ, h2, hx, h⟩
theorem ytS (C : Cx K) (fr : List (Nat × TV K)) : ∀ (l : List (Nat × Kd)) (ts : TS K), (fzT C fr l ts).h = ts.h
 | [], _ => rfl
 | (t, k) :: r, ts => by
   cases k with
   | sl e =>
     simp only [fzT]
     rw [ytS C fr r]
     split
     ·exact fz_h C ts _
     ·rfl
   | _ => simp only [fzT]; exact ytS C fr r ts
theorem ymb {hh : List RS} (hR : ∀ H n, R ts.h H n → R hh H n) (hB : ycJ B) (hC : CxOk P C) {τ : Tm} {rg : List (Nat × TV K)} {J : List (DV K) → Prop} {ks : KS} (hk : KOk ks) (hγ : GM P C R ts χ (ofK ks)) (hx : ExtR rg ts.rg) (h : rdJ C τ ts J) :
  RE B N (toS ks) fun ks' => ∃ env, J env /\ KOk ks' /\ ∃ ξ, GM P C R (bdT C τ rg hh env) ξ (ofK ks') := by
 have _ := (inferInstance : GB P B)
 unfold rdJ at h
 split at h
 ·rename_i env he
  have h1 := yqP (R := R) (N := N) hB hC ts.fr τ.ks ts
  have h2 := (ywa (R := R) (N := N) (rg := rg) hB hC (by rw [yq1]; exact hx) he hh (by rw [ytS]; exact hR)).k
  exact ((h1.trans h2) χ ks hk hγ).mono fun ks' ⟨a, b⟩ => ⟨env, h, a, b⟩
 ·exact h.elim
theorem yuw {a b : RS} (h : eqRS a b = true) : a = b := by
 cases a <;> cases b <;> first | rfl | (cases h; done) | (rw [nbeq.1 h])
theorem ysP : ∀ {a b : List RS}, eqH a b = true → a = b
 | [], [], _ => rfl
 | [], _ :: _, h => by cases h
 | _ :: _, [], h => by cases h
 | x :: a, y :: b, h => by
   simp only [eqH, Bool.and_eq_true] at h
   rw [yuw h.1, ysP h.2]
theorem ypY {C : Cx K} {τ : Tm} {h : List RS} {ts : TS K} {J : List (DV K) → Prop} (q : rdH C τ h ts J) : ts.h = h ∧ rdJ C τ ts J := by
 unfold rdH at q
 split at q
 ·rename_i e; exact ⟨ysP e, q⟩
 ·exact q.elim
theorem yfo {c : yd7} {Q Q' : AEx -> KS -> Prop} {ks : KS} (h : WK P B N ro c Q ks) (hq : ∀ e ks, Q e ks -> Q' e ks) : WK P B N ro c Q' ks := have _ := (inferInstance : GB P B); fun x hx a G hR => wpIn_mono (h x hx a G hR) fun _ _ _ hp => yiI.mono hq hp
theorem yvA (C : Cx K) (τ : Tm) (rg : List (Nat × TV K)) (hh : List RS) (env : List (DV K)) : (bdT C τ rg hh env).rg = rg := rfl
def IOk (P : Program) (I : List (Nat × AFn)) : Prop := ∀ f c, lkI I f = some c -> trF P f = some c
theorem yps (τ : Tm) (ts : TS K) : (tagT τ ts).h = ts.h := (yiK τ.bx _).2.2.trans (ykL τ.ks ts).2.2
theorem YOk.none {B : Base} {N : Nat} {ro : Option Nat} {R : RR K} {rY : Nat} : YOk P C R B N ro rY none := fun y h => by cases h
theorem yhq {g : Nat → Option Nat} (hg : injx g) {s t : Nat} (h : g s = some t) : ∀ l : List (Nat × TV K), lkT (reix g l) t = lkT l s
 | [] => rfl
 | p :: r => by
   have ih := yhq hg h r
   show lkT (match g p.1 with | some t => (t, p.2) :: reix g r | none => reix g r) t = lkT ((p.1, p.2) :: r) s
   rw [ybW]
   by_cases e : p.1 = s
   ·rw [if_pos e, e, h]; simp only; rw [ybW, if_pos rfl]
   ·rw [if_neg e]
    split
    ·rename_i u hu
     rw [ybW, if_neg (fun q => e (hg _ _ _ hu (by rw [q]; exact h)))]; exact ih
    ·exact ih
theorem yfb {g : Nat → Option Nat} {t : Nat} (h : ∀ s, g s ≠ some t) : ∀ l : List (Nat × TV K), lkT (reix g l) t = .un
 | [] => rfl
 | p :: r => by
   show lkT (match g p.1 with | some t => (t, p.2) :: reix g r | none => reix g r) t = _
   split
   ·rename_i u hu
    rw [ybW, if_neg (fun q => h p.1 (by rw [hu, q]))]; exact yfb h r
   ·exact yfb h r
def memV : List (Nat × TV K) → Nat → Bool
 | [], _ => false
 | p :: r, t => Nat.beq p.1 t || memV r t
theorem yp1 (a b : List (Nat × TV K)) (t : Nat) : lkT (a ++ b) t = if memV a t = true then lkT a t else lkT b t := by
 induction a with
 | nil => rfl
 | cons p a ih =>
   have hm : memV (p :: a) t = (Nat.beq p.1 t || memV a t) := rfl
   show lkT ((p.1, p.2) :: (a ++ b)) t = if _ then lkT ((p.1, p.2) :: a) t else _
   rw [ybW, ybW, ih, hm]
   by_cases e : p.1 = t
   ·rw [if_pos e, if_pos e, nbeq.2 e]; rfl
   ·rw [if_neg e, if_neg e]
    have : Nat.beq p.1 t = false := by
     cases h : Nat.beq p.1 t with
     | false => rfl
     | true => exact absurd (nbeq.1 h) e
    rw [this, Bool.false_or]
theorem yjo {g : Nat → Option Nat} {t : Nat} (h : ∀ s, g s ≠ some t) : ∀ l : List (Nat × TV K), memV (reix g l) t = false
 | [] => rfl
 | p :: r => by
   simp only [reix]
   split
   ·rename_i u hu
    have hb : Nat.beq u t = false := by
     cases q : Nat.beq u t with
     | false => rfl
     | true => exact absurd (hu.trans (congrArg some (nbeq.1 q))) (h p.1)
    show (Nat.beq u t || memV (reix g r) t) = false
    rw [hb, yjo h r]; rfl
   ·exact yjo h r
theorem yfM {g : Nat → Option Nat} (hg : injx g) {s t : Nat} (h : g s = some t) : ∀ l : List (Nat × TV K), memV (reix g l) t = false → lkT l s = .un
 | [], _ => rfl
 | p :: r, hm => by
   simp only [reix] at hm
   show lkT ((p.1, p.2) :: r) s = _
   rw [ybW]
   by_cases e : p.1 = s
   ·rw [e, h] at hm
    simp [memV, nbeq.2] at hm
   ·rw [if_neg e]
    split at hm
    ·simp only [memV, Bool.or_eq_false_iff] at hm; exact yfM hg h r hm.2
    ·exact yfM hg h r hm
theorem yqs : ∀ (us : List (TV K)) (i t : Nat), lkT (zipT us i) t = if i ≤ t then (us[t - i]?).getD .un else .un
 | [], i, t => by simp [zipT, lkT]
 | u :: r, i, t => by
   simp only [zipT]
   rw [ybW, yqs r (i + 1) t]
   by_cases h : i = t
   ·subst h; simp
   ·rw [if_neg h]
    by_cases h2 : i <= t
    ·have h3 : i + 1 ≤ t := by omega
     rw [if_pos h2, if_pos h3, show t - i = (t - (i + 1)) + 1 from by omega, List.getElem?_cons_succ]
    ·have h3 : ¬ i + 1 ≤ t := by omega
     rw [if_neg h2, if_neg h3]
theorem ynR : ∀ (us : List (TV K)) (i t : Nat), memV (zipT us i) t = decide (i ≤ t ∧ t < i + us.length)
 | [], i, t => by simp [zipT, memV]
 | u :: r, i, t => by
   simp only [zipT, memV, ynR r (i + 1) t, List.length_cons]
   by_cases h : i = t
   ·subst h; simp [nbeq.2]
   ·have hb : Nat.beq i t = false := by
     cases q : Nat.beq i t with
     | false => rfl
     | true => exact absurd (nbeq.1 q) h
    rw [hb, Bool.false_or]
    simp only [decide_eq_decide]; omega
theorem GM.frame {ks : KS} (h : GM P C R ts χ (ofK ks)) {R' : RR K} {fr' : List (Nat × TV K)} {rg' : List (Nat × TV K)} {h' : List RS} {frk' : List (Nat × AV)} {H' : Hp} {n' : Nat} (hx : ExtR ts.rg rg') (hL : R'.L = R.L)
  (hfr : ∀ t, TR P C ⟨fr', ts.od, ts.nw, rg', h'⟩ χ (lkT fr' t) (lkF frk' t)) (hp : R' h' H' n') : GM P C R' ⟨fr', ts.od, ts.nw, rg', h'⟩ χ (ofK ⟨frk', ks.mem, H', n'⟩) := by
 have hm : Mono ts ⟨fr', ts.od, ts.nw, rg', h'⟩ χ χ := ⟨hx, fun _ _ q => q, fun _ _ _ => .inr ⟨rfl, rfl⟩⟩
 refine ⟨hfr, fun s c b hb hx => ?_, h.vi, h.nw, hp, fun s b q e => by rw [hL]; exact h.lv s b q e⟩
 obtain ⟨kb, h1, h2⟩ := h.mb s c b hb hx
 exact ⟨kb, h1, h2.mono hm⟩
theorem yi9 {id r : Nat} {u : TV K} {v : AV} (h : isY id u = true) (ht : TR P C ts χ u v) (hr : lkR ts.rg id = some (.yl r)) : v = .yld r := by
 unfold isY at h
 split at h
 ·rename_i i w
  have := nbeq.1 h; subst this
  cases ht with
  | cn _ _ _ h1 _ h2 => rw [hr] at h1; cases h1; cases h2; rfl
 ·cases h
def lsR : RS → LS
 | .rdy => .ready
 | .busy => .busy
 | .ret => .ret
 | .ex i => .exit i
def RR.push (R : RR K) (r : Nat) (f : LS -> Blk) : RR K := ⟨fun h H n => ∃ st h', h = st :: h' /\ H r = some (f (lsR st)) /\ R.R h' (fun o => if o = r then none else H o) n, R.L⟩
theorem RR.push_out {R : RR K} {r : Nat} {f : LS → Blk} {st : RS} {h : List RS} {H : Hp} {n : Nat} (q : R.push r f (st :: h) H n) : H r = some (f (lsR st)) ∧ R.R h (fun o => if o = r then none else H o) n := by
 obtain ⟨st', h', e, a, b⟩ := q
 cases e; exact ⟨a, b⟩
theorem RR.push_set {R : RR K} {r : Nat} {f : LS → Blk} {st st' : RS} {h : List RS} {H : Hp} {n : Nat} (q : R.push r f (st :: h) H n) : R.push r f (st' :: h) (fun o => if o = r then some (f (lsR st')) else H o) n := by
 refine ⟨st', h, rfl, if_pos rfl, ?_⟩
 have : (fun o => if o = r then none else (if o = r then some (f (lsR st')) else H o)) = fun o => if o = r then none else H o := by
  funext o
  by_cases e : o = r
  ·simp [e]
  ·simp [e]
 rw [this]; exact (RR.push_out q).2
theorem yu1 {g : Option (Nat × Bool)} {ds : DS} (hγ : GM P C R ts χ ds) (h : okG g ts.fr = true) : gok g ds.fr = true := by
 unfold okG at h
 split at h
 ·rfl
 ·rename_i d b
  have hd := (hγ.fr d).s
  split at h
  ·rename_i c e; rw [e] at hd; simp only [gok, hd.bli]; exact h
  ·rename_i c e; rw [e] at hd; simp only [gok, hd.lbi]; exact h
  ·cases h
theorem TL.at2 {us : List (TV K)} {vs : List AV} (t : TL P C ts χ us vs) (j : Nat) : TR P C ts χ ((us[j]?).getD .un) ((vs[j]?).getD .un) := by
 cases hu : us[j]? with
 | none => exact .un _
 | some u =>
   have hj : j < vs.length := by rw [t.1]; exact (List.getElem?_eq_some_iff.1 hu).1
   rw [List.getElem?_eq_getElem hj]
   exact t.2 j u _ hu (List.getElem?_eq_getElem hj)
theorem yve : ∀ (ps : List Nat) (us : List (TV K)) (vs : List AV) (a : List (Nat × TV K)) (b : List (Nat × AV)), TL P C ts χ us vs → (∀ t, TR P C ts χ (lkT a t) (lkF b t)) → ∀ t, TR P C ts χ (lkT ((ps.zip us).foldl (fun l p => p :: l) a) t) (lkF ((ps.zip vs).foldl (fun l p => p :: l) b) t)
 | [], us, vs, a, b, _, h => h
 | p :: ps, [], vs, a, b, t, h => by
   have : vs = [] := List.eq_nil_of_length_eq_zero t.1
   subst this; exact h
 | p :: ps, u :: us, [], a, b, t, h => by simp [TL] at t
 | p :: ps, u :: us, v :: vs, a, b, t, h => by
   simp only [List.zip_cons_cons, List.foldl_cons]
   refine yve ps us vs _ _ t.head.2 fun q => ?_
   rw [ybW, ya7]
   simp only
   split
   ·exact t.head.1
   ·exact h q
theorem yvH (hC : CxOk P C) : ∀ (A : An K) {B : Base} [GB P B] {N : Nat} {ro : Option Nat} {R : RR K} {F : Cf K} {rY : Nat}, ycJ B → F.C = C → SsOk P C F.S → SLOk P C F.L → F.N = N → IOk P F.I → (F.rd = false → ro = none) → (F.I = [] ∨ ∀ h H n m, R h H n → n ≤ m → R h H m) → YOk P C R B N ro rY F.Y →
  ∀ (c : yd7) (Q : AEx -> TS K -> Prop) (ts : TS K) (χ : Nat -> Nat -> Bool) (ks : KS), KOk ks -> GM P C R ts χ (ofK ks) -> (∀ y, F.Y = some y -> lkR ts.rg y.1 = some (.yl rY)) -> Dn F A c Q ts -> WK P B N ro c (Kq P C R ts.rg Q) ks := by
 intro A
 induction A with
 | o =>
   intro B _ N ro R F rY hB hF hS hL hN hI hr hRm hY c Q ts χ ks hk hγ hYI h
   have at' : ∀ {e : AEx}, Q e ts -> Kq P C R ts.rg Q e ks := fun h => ⟨hk, ts, χ, hγ, .refl, h⟩
   cases c with
   | skip => exact yuG (at' h)
   | exit id => exact yuP (at' h)
   | ret => exact yuU (at' h)
   | ops L =>
     refine yvv ?_
     exact yrl (L := L) hB hC hF hS hL hN hY L 0 ts χ (ofK ks) rfl hγ (yfD hk) hYI h fun ts' χ' ds' a b d e => yuT hB hC a b e d
   | drw L =>
     obtain ⟨f1, f2⟩ := yt2 (R := R) (N := N) (ts := ts) hB hC hF L
     refine yss fun _ => (f1 χ ks hk hγ).mono fun ks' ⟨hk', ξ, hγ'⟩ => ywc ?_
     exact ypG (LD := L) hC hF hS hL L 0 [] [] _ ξ (ofK ks') rfl ⟨rfl, fun j f t h => by simp at h⟩ hγ' (yfD hk') h fun ts' χ' ds' a b d e => yuT hB hC a b (by rw [<- f2]; exact e) d
   | _ => exact h.elim
 | s a b iha ihb =>
   intro B _ N ro R F rY hB hF hS hL hN hI hr hRm hY c Q ts χ ks hk hγ hYI h
   cases c with
   | seq x y =>
     refine ysC (yfo (iha hB hF hS hL hN hI hr hRm hY x _ ts χ ks hk hγ hYI h) fun e ks' hq => ?_)
     obtain ⟨h1, ts', χ', h2, h3, h4⟩ := hq
     cases e with
     | n => exact yfo (ihb hB hF hS hL hN hI hr hRm hY y Q ts' χ' ks' h1 h2 (fun y e => h3 _ _ (hYI y e)) h4) fun e ks2 hq => hq.mono h3
     | x id => exact ⟨h1, ts', χ', h2, h3, h4⟩
     | r => exact ⟨h1, ts', χ', h2, h3, h4⟩
   | _ => exact h.elim
 | c a b iha ihb =>
   intro B _ N ro R F rY hB hF hS hL hN hI hr hRm hY c Q ts χ ks hk hγ hYI h
   cases c with
   | cond u x y =>
     have hu := hγ.tev u
     unfold Dn at h
     split at h
     ·rename_i e
      rw [e] at hu
      exact ymL (b := true) hu.lbi (fun _ => iha hB hF hS hL hN hI hr hRm hY x Q ts χ ks hk hγ hYI h) (fun q => by cases q)
     ·rename_i e
      rw [e] at hu
      exact ymL (b := false) hu.lbi (fun q => by cases q) (fun _ => ihb hB hF hS hL hN hI hr hRm hY y Q ts χ ks hk hγ hYI h)
     ·rename_i q e
      rw [e] at hu
      exact ymL (b := q) hu.bli (fun hq => iha hB hF hS hL hN hI hr hRm hY x Q ts χ ks hk hγ hYI (h.1 hq)) (fun hq => ihb hB hF hS hL hN hI hr hRm hY y Q ts χ ks hk hγ hYI (h.2 hq))
     ·exact h.elim
   | _ => exact h.elim
 | b a iha =>
   intro B _ N ro R F rY hB hF hS hL hN hI hr hRm hY c Q ts χ ks hk hγ hYI h
   cases c with
   | block id x =>
     refine yrC (yfo (iha hB hF hS hL hN hI hr hRm hY x _ ts χ ks hk hγ hYI h) fun e ks' hq => ?_)
     obtain ⟨h1, ts', χ', h2, h3, h4⟩ := hq
     cases e with
     | n => exact ⟨h1, ts', χ', h2, h3, h4⟩
     | r => exact ⟨h1, ts', χ', h2, h3, h4⟩
     | x i =>
       show bkQ id _ (.x i) ks'
       simp only at h4
       unfold bkQ
       simp only
       split at h4
       ·rename_i e; try rw [e]
        exact ⟨h1, ts', χ', h2, h3, h4⟩
       ·rename_i e; try rw [e]
        exact ⟨h1, ts', χ', h2, h3, h4⟩
   | _ => exact h.elim
 | l τ a iha =>
   intro B _ N ro R F rY hB hF hS hL hN hI hr hRm hY c Q ts χ ks hk hγ hYI h
   cases c with
   | loop x =>
     refine yuu fun Y hYl => ?_
     let Sem : List (DV K) -> Prop := fun env => ∀ ks', KOk ks' -> (∃ ξ, GM P C R (bdT F.C τ (tagT τ ts).rg ts.h env) ξ (ofK ks')) -> WK P B N ro x (sqQ (Kq P C R ts.rg Q) Y) ks'
     have go : ∀ {ts' : TS K} {χ' : Nat → Nat → Bool} {ks' : KS}, KOk ks' → GM P C R ts' χ' (ofK ks') → ExtR (tagT τ ts).rg ts'.rg → ts'.h = ts.h → rdJ F.C τ ts' (apC False (ctT τ) (curC (ctT τ) Sem)) → Y ks' := by
      intro ts' χ' ks' hk' hγ' hx' hh hj
      refine hYl ks' (yss fun _ => ?_)
      rw [hF] at hj
      refine (ymb (hh := ts.h) (fun H n q => by rw [hh] at q; exact q) hB hC hk' hγ' hx' hj).mono fun ks2 ⟨env, e1, e2, ξ, e3⟩ => ?_
      exact ynb _ _ _ e1 ks2 e2 ⟨ξ, by rw [hF]; exact e3⟩
     refine go hk (ykp hγ) .refl (yps τ ts) (h (curC (ctT τ) Sem) (ykF _ _ _ fun env hd => ?_))
     rintro ks' hk' ⟨ξ, hγ'⟩
     refine yfo (iha env hB hF hS hL hN hI hr hRm hY x _ _ ξ ks' hk' hγ' (fun y e => ydQ τ ts _ _ (hYI y e)) hd) fun e ks2 hq => ?_
     obtain ⟨h1, ts', χ', h2, h3, h4⟩ := hq
     rw [yvA] at h3
     cases e with
     | n => obtain ⟨g1, g2⟩ := ypY h4; exact go h1 h2 h3 g1 g2
     | x id => exact ⟨h1, ts', χ', h2, (ydQ τ ts).trans h3, h4⟩
     | r => exact ⟨h1, ts', χ', h2, (ydQ τ ts).trans h3, h4⟩
   | _ => exact h.elim
 | j τ a b iha ihb =>
   intro B _ N ro R F rY hB hF hS hL hN hI hr hRm hY c Q ts χ ks hk hγ hYI h
   cases c with
   | seq x y =>
     let Sem : List (DV K) -> Prop := fun env => ∀ ks', KOk ks' -> (∃ ξ, GM P C R (bdT F.C τ (tagT τ ts).rg ts.h env) ξ (ofK ks')) -> WK P B N ro y (Kq P C R ts.rg Q) ks'
     have hd := h (curC (ctT τ) Sem) (ykF _ _ _ fun env hd => by
      rintro ks' hk' ⟨ξ, hγ'⟩
      exact yfo (ihb env hB hF hS hL hN hI hr hRm hY y Q _ ξ ks' hk' hγ' (fun y e => ydQ τ ts _ _ (hYI y e)) hd) fun e ks2 hq => hq.mono (ydQ τ ts))
     refine ysC (yfo (iha hB hF hS hL hN hI hr hRm hY x _ (tagT τ ts) χ ks hk (ykp hγ) (fun y e => ydQ τ ts _ _ (hYI y e)) hd) fun e ks' hq => ?_)
     obtain ⟨h1, ts', χ', h2, h3, h4⟩ := hq
     cases e with
     | n =>
       refine yss fun _ => ?_
       simp only at h4
       rw [hF] at h4
       obtain ⟨g1, g2⟩ := ypY h4
       refine (ymb (hh := ts.h) (fun H n q => by rw [g1] at q; exact q) hB hC h1 h2 h3 g2).mono fun ks2 ⟨env, e1, e2, ξ, e3⟩ => ?_
       exact ynb _ _ _ e1 ks2 e2 ⟨ξ, by rw [hF]; exact e3⟩
     | x id => exact ⟨h1, ts', χ', h2, (ydQ τ ts).trans h3, h4⟩
     | r => exact ⟨h1, ts', χ', h2, (ydQ τ ts).trans h3, h4⟩
   | _ => exact h.elim
 | g id τ τY ai aa ab ih1 ih2 ih3 =>
   intro B _ N ro R F rY hB hF hS hL hN hI hr hRm hY c Q ts χ ks hk hγ hYI h
   cases c with
   | rng u ps aA aB =>
     subst hF
     unfold Dn at h
     split at h
     ·exact h.elim
     rename_i hrd
     have hro := hr hrd
     subst hro
     refine yss fun _ => (ymb (hh := ts.h) (fun H n q => by rw [yps] at q; exact q) hB hC hk (ykp hγ) .refl h).mono fun ks1 ⟨env, h1, hk1, ξ1, hγ1⟩ => ?_
     have hrg : (bdT F.C τ (tagT τ ts).rg ts.h env).rg = (tagT τ ts).rg := rfl
     have hnw : (bdT F.C τ (tagT τ ts).rg ts.h env).nw = [] := rfl
     have hh1 : (bdT F.C τ (tagT τ ts).rg ts.h env).h = ts.h := rfl
     generalize bdT F.C τ (tagT τ ts).rg ts.h env = ts1 at h1 hγ1 hrg hnw hh1
     split at h1
     case h_2 => exact h1.elim
     rename_i f fa fc hu
     split at h1
     case h_2 => exact h1.elim
     rename_i c2 hc2
     replace hRm := hRm.resolve_left (fun e => by rw [e] at hc2; cases hc2)
     split at h1
     case h_2 => exact h1.elim
     rename_i hcond
     simp only [Bool.and_eq_true] at hcond
     obtain ⟨⟨hid, hlen⟩, hnil⟩ := hcond
     rw [<- hrg] at hid
     have hid : lkR ts1.rg id = none := by
      cases hq : lkR ts1.rg id with
      | none => rfl
      | some w => rw [hq] at hid; cases hid
     have hlen := Nat.le_of_ble_eq_true hlen
     have hres : c2.res = [] := by
      cases hq : c2.res with
      | nil => rfl
      | cons a b => rw [hq] at hnil; cases hnil
     have hu' := hγ1.tev u
     rw [hu] at hu'
     generalize hv : ev (lkF (ofK ks1).fr) u = v at hu'
     cases hu' with
     | fn _ _ _ a' c' ha hc hta htc =>
       refine yu3 (hI f c2 hc2) hres hv (by simp; omega) hB fun B2 _ tm asg body yv rest hB2 hH htm hxs hA hBd hps => ?_
       subst hN
       let f0 : LS -> Blk := rcdB tm ps asg body
       have h2 := h1 ks1.nx
       have hx1 : ExtR ts1.rg ((id, .yl ks1.nx) :: ts1.rg) := fun id' w hw => by
        rw [ygp]
        split
        ·rename_i e; simp only at e; subst e; rw [hid] at hw; cases hw
        ·exact hw
       have hRm2 : ∀ h H n m, R.push ks1.nx f0 h H n -> n <= m -> R.push ks1.nx f0 h H m := fun h H n m ⟨st, h', a1, a2, a3⟩ hm => ⟨st, h', a1, a2, hRm _ _ _ _ a3 hm⟩
       have hγ2 : GM P F.C (R.push ks1.nx f0) (rngS id ks1.nx c2.N fa fc ts1) ξ1 (ofK (rngK c2.N (a' ++ .yld ks1.nx :: c') (f0 .ready) ks1)) := by
        refine GM.frame hγ1 hx1 rfl (fun t => ?_) ⟨.rdy, ts1.h, rfl, if_pos rfl, ?_⟩
        ·have hm : Mono ts1 (rngS id ks1.nx c2.N fa fc ts1) ξ1 ξ1 := ⟨hx1, fun _ _ q => q, fun _ _ _ => .inr ⟨rfl, rfl⟩⟩
         have hyT : TR P F.C (rngS id ks1.nx c2.N fa fc ts1) ξ1 (.cn id (.yl ks1.nx)) (.yld ks1.nx) := .cn id (.yl ks1.nx) _ (by show lkR ((id, .yl ks1.nx) :: ts1.rg) id = _; rw [ygp, if_pos rfl]) rfl (.yl _)
         have hTL : TL P F.C (rngS id ks1.nx c2.N fa fc ts1) ξ1 (fa ++ .cn id (.yl ks1.nx) :: fc) (a' ++ .yld ks1.nx :: c') := ((show TL P F.C ts1 ξ1 fa a' from ⟨ha, hta⟩).mono hm).app (.cons hyT ((show TL P F.C ts1 ξ1 fc c' from ⟨hc, htc⟩).mono hm))
         show TR P F.C (rngS id ks1.nx c2.N fa fc ts1) ξ1 (lkT (zipT (fa ++ .cn id (.yl ks1.nx) :: fc) 0 ++ (c2.N, .cn id (.yl ks1.nx)) :: reix (upx (c2.N + 1)) ts1.fr) t) (lkF (entF (a' ++ .yld ks1.nx :: c') 0 ++ (c2.N, .yld ks1.nx) :: reix (upx (c2.N + 1)) ks1.fr) t)
         rw [yp1, ynR, yiY, ykN, hTL.1]
         by_cases ht : 0 <= t /\ t < 0 + (fa ++ .cn id (.yl ks1.nx) :: fc).length
         ·rw [if_pos (decide_eq_true ht), if_pos (decide_eq_true ht), yqs, yjJ, if_pos (Nat.zero_le _), if_pos (Nat.zero_le _)]
          exact hTL.at2 _
         ·rw [if_neg (by simpa using ht), if_neg (by simpa using ht), ybW, ya7]
          simp only
          by_cases h3 : c2.N = t
          ·rw [if_pos h3, if_pos h3]; exact hyT
          ·rw [if_neg h3, if_neg h3]
           by_cases h4 : c2.N < t
           ·have hg : upx (c2.N + 1) (t - (c2.N + 1)) = some t := by simp only [upx, Option.some.injEq]; omega
            rw [yhq (yh8 _) hg, ydR (yh8 _) hg]
            exact (hγ1.fr _).mono hm
           ·rw [yfb (fun s e => by simp only [upx, Option.some.injEq] at e; omega)]
            exact .un _
        ·have : (fun o => if o = ks1.nx then none else (if o = ks1.nx then some (f0 .ready) else ks1.H o)) = ks1.H := by
          funext o
          by_cases e : o = ks1.nx
          ·rw [if_pos e, e, hH]
          ·simp [e]
         rw [this]; exact hRm _ _ _ _ hγ1.hp (Nat.le_succ _)
       have hbk : ∀ {t8 : TS K} {χ8 : Nat → Nat → Bool} {ks8 : KS} {h8 : List RS} {R' : RR K} {H' : Hp} (m : Nat), GM P F.C (R.push ks1.nx f0) t8 χ8 (ofK ks8) → R'.L = R.L → R' h8 H' ks8.nx → GM P F.C R' ⟨reix (dnx m) t8.fr, t8.od, t8.nw, t8.rg, h8⟩ χ8 (ofK ⟨reix (dnx m) ks8.fr, ks8.mem, H', ks8.nx⟩) := by
        intro t8 χ8 ks8 h8 R' H' m hg hL hp
        refine GM.frame hg .refl hL (fun t => ?_) hp
        have hm : Mono t8 ⟨reix (dnx m) t8.fr, t8.od, t8.nw, t8.rg, h8⟩ χ8 χ8 := ⟨fun _ _ q => q, fun _ _ q => q, fun _ _ _ => .inr ⟨rfl, rfl⟩⟩
        have hd : dnx m (t + m) = some t := yiP.2 rfl
        rw [yhq (yln _) hd, ydR (yln _) hd]
        exact (hg.fr _).mono hm
       refine yfo (ih1 (rY := ks1.nx) (F := { C := F.C, S := F.S, L := F.L, N := c2.N, I := F.I, Y := some (id, _), rd := false }) hB2 rfl hS hL rfl hI (fun _ => rfl) (.inr hRm2) ?_ c2.body _ _ ξ1 _ (show KOk (rngK c2.N (a' ++ .yld ks1.nx :: c') (f0 .ready) ks1) from hk1) hγ2 (fun y hy => by cases hy; show lkR ((id, .yl ks1.nx) :: ts1.rg) id = _; rw [ygp, if_pos rfl]) h2) ?_
       ·intro y hy L i o x args t χt ds X Qd e0 hg ho hγt hkt hlk hrun k
        cases hy
        simp only at hlk hrun
        refine yva fun _ => RE.bind (yto (N := c2.N) hB2 hC χt ds hkt hγt) fun ks3 _ ⟨hk3, ξ3, hγ3⟩ => (ymb (hh := t.h) (R := R.push ks1.nx f0) (N := c2.N) (fun H n q => by rw [yps] at q; exact q) hB2 hC hk3 (ykp hγ3) .refl hrun).mono fun ks4 ⟨env2, h4, hk4, ξ4, hγ4⟩ => ?_
        have hrg4 : (bdT F.C τY (tagT τY (er t)).rg t.h env2).rg = (tagT τY (er t)).rg := rfl
        have hh4 : (bdT F.C τY (tagT τY (er t)).rg t.h env2).h = t.h := rfl
        generalize bdT F.C τY (tagT τY (er t)).rg t.h env2 = t4 at h4 hγ4 hrg4 hh4
        split at h4
        case h_2 => exact h4.elim
        rename_i _ _ tl hcond4 hth
        simp only [Bool.and_eq_true] at hcond4
        obtain ⟨⟨⟨q1, q2⟩, q3⟩, q4⟩ := hcond4
        have hext4 : ExtR t.rg t4.rg := by rw [hrg4]; exact ydQ τY (er t)
        have hlk4 := hext4 _ _ hlk
        have hx4 := yi9 q2 (hγ4.tea x) hlk4
        have hy4 := yi9 q1 (hγ4.fr c2.N) hlk4
        have hp4 := hγ4.hp
        rw [hh4, hth] at hp4
        have hH4 := (RR.push_out hp4).1
        refine yu6 hB2 e0 (yu1 hγ4 q4) ho hx4 hy4 hH4 htm hxs (nbeq.1 q3) hps hA hBd fun B3 _ l hB3 => ?_
        have hγ5 : GM P F.C (R.push ks1.nx f0) (yldS c2.N F.N (ps.toList.zip (args.map (tea t4.fr))) t4) ξ4 (ofK (yldK c2.N F.N (ps.toList.zip (args.map (ev (lkF ks4.fr)))) ks4)) := by
         refine GM.frame hγ4 .refl rfl (fun t' => ?_) hγ4.hp
         have hm : Mono t4 (yldS c2.N F.N (ps.toList.zip (args.map (tea t4.fr))) t4) ξ4 ξ4 := ⟨fun _ _ q => q, fun _ _ q => q, fun _ _ _ => .inr ⟨rfl, rfl⟩⟩
         refine yve ps.toList (args.map (tea t4.fr)) (args.map (ev (lkF ks4.fr))) _ _ ((TL.tea hγ4 args).mono hm) (fun t' => ?_) t'
         rw [yp1, yiY]
         have hbase : ∀ {b1 b2 : Bool}, (b1 = false -> lkT (reix (acx (c2.N + 1) F.N) t4.fr) t' = .un) -> (b2 = false -> lkF (reix (acx (c2.N + 1) F.N) ks4.fr) t' = .un) -> True := fun _ _ => trivial
         by_cases ht : t' < F.N
         ·have hg1 : acx (c2.N + 1) F.N (t' + (c2.N + 1)) = some t' := yhI.2 ⟨rfl, ht⟩
          have hno : ∀ s, upx F.N s ≠ some t' := fun s e => by simp only [upx, Option.some.injEq] at e; omega
          have e1 : (if memV (reix (acx (c2.N + 1) F.N) t4.fr) t' = true then lkT (reix (acx (c2.N + 1) F.N) t4.fr) t' else lkT (reix (upx F.N) t4.fr) t') = lkT t4.fr (t' + (c2.N + 1)) := by
           split
           ·exact yhq (yin _ _) hg1 _
           ·rename_i hm'
            rw [yfb hno]
            exact (yfM (yin _ _) hg1 _ (by simpa using hm')).symm
          have e2 : (if memI (reix (acx (c2.N + 1) F.N) ks4.fr) t' = true then lkF (reix (acx (c2.N + 1) F.N) ks4.fr) t' else lkF (reix (upx F.N) ks4.fr) t') = lkF ks4.fr (t' + (c2.N + 1)) := by
           split
           ·exact ydR (yin _ _) hg1 _
           ·rename_i hm'
            rw [yeo hno]
            exact (yeM (yin _ _) hg1 _ (by simpa using hm')).symm
          rw [e1, e2]
          exact (hγ4.fr _).mono hm
         ·have hno : ∀ s, acx (c2.N + 1) F.N s ≠ some t' := fun s e => ht (yhI.1 e).2
          have hg1 : upx F.N (t' - F.N) = some t' := by simp only [upx, Option.some.injEq]; omega
          rw [yjo hno, yhr hno, if_neg (by simp), if_neg (by simp), yhq (yh8 _) hg1, ydR (yh8 _) hg1]
          exact (hγ4.fr _).mono hm
        refine yfo (ih2 (rY := 0) (F := { C := F.C, S := F.S, L := F.L, N := F.N, I := F.I, Y := none, rd := true }) hB3 rfl hS hL rfl hI (fun e => by cases e) (.inr hRm2) YOk.none aA _ _ ξ4 _ (show KOk (yldK c2.N F.N (ps.toList.zip (args.map (ev (lkF ks4.fr)))) ks4) from hk4) hγ5 (fun y e => by cases e) h4) fun e ks6 hq6 => ?_
        obtain ⟨hk6, t6, χ6, hγ6, hx6, hq6⟩ := hq6
        cases e with
        | x id' => exact hq6.elim
        | r => exact hq6.elim
        | n =>
          simp only [asgT] at hq6
          split at hq6
          case h_2 => exact hq6.elim
          rename_i _ _ h6 hy6 hh6
          have hp6 := hγ6.hp
          rw [hh6] at hp6
          have hlk6 := hx6 _ _ hlk4
          refine ⟨(RR.push_out hp6).1, yi9 hy6 (hγ6.fr _) hlk6, ?_⟩
          have hγ7 : GM P F.C (R.push ks1.nx f0) (setS (.busy :: h6) t6) χ6 (ofK (ye5 ks1.nx (f0 .busy) ks6)) :=
           GM.frame hγ6 .refl rfl (fun t' => TR.mono (ts := t6) (ts' := ⟨t6.fr, t6.od, t6.nw, t6.rg, .busy :: h6⟩) (χ := χ6) (χ' := χ6) ⟨fun _ _ q => q, fun _ _ q => q, fun _ _ _ => .inr ⟨rfl, rfl⟩⟩ (hγ6.fr t')) (RR.push_set (st' := .busy) hp6)
          refine yfo (ih3 (rY := 0) (F := { C := F.C, S := F.S, L := F.L, N := F.N, I := F.I, Y := none, rd := true }) hB3 rfl hS hL rfl hI (fun e => by cases e) (.inr hRm2) YOk.none aB _ _ χ6 _ (show KOk (ye5 ks1.nx (f0 .busy) ks6) from hk6) hγ7 (fun y e => by cases e) hq6) fun e ks8 hq8 => ?_
          obtain ⟨hk8, t8, χ8, hγ8, hx8, hq8⟩ := hq8
          simp only [rndT] at hq8
          split at hq8
          case h_2 => exact hq8.elim
          rename_i _ _ h8 hy8 hh8
          have hp8 := hγ8.hp
          rw [hh8] at hp8
          have hlk8 := hx8 _ _ hlk6
          refine ⟨(RR.push_out hp8).1, yi9 hy8 (hγ8.fr _) hlk8, ?_⟩
          have hext8 : ExtR t.rg t8.rg := (hext4.trans hx6).trans hx8
          have key : ∀ (st : RS) (b : Bool), X b (bkS F.N (st :: h8) t8) → WD P B2 c2.N none L (i + 1) Qd ((ofK (bkK F.N (ye5 ks1.nx (f0 (lsR st)) ks8))).put o.dst (.bl b)) := fun st b hX =>
           k b (bkS F.N (st :: h8) t8) χ8 (bkK F.N (ye5 ks1.nx (f0 (lsR st)) ks8)) (show GM P F.C (R.push ks1.nx f0) (bkS F.N (st :: h8) t8) χ8 (ofK ⟨reix (dnx F.N) ks8.fr, ks8.mem, fun o => if o = ks1.nx then some (f0 (lsR st)) else ks8.H o, ks8.nx⟩) from hbk F.N hγ8 rfl (RR.push_set (st' := st) hp8)) hk8 hext8 hX
          cases e with
          | n => exact key .rdy true hq8
          | r => exact key .ret false hq8
          | x i' => exact key (.ex i') false hq8
       ·rintro e ks9 ⟨hk9, t9, χ9, hγ9, hx9, hq9⟩
        have hlk9 : lkR t9.rg id = some (.yl ks1.nx) := hx9 _ _ (by show lkR ((id, .yl ks1.nx) :: ts1.rg) id = _; rw [ygp, if_pos rfl])
        have hext9 : ExtR ts.rg t9.rg := ((ydQ τ ts).trans (by rw [<- hrg]; exact hx1)).trans hx9
        have fin : ∀ e, (∀ i, e ≠ .x i) → rngT id c2.N Q e t9 → rngQ ks1.nx c2.N (Kq P F.C R ts.rg Q) e ks9 := by
         intro e he hq9
         have hq9 : (match isY id (lkT t9.fr c2.N), t9.h with
          | true, .rdy :: h => Q .n (dnS c2.N h t9)
          | true, .ret :: h => Q .r (dnS c2.N h t9)
          | true, .ex i :: h => Q (.x i) (dnS c2.N h t9)
          | _, _ => False) := by
          cases e with
          | x i => exact absurd rfl (he i)
          | n => exact hq9
          | r => exact hq9
         have goal : lkF ks9.fr c2.N = .yld ks1.nx ∧ ∃ j, lsOf (ks9.H ks1.nx) = some j ∧ (match j with
          | .busy => False
          | .ready => Kq P F.C R ts.rg Q .n (dnK ks1.nx c2.N ks9)
          | .ret => Kq P F.C R ts.rg Q .r (dnK ks1.nx c2.N ks9)
          | .exit id => Kq P F.C R ts.rg Q (.x id) (dnK ks1.nx c2.N ks9)) := by
          have hp9 := hγ9.hp
          have key : ∀ {st : RS} {h : List RS} {e' : AEx}, t9.h = st :: h → Q e' (dnS c2.N h t9) → lsOf (ks9.H ks1.nx) = some (lsR st) ∧ Kq P F.C R ts.rg Q e' (dnK ks1.nx c2.N ks9) := by
           intro st h e' hh hQ
           rw [hh] at hp9
           obtain ⟨a1, a2⟩ := RR.push_out hp9
           refine ⟨by rw [show ks9.H ks1.nx = _ from a1]; rfl, hk9, dnS c2.N h t9, χ9, hbk (c2.N + 1) hγ9 rfl a2, hext9, hQ⟩
          split at hq9
          ·rename_i h hy hh
           obtain ⟨a1, a2⟩ := key hh hq9
           exact ⟨yi9 hy (hγ9.fr _) hlk9, _, a1, a2⟩
          ·rename_i h hy hh
           obtain ⟨a1, a2⟩ := key hh hq9
           exact ⟨yi9 hy (hγ9.fr _) hlk9, _, a1, a2⟩
          ·rename_i i h hy hh
           obtain ⟨a1, a2⟩ := key hh hq9
           exact ⟨yi9 hy (hγ9.fr _) hlk9, _, a1, a2⟩
          ·exact hq9.elim
         cases e with
         | x i => exact absurd rfl (he i)
         | n => exact goal
         | r => exact goal
        cases e with
        | x i => exact hq9.elim
        | n => exact fin .n (fun i e => by cases e) hq9
        | r => exact fin .r (fun i e => by cases e) hq9
   | _ => exact h.elim
end
theorem ypo {c : yd7} {Q Q' : AEx → KS → Prop} {ks : KS} (h : WK P B N ro c Q ks) (hq : ∀ e ks, KOk ks → Q e ks → RE B N (toS ks) (Q' e)) : WK P B N ro c Q' ks := by
 have _ := (inferInstance : GB P B)
 intro x hx a G hR
 refine wpIn_mono (h x hx a G hR) ?_
 rintro e a' w' ⟨ks1, G1, h1, h2, h3⟩
 have go : ∀ e', Q e' ks1 → ∃ ks2 G2, RelK B N ks2 a' G2 ∧ G2.w = w' ∧ Q' e' ks2 := by
  intro e' h3
  obtain ⟨ks2, G2, k1, k2, k3⟩ := hq e' ks1 h1.2 h3 a' G1 h1.1
  exact ⟨ks2, G2, k2, by rw [k1, h2], k3⟩
 cases e with
 | normal => exact go .n h3
 | exit id => exact go (.x id) h3
 | ret => exact go .r h3
 | goto l => exact h3.elim
 | panic ch => exact h3.elim
 | outgrown => exact h3.elim
theorem ytK {ks : KS} (hk : KOk ks) (hγ : GM P C R ts χ (ofK ks)) {q : Nat × Option Nat} {u : TV K} (h : resT ts q = some u) : ∃ v, res1 (toS ks) q = some v ∧ TR P C ts χ u v := by
 have box : ∀ {t s c o e : Nat} {cs : List (TV K)}, (lkT ts.fr t).s = .px s c o → ts.tb s c = some (.box e cs) → ∃ kb : KB, (toS ks).fr t = .pt (.l s c) o ∧ tgt (toS ks) (.pt (.l s c) o) = some (kb.cells, o) ∧ TL P C ts χ cs kb.cells := by
  intro t s c o e cs e1 e2
  have ht := (hγ.fr t).s
  rw [e1] at ht
  obtain ⟨kb, h1, h2⟩ := hγ.mb s c _ e2 (hγ.box e2)
  refine ⟨kb, ht.pxi, ?_, h2.2.2.1, h2.2.2.2⟩
  have hz := (yfD hk s c kb h1).1
  show ((toS ks).M (.l s c)).bind _ = _
  rw [<- yfs]
  show (((ofK ks).kb s c).map KB.blk).bind _ = _
  rw [h1]
  exact if_neg hz
 unfold resT at h
 split at h
 ·cases h; exact ⟨_, rfl, hγ.fr _⟩
 ·split at h
  ·rename_i s c o e1
   split at h
   ·rename_i e cs e2
    obtain ⟨kb, b1, b2, b3⟩ := box e1 e2
    obtain ⟨v, h1, h2⟩ := b3.at' h
    exact ⟨v, by simp only [res1, b1, b2, Option.bind_some]; exact h1, h2⟩
   ·cases h
  ·cases h
 ·rename_i t sz
  split at h
  ·rename_i s c o e1
   split at h
   ·rename_i e cs e2
    obtain ⟨kb, b1, b2, b3⟩ := box e1 e2
    obtain ⟨v, h1, h2⟩ := ykV b3 h
    refine ⟨v, ?_, h2⟩
    simp only [res1, b1, b2, Option.bind_some]
    simp only [kld] at h1
    exact h1
   ·cases h
  ·cases h
theorem ykH {ks : KS} (hk : KOk ks) (hγ : GM P C R ts χ (ofK ks)) : ∀ (l : List (Nat × Option Nat)) (us : List (TV K)), ydb ts l = some us → ∃ vs, resL (toS ks) l = some vs ∧ TL P C ts χ us vs
 | [], us, h => by cases h; exact ⟨[], rfl, .nil⟩
 | q :: l, us, h => by
   simp only [ydb] at h
   split at h
   ·rename_i v vs h1 h2
    cases h
    obtain ⟨a, a1, a2⟩ := ytK hk hγ h1
    obtain ⟨az, b1, b2⟩ := ykH hk hγ l vs h2
    exact ⟨a :: az, by simp only [resL, a1, b1], .cons a2 b2⟩
   ·cases h
theorem ypf (hC : CxOk P C) : ∀ (rs : List Nat) (us : List (TV K)) (vs : List AV) (p : List (DV K) → Prop), outR C rs us p → TL P C ts χ us vs → ∃ xs, p xs ∧ noLs vs = true ∧ dwks vs = xs.map (dvA C)
 | [], [], vs, p, h, t => by
   have : vs = [] := List.eq_nil_of_length_eq_zero t.1
   subst this; exact ⟨[], h, rfl, rfl⟩
 | r :: rs, u :: us, vs, p, h, t => by
   cases vs with
   | nil => simp [TL] at t
   | cons v vs =>
     simp only [outR] at h
     split at h
     ·rename_i x e
      obtain ⟨xs, a1, a2, a3⟩ := ypf hC rs us vs _ h t.head.2
      obtain ⟨b1, b2, _⟩ := yk3 hC e t.head.1
      exact ⟨.v r x :: xs, a1, by simp [noLs, b2, a2], by simp only [dwks, List.map_cons, a3, b1]; rfl⟩
     ·exact h.elim
 | [], _ :: _, _, _, h, _ => h.elim
 | _ :: _, [], _, _, h, _ => h.elim
theorem ywq : ∀ {x r : List (DV K)}, eqR x r → x = r := by
 have one : ∀ {t t' : Nat} {x : K t} {y : K t'}, (if h : t = t' then h ▸ x = y else False) → (DV.v t x : DV K) = .v t' y := by
  intro t t' x y h
  split at h
  ·rename_i e; subst e; subst h; rfl
  ·exact h.elim
 intro x
 induction x with
 | nil => intro r h; cases r with | nil => rfl | cons => exact h.elim
 | cons a x ih =>
   intro r h
   cases r with
   | nil => cases a <;> first | exact h.elim | (cases x <;> exact h.elim)
   | cons b r =>
     cases a with
     | v t y =>
       cases b with
       | v t' z =>
         cases x with
         | nil =>
           cases r with
           | nil => rw [one h]
           | cons => cases ih h.2
         | cons c x =>
           have h' : (if h : t = t' then h ▸ y = z else False) /\ eqR (c :: x) r := h
           rw [one h'.1, ih h'.2]
       | _ => cases x <;> cases r <;> exact h.elim
     | _ => cases b <;> cases x <;> cases r <;> exact h.elim
theorem ym2 (hB : ycJ B) (hC : CxOk P C) (res : List (Nat × Option Nat)) : ∀ (n : Nat) (ts : TS K), REk P C R B N ts (retF C res ts n)
 | 0, ts => .refl
 | n + 1, ts => by
   have _ := (inferInstance : GB P B)
   simp only [retF]
   split
   ·split
    ·exact .refl
    ·exact (yoz hB hC 9 _ ts).trans (ym2 hB hC res n _)
   ·exact .refl
theorem yqQ (hC : CxOk P C) : ∀ (ps : List PD) (env : List (AD K)) (i : Nat), env.length = ps.length → (∀ F, AD.f F ∈ env → FOk P C F) → ∀ t, TR P C ts χ (lkT (entT C ps env i) t) (lkF (entF (yd4 C ps env) i) t)
 | [], [], i, _, _, t => .un _
 | [], _ :: _, i, h, _, t => by simp at h
 | _ :: _, [], i, h, _, t => by simp at h
 | p :: ps, x :: env, i, h, hF, t => by
   have ih := yqQ hC ps env (i + 1) (by simpa using h) (fun F hf => hF F (List.mem_cons_of_mem _ hf)) t
   have bad : TR P C ts χ (lkT ([] : List (Nat × TV K)) t) (lkF (entF (yd4 C (p :: ps) (x :: env)) i) t) := .un _
   have cons : ∀ {u : TV K}, TR P C ts χ u (penc C p x) → TR P C ts χ (lkT ((i, u) :: entT C ps env (i + 1)) t) (lkF (entF (yd4 C (p :: ps) (x :: env)) i) t) := by
    intro u hu
    show TR P C ts χ _ (lkF ((i, penc C p x) :: entF (yd4 C ps env) (i + 1)) t)
    rw [ybW, ya7]
    simp only
    split
    ·exact hu
    ·exact ih
   cases p with
   | v t' =>
     cases x with
     | d y =>
       cases y with
       | v t2 z =>
         simp only [entT]
         refine cons ?_
         split
         ·rename_i e; subst e; exact (yjr hC t2 z).1
         ·exact .un _
       | _ => exact bad
     | f F => exact bad
   | p t' =>
     cases x with
     | d y =>
       cases y with
       | v t2 z =>
         simp only [entT]
         refine cons ?_
         split
         ·rename_i e; subst e
          have : penc C (.p t2) (.d (.v t2 z)) = .ep ((C.E t2).c z) (0 * (C.E t2).sz + 0) := by simp [penc]
          rw [this]
          exact .ep t2 [z] 0 0 _ (by simp [cl, hC.dw])
         ·exact .un _
       | _ => exact bad
     | f F => exact bad
   | f az bs =>
     cases x with
     | d y => exact bad
     | f F =>
       simp only [entT]
       exact cons (.fv az bs F _ (hF F List.mem_cons_self) (hF F List.mem_cons_self).2.1)
theorem yl7 (hC : CxOk P C) : ∀ (ps : List PD) (env : List (AD K)), (∀ F, AD.f F ∈ env → FOk P C F) → noLs (yd4 C ps env) = true
 | [], _, _ => by simp [yd4, noLs]
 | _ :: _, [], _ => by simp [yd4, noLs]
 | p :: ps, x :: env, hF => by
   have ih := yl7 hC ps env (fun F hf => hF F (List.mem_cons_of_mem _ hf))
   have dv : ∀ y : DV K, (dvA C y).noL = true := by
    intro y
    cases y with
    | v t z => exact (yjr (P := P) (ts := ⟨[], [], [], [], []⟩) (χ := fun _ _ => false) hC t z).2.1
    | _ => rfl
   simp only [yd4, noLs, ih, Bool.and_true]
   cases x with
   | f F => cases p <;> exact (hF F List.mem_cons_self).1
   | d y =>
     cases p with
     | p t' =>
       cases y with
       | v t2 z =>
         simp only [penc]
         split <;> rfl
       | _ => rfl
     | _ => exact dv y
theorem ylH (C : Cx K) : ∀ (ps : List PD) (env : List (AD K)), env.length = ps.length → (yd4 C ps env).length = ps.length
 | [], [], _ => rfl
 | [], _ :: _, h => by simp at h
 | _ :: _, [], h => by simp at h
 | p :: ps, x :: env, h => by simp only [yd4, List.length_cons]; rw [ylH C ps env (by simpa using h)]
end
mutual
theorem yrt (m : Nat) : ∀ u : AV, hlt m (dwk u) = hlt m u
 | .agg cs => by simp only [dwk, hlt]; exact yfa m cs
 | .tup cs => by simp only [dwk, hlt]; exact yfa m cs
 | .fn f a c => by simp only [dwk, hlt, yfa m a, yfa m c]
 | .sl z n xs => by simp only [dwk, hlt]; exact yfa m xs
 | .ep xs off => by simp only [dwk, hlt]; exact yfa m xs
 | .gs k n => rfl
 | .pt k n => rfl
 | .bl b => rfl
 | .it k n => rfl
 | .st s => rfl
 | .nptr => rfl
 | .nfn => rfl
 | .un => rfl
 | .yld o => rfl
 | .rcd _ _ _ _ _ => rfl
theorem yfa (m : Nat) : ∀ l : List AV, hlts m (dwks l) = hlts m l
 | [] => rfl
 | u :: r => by simp only [dwks, hlts, yrt m u, yfa m r]
end
theorem yrQ {P : Program} {C : Cx K} (hC : CxOk P C) (r : List (DV K)) (m : Nat) : hlt m (ycW (r.map (dvA C))) = true := by
 have one : ∀ x : DV K, hlt m (dvA C x) = true := by
  intro x
  cases x with
  | v t y =>
    have h := hC.hl t y m
    show hlt m (match (C.T t).g with | true => .agg ((C.E t).c y) | false => ((C.E t).c y).headD .un) = true
    split
    ·simpa only [hlt] using h
    ·cases hq : (C.E t).c y with
     | nil => rfl
     | cons a b => rw [hq] at h; simp only [hlts, Bool.and_eq_true] at h; exact h.1
  | _ => rfl
 have all : ∀ l : List (DV K), hlts m (l.map (dvA C)) = true := by
  intro l
  induction l with
  | nil => rfl
  | cons x l ih => simp only [List.map_cons, hlts, one x, ih, Bool.and_self]
 match r with
 | [] => rfl
 | [x] => exact one x
 | x :: y :: l => have := all (x :: y :: l); simpa only [List.map_cons, ycW, hlt] using this
theorem yu7 {P : Program} {F : Cf K} (hC : CxOk P F.C) (hS : SsOk P F.C F.S) (hL : SLOk P F.C F.L) {f : FuncId} {c : AFn} (hF : trF P f = some c) {A : An K} {ps : List PD} {rs : List Nat} (hN : F.N = c.N) (hps : ps.length ≤ c.N) {env : List (AD K)} {r : List (DV K)} (hlen : env.length = ps.length) (hFs : ∀ G, AD.f G ∈ env → FOk P F.C G)
  (h : DnF F A c ps rs env r) (hI : IOk P F.I) (hY : F.Y = none) : Pure P f (yd4 F.C ps env) (ycW (r.map (dvA F.C))) := by
 intro H n
 refine yaP.dwkR (yaP.shr (Post := fun av => dwk av = ycW (r.map (dvA F.C))) ?_ fun av hP m => by rw [<- yrt, hP]; exact yrQ hC r m)
 refine yqU hF (by rw [ylH _ _ _ hlen]; exact hps) (yl7 hC ps env hFs) fun B _ hB => ?_
 let R : RR K := ⟨fun _ H' n' => H' = H /\ n <= n', fun _ => false⟩
 let ks0 : KS := entK (yd4 F.C ps env) H n
 let ts0 : TS K := ⟨entT F.C ps env 0, [], [], [], []⟩
 have hk0 : KOk ks0 := fun d b hb => by cases hb
 have hg0 : GM P F.C R ts0 (fun _ _ => false) (ofK ks0) := by
  refine ⟨fun t => yqQ hC ps env 0 hlen hFs t, fun s c b hb _ => ?_, fun s c h => by (cases h), fun s _ => rfl, ⟨rfl, Nat.le_refl _⟩, fun s b _ hb => (by cases hb)⟩
  rcases tb_c hb with rfl | rfl <;> cases hb
 have hmain := yvH hC A (ro := none) (R := R) (rY := 0) hB rfl hS hL hN hI (fun _ => rfl) (.inr fun _ _ _ _ q hm => ⟨q.1, Nat.le_trans q.2 hm⟩) (by rw [hY]; exact YOk.none) c.body _ ts0 _ ks0 hk0 hg0 (fun y e => by rw [hY] at e; cases e) h
 refine ypo hmain fun e ks hk hq => ?_
 obtain ⟨_, ts, χ, hγ, _, hq⟩ := hq
 have fin : retD F.C c.res rs (fun x => eqR x r) .r ts → RE B c.N (toS ks) (retK c.res (fun av H' n' => dwk av = ycW (r.map (dvA F.C)) ∧ H' = H ∧ n ≤ n') .r) := by
  intro hq
  simp only [retD] at hq
  refine (ym2 hB hC c.res 9 ts χ ks hk hγ).mono fun ks' ⟨hk', ξ, hγ'⟩ => ?_
  split at hq
  ·rename_i us hus
   obtain ⟨vs, h1, h2⟩ := ykH hk' hγ' c.res us hus
   obtain ⟨xs, h3, h4, h5⟩ := ypf hC rs us vs _ hq h2
   have := ywq h3
   subst this
   show wpv (resA (toS ks') c.res) _
   unfold resA
   rw [h1]
   have hA : ∀ (vs : List AV) (xs : List AV), noLs vs = true → dwks vs = xs → (match vs with | [u] => u | us => AV.tup us).noL = true ∧ dwk (match vs with | [u] => u | us => AV.tup us) = ycW xs := by
    intro vs xs hn hd
    match vs, hn, hd with
    | [], _, hd => subst hd; exact ⟨rfl, rfl⟩
    | [v], hn, hd => subst hd; exact ⟨by simpa [noLs] using hn, rfl⟩
    | v :: v' :: vs, hn, hd => subst hd; exact ⟨hn, rfl⟩
   obtain ⟨a1, a2⟩ := hA vs _ h4 h5
   exact ⟨a1, by rw [yle]; exact a2, hγ'.hp.1, hγ'.hp.2⟩
  ·exact hq.elim
 cases e with
 | x id => exact hq.elim
 | r => exact fin hq
 | n => exact fin hq
end Go.AV
end
noncomputable section
namespace Go.AV
open Go.RowKit Go.RG Go.Lib
variable {K : Nat -> Type}
section
variable {P : Program} {C : Cx K} {ts : TS K} {χ : Nat -> Nat -> Bool}
theorem ywD {P : Program} {C : Cx K} {R : RR K} {ts : TS K} {χ : Nat → Nat → Bool} {ks : KS} (hk : KOk ks) (hγ : GM P C R ts χ (ofK ks)) {s : Nat} {b : TB K} (hb : lkB ts.od s = some b) (hx : χ s 1 = false) : BW (ks.M (.l s 1)) (some (bT C ts χ b)) := by
 obtain ⟨kb, h1, h2⟩ := hγ.mb s 1 b hb hx
 have h1' : lkO (ylJ ks.mem) s = some kb := h1
 rw [ygl] at h1'
 have : ks.M (.l s 1) = some kb.blk := by rw [M_l1, h1']; rfl
 rw [this]
 exact h2.canon (hk s kb h1').1
theorem ywh {us : List (TV K)} {vs : List AV} (t : TL P C ts χ us vs) : VWs vs (aTs C ts χ us) := by
 refine ⟨by rw [ycl, List.length_map]; exact t.1, fun j u v p q => ?_⟩
 rw [ycl, List.getElem?_map] at q
 obtain ⟨x, e1, rfl⟩ := Option.map_eq_some_iff.1 q
 exact (t.2 j x u e1 p).canon
theorem ytr (vs : List AV) : (match vs with | [u] => u | us => AV.tup us) = ycW vs := by
 cases vs with
 | nil => rfl
 | cons a r => cases r <;> rfl
theorem yti {vs ws : List AV} (h : VWs vs ws) : VW (ycW vs) (ycW ws) := by
 match vs, ws, h with
 | [], [], h => exact VW.tup h
 | [v], [w], h => exact h.2 0 v w rfl rfl
 | v :: v' :: r, w :: w' :: q, h => exact VW.tup h
 | [], _ :: _, h => simp [VWs] at h
 | _ :: _, [], h => simp [VWs] at h
 | [_], _ :: _ :: _, h => simp [VWs] at h
 | _ :: _ :: _, [_], h => simp [VWs] at h
def endS (C : Cx K) (t : TS K) (χ : Nat → Nat → Bool) (S : St) : St := { S with M := fun k => match k with
 | .h o => S.M (.h o)
 | .l d c => if c = 1 then (match lkB t.od d with
   | some b => if χ d 1 = true then S.M (.l d c) else some (bT C t χ b)
   | none => S.M (.l d c)) else S.M (.l d c) }
theorem BW.refl {S : St} {k : Key} (h : ∀ b, S.M k = some b → b.sz ≠ 0) : BW (S.M k) (S.M k) := by
 cases hb : S.M k with
 | none => trivial
 | some b => exact ⟨h b hb, rfl, rfl, rfl, fun j u v p q => by rw [p] at q; cases q; exact VW.refl _⟩
end
def EndG (C : Cx K) (sp : Sl K) (ts0 : TS K) (χ : Nat → Nat → Bool) (out : List (DV K)) (H : Hp) (n : Nat) (av : AV) (S1 : St) : Prop :=
 ∃ env' χ', wt (ctT sp.to) env' = true ∧ kpt ts0 (bdT C sp.to [] [] env') sp.kp (eqDV (selL sp env') out) ∧ ViOk (bdT C sp.to [] [] env') χ' ∧ (∀ s b, 2000000 ≤ s → (bdT C sp.to [] [] env').tb s 1 = some b → χ' s 1 = χ s 1) ∧
  (∃ us, ydb (bdT C sp.to [] [] env') sp.res = some us /\ av = ycW (aTs C (bdT C sp.to [] [] env') χ' us)) /\ S1.hp = H /\ n <= S1.nx /\ (∀ d, S1.cnt d = 1) /\
  ∀ s b, lkB (bdT C sp.to [] [] env').od s = some b -> χ' s 1 = false -> S1.M (.l s 1) = some (bT C (bdT C sp.to [] [] env') χ' b)
section
variable {P : Program} {C : Cx K} {ts : TS K} {χ : Nat -> Nat -> Bool} {m : Nat}
theorem yqd (m : Nat) (a b : List AV) : hlts m (a ++ b) = (hlts m a && hlts m b) := by
 induction a with
 | nil => simp [hlts]
 | cons x a ih => simp [hlts, ih, Bool.and_assoc]
theorem yqy (hC : CxOk P C) (e : Nat) (l : List (K e)) : hlts m (cl (C.E e) l) = true := by
 induction l with
 | nil => rfl
 | cons x l ih => show hlts m ((C.E e).c x ++ cl (C.E e) l) = true; rw [yqd, hC.hl, ih]; rfl
theorem yu9 : ∀ l : List Str, hlts m (l.map .st) = true
 | [] => rfl
 | _ :: r => by simp only [List.map_cons, hlts, hlt, yu9 r]; rfl
mutual
theorem ysE (hC : CxOk P C) : ∀ v : TV K, noyV v = true → hlt m (aT C ts χ v) = true
 | .lb b, _ => rfl
 | .bl b, _ => rfl
 | .li k n, _ => rfl
 | .it k n, _ => rfl
 | .st s, _ => rfl
 | .agg cs, h => by simp only [noyV] at h; simp only [aT, hlt]; exact yeI hC h
 | .tup cs, h => by simp only [noyV] at h; simp only [aT, hlt]; exact yeI hC h
 | .nil, _ => rfl
 | .em, _ => rfl
 | .sl e l, _ => by simp only [aT, slA, hlt]; exact yqy hC e l
 | .rw s c, _ => by
   simp only [aT]
   split
   ·split <;> rfl
   ·rfl
 | .px s c o, _ => rfl
 | .pr e s c i of, _ => rfl
 | .ep e l i of, _ => by simp only [aT, hlt]; exact yqy hC e l
 | .gs l i, _ => by simp only [aT, hlt]; exact yu9 l
 | .nptr, _ => rfl
 | .fn f a c, h => by simp only [noyV, Bool.and_eq_true] at h; simp only [aT, hlt, Bool.and_eq_true]; exact ⟨yeI hC h.1, yeI hC h.2⟩
 | .fv _ _ F, h => by simp [noyV] at h
 | .yl r, h => by simp [noyV] at h
 | .cn _ v, h => by simp only [noyV] at h; simp only [aT]; exact ysE hC v h
 | .un, _ => rfl
theorem yeI (hC : CxOk P C) : ∀ {l : List (TV K)}, yca l = true → hlts m (aTs C ts χ l) = true
 | [], _ => rfl
 | v :: r, h => by simp only [yca, Bool.and_eq_true] at h; simp only [aTs, hlts, Bool.and_eq_true]; exact ⟨ysE hC v h.1, yeI hC h.2⟩
end
theorem yrs : ∀ {l : List AV}, hlts m l = true → hlt m (ycW l) = true
 | [], _ => rfl
 | [v], h => by simp only [hlts, Bool.and_true] at h; exact h
 | v :: v' :: r, h => h
end
theorem yoc : ∀ {l : List (TV K)} {j : Nat} {v : TV K}, yca l = true → l[j]? = some v → noyV v = true
 | [], _, _, _, h => by simp at h
 | a :: r, 0, v, hn, h => by simp only [yca, Bool.and_eq_true] at hn; simp at h; exact h ▸ hn.1
 | a :: r, j + 1, v, hn, h => by simp only [yca, Bool.and_eq_true] at hn; simp at h; exact yoc hn.2 h
theorem yki : ∀ (n : Nat) {l : List (TV K)}, yca l = true → yca (l.take n) = true
 | 0, _, _ => by simp [yca]
 | n + 1, [], _ => rfl
 | n + 1, a :: r, h => by simp only [yca, Bool.and_eq_true] at h; simp only [List.take_succ_cons, yca, Bool.and_eq_true]; exact ⟨h.1, yki n h.2⟩
theorem yj5 : ∀ (n : Nat) {l : List (TV K)}, yca l = true → yca (l.drop n) = true
 | 0, _, h => by simpa using h
 | n + 1, [], _ => rfl
 | n + 1, a :: r, h => by simp only [yca, Bool.and_eq_true] at h; simp only [List.drop_succ_cons]; exact yj5 n h.2
section
variable {P : Program} {C : Cx K}
theorem ytx (hC : CxOk P C) (t : Nat) (x : K t) : noyV (inV C t x) = true := by
 have h := hC.ny t x
 unfold inV
 split
 ·exact h
 ·split
  ·rename_i v e; rw [e] at h; simpa [yca] using h
  ·rfl
mutual
theorem yrk (hC : CxOk P C) : ∀ (k : Kd) (r : List (DV K)), noyV (bdV C [] k r).1 = true
 | k, r => by
   unfold bdV
   split
   all_goals first
    | rfl
    | (simp only [noyV]; exact ygk hC _ _)
    | (simp only [noyV, Bool.and_eq_true]; exact ⟨ygk hC _ _, ygk hC _ _⟩)
    | ((try dsimp only); split <;> first | rfl | exact ytx hC _ _ | (simp only [lkR] at *; done) | (rename_i h; cases h))
theorem ygk (hC : CxOk P C) : ∀ (l : List Kd) (r : List (DV K)), yca (bdVs C [] l r).1 = true
 | [], r => by simp [bdVs, yca]
 | k :: q, r => by simp only [bdVs, yca, Bool.and_eq_true]; exact ⟨yrk hC k r, ygk hC q _⟩
end
def tbNo : TB K → Bool
 | .box _ cs => yca cs
 | .row _ _ => true
 | .lrow _ _ cs => yca cs
structure NoY (ts : TS K) : Prop where
 fr : ∀ t, noyV (lkT ts.fr t) = true
 od : ∀ s b, lkB ts.od s = some b -> tbNo b = true
 nw : ts.nw = []
theorem yqC (hC : CxOk P C) : ∀ (l : List (Nat × Kd)) (r : List (DV K)) (t : Nat), noyV (lkT (bdS C [] l r).1 t) = true
 | [], _, _ => rfl
 | k :: q, r, t => by
   simp only [bdS, lkT]
   split
   ·exact yrk hC _ _
   ·exact yqC hC q _ t
theorem yty (hC : CxOk P C) (ks : List Kd) (env : List (DV K)) : yca (bdW C [] ks env).1 = true := by
 unfold bdW
 split
 ·split
  ·split
   ·dsimp only
    split
    ·exact hC.ny _ _
    ·rfl
   ·rfl
  ·exact ygk hC _ _
 ·exact ygk hC _ _
theorem yre {Pr : TB K → Prop} : ∀ (l : List (Nat × Option (TB K))), (∀ p ∈ l, ∀ c, p.2 = some c → Pr c) → ∀ s b, lkB l s = some b → Pr b
 | [], _, s, b, h => by cases h
 | q :: l, hl, s, b, h => by
   simp only [lkB] at h
   split at h
   ·exact hl q List.mem_cons_self b h
   ·exact yre l (fun p hp => hl p (List.mem_cons_of_mem _ hp)) s b h
theorem yqO (hC : CxOk P C) : ∀ (l : List (Nat × Nat × List Kd)) (r : List (DV K)), ∀ p ∈ (bdB C [] l r).1, ∀ c, p.2 = some c → tbNo c = true
 | [], _, p, hp => by simp [bdB] at hp
 | k :: q, r, p, hp => by
   simp only [bdB] at hp
   rcases List.mem_cons.1 hp with rfl | hp
   ·intro c hc; cases hc; exact yty hC _ _
   ·exact yqO hC q _ p hp
theorem yue : ∀ (l : List (Nat × Nat)) (r : List (DV K)), ∀ p ∈ bdR (K := K) l r, ∀ c, p.2 = some c → tbNo c = true := by
 intro l
 induction l with
 | nil => intro r p hp; simp [bdR] at hp
 | cons k q ih =>
   intro r p hp
   cases r with
   | nil => simp [bdR] at hp
   | cons x r =>
     cases x with
     | l e xs =>
       simp only [bdR] at hp
       rcases List.mem_cons.1 hp with rfl | hp
       ·intro c hc
        split at hc
        ·cases hc; rfl
        ·cases hc
       ·exact ih r p hp
     | _ => simp [bdR] at hp
theorem yt8 (hC : CxOk P C) (τ : Tm) (env : List (DV K)) : NoY (bdT C τ [] [] env) :=
 ⟨fun t => yqC hC _ _ t, yre _ fun p hp => by
   rcases List.mem_append.1 hp with hp | hp
   ·exact yqO hC _ _ p hp
   ·exact yue _ _ p hp, rfl⟩
theorem ytc {ts : TS K} (h : NoY ts) {s c : Nat} {b : TB K} (hb : ts.tb s c = some b) : tbNo b = true := by
 unfold TS.tb at hb
 split at hb
 ·exact h.od s b hb
 ·split at hb
  ·rw [h.nw] at hb; cases hb
  ·cases hb
theorem yqc {ts : TS K} (h : NoY ts) : ∀ (l : List (Nat × Option Nat)) (us : List (TV K)), ydb ts l = some us → yca us = true
 | [], us, e => by cases e; rfl
 | p :: r, us, e => by
   simp only [ydb] at e
   split at e
   ·rename_i v vs h1 h2
    cases e
    simp only [yca, Bool.and_eq_true]
    refine ⟨?_, yqc h r vs h2⟩
    unfold resT at h1
    split at h1
    ·cases h1; exact h.fr _
    ·split at h1
     ·split at h1
      ·rename_i hb; exact yoc (show yca _ = true from ytc h hb) h1
      ·cases h1
     ·cases h1
    ·split at h1
     ·split at h1
      ·rename_i hb
       have hn : yca _ = true := ytc h hb
       simp only [tldc] at h1
       split at h1
       ·cases h1; exact yki _ (yj5 _ hn)
       ·cases h1
      ·cases h1
     ·cases h1
   ·cases e
theorem yt7 (hC : CxOk P C) {ts : TS K} {χ : Nat → Nat → Bool} {m : Nat} {b : TB K} (h : tbNo b = true) : hlts m (bT C ts χ b).cells = true := by
 cases b with
 | box e cs => exact yeI hC h
 | row e l => exact yqy hC e l
 | lrow e n cs => exact yeI hC h
theorem ytD {ts : TS K} (h : NoY ts) {s : Nat} {b : TB K} (hb : lkB ts.od s = some b) : tbNo b = true := h.od s b hb
end
theorem yvj {P : Program} {F : Cf K} (hC : CxOk P F.C) (hS : SsOk P F.C F.S) (hL : SLOk P F.C F.L) {f : FuncId} {c : AFn} (hF : trF P f = some c) {A : An K} {sp : Sl K} (hf : sp.f = f) (hN : F.N = c.N) (hres : c.res = sp.res) (hnp : npL sp ≤ c.N)
  {fs : List (FV K)} {env out : List (DV K)} (hE : okS sp env = true) (hfs : ∀ G ∈ fs, FOk P F.C G) (h : DnL F A c sp fs env out) (hI : IOk P F.I) (hY : F.Y = none) {χ : Nat -> Nat -> Bool} (hv : ViOk (entL F.C sp fs env) χ) (H : Hp) (n : Nat) :
  ya3 P sp.f (argT F.C sp (entL F.C sp fs env) χ) (memT F.C (entL F.C sp fs env) χ) H n (EndL F.C sp (entL F.C sp fs env) χ out H n) := by
 subst hf
 let R : RR K := ⟨fun _ H' n' => H' = H /\ n <= n', fun s => χ s 1⟩
 obtain ⟨g0, k0, m0⟩ := ywf (R := R) (H := H) (n := n) hC hE hfs hv ⟨rfl, Nat.le_refl _⟩ rfl
 have hal : (argT F.C sp (entL F.C sp fs env) χ).length <= c.N := by unfold argT; simpa using hnp
 have main := yoU (Post := fun av ks => ∃ ξ env' us vs, wt (ctT sp.to) env' = true ∧ GM P F.C R (bdT F.C sp.to [] [] env') ξ (ofK ks) ∧ kpt (entL F.C sp fs env) (bdT F.C sp.to [] [] env') sp.kp (eqDV (selL sp env') out) ∧
   ydb (bdT F.C sp.to [] [] env') sp.res = some us /\ TL P F.C (bdT F.C sp.to [] [] env') ξ us vs /\ av = ycW vs) hF hal m0 k0 fun B _ hB => by
  have hmain := yvH hC A (ro := none) (R := R) (rY := 0) hB rfl hS hL hN hI (fun _ => rfl) (.inr fun _ _ _ _ q hm => ⟨q.1, Nat.le_trans q.2 hm⟩) (by rw [hY]; exact YOk.none) c.body _ _ χ _ k0 g0 (fun y e => by rw [hY] at e; cases e) h
  refine ypo hmain fun e ks hk hq => ?_
  obtain ⟨_, ts, χ', hγ, hx, hq⟩ := hq
  have fin : rdJ F.C sp.to (frF F.C sp ts) (fun env' => match ydb (bdT F.C sp.to [] [] env') sp.res with | some _ => kpt (entL F.C sp fs env) (bdT F.C sp.to [] [] env') sp.kp (eqDV (selL sp env') out) | none => False) → RE B c.N (toS ks) (ytX c.res (fun av ks => ∃ ξ env' us vs, wt (ctT sp.to) env' = true ∧ GM P F.C R (bdT F.C sp.to [] [] env') ξ (ofK ks) ∧ kpt (entL F.C sp fs env) (bdT F.C sp.to [] [] env') sp.kp (eqDV (selL sp env') out) ∧
    ydb (bdT F.C sp.to [] [] env') sp.res = some us /\ TL P F.C (bdT F.C sp.to [] [] env') ξ us vs /\ av = ycW vs) .r) := by
   intro hq
   have hfr : REk P F.C R B c.N ts (frF F.C sp ts) := by
    unfold frF
    split
    ·exact ym2 hB hC sp.res 9 ts
    ·exact .refl
   refine RE.bind (hfr χ' ks hk hγ) fun ks0 hk ⟨_, ξ0, hγ⟩ => ?_
   refine (ymb (rg := []) (hh := []) (fun _ _ h => h) hB hC hk hγ (fun id w q => by cases q) (yvg hq)).mono fun ks' ⟨env', ⟨h0, h1⟩, h2, ξ, h3⟩ => ?_
   cases hu : ydb (bdT F.C sp.to [] [] env') sp.res with
   | none => rw [hu] at h1; exact h1.elim
   | some us =>
     rw [hu] at h1
     obtain ⟨vs, r1, r2⟩ := ykH h2 h3 c.res us (by rw [hres]; exact hu)
     show wpv (resA (toS ks') c.res) _
     unfold resA
     rw [r1]
     exact ⟨ξ, env', us, vs, h0, h3, h1, hu, r2, ytr vs⟩
  cases e with
  | x id => exact hq.elim
  | r => exact fin hq
  | n => exact fin hq
 rw [yvu] at main
 refine ya3.shr (Post := EndG F.C sp (entL F.C sp fs env) χ out H n) (main.canon ?_) fun av S1 hP => ?_
 rotate_left
 ·obtain ⟨env', χ', h0, h2, hvi, hlv, ⟨us, hus, rfl⟩, hH, hn, hcnt, hM⟩ := hP
  have ny := yt8 hC sp.to env'
  refine ⟨fun d => (lkB (bdT F.C sp.to [] [] env').od d).isSome && !χ' d 1, fun o => by rw [<- hH]; rfl, hn, ?_, fun d b ht hb => ?_, env', χ', h0, h2, hvi, hlv, ⟨us, hus, rfl⟩, ?_, rfl, fun d => hcnt d, fun s b hb hx => ?_⟩
  ·have := yqc ny sp.res us hus
   exact yrs (yeI hC this)
  ·simp only [Bool.and_eq_true, Bool.not_eq_true'] at ht
   obtain ⟨tb, htb⟩ := Option.isSome_iff_exists.1 ht.1
   rw [hM d tb htb ht.2] at hb
   cases hb
   exact yt7 hC (ytD ny htb)
  ·funext o; show S1.M (.h o) = H o; rw [<- hH]; rfl
  ·show (if ((lkB (bdT F.C sp.to [] [] env').od s).isSome && !χ' s 1) = true ∧ 1 = 1 then S1.M (.l s 1) else none) = _
   rw [if_pos ⟨by rw [hb, hx]; rfl, rfl⟩]
   exact hM s b hb hx
 rintro av S1 ⟨ks, rfl, hk, ξ, env', us, vs, h0, h1, h2, hus, h4, rfl⟩
 refine ⟨_, endS F.C (bdT F.C sp.to [] [] env') ξ (toS ks), yti (ywh h4), rfl, rfl, fun o => rfl, fun d c' => ?_, env', ξ, h0, h2, h1.vi, fun s b q hb => (h1.lv s b q hb).symm, ⟨us, hus, rfl⟩, h1.hp.1, h1.hp.2, fun d => rfl, fun s b hb hx => ?_⟩
 ·have hz : ∀ b, (toS ks).M (.l d c') = some b → b.sz ≠ 0 := by
   intro b hb
   obtain ⟨rfl, kb, e1, rfl⟩ := M_lc ks hb
   exact (hk d kb e1).1
  show BW _ (if c' = 1 then _ else _)
  split
  ·rename_i e; subst e
   split
   ·rename_i b hb
    split
    ·exact BW.refl hz
    ·rename_i hx; exact ywD hk h1 hb (by simpa using hx)
   ·exact BW.refl hz
  ·exact BW.refl hz
 ·simp only [endS, hb, hx, Bool.false_eq_true, if_false, if_true]
theorem ynE {c : CT} {x : DV K} {y : CTy K c} (h : outC c x = some y) : x = inC c y := by
 cases c with
 | i => cases x <;> simp only [outC, outI] at h <;> cases h; rfl
 | b => cases x <;> simp only [outC, yth] at h <;> cases h; rfl
 | s => cases x <;> simp only [outC, outS] at h <;> cases h; rfl
 | l e =>
   cases x with
   | l e' l =>
     simp only [outC, outL] at h
     obtain ⟨rfl, rfl⟩ := yd5 h
     rfl
   | _ => simp only [outC, outL] at h; cases h
 | v t =>
   cases x with
   | v t' x =>
     simp only [outC, outT] at h
     split at h
     ·rename_i e; subst e; cases h; rfl
     ·cases h
   | _ => simp only [outC, outT] at h; cases h
theorem yeg {f : Cur K Prop []} {out : List (DV K)} (h : ym9 [] f out) : out = [] ∧ f := by
 cases out with
 | nil => exact ⟨rfl, h⟩
 | cons x r => exact h.elim
theorem yej {c : CT} {co : List CT} {f : Cur K Prop (c :: co)} {out : List (DV K)} (h : ym9 (c :: co) f out) : ∃ (y : CTy K c) (r : List (DV K)), out = inC c y :: r ∧ ym9 co (f y) r := by
 cases out with
 | nil => exact h.elim
 | cons x r =>
   have h : (match outC c x with | some y => ym9 co (f y) r | none => False) := h
   revert h
   cases e : outC c x with
   | none => exact fun h => h.elim
   | some y => exact fun h => ⟨y, r, by rw [ynE e], h⟩
theorem yfE {co : List CT} {f : Cur K (Cur K Prop co) []} {env out : List (DV K)} (h : apIn co [] f env out) : env = [] ∧ ym9 co f out := by
 cases env with
 | nil => exact ⟨rfl, h⟩
 | cons x r => exact h.elim
theorem ybX {co : List CT} {c : CT} {ci : List CT} {f : Cur K (Cur K Prop co) (c :: ci)} {env out : List (DV K)} (h : apIn co (c :: ci) f env out) : ∃ (y : CTy K c) (r : List (DV K)), env = inC c y :: r ∧ apIn co ci (f y) r out := by
 cases env with
 | nil => exact h.elim
 | cons x r =>
   have h : (match outC c x with | some y => apIn co ci (f y) r out | none => False) := h
   revert h
   cases e : outC c x with
   | none => exact fun h => h.elim
   | some y => exact fun h => ⟨y, r, by rw [ynE e], h⟩
theorem yfA {ci co : List CT} {f : FsTy K (Cur K (Cur K Prop co) ci) []} {fs : List (FV K)} {env out : List (DV K)} (h : apFs ci co [] f fs env out) : fs = [] ∧ apIn co ci f env out := by
 cases fs with
 | nil => exact ⟨rfl, h⟩
 | cons x r => exact h.elim
theorem yiz {ci co : List CT} {p : Nat × List Nat × List Nat} {l : List (Nat × List Nat × List Nat)} {f : FsTy K (Cur K (Cur K Prop co) ci) (p :: l)} {fs : List (FV K)} {env out : List (DV K)} (h : apFs ci co (p :: l) f fs env out) : ∃ (F : FV K) (r : List (FV K)), fs = F :: r ∧ apFs ci co l (f (curF p.2.2 p.2.1 F.W)) r env out := by
 cases fs with
 | nil => exact h.elim
 | cons x r => exact ⟨x, r, rfl, h⟩
def SlC (P : Program) (C : Cx K) (sp : Sl K) (fs : List (FV K)) (env out : List (DV K)) : Prop := ∀ χ, ViOk (entL C sp fs env) χ -> ∀ H n, ya3 P sp.f (argT C sp (entL C sp fs env) χ) (memT C (entL C sp fs env) χ) H n (EndL C sp (entL C sp fs env) χ out H n)
theorem yf0 {P : Program} {F : Cf K} (hC : CxOk P F.C) (hS : SsOk P F.C F.S) (hL : SLOk P F.C F.L) {f : FuncId} {c : AFn} (hF : trF P f = some c) {A : An K} {sp : Sl K} (hf : sp.f = f) (hN : F.N = c.N) (hres : c.res = sp.res) (hnp : npL sp ≤ c.N)
  {fs : List (FV K)} {env out : List (DV K)} (hE : okS sp env = true) (hfs : ∀ G ∈ fs, FOk P F.C G) {X : Prop} (h : X) (e : X = DnL F A c sp fs env out) (hI : IOk P F.I := by exact fun f c h => by cases h) (hY : F.Y = none := by rfl) : SlC P F.C sp fs env out := fun χ hv H n => yvj hC hS hL hF hf hN hres hnp hE hfs (e ▸ h) hI hY hv H n
theorem yaL {P : Program} {C : Cx K} : SLOk P C [] := fun sp h => by cases h
theorem yfC {P : Program} {C : Cx K} {sp : Sl K} {l : List (Sl K)} (h : SlOk P C sp) (k : SLOk P C l) : SLOk P C (sp :: l) := fun q hq => by
 rcases List.mem_cons.1 hq with rfl | hq
 ·exact h
 ·exact k q hq
end Go.AV
end
noncomputable section
namespace Go.AV
open Go.RowKit Go.RG Go.Lib
variable {K : Nat -> Type}
theorem yaA {c : Bool} {a b a' b' : Prop} (h : cnd c a b) (ha : a -> a') (hb : b -> b') : cnd c a' b' := ⟨fun e => ha (h.1 e), fun e => hb (h.2 e)⟩
structure Tb (K : Nat → Type) (X : Type) where
 g : Bool
 c : X -> List (TV K)
 rd : List (TV K) -> Option X
 tb : Option (X -> UInt8)
 ob : Option (UInt8 -> X)
 fl : Bool
 E : Enc X
structure TbOk (P : Program) (C : Cx K) {X : Type} (b : Tb K X) : Prop where
 c : ∀ (x : X) ts χ, ((b.E).c x).length = (b.c x).length /\ ∀ (j : Nat) (u : TV K) (v : AV), (b.c x)[j]? = some u -> (b.E.c x)[j]? = some v -> TR P C ts χ u v
 rd : ∀ (cs : List (TV K)) (x : X) ts χ (vs : List AV), b.rd cs = some x -> vs.length = cs.length -> (∀ (j : Nat) (u : TV K) (v : AV), cs[j]? = some u -> vs[j]? = some v -> TR P C ts χ u v) -> dwks vs = b.E.c x
 g : b.g = false -> b.E.sz = 1
 dw : ∀ x : X, dwks (b.E.c x) = b.E.c x
 tb : ∀ f, b.tb = some f -> ∀ x, ∃ n, b.E.c x = [.it .u8 n] /\ f x = UInt8.ofNat n.toNat
 ob : ∀ f, b.ob = some f -> ∀ y : UInt8, b.E.c (f y) = [.it .u8 y.toNat]
 fl : b.fl = true -> ∀ x : X, yff (b.E.c x) = true
 nr : ∀ x, ybF (b.c x) = true
 hl : ∀ x m, hlts m (b.E.c x) = true
 ny : ∀ x, yca (b.c x) = true
def tbI (k : IntKind) : Tb K Int := ⟨false, fun n => [.it k n], fun cs => match cs with
 | [u] => match tint u with
   | some (k', n) => if k' = k then some n else none
   | none => none
 | _ => none, (match k with | .u8 => some toB | _ => none), (match k with | .u8 => some ofB | _ => none), true, eI k⟩
def tbB : Tb K Bool := ⟨false, fun b => [.bl b], fun cs => match cs with
 | [u] => tbo u
 | _ => none, none, none, true, eB⟩
def tbS : Tb K Str := ⟨false, fun s => [.st s], fun cs => match cs with
 | [.st s] => some s
 | _ => none, none, none, true, eS⟩
def tbL (e : Nat) (E : Enc (K e)) : Tb K (List (K e)) := ⟨false, fun l => [.sl e l], fun cs => match cs with
 | [.sl e' l] => yiC e' e l
 | [.nil] => some []
 | [.em] => some []
 | _ => none, none, none, false, eSl E⟩
def yho {A B : Type} (a : Tb K A) (b : Tb K B) : Tb K (A × B) := ⟨true, fun x => a.c x.1 ++ b.c x.2, fun cs => match a.rd (cs.take a.E.sz), b.rd (cs.drop a.E.sz) with
 | some x, some y => some (x, y)
 | _, _ => none, none, none, a.fl && b.fl, ⟨fun x => a.E.c x.1 ++ b.E.c x.2, a.E.sz + b.E.sz, by have := a.E.pos; omega, fun x => by rw [List.length_append, a.E.len, b.E.len], fun x => by rw [ynC, a.E.no, b.E.no]; rfl, fun x => by rw [List.all_append, a.E.one, b.E.one]; rfl⟩⟩
def yoO {A X : Type} (a : Tb K A) (f : X → A) (g : A → X) (E : Enc X) : Tb K X := ⟨true, fun x => a.c (f x), fun cs => match a.rd cs with
 | some y => some (g y)
 | none => none, none, none, a.fl, E⟩
def ynv {A X : Type} (a : Enc A) (f : X -> A) : Enc X := ⟨fun x => a.c (f x), a.sz, a.pos, fun x => a.len _, fun x => a.no _, fun x => a.one _⟩
def tbU : Tb K Unit := ⟨false, fun _ => [.lb true], fun _ => none, none, none, false, ⟨fun _ => [.bl true], 1, by omega, fun _ => rfl, fun _ => rfl, fun _ => rfl⟩⟩
theorem ynP (m : Nat) (a b : List AV) : hlts m (a ++ b) = (hlts m a && hlts m b) := by
 induction a with
 | nil => simp [hlts]
 | cons x a ih => simp [hlts, ih, Bool.and_assoc]
theorem ywZ {T : Type} {E : Enc T} (h : ∀ x m, hlts m (E.c x) = true) (l : List T) (m : Nat) : hlts m (cl E l) = true := by
 induction l with
 | nil => rfl
 | cons x l ih => show hlts m (E.c x ++ cl E l) = true; rw [ynP, h, ih]; rfl
theorem ylD {T : Type} {E : Enc T} (h : ∀ x m, hlts m (E.c x) = true) : ∀ l m, hlts m ((eSl E).c l) = true := fun l m => by
 show hlts m [slA E l] = true
 simp only [hlts, slA, hlt, ywZ h, Bool.and_true]
section
variable {P : Program} {C : Cx K}
theorem at1 {α : Type} {x u : α} {j : Nat} (h : [x][j]? = some u) : j = 0 ∧ u = x := by
 cases j with
 | zero => simp at h; exact ⟨rfl, h.symm⟩
 | succ j => simp at h
theorem len1 {α : Type} {l : List α} (h : l.length = 1) : ∃ x, l = [x] := by
 match l, h with
 | [x], _ => exact ⟨x, rfl⟩
theorem yfZ (k : IntKind) : TbOk P C (tbI k : Tb K Int) := by
 refine ⟨fun x ts χ => ⟨rfl, fun j u v hu hv => ?_⟩, fun cs x ts χ vs h hl ht => ?_, fun _ => rfl, fun _ => rfl, fun f hf x => ?_, fun f hf x => ?_, fun _ _ => rfl, fun _ => rfl, fun _ _ => rfl, fun _ => rfl⟩
 ·obtain ⟨rfl, rfl⟩ := at1 hu; obtain ⟨_, rfl⟩ := at1 hv; exact .it k x
 ·simp only [tbI] at h
  split at h
  ·rename_i u
   obtain ⟨v, rfl⟩ := len1 hl
   split at h
   ·rename_i k' n hn
    split at h
    ·rename_i e; cases h; subst e; rw [TR.int (ht 0 _ _ rfl rfl) hn]; rfl
    ·cases h
   ·cases h
  ·cases h
 ·cases k <;> simp [tbI] at hf; subst hf; exact ⟨x, rfl, rfl⟩
 ·cases k <;> simp [tbI] at hf; subst hf; rfl
theorem yvE : TbOk P C (tbB : Tb K Bool) := by
 refine ⟨fun x ts χ => ⟨rfl, fun j u v hu hv => ?_⟩, fun cs x ts χ vs h hl ht => ?_, fun _ => rfl, fun _ => rfl, fun f hf x => (by cases hf), fun f hf x => (by cases hf), fun _ _ => rfl, fun _ => rfl, fun _ _ => rfl, fun _ => rfl⟩
 ·obtain ⟨rfl, rfl⟩ := at1 hu; obtain ⟨_, rfl⟩ := at1 hv; exact .bl x
 ·simp only [tbB] at h
  split at h
  ·obtain ⟨v, rfl⟩ := len1 hl; rw [TR.bool (ht 0 _ _ rfl rfl) h]; rfl
  ·cases h
theorem yn5 : TbOk P C (tbS : Tb K Str) := by
 refine ⟨fun x ts χ => ⟨rfl, fun j u v hu hv => ?_⟩, fun cs x ts χ vs h hl ht => ?_, fun _ => rfl, fun _ => rfl, fun f hf x => (by cases hf), fun f hf x => (by cases hf), fun _ _ => rfl, fun _ => rfl, fun _ _ => rfl, fun _ => rfl⟩
 ·obtain ⟨rfl, rfl⟩ := at1 hu; obtain ⟨_, rfl⟩ := at1 hv; exact .st x
 ·simp only [tbS] at h
  split at h
  ·obtain ⟨v, rfl⟩ := len1 hl; cases h; rw [TR.str (ht 0 _ _ rfl rfl)]; rfl
  ·cases h
theorem yuk {T : Type} {E : Enc T} (h : ∀ x, dwks (E.c x) = E.c x) (l : List T) : dwks (cl E l) = cl E l := by
 induction l with
 | nil => rfl
 | cons x l ih => show dwks (E.c x ++ cl E l) = E.c x ++ cl E l; rw [ycT, h, ih]
theorem yn3 {T : Type} {E : Enc T} (h : ∀ x, dwks (E.c x) = E.c x) : ∀ l, dwks ((eSl E).c l) = (eSl E).c l := fun l => by
 show [dwk (slA E l)] = [slA E l]
 simp only [slA, dwk, yuk h]
theorem yfR (e : Nat) {E : Enc (K e)} (hE : C.E e = E) (hd : ∀ x, dwks (E.c x) = E.c x) (hh : ∀ x m, hlts m (E.c x) = true) : TbOk P C (tbL e E) := by
 refine ⟨fun x ts χ => ⟨rfl, fun j u v hu hv => ?_⟩, fun cs x ts χ vs h hl ht => ?_, fun _ => rfl, fun x => ?_, fun f hf x => (by cases hf), fun f hf x => (by cases hf), fun h => (by cases h), fun _ => rfl, fun x m => ylD hh x m, fun _ => rfl⟩
 ·obtain ⟨rfl, rfl⟩ := at1 hu; obtain ⟨_, rfl⟩ := at1 hv; exact .sl e x false _ _ rfl (by rw [hE]; exact yuk hd x)
 ·simp only [tbL] at h
  split at h
  ·obtain ⟨v, rfl⟩ := len1 hl
   obtain ⟨rfl, h⟩ := yd5 h
   obtain ⟨z, xs, h1, rfl⟩ := (ht 0 _ _ rfl rfl).sli
   subst h
   show [dwk (AV.sl z _ xs)] = _
   simp only [dwk, h1, hE]; rfl
  ·obtain ⟨v, rfl⟩ := len1 hl; cases h
   have := ht 0 _ _ rfl rfl
   cases this; rfl
  ·obtain ⟨v, rfl⟩ := len1 hl; cases h
   have := ht 0 _ _ rfl rfl
   cases this; rfl
  ·cases h
 ·show [dwk (slA E x)] = [slA E x]
  simp only [slA, dwk, yuk hd]
theorem yqV (a b : List AV) : yff (a ++ b) = (yff a && yff b) := by
 induction a with
 | nil => simp [yff]
 | cons x a ih => simp [yff, ih, Bool.and_assoc]
theorem ynl (a b : List (TV K)) : ybF (a ++ b) = (ybF a && ybF b) := by
 induction a with
 | nil => simp [ybF]
 | cons x a ih => simp [ybF, ih, Bool.and_assoc]
theorem ypZ (a b : List (TV K)) : yca (a ++ b) = (yca a && yca b) := by
 induction a with
 | nil => simp [yca]
 | cons x a ih => simp [yca, ih, Bool.and_assoc]
theorem ygu {A B : Type} {a : Tb K A} {b : Tb K B} (ha : TbOk P C a) (hb : TbOk P C b) : TbOk P C (yho a b) := by
 refine ⟨fun x ts χ => ?_, fun cs x ts χ vs h hl ht => ?_, fun h => (by cases h), fun x => ?_, fun f hf x => (by cases hf), fun f hf x => (by cases hf), fun h x => ?_, fun x => ?_, fun x m => by show hlts m (a.E.c x.1 ++ b.E.c x.2) = true; rw [ynP, ha.hl, hb.hl]; rfl, fun x => by show yca (a.c x.1 ++ b.c x.2) = true; rw [ypZ, ha.ny, hb.ny]; rfl⟩
 ·exact TL.app (ts := ts) (χ := χ) (P := P) (C := C) (us := a.c x.1) (us' := b.c x.2) (vs := a.E.c x.1) (vs' := b.E.c x.2) (ha.c x.1 ts χ) (hb.c x.2 ts χ)
 ·simp only [yho] at h
  split at h
  ·rename_i x1 y1 h1 h2
   cases h
   have t : TL P C ts χ cs vs := ⟨hl, ht⟩
   have e1 := ha.rd _ _ ts χ _ h1 (t.take a.E.sz).1 (t.take a.E.sz).2
   have e2 := hb.rd _ _ ts χ _ h2 (t.drop a.E.sz).1 (t.drop a.E.sz).2
   show dwks vs = a.E.c x1 ++ b.E.c y1
   rw [<- e1, <- e2, <- ycT, List.take_append_drop]
  ·cases h
 ·show dwks (a.E.c x.1 ++ b.E.c x.2) = _; rw [ycT, ha.dw, hb.dw]; rfl
 ·have h' : (a.fl && b.fl) = true := h
  rw [Bool.and_eq_true] at h'
  show yff (a.E.c x.1 ++ b.E.c x.2) = true
  rw [yqV, ha.fl h'.1, hb.fl h'.2]; rfl
 ·show ybF (a.c x.1 ++ b.c x.2) = true; rw [ynl, ha.nr, hb.nr]; rfl
theorem yiU {A X : Type} {a : Tb K A} {f : X → A} {g : A → X} {E : Enc X} (ha : TbOk P C a) (hfg : ∀ y, f (g y) = y) (hE : ∀ x, E.c x = a.E.c (f x)) : TbOk P C (yoO a f g E) := by
 refine ⟨fun x ts χ => ?_, fun cs x ts χ vs h hl ht => ?_, fun h => (by cases h), fun x => ?_, fun f hf x => (by cases hf), fun f hf x => (by cases hf), fun h x => ?_, fun x => ha.nr (f x), fun x m => by show hlts m (E.c x) = true; rw [hE]; exact ha.hl _ m, fun x => ha.ny (f x)⟩
 ·have := ha.c (f x) ts χ; rw [<- hE] at this; exact this
 ·simp only [yoO] at h
  split at h
  ·rename_i y hy; cases h; show dwks vs = E.c (g y); rw [hE, hfg]; exact ha.rd _ _ ts χ _ hy hl ht
  ·cases h
 ·show dwks (E.c x) = E.c x; rw [hE]; exact ha.dw _
 ·show yff (E.c x) = true; rw [hE]; exact ha.fl h _
theorem yu2 : TbOk P C (tbU : Tb K Unit) := by
 refine ⟨fun x ts χ => ⟨rfl, fun j u v hu hv => ?_⟩, fun cs x ts χ vs h hl ht => (by cases h), fun _ => rfl, fun _ => rfl, fun f hf x => (by cases hf), fun f hf x => (by cases hf), fun h => (by cases h), fun _ => rfl, fun _ _ => rfl, fun _ => rfl⟩
 obtain ⟨rfl, rfl⟩ := at1 hu; obtain ⟨_, rfl⟩ := at1 hv; exact .lb true
end
section
variable {TC : Type} {KF : TC -> Type} {code : Nat -> TC}
def cxOf (TF : (c : TC) → Tb (fun t => KF (code t)) (KF c)) : Cx (fun t => KF (code t)) :=
 ⟨fun t => ⟨(TF (code t)).g, (TF (code t)).c, (TF (code t)).rd, (TF (code t)).tb, (TF (code t)).ob, (TF (code t)).fl⟩, fun t => (TF (code t)).E⟩
theorem yuM {P : Program} {TF : (c : TC) → Tb (fun t => KF (code t)) (KF c)} (h : ∀ c, TbOk P (cxOf TF) (TF c)) : CxOk P (cxOf TF) :=
 ⟨fun t x ts χ => (h (code t)).c x ts χ, fun t cs x ts χ vs a b c => (h (code t)).rd cs x ts χ vs a b c, fun t e => (h (code t)).g e, fun t x => (h (code t)).dw x, fun t f e => (h (code t)).tb f e, fun t f e => (h (code t)).ob f e, fun t e => (h (code t)).fl e, fun t x => (h (code t)).nr x, fun t => (h _).hl, fun t => (h _).ny⟩
def lkC (d : TC) : List (Nat × TC) → Nat → TC
 | [], _ => d
 | p :: r, t => match Nat.beq p.1 t with
   | true => p.2
   | false => lkC d r t
end
theorem ywi {rs : List Nat} {p : Nat} {ps : List PD} {w : WTy K rs (.v p :: ps)} {a : List (AD K)} {b : List (DV K)} (h : appW rs (.v p :: ps) w a b) : ∃ (x : K p) (a' : List (AD K)), a = .d (.v p x) :: a' ∧ appW rs ps (w x) a' b := by
 cases a with
 | nil => exact h.elim
 | cons u a' =>
   simp only [appW] at h
   split at h
   ·rename_i y hy
    cases u with
    | f F => simp [outP] at hy
    | d x =>
      cases x with
      | v t x =>
        simp only [outP] at hy
        split at hy
        ·rename_i e; subst e; cases hy; exact ⟨x, a', rfl, h⟩
        ·cases hy
      | _ => simp [outP] at hy
   ·exact h.elim
theorem yvV {rs : List Nat} {p : Nat} {ps : List PD} {w : WTy K rs (.p p :: ps)} {a : List (AD K)} {b : List (DV K)} (h : appW rs (.p p :: ps) w a b) : ∃ (x : K p) (a' : List (AD K)), a = .d (.v p x) :: a' ∧ appW rs ps (w x) a' b := by
 cases a with
 | nil => exact h.elim
 | cons u a' =>
   simp only [appW] at h
   split at h
   ·rename_i y hy
    cases u with
    | f F => simp [outP] at hy
    | d x =>
      cases x with
      | v t x =>
        simp only [outP] at hy
        split at hy
        ·rename_i e; subst e; cases hy; exact ⟨x, a', rfl, h⟩
        ·cases hy
      | _ => simp [outP] at hy
   ·exact h.elim
theorem yv9 {rs az bs : List Nat} {ps : List PD} {w : WTy K rs (.f az bs :: ps)} {a : List (AD K)} {b : List (DV K)} (h : appW rs (.f az bs :: ps) w a b) : ∃ (F : FV K) (a' : List (AD K)), a = .f F :: a' ∧ appW rs ps (w (curF bs az F.W)) a' b := by
 cases a with
 | nil => exact h.elim
 | cons u a' =>
   simp only [appW] at h
   split at h
   ·rename_i y hy
    cases u with
    | f F => simp only [outP] at hy; cases hy; exact ⟨F, a', rfl, h⟩
    | d x => cases x <;> simp [outP] at hy
   ·exact h.elim
theorem yvW {rs : List Nat} {w : WTy K rs []} {a : List (AD K)} {b : List (DV K)} (h : appW rs [] w a b) : a = [] ∧ apR rs w b := by
 cases a with
 | nil => exact ⟨rfl, h⟩
 | cons u a' => exact h.elim
theorem yxf {r : Nat} {rs : List Nat} {w : RTy K (r :: rs)} {b : List (DV K)} (h : apR (r :: rs) w b) : ∃ (x : K r) (b' : List (DV K)), b = .v r x :: b' ∧ apR rs (w x) b' := by
 cases b with
 | nil => exact h.elim
 | cons u b' =>
   cases u with
   | v t x =>
     have h' : (if e : t = r then apR rs (w (e ▸ x)) b' else False) := h
     by_cases e : t = r
     ·subst e; rw [dif_pos rfl] at h'; exact ⟨x, b', rfl, h'⟩
     ·rw [dif_neg e] at h'; exact h'.elim
   | _ => exact h.elim
theorem ywJ {w : RTy K []} {b : List (DV K)} (h : apR [] w b) : b = [] ∧ w := by
 cases b with
 | nil => exact ⟨rfl, h⟩
 | cons u b' => exact h.elim
theorem ytM {P : Program} : IOk P [] := fun f c h => by cases h
theorem ywp {P : Program} {f : Nat} {c : AFn} {l : List (Nat × AFn)} (h : trF P f = some c) (k : IOk P l) : IOk P ((f, c) :: l) := fun g d e => by
 simp only [lkI] at e
 split at e
 ·rename_i q; rw [<- nbeq.1 q]; cases e; exact h
 ·exact k g d e
def huR : (rs : List Nat) → RTy K rs → (List (DV K) → Prop) → Prop
 | [], w, D => @Eq Prop w (D [])
 | r :: rs, w, D => ∀ x : K r, huR rs (w x) fun b => D (.v r x :: b)
def huW (rs : List Nat) : (ps : List PD) → WTy K rs ps → (List (AD K) → List (DV K) → Prop) → Prop
 | [], w, D => huR rs w (D [])
 | .v p :: ps, w, D => ∀ x : K p, huW rs ps (w x) fun a => D (.d (.v p x) :: a)
 | .p p :: ps, w, D => ∀ x : K p, huW rs ps (w x) fun a => D (.d (.v p x) :: a)
 | .f az bs :: ps, w, D => ∀ F : FV K, huW rs ps (w (curF bs az F.W)) fun a => D (.f F :: a)
theorem ysV : ∀ {rs : List Nat} {w : RTy K rs} {D : List (DV K) → Prop} {b : List (DV K)}, huR rs w D → apR rs w b → D b
 | [], w, D, b, e, h => by
   obtain ⟨rfl, h⟩ := ywJ h
   have e : @Eq Prop w (D []) := e
   exact e ▸ h
 | r :: rs, w, D, b, e, h => by
   obtain ⟨x, b', rfl, k⟩ := yxf h
   exact ysV (rs := rs) (w := w x) (D := fun b => D (.v r x :: b)) (e x) k
theorem ynQ {rs : List Nat} : ∀ {ps : List PD} {w : WTy K rs ps} {D : List (AD K) → List (DV K) → Prop} {a : List (AD K)} {b : List (DV K)}, huW rs ps w D → appW rs ps w a b → a.length = ps.length ∧ D a b
 | [], w, D, a, b, e, h => by
   obtain ⟨rfl, h⟩ := yvW h
   exact ⟨rfl, ysV (w := w) e h⟩
 | .v p :: ps, w, D, a, b, e, h => by
   obtain ⟨x, a', rfl, k⟩ := ywi h
   obtain ⟨h1, h2⟩ := ynQ (ps := ps) (w := w x) (D := fun a => D (.d (.v p x) :: a)) (e x) k
   exact ⟨by simp [h1], h2⟩
 | .p p :: ps, w, D, a, b, e, h => by
   obtain ⟨x, a', rfl, k⟩ := yvV h
   obtain ⟨h1, h2⟩ := ynQ (ps := ps) (w := w x) (D := fun a => D (.d (.v p x) :: a)) (e x) k
   exact ⟨by simp [h1], h2⟩
 | .f az bs :: ps, w, D, a, b, e, h => by
   obtain ⟨F, a', rfl, k⟩ := yv9 h
   obtain ⟨h1, h2⟩ := ynQ (ps := ps) (w := w (curF bs az F.W)) (D := fun a => D (.f F :: a)) (e F) k
   exact ⟨by simp [h1], h2⟩
theorem yaC {P : Program} {F : Cf K} (hC : CxOk P F.C) (hS : SsOk P F.C F.S) (hL : SLOk P F.C F.L) {f : FuncId} {c : AFn} (hF : trF P f = some c) {A : An K} {ps : List PD} {rs : List Nat} {w : WTy K rs ps} (hN : F.N = c.N) (hps : Nat.ble ps.length c.N = true) (e : huW rs ps w (DnF F A c ps rs)) (hI : IOk P F.I := by exact ytM) (hY : F.Y = none := by rfl) : SpOk P F.C ⟨f, ps, rs, appW rs ps w⟩ := fun env r hFs h => by
 obtain ⟨h1, h2⟩ := ynQ e h
 exact ⟨h1, yu7 hC hS hL hF hN (Nat.le_of_ble_eq_true hps) h1 hFs h2 hI hY⟩
theorem yaJ {P : Program} {C : Cx K} : SsOk P C [] := fun sp h => by cases h
theorem yaN {P : Program} {C : Cx K} {sp : Sp K} {l : List (Sp K)} (h : SpOk P C sp) (k : SsOk P C l) : SsOk P C (sp :: l) := fun q hq => by
 rcases List.mem_cons.1 hq with rfl | hq
 ·exact h
 ·exact k q hq
end Go.AV
end
noncomputable section
namespace Go.Proofs.Ytkmehmgocelkiaa
open Go.AV
set_option maxRecDepth 1000000
def c4 : AFn := cF Try.prog 4
theorem t4 : trF Try.prog 4 = some c4 := tF (by kernel_rfl)
def c8 : AFn := cF Try.prog 8
theorem t8 : trF Try.prog 8 = some c8 := tF (by kernel_rfl)
def c10 : AFn := cF Try.prog 10
theorem t10 : trF Try.prog 10 = some c10 := tF (by kernel_rfl)
def c11 : AFn := cF Try.prog 11
theorem t11 : trF Try.prog 11 = some c11 := tF (by kernel_rfl)
def c13 : AFn := cF Try.prog 13
theorem t13 : trF Try.prog 13 = some c13 := tF (by kernel_rfl)
def c14 : AFn := cF Try.prog 14
theorem t14 : trF Try.prog 14 = some c14 := tF (by kernel_rfl)
def c15 : AFn := cF Try.prog 15
theorem t15 : trF Try.prog 15 = some c15 := tF (by kernel_rfl)
def c16 : AFn := cF Try.prog 16
theorem t16 : trF Try.prog 16 = some c16 := tF (by kernel_rfl)
def c17 : AFn := cF Try.prog 17
theorem t17 : trF Try.prog 17 = some c17 := tF (by kernel_rfl)
def c18 : AFn := cF Try.prog 18
theorem t18 : trF Try.prog 18 = some c18 := tF (by kernel_rfl)
def c22 : AFn := cF Try.prog 22
theorem t22 : trF Try.prog 22 = some c22 := tF (by kernel_rfl)
def c32 : AFn := cF Try.prog 32
theorem t32 : trF Try.prog 32 = some c32 := tF (by kernel_rfl)
def c36 : AFn := cF Try.prog 36
theorem t36 : trF Try.prog 36 = some c36 := tF (by kernel_rfl)
def c37 : AFn := cF Try.prog 37
theorem t37 : trF Try.prog 37 = some c37 := tF (by kernel_rfl)
def c39 : AFn := cF Try.prog 39
theorem t39 : trF Try.prog 39 = some c39 := tF (by kernel_rfl)
def c40 : AFn := cF Try.prog 40
theorem t40 : trF Try.prog 40 = some c40 := tF (by kernel_rfl)
def c41 : AFn := cF Try.prog 41
theorem t41 : trF Try.prog 41 = some c41 := tF (by kernel_rfl)
def c42 : AFn := cF Try.prog 42
theorem t42 : trF Try.prog 42 = some c42 := tF (by kernel_rfl)
def c43 : AFn := cF Try.prog 43
theorem t43 : trF Try.prog 43 = some c43 := tF (by kernel_rfl)
def c44 : AFn := cF Try.prog 44
theorem t44 : trF Try.prog 44 = some c44 := tF (by kernel_rfl)
def c45 : AFn := cF Try.prog 45
theorem t45 : trF Try.prog 45 = some c45 := tF (by kernel_rfl)
def c46 : AFn := cF Try.prog 46
theorem t46 : trF Try.prog 46 = some c46 := tF (by kernel_rfl)
def c47 : AFn := cF Try.prog 47
theorem t47 : trF Try.prog 47 = some c47 := tF (by kernel_rfl)
def c49 : AFn := cF Try.prog 49
theorem t49 : trF Try.prog 49 = some c49 := tF (by kernel_rfl)
def c58 : AFn := cF Try.prog 58
theorem t58 : trF Try.prog 58 = some c58 := tF (by kernel_rfl)
def c62 : AFn := cF Try.prog 62
theorem t62 : trF Try.prog 62 = some c62 := tF (by kernel_rfl)
def c63 : AFn := cF Try.prog 63
theorem t63 : trF Try.prog 63 = some c63 := tF (by kernel_rfl)
def c64 : AFn := cF Try.prog 64
theorem t64 : trF Try.prog 64 = some c64 := tF (by kernel_rfl)
def c65 : AFn := cF Try.prog 65
theorem t65 : trF Try.prog 65 = some c65 := tF (by kernel_rfl)
def c66 : AFn := cF Try.prog 66
theorem t66 : trF Try.prog 66 = some c66 := tF (by kernel_rfl)
def c67 : AFn := cF Try.prog 67
theorem t67 : trF Try.prog 67 = some c67 := tF (by kernel_rfl)
def c68 : AFn := cF Try.prog 68
theorem t68 : trF Try.prog 68 = some c68 := tF (by kernel_rfl)
def c69 : AFn := cF Try.prog 69
theorem t69 : trF Try.prog 69 = some c69 := tF (by kernel_rfl)
def c70 : AFn := cF Try.prog 70
theorem t70 : trF Try.prog 70 = some c70 := tF (by kernel_rfl)
def c71 : AFn := cF Try.prog 71
theorem t71 : trF Try.prog 71 = some c71 := tF (by kernel_rfl)
def c72 : AFn := cF Try.prog 72
theorem t72 : trF Try.prog 72 = some c72 := tF (by kernel_rfl)
def c74 : AFn := cF Try.prog 74
theorem t74 : trF Try.prog 74 = some c74 := tF (by kernel_rfl)
def c78 : AFn := cF Try.prog 78
theorem t78 : trF Try.prog 78 = some c78 := tF (by kernel_rfl)
def c86 : AFn := cF Try.prog 86
theorem t86 : trF Try.prog 86 = some c86 := tF (by kernel_rfl)
def c87 : AFn := cF Try.prog 87
theorem t87 : trF Try.prog 87 = some c87 := tF (by kernel_rfl)
def c88 : AFn := cF Try.prog 88
theorem t88 : trF Try.prog 88 = some c88 := tF (by kernel_rfl)
def c89 : AFn := cF Try.prog 89
theorem t89 : trF Try.prog 89 = some c89 := tF (by kernel_rfl)
def c90 : AFn := cF Try.prog 90
theorem t90 : trF Try.prog 90 = some c90 := tF (by kernel_rfl)
def c91 : AFn := cF Try.prog 91
theorem t91 : trF Try.prog 91 = some c91 := tF (by kernel_rfl)
def c92 : AFn := cF Try.prog 92
theorem t92 : trF Try.prog 92 = some c92 := tF (by kernel_rfl)
def c101 : AFn := cF Try.prog 101
theorem t101 : trF Try.prog 101 = some c101 := tF (by kernel_rfl)
def c102 : AFn := cF Try.prog 102
theorem t102 : trF Try.prog 102 = some c102 := tF (by kernel_rfl)
def c104 : AFn := cF Try.prog 104
theorem t104 : trF Try.prog 104 = some c104 := tF (by kernel_rfl)
def c105 : AFn := cF Try.prog 105
theorem t105 : trF Try.prog 105 = some c105 := tF (by kernel_rfl)
def c107 : AFn := cF Try.prog 107
theorem t107 : trF Try.prog 107 = some c107 := tF (by kernel_rfl)
def c108 : AFn := cF Try.prog 108
theorem t108 : trF Try.prog 108 = some c108 := tF (by kernel_rfl)
end Go.Proofs.Ytkmehmgocelkiaa
end
noncomputable section
namespace Go.Proofs.Ytkmehmgocelkiaa
open Go.AV Go.RowKit
set_option maxRecDepth 100000
structure ybw where
 Kind : Int
 N : Int
 S : Str
structure yaa where
 Kind : Int
 N : Int
 S : Str
structure ybv where
 Kind : Int
 N : Int
 S : Str
structure yaj where
 rows : (List (List yaa))
inductive TC where
 | c0
 | c2
 | c3
 | c4
 | c5
 | c9
 | c22
 | c24
 | c25
 | c29
 | c31
 | c37
 | c39
 | c50
 | c75
 | c88
 | c93
 | c97
 | c111
 | c116
 | c130
 | c161
def KF : TC → Type
 | .c0 => Unit
 | .c2 => Int
 | .c3 => Int
 | .c4 => Bool
 | .c5 => Int
 | .c9 => Str
 | .c22 => (List (List ybw))
 | .c24 => (List (List yaa))
 | .c25 => (List (List ybv))
 | .c29 => (List yaa)
 | .c31 => yaj
 | .c37 => (List Str)
 | .c39 => Int
 | .c50 => (List ybv)
 | .c75 => (List Int)
 | .c88 => yaa
 | .c93 => (List ybw)
 | .c97 => (List yaj)
 | .c111 => Int
 | .c116 => ybv
 | .c130 => ybw
 | .c161 => (List Int)
def ywO : List (Nat × TC) := [(2, .c2), (3, .c3), (4, .c4), (5, .c5), (9, .c9), (22, .c22), (24, .c24), (25, .c25), (29, .c29), (31, .c31), (37, .c37), (39, .c39), (50, .c50), (75, .c75), (88, .c88), (93, .c93), (97, .c97), (111, .c111), (116, .c116), (130, .c130), (161, .c161)]
def code (t : Nat) : TC := lkC .c0 ywO t
abbrev KK (t : Nat) : Type := KF (code t)
def yct : Enc ybw := ynv ((yho (tbI .u8) (yho (tbI .u8) tbS)) : Tb KK _).E (fun x : ybw => (x.Kind, x.N, x.S))
def b130 : Tb KK ybw := yoO (yho (tbI .u8) (yho (tbI .u8) tbS)) (fun x : ybw => (x.Kind, x.N, x.S)) (fun y => (⟨y.1, y.2.1, y.2.2⟩ : ybw)) yct
def ybU : Enc yaa := ynv ((yho (tbI .i64) (yho (tbI .i64) tbS)) : Tb KK _).E (fun x : yaa => (x.Kind, x.N, x.S))
def b88 : Tb KK yaa := yoO (yho (tbI .i64) (yho (tbI .i64) tbS)) (fun x : yaa => (x.Kind, x.N, x.S)) (fun y => (⟨y.1, y.2.1, y.2.2⟩ : yaa)) ybU
def ycC : Enc ybv := ynv ((yho (tbI .i64) (yho (tbI .i64) tbS)) : Tb KK _).E (fun x : ybv => (x.Kind, x.N, x.S))
def b116 : Tb KK ybv := yoO (yho (tbI .i64) (yho (tbI .i64) tbS)) (fun x : ybv => (x.Kind, x.N, x.S)) (fun y => (⟨y.1, y.2.1, y.2.2⟩ : ybv)) ycC
def yfP : Enc yaj := ynv ((tbL 29 (eSl ybU) : Tb KK (List (List yaa))) : Tb KK _).E (fun x : yaj => x.rows)
def b31 : Tb KK yaj := yoO (tbL 29 (eSl ybU) : Tb KK (List (List yaa))) (fun x : yaj => x.rows) (fun y => (⟨y⟩ : yaj)) yfP
def TF : (c : TC) → Tb KK (KF c)
 | .c0 => tbU
 | .c2 => (tbI .i64)
 | .c3 => (tbI .i64)
 | .c4 => tbB
 | .c5 => (tbI .u8)
 | .c9 => tbS
 | .c22 => (tbL 93 (eSl yct) : Tb KK (List (List ybw)))
 | .c24 => (tbL 29 (eSl ybU) : Tb KK (List (List yaa)))
 | .c25 => (tbL 50 (eSl ycC) : Tb KK (List (List ybv)))
 | .c29 => (tbL 88 ybU : Tb KK (List yaa))
 | .c31 => b31
 | .c37 => (tbL 9 eS : Tb KK (List Str))
 | .c39 => (tbI .i64)
 | .c50 => (tbL 116 ycC : Tb KK (List ybv))
 | .c75 => (tbL 5 (eI .u8) : Tb KK (List Int))
 | .c88 => b88
 | .c93 => (tbL 130 yct : Tb KK (List ybw))
 | .c97 => (tbL 31 yfP : Tb KK (List yaj))
 | .c111 => (tbI .u64)
 | .c116 => b116
 | .c130 => b130
 | .c161 => (tbL 3 (eI .i64) : Tb KK (List Int))
def CC : Cx KK := @cxOf TC KF code TF
theorem ymF : TbOk Try.prog CC b130 := yiU (ygu (yfZ _) (ygu (yfZ _) yn5)) (fun y => rfl) (fun x => rfl)
theorem ygJ : ∀ x, dwks (yct.c x) = yct.c x := ymF.dw
theorem ygR : ∀ x m, hlts m (yct.c x) = true := ymF.hl
theorem yp8 : TbOk Try.prog CC b88 := yiU (ygu (yfZ _) (ygu (yfZ _) yn5)) (fun y => rfl) (fun x => rfl)
theorem yeR : ∀ x, dwks (ybU.c x) = ybU.c x := yp8.dw
theorem yeQ : ∀ x m, hlts m (ybU.c x) = true := yp8.hl
theorem ymx : TbOk Try.prog CC b116 := yiU (ygu (yfZ _) (ygu (yfZ _) yn5)) (fun y => rfl) (fun x => rfl)
theorem ygN : ∀ x, dwks (ycC.c x) = ycC.c x := ymx.dw
theorem ygI : ∀ x m, hlts m (ycC.c x) = true := ymx.hl
theorem ypI : TbOk Try.prog CC b31 := yiU (yfR _ rfl (yn3 yeR) (ylD yeQ)) (fun y => rfl) (fun x => rfl)
theorem yoK : ∀ x, dwks (yfP.c x) = yfP.c x := ypI.dw
theorem yo0 : ∀ x m, hlts m (yfP.c x) = true := ypI.hl
theorem ybG : CxOk Try.prog CC := @yuM TC KF code _ TF fun c => match c with
 | .c0 => yu2
 | .c2 => (yfZ _)
 | .c3 => (yfZ _)
 | .c4 => yvE
 | .c5 => (yfZ _)
 | .c9 => yn5
 | .c22 => (yfR _ rfl (yn3 ygJ) (ylD ygR))
 | .c24 => (yfR _ rfl (yn3 yeR) (ylD yeQ))
 | .c25 => (yfR _ rfl (yn3 ygN) (ylD ygI))
 | .c29 => (yfR _ rfl yeR yeQ)
 | .c31 => ypI
 | .c37 => (yfR _ rfl (fun _ => rfl) (fun _ _ => rfl))
 | .c39 => (yfZ _)
 | .c50 => (yfR _ rfl ygN ygI)
 | .c75 => (yfR _ rfl (fun _ => rfl) (fun _ _ => rfl))
 | .c88 => yp8
 | .c93 => (yfR _ rfl ygJ ygR)
 | .c97 => (yfR _ rfl yoK yo0)
 | .c111 => (yfZ _)
 | .c116 => ymx
 | .c130 => ymF
 | .c161 => (yfR _ rfl (fun _ => rfl) (fun _ _ => rfl))
def ybS (a0 : Int) (r0 : yaa) : Prop :=
 (⟨(2 : Int), a0, ([] : Str)⟩ : yaa) = r0
def ygH : Sp KK := ⟨36, [.v 2], [88], appW (K := KK) [88] [.v 2] ybS⟩
def yj2 : An KK := (.s .o (.s .o .o))
def yjY : Cf KK := ⟨CC, [], [], 5, [], none, false⟩
theorem yjZ : SpOk Try.prog CC ygH := yaC (F := yjY) (ps := [.v 2]) (rs := [88]) (w := ybS) ybG yaJ yaL t36 (A := yj2) (by kernel_rfl) (by kernel_rfl) (fun a0 r0 => show _ = _ by kernel_rfl)
def ydn (a0 : Int) (r0 : Bool) : Prop :=
 (!(a0 == a0)) = r0
def yfB : Sp KK := ⟨90, [.v 3], [4], appW (K := KK) [4] [.v 3] ydn⟩
def yiD : An KK := (.s .o (.s .o .o))
def yiE : Cf KK := ⟨CC, [], [], 6, [], none, false⟩
theorem yiA : SpOk Try.prog CC yfB := yaC (F := yiE) (ps := [.v 3]) (rs := [4]) (w := ydn) ybG yaJ yaL t90 (A := yiD) (by kernel_rfl) (by kernel_rfl) (fun a0 r0 => show _ = _ by kernel_rfl)
def ycz (a0 a1 r0 : Int) : Prop :=
 ∃ z1, (ydn a0 z1) /\ ∃ z2, (ydn a1 z2) /\ cnd z1 (cnd z2 ((0 : Int) = r0) ((-1 : Int) = r0)) (cnd z2 ((1 : Int) = r0) (cnd (decide (a0 < a1)) ((-1 : Int) = r0) (cnd (decide (a1 < a0)) ((1 : Int) = r0) ((0 : Int) = r0))))
def yeK : Sp KK := ⟨69, [.v 3, .v 3], [3], appW (K := KK) [3] [.v 3, .v 3] ycz⟩
def yhz : An KK := (.s .o (.s .o (.s .o (.s (.s .o (.c (.s (.s .o (.c (.s .o .o) .o)) (.s .o .o)) .o)) (.s (.s .o (.c (.s .o .o) .o)) (.s (.s .o (.c (.s .o .o) .o)) (.s (.s .o (.c (.s .o .o) .o)) (.s .o .o))))))))
def yhA : Cf KK := ⟨CC, [yfB], [], 20, [], none, false⟩
theorem yhN : SpOk Try.prog CC yeK := yaC (F := yhA) (ps := [.v 3, .v 3]) (rs := [3]) (w := ycz) ybG (yaN yiA yaJ) yaL t69 (A := yhz) (by kernel_rfl) (by kernel_rfl) (fun a0 a1 r0 => show _ = _ by kernel_rfl)
def ycx (a0 : Int) (r0 : Bool) : Prop :=
 (!(a0 == a0)) = r0
def yeN : Sp KK := ⟨91, [.v 2], [4], appW (K := KK) [4] [.v 2] ycx⟩
def yhK : An KK := (.s .o (.s .o .o))
def yhC : Cf KK := ⟨CC, [], [], 6, [], none, false⟩
theorem yhM : SpOk Try.prog CC yeN := yaC (F := yhC) (ps := [.v 2]) (rs := [4]) (w := ycx) ybG yaJ yaL t91 (A := yhK) (by kernel_rfl) (by kernel_rfl) (fun a0 r0 => show _ = _ by kernel_rfl)
def yb6 (a0 a1 r0 : Int) : Prop :=
 ∃ z1, (ycx a0 z1) /\ ∃ z2, (ycx a1 z2) /\ cnd z1 (cnd z2 ((0 : Int) = r0) ((-1 : Int) = r0)) (cnd z2 ((1 : Int) = r0) (cnd (decide (a0 < a1)) ((-1 : Int) = r0) (cnd (decide (a1 < a0)) ((1 : Int) = r0) ((0 : Int) = r0))))
def yel : Sp KK := ⟨70, [.v 2, .v 2], [3], appW (K := KK) [3] [.v 2, .v 2] yb6⟩
def ygA : An KK := (.s .o (.s .o (.s .o (.s (.s .o (.c (.s (.s .o (.c (.s .o .o) .o)) (.s .o .o)) .o)) (.s (.s .o (.c (.s .o .o) .o)) (.s (.s .o (.c (.s .o .o) .o)) (.s (.s .o (.c (.s .o .o) .o)) (.s .o .o))))))))
def ygC : Cf KK := ⟨CC, [yeN], [], 20, [], none, false⟩
theorem ygD : SpOk Try.prog CC yel := yaC (F := ygC) (ps := [.v 2, .v 2]) (rs := [3]) (w := yb6) ybG (yaN yhM yaJ) yaL t70 (A := ygA) (by kernel_rfl) (by kernel_rfl) (fun a0 a1 r0 => show _ = _ by kernel_rfl)
def ych (a0 : Str) (r0 : Bool) : Prop :=
 (!(a0 == a0)) = r0
def yeA : Sp KK := ⟨92, [.v 9], [4], appW (K := KK) [4] [.v 9] ych⟩
def yhj : An KK := (.s .o (.s .o .o))
def ygS : Cf KK := ⟨CC, [], [], 6, [], none, false⟩
theorem yhn : SpOk Try.prog CC yeA := yaC (F := ygS) (ps := [.v 9]) (rs := [4]) (w := ych) ybG yaJ yaL t92 (A := yhj) (by kernel_rfl) (by kernel_rfl) (fun a0 r0 => show _ = _ by kernel_rfl)
def yb0 (a0 a1 : Str) (r0 : Int) : Prop :=
 ∃ z1, (ych a0 z1) /\ ∃ z2, (ych a1 z2) /\ cnd z1 (cnd z2 ((0 : Int) = r0) ((-1 : Int) = r0)) (cnd z2 ((1 : Int) = r0) (cnd (Op.bytesLess a0 a1) ((-1 : Int) = r0) (cnd (!(Op.bytesLess a0 a1 || a0 == a1)) ((1 : Int) = r0) ((0 : Int) = r0))))
def ydZ : Sp KK := ⟨71, [.v 9, .v 9], [3], appW (K := KK) [3] [.v 9, .v 9] yb0⟩
def yfN : An KK := (.s .o (.s .o (.s .o (.s (.s .o (.c (.s (.s .o (.c (.s .o .o) .o)) (.s .o .o)) .o)) (.s (.s .o (.c (.s .o .o) .o)) (.s (.s .o (.c (.s .o .o) .o)) (.s (.s .o (.c (.s .o .o) .o)) (.s .o .o))))))))
def yf3 : Cf KK := ⟨CC, [yeA], [], 20, [], none, false⟩
theorem yf1 : SpOk Try.prog CC ydZ := yaC (F := yf3) (ps := [.v 9, .v 9]) (rs := [3]) (w := yb0) ybG (yaN yhn yaJ) yaL t71 (A := yfN) (by kernel_rfl) (by kernel_rfl) (fun a0 a1 r0 => show _ = _ by kernel_rfl)
def ykJ (a0 : List Int) (r0 : Int) (X1 : Int → Prop) (x1 : Int) : Prop :=
 cnd (decide (x1 < (a0.length : Int))) ((0 <= x1) /\ (x1 < (a0.length : Int)) /\ ∃ y2 : Int, (a0[x1.toNat]? = some y2) /\ cnd (!(y2 == (0 : Int))) (y2 = r0) (X1 (IntKind.i64.wrap (x1 + (1 : Int))))) ((0 : Int) = r0)
def yd6 (a0 : List Int) (r0 : Int) : Prop :=
 (a0.length <= maxLen -> ∀ X1 : Int -> Prop, (∀ x1, ykJ a0 r0 X1 x1 -> X1 x1) -> X1 (0 : Int))
def yhF : Sp KK := ⟨68, [.v 161], [3], appW (K := KK) [3] [.v 161] yd6⟩
def ykw : An KK := (.s .o (.s .o (.s (.s .o (.b (.l ⟨[(3, .kp 5), (6, .kp 6), (7, .kp 7), (8, .it .i64)], [], []⟩ (fun _ => (.s .o (.s (.c .o .o) (.s (.b (.s .o (.s .o (.c (.s .o .o) .o)))) .o))))))) (.s .o .o))))
def ykD : Cf KK := ⟨CC, [], [], 18, [], none, false⟩
theorem yk6 : SpOk Try.prog CC yhF := yaC (F := ykD) (ps := [.v 161]) (rs := [3]) (w := yd6) ybG yaJ yaL t68 (A := ykw) (by kernel_rfl) (by kernel_rfl) (fun a0 r0 => show _ = _ by kernel_rfl)
def ydl (a0 a1 : yaa) (r0 : Int) : Prop :=
 ∃ z1, (ycz a0.Kind a1.Kind z1) /\ ∃ z2, (yb6 a0.N a1.N z2) /\ ∃ z3, (yb0 a0.S a1.S z3) /\ ∃ z4, (yd6 ([z1, z2, z3] : List Int) z4) /\ z4 = r0
def yfz : Sp KK := ⟨46, [.v 88, .v 88], [3], appW (K := KK) [3] [.v 88, .v 88] ydl⟩
def yiG : An KK := (.s .o (.s .o .o))
def yiF : Cf KK := ⟨CC, [yeK, yel, ydZ, yhF], [], 22, [], none, false⟩
theorem yiB : SpOk Try.prog CC yfz := yaC (F := yiF) (ps := [.v 88, .v 88]) (rs := [3]) (w := ydl) ybG (yaN yhN (yaN ygD (yaN yf1 (yaN yk6 yaJ)))) yaL t46 (A := yiG) (by kernel_rfl) (by kernel_rfl) (fun a0 a1 r0 => show _ = _ by kernel_rfl)
def yex (a0 a1 : List yaa) (r0 : Int) (g2 : yaa → yaa → Int → Prop) (X1 : Int → Prop) (x1 : Int) : Prop :=
 cnd (decide (x1 < (a0.length : Int))) ((0 <= x1) /\ (x1 < (a0.length : Int)) /\ ∃ y2 : yaa, (a0[x1.toNat]? = some y2) /\ (a1.length <= maxLen -> cnd (decide ((a1.length : Int) <= x1)) ((1 : Int) = r0) ((0 <= x1) /\ (x1 < (a1.length : Int)) /\ ∃ y3 : yaa, (a1[x1.toNat]? = some y3) /\ ∃ z4, (g2 y2 y3 z4) /\ cnd (!(z4 == (0 : Int))) (z4 = r0) (X1 (IntKind.i64.wrap (x1 + (1 : Int))))))) ((a0.length <= maxLen -> (a1.length <= maxLen -> cnd (decide ((a0.length : Int) < (a1.length : Int))) ((-1 : Int) = r0) ((0 : Int) = r0))))
def ybP (a0 a1 : List yaa) (g2 : yaa → yaa → Int → Prop) (r0 : Int) : Prop :=
 (a0.length <= maxLen -> ∀ X1 : Int -> Prop, (∀ x1, yex a0 a1 r0 g2 X1 x1 -> X1 x1) -> X1 (0 : Int))
def ycr : Sp KK := ⟨45, [.v 29, .v 29, .f [88, 88] [3]], [3], appW (K := KK) [3] [.v 29, .v 29, .f [88, 88] [3]] ybP⟩
def yet : An KK := (.s .o (.s (.s .o (.b (.l ⟨[(0, .kp 7), (1, .kp 8), (2, .kp 9), (11, .kp 10), (12, .kp 11), (13, .it .i64)], [], []⟩ (fun _ => (.s .o (.s (.c .o .o) (.s (.b (.s .o (.s (.s .o (.c (.s .o .o) .o)) (.s .o (.s .o (.s .o (.c (.s .o .o) .o))))))) .o))))))) (.s (.s .o (.c (.s .o .o) .o)) (.s .o .o))))
def yer : Cf KK := ⟨CC, [], [], 39, [], none, false⟩
theorem yep : SpOk Try.prog CC ycr := yaC (F := yer) (ps := [.v 29, .v 29, .f [88, 88] [3]]) (rs := [3]) (w := ybP) ybG yaJ yaL t45 (A := yet) (by kernel_rfl) (by kernel_rfl) (fun a0 a1 F2 r0 => show _ = _ by kernel_rfl)
def ya4 (a0 a1 : List yaa) (r0 : Int) : Prop :=
 ∃ z1, (ybP a0 a1 ydl z1) /\ z1 = r0
def yb9 : Sp KK := ⟨17, [.v 29, .v 29], [3], appW (K := KK) [3] [.v 29, .v 29] ya4⟩
def yj0 : An KK := (.s .o (.s .o .o))
def yjX : Cf KK := ⟨CC, [yfz, ycr], [], 8, [], none, false⟩
theorem ycN : SpOk Try.prog CC yb9 := yaC (F := yjX) (ps := [.v 29, .v 29]) (rs := [3]) (w := ya4) ybG (yaN yiB (yaN yep yaJ)) yaL t17 (A := yj0) (by kernel_rfl) (by kernel_rfl) (fun a0 a1 r0 => show _ = _ by kernel_rfl)
def ycb (a0 r0 : List (List yaa)) : Prop :=
 a0 = r0
def ybJ : Sl KK := ⟨64, [], ⟨[(0, .sl 29)], [], []⟩, ⟨[(2, .fn 88 [] [.px 1000000 0])], [(1000000, 24, [.sl 29])], []⟩, [], [(2, none)], true, fun _ _ _ => True⟩
def ybH : Sl KK := ⟨64, [], ⟨[(0, .sl 29)], [], []⟩, ⟨[(2, .fn 88 [] [.px 1000000 0])], [(1000000, 24, [.sl 29])], []⟩, [], [(2, none)], true, apFs (K := KK) (ctT ybJ.ti) (ctT ybJ.te) [] ycb⟩
def yft : An KK := (.s .o (.s .o .o))
def ye9 : Cf KK := ⟨CC, [], [], 4, [], none, false⟩
theorem yfm : SlOk Try.prog CC ybH := by
 intro fs env out hl hF hW
 obtain ⟨rfl, h0⟩ := yfA hW
 obtain ⟨a0, ea0, rfl, h1⟩ := ybX h0
 obtain ⟨rfl, h2⟩ := yfE h1
 obtain ⟨r0, er0, rfl, h3⟩ := yej h2
 obtain ⟨rfl, h4⟩ := yeg h3
 show SlC Try.prog CC ybH [] [.l 29 a0] [.l 29 r0]
 rw [show SlC Try.prog CC ybH [] [.l 29 a0] [.l 29 r0] = SlC Try.prog CC ybJ [] [.l 29 a0] [.l 29 r0] by kernel_rfl]
 exact yf0 (F := ye9) ybG yaJ yaL t64 (A := yft) (sp := ybJ) rfl (by kernel_rfl) (by kernel_rfl) (Nat.le_of_ble_eq_true (by kernel_rfl)) (fs := []) (env := [.l 29 a0]) (out := [.l 29 r0]) (by kernel_rfl) hF (X := ycb a0 r0) h4 (by kernel_rfl)
def yeG (a0 r0 : List (List yaa)) (X1 : Int → (List (List yaa)) → Prop) (x1 : Int) (x2 : List (List yaa)) : Prop :=
 cnd (decide (x1 < (a0.length : Int))) ((0 <= x1) /\ (x1 < (a0.length : Int)) /\ ∃ y3 : (List yaa), (a0[x1.toNat]? = some y3) /\ (x2.length <= 1000000000) /\ X1 (IntKind.i64.wrap (x1 + (1 : Int))) (x2 ++ ([y3] : List (List yaa)))) (((a0 = a0)) /\ x2 = r0)
def ybV (a0 a1 r0 : List (List yaa)) : Prop :=
 (Nat -> (a0.length <= maxLen -> ∀ X1 : Int -> (List (List yaa)) -> Prop, (∀ x1 x2, yeG a0 r0 X1 x1 x2 -> X1 x1 x2) -> X1 (0 : Int) a1))
def ybs : Sl KK := ⟨101, [], ⟨[(0, .row 2000000), (1, .fn 88 [] [.px 2000001 0])], [(2000001, 24, [.sl 29])], [(2000000, 29)]⟩, ⟨[(4, .row 1000000)], [], [(1000000, 29)]⟩, [2000001], [(4, none)], false, fun _ _ _ => True⟩
def ybr : Sl KK := ⟨101, [], ⟨[(0, .row 2000000), (1, .fn 88 [] [.px 2000001 0])], [(2000001, 24, [.sl 29])], [(2000000, 29)]⟩, ⟨[(4, .row 1000000)], [], [(1000000, 29)]⟩, [2000001], [(4, none)], false, apFs (K := KK) (ctT ybs.ti) (ctT ybs.te) [] ybV⟩
def yeE : An KK := (.s .o (.s (.s .o (.b (.g 1 ⟨[(2, .px 100002 0), (6, .fn 88 [] [.px 2000001 0])], [(100002, 24, [.row 2000000]), (2000001, 24, [.sl 29])], [(2000000, 29)]⟩ ⟨[(0, .kp 1), (5, .kp 6), (6, .kp 7), (7, .it .i64), (11, .kp 1), (12, .sl 88), (16, .kp 1), (19, .px 200002 0)], [(200002, 24, [.row 200011]), (2000001, 24, [.kp 9])], [(200011, 29)]⟩ (.s .o (.b (.l ⟨[(0, .kp 1), (5, .kp 6), (6, .kp 7), (7, .it .i64), (16, .kp 1), (19, .px 100002 0)], [(100002, 24, [.row 11]), (2000001, 24, [.kp 9])], [(11, 29)]⟩ (fun _ => (.s .o (.s (.c .o .o) (.s (.b (.s .o (.s .o (.c .o .o)))) .o))))))) .o (.b .o)))) (.s .o .o)))
def yeB : Cf KK := ⟨CC, [], [], 13, [(88, c88)], none, false⟩
theorem yeH : SlOk Try.prog CC ybr := by
 intro fs env out hl hF hW
 obtain ⟨rfl, h0⟩ := yfA hW
 obtain ⟨a0, ea0, rfl, h1⟩ := ybX h0
 obtain ⟨a1, ea1, rfl, h2⟩ := ybX h1
 obtain ⟨rfl, h3⟩ := yfE h2
 obtain ⟨r0, er0, rfl, h4⟩ := yej h3
 obtain ⟨rfl, h5⟩ := yeg h4
 show SlC Try.prog CC ybr [] [.l 29 a0, .l 29 a1] [.l 29 r0]
 rw [show SlC Try.prog CC ybr [] [.l 29 a0, .l 29 a1] [.l 29 r0] = SlC Try.prog CC ybs [] [.l 29 a0, .l 29 a1] [.l 29 r0] by kernel_rfl]
 exact yf0 (F := yeB) ybG yaJ yaL t101 (A := yeE) (sp := ybs) rfl (by kernel_rfl) (by kernel_rfl) (Nat.le_of_ble_eq_true (by kernel_rfl)) (fs := []) (env := [.l 29 a0, .l 29 a1]) (out := [.l 29 r0]) (by kernel_rfl) hF (X := ybV a0 a1 r0) h5 (by kernel_rfl) (hI := (ywp t88 ytM))
def ybI (a0 r0 : List (List yaa)) : Prop :=
 ∃ z1, (ybV a0 ([] : List (List yaa)) z1) /\ ((a0 = a0)) /\ z1 = r0
def ybD : Sl KK := ⟨86, [], ⟨[(0, .fn 88 [] [.px 2000000 0])], [(2000000, 24, [.sl 29])], []⟩, ⟨[(2, .row 1000000)], [], [(1000000, 29)]⟩, [2000000], [(2, none)], false, fun _ _ _ => True⟩
def ybC : Sl KK := ⟨86, [], ⟨[(0, .fn 88 [] [.px 2000000 0])], [(2000000, 24, [.sl 29])], []⟩, ⟨[(2, .row 1000000)], [], [(1000000, 29)]⟩, [2000000], [(2, none)], false, apFs (K := KK) (ctT ybD.ti) (ctT ybD.te) [] ybI⟩
def yeV : An KK := (.s .o (.s .o .o))
def ye7 : Cf KK := ⟨CC, [], [ybr], 5, [], none, false⟩
theorem yeX : SlOk Try.prog CC ybC := by
 intro fs env out hl hF hW
 obtain ⟨rfl, h0⟩ := yfA hW
 obtain ⟨a0, ea0, rfl, h1⟩ := ybX h0
 obtain ⟨rfl, h2⟩ := yfE h1
 obtain ⟨r0, er0, rfl, h3⟩ := yej h2
 obtain ⟨rfl, h4⟩ := yeg h3
 show SlC Try.prog CC ybC [] [.l 29 a0] [.l 29 r0]
 rw [show SlC Try.prog CC ybC [] [.l 29 a0] [.l 29 r0] = SlC Try.prog CC ybD [] [.l 29 a0] [.l 29 r0] by kernel_rfl]
 exact yf0 (F := ye7) ybG yaJ (yfC yeH yaL) t86 (A := yeV) (sp := ybD) rfl (by kernel_rfl) (by kernel_rfl) (Nat.le_of_ble_eq_true (by kernel_rfl)) (fs := []) (env := [.l 29 a0]) (out := [.l 29 r0]) (by kernel_rfl) hF (X := ybI a0 r0) h4 (by kernel_rfl)
def yaS (x3 : Int) (X2 X1 : Int → (List (List yaa)) → Prop) (x1 : Int) (x5 : Bool) (x6 : List (List yaa)) : Prop :=
 cnd x5 ((0 <= (IntKind.i64.wrap (x3 - (1 : Int)))) /\ ((IntKind.i64.wrap (x3 - (1 : Int))) < (x6.length : Int)) /\ ∃ y7 : (List yaa), (x6[(IntKind.i64.wrap (x3 - (1 : Int))).toNat]? = some y7) /\ (0 <= x3) /\ (x3 < (x6.length : Int)) /\ ∃ y8 : (List yaa), (x6[x3.toNat]? = some y8) /\ (0 <= x3) /\ (x3 < (x6.length : Int)) /\ ∃ y9 : (List yaa), (x6[x3.toNat]? = some y9) /\ (0 <= (IntKind.i64.wrap (x3 - (1 : Int)))) /\ ((IntKind.i64.wrap (x3 - (1 : Int))) < ((x6.set x3.toNat y7).length : Int)) /\ ∃ y10 : (List yaa), ((x6.set x3.toNat y7)[(IntKind.i64.wrap (x3 - (1 : Int))).toNat]? = some y10) /\ X2 (IntKind.i64.wrap (x3 - (1 : Int))) ((x6.set x3.toNat y7).set ((IntKind.i64.wrap (x3 - (1 : Int))).toNat) y8)) (X1 (IntKind.i64.wrap (x1 + (1 : Int))) x6)
def yaU (X1 : Int → (List (List yaa)) → Prop) (x1 a0 : Int) (g3 : (List yaa) → (List yaa) → Int → Prop) (X2 : Int → (List (List yaa)) → Prop) (x3 : Int) (x4 : List (List yaa)) : Prop :=
 ∀ J3 : Bool -> (List (List yaa)) -> Prop, (∀ x5 x6, yaS x3 X2 X1 x1 x5 x6 -> J3 x5 x6) -> cnd (decide (a0 < x3)) ((0 <= x3) /\ (x3 < (x4.length : Int)) /\ ∃ y11 : (List yaa), (x4[x3.toNat]? = some y11) /\ (0 <= (IntKind.i64.wrap (x3 - (1 : Int)))) /\ ((IntKind.i64.wrap (x3 - (1 : Int))) < (x4.length : Int)) /\ ∃ y12 : (List yaa), (x4[(IntKind.i64.wrap (x3 - (1 : Int))).toNat]? = some y12) /\ ∃ z13, (g3 y11 y12 z13) /\ J3 (decide (z13 < (0 : Int))) x4) (J3 false x4)
def yaT (a1 a0 : Int) (g3 : (List yaa) → (List yaa) → Int → Prop) (r0 : List (List yaa)) (X1 : Int → (List (List yaa)) → Prop) (x1 : Int) (x2 : List (List yaa)) : Prop :=
 cnd (decide (x1 < a1)) (∀ X2 : Int -> (List (List yaa)) -> Prop, (∀ x3 x4, yaU X1 x1 a0 g3 X2 x3 x4 -> X2 x3 x4) -> X2 x1 x2) (x2 = r0)
def yaf (g3 : (List yaa) → (List yaa) → Int → Prop) (a0 a1 : Int) (a2 r0 : List (List yaa)) : Prop :=
 ∀ X1 : Int -> (List (List yaa)) -> Prop, (∀ x1 x2, yaT a1 a0 g3 r0 X1 x1 x2 -> X1 x1 x2) -> X1 (IntKind.i64.wrap (a0 + (1 : Int))) a2
def yah (X1 X2 : Int → (List (List yaa)) → Prop) (x1 x3 : Int) (x5 : Bool) (x6 : List (List yaa)) : Prop :=
 cnd x5 ((0 <= (IntKind.i64.wrap (x3 - (1 : Int)))) /\ ((IntKind.i64.wrap (x3 - (1 : Int))) < (x6.length : Int)) /\ ∃ y7 : (List yaa), (x6[(IntKind.i64.wrap (x3 - (1 : Int))).toNat]? = some y7) /\ (0 <= x3) /\ (x3 < (x6.length : Int)) /\ ∃ y8 : (List yaa), (x6[x3.toNat]? = some y8) /\ (0 <= x3) /\ (x3 < (x6.length : Int)) /\ ∃ y9 : (List yaa), (x6[x3.toNat]? = some y9) /\ (0 <= (IntKind.i64.wrap (x3 - (1 : Int)))) /\ ((IntKind.i64.wrap (x3 - (1 : Int))) < ((x6.set x3.toNat y7).length : Int)) /\ ∃ y10 : (List yaa), ((x6.set x3.toNat y7)[(IntKind.i64.wrap (x3 - (1 : Int))).toNat]? = some y10) /\ X2 (IntKind.i64.wrap (x3 - (1 : Int))) ((x6.set x3.toNat y7).set ((IntKind.i64.wrap (x3 - (1 : Int))).toNat) y8)) (X1 (IntKind.i64.wrap (x1 + (1 : Int))) x6)
def yas (X1 : Int → (List (List yaa)) → Prop) (a0 : Int) (g3 : (List yaa) → (List yaa) → Int → Prop) (x1 : Int) (X2 : Int → (List (List yaa)) → Prop) (x3 : Int) (x4 : List (List yaa)) : Prop :=
 cnd (decide (a0 < x3)) ((0 <= x3) /\ (x3 < (x4.length : Int)) /\ ∃ y11 : (List yaa), (x4[x3.toNat]? = some y11) /\ (0 <= (IntKind.i64.wrap (x3 - (1 : Int)))) /\ ((IntKind.i64.wrap (x3 - (1 : Int))) < (x4.length : Int)) /\ ∃ y12 : (List yaa), (x4[(IntKind.i64.wrap (x3 - (1 : Int))).toNat]? = some y12) /\ ∃ z13, (g3 y11 y12 z13) /\ yah X1 X2 x1 x3 (decide (z13 < (0 : Int))) x4) (yah X1 X2 x1 x3 false x4)
def yat (a0 a1 : Int) (g3 : (List yaa) → (List yaa) → Int → Prop) (r0 : List (List yaa)) (X1 : Int → (List (List yaa)) → Prop) (x1 : Int) (x2 : List (List yaa)) : Prop :=
 cnd (decide (x1 < a1)) (∀ X2 : Int -> (List (List yaa)) -> Prop, (∀ x3 x4, yas X1 a0 g3 x1 X2 x3 x4 -> X2 x3 x4) -> X2 x1 x2) (x2 = r0)
def yaV (g3 : (List yaa) → (List yaa) → Int → Prop) (a0 a1 : Int) (a2 r0 : List (List yaa)) : Prop :=
 ∀ X1 : Int -> (List (List yaa)) -> Prop, (∀ x1 x2, yat a0 a1 g3 r0 X1 x1 x2 -> X1 x1 x2) -> X1 (IntKind.i64.wrap (a0 + (1 : Int))) a2
theorem ycs (X1 X2 : Int → (List (List yaa)) → Prop) (x1 x3 : Int) {x5 : Bool} {x6 : List (List yaa)} (h : yah X1 X2 x1 x3 x5 x6) : yaS x3 X2 X1 x1 x5 x6 := by
 unfold yaS
 unfold yah at h
 exact h
theorem yck (X1 : Int → (List (List yaa)) → Prop) (a0 : Int) (g3 : (List yaa) → (List yaa) → Int → Prop) (x1 : Int) {X2 : Int → (List (List yaa)) → Prop} {x3 : Int} {x4 : List (List yaa)} (h : yas X1 a0 g3 x1 X2 x3 x4) : yaU X1 x1 a0 g3 X2 x3 x4 := by
 unfold yaU
 unfold yas at h
 intro J3 kJ3
 have hJ3 : ∀ x5 x6, yah X1 X2 x1 x3 x5 x6 -> J3 x5 x6 := fun x5 x6 q => kJ3 x5 x6 (ycs X1 X2 x1 x3 q)
 refine yaA h (fun h => ?_) (fun h => ?_)
 ·obtain ⟨h0, h⟩ := h
  refine ⟨h0, ?_⟩
  obtain ⟨h0, h⟩ := h
  refine ⟨h0, ?_⟩
  obtain ⟨y11, h⟩ := h
  refine ⟨y11, ?_⟩
  obtain ⟨h0, h⟩ := h
  refine ⟨h0, ?_⟩
  obtain ⟨h0, h⟩ := h
  refine ⟨h0, ?_⟩
  obtain ⟨h0, h⟩ := h
  refine ⟨h0, ?_⟩
  obtain ⟨y12, h⟩ := h
  refine ⟨y12, ?_⟩
  obtain ⟨h0, h⟩ := h
  refine ⟨h0, ?_⟩
  obtain ⟨z13, h⟩ := h
  refine ⟨z13, ?_⟩
  obtain ⟨h0, h⟩ := h
  refine ⟨h0, ?_⟩
  exact hJ3 _ _ h
 ·exact hJ3 _ _ h
theorem ycq (a0 a1 : Int) (g3 : (List yaa) → (List yaa) → Int → Prop) (r0 : List (List yaa)) {X1 : Int → (List (List yaa)) → Prop} {x1 : Int} {x2 : List (List yaa)} (h : yat a0 a1 g3 r0 X1 x1 x2) : yaT a1 a0 g3 r0 X1 x1 x2 := by
 unfold yaT
 unfold yat at h
 refine yaA h (fun h => ?_) (fun h => ?_)
 ·intro X2 k
  exact h X2 (fun x3 x4 q => k x3 x4 (yck X1 a0 g3 x1 q))
 ·exact h
theorem ycK (g3 : (List yaa) → (List yaa) → Int → Prop) (a0 a1 : Int) (a2 r0 : List (List yaa)) (h : yaV g3 a0 a1 a2 r0) : yaf g3 a0 a1 a2 r0 := by
 unfold yaf
 unfold yaV at h
 intro X1 k
 exact h X1 (fun x1 x2 q => k x1 x2 (ycq a0 a1 g3 r0 q))
def yav : Sl KK := ⟨104, [(3, [29, 29], [3])], ⟨[(0, .row 2000000), (1, .it .i64), (2, .it .i64)], [], [(2000000, 29)]⟩, ⟨[], [], [(2000000, 29)]⟩, [], [], true, fun _ _ _ => True⟩
def yaw : Sl KK := ⟨104, [(3, [29, 29], [3])], ⟨[(0, .row 2000000), (1, .it .i64), (2, .it .i64)], [], [(2000000, 29)]⟩, ⟨[], [], [(2000000, 29)]⟩, [], [], true, apFs (K := KK) (ctT yav.ti) (ctT yav.te) [(3, [29, 29], [3])] yaf⟩
def ycH : An KK := (.s .o (.b (.l ⟨[(0, .row 2000000), (1, .kp 1), (2, .kp 2), (3, .kp 3), (8, .it .i64)], [], [(2000000, 29)]⟩ (fun _ => (.s (.s .o (.c .o .o)) (.s (.b (.s .o (.b (.l ⟨[(0, .row 2000000), (1, .kp 1), (2, .kp 2), (3, .kp 3), (8, .kp 31), (9, .it .i64)], [], [(2000000, 29)]⟩ (fun _ => (.s (.j ⟨[(0, .row 2000000), (1, .kp 1), (2, .kp 2), (3, .kp 3), (8, .kp 31), (9, .kp 36), (34, .bl)], [], [(2000000, 29)]⟩ .o (fun _ => (.c .o .o))) (.s (.b .o) .o))))))) .o))))))
def ycF : Cf KK := ⟨CC, [], [], 53, [], none, false⟩
theorem ycG : SlOk Try.prog CC yaw := by
 intro fs env out hl hF hW
 obtain ⟨F3, fs3, rfl, h0⟩ := yiz hW
 obtain ⟨rfl, h1⟩ := yfA h0
 obtain ⟨a0, ea0, rfl, h2⟩ := ybX h1
 obtain ⟨a1, ea1, rfl, h3⟩ := ybX h2
 obtain ⟨a2, ea2, rfl, h4⟩ := ybX h3
 obtain ⟨rfl, h5⟩ := yfE h4
 obtain ⟨r0, er0, rfl, h6⟩ := yej h5
 obtain ⟨rfl, h7⟩ := yeg h6
 show SlC Try.prog CC yaw [F3] [.i a0, .i a1, .l 29 a2] [.l 29 r0]
 rw [show SlC Try.prog CC yaw [F3] [.i a0, .i a1, .l 29 a2] [.l 29 r0] = SlC Try.prog CC yav [F3] [.i a0, .i a1, .l 29 a2] [.l 29 r0] by kernel_rfl]
 exact yf0 (F := ycF) ybG yaJ yaL t104 (A := ycH) (sp := yav) rfl (by kernel_rfl) (by kernel_rfl) (Nat.le_of_ble_eq_true (by kernel_rfl)) (fs := [F3]) (env := [.i a0, .i a1, .l 29 a2]) (out := [.l 29 r0]) (by kernel_rfl) hF (X := yaf (curF [3] [29, 29] F3.W) a0 a1 a2 r0) h7 (by kernel_rfl)
def ybQ (a2 a1 a0 : Int) (r0 : List (List yaa)) (X1 : Int → (List (List yaa)) → Prop) (x1 : Int) (x2 : List (List yaa)) : Prop :=
 cnd (decide (x1 < a2)) ((0 <= (IntKind.i64.wrap (a1 + x1))) /\ ((IntKind.i64.wrap (a1 + x1)) < (x2.length : Int)) /\ ∃ y3 : (List yaa), (x2[(IntKind.i64.wrap (a1 + x1)).toNat]? = some y3) /\ (0 <= (IntKind.i64.wrap (a0 + x1))) /\ ((IntKind.i64.wrap (a0 + x1)) < (x2.length : Int)) /\ ∃ y4 : (List yaa), (x2[(IntKind.i64.wrap (a0 + x1)).toNat]? = some y4) /\ (0 <= (IntKind.i64.wrap (a0 + x1))) /\ ((IntKind.i64.wrap (a0 + x1)) < (x2.length : Int)) /\ ∃ y5 : (List yaa), (x2[(IntKind.i64.wrap (a0 + x1)).toNat]? = some y5) /\ (0 <= (IntKind.i64.wrap (a1 + x1))) /\ ((IntKind.i64.wrap (a1 + x1)) < ((x2.set ((IntKind.i64.wrap (a0 + x1)).toNat) y3).length : Int)) /\ ∃ y6 : (List yaa), ((x2.set ((IntKind.i64.wrap (a0 + x1)).toNat) y3)[(IntKind.i64.wrap (a1 + x1)).toNat]? = some y6) /\ X1 (IntKind.i64.wrap (x1 + (1 : Int))) ((x2.set ((IntKind.i64.wrap (a0 + x1)).toNat) y3).set ((IntKind.i64.wrap (a1 + x1)).toNat) y4)) (x2 = r0)
def yak (g4 : (List yaa) → (List yaa) → Int → Prop) (a0 a1 a2 : Int) (a3 r0 : List (List yaa)) : Prop :=
 ∀ X1 : Int -> (List (List yaa)) -> Prop, (∀ x1 x2, ybQ a2 a1 a0 r0 X1 x1 x2 -> X1 x1 x2) -> X1 (0 : Int) a3
def yaM : Sl KK := ⟨108, [(4, [29, 29], [3])], ⟨[(0, .row 2000000), (1, .it .i64), (2, .it .i64), (3, .it .i64)], [], [(2000000, 29)]⟩, ⟨[], [], [(2000000, 29)]⟩, [], [], true, fun _ _ _ => True⟩
def yaI : Sl KK := ⟨108, [(4, [29, 29], [3])], ⟨[(0, .row 2000000), (1, .it .i64), (2, .it .i64), (3, .it .i64)], [], [(2000000, 29)]⟩, ⟨[], [], [(2000000, 29)]⟩, [], [], true, apFs (K := KK) (ctT yaM.ti) (ctT yaM.te) [(4, [29, 29], [3])] yak⟩
def yde : An KK := (.s .o (.b (.l ⟨[(0, .row 2000000), (1, .kp 1), (2, .kp 2), (3, .kp 3), (10, .it .i64)], [], [(2000000, 29)]⟩ (fun _ => (.s (.s .o (.c .o .o)) (.s (.b .o) .o))))))
def ydh : Cf KK := ⟨CC, [], [], 38, [], none, false⟩
theorem ydj : SlOk Try.prog CC yaI := by
 intro fs env out hl hF hW
 obtain ⟨F4, fs4, rfl, h0⟩ := yiz hW
 obtain ⟨rfl, h1⟩ := yfA h0
 obtain ⟨a0, ea0, rfl, h2⟩ := ybX h1
 obtain ⟨a1, ea1, rfl, h3⟩ := ybX h2
 obtain ⟨a2, ea2, rfl, h4⟩ := ybX h3
 obtain ⟨a3, ea3, rfl, h5⟩ := ybX h4
 obtain ⟨rfl, h6⟩ := yfE h5
 obtain ⟨r0, er0, rfl, h7⟩ := yej h6
 obtain ⟨rfl, h8⟩ := yeg h7
 show SlC Try.prog CC yaI [F4] [.i a0, .i a1, .i a2, .l 29 a3] [.l 29 r0]
 rw [show SlC Try.prog CC yaI [F4] [.i a0, .i a1, .i a2, .l 29 a3] [.l 29 r0] = SlC Try.prog CC yaM [F4] [.i a0, .i a1, .i a2, .l 29 a3] [.l 29 r0] by kernel_rfl]
 exact yf0 (F := ydh) ybG yaJ yaL t108 (A := yde) (sp := yaM) rfl (by kernel_rfl) (by kernel_rfl) (Nat.le_of_ble_eq_true (by kernel_rfl)) (fs := [F4]) (env := [.i a0, .i a1, .i a2, .l 29 a3]) (out := [.l 29 r0]) (by kernel_rfl) hF (X := yak (curF [3] [29, 29] F4.W) a0 a1 a2 a3 r0) h8 (by kernel_rfl)
def yb3 (g4 : (List yaa) → (List yaa) → Int → Prop) (a1 : Int) (r0 : List (List yaa)) (X1 : Int → Int → (List (List yaa)) → Prop) (x1 x2 : Int) (x3 : List (List yaa)) : Prop :=
 cnd (!(x1 == x2)) (cnd (decide (x2 < x1)) (∃ z4, (yak g4 (IntKind.i64.wrap (a1 - x1)) a1 x2 x3 z4) /\ (z4.length = x3.length) /\ X1 (IntKind.i64.wrap (x1 - x2)) x2 z4) (∃ z5, (yak g4 (IntKind.i64.wrap (a1 - x1)) (IntKind.i64.wrap ((IntKind.i64.wrap (a1 + x2)) - x1)) x1 x3 z5) /\ (z5.length = x3.length) /\ X1 x1 (IntKind.i64.wrap (x2 - x1)) z5)) (∃ z6, (yak g4 (IntKind.i64.wrap (a1 - x1)) a1 x1 x3 z6) /\ (z6.length = x3.length) /\ z6 = r0)
def yap (g4 : (List yaa) → (List yaa) → Int → Prop) (a0 a1 a2 : Int) (a3 r0 : List (List yaa)) : Prop :=
 ∀ X1 : Int -> Int -> (List (List yaa)) -> Prop, (∀ x1 x2 x3, yb3 g4 a1 r0 X1 x1 x2 x3 -> X1 x1 x2 x3) -> X1 (IntKind.i64.wrap (a1 - a0)) (IntKind.i64.wrap (a2 - a1)) a3
def ya1 : Sl KK := ⟨107, [(4, [29, 29], [3])], ⟨[(0, .row 2000000), (1, .it .i64), (2, .it .i64), (3, .it .i64)], [], [(2000000, 29)]⟩, ⟨[], [], [(2000000, 29)]⟩, [], [], true, fun _ _ _ => True⟩
def yaZ : Sl KK := ⟨107, [(4, [29, 29], [3])], ⟨[(0, .row 2000000), (1, .it .i64), (2, .it .i64), (3, .it .i64)], [], [(2000000, 29)]⟩, ⟨[], [], [(2000000, 29)]⟩, [], [], true, apFs (K := KK) (ctT ya1.ti) (ctT ya1.te) [(4, [29, 29], [3])] yap⟩
def yd1 : An KK := (.s .o (.s .o (.s (.b (.l ⟨[(0, .row 2000000), (2, .kp 5), (4, .kp 6), (10, .it .i64), (11, .it .i64)], [], [(2000000, 29)]⟩ (fun _ => (.s (.s .o (.c .o .o)) (.b (.s .o (.c (.s .o .o) (.s .o .o)))))))) .o)))
def yd9 : Cf KK := ⟨CC, [], [yaI], 58, [], none, false⟩
theorem ydY : SlOk Try.prog CC yaZ := by
 intro fs env out hl hF hW
 obtain ⟨F4, fs4, rfl, h0⟩ := yiz hW
 obtain ⟨rfl, h1⟩ := yfA h0
 obtain ⟨a0, ea0, rfl, h2⟩ := ybX h1
 obtain ⟨a1, ea1, rfl, h3⟩ := ybX h2
 obtain ⟨a2, ea2, rfl, h4⟩ := ybX h3
 obtain ⟨a3, ea3, rfl, h5⟩ := ybX h4
 obtain ⟨rfl, h6⟩ := yfE h5
 obtain ⟨r0, er0, rfl, h7⟩ := yej h6
 obtain ⟨rfl, h8⟩ := yeg h7
 show SlC Try.prog CC yaZ [F4] [.i a0, .i a1, .i a2, .l 29 a3] [.l 29 r0]
 rw [show SlC Try.prog CC yaZ [F4] [.i a0, .i a1, .i a2, .l 29 a3] [.l 29 r0] = SlC Try.prog CC ya1 [F4] [.i a0, .i a1, .i a2, .l 29 a3] [.l 29 r0] by kernel_rfl]
 exact yf0 (F := yd9) ybG yaJ (yfC ydj yaL) t107 (A := yd1) (sp := ya1) rfl (by kernel_rfl) (by kernel_rfl) (Nat.le_of_ble_eq_true (by kernel_rfl)) (fs := [F4]) (env := [.i a0, .i a1, .i a2, .l 29 a3]) (out := [.l 29 r0]) (by kernel_rfl) hF (X := yap (curF [3] [29, 29] F4.W) a0 a1 a2 a3 r0) h8 (by kernel_rfl)
def ybg (x1 : Int) (r0 : List (List yaa)) (X2 : Int → (List (List yaa)) → Prop) (x7 : Int) (x8 : List (List yaa)) : Prop :=
 cnd (decide (x7 < (IntKind.i64.wrap (x1 - (1 : Int))))) ((0 <= (IntKind.i64.wrap (x7 + (1 : Int)))) /\ ((IntKind.i64.wrap (x7 + (1 : Int))) < (x8.length : Int)) /\ ∃ y9 : (List yaa), (x8[(IntKind.i64.wrap (x7 + (1 : Int))).toNat]? = some y9) /\ (0 <= x7) /\ (x7 < (x8.length : Int)) /\ ∃ y10 : (List yaa), (x8[x7.toNat]? = some y10) /\ (0 <= x7) /\ (x7 < (x8.length : Int)) /\ ∃ y11 : (List yaa), (x8[x7.toNat]? = some y11) /\ (0 <= (IntKind.i64.wrap (x7 + (1 : Int)))) /\ ((IntKind.i64.wrap (x7 + (1 : Int))) < ((x8.set x7.toNat y9).length : Int)) /\ ∃ y12 : (List yaa), ((x8.set x7.toNat y9)[(IntKind.i64.wrap (x7 + (1 : Int))).toNat]? = some y12) /\ X2 (IntKind.i64.wrap (x7 + (1 : Int))) ((x8.set x7.toNat y9).set ((IntKind.i64.wrap (x7 + (1 : Int))).toNat) y10)) (x8 = r0)
def ybq (a0 : Int) (g4 : (List yaa) → (List yaa) → Int → Prop) (r0 : List (List yaa)) (X1 : Int → Int → (List (List yaa)) → Prop) (x1 x2 : Int) (x3 : List (List yaa)) : Prop :=
 cnd (decide (x1 < x2)) ((0 <= (IntKind.i64.wrap ((IntKind.u64.wrap (IntKind.i64.wrap (x1 + x2))).fdiv (2 ^ (min (1 : Int).toNat IntKind.u64.bits))))) /\ ((IntKind.i64.wrap ((IntKind.u64.wrap (IntKind.i64.wrap (x1 + x2))).fdiv (2 ^ (min (1 : Int).toNat IntKind.u64.bits)))) < (x3.length : Int)) /\ ∃ y4 : (List yaa), (x3[(IntKind.i64.wrap ((IntKind.u64.wrap (IntKind.i64.wrap (x1 + x2))).fdiv (2 ^ (min (1 : Int).toNat IntKind.u64.bits)))).toNat]? = some y4) /\ (0 <= a0) /\ (a0 < (x3.length : Int)) /\ ∃ y5 : (List yaa), (x3[a0.toNat]? = some y5) /\ ∃ z6, (g4 y4 y5 z6) /\ cnd (decide (z6 < (0 : Int))) (X1 (IntKind.i64.wrap ((IntKind.i64.wrap ((IntKind.u64.wrap (IntKind.i64.wrap (x1 + x2))).fdiv (2 ^ (min (1 : Int).toNat IntKind.u64.bits)))) + (1 : Int))) x2 x3) (X1 x1 (IntKind.i64.wrap ((IntKind.u64.wrap (IntKind.i64.wrap (x1 + x2))).fdiv (2 ^ (min (1 : Int).toNat IntKind.u64.bits)))) x3)) (∀ X2 : Int -> (List (List yaa)) -> Prop, (∀ x7 x8, ybg x1 r0 X2 x7 x8 -> X2 x7 x8) -> X2 a0 x3)
def ybi (x13 : Int) (r0 : List (List yaa)) (X4 : Int → (List (List yaa)) → Prop) (x19 : Int) (x20 : List (List yaa)) : Prop :=
 cnd (decide (x13 < x19)) ((0 <= (IntKind.i64.wrap (x19 - (1 : Int)))) /\ ((IntKind.i64.wrap (x19 - (1 : Int))) < (x20.length : Int)) /\ ∃ y21 : (List yaa), (x20[(IntKind.i64.wrap (x19 - (1 : Int))).toNat]? = some y21) /\ (0 <= x19) /\ (x19 < (x20.length : Int)) /\ ∃ y22 : (List yaa), (x20[x19.toNat]? = some y22) /\ (0 <= x19) /\ (x19 < (x20.length : Int)) /\ ∃ y23 : (List yaa), (x20[x19.toNat]? = some y23) /\ (0 <= (IntKind.i64.wrap (x19 - (1 : Int)))) /\ ((IntKind.i64.wrap (x19 - (1 : Int))) < ((x20.set x19.toNat y21).length : Int)) /\ ∃ y24 : (List yaa), ((x20.set x19.toNat y21)[(IntKind.i64.wrap (x19 - (1 : Int))).toNat]? = some y24) /\ X4 (IntKind.i64.wrap (x19 - (1 : Int))) ((x20.set x19.toNat y21).set ((IntKind.i64.wrap (x19 - (1 : Int))).toNat) y22)) (x20 = r0)
def ybj (a1 : Int) (g4 : (List yaa) → (List yaa) → Int → Prop) (r0 : List (List yaa)) (X3 : Int → Int → (List (List yaa)) → Prop) (x13 x14 : Int) (x15 : List (List yaa)) : Prop :=
 cnd (decide (x13 < x14)) ((0 <= a1) /\ (a1 < (x15.length : Int)) /\ ∃ y16 : (List yaa), (x15[a1.toNat]? = some y16) /\ (0 <= (IntKind.i64.wrap ((IntKind.u64.wrap (IntKind.i64.wrap (x13 + x14))).fdiv (2 ^ (min (1 : Int).toNat IntKind.u64.bits))))) /\ ((IntKind.i64.wrap ((IntKind.u64.wrap (IntKind.i64.wrap (x13 + x14))).fdiv (2 ^ (min (1 : Int).toNat IntKind.u64.bits)))) < (x15.length : Int)) /\ ∃ y17 : (List yaa), (x15[(IntKind.i64.wrap ((IntKind.u64.wrap (IntKind.i64.wrap (x13 + x14))).fdiv (2 ^ (min (1 : Int).toNat IntKind.u64.bits)))).toNat]? = some y17) /\ ∃ z18, (g4 y16 y17 z18) /\ cnd (!(decide (z18 < (0 : Int)))) (X3 (IntKind.i64.wrap ((IntKind.i64.wrap ((IntKind.u64.wrap (IntKind.i64.wrap (x13 + x14))).fdiv (2 ^ (min (1 : Int).toNat IntKind.u64.bits)))) + (1 : Int))) x14 x15) (X3 x13 (IntKind.i64.wrap ((IntKind.u64.wrap (IntKind.i64.wrap (x13 + x14))).fdiv (2 ^ (min (1 : Int).toNat IntKind.u64.bits)))) x15)) (∀ X4 : Int -> (List (List yaa)) -> Prop, (∀ x19 x20, ybi x13 r0 X4 x19 x20 -> X4 x19 x20) -> X4 a1 x15)
def ybo (Xr : ((List yaa) → (List yaa) → Int → Prop) → Int → Int → Int → (List (List yaa)) → (List (List yaa)) → Prop) (g4 : (List yaa) → (List yaa) → Int → Prop) (a0 a2 x37 : Int) (r0 : List (List yaa)) (x39 : Bool) (x40 : List (List yaa)) : Prop :=
 cnd x39 (∃ z41, (Xr g4 (IntKind.i64.wrap ((IntKind.u64.wrap (IntKind.i64.wrap (a0 + a2))).fdiv (2 ^ (min (1 : Int).toNat IntKind.u64.bits)))) x37 a2 x40 z41) /\ (z41.length = x40.length) /\ z41 = r0) (x40 = r0)
def ybk (Xr : ((List yaa) → (List yaa) → Int → Prop) → Int → Int → Int → (List (List yaa)) → (List (List yaa)) → Prop) (g4 : (List yaa) → (List yaa) → Int → Prop) (a0 a2 : Int) (r0 : List (List yaa)) (x37 : Int) (x38 : List (List yaa)) : Prop :=
 ∀ J9 : Bool -> (List (List yaa)) -> Prop, (∀ x39 x40, ybo Xr g4 a0 a2 x37 r0 x39 x40 -> J9 x39 x40) -> cnd (decide ((IntKind.i64.wrap ((IntKind.u64.wrap (IntKind.i64.wrap (a0 + a2))).fdiv (2 ^ (min (1 : Int).toNat IntKind.u64.bits)))) < x37)) (J9 (decide (x37 < a2)) x38) (J9 false x38)
def ya8 (Xr : ((List yaa) → (List yaa) → Int → Prop) → Int → Int → Int → (List (List yaa)) → (List (List yaa)) → Prop) (g4 : (List yaa) → (List yaa) → Int → Prop) (a0 x34 a2 : Int) (J8 : Int → (List (List yaa)) → Prop) (x35 : Int) (x42 : Bool) (x43 : List (List yaa)) : Prop :=
 cnd x42 (∃ z44, (Xr g4 a0 x34 (IntKind.i64.wrap ((IntKind.u64.wrap (IntKind.i64.wrap (a0 + a2))).fdiv (2 ^ (min (1 : Int).toNat IntKind.u64.bits)))) x43 z44) /\ (z44.length = x43.length) /\ J8 x35 z44) (J8 x35 x43)
def ybl (Xr : ((List yaa) → (List yaa) → Int → Prop) → Int → Int → Int → (List (List yaa)) → (List (List yaa)) → Prop) (g4 : (List yaa) → (List yaa) → Int → Prop) (a0 a2 : Int) (r0 : List (List yaa)) (x34 x35 : Int) (x36 : List (List yaa)) : Prop :=
 ∀ J8 : Int -> (List (List yaa)) -> Prop, (∀ x37 x38, ybk Xr g4 a0 a2 r0 x37 x38 -> J8 x37 x38) -> ∀ J10 : Bool -> (List (List yaa)) -> Prop, (∀ x42 x43, ya8 Xr g4 a0 x34 a2 J8 x35 x42 x43 -> J10 x42 x43) -> cnd (decide (a0 < x34)) (J10 (decide (x34 < (IntKind.i64.wrap ((IntKind.u64.wrap (IntKind.i64.wrap (a0 + a2))).fdiv (2 ^ (min (1 : Int).toNat IntKind.u64.bits)))))) x36) (J10 false x36)
def ya9 (g4 : (List yaa) → (List yaa) → Int → Prop) (x28 a1 a0 a2 : Int) (J7 : Int → Int → (List (List yaa)) → Prop) (x45 : Bool) (x46 : List (List yaa)) : Prop :=
 cnd x45 (∃ z47, (yap g4 x28 a1 (IntKind.i64.wrap ((IntKind.i64.wrap ((IntKind.i64.wrap ((IntKind.u64.wrap (IntKind.i64.wrap (a0 + a2))).fdiv (2 ^ (min (1 : Int).toNat IntKind.u64.bits)))) + a1)) - x28)) x46 z47) /\ (z47.length = x46.length) /\ J7 x28 (IntKind.i64.wrap ((IntKind.i64.wrap ((IntKind.i64.wrap ((IntKind.u64.wrap (IntKind.i64.wrap (a0 + a2))).fdiv (2 ^ (min (1 : Int).toNat IntKind.u64.bits)))) + a1)) - x28)) z47) (J7 x28 (IntKind.i64.wrap ((IntKind.i64.wrap ((IntKind.i64.wrap ((IntKind.u64.wrap (IntKind.i64.wrap (a0 + a2))).fdiv (2 ^ (min (1 : Int).toNat IntKind.u64.bits)))) + a1)) - x28)) x46)
def ybm (a0 a2 a1 : Int) (g4 : (List yaa) → (List yaa) → Int → Prop) (Xr : ((List yaa) → (List yaa) → Int → Prop) → Int → Int → Int → (List (List yaa)) → (List (List yaa)) → Prop) (r0 : List (List yaa)) (X6 : Int → Int → (List (List yaa)) → Prop) (x28 x29 : Int) (x30 : List (List yaa)) : Prop :=
 cnd (decide (x28 < x29)) ((0 <= (IntKind.i64.wrap ((IntKind.i64.wrap ((IntKind.i64.wrap ((IntKind.i64.wrap ((IntKind.u64.wrap (IntKind.i64.wrap (a0 + a2))).fdiv (2 ^ (min (1 : Int).toNat IntKind.u64.bits)))) + a1)) - (1 : Int))) - (IntKind.i64.wrap ((IntKind.u64.wrap (IntKind.i64.wrap (x28 + x29))).fdiv (2 ^ (min (1 : Int).toNat IntKind.u64.bits))))))) /\ ((IntKind.i64.wrap ((IntKind.i64.wrap ((IntKind.i64.wrap ((IntKind.i64.wrap ((IntKind.u64.wrap (IntKind.i64.wrap (a0 + a2))).fdiv (2 ^ (min (1 : Int).toNat IntKind.u64.bits)))) + a1)) - (1 : Int))) - (IntKind.i64.wrap ((IntKind.u64.wrap (IntKind.i64.wrap (x28 + x29))).fdiv (2 ^ (min (1 : Int).toNat IntKind.u64.bits)))))) < (x30.length : Int)) /\ ∃ y31 : (List yaa), (x30[(IntKind.i64.wrap ((IntKind.i64.wrap ((IntKind.i64.wrap ((IntKind.i64.wrap ((IntKind.u64.wrap (IntKind.i64.wrap (a0 + a2))).fdiv (2 ^ (min (1 : Int).toNat IntKind.u64.bits)))) + a1)) - (1 : Int))) - (IntKind.i64.wrap ((IntKind.u64.wrap (IntKind.i64.wrap (x28 + x29))).fdiv (2 ^ (min (1 : Int).toNat IntKind.u64.bits)))))).toNat]? = some y31) /\ (0 <= (IntKind.i64.wrap ((IntKind.u64.wrap (IntKind.i64.wrap (x28 + x29))).fdiv (2 ^ (min (1 : Int).toNat IntKind.u64.bits))))) /\ ((IntKind.i64.wrap ((IntKind.u64.wrap (IntKind.i64.wrap (x28 + x29))).fdiv (2 ^ (min (1 : Int).toNat IntKind.u64.bits)))) < (x30.length : Int)) /\ ∃ y32 : (List yaa), (x30[(IntKind.i64.wrap ((IntKind.u64.wrap (IntKind.i64.wrap (x28 + x29))).fdiv (2 ^ (min (1 : Int).toNat IntKind.u64.bits)))).toNat]? = some y32) /\ ∃ z33, (g4 y31 y32 z33) /\ cnd (!(decide (z33 < (0 : Int)))) (X6 (IntKind.i64.wrap ((IntKind.i64.wrap ((IntKind.u64.wrap (IntKind.i64.wrap (x28 + x29))).fdiv (2 ^ (min (1 : Int).toNat IntKind.u64.bits)))) + (1 : Int))) x29 x30) (X6 x28 (IntKind.i64.wrap ((IntKind.u64.wrap (IntKind.i64.wrap (x28 + x29))).fdiv (2 ^ (min (1 : Int).toNat IntKind.u64.bits)))) x30)) (∀ J7 : Int -> Int -> (List (List yaa)) -> Prop, (∀ x34 x35 x36, ybl Xr g4 a0 a2 r0 x34 x35 x36 -> J7 x34 x35 x36) -> ∀ J11 : Bool -> (List (List yaa)) -> Prop, (∀ x45 x46, ya9 g4 x28 a1 a0 a2 J7 x45 x46 -> J11 x45 x46) -> cnd (decide (x28 < a1)) (J11 (decide (a1 < (IntKind.i64.wrap ((IntKind.i64.wrap ((IntKind.i64.wrap ((IntKind.u64.wrap (IntKind.i64.wrap (a0 + a2))).fdiv (2 ^ (min (1 : Int).toNat IntKind.u64.bits)))) + a1)) - x28)))) x30) (J11 false x30))
def ybp (a0 a2 a1 : Int) (g4 : (List yaa) → (List yaa) → Int → Prop) (Xr : ((List yaa) → (List yaa) → Int → Prop) → Int → Int → Int → (List (List yaa)) → (List (List yaa)) → Prop) (r0 : List (List yaa)) (x25 x26 : Int) (x27 : List (List yaa)) : Prop :=
 ∀ X6 : Int -> Int -> (List (List yaa)) -> Prop, (∀ x28 x29 x30, ybm a0 a2 a1 g4 Xr r0 X6 x28 x29 x30 -> X6 x28 x29 x30) -> X6 x25 x26 x27
def yay (Xr : ((List yaa) → (List yaa) → Int → Prop) → Int → Int → Int → (List (List yaa)) → (List (List yaa)) → Prop) (g4 : (List yaa) → (List yaa) → Int → Prop) (a0 a1 a2 : Int) (a3 r0 : List (List yaa)) : Prop :=
 cnd ((IntKind.i64.wrap (a1 - a0)) == (1 : Int)) (∀ X1 : Int -> Int -> (List (List yaa)) -> Prop, (∀ x1 x2 x3, ybq a0 g4 r0 X1 x1 x2 x3 -> X1 x1 x2 x3) -> X1 a1 a2 a3) (cnd ((IntKind.i64.wrap (a2 - a1)) == (1 : Int)) (∀ X3 : Int -> Int -> (List (List yaa)) -> Prop, (∀ x13 x14 x15, ybj a1 g4 r0 X3 x13 x14 x15 -> X3 x13 x14 x15) -> X3 a0 a1 a3) (∀ J5 : Int -> Int -> (List (List yaa)) -> Prop, (∀ x25 x26 x27, ybp a0 a2 a1 g4 Xr r0 x25 x26 x27 -> J5 x25 x26 x27) -> cnd (decide ((IntKind.i64.wrap ((IntKind.u64.wrap (IntKind.i64.wrap (a0 + a2))).fdiv (2 ^ (min (1 : Int).toNat IntKind.u64.bits)))) < a1)) (J5 (IntKind.i64.wrap ((IntKind.i64.wrap ((IntKind.i64.wrap ((IntKind.u64.wrap (IntKind.i64.wrap (a0 + a2))).fdiv (2 ^ (min (1 : Int).toNat IntKind.u64.bits)))) + a1)) - a2)) (IntKind.i64.wrap ((IntKind.u64.wrap (IntKind.i64.wrap (a0 + a2))).fdiv (2 ^ (min (1 : Int).toNat IntKind.u64.bits)))) a3) (J5 a0 a1 a3)))
def yax (g4 : (List yaa) -> (List yaa) -> Int -> Prop) (a0 a1 a2 : Int) (a3 r0 : List (List yaa)) : Prop := ∀ Xr : ((List yaa) -> (List yaa) -> Int -> Prop) -> Int -> Int -> Int -> (List (List yaa)) -> (List (List yaa)) -> Prop, (∀ (g4 : (List yaa) -> (List yaa) -> Int -> Prop) (a0 : Int) (a1 : Int) (a2 : Int) (a3 : (List (List yaa))) (r0 : (List (List yaa))), yay Xr g4 a0 a1 a2 a3 r0 -> Xr g4 a0 a1 a2 a3 r0) -> Xr g4 a0 a1 a2 a3 r0
def yaG (r0 : List (List yaa)) (x1 : Int) (X2 : Int → (List (List yaa)) → Prop) (x7 : Int) (x8 : List (List yaa)) : Prop :=
 cnd (decide (x7 < (IntKind.i64.wrap (x1 - (1 : Int))))) ((0 <= (IntKind.i64.wrap (x7 + (1 : Int)))) /\ ((IntKind.i64.wrap (x7 + (1 : Int))) < (x8.length : Int)) /\ ∃ y9 : (List yaa), (x8[(IntKind.i64.wrap (x7 + (1 : Int))).toNat]? = some y9) /\ (0 <= x7) /\ (x7 < (x8.length : Int)) /\ ∃ y10 : (List yaa), (x8[x7.toNat]? = some y10) /\ (0 <= x7) /\ (x7 < (x8.length : Int)) /\ ∃ y11 : (List yaa), (x8[x7.toNat]? = some y11) /\ (0 <= (IntKind.i64.wrap (x7 + (1 : Int)))) /\ ((IntKind.i64.wrap (x7 + (1 : Int))) < ((x8.set x7.toNat y9).length : Int)) /\ ∃ y12 : (List yaa), ((x8.set x7.toNat y9)[(IntKind.i64.wrap (x7 + (1 : Int))).toNat]? = some y12) /\ X2 (IntKind.i64.wrap (x7 + (1 : Int))) ((x8.set x7.toNat y9).set ((IntKind.i64.wrap (x7 + (1 : Int))).toNat) y10)) (x8 = r0)
def yar (a0 : Int) (g4 : (List yaa) → (List yaa) → Int → Prop) (r0 : List (List yaa)) (X1 : Int → Int → (List (List yaa)) → Prop) (x1 x2 : Int) (x3 : List (List yaa)) : Prop :=
 cnd (decide (x1 < x2)) ((0 <= (IntKind.i64.wrap ((IntKind.u64.wrap (IntKind.i64.wrap (x1 + x2))).fdiv (2 ^ (min (1 : Int).toNat IntKind.u64.bits))))) /\ ((IntKind.i64.wrap ((IntKind.u64.wrap (IntKind.i64.wrap (x1 + x2))).fdiv (2 ^ (min (1 : Int).toNat IntKind.u64.bits)))) < (x3.length : Int)) /\ ∃ y4 : (List yaa), (x3[(IntKind.i64.wrap ((IntKind.u64.wrap (IntKind.i64.wrap (x1 + x2))).fdiv (2 ^ (min (1 : Int).toNat IntKind.u64.bits)))).toNat]? = some y4) /\ (0 <= a0) /\ (a0 < (x3.length : Int)) /\ ∃ y5 : (List yaa), (x3[a0.toNat]? = some y5) /\ ∃ z6, (g4 y4 y5 z6) /\ cnd (decide (z6 < (0 : Int))) (X1 (IntKind.i64.wrap ((IntKind.i64.wrap ((IntKind.u64.wrap (IntKind.i64.wrap (x1 + x2))).fdiv (2 ^ (min (1 : Int).toNat IntKind.u64.bits)))) + (1 : Int))) x2 x3) (X1 x1 (IntKind.i64.wrap ((IntKind.u64.wrap (IntKind.i64.wrap (x1 + x2))).fdiv (2 ^ (min (1 : Int).toNat IntKind.u64.bits)))) x3)) (∀ X2 : Int -> (List (List yaa)) -> Prop, (∀ x7 x8, yaG r0 x1 X2 x7 x8 -> X2 x7 x8) -> X2 a0 x3)
def yaF (r0 : List (List yaa)) (x13 : Int) (X4 : Int → (List (List yaa)) → Prop) (x19 : Int) (x20 : List (List yaa)) : Prop :=
 cnd (decide (x13 < x19)) ((0 <= (IntKind.i64.wrap (x19 - (1 : Int)))) /\ ((IntKind.i64.wrap (x19 - (1 : Int))) < (x20.length : Int)) /\ ∃ y21 : (List yaa), (x20[(IntKind.i64.wrap (x19 - (1 : Int))).toNat]? = some y21) /\ (0 <= x19) /\ (x19 < (x20.length : Int)) /\ ∃ y22 : (List yaa), (x20[x19.toNat]? = some y22) /\ (0 <= x19) /\ (x19 < (x20.length : Int)) /\ ∃ y23 : (List yaa), (x20[x19.toNat]? = some y23) /\ (0 <= (IntKind.i64.wrap (x19 - (1 : Int)))) /\ ((IntKind.i64.wrap (x19 - (1 : Int))) < ((x20.set x19.toNat y21).length : Int)) /\ ∃ y24 : (List yaa), ((x20.set x19.toNat y21)[(IntKind.i64.wrap (x19 - (1 : Int))).toNat]? = some y24) /\ X4 (IntKind.i64.wrap (x19 - (1 : Int))) ((x20.set x19.toNat y21).set ((IntKind.i64.wrap (x19 - (1 : Int))).toNat) y22)) (x20 = r0)
def yaq (a1 : Int) (g4 : (List yaa) → (List yaa) → Int → Prop) (r0 : List (List yaa)) (X3 : Int → Int → (List (List yaa)) → Prop) (x13 x14 : Int) (x15 : List (List yaa)) : Prop :=
 cnd (decide (x13 < x14)) ((0 <= a1) /\ (a1 < (x15.length : Int)) /\ ∃ y16 : (List yaa), (x15[a1.toNat]? = some y16) /\ (0 <= (IntKind.i64.wrap ((IntKind.u64.wrap (IntKind.i64.wrap (x13 + x14))).fdiv (2 ^ (min (1 : Int).toNat IntKind.u64.bits))))) /\ ((IntKind.i64.wrap ((IntKind.u64.wrap (IntKind.i64.wrap (x13 + x14))).fdiv (2 ^ (min (1 : Int).toNat IntKind.u64.bits)))) < (x15.length : Int)) /\ ∃ y17 : (List yaa), (x15[(IntKind.i64.wrap ((IntKind.u64.wrap (IntKind.i64.wrap (x13 + x14))).fdiv (2 ^ (min (1 : Int).toNat IntKind.u64.bits)))).toNat]? = some y17) /\ ∃ z18, (g4 y16 y17 z18) /\ cnd (!(decide (z18 < (0 : Int)))) (X3 (IntKind.i64.wrap ((IntKind.i64.wrap ((IntKind.u64.wrap (IntKind.i64.wrap (x13 + x14))).fdiv (2 ^ (min (1 : Int).toNat IntKind.u64.bits)))) + (1 : Int))) x14 x15) (X3 x13 (IntKind.i64.wrap ((IntKind.u64.wrap (IntKind.i64.wrap (x13 + x14))).fdiv (2 ^ (min (1 : Int).toNat IntKind.u64.bits)))) x15)) (∀ X4 : Int -> (List (List yaa)) -> Prop, (∀ x19 x20, yaF r0 x13 X4 x19 x20 -> X4 x19 x20) -> X4 a1 x15)
def yan (Xr : ((List yaa) → (List yaa) → Int → Prop) → Int → Int → Int → (List (List yaa)) → (List (List yaa)) → Prop) (a0 a2 : Int) (g4 : (List yaa) → (List yaa) → Int → Prop) (r0 : List (List yaa)) (x37 : Int) (x39 : Bool) (x40 : List (List yaa)) : Prop :=
 cnd x39 (∃ z41, (Xr g4 (IntKind.i64.wrap ((IntKind.u64.wrap (IntKind.i64.wrap (a0 + a2))).fdiv (2 ^ (min (1 : Int).toNat IntKind.u64.bits)))) x37 a2 x40 z41) /\ (z41.length = x40.length) /\ z41 = r0) (x40 = r0)
def yae (Xr : ((List yaa) → (List yaa) → Int → Prop) → Int → Int → Int → (List (List yaa)) → (List (List yaa)) → Prop) (a0 a2 : Int) (g4 : (List yaa) → (List yaa) → Int → Prop) (r0 : List (List yaa)) (x37 : Int) (x38 : List (List yaa)) : Prop :=
 cnd (decide ((IntKind.i64.wrap ((IntKind.u64.wrap (IntKind.i64.wrap (a0 + a2))).fdiv (2 ^ (min (1 : Int).toNat IntKind.u64.bits)))) < x37)) (yan Xr a0 a2 g4 r0 x37 (decide (x37 < a2)) x38) (yan Xr a0 a2 g4 r0 x37 false x38)
def yal (Xr : ((List yaa) → (List yaa) → Int → Prop) → Int → Int → Int → (List (List yaa)) → (List (List yaa)) → Prop) (a0 a2 : Int) (g4 : (List yaa) → (List yaa) → Int → Prop) (r0 : List (List yaa)) (x34 x35 : Int) (x42 : Bool) (x43 : List (List yaa)) : Prop :=
 cnd x42 (∃ z44, (Xr g4 a0 x34 (IntKind.i64.wrap ((IntKind.u64.wrap (IntKind.i64.wrap (a0 + a2))).fdiv (2 ^ (min (1 : Int).toNat IntKind.u64.bits)))) x43 z44) /\ (z44.length = x43.length) /\ yae Xr a0 a2 g4 r0 x35 z44) (yae Xr a0 a2 g4 r0 x35 x43)
def yad (Xr : ((List yaa) → (List yaa) → Int → Prop) → Int → Int → Int → (List (List yaa)) → (List (List yaa)) → Prop) (a0 a2 : Int) (g4 : (List yaa) → (List yaa) → Int → Prop) (r0 : List (List yaa)) (x34 x35 : Int) (x36 : List (List yaa)) : Prop :=
 cnd (decide (a0 < x34)) (yal Xr a0 a2 g4 r0 x34 x35 (decide (x34 < (IntKind.i64.wrap ((IntKind.u64.wrap (IntKind.i64.wrap (a0 + a2))).fdiv (2 ^ (min (1 : Int).toNat IntKind.u64.bits)))))) x36) (yal Xr a0 a2 g4 r0 x34 x35 false x36)
def yam (Xr : ((List yaa) → (List yaa) → Int → Prop) → Int → Int → Int → (List (List yaa)) → (List (List yaa)) → Prop) (a0 a1 a2 : Int) (g4 : (List yaa) → (List yaa) → Int → Prop) (r0 : List (List yaa)) (x28 : Int) (x45 : Bool) (x46 : List (List yaa)) : Prop :=
 cnd x45 (∃ z47, (yap g4 x28 a1 (IntKind.i64.wrap ((IntKind.i64.wrap ((IntKind.i64.wrap ((IntKind.u64.wrap (IntKind.i64.wrap (a0 + a2))).fdiv (2 ^ (min (1 : Int).toNat IntKind.u64.bits)))) + a1)) - x28)) x46 z47) /\ (z47.length = x46.length) /\ yad Xr a0 a2 g4 r0 x28 (IntKind.i64.wrap ((IntKind.i64.wrap ((IntKind.i64.wrap ((IntKind.u64.wrap (IntKind.i64.wrap (a0 + a2))).fdiv (2 ^ (min (1 : Int).toNat IntKind.u64.bits)))) + a1)) - x28)) z47) (yad Xr a0 a2 g4 r0 x28 (IntKind.i64.wrap ((IntKind.i64.wrap ((IntKind.i64.wrap ((IntKind.u64.wrap (IntKind.i64.wrap (a0 + a2))).fdiv (2 ^ (min (1 : Int).toNat IntKind.u64.bits)))) + a1)) - x28)) x46)
def yaE (Xr : ((List yaa) → (List yaa) → Int → Prop) → Int → Int → Int → (List (List yaa)) → (List (List yaa)) → Prop) (a0 a1 a2 : Int) (g4 : (List yaa) → (List yaa) → Int → Prop) (r0 : List (List yaa)) (X6 : Int → Int → (List (List yaa)) → Prop) (x28 x29 : Int) (x30 : List (List yaa)) : Prop :=
 cnd (decide (x28 < x29)) ((0 <= (IntKind.i64.wrap ((IntKind.i64.wrap ((IntKind.i64.wrap ((IntKind.i64.wrap ((IntKind.u64.wrap (IntKind.i64.wrap (a0 + a2))).fdiv (2 ^ (min (1 : Int).toNat IntKind.u64.bits)))) + a1)) - (1 : Int))) - (IntKind.i64.wrap ((IntKind.u64.wrap (IntKind.i64.wrap (x28 + x29))).fdiv (2 ^ (min (1 : Int).toNat IntKind.u64.bits))))))) /\ ((IntKind.i64.wrap ((IntKind.i64.wrap ((IntKind.i64.wrap ((IntKind.i64.wrap ((IntKind.u64.wrap (IntKind.i64.wrap (a0 + a2))).fdiv (2 ^ (min (1 : Int).toNat IntKind.u64.bits)))) + a1)) - (1 : Int))) - (IntKind.i64.wrap ((IntKind.u64.wrap (IntKind.i64.wrap (x28 + x29))).fdiv (2 ^ (min (1 : Int).toNat IntKind.u64.bits)))))) < (x30.length : Int)) /\ ∃ y31 : (List yaa), (x30[(IntKind.i64.wrap ((IntKind.i64.wrap ((IntKind.i64.wrap ((IntKind.i64.wrap ((IntKind.u64.wrap (IntKind.i64.wrap (a0 + a2))).fdiv (2 ^ (min (1 : Int).toNat IntKind.u64.bits)))) + a1)) - (1 : Int))) - (IntKind.i64.wrap ((IntKind.u64.wrap (IntKind.i64.wrap (x28 + x29))).fdiv (2 ^ (min (1 : Int).toNat IntKind.u64.bits)))))).toNat]? = some y31) /\ (0 <= (IntKind.i64.wrap ((IntKind.u64.wrap (IntKind.i64.wrap (x28 + x29))).fdiv (2 ^ (min (1 : Int).toNat IntKind.u64.bits))))) /\ ((IntKind.i64.wrap ((IntKind.u64.wrap (IntKind.i64.wrap (x28 + x29))).fdiv (2 ^ (min (1 : Int).toNat IntKind.u64.bits)))) < (x30.length : Int)) /\ ∃ y32 : (List yaa), (x30[(IntKind.i64.wrap ((IntKind.u64.wrap (IntKind.i64.wrap (x28 + x29))).fdiv (2 ^ (min (1 : Int).toNat IntKind.u64.bits)))).toNat]? = some y32) /\ ∃ z33, (g4 y31 y32 z33) /\ cnd (!(decide (z33 < (0 : Int)))) (X6 (IntKind.i64.wrap ((IntKind.i64.wrap ((IntKind.u64.wrap (IntKind.i64.wrap (x28 + x29))).fdiv (2 ^ (min (1 : Int).toNat IntKind.u64.bits)))) + (1 : Int))) x29 x30) (X6 x28 (IntKind.i64.wrap ((IntKind.u64.wrap (IntKind.i64.wrap (x28 + x29))).fdiv (2 ^ (min (1 : Int).toNat IntKind.u64.bits)))) x30)) (cnd (decide (x28 < a1)) (yam Xr a0 a1 a2 g4 r0 x28 (decide (a1 < (IntKind.i64.wrap ((IntKind.i64.wrap ((IntKind.i64.wrap ((IntKind.u64.wrap (IntKind.i64.wrap (a0 + a2))).fdiv (2 ^ (min (1 : Int).toNat IntKind.u64.bits)))) + a1)) - x28)))) x30) (yam Xr a0 a1 a2 g4 r0 x28 false x30))
def yai (Xr : ((List yaa) → (List yaa) → Int → Prop) → Int → Int → Int → (List (List yaa)) → (List (List yaa)) → Prop) (a0 a1 a2 : Int) (g4 : (List yaa) → (List yaa) → Int → Prop) (r0 : List (List yaa)) (x25 x26 : Int) (x27 : List (List yaa)) : Prop :=
 ∀ X6 : Int -> Int -> (List (List yaa)) -> Prop, (∀ x28 x29 x30, yaE Xr a0 a1 a2 g4 r0 X6 x28 x29 x30 -> X6 x28 x29 x30) -> X6 x25 x26 x27
def yau (Xr : ((List yaa) → (List yaa) → Int → Prop) → Int → Int → Int → (List (List yaa)) → (List (List yaa)) → Prop) (g4 : (List yaa) → (List yaa) → Int → Prop) (a0 a1 a2 : Int) (a3 r0 : List (List yaa)) : Prop :=
 cnd ((IntKind.i64.wrap (a1 - a0)) == (1 : Int)) (∀ X1 : Int -> Int -> (List (List yaa)) -> Prop, (∀ x1 x2 x3, yar a0 g4 r0 X1 x1 x2 x3 -> X1 x1 x2 x3) -> X1 a1 a2 a3) (cnd ((IntKind.i64.wrap (a2 - a1)) == (1 : Int)) (∀ X3 : Int -> Int -> (List (List yaa)) -> Prop, (∀ x13 x14 x15, yaq a1 g4 r0 X3 x13 x14 x15 -> X3 x13 x14 x15) -> X3 a0 a1 a3) (cnd (decide ((IntKind.i64.wrap ((IntKind.u64.wrap (IntKind.i64.wrap (a0 + a2))).fdiv (2 ^ (min (1 : Int).toNat IntKind.u64.bits)))) < a1)) (yai Xr a0 a1 a2 g4 r0 (IntKind.i64.wrap ((IntKind.i64.wrap ((IntKind.i64.wrap ((IntKind.u64.wrap (IntKind.i64.wrap (a0 + a2))).fdiv (2 ^ (min (1 : Int).toNat IntKind.u64.bits)))) + a1)) - a2)) (IntKind.i64.wrap ((IntKind.u64.wrap (IntKind.i64.wrap (a0 + a2))).fdiv (2 ^ (min (1 : Int).toNat IntKind.u64.bits)))) a3) (yai Xr a0 a1 a2 g4 r0 a0 a1 a3)))
theorem yc9 (r0 : List (List yaa)) (x1 : Int) {X2 : Int → (List (List yaa)) → Prop} {x7 : Int} {x8 : List (List yaa)} (h : yaG r0 x1 X2 x7 x8) : ybg x1 r0 X2 x7 x8 := by
 unfold ybg
 unfold yaG at h
 exact h
theorem yc8 (a0 : Int) (g4 : (List yaa) → (List yaa) → Int → Prop) (r0 : List (List yaa)) {X1 : Int → Int → (List (List yaa)) → Prop} {x1 x2 : Int} {x3 : List (List yaa)} (h : yar a0 g4 r0 X1 x1 x2 x3) : ybq a0 g4 r0 X1 x1 x2 x3 := by
 unfold ybq
 unfold yar at h
 refine yaA h (fun h => ?_) (fun h => ?_)
 ·exact h
 ·intro X2 k
  exact h X2 (fun x7 x8 q => k x7 x8 (yc9 r0 x1 q))
theorem yda (r0 : List (List yaa)) (x13 : Int) {X4 : Int → (List (List yaa)) → Prop} {x19 : Int} {x20 : List (List yaa)} (h : yaF r0 x13 X4 x19 x20) : ybi x13 r0 X4 x19 x20 := by
 unfold ybi
 unfold yaF at h
 exact h
theorem yc5 (a1 : Int) (g4 : (List yaa) → (List yaa) → Int → Prop) (r0 : List (List yaa)) {X3 : Int → Int → (List (List yaa)) → Prop} {x13 x14 : Int} {x15 : List (List yaa)} (h : yaq a1 g4 r0 X3 x13 x14 x15) : ybj a1 g4 r0 X3 x13 x14 x15 := by
 unfold ybj
 unfold yaq at h
 refine yaA h (fun h => ?_) (fun h => ?_)
 ·exact h
 ·intro X4 k
  exact h X4 (fun x19 x20 q => k x19 x20 (yda r0 x13 q))
theorem yc7 (Xr : ((List yaa) → (List yaa) → Int → Prop) → Int → Int → Int → (List (List yaa)) → (List (List yaa)) → Prop) (a0 a2 : Int) (g4 : (List yaa) → (List yaa) → Int → Prop) (r0 : List (List yaa)) (x37 : Int) {x39 : Bool} {x40 : List (List yaa)} (h : yan Xr a0 a2 g4 r0 x37 x39 x40) : ybo Xr g4 a0 a2 x37 r0 x39 x40 := by
 unfold ybo
 unfold yan at h
 exact h
theorem yc6 (Xr : ((List yaa) → (List yaa) → Int → Prop) → Int → Int → Int → (List (List yaa)) → (List (List yaa)) → Prop) (a0 a2 : Int) (g4 : (List yaa) → (List yaa) → Int → Prop) (r0 : List (List yaa)) {x37 : Int} {x38 : List (List yaa)} (h : yae Xr a0 a2 g4 r0 x37 x38) : ybk Xr g4 a0 a2 r0 x37 x38 := by
 unfold ybk
 unfold yae at h
 intro J9 kJ9
 have hJ9 : ∀ x39 x40, yan Xr a0 a2 g4 r0 x37 x39 x40 -> J9 x39 x40 := fun x39 x40 q => kJ9 x39 x40 (yc7 Xr a0 a2 g4 r0 x37 q)
 refine yaA h (fun h => ?_) (fun h => ?_)
 ·exact hJ9 _ _ h
 ·exact hJ9 _ _ h
theorem ycY (J8 : Int → (List (List yaa)) → Prop) (Xr : ((List yaa) → (List yaa) → Int → Prop) → Int → Int → Int → (List (List yaa)) → (List (List yaa)) → Prop) (a0 a2 : Int) (g4 : (List yaa) → (List yaa) → Int → Prop) (r0 : List (List yaa)) (x34 x35 : Int) (hJ8 : ∀ (x37 : Int) (x38 : (List (List yaa))), yae Xr a0 a2 g4 r0 x37 x38 → J8 x37 x38) {x42 : Bool} {x43 : List (List yaa)} (h : yal Xr a0 a2 g4 r0 x34 x35 x42 x43) : ya8 Xr g4 a0 x34 a2 J8 x35 x42 x43 := by
 unfold ya8
 unfold yal at h
 refine yaA h (fun h => ?_) (fun h => ?_)
 ·obtain ⟨z44, h⟩ := h
  refine ⟨z44, ?_⟩
  obtain ⟨h0, h⟩ := h
  refine ⟨h0, ?_⟩
  obtain ⟨h0, h⟩ := h
  refine ⟨h0, ?_⟩
  exact hJ8 _ _ h
 ·exact hJ8 _ _ h
theorem yc4 (Xr : ((List yaa) → (List yaa) → Int → Prop) → Int → Int → Int → (List (List yaa)) → (List (List yaa)) → Prop) (a0 a2 : Int) (g4 : (List yaa) → (List yaa) → Int → Prop) (r0 : List (List yaa)) {x34 x35 : Int} {x36 : List (List yaa)} (h : yad Xr a0 a2 g4 r0 x34 x35 x36) : ybl Xr g4 a0 a2 r0 x34 x35 x36 := by
 unfold ybl
 unfold yad at h
 intro J8 kJ8
 have hJ8 : ∀ x37 x38, yae Xr a0 a2 g4 r0 x37 x38 -> J8 x37 x38 := fun x37 x38 q => kJ8 x37 x38 (yc6 Xr a0 a2 g4 r0 q)
 intro J10 kJ10
 have hJ10 : ∀ x42 x43, yal Xr a0 a2 g4 r0 x34 x35 x42 x43 -> J10 x42 x43 := fun x42 x43 q => kJ10 x42 x43 (ycY J8 Xr a0 a2 g4 r0 x34 x35 hJ8 q)
 refine yaA h (fun h => ?_) (fun h => ?_)
 ·exact hJ10 _ _ h
 ·exact hJ10 _ _ h
theorem ycX (J7 : Int → Int → (List (List yaa)) → Prop) (Xr : ((List yaa) → (List yaa) → Int → Prop) → Int → Int → Int → (List (List yaa)) → (List (List yaa)) → Prop) (a0 a1 a2 : Int) (g4 : (List yaa) → (List yaa) → Int → Prop) (r0 : List (List yaa)) (x28 : Int) (hJ7 : ∀ (x34 : Int) (x35 : Int) (x36 : (List (List yaa))), yad Xr a0 a2 g4 r0 x34 x35 x36 → J7 x34 x35 x36) {x45 : Bool} {x46 : List (List yaa)} (h : yam Xr a0 a1 a2 g4 r0 x28 x45 x46) : ya9 g4 x28 a1 a0 a2 J7 x45 x46 := by
 unfold ya9
 unfold yam at h
 refine yaA h (fun h => ?_) (fun h => ?_)
 ·obtain ⟨z47, h⟩ := h
  refine ⟨z47, ?_⟩
  obtain ⟨h0, h⟩ := h
  refine ⟨h0, ?_⟩
  obtain ⟨h0, h⟩ := h
  refine ⟨h0, ?_⟩
  exact hJ7 _ _ _ h
 ·exact hJ7 _ _ _ h
theorem ydd (Xr : ((List yaa) → (List yaa) → Int → Prop) → Int → Int → Int → (List (List yaa)) → (List (List yaa)) → Prop) (a0 a1 a2 : Int) (g4 : (List yaa) → (List yaa) → Int → Prop) (r0 : List (List yaa)) {X6 : Int → Int → (List (List yaa)) → Prop} {x28 x29 : Int} {x30 : List (List yaa)} (h : yaE Xr a0 a1 a2 g4 r0 X6 x28 x29 x30) : ybm a0 a2 a1 g4 Xr r0 X6 x28 x29 x30 := by
 unfold ybm
 unfold yaE at h
 refine yaA h (fun h => ?_) (fun h => ?_)
 ·exact h
 ·intro J7 kJ7
  have hJ7 : ∀ x34 x35 x36, yad Xr a0 a2 g4 r0 x34 x35 x36 -> J7 x34 x35 x36 := fun x34 x35 x36 q => kJ7 x34 x35 x36 (yc4 Xr a0 a2 g4 r0 q)
  intro J11 kJ11
  have hJ11 : ∀ x45 x46, yam Xr a0 a1 a2 g4 r0 x28 x45 x46 -> J11 x45 x46 := fun x45 x46 q => kJ11 x45 x46 (ycX J7 Xr a0 a1 a2 g4 r0 x28 hJ7 q)
  refine yaA h (fun h => ?_) (fun h => ?_)
  ·exact hJ11 _ _ h
  ·exact hJ11 _ _ h
theorem ydc (Xr : ((List yaa) → (List yaa) → Int → Prop) → Int → Int → Int → (List (List yaa)) → (List (List yaa)) → Prop) (a0 a1 a2 : Int) (g4 : (List yaa) → (List yaa) → Int → Prop) (r0 : List (List yaa)) {x25 x26 : Int} {x27 : List (List yaa)} (h : yai Xr a0 a1 a2 g4 r0 x25 x26 x27) : ybp a0 a2 a1 g4 Xr r0 x25 x26 x27 := by
 unfold ybp
 unfold yai at h
 intro X6 k
 exact h X6 (fun x28 x29 x30 q => k x28 x29 x30 (ydd Xr a0 a1 a2 g4 r0 q))
theorem ydv (Xr : ((List yaa) → (List yaa) → Int → Prop) → Int → Int → Int → (List (List yaa)) → (List (List yaa)) → Prop) (g4 : (List yaa) → (List yaa) → Int → Prop) (a0 a1 a2 : Int) (a3 r0 : List (List yaa)) (h : yau Xr g4 a0 a1 a2 a3 r0) : yay Xr g4 a0 a1 a2 a3 r0 := by
 unfold yay
 unfold yau at h
 refine yaA h (fun h => ?_) (fun h => ?_)
 ·intro X1 k
  exact h X1 (fun x1 x2 x3 q => k x1 x2 x3 (yc8 a0 g4 r0 q))
 ·refine yaA h (fun h => ?_) (fun h => ?_)
  ·intro X3 k
   exact h X3 (fun x13 x14 x15 q => k x13 x14 x15 (yc5 a1 g4 r0 q))
  ·intro J5 kJ5
   have hJ5 : ∀ x25 x26 x27, yai Xr a0 a1 a2 g4 r0 x25 x26 x27 -> J5 x25 x26 x27 := fun x25 x26 x27 q => kJ5 x25 x26 x27 (ydc Xr a0 a1 a2 g4 r0 q)
   refine yaA h (fun h => ?_) (fun h => ?_)
   ·exact hJ5 _ _ _ h
   ·exact hJ5 _ _ _ h
theorem ydJ (g4 : (List yaa) -> (List yaa) -> Int -> Prop) (a0 a1 a2 : Int) (a3 r0 : List (List yaa)) (h : ∀ Xr : ((List yaa) -> (List yaa) -> Int -> Prop) -> Int -> Int -> Int -> (List (List yaa)) -> (List (List yaa)) -> Prop, (∀ (g4 : (List yaa) -> (List yaa) -> Int -> Prop) (a0 : Int) (a1 : Int) (a2 : Int) (a3 : (List (List yaa))) (r0 : (List (List yaa))), yau Xr g4 a0 a1 a2 a3 r0 -> Xr g4 a0 a1 a2 a3 r0) -> Xr g4 a0 a1 a2 a3 r0) : yax g4 a0 a1 a2 a3 r0 := fun Xr k => h Xr fun g4 a0 a1 a2 a3 r0 q => k g4 a0 a1 a2 a3 r0 (ydv Xr g4 a0 a1 a2 a3 r0 q)
def yab : Sl KK := ⟨105, [(4, [29, 29], [3])], ⟨[(0, .row 2000000), (1, .it .i64), (2, .it .i64), (3, .it .i64)], [], [(2000000, 29)]⟩, ⟨[], [], [(2000000, 29)]⟩, [], [], true, fun _ _ _ => True⟩
def yaO : Sl KK := ⟨105, [(4, [29, 29], [3])], ⟨[(0, .row 2000000), (1, .it .i64), (2, .it .i64), (3, .it .i64)], [], [(2000000, 29)]⟩, ⟨[], [], [(2000000, 29)]⟩, [], [], true, apFs (K := KK) (ctT yab.ti) (ctT yab.te) [(4, [29, 29], [3])] yax⟩
def ydw : An KK := (.s (.s .o (.c (.s .o (.s .o (.s (.b (.l ⟨[(0, .row 2000000), (1, .kp 15), (4, .kp 16), (10, .it .i64), (11, .it .i64)], [], [(2000000, 29)]⟩ (fun _ => (.s (.s .o (.c .o .o)) (.b (.s .o (.s .o (.c .o .o)))))))) (.s (.s .o (.b (.l ⟨[(0, .row 2000000), (10, .kp 20), (13, .it .i64)], [], [(2000000, 29)]⟩ (fun _ => (.s (.s .o (.c .o .o)) (.s (.b .o) .o)))))) .o)))) .o)) (.s (.s .o (.c (.s .o (.s .o (.s (.b (.l ⟨[(0, .row 2000000), (2, .kp 35), (4, .kp 36), (14, .it .i64), (15, .it .i64)], [], [(2000000, 29)]⟩ (fun _ => (.s (.s .o (.c .o .o)) (.b (.s .o (.s .o (.c .o .o)))))))) (.s (.s .o (.b (.l ⟨[(0, .row 2000000), (14, .kp 40), (17, .it .i64)], [], [(2000000, 29)]⟩ (fun _ => (.s (.s .o (.c .o .o)) (.s (.b .o) .o)))))) .o)))) .o)) (.s .o (.s .o (.s .o (.j ⟨[(0, .row 2000000), (1, .kp 41), (2, .kp 42), (3, .kp 43), (4, .kp 44), (18, .kp 45), (19, .kp 46), (20, .it .i64), (21, .it .i64)], [], [(2000000, 29)]⟩ (.s .o (.c (.s .o .o) (.s .o .o))) (fun _ => (.s .o (.s (.b (.l ⟨[(0, .row 2000000), (1, .kp 41), (2, .kp 42), (3, .kp 43), (4, .kp 44), (18, .kp 45), (19, .kp 46), (20, .it .i64), (21, .it .i64), (22, .kp 52)], [], [(2000000, 29)]⟩ (fun _ => (.s (.s .o (.c .o .o)) (.b (.s .o (.s .o (.c .o .o)))))))) (.s .o (.j ⟨[(0, .row 2000000), (1, .kp 41), (3, .kp 43), (4, .kp 44), (18, .kp 45), (20, .it .i64), (24, .it .i64)], [], [(2000000, 29)]⟩ (.j ⟨[(0, .row 2000000), (1, .kp 41), (2, .kp 42), (3, .kp 43), (4, .kp 44), (18, .kp 45), (20, .kp 64), (24, .kp 65), (185, .bl)], [], [(2000000, 29)]⟩ .o (fun _ => (.c .o .o))) (fun _ => (.j ⟨[(0, .row 2000000), (3, .kp 43), (4, .kp 44), (18, .kp 45), (24, .it .i64)], [], [(2000000, 29)]⟩ (.j ⟨[(0, .row 2000000), (1, .kp 41), (3, .kp 43), (4, .kp 44), (18, .kp 45), (20, .kp 62), (24, .kp 63), (199, .bl)], [], [(2000000, 29)]⟩ .o (fun _ => (.c .o .o))) (fun _ => (.j ⟨[(0, .row 2000000), (3, .kp 43), (4, .kp 44), (18, .kp 45), (24, .kp 61), (213, .bl)], [], [(2000000, 29)]⟩ .o (fun _ => (.c .o .o)))))))))))))))))
def ydy (Xr : ((List yaa) -> (List yaa) -> Int -> Prop) -> Int -> Int -> Int -> (List (List yaa)) -> (List (List yaa)) -> Prop) : Cf KK := ⟨CC, [], [⟨105, [(4, [29, 29], [3])], ⟨[(0, .row 2000000), (1, .it .i64), (2, .it .i64), (3, .it .i64)], [], [(2000000, 29)]⟩, ⟨[], [], [(2000000, 29)]⟩, [], [], true, apFs (K := KK) (ctT yab.ti) (ctT yab.te) [(4, [29, 29], [3])] Xr⟩, yaZ], 220, [], none, false⟩
theorem ydg (Xr : ((List yaa) → (List yaa) → Int → Prop) → Int → Int → Int → (List (List yaa)) → (List (List yaa)) → Prop) (hX : ∀ (F4 : FV KK) (hF4 : FOk Try.prog CC F4) (a0 : Int) (a1 : Int) (a2 : Int) (a3 : (List (List yaa))) (r0 : (List (List yaa))), Xr (curF [3] [29, 29] F4.W) a0 a1 a2 a3 r0 → SlC Try.prog CC yab [F4] [.i a0, .i a1, .i a2, .l 29 a3] [.l 29 r0]) : ∀ (F4 : FV KK) (hF4 : FOk Try.prog CC F4) (a0 : Int) (a1 : Int) (a2 : Int) (a3 : (List (List yaa))) (r0 : (List (List yaa))), yay Xr (curF [3] [29, 29] F4.W) a0 a1 a2 a3 r0 → SlC Try.prog CC yab [F4] [.i a0, .i a1, .i a2, .l 29 a3] [.l 29 r0] := by
 intro F4 hF4 a0 a1 a2 a3 r0 h
 refine yf0 (F := ydy Xr) ybG yaJ (yfC ?_ (yfC ydY yaL)) t105 (A := ydw) (sp := yab) rfl (by kernel_rfl) (by kernel_rfl) (Nat.le_of_ble_eq_true (by kernel_rfl)) (fs := [F4]) (env := [.i a0, .i a1, .i a2, .l 29 a3]) (out := [.l 29 r0]) (by kernel_rfl) (fun G hG => by simp at hG; subst hG; assumption) (X := yay Xr (curF [3] [29, 29] F4.W) a0 a1 a2 a3 r0) h (by kernel_rfl)
 clear h a0 a1 a2 a3 r0 hF4 F4
 intro fs env out hl hF hW
 obtain ⟨F4, fs4, rfl, h0⟩ := yiz hW
 obtain ⟨rfl, h1⟩ := yfA h0
 obtain ⟨a0, ea0, rfl, h2⟩ := ybX h1
 obtain ⟨a1, ea1, rfl, h3⟩ := ybX h2
 obtain ⟨a2, ea2, rfl, h4⟩ := ybX h3
 obtain ⟨a3, ea3, rfl, h5⟩ := ybX h4
 obtain ⟨rfl, h6⟩ := yfE h5
 obtain ⟨r0, er0, rfl, h7⟩ := yej h6
 obtain ⟨rfl, h8⟩ := yeg h7
 show SlC Try.prog CC ⟨105, [(4, [29, 29], [3])], ⟨[(0, .row 2000000), (1, .it .i64), (2, .it .i64), (3, .it .i64)], [], [(2000000, 29)]⟩, ⟨[], [], [(2000000, 29)]⟩, [], [], true, apFs (K := KK) (ctT yab.ti) (ctT yab.te) [(4, [29, 29], [3])] Xr⟩ [F4] [.i a0, .i a1, .i a2, .l 29 a3] [.l 29 r0]
 rw [show SlC Try.prog CC ⟨105, [(4, [29, 29], [3])], ⟨[(0, .row 2000000), (1, .it .i64), (2, .it .i64), (3, .it .i64)], [], [(2000000, 29)]⟩, ⟨[], [], [(2000000, 29)]⟩, [], [], true, apFs (K := KK) (ctT yab.ti) (ctT yab.te) [(4, [29, 29], [3])] Xr⟩ [F4] [.i a0, .i a1, .i a2, .l 29 a3] [.l 29 r0] = SlC Try.prog CC yab [F4] [.i a0, .i a1, .i a2, .l 29 a3] [.l 29 r0] by kernel_rfl]
 exact hX F4 (hF _ (by simp)) a0 a1 a2 a3 r0 h8
theorem ydx : SlOk Try.prog CC yaO := by
 intro fs env out hl hF hW
 obtain ⟨F4, fs4, rfl, h0⟩ := yiz hW
 obtain ⟨rfl, h1⟩ := yfA h0
 obtain ⟨a0, ea0, rfl, h2⟩ := ybX h1
 obtain ⟨a1, ea1, rfl, h3⟩ := ybX h2
 obtain ⟨a2, ea2, rfl, h4⟩ := ybX h3
 obtain ⟨a3, ea3, rfl, h5⟩ := ybX h4
 obtain ⟨rfl, h6⟩ := yfE h5
 obtain ⟨r0, er0, rfl, h7⟩ := yej h6
 obtain ⟨rfl, h8⟩ := yeg h7
 show SlC Try.prog CC yaO [F4] [.i a0, .i a1, .i a2, .l 29 a3] [.l 29 r0]
 rw [show SlC Try.prog CC yaO [F4] [.i a0, .i a1, .i a2, .l 29 a3] [.l 29 r0] = SlC Try.prog CC yab [F4] [.i a0, .i a1, .i a2, .l 29 a3] [.l 29 r0] by kernel_rfl]
 exact h8 (fun g4 a0 a1 a2 a3 r0 => ∀ F4 : FV KK, FOk Try.prog CC F4 -> curF [3] [29, 29] F4.W = g4 -> SlC Try.prog CC yab [F4] [.i a0, .i a1, .i a2, .l 29 a3] [.l 29 r0]) (fun g4 a0 a1 a2 a3 r0 h => fun F4 hF4 e4 => ydg (fun g4 a0 a1 a2 a3 r0 => ∀ F4 : FV KK, FOk Try.prog CC F4 -> curF [3] [29, 29] F4.W = g4 -> SlC Try.prog CC yab [F4] [.i a0, .i a1, .i a2, .l 29 a3] [.l 29 r0]) (fun F4 hF4 a0 a1 a2 a3 r0 h => h F4 hF4 rfl) F4 hF4 a0 a1 a2 a3 r0 (by subst e4; exact h)) F4 (hF _ (by simp)) rfl
def yb5 (a0 : Int) (g2 : (List yaa) → (List yaa) → Int → Prop) (x6 : Int) (X2 : Int → (List (List yaa)) → Prop) (X3 : Int → Int → (List (List yaa)) → Prop) (x8 x9 : Int) (x10 : List (List yaa)) : Prop :=
 cnd (decide (x9 <= a0)) (∃ z11, (yax g2 x8 (IntKind.i64.wrap (x8 + x6)) x9 x10 z11) /\ (z11.length = x10.length) /\ X3 x9 (IntKind.i64.wrap (x9 + (IntKind.i64.wrap ((2 : Int) * x6)))) z11) (cnd (decide ((IntKind.i64.wrap (x8 + x6)) < a0)) (∃ z12, (yax g2 x8 (IntKind.i64.wrap (x8 + x6)) a0 x10 z12) /\ (z12.length = x10.length) /\ X2 (IntKind.i64.wrap (x6 * (2 : Int))) z12) (X2 (IntKind.i64.wrap (x6 * (2 : Int))) x10))
def yea (a0 : Int) (g2 : (List yaa) → (List yaa) → Int → Prop) (r0 : List (List yaa)) (X2 : Int → (List (List yaa)) → Prop) (x6 : Int) (x7 : List (List yaa)) : Prop :=
 cnd (decide (x6 < a0)) (∀ X3 : Int -> Int -> (List (List yaa)) -> Prop, (∀ x8 x9 x10, yb5 a0 g2 x6 X2 X3 x8 x9 x10 -> X3 x8 x9 x10) -> X3 (0 : Int) (IntKind.i64.wrap ((2 : Int) * x6)) x7) (x7 = r0)
def yec (a0 : Int) (g2 : (List yaa) → (List yaa) → Int → Prop) (r0 : List (List yaa)) (X1 : Int → Int → (List (List yaa)) → Prop) (x1 x2 : Int) (x3 : List (List yaa)) : Prop :=
 cnd (decide (x2 <= a0)) (∃ z4, (yaf g2 x1 x2 x3 z4) /\ (z4.length = x3.length) /\ X1 x2 (IntKind.i64.wrap (x2 + (20 : Int))) z4) (∃ z5, (yaf g2 x1 a0 x3 z5) /\ (z5.length = x3.length) /\ ∀ X2 : Int -> (List (List yaa)) -> Prop, (∀ x6 x7, yea a0 g2 r0 X2 x6 x7 -> X2 x6 x7) -> X2 (20 : Int) z5)
def yaB (g2 : (List yaa) → (List yaa) → Int → Prop) (a0 : Int) (a1 r0 : List (List yaa)) : Prop :=
 ∀ X1 : Int -> Int -> (List (List yaa)) -> Prop, (∀ x1 x2 x3, yec a0 g2 r0 X1 x1 x2 x3 -> X1 x1 x2 x3) -> X1 (0 : Int) (20 : Int) a1
def yaX : Sl KK := ⟨102, [(2, [29, 29], [3])], ⟨[(0, .row 2000000), (1, .it .i64)], [], [(2000000, 29)]⟩, ⟨[], [], [(2000000, 29)]⟩, [], [], true, fun _ _ _ => True⟩
def yaY : Sl KK := ⟨102, [(2, [29, 29], [3])], ⟨[(0, .row 2000000), (1, .it .i64)], [], [(2000000, 29)]⟩, ⟨[], [], [(2000000, 29)]⟩, [], [], true, apFs (K := KK) (ctT yaX.ti) (ctT yaX.te) [(2, [29, 29], [3])] yaB⟩
def yd2 : An KK := (.s .o (.s .o (.s (.b (.l ⟨[(0, .row 2000000), (1, .kp 6), (2, .kp 7), (6, .kp 8), (7, .it .i64), (8, .it .i64)], [], [(2000000, 29)]⟩ (fun _ => (.s (.s .o (.c .o .o)) (.b (.s .o (.s .o .o))))))) (.s .o (.b (.l ⟨[(0, .row 2000000), (1, .kp 6), (2, .kp 7), (6, .it .i64)], [], [(2000000, 29)]⟩ (fun _ => (.s (.s .o (.c .o .o)) (.b (.s .o (.s (.b (.l ⟨[(0, .row 2000000), (1, .kp 6), (2, .kp 7), (6, .kp 24), (7, .it .i64), (8, .it .i64)], [], [(2000000, 29)]⟩ (fun _ => (.s (.s .o (.c .o .o)) (.b (.s .o (.s .o .o))))))) (.s (.s .o (.s .o (.c .o .o))) .o))))))))))))
def ydX : Cf KK := ⟨CC, [], [yaw, yaO], 63, [], none, false⟩
theorem yed : SlOk Try.prog CC yaY := by
 intro fs env out hl hF hW
 obtain ⟨F2, fs2, rfl, h0⟩ := yiz hW
 obtain ⟨rfl, h1⟩ := yfA h0
 obtain ⟨a0, ea0, rfl, h2⟩ := ybX h1
 obtain ⟨a1, ea1, rfl, h3⟩ := ybX h2
 obtain ⟨rfl, h4⟩ := yfE h3
 obtain ⟨r0, er0, rfl, h5⟩ := yej h4
 obtain ⟨rfl, h6⟩ := yeg h5
 show SlC Try.prog CC yaY [F2] [.i a0, .l 29 a1] [.l 29 r0]
 rw [show SlC Try.prog CC yaY [F2] [.i a0, .l 29 a1] [.l 29 r0] = SlC Try.prog CC yaX [F2] [.i a0, .l 29 a1] [.l 29 r0] by kernel_rfl]
 exact yf0 (F := ydX) ybG yaJ (yfC ycG (yfC ydx yaL)) t102 (A := yd2) (sp := yaX) rfl (by kernel_rfl) (by kernel_rfl) (Nat.le_of_ble_eq_true (by kernel_rfl)) (fs := [F2]) (env := [.i a0, .l 29 a1]) (out := [.l 29 r0]) (by kernel_rfl) hF (X := yaB (curF [3] [29, 29] F2.W) a0 a1 r0) h6 (by kernel_rfl)
def ybx (g1 : (List yaa) → (List yaa) → Int → Prop) (a0 r0 : List (List yaa)) : Prop :=
 ∃ z1, (yaB g1 (a0.length : Int) a0 z1) /\ (z1.length = a0.length) /\ z1 = r0
def yaQ : Sl KK := ⟨87, [(1, [29, 29], [3])], ⟨[(0, .row 2000000)], [], [(2000000, 29)]⟩, ⟨[], [], [(2000000, 29)]⟩, [], [], true, fun _ _ _ => True⟩
def yaR : Sl KK := ⟨87, [(1, [29, 29], [3])], ⟨[(0, .row 2000000)], [], [(2000000, 29)]⟩, ⟨[], [], [(2000000, 29)]⟩, [], [], true, apFs (K := KK) (ctT yaQ.ti) (ctT yaQ.te) [(1, [29, 29], [3])] ybx⟩
def ydK : An KK := .o
def ydE : Cf KK := ⟨CC, [], [yaY], 9, [], none, false⟩
theorem ydC : SlOk Try.prog CC yaR := by
 intro fs env out hl hF hW
 obtain ⟨F1, fs1, rfl, h0⟩ := yiz hW
 obtain ⟨rfl, h1⟩ := yfA h0
 obtain ⟨a0, ea0, rfl, h2⟩ := ybX h1
 obtain ⟨rfl, h3⟩ := yfE h2
 obtain ⟨r0, er0, rfl, h4⟩ := yej h3
 obtain ⟨rfl, h5⟩ := yeg h4
 show SlC Try.prog CC yaR [F1] [.l 29 a0] [.l 29 r0]
 rw [show SlC Try.prog CC yaR [F1] [.l 29 a0] [.l 29 r0] = SlC Try.prog CC yaQ [F1] [.l 29 a0] [.l 29 r0] by kernel_rfl]
 exact yf0 (F := ydE) ybG yaJ (yfC yed yaL) t87 (A := ydK) (sp := yaQ) rfl (by kernel_rfl) (by kernel_rfl) (Nat.le_of_ble_eq_true (by kernel_rfl)) (fs := [F1]) (env := [.l 29 a0]) (out := [.l 29 r0]) (by kernel_rfl) hF (X := ybx (curF [3] [29, 29] F1.W) a0 r0) h5 (by kernel_rfl)
def ybh (g1 : (List yaa) → (List yaa) → Int → Prop) (a0 r0 : List (List yaa)) : Prop :=
 ∃ z1, (ybI a0 z1) /\ ∃ z2, (ybx g1 z1 z2) /\ (z2.length = z1.length) /\ ((a0 = a0)) /\ z2 = r0
def yaH : Sl KK := ⟨63, [(1, [29, 29], [3])], ⟨[(0, .fn 88 [] [.px 2000000 0])], [(2000000, 24, [.sl 29])], []⟩, ⟨[(4, .row 1000000)], [], [(1000000, 29)]⟩, [2000000], [(4, none)], false, fun _ _ _ => True⟩
def yaK : Sl KK := ⟨63, [(1, [29, 29], [3])], ⟨[(0, .fn 88 [] [.px 2000000 0])], [(2000000, 24, [.sl 29])], []⟩, ⟨[(4, .row 1000000)], [], [(1000000, 29)]⟩, [2000000], [(4, none)], false, apFs (K := KK) (ctT yaH.ti) (ctT yaH.te) [(1, [29, 29], [3])] ybh⟩
def yds : An KK := (.s .o (.s .o (.s .o (.s .o .o))))
def ydo : Cf KK := ⟨CC, [], [ybC, yaR], 12, [], none, false⟩
theorem ydf : SlOk Try.prog CC yaK := by
 intro fs env out hl hF hW
 obtain ⟨F1, fs1, rfl, h0⟩ := yiz hW
 obtain ⟨rfl, h1⟩ := yfA h0
 obtain ⟨a0, ea0, rfl, h2⟩ := ybX h1
 obtain ⟨rfl, h3⟩ := yfE h2
 obtain ⟨r0, er0, rfl, h4⟩ := yej h3
 obtain ⟨rfl, h5⟩ := yeg h4
 show SlC Try.prog CC yaK [F1] [.l 29 a0] [.l 29 r0]
 rw [show SlC Try.prog CC yaK [F1] [.l 29 a0] [.l 29 r0] = SlC Try.prog CC yaH [F1] [.l 29 a0] [.l 29 r0] by kernel_rfl]
 exact yf0 (F := ydo) ybG yaJ (yfC yeX (yfC ydC yaL)) t63 (A := yds) (sp := yaH) rfl (by kernel_rfl) (by kernel_rfl) (Nat.le_of_ble_eq_true (by kernel_rfl)) (fs := [F1]) (env := [.l 29 a0]) (out := [.l 29 r0]) (by kernel_rfl) hF (X := ybh (curF [3] [29, 29] F1.W) a0 r0) h5 (by kernel_rfl)
def ygg (a0 r0 : List (List yaa)) : Prop :=
 ∃ z1, (ycb a0 z1) /\ ∃ z2, (ybh ya4 z1 z2) /\ z2 = r0
def yi5 : Sp KK := ⟨39, [.v 24], [24], appW (K := KK) [24] [.v 24] ygg⟩
def ymv : An KK := (.s .o (.s .o .o))
def ymH : Cf KK := ⟨CC, [yb9], [ybH, yaK], 6, [], none, false⟩
theorem ync : SpOk Try.prog CC yi5 := yaC (F := ymH) (ps := [.v 24]) (rs := [24]) (w := ygg) ybG (yaN ycN yaJ) (yfC yfm (yfC ydf yaL)) t39 (A := ymv) (by kernel_rfl) (by kernel_rfl) (fun a0 r0 => show _ = _ by kernel_rfl)
def ygn (a0 : List (List yaa)) (r0 : yaj) : Prop :=
 ∃ z1, (ygg a0 z1) /\ (⟨z1⟩ : yaj) = r0
def yjk : Sp KK := ⟨10, [.v 24], [31], appW (K := KK) [31] [.v 24] ygn⟩
def yqS : An KK := (.s .o (.s .o .o))
def yqZ : Cf KK := ⟨CC, [yi5], [], 6, [], none, false⟩
theorem yme : SpOk Try.prog CC yjk := yaC (F := yqZ) (ps := [.v 24]) (rs := [31]) (w := ygn) ybG (yaN ync yaJ) yaL t10 (A := yqS) (by kernel_rfl) (by kernel_rfl) (fun a0 r0 => show _ = _ by kernel_rfl)
def ybc (a0 r0 : List yaa) : Prop :=
 ∀ u1 : Bool, ((u1 = true -> a0 = []) -> cnd u1 (([] : List yaa) = r0) ((a0.length <= 400000000) /\ (([] : List yaa) ++ a0) = r0))
def ycm : Sp KK := ⟨62, [.v 29], [29], appW (K := KK) [29] [.v 29] ybc⟩
def yfK : An KK := (.s .o (.s (.s .o (.c (.s .o .o) .o)) (.s .o .o)))
def yfO : Cf KK := ⟨CC, [], [], 8, [], none, false⟩
theorem yd0 : SpOk Try.prog CC ycm := yaC (F := yfO) (ps := [.v 29]) (rs := [29]) (w := ybc) ybG yaJ yaL t62 (A := yfK) (by kernel_rfl) (by kernel_rfl) (fun a0 r0 => show _ = _ by kernel_rfl)
def yfT (a0 : yaj) (r0 : List (List yaa)) (X1 : Int → (List (List yaa)) → Prop) (x1 : Int) (x2 : List (List yaa)) : Prop :=
 cnd (decide (x1 < (a0.rows.length : Int))) ((0 <= x1) /\ (x1 < (a0.rows.length : Int)) /\ ∃ y3 : (List yaa), (a0.rows[x1.toNat]? = some y3) /\ ∃ z4, (ybc y3 z4) /\ (x2.length <= 1000000000) /\ X1 (IntKind.i64.wrap (x1 + (1 : Int))) (x2 ++ ([z4] : List (List yaa)))) (x2 = r0)
def ycP (a0 : yaj) (r0 : List (List yaa)) : Prop :=
 (a0.rows.length <= maxLen -> ∀ X1 : Int -> (List (List yaa)) -> Prop, (∀ x1 x2, yfT a0 r0 X1 x1 x2 -> X1 x1 x2) -> X1 (0 : Int) ([] : List (List yaa)))
def yfU : Sp KK := ⟨37, [.v 31], [24], appW (K := KK) [24] [.v 31] ycP⟩
def yiW : An KK := (.s .o (.s .o (.s (.s .o (.b (.l ⟨[(3, .row 17), (7, .kp 6), (8, .kp 7), (9, .it .i64)], [], [(17, 29)]⟩ (fun _ => (.s .o (.s (.c .o .o) (.s (.b (.s .o .o)) .o))))))) (.s .o .o))))
def yjF : Cf KK := ⟨CC, [ycm], [], 20, [], none, false⟩
theorem yjh : SpOk Try.prog CC yfU := yaC (F := yjF) (ps := [.v 31]) (rs := [24]) (w := ycP) ybG (yaN yd0 yaJ) yaL t37 (A := yiW) (by kernel_rfl) (by kernel_rfl) (fun a0 r0 => show _ = _ by kernel_rfl)
def yba (a0 : yaj) (r0 : Int) : Prop :=
 (a0.rows.length <= maxLen -> (a0.rows.length : Int) = r0)
def yeT : Sp KK := ⟨13, [.v 31], [3], appW (K := KK) [3] [.v 31] yba⟩
def yj1 : An KK := (.s .o (.s .o .o))
def yjU : Cf KK := ⟨CC, [], [], 6, [], none, false⟩
theorem ygL : SpOk Try.prog CC yeT := yaC (F := yjU) (ps := [.v 31]) (rs := [3]) (w := yba) ybG yaJ yaL t13 (A := yj1) (by kernel_rfl) (by kernel_rfl) (fun a0 r0 => show _ = _ by kernel_rfl)
def ycS (a0 : yaj) (r0 : List (List yaa)) : Prop :=
 a0.rows = r0
def ycA : Sl KK := ⟨49, [], ⟨[(0, .v 31)], [], []⟩, ⟨[(2, .fn 74 [] [.px 1000000 0])], [(1000000, 31, [.sl 29])], []⟩, [], [(2, none)], true, fun _ _ _ => True⟩
def ycw : Sl KK := ⟨49, [], ⟨[(0, .v 31)], [], []⟩, ⟨[(2, .fn 74 [] [.px 1000000 0])], [(1000000, 31, [.sl 29])], []⟩, [], [(2, none)], true, apFs (K := KK) (ctT ycA.ti) (ctT ycA.te) [] ycS⟩
def yii : An KK := (.s .o (.s .o .o))
def yh4 : Cf KK := ⟨CC, [], [], 4, [], none, false⟩
theorem yik : SlOk Try.prog CC ycw := by
 intro fs env out hl hF hW
 obtain ⟨rfl, h0⟩ := yfA hW
 obtain ⟨a0, ea0, rfl, h1⟩ := ybX h0
 obtain ⟨rfl, h2⟩ := yfE h1
 obtain ⟨r0, er0, rfl, h3⟩ := yej h2
 obtain ⟨rfl, h4⟩ := yeg h3
 show SlC Try.prog CC ycw [] [.v 31 a0] [.l 29 r0]
 rw [show SlC Try.prog CC ycw [] [.v 31 a0] [.l 29 r0] = SlC Try.prog CC ycA [] [.v 31 a0] [.l 29 r0] by kernel_rfl]
 exact yf0 (F := yh4) ybG yaJ yaL t49 (A := yii) (sp := ycA) rfl (by kernel_rfl) (by kernel_rfl) (Nat.le_of_ble_eq_true (by kernel_rfl)) (fs := []) (env := [.v 31 a0]) (out := [.l 29 r0]) (by kernel_rfl) hF (X := ycS a0 r0) h4 (by kernel_rfl)
def yc0 (X2 : Int → (List (List yaa)) → Prop) (x4 x2 : Int) (z1 : List (List yaa)) (X1 : Int → (List (List yaa)) → Prop) (x6 : Bool) (x7 : List (List yaa)) : Prop :=
 cnd x6 (X2 (IntKind.i64.wrap (x4 + (1 : Int))) x7) ((0 <= x2) /\ (x2 < (z1.length : Int)) /\ ∃ y8 : (List yaa), (z1[x2.toNat]? = some y8) /\ ∃ z9, (ybc y8 z9) /\ (x7.length <= 1000000000) /\ X1 (IntKind.i64.wrap (x2 + x4)) (x7 ++ ([z9] : List (List yaa))))
def ycV (x2 : Int) (z1 : List (List yaa)) (X1 X2 : Int → (List (List yaa)) → Prop) (x4 : Int) (x5 : List (List yaa)) : Prop :=
 ∀ J3 : Bool -> (List (List yaa)) -> Prop, (∀ x6 x7, yc0 X2 x4 x2 z1 X1 x6 x7 -> J3 x6 x7) -> cnd (decide ((IntKind.i64.wrap (x2 + x4)) < (z1.length : Int))) ((0 <= x2) /\ (x2 < (z1.length : Int)) /\ ∃ y10 : (List yaa), (z1[x2.toNat]? = some y10) /\ (0 <= (IntKind.i64.wrap (x2 + x4))) /\ ((IntKind.i64.wrap (x2 + x4)) < (z1.length : Int)) /\ ∃ y11 : (List yaa), (z1[(IntKind.i64.wrap (x2 + x4)).toNat]? = some y11) /\ ∃ z12, (ya4 y10 y11 z12) /\ J3 (z12 == (0 : Int)) x5) (J3 false x5)
def ycZ (z1 : List (List yaa)) (r0 : yaj) (X1 : Int → (List (List yaa)) → Prop) (x2 : Int) (x3 : List (List yaa)) : Prop :=
 (z1.length <= maxLen -> cnd (decide (x2 < (z1.length : Int))) (∀ X2 : Int -> (List (List yaa)) -> Prop, (∀ x4 x5, ycV x2 z1 X1 X2 x4 x5 -> X2 x4 x5) -> X2 (1 : Int) x3) ((⟨x3⟩ : yaj) = r0))
def ybB (a0 r0 : yaj) : Prop :=
 ∃ z1, (ycS a0 z1) /\ (Nat -> ∀ X1 : Int -> (List (List yaa)) -> Prop, (∀ x2 x3, ycZ z1 r0 X1 x2 x3 -> X1 x2 x3) -> X1 (0 : Int) ([] : List (List yaa)))
def ybd (X1 X2 : Int → (List (List yaa)) → Prop) (x2 x4 : Int) (z1 : List (List yaa)) (x6 : Bool) (x7 : List (List yaa)) : Prop :=
 cnd x6 (X2 (IntKind.i64.wrap (x4 + (1 : Int))) x7) ((0 <= x2) /\ (x2 < (z1.length : Int)) /\ ∃ y8 : (List yaa), (z1[x2.toNat]? = some y8) /\ ∃ z9, (ybc y8 z9) /\ (x7.length <= 1000000000) /\ X1 (IntKind.i64.wrap (x2 + x4)) (x7 ++ ([z9] : List (List yaa))))
def ybZ (X1 : Int → (List (List yaa)) → Prop) (x2 : Int) (z1 : List (List yaa)) (X2 : Int → (List (List yaa)) → Prop) (x4 : Int) (x5 : List (List yaa)) : Prop :=
 cnd (decide ((IntKind.i64.wrap (x2 + x4)) < (z1.length : Int))) ((0 <= x2) /\ (x2 < (z1.length : Int)) /\ ∃ y10 : (List yaa), (z1[x2.toNat]? = some y10) /\ (0 <= (IntKind.i64.wrap (x2 + x4))) /\ ((IntKind.i64.wrap (x2 + x4)) < (z1.length : Int)) /\ ∃ y11 : (List yaa), (z1[(IntKind.i64.wrap (x2 + x4)).toNat]? = some y11) /\ ∃ z12, (ya4 y10 y11 z12) /\ ybd X1 X2 x2 x4 z1 (z12 == (0 : Int)) x5) (ybd X1 X2 x2 x4 z1 false x5)
def yb1 (r0 : yaj) (z1 : List (List yaa)) (X1 : Int → (List (List yaa)) → Prop) (x2 : Int) (x3 : List (List yaa)) : Prop :=
 (z1.length <= maxLen -> cnd (decide (x2 < (z1.length : Int))) (∀ X2 : Int -> (List (List yaa)) -> Prop, (∀ x4 x5, ybZ X1 x2 z1 X2 x4 x5 -> X2 x4 x5) -> X2 (1 : Int) x3) ((⟨x3⟩ : yaj) = r0))
def yey (a0 r0 : yaj) : Prop :=
 ∃ z1, (ycS a0 z1) /\ (Nat -> ∀ X1 : Int -> (List (List yaa)) -> Prop, (∀ x2 x3, yb1 r0 z1 X1 x2 x3 -> X1 x2 x3) -> X1 (0 : Int) ([] : List (List yaa)))
theorem yfG (X1 X2 : Int → (List (List yaa)) → Prop) (x2 x4 : Int) (z1 : List (List yaa)) {x6 : Bool} {x7 : List (List yaa)} (h : ybd X1 X2 x2 x4 z1 x6 x7) : yc0 X2 x4 x2 z1 X1 x6 x7 := by
 unfold yc0
 unfold ybd at h
 exact h
theorem yf2 (X1 : Int → (List (List yaa)) → Prop) (x2 : Int) (z1 : List (List yaa)) {X2 : Int → (List (List yaa)) → Prop} {x4 : Int} {x5 : List (List yaa)} (h : ybZ X1 x2 z1 X2 x4 x5) : ycV x2 z1 X1 X2 x4 x5 := by
 unfold ycV
 unfold ybZ at h
 intro J3 kJ3
 have hJ3 : ∀ x6 x7, ybd X1 X2 x2 x4 z1 x6 x7 -> J3 x6 x7 := fun x6 x7 q => kJ3 x6 x7 (yfG X1 X2 x2 x4 z1 q)
 refine yaA h (fun h => ?_) (fun h => ?_)
 ·obtain ⟨h0, h⟩ := h
  refine ⟨h0, ?_⟩
  obtain ⟨h0, h⟩ := h
  refine ⟨h0, ?_⟩
  obtain ⟨y10, h⟩ := h
  refine ⟨y10, ?_⟩
  obtain ⟨h0, h⟩ := h
  refine ⟨h0, ?_⟩
  obtain ⟨h0, h⟩ := h
  refine ⟨h0, ?_⟩
  obtain ⟨h0, h⟩ := h
  refine ⟨h0, ?_⟩
  obtain ⟨y11, h⟩ := h
  refine ⟨y11, ?_⟩
  obtain ⟨h0, h⟩ := h
  refine ⟨h0, ?_⟩
  obtain ⟨z12, h⟩ := h
  refine ⟨z12, ?_⟩
  obtain ⟨h0, h⟩ := h
  refine ⟨h0, ?_⟩
  exact hJ3 _ _ h
 ·exact hJ3 _ _ h
theorem yf7 (r0 : yaj) (z1 : List (List yaa)) {X1 : Int → (List (List yaa)) → Prop} {x2 : Int} {x3 : List (List yaa)} (h : yb1 r0 z1 X1 x2 x3) : ycZ z1 r0 X1 x2 x3 := by
 unfold ycZ
 unfold yb1 at h
 intro c
 replace h := h c
 refine yaA h (fun h => ?_) (fun h => ?_)
 ·intro X2 k
  exact h X2 (fun x4 x5 q => k x4 x5 (yf2 X1 x2 z1 q))
 ·exact h
theorem yhS (a0 r0 : yaj) (h : yey a0 r0) : ybB a0 r0 := by
 unfold ybB
 unfold yey at h
 obtain ⟨z1, h⟩ := h
 refine ⟨z1, ?_⟩
 obtain ⟨h0, h⟩ := h
 refine ⟨h0, ?_⟩
 intro c
 replace h := h c
 intro X1 k
 exact h X1 (fun x2 x3 q => k x2 x3 (yf7 r0 z1 q))
def yez : Sp KK := ⟨22, [.v 31], [31], appW (K := KK) [31] [.v 31] ybB⟩
def yhf : An KK := (.s .o (.s .o (.s (.s .o (.b (.g 1 ⟨[(2, .px 100002 0), (3, .px 100003 0), (6, .fn 74 [] [.px 100384 0])], [(100002, 31, [.nil]), (100003, 24, [.nil]), (100384, 31, [.sl 29])], []⟩ ⟨[(0, .kp 1), (1, .px 200384 0), (3, .kp 72), (4, .kp 77), (35, .kp 1), (41, .sl 88), (42, .kp 77), (48, .kp 1), (51, .px 200002 0), (52, .px 200003 0)], [(200384, 31, [.kp 41]), (200002, 31, [.kp 42]), (200003, 24, [.row 200012])], [(200012, 29)]⟩ (.s .o (.b (.l ⟨[(0, .kp 1), (1, .px 100384 0), (3, .it .i64), (48, .kp 1), (51, .px 100002 0), (52, .px 100003 0)], [(100384, 31, [.kp 41]), (100002, 31, [.kp 42]), (100003, 24, [.row 12])], [(12, 29)]⟩ (fun _ => (.s (.s .o (.c .o .o)) (.b (.s .o (.s (.b (.l ⟨[(0, .kp 1), (1, .px 100384 0), (3, .kp 72), (4, .it .i64), (48, .kp 1), (51, .px 100002 0), (52, .px 100003 0)], [(100384, 31, [.kp 41]), (100002, 31, [.kp 42]), (100003, 24, [.row 12])], [(12, 29)]⟩ (fun _ => (.s (.j ⟨[(0, .kp 1), (1, .px 100384 0), (3, .kp 72), (4, .kp 77), (32, .bl), (48, .kp 1), (51, .px 100002 0), (52, .px 100003 0)], [(100384, 31, [.kp 41]), (100002, 31, [.kp 42]), (100003, 24, [.row 12])], [(12, 29)]⟩ .o (fun _ => (.c .o .o))) (.b .o))))) (.s (.s .o (.c .o .o)) .o))))))))) .o (.b .o)))) (.s .o .o))))
def yg8 : Cf KK := ⟨CC, [yb9, ycm], [ycw], 15, [(74, c74)], none, false⟩
theorem ygZ : SpOk Try.prog CC yez := yaC (F := yg8) (ps := [.v 31]) (rs := [31]) (w := ybB) ybG (yaN ycN (yaN yd0 yaJ)) (yfC yik yaL) t22 (A := yhf) (by kernel_rfl) (by kernel_rfl) (fun a0 r0 => show _ = _ by kernel_rfl) (hI := (ywp t74 ytM))
def yjy (r0 x5 : Bool) : Prop :=
 x5 = r0
def ycO (r0 : Bool) : Prop :=
 ∃ z1, (ybS (1 : Int) z1) /\ ∃ z2, (ybS (0 : Int) z2) /\ ∃ z3, (ygn ([([z1] : List yaa), ([z2] : List yaa), ([z1] : List yaa)] : List (List yaa)) z3) /\ ∃ z4, (ycP z3 z4) /\ ∀ J1 : Bool -> Prop, (∀ x5, yjy r0 x5 -> J1 x5) -> ∃ z6, (yba z3 z6) /\ cnd (z6 == (3 : Int)) (∃ z7, (ybB z3 z7) /\ ∃ z8, (yba z7 z8) /\ cnd (z8 == (2 : Int)) (cnd ((z4.length : Int) == (3 : Int)) ((0 <= (0 : Int)) /\ ((0 : Int) < (z4.length : Int)) /\ ∃ y9 : (List yaa), (z4[(0 : Int).toNat]? = some y9) /\ (0 <= (0 : Int)) /\ ((0 : Int) < (y9.length : Int)) /\ ∃ y10 : yaa, (y9[(0 : Int).toNat]? = some y10) /\ ∃ z11, (ybS (0 : Int) z11) /\ cnd ((y10.Kind == z11.Kind) && ((y10.N == z11.N) && ((y10.S == z11.S) && true))) ((0 <= (2 : Int)) /\ ((2 : Int) < (z4.length : Int)) /\ ∃ y12 : (List yaa), (z4[(2 : Int).toNat]? = some y12) /\ (0 <= (0 : Int)) /\ ((0 : Int) < (y12.length : Int)) /\ ∃ y13 : yaa, (y12[(0 : Int).toNat]? = some y13) /\ ∃ z14, (ybS (1 : Int) z14) /\ J1 ((y13.Kind == z14.Kind) && ((y13.N == z14.N) && ((y13.S == z14.S) && true)))) (J1 false)) (J1 false)) (J1 false)) (J1 false)
def yf6 : Sp KK := ⟨8, [], [4], appW (K := KK) [4] [] ycO⟩
def yjd : An KK := (.s .o (.s .o (.s .o (.s .o (.j ⟨[(0, .bl)], [], []⟩ .o (fun _ => .o))))))
def yjl : Cf KK := ⟨CC, [ygH, yjk, yfU, yeT, yez], [], 46, [], none, false⟩
theorem yjp : SpOk Try.prog CC yf6 := yaC (F := yjl) (ps := []) (rs := [4]) (w := ycO) ybG (yaN yjZ (yaN yme (yaN yjh (yaN ygL (yaN ygZ yaJ))))) yaL t8 (A := yjd) (by kernel_rfl) (by kernel_rfl) (fun r0 => show _ = _ by kernel_rfl)
def yef (a0 a1 : List yaa) (r0 : Bool) : Prop :=
 ∃ z1, (ya4 a0 a1 z1) /\ (z1 == (0 : Int)) = r0
def yhp : Sp KK := ⟨41, [.v 29, .v 29], [4], appW (K := KK) [4] [.v 29, .v 29] yef⟩
def yla : An KK := (.s .o (.s .o .o))
def ylp : Cf KK := ⟨CC, [yb9], [], 9, [], none, false⟩
theorem yku : SpOk Try.prog CC yhp := yaC (F := ylp) (ps := [.v 29, .v 29]) (rs := [4]) (w := yef) ybG (yaN ycN yaJ) yaL t41 (A := yla) (by kernel_rfl) (by kernel_rfl) (fun a0 a1 r0 => show _ = _ by kernel_rfl)
def ydp (a0 a1 : List (List yaa)) (g2 : (List yaa) → (List yaa) → Bool → Prop) (r0 : Bool) (X1 : Int → Prop) (x1 : Int) : Prop :=
 cnd (decide (x1 < (a0.length : Int))) ((0 <= x1) /\ (x1 < (a0.length : Int)) /\ ∃ y2 : (List yaa), (a0[x1.toNat]? = some y2) /\ (0 <= x1) /\ (x1 < (a1.length : Int)) /\ ∃ y3 : (List yaa), (a1[x1.toNat]? = some y3) /\ ∃ z4, (g2 y2 y3 z4) /\ cnd (!z4) (false = r0) (X1 (IntKind.i64.wrap (x1 + (1 : Int))))) (true = r0)
def ybt (a0 a1 : List (List yaa)) (g2 : (List yaa) → (List yaa) → Bool → Prop) (r0 : Bool) : Prop :=
 (a0.length <= maxLen -> (a1.length <= maxLen -> cnd (!((a0.length : Int) == (a1.length : Int))) (false = r0) ((a0.length <= maxLen -> ∀ X1 : Int -> Prop, (∀ x1, ydp a0 a1 g2 r0 X1 x1 -> X1 x1) -> X1 (0 : Int)))))
def ydi : Sp KK := ⟨40, [.v 24, .v 24, .f [29, 29] [4]], [4], appW (K := KK) [4] [.v 24, .v 24, .f [29, 29] [4]] ybt⟩
def yfp : An KK := (.s .o (.s (.s .o (.c (.s .o .o) .o)) (.s (.s .o (.b (.l ⟨[(1, .kp 6), (2, .kp 7), (15, .kp 8), (16, .kp 9), (17, .it .i64)], [], []⟩ (fun _ => (.s .o (.s (.c .o .o) (.s (.b (.s .o (.s .o (.s .o (.c (.s .o .o) .o))))) .o))))))) (.s .o .o))))
def yfd : Cf KK := ⟨CC, [], [], 32, [], none, false⟩
theorem yfk : SpOk Try.prog CC ydi := yaC (F := yfd) (ps := [.v 24, .v 24, .f [29, 29] [4]]) (rs := [4]) (w := ybt) ybG yaJ yaL t40 (A := yfp) (by kernel_rfl) (by kernel_rfl) (fun a0 a1 F2 r0 => show _ = _ by kernel_rfl)
def ye2 (a0 a1 : yaj) (r0 : Bool) : Prop :=
 ∃ z1, (ybt a0.rows a1.rows yef z1) /\ z1 = r0
def yjx : Sp KK := ⟨11, [.v 31, .v 31], [4], appW (K := KK) [4] [.v 31, .v 31] ye2⟩
def ymT : An KK := (.s .o (.s .o .o))
def ymI : Cf KK := ⟨CC, [yhp, ydi], [], 10, [], none, false⟩
theorem ynk : SpOk Try.prog CC yjx := yaC (F := ymI) (ps := [.v 31, .v 31]) (rs := [4]) (w := ye2) ybG (yaN yku (yaN yfk yaJ)) yaL t11 (A := ymT) (by kernel_rfl) (by kernel_rfl) (fun a0 a1 r0 => show _ = _ by kernel_rfl)
def yhV (a0 : List Str) (r0 : Str) (X1 : Str → Int → Prop) (x1 : Str) (x2 : Int) : Prop :=
 (a0.length <= maxLen -> cnd (decide (x2 < (a0.length : Int))) ((0 <= x2) /\ (x2 < (a0.length : Int)) /\ ∃ y3 : Str, (a0[x2.toNat]? = some y3) /\ (0 <= x2) /\ (x2 < (a0.length : Int)) /\ ∃ y4 : Str, (a0[x2.toNat]? = some y4) /\ ((([IntKind.u8.wrap ((IntKind.i64.wrap ((y3.length : Int).tdiv (16777216 : Int))).tmod (256 : Int)), IntKind.u8.wrap ((IntKind.i64.wrap ((y3.length : Int).tdiv (65536 : Int))).tmod (256 : Int)), IntKind.u8.wrap ((IntKind.i64.wrap ((y3.length : Int).tdiv (256 : Int))).tmod (256 : Int)), IntKind.u8.wrap ((y3.length : Int).tmod (256 : Int))] : List Int).map toB).length + y4.length <= 9223372036854775807) /\ (x1.length + ((([IntKind.u8.wrap ((IntKind.i64.wrap ((y3.length : Int).tdiv (16777216 : Int))).tmod (256 : Int)), IntKind.u8.wrap ((IntKind.i64.wrap ((y3.length : Int).tdiv (65536 : Int))).tmod (256 : Int)), IntKind.u8.wrap ((IntKind.i64.wrap ((y3.length : Int).tdiv (256 : Int))).tmod (256 : Int)), IntKind.u8.wrap ((y3.length : Int).tmod (256 : Int))] : List Int).map toB) ++ y4).length <= 9223372036854775807) /\ X1 (x1 ++ ((([IntKind.u8.wrap ((IntKind.i64.wrap ((y3.length : Int).tdiv (16777216 : Int))).tmod (256 : Int)), IntKind.u8.wrap ((IntKind.i64.wrap ((y3.length : Int).tdiv (65536 : Int))).tmod (256 : Int)), IntKind.u8.wrap ((IntKind.i64.wrap ((y3.length : Int).tdiv (256 : Int))).tmod (256 : Int)), IntKind.u8.wrap ((y3.length : Int).tmod (256 : Int))] : List Int).map toB) ++ y4)) (IntKind.i64.wrap (x2 + (1 : Int)))) (x1 = r0))
def yc1 (a0 : List Str) (r0 : Str) : Prop :=
 ∀ X1 : Str -> Int -> Prop, (∀ x1 x2, yhV a0 r0 X1 x1 x2 -> X1 x1 x2) -> X1 ([] : Str) (0 : Int)
def yhQ : Sp KK := ⟨14, [.v 37], [9], appW (K := KK) [9] [.v 37] yc1⟩
def ylj : An KK := (.s .o (.s .o (.s (.s .o (.b (.l ⟨[(0, .kp 4), (3, .st), (4, .it .i64)], [], []⟩ (fun _ => (.s (.s .o (.c .o .o)) (.s (.b (.s .o .o)) .o)))))) (.s .o .o))))
def yk8 : Cf KK := ⟨CC, [], [], 42, [], none, false⟩
theorem ykr : SpOk Try.prog CC yhQ := yaC (F := yk8) (ps := [.v 37]) (rs := [9]) (w := yc1) ybG yaJ yaL t14 (A := ylj) (by kernel_rfl) (by kernel_rfl) (fun a0 r0 => show _ = _ by kernel_rfl)
def ygG (a0 : Str) (r0 : Int) (X1 : Int → Int → Prop) (x1 x2 : Int) : Prop :=
 cnd (decide (x2 < (a0.length : Int))) ((0 <= x2 /\ x2 < (a0.length : Int)) /\ X1 (bits .or .u64 (IntKind.u64.wrap (x1 * 2 ^ (min (8 : Int).toNat IntKind.u64.bits))) (IntKind.u64.wrap (bAt a0 x2))) (IntKind.i64.wrap (x2 + (1 : Int)))) (x1 = r0)
def ycy (a0 : Str) (r0 : Int) : Prop :=
 ∀ X1 : Int -> Int -> Prop, (∀ x1 x2, ygG a0 r0 X1 x1 x2 -> X1 x1 x2) -> X1 (0 : Int) (0 : Int)
def yeS : Sp KK := ⟨89, [.v 9], [111], appW (K := KK) [111] [.v 9] ycy⟩
def yjQ : An KK := (.s .o (.s .o (.s (.s .o (.b (.l ⟨[(0, .kp 5), (3, .it .u64), (6, .kp 7), (7, .it .i64)], [], []⟩ (fun _ => (.s .o (.s (.c .o .o) (.s (.b (.s .o .o)) .o))))))) (.s .o .o))))
def yjV : Cf KK := ⟨CC, [], [], 19, [], none, false⟩
theorem ygE : SpOk Try.prog CC yeS := yaC (F := yjV) (ps := [.v 9]) (rs := [111]) (w := ycy) ybG yaJ yaL t89 (A := yjQ) (by kernel_rfl) (by kernel_rfl) (fun a0 r0 => show _ = _ by kernel_rfl)
def yeL (a0 r0 r1 : Str) (r2 : Bool) : Prop :=
 cnd (decide ((a0.length : Int) < (4 : Int))) (([] : Str) = r0 /\ a0 = r1 /\ false = r2) ((0 <= (0 : Int) /\ (0 : Int) <= (4 : Int) /\ (4 : Int) <= (a0.length : Int)) /\ ∃ z1, (ycy ((a0.drop (0 : Int).toNat).take ((4 : Int).toNat - (0 : Int).toNat)) z1) /\ cnd (decide ((IntKind.u64.wrap (IntKind.i64.wrap ((a0.length : Int) - (4 : Int)))) < z1)) (([] : Str) = r0 /\ a0 = r1 /\ false = r2) ((0 <= (4 : Int) /\ (4 : Int) <= (IntKind.i64.wrap ((4 : Int) + (IntKind.i64.wrap z1))) /\ (IntKind.i64.wrap ((4 : Int) + (IntKind.i64.wrap z1))) <= (a0.length : Int)) /\ (0 <= (IntKind.i64.wrap ((4 : Int) + (IntKind.i64.wrap z1))) /\ (IntKind.i64.wrap ((4 : Int) + (IntKind.i64.wrap z1))) <= (a0.length : Int) /\ (a0.length : Int) <= (a0.length : Int)) /\ ((a0.drop (4 : Int).toNat).take ((IntKind.i64.wrap ((4 : Int) + (IntKind.i64.wrap z1))).toNat - (4 : Int).toNat)) = r0 /\ ((a0.drop (IntKind.i64.wrap ((4 : Int) + (IntKind.i64.wrap z1))).toNat).take ((a0.length : Int).toNat - (IntKind.i64.wrap ((4 : Int) + (IntKind.i64.wrap z1))).toNat)) = r1 /\ true = r2))
def yhJ : Sp KK := ⟨65, [.v 9], [9, 9, 4], appW (K := KK) [9, 9, 4] [.v 9] yeL⟩
def ykq : An KK := (.s .o (.s (.s .o (.c (.s .o .o) .o)) (.s .o (.s (.s .o (.c (.s .o .o) .o)) (.s .o (.s .o .o))))))
def ylm : Cf KK := ⟨CC, [yeS], [], 30, [], none, false⟩
theorem ylg : SpOk Try.prog CC yhJ := yaC (F := ylm) (ps := [.v 9]) (rs := [9, 9, 4]) (w := yeL) ybG (yaN ygE yaJ) yaL t65 (A := ykq) (by kernel_rfl) (by kernel_rfl) (fun a0 r0 r1 r2 => show _ = _ by kernel_rfl)
def ylf (r0 : List Str) (r1 : Int) (X1 : Str → (List Str) → Prop) (x1 : Str) (x2 : List Str) : Prop :=
 cnd (!(x1 == ([] : Str))) (∃ z3 z4 z5, (yeL x1 z3 z4 z5) /\ cnd (!z5) (([] : List Str) = r0 /\ (2 : Int) = r1) ((x2.length <= 1000000000) /\ X1 z4 (x2 ++ ([z3] : List Str)))) (x2 = r0 /\ (0 : Int) = r1)
def yc2 (a0 : Str) (r0 : List Str) (r1 : Int) : Prop :=
 ∀ X1 : Str -> (List Str) -> Prop, (∀ x1 x2, ylf r0 r1 X1 x1 x2 -> X1 x1 x2) -> X1 a0 ([] : List Str)
def yfi : Sp KK := ⟨42, [.v 9], [37, 39], appW (K := KK) [37, 39] [.v 9] yc2⟩
def ykU : An KK := (.s .o (.s .o (.s (.b (.l ⟨[(0, .st), (4, .row 21)], [], [(21, 9)]⟩ (fun _ => (.s (.s .o (.c .o .o)) (.b (.s .o (.s (.s .o (.c (.s .o .o) .o)) .o))))))) (.s .o .o))))
def yk7 : Cf KK := ⟨CC, [yhJ], [], 24, [], none, false⟩
theorem yhH : SpOk Try.prog CC yfi := yaC (F := yk7) (ps := [.v 9]) (rs := [37, 39]) (w := yc2) ybG (yaN ylg yaJ) yaL t42 (A := ykU) (by kernel_rfl) (by kernel_rfl) (fun a0 r0 r1 => show _ = _ by kernel_rfl)
def ydt (a0 : Str) (r0 : Int) (r1 : Bool) : Prop :=
 cnd (!((a0.length : Int) == (8 : Int))) ((0 : Int) = r0 /\ false = r1) (∃ z1, (ycy a0 z1) /\ (IntKind.i64.wrap (bits .xor .u64 z1 (9223372036854775808 : Int))) = r0 /\ true = r1)
def ygM : Sp KK := ⟨66, [.v 9], [2, 4], appW (K := KK) [2, 4] [.v 9] ydt⟩
def yjT : An KK := (.s .o (.s (.s .o (.c (.s .o .o) .o)) (.s .o .o)))
def yjW : Cf KK := ⟨CC, [yeS], [], 11, [], none, false⟩
theorem yjO : SpOk Try.prog CC ygM := yaC (F := yjW) (ps := [.v 9]) (rs := [2, 4]) (w := ydt) ybG (yaN ygE yaJ) yaL t66 (A := yjT) (by kernel_rfl) (by kernel_rfl) (fun a0 r0 r1 => show _ = _ by kernel_rfl)
def ybA (a0 : yaa) (r0 : Bool) : Prop :=
 cnd (a0.Kind == (0 : Int)) (((a0.Kind == (0 : Int)) && ((a0.N == (0 : Int)) && ((a0.S == ([] : Str)) && true))) = r0) (cnd (a0.Kind == (1 : Int)) (cnd (a0.N == (0 : Int)) ((a0.S == ([] : Str)) = r0) (cnd (a0.N == (1 : Int)) ((a0.S == ([] : Str)) = r0) (false = r0))) (cnd (a0.Kind == (2 : Int)) ((a0.S == ([] : Str)) = r0) (cnd (a0.Kind == (3 : Int)) (cnd (a0.N == (0 : Int)) ((decide ((a0.S.length : Int) <= (64 : Int))) = r0) (false = r0)) (false = r0))))
def yew : Sp KK := ⟨67, [.v 88], [4], appW (K := KK) [4] [.v 88] ybA⟩
def yhg : An KK := (.s .o (.s (.s .o (.b (.s .o (.c (.s .o .o) (.s .o (.c (.s .o .o) (.s .o (.c (.s .o .o) (.s .o (.c (.s .o .o) .o)))))))))) (.s .o .o)))
def yhh : Cf KK := ⟨CC, [], [], 41, [], none, false⟩
theorem yg6 : SpOk Try.prog CC yew := yaC (F := yhh) (ps := [.v 88]) (rs := [4]) (w := ybA) ybG yaJ yaL t67 (A := yhg) (by kernel_rfl) (by kernel_rfl) (fun a0 r0 => show _ = _ by kernel_rfl)
def yg2 (a0 : Str) (r0 : yaa) (r1 : Bool) (x1 : Int) (x2 : Str) : Prop :=
 ∃ z3, (ybA (⟨IntKind.i64.wrap (bAt a0 (0 : Int)), x1, x2⟩ : yaa) z3) /\ (⟨IntKind.i64.wrap (bAt a0 (0 : Int)), x1, x2⟩ : yaa) = r0 /\ z3 = r1
def yen (a0 : Str) (r0 : yaa) (r1 : Bool) : Prop :=
 cnd (a0 == ([] : Str)) ((⟨(0 : Int), (0 : Int), ([] : Str)⟩ : yaa) = r0 /\ false = r1) ((0 <= (1 : Int) /\ (1 : Int) <= (a0.length : Int) /\ (a0.length : Int) <= (a0.length : Int)) /\ (0 <= (0 : Int) /\ (0 : Int) < (a0.length : Int)) /\ ∀ J1 : Int -> Str -> Prop, (∀ x1 x2, yg2 a0 r0 r1 x1 x2 -> J1 x1 x2) -> cnd ((IntKind.i64.wrap (bAt a0 (0 : Int))) == (0 : Int)) ((⟨IntKind.i64.wrap (bAt a0 (0 : Int)), (0 : Int), ([] : Str)⟩ : yaa) = r0 /\ (((a0.drop (1 : Int).toNat).take ((a0.length : Int).toNat - (1 : Int).toNat)) == ([] : Str)) = r1) (cnd ((IntKind.i64.wrap (bAt a0 (0 : Int))) == (1 : Int)) (cnd (!((((a0.drop (1 : Int).toNat).take ((a0.length : Int).toNat - (1 : Int).toNat)).length : Int) == (1 : Int))) ((⟨IntKind.i64.wrap (bAt a0 (0 : Int)), (0 : Int), ([] : Str)⟩ : yaa) = r0 /\ false = r1) ((0 <= (0 : Int) /\ (0 : Int) < (((a0.drop (1 : Int).toNat).take ((a0.length : Int).toNat - (1 : Int).toNat)).length : Int)) /\ J1 (IntKind.i64.wrap (bAt ((a0.drop (1 : Int).toNat).take ((a0.length : Int).toNat - (1 : Int).toNat)) (0 : Int))) ([] : Str))) (cnd ((IntKind.i64.wrap (bAt a0 (0 : Int))) == (2 : Int)) (∃ z4 z5, (ydt ((a0.drop (1 : Int).toNat).take ((a0.length : Int).toNat - (1 : Int).toNat)) z4 z5) /\ cnd (!z5) ((⟨IntKind.i64.wrap (bAt a0 (0 : Int)), (0 : Int), ([] : Str)⟩ : yaa) = r0 /\ false = r1) (J1 z4 ([] : Str))) (J1 (0 : Int) ((a0.drop (1 : Int).toNat).take ((a0.length : Int).toNat - (1 : Int).toNat))))))
def ycn (a0 : Str) (r0 : yaa) (r1 : Bool) (x1 : Int) (x2 : Str) : Prop :=
 ∃ z3, (ybA (⟨IntKind.i64.wrap (bAt a0 (0 : Int)), x1, x2⟩ : yaa) z3) /\ (⟨IntKind.i64.wrap (bAt a0 (0 : Int)), x1, x2⟩ : yaa) = r0 /\ z3 = r1
def yjb (a0 : Str) (r0 : yaa) (r1 : Bool) : Prop :=
 cnd (a0 == ([] : Str)) ((⟨(0 : Int), (0 : Int), ([] : Str)⟩ : yaa) = r0 /\ false = r1) ((0 <= (1 : Int) /\ (1 : Int) <= (a0.length : Int) /\ (a0.length : Int) <= (a0.length : Int)) /\ (0 <= (0 : Int) /\ (0 : Int) < (a0.length : Int)) /\ cnd ((IntKind.i64.wrap (bAt a0 (0 : Int))) == (0 : Int)) ((⟨IntKind.i64.wrap (bAt a0 (0 : Int)), (0 : Int), ([] : Str)⟩ : yaa) = r0 /\ (((a0.drop (1 : Int).toNat).take ((a0.length : Int).toNat - (1 : Int).toNat)) == ([] : Str)) = r1) (cnd ((IntKind.i64.wrap (bAt a0 (0 : Int))) == (1 : Int)) (cnd (!((((a0.drop (1 : Int).toNat).take ((a0.length : Int).toNat - (1 : Int).toNat)).length : Int) == (1 : Int))) ((⟨IntKind.i64.wrap (bAt a0 (0 : Int)), (0 : Int), ([] : Str)⟩ : yaa) = r0 /\ false = r1) ((0 <= (0 : Int) /\ (0 : Int) < (((a0.drop (1 : Int).toNat).take ((a0.length : Int).toNat - (1 : Int).toNat)).length : Int)) /\ ycn a0 r0 r1 (IntKind.i64.wrap (bAt ((a0.drop (1 : Int).toNat).take ((a0.length : Int).toNat - (1 : Int).toNat)) (0 : Int))) ([] : Str))) (cnd ((IntKind.i64.wrap (bAt a0 (0 : Int))) == (2 : Int)) (∃ z4 z5, (ydt ((a0.drop (1 : Int).toNat).take ((a0.length : Int).toNat - (1 : Int).toNat)) z4 z5) /\ cnd (!z5) ((⟨IntKind.i64.wrap (bAt a0 (0 : Int)), (0 : Int), ([] : Str)⟩ : yaa) = r0 /\ false = r1) (ycn a0 r0 r1 z4 ([] : Str))) (ycn a0 r0 r1 (0 : Int) ((a0.drop (1 : Int).toNat).take ((a0.length : Int).toNat - (1 : Int).toNat))))))
theorem ylo (a0 : Str) (r0 : yaa) (r1 : Bool) {x1 : Int} {x2 : Str} (h : ycn a0 r0 r1 x1 x2) : yg2 a0 r0 r1 x1 x2 := by
 unfold yg2
 unfold ycn at h
 exact h
theorem yoR (a0 : Str) (r0 : yaa) (r1 : Bool) (h : yjb a0 r0 r1) : yen a0 r0 r1 := by
 unfold yen
 unfold yjb at h
 refine yaA h (fun h => ?_) (fun h => ?_)
 ·exact h
 ·obtain ⟨h0, h⟩ := h
  refine ⟨h0, ?_⟩
  obtain ⟨h0, h⟩ := h
  refine ⟨h0, ?_⟩
  intro J1 kJ1
  have hJ1 : ∀ x1 x2, ycn a0 r0 r1 x1 x2 -> J1 x1 x2 := fun x1 x2 q => kJ1 x1 x2 (ylo a0 r0 r1 q)
  refine yaA h (fun h => ?_) (fun h => ?_)
  ·exact h
  ·refine yaA h (fun h => ?_) (fun h => ?_)
   ·refine yaA h (fun h => ?_) (fun h => ?_)
    ·exact h
    ·obtain ⟨h0, h⟩ := h
     refine ⟨h0, ?_⟩
     exact hJ1 _ _ h
   ·refine yaA h (fun h => ?_) (fun h => ?_)
    ·obtain ⟨z4, h⟩ := h
     refine ⟨z4, ?_⟩
     obtain ⟨z5, h⟩ := h
     refine ⟨z5, ?_⟩
     obtain ⟨h0, h⟩ := h
     refine ⟨h0, ?_⟩
     refine yaA h (fun h => ?_) (fun h => ?_)
     ·exact h
     ·exact hJ1 _ _ h
    ·exact hJ1 _ _ h
def yju : Sp KK := ⟨44, [.v 9], [88, 4], appW (K := KK) [88, 4] [.v 9] yen⟩
def ymB : An KK := (.s .o (.s (.s .o (.c (.s .o .o) .o)) (.s .o (.s .o (.j ⟨[(2, .px 2 0), (5, .px 5 0)], [(2, 88, [.kp 1, .kp 2, .kp 3]), (5, 88, [.kp 4, .it .i64, .st])], []⟩ (.s .o (.b (.s .o (.c (.s .o .o) (.s .o (.c (.s (.s .o (.c (.s .o .o) .o)) .o) (.s .o (.c (.s .o (.s (.s .o (.c (.s .o .o) .o)) .o)) .o)))))))) (fun _ => (.s .o .o)))))))
def ymw : Cf KK := ⟨CC, [ygM, yew], [], 51, [], none, false⟩
theorem ymC : SpOk Try.prog CC yju := yaC (F := ymw) (ps := [.v 9]) (rs := [88, 4]) (w := yen) ybG (yaN yjO (yaN yg6 yaJ)) yaL t44 (A := ymB) (by kernel_rfl) (by kernel_rfl) (fun a0 r0 r1 => show _ = _ by kernel_rfl)
def yh5 (z1 : List Str) (r0 : List yaa) (r1 : Int) (X1 : Int → (List yaa) → Prop) (x3 : Int) (x4 : List yaa) : Prop :=
 cnd (decide (x3 < (z1.length : Int))) ((0 <= x3) /\ (x3 < (z1.length : Int)) /\ ∃ y5 : Str, (z1[x3.toNat]? = some y5) /\ ∃ z6 z7, (yen y5 z6 z7) /\ cnd (!z7) (([] : List yaa) = r0 /\ (4 : Int) = r1) ((x4.length <= 1000000000) /\ X1 (IntKind.i64.wrap (x3 + (1 : Int))) (x4 ++ ([z6] : List yaa)))) (x4 = r0 /\ (0 : Int) = r1)
def yes (a0 : Str) (r0 : List yaa) (r1 : Int) : Prop :=
 ∃ z1 z2, (yc2 a0 z1 z2) /\ cnd (!(z2 == (0 : Int))) (([] : List yaa) = r0 /\ z2 = r1) ((z1.length <= maxLen -> ∀ X1 : Int -> (List yaa) -> Prop, (∀ x3 x4, yh5 z1 r0 r1 X1 x3 x4 -> X1 x3 x4) -> X1 (0 : Int) ([] : List yaa)))
def yia : Sp KK := ⟨16, [.v 9], [29, 39], appW (K := KK) [29, 39] [.v 9] yes⟩
def yoI : An KK := (.s .o (.s .o (.s (.s .o (.c (.s .o .o) .o)) (.s .o (.s (.s .o (.b (.l ⟨[(6, .row 35), (19, .kp 6), (20, .kp 7), (21, .it .i64)], [], [(35, 88)]⟩ (fun _ => (.s .o (.s (.c .o .o) (.s (.b (.s .o (.s .o (.s (.s .o (.c (.s .o .o) .o)) .o)))) .o))))))) (.s .o .o))))))
def yoT : Cf KK := ⟨CC, [yfi, yju], [], 38, [], none, false⟩
theorem ykm : SpOk Try.prog CC yia := yaC (F := yoT) (ps := [.v 9]) (rs := [29, 39]) (w := yes) ybG (yaN yhH (yaN ymC yaJ)) yaL t16 (A := yoI) (by kernel_rfl) (by kernel_rfl) (fun a0 r0 r1 => show _ = _ by kernel_rfl)
def ycE (a0 : List (List yaa)) (g1 : (List yaa) → (List yaa) → Int → Prop) (r0 : Bool) (X1 : Int → Prop) (x1 : Int) : Prop :=
 cnd (decide ((0 : Int) < x1)) ((0 <= x1) /\ (x1 < (a0.length : Int)) /\ ∃ y2 : (List yaa), (a0[x1.toNat]? = some y2) /\ (0 <= (IntKind.i64.wrap (x1 - (1 : Int)))) /\ ((IntKind.i64.wrap (x1 - (1 : Int))) < (a0.length : Int)) /\ ∃ y3 : (List yaa), (a0[(IntKind.i64.wrap (x1 - (1 : Int))).toNat]? = some y3) /\ ∃ z4, (g1 y2 y3 z4) /\ cnd (decide (z4 < (0 : Int))) (false = r0) (X1 (IntKind.i64.wrap (x1 - (1 : Int))))) (true = r0)
def ya2 (a0 : List (List yaa)) (g1 : (List yaa) → (List yaa) → Int → Prop) (r0 : Bool) : Prop :=
 (a0.length <= maxLen -> ∀ X1 : Int -> Prop, (∀ x1, ycE a0 g1 r0 X1 x1 -> X1 x1) -> X1 (IntKind.i64.wrap ((a0.length : Int) - (1 : Int))))
def ycD : Sp KK := ⟨43, [.v 24, .f [29, 29] [3]], [4], appW (K := KK) [4] [.v 24, .f [29, 29] [3]] ya2⟩
def yeF : An KK := (.s .o (.s (.s .o (.b (.l ⟨[(0, .kp 4), (1, .kp 5), (5, .it .i64)], [], []⟩ (fun _ => (.s (.s .o (.c .o .o)) (.s (.b (.s .o (.c (.s .o .o) .o))) .o)))))) (.s .o .o)))
def yeD : Cf KK := ⟨CC, [], [], 25, [], none, false⟩
theorem yeC : SpOk Try.prog CC ycD := yaC (F := yeD) (ps := [.v 24, .f [29, 29] [3]]) (rs := [4]) (w := ya2) ybG yaJ yaL t43 (A := yeF) (by kernel_rfl) (by kernel_rfl) (fun a0 F1 r0 => show _ = _ by kernel_rfl)
def yig (z1 : List Str) (r0 : yaj) (r1 : Int) (X1 : Int → (List (List yaa)) → Prop) (x3 : Int) (x4 : List (List yaa)) : Prop :=
 cnd (decide (x3 < (z1.length : Int))) ((0 <= x3) /\ (x3 < (z1.length : Int)) /\ ∃ y5 : Str, (z1[x3.toNat]? = some y5) /\ ∃ z6 z7, (yes y5 z6 z7) /\ cnd (!(z7 == (0 : Int))) ((⟨([] : List (List yaa))⟩ : yaj) = r0 /\ z7 = r1) ((x4.length <= 1000000000) /\ X1 (IntKind.i64.wrap (x3 + (1 : Int))) (x4 ++ ([z6] : List (List yaa))))) (∃ z8, (ya2 x4 ya4 z8) /\ cnd (!z8) ((⟨([] : List (List yaa))⟩ : yaj) = r0 /\ (4 : Int) = r1) ((⟨x4⟩ : yaj) = r0 /\ (0 : Int) = r1))
def ycL (a0 : Str) (r0 : yaj) (r1 : Int) : Prop :=
 ∃ z1 z2, (yc2 a0 z1 z2) /\ cnd (!(z2 == (0 : Int))) ((⟨([] : List (List yaa))⟩ : yaj) = r0 /\ z2 = r1) ((z1.length <= maxLen -> ∀ X1 : Int -> (List (List yaa)) -> Prop, (∀ x3 x4, yig z1 r0 r1 X1 x3 x4 -> X1 x3 x4) -> X1 (0 : Int) ([] : List (List yaa))))
def ykn : Sp KK := ⟨15, [.v 9], [31, 39], appW (K := KK) [31, 39] [.v 9] ycL⟩
def yoQ : An KK := (.s .o (.s .o (.s (.s .o (.c (.s .o .o) .o)) (.s .o (.s (.s .o (.b (.l ⟨[(2, .px 2 0), (6, .row 38), (20, .kp 7), (21, .kp 8), (22, .it .i64)], [(2, 31, [.kp 10])], [(38, 29)]⟩ (fun _ => (.s .o (.s (.c .o .o) (.s (.b (.s .o (.s .o (.s (.s .o (.c (.s .o .o) .o)) .o)))) .o))))))) (.s (.s .o (.c (.s .o .o) .o)) (.s .o .o)))))))
def yoF : Cf KK := ⟨CC, [yfi, yia, yb9, ycD], [], 46, [], none, false⟩
theorem yoD : SpOk Try.prog CC ykn := yaC (F := yoF) (ps := [.v 9]) (rs := [31, 39]) (w := ycL) ybG (yaN yhH (yaN ykm (yaN ycN (yaN yeC yaJ)))) yaL t15 (A := yoQ) (by kernel_rfl) (by kernel_rfl) (fun a0 r0 r1 => show _ = _ by kernel_rfl)
def yix (a1 a0 : Int) (r0 : List Int) (X1 : Int → (List Int) → Prop) (x1 : Int) (x2 : List Int) : Prop :=
 cnd (decide (x1 < ((List.replicate a1.toNat (0 : Int)).length : Int))) ((¬ (IntKind.i64.wrap ((8 : Int) * x1)) < 0) /\ (0 <= (IntKind.i64.wrap ((IntKind.i64.wrap (a1 - (1 : Int))) - x1))) /\ ((IntKind.i64.wrap ((IntKind.i64.wrap (a1 - (1 : Int))) - x1)) < (x2.length : Int)) /\ ∃ y3 : Int, (x2[(IntKind.i64.wrap ((IntKind.i64.wrap (a1 - (1 : Int))) - x1)).toNat]? = some y3) /\ X1 (IntKind.i64.wrap (x1 + (1 : Int))) (x2.set ((IntKind.i64.wrap ((IntKind.i64.wrap (a1 - (1 : Int))) - x1)).toNat) (IntKind.u8.wrap (a0.fdiv (2 ^ (min (IntKind.i64.wrap ((8 : Int) * x1)).toNat IntKind.u64.bits)))))) (x2 = r0)
def ydD (a0 a1 : Int) (r0 : List Int) : Prop :=
 (0 <= a1) /\ (1 * a1.toNat <= 281474976710656) /\ (a1 <= 1000000000) /\ ∀ X1 : Int -> (List Int) -> Prop, (∀ x1 x2, yix a1 a0 r0 X1 x1 x2 -> X1 x1 x2) -> X1 (0 : Int) (List.replicate a1.toNat (0 : Int))
def ygc : Sp KK := ⟨72, [.v 111, .v 3], [75], appW (K := KK) [75] [.v 111, .v 3] ydD⟩
def ylO : An KK := (.s .o (.s .o (.s (.s .o (.b (.l ⟨[(0, .kp 5), (1, .kp 6), (5, .row 8), (10, .kp 7), (11, .it .i64)], [], [(8, 5)]⟩ (fun _ => (.s .o (.s (.c .o .o) (.s (.b (.s .o .o)) .o))))))) (.s .o .o))))
def ylS : Cf KK := ⟨CC, [], [], 27, [], none, false⟩
theorem yiv : SpOk Try.prog CC ygc := yaC (F := ylS) (ps := [.v 111, .v 3]) (rs := [75]) (w := ydD) ybG yaJ yaL t72 (A := ylO) (by kernel_rfl) (by kernel_rfl) (fun a0 a1 r0 => show _ = _ by kernel_rfl)
def ygi (a0 : Int) (r0 : Str) : Prop :=
 ∃ z1, (ydD (bits .xor .u64 (IntKind.u64.wrap a0) (9223372036854775808 : Int)) (8 : Int) z1) /\ (z1.map toB) = r0
def yjw : Sp KK := ⟨78, [.v 2], [9], appW (K := KK) [9] [.v 2] ygi⟩
def ynn : An KK := (.s .o (.s .o .o))
def ym6 : Cf KK := ⟨CC, [ygc], [], 8, [], none, false⟩
theorem ym1 : SpOk Try.prog CC yjw := yaC (F := ym6) (ps := [.v 2]) (rs := [9]) (w := ygi) ybG (yaN yiv yaJ) yaL t78 (A := ynn) (by kernel_rfl) (by kernel_rfl) (fun a0 r0 => show _ = _ by kernel_rfl)
def ye8 (a0 : yaa) (r0 : Str) : Prop :=
 cnd (a0.Kind == (1 : Int)) (((([IntKind.u8.wrap a0.Kind] : List Int).map toB).length + (([IntKind.u8.wrap a0.N] : List Int).map toB).length <= 9223372036854775807) /\ ((([IntKind.u8.wrap a0.Kind] : List Int).map toB) ++ (([IntKind.u8.wrap a0.N] : List Int).map toB)) = r0) (cnd (a0.Kind == (2 : Int)) (∃ z1, (ygi a0.N z1) /\ ((([IntKind.u8.wrap a0.Kind] : List Int).map toB).length + z1.length <= 9223372036854775807) /\ ((([IntKind.u8.wrap a0.Kind] : List Int).map toB) ++ z1) = r0) (cnd (a0.Kind == (3 : Int)) (((([IntKind.u8.wrap a0.Kind] : List Int).map toB).length + a0.S.length <= 9223372036854775807) /\ ((([IntKind.u8.wrap a0.Kind] : List Int).map toB) ++ a0.S) = r0) ((([IntKind.u8.wrap a0.Kind] : List Int).map toB) = r0)))
def yji : Sp KK := ⟨58, [.v 88], [9], appW (K := KK) [9] [.v 88] ye8⟩
def ym3 : An KK := (.s .o (.s .o (.s (.s .o (.b (.s .o (.c .o (.s .o (.c .o (.s .o (.c .o .o)))))))) (.s .o .o))))
def yng : Cf KK := ⟨CC, [yjw], [], 34, [], none, false⟩
theorem ymQ : SpOk Try.prog CC yji := yaC (F := yng) (ps := [.v 88]) (rs := [9]) (w := ye8) ybG (yaN ym1 yaJ) yaL t58 (A := ym3) (by kernel_rfl) (by kernel_rfl) (fun a0 r0 => show _ = _ by kernel_rfl)
def yir (a0 : List Str) (r0 : Str) (X1 : Int → (List Int) → Prop) (x1 : Int) (x2 : List Int) : Prop :=
 cnd (decide (x1 < (a0.length : Int))) ((0 <= x1) /\ (x1 < (a0.length : Int)) /\ ∃ y3 : Str, (a0[x1.toNat]? = some y3) /\ ∃ z4, (ydD (IntKind.u64.wrap (y3.length : Int)) (4 : Int) z4) /\ (x2.length <= 1000000000) /\ (z4.length <= 400000000) /\ ((x2 ++ z4).length <= 1000000000) /\ (y3.length <= 400000000) /\ X1 (IntKind.i64.wrap (x1 + (1 : Int))) ((x2 ++ z4) ++ (y3.map ofB))) ((x2.map toB) = r0)
def ydA (a0 : List Str) (r0 : Str) : Prop :=
 (a0.length <= maxLen -> ∀ X1 : Int -> (List Int) -> Prop, (∀ x1 x2, yir a0 r0 X1 x1 x2 -> X1 x1 x2) -> X1 (0 : Int) ([] : List Int))
def yfX : Sp KK := ⟨47, [.v 37], [9], appW (K := KK) [9] [.v 37] ydA⟩
def ylR : An KK := (.s .o (.s .o (.s (.s .o (.b (.l ⟨[(3, .row 20), (6, .kp 6), (7, .kp 7), (8, .it .i64)], [], [(20, 5)]⟩ (fun _ => (.s .o (.s (.c .o .o) (.s (.b (.s .o (.s .o .o))) .o))))))) (.s .o .o))))
def ylx : Cf KK := ⟨CC, [ygc], [], 24, [], none, false⟩
theorem yiy : SpOk Try.prog CC yfX := yaC (F := ylx) (ps := [.v 37]) (rs := [9]) (w := ydA) ybG (yaN yiv yaJ) yaL t47 (A := ylR) (by kernel_rfl) (by kernel_rfl) (fun a0 r0 => show _ = _ by kernel_rfl)
def yj6 (a0 : List yaa) (r0 : Str) (X1 : Int → (List Str) → Prop) (x1 : Int) (x2 : List Str) : Prop :=
 cnd (decide (x1 < (a0.length : Int))) ((0 <= x1) /\ (x1 < (a0.length : Int)) /\ ∃ y3 : yaa, (a0[x1.toNat]? = some y3) /\ ∃ z4, (ye8 y3 z4) /\ (x2.length <= 1000000000) /\ X1 (IntKind.i64.wrap (x1 + (1 : Int))) (x2 ++ ([z4] : List Str))) (∃ z5, (ydA x2 z5) /\ z5 = r0)
def yfH (a0 : List yaa) (r0 : Str) : Prop :=
 (a0.length <= maxLen -> ∀ X1 : Int -> (List Str) -> Prop, (∀ x1 x2, yj6 a0 r0 X1 x1 x2 -> X1 x1 x2) -> X1 (0 : Int) ([] : List Str))
def yj4 : Sp KK := ⟨32, [.v 29], [9], appW (K := KK) [9] [.v 29] yfH⟩
def yoH : An KK := (.s .o (.s .o (.s (.s .o (.b (.l ⟨[(3, .row 16), (6, .kp 6), (7, .kp 7), (8, .it .i64)], [], [(16, 9)]⟩ (fun _ => (.s .o (.s (.c .o .o) (.s (.b (.s .o .o)) .o))))))) (.s .o .o))))
def yoM : Cf KK := ⟨CC, [yji, yfX], [], 20, [], none, false⟩
theorem yoL : SpOk Try.prog CC yj4 := yaC (F := yoM) (ps := [.v 29]) (rs := [9]) (w := yfH) ybG (yaN ymQ (yaN yiy yaJ)) yaL t32 (A := yoH) (by kernel_rfl) (by kernel_rfl) (fun a0 r0 => show _ = _ by kernel_rfl)
def ygF (a0 : yaj) (r0 : Str) (X1 : Int → (List Str) → Prop) (x1 : Int) (x2 : List Str) : Prop :=
 cnd (decide (x1 < (a0.rows.length : Int))) ((0 <= x1) /\ (x1 < (a0.rows.length : Int)) /\ ∃ y3 : (List yaa), (a0.rows[x1.toNat]? = some y3) /\ ∃ z4, (yfH y3 z4) /\ (x2.length <= 1000000000) /\ X1 (IntKind.i64.wrap (x1 + (1 : Int))) (x2 ++ ([z4] : List Str))) (∃ z5, (ydA x2 z5) /\ z5 = r0)
def ycv (a0 : yaj) (r0 : Str) : Prop :=
 (a0.rows.length <= maxLen -> ∀ X1 : Int -> (List Str) -> Prop, (∀ x1 x2, ygF a0 r0 X1 x1 x2 -> X1 x1 x2) -> X1 (0 : Int) ([] : List Str))
def ygQ : Sp KK := ⟨18, [.v 31], [9], appW (K := KK) [9] [.v 31] ycv⟩
def yjM : An KK := (.s .o (.s .o (.s (.s .o (.b (.l ⟨[(3, .row 17), (7, .kp 6), (8, .kp 7), (9, .it .i64)], [], [(17, 9)]⟩ (fun _ => (.s .o (.s (.c .o .o) (.s (.b (.s .o .o)) .o))))))) (.s .o .o))))
def yjP : Cf KK := ⟨CC, [yj4, yfX], [], 21, [], none, false⟩
theorem yjS : SpOk Try.prog CC ygQ := yaC (F := yjP) (ps := [.v 31]) (rs := [9]) (w := ycv) ybG (yaN yoL (yaN yiy yaJ)) yaL t18 (A := yjM) (by kernel_rfl) (by kernel_rfl) (fun a0 r0 => show _ = _ by kernel_rfl)
def ydB (r0 x20 : Bool) : Prop :=
 x20 = r0
def ydz (z5 : Int) (z4 : yaj) (r0 : Bool) (z3 : Str) (X3 : (List (List yaa)) → Int → Prop) (x12 : List (List yaa)) (x13 : Int) : Prop :=
 (x12.length <= maxLen -> cnd (decide (x13 < (x12.length : Int))) ((0 <= (IntKind.i64.wrap (x13 - (1 : Int)))) /\ ((IntKind.i64.wrap (x13 - (1 : Int))) < (x12.length : Int)) /\ ∃ y14 : (List yaa), (x12[(IntKind.i64.wrap (x13 - (1 : Int))).toNat]? = some y14) /\ (0 <= x13) /\ (x13 < (x12.length : Int)) /\ ∃ y15 : (List yaa), (x12[x13.toNat]? = some y15) /\ ∃ z16, (ya4 y14 y15 z16) /\ cnd (decide ((0 : Int) < z16)) (cnd (z5 == (4 : Int)) (∃ z17, (yba z4 z17) /\ (z17 == (0 : Int)) = r0) (false = r0)) (X3 x12 (IntKind.i64.wrap (x13 + (1 : Int))))) ((z3.length + ([0] : Str).length <= 9223372036854775807) /\ ∃ z18 z19, (ycL (z3 ++ ([0] : Str)) z18 z19) /\ ∀ J4 : Bool -> Prop, (∀ x20, ydB r0 x20 -> J4 x20) -> cnd (z5 == (0 : Int)) (∃ z21, (ycv z4 z21) /\ cnd (z21 == z3) (∃ z22, (ygn x12 z22) /\ ∃ z23, (ye2 z4 z22 z23) /\ cnd z23 (cnd (z19 == (2 : Int)) (∃ z24, (yba z18 z24) /\ J4 (z24 == (0 : Int))) (J4 false)) (J4 false)) (J4 false)) (J4 false)))
def ydI (x2 : List Str) (z5 : Int) (z4 : yaj) (r0 : Bool) (z3 : Str) (X2 : Int → (List (List yaa)) → Prop) (x6 : Int) (x7 : List (List yaa)) : Prop :=
 (x2.length <= maxLen -> cnd (decide (x6 < (x2.length : Int))) ((0 <= x6) /\ (x6 < (x2.length : Int)) /\ ∃ y8 : Str, (x2[x6.toNat]? = some y8) /\ ∃ z9 z10, (yes y8 z9 z10) /\ cnd (!(z10 == (0 : Int))) (cnd (z5 == z10) (∃ z11, (yba z4 z11) /\ (z11 == (0 : Int)) = r0) (false = r0)) ((x7.length <= 1000000000) /\ X2 (IntKind.i64.wrap (x6 + (1 : Int))) (x7 ++ ([z9] : List (List yaa))))) (∀ X3 : (List (List yaa)) -> Int -> Prop, (∀ x12 x13, ydz z5 z4 r0 z3 X3 x12 x13 -> X3 x12 x13) -> X3 x7 (1 : Int)))
def ydM (r0 : Bool) (x2 : List Str) : Prop :=
 ∃ z3, (yc1 x2 z3) /\ ∃ z4 z5, (ycL z3 z4 z5) /\ ∀ X2 : Int -> (List (List yaa)) -> Prop, (∀ x6 x7, ydI x2 z5 z4 r0 z3 X2 x6 x7 -> X2 x6 x7) -> X2 (0 : Int) ([] : List (List yaa))
def ydF (x27 : Int) (X6 X5 : Int → (List Str) → Prop) (x25 : Int) (x29 : Bool) (x30 : List Str) : Prop :=
 cnd x29 ((0 <= (IntKind.i64.wrap (x27 - (1 : Int)))) /\ ((IntKind.i64.wrap (x27 - (1 : Int))) < (x30.length : Int)) /\ ∃ y31 : Str, (x30[(IntKind.i64.wrap (x27 - (1 : Int))).toNat]? = some y31) /\ (0 <= x27) /\ (x27 < (x30.length : Int)) /\ ∃ y32 : Str, (x30[x27.toNat]? = some y32) /\ (0 <= x27) /\ (x27 < (x30.length : Int)) /\ ∃ y33 : Str, (x30[x27.toNat]? = some y33) /\ (0 <= (IntKind.i64.wrap (x27 - (1 : Int)))) /\ ((IntKind.i64.wrap (x27 - (1 : Int))) < ((x30.set x27.toNat y31).length : Int)) /\ ∃ y34 : Str, ((x30.set x27.toNat y31)[(IntKind.i64.wrap (x27 - (1 : Int))).toNat]? = some y34) /\ X6 (IntKind.i64.wrap (x27 - (1 : Int))) ((x30.set x27.toNat y31).set ((IntKind.i64.wrap (x27 - (1 : Int))).toNat) y32)) (X5 (IntKind.i64.wrap (x25 + (1 : Int))) x30)
def ydL (X5 : Int → (List Str) → Prop) (x25 : Int) (X6 : Int → (List Str) → Prop) (x27 : Int) (x28 : List Str) : Prop :=
 ∀ J7 : Bool -> (List Str) -> Prop, (∀ x29 x30, ydF x27 X6 X5 x25 x29 x30 -> J7 x29 x30) -> cnd (decide ((0 : Int) < x27)) ((0 <= x27) /\ (x27 < (x28.length : Int)) /\ ∃ y35 : Str, (x28[x27.toNat]? = some y35) /\ (0 <= (IntKind.i64.wrap (x27 - (1 : Int)))) /\ ((IntKind.i64.wrap (x27 - (1 : Int))) < (x28.length : Int)) /\ ∃ y36 : Str, (x28[(IntKind.i64.wrap (x27 - (1 : Int))).toNat]? = some y36) /\ J7 (Op.bytesLess y35 y36) x28) (J7 false x28)
def ydH (J1 : (List Str) → Prop) (X5 : Int → (List Str) → Prop) (x25 : Int) (x26 : List Str) : Prop :=
 cnd (decide (x25 < (x26.length : Int))) (∀ X6 : Int -> (List Str) -> Prop, (∀ x27 x28, ydL X5 x25 X6 x27 x28 -> X6 x27 x28) -> X6 x25 x26) (J1 x26)
def ybf (a0 : List Str) (a1 r0 : Bool) : Prop :=
 ∃ z1, (ycO z1) /\ cnd (!z1) (false = r0) ((a0.length <= maxLen -> (0 <= (0 : Int) /\ (0 : Int) <= (if (8 : Int) < (a0.length : Int) then (8 : Int) else (a0.length : Int)) /\ (if (8 : Int) < (a0.length : Int) then (8 : Int) else (a0.length : Int)) <= (a0.length : Int)) /\ ((ygb a0 (0 : Int) (if (8 : Int) < (a0.length : Int) then (8 : Int) else (a0.length : Int))).length <= 400000000) /\ ∀ J1 : (List Str) -> Prop, (∀ x2, ydM r0 x2 -> J1 x2) -> cnd a1 (∀ X5 : Int -> (List Str) -> Prop, (∀ x25 x26, ydH J1 X5 x25 x26 -> X5 x25 x26) -> X5 (0 : Int) (([] : List Str) ++ (ygb a0 (0 : Int) (if (8 : Int) < (a0.length : Int) then (8 : Int) else (a0.length : Int))))) (J1 (([] : List Str) ++ (ygb a0 (0 : Int) (if (8 : Int) < (a0.length : Int) then (8 : Int) else (a0.length : Int)))))))
def yaW (r0 x20 : Bool) : Prop :=
 x20 = r0
def yce (r0 : Bool) (z3 : Str) (z4 : yaj) (z5 : Int) (X3 : (List (List yaa)) → Int → Prop) (x12 : List (List yaa)) (x13 : Int) : Prop :=
 (x12.length <= maxLen -> cnd (decide (x13 < (x12.length : Int))) ((0 <= (IntKind.i64.wrap (x13 - (1 : Int)))) /\ ((IntKind.i64.wrap (x13 - (1 : Int))) < (x12.length : Int)) /\ ∃ y14 : (List yaa), (x12[(IntKind.i64.wrap (x13 - (1 : Int))).toNat]? = some y14) /\ (0 <= x13) /\ (x13 < (x12.length : Int)) /\ ∃ y15 : (List yaa), (x12[x13.toNat]? = some y15) /\ ∃ z16, (ya4 y14 y15 z16) /\ cnd (decide ((0 : Int) < z16)) (cnd (z5 == (4 : Int)) (∃ z17, (yba z4 z17) /\ (z17 == (0 : Int)) = r0) (false = r0)) (X3 x12 (IntKind.i64.wrap (x13 + (1 : Int))))) ((z3.length + ([0] : Str).length <= 9223372036854775807) /\ ∃ z18 z19, (ycL (z3 ++ ([0] : Str)) z18 z19) /\ cnd (z5 == (0 : Int)) (∃ z21, (ycv z4 z21) /\ cnd (z21 == z3) (∃ z22, (ygn x12 z22) /\ ∃ z23, (ye2 z4 z22 z23) /\ cnd z23 (cnd (z19 == (2 : Int)) (∃ z24, (yba z18 z24) /\ yaW r0 (z24 == (0 : Int))) (yaW r0 false)) (yaW r0 false)) (yaW r0 false)) (yaW r0 false)))
def ycd (r0 : Bool) (x2 : List Str) (z3 : Str) (z4 : yaj) (z5 : Int) (X2 : Int → (List (List yaa)) → Prop) (x6 : Int) (x7 : List (List yaa)) : Prop :=
 (x2.length <= maxLen -> cnd (decide (x6 < (x2.length : Int))) ((0 <= x6) /\ (x6 < (x2.length : Int)) /\ ∃ y8 : Str, (x2[x6.toNat]? = some y8) /\ ∃ z9 z10, (yes y8 z9 z10) /\ cnd (!(z10 == (0 : Int))) (cnd (z5 == z10) (∃ z11, (yba z4 z11) /\ (z11 == (0 : Int)) = r0) (false = r0)) ((x7.length <= 1000000000) /\ X2 (IntKind.i64.wrap (x6 + (1 : Int))) (x7 ++ ([z9] : List (List yaa))))) (∀ X3 : (List (List yaa)) -> Int -> Prop, (∀ x12 x13, yce r0 z3 z4 z5 X3 x12 x13 -> X3 x12 x13) -> X3 x7 (1 : Int)))
def ya0 (r0 : Bool) (x2 : List Str) : Prop :=
 ∃ z3, (yc1 x2 z3) /\ ∃ z4 z5, (ycL z3 z4 z5) /\ ∀ X2 : Int -> (List (List yaa)) -> Prop, (∀ x6 x7, ycd r0 x2 z3 z4 z5 X2 x6 x7 -> X2 x6 x7) -> X2 (0 : Int) ([] : List (List yaa))
def ybz (X5 X6 : Int → (List Str) → Prop) (x25 x27 : Int) (x29 : Bool) (x30 : List Str) : Prop :=
 cnd x29 ((0 <= (IntKind.i64.wrap (x27 - (1 : Int)))) /\ ((IntKind.i64.wrap (x27 - (1 : Int))) < (x30.length : Int)) /\ ∃ y31 : Str, (x30[(IntKind.i64.wrap (x27 - (1 : Int))).toNat]? = some y31) /\ (0 <= x27) /\ (x27 < (x30.length : Int)) /\ ∃ y32 : Str, (x30[x27.toNat]? = some y32) /\ (0 <= x27) /\ (x27 < (x30.length : Int)) /\ ∃ y33 : Str, (x30[x27.toNat]? = some y33) /\ (0 <= (IntKind.i64.wrap (x27 - (1 : Int)))) /\ ((IntKind.i64.wrap (x27 - (1 : Int))) < ((x30.set x27.toNat y31).length : Int)) /\ ∃ y34 : Str, ((x30.set x27.toNat y31)[(IntKind.i64.wrap (x27 - (1 : Int))).toNat]? = some y34) /\ X6 (IntKind.i64.wrap (x27 - (1 : Int))) ((x30.set x27.toNat y31).set ((IntKind.i64.wrap (x27 - (1 : Int))).toNat) y32)) (X5 (IntKind.i64.wrap (x25 + (1 : Int))) x30)
def ycf (X5 : Int → (List Str) → Prop) (x25 : Int) (X6 : Int → (List Str) → Prop) (x27 : Int) (x28 : List Str) : Prop :=
 cnd (decide ((0 : Int) < x27)) ((0 <= x27) /\ (x27 < (x28.length : Int)) /\ ∃ y35 : Str, (x28[x27.toNat]? = some y35) /\ (0 <= (IntKind.i64.wrap (x27 - (1 : Int)))) /\ ((IntKind.i64.wrap (x27 - (1 : Int))) < (x28.length : Int)) /\ ∃ y36 : Str, (x28[(IntKind.i64.wrap (x27 - (1 : Int))).toNat]? = some y36) /\ ybz X5 X6 x25 x27 (Op.bytesLess y35 y36) x28) (ybz X5 X6 x25 x27 false x28)
def ycc (r0 : Bool) (X5 : Int → (List Str) → Prop) (x25 : Int) (x26 : List Str) : Prop :=
 cnd (decide (x25 < (x26.length : Int))) (∀ X6 : Int -> (List Str) -> Prop, (∀ x27 x28, ycf X5 x25 X6 x27 x28 -> X6 x27 x28) -> X6 x25 x26) (ya0 r0 x26)
def ye3 (a0 : List Str) (a1 r0 : Bool) : Prop :=
 ∃ z1, (ycO z1) /\ cnd (!z1) (false = r0) ((a0.length <= maxLen -> (0 <= (0 : Int) /\ (0 : Int) <= (if (8 : Int) < (a0.length : Int) then (8 : Int) else (a0.length : Int)) /\ (if (8 : Int) < (a0.length : Int) then (8 : Int) else (a0.length : Int)) <= (a0.length : Int)) /\ ((ygb a0 (0 : Int) (if (8 : Int) < (a0.length : Int) then (8 : Int) else (a0.length : Int))).length <= 400000000) /\ cnd a1 (∀ X5 : Int -> (List Str) -> Prop, (∀ x25 x26, ycc r0 X5 x25 x26 -> X5 x25 x26) -> X5 (0 : Int) (([] : List Str) ++ (ygb a0 (0 : Int) (if (8 : Int) < (a0.length : Int) then (8 : Int) else (a0.length : Int))))) (ya0 r0 (([] : List Str) ++ (ygb a0 (0 : Int) (if (8 : Int) < (a0.length : Int) then (8 : Int) else (a0.length : Int)))))))
theorem yha (r0 : Bool) {x20 : Bool} (h : yaW r0 x20) : ydB r0 x20 := by
 unfold ydB
 unfold yaW at h
 exact h
theorem ygY (r0 : Bool) (z3 : Str) (z4 : yaj) (z5 : Int) {X3 : (List (List yaa)) → Int → Prop} {x12 : List (List yaa)} {x13 : Int} (h : yce r0 z3 z4 z5 X3 x12 x13) : ydz z5 z4 r0 z3 X3 x12 x13 := by
 unfold ydz
 unfold yce at h
 intro c
 replace h := h c
 refine yaA h (fun h => ?_) (fun h => ?_)
 ·exact h
 ·obtain ⟨h0, h⟩ := h
  refine ⟨h0, ?_⟩
  obtain ⟨z18, h⟩ := h
  refine ⟨z18, ?_⟩
  obtain ⟨z19, h⟩ := h
  refine ⟨z19, ?_⟩
  obtain ⟨h0, h⟩ := h
  refine ⟨h0, ?_⟩
  intro J4 kJ4
  have hJ4 : ∀ x20, yaW r0 x20 -> J4 x20 := fun x20 q => kJ4 x20 (yha r0 q)
  refine yaA h (fun h => ?_) (fun h => ?_)
  ·obtain ⟨z21, h⟩ := h
   refine ⟨z21, ?_⟩
   obtain ⟨h0, h⟩ := h
   refine ⟨h0, ?_⟩
   refine yaA h (fun h => ?_) (fun h => ?_)
   ·obtain ⟨z22, h⟩ := h
    refine ⟨z22, ?_⟩
    obtain ⟨h0, h⟩ := h
    refine ⟨h0, ?_⟩
    obtain ⟨z23, h⟩ := h
    refine ⟨z23, ?_⟩
    obtain ⟨h0, h⟩ := h
    refine ⟨h0, ?_⟩
    refine yaA h (fun h => ?_) (fun h => ?_)
    ·refine yaA h (fun h => ?_) (fun h => ?_)
     ·obtain ⟨z24, h⟩ := h
      refine ⟨z24, ?_⟩
      obtain ⟨h0, h⟩ := h
      refine ⟨h0, ?_⟩
      exact hJ4 _ h
     ·exact hJ4 _ h
    ·exact hJ4 _ h
   ·exact hJ4 _ h
  ·exact hJ4 _ h
theorem yg0 (r0 : Bool) (x2 : List Str) (z3 : Str) (z4 : yaj) (z5 : Int) {X2 : Int → (List (List yaa)) → Prop} {x6 : Int} {x7 : List (List yaa)} (h : ycd r0 x2 z3 z4 z5 X2 x6 x7) : ydI x2 z5 z4 r0 z3 X2 x6 x7 := by
 unfold ydI
 unfold ycd at h
 intro c
 replace h := h c
 refine yaA h (fun h => ?_) (fun h => ?_)
 ·exact h
 ·intro X3 k
  exact h X3 (fun x12 x13 q => k x12 x13 (ygY r0 z3 z4 z5 q))
theorem yg4 (r0 : Bool) {x2 : List Str} (h : ya0 r0 x2) : ydM r0 x2 := by
 unfold ydM
 unfold ya0 at h
 obtain ⟨z3, h⟩ := h
 refine ⟨z3, ?_⟩
 obtain ⟨h0, h⟩ := h
 refine ⟨h0, ?_⟩
 obtain ⟨z4, h⟩ := h
 refine ⟨z4, ?_⟩
 obtain ⟨z5, h⟩ := h
 refine ⟨z5, ?_⟩
 obtain ⟨h0, h⟩ := h
 refine ⟨h0, ?_⟩
 intro X2 k
 exact h X2 (fun x6 x7 q => k x6 x7 (yg0 r0 x2 z3 z4 z5 q))
theorem yhl (X5 X6 : Int → (List Str) → Prop) (x25 x27 : Int) {x29 : Bool} {x30 : List Str} (h : ybz X5 X6 x25 x27 x29 x30) : ydF x27 X6 X5 x25 x29 x30 := by
 unfold ydF
 unfold ybz at h
 exact h
theorem yhk (X5 : Int → (List Str) → Prop) (x25 : Int) {X6 : Int → (List Str) → Prop} {x27 : Int} {x28 : List Str} (h : ycf X5 x25 X6 x27 x28) : ydL X5 x25 X6 x27 x28 := by
 unfold ydL
 unfold ycf at h
 intro J7 kJ7
 have hJ7 : ∀ x29 x30, ybz X5 X6 x25 x27 x29 x30 -> J7 x29 x30 := fun x29 x30 q => kJ7 x29 x30 (yhl X5 X6 x25 x27 q)
 refine yaA h (fun h => ?_) (fun h => ?_)
 ·obtain ⟨h0, h⟩ := h
  refine ⟨h0, ?_⟩
  obtain ⟨h0, h⟩ := h
  refine ⟨h0, ?_⟩
  obtain ⟨y35, h⟩ := h
  refine ⟨y35, ?_⟩
  obtain ⟨h0, h⟩ := h
  refine ⟨h0, ?_⟩
  obtain ⟨h0, h⟩ := h
  refine ⟨h0, ?_⟩
  obtain ⟨h0, h⟩ := h
  refine ⟨h0, ?_⟩
  obtain ⟨y36, h⟩ := h
  refine ⟨y36, ?_⟩
  obtain ⟨h0, h⟩ := h
  refine ⟨h0, ?_⟩
  exact hJ7 _ _ h
 ·exact hJ7 _ _ h
theorem yhm (J1 : (List Str) → Prop) (r0 : Bool) (hJ1 : ∀ (x2 : (List Str)), ya0 r0 x2 → J1 x2) {X5 : Int → (List Str) → Prop} {x25 : Int} {x26 : List Str} (h : ycc r0 X5 x25 x26) : ydH J1 X5 x25 x26 := by
 unfold ydH
 unfold ycc at h
 refine yaA h (fun h => ?_) (fun h => ?_)
 ·intro X6 k
  exact h X6 (fun x27 x28 q => k x27 x28 (yhk X5 x25 q))
 ·exact hJ1 _ h
theorem yiH (a0 : List Str) (a1 r0 : Bool) (h : ye3 a0 a1 r0) : ybf a0 a1 r0 := by
 unfold ybf
 unfold ye3 at h
 obtain ⟨z1, h⟩ := h
 refine ⟨z1, ?_⟩
 obtain ⟨h0, h⟩ := h
 refine ⟨h0, ?_⟩
 refine yaA h (fun h => ?_) (fun h => ?_)
 ·exact h
 ·intro c
  replace h := h c
  obtain ⟨h0, h⟩ := h
  refine ⟨h0, ?_⟩
  obtain ⟨h0, h⟩ := h
  refine ⟨h0, ?_⟩
  intro J1 kJ1
  have hJ1 : ∀ x2, ya0 r0 x2 -> J1 x2 := fun x2 q => kJ1 x2 (yg4 r0 q)
  refine yaA h (fun h => ?_) (fun h => ?_)
  ·intro X5 k
   exact h X5 (fun x25 x26 q => k x25 x26 (yhm J1 r0 hJ1 q))
  ·exact hJ1 _ h
def ycB : Sp KK := ⟨4, [.v 37, .v 4], [4], appW (K := KK) [4] [.v 37, .v 4] ybf⟩
def yh6 : An KK := (.s .o (.s (.s .o (.c (.s .o .o) .o)) (.s .o (.j ⟨[(0, .sl 9)], [], []⟩ (.s .o (.c (.s .o (.b (.l ⟨[(0, .row 25), (5, .it .i64)], [], [(25, 9)]⟩ (fun _ => (.s (.s .o (.c .o .o)) (.s (.b (.s .o (.b (.l ⟨[(0, .row 25), (5, .kp 108), (6, .it .i64)], [], [(25, 9)]⟩ (fun _ => (.s (.j ⟨[(0, .row 25), (5, .kp 108), (6, .kp 113), (47, .bl)], [], [(25, 9)]⟩ .o (fun _ => (.c .o .o))) (.s (.b .o) .o))))))) .o)))))) .o)) (fun _ => (.s .o (.s .o (.s .o (.s (.s .o (.b (.l ⟨[(0, .kp 73), (7, .kp 74), (8, .px 8 0), (9, .kp 75), (10, .row 100), (11, .it .i64)], [(8, 31, [.kp 78])], [(100, 29)]⟩ (fun _ => (.s (.s .o (.c .o .o)) (.s (.b (.s .o (.s (.s .o (.c (.s .o .o) .o)) .o))) .o)))))) (.s (.s .o (.b (.l ⟨[(7, .kp 74), (8, .px 8 0), (9, .kp 75), (10, .sl 29), (14, .it .i64)], [(8, 31, [.kp 78])], []⟩ (fun _ => (.s (.s .o (.c .o .o)) (.s (.b (.s .o (.c (.s .o .o) .o))) .o)))))) (.s .o (.j ⟨[(4, .bl)], [], []⟩ .o (fun _ => .o)))))))))))))
def yh2 : Cf KK := ⟨CC, [yf6, yhQ, ykn, yia, yeT, yb9, ygQ, yjk, yjx], [], 154, [], none, false⟩
theorem yhZ : SpOk Try.prog CC ycB := yaC (F := yh2) (ps := [.v 37, .v 4]) (rs := [4]) (w := ybf) ybG (yaN yjp (yaN ykr (yaN yoD (yaN ykm (yaN ygL (yaN ycN (yaN yjS (yaN yme (yaN ynk yaJ))))))))) yaL t4 (A := yh6) (by kernel_rfl) (by kernel_rfl) (fun a0 a1 r0 => show _ = _ by kernel_rfl)
end Go.Proofs.Ytkmehmgocelkiaa
end
noncomputable section
namespace Go.Proofs.Ytkmehmgocelkiaa
open Go.AV Go.RowKit
set_option maxRecDepth 100000
end Go.Proofs.Ytkmehmgocelkiaa
end
noncomputable section
namespace Go.Proofs.Ytkmehmgocelkiaa
open Go.AV Go.RowKit
abbrev V := yaa
def Rg (n : Int) : Prop := -9223372036854775808 <= n /\ n <= 9223372036854775807
def good (v : V) : Prop := (v.Kind = 0 /\ v.N = 0 /\ v.S = []) ∨ (v.Kind = 1 /\ (v.N = 0 ∨ v.N = 1) /\ v.S = []) ∨ (v.Kind = 2 /\ Rg v.N /\ v.S = []) ∨ (v.Kind = 3 /\ v.N = 0 /\ v.S.length <= 64)
def D0 : V := ⟨0, 0, []⟩
def eqV (a b : V) : Bool := (a.Kind == b.Kind) && ((a.N == b.N) && ((a.S == b.S) && true))
theorem yna {a b : V} : eqV a b = true ↔ a = b := by
 cases a; cases b; simp [eqV]
theorem ynG (n : Int) : ybS n ⟨2, n, []⟩ := by unfold ybS; rfl
def cI (a b : Int) : Int := if a < b then -1 else if b < a then 1 else 0
def cS (a b : Str) : Int := if Op.bytesLess a b then -1 else if !(Op.bytesLess a b || a == b) then 1 else 0
theorem yw9 (a b : Int) : ycz a b (cI a b) := by
 refine ⟨_, rfl, _, rfl, ?_⟩
 grind [cnd, cI]
theorem ywK (a b : Int) : yb6 a b (cI a b) := by
 refine ⟨_, rfl, _, rfl, ?_⟩
 grind [cnd, cI]
theorem yw2 (a b : Str) : yb0 a b (cS a b) := by
 refine ⟨_, rfl, _, rfl, ?_⟩
 grind [cnd, cS]
def sOr (a b c : Int) : Int := if a ≠ 0 then a else if b ≠ 0 then b else c
theorem pOr (a b c : Int) : yd6 [a, b, c] (sOr a b c) := by
 unfold yd6
 intro _ X hX
 apply hX
 refine ⟨fun _ => ⟨by omega, by simp, a, rfl, ?_⟩, fun h => by simp at h⟩
 refine ⟨fun h => by grind [sOr], fun h => ?_⟩
 rw [wrap64 (by omega) (by omega)]
 apply hX
 refine ⟨fun _ => ⟨by omega, by simp, b, rfl, ?_⟩, fun h => by simp at h⟩
 refine ⟨fun h => by grind [sOr], fun h => ?_⟩
 rw [wrap64 (by omega) (by omega)]
 apply hX
 refine ⟨fun _ => ⟨by omega, by simp, c, rfl, ?_⟩, fun h => by simp at h⟩
 refine ⟨fun h => by grind [sOr], fun h => ?_⟩
 rw [wrap64 (by omega) (by omega)]
 apply hX
 refine ⟨fun h => by simp at h, fun _ => by grind [sOr]⟩
def sCmp (a b : V) : Int := sOr (cI a.Kind b.Kind) (cI a.N b.N) (cS a.S b.S)
theorem ysi (a b : V) : ydl a b (sCmp a b) :=
 ⟨_, yw9 a.Kind b.Kind, _, ywK a.N b.N, _, yw2 a.S b.S, _, pOr _ _ _, rfl⟩
theorem yrv {s : Str} {i : Nat} (h : i < s.length) : bAt s (i : Int) = (s[i].toNat : Int) := by
 unfold bAt
 rw [Int.toNat_natCast, List.getElem?_eq_getElem h]; rfl
theorem cS_0 {a b : Str} : cS a b = 0 ↔ a = b := by
 unfold cS
 have := yhP b
 rcases yko a b with h | rfl | h
 ·rw [if_pos h]; refine ⟨fun q => (by cases q), ?_⟩; rintro rfl; rw [h] at this; cases this
 ·simp [this]
 ·have hn : ¬ Op.bytesLess a b = true := fun q => by have := yky _ _ _ q h; rw [yhP] at this; cases this
  have he : ¬ a = b := fun e => by subst e; rw [h] at this; cases this
  simp [hn, he]
theorem yvt {a b : Str} : cS a b < 0 ↔ Op.bytesLess a b = true := by
 unfold cS; split
 ·rename_i h; simp [h]
 ·rename_i h; split <;> simp [h]
theorem yon {a b : Int} : (cI a b = 0 ↔ a = b) ∧ (cI a b < 0 ↔ a < b) ∧ (0 < cI a b ↔ b < a) := by
 unfold cI
 split
 ·refine ⟨by omega, by omega, by omega⟩
 ·split <;> refine ⟨by omega, by omega, by omega⟩
theorem ylz {a b : V} : sCmp a b = 0 ↔ a = b := by
 unfold sCmp sOr
 have h1 := (yon (a := a.Kind) (b := b.Kind)).1
 have h2 := (yon (a := a.N) (b := b.N)).1
 have h3 := cS_0 (a := a.S) (b := b.S)
 cases a; cases b
 simp only [yaa.mk.injEq]
 simp only at h1 h2 h3
 split
 ·rename_i c; exact ⟨fun q => absurd q c, fun q => absurd (h1.2 q.1) c⟩
 ·rename_i c
  have c := Decidable.not_not.1 c
  split
  ·rename_i d; exact ⟨fun q => absurd q d, fun q => absurd (h2.2 q.2.1) d⟩
  ·rename_i d
   have d := Decidable.not_not.1 d
   rw [h3]; exact ⟨fun q => ⟨h1.1 c, h2.1 d, q⟩, fun q => q.2.2⟩
theorem ywV {a : V} (h : good a) : Rg a.N := by
 unfold good at h; unfold Rg at *
 rcases h with h | h | h | h <;> omega
theorem yvp {a : V} (h : good a) : a.S.length ≤ 64 := by
 unfold good at h
 rcases h with h | h | h | h
 ·rw [h.2.2]; simp
 ·rw [h.2.2]; simp
 ·rw [h.2.2]; simp
 ·exact h.2.2
def ynd (v : V) : Bool := if v.Kind = 0 then eqV v D0 else if v.Kind = 1 then (v.N == 0 || v.N == 1) && v.S == [] else if v.Kind = 2 then v.S == [] else if v.Kind = 3 then v.N == 0 && decide ((v.S.length : Int) <= 64) else false
theorem yq3 (v : V) : ybA v (ynd v) := by
 unfold ybA
 have e : ((v.Kind == 0) && ((v.N == 0) && ((v.S == ([] : Str)) && true))) = eqV v D0 := rfl
 rw [e]
 unfold ynd
 generalize eqV v D0 = z
 refine ⟨fun c => ?_, fun c => ⟨fun c1 => ?_, fun c1 => ⟨fun c2 => ?_, fun c2 => ⟨fun c3 => ?_, fun c3 => ?_⟩⟩⟩⟩ <;> simp only [beq_iff_eq, beq_eq_false_iff_ne, ne_eq] at * <;> grind [cnd]
end Go.Proofs.Ytkmehmgocelkiaa
end
noncomputable section
namespace Go.Proofs.Ytkmehmgocelkiaa
open Go.AV Go.RowKit
theorem ypi (s : Str) : (s.map ofB).map toB = s := by
 induction s with
 | nil => rfl
 | cons c s ih =>
   simp only [List.map_cons, ih]
   congr 1
   show UInt8.ofNat ((c.toNat : Int).toNat) = c
   rw [Int.toNat_natCast]; exact UInt8.ofNat_toNat
def num : Str → Nat
 | [] => 0
 | c :: s => c.toNat * 256 ^ s.length + num s
theorem yjc (s : Str) : num s < 256 ^ s.length := by
 induction s with
 | nil => simp [num]
 | cons c s ih =>
   have hc : c.toNat < 256 := c.toNat_lt
   have e : (256 : Nat) ^ (c :: s).length = 256 * 256 ^ s.length := by simp [Nat.pow_succ, Nat.mul_comm]
   rw [e]
   have : c.toNat * 256 ^ s.length <= 255 * 256 ^ s.length := Nat.mul_le_mul_right _ (by omega)
   simp only [num]; omega
theorem ysn (s : Str) (c : UInt8) : num (s ++ [c]) = num s * 256 + c.toNat := by
 induction s with
 | nil => simp [num]
 | cons d s ih =>
   have : d.toNat * 256 ^ (s.length + 1) = d.toNat * 256 ^ s.length * 256 := by rw [Nat.pow_succ, Nat.mul_assoc]
   simp only [List.cons_append, num, ih, List.length_append, List.length_cons, List.length_nil]
   simp only [Nat.zero_add, this]; omega
theorem yuv : ∀ {s t : Str}, s.length = t.length → num s = num t → s = t := by
 intro s
 induction s with
 | nil => intro t h _; exact (List.eq_nil_of_length_eq_zero h.symm).symm
 | cons c s ih =>
   intro t h e
   cases t with
   | nil => simp at h
   | cons d t =>
     have hl : s.length = t.length := by simpa using h
     have h1 := yjc s
     have h2 := yjc t
     simp only [num] at e
     rw [<- hl] at e h2
     have hB : 0 < 256 ^ s.length := Nat.pow_pos (by omega)
     have hcd : c.toNat = d.toNat := by
      have e1 : (c.toNat * 256 ^ s.length + num s) / 256 ^ s.length = c.toNat := by
       rw [Nat.add_comm, Nat.add_mul_div_right _ _ hB, Nat.div_eq_of_lt h1]; omega
      have e2 : (d.toNat * 256 ^ s.length + num t) / 256 ^ s.length = d.toNat := by
       rw [Nat.add_comm, Nat.add_mul_div_right _ _ hB, Nat.div_eq_of_lt h2]; omega
      rw [<- e1, <- e2, e]
     have hcd' : c = d := UInt8.toNat_inj.1 hcd
     subst hcd'
     rw [ih hl (by omega)]
def be : Nat → Nat → Str
 | 0, _ => []
 | i + 1, u => UInt8.ofNat (u / 256 ^ i) :: be i u
theorem yeZ (k u : Nat) : (be k u).length = k := by
 induction k with
 | zero => rfl
 | succ k ih => simp [be, ih]
theorem ys1 (k u : Nat) : num (be k u) = u % 256 ^ k := by
 induction k with
 | zero => simp [be, num, Nat.mod_one]
 | succ k ih =>
   simp only [be, num, yeZ, ih]
   rw [Nat.mod_pow_succ, UInt8.toNat_ofNat', Nat.mul_comm]
   show 256 ^ k * (u / 256 ^ k % 2 ^ 8) + _ = _
   rw [Nat.add_comm]
theorem ytb (s : Str) : be s.length (num s) = s := by
 refine yuv (yeZ _ _) ?_
 rw [ys1, Nat.mod_eq_of_lt (yjc s)]
def tl (a : Nat) : Nat → List Int
 | 0 => []
 | i + 1 => ofB (UInt8.ofNat (a / 256 ^ i)) :: tl a i
theorem yuh (a k : Nat) : tl a k = (be k a).map ofB := by
 induction k with
 | zero => rfl
 | succ k ih => simp [tl, be, ih]
theorem ysJ (a k : Nat) : (tl a k).length = k := by rw [yuh]; simp [yeZ]
theorem pow8 (i : Nat) : (2 : Nat) ^ (8 * i) = 256 ^ i := by
 rw [Nat.pow_mul]
theorem ytC (n : Nat) : ofB (UInt8.ofNat n) = ((n % 256 : Nat) : Int) := by
 show (((UInt8.ofNat n).toNat : Nat) : Int) = _
 rw [UInt8.toNat_ofNat']
theorem yvy {a k : Nat} (hk : k ≤ 8) : ydD (a : Int) (k : Int) (tl a k) := by
 unfold ydD
 refine ⟨by omega, by omega, by omega, ?_⟩
 refine lp2 (fun (x : Int) (y : List Int) => ∃ i : Nat, x = i /\ i <= k /\ y = List.replicate (k - i) (0 : Int) ++ tl a i) (fun (x : Int) (_ : List Int) => k - x.toNat) ?_ ⟨0, rfl, by omega, by simp [tl]⟩
 rintro X x y ⟨i, rfl, hi, rfl⟩ hX
 simp only [yix]
 have ek : (k : Int).toNat = k := Int.toNat_natCast k
 refine ⟨fun c => ?_, fun c => ?_⟩
 ·have c : (i : Int) < ((List.replicate (k : Int).toNat (0 : Int)).length : Int) := by simpa using c
  rw [ek, List.length_replicate] at c
  have w1 : IntKind.i64.wrap (8 * (i : Int)) = 8 * (i : Int) := wrap64 (by omega) (by omega)
  have w2 : IntKind.i64.wrap ((k : Int) - 1) = (k : Int) - 1 := wrap64 (by omega) (by omega)
  have w3 : IntKind.i64.wrap ((k : Int) - 1 - (i : Int)) = ((k - 1 - i : Nat) : Int) := by rw [wrap64 (by omega) (by omega)]; omega
  have w4 : IntKind.i64.wrap ((i : Int) + 1) = ((i + 1 : Nat) : Int) := by rw [wrap64 (by omega) (by omega)]; omega
  rw [w1, w2, w3, w4, Int.toNat_natCast]
  have hm : k - i = (k - 1 - i) + 1 := by omega
  have er : List.replicate (k - i) (0 : Int) ++ tl a i = List.replicate (k - 1 - i) 0 ++ (0 :: tl a i) := by
   rw [hm, List.replicate_succ', List.append_assoc]; rfl
  have hmin : min (8 * (i : Int)).toNat IntKind.u64.bits = 8 * i := by
   show min _ 64 = _
   omega
  have hsh : IntKind.u8.wrap ((a : Int).fdiv (2 ^ (min (8 * (i : Int)).toNat IntKind.u64.bits))) = ofB (UInt8.ofNat (a / 256 ^ i)) := by
   rw [hmin, ytC, yqb]
   have : (2 : Int) ^ (8 * i) = ((256 ^ i : Nat) : Int) := by rw [<- pow8]; norm_cast
   rw [this, Int.fdiv_eq_ediv_of_nonneg _ (Int.natCast_nonneg _), <- Int.natCast_ediv]
   generalize a / 256 ^ i = q
   omega
  rw [hsh, er]
  refine ⟨by omega, by omega, by simp; omega, 0, ?_, ?_⟩
  ·rw [List.getElem?_append_right (by simp)]; simp
  ·refine hX _ _ ⟨i + 1, rfl, by omega, ?_⟩ (by omega)
   have e2 : k - (i + 1) = k - 1 - i := by omega
   rw [List.set_append_right _ _ (by simp), e2]; simp [tl]
 ·have c : ¬ (i : Int) < ((List.replicate (k : Int).toNat (0 : Int)).length : Int) := by simpa using c
  rw [ek, List.length_replicate] at c
  have : k - i = 0 := by omega
  have e : i = k := by omega
  rw [this, e]; rfl
end Go.Proofs.Ytkmehmgocelkiaa
end
