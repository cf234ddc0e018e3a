/-
  Code, abstractly ('wpA'), and that it is sound; a function's contract out of its code.
-/
import Derived.Test.YteoohihaibgplaaAvD
namespace Go.AV
open Go.RowKit Go.RG Go.Lib

inductive AEx where
  | n
  | x (id : Nat)
  | r

/-- operations in the order of the text -/
def runA (hs : Nat → Bool) (CA : Cal → List AV → St → (AV → St → Prop) → Prop) : List AO → (St → Prop) → St → Prop
  | [], Q, S => Q S
  | o :: r, Q, S => match o.guard with
    | none => aop hs CA o.op o.dst S fun v S' => runA hs CA r Q (S'.put o.dst v)
    | some (d, b) => match S.fr d with
      | .bl c => if c = b then aop hs CA o.op o.dst S fun v S' => runA hs CA r Q (S'.put o.dst v) else runA hs CA r Q (S.put o.dst (.tup []))
      | .tup [] => runA hs CA r Q (S.put o.dst (.tup []))
      | _ => False

/-- what a frame's slots hold that a round may know -/
def cln (u : AV) : AV := if u.noL then u else .un
/-- the record of a range over a function, as an object -/
def recB (N : Nat) (fr : Nat → AV) (ps : Array Tmp) (asg body : Code) : Blk := ⟨0, 0, .rcd ps asg body .ready :: (List.range N).map fun t => cln (fr t)⟩
def St.lay (N : Nat) (S : St) (ps : Array Tmp) (asg body : Code) : St := ⟨S.fr, updK S.M (.h S.nx) (some (recB N S.fr ps asg body)), S.cnt, S.nx + 1⟩
/-- how a record stands -/
def lsOf : Option Blk → Option LS
  | some ⟨_, 0, .rcd _ _ _ j :: _⟩ => some j
  | _ => none
/-- behind a range over a function -/
def rngEnd (Q : AEx → St → Prop) (o : Nat) (S : St) : Prop := match lsOf (S.M (.h o)) with
  | some .ready => Q .n (S.kill (.h o))
  | some .ret => Q .r (S.kill (.h o))
  | some (.exit id) => Q (.x id) (S.kill (.h o))
  | _ => False
/-- the round's own record is there -/
def inR (oo : Option Nat) (S : St) : Prop := match oo with
  | none => True
  | some o => (lsOf (S.M (.h o))).isSome = true

def wpA (hs : Nat → Bool) (oo : Option Nat) (CA : Program) : ACode → (AEx → St → Prop) → St → Prop
  | .skip, Q, S => Q .n S
  | .ops l, Q, S => runA hs (CallsA CA) l (Q .n) S
  | .drw l, Q, S => runD hs CA l [] (Q .n) S
  | .seq a b, Q, S => wpA hs oo CA a (fun e S' => match e with
    | .n => wpA hs oo CA b Q S'
    | e => Q e S') S
  | .cond c t e, Q, S => match ev S.fr c with
    | .bl b => (b = true → wpA hs oo CA t Q S) ∧ (b = false → wpA hs oo CA e Q S)
    | _ => False
  | .block id c, Q, S => wpA hs oo CA c (fun e S' => match e with
    | .x i => if i = id then Q .n S' else Q (.x i) S'
    | e => Q e S') S
  | .loop c, Q, S => ∃ I : Nat → St → Prop, (∃ n, I n S) ∧ ∀ n S', I n S' → wpA hs oo CA c (fun e S'' => match e with
    | .n => ∃ m, m < n ∧ I m S''
    | e => Q e S'') S'
  | .exit id, Q, S => Q (.x id) S
  | .ret, Q, S => Q .r S
  | .rng N g ps asg body, Q, S => match ev S.fr g with
    | .fn (.func f) first cap => inR oo S ∧ CallsO CA (.e f) (first ++ [.yld S.nx] ++ cap) (S.lay N ps asg body) fun _ S' => rngEnd Q S.nx S'
    | _ => False

section
variable {P : Program} {B : Base} {N : Nat} {hs : Nat → Bool} {oo ro : Option Nat}

def exQ (Q : AEx → St → Prop) : Exit → St → Prop
  | .normal, S => Q .n S
  | .exit id, S => Q (.x id) S
  | .ret, S => Q .r S
  | _, _ => False

def PostC (B : Base) (N : Nat) (Q : AEx → St → Prop) : Exit → Act → World → Prop := fun e a w => ∃ S G, Rel B N S a G ∧ G.w = w ∧ exQ Q e S

theorem runA_ok {ops : Array Oper} (Q : AEx → St → Prop) : ∀ (suf pre : List Oper) (l : List AO) (S : St) (a : Act) (G : Gh), ops.toList = pre ++ suf → trOps P N ops suf = some l → runA hs (CallsA P) l (Q .n) S → Rel B N S a G →
    wpOpsIn (FR ro) 0 P ops (PostC B N Q) (List.range' pre.length suf.length) a G.w := by
  intro suf
  induction suf with
  | nil =>
    intro pre l S a G he ht hr h
    simp only [trOps, Option.some.injEq] at ht; subst ht
    exact ⟨S, G, h, rfl, hr⟩
  | cons o suf ih =>
    intro pre l S a G he ht hr h
    have hat : ops[pre.length]? = some o := by
      rw [← Array.getElem?_toList, he]; simp
    simp only [trOps] at ht
    split at ht <;> first | (cases ht; done) | skip
    rename_i u g us h1 h2 h3 h4
    cases ht
    rw [List.length_cons, List.range'_succ]
    simp only [wpOpsIn, hat]
    have hrest : ∀ (S' : St) (a' : Act) (G' : Gh), runA hs (CallsA P) us (Q .n) S' → Rel B N S' a' G' → wpOpsIn (FR ro) 0 P ops (PostC B N Q) (List.range' (pre.length + 1) suf.length) a' G'.w := by
      intro S' a' G' hr' h'
      have := ih (pre ++ [o]) us S' a' G' (by rw [he]; simp) h4 hr' h'
      simpa using this
    have hrun : ∀ S0 : St, aop hs (CallsA P) u o.dst S0 (fun v S' => runA hs (CallsA P) us (Q .n) (S'.put o.dst v)) → Rel B N S0 a G → o.wpIn (FR ro) 0 P a G.w (wpOpsIn (FR ro) 0 P ops (PostC B N Q) (List.range' (pre.length + 1) suf.length)) (PostC B N Q) := by
      intro S0 hA h0
      exact aop_okR h0 h1 hA fun av v S' G' hK hR hv => hrest _ _ G' hK (hR.put hv)
    have hskip : runA hs (CallsA P) us (Q .n) (S.put o.dst (.tup [])) → wpOpsIn (FR ro) 0 P ops (PostC B N Q) (List.range' (pre.length + 1) suf.length) (a.put o.dst undef) G.w := by
      intro hq
      exact hrest _ _ G hq (h.put (.tup [] #[] rfl (fun j u x hu => by simp at hu)))
    simp only [runA] at hr
    cases hg : o.guard with
    | none =>
      rw [hg] at h2
      simp only [trGuard, Option.some.injEq] at h2; subst h2
      rw [if_pos (by simp [Region.wanted, hg])]
      exact hrun S hr h
    | some jb =>
      obtain ⟨j, want⟩ := jb
      rw [hg] at h2
      simp only [trGuard] at h2
      split at h2 <;> first | (cases h2; done) | skip
      rename_i d hd
      split at h2 <;> first | (cases h2; done) | skip
      rename_i hdN
      cases h2
      simp only at hr
      have hdt : d < a.tmps.size := by rw [h.tsize]; exact hdN
      have hslot := h.slot d a.tmps[d] (Array.getElem?_eq_getElem hdt)
      split at hr
      · rename_i c e1
        rw [e1] at hslot
        have hb : a.tmps[d]? = some (.bool c) := by rw [Array.getElem?_eq_getElem hdt, hslot.bl_inv]
        have hw : Region.wanted o (yielded ops a.tmps) = (c == want) := by simp [Region.wanted, hg, yielded, hd, hb]
        split at hr
        · rename_i hc
          rw [if_pos (by rw [hw, hc]; simp)]
          exact hrun S hr h
        · rename_i hc
          rw [if_neg (by rw [hw]; simpa using hc)]
          exact ⟨fun _ _ => trivial, hskip hr⟩
      · rename_i e1
        rw [e1] at hslot
        obtain ⟨vs, q0, q1, _⟩ := hslot.tup_inv
        have hb : a.tmps[d]? = some (.tuple vs) := by rw [Array.getElem?_eq_getElem hdt, q0]
        have hw : Region.wanted o (yielded ops a.tmps) = false := by simp [Region.wanted, hg, yielded, hd, hb]
        rw [if_neg (by rw [hw]; simp)]
        exact ⟨fun _ _ => trivial, hskip hr⟩
      · exact hr.elim

theorem trOpd_bool {S : St} {a : Act} {G : Gh} (h : Rel B N S a G) {c : Operand} {u : AOpd} {b : Bool} (hc : trOpd N c = some u) (he : ev S.fr u = .bl b) : a.eval c = .bool b := by
  have := ev_ok h hc
  rw [he] at this
  exact this.bl_inv

theorem wp_loop_n {F : Fence} {nn : Nat} {c : Code} {Q : Exit → Act → World → Prop} {a : Act} {w : World} (I : Nat → Act → World → Prop) {n : Nat} (h₀ : I n a w)
    (round : ∀ n a w, I n a w → c.wpIn F nn P (Exit.then (fun a' w' => ∃ m, m < n ∧ I m a' w') Q) a w) : (Code.loop c).wpIn F nn P Q a w := by
  intro b k cs hro hb hr
  have key : ∀ n a w, I n a w → ∃ e a' w', Q e a' w' ∧ ArrivesIn (Machine.fenced P F) P (lone (b.atR a (.code c :: .inLoop c :: k)) cs w) b k cs e a' w' := by
    intro n
    induction n using Nat.strongRecOn with
    | _ n ih =>
      intro a w hI
      obtain ⟨e, a₁, w₁, hq, harr⟩ := round n a w hI b (.inLoop c :: k) cs hro hb hr
      cases e with
      | normal =>
        obtain ⟨m, hlt, hI₁⟩ := hq
        obtain ⟨e₂, a₂, w₂, hq₂, harr₂⟩ := ih m hlt a₁ w₁ hI₁
        exact ⟨e₂, a₂, w₂, hq₂, .of_steps (StepsIn.trans harr (.one (fenced_calm hb hr rfl) stepR_inLoop)) harr₂⟩
      | exit id => exact ⟨_, a₁, w₁, hq, .pass (x := .inLoop c) rfl (fun _ _ => .inl (by simp)) harr⟩
      | goto l => exact ⟨_, a₁, w₁, hq, .pass (x := .inLoop c) rfl (fun _ _ => .inl (by simp)) harr⟩
      | ret => exact ⟨_, a₁, w₁, hq, .pass (x := .inLoop c) rfl (fun _ _ => .inl (by simp)) harr⟩
      | panic ch => exact ⟨_, a₁, w₁, hq, .pass (x := .inLoop c) rfl (fun _ _ => .inl (by simp)) harr⟩
      | outgrown => exact ⟨_, a₁, w₁, hq, .pass (x := .inLoop c) rfl (fun _ _ => .inl (by simp)) harr⟩
  obtain ⟨e, a', w', hq, harr⟩ := key n a w h₀
  exact ⟨e, a', w', hq, .of_steps (.one (fenced_calm hb hr rfl) stepR_loop) harr⟩

/-! ### a range over a function -/
theorem MRel.grownI {S : St} {G : Gh} (h : MRel B S G) {w1 : World} (hg : G.w.grownBy w1 none) : ∃ G', G'.w = w1 ∧ MRel B S G' ∧ LE G G' ∧ G'.I = G.I := by
  let G' : Gh := ⟨G.κ, G.dead, G.I, w1⟩
  have hsame : ∀ q, q < G.w.heap.size → w1.heap[q]? = G.w.heap[q]? := fun q hq => hg.block q hq (by simp)
  have hle : LE G G' := ⟨fun _ _ hr => .inl hr, fun _ hd => hd, fun _ hb => hb, fun q hq => hsame q (h.lt q hq), fun q ds hq => ⟨hsame q (Array.getElem?_eq_some_iff.1 hq).1, fun h => h⟩⟩
  refine ⟨G', rfl, ⟨fun k => (h.blk k).le hle fun q hq => hsame q.1 (h.apart k q hq).2, h.inj, h.dead, h.live, fun k r hr => ⟨(h.apart k r hr).1, Nat.lt_of_lt_of_le (h.apart k r hr).2 hg.size⟩, fun b hb => Nat.lt_of_lt_of_le (h.lt b hb) hg.size, h.loc, h.keep, h.heap, h.nx, h.gone, h.I0, h.I1,
    hg.os.trans h.os, hg.tape.trans h.tape, hg.output.trans h.output, Nat.le_trans h.size hg.size, fun b hb hq => (hsame b (Nat.lt_of_lt_of_le hb h.size)).trans (h.same b hb hq), h.hno⟩, hle, rfl⟩

theorem cln_noL (u : AV) : (cln u).noL = true := by
  unfold cln
  split
  · rename_i h; exact h
  · rfl
theorem cln_ok {G : Gh} {u : AV} {x : Value} (h : VR G u x) : VR G (cln u) x := by
  unfold cln
  split
  · exact h
  · exact .un x
theorem noLs_cln (fr : Nat → AV) (l : List Nat) : noLs (l.map fun t => cln (fr t)) = true := by
  induction l with
  | nil => rfl
  | cons t l ih => simp only [List.map_cons, noLs, cln_noL, ih, Bool.and_self]

theorem Rel.lay {S : St} {a : Act} {G : Gh} (h : Rel B N S a G) {ps : Array Tmp} {asg body : Code} {fn : FuncId} {dd : Nat} : ∃ G', G'.w = G.w.alloc (.loop { state := .ready, pending := none, fn, tmps := a.tmps, params := ps, assign := asg, body, defers := dd }) ∧ G'.κ (.h S.nx) = some (G.w.heap.size, 0) ∧ Rel B N (S.lay N ps asg body) a G' ∧ LE G G' := by
  have hnew : ∀ o, (G.w.alloc o).heap[G.w.heap.size]? = some o := World.alloc_heap_new G.w
  have hold : ∀ o q, q < G.w.heap.size → (G.w.alloc o).heap[q]? = G.w.heap[q]? := fun o q hq => by
    show (G.w.heap.push o)[q]? = _
    rw [Array.getElem?_push, if_neg (by omega)]
  obtain ⟨G', e1, e2, e3, e4⟩ := h.toMRel.addG (fun _ => False) (fun _ f => f.elim) (S' := S.lay N ps asg body) (k0 := .h S.nx) (b := recB N S.fr ps asg body) (g := G.w.heap.size) (cap := 0)
    (w1 := G.w.alloc (.loop { state := .ready, pending := none, fn, tmps := a.tmps, params := ps, assign := asg, body, defers := dd }))
    (by simp only [recB, hOk, noLs, noLs_cln]; rfl) (fun hk => Nat.lt_irrefl _ hk) rfl (fun k => by
      cases k with
      | l d c => exact ⟨fun hk => .inl hk, fun hk => hk.elim id fun e => by cases e⟩
      | h o =>
        show o < S.nx + 1 ↔ o < S.nx ∨ Key.h o = Key.h S.nx
        rw [Key.h.injEq]; omega) (Nat.le_succ _) (fun hI => absurd (h.lt _ hI) (Nat.lt_irrefl _)) (fun k r hr e => absurd (h.apart k r hr).2 (by omega)) (.inl h.size) rfl rfl rfl (by rw [World.size_alloc]; omega) (fun q hq _ _ => hold _ q hq)
    (by rw [World.size_alloc]; omega) (fun q hq ds => by rcases hq with rfl | hq; simp; exact hq.elim) (fun G' hle hw => by
      refine (BlkOpt.loop rfl).2 ⟨_, .ready, _, rfl, by rw [hw]; exact hnew _, ⟨rfl, rfl⟩, ?_, ?_⟩
      · simp [h.tsize]
      · intro t u x hu hx
        have hx' : a.tmps[t]? = some x := hx
        rw [List.getElem?_map, List.getElem?_range (by rw [← h.tsize]; exact (Array.getElem?_eq_some_iff.1 hx').1)] at hu
        simp only [Option.map_some, Option.some.injEq] at hu
        subst hu
        exact cln_ok ((h.slot t x hx').le hle))
  exact ⟨G', e1, e2, h.lift e3 e4 rfl, e4⟩

theorem lsOf_out {o : Option Blk} {j : LS} (h : lsOf o = some j) : ∃ e ps asg body fr, o = some ⟨e, 0, .rcd ps asg body j :: fr⟩ := by
  unfold lsOf at h
  split at h
  · cases h; exact ⟨_, _, _, _, _, rfl⟩
  · cases h

/-- the record, by its object -/
theorem MRel.recAt {S : St} {G : Gh} (h : MRel B S G) {o : Nat} {j : LS} (hj : lsOf (S.M (.h o)) = some j) : ∃ l cap r, G.κ (.h o) = some (l, cap) ∧ G.w.heap[l]? = some (.loop r) ∧ lsOk j r.state r.pending := by
  obtain ⟨e, ps, asg, body, fr, hb⟩ := lsOf_out hj
  obtain ⟨r, hr, hk⟩ := h.κsome hb
  obtain ⟨q, j', fr', h1, h2, h3, _⟩ := (BlkOpt.loop rfl).1 hk
  have : j = j' := by
    have := h1
    simp only [List.cons.injEq, AV.rcd.injEq] at this
    exact this.1.2.2.2
  subst this
  exact ⟨r.1, r.2, q, hr, h2, h3⟩

theorem DfOk.put {G G' : Gh} {ds : List Deferred} (h : DfOk B G ds) {l : Nat} {q : Loop} (hl : G.w.heap[l]? = some (.loop q)) (hI : G'.I = G.I) (hs : ∀ r, r ≠ l → G'.w.heap[r]? = G.w.heap[r]?) : DfOk B G' ds := by
  obtain ⟨rs, h1, h2, h3⟩ := h
  refine ⟨rs, h1, h2, fun r hr => ?_⟩
  obtain ⟨a, b, c⟩ := h3 r hr
  refine ⟨(hs r (fun e => ?_)).trans a, by rw [hI]; exact b, c⟩
  rw [e, hl] at a; cases a

/-- the record is done with -/
theorem Rel.shut {S : St} {a : Act} {G : Gh} (h : Rel B N S a G) {o l cap : Nat} {q : Loop} {ob : Obj} (hk : G.κ (.h o) = some (l, cap)) (hl : G.w.heap[l]? = some (.loop q)) (hB : B.w.heap.size ≤ l) : ∃ G', G'.w = G.w.putObj l ob ∧ Rel B N (S.kill (.h o)) a G' := by
  obtain ⟨G1, a1, _, a3, a4, a5⟩ := h.toMRel.kill false (S' := S.kill (.h o)) hk rfl
  obtain ⟨a3, a3'⟩ := a3 rfl
  obtain ⟨G2, b1, b2, b3, b4⟩ := a4.take (r := l) (o := ob) (fun k r hr => a3' k r hr) (by rw [a3]; exact (h.toMRel.apart _ _ hk).1) hB
  refine ⟨G2, by rw [b1, a1], { b3 with defers := ?_, tsize := h.tsize, slot := fun t v hv => ((h.slot t v hv).le a5).le0 b4 }⟩
  refine (h.defers.le a5).put (l := l) (q := q) (by rw [a1]; exact hl) b2 (fun r hr => ?_)
  rw [b1]; exact World.putObj_heap_other hr

theorem wp_rng {S : St} {a : Act} {G : Gh} {Q : AEx → St → Prop} (h : Rel B N S a G) {g : Operand} {ug : AOpd} {ps : Array Tmp} {asg body : Code} (hg : trOpd N g = some ug) (hA : wpA hs oo P (.rng N ug ps asg body) Q S)
    (hoo : ∀ o, oo = some o → ∃ l cap, ro = some l ∧ B.κ (.h o) = some (l, cap)) (hno : oo = none → ro = none) : (Code.rangeFunc g ps asg body).wpIn (FR ro) 0 P (PostC B N Q) a G.w := by
  simp only [wpA] at hA
  split at hA
  case h_2 => exact hA.elim
  rename_i f first cap e
  obtain ⟨hin, hn, ⟨hent, hcc⟩⟩ := hA
  have hCf : CallsO P (.f f) (first ++ [.yld S.nx] ++ cap) (S.lay N ps asg body) (fun _ S' => rngEnd Q S.nx S') := ⟨hn, hcc⟩
  refine wpIn_rangeFunc fun fn _ => ?_
  -- the record is laid
  obtain ⟨mark, G0, dd, r1, r2, r3, r4⟩ : ∃ mark G0 dd, (Instr.enterLoop fn a.tmps ps asg body (FR ro).round).run P G.w = .ok (G0.w.heap.size, mark) (G0.w.alloc (.loop { state := .ready, pending := none, fn, tmps := a.tmps, params := ps, assign := asg, body, defers := dd })) ∧ Rel B N S { a with defers := mark ++ a.defers } G0 ∧ LE G G0 ∧ G.w.heap.size ≤ G0.w.heap.size := by
    cases hro : ro with
    | none =>
      have hrun := run_enterLoop_outer (P := P) (w := G.w) fn a.tmps ps asg body
      obtain ⟨G0, a1, a2, a3, a4⟩ := h.toMRel.grownI (w1 := G.w.alloc (.deferred (some []))) (World.grownBy_alloc G.w _ none)
      refine ⟨[{ target := .collected G.w.heap.size, args := #[] }], G0, G.w.heap.size, ?_, ?_, a3, by rw [a1, World.size_alloc]; omega⟩
      · rw [a1, World.size_alloc]; exact hrun
      · have hl := h.lift a2 a3 rfl
        refine { hl.toMRel with defers := ?_, tsize := hl.tsize, slot := hl.slot }
        obtain ⟨rs, d1, d2, d3⟩ := hl.defers
        refine ⟨G.w.heap.size :: rs, by rw [List.map_cons, ← d1]; rfl, ?_, ?_⟩
        · refine List.nodup_cons.2 ⟨fun hm => ?_, d2⟩
          obtain ⟨rs', c1, c2, c3⟩ := h.defers
          have : rs = rs' := by
            have := d1.symm.trans c1
            have hinj : ∀ (l l' : List Nat), l.map (fun r => ({ target := .collected r, args := #[] } : Deferred)) = l'.map (fun r => { target := .collected r, args := #[] }) → l = l' := by
              intro l
              induction l with
              | nil => intro l' hh; cases l' with
                | nil => rfl
                | cons _ _ => cases hh
              | cons x l ih => intro l' hh; cases l' with
                | nil => cases hh
                | cons y l' =>
                  simp only [List.map_cons, List.cons.injEq, Deferred.mk.injEq, Target.collected.injEq, and_true] at hh
                  rw [hh.1, ih l' hh.2]
            exact hinj _ _ this
          subst this
          have := (Array.getElem?_eq_some_iff.1 (c3 _ hm).1).1
          omega
        · intro r hr
          rcases List.mem_cons.1 hr with rfl | hr
          · refine ⟨by rw [a1]; exact World.alloc_heap_new G.w _, fun hI => ?_, h.size⟩
            have hIG : G.I G.w.heap.size := by rw [a4] at hI; exact hI
            exact absurd (h.lt _ hIG) (Nat.lt_irrefl _)
          · exact d3 r hr
    | some l0 =>
      cases hoo' : oo with
      | none => rw [hno hoo'] at hro; cases hro
      | some o0 =>
        rw [hoo'] at hin
        obtain ⟨j, hj⟩ := Option.isSome_iff_exists.1 hin
        obtain ⟨l, cap', q, k1, k2, k3⟩ := h.toMRel.recAt hj
        obtain ⟨l', cap2, e1, e2⟩ := hoo o0 hoo'
        have hl0 : l0 = l' := by rw [hro] at e1; exact Option.some.inj e1
        subst hl0
        have hll : l = l0 := by
          rcases h.toMRel.keep _ _ e2 with hq | hq
          · rw [hq] at k1; cases k1; rfl
          · have := ((h.toMRel.dead _).1 hq).1
            rw [this] at hj; cases hj
        subst hll
        refine ⟨[], G, q.defers, ?_, h, LE.refl G, Nat.le_refl _⟩
        show (Instr.enterLoop fn a.tmps ps asg body (some l)).run P G.w = _
        unfold Instr.enterLoop
        simp only [Sem.run_bind, run_getLoop k2, run_newObj_alloc, Result.andThen, Sem.run_pure]
  obtain ⟨G1, s1, s2, s3, s4⟩ := r2.lay (ps := ps) (asg := asg) (body := body) (fn := fn) (dd := dd)
  have rx := (ev_ok h hg)
  rw [e] at rx
  obtain ⟨vp, vc, q0, q1, q2, q3, q4⟩ := (rx.le (r3.trans s4)).fn_inv
  have hv : VRs G1 (first ++ [.yld S.nx] ++ cap) (vp ++ #[Value.func (.yield G0.w.heap.size) #[] #[]] ++ vc).toList := by
    have r1 : VRs G1 first vp.toList := ⟨by simpa using q1, fun j u x a b => q3 j u x a (by simpa using b)⟩
    have r2 : VRs G1 cap vc.toList := ⟨by simpa using q2, fun j u x a b => q4 j u x a (by simpa using b)⟩
    have r0 : VRs G1 [.yld S.nx] [Value.func (.yield G0.w.heap.size) #[] #[]] := VRs.cons (.yld _ _ _ s2) ⟨rfl, fun j u x hu => by simp at hu⟩
    simpa using (r1.append r0).append r2
  have hcall := calls_ok s3 hv (.inl hCf)
  unfold CallW at hcall
  rw [hent] at hcall
  simp only at hcall
  rw [s1] at hcall
  refine ⟨G0.w.heap.size, mark, _, { target := .fn (.func f) vc, args := vp ++ #[.func (.yield G0.w.heap.size) #[] #[]] }, _, f, _, _, r1, ?_, fun _ _ => trivial, hent _ _, fun h => (by cases h), callsIn_FR (Calls.mono hcall ?_)⟩
  · simp only [resolve, rangeCall]
    rw [q0]
    simp [Act.eval, Deferred.ofValue]
  · rintro e w' ⟨v, av, S2, G2, rfl, hK, hR2, rfl, hvr, hle⟩
    have hls : ∃ j, lsOf (S2.M (.h S.nx)) = some j := by
      unfold rngEnd at hK
      split at hK <;> first | exact ⟨_, ‹_›⟩ | exact hK.elim
    obtain ⟨j, hj⟩ := hls
    obtain ⟨l, cap', q, k1, k2, k3⟩ := hR2.toMRel.recAt hj
    have hll : l = G0.w.heap.size := by
      rcases hle.κ _ _ s2 with hq | hq
      · rw [hq] at k1; cases k1; rfl
      · have := ((hR2.toMRel.dead _).1 hq).1
        rw [this] at hj; cases hj
    subst hll
    unfold rngEnd at hK
    rw [hj] at hK
    have hB : B.w.heap.size ≤ G0.w.heap.size := Nat.le_trans h.size r4
    have fin : ∀ ob, ∃ G', G'.w = G2.w.putObj G0.w.heap.size ob ∧ Rel B N (S2.kill (.h S.nx)) { a with defers := mark ++ a.defers } G' := fun ob => hR2.shut k1 k2 hB
    cases j with
    | busy => exact hK.elim
    | ready =>
      obtain ⟨G', e1, e2⟩ := fin (.loop { q with state := .exhausted })
      refine ⟨none, _, by rw [run_endLoop k2 (by rw [k3.1]; simp)]; exact congrArg (fun p => Result.ok p _) k3.2, ?_⟩
      exact ⟨_, G', e2, e1, hK⟩
    | ret =>
      obtain ⟨G', e1, e2⟩ := fin (.loop { q with state := .exhausted })
      refine ⟨some .ret, _, by rw [run_endLoop k2 (by rw [k3.1]; simp)]; exact congrArg (fun p => Result.ok p _) k3.2, ?_⟩
      exact wpIn_ret ⟨_, G', e2, e1, hK⟩
    | exit id =>
      obtain ⟨G', e1, e2⟩ := fin (.loop { q with state := .exhausted })
      refine ⟨some (.exit id), _, by rw [run_endLoop k2 (by rw [k3.1]; simp)]; exact congrArg (fun p => Result.ok p _) k3.2, ?_⟩
      exact wpIn_exit ⟨_, G', e2, e1, hK⟩

theorem wpA_ok (hoo : ∀ o, oo = some o → ∃ l cap, ro = some l ∧ B.κ (.h o) = some (l, cap)) (hno : oo = none → ro = none) : ∀ (c : Code) (ac : ACode) (Q : AEx → St → Prop) (S : St) (a : Act) (G : Gh), trC P N c = some ac → wpA hs oo P ac Q S → Rel B N S a G → c.wpIn (FR ro) 0 P (PostC B N Q) a G.w := by
  intro c
  induction c with
  | skip =>
    intro ac Q S a G ht hA h
    simp only [trC, Option.some.injEq] at ht; subst ht
    exact wpIn_skip ⟨S, G, h, rfl, hA⟩
  | region id ops draw =>
    intro ac Q S a G ht hA h
    cases draw with
    | false =>
      simp only [trC] at ht
      obtain ⟨l, hl, rfl⟩ := Option.map_eq_some_iff.1 ht
      refine wpIn_region ?_
      have := runA_ok (hs := hs) (ro := ro) Q ops.toList [] l S a G rfl hl hA h
      rw [List.range_eq_range']
      simpa using this
    | true =>
      simp only [trC] at ht
      obtain ⟨l, hl, rfl⟩ := Option.map_eq_some_iff.1 ht
      exact runD_ok hl hA h fun S a G hQ hR => ⟨S, G, hR, rfl, hQ⟩
  | seq x y ihx ihy =>
    intro ac Q S a G ht hA h
    simp only [trC] at ht
    split at ht <;> first | (cases ht; done) | skip
    rename_i ax ay h1 h2
    cases ht
    refine wpIn_seq (wpIn_mono (ihx ax _ S a G h1 hA h) ?_)
    rintro e a' w' ⟨S', G', hR, rfl, hq⟩
    cases e with
    | normal => exact ihy ay Q S' a' G' h2 hq hR
    | exit id => exact ⟨S', G', hR, rfl, hq⟩
    | ret => exact ⟨S', G', hR, rfl, hq⟩
    | goto l => exact hq.elim
    | panic ch => exact hq.elim
    | outgrown => exact hq.elim
  | cond c x y ihx ihy =>
    intro ac Q S a G ht hA h
    simp only [trC] at ht
    split at ht <;> first | (cases ht; done) | skip
    rename_i uc ax ay h0 h1 h2
    cases ht
    simp only [wpA] at hA
    split at hA
    · rename_i b e
      refine wpIn_cond_split (trOpd_bool h h0 e) (fun hb => ihx ax Q S a G h1 (hA.1 hb) h) (fun hb => ihy ay Q S a G h2 (hA.2 hb) h)
    · exact hA.elim
  | block id c ih =>
    intro ac Q S a G ht hA h
    simp only [trC] at ht
    obtain ⟨ax, h1, rfl⟩ := Option.map_eq_some_iff.1 ht
    refine wpIn_block (wpIn_mono (ih ax _ S a G h1 hA h) ?_)
    rintro e a' w' ⟨S', G', hR, rfl, hq⟩
    cases e with
    | normal => exact ⟨S', G', hR, rfl, hq⟩
    | exit id' =>
      simp only [exQ] at hq
      show if id' = id then _ else _
      split
      · rename_i e; rw [if_pos e] at hq; exact ⟨S', G', hR, rfl, hq⟩
      · rename_i e; rw [if_neg e] at hq; exact ⟨S', G', hR, rfl, hq⟩
    | ret => exact ⟨S', G', hR, rfl, hq⟩
    | goto l => exact hq.elim
    | panic ch => exact hq.elim
    | outgrown => exact hq.elim
  | loop c ih =>
    intro ac Q S a G ht hA h
    simp only [trC] at ht
    obtain ⟨ax, h1, rfl⟩ := Option.map_eq_some_iff.1 ht
    obtain ⟨I, ⟨n0, hI0⟩, hround⟩ := hA
    refine wp_loop_n (fun n a w => ∃ S G, I n S ∧ Rel B N S a G ∧ G.w = w) (n := n0) ⟨S, G, hI0, h, rfl⟩ ?_
    rintro n a1 w1 ⟨S1, G1, g1, g2, rfl⟩
    refine wpIn_mono (ih ax _ S1 a1 G1 h1 (hround _ S1 g1) g2) ?_
    rintro e a' w' ⟨S', G', hR, rfl, hq⟩
    cases e with
    | normal =>
      obtain ⟨m, hm, hIm⟩ := hq
      exact ⟨m, hm, S', G', hIm, hR, rfl⟩
    | exit id' => exact ⟨S', G', hR, rfl, hq⟩
    | ret => exact ⟨S', G', hR, rfl, hq⟩
    | goto l => exact hq.elim
    | panic ch => exact hq.elim
    | outgrown => exact hq.elim
  | exit id =>
    intro ac Q S a G ht hA h
    simp only [trC, Option.some.injEq] at ht; subst ht
    exact wpIn_exit ⟨S, G, h, rfl, hA⟩
  | ret =>
    intro ac Q S a G ht hA h
    simp only [trC, Option.some.injEq] at ht; subst ht
    exact wpIn_ret ⟨S, G, h, rfl, hA⟩
  | rangeFunc f ps x y =>
    intro ac Q S a G ht hA h
    simp only [trC] at ht
    split at ht
    · obtain ⟨ug, hg, rfl⟩ := Option.map_eq_some_iff.1 ht
      exact wp_rng h hg hA hoo hno
    · cases ht
  | scope c ih => intro ac Q S a G ht; cases ht
  | label l => intro ac Q S a G ht; cases ht
  | goto l => intro ac Q S a G ht; cases ht
  | refuse s => intro ac Q S a G ht; cases ht

/-! ### a function -/
def res1 (S : St) : Nat × Option Nat → Option AV
  | (t, none) => some (S.fr t)
  | (t, some 0) => (tgt S (S.fr t)).bind fun p => p.1[p.2]?
  | (t, some (sz + 1)) => (tgt S (S.fr t)).bind fun p => if p.2 + (sz + 1) ≤ p.1.length then some (.agg ((p.1.drop p.2).take (sz + 1))) else none
def resL (S : St) : List (Nat × Option Nat) → Option (List AV)
  | [] => some []
  | p :: r => match res1 S p, resL S r with
    | some u, some us => some (u :: us)
    | _, _ => none
def resA (S : St) (l : List (Nat × Option Nat)) : Option AV := (resL S l).map fun us => match us with
  | [u] => u
  | us => .tup us

def argF (args : List AV) (t : Nat) : AV := (args[t]?).getD (.tup [])
def heapM (H : Hp) (k : Key) : Option Blk := match k with | .h o => H o | .l _ _ => none
def entry (args : List AV) (H : Hp) (n : Nat) : St := ⟨argF args, heapM H, fun _ => 0, n⟩

def retQ (l : List (Nat × Option Nat)) (Post : AV → Hp → Nat → Prop) : AEx → St → Prop
  | .x _, _ => False
  | _, S => wpv (resA S l) fun v => (pubR v S).1.noL = true ∧ Post (pubR v S).1 (pubR v S).2.hp (pubR v S).2.nx

theorem MRel.forget {S : St} {G : Gh} (h : MRel B S G) (hB : ∀ d c, B.κ (.l d c) = none) : ∃ G', G'.w = G.w ∧ MRel B (hSt S.hp S.nx) G' ∧ (∀ o r, G.κ (.h o) = some r → G'.κ (.h o) = some r) ∧ (∀ o, G.dead (.h o) → G'.dead (.h o)) ∧ (∀ b, G.I b → G'.I b) := by
  obtain ⟨Gc, b1, b2, b3, b4, b5, b6⟩ := call_in h
  have hk : ∀ k r, Gc.κ k = some r → ∃ o, k = .h o ∧ G.κ (.h o) = some r := by
    intro k r hr
    cases k with
    | l d c => rw [b4] at hr; cases hr
    | h o => rw [b3] at hr; exact ⟨o, rfl, hr⟩
  refine ⟨Gc, b1, ⟨b6.blk, b6.inj, b6.dead, b6.live, b6.apart, b6.lt, ?_, ?_, ?_, h.nx, ?_, fun b hb => by rw [b2]; exact h.I0 b hb, fun b hb => by rw [b2] at hb; exact h.I1 b hb, by rw [b1]; exact h.os, by rw [b1]; exact h.tape, by rw [b1]; exact h.output, by rw [b1]; exact h.size, fun b p q => by rw [b1]; exact h.same b p q, b6.hno⟩, fun o r hr => by rw [b3]; exact hr, b5, fun b hb => by rw [b2]; exact hb⟩
  · intro d c r hr; rw [b4] at hr; cases hr
  · intro k r hr
    cases k with
    | l d c => rw [hB] at hr; cases hr
    | h o =>
      rcases h.keep (.h o) r hr with hq | hq
      · left; rw [b3]; exact hq
      · exact .inr (b5 o hq)
  · intro o r hr
    rw [b3] at hr; exact h.heap o r hr
  · intro o ho hb
    rw [b3]; exact h.gone o ho hb

theorem trRes_ok {S : St} {a : Act} {G : Gh} (h : Rel B N S a G) : ∀ (rs : List ResultVar) (l : List (Nat × Option Nat)) (us : List AV), trRes P N rs = some l → resL S l = some us →
    ∃ vs : List Value, (rs.mapM (fun r => match r with | .tmp t => pure (a.tmps.getD t undef) | .cell p t => do loadVar t (← asAddr (a.tmps.getD p undef))) : Sem (List Value)).run P G.w = .ok vs G.w ∧ VRs G us vs := by
  intro rs
  induction rs with
  | nil =>
    intro l us ht hr
    simp only [trRes, Option.some.injEq] at ht; subst ht
    simp only [resL, Option.some.injEq] at hr; subst hr
    exact ⟨[], by simp, rfl, fun j u x hu => by simp at hu⟩
  | cons r rs ih =>
    intro l us ht hr
    cases r with
    | tmp t =>
      simp only [trRes] at ht
      split at ht <;> first | (cases ht; done) | skip
      rename_i htN
      obtain ⟨l', hl', rfl⟩ := Option.map_eq_some_iff.1 ht
      simp only [resL, res1] at hr
      split at hr <;> first | (cases hr; done) | skip
      rename_i u us' e1 e2
      cases e1; cases hr
      obtain ⟨vs, g1, g2⟩ := ih l' us' hl' e2
      have htt : t < a.tmps.size := by rw [h.tsize]; exact htN
      have hv := h.slot t a.tmps[t] (Array.getElem?_eq_getElem htt)
      have hgd : a.tmps.getD t undef = a.tmps[t] := by simp [Array.getD, htt]
      refine ⟨a.tmps[t] :: vs, ?_, VRs.cons hv g2⟩
      simp only [List.mapM_cons, Sem.run_bind, Sem.run_pure, Result.andThen_ok, g1, hgd]
    | cell t ty =>
      simp only [trRes] at ht
      split at ht <;> first | (cases ht; done) | skip
      · rename_i sz l' h1 h2
        split at ht <;> first | (cases ht; done) | skip
        rename_i htN
        cases ht
        simp only [resL, res1] at hr
        split at hr <;> first | (cases hr; done) | skip
        rename_i u us' e1 e2
        cases hr
        obtain ⟨⟨cs, off⟩, t1, t2⟩ := Option.bind_eq_some_iff.1 e1
        obtain ⟨vs, g1, g2⟩ := ih l' us' h2 e2
        have htt : t < a.tmps.size := by rw [h.tsize]; exact htN
        have hv := h.slot t a.tmps[t] (Array.getElem?_eq_getElem htt)
        have hgd : a.tmps.getD t undef = a.tmps[t] := by simp [Array.getD, htt]
        obtain ⟨b, base, e, hat⟩ := tgt_ok h.toMRel hv t1
        have ha0 : a.eval (.tmp t) = a.tmps[t] := hgd
        obtain ⟨v, hr0, hv0⟩ := m_ld (P := P) h (o := { dst := none, op := .load ty (.tmp t), type := ty, pos := "", after := #[], guard := none }) rfl (x := .tmp t) (ux := .t t) (by simp [trOpd, htN]) h1 t1 (by simpa using t2)
        have hrun : (loadVar ty ⟨b, base + off, none⟩).run P G.w = .ok v G.w := by
          simp only [execOp, Instr.loadAt, Instr.sureAddr, ha0, e] at hr0
          simp only [Sem.run_bind, Sem.run_pure, Result.andThen_ok] at hr0
          cases hq : (loadVar ty ⟨b, base + off, none⟩).run P G.w with
          | ok x w => rw [hq] at hr0; simp at hr0; rw [hr0.1, hr0.2]
          | halt x w => rw [hq] at hr0; simp [Result.andThen] at hr0
        refine ⟨v :: vs, ?_, VRs.cons hv0 g2⟩
        have has : (asAddr (a.tmps.getD t undef)).run P G.w = .ok ⟨b, base + off, none⟩ G.w := by rw [hgd, e]; rfl
        simp only [List.mapM_cons, Sem.run_bind, Sem.run_pure, Result.andThen_ok, g1, has, hrun]
      · rename_i l' h1 h2
        split at ht <;> first | (cases ht; done) | skip
        rename_i htN
        cases ht
        simp only [resL, res1] at hr
        split at hr <;> first | (cases hr; done) | skip
        rename_i u us' e1 e2
        cases hr
        obtain ⟨⟨cs, off⟩, t1, t2⟩ := Option.bind_eq_some_iff.1 e1
        obtain ⟨vs, g1, g2⟩ := ih l' us' h2 e2
        have htt : t < a.tmps.size := by rw [h.tsize]; exact htN
        have hv := h.slot t a.tmps[t] (Array.getElem?_eq_getElem htt)
        have hgd : a.tmps.getD t undef = a.tmps[t] := by simp [Array.getD, htt]
        obtain ⟨b, base, e, hat⟩ := tgt_ok h.toMRel hv t1
        have ha0 : a.eval (.tmp t) = a.tmps[t] := hgd
        obtain ⟨v, hr0, hv0⟩ := m_ld (P := P) h (o := { dst := none, op := .load ty (.tmp t), type := ty, pos := "", after := #[], guard := none }) rfl (x := .tmp t) (ux := .t t) (by simp [trOpd, htN]) h1 t1 (by simpa using t2)
        have hrun : (loadVar ty ⟨b, base + off, none⟩).run P G.w = .ok v G.w := by
          simp only [execOp, Instr.loadAt, Instr.sureAddr, ha0, e] at hr0
          simp only [Sem.run_bind, Sem.run_pure, Result.andThen_ok] at hr0
          cases hq : (loadVar ty ⟨b, base + off, none⟩).run P G.w with
          | ok x w => rw [hq] at hr0; simp at hr0; rw [hr0.1, hr0.2]
          | halt x w => rw [hq] at hr0; simp [Result.andThen] at hr0
        refine ⟨v :: vs, ?_, VRs.cons hv0 g2⟩
        have has : (asAddr (a.tmps.getD t undef)).run P G.w = .ok ⟨b, base + off, none⟩ G.w := by rw [hgd, e]; rfl
        simp only [List.mapM_cons, Sem.run_bind, Sem.run_pure, Result.andThen_ok, g1, has, hrun]

theorem resA_ok {S : St} {a : Act} {G : Gh} (h : Rel B N S a G) {fn : Func} {l : List (Nat × Option Nat)} {u : AV} (ht : trRes P N fn.results.toList = some l) (hr : resA S l = some u) : ∃ v, (results fn a.tmps).run P G.w = .ok v G.w ∧ VR G u v := by
  unfold resA at hr
  obtain ⟨us, h1, h2⟩ := Option.map_eq_some_iff.1 hr
  obtain ⟨vs, g1, g2⟩ := trRes_ok h fn.results.toList l us ht h1
  have hrun : ∀ f : ResultVar → Sem Value, (fn.results.toList.mapM f).run P G.w = .ok vs G.w → (fn.results.mapM f).run P G.w = .ok vs.toArray G.w := by
    intro f hf
    rw [Array.mapM_eq_mapM_toList]
    simp [hf]
  have hres : ∀ (f : ResultVar → Sem Value), (fn.results.mapM f).run P G.w = .ok vs.toArray G.w → (do let vs ← fn.results.mapM f; pure (if h : vs.size = 1 then vs[0] else .tuple vs) : Sem Value).run P G.w = .ok (if h : vs.toArray.size = 1 then vs.toArray[0] else .tuple vs.toArray) G.w := by
    intro f hf
    simp only [Sem.run_bind, hf, Result.andThen_ok, Sem.run_pure]
  refine ⟨if h : vs.toArray.size = 1 then vs.toArray[0] else .tuple vs.toArray, ?_, ?_⟩
  · unfold results
    exact hres _ (hrun _ g1)
  · split
    · rename_i h1'
      have hl : vs.length = 1 := by simpa using h1'
      obtain ⟨v0, rfl⟩ := List.length_eq_one_iff.1 hl
      obtain ⟨u0, rfl⟩ := List.length_eq_one_iff.1 (g2.1.symm.trans hl)
      subst h2
      exact g2.head
    · rename_i h1'
      have hu : u = .tup us := by
        match us, h2 with
        | [], h2 => exact h2.symm
        | [_], h2 => have := g2.1; simp at this; exact absurd (by simpa using this) h1'
        | _ :: _ :: _, h2 => exact h2.symm
      rw [hu]
      exact .tup us vs.toArray (by simpa using g2.1) (fun j u x p q => g2.2 j u x p (by simpa using q))

/-- the blocks of ranges over functions are shut, one by one -/
def shutW (w : World) (rs : List Nat) : World := rs.foldl (fun w r => w.putObj r (.deferred none)) w

theorem Rel.leave {S : St} {a : Act} {G : Gh} (h : Rel B N S a G) : ∃ rs G', a.defers = rs.map (fun r => { target := .collected r, args := #[] }) ∧ rs.Nodup ∧ (∀ r ∈ rs, G.w.heap[r]? = some (.deferred (some []))) ∧ G'.w = shutW G.w rs ∧ Rel B N S { a with defers := [] } G' := by
  obtain ⟨rs, h1, h2, h3⟩ := h.defers
  refine ⟨rs, ?_⟩
  have key : ∀ (rs : List Nat) (G : Gh), rs.Nodup → (∀ r ∈ rs, G.w.heap[r]? = some (.deferred (some [])) ∧ ¬ G.I r ∧ B.w.heap.size ≤ r) → Rel B N S { a with defers := [] } G → ∃ G', G'.w = shutW G.w rs ∧ Rel B N S { a with defers := [] } G' := by
    intro rs
    induction rs with
    | nil => intro G _ _ h; exact ⟨G, rfl, h⟩
    | cons r rs ih =>
      intro G hnd hr h
      obtain ⟨a1, a2, a3⟩ := hr r (by simp)
      obtain ⟨G1, b1, b2, b3, b4⟩ := h.toMRel.take (r := r) (o := .deferred none) (fun k q hk e => h.toMRel.notDfr hk _ (e ▸ a1)) a2 a3
      obtain ⟨hn1, hn2⟩ := List.nodup_cons.1 hnd
      obtain ⟨G2, c1, c2⟩ := ih G1 hn2 (fun q hq => by
        obtain ⟨d1, d2, d3⟩ := hr q (List.mem_cons_of_mem _ hq)
        refine ⟨?_, by rw [b2]; exact d2, d3⟩
        rw [b1, World.putObj_heap_other (fun e => hn1 (by rw [← e]; exact hq))]; exact d1) { b3 with defers := DfOk.nil _ _, tsize := h.tsize, slot := fun t v hv => (h.slot t v hv).le0 b4 }
      exact ⟨G2, by rw [c1, b1]; rfl, c2⟩
  obtain ⟨G', e1, e2⟩ := key rs G h2 h3 { h.toMRel with defers := DfOk.nil _ _, tsize := h.tsize, slot := h.slot }
  exact ⟨G', h1, h2, fun r hr => (h3 r hr).1, e1, e2⟩

theorem leaves_ok {F : Fence} {nn : Nat} {fn : Func} {tmps : Array Value} {R : Ending → World → Prop} : ∀ (rs : List Nat) (w : World), rs.Nodup → (∀ r ∈ rs, w.heap[r]? = some (.deferred (some []))) → (∃ v, (results fn tmps).run P (shutW w rs) = .ok v (shutW w rs) ∧ R (.returned v) (shutW w rs)) →
    LeavesInM F nn P fn tmps R (rs.map (fun r => { target := .collected r, args := #[] })) .returning w := by
  intro rs
  induction rs with
  | nil => intro w _ _ h; exact h
  | cons r rs ih =>
    intro w hnd hr h
    obtain ⟨hn1, hn2⟩ := List.nodup_cons.1 hnd
    refine ⟨by simp, .inl ⟨r, w.putObj r (.deferred none), rfl, run_takeDeferred (hr r (by simp)), ?_⟩⟩
    refine ih _ hn2 (fun q hq => ?_) h
    rw [World.putObj_heap_other (fun e => hn1 (by rw [← e]; exact hq))]; exact hr q (List.mem_cons_of_mem _ hq)

/-- a function's contract, out of its code -/
theorem contract_of {f : FuncId} {F : AFn} (hF : trF P f = some F) (hs : Nat → Bool) {args : List AV} {H : Hp} {n : Nat} {Post : AV → Hp → Nat → Prop} (hN : args.length ≤ F.N) (hw : wpA hs none P F.body (retQ F.res Post) (entry args H n)) : Contract P f args H n Post := by
  intro G vs hM hV
  unfold trF at hF
  split at hF <;> first | (cases hF; done) | skip
  rename_i fn hfn
  split at hF <;> first | (cases hF; done) | skip
  rename_i b hb
  split at hF <;> first | (cases hF; done) | skip
  rename_i r c hr hc
  cases hF
  split at hb
  · cases hb
  · rename_i hname
    have hcall : (callFunc f vs).run P G.w = .ok (.enter f vs) G.w := by
      simp only [callFunc, Sem.run_bind, run_program, Result.andThen_ok, hfn]
      rw [if_neg hname]
      simp [hb]
    unfold CallW
    rw [hcall]
    have hvl : vs.size = args.length := by simpa using hV.1
    have hBl : ∀ d c, (gBase G n).κ (.l d c) = none := fun d c => hM.κnone (k := .l d c) rfl
    have hrel : Rel (gBase G n) fn.ntmps (entry args H n) { tmps := vs ++ Array.replicate (fn.ntmps - vs.size) undef, defers := [] } G := by
      refine { (show MRel (gBase G n) (entry args H n) G from hM.fr (entry args H n).fr) with defers := DfOk.nil _ _, tsize := by simp [hvl]; simp only at hN; omega, slot := ?_ }
      intro t v hv
      show VR G (argF args t) v
      unfold argF
      by_cases ht : t < vs.size
      · rw [Array.getElem?_append_left ht] at hv
        have hta : t < args.length := by omega
        rw [List.getElem?_eq_getElem hta]
        exact hV.2 t _ v (List.getElem?_eq_getElem hta) (by simpa using hv)
      · rw [Array.getElem?_append_right (by omega)] at hv
        rw [List.getElem?_eq_none (by omega)]
        have hv' : v = undef := by
          rw [Array.getElem?_replicate] at hv
          split at hv
          · exact (Option.some.inj hv).symm
          · cases hv
        rw [hv']
        exact .tup [] #[] rfl (fun j u x hu => by simp at hu)
    refine (callsIn_wide (n := 0)).1 (callsIn_of_wp_marks hfn hb trivial ?_)
    refine wpIn_mono (wpA_ok (oo := none) (ro := none) (fun o ho => by cases ho) (fun _ => rfl) b c (retQ r Post) _ _ G hc hw hrel) ?_
    rintro e a' w' ⟨S', G', hR, rfl, hq⟩
    have fin : retQ r Post .r S' → LeavesInM Fence.wide 0 P fn a'.tmps (fun e w' => ∃ v av H' n' G', e = .returned v ∧ Post av H' n' ∧ MRel (gBase G n) (hSt H' n') G' ∧ G'.w = w' ∧ VR G' av v ∧ av.noL = true) a'.defers .returning G'.w := by
      intro hq
      obtain ⟨u, hu, hno, hP⟩ := wpv_out hq
      obtain ⟨rs, G0, d1, d2, d3, d4, d5⟩ := hR.leave
      rw [d1]
      refine leaves_ok rs _ d2 d3 ?_
      obtain ⟨v, hrun, hv⟩ := resA_ok d5 hr hu
      obtain ⟨G1, p1, p2, p3, p4, p5⟩ := pubR_ok d5.toMRel hv
      obtain ⟨G2, q1, q2, q3, q4, q5⟩ := p1.forget hBl
      rw [d4] at hrun
      exact ⟨v, hrun, v, _, _, _, G2, rfl, hP, q2, q1.trans (p3.trans d4), VR.noL (G := G1) (G' := G2) q3 q4 q5 q1 p4 hno, hno⟩
    cases e with
    | normal => exact fin hq
    | ret => exact fin hq
    | exit id => exact hq.elim
    | goto l => exact hq.elim
    | panic ch => exact hq.elim
    | outgrown => exact hq.elim
/-! ### a round -/
def setJ (j : LS) : List AV → List AV
  | .rcd ps a b _ :: r => .rcd ps a b j :: r
  | l => l
def St.setLs (S : St) (o : Nat) (j : LS) : St := { S with M := updK S.M (.h o) ((S.M (.h o)).map fun b => ⟨b.e, b.sz, setJ j b.cells⟩) }
/-- a round's frame: what the record kept, and the arguments -/
def rfr (fr : List AV) (ps : List Nat) (args : List AV) : Nat → AV := (ps.zip args).foldl (fun f p => upd f p.1 p.2) (fun t => (fr[t]?).getD (.tup []))
def rndQ (o : Nat) (Post : AV → Hp → Nat → Prop) : AEx → St → Prop
  | .n, S => lsOf (S.M (.h o)) = some .busy ∧ Post (.bl true) (S.setLs o .ready).hp S.nx
  | .r, S => lsOf (S.M (.h o)) = some .busy ∧ Post (.bl false) (S.setLs o .ret).hp S.nx
  | .x id, S => lsOf (S.M (.h o)) = some .busy ∧ Post (.bl false) (S.setLs o (.exit id)).hp S.nx
/-- a round, from its start: the assignments, the body -/
def rndA (hs : Nat → Bool) (CA : Program) (o : Nat) (asg body : ACode) (Post : AV → Hp → Nat → Prop) (S : St) : Prop :=
  wpA hs (some o) CA asg (fun x S1 => match x with
    | .n => lsOf (S1.M (.h o)) = some .ready ∧ wpA hs (some o) CA body (rndQ o Post) (S1.setLs o .busy)
    | _ => False) S

theorem Rel.setLs {S : St} {a : Act} {G : Gh} (h : Rel B N S a G) {o l cap : Nat} {j j' : LS} {q : Loop} {st : LoopState} {pd : Option Code} (hj : lsOf (S.M (.h o)) = some j) (hk : G.κ (.h o) = some (l, cap)) (hl : G.w.heap[l]? = some (.loop q)) (hok : lsOk j' st pd) :
    ∃ G', G'.w = G.w.putObj l (.loop { q with state := st, pending := pd }) ∧ Rel B N (S.setLs o j') a G' ∧ LE G G' := by
  obtain ⟨e, ps, asg, body, fr, hb⟩ := lsOf_out hj
  obtain ⟨r, hr, hbk⟩ := h.toMRel.κsome hb
  rw [hk] at hr; cases hr
  obtain ⟨q2, j2, fr2, c1, c2, c3, c4, c5⟩ := (BlkOpt.loop rfl).1 hbk
  rw [hl] at c2; cases c2
  simp only [List.cons.injEq, AV.rcd.injEq] at c1
  obtain ⟨⟨rfl, rfl, rfl, rfl⟩, rfl⟩ := c1
  have hlt : l < G.w.heap.size := (h.toMRel.apart _ _ hk).2
  have hno : hOk (.h o) (AV.rcd q.params q.assign q.body j' :: fr) = true := by
    have := h.toMRel.hno _ _ hb
    simp only [hOk, noLs, Bool.and_eq_true] at this ⊢
    exact ⟨rfl, this.2⟩
  obtain ⟨G', e1, e2, e3⟩ := h.toMRel.setG (k0 := .h o) (b' := ⟨e, 0, .rcd q.params q.assign q.body j' :: fr⟩) (g := l) (cap := cap) (S' := S.setLs o j') (w1 := G.w.putObj l (.loop { q with state := st, pending := pd })) hno hk hb (by unfold St.setLs; rw [hb]; rfl) rfl rfl rfl World.putObj_size (fun r hr => World.putObj_heap_other hr)
    (fun G' hle hw => (BlkOpt.loop rfl).2 ⟨{ q with state := st, pending := pd }, j', fr, rfl, by rw [hw]; exact World.putObj_heap_same hlt, hok, c4, fun t u x p r => (c5 t u x p r).le hle⟩)
  exact ⟨G', e1, h.lift e2 e3 rfl, e3⟩

theorem rfr_ok {G : Gh} : ∀ (ps : List Nat) (args : List AV) (vs : List Value) (tm : Array Value) (f : Nat → AV), VRs G args vs → (∀ t v, tm[t]? = some v → VR G (f t) v) →
    ((ps.zip vs).foldl (fun tm p => tm.setIfInBounds p.1 p.2) tm).size = tm.size ∧ ∀ t v, ((ps.zip vs).foldl (fun tm p => tm.setIfInBounds p.1 p.2) tm)[t]? = some v → VR G ((ps.zip args).foldl (fun f p => upd f p.1 p.2) f t) v := by
  intro ps
  induction ps with
  | nil => intro args vs tm f _ h; exact ⟨rfl, h⟩
  | cons p ps ih =>
    intro args vs tm f hv h
    cases args with
    | nil => cases vs with
      | nil => exact ⟨rfl, h⟩
      | cons v vs => cases hv.1
    | cons u us => cases vs with
      | nil => cases hv.1
      | cons v vs =>
        simp only [List.zip_cons_cons, List.foldl_cons]
        obtain ⟨a1, a2⟩ := ih us vs (tm.setIfInBounds p v) (upd f p u) hv.tail (fun t x hx => by
          by_cases e : t = p
          · subst e
            have : x = v := by
              rw [Array.getElem?_setIfInBounds_self] at hx
              split at hx
              · exact (Option.some.inj hx).symm
              · cases hx
            rw [this, upd_at]; exact hv.head
          · rw [upd_ne _ _ e]
            rw [Array.getElem?_setIfInBounds_ne (fun q => e q.symm)] at hx
            exact h t x hx)
        exact ⟨by rw [a1]; simp, a2⟩

/-- what a yield does, out of the body of the range over a function -/
theorem yield_of (hs : Nat → Bool) {o e : Nat} {ps : Array Tmp} {asg body : Code} {fr : List AV} {aA aB : ACode} (hA : trC P N asg = some aA) (hB : trC P N body = some aB) {args : List AV} {H : Hp} {n : Nat} {Post : AV → Hp → Nat → Prop}
    (hH : H o = some ⟨e, 0, .rcd ps asg body .ready :: fr⟩) (hN : fr.length = N) (hps : ps.size = args.length) (hw : rndA hs P o aA aB Post ⟨rfr fr ps.toList args, heapM H, fun _ => 0, n⟩) : ContractY P o args H n Post := by
  refine ⟨by rw [hH]; rfl, fun G vs l cap hM hV hk => ?_⟩
  have hb : (hSt H n).M (.h o) = some ⟨e, 0, .rcd ps asg body .ready :: fr⟩ := hH
  obtain ⟨r, hr, hbk⟩ := hM.κsome hb
  rw [hk] at hr; cases hr
  obtain ⟨q, j, fr2, c1, c2, c3, c4, c5⟩ := (BlkOpt.loop rfl).1 hbk
  simp only [List.cons.injEq, AV.rcd.injEq] at c1
  obtain ⟨⟨rfl, rfl, rfl, rfl⟩, rfl⟩ := c1
  have hvl : vs.size = q.params.size := by rw [hps]; simpa using hV.1
  refine ⟨_, _, _, _, run_yield c2 hvl, roundIn_of_wpIn trivial ?_⟩
  have hBl : ∀ d c, (gBase G n).κ (.l d c) = none := fun d c => hM.κnone (k := .l d c) rfl
  have hfold : (q.params.zip vs).foldl (fun tmps (t, a) => tmps.setIfInBounds t a) q.tmps = (q.params.toList.zip vs.toList).foldl (fun tm p => tm.setIfInBounds p.1 p.2) q.tmps := by
    rw [← Array.toList_zip, ← Array.foldl_toList]
  obtain ⟨d1, d2⟩ := rfr_ok q.params.toList args vs.toList q.tmps (fun t => (fr[t]?).getD (.tup [])) hV (fun t v hv => by
    have ht : t < fr.length := by rw [← c4]; exact (Array.getElem?_eq_some_iff.1 hv).1
    rw [List.getElem?_eq_getElem ht]
    exact c5 t _ v (List.getElem?_eq_getElem ht) hv)
  have hrel : Rel (gBase G n) N ⟨rfr fr q.params.toList args, heapM H, fun _ => 0, n⟩ { tmps := (q.params.zip vs).foldl (fun tmps (t, a) => tmps.setIfInBounds t a) q.tmps, defers := [] } G := by
    refine { (show MRel (gBase G n) ⟨rfr fr q.params.toList args, heapM H, fun _ => 0, n⟩ G from hM.fr (rfr fr q.params.toList args)) with defers := DfOk.nil _ _, tsize := by rw [hfold, d1, c4, hN], slot := fun t v hv => ?_ }
    rw [hfold] at hv
    exact d2 t v hv
  have hoo : ∀ o', some o = some o' → ∃ l' cap, some l = some l' ∧ (gBase G n).κ (.h o') = some (l', cap) := fun o' ho' => by cases ho'; exact ⟨l, cap, rfl, hk⟩
  have kk : ∀ {S1 : St} {a1 : Act} {G1 : Gh} {j : LS}, Rel (gBase G n) N S1 a1 G1 → lsOf (S1.M (.h o)) = some j → ∃ q, G1.κ (.h o) = some (l, cap) ∧ G1.w.heap[l]? = some (.loop q) ∧ lsOk j q.state q.pending := by
    intro S1 a1 G1 j h1 hj
    obtain ⟨l', cap', q, k1, k2, k3⟩ := h1.toMRel.recAt hj
    have : (l', cap') = (l, cap) := by
      rcases h1.toMRel.keep (.h o) (l, cap) hk with hq | hq
      · rw [hq] at k1; exact (Option.some.inj k1).symm
      · have := ((h1.toMRel.dead _).1 hq).1
        rw [this] at hj; cases hj
    injection this with t1 t2
    subst t1; subst t2
    exact ⟨q, k1, k2, k3⟩
  refine wpIn_mono (wpA_ok (oo := some o) (ro := some l) hoo (fun h => by cases h) q.assign aA _ _ _ G hA hw hrel) ?_
  rintro x a1 w1 ⟨S1, G1, h1, rfl, hq⟩
  cases x with
  | exit id => exact hq.elim
  | ret => exact hq.elim
  | goto l => exact hq.elim
  | panic c => exact hq.elim
  | outgrown => exact hq.elim
  | normal =>
    obtain ⟨hj, hbody⟩ := hq
    obtain ⟨q1, k1, k2, k3⟩ := kk h1 hj
    obtain ⟨G2, e1, e2, e3⟩ := h1.setLs (j' := .busy) (st := .busy) (pd := q1.pending) hj k1 k2 rfl
    refine ⟨_, run_beginRound k2 k3.1, ?_⟩
    have e1' : G2.w = G1.w.putObj l (.loop { q1 with state := .busy }) := e1
    rw [← e1']
    refine wpIn_mono (wpA_ok (oo := some o) (ro := some l) hoo (fun h => by cases h) q.body aB _ _ _ G2 hB hbody e2) ?_
    rintro x a3 w3 ⟨S3, G3, h3, rfl, hq⟩
    have fin : ∀ (j' : LS) (jump : Option Code) (b : Bool), jump.isNone = b → lsOk j' (if jump.isNone then .ready else .done) jump → lsOf (S3.M (.h o)) = some .busy → Post (.bl b) (S3.setLs o j').hp S3.nx →
        ∃ v w', (Instr.endRound l jump).run P G3.w = .ok v w' ∧ ∃ v' av H' n' G', Ending.returned v = .returned v' ∧ Post av H' n' ∧ MRel (gBase G n) (hSt H' n') G' ∧ G'.w = w' ∧ VR G' av v' ∧ av.noL = true := by
      intro j' jump b hb hok hj3 hP
      obtain ⟨q3, m1, m2, m3⟩ := kk h3 hj3
      obtain ⟨G4, f1, f2, f3⟩ := h3.setLs (j' := j') (st := if jump.isNone then .ready else .done) (pd := jump) hj3 m1 m2 hok
      obtain ⟨G5, g1, g2, g3, g4, g5⟩ := f2.toMRel.forget hBl
      refine ⟨_, _, run_endRound jump m2, _, .bl b, _, _, G5, rfl, hP, g2, g1.trans f1, ?_, rfl⟩
      rw [hb]; exact .bl b
    cases x with
    | normal => exact fin .ready none true rfl ⟨rfl, rfl⟩ hq.1 hq.2
    | ret => exact fin .ret (some .ret) false rfl ⟨rfl, rfl⟩ hq.1 hq.2
    | exit id => exact fin (.exit id) (some (.exit id)) false rfl ⟨rfl, rfl⟩ hq.1 hq.2
    | goto l => exact hq.elim
    | panic c => exact hq.elim
    | outgrown => exact hq.elim
/-- a function that has a body is entered -/
theorem enters_of {f : FuncId} {F : AFn} (hF : trF P f = some F) (vs : Array Value) (w : World) : (callFunc f vs).run P w = .ok (.enter f vs) w := by
  unfold trF at hF
  split at hF <;> first | (cases hF; done) | skip
  rename_i fn hfn
  split at hF <;> first | (cases hF; done) | skip
  rename_i b hb
  split at hb
  · cases hb
  · rename_i hname
    simp only [callFunc, Sem.run_bind, run_program, Result.andThen_ok, hfn]
    rw [if_neg hname]
    simp [hb]
end
end Go.AV
