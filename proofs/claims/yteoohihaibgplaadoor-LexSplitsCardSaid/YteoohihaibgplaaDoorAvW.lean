/-
  Code, abstractly ('wpA'), and that it is sound; a function's contract out of its code.
-/
import Derived.Test.YteoohihaibgplaaDoorAvD
namespace Go.AV
open Go.RowKit Go.RG Go.Lib

inductive AEx where
  | n
  | x (id : Nat)
  | r

/-- what a frame's slots hold that a round may know -/
def cln (u : AV) : AV := if u.noL then u else .un
/-- the record of a range over a function, as an object -/
def recB (N : Nat) (fr : Nat → AV) (ps : Array Tmp) (asg body : Code) : Blk := ⟨0, 0, .rcd ps asg body .ready :: (List.range N).map fun t => cln (fr t)⟩
def St.lay (N : Nat) (S : St) (ps : Array Tmp) (asg body : Code) : St := ⟨S.fr, updK S.M (.h S.nx) (some (recB N S.fr ps asg body)), S.cnt, S.nx + 1⟩
section
variable {P : Program} {B : Base} [GB P B] {N : Nat} {hs : Nat → Bool} {oo ro : Option Nat}

theorem trOpd_bool {S : St} {a : Act} {G : Gh} (h : Rel B N S a G) {c : Operand} {u : AOpd} {b : Bool} (hc : trOpd P N c = some u) (he : ev S.fr u = .bl b) : a.eval c = .bool b := by
  have := ev_ok h hc
  rw [he] at this
  exact this.bl_inv

/-! ### a range over a function -/
theorem cln_noL (u : AV) : (cln u).noL = true := by
  unfold cln
  split
  · rename_i h; exact h
  · rfl
theorem cln_ok {G : Gh} {u : AV} {x : Value} (h : VR G u x) : VR G (cln u) x := by
  unfold cln
  split
  · exact h
  · exact .un x
theorem noLs_cln (fr : Nat → AV) (l : List Nat) : noLs (l.map fun t => cln (fr t)) = true := by
  induction l with
  | nil => rfl
  | cons t l ih => simp only [List.map_cons, noLs, cln_noL, ih, Bool.and_self]

theorem Rel.lay {S : St} {a : Act} {G : Gh} (h : Rel B N S a G) {ps : Array Tmp} {asg body : Code} {fn : FuncId} {dd : Nat} : ∃ G', G'.w = G.w.alloc (.loop { state := .ready, pending := none, fn, tmps := a.tmps, params := ps, assign := asg, body, defers := dd }) ∧ G'.κ (.h S.nx) = some (G.w.heap.size, 0) ∧ Rel B N (S.lay N ps asg body) a G' ∧ LE G G' := by
  have hnew : ∀ o, (G.w.alloc o).heap[G.w.heap.size]? = some o := World.alloc_heap_new G.w
  have hold : ∀ o q, q < G.w.heap.size → (G.w.alloc o).heap[q]? = G.w.heap[q]? := fun o q hq => by
    show (G.w.heap.push o)[q]? = _
    rw [Array.getElem?_push, if_neg (by omega)]
  obtain ⟨G', e1, e2, e3, e4⟩ := h.toMRel.addG (fun _ => False) (fun _ f => f.elim) (S' := S.lay N ps asg body) (k0 := .h S.nx) (b := recB N S.fr ps asg body) (g := G.w.heap.size) (cap := 0)
    (w1 := G.w.alloc (.loop { state := .ready, pending := none, fn, tmps := a.tmps, params := ps, assign := asg, body, defers := dd }))
    (by simp only [recB, hOk, noLs, noLs_cln]; rfl) (fun hk => Nat.lt_irrefl _ hk) rfl (fun k => by
      cases k with
      | l d c => exact ⟨fun hk => .inl hk, fun hk => hk.elim id fun e => by cases e⟩
      | h o =>
        show o < S.nx + 1 ↔ o < S.nx ∨ Key.h o = Key.h S.nx
        rw [Key.h.injEq]; omega) (Nat.le_succ _) (fun hI => absurd (h.lt _ hI) (Nat.lt_irrefl _)) (fun k r hr e => absurd (h.apart k r hr).2 (by omega)) (.inl h.size) rfl rfl rfl (by rw [World.size_alloc]; omega) (fun q hq _ _ => hold _ q hq)
    (by rw [World.size_alloc]; omega) (fun q hq ds => by rcases hq with rfl | hq; simp; exact hq.elim) (fun G' hle hw => by
      refine (BlkOpt.loop rfl).2 ⟨_, .ready, _, rfl, by rw [hw]; exact hnew _, ⟨rfl, rfl⟩, ?_, ?_⟩
      · simp [h.tsize]
      · intro t u x hu hx
        have hx' : a.tmps[t]? = some x := hx
        rw [List.getElem?_map, List.getElem?_range (by rw [← h.tsize]; exact (Array.getElem?_eq_some_iff.1 hx').1)] at hu
        simp only [Option.map_some, Option.some.injEq] at hu
        subst hu
        exact cln_ok ((h.slot t x hx').le hle))
  exact ⟨G', e1, e2, h.lift e3 e4 rfl, e4⟩

theorem DfOk.put {G G' : Gh} {ds : List Deferred} (h : DfOk B G ds) {l : Nat} {q : Loop} (hl : G.w.heap[l]? = some (.loop q)) (hI : G'.I = G.I) (hs : ∀ r, r ≠ l → G'.w.heap[r]? = G.w.heap[r]?) : DfOk B G' ds := by
  obtain ⟨rs, h1, h2, h3⟩ := h
  refine ⟨rs, h1, h2, fun r hr => ?_⟩
  obtain ⟨a, b, c⟩ := h3 r hr
  refine ⟨(hs r (fun e => ?_)).trans a, by rw [hI]; exact b, c⟩
  rw [e, hl] at a; cases a

/-- the record is done with -/
theorem Rel.shut {S : St} {a : Act} {G : Gh} (h : Rel B N S a G) {o l cap : Nat} {q : Loop} {ob : Obj} (hk : G.κ (.h o) = some (l, cap)) (hl : G.w.heap[l]? = some (.loop q)) (hB : B.w.heap.size ≤ l) : ∃ G', G'.w = G.w.putObj l ob ∧ Rel B N (S.kill (.h o)) a G' := by
  obtain ⟨G1, a1, _, a3, a4, a5⟩ := h.toMRel.kill false (S' := S.kill (.h o)) hk rfl
  obtain ⟨a3, a3'⟩ := a3 rfl
  obtain ⟨G2, b1, b2, b3, b4⟩ := a4.take (r := l) (o := ob) (fun k r hr => a3' k r hr) (by rw [a3]; exact (h.toMRel.apart _ _ hk).1) hB
  refine ⟨G2, by rw [b1, a1], { b3 with defers := ?_, tsize := h.tsize, slot := fun t v hv => ((h.slot t v hv).le a5).le0 b4 }⟩
  refine (h.defers.le a5).put (l := l) (q := q) (by rw [a1]; exact hl) b2 (fun r hr => ?_)
  rw [b1]; exact World.putObj_heap_other hr

/-! ### a function -/
def res1 (S : St) : Nat × Option Nat → Option AV
  | (t, none) => some (S.fr t)
  | (t, some 0) => (tgt S (S.fr t)).bind fun p => p.1[p.2]?
  | (t, some (sz + 1)) => (tgt S (S.fr t)).bind fun p => if p.2 + (sz + 1) ≤ p.1.length then some (.agg ((p.1.drop p.2).take (sz + 1))) else none
def resL (S : St) : List (Nat × Option Nat) → Option (List AV)
  | [] => some []
  | p :: r => match res1 S p, resL S r with
    | some u, some us => some (u :: us)
    | _, _ => none
def resA (S : St) (l : List (Nat × Option Nat)) : Option AV := (resL S l).map fun us => match us with
  | [u] => u
  | us => .tup us

def argF (args : List AV) (t : Nat) : AV := (args[t]?).getD (.tup [])
def heapM (H : Hp) (k : Key) : Option Blk := match k with | .h o => H o | .l _ _ => none
def entry (args : List AV) (H : Hp) (n : Nat) : St := ⟨argF args, heapM H, fun _ => 0, n⟩

theorem MRel.forget {S : St} {G : Gh} (h : MRel B S G) (hB : ∀ d c, B.κ (.l d c) = none) : ∃ G', G'.w = G.w ∧ MRel B (hSt S.hp S.nx) G' ∧ (∀ o r, G.κ (.h o) = some r → G'.κ (.h o) = some r) ∧ (∀ o, G.dead (.h o) → G'.dead (.h o)) ∧ (∀ b, G.I b → G'.I b) := by
  obtain ⟨Gc, b1, b2, b3, b4, b5, b6⟩ := call_in h
  have hk : ∀ k r, Gc.κ k = some r → ∃ o, k = .h o ∧ G.κ (.h o) = some r := by
    intro k r hr
    cases k with
    | l d c => rw [b4] at hr; cases hr
    | h o => rw [b3] at hr; exact ⟨o, rfl, hr⟩
  refine ⟨Gc, b1, ⟨b6.blk, b6.inj, b6.dead, b6.live, b6.apart, b6.lt, ?_, ?_, ?_, h.nx, ?_, fun b hb => by rw [b2]; exact h.I0 b hb, fun b hb => by rw [b2] at hb; exact h.I1 b hb, by rw [b1]; exact h.os, by rw [b1]; exact h.tape, by rw [b1]; exact h.output, by rw [b1]; exact h.size, fun b p q => by rw [b1]; exact h.same b p q, b6.hno⟩, fun o r hr => by rw [b3]; exact hr, b5, fun b hb => by rw [b2]; exact hb⟩
  · intro d c r hr; rw [b4] at hr; cases hr
  · intro k r hr
    cases k with
    | l d c => rw [hB] at hr; cases hr
    | h o =>
      rcases h.keep (.h o) r hr with hq | hq
      · left; rw [b3]; exact hq
      · exact .inr (b5 o hq)
  · intro o r hr
    rw [b3] at hr; exact h.heap o r hr
  · intro o ho hb
    rw [b3]; exact h.gone o ho hb

theorem trRes_ok {S : St} {a : Act} {G : Gh} (h : Rel B N S a G) : ∀ (rs : List ResultVar) (l : List (Nat × Option Nat)) (us : List AV), trRes P N rs = some l → resL S l = some us →
    ∃ vs : List Value, (rs.mapM (fun r => match r with | .tmp t => pure (a.tmps.getD t undef) | .cell p t => do loadVar t (← asAddr (a.tmps.getD p undef))) : Sem (List Value)).run P G.w = .ok vs G.w ∧ VRs G us vs := by
  intro rs
  induction rs with
  | nil =>
    intro l us ht hr
    simp only [trRes, Option.some.injEq] at ht; subst ht
    simp only [resL, Option.some.injEq] at hr; subst hr
    exact ⟨[], by simp, rfl, fun j u x hu => by simp at hu⟩
  | cons r rs ih =>
    intro l us ht hr
    cases r with
    | tmp t =>
      simp only [trRes] at ht
      split at ht <;> first | (cases ht; done) | skip
      rename_i htN
      obtain ⟨l', hl', rfl⟩ := Option.map_eq_some_iff.1 ht
      simp only [resL, res1] at hr
      split at hr <;> first | (cases hr; done) | skip
      rename_i u us' e1 e2
      cases e1; cases hr
      obtain ⟨vs, g1, g2⟩ := ih l' us' hl' e2
      have htt : t < a.tmps.size := by rw [h.tsize]; exact htN
      have hv := h.slot t a.tmps[t] (Array.getElem?_eq_getElem htt)
      have hgd : a.tmps.getD t undef = a.tmps[t] := by simp [Array.getD, htt]
      refine ⟨a.tmps[t] :: vs, ?_, VRs.cons hv g2⟩
      simp only [List.mapM_cons, Sem.run_bind, Sem.run_pure, Result.andThen_ok, g1, hgd]
    | cell t ty =>
      simp only [trRes] at ht
      split at ht <;> first | (cases ht; done) | skip
      · rename_i sz l' h1 h2
        split at ht <;> first | (cases ht; done) | skip
        rename_i htN
        cases ht
        simp only [resL, res1] at hr
        split at hr <;> first | (cases hr; done) | skip
        rename_i u us' e1 e2
        cases hr
        obtain ⟨⟨cs, off⟩, t1, t2⟩ := Option.bind_eq_some_iff.1 e1
        obtain ⟨vs, g1, g2⟩ := ih l' us' h2 e2
        have htt : t < a.tmps.size := by rw [h.tsize]; exact htN
        have hv := h.slot t a.tmps[t] (Array.getElem?_eq_getElem htt)
        have hgd : a.tmps.getD t undef = a.tmps[t] := by simp [Array.getD, htt]
        obtain ⟨b, base, e, hat⟩ := tgt_ok h.toMRel hv t1
        have ha0 : a.eval (.tmp t) = a.tmps[t] := hgd
        obtain ⟨v, hr0, hv0⟩ := m_ld (P := P) h (o := { dst := none, op := .load ty (.tmp t), type := ty, pos := "", after := #[], guard := none }) rfl (x := .tmp t) (ux := .t t) (by simp [trOpd, htN]) h1 t1 (by simpa using t2)
        have hrun : (loadVar ty ⟨b, base + off, none⟩).run P G.w = .ok v G.w := by
          simp only [execOp, Instr.loadAt, Instr.sureAddr, ha0, e] at hr0
          simp only [Sem.run_bind, Sem.run_pure, Result.andThen_ok] at hr0
          cases hq : (loadVar ty ⟨b, base + off, none⟩).run P G.w with
          | ok x w => rw [hq] at hr0; simp at hr0; rw [hr0.1, hr0.2]
          | halt x w => rw [hq] at hr0; simp [Result.andThen] at hr0
        refine ⟨v :: vs, ?_, VRs.cons hv0 g2⟩
        have has : (asAddr (a.tmps.getD t undef)).run P G.w = .ok ⟨b, base + off, none⟩ G.w := by rw [hgd, e]; rfl
        simp only [List.mapM_cons, Sem.run_bind, Sem.run_pure, Result.andThen_ok, g1, has, hrun]
      · rename_i l' h1 h2
        split at ht <;> first | (cases ht; done) | skip
        rename_i htN
        cases ht
        simp only [resL, res1] at hr
        split at hr <;> first | (cases hr; done) | skip
        rename_i u us' e1 e2
        cases hr
        obtain ⟨⟨cs, off⟩, t1, t2⟩ := Option.bind_eq_some_iff.1 e1
        obtain ⟨vs, g1, g2⟩ := ih l' us' h2 e2
        have htt : t < a.tmps.size := by rw [h.tsize]; exact htN
        have hv := h.slot t a.tmps[t] (Array.getElem?_eq_getElem htt)
        have hgd : a.tmps.getD t undef = a.tmps[t] := by simp [Array.getD, htt]
        obtain ⟨b, base, e, hat⟩ := tgt_ok h.toMRel hv t1
        have ha0 : a.eval (.tmp t) = a.tmps[t] := hgd
        obtain ⟨v, hr0, hv0⟩ := m_ld (P := P) h (o := { dst := none, op := .load ty (.tmp t), type := ty, pos := "", after := #[], guard := none }) rfl (x := .tmp t) (ux := .t t) (by simp [trOpd, htN]) h1 t1 (by simpa using t2)
        have hrun : (loadVar ty ⟨b, base + off, none⟩).run P G.w = .ok v G.w := by
          simp only [execOp, Instr.loadAt, Instr.sureAddr, ha0, e] at hr0
          simp only [Sem.run_bind, Sem.run_pure, Result.andThen_ok] at hr0
          cases hq : (loadVar ty ⟨b, base + off, none⟩).run P G.w with
          | ok x w => rw [hq] at hr0; simp at hr0; rw [hr0.1, hr0.2]
          | halt x w => rw [hq] at hr0; simp [Result.andThen] at hr0
        refine ⟨v :: vs, ?_, VRs.cons hv0 g2⟩
        have has : (asAddr (a.tmps.getD t undef)).run P G.w = .ok ⟨b, base + off, none⟩ G.w := by rw [hgd, e]; rfl
        simp only [List.mapM_cons, Sem.run_bind, Sem.run_pure, Result.andThen_ok, g1, has, hrun]

theorem resA_ok {S : St} {a : Act} {G : Gh} (h : Rel B N S a G) {fn : Func} {l : List (Nat × Option Nat)} {u : AV} (ht : trRes P N fn.results.toList = some l) (hr : resA S l = some u) : ∃ v, (results fn a.tmps).run P G.w = .ok v G.w ∧ VR G u v := by
  unfold resA at hr
  obtain ⟨us, h1, h2⟩ := Option.map_eq_some_iff.1 hr
  obtain ⟨vs, g1, g2⟩ := trRes_ok h fn.results.toList l us ht h1
  have hrun : ∀ f : ResultVar → Sem Value, (fn.results.toList.mapM f).run P G.w = .ok vs G.w → (fn.results.mapM f).run P G.w = .ok vs.toArray G.w := by
    intro f hf
    rw [Array.mapM_eq_mapM_toList]
    simp [hf]
  have hres : ∀ (f : ResultVar → Sem Value), (fn.results.mapM f).run P G.w = .ok vs.toArray G.w → (do let vs ← fn.results.mapM f; pure (if h : vs.size = 1 then vs[0] else .tuple vs) : Sem Value).run P G.w = .ok (if h : vs.toArray.size = 1 then vs.toArray[0] else .tuple vs.toArray) G.w := by
    intro f hf
    simp only [Sem.run_bind, hf, Result.andThen_ok, Sem.run_pure]
  refine ⟨if h : vs.toArray.size = 1 then vs.toArray[0] else .tuple vs.toArray, ?_, ?_⟩
  · unfold results
    exact hres _ (hrun _ g1)
  · split
    · rename_i h1'
      have hl : vs.length = 1 := by simpa using h1'
      obtain ⟨v0, rfl⟩ := List.length_eq_one_iff.1 hl
      obtain ⟨u0, rfl⟩ := List.length_eq_one_iff.1 (g2.1.symm.trans hl)
      subst h2
      exact g2.head
    · rename_i h1'
      have hu : u = .tup us := by
        match us, h2 with
        | [], h2 => exact h2.symm
        | [_], h2 => have := g2.1; simp at this; exact absurd (by simpa using this) h1'
        | _ :: _ :: _, h2 => exact h2.symm
      rw [hu]
      exact .tup us vs.toArray (by simpa using g2.1) (fun j u x p q => g2.2 j u x p (by simpa using q))

/-- the blocks of ranges over functions are shut, one by one -/
def shutW (w : World) (rs : List Nat) : World := rs.foldl (fun w r => w.putObj r (.deferred none)) w

theorem Rel.leave {S : St} {a : Act} {G : Gh} (h : Rel B N S a G) : ∃ rs G', a.defers = rs.map (fun r => { target := .collected r, args := #[] }) ∧ rs.Nodup ∧ (∀ r ∈ rs, G.w.heap[r]? = some (.deferred (some []))) ∧ G'.w = shutW G.w rs ∧ Rel B N S { a with defers := [] } G' := by
  obtain ⟨rs, h1, h2, h3⟩ := h.defers
  refine ⟨rs, ?_⟩
  have key : ∀ (rs : List Nat) (G : Gh), rs.Nodup → (∀ r ∈ rs, G.w.heap[r]? = some (.deferred (some [])) ∧ ¬ G.I r ∧ B.w.heap.size ≤ r) → Rel B N S { a with defers := [] } G → ∃ G', G'.w = shutW G.w rs ∧ Rel B N S { a with defers := [] } G' := by
    intro rs
    induction rs with
    | nil => intro G _ _ h; exact ⟨G, rfl, h⟩
    | cons r rs ih =>
      intro G hnd hr h
      obtain ⟨a1, a2, a3⟩ := hr r (by simp)
      obtain ⟨G1, b1, b2, b3, b4⟩ := h.toMRel.take (r := r) (o := .deferred none) (fun k q hk e => h.toMRel.notDfr hk _ (e ▸ a1)) a2 a3
      obtain ⟨hn1, hn2⟩ := List.nodup_cons.1 hnd
      obtain ⟨G2, c1, c2⟩ := ih G1 hn2 (fun q hq => by
        obtain ⟨d1, d2, d3⟩ := hr q (List.mem_cons_of_mem _ hq)
        refine ⟨?_, by rw [b2]; exact d2, d3⟩
        rw [b1, World.putObj_heap_other (fun e => hn1 (by rw [← e]; exact hq))]; exact d1) { b3 with defers := DfOk.nil _ _, tsize := h.tsize, slot := fun t v hv => (h.slot t v hv).le0 b4 }
      exact ⟨G2, by rw [c1, b1]; rfl, c2⟩
  obtain ⟨G', e1, e2⟩ := key rs G h2 h3 { h.toMRel with defers := DfOk.nil _ _, tsize := h.tsize, slot := h.slot }
  exact ⟨G', h1, h2, fun r hr => (h3 r hr).1, e1, e2⟩

theorem leaves_ok {F : Fence} {nn : Nat} {fn : Func} {tmps : Array Value} {R : Ending → World → Prop} : ∀ (rs : List Nat) (w : World), rs.Nodup → (∀ r ∈ rs, w.heap[r]? = some (.deferred (some []))) → (∃ v, (results fn tmps).run P (shutW w rs) = .ok v (shutW w rs) ∧ R (.returned v) (shutW w rs)) →
    LeavesInM F nn P fn tmps R (rs.map (fun r => { target := .collected r, args := #[] })) .returning w := by
  intro rs
  induction rs with
  | nil => intro w _ _ h; exact h
  | cons r rs ih =>
    intro w hnd hr h
    obtain ⟨hn1, hn2⟩ := List.nodup_cons.1 hnd
    refine ⟨by simp, .inl ⟨r, w.putObj r (.deferred none), rfl, run_takeDeferred (hr r (by simp)), ?_⟩⟩
    refine ih _ hn2 (fun q hq => ?_) h
    rw [World.putObj_heap_other (fun e => hn1 (by rw [← e]; exact hq))]; exact hr q (List.mem_cons_of_mem _ hq)

/-! ### a round -/
/-- a function that has a body is entered -/
theorem enters_of {f : FuncId} {F : AFn} (hF : trF P f = some F) (vs : Array Value) (w : World) : (callFunc f vs).run P w = .ok (.enter f vs) w := by
  unfold trF at hF
  split at hF <;> first | (cases hF; done) | skip
  rename_i fn hfn
  split at hF <;> first | (cases hF; done) | skip
  rename_i b hb
  split at hb
  · cases hb
  · rename_i hname
    simp only [callFunc, Sem.run_bind, run_program, Result.andThen_ok, hfn]
    rw [if_neg hname]
    simp [hb]
end
end Go.AV

