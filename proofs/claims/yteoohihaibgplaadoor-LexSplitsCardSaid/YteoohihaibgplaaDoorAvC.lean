/-
  Calls: what is handed over must not lead into the caller's own places ('noL'); a row of the caller's own is handed over for good ('pub'); contracts.
-/
import Derived.Test.YteoohihaibgplaaDoorAvA
namespace Go.AV
open Go.RowKit Go.RG Go.Lib

/-- what is told in one ghost is told in another that knows the same objects -/
theorem VR.noL {G G' : Gh} (hκ : ∀ o r, G.κ (.h o) = some r → G'.κ (.h o) = some r) (hd : ∀ o, G.dead (.h o) → G'.dead (.h o)) (hI : ∀ b, G.I b → G'.I b) (hw : G'.w = G.w) : ∀ {u : AV} {v : Value}, VR G u v → u.noL = true → VR G' u v := by
  intro u v h
  induction h with
  | bl b => exact fun _ => .bl b
  | it k n => exact fun _ => .it k n
  | st l s h => exact fun _ => .st l s h
  | agg cs vs hl h h1 ih => intro hn; simp only [AV.noL] at hn; exact .agg cs vs hl (fun j u x a b => ih j u x a b (noLs_at hn j u a)) h1
  | tup cs vs hl h ih => intro hn; simp only [AV.noL] at hn; exact .tup cs vs hl (fun j u x a b => ih j u x a b (noLs_at hn j u a))
  | nsl z n xs hn hx => exact fun _ => .nsl z n xs hn hx
  | esl n xs hn hx a cap => exact fun _ => .esl n xs hn hx a cap
  | sl n xs b off cap f hIb hc h h1 hn hm hq ih => intro _; exact .sl n xs b off cap f (hI b hIb) (fun j u a => by rw [hw]; exact hc j u a) (fun j u a => ih j u a (noLs_at hq j u a)) h1 hn hm hq
  | gs k n b cap hk => cases k with
    | l d c => intro hn; simp [AV.noL] at hn
    | h o => exact fun _ => .gs _ n b cap (hκ o _ hk)
  | gsd k n v hk h1 => cases k with
    | l d c => intro hn; simp [AV.noL] at hn
    | h o => exact fun _ => .gsd _ n v (hd o hk) h1
  | nptr => exact fun _ => .nptr
  | pt k off b cap hk => cases k with
    | l d c => intro hn; simp [AV.noL] at hn
    | h o => exact fun _ => .pt _ off b cap (hκ o _ hk)
  | ptd k off v hk h1 => cases k with
    | l d c => intro hn; simp [AV.noL] at hn
    | h o => exact fun _ => .ptd _ off v (hd o hk) h1
  | ep xs off b base f hIb hc h h1 hq ih => intro _; exact .ep xs off b base f (hI b hIb) (fun j u a => by rw [hw]; exact hc j u a) (fun j u a => ih j u a (noLs_at hq j u a)) h1 hq
  | fn f a c va vc ha hc h h' ih ih' => intro hn; simp only [AV.noL, Bool.and_eq_true] at hn; exact .fn f a c va vc ha hc (fun j u x p q => ih j u x p q (noLs_at hn.1 j u p)) (fun j u x p q => ih' j u x p q (noLs_at hn.2 j u p))
  | nfn => exact fun _ => .nfn
  | yld o l cap hk => exact fun _ => .yld o l cap (hκ o _ hk)
  | yldd o v hk h1 => exact fun _ => .yldd o v (hd o hk) h1
  | un v => exact fun _ => .un v

/-! ### a row is handed over for good -/
def pub1 (v : AV) (S : St) : AV × St :=
  match v with
  | .gs (.l d c) n => match S.M (.l d c) with
    | some b => if b.cells.length = n * b.sz ∧ b.sz ≠ 0 ∧ noLs b.cells = true then (.sl false n b.cells, S.kill (.l d c)) else (v, S)
    | none => (v, S)
  | v => (v, S)
def pubs (l : List AV) (S : St) : List AV × St :=
  match l with
  | [] => ([], S)
  | u :: r => let p := pub1 u S; let q := pubs r p.2; (p.1 :: q.1, q.2)
def pubV (v : AV) (S : St) : AV × St :=
  if v.noL then (v, S) else
  match v with
  | .agg cs => let p := pubs cs S; (.agg p.1, p.2)
  | v => pub1 v S
def pubL (l : List AV) (S : St) : List AV × St :=
  match l with
  | [] => ([], S)
  | u :: r => let p := pubV u S; let q := pubL r p.2; (p.1 :: q.1, q.2)
section
variable {P : Program} {B : Base} [GB P B] {N : Nat} {S : St} {a : Act} {G : Gh}

def VRs (G : Gh) (us : List AV) (vs : List Value) : Prop := vs.length = us.length ∧ ∀ (j : Nat) (u : AV) (x : Value), us[j]? = some u → vs[j]? = some x → VR G u x

theorem VRs.le {G' : Gh} (hle : LE G G') {us : List AV} {vs : List Value} (h : VRs G us vs) : VRs G' us vs := ⟨h.1, fun j u x p q => (h.2 j u x p q).le hle⟩
theorem VRs.cons {u : AV} {v : Value} {us : List AV} {vs : List Value} (h : VR G u v) (k : VRs G us vs) : VRs G (u :: us) (v :: vs) := by
  refine ⟨by simp [k.1], fun j u' x p q => ?_⟩
  cases j with
  | zero => simp at p q; subst p; subst q; exact h
  | succ j => exact k.2 j u' x (by simpa using p) (by simpa using q)
theorem VRs.head {u : AV} {v : Value} {us : List AV} {vs : List Value} (h : VRs G (u :: us) (v :: vs)) : VR G u v := h.2 0 u v rfl rfl
theorem VRs.tail {u : AV} {v : Value} {us : List AV} {vs : List Value} (h : VRs G (u :: us) (v :: vs)) : VRs G us vs := ⟨by simpa using h.1, fun j u' x p q => h.2 (j + 1) u' x (by simpa using p) (by simpa using q)⟩

theorem pub1_ok (h : MRel B S G) {u : AV} {v : Value} (hv : VR G u v) : ∃ G', MRel B (pub1 u S).2 G' ∧ LE G G' ∧ G'.w = G.w ∧ VR G' (pub1 u S).1 v ∧ (pub1 u S).2.fr = S.fr := by
  unfold pub1
  split
  · rename_i d c n
    split
    · rename_i b hm
      split
      · rename_i hl
        obtain ⟨hl, hz, hqn⟩ := hl
        obtain ⟨g, cap, hk, e⟩ := hv.gs_inv h (by simp [liveB, hm])
        obtain ⟨r, hr, hb⟩ := h.κcell hm hz
        rw [hk] at hr; cases hr
        obtain ⟨G', e1, e2, e3, e4, e5⟩ := h.kill true (S' := S.kill (.l d c)) hk rfl
        refine ⟨G', e4, e5, e1, ?_, rfl⟩
        obtain ⟨cur, c1, c2, c3, c4, c5, c6, c7⟩ := hb
        have hnc : n ≤ cap := by
          have : n * b.sz ≤ cap * b.sz := by rw [← hl, ← c2]; exact c5
          exact Nat.le_of_mul_le_mul_right this c4
        rw [e]
        have hcell : ∀ (j : Nat) (u : AV), b.cells[j]? = some u → ∃ x, cur[j]? = some x := by
          intro j u hu
          have hj : j < cur.size := Nat.lt_of_lt_of_le (List.getElem?_eq_some_iff.1 hu).1 c5
          exact ⟨cur[j], Array.getElem?_eq_getElem hj⟩
        refine .sl n b.cells g 0 cap (fun j => (cur[j]?).getD undef) (e2 rfl) ?_ ?_ ?_ hnc (Nat.le_trans hnc c3) hqn
        · intro j u hu
          obtain ⟨x, hx⟩ := hcell j u hu
          rw [e1]
          simp only [World.cell?, Nat.zero_add]
          simp [c1, hx]
        · intro j u hu
          obtain ⟨x, hx⟩ := hcell j u hu
          rw [hx]; exact (c6 j u x hu hx).le e5
        · intro j u hu
          obtain ⟨x, hx⟩ := hcell j u hu
          rw [hx]; exact c7 j x (List.getElem?_eq_some_iff.1 hu).1 hx
      · exact ⟨G, h, LE.refl G, rfl, hv, rfl⟩
    · exact ⟨G, h, LE.refl G, rfl, hv, rfl⟩
  · exact ⟨G, h, LE.refl G, rfl, hv, rfl⟩

theorem pubs_ok : ∀ (us : List AV) (vs : List Value) (S : St) (G : Gh), MRel B S G → VRs G us vs → ∃ G', MRel B (pubs us S).2 G' ∧ LE G G' ∧ G'.w = G.w ∧ VRs G' (pubs us S).1 vs ∧ (pubs us S).2.fr = S.fr := by
  intro us
  induction us with
  | nil => intro vs S G h hv; exact ⟨G, h, LE.refl G, rfl, hv, rfl⟩
  | cons u us ih =>
    intro vs S G h hv
    cases vs with
    | nil => cases hv.1
    | cons v vs =>
      obtain ⟨G1, a1, a2, a3, a4, a5⟩ := pub1_ok h hv.head
      obtain ⟨G2, b1, b2, b3, b4, b5⟩ := ih vs _ G1 a1 (hv.tail.le a2)
      exact ⟨G2, b1, a2.trans b2, b3.trans a3, VRs.cons (a4.le b2) b4, b5.trans a5⟩

theorem pubV_ok (h : MRel B S G) {u : AV} {v : Value} (hv : VR G u v) : ∃ G', MRel B (pubV u S).2 G' ∧ LE G G' ∧ G'.w = G.w ∧ VR G' (pubV u S).1 v ∧ (pubV u S).2.fr = S.fr := by
  unfold pubV
  split
  · exact ⟨G, h, LE.refl G, rfl, hv, rfl⟩
  · split
    · rename_i _ cs _
      obtain ⟨vs, e, h1, h2, h3⟩ := hv.agg_inv
      obtain ⟨G', a1, a2, a3, a4, a5⟩ := pubs_ok cs vs.toList S G h ⟨by simpa using h1, fun j u x p q => h2 j u x p (by simpa using q)⟩
      refine ⟨G', a1, a2, a3, ?_, a5⟩
      rw [e]
      exact .agg _ _ (by simpa using a4.1) (fun j u x p q => a4.2 j u x p (by simpa using q)) h3
    · exact pub1_ok h hv

theorem pubL_ok : ∀ (us : List AV) (vs : List Value) (S : St) (G : Gh), MRel B S G → VRs G us vs → ∃ G', MRel B (pubL us S).2 G' ∧ LE G G' ∧ G'.w = G.w ∧ VRs G' (pubL us S).1 vs ∧ (pubL us S).2.fr = S.fr := by
  intro us
  induction us with
  | nil => intro vs S G h hv; exact ⟨G, h, LE.refl G, rfl, hv, rfl⟩
  | cons u us ih =>
    intro vs S G h hv
    cases vs with
    | nil => cases hv.1
    | cons v vs =>
      obtain ⟨G1, a1, a2, a3, a4, a5⟩ := pubV_ok h hv.head
      obtain ⟨G2, b1, b2, b3, b4, b5⟩ := ih vs _ G1 a1 (hv.tail.le a2)
      exact ⟨G2, b1, a2.trans b2, b3.trans a3, VRs.cons (a4.le b2) b4, b5.trans a5⟩

/-! ### contracts -/
abbrev Hp := Nat → Option Blk
def hSt (H : Hp) (n : Nat) : St := ⟨fun _ => .un, fun k => match k with | .h o => H o | .l _ _ => none, fun _ => 0, n⟩
def St.hp (S : St) : Hp := fun o => S.M (.h o)
def St.withH (S : St) (H : Hp) (n : Nat) : St := { S with M := fun k => match k with | .h o => H o | .l d c => S.M (.l d c), nx := n }

def CallW (P : Program) (f : FuncId) (vs : Array Value) (w : World) (R : Ending → World → Prop) : Prop :=
  match (callFunc f vs).run P w with
  | .ok (.value v) w' => R (.returned v) w'
  | .ok (.enter g as) w' => Calls P g as w' R
  | _ => False

def gBase (G : Gh) (n : Nat) : Base := ⟨G.w, G.κ, G.I, n⟩
theorem GB.of {P : Program} {G : Gh} {n : Nat} {S : St} (h : GOK P G.w G.I) (hM : MRel (gBase G n) S G) : GB P (gBase G n) := ⟨h, fun k r hr => (hM.apart k r hr).1⟩

/-- what a function does, in whatever world -/
def Contract (P : Program) (f : FuncId) (args : List AV) (H : Hp) (n : Nat) (Post : AV → Hp → Nat → Prop) : Prop :=
  ∀ (G : Gh) (vs : Array Value), GOK P G.w G.I → MRel (gBase G n) (hSt H n) G → VRs G args vs.toList → CallW P f vs G.w fun e w' => ∃ v av H' n' G', e = .returned v ∧ Post av H' n' ∧ MRel (gBase G n) (hSt H' n') G' ∧ G'.w = w' ∧ VR G' av v ∧ av.noL = true

/-- a pure function: whatever the objects -/
def Pure (P : Program) (f : FuncId) (args : List AV) (v : AV) : Prop := ∀ H n, Contract P f args H n fun av H' n' => av = v ∧ H' = H ∧ n' = n

theorem CallW.mono {f : FuncId} {vs : Array Value} {w : World} {R R' : Ending → World → Prop} (h : CallW P f vs w R) (hr : ∀ e w', R e w' → R' e w') : CallW P f vs w R' := by
  unfold CallW at *
  split at h
  · exact hr _ _ h
  · exact Calls.mono h hr
  · exact h.elim

theorem Contract.mono {f : FuncId} {args : List AV} {H : Hp} {n : Nat} {Post Post' : AV → Hp → Nat → Prop} (h : Contract P f args H n Post) (hp : ∀ av H' n', Post av H' n' → Post' av H' n') : Contract P f args H n Post' :=
  fun G vs hg hM hV => (h G vs hg hM hV).mono fun _ _ ⟨v, av, H', n', G', a1, a2, a3⟩ => ⟨v, av, H', n', G', a1, hp _ _ _ a2, a3⟩

/-- what a caller sees of a callee's world: its own places are as they were -/
theorem call_back (h : MRel B S G) {Gc G1 : Gh} {H' : Hp} {n' : Nat} (hcw : Gc.w = G.w) (hcI : Gc.I = G.I) (hcκ : ∀ o, Gc.κ (.h o) = G.κ (.h o)) (hcl : ∀ d c, Gc.κ (.l d c) = none) (h1 : MRel (gBase Gc S.nx) (hSt H' n') G1) :
    ∃ G', G'.w = G1.w ∧ MRel B (S.withH H' n') G' ∧ LE G G' ∧ (∀ o r, G1.κ (.h o) = some r → G'.κ (.h o) = some r) ∧ (∀ o, G1.dead (.h o) → G'.dead (.h o)) ∧ (∀ b, G1.I b → G'.I b) := by
  let S' := S.withH H' n'
  let G' : Gh := ⟨fun k => match k with | .h o => G1.κ (.h o) | .l d c => G.κ (.l d c), deadOf S', G1.I, G1.w⟩
  have hBw : (gBase Gc S.nx).w = G.w := hcw
  have hsz : G.w.heap.size ≤ G1.w.heap.size := by rw [← hBw]; exact h1.size
  have hll : ∀ d c r, G1.κ (.l d c) = some r → False := by
    intro d c r hr
    obtain ⟨b, hb, _⟩ := h1.Msome hr
    cases hb
  -- a block of the caller's own has not turned
  have hsame : ∀ d c r, G.κ (.l d c) = some r → G1.w.heap[r.1]? = G.w.heap[r.1]? := by
    intro d c r hr
    have := h1.same r.1 (by rw [hBw]; exact (h.apart _ r hr).2) (fun k r' hk e => ?_)
    · rw [hBw] at this; exact this
    · cases k with
      | l d' c' => have := hcl d' c'; rw [show (gBase Gc S.nx).κ (.l d' c') = Gc.κ (.l d' c') from rfl, this] at hk; cases hk
      | h o => rw [show (gBase Gc S.nx).κ (.h o) = Gc.κ (.h o) from rfl, hcκ] at hk; have := h.inj _ _ _ _ hk hr e; cases this
  have hIsame : ∀ b, G.I b → G1.w.heap[b]? = G.w.heap[b]? := by
    intro b hb
    have := h1.same b (by rw [hBw]; exact h.lt b hb) (fun k r' hk e => ?_)
    · rw [hBw] at this; exact this
    · cases k with
      | l d' c' => have := hcl d' c'; rw [show (gBase Gc S.nx).κ (.l d' c') = Gc.κ (.l d' c') from rfl, this] at hk; cases hk
      | h o => rw [show (gBase Gc S.nx).κ (.h o) = Gc.κ (.h o) from rfl, hcκ] at hk; exact (h.apart _ _ hk).1 (e ▸ hb)
  have hdh : ∀ o, G1.dead (.h o) ↔ G'.dead (.h o) := by
    intro o
    rw [h1.dead]
    exact Iff.rfl
  have hII : ∀ b, G.I b → G1.I b := fun b hb => h1.I0 b (by show Gc.I b; rw [hcI]; exact hb)
  have hle : LE G G' := by
    have htr : ∀ b ds, G.w.heap[b]? = some (.deferred ds) → ∀ k r, Gc.κ k = some r → r.1 ≠ b := by
      intro b ds hb k r hr e
      cases k with
      | l d' c' => rw [hcl] at hr; cases hr
      | h o => rw [hcκ] at hr; exact h.notDfr hr ds (e ▸ hb)
    refine ⟨?_, ?_, hII, hIsame, fun b ds hb => ⟨?_, fun hI => ?_⟩⟩
    rotate_left 2
    · have := h1.same b (by rw [hBw]; exact (Array.getElem?_eq_some_iff.1 hb).1) (fun k r hk => htr b ds hb k r hk)
      rw [hBw] at this; exact this
    · rcases h1.I1 b hI with hq | hq | ⟨k, r', e1, e2⟩
      · have hq' : Gc.I b := hq
        rw [hcI] at hq'; exact hq'
      · rw [hBw] at hq; have := (Array.getElem?_eq_some_iff.1 hb).1; omega
      · exact absurd e2 (htr b ds hb k r' e1)
    · intro k r hr
      cases k with
      | l d c => exact .inl hr
      | h o =>
        rcases h1.keep (.h o) r (by show Gc.κ (.h o) = some r; rw [hcκ]; exact hr) with hq | hq
        · exact .inl hq
        · exact .inr ((hdh o).1 hq)
    · intro k hd
      cases k with
      | l d c => obtain ⟨p, q⟩ := (h.dead _).1 hd; exact ⟨p, q⟩
      | h o =>
        obtain ⟨p, q⟩ := (h.dead _).1 hd
        have hn : G1.κ (.h o) = none := h1.gone o q (by show Gc.κ (.h o) = none; rw [hcκ]; exact h.κnone p)
        refine ⟨?_, Nat.lt_of_lt_of_le q h1.nx⟩
        show H' o = none
        cases hq : H' o with
        | none => rfl
        | some b => obtain ⟨r, hr, _⟩ := h1.κsome (k := .h o) (b := b) hq; rw [hn] at hr; cases hr
  have hne : ∀ d c r o r', G.κ (.l d c) = some r → G1.κ (.h o) = some r' → r.1 ≠ r'.1 := by
    intro d c r o r' hr hr' e
    rcases h1.heap o r' hr' with hq | ⟨k, r2, e1, e2⟩
    · rw [hBw] at hq; have := (h.apart _ r hr).2; omega
    · cases k with
      | l d' c' => have := hcl d' c'; rw [show (gBase Gc S.nx).κ (.l d' c') = Gc.κ (.l d' c') from rfl, this] at e1; cases e1
      | h o2 => rw [show (gBase Gc S.nx).κ (.h o2) = Gc.κ (.h o2) from rfl, hcκ] at e1; have := h.inj _ _ _ _ e1 hr (e2.trans e.symm); cases this
  refine ⟨G', rfl, ⟨?_, ?_, fun k => Iff.rfl, ?_, ?_, h1.lt, ?_, ?_, ?_, Nat.le_trans h.nx h1.nx, ?_, fun b hb => hII b (h.I0 b hb), ?_, ?_, ?_, ?_, Nat.le_trans h.size hsz, ?_, ?_⟩, hle, fun o r hr => hr, fun o hd => (hdh o).1 hd, fun b hb => hb⟩
  · intro k
    cases k with
    | l d c => exact (h.blk (.l d c)).le hle fun q hq => hsame d c q hq
    | h o =>
      have := h1.blk (.h o)
      refine (show BlkOpt G1 (H' o) (G1.κ (.h o)) from this) |> fun hb => ?_
      show BlkOpt G' (H' o) (G1.κ (.h o))
      refine BlkOpt.le (G := G1) ?_ (fun _ _ => rfl) hb
      refine ⟨fun k r hr => ?_, fun k hd => ?_, fun _ hb => hb, fun _ _ => rfl, fun _ _ _ => ⟨rfl, fun h => h⟩⟩
      · cases k with
        | l d c => exact (hll d c r hr).elim
        | h o => exact .inl hr
      · cases k with
        | l d c =>
          obtain ⟨p, q⟩ := (h1.dead _).1 hd
          have hq : 1 ≤ c ∧ c ≤ 0 := q
          omega
        | h o => exact (hdh o).1 hd
  · intro k k' r r' hr hr' e
    cases k with
    | l d c => cases k' with
      | l d' c' => exact h.inj _ _ r r' hr hr' e
      | h o => exact absurd e (hne d c r o r' hr hr')
    | h o => cases k' with
      | l d c => exact absurd e.symm (hne d c r' o r hr' hr)
      | h o' => exact h1.inj _ _ r r' hr hr' e
  · intro k b hb
    cases k with
    | l d c => exact h.live (.l d c) b hb
    | h o => exact h1.live (.h o) b hb
  · intro k r hr
    cases k with
    | l d c =>
      refine ⟨fun hI => ?_, Nat.lt_of_lt_of_le (h.apart _ r hr).2 hsz⟩
      rcases h1.I1 r.1 hI with hq | hq | ⟨k, r', e1, e2⟩
      · have hq' : Gc.I r.1 := hq
        rw [hcI] at hq'; exact (h.apart _ r hr).1 hq'
      · rw [hBw] at hq; have := (h.apart _ r hr).2; omega
      · cases k with
        | l d' c' => have := hcl d' c'; rw [show (gBase Gc S.nx).κ (.l d' c') = Gc.κ (.l d' c') from rfl, this] at e1; cases e1
        | h o => rw [show (gBase Gc S.nx).κ (.h o) = Gc.κ (.h o) from rfl, hcκ] at e1; have := h.inj _ _ _ _ e1 hr e2; cases this
    | h o => exact h1.apart (.h o) r hr
  · exact fun d c r hr => h.loc d c r hr
  · intro k r hr
    rcases h.keep k r hr with hq | hq
    · exact hle.κ k r hq
    · exact .inr (hle.dead k hq)
  · intro o r hr
    rcases h1.heap o r hr with hq | ⟨k, r', e1, e2⟩
    · rw [hBw] at hq; exact .inl (Nat.le_trans h.size hq)
    · cases k with
      | l d' c' => have := hcl d' c'; rw [show (gBase Gc S.nx).κ (.l d' c') = Gc.κ (.l d' c') from rfl, this] at e1; cases e1
      | h o' =>
        rw [show (gBase Gc S.nx).κ (.h o') = Gc.κ (.h o') from rfl, hcκ] at e1
        rw [← e2]; exact h.heap o' r' e1
  · intro o ho hb
    have hn := h.gone o ho hb
    exact h1.gone o (Nat.lt_of_lt_of_le ho h.nx) (by show Gc.κ (.h o) = none; rw [hcκ]; exact hn)
  · intro b hb
    rcases h1.I1 b hb with hq | hq | ⟨k, r', e1, e2⟩
    · have hq' : Gc.I b := hq
      rw [hcI] at hq'; exact h.I1 b hq'
    · rw [hBw] at hq; exact .inr (.inl (Nat.le_trans h.size hq))
    · cases k with
      | l d' c' => have := hcl d' c'; rw [show (gBase Gc S.nx).κ (.l d' c') = Gc.κ (.l d' c') from rfl, this] at e1; cases e1
      | h o =>
        rw [show (gBase Gc S.nx).κ (.h o) = Gc.κ (.h o) from rfl, hcκ] at e1
        rw [← e2]
        rcases h.heap o r' e1 with hq | hq
        · exact .inr (.inl hq)
        · exact .inr (.inr hq)
  · exact (h1.os.trans (by rw [hBw])).trans h.os
  · exact (h1.tape.trans (by rw [hBw])).trans h.tape
  · exact (h1.output.trans (by rw [hBw])).trans h.output
  · intro b hb hq
    have := h1.same b (by rw [hBw]; exact Nat.lt_of_lt_of_le hb h.size) (fun k r' hk e => ?_)
    · rw [hBw] at this; exact this.trans (h.same b hb hq)
    · cases k with
      | l d' c' => have := hcl d' c'; rw [show (gBase Gc S.nx).κ (.l d' c') = Gc.κ (.l d' c') from rfl, this] at hk; cases hk
      | h o =>
        rw [show (gBase Gc S.nx).κ (.h o) = Gc.κ (.h o) from rfl, hcκ] at hk
        rcases h.heap o r' hk with hh | ⟨k2, r2, p1, p2⟩
        · omega
        · exact hq k2 r2 p1 (p2.trans e)
  · intro k b hb
    cases k with
    | l d c => rfl
    | h o => exact h1.hno (.h o) b hb

/-- the callee's view of the caller's world -/
theorem call_in (h : MRel B S G) : ∃ Gc, Gc.w = G.w ∧ Gc.I = G.I ∧ (∀ o, Gc.κ (.h o) = G.κ (.h o)) ∧ (∀ d c, Gc.κ (.l d c) = none) ∧ (∀ o, G.dead (.h o) → Gc.dead (.h o)) ∧ MRel (gBase Gc S.nx) (hSt S.hp S.nx) Gc := by
  let Gc : Gh := ⟨fun k => match k with | .h o => G.κ (.h o) | .l _ _ => none, deadOf (hSt S.hp S.nx), G.I, G.w⟩
  have hk : ∀ k r, Gc.κ k = some r → ∃ o, k = .h o ∧ G.κ (.h o) = some r := by
    intro k r hr
    cases k with
    | l d c => cases hr
    | h o => exact ⟨o, rfl, hr⟩
  have hd : ∀ o, G.dead (.h o) ↔ deadOf (hSt S.hp S.nx) (.h o) := fun o => (h.dead (.h o)).trans Iff.rfl
  refine ⟨Gc, rfl, rfl, fun _ => rfl, fun _ _ => rfl, fun o => (hd o).1, ⟨?_, ?_, fun k => Iff.rfl, ?_, ?_, h.lt, ?_, fun k r hr => .inl hr, fun o r hr => .inr ⟨.h o, r, hr, rfl⟩, Nat.le_refl _, fun o _ hn => hn, fun _ hb => hb, fun b hb => .inl hb, rfl, rfl, rfl, Nat.le_refl _, fun _ _ _ => rfl, ?_⟩⟩
  · intro k
    cases k with
    | l d c => trivial
    | h o =>
      have := h.blk (.h o)
      have hn := h.hno (.h o)
      show BlkOpt Gc (S.M (.h o)) (G.κ (.h o))
      revert this hn
      cases S.M (.h o) with
      | none => cases G.κ (.h o) <;> exact fun x _ => x
      | some b => cases G.κ (.h o) with
        | none => exact fun x _ => x
        | some r =>
          intro this hn
          by_cases hz : b.sz = 0
          · obtain ⟨q, j, fr, c1, c2, c3, c4, c5⟩ := (BlkOpt.loop hz).1 this
            have hnf : noLs fr = true := by have := hn b rfl; simp only [hOk, c1, noLs, Bool.and_eq_true] at this; exact this.2
            exact (BlkOpt.loop hz).2 ⟨q, j, fr, c1, c2, c3, c4, fun t u x p q => VR.noL (G := G) (G' := Gc) (fun o r hr => hr) (fun o hd' => (hd o).1 hd') (fun b hb => hb) rfl (c5 t u x p q) (noLs_at hnf t u p)⟩
          obtain ⟨cur, c1, c2, c3, c4, c5, c6, c7⟩ := (BlkOpt.cell hz).1 this
          exact (BlkOpt.cell hz).2 ⟨cur, c1, c2, c3, c4, c5, fun j u x p q => VR.noL (G := G) (G' := Gc) (fun o r hr => hr) (fun o hd' => (hd o).1 hd') (fun b hb => hb) rfl (c6 j u x p q) (noLs_at (hn b rfl) j u p), c7⟩
  · intro k k' r r' hr hr' e
    obtain ⟨o, rfl, p⟩ := hk k r hr
    obtain ⟨o', rfl, p'⟩ := hk k' r' hr'
    exact h.inj _ _ r r' p p' e
  · intro k b hb
    cases k with
    | l d c => cases hb
    | h o => exact h.live (.h o) b hb
  · intro k r hr
    obtain ⟨o, rfl, p⟩ := hk k r hr
    exact h.apart _ r p
  · intro d c r hr; cases hr
  · intro k b hb
    cases k with
    | l d c => rfl
    | h o => exact h.hno (.h o) b hb

/-! ### a row is lent for a call that only tells a value that leads nowhere -/
mutual
def AV.flat : AV → Bool
  | .bl _ | .it _ _ | .st _ | .nptr | .nfn => true
  | .agg cs => flats cs
  | .tup cs => flats cs
  | _ => false
def flats : List AV → Bool
  | [] => true
  | u :: r => u.flat && flats r
end
theorem flats_at {l : List AV} (h : flats l = true) : ∀ (j : Nat) (u : AV), l[j]? = some u → u.flat = true := by
  induction l with
  | nil => intro j u hu; simp at hu
  | cons x l ih =>
    simp only [flats, Bool.and_eq_true] at h
    intro j u hu
    cases j with
    | zero => simp at hu; subst hu; exact h.1
    | succ j => exact ih h.2 j u (by simpa using hu)
theorem VR.flat {G G' : Gh} : ∀ {u : AV} {v : Value}, VR G u v → u.flat = true → VR G' u v := by
  intro u v h
  induction h with
  | bl b => exact fun _ => .bl b
  | it k n => exact fun _ => .it k n
  | st l s h => exact fun _ => .st l s h
  | agg cs vs hl h h1 ih => intro hn; simp only [AV.flat] at hn; exact .agg cs vs hl (fun j u x a b => ih j u x a b (flats_at hn j u a)) h1
  | tup cs vs hl h ih => intro hn; simp only [AV.flat] at hn; exact .tup cs vs hl (fun j u x a b => ih j u x a b (flats_at hn j u a))
  | nptr => exact fun _ => .nptr
  | nfn => exact fun _ => .nfn
  | _ => intro hn; simp [AV.flat] at hn
/-- a world that has grown -/
theorem MRel.grow {w' : World} (h : MRel B S G) (h1 : G.w.heap.size ≤ w'.heap.size) (h2 : ∀ b, b < G.w.heap.size → w'.heap[b]? = G.w.heap[b]?) (h3 : w'.os = G.w.os) (h4 : w'.tape = G.w.tape) (h5 : w'.output = G.w.output) :
    ∃ G', MRel B S G' ∧ LE G G' ∧ G'.w = w' := by
  let G' : Gh := ⟨G.κ, G.dead, G.I, w'⟩
  have hle : LE G G' := ⟨fun k r hr => .inl hr, fun k hk => hk, fun b hb => hb, fun b hb => h2 b (h.lt b hb), fun b ds hb => ⟨h2 b (Array.getElem?_eq_some_iff.1 hb).1, fun hI => hI⟩⟩
  refine ⟨G', ⟨fun k => ?_, h.inj, h.dead, h.live, fun k r hr => ⟨(h.apart k r hr).1, Nat.lt_of_lt_of_le (h.apart k r hr).2 h1⟩, fun b hb => Nat.lt_of_lt_of_le (h.lt b hb) h1, h.loc, h.keep, h.heap, h.nx, h.gone, h.I0, h.I1, h3.trans h.os, h4.trans h.tape, h5.trans h.output, Nat.le_trans h.size h1, fun b hb hn => (h2 b (Nat.lt_of_lt_of_le hb h.size)).trans (h.same b hb hn), h.hno⟩, hle, rfl⟩
  have hb := h.blk k
  show BlkOpt G' (S.M k) (G.κ k)
  cases hm : S.M k with
  | none =>
    rw [hm] at hb
    cases hk : G.κ k with
    | none => trivial
    | some r => rw [hk] at hb; exact hb
  | some b =>
    rw [hm] at hb
    cases hk : G.κ k with
    | none => rw [hk] at hb; exact hb
    | some r =>
      rw [hk] at hb
      have hlt := (h.apart k r hk).2
      by_cases hz : b.sz = 0
      · obtain ⟨q, j, fr, c1, c2, c3, c4, c5⟩ := (BlkOpt.loop hz).1 hb
        exact (BlkOpt.loop hz).2 ⟨q, j, fr, c1, (h2 _ hlt).trans c2, c3, c4, fun t u x p q => (c5 t u x p q).le hle⟩
      · obtain ⟨cur, c1, c2, c3, c4, c5, c6, c7⟩ := (BlkOpt.cell hz).1 hb
        exact (BlkOpt.cell hz).2 ⟨cur, (h2 _ hlt).trans c1, c2, c3, c4, c5, fun j u x p q => (c6 j u x p q).le hle, c7⟩
/-- rows as they are lent -/
def vw1 (M : Key → Option Blk) : AV → AV
  | .gs (.l d c) n => match M (.l d c) with
    | some b => if b.cells.length = n * b.sz ∧ b.sz ≠ 0 ∧ noLs b.cells = true then .sl false n b.cells else .gs (.l d c) n
    | none => .gs (.l d c) n
  | u => u
def vwV (M : Key → Option Blk) : AV → AV
  | .agg cs => .agg (cs.map (vw1 M))
  | u => vw1 M u
/-- local rows are looked at as if they never turned -/
def Gh.lend (G : Gh) : Gh := ⟨G.κ, G.dead, fun b => G.I b ∨ ∃ d c r, G.κ (.l d c) = some r ∧ r.1 = b, G.w⟩
theorem LE0.lend {G : Gh} : LE0 G G.lend := ⟨fun _ _ h => .inl h, fun _ h => h, fun _ h => .inl h, fun _ _ => rfl⟩
theorem vw1_ok (h : MRel B S G) {u : AV} {v : Value} (hv : VR G u v) : VR G.lend (vw1 S.M u) v := by
  unfold vw1
  split
  · rename_i d c n
    split
    · rename_i b hm
      split
      · rename_i hl
        obtain ⟨hl, hz, hqn⟩ := hl
        obtain ⟨g, cap, hk, e⟩ := hv.gs_inv h (by simp [liveB, hm])
        obtain ⟨r, hr, hb⟩ := h.κcell hm hz
        rw [hk] at hr; cases hr
        obtain ⟨cur, c1, c2, c3, c4, c5, c6, c7⟩ := hb
        have hnc : n ≤ cap := by
          have : n * b.sz ≤ cap * b.sz := by rw [← hl, ← c2]; exact c5
          exact Nat.le_of_mul_le_mul_right this c4
        rw [e]
        have hcell : ∀ (j : Nat) (u : AV), b.cells[j]? = some u → ∃ x, cur[j]? = some x := by
          intro j u hu
          have hj : j < cur.size := Nat.lt_of_lt_of_le (List.getElem?_eq_some_iff.1 hu).1 c5
          exact ⟨cur[j], Array.getElem?_eq_getElem hj⟩
        refine .sl n b.cells g 0 cap (fun j => (cur[j]?).getD undef) (.inr ⟨d, c, _, hk, rfl⟩) ?_ ?_ ?_ hnc (Nat.le_trans hnc c3) hqn
        · intro j u hu
          obtain ⟨x, hx⟩ := hcell j u hu
          show G.w.cell? _ = _
          simp only [World.cell?, Nat.zero_add]
          simp [c1, hx]
        · intro j u hu
          obtain ⟨x, hx⟩ := hcell j u hu
          rw [hx]; exact (c6 j u x hu hx).le0 .lend
        · intro j u hu
          obtain ⟨x, hx⟩ := hcell j u hu
          rw [hx]; exact c7 j x (List.getElem?_eq_some_iff.1 hu).1 hx
      · exact hv.le0 .lend
    · exact hv.le0 .lend
  · exact hv.le0 .lend
theorem vwV_ok (h : MRel B S G) {u : AV} {v : Value} (hv : VR G u v) : VR G.lend (vwV S.M u) v := by
  cases u with
  | agg cs =>
    cases hv with
    | agg _ vs hl h0 h1 =>
      refine .agg _ vs (by rw [List.length_map]; exact hl) (fun j u x hu hx => ?_) h1
      rw [List.getElem?_map] at hu
      obtain ⟨w, h2, rfl⟩ := Option.map_eq_some_iff.1 hu
      exact vw1_ok h (h0 j w x h2 hx)
  | _ => exact vw1_ok h hv
/-- a pure function's call: nothing that there is turns -/
theorem call_lent (h : MRel B S G) {f : FuncId} {us : List AV} {vs : Array Value} {u : AV} (hv : VRs G.lend us vs.toList) (hn : noLs us = true) (hF : Pure P f us u) (hfl : u.flat = true) :
    CallW P f vs G.w fun e w' => ∃ v, e = .returned v ∧ (∀ G', VR G' u v) ∧ G.w.heap.size ≤ w'.heap.size ∧ (∀ b, b < G.w.heap.size → w'.heap[b]? = G.w.heap[b]?) ∧ w'.os = G.w.os ∧ w'.tape = G.w.tape ∧ w'.output = G.w.output := by
  let H0 : Hp := fun _ => none
  let Gm : Gh := ⟨fun _ => none, fun k => match k with | .l _ _ => True | .h o => o < S.nx, G.lend.I, G.w⟩
  let Gc : Gh := ⟨fun _ => none, deadOf (hSt H0 S.nx), G.lend.I, G.w⟩
  have hlt : ∀ b, G.lend.I b → b < G.w.heap.size := by
    rintro b (hb | ⟨d, c, r, hr, rfl⟩)
    · exact h.lt b hb
    · exact (h.apart _ _ hr).2
  have hm : LE0 G.lend Gm := by
    refine ⟨fun k r hr => .inr ?_, fun k hk => ?_, fun b hb => hb, fun b _ => rfl⟩
    · cases k with
      | l d c => trivial
      | h o =>
        have hb := h.blk (.h o)
        have hr' : G.κ (.h o) = some r := hr
        rw [hr'] at hb
        cases hM : S.M (.h o) with
        | none => rw [hM] at hb; exact hb.elim
        | some b => exact h.live _ b hM
    · cases k with
      | l d c => trivial
      | h o => exact ((h.dead _).1 hk).2
  have hM : MRel (gBase Gc S.nx) (hSt H0 S.nx) Gc := by
    refine ⟨fun k => ?_, fun k k' r r' hr => (by cases hr), fun k => Iff.rfl, fun k b hb => ?_, fun k r hr => (by cases hr), hlt, fun d c r hr => (by cases hr), fun k r hr => (by cases hr), fun o r hr => (by cases hr), Nat.le_refl _, fun o _ _ => rfl, fun b hb => hb, fun b hb => .inl hb, rfl, rfl, rfl, Nat.le_refl _, fun b _ _ => rfl, fun k b hb => ?_⟩
    · cases k <;> trivial
    · cases k <;> cases hb
    · cases k <;> cases hb
  have hvc : VRs Gc us vs.toList := ⟨hv.1, fun j u x p q => VR.noL (G := Gm) (G' := Gc) (fun o r hr => by cases hr) (fun o ho => ⟨rfl, ho⟩) (fun b hb => hb) rfl ((hv.2 j u x p q).le0 hm) (noLs_at hn j u p)⟩
  refine (hF H0 S.nx Gc vs (h.gok.mono (fun b hb => .inl hb) fun b o _ e => e) hM hvc).mono ?_
  rintro e w' ⟨v, av, H', n', G2, rfl, ⟨rfl, rfl, rfl⟩, hM2, hw, hvr, hav⟩
  subst hw
  exact ⟨v, rfl, fun G' => hvr.flat hfl, hM2.size, fun b hb => hM2.same b hb (fun k r hr => by cases hr), hM2.os, hM2.tape, hM2.output⟩

end
/-! ### places that are lent -/
abbrev K2 := Nat × Nat
def lkE {α β : Type} [DecidableEq α] : List (α × β) → α → Option β
  | [], _ => none
  | p :: r, a => if p.1 = a then some p.2 else lkE r a
def lkZ {α β : Type} [DecidableEq β] : List (α × β) → β → Option α
  | [], _ => none
  | p :: r, b => if p.2 = b then some p.1 else lkZ r b
theorem lkE_in {α β : Type} [DecidableEq α] {l : List (α × β)} {a : α} {b : β} (h : lkE l a = some b) : (a, b) ∈ l := by
  induction l with
  | nil => cases h
  | cons p l ih =>
    simp only [lkE] at h
    split at h
    · rename_i e; cases h; subst e; simp
    · exact List.mem_cons_of_mem _ (ih h)
theorem lkZ_in {α β : Type} [DecidableEq β] {l : List (α × β)} {a : α} {b : β} (h : lkZ l b = some a) : (a, b) ∈ l := by
  induction l with
  | nil => cases h
  | cons p l ih =>
    simp only [lkZ] at h
    split at h
    · rename_i e; cases h; subst e; simp
    · exact List.mem_cons_of_mem _ (ih h)
theorem lkE_of {α β : Type} [DecidableEq α] {l : List (α × β)} {a : α} {b : β} (hn : (l.map (·.1)).Nodup) (h : (a, b) ∈ l) : lkE l a = some b := by
  induction l with
  | nil => cases h
  | cons p l ih =>
    simp only [List.map_cons, List.nodup_cons] at hn
    simp only [lkE]
    rcases List.mem_cons.1 h with rfl | h
    · simp
    · rw [if_neg (fun e => hn.1 (List.mem_map.2 ⟨(a, b), h, e.symm⟩))]; exact ih hn.2 h
theorem lkZ_of {α β : Type} [DecidableEq β] {l : List (α × β)} {a : α} {b : β} (hn : (l.map (·.2)).Nodup) (h : (a, b) ∈ l) : lkZ l b = some a := by
  induction l with
  | nil => cases h
  | cons p l ih =>
    simp only [List.map_cons, List.nodup_cons] at hn
    simp only [lkZ]
    rcases List.mem_cons.1 h with rfl | h
    · simp
    · rw [if_neg (fun e => hn.1 (List.mem_map.2 ⟨(a, b), h, e.symm⟩))]; exact ih hn.2 h
theorem lkZ_no {α β : Type} [DecidableEq β] {l : List (α × β)} {b : β} (h : lkZ l b = none) : ∀ a, (a, b) ∉ l := by
  induction l with
  | nil => intro a h; cases h
  | cons p l ih =>
    simp only [lkZ] at h
    split at h
    · cases h
    · rename_i e
      intro a hm
      rcases List.mem_cons.1 hm with rfl | hm
      · exact e rfl
      · exact ih h a hm
mutual
def reA (f : Nat → Nat → Option K2) : AV → AV
  | .gs (.l d c) n => match f d c with
    | some k => .gs (.l k.1 k.2) n
    | none => .un
  | .pt (.l d c) o => match f d c with
    | some k => .pt (.l k.1 k.2) o
    | none => .un
  | .agg cs => .agg (reAs f cs)
  | .tup cs => .tup (reAs f cs)
  | .fn g a c => .fn g (reAs f a) (reAs f c)
  | u => u
def reAs (f : Nat → Nat → Option K2) : List AV → List AV
  | [] => []
  | u :: r => reA f u :: reAs f r
end
theorem reAs_map (f : Nat → Nat → Option K2) : ∀ l : List AV, reAs f l = l.map (reA f)
  | [] => rfl
  | u :: r => by rw [reAs, reAs_map f r]; rfl
theorem reAs_len (f : Nat → Nat → Option K2) (l : List AV) : (reAs f l).length = l.length := by rw [reAs_map, List.length_map]
theorem reAs_at {f : Nat → Nat → Option K2} {l : List AV} {j : Nat} {u : AV} (h : (reAs f l)[j]? = some u) : ∃ v, l[j]? = some v ∧ u = reA f v := by
  rw [reAs_map, List.getElem?_map] at h
  obtain ⟨v, h1, h2⟩ := Option.map_eq_some_iff.1 h
  exact ⟨v, h1, h2.symm⟩
theorem VR.re {G G' : Gh} {f : Nat → Nat → Option K2} (hκ : ∀ o r, G.κ (.h o) = some r → G'.κ (.h o) = some r) (hd : ∀ o, G.dead (.h o) → G'.dead (.h o)) (hI : ∀ b, G.I b → G'.I b) (hw : G'.w = G.w)
    (hf : ∀ d c k, f d c = some k → (∀ r, G.κ (.l d c) = some r → G'.κ (.l k.1 k.2) = some r) ∧ ¬ G.dead (.l d c)) : ∀ {u : AV} {v : Value}, VR G u v → VR G' (reA f u) v := by
  intro u v h
  induction h with
  | bl b => exact .bl b
  | it k n => exact .it k n
  | st l s h => exact .st l s h
  | agg cs vs hl h h1 ih => exact .agg _ vs (by rw [reAs_len]; exact hl) (fun j u x a b => by obtain ⟨w, e1, rfl⟩ := reAs_at a; exact ih j w x e1 b) h1
  | tup cs vs hl h ih => exact .tup _ vs (by rw [reAs_len]; exact hl) (fun j u x a b => by obtain ⟨w, e1, rfl⟩ := reAs_at a; exact ih j w x e1 b)
  | nsl z n xs hn hx => exact .nsl z n xs hn hx
  | esl n xs hn hx a cap => exact .esl n xs hn hx a cap
  | sl n xs b off cap g hIb hc h h1 hn hm hq ih => exact .sl n xs b off cap g (hI b hIb) (fun j u a => by rw [hw]; exact hc j u a) (fun j u a => VR.noL hκ hd hI hw (h j u a) (noLs_at hq j u a)) h1 hn hm hq
  | gs k n b cap hk => cases k with
    | l d c =>
      simp only [reA]
      split
      · rename_i k e; exact .gs _ n b cap ((hf d c k e).1 _ hk)
      · exact .un _
    | h o => exact .gs _ n b cap (hκ o _ hk)
  | gsd k n v hk h1 => cases k with
    | l d c =>
      simp only [reA]
      split
      · rename_i k e; exact ((hf d c k e).2 hk).elim
      · exact .un _
    | h o => exact .gsd _ n v (hd o hk) h1
  | nptr => exact .nptr
  | pt k off b cap hk => cases k with
    | l d c =>
      simp only [reA]
      split
      · rename_i k e; exact .pt _ off b cap ((hf d c k e).1 _ hk)
      · exact .un _
    | h o => exact .pt _ off b cap (hκ o _ hk)
  | ptd k off v hk h1 => cases k with
    | l d c =>
      simp only [reA]
      split
      · rename_i k e; exact ((hf d c k e).2 hk).elim
      · exact .un _
    | h o => exact .ptd _ off v (hd o hk) h1
  | ep xs off b base g hIb hc h h1 hq ih => exact .ep xs off b base g (hI b hIb) (fun j u a => by rw [hw]; exact hc j u a) (fun j u a => VR.noL hκ hd hI hw (h j u a) (noLs_at hq j u a)) h1 hq
  | fn g a c va vc ha hc h h' ih ih' => exact .fn g _ _ va vc (by rw [reAs_len]; exact ha) (by rw [reAs_len]; exact hc) (fun j u x p q => by obtain ⟨w, e1, rfl⟩ := reAs_at p; exact ih j w x e1 q) (fun j u x p q => by obtain ⟨w, e1, rfl⟩ := reAs_at p; exact ih' j w x e1 q)
  | nfn => exact .nfn
  | yld o l cap hk => exact .yld o l cap (hκ o _ hk)
  | yldd o v hk h1 => exact .yldd o v (hd o hk) h1
  | un v => exact .un v
def Blk.re (f : Nat → Nat → Option K2) (b : Blk) : Blk := ⟨b.e, b.sz, reAs f b.cells⟩

/-- a function's start, with places that it is lent -/
def lSt (mem : Nat → Option Blk) (H : Hp) (n : Nat) : St := ⟨fun _ => .un, fun k => match k with | .h o => H o | .l d c => if c = 1 then mem d else none, fun _ => 1, n⟩
/-- what a function does with places that it is lent -/
def LContract (P : Program) (f : FuncId) (args : List AV) (mem : Nat → Option Blk) (H : Hp) (n : Nat) (Post : AV → St → Prop) : Prop :=
  ∀ (G : Gh) (vs : Array Value), GOK P G.w G.I → MRel (gBase G n) (lSt mem H n) G → VRs G args vs.toList → CallW P f vs G.w fun e w' => ∃ v av S1 G1, e = .returned v ∧ Post av S1 ∧ MRel (gBase G n) S1 G1 ∧ G1.w = w' ∧ VR G1 av v
theorem LContract.mono {P : Program} {f : FuncId} {args : List AV} {mem : Nat → Option Blk} {H : Hp} {n : Nat} {Post Post' : AV → St → Prop} (h : LContract P f args mem H n Post) (hp : ∀ av S1, Post av S1 → Post' av S1) : LContract P f args mem H n Post' :=
  fun G vs hg hM hV => (h G vs hg hM hV).mono fun _ _ ⟨v, av, S1, G1, a1, a2, a3⟩ => ⟨v, av, S1, G1, a1, hp _ _ a2, a3⟩
def finL (inn : List (Nat × K2)) (d c : Nat) : Option K2 := (lkZ inn (d, c)).map fun x => (x, 1)
def memL (inn : List (Nat × K2)) (M : Key → Option Blk) (x : Nat) : Option Blk := (lkE inn x).bind fun k => (M (.l k.1 k.2)).map (Blk.re (finL inn))
structure LendOk (inn : List (Nat × K2)) (M : Key → Option Blk) : Prop where
  n1 : (inn.map (·.1)).Nodup
  n2 : (inn.map (·.2)).Nodup
  ok : ∀ p ∈ inn, 2000000 ≤ p.1 ∧ ∃ b, M (.l p.2.1 p.2.2) = some b ∧ b.sz ≠ 0

section
variable {P : Program} {B : Base} [GB P B] {N : Nat} {S : St} {a : Act} {G : Gh}
theorem call_inL (h : MRel B S G) {inn : List (Nat × K2)} (hin : LendOk inn S.M) : ∃ Gc, Gc.w = G.w ∧ Gc.I = G.I ∧ (∀ o, Gc.κ (.h o) = G.κ (.h o)) ∧ (∀ x c r, Gc.κ (.l x c) = some r → c = 1 ∧ ∃ k, (x, k) ∈ inn ∧ G.κ (.l k.1 k.2) = some r) ∧ (∀ x k, (x, k) ∈ inn → Gc.κ (.l x 1) = G.κ (.l k.1 k.2)) ∧
    MRel (gBase Gc S.nx) (lSt (memL inn S.M) S.hp S.nx) Gc ∧ ∀ u v, VR G u v → VR Gc (reA (finL inn) u) v := by
  let κ1 : Key → Option (Nat × Nat) := fun k => match k with
    | .h o => G.κ (.h o)
    | .l x c => if c = 1 then (lkE inn x).bind fun k => G.κ (.l k.1 k.2) else none
  let Gc : Gh := ⟨κ1, deadOf (lSt (memL inn S.M) S.hp S.nx), G.I, G.w⟩
  have hinv : ∀ x c r, κ1 (.l x c) = some r → c = 1 ∧ ∃ k, (x, k) ∈ inn ∧ G.κ (.l k.1 k.2) = some r := by
    intro x c r hr
    have hr' : (if c = 1 then (lkE inn x).bind fun k => G.κ (.l k.1 k.2) else none) = some r := hr
    split at hr'
    · rename_i hc
      obtain ⟨k, h1, h2⟩ := Option.bind_eq_some_iff.1 hr'
      exact ⟨hc, k, lkE_in h1, h2⟩
    · cases hr'
  have hfw : ∀ x k, (x, k) ∈ inn → κ1 (.l x 1) = G.κ (.l k.1 k.2) := by
    intro x k hk
    show (if 1 = 1 then (lkE inn x).bind fun k => G.κ (.l k.1 k.2) else none) = _
    rw [lkE_of hin.n1 hk]; simp
  have hd : ∀ o, G.dead (.h o) → Gc.dead (.h o) := fun o hq => (h.dead (.h o)).1 hq
  have hf : ∀ d c k, finL inn d c = some k → (∀ r, G.κ (.l d c) = some r → Gc.κ (.l k.1 k.2) = some r) ∧ ¬ G.dead (.l d c) := by
    intro d c k hk
    obtain ⟨x, h1, rfl⟩ := Option.map_eq_some_iff.1 hk
    have hm := lkZ_in h1
    refine ⟨fun r hr => (hfw x _ hm).trans hr, fun hq => ?_⟩
    obtain ⟨_, b, hb, _⟩ := hin.ok _ hm
    have := ((h.dead _).1 hq).1
    rw [show S.M (.l d c) = some b from hb] at this; cases this
  have go : ∀ u v, VR G u v → VR Gc (reA (finL inn) u) v := fun u v hv => VR.re (G := G) (G' := Gc) (fun _ _ q => q) hd (fun _ q => q) rfl hf hv
  refine ⟨Gc, rfl, rfl, fun _ => rfl, hinv, hfw, ⟨?_, ?_, fun k => Iff.rfl, ?_, ?_, h.lt, fun d c r hr => .inr ⟨.l d c, r, hr, rfl⟩, fun k r hr => .inl hr, fun o r hr => .inr ⟨.h o, r, hr, rfl⟩, Nat.le_refl _, fun o _ hn => hn, fun _ hb => hb, fun b hb => .inl hb, rfl, rfl, rfl, Nat.le_refl _, fun _ _ _ => rfl, ?_⟩, go⟩
  · intro k
    cases k with
    | l x c =>
      show BlkOpt Gc (if c = 1 then memL inn S.M x else none) (κ1 (.l x c))
      by_cases hc : c = 1
      · subst hc
        rw [if_pos rfl]
        cases hx : lkE inn x with
        | none =>
          have h1 : memL inn S.M x = none := by unfold memL; rw [hx]; rfl
          have h2 : κ1 (.l x 1) = none := by show (if 1 = 1 then (lkE inn x).bind fun k => G.κ (.l k.1 k.2) else none) = _; rw [hx]; simp
          rw [h1, h2]; trivial
        | some k =>
          have hm := lkE_in hx
          obtain ⟨_, b, hb, hz⟩ := hin.ok _ hm
          have h1 : memL inn S.M x = some (b.re (finL inn)) := by unfold memL; rw [hx]; show (S.M (.l k.1 k.2)).map _ = _; rw [hb]; rfl
          obtain ⟨r, hr, cur, c1, c2, c3, c4, c5, c6, c7⟩ := h.κcell hb hz
          rw [h1, hfw x k hm, hr]
          refine (BlkOpt.cell (show (b.re (finL inn)).sz ≠ 0 from hz)).2 ⟨cur, c1, c2, c3, c4, by show (reAs _ _).length ≤ _; rw [reAs_len]; exact c5, fun j u y p q => ?_, fun j y p q => c7 j y (by rw [← reAs_len (finL inn)]; exact p) q⟩
          obtain ⟨w, e1, rfl⟩ := reAs_at p
          exact go _ _ (c6 j w y e1 q)
      · rw [if_neg hc]
        have h2 : κ1 (.l x c) = none := by
          cases hk : κ1 (.l x c) with
          | none => rfl
          | some r => exact absurd (hinv x c r hk).1 hc
        rw [h2]; trivial
    | h o =>
      have := h.blk (.h o)
      have hn := h.hno (.h o)
      show BlkOpt Gc (S.M (.h o)) (G.κ (.h o))
      revert this hn
      cases S.M (.h o) with
      | none => cases G.κ (.h o) <;> exact fun x _ => x
      | some b => cases G.κ (.h o) with
        | none => exact fun x _ => x
        | some r =>
          intro this hn
          by_cases hz : b.sz = 0
          · obtain ⟨q, j, fr, c1, c2, c3, c4, c5⟩ := (BlkOpt.loop hz).1 this
            have hnf : noLs fr = true := by have := hn b rfl; simp only [hOk, c1, noLs, Bool.and_eq_true] at this; exact this.2
            exact (BlkOpt.loop hz).2 ⟨q, j, fr, c1, c2, c3, c4, fun t u x p q => VR.noL (G := G) (G' := Gc) (fun o r hr => hr) hd (fun b hb => hb) rfl (c5 t u x p q) (noLs_at hnf t u p)⟩
          obtain ⟨cur, c1, c2, c3, c4, c5, c6, c7⟩ := (BlkOpt.cell hz).1 this
          exact (BlkOpt.cell hz).2 ⟨cur, c1, c2, c3, c4, c5, fun j u x p q => VR.noL (G := G) (G' := Gc) (fun o r hr => hr) hd (fun b hb => hb) rfl (c6 j u x p q) (noLs_at (hn b rfl) j u p), c7⟩
  · intro k k' r r' hr hr' e
    cases k with
    | h o => cases k' with
      | h o' => exact h.inj _ _ r r' hr hr' e
      | l x c => obtain ⟨_, k, h1, h2⟩ := hinv x c r' hr'; have := h.inj _ _ r r' hr h2 e; cases this
    | l x c =>
      obtain ⟨rfl, k, h1, h2⟩ := hinv x c r hr
      cases k' with
      | h o' => have := h.inj _ _ r r' h2 hr' e; cases this
      | l x' c' =>
        obtain ⟨rfl, k', h3, h4⟩ := hinv x' c' r' hr'
        have := h.inj _ _ r r' h2 h4 e
        simp only [Key.l.injEq] at this
        have e1 : k = k' := Prod.ext this.1 this.2
        subst e1
        have := (lkZ_of hin.n2 h1).symm.trans (lkZ_of hin.n2 h3)
        cases this; rfl
  · intro k b hb
    cases k with
    | l x c =>
      have hb' : (if c = 1 then memL inn S.M x else none) = some b := hb
      split at hb'
      · rename_i hc; subst hc; exact ⟨Nat.le_refl 1, Nat.le_refl 1⟩
      · cases hb'
    | h o => exact h.live (.h o) b hb
  · intro k r hr
    cases k with
    | h o => exact h.apart (.h o) r hr
    | l x c => obtain ⟨_, k, _, h2⟩ := hinv x c r hr; exact h.apart _ r h2
  · intro k b hb
    cases k with
    | l d c => rfl
    | h o => exact h.hno (.h o) b hb

/-- where what the callee leaves goes to -/
structure OutOk (inn : List (Nat × K2)) (out : List (K2 × K2)) (bs : List Nat) (cnt : Nat → Nat) (S1 : St) : Prop where
  n1 : (out.map (·.1)).Nodup
  n2 : (out.map (·.2)).Nodup
  live : ∀ p ∈ out, ∃ b, S1.M (.l p.1.1 p.1.2) = some b ∧ b.sz ≠ 0
  goes : ∀ p ∈ out, (p.1.2 = 1 ∧ (p.1.1, p.2) ∈ inn) ∨ (p.2.1 ∈ bs ∧ p.2.2 = cnt p.2.1 + 1)
def cntB (bs : List Nat) (cnt : Nat → Nat) : Nat → Nat := fun s => if s ∈ bs then cnt s + 1 else cnt s
def St.backL (S : St) (inn : List (Nat × K2)) (out : List (K2 × K2)) (bs : List Nat) (S1 : St) : St :=
  ⟨S.fr, fun k => match k with
    | .h o => S1.M (.h o)
    | .l d c => match lkZ out (d, c) with
      | some q => (S1.M (.l q.1 q.2)).map (Blk.re fun d c => lkE out (d, c))
      | none => match lkZ inn (d, c) with
        | some _ => none
        | none => S.M (.l d c), cntB bs S.cnt, S1.nx⟩
theorem call_backL (h : MRel B S G) {inn : List (Nat × K2)} (hin : LendOk inn S.M) {Gc G1 : Gh} {S1 : St} (hcw : Gc.w = G.w) (hcI : Gc.I = G.I) (hcκ : ∀ o, Gc.κ (.h o) = G.κ (.h o)) (hcl : ∀ x c r, Gc.κ (.l x c) = some r → c = 1 ∧ ∃ k, (x, k) ∈ inn ∧ G.κ (.l k.1 k.2) = some r) (hcf : ∀ x k, (x, k) ∈ inn → Gc.κ (.l x 1) = G.κ (.l k.1 k.2))
    (h1 : MRel (gBase Gc S.nx) S1 G1) {out : List (K2 × K2)} {bs : List Nat} (ho : OutOk inn out bs S.cnt S1) :
    ∃ G', G'.w = G1.w ∧ MRel B (S.backL inn out bs S1) G' ∧ LE G G' ∧ ∀ u v, VR G1 u v → VR G' (reA (fun d c => lkE out (d, c)) u) v := by
  let S' := S.backL inn out bs S1
  let κ' : Key → Option (Nat × Nat) := fun k => match k with
    | .h o => G1.κ (.h o)
    | .l d c => match lkZ out (d, c) with
      | some q => G1.κ (.l q.1 q.2)
      | none => match lkZ inn (d, c) with
        | some _ => none
        | none => G.κ (.l d c)
  let G' : Gh := ⟨κ', deadOf S', G1.I, G1.w⟩
  have hBw : (gBase Gc S.nx).w = G.w := hcw
  have hsz : G.w.heap.size ≤ G1.w.heap.size := by rw [← hBw]; exact h1.size
  -- a block that the callee knew
  have hknew : ∀ k r, (gBase Gc S.nx).κ k = some r → (∃ o, k = .h o ∧ G.κ (.h o) = some r) ∨ ∃ x q, k = .l x 1 ∧ (x, q) ∈ inn ∧ G.κ (.l q.1 q.2) = some r := by
    intro k r hk
    cases k with
    | h o => rw [show (gBase Gc S.nx).κ (.h o) = Gc.κ (.h o) from rfl, hcκ] at hk; exact .inl ⟨o, rfl, hk⟩
    | l x c => obtain ⟨rfl, q, h2, h3⟩ := hcl x c r hk; exact .inr ⟨x, q, rfl, h2, h3⟩
  have hknG : ∀ k r, (gBase Gc S.nx).κ k = some r → ∃ k', G.κ k' = some r ∧ ((∃ o, k' = .h o) ∨ ∃ x q, k' = .l q.1 q.2 ∧ (x, q) ∈ inn) := by
    intro k r hk
    rcases hknew k r hk with ⟨o, _, h2⟩ | ⟨x, q, _, h2, h3⟩
    · exact ⟨_, h2, .inl ⟨o, rfl⟩⟩
    · exact ⟨_, h3, .inr ⟨x, q, rfl, h2⟩⟩
  have hinS : ∀ x q, (x, q) ∈ inn → lkZ inn q = some x := fun x q hq => lkZ_of hin.n2 hq
  -- a place that was not lent
  have hown : ∀ d c r, G.κ (.l d c) = some r → lkZ inn (d, c) = none → ∀ k r', (gBase Gc S.nx).κ k = some r' → r'.1 ≠ r.1 := by
    intro d c r hr hn k r' hk e
    obtain ⟨k', h2, ⟨o, rfl⟩ | ⟨x, q, rfl, h3⟩⟩ := hknG k r' hk
    · have := h.inj _ _ _ _ h2 hr e; cases this
    · have := h.inj _ _ _ _ h2 hr e
      simp only [Key.l.injEq] at this
      have e1 : q = (d, c) := Prod.ext this.1 this.2
      subst e1
      rw [hinS x _ h3] at hn; cases hn
  have hsame : ∀ d c r, G.κ (.l d c) = some r → lkZ inn (d, c) = none → G1.w.heap[r.1]? = G.w.heap[r.1]? := by
    intro d c r hr hn
    have := h1.same r.1 (by rw [hBw]; exact (h.apart _ r hr).2) (hown d c r hr hn)
    rw [hBw] at this; exact this
  have hIne : ∀ b, G.I b → ∀ k r', (gBase Gc S.nx).κ k = some r' → r'.1 ≠ b := by
    intro b hb k r' hk e
    obtain ⟨k', h2, _⟩ := hknG k r' hk
    exact (h.apart _ _ h2).1 (e ▸ hb)
  have hIsame : ∀ b, G.I b → G1.w.heap[b]? = G.w.heap[b]? := by
    intro b hb
    have := h1.same b (by rw [hBw]; exact h.lt b hb) (hIne b hb)
    rw [hBw] at this; exact this
  have hII : ∀ b, G.I b → G1.I b := fun b hb => h1.I0 b (by show Gc.I b; rw [hcI]; exact hb)
  have hdh : ∀ o, G1.dead (.h o) ↔ G'.dead (.h o) := fun o => by rw [h1.dead]; exact Iff.rfl
  -- where a place stands now
  have hκ3 : ∀ d c r, κ' (.l d c) = some r → (∃ q, (q, (d, c)) ∈ out ∧ G1.κ (.l q.1 q.2) = some r) ∨ (lkZ out (d, c) = none ∧ lkZ inn (d, c) = none ∧ G.κ (.l d c) = some r) := by
    intro d c r hr
    have hr' : (match lkZ out (d, c) with | some q => G1.κ (.l q.1 q.2) | none => match lkZ inn (d, c) with | some _ => none | none => G.κ (.l d c)) = some r := hr
    split at hr'
    · rename_i q hq; exact .inl ⟨q, lkZ_in hq, hr'⟩
    · rename_i hq
      split at hr'
      · cases hr'
      · rename_i hi; exact .inr ⟨hq, hi, hr'⟩
  have hold : ∀ k, keyOld S k → keyOld S' k := by
    intro k hk
    cases k with
    | h o => exact Nat.lt_of_lt_of_le hk h1.nx
    | l d c =>
      refine ⟨hk.1, Nat.le_trans hk.2 ?_⟩
      show S.cnt d ≤ cntB bs S.cnt d
      unfold cntB; split <;> omega
  -- an entry of 'out': the place was lent, or it is new
  have hto : ∀ q d c, (q, (d, c)) ∈ out → (q.2 = 1 ∧ (q.1, (d, c)) ∈ inn ∧ ∃ b, S.M (.l d c) = some b) ∨ (d ∈ bs ∧ c = S.cnt d + 1) := by
    intro q d c hq
    rcases ho.goes _ hq with ⟨e1, e2⟩ | e
    · obtain ⟨_, b, hb, _⟩ := hin.ok _ e2
      exact .inl ⟨e1, e2, b, hb⟩
    · exact .inr e
  have hle : LE G G' := by
    refine ⟨?_, ?_, hII, hIsame, fun b ds hb => ⟨?_, fun hI => ?_⟩⟩
    rotate_left 2
    · have := h1.same b (by rw [hBw]; exact (Array.getElem?_eq_some_iff.1 hb).1) (fun k r hk e => by obtain ⟨k', h2, _⟩ := hknG k r hk; exact h.notDfr h2 ds (e ▸ hb))
      rw [hBw] at this; exact this
    · rcases h1.I1 b hI with hq | hq | ⟨k, r', e1, e2⟩
      · have hq' : Gc.I b := hq
        rw [hcI] at hq'; exact hq'
      · rw [hBw] at hq; have := (Array.getElem?_eq_some_iff.1 hb).1; omega
      · obtain ⟨k', h2, _⟩ := hknG k r' e1; exact absurd (e2 ▸ hb) (h.notDfr h2 ds)
    · intro k r hr
      cases k with
      | l d c =>
        obtain ⟨b, hb, _⟩ := h.Msome hr
        cases hq : lkZ out (d, c) with
        | some q =>
          have hm := lkZ_in hq
          rcases hto q d c hm with ⟨e1, e2, _⟩ | ⟨e1, e2⟩
          · obtain ⟨q1, q2⟩ := q
            simp only at e1 e2; subst e1
            rcases h1.keep (.l q1 1) r (by show Gc.κ (.l q1 1) = some r; rw [hcf _ _ e2]; exact hr) with hk | hk
            · left; show (match lkZ out (d, c) with | some q => G1.κ (.l q.1 q.2) | none => match lkZ inn (d, c) with | some _ => none | none => G.κ (.l d c)) = _; rw [hq]; exact hk
            · obtain ⟨b1, hb1, _⟩ := ho.live _ hm
              have := ((h1.dead _).1 hk).1
              rw [show S1.M (.l q1 1) = some b1 from hb1] at this; cases this
          · have := (h.live _ _ hb).2
            subst e2; omega
        | none =>
          cases hi : lkZ inn (d, c) with
          | none => left; show (match lkZ out (d, c) with | some q => G1.κ (.l q.1 q.2) | none => match lkZ inn (d, c) with | some _ => none | none => G.κ (.l d c)) = _; rw [hq, hi]; exact hr
          | some x =>
            right
            refine ⟨?_, hold _ (h.live _ _ hb)⟩
            show (match lkZ out (d, c) with | some q => _ | none => match lkZ inn (d, c) with | some _ => none | none => S.M (.l d c)) = _
            rw [hq, hi]
      | h o =>
        rcases h1.keep (.h o) r (by show Gc.κ (.h o) = some r; rw [hcκ]; exact hr) with hq | hq
        · exact .inl hq
        · exact .inr ((hdh o).1 hq)
    · intro k hd
      obtain ⟨p, q⟩ := (h.dead _).1 hd
      refine ⟨?_, hold _ q⟩
      cases k with
      | l d c =>
        show (match lkZ out (d, c) with | some q => _ | none => match lkZ inn (d, c) with | some _ => none | none => S.M (.l d c)) = _
        cases hq : lkZ out (d, c) with
        | some q' =>
          rcases hto q' d c (lkZ_in hq) with ⟨_, _, b, hb⟩ | ⟨_, e2⟩
          · rw [hb] at p; cases p
          · have : c ≤ S.cnt d := q.2
            omega
        | none =>
          cases hi : lkZ inn (d, c) with
          | none => exact p
          | some x => rfl
      | h o =>
        have hn : G1.κ (.h o) = none := h1.gone o q (by show Gc.κ (.h o) = none; rw [hcκ]; exact h.κnone p)
        show S1.M (.h o) = none
        cases hq : S1.M (.h o) with
        | none => rfl
        | some b => obtain ⟨r, hr, _⟩ := h1.κsome hq; rw [hn] at hr; cases hr
  have hgo : ∀ u v, VR G1 u v → VR G' (reA (fun d c => lkE out (d, c)) u) v := by
    intro u v hv
    refine VR.re (G := G1) (G' := G') (fun _ _ q => q) (fun o => (hdh o).1) (fun _ q => q) rfl (fun d c k hk => ?_) hv
    have hm := lkE_in hk
    refine ⟨fun r hr => ?_, fun hq => ?_⟩
    · show (match lkZ out (k.1, k.2) with | some q => G1.κ (.l q.1 q.2) | none => _) = _
      rw [lkZ_of ho.n2 hm]; exact hr
    · obtain ⟨b, hb, _⟩ := ho.live _ hm
      have := ((h1.dead _).1 hq).1
      rw [show S1.M (.l d c) = some b from hb] at this; cases this
  have hnoh : ∀ {u : AV} {v : Value}, VR G1 u v → u.noL = true → VR G' u v := VR.noL (G := G1) (G' := G') (fun _ _ q => q) (fun o => (hdh o).1) (fun _ q => q) rfl
  -- a block of the callee's is none of the caller's own
  have hnew : ∀ k r, G1.κ k = some r → ∀ d c r', G.κ (.l d c) = some r' → lkZ inn (d, c) = none → r'.1 ≠ r.1 := by
    intro k r hr d c r' hr' hn e
    have : G.w.heap.size ≤ r.1 ∨ ∃ k r', (gBase Gc S.nx).κ k = some r' ∧ r'.1 = r.1 := by
      cases k with
      | h o => rcases h1.heap o r hr with q | q; exact .inl (by rw [← hBw]; exact q); exact .inr q
      | l d c => rcases h1.loc d c r hr with q | q; exact .inl (by rw [← hBw]; exact q); exact .inr q
    rcases this with q | ⟨k0, r0, e1, e2⟩
    · have := (h.apart _ _ hr').2; omega
    · exact hown d c r' hr' hn k0 r0 e1 (e2.trans e.symm)
  have horg : ∀ k r, G.κ k = some r → B.w.heap.size ≤ r.1 ∨ ∃ k r', B.κ k = some r' ∧ r'.1 = r.1 := by
    intro k r hr
    cases k with
    | h o => exact h.heap o r hr
    | l d c => exact h.loc d c r hr
  have horg1 : ∀ k r, G1.κ k = some r → B.w.heap.size ≤ r.1 ∨ ∃ k r', B.κ k = some r' ∧ r'.1 = r.1 := by
    intro k r hr
    have : G.w.heap.size ≤ r.1 ∨ ∃ k r', (gBase Gc S.nx).κ k = some r' ∧ r'.1 = r.1 := by
      cases k with
      | h o => rcases h1.heap o r hr with q | q; exact .inl (by rw [← hBw]; exact q); exact .inr q
      | l d c => rcases h1.loc d c r hr with q | q; exact .inl (by rw [← hBw]; exact q); exact .inr q
    rcases this with q | ⟨k0, r0, e1, e2⟩
    · exact .inl (Nat.le_trans h.size q)
    · obtain ⟨k', h2, _⟩ := hknG k0 r0 e1
      rw [← e2]; exact horg k' r0 h2
  refine ⟨G', rfl, ⟨?_, ?_, fun k => Iff.rfl, ?_, ?_, h1.lt, ?_, ?_, ?_, Nat.le_trans h.nx h1.nx, ?_, fun b hb => hII b (h.I0 b hb), ?_, ?_, ?_, ?_, Nat.le_trans h.size hsz, ?_, ?_⟩, hle, hgo⟩
  · intro k
    cases k with
    | l d c =>
      show BlkOpt G' (match lkZ out (d, c) with | some q => (S1.M (.l q.1 q.2)).map (Blk.re fun d c => lkE out (d, c)) | none => match lkZ inn (d, c) with | some _ => none | none => S.M (.l d c)) (match lkZ out (d, c) with | some q => G1.κ (.l q.1 q.2) | none => match lkZ inn (d, c) with | some _ => none | none => G.κ (.l d c))
      cases hq : lkZ out (d, c) with
      | some q =>
        obtain ⟨b, hb, hz⟩ := ho.live _ (lkZ_in hq)
        have hb' : S1.M (.l q.1 q.2) = some b := hb
        obtain ⟨r, hr, cur, c1, c2, c3, c4, c5, c6, c7⟩ := h1.κcell hb' hz
        simp only
        rw [hb', hr]
        refine (BlkOpt.cell (show (b.re fun d c => lkE out (d, c)).sz ≠ 0 from hz)).2 ⟨cur, c1, c2, c3, c4, by show (reAs _ _).length ≤ _; rw [reAs_len]; exact c5, fun j u y p q => ?_, fun j y p q => c7 j y (by rw [← reAs_len (fun d c => lkE out (d, c))]; exact p) q⟩
        obtain ⟨w, e1, rfl⟩ := reAs_at p
        exact hgo _ _ (c6 j w y e1 q)
      | none =>
        cases hi : lkZ inn (d, c) with
        | some x => trivial
        | none => exact (h.blk (.l d c)).le hle fun q hq => hsame d c q hq hi
    | h o =>
      have := h1.blk (.h o)
      have hn := h1.hno (.h o)
      show BlkOpt G' (S1.M (.h o)) (G1.κ (.h o))
      revert this hn
      cases S1.M (.h o) with
      | none => cases G1.κ (.h o) <;> exact fun x _ => x
      | some b => cases G1.κ (.h o) with
        | none => exact fun x _ => x
        | some r =>
          intro this hn
          by_cases hz : b.sz = 0
          · obtain ⟨q, j, fr, c1, c2, c3, c4, c5⟩ := (BlkOpt.loop hz).1 this
            have hnf : noLs fr = true := by have := hn b rfl; simp only [hOk, c1, noLs, Bool.and_eq_true] at this; exact this.2
            exact (BlkOpt.loop hz).2 ⟨q, j, fr, c1, c2, c3, c4, fun t u x p q => hnoh (c5 t u x p q) (noLs_at hnf t u p)⟩
          obtain ⟨cur, c1, c2, c3, c4, c5, c6, c7⟩ := (BlkOpt.cell hz).1 this
          exact (BlkOpt.cell hz).2 ⟨cur, c1, c2, c3, c4, c5, fun j u x p q => hnoh (c6 j u x p q) (noLs_at (hn b rfl) j u p), c7⟩
  · intro k k' r r' hr hr' e
    cases k with
    | h o => cases k' with
      | h o' => exact h1.inj _ _ r r' hr hr' e
      | l d c =>
        rcases hκ3 d c r' hr' with ⟨q, q1, q2⟩ | ⟨_, q1, q2⟩
        · have := h1.inj _ _ r r' hr q2 e; cases this
        · exact absurd e.symm (hnew _ r hr d c r' q2 q1)
    | l d c =>
      rcases hκ3 d c r hr with ⟨q, q1, q2⟩ | ⟨_, q1, q2⟩
      · cases k' with
        | h o' => have := h1.inj _ _ r r' q2 hr' e; cases this
        | l d' c' =>
          rcases hκ3 d' c' r' hr' with ⟨p, p1, p2⟩ | ⟨_, p1, p2⟩
          · have := h1.inj _ _ r r' q2 p2 e
            simp only [Key.l.injEq] at this
            have e1 : q = p := Prod.ext this.1 this.2
            subst e1
            have := (lkE_of ho.n1 q1).symm.trans (lkE_of ho.n1 p1)
            cases this; rfl
          · exact absurd e.symm (hnew _ r q2 d' c' r' p2 p1)
      · cases k' with
        | h o' => exact absurd e (hnew _ r' hr' d c r q2 q1)
        | l d' c' =>
          rcases hκ3 d' c' r' hr' with ⟨p, p1, p2⟩ | ⟨_, p1, p2⟩
          · exact absurd e (hnew _ r' p2 d c r q2 q1)
          · exact h.inj _ _ r r' q2 p2 e
  · intro k b hb
    cases k with
    | h o => exact h1.live (.h o) b hb
    | l d c =>
      have hb' : (match lkZ out (d, c) with | some q => (S1.M (.l q.1 q.2)).map (Blk.re fun d c => lkE out (d, c)) | none => match lkZ inn (d, c) with | some _ => none | none => S.M (.l d c)) = some b := hb
      split at hb'
      · rename_i q hq
        rcases hto q d c (lkZ_in hq) with ⟨_, _, b0, hb0⟩ | ⟨e1, e2⟩
        · exact hold _ (h.live _ _ hb0)
        · refine ⟨by omega, ?_⟩
          show c ≤ cntB bs S.cnt d
          unfold cntB; rw [if_pos e1]; omega
      · split at hb'
        · cases hb'
        · exact hold _ (h.live _ _ hb')
  · intro k r hr
    cases k with
    | h o => exact h1.apart (.h o) r hr
    | l d c =>
      rcases hκ3 d c r hr with ⟨q, q1, q2⟩ | ⟨_, q1, q2⟩
      · exact h1.apart _ r q2
      · refine ⟨fun hI => ?_, Nat.lt_of_lt_of_le (h.apart _ r q2).2 hsz⟩
        rcases h1.I1 r.1 hI with hq | hq | ⟨k, r', e1, e2⟩
        · have hq' : Gc.I r.1 := hq
          rw [hcI] at hq'; exact (h.apart _ r q2).1 hq'
        · rw [hBw] at hq; have := (h.apart _ r q2).2; omega
        · exact hown d c r q2 q1 k r' e1 e2
  · intro d c r hr
    rcases hκ3 d c r hr with ⟨q, q1, q2⟩ | ⟨_, q1, q2⟩
    · exact horg1 _ r q2
    · exact horg _ r q2
  · intro k r hr
    rcases h.keep k r hr with hq | hq
    · exact hle.κ k r hq
    · exact .inr (hle.dead k hq)
  · exact fun o r hr => horg1 _ r hr
  · intro o ho' hb
    have hn := h.gone o ho' hb
    exact h1.gone o (Nat.lt_of_lt_of_le ho' h.nx) (by show Gc.κ (.h o) = none; rw [hcκ]; exact hn)
  · intro b hb
    rcases h1.I1 b hb with hq | hq | ⟨k, r', e1, e2⟩
    · have hq' : Gc.I b := hq
      rw [hcI] at hq'; exact h.I1 b hq'
    · rw [hBw] at hq; exact .inr (.inl (Nat.le_trans h.size hq))
    · obtain ⟨k', h2, _⟩ := hknG k r' e1
      rw [← e2]
      rcases horg k' r' h2 with hq | hq
      · exact .inr (.inl hq)
      · exact .inr (.inr hq)
  · exact (h1.os.trans (by rw [hBw])).trans h.os
  · exact (h1.tape.trans (by rw [hBw])).trans h.tape
  · exact (h1.output.trans (by rw [hBw])).trans h.output
  · intro b hb hq
    have := h1.same b (by rw [hBw]; exact Nat.lt_of_lt_of_le hb h.size) (fun k r' hk e => by
      obtain ⟨k', h2, _⟩ := hknG k r' hk
      rcases horg k' r' h2 with hh | ⟨k2, r2, p1, p2⟩
      · omega
      · exact hq k2 r2 p1 (p2.trans e))
    rw [hBw] at this; exact this.trans (h.same b hb hq)
  · intro k b hb
    cases k with
    | l d c => rfl
    | h o => exact h1.hno (.h o) b hb
end
section
variable {P : Program} {B : Base} [GB P B] {N : Nat} {S : St} {a : Act} {G : Gh}
/-- who is called: a function, the yield of a range over a function -/
inductive Cal where
  | f (f : FuncId)
  | e (f : FuncId)
  | y (o : Nat)

/-- a round of a range over a function -/
def RoundW (P : Program) (l : Nat) (vs : Array Value) (w : World) (R : Ending → World → Prop) : Prop :=
  ∃ fn tmps asg body, (Instr.yield l vs).run P w = .ok (.round l fn tmps asg body) w ∧ RoundIn Fence.wide 0 P l fn tmps asg body w R
theorem RoundW.mono {l : Nat} {vs : Array Value} {w : World} {R R' : Ending → World → Prop} (h : RoundW P l vs w R) (hr : ∀ e w', R e w' → R' e w') : RoundW P l vs w R' := by
  obtain ⟨fn, tmps, asg, body, h1, h2⟩ := h
  exact ⟨fn, tmps, asg, body, h1, h2.mono hr⟩

/-- what a yield does -/
def ContractY (P : Program) (o : Nat) (args : List AV) (H : Hp) (n : Nat) (Post : AV → Hp → Nat → Prop) : Prop :=
  (H o).isSome = true ∧ ∀ (G : Gh) (vs : Array Value) (l cap : Nat), GOK P G.w G.I → MRel (gBase G n) (hSt H n) G → VRs G args vs.toList → G.κ (.h o) = some (l, cap) →
    RoundW P l vs G.w fun e w' => ∃ v av H' n' G', e = .returned v ∧ Post av H' n' ∧ MRel (gBase G n) (hSt H' n') G' ∧ G'.w = w' ∧ VR G' av v ∧ av.noL = true
theorem ContractY.mono {o : Nat} {args : List AV} {H : Hp} {n : Nat} {Post Post' : AV → Hp → Nat → Prop} (h : ContractY P o args H n Post) (hp : ∀ av H' n', Post av H' n' → Post' av H' n') : ContractY P o args H n Post' :=
  ⟨h.1, fun G vs l cap hg hM hV hk => (h.2 G vs l cap hg hM hV hk).mono fun _ _ ⟨v, av, H', n', G', a1, a2, a3⟩ => ⟨v, av, H', n', G', a1, hp _ _ _ a2, a3⟩⟩
def CContract (P : Program) (c : Cal) (args : List AV) (H : Hp) (n : Nat) (Post : AV → Hp → Nat → Prop) : Prop := match c with
  | .f f => Contract P f args H n Post
  | .e f => (∀ vs w, (callFunc f vs).run P w = .ok (.enter f vs) w) ∧ Contract P f args H n Post
  | .y o => ContractY P o args H n Post
theorem CContract.mono {c : Cal} {args : List AV} {H : Hp} {n : Nat} {Post Post' : AV → Hp → Nat → Prop} (h : CContract P c args H n Post) (hp : ∀ av H' n', Post av H' n' → Post' av H' n') : CContract P c args H n Post' := by
  cases c with
  | f f => exact Contract.mono h hp
  | e f => exact ⟨h.1, Contract.mono h.2 hp⟩
  | y o => exact ContractY.mono h hp

/-- a call -/
def CallsO (P : Program) (c : Cal) (args : List AV) (S : St) (K : AV → St → Prop) : Prop :=
  let p := pubL args S
  noLs p.1 = true ∧ CContract P c p.1 p.2.hp p.2.nx fun av H' n' => K av (p.2.withH H' n')
/-- a call that is lent rows -/
def CallsB (P : Program) (c : Cal) (args : List AV) (S : St) (K : AV → St → Prop) : Prop :=
  ∃ f v, c = .f f ∧ noLs (args.map (vwV S.M)) = true ∧ Pure P f (args.map (vwV S.M)) v ∧ v.flat = true ∧ K v S
/-- a call that is lent places -/
def CallsL (P : Program) (c : Cal) (args : List AV) (S : St) (K : AV → St → Prop) : Prop :=
  ∃ f inn, c = .f f ∧ LendOk inn S.M ∧ LContract P f (args.map (reA (finL inn))) (memL inn S.M) S.hp S.nx fun av S1 => ∃ out bs, OutOk inn out bs S.cnt S1 ∧ K (reA (fun d c => lkE out (d, c)) av) (S.backL inn out bs S1)
def CallsA (P : Program) (c : Cal) (args : List AV) (S : St) (K : AV → St → Prop) : Prop := CallsO P c args S K ∨ CallsB P c args S K ∨ CallsL P c args S K

theorem calls_ok (h : Rel B N S a G) {f : FuncId} {args : List AV} {vs : Array Value} {K : AV → St → Prop} (hv : VRs G args vs.toList) (hc : CallsA P (.f f) args S K) :
    CallW P f vs G.w fun e w' => ∃ v av S' G', e = .returned v ∧ K av S' ∧ Rel B N S' a G' ∧ G'.w = w' ∧ VR G' av v ∧ LE G G' := by
  rcases hc with hc | ⟨f', v, hf', hn, hF, hfl, hK⟩ | ⟨f', inn, hf', hin, hc⟩
  case inr.inr =>
    cases hf'
    obtain ⟨Gc, b1, b2, b3, b4, b5, b6, b7⟩ := call_inL h.toMRel hin
    have := hc Gc vs (h.toMRel.gok.mono (fun b hb => by rw [b2]; exact hb) fun b o _ e => by rw [b1]; exact e) b6 ⟨by rw [List.length_map]; exact hv.1, fun j u x p q => by
      rw [List.getElem?_map] at p
      obtain ⟨w, h2, rfl⟩ := Option.map_eq_some_iff.1 p
      exact b7 _ _ (hv.2 j w x h2 q)⟩
    rw [b1] at this
    refine this.mono ?_
    rintro e w' ⟨v, av, S1, G1, rfl, ⟨out, bs, ho, hK⟩, hM, hw, hvr⟩
    obtain ⟨G', c1, c2, c3, c4⟩ := call_backL h.toMRel hin b1 b2 b3 b4 b5 hM ho
    exact ⟨v, _, _, G', rfl, hK, h.lift c2 c3 rfl, c1.trans hw, c4 _ _ hvr, c3⟩
  case inr.inl =>
    cases hf'
    have hvl : VRs G.lend (args.map (vwV S.M)) vs.toList := ⟨by rw [List.length_map]; exact hv.1, fun j u x p q => by
      rw [List.getElem?_map] at p
      obtain ⟨w, h2, rfl⟩ := Option.map_eq_some_iff.1 p
      exact vwV_ok h.toMRel (hv.2 j w x h2 q)⟩
    refine (call_lent h.toMRel hvl hn hF hfl).mono ?_
    rintro e w' ⟨x, rfl, hx, k1, k2, k3, k4, k5⟩
    obtain ⟨G', g1, g2, g3⟩ := h.toMRel.grow k1 k2 k3 k4 k5
    exact ⟨x, v, S, G', rfl, hK, h.lift g1 g2 rfl, g3, hx G', g2⟩
  obtain ⟨hn, hc⟩ := hc
  obtain ⟨G1, a1, a2, a3, a4, a5⟩ := pubL_ok args vs.toList S G h.toMRel hv
  obtain ⟨Gc, b1, b2, b3, b4, b5, b6⟩ := call_in a1
  have hvc : VRs Gc (pubL args S).1 vs.toList := ⟨a4.1, fun j u x p q => VR.noL (G := G1) (G' := Gc) (fun o r hr => by rw [b3]; exact hr) b5 (fun b hb => by rw [b2]; exact hb) b1 (a4.2 j u x p q) (noLs_at hn j u p)⟩
  have := hc Gc vs (a1.gok.mono (fun b hb => by rw [b2]; exact hb) fun b o _ e => by rw [b1]; exact e) b6 hvc
  rw [b1, a3] at this
  refine this.mono ?_
  rintro e w' ⟨v, av, H', n', G2, rfl, hp, hM, hw, hvr, hav⟩
  obtain ⟨G', c1, c2, c3, c4, c5, c6⟩ := call_back a1 b1 b2 b3 b4 hM
  refine ⟨v, av, _, G', rfl, hp, ?_, c1.trans hw, VR.noL (G := G2) (G' := G') c4 c5 c6 c1 hvr hav, a2.trans c3⟩
  exact h.lift c2 (a2.trans c3) (by show (pubL args S).2.fr = S.fr; exact a5)

theorem calls_okY (h : Rel B N S a G) {o l cap : Nat} {args : List AV} {vs : Array Value} {K : AV → St → Prop} (hv : VRs G args vs.toList) (hc : CallsA P (.y o) args S K) (hk : G.κ (.h o) = some (l, cap)) :
    RoundW P l vs G.w fun e w' => ∃ v av S' G', e = .returned v ∧ K av S' ∧ Rel B N S' a G' ∧ G'.w = w' ∧ VR G' av v := by
  rcases hc with hc | ⟨f', v, hf', hn, hF, hfl, hK⟩ | ⟨f', inn, hf', hin, hc⟩
  case inr.inl => cases hf'
  case inr.inr => cases hf'
  obtain ⟨hn, hs, hc⟩ := hc
  obtain ⟨G1, a1, a2, a3, a4, a5⟩ := pubL_ok args vs.toList S G h.toMRel hv
  obtain ⟨Gc, b1, b2, b3, b4, b5, b6⟩ := call_in a1
  have hk1 : G1.κ (.h o) = some (l, cap) := by
    rcases a2.κ (.h o) _ hk with hq | hq
    · exact hq
    · have := (a1.dead _).1 hq
      have hs' : ((pubL args S).2.M (.h o)).isSome = true := hs
      rw [this.1] at hs'; cases hs'
  have hvc : VRs Gc (pubL args S).1 vs.toList := ⟨a4.1, fun j u x p q => VR.noL (G := G1) (G' := Gc) (fun o r hr => by rw [b3]; exact hr) b5 (fun b hb => by rw [b2]; exact hb) b1 (a4.2 j u x p q) (noLs_at hn j u p)⟩
  have := hc Gc vs l cap (a1.gok.mono (fun b hb => by rw [b2]; exact hb) fun b o _ e => by rw [b1]; exact e) b6 hvc (by rw [b3]; exact hk1)
  rw [b1, a3] at this
  refine this.mono ?_
  rintro e w' ⟨v, av, H', n', G2, rfl, hp, hM, hw, hvr, hav⟩
  obtain ⟨G', c1, c2, c3, c4, c5, c6⟩ := call_back a1 b1 b2 b3 b4 hM
  refine ⟨v, av, _, G', rfl, hp, ?_, c1.trans hw, VR.noL (G := G2) (G' := G') c4 c5 c6 c1 hvr hav⟩
  exact h.lift c2 (a2.trans c3) (by show (pubL args S).2.fr = S.fr; exact a5)
end
end Go.AV

