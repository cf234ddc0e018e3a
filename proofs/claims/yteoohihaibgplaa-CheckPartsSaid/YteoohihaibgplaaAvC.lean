/-
  Calls: what is handed over must not lead into the caller's own places ('noL'); a row of the caller's own is handed over for good ('pub'); contracts.
-/
import Derived.Test.YteoohihaibgplaaAvA
namespace Go.AV
open Go.RowKit Go.RG Go.Lib

/-- what is told in one ghost is told in another that knows the same objects -/
theorem VR.noL {G G' : Gh} (hκ : ∀ o r, G.κ (.h o) = some r → G'.κ (.h o) = some r) (hd : ∀ o, G.dead (.h o) → G'.dead (.h o)) (hI : ∀ b, G.I b → G'.I b) (hw : G'.w = G.w) : ∀ {u : AV} {v : Value}, VR G u v → u.noL = true → VR G' u v := by
  intro u v h
  induction h with
  | bl b => exact fun _ => .bl b
  | it k n => exact fun _ => .it k n
  | st l s h => exact fun _ => .st l s h
  | agg cs vs hl h h1 ih => intro hn; simp only [AV.noL] at hn; exact .agg cs vs hl (fun j u x a b => ih j u x a b (noLs_at hn j u a)) h1
  | tup cs vs hl h ih => intro hn; simp only [AV.noL] at hn; exact .tup cs vs hl (fun j u x a b => ih j u x a b (noLs_at hn j u a))
  | nsl z n xs hn hx => exact fun _ => .nsl z n xs hn hx
  | esl n xs hn hx a cap => exact fun _ => .esl n xs hn hx a cap
  | sl n xs b off cap f hIb hc h h1 hn hm hq ih => intro _; exact .sl n xs b off cap f (hI b hIb) (fun j u a => by rw [hw]; exact hc j u a) (fun j u a => ih j u a (noLs_at hq j u a)) h1 hn hm hq
  | gs k n b cap hk => cases k with
    | l d c => intro hn; simp [AV.noL] at hn
    | h o => exact fun _ => .gs _ n b cap (hκ o _ hk)
  | gsd k n v hk h1 => cases k with
    | l d c => intro hn; simp [AV.noL] at hn
    | h o => exact fun _ => .gsd _ n v (hd o hk) h1
  | nptr => exact fun _ => .nptr
  | pt k off b cap hk => cases k with
    | l d c => intro hn; simp [AV.noL] at hn
    | h o => exact fun _ => .pt _ off b cap (hκ o _ hk)
  | ptd k off v hk h1 => cases k with
    | l d c => intro hn; simp [AV.noL] at hn
    | h o => exact fun _ => .ptd _ off v (hd o hk) h1
  | ep xs off b base f hIb hc h h1 hq ih => intro _; exact .ep xs off b base f (hI b hIb) (fun j u a => by rw [hw]; exact hc j u a) (fun j u a => ih j u a (noLs_at hq j u a)) h1 hq
  | fn f a c va vc ha hc h h' ih ih' => intro hn; simp only [AV.noL, Bool.and_eq_true] at hn; exact .fn f a c va vc ha hc (fun j u x p q => ih j u x p q (noLs_at hn.1 j u p)) (fun j u x p q => ih' j u x p q (noLs_at hn.2 j u p))
  | nfn => exact fun _ => .nfn
  | yld o l cap hk => exact fun _ => .yld o l cap (hκ o _ hk)
  | yldd o v hk h1 => exact fun _ => .yldd o v (hd o hk) h1
  | un v => exact fun _ => .un v

/-! ### a row is handed over for good -/
def pub1 (v : AV) (S : St) : AV × St :=
  match v with
  | .gs (.l d c) n => match S.M (.l d c) with
    | some b => if b.cells.length = n * b.sz ∧ b.sz ≠ 0 ∧ noLs b.cells = true then (.sl false n b.cells, S.kill (.l d c)) else (v, S)
    | none => (v, S)
  | v => (v, S)
def pubs (l : List AV) (S : St) : List AV × St :=
  match l with
  | [] => ([], S)
  | u :: r => let p := pub1 u S; let q := pubs r p.2; (p.1 :: q.1, q.2)
def pubV (v : AV) (S : St) : AV × St :=
  if v.noL then (v, S) else
  match v with
  | .agg cs => let p := pubs cs S; (.agg p.1, p.2)
  | v => pub1 v S
def pubL (l : List AV) (S : St) : List AV × St :=
  match l with
  | [] => ([], S)
  | u :: r => let p := pubV u S; let q := pubL r p.2; (p.1 :: q.1, q.2)
def pubR (v : AV) (S : St) : AV × St :=
  match v with
  | .tup vs => let p := pubL vs S; (.tup p.1, p.2)
  | v => pubV v S

section
variable {P : Program} {B : Base} {N : Nat} {S : St} {a : Act} {G : Gh}

def VRs (G : Gh) (us : List AV) (vs : List Value) : Prop := vs.length = us.length ∧ ∀ (j : Nat) (u : AV) (x : Value), us[j]? = some u → vs[j]? = some x → VR G u x

theorem VRs.le {G' : Gh} (hle : LE G G') {us : List AV} {vs : List Value} (h : VRs G us vs) : VRs G' us vs := ⟨h.1, fun j u x p q => (h.2 j u x p q).le hle⟩
theorem VRs.cons {u : AV} {v : Value} {us : List AV} {vs : List Value} (h : VR G u v) (k : VRs G us vs) : VRs G (u :: us) (v :: vs) := by
  refine ⟨by simp [k.1], fun j u' x p q => ?_⟩
  cases j with
  | zero => simp at p q; subst p; subst q; exact h
  | succ j => exact k.2 j u' x (by simpa using p) (by simpa using q)
theorem VRs.head {u : AV} {v : Value} {us : List AV} {vs : List Value} (h : VRs G (u :: us) (v :: vs)) : VR G u v := h.2 0 u v rfl rfl
theorem VRs.tail {u : AV} {v : Value} {us : List AV} {vs : List Value} (h : VRs G (u :: us) (v :: vs)) : VRs G us vs := ⟨by simpa using h.1, fun j u' x p q => h.2 (j + 1) u' x (by simpa using p) (by simpa using q)⟩

theorem pub1_ok (h : MRel B S G) {u : AV} {v : Value} (hv : VR G u v) : ∃ G', MRel B (pub1 u S).2 G' ∧ LE G G' ∧ G'.w = G.w ∧ VR G' (pub1 u S).1 v ∧ (pub1 u S).2.fr = S.fr := by
  unfold pub1
  split
  · rename_i d c n
    split
    · rename_i b hm
      split
      · rename_i hl
        obtain ⟨hl, hz, hqn⟩ := hl
        obtain ⟨g, cap, hk, e⟩ := hv.gs_inv h (by simp [liveB, hm])
        obtain ⟨r, hr, hb⟩ := h.κcell hm hz
        rw [hk] at hr; cases hr
        obtain ⟨G', e1, e2, e3, e4, e5⟩ := h.kill true (S' := S.kill (.l d c)) hk rfl
        refine ⟨G', e4, e5, e1, ?_, rfl⟩
        obtain ⟨cur, c1, c2, c3, c4, c5, c6, c7⟩ := hb
        have hnc : n ≤ cap := by
          have : n * b.sz ≤ cap * b.sz := by rw [← hl, ← c2]; exact c5
          exact Nat.le_of_mul_le_mul_right this c4
        rw [e]
        have hcell : ∀ (j : Nat) (u : AV), b.cells[j]? = some u → ∃ x, cur[j]? = some x := by
          intro j u hu
          have hj : j < cur.size := Nat.lt_of_lt_of_le (List.getElem?_eq_some_iff.1 hu).1 c5
          exact ⟨cur[j], Array.getElem?_eq_getElem hj⟩
        refine .sl n b.cells g 0 cap (fun j => (cur[j]?).getD undef) (e2 rfl) ?_ ?_ ?_ hnc (Nat.le_trans hnc c3) hqn
        · intro j u hu
          obtain ⟨x, hx⟩ := hcell j u hu
          rw [e1]
          simp only [World.cell?, Nat.zero_add]
          simp [c1, hx]
        · intro j u hu
          obtain ⟨x, hx⟩ := hcell j u hu
          rw [hx]; exact (c6 j u x hu hx).le e5
        · intro j u hu
          obtain ⟨x, hx⟩ := hcell j u hu
          rw [hx]; exact c7 j x (List.getElem?_eq_some_iff.1 hu).1 hx
      · exact ⟨G, h, LE.refl G, rfl, hv, rfl⟩
    · exact ⟨G, h, LE.refl G, rfl, hv, rfl⟩
  · exact ⟨G, h, LE.refl G, rfl, hv, rfl⟩

theorem pubs_ok : ∀ (us : List AV) (vs : List Value) (S : St) (G : Gh), MRel B S G → VRs G us vs → ∃ G', MRel B (pubs us S).2 G' ∧ LE G G' ∧ G'.w = G.w ∧ VRs G' (pubs us S).1 vs ∧ (pubs us S).2.fr = S.fr := by
  intro us
  induction us with
  | nil => intro vs S G h hv; exact ⟨G, h, LE.refl G, rfl, hv, rfl⟩
  | cons u us ih =>
    intro vs S G h hv
    cases vs with
    | nil => cases hv.1
    | cons v vs =>
      obtain ⟨G1, a1, a2, a3, a4, a5⟩ := pub1_ok h hv.head
      obtain ⟨G2, b1, b2, b3, b4, b5⟩ := ih vs _ G1 a1 (hv.tail.le a2)
      exact ⟨G2, b1, a2.trans b2, b3.trans a3, VRs.cons (a4.le b2) b4, b5.trans a5⟩

theorem pubV_ok (h : MRel B S G) {u : AV} {v : Value} (hv : VR G u v) : ∃ G', MRel B (pubV u S).2 G' ∧ LE G G' ∧ G'.w = G.w ∧ VR G' (pubV u S).1 v ∧ (pubV u S).2.fr = S.fr := by
  unfold pubV
  split
  · exact ⟨G, h, LE.refl G, rfl, hv, rfl⟩
  · split
    · rename_i _ cs _
      obtain ⟨vs, e, h1, h2, h3⟩ := hv.agg_inv
      obtain ⟨G', a1, a2, a3, a4, a5⟩ := pubs_ok cs vs.toList S G h ⟨by simpa using h1, fun j u x p q => h2 j u x p (by simpa using q)⟩
      refine ⟨G', a1, a2, a3, ?_, a5⟩
      rw [e]
      exact .agg _ _ (by simpa using a4.1) (fun j u x p q => a4.2 j u x p (by simpa using q)) h3
    · exact pub1_ok h hv

theorem pubL_ok : ∀ (us : List AV) (vs : List Value) (S : St) (G : Gh), MRel B S G → VRs G us vs → ∃ G', MRel B (pubL us S).2 G' ∧ LE G G' ∧ G'.w = G.w ∧ VRs G' (pubL us S).1 vs ∧ (pubL us S).2.fr = S.fr := by
  intro us
  induction us with
  | nil => intro vs S G h hv; exact ⟨G, h, LE.refl G, rfl, hv, rfl⟩
  | cons u us ih =>
    intro vs S G h hv
    cases vs with
    | nil => cases hv.1
    | cons v vs =>
      obtain ⟨G1, a1, a2, a3, a4, a5⟩ := pubV_ok h hv.head
      obtain ⟨G2, b1, b2, b3, b4, b5⟩ := ih vs _ G1 a1 (hv.tail.le a2)
      exact ⟨G2, b1, a2.trans b2, b3.trans a3, VRs.cons (a4.le b2) b4, b5.trans a5⟩

theorem pubR_ok (h : MRel B S G) {u : AV} {v : Value} (hv : VR G u v) : ∃ G', MRel B (pubR u S).2 G' ∧ LE G G' ∧ G'.w = G.w ∧ VR G' (pubR u S).1 v ∧ (pubR u S).2.fr = S.fr := by
  unfold pubR
  split
  · rename_i cs
    obtain ⟨vs, e, h1, h2⟩ := hv.tup_inv
    obtain ⟨G', a1, a2, a3, a4, a5⟩ := pubL_ok cs vs.toList S G h ⟨by simpa using h1, fun j u x p q => h2 j u x p (by simpa using q)⟩
    refine ⟨G', a1, a2, a3, ?_, a5⟩
    rw [e]
    exact .tup _ _ (by simpa using a4.1) (fun j u x p q => a4.2 j u x p (by simpa using q))
  · exact pubV_ok h hv

/-! ### contracts -/
abbrev Hp := Nat → Option Blk
def hSt (H : Hp) (n : Nat) : St := ⟨fun _ => .un, fun k => match k with | .h o => H o | .l _ _ => none, fun _ => 0, n⟩
def St.hp (S : St) : Hp := fun o => S.M (.h o)
def St.withH (S : St) (H : Hp) (n : Nat) : St := { S with M := fun k => match k with | .h o => H o | .l d c => S.M (.l d c), nx := n }

def CallW (P : Program) (f : FuncId) (vs : Array Value) (w : World) (R : Ending → World → Prop) : Prop :=
  match (callFunc f vs).run P w with
  | .ok (.value v) w' => R (.returned v) w'
  | .ok (.enter g as) w' => Calls P g as w' R
  | _ => False

def gBase (G : Gh) (n : Nat) : Base := ⟨G.w, G.κ, G.I, n⟩

/-- what a function does, in whatever world -/
def Contract (P : Program) (f : FuncId) (args : List AV) (H : Hp) (n : Nat) (Post : AV → Hp → Nat → Prop) : Prop :=
  ∀ (G : Gh) (vs : Array Value), MRel (gBase G n) (hSt H n) G → VRs G args vs.toList → CallW P f vs G.w fun e w' => ∃ v av H' n' G', e = .returned v ∧ Post av H' n' ∧ MRel (gBase G n) (hSt H' n') G' ∧ G'.w = w' ∧ VR G' av v ∧ av.noL = true

/-- a pure function: whatever the objects -/
def Pure (P : Program) (f : FuncId) (args : List AV) (v : AV) : Prop := ∀ H n, Contract P f args H n fun av H' n' => av = v ∧ H' = H ∧ n' = n

theorem CallW.mono {f : FuncId} {vs : Array Value} {w : World} {R R' : Ending → World → Prop} (h : CallW P f vs w R) (hr : ∀ e w', R e w' → R' e w') : CallW P f vs w R' := by
  unfold CallW at *
  split at h
  · exact hr _ _ h
  · exact Calls.mono h hr
  · exact h.elim

theorem Contract.mono {f : FuncId} {args : List AV} {H : Hp} {n : Nat} {Post Post' : AV → Hp → Nat → Prop} (h : Contract P f args H n Post) (hp : ∀ av H' n', Post av H' n' → Post' av H' n') : Contract P f args H n Post' :=
  fun G vs hM hV => (h G vs hM hV).mono fun _ _ ⟨v, av, H', n', G', a1, a2, a3⟩ => ⟨v, av, H', n', G', a1, hp _ _ _ a2, a3⟩

/-- what a caller sees of a callee's world: its own places are as they were -/
theorem call_back (h : MRel B S G) {Gc G1 : Gh} {H' : Hp} {n' : Nat} (hcw : Gc.w = G.w) (hcI : Gc.I = G.I) (hcκ : ∀ o, Gc.κ (.h o) = G.κ (.h o)) (hcl : ∀ d c, Gc.κ (.l d c) = none) (h1 : MRel (gBase Gc S.nx) (hSt H' n') G1) :
    ∃ G', G'.w = G1.w ∧ MRel B (S.withH H' n') G' ∧ LE G G' ∧ (∀ o r, G1.κ (.h o) = some r → G'.κ (.h o) = some r) ∧ (∀ o, G1.dead (.h o) → G'.dead (.h o)) ∧ (∀ b, G1.I b → G'.I b) := by
  let S' := S.withH H' n'
  let G' : Gh := ⟨fun k => match k with | .h o => G1.κ (.h o) | .l d c => G.κ (.l d c), deadOf S', G1.I, G1.w⟩
  have hBw : (gBase Gc S.nx).w = G.w := hcw
  have hsz : G.w.heap.size ≤ G1.w.heap.size := by rw [← hBw]; exact h1.size
  have hll : ∀ d c r, G1.κ (.l d c) = some r → False := by
    intro d c r hr
    obtain ⟨b, hb, _⟩ := h1.Msome hr
    cases hb
  -- a block of the caller's own has not turned
  have hsame : ∀ d c r, G.κ (.l d c) = some r → G1.w.heap[r.1]? = G.w.heap[r.1]? := by
    intro d c r hr
    have := h1.same r.1 (by rw [hBw]; exact (h.apart _ r hr).2) (fun k r' hk e => ?_)
    · rw [hBw] at this; exact this
    · cases k with
      | l d' c' => have := hcl d' c'; rw [show (gBase Gc S.nx).κ (.l d' c') = Gc.κ (.l d' c') from rfl, this] at hk; cases hk
      | h o => rw [show (gBase Gc S.nx).κ (.h o) = Gc.κ (.h o) from rfl, hcκ] at hk; have := h.inj _ _ _ _ hk hr e; cases this
  have hIsame : ∀ b, G.I b → G1.w.heap[b]? = G.w.heap[b]? := by
    intro b hb
    have := h1.same b (by rw [hBw]; exact h.lt b hb) (fun k r' hk e => ?_)
    · rw [hBw] at this; exact this
    · cases k with
      | l d' c' => have := hcl d' c'; rw [show (gBase Gc S.nx).κ (.l d' c') = Gc.κ (.l d' c') from rfl, this] at hk; cases hk
      | h o => rw [show (gBase Gc S.nx).κ (.h o) = Gc.κ (.h o) from rfl, hcκ] at hk; exact (h.apart _ _ hk).1 (e ▸ hb)
  have hdh : ∀ o, G1.dead (.h o) ↔ G'.dead (.h o) := by
    intro o
    rw [h1.dead]
    exact Iff.rfl
  have hII : ∀ b, G.I b → G1.I b := fun b hb => h1.I0 b (by show Gc.I b; rw [hcI]; exact hb)
  have hle : LE G G' := by
    have htr : ∀ b ds, G.w.heap[b]? = some (.deferred ds) → ∀ k r, Gc.κ k = some r → r.1 ≠ b := by
      intro b ds hb k r hr e
      cases k with
      | l d' c' => rw [hcl] at hr; cases hr
      | h o => rw [hcκ] at hr; exact h.notDfr hr ds (e ▸ hb)
    refine ⟨?_, ?_, hII, hIsame, fun b ds hb => ⟨?_, fun hI => ?_⟩⟩
    rotate_left 2
    · have := h1.same b (by rw [hBw]; exact (Array.getElem?_eq_some_iff.1 hb).1) (fun k r hk => htr b ds hb k r hk)
      rw [hBw] at this; exact this
    · rcases h1.I1 b hI with hq | hq | ⟨k, r', e1, e2⟩
      · have hq' : Gc.I b := hq
        rw [hcI] at hq'; exact hq'
      · rw [hBw] at hq; have := (Array.getElem?_eq_some_iff.1 hb).1; omega
      · exact absurd e2 (htr b ds hb k r' e1)
    · intro k r hr
      cases k with
      | l d c => exact .inl hr
      | h o =>
        rcases h1.keep (.h o) r (by show Gc.κ (.h o) = some r; rw [hcκ]; exact hr) with hq | hq
        · exact .inl hq
        · exact .inr ((hdh o).1 hq)
    · intro k hd
      cases k with
      | l d c => obtain ⟨p, q⟩ := (h.dead _).1 hd; exact ⟨p, q⟩
      | h o =>
        obtain ⟨p, q⟩ := (h.dead _).1 hd
        have hn : G1.κ (.h o) = none := h1.gone o q (by show Gc.κ (.h o) = none; rw [hcκ]; exact h.κnone p)
        refine ⟨?_, Nat.lt_of_lt_of_le q h1.nx⟩
        show H' o = none
        cases hq : H' o with
        | none => rfl
        | some b => obtain ⟨r, hr, _⟩ := h1.κsome (k := .h o) (b := b) hq; rw [hn] at hr; cases hr
  have hne : ∀ d c r o r', G.κ (.l d c) = some r → G1.κ (.h o) = some r' → r.1 ≠ r'.1 := by
    intro d c r o r' hr hr' e
    rcases h1.heap o r' hr' with hq | ⟨k, r2, e1, e2⟩
    · rw [hBw] at hq; have := (h.apart _ r hr).2; omega
    · cases k with
      | l d' c' => have := hcl d' c'; rw [show (gBase Gc S.nx).κ (.l d' c') = Gc.κ (.l d' c') from rfl, this] at e1; cases e1
      | h o2 => rw [show (gBase Gc S.nx).κ (.h o2) = Gc.κ (.h o2) from rfl, hcκ] at e1; have := h.inj _ _ _ _ e1 hr (e2.trans e.symm); cases this
  refine ⟨G', rfl, ⟨?_, ?_, fun k => Iff.rfl, ?_, ?_, h1.lt, ?_, ?_, ?_, Nat.le_trans h.nx h1.nx, ?_, fun b hb => hII b (h.I0 b hb), ?_, ?_, ?_, ?_, Nat.le_trans h.size hsz, ?_, ?_⟩, hle, fun o r hr => hr, fun o hd => (hdh o).1 hd, fun b hb => hb⟩
  · intro k
    cases k with
    | l d c => exact (h.blk (.l d c)).le hle fun q hq => hsame d c q hq
    | h o =>
      have := h1.blk (.h o)
      refine (show BlkOpt G1 (H' o) (G1.κ (.h o)) from this) |> fun hb => ?_
      show BlkOpt G' (H' o) (G1.κ (.h o))
      refine BlkOpt.le (G := G1) ?_ (fun _ _ => rfl) hb
      refine ⟨fun k r hr => ?_, fun k hd => ?_, fun _ hb => hb, fun _ _ => rfl, fun _ _ _ => ⟨rfl, fun h => h⟩⟩
      · cases k with
        | l d c => exact (hll d c r hr).elim
        | h o => exact .inl hr
      · cases k with
        | l d c =>
          obtain ⟨p, q⟩ := (h1.dead _).1 hd
          have hq : 1 ≤ c ∧ c ≤ 0 := q
          omega
        | h o => exact (hdh o).1 hd
  · intro k k' r r' hr hr' e
    cases k with
    | l d c => cases k' with
      | l d' c' => exact h.inj _ _ r r' hr hr' e
      | h o => exact absurd e (hne d c r o r' hr hr')
    | h o => cases k' with
      | l d c => exact absurd e.symm (hne d c r' o r hr' hr)
      | h o' => exact h1.inj _ _ r r' hr hr' e
  · intro k b hb
    cases k with
    | l d c => exact h.live (.l d c) b hb
    | h o => exact h1.live (.h o) b hb
  · intro k r hr
    cases k with
    | l d c =>
      refine ⟨fun hI => ?_, Nat.lt_of_lt_of_le (h.apart _ r hr).2 hsz⟩
      rcases h1.I1 r.1 hI with hq | hq | ⟨k, r', e1, e2⟩
      · have hq' : Gc.I r.1 := hq
        rw [hcI] at hq'; exact (h.apart _ r hr).1 hq'
      · rw [hBw] at hq; have := (h.apart _ r hr).2; omega
      · cases k with
        | l d' c' => have := hcl d' c'; rw [show (gBase Gc S.nx).κ (.l d' c') = Gc.κ (.l d' c') from rfl, this] at e1; cases e1
        | h o => rw [show (gBase Gc S.nx).κ (.h o) = Gc.κ (.h o) from rfl, hcκ] at e1; have := h.inj _ _ _ _ e1 hr e2; cases this
    | h o => exact h1.apart (.h o) r hr
  · exact fun d c r hr => h.loc d c r hr
  · intro k r hr
    rcases h.keep k r hr with hq | hq
    · exact hle.κ k r hq
    · exact .inr (hle.dead k hq)
  · intro o r hr
    rcases h1.heap o r hr with hq | ⟨k, r', e1, e2⟩
    · rw [hBw] at hq; exact .inl (Nat.le_trans h.size hq)
    · cases k with
      | l d' c' => have := hcl d' c'; rw [show (gBase Gc S.nx).κ (.l d' c') = Gc.κ (.l d' c') from rfl, this] at e1; cases e1
      | h o' =>
        rw [show (gBase Gc S.nx).κ (.h o') = Gc.κ (.h o') from rfl, hcκ] at e1
        rw [← e2]; exact h.heap o' r' e1
  · intro o ho hb
    have hn := h.gone o ho hb
    exact h1.gone o (Nat.lt_of_lt_of_le ho h.nx) (by show Gc.κ (.h o) = none; rw [hcκ]; exact hn)
  · intro b hb
    rcases h1.I1 b hb with hq | hq | ⟨k, r', e1, e2⟩
    · have hq' : Gc.I b := hq
      rw [hcI] at hq'; exact h.I1 b hq'
    · rw [hBw] at hq; exact .inr (.inl (Nat.le_trans h.size hq))
    · cases k with
      | l d' c' => have := hcl d' c'; rw [show (gBase Gc S.nx).κ (.l d' c') = Gc.κ (.l d' c') from rfl, this] at e1; cases e1
      | h o =>
        rw [show (gBase Gc S.nx).κ (.h o) = Gc.κ (.h o) from rfl, hcκ] at e1
        rw [← e2]
        rcases h.heap o r' e1 with hq | hq
        · exact .inr (.inl hq)
        · exact .inr (.inr hq)
  · exact (h1.os.trans (by rw [hBw])).trans h.os
  · exact (h1.tape.trans (by rw [hBw])).trans h.tape
  · exact (h1.output.trans (by rw [hBw])).trans h.output
  · intro b hb hq
    have := h1.same b (by rw [hBw]; exact Nat.lt_of_lt_of_le hb h.size) (fun k r' hk e => ?_)
    · rw [hBw] at this; exact this.trans (h.same b hb hq)
    · cases k with
      | l d' c' => have := hcl d' c'; rw [show (gBase Gc S.nx).κ (.l d' c') = Gc.κ (.l d' c') from rfl, this] at hk; cases hk
      | h o =>
        rw [show (gBase Gc S.nx).κ (.h o) = Gc.κ (.h o) from rfl, hcκ] at hk
        rcases h.heap o r' hk with hh | ⟨k2, r2, p1, p2⟩
        · omega
        · exact hq k2 r2 p1 (p2.trans e)
  · intro k b hb
    cases k with
    | l d c => rfl
    | h o => exact h1.hno (.h o) b hb

/-- the callee's view of the caller's world -/
theorem call_in (h : MRel B S G) : ∃ Gc, Gc.w = G.w ∧ Gc.I = G.I ∧ (∀ o, Gc.κ (.h o) = G.κ (.h o)) ∧ (∀ d c, Gc.κ (.l d c) = none) ∧ (∀ o, G.dead (.h o) → Gc.dead (.h o)) ∧ MRel (gBase Gc S.nx) (hSt S.hp S.nx) Gc := by
  let Gc : Gh := ⟨fun k => match k with | .h o => G.κ (.h o) | .l _ _ => none, deadOf (hSt S.hp S.nx), G.I, G.w⟩
  have hk : ∀ k r, Gc.κ k = some r → ∃ o, k = .h o ∧ G.κ (.h o) = some r := by
    intro k r hr
    cases k with
    | l d c => cases hr
    | h o => exact ⟨o, rfl, hr⟩
  have hd : ∀ o, G.dead (.h o) ↔ deadOf (hSt S.hp S.nx) (.h o) := fun o => (h.dead (.h o)).trans Iff.rfl
  refine ⟨Gc, rfl, rfl, fun _ => rfl, fun _ _ => rfl, fun o => (hd o).1, ⟨?_, ?_, fun k => Iff.rfl, ?_, ?_, h.lt, ?_, fun k r hr => .inl hr, fun o r hr => .inr ⟨.h o, r, hr, rfl⟩, Nat.le_refl _, fun o _ hn => hn, fun _ hb => hb, fun b hb => .inl hb, rfl, rfl, rfl, Nat.le_refl _, fun _ _ _ => rfl, ?_⟩⟩
  · intro k
    cases k with
    | l d c => trivial
    | h o =>
      have := h.blk (.h o)
      have hn := h.hno (.h o)
      show BlkOpt Gc (S.M (.h o)) (G.κ (.h o))
      revert this hn
      cases S.M (.h o) with
      | none => cases G.κ (.h o) <;> exact fun x _ => x
      | some b => cases G.κ (.h o) with
        | none => exact fun x _ => x
        | some r =>
          intro this hn
          by_cases hz : b.sz = 0
          · obtain ⟨q, j, fr, c1, c2, c3, c4, c5⟩ := (BlkOpt.loop hz).1 this
            have hnf : noLs fr = true := by have := hn b rfl; simp only [hOk, c1, noLs, Bool.and_eq_true] at this; exact this.2
            exact (BlkOpt.loop hz).2 ⟨q, j, fr, c1, c2, c3, c4, fun t u x p q => VR.noL (G := G) (G' := Gc) (fun o r hr => hr) (fun o hd' => (hd o).1 hd') (fun b hb => hb) rfl (c5 t u x p q) (noLs_at hnf t u p)⟩
          obtain ⟨cur, c1, c2, c3, c4, c5, c6, c7⟩ := (BlkOpt.cell hz).1 this
          exact (BlkOpt.cell hz).2 ⟨cur, c1, c2, c3, c4, c5, fun j u x p q => VR.noL (G := G) (G' := Gc) (fun o r hr => hr) (fun o hd' => (hd o).1 hd') (fun b hb => hb) rfl (c6 j u x p q) (noLs_at (hn b rfl) j u p), c7⟩
  · intro k k' r r' hr hr' e
    obtain ⟨o, rfl, p⟩ := hk k r hr
    obtain ⟨o', rfl, p'⟩ := hk k' r' hr'
    exact h.inj _ _ r r' p p' e
  · intro k b hb
    cases k with
    | l d c => cases hb
    | h o => exact h.live (.h o) b hb
  · intro k r hr
    obtain ⟨o, rfl, p⟩ := hk k r hr
    exact h.apart _ r p
  · intro d c r hr; cases hr
  · intro k b hb
    cases k with
    | l d c => rfl
    | h o => exact h.hno (.h o) b hb

/-! ### a row is lent for a call that only tells a value that leads nowhere -/
mutual
def AV.flat : AV → Bool
  | .bl _ | .it _ _ | .st _ | .nptr | .nfn => true
  | .agg cs => flats cs
  | .tup cs => flats cs
  | _ => false
def flats : List AV → Bool
  | [] => true
  | u :: r => u.flat && flats r
end
theorem flats_at {l : List AV} (h : flats l = true) : ∀ (j : Nat) (u : AV), l[j]? = some u → u.flat = true := by
  induction l with
  | nil => intro j u hu; simp at hu
  | cons x l ih =>
    simp only [flats, Bool.and_eq_true] at h
    intro j u hu
    cases j with
    | zero => simp at hu; subst hu; exact h.1
    | succ j => exact ih h.2 j u (by simpa using hu)
theorem VR.flat {G G' : Gh} : ∀ {u : AV} {v : Value}, VR G u v → u.flat = true → VR G' u v := by
  intro u v h
  induction h with
  | bl b => exact fun _ => .bl b
  | it k n => exact fun _ => .it k n
  | st l s h => exact fun _ => .st l s h
  | agg cs vs hl h h1 ih => intro hn; simp only [AV.flat] at hn; exact .agg cs vs hl (fun j u x a b => ih j u x a b (flats_at hn j u a)) h1
  | tup cs vs hl h ih => intro hn; simp only [AV.flat] at hn; exact .tup cs vs hl (fun j u x a b => ih j u x a b (flats_at hn j u a))
  | nptr => exact fun _ => .nptr
  | nfn => exact fun _ => .nfn
  | _ => intro hn; simp [AV.flat] at hn
/-- a world that has grown -/
theorem MRel.grow {w' : World} (h : MRel B S G) (h1 : G.w.heap.size ≤ w'.heap.size) (h2 : ∀ b, b < G.w.heap.size → w'.heap[b]? = G.w.heap[b]?) (h3 : w'.os = G.w.os) (h4 : w'.tape = G.w.tape) (h5 : w'.output = G.w.output) :
    ∃ G', MRel B S G' ∧ LE G G' ∧ G'.w = w' := by
  let G' : Gh := ⟨G.κ, G.dead, G.I, w'⟩
  have hle : LE G G' := ⟨fun k r hr => .inl hr, fun k hk => hk, fun b hb => hb, fun b hb => h2 b (h.lt b hb), fun b ds hb => ⟨h2 b (Array.getElem?_eq_some_iff.1 hb).1, fun hI => hI⟩⟩
  refine ⟨G', ⟨fun k => ?_, h.inj, h.dead, h.live, fun k r hr => ⟨(h.apart k r hr).1, Nat.lt_of_lt_of_le (h.apart k r hr).2 h1⟩, fun b hb => Nat.lt_of_lt_of_le (h.lt b hb) h1, h.loc, h.keep, h.heap, h.nx, h.gone, h.I0, h.I1, h3.trans h.os, h4.trans h.tape, h5.trans h.output, Nat.le_trans h.size h1, fun b hb hn => (h2 b (Nat.lt_of_lt_of_le hb h.size)).trans (h.same b hb hn), h.hno⟩, hle, rfl⟩
  have hb := h.blk k
  show BlkOpt G' (S.M k) (G.κ k)
  cases hm : S.M k with
  | none =>
    rw [hm] at hb
    cases hk : G.κ k with
    | none => trivial
    | some r => rw [hk] at hb; exact hb
  | some b =>
    rw [hm] at hb
    cases hk : G.κ k with
    | none => rw [hk] at hb; exact hb
    | some r =>
      rw [hk] at hb
      have hlt := (h.apart k r hk).2
      by_cases hz : b.sz = 0
      · obtain ⟨q, j, fr, c1, c2, c3, c4, c5⟩ := (BlkOpt.loop hz).1 hb
        exact (BlkOpt.loop hz).2 ⟨q, j, fr, c1, (h2 _ hlt).trans c2, c3, c4, fun t u x p q => (c5 t u x p q).le hle⟩
      · obtain ⟨cur, c1, c2, c3, c4, c5, c6, c7⟩ := (BlkOpt.cell hz).1 hb
        exact (BlkOpt.cell hz).2 ⟨cur, (h2 _ hlt).trans c1, c2, c3, c4, c5, fun j u x p q => (c6 j u x p q).le hle, c7⟩
theorem keyOld_hSt {H : Hp} {n o : Nat} : keyOld (hSt H n) (.h o) ↔ o < n := Iff.rfl
/-- rows as they are lent -/
def vw1 (M : Key → Option Blk) : AV → AV
  | .gs (.l d c) n => match M (.l d c) with
    | some b => if b.cells.length = n * b.sz ∧ b.sz ≠ 0 ∧ noLs b.cells = true then .sl false n b.cells else .gs (.l d c) n
    | none => .gs (.l d c) n
  | u => u
def vwV (M : Key → Option Blk) : AV → AV
  | .agg cs => .agg (cs.map (vw1 M))
  | u => vw1 M u
/-- local rows are looked at as if they never turned -/
def Gh.lend (G : Gh) : Gh := ⟨G.κ, G.dead, fun b => G.I b ∨ ∃ d c r, G.κ (.l d c) = some r ∧ r.1 = b, G.w⟩
theorem LE0.lend {G : Gh} : LE0 G G.lend := ⟨fun _ _ h => .inl h, fun _ h => h, fun _ h => .inl h, fun _ _ => rfl⟩
theorem vw1_ok (h : MRel B S G) {u : AV} {v : Value} (hv : VR G u v) : VR G.lend (vw1 S.M u) v := by
  unfold vw1
  split
  · rename_i d c n
    split
    · rename_i b hm
      split
      · rename_i hl
        obtain ⟨hl, hz, hqn⟩ := hl
        obtain ⟨g, cap, hk, e⟩ := hv.gs_inv h (by simp [liveB, hm])
        obtain ⟨r, hr, hb⟩ := h.κcell hm hz
        rw [hk] at hr; cases hr
        obtain ⟨cur, c1, c2, c3, c4, c5, c6, c7⟩ := hb
        have hnc : n ≤ cap := by
          have : n * b.sz ≤ cap * b.sz := by rw [← hl, ← c2]; exact c5
          exact Nat.le_of_mul_le_mul_right this c4
        rw [e]
        have hcell : ∀ (j : Nat) (u : AV), b.cells[j]? = some u → ∃ x, cur[j]? = some x := by
          intro j u hu
          have hj : j < cur.size := Nat.lt_of_lt_of_le (List.getElem?_eq_some_iff.1 hu).1 c5
          exact ⟨cur[j], Array.getElem?_eq_getElem hj⟩
        refine .sl n b.cells g 0 cap (fun j => (cur[j]?).getD undef) (.inr ⟨d, c, _, hk, rfl⟩) ?_ ?_ ?_ hnc (Nat.le_trans hnc c3) hqn
        · intro j u hu
          obtain ⟨x, hx⟩ := hcell j u hu
          show G.w.cell? _ = _
          simp only [World.cell?, Nat.zero_add]
          simp [c1, hx]
        · intro j u hu
          obtain ⟨x, hx⟩ := hcell j u hu
          rw [hx]; exact (c6 j u x hu hx).le0 .lend
        · intro j u hu
          obtain ⟨x, hx⟩ := hcell j u hu
          rw [hx]; exact c7 j x (List.getElem?_eq_some_iff.1 hu).1 hx
      · exact hv.le0 .lend
    · exact hv.le0 .lend
  · exact hv.le0 .lend
theorem vwV_ok (h : MRel B S G) {u : AV} {v : Value} (hv : VR G u v) : VR G.lend (vwV S.M u) v := by
  cases u with
  | agg cs =>
    cases hv with
    | agg _ vs hl h0 h1 =>
      refine .agg _ vs (by rw [List.length_map]; exact hl) (fun j u x hu hx => ?_) h1
      rw [List.getElem?_map] at hu
      obtain ⟨w, h2, rfl⟩ := Option.map_eq_some_iff.1 hu
      exact vw1_ok h (h0 j w x h2 hx)
  | _ => exact vw1_ok h hv
/-- a pure function's call: nothing that there is turns -/
theorem call_lent (h : MRel B S G) {f : FuncId} {us : List AV} {vs : Array Value} {u : AV} (hv : VRs G.lend us vs.toList) (hn : noLs us = true) (hF : Pure P f us u) (hfl : u.flat = true) :
    CallW P f vs G.w fun e w' => ∃ v, e = .returned v ∧ (∀ G', VR G' u v) ∧ G.w.heap.size ≤ w'.heap.size ∧ (∀ b, b < G.w.heap.size → w'.heap[b]? = G.w.heap[b]?) ∧ w'.os = G.w.os ∧ w'.tape = G.w.tape ∧ w'.output = G.w.output := by
  let H0 : Hp := fun _ => none
  let Gm : Gh := ⟨fun _ => none, fun k => match k with | .l _ _ => True | .h o => o < S.nx, G.lend.I, G.w⟩
  let Gc : Gh := ⟨fun _ => none, deadOf (hSt H0 S.nx), G.lend.I, G.w⟩
  have hlt : ∀ b, G.lend.I b → b < G.w.heap.size := by
    rintro b (hb | ⟨d, c, r, hr, rfl⟩)
    · exact h.lt b hb
    · exact (h.apart _ _ hr).2
  have hm : LE0 G.lend Gm := by
    refine ⟨fun k r hr => .inr ?_, fun k hk => ?_, fun b hb => hb, fun b _ => rfl⟩
    · cases k with
      | l d c => trivial
      | h o =>
        have hb := h.blk (.h o)
        have hr' : G.κ (.h o) = some r := hr
        rw [hr'] at hb
        cases hM : S.M (.h o) with
        | none => rw [hM] at hb; exact hb.elim
        | some b => exact h.live _ b hM
    · cases k with
      | l d c => trivial
      | h o => exact ((h.dead _).1 hk).2
  have hM : MRel (gBase Gc S.nx) (hSt H0 S.nx) Gc := by
    refine ⟨fun k => ?_, fun k k' r r' hr => (by cases hr), fun k => Iff.rfl, fun k b hb => ?_, fun k r hr => (by cases hr), hlt, fun d c r hr => (by cases hr), fun k r hr => (by cases hr), fun o r hr => (by cases hr), Nat.le_refl _, fun o _ _ => rfl, fun b hb => hb, fun b hb => .inl hb, rfl, rfl, rfl, Nat.le_refl _, fun b _ _ => rfl, fun k b hb => ?_⟩
    · cases k <;> trivial
    · cases k <;> cases hb
    · cases k <;> cases hb
  have hvc : VRs Gc us vs.toList := ⟨hv.1, fun j u x p q => VR.noL (G := Gm) (G' := Gc) (fun o r hr => by cases hr) (fun o ho => ⟨rfl, ho⟩) (fun b hb => hb) rfl ((hv.2 j u x p q).le0 hm) (noLs_at hn j u p)⟩
  refine (hF H0 S.nx Gc vs hM hvc).mono ?_
  rintro e w' ⟨v, av, H', n', G2, rfl, ⟨rfl, rfl, rfl⟩, hM2, hw, hvr, hav⟩
  subst hw
  exact ⟨v, rfl, fun G' => hvr.flat hfl, hM2.size, fun b hb => hM2.same b hb (fun k r hr => by cases hr), hM2.os, hM2.tape, hM2.output⟩

/-- who is called: a function, the yield of a range over a function -/
inductive Cal where
  | f (f : FuncId)
  | e (f : FuncId)
  | y (o : Nat)

/-- a round of a range over a function -/
def RoundW (P : Program) (l : Nat) (vs : Array Value) (w : World) (R : Ending → World → Prop) : Prop :=
  ∃ fn tmps asg body, (Instr.yield l vs).run P w = .ok (.round l fn tmps asg body) w ∧ RoundIn Fence.wide 0 P l fn tmps asg body w R
theorem RoundW.mono {l : Nat} {vs : Array Value} {w : World} {R R' : Ending → World → Prop} (h : RoundW P l vs w R) (hr : ∀ e w', R e w' → R' e w') : RoundW P l vs w R' := by
  obtain ⟨fn, tmps, asg, body, h1, h2⟩ := h
  exact ⟨fn, tmps, asg, body, h1, h2.mono hr⟩

/-- what a yield does -/
def ContractY (P : Program) (o : Nat) (args : List AV) (H : Hp) (n : Nat) (Post : AV → Hp → Nat → Prop) : Prop :=
  (H o).isSome = true ∧ ∀ (G : Gh) (vs : Array Value) (l cap : Nat), MRel (gBase G n) (hSt H n) G → VRs G args vs.toList → G.κ (.h o) = some (l, cap) →
    RoundW P l vs G.w fun e w' => ∃ v av H' n' G', e = .returned v ∧ Post av H' n' ∧ MRel (gBase G n) (hSt H' n') G' ∧ G'.w = w' ∧ VR G' av v ∧ av.noL = true
theorem ContractY.mono {o : Nat} {args : List AV} {H : Hp} {n : Nat} {Post Post' : AV → Hp → Nat → Prop} (h : ContractY P o args H n Post) (hp : ∀ av H' n', Post av H' n' → Post' av H' n') : ContractY P o args H n Post' :=
  ⟨h.1, fun G vs l cap hM hV hk => (h.2 G vs l cap hM hV hk).mono fun _ _ ⟨v, av, H', n', G', a1, a2, a3⟩ => ⟨v, av, H', n', G', a1, hp _ _ _ a2, a3⟩⟩
def CContract (P : Program) (c : Cal) (args : List AV) (H : Hp) (n : Nat) (Post : AV → Hp → Nat → Prop) : Prop := match c with
  | .f f => Contract P f args H n Post
  | .e f => (∀ vs w, (callFunc f vs).run P w = .ok (.enter f vs) w) ∧ Contract P f args H n Post
  | .y o => ContractY P o args H n Post
theorem CContract.mono {c : Cal} {args : List AV} {H : Hp} {n : Nat} {Post Post' : AV → Hp → Nat → Prop} (h : CContract P c args H n Post) (hp : ∀ av H' n', Post av H' n' → Post' av H' n') : CContract P c args H n Post' := by
  cases c with
  | f f => exact Contract.mono h hp
  | e f => exact ⟨h.1, Contract.mono h.2 hp⟩
  | y o => exact ContractY.mono h hp

/-- a call -/
def CallsO (P : Program) (c : Cal) (args : List AV) (S : St) (K : AV → St → Prop) : Prop :=
  let p := pubL args S
  noLs p.1 = true ∧ CContract P c p.1 p.2.hp p.2.nx fun av H' n' => K av (p.2.withH H' n')
/-- a call that is lent rows -/
def CallsB (P : Program) (c : Cal) (args : List AV) (S : St) (K : AV → St → Prop) : Prop :=
  ∃ f v, c = .f f ∧ noLs (args.map (vwV S.M)) = true ∧ Pure P f (args.map (vwV S.M)) v ∧ v.flat = true ∧ K v S
def CallsA (P : Program) (c : Cal) (args : List AV) (S : St) (K : AV → St → Prop) : Prop := CallsO P c args S K ∨ CallsB P c args S K

theorem calls_ok (h : Rel B N S a G) {f : FuncId} {args : List AV} {vs : Array Value} {K : AV → St → Prop} (hv : VRs G args vs.toList) (hc : CallsA P (.f f) args S K) :
    CallW P f vs G.w fun e w' => ∃ v av S' G', e = .returned v ∧ K av S' ∧ Rel B N S' a G' ∧ G'.w = w' ∧ VR G' av v ∧ LE G G' := by
  rcases hc with hc | ⟨f', v, hf', hn, hF, hfl, hK⟩
  case inr =>
    cases hf'
    have hvl : VRs G.lend (args.map (vwV S.M)) vs.toList := ⟨by rw [List.length_map]; exact hv.1, fun j u x p q => by
      rw [List.getElem?_map] at p
      obtain ⟨w, h2, rfl⟩ := Option.map_eq_some_iff.1 p
      exact vwV_ok h.toMRel (hv.2 j w x h2 q)⟩
    refine (call_lent h.toMRel hvl hn hF hfl).mono ?_
    rintro e w' ⟨x, rfl, hx, k1, k2, k3, k4, k5⟩
    obtain ⟨G', g1, g2, g3⟩ := h.toMRel.grow k1 k2 k3 k4 k5
    exact ⟨x, v, S, G', rfl, hK, h.lift g1 g2 rfl, g3, hx G', g2⟩
  obtain ⟨hn, hc⟩ := hc
  obtain ⟨G1, a1, a2, a3, a4, a5⟩ := pubL_ok args vs.toList S G h.toMRel hv
  obtain ⟨Gc, b1, b2, b3, b4, b5, b6⟩ := call_in a1
  have hvc : VRs Gc (pubL args S).1 vs.toList := ⟨a4.1, fun j u x p q => VR.noL (G := G1) (G' := Gc) (fun o r hr => by rw [b3]; exact hr) b5 (fun b hb => by rw [b2]; exact hb) b1 (a4.2 j u x p q) (noLs_at hn j u p)⟩
  have := hc Gc vs b6 hvc
  rw [b1, a3] at this
  refine this.mono ?_
  rintro e w' ⟨v, av, H', n', G2, rfl, hp, hM, hw, hvr, hav⟩
  obtain ⟨G', c1, c2, c3, c4, c5, c6⟩ := call_back a1 b1 b2 b3 b4 hM
  refine ⟨v, av, _, G', rfl, hp, ?_, c1.trans hw, VR.noL (G := G2) (G' := G') c4 c5 c6 c1 hvr hav, a2.trans c3⟩
  exact h.lift c2 (a2.trans c3) (by show (pubL args S).2.fr = S.fr; exact a5)

theorem calls_okY (h : Rel B N S a G) {o l cap : Nat} {args : List AV} {vs : Array Value} {K : AV → St → Prop} (hv : VRs G args vs.toList) (hc : CallsA P (.y o) args S K) (hk : G.κ (.h o) = some (l, cap)) :
    RoundW P l vs G.w fun e w' => ∃ v av S' G', e = .returned v ∧ K av S' ∧ Rel B N S' a G' ∧ G'.w = w' ∧ VR G' av v := by
  rcases hc with hc | ⟨f', v, hf', hn, hF, hfl, hK⟩
  case inr => cases hf'
  obtain ⟨hn, hs, hc⟩ := hc
  obtain ⟨G1, a1, a2, a3, a4, a5⟩ := pubL_ok args vs.toList S G h.toMRel hv
  obtain ⟨Gc, b1, b2, b3, b4, b5, b6⟩ := call_in a1
  have hk1 : G1.κ (.h o) = some (l, cap) := by
    rcases a2.κ (.h o) _ hk with hq | hq
    · exact hq
    · have := (a1.dead _).1 hq
      have hs' : ((pubL args S).2.M (.h o)).isSome = true := hs
      rw [this.1] at hs'; cases hs'
  have hvc : VRs Gc (pubL args S).1 vs.toList := ⟨a4.1, fun j u x p q => VR.noL (G := G1) (G' := Gc) (fun o r hr => by rw [b3]; exact hr) b5 (fun b hb => by rw [b2]; exact hb) b1 (a4.2 j u x p q) (noLs_at hn j u p)⟩
  have := hc Gc vs l cap b6 hvc (by rw [b3]; exact hk1)
  rw [b1, a3] at this
  refine this.mono ?_
  rintro e w' ⟨v, av, H', n', G2, rfl, hp, hM, hw, hvr, hav⟩
  obtain ⟨G', c1, c2, c3, c4, c5, c6⟩ := call_back a1 b1 b2 b3 b4 hM
  refine ⟨v, av, _, G', rfl, hp, ?_, c1.trans hw, VR.noL (G := G2) (G' := G') c4 c5 c6 c1 hvr hav⟩
  exact h.lift c2 (a2.trans c3) (by show (pubL args S).2.fr = S.fr; exact a5)
end
end Go.AV
