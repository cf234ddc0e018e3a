/-
  How the memory's half of the relation goes on: a place more, a place gone, a place for good, a store, a draw; what a callee leaves.
-/
import Derived.Test.YteoohihaibgplaaDoorAvR
import Derived.RangeFuncRecord
import Derived.OrdersIn
namespace Go.AV
open Go.RowKit Go.RG

theorem BlkOk.le0 {G G' : Gh} {b : Blk} {g cap : Nat} (hle : LE0 G G') (hg : G'.w.heap[g]? = G.w.heap[g]?) (h : BlkOk G b g cap) : BlkOk G' b g cap := by
  obtain ⟨cur, h1, h2, h3, h4, h5, h6, h7⟩ := h
  exact ⟨cur, hg.trans h1, h2, h3, h4, h5, fun j u x a c => (h6 j u x a c).le0 hle, h7⟩

theorem LoopOk.le0 {G G' : Gh} {b : Blk} {g : Nat} (hle : LE0 G G') (hg : G'.w.heap[g]? = G.w.heap[g]?) (h : LoopOk G b g) : LoopOk G' b g := by
  obtain ⟨r, j, fr, h1, h2, h3, h4, h5⟩ := h
  exact ⟨r, j, fr, h1, hg.trans h2, h3, h4, fun t u x a c => (h5 t u x a c).le0 hle⟩

theorem BlkOpt.cell {G : Gh} {b : Blk} {r : Nat × Nat} (hz : b.sz ≠ 0) : BlkOpt G (some b) (some r) ↔ BlkOk G b r.1 r.2 := by simp [BlkOpt, hz]
theorem BlkOpt.loop {G : Gh} {b : Blk} {r : Nat × Nat} (hz : b.sz = 0) : BlkOpt G (some b) (some r) ↔ LoopOk G b r.1 := by simp [BlkOpt, hz]
theorem BlkOpt.held {G : Gh} {b : Blk} {r : Nat × Nat} (h : BlkOpt G (some b) (some r)) : ∃ o, G.w.heap[r.1]? = some o ∧ ∀ ds, o ≠ .deferred ds := by
  by_cases hz : b.sz = 0
  · obtain ⟨q, j, fr, h1, h2, h3⟩ := (BlkOpt.loop hz).1 h
    exact ⟨_, h2, fun ds e => by cases e⟩
  · obtain ⟨cur, h1, h2⟩ := (BlkOpt.cell hz).1 h
    exact ⟨_, h1, fun ds e => by cases e⟩

theorem BlkOpt.le0 {G G' : Gh} {b : Option Blk} {r : Option (Nat × Nat)} (hle : LE0 G G') (hg : ∀ q, r = some q → G'.w.heap[q.1]? = G.w.heap[q.1]?) (h : BlkOpt G b r) : BlkOpt G' b r := by
  cases b with
  | none => cases r with
    | none => trivial
    | some r => exact h.elim
  | some b => cases r with
    | none => exact h.elim
    | some r =>
      by_cases hz : b.sz = 0
      · exact (BlkOpt.loop hz).2 (LoopOk.le0 hle (hg r rfl) ((BlkOpt.loop hz).1 h))
      · exact (BlkOpt.cell hz).2 (BlkOk.le0 hle (hg r rfl) ((BlkOpt.cell hz).1 h))

theorem BlkOk.le {G G' : Gh} {b : Blk} {g cap : Nat} (hle : LE G G') (hg : G'.w.heap[g]? = G.w.heap[g]?) (h : BlkOk G b g cap) : BlkOk G' b g cap := h.le0 hle.z hg
theorem LoopOk.le {G G' : Gh} {b : Blk} {g : Nat} (hle : LE G G') (hg : G'.w.heap[g]? = G.w.heap[g]?) (h : LoopOk G b g) : LoopOk G' b g := h.le0 hle.z hg
theorem BlkOpt.le {G G' : Gh} {b : Option Blk} {r : Option (Nat × Nat)} (hle : LE G G') (hg : ∀ q, r = some q → G'.w.heap[q.1]? = G.w.heap[q.1]?) (h : BlkOpt G b r) : BlkOpt G' b r := h.le0 hle.z hg

section
variable {B : Base} {S S' : St} {G : Gh}

theorem MRel.κnone (h : MRel B S G) {k : Key} (hk : S.M k = none) : G.κ k = none := by
  have := h.blk k
  rw [hk] at this
  cases hq : G.κ k with
  | none => rfl
  | some r => rw [hq] at this; exact this.elim
theorem MRel.κsome (h : MRel B S G) {k : Key} {b : Blk} (hk : S.M k = some b) : ∃ r, G.κ k = some r ∧ BlkOpt G (some b) (some r) := by
  have := h.blk k
  rw [hk] at this
  cases hq : G.κ k with
  | none => rw [hq] at this; exact this.elim
  | some r => rw [hq] at this; exact ⟨r, rfl, this⟩
theorem MRel.Msome (h : MRel B S G) {k : Key} {r : Nat × Nat} (hk : G.κ k = some r) : ∃ b, S.M k = some b ∧ BlkOpt G (some b) (some r) := by
  have := h.blk k
  rw [hk] at this
  cases hq : S.M k with
  | none => rw [hq] at this; exact this.elim
  | some b => rw [hq] at this; exact ⟨b, rfl, this⟩

theorem MRel.κcell (h : MRel B S G) {k : Key} {b : Blk} (hk : S.M k = some b) (hz : b.sz ≠ 0) : ∃ r, G.κ k = some r ∧ BlkOk G b r.1 r.2 := by
  obtain ⟨r, h1, h2⟩ := h.κsome hk
  exact ⟨r, h1, (BlkOpt.cell hz).1 h2⟩
theorem MRel.notDfr (h : MRel B S G) {k : Key} {r : Nat × Nat} (hk : G.κ k = some r) (ds : Option (List Deferred)) : G.w.heap[r.1]? ≠ some (.deferred ds) := by
  obtain ⟨b, _, h2⟩ := h.Msome hk
  obtain ⟨o, h3, h4⟩ := h2.held
  rw [h3]
  intro e
  exact h4 ds (Option.some.inj e)

/-- a place more, in a block that nobody else has -/
theorem MRel.addG (h : MRel B S G) (fr : Nat → Prop) (hfr : ∀ q, fr q → ¬ G.I q ∧ (∀ k r, G.κ k = some r → r.1 ≠ q) ∧ (B.w.heap.size ≤ q ∨ ∃ k r', B.κ k = some r' ∧ r'.1 = q)) {k0 : Key} {b : Blk} (hno : hOk k0 b.cells = true) (hk : ¬ keyOld S k0) (hM : S'.M = updK S.M k0 (some b)) (hold : ∀ k, keyOld S' k ↔ keyOld S k ∨ k = k0) (hnx : S.nx ≤ S'.nx)
    {g cap : Nat} {w1 : World} (hI : ¬ G.I g) (hfree : ∀ k r, G.κ k = some r → r.1 ≠ g) (horg : B.w.heap.size ≤ g ∨ ∃ k r', B.κ k = some r' ∧ r'.1 = g)
    (hos : w1.os = G.w.os) (htape : w1.tape = G.w.tape) (hout : w1.output = G.w.output) (hsz : G.w.heap.size ≤ w1.heap.size) (hsame : ∀ q, q < G.w.heap.size → q ≠ g → ¬ fr q → w1.heap[q]? = G.w.heap[q]?)
    (hlt : g < w1.heap.size) (hnd : ∀ q, (q = g ∨ fr q) → ∀ ds, G.w.heap[q]? ≠ some (.deferred ds)) (hnew : ∀ G' : Gh, LE G G' → G'.w = w1 → BlkOpt G' (some b) (some (g, cap))) :
    ∃ G', G'.w = w1 ∧ G'.κ k0 = some (g, cap) ∧ MRel B S' G' ∧ LE G G' := by
  have hMk : ∀ k, k ≠ k0 → S'.M k = S.M k := fun k e => by rw [hM]; simp [updK, e]
  have hM0 : S'.M k0 = some b := by rw [hM]; simp [updK]
  have hdead : ∀ k, deadOf S k → deadOf S' k := by
    rintro k ⟨a, c⟩
    have e : k ≠ k0 := fun e => hk (e ▸ c)
    exact ⟨(hMk k e).trans a, (hold k).2 (.inl c)⟩
  have hκ0 : G.κ k0 = none := by
    cases hq : G.κ k0 with
    | none => rfl
    | some r => obtain ⟨b', hb', _⟩ := h.Msome hq; exact absurd (h.live _ _ hb') hk
  let G' : Gh := ⟨fun k => if k = k0 then some (g, cap) else G.κ k, deadOf S', G.I, w1⟩
  have hGk : ∀ k, k ≠ k0 → G'.κ k = G.κ k := fun k e => by simp [G', e]
  have hG0 : G'.κ k0 = some (g, cap) := by simp [G']
  have hle : LE G G' := by
    refine ⟨fun k r hr => .inl ?_, fun k hd => hdead k ((h.dead k).1 hd), fun b hb => hb, fun b hb => hsame b (h.lt b hb) (fun e => hI (e ▸ hb)) (fun f => (hfr b f).1 hb), fun b ds hb => ⟨hsame b (Array.getElem?_eq_some_iff.1 hb).1 (fun e => hnd b (.inl e) ds hb) (fun f => hnd b (.inr f) ds hb), fun h => h⟩⟩
    rw [hGk k (fun e => by rw [e, hκ0] at hr; cases hr)]; exact hr
  refine ⟨G', rfl, hG0, ⟨?_, ?_, fun k => Iff.rfl, ?_, ?_, ?_, ?_, ?_, ?_, ?_, ?_, h.I0, h.I1, hos.trans h.os, htape.trans h.tape, hout.trans h.output, Nat.le_trans h.size hsz, ?_, ?_⟩, hle⟩
  · intro k
    by_cases e : k = k0
    · subst e
      rw [hM0, hG0]
      exact hnew G' hle rfl
    · rw [hMk k e, hGk k e]
      refine (h.blk k).le hle fun q hq => hsame q.1 (h.apart k q hq).2 (hfree k q hq) (fun f => (hfr _ f).2.1 k q hq rfl)
  · intro k k' r r' hr hr' e
    by_cases e1 : k = k0
    · by_cases e2 : k' = k0
      · rw [e1, e2]
      · rw [e1, hG0] at hr; cases hr
        rw [hGk k' e2] at hr'
        exact absurd e.symm (hfree k' r' hr')
    · rw [hGk k e1] at hr
      by_cases e2 : k' = k0
      · rw [e2, hG0] at hr'; cases hr'
        exact absurd e (hfree k r hr)
      · rw [hGk k' e2] at hr'
        exact h.inj k k' r r' hr hr' e
  · intro k b' hb
    by_cases e : k = k0
    · exact (hold k).2 (.inr e)
    · rw [hMk k e] at hb; exact (hold k).2 (.inl (h.live k b' hb))
  · intro k r hr
    by_cases e : k = k0
    · rw [e, hG0] at hr; cases hr
      exact ⟨hI, hlt⟩
    · rw [hGk k e] at hr
      exact ⟨(h.apart k r hr).1, Nat.lt_of_lt_of_le (h.apart k r hr).2 hsz⟩
  · exact fun b hb => Nat.lt_of_lt_of_le (h.lt b hb) hsz
  · intro d c r hr
    by_cases e : Key.l d c = k0
    · rw [e, hG0] at hr; cases hr
      exact horg
    · rw [hGk _ e] at hr; exact h.loc d c r hr
  · intro k r hr
    rcases h.keep k r hr with hq | hq
    · left; rw [hGk k (fun e => by rw [e, hκ0] at hq; cases hq)]; exact hq
    · exact .inr (hdead k ((h.dead k).1 hq))
  · intro o r hr
    by_cases e : Key.h o = k0
    · rw [e, hG0] at hr; cases hr
      exact horg
    · rw [hGk _ e] at hr; exact h.heap o r hr
  · exact Nat.le_trans h.nx hnx
  · intro o ho hb
    have e : Key.h o ≠ k0 := fun e => hk (e ▸ (Nat.lt_of_lt_of_le ho h.nx : keyOld S (.h o)))
    rw [hGk _ e]; exact h.gone o ho hb
  · intro b' hb hq
    have e : b' ≠ g := by
      rintro rfl
      rcases horg with ho | ⟨k, r', ho, h2⟩
      · omega
      · exact hq k r' ho h2
    rw [hsame b' (Nat.lt_of_lt_of_le hb h.size) e (fun f => (hfr b' f).2.2.elim (fun q => by omega) (fun ⟨k, r', e1, e2⟩ => hq k r' e1 e2))]
    exact h.same b' hb hq
  · intro k b' hb
    by_cases e : k = k0
    · rw [e, hM0] at hb; cases hb; rw [e]; exact hno
    · rw [hMk k e] at hb; exact h.hno k b' hb

/-- a row of cells more -/
theorem MRel.add (h : MRel B S G) (fr : Nat → Prop) (hfr : ∀ q, fr q → ¬ G.I q ∧ (∀ k r, G.κ k = some r → r.1 ≠ q) ∧ (B.w.heap.size ≤ q ∨ ∃ k r', B.κ k = some r' ∧ r'.1 = q)) {k0 : Key} {b : Blk} (hno : hOk k0 b.cells = true) (hk : ¬ keyOld S k0) (hM : S'.M = updK S.M k0 (some b)) (hold : ∀ k, keyOld S' k ↔ keyOld S k ∨ k = k0) (hnx : S.nx ≤ S'.nx)
    {g cap : Nat} {w1 : World} (hI : ¬ G.I g) (hfree : ∀ k r, G.κ k = some r → r.1 ≠ g) (horg : B.w.heap.size ≤ g ∨ ∃ k r', B.κ k = some r' ∧ r'.1 = g)
    (hos : w1.os = G.w.os) (htape : w1.tape = G.w.tape) (hout : w1.output = G.w.output) (hsz : G.w.heap.size ≤ w1.heap.size) (hsame : ∀ q, q < G.w.heap.size → q ≠ g → ¬ fr q → w1.heap[q]? = G.w.heap[q]?) (hnd : ∀ q, (q = g ∨ fr q) → ∀ ds, G.w.heap[q]? ≠ some (.deferred ds))
    {cur : Array Value} (hcur : w1.heap[g]? = some (.cells cur b.e (0, 0))) (hcs : cur.size = cap * b.sz) (hcap : cap ≤ maxLen) (hbs : 0 < b.sz) (hlen : b.cells.length ≤ cur.size)
    (hvr : ∀ (j : Nat) (u : AV) (x : Value), b.cells[j]? = some u → cur[j]? = some x → VR G u x) (h1 : ∀ (j : Nat) (x : Value), j < b.cells.length → cur[j]? = some x → x.oneCell' = true) :
    ∃ G', G'.w = w1 ∧ G'.κ k0 = some (g, cap) ∧ MRel B S' G' ∧ LE G G' :=
  h.addG fr hfr hno hk hM hold hnx hI hfree horg hos htape hout hsz hsame (lt_of_block hcur) hnd fun G' hle hw => (BlkOpt.cell (Nat.ne_of_gt hbs)).2 ⟨cur, by rw [hw]; exact hcur, hcs, hcap, hbs, hlen, fun j u x a c => (hvr j u x a c).le hle, h1⟩

/-- a place is gone; its block may never turn again ('pub'), or is left to whoever takes it -/
theorem MRel.kill (h : MRel B S G) (pub : Bool) {k0 : Key} {r0 : Nat × Nat} (hk : G.κ k0 = some r0) (hS : S' = { S with M := updK S.M k0 none }) :
    ∃ G', G'.w = G.w ∧ (pub = true → G'.I r0.1) ∧ (pub = false → G'.I = G.I ∧ ∀ k r, G'.κ k = some r → r.1 ≠ r0.1) ∧ MRel B S' G' ∧ LE G G' := by
  subst hS
  have hMk : ∀ k, k ≠ k0 → updK S.M k0 none k = S.M k := fun k e => by simp [updK, e]
  have hM0 : updK S.M k0 none k0 = none := by simp [updK]
  obtain ⟨b0, hb0, _⟩ := h.Msome hk
  let S1 : St := { S with M := updK S.M k0 none }
  have hold : ∀ k, keyOld S1 k ↔ keyOld S k := fun k => by cases k <;> rfl
  have hdead : ∀ k, deadOf S k → deadOf S1 k := by
    rintro k ⟨a, c⟩
    refine ⟨?_, (hold k).2 c⟩
    by_cases e : k = k0
    · rw [e]; exact hM0
    · exact (hMk k e).trans a
  have hd0 : deadOf S1 k0 := ⟨hM0, (hold k0).2 (h.live _ _ hb0)⟩
  let G' : Gh := ⟨fun k => if k = k0 then none else G.κ k, deadOf S1, fun b => G.I b ∨ (pub = true ∧ b = r0.1), G.w⟩
  have hGk : ∀ k, k ≠ k0 → G'.κ k = G.κ k := fun k e => by simp [G', e]
  have hG0 : G'.κ k0 = none := by simp [G']
  have hle : LE G G' := by
    refine ⟨fun k r hr => ?_, fun k hd => hdead k ((h.dead k).1 hd), fun b hb => .inl hb, fun _ _ => rfl, fun b ds hb => ⟨rfl, fun hI => hI.elim id fun ⟨_, e⟩ => absurd (e ▸ hb) (h.notDfr hk ds)⟩⟩
    by_cases e : k = k0
    · right; rw [e]; exact hd0
    · left; rw [hGk k e]; exact hr
  have hsome : ∀ k r, G'.κ k = some r → G.κ k = some r ∧ k ≠ k0 := by
    intro k r hr
    by_cases e : k = k0
    · rw [e, hG0] at hr; cases hr
    · rw [hGk k e] at hr; exact ⟨hr, e⟩
  have hne : ∀ k r, G'.κ k = some r → r.1 ≠ r0.1 := fun k r hr e => (hsome k r hr).2 (h.inj k k0 r r0 (hsome k r hr).1 hk e)
  refine ⟨G', rfl, fun hp => .inr ⟨hp, rfl⟩, fun hp => ⟨?_, hne⟩, ⟨?_, ?_, fun k => Iff.rfl, ?_, ?_, ?_, ?_, ?_, ?_, h.nx, ?_, fun b hb => .inl (h.I0 b hb), ?_, h.os, h.tape, h.output, h.size, h.same, ?_⟩, hle⟩
  · subst hp; funext b; simp [G']
  · intro k
    by_cases e : k = k0
    · rw [e, hG0, show S1.M k0 = none from hM0]; trivial
    · rw [hGk k e, show S1.M k = S.M k from hMk k e]
      exact (h.blk k).le hle fun q hq => rfl
  · exact fun k k' r r' hr hr' e => h.inj k k' r r' (hsome k r hr).1 (hsome k' r' hr').1 e
  · intro k b' hb
    by_cases e : k = k0
    · rw [e, show S1.M k0 = none from hM0] at hb; cases hb
    · rw [show S1.M k = S.M k from hMk k e] at hb; exact (hold k).2 (h.live k b' hb)
  · intro k r hr
    refine ⟨?_, (h.apart k r (hsome k r hr).1).2⟩
    rintro (hi | ⟨_, hi⟩)
    · exact (h.apart k r (hsome k r hr).1).1 hi
    · exact hne k r hr hi
  · rintro b (hb | ⟨_, hb⟩)
    · exact h.lt b hb
    · rw [hb]; exact (h.apart k0 r0 hk).2
  · exact fun d c r hr => h.loc d c r (hsome _ r hr).1
  · intro k r hr
    rcases h.keep k r hr with hq | hq
    · by_cases e : k = k0
      · right; rw [e]; exact hd0
      · left; rw [hGk k e]; exact hq
    · exact .inr (hdead k ((h.dead k).1 hq))
  · exact fun o r hr => h.heap o r (hsome _ r hr).1
  · intro o ho hb
    by_cases e : Key.h o = k0
    · rw [e]; exact hG0
    · rw [hGk _ e]; exact h.gone o ho hb
  · rintro b (hb | ⟨_, hb⟩)
    · exact h.I1 b hb
    · subst hb
      cases k0 with
      | l d c => rcases h.loc d c r0 hk with hq | ⟨k, r', e1, e2⟩
                 · exact .inr (.inl hq)
                 · exact .inr (.inr ⟨k, r', e1, e2⟩)
      | h o => rcases h.heap o r0 hk with hq | ⟨k, r', e1, e2⟩
               · exact .inr (.inl hq)
               · exact .inr (.inr ⟨k, r', e1, e2⟩)
  · intro k b' hb
    by_cases e : k = k0
    · rw [e, show S1.M k0 = none from hM0] at hb; cases hb
    · rw [show S1.M k = S.M k from hMk k e] at hb; exact h.hno k b' hb

/-- a place's content turns -/
theorem MRel.setG (h : MRel B S G) {k0 : Key} {b b' : Blk} {g cap : Nat} {w1 : World} (hno : hOk k0 b'.cells = true) (hk : G.κ k0 = some (g, cap)) (hb : S.M k0 = some b) (hS : S' = { S with M := updK S.M k0 (some b') })
    (hos : w1.os = G.w.os) (htape : w1.tape = G.w.tape) (hout : w1.output = G.w.output) (hsize : w1.heap.size = G.w.heap.size) (hsame : ∀ q, q ≠ g → w1.heap[q]? = G.w.heap[q]?)
    (hnew : ∀ G' : Gh, LE G G' → G'.w = w1 → BlkOpt G' (some b') (some (g, cap))) :
    ∃ G', G'.w = w1 ∧ MRel B S' G' ∧ LE G G' := by
  subst hS
  have hMk : ∀ k, k ≠ k0 → updK S.M k0 (some b') k = S.M k := fun k e => by simp [updK, e]
  have hM0 : updK S.M k0 (some b') k0 = some b' := by simp [updK]
  let S1 : St := { S with M := updK S.M k0 (some b') }
  have hold : ∀ k, keyOld S1 k ↔ keyOld S k := fun k => by cases k <;> rfl
  have hdd : ∀ k, deadOf S k ↔ deadOf S1 k := by
    intro k
    by_cases e : k = k0
    · constructor
      · rintro ⟨a, _⟩; rw [e, hb] at a; cases a
      · rintro ⟨a, _⟩; rw [e, show S1.M k0 = some b' from hM0] at a; cases a
    · exact ⟨fun ⟨a, c⟩ => ⟨(hMk k e).trans a, (hold k).2 c⟩, fun ⟨a, c⟩ => ⟨(hMk k e).symm.trans a, (hold k).1 c⟩⟩
  let G' : Gh := ⟨G.κ, G.dead, G.I, w1⟩
  have hle : LE G G' := ⟨fun _ _ hr => .inl hr, fun _ hd => hd, fun _ hb => hb, fun q hq => hsame q (fun e => (h.apart k0 _ hk).1 (e ▸ hq)), fun q ds hq => ⟨hsame q (fun e => h.notDfr hk ds (e ▸ hq)), fun h => h⟩⟩
  refine ⟨G', rfl, ⟨?_, h.inj, fun k => (h.dead k).trans (hdd k), ?_, fun k r hr => ⟨(h.apart k r hr).1, ?_⟩, fun b hb => ?_, h.loc, h.keep, h.heap, h.nx, h.gone, h.I0, h.I1, hos.trans h.os, htape.trans h.tape, hout.trans h.output, ?_, ?_, ?_⟩, hle⟩
  · intro k
    by_cases e : k = k0
    · rw [e, show S1.M k0 = some b' from hM0, show G'.κ k0 = some (g, cap) from hk]
      exact hnew G' hle rfl
    · rw [show S1.M k = S.M k from hMk k e]
      exact (h.blk k).le hle fun q hq => hsame q.1 (fun e2 => e (h.inj k k0 q _ hq hk e2))
  · intro k b2 hb2
    by_cases e : k = k0
    · rw [e]; exact (hold k0).2 (h.live _ _ hb)
    · rw [show S1.M k = S.M k from hMk k e] at hb2; exact (hold k).2 (h.live k b2 hb2)
  · show r.1 < w1.heap.size
    rw [hsize]; exact (h.apart k r hr).2
  · show b < w1.heap.size
    rw [hsize]; exact h.lt b hb
  · show B.w.heap.size ≤ w1.heap.size
    rw [hsize]; exact h.size
  · intro q hq hn
    have : q ≠ g := by
      rintro rfl
      cases k0 with
      | l d c => rcases h.loc d c _ hk with hh | ⟨k, r', e1, e2⟩
                 · simp only at hh; omega
                 · exact hn k r' e1 e2
      | h o => rcases h.heap o _ hk with hh | ⟨k, r', e1, e2⟩
               · simp only at hh; omega
               · exact hn k r' e1 e2
    exact (hsame q this).trans (h.same q hq hn)
  · intro k b2 hb2
    by_cases e : k = k0
    · rw [e, show S1.M k0 = some b' from hM0] at hb2; cases hb2; rw [e]; exact hno
    · rw [show S1.M k = S.M k from hMk k e] at hb2; exact h.hno k b2 hb2

/-- a row's cells turn -/
theorem MRel.set (h : MRel B S G) {k0 : Key} {b b' : Blk} {g cap : Nat} {w1 : World} (hno : hOk k0 b'.cells = true) (hk : G.κ k0 = some (g, cap)) (hb : S.M k0 = some b) (hS : S' = { S with M := updK S.M k0 (some b') }) (hsz : b'.sz = b.sz) (he : b'.e = b.e)
    (hos : w1.os = G.w.os) (htape : w1.tape = G.w.tape) (hout : w1.output = G.w.output) (hsize : w1.heap.size = G.w.heap.size) (hsame : ∀ q, q ≠ g → w1.heap[q]? = G.w.heap[q]?) (hbz : b.sz ≠ 0)
    {cur : Array Value} (hcur : w1.heap[g]? = some (.cells cur b.e (0, 0))) (hcs : cur.size = cap * b.sz) (hlen : b'.cells.length ≤ cur.size)
    (hvr : ∀ (j : Nat) (u : AV) (x : Value), b'.cells[j]? = some u → cur[j]? = some x → VR G u x) (h1 : ∀ (j : Nat) (x : Value), j < b'.cells.length → cur[j]? = some x → x.oneCell' = true) :
    ∃ G', G'.w = w1 ∧ MRel B S' G' ∧ LE G G' := by
  have hb0 : BlkOk G b g cap := by obtain ⟨b2, e2, e3⟩ := h.Msome hk; rw [hb] at e2; cases e2; exact (BlkOpt.cell hbz).1 e3
  obtain ⟨cur0, q1, q2, q3, q4, q5, q6, q7⟩ := hb0
  exact h.setG hno hk hb hS hos htape hout hsize hsame fun G' hle hw => (BlkOpt.cell (by rw [hsz]; exact hbz)).2 ⟨cur, by rw [hw, he]; exact hcur, by rw [hsz]; exact hcs, q3, by rw [hsz]; exact q4, hlen, fun j u x a c => (hvr j u x a c).le hle, h1⟩

/-- draws and the like -/
theorem MRel.same_heap (h : MRel B S G) {w1 : World} (hh : w1.heap = G.w.heap) (hos : w1.os = G.w.os) (htape : w1.tape = G.w.tape) (hout : w1.output = G.w.output) :
    ∃ G', G'.w = w1 ∧ MRel B S G' ∧ LE G G' := by
  let G' : Gh := ⟨G.κ, G.dead, G.I, w1⟩
  have hle : LE G G' := ⟨fun _ _ hr => .inl hr, fun _ hd => hd, fun _ hb => hb, fun q _ => by show w1.heap[q]? = _; rw [hh], fun q _ _ => ⟨by show w1.heap[q]? = _; rw [hh], fun h => h⟩⟩
  refine ⟨G', rfl, ⟨fun k => (h.blk k).le hle fun q _ => (by show w1.heap[q.1]? = _; rw [hh]), h.inj, h.dead, h.live, fun k r hr => ⟨(h.apart k r hr).1, ?_⟩, fun b hb => ?_, h.loc, h.keep, h.heap, h.nx, h.gone, h.I0, h.I1, hos.trans h.os, htape.trans h.tape, hout.trans h.output, ?_, ?_, h.hno⟩, hle⟩
  · show r.1 < w1.heap.size; rw [hh]; exact (h.apart k r hr).2
  · show b < w1.heap.size; rw [hh]; exact h.lt b hb
  · show _ ≤ w1.heap.size; rw [hh]; exact h.size
  · intro b hb hq
    show w1.heap[b]? = _
    rw [hh]; exact h.same b hb hq

theorem MRel.fr (h : MRel B S G) (f : Nat → AV) : MRel B { S with fr := f } G := { h with }

/-- the block of a range over a function is shut -/
theorem MRel.take (h : MRel B S G) {r : Nat} {o : Obj} (hr : ∀ k q, G.κ k = some q → q.1 ≠ r) (hI : ¬ G.I r) (hB : B.w.heap.size ≤ r) : ∃ G', G'.w = G.w.putObj r o ∧ G'.I = G.I ∧ MRel B S G' ∧ LE0 G G' := by
  let G' : Gh := ⟨G.κ, G.dead, G.I, G.w.putObj r o⟩
  have hsame : ∀ q, q ≠ r → G'.w.heap[q]? = G.w.heap[q]? := fun q hq => World.putObj_heap_other hq
  have hsz : G'.w.heap.size = G.w.heap.size := World.putObj_size
  have hle : LE0 G G' := ⟨fun _ _ hr => .inl hr, fun _ hd => hd, fun _ hb => hb, fun q hq => hsame q (fun e => hI (e ▸ hq))⟩
  refine ⟨G', rfl, rfl, ⟨fun k => (h.blk k).le0 hle fun q hq => hsame q.1 (hr k q hq), h.inj, h.dead, h.live, fun k q hq => ⟨(h.apart k q hq).1, by rw [hsz]; exact (h.apart k q hq).2⟩, fun b hb => by rw [hsz]; exact h.lt b hb, h.loc, h.keep, h.heap, h.nx, h.gone, h.I0, h.I1, h.os, h.tape, h.output, by rw [hsz]; exact h.size, ?_, h.hno⟩, hle⟩
  intro b hb hq
  exact (hsame b (by omega)).trans (h.same b hb hq)
end
end Go.AV

