/-
  States as data ('KS'): slots and own places as lists, each place named by its site alone; an abstract state may be told anew as such a state (places renamed, forgotten, or for good).
-/
import Derived.Test.YteoohihaibgplaaDoorAvW
namespace Go.AV
open Go.RowKit Go.RG Go.Lib

structure KB where
  e : Nat
  sz : Nat
  cells : List AV
  q : Bool
def KB.blk (b : KB) : Blk := ⟨b.e, b.sz, b.cells⟩

structure KS where
  fr : List (Nat × AV)
  mem : List (Nat × KB)
  H : Hp
  nx : Nat

def lkF : List (Nat × AV) → Nat → AV
  | [], _ => .un
  | p :: r, t => match Nat.beq p.1 t with
    | true => p.2
    | false => lkF r t
def lkM : List (Nat × KB) → Nat → Option KB
  | [], _ => none
  | p :: r, t => match Nat.beq p.1 t with
    | true => some p.2
    | false => lkM r t
def KS.M (ks : KS) : Key → Option Blk
  | .h o => ks.H o
  | .l d c => match Nat.beq c 1 with
    | true => (lkM ks.mem d).map KB.blk
    | false => none
def toS (ks : KS) : St := ⟨lkF ks.fr, ks.M, fun _ => 1, ks.nx⟩
def KOk (ks : KS) : Prop := ∀ d b, lkM ks.mem d = some b → b.sz ≠ 0 ∧ (b.q = true → noLs b.cells = true)

theorem nbeq {a b : Nat} : Nat.beq a b = true ↔ a = b := ⟨Nat.eq_of_beq_eq_true, fun h => h ▸ Nat.beq_refl a⟩
theorem lkF_cons (p : Nat × AV) (r : List (Nat × AV)) (t : Nat) : lkF (p :: r) t = if p.1 = t then p.2 else lkF r t := by
  simp only [lkF]
  by_cases h : p.1 = t
  · rw [if_pos h, nbeq.2 h]
  · rw [if_neg h]
    cases hb : Nat.beq p.1 t with
    | true => exact absurd (nbeq.1 hb) h
    | false => rfl
theorem lkM_cons (p : Nat × KB) (r : List (Nat × KB)) (t : Nat) : lkM (p :: r) t = if p.1 = t then some p.2 else lkM r t := by
  simp only [lkM]
  by_cases h : p.1 = t
  · rw [if_pos h, nbeq.2 h]
  · rw [if_neg h]
    cases hb : Nat.beq p.1 t with
    | true => exact absurd (nbeq.1 hb) h
    | false => rfl
theorem M_l1 (ks : KS) (d : Nat) : ks.M (.l d 1) = (lkM ks.mem d).map KB.blk := rfl
theorem M_lc (ks : KS) {d c : Nat} {b : Blk} (h : ks.M (.l d c) = some b) : c = 1 ∧ ∃ kb, lkM ks.mem d = some kb ∧ b = kb.blk := by
  simp only [KS.M] at h
  split at h
  · rename_i hc
    obtain ⟨kb, h1, h2⟩ := Option.map_eq_some_iff.1 h
    exact ⟨nbeq.1 hc, kb, h1, h2.symm⟩
  · cases h

/-! ### told anew -/
inductive RV (ρ : Nat → Option (Nat × Nat)) (S : St) (p : Nat × Nat → Prop) : AV → AV → Prop
  | no (u : AV) (h : u.noL = true) : RV ρ S p u u
  | un (v : AV) : RV ρ S p .un v
  | gs (d n : Nat) (k : Nat × Nat) (h : ρ d = some k) : RV ρ S p (.gs (.l d 1) n) (.gs (.l k.1 k.2) n)
  | pt (d off : Nat) (k : Nat × Nat) (h : ρ d = some k) : RV ρ S p (.pt (.l d 1) off) (.pt (.l k.1 k.2) off)
  | pub (k : Nat × Nat) (n : Nat) (b : Blk) (hp : p k) (hm : S.M (.l k.1 k.2) = some b) (hl : b.cells.length = n * b.sz) (hz : b.sz ≠ 0) (hq : noLs b.cells = true) : RV ρ S p (.sl false n b.cells) (.gs (.l k.1 k.2) n)
  | nil : RV ρ S p (.sl false 0 []) (.sl true 0 [])
  | ep (xs : List AV) (off w : Nat) : RV ρ S p (.ep ((xs.drop off).take w) 0) (.ep xs off)
  | agg (us vs : List AV) (hl : us.length = vs.length) (h : ∀ (j : Nat) (u v : AV), us[j]? = some u → vs[j]? = some v → RV ρ S p u v) : RV ρ S p (.agg us) (.agg vs)
  | tup (us vs : List AV) (hl : us.length = vs.length) (h : ∀ (j : Nat) (u v : AV), us[j]? = some u → vs[j]? = some v → RV ρ S p u v) : RV ρ S p (.tup us) (.tup vs)
  | fn (f : Fn) (us vs us' vs' : List AV) (hl : us.length = vs.length) (h : ∀ (j : Nat) (u v : AV), us[j]? = some u → vs[j]? = some v → RV ρ S p u v) (hl' : us'.length = vs'.length) (h' : ∀ (j : Nat) (u v : AV), us'[j]? = some u → vs'[j]? = some v → RV ρ S p u v) : RV ρ S p (.fn f us us') (.fn f vs vs')

def RVL (ρ : Nat → Option (Nat × Nat)) (S : St) (p : Nat × Nat → Prop) (us vs : List AV) : Prop := us.length = vs.length ∧ ∀ (j : Nat) (u v : AV), us[j]? = some u → vs[j]? = some v → RV ρ S p u v

structure ReK (S : St) (ks : KS) (ρ : Nat → Option (Nat × Nat)) (p : Nat × Nat → Prop) : Prop where
  dom : ∀ d b1, lkM ks.mem d = some b1 → ∃ k, ρ d = some k
  at' : ∀ d k, ρ d = some k → ∃ b b1, S.M (.l k.1 k.2) = some b ∧ b.sz ≠ 0 ∧ lkM ks.mem d = some b1 ∧ b1.e = b.e ∧ b1.sz = b.sz ∧ RVL ρ S p b1.cells b.cells
  inj : ∀ d d' k, ρ d = some k → ρ d' = some k → d = d'
  disj : ∀ k d, p k → ρ d ≠ some k
  pub : ∀ k, p k → ∃ b, S.M (.l k.1 k.2) = some b ∧ b.sz ≠ 0
  fr : ∀ t, RV ρ S p (lkF ks.fr t) (S.fr t)
  H : ∀ o, S.M (.h o) = ks.H o
  nx : S.nx = ks.nx
  fix : ∀ d k, 2000000 ≤ d → ρ d = some k → k = (d, 1)
/-- the caller's places that a function was lent -/
def LentB (B : Base) : Prop := ∀ d c r, B.κ (.l d c) = some r → c = 1 ∧ 2000000 ≤ d
theorem LentB.none {B : Base} (h : ∀ d c, B.κ (.l d c) = none) : LentB B := fun d c r e => by rw [h] at e; cases e

section
variable {B : Base} {N : Nat} {S : St} {a : Act} {G : Gh} {ks : KS} {ρ : Nat → Option (Nat × Nat)} {p : Nat × Nat → Prop}

theorem RV.go (hR : ReK S ks ρ p) (hM : MRel B S G) {G1 : Gh} (f1 : ∀ d k r, ρ d = some k → G.κ (.l k.1 k.2) = some r → G1.κ (.l d 1) = some r) (f2 : ∀ o r, G.κ (.h o) = some r → G1.κ (.h o) = some r) (f3 : ∀ o, G.dead (.h o) → G1.dead (.h o))
    (f4 : ∀ b, G.I b → G1.I b) (f5 : G1.w = G.w) (f6 : ∀ k r, p k → G.κ (.l k.1 k.2) = some r → G1.I r.1) : ∀ {u v : AV}, RV ρ S p u v → ∀ {x : Value}, VR G v x → VR G1 u x := by
  intro u v h
  induction h with
  | no u h => exact fun hx => VR.noL f2 f3 f4 f5 hx h
  | un v => exact fun _ => .un _
  | gs d n k h =>
    intro x hx
    obtain ⟨b, b1, q1, _⟩ := hR.at' d k h
    obtain ⟨g, cap, hk, e⟩ := hx.gs_inv hM (by simp [liveB, q1])
    rw [e]; exact .gs _ n g cap (f1 d k _ h hk)
  | pt d off k h =>
    intro x hx
    obtain ⟨b, b1, q1, _⟩ := hR.at' d k h
    obtain ⟨g, cap, hk, e⟩ := hx.pt_inv hM (by simp [liveB, q1])
    rw [e]; exact .pt _ off g cap (f1 d k _ h hk)
  | pub k n b hp hm hl hz hq =>
    intro x hx
    obtain ⟨g, cap, hk, e⟩ := hx.gs_inv hM (by simp [liveB, hm])
    obtain ⟨r, hr, hb⟩ := hM.κcell hm hz
    rw [hk] at hr; cases hr
    obtain ⟨cur, c1, c2, c3, c4, c5, c6, c7⟩ := hb
    have hnc : n ≤ cap := by
      have : n * b.sz ≤ cap * b.sz := by rw [← hl, ← c2]; exact c5
      exact Nat.le_of_mul_le_mul_right this c4
    rw [e]
    have hcell : ∀ (j : Nat) (u : AV), b.cells[j]? = some u → ∃ x, cur[j]? = some x := by
      intro j u hu
      have hj : j < cur.size := Nat.lt_of_lt_of_le (List.getElem?_eq_some_iff.1 hu).1 c5
      exact ⟨cur[j], Array.getElem?_eq_getElem hj⟩
    refine .sl n b.cells g 0 cap (fun j => (cur[j]?).getD undef) (f6 k _ hp hk) ?_ ?_ ?_ hnc (Nat.le_trans hnc c3) hq
    · intro j u hu
      obtain ⟨x, hx⟩ := hcell j u hu
      rw [f5]
      simp only [World.cell?, Nat.zero_add]
      simp [c1, hx]
    · intro j u hu
      obtain ⟨x, hx⟩ := hcell j u hu
      rw [hx]; exact VR.noL f2 f3 f4 f5 (c6 j u x hu hx) (noLs_at hq j u hu)
    · intro j u hu
      obtain ⟨x, hx⟩ := hcell j u hu
      rw [hx]; exact c7 j x (List.getElem?_eq_some_iff.1 hu).1 hx
  | nil => intro x hx; rw [hx.nsl_inv.1]; exact .nsl _ _ _ rfl rfl
  | ep xs off w =>
    intro x hx
    obtain ⟨b, base, f, e, a1, a2, a3, a4, a5⟩ := hx.ep_inv
    rw [e, show base + off = (base + off) + 0 from rfl]
    have hsub : ∀ (j : Nat) (u : AV), ((xs.drop off).take w)[j]? = some u → xs[off + j]? = some u := by
      intro j u hu
      simp only [List.getElem?_take, List.getElem?_drop] at hu
      split at hu
      · exact hu
      · cases hu
    refine .ep _ 0 b (base + off) (fun j => f (off + j)) (f4 b a1) ?_ ?_ ?_ (noLs_sub (fun u hu => List.mem_of_mem_drop (List.mem_of_mem_take hu)) a5)
    · intro j u hu; have := a2 _ u (hsub j u hu); rw [f5, Nat.add_assoc]; exact this
    · intro j u hu; exact VR.noL f2 f3 f4 f5 (a3 _ u (hsub j u hu)) (noLs_at a5 _ u (hsub j u hu))
    · intro j u hu; exact a4 _ u (hsub j u hu)
  | agg us vs hl h ih =>
    intro x hx
    obtain ⟨xs, e, h1, h2, h3⟩ := hx.agg_inv
    rw [e]
    refine .agg us xs (by rw [h1, hl]) (fun j u x hu hx => ?_) h3
    have hj : j < vs.length := by rw [← hl]; exact (List.getElem?_eq_some_iff.1 hu).1
    exact ih j u vs[j] hu (List.getElem?_eq_getElem hj) (h2 j _ x (List.getElem?_eq_getElem hj) hx)
  | tup us vs hl h ih =>
    intro x hx
    obtain ⟨xs, e, h1, h2⟩ := hx.tup_inv
    rw [e]
    refine .tup us xs (by rw [h1, hl]) (fun j u x hu hx => ?_)
    have hj : j < vs.length := by rw [← hl]; exact (List.getElem?_eq_some_iff.1 hu).1
    exact ih j u vs[j] hu (List.getElem?_eq_getElem hj) (h2 j _ x (List.getElem?_eq_getElem hj) hx)
  | fn f us vs us' vs' hl h hl' h' ih ih' =>
    intro x hx
    obtain ⟨xa, xc, e, h1, h2, h3, h4⟩ := hx.fn_inv
    rw [e]
    refine .fn f us us' xa xc (by rw [h1, hl]) (by rw [h2, hl']) (fun j u x hu hx => ?_) (fun j u x hu hx => ?_)
    · have hj : j < vs.length := by rw [← hl]; exact (List.getElem?_eq_some_iff.1 hu).1
      exact ih j u vs[j] hu (List.getElem?_eq_getElem hj) (h3 j _ x (List.getElem?_eq_getElem hj) hx)
    · have hj : j < vs'.length := by rw [← hl']; exact (List.getElem?_eq_some_iff.1 hu).1
      exact ih' j u vs'[j] hu (List.getElem?_eq_getElem hj) (h4 j _ x (List.getElem?_eq_getElem hj) hx)

theorem rek_ok (h : Rel B N S a G) (hB : LentB B) (hR : ReK S ks ρ p) : ∃ G1, G1.w = G.w ∧ Rel B N (toS ks) a G1 := by
  have hM := h.toMRel
  let κ1 : Key → Option (Nat × Nat) := fun k => match k with
    | .h o => G.κ (.h o)
    | .l d c => if c = 1 then (ρ d).bind fun k => G.κ (.l k.1 k.2) else none
  let G1 : Gh := ⟨κ1, deadOf (toS ks), fun b => G.I b ∨ ∃ k r, p k ∧ G.κ (.l k.1 k.2) = some r ∧ r.1 = b, G.w⟩
  have f1 : ∀ d k r, ρ d = some k → G.κ (.l k.1 k.2) = some r → G1.κ (.l d 1) = some r := by
    intro d k r h1 h2
    show (if 1 = 1 then (ρ d).bind fun k => G.κ (.l k.1 k.2) else none) = some r
    simp [h1, h2]
  have hinv : ∀ d c r, κ1 (.l d c) = some r → c = 1 ∧ ∃ k, ρ d = some k ∧ G.κ (.l k.1 k.2) = some r := by
    intro d c r hr
    have hr' : (if c = 1 then (ρ d).bind fun k => G.κ (.l k.1 k.2) else none) = some r := hr
    split at hr'
    · rename_i hc
      obtain ⟨k, h1, h2⟩ := Option.bind_eq_some_iff.1 hr'
      exact ⟨hc, k, h1, h2⟩
    · cases hr'
  have f3 : ∀ o, G.dead (.h o) → G1.dead (.h o) := by
    intro o hd
    obtain ⟨h1, h2⟩ := (hM.dead _).1 hd
    refine ⟨?_, ?_⟩
    · show ks.H o = none
      rw [← hR.H]; exact h1
    · show o < ks.nx
      rw [← hR.nx]; exact h2
  have f6 : ∀ k r, p k → G.κ (.l k.1 k.2) = some r → G1.I r.1 := fun k r h1 h2 => .inr ⟨k, r, h1, h2, rfl⟩
  have go : ∀ {u v : AV}, RV ρ S p u v → ∀ {x : Value}, VR G v x → VR G1 u x := RV.go (G1 := G1) hR hM f1 (fun _ _ q => q) f3 (fun _ q => .inl q) rfl f6
  have hno : ∀ {u : AV} {x : Value}, VR G u x → u.noL = true → VR G1 u x := VR.noL (G := G) (G' := G1) (fun _ _ q => q) f3 (fun _ q => .inl q) rfl
  refine ⟨G1, rfl, ?_⟩
  refine { blk := ?_, inj := ?_, dead := fun k => Iff.rfl, live := ?_, apart := ?_, lt := ?_, loc := ?_, keep := ?_, heap := ?_, nx := ?_, gone := ?_, I0 := fun b hb => .inl (h.I0 b hb), I1 := ?_, os := h.os, tape := h.tape, output := h.output, size := h.size, same := h.same, hno := ?_, defers := ?_, tsize := h.tsize, slot := ?_ }
  · intro k
    cases k with
    | h o =>
      have hb := h.blk (.h o)
      have hn := h.hno (.h o)
      show BlkOpt G1 (ks.H o) (G.κ (.h o))
      rw [← hR.H]
      revert hb hn
      cases S.M (.h o) with
      | none => cases G.κ (.h o) <;> exact fun x _ => x
      | some b => cases G.κ (.h o) with
        | none => exact fun x _ => x
        | some r =>
          intro this hn
          by_cases hz : b.sz = 0
          · obtain ⟨q, j, fr, c1, c2, c3, c4, c5⟩ := (BlkOpt.loop hz).1 this
            have hnf : noLs fr = true := by have := hn b rfl; simp only [hOk, c1, noLs, Bool.and_eq_true] at this; exact this.2
            exact (BlkOpt.loop hz).2 ⟨q, j, fr, c1, c2, c3, c4, fun t u x p q => hno (c5 t u x p q) (noLs_at hnf t u p)⟩
          obtain ⟨cur, c1, c2, c3, c4, c5, c6, c7⟩ := (BlkOpt.cell hz).1 this
          exact (BlkOpt.cell hz).2 ⟨cur, c1, c2, c3, c4, c5, fun j u x p q => hno (c6 j u x p q) (noLs_at (hn b rfl) j u p), c7⟩
    | l d c =>
      show BlkOpt G1 (ks.M (.l d c)) (κ1 (.l d c))
      by_cases hc : c = 1
      · subst hc
        rw [M_l1]
        cases hl : lkM ks.mem d with
        | none =>
          have : κ1 (.l d 1) = none := by
            cases hk : κ1 (.l d 1) with
            | none => rfl
            | some r =>
              obtain ⟨_, k, h1, h2⟩ := hinv d 1 r hk
              obtain ⟨b, b1, q1, q2, q3, _⟩ := hR.at' d k h1
              rw [hl] at q3; cases q3
          rw [this]; trivial
        | some kb =>
          obtain ⟨k, hk⟩ := hR.dom d kb hl
          obtain ⟨b, b1, q1, q2, q3, q4, q5, q6, q7⟩ := hR.at' d k hk
          rw [hl] at q3; cases q3
          obtain ⟨r, hr, hb⟩ := hM.κcell q1 q2
          have hk1 : κ1 (.l d 1) = some r := f1 d k r hk hr
          rw [hk1]
          have hz : kb.blk.sz ≠ 0 := by show kb.sz ≠ 0; rw [q5]; exact q2
          refine (BlkOpt.cell hz).2 ?_
          obtain ⟨cur, c1, c2, c3, c4, c5, c6, c7⟩ := hb
          refine ⟨cur, by show G.w.heap[r.1]? = _; rw [c1]; show _ = some (Obj.cells cur kb.e (0, 0)); rw [q4], by show cur.size = r.2 * kb.sz; rw [q5]; exact c2, c3, by show 0 < kb.sz; rw [q5]; exact c4, by show kb.cells.length ≤ _; rw [q6]; exact c5, ?_, ?_⟩
          · intro j u x hu hx
            have hj : j < b.cells.length := by rw [← q6]; exact (List.getElem?_eq_some_iff.1 hu).1
            exact go (q7 j u _ hu (List.getElem?_eq_getElem hj)) (c6 j _ x (List.getElem?_eq_getElem hj) hx)
          · intro j x hj hx; exact c7 j x (by rw [← q6]; exact hj) hx
      · have h1 : ks.M (.l d c) = none := by
          cases hm : ks.M (.l d c) with
          | none => rfl
          | some b => exact absurd (M_lc ks hm).1 hc
        have h2 : κ1 (.l d c) = none := by
          cases hk : κ1 (.l d c) with
          | none => rfl
          | some r => exact absurd (hinv d c r hk).1 hc
        rw [h1, h2]; trivial
  · intro k k' r r' hr hr' e
    cases k with
    | h o => cases k' with
      | h o' => exact h.inj _ _ r r' hr hr' e
      | l d c =>
        obtain ⟨_, k, h1, h2⟩ := hinv d c r' hr'
        have := h.inj _ _ r r' hr h2 e; cases this
    | l d c =>
      obtain ⟨rfl, k, h1, h2⟩ := hinv d c r hr
      cases k' with
      | h o' => have := h.inj _ _ r r' h2 hr' e; cases this
      | l d' c' =>
        obtain ⟨rfl, k', h3, h4⟩ := hinv d' c' r' hr'
        have := h.inj _ _ r r' h2 h4 e
        simp only [Key.l.injEq] at this
        have e1 : k = k' := Prod.ext this.1 this.2
        subst e1
        rw [hR.inj d d' k h1 h3]
  · intro k b hb
    cases k with
    | h o =>
      have : o < S.nx := h.live (.h o) b (by rw [hR.H]; exact hb)
      show o < ks.nx
      rw [← hR.nx]; exact this
    | l d c => obtain ⟨rfl, _⟩ := M_lc ks hb; exact ⟨Nat.le_refl 1, Nat.le_refl 1⟩
  · intro k r hr
    have hp : ∀ k0, G.κ k0 = some r → (∀ k, p k → k0 ≠ .l k.1 k.2) → ¬ G1.I r.1 ∧ r.1 < G.w.heap.size := by
      intro k0 hk0 hne
      obtain ⟨q1, q2⟩ := h.apart k0 r hk0
      refine ⟨?_, q2⟩
      rintro (hI | ⟨k', r', e1, e2, e3⟩)
      · exact q1 hI
      · exact hne k' e1 (h.inj _ _ _ _ hk0 e2 e3.symm)
    cases k with
    | h o => exact hp (.h o) hr (fun k _ e => by cases e)
    | l d c =>
      obtain ⟨rfl, k, h1, h2⟩ := hinv d c r hr
      refine hp _ h2 (fun k' hk' e => ?_)
      simp only [Key.l.injEq] at e
      have e1 : k = k' := Prod.ext e.1 e.2
      subst e1
      exact hR.disj k d hk' h1
  · rintro b (hI | ⟨k, r, e1, e2, e3⟩)
    · exact h.lt b hI
    · rw [← e3]; exact (h.apart _ r e2).2
  · intro d c r hr
    obtain ⟨_, k, h1, h2⟩ := hinv d c r hr
    exact h.loc _ _ r h2
  · intro k r hr
    cases k with
    | l d c =>
      obtain ⟨rfl, hd⟩ := hB d c r hr
      cases hρ : ρ d with
      | none =>
        right
        refine ⟨?_, Nat.le_refl 1, Nat.le_refl 1⟩
        show (lkM ks.mem d).map KB.blk = none
        cases hl : lkM ks.mem d with
        | none => rfl
        | some b1 => obtain ⟨k, hk⟩ := hR.dom d b1 hl; rw [hρ] at hk; cases hk
      | some k =>
        have := hR.fix d k hd hρ; subst this
        obtain ⟨b, b1, q1, q2, q3, _⟩ := hR.at' d _ hρ
        rcases h.keep (.l d 1) r hr with hq | hq
        · exact .inl (f1 d _ r hρ hq)
        · have := ((hM.dead _).1 hq).1
          rw [this] at q1; cases q1
    | h o =>
      rcases h.keep (.h o) r hr with hq | hq
      · exact .inl hq
      · exact .inr (f3 o hq)
  · intro o r hr; exact h.heap o r hr
  · show B.nx ≤ ks.nx
    rw [← hR.nx]; exact h.nx
  · intro o ho hb; exact h.gone o ho hb
  · rintro b (hI | ⟨k, r, e1, e2, e3⟩)
    · exact h.I1 b hI
    · rw [← e3]
      rcases h.loc _ _ r e2 with hq | hq
      · exact .inr (.inl hq)
      · exact .inr (.inr hq)
  · intro k b hb
    cases k with
    | h o => exact h.hno (.h o) b (by rw [hR.H]; exact hb)
    | l d c => rfl
  · obtain ⟨rs, g1, g2, g3⟩ := h.defers
    refine ⟨rs, g1, g2, fun r hr => ?_⟩
    obtain ⟨u1, u2, u3⟩ := g3 r hr
    refine ⟨u1, ?_, u3⟩
    rintro (hI | ⟨k, r', e1, e2, e3⟩)
    · exact u2 hI
    · exact hM.notDfr e2 _ (e3 ▸ u1)
  · intro t v hv
    exact go (hR.fr t) (h.slot t v hv)
end
end Go.AV

