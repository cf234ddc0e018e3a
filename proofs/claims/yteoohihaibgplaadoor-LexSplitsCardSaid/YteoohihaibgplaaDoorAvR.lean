/-
  What an abstract value says of a value, and an abstract state of a frame and a world.
-/
import Derived.Test.YteoohihaibgplaaDoorAv
namespace Go.AV
open Go.RowKit Go.RG

/-- the ghost of a world: where the places lie (block, capacity), which are gone, which blocks never turn again -/
structure Gh where
  κ : Key → Option (Nat × Nat)
  dead : Key → Prop
  I : Nat → Prop
  w : World

mutual
def AV.noL : AV → Bool
  | .agg cs => noLs cs
  | .tup vs => noLs vs
  | .gs (.l _ _) _ => false
  | .pt (.l _ _) _ => false
  | .fn _ a c => noLs a && noLs c
  | _ => true
def noLs : List AV → Bool
  | [] => true
  | u :: r => u.noL && noLs r
end

theorem noLs_mem {l : List AV} : noLs l = true ↔ ∀ u ∈ l, u.noL = true := by
  induction l with
  | nil => simp [noLs]
  | cons x l ih => simp [noLs, ih]
theorem noLs_sub {l k : List AV} (h : ∀ u ∈ k, u ∈ l) (hl : noLs l = true) : noLs k = true := noLs_mem.2 fun u hu => noLs_mem.1 hl u (h u hu)
theorem noLs_at {l : List AV} (h : noLs l = true) : ∀ (j : Nat) (u : AV), l[j]? = some u → u.noL = true := by
  induction l with
  | nil => intro j u hu; simp at hu
  | cons x l ih =>
    simp only [noLs, Bool.and_eq_true] at h
    intro j u hu
    cases j with
    | zero => simp at hu; subst hu; exact h.1
    | succ j => exact ih h.2 j u (by simpa using hu)

inductive VR (G : Gh) : AV → Value → Prop
  | bl (b : Bool) : VR G (.bl b) (.bool b)
  | it (k : IntKind) (n : Int) : VR G (.it k n) (.int k n)
  | st (l : List UInt8) (s : ByteArray) (h : s.data.toList = l) : VR G (.st l) (.string s)
  | agg (cs : List AV) (vs : Array Value) (hl : vs.size = cs.length) (h : ∀ (j : Nat) (u : AV) (x : Value), cs[j]? = some u → vs[j]? = some x → VR G u x) (h1 : ∀ (j : Nat) (x : Value), vs[j]? = some x → x.oneCell' = true) : VR G (.agg cs) (.agg vs)
  | tup (cs : List AV) (vs : Array Value) (hl : vs.size = cs.length) (h : ∀ (j : Nat) (u : AV) (x : Value), cs[j]? = some u → vs[j]? = some x → VR G u x) : VR G (.tup cs) (.tuple vs)
  | nsl (z : Bool) (n : Nat) (xs : List AV) (hn : n = 0) (hx : xs = []) : VR G (.sl z n xs) (.slice none 0 0)
  | sl (n : Nat) (xs : List AV) (b off cap : Nat) (f : Nat → Value) (hI : G.I b) (hc : ∀ (j : Nat) (u : AV), xs[j]? = some u → G.w.cell? ⟨b, off + j, none⟩ = some (f j)) (h : ∀ (j : Nat) (u : AV), xs[j]? = some u → VR G u (f j))
      (h1 : ∀ (j : Nat) (u : AV), xs[j]? = some u → (f j).oneCell' = true) (hn : n ≤ cap) (hm : n ≤ maxLen) (hq : noLs xs = true) : VR G (.sl false n xs) (.slice (some ⟨b, off, none⟩) n cap)
  | esl (n : Nat) (xs : List AV) (hn : n = 0) (hx : xs = []) (a : Addr) (cap : Nat) : VR G (.sl false n xs) (.slice (some a) 0 cap)
  | gs (k : Key) (n b cap : Nat) (hk : G.κ k = some (b, cap)) : VR G (.gs k n) (.slice (some ⟨b, 0, none⟩) n cap)
  | gsd (k : Key) (n : Nat) (v : Value) (hk : G.dead k) (h1 : v.oneCell' = true) : VR G (.gs k n) v
  | nptr : VR G .nptr (.pointer none)
  | pt (k : Key) (off b cap : Nat) (hk : G.κ k = some (b, cap)) : VR G (.pt k off) (.pointer (some ⟨b, off, none⟩))
  | ptd (k : Key) (off : Nat) (v : Value) (hk : G.dead k) (h1 : v.oneCell' = true) : VR G (.pt k off) v
  | ep (xs : List AV) (off b base : Nat) (f : Nat → Value) (hI : G.I b) (hc : ∀ (j : Nat) (u : AV), xs[j]? = some u → G.w.cell? ⟨b, base + j, none⟩ = some (f j)) (h : ∀ (j : Nat) (u : AV), xs[j]? = some u → VR G u (f j))
      (h1 : ∀ (j : Nat) (u : AV), xs[j]? = some u → (f j).oneCell' = true) (hq : noLs xs = true) : VR G (.ep xs off) (.pointer (some ⟨b, base + off, none⟩))
  | fn (f : Fn) (a c : List AV) (va vc : Array Value) (ha : va.size = a.length) (hc : vc.size = c.length) (h : ∀ (j : Nat) (u : AV) (x : Value), a[j]? = some u → va[j]? = some x → VR G u x) (h' : ∀ (j : Nat) (u : AV) (x : Value), c[j]? = some u → vc[j]? = some x → VR G u x) : VR G (.fn f a c) (.func f va vc)
  | nfn : VR G .nfn .nilFunc
  | yld (o l cap : Nat) (hk : G.κ (.h o) = some (l, cap)) : VR G (.yld o) (.func (.yield l) #[] #[])
  | yldd (o : Nat) (v : Value) (hk : G.dead (.h o)) (h1 : v.oneCell' = true) : VR G (.yld o) v
  | un (v : Value) : VR G .un v

/-- what has become of a ghost: places stay or are gone; what never turns does not -/
structure LE (G G' : Gh) : Prop where
  κ : ∀ k r, G.κ k = some r → G'.κ k = some r ∨ G'.dead k
  dead : ∀ k, G.dead k → G'.dead k
  I : ∀ b, G.I b → G'.I b
  cells : ∀ b, G.I b → G'.w.heap[b]? = G.w.heap[b]?
  dfr : ∀ b ds, G.w.heap[b]? = some (.deferred ds) → G'.w.heap[b]? = G.w.heap[b]? ∧ (G'.I b → G.I b)

theorem LE.refl (G : Gh) : LE G G := ⟨fun _ _ h => .inl h, fun _ h => h, fun _ h => h, fun _ _ => rfl, fun _ _ _ => ⟨rfl, fun h => h⟩⟩
theorem LE.trans {A B C : Gh} (h : LE A B) (k : LE B C) : LE A C :=
  ⟨fun q r hq => (h.κ q r hq).elim (fun e => k.κ q r e) (fun e => .inr (k.dead q e)), fun q hq => k.dead q (h.dead q hq), fun b hb => k.I b (h.I b hb), fun b hb => (k.cells b (h.I b hb)).trans (h.cells b hb), fun b ds hb => ⟨(k.dfr b ds ((h.dfr b ds hb).1.trans hb)).1.trans (h.dfr b ds hb).1, fun hI => (h.dfr b ds hb).2 ((k.dfr b ds ((h.dfr b ds hb).1.trans hb)).2 hI)⟩⟩

/-- the half of it that values look at -/
structure LE0 (G G' : Gh) : Prop where
  κ : ∀ k r, G.κ k = some r → G'.κ k = some r ∨ G'.dead k
  dead : ∀ k, G.dead k → G'.dead k
  I : ∀ b, G.I b → G'.I b
  cells : ∀ b, G.I b → G'.w.heap[b]? = G.w.heap[b]?
theorem LE.z {G G' : Gh} (h : LE G G') : LE0 G G' := ⟨h.κ, h.dead, h.I, h.cells⟩

theorem VR.le0 {G G' : Gh} (hle : LE0 G G') : ∀ {u : AV} {v : Value}, VR G u v → VR G' u v := by
  intro u v h
  induction h with
  | bl b => exact .bl b
  | it k n => exact .it k n
  | st l s h => exact .st l s h
  | agg cs vs hl h h1 ih => exact .agg cs vs hl (fun j u x a b => ih j u x a b) h1
  | tup cs vs hl h ih => exact .tup cs vs hl (fun j u x a b => ih j u x a b)
  | nsl z n xs hn hx => exact .nsl z n xs hn hx
  | esl n xs hn hx a cap => exact .esl n xs hn hx a cap
  | sl n xs b off cap f hI hc h h1 hn hm hq ih => exact .sl n xs b off cap f (hle.I b hI) (fun j u a => (World.cell?_of_block (hle.cells b hI)).trans (hc j u a)) (fun j u a => ih j u a) h1 hn hm hq
  | gs k n b cap hk => rcases hle.κ k _ hk with h | h; exact .gs k n b cap h; exact .gsd k n _ h rfl
  | gsd k n v hk h1 => exact .gsd k n v (hle.dead k hk) h1
  | nptr => exact .nptr
  | pt k off b cap hk => rcases hle.κ k _ hk with h | h; exact .pt k off b cap h; exact .ptd k off _ h rfl
  | ptd k off v hk h1 => exact .ptd k off v (hle.dead k hk) h1
  | ep xs off b base f hI hc h h1 hq ih => exact .ep xs off b base f (hle.I b hI) (fun j u a => (World.cell?_of_block (hle.cells b hI)).trans (hc j u a)) (fun j u a => ih j u a) h1 hq
  | fn f a c va vc ha hc h h' ih ih' => exact .fn f a c va vc ha hc (fun j u x p q => ih j u x p q) (fun j u x p q => ih' j u x p q)
  | nfn => exact .nfn
  | yld o l cap hk => rcases hle.κ (.h o) _ hk with h | h; exact .yld o l cap h; exact .yldd o _ h rfl
  | yldd o v hk h1 => exact .yldd o v (hle.dead (.h o) hk) h1
  | un v => exact .un v

theorem VR.le {G G' : Gh} (hle : LE G G') {u : AV} {v : Value} (h : VR G u v) : VR G' u v := h.le0 hle.z

structure St where
  fr : Nat → AV
  M : Key → Option Blk
  cnt : Nat → Nat
  nx : Nat

def keyOld (S : St) : Key → Prop
  | .l d c => 1 ≤ c ∧ c ≤ S.cnt d
  | .h o => o < S.nx

/-- an object leads to objects alone -/
def hOk : Key → List AV → Bool
  | .h _, cs => noLs cs
  | .l _ _, _ => true

def deadOf (S : St) (k : Key) : Prop := S.M k = none ∧ keyOld S k

def BlkOk (G : Gh) (b : Blk) (g cap : Nat) : Prop :=
  ∃ cur : Array Value, G.w.heap[g]? = some (.cells cur b.e (0, 0)) ∧ cur.size = cap * b.sz ∧ cap ≤ maxLen ∧ 0 < b.sz ∧ b.cells.length ≤ cur.size ∧
    (∀ (j : Nat) (u : AV) (x : Value), b.cells[j]? = some u → cur[j]? = some x → VR G u x) ∧ ∀ (j : Nat) (x : Value), j < b.cells.length → cur[j]? = some x → x.oneCell' = true

def lsOk : LS → LoopState → Option Code → Prop
  | .ready, st, p => st = .ready ∧ p = none
  | .busy, st, _ => st = .busy
  | .ret, st, p => st = .done ∧ p = some .ret
  | .exit id, st, p => st = .done ∧ p = some (.exit id)

/-- the record of a range over a function (no cells: 'sz' is 0) -/
def LoopOk (G : Gh) (b : Blk) (g : Nat) : Prop :=
  ∃ (r : Loop) (j : LS) (fr : List AV), b.cells = .rcd r.params r.assign r.body j :: fr ∧ G.w.heap[g]? = some (.loop r) ∧ lsOk j r.state r.pending ∧ r.tmps.size = fr.length ∧ ∀ (t : Nat) (u : AV) (x : Value), fr[t]? = some u → r.tmps[t]? = some x → VR G u x

def BlkOpt (G : Gh) : Option Blk → Option (Nat × Nat) → Prop
  | some b, some r => if b.sz = 0 then LoopOk G b r.1 else BlkOk G b r.1 r.2
  | none, none => True
  | _, _ => False

/-- where a function began -/
structure Base where
  w : World
  κ : Key → Option (Nat × Nat)
  I : Nat → Prop
  nx : Nat

/-- the memory's half of the relation -/
structure MRel (B : Base) (S : St) (G : Gh) : Prop where
  blk : ∀ k, BlkOpt G (S.M k) (G.κ k)
  inj : ∀ k k' r r', G.κ k = some r → G.κ k' = some r' → r.1 = r'.1 → k = k'
  dead : ∀ k, G.dead k ↔ deadOf S k
  live : ∀ k b, S.M k = some b → keyOld S k
  apart : ∀ k r, G.κ k = some r → ¬ G.I r.1 ∧ r.1 < G.w.heap.size
  lt : ∀ b, G.I b → b < G.w.heap.size
  loc : ∀ d c r, G.κ (.l d c) = some r → B.w.heap.size ≤ r.1 ∨ ∃ k r', B.κ k = some r' ∧ r'.1 = r.1
  keep : ∀ k r, B.κ k = some r → G.κ k = some r ∨ G.dead k
  heap : ∀ o r, G.κ (.h o) = some r → B.w.heap.size ≤ r.1 ∨ ∃ k r', B.κ k = some r' ∧ r'.1 = r.1
  nx : B.nx ≤ S.nx
  gone : ∀ o, o < B.nx → B.κ (.h o) = none → G.κ (.h o) = none
  I0 : ∀ b, B.I b → G.I b
  I1 : ∀ b, G.I b → B.I b ∨ B.w.heap.size ≤ b ∨ ∃ k r, B.κ k = some r ∧ r.1 = b
  os : G.w.os = B.w.os
  tape : G.w.tape = B.w.tape
  output : G.w.output = B.w.output
  size : B.w.heap.size ≤ G.w.heap.size
  same : ∀ b, b < B.w.heap.size → (∀ k r, B.κ k = some r → r.1 ≠ b) → G.w.heap[b]? = B.w.heap[b]?
  hno : ∀ k b, S.M k = some b → hOk k b.cells = true

/-- calls that are deferred: the blocks of ranges over functions, with no call in them -/
def DfOk (B : Base) (G : Gh) (ds : List Deferred) : Prop :=
  ∃ rs : List Nat, ds = rs.map (fun r => { target := .collected r, args := #[] }) ∧ rs.Nodup ∧ ∀ r ∈ rs, G.w.heap[r]? = some (.deferred (some [])) ∧ ¬ G.I r ∧ B.w.heap.size ≤ r
theorem DfOk.nil (B : Base) (G : Gh) : DfOk B G [] := ⟨[], rfl, List.nodup_nil, fun r hr => by cases hr⟩
theorem DfOk.le {B : Base} {G G' : Gh} {ds : List Deferred} (h : DfOk B G ds) (hle : LE G G') : DfOk B G' ds := by
  obtain ⟨rs, h1, h2, h3⟩ := h
  refine ⟨rs, h1, h2, fun r hr => ?_⟩
  obtain ⟨a, b, c⟩ := h3 r hr
  obtain ⟨d, e⟩ := hle.dfr r _ a
  exact ⟨d.trans a, fun hI => b (e hI), c⟩

structure Rel (B : Base) (N : Nat) (S : St) (a : Act) (G : Gh) : Prop extends MRel B S G where
  defers : DfOk B G a.defers
  tsize : a.tmps.size = N
  slot : ∀ t v, a.tmps[t]? = some v → VR G (S.fr t) v

def upd {α : Type} (f : Nat → α) (d : Nat) (v : α) : Nat → α := fun t => if t = d then v else f t
def updK (f : Key → Option Blk) (d : Key) (v : Option Blk) : Key → Option Blk := fun t => if t = d then v else f t
theorem upd_at {α : Type} (f : Nat → α) (d : Nat) (v : α) : upd f d v d = v := by simp [upd]
theorem upd_ne {α : Type} (f : Nat → α) {d t : Nat} (v : α) (h : t ≠ d) : upd f d v t = f t := by simp [upd, h]

def St.put (S : St) (d : Option Nat) (v : AV) : St :=
  match d with
  | some d => { S with fr := upd S.fr d v }
  | none => S

theorem Rel.put {B : Base} {N : Nat} {S : St} {a : Act} {G : Gh} (h : Rel B N S a G) {d : Option Nat} {u : AV} {v : Value} (hv : VR G u v) : Rel B N (S.put d u) (a.put d v) G := by
  cases d with
  | none => exact h
  | some d =>
    refine { (show MRel B (S.put (some d) u) G from { h.toMRel with }) with defers := h.defers, tsize := by simp [Act.put, h.tsize], slot := ?_ }
    intro t x hx
    simp only [Act.put] at hx
    by_cases e : t = d
    · subst e
      have : x = v := by
        rw [Array.getElem?_setIfInBounds_self] at hx
        split at hx
        · exact (Option.some.inj hx).symm
        · cases hx
      subst this
      show VR G (upd S.fr t u t) x
      rw [upd_at]; exact hv
    · show VR G (upd S.fr d u t) x
      rw [upd_ne _ _ e]
      rw [Array.getElem?_setIfInBounds_ne (fun q => e q.symm)] at hx
      exact h.slot t x hx

/-! ### operands -/
def ev (fr : Nat → AV) : AOpd → AV
  | .t n => fr n
  | .c v => v

theorem cst1_ok {G : Gh} {v : Value} {u : AV} (h : cst1 v = some u) : VR G u v ∧ v.oneCell' = true := by
  unfold cst1 at h
  split at h <;> simp only [Option.some.injEq, reduceCtorEq] at h <;> subst h
  · exact ⟨.bl _, rfl⟩
  · exact ⟨.it _ _, rfl⟩
  · exact ⟨.st _ _ rfl, rfl⟩
  · exact ⟨.nsl _ _ _ rfl rfl, rfl⟩
  · exact ⟨.nptr, rfl⟩
  · exact ⟨.nfn, rfl⟩

theorem cstL_ok {G : Gh} : ∀ {l : List Value} {us : List AV}, cstL l = some us → l.length = us.length ∧ (∀ (j : Nat) (u : AV) (x : Value), us[j]? = some u → l[j]? = some x → VR G u x) ∧ ∀ x ∈ l, x.oneCell' = true := by
  intro l
  induction l with
  | nil => intro us h; simp only [cstL, Option.some.injEq] at h; subst h; simp
  | cons v r ih =>
    intro us h
    simp only [cstL] at h
    split at h
    · rename_i u us' h1 h2
      simp only [Option.some.injEq] at h; subst h
      obtain ⟨a, b, c⟩ := ih h2
      have k := cst1_ok (G := G) h1
      refine ⟨by simp [a], ?_, ?_⟩
      · intro j u' x hu hx
        cases j with
        | zero => simp at hu hx; subst hu; subst hx; exact k.1
        | succ j => exact b j u' x (by simpa using hu) (by simpa using hx)
      · intro x hx
        rcases List.mem_cons.1 hx with rfl | hx
        · exact k.2
        · exact c x hx
    · cases h

theorem cst_ok {G : Gh} {v : Value} {u : AV} (h : cst v = some u) : VR G u v := by
  unfold cst at h
  split at h
  · rename_i cs
    cases hc : cstL cs.toList with
    | none => rw [hc] at h; cases h
    | some us =>
      rw [hc] at h
      simp only [Option.map_some, Option.some.injEq] at h
      subst h
      obtain ⟨a, b, c⟩ := cstL_ok (G := G) hc
      refine .agg us cs (by simpa using a) (fun j u x hu hx => b j u x hu (by simpa using hx)) (fun j x hx => c x ?_)
      exact List.mem_of_getElem? (by simpa using hx)
  · exact (cst1_ok h).1

/-! ### package-level variables that nothing writes -/
def GOK (P : Program) (w : World) (I : Nat → Prop) : Prop :=
  (∀ name avs, (name, avs) ∈ gTabs → ∀ g, P.globalNamed name = some g → I g ∧ ∃ t fr, w.heap[g]? = some (.cells (avs.map avV).toArray t fr)) ∧
  (∀ g, P.globalNamed "internal/bytealg.MaxLen" = some g → I g ∧ ∃ m t fr, w.heap[g]? = some (.cells #[.int .i64 m] t fr)) ∧
  ∀ name ∈ gErrs, ∀ g, P.globalNamed name = some g → I g ∧ ∃ tp p t fr, w.heap[g]? = some (.cells #[.iface tp p] t fr)
class GB (P : Program) (B : Base) : Prop where
  ok : GOK P B.w B.I
  ap : ∀ k r, B.κ k = some r → ¬ B.I r.1
theorem GOK.mono {P : Program} {w w' : World} {I I' : Nat → Prop} (h : GOK P w I) (hI : ∀ b, I b → I' b) (hw : ∀ b o, I b → w.heap[b]? = some o → w'.heap[b]? = some o) : GOK P w' I' :=
  ⟨fun name avs hm g hg => let ⟨a, t, fr, e⟩ := h.1 name avs hm g hg; ⟨hI g a, t, fr, hw g _ a e⟩, fun g hg => let ⟨a, m, t, fr, e⟩ := h.2.1 g hg; ⟨hI g a, m, t, fr, hw g _ a e⟩,
    fun name hm g hg => let ⟨a, tp, p, t, fr, e⟩ := h.2.2 name hm g hg; ⟨hI g a, tp, p, t, fr, hw g _ a e⟩⟩
theorem MRel.gok {P : Program} {B : Base} {S : St} {G : Gh} (h : MRel B S G) [hB : GB P B] : GOK P G.w G.I :=
  hB.ok.mono h.I0 fun b o hb ho => by
    have hlt : b < B.w.heap.size := (Array.getElem?_eq_some_iff.1 ho).1
    rw [h.same b hlt (fun k r hk e => hB.ap k r hk (by rw [e]; exact hb))]; exact ho
theorem gOfL_ok {P : Program} {g : Nat} {cs : List AV} : ∀ {l : List (String × List AV)}, gOfL P g l = some cs → ∃ name, (name, cs) ∈ l ∧ P.globalNamed name = some g
  | [], h => by cases h
  | p :: r, h => by
    simp only [gOfL] at h
    have go : gOfL P g r = some cs → ∃ name, (name, cs) ∈ p :: r ∧ P.globalNamed name = some g := fun h => by
      obtain ⟨n, a, b⟩ := gOfL_ok h; exact ⟨n, List.mem_cons_of_mem _ a, b⟩
    split at h
    · rename_i k hk
      split at h
      · rename_i e
        cases h
        exact ⟨p.1, by simp, by rw [hk, Nat.eq_of_beq_eq_true e]⟩
      · exact go h
    · exact go h
theorem avV_ok {G : Gh} {u : AV} (h : avF u = true) : VR G u (avV u) ∧ (avV u).oneCell' = true ∧ u.noL = true := by
  cases u <;> first | (cases h; done) | skip
  · exact ⟨.bl _, rfl, rfl⟩
  · exact ⟨.it _ _, rfl, rfl⟩
  · exact ⟨.st _ _ (by simp), rfl, rfl⟩
theorem noLs_of {l : List AV} (h : ∀ u ∈ l, u.noL = true) : noLs l = true := by
  induction l with
  | nil => rfl
  | cons x l ih => simp only [noLs, Bool.and_eq_true]; exact ⟨h x (by simp), ih fun u hu => h u (List.mem_cons_of_mem _ hu)⟩
theorem glob_ok {P : Program} {G : Gh} (h : GOK P G.w G.I) {g : Nat} {cs : List AV} (hg : gOfL P g gTabs = some cs) (hf : cs.all avF = true) : VR G (.ep cs 0) (.pointer (some ⟨g, 0, none⟩)) := by
  obtain ⟨name, a, b⟩ := gOfL_ok hg
  obtain ⟨hI, t, fr, e⟩ := h.1 name cs a g b
  have hF := List.all_eq_true.1 hf
  have := VR.ep (G := G) cs 0 g 0 (fun j => avV ((cs[j]?).getD .un)) hI (fun j u hu => ?_) (fun j u hu => ?_) (fun j u hu => ?_) (noLs_of fun u hu => (avV_ok (G := G) (hF u hu)).2.2)
  · exact this
  · have hj : j < cs.length := (List.getElem?_eq_some_iff.1 hu).1
    rw [hu]
    simp only [World.cell?, e, Option.getD_some, Nat.zero_add]
    simp [List.getElem?_map, hu]
  · rw [hu]; exact (avV_ok (hF u (List.mem_of_getElem? hu))).1
  · rw [hu]; exact (avV_ok (G := G) (hF u (List.mem_of_getElem? hu))).2.1

theorem ev_ok {P : Program} {B : Base} [GB P B] {N : Nat} {S : St} {a : Act} {G : Gh} (h : Rel B N S a G) {x : Operand} {u : AOpd} (hu : trOpd P N x = some u) : VR G (ev S.fr u) (a.eval x) := by
  cases x with
  | tmp t =>
    simp only [trOpd] at hu
    split at hu
    · simp only [Option.some.injEq] at hu; subst hu
      rename_i ht
      have ht' : t < a.tmps.size := by rw [h.tsize]; exact ht
      have := h.slot t a.tmps[t] (Array.getElem?_eq_getElem ht')
      simpa [ev, Act.eval, Array.getD, ht'] using this
    · cases hu
  | const v =>
    simp only [trOpd] at hu
    cases hc : cst v with
    | none => rw [hc] at hu; cases hu
    | some w =>
      rw [hc] at hu
      simp only [Option.map_some, Option.some.injEq] at hu; subst hu
      exact cst_ok hc
  | global g =>
    simp only [trOpd] at hu
    split at hu
    · rename_i cs hg
      split at hu
      · rename_i hf
        cases hu
        exact glob_ok (P := P) h.toMRel.gok hg hf
      · cases hu
    · cases hu
  | func f =>
    simp only [trOpd, Option.some.injEq] at hu; subst hu
    exact .fn (.func f) [] [] #[] #[] rfl rfl (fun j u x hu => by simp at hu) (fun j u x hu => by simp at hu)

theorem trL_ok {P : Program} {B : Base} [GB P B] {N : Nat} {S : St} {a : Act} {G : Gh} (h : Rel B N S a G) : ∀ {l : List Operand} {us : List AOpd}, trL P N l = some us → l.length = us.length ∧ ∀ (j : Nat) (u : AV) (x : Value), (us.map (ev S.fr))[j]? = some u → (l.map a.eval)[j]? = some x → VR G u x := by
  intro l
  induction l with
  | nil => intro us h; simp only [trL, Option.some.injEq] at h; subst h; simp
  | cons v r ih =>
    intro us h'
    simp only [trL] at h'
    split at h'
    · rename_i u us' h1 h2
      simp only [Option.some.injEq] at h'; subst h'
      obtain ⟨a', b⟩ := ih h2
      refine ⟨by simp [a'], ?_⟩
      intro j u' x hu hx
      cases j with
      | zero => simp at hu hx; subst hu; subst hx; exact ev_ok h h1
      | succ j => exact b j u' x (by simpa using hu) (by simpa using hx)
    · cases h'
/-! ### whether a slice is nil is forgotten -/
mutual
def weak : AV → AV
  | .sl _ n xs => .sl false n xs
  | .agg cs => .agg (weaks cs)
  | .tup cs => .tup (weaks cs)
  | .fn f a c => .fn f (weaks a) (weaks c)
  | u => u
def weaks : List AV → List AV
  | [] => []
  | u :: r => weak u :: weaks r
end
theorem weaks_at : ∀ (l : List AV) (j : Nat) (u : AV), (weaks l)[j]? = some u → ∃ v, l[j]? = some v ∧ u = weak v
  | [], j, u, h => by simp [weaks] at h
  | x :: l, j, u, h => by
    cases j with
    | zero => simp [weaks] at h; exact ⟨x, rfl, h.symm⟩
    | succ j => exact weaks_at l j u (by simpa [weaks] using h)
theorem weaks_len : ∀ (l : List AV), (weaks l).length = l.length
  | [] => rfl
  | x :: l => by simp only [weaks, List.length_cons, weaks_len l]
theorem VR.weak {G : Gh} {u : AV} {v : Value} (h : VR G u v) : VR G (AV.weak u) v := by
  induction h with
  | agg cs vs hl h h1 ih => exact .agg _ vs (by rw [weaks_len]; exact hl) (fun j u x hu hx => by obtain ⟨w, e1, rfl⟩ := weaks_at cs j u hu; exact ih j w x e1 hx) h1
  | tup cs vs hl h ih => exact .tup _ vs (by rw [weaks_len]; exact hl) (fun j u x hu hx => by obtain ⟨w, e1, rfl⟩ := weaks_at cs j u hu; exact ih j w x e1 hx)
  | nsl z n xs hn hx => exact .nsl false n xs hn hx
  | esl n xs hn hx a cap => exact .esl n xs hn hx a cap
  | sl n xs b off cap f hI hc h h1 hn hm hq ih => exact .sl n xs b off cap f hI hc h h1 hn hm hq
  | fn f a c va vc ha hc h h' ih ih' => exact .fn f _ _ va vc (by rw [weaks_len]; exact ha) (by rw [weaks_len]; exact hc) (fun j u x hu hx => by obtain ⟨w, e1, rfl⟩ := weaks_at a j u hu; exact ih j w x e1 hx) (fun j u x hu hx => by obtain ⟨w, e1, rfl⟩ := weaks_at c j u hu; exact ih' j w x e1 hx)
  | bl b => exact .bl b
  | it k n => exact .it k n
  | st s b h => exact .st s b h
  | gs k n b cap hk => exact .gs k n b cap hk
  | gsd k n v hk h1 => exact .gsd k n v hk h1
  | nptr => exact .nptr
  | pt k off b cap hk => exact .pt k off b cap hk
  | ptd k off v hk h1 => exact .ptd k off v hk h1
  | ep xs off b base f hI hc h h1 hq ih => exact .ep xs off b base f hI hc h h1 hq
  | nfn => exact .nfn
  | yld o l cap hk => exact .yld o l cap hk
  | yldd o v hk h1 => exact .yldd o v hk h1
  | un v => exact .un v
mutual
theorem weak_noL : ∀ (u : AV), (weak u).noL = u.noL
  | .agg cs => by simp only [weak, AV.noL]; exact weaks_noL cs
  | .tup cs => by simp only [weak, AV.noL]; exact weaks_noL cs
  | .fn f a c => by simp only [weak, AV.noL, weaks_noL]
  | .sl z n xs => rfl
  | .gs k n => rfl
  | .pt k n => rfl
  | .bl b => rfl
  | .it k n => rfl
  | .st s => rfl
  | .nptr => rfl
  | .ep xs off => rfl
  | .nfn => rfl
  | .un => rfl
  | .yld o => rfl
  | .rcd a b c d => rfl
theorem weaks_noL : ∀ (l : List AV), noLs (weaks l) = noLs l
  | [] => rfl
  | x :: l => by simp only [weaks, noLs, weak_noL, weaks_noL]
end
end Go.AV

