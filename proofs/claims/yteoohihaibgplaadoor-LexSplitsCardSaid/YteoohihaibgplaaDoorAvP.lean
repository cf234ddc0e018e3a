/-
  Operations that only compute a value: their abstract value, and that the program's is told by it.
-/
import Derived.Test.YteoohihaibgplaaDoorAvM
namespace Go.AV
open Go.RowKit Go.RG

def binI (op : BinOp) (k : IntKind) (a b : Int) : Option AV :=
  match op with
  | .add => some (.it k (k.wrap (a + b)))
  | .sub => some (.it k (k.wrap (a - b)))
  | .mul => some (.it k (k.wrap (a * b)))
  | .quo => if b = 0 then none else some (.it k (k.wrap (a.tdiv b)))
  | .rem => if b = 0 then none else some (.it k (a.tmod b))
  | .and => some (.it k (bits .and k a b))
  | .or => some (.it k (bits .or k a b))
  | .xor => some (.it k (bits .xor k a b))
  | .lss => some (.bl (decide (a < b)))
  | .leq => some (.bl (decide (a ≤ b)))
  | .gtr => some (.bl (decide (b < a)))
  | .geq => some (.bl (decide (b ≤ a)))
  | _ => none

def shI (op : BinOp) (k : IntKind) (a b : Int) : Option AV :=
  if b < 0 then none else
  match op with
  | .shl => some (.it k (k.wrap (a * 2 ^ (min b.toNat k.bits))))
  | .shr => some (.it k (a.fdiv (2 ^ (min b.toNat k.bits))))
  | _ => none

def binS (op : BinOp) (a b : List UInt8) : Option AV :=
  match op with
  | .add => if a.length + b.length ≤ 9223372036854775807 then some (.st (a ++ b)) else none
  | .lss => some (.bl (Op.bytesLess a b))
  | .leq => some (.bl (Op.bytesLess a b || a == b))
  | .gtr => some (.bl (!(Op.bytesLess a b || a == b)))
  | .geq => some (.bl (!Op.bytesLess a b))
  | _ => none

def eq1 : Nat → AV → AV → Option Bool
  | 0, .bl a, .bl b => some (a == b)
  | 1, .it k a, .it k' b => if k = k' then some (a == b) else none
  | 2, .st a, .st b => some (a == b)
  | _, _, _ => none

def eqP (live : Key → Bool) (kind : Nat) (x y : AV) : Option Bool :=
  match kind with
  | 3 => match x, y with
    | .nptr, .nptr => some true
    | .nptr, .ep _ _ => some false
    | .ep _ _, .nptr => some false
    | .nptr, .pt k _ => if live k then some false else none
    | .pt k _, .nptr => if live k then some false else none
    | _, _ => none
  | 4 => match x, y with
    | .sl true _ _, .sl true _ _ => some true
    | .sl false n _, .sl true _ _ => if 0 < n then some false else none
    | .sl true _ _, .sl false n _ => if 0 < n then some false else none
    | _, _ => none
  | k => eq1 k x y

def eqL : List Nat → List AV → List AV → Option Bool
  | [], [], [] => some true
  | k :: ks, a :: r, b :: q => match eq1 k a b, eqL ks r q with
    | some x, some y => some (x && y)
    | _, _ => none
  | _, _, _ => none

def fillA (cells : List AV) : List (Nat × Nat × AV) → Option (List AV)
  | [] => some cells
  | (off, sz, v) :: r => if v.cells.length = sz ∧ off + sz ≤ cells.length ∧ v.cells.all AV.one = true then fillA (cells.take off ++ v.cells ++ cells.drop (off + sz)) r else none

def bnd (e : AOpd → AV) (d : Int) : Option AOpd → Option Int
  | none => some d
  | some x => match e x with
    | .it _ n => some n
    | _ => none

def mnL (mx : Bool) (k : IntKind) (a : Int) : List AV → Option AV
  | [] => some (.it k a)
  | .it k' b :: r => if k' = k then mnL mx k (if mx then (if b > a then b else a) else (if b < a then b else a)) r else none
  | _ :: _ => none

def pval (live : Key → Bool) (e : AOpd → AV) : AOp → Option AV
  | .mv x => some (e x)
  | .pick c a b => match e c with
    | .bl true => some (e a)
    | .bl false => some (e b)
    | _ => none
  | .bld z parts => (fillA z (parts.map fun p => (p.1, p.2.1, e p.2.2))).map .agg
  | .nck x => match e x with
    | .pt k off => if live k then some (.pt k off) else none
    | .ep xs off => some (.ep xs off)
    | .fn (.func f) a c => some (.fn (.func f) a c)
    | _ => none
  | .bin op x y => match e x, e y with
    | .it k a, .it k' b => if op = .shl ∨ op = .shr then shI op k a b else if k = k' then binI op k a b else none
    | .st a, .st b => binS op a b
    | _, _ => none
  | .eq neg k x y => (eqP live k (e x) (e y)).map fun b => .bl (neg != b)
  | .eqs neg ks x y => match e x, e y with
    | .agg a, .agg b => (eqL ks a b).map fun r => .bl (neg != r)
    | _, _ => none
  | .un op x => match op, e x with
    | .neg, .it k n => some (.it k (k.wrap (0 - n)))
    | .not, .bl b => some (.bl (!b))
    | _, _ => none
  | .cvi k x => match e x with
    | .it _ n => some (.it k (k.wrap n))
    | _ => none
  | .cvs x => match e x with
    | .st l => some (.st l)
    | _ => none
  | .sls x lo hi => match e x with
    | .st l => match bnd e 0 lo, bnd e l.length hi with
      | some a, some b => if 0 ≤ a ∧ a ≤ b ∧ b ≤ l.length then some (.st ((l.drop a.toNat).take (b.toNat - a.toNat))) else none
      | _, _ => none
    | _ => none
  | .sll sz x lo hi => match e x with
    | .sl z n xs => match bnd e 0 lo, bnd e n hi with
      | some a, some b => if 0 ≤ a ∧ a ≤ b ∧ b ≤ n then some (.sl z (b.toNat - a.toNat) ((xs.drop (a.toNat * sz)).take ((b.toNat - a.toNat) * sz))) else none
      | _, _ => none
    | _ => none
  | .fad off x => match e x with
    | .pt k o => if live k then some (.pt k (o + off)) else none
    | .ep xs o => some (.ep xs (o + off))
    | _ => none
  | .fld g off sz x => match e x with
    | .agg cs => if g then some (.agg ((cs.drop off).take sz)) else cs[off]?
    | _ => none
  | .iad sz x i => match e x, e i with
    | .sl _ n xs, .it _ i => if 0 ≤ i ∧ i < n then some (.ep xs (i.toNat * sz)) else none
    | .gs k n, .it _ i => if live k ∧ 0 ≤ i ∧ i < n then some (.pt k (i.toNat * sz)) else none
    | _, _ => none
  | .iada len sz x i => match e x, e i with
    | .pt k o, .it _ i => if live k ∧ 0 ≤ i ∧ i < len then some (.pt k (o + i.toNat * sz)) else none
    | .ep xs o, .it _ i => if 0 ≤ i ∧ i < len then some (.ep xs (o + i.toNat * sz)) else none
    | _, _ => none
  | .idxs x i => match e x, e i with
    | .st l, .it _ i => if 0 ≤ i ∧ i < l.length then some (.it .u8 ((l[i.toNat]?.getD 0).toNat)) else none
    | _, _ => none
  | .idxa g len sz x i => match e x, e i with
    | .agg cs, .it _ i => if 0 ≤ i ∧ i < len then (if g then some (.agg ((cs.drop (i.toNat * sz)).take sz)) else cs[i.toNat * sz]?) else none
    | _, _ => none
  | .ext x i => match e x with
    | .tup vs => vs[i]?
    | _ => none
  | .lens x => match e x with
    | .st l => some (.it .i64 l.length)
    | _ => none
  | .len x => match e x with
    | .sl _ n _ => some (.it .i64 n)
    | .gs k n => if live k then some (.it .i64 n) else none
    | _ => none
  | .mnx mx xs => match xs.map e with
    | .it k a :: r => mnL mx k a r
    | _ => none
  | .mkf f a c => some (.fn f (a.map e) (c.map e))
  | _ => none

section
variable {P : Program} {B : Base} [GB P B] {N : Nat} {S : St} {a : Act} {G : Gh}

def liveB (S : St) (k : Key) : Bool := (S.M k).isSome

theorem VR.it_inv {k : IntKind} {n : Int} {v : Value} (h : VR G (.it k n) v) : v = .int k n := by cases h; rfl
theorem VR.bl_inv {b : Bool} {v : Value} (h : VR G (.bl b) v) : v = .bool b := by cases h; rfl
theorem VR.st_inv {l : List UInt8} {v : Value} (h : VR G (.st l) v) : ∃ s : ByteArray, v = .string s ∧ s.data.toList = l := by cases h with | st _ s hs => exact ⟨s, rfl, hs⟩
theorem VR.nptr_inv {v : Value} (h : VR G .nptr v) : v = .pointer none := by cases h; rfl
theorem VR.agg_inv {cs : List AV} {v : Value} (h : VR G (.agg cs) v) : ∃ vs : Array Value, v = .agg vs ∧ vs.size = cs.length ∧ (∀ (j : Nat) (u : AV) (x : Value), cs[j]? = some u → vs[j]? = some x → VR G u x) ∧ ∀ (j : Nat) (x : Value), vs[j]? = some x → x.oneCell' = true := by
  cases h with | agg _ vs a b c => exact ⟨vs, rfl, a, b, c⟩
theorem VR.tup_inv {cs : List AV} {v : Value} (h : VR G (.tup cs) v) : ∃ vs : Array Value, v = .tuple vs ∧ vs.size = cs.length ∧ (∀ (j : Nat) (u : AV) (x : Value), cs[j]? = some u → vs[j]? = some x → VR G u x) := by
  cases h with | tup _ vs a b => exact ⟨vs, rfl, a, b⟩
theorem VR.nsl_inv {n : Nat} {xs : List AV} {v : Value} (h : VR G (.sl true n xs) v) : v = .slice none 0 0 ∧ n = 0 ∧ xs = [] := by cases h with | nsl _ _ _ a b => exact ⟨rfl, a, b⟩
theorem VR.sl_inv {z : Bool} {n : Nat} {xs : List AV} {v : Value} (h : VR G (.sl z n xs) v) : (v = .slice none 0 0 ∧ n = 0 ∧ xs = []) ∨ (z = false ∧ n = 0 ∧ xs = [] ∧ ∃ a cap, v = .slice (some a) 0 cap) ∨ (z = false ∧ ∃ b off cap, ∃ f : Nat → Value, v = .slice (some ⟨b, off, none⟩) n cap ∧ G.I b ∧ (∀ (j : Nat) (u : AV), xs[j]? = some u → G.w.cell? ⟨b, off + j, none⟩ = some (f j)) ∧ (∀ (j : Nat) (u : AV), xs[j]? = some u → VR G u (f j)) ∧
    (∀ (j : Nat) (u : AV), xs[j]? = some u → (f j).oneCell' = true) ∧ n ≤ cap ∧ n ≤ maxLen ∧ noLs xs = true) := by
  cases h with
  | nsl _ _ _ a b => exact .inl ⟨rfl, a, b⟩
  | esl _ _ a b ad cap => exact .inr (.inl ⟨rfl, a, b, ad, cap, rfl⟩)
  | sl _ _ b off cap f a1 a2 a3 a4 a5 a6 a7 => exact .inr (.inr ⟨rfl, b, off, cap, f, rfl, a1, a2, a3, a4, a5, a6, a7⟩)
theorem VR.ep_inv {off : Nat} {xs : List AV} {v : Value} (h : VR G (.ep xs off) v) : ∃ b base, ∃ f : Nat → Value, v = .pointer (some ⟨b, base + off, none⟩) ∧ G.I b ∧ (∀ (j : Nat) (u : AV), xs[j]? = some u → G.w.cell? ⟨b, base + j, none⟩ = some (f j)) ∧ (∀ (j : Nat) (u : AV), xs[j]? = some u → VR G u (f j)) ∧
    (∀ (j : Nat) (u : AV), xs[j]? = some u → (f j).oneCell' = true) ∧ noLs xs = true := by
  cases h with | ep _ _ b base f a1 a2 a3 a4 a5 => exact ⟨b, base, f, rfl, a1, a2, a3, a4, a5⟩
theorem VR.fn_inv {f : Fn} {p c : List AV} {v : Value} (h : VR G (.fn f p c) v) : ∃ vp vc : Array Value, v = .func f vp vc ∧ vp.size = p.length ∧ vc.size = c.length ∧ (∀ (j : Nat) (u : AV) (x : Value), p[j]? = some u → vp[j]? = some x → VR G u x) ∧ (∀ (j : Nat) (u : AV) (x : Value), c[j]? = some u → vc[j]? = some x → VR G u x) := by
  cases h with | fn _ _ _ va vc a1 a2 a3 a4 => exact ⟨va, vc, rfl, a1, a2, a3, a4⟩
theorem VR.gs_inv (h : MRel B S G) {k : Key} {n : Nat} {v : Value} (hl : liveB S k = true) (hv : VR G (.gs k n) v) : ∃ g cap, G.κ k = some (g, cap) ∧ v = .slice (some ⟨g, 0, none⟩) n cap := by
  cases hv with
  | gs _ _ b cap hk => exact ⟨b, cap, hk, rfl⟩
  | gsd _ _ _ hk _ =>
    have := ((h.dead k).1 hk).1
    simp [liveB, this] at hl
theorem VR.pt_inv (h : MRel B S G) {k : Key} {n : Nat} {v : Value} (hl : liveB S k = true) (hv : VR G (.pt k n) v) : ∃ g cap, G.κ k = some (g, cap) ∧ v = .pointer (some ⟨g, n, none⟩) := by
  cases hv with
  | pt _ _ b cap hk => exact ⟨b, cap, hk, rfl⟩
  | ptd _ _ _ hk _ =>
    have := ((h.dead k).1 hk).1
    simp [liveB, this] at hl

/-- the operation yields a value that the abstract one tells, and leaves the world alone -/
def Yields (P : Program) (a : Act) (G : Gh) (o : Oper) (u : AV) : Prop := ∃ v, (execOp a.eval o).run P G.w = .ok (.value v) G.w ∧ VR G u v

theorem y_of {o : Oper} {s : Sem Value} {u : AV} {v : Value} (hs : execOp a.eval o = (do pure (.value (← s)))) (hr : s.run P G.w = .ok v G.w) (hv : VR G u v) : Yields P a G o u :=
  ⟨v, by rw [hs]; simp [hr], hv⟩

theorem under_slice {t e : TypeId} (h : P.underlying t = some (.slice e)) : P.elem t = e ∧ P.underlying t = some (.slice (P.elem t)) := by
  have : P.elem t = e := by simp [Program.elem, h]
  exact ⟨this, by rw [this]; exact h⟩

theorem y_bin (h : Rel B N S a G) {o : Oper} {op : BinOp} {t yt : TypeId} {x y : Operand} {ux uy : AOpd} (ho : o.op = .binOp op t x y yt) (hx : trOpd P N x = some ux) (hy : trOpd P N y = some uy) (hne : ¬ (op = .eql ∨ op = .neq))
    {u : AV} (hv : pval (liveB S) (ev S.fr) (.bin op ux uy) = some u) : Yields P a G o u := by
  have rx := ev_ok h hx
  have ry := ev_ok h hy
  have hg : ∀ p q, (eqGuard op t x y p q).run P G.w = .ok () G.w := by
    intro p q
    unfold eqGuard
    cases op <;> first | (exact absurd (.inl rfl) hne) | (exact absurd (.inr rfl) hne) | simp
  simp only [pval] at hv
  split at hv
  · rename_i k p k' q e1 e2
    rw [e1] at rx; rw [e2] at ry
    have e3 := rx.it_inv
    have e4 := ry.it_inv
    have hex : execOp a.eval o = (do pure (.value (← (do eqGuard op t x y (.int k p) (.int k' q); binOp op t (.int k p) (.int k' q))))) := by simp only [execOp, ho, e3, e4]
    have key : ∀ v, (binOp op t (.int k p) (.int k' q)).run P G.w = .ok v G.w → VR G u v → Yields P a G o u := fun v hr hv => ⟨v, by rw [hex]; simp [hg, hr], hv⟩
    split at hv
    · rename_i hs
      unfold shI at hv
      split at hv
      · cases hv
      · rename_i hb
        rcases hs with rfl | rfl
        · simp only [Option.some.injEq] at hv; subst hv
          exact key _ (by simp [binOp, Op.shift, hb]) (.it _ _)
        · simp only [Option.some.injEq] at hv; subst hv
          exact key _ (by simp [binOp, Op.shift, hb]) (.it _ _)
    · rename_i hs
      split at hv
      · rename_i hk
        subst hk
        cases op <;> simp only [binI] at hv <;> first
          | (cases hv; done)
          | (simp only [Option.some.injEq] at hv; subst hv; exact key _ (by simp [binOp, Op.intArith, go_sem]) (.it _ _))
          | (simp only [Option.some.injEq] at hv; subst hv; exact key _ (by simp [binOp, Op.intCmp]) (.bl _))
          | (split at hv
             · cases hv
             · rename_i hb
               simp only [Option.some.injEq] at hv; subst hv; exact key _ (by simp [binOp, Op.intDiv, hb]) (.it _ _))
      · cases hv
  · rename_i p q e1 e2
    rw [e1] at rx; rw [e2] at ry
    obtain ⟨s, e3, hs⟩ := rx.st_inv
    obtain ⟨s', e4, hs'⟩ := ry.st_inv
    have hex : execOp a.eval o = (do pure (.value (← (do eqGuard op t x y (.string s) (.string s'); binOp op t (.string s) (.string s'))))) := by simp only [execOp, ho, e3, e4]
    have key : ∀ v, (binOp op t (.string s) (.string s')).run P G.w = .ok v G.w → VR G u v → Yields P a G o u := fun v hr hv => ⟨v, by rw [hex]; simp [hg, hr], hv⟩
    have l1 : s.toList = p := by rw [ByteArray.toList_eq]; exact hs
    have l2 : s'.toList = q := by rw [ByteArray.toList_eq]; exact hs'
    cases op <;> simp only [binS] at hv <;> first
      | (cases hv; done)
      | (simp only [Option.some.injEq] at hv; subst hv; exact key _ (by simp [binOp, Op.stringOp, l1, l2]) (.bl _))
      | (split at hv
         · rename_i hb
           simp only [Option.some.injEq] at hv; subst hv
           refine key (.string (s ++ s')) ?_ (.st _ _ (by simp [← hs, ← hs']))
           have hz : ¬ (((s.size + s'.size : Nat) : Int) > IntKind.i64.max) := by
             have q1 : s.size = p.length := by rw [← hs]; simp
             have q2 : s'.size = q.length := by rw [← hs']; simp
             rw [q1, q2]
             have : IntKind.i64.max = 9223372036854775807 := by decide
             rw [this]; omega
           simp only [binOp, Op.stringOp, hz, if_false]; rfl
         · cases hv)
  · cases hv
theorem y_mv (h : Rel B N S a G) {o : Oper} {x : Operand} {ux : AOpd} (ho : o.op = .move x ∨ o.op = .assign x) (hx : trOpd P N x = some ux) : Yields P a G o (ev S.fr ux) :=
  ⟨a.eval x, by rcases ho with ho | ho <;> simp [execOp, ho], ev_ok h hx⟩

theorem y_pick (h : Rel B N S a G) {o : Oper} {c x y : Operand} {uc ux uy : AOpd} (ho : o.op = .pick c x y) (hc : trOpd P N c = some uc) (hx : trOpd P N x = some ux) (hy : trOpd P N y = some uy) {u : AV} (hv : pval (liveB S) (ev S.fr) (.pick uc ux uy) = some u) : Yields P a G o u := by
  have rc := ev_ok h hc
  simp only [pval] at hv
  split at hv <;> simp only [Option.some.injEq, reduceCtorEq] at hv
  · rename_i e; rw [e] at rc; subst hv
    exact ⟨a.eval x, by simp [execOp, ho, rc.bl_inv, asBool], ev_ok h hx⟩
  · rename_i e; rw [e] at rc; subst hv
    exact ⟨a.eval y, by simp [execOp, ho, rc.bl_inv, asBool], ev_ok h hy⟩

theorem y_nck (h : Rel B N S a G) {o : Oper} {x : Operand} {ux : AOpd} (ho : o.op = .nilCheck x) (hx : trOpd P N x = some ux) {u : AV} (hv : pval (liveB S) (ev S.fr) (.nck ux) = some u) : Yields P a G o u := by
  have rx := ev_ok h hx
  simp only [pval] at hv
  split at hv
  · rename_i k off e; rw [e] at rx
    split at hv
    · rename_i hl
      simp only [Option.some.injEq] at hv; subst hv
      obtain ⟨g, cap, hk, e2⟩ := rx.pt_inv h.toMRel hl
      exact ⟨a.eval x, by simp [execOp, ho, e2], rx⟩
    · cases hv
  · rename_i xs off e; rw [e] at rx
    simp only [Option.some.injEq] at hv; subst hv
    obtain ⟨b, base, f, e2, _⟩ := rx.ep_inv
    exact ⟨a.eval x, by simp [execOp, ho, e2], rx⟩
  · rename_i f p c e; rw [e] at rx
    simp only [Option.some.injEq] at hv; subst hv
    obtain ⟨vp, vc, e2, _⟩ := rx.fn_inv
    exact ⟨a.eval x, by simp [execOp, ho, e2], rx⟩
  · cases hv

theorem y_un (h : Rel B N S a G) {o : Oper} {op : UnOp} {t : TypeId} {x : Operand} {ux : AOpd} (ho : o.op = .unOp op t x) (hx : trOpd P N x = some ux) {u : AV} (hv : pval (liveB S) (ev S.fr) (.un op ux) = some u) : Yields P a G o u := by
  have rx := ev_ok h hx
  simp only [pval] at hv
  split at hv <;> simp only [Option.some.injEq, reduceCtorEq] at hv
  · rename_i k n e; rw [e] at rx; subst hv
    exact ⟨.int k (k.wrap (0 - n)), by simp [execOp, ho, rx.it_inv, Op.unary, Op.intArith], .it _ _⟩
  · rename_i b e; rw [e] at rx; subst hv
    exact ⟨.bool (!b), by simp [execOp, ho, rx.bl_inv, Op.unary], .bl _⟩

theorem y_cvi (h : Rel B N S a G) {o : Oper} {k ks : IntKind} {s d : TypeId} {x : Operand} {ux : AOpd} (ho : o.op = .convert s d x) (hs : P.underlying s = some (.int ks)) (hd : P.underlying d = some (.int k)) (hx : trOpd P N x = some ux) {u : AV} (hv : pval (liveB S) (ev S.fr) (.cvi k ux) = some u) : Yields P a G o u := by
  have rx := ev_ok h hx
  simp only [pval] at hv
  split at hv <;> simp only [Option.some.injEq, reduceCtorEq] at hv
  rename_i n e; rw [e] at rx; subst hv
  exact ⟨.int k (k.wrap n), by simp [execOp, ho, rx.it_inv, convert, run_underlying hs, run_underlying hd, Conv.intToInt], .it _ _⟩

theorem y_cvs (h : Rel B N S a G) {o : Oper} {s d : TypeId} {x : Operand} {ux : AOpd} (ho : o.op = .convert s d x) (hs : P.underlying s = some .string) (hd : P.underlying d = some .string) (hx : trOpd P N x = some ux) {l : List UInt8} (hv : ev S.fr ux = .st l) : Yields P a G o (.st l) := by
  have rx := ev_ok h hx
  rw [hv] at rx
  obtain ⟨q, e, hq⟩ := rx.st_inv
  exact ⟨.string q, by simp [execOp, ho, e, convert, run_underlying hs, run_underlying hd], .st _ _ hq⟩

theorem y_fad (h : Rel B N S a G) {o : Oper} {t : TypeId} {x : Operand} {f sz : Nat} {fs : Array Field} {fd : Field} {ux : AOpd} (ho : o.op = .fieldAddr t x f) (ht : P.underlying t = some (.struct fs)) (hf : fs[f]? = some fd) (hsz : szOf P fd.type = some (sz + 1)) (hx : trOpd P N x = some ux)
    {u : AV} (hv : pval (liveB S) (ev S.fr) (.fad fd.offset ux) = some u) : Yields P a G o u := by
  have rx := ev_ok h hx
  have hrun : ∀ ad : Addr, a.eval x = .pointer (some ad) → (execOp a.eval o).run P G.w = .ok (.value (.pointer (some (ad.add fd.offset)))) G.w := by
    intro ad e
    unfold szOf at hsz
    cases hi : P.info? fd.type with
    | none => rw [hi] at hsz; cases hsz
    | some i =>
      rw [hi] at hsz
      simp only [Option.map_some, Option.some.injEq] at hsz
      simp [execOp, ho, e, Instr.fieldAt, run_underlying ht, hf, Instr.sureAddr, fieldPlace, sizeOf, typeInfo, hi, hsz]
  simp only [pval] at hv
  split at hv
  · rename_i k off e; rw [e] at rx
    split at hv
    · rename_i hl
      simp only [Option.some.injEq] at hv; subst hv
      obtain ⟨g, cap, hk, e2⟩ := rx.pt_inv h.toMRel hl
      refine ⟨_, hrun _ e2, ?_⟩
      have : (⟨g, off, none⟩ : Addr).add fd.offset = ⟨g, off + fd.offset, none⟩ := by unfold Addr.add; split <;> simp_all
      rw [this]; exact .pt k _ g cap hk
    · cases hv
  · rename_i xs off e; rw [e] at rx
    simp only [Option.some.injEq] at hv; subst hv
    obtain ⟨b, base, f, e2, a1, a2, a3, a4, a5⟩ := rx.ep_inv
    refine ⟨_, hrun _ e2, ?_⟩
    have : (⟨b, base + off, none⟩ : Addr).add fd.offset = ⟨b, base + (off + fd.offset), none⟩ := by unfold Addr.add; split <;> simp_all [Nat.add_assoc]
    rw [this]; exact .ep xs _ b base f a1 a2 a3 a4 a5
  · cases hv

theorem addr_add (b o n : Nat) : (⟨b, o, none⟩ : Addr).add n = ⟨b, o + n, none⟩ := by unfold Addr.add; split <;> simp_all

theorem y_iad (h : Rel B N S a G) {o : Oper} {t e : TypeId} {x i : Operand} {sz : Nat} {ux ui : AOpd} (ho : o.op = .indexAddr t x i) (ht : P.underlying t = some (.slice e)) (hsz : szOf P e = some sz) (hx : trOpd P N x = some ux) (hi : trOpd P N i = some ui)
    {u : AV} (hv : pval (liveB S) (ev S.fr) (.iad sz ux ui) = some u) : Yields P a G o u := by
  have rx := ev_ok h hx
  have ri := ev_ok h hi
  obtain ⟨he, ht'⟩ := under_slice ht
  have hs : (sizeOf (P.elem t)).run P G.w = .ok sz G.w := by
    rw [he]; unfold szOf at hsz
    cases hq : P.info? e with
    | none => rw [hq] at hsz; cases hsz
    | some q => rw [hq] at hsz; simp only [Option.map_some, Option.some.injEq] at hsz; simp [sizeOf, typeInfo, hq, hsz]
  have hrun : ∀ (b off n cap : Nat) (k : IntKind) (j : Int), a.eval x = .slice (some ⟨b, off, none⟩) n cap → a.eval i = .int k j → 0 ≤ j ∧ j < n → (execOp a.eval o).run P G.w = .ok (.value (.pointer (some ⟨b, off + j.toNat * sz, none⟩))) G.w := by
    intro b off n cap k j e1 e2 hj
    simp only [execOp, ho, e1, e2]
    simp [run_indexAt_slice (h := ht'), hj, hs, addr_add]
  simp only [pval] at hv
  split at hv
  · rename_i z n xs k j e1 e2; rw [e1] at rx; rw [e2] at ri
    split at hv
    · rename_i hj
      simp only [Option.some.injEq] at hv; subst hv
      rcases rx.sl_inv with ⟨_, hn0, _⟩ | ⟨_, hn0, _⟩ | ⟨_, b, off, cap, f, q0, q1, q2, q3, q4, q5, q6, q7⟩
      · omega
      · omega
      exact ⟨_, hrun b off n cap k j q0 ri.it_inv hj, .ep xs _ b off f q1 q2 q3 q4 q7⟩
    · cases hv
  · rename_i ky n k j e1 e2; rw [e1] at rx; rw [e2] at ri
    split at hv
    · rename_i hj
      simp only [Option.some.injEq] at hv; subst hv
      obtain ⟨g, cap, hk, q0⟩ := rx.gs_inv h.toMRel hj.1
      refine ⟨_, hrun g 0 n cap k j q0 ri.it_inv hj.2, ?_⟩
      rw [Nat.zero_add]
      exact .pt ky _ g cap hk
    · cases hv
  · cases hv

theorem y_iada (h : Rel B N S a G) {o : Oper} {t e : TypeId} {x i : Operand} {len sz : Nat} {ux ui : AOpd} (ho : o.op = .indexAddr t x i) (ht : P.underlying t = some (.array len e)) (hsz : szOf P e = some sz) (hx : trOpd P N x = some ux) (hi : trOpd P N i = some ui)
    {u : AV} (hv : pval (liveB S) (ev S.fr) (.iada len sz ux ui) = some u) : Yields P a G o u := by
  have rx := ev_ok h hx
  have ri := ev_ok h hi
  have hs : (sizeOf e).run P G.w = .ok sz G.w := by
    unfold szOf at hsz
    cases hq : P.info? e with
    | none => rw [hq] at hsz; cases hsz
    | some q => rw [hq] at hsz; simp only [Option.map_some, Option.some.injEq] at hsz; simp [sizeOf, typeInfo, hq, hsz]
  have hrun : ∀ (b off : Nat) (k : IntKind) (j : Int), a.eval x = .pointer (some ⟨b, off, none⟩) → a.eval i = .int k j → 0 ≤ j ∧ j < len → (execOp a.eval o).run P G.w = .ok (.value (.pointer (some ⟨b, off + j.toNat * sz, none⟩))) G.w := by
    intro b off k j e1 e2 hj
    simp only [execOp, ho, e1, e2]
    simp [Instr.indexAt, run_underlying ht, asIntOf, Instr.sureAddr, hj, hs, addr_add]
  simp only [pval] at hv
  split at hv
  · rename_i ky off k j e1 e2; rw [e1] at rx; rw [e2] at ri
    split at hv
    · rename_i hj
      simp only [Option.some.injEq] at hv; subst hv
      obtain ⟨g, cap, hk, q0⟩ := rx.pt_inv h.toMRel hj.1
      exact ⟨_, hrun g off k j q0 ri.it_inv hj.2, .pt ky _ g cap hk⟩
    · cases hv
  · rename_i xs off k j e1 e2; rw [e1] at rx; rw [e2] at ri
    split at hv
    · rename_i hj
      simp only [Option.some.injEq] at hv; subst hv
      obtain ⟨b, base, f, q0, q1, q2, q3, q4, q5⟩ := rx.ep_inv
      refine ⟨_, hrun b (base + off) k j q0 ri.it_inv hj, ?_⟩
      rw [Nat.add_assoc]
      exact .ep xs _ b base f q1 q2 q3 q4 q5
    · cases hv
  · cases hv

theorem y_idxs (h : Rel B N S a G) {o : Oper} {t : TypeId} {x i : Operand} {ux ui : AOpd} (ho : o.op = .index t x i) (ht : P.underlying t = some .string) (hx : trOpd P N x = some ux) (hi : trOpd P N i = some ui)
    {u : AV} (hv : pval (liveB S) (ev S.fr) (.idxs ux ui) = some u) : Yields P a G o u := by
  have rx := ev_ok h hx
  have ri := ev_ok h hi
  simp only [pval] at hv
  split at hv
  · rename_i l k j e1 e2; rw [e1] at rx; rw [e2] at ri
    split at hv
    · rename_i hj
      simp only [Option.some.injEq] at hv; subst hv
      obtain ⟨s, q0, q1⟩ := rx.st_inv
      have hl : j.toNat < l.length := by omega
      have hsz : j.toNat < s.size := by rw [← q1] at hl; simpa using hl
      have hb : s[j.toNat]? = some (l[j.toNat]?.getD 0) := by
        rw [getElem?_pos s j.toNat hsz]
        congr 1
        subst q1
        rw [List.getElem?_eq_getElem hl]
        rfl
      refine ⟨.int .u8 ((l[j.toNat]?.getD 0).toNat), ?_, .it _ _⟩
      simp only [execOp, ho, q0, ri.it_inv, Instr.index]
      simp [asIntOf, run_underlying ht, hj.1, hb]
    · cases hv
  · cases hv

theorem y_ext (h : Rel B N S a G) {o : Oper} {x : Operand} {i : Nat} {ux : AOpd} (ho : o.op = .extract x i) (hx : trOpd P N x = some ux) {u : AV} (hv : pval (liveB S) (ev S.fr) (.ext ux i) = some u) : Yields P a G o u := by
  have rx := ev_ok h hx
  simp only [pval] at hv
  split at hv
  · rename_i vs e1; rw [e1] at rx
    obtain ⟨xs, q0, q1, q2⟩ := rx.tup_inv
    have hl : i < xs.size := by rw [q1]; exact (List.getElem?_eq_some_iff.1 hv).1
    refine ⟨xs[i], ?_, q2 i u _ hv (Array.getElem?_eq_getElem hl)⟩
    simp [execOp, ho, q0, Instr.extract, hl]
  · cases hv

theorem run_len (h : Rel B N S a G) {o : Oper} {x : Operand} {ats : Array TypeId} (ho : o.op = .call { callee := .builtin .len, args := #[x], argTypes := ats }) (v : Value) (n : Nat) (e1 : a.eval x = v) (e2 : (Builtin.len_ ats o.type #[v]).run P G.w = .ok (goInt n) G.w) :
    (execOp a.eval o).run P G.w = .ok (.value (.int .i64 n)) G.w := by
  have _ := (inferInstance : GB P B)
  simp [execOp, ho, resolve, invoke, builtin, e1, e2, goInt]

theorem y_lens (h : Rel B N S a G) {o : Oper} {x : Operand} {t : TypeId} {ats : Array TypeId} {ux : AOpd} (ho : o.op = .call { callee := .builtin .len, args := #[x], argTypes := ats }) (hat : ats[0]? = some t) (ht : P.underlying t = some .string) (hx : trOpd P N x = some ux)
    {u : AV} (hv : pval (liveB S) (ev S.fr) (.lens ux) = some u) : Yields P a G o u := by
  have rx := ev_ok h hx
  simp only [pval] at hv
  split at hv
  · rename_i l e1; rw [e1] at rx
    simp only [Option.some.injEq] at hv; subst hv
    obtain ⟨s, q0, q1⟩ := rx.st_inv
    have hn : s.size = l.length := by rw [← q1]; simp
    exact ⟨_, run_len h ho _ l.length q0 (by simp [Builtin.len_, hat, run_underlying ht, hn]), .it _ _⟩
  · cases hv

theorem y_len (h : Rel B N S a G) {o : Oper} {x : Operand} {t e : TypeId} {ats : Array TypeId} {ux : AOpd} (ho : o.op = .call { callee := .builtin .len, args := #[x], argTypes := ats }) (hat : ats[0]? = some t) (ht : P.underlying t = some (.slice e)) (hx : trOpd P N x = some ux)
    {u : AV} (hv : pval (liveB S) (ev S.fr) (.len ux) = some u) : Yields P a G o u := by
  have rx := ev_ok h hx
  simp only [pval] at hv
  split at hv
  · rename_i z n xs e1; rw [e1] at rx
    simp only [Option.some.injEq] at hv; subst hv
    rcases rx.sl_inv with ⟨q0, hn0, _⟩ | ⟨_, hn0, _, ad, cap, q0⟩ | ⟨_, b, off, cap, f, q0, _⟩
    rotate_left
    · subst hn0
      exact ⟨_, run_len h ho _ 0 q0 (by simp [Builtin.len_, hat, run_underlying ht]), .it _ _⟩
    · exact ⟨_, run_len h ho _ n q0 (by simp [Builtin.len_, hat, run_underlying ht]), .it _ _⟩
    · subst hn0
      exact ⟨_, run_len h ho _ 0 q0 (by simp [Builtin.len_, hat, run_underlying ht]), .it _ _⟩
  · rename_i k n e1; rw [e1] at rx
    split at hv
    · rename_i hl
      simp only [Option.some.injEq] at hv; subst hv
      obtain ⟨g, cap, hk, q0⟩ := rx.gs_inv h.toMRel hl
      exact ⟨_, run_len h ho _ n q0 (by simp [Builtin.len_, hat, run_underlying ht]), .it _ _⟩
    · cases hv
  · cases hv

theorem run_size {t : TypeId} {sz : Nat} (h : szOf P t = some sz) (w : World) : (sizeOf t).run P w = .ok sz w := by
  unfold szOf at h
  cases hq : P.info? t with
  | none => rw [hq] at h; cases h
  | some q => rw [hq] at h; simp only [Option.map_some, Option.some.injEq] at h; simp [sizeOf, typeInfo, hq, h]

theorem aggSz_true {t : TypeId} {sz : Nat} (h : aggSz P t = some (true, sz)) : (∀ w, (isAgg t).run P w = .ok true w) ∧ szOf P t = some sz := by
  unfold aggSz at h
  split at h <;> simp only [Option.some.injEq, Prod.mk.injEq, reduceCtorEq, true_and, false_and] at h
  · rename_i h1 h2
    exact ⟨fun w => by simp [isAgg, run_underlying h1], by simp [szOf, h2, h]⟩
  · rename_i h1 h2
    exact ⟨fun w => by simp [isAgg, run_underlying h1], by simp [szOf, h2, h]⟩

theorem aggSz_false {t : TypeId} {sz : Nat} (h : aggSz P t = some (false, sz)) : (∀ w, (isAgg t).run P w = .ok false w) ∧ szOf P t = some sz := by
  unfold aggSz at h
  split at h <;> simp only [Option.some.injEq, Prod.mk.injEq, reduceCtorEq, true_and, false_and] at h
  rename_i d i h0 h1 h2 h3
  refine ⟨fun w => ?_, by simp [szOf, h3, h]⟩
  unfold isAgg
  rw [Sem.run_bind, run_underlying h2]
  cases d <;> first | rfl | exact (h0 _ rfl).elim | exact (h1 _ _ rfl).elim

theorem part_agg {cs : List AV} {vs : Array Value} (hl : vs.size = cs.length) (h : ∀ (j : Nat) (u : AV) (x : Value), cs[j]? = some u → vs[j]? = some x → VR G u x) (h1 : ∀ (j : Nat) (x : Value), vs[j]? = some x → x.oneCell' = true) (off sz : Nat) :
    VR G (.agg ((cs.drop off).take sz)) (.agg (vs.extract off (off + sz))) := by
  refine .agg _ _ (by simp [hl]; omega) ?_ ?_
  · intro j u x hu hx
    simp only [List.getElem?_take, List.getElem?_drop] at hu
    split at hu
    · rw [Array.getElem?_extract] at hx
      split at hx
      · exact h (off + j) u x hu hx
      · cases hx
    · cases hu
  · intro j x hx
    rw [Array.getElem?_extract] at hx
    split at hx
    · exact h1 _ x hx
    · cases hx

theorem y_fld (h : Rel B N S a G) {o : Oper} {t : TypeId} {x : Operand} {f sz : Nat} {g : Bool} {fs : Array Field} {fd : Field} {ux : AOpd} (ho : o.op = .field t x f) (ht : P.underlying t = some (.struct fs)) (hf : fs[f]? = some fd) (hsz : aggSz P fd.type = some (g, sz)) (hx : trOpd P N x = some ux)
    {u : AV} (hv : pval (liveB S) (ev S.fr) (.fld g fd.offset sz ux) = some u) : Yields P a G o u := by
  have rx := ev_ok h hx
  simp only [pval] at hv
  split at hv
  · rename_i cs e1; rw [e1] at rx
    obtain ⟨vs, q0, q1, q2, q3⟩ := rx.agg_inv
    cases g with
    | true =>
      obtain ⟨k1, k2⟩ := aggSz_true hsz
      simp only [if_true, Option.some.injEq] at hv; subst hv
      exact ⟨_, by simp [execOp, ho, q0, Instr.field, run_underlying ht, hf, asAgg, part, k1, run_size k2], part_agg q1 q2 q3 fd.offset sz⟩
    | false =>
      obtain ⟨k1, k2⟩ := aggSz_false hsz
      simp only [Bool.false_eq_true, if_false] at hv
      have hl : fd.offset < vs.size := by rw [q1]; exact (List.getElem?_eq_some_iff.1 hv).1
      exact ⟨vs[fd.offset], by simp [execOp, ho, q0, Instr.field, run_underlying ht, hf, asAgg, part, k1, hl], q2 _ u _ hv (Array.getElem?_eq_getElem hl)⟩
  · cases hv

theorem y_mkf (h : Rel B N S a G) {o : Oper} {f : Fn} {x c : Array Operand} {ux uc : List AOpd} (ho : o.op = .makeFunc f x c) (hx : trL P N x.toList = some ux) (hc : trL P N c.toList = some uc) : Yields P a G o (.fn f (ux.map (ev S.fr)) (uc.map (ev S.fr))) := by
  obtain ⟨a1, a2⟩ := trL_ok h hx
  obtain ⟨b1, b2⟩ := trL_ok h hc
  refine ⟨.func f (x.map a.eval) (c.map a.eval), by simp [execOp, ho, Instr.makeFunc], .fn f _ _ _ _ (by simp [← a1]) (by simp [← b1]) ?_ ?_⟩
  · intro j u v hu hv; exact a2 j u v hu (by simpa using hv)
  · intro j u v hu hv; exact b2 j u v hu (by simpa using hv)

theorem run_bnd (h : Rel B N S a G) {lo : Option Operand} {ulo : Option AOpd} (hlo : trO P N lo = some ulo) {d n : Int} (hb : bnd (ev S.fr) d ulo = some n) : (lo = none ∧ n = d) ∨ ∃ k, lo.map a.eval = some (.int k n) := by
  cases lo with
  | none => simp only [trO, Option.some.injEq] at hlo; subst hlo; simp only [bnd, Option.some.injEq] at hb; exact .inl ⟨rfl, hb.symm⟩
  | some x =>
    simp only [trO] at hlo
    cases hx : trOpd P N x with
    | none => rw [hx] at hlo; cases hlo
    | some ux =>
      rw [hx] at hlo; simp only [Option.map_some, Option.some.injEq] at hlo; subst hlo
      have rx := ev_ok h hx
      simp only [bnd] at hb
      split at hb
      · rename_i k m e; rw [e] at rx
        simp only [Option.some.injEq] at hb; subst hb
        exact .inr ⟨k, by simp [rx.it_inv]⟩
      · cases hb

theorem run_sb (s : Bool) (len cap : Nat) (hle : len ≤ cap) {lo hi : Option Value} {a b : Int} (hlo : (lo = none ∧ a = 0) ∨ ∃ k, lo = some (.int k a)) (hhi : (hi = none ∧ b = len) ∨ ∃ k, hi = some (.int k b)) (h0 : 0 ≤ a) (h1 : a ≤ b) (h2 : b ≤ len) (w : World) :
    (Instr.sliceBounds s len cap lo hi none).run P w = .ok (a.toNat, b.toNat, cap) w := by
  have e1 : b ≤ (cap : Int) := by omega
  have e2 : 0 ≤ b := by omega
  have e3 : a ≤ (b.toNat : Int) := by omega
  rcases hhi with ⟨rfl, rfl⟩ | ⟨kb, rfl⟩ <;> rcases hlo with ⟨rfl, rfl⟩ | ⟨ka, rfl⟩ <;> cases s <;> simp [Instr.sliceBounds, Instr.sliceBound, asIntOf, h0, e1, e2, e3, h2] <;> omega

theorem y_sls (h : Rel B N S a G) {o : Oper} {t : TypeId} {x : Operand} {lo hi : Option Operand} {ux : AOpd} {ulo uhi : Option AOpd} (ho : o.op = .slice t x lo hi none) (ht : P.underlying t = some .string) (hx : trOpd P N x = some ux) (hlo : trO P N lo = some ulo) (hhi : trO P N hi = some uhi)
    {u : AV} (hv : pval (liveB S) (ev S.fr) (.sls ux ulo uhi) = some u) : Yields P a G o u := by
  have rx := ev_ok h hx
  simp only [pval] at hv
  split at hv
  · rename_i l e1; rw [e1] at rx
    obtain ⟨s, q0, q1⟩ := rx.st_inv
    split at hv
    · rename_i p q e2 e3
      split at hv
      · rename_i hc
        simp only [Option.some.injEq] at hv; subst hv
        have hn : s.size = l.length := by rw [← q1]; simp
        have b1 := run_bnd h hlo e2
        have b2 := run_bnd h hhi e3
        rw [← hn] at b2
        have hsb := run_sb (P := P) false s.size s.size (Nat.le_refl _) (lo := lo.map a.eval) (hi := hi.map a.eval) (by rcases b1 with ⟨e, f⟩ | b1; exact .inl ⟨by rw [e]; rfl, f⟩; exact .inr b1) (by rcases b2 with ⟨e, f⟩ | b2; exact .inl ⟨by rw [e]; rfl, f⟩; exact .inr b2) hc.1 hc.2.1 (by rw [hn]; exact hc.2.2) G.w
        refine ⟨.string (s.extract p.toNat q.toNat), ?_, .st _ _ ?_⟩
        · simp only [execOp, ho, q0, Instr.sliceAt, Instr.slice]
          simp [run_underlying ht, hsb]
        · subst q1
          simp [ByteArray.data_extract, List.extract_eq_take_drop]
      · cases hv
    · cases hv
  · cases hv

theorem y_sll (h : Rel B N S a G) {o : Oper} {t e : TypeId} {sz : Nat} {x : Operand} {lo hi : Option Operand} {ux : AOpd} {ulo uhi : Option AOpd} (ho : o.op = .slice t x lo hi none) (ht : P.underlying t = some (.slice e)) (hsz : szOf P e = some sz) (hx : trOpd P N x = some ux) (hlo : trO P N lo = some ulo) (hhi : trO P N hi = some uhi)
    {u : AV} (hv : pval (liveB S) (ev S.fr) (.sll sz ux ulo uhi) = some u) : Yields P a G o u := by
  have rx := ev_ok h hx
  simp only [pval] at hv
  split at hv
  · rename_i z n xs e1; rw [e1] at rx
    split at hv
    · rename_i p q e2 e3
      split at hv
      · rename_i hc
        simp only [Option.some.injEq] at hv; subst hv
        rcases rx.sl_inv with ⟨q0, hn0, hx0⟩ | ⟨hz0, hn0, hx0, ad, cap, q0⟩ | ⟨hz0, b, off, cap, f, q0, q1, q2, q3, q4, q5, q6, q7⟩
        · subst hn0; subst hx0
          have hp0 : p = 0 := by omega
          have hq0 : q = 0 := by omega
          subst hp0; subst hq0
          have b1 := run_bnd h hlo e2
          have b2 := run_bnd h hhi e3
          have hsb := run_sb (P := P) true 0 0 (Nat.le_refl _) (lo := lo.map a.eval) (hi := hi.map a.eval) (by rcases b1 with ⟨e, f⟩ | b1; exact .inl ⟨by rw [e]; rfl, f⟩; exact .inr b1) (by rcases b2 with ⟨e, f⟩ | b2; exact .inl ⟨by rw [e]; rfl, f⟩; exact .inr b2) (by omega) (by omega) (by omega) G.w
          refine ⟨.slice none 0 0, ?_, .nsl _ _ _ (by simp) (by simp)⟩
          simp only [execOp, ho, q0, Instr.sliceAt, Instr.slice]
          simp [run_underlying ht, hsb, run_size hsz]
        · subst hz0; subst hn0; subst hx0
          have hp0 : p = 0 := by omega
          have hq0 : q = 0 := by omega
          subst hp0; subst hq0
          have b1 := run_bnd h hlo e2
          have b2 := run_bnd h hhi e3
          have hsb := run_sb (P := P) true 0 cap (Nat.zero_le _) (lo := lo.map a.eval) (hi := hi.map a.eval) (by rcases b1 with ⟨e, f⟩ | b1; exact .inl ⟨by rw [e]; rfl, f⟩; exact .inr b1) (by rcases b2 with ⟨e, f⟩ | b2; exact .inl ⟨by rw [e]; rfl, f⟩; exact .inr b2) (by omega) (by omega) (by omega) G.w
          by_cases hcp : cap = 0
          · subst hcp
            refine ⟨.slice (some ad) 0 0, ?_, .esl _ _ (by simp) (by simp) _ _⟩
            simp only [execOp, ho, q0, Instr.sliceAt, Instr.slice]
            simp [run_underlying ht, hsb, run_size hsz]
          · refine ⟨.slice (some (ad.add 0)) 0 cap, ?_, .esl _ _ (by simp) (by simp) _ _⟩
            simp only [execOp, ho, q0, Instr.sliceAt, Instr.slice]
            simp [run_underlying ht, hsb, run_size hsz, hcp]
        subst hz0
        have b1 := run_bnd h hlo e2
        have b2 := run_bnd h hhi e3
        have hsb := run_sb (P := P) true n cap q5 (lo := lo.map a.eval) (hi := hi.map a.eval) (by rcases b1 with ⟨e, f⟩ | b1; exact .inl ⟨by rw [e]; rfl, f⟩; exact .inr b1) (by rcases b2 with ⟨e, f⟩ | b2; exact .inl ⟨by rw [e]; rfl, f⟩; exact .inr b2) hc.1 hc.2.1 hc.2.2 G.w
        have hsub : ∀ (j : Nat) (u : AV), ((xs.drop (p.toNat * sz)).take ((q.toNat - p.toNat) * sz))[j]? = some u → xs[p.toNat * sz + j]? = some u := by
          intro j u hu
          simp only [List.getElem?_take, List.getElem?_drop] at hu
          split at hu
          · exact hu
          · cases hu
        have hqs : noLs ((xs.drop (p.toNat * sz)).take ((q.toNat - p.toNat) * sz)) = true := noLs_sub (fun u hu => List.mem_of_mem_drop (List.mem_of_mem_take hu)) q7
        by_cases hcp : cap = p.toNat
        · have hz : q.toNat - p.toNat = 0 := by omega
          refine ⟨.slice (some ⟨b, off, none⟩) (q.toNat - p.toNat) (cap - p.toNat), ?_, .sl _ _ b off _ (fun _ => undef) q1 ?_ ?_ ?_ (by omega) (by omega) hqs⟩
          · subst hcp
            simp only [execOp, ho, q0, Instr.sliceAt, Instr.slice]
            simp [run_underlying ht, hsb, run_size hsz]
          all_goals (intro j u hu; rw [hz] at hu; simp at hu)
        · refine ⟨.slice (some ⟨b, off + p.toNat * sz, none⟩) (q.toNat - p.toNat) (cap - p.toNat), ?_, .sl _ _ b _ _ (fun j => f (p.toNat * sz + j)) q1 ?_ ?_ ?_ (by omega) (by omega) hqs⟩
          · simp only [execOp, ho, q0, Instr.sliceAt, Instr.slice]
            simp [run_underlying ht, hsb, run_size hsz, hcp, addr_add]
          · intro j u hu; have := q2 _ u (hsub j u hu); rwa [← Nat.add_assoc] at this
          · intro j u hu; exact q3 _ u (hsub j u hu)
          · intro j u hu; exact q4 _ u (hsub j u hu)
      · cases hv
    · cases hv
  · cases hv

theorem y_idxa (h : Rel B N S a G) {o : Oper} {t e : TypeId} {x i : Operand} {len sz : Nat} {g : Bool} {ux ui : AOpd} (ho : o.op = .index t x i) (ht : P.underlying t = some (.array len e)) (hsz : aggSz P e = some (g, sz)) (hx : trOpd P N x = some ux) (hi : trOpd P N i = some ui)
    {u : AV} (hv : pval (liveB S) (ev S.fr) (.idxa g len sz ux ui) = some u) : Yields P a G o u := by
  have rx := ev_ok h hx
  have ri := ev_ok h hi
  simp only [pval] at hv
  split at hv
  · rename_i cs k j e1 e2; rw [e1] at rx; rw [e2] at ri
    obtain ⟨vs, q0, q1, q2, q3⟩ := rx.agg_inv
    split at hv
    · rename_i hj
      cases g with
      | true =>
        obtain ⟨k1, k2⟩ := aggSz_true hsz
        simp only [if_true, Option.some.injEq] at hv; subst hv
        exact ⟨_, by simp only [execOp, ho, q0, ri.it_inv, Instr.index]; simp [run_underlying ht, asIntOf, hj, part, k1, run_size k2], part_agg q1 q2 q3 _ sz⟩
      | false =>
        obtain ⟨k1, k2⟩ := aggSz_false hsz
        simp only [Bool.false_eq_true, if_false] at hv
        have hl : j.toNat * sz < vs.size := by rw [q1]; exact (List.getElem?_eq_some_iff.1 hv).1
        exact ⟨vs[j.toNat * sz], by simp only [execOp, ho, q0, ri.it_inv, Instr.index]; simp [run_underlying ht, asIntOf, hj, part, k1, run_size k2, hl], q2 _ u _ hv (Array.getElem?_eq_getElem hl)⟩
    · cases hv
  · cases hv

theorem eq1_ok {u v : AV} {x y : Value} {b : Bool} {kind : Nat} (hu : VR G u x) (hv : VR G v y) (he : eq1 kind u v = some b) {t : TypeId} (ht : eqKind P t = some kind) (d : Nat) (w : World) : (Op.equalIn (d + 1) t x y).run P w = .ok b w := by
  unfold eq1 at he
  unfold eqKind at ht
  split at he
  · simp only [Option.some.injEq] at he; subst he
    have e1 := hu.bl_inv; have e2 := hv.bl_inv; subst e1; subst e2
    split at ht <;> simp only [Option.some.injEq, reduceCtorEq, Nat.reduceEqDiff, Nat.reduceSucc] at ht <;> first | (cases ht; done) | skip
    rename_i hu; exact run_equalIn_bool _ d t _ _ hu
  · split at he
    · rename_i hk; subst hk
      simp only [Option.some.injEq] at he; subst he
      have e1 := hu.it_inv; have e2 := hv.it_inv; subst e1; subst e2
      split at ht <;> simp only [Option.some.injEq, reduceCtorEq, Nat.reduceEqDiff, Nat.reduceSucc] at ht <;> first | (cases ht; done) | skip
      rename_i hu; exact run_equalIn_int _ d t _ _ _ _ hu
    · cases he
  · simp only [Option.some.injEq] at he; subst he
    obtain ⟨s, e1, h1⟩ := hu.st_inv; obtain ⟨s', e2, h2⟩ := hv.st_inv; subst e1; subst e2; subst h1; subst h2
    split at ht <;> simp only [Option.some.injEq, reduceCtorEq, Nat.reduceEqDiff, Nat.reduceSucc] at ht <;> first | (cases ht; done) | skip
    rename_i hu; rw [run_equalIn_string _ d t _ _ hu, ByteArray.toList_eq, ByteArray.toList_eq]
  · cases he

theorem eqP_ok (h : MRel B S G) {u v : AV} {x y : Value} {b : Bool} {kind : Nat} (hu : VR G u x) (hv : VR G v y) (he : eqP (liveB S) kind u v = some b) {t : TypeId} (ht : eqKind P t = some kind) (d : Nat) (w : World) : (Op.equalIn (d + 1) t x y).run P w = .ok b w := by
  have _ := (inferInstance : GB P B)
  unfold eqP at he
  split at he
  · have hp : ∃ e, P.underlying t = some (.pointer e) := by
      unfold eqKind at ht
      split at ht <;> simp only [Option.some.injEq, reduceCtorEq, Nat.reduceEqDiff, Nat.reduceSucc] at ht <;> first | (cases ht; done) | skip
      rename_i e hu; exact ⟨e, hu⟩
    obtain ⟨e, hp⟩ := hp
    split at he
    · simp only [Option.some.injEq] at he; subst he
      have e1 := hu.nptr_inv; have e2 := hv.nptr_inv; subst e1; subst e2
      simp [Op.equalIn, run_underlying hp]
    · simp only [Option.some.injEq] at he; subst he
      obtain ⟨bb, base, f, e2, _⟩ := hv.ep_inv
      have e1 := hu.nptr_inv; subst e1; subst e2
      simp [Op.equalIn, run_underlying hp]
    · simp only [Option.some.injEq] at he; subst he
      obtain ⟨bb, base, f, e2, _⟩ := hu.ep_inv
      have e1 := hv.nptr_inv; subst e1; subst e2
      simp [Op.equalIn, run_underlying hp]
    · split at he
      · rename_i hl
        simp only [Option.some.injEq] at he; subst he
        obtain ⟨g, cap, hk, e2⟩ := hv.pt_inv h hl
        have e1 := hu.nptr_inv; subst e1; subst e2
        simp [Op.equalIn, run_underlying hp]
      · cases he
    · split at he
      · rename_i hl
        simp only [Option.some.injEq] at he; subst he
        obtain ⟨g, cap, hk, e2⟩ := hu.pt_inv h hl
        have e1 := hv.nptr_inv; subst e1; subst e2
        simp [Op.equalIn, run_underlying hp]
      · cases he
    · cases he
  · have hp : ∃ e, P.underlying t = some (.slice e) := by
      unfold eqKind at ht
      split at ht <;> simp only [Option.some.injEq, reduceCtorEq, Nat.reduceEqDiff, Nat.reduceSucc] at ht <;> first | (cases ht; done) | skip
      rename_i e hu; exact ⟨e, hu⟩
    obtain ⟨e, hp⟩ := hp
    split at he
    · simp only [Option.some.injEq] at he; subst he
      have e1 := hu.nsl_inv.1; have e2 := hv.nsl_inv.1; subst e1; subst e2
      simp [Op.equalIn, run_underlying hp]
    · split at he
      · rename_i hn
        simp only [Option.some.injEq] at he; subst he
        have e2 := hv.nsl_inv.1; subst e2
        rcases hu.sl_inv with ⟨_, hn0, _⟩ | ⟨_, hn0, _⟩ | ⟨_, bb, off, cap, f, e1, _⟩
        · omega
        · omega
        subst e1
        simp [Op.equalIn, run_underlying hp]
      · cases he
    · split at he
      · rename_i hn
        simp only [Option.some.injEq] at he; subst he
        have e1 := hu.nsl_inv.1; subst e1
        rcases hv.sl_inv with ⟨_, hn0, _⟩ | ⟨_, hn0, _⟩ | ⟨_, bb, off, cap, f, e2, _⟩
        · omega
        · omega
        subst e2
        simp [Op.equalIn, run_underlying hp]
      · cases he
    · cases he
  · exact eq1_ok hu hv he ht d w

end
end Go.AV

