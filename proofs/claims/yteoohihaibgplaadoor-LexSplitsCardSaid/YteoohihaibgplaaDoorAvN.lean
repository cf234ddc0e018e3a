/-
  States in the midst of a region: old places and new ones, as data; operations evaluated on them.
-/
import Derived.Test.YteoohihaibgplaaDoorAvL
namespace Go.AV
open Go.RowKit Go.RG Go.Lib

def AllP : List Prop → Prop
  | [] => True
  | c :: r => c ∧ AllP r
theorem AllP_append {a b : List Prop} (h : AllP (a ++ b)) : AllP a ∧ AllP b := by
  induction a with
  | nil => exact ⟨trivial, h⟩
  | cons x a ih => exact ⟨⟨h.1, (ih h.2).1⟩, (ih h.2).2⟩

/-! ### the state -/
structure DS where
  fr : List (Nat × AV)
  od : List (Nat × Option KB)
  nw : List (Nat × Option KB)
  H : Hp
  nx : Nat
def lkO : List (Nat × Option KB) → Nat → Option KB
  | [], _ => none
  | p :: r, t => match Nat.beq p.1 t with
    | true => p.2
    | false => lkO r t
def memO : List (Nat × Option KB) → Nat → Bool
  | [], _ => false
  | p :: r, t => Nat.beq p.1 t || memO r t
def DS.kb (ds : DS) (d c : Nat) : Option KB := match Nat.beq c 1 with
  | true => lkO ds.od d
  | false => match Nat.beq c 2 with
    | true => lkO ds.nw d
    | false => none
def DS.M (ds : DS) : Key → Option Blk
  | .h o => ds.H o
  | .l d c => (ds.kb d c).map KB.blk
def DS.cn (ds : DS) (d : Nat) : Nat := match memO ds.nw d with
  | true => 2
  | false => 1
def toD (ds : DS) : St := ⟨lkF ds.fr, ds.M, ds.cn, ds.nx⟩
def someL : List (Nat × KB) → List (Nat × Option KB)
  | [] => []
  | p :: r => (p.1, some p.2) :: someL r
def ofK (ks : KS) : DS := ⟨ks.fr, someL ks.mem, [], ks.H, ks.nx⟩
def bOk (b : KB) : Prop := b.sz ≠ 0 ∧ (b.q = true → noLs b.cells = true)
def DOk (ds : DS) : Prop := ∀ d c b, ds.kb d c = some b → bOk b

theorem lkO_cons (p : Nat × Option KB) (r : List (Nat × Option KB)) (t : Nat) : lkO (p :: r) t = if p.1 = t then p.2 else lkO r t := by
  simp only [lkO]
  by_cases h : p.1 = t
  · rw [if_pos h, nbeq.2 h]
  · rw [if_neg h]
    cases hb : Nat.beq p.1 t with
    | true => exact absurd (nbeq.1 hb) h
    | false => rfl
theorem lkO_some (m : List (Nat × KB)) (d : Nat) : lkO (someL m) d = lkM m d := by
  induction m with
  | nil => rfl
  | cons p m ih => simp only [someL]; rw [lkO_cons, lkM_cons, ih]
theorem ofK_toD (ks : KS) : toD (ofK ks) = toS ks := by
  unfold toD toS
  simp only [St.mk.injEq]
  refine ⟨rfl, ?_, rfl, rfl⟩
  funext k
  cases k with
  | h o => rfl
  | l d c =>
    show ((ofK ks).kb d c).map KB.blk = ks.M (.l d c)
    unfold DS.kb KS.M
    cases hb : Nat.beq c 1 with
    | true => simp only [ofK, lkO_some, hb]
    | false =>
      cases hb2 : Nat.beq c 2 <;> simp only [ofK, hb, lkO, Option.map_none]
theorem ofK_ok {ks : KS} (h : KOk ks) : DOk (ofK ks) := by
  intro d c b hb
  unfold DS.kb at hb
  split at hb
  · simp only [ofK, lkO_some] at hb; exact h d b hb
  · split at hb
    · simp [ofK, lkO] at hb
    · cases hb

def DS.put (ds : DS) (d : Option Nat) (v : AV) : DS := match d with
  | some d => ⟨(d, v) :: ds.fr, ds.od, ds.nw, ds.H, ds.nx⟩
  | none => ds
/-- a place is turned, or gone -/
def DS.set (ds : DS) (q c : Nat) (b : Option KB) : DS := match Nat.beq c 1 with
  | true => ⟨ds.fr, (q, b) :: ds.od, ds.nw, ds.H, ds.nx⟩
  | false => ⟨ds.fr, ds.od, (q, b) :: ds.nw, ds.H, ds.nx⟩

theorem DS.put_M (ds : DS) (d : Option Nat) (v : AV) : (ds.put d v).M = ds.M := by
  cases d <;> (funext k; cases k <;> rfl)
theorem putD_toD (ds : DS) (d : Option Nat) (v : AV) : (toD ds).put d v = toD (ds.put d v) := by
  cases d with
  | none => rfl
  | some d =>
    unfold toD St.put
    simp only [St.mk.injEq]
    refine ⟨?_, (DS.put_M ds (some d) v).symm, rfl, rfl⟩
    funext t
    show upd (lkF ds.fr) d v t = lkF ((d, v) :: ds.fr) t
    rw [lkF_cons]
    unfold upd
    by_cases h : t = d
    · subst h; simp
    · rw [if_neg h, if_neg (fun q => h q.symm)]
theorem DOk.put {ds : DS} {d : Option Nat} {v : AV} (h : DOk ds) : DOk (ds.put d v) := by cases d <;> exact h

theorem set_kb (ds : DS) (q c : Nat) (b : Option KB) (hc : c = 1 ∨ c = 2) (d c' : Nat) : (ds.set q c b).kb d c' = if d = q ∧ c' = c then b else ds.kb d c' := by
  rcases hc with rfl | rfl
  · unfold DS.set DS.kb
    simp only [show Nat.beq 1 1 = true from rfl]
    cases hb : Nat.beq c' 1 with
    | true =>
      have := nbeq.1 hb; subst this
      simp only
      rw [lkO_cons]
      by_cases h : d = q
      · subst h; simp
      · have h' : ¬ q = d := fun e => h e.symm
        simp [h, h']
    | false =>
      have : ¬ c' = 1 := fun e => by subst e; cases hb
      simp [this]
  · unfold DS.set DS.kb
    simp only [show Nat.beq 2 1 = false from rfl]
    cases hb : Nat.beq c' 1 with
    | true =>
      have := nbeq.1 hb; subst this
      simp
    | false =>
      simp only
      cases hb2 : Nat.beq c' 2 with
      | true =>
        have := nbeq.1 hb2; subst this
        simp only
        rw [lkO_cons]
        by_cases h : d = q
        · subst h; simp
        · have h' : ¬ q = d := fun e => h e.symm
          simp [h, h']
      | false =>
        have : ¬ c' = 2 := fun e => by subst e; cases hb2
        simp [this]
theorem set_fr (ds : DS) (q c : Nat) (b : Option KB) : (ds.set q c b).fr = ds.fr := by unfold DS.set; split <;> rfl
theorem set_nx (ds : DS) (q c : Nat) (b : Option KB) : (ds.set q c b).nx = ds.nx := by unfold DS.set; split <;> rfl
theorem set_H (ds : DS) (q c : Nat) (b : Option KB) : (ds.set q c b).H = ds.H := by unfold DS.set; split <;> rfl
theorem DOk.set {ds : DS} {q c : Nat} {b : Option KB} (h : DOk ds) (hc : c = 1 ∨ c = 2) (hb : ∀ x, b = some x → bOk x) : DOk (ds.set q c b) := by
  intro d c' x hx
  rw [set_kb ds q c b hc] at hx
  split at hx
  · exact hb x hx
  · exact h d c' x hx
theorem set_M (ds : DS) (q c : Nat) (b : Option KB) (hc : c = 1 ∨ c = 2) : (ds.set q c b).M = updK ds.M (.l q c) (b.map KB.blk) := by
  funext k
  unfold updK
  cases k with
  | h o => rcases hc with rfl | rfl <;> simp [DS.M, DS.set]
  | l d c' =>
    show ((ds.set q c b).kb d c').map KB.blk = _
    rw [set_kb ds q c b hc]
    by_cases h : d = q ∧ c' = c
    · simp [h]
    · simp only [h, if_false, Key.l.injEq]; rfl
theorem set_cn {ds : DS} {q c : Nat} {b : Option KB} (h : c = 1 ∨ (c = 2 ∧ memO ds.nw q = true)) : (ds.set q c b).cn = ds.cn := by
  funext d
  rcases h with rfl | ⟨rfl, hm⟩
  · rfl
  · unfold DS.cn
    show (match (Nat.beq q d || memO ds.nw d) with | true => 2 | false => 1) = _
    by_cases hd : q = d
    · subst hd; rw [nbeq.2 rfl, hm]; rfl
    · have : Nat.beq q d = false := by
        cases hb : Nat.beq q d with
        | true => exact absurd (nbeq.1 hb) hd
        | false => rfl
      rw [this]; rfl
theorem new_cn {ds : DS} {q : Nat} {b : Option KB} (h : memO ds.nw q = false) : (ds.set q 2 b).cn = upd ds.cn q (ds.cn q + 1) := by
  funext d
  unfold upd
  show (match (Nat.beq q d || memO ds.nw d) with | true => 2 | false => 1) = _
  by_cases hd : d = q
  · subst hd; simp only [if_true, DS.cn, h, nbeq.2, Bool.true_or]
  · have : Nat.beq q d = false := by
      cases hb : Nat.beq q d with
      | true => exact absurd (nbeq.1 hb).symm hd
      | false => rfl
    rw [this, if_neg hd]; rfl

/-! ### operations -/
abbrev KR (α : Type) := Option (List Prop × α)
def kok {α : Type} (o : Option α) : KR α := match o with
  | some v => some ([], v)
  | none => none
def kbin (op : BinOp) (k : IntKind) (a b : Int) : KR AV := match op with
  | .quo => some ([b ≠ 0], .it k (k.wrap (a.tdiv b)))
  | .rem => some ([b ≠ 0], .it k (a.tmod b))
  | op => kok (binI op k a b)
def kshi (op : BinOp) (k : IntKind) (a b : Int) : KR AV := match op with
  | .shl => some ([¬ b < 0], .it k (k.wrap (a * 2 ^ (min b.toNat k.bits))))
  | .shr => some ([¬ b < 0], .it k (a.fdiv (2 ^ (min b.toNat k.bits))))
  | _ => none
def kstr (op : BinOp) (a b : List UInt8) : KR AV := match op with
  | .add => some ([a.length + b.length ≤ 9223372036854775807], .st (a ++ b))
  | op => kok (binS op a b)
def ngB (g b : Bool) : Bool := match g with
  | false => b
  | true => !b
theorem ngB_eq (g b : Bool) : ngB g b = (g != b) := by cases g <;> cases b <;> rfl
def keq (live : Key → Bool) (g : Bool) (kind : Nat) (x y : AV) : KR AV := match x, y with
  | .sl true _ _, .sl true _ _ => if kind = 4 then some ([], .bl (!g)) else none
  | .sl false n _, .sl true _ _ => if kind = 4 then some ([0 < n], .bl g) else none
  | .sl true _ _, .sl false n _ => if kind = 4 then some ([0 < n], .bl g) else none
  | x, y => kok ((eqP live kind x y).map fun b => .bl (ngB g b))
def ksls (l : List UInt8) (lo hi : Option Int) : KR AV := match lo, hi with
  | some a, some b => some ([0 ≤ a ∧ a ≤ b ∧ b ≤ l.length], .st ((l.drop a.toNat).take (b.toNat - a.toNat)))
  | _, _ => none
def kpv (live : Key → Bool) (fr : List (Nat × AV)) (u : AOp) : KR AV := match u with
  | .bin op x y => match ev (lkF fr) x, ev (lkF fr) y with
    | .it k a, .it k' b => if op = .shl ∨ op = .shr then kshi op k a b else if k = k' then kbin op k a b else none
    | .st a, .st b => kstr op a b
    | _, _ => none
  | .eq g kind x y => keq live g kind (ev (lkF fr) x) (ev (lkF fr) y)
  | .eqs g kinds x y => match ev (lkF fr) x, ev (lkF fr) y with
    | .agg a, .agg b => kok ((eqL kinds a b).map fun r => .bl (ngB g r))
    | _, _ => none
  | .sls x lo hi => match ev (lkF fr) x with
    | .st l => ksls l (bnd (ev (lkF fr)) 0 lo) (bnd (ev (lkF fr)) l.length hi)
    | _ => none
  | .idxs x i => match ev (lkF fr) x, ev (lkF fr) i with
    | .st l, .it _ i => some ([0 ≤ i ∧ i < l.length], .it .u8 ((l[i.toNat]?.getD 0).toNat))
    | _, _ => none
  | .iad sz x i => match ev (lkF fr) x, ev (lkF fr) i with
    | .gs k n, .it _ i => match live k with
      | true => some ([0 ≤ i ∧ i < n], .pt k (i.toNat * sz))
      | false => none
    | .sl _ n xs, .it _ i => some ([0 ≤ i ∧ i < n], .ep xs (i.toNat * sz))
    | _, _ => none
  | .iada len sz x i => match ev (lkF fr) x, ev (lkF fr) i with
    | .pt k o, .it _ i => match live k with
      | true => some ([0 ≤ i ∧ i < len], .pt k (o + i.toNat * sz))
      | false => none
    | .ep xs o, .it _ i => some ([0 ≤ i ∧ i < len], .ep xs (o + i.toNat * sz))
    | _, _ => none
  | .idxa g len sz x i => match ev (lkF fr) x, ev (lkF fr) i with
    | .agg cs, .it _ q => match !g && Nat.beq sz 1 && Nat.ble len cs.length with
      | true => some ([0 ≤ q ∧ q < len], (cs[q.toNat]?).getD .un)
      | false => kok (pval live (ev (lkF fr)) (.idxa g len sz x i))
    | _, _ => none
  | .sll .. => none
  | u => kok (pval live (ev (lkF fr)) u)

theorem kok_out {α : Type} {o : Option α} {C : List Prop} {v : α} (h : kok o = some (C, v)) : o = some v ∧ C = [] := by
  cases o with
  | none => cases h
  | some u => simp only [kok, Option.some.injEq, Prod.mk.injEq] at h; exact ⟨by rw [h.2], h.1.symm⟩

theorem kpv_ok {live : Key → Bool} {fr : List (Nat × AV)} {u : AOp} {C : List Prop} {v : AV} (h : kpv live fr u = some (C, v)) (hC : AllP C) : pval live (ev (lkF fr)) u = some v := by
  unfold kpv at h
  split at h
  · rename_i op x y
    simp only [pval]
    split at h
    · rename_i k a k' b e1 e2
      rw [e1, e2]; simp only
      split at h
      · rename_i hop
        rw [if_pos hop]
        unfold kshi at h
        split at h <;> simp only [Option.some.injEq, Prod.mk.injEq, reduceCtorEq] at h
        · obtain ⟨rfl, rfl⟩ := h; simp only [shI]; rw [if_neg hC.1]
        · obtain ⟨rfl, rfl⟩ := h; simp only [shI]; rw [if_neg hC.1]
      · rename_i hop
        rw [if_neg hop]
        split at h
        · rename_i hk
          rw [if_pos hk]
          unfold kbin at h
          split at h
          · simp only [Option.some.injEq, Prod.mk.injEq] at h; obtain ⟨rfl, rfl⟩ := h; simp only [binI]; rw [if_neg hC.1]
          · simp only [Option.some.injEq, Prod.mk.injEq] at h; obtain ⟨rfl, rfl⟩ := h; simp only [binI]; rw [if_neg hC.1]
          · exact (kok_out h).1
        · cases h
    · rename_i a b e1 e2
      rw [e1, e2]; simp only
      unfold kstr at h
      split at h
      · simp only [Option.some.injEq, Prod.mk.injEq] at h; obtain ⟨rfl, rfl⟩ := h; simp only [binS]; rw [if_pos hC.1]
      · exact (kok_out h).1
    · cases h
  · rename_i g kind x y
    simp only [pval]
    unfold keq at h
    split at h
    · rename_i e1 e2
      rw [e1, e2]
      split at h
      · rename_i hk; subst hk; simp only [Option.some.injEq, Prod.mk.injEq] at h; rw [← h.2]; cases g <;> rfl
      · cases h
    · rename_i e1 e2
      rw [e1, e2]
      split at h
      · rename_i hk; subst hk; simp only [Option.some.injEq, Prod.mk.injEq] at h; obtain ⟨rfl, rfl⟩ := h; simp only [eqP]; rw [if_pos hC.1]; cases g <;> rfl
      · cases h
    · rename_i e1 e2
      rw [e1, e2]
      split at h
      · rename_i hk; subst hk; simp only [Option.some.injEq, Prod.mk.injEq] at h; obtain ⟨rfl, rfl⟩ := h; simp only [eqP]; rw [if_pos hC.1]; cases g <;> rfl
      · cases h
    · have := (kok_out h).1
      rw [← this]
      congr 1
      funext b; rw [ngB_eq]
  · rename_i g kinds x y
    simp only [pval]
    split at h
    · rename_i a b e1 e2
      rw [e1, e2]; simp only
      have := (kok_out h).1
      rw [← this]
      congr 1
      funext b; rw [ngB_eq]
    · cases h
  · rename_i x lo hi
    simp only [pval]
    split at h
    · rename_i l e1
      rw [e1]; simp only
      unfold ksls at h
      split at h
      · rename_i a b e2 e3
        rw [e2, e3]; simp only
        simp only [Option.some.injEq, Prod.mk.injEq] at h; obtain ⟨rfl, rfl⟩ := h
        rw [if_pos hC.1]
      · cases h
    · cases h
  · rename_i x j
    simp only [pval]
    split at h
    · rename_i l k n e1 e2
      rw [e1, e2]; simp only
      simp only [Option.some.injEq, Prod.mk.injEq] at h; obtain ⟨rfl, rfl⟩ := h
      rw [if_pos hC.1]
    · cases h
  · rename_i sz x j
    simp only [pval]
    split at h
    · rename_i k n k' m e1 e2
      rw [e1, e2]; simp only
      split at h
      · rename_i hl
        simp only [Option.some.injEq, Prod.mk.injEq] at h; obtain ⟨rfl, rfl⟩ := h
        rw [if_pos ⟨hl, hC.1⟩]
      · cases h
    · rename_i z n xs k' m e1 e2
      rw [e1, e2]; simp only
      simp only [Option.some.injEq, Prod.mk.injEq] at h; obtain ⟨rfl, rfl⟩ := h
      rw [if_pos hC.1]
    · cases h
  · rename_i len sz x j
    simp only [pval]
    split at h
    · rename_i k o k' m e1 e2
      rw [e1, e2]; simp only
      split at h
      · rename_i hl
        simp only [Option.some.injEq, Prod.mk.injEq] at h; obtain ⟨rfl, rfl⟩ := h
        rw [if_pos ⟨hl, hC.1⟩]
      · cases h
    · rename_i xs o k' m e1 e2
      rw [e1, e2]; simp only
      simp only [Option.some.injEq, Prod.mk.injEq] at h; obtain ⟨rfl, rfl⟩ := h
      rw [if_pos hC.1]
    · cases h
  · rename_i g len sz x j
    split at h
    · rename_i cs k q e1 e2
      split at h
      · rename_i hb
        simp only [Bool.and_eq_true, Bool.not_eq_true'] at hb
        obtain ⟨⟨hg, hz⟩, hl⟩ := hb
        simp only [Option.some.injEq, Prod.mk.injEq] at h
        obtain ⟨rfl, rfl⟩ := h
        have hz' := nbeq.1 hz
        subst hz'
        subst hg
        have hC1 : 0 ≤ q ∧ q < len := hC.1
        have hlt : q.toNat < cs.length := by have := Nat.le_of_ble_eq_true hl; omega
        simp only [pval, e1, e2]
        rw [if_pos hC1]
        simp only [Nat.mul_one, Bool.false_eq_true, if_false]
        rw [List.getElem?_eq_getElem hlt]; rfl
      · exact (kok_out h).1
    · cases h
  · cases h
  · exact (kok_out h).1

/-! ### an operation's effect -/
/-- an operation leads from one state to another one, by an effect -/
structure Eff (u : AOp) (d : Option Nat) (ds : DS) (e : REff) (ds' : DS) : Prop where
  eff : effA (fun _ => false) u d (toD ds) = some e
  app : e.app d (toD ds) = toD ds'
  ok : DOk ds'
def isMem : AOp → Bool
  | .box .. | .bsl .. | .ld .. | .sto .. | .app .. | .apps .. | .sll .. | .mks .. | .b2s .. | .call .. | .calv .. | .s2b .. => true
  | _ => false

def kld (g : Bool) (sz : Nat) (cs : List AV) (off : Nat) : Option AV := match g with
  | true => if off + sz ≤ cs.length then some (.agg ((cs.drop off).take sz)) else none
  | false => cs[off]?
def kx (u : AOp) (d : Option Nat) (ds : DS) : KR (REff × DS) := match u with
  | .box e sz x => match memO ds.nw (site d) with
    | false => if (ev (lkF ds.fr) x).cells.length = sz ∧ (ev (lkF ds.fr) x).cells.all AV.one = true ∧ 0 < sz then some ([], ⟨.pt (.l (site d) 2) 0, [((site d, 2), some ⟨e, sz, (ev (lkF ds.fr) x).cells⟩)], [site d], none⟩, (ds.set (site d) 2 (some ⟨e, sz, (ev (lkF ds.fr) x).cells, false⟩)).put d (.pt (.l (site d) 2) 0)) else none
    | true => none
  | .bsl e sz len z parts => match memO ds.nw (site d), fillA (zerosL z len) (parts.map fun p => (p.1, p.2.1, ev (lkF ds.fr) p.2.2)) with
    | false, some cs => if z.length = sz ∧ 0 < sz ∧ len * sz ≤ 16777216 then some ([], ⟨.gs (.l (site d) 2) len, [((site d, 2), some ⟨e, sz, cs.map weak⟩)], [site d], none⟩, (ds.set (site d) 2 (some ⟨e, sz, cs.map weak, false⟩)).put d (.gs (.l (site d) 2) len)) else none
    | _, _ => none
  | .ld g sz x => match ev (lkF ds.fr) x with
    | .pt (.l s c) off => match ds.kb s c with
      | some b => match kld g sz b.cells off with
        | some v => some ([], eff1 v, ds.put d v)
        | none => none
      | none => none
    | .ep xs off => match kld g sz xs off with
      | some v => some ([], eff1 v, ds.put d v)
      | none => none
    | _ => none
  | .sto sz x y => match ev (lkF ds.fr) x with
    | .pt (.l s c) off => match ds.kb s c with
      | some b => if (ev (lkF ds.fr) y).cells.length = sz ∧ (ev (lkF ds.fr) y).cells.all AV.one = true ∧ off + sz ≤ b.cells.length then some ([], ⟨.un, [((s, c), some ⟨b.e, b.sz, b.cells.take off ++ (ev (lkF ds.fr) y).cells ++ b.cells.drop (off + sz)⟩)], [], none⟩, (ds.set s c (some ⟨b.e, b.sz, b.cells.take off ++ (ev (lkF ds.fr) y).cells ++ b.cells.drop (off + sz), false⟩)).put d .un) else none
      | none => none
    | _ => none
  | .app .. | .apps .. | .sll .. | .b2s .. | .s2b .. | .mks .. | .call .. | .calv .. => none
  | u => match kpv (liveB (toD ds)) ds.fr u with
    | some (C, v) => some (C, eff1 v, ds.put d v)
    | none => none

theorem toD_fr (ds : DS) : (toD ds).fr = lkF ds.fr := rfl
theorem kb_c {ds : DS} {s c : Nat} {b : KB} (h : ds.kb s c = some b) : c = 1 ∨ (c = 2 ∧ memO ds.nw s = true) := by
  unfold DS.kb at h
  split at h
  · rename_i hc; exact .inl (nbeq.1 hc)
  · split at h
    · rename_i hc
      refine .inr ⟨nbeq.1 hc, ?_⟩
      have : ∀ (l : List (Nat × Option KB)), lkO l s = some b → memO l s = true := by
        intro l
        induction l with
        | nil => intro h; cases h
        | cons p l ih =>
          intro h
          rw [lkO_cons] at h
          simp only [memO]
          split at h
          · rename_i e; rw [nbeq.2 e]; rfl
          · rw [ih h, Bool.or_true]
      exact this _ h
    · cases h
theorem eff1_app (v : AV) (d : Option Nat) (ds : DS) : (eff1 v).app d (toD ds) = toD (ds.put d v) := by
  unfold REff.app
  rw [mst_eff1, putD_toD]; rfl
theorem set_app {ds : DS} {s c : Nat} {b : KB} {v : AV} {d : Option Nat} (hc : c = 1 ∨ (c = 2 ∧ memO ds.nw s = true)) : REff.app ⟨v, [((s, c), some b.blk)], [], none⟩ d (toD ds) = toD ((ds.set s c (some b)).put d v) := by
  rw [← putD_toD]
  unfold REff.app
  congr 1
  have hc' : c = 1 ∨ c = 2 := hc.imp id (·.1)
  unfold REff.mst toD
  simp only [St.mk.injEq]
  refine ⟨?_, ?_, ?_, ?_⟩
  · unfold DS.set; split <;> rfl
  · rw [set_M ds s c _ hc']; funext k; cases k <;> rfl
  · rw [set_cn hc]; exact (cntB_nil _).symm
  · unfold DS.set; split <;> rfl
theorem new_app {ds : DS} {s : Nat} {b : KB} {v : AV} {d : Option Nat} (h : memO ds.nw s = false) : REff.app ⟨v, [((s, 2), some b.blk)], [s], none⟩ d (toD ds) = toD ((ds.set s 2 (some b)).put d v) := by
  rw [← putD_toD]
  unfold REff.app
  congr 1
  unfold REff.mst toD
  simp only [St.mk.injEq]
  refine ⟨rfl, ?_, ?_, rfl⟩
  · rw [set_M ds s 2 _ (.inr rfl)]; funext k; cases k <;> rfl
  · rw [new_cn h]; exact cntB_one _ _
theorem newX_app {ds : DS} {s q c : Nat} {b : KB} {v : AV} {d : Option Nat} (h : memO ds.nw s = false) (hc : c = 1 ∨ (c = 2 ∧ memO ds.nw q = true)) : REff.app ⟨v, [((q, c), none), ((s, 2), some b.blk)], [s], none⟩ d (toD ds) = toD (((ds.set q c none).set s 2 (some b)).put d v) := by
  rw [← putD_toD]
  unfold REff.app
  congr 1
  have hc' : c = 1 ∨ c = 2 := hc.imp id (·.1)
  have hne : q = s → c = 1 := by
    rintro rfl
    rcases hc with e | ⟨_, e⟩
    · exact e
    · rw [h] at e; cases e
  have hm : memO (ds.set q c none).nw s = false := by
    rcases hc with rfl | ⟨rfl, e⟩
    · exact h
    · show (Nat.beq q s || memO ds.nw s) = false
      rw [h, Bool.or_false]
      cases hb : Nat.beq q s with
      | true => have := hne (nbeq.1 hb); cases this
      | false => rfl
  unfold REff.mst toD
  simp only [St.mk.injEq]
  refine ⟨?_, ?_, ?_, ?_⟩
  · rw [set_fr, set_fr]
  · rw [set_M _ s 2 _ (.inr rfl), set_M ds q c _ hc']; funext k; cases k <;> rfl
  · rw [new_cn hm, set_cn hc]; exact cntB_one _ _
  · rw [set_nx, set_nx]
theorem cn_new {ds : DS} {s : Nat} (h : memO ds.nw s = false) : (toD ds).cnt s = 1 := by show ds.cn s = 1; unfold DS.cn; rw [h]
theorem effNew_D {ds : DS} {s : Nat} {ks : List (Nat × Nat)} {b : Blk} {v : Key → AV} (h : memO ds.nw s = false) : effNew (fun _ => false) s (toD ds) ks b v = some ⟨v (.l s 2), ks.map (fun k => (k, none)) ++ [((s, 2), some b)], [s], none⟩ := by
  unfold effNew
  rw [if_pos rfl, cn_new h]

theorem kx_ok {u : AOp} {d : Option Nat} {ds ds' : DS} {e : REff} {C : List Prop} (h : kx u d ds = some (C, e, ds')) (hC : AllP C) (hk : DOk ds) : Eff u d ds e ds' := by
  cases u
  case box ee sz x =>
    simp only [kx] at h
    split at h
    · rename_i hm
      split at h
      · rename_i hc
        simp only [Option.some.injEq, Prod.mk.injEq] at h
        obtain ⟨_, rfl, rfl⟩ := h
        refine ⟨?_, new_app (b := ⟨ee, sz, (ev (lkF ds.fr) x).cells, false⟩) hm, DOk.put (hk.set (.inr rfl) fun x hx => by cases hx; exact ⟨by have := hc.2.2; show sz ≠ 0; omega, fun q => by cases q⟩)⟩
        simp only [effA]
        rw [toD_fr, if_pos hc, effNew_D hm]; rfl
      · cases h
    · cases h
  case bsl ee sz len z parts =>
    simp only [kx] at h
    split at h
    · rename_i cs hm hf
      split at h
      · rename_i hc
        simp only [Option.some.injEq, Prod.mk.injEq] at h
        obtain ⟨_, rfl, rfl⟩ := h
        refine ⟨?_, new_app (b := ⟨ee, sz, cs.map weak, false⟩) hm, DOk.put (hk.set (.inr rfl) fun x hx => by cases hx; exact ⟨by have := hc.2.1; show sz ≠ 0; omega, fun q => by cases q⟩)⟩
        simp only [effA]
        rw [toD_fr, if_pos hc, hf, Option.bind_some, effNew_D hm]; rfl
      · cases h
    · cases h
  case ld g sz x =>
    simp only [kx] at h
    have hld : ∀ (cs : List AV) (off : Nat) (v : AV), kld g sz cs off = some v → effLd g sz (some (cs, off)) = some (eff1 v) := by
      intro cs off v hv
      unfold effLd
      cases g with
      | true =>
        simp only [kld] at hv
        split at hv
        · rename_i hle; cases hv; simp [hle]
        · cases hv
      | false => simp only [kld] at hv; simp [hv, effP]
    split at h
    · rename_i s c off e1
      split at h
      · rename_i b hb
        split at h
        · rename_i v hv
          simp only [Option.some.injEq, Prod.mk.injEq] at h
          obtain ⟨_, rfl, rfl⟩ := h
          refine ⟨?_, eff1_app v d ds, DOk.put hk⟩
          simp only [effA]
          have : tgt (toD ds) (ev (toD ds).fr x) = some (b.cells, off) := by
            rw [toD_fr, e1]
            show (((ds.kb s c).map KB.blk).bind _) = _
            rw [hb]
            have hz := (hk s c b hb).1
            show (if b.sz = 0 then none else some (b.cells, off)) = _
            rw [if_neg hz]
          rw [this]; exact hld _ _ _ hv
        · cases h
      · cases h
    · rename_i xs off e1
      split at h
      · rename_i v hv
        simp only [Option.some.injEq, Prod.mk.injEq] at h
        obtain ⟨_, rfl, rfl⟩ := h
        refine ⟨?_, eff1_app v d ds, DOk.put hk⟩
        simp only [effA]
        rw [toD_fr, e1]; exact hld _ _ _ hv
      · cases h
    · cases h
  case sto sz x y =>
    simp only [kx] at h
    split at h
    · rename_i s c off e1
      split at h
      · rename_i b hb
        split at h
        · rename_i hc
          simp only [Option.some.injEq, Prod.mk.injEq] at h
          obtain ⟨_, rfl, rfl⟩ := h
          have hcc := kb_c hb
          refine ⟨?_, set_app (b := ⟨b.e, b.sz, b.cells.take off ++ (ev (lkF ds.fr) y).cells ++ b.cells.drop (off + sz), false⟩) hcc, DOk.put (hk.set (hcc.imp id (·.1)) fun x hx => by cases hx; exact ⟨(hk s c b hb).1, fun q => by cases q⟩)⟩
          simp only [effA]
          rw [toD_fr, e1]
          show (((ds.kb s c).map KB.blk).bind _) = _
          rw [hb]
          simp only [Option.map_some, Option.bind_some]
          rw [if_pos ⟨(hk s c b hb).1, hc.1, hc.2.1, hc.2.2, rfl⟩]; rfl
        · cases h
      · cases h
    · cases h
  all_goals first | (simp only [kx, reduceCtorEq] at h; done) | skip
  all_goals
    simp only [kx] at h
    split at h
    · rename_i C' v hp
      simp only [Option.some.injEq, Prod.mk.injEq] at h
      obtain ⟨rfl, rfl, rfl⟩ := h
      have hpv := kpv_ok hp hC
      refine ⟨?_, eff1_app v d ds, DOk.put hk⟩
      show effP (pval (liveB (toD ds)) (ev (lkF ds.fr)) _) = _
      rw [hpv]; rfl
    · cases h
end Go.AV

