/-
  Small facts on memory: blocks behind a new block and a store; a struct result that lies in a block; one step of a region.
-/
import Derived.WalkKit
import Derived.WalkSpells
import Derived.WalkLawsBesides
import Derived.BigQuiet
import Derived.Deep.QuietTactic
import Derived.Deep.RegionHeld3
import Derived.Deep.DeepCutAuto
import Derived.Deep.LoopGhost
import Derived.Deep.AppendLies
import Derived.Laws.AppendOwnNone
import Derived.Test.YteoohihaibgplaaDoorRegion
namespace Go.RG
open Go.RowKit

theorem Below.step {a b c : World} (h : Below a.heap.size a b) (k : Below b.heap.size b c) : Below a.heap.size a c := h.trans (k.mono h.size)
theorem Below.new (w : World) (o : Obj) : Below w.heap.size w (w.alloc o) := (Below.refl _ _).alloc (Nat.le_refl _) o
theorem keep1 {w w' : World} {b o : Nat} {v : Value} (hb : Below w.heap.size w w') (h : w.cell? ⟨b, o, none⟩ = some v) : w'.cell? ⟨b, o, none⟩ = some v :=
  (hb.cell (World.block_lt_of_cell? w _ h)).trans h
theorem hp_alloc (w : World) (o : Obj) (k : Nat) : (w.alloc o).heap[k]? = if k = w.heap.size then some o else w.heap[k]? := by
  show (w.heap.push o)[k]? = _
  rw [Array.getElem?_push]

def updCell (o : Nat) (v : Value) : Obj → Obj
  | .cells c e f => .cells (c.setIfInBounds o v) e f
  | x => x

theorem hp_set (w : World) (b o : Nat) (v : Value) (k : Nat) : (w.setCell ⟨b, o, none⟩ v).heap[k]? = if k = b then (w.heap[k]?).map (updCell o v) else w.heap[k]? := by
  simp only [World.setCell, Array.getElem?_modify]
  by_cases h : k = b
  · subst h
    simp only [if_true]
    cases hx : w.heap[k]? with
    | none => simp
    | some x => cases x <;> simp [updCell]
  · have h' : b ≠ k := fun e => h e.symm
    simp [h, h']

theorem hnew {w : World} {o : Obj} {k : Nat} (h : k = w.heap.size) : (w.alloc o).heap[k]? = some o := by subst h; exact heap_alloc_new w o
theorem hold {w : World} {o x : Obj} {k : Nat} (hx : w.heap[k]? = some x) : (w.alloc o).heap[k]? = some x := (heap_alloc_old w o (lt_of_block hx)).trans hx
/-- a row of cells: each cell, its mark -/
theorem row_cells {w : World} {b : Nat} {cs : Array Value} {t : TypeId} (h : w.heap[b]? = some (.cells cs t (0, 0))) (j : Nat) :
    w.cell? ⟨b, j, none⟩ = cs[j]? ∧ w.frozen? ⟨b, j, none⟩ = false := ⟨cell_of_row w b j cs t _ h, frozen_of_row w b j cs t h⟩

section
variable {P : Program} {fn : Func} {R : Ending → World → Prop} {a : Act} {w : World} {g : Nat} {t ty : TypeId} {cs : Array Value} {fr : Nat × Nat} {d : TypeDesc} {p q r : Tmp}
theorem ret_ctt (h : fn.results = #[.cell p ty, .tmp q, .tmp r]) (ha : a.defers = []) (hp : a.tmps.getD p undef = .pointer (some ⟨g, 0, none⟩)) (hg : w.heap[g]? = some (.cells cs t fr))
    (hu : P.underlying ty = some d) (hd : (match d with | .struct _ | .array _ _ => true | _ => false) = true) (hi : (P.info? ty).map (·.size) = some cs.size)
    (hR : R (.returned (.tuple #[.agg cs, a.tmps.getD q undef, a.tmps.getD r undef])) w) : bodyPost P fn R Exit.ret a w := by
  refine ⟨ha, _, ?_, hR⟩
  have hp' : a.tmps[p]?.getD undef = .pointer (some ⟨g, 0, none⟩) := by simpa using hp
  simp [results, h, hp', asAddr, run_loadVar_row w g t ty cs fr d hg hu hd hi]
end

/-! ### append, whatever the source -/
def blk (ao : Option Addr) : Option Nat := ao.map (·.block)
theorem ownBlock_slice (ao : Option Addr) (n cap : Nat) : (Value.slice ao n cap).ownBlock = blk ao := by cases ao <;> rfl

/-- a slice type's element: one bundle -/
structure Elem (P : Program) (t e : TypeId) (size bytes : Nat) : Prop where
  ut : P.underlying t = some (.slice e)
  ex : ∃ i z, P.info? e = some i ∧ i.zero = some z ∧ i.size = size ∧ i.bytes = bytes ∧ z.cells.size = size
  pos : 0 < size

/-- what is appended: nothing out of nil, or the cells at an address -/
def Src (w : World) (bo : Option Addr) (m c : Nat) (news : List Value) : Prop :=
  (bo = none ∧ m = 0 ∧ c = 0) ∨ ∃ ad, bo = some ad ∧ ∀ j u, news[j]? = some u → w.cell? (ad.add j) = some u

theorem Src.block {w : World} {B m c : Nat} {cs : Array Value} {t : TypeId} {fr : Nat × Nat} {news : List Value} (h : w.heap[B]? = some (.cells cs t fr)) (hx : cs.toList = news) : Src w (some ⟨B, 0, none⟩) m c news :=
  .inr ⟨_, rfl, by subst hx; exact World.news_of_block h⟩

theorem Src.own {w : World} {base e size n cap : Nat} {ao : Option Addr} {xs : List Value} (h : w.ownsRow base e size (.slice ao n cap) n xs) : Src w ao n cap xs := by
  rcases h.2 with ⟨h0, hn⟩ | ⟨g, cap', cur, h0, hb, hg, rest⟩
  · injection h0 with h1 h2 h3
    exact .inl ⟨h1, h2, h3⟩
  · injection h0 with h1 h2 h3
    subst h1
    exact .inr ⟨_, rfl, h.cells rfl⟩

section
variable {P : Program} {w : World} {t ty e : TypeId} {size bytes base n cap m c : Nat} {ao bo : Option Addr} {xs news : List Value}

theorem run_app (E : Elem P t e size bytes) (hown : w.ownsRow base e size (.slice ao n cap) n xs) (hl : news.length = m * size) (hsrc : Src w bo m c news) (h1 : ∀ u ∈ news, u.oneCell' = true)
    (h63 : n + m ≤ maxLen) (hbytes : (n + m) * bytes ≤ 140737488355328) (hbase : base ≤ w.heap.size) :
    ∃ ao' cap' w', (Builtin.append_ #[t, t] ty #[.slice ao n cap, .slice bo m c]).run P w = .ok (.slice ao' (n + m) cap') w' ∧
      w'.ownsRow base e size (.slice ao' (n + m) cap') (n + m) (xs ++ news) ∧ w.grownBy w' (blk ao) ∧ (blk ao' = blk ao ∨ blk ao' = some w.heap.size) ∧ (ao' = none ↔ ao = none ∧ m = 0) := by
  obtain ⟨i, z, hi, hz, hs, hby, hzs⟩ := E.ex
  rcases hsrc with ⟨rfl, rfl, rfl⟩ | ⟨ad, rfl, hcell⟩
  · have hn : news = [] := List.eq_nil_of_length_eq_zero (by simpa using hl)
    subst hn
    have hrun := run_append_owned_none (P := P) w base t ty e i size E.ut hi (.slice ao n cap) n xs hown
    refine ⟨ao, cap, w, hrun, by simpa using hown, World.grownBy.refl _ _, .inl rfl, by simp⟩
  · obtain ⟨v', w', hr, h2, h3, h4, h5⟩ := run_append_own_at (P := P) w base t ty e i z size bytes E.ut hi hz hs hby hzs E.pos _ n xs hown ad m c news hl hcell h1 h63 hbytes hbase
    have hv : ∃ ao' cap', v' = .slice ao' (n + m) cap' := by
      rcases h2.2 with ⟨h0, hn⟩ | ⟨g, cap', cur, h0, _⟩
      · exact ⟨none, 0, by rw [h0, hn]⟩
      · exact ⟨_, _, h0⟩
    obtain ⟨ao', cap', rfl⟩ := hv
    rw [ownBlock_slice] at h3 h5
    rw [ownBlock_slice] at h5
    refine ⟨ao', cap', w', hr, h2, h3, h5, ?_⟩
    have nilE : ∀ {ao : Option Addr} {n cap : Nat} {w : World} {xs : List Value}, w.ownsRow base e size (.slice ao n cap) n xs → (ao = none ↔ (Value.slice ao n cap) = .slice none 0 0) := by
      intro ao n cap w xs h
      constructor
      · intro h0
        subst h0
        rcases h.2 with ⟨h0, _⟩ | ⟨g, cap', cur, h0, _⟩
        · exact h0
        · cases h0
      · intro h0; injection h0
    rw [nilE h2, h4, ← nilE hown]

end

theorem grown_of_below {w w' : World} (hb : Below w.heap.size w w') : w.grownBy w' none := ⟨hb.os, hb.tape, hb.output, hb.size, fun k hk _ => hb.block k hk⟩
theorem own_step {w w' : World} {base e size n : Nat} {v : Value} {xs : List Value} (h : w.ownsRow base e size v n xs) (hb : Below w.heap.size w w') : w'.ownsRow base e size v n xs :=
  h.kept (grown_of_below hb) (by cases v.ownBlock <;> simp)
section
variable {P : Program} {ops : Array Oper} {Q : Exit → Act → World → Prop} {i : Nat} {o : Oper} {a : Act} {w w' : World} {K : Act → World → Prop}
end

/-! ### a region whose every value is known: no row is owned, nothing that was there turns -/
def freeSlot (ops : Array Oper) (anc : Nat → List Nat) (i t : Nat) : Bool := (List.range ops.size).all fun j => !(dstOf ops j == some t) || j == i || (anc j).contains i
def dep (ops : Array Oper) (anc : Nat → List Nat) (i p d : Nat) : Bool := (anc i).contains p && dstOf ops p == some d

/-- a plan whose values are known outright at some operations ('vals'), and told by F at the others -/
structure Mix where
  anc : List (List Nat)
  vals : List (Option Value)
  cons : List (List Nat) := []
  own : List Nat := []
  F : Nat → Value → World → Prop := fun _ _ _ => True
  iv : Nat → Value := fun _ => undef
  m : Nat := 0
  B : Nat

def Mix.ancF (x : Mix) (i : Nat) : List Nat := x.anc.getD i []
def Mix.consF (x : Mix) (i : Nat) : List Nat := x.cons.getD i []
def Mix.valF (x : Mix) (i : Nat) : Option Value := x.vals.getD i none
def Mix.fp (x : Mix) (p : Nat) (v : Value) : Option Nat := if x.own.contains p then v.ownBlock else none
def Mix.avail (x : Mix) (ops : Array Oper) (i p : Nat) : Bool :=
  ((x.ancF i).contains p || (decide (ops.size ≤ p) && decide (p < ops.size + x.m))) && ((List.range ops.size).all fun c => !(x.consF c).contains p || c == i) && (x.valF p).isNone
def Mix.left (x : Mix) (ops : Array Oper) (p : Nat) : Bool := decide (p < ops.size + x.m) && ((List.range ops.size).all fun c => !(x.consF c).contains p) && (x.valF p).isNone

section
variable {P : Program} {ops : Array Oper} {Q : Exit → Act → World → Prop}
structure MixHyp (ops : Array Oper) (x : Mix) (a0 : Act) (w0 : World) (i : Nat) (a : Act) (w : World) (val : Nat → Value) : Prop where
  bel : Below x.B w0 w
  known : ∀ p d c, dep ops x.ancF i p d = true → x.valF p = some c → a.tmps[d]? = some c
  slot : ∀ p d, dep ops x.ancF i p d = true → a.tmps[d]? = some (val p)
  F : ∀ p, x.avail ops i p = true → x.F p (val p) w
  fp : ∀ p b, x.avail ops i p = true → x.fp p (val p) = some b → x.B ≤ b ∧ b < w.heap.size
  iv : ∀ p, ops.size ≤ p → val p = x.iv p
  hold : ∀ t v, freeSlot ops x.ancF i t = true → a0.tmps[t]? = v → a.tmps[t]? = v

end

section
variable {P : Program} {ops : Array Oper} {Q : Exit → Act → World → Prop} {x : Mix} {a0 : Act} {w0 : World} {i : Nat} {a : Act} {w : World} {val : Nat → Value} {K : Act → World → Prop} {o : Oper}

theorem MixHyp.cell {b off : Nat} {v : Value} (H : MixHyp ops x a0 w0 i a w val) (hb : b < x.B) (h : w0.cell? ⟨b, off, none⟩ = some v) : w.cell? ⟨b, off, none⟩ = some v := (H.bel.cell hb).trans h
theorem MixHyp.own {base e size n : Nat} {v : Value} {xs : List Value} (H : MixHyp ops x a0 w0 i a w val) (hb : x.B = w0.heap.size) (h : w0.ownsRow base e size v n xs) : w.ownsRow base e size v n xs := own_step h (hb ▸ H.bel)

end
end Go.RG

