/-
  Small facts on memory: blocks behind a new block and a store; a struct result that lies in a block; one step of a region.
-/
import Derived.WalkKit
import Derived.WalkSpells
import Derived.WalkLawsBesides
import Derived.BigQuiet
import Derived.Deep.QuietTactic
import Derived.Deep.RegionHeld3
import Derived.Deep.DeepCutAuto
import Derived.Deep.LoopGhost
import Derived.Deep.AppendLies
import Derived.Laws.AppendOwnNone
import Derived.Test.YteoohihaibgplaaRegion
namespace Go.RG
open Go.RowKit

/-- blocks below B: cells and marks -/
theorem bcell {W w1 : World} (hb : Below W.heap.size W w1) : (∀ b o, b < W.heap.size → w1.cell? ⟨b, o, none⟩ = W.cell? ⟨b, o, none⟩) ∧ (∀ b o, b < W.heap.size → w1.frozen? ⟨b, o, none⟩ = W.frozen? ⟨b, o, none⟩) :=
  ⟨fun b o h => hb.cell (p := ⟨b, o, none⟩) h, fun b o h => hb.frozen (p := ⟨b, o, none⟩) h⟩

theorem Below.step {a b c : World} (h : Below a.heap.size a b) (k : Below b.heap.size b c) : Below a.heap.size a c := h.trans (k.mono h.size)
theorem Below.new (w : World) (o : Obj) : Below w.heap.size w (w.alloc o) := (Below.refl _ _).alloc (Nat.le_refl _) o
theorem keep1 {w w' : World} {b o : Nat} {v : Value} (hb : Below w.heap.size w w') (h : w.cell? ⟨b, o, none⟩ = some v) : w'.cell? ⟨b, o, none⟩ = some v :=
  (hb.cell (World.block_lt_of_cell? w _ h)).trans h
theorem keep2 {w w' : World} {b o b1 o1 : Nat} {v v1 : Value} (hb : Below w.heap.size w w') (h : w.cell? ⟨b, o, none⟩ = some v ∧ w.cell? ⟨b1, o1, none⟩ = some v1) :
    w'.cell? ⟨b, o, none⟩ = some v ∧ w'.cell? ⟨b1, o1, none⟩ = some v1 := ⟨keep1 hb h.1, keep1 hb h.2⟩
theorem keep3 {w w' : World} {b o b1 o1 b2 o2 : Nat} {v v1 v2 : Value} (hb : Below w.heap.size w w') (h : w.cell? ⟨b, o, none⟩ = some v ∧ w.cell? ⟨b1, o1, none⟩ = some v1 ∧ w.cell? ⟨b2, o2, none⟩ = some v2) :
    w'.cell? ⟨b, o, none⟩ = some v ∧ w'.cell? ⟨b1, o1, none⟩ = some v1 ∧ w'.cell? ⟨b2, o2, none⟩ = some v2 := ⟨keep1 hb h.1, keep2 hb h.2⟩
theorem keep4 {w w' : World} {b o b1 o1 b2 o2 b3 o3 : Nat} {v v1 v2 v3 : Value} (hb : Below w.heap.size w w') (h : w.cell? ⟨b, o, none⟩ = some v ∧ w.cell? ⟨b1, o1, none⟩ = some v1 ∧ w.cell? ⟨b2, o2, none⟩ = some v2 ∧ w.cell? ⟨b3, o3, none⟩ = some v3) :
    w'.cell? ⟨b, o, none⟩ = some v ∧ w'.cell? ⟨b1, o1, none⟩ = some v1 ∧ w'.cell? ⟨b2, o2, none⟩ = some v2 ∧ w'.cell? ⟨b3, o3, none⟩ = some v3 := ⟨keep1 hb h.1, keep3 hb h.2⟩

theorem hp_alloc (w : World) (o : Obj) (k : Nat) : (w.alloc o).heap[k]? = if k = w.heap.size then some o else w.heap[k]? := by
  show (w.heap.push o)[k]? = _
  rw [Array.getElem?_push]

def updCell (o : Nat) (v : Value) : Obj → Obj
  | .cells c e f => .cells (c.setIfInBounds o v) e f
  | x => x

theorem hp_set (w : World) (b o : Nat) (v : Value) (k : Nat) : (w.setCell ⟨b, o, none⟩ v).heap[k]? = if k = b then (w.heap[k]?).map (updCell o v) else w.heap[k]? := by
  simp only [World.setCell, Array.getElem?_modify]
  by_cases h : k = b
  · subst h
    simp only [if_true]
    cases hx : w.heap[k]? with
    | none => simp
    | some x => cases x <;> simp [updCell]
  · have h' : b ≠ k := fun e => h e.symm
    simp [h, h']

theorem hnew {w : World} {o : Obj} {k : Nat} (h : k = w.heap.size) : (w.alloc o).heap[k]? = some o := by subst h; exact heap_alloc_new w o
theorem hold {w : World} {o x : Obj} {k : Nat} (hx : w.heap[k]? = some x) : (w.alloc o).heap[k]? = some x := (heap_alloc_old w o (lt_of_block hx)).trans hx
theorem new2 (w : World) (A B : Obj) : ((w.alloc A).alloc B).heap[w.heap.size]? = some A ∧ ((w.alloc A).alloc B).heap[w.heap.size + 1]? = some B := ⟨hold (hnew rfl), hnew (by simp)⟩
theorem new3 (w : World) (A B C : Obj) : (((w.alloc A).alloc B).alloc C).heap[w.heap.size]? = some A ∧ (((w.alloc A).alloc B).alloc C).heap[w.heap.size + 1]? = some B ∧ (((w.alloc A).alloc B).alloc C).heap[w.heap.size + 1 + 1]? = some C :=
  ⟨hold (new2 w A B).1, hold (new2 w A B).2, hnew (by simp)⟩
theorem new4 (w : World) (A B C D : Obj) : ((((w.alloc A).alloc B).alloc C).alloc D).heap[w.heap.size]? = some A ∧ ((((w.alloc A).alloc B).alloc C).alloc D).heap[w.heap.size + 1]? = some B ∧
    ((((w.alloc A).alloc B).alloc C).alloc D).heap[w.heap.size + 1 + 1]? = some C ∧ ((((w.alloc A).alloc B).alloc C).alloc D).heap[w.heap.size + 1 + 1 + 1]? = some D :=
  ⟨hold (new3 w A B C).1, hold (new3 w A B C).2.1, hold (new3 w A B C).2.2, hnew (by simp)⟩

theorem two_cells {w : World} {b : Nat} {v0 v1 : Value} {t : TypeId} (h : w.heap[b]? = some (.cells #[v0, v1] t (0, 0))) :
    w.cell? ⟨b, 0, none⟩ = some v0 ∧ w.cell? ⟨b, 1, none⟩ = some v1 ∧ w.frozen? ⟨b, 0, none⟩ = false ∧ w.frozen? ⟨b, 1, none⟩ = false ∧ b < w.heap.size := by
  refine ⟨by simp [World.cell?, h], by simp [World.cell?, h], by simp [World.frozen?, h], by simp [World.frozen?, h], lt_of_block h⟩

theorem cell_of_block0 {w : World} {b : Nat} {v0 v1 : Value} {t : TypeId} {fr : Nat × Nat} (h : w.heap[b]? = some (.cells #[v0, v1] t fr)) : w.cell? ⟨b, 0, none⟩ = some v0 := by simp [World.cell?, h]
theorem cell_of_block1 {w : World} {b : Nat} {v0 v1 : Value} {t : TypeId} {fr : Nat × Nat} (h : w.heap[b]? = some (.cells #[v0, v1] t fr)) : w.cell? ⟨b, 1, none⟩ = some v1 := by simp [World.cell?, h]

/-- a row of cells: each cell, its mark -/
theorem row_cells {w : World} {b : Nat} {cs : Array Value} {t : TypeId} (h : w.heap[b]? = some (.cells cs t (0, 0))) (j : Nat) :
    w.cell? ⟨b, j, none⟩ = cs[j]? ∧ w.frozen? ⟨b, j, none⟩ = false := ⟨cell_of_row w b j cs t _ h, frozen_of_row w b j cs t h⟩

section
variable {P : Program} {fn : Func} {R : Ending → World → Prop} {a : Act} {w : World} {g : Nat} {t ty : TypeId} {cs : Array Value} {fr : Nat × Nat} {d : TypeDesc} {p q r : Tmp}
theorem ret_c (h : fn.results = #[.cell p ty]) (ha : a.defers = []) (hp : a.tmps.getD p undef = .pointer (some ⟨g, 0, none⟩)) (hg : w.heap[g]? = some (.cells cs t fr))
    (hu : P.underlying ty = some d) (hd : (match d with | .struct _ | .array _ _ => true | _ => false) = true) (hi : (P.info? ty).map (·.size) = some cs.size)
    (hR : R (.returned (.agg cs)) w) : bodyPost P fn R Exit.ret a w :=
  ⟨ha, .agg cs, results_cell_row h a.tmps w g t cs fr d hp hg hu hd hi, hR⟩
theorem ret_ct (h : fn.results = #[.cell p ty, .tmp q]) (ha : a.defers = []) (hp : a.tmps.getD p undef = .pointer (some ⟨g, 0, none⟩)) (hg : w.heap[g]? = some (.cells cs t fr))
    (hu : P.underlying ty = some d) (hd : (match d with | .struct _ | .array _ _ => true | _ => false) = true) (hi : (P.info? ty).map (·.size) = some cs.size)
    (hR : R (.returned (.tuple #[.agg cs, a.tmps.getD q undef])) w) : bodyPost P fn R Exit.ret a w := by
  refine ⟨ha, _, ?_, hR⟩
  have hp' : a.tmps[p]?.getD undef = .pointer (some ⟨g, 0, none⟩) := by simpa using hp
  simp [results, h, hp', asAddr, run_loadVar_row w g t ty cs fr d hg hu hd hi]
theorem ret_ctt (h : fn.results = #[.cell p ty, .tmp q, .tmp r]) (ha : a.defers = []) (hp : a.tmps.getD p undef = .pointer (some ⟨g, 0, none⟩)) (hg : w.heap[g]? = some (.cells cs t fr))
    (hu : P.underlying ty = some d) (hd : (match d with | .struct _ | .array _ _ => true | _ => false) = true) (hi : (P.info? ty).map (·.size) = some cs.size)
    (hR : R (.returned (.tuple #[.agg cs, a.tmps.getD q undef, a.tmps.getD r undef])) w) : bodyPost P fn R Exit.ret a w := by
  refine ⟨ha, _, ?_, hR⟩
  have hp' : a.tmps[p]?.getD undef = .pointer (some ⟨g, 0, none⟩) := by simpa using hp
  simp [results, h, hp', asAddr, run_loadVar_row w g t ty cs fr d hg hu hd hi]
end

theorem own_lit {w : World} {base e size g n : Nat} {cur : Array Value} {xs : List Value} (hb : base ≤ g) (hg : w.heap[g]? = some (.cells cur e (0, 0))) (hx : cur.toList = xs) (hs : cur.size = n * size) (hn : n ≤ maxLen) :
    w.ownsRow base e size (.slice (some ⟨g, 0, none⟩) n n) n xs := by
  subst hx
  exact ⟨by simpa using hs, .inr ⟨g, n, cur, rfl, hb, hg, Nat.le_refl _, hn, hs, by rw [List.take_of_length_le (by simp [hs])]⟩⟩

/-! ### append, whatever the source -/
def blk (ao : Option Addr) : Option Nat := ao.map (·.block)
theorem ownBlock_slice (ao : Option Addr) (n cap : Nat) : (Value.slice ao n cap).ownBlock = blk ao := by cases ao <;> rfl

/-- a slice type's element: one bundle -/
structure Elem (P : Program) (t e : TypeId) (size bytes : Nat) : Prop where
  ut : P.underlying t = some (.slice e)
  ex : ∃ i z, P.info? e = some i ∧ i.zero = some z ∧ i.size = size ∧ i.bytes = bytes ∧ z.cells.size = size
  pos : 0 < size

theorem Elem.mk' {P : Program} {t e : TypeId} {size bytes : Nat} {z : Value} (ut : P.underlying t = some (.slice e)) (h : (P.info? e).map (fun i => (i.zero, i.size, i.bytes)) = some (some z, size, bytes)) (hz : z.cells.size = size) (pos : 0 < size) : Elem P t e size bytes := by
  obtain ⟨i, h1, h2, h3, h4⟩ := info_parts h
  exact ⟨ut, ⟨i, z, h1, h2, h3, h4, hz⟩, pos⟩

/-- what is appended: nothing out of nil, or the cells at an address -/
def Src (w : World) (bo : Option Addr) (m c : Nat) (news : List Value) : Prop :=
  (bo = none ∧ m = 0 ∧ c = 0) ∨ ∃ ad, bo = some ad ∧ ∀ j u, news[j]? = some u → w.cell? (ad.add j) = some u

theorem Src.block {w : World} {B m c : Nat} {cs : Array Value} {t : TypeId} {fr : Nat × Nat} {news : List Value} (h : w.heap[B]? = some (.cells cs t fr)) (hx : cs.toList = news) : Src w (some ⟨B, 0, none⟩) m c news :=
  .inr ⟨_, rfl, by subst hx; exact World.news_of_block h⟩

theorem Src.own {w : World} {base e size n cap : Nat} {ao : Option Addr} {xs : List Value} (h : w.ownsRow base e size (.slice ao n cap) n xs) : Src w ao n cap xs := by
  rcases h.2 with ⟨h0, hn⟩ | ⟨g, cap', cur, h0, hb, hg, rest⟩
  · injection h0 with h1 h2 h3
    exact .inl ⟨h1, h2, h3⟩
  · injection h0 with h1 h2 h3
    subst h1
    exact .inr ⟨_, rfl, h.cells rfl⟩

section
variable {P : Program} {w : World} {t ty e : TypeId} {size bytes base n cap m c : Nat} {ao bo : Option Addr} {xs news : List Value}

theorem run_app (E : Elem P t e size bytes) (hown : w.ownsRow base e size (.slice ao n cap) n xs) (hl : news.length = m * size) (hsrc : Src w bo m c news) (h1 : ∀ u ∈ news, u.oneCell' = true)
    (h63 : n + m ≤ maxLen) (hbytes : (n + m) * bytes ≤ 140737488355328) (hbase : base ≤ w.heap.size) :
    ∃ ao' cap' w', (Builtin.append_ #[t, t] ty #[.slice ao n cap, .slice bo m c]).run P w = .ok (.slice ao' (n + m) cap') w' ∧
      w'.ownsRow base e size (.slice ao' (n + m) cap') (n + m) (xs ++ news) ∧ w.grownBy w' (blk ao) ∧ (blk ao' = blk ao ∨ blk ao' = some w.heap.size) ∧ (ao' = none ↔ ao = none ∧ m = 0) := by
  obtain ⟨i, z, hi, hz, hs, hby, hzs⟩ := E.ex
  rcases hsrc with ⟨rfl, rfl, rfl⟩ | ⟨ad, rfl, hcell⟩
  · have hn : news = [] := List.eq_nil_of_length_eq_zero (by simpa using hl)
    subst hn
    have hrun := run_append_owned_none (P := P) w base t ty e i size E.ut hi (.slice ao n cap) n xs hown
    refine ⟨ao, cap, w, hrun, by simpa using hown, World.grownBy.refl _ _, .inl rfl, by simp⟩
  · obtain ⟨v', w', hr, h2, h3, h4, h5⟩ := run_append_own_at (P := P) w base t ty e i z size bytes E.ut hi hz hs hby hzs E.pos _ n xs hown ad m c news hl hcell h1 h63 hbytes hbase
    have hv : ∃ ao' cap', v' = .slice ao' (n + m) cap' := by
      rcases h2.2 with ⟨h0, hn⟩ | ⟨g, cap', cur, h0, _⟩
      · exact ⟨none, 0, by rw [h0, hn]⟩
      · exact ⟨_, _, h0⟩
    obtain ⟨ao', cap', rfl⟩ := hv
    rw [ownBlock_slice] at h3 h5
    rw [ownBlock_slice] at h5
    refine ⟨ao', cap', w', hr, h2, h3, h5, ?_⟩
    have nilE : ∀ {ao : Option Addr} {n cap : Nat} {w : World} {xs : List Value}, w.ownsRow base e size (.slice ao n cap) n xs → (ao = none ↔ (Value.slice ao n cap) = .slice none 0 0) := by
      intro ao n cap w xs h
      constructor
      · intro h0
        subst h0
        rcases h.2 with ⟨h0, _⟩ | ⟨g, cap', cur, h0, _⟩
        · exact h0
        · cases h0
      · intro h0; injection h0
    rw [nilE h2, h4, ← nilE hown]

theorem wp_app {o : Oper} {a : Act} {K : Act → World → Prop} {Q : Exit → Act → World → Prop} (s x : Operand) (ho : o.op = .call { callee := .builtin .append, args := #[s, x], argTypes := #[t, t] })
    (hs : a.eval s = .slice ao n cap) (hx : a.eval x = .slice bo m c)
    (E : Elem P t e size bytes) (hown : w.ownsRow base e size (.slice ao n cap) n xs) (hl : news.length = m * size) (hsrc : Src w bo m c news) (h1 : ∀ u ∈ news, u.oneCell' = true)
    (h63 : n + m ≤ maxLen) (hbytes : (n + m) * bytes ≤ 140737488355328) (hbase : base ≤ w.heap.size)
    (h : ∀ ao' cap' w', w'.ownsRow base e size (.slice ao' (n + m) cap') (n + m) (xs ++ news) → w.grownBy w' (blk ao) → (blk ao' = blk ao ∨ blk ao' = some w.heap.size) → (ao' = none ↔ ao = none ∧ m = 0) → K (a.put o.dst (.slice ao' (n + m) cap')) w') : o.wp P a w K Q := by
  obtain ⟨ao', cap', w', hr, h2, h3, h4, h5⟩ := run_app (ty := o.type) E hown hl hsrc h1 h63 hbytes hbase
  unfold Oper.wp execOp
  simp only [ho, resolve, invoke, builtin, Sem.run_bind, Sem.run_pure, Result.andThen_ok, List.map_toArray, List.map_cons, List.map_nil, hs, hx, hr]
  exact h ao' cap' w' h2 h3 h4 h5

theorem wpList_app {ops : Array Oper} {rest : List Oper} {o : Oper} {a : Act} {Q : Exit → Act → World → Prop} (hgd : o.guard = none) (s x : Operand) (ho : o.op = .call { callee := .builtin .append, args := #[s, x], argTypes := #[t, t] })
    (hs : a.eval s = .slice ao n cap) (hx : a.eval x = .slice bo m c)
    (E : Elem P t e size bytes) (hown : w.ownsRow base e size (.slice ao n cap) n xs) (hl : news.length = m * size) (hsrc : Src w bo m c news) (h1 : ∀ u ∈ news, u.oneCell' = true)
    (h63 : n + m ≤ maxLen) (hbytes : (n + m) * bytes ≤ 140737488355328) (hbase : base ≤ w.heap.size)
    (h : ∀ ao' cap' w', w'.ownsRow base e size (.slice ao' (n + m) cap') (n + m) (xs ++ news) → w.grownBy w' (blk ao) → (blk ao' = blk ao ∨ blk ao' = some w.heap.size) → (ao' = none ↔ ao = none ∧ m = 0) → wpList P ops Q rest (a.put o.dst (.slice ao' (n + m) cap')) w') : wpList P ops Q (o :: rest) a w :=
  wpList_plain hgd fun _ hK => wp_app s x ho hs hx E hown hl hsrc h1 h63 hbytes hbase fun ao' cap' w' h2 h3 h4 h5 => hK _ _ (h ao' cap' w' h2 h3 h4 h5)

theorem step_app {ops : Array Oper} {o : Oper} {a : Act} {K : Act → World → Prop} {Q : Exit → Act → World → Prop} {E' : Prop} (hw : Region.wanted o (yielded ops a.tmps) = true) (s x : Operand) (ho : o.op = .call { callee := .builtin .append, args := #[s, x], argTypes := #[t, t] })
    (hs : a.eval s = .slice ao n cap) (hx : a.eval x = .slice bo m c)
    (E : Elem P t e size bytes) (hown : w.ownsRow base e size (.slice ao n cap) n xs) (hl : news.length = m * size) (hsrc : Src w bo m c news) (h1 : ∀ u ∈ news, u.oneCell' = true)
    (h63 : n + m ≤ maxLen) (hbytes : (n + m) * bytes ≤ 140737488355328) (hbase : base ≤ w.heap.size)
    (h : ∀ ao' cap' w', w'.ownsRow base e size (.slice ao' (n + m) cap') (n + m) (xs ++ news) → w.grownBy w' (blk ao) → (blk ao' = blk ao ∨ blk ao' = some w.heap.size) → (ao' = none ↔ ao = none ∧ m = 0) → K (a.put o.dst (.slice ao' (n + m) cap')) w') :
    if Region.wanted o (yielded ops a.tmps) = true then Oper.wp P o a w K Q else E' := by
  rw [if_pos hw]
  exact wp_app s x ho hs hx E hown hl hsrc h1 h63 hbytes hbase h
end

theorem grown_of_below {w w' : World} (hb : Below w.heap.size w w') : w.grownBy w' none := ⟨hb.os, hb.tape, hb.output, hb.size, fun k hk _ => hb.block k hk⟩
theorem own_step {w w' : World} {base e size n : Nat} {v : Value} {xs : List Value} (h : w.ownsRow base e size v n xs) (hb : Below w.heap.size w w') : w'.ownsRow base e size v n xs :=
  h.kept (grown_of_below hb) (by cases v.ownBlock <;> simp)
theorem own_grown {w w' : World} {base e size n cap : Nat} {ao : Option Addr} {xs : List Value} {row : Option Nat} (h : w.ownsRow base e size (.slice ao n cap) n xs) (hg : w.grownBy w' row) (hne : ∀ k, blk ao = some k → row ≠ some k) : w'.ownsRow base e size (.slice ao n cap) n xs := by
  refine h.kept hg ?_
  rw [ownBlock_slice]
  cases hb : blk ao with
  | none => exact .inl rfl
  | some k => exact .inr fun e => hne k hb e.symm
theorem own_blk {w : World} {base e size n cap : Nat} {ao : Option Addr} {xs : List Value} (h : w.ownsRow base e size (.slice ao n cap) n xs) : ∀ k, blk ao = some k → base ≤ k ∧ k < w.heap.size := fun k hk => h.lt k (by rw [ownBlock_slice]; exact hk)
/-- a cell of a block that is not the row -/
theorem cell_grown {w w' : World} {row : Option Nat} {b o B : Nat} {v : Value} (h : w.cell? ⟨b, o, none⟩ = some v) (hg : w.grownBy w' row) (hr : ∀ k, row = some k → B ≤ k) (hb : b < B) : w'.cell? ⟨b, o, none⟩ = some v :=
  hg.cell h (fun e => by have := hr b e.symm; omega)

/-- four cells of blocks below B, behind an append to a row from B on -/
theorem keep4g {w w' : World} {row : Option Nat} {B b o b1 o1 b2 o2 b3 o3 : Nat} {v v1 v2 v3 : Value} (hg : w.grownBy w' row) (h : w.cell? ⟨b, o, none⟩ = some v ∧ w.cell? ⟨b1, o1, none⟩ = some v1 ∧ w.cell? ⟨b2, o2, none⟩ = some v2 ∧ w.cell? ⟨b3, o3, none⟩ = some v3)
    (hr : ∀ x, row = some x → B ≤ x) (hb : b < B ∧ b1 < B ∧ b2 < B ∧ b3 < B) : w'.cell? ⟨b, o, none⟩ = some v ∧ w'.cell? ⟨b1, o1, none⟩ = some v1 ∧ w'.cell? ⟨b2, o2, none⟩ = some v2 ∧ w'.cell? ⟨b3, o3, none⟩ = some v3 :=
  ⟨cell_grown h.1 hg hr hb.1, cell_grown h.2.1 hg hr hb.2.1, cell_grown h.2.2.1 hg hr hb.2.2.1, cell_grown h.2.2.2 hg hr hb.2.2.2⟩

/-- a row of n cells, told by a function of the place -/
def rowf (n : Nat) (f : Nat → Value) : Array Value := ((List.range n).map f).toArray
theorem rowf_size (n : Nat) (f : Nat → Value) : (rowf n f).size = n := by simp [rowf]
theorem rowf_get (n : Nat) (f : Nat → Value) (j : Nat) (h : j < n) : (rowf n f)[j]? = some (f j) := by simp [rowf, h]
theorem rowf_congr {n : Nat} {f g : Nat → Value} (h : ∀ j, j < n → f j = g j) : rowf n f = rowf n g := by
  unfold rowf
  congr 1
  exact List.map_congr_left fun j hj => h j (List.mem_range.1 hj)
theorem rowf_set (n : Nat) (f : Nat → Value) (j : Nat) (v : Value) : (rowf n f).setIfInBounds j v = rowf n (fun i => if i = j then v else f i) := by
  refine Array.ext_getElem? fun i => ?_
  by_cases h : i < n
  · rw [rowf_get n _ i h, Array.getElem?_setIfInBounds]
    by_cases e : j = i
    · subst e; simp [rowf_size, h]
    · have e' : ¬ i = j := fun x => e x.symm
      simp [e, e', rowf_get n f i h]
  · have h1 : ((rowf n f).setIfInBounds j v)[i]? = none := Array.getElem?_eq_none (by simp [rowf_size]; omega)
    have h2 : (rowf n (fun i => if i = j then v else f i))[i]? = none := Array.getElem?_eq_none (by simp [rowf_size]; omega)
    rw [h1, h2]

/-- a whole array or struct is stored into a block that is known whole -/
theorem wp_put_row {P : Program} {o : Oper} {a : Act} {w : World} {K : Act → World → Prop} {Q : Exit → Act → World → Prop} (ty : TypeId) (x y : Operand) (ho : o.op = .store ty x y)
    (g : Nat) (hx : a.eval x = .pointer (some ⟨g, 0, none⟩)) (cs : Array Value) (hy : a.eval y = .agg cs) {cur : Array Value} {t : TypeId} (hg : w.heap[g]? = some (.cells cur t (0, 0))) (hsz : cur.size = cs.size)
    (hi : (P.info? ty).map (·.size) = some cs.size) (h1 : ∀ v ∈ cs.toList, v.oneCell' = true)
    (h : ∀ w', w'.heap[g]? = some (.cells cs t (0, 0)) → w.grownBy w' (some g) → w'.heap.size = w.heap.size → K (a.put o.dst undef) w') : o.wp P a w K Q := by
  have hst := run_storeCells_at P g 0 t cs.toList 0 cur w hg (by simp [hsz]) h1
  have e : (cur.toList.take (0 + 0) ++ cs.toList ++ cur.toList.drop (0 + 0 + cs.toList.length)).toArray = cs := by
    rw [List.take_zero, List.drop_of_length_le (by simp [hsz])]; simp
  rw [e] at hst
  have hrun : (Instr.storeAt ty (.pointer (some ⟨g, 0, none⟩)) (.agg cs)).run P w = .ok () (w.setRow g cs) := by
    cases hq : P.info? ty with
    | none => simp [hq] at hi
    | some i =>
      have hs : cs.size = i.size := by simp [hq] at hi; omega
      simp only [Instr.storeAt, Instr.sureAddr, Sem.run_bind, Sem.run_pure, Result.andThen_ok]
      simp [storeVar, sizeOf, typeInfo, hq, Value.cells, hs, hst]
  unfold Oper.wp execOp
  simp only [ho, hx, hy, Sem.run_bind, Sem.run_pure, Result.andThen_ok, hrun]
  exact h (w.setRow g cs) (setRow_heap w g cur cs t (0, 0) hg) ⟨rfl, rfl, rfl, by simp, fun k _ hk => setRow_other w g k cs (fun e => hk (by rw [e]))⟩ (by simp)
theorem wpList_put_row {P : Program} {ops : Array Oper} {rest : List Oper} {o : Oper} {a : Act} {w : World} {Q : Exit → Act → World → Prop} (hgd : o.guard = none) (ty : TypeId) (x y : Operand) (ho : o.op = .store ty x y)
    (g : Nat) (hx : a.eval x = .pointer (some ⟨g, 0, none⟩)) (cs : Array Value) (hy : a.eval y = .agg cs) {cur : Array Value} {t : TypeId} (hg : w.heap[g]? = some (.cells cur t (0, 0))) (hsz : cur.size = cs.size)
    (hi : (P.info? ty).map (·.size) = some cs.size) (h1 : ∀ v ∈ cs.toList, v.oneCell' = true)
    (h : ∀ w', w'.heap[g]? = some (.cells cs t (0, 0)) → w.grownBy w' (some g) → w'.heap.size = w.heap.size → wpList P ops Q rest (a.put o.dst undef) w') : wpList P ops Q (o :: rest) a w :=
  wpList_plain hgd fun _ hK => wp_put_row ty x y ho g hx cs hy hg hsz hi h1 fun w' h2 h3 h4 => hK _ _ (h w' h2 h3 h4)
theorem step_put_row {P : Program} {ops : Array Oper} {o : Oper} {a : Act} {w : World} {K : Act → World → Prop} {Q : Exit → Act → World → Prop} {E' : Prop} (hw : Region.wanted o (yielded ops a.tmps) = true) (ty : TypeId) (x y : Operand) (ho : o.op = .store ty x y)
    (g : Nat) (hx : a.eval x = .pointer (some ⟨g, 0, none⟩)) (cs : Array Value) (hy : a.eval y = .agg cs) {cur : Array Value} {t : TypeId} (hg : w.heap[g]? = some (.cells cur t (0, 0))) (hsz : cur.size = cs.size)
    (hi : (P.info? ty).map (·.size) = some cs.size) (h1 : ∀ v ∈ cs.toList, v.oneCell' = true)
    (h : ∀ w', w'.heap[g]? = some (.cells cs t (0, 0)) → w.grownBy w' (some g) → w'.heap.size = w.heap.size → K (a.put o.dst undef) w') : if Region.wanted o (yielded ops a.tmps) = true then Oper.wp P o a w K Q else E' := by
  rw [if_pos hw]
  exact wp_put_row ty x y ho g hx cs hy hg hsz hi h1 h

theorem rowf_one {n : Nat} {f : Nat → Value} (h : ∀ j, (f j).oneCell' = true) : ∀ v ∈ (rowf n f).toList, v.oneCell' = true := by
  intro v hv
  simp [rowf] at hv
  obtain ⟨j, _, rfl⟩ := hv
  exact h j

theorem ret_str {a b : ByteArray} (h : a = b) : Ending.returned (.string a) = .returned (.string b) := by rw [h]
theorem ret_int {k : IntKind} {a b : Int} (h : a = b) : Ending.returned (.int k a) = .returned (.int k b) := by rw [h]
theorem ret_bool {a b : Bool} (h : a = b) : Ending.returned (.bool a) = .returned (.bool b) := by rw [h]

section
variable {P : Program} {ops : Array Oper} {Q : Exit → Act → World → Prop} {i : Nat} {o : Oper} {a : Act} {w w' : World} {K : Act → World → Prop}
/-- one operation of a region: it gives a value -/
theorem op_value (ho : ops[i]? = some o) (hg : Region.wanted o (yielded ops a.tmps) = true) {v : Value} (h : (execOp a.eval o).run P w = .ok (.value v) w') (hK : K (a.put (dstOf ops i) v) w') : wpOp P ops Q i K a w := by
  have e : dstOf ops i = o.dst := by simp [dstOf, ho]
  rw [e] at hK
  simp only [wpOp, ho, hg, if_true]
  left
  simp only [Oper.wp, h, Oper.upon]
  exact hK
/-- a store -/
theorem op_skip (ho : ops[i]? = some o) (hg : Region.wanted o (yielded ops a.tmps) = true) (h : (execOp a.eval o).run P w = .ok .skip w') (hK : K (a.put (dstOf ops i) undef) w') : wpOp P ops Q i K a w := by
  have e : dstOf ops i = o.dst := by simp [dstOf, ho]
  rw [e] at hK
  simp only [wpOp, ho, hg, if_true]
  left
  simp only [Oper.wp, h, Oper.upon]
  exact hK
/-- a call of a Go function -/
theorem op_enter (ho : ops[i]? = some o) (hg : Region.wanted o (yielded ops a.tmps) = true) {f : FuncId} {args : Array Value} (h : (execOp a.eval o).run P w = .ok (.enter f args) w')
    (hc : Calls P f args w' fun e w'' => ∃ v, e = .returned v ∧ K (a.put (dstOf ops i) v) w'') : wpOp P ops Q i K a w := by
  have e : dstOf ops i = o.dst := by simp [dstOf, ho]
  rw [e] at hc
  simp only [wpOp, ho, hg, if_true]
  left
  simp only [Oper.wp, h, Oper.upon]
  refine hc.mono ?_
  rintro e w'' ⟨v, rfl, hk⟩
  exact hk
/-- an operation whose guard says no -/
theorem op_pass (ho : ops[i]? = some o) (hg : Region.wanted o (yielded ops a.tmps) = false) (hK : K (a.put (dstOf ops i) undef) w) : wpOp P ops Q i K a w := by
  have e : dstOf ops i = o.dst := by simp [dstOf, ho]
  rw [e] at hK
  simp only [wpOp, ho, hg, Bool.false_eq_true, if_false]
  exact hK
end

/-! ### a region whose every value is known: no row is owned, nothing that was there turns -/
def freeSlot (ops : Array Oper) (anc : Nat → List Nat) (i t : Nat) : Bool := (List.range ops.size).all fun j => !(dstOf ops j == some t) || j == i || (anc j).contains i
def dep (ops : Array Oper) (anc : Nat → List Nat) (i p d : Nat) : Bool := (anc i).contains p && dstOf ops p == some d

theorem eval_tmp {a : Act} {d : Nat} {v : Value} (h : a.tmps[d]? = some v) : a.eval (.tmp d) = v := by
  simp [Act.eval, h]

def finalL : List (Option Nat) → (Nat → Value) → Nat → Array Value → Array Value
  | [], _, _, t => t
  | none :: l, v, i, t => finalL l v (i + 1) t
  | some d :: l, v, i, t => finalL l v (i + 1) (t.setIfInBounds d (v i))

theorem final_eq (ops : Array Oper) (t0 : Array Value) (val : Nat → Value) : final ops t0 val = finalL ((List.range ops.size).map (dstOf ops)) val 0 t0 := by
  have h : ∀ (n i : Nat) (t : Array Value), (List.range' i n).foldl (fun t i => match dstOf ops i with | some d => t.setIfInBounds d (val i) | none => t) t = finalL ((List.range' i n).map (dstOf ops)) val i t := by
    intro n
    induction n with
    | zero => intro i t; rfl
    | succ n ih =>
      intro i t
      rw [List.range'_succ, List.map_cons, List.foldl_cons]
      cases hd : dstOf ops i with
      | none => simp only [finalL]; exact ih (i + 1) t
      | some d => simp only [finalL]; exact ih (i + 1) _
  unfold final
  rw [List.range_eq_range']
  exact h ops.size 0 t0

/-- a plan whose values are known outright at some operations ('vals'), and told by F at the others -/
structure Mix where
  anc : List (List Nat)
  vals : List (Option Value)
  cons : List (List Nat) := []
  own : List Nat := []
  F : Nat → Value → World → Prop := fun _ _ _ => True
  iv : Nat → Value := fun _ => undef
  m : Nat := 0
  B : Nat

def Mix.ancF (x : Mix) (i : Nat) : List Nat := x.anc.getD i []
def Mix.consF (x : Mix) (i : Nat) : List Nat := x.cons.getD i []
def Mix.valF (x : Mix) (i : Nat) : Option Value := x.vals.getD i none
def Mix.fp (x : Mix) (p : Nat) (v : Value) : Option Nat := if x.own.contains p then v.ownBlock else none
def Mix.avail (x : Mix) (ops : Array Oper) (i p : Nat) : Bool :=
  ((x.ancF i).contains p || (decide (ops.size ≤ p) && decide (p < ops.size + x.m))) && ((List.range ops.size).all fun c => !(x.consF c).contains p || c == i) && (x.valF p).isNone
def Mix.left (x : Mix) (ops : Array Oper) (p : Nat) : Bool := decide (p < ops.size + x.m) && ((List.range ops.size).all fun c => !(x.consF c).contains p) && (x.valF p).isNone

section
variable {P : Program} {ops : Array Oper} {Q : Exit → Act → World → Prop}
structure MixHyp (ops : Array Oper) (x : Mix) (a0 : Act) (w0 : World) (i : Nat) (a : Act) (w : World) (val : Nat → Value) : Prop where
  bel : Below x.B w0 w
  known : ∀ p d c, dep ops x.ancF i p d = true → x.valF p = some c → a.tmps[d]? = some c
  slot : ∀ p d, dep ops x.ancF i p d = true → a.tmps[d]? = some (val p)
  F : ∀ p, x.avail ops i p = true → x.F p (val p) w
  fp : ∀ p b, x.avail ops i p = true → x.fp p (val p) = some b → x.B ≤ b ∧ b < w.heap.size
  iv : ∀ p, ops.size ≤ p → val p = x.iv p
  hold : ∀ t v, freeSlot ops x.ancF i t = true → a0.tmps[t]? = v → a.tmps[t]? = v

def MixOk (P : Program) (ops : Array Oper) (Q : Exit → Act → World → Prop) (x : Mix) (a0 : Act) (w0 : World) (i : Nat) : Prop :=
  ∀ (a : Act) (w : World) (val : Nat → Value) (K : Act → World → Prop), MixHyp ops x a0 w0 i a w val →
    (∀ c w', x.valF i = some c → w.grownBy w' none ∨ (∃ p ∈ x.consF i, w.grownBy w' (x.fp p (val p))) → K (a.put (dstOf ops i) c) w') →
    (∀ v w', x.valF i = none → x.F i v w' → w.grownBy w' none ∨ (∃ p ∈ x.consF i, w.grownBy w' (x.fp p (val p))) →
      (∀ b, x.fp i v = some b → (x.B ≤ b ∧ b < w'.heap.size) ∧ (w.heap.size ≤ b ∨ ∃ p ∈ x.consF i, x.fp p (val p) = some b)) → K (a.put (dstOf ops i) v) w') →
    wpOp P ops Q i K a w

structure MixEnd (ops : Array Oper) (x : Mix) (w0 w : World) (val : Nat → Value) : Prop where
  bel : Below x.B w0 w
  F : ∀ p, x.left ops p = true → x.F p (val p) w
  fp : ∀ p b, x.left ops p = true → x.fp p (val p) = some b → x.B ≤ b ∧ b < w.heap.size
  dis : ∀ p q b, x.left ops p = true → x.left ops q = true → x.fp p (val p) = some b → x.fp q (val q) = some b → p = q
  iv : ∀ p, ops.size ≤ p → val p = x.iv p

theorem region_mix {id : Nat} (x : Mix) (ds : List (Option Nat)) (a0 : Act) (w0 : World) (hm : P.follows .mixedOrders = true)
    (hwf : chkWf ops = true) (hanc : chkAnc ops x.ancF = true) (hdst : chkDst ops a0.tmps.size = true) (hcons : chkCons ops x.ancF x.consF x.m = true) (hds : (List.range ops.size).map (dstOf ops) = ds)
    (hown : ((x.own.all fun p => (x.valF p).isNone) && (List.range ops.size).all fun c => (x.consF c).all fun p => (x.valF p).isNone) = true) (hB : x.B ≤ w0.heap.size)
    (hstable : ∀ p v w w', x.F p v w → x.B ≤ w.heap.size → (∀ k, k < x.B → w'.heap[k]? = w.heap[k]?) → (∀ k, x.fp p v = some k → w'.heap[k]? = w.heap[k]?) → w.heap.size ≤ w'.heap.size → x.F p v w')
    (hini : ∀ p, ops.size ≤ p → p < ops.size + x.m → x.F p (x.iv p) w0 ∧ x.valF p = none ∧ ∀ b, x.fp p (x.iv p) = some b → x.B ≤ b ∧ b < w0.heap.size)
    (hinid : ∀ p q b, ops.size ≤ p → p < ops.size + x.m → ops.size ≤ q → q < ops.size + x.m → x.fp p (x.iv p) = some b → x.fp q (x.iv q) = some b → p = q)
    (hstep : ∀ i, i < ops.size → MixOk P ops Q x a0 w0 i)
    (hend : ∀ (val : Nat → Value) (w : World), MixEnd ops x w0 w val → Q .normal { tmps := finalL ds (fun i => (x.valF i).getD (val i)) 0 a0.tmps, defers := a0.defers } w) :
    (Code.region id ops true).wp P Q a0 w0 := by
  rw [Bool.and_eq_true] at hown
  have hnc : ∀ p c, x.valF p = some c → ∀ c', c' < ops.size → p ∉ x.consF c' := by
    intro p c hc c' hc' hp
    have := List.all_eq_true.1 (List.all_eq_true.1 hown.2 c' (List.mem_range.2 hc')) p hp
    rw [hc] at this; cases this
  have hpi : ∀ p d, dstOf ops p = some d → p < ops.size := by
    intro p d h
    unfold dstOf at h
    cases ho : ops[p]? with
    | none => rw [ho] at h; cases h
    | some o => exact (Array.getElem?_eq_some_iff.1 ho).1
  refine region_any { anc := x.ancF, cons := x.consF, own := fun p => x.own.contains p, F := fun p v w => (∀ c, x.valF p = some c → v = c) ∧ (x.valF p = none → x.F p v w), iv := x.iv, m := x.m, B := x.B } a0 w0 hm hwf hanc hdst hcons hB ?_ ?_ hinid ?_ ?_
  · intro p v w w' h h1 h2 h3 h4
    exact ⟨h.1, fun hv => hstable p v w w' (h.2 hv) h1 h2 h3 h4⟩
  · intro p h1 h2
    obtain ⟨g1, g2, g3⟩ := hini p h1 h2
    exact ⟨⟨fun c hc => (by rw [g2] at hc; cases hc), fun _ => g1⟩, g3⟩
  · intro i hi a w val K hbel hiv hdep hF hfp hold hdf hK
    have hav : ∀ p, x.avail ops i p = true → (p ∈ x.ancF i ∨ (ops.size ≤ p ∧ p < ops.size + x.m)) ∧ ∀ c, c < ops.size → p ∈ x.consF c → c = i := by
      intro p h
      simp only [Mix.avail, Bool.and_eq_true, Bool.or_eq_true, decide_eq_true_eq, List.contains_iff_mem, List.all_eq_true, List.mem_range, Bool.not_eq_true', beq_iff_eq] at h
      refine ⟨h.1.1, fun c hc hp => ?_⟩
      rcases h.1.2 c hc with h' | h'
      · have : (x.consF c).contains p = true := by simpa using hp
        rw [this] at h'; cases h'
      · exact h'
    have hdp : ∀ p d, dep ops x.ancF i p d = true → p ∈ x.ancF i ∧ dstOf ops p = some d := by
      intro p d h
      simpa only [dep, Bool.and_eq_true, List.contains_iff_mem, beq_iff_eq] using h
    refine hstep i hi a w val K ⟨hbel, ?_, ?_, ?_, ?_, hiv, ?_⟩ ?_ ?_
    · intro p d c h hc
      obtain ⟨h1, h2⟩ := hdp p d h
      have h3 := hdep p h1 d h2
      rw [(hF p (.inl h1) (fun c' hc' hp' => absurd hp' (hnc p c hc c' hc'))).1 c hc] at h3
      exact h3
    · intro p d h
      obtain ⟨h1, h2⟩ := hdp p d h
      exact hdep p h1 d h2
    · intro p h
      have hn : x.valF p = none := by
        simp only [Mix.avail, Bool.and_eq_true] at h
        simpa using h.2
      exact (hF p (hav p h).1 (hav p h).2).2 hn
    · intro p b h
      exact hfp p (hav p h).1 (hav p h).2 b
    · intro t v h hv
      rw [← hv]
      exact hold t (fun j hj hd => by
        have := List.all_eq_true.1 h j (List.mem_range.2 hj)
        simp only [hd, beq_self_eq_true, Bool.not_true, Bool.false_or, Bool.or_eq_true, beq_iff_eq, List.contains_iff_mem] at this
        exact this)
    · intro c w' hc hgr
      refine hK c w' ⟨fun c' hc' => (by rw [hc] at hc'; exact Option.some.inj hc'), fun h => (by rw [hc] at h; cases h)⟩ hgr ?_
      intro b hb
      exfalso
      unfold Plan.fp at hb
      by_cases ho : x.own.contains i = true
      · have := List.all_eq_true.1 hown.1 i (by simpa using ho)
        rw [hc] at this; cases this
      · simp only [ho, Bool.false_eq_true, if_false] at hb
        cases hb
    · intro v w' hn hFi hgr hfpi
      exact hK v w' ⟨fun c' hc' => (by rw [hn] at hc'; cases hc'), fun _ => hFi⟩ hgr hfpi
  · intro val w hiv hbel hF hdis
    have hl : ∀ p, x.left ops p = true → p < ops.size + x.m ∧ (∀ c, c < ops.size → p ∉ x.consF c) ∧ x.valF p = none := by
      intro p h
      simp only [Mix.left, Bool.and_eq_true, decide_eq_true_eq, List.all_eq_true, List.mem_range, Bool.not_eq_true'] at h
      refine ⟨h.1.1, fun c hc hp => ?_, by simpa using h.2⟩
      have h1 := h.1.2 c hc
      have : (x.consF c).contains p = true := by simpa using hp
      rw [this] at h1; cases h1
    have e : final ops a0.tmps val = finalL ds (fun i => (x.valF i).getD (val i)) 0 a0.tmps := by
      have : final ops a0.tmps val = final ops a0.tmps (fun i => (x.valF i).getD (val i)) := by
        refine Array.ext_getElem? fun t => ?_
        obtain ⟨h1, h2⟩ := final_at hdst a0.tmps (Nat.le_refl _) val t
        obtain ⟨g1, g2⟩ := final_at hdst a0.tmps (Nat.le_refl _) (fun i => (x.valF i).getD (val i)) t
        by_cases hex : ∃ i, i < ops.size ∧ dstOf ops i = some t
        · obtain ⟨i, hi, hd⟩ := hex
          rw [h1 i hi hd, g1 i hi hd]
          cases hv : x.valF i with
          | none => rfl
          | some c => rw [(hF i (by omega) (hnc i c hv)).1.1 c hv]; rfl
        · have hno : ∀ i, i < ops.size → dstOf ops i ≠ some t := fun i hi hd => hex ⟨i, hi, hd⟩
          rw [h2 hno, g2 hno]
      rw [this, final_eq, hds]
    rw [e]
    refine hend val w ⟨hbel, fun p h => ?_, fun p b h => ?_, fun p q b h h' => ?_, hiv⟩
    · obtain ⟨h1, h2, h3⟩ := hl p h
      exact (hF p h1 h2).1.2 h3
    · obtain ⟨h1, h2, h3⟩ := hl p h
      exact (hF p h1 h2).2 b
    · obtain ⟨h1, h2, h3⟩ := hl p h
      obtain ⟨g1, g2, g3⟩ := hl q h'
      exact hdis p q b h1 g1 h2 g2

/-- a step of an operation whose value is known: the world below has not turned -/
theorem MixK {x : Mix} {i : Nat} {a : Act} {w w' : World} {val : Nat → Value} {K : Act → World → Prop}
    (h : ∀ c w', x.valF i = some c → w.grownBy w' none ∨ (∃ p ∈ x.consF i, w.grownBy w' (x.fp p (val p))) → K (a.put (dstOf ops i) c) w') {c : Value} (hc : x.valF i = some c) (hb : Below w.heap.size w w') : K (a.put (dstOf ops i) c) w' :=
  h c w' hc (.inl ⟨hb.os, hb.tape, hb.output, hb.size, fun k hk _ => hb.block k hk⟩)
end

section
variable {P : Program} {ops : Array Oper} {Q : Exit → Act → World → Prop} {x : Mix} {a0 : Act} {w0 : World} {i : Nat} {a : Act} {w : World} {val : Nat → Value} {K : Act → World → Prop} {o : Oper}

theorem MixHyp.cell {b off : Nat} {v : Value} (H : MixHyp ops x a0 w0 i a w val) (hb : b < x.B) (h : w0.cell? ⟨b, off, none⟩ = some v) : w.cell? ⟨b, off, none⟩ = some v := (H.bel.cell hb).trans h
theorem MixHyp.own {base e size n : Nat} {v : Value} {xs : List Value} (H : MixHyp ops x a0 w0 i a w val) (hb : x.B = w0.heap.size) (h : w0.ownsRow base e size v n xs) : w.ownsRow base e size v n xs := own_step h (hb ▸ H.bel)

/-- a literal, a new block of the region's own -/
theorem mix_new (H : MixHyp ops x a0 w0 i a w val) (hB : x.B ≤ w0.heap.size)
    (hK : ∀ v w', x.valF i = none → x.F i v w' → w.grownBy w' none ∨ (∃ p ∈ x.consF i, w.grownBy w' (x.fp p (val p))) →
      (∀ b, x.fp i v = some b → (x.B ≤ b ∧ b < w'.heap.size) ∧ (w.heap.size ≤ b ∨ ∃ p ∈ x.consF i, x.fp p (val p) = some b)) → K (a.put (dstOf ops i) v) w')
    (ho : ops[i]? = some o) (hw : Region.wanted o (yielded ops a.tmps) = true) (hv : x.valF i = none) {v : Value} {ob : Obj} (hr : (execOp a.eval o).run P w = .ok (.value v) (w.alloc ob))
    (hf : x.F i v (w.alloc ob)) (hb : v.ownBlock = some w.heap.size ∨ v.ownBlock = none) : wpOp P ops Q i K a w := by
  refine op_value ho hw hr (hK v _ hv hf (.inl (World.grownBy_alloc _ _ _)) fun b hb' => ?_)
  unfold Mix.fp at hb'
  split at hb'
  · rcases hb with hb | hb
    · rw [hb] at hb'
      cases hb'
      have := H.bel.size
      exact ⟨⟨by omega, by simp⟩, .inl (Nat.le_refl _)⟩
    · rw [hb] at hb'; cases hb'
  · cases hb'

/-- append onto a row that operation p made -/
theorem mix_app {t e size bytes n cap m c s1 x1 : Nat} {ao bo : Option Addr} {xs news : List Value} (H : MixHyp ops x a0 w0 i a w val) (hB : x.B ≤ w0.heap.size)
    (hK : ∀ v w', x.valF i = none → x.F i v w' → w.grownBy w' none ∨ (∃ p ∈ x.consF i, w.grownBy w' (x.fp p (val p))) →
      (∀ b, x.fp i v = some b → (x.B ≤ b ∧ b < w'.heap.size) ∧ (w.heap.size ≤ b ∨ ∃ p ∈ x.consF i, x.fp p (val p) = some b)) → K (a.put (dstOf ops i) v) w')
    (ho : ops[i]? = some o) (hw : Region.wanted o (yielded ops a.tmps) = true) (hv : x.valF i = none)
    (hop : o.op = .call { callee := .builtin .append, args := #[.tmp s1, .tmp x1], argTypes := #[t, t] })
    (p : Nat) (hp0 : (x.consF i).contains p = true) (hpo : x.own.contains p = true) (hpv : val p = .slice ao n cap) (es : a.tmps[s1]? = some (.slice ao n cap)) (ex : a.tmps[x1]? = some (.slice bo m c))
    (E : Elem P t e size bytes) (hown : w.ownsRow x.B e size (.slice ao n cap) n xs) (hl : news.length = m * size) (hsrc : Src w bo m c news) (h1 : ∀ u ∈ news, u.oneCell' = true)
    (h63 : n + m ≤ maxLen) (hbytes : (n + m) * bytes ≤ 140737488355328)
    (hf : ∀ ao' cap' w', w'.ownsRow x.B e size (.slice ao' (n + m) cap') (n + m) (xs ++ news) → x.F i (.slice ao' (n + m) cap') w') : wpOp P ops Q i K a w := by
  have hp : p ∈ x.consF i := by simpa using hp0
  have hbw : x.B ≤ w.heap.size := Nat.le_trans hB H.bel.size
  obtain ⟨ao', cap', w', hr, h2, h3, h4, h5⟩ := run_app (ty := o.type) E hown hl hsrc h1 h63 hbytes hbw
  have hfp : x.fp p (val p) = blk ao := by rw [hpv]; unfold Mix.fp; rw [if_pos hpo, ownBlock_slice]
  refine op_value ho hw (v := .slice ao' (n + m) cap') (w' := w') ?_ (hK _ _ hv (hf ao' cap' w' h2) (.inr ⟨p, hp, by rw [hfp]; exact h3⟩) fun b hb => ?_)
  · have e1 := eval_tmp es
    have e2 := eval_tmp ex
    unfold execOp
    simp only [hop, resolve, invoke, builtin, Sem.run_bind, Sem.run_pure, Result.andThen_ok, List.map_toArray, List.map_cons, List.map_nil, e1, e2, hr]
  · unfold Mix.fp at hb
    split at hb
    · rw [ownBlock_slice] at hb
      obtain ⟨g1, g2⟩ := own_blk h2 b hb
      refine ⟨⟨g1, g2⟩, ?_⟩
      rcases h4 with h | h
      · exact .inr ⟨p, hp, by rw [hfp, ← h, hb]⟩
      · rw [hb] at h; cases h; exact .inl (Nat.le_refl _)
    · cases hb

/-- what a row's fact wants to stay: its own block has not turned -/
theorem mix_stable {w w' : World} {base e size n : Nat} {xs : List Value} {v : Value} {fp : Option Nat} (h : ∃ ao cap, v = .slice ao n cap ∧ w.ownsRow base e size (.slice ao n cap) n xs)
    (hb : ∀ k, fp = some k → w'.heap[k]? = w.heap[k]?) (hfp : fp = v.ownBlock) : ∃ ao cap, v = .slice ao n cap ∧ w'.ownsRow base e size (.slice ao n cap) n xs := by
  obtain ⟨ao, cap, rfl, h1, h2⟩ := h
  refine ⟨ao, cap, rfl, h1, ?_⟩
  rcases h2 with h2 | ⟨g, c, cur, hv, r1, r2, r3⟩
  · exact .inl h2
  · refine .inr ⟨g, c, cur, hv, r1, ?_, r3⟩
    rw [hb g (by rw [hfp, hv]; rfl)]
    exact r2
end
end Go.RG
