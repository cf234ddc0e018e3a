/-
  Operations on memory: a load, a store, append, bytes to a text.
-/
import Derived.Test.YteoohihaibgplaaDoorAvO
namespace Go.AV
open Go.RowKit Go.RG

section
variable {P : Program} {B : Base} [GB P B] {N : Nat} {S : St} {a : Act} {G : Gh}

/-- these cells lie at that place -/
def At (G : Gh) (us : List AV) (b base : Nat) : Prop := ∀ (j : Nat) (u : AV), us[j]? = some u → ∃ x, G.w.cell? ⟨b, base + j, none⟩ = some x ∧ VR G u x ∧ x.oneCell' = true

theorem at_blk {b : Blk} {g cap : Nat} (h : BlkOk G b g cap) : At G b.cells g 0 := by
  obtain ⟨cur, h1, h2, h3, h4, h5, h6, h7⟩ := h
  intro j u hu
  have hj : j < b.cells.length := (List.getElem?_eq_some_iff.1 hu).1
  have hj' : j < cur.size := by omega
  refine ⟨cur[j], ?_, h6 j u _ hu (Array.getElem?_eq_getElem hj'), h7 j _ hj (Array.getElem?_eq_getElem hj')⟩
  rw [Nat.zero_add]
  simp [World.cell?, h1, hj']

/-- what a pointer points into: its cells, and from which on -/
def tgt (S : St) : AV → Option (List AV × Nat)
  | .pt k off => (S.M k).bind fun b => if b.sz = 0 then none else some (b.cells, off)
  | .ep xs off => some (xs, off)
  | _ => none

theorem tgt_ok (h : MRel B S G) {u : AV} {v : Value} {us : List AV} {off : Nat} (hv : VR G u v) (ht : tgt S u = some (us, off)) : ∃ b base, v = .pointer (some ⟨b, base + off, none⟩) ∧ At G us b base := by
  unfold tgt at ht
  split at ht
  · rename_i k o
    cases hm : S.M k with
    | none => rw [hm] at ht; cases ht
    | some b =>
      rw [hm] at ht; simp only [Option.bind_some] at ht
      split at ht
      · cases ht
      rename_i hz
      simp only [Option.some.injEq, Prod.mk.injEq] at ht
      obtain ⟨rfl, rfl⟩ := ht
      obtain ⟨g, cap, hk, e⟩ := hv.pt_inv h (by simp [liveB, hm])
      obtain ⟨r, hr, hb⟩ := h.κcell hm hz
      rw [hk] at hr; cases hr
      exact ⟨g, 0, by rw [e, Nat.zero_add], at_blk hb⟩
  · simp only [Option.some.injEq, Prod.mk.injEq] at ht
    obtain ⟨rfl, rfl⟩ := ht
    obtain ⟨b, base, f, e, h1, h2, h3, h4, h5⟩ := hv.ep_inv
    exact ⟨b, base, e, fun j u hu => ⟨f j, h2 j u hu, h3 j u hu, h4 j u hu⟩⟩
  · cases ht

theorem m_ld (h : Rel B N S a G) {o : Oper} {t : TypeId} {x : Operand} {ux : AOpd} {g : Bool} {sz off : Nat} {us : List AV} (ho : o.op = .load t x) (hx : trOpd P N x = some ux) (hs : aggSz P t = some (g, sz)) (ht : tgt S (ev S.fr ux) = some (us, off))
    {u : AV} (hu : (if g then (if off + sz ≤ us.length then some (.agg ((us.drop off).take sz)) else none) else us[off]?) = some u) : Yields P a G o u := by
  obtain ⟨b, base, e, hat⟩ := tgt_ok h.toMRel (ev_ok h hx) ht
  cases g with
  | true =>
    obtain ⟨k1, k2⟩ := aggSz_true hs
    simp only [if_true] at hu
    split at hu
    · rename_i hle
      simp only [Option.some.injEq] at hu; subst hu
      have hc : ∀ j, j < sz → ∃ x, G.w.cell? ⟨b, base + off + j, none⟩ = some x ∧ VR G (us[off + j]?.getD .un) x ∧ x.oneCell' = true := by
        intro j hj
        have hlt : off + j < us.length := by omega
        obtain ⟨x, p, q, r⟩ := hat (off + j) us[off + j] (List.getElem?_eq_getElem hlt)
        exact ⟨x, by rw [Nat.add_assoc]; exact p, by rw [List.getElem?_eq_getElem hlt]; exact q, r⟩
      let f : Nat → Value := fun j => ((G.w.cell? ⟨b, base + off + j, none⟩).getD undef)
      have hf : ∀ j, j < sz → G.w.cell? ((⟨b, base + off, none⟩ : Addr).add j) = some (f j) := by
        intro j hj
        obtain ⟨x, p, _⟩ := hc j hj
        rw [addr_add, p]; simp [f, p]
      refine ⟨.agg ((List.range sz).map f).toArray, ?_, .agg _ _ (by simp; omega) ?_ ?_⟩
      · have := run_loadCells (P := P) G.w ⟨b, base + off, none⟩ sz f hf
        simp only [execOp, ho, e, Instr.loadAt, Instr.sureAddr, loadVar]
        simp [k1, run_size k2, this]
      · intro j u x hu hx
        simp only [List.getElem?_take, List.getElem?_drop] at hu
        split at hu
        · rename_i hj
          obtain ⟨x', p, q, r⟩ := hc j hj
          simp only [List.getElem?_toArray, List.getElem?_map, List.getElem?_range hj, Option.map_some, Option.some.injEq] at hx
          subst hx
          simp only [f, p, Option.getD_some]
          rw [hu] at q; exact q
        · cases hu
      · intro j x hx
        have hj : j < sz := by have := (Array.getElem?_eq_some_iff.1 hx).1; simpa using this
        obtain ⟨x', p, q, r⟩ := hc j hj
        simp only [List.getElem?_toArray, List.getElem?_map, List.getElem?_range hj, Option.map_some, Option.some.injEq] at hx
        subst hx
        simp only [f, p, Option.getD_some]; exact r
    · cases hu
  | false =>
    obtain ⟨k1, k2⟩ := aggSz_false hs
    simp only [Bool.false_eq_true, if_false] at hu
    obtain ⟨x, p, q, r⟩ := hat off u hu
    refine ⟨x, ?_, q⟩
    simp only [execOp, ho, e, Instr.loadAt, Instr.sureAddr, loadVar]
    simp [k1, run_load, p]

theorem m_sto (h : Rel B N S a G) {o : Oper} {t : TypeId} {x y : Operand} {ux uy : AOpd} {sz off : Nat} {k : Key} {b : Blk} (ho : o.op = .store t x y) (hx : trOpd P N x = some ux) (hy : trOpd P N y = some uy) (hs : szOf P t = some sz) (hp : ev S.fr ux = .pt k off) (hm : S.M k = some b) (hbz : b.sz ≠ 0)
    (hl : (ev S.fr uy).cells.length = sz) (h1 : (ev S.fr uy).cells.all AV.one = true) (hle : off + sz ≤ b.cells.length) (hno : hOk k (b.cells.take off ++ (ev S.fr uy).cells ++ b.cells.drop (off + sz)) = true)
    {K : AV → St → Prop} {next : Act → World → Prop} {Q : Exit → Act → World → Prop} (hK : K .un (S.setM k { b with cells := b.cells.take off ++ (ev S.fr uy).cells ++ b.cells.drop (off + sz) })) (hn : Nxt B N a o K next) : o.wp P a G.w next Q := by
  have rx := ev_ok h hx; rw [hp] at rx
  have ry := (ev_ok h hy).cells h1
  obtain ⟨g, cap, hk, e⟩ := rx.pt_inv h.toMRel (by simp [liveB, hm])
  obtain ⟨r, hr, hb⟩ := h.toMRel.κcell hm hbz
  rw [hk] at hr; cases hr
  obtain ⟨cur, c1, c2, c3, c4, c5, c6, c7⟩ := hb
  have hvl : (a.eval y).cells.size = sz := by rw [ry.len, hl]
  have hrun := run_storeCells_at (P := P) g off b.e (a.eval y).cells.toList 0 cur G.w c1 (by simp [hvl]; omega) (fun v hv => by
    obtain ⟨j, hj⟩ := List.mem_iff_getElem?.1 hv
    exact ry.one j v (by simpa using hj))
  simp only [Nat.add_zero] at hrun
  have hne : (a.eval y).cells.toList.length = sz := by simpa using hvl
  rw [hne] at hrun
  generalize hcur : (cur.toList.take off ++ (a.eval y).cells.toList ++ cur.toList.drop (off + sz)).toArray = cur' at hrun
  have hsz' : cur'.size = cur.size := by rw [← hcur]; simp [hvl]; omega
  have hcat : ∀ (z : Nat), cur'[z]? = if off ≤ z ∧ z < off + sz then (a.eval y).cells[z - off]? else cur[z]? := by
    intro z
    rw [← hcur]
    have hto : (cur.toList.take off).length = off := by rw [List.length_take]; simp; omega
    simp only [List.getElem?_toArray]
    by_cases e1 : z < off
    · rw [if_neg (by omega), List.append_assoc, List.getElem?_append_left (by omega), List.getElem?_take, if_pos e1]; simp
    · by_cases e2 : z < off + sz
      · rw [if_pos ⟨by omega, e2⟩, List.append_assoc, List.getElem?_append_right (by omega), hto, List.getElem?_append_left (by omega)]; simp
      · rw [if_neg (by omega), List.getElem?_append_right (by rw [List.length_append, hto, hne]; omega)]
        rw [List.length_append, hto, hne, List.getElem?_drop]
        simp only [Array.getElem?_toList]
        congr 1; omega
  have hbat : ∀ (z : Nat), (b.cells.take off ++ (ev S.fr uy).cells ++ b.cells.drop (off + sz))[z]? = if off ≤ z ∧ z < off + sz then (ev S.fr uy).cells[z - off]? else b.cells[z]? := by
    intro z
    have hto : (b.cells.take off).length = off := by rw [List.length_take]; omega
    by_cases e1 : z < off
    · rw [if_neg (by omega), List.append_assoc, List.getElem?_append_left (by omega), List.getElem?_take, if_pos e1]
    · by_cases e2 : z < off + sz
      · rw [if_pos ⟨by omega, e2⟩, List.append_assoc, List.getElem?_append_right (by omega), hto, List.getElem?_append_left (by omega)]
      · rw [if_neg (by omega), List.getElem?_append_right (by rw [List.length_append, hto, hl]; omega)]
        rw [List.length_append, hto, hl, List.getElem?_drop]
        congr 1; omega
  have hbl : (b.cells.take off ++ (ev S.fr uy).cells ++ b.cells.drop (off + sz)).length = b.cells.length := by
    rw [List.length_append, List.length_append, List.length_take, hl, List.length_drop]; omega
  obtain ⟨G', e1, e2, e3⟩ := h.toMRel.set (S' := S.setM k { b with cells := b.cells.take off ++ (ev S.fr uy).cells ++ b.cells.drop (off + sz) }) (w1 := G.w.setRow g cur') (cur := cur') hno hk hm rfl rfl rfl rfl rfl rfl (by simp)
    (fun q hq => setRow_other _ _ _ _ hq) hbz (setRow_heap _ _ _ _ _ _ c1) (by rw [hsz', c2]) (by rw [hbl, hsz']; exact c5)
    (fun j u z hu hz => by
      simp only [] at hu
      rw [hbat] at hu; rw [hcat] at hz
      split at hu
      · rename_i hc; rw [if_pos hc] at hz; exact ry.vr _ u z hu hz
      · rename_i hc; rw [if_neg hc] at hz; exact c6 j u z hu hz)
    (fun j z hj hz => by
      simp only [] at hj
      rw [hbl] at hj
      rw [hcat] at hz
      split at hz
      · exact ry.one _ z hz
      · exact c7 j z hj hz)
  refine wp_skp (w' := G.w.setRow g cur') ?_ ?_
  · simp only [execOp, ho, e, Instr.storeAt, Instr.sureAddr, storeVar]
    simp [run_size hs, hvl, hrun]
  · have := hn _ undef _ G' hK (h.lift e2 e3 rfl) (.un _)
    rw [e1] at this; exact this
end
end Go.AV

