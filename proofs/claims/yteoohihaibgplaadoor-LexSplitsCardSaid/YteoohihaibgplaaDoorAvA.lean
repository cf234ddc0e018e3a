/-
  append: onto nothing, or onto a row of one's own; bytes to a text.
-/
import Derived.Test.YteoohihaibgplaaDoorAvO2
import Derived.Lib.AppendStr
namespace Go.AV
open Go.RowKit Go.RG Go.Lib

section
variable {P : Program} {w : World}

/-- append of a text's bytes, in run_app's words -/
theorem run_app_str {t u ty e : TypeId} {i : TypeInfo} (ht : P.underlying t = some (.slice e)) (hu : P.underlying u = some .string) (hi : P.info? e = some i) (hz : i.zero = some (.int .u8 0)) (hsize : i.size = 1) (hby : i.bytes = 1)
    {base n cap : Nat} {ao : Option Addr} {xs : List Value} (hown : w.ownsRow base e 1 (.slice ao n cap) n xs) (s : ByteArray) (h63 : n + s.size ≤ maxLen) (hbytes : n + s.size ≤ 140737488355328) (hbase : base ≤ w.heap.size) :
    ∃ ao' cap' w', (Builtin.append_ #[t, u] ty #[.slice ao n cap, .string s]).run P w = .ok (.slice ao' (n + s.size) cap') w' ∧ w'.ownsRow base e 1 (.slice ao' (n + s.size) cap') (n + s.size) (xs ++ strCells s) ∧ w.grownBy w' (blk ao) ∧
      (blk ao' = blk ao ∨ blk ao' = some w.heap.size) ∧ (ao' = none ↔ ao = none ∧ s.size = 0) := by
  have hsmall : n + s.size ≤ 9223372036854775807 := by simp only [maxLen] at h63; omega
  have hxl : xs.length = n := by simpa using hown.1
  have hlen : (xs ++ strCells s).length = (n + s.size) * 1 := by rw [List.length_append, hxl, strCells_length, Nat.mul_one]
  rcases hown.2 with ⟨h0, hn⟩ | ⟨g, cap0, cur, h0, hbg, hg, hnc, hcm, hcs, htake⟩
  · injection h0 with e1 e2 e3
    subst e1; subst e2; subst e3
    have hx : xs = [] := List.eq_nil_of_length_eq_zero hxl
    subst hx
    by_cases hm : s.size = 0
    · have hn0 : strCells s = [] := List.eq_nil_of_length_eq_zero (by rw [strCells_length]; exact hm)
      refine ⟨none, 0, w, ?_, by rw [hn0, hm]; exact World.ownsRow_nil w base e 1, World.grownBy.refl _ _, .inl rfl, ⟨fun _ => ⟨rfl, hm⟩, fun _ => rfl⟩⟩
      simp [Builtin.append_, run_underlying ht, run_underlying hu, sizeOf, typeInfo, hi, Builtin.lenOf, Builtin.firstCells, hm]
    · have hr := run_append_nil_string (P := P) w t u ty e i (.int .u8 0) ht hu hi hz s (by omega) (by omega) (by rw [hby]; omega)
      have hge := grownCap_ge w s.size 0 e
      have hcm := grownCap_le_maxLen w s.size 0 e (by omega)
      rw [Nat.zero_add] at hlen h63 ⊢
      refine ⟨some ⟨w.heap.size, 0, none⟩, grownCap w s.size 0 e, _, hr, ⟨hlen, .inr ⟨w.heap.size, _, _, rfl, hbase, heap_alloc_new w.drew _, hge, hcm, ?_, ?_⟩⟩, ⟨rfl, rfl, rfl, by simp, fun k hk _ => heap_alloc_old w.drew _ hk⟩, .inr rfl, ⟨fun h => (by cases h), fun h => absurd h.2 hm⟩⟩
      · have hz1 : (Value.int IntKind.u8 0).cells.size = 1 := rfl
        simp only [Array.size_append, Array.size_map, size_zeroCells, hz1]
        have : s.data.size = s.size := rfl
        omega
      · simp only [Array.toList_append, List.nil_append]
        rw [List.nil_append] at hlen
        have : (Array.map (fun b : UInt8 => Value.int .u8 (b.toNat : Int)) s.data).toList = strCells s := by simp [strCells]
        rw [this, ← hlen]
        exact List.take_left
  · injection h0 with e1 e2 e3
    subst e1; subst e3
    by_cases hroom : n + s.size ≤ cap
    · have hcs' : cur.size = cap := by simpa using hcs
      have hr := run_append_room_string (P := P) w t u ty e i ht hu hi hsize g n cap cur hg s hroom (by omega)
      refine ⟨some ⟨g, 0, none⟩, cap, _, hr, ⟨hlen, .inr ⟨g, cap, _, rfl, hbg, setRow_heap w g cur _ e _ hg, hroom, hcm, ?_, ?_⟩⟩, ⟨rfl, rfl, rfl, by simp, fun k _ hk => setRow_other w g k _ (fun e => hk (by simp [blk, e]))⟩, .inl rfl, by simp⟩
      · simp only [List.size_toArray, List.length_append, List.length_take, List.length_drop, Array.length_toList, strCells_length]
        omega
      · have ht' : cur.toList.take n = xs := by simpa using htake
        rw [ht', ← hlen]
        exact List.take_left
    · have holds : ∀ j u, xs[j]? = some u → w.cell? ((⟨g, 0, none⟩ : Addr).add j) = some u := hown.cells (g := g) rfl
      have hr := run_append_grow_string (P := P) w t u ty e i (.int .u8 0) ht hu hi hz ⟨g, 0, none⟩ n cap xs (by rw [hsize]; simpa using hxl) holds s (by omega) (by omega) (by rw [hby]; exact growslice_fits (by omega) (by omega))
      have hge := grownCap_ge w (n + s.size) cap e
      have hcm2 : grownCap w (n + s.size) cap e ≤ maxLen := grownCap_le_maxLen w (n + s.size) cap e h63
      refine ⟨some ⟨w.heap.size, 0, none⟩, _, _, hr, ⟨hlen, .inr ⟨w.heap.size, _, _, rfl, hbase, heap_alloc_new w.drew _, hge, hcm2, ?_, ?_⟩⟩, ⟨rfl, rfl, rfl, by simp, fun k hk _ => heap_alloc_old w.drew _ hk⟩, .inr rfl, by simp⟩
      · have hz1 : (Value.int IntKind.u8 0).cells.size = 1 := rfl
        simp only [Array.size_append, List.size_toArray, size_zeroCells, hz1, hxl, strCells_length]
        omega
      · simp only [Array.toList_append, List.append_assoc]
        rw [← List.append_assoc, ← hlen]
        exact List.take_left

theorem append_types {t u e e' ty : TypeId} {ao bo : Option Addr} {n cap m c : Nat} (ht : P.underlying t = some (.slice e)) (hu : P.underlying u = some (.slice e')) :
    (Builtin.append_ #[t, u] ty #[.slice ao n cap, .slice bo m c]).run P w = (Builtin.append_ #[t, t] ty #[.slice ao n cap, .slice bo m c]).run P w := by
  simp [Builtin.append_, run_underlying ht, run_underlying hu]
end

section
variable {P : Program} {B : Base} [GB P B] {N : Nat} {S : St} {a : Act} {G : Gh}

theorem MRel.grown0 (h : MRel B S G) {w1 : World} (hg : G.w.grownBy w1 none) : ∃ G', G'.w = w1 ∧ MRel B S G' ∧ LE G G' := by
  let G' : Gh := ⟨G.κ, G.dead, G.I, w1⟩
  have hsame : ∀ q, q < G.w.heap.size → w1.heap[q]? = G.w.heap[q]? := fun q hq => hg.block q hq (by simp)
  have hle : LE G G' := ⟨fun _ _ hr => .inl hr, fun _ hd => hd, fun _ hb => hb, fun q hq => hsame q (h.lt q hq), fun q ds hq => ⟨hsame q (Array.getElem?_eq_some_iff.1 hq).1, fun h => h⟩⟩
  refine ⟨G', rfl, ⟨fun k => (h.blk k).le hle fun q hq => hsame q.1 (h.apart k q hq).2, h.inj, h.dead, h.live, fun k r hr => ⟨(h.apart k r hr).1, Nat.lt_of_lt_of_le (h.apart k r hr).2 hg.size⟩, fun b hb => Nat.lt_of_lt_of_le (h.lt b hb) hg.size, h.loc, h.keep, h.heap, h.nx, h.gone, h.I0, h.I1,
    hg.os.trans h.os, hg.tape.trans h.tape, hg.output.trans h.output, Nat.le_trans h.size hg.size, fun b hb hq => (hsame b (Nat.lt_of_lt_of_le hb h.size)).trans (h.same b hb hq), h.hno⟩, hle⟩

/-- a row of values that are told, one by one -/
def Told (G : Gh) (us : List AV) (vs : List Value) : Prop := vs.length = us.length ∧ (∀ (j : Nat) (u : AV) (x : Value), us[j]? = some u → vs[j]? = some x → VR G u x) ∧ ∀ x ∈ vs, x.oneCell' = true

theorem Told.cells {us : List AV} {vs : List Value} (h : Told G us vs) : Cells G us vs.toArray := ⟨by simpa using h.1, fun j u x p q => h.2.1 j u x p (by simpa using q), fun j x q => h.2.2 x (List.mem_of_getElem? (by simpa using q))⟩

theorem Told.append {us ws : List AV} {vs xs : List Value} (h : Told G us vs) (k : Told G ws xs) : Told G (us ++ ws) (vs ++ xs) := by
  refine ⟨by simp [h.1, k.1], ?_, fun x hx => (List.mem_append.1 hx).elim (h.2.2 x) (k.2.2 x)⟩
  intro j u x hu hx
  by_cases hj : j < us.length
  · rw [List.getElem?_append_left hj] at hu; rw [List.getElem?_append_left (by rw [h.1]; exact hj)] at hx; exact h.2.1 j u x hu hx
  · rw [List.getElem?_append_right (by omega)] at hu; rw [List.getElem?_append_right (by rw [h.1]; omega), h.1] at hx; exact k.2.1 _ u x hu hx

theorem Told.le {G' : Gh} (hle : LE G G') {us : List AV} {vs : List Value} (h : Told G us vs) : Told G' us vs := ⟨h.1, fun j u x p q => (h.2.1 j u x p q).le hle, h.2.2⟩

/-- what is at a place, as a list -/
theorem At.told {us : List AV} {b base : Nat} (h : At G us b base) : ∃ vs, Told G us vs ∧ ∀ j v, vs[j]? = some v → G.w.cell? ((⟨b, base, none⟩ : Addr).add j) = some v := by
  let f : Nat → Value := fun j => (G.w.cell? ⟨b, base + j, none⟩).getD undef
  have hf : ∀ j, j < us.length → ∃ x, G.w.cell? ⟨b, base + j, none⟩ = some x ∧ f j = x ∧ x.oneCell' = true ∧ ∀ u, us[j]? = some u → VR G u x := by
    intro j hj
    obtain ⟨x, p, q, r⟩ := h j us[j] (List.getElem?_eq_getElem hj)
    exact ⟨x, p, by simp [f, p], r, fun u hu => by rw [List.getElem?_eq_getElem hj] at hu; cases hu; exact q⟩
  refine ⟨(List.range us.length).map f, ⟨by simp, ?_, ?_⟩, ?_⟩
  · intro j u x hu hx
    have hj := (List.getElem?_eq_some_iff.1 hu).1
    obtain ⟨y, p, q, r, s⟩ := hf j hj
    rw [List.getElem?_map, List.getElem?_range hj] at hx
    simp only [Option.map_some, Option.some.injEq] at hx
    rw [← hx, q]; exact s u hu
  · intro x hx
    obtain ⟨j, hj, rfl⟩ := List.mem_map.1 hx
    obtain ⟨y, p, q, r, s⟩ := hf j (List.mem_range.1 hj)
    rw [q]; exact r
  · intro j v hv
    have hj : j < us.length := by have := (List.getElem?_eq_some_iff.1 hv).1; simpa using this
    obtain ⟨y, p, q, r, s⟩ := hf j hj
    rw [List.getElem?_map, List.getElem?_range hj] at hv
    simp only [Option.map_some, Option.some.injEq] at hv
    rw [addr_add, p, ← hv, q]

/-- what is appended -/
def srcA (S : St) : AV → Option (Nat × List AV)
  | .sl _ m ys => some (m, ys)
  | .gs k m => (S.M k).bind fun b => if b.sz = 0 then none else some (m, b.cells)
  | _ => none

theorem srcA_ok (h : MRel B S G) {u : AV} {v : Value} {m : Nat} {ys : List AV} (hv : VR G u v) (hs : srcA S u = some (m, ys)) : ∃ bo c vs, v = .slice bo m c ∧ Told G ys vs ∧ Src G.w bo m c vs := by
  unfold srcA at hs
  split at hs
  · rename_i z _ _
    simp only [Option.some.injEq, Prod.mk.injEq] at hs
    obtain ⟨rfl, rfl⟩ := hs
    rcases hv.sl_inv with ⟨e, hn0, hx0⟩ | ⟨_, hn0, hx0, ad, cap, e⟩ | ⟨_, b, off, cap, f, e, h1, h2, h3, h4, h5, h6, h7⟩
    · subst hn0; subst hx0
      exact ⟨none, 0, [], e, ⟨rfl, fun j u x p => by simp at p, fun x hx => by cases hx⟩, .inl ⟨rfl, rfl, rfl⟩⟩
    · subst hn0; subst hx0
      exact ⟨_, cap, [], e, ⟨rfl, fun j u x p => by simp at p, fun x hx => by cases hx⟩, .inr ⟨_, rfl, fun j v hv => by simp at hv⟩⟩
    obtain ⟨vs, t1, t2⟩ := At.told (G := G) (us := ‹List AV›) (b := b) (base := off) (fun j u hu => ⟨f j, h2 j u hu, h3 j u hu, h4 j u hu⟩)
    exact ⟨_, _, vs, e, t1, .inr ⟨_, rfl, t2⟩⟩
  · rename_i k m'
    cases hm : S.M k with
    | none => rw [hm] at hs; cases hs
    | some b =>
      rw [hm] at hs
      simp only [Option.bind_some] at hs
      split at hs
      · cases hs
      rename_i hz
      simp only [Option.some.injEq, Prod.mk.injEq] at hs
      obtain ⟨rfl, rfl⟩ := hs
      obtain ⟨g, cap, hk, e⟩ := hv.gs_inv h (by simp [liveB, hm])
      obtain ⟨r, hr, hb⟩ := h.κcell hm hz
      rw [hk] at hr; cases hr
      obtain ⟨vs, t1, t2⟩ := (at_blk hb).told
      exact ⟨_, _, vs, e, t1, .inr ⟨_, rfl, t2⟩⟩
  · cases hs

/-- behind an append: the new row is a place of its own -/
theorem app_new (h : MRel B S G) (hs : Nat → Bool) (d : Nat) {e sz n : Nat} {us : List AV} {vs : List Value} {ao : Option Addr} {ao' : Option Addr} {cap' : Nat} {w1 : World} (hgr : G.w.grownBy w1 (blk ao)) (hown : w1.ownsRow 0 e sz (.slice ao' n cap') n vs) (ht : Told G us vs)
    (hne : ao' ≠ none) (hblk : blk ao' = blk ao ∨ blk ao' = some G.w.heap.size) (hfree : ∀ g, blk ao = some g → ¬ G.I g ∧ (∀ k r, G.κ k = some r → r.1 ≠ g) ∧ g < G.w.heap.size ∧ (B.w.heap.size ≤ g ∨ ∃ k r', B.κ k = some r' ∧ r'.1 = g) ∧ ∀ ds, G.w.heap[g]? ≠ some (.deferred ds)) (h0 : 0 < sz) (hno : hOk (keyAt hs S d) us = true) :
    ∃ G', G'.w = w1 ∧ MRel B (S.new hs d ⟨e, sz, us⟩) G' ∧ LE G G' ∧ VR G' (.gs (keyAt hs S d) n) (.slice ao' n cap') := by
  obtain ⟨k1, k2, k3, k4⟩ := new_key hs S d ⟨e, sz, us⟩
  rcases hown.2 with ⟨h1, h2⟩ | ⟨g, cap, cur, hv, hb, hg, hn, hc, hcs, htk⟩
  · cases h1; exact absurd rfl hne
  · cases hv
    have hgI : ¬ G.I g ∧ (∀ k r, G.κ k = some r → r.1 ≠ g) ∧ (B.w.heap.size ≤ g ∨ ∃ k r', B.κ k = some r' ∧ r'.1 = g) := by
      rcases hblk with hq | hq
      · obtain ⟨a1, a2, a3, a4, _⟩ := hfree g (hq.symm.trans rfl); exact ⟨a1, a2, a4⟩
      · have e : g = G.w.heap.size := by simpa [blk] using hq
        subst e
        exact ⟨fun hI => absurd (h.lt _ hI) (Nat.lt_irrefl _), fun k r hr e => absurd (h.apart k r hr).2 (by omega), .inl h.size⟩
    have horg : B.w.heap.size ≤ g ∨ ∃ k r', B.κ k = some r' ∧ r'.1 = g := hgI.2.2
    have ht2 : vs = cur.toList.take (n * sz) := htk.symm
    have hvl : vs.length = n * sz := hown.1
    have hnc : n * sz ≤ cur.size := by rw [hcs]; exact Nat.mul_le_mul_right _ hn
    have hcat : ∀ j, j < n * sz → cur[j]? = vs[j]? := by
      intro j hj
      rw [ht2, List.getElem?_take, if_pos hj]; simp
    obtain ⟨G', e1, e2, e3, e4⟩ := h.add (fun q => blk ao = some q) (fun q hq => ⟨(hfree q hq).1, (hfree q hq).2.1, (hfree q hq).2.2.2.1⟩) (S' := S.new hs d ⟨e, sz, us⟩) (b := ⟨e, sz, us⟩) (g := g) (cap := cap') (w1 := w1) (cur := cur) hno k1 k2 k3 k4
      hgI.1 hgI.2.1 horg hgr.os hgr.tape hgr.output hgr.size (fun q hq _ hb => hgr.block q hq (fun e => hb e.symm)) (fun q hq ds => by
        rcases hq with rfl | hq
        · rcases hblk with hq | hq
          · exact (hfree q (hq.symm.trans rfl)).2.2.2.2 ds
          · have e : q = G.w.heap.size := by simpa [blk] using hq
            rw [e]; simp
        · exact (hfree q hq).2.2.2.2 ds) hg hcs hc h0 (by rw [← ht.1, hvl]; exact hnc)
      (fun j u x hu hx => by
        have hj : j < n * sz := by have := (List.getElem?_eq_some_iff.1 hu).1; simp only [] at this; rw [← ht.1, hvl] at this; exact this
        rw [hcat j hj] at hx
        exact ht.2.1 j u x hu hx)
      (fun j x hj hx => by
        have hj' : j < n * sz := by simp only [] at hj; rw [← ht.1, hvl] at hj; exact hj
        rw [hcat j hj'] at hx
        exact ht.2.2 x (List.mem_of_getElem? hx))
    exact ⟨G', e1, e3, e4, .gs _ _ _ _ e2⟩

theorem run_append {o : Oper} {x y : Operand} {t u : TypeId} (ho : o.op = .call { callee := .builtin .append, args := #[x, y], argTypes := #[t, u] }) {v v' : Value} {w' : World} (hx : a.eval x = v) {z : Value} (hy : a.eval y = z)
    (hr : (Builtin.append_ #[t, u] o.type #[v, z]).run P G.w = .ok v' w') : (execOp a.eval o).run P G.w = .ok (.value v') w' := by
  simp [execOp, ho, resolve, invoke, builtin, hx, hy, hr]

/-- where an append goes: what was there, the source's elements -/
inductive App (S : St) (hs : Nat → Bool) (d e sz : Nat) (m : Nat) (ys : List AV) (K : AV → St → Prop) : AV → Prop
  | nil0 (n : Nat) (xs : List AV) (hm : m = 0) (hK : K (.sl true 0 []) S) : App S hs d e sz m ys K (.sl true n xs)
  | nil (n : Nat) (xs : List AV) (hm : 0 < m) (hno : hOk (keyAt hs S d) ys = true) (hK : K (.gs (keyAt hs S d) m) (S.new hs d ⟨e, sz, ys⟩)) : App S hs d e sz m ys K (.sl true n xs)
  | own (k : Key) (n : Nat) (b : Blk) (hk : S.M k = some b) (he : b.e = e) (hsz : b.sz = sz) (hl : b.cells.length = n * sz) (hh : (∃ o, k = .h o) → hs d = true) (hno : hOk (keyAt hs (S.kill k) d) (b.cells ++ ys) = true) (hK : K (.gs (keyAt hs (S.kill k) d) (n + m)) ((S.kill k).new hs d ⟨e, sz, b.cells ++ ys⟩)) : App S hs d e sz m ys K (.gs k n)

theorem app_go (h : Rel B N S a G) (hs : Nat → Bool) {o : Oper} {d e sz m : Nat} {us : AV} {v : Value} {ys : List AV} {ysv : List Value} {K : AV → St → Prop} {next : Act → World → Prop} {Q : Exit → Act → World → Prop} (h0 : 0 < sz) (hv : VR G us v) (hys : Told G ys ysv) (hyl : ysv.length = m * sz) (hA : App S hs d e sz m ys K us)
    (hrun : ∀ (ao : Option Addr) (n cap : Nat) (xs : List Value), v = .slice ao n cap → n ≤ 1000000000 → G.w.ownsRow 0 e sz (.slice ao n cap) n xs →
      ∃ ao' cap' w', (execOp a.eval o).run P G.w = .ok (.value (.slice ao' (n + m) cap')) w' ∧ w'.ownsRow 0 e sz (.slice ao' (n + m) cap') (n + m) (xs ++ ysv) ∧ G.w.grownBy w' (blk ao) ∧ (blk ao' = blk ao ∨ blk ao' = some G.w.heap.size) ∧ (ao' = none ↔ ao = none ∧ m = 0))
    (hbnd : ∀ k n, us = .gs k n → n ≤ 1000000000) (hn : Nxt B N a o K next) : o.wp P a G.w next Q := by
  have _ := (inferInstance : GB P B)
  have hys0 : m = 0 → ys = [] := fun e0 => List.eq_nil_of_length_eq_zero (by rw [← hys.1, hyl, e0, Nat.zero_mul])
  cases hA with
  | nil0 n xs hm hK =>
    subst hm
    have e := hv.nsl_inv.1; subst e
    obtain ⟨ao', cap', w', r1, r2, r3, r4, r5⟩ := hrun none 0 0 [] rfl (by omega) (World.ownsRow_nil G.w 0 e sz)
    have hao : ao' = none := r5.2 ⟨rfl, rfl⟩
    subst hao
    have hcap : cap' = 0 := by
      rcases r2.2 with ⟨q, _⟩ | ⟨g, c, cur, q, _⟩
      · injection q
      · cases q
    subst hcap
    obtain ⟨G', e1, e2, e3⟩ := h.toMRel.grown0 r3
    refine wp_val r1 ?_
    have := hn _ _ _ G' hK (h.lift e2 e3 rfl) (.nsl _ _ _ rfl rfl)
    rw [e1] at this; exact this
  | nil n xs hm hno hK =>
    have e := hv.nsl_inv.1; subst e
    obtain ⟨ao', cap', w', r1, r2, r3, r4, r5⟩ := hrun none 0 0 [] rfl (by omega) (World.ownsRow_nil G.w 0 e sz)
    rw [Nat.zero_add] at r1 r2
    rw [List.nil_append] at r2
    have hne : ao' ≠ none := fun q => absurd (r5.1 q).2 (by omega)
    obtain ⟨G', e1, e2, e3, e4⟩ := app_new h.toMRel hs d r3 r2 hys hne r4 (fun g hg => by cases hg) h0 hno
    refine wp_val r1 ?_
    have := hn _ _ _ G' hK (h.lift e2 e3 (new_fr _ _ _ _)) e4
    rw [e1] at this; exact this
  | own k n b hk he hsz hl hh hno hK =>
    obtain ⟨g, cap, hkk, q0⟩ := hv.gs_inv h.toMRel (by simp [liveB, hk])
    obtain ⟨r, hr, hb⟩ := h.toMRel.κcell hk (by rw [hsz]; omega)
    rw [hkk] at hr; cases hr
    have hb' := hb
    obtain ⟨cur, c1, c2, c3, c4, c5, c6, c7⟩ := hb
    have hlc : n * sz ≤ cap * sz := by rw [← hl, ← hsz, ← c2]; exact c5
    have hnc : n ≤ cap := Nat.le_of_mul_le_mul_right hlc h0
    have htold : Told G b.cells (cur.toList.take (n * sz)) := by
      have hlt : (cur.toList.take (n * sz)).length = n * sz := by rw [List.length_take]; simp; rw [c2, hsz]; exact Nat.min_eq_left hlc
      refine ⟨by rw [hlt, hl], ?_, ?_⟩
      · intro j u x hu hx
        rw [List.getElem?_take] at hx
        split at hx
        · exact c6 j u x hu (by simpa using hx)
        · cases hx
      · intro x hx
        obtain ⟨j, hj⟩ := List.mem_iff_getElem?.1 hx
        rw [List.getElem?_take] at hj
        split at hj
        · rename_i hlt2
          exact c7 j x (by rw [hl]; exact hlt2) (by simpa using hj)
        · cases hj
    have hown : G.w.ownsRow 0 e sz (.slice (some ⟨g, 0, none⟩) n cap) n (cur.toList.take (n * sz)) := by
      refine ⟨by rw [htold.1, hl], .inr ⟨g, cap, cur, rfl, Nat.zero_le _, by rw [← he]; exact c1, hnc, c3, by rw [c2, hsz], rfl⟩⟩
    obtain ⟨ao', cap', w', r1, r2, r3, r4, r5⟩ := hrun (some ⟨g, 0, none⟩) n cap _ q0 (hbnd k n rfl) hown
    obtain ⟨G1, g1, _, g3, g4, g5⟩ := h.toMRel.kill false (S' := S.kill k) hkk rfl
    obtain ⟨g3a, g3b⟩ := g3 rfl
    have hap := h.toMRel.apart k _ hkk
    obtain ⟨G', e1, e2, e3, e4⟩ := app_new g4 hs d (ao := some ⟨g, 0, none⟩) (by rw [g1]; exact r3) r2 ((htold.append hys).le g5) (fun q => by have := r5.1 q; cases this.1) (by rw [g1]; exact r4) (fun q hq => by
      have : q = g := by simpa [blk] using hq.symm
      subst this
      refine ⟨by rw [g3a]; exact hap.1, g3b, by rw [g1]; exact hap.2, ?_, fun ds => by rw [g1, c1]; intro e; cases Option.some.inj e⟩
      cases k with
      | l d' c' => exact h.toMRel.loc d' c' _ hkk
      | h o' => rcases h.toMRel.heap o' _ hkk with hq2 | ⟨k2, r', p1, p2⟩
                · exact .inl hq2
                · exact .inr ⟨k2, r', p1, p2⟩) h0 hno
    refine wp_val r1 ?_
    have := hn _ _ _ G' hK (h.lift e2 (g5.trans e3) (by rw [new_fr]; rfl)) e4
    rw [e1] at this; exact this
end
end Go.AV

