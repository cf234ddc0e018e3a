/-
  Operations on memory: a new place, a load, a store, append, bytes to a text.
-/
import Derived.Test.YteoohihaibgplaaDoorAvF
import Derived.Lib.SlBytesConst
import Derived.Laws.BytesArg
import Derived.Great.BuildSlice
namespace Go.AV
open Go.RowKit Go.RG

/-- a place of a frame's own, or an object -/
def keyAt (hs : Nat → Bool) (S : St) (d : Nat) : Key := if hs d then .h S.nx else .l d (S.cnt d + 1)
def St.new (hs : Nat → Bool) (S : St) (d : Nat) (b : Blk) : St :=
  if hs d then { S with M := updK S.M (.h S.nx) (some b), nx := S.nx + 1 } else { S with M := updK S.M (.l d (S.cnt d + 1)) (some b), cnt := upd S.cnt d (S.cnt d + 1) }
def St.kill (S : St) (k : Key) : St := { S with M := updK S.M k none }
def St.setM (S : St) (k : Key) (b : Blk) : St := { S with M := updK S.M k (some b) }

theorem new_fr (hs : Nat → Bool) (S : St) (d : Nat) (b : Blk) : (S.new hs d b).fr = S.fr := by unfold St.new; split <;> rfl
theorem new_key (hs : Nat → Bool) (S : St) (d : Nat) (b : Blk) : ¬ keyOld S (keyAt hs S d) ∧ (S.new hs d b).M = updK S.M (keyAt hs S d) (some b) ∧ (∀ k, keyOld (S.new hs d b) k ↔ keyOld S k ∨ k = keyAt hs S d) ∧ S.nx ≤ (S.new hs d b).nx := by
  unfold keyAt St.new
  by_cases h : hs d = true
  · simp only [h, if_true]
    refine ⟨by simp [keyOld], trivial, fun k => ?_, by simp⟩
    cases k with
    | l d' c => simp [keyOld]
    | h o => simp [keyOld]; omega
  · simp only [h, if_false, Bool.false_eq_true]
    refine ⟨by simp [keyOld], trivial, fun k => ?_, Nat.le_refl _⟩
    cases k with
    | l d' c =>
      by_cases e : d' = d
      · subst e; simp [keyOld, upd]; omega
      · simp [keyOld, upd, e]
    | h o => simp [keyOld]

section
variable {P : Program} {B : Base} [GB P B] {N : Nat} {S : St} {a : Act} {G : Gh}

theorem Rel.lift {S' : St} {G' : Gh} (h : Rel B N S a G) (hM : MRel B S' G') (hle : LE G G') (hf : S'.fr = S.fr) : Rel B N S' a G' :=
  { hM with defers := h.defers.le hle, tsize := h.tsize, slot := fun t v hv => by rw [hf]; exact (h.slot t v hv).le hle }

/-- what the walk goes on with -/
def Nxt (B : Base) (N : Nat) (a : Act) (o : Oper) (K : AV → St → Prop) (next : Act → World → Prop) : Prop := ∀ av v S' G', K av S' → Rel B N S' a G' → VR G' av v → next (a.put o.dst v) G'.w

theorem wp_val {o : Oper} {next : Act → World → Prop} {Q : Exit → Act → World → Prop} {v : Value} {w w' : World} (hr : (execOp a.eval o).run P w = .ok (.value v) w') (h : next (a.put o.dst v) w') : o.wp P a w next Q := by
  unfold Oper.wp; rw [hr]; exact h
theorem wp_skp {o : Oper} {next : Act → World → Prop} {Q : Exit → Act → World → Prop} {w w' : World} (hr : (execOp a.eval o).run P w = .ok .skip w') (h : next (a.put o.dst undef) w') : o.wp P a w next Q := by
  unfold Oper.wp; rw [hr]; exact h

/-- a new block of so many cells, all of which are told -/
theorem m_new (h : Rel B N S a G) (hs : Nat → Bool) (d : Nat) {b : Blk} {w1 : World} {cur : Array Value} {cap : Nat} (hw : w1.heap = G.w.heap.push (.cells cur b.e (0, 0))) (hos : w1.os = G.w.os) (htape : w1.tape = G.w.tape) (hout : w1.output = G.w.output)
    (hcs : cur.size = cap * b.sz) (hcap : cap ≤ maxLen) (hbs : 0 < b.sz) (hc : Cells G b.cells cur) (hno : hOk (keyAt hs S d) b.cells = true) :
    ∃ G', G'.w = w1 ∧ G'.κ (keyAt hs S d) = some (G.w.heap.size, cap) ∧ Rel B N (S.new hs d b) a G' := by
  obtain ⟨k1, k2, k3, k4⟩ := new_key hs S d b
  have hold : ∀ q, q < G.w.heap.size → w1.heap[q]? = G.w.heap[q]? := fun q hq => by rw [hw, Array.getElem?_push, if_neg (by omega)]
  obtain ⟨G', e1, e2, e3, e4⟩ := h.toMRel.add (fun _ => False) (fun _ f => f.elim) (S' := S.new hs d b) (b := b) (g := G.w.heap.size) (cap := cap) (w1 := w1) (cur := cur) hno k1 k2 k3 k4 (fun hI => absurd (h.lt _ hI) (Nat.lt_irrefl _)) (fun k r hr e => absurd (h.apart k r hr).2 (by omega))
    (.inl h.size) hos htape hout (by rw [hw]; simp) (fun q hq _ _ => hold q hq) (fun q hq ds => by rcases hq with rfl | hq; simp; exact hq.elim) (by rw [hw]; simp) hcs hcap hbs (by rw [hc.len]; exact Nat.le_refl _) hc.vr (fun j x _ hx => hc.one j x hx)
  exact ⟨G', e1, e2, h.lift e3 e4 (new_fr _ _ _ _)⟩

theorem m_box (h : Rel B N S a G) (hs : Nat → Bool) {o : Oper} {e sz d : Nat} {v : Value} {u : AV} (hr : (execOp a.eval o).run P G.w = .ok (.value (.pointer (some ⟨G.w.heap.size, 0, none⟩))) (G.w.alloc (.cells v.cells e))) (hv : VR G u v)
    (hl : u.cells.length = sz) (h1 : u.cells.all AV.one = true) (h0 : 0 < sz) (hno : hOk (keyAt hs S d) u.cells = true) {K : AV → St → Prop} {next : Act → World → Prop} {Q : Exit → Act → World → Prop} (hK : K (.pt (keyAt hs S d) 0) (S.new hs d ⟨e, sz, u.cells⟩)) (hn : Nxt B N a o K next) : o.wp P a G.w next Q := by
  have _ := (inferInstance : GB P B)
  have hc := hv.cells h1
  obtain ⟨G', e1, e2, e3⟩ := m_new h hs d (b := ⟨e, sz, u.cells⟩) (w1 := G.w.alloc (.cells v.cells e)) (cur := v.cells) (cap := 1) rfl rfl rfl rfl (by rw [hc.len, hl, Nat.one_mul]) (by decide) h0 hc hno
  refine wp_val hr ?_
  have := hn _ _ _ G' hK e3 (.pt _ _ _ _ e2)
  rw [e1] at this; exact this

/-- so many zero values -/
def zerosL (z : List AV) (n : Nat) : List AV := (List.replicate n z).flatten

theorem zerosL_len (z : List AV) (n : Nat) : (zerosL z n).length = n * z.length := by simp [zerosL]
theorem zerosL_get (z : List AV) (n j : Nat) (h : j < n * z.length) : (zerosL z n)[j]? = z[j % z.length]? := by
  induction n generalizing j with
  | zero => simp at h
  | succ n ih =>
    have e : zerosL z (n + 1) = z ++ zerosL z n := by simp [zerosL, List.replicate_succ]
    rw [e]
    by_cases hj : j < z.length
    · rw [List.getElem?_append_left hj, Nat.mod_eq_of_lt hj]
    · rw [Nat.add_mul, Nat.one_mul] at h
      rw [List.getElem?_append_right (by omega), ih (j - z.length) (by omega), Nat.mod_eq_sub_mod (a := j) (by omega)]

theorem zeros_cells {z : List AV} {zs : Array Value} (hc : Cells G z zs) (n : Nat) (hp : 0 < z.length) : Cells G (zerosL z n) ((Array.range (n * z.length)).map (zs[· % zs.size]!)) := by
  have hat : ∀ j, j < n * z.length → ((Array.range (n * z.length)).map (zs[· % zs.size]!))[j]? = zs[j % z.length]? := by
    intro j hj
    have hm : j % z.length < zs.size := by rw [hc.len]; exact Nat.mod_lt _ hp
    rw [Array.getElem?_map, Array.getElem?_range]
    simp only [hj, if_true, Option.map_some, hc.len]
    rw [getElem!_pos zs _ hm, Array.getElem?_eq_getElem hm]
  refine ⟨by simp [zerosL_len], ?_, ?_⟩
  · intro j u x hu hx
    have hj : j < n * z.length := by have := (List.getElem?_eq_some_iff.1 hu).1; rwa [zerosL_len] at this
    rw [zerosL_get z n j hj] at hu
    rw [hat j hj] at hx
    exact hc.vr _ u x hu hx
  · intro j x hx
    have hj : j < n * z.length := by have := (Array.getElem?_eq_some_iff.1 hx).1; simpa using this
    rw [hat j hj] at hx
    exact hc.one _ x hx

theorem m_bsl (h : Rel B N S a G) (hs : Nat → Bool) {o : Oper} {t e sz d len : Nat} {parts : Array (Nat × Operand)} {z cs : List AV} {up : List (Nat × Nat × AOpd)} (ho : o.op = .buildSlice t len parts) (ht : P.underlying t = some (.slice e)) (hsz : szOf P e = some sz) (hz : zeroOf P e = some z)
    (hp : trParts P N (fun i => some (i * sz, sz)) parts.toList = some up) (hf : fillA (zerosL z len) (up.map fun p => (p.1, p.2.1, ev S.fr p.2.2)) = some cs) (h0 : 0 < sz) (hzl : z.length = sz) (hlen : len * sz ≤ 16777216) (hno : hOk (keyAt hs S d) (cs.map weak) = true)
    {K : AV → St → Prop} {next : Act → World → Prop} {Q : Exit → Act → World → Prop} (hK : K (.gs (keyAt hs S d) len) (S.new hs d ⟨e, sz, cs.map weak⟩)) (hn : Nxt B N a o K next) : o.wp P a G.w next Q := by
  obtain ⟨ie, zv, hie, hzv, hc⟩ := zeroOf_ok (G := G) hz
  have hsi : ie.size = sz := by unfold szOf at hsz; rw [hie] at hsz; simpa using hsz
  have hc0 := zeros_cells hc len (by omega)
  obtain ⟨res, r1, r2⟩ := fillA_ok h _ parts.toList up _ _ cs hp hf hc0
  have hzs : zv.cells.size = sz := by rw [hc.len, hzl]
  have hrun : (Instr.buildSlice t len (parts.map fun (i, x) => (i, a.eval x))).run P G.w = .ok (.slice (some ⟨G.w.heap.size, 0, none⟩) len len) (G.w.alloc (.cells res e)) := by
    by_cases hl0 : len = 0
    · subst hl0
      have hr : Instr.fill (fun i => some (i * ie.size, ie.size)) (#[] : Array Value) (parts.map fun (i, x) => (i, a.eval x)).toList = some res := by
        rw [← r1, hsi]
        have : (Array.range (0 * z.length)).map (zv.cells[· % zv.cells.size]!) = #[] := by rw [Nat.zero_mul, Array.range_zero', Array.map_empty]
        rw [this]; simp
      simp [Instr.buildSlice, run_underlying ht, sizeOf, typeInfo, hie]
      simp at hr
      have h00 : (Array.range 0).map (fun _ => (default : Value)) = #[] := by rw [Array.range_zero', Array.map_empty]
      simp [hr, newRow, h00]
    · refine run_buildSlice G.w t e len _ res ie zv ht hie hzv (by rw [hsi]; omega) (by rw [hsi]; have := Nat.mul_pos (Nat.pos_of_ne_zero hl0) h0; omega) ?_
      rw [← r1, hsi, hzl]
      simp
  have hcsl : cs.length = len * sz := by
    have : ∀ (ps : List (Nat × Nat × AV)) (us res : List AV), fillA us ps = some res → res.length = us.length := by
      intro ps
      induction ps with
      | nil => intro us res hh; simp only [fillA, Option.some.injEq] at hh; rw [hh]
      | cons p ps ih =>
        intro us res hh
        obtain ⟨off, s, v⟩ := p
        simp only [fillA] at hh
        split at hh
        · rename_i hcnd
          rw [ih _ _ hh]; simp; omega
        · cases hh
    rw [this _ _ _ hf, zerosL_len, hzl]
  obtain ⟨G', e1, e2, e3⟩ := m_new h hs d (b := ⟨e, sz, cs.map weak⟩) (w1 := G.w.alloc (.cells res e)) (cur := res) (cap := len) rfl rfl rfl rfl (by rw [r2.len, hcsl]) (by unfold maxLen; have : len ≤ len * sz := Nat.le_mul_of_pos_right _ h0; omega) h0 ⟨by rw [List.length_map]; exact r2.len, fun j u x hu hx => by rw [List.getElem?_map] at hu; obtain ⟨w, q1, q2⟩ := Option.map_eq_some_iff.1 hu; rw [← q2]; exact (r2.vr j w x q1 hx).weak, r2.one⟩ hno
  refine wp_val (v := .slice (some ⟨G.w.heap.size, 0, none⟩) len len) (w' := G.w.alloc (.cells res e)) (by simp only [execOp, ho, Sem.run_bind, hrun, Result.andThen_ok, Sem.run_pure]) ?_
  have := hn _ _ _ G' hK e3 (.gs _ _ _ _ e2)
  rw [e1] at this; exact this

theorem m_mks (h : Rel B N S a G) (hs : Nat → Bool) {o : Oper} {t e sz d : Nat} {l c : Operand} {ul uc : AOpd} {z : List AV} {i : TypeInfo} {kl kc : IntKind} {n : Nat} (ho : o.op = .makeSlice t l c) (ht : P.underlying t = some (.slice e)) (hi : P.info? e = some i) (hz : zeroOf P e = some z)
    (hl : trOpd P N l = some ul) (hcc : trOpd P N c = some uc) (hsz : i.size = sz) (e1 : ev S.fr ul = .it kl n) (e2 : ev S.fr uc = .it kc n) (h0 : 0 < sz) (hzl : z.length = sz) (hb : i.bytes * n ≤ 281474976710656) (hm : n ≤ maxLen) (hno : hOk (keyAt hs S d) (zerosL z n) = true)
    {K : AV → St → Prop} {next : Act → World → Prop} {Q : Exit → Act → World → Prop} (hK : K (.gs (keyAt hs S d) n) (S.new hs d ⟨e, sz, zerosL z n⟩)) (hn : Nxt B N a o K next) : o.wp P a G.w next Q := by
  obtain ⟨ie, zv, hie, hzv, hc⟩ := zeroOf_ok (G := G) hz
  rw [hi] at hie; cases hie
  have r1 := ev_ok h hl; rw [e1] at r1
  have r2 := ev_ok h hcc; rw [e2] at r2
  have hc0 := zeros_cells hc n (by omega)
  have hzs : zv.cells.size = sz := by rw [hc.len, hzl]
  have hm' : (n : Int) ≤ 9223372036854775807 := by unfold maxLen at hm; omega
  have hrun := run_make (P := P) G.w t e i zv ht hi hzv kl kc (n : Int) (n : Int) (by omega) (by omega) (by rw [← Int.natCast_mul]; exact Int.ofNat_le.2 hb) hm'
  simp only [Int.toNat_natCast, hsz] at hrun
  obtain ⟨G', q1, q2, q3⟩ := m_new h hs d (b := ⟨e, sz, zerosL z n⟩) (w1 := G.w.alloc (.cells (madeCells zv.cells (n * sz)) e)) (cur := madeCells zv.cells (n * sz)) (cap := n) rfl rfl rfl rfl (by simp [madeCells]) hm h0 (by rw [hzl] at hc0; exact hc0) hno
  refine wp_val (v := .slice (some ⟨G.w.heap.size, 0, none⟩) n n) (w' := G.w.alloc (.cells (madeCells zv.cells (n * sz)) e)) (by simp only [execOp, ho, r1.it_inv, r2.it_inv, Sem.run_bind, hrun, Result.andThen_ok, Sem.run_pure]) ?_
  have := hn _ _ _ G' hK q3 (.gs _ _ _ _ q2)
  rw [q1] at this; exact this
end
end Go.AV

