/-
  Every operation is sound.
-/
import Derived.Test.YteoohihaibgplaaDoorAvB
namespace Go.AV
open Go.RowKit Go.RG Go.Lib

section
variable {P : Program} {B : Base} [GB P B] {N : Nat} {S : St} {a : Act} {G : Gh} {hs : Nat → Bool} {o : Oper} {K : AV → St → Prop} {next : Act → World → Prop} {Q : Exit → Act → World → Prop}

theorem trL_rs (h : Rel B N S a G) {l : List Operand} {us : List AOpd} (ht : trL P N l = some us) : VRs G (us.map (ev S.fr)) (l.map a.eval) := by
  obtain ⟨a1, a2⟩ := trL_ok h ht
  exact ⟨by simp [a1], a2⟩

theorem VRs.append {us ws : List AV} {vs xs : List Value} (h : VRs G us vs) (k : VRs G ws xs) : VRs G (us ++ ws) (vs ++ xs) := by
  refine ⟨by simp [h.1, k.1], ?_⟩
  intro j u x hu hx
  by_cases hj : j < us.length
  · rw [List.getElem?_append_left hj] at hu; rw [List.getElem?_append_left (by rw [h.1]; exact hj)] at hx; exact h.2 j u x hu hx
  · rw [List.getElem?_append_right (by omega)] at hu; rw [List.getElem?_append_right (by rw [h.1]; omega), h.1] at hx; exact k.2 _ u x hu hx

theorem s_box (h : Rel B N S a G) (hn : Nxt B N a o K next) {e sz : Nat} {x : Operand} {ux : AOpd} (ho : o.op = .box e x) (hx : trOpd P N x = some ux) {CA : Cal → List AV → St → (AV → St → Prop) → Prop} (hA : aop hs CA (.box e sz ux) o.dst S K) : o.wp P a G.w next Q := by
  obtain ⟨h1, h2, h3, h4, h5⟩ := hA
  exact m_box h hs (v := a.eval x) (by simp [execOp, ho, Instr.box, newVar, newRow]) (ev_ok h hx) h1 h2 h3 h4 h5 hn

theorem s_alloc (h : Rel B N S a G) (hn : Nxt B N a o K next) {e sz : Nat} {z : List AV} {g : Bool} (ho : o.op = .alloc e) (hg : aggSz P e = some (g, sz)) (hz : zeroOf P e = some z) {u : AV} (hu : u.cells = z) {CA : Cal → List AV → St → (AV → St → Prop) → Prop} (hA : aop hs CA (.box e sz (.c u)) o.dst S K) : o.wp P a G.w next Q := by
  have _ := (inferInstance : GB P B)
  obtain ⟨h1, h2, h3, h4, h5⟩ := hA
  obtain ⟨i, v, hi, hzv, hc⟩ := zeroOf_ok (G := G) hz
  have hev : ev S.fr (.c u) = u := rfl
  rw [hev] at h1 h2 h4 h5
  obtain ⟨G', e1, e2, e3⟩ := m_new h hs (site o.dst) (b := ⟨e, sz, u.cells⟩) (w1 := G.w.alloc (.cells v.cells e)) (cur := v.cells) (cap := 1) rfl rfl rfl rfl (by rw [hc.len, ← hu, h1, Nat.one_mul]) (by decide) h3 (by rw [hu]; exact hc) h4
  refine wp_val (v := .pointer (some ⟨G.w.heap.size, 0, none⟩)) (w' := G.w.alloc (.cells v.cells e)) ?_ ?_
  · simp [execOp, ho, Instr.alloc, zeroValue, typeInfo, hi, hzv, newVar, newRow]
  · have := hn _ _ _ G' h5 e3 (.pt _ _ _ _ e2)
    rw [e1] at this; exact this

theorem s_app (h : Rel B N S a G) (hn : Nxt B N a o K next) {x y : Operand} {t u e e' : TypeId} {i : TypeInfo} {ux uy : AOpd} (ho : o.op = .call { callee := .builtin .append, args := #[x, y], argTypes := #[t, u] }) (ht : P.underlying t = some (.slice e)) (hu : P.underlying u = some (.slice e')) (hi : P.info? e = some i)
    (hz : ∃ z, i.zero = some z ∧ z.cells.size = i.size) (hx : trOpd P N x = some ux) (hy : trOpd P N y = some uy) {CA : Cal → List AV → St → (AV → St → Prop) → Prop} (hA : aop hs CA (.app e i.size i.bytes ux uy) o.dst S K) : o.wp P a G.w next Q := by
  obtain ⟨h0, hb, hA⟩ := hA
  obtain ⟨⟨m, ys⟩, hsrc, hl, hm, hA⟩ := wpv_out hA
  obtain ⟨bo, c, vs, e1, t1, t2⟩ := srcA_ok h.toMRel (ev_ok h hy) hsrc
  obtain ⟨hApp, hbnd⟩ := app_of hA
  obtain ⟨z, hz1, hz2⟩ := hz
  simp only [] at hl hm
  have hE : Elem P t e i.size i.bytes := ⟨ht, ⟨i, z, hi, hz1, rfl, rfl, hz2⟩, h0⟩
  have hvl : vs.length = m * i.size := by rw [t1.1]; exact hl
  refine app_go h hs h0 (ev_ok h hx) t1 hvl hApp ?_ hbnd hn
  intro ao n cap xs hv hn9 hown
  obtain ⟨ao', cap', w', r1, r2, r3, r4, r5⟩ := run_app (ty := o.type) hE hown hvl t2 t1.2.2 (by unfold maxLen; omega) (by
    have : (n + m) * i.bytes ≤ 1400000000 * 100000 := Nat.mul_le_mul (by omega) hb
    omega) (Nat.zero_le _)
  refine ⟨ao', cap', w', ?_, r2, r3, r4, r5⟩
  have hr : (Builtin.append_ #[t, u] o.type #[.slice ao n cap, .slice bo m c]).run P G.w = .ok (.slice ao' (n + m) cap') w' := by rw [append_types ht hu]; exact r1
  exact run_append ho hv e1 hr

theorem s_apps (h : Rel B N S a G) (hn : Nxt B N a o K next) {x y : Operand} {t u e : TypeId} {i : TypeInfo} {ux uy : AOpd} (ho : o.op = .call { callee := .builtin .append, args := #[x, y], argTypes := #[t, u] }) (ht : P.underlying t = some (.slice e)) (hu : P.underlying u = some .string) (hi : P.info? e = some i)
    (hz : i.zero = some (.int .u8 0)) (hsz : i.size = 1) (hby : i.bytes = 1) (hx : trOpd P N x = some ux) (hy : trOpd P N y = some uy) {CA : Cal → List AV → St → (AV → St → Prop) → Prop} (hA : aop hs CA (.apps e ux uy) o.dst S K) : o.wp P a G.w next Q := by
  have ry := ev_ok h hy
  simp only [aop] at hA
  split at hA
  · rename_i l e1
    rw [e1] at ry
    obtain ⟨s, q0, q1⟩ := ry.st_inv
    obtain ⟨hl, hA⟩ := hA
    obtain ⟨hApp, hbnd⟩ := app_of hA
    have hsl : s.size = l.length := by rw [← q1]; simp
    have ht1 : Told G (encB l) (strCells s) := by rw [← q1]; exact encB_told s
    refine app_go h hs (by omega) (ev_ok h hx) ht1 (by rw [strCells_length, hsl, Nat.mul_one]) hApp ?_ hbnd hn
    intro ao n cap xs hv hn9 hown
    obtain ⟨ao', cap', w', r1, r2, r3, r4, r5⟩ := run_app_str (P := P) (ty := o.type) ht hu hi hz hsz hby hown s (by unfold maxLen; omega) (by omega) (Nat.zero_le _)
    rw [hsl] at r1 r2 r5
    exact ⟨ao', cap', w', run_append ho hv q0 r1, r2, r3, r4, r5⟩
  · exact hA.elim

theorem s_b2s (h : Rel B N S a G) (hn : Nxt B N a o K next) {src dst e : TypeId} {x : Operand} {ux : AOpd} (ho : o.op = .convert src dst x) (hs' : P.underlying src = some (.slice e)) (he : P.underlying e = some (.int .u8)) (hd : P.underlying dst = some .string) (hx : trOpd P N x = some ux)
    {CA : Cal → List AV → St → (AV → St → Prop) → Prop} (hA : aop hs CA (.b2s ux) o.dst S K) : o.wp P a G.w next Q := by
  have rx := ev_ok h hx
  simp only [aop] at hA
  split at hA
  · rename_i z n xs e1; rw [e1] at rx
    obtain ⟨hl, hA⟩ := hA
    obtain ⟨l, hb, hK⟩ := wpv_out hA
    rcases rx.sl_inv with ⟨q, hn0, hx0⟩ | ⟨_, hn0, hx0, ad, cap, q0⟩ | ⟨_, b, off, cap, f, q0, q1, q2, q3, q4, q5, q6, q7⟩
    rotate_left
    · subst hn0; subst hx0
      simp only [bytesA, Option.some.injEq] at hb; subst hb
      refine wp_val (v := .string ByteArray.empty) (w' := G.w) ?_ (hn (.st []) _ S G hK h (.st _ _ rfl))
      have : (convert src dst (.slice (some ad) 0 cap)).run P G.w = .ok (.string ByteArray.empty) G.w := by
        rw [run_convert_bytes_string G.w src dst e _ 0 cap hs' he hd, run_bytesToString G.w ad 0 cap [] (by simp [loadCells]; rfl)]
        rfl
      simp only [execOp, ho, q0, Sem.run_bind, this, Result.andThen_ok, Sem.run_pure]
    rotate_left
    · subst hn0; subst hx0
      simp only [bytesA, Option.some.injEq] at hb; subst hb
      refine wp_val (v := .string ByteArray.empty) (w' := G.w) ?_ (hn (.st []) _ S G hK h (.st _ _ rfl))
      have := run_convert_bytes_nil (P := P) G.w src e hs' he 0 0 dst hd
      simp only [execOp, ho, q, Sem.run_bind, this, Result.andThen_ok, Sem.run_pure]
    obtain ⟨v, hr, hv⟩ := y_b2s h ho hs' he hd q0 (fun j u hu => ⟨f j, q2 j u hu, q3 j u hu, q4 j u hu⟩) hl hb
    exact wp_val hr (hn _ v S G hK h hv)
  · rename_i k n e1; rw [e1] at rx
    obtain ⟨bk, hm, hz, hl, hA⟩ := wpv_out hA
    obtain ⟨l, hb, hK⟩ := wpv_out hA
    obtain ⟨g, cap, hk, q0⟩ := rx.gs_inv h.toMRel (by simp [liveB, hm])
    obtain ⟨r, hr, hbk⟩ := h.toMRel.κcell hm hz
    rw [hk] at hr; cases hr
    obtain ⟨v, hr, hv⟩ := y_b2s h ho hs' he hd q0 (at_blk hbk) hl hb
    exact wp_val hr (hn _ v S G hK h hv)
  · exact hA.elim

theorem s_mks (h : Rel B N S a G) (hn : Nxt B N a o K next) {t e : TypeId} {i : TypeInfo} {z : List AV} {l c : Operand} {ul uc : AOpd} (ho : o.op = .makeSlice t l c) (ht : P.underlying t = some (.slice e)) (hi : P.info? e = some i) (hz : zeroOf P e = some z) (hl : trOpd P N l = some ul) (hc : trOpd P N c = some uc)
    {CA : Cal → List AV → St → (AV → St → Prop) → Prop} (hA : aop hs CA (.mks e i.size i.bytes z ul uc) o.dst S K) : o.wp P a G.w next Q := by
  simp only [aop] at hA
  split at hA
  · rename_i k1 n k2 m e1 e2
    obtain ⟨h1, h2, h3, h4, h5, h6, h7, h8⟩ := hA
    subst h1
    obtain ⟨n', rfl⟩ := Int.eq_ofNat_of_zero_le h2
    simp only [Int.toNat_natCast] at h5 h7 h8
    exact m_mks h hs ho ht hi hz hl hc rfl e1 e2 h4 h3 h5 (by unfold maxLen; omega) h7 h8 hn
  · exact hA.elim

theorem s_ld (h : Rel B N S a G) (hn : Nxt B N a o K next) {t : TypeId} {x : Operand} {ux : AOpd} {g : Bool} {sz : Nat} (ho : o.op = .load t x) (hx : trOpd P N x = some ux) (hsz : aggSz P t = some (g, sz)) {CA : Cal → List AV → St → (AV → St → Prop) → Prop} (hA : aop hs CA (.ld g sz ux) o.dst S K) : o.wp P a G.w next Q := by
  obtain ⟨⟨us, off⟩, ht, hA⟩ := wpv_out hA
  obtain ⟨u, hu, hK⟩ := wpv_out hA
  obtain ⟨v, hr, hv⟩ := m_ld h ho hx hsz ht hu
  exact wp_val hr (hn _ v S G hK h hv)

theorem s_sto (h : Rel B N S a G) (hn : Nxt B N a o K next) {t : TypeId} {x y : Operand} {ux uy : AOpd} {sz : Nat} (ho : o.op = .store t x y) (hx : trOpd P N x = some ux) (hy : trOpd P N y = some uy) (hsz : szOf P t = some sz) {CA : Cal → List AV → St → (AV → St → Prop) → Prop} (hA : aop hs CA (.sto sz ux uy) o.dst S K) : o.wp P a G.w next Q := by
  simp only [aop] at hA
  split at hA
  · rename_i k off e1
    obtain ⟨b, hm, h0, h1, h2, h3, h4, h5⟩ := wpv_out hA
    exact m_sto h ho hx hy hsz e1 hm h0 h1 h2 h3 h4 h5 hn
  · exact hA.elim

theorem s_call (h : Rel B N S a G) (hn : Nxt B N a o K next) {f : FuncId} {args : Array Operand} {ats : Array TypeId} {us : List AOpd} (ho : o.op = .call { callee := .value (.func f), args := args, argTypes := ats }) (hl : trL P N args.toList = some us)
    (hA : aop hs (CallsA P) (.call f us) o.dst S K) : o.wp P a G.w next Q := by
  refine of_calls h hn (f := f) (vs := args.map a.eval) ?_ (by simpa using trL_rs h hl) hA
  simp [execOp, ho, resolve, Deferred.ofValue, Act.eval, invoke]

theorem s_calv (h : Rel B N S a G) (hn : Nxt B N a o K next) {x : Operand} {args : Array Operand} {ats : Array TypeId} {ux : AOpd} {us : List AOpd} (ho : o.op = .call { callee := .value x, args := args, argTypes := ats }) (hx : trOpd P N x = some ux) (hl : trL P N args.toList = some us)
    (hny : ∀ q, ev S.fr ux ≠ .yld q) (hA : aop hs (CallsA P) (.calv ux us) o.dst S K) : o.wp P a G.w next Q := by
  have rx := ev_ok h hx
  simp only [aop] at hA
  split at hA
  · rename_i f p c e1
    rw [e1] at rx
    obtain ⟨vp, vc, q0, q1, q2, q3, q4⟩ := rx.fn_inv
    refine of_calls h hn (f := f) (vs := vp ++ args.map a.eval ++ vc) ?_ ?_ hA
    · simp [execOp, ho, resolve, Deferred.ofValue, q0, invoke]
    · have r1 : VRs G p vp.toList := ⟨by simpa using q1, fun j u x a b => q3 j u x a (by simpa using b)⟩
      have r2 : VRs G c vc.toList := ⟨by simpa using q2, fun j u x a b => q4 j u x a (by simpa using b)⟩
      simpa using (r1.append (trL_rs h hl)).append r2
  · rename_i q e1; exact absurd e1 (hny q)
  · exact hA.elim

theorem s_sll (h : Rel B N S a G) (hn : Nxt B N a o K next) {t e : TypeId} {sz : Nat} {x : Operand} {lo hi : Option Operand} {ux : AOpd} {ulo uhi : Option AOpd} (ho : o.op = .slice t x lo hi none) (ht : P.underlying t = some (.slice e)) (hsz : szOf P e = some sz) (hx : trOpd P N x = some ux) (hlo : trO P N lo = some ulo) (hhi : trO P N hi = some uhi)
    {CA : Cal → List AV → St → (AV → St → Prop) → Prop} (hA : aop hs CA (.sll sz ux ulo uhi) o.dst S K) : o.wp P a G.w next Q := by
  have rx := ev_ok h hx
  simp only [aop] at hA
  split at hA
  · rename_i k n e1
    rw [e1] at rx
    unfold cutR at hA
    split at hA
    · rename_i q e3 e2
      obtain ⟨b, hm, h1, h2, h3, h4, h5, h6, hK⟩ := wpv_out hA
      obtain ⟨g, cap, hk, q0⟩ := rx.gs_inv h.toMRel (by simp [liveB, hm])
      obtain ⟨r, hr, hb⟩ := h.toMRel.κcell hm (by omega)
      rw [hk] at hr; cases hr
      obtain ⟨cur, c1, c2, c3, c4, c5, c6, c7⟩ := hb
      simp only at c1 c2 c3 c5
      have hnc : n ≤ cap := by
        have : n * sz ≤ cap * sz := by rw [← h1, ← c2]; rw [h1]; exact Nat.le_trans h5 c5
        exact Nat.le_of_mul_le_mul_right this h2
      have b1 := run_bnd h hlo e3
      have b2 := run_bnd h hhi e2
      have hsb := run_sb (P := P) true n cap hnc (lo := lo.map a.eval) (hi := hi.map a.eval) (by rcases b1 with ⟨e, f⟩ | b1; exact .inl ⟨by rw [e]; rfl, f⟩; exact .inr b1) (by rcases b2 with ⟨e, f⟩ | b2; exact .inl ⟨by rw [e]; rfl, f⟩; exact .inr b2) (Int.le_refl 0) h3 h4 G.w
      have hrun : (execOp a.eval o).run P G.w = .ok (.value (.slice (some ⟨g, 0, none⟩) q.toNat cap)) G.w := by
        by_cases hcp : cap = 0
        · subst hcp
          simp only [execOp, ho, q0, Instr.sliceAt, Instr.slice]
          simp [run_underlying ht, hsb, run_size hsz]
        · simp only [execOp, ho, q0, Instr.sliceAt, Instr.slice]
          simp [run_underlying ht, hsb, run_size hsz, hcp, addr_add]
      obtain ⟨G', g1, g2, g3⟩ := h.toMRel.setG (S' := S.setM k { b with cells := b.cells.take (q.toNat * sz) }) (b' := { b with cells := b.cells.take (q.toNat * sz) }) (w1 := G.w) h6 hk hm rfl rfl rfl rfl rfl (fun _ _ => rfl) (fun G' hle hw => by
        refine (BlkOpt.cell (by simp only; omega)).2 ⟨cur, by rw [hw]; exact c1, c2, c3, c4, ?_, ?_, ?_⟩
        · simp only; rw [List.length_take]; omega
        · intro j u x p r
          simp only at p
          rw [List.getElem?_take] at p
          split at p
          · exact (c6 j u x p r).le hle
          · cases p
        · intro j x p r
          refine c7 j x ?_ r
          simp only at p
          rw [List.length_take] at p; omega)
      have hκ : G'.κ k = some (g, cap) := by
        rcases g3.κ k _ hk with hq | hq
        · exact hq
        · have := ((g2.dead k).1 hq).1
          simp [St.setM, updK] at this
      refine wp_val hrun ?_
      have := hn _ _ _ G' hK (h.lift g2 g3 rfl) (.gs k q.toNat g cap hκ)
      rw [g1] at this; exact this
    · exact hA.elim
  · exact of_y h hn (u := .sll sz ux ulo uhi) hA fun v hv => y_sll h ho ht hsz hx hlo hhi hv
end
end Go.AV

