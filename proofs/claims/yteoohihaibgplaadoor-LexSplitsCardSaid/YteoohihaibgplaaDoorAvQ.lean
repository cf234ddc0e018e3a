/-
  Operations that only compute a value: equality, literals, least and greatest.
-/
import Derived.Test.YteoohihaibgplaaDoorAvP
namespace Go.AV
open Go.RowKit Go.RG

section
variable {P : Program} {B : Base} [GB P B] {N : Nat} {S : St} {a : Act} {G : Gh}

/-- what two values that may be held against each other look like -/
inductive EqShape : Value → Value → Prop
  | b (p q : Bool) : EqShape (.bool p) (.bool q)
  | i (k : IntKind) (p q : Int) : EqShape (.int k p) (.int k q)
  | s (p q : ByteArray) : EqShape (.string p) (.string q)
  | p (p q : Option Addr) : EqShape (.pointer p) (.pointer q)
  | l (p q : Option Addr) (n m c d : Nat) : EqShape (.slice p n c) (.slice q m d)

theorem eq1_shape {u v : AV} {x y : Value} {b : Bool} {kind : Nat} (hu : VR G u x) (hv : VR G v y) (he : eq1 kind u v = some b) : EqShape x y := by
  unfold eq1 at he
  split at he
  · have e1 := hu.bl_inv; have e2 := hv.bl_inv; subst e1; subst e2; exact .b _ _
  · split at he
    · rename_i hk; subst hk
      have e1 := hu.it_inv; have e2 := hv.it_inv; subst e1; subst e2; exact .i _ _ _
    · cases he
  · obtain ⟨s, e1, h1⟩ := hu.st_inv; obtain ⟨s', e2, h2⟩ := hv.st_inv; subst e1; subst e2; exact .s _ _
  · cases he

theorem eqP_shape (h : MRel B S G) {u v : AV} {x y : Value} {b : Bool} {kind : Nat} (hu : VR G u x) (hv : VR G v y) (he : eqP (liveB S) kind u v = some b) : EqShape x y := by
  unfold eqP at he
  split at he
  · split at he
    · have e1 := hu.nptr_inv; have e2 := hv.nptr_inv; subst e1; subst e2; exact .p _ _
    · obtain ⟨bb, base, f, e2, _⟩ := hv.ep_inv
      have e1 := hu.nptr_inv; subst e1; subst e2; exact .p _ _
    · obtain ⟨bb, base, f, e2, _⟩ := hu.ep_inv
      have e1 := hv.nptr_inv; subst e1; subst e2; exact .p _ _
    · split at he
      · rename_i hl
        obtain ⟨g, cap, hk, e2⟩ := hv.pt_inv h hl
        have e1 := hu.nptr_inv; subst e1; subst e2; exact .p _ _
      · cases he
    · split at he
      · rename_i hl
        obtain ⟨g, cap, hk, e2⟩ := hu.pt_inv h hl
        have e1 := hv.nptr_inv; subst e1; subst e2; exact .p _ _
      · cases he
    · cases he
  · split at he
    · have e1 := hu.nsl_inv.1; have e2 := hv.nsl_inv.1; subst e1; subst e2; exact .l _ _ _ _ _ _
    · have e2 := hv.nsl_inv.1; subst e2
      rcases hu.sl_inv with ⟨e1, _, _⟩ | ⟨_, _, _, ad, cap, e1⟩ | ⟨_, bb, off, cap, f, e1, _⟩ <;> (subst e1; exact .l _ _ _ _ _ _)
    · have e1 := hu.nsl_inv.1; subst e1
      rcases hv.sl_inv with ⟨e2, _, _⟩ | ⟨_, _, _, ad, cap, e2⟩ | ⟨_, bb, off, cap, f, e2, _⟩ <;> (subst e2; exact .l _ _ _ _ _ _)
    · cases he
  · exact eq1_shape hu hv he

theorem run_eq {op : BinOp} {t : TypeId} {x y : Operand} {p q : Value} {b : Bool} {w : World} (hs : EqShape p q) (hop : op = .eql ∨ op = .neq) (hk : ∃ k, eqKind P t = some k) (he : ∀ d, (Op.equalIn (d + 1) t p q).run P w = .ok b w) :
    ((do eqGuard op t x y p q; binOp op t p q) : Sem Value).run P w = .ok (.bool ((op == .neq) != b)) w := by
  have hg : (eqGuard op t x y p q).run P w = .ok () w := by
    cases hs <;> rcases hop with rfl | rfl <;> simp [eqGuard]
  have e1 := he 9999
  have e0 := he 0
  have n0 : (BinOp.eql == BinOp.neq) = false := rfl
  have n1 : (BinOp.neq == BinOp.neq) = true := rfl
  have key : (binOp op t p q).run P w = .ok (.bool ((op == .neq) != b)) w := by
    cases hs with
    | b p q => rcases hop with rfl | rfl <;> (simp only [binOp, Op.equal, Op.maxDepth]; simp [e1, n0])
    | i k p q =>
      have : b = (p == q) := by
        obtain ⟨k', hk⟩ := hk
        unfold eqKind at hk
        split at hk <;> first | (cases hk; done) | skip
        all_goals (rename_i hu; simp [Op.equalIn, run_underlying hu] at e0)
        exact e0.symm
      subst this
      rcases hop with rfl | rfl <;> simp [binOp, Op.intCmp, bne, n0]
    | s p q =>
      have : b = (p.toList == q.toList) := by
        obtain ⟨k', hk⟩ := hk
        unfold eqKind at hk
        split at hk <;> first | (cases hk; done) | skip
        all_goals (rename_i hu; simp [Op.equalIn, run_underlying hu] at e0)
        rw [← e0, ByteArray.toList_eq, ByteArray.toList_eq]
        exact beq_toListBytes p q |>.trans (by rw [ByteArray.toList_eq, ByteArray.toList_eq])
      subst this
      rcases hop with rfl | rfl <;> simp [binOp, Op.stringOp, n0]
    | p p q => rcases hop with rfl | rfl <;> (simp only [binOp, Op.equal, Op.maxDepth]; simp [e1, n0])
    | l p q n m c d => rcases hop with rfl | rfl <;> (simp only [binOp, Op.equal, Op.maxDepth]; simp [e1, n0])
  simp [hg, key]

theorem y_eq (h : Rel B N S a G) {o : Oper} {op : BinOp} {t yt : TypeId} {x y : Operand} {kind : Nat} {ux uy : AOpd} (ho : o.op = .binOp op t x y yt) (hx : trOpd P N x = some ux) (hy : trOpd P N y = some uy) (hop : op = .eql ∨ op = .neq) (hk : eqKind P t = some kind)
    {u : AV} (hv : pval (liveB S) (ev S.fr) (.eq (op == .neq) kind ux uy) = some u) : Yields P a G o u := by
  have rx := ev_ok h hx
  have ry := ev_ok h hy
  simp only [pval] at hv
  cases he : eqP (liveB S) kind (ev S.fr ux) (ev S.fr uy) with
  | none => rw [he] at hv; cases hv
  | some b =>
    rw [he] at hv
    simp only [Option.map_some, Option.some.injEq] at hv; subst hv
    exact y_of (by simp only [execOp, ho]) (run_eq (x := x) (y := y) (eqP_shape h.toMRel rx ry he) hop ⟨kind, hk⟩ (fun d => eqP_ok h.toMRel rx ry he hk d G.w)) (.bl _)

theorem eqF_ok : ∀ (ks : List Nat) (fs : List Field) (i : Nat) (us vs : List AV) (xs ys : Array Value) (b : Bool) (d : Nat) (w : World), flatF P fs i = some ks → eqL ks us vs = some b →
    (∀ (j : Nat) (u : AV), us[j]? = some u → ∃ x, xs[i + j]? = some x ∧ VR G u x) → (∀ (j : Nat) (u : AV), vs[j]? = some u → ∃ x, ys[i + j]? = some x ∧ VR G u x) →
    (Op.eqFields (d + 1) xs ys fs).run P w = .ok b w := by
  intro ks fs
  induction fs generalizing ks with
  | nil =>
    intro i us vs xs ys b d w hf he hx hy
    simp only [flatF, Option.some.injEq] at hf; subst hf
    cases us <;> cases vs <;> simp only [eqL, Option.some.injEq, reduceCtorEq] at he
    subst he; simp [Op.eqFields]
  | cons f fs ih =>
    intro i us vs xs ys b d w hf he hx hy
    simp only [flatF] at hf
    split at hf
    · rename_i k ks' hk hr
      split at hf
      · rename_i hc
        simp only [Option.some.injEq] at hf; subst hf
        cases us with
        | nil => simp [eqL] at he
        | cons u us => cases vs with
          | nil => simp [eqL] at he
          | cons v vs =>
            simp only [eqL] at he
            split at he
            · rename_i p q e1 e2
              simp only [Option.some.injEq] at he; subst he
              obtain ⟨x, hx0, rx⟩ := hx 0 u rfl
              obtain ⟨y, hy0, ry⟩ := hy 0 v rfl
              have hq := eq1_ok rx ry e1 hk d w
              have hrec := ih ks' (i + 1) us vs xs ys q d w hr e2 (fun j u hu => by have := hx (j + 1) u (by simpa using hu); rwa [show i + (j + 1) = i + 1 + j by omega] at this) (fun j u hu => by have := hy (j + 1) u (by simpa using hu); rwa [show i + (j + 1) = i + 1 + j by omega] at this)
              have hag : (isAgg f.type).run P w = .ok false w := by
                unfold eqKind at hk
                unfold isAgg
                rw [Sem.run_bind]
                split at hk <;> first | (cases hk; done) | skip
                all_goals (rename_i hu; rw [run_underlying hu]; rfl)
              rw [Nat.add_zero, ← hc.2.1] at hx0 hy0
              simp only [Op.eqFields, hc.2.2, ne_eq, not_false_eq_true, if_true, part, Sem.run_bind, hag, Result.andThen_ok, Bool.false_eq_true, if_false, hx0, hy0, Sem.run_pure, hq]
              cases p <;> simp [hrec]
            · cases he
      · cases hf
    · cases hf

theorem y_eqs (h : Rel B N S a G) {o : Oper} {op : BinOp} {t yt : TypeId} {x y : Operand} {ks : List Nat} {ux uy : AOpd} (ho : o.op = .binOp op t x y yt) (hx : trOpd P N x = some ux) (hy : trOpd P N y = some uy) (hop : op = .eql ∨ op = .neq) (hk : flatEq P t = some ks)
    {u : AV} (hv : pval (liveB S) (ev S.fr) (.eqs (op == .neq) ks ux uy) = some u) : Yields P a G o u := by
  have rx := ev_ok h hx
  have ry := ev_ok h hy
  simp only [pval] at hv
  split at hv
  · rename_i p q e1 e2; rw [e1] at rx; rw [e2] at ry
    obtain ⟨xs, q0, q1, q2, _⟩ := rx.agg_inv
    obtain ⟨ys, r0, r1, r2, _⟩ := ry.agg_inv
    cases he : eqL ks p q with
    | none => rw [he] at hv; cases hv
    | some b =>
      rw [he] at hv
      simp only [Option.map_some, Option.some.injEq] at hv; subst hv
      unfold flatEq at hk
      split at hk
      · rename_i fs ht
        split at hk
        · rename_i hc
          simp only [Bool.and_eq_true, Bool.not_eq_true'] at hc
          have hfs : P.fieldsOf t = fs := by simp [Program.fieldsOf, ht]
          have ht' : P.underlying t = some (.struct (P.fieldsOf t)) := by rw [hfs]; exact ht
          have hcell : ∀ {cs : List AV} {zs : Array Value}, zs.size = cs.length → (∀ (j : Nat) (u : AV) (x : Value), cs[j]? = some u → zs[j]? = some x → VR G u x) → ∀ (j : Nat) (u : AV), cs[j]? = some u → ∃ x, zs[0 + j]? = some x ∧ VR G u x := by
            intro cs zs hl hh j u hu
            have hj : j < zs.size := by rw [hl]; exact (List.getElem?_eq_some_iff.1 hu).1
            rw [Nat.zero_add]
            exact ⟨zs[j], Array.getElem?_eq_getElem hj, hh j u _ hu (Array.getElem?_eq_getElem hj)⟩
          have hE : (Op.equalIn 10000 t (.agg xs) (.agg ys)).run P G.w = .ok b G.w := by
            rw [run_equalIn_agg (d := 9999) (ht := ht') (hp := hc.1), hfs]
            exact eqF_ok ks fs.toList 0 p q xs ys b 9998 G.w hk he (hcell q1 q2) (hcell r1 r2)
          have n0 : (BinOp.eql == BinOp.neq) = false := rfl
          refine ⟨.bool ((op == .neq) != b), ?_, .bl _⟩
          simp only [execOp, ho, q0, r0]
          rcases hop with rfl | rfl
          · simp only [Sem.run_bind, run_eqGuard_agg (hm := hc.2), Result.andThen_ok, run_eql_struct, hE, n0]; simp
          · have : (binOp .neq t (.agg xs) (.agg ys)).run P G.w = .ok (.bool (!b)) G.w := by
              simp only [binOp, Op.equal, Op.maxDepth, Sem.run_bind, hE, Result.andThen_ok, Sem.run_pure]
            simp only [Sem.run_bind, run_eqGuard_agg (hm := hc.2), Result.andThen_ok, this]; simp
        · cases hk
      · cases hk
  · cases hv

theorem y_mnx (h : Rel B N S a G) {o : Oper} {mx : Bool} {xs : Array Operand} {ats : Array TypeId} {us : List AOpd} (ho : o.op = .call { callee := .builtin (if mx then .max else .min), args := xs, argTypes := ats }) (hx : trL P N xs.toList = some us)
    {u : AV} (hv : pval (liveB S) (ev S.fr) (.mnx mx us) = some u) : Yields P a G o u := by
  obtain ⟨a1, a2⟩ := trL_ok h hx
  simp only [pval] at hv
  split at hv
  · rename_i k p r e
    have hgen : ∀ (r : List AV) (vs : List Value) (p : Int) (u : AV), vs.length = r.length → (∀ (j : Nat) (u : AV) (x : Value), r[j]? = some u → vs[j]? = some x → VR G u x) → mnL mx k p r = some u →
        ∃ m, u = .it k m ∧ (vs.foldlM (if mx then Builtin.max2 else Builtin.min2) (.int k p) : Sem Value).run P G.w = .ok (.int k m) G.w := by
      intro r
      induction r with
      | nil => intro vs p u hl hh hm; cases vs with
        | nil => simp only [mnL, Option.some.injEq] at hm; subst hm; exact ⟨p, rfl, by simp⟩
        | cons _ _ => cases hl
      | cons q r ih =>
        intro vs p u hl hh hm
        cases vs with
        | nil => cases hl
        | cons v vs =>
          cases q <;> simp only [mnL] at hm <;> first | (cases hm; done) | skip
          rename_i k' n
          split at hm
          · rename_i hk; subst hk
            have e1 := (hh 0 _ v rfl rfl).it_inv; subst e1
            obtain ⟨m, g1, g2⟩ := ih vs _ u (by simpa using hl) (fun j u x p q => hh (j + 1) u x (by simpa using p) (by simpa using q)) hm
            refine ⟨m, g1, ?_⟩
            simp only [List.foldlM_cons, Sem.run_bind]
            cases mx
            · simp only [Bool.false_eq_true, if_false, Builtin.min2, Sem.run_pure, Result.andThen_ok] at g2 ⊢; exact g2
            · simp only [if_true, Builtin.max2, Sem.run_pure, Result.andThen_ok] at g2 ⊢; exact g2
          · cases hm
    cases hxs : xs.toList with
    | nil => rw [hxs] at a1; cases us with
      | nil => cases e
      | cons _ _ => cases a1
    | cons x0 xr =>
      cases us with
      | nil => cases e
      | cons u0 ur =>
        simp only [List.map_cons, List.cons.injEq] at e
        rw [hxs] at a2 a1
        have e1 := a2 0 (.it k p) (a.eval x0) (by simp [e.1]) (by simp)
        have e1 := e1.it_inv
        obtain ⟨m, g1, g2⟩ := hgen r (xr.map a.eval) p u (by simp [← e.2] at a1 ⊢; exact a1) (fun j u x p q => a2 (j + 1) u x (by rw [← e.2] at p; simpa using p) (by simpa using q)) hv
        subst g1
        refine ⟨.int k m, ?_, .it _ _⟩
        have hl : (xs.map a.eval).toList = .int k p :: xr.map a.eval := by simp [hxs, e1]
        cases mx
        · simp only [Bool.false_eq_true, if_false] at ho g2
          simp [execOp, ho, resolve, invoke, builtin, Builtin.min_, hl, g2, hxs, e1]
        · simp only [if_true] at ho g2
          simp [execOp, ho, resolve, invoke, builtin, Builtin.max_, hl, g2, hxs, e1]
  · cases hv
end
end Go.AV

