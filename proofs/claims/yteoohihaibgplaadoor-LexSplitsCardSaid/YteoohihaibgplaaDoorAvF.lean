/-
  Literals: a struct's, an array's, a slice's cells.
-/
import Derived.Test.YteoohihaibgplaaDoorAvQ
namespace Go.AV
open Go.RowKit Go.RG

section
variable {P : Program} {B : Base} [GB P B] {N : Nat} {S : St} {a : Act} {G : Gh}

/-- cells, told one by one -/
structure Cells (G : Gh) (us : List AV) (vs : Array Value) : Prop where
  len : vs.size = us.length
  vr : ∀ (j : Nat) (u : AV) (x : Value), us[j]? = some u → vs[j]? = some x → VR G u x
  one : ∀ (j : Nat) (x : Value), vs[j]? = some x → x.oneCell' = true

theorem VR.one {u : AV} {v : Value} (h : VR G u v) (h1 : u.one = true) : v.oneCell' = true := by
  cases h <;> first | rfl | assumption | (simp [AV.one] at h1)

theorem VR.cells {u : AV} {v : Value} (h : VR G u v) (h1 : u.cells.all AV.one = true) : Cells G u.cells v.cells := by
  by_cases hu : ∃ cs, u = .agg cs
  · obtain ⟨cs, rfl⟩ := hu
    obtain ⟨vs, rfl, e1, e2, e3⟩ := h.agg_inv
    exact ⟨e1, e2, e3⟩
  · have hc : u.cells = [u] := by cases u <;> first | rfl | (exact absurd ⟨_, rfl⟩ hu)
    rw [hc] at h1 ⊢
    simp only [List.all_cons, List.all_nil, Bool.and_true] at h1
    have h2 := h.one h1
    have hv : v.cells = #[v] := by cases v <;> first | rfl | (simp [Value.oneCell'] at h2)
    rw [hv]
    refine ⟨rfl, ?_, ?_⟩
    · intro j u' x hu' hx
      cases j with
      | zero => simp at hu' hx; subst hu'; subst hx; exact h
      | succ j => simp at hu'
    · intro j x hx
      cases j with
      | zero => simp at hx; subst hx; exact h2
      | succ j => simp at hx

theorem Cells.le {G' : Gh} (hle : LE G G') {us : List AV} {vs : Array Value} (h : Cells G us vs) : Cells G' us vs := ⟨h.len, fun j u x a b => (h.vr j u x a b).le hle, h.one⟩

theorem foldl_set (off : Nat) : ∀ (vs : List Value) (i : Nat) (cells : Array Value), off + i + vs.length ≤ cells.size →
    ((vs.zipIdx i).foldl (fun cs (p : Value × Nat) => cs.setIfInBounds (off + p.2) p.1) cells).size = cells.size ∧
    ∀ t, ((vs.zipIdx i).foldl (fun cs (p : Value × Nat) => cs.setIfInBounds (off + p.2) p.1) cells)[t]? = if off + i ≤ t ∧ t < off + i + vs.length then vs[t - (off + i)]? else cells[t]? := by
  intro vs
  induction vs with
  | nil => intro i cells h; refine ⟨rfl, fun t => ?_⟩; rw [if_neg (by simp)]; rfl
  | cons v vs ih =>
    intro i cells h
    simp only [List.length_cons] at h
    rw [List.zipIdx_cons, List.foldl_cons]
    obtain ⟨h1, h2⟩ := ih (i + 1) (cells.setIfInBounds (off + i) v) (by simp; omega)
    refine ⟨by rw [h1]; simp, fun t => ?_⟩
    rw [h2 t]
    by_cases e1 : off + (i + 1) ≤ t ∧ t < off + (i + 1) + vs.length
    · rw [if_pos e1, if_pos (by simp only [List.length_cons]; omega)]
      rw [show t - (off + i) = t - (off + (i + 1)) + 1 by omega, List.getElem?_cons_succ]
    · rw [if_neg e1]
      by_cases e2 : t = off + i
      · subst e2
        rw [if_pos (by simp only [List.length_cons]; omega), Array.getElem?_setIfInBounds_self, if_pos (by omega)]
        simp
      · rw [if_neg (by simp only [List.length_cons]; omega), Array.getElem?_setIfInBounds_ne (by omega)]

theorem fillA_ok (h : Rel B N S a G) (place : Nat → Option (Nat × Nat)) : ∀ (parts : List (Nat × Operand)) (up : List (Nat × Nat × AOpd)) (cells : Array Value) (us ures : List AV), trParts P N place parts = some up →
    fillA us (up.map fun p => (p.1, p.2.1, ev S.fr p.2.2)) = some ures → Cells G us cells → ∃ res, Instr.fill place cells (parts.map fun p => (p.1, a.eval p.2)) = some res ∧ Cells G ures res := by
  intro parts
  induction parts with
  | nil =>
    intro up cells us ures ht hf hc
    simp only [trParts, Option.some.injEq] at ht; subst ht
    simp only [List.map_nil, fillA, Option.some.injEq] at hf; subst hf
    exact ⟨cells, rfl, hc⟩
  | cons p parts ih =>
    intro up cells us ures ht hf hc
    obtain ⟨i, x⟩ := p
    simp only [trParts] at ht
    split at ht
    · rename_i off sz u us' hp hx hr
      simp only [Option.some.injEq] at ht; subst ht
      simp only [List.map_cons, fillA] at hf
      split at hf
      · rename_i hcond
        obtain ⟨hl, hle, hone⟩ := hcond
        have hcv := (ev_ok h hx).cells hone
        have hsz : (a.eval x).cells.size = sz := by rw [hcv.len, hl]
        have hoff : off + sz ≤ cells.size := by rw [hc.len]; exact hle
        have hgo := foldl_set off (a.eval x).cells.toList 0 cells (by simp [hsz]; exact hoff)
        have e0 : (a.eval x).cells.zipIdx.foldl (fun cs (p : Value × Nat) => cs.setIfInBounds (off + p.2) p.1) cells = ((a.eval x).cells.toList.zipIdx 0).foldl (fun cs (p : Value × Nat) => cs.setIfInBounds (off + p.2) p.1) cells := by
          rw [← Array.foldl_toList]; simp
        rw [← e0] at hgo
        obtain ⟨g1, g2⟩ := hgo
        have hC : Cells G (List.take off us ++ (ev S.fr u).cells ++ List.drop (off + sz) us) ((a.eval x).cells.zipIdx.foldl (fun cs (p : Value × Nat) => cs.setIfInBounds (off + p.2) p.1) cells) := by
          have hat : ∀ t, (List.take off us ++ (ev S.fr u).cells ++ List.drop (off + sz) us)[t]? = if off ≤ t ∧ t < off + sz then (ev S.fr u).cells[t - off]? else us[t]? := by
            intro t
            have hto : (List.take off us).length = off := by rw [List.length_take]; omega
            by_cases e1 : t < off
            · rw [if_neg (by omega), List.append_assoc, List.getElem?_append_left (by omega), List.getElem?_take, if_pos e1]
            · by_cases e2 : t < off + sz
              · rw [if_pos ⟨by omega, e2⟩, List.append_assoc, List.getElem?_append_right (by omega), hto, List.getElem?_append_left (by omega)]
              · rw [if_neg (by omega), List.getElem?_append_right (by simp [hto, hl]; omega)]
                simp only [List.length_append, hto, hl, List.getElem?_drop]
                congr 1; omega
          have hat2 : ∀ t, ((a.eval x).cells.zipIdx.foldl (fun cs (p : Value × Nat) => cs.setIfInBounds (off + p.2) p.1) cells)[t]? = if off ≤ t ∧ t < off + sz then (a.eval x).cells[t - off]? else cells[t]? := by
            intro t; rw [g2 t]; simp [hsz]
          refine ⟨?_, ?_, ?_⟩
          · rw [g1, hc.len]; simp [hl]; omega
          · intro t u' x' hu' hx'
            rw [hat] at hu'; rw [hat2] at hx'
            split at hu'
            · rename_i hc1; rw [if_pos hc1] at hx'; exact hcv.vr _ u' x' hu' hx'
            · rename_i hc1; rw [if_neg hc1] at hx'; exact hc.vr _ u' x' hu' hx'
          · intro t x' hx'
            rw [hat2] at hx'
            split at hx'
            · exact hcv.one _ x' hx'
            · exact hc.one _ x' hx'
        obtain ⟨res, r1, r2⟩ := ih us' _ _ ures hr hf hC
        refine ⟨res, ?_, r2⟩
        simp only [List.map_cons, Instr.fill, hp]
        rw [if_neg (by simp [hsz]; try omega)]
        exact r1
      · cases hf
    · cases ht

theorem zeroOf_ok {t : TypeId} {z : List AV} (h : zeroOf P t = some z) : ∃ i v, P.info? t = some i ∧ i.zero = some v ∧ Cells G z v.cells := by
  unfold zeroOf at h
  cases hi : P.info? t with
  | none => rw [hi] at h; cases h
  | some i =>
    rw [hi] at h
    cases hz : i.zero with
    | none => simp [hz] at h
    | some v =>
      simp only [Option.bind_some, hz] at h
      obtain ⟨a1, a2, a3⟩ := cstL_ok (G := G) h
      exact ⟨i, v, rfl, hz, by simpa using a1, fun j u x p q => a2 j u x p (by simpa using q), fun j x q => a3 x (List.mem_of_getElem? (by simpa using q))⟩

theorem y_bld (h : Rel B N S a G) {o : Oper} {t : TypeId} {parts : Array (Nat × Operand)} {z : List AV} {up : List (Nat × Nat × AOpd)} (ho : o.op = .build t parts) (hz : zeroOf P t = some z)
    (hp : (∃ fs pl, P.underlying t = some (.struct fs) ∧ fieldPlaces P fs = some pl ∧ trParts P N (pl.toArray[·]?) parts.toList = some up) ∨ (∃ n e sz, P.underlying t = some (.array n e) ∧ szOf P e = some sz ∧ trParts P N (fun i => some (i * sz, sz)) parts.toList = some up))
    {u : AV} (hv : pval (liveB S) (ev S.fr) (.bld z up) = some u) : Yields P a G o u := by
  obtain ⟨i, v, hi, hzz, hc⟩ := zeroOf_ok (G := G) hz
  simp only [pval] at hv
  cases hf : fillA z (up.map fun p => (p.1, p.2.1, ev S.fr p.2.2)) with
  | none => rw [hf] at hv; cases hv
  | some ures =>
    rw [hf] at hv; simp only [Option.map_some, Option.some.injEq] at hv; subst hv
    have key : ∀ place, trParts P N place parts.toList = some up → (∀ l, P.built t l = Instr.fill place v.cells l) → Yields P a G o (.agg ures) := by
      intro place ht hb
      obtain ⟨res, r1, r2⟩ := fillA_ok h place parts.toList up v.cells z ures ht hf hc
      refine ⟨.agg res, ?_, .agg _ _ r2.len r2.vr r2.one⟩
      have := run_build (P := P) G.w t (parts.map fun (i, x) => (i, a.eval x)) res (by rw [hb]; simpa using r1)
      simp only [execOp, ho, Sem.run_bind, this, Result.andThen_ok, Sem.run_pure]
    rcases hp with ⟨fs, pl, h1, h2, h3⟩ | ⟨n, e, sz, h1, h2, h3⟩
    · exact key _ h3 (fun l => by unfold fieldPlaces at h2; simp [Program.built, hi, h1, hzz, h2])
    · refine key _ h3 (fun l => ?_)
      unfold szOf at h2
      cases hq : P.info? e with
      | none => rw [hq] at h2; cases h2
      | some q =>
        rw [hq] at h2; simp only [Option.map_some, Option.some.injEq] at h2
        simp [Program.built, hi, h1, hzz, hq, h2]
end
end Go.AV

