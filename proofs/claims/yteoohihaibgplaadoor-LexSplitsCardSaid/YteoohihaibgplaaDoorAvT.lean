/-
  A translated operation: sound, whatever it is.
-/
import Derived.Test.YteoohihaibgplaaDoorAvS
namespace Go.AV
open Go.RowKit Go.RG Go.Lib

section
variable {P : Program} {B : Base} [GB P B] {N : Nat} {S : St} {a : Act} {G : Gh} {hs : Nat → Bool} {o : Oper} {K : AV → St → Prop} {next : Act → World → Prop} {Q : Exit → Act → World → Prop}

theorem aop_ok (h : Rel B N S a G) {u : AOp} (ht : trOp P N o = some u) (hny : ∀ x args, u = .calv x args → ∀ q, ev S.fr x ≠ .yld q) (hA : aop hs (CallsA P) u o.dst S K) (hn : Nxt B N a o K next) : o.wp P a G.w next Q := by
  cases ho : o.op with
  | move x =>
    simp only [trOp, ho] at ht
    obtain ⟨ux, hx, rfl⟩ := Option.map_eq_some_iff.1 ht
    exact of_y h hn (u := .mv ux) hA fun v hv => by simp only [pval, Option.some.injEq] at hv; subst hv; exact y_mv h (.inl ho) hx
  | assign x =>
    simp only [trOp, ho] at ht
    obtain ⟨ux, hx, rfl⟩ := Option.map_eq_some_iff.1 ht
    exact of_y h hn (u := .mv ux) hA fun v hv => by simp only [pval, Option.some.injEq] at hv; subst hv; exact y_mv h (.inr ho) hx
  | pick c x y =>
    simp only [trOp, ho] at ht
    split at ht <;> first | (cases ht; done) | skip
    rename_i uc ux uy h1 h2 h3
    cases ht
    exact of_y h hn (u := .pick uc ux uy) hA fun v hv => y_pick h ho h1 h2 h3 hv
  | alloc e =>
    simp only [trOp, ho] at ht
    split at ht <;> first | (cases ht; done) | skip
    · rename_i sz z h1 h2
      cases ht
      exact s_alloc h hn ho h1 h2 (u := .agg z) rfl hA
    · rename_i z h1 h2
      cases ht
      obtain ⟨i, v, hi, hzv, hc⟩ := zeroOf_ok (G := G) h2
      have hz1 : z.cells = [z] := by
        unfold zeroOf at h2
        rw [hi] at h2
        simp only [Option.bind_some, hzv] at h2
        cases hvl : v.cells.toList with
        | nil => rw [hvl] at h2; simp [cstL] at h2
        | cons v0 vr =>
          rw [hvl] at h2
          simp only [cstL] at h2
          split at h2
          · rename_i u us e1 e2
            simp only [Option.some.injEq, List.cons.injEq] at h2
            obtain ⟨rfl, rfl⟩ := h2
            unfold cst1 at e1
            split at e1 <;> simp only [Option.some.injEq, reduceCtorEq] at e1 <;> subst e1 <;> rfl
          · cases h2
      exact s_alloc h hn ho h1 h2 (u := z) hz1 hA
  | box e x =>
    simp only [trOp, ho] at ht
    split at ht <;> first | (cases ht; done) | skip
    rename_i sz ux h1 h2
    cases ht
    exact s_box h hn ho h2 hA
  | build t parts =>
    simp only [trOp, ho] at ht
    split at ht <;> first | (cases ht; done) | skip
    · rename_i fs z h1 h2
      split at ht
      · rename_i pl h3
        obtain ⟨up, h4, rfl⟩ := Option.map_eq_some_iff.1 ht
        exact of_y h hn (u := .bld z up) hA fun v hv => y_bld h ho h2 (.inl ⟨fs, pl, h1, h3, h4⟩) hv
      · cases ht
    · rename_i n elem z h1 h2
      split at ht
      · rename_i sz h3
        obtain ⟨up, h4, rfl⟩ := Option.map_eq_some_iff.1 ht
        exact of_y h hn (u := .bld z up) hA fun v hv => y_bld h ho h2 (.inr ⟨n, elem, sz, h1, h3, h4⟩) hv
      · cases ht
  | buildSlice t len parts =>
    simp only [trOp, ho] at ht
    split at ht <;> first | (cases ht; done) | skip
    rename_i e h1
    split at ht <;> first | (cases ht; done) | skip
    rename_i sz z h2 h3
    obtain ⟨up, h4, rfl⟩ := Option.map_eq_some_iff.1 ht
    obtain ⟨q1, q2, q3, hA⟩ := hA
    obtain ⟨cs, hf, hno, hK⟩ := wpv_out hA
    exact m_bsl h hs ho h1 h2 h3 h4 hf q2 q1 q3 hno hK hn
  | load t x =>
    simp only [trOp, ho] at ht
    split at ht <;> first | (cases ht; done) | skip
    rename_i g sz ux h1 h2
    split at ht
    · cases ht; exact s_ld h hn ho h2 h1 hA
    · cases ht
  | store t x y =>
    simp only [trOp, ho] at ht
    split at ht <;> first | (cases ht; done) | skip
    rename_i sz ux uy h1 h2 h3
    cases ht
    exact s_sto h hn ho h2 h3 h1 hA
  | nilCheck x =>
    simp only [trOp, ho] at ht
    obtain ⟨ux, hx, rfl⟩ := Option.map_eq_some_iff.1 ht
    exact of_y h hn (u := .nck ux) hA fun v hv => y_nck h ho hx hv
  | binOp op t x y yt =>
    simp only [trOp, ho] at ht
    split at ht <;> first | (cases ht; done) | skip
    rename_i ux uy h1 h2
    split at ht
    · rename_i hop
      have hop' : op = .eql ∨ op = .neq := by simpa using hop
      split at ht
      · rename_i k hk
        cases ht
        exact of_y h hn (u := .eq (op == .neq) k ux uy) hA fun v hv => y_eq h ho h1 h2 hop' hk hv
      · obtain ⟨ks, hk, rfl⟩ := Option.map_eq_some_iff.1 ht
        exact of_y h hn (u := .eqs (op == .neq) ks ux uy) hA fun v hv => y_eqs h ho h1 h2 hop' hk hv
    · rename_i hop
      cases ht
      exact of_y h hn (u := .bin op ux uy) hA fun v hv => y_bin h ho h1 h2 (by simpa using hop) hv
  | unOp op t x =>
    simp only [trOp, ho] at ht
    obtain ⟨ux, hx, rfl⟩ := Option.map_eq_some_iff.1 ht
    exact of_y h hn (u := .un op ux) hA fun v hv => y_un h ho hx hv
  | convert src dst x =>
    simp only [trOp, ho] at ht
    split at ht <;> first | (cases ht; done) | skip
    · rename_i ks k ux h1 h2 h3
      cases ht
      exact of_y h hn (u := .cvi k ux) hA fun v hv => y_cvi h ho h1 h2 h3 hv
    · rename_i ux h1 h2 h3
      cases ht
      refine of_y h hn (u := .cvs ux) hA fun v hv => ?_
      simp only [pval] at hv
      split at hv
      · rename_i l e; cases hv; exact y_cvs h ho h1 h2 h3 e
      · cases hv
    · rename_i e ux h1 h2 h3
      split at ht
      · cases ht; exact hA.elim
      · cases ht
    · rename_i e ux h1 h2 h3
      split at ht
      · rename_i he
        cases ht
        exact s_b2s h hn ho h1 he h2 h3 hA
      · cases ht
  | makeSlice t l c =>
    simp only [trOp, ho] at ht
    split at ht <;> first | (cases ht; done) | skip
    rename_i e h1
    split at ht <;> first | (cases ht; done) | skip
    rename_i i z ul uc h2 h3 h4 h5
    cases ht
    exact s_mks h hn ho h1 h2 h3 h4 h5 hA
  | slice t x lo hi mx =>
    cases mx with
    | some _ => simp [trOp, ho] at ht
    | none =>
      simp only [trOp, ho] at ht
      split at ht <;> first | (cases ht; done) | skip
      · rename_i ux ulo uhi h1 h2 h3 h4
        cases ht
        exact of_y h hn (u := .sls ux ulo uhi) hA fun v hv => y_sls h ho h1 h2 h3 h4 hv
      · rename_i e ux ulo uhi h1 h2 h3 h4
        obtain ⟨sz, h5, rfl⟩ := Option.map_eq_some_iff.1 ht
        exact s_sll h hn ho h1 h5 h2 h3 h4 hA
  | fieldAddr s x f =>
    simp only [trOp, ho] at ht
    split at ht <;> first | (cases ht; done) | skip
    rename_i fs ux h1 h2
    split at ht <;> first | (cases ht; done) | skip
    rename_i fd h3
    split at ht <;> first | (cases ht; done) | skip
    rename_i sz h4
    cases ht
    exact of_y h hn (u := .fad fd.offset ux) hA fun v hv => y_fad h ho h1 h3 h4 h2 hv
  | field t x f =>
    simp only [trOp, ho] at ht
    split at ht <;> first | (cases ht; done) | skip
    rename_i fs ux h1 h2
    split at ht <;> first | (cases ht; done) | skip
    rename_i fd h3
    obtain ⟨⟨g, sz⟩, h4, rfl⟩ := Option.map_eq_some_iff.1 ht
    exact of_y h hn (u := .fld g fd.offset sz ux) hA fun v hv => y_fld h ho h1 h3 h4 h2 hv
  | indexAddr t x i =>
    simp only [trOp, ho] at ht
    split at ht <;> first | (cases ht; done) | skip
    · rename_i e ux ui h1 h2 h3
      obtain ⟨sz, h4, rfl⟩ := Option.map_eq_some_iff.1 ht
      exact of_y h hn (u := .iad sz ux ui) hA fun v hv => y_iad h ho h1 h4 h2 h3 hv
    · rename_i len e ux ui h1 h2 h3
      obtain ⟨sz, h4, rfl⟩ := Option.map_eq_some_iff.1 ht
      exact of_y h hn (u := .iada len sz ux ui) hA fun v hv => y_iada h ho h1 h4 h2 h3 hv
  | index t x i =>
    simp only [trOp, ho] at ht
    split at ht <;> first | (cases ht; done) | skip
    · rename_i ux ui h1 h2 h3
      cases ht
      exact of_y h hn (u := .idxs ux ui) hA fun v hv => y_idxs h ho h1 h2 h3 hv
    · rename_i len e ux ui h1 h2 h3
      obtain ⟨⟨g, sz⟩, h4, rfl⟩ := Option.map_eq_some_iff.1 ht
      exact of_y h hn (u := .idxa g len sz ux ui) hA fun v hv => y_idxa h ho h1 h4 h2 h3 hv
  | extract x i =>
    simp only [trOp, ho] at ht
    obtain ⟨ux, hx, rfl⟩ := Option.map_eq_some_iff.1 ht
    exact of_y h hn (u := .ext ux i) hA fun v hv => y_ext h ho hx hv
  | makeFunc fn first cap =>
    simp only [trOp, ho] at ht
    split at ht <;> first | (cases ht; done) | skip
    rename_i uf uc h1 h2
    cases ht
    exact of_y h hn (u := .mkf fn uf uc) hA fun v hv => by simp only [pval, Option.some.injEq] at hv; subst hv; exact y_mkf h ho h1 h2
  | call c =>
    obtain ⟨cal, args, ats⟩ := c
    simp only [trOp, ho] at ht
    cases cal with
    | invoke r m => cases ht
    | value f =>
      cases f with
      | func f =>
        simp only at ht
        obtain ⟨us, hl, rfl⟩ := Option.map_eq_some_iff.1 ht
        exact s_call h hn ho hl hA
      | tmp t =>
        simp only at ht
        split at ht <;> first | (cases ht; done) | skip
        rename_i ux us h1 h2
        cases ht
        exact s_calv h hn ho h1 h2 (hny _ _ rfl) hA
      | const v =>
        simp only at ht
        split at ht <;> first | (cases ht; done) | skip
        rename_i ux us h1 h2
        cases ht
        exact s_calv h hn ho h1 h2 (hny _ _ rfl) hA
      | global g =>
        simp only at ht
        split at ht <;> first | (cases ht; done) | skip
        rename_i ux us h1 h2
        cases ht
        exact s_calv h hn ho h1 h2 (hny _ _ rfl) hA
    | builtin b =>
      cases b <;> simp only at ht <;> first | (cases ht; done) | skip
      · -- append
        split at ht <;> first | (cases ht; done) | skip
        rename_i s x t u hargs hats
        have ea : args = #[s, x] := by apply Array.ext'; simpa using hargs
        have et : ats = #[t, u] := by apply Array.ext'; simpa using hats
        subst ea; subst et
        split at ht <;> first | (cases ht; done) | skip
        · rename_i e e' h1 h2
          split at ht <;> first | (cases ht; done) | skip
          rename_i i us ux h3 h4 h5
          split at ht
          · rename_i hz
            cases ht
            obtain ⟨z, hz1, hz2⟩ := Option.map_eq_some_iff.1 hz
            exact s_app h hn ho h1 h2 h3 ⟨z, hz1, hz2⟩ h4 h5 hA
          · cases ht
        · rename_i e h1 h2
          split at ht <;> first | (cases ht; done) | skip
          rename_i i us ux h3 h4 h5
          split at ht <;> first | (cases ht; done) | skip
          rename_i hz
          split at ht
          · rename_i hc
            cases ht
            exact s_apps h hn ho h1 h2 h3 hz hc.1 hc.2 h4 h5 hA
          · cases ht
      · -- len
        split at ht <;> first | (cases ht; done) | skip
        rename_i x t hargs hat
        have ea : args = #[x] := by apply Array.ext'; simpa using hargs
        subst ea
        split at ht <;> first | (cases ht; done) | skip
        · rename_i h1
          obtain ⟨ux, hx, rfl⟩ := Option.map_eq_some_iff.1 ht
          exact of_y h hn (u := .lens ux) hA fun v hv => y_lens h ho hat h1 hx hv
        · rename_i e h1
          obtain ⟨ux, hx, rfl⟩ := Option.map_eq_some_iff.1 ht
          exact of_y h hn (u := .len ux) hA fun v hv => y_len h ho hat h1 hx hv
      · -- max
        obtain ⟨us, hl, rfl⟩ := Option.map_eq_some_iff.1 ht
        exact of_y h hn (u := .mnx true us) hA fun v hv => y_mnx h (mx := true) ho hl hv
      · obtain ⟨us, hl, rfl⟩ := Option.map_eq_some_iff.1 ht
        exact of_y h hn (u := .mnx false us) hA fun v hv => y_mnx h (mx := false) ho hl hv
  | _ => simp [trOp, ho] at ht

/-! ### within a round -/
/-- no fence; of a round's frame, or of a function's -/
def FR (ro : Option Nat) : Fence := { Fence.wide with round := ro }

theorem callsIn_FR {ro : Option Nat} {n : Nat} {f : FuncId} {args : Array Value} {w : World} {R : Ending → World → Prop} (h : Calls P f args w R) : CallsIn (FR ro) n P f args w R := (callsIn_wide (n := n)).2 h

theorem wpIn_of_wp {ro : Option Nat} {w : World} (h : o.wp P a w next Q) (hd : ∀ c, o.op ≠ .defer c) : o.wpIn (FR ro) 0 P a w next Q := by
  refine ⟨fun _ _ => trivial, ?_⟩
  rw [Oper.semAt_eq _ _ _ hd]
  unfold Oper.wp at h
  generalize (execOp a.eval o).run P w = r at *
  have hdep : (FR ro).depth.isSome = true → 1 ≤ 0 := fun h => by cases h
  cases r with
  | ok x w' =>
    cases x <;> simp only [Oper.upon] at h <;> simp only [Oper.uponIn] <;> first | exact h | skip
    · exact ⟨hdep, callsIn_FR h⟩
    · refine ⟨hdep, fun c cs _ => ?_⟩
      obtain ⟨v, w'', h1, h2⟩ := h c cs
      exact ⟨v, w'', h1, stepsIn_wide.2 h2⟩
  | halt x w' => cases x <;> simp only [Oper.upon] at h <;> simp only [Oper.uponIn] <;> exact h

theorem trOp_calv {u : AOpd} {us : List AOpd} (ht : trOp P N o = some (.calv u us)) : ∃ v args ats, o.op = .call { callee := .value v, args := args, argTypes := ats } ∧ trOpd P N v = some u ∧ trL P N args.toList = some us := by
  cases ho : o.op <;> simp only [trOp, ho] at ht <;> (try (repeat' (first | (cases ht; done) | (obtain ⟨_, _, e⟩ := Option.map_eq_some_iff.1 ht; cases e; done) | (split at ht)))) <;> try (cases ht; done)
  · exact absurd ‹Op.slice _ _ _ _ _ = Op.call _› (by intro h; cases h)
  · rename_i c _ v _ hc _ _ _ _ h1 h2
    cases ht
    obtain ⟨cal, args, ats⟩ := c
    simp only at hc; subst hc
    exact ⟨v, args, ats, rfl, h1, h2⟩

theorem pub1_hp (v : AV) (S : St) : (pub1 v S).2.hp = S.hp := by
  cases v with
  | gs k n => cases k with
    | l d c =>
      simp only [pub1]
      split
      · split
        · funext o; simp [St.hp, St.kill, updK]
        · rfl
      · rfl
    | h o => rfl
  | _ => rfl
theorem pubs_hp : ∀ (l : List AV) (S : St), (pubs l S).2.hp = S.hp
  | [], _ => rfl
  | u :: r, S => by simp only [pubs]; rw [pubs_hp r, pub1_hp]
theorem pubV_hp (v : AV) (S : St) : (pubV v S).2.hp = S.hp := by
  by_cases h : v.noL = true
  · simp only [pubV, if_pos h]
  · simp only [pubV, if_neg h]
    cases v with
    | agg cs => exact pubs_hp _ _
    | _ => exact pub1_hp _ _
theorem pubL_hp : ∀ (l : List AV) (S : St), (pubL l S).2.hp = S.hp
  | [], _ => rfl
  | u :: r, S => by simp only [pubL]; rw [pubL_hp r, pubV_hp]

theorem aop_okR {ro : Option Nat} (h : Rel B N S a G) {u : AOp} (ht : trOp P N o = some u) (hA : aop hs (CallsA P) u o.dst S K) (hn : Nxt B N a o K next) : o.wpIn (FR ro) 0 P a G.w next Q := by
  have hnd : ∀ c, o.op ≠ .defer c := by
    intro c e
    simp [trOp, e] at ht
  by_cases hy : ∃ x args q, u = .calv x args ∧ ev S.fr x = .yld q
  · obtain ⟨x, args, q, rfl, hx⟩ := hy
    simp only [aop, hx] at hA
    obtain ⟨v, vargs, ats, ho, h1, h2⟩ := trOp_calv ht
    have rx := ev_ok h h1
    rw [hx] at rx
    obtain ⟨b, hb⟩ : ∃ b, S.M (.h q) = some b := by
      have hs' : ((pubL (args.map (ev S.fr)) S).2.hp q).isSome = true := by
        rcases hA with hA | ⟨_, _, hA, _⟩ | ⟨_, _, hA, _⟩
        · exact hA.2.1
        · cases hA
        · cases hA
      rw [pubL_hp] at hs'
      exact Option.isSome_iff_exists.1 hs'
    have hnd' : ¬ G.dead (.h q) := fun hd => by
      have := ((h.toMRel.dead _).1 hd).1
      rw [hb] at this; cases this
    generalize hxv : a.eval v = vv at rx
    cases rx with
    | yldd o v hk h1 => exact absurd hk hnd'
    | yld o l cap hk =>
      have hr := calls_okY h (by simpa using trL_rs h h2 : VRs G (args.map (ev S.fr)) (vargs.map a.eval).toList) hA hk
      obtain ⟨fn, tmps, asg, body, hy, hround⟩ := hr
      refine ⟨fun _ _ => trivial, ?_⟩
      rw [Oper.semAt_eq _ _ _ hnd]
      have hx' : (execOp a.eval o).run P G.w = .ok (.round l fn tmps asg body) G.w := by
        have hv : ∀ f, v ≠ .func f := by
          intro f e; subst e
          simp only [trOpd, Option.some.injEq] at h1; subst h1
          cases hx
        simp [execOp, ho, resolve, Deferred.ofValue, hxv, invoke, hy]
      rw [hx', Oper.uponIn_round]
      refine ⟨fun h => (by cases h), ?_⟩
      refine RoundIn.mono hround ?_
      rintro e w' ⟨v', av, S', G', rfl, k1, k2, k3, k4⟩
      rw [← k3]
      exact hn av v' S' G' k1 k2 k4
  · exact wpIn_of_wp (aop_ok h ht (fun x args e q hq => hy ⟨x, args, q, e, hq⟩) hA hn) hnd
end
end Go.AV

