/- General texts and own ones, joined: what the program computes, told of abstract states, and the laws of plain data. No condition. -/
import Derived.Test.YteoohihaibgplaaGreatDoorMc
noncomputable section
namespace Go.AV
open Go.RowKit Go.RG Go.Lib
variable {K : Nat → Type}
section
variable {C : Cx K} {t t1 : TS K} {χ : Nat → Nat → Bool}
mutual
theorem yvI (h : ∀ s c, tln (t.tb s c) = tln (t1.tb s c)) : ∀ u : TV K, aT C t χ u = aT C t1 χ u
 | .rw s c => by simp only [aT, h]
 | .agg cs => by simp only [aT, yhO h cs]
 | .tup cs => by simp only [aT, yhO h cs]
 | .fn f a c => by simp only [aT, yhO h a, yhO h c]
 | .cn _ v => by simp only [aT, yvI h v]
 | .it _ _ | .bl _ | .st _ | .sl _ _ | .nil | .un | .px _ _ _ | .lb _ | .li _ _ | .em | .pr _ _ _ _ _ | .ep _ _ _ _ | .gs _ _ | .nptr | .fv _ _ _ => by simp only [aT]
theorem yhO (h : ∀ s c, tln (t.tb s c) = tln (t1.tb s c)) : ∀ us : List (TV K), aTs C t χ us = aTs C t1 χ us
 | [] => rfl
 | u :: us => by simp only [aTs, yvI h u, yhO h us]
end
theorem aT_s (u : TV K) : aT C t χ u.s = aT C t χ u := by cases u <;> simp only [TV.s, aT]
mutual
theorem yyT : ∀ (u w : TV K), eqT u w → aT C t χ u = aT C t χ w
 | .it k n, w, h => by
   rw [← aT_s w]
   simp only [eqT] at h
   split at h
   ·rename_i e
    split at h
    ·rename_i ek; subst ek; subst h; rw [e]
    ·exact h.elim
   ·rename_i e
    split at h
    ·rename_i ek; subst ek; subst h; rw [e]; simp only [aT]
    ·exact h.elim
   ·exact h.elim
 | .bl b, w, h => by
   rw [← aT_s w]
   simp only [eqT] at h
   split at h
   ·rename_i e; rw [e]; subst h; rfl
   ·rename_i e; rw [e]; subst h; simp only [aT]
   ·exact h.elim
 | .st s, w, h => by
   rw [← aT_s w]
   simp only [eqT] at h
   split at h
   ·rename_i e; rw [e]; subst h; rfl
   ·exact h.elim
 | .sl e l, w, h => by
   rw [← aT_s w]
   simp only [eqT] at h
   split at h
   ·rename_i e2; rw [e2]
    split at h
    ·rename_i e3; subst e3; simp only at h; subst h; rfl
    ·exact h.elim
   ·exact h.elim
 | .agg l, w, h => by
   rw [← aT_s w]
   simp only [eqT] at h
   split at h
   ·rename_i l' e; rw [e]; simp only [aT, ynt l l' h]
   ·exact h.elim
 | .rw s c, w, h => by
   rw [← aT_s w]
   simp only [eqT] at h
   split at h
   ·rename_i s' c' e; rw [e]
    split at h
    ·rename_i e2
     simp only [Bool.and_eq_true] at e2
     rw [nbeq.1 e2.1, nbeq.1 e2.2]
    ·exact h.elim
   ·exact h.elim
 | .px s c o, w, h => by
   rw [← aT_s w]
   simp only [eqT] at h
   split at h
   ·rename_i s' c' o' e; rw [e]
    split at h
    ·rename_i e2
     simp only [Bool.and_eq_true] at e2
     rw [nbeq.1 e2.1.1, nbeq.1 e2.1.2, nbeq.1 e2.2]
    ·exact h.elim
   ·exact h.elim
 | .nptr, w, h => by
   rw [← aT_s w]
   simp only [eqT] at h
   split at h
   ·rename_i e; rw [e]
   ·exact h.elim
 | .nil, w, h => by
   rw [← aT_s w]
   simp only [eqT] at h
   split at h
   ·rename_i e; rw [e]
   ·exact h.elim
 | .un, w, h => by
   cases w with
   | un => rfl
   | _ => simp [eqT] at h
 | .lb _, w, h | .li _ _, w, h | .tup _, w, h | .em, w, h | .pr _ _ _ _ _, w, h | .ep _ _ _ _, w, h | .gs _ _, w, h | .fn _ _ _, w, h | .fv _ _ _, w, h | .cn _ _, w, h => by simp [eqT] at h
theorem ynt : ∀ (us ws : List (TV K)), eqTs us ws → aTs C t χ us = aTs C t χ ws
 | [], [], _ => rfl
 | [], w :: ws, h => by simp [eqTs] at h
 | u :: us, [], h => by simp [eqTs] at h
 | u :: us, w :: ws, h => by
   obtain ⟨h1, h2⟩ := yzr h
   simp only [aTs, yyT u w h1, ynt us ws h2]
end
def bTx (C : Cx K) (t : TS K) (χ : Nat → Nat → Bool) (o : Option (TB K)) : Option Blk := o.map (bT C t χ)
theorem yng (us : List (TV K)) : (aTs C t χ us).length = us.length := by rw [ycs, List.length_map]
theorem yse {b b1 : Option (TB K)} (h : eqB b b1) : tln b = tln b1 ∧ b.map (bT C t χ) = b1.map (bT C t χ) ∧ (∀ e, b1 = some (.row e []) → b = some (.row e [])) ∧ b.isSome = true := by
 unfold eqB at h
 split at h
 ·split at h
  rotate_left
  ·exact h.elim
  rename_i hb
  have hb := nbeq.1 hb
  subst hb
  have := ynt (C := C) (t := t) (χ := χ) _ _ h
  refine ⟨rfl, ?_, fun e q => (by cases q), rfl⟩
  have hl := congrArg List.length this
  rw [yng, yng] at hl
  simp only [Option.map_some, bT, this, hl]
 ·split at h
  ·rename_i e; subst e; simp only at h; subst h; exact ⟨rfl, rfl, fun e q => q, rfl⟩
  ·exact h.elim
 ·exact h.elim
theorem ys5 {ts0 ts : TS K} {p : Prop} : ∀ {l : List Nat}, kpt ts0 ts l p → (∀ s ∈ l, eqB (ts0.tb s 1) (ts.tb s 1)) ∧ p
 | [], h => ⟨fun s hs => (by cases hs), h⟩
 | s :: r, h => by
   simp only [kpt] at h
   obtain ⟨a, b⟩ := ys5 h.2
   exact ⟨fun s' hs => by
    rcases List.mem_cons.1 hs with rfl | hs
    ·exact h.1
    ·exact a s' hs, b⟩
theorem yg1 {α β : Type} {Q : List (Nat × α)} {l : List (Nat × β)} {p : Nat → Bool} {g : Nat × α → Bool} (h : Q.map (·.1) = l.map (·.1)) (hg : ∀ x ∈ Q, g x = p x.1) : (Q.filter g).map (·.1) = (l.filter fun x => p x.1).map (·.1) := by
 have e1 : Q.filter g = Q.filter (p ∘ (·.1)) := List.filter_congr hg
 rw [e1, ← List.filter_map, h, List.filter_map]
 rfl
theorem yxa (a b : List (Nat × Nat × List Kd)) : ctB (a ++ b) = ctB a ++ ctB b := List.flatMap_append ..
theorem ywW (a b : List (Nat × Nat)) : ctR (a ++ b) = ctR a ++ ctR b := List.map_append ..
structure TT (C : Cx K) (sp : Sl K) (t : TS K) : Prop where
 nm : t.od.map (·.1) = sp.te.bx.map (·.1) ++ sp.kbx.map (·.1) ++ sp.te.rw.map (·.1) ++ sp.krw.map (·.1)
 nw : t.nw = []
 nd : (t.od.map (·.1)).Nodup
 ent : ∀ p ∈ t.od, ((∃ e l x, okKs (sp.to.bx.map (·.1)) (sp.to.rw.map (·.1)) l = true ∧ (l ≠ [] ∧ wt (ctVs l) x = true) ∧ p.2 = some (.box e (bdW C [] l x).1)) ∧ p.1 ∈ sp.to.bx.map (·.1)) ∨ (∃ e l, p.2 = some (.row e l)) ∧ p.1 ∈ sp.to.rw.map (·.1)
 bx : ∀ s ∈ sp.to.bx.map (·.1), isBx (t.tb s 1) = true
 rw : ∀ s ∈ sp.to.rw.map (·.1), (tln (t.tb s 1)).isSome = true
 fr : ∀ s, lkT t.fr s = .un ∨ ∃ p ∈ sp.te.ks, ∃ x, lkT t.fr s = (bdV C [] p.2 x).1
theorem yvy {sp : Sl K} {fs : List (FV K)} {env out : List (DV K)} (hE : okS sp env = true) (hwo : wt (ctT sp.te) out = true) : TT C sp (endT C sp (entL C sp fs env) out) := by
 obtain ⟨o1, o2, o3, o4, o5, o6⟩ := ypQ hE
 rw [ypO] at hwo
 obtain ⟨ab, c1, rfl, w12, w6⟩ := ycA hwo
 obtain ⟨a, b1, rfl, w1, w4⟩ := ycA w12
 let ts0 := entL C sp fs env
 let F1 := ts0.od.filter fun x => ydW sp.kp x.1 && isBx x.2
 let F2 := ts0.od.filter fun x => ydW sp.kp x.1 && !isBx x.2
 have ht : endT C sp ts0 (a ++ b1 ++ c1) = ⟨(bdS C [] sp.te.ks a).1, (bdB C [] sp.te.bx b1).1 ++ F1 ++ bdR sp.te.rw c1 ++ F2, [], [], []⟩ := by
  unfold endT
  simp only
  rw [List.append_assoc, yqg sp.te.ks a (b1 ++ c1) w1]
  simp only
  rw [ypk sp.te.bx b1 c1 w4]
 obtain ⟨i1, i2⟩ := yhR (C := C) (rg := []) (hh := []) o6
 have h0d : (ts0.od.map (·.1)).Nodup := by
  show ((bdT C sp.ti [] [] env).od.map (·.1)).Nodup
  rw [i1]; exact o1.nd
 obtain ⟨ai, bi, ci, _, v1, v2, v3, ei⟩ := ygA (rg := []) (hh := []) (C := C) o6
 have hod : ts0.od = (bdB C [] sp.ti.bx bi).1 ++ bdR sp.ti.rw ci := by
  show (bdT C sp.ti [] [] env).od = _
  rw [ei]
 obtain ⟨p1, p2⟩ := yhF (C := C) (rg := []) sp.ti.bx bi v2
 obtain ⟨q1, q2⟩ := yhD sp.ti.rw ci v3
 have isb : ∀ x ∈ (bdB C [] sp.ti.bx bi).1, isBx x.2 = true := fun x hx => by obtain ⟨k, _, _, y, _, e⟩ := p2 x hx; rw [e]; rfl
 have isr : ∀ x ∈ bdR sp.ti.rw ci, isBx x.2 = false := fun x hx => by obtain ⟨k, _, _, y, e⟩ := q2 x hx; rw [e]; rfl
 have nF1 : F1.map (·.1) = sp.kbx.map (·.1) := by
  show (ts0.od.filter _).map _ = _
  rw [hod, List.filter_append, List.map_append]
  have e2 : (bdR sp.ti.rw ci).filter (fun x => ydW sp.kp x.1 && isBx x.2) = [] := List.filter_eq_nil_iff.2 fun x hx => by rw [isr x hx]; simp
  rw [e2, List.map_nil, List.append_nil]
  exact yg1 p1 fun x hx => by rw [isb x hx, Bool.and_true]
 have nF2 : F2.map (·.1) = sp.krw.map (·.1) := by
  show (ts0.od.filter _).map _ = _
  rw [hod, List.filter_append, List.map_append]
  have e2 : (bdB C [] sp.ti.bx bi).1.filter (fun x => ydW sp.kp x.1 && !isBx x.2) = [] := List.filter_eq_nil_iff.2 fun x hx => by rw [isb x hx]; simp
  rw [e2, List.map_nil, List.nil_append]
  exact yg1 q1 fun x hx => by rw [isr x hx]; simp
 obtain ⟨x1, x2⟩ := yhF (C := C) (rg := []) sp.te.bx b1 w4
 obtain ⟨y1, y2⟩ := yhD sp.te.rw c1 w6
 have nt : (endT C sp ts0 (a ++ b1 ++ c1)).od.map (·.1) = sp.te.bx.map (·.1) ++ sp.kbx.map (·.1) ++ sp.te.rw.map (·.1) ++ sp.krw.map (·.1) := by
  rw [ht]; simp only [List.map_append, nF1, nF2, x1, y1]
 have hto : sp.to.bx.map (·.1) ++ sp.to.rw.map (·.1) = sp.te.bx.map (·.1) ++ sp.kbx.map (·.1) ++ sp.te.rw.map (·.1) ++ sp.krw.map (·.1) := by
  show (sp.te.bx ++ sp.kbx).map (·.1) ++ (sp.te.rw ++ sp.krw).map (·.1) = _
  simp only [List.map_append, List.append_assoc]
 have nd : ((endT C sp ts0 (a ++ b1 ++ c1)).od.map (·.1)).Nodup := by rw [nt, ← hto]; exact o2.nd
 have ent : ∀ p ∈ (endT C sp ts0 (a ++ b1 ++ c1)).od, ((∃ e l x, okKs (sp.to.bx.map (·.1)) (sp.to.rw.map (·.1)) l = true ∧ (l ≠ [] ∧ wt (ctVs l) x = true) ∧ p.2 = some (.box e (bdW C [] l x).1)) ∧ p.1 ∈ sp.to.bx.map (·.1)) ∨ (∃ e l, p.2 = some (.row e l)) ∧ p.1 ∈ sp.to.rw.map (·.1) := by
  intro p hp
  rw [ht] at hp
  simp only [List.mem_append] at hp
  have tobx : ∀ k, k ∈ sp.te.bx ∨ k ∈ sp.kbx → k ∈ sp.to.bx := fun k hk => List.mem_append.2 hk
  rcases hp with ((hp | hp) | hp) | hp
  ·obtain ⟨k, hk, e2, x, ew, e3⟩ := x2 p hp
   have := o2.bx k (tobx k (.inl hk))
   exact .inl ⟨⟨_, _, x, this.1, ⟨this.2, ew⟩, e3⟩, by rw [e2]; exact List.mem_map_of_mem (f := (·.1)) (tobx k (.inl hk))⟩
  ·obtain ⟨m1, m2⟩ := List.mem_filter.1 hp
   simp only [Bool.and_eq_true] at m2
   rw [hod] at m1
   rcases List.mem_append.1 m1 with m1 | m1
   ·obtain ⟨k, hk, e2, x, ew, e3⟩ := p2 p m1
    have hkb : k ∈ sp.kbx := List.mem_filter.2 ⟨hk, by rw [← e2]; exact m2.1⟩
    have := o2.bx k (tobx k (.inr hkb))
    exact .inl ⟨⟨_, _, x, this.1, ⟨this.2, ew⟩, e3⟩, by rw [e2]; exact List.mem_map_of_mem (f := (·.1)) (tobx k (.inr hkb))⟩
   ·rw [isr p m1] at m2; cases m2.2
  ·obtain ⟨k, hk, e2, x, e3⟩ := y2 p hp
   exact .inr ⟨⟨_, x, e3⟩, by rw [e2]; exact List.mem_map_of_mem (f := (·.1)) (show k ∈ sp.te.rw ++ sp.krw from List.mem_append_left _ hk)⟩
  ·obtain ⟨m1, m2⟩ := List.mem_filter.1 hp
   simp only [Bool.and_eq_true, Bool.not_eq_true'] at m2
   rw [hod] at m1
   rcases List.mem_append.1 m1 with m1 | m1
   ·rw [isb p m1] at m2; cases m2.2
   ·obtain ⟨k, hk, e2, x, e3⟩ := q2 p m1
    have hkr : k ∈ sp.krw := List.mem_filter.2 ⟨hk, by rw [← e2]; exact m2.1⟩
    exact .inr ⟨⟨_, x, e3⟩, by rw [e2]; exact List.mem_map_of_mem (f := (·.1)) (show k ∈ sp.te.rw ++ sp.krw from List.mem_append_right _ hkr)⟩
 have disj : ∀ s, s ∈ sp.to.bx.map (·.1) → s ∈ sp.to.rw.map (·.1) → False := fun s h1 h2 => (List.nodup_append.1 o2.nd).2.2 s h1 s h2 rfl
 refine ⟨nt, rfl, nd, ent, fun s hs => ?_, fun s hs => ?_, fun s => ?_⟩
 ·have hm : s ∈ (endT C sp ts0 (a ++ b1 ++ c1)).od.map (·.1) := by rw [nt, ← hto]; exact List.mem_append_left _ hs
  obtain ⟨p, hp, rfl⟩ := List.mem_map.1 hm
  show isBx (lkB (endT C sp ts0 (a ++ b1 ++ c1)).od p.1) = true
  rw [ydI nd (show (p.1, p.2) ∈ _ from hp)]
  rcases ent p hp with ⟨⟨e, l, x, _, _, a3⟩, _⟩ | ⟨_, a2⟩
  ·rw [a3]; rfl
  ·exact (disj _ hs a2).elim
 ·have hm : s ∈ (endT C sp ts0 (a ++ b1 ++ c1)).od.map (·.1) := by rw [nt, ← hto]; exact List.mem_append_right _ hs
  obtain ⟨p, hp, rfl⟩ := List.mem_map.1 hm
  show (tln (lkB (endT C sp ts0 (a ++ b1 ++ c1)).od p.1)).isSome = true
  rw [ydI nd (show (p.1, p.2) ∈ _ from hp)]
  rcases ent p hp with ⟨_, a4⟩ | ⟨⟨e, l, a1⟩, _⟩
  ·exact (disj _ a4 hs).elim
  ·rw [a1]; rfl
 ·show lkT (endT C sp ts0 (a ++ b1 ++ c1)).fr s = .un ∨ ∃ p ∈ sp.te.ks, ∃ x, lkT (endT C sp ts0 (a ++ b1 ++ c1)).fr s = (bdV C [] p.2 x).1
  rw [ht]
  rcases yqJ (C := C) (rg := []) sp.te.ks a s with e | ⟨p, hp, _, x, e⟩
  ·exact .inl e
  ·exact .inr ⟨p, hp, x, e⟩
theorem yzu {sp : Sl K} {fs : List (FV K)} {env env' out : List (DV K)} (hE : okS sp env = true) (hw : wt (ctT sp.to) env' = true) (hk : kpt (entL C sp fs env) (bdT C sp.to [] [] env') sp.kp (eqDV (selL sp env') out)) :
  wt (ctT sp.te) out = true ∧ (bdT C sp.to [] [] env').fr = (endT C sp (entL C sp fs env) out).fr ∧
  ∀ s, lkB (endT C sp (entL C sp fs env) out).od s = lkB (bdT C sp.to [] [] env').od s ∨ eqB (lkB (endT C sp (entL C sp fs env) out).od s) (lkB (bdT C sp.to [] [] env').od s) := by
 obtain ⟨o1, o2, o3, o4, o5, o6⟩ := ypQ hE
 obtain ⟨hkp, hsel⟩ := ys5 hk
 have hsel := yuH hsel
 obtain ⟨a, b12, c12, e0, w1, w2, w3, e1⟩ := ygA (rg := []) (hh := []) (C := C) hw
 have w2' : wt (ctB sp.te.bx ++ ctB sp.kbx) b12 = true := by rw [← yxa]; exact w2
 have w3' : wt (ctR sp.te.rw ++ ctR sp.krw) c12 = true := by rw [← ywW]; exact w3
 obtain ⟨b1, b2, rfl, w4, w5⟩ := ycA w2'
 obtain ⟨c1, c2, rfl, w6, w7⟩ := ycA w3'
 have hout : out = a ++ b1 ++ c1 := by
  rw [← hsel, e0]
  unfold selL
  simp only
  have l1 : (ctS sp.te.ks).length = a.length := (ypN w1).symm
  have l2 : (ctB sp.te.bx).length = b1.length := (ypN w4).symm
  have l3 : (ctB sp.kbx).length = b2.length := (ypN w5).symm
  have l4 : sp.te.rw.length = c1.length := by have := ypN w6; unfold ctR at this; rw [List.length_map] at this; exact this.symm
  rw [l1, l2, l3, l4]
  rw [show a ++ (b1 ++ b2) ++ (c1 ++ c2) = (a ++ b1) ++ (b2 ++ (c1 ++ c2)) by simp [List.append_assoc]]
  rw [List.take_left' (by simp), show a.length + b1.length + b2.length = (a ++ b1).length + b2.length by simp, List.drop_append, List.drop_of_length_le (by omega), List.nil_append, Nat.add_sub_cancel_left, List.drop_left, List.take_left]
 have hwo : wt (ctT sp.te) out = true := by rw [hout, ypO]; exact ygp (ygp w1 w4) w6
 let ts0 := entL C sp fs env
 let F1 := ts0.od.filter fun x => ydW sp.kp x.1 && isBx x.2
 let F2 := ts0.od.filter fun x => ydW sp.kp x.1 && !isBx x.2
 have ht : endT C sp ts0 out = ⟨(bdS C [] sp.te.ks a).1, (bdB C [] sp.te.bx b1).1 ++ F1 ++ bdR sp.te.rw c1 ++ F2, [], [], []⟩ := by
  unfold endT
  simp only
  rw [hout, List.append_assoc, yqg sp.te.ks a (b1 ++ c1) w1]
  simp only
  rw [ypk sp.te.bx b1 c1 w4]
 have ht1 : bdT C sp.to [] [] env' = ⟨(bdS C [] sp.te.ks a).1, (bdB C [] sp.te.bx b1).1 ++ (bdB C [] sp.kbx b2).1 ++ (bdR sp.te.rw c1 ++ bdR sp.krw c2), [], [], []⟩ := by
  rw [e1]
  show (⟨(bdS C [] sp.te.ks a).1, (bdB C [] (sp.te.bx ++ sp.kbx) (b1 ++ b2)).1 ++ bdR (sp.te.rw ++ sp.krw) (c1 ++ c2), [], [], []⟩ : TS K) = _
  rw [yt8 _ _ _ _ w4, ytJ _ _ _ _ w6]
 obtain ⟨i1, i2⟩ := yhR (C := C) (rg := []) (hh := []) o6
 have h0d : (ts0.od.map (·.1)).Nodup := by
  show ((bdT C sp.ti [] [] env).od.map (·.1)).Nodup
  rw [i1]; exact o1.nd
 obtain ⟨ai, bi, ci, _, v1, v2, v3, ei⟩ := ygA (rg := []) (hh := []) (C := C) o6
 have hod : ts0.od = (bdB C [] sp.ti.bx bi).1 ++ bdR sp.ti.rw ci := by
  show (bdT C sp.ti [] [] env).od = _
  rw [ei]
 obtain ⟨p1, p2⟩ := yhF (C := C) (rg := []) sp.ti.bx bi v2
 obtain ⟨q1, q2⟩ := yhD sp.ti.rw ci v3
 have isb : ∀ x ∈ (bdB C [] sp.ti.bx bi).1, isBx x.2 = true := fun x hx => by obtain ⟨k, _, _, y, _, e⟩ := p2 x hx; rw [e]; rfl
 have isr : ∀ x ∈ bdR sp.ti.rw ci, isBx x.2 = false := fun x hx => by obtain ⟨k, _, _, y, e⟩ := q2 x hx; rw [e]; rfl
 have nF1 : F1.map (·.1) = sp.kbx.map (·.1) := by
  show (ts0.od.filter _).map _ = _
  rw [hod, List.filter_append, List.map_append]
  have e2 : (bdR sp.ti.rw ci).filter (fun x => ydW sp.kp x.1 && isBx x.2) = [] := List.filter_eq_nil_iff.2 fun x hx => by rw [isr x hx]; simp
  rw [e2, List.map_nil, List.append_nil]
  exact yg1 p1 fun x hx => by rw [isb x hx, Bool.and_true]
 have nF2 : F2.map (·.1) = sp.krw.map (·.1) := by
  show (ts0.od.filter _).map _ = _
  rw [hod, List.filter_append, List.map_append]
  have e2 : (bdB C [] sp.ti.bx bi).1.filter (fun x => ydW sp.kp x.1 && !isBx x.2) = [] := List.filter_eq_nil_iff.2 fun x hx => by rw [isb x hx]; simp
  rw [e2, List.map_nil, List.nil_append]
  exact yg1 q1 fun x hx => by rw [isr x hx]; simp
 obtain ⟨x1, x2⟩ := yhF (C := C) (rg := []) sp.te.bx b1 w4
 obtain ⟨y1, y2⟩ := yhD sp.te.rw c1 w6
 obtain ⟨x3, x4⟩ := yhF (C := C) (rg := []) sp.kbx b2 w5
 obtain ⟨y3, y4⟩ := yhD sp.krw c2 w7
 have nt : (endT C sp ts0 out).od.map (·.1) = sp.te.bx.map (·.1) ++ sp.kbx.map (·.1) ++ sp.te.rw.map (·.1) ++ sp.krw.map (·.1) := by
  rw [ht]; simp only [List.map_append, nF1, nF2, x1, y1]
 have nt1 : (bdT C sp.to [] [] env').od.map (·.1) = sp.te.bx.map (·.1) ++ sp.kbx.map (·.1) ++ sp.te.rw.map (·.1) ++ sp.krw.map (·.1) := by
  rw [ht1]; simp only [List.map_append, x1, x3, y1, y3, List.append_assoc]
 have hto : sp.to.bx.map (·.1) ++ sp.to.rw.map (·.1) = sp.te.bx.map (·.1) ++ sp.kbx.map (·.1) ++ sp.te.rw.map (·.1) ++ sp.krw.map (·.1) := by
  show (sp.te.bx ++ sp.kbx).map (·.1) ++ (sp.te.rw ++ sp.krw).map (·.1) = _
  simp only [List.map_append, List.append_assoc]
 have nd : ((endT C sp ts0 out).od.map (·.1)).Nodup := by rw [nt, ← hto]; exact o2.nd
 have nd1 : ((bdT C sp.to [] [] env').od.map (·.1)).Nodup := by rw [nt1, ← hto]; exact o2.nd
 have kept : ∀ s b, (s, b) ∈ ts0.od → ydW sp.kp s = true → (s, b) ∈ (endT C sp ts0 out).od → eqB (lkB (endT C sp ts0 out).od s) (lkB (bdT C sp.to [] [] env').od s) := by
  intro s b hm hs he
  have := hkp s (yfK.1 hs)
  rw [ydI nd he]
  have e2 : ts0.tb s 1 = b := ydI h0d hm
  rw [← e2]; exact this
 have main : ∀ s, lkB (endT C sp ts0 out).od s = lkB (bdT C sp.to [] [] env').od s ∨ eqB (lkB (endT C sp ts0 out).od s) (lkB (bdT C sp.to [] [] env').od s) := by
  intro s
  by_cases hs : s ∈ (endT C sp ts0 out).od.map (·.1)
  ·obtain ⟨p, hp, rfl⟩ := List.mem_map.1 hs
   have hp' := hp
   rw [ht] at hp'
   simp only [List.mem_append] at hp'
   rcases hp' with ((hp' | hp') | hp') | hp'
   ·left
    rw [ydI nd (show (p.1, p.2) ∈ _ from hp), ydI nd1 (show (p.1, p.2) ∈ _ by rw [ht1]; simp only [List.mem_append]; exact .inl (.inl hp'))]
   ·have := List.mem_filter.1 hp'
    simp only [Bool.and_eq_true] at this
    exact .inr (kept p.1 p.2 this.1 this.2.1 hp)
   ·left
    rw [ydI nd (show (p.1, p.2) ∈ _ from hp), ydI nd1 (show (p.1, p.2) ∈ _ by rw [ht1]; simp only [List.mem_append]; exact .inr (.inl hp'))]
   ·have := List.mem_filter.1 hp'
    simp only [Bool.and_eq_true] at this
    exact .inr (kept p.1 p.2 this.1 this.2.1 hp)
  ·left
   have no : ∀ {l : List (Nat × Option (TB K))}, s ∉ l.map (·.1) → lkB l s = none := by
    intro l hl
    cases hq : lkB l s with
    | none => rfl
    | some b => exact absurd (List.mem_map_of_mem (f := (·.1)) (ygo hq)) hl
   rw [no hs, no (by rw [nt1, ← nt]; exact hs)]
 exact ⟨hwo, by rw [ht1]; show _ = (endT C sp ts0 out).fr; rw [ht], main⟩
end
def EndK (C : Cx K) (sp : Sl K) (t : TS K) (χ : Nat → Nat → Bool) (H : Hp) (n : Nat) (av : AV) (S1 : St) : Prop :=
 ∃ χ', ViOk t χ' ∧ (∀ s b, 2000000 ≤ s → t.tb s 1 = some b → χ' s 1 = χ s 1) ∧ (∃ us, ydp t sp.res = some us ∧ av = ybk (aTs C t χ' us)) ∧ S1.hp = H ∧ S1.nx = n ∧
  ∀ s b, lkB t.od s = some b → χ' s 1 = false → S1.M (.l s 1) = some (bT C t χ' b)
theorem yrZ {C : Cx K} {t t1 : TS K} {χ : Nat → Nat → Bool} (hf : t1.fr = t.fr) (ht : ∀ s c, t.tb s c = t1.tb s c ∨ eqB (t.tb s c) (t1.tb s c)) : ∀ {l : List (Nat × Option Nat)} {us : List (TV K)}, ydp t1 l = some us → ∃ us', ydp t l = some us' ∧ aTs C t1 χ us = aTs C t1 χ us'
 | [], us, h => by cases h; exact ⟨[], rfl, rfl⟩
 | p :: l, us, h => by
   simp only [ydp] at h
   split at h
   ·rename_i v vs h1 h2
    cases h
    obtain ⟨us', e1, e2⟩ := yrZ (C := C) (χ := χ) hf ht h2
    have key : ∃ v', resT t p = some v' ∧ aT C t1 χ v = aT C t1 χ v' := by
     obtain ⟨s, q⟩ := p
     cases q with
     | none => simp only [resT] at h1 ⊢; cases h1; exact ⟨_, rfl, by rw [hf]⟩
     | some q =>
       have boxes : ∀ {s c e : Nat} {cs : List (TV K)}, t1.tb s c = some (.box e cs) → ∃ cs', t.tb s c = some (.box e cs') ∧ aTs C t1 χ cs = aTs C t1 χ cs' := by
        intro s c e cs hb
        rcases ht s c with k | k
        ·exact ⟨cs, by rw [k, hb], rfl⟩
        ·rw [hb] at k
         unfold eqB at k
         split at k
         ·rename_i e1 l1 e2 l2 q1 q2
          cases q2
          split at k
          ·rename_i hbq
           have := nbeq.1 hbq; subst this
           exact ⟨_, q1, (ynt _ _ k).symm⟩
          ·exact k.elim
         ·rename_i q2; cases q2
         ·exact k.elim
       have hfs : lkT t1.fr s = lkT t.fr s := by rw [hf]
       cases q with
       | zero =>
         simp only [resT] at h1 ⊢
         rw [hfs] at h1
         split at h1
         ·rename_i s' c o e
          split at h1
          ·rename_i e' cs hb
           obtain ⟨cs', b1, b2⟩ := boxes hb
           rw [b1]
           simp only
           have := congrArg (fun l => l[o]?) b2
           simp only [ycs, List.getElem?_map, h1] at this
           cases hq : cs'[o]? with
           | none => rw [hq] at this; cases this
           | some w => rw [hq] at this; exact ⟨w, rfl, Option.some.inj this⟩
          ·cases h1
         ·cases h1
       | succ q =>
         simp only [resT] at h1 ⊢
         rw [hfs] at h1
         split at h1
         ·rename_i s' c o e
          split at h1
          ·rename_i e' cs hb
           obtain ⟨cs', b1, b2⟩ := boxes hb
           rw [b1]
           simp only [tldc] at h1 ⊢
           have hl : cs.length = cs'.length := by have := congrArg List.length b2; rwa [yng, yng] at this
           split at h1
           ·rename_i hb2
            rw [hl] at hb2
            rw [hb2]
            cases h1
            refine ⟨_, rfl, ?_⟩
            simp only [aT, ycs] at b2 ⊢
            rw [List.map_take, List.map_drop, List.map_take, List.map_drop, b2]
           ·cases h1
          ·cases h1
         ·cases h1
    obtain ⟨v', k1, k2⟩ := key
    exact ⟨v' :: us', by simp only [ydp, k1, e1], by simp only [aTs, k2, e2]⟩
   ·cases h
theorem ys1 {C : Cx K} {sp : Sl K} {fs : List (FV K)} {env out : List (DV K)} (hE : okS sp env = true) {χ : Nat → Nat → Bool} {H : Hp} {n : Nat} {av : AV} {S1 : St} (h : EndL C sp (entL C sp fs env) χ out H n av S1) :
  TT C sp (endT C sp (entL C sp fs env) out) ∧ EndK C sp (endT C sp (entL C sp fs env) out) χ H n av S1 := by
 obtain ⟨env', χ', h0, h1, h2, h3, ⟨us, hus, h4⟩, h5, h6, _, h7⟩ := h
 obtain ⟨a2, a3, a4⟩ := yzu hE h0 h1
 have a1 := yvy (C := C) (fs := fs) hE a2
 have htb : ∀ s c, (endT C sp (entL C sp fs env) out).tb s c = (bdT C sp.to [] [] env').tb s c ∨ eqB ((endT C sp (entL C sp fs env) out).tb s c) ((bdT C sp.to [] [] env').tb s c) := by
  intro s c
  unfold TS.tb
  cases Nat.beq c 1 with
  | true => exact a4 s
  | false => cases Nat.beq c 2 with
    | true => left; rfl
    | false => left; rfl
 have hln : ∀ s c, tln ((bdT C sp.to [] [] env').tb s c) = tln ((endT C sp (entL C sp fs env) out).tb s c) := by
  intro s c
  rcases htb s c with e | e
  ·rw [e]
  ·exact ((yse (C := C) (t := bdT C sp.to [] [] env') (χ := χ') e).1).symm
 refine ⟨a1, χ', fun s c hx => ?_, fun s b hs hb => ?_, ?_, h5, h6, fun s b hb hx => ?_⟩
 ·obtain ⟨e, he⟩ := h2 s c hx
  rcases htb s c with q | q
  ·exact ⟨e, by rw [q]; exact he⟩
  ·exact ⟨e, (yse (C := C) (t := bdT C sp.to [] [] env') (χ := χ') q).2.2.1 e he⟩
 ·rcases htb s 1 with q | q
  ·exact h3 s b hs (by rw [← q]; exact hb)
  ·have e2 := (yse (C := C) (t := bdT C sp.to [] [] env') (χ := χ') q).2.1
   rw [hb] at e2
   cases hq : (bdT C sp.to [] [] env').tb s 1 with
   | none => rw [hq] at e2; cases e2
   | some b1 => exact h3 s b1 hs hq
 ·obtain ⟨us', e1, e2⟩ := yrZ (C := C) (χ := χ') a3 htb hus
  exact ⟨us', e1, by rw [h4, e2, yhO hln]⟩
 ·have hb' : bTx C (bdT C sp.to [] [] env') χ' (lkB (bdT C sp.to [] [] env').od s) = bTx C (bdT C sp.to [] [] env') χ' (some b) := by
   rcases a4 s with q | q
   ·rw [← q, hb]
   ·have := (yse (C := C) (t := bdT C sp.to [] [] env') (χ := χ') q).2.1
    rw [hb] at this
    exact this.symm
  cases hq : lkB (bdT C sp.to [] [] env').od s with
  | none => rw [hq] at hb'; cases hb'
  | some b1 =>
    rw [hq] at hb'
    have e3 := h7 s b1 hq hx
    rw [e3]
    have e4 : bT C (bdT C sp.to [] [] env') χ' b1 = bT C (bdT C sp.to [] [] env') χ' b := Option.some.inj hb'
    rw [e4]
    cases b <;> simp only [bT, yhO hln]
end Go.AV
end
noncomputable section
namespace Go.AV
open Go.RowKit Go.RG Go.Lib
variable {K : Nat → Type}
structure MOk (ts ts0 : TS K) (M : RM) (τ : Tm) : Prop where
 nod : (plsR M.r ++ M.b.map (·.2)).Nodup
 b : ∀ s k, lkA M.b s = some k → s ∈ τ.bx.map (·.1) ∧ ∃ e cs, ts.tb k.1 k.2 = some (.box e cs)
 r : ∀ s o, lkA M.r s = some o → s ∈ τ.rw.map (·.1)
 rk : ∀ s k, lkA M.r s = some (some k) → ∃ n, tln (ts.tb k.1 k.2) = some n ∧ tln (ts0.tb s 1) = some n
 bx : ∀ s ∈ τ.bx.map (·.1), ∃ k, lkA M.b s = some k
 rw : ∀ s ∈ τ.rw.map (·.1), ∃ o, lkA M.r s = some o
theorem yo4 {α : Type} {l : List (Nat × α)} {s : Nat} : (l.any fun q => Nat.beq q.1 s) = true ↔ s ∈ l.map (·.1) := by
 rw [List.any_eq_true]
 constructor
 ·rintro ⟨x, hx, h⟩; rw [← nbeq.1 h]; exact List.mem_map_of_mem hx
 ·intro h; obtain ⟨x, hx, rfl⟩ := List.mem_map.1 h; exact ⟨x, hx, nbeq.2 rfl⟩
section
variable {P : Program} {C : Cx K} {R : RR K} {ts : TS K} {χ : Nat → Nat → Bool} {ds : DS}
theorem ywt (hC : CxOk P C) {τ : Tm} (ho : TmOk τ) {env : List (DV K)} {M : RM} (h : rdM C τ ts = some (env, M)) (hγ : GM P C R ts χ ds) : MOk ts (bdT C τ [] [] env) M τ := by
 have hw := ywa h
 unfold rdM at h
 split at h
 rotate_left
 ·cases h
 rename_i a m1 h1
 split at h
 rotate_left
 ·cases h
 rename_i b M' h2
 split at h
 rotate_left
 ·cases h
 rename_i c h3 h4
 simp only [Option.some.injEq, Prod.mk.injEq] at h
 obtain ⟨rfl, rfl⟩ := h
 simp only [Bool.and_eq_true] at h4
 obtain ⟨hnod, hdom⟩ := h4
 simp only [ys2, Bool.and_eq_true] at hdom
 obtain ⟨⟨hdb, hdr⟩, hdis⟩ := hdom
 obtain ⟨_, t2⟩ := yrG (P := P) (ts1 := ts) (rg := []) (χ := χ) (ξ := fun _ => false) (ρ := fun _ => none) (ds := ds) (p := fun _ => False) hC (fun id w q => by cases q) τ.bx m1 M' b h2
 obtain ⟨od1, e2, g2, f2⟩ := t2 c
 obtain ⟨gb1, gb2⟩ := yr3 τ.rw c h3
 have hbx : ∀ s ∈ τ.bx.map (·.1), ∃ q e cs, lkA M'.b s = some q ∧ ts.tb q.1 q.2 = some (.box e cs) := fun s hs => by
  obtain ⟨q, e, cs, cs1, a1, a2, _⟩ := f2 s (by rw [g2]; exact yo4.2 hs)
  exact ⟨q, e, cs, a1, a2⟩
 have hrw : ∀ s ∈ τ.rw.map (·.1), lkA M'.r s = some none ∨ ∃ q n, lkA M'.r s = some (some q) ∧ tln (ts.tb q.1 q.2) = some n ∧ tln ((bdT C τ [] [] (a ++ b ++ c)).tb s 1) = some n := fun s hs => by
  obtain ⟨e, ⟨a1, _⟩ | ⟨q, l', a1, a2, a3⟩⟩ := gb2 s (by rw [gb1]; exact yo4.2 hs)
  ·exact .inl a1
  ·refine .inr ⟨q, l'.length, a1, (hγ.trow hC a2).1, ?_⟩
   have hod : (bdT C τ [] [] (a ++ b ++ c)).od = (bdB C [] τ.bx b).1 ++ bdR τ.rw c := by
    unfold bdT
    rw [List.append_assoc, yqg τ.ks a (b ++ c) (yr5 _ _ _ _ h1)]
    simp only
    rw [ypk τ.bx b c (yrW _ _ _ _ h2)]
   have hl : lkB (bdT C τ [] [] (a ++ b ++ c)).od s = some (.row e l') := by
    refine ydI (by rw [(yhR (C := C) (rg := []) (hh := []) hw).1]; exact ho.nd) ?_
    rw [hod]; exact List.mem_append_right _ (ygo a3)
   show tln (lkB (bdT C τ [] [] (a ++ b ++ c)).od s) = _
   rw [hl]; rfl
 refine ⟨yk6 hnod, fun s k hs => ?_, fun s o hs => yo4.1 (ydY hs hdr), fun s k hs => ?_, fun s hs => ?_, fun s hs => ?_⟩
 ·have hm := yo4.1 (ydY hs hdb)
  obtain ⟨q, e, cs, a1, a2⟩ := hbx s hm
  rw [hs] at a1; cases a1
  exact ⟨hm, e, cs, a2⟩
 ·rcases hrw s (yo4.1 (ydY hs hdr)) with q | ⟨q, n, a1, a2, a3⟩
  ·rw [hs] at q; cases q
  ·rw [hs] at a1; cases a1; exact ⟨n, a2, a3⟩
 ·obtain ⟨q, e, cs, a1, _⟩ := hbx s hs; exact ⟨q, a1⟩
 ·rcases hrw s hs with q | ⟨q, n, a1, _⟩
  ·exact ⟨_, q⟩
  ·exact ⟨_, a1⟩
end
theorem yk3 : ∀ (a b : List (Nat × Option (TB K))) (s : Nat), memB (a ++ b) s = (memB a s || memB b s)
 | [], b, s => rfl
 | p :: a, b, s => by
   show (Nat.beq p.1 s || memB (a ++ b) s) = ((Nat.beq p.1 s || memB a s) || memB b s)
   rw [yk3 a b s, Bool.or_assoc]
section
variable {m : RM} {n : Nat → Nat}
theorem yug (c : Nat) : ∀ (l r : List (Nat × Option (TB K))) (s : Nat), lkB (plL m n c l ++ r) s = match l.find? (fun p => decide (plQ m n p.1 = some (s, c))) with
  | some p => mapB (plV m n) p.2
  | none => lkB r s
 | [], r, s => rfl
 | p :: l, r, s => by
   have ih := yug c l r s
   simp only [plL, List.find?]
   cases hq : plQ m n p.1 with
   | none => simp only [reduceCtorEq, decide_false]; exact ih
   | some q =>
     simp only
     cases hb : Nat.beq q.2 c with
     | true =>
       have := nbeq.1 hb
       rw [List.cons_append, ybT]
       by_cases hs : q.1 = s
       ·rw [if_pos hs]
        have : (some q = some (s, c)) := by rw [← hs, ← this]
        simp only [this, decide_true]
       ·rw [if_neg hs]
        have : ¬ (some q = some (s, c)) := fun e => hs (by rw [Option.some.inj e])
        simp only [this, decide_false]; exact ih
     | false =>
       have : ¬ (some q = some (s, c)) := fun e => by rw [Option.some.inj e, nbeq.2 rfl] at hb; cases hb
       simp only [this, decide_false]; exact ih
theorem yqY (c : Nat) : ∀ (l : List (Nat × Option (TB K))) (s : Nat), memB (plL m n c l) s = true ↔ ∃ p ∈ l, plQ m n p.1 = some (s, c)
 | [], s => ⟨fun h => (by cases h), fun ⟨p, hp, _⟩ => (by cases hp)⟩
 | p :: l, s => by
   have ih := yqY c l s
   simp only [plL]
   have skip : (¬ plQ m n p.1 = some (s, c)) → (memB (plL m n c l) s = true ↔ ∃ q ∈ p :: l, plQ m n q.1 = some (s, c)) := by
    intro h
    rw [ih]
    constructor
    ·rintro ⟨q, hq, e⟩; exact ⟨q, List.mem_cons_of_mem _ hq, e⟩
    ·rintro ⟨q, hq, e⟩
     rcases List.mem_cons.1 hq with rfl | hq
     ·exact absurd e h
     ·exact ⟨q, hq, e⟩
   split
   ·rename_i q hq
    split
    ·rename_i hb
     have hc := nbeq.1 hb
     show (Nat.beq q.1 s || memB (plL m n c l) s) = true ↔ _
     rw [Bool.or_eq_true, ih]
     constructor
     ·rintro (h | ⟨x, hx, e⟩)
      ·exact ⟨p, List.mem_cons_self, by rw [hq, ← nbeq.1 h, ← hc]⟩
      ·exact ⟨x, List.mem_cons_of_mem _ hx, e⟩
     ·rintro ⟨x, hx, e⟩
      rcases List.mem_cons.1 hx with rfl | hx
      ·rw [hq] at e; left; rw [Option.some.inj e]; exact nbeq.2 rfl
      ·exact .inr ⟨x, hx, e⟩
    ·rename_i hb
     exact skip fun e => by rw [hq] at e; rw [Option.some.inj e, nbeq.2 rfl] at hb; cases hb
   ·rename_i hq; exact skip fun e => by rw [hq] at e; cases e
end
theorem yuy (g : Nat × Nat → Option KB) (c : Nat) : ∀ (l : List (Nat × Nat)) (r : List (Nat × Option KB)) (s : Nat), lkO ((l.filterMap fun q => if q.2 = c then some (q.1, g q) else none) ++ r) s = if (s, c) ∈ l then g (s, c) else lkO r s
 | [], r, s => by simp
 | q :: l, r, s => by
   have ih := yuy g c l r s
   rw [List.filterMap_cons]
   by_cases hc : q.2 = c
   ·simp only [if_pos hc]
    rw [List.cons_append, yg8]
    by_cases hs : q.1 = s
    ·have e : q = (s, c) := Prod.ext hs hc
     simp only [hs, if_true]
     rw [if_pos (by rw [e]; exact List.mem_cons_self), e]
    ·rw [if_neg hs, ih]
     have : (s, c) ≠ q := fun e => hs (by rw [← e])
     simp only [List.mem_cons, this, false_or]
   ·simp only [if_neg hc]
    rw [ih]
    have : (s, c) ≠ q := fun e => hc (by rw [← e])
    simp only [List.mem_cons, this, false_or]
theorem yln (g : Nat × Nat → Option KB) (c : Nat) : ∀ (l : List (Nat × Nat)) (r : List (Nat × Option KB)) (s : Nat), memO ((l.filterMap fun q => if q.2 = c then some (q.1, g q) else none) ++ r) s = true ↔ (s, c) ∈ l ∨ memO r s = true
 | [], r, s => by simp
 | q :: l, r, s => by
   have ih := yln g c l r s
   rw [List.filterMap_cons]
   by_cases hc : q.2 = c
   ·simp only [if_pos hc]
    rw [List.cons_append]
    show (Nat.beq q.1 s || memO _ s) = true ↔ _
    rw [Bool.or_eq_true, ih, nbeq, List.mem_cons]
    constructor
    ·rintro (h | h | h)
     ·exact .inl (.inl (Prod.ext h.symm hc.symm))
     ·exact .inl (.inr h)
     ·exact .inr h
    ·rintro ((h | h) | h)
     ·exact .inl (by rw [← h])
     ·exact .inr (.inl h)
     ·exact .inr (.inr h)
   ·simp only [if_neg hc]
    rw [ih, List.mem_cons]
    have : (s, c) ≠ q := fun e => hc (by rw [← e])
    simp only [this, false_or]
theorem yiW {α β : Type} {f : α → β} (hf : ∀ x y, f x = f y → x = y) : ∀ {l : List α}, l.Nodup → (l.map f).Nodup
 | [], _ => List.nodup_nil
 | a :: l, h => by
   obtain ⟨h1, h2⟩ := List.nodup_cons.1 h
   refine List.nodup_cons.2 ⟨fun hm => ?_, yiW hf h2⟩
   obtain ⟨b, hb, e⟩ := List.mem_map.1 hm
   rw [hf b a e] at hb; exact h1 hb
def goL (t : TS K) (χ' : Nat → Nat → Bool) (M : RM) (n : Nat → Nat) (x : Nat) : Option K2 := match lkB t.od x, χ' x 1 with
 | some _, false => plQ M n x
 | _, _ => none
def gOut (t : TS K) (χ' : Nat → Nat → Bool) (M : RM) (n : Nat → Nat) : List (K2 × K2) := (innM (goL t χ' M n) t.od).map fun p => ((p.1, 1), p.2)
def gBs (t : TS K) (χ' : Nat → Nat → Bool) (M : RM) (n : Nat → Nat) : List Nat := ((innM (goL t χ' M n) t.od).filter fun p => !Nat.ble 2000000 p.1).map fun p => p.2.1
def gChi (sp : Sl K) (t : TS K) (χ χ' : Nat → Nat → Bool) (M : RM) (n : Nat → Nat) (s c : Nat) : Bool := match (yh0 sp t).find? (fun p => decide (plQ M n p.1 = some (s, c))) with
 | some p => p.2.isSome && χ' p.1 1
 | none => χ s c
def gKb (C : Cx K) (t : TS K) (χ' : Nat → Nat → Bool) (out : List (K2 × K2)) (q : Nat × Nat) : Option KB := match lkZ out q with
 | some x => (lkB t.od x.1).map fun b => ⟨(bT C t χ' b).e, (bT C t χ' b).sz, reAs (fun d c => lkE out (d, c)) (bT C t χ' b).cells, false⟩
 | none => none
def gDs (C : Cx K) (t : TS K) (χ' : Nat → Nat → Bool) (inn : List (Nat × K2)) (out : List (K2 × K2)) (ds : DS) : DS :=
 let pl := out.map (·.2) ++ inn.map (·.2)
 ⟨ds.fr, (pl.filterMap fun q => if q.2 = 1 then some (q.1, gKb C t χ' out q) else none) ++ ds.od, (pl.filterMap fun q => if q.2 = 2 then some (q.1, gKb C t χ' out q) else none) ++ ds.nw, ds.H, ds.nx⟩
section
variable {P : Program} {C : Cx K} {R : RR K} {ts ts0 t : TS K} {χ χ' : Nat → Nat → Bool} {ds : DS}
structure CE (P : Program) (C : Cx K) (R : RR K) (ts ts0 t : TS K) (χ χ' : Nat → Nat → Bool) (ds : DS) (sp : Sl K) (d : Option Nat) (M : RM) (inn : List (Nat × K2)) : Prop where
 hC : CxOk P C
 hγ : GM P C R ts χ ds
 hk : DOk ds
 hM : MOk ts ts0 M sp.ti
 hti : TmOk sp.ti
 h0 : ∀ s, s ∈ tiN sp → s ∈ ts0.od.map (·.1)
 hin : ∀ s k, (s, k) ∈ inn ↔ rhoM χ M s = some k ∧ s ∈ ts0.od.map (·.1)
 n2 : (inn.map (·.2)).Nodup
 big : ∀ s ∈ tiN sp, 2000000 ≤ s
 tbx : ∀ s ∈ sp.te.bx.map (·.1), 2000000 ≤ s → s ∈ sp.ti.bx.map (·.1)
 trw : ∀ s ∈ sp.te.rw.map (·.1), 2000000 ≤ s → s ∈ sp.ti.rw.map (·.1)
 fresh : ∀ s ∈ newL sp, 1000000 ≤ s ∧ s < 1000064 ∧ memB ts.nw (yao d s) = false ∧ yao d s < 2000000
 tt : TT C sp t
 vi : ViOk t χ'
 lv : ∀ s b, 2000000 ≤ s → t.tb s 1 = some b → χ' s 1 = xiM χ M s
 len : ∀ s k, 2000000 ≤ s → tln (t.tb s 1) = some k → tln (ts0.tb s 1) = some k
variable {sp : Sl K} {d : Option Nat} {M : RM} {inn : List (Nat × K2)}
theorem CE.obx (h : CE P C R ts ts0 t χ χ' ds sp d M inn) {s : Nat} (hs : s ∈ sp.to.bx.map (·.1)) (hb : 2000000 ≤ s) : s ∈ sp.ti.bx.map (·.1) := by
 obtain ⟨k, hk, rfl⟩ := List.mem_map.1 hs
 rcases List.mem_append.1 (show k ∈ sp.te.bx ++ sp.kbx from hk) with hk | hk
 ·exact h.tbx _ (List.mem_map_of_mem hk) hb
 ·exact List.mem_map_of_mem (List.mem_filter.1 hk).1
theorem CE.orw (h : CE P C R ts ts0 t χ χ' ds sp d M inn) {s : Nat} (hs : s ∈ sp.to.rw.map (·.1)) (hb : 2000000 ≤ s) : s ∈ sp.ti.rw.map (·.1) := by
 obtain ⟨k, hk, rfl⟩ := List.mem_map.1 hs
 rcases List.mem_append.1 (show k ∈ sp.te.rw ++ sp.krw from hk) with hk | hk
 ·exact h.trw _ (List.mem_map_of_mem hk) hb
 ·exact List.mem_map_of_mem (List.mem_filter.1 hk).1
theorem CE.nob (h : CE P C R ts ts0 t χ χ' ds sp d M inn) {s : Nat} (hs : s ∈ sp.ti.rw.map (·.1)) : lkA M.b s = none := by
 cases hq : lkA M.b s with
 | none => rfl
 | some k => exact ((List.nodup_append.1 h.hti.nd).2.2 s (h.hM.b s k hq).1 s hs rfl).elim
theorem CE.big' (_h : CE P C R ts ts0 t χ χ' ds sp d M inn) {s : Nat} {q : Nat × Nat} (hb : 2000000 ≤ s) (hq : plQ M (yao d) s = some q) : lkA M.b s = some q ∨ (lkA M.b s = none ∧ lkA M.r s = some (some q)) := by
 unfold plQ at hq
 rw [Nat.ble_eq_true_of_le hb] at hq
 simp only at hq
 split at hq
 ·rename_i k e; cases hq; exact .inl e
 ·rename_i e
  split at hq
  ·rename_i k e2; cases hq; exact .inr ⟨e, e2⟩
  ·cases hq
theorem yb0 {s : Nat} (hb : ¬ 2000000 ≤ s) : plQ M (yao d) s = some (yao d s, 2) := by
 unfold plQ
 have : Nat.ble 2000000 s = false := by cases hq : Nat.ble 2000000 s with | false => rfl | true => exact absurd (Nat.le_of_ble_eq_true hq) hb
 rw [this]
theorem ynn {s : Nat} {k : Nat × Nat} (hb : 2000000 ≤ s) (hq : lkA M.b s = some k) : plQ M (yao d) s = some k := by
 unfold plQ
 rw [Nat.ble_eq_true_of_le hb]
 simp only [hq]
theorem yrh {s : Nat} {k : Nat × Nat} (hb : 2000000 ≤ s) (hn : lkA M.b s = none) (hq : lkA M.r s = some (some k)) : plQ M (yao d) s = some k := by
 unfold plQ
 rw [Nat.ble_eq_true_of_le hb]
 simp only [hn, hq]
theorem CE.lent (h : CE P C R ts ts0 t χ χ' ds sp d M inn) {s : Nat} {q : Nat × Nat} (hb : 2000000 ≤ s) (hq : plQ M (yao d) s = some q) : ∃ b, ts.tb q.1 q.2 = some b := by
 rcases h.big' hb hq with e | ⟨_, e⟩
 ·obtain ⟨_, e, cs, hc⟩ := h.hM.b s q e; exact ⟨_, hc⟩
 ·obtain ⟨n, hn, _⟩ := h.hM.rk s q e
  cases ht : ts.tb q.1 q.2 with
  | none => rw [ht] at hn; cases hn
  | some b => exact ⟨b, rfl⟩
theorem CE.newm (h : CE P C R ts ts0 t χ χ' ds sp d M inn) {s : Nat} (hs : s ∈ t.od.map (·.1)) (hb : ¬ 2000000 ≤ s) : s ∈ newL sp := by
 have hsm : Nat.ble 2000000 s = false := by cases hq : Nat.ble 2000000 s with | false => rfl | true => exact absurd (Nat.le_of_ble_eq_true hq) hb
 unfold newL
 rw [List.mem_filter]
 refine ⟨?_, by rw [hsm]; rfl⟩
 rw [h.tt.nm] at hs
 simp only [List.mem_append] at hs ⊢
 rcases hs with ((hs | hs) | hs) | hs
 ·exact .inl hs
 ·obtain ⟨k, hk, rfl⟩ := List.mem_map.1 hs
  exact absurd (h.big k.1 (List.mem_append_left _ (List.mem_map_of_mem (f := (·.1)) (List.mem_filter.1 hk).1))) hb
 ·exact .inr hs
 ·obtain ⟨k, hk, rfl⟩ := List.mem_map.1 hs
  exact absurd (h.big k.1 (List.mem_append_right _ (List.mem_map_of_mem (f := (·.1)) (List.mem_filter.1 hk).1))) hb
theorem CE.new (h : CE P C R ts ts0 t χ χ' ds sp d M inn) {s : Nat} (hs : s ∈ t.od.map (·.1)) (hb : ¬ 2000000 ≤ s) : 1000000 ≤ s ∧ s < 1000064 ∧ memB ts.nw (yao d s) = false ∧ yao d s < 2000000 :=
 h.fresh s (h.newm hs hb)
theorem CE.inj (h : CE P C R ts ts0 t χ χ' ds sp d M inn) {s s' : Nat} {q : Nat × Nat} (hs : s ∈ t.od.map (·.1) ∨ s ∈ tiN sp) (hs' : s' ∈ t.od.map (·.1) ∨ s' ∈ tiN sp) (hq : plQ M (yao d) s = some q) (hq' : plQ M (yao d) s' = some q) : s = s' := by
 have nl : ∀ {x y : Nat}, y ∈ t.od.map (·.1) → 2000000 ≤ x → ¬ 2000000 ≤ y → plQ M (yao d) x = some q → plQ M (yao d) y = some q → False := by
  intro x y hy hx hn e1 e2
  obtain ⟨b, hb⟩ := h.lent hx e1
  rw [yb0 hn] at e2
  cases e2
  have := (h.new hy hn).2.2.1
  have hm : memB ts.nw (yao d y) = true := yfO (show lkB ts.nw (yao d y) = some b from hb)
  rw [this] at hm; cases hm
 have tb : ∀ {x : Nat}, (x ∈ t.od.map (·.1) ∨ x ∈ tiN sp) → ¬ 2000000 ≤ x → x ∈ t.od.map (·.1) := fun hx hn => hx.elim id fun hx => absurd (h.big _ hx) hn
 by_cases b1 : 2000000 ≤ s <;> by_cases b2 : 2000000 ≤ s'
 ·obtain ⟨nr, nb, nd⟩ := List.nodup_append.1 h.hM.nod
  rcases h.big' b1 hq with e1 | ⟨_, e1⟩ <;> rcases h.big' b2 hq' with e2 | ⟨_, e2⟩
  ·exact yk0 nb e1 e2
  ·exact absurd rfl (nd q (ydu e2) q (ydw e1))
  ·exact absurd rfl (nd q (ydu e1) q (ydw e2))
  ·exact yio nr e1 e2
 ·exact (nl (tb hs' b2) b1 b2 hq hq').elim
 ·exact (nl (tb hs b1) b2 b1 hq' hq).elim
 ·rw [yb0 b1] at hq; rw [yb0 b2] at hq'
  have : yao d s = yao d s' := by rw [← hq'] at hq; exact congrArg Prod.fst (Option.some.inj hq)
  unfold yao at this; omega
theorem CE.fnd (h : CE P C R ts ts0 t χ χ' ds sp d M inn) {q : Nat × Nat} : ((yh0 sp t).find? (fun p => decide (plQ M (yao d) p.1 = some q)) = none ∧ (∀ s, s ∈ t.od.map (·.1) ∨ s ∈ tiN sp → plQ M (yao d) s ≠ some q)) ∨
  (∃ p ∈ t.od, plQ M (yao d) p.1 = some q ∧ (yh0 sp t).find? (fun p => decide (plQ M (yao d) p.1 = some q)) = some p) ∨
  (∃ p, p.2 = none ∧ p.1 ∈ tiN sp ∧ plQ M (yao d) p.1 = some q ∧ p.1 ∉ t.od.map (·.1) ∧ (yh0 sp t).find? (fun p => decide (plQ M (yao d) p.1 = some q)) = some p) := by
 cases hf : (yh0 sp t).find? (fun p => decide (plQ M (yao d) p.1 = some q)) with
 | none =>
   have := List.find?_eq_none.1 hf
   refine .inl ⟨rfl, fun s hs e => ?_⟩
   rcases hs with hs | hs
   ·obtain ⟨p, hp, rfl⟩ := List.mem_map.1 hs
    exact this p (List.mem_append_left _ hp) (decide_eq_true e)
   ·exact this (s, none) (List.mem_append_right _ (List.mem_map_of_mem (f := fun s => (s, none)) hs)) (decide_eq_true e)
 | some p =>
   have e : plQ M (yao d) p.1 = some q := by have := List.find?_some hf; simpa using this
   unfold yh0 at hf
   rw [List.find?_append] at hf
   cases hg : t.od.find? (fun p => decide (plQ M (yao d) p.1 = some q)) with
   | some p' =>
     rw [hg] at hf
     simp only [Option.some_or, Option.some.injEq] at hf
     subst hf
     exact .inr (.inl ⟨p', List.mem_of_find?_eq_some hg, e, rfl⟩)
   | none =>
     rw [hg] at hf
     simp only [Option.none_or] at hf
     have hm := List.mem_of_find?_eq_some hf
     obtain ⟨s, hs, rfl⟩ := List.mem_map.1 hm
     refine .inr (.inr ⟨_, rfl, hs, e, fun hn => ?_, rfl⟩)
     obtain ⟨p', hp', e'⟩ := List.mem_map.1 hn
     have := List.find?_eq_none.1 hg p' hp'
     exact this (decide_eq_true (by rw [e']; exact e))
theorem CE.at_told (h : CE P C R ts ts0 t χ χ' ds sp d M inn) {p : Nat × Option (TB K)} (hp : p ∈ t.od) {q : Nat × Nat} (hq : plQ M (yao d) p.1 = some q) : (yh0 sp t).find? (fun p => decide (plQ M (yao d) p.1 = some q)) = some p := by
 rcases h.fnd (q := q) with ⟨_, h2⟩ | ⟨p', h1, h2, h3⟩ | ⟨p', _, h2, h3, h4, _⟩
 ·exact absurd hq (h2 p.1 (.inl (List.mem_map_of_mem (f := (·.1)) hp)))
 ·rw [h3]
  have e := h.inj (.inl (List.mem_map_of_mem (f := (·.1)) h1)) (.inl (List.mem_map_of_mem (f := (·.1)) hp)) h2 hq
  have e2 : p'.2 = p.2 := by rw [← ydI h.tt.nd (show (p'.1, p'.2) ∈ _ from h1), e, ydI h.tt.nd (show (p.1, p.2) ∈ _ from hp)]
  rw [show p' = p from Prod.ext e e2]
 ·have e := h.inj (.inr h2) (.inl (List.mem_map_of_mem (f := (·.1)) hp)) h3 hq
  exact absurd (by rw [e]; exact List.mem_map_of_mem (f := (·.1)) hp) h4
theorem ygt (s c : Nat) (hc : c = 1 ∨ c = 2) : (aft0 sp (yao d) M t ts).tb s c = match (yh0 sp t).find? (fun p => decide (plQ M (yao d) p.1 = some (s, c))) with
  | some p => mapB (plV M (yao d)) p.2
  | none => ts.tb s c := by
 rcases hc with rfl | rfl
 ·exact yug 1 _ _ s
 ·exact yug 2 _ _ s
theorem CE.qc (h : CE P C R ts ts0 t χ χ' ds sp d M inn) {s : Nat} {q : Nat × Nat} (hq : plQ M (yao d) s = some q) : q.2 = 1 ∨ q.2 = 2 := by
 by_cases hb : 2000000 ≤ s
 ·obtain ⟨b, hb⟩ := h.lent hb hq; exact tb_c hb
 ·rw [yb0 hb] at hq; cases hq; exact .inr rfl
theorem CE.told_tb (h : CE P C R ts ts0 t χ χ' ds sp d M inn) {p : Nat × Option (TB K)} (hp : p ∈ t.od) {q : Nat × Nat} (hq : plQ M (yao d) p.1 = some q) : (aft0 sp (yao d) M t ts).tb q.1 q.2 = mapB (plV M (yao d)) p.2 ∧ gChi sp t χ χ' M (yao d) q.1 q.2 = (p.2.isSome && χ' p.1 1) := by
 have := h.at_told hp (q := q) hq
 refine ⟨?_, ?_⟩
 ·rw [ygt q.1 q.2 (h.qc hq), this]
 ·unfold gChi; rw [this]
theorem CE.tsome (h : CE P C R ts ts0 t χ χ' ds sp d M inn) {p : Nat × Option (TB K)} (hp : p ∈ t.od) : ∃ b, p.2 = some b ∧ lkB t.od p.1 = some b := by
 have := ydI h.tt.nd (show (p.1, p.2) ∈ _ from hp)
 rcases h.tt.ent p hp with ⟨⟨e, l, x, _, _, e3⟩, _⟩ | ⟨⟨e, l, e3⟩, _⟩
 ·exact ⟨_, e3, by rw [this, e3]⟩
 ·exact ⟨_, e3, by rw [this, e3]⟩
theorem CE.bxχ (h : CE P C R ts ts0 t χ χ' ds sp d M inn) {s : Nat} (hs : isBx (t.tb s 1) = true) : χ' s 1 = false := by
 cases hx : χ' s 1 with
 | false => rfl
 | true => obtain ⟨e, he⟩ := h.vi s 1 hx; rw [he] at hs; cases hs
theorem CE.lrow (h : CE P C R ts ts0 t χ χ' ds sp d M inn) {s : Nat} (hs : s ∈ sp.to.rw.map (·.1)) (hb : 2000000 ≤ s) : lkA M.b s = none ∧ ∃ o, lkA M.r s = some o ∧ χ' s 1 = (match o with | none => true | some k => χ k.1 k.2) := by
 have h1 := h.orw hs hb
 have h2 := h.nob h1
 obtain ⟨o, ho⟩ := h.hM.rw s h1
 refine ⟨h2, o, ho, ?_⟩
 cases hq : t.tb s 1 with
 | none => have := h.tt.rw s hs; rw [hq] at this; cases this
 | some b =>
   rw [h.lv s b hb hq]
   unfold xiM
   rw [h2, ho]
   cases o <;> rfl
theorem CE.mono (h : CE P C R ts ts0 t χ χ' ds sp d M inn) : Mono ts (aft0 sp (yao d) M t ts) χ (gChi sp t χ χ' M (yao d)) := by
 refine ⟨fun _ _ q => q, fun s c q => ?_, fun s c q => ?_⟩
 ·rcases q with q | ⟨q1, q2⟩
  ·exact .inl q
  ·refine .inr ⟨q1, ?_⟩
   show memB (plL M (yao d) 2 (yh0 sp t) ++ ts.nw) s = true
   rw [yk3, q2, Bool.or_true]
 ·have hc : c = 1 ∨ c = 2 := q.elim .inl fun q => .inr q.1
  rcases h.fnd (q := (s, c)) with ⟨h1, h2⟩ | ⟨p, h1, h2, h3⟩ | ⟨p, h1, h2, h3, h4, h5⟩
  ·right
   rw [ygt s c hc, h1]
   unfold gChi
   rw [h1]
   exact ⟨rfl, rfl⟩
  ·obtain ⟨b, e1, e2⟩ := h.tsome h1
   obtain ⟨g1, g2⟩ := h.told_tb h1 h2
   have hb : 2000000 ≤ p.1 := by
    apply Decidable.byContradiction
    intro hn
    rw [yb0 hn] at h2
    cases h2
    have := (h.new (List.mem_map_of_mem (f := (·.1)) h1) hn).2.2.1
    rcases q with q | ⟨_, q⟩
    ·cases q
    ·rw [this] at q; cases q
   rcases h.tt.ent p h1 with ⟨⟨e, l, x, _, _, e3⟩, e4⟩ | ⟨⟨e, l, e3⟩, e4⟩
   ·left
    rw [g1, g2, e3]
    exact ⟨rfl, by rw [h.bxχ (h.tt.bx p.1 e4)]; rfl⟩
   ·right
    obtain ⟨a1, o, a2, a3⟩ := h.lrow e4 hb
    have a4 : lkA M.r p.1 = some (some (s, c)) := by
     rcases h.big' hb h2 with e | ⟨_, e⟩
     ·rw [a1] at e; cases e
     ·exact e
    rw [a2] at a4; cases a4
    have htl : tln (t.tb p.1 1) = some l.length := by
     show tln (lkB t.od p.1) = _
     rw [e2, ← e1, e3]; rfl
    obtain ⟨k, k1, k2⟩ := h.hM.rk p.1 (s, c) a2
    have := h.len p.1 _ hb htl
    rw [k2] at this; cases this
    rw [g1, g2, e3]
    exact ⟨k1.symm, by rw [a3]; rfl⟩
  ·left
   rw [ygt s c hc, h5]
   unfold gChi
   rw [h5]
   simp only [h1]
   exact ⟨rfl, rfl⟩
theorem CE.okt (h : CE P C R ts ts0 t χ χ' ds sp d M inn) {s : Nat} {q : Nat × Nat} (hs : s ∈ t.od.map (·.1) ∨ s ∈ tiN sp) (hq : plQ M (yao d) s = some q) : okr (aft0 sp (yao d) M t ts) q.1 q.2 := by
 by_cases hb : 2000000 ≤ s
 ·obtain ⟨b, hb⟩ := h.lent hb hq
  exact h.mono.ok _ _ (yx5 hb)
 ·have hs' : s ∈ t.od.map (·.1) := hs.elim id fun hs => absurd (h.big _ hs) hb
  rcases h.qc hq with e | e
  ·exact .inl e
  ·refine .inr ⟨e, ?_⟩
   show memB (plL M (yao d) 2 (yh0 sp t) ++ ts.nw) q.1 = true
   rw [yk3]
   obtain ⟨p, hp, rfl⟩ := List.mem_map.1 hs'
   rw [(yqY 2 (yh0 sp t) q.1).2 ⟨p, List.mem_append_left _ hp, by rw [hq, ← e]⟩]; rfl
theorem CE.go (h : CE P C R ts ts0 t χ χ' ds sp d M inn) {s : Nat} {q : K2} : ((s, 1), q) ∈ gOut t χ' M (yao d) ↔ s ∈ t.od.map (·.1) ∧ χ' s 1 = false ∧ plQ M (yao d) s = some q := by
 unfold gOut
 rw [List.mem_map]
 constructor
 ·rintro ⟨p, hp, e⟩
  obtain ⟨a, b⟩ := ydy.1 (show (p.1, p.2) ∈ _ from hp)
  simp only [Prod.mk.injEq, and_true] at e
  obtain ⟨rfl, rfl⟩ := e
  refine ⟨b, ?_⟩
  unfold goL at a
  split at a
  ·rename_i e1 e2; exact ⟨e2, a⟩
  ·cases a
 ·rintro ⟨a, b, c⟩
  refine ⟨(s, q), ydy.2 ⟨?_, a⟩, rfl⟩
  obtain ⟨p, hp, rfl⟩ := List.mem_map.1 a
  obtain ⟨b0, _, e2⟩ := h.tsome hp
  unfold goL
  rw [e2, b]; exact c
theorem CE.out1 (_h : CE P C R ts ts0 t χ χ' ds sp d M inn) {p : K2 × K2} (hp : p ∈ gOut t χ' M (yao d)) : p.1.2 = 1 := by
 unfold gOut at hp
 obtain ⟨q, _, rfl⟩ := List.mem_map.1 hp; rfl
theorem CE.on1 (h : CE P C R ts ts0 t χ χ' ds sp d M inn) : ((gOut t χ' M (yao d)).map (·.1)).Nodup := by
 unfold gOut
 rw [List.map_map]
 have := yoq (g := goL t χ' M (yao d)) h.tt.nd
 rw [show ((fun x : K2 × K2 => x.1) ∘ fun p : Nat × K2 => ((p.1, 1), p.2)) = (fun x : Nat => ((x, 1) : K2)) ∘ (·.1) from rfl, ← List.map_map]
 exact yiW (fun x y e => by simpa using e) this
theorem CE.on2 (h : CE P C R ts ts0 t χ χ' ds sp d M inn) : ((gOut t χ' M (yao d)).map (·.2)).Nodup := by
 have hgo : ∀ s q, s ∈ t.od.map (·.1) → goL t χ' M (yao d) s = some q → plQ M (yao d) s = some q := by
  intro s q _ a
  unfold goL at a
  split at a
  ·exact a
  ·cases a
 unfold gOut
 rw [List.map_map]
 show ((innM (goL t χ' M (yao d)) t.od).map (·.2)).Nodup
 have key : ∀ (l : List (Nat × Option (TB K))), (∀ p ∈ l, p ∈ t.od) → (l.map (·.1)).Nodup → ((innM (goL t χ' M (yao d)) l).map (·.2)).Nodup := by
  intro l
  induction l with
  | nil => intro _ _; exact List.nodup_nil
  | cons p l ih =>
    intro hl hn
    obtain ⟨h1, h2⟩ := List.nodup_cons.1 (show (p.1 :: l.map (·.1)).Nodup from hn)
    have ih := ih (fun p hp => hl p (List.mem_cons_of_mem _ hp)) h2
    unfold innM
    rw [List.filterMap_cons]
    cases hg : goL t χ' M (yao d) p.1 with
    | none => exact ih
    | some k =>
      simp only [Option.map_some, List.map_cons]
      refine List.nodup_cons.2 ⟨fun hm => ?_, ih⟩
      obtain ⟨q, hq, e⟩ := List.mem_map.1 hm
      obtain ⟨a, b⟩ := ydy.1 (show (q.1, q.2) ∈ innM (goL t χ' M (yao d)) l from hq)
      have m1 : p.1 ∈ t.od.map (·.1) := List.mem_map_of_mem (f := (·.1)) (hl p List.mem_cons_self)
      have m2 : q.1 ∈ t.od.map (·.1) := by
       obtain ⟨x, hx, e'⟩ := List.mem_map.1 b
       rw [← e']; exact List.mem_map_of_mem (f := (·.1)) (hl x (List.mem_cons_of_mem _ hx))
      have := h.inj (.inl m2) (.inl m1) (by rw [← e]; exact hgo _ _ m2 a) (hgo _ _ m1 hg)
      rw [this] at b; exact h1 b
 exact key t.od (fun p hp => hp) h.tt.nd
theorem CE.f1 (h : CE P C R ts ts0 t χ χ' ds sp d M inn) {s : Nat} {q : K2} (hs : s ∈ t.od.map (·.1)) (hx : χ' s 1 = false) (hq : plQ M (yao d) s = some q) : lkE (gOut t χ' M (yao d)) (s, 1) = some q :=
 ytU h.on1 (h.go.2 ⟨hs, hx, hq⟩)
theorem CE.back (h : CE P C R ts ts0 t χ χ' ds sp d M inn) : ypz P C t (aft0 sp (yao d) M t ts) χ' (gChi sp t χ χ' M (yao d)) M (yao d) (fun x c => lkE (gOut t χ' M (yao d)) (x, c)) := by
 have nm : ∀ {s : Nat} {b : TB K}, t.tb s 1 = some b → (s, some b) ∈ t.od := fun hb => ygo hb
 have rowN : ∀ {s k : Nat}, tln (t.tb s 1) = some k → ∃ e l, (s, some (.row e l)) ∈ t.od ∧ l.length = k ∧ s ∈ sp.to.rw.map (·.1) ∧ s ∈ t.od.map (·.1) := by
  intro s k hk
  cases hq : t.tb s 1 with
  | none => rw [hq] at hk; cases hk
  | some b =>
    have hm := nm hq
    rcases h.tt.ent _ hm with ⟨⟨e, l, x, _, _, e3⟩, _⟩ | ⟨⟨e, l, e3⟩, e4⟩
    ·have e3 : some b = _ := e3
     rw [hq, e3] at hk; cases hk
    ·have e3 : some b = _ := e3
     rw [hq, e3] at hk
     simp only [tln, Option.some.injEq] at hk
     rw [e3] at hm
     exact ⟨e, l, hm, hk, e4, List.mem_map_of_mem (f := (·.1)) hm⟩
 have ble : ∀ {s : Nat}, ¬ 2000000 ≤ s → Nat.ble 2000000 s = false := fun {s} hb => by cases hq : Nat.ble 2000000 s with | false => rfl | true => exact absurd (Nat.le_of_ble_eq_true hq) hb
 refine ⟨fun s k hk hx => ?_, fun s k hk hx => ?_, fun s hs => ?_⟩
 ·obtain ⟨e, l, hm, hl, h1, h2⟩ := rowN hk
  by_cases hb : 2000000 ≤ s
  ·obtain ⟨a1, o, a2, a3⟩ := h.lrow h1 hb
   rw [hx] at a3
   cases o with
   | none => cases a3
   | some q =>
     have hq := yrh (d := d) hb a1 a2
     obtain ⟨g1, g2⟩ := h.told_tb hm hq
     refine ⟨q, ?_, h.f1 h2 hx hq, h.okt (.inl h2) hq, by rw [g1]; show tln (some (TB.row e l)) = _; rw [← hl]; rfl, by rw [g2]; simp [hx]⟩
     simp only [plV, Nat.ble_eq_true_of_le hb, a2]
  ·have hq := yb0 (M := M) (d := d) hb
   obtain ⟨g1, g2⟩ := h.told_tb hm hq
   refine ⟨(yao d s, 2), ?_, h.f1 h2 hx hq, h.okt (.inl h2) hq, by rw [g1]; show tln (some (TB.row e l)) = _; rw [← hl]; rfl, by rw [g2]; simp [hx]⟩
   simp only [plV, ble hb]
 ·obtain ⟨e, l, hm, hl, h1, h2⟩ := rowN hk
  have hk0 : k = 0 := by
   obtain ⟨e', he⟩ := h.vi s 1 hx
   rw [he] at hk; cases hk; rfl
  subst hk0
  by_cases hb : 2000000 ≤ s
  ·obtain ⟨a1, o, a2, a3⟩ := h.lrow h1 hb
   cases o with
   | none =>
     have : plV (K := K) M (yao d) (.rw s 1) = .nil := by simp only [plV, Nat.ble_eq_true_of_le hb, a2]
     rw [this]; exact .nil
   | some q =>
     have hq := yrh (d := d) hb a1 a2
     obtain ⟨g1, g2⟩ := h.told_tb hm hq
     have : plV (K := K) M (yao d) (.rw s 1) = .rw q.1 q.2 := by simp only [plV, Nat.ble_eq_true_of_le hb, a2]
     rw [this]
     exact .rwn _ _ (h.okt (.inl h2) hq) (by rw [g1]; show tln (some (TB.row e l)) = _; rw [← hl]; rfl) (by rw [g2]; simp [hx])
  ·have hq := yb0 (M := M) (d := d) hb
   obtain ⟨g1, g2⟩ := h.told_tb hm hq
   have : plV (K := K) M (yao d) (.rw s 1) = .rw (yao d s) 2 := by simp only [plV, ble hb]
   rw [this]
   exact .rwn _ _ (h.okt (.inl h2) hq) (by rw [g1]; show tln (some (TB.row e l)) = _; rw [← hl]; rfl) (by rw [g2]; simp [hx])
 ·have hx := h.bxχ hs
  cases hq0 : t.tb s 1 with
  | none => rw [hq0] at hs; cases hs
  | some b =>
    have hm := nm hq0
    have h2 : s ∈ t.od.map (·.1) := List.mem_map_of_mem (f := (·.1)) hm
    have h1 : s ∈ sp.to.bx.map (·.1) := by
     rcases h.tt.ent _ hm with ⟨_, e4⟩ | ⟨⟨e, l, e3⟩, _⟩
     ·exact e4
     ·have e3 : some b = _ := e3
      rw [hq0, e3] at hs; cases hs
    by_cases hb : 2000000 ≤ s
    ·obtain ⟨k, hk⟩ := h.hM.bx s (h.obx h1 hb)
     have hq := ynn (d := d) hb hk
     exact ⟨k, fun o => by simp only [plV, Nat.ble_eq_true_of_le hb, hk], h.f1 h2 hx hq, h.okt (.inl h2) hq⟩
    ·have hq := yb0 (M := M) (d := d) hb
     exact ⟨(yao d s, 2), fun o => by simp only [plV, ble hb], h.f1 h2 hx hq, h.okt (.inl h2) hq⟩
theorem CE.blk (h : CE P C R ts ts0 t χ χ' ds sp d M inn) {p : Nat × Option (TB K)} (hp : p ∈ t.od) {b : TB K} (hb : p.2 = some b) {b' : TB K} (hm : mapB (plV M (yao d)) (some b) = some b') :
  MR P C (aft0 sp (yao d) M t ts) (gChi sp t χ χ' M (yao d)) b' ⟨(bT C t χ' b).e, (bT C t χ' b).sz, reAs (fun x c => lkE (gOut t χ' M (yao d)) (x, c)) (bT C t χ' b).cells, false⟩ ∧ (bT C t χ' b).sz ≠ 0 := by
 refine yvu h.hC h.back h.tt.rw h.tt.bx ?_ hm
 rcases h.tt.ent p hp with ⟨⟨e, l, x, a1, a2, e3⟩, _⟩ | ⟨⟨e, l, e3⟩, _⟩
 ·rw [hb] at e3; exact .inl ⟨e, l, x, a1, a2, Option.some.inj e3⟩
 ·rw [hb] at e3; exact .inr ⟨e, l, Option.some.inj e3⟩
theorem CE.kbo (h : CE P C R ts ts0 t χ χ' ds sp d M inn) {p : Nat × Option (TB K)} (hp : p ∈ t.od) {b : TB K} (hb : p.2 = some b) (hx : χ' p.1 1 = false) {q : Nat × Nat} (hq : plQ M (yao d) p.1 = some q) :
  q ∈ (gOut t χ' M (yao d)).map (·.2) ∧ gKb C t χ' (gOut t χ' M (yao d)) q = some ⟨(bT C t χ' b).e, (bT C t χ' b).sz, reAs (fun x c => lkE (gOut t χ' M (yao d)) (x, c)) (bT C t χ' b).cells, false⟩ := by
 have hm := h.go.2 ⟨List.mem_map_of_mem (f := (·.1)) hp, hx, hq⟩
 refine ⟨List.mem_map.2 ⟨_, hm, rfl⟩, ?_⟩
 unfold gKb
 rw [ytP h.on2 hm]
 simp only
 rw [ydI h.tt.nd (show (p.1, p.2) ∈ _ from hp), hb]
 rfl
theorem CE.dkb (h : CE P C R ts ts0 t χ χ' ds sp d M inn) (x c : Nat) : (gDs C t χ' inn (gOut t χ' M (yao d)) ds).kb x c = if (x, c) ∈ (gOut t χ' M (yao d)).map (·.2) ++ inn.map (·.2) then gKb C t χ' (gOut t χ' M (yao d)) (x, c) else ds.kb x c := by
 have hpl : (x, c) ∈ (gOut t χ' M (yao d)).map (·.2) ++ inn.map (·.2) → c = 1 ∨ c = 2 := by
  intro hm
  rcases List.mem_append.1 hm with hm | hm
  ·obtain ⟨p, hp, e⟩ := List.mem_map.1 hm
   have e1 := h.out1 hp
   have hp' : ((p.1.1, 1), p.2) ∈ gOut t χ' M (yao d) := by rw [← e1]; exact hp
   have := h.qc (h.go.1 hp').2.2
   rw [e] at this; exact this
  ·obtain ⟨p, hp, e⟩ := List.mem_map.1 hm
   have hr := ((h.hin p.1 p.2).1 hp).1
   have : ∃ b, ts.tb p.2.1 p.2.2 = some b := by
    unfold rhoM at hr
    split at hr
    ·rename_i k e2; cases hr
     obtain ⟨_, e', cs, hc⟩ := h.hM.b _ _ e2; exact ⟨_, hc⟩
    ·split at hr
     ·rename_i k e2
      split at hr
      ·cases hr
      ·cases hr
       obtain ⟨n, hn, _⟩ := h.hM.rk _ _ e2
       cases ht : ts.tb p.2.1 p.2.2 with
       | none => rw [ht] at hn; cases hn
       | some b => exact ⟨b, rfl⟩
     ·cases hr
   obtain ⟨b, hb⟩ := this
   have := tb_c hb
   rw [e] at this; exact this
 unfold DS.kb gDs
 cases h1 : Nat.beq c 1 with
 | true =>
   have := nbeq.1 h1; subst this
   exact yuy _ 1 _ _ x
 | false =>
   cases h2 : Nat.beq c 2 with
   | true =>
     have := nbeq.1 h2; subst this
     exact yuy _ 2 _ _ x
   | false =>
     simp only
     rw [if_neg]
     intro hm
     rcases hpl hm with e | e
     ·subst e; cases h1
     ·subst e; cases h2
theorem CE.rho (h : CE P C R ts ts0 t χ χ' ds sp d M inn) {s : Nat} {q : Nat × Nat} (hs : s ∈ tiN sp) (hr : rhoM χ M s = some q) : plQ M (yao d) s = some q := by
 have hb := h.big s hs
 unfold rhoM at hr
 split at hr
 ·rename_i k e; cases hr; exact ynn hb e
 ·rename_i e
  split at hr
  ·rename_i k e2
   split at hr
   ·cases hr
   ·cases hr; exact yrh hb e e2
  ·cases hr
theorem CE.innp (h : CE P C R ts ts0 t χ χ' ds sp d M inn) (h00 : ∀ s, s ∈ ts0.od.map (·.1) → s ∈ tiN sp) {q : Nat × Nat} (hq : q ∈ inn.map (·.2)) : ∃ s ∈ tiN sp, (s, q) ∈ inn ∧ plQ M (yao d) s = some q := by
 obtain ⟨p, hp, rfl⟩ := List.mem_map.1 hq
 obtain ⟨a, b⟩ := (h.hin p.1 p.2).1 hp
 exact ⟨p.1, h00 _ b, hp, h.rho (h00 _ b) a⟩
theorem CE.gm (h : CE P C R ts ts0 t χ χ' ds sp d M inn) (h00 : ∀ s, s ∈ ts0.od.map (·.1) → s ∈ tiN sp) : GM P C R (aft0 sp (yao d) M t ts) (gChi sp t χ χ' M (yao d)) (gDs C t χ' inn (gOut t χ' M (yao d)) ds) := by
 have hm := h.mono
 have notpl : ∀ {s c : Nat}, (∀ x, x ∈ t.od.map (·.1) ∨ x ∈ tiN sp → plQ M (yao d) x ≠ some (s, c)) → (s, c) ∉ (gOut t χ' M (yao d)).map (·.2) ++ inn.map (·.2) := by
  intro s c hn hp
  rcases List.mem_append.1 hp with hp | hp
  ·obtain ⟨p, hp, e⟩ := List.mem_map.1 hp
   have e1 := h.out1 hp
   have hp' : ((p.1.1, 1), p.2) ∈ gOut t χ' M (yao d) := by rw [← e1]; exact hp
   obtain ⟨a, _, b⟩ := h.go.1 hp'
   exact hn _ (.inl a) (by rw [b, e])
  ·obtain ⟨x, a, _, b⟩ := h.innp h00 hp
   exact hn x (.inr a) b
 refine ⟨fun u => (h.hγ.fr u).mono hm, fun s c b hb hx => ?_, fun s c hx => ?_, fun s hs => ?_, h.hγ.hp, fun s b hs hb => ?_⟩
 ·have hc := tb_c hb
  rcases h.fnd (q := (s, c)) with ⟨h1, h2⟩ | ⟨p, h1, h2, h3⟩ | ⟨p, h1, h2, h3, h4, h5⟩
  ·rw [ygt s c hc, h1] at hb
   unfold gChi at hx
   rw [h1] at hx
   obtain ⟨kb, k1, k2⟩ := h.hγ.mb s c b hb hx
   exact ⟨kb, by rw [h.dkb, if_neg (notpl h2)]; exact k1, k2.mono hm⟩
  ·obtain ⟨b0, e1, e2⟩ := h.tsome h1
   obtain ⟨g1, g2⟩ := h.told_tb h1 h2
   rw [show (aft0 sp (yao d) M t ts).tb s c = mapB (plV M (yao d)) p.2 from g1, e1] at hb
   rw [show gChi sp t χ χ' M (yao d) s c = (p.2.isSome && χ' p.1 1) from g2, e1] at hx
   have hx' : χ' p.1 1 = false := by simpa using hx
   obtain ⟨k1, k2⟩ := h.kbo h1 e1 hx' h2
   exact ⟨_, by rw [h.dkb, if_pos (List.mem_append_left _ k1)]; exact k2, (h.blk h1 e1 hb).1⟩
  ·rw [ygt s c hc, h5] at hb
   simp only [h1] at hb
   cases hb
 ·rcases h.fnd (q := (s, c)) with ⟨h1, h2⟩ | ⟨p, h1, h2, h3⟩ | ⟨p, h1, h2, h3, h4, h5⟩
  ·unfold gChi at hx
   rw [h1] at hx
   obtain ⟨e, he⟩ := h.hγ.vi s c hx
   exact ⟨e, by rw [ygt s c (tb_c he), h1]; exact he⟩
  ·obtain ⟨b0, e1, e2⟩ := h.tsome h1
   obtain ⟨g1, g2⟩ := h.told_tb h1 h2
   rw [show gChi sp t χ χ' M (yao d) s c = (p.2.isSome && χ' p.1 1) from g2, e1] at hx
   obtain ⟨e, he⟩ := h.vi p.1 1 (by simpa using hx)
   have he' : lkB t.od p.1 = some (.row e []) := he
   rw [e2] at he'
   exact ⟨e, by rw [show (aft0 sp (yao d) M t ts).tb s c = mapB (plV M (yao d)) p.2 from g1, e1, he']; rfl⟩
  ·unfold gChi at hx
   rw [h5] at hx
   simp only [h1] at hx
   cases hx
 ·have hs' : memB (plL M (yao d) 2 (yh0 sp t) ++ ts.nw) s = false := hs
  rw [yk3, Bool.or_eq_false_iff] at hs'
  have h1 := h.hγ.nw s hs'.2
  cases hq : memO (gDs C t χ' inn (gOut t χ' M (yao d)) ds).nw s with
  | false => rfl
  | true =>
    rcases (yln _ 2 _ _ s).1 hq with e | e
    ·exfalso
     have hno : ∀ x, x ∈ t.od.map (·.1) ∨ x ∈ tiN sp → plQ M (yao d) x ≠ some (s, 2) := by
      intro x hx e
      have : memB (plL M (yao d) 2 (yh0 sp t)) s = true := by
       rw [yqY]
       rcases hx with hx | hx
       ·obtain ⟨p, hp, rfl⟩ := List.mem_map.1 hx
        exact ⟨p, List.mem_append_left _ hp, e⟩
       ·exact ⟨(x, none), List.mem_append_right _ (List.mem_map_of_mem (f := fun s => (s, none)) hx), e⟩
      rw [hs'.1] at this; cases this
     exact notpl hno e
    ·rw [h1] at e; cases e
 ·have hc : (1 : Nat) = 1 ∨ (1 : Nat) = 2 := .inl rfl
  rcases h.fnd (q := (s, 1)) with ⟨h1, h2⟩ | ⟨p, h1, h2, h3⟩ | ⟨p, h1, h2, h3, h4, h5⟩
  ·rw [ygt s 1 hc, h1] at hb
   unfold gChi
   rw [h1]
   exact h.hγ.lv s b hs hb
  ·obtain ⟨b0, e1, e2⟩ := h.tsome h1
   obtain ⟨g1, g2⟩ := h.told_tb h1 h2
   rw [show gChi sp t χ χ' M (yao d) s 1 = (p.2.isSome && χ' p.1 1) from g2, e1]
   simp only [Option.isSome_some, Bool.true_and]
   have hbg : 2000000 ≤ p.1 := by
    apply Decidable.byContradiction
    intro hn
    rw [yb0 hn] at h2; cases h2
   obtain ⟨b1, hb1⟩ := h.lent hbg h2
   rw [h.hγ.lv s b1 hs hb1]
   rcases h.tt.ent p h1 with ⟨_, e4⟩ | ⟨_, e4⟩
   ·rw [h.bxχ (h.tt.bx p.1 e4)]
    obtain ⟨k, hk⟩ := h.hM.bx p.1 (h.obx e4 hbg)
    have := ynn (d := d) hbg hk
    rw [h2] at this; cases this
    obtain ⟨_, e, cs, hcs⟩ := h.hM.b _ _ hk
    exact h.hγ.box hcs
   ·obtain ⟨a1, o, a2, a3⟩ := h.lrow e4 hbg
    rcases h.big' hbg h2 with e | ⟨_, e⟩
    ·rw [a1] at e; cases e
    ·rw [a2] at e; cases e
     rw [a3]
  ·rw [ygt s 1 hc, h5] at hb
   simp only [h1] at hb
   cases hb
theorem CE.dok (h : CE P C R ts ts0 t χ χ' ds sp d M inn) : DOk (gDs C t χ' inn (gOut t χ' M (yao d)) ds) := by
 intro x c b hb
 rw [h.dkb] at hb
 split at hb
 ·unfold gKb at hb
  split at hb
  ·rename_i y hy
   obtain ⟨b0, e1, e2⟩ := Option.map_eq_some_iff.1 hb
   subst e2
   have hm := ygo e1
   obtain ⟨b', hb'⟩ : ∃ b', mapB (plV M (yao d)) (some b0) = some b' := by cases b0 <;> exact ⟨_, rfl⟩
   exact ⟨(h.blk hm rfl hb').2, fun q => (by cases q)⟩
  ·cases hb
 ·exact h.hk x c b hb
theorem CE.oko (h : CE P C R ts ts0 t χ χ' ds sp d M inn) {S1 : St} (hS : ∀ s b, lkB t.od s = some b → χ' s 1 = false → S1.M (.l s 1) = some (bT C t χ' b)) : yvh inn (gOut t χ' M (yao d)) (gBs t χ' M (yao d)) (toD ds).cnt S1 := by
 refine ⟨h.on1, h.on2, fun p hp => ?_, fun p hp => ?_⟩
 ·have e1 := h.out1 hp
  have hp' : ((p.1.1, 1), p.2) ∈ gOut t χ' M (yao d) := by rw [← e1]; exact hp
  obtain ⟨a, b, c⟩ := h.go.1 hp'
  obtain ⟨y, hy, e⟩ := List.mem_map.1 a
  obtain ⟨b0, e2, e3⟩ := h.tsome hy
  rw [e] at e3
  refine ⟨_, by rw [e1]; exact hS _ b0 e3 b, ?_⟩
  obtain ⟨b', hb'⟩ : ∃ b', mapB (plV M (yao d)) (some b0) = some b' := by cases b0 <;> exact ⟨_, rfl⟩
  exact (h.blk hy e2 hb').2
 ·have e1 := h.out1 hp
  have hp' : ((p.1.1, 1), p.2) ∈ gOut t χ' M (yao d) := by rw [← e1]; exact hp
  obtain ⟨a, b, c⟩ := h.go.1 hp'
  by_cases hb : 2000000 ≤ p.1.1
  ·refine .inl ⟨e1, ?_⟩
   have hti : p.1.1 ∈ tiN sp ∧ rhoM χ M p.1.1 = some p.2 := by
    obtain ⟨y, hy, e⟩ := List.mem_map.1 a
    rcases h.tt.ent y hy with ⟨_, e4⟩ | ⟨_, e4⟩
    ·rw [e] at e4
     have := h.obx e4 hb
     obtain ⟨k, hk⟩ := h.hM.bx _ this
     have hq := ynn (d := d) hb hk
     rw [c] at hq; cases hq
     exact ⟨List.mem_append_left _ this, by unfold rhoM; rw [hk]⟩
    ·rw [e] at e4
     obtain ⟨a1, o, a2, a3⟩ := h.lrow e4 hb
     rcases h.big' hb c with q | ⟨_, q⟩
     ·rw [a1] at q; cases q
     ·rw [a2] at q; cases q
      refine ⟨List.mem_append_right _ (h.orw e4 hb), ?_⟩
      unfold rhoM
      rw [a1, a2]
      simp only
      rw [if_neg]
      rw [b] at a3
      simp only at a3
      rw [← a3]; simp
   exact (h.hin _ _).2 ⟨hti.2, h.h0 _ hti.1⟩
  ·right
   have hq := yb0 (M := M) (d := d) hb
   rw [c] at hq
   have hq := Option.some.inj hq
   rw [hq]
   have hf := (h.new a hb).2.2.1
   refine ⟨?_, ?_⟩
   ·unfold gBs
    refine List.mem_map.2 ⟨(p.1.1, p.2), List.mem_filter.2 ⟨?_, ?_⟩, by rw [hq]⟩
    ·obtain ⟨x, hx, e⟩ := List.mem_map.1 (show ((p.1.1, 1), p.2) ∈ (innM (goL t χ' M (yao d)) t.od).map _ from hp')
     simp only [Prod.mk.injEq, and_true] at e
     rw [← e.1, ← e.2]; exact hx
    ·have : Nat.ble 2000000 p.1.1 = false := by cases hq : Nat.ble 2000000 p.1.1 with | false => rfl | true => exact absurd (Nat.le_of_ble_eq_true hq) hb
     rw [this]; rfl
   ·show 2 = ds.cn (yao d p.1.1) + 1
    unfold DS.cn
    rw [h.hγ.nw _ hf]
theorem CE.bl (h : CE P C R ts ts0 t χ χ' ds sp d M inn) (h00 : ∀ s, s ∈ ts0.od.map (·.1) → s ∈ tiN sp) {S1 : St} (hS : ∀ s b, lkB t.od s = some b → χ' s 1 = false → S1.M (.l s 1) = some (bT C t χ' b)) (hh : S1.hp = (toD ds).hp) (hn : S1.nx = (toD ds).nx) :
  (toD ds).backL inn (gOut t χ' M (yao d)) (gBs t χ' M (yao d)) S1 = toD (gDs C t χ' inn (gOut t χ' M (yao d)) ds) := by
 refine St.ext4 (fun _ => rfl) (fun k => ?_) (fun s => ?_) hn
 ·cases k with
  | h o => exact congrFun hh o
  | l x c =>
    show (match lkZ (gOut t χ' M (yao d)) (x, c) with | some q => (S1.M (.l q.1 q.2)).map (Blk.re fun d c => lkE _ (d, c)) | none => match lkZ inn (x, c) with | some _ => none | none => (toD ds).M (.l x c)) = ((gDs C t χ' inn (gOut t χ' M (yao d)) ds).kb x c).map KB.blk
    rw [h.dkb]
    cases ho : lkZ (gOut t χ' M (yao d)) (x, c) with
    | some q =>
      have hm := yhu ho
      have e1 := h.out1 hm
      have hm' : ((q.1, 1), (x, c)) ∈ gOut t χ' M (yao d) := by rw [show (1 : Nat) = q.2 from e1.symm]; exact hm
      obtain ⟨a, b, c'⟩ := h.go.1 hm'
      obtain ⟨y, hy, e⟩ := List.mem_map.1 a
      obtain ⟨b0, e2, e3⟩ := h.tsome hy
      rw [e] at e3
      rw [if_pos (List.mem_append_left _ (List.mem_map.2 ⟨_, hm, rfl⟩))]
      unfold gKb
      rw [ho]
      simp only
      rw [e3, show q.2 = 1 from e1, hS _ b0 e3 b]
      rfl
    | none =>
      simp only
      have hno : (x, c) ∉ (gOut t χ' M (yao d)).map (·.2) := fun hm => by
       obtain ⟨p, hp, e⟩ := List.mem_map.1 hm
       exact yrr ho p.1 (by rw [← e]; exact hp)
      cases hi : lkZ inn (x, c) with
      | some y =>
        rw [if_pos (List.mem_append_right _ (List.mem_map.2 ⟨_, yhu hi, rfl⟩))]
        unfold gKb
        rw [ho]; rfl
      | none =>
        rw [if_neg]
        ·rfl
        ·intro hm
         rcases List.mem_append.1 hm with hm | hm
         ·exact hno hm
         ·obtain ⟨p, hp, e⟩ := List.mem_map.1 hm
          exact yrr hi p.1 (by rw [← e]; exact hp)
 ·show cntB (gBs t χ' M (yao d)) ds.cn s = (gDs C t χ' inn (gOut t χ' M (yao d)) ds).cn s
  unfold cntB
  have hmem : s ∈ gBs t χ' M (yao d) → (s, 2) ∈ (gOut t χ' M (yao d)).map (·.2) ∧ memO ds.nw s = false := by
   intro hs
   unfold gBs at hs
   obtain ⟨p, hp, rfl⟩ := List.mem_map.1 hs
   obtain ⟨hp1, hp2⟩ := List.mem_filter.1 hp
   have hb : ¬ 2000000 ≤ p.1 := fun q => by rw [Nat.ble_eq_true_of_le q] at hp2; cases hp2
   have hm : ((p.1, 1), p.2) ∈ gOut t χ' M (yao d) := List.mem_map.2 ⟨p, hp1, rfl⟩
   obtain ⟨a, _, c⟩ := h.go.1 hm
   rw [yb0 hb] at c
   have c := Option.some.inj c
   rw [← c] at hm ⊢
   exact ⟨List.mem_map.2 ⟨_, hm, rfl⟩, h.hγ.nw _ (h.new a hb).2.2.1⟩
  unfold DS.cn
  by_cases hs : s ∈ gBs t χ' M (yao d)
  ·rw [if_pos hs]
   obtain ⟨a, b⟩ := hmem hs
   rw [b]
   have : memO (gDs C t χ' inn (gOut t χ' M (yao d)) ds).nw s = true := (yln _ 2 _ _ s).2 (.inl (List.mem_append_left _ a))
   rw [this]
  ·rw [if_neg hs]
   have : memO (gDs C t χ' inn (gOut t χ' M (yao d)) ds).nw s = memO ds.nw s := by
    have lentm : ∀ {y : Nat}, 2000000 ≤ y → plQ M (yao d) y = some (s, 2) → rhoM χ M y = some (s, 2) → memO ds.nw s = true := by
     intro y hy hq hr
     obtain ⟨b, hb⟩ := h.lent hy hq
     have hxf : χ s 2 = false := by
      unfold rhoM at hr
      split at hr
      ·rename_i k e; cases hr
       obtain ⟨_, e', cs, hc⟩ := h.hM.b _ _ e
       exact h.hγ.box hc
      ·split at hr
       ·rename_i k e
        split at hr
        ·cases hr
        ·rename_i hn; cases hr; simpa using hn
       ·cases hr
     obtain ⟨kb, hkb, _⟩ := h.hγ.mb s 2 b hb hxf
     have hkb' : lkO ds.nw s = some kb := hkb
     cases hmm : memO ds.nw s with
     | true => rfl
     | false =>
       have : ∀ (l : List (Nat × Option KB)), memO l s = false → lkO l s = none := by
        intro l
        induction l with
        | nil => intro _; rfl
        | cons p l ih =>
          intro hq
          have hq' : (Nat.beq p.1 s || memO l s) = false := hq
          rw [Bool.or_eq_false_iff] at hq'
          rw [yg8, if_neg (fun e => by rw [nbeq.2 e] at hq'; cases hq'.1)]
          exact ih hq'.2
       rw [this _ hmm] at hkb'; cases hkb'
    cases hq : memO (gDs C t χ' inn (gOut t χ' M (yao d)) ds).nw s with
    | false =>
      cases hr : memO ds.nw s with
      | false => rfl
      | true =>
        have : memO (gDs C t χ' inn (gOut t χ' M (yao d)) ds).nw s = true := (yln _ 2 _ _ s).2 (.inr hr)
        rw [hq] at this; cases this
    | true =>
      rcases (yln _ 2 _ _ s).1 hq with e | e
      ·rcases List.mem_append.1 e with e | e
       ·obtain ⟨p, hp, e⟩ := List.mem_map.1 e
        have e1 := h.out1 hp
        have hp' : ((p.1.1, 1), (s, 2)) ∈ gOut t χ' M (yao d) := by rw [← e1, ← e]; exact hp
        obtain ⟨a, b, c⟩ := h.go.1 hp'
        by_cases hb : 2000000 ≤ p.1.1
        ·have ok := (h.oko hS).goes _ hp'
         rcases ok with ⟨_, ok⟩ | ⟨ok, _⟩
         ·exact (lentm hb c ((h.hin _ _).1 ok).1).symm
         ·exact absurd ok hs
        ·exfalso
         refine hs ?_
         unfold gBs
         refine List.mem_map.2 ⟨(p.1.1, (s, 2)), List.mem_filter.2 ⟨?_, ?_⟩, rfl⟩
         ·obtain ⟨x, hx, e⟩ := List.mem_map.1 (show ((p.1.1, 1), (s, 2)) ∈ (innM (goL t χ' M (yao d)) t.od).map _ from hp')
          simp only [Prod.mk.injEq, and_true] at e
          have : x = (p.1.1, (s, 2)) := Prod.ext e.1 (by rw [e.2])
          rw [← this]; exact hx
         ·have : Nat.ble 2000000 p.1.1 = false := by cases hq : Nat.ble 2000000 p.1.1 with | false => rfl | true => exact absurd (Nat.le_of_ble_eq_true hq) hb
          rw [this]; rfl
       ·obtain ⟨x, hx, hi, hq2⟩ := h.innp h00 e
        exact (lentm (h.big x hx) hq2 ((h.hin _ _).1 hi).1).symm
      ·exact e.symm
   rw [this]
theorem CE.val (h : CE P C R ts ts0 t χ χ' ds sp d M inn) (hks : ∀ p ∈ sp.te.ks, okK (sp.to.bx.map (·.1)) (sp.to.rw.map (·.1)) p.2 = true) {us : List (TV K)} (hu : ydp t sp.res = some us) :
  TR P C (aft0 sp (yao d) M t ts) (gChi sp t χ χ' M (yao d)) (tres (plVs M (yao d) us)) (reA (fun x c => lkE (gOut t χ' M (yao d)) (x, c)) (ybk (aTs C t χ' us))) := by
 have slot : ∀ s, TR P C (aft0 sp (yao d) M t ts) (gChi sp t χ χ' M (yao d)) (plV M (yao d) (lkT t.fr s)) (reA (fun x c => lkE (gOut t χ' M (yao d)) (x, c)) (aT C t χ' (lkT t.fr s))) := by
  intro s
  rcases h.tt.fr s with e | ⟨p, hp, x, e⟩
  ·rw [e]; exact .un _
  ·rw [e]; exact yrC h.hC h.back h.tt.rw h.tt.bx p.2 x (hks p hp)
 have cells : ∀ {s c e : Nat} {cs : List (TV K)}, t.tb s c = some (.box e cs) → TL P C (aft0 sp (yao d) M t ts) (gChi sp t χ χ' M (yao d)) (plVs M (yao d) cs) (reAs (fun x c => lkE (gOut t χ' M (yao d)) (x, c)) (aTs C t χ' cs)) := by
  intro s c e cs hb
  have hc : c = 1 := by
   rcases tb_c hb with q | q
   ·exact q
   ·subst q
    have hb' : lkB t.nw s = some (.box e cs) := hb
    rw [h.tt.nw] at hb'; cases hb'
  subst hc
  rcases h.tt.ent _ (ygo (show lkB t.od s = _ from hb)) with ⟨⟨e', l, x, a1, _, e3⟩, _⟩ | ⟨⟨e', l, e3⟩, _⟩
  ·have e3 := Option.some.inj e3
   cases e3
   exact yrs h.hC h.back h.tt.rw h.tt.bx l x a1
  ·have e3 := Option.some.inj e3
   cases e3
 have all : ∀ (l : List (Nat × Option Nat)) (us : List (TV K)), ydp t l = some us → TL P C (aft0 sp (yao d) M t ts) (gChi sp t χ χ' M (yao d)) (plVs M (yao d) us) (reAs (fun x c => lkE (gOut t χ' M (yao d)) (x, c)) (aTs C t χ' us)) := by
  intro l
  induction l with
  | nil => intro us hu; cases hu; exact .nil
  | cons p l ih =>
    intro us hu
    simp only [ydp] at hu
    split at hu
    ·rename_i v vs h1 h2
     cases hu
     simp only [plVs, aTs, reAs]
     refine .cons ?_ (ih vs h2)
     obtain ⟨s, q⟩ := p
     cases q with
     | none => simp only [resT] at h1; cases h1; exact slot s
     | some q =>
       cases q with
       | zero =>
         simp only [resT] at h1
         split at h1
         ·rename_i s' c o e
          split at h1
          ·rename_i e' cs hb
           obtain ⟨_, c2⟩ := cells hb
           refine c2 o _ _ (by rw [yiC, List.getElem?_map, h1]; rfl) (by rw [yg2, ycs, List.map_map, List.getElem?_map, h1]; rfl)
          ·cases h1
         ·cases h1
       | succ q =>
         simp only [resT] at h1
         split at h1
         ·rename_i s' c o e
          split at h1
          ·rename_i e' cs hb
           have c0 := cells hb
           simp only [tldc] at h1
           split at h1
           ·cases h1
            have c1 := (c0.drop o).take (q + 1)
            simp only [plV, aT, reA]
            refine .agg _ _ ?_ ?_
            ·have := c1.1
             simp [yiC, yg2, ycs, List.map_take, List.map_drop]
            ·have := c1.2
             simpa [yiC, yg2, ycs, List.map_take, List.map_drop] using this
           ·cases h1
          ·cases h1
         ·cases h1
    ·cases hu
 have ht := all sp.res us hu
 have e : ∀ vs : List AV, reA (fun x c => lkE (gOut t χ' M (yao d)) (x, c)) (ybk vs) = ybk (reAs (fun x c => lkE (gOut t χ' M (yao d)) (x, c)) vs) := by
  intro vs
  cases vs with
  | nil => rfl
  | cons a r => cases r <;> rfl
 rw [e]
 exact yoK ht
theorem CE.val' (h : CE P C R ts ts0 t χ χ' ds sp d M inn) (hks : ∀ p ∈ sp.te.ks, okK (sp.to.bx.map (·.1)) (sp.to.rw.map (·.1)) p.2 = true) :
  TR P C (aft0 sp (yao d) M t ts) (gChi sp t χ χ' M (yao d)) (tres (plVs M (yao d) ((ydp t sp.res).getD []))) (reA (fun x c => lkE (gOut t χ' M (yao d)) (x, c)) (ybk (aTs C t χ' ((ydp t sp.res).getD [])))) := by
 cases hu : ydp t sp.res with
 | some us => exact h.val hks hu
 | none => exact .tup [] [] rfl (fun j u v hq => by simp at hq)
end
end Go.AV
end
noncomputable section
namespace Go.AV
open Go.RowKit Go.RG Go.Lib
variable {K : Nat → Type}
def SLOk (P : Program) (C : Cx K) (L : List (Sl K)) : Prop := ∀ sp ∈ L, SlOk P C sp
theorem yoF {C : Cx K} {ts : TS K} {f : Nat} {vs : List (TV K)} {sp : Sl K} {env : List (DV K)} {m : RM} : ∀ {L : List (Sl K)}, yjq C ts f vs L = some (sp, env, m) → sp ∈ L ∧ sp.f = f ∧ vs.length = npL sp ∧ rdM C sp.ti ⟨zipT vs 0, ts.od, ts.nw, ts.rg, ts.h⟩ = some (env, m)
 | [], h => by cases h
 | q :: L, h => by
   simp only [yjq] at h
   split at h
   ·rename_i hb
    simp only [Bool.and_eq_true] at hb
    split at h
    ·rename_i env' m' hr
     simp only [Option.some.injEq, Prod.mk.injEq] at h
     obtain ⟨rfl, rfl, rfl⟩ := h
     exact ⟨List.mem_cons_self, nbeq.1 hb.1, nbeq.1 hb.2, hr⟩
    ·obtain ⟨a, b⟩ := yoF h
     exact ⟨List.mem_cons_of_mem _ a, b⟩
   ·obtain ⟨a, b⟩ := yoF h
    exact ⟨List.mem_cons_of_mem _ a, b⟩
theorem ysF : ∀ {cs : List CT} {p : List (DV K) → Prop}, exC cs p → ∃ env, wt cs env = true ∧ p env
 | [], p, h => ⟨[], rfl, h⟩
 | c :: cs, p, h => by
   obtain ⟨x, h⟩ := h
   obtain ⟨env, hw, h⟩ := ysF h
   refine ⟨_, ?_, h⟩
   cases c <;> simp only [inC, wt, Bool.true_and, hw, Bool.and_true] <;> exact nbeq.2 rfl
theorem yop {ts0 : TS K} {p : Prop} : ∀ {l : List (Nat × Option (TB K))}, lenL ts0 l p → (∀ x ∈ l, 2000000 ≤ x.1 → ∃ n, tln x.2 = some n ∧ tln (ts0.tb x.1 1) = some n) ∧ p
 | [], h => ⟨fun x hx => (by cases hx), h⟩
 | x :: r, h => by
   simp only [lenL] at h
   split at h
   ·rename_i hb
    split at h
    ·rename_i n m e1 e2
     obtain ⟨rfl, h⟩ := h
     obtain ⟨a, b⟩ := yop h
     refine ⟨fun y hy hb => ?_, b⟩
     rcases List.mem_cons.1 hy with rfl | hy
     ·exact ⟨_, e1, e2⟩
     ·exact a y hy hb
    ·exact h.elim
   ·rename_i hb
    obtain ⟨a, b⟩ := yop h
    refine ⟨fun y hy hb' => ?_, b⟩
    rcases List.mem_cons.1 hy with rfl | hy
    ·rw [Nat.ble_eq_true_of_le hb'] at hb; cases hb
    ·exact a y hy hb'
theorem ypA {ts : TS K} {d : Option Nat} : ∀ {l : List Nat}, yrv ts d l = true → ∀ s ∈ l, 1000000 ≤ s ∧ s < 1000064 ∧ memB ts.nw (yao d s) = false ∧ yao d s < 2000000
 | [], _, s, hs => by cases hs
 | x :: l, h, s, hs => by
   simp only [yrv, Bool.and_eq_true, Bool.not_eq_true'] at h
   obtain ⟨⟨⟨⟨h1, h2⟩, h3⟩, h4⟩, h5⟩ := h
   rcases List.mem_cons.1 hs with rfl | hs
   ·exact ⟨Nat.le_of_ble_eq_true h1, Nat.le_of_ble_eq_true h2, h3, Nat.le_of_ble_eq_true h4⟩
   ·exact ypA h5 s hs
theorem yqF {a b : List Nat} (h : subN (a.filter bigN) b = true) : ∀ s ∈ a, 2000000 ≤ s → s ∈ b := fun s hs hb =>
 yfK.1 (List.all_eq_true.1 h s (List.mem_filter.2 ⟨hs, Nat.ble_eq_true_of_le hb⟩))
section
variable {P : Program} {C : Cx K} {R : RR K} {ts : TS K} {χ : Nat → Nat → Bool} {ds : DS} {B : Base} [GB P B] {N : Nat} {ro : Option Nat}
structure CL (P : Program) (C : Cx K) (R : RR K) (ts : TS K) (χ : Nat → Nat → Bool) (ds : DS) (sp : Sl K) (d : Option Nat) (M : RM) (fs : List (FV K)) (env out : List (DV K)) (f : FuncId) (vs : List AV) : Prop where
 hE : okS sp env = true
 wo : wt (ctT sp.te) out = true
 n1 : ((entL C sp fs env).od.map (·.1)).Nodup
 lend : ylV (innM (rhoM χ M) (entL C sp fs env).od) (toD ds).M
 con : ∀ H n, ybf P f (vs.map (reA (finL (innM (rhoM χ M) (entL C sp fs env).od)))) (memL (innM (rhoM χ M) (entL C sp fs env).od) (toD ds).M) H n (EndL C sp (entL C sp fs env) (χ1 (xiM χ M)) out H n)
 h00 : ∀ s, s ∈ (entL C sp fs env).od.map (·.1) ↔ s ∈ tiN sp
 ce : ∀ χ', TT C sp (endT C sp (entL C sp fs env) out) → ViOk (endT C sp (entL C sp fs env) out) χ' → (∀ s b, 2000000 ≤ s → (endT C sp (entL C sp fs env) out).tb s 1 = some b → χ' s 1 = xiM χ M s) →
  CE P C R ts (entL C sp fs env) (endT C sp (entL C sp fs env) out) χ χ' ds sp d M (innM (rhoM χ M) (entL C sp fs env).od)
 xi : ∀ s, xiM χ M s = true → ∃ e, lkB (entL C sp fs env).od s = some (.row e [])
theorem ym4 (hC : CxOk P C) {Φ : List (Sp K)} (hS : SsOk P C Φ) {L : List (Sl K)} (hL : SLOk P C L) (hγ : GM P C R ts χ ds) (hk : DOk ds) {d : Option Nat} {f : FuncId} {us : List (TV K)} {vs : List AV} (ht : TL P C ts χ us vs) {sp : Sl K} {env : List (DV K)} {M : RM} {dr : Bool} {X : TS K → Prop}
  (hp : yjq C ts f us L = some (sp, env, M)) (h : ykx C Φ dr ts d sp env M us X) : ∃ fs out, CL P C R ts χ ds sp d M fs env out f vs ∧ X (aftL sp d M (endT C sp (entL C sp fs env) out) ts) ∧ (dr = true → sp.te.rw = []) ∧ ∀ p ∈ sp.te.ks, okK (sp.to.bx.map (·.1)) (sp.to.rw.map (·.1)) p.2 = true := by
 obtain ⟨h1, rfl, h3, h4⟩ := yoF hp
 unfold ykx at h
 split at h
 rotate_left
 ·exact h.elim
 rename_i fs hf hck
 simp only [Bool.and_eq_true] at hck
 obtain ⟨⟨hok, hfr⟩, hdr⟩ := hck
 obtain ⟨out, hwo, hW, hlen⟩ := ysF h
 obtain ⟨hlen, hX⟩ := yop hlen
 have hE : okS sp env = true := by unfold okS; rw [hok, ywa h4]; rfl
 obtain ⟨o1, o2, o3, o4, o5, o6⟩ := ypQ hE
 obtain ⟨i1, i2⟩ := yhR (C := C) (rg := []) (hh := []) o6
 have hnm : (entL C sp fs env).od.map (·.1) = tiN sp := i1
 have n1 : ((entL C sp fs env).od.map (·.1)).Nodup := by rw [hnm]; exact o1.nd
 have h2 : ∀ s ∈ (entL C sp fs env).od.map (·.1), 2000000 ≤ s := fun s hs => o3 s (by rw [hnm] at hs; exact hs)
 obtain ⟨b1, b2⟩ := yrb hC hS hγ hk (hL sp h1) ht h4 hf h3 n1 h2 hW
 have hm : Mono ts ⟨zipT us 0, ts.od, ts.nw, ts.rg, ts.h⟩ χ χ := ⟨fun _ _ q => q, fun _ _ q => q, fun _ _ _ => .inr ⟨rfl, rfl⟩⟩
 have hA : GM P C R ⟨zipT us 0, ts.od, ts.nw, ts.rg, ts.h⟩ χ { ds with fr := entF vs 0 } :=
  ⟨fun t => (ylH 0 t ht).mono hm, fun s c b hb hx => by obtain ⟨kb, a, b⟩ := hγ.mb s c b hb hx; exact ⟨kb, a, b.mono hm⟩, hγ.vi, hγ.nw, hγ.hp, hγ.lv⟩
 have hM0 := ywt hC o1 h4 hA
 have hM : MOk ts (entL C sp fs env) M sp.ti := ⟨hM0.nod, hM0.b, hM0.r, hM0.rk, hM0.bx, hM0.rw⟩
 obtain ⟨r1, r2, r3, r4, r5⟩ := ywc hC (rg := []) (fun id w q => by cases q) h4 [] hA
 have hok' := hok
 simp only [okN, Bool.and_eq_true] at hok'
 obtain ⟨⟨⟨⟨⟨⟨_, _⟩, _⟩, hb⟩, hr⟩, _⟩, _⟩ := hok'
 refine ⟨fs, out, ⟨hE, hwo, n1, b1, b2, fun s => by rw [hnm], fun χ' htt hvi hlv => ?_, fun s hs => (r3 s hs).2⟩, hX, fun q => ?_, fun p hp => o2.ks p hp⟩
 ·refine ⟨hC, hγ, hk, hM, o1, fun s hs => by rw [hnm]; exact hs, fun s k => ydy, yn0 r4 n1, fun s hs => o3 s hs, yqF hb, yqF hr, ypA hfr, htt, hvi, hlv, fun s k hs hk => ?_⟩
  cases hq : (endT C sp (entL C sp fs env) out).tb s 1 with
  | none => rw [hq] at hk; cases hk
  | some b =>
    have hmem := ygo (show lkB (endT C sp (entL C sp fs env) out).od s = some b from hq)
    rw [hq] at hk
    have hod : (endT C sp (entL C sp fs env) out).od = (bdB C [] sp.te.bx (bdS C [] sp.te.ks out).2).1 ++ ((entL C sp fs env).od.filter fun x => ydW sp.kp x.1 && isBx x.2) ++ endR C sp out ++ (entL C sp fs env).od.filter fun x => ydW sp.kp x.1 && !isBx x.2 := rfl
    rw [hod] at hmem
    simp only [List.mem_append] at hmem
    rcases hmem with ((hmem | hmem) | hmem) | hmem
    ·obtain ⟨_, _, e⟩ := yqA (C := C) (rg := []) sp.te.bx (bdS C [] sp.te.ks out).2 _ hmem
     have e : some b = _ := e
     rw [e] at hk; cases hk
    ·have := (List.mem_filter.1 hmem).2
     simp only [Bool.and_eq_true] at this
     cases b <;> first | (cases hk; done) | (cases this.2; done)
    ·obtain ⟨n, e1, e2⟩ := hlen _ hmem hs
     have e1 : tln (some b) = some n := e1
     rw [hk] at e1; cases e1; exact e2
    ·have := (List.mem_filter.1 hmem).1
     show tln (lkB (entL C sp fs env).od s) = _
     rw [ydI n1 this]; exact hk
 ·rw [q] at hdr
  simp only [Bool.not_true, Bool.false_or] at hdr
  exact List.isEmpty_iff.1 hdr
theorem χ1_one (ξ : Nat → Bool) (s : Nat) : χ1 ξ s 1 = ξ s := by simp [χ1]
variable {L : List AO} {Q : KS → Prop} {i : Nat}
theorem yvd (hC : CxOk P C) {Φ : List (Sp K)} (hS : SsOk P C Φ) {Ls : List (Sl K)} (hL : SLOk P C Ls) {o : AO} (e0 : L[i]? = some o) (hg : gok o.guard ds.fr = true) (hγ : GM P C R ts χ ds) {f : FuncId} {us : List (TV K)} {vs : List AV} (ht : TL P C ts χ us vs) (ho : CalO o ds f vs) {sp : Sl K} {env : List (DV K)} {M : RM} {dr : Bool} {X : TS K → Prop}
  (hp : yjq C ts f us Ls = some (sp, env, M)) (h : ykx C Φ dr ts o.dst sp env M us X) (k : ∀ ts' χ' ds', GM P C R ts' χ' ds' → DOk ds' → X ts' → ts'.rg = ts.rg → WD P B N ro L (i + 1) Q ds') : WD P B N ro L i Q ds := by
 refine ysH (hs := fun _ => false) e0 hg fun hk => ?_
 obtain ⟨fs, out, hcl, hX, _, hks⟩ := ym4 hC hS hL hγ hk ht hp h
 have fin : ygc P (.f f) vs (toD ds) fun v S' => ∃ ds', S'.put o.dst v = toD ds' ∧ DOk ds' ∧ WD P B N ro L (i + 1) Q ds' := by
  refine .inr (.inr ⟨f, _, rfl, hcl.lend, (hcl.con (toD ds).hp (toD ds).nx).mono fun av S1 hend => ?_⟩)
  obtain ⟨htt, hend⟩ := ys1 hcl.hE hend
  obtain ⟨χ', a1, a2, ⟨us, a3, a3'⟩, a4, a5, a6⟩ := hend
  have hce := hcl.ce χ' htt a1 fun s b hs hb => by rw [a2 s b hs hb, χ1_one]
  refine ⟨gOut (endT C sp (entL C sp fs env) out) χ' M (yao o.dst), gBs (endT C sp (entL C sp fs env) out) χ' M (yao o.dst), hce.oko a6, _, ?_, hce.dok.put (d := o.dst), k _ _ _ ((hce.gm fun s hs => (hcl.h00 s).1 hs).put (hce.val hks a3)) hce.dok.put (by unfold aftL at hX; rw [a3] at hX; exact hX) ?_⟩
  ·rw [hce.bl (fun s hs => (hcl.h00 s).1 hs) a6 a4 a5, ycm, a3']
  ·show (TS.put _ _ _).rg = _
   rw [ycl]; rfl
 rcases ho with ⟨args, h1, h2⟩ | ⟨x, args, first, cap, h1, h2, h3⟩
 ·rw [h1]; simp only [aop]; rw [ycr, h2]; exact fin
 ·rw [h1]; simp only [aop]; rw [ycr, h2]; simp only; rw [h3]; exact fin
end
section
variable {C : Cx K} {t : TS K}
theorem yyE {χ χ' : Nat → Nat → Bool} (h : ∀ s c n, tln (t.tb s c) = some n → χ s c = χ' s c) : ∀ u : TV K, aT C t χ u = aT C t χ' u
 | u => (aT_chi2 h u)
where
 aT_chi2 {χ χ' : Nat → Nat → Bool} (h : ∀ s c n, tln (t.tb s c) = some n → χ s c = χ' s c) : ∀ u : TV K, aT C t χ u = aT C t χ' u
 | .rw s c => by
   simp only [aT]
   cases hq : tln (t.tb s c) with
   | none => rfl
   | some n => simp only [h s c n hq]
 | .agg cs => by simp only [aT, aTs_chi2 h cs]
 | .tup cs => by simp only [aT, aTs_chi2 h cs]
 | .fn f a c => by simp only [aT, aTs_chi2 h a, aTs_chi2 h c]
 | .cn _ v => by simp only [aT, aT_chi2 h v]
 | .it _ _ | .bl _ | .st _ | .sl _ _ | .nil | .un | .px _ _ _ | .lb _ | .li _ _ | .em | .pr _ _ _ _ _ | .ep _ _ _ _ | .gs _ _ | .nptr | .fv _ _ _ => by simp only [aT]
 aTs_chi2 {χ χ' : Nat → Nat → Bool} (h : ∀ s c n, tln (t.tb s c) = some n → χ s c = χ' s c) : ∀ us : List (TV K), aTs C t χ us = aTs C t χ' us
 | [] => rfl
 | u :: us => by simp only [aTs, aT_chi2 h u, aTs_chi2 h us]
theorem yur {χ χ' : Nat → Nat → Bool} (h : ∀ s c n, tln (t.tb s c) = some n → χ s c = χ' s c) (us : List (TV K)) : aTs C t χ us = aTs C t χ' us := by
 rw [ycs, ycs]
 exact List.map_congr_left fun u _ => yyE h u
theorem yyp {χ χ' : Nat → Nat → Bool} (h : ∀ s c n, tln (t.tb s c) = some n → χ s c = χ' s c) (b : TB K) : bT C t χ b = bT C t χ' b := by
 cases b <;> simp only [bT, yur h]
end
def chiD (t : TS K) (ξ : Nat → Bool) (s c : Nat) : Bool := decide (c = 1) && ((lkB t.od s).isSome && (Nat.ble 2000000 s && ξ s))
section
variable {P : Program} {C : Cx K} {R : RR K} {ts : TS K} {χ : Nat → Nat → Bool} {ds : DS}
def effL (C : Cx K) (us : List (TV K)) (t : TS K) (χ' : Nat → Nat → Bool) (M : RM) (d : Option Nat) (inn : List (Nat × K2)) : REff :=
 let out := gOut t χ' M (yao d); let f := fun x c => lkE out (x, c)
 ⟨reA f (ybk (aTs C t χ' us)), inn.map (fun p => (p.2, none)) ++ (out.map fun p => (p, Blk.re f (match lkB t.od p.1.1 with | some b => bT C t χ' b | none => ⟨0, 0, []⟩))).map fun p => (p.1.2, some p.2), gBs t χ' M (yao d), none⟩
theorem yva (hC : CxOk P C) {Φ : List (Sp K)} (hS : SsOk P C Φ) {Ls : List (Sl K)} (hL : SLOk P C Ls) {LD : List (AO × List Nat)} {QD : St → Prop} {i : Nat} {acc : List Foot} {o : AO} {fre : List Nat} (e0 : LD[i]? = some (o, fre)) (hg : gok o.guard ds.fr = true) (hγ : GM P C R ts χ ds) (hk : DOk ds)
  {f : FuncId} {us : List (TV K)} {vs : List AV} (ht : TL P C ts χ us vs) (ho : CalO o ds f vs) {sp : Sl K} {env : List (DV K)} {M : RM} {X : TS K → Prop} (hp : yjq C ts f us Ls = some (sp, env, M)) (h : ykx C Φ true ts o.dst sp env M us X)
  (k : ∀ e ts' χ' ds', (∀ q ∈ e.mem.map (·.1), q ∈ plcs sp o.dst M) → e.H = none → (∀ s ∈ e.bump, (s, 2) ∈ plcs sp o.dst M) → GM P C R ts' χ' ds' → DOk ds' → X ts' → ts'.rg = ts.rg → yjt (ycv o.op (toD ds) e) acc fre ∧ DD P LD (i + 1) (acc ++ [ycv o.op (toD ds) e]) QD ds') : DD P LD i acc QD ds := by
 obtain ⟨fs, out, hcl, hX, hrw, hks⟩ := ym4 hC hS hL hγ hk ht hp h
 have hrw := hrw rfl
 obtain ⟨o1, o2, o3, o4, o5, o6⟩ := ypQ hcl.hE
 refine yto e0 hg fun _ => ?_
 have htt := yvy (C := C) (fs := fs) hcl.hE hcl.wo
 have hrn : ∀ s c m, tln ((endT C sp (entL C sp fs env) out).tb s c) = some m → c = 1 ∧ 2000000 ≤ s ∧ ∃ e l, lkB (endT C sp (entL C sp fs env) out).od s = some (.row e l) ∧ lkB (entL C sp fs env).od s = some (.row e l) := by
  intro s c m hm
  cases hq : (endT C sp (entL C sp fs env) out).tb s c with
  | none => rw [hq] at hm; cases hm
  | some b =>
    have hc : c = 1 := by
     rcases tb_c hq with e | e
     ·exact e
     ·subst e; cases hq
    subst hc
    have hmem := ygo (show lkB (endT C sp (entL C sp fs env) out).od s = some b from hq)
    have hl := show lkB (endT C sp (entL C sp fs env) out).od s = some b from hq
    rw [hq] at hm
    have hod : (endT C sp (entL C sp fs env) out).od = (bdB C [] sp.te.bx (bdS C [] sp.te.ks out).2).1 ++ ((entL C sp fs env).od.filter fun x => ydW sp.kp x.1 && isBx x.2) ++ endR C sp out ++ (entL C sp fs env).od.filter fun x => ydW sp.kp x.1 && !isBx x.2 := rfl
    rw [hod] at hmem
    simp only [List.mem_append] at hmem
    rcases hmem with ((hmem | hmem) | hmem) | hmem
    ·obtain ⟨_, _, e⟩ := yqA (C := C) (rg := []) sp.te.bx (bdS C [] sp.te.ks out).2 _ hmem
     have e : some b = _ := e
     rw [e] at hm; cases hm
    ·have := (List.mem_filter.1 hmem).2
     simp only [Bool.and_eq_true] at this
     cases b <;> first | (cases hm; done) | (cases this.2; done)
    ·unfold endR at hmem
     rw [hrw] at hmem
     simp [bdR] at hmem
    ·have hm0 := (List.mem_filter.1 hmem).1
     have hn : s ∈ tiN sp := (hcl.h00 s).1 (List.mem_map_of_mem (f := (·.1)) hm0)
     have hl0 := ydI hcl.n1 hm0
     refine ⟨rfl, o3 s hn, ?_⟩
     rcases htt.ent _ (ygo hl) with ⟨⟨e, l, x, _, _, e3⟩, _⟩ | ⟨⟨e, l, e3⟩, _⟩
     ·have e3 : some b = _ := e3
      rw [e3] at hm; cases hm
     ·have e3 : some b = _ := e3
      exact ⟨e, l, by rw [hl, e3], by rw [hl0, e3]⟩
 have hvi : ViOk (endT C sp (entL C sp fs env) out) (chiD (endT C sp (entL C sp fs env) out) (xiM χ M)) := by
  intro s c hx
  simp only [chiD, Bool.and_eq_true, decide_eq_true_eq] at hx
  obtain ⟨rfl, h1, h2, h3⟩ := hx
  obtain ⟨e, he⟩ := hcl.xi s h3
  obtain ⟨b, hb⟩ := Option.isSome_iff_exists.1 h1
  have h2 := Nat.le_of_ble_eq_true h2
  refine ⟨e, ?_⟩
  show lkB (endT C sp (entL C sp fs env) out).od s = _
  rcases htt.ent _ (ygo hb) with ⟨_, e4⟩ | ⟨⟨e', l, e3⟩, e4⟩
  ·
   exfalso
   have hti : s ∈ sp.ti.bx.map (·.1) := by
    obtain ⟨k', hk', e5⟩ := List.mem_map.1 e4
    have e5 : k'.1 = s := e5
    rcases List.mem_append.1 (show k' ∈ sp.te.bx ++ sp.kbx from hk') with hk' | hk'
    ·have hok := hcl.hE
     simp only [okS, okN, Bool.and_eq_true] at hok
     exact yqF hok.1.1.1.1.2 s (by rw [← e5]; exact List.mem_map_of_mem (f := (·.1)) hk') h2
    ·rw [← e5]; exact List.mem_map_of_mem (f := (·.1)) (List.mem_filter.1 hk').1
   obtain ⟨e6, cs, e7⟩ := yxF (C := C) (rg := []) (hh := []) o6 o1 hti
   have he' : lkB (bdT C sp.ti [] [] env).od s = _ := he
   rw [e7] at he'; cases he'
  ·have e3 : some b = _ := e3
   rw [hb, e3]
   obtain ⟨_, _, e8, l8, q1, q2⟩ := hrn s 1 l.length (by show tln (lkB (endT C sp (entL C sp fs env) out).od s) = _; rw [hb, e3]; rfl)
   rw [he] at q2
   rw [hb, e3] at q1
   rw [q1, ← q2]
 have hlv : ∀ s b, 2000000 ≤ s → (endT C sp (entL C sp fs env) out).tb s 1 = some b → chiD (endT C sp (entL C sp fs env) out) (xiM χ M) s 1 = xiM χ M s := by
  intro s b hs hb
  have hb' : lkB (endT C sp (entL C sp fs env) out).od s = some b := hb
  unfold chiD
  rw [hb', Nat.ble_eq_true_of_le hs]
  simp
 have hce := hcl.ce _ htt hvi hlv
 have hend : ∀ av S1, EndL C sp (entL C sp fs env) (χ1 (xiM χ M)) out (toD ds).hp (toD ds).nx av S1 → (∃ us, ydp (endT C sp (entL C sp fs env) out) sp.res = some us ∧ av = ybk (aTs C (endT C sp (entL C sp fs env) out) (chiD (endT C sp (entL C sp fs env) out) (xiM χ M)) us)) ∧ S1.hp = (toD ds).hp ∧ S1.nx = (toD ds).nx ∧
   ∀ s b, lkB (endT C sp (entL C sp fs env) out).od s = some b → chiD (endT C sp (entL C sp fs env) out) (xiM χ M) s 1 = false → S1.M (.l s 1) = some (bT C (endT C sp (entL C sp fs env) out) (chiD (endT C sp (entL C sp fs env) out) (xiM χ M)) b) := by
  intro av S1 hend
  obtain ⟨_, χ', a1, a2, ⟨us, a3, a3'⟩, a4, a5, a6⟩ := ys1 hcl.hE hend
  have agr : ∀ s c n, tln ((endT C sp (entL C sp fs env) out).tb s c) = some n → χ' s c = chiD (endT C sp (entL C sp fs env) out) (xiM χ M) s c := by
   intro s c n hn
   obtain ⟨rfl, hs, e, l, q1, _⟩ := hrn s c n hn
   rw [a2 s _ hs (show (endT C sp (entL C sp fs env) out).tb s 1 = some _ from q1), χ1_one, hlv s _ hs (show (endT C sp (entL C sp fs env) out).tb s 1 = some _ from q1)]
  refine ⟨⟨us, a3, by rw [a3', yur agr]⟩, a4, a5, fun s b hb hx => ?_⟩
  rw [← yyp agr]
  refine a6 s b hb ?_
  rcases htt.ent _ (ygo hb) with ⟨⟨e, l, x, _, _, e3⟩, _⟩ | ⟨⟨e, l, e3⟩, _⟩
  ·cases hq : χ' s 1 with
   | false => rfl
   | true =>
     obtain ⟨e', he⟩ := a1 s 1 hq
     have he' : lkB (endT C sp (entL C sp fs env) out).od s = _ := he
     have e3 : some b = _ := e3
     rw [hb, e3] at he'; cases he'
  ·have e3 : some b = _ := e3
   rw [agr s 1 l.length (by show tln (lkB (endT C sp (entL C sp fs env) out).od s) = _; rw [hb, e3]; rfl)]
   exact hx
 let t := endT C sp (entL C sp fs env) out
 let χd := chiD t (xiM χ M)
 let inn := innM (rhoM χ M) (entL C sp fs env).od
 let e : REff := effL C ((ydp t sp.res).getD []) t χd M o.dst inn
 let outB : List ((K2 × K2) × Blk) := (gOut t χd M (yao o.dst)).map fun p => (p, Blk.re (fun x c => lkE (gOut t χd M (yao o.dst)) (x, c)) (match lkB t.od p.1.1 with | some b => bT C t χd b | none => ⟨0, 0, []⟩))
 have hfst : outB.map (·.1) = gOut t χd M (yao o.dst) := by
  show ((gOut t χd M (yao o.dst)).map _).map _ = _
  rw [List.map_map]
  exact (List.map_congr_left (fun _ _ => rfl)).trans (List.map_id _)
 have hblk : ∀ {S1 : St}, (∀ s b, lkB t.od s = some b → χd s 1 = false → S1.M (.l s 1) = some (bT C t χd b)) → ∀ p ∈ outB, (S1.M (.l p.1.1.1 p.1.1.2)).map (Blk.re fun d c => lkE (outB.map (·.1)) (d, c)) = some p.2 := by
  intro S1 hS p hp
  obtain ⟨q, hq, rfl⟩ := List.mem_map.1 hp
  have e1 := hce.out1 hq
  have hq' : ((q.1.1, 1), q.2) ∈ gOut t χd M (yao o.dst) := by rw [← e1]; exact hq
  obtain ⟨a, b, _⟩ := hce.go.1 hq'
  obtain ⟨y, hy, ey⟩ := List.mem_map.1 a
  obtain ⟨b0, _, e3⟩ := hce.tsome hy
  rw [ey] at e3
  have := hS _ b0 e3 b
  show (S1.M (.l q.1.1 q.1.2)).map _ = some (Blk.re _ (match lkB t.od q.1.1 with | some b => bT C t χd b | none => ⟨0, 0, []⟩))
  rw [show q.1.2 = 1 from e1, this, hfst, show lkB t.od q.1.1 = some b0 from e3]
  rfl
 have hE : ylv P (.f f) vs (toD ds) e := by
  refine .inr (.inr ⟨f, inn, outB, rfl, hcl.lend, rfl, rfl, (hcl.con (toD ds).hp (toD ds).nx).mono fun av S1 hrun => ?_⟩)
  obtain ⟨⟨us, a0, a1⟩, a2, a3, a4⟩ := hend av S1 hrun
  refine ⟨by rw [hfst]; exact hce.oko a4, by rw [hfst, a1]; show _ = reA _ (ybk (aTs C t χd ((ydp t sp.res).getD []))); rw [show ydp t sp.res = some us from a0]; rfl, a2, a3, hblk a4⟩
 let Sf : St := ⟨(toD ds).fr, fun k => match k with | .h x => (toD ds).M (.h x) | .l s c => if c = 1 then (lkB t.od s).map (bT C t χd) else none, (toD ds).cnt, (toD ds).nx⟩
 have hSf : ∀ s b, lkB t.od s = some b → χd s 1 = false → Sf.M (.l s 1) = some (bT C t χd b) := by
  intro s b hb _
  show (if (1 : Nat) = 1 then (lkB t.od s).map (bT C t χd) else none) = _
  rw [if_pos rfl, hb]; rfl
 have hmst : e.mst (toD ds) = toD (gDs C t χd inn (gOut t χd M (yao o.dst)) ds) := by
  have h1 := ypg (S := toD ds) (S1 := Sf) (inn := inn) (out := outB) (e := e) rfl rfl rfl rfl (by rw [hfst]; exact hce.on2) (hblk hSf)
  rw [hfst] at h1
  rw [← h1]
  exact hce.bl (fun s hs => (hcl.h00 s).1 hs) hSf rfl rfl
 have hpl : ∀ q ∈ e.mem.map (·.1), q ∈ plcs sp o.dst M := by
  have lent : ∀ {s : Nat} {q : Nat × Nat}, 2000000 ≤ s → plQ M (yao o.dst) s = some q → q ∈ plcs sp o.dst M := by
   intro s q hb hq
   rcases hce.big' hb hq with e | ⟨_, e⟩
   ·exact List.mem_append_left _ (List.mem_append_left _ (ydw e))
   ·exact List.mem_append_left _ (List.mem_append_right _ (ydu e))
  intro q hq
  obtain ⟨x, hx, rfl⟩ := List.mem_map.1 hq
  rcases List.mem_append.1 (show x ∈ inn.map (fun p => (p.2, none)) ++ outB.map (fun p => (p.1.2, some p.2)) from hx) with hx | hx
  ·obtain ⟨p, hp, rfl⟩ := List.mem_map.1 hx
   obtain ⟨s, hs, _, hq⟩ := hce.innp (fun s hs => (hcl.h00 s).1 hs) (List.mem_map_of_mem (f := (·.2)) hp)
   exact lent (hce.big s hs) hq
  ·obtain ⟨p, hp, rfl⟩ := List.mem_map.1 hx
   obtain ⟨y, hy, rfl⟩ := List.mem_map.1 hp
   have e1 := hce.out1 hy
   have hy' : ((y.1.1, 1), y.2) ∈ gOut t χd M (yao o.dst) := by rw [← e1]; exact hy
   obtain ⟨a, _, c⟩ := hce.go.1 hy'
   by_cases hb : 2000000 ≤ y.1.1
   ·exact lent hb c
   ·rw [yb0 hb] at c
    have c := Option.some.inj c
    show y.2 ∈ _
    rw [← c]
    refine List.mem_append_right _ (List.mem_map.2 ⟨y.1.1, ?_, rfl⟩)
    exact hce.newm a hb
 have hbs : ∀ s ∈ e.bump, (s, 2) ∈ plcs sp o.dst M := by
  intro s hs
  obtain ⟨p, hp, rfl⟩ := List.mem_map.1 (show s ∈ ((innM (goL t χd M (yao o.dst)) t.od).filter fun p => !Nat.ble 2000000 p.1).map fun p => p.2.1 from hs)
  obtain ⟨hp1, hp2⟩ := List.mem_filter.1 hp
  have hb : ¬ 2000000 ≤ p.1 := fun q => by rw [Nat.ble_eq_true_of_le q] at hp2; cases hp2
  have hm : ((p.1, 1), p.2) ∈ gOut t χd M (yao o.dst) := List.mem_map.2 ⟨p, hp1, rfl⟩
  obtain ⟨a, _, c⟩ := hce.go.1 hm
  rw [yb0 hb] at c
  have c := Option.some.inj c
  rw [← c]
  exact List.mem_append_right _ (List.mem_map.2 ⟨p.1, hce.newm a hb, rfl⟩)
 obtain ⟨k1, k2⟩ := k e _ _ _ hpl rfl hbs ((hce.gm fun s hs => (hcl.h00 s).1 hs).put (hce.val' hks)) (hce.dok.put (d := o.dst)) hX (by show (TS.put _ _ _).rg = _; rw [ycl]; rfl)
 have fin : ∀ K : REff → Prop, K e → eop (fun _ => false) P o.op o.dst (toD ds) K := by
  intro K hK
  rcases ho with ⟨args, h1, h2⟩ | ⟨x, args, first, cap, h1, h2, h3⟩
  ·rw [h1]; simp only [eop]; rw [ycr, h2]; exact ⟨_, hE, hK⟩
  ·rw [h1]; simp only [eop]; rw [ycr, h2]; simp only; rw [h3]; exact ⟨_, hE, hK⟩
 apply fin
 refine And.intro k1 ?_
 rw [show e.app o.dst (toD ds) = toD ((gDs C t χd inn (gOut t χd M (yao o.dst)) ds).put o.dst e.v) by unfold REff.app; rw [hmst, ycm]]
 exact k2 (hce.dok.put (d := o.dst))
end
end Go.AV
end
noncomputable section
namespace Go.AV
open Go.RowKit Go.RG Go.Lib
variable {K : Nat → Type}
section
variable {P : Program} {C : Cx K} {R : RR K} {ts ts1 : TS K} {χ : Nat → Nat → Bool} {ds : DS} {B : Base} [GB P B] {N : Nat} {ro : Option Nat}
theorem yr1 (p : Nat × TV K) (r : List (Nat × TV K)) (t : Nat) : lkR (p :: r) t = if p.1 = t then some p.2 else lkR r t := by
 show (match Nat.beq p.1 t with | true => some p.2 | false => lkR r t) = _
 cases h : Nat.beq p.1 t with
 | true => simp [nbeq.1 h]
 | false => simp only; rw [if_neg (fun e => by rw [nbeq.2 e] at h; cases h)]
theorem ExtR.refl {rg : List (Nat × TV K)} : ExtR rg rg := fun _ _ h => h
theorem ExtR.trans {a b c : List (Nat × TV K)} (h : ExtR a b) (k : ExtR b c) : ExtR a c := fun id w q => k id w (h id w q)
def Same (ts ts' : TS K) : Prop := ts'.od = ts.od ∧ ts'.nw = ts.nw
theorem ygX : ∀ (k : Kd) (v : TV K) (rg : List (Nat × TV K)), ExtR rg (tagV k v rg).2
 | .kp id, v, rg => by
   simp only [tagV]
   split
   ·rename_i h1 h2
    intro id' w h
    rw [yr1]
    split
    ·rename_i e; simp only at e; subst e; rw [h2] at h; cases h
    ·exact h
   ·exact .refl
 | .agg l, v, rg => by
   cases v with
   | agg vs =>
     simp only [tagV]
     exact tagVs_ext l vs rg
   | _ => exact .refl
 | .it _, v, rg => .refl
 | .bl, v, rg => .refl
 | .st, v, rg => .refl
 | .sl _, v, rg => .refl
 | .v _, v, rg => .refl
 | .row _, v, rg => .refl
 | .px _ _, v, rg => .refl
 | .nil, v, rg => .refl
 | .np, v, rg => .refl
 | .fn _ _ _, v, rg => .refl
 | .un, v, rg => .refl
where tagVs_ext : ∀ (l : List Kd) (vs : List (TV K)) (rg : List (Nat × TV K)), ExtR rg (ygk l vs rg).2
 | [], vs, rg => .refl
 | k :: l, [], rg => .refl
 | k :: l, v :: vs, rg => by
   simp only [ygk]
   exact (ygX k v rg).trans (tagVs_ext l vs _)
theorem Mono.same {ts ts' : TS K} (hs : Same ts ts') (hx : ExtR ts.rg ts'.rg) : Mono ts ts' χ χ := by
 have ht : ∀ s c, ts'.tb s c = ts.tb s c := by intro s c; unfold TS.tb; rw [hs.1, hs.2]
 refine ⟨hx, fun s c h => ?_, fun s c _ => .inr ⟨by rw [ht], rfl⟩⟩
 rcases h with h | ⟨h1, h2⟩
 ·exact .inl h
 ·exact .inr ⟨h1, by rw [hs.2]; exact h2⟩
mutual
theorem ysJ : ∀ (k : Kd) (v : TV K) (rg : List (Nat × TV K)) (a : AV) (ts' : TS K), TR P C ts χ v a → Mono ts ts' χ χ → ExtR (tagV k v rg).2 ts'.rg → TR P C ts' χ (tagV k v rg).1 a
 | .kp id, v, rg, a, ts', h, hm, hx => by
   simp only [tagV] at hx ⊢
   split
   ·rename_i h1 h2
    rw [h1, h2] at hx
    exact .cn id v a (hx id v (by rw [yr1]; simp)) h1 (h.noref h1).1
   ·exact h.mono hm
 | .agg l, .agg vs, rg, a, ts', h, hm, hx => by
   simp only [tagV] at hx ⊢
   obtain ⟨as, rfl, t1, t2⟩ := h.agg'
   have := ynR l vs rg as ts' ⟨t1, t2⟩ hm hx
   exact .agg _ _ this.1 this.2
 | .agg l, .un, rg, a, ts', h, hm, hx => h.mono hm
 | .agg l, .lb b, rg, a, ts', h, hm, hx => h.mono hm
 | .agg l, .bl b, rg, a, ts', h, hm, hx => h.mono hm
 | .agg l, .li k n, rg, a, ts', h, hm, hx => h.mono hm
 | .agg l, .it k n, rg, a, ts', h, hm, hx => h.mono hm
 | .agg l, .st s, rg, a, ts', h, hm, hx => h.mono hm
 | .agg l, .tup s, rg, a, ts', h, hm, hx => h.mono hm
 | .agg l, .nil, rg, a, ts', h, hm, hx => h.mono hm
 | .agg l, .em, rg, a, ts', h, hm, hx => h.mono hm
 | .agg l, .sl _ _, rg, a, ts', h, hm, hx => h.mono hm
 | .agg l, .rw _ _, rg, a, ts', h, hm, hx => h.mono hm
 | .agg l, .px _ _ _, rg, a, ts', h, hm, hx => h.mono hm
 | .agg l, .pr _ _ _ _ _, rg, a, ts', h, hm, hx => h.mono hm
 | .agg l, .ep _ _ _ _, rg, a, ts', h, hm, hx => h.mono hm
 | .agg l, .gs _ _, rg, a, ts', h, hm, hx => h.mono hm
 | .agg l, .nptr, rg, a, ts', h, hm, hx => h.mono hm
 | .agg l, .fn _ _ _, rg, a, ts', h, hm, hx => h.mono hm
 | .agg l, .fv _ _ _, rg, a, ts', h, hm, hx => h.mono hm
 | .agg l, .cn _ _, rg, a, ts', h, hm, hx => h.mono hm
 | .it _, v, rg, a, ts', h, hm, hx => h.mono hm
 | .bl, v, rg, a, ts', h, hm, hx => h.mono hm
 | .st, v, rg, a, ts', h, hm, hx => h.mono hm
 | .sl _, v, rg, a, ts', h, hm, hx => h.mono hm
 | .v _, v, rg, a, ts', h, hm, hx => h.mono hm
 | .row _, v, rg, a, ts', h, hm, hx => h.mono hm
 | .px _ _, v, rg, a, ts', h, hm, hx => h.mono hm
 | .nil, v, rg, a, ts', h, hm, hx => h.mono hm
 | .np, v, rg, a, ts', h, hm, hx => h.mono hm
 | .fn _ _ _, v, rg, a, ts', h, hm, hx => h.mono hm
 | .un, v, rg, a, ts', h, hm, hx => h.mono hm
theorem ynR : ∀ (l : List Kd) (vs : List (TV K)) (rg : List (Nat × TV K)) (as : List AV) (ts' : TS K), TL P C ts χ vs as → Mono ts ts' χ χ → ExtR (ygk l vs rg).2 ts'.rg → TL P C ts' χ (ygk l vs rg).1 as
 | [], vs, rg, as, ts', h, hm, hx => h.mono hm
 | k :: l, [], rg, as, ts', h, hm, hx => h.mono hm
 | k :: l, v :: vs, rg, as, ts', h, hm, hx => by
   cases as with
   | nil => simp [TL] at h
   | cons a as =>
     simp only [ygk] at hx ⊢
     exact .cons (ysJ k v rg a ts' h.head.1 hm ((ygX.tagVs_ext l vs _).trans hx)) (ynR l vs _ as ts' h.head.2 hm hx)
end
theorem yrq : ∀ (l : List (Nat × Kd)) (ts : TS K), ExtR ts.rg (tagS l ts).rg ∧ (tagS l ts).nw = ts.nw ∧ (tagS l ts).h = ts.h
 | [], ts => ⟨.refl, rfl, rfl⟩
 | p :: l, ts => by
   simp only [tagS]
   have := yrq l ⟨(p.1, (tagV p.2 (lkT ts.fr p.1) ts.rg).1) :: ts.fr, ts.od, ts.nw, (tagV p.2 (lkT ts.fr p.1) ts.rg).2, ts.h⟩
   exact ⟨(ygX _ _ _).trans this.1, this.2.1, this.2.2⟩
theorem ytw : ∀ (l : List (Nat × Kd)) (ts : TS K), GM P C R ts χ ds → GM P C R (tagS l ts) χ ds
 | [], ts, h => h
 | p :: l, ts, h => by
   simp only [tagS]
   refine ytw l _ ?_
   have hm : Mono ts ⟨(p.1, (tagV p.2 (lkT ts.fr p.1) ts.rg).1) :: ts.fr, ts.od, ts.nw, (tagV p.2 (lkT ts.fr p.1) ts.rg).2, ts.h⟩ χ χ := Mono.same ⟨rfl, rfl⟩ (ygX _ _ _)
   refine ⟨fun t => ?_, fun s c b hb hx => ?_, h.vi, h.nw, h.hp, h.lv⟩
   ·show TR P C _ χ (lkT ((p.1, _) :: ts.fr) t) _
    rw [yek]
    split
    ·rename_i e; rw [← e]; exact ysJ p.2 _ ts.rg _ _ (h.fr p.1) hm .refl
    ·exact (h.fr t).mono hm
   ·obtain ⟨kb, h1, h2⟩ := h.mb s c b hb hx
    exact ⟨kb, h1, h2.mono hm⟩
theorem ypw : ∀ (l : List Kd) (vs : List (TV K)) (rg : List (Nat × TV K)), (ygk l vs rg).1.length = vs.length
 | [], vs, rg => rfl
 | k :: l, [], rg => rfl
 | k :: l, v :: vs, rg => by simp only [ygk, List.length_cons, ypw l vs]
theorem yow : ∀ (l : List (Nat × Nat × List Kd)) (ts : TS K), ExtR ts.rg (tagB l ts).rg ∧ (tagB l ts).nw = ts.nw ∧ (tagB l ts).h = ts.h
 | [], ts => ⟨.refl, rfl, rfl⟩
 | p :: l, ts => by
   simp only [tagB]
   split
   ·rename_i e cs hb
    have := yow l ⟨ts.fr, (p.1, some (.box e (ygk p.2.2 cs ts.rg).1)) :: ts.od, ts.nw, (ygk p.2.2 cs ts.rg).2, ts.h⟩
    exact ⟨(ygX.tagVs_ext _ _ _).trans this.1, this.2.1, this.2.2⟩
   ·exact yow l ts
theorem yrd : ∀ (l : List (Nat × Nat × List Kd)) (ts : TS K), GM P C R ts χ ds → GM P C R (tagB l ts) χ ds
 | [], ts, h => h
 | p :: l, ts, h => by
   simp only [tagB]
   split
   ·rename_i e cs hb
    refine yrd l _ ?_
    have htb : ∀ s c, (⟨ts.fr, (p.1, some (.box e (ygk p.2.2 cs ts.rg).1)) :: ts.od, ts.nw, (ygk p.2.2 cs ts.rg).2, ts.h⟩ : TS K).tb s c = if s = p.1 ∧ c = 1 then some (.box e (ygk p.2.2 cs ts.rg).1) else ts.tb s c := fun s c => yce ts p.1 1 (some (.box e (ygk p.2.2 cs ts.rg).1)) (.inl rfl) s c
    have hbx : ts.tb p.1 1 = some (.box e cs) := hb
    have hm : Mono ts ⟨ts.fr, (p.1, some (.box e (ygk p.2.2 cs ts.rg).1)) :: ts.od, ts.nw, (ygk p.2.2 cs ts.rg).2, ts.h⟩ χ χ := by
     refine ⟨ygX.tagVs_ext _ _ _, fun s c q => q, fun s c _ => .inr ⟨?_, rfl⟩⟩
     rw [htb]
     split
     ·rename_i q; obtain ⟨rfl, rfl⟩ := q; rw [hbx]; rfl
     ·rfl
    refine ⟨fun t => (h.fr t).mono hm, fun s c b hb' hx => ?_, fun s c hx => ?_, h.nw, h.hp, fun s b q e => ?_⟩
    rotate_right
    ·rw [htb] at e
     split at e
     ·rename_i q'; obtain ⟨rfl, _⟩ := q'; exact h.lv _ _ q hbx
     ·exact h.lv s b q e
    ·rw [htb] at hb'
     split at hb'
     ·rename_i q
      obtain ⟨rfl, rfl⟩ := q
      cases hb'
      obtain ⟨kb, h1, h2⟩ := h.mb _ _ _ hbx hx
      refine ⟨kb, h1, ?_⟩
      have t := ynR (P := P) (C := C) (ts := ts) (χ := χ) p.2.2 cs ts.rg kb.cells _ ⟨h2.2.2.1, h2.2.2.2⟩ hm .refl
      exact ⟨h2.1, by rw [ypw]; exact h2.2.1, t.1, t.2⟩
     ·obtain ⟨kb, h1, h2⟩ := h.mb s c b hb' hx
      exact ⟨kb, h1, h2.mono hm⟩
    ·obtain ⟨e', h1⟩ := h.vi s c hx
     refine ⟨e', ?_⟩
     rw [htb]
     split
     ·rename_i q; obtain ⟨rfl, rfl⟩ := q; rw [hbx] at h1; cases h1
     ·exact h1
   ·exact yrd l ts h
theorem ysW {τ : Tm} (h : GM P C R ts χ ds) : GM P C R (tagT τ ts) χ ds := yrd _ _ (ytw _ _ h)
theorem yi2 (τ : Tm) (ts : TS K) : ExtR ts.rg (tagT τ ts).rg := (yrq τ.ks ts).1.trans (yow τ.bx _).1
def curC : (cs : List CT) → (List (DV K) → Prop) → Cur K Prop cs
 | [], p => p []
 | _ :: cs, p => fun x => curC cs fun env => p (inC _ x :: env)
theorem yxp (c : CT) (x : CTy K c) : outC c (inC c x) = some x := by
 cases c with
 | l e => exact dif_pos rfl
 | v t => exact dif_pos rfl
 | i => rfl
 | b => rfl
 | s => rfl
theorem yxK {x : DV K} {n : Int} (h : outI x = some n) : .i n = x := by
 cases x <;> first | (cases h; rfl) | (cases h; done)
theorem yvv {x : DV K} {n : Bool} (h : yxH x = some n) : .b n = x := by
 cases x <;> first | (cases h; rfl) | (cases h; done)
theorem ywx {x : DV K} {n : Str} (h : outS x = some n) : .s n = x := by
 cases x <;> first | (cases h; rfl) | (cases h; done)
theorem ywH {e : Nat} {x : DV K} {l : List (K e)} (h : outL e x = some l) : .l e l = x := by
 cases x with
 | l e' l' => obtain ⟨rfl, rfl⟩ := ydE h; rfl
 | _ => cases h
theorem yxg {t : Nat} {x : DV K} {y : K t} (h : outT t x = some y) : .v t y = x := by
 cases x with
 | v t' y' =>
   simp only [outT] at h
   split at h
   ·rename_i e; subst e; cases h; rfl
   ·cases h
 | _ => cases h
theorem ywT {c : CT} {x : DV K} {y : CTy K c} (h : outC c x = some y) : inC c y = x := by
 cases c with
 | l e => exact ywH h
 | v t => exact yxg h
 | i => exact yxK h
 | b => exact yvv h
 | s => exact ywx h
theorem yq9 : ∀ (cs : List CT) (p : List (DV K) → Prop) (env : List (DV K)), apC False cs (curC cs p) env → p env
 | [], p, [], h => h
 | [], p, _ :: _, h => h.elim
 | c :: cs, p, [], h => h.elim
 | c :: cs, p, x :: env, h => by
   simp only [apC] at h
   split at h
   ·rename_i y hy
    have := yq9 cs _ env h
    rw [ywT hy] at this; exact this
   ·exact h.elim
theorem yox : ∀ (cs : List CT) (p : List (DV K) → Prop) (q : List (DV K) → Prop), (∀ env, q env → p env) → allC cs fun env => q env → apC False cs (curC cs p) env
 | [], p, q, h => fun hq => h [] hq
 | c :: cs, p, q, h => fun x => by
   have := yox cs (fun env => p (inC c x :: env)) (fun env => q (inC c x :: env)) (fun env => h _)
   show allC cs fun env => q (inC c x :: env) → (match outC c (inC c x) with | some y => apC False cs (curC (c :: cs) p y) env | none => False)
   rw [yxp]
   exact this
variable (P C R) in
def Kq (rg : List (Nat × TV K)) (Q : AEx → TS K → Prop) (e : AEx) (ks : KS) : Prop := KOk ks ∧ ∃ ts χ, GM P C R ts χ (ofK ks) ∧ ExtR rg ts.rg ∧ Q e ts
theorem Kq.mono {rg rg' : List (Nat × TV K)} {Q : AEx → TS K → Prop} {e : AEx} {ks : KS} (h : Kq P C R rg Q e ks) (hx : ExtR rg' rg) : Kq P C R rg' Q e ks := by
 obtain ⟨a, ts, χ, b, c, d⟩ := h
 exact ⟨a, ts, χ, b, hx.trans c, d⟩
theorem yxv (C : Cx K) (ts : TS K) (s : Nat) : (fz C ts s).rg = ts.rg := by unfold fz; split <;> rfl
theorem ysR (C : Cx K) : ∀ (n : Nat) (vs : List (TV K)) (ts : TS K), (fzA C n vs ts).rg = ts.rg
 | 0, _, _ => rfl
 | n + 1, vs, ts => by
   simp only [fzA]
   split
   ·rfl
   ·split
    ·rw [yxv, ysR C n]
    ·rw [yxv]
theorem yuh (C : Cx K) (fr : List (Nat × TV K)) : ∀ (l : List (Nat × Kd)) (ts : TS K), (fzT C fr l ts).rg = ts.rg
 | [], _ => rfl
 | (t, k) :: r, ts => by
   cases k with
   | sl e =>
     simp only [fzT]
     rw [yuh C fr r]
     split
     ·rw [yxv]
     ·rfl
   | _ => simp only [fzT]; exact yuh C fr r ts
theorem yvA (hB : ydZ B) (hC : CxOk P C) (f : TS K → List (TV K)) : ∀ (l : List AOpd) (ts : TS K), REk P C R B N ts (l.foldl (fun ts x => fzA C 9 [tea ts.fr x] ts) ts) ∧ (l.foldl (fun ts x => fzA C 9 [tea ts.fr x] ts) ts).rg = ts.rg
 | [], ts => ⟨.refl, rfl⟩
 | x :: l, ts => by
   have _ := (inferInstance : GB P B)
   obtain ⟨a, b⟩ := yvA hB hC f l (fzA C 9 [tea ts.fr x] ts)
   exact ⟨(yrL hB hC _ _ _).trans a, by rw [List.foldl_cons, b, ysR]⟩
theorem yxf (hB : ydZ B) (hC : CxOk P C) {F : Cf K} (hF : F.C = C) {o : AO} : (frzA F o ts = ts ∨ REt P C R B N ts (frzA F o ts)) ∧ (frzA F o ts).rg = ts.rg := by
 have go : ∀ (args : List AOpd), REt P C R B N ts (args.foldl (fun ts x => fzA F.C 9 [tea ts.fr x] ts) (er ts)) ∧ (args.foldl (fun ts x => fzA F.C 9 [tea ts.fr x] ts) (er ts)).rg = ts.rg := by
  intro args
  rw [hF]
  obtain ⟨a, b⟩ := yvA (N := N) hB hC (fun _ => []) args (er ts)
  exact ⟨(yzn hB hC).thenk a, b⟩
 unfold frzA frzs
 split
 ·exact ⟨.inl rfl, rfl⟩
 ·exact ⟨.inr (go _).1, (go _).2⟩
section
variable {L : List AO} {i : Nat}
theorem yze (hB : ydZ B) {Q : KS → Prop} (h : REt P C R B N ts ts1) (hk : DOk ds) (hγ : GM P C R ts χ ds) (k : ∀ ks ξ, KOk ks → GM P C R ts1 ξ (ofK ks) → WD P B N ro L i Q (ofK ks)) : WD P B N ro L i Q ds :=
 yz2 fun _ => (h χ ds hk hγ).mono fun ks ⟨h1, ξ, h2⟩ => k ks ξ h1 h2
theorem yx2 {Q : KS → Prop} (e : L.drop i = []) (h : DOk ds → RE B N (toD ds) Q) : WD P B N ro L i Q ds := by
 have _ := (inferInstance : GB P B)
 intro ops pre suf he ht a G hR
 rw [e] at ht
 cases suf with
 | cons x suf =>
   simp only [ykj] at ht
   split at ht <;> cases ht
 | nil =>
   obtain ⟨ks1, G1, h1, h2, h3⟩ := h hR.2 a G hR.1
   simp only [List.length_nil, List.range'_zero, wpOpsIn]
   rw [← h1]
   exact ⟨ks1, G1, h2, rfl, h3⟩
theorem ymY {g : Option (Nat × Bool)} {fr : List (Nat × AV)} {d : Nat} {b : Bool} (e : g = some (d, b)) (h : lkF fr d = .bl b) : gok g fr = true := by
 subst e; simp only [gok, h]; cases b <;> rfl
theorem ymZ {g : Option (Nat × Bool)} {fr : List (Nat × AV)} {d : Nat} {b c : Bool} (e : g = some (d, b)) (h : lkF fr d = .bl c) (hn : c ≠ b) : gno g fr = true := by
 subst e; simp only [gno, h]; cases b <;> cases c <;> first | rfl | exact absurd rfl hn
theorem yw8 (hB : ydZ B) (hC : CxOk P C) {F : Cf K} (hF : F.C = C) (hS : SsOk P C F.S) (hL : SLOk P C F.L) (hN : F.N = N) {o : AO} {X : TS K → Prop} {Q : KS → Prop} (e0 : L[i]? = some o) (hγ : GM P C R ts χ ds) (hk : DOk ds) (hg : gok o.guard ds.fr = true) (h : step F false o ts X)
  (k : ∀ ts' χ' ds', GM P C R ts' χ' ds' → DOk ds' → X ts' → ts'.rg = ts.rg → WD P B N ro L (i + 1) Q ds') : WD P B N ro L i Q ds := by
 have calls : ∀ {f : FuncId} {us : List (TV K)} {vs : List AV}, TL P C ts χ us vs → CalO o ds f vs → ytn F.C F.S ts o.dst f us X → WD P B N ro L i Q ds := by
  intro f us vs ht ho h
  rw [hF] at h
  obtain ⟨vs', kl, d1, v, ts', χ', c1, c2, c3, c4, c5, _, _⟩ := ynP hC hS hγ hk ht ho h
  exact ysd e0 hg c1 (k ts' χ' _ c2 c3.put c4 c5)
 have callL : ∀ {f : FuncId} {us : List (TV K)} {vs : List AV} {sp : Sl K} {env : List (DV K)} {M : RM}, TL P C ts χ us vs → CalO o ds f vs → yjq F.C ts f us F.L = some (sp, env, M) → ykx F.C F.S false ts o.dst sp env M us X → WD P B N ro L i Q ds := by
  intro f us vs sp env M ht ho hp h
  rw [hF] at h hp
  exact yvd hC hS hL e0 hg hγ ht ho hp h k
 have rest : yqN o.op = true → step F true o ts X → WD P B N ro L i Q ds := by
  intro hn h
  obtain ⟨e, ds', ts', χ', h1, h2, h3, h4, h5, h6⟩ := yrn hC hγ hk hF hn h
  have hc : isMC o.op = false := by cases hop : o.op <;> rw [hop] at hn <;> first | rfl | (cases hn; done)
  exact WD_e e0 hg (fun _ => h1) hc (k ts' χ' ds' h4 h1.ok h5 h6)
 cases ho : o.op with
 | call f args =>
   unfold step at h; rw [ho] at h
   simp only at h
   split at h
   ·rename_i sp env M hp
    exact callL (TL.tea hγ args) (.inl ⟨args, ho, rfl⟩) hp h
   ·exact calls (TL.tea hγ args) (.inl ⟨args, ho, rfl⟩) h
 | calv x args =>
   unfold step at h; rw [ho] at h
   simp only at h
   have hx := hγ.tev x
   split at h
   ·rename_i f a c ex
    rw [ex] at hx
    generalize hv : ev (lkF ds.fr) x = v at hx
    cases hx with
    | fn _ _ _ a' c' ha hc h1 h2 =>
      split at h
      ·rename_i sp env M hp
       exact callL (((show TL P C ts χ a a' from ⟨ha, h1⟩).app (TL.tea hγ args)).app ⟨hc, h2⟩) (.inr ⟨x, args, a', c', ho, hv, rfl⟩) hp h
      ·exact calls (((show TL P C ts χ a a' from ⟨ha, h1⟩).app (TL.tea hγ args)).app ⟨hc, h2⟩) (.inr ⟨x, args, a', c', ho, hv, rfl⟩) h
   ·rename_i ps rs V ex
    rw [ex] at hx
    cases hx with
    | fv _ _ _ _ hV hv =>
      rw [hF] at h
      obtain ⟨f, vs, vs', kl, d1, w, ts', χ', c1, c2, c3, c4, c5, _⟩ := ysa hC hγ hk hV ho rfl hv (TL.tea hγ args) h
      exact ysd e0 hg c1 (k ts' χ' _ c2 c3.put c4 c5)
   ·exact h.elim
 | len x =>
   cases hs : yyK F.N x with
   | false =>
     refine rest (by rw [ho]; rfl) ?_
     unfold step at h ⊢; rw [ho] at h ⊢
     simp only [hs] at h ⊢
     exact h
   | true =>
     unfold step at h; rw [ho] at h
     simp only [hs, Bool.not_true, Bool.or_false] at h
     unfold tlen at h
     split at h
     ·rename_i e l ex
      have hx := hγ.tev x
      rw [ex] at hx
      cases x with
      | c v => cases hs
      | t n =>
        obtain ⟨z, xs, hxs, hv⟩ := hx.sli
        refine yyk (t := n) (by rw [← hN]; exact Nat.le_of_ble_eq_true hs) hv fun hm => ?_
        refine rest (by rw [ho]; rfl) ?_
        unfold step; rw [ho]
        simp only [Bool.true_or]
        unfold tlen
        rw [ex]
        exact h hm
     ·rename_i ex
      refine rest (by rw [ho]; rfl) ?_
      unfold step; rw [ho]; simp only [Bool.true_or]; unfold tlen; rw [ex]; exact h
     ·rename_i ex
      refine rest (by rw [ho]; rfl) ?_
      unfold step; rw [ho]; simp only [Bool.true_or]; unfold tlen; rw [ex]; exact h
     ·rename_i s c ex
      refine rest (by rw [ho]; rfl) ?_
      unfold step; rw [ho]; simp only [Bool.true_or]; unfold tlen; rw [ex]; exact h
     ·exact h.elim
 | _ =>
   refine rest (by rw [ho]; rfl) ?_
   unfold step at h ⊢; rw [ho] at h ⊢; exact h
theorem yue (hB : ydZ B) (hC : CxOk P C) {F : Cf K} (hF : F.C = C) (hS : SsOk P C F.S) (hL : SLOk P C F.L) (hN : F.N = N) {X : TS K → Prop} {Q : KS → Prop} : ∀ (L' : List AO) (i : Nat) (ts : TS K) (χ : Nat → Nat → Bool) (ds : DS), L.drop i = L' → GM P C R ts χ ds → DOk ds → tops F L' ts X →
  (∀ ts' χ' ds', GM P C R ts' χ' ds' → DOk ds' → X ts' → ExtR ts.rg ts'.rg → RE B N (toD ds') Q) → WD P B N ro L i Q ds
 | [], i, ts, χ, ds, e, hγ, hk, h, fin => yx2 e fun _ => fin ts χ ds hγ hk h .refl
 | o :: r, i, ts, χ, ds, e, hγ, hk, h, fin => by
   have e0 : L[i]? = some o := by
    have := congrArg (·[0]?) e
    simpa using this
   have e1 : L.drop (i + 1) = r := by rw [← List.drop_drop, e]; rfl
   have next : ∀ {ts ts2 : TS K} {χ2 : Nat → Nat → Bool} {ds2 : DS}, (∀ ts' χ' ds', GM P C R ts' χ' ds' → DOk ds' → X ts' → ExtR ts.rg ts'.rg → RE B N (toD ds') Q) → GM P C R ts2 χ2 ds2 → DOk ds2 → tops F r ts2 X → ts2.rg = ts.rg → WD P B N ro L (i + 1) Q ds2 := by
    intro ts ts2 χ2 ds2 fin a b c d
    exact yue hB hC hF hS hL hN r (i + 1) ts2 χ2 ds2 e1 a b c fun ts3 χ3 ds3 p q s t => fin ts3 χ3 ds3 p q s (by rw [← d]; exact t)
   have main : ∀ {ts : TS K} {χ : Nat → Nat → Bool} {ds : DS}, GM P C R ts χ ds → DOk ds → topg F o (fun t => tops F r t X) ts → (∀ ts' χ' ds', GM P C R ts' χ' ds' → DOk ds' → X ts' → ExtR ts.rg ts'.rg → RE B N (toD ds') Q) → WD P B N ro L i Q ds := by
    intro ts χ ds hγ hk h fin
    have run : ∀ {ts0 : TS K} {ds0 : DS}, GM P C R ts0 χ ds0 → DOk ds0 → ts0.rg = ts.rg → gok o.guard ds0.fr = true → step F false o ts0 (fun t => tops F r t X) → WD P B N ro L i Q ds0 := by
     intro ts0 ds0 hγ0 hk0 hr hg hst
     exact yw8 hB hC hF hS hL hN e0 hγ0 hk0 hg hst fun ts2 χ2 ds2 a b c d => next fin a b c (d.trans hr)
    have skip : ∀ {ts0 : TS K} {ds0 : DS}, GM P C R ts0 χ ds0 → DOk ds0 → ts0.rg = ts.rg → gno o.guard ds0.fr = true → tops F r (ts0.put o.dst (.tup [])) X → WD P B N ro L i Q ds0 := by
     intro ts0 ds0 hγ0 hk0 hr hg hst
     exact yxY e0 hg (next fin (hγ0.put (.tup [] [] rfl (fun j u v h => by simp at h))) hk0.put hst ((ycl _ _ _).trans hr))
    unfold topg tgd at h
    split at h
    ·rename_i hg
     exact run hγ hk rfl (by rw [hg]; rfl) h
    ·rename_i d b hg
     have hd := (hγ.fr d).s
     split at h
     ·rename_i c hc
      rw [hc] at hd
      have hv := hd.lbi
      split at h
      ·rename_i hcb
       have : c = b := by cases c <;> cases b <;> first | rfl | cases hcb
       subst this
       exact run hγ hk rfl (ymY hg hv) h
      ·rename_i hcb
       exact skip hγ hk rfl (ymZ hg hv (by intro q; subst q; cases c <;> cases hcb)) h
     ·rename_i c hc
      rw [hc] at hd
      have hv := hd.bli
      obtain ⟨h1, h2⟩ := h
      refine ywS hv (fun hb => ?_) (fun hb => ?_)
      ·have hh := h1 hb
       have g1 := hγ.put (d := some d) (TR.lb (P := P) (C := C) (ts := ts) (χ := χ) true)
       have v1 : lkF (ds.put (some d) (.bl true)).fr d = .bl true := by show lkF ((d, .bl true) :: ds.fr) d = _; rw [ydb]; simp
       cases b with
       | true => exact run g1 hk.put (ycl _ _ _) (ymY hg v1) hh
       | false => exact skip g1 hk.put (ycl _ _ _) (ymZ hg v1 (by simp)) hh
      ·have hh := h2 hb
       have g1 := hγ.put (d := some d) (TR.lb (P := P) (C := C) (ts := ts) (χ := χ) false)
       have v1 : lkF (ds.put (some d) (.bl false)).fr d = .bl false := by show lkF ((d, .bl false) :: ds.fr) d = _; rw [ydb]; simp
       cases b with
       | true => exact skip g1 hk.put (ycl _ _ _) (ymZ hg v1 (by simp)) hh
       | false => exact run g1 hk.put (ycl _ _ _) (ymY hg v1) hh
     ·rename_i hc
      rw [hc] at hd
      obtain ⟨vs, hv, hl, _⟩ := hd.tup'
      have : vs = [] := List.eq_nil_of_length_eq_zero hl
      subst this
      exact skip hγ hk rfl (by rw [hg]; simp only [gno, hv]) h
     ·exact h.elim
   obtain ⟨hfr, hrg⟩ := yxf (N := N) (ts := ts) hB hC hF (o := o)
   rcases hfr with hq | hq
   ·rw [tops, hq] at h; exact main hγ hk h fin
   ·rw [tops] at h
    exact yze hB hq hk hγ fun ks ξ a b => main b (yhp a) h fun ts' χ' ds' p q s t => fin ts' χ' ds' p q s (by rw [← hrg]; exact t)
end
section
structure LeF (f : Foot) (t : TFt) : Prop where
 rk : ∀ k ∈ f.rk, (∃ o, k = .h o) ∨ ∃ q ∈ t.rk, k = .l q.1 q.2
 wk : ∀ q ∈ f.wk, q ∈ t.wk
 wh : f.wh = false
 bs : ∀ s ∈ f.bs, (s, 2) ∈ t.wk
theorem yk4 : ∀ {l : List (Nat × Nat)} {q : Nat × Nat}, q ∈ l → memQ l q = true
 | p :: r, q, h => by
   show ((Nat.beq p.1 q.1 && Nat.beq p.2 q.2) || memQ r q) = true
   rcases List.mem_cons.1 h with rfl | h
   ·rw [nbeq.2 rfl, nbeq.2 rfl]; rfl
   ·rw [yk4 h, Bool.or_true]
theorem yyy {a b : Foot} {s t : TFt} (ha : LeF a s) (hb : LeF b t) (h : okT s t = true) : okF a b := by
 simp only [okT, Bool.and_eq_true, List.all_eq_true, Bool.not_eq_true'] at h
 obtain ⟨h1, h2⟩ := h
 have nk : ∀ {q : Nat × Nat} {k : Key} {l : List (Nat × Nat)}, memQ l q = false → ((∃ o, k = .h o) ∨ ∃ r ∈ l, k = .l r.1 r.2) → Key.l q.1 q.2 ≠ k := by
  rintro q k l hq (⟨o, rfl⟩ | ⟨r, hr, rfl⟩) e
  ·cases e
  ·simp only [Key.l.injEq] at e
   have : q = r := Prod.ext e.1 e.2
   subst this
   rw [yk4 hr] at hq; cases hq
 refine ⟨ybE.2 fun q hq => ⟨ybE.2 fun k hk => nk (h1 q (ha.wk q hq)).1 (hb.rk k hk), ybE.2 fun r hr e => ?_⟩, ybE.2 fun q hq => ybE.2 fun k hk => nk (h2 q (hb.wk q hq)) (ha.rk k hk), fun e => (by rw [ha.wh] at e; cases e), fun e => (by rw [hb.wh] at e; cases e), ybE.2 fun q hq => ybE.2 fun r hr e => ?_⟩
 ·subst e
  have := (h1 q (ha.wk q hq)).2
  rw [yk4 (hb.wk q hr)] at this; cases this
 ·subst e
  have := (h1 (q, 2) (ha.bs q hq)).2
  rw [yk4 (hb.bs q hr)] at this; cases this
def LeA (acc : List Foot) (tacc : List TFt) : Prop := acc.length = tacc.length ∧ ∀ (j : Nat) (f : Foot) (t : TFt), acc[j]? = some f → tacc[j]? = some t → LeF f t
theorem LeA.snoc {acc : List Foot} {tacc : List TFt} {f : Foot} {t : TFt} (h : LeA acc tacc) (k : LeF f t) : LeA (acc ++ [f]) (tacc ++ [t]) := by
 refine ⟨by simp [h.1], fun j g s a b => ?_⟩
 by_cases hj : j < acc.length
 ·rw [List.getElem?_append_left hj] at a
  rw [List.getElem?_append_left (by rw [← h.1]; exact hj)] at b
  exact h.2 j g s a b
 ·rw [List.getElem?_append_right (by omega)] at a
  rw [List.getElem?_append_right (by rw [← h.1]; omega), ← h.1] at b
  cases hq : j - acc.length with
  | zero => rw [hq] at a b; simp at a b; subst a; subst b; exact k
  | succ m => rw [hq] at a; simp at a
theorem yoU {f : Foot} {t : TFt} {acc : List Foot} {tacc : List TFt} (hf : LeF f t) (ha : LeA acc tacc) : ∀ (fre : List Nat), okTs t tacc fre = true → yjt f acc fre
 | [], _ => trivial
 | j :: r, h => by
   simp only [okTs, Bool.and_eq_true] at h
   refine ⟨?_, yoU hf ha r h.2⟩
   show wpo acc[j]? (okF f)
   cases hj : acc[j]? with
   | none => trivial
   | some g =>
     have hlt : j < tacc.length := by rw [← ha.1]; exact (List.getElem?_eq_some_iff.1 hj).1
     have ht : tacc[j]? = some tacc[j] := List.getElem?_eq_getElem hlt
     rw [ht] at h
     exact yyy hf (ha.2 j g _ hj ht) h.1
def LeK (l : List Key) (t : List (Nat × Nat)) : Prop := ∀ k ∈ l, (∃ o, k = .h o) ∨ ∃ q ∈ t, k = .l q.1 q.2
theorem LeK.app {a b : List Key} {s t : List (Nat × Nat)} (h : LeK a s) (k : LeK b t) : LeK (a ++ b) (s ++ t) := by
 intro x hx
 rcases List.mem_append.1 hx with hx | hx
 ·rcases h x hx with q | ⟨r, hr, e⟩
  ·exact .inl q
  ·exact .inr ⟨r, List.mem_append_left _ hr, e⟩
 ·rcases k x hx with q | ⟨r, hr, e⟩
  ·exact .inl q
  ·exact .inr ⟨r, List.mem_append_right _ hr, e⟩
theorem LeK.nil {t : List (Nat × Nat)} : LeK [] t := fun k h => by cases h
theorem TR.hascn {u : TV K} {v : AV} (h : TR P C ts χ u v) : ∀ id w, u.s ≠ .cn id w := by
 intro id w e
 cases h with
 | cn id' u v h hn hv => simp only [TV.s] at e; rw [e] at hn; cases hn
 | _ => cases e
theorem yoa {v : AV} (h : v.noL = true) : LeK (yba v) [] ∧ LeK (key1 v) [] := by
 cases v with
 | gs k n => cases k with
   | h o => exact ⟨fun k hk => by simp [yba] at hk; exact .inl ⟨o, hk⟩, fun k hk => by simp [key1] at hk; exact .inl ⟨o, hk⟩⟩
   | l d c => cases h
 | pt k n => cases k with
   | h o => exact ⟨fun k hk => by simp [yba] at hk; exact .inl ⟨o, hk⟩, fun k hk => by simp [key1] at hk; exact .inl ⟨o, hk⟩⟩
   | l d c => cases h
 | agg cs =>
   refine ⟨fun k hk => ?_, .nil⟩
   simp only [yba, List.mem_flatMap] at hk
   obtain ⟨x, hx, hk⟩ := hk
   have hn : x.noL = true := yha.1 (show noLs cs = true from h) x hx
   cases x with
   | gs q n => cases q with
     | h o => simp [key1] at hk; exact .inl ⟨o, hk⟩
     | l d c => cases hn
   | pt q n => cases q with
     | h o => simp [key1] at hk; exact .inl ⟨o, hk⟩
     | l d c => cases hn
   | _ => simp [key1] at hk
 | _ => exact ⟨.nil, .nil⟩
theorem ytB {u : TV K} {v : AV} {l : List (Nat × Nat)} (h : TR P C ts χ u v) (hl : tky1 ts u = some l) : LeK (key1 v) l ∧ ((∀ vs, v ≠ .agg vs) → LeK (yba v) l) := by
 have hs := h.s
 have hc := h.hascn
 unfold tky1 at hl
 revert hs hc hl
 generalize u.s = w
 intro hl hs hc
 have no : ∀ {v : AV} {l : List (Nat × Nat)}, v.noL = true → LeK (key1 v) l ∧ ((∀ vs, v ≠ .agg vs) → LeK (yba v) l) := by
  intro v l hv
  obtain ⟨a, b⟩ := yoa hv
  have up : ∀ {x : List Key}, LeK x [] → LeK x l := fun hx k hk => (hx k hk).imp id (fun ⟨q, hq, _⟩ => by cases hq)
  exact ⟨up b, fun _ => up a⟩
 cases hs with
 | un v => cases hl
 | lb b => exact no rfl
 | bl b => exact no rfl
 | li k n => exact no rfl
 | it k n => exact no rfl
 | st s => exact no rfl
 | agg us vs _ _ => exact ⟨.nil, fun hn => absurd rfl (hn vs)⟩
 | tup us vs _ _ => exact ⟨.nil, fun _ => .nil⟩
 | nil => exact no rfl
 | em z => exact no rfl
 | sl e l z n xs hn hx => exact no rfl
 | rwd s c v hr hn ho => simp only [hn] at hl; cases hl
 | rw s c n hr hn hx =>
   simp only [hn, Option.some.injEq] at hl; subst hl
   exact ⟨fun k hk => by simp [key1] at hk; exact .inr ⟨_, List.mem_singleton.2 rfl, hk⟩, fun _ k hk => by simp [yba] at hk; exact .inr ⟨_, List.mem_singleton.2 rfl, hk⟩⟩
 | rwn s c hr h hx => exact no rfl
 | px s c off hr =>
   cases hl
   exact ⟨fun k hk => by simp [key1] at hk; exact .inr ⟨_, List.mem_singleton.2 rfl, hk⟩, fun _ k hk => by simp [yba] at hk; exact .inr ⟨_, List.mem_singleton.2 rfl, hk⟩⟩
 | pr e s c i of hr hx =>
   cases hl
   exact ⟨fun k hk => by simp [key1] at hk; exact .inr ⟨_, List.mem_singleton.2 rfl, hk⟩, fun _ k hk => by simp [yba] at hk; exact .inr ⟨_, List.mem_singleton.2 rfl, hk⟩⟩
 | ep e l i of xs hx => exact no rfl
 | gs l i xs hx => exact no rfl
 | nptr => exact no rfl
 | fn f a c a' c' _ _ _ _ => exact ⟨.nil, fun _ => .nil⟩
 | fv ps rs F v h hv => exact no (by rw [← yfH, hv]; exact h.1)
 | cn id u v h hn hv => exact absurd rfl (hc id u)
theorem yhZ {f : TV K → Option (List (Nat × Nat))} {g : AV → List Key} (hf : ∀ u v l, TR P C ts χ u v → f u = some l → LeK (g v) l) : ∀ (us : List (TV K)) (vs : List AV) (l : List (Nat × Nat)), TL P C ts χ us vs → tkys ts f us = some l → LeK (vs.flatMap g) l
 | [], vs, l, t, h => by
   have : vs = [] := List.eq_nil_of_length_eq_zero t.1
   subst this; exact .nil
 | u :: us, vs, l, t, h => by
   cases vs with
   | nil => simp [TL] at t
   | cons v vs =>
     simp only [tkys] at h
     split at h
     ·rename_i a b h1 h2
      cases h
      rw [List.flatMap_cons]
      exact (hf u v a t.head.1 h1).app (yhZ hf us vs b t.head.2 h2)
     ·cases h
theorem yo0 {u : TV K} {v : AV} {l : List (Nat × Nat)} (h : TR P C ts χ u v) (hl : tky ts u = some l) : LeK (yba v) l := by
 unfold tky at hl
 split at hl
 ·rename_i cs e
  have hs := h.s
  rw [e] at hs
  obtain ⟨vs, rfl, a, b⟩ := hs.agg'
  exact yhZ (g := key1) (fun u v l h hl => (ytB h hl).1) cs vs l ⟨a, b⟩ hl
 ·rename_i hne
  refine (ytB h hl).2 ?_
  rintro vs rfl
  have hs := h.s
  have hc := h.hascn
  have hdead : u.s ≠ .un := by
   intro e; unfold tky1 at hl; rw [e] at hl; cases hl
  revert hs hc hne hdead
  generalize u.s = w
  intro hne hs hc hdead
  cases hs with
  | un v => exact hdead rfl
  | agg us vs _ _ => exact hne _ rfl
  | rwd s c v hr h ho => cases ho
  | fv ps rs F v h hv => obtain ⟨_, _, h1, _⟩ := h; rw [← hv] at h1; cases h1
  | cn id u v h hn hv => exact hc _ _ rfl
theorem yt9 {u : AOp} (hγ : GM P C R ts χ ds) {l : List (Nat × Nat)} (h : tkys ts (tky ts) ((opds u).map (tea ts.fr)) = some l) : LeK ((opds u).flatMap fun x => yba (ev (lkF ds.fr) x)) l := by
 have := yhZ (g := yba) (fun u v l h hl => yo0 h hl) _ _ l (TL.tea hγ (opds u)) h
 rw [List.flatMap_map] at this
 exact this
theorem LeF.skip : LeF yfL ⟨[], []⟩ := ⟨fun k h => (by cases h), fun q h => (by cases h), rfl, fun s h => (by cases h)⟩
variable {LD : List (AO × List Nat)} {QD : St → Prop} {i : Nat} {acc : List Foot}
theorem yu2 {o : AO} {fre : List Nat} {f : FuncId} {vs vs' : List AV} {kl : List (Nat × Nat)} {d1 : DS} {v : AV} (e0 : LD[i]? = some (o, fre)) (hg : gok o.guard ds.fr = true) (hc : ys4 P o ds f vs vs' kl d1 v)
  (hf : yjt (ycv o.op (toD ds) ⟨v, kl.map (fun k => (k, none)), [], none⟩) acc fre) (k : DD P LD (i + 1) (acc ++ [ycv o.op (toD ds) ⟨v, kl.map (fun k => (k, none)), [], none⟩]) QD (d1.put o.dst v)) : DD P LD i acc QD ds := by
 refine yto e0 hg fun hk => ?_
 have hmst : REff.mst ⟨v, kl.map (fun k => (k, none)), [], none⟩ (toD ds) = toD d1 ∧ ylv P (.f f) vs (toD ds) ⟨v, kl.map (fun k => (k, none)), [], none⟩ ∧ DOk d1 := by
  rcases hc.way with hw | ⟨rfl, rfl, rfl, hfl⟩
  ·obtain ⟨a1, a2, a3, _⟩ := yk9 vs ds vs' kl d1 hk hw
   have hmst : REff.mst ⟨v, kl.map (fun k => (k, none)), [], none⟩ (toD ds) = toD d1 := by
    have h1 : (pubL vs (toD ds)).2 = (toD ds).kills (pkL vs (toD ds)) := yud vs (toD ds)
    rw [a1, a2] at h1
    simp only at h1
    rw [h1]
    unfold REff.mst St.kills REff.cntF
    simp only [St.mk.injEq, yg5, true_and, and_true]
    funext q
    have : ∀ (l : List (Nat × Nat)) (M : Key → Option Blk), List.foldl (fun M (p : Key × Option Blk) => updK M p.1 p.2) M ((l.map fun k => (k, (none : Option Blk))).map fun p => (Key.l p.1.1 p.1.2, p.2)) = l.foldl (fun M k => updK M (.l k.1 k.2) none) M := by
     intro l
     induction l with
     | nil => intro M; rfl
     | cons a l ih => intro M; simp only [List.map_cons, List.foldl_cons]; exact ih _
    show (List.foldl (fun M (p : Key × Option Blk) => updK M p.1 p.2) (toD ds).M ((kl.map fun k => (k, (none : Option Blk))).map fun p => (Key.l p.1.1 p.1.2, p.2))) q = _
    rw [this]
   exact ⟨hmst, .inl ⟨rfl, by rw [a2], ykC a1 hc.nl hc.pure ⟨rfl, hmst.symm⟩⟩, a3⟩
  ·exact ⟨ydv v _, .inr (.inl ⟨rfl, f, v, rfl, hc.nl, fun H n => ya7.dwkA (hc.pure H n), hfl, rfl⟩), hk⟩
 obtain ⟨hmst, hE, a3⟩ := hmst
 have fin : ∀ K : REff → Prop, K ⟨v, kl.map (fun k => (k, none)), [], none⟩ → eop (fun _ => false) P o.op o.dst (toD ds) K := by
  intro K hK
  rcases hc.ho with ⟨args, h1, h2⟩ | ⟨x, args, first, cap, h1, h2, h3⟩
  ·rw [h1]; simp only [eop]; rw [ycr, h2]; exact ⟨_, hE, hK⟩
  ·rw [h1]; simp only [eop]; rw [ycr, h2]; simp only; rw [h3]; exact ⟨_, hE, hK⟩
 refine fin _ ⟨hf, ?_⟩
 rw [show REff.app ⟨v, kl.map (fun k => (k, none)), [], none⟩ o.dst (toD ds) = toD (d1.put o.dst v) by unfold REff.app; rw [hmst, ycm]]
 exact k a3.put
theorem yyD {o : AO} {fre : List Nat} {e : REff} {ds' : DS} (e0 : LD[i]? = some (o, fre)) (hg : gok o.guard ds.fr = true) (h : Eff o.op o.dst ds e ds') (hc : isMC o.op = false) (hf : yjt (ycv o.op (toD ds) e) acc fre) (k : DD P LD (i + 1) (acc ++ [ycv o.op (toD ds) e]) QD ds') : DD P LD i acc QD ds := by
 refine yto e0 hg fun hk => ?_
 obtain ⟨h1, h2, h3⟩ := h
 have hE : ∀ K : REff → Prop, K e → eop (fun _ => false) P o.op o.dst (toD ds) K := by
  intro K hK
  cases hop : o.op <;> rw [hop] at h1 hc <;> first | (cases hc; done) | (simp only [eop]; rw [h1]; exact hK)
 refine hE _ ⟨hf, ?_⟩
 rw [h2]
 exact k h3
theorem yiM : ∀ {us : List (TV K)} {q : Nat × Nat}, (∃ u ∈ us, u.s = .rw q.1 q.2) → q ∈ yqp us
 | [], _, ⟨u, h, _⟩ => by cases h
 | v :: us, q, ⟨u, h, e⟩ => by
   simp only [yqp]
   rcases List.mem_cons.1 h with rfl | h
   ·rw [e]; simp
   ·have := yiM ⟨u, h, e⟩
    split
    ·exact List.mem_cons_of_mem _ this
    ·exact this
theorem yjZ {q : Nat × Nat} : ∀ {us : List (TV K)} {l : List (Nat × Nat)}, tkys ts (tky ts) us = some l → (∃ u ∈ us, u.s = .rw q.1 q.2) → q ∈ l
 | [], _, _, ⟨u, h, _⟩ => by cases h
 | v :: us, l, h, ⟨u, hu, e⟩ => by
   simp only [tkys] at h
   split at h
   ·rename_i a b h1 h2
    cases h
    rcases List.mem_cons.1 hu with rfl | hu
    ·refine List.mem_append_left _ ?_
     unfold tky at h1
     rw [e] at h1
     simp only at h1
     unfold tky1 at h1
     rw [e] at h1
     simp only at h1
     split at h1
     ·cases h1; simp
     ·cases h1
    ·exact List.mem_append_right _ (yjZ h2 ⟨u, hu, e⟩)
   ·cases h
theorem yxk (hC : CxOk P C) {F : Cf K} (hF : F.C = C) (hS : SsOk P C F.S) (hL : SLOk P C F.L) {o : AO} {fre : List Nat} {tacc : List TFt} {Rn : List TFt → TS K → Prop} (e0 : LD[i]? = some (o, fre)) (hγ : GM P C R ts χ ds) (hk : DOk ds) (hg : gok o.guard ds.fr = true) (ha : LeA acc tacc) (h : ysk F o fre tacc Rn ts)
  (k : ∀ acc' tacc' ts' χ' ds', LeA acc' tacc' → GM P C R ts' χ' ds' → DOk ds' → Rn tacc' ts' → ts'.rg = ts.rg → DD P LD (i + 1) acc' QD ds') : DD P LD i acc QD ds := by
 unfold ysk at h
 split at h
 rotate_left
 ·exact h.elim
 rename_i t ht
 split at h
 rotate_left
 ·exact h.elim
 rename_i hok
 have calls : ∀ {f : FuncId} {vs vs' : List AV} {kl : List (Nat × Nat)} {d1 : DS} {v : AV} {ts' : TS K} {χ' : Nat → Nat → Bool}, ys4 P o ds f vs vs' kl d1 v → GM P C R ts' χ' (d1.put o.dst v) → DOk d1 → Rn (tacc ++ [t]) ts' → ts'.rg = ts.rg → LeK (rkOf o.op (toD ds)) t.rk → (∀ q ∈ kl, q ∈ t.wk) → (∀ q ∈ kl, q ∈ t.rk) → DD P LD i acc QD ds := by
  intro f vs vs' kl d1 v ts' χ' c1 c2 c3 c4 c5 hrk hwk hwr
  have hle : LeF (ycv o.op (toD ds) ⟨v, kl.map (fun k => (k, none)), [], none⟩) t := by
   refine ⟨fun k hk' => ?_, fun q hq => hwk q ?_, rfl, fun s hs => by cases hs⟩
   ·rcases List.mem_append.1 hk' with hq | hq
    ·exact hrk k hq
    ·have hic : ykw o.op = true := by rcases c1.ho with ⟨args, h1, _⟩ | ⟨x, args, first, cap, h1, _⟩ <;> rw [h1] <;> rfl
     rw [hic] at hq
     obtain ⟨p, hp, rfl⟩ := List.mem_map.1 hq
     obtain ⟨q, hq', rfl⟩ := List.mem_map.1 hp
     exact .inr ⟨q, hwr q hq', rfl⟩
   have hq' : q ∈ (kl.map fun k => (k, (none : Option Blk))).map (·.1) := hq
   simpa using hq'
  exact yu2 e0 hg c1 (yoU hle ha fre hok) (k _ _ ts' χ' _ (ha.snoc hle) c2 c3.put c4 c5)
 have callL : ∀ {f : FuncId} {us : List (TV K)} {vs : List AV} {sp : Sl K} {env : List (DV K)} {M : RM} {l : List (Nat × Nat)}, TL P C ts χ us vs → CalO o ds f vs → yjq C ts f us F.L = some (sp, env, M) → ykx C F.S true ts o.dst sp env M us (Rn (tacc ++ [t])) → LeK (rkOf o.op (toD ds)) l → t = ⟨l ++ plcs sp o.dst M, plcs sp o.dst M⟩ → DD P LD i acc QD ds := by
  intro f us vs sp env M l ht ho hp h hrk het
  refine yva hC hS hL e0 hg hγ hk ht ho hp h fun e ts' χ' ds' a1 a2 a3 a4 a5 a6 a7 => ?_
  have hle : LeF (ycv o.op (toD ds) e) t := by
   rw [het]
   refine ⟨fun k hk' => ?_, fun q hq => a1 q hq, by show e.H.isSome = false; rw [a2]; rfl, fun s hs => a3 s hs⟩
   rcases List.mem_append.1 hk' with hq | hq
   ·rcases hrk k hq with r | ⟨r, hr, e⟩
    ·exact .inl r
    ·exact .inr ⟨r, List.mem_append_left _ hr, e⟩
   ·have hic : ykw o.op = true := by rcases ho with ⟨args, h1, _⟩ | ⟨x, args, first, cap, h1, _⟩ <;> rw [h1] <;> rfl
    rw [hic] at hq
    obtain ⟨p, hp, rfl⟩ := List.mem_map.1 hq
    exact .inr ⟨p.1, List.mem_append_right _ (a1 p.1 (List.mem_map_of_mem (f := (·.1)) hp)), rfl⟩
  exact ⟨yoU hle ha fre hok, k _ _ ts' χ' ds' (ha.snoc hle) a4 a5 a6 a7⟩
 have rest : yqN o.op = true → DD P LD i acc QD ds := by
  intro hn
  obtain ⟨e, ds', ts', χ', h1, h2, h3, h4, h5, h6⟩ := yrn hC hγ hk hF hn h
  have hc : isMC o.op = false := by cases hop : o.op <;> rw [hop] at hn <;> first | rfl | (cases hn; done)
  have hle : LeF (ycv o.op (toD ds) e) t := by
   by_cases hmv : ∃ x, o.op = .mv x
   ·obtain ⟨x, hop⟩ := hmv
    unfold tft at ht
    rw [hop] at ht
    cases ht
    have hE : effA (fun _ => false) o.op o.dst (toD ds) = some e := h1.1
    rw [hop] at hE
    simp only [effA, pval, effP, Option.map_some, Option.some.injEq] at hE
    subst hE
    rw [hop]
    exact ⟨fun k h => (by cases h), fun q h => (by cases h), rfl, fun s h => (by cases h)⟩
   have ht' : ∃ l, tkys ts (tky ts) ((opds o.op).map (tea ts.fr)) = some l ∧ t = ⟨l, twk' ts o⟩ := by
    unfold tft at ht
    cases hop : o.op <;> rw [hop] at ht hn <;> first | (cases hn; done) | skip
    case mv x => exact absurd ⟨x, hop⟩ hmv
    all_goals
     simp only at ht
     split at ht
     ·rename_i l hl; cases ht; exact ⟨l, hl, rfl⟩
     ·cases ht
   obtain ⟨l, hl, rfl⟩ := ht'
   have hrk := yt9 hγ hl
   have hnc : ykw o.op = false := by cases hop : o.op <;> rw [hop] at hn <;> first | rfl | (cases hn; done)
   refine ⟨?_, fun q hq => ?_, by show e.H.isSome = false; rw [h3]; rfl, fun s hs => ?_⟩
   rotate_right
   ·have hE : effA (fun _ => false) o.op o.dst (toD ds) = some e := by cases hop : o.op <;> rw [hop] at hn <;> first | (cases hn; done) | (rw [← hop]; exact h1.1)
    obtain ⟨al, rfl⟩ := yuP hE hs
    show _ ∈ twk' ts o
    unfold twk'
    cases hop : o.op <;> rw [hop] at al hn <;> first | (cases al; done) | (cases hn; done) | simp
   ·show LeK (rkOf o.op (toD ds) ++ _) l
    rw [hnc]
    simp only [List.append_nil]
    have : rkOf o.op (toD ds) = (opds o.op).flatMap fun x => yba (ev (lkF ds.fr) x) := by
     cases hop : o.op <;> rw [hop] at hn <;> first | rfl | (cases hn; done) | skip
     case mv x => exact absurd ⟨x, hop⟩ hmv
    rw [this]; exact hrk
   ·have hq' : q ∈ e.mem.map (·.1) := hq
    obtain ⟨x, hx, rfl⟩ := List.mem_map.1 hq'
    exact h2 x hx
  exact yyD e0 hg h1 hc (yoU hle ha fre hok) (k _ _ ts' χ' ds' (ha.snoc hle) h4 h1.ok h5 h6)
 cases ho : o.op with
 | call f args =>
   have h0 := h
   unfold step at h; rw [ho] at h
   simp only at h
   unfold tft at ht; rw [ho] at ht
   simp only at ht
   split at ht
   ·rename_i l hl
    split at h
    ·rename_i sp env M hp
     rw [hp] at ht
     cases ht
     rw [hF] at h hp
     have hrk := yhZ (g := yba) (fun u v l h hl => yo0 h hl) _ _ l (TL.tea hγ args) hl
     rw [List.flatMap_map] at hrk
     exact callL (TL.tea hγ args) (.inl ⟨args, ho, rfl⟩) hp h (by rw [ho]; exact hrk) rfl
    rename_i hp
    rw [hp] at ht
    rw [hF] at h ht
    cases ht
    obtain ⟨vs', kl, d1, v, ts', χ', c1, c2, c3, c4, c5, c7, c6⟩ := ynP hC hS hγ hk (TL.tea hγ args) (.inl ⟨args, ho, rfl⟩) h
    have hrk := yhZ (g := yba) (fun u v l h hl => yo0 h hl) _ _ l (TL.tea hγ args) hl
    rw [List.flatMap_map] at hrk
    refine calls c1 c2 c3 c4 c5 (by rw [ho]; exact hrk) (fun q hq => ?_) ?_
    cases hfl : flS C F.S f with
    | true => rw [c7 hfl] at hq; cases hq
    | false => exact yiM (c6 q hq)
    ·exact fun q hq => yjZ hl (c6 q hq)
   ·cases ht
 | calv x args =>
   unfold step at h; rw [ho] at h
   simp only at h
   unfold tft at ht; rw [ho] at ht
   simp only at ht
   split at ht
   rotate_left
   ·cases ht
   rename_i ca l hca hl
   have hrk := yhZ (g := yba) (fun u v l h hl => yo0 h hl) _ _ l (TL.tea hγ args) hl
   rw [List.flatMap_map] at hrk
   have hx := hγ.tev x
   split at h
   ·rename_i f a c ex
    rw [ex] at hx
    rw [ex] at ht
    simp only at ht
    generalize hv : ev (lkF ds.fr) x = w at hx
    cases hx with
    | fn _ _ _ a' c' ha' hc' h1 h2 =>
      have ta : TL P C ts χ a a' := ⟨ha', h1⟩
      have tc : TL P C ts χ c c' := ⟨hc', h2⟩
      have hrk' : LeK (rkOf o.op (toD ds)) (ca ++ l) := by
       rw [ho]
       show LeK (ysr (ev (lkF ds.fr) x) ++ args.flatMap fun y => yba (ev (lkF ds.fr) y)) _
       rw [hv]
       refine LeK.app ?_ hrk
       unfold ywy at hca
       have ex' : (tea ts.fr x).s = .fn f a c := ex
       rw [ex'] at hca
       have := yhZ (g := yba) (fun u v l h hl => yo0 h hl) _ _ ca (ta.app tc) hca
       rw [List.flatMap_append] at this
       exact this
      split at h
      ·rename_i sp env M hp
       rw [hp] at ht
       cases ht
       rw [hF] at h hp
       exact callL ((ta.app (TL.tea hγ args)).app tc) (.inr ⟨x, args, a', c', ho, hv, rfl⟩) hp h hrk' rfl
      rename_i hp
      rw [hp] at ht
      cases ht
      rw [hF] at h
      obtain ⟨vs', kl, d1, v, ts', χ', c1, c2, c3, c4, c5, _, c6⟩ := ynP hC hS hγ hk ((ta.app (TL.tea hγ args)).app tc) (.inr ⟨x, args, a', c', ho, hv, rfl⟩) h
      refine calls c1 c2 c3 c4 c5 hrk' (fun q hq => yiM (c6 q hq)) (fun q hq => by
       obtain ⟨u, hu, e⟩ := c6 q hq
       have hca' : tkys ts (tky ts) (a ++ c) = some ca := by
        unfold ywy at hca
        rw [show (tea ts.fr x).s = .fn f a c from ex] at hca
        exact hca
       rcases List.mem_append.1 hu with hu | hu
       ·rcases List.mem_append.1 hu with hu | hu
        ·exact List.mem_append_left _ (yjZ hca' ⟨u, List.mem_append_left _ hu, e⟩)
        ·exact List.mem_append_right _ (yjZ hl ⟨u, hu, e⟩)
       ·exact List.mem_append_left _ (yjZ hca' ⟨u, List.mem_append_right _ hu, e⟩))
   ·rename_i ps rs V ex
    rw [ex] at hx
    rw [ex] at ht
    cases ht
    generalize hv : ev (lkF ds.fr) x = w at hx
    cases hx with
    | fv _ _ _ _ hV hv' =>
      rw [hF] at h
      obtain ⟨f, vs, vs', kl, d1, v, ts', χ', c1, c2, c3, c4, c5, c6⟩ := ysa hC hγ hk hV ho hv hv' (TL.tea hγ args) h
      refine calls c1 c2 c3 c4 c5 ?_ (fun q hq => yiM (c6 q hq)) (fun q hq => List.mem_append_right _ (yjZ hl (c6 q hq)))
      rw [ho]
      show LeK (ysr (ev (lkF ds.fr) x) ++ args.flatMap fun y => yba (ev (lkF ds.fr) y)) _
      rw [hv]
      refine LeK.app ?_ hrk
      obtain ⟨g1, _, _, f', a, c, g4, _⟩ := hV
      rw [← hv', yfH] at g1
      cases w with
      | fn f0 a0 c0 =>
        simp only [AV.noL, Bool.and_eq_true] at g1
        intro q hq
        simp only [ysr, List.mem_append, List.mem_flatMap] at hq
        rcases hq with ⟨y, hy, hq⟩ | ⟨y, hy, hq⟩
        ·rcases (yoa (yha.1 g1.1 y hy)).1 q hq with r | ⟨r, hr, _⟩
         ·exact .inl r
         ·cases hr
        ·rcases (yoa (yha.1 g1.2 y hy)).1 q hq with r | ⟨r, hr, _⟩
         ·exact .inl r
         ·cases hr
      | _ => exact .nil
   ·exact h.elim
 | _ => exact rest (by rw [ho]; rfl)
theorem ytl (hC : CxOk P C) {F : Cf K} (hF : F.C = C) (hS : SsOk P C F.S) (hL : SLOk P C F.L) {X : TS K → Prop} {Q : KS → Prop} : ∀ (L' : List (AO × List Nat)) (i : Nat) (acc : List Foot) (tacc : List TFt) (ts : TS K) (χ : Nat → Nat → Bool) (ds : DS), LD.drop i = L' → LeA acc tacc → GM P C R ts χ ds → DOk ds → tdrw F L' tacc ts X →
  (∀ ts' χ' ds', GM P C R ts' χ' ds' → DOk ds' → X ts' → ExtR ts.rg ts'.rg → RE B N (toD ds') Q) → DD P LD i acc (fun S => RE B N S Q) ds
 | [], i, acc, tacc, ts, χ, ds, e, ha, hγ, hk, h, fin => by
   have _ := (inferInstance : GB P B)
   intro _
   rw [e]
   exact fin ts χ ds hγ hk h .refl
 | (o, fre) :: r, i, acc, tacc, ts, χ, ds, e, ha, hγ, hk, h, fin => by
   have e0 : LD[i]? = some (o, fre) := by
    have := congrArg (·[0]?) e
    simpa using this
   have e1 : LD.drop (i + 1) = r := by rw [← List.drop_drop, e]; rfl
   have next : ∀ {ts2 : TS K} {χ2 : Nat → Nat → Bool} {ds2 : DS} {acc2 : List Foot} {tacc2 : List TFt}, LeA acc2 tacc2 → GM P C R ts2 χ2 ds2 → DOk ds2 → tdrw F r tacc2 ts2 X → ts2.rg = ts.rg → DD P LD (i + 1) acc2 (fun S => RE B N S Q) ds2 := by
    intro ts2 χ2 ds2 acc2 tacc2 la a b c d
    exact ytl hC hF hS hL r (i + 1) acc2 tacc2 ts2 χ2 ds2 e1 la a b c fun ts3 χ3 ds3 p q s t => fin ts3 χ3 ds3 p q s (by rw [← d]; exact t)
   have run : ∀ {ts0 : TS K} {ds0 : DS}, GM P C R ts0 χ ds0 → DOk ds0 → ts0.rg = ts.rg → gok o.guard ds0.fr = true → ysk F o fre tacc (fun acc t => tdrw F r acc t X) ts0 → DD P LD i acc (fun S => RE B N S Q) ds0 := by
    intro ts0 ds0 hγ0 hk0 hr hg hst
    exact yxk hC hF hS hL e0 hγ0 hk0 hg ha hst fun acc2 tacc2 ts2 χ2 ds2 la a b c d => next la a b c (d.trans hr)
   have skip : ∀ {ts0 : TS K} {ds0 : DS}, GM P C R ts0 χ ds0 → DOk ds0 → ts0.rg = ts.rg → gno o.guard ds0.fr = true → tdrw F r (tacc ++ [⟨[], []⟩]) (ts0.put o.dst (.tup [])) X → DD P LD i acc (fun S => RE B N S Q) ds0 := by
    intro ts0 ds0 hγ0 hk0 hr hg hst
    exact yy5 e0 hg (next (ha.snoc LeF.skip) (hγ0.put (.tup [] [] rfl (fun j u v h => by simp at h))) hk0.put hst ((ycl _ _ _).trans hr))
   rw [tdrw] at h
   unfold tdg tgd at h
   split at h
   ·rename_i hg
    exact run hγ hk rfl (by rw [hg]; rfl) h
   ·rename_i d b hg
    have hd := (hγ.fr d).s
    split at h
    ·rename_i c hc
     rw [hc] at hd
     have hv := hd.lbi
     split at h
     ·rename_i hcb
      have : c = b := by cases c <;> cases b <;> first | rfl | cases hcb
      subst this
      exact run hγ hk rfl (ymY hg hv) h
     ·rename_i hcb
      exact skip hγ hk rfl (ymZ hg hv (by intro q; subst q; cases c <;> cases hcb)) h
    ·rename_i c hc
     rw [hc] at hd
     have hv := hd.bli
     obtain ⟨h1, h2⟩ := h
     refine yws hv (fun hb => ?_) (fun hb => ?_)
     ·have hh := h1 hb
      have g1 := hγ.put (d := some d) (TR.lb (P := P) (C := C) (ts := ts) (χ := χ) true)
      have v1 : lkF (ds.put (some d) (.bl true)).fr d = .bl true := by show lkF ((d, .bl true) :: ds.fr) d = _; rw [ydb]; simp
      cases b with
      | true => exact run g1 hk.put (ycl _ _ _) (ymY hg v1) hh
      | false => exact skip g1 hk.put (ycl _ _ _) (ymZ hg v1 (by simp)) hh
     ·have hh := h2 hb
      have g1 := hγ.put (d := some d) (TR.lb (P := P) (C := C) (ts := ts) (χ := χ) false)
      have v1 : lkF (ds.put (some d) (.bl false)).fr d = .bl false := by show lkF ((d, .bl false) :: ds.fr) d = _; rw [ydb]; simp
      cases b with
      | true => exact skip g1 hk.put (ycl _ _ _) (ymZ hg v1 (by simp)) hh
      | false => exact run g1 hk.put (ycl _ _ _) (ymY hg v1) hh
    ·rename_i hc
     rw [hc] at hd
     obtain ⟨vs, hv, hl, _⟩ := hd.tup'
     have : vs = [] := List.eq_nil_of_length_eq_zero hl
     subst this
     exact skip hγ hk rfl (by rw [hg]; simp only [gno, hv]) h
    ·exact h.elim
theorem ywO (hB : ydZ B) (hC : CxOk P C) {F : Cf K} (hF : F.C = C) (L : List (AO × List Nat)) : REk P C R B N ts (frzD F L ts) ∧ (frzD F L ts).rg = ts.rg := by
 have _ := (inferInstance : GB P B)
 unfold frzD
 rw [hF]
 generalize (L.flatMap fun p => (frzO F ts.fr p.1.op).flatMap fun x => match x with | .t n => [srcD L 9 n] | .c _ => []) = l
 induction l generalizing ts with
 | nil => exact ⟨.refl, rfl⟩
 | cons n l ih =>
   obtain ⟨a, b⟩ := ih (ts := fzA C 9 [lkT ts.fr n] ts)
   exact ⟨(yrL hB hC _ _ _).trans a, by rw [List.foldl_cons, b, ysR]⟩
end
section
theorem yzy {Q : AEx → TS K → Prop} {e : AEx} {rg : List (Nat × TV K)} (hB : ydZ B) (hC : CxOk P C) (hγ : GM P C R ts χ ds) (hk : DOk ds) (hx : ExtR rg ts.rg) (h : Q e (er ts)) : RE B N (toD ds) (Kq P C R rg Q e) :=
 have _ := (inferInstance : GB P B)
 (yzn (N := N) hB hC χ ds hk hγ).mono fun ks ⟨h1, ξ, h2⟩ => ⟨h1, er ts, ξ, h2, hx, h⟩
theorem yuK (hR : ∀ h h' H n, R h H n → R h' H n) (hB : ydZ B) (hC : CxOk P C) {τ : Tm} {rg : List (Nat × TV K)} {hh : List (HO K)} {J : List (DV K) → Prop} {ks : KS} (hk : KOk ks) (hγ : GM P C R ts χ (ofK ks)) (hx : ExtR rg ts.rg) (h : rdJ C τ ts J) :
  RE B N (toS ks) fun ks' => ∃ env, J env ∧ KOk ks' ∧ ∃ ξ, GM P C R (bdT C τ rg hh env) ξ (ofK ks') := by
 have _ := (inferInstance : GB P B)
 unfold rdJ at h
 split at h
 ·rename_i env he
  have h1 := ysT (R := R) (N := N) hB hC ts.fr τ.ks ts
  have h2 := (yyH (N := N) (rg := rg) hB hC (by rw [yuh]; exact hx) he hh hR).k
  exact ((h1.trans h2) χ ks hk hγ).mono fun ks' ⟨a, b⟩ => ⟨env, h, a, b⟩
 ·exact h.elim
theorem yjD {c : ye0} {Q Q' : AEx → KS → Prop} {ks : KS} (h : WK P B N ro c Q ks) (hq : ∀ e ks, Q e ks → Q' e ks) : WK P B N ro c Q' ks := have _ := (inferInstance : GB P B); fun x hx a G hR => wpIn_mono (h x hx a G hR) fun _ _ _ hp => ypa.mono hq hp
theorem yym (C : Cx K) (τ : Tm) (rg : List (Nat × TV K)) (hh : List (HO K)) (env : List (DV K)) : (bdT C τ rg hh env).rg = rg := rfl
theorem yzt (hR : ∀ h h' H n, R h H n → R h' H n) (hB : ydZ B) (hC : CxOk P C) {F : Cf K} (hF : F.C = C) (hS : SsOk P C F.S) (hL : SLOk P C F.L) (hN : F.N = N) : ∀ (A : An K) (c : ye0) (Q : AEx → TS K → Prop) (ts : TS K) (χ : Nat → Nat → Bool) (ks : KS), KOk ks → GM P C R ts χ (ofK ks) → Dn F A c Q ts → WK P B N ro c (Kq P C R ts.rg Q) ks := by
 intro A
 induction A with
 | o =>
   intro c Q ts χ ks hk hγ h
   have at' : ∀ {e : AEx}, Q e ts → Kq P C R ts.rg Q e ks := fun h => ⟨hk, ts, χ, hγ, .refl, h⟩
   cases c with
   | skip => exact yxE (at' h)
   | exit id => exact yww (at' h)
   | ret => exact yyW (at' h)
   | ops L =>
     refine yx8 ?_
     exact yue (L := L) hB hC hF hS hL hN L 0 ts χ (ofK ks) rfl hγ (yhp hk) h fun ts' χ' ds' a b d e => yzy hB hC a b e d
   | drw L =>
     obtain ⟨f1, f2⟩ := ywO (R := R) (N := N) (ts := ts) hB hC hF L
     refine yxe fun _ => (f1 χ ks hk hγ).mono fun ks' ⟨hk', ξ, hγ'⟩ => yyf ?_
     exact ytl (LD := L) hC hF hS hL L 0 [] [] _ ξ (ofK ks') rfl ⟨rfl, fun j f t h => by simp at h⟩ hγ' (yhp hk') h fun ts' χ' ds' a b d e => yzy hB hC a b (by rw [← f2]; exact e) d
   | _ => exact h.elim
 | s a b iha ihb =>
   intro c Q ts χ ks hk hγ h
   cases c with
   | seq x y =>
     refine yvF (yjD (iha x _ ts χ ks hk hγ h) fun e ks' hq => ?_)
     obtain ⟨h1, ts', χ', h2, h3, h4⟩ := hq
     cases e with
     | n => exact yjD (ihb y Q ts' χ' ks' h1 h2 h4) fun e ks2 hq => hq.mono h3
     | x id => exact ⟨h1, ts', χ', h2, h3, h4⟩
     | r => exact ⟨h1, ts', χ', h2, h3, h4⟩
   | _ => exact h.elim
 | c a b iha ihb =>
   intro c Q ts χ ks hk hγ h
   cases c with
   | cond u x y =>
     have hu := hγ.tev u
     unfold Dn at h
     split at h
     ·rename_i e
      rw [e] at hu
      exact yqk (b := true) hu.lbi (fun _ => iha x Q ts χ ks hk hγ h) (fun q => by cases q)
     ·rename_i e
      rw [e] at hu
      exact yqk (b := false) hu.lbi (fun q => by cases q) (fun _ => ihb y Q ts χ ks hk hγ h)
     ·rename_i q e
      rw [e] at hu
      exact yqk (b := q) hu.bli (fun hq => iha x Q ts χ ks hk hγ (h.1 hq)) (fun hq => ihb y Q ts χ ks hk hγ (h.2 hq))
     ·exact h.elim
   | _ => exact h.elim
 | b a iha =>
   intro c Q ts χ ks hk hγ h
   cases c with
   | block id x =>
     refine yu5 (yjD (iha x _ ts χ ks hk hγ h) fun e ks' hq => ?_)
     obtain ⟨h1, ts', χ', h2, h3, h4⟩ := hq
     cases e with
     | n => exact ⟨h1, ts', χ', h2, h3, h4⟩
     | r => exact ⟨h1, ts', χ', h2, h3, h4⟩
     | x i =>
       show bkQ id _ (.x i) ks'
       simp only at h4
       unfold bkQ
       simp only
       split at h4
       ·rename_i e; try rw [e]
        exact ⟨h1, ts', χ', h2, h3, h4⟩
       ·rename_i e; try rw [e]
        exact ⟨h1, ts', χ', h2, h3, h4⟩
   | _ => exact h.elim
 | l τ a iha =>
   intro c Q ts χ ks hk hγ h
   cases c with
   | loop x =>
     refine yw5 fun Y hY => ?_
     let Sem : List (DV K) → Prop := fun env => ∀ ks', KOk ks' → (∃ ξ, GM P C R (bdT F.C τ (tagT τ ts).rg ts.h env) ξ (ofK ks')) → WK P B N ro x (sqQ (Kq P C R ts.rg Q) Y) ks'
     have go : ∀ {ts' : TS K} {χ' : Nat → Nat → Bool} {ks' : KS}, KOk ks' → GM P C R ts' χ' (ofK ks') → ExtR (tagT τ ts).rg ts'.rg → rdJ F.C τ ts' (apC False (ctT τ) (curC (ctT τ) Sem)) → Y ks' := by
      intro ts' χ' ks' hk' hγ' hx' hj
      refine hY ks' (yxe fun _ => ?_)
      rw [hF] at hj
      refine (yuK (hh := ts.h) hR hB hC hk' hγ' hx' hj).mono fun ks2 ⟨env, e1, e2, ξ, e3⟩ => ?_
      exact yq9 _ _ _ e1 ks2 e2 ⟨ξ, by rw [hF]; exact e3⟩
     refine go hk (ysW hγ) .refl (h (curC (ctT τ) Sem) (yox _ _ _ fun env hd => ?_))
     rintro ks' hk' ⟨ξ, hγ'⟩
     refine yjD (iha env x _ _ ξ ks' hk' hγ' hd) fun e ks2 hq => ?_
     obtain ⟨h1, ts', χ', h2, h3, h4⟩ := hq
     rw [yym] at h3
     cases e with
     | n => exact go h1 h2 h3 h4
     | x id => exact ⟨h1, ts', χ', h2, (yi2 τ ts).trans h3, h4⟩
     | r => exact ⟨h1, ts', χ', h2, (yi2 τ ts).trans h3, h4⟩
   | _ => exact h.elim
 | j τ a b iha ihb =>
   intro c Q ts χ ks hk hγ h
   cases c with
   | seq x y =>
     let Sem : List (DV K) → Prop := fun env => ∀ ks', KOk ks' → (∃ ξ, GM P C R (bdT F.C τ (tagT τ ts).rg ts.h env) ξ (ofK ks')) → WK P B N ro y (Kq P C R ts.rg Q) ks'
     have hd := h (curC (ctT τ) Sem) (yox _ _ _ fun env hd => by
      rintro ks' hk' ⟨ξ, hγ'⟩
      exact yjD (ihb env y Q _ ξ ks' hk' hγ' hd) fun e ks2 hq => hq.mono (yi2 τ ts))
     refine yvF (yjD (iha x _ (tagT τ ts) χ ks hk (ysW hγ) hd) fun e ks' hq => ?_)
     obtain ⟨h1, ts', χ', h2, h3, h4⟩ := hq
     cases e with
     | n =>
       refine yxe fun _ => ?_
       simp only at h4
       rw [hF] at h4
       refine (yuK (hh := ts.h) hR hB hC h1 h2 h3 h4).mono fun ks2 ⟨env, e1, e2, ξ, e3⟩ => ?_
       exact yq9 _ _ _ e1 ks2 e2 ⟨ξ, by rw [hF]; exact e3⟩
     | x id => exact ⟨h1, ts', χ', h2, (yi2 τ ts).trans h3, h4⟩
     | r => exact ⟨h1, ts', χ', h2, (yi2 τ ts).trans h3, h4⟩
   | _ => exact h.elim
end
theorem yus {c : ye0} {Q Q' : AEx → KS → Prop} {ks : KS} (h : WK P B N ro c Q ks) (hq : ∀ e ks, KOk ks → Q e ks → RE B N (toS ks) (Q' e)) : WK P B N ro c Q' ks := by
 have _ := (inferInstance : GB P B)
 intro x hx a G hR
 refine wpIn_mono (h x hx a G hR) ?_
 rintro e a' w' ⟨ks1, G1, h1, h2, h3⟩
 have go : ∀ e', Q e' ks1 → ∃ ks2 G2, RelK B N ks2 a' G2 ∧ G2.w = w' ∧ Q' e' ks2 := by
  intro e' h3
  obtain ⟨ks2, G2, k1, k2, k3⟩ := hq e' ks1 h1.2 h3 a' G1 h1.1
  exact ⟨ks2, G2, k2, by rw [k1, h2], k3⟩
 cases e with
 | normal => exact go .n h3
 | exit id => exact go (.x id) h3
 | ret => exact go .r h3
 | goto l => exact h3.elim
 | panic ch => exact h3.elim
 | outgrown => exact h3.elim
theorem yxc {ks : KS} (hk : KOk ks) (hγ : GM P C R ts χ (ofK ks)) {q : Nat × Option Nat} {u : TV K} (h : resT ts q = some u) : ∃ v, res1 (toS ks) q = some v ∧ TR P C ts χ u v := by
 have box : ∀ {t s c o e : Nat} {cs : List (TV K)}, (lkT ts.fr t).s = .px s c o → ts.tb s c = some (.box e cs) → ∃ kb : KB, (toS ks).fr t = .pt (.l s c) o ∧ tgt (toS ks) (.pt (.l s c) o) = some (kb.cells, o) ∧ TL P C ts χ cs kb.cells := by
  intro t s c o e cs e1 e2
  have ht := (hγ.fr t).s
  rw [e1] at ht
  obtain ⟨kb, h1, h2⟩ := hγ.mb s c _ e2 (hγ.box e2)
  refine ⟨kb, ht.pxi, ?_, h2.2.2.1, h2.2.2.2⟩
  have hz := (yhp hk s c kb h1).1
  show ((toS ks).M (.l s c)).bind _ = _
  rw [← yh8]
  show (((ofK ks).kb s c).map KB.blk).bind _ = _
  rw [h1]
  exact if_neg hz
 unfold resT at h
 split at h
 ·cases h; exact ⟨_, rfl, hγ.fr _⟩
 ·split at h
  ·rename_i s c o e1
   split at h
   ·rename_i e cs e2
    obtain ⟨kb, b1, b2, b3⟩ := box e1 e2
    obtain ⟨v, h1, h2⟩ := b3.at' h
    exact ⟨v, by simp only [res1, b1, b2, Option.bind_some]; exact h1, h2⟩
   ·cases h
  ·cases h
 ·rename_i t sz
  split at h
  ·rename_i s c o e1
   split at h
   ·rename_i e cs e2
    obtain ⟨kb, b1, b2, b3⟩ := box e1 e2
    obtain ⟨v, h1, h2⟩ := ym7 b3 h
    refine ⟨v, ?_, h2⟩
    simp only [res1, b1, b2, Option.bind_some]
    simp only [kld] at h1
    exact h1
   ·cases h
  ·cases h
theorem yos {ks : KS} (hk : KOk ks) (hγ : GM P C R ts χ (ofK ks)) : ∀ (l : List (Nat × Option Nat)) (us : List (TV K)), ydp ts l = some us → ∃ vs, resL (toS ks) l = some vs ∧ TL P C ts χ us vs
 | [], us, h => by cases h; exact ⟨[], rfl, .nil⟩
 | q :: l, us, h => by
   simp only [ydp] at h
   split at h
   ·rename_i v vs h1 h2
    cases h
    obtain ⟨a, a1, a2⟩ := yxc hk hγ h1
    obtain ⟨as, b1, b2⟩ := yos hk hγ l vs h2
    exact ⟨a :: as, by simp only [resL, a1, b1], .cons a2 b2⟩
   ·cases h
theorem ytR (hC : CxOk P C) : ∀ (rs : List Nat) (us : List (TV K)) (vs : List AV) (p : List (DV K) → Prop), outR C rs us p → TL P C ts χ us vs → ∃ xs, p xs ∧ noLs vs = true ∧ dwks vs = xs.map (dvA C)
 | [], [], vs, p, h, t => by
   have : vs = [] := List.eq_nil_of_length_eq_zero t.1
   subst this; exact ⟨[], h, rfl, rfl⟩
 | r :: rs, u :: us, vs, p, h, t => by
   cases vs with
   | nil => simp [TL] at t
   | cons v vs =>
     simp only [outR] at h
     split at h
     ·rename_i x e
      obtain ⟨xs, a1, a2, a3⟩ := ytR hC rs us vs _ h t.head.2
      obtain ⟨b1, b2, _⟩ := ynS hC e t.head.1
      exact ⟨.v r x :: xs, a1, by simp [noLs, b2, a2], by simp only [dwks, List.map_cons, a3, b1]; rfl⟩
     ·exact h.elim
 | [], _ :: _, _, _, h, _ => h.elim
 | _ :: _, [], _, _, h, _ => h.elim
theorem yxQ : ∀ {x r : List (DV K)}, eqR x r → x = r := by
 have one : ∀ {t t' : Nat} {x : K t} {y : K t'}, (if h : t = t' then h ▸ x = y else False) → (DV.v t x : DV K) = .v t' y := by
  intro t t' x y h
  split at h
  ·rename_i e; subst e; subst h; rfl
  ·exact h.elim
 intro x
 induction x with
 | nil => intro r h; cases r with | nil => rfl | cons => exact h.elim
 | cons a x ih =>
   intro r h
   cases r with
   | nil => cases a <;> first | exact h.elim | (cases x <;> exact h.elim)
   | cons b r =>
     cases a with
     | v t y =>
       cases b with
       | v t' z =>
         cases x with
         | nil =>
           cases r with
           | nil => rw [one h]
           | cons => cases ih h.2
         | cons c x =>
           have h' : (if h : t = t' then h ▸ y = z else False) ∧ eqR (c :: x) r := h
           rw [one h'.1, ih h'.2]
       | _ => cases x <;> cases r <;> exact h.elim
     | _ => cases b <;> cases x <;> cases r <;> exact h.elim
theorem yqW (hB : ydZ B) (hC : CxOk P C) (res : List (Nat × Option Nat)) : ∀ (n : Nat) (ts : TS K), REk P C R B N ts (retF C res ts n)
 | 0, ts => .refl
 | n + 1, ts => by
   have _ := (inferInstance : GB P B)
   simp only [retF]
   split
   ·split
    ·exact .refl
    ·exact (yrL hB hC 9 _ ts).trans (yqW hB hC res n _)
   ·exact .refl
theorem ysG (hC : CxOk P C) : ∀ (ps : List PD) (env : List (AD K)) (i : Nat), env.length = ps.length → (∀ F, AD.f F ∈ env → FOk P C F) → ∀ t, TR P C ts χ (lkT (entT C ps env i) t) (lkF (entF (ybj C ps env) i) t)
 | [], [], i, _, _, t => .un _
 | [], _ :: _, i, h, _, t => by simp at h
 | _ :: _, [], i, h, _, t => by simp at h
 | p :: ps, x :: env, i, h, hF, t => by
   have ih := ysG hC ps env (i + 1) (by simpa using h) (fun F hf => hF F (List.mem_cons_of_mem _ hf)) t
   have bad : TR P C ts χ (lkT ([] : List (Nat × TV K)) t) (lkF (entF (ybj C (p :: ps) (x :: env)) i) t) := .un _
   have cons : ∀ {u : TV K}, TR P C ts χ u (penc C p x) → TR P C ts χ (lkT ((i, u) :: entT C ps env (i + 1)) t) (lkF (entF (ybj C (p :: ps) (x :: env)) i) t) := by
    intro u hu
    show TR P C ts χ _ (lkF ((i, penc C p x) :: entF (ybj C ps env) (i + 1)) t)
    rw [yek, ydb]
    simp only
    split
    ·exact hu
    ·exact ih
   cases p with
   | v t' =>
     cases x with
     | d y =>
       cases y with
       | v t2 z =>
         simp only [entT]
         refine cons ?_
         split
         ·rename_i e; subst e; exact (yle hC t2 z).1
         ·exact .un _
       | _ => exact bad
     | f F => exact bad
   | p t' =>
     cases x with
     | d y =>
       cases y with
       | v t2 z =>
         simp only [entT]
         refine cons ?_
         split
         ·rename_i e; subst e
          have : penc C (.p t2) (.d (.v t2 z)) = .ep ((C.E t2).c z) (0 * (C.E t2).sz + 0) := by simp [penc]
          rw [this]
          exact .ep t2 [z] 0 0 _ (by simp [cl, hC.dw])
         ·exact .un _
       | _ => exact bad
     | f F => exact bad
   | f as bs =>
     cases x with
     | d y => exact bad
     | f F =>
       simp only [entT]
       exact cons (.fv as bs F _ (hF F List.mem_cons_self) (hF F List.mem_cons_self).2.1)
theorem yp9 (hC : CxOk P C) : ∀ (ps : List PD) (env : List (AD K)), (∀ F, AD.f F ∈ env → FOk P C F) → noLs (ybj C ps env) = true
 | [], _, _ => by simp [ybj, noLs]
 | _ :: _, [], _ => by simp [ybj, noLs]
 | p :: ps, x :: env, hF => by
   have ih := yp9 hC ps env (fun F hf => hF F (List.mem_cons_of_mem _ hf))
   have dv : ∀ y : DV K, (dvA C y).noL = true := by
    intro y
    cases y with
    | v t z => exact (yle (P := P) (ts := ⟨[], [], [], [], []⟩) (χ := fun _ _ => false) hC t z).2.1
    | _ => rfl
   simp only [ybj, noLs, ih, Bool.and_true]
   cases x with
   | f F => cases p <;> exact (hF F List.mem_cons_self).1
   | d y =>
     cases p with
     | p t' =>
       cases y with
       | v t2 z =>
         simp only [penc]
         split <;> rfl
       | _ => rfl
     | _ => exact dv y
theorem ypP (C : Cx K) : ∀ (ps : List PD) (env : List (AD K)), env.length = ps.length → (ybj C ps env).length = ps.length
 | [], [], _ => rfl
 | [], _ :: _, h => by simp at h
 | _ :: _, [], h => by simp at h
 | p :: ps, x :: env, h => by simp only [ybj, List.length_cons]; rw [ypP C ps env (by simpa using h)]
end
theorem yv6 {P : Program} {F : Cf K} (hC : CxOk P F.C) (hS : SsOk P F.C F.S) (hL : SLOk P F.C F.L) {f : FuncId} {c : AFn} (hF : trF P f = some c) {A : An K} {ps : List PD} {rs : List Nat} (hN : F.N = c.N) (hps : ps.length ≤ c.N) {env : List (AD K)} {r : List (DV K)} (hlen : env.length = ps.length) (hFs : ∀ G, AD.f G ∈ env → FOk P F.C G)
  (h : DnF F A c ps rs env r) : Pure P f (ybj F.C ps env) (ybk (r.map (dvA F.C))) := by
 intro H n
 refine ya7.dwkR ?_
 refine ytm hF (by rw [ypP _ _ _ hlen]; exact hps) (yp9 hC ps env hFs) fun B _ hB => ?_
 let R : RR K := ⟨fun _ H' n' => H' = H ∧ n' = n, fun _ => false⟩
 let ks0 : KS := entK (ybj F.C ps env) H n
 let ts0 : TS K := ⟨entT F.C ps env 0, [], [], [], []⟩
 have hk0 : KOk ks0 := fun d b hb => by cases hb
 have hg0 : GM P F.C R ts0 (fun _ _ => false) (ofK ks0) := by
  refine ⟨fun t => ysG hC ps env 0 hlen hFs t, fun s c b hb _ => ?_, fun s c h => by (cases h), fun s _ => rfl, ⟨rfl, rfl⟩, fun s b _ hb => (by cases hb)⟩
  rcases tb_c hb with rfl | rfl <;> cases hb
 have hmain := yzt (ro := none) (R := R) (fun _ _ _ _ h => h) hB hC rfl hS hL hN A c.body _ ts0 _ ks0 hk0 hg0 h
 refine yus hmain fun e ks hk hq => ?_
 obtain ⟨_, ts, χ, hγ, _, hq⟩ := hq
 have fin : retD F.C c.res rs (fun x => eqR x r) .r ts → RE B c.N (toS ks) (retK c.res (fun av H' n' => dwk av = ybk (r.map (dvA F.C)) ∧ H' = H ∧ n' = n) .r) := by
  intro hq
  simp only [retD] at hq
  refine (yqW hB hC c.res 9 ts χ ks hk hγ).mono fun ks' ⟨hk', ξ, hγ'⟩ => ?_
  split at hq
  ·rename_i us hus
   obtain ⟨vs, h1, h2⟩ := yos hk' hγ' c.res us hus
   obtain ⟨xs, h3, h4, h5⟩ := ytR hC rs us vs _ hq h2
   have := yxQ h3
   subst this
   show wpv (resA (toS ks') c.res) _
   unfold resA
   rw [h1]
   have hA : ∀ (vs : List AV) (xs : List AV), noLs vs = true → dwks vs = xs → (match vs with | [u] => u | us => AV.tup us).noL = true ∧ dwk (match vs with | [u] => u | us => AV.tup us) = ybk xs := by
    intro vs xs hn hd
    match vs, hn, hd with
    | [], _, hd => subst hd; exact ⟨rfl, rfl⟩
    | [v], hn, hd => subst hd; exact ⟨by simpa [noLs] using hn, rfl⟩
    | v :: v' :: vs, hn, hd => subst hd; exact ⟨hn, rfl⟩
   obtain ⟨a1, a2⟩ := hA vs _ h4 h5
   exact ⟨a1, by rw [ynZ]; exact a2, hγ'.hp.1, hγ'.hp.2⟩
  ·exact hq.elim
 cases e with
 | x id => exact hq.elim
 | r => exact fin hq
 | n => exact fin hq
end Go.AV
end
noncomputable section
namespace Go.AV
open Go.RowKit Go.RG Go.Lib
variable {K : Nat → Type}
section
variable {P : Program} {C : Cx K} {ts : TS K} {χ : Nat → Nat → Bool}
theorem yzL {P : Program} {C : Cx K} {R : RR K} {ts : TS K} {χ : Nat → Nat → Bool} {ks : KS} (hk : KOk ks) (hγ : GM P C R ts χ (ofK ks)) {s : Nat} {b : TB K} (hb : lkB ts.od s = some b) (hx : χ s 1 = false) : BW (ks.M (.l s 1)) (some (bT C ts χ b)) := by
 obtain ⟨kb, h1, h2⟩ := hγ.mb s 1 b hb hx
 have h1' : lkO (yqy ks.mem) s = some kb := h1
 rw [yiV] at h1'
 have : ks.M (.l s 1) = some kb.blk := by rw [M_l1, h1']; rfl
 rw [this]
 exact h2.canon (hk s kb h1').1
theorem yyg {us : List (TV K)} {vs : List AV} (t : TL P C ts χ us vs) : VWs vs (aTs C ts χ us) := by
 refine ⟨by rw [ycs, List.length_map]; exact t.1, fun j u v p q => ?_⟩
 rw [ycs, List.getElem?_map] at q
 obtain ⟨x, e1, rfl⟩ := Option.map_eq_some_iff.1 q
 exact (t.2 j x u e1 p).canon
theorem yw2 (vs : List AV) : (match vs with | [u] => u | us => AV.tup us) = ybk vs := by
 cases vs with
 | nil => rfl
 | cons a r => cases r <;> rfl
theorem yxq {vs ws : List AV} (h : VWs vs ws) : VW (ybk vs) (ybk ws) := by
 match vs, ws, h with
 | [], [], h => exact VW.tup h
 | [v], [w], h => exact h.2 0 v w rfl rfl
 | v :: v' :: r, w :: w' :: q, h => exact VW.tup h
 | [], _ :: _, h => simp [VWs] at h
 | _ :: _, [], h => simp [VWs] at h
 | [_], _ :: _ :: _, h => simp [VWs] at h
 | _ :: _ :: _, [_], h => simp [VWs] at h
def endS (C : Cx K) (t : TS K) (χ : Nat → Nat → Bool) (S : St) : St := { S with M := fun k => match k with
 | .h o => S.M (.h o)
 | .l d c => if c = 1 then (match lkB t.od d with
   | some b => if χ d 1 = true then S.M (.l d c) else some (bT C t χ b)
   | none => S.M (.l d c)) else S.M (.l d c) }
theorem BW.refl {S : St} {k : Key} (h : ∀ b, S.M k = some b → b.sz ≠ 0) : BW (S.M k) (S.M k) := by
 cases hb : S.M k with
 | none => trivial
 | some b => exact ⟨h b hb, rfl, rfl, rfl, fun j u v p q => by rw [p] at q; cases q; exact VW.refl _⟩
end
theorem yyY {P : Program} {F : Cf K} (hC : CxOk P F.C) (hS : SsOk P F.C F.S) (hL : SLOk P F.C F.L) {f : FuncId} {c : AFn} (hF : trF P f = some c) {A : An K} {sp : Sl K} (hf : sp.f = f) (hN : F.N = c.N) (hres : c.res = sp.res) (hnp : npL sp ≤ c.N)
  {fs : List (FV K)} {env out : List (DV K)} (hE : okS sp env = true) (hfs : ∀ G ∈ fs, FOk P F.C G) (h : DnL F A c sp fs env out) {χ : Nat → Nat → Bool} (hv : ViOk (entL F.C sp fs env) χ) (H : Hp) (n : Nat) :
  ybf P sp.f (argT F.C sp (entL F.C sp fs env) χ) (memT F.C (entL F.C sp fs env) χ) H n (EndL F.C sp (entL F.C sp fs env) χ out H n) := by
 subst hf
 let R : RR K := ⟨fun _ H' n' => H' = H ∧ n' = n, fun s => χ s 1⟩
 obtain ⟨g0, k0, m0⟩ := yzi (R := R) (H := H) (n := n) hC hE hfs hv ⟨rfl, rfl⟩ rfl
 have hal : (argT F.C sp (entL F.C sp fs env) χ).length ≤ c.N := by unfold argT; simpa using hnp
 have main := ysm (Post := fun av ks => ∃ ξ env' us vs, wt (ctT sp.to) env' = true ∧ GM P F.C R (bdT F.C sp.to [] [] env') ξ (ofK ks) ∧ kpt (entL F.C sp fs env) (bdT F.C sp.to [] [] env') sp.kp (eqDV (selL sp env') out) ∧
   ydp (bdT F.C sp.to [] [] env') sp.res = some us ∧ TL P F.C (bdT F.C sp.to [] [] env') ξ us vs ∧ av = ybk vs) hF hal m0 k0 fun B _ hB => by
  have hmain := yzt (ro := none) (R := R) (fun _ _ _ _ h => h) hB hC rfl hS hL hN A c.body _ _ χ _ k0 g0 h
  refine yus hmain fun e ks hk hq => ?_
  obtain ⟨_, ts, χ', hγ, hx, hq⟩ := hq
  have fin : rdJ F.C sp.to (frF F.C sp ts) (fun env' => match ydp (bdT F.C sp.to [] [] env') sp.res with | some _ => kpt (entL F.C sp fs env) (bdT F.C sp.to [] [] env') sp.kp (eqDV (selL sp env') out) | none => False) → RE B c.N (toS ks) (yxz c.res (fun av ks => ∃ ξ env' us vs, wt (ctT sp.to) env' = true ∧ GM P F.C R (bdT F.C sp.to [] [] env') ξ (ofK ks) ∧ kpt (entL F.C sp fs env) (bdT F.C sp.to [] [] env') sp.kp (eqDV (selL sp env') out) ∧
    ydp (bdT F.C sp.to [] [] env') sp.res = some us ∧ TL P F.C (bdT F.C sp.to [] [] env') ξ us vs ∧ av = ybk vs) .r) := by
   intro hq
   have hfr : REk P F.C R B c.N ts (frF F.C sp ts) := by
    unfold frF
    split
    ·exact yqW hB hC sp.res 9 ts
    ·exact .refl
   refine RE.bind (hfr χ' ks hk hγ) fun ks0 hk ⟨_, ξ0, hγ⟩ => ?_
   refine (yuK (rg := []) (hh := []) (fun _ _ _ _ h => h) hB hC hk hγ (fun id w q => by cases q) (yyr hq)).mono fun ks' ⟨env', ⟨h0, h1⟩, h2, ξ, h3⟩ => ?_
   cases hu : ydp (bdT F.C sp.to [] [] env') sp.res with
   | none => rw [hu] at h1; exact h1.elim
   | some us =>
     rw [hu] at h1
     obtain ⟨vs, r1, r2⟩ := yos h2 h3 c.res us (by rw [hres]; exact hu)
     show wpv (resA (toS ks') c.res) _
     unfold resA
     rw [r1]
     exact ⟨ξ, env', us, vs, h0, h3, h1, hu, r2, yw2 vs⟩
  cases e with
  | x id => exact hq.elim
  | r => exact fin hq
  | n => exact fin hq
 rw [yyj] at main
 refine main.canon ?_
 rintro av S1 ⟨ks, rfl, hk, ξ, env', us, vs, h0, h1, h2, hus, h4, rfl⟩
 refine ⟨_, endS F.C (bdT F.C sp.to [] [] env') ξ (toS ks), yxq (yyg h4), rfl, rfl, fun o => rfl, fun d c' => ?_, env', ξ, h0, h2, h1.vi, fun s b q hb => (h1.lv s b q hb).symm, ⟨us, hus, rfl⟩, h1.hp.1, h1.hp.2, fun d => rfl, fun s b hb hx => ?_⟩
 ·have hz : ∀ b, (toS ks).M (.l d c') = some b → b.sz ≠ 0 := by
   intro b hb
   obtain ⟨rfl, kb, e1, rfl⟩ := M_lc ks hb
   exact (hk d kb e1).1
  show BW _ (if c' = 1 then _ else _)
  split
  ·rename_i e; subst e
   split
   ·rename_i b hb
    split
    ·exact BW.refl hz
    ·rename_i hx; exact yzL hk h1 hb (by simpa using hx)
   ·exact BW.refl hz
  ·exact BW.refl hz
 ·simp only [endS, hb, hx, Bool.false_eq_true, if_false, if_true]
theorem yrH {c : CT} {x : DV K} {y : CTy K c} (h : outC c x = some y) : x = inC c y := by
 cases c with
 | i => cases x <;> simp only [outC, outI] at h <;> cases h; rfl
 | b => cases x <;> simp only [outC, yxH] at h <;> cases h; rfl
 | s => cases x <;> simp only [outC, outS] at h <;> cases h; rfl
 | l e =>
   cases x with
   | l e' l =>
     simp only [outC, outL] at h
     obtain ⟨rfl, rfl⟩ := ydE h
     rfl
   | _ => simp only [outC, outL] at h; cases h
 | v t =>
   cases x with
   | v t' x =>
     simp only [outC, outT] at h
     split at h
     ·rename_i e; subst e; cases h; rfl
     ·cases h
   | _ => simp only [outC, outT] at h; cases h
theorem yjT {f : Cur K Prop []} {out : List (DV K)} (h : yrj [] f out) : out = [] ∧ f := by
 cases out with
 | nil => exact ⟨rfl, h⟩
 | cons x r => exact h.elim
theorem yaI {c : CT} {co : List CT} {f : Cur K Prop (c :: co)} {out : List (DV K)} (h : yrj (c :: co) f out) : ∃ (y : CTy K c) (r : List (DV K)), out = inC c y :: r ∧ yrj co (f y) r := by
 cases out with
 | nil => exact h.elim
 | cons x r =>
   have h : (match outC c x with | some y => yrj co (f y) r | none => False) := h
   revert h
   cases e : outC c x with
   | none => exact fun h => h.elim
   | some y => exact fun h => ⟨y, r, by rw [yrH e], h⟩
theorem ymK {co : List CT} {f : Cur K (Cur K Prop co) []} {env out : List (DV K)} (h : apIn co [] f env out) : env = [] ∧ yrj co f out := by
 cases env with
 | nil => exact ⟨rfl, h⟩
 | cons x r => exact h.elim
theorem ybc {co : List CT} {c : CT} {ci : List CT} {f : Cur K (Cur K Prop co) (c :: ci)} {env out : List (DV K)} (h : apIn co (c :: ci) f env out) : ∃ (y : CTy K c) (r : List (DV K)), env = inC c y :: r ∧ apIn co ci (f y) r out := by
 cases env with
 | nil => exact h.elim
 | cons x r =>
   have h : (match outC c x with | some y => apIn co ci (f y) r out | none => False) := h
   revert h
   cases e : outC c x with
   | none => exact fun h => h.elim
   | some y => exact fun h => ⟨y, r, by rw [yrH e], h⟩
theorem ymR {ci co : List CT} {f : FsTy K (Cur K (Cur K Prop co) ci) []} {fs : List (FV K)} {env out : List (DV K)} (h : apFs ci co [] f fs env out) : fs = [] ∧ apIn co ci f env out := by
 cases fs with
 | nil => exact ⟨rfl, h⟩
 | cons x r => exact h.elim
def SlC (P : Program) (C : Cx K) (sp : Sl K) (fs : List (FV K)) (env out : List (DV K)) : Prop := ∀ χ, ViOk (entL C sp fs env) χ → ∀ H n, ybf P sp.f (argT C sp (entL C sp fs env) χ) (memT C (entL C sp fs env) χ) H n (EndL C sp (entL C sp fs env) χ out H n)
theorem ymN {P : Program} {F : Cf K} (hC : CxOk P F.C) (hS : SsOk P F.C F.S) (hL : SLOk P F.C F.L) {f : FuncId} {c : AFn} (hF : trF P f = some c) {A : An K} {sp : Sl K} (hf : sp.f = f) (hN : F.N = c.N) (hres : c.res = sp.res) (hnp : npL sp ≤ c.N)
  {fs : List (FV K)} {env out : List (DV K)} (hE : okS sp env = true) (hfs : ∀ G ∈ fs, FOk P F.C G) {X : Prop} (h : X) (e : X = DnL F A c sp fs env out) : SlC P F.C sp fs env out := fun χ hv H n => yyY hC hS hL hF hf hN hres hnp hE hfs (e ▸ h) hv H n
theorem yaB {P : Program} {C : Cx K} : SLOk P C [] := fun sp h => by cases h
theorem yen {P : Program} {C : Cx K} {sp : Sl K} {l : List (Sl K)} (h : SlOk P C sp) (k : SLOk P C l) : SLOk P C (sp :: l) := fun q hq => by
 rcases List.mem_cons.1 hq with rfl | hq
 ·exact h
 ·exact k q hq
end Go.AV
end
noncomputable section
namespace Go.AV
open Go.RowKit Go.RG Go.Lib
variable {K : Nat → Type}
theorem ya4 {c : Bool} {a b a' b' : Prop} (h : cnd c a b) (ha : a → a') (hb : b → b') : cnd c a' b' := ⟨fun e => ha (h.1 e), fun e => hb (h.2 e)⟩
structure Tb (K : Nat → Type) (X : Type) where
 g : Bool
 c : X → List (TV K)
 rd : List (TV K) → Option X
 tb : Option (X → UInt8)
 ob : Option (UInt8 → X)
 fl : Bool
 E : Enc X
structure TbOk (P : Program) (C : Cx K) {X : Type} (b : Tb K X) : Prop where
 c : ∀ (x : X) ts χ, ((b.E).c x).length = (b.c x).length ∧ ∀ (j : Nat) (u : TV K) (v : AV), (b.c x)[j]? = some u → (b.E.c x)[j]? = some v → TR P C ts χ u v
 rd : ∀ (cs : List (TV K)) (x : X) ts χ (vs : List AV), b.rd cs = some x → vs.length = cs.length → (∀ (j : Nat) (u : TV K) (v : AV), cs[j]? = some u → vs[j]? = some v → TR P C ts χ u v) → dwks vs = b.E.c x
 g : b.g = false → b.E.sz = 1
 dw : ∀ x : X, dwks (b.E.c x) = b.E.c x
 tb : ∀ f, b.tb = some f → ∀ x, ∃ n, b.E.c x = [.it .u8 n] ∧ f x = UInt8.ofNat n.toNat
 ob : ∀ f, b.ob = some f → ∀ y : UInt8, b.E.c (f y) = [.it .u8 y.toNat]
 fl : b.fl = true → ∀ x : X, yfU (b.E.c x) = true
 nr : ∀ x, ybr (b.c x) = true
def tbI (k : IntKind) : Tb K Int := ⟨false, fun n => [.it k n], fun cs => match cs with
 | [u] => match tint u with
   | some (k', n) => if k' = k then some n else none
   | none => none
 | _ => none, (match k with | .u8 => some toB | _ => none), (match k with | .u8 => some ofB | _ => none), true, eI k⟩
def tbB : Tb K Bool := ⟨false, fun b => [.bl b], fun cs => match cs with
 | [u] => tbo u
 | _ => none, none, none, true, eB⟩
def tbS : Tb K Str := ⟨false, fun s => [.st s], fun cs => match cs with
 | [.st s] => some s
 | _ => none, none, none, true, eS⟩
def tbL (e : Nat) (E : Enc (K e)) : Tb K (List (K e)) := ⟨false, fun l => [.sl e l], fun cs => match cs with
 | [.sl e' l] => ykU e' e l
 | [.nil] => some []
 | [.em] => some []
 | _ => none, none, none, false, eSl E⟩
def yat {A B : Type} (a : Tb K A) (b : Tb K B) : Tb K (A × B) := ⟨true, fun x => a.c x.1 ++ b.c x.2, fun cs => match a.rd (cs.take a.E.sz), b.rd (cs.drop a.E.sz) with
 | some x, some y => some (x, y)
 | _, _ => none, none, none, a.fl && b.fl, ⟨fun x => a.E.c x.1 ++ b.E.c x.2, a.E.sz + b.E.sz, by have := a.E.pos; omega, fun x => by rw [List.length_append, a.E.len, b.E.len], fun x => by rw [yk1, a.E.no, b.E.no]; rfl, fun x => by rw [List.all_append, a.E.one, b.E.one]; rfl⟩⟩
def yd2 {A X : Type} (a : Tb K A) (f : X → A) (g : A → X) (E : Enc X) : Tb K X := ⟨true, fun x => a.c (f x), fun cs => match a.rd cs with
 | some y => some (g y)
 | none => none, none, none, a.fl, E⟩
def ycZ {A X : Type} (a : Enc A) (f : X → A) : Enc X := ⟨fun x => a.c (f x), a.sz, a.pos, fun x => a.len _, fun x => a.no _, fun x => a.one _⟩
def tbU : Tb K Unit := ⟨false, fun _ => [.lb true], fun _ => none, none, none, false, ⟨fun _ => [.bl true], 1, by omega, fun _ => rfl, fun _ => rfl, fun _ => rfl⟩⟩
section
variable {P : Program} {C : Cx K}
theorem at1 {α : Type} {x u : α} {j : Nat} (h : [x][j]? = some u) : j = 0 ∧ u = x := by
 cases j with
 | zero => simp at h; exact ⟨rfl, h.symm⟩
 | succ j => simp at h
theorem len1 {α : Type} {l : List α} (h : l.length = 1) : ∃ x, l = [x] := by
 match l, h with
 | [x], _ => exact ⟨x, rfl⟩
theorem ycn (k : IntKind) : TbOk P C (tbI k : Tb K Int) := by
 refine ⟨fun x ts χ => ⟨rfl, fun j u v hu hv => ?_⟩, fun cs x ts χ vs h hl ht => ?_, fun _ => rfl, fun _ => rfl, fun f hf x => ?_, fun f hf x => ?_, fun _ _ => rfl, fun _ => rfl⟩
 ·obtain ⟨rfl, rfl⟩ := at1 hu; obtain ⟨_, rfl⟩ := at1 hv; exact .it k x
 ·simp only [tbI] at h
  split at h
  ·rename_i u
   obtain ⟨v, rfl⟩ := len1 hl
   split at h
   ·rename_i k' n hn
    split at h
    ·rename_i e; cases h; subst e; rw [TR.int (ht 0 _ _ rfl rfl) hn]; rfl
    ·cases h
   ·cases h
  ·cases h
 ·cases k <;> simp [tbI] at hf; subst hf; exact ⟨x, rfl, rfl⟩
 ·cases k <;> simp [tbI] at hf; subst hf; rfl
theorem ygs : TbOk P C (tbB : Tb K Bool) := by
 refine ⟨fun x ts χ => ⟨rfl, fun j u v hu hv => ?_⟩, fun cs x ts χ vs h hl ht => ?_, fun _ => rfl, fun _ => rfl, fun f hf x => (by cases hf), fun f hf x => (by cases hf), fun _ _ => rfl, fun _ => rfl⟩
 ·obtain ⟨rfl, rfl⟩ := at1 hu; obtain ⟨_, rfl⟩ := at1 hv; exact .bl x
 ·simp only [tbB] at h
  split at h
  ·obtain ⟨v, rfl⟩ := len1 hl; rw [TR.bool (ht 0 _ _ rfl rfl) h]; rfl
  ·cases h
theorem yb3 : TbOk P C (tbS : Tb K Str) := by
 refine ⟨fun x ts χ => ⟨rfl, fun j u v hu hv => ?_⟩, fun cs x ts χ vs h hl ht => ?_, fun _ => rfl, fun _ => rfl, fun f hf x => (by cases hf), fun f hf x => (by cases hf), fun _ _ => rfl, fun _ => rfl⟩
 ·obtain ⟨rfl, rfl⟩ := at1 hu; obtain ⟨_, rfl⟩ := at1 hv; exact .st x
 ·simp only [tbS] at h
  split at h
  ·obtain ⟨v, rfl⟩ := len1 hl; cases h; rw [TR.str (ht 0 _ _ rfl rfl)]; rfl
  ·cases h
theorem yxJ {T : Type} {E : Enc T} (h : ∀ x, dwks (E.c x) = E.c x) (l : List T) : dwks (cl E l) = cl E l := by
 induction l with
 | nil => rfl
 | cons x l ih => show dwks (E.c x ++ cl E l) = E.c x ++ cl E l; rw [ybX, h, ih]
theorem ymS {T : Type} {E : Enc T} (h : ∀ x, dwks (E.c x) = E.c x) : ∀ l, dwks ((eSl E).c l) = (eSl E).c l := fun l => by
 show [dwk (slA E l)] = [slA E l]
 simp only [slA, dwk, yxJ h]
theorem yaV (e : Nat) {E : Enc (K e)} (hE : C.E e = E) (hd : ∀ x, dwks (E.c x) = E.c x) : TbOk P C (tbL e E) := by
 refine ⟨fun x ts χ => ⟨rfl, fun j u v hu hv => ?_⟩, fun cs x ts χ vs h hl ht => ?_, fun _ => rfl, fun x => ?_, fun f hf x => (by cases hf), fun f hf x => (by cases hf), fun h => (by cases h), fun _ => rfl⟩
 ·obtain ⟨rfl, rfl⟩ := at1 hu; obtain ⟨_, rfl⟩ := at1 hv; exact .sl e x false _ _ rfl (by rw [hE]; exact yxJ hd x)
 ·simp only [tbL] at h
  split at h
  ·obtain ⟨v, rfl⟩ := len1 hl
   obtain ⟨rfl, h⟩ := ydE h
   obtain ⟨z, xs, h1, rfl⟩ := (ht 0 _ _ rfl rfl).sli
   subst h
   show [dwk (AV.sl z _ xs)] = _
   simp only [dwk, h1, hE]; rfl
  ·obtain ⟨v, rfl⟩ := len1 hl; cases h
   have := ht 0 _ _ rfl rfl
   cases this; rfl
  ·obtain ⟨v, rfl⟩ := len1 hl; cases h
   have := ht 0 _ _ rfl rfl
   cases this; rfl
  ·cases h
 ·show [dwk (slA E x)] = [slA E x]
  simp only [slA, dwk, yxJ hd]
theorem yuo (a b : List AV) : yfU (a ++ b) = (yfU a && yfU b) := by
 induction a with
 | nil => simp [yfU]
 | cons x a ih => simp [yfU, ih, Bool.and_assoc]
theorem yqq (a b : List (TV K)) : ybr (a ++ b) = (ybr a && ybr b) := by
 induction a with
 | nil => simp [ybr]
 | cons x a ih => simp [ybr, ih, Bool.and_assoc]
theorem yam {A B : Type} {a : Tb K A} {b : Tb K B} (ha : TbOk P C a) (hb : TbOk P C b) : TbOk P C (yat a b) := by
 refine ⟨fun x ts χ => ?_, fun cs x ts χ vs h hl ht => ?_, fun h => (by cases h), fun x => ?_, fun f hf x => (by cases hf), fun f hf x => (by cases hf), fun h x => ?_, fun x => ?_⟩
 ·exact TL.app (ts := ts) (χ := χ) (P := P) (C := C) (us := a.c x.1) (us' := b.c x.2) (vs := a.E.c x.1) (vs' := b.E.c x.2) (ha.c x.1 ts χ) (hb.c x.2 ts χ)
 ·simp only [yat] at h
  split at h
  ·rename_i x1 y1 h1 h2
   cases h
   have t : TL P C ts χ cs vs := ⟨hl, ht⟩
   have e1 := ha.rd _ _ ts χ _ h1 (t.take a.E.sz).1 (t.take a.E.sz).2
   have e2 := hb.rd _ _ ts χ _ h2 (t.drop a.E.sz).1 (t.drop a.E.sz).2
   show dwks vs = a.E.c x1 ++ b.E.c y1
   rw [← e1, ← e2, ← ybX, List.take_append_drop]
  ·cases h
 ·show dwks (a.E.c x.1 ++ b.E.c x.2) = _; rw [ybX, ha.dw, hb.dw]; rfl
 ·have h' : (a.fl && b.fl) = true := h
  rw [Bool.and_eq_true] at h'
  show yfU (a.E.c x.1 ++ b.E.c x.2) = true
  rw [yuo, ha.fl h'.1, hb.fl h'.2]; rfl
 ·show ybr (a.c x.1 ++ b.c x.2) = true; rw [yqq, ha.nr, hb.nr]; rfl
theorem ybb {A X : Type} {a : Tb K A} {f : X → A} {g : A → X} {E : Enc X} (ha : TbOk P C a) (hfg : ∀ y, f (g y) = y) (hE : ∀ x, E.c x = a.E.c (f x)) : TbOk P C (yd2 a f g E) := by
 refine ⟨fun x ts χ => ?_, fun cs x ts χ vs h hl ht => ?_, fun h => (by cases h), fun x => ?_, fun f hf x => (by cases hf), fun f hf x => (by cases hf), fun h x => ?_, fun x => ha.nr (f x)⟩
 ·have := ha.c (f x) ts χ; rw [← hE] at this; exact this
 ·simp only [yd2] at h
  split at h
  ·rename_i y hy; cases h; show dwks vs = E.c (g y); rw [hE, hfg]; exact ha.rd _ _ ts χ _ hy hl ht
  ·cases h
 ·show dwks (E.c x) = E.c x; rw [hE]; exact ha.dw _
 ·show yfU (E.c x) = true; rw [hE]; exact ha.fl h _
theorem yx0 : TbOk P C (tbU : Tb K Unit) := by
 refine ⟨fun x ts χ => ⟨rfl, fun j u v hu hv => ?_⟩, fun cs x ts χ vs h hl ht => (by cases h), fun _ => rfl, fun _ => rfl, fun f hf x => (by cases hf), fun f hf x => (by cases hf), fun h => (by cases h), fun _ => rfl⟩
 obtain ⟨rfl, rfl⟩ := at1 hu; obtain ⟨_, rfl⟩ := at1 hv; exact .lb true
end
section
variable {TC : Type} {KF : TC → Type} {code : Nat → TC}
def cxOf (TF : (c : TC) → Tb (fun t => KF (code t)) (KF c)) : Cx (fun t => KF (code t)) :=
 ⟨fun t => ⟨(TF (code t)).g, (TF (code t)).c, (TF (code t)).rd, (TF (code t)).tb, (TF (code t)).ob, (TF (code t)).fl⟩, fun t => (TF (code t)).E⟩
theorem ywo {P : Program} {TF : (c : TC) → Tb (fun t => KF (code t)) (KF c)} (h : ∀ c, TbOk P (cxOf TF) (TF c)) : CxOk P (cxOf TF) :=
 ⟨fun t x ts χ => (h (code t)).c x ts χ, fun t cs x ts χ vs a b c => (h (code t)).rd cs x ts χ vs a b c, fun t e => (h (code t)).g e, fun t x => (h (code t)).dw x, fun t f e => (h (code t)).tb f e, fun t f e => (h (code t)).ob f e, fun t e => (h (code t)).fl e, fun t x => (h (code t)).nr x⟩
def lkC (d : TC) : List (Nat × TC) → Nat → TC
 | [], _ => d
 | p :: r, t => match Nat.beq p.1 t with
   | true => p.2
   | false => lkC d r t
end
theorem ybv {rs : List Nat} {p : Nat} {ps : List PD} {w : WTy K rs (.v p :: ps)} {a : List (AD K)} {b : List (DV K)} (h : appW rs (.v p :: ps) w a b) : ∃ (x : K p) (a' : List (AD K)), a = .d (.v p x) :: a' ∧ appW rs ps (w x) a' b := by
 cases a with
 | nil => exact h.elim
 | cons u a' =>
   simp only [appW] at h
   split at h
   ·rename_i y hy
    cases u with
    | f F => simp [outP] at hy
    | d x =>
      cases x with
      | v t x =>
        simp only [outP] at hy
        split at hy
        ·rename_i e; subst e; cases hy; exact ⟨x, a', rfl, h⟩
        ·cases hy
      | _ => simp [outP] at hy
   ·exact h.elim
theorem yxU {rs : List Nat} {p : Nat} {ps : List PD} {w : WTy K rs (.p p :: ps)} {a : List (AD K)} {b : List (DV K)} (h : appW rs (.p p :: ps) w a b) : ∃ (x : K p) (a' : List (AD K)), a = .d (.v p x) :: a' ∧ appW rs ps (w x) a' b := by
 cases a with
 | nil => exact h.elim
 | cons u a' =>
   simp only [appW] at h
   split at h
   ·rename_i y hy
    cases u with
    | f F => simp [outP] at hy
    | d x =>
      cases x with
      | v t x =>
        simp only [outP] at hy
        split at hy
        ·rename_i e; subst e; cases hy; exact ⟨x, a', rfl, h⟩
        ·cases hy
      | _ => simp [outP] at hy
   ·exact h.elim
theorem yyR {rs as bs : List Nat} {ps : List PD} {w : WTy K rs (.f as bs :: ps)} {a : List (AD K)} {b : List (DV K)} (h : appW rs (.f as bs :: ps) w a b) : ∃ (F : FV K) (a' : List (AD K)), a = .f F :: a' ∧ appW rs ps (w (curF bs as F.W)) a' b := by
 cases a with
 | nil => exact h.elim
 | cons u a' =>
   simp only [appW] at h
   split at h
   ·rename_i y hy
    cases u with
    | f F => simp only [outP] at hy; cases hy; exact ⟨F, a', rfl, h⟩
    | d x => cases x <;> simp [outP] at hy
   ·exact h.elim
theorem ycS {rs : List Nat} {w : WTy K rs []} {a : List (AD K)} {b : List (DV K)} (h : appW rs [] w a b) : a = [] ∧ apR rs w b := by
 cases a with
 | nil => exact ⟨rfl, h⟩
 | cons u a' => exact h.elim
theorem yev {r : Nat} {rs : List Nat} {w : RTy K (r :: rs)} {b : List (DV K)} (h : apR (r :: rs) w b) : ∃ (x : K r) (b' : List (DV K)), b = .v r x :: b' ∧ apR rs (w x) b' := by
 cases b with
 | nil => exact h.elim
 | cons u b' =>
   cases u with
   | v t x =>
     have h' : (if e : t = r then apR rs (w (e ▸ x)) b' else False) := h
     by_cases e : t = r
     ·subst e; rw [dif_pos rfl] at h'; exact ⟨x, b', rfl, h'⟩
     ·rw [dif_neg e] at h'; exact h'.elim
   | _ => exact h.elim
theorem yfa {w : RTy K []} {b : List (DV K)} (h : apR [] w b) : b = [] ∧ w := by
 cases b with
 | nil => exact ⟨rfl, h⟩
 | cons u b' => exact h.elim
theorem ykB {P : Program} {F : Cf K} (hC : CxOk P F.C) (hS : SsOk P F.C F.S) (hL : SLOk P F.C F.L) {f : FuncId} {c : AFn} (hF : trF P f = some c) {A : An K} {ps : List PD} {rs : List Nat} (hN : F.N = c.N) (hps : ps.length ≤ c.N) {env : List (AD K)} {r : List (DV K)} (hlen : env.length = ps.length) (hFs : ∀ G, AD.f G ∈ env → FOk P F.C G)
  {X : Prop} (h : X) (e : X = DnF F A c ps rs env r) : Pure P f (ybj F.C ps env) (ybk (r.map (dvA F.C))) := yv6 hC hS hL hF hN hps hlen hFs (e ▸ h)
def kps (a : Nat) : Nat → List Kd
 | 0 => []
 | n + 1 => .kp a :: kps (a + 1) n
def huR : (rs : List Nat) → RTy K rs → (List (DV K) → Prop) → Prop
 | [], w, D => @Eq Prop w (D [])
 | r :: rs, w, D => ∀ x : K r, huR rs (w x) fun b => D (.v r x :: b)
def huW (rs : List Nat) : (ps : List PD) → WTy K rs ps → (List (AD K) → List (DV K) → Prop) → Prop
 | [], w, D => huR rs w (D [])
 | .v p :: ps, w, D => ∀ x : K p, huW rs ps (w x) fun a => D (.d (.v p x) :: a)
 | .p p :: ps, w, D => ∀ x : K p, huW rs ps (w x) fun a => D (.d (.v p x) :: a)
 | .f as bs :: ps, w, D => ∀ F : FV K, huW rs ps (w (curF bs as F.W)) fun a => D (.f F :: a)
theorem yvJ : ∀ {rs : List Nat} {w : RTy K rs} {D : List (DV K) → Prop} {b : List (DV K)}, huR rs w D → apR rs w b → D b
 | [], w, D, b, e, h => by
   obtain ⟨rfl, h⟩ := yfa h
   have e : @Eq Prop w (D []) := e
   exact e ▸ h
 | r :: rs, w, D, b, e, h => by
   obtain ⟨x, b', rfl, k⟩ := yev h
   exact yvJ (rs := rs) (w := w x) (D := fun b => D (.v r x :: b)) (e x) k
theorem yrV {rs : List Nat} : ∀ {ps : List PD} {w : WTy K rs ps} {D : List (AD K) → List (DV K) → Prop} {a : List (AD K)} {b : List (DV K)}, huW rs ps w D → appW rs ps w a b → a.length = ps.length ∧ D a b
 | [], w, D, a, b, e, h => by
   obtain ⟨rfl, h⟩ := ycS h
   exact ⟨rfl, yvJ (w := w) e h⟩
 | .v p :: ps, w, D, a, b, e, h => by
   obtain ⟨x, a', rfl, k⟩ := ybv h
   obtain ⟨h1, h2⟩ := yrV (ps := ps) (w := w x) (D := fun a => D (.d (.v p x) :: a)) (e x) k
   exact ⟨by simp [h1], h2⟩
 | .p p :: ps, w, D, a, b, e, h => by
   obtain ⟨x, a', rfl, k⟩ := yxU h
   obtain ⟨h1, h2⟩ := yrV (ps := ps) (w := w x) (D := fun a => D (.d (.v p x) :: a)) (e x) k
   exact ⟨by simp [h1], h2⟩
 | .f as bs :: ps, w, D, a, b, e, h => by
   obtain ⟨F, a', rfl, k⟩ := yyR h
   obtain ⟨h1, h2⟩ := yrV (ps := ps) (w := w (curF bs as F.W)) (D := fun a => D (.f F :: a)) (e F) k
   exact ⟨by simp [h1], h2⟩
theorem yaz {P : Program} {F : Cf K} (hC : CxOk P F.C) (hS : SsOk P F.C F.S) (hL : SLOk P F.C F.L) {f : FuncId} {c : AFn} (hF : trF P f = some c) {A : An K} {ps : List PD} {rs : List Nat} {w : WTy K rs ps} (hN : F.N = c.N) (hps : Nat.ble ps.length c.N = true) (e : huW rs ps w (DnF F A c ps rs)) : SpOk P F.C ⟨f, ps, rs, appW rs ps w⟩ := fun env r hFs h => by
 obtain ⟨h1, h2⟩ := yrV e h
 exact ⟨h1, yv6 hC hS hL hF hN (Nat.le_of_ble_eq_true hps) h1 hFs h2⟩
theorem yaA {P : Program} {C : Cx K} : SsOk P C [] := fun sp h => by cases h
theorem yap {P : Program} {C : Cx K} {sp : Sp K} {l : List (Sp K)} (h : SpOk P C sp) (k : SsOk P C l) : SsOk P C (sp :: l) := fun q hq => by
 rcases List.mem_cons.1 hq with rfl | hq
 ·exact h
 ·exact k q hq
end Go.AV
end
