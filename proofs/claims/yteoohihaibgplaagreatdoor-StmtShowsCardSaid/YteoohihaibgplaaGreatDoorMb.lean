/- General texts and own ones, joined: what the program computes, told of abstract states, and the laws of plain data. No condition. -/
import Derived.Test.YteoohihaibgplaaGreatDoorMa
import Derived.KernelRfl
import Derived.WalkKit
import Derived.ProofKit
import Derived.OpenShut
import Derived.ShutString
import Derived.ChangeOld
import Derived.ChangeSlices
import Derived.Below
import Derived.WideShapes
noncomputable section
namespace Go.AV
open Go.RowKit Go.RG Go.Lib
structure REff where
 v : AV
 mem : List ((Nat × Nat) × Option Blk)
 bump : List Nat
 H : Option (Hp × Nat)
def REff.ml (e : REff) : List (Key × Option Blk) := e.mem.map fun p => (.l p.1.1 p.1.2, p.2)
def REff.memM (e : REff) (M : Key → Option Blk) : Key → Option Blk := fun k => match e.H, k with
 | some (H, _), .h o => H o
 | _, k => e.ml.foldl (fun M p => updK M p.1 p.2) M k
def REff.cntF (e : REff) (c : Nat → Nat) : Nat → Nat := cntB e.bump c
def REff.mst (e : REff) (S : St) : St := ⟨S.fr, e.memM S.M, e.cntF S.cnt, match e.H with | some (_, n) => n | none => S.nx⟩
def REff.app (e : REff) (d : Option Nat) (S : St) : St := (e.mst S).put d e.v
theorem ml_h (e : REff) (o : Nat) : ∀ p ∈ e.ml, p.1 ≠ .h o := by
 intro p hp
 obtain ⟨q, _, rfl⟩ := List.mem_map.1 hp
 intro h; cases h
theorem yt2 {e : REff} {p : Key × Option Blk} (hp : p ∈ e.ml) : ∃ q ∈ e.mem, p.1 = .l q.1.1 q.1.2 := by
 obtain ⟨q, hq, rfl⟩ := List.mem_map.1 hp
 exact ⟨q, hq, rfl⟩
theorem ycM {l : List (Key × Option Blk)} {k : Key} (h : ∀ p ∈ l, p.1 ≠ k) (M : Key → Option Blk) : l.foldl (fun M p => updK M p.1 p.2) M k = M k := by
 induction l generalizing M with
 | nil => rfl
 | cons p l ih =>
   rw [List.foldl_cons, ih (fun q hq => h q (List.mem_cons_of_mem _ hq))]
   simp [updK, (h p (by simp)).symm]
theorem yr4 {l : List (Key × Option Blk)} {k : Key} (h : ∃ p ∈ l, p.1 = k) (M M' : Key → Option Blk) : l.foldl (fun M p => updK M p.1 p.2) M k = l.foldl (fun M p => updK M p.1 p.2) M' k := by
 induction l generalizing M M' with
 | nil => obtain ⟨p, hp, _⟩ := h; cases hp
 | cons p l ih =>
   rw [List.foldl_cons, List.foldl_cons]
   by_cases hk : ∃ q ∈ l, q.1 = k
   ·exact ih hk _ _
   ·have hn : ∀ q ∈ l, q.1 ≠ k := fun q hq e => hk ⟨q, hq, e⟩
    rw [ycM hn, ycM hn]
    obtain ⟨q, hq, e⟩ := h
    rcases List.mem_cons.1 hq with rfl | hq
    ·simp [updK, e]
    ·exact absurd e (hn q hq)
theorem yro {l : List (Key × Option Blk)} {k : Key} {M M' : Key → Option Blk} (h : M k = M' k) : l.foldl (fun M p => updK M p.1 p.2) M k = l.foldl (fun M p => updK M p.1 p.2) M' k := by
 by_cases hk : ∃ p ∈ l, p.1 = k
 ·exact yr4 hk _ _
 ·have hn : ∀ q ∈ l, q.1 ≠ k := fun q hq e => hk ⟨q, hq, e⟩
  rw [ycM hn, ycM hn, h]
theorem yg5 (c : Nat → Nat) : cntB [] c = c := by funext s; simp [cntB]
theorem yr7 (s : Nat) (c : Nat → Nat) : cntB [s] c = upd c s (c s + 1) := by
 funext t
 simp only [cntB, upd, List.mem_singleton]
 split
 ·rename_i e; rw [e]
 ·rfl
def yxL (e : REff) (d : Option Nat) (f : REff) (c : Option Nat) : Prop := (∀ t, d = some t → c ≠ some t) ∧ (∀ p ∈ e.mem, ∀ q ∈ f.mem, p.1 ≠ q.1) ∧ (∀ s ∈ e.bump, s ∉ f.bump) ∧ (e.H = none ∨ f.H = none)
theorem St.ext4 {S T : St} (h1 : ∀ t, S.fr t = T.fr t) (h2 : ∀ k, S.M k = T.M k) (h3 : ∀ s, S.cnt s = T.cnt s) (h4 : S.nx = T.nx) : S = T := by
 cases S; cases T
 simp only [St.mk.injEq]
 exact ⟨funext h1, funext h2, funext h3, h4⟩
theorem yrQ (e : REff) (d : Option Nat) (S : St) (t : Nat) : (e.app d S).fr t = if d = some t then e.v else S.fr t := by
 unfold REff.app REff.mst
 cases d with
 | none => simp [St.put]
 | some q =>
   simp only [St.put, upd, Option.some.injEq]
   by_cases h : t = q
   ·subst h; simp
   ·have h' : ¬ q = t := fun e => h e.symm
    simp [h, h']
theorem yq7 (e : REff) (d : Option Nat) (S : St) : (e.app d S).M = e.memM S.M := by unfold REff.app REff.mst; cases d <;> rfl
theorem ynY (e : REff) (d : Option Nat) (S : St) : (e.app d S).cnt = e.cntF S.cnt := by unfold REff.app REff.mst; cases d <;> rfl
theorem yrt (e : REff) (d : Option Nat) (S : St) : (e.app d S).nx = match e.H with | some (_, n) => n | none => S.nx := by unfold REff.app REff.mst; cases d <;> rfl
theorem yi0 (e : REff) (M : Key → Option Blk) (d c : Nat) : e.memM M (.l d c) = e.ml.foldl (fun M p => updK M p.1 p.2) M (.l d c) := by
 unfold REff.memM
 cases e.H <;> rfl
theorem yhh (e : REff) (M : Key → Option Blk) (o : Nat) : e.memM M (.h o) = match e.H with | some (H, _) => H o | none => M (.h o) := by
 unfold REff.memM
 cases hH : e.H with
 | none => exact ycM (ml_h e o) M
 | some p => rfl
theorem yuZ {e f : REff} {d c : Option Nat} (h : yxL e d f c) (S : St) : e.app d (f.app c S) = f.app c (e.app d S) := by
 obtain ⟨h1, h2, h3, h4⟩ := h
 refine St.ext4 ?_ ?_ ?_ ?_
 ·intro t
  simp only [yrQ]
  by_cases e1 : d = some t
  ·have : c ≠ some t := h1 t e1
   simp [e1, this]
  ·simp [e1]
 ·intro k
  simp only [yq7]
  cases k with
  | h o =>
    simp only [yhh]
    rcases h4 with h4 | h4 <;> simp [h4]
  | l a b =>
    simp only [yi0]
    by_cases hk : ∃ p ∈ e.ml, p.1 = .l a b
    ·have hn : ∀ q ∈ f.ml, q.1 ≠ .l a b := by
      intro q hq e'
      obtain ⟨p, hp, hpk⟩ := hk
      obtain ⟨p', hp', e1⟩ := yt2 hp
      obtain ⟨q', hq', e2⟩ := yt2 hq
      refine h2 p' hp' q' hq' ?_
      rw [e1] at hpk; rw [e2] at e'
      injection hpk with x1 x2; injection e' with y1 y2
      exact Prod.ext (x1.trans y1.symm) (x2.trans y2.symm)
     rw [ycM hn, yi0]
     exact yr4 hk _ _
    ·have hn : ∀ q ∈ e.ml, q.1 ≠ .l a b := fun q hq e => hk ⟨q, hq, e⟩
     rw [ycM hn, yi0]
     refine yro ?_
     rw [yi0, ycM hn]
 ·intro s
  simp only [ynY, REff.cntF, cntB]
  by_cases q1 : s ∈ e.bump
  ·have := h3 s q1; simp [q1, this]
  ·simp [q1]
 ·simp only [yrt]
  rcases h4 with h4 | h4 <;> simp [h4]
structure Reg where
 n : Nat
 eff : Nat → REff
 dst : Nat → Option Nat
 rs : Nat → List Nat
 rk : Nat → List Key
 rh : Nat → Bool
 anc : Nat → List Nat
def Reg.go (R : Reg) (D : Nat → Bool) : List Nat → St → St
 | [], S => S
 | i :: l, S => R.go D l (if D i then (R.eff i).app (R.dst i) S else S)
def Reg.st (R : Reg) (D : Nat → Bool) (S : St) : St := R.go D (List.range R.n) S
theorem Reg.go_append (R : Reg) (D : Nat → Bool) (l m : List Nat) (S : St) : R.go D (l ++ m) S = R.go D m (R.go D l S) := by
 induction l generalizing S with
 | nil => rfl
 | cons i l ih => exact ih _
theorem Reg.go_congr (R : Reg) {D D' : Nat → Bool} {l : List Nat} (h : ∀ i ∈ l, D i = D' i) (S : St) : R.go D l S = R.go D' l S := by
 induction l generalizing S with
 | nil => rfl
 | cons i l ih =>
   simp only [Reg.go]
   rw [h i (by simp), ih (fun j hj => h j (List.mem_cons_of_mem _ hj))]
theorem Reg.go_last (R : Reg) {D : Nat → Bool} {e : REff} {d : Option Nat} {l : List Nat} (h : ∀ j ∈ l, D j = true → yxL e d (R.eff j) (R.dst j)) (S : St) : R.go D l (e.app d S) = e.app d (R.go D l S) := by
 induction l generalizing S with
 | nil => rfl
 | cons i l ih =>
   simp only [Reg.go]
   cases hD : D i with
   | false => simp only [Bool.false_eq_true, if_false]; exact ih (fun j hj => h j (List.mem_cons_of_mem _ hj)) S
   | true =>
     simp only [if_true]
     rw [← yuZ (h i (by simp) hD) S]
     exact ih (fun j hj => h j (List.mem_cons_of_mem _ hj)) _
def Reg.free (R : Reg) (i j : Nat) : Prop := i ≠ j ∧ j ∉ R.anc i ∧ i ∉ R.anc j
structure Reg.Ok (R : Reg) : Prop where
 apart : ∀ i j, i < R.n → j < R.n → R.free i j → yxL (R.eff i) (R.dst i) (R.eff j) (R.dst j)
 slots : ∀ i j, i < R.n → j < R.n → R.free i j → ∀ t, R.dst j = some t → t ∉ R.rs i
 keys : ∀ i j, i < R.n → j < R.n → R.free i j → ∀ p ∈ (R.eff j).mem, .l p.1.1 p.1.2 ∉ R.rk i
 heap : ∀ i j, i < R.n → j < R.n → R.free i j → (R.eff j).H = none ∨ R.rh i = false
 rkh : ∀ i, i < R.n → R.rh i = false → ∀ o, .h o ∉ R.rk i
 anc : ∀ i, ∀ x ∈ R.anc i, x < i
structure yuc (rs : List Nat) (rk : List Key) (rh : Bool) (b : List Nat) (S T : St) : Prop where
 fr : ∀ t ∈ rs, S.fr t = T.fr t
 M : ∀ k ∈ rk, S.M k = T.M k
 cnt : ∀ s ∈ b, S.cnt s = T.cnt s
 hp : rh = true → (∀ o, S.M (.h o) = T.M (.h o)) ∧ S.nx = T.nx
theorem Reg.agree (R : Reg) (hO : R.Ok) {i : Nat} (hi : i < R.n) {D D' : Nat → Bool} {l : List Nat} (hl : ∀ j ∈ l, j < R.n) (h : ∀ j ∈ l, D j ≠ D' j → R.free i j) {S T : St} (hA : yuc (R.rs i) (R.rk i) (R.rh i) (R.eff i).bump S T) : yuc (R.rs i) (R.rk i) (R.rh i) (R.eff i).bump (R.go D l S) (R.go D' l T) := by
 induction l generalizing S T with
 | nil => exact hA
 | cons j l ih =>
   simp only [Reg.go]
   refine ih (fun q hq => hl q (List.mem_cons_of_mem _ hq)) (fun q hq => h q (List.mem_cons_of_mem _ hq)) ?_
   have hj := hl j (by simp)
   have both : yuc (R.rs i) (R.rk i) (R.rh i) (R.eff i).bump ((R.eff j).app (R.dst j) S) ((R.eff j).app (R.dst j) T) := by
    refine ⟨fun t ht => ?_, fun k hk => ?_, fun s hs => ?_, fun hh => ⟨fun o => ?_, ?_⟩⟩
    ·rw [yrQ, yrQ, hA.fr t ht]
    ·rw [yq7, yq7]
     cases k with
     | l a b => rw [yi0, yi0]; exact yro (hA.M _ hk)
     | h o => rw [yhh, yhh, hA.M _ hk]
    ·rw [ynY, ynY]; unfold REff.cntF cntB
     rw [hA.cnt s hs]
    ·rw [yq7, yq7, yhh, yhh, (hA.hp hh).1 o]
    ·rw [yrt, yrt, (hA.hp hh).2]
   have oneF : R.free i j → ∀ S, (∀ t ∈ R.rs i, ((R.eff j).app (R.dst j) S).fr t = S.fr t) ∧ (∀ k ∈ R.rk i, ((R.eff j).app (R.dst j) S).M k = S.M k) ∧ (∀ s ∈ (R.eff i).bump, ((R.eff j).app (R.dst j) S).cnt s = S.cnt s) ∧ (R.rh i = true → (∀ o, ((R.eff j).app (R.dst j) S).M (.h o) = S.M (.h o)) ∧ ((R.eff j).app (R.dst j) S).nx = S.nx) := by
    intro hf S
    have hH : R.rh i = true → (R.eff j).H = none := fun h => (hO.heap i j hi hj hf).resolve_right (by rw [h]; simp)
    refine ⟨fun t ht => ?_, fun k hk => ?_, fun s hs => ?_, fun hh => ⟨fun o => ?_, ?_⟩⟩
    ·rw [yrQ, if_neg (fun e => hO.slots i j hi hj hf t e ht)]
    ·rw [yq7]
     cases k with
     | l a b =>
       rw [yi0]
       refine ycM (fun p hp e => ?_) _
       obtain ⟨q, hq, e1⟩ := yt2 hp
       exact hO.keys i j hi hj hf q hq (by rw [← e1, e]; exact hk)
     | h o =>
       have : R.rh i = true := by
        cases h : R.rh i with
        | true => rfl
        | false => exact absurd hk (hO.rkh i hi h o)
       rw [yhh, hH this]
    ·rw [ynY]; unfold REff.cntF cntB
     rw [if_neg ((hO.apart i j hi hj hf).2.2.1 s hs)]
    ·rw [yq7, yhh, hH hh]
    ·rw [yrt, hH hh]
   cases hD : D j <;> cases hD' : D' j
   ·simp only [Bool.false_eq_true, if_false]; exact hA
   ·have hf := h j (by simp) (by rw [hD, hD']; simp)
    obtain ⟨a1, a2, a3, a4⟩ := oneF hf T
    simp only [Bool.false_eq_true, if_false, if_true]
    exact ⟨fun t ht => (hA.fr t ht).trans (a1 t ht).symm, fun k hk => (hA.M k hk).trans (a2 k hk).symm, fun s hs => (hA.cnt s hs).trans (a3 s hs).symm, fun hh => ⟨fun o => ((hA.hp hh).1 o).trans ((a4 hh).1 o).symm, (hA.hp hh).2.trans (a4 hh).2.symm⟩⟩
   ·have hf := h j (by simp) (by rw [hD, hD']; simp)
    obtain ⟨a1, a2, a3, a4⟩ := oneF hf S
    simp only [Bool.false_eq_true, if_false, if_true]
    exact ⟨fun t ht => (a1 t ht).trans (hA.fr t ht), fun k hk => (a2 k hk).trans (hA.M k hk), fun s hs => (a3 s hs).trans (hA.cnt s hs), fun hh => ⟨fun o => ((a4 hh).1 o).trans ((hA.hp hh).1 o), (a4 hh).2.trans (hA.hp hh).2⟩⟩
   ·simp only [if_true]; exact both
theorem Reg.st_succ (R : Reg) (hO : R.Ok) {D : Nat → Bool} {i : Nat} (hi : i < R.n) (hDi : D i = false) (hup : ∀ j, j < R.n → D j = true → i ∉ R.anc j) (S : St) : R.st (RG.upd D i) S = (R.eff i).app (R.dst i) (R.st D S) := by
 unfold Reg.st
 have hsplit : List.range R.n = List.range i ++ (i :: List.range' (i + 1) (R.n - i - 1)) := by
  have e1 : R.n = i + ((R.n - i - 1) + 1) := by omega
  rw [← List.range'_succ, List.range_eq_range', List.range_eq_range']
  have := List.range'_append_1 (s := 0) (m := i) (n := R.n - i - 1 + 1)
  rw [Nat.zero_add] at this
  rw [this, ← e1]
 have hlt : ∀ j ∈ List.range' (i + 1) (R.n - i - 1), i < j ∧ j < R.n := by
  intro j hj
  rw [List.mem_range'_1] at hj
  omega
 rw [hsplit, Reg.go_append, Reg.go_append]
 simp only [Reg.go]
 have hi1 : RG.upd D i i = true := by simp [RG.upd]
 rw [hi1, hDi]
 simp only [if_true, Bool.false_eq_true, if_false]
 have hne : ∀ j, j ≠ i → RG.upd D i j = D j := by
  intro j hj
  have : (j == i) = false := by simpa using hj
  simp [RG.upd, this]
 rw [R.go_congr (D := RG.upd D i) (D' := D) (l := List.range i) (fun j hj => hne j (by have := List.mem_range.1 hj; omega)),
  R.go_congr (D := RG.upd D i) (D' := D) (l := List.range' (i + 1) (R.n - i - 1)) (fun j hj => hne j (by have := hlt j hj; omega))]
 refine R.go_last (fun j hj hDj => ?_) _
 obtain ⟨h1, h2⟩ := hlt j hj
 refine hO.apart i j hi h2 ⟨by omega, fun hm => ?_, hup j h2 hDj⟩
 have := hO.anc i j hm
 omega
def key1 : AV → List Key
 | .pt k _ => [k]
 | .gs k _ => [k]
 | _ => []
def yba : AV → List Key
 | .pt k _ => [k]
 | .gs k _ => [k]
 | .agg cs => cs.flatMap key1
 | _ => []
theorem ysj {l l' : Key → Bool} {e e' : AOpd → AV} (u : AOp) (he : ∀ x ∈ opds u, e' x = e x) (hl : ∀ x ∈ opds u, ∀ k ∈ yba (e x), l' k = l k) : pval l' e' u = pval l e u := by
 have hb : ∀ {d : Int} {x : Option AOpd}, (∀ y ∈ x.toList, e' y = e y) → bnd e' d x = bnd e d x := by
  intro d x h
  cases x with
  | none => rfl
  | some x => simp only [bnd]; rw [h x (by simp)]
 cases u <;> simp only [opds, List.mem_cons, List.not_mem_nil, or_false, forall_eq_or_imp, forall_eq, List.mem_append] at he hl <;> simp only [pval]
 case mv x => rw [he]
 case pick c x y => rw [he.1, he.2.1, he.2.2]
 case bld z ps =>
  have : ps.map (fun p => (p.1, p.2.1, e' p.2.2)) = ps.map (fun p => (p.1, p.2.1, e p.2.2)) := by
   refine List.map_congr_left fun p hp => ?_
   rw [he _ (List.mem_map.2 ⟨p, hp, rfl⟩)]
  rw [this]
 case nck x =>
  rw [he]
  cases hx : e x with
  | pt k o => simp only [hl k (by rw [hx]; simp [yba])]
  | fn f a b => cases f <;> rfl
  | _ => rfl
 case bin o x y => rw [he.1, he.2]
 case eq g k x y =>
  rw [he.1, he.2]
  congr 1
  unfold eqP
  split
  ·cases hx : e x <;> cases hy : e y <;> simp_all [yba]
  ·rfl
  ·rfl
 case eqs g k x y => rw [he.1, he.2]
 case un o x => rw [he]
 case cvi k x => rw [he]
 case cvs x => rw [he]
 case sls x lo hi =>
  have h1 : ∀ d, bnd e' d lo = bnd e d lo := fun d => hb fun y hy => he.2 y (.inl hy)
  have h2 : ∀ d, bnd e' d hi = bnd e d hi := fun d => hb fun y hy => he.2 y (.inr hy)
  simp only [he.1, h1, h2]
 case sll z x lo hi =>
  have h1 : ∀ d, bnd e' d lo = bnd e d lo := fun d => hb fun y hy => he.2 y (.inl hy)
  have h2 : ∀ d, bnd e' d hi = bnd e d hi := fun d => hb fun y hy => he.2 y (.inr hy)
  simp only [he.1, h1, h2]
 case fad o x => rw [he]; cases hx : e x <;> simp_all [yba]
 case fld g o z x => rw [he]
 case iad z x y =>
  rw [he.1, he.2]
  cases hx : e x with
  | gs k n => have q := hl.1 k (by rw [hx]; simp [yba]); cases e y <;> simp only [q]
  | _ => cases e y <;> rfl
 case iada n z x y =>
  rw [he.1, he.2]
  cases hx : e x with
  | pt k o => have q := hl.1 k (by rw [hx]; simp [yba]); cases e y <;> simp only [q]
  | _ => cases e y <;> rfl
 case idxs x y => rw [he.1, he.2]
 case idxa g n z x y => rw [he.1, he.2]
 case ext x i => rw [he]
 case lens x => rw [he]
 case len x => rw [he]; cases hx : e x <;> simp_all [yba]
 case mnx m xs => rw [List.map_congr_left he]
 case mkf f p c => rw [List.map_congr_left (fun x hx => he x (.inl hx)), List.map_congr_left (fun x hx => he x (.inr hx))]
def eff1 (v : AV) : REff := ⟨v, [], [], none⟩
def effP (v : Option AV) : Option REff := v.map eff1
def ye4 (hs : Nat → Bool) (d : Nat) (S : St) (kill : List (Nat × Nat)) (b : Blk) (v : Key → AV) : Option REff :=
 if hs d = false then some ⟨v (.l d (S.cnt d + 1)), kill.map (fun k => (k, none)) ++ [((d, S.cnt d + 1), some b)], [d], none⟩ else none
def yeB (hs : Nat → Bool) (d e sz m : Nat) (ys : List AV) (S : St) : AV → Option REff
 | .sl true _ _ => if m = 0 then some (eff1 (.sl true 0 [])) else ye4 hs d S [] ⟨e, sz, ys⟩ fun k => .gs k m
 | .gs (.l q c) n => (S.M (.l q c)).bind fun b => if b.e = e ∧ b.sz = sz ∧ b.cells.length = n * sz ∧ n ≤ 1000000000 then ye4 hs d S [(q, c)] ⟨e, sz, b.cells ++ ys⟩ fun k => .gs k (n + m) else none
 | _ => none
def yr8 (sz : Nat) (S : St) (x y : AV) : Option REff := match x with
 | .pt k off => (S.M k).bind fun b => if b.sz ≠ 0 ∧ y.cells.length = sz ∧ y.cells.all AV.one = true ∧ off + sz ≤ b.cells.length ∧ hOk k (b.cells.take off ++ y.cells ++ b.cells.drop (off + sz)) = true then
    (match k with
      | .l q c => some ⟨.un, [((q, c), some { b with cells := b.cells.take off ++ y.cells ++ b.cells.drop (off + sz) })], [], none⟩
      | .h o => some ⟨.un, [], [], some (fun q => if q = o then some { b with cells := b.cells.take off ++ y.cells ++ b.cells.drop (off + sz) } else S.hp q, S.nx)⟩) else none
 | _ => none
def ywG (g : Bool) (sz : Nat) (p : Option (List AV × Nat)) : Option REff :=
 p.bind fun p => if g then (if p.2 + sz ≤ p.1.length then some (eff1 (.agg ((p.1.drop p.2).take sz))) else none) else effP p.1[p.2]?
def ypu (sz : Nat) (S : St) (q c n : Nat) (lo hi : Option Int) : Option REff := match lo, hi with
 | some 0, some p => (S.M (.l q c)).bind fun b => if b.sz = sz ∧ 0 < sz ∧ 0 ≤ p ∧ p ≤ n ∧ n * sz ≤ b.cells.length then some ⟨.gs (.l q c) p.toNat, [((q, c), some { b with cells := b.cells.take (p.toNat * sz) })], [], none⟩ else none
 | _, _ => none
def ylG (sz : Nat) (S : St) (x : AV) (lo hi : Option Int) (v : Option AV) : Option REff := match x with
 | .gs (.l q c) n => ypu sz S q c n lo hi
 | .gs (.h _) _ => none
 | _ => effP v
def effA (hs : Nat → Bool) (u : AOp) (d : Option Nat) (S : St) : Option REff :=
 match u with
 | .box e sz x => if (ev S.fr x).cells.length = sz ∧ (ev S.fr x).cells.all AV.one = true ∧ 0 < sz then ye4 hs (site d) S [] ⟨e, sz, (ev S.fr x).cells⟩ fun k => .pt k 0 else none
 | .bsl e sz len z parts => if z.length = sz ∧ 0 < sz ∧ len * sz ≤ 16777216 then (yia (ycu z len) (parts.map fun p => (p.1, p.2.1, ev S.fr p.2.2))).bind fun cs => ye4 hs (site d) S [] ⟨e, sz, cs.map weak⟩ fun k => .gs k len else none
 | .ld g sz x => ywG g sz (tgt S (ev S.fr x))
 | .sto sz x y => yr8 sz S (ev S.fr x) (ev S.fr y)
 | .app e sz bytes x y => (srcA S (ev S.fr y)).bind fun p => if 0 < sz ∧ bytes ≤ 100000 ∧ p.2.length = p.1 * sz ∧ p.1 ≤ 400000000 then yeB hs (site d) e sz p.1 p.2 S (ev S.fr x) else none
 | .apps e x y => match ev S.fr y with
   | .st l => if l.length ≤ 400000000 then yeB hs (site d) e 1 l.length (encB l) S (ev S.fr x) else none
   | _ => none
 | .sll sz x lo hi => ylG sz S (ev S.fr x) (bnd (ev S.fr) 0 lo) (bnd (ev S.fr) ((match ev S.fr x with | .gs _ n => n | _ => 0 : Nat) : Int) hi) (pval (ya3 S) (ev S.fr) (.sll sz x lo hi))
 | .mks e sz bytes z l c => match ev S.fr l, ev S.fr c with
   | .it _ n, .it _ m => if n = m ∧ 0 ≤ n ∧ z.length = sz ∧ 0 < sz ∧ bytes * n.toNat ≤ 281474976710656 ∧ n ≤ 1000000000 then ye4 hs (site d) S [] ⟨e, sz, ycu z n.toNat⟩ fun k => .gs k n.toNat else none
   | _, _ => none
 | .b2s x => match ev S.fr x with
   | .sl _ n xs => if xs.length = n then effP ((yfc xs).map .st) else none
   | .gs k n => (S.M k).bind fun b => if b.sz ≠ 0 ∧ b.cells.length = n then effP ((yfc b.cells).map .st) else none
   | _ => none
 | .call .. | .calv .. | .s2b .. => none
 | u => effP (pval (ya3 S) (ev S.fr) u)
def St.kills (S : St) (ks : List (Nat × Nat)) : St := { S with M := ks.foldl (fun M k => updK M (.l k.1 k.2) none) S.M }
theorem ykv (S : St) (a b : List (Nat × Nat)) : S.kills (a ++ b) = (S.kills a).kills b := by simp [St.kills]
def pk1 (v : AV) (S : St) : List (Nat × Nat) :=
 match v with
 | .gs (.l d c) n => match S.M (.l d c) with
   | some b => if b.cells.length = n * b.sz ∧ b.sz ≠ 0 ∧ noLs b.cells = true then [(d, c)] else []
   | none => []
 | _ => []
def pks (l : List AV) (S : St) : List (Nat × Nat) :=
 match l with
 | [] => []
 | u :: r => pk1 u S ++ pks r (S.kills (pk1 u S))
def pkV (v : AV) (S : St) : List (Nat × Nat) :=
 if v.noL then [] else
 match v with
 | .agg cs => pks cs S
 | v => pk1 v S
def pkL (l : List AV) (S : St) : List (Nat × Nat) :=
 match l with
 | [] => []
 | u :: r => pkV u S ++ pkL r (S.kills (pkV u S))
theorem ysZ (v : AV) (S : St) : (pub1 v S).2 = S.kills (pk1 v S) := by
 cases v with
 | gs k n => cases k with
   | l d c =>
     simp only [pub1, pk1]
     cases hm : S.M (.l d c) with
     | none => rfl
     | some b => simp only; split <;> rfl
   | h o => rfl
 | _ => rfl
theorem yv8 : ∀ (l : List AV) (S : St), (pubs l S).2 = S.kills (pks l S)
 | [], _ => rfl
 | u :: r, S => by simp only [pubs, pks]; rw [yv8 r, ysZ, ykv]
theorem yvG (v : AV) (S : St) : (pubV v S).2 = S.kills (pkV v S) := by
 by_cases h : v.noL = true
 ·simp only [pubV, pkV, if_pos h]; rfl
 ·simp only [pubV, pkV, if_neg h]
  cases v with
  | agg cs => exact yv8 _ _
  | _ => exact ysZ _ _
theorem yud : ∀ (l : List AV) (S : St), (pubL l S).2 = S.kills (pkL l S)
 | [], _ => rfl
 | u :: r, S => by simp only [pubL, pkL]; rw [yud r, yvG, ykv]
def ydN (ks : List Key) (S T : St) : Prop := ∀ k ∈ ks, S.M k = T.M k
theorem ydN.kills {ks : List Key} {S T : St} (h : ydN ks S T) (l : List (Nat × Nat)) : ydN ks (S.kills l) (T.kills l) := by
 intro k hk
 unfold St.kills
 simp only
 induction l generalizing S T with
 | nil => exact h k hk
 | cons p l ih =>
   simp only [List.foldl_cons]
   refine ih (S := { S with M := updK S.M (.l p.1 p.2) none }) (T := { T with M := updK T.M (.l p.1 p.2) none }) (fun q hq => ?_)
   simp only [updK]
   split
   ·rfl
   ·exact h q hq
theorem ydN.left {a b : List Key} {S T : St} (h : ydN (a ++ b) S T) : ydN a S T := fun k hk => h k (List.mem_append_left _ hk)
theorem ydN.right {a b : List Key} {S T : St} (h : ydN (a ++ b) S T) : ydN b S T := fun k hk => h k (List.mem_append_right _ hk)
theorem ypI {v : AV} {S T : St} (h : ydN (key1 v) S T) : (pub1 v T).1 = (pub1 v S).1 ∧ pk1 v T = pk1 v S := by
 cases v with
 | gs k n => cases k with
   | l d c =>
     simp only [pub1, pk1]
     rw [h (.l d c) (by simp [key1])]
     cases hm : T.M (.l d c) with
     | none => exact ⟨rfl, rfl⟩
     | some b => simp only; split <;> simp
   | h o => exact ⟨rfl, rfl⟩
 | _ => exact ⟨rfl, rfl⟩
theorem ypd : ∀ {l : List AV} {S T : St}, ydN (l.flatMap key1) S T → (pubs l T).1 = (pubs l S).1 ∧ pks l T = pks l S
 | [], _, _, _ => ⟨rfl, rfl⟩
 | u :: r, S, T, h => by
   rw [List.flatMap_cons] at h
   obtain ⟨a, b⟩ := ypI h.left
   simp only [pubs, pks, ysZ, a, b]
   obtain ⟨c, d⟩ := ypd (h.right.kills (pk1 u S))
   rw [c, d]
   exact ⟨rfl, rfl⟩
theorem ytq {v : AV} {S T : St} (h : ydN (yba v) S T) : (pubV v T).1 = (pubV v S).1 ∧ pkV v T = pkV v S := by
 by_cases hn : v.noL = true
 ·simp only [pubV, pkV, if_pos hn]; exact ⟨trivial, trivial⟩
 ·simp only [pubV, pkV, if_neg hn]
  cases v with
  | agg cs =>
    obtain ⟨a, b⟩ := ypd (l := cs) h
    exact ⟨congrArg AV.agg a, b⟩
  | _ => exact ypI h
theorem ypp : ∀ {l : List AV} {S T : St}, ydN (l.flatMap yba) S T → (pubL l T).1 = (pubL l S).1 ∧ pkL l T = pkL l S
 | [], _, _, _ => ⟨rfl, rfl⟩
 | u :: r, S, T, h => by
   rw [List.flatMap_cons] at h
   obtain ⟨a, b⟩ := ytq h.left
   simp only [pubL, pkL, yvG, a, b]
   obtain ⟨c, d⟩ := ypp (h.right.kills (pkV u S))
   rw [c, d]
   exact ⟨rfl, rfl⟩
theorem ysq (S : St) : S.withH S.hp S.nx = S := by
 unfold St.withH St.hp
 cases S with
 | mk fr M cnt nx =>
   simp only [St.mk.injEq, true_and, and_true]
   funext k
   cases k <;> rfl
def yyG (P : Program) (f : Cal) (args : List AV) (S : St) (e : REff) : Prop :=
 ∃ (fn : FuncId) (inn : List (Nat × K2)) (out : List ((K2 × K2) × Blk)), f = .f fn ∧ ylV inn S.M ∧ e.H = none ∧ e.mem = inn.map (fun p => (p.2, none)) ++ out.map (fun p => (p.1.2, some p.2)) ∧
  ybf P fn (args.map (reA (finL inn))) (memL inn S.M) S.hp S.nx fun av S1 => yvh inn (out.map (·.1)) e.bump S.cnt S1 ∧ reA (fun d c => lkE (out.map (·.1)) (d, c)) av = e.v ∧ S1.hp = S.hp ∧ S1.nx = S.nx ∧ ∀ p ∈ out, (S1.M (.l p.1.1.1 p.1.1.2)).map (Blk.re fun d c => lkE (out.map (·.1)) (d, c)) = some p.2
def ylv (P : Program) (f : Cal) (args : List AV) (S : St) (e : REff) : Prop :=
 (e.bump = [] ∧ e.mem = (pkL args S).map (fun k => (k, none)) ∧ yrU P f args S fun v S' => v = e.v ∧ S' = e.mst S) ∨ (e = ⟨e.v, [], [], none⟩ ∧ yv3 P f args S fun v _ => v = e.v) ∨ yyG P f args S e
def yjP (hs : Nat → Bool) (CA : Program) (u : AOp) (d : Option Nat) (S : St) (e : REff) : Prop :=
 match u with
 | .call f args => ylv CA (.f f) (args.map (ev S.fr)) S e
 | .calv x args => match ev S.fr x with
   | .fn (.func f) first cap => ylv CA (.f f) (first ++ args.map (ev S.fr) ++ cap) S e
   | .yld o => ylv CA (.y o) (args.map (ev S.fr)) S e
   | _ => False
 | u => effA hs u d S = some e
theorem ydv (v : AV) (S : St) : (eff1 v).mst S = S := by
 unfold REff.mst eff1 REff.cntF
 cases S with
 | mk fr M cnt nx =>
   simp only [St.mk.injEq, true_and, and_true]
   refine ⟨?_, ?_⟩
   ·funext k
    cases k <;> rfl
   ·funext s; simp [cntB]
theorem yfQ {hs : Nat → Bool} {d : Nat} {S : St} {ks : List (Nat × Nat)} {b : Blk} {v : Key → AV} {e : REff} (h : ye4 hs d S ks b v = some e) : hs d = false ∧ e.v = v (ycq hs S d) ∧ e.mst S = (S.kills ks).new hs d b ∧ e.bump = [d] := by
 unfold ye4 at h
 split at h
 ·rename_i h0
  cases h
  refine ⟨h0, by simp [ycq, h0], ?_, rfl⟩
  unfold REff.mst REff.cntF REff.memM REff.ml St.new
  simp only [h0, Bool.false_eq_true, if_false, List.map_append, List.map_map, List.map_cons, List.map_nil, List.foldl_append, List.foldl_cons, List.foldl_nil, St.kills]
  have hc : cntB [d] S.cnt = upd S.cnt d (S.cnt d + 1) := by
   funext s
   simp only [cntB, upd, List.mem_singleton]
   split
   ·rename_i e; rw [e]
   ·rfl
  simp only [St.mk.injEq, true_and, and_true, hc]
  funext k
  have : ∀ (l : List (Nat × Nat)) (M : Key → Option Blk), List.foldl (fun M (p : Key × Option Blk) => updK M p.1 p.2) M (l.map ((fun p : (Nat × Nat) × Option Blk => (Key.l p.1.1 p.1.2, p.2)) ∘ fun k => (k, none))) = l.foldl (fun M k => updK M (.l k.1 k.2) none) M := by
   intro l
   induction l with
   | nil => intro M; rfl
   | cons a l ih => intro M; simp only [List.map_cons, List.foldl_cons]; exact ih _
  rw [this]
 ·cases h
variable {P : Program}
theorem ypH {hs : Nat → Bool} {e sz m d : Nat} {ys : List AV} {x : AV} {S : St} {f : REff} {K : AV → St → Prop} (h : yeB hs d e sz m ys S x = some f) (hK : K f.v (f.mst S)) : aapp hs d e sz m ys S K x := by
 unfold yeB at h
 split at h
 ·split at h
  ·rename_i h0; cases h; simp only [aapp, if_pos h0]; rw [ydv] at hK; exact hK
  ·rename_i h0
   obtain ⟨h1, h2, h3, _⟩ := yfQ h
   simp only [aapp, if_neg h0]
   rw [h2, h3] at hK
   exact ⟨by simp [ycq, h1, hOk], hK⟩
 ·rename_i q c n
  obtain ⟨b, hb, h⟩ := Option.bind_eq_some_iff.1 h
  split at h
  ·rename_i hc
   obtain ⟨h1, h2, h3, _⟩ := yfQ h
   simp only [aapp, hb, ygY]
   rw [h2, h3] at hK
   exact ⟨hc.1, hc.2.1, hc.2.2.1, hc.2.2.2, fun h => by simp [isH] at h, by simp [ycq, h1, hOk], hK⟩
  ·cases h
 ·cases h
theorem ymQ {l : List (Key × Option Blk)} {k : Key} {v : Option Blk} (h : (k, v) ∈ l) (hn : ∀ v', (k, v') ∈ l → v' = v) (M : Key → Option Blk) : l.foldl (fun M p => updK M p.1 p.2) M k = v := by
 induction l generalizing M with
 | nil => cases h
 | cons p l ih =>
   rw [List.foldl_cons]
   by_cases hk : ∃ q ∈ l, q.1 = k
   ·obtain ⟨q, hq, e⟩ := hk
    have hq' : (k, q.2) ∈ l := by rw [← e]; exact hq
    have := hn q.2 (List.mem_cons_of_mem _ hq')
    rw [this] at hq'
    exact ih hq' (fun v' hv => hn v' (List.mem_cons_of_mem _ hv)) _
   ·have hnk : ∀ q ∈ l, q.1 ≠ k := fun q hq e => hk ⟨q, hq, e⟩
    rw [ycM hnk]
    rcases List.mem_cons.1 h with e | e
    ·rw [← e]; simp [updK]
    ·exact absurd rfl (hnk _ e)
theorem ypg {S S1 : St} {inn : List (Nat × K2)} {out : List ((K2 × K2) × Blk)} {e : REff} (he : e.H = none) (hm : e.mem = inn.map (fun p => (p.2, none)) ++ out.map (fun p => (p.1.2, some p.2))) (hhp : S1.hp = S.hp) (hnx : S1.nx = S.nx) (hn2 : ((out.map (·.1)).map (·.2)).Nodup)
  (hb : ∀ p ∈ out, (S1.M (.l p.1.1.1 p.1.1.2)).map (Blk.re fun d c => lkE (out.map (·.1)) (d, c)) = some p.2) : S.backL inn (out.map (·.1)) e.bump S1 = e.mst S := by
 refine St.ext4 (fun _ => rfl) (fun k => ?_) (fun _ => rfl) (by show S1.nx = match e.H with | some (_, n) => n | none => S.nx; rw [he]; exact hnx)
 show _ = e.memM S.M k
 cases k with
 | h o => rw [yhh, he]; exact congrFun hhp o
 | l d c =>
   rw [yi0]
   unfold REff.ml
   rw [hm, List.map_append, List.foldl_append, List.map_map, List.map_map]
   show (match lkZ (out.map (·.1)) (d, c) with | some q => (S1.M (.l q.1 q.2)).map (Blk.re fun d c => lkE (out.map (fun p : (K2 × K2) × Blk => p.1)) (d, c)) | none => match lkZ inn (d, c) with | some _ => none | none => S.M (.l d c)) = _
   cases hq : lkZ (out.map (·.1)) (d, c) with
   | some q =>
     obtain ⟨p, hp, e1⟩ := List.mem_map.1 (yhu hq)
     have hbp := hb p hp
     have e2 : p.1.1 = q := by rw [e1]
     have e3 : p.1.2 = (d, c) := by rw [e1]
     rw [e2] at hbp
     simp only
     rw [hbp]
     refine (ymQ (List.mem_map.2 ⟨p, hp, by simp [e3]⟩) (fun v' hv => ?_) _).symm
     obtain ⟨p', hp', e4⟩ := List.mem_map.1 hv
     simp only [Function.comp_apply, Prod.mk.injEq, Key.l.injEq] at e4
     have e5 : p'.1.2 = (d, c) := Prod.ext e4.1.1 e4.1.2
     have e6 : lkZ (out.map (·.1)) (d, c) = some p'.1.1 := ypK hn2 (List.mem_map.2 ⟨p', hp', Prod.ext rfl e5⟩)
     rw [hq] at e6
     have hbp' := hb p' hp'
     rw [← Option.some.inj e6, hbp] at hbp'
     rw [← e4.2, ← hbp']
   | none =>
     simp only
     have hno : ∀ p ∈ out, p.1.2 ≠ (d, c) := fun p hp e => yrr hq p.1.1 (List.mem_map.2 ⟨p, hp, Prod.ext rfl e⟩)
     rw [ycM (fun p hp e => by
      obtain ⟨p', hp', rfl⟩ := List.mem_map.1 hp
      simp only [Function.comp_apply, Key.l.injEq] at e
      exact hno p' hp' (Prod.ext e.1 e.2))]
     cases hi : lkZ inn (d, c) with
     | some x =>
       refine (ymQ (v := none) (List.mem_map.2 ⟨(x, (d, c)), yhu hi, rfl⟩) (fun v' hv => ?_) _).symm
       obtain ⟨p', hp', e4⟩ := List.mem_map.1 hv
       simp only [Function.comp_apply, Prod.mk.injEq] at e4
       exact e4.2.symm
     | none =>
       refine (ycM (fun p hp e => ?_) _).symm
       obtain ⟨p', hp', rfl⟩ := List.mem_map.1 hp
       simp only [Function.comp_apply, Key.l.injEq] at e
       exact yrr hi p'.1 (by rw [show (p'.1, ((d, c) : K2)) = p' from Prod.ext rfl (Prod.ext e.1.symm e.2.symm)]; exact hp')
theorem ynr {f : Cal} {args : List AV} {S : St} {e : REff} {K : AV → St → Prop} (h : ylv P f args S e) (hK : K e.v (e.mst S)) : ygc P f args S K := by
 rcases h with ⟨_, _, hn, hc⟩ | ⟨he, f', v, h1, h2, h3, h4, h5⟩ | ⟨fn, inn, out, h1, h2, h3, h4, hc⟩
 ·refine .inl ⟨hn, hc.mono ?_⟩
  rintro av H' n' ⟨rfl, e2⟩
  rw [e2]; exact hK
 ·refine .inr (.inl ⟨f', v, h1, h2, h3, h4, ?_⟩)
  rw [he] at hK
  rw [h5]
  have : REff.mst ⟨e.v, [], [], none⟩ S = S := ydv e.v S
  rw [this] at hK
  exact hK
 ·refine .inr (.inr ⟨fn, inn, h1, h2, hc.mono ?_⟩)
  rintro av S1 ⟨ho, hv, e1, e2, hb⟩
  refine ⟨out.map (·.1), e.bump, ho, ?_⟩
  rw [hv, ypg h3 h4 e1 e2 ho.n2 hb]; exact hK
theorem yvE {hs : Nat → Bool} {u : AOp} {d : Option Nat} {S : St} {f : REff} {K : AV → St → Prop} (h : yjP hs P u d S f) (hK : K f.v (f.mst S)) : aop hs (ygc P) u d S K := by
 have pureK : ∀ {u : AOp}, effP (pval (ya3 S) (ev S.fr) u) = some f → wpv (pval (ya3 S) (ev S.fr) u) fun v => K v S := by
  intro u hp
  obtain ⟨v, hv, rfl⟩ := Option.map_eq_some_iff.1 hp
  rw [hv]; rw [ydv] at hK; exact hK
 cases u <;> simp only [yjP] at h
 case call f args => exact ynr h hK
 case calv x args =>
  split at h
  ·rename_i e; simp only [aop, e]; exact ynr h hK
  ·rename_i e; simp only [aop, e]; exact ynr h hK
  ·exact h.elim
 all_goals simp only [effA] at h
 all_goals first | (exact pureK h) | (cases h; done) | skip
 case box e sz x =>
  split at h
  ·rename_i hc
   obtain ⟨h1, h2, h3, _⟩ := yfQ h
   rw [h2, h3] at hK
   exact ⟨hc.1, hc.2.1, hc.2.2, by simp [ycq, h1, hOk], hK⟩
  ·cases h
 case bsl e sz len z ps =>
  split at h
  ·rename_i hc
   obtain ⟨cs, hcs, h⟩ := Option.bind_eq_some_iff.1 h
   obtain ⟨h1, h2, h3, _⟩ := yfQ h
   rw [h2, h3] at hK
   refine ⟨hc.1, hc.2.1, hc.2.2, ?_⟩
   rw [hcs]
   exact ⟨by simp [ycq, h1, hOk], hK⟩
  ·cases h
 case ld g sz x =>
  obtain ⟨p, hp, h⟩ := Option.bind_eq_some_iff.1 h
  simp only [aop, hp, ygY]
  split at h
  ·rename_i hg
   split at h
   ·rename_i hl
    cases h
    rw [ydv] at hK
    rw [if_pos hg, if_pos hl]; exact hK
   ·cases h
  ·rename_i hg
   obtain ⟨v, hv, rfl⟩ := Option.map_eq_some_iff.1 h
   rw [ydv] at hK
   rw [if_neg hg, hv]; exact hK
 case sto sz x y =>
  unfold yr8 at h
  split at h
  ·rename_i k off e1
   obtain ⟨b, hb, h⟩ := Option.bind_eq_some_iff.1 h
   split at h
   ·rename_i hc
    simp only [aop, e1, hb, ygY]
    refine ⟨hc.1, hc.2.1, hc.2.2.1, hc.2.2.2.1, hc.2.2.2.2, ?_⟩
    split at h
    ·cases h
     refine Eq.mp (congrArg (K .un) ?_) hK
     unfold REff.mst REff.memM REff.cntF REff.ml St.setM
     simp only [St.mk.injEq, yg5, true_and, and_true]
     funext q
     cases q <;> rfl
    ·cases h
     refine Eq.mp (congrArg (K .un) ?_) hK
     unfold REff.mst REff.memM REff.cntF REff.ml St.setM
     simp only [St.mk.injEq, yg5, true_and, and_true]
     funext q
     cases q with
     | l a b => simp [updK]
     | h o => simp [updK, St.hp]
   ·cases h
  ·cases h
 case sll sz x lo hi =>
  cases hx : ev S.fr x with
  | gs k n =>
    rw [hx] at h
    cases k with
    | h o => cases h
    | l q c =>
      simp only [ylG] at h
      unfold ypu at h
      split at h
      ·rename_i p e1 e2
       obtain ⟨b, hb, h⟩ := Option.bind_eq_some_iff.1 h
       split at h
       ·rename_i hc
        cases h
        simp only [aop, hx, cutR, e1, e2, hb, ygY]
        refine ⟨hc.1, hc.2.1, hc.2.2.1, hc.2.2.2.1, hc.2.2.2.2, rfl, ?_⟩
        refine Eq.mp (congrArg (K _) ?_) hK
        unfold REff.mst REff.memM REff.cntF REff.ml St.setM
        simp only [St.mk.injEq, yg5, true_and, and_true]
        funext q
        cases q <;> rfl
       ·cases h
      ·cases h
  | _ => rw [hx] at h; simp only [aop, hx]; exact pureK h
 case app e sz bytes x y =>
  obtain ⟨p, hp, h⟩ := Option.bind_eq_some_iff.1 h
  split at h
  ·rename_i hc
   refine ⟨hc.1, hc.2.1, ?_⟩
   rw [hp]
   exact ⟨hc.2.2.1, hc.2.2.2, ypH h hK⟩
  ·cases h
 case apps e x y =>
  split at h
  ·rename_i l e1
   split at h
   ·rename_i hc
    simp only [aop, e1]
    exact ⟨hc, ypH h hK⟩
   ·cases h
  ·cases h
 case mks e sz bytes z l c =>
  split at h
  ·rename_i n m e1 e2
   split at h
   ·rename_i hc
    obtain ⟨h1, h2, h3, _⟩ := yfQ h
    rw [h2, h3] at hK
    simp only [aop, e1, e2]
    exact ⟨hc.1, hc.2.1, hc.2.2.1, hc.2.2.2.1, hc.2.2.2.2.1, hc.2.2.2.2.2, by simp [ycq, h1, hOk], hK⟩
   ·cases h
  ·cases h
 case b2s x =>
  split at h
  ·rename_i e1
   split at h
   ·rename_i hc
    obtain ⟨v, hv, rfl⟩ := Option.map_eq_some_iff.1 h
    obtain ⟨l, hl, rfl⟩ := Option.map_eq_some_iff.1 hv
    rw [ydv] at hK
    simp only [aop, e1, hl, ygY]
    exact ⟨hc, hK⟩
   ·cases h
  ·rename_i e1
   obtain ⟨b, hb, h⟩ := Option.bind_eq_some_iff.1 h
   split at h
   ·rename_i hc
    obtain ⟨v, hv, rfl⟩ := Option.map_eq_some_iff.1 h
    obtain ⟨l, hl, rfl⟩ := Option.map_eq_some_iff.1 hv
    rw [ydv] at hK
    simp only [aop, e1, hb, hl, ygY]
    exact ⟨hc.1, hc.2, hK⟩
   ·cases h
  ·cases h
theorem yxh {S T : St} {v : AV} (h : ∀ k ∈ yba v, T.M k = S.M k) : tgt T v = tgt S v := by
 cases v with
 | pt k o => simp only [tgt]; rw [h k (by simp [yba])]
 | _ => rfl
theorem yvw {S T : St} {v : AV} (h : ∀ k ∈ yba v, T.M k = S.M k) : srcA T v = srcA S v := by
 cases v with
 | gs k n => simp only [srcA]; rw [h k (by simp [yba])]
 | _ => rfl
theorem ye9 {hs : Nat → Bool} {d : Nat} {S T : St} {ks : List (Nat × Nat)} {b : Blk} {v : Key → AV} {e : REff} (h : ye4 hs d S ks b v = some e) (hc : ∀ s ∈ e.bump, T.cnt s = S.cnt s) : ye4 hs d T ks b v = some e := by
 have h4 := (yfQ h).2.2.2
 unfold ye4 at h ⊢
 rw [hc d (by rw [h4]; simp)]; exact h
theorem ymL {hs : Nat → Bool} {d e sz m : Nat} {ys : List AV} {x : AV} {S T : St} {f : REff} (h : yeB hs d e sz m ys S x = some f) (hk : ∀ k ∈ yba x, T.M k = S.M k) (hc : ∀ s ∈ f.bump, T.cnt s = S.cnt s) : yeB hs d e sz m ys T x = some f := by
 cases x with
 | sl z n xs =>
   cases z with
   | false => cases h
   | true =>
     simp only [yeB] at h ⊢
     split at h
     ·rename_i h0; rw [if_pos h0]; exact h
     ·rename_i h0; rw [if_neg h0]; exact ye9 h hc
 | gs k n => cases k with
   | h o => cases h
   | l q c =>
     simp only [yeB] at h ⊢
     rw [hk (.l q c) (by simp [yba])]
     obtain ⟨b, hb, h⟩ := Option.bind_eq_some_iff.1 h
     rw [hb]
     simp only [Option.bind_some]
     split at h
     ·rename_i h0; rw [if_pos h0]; exact ye9 h hc
     ·cases h
 | _ => cases h
theorem yuL {hs : Nat → Bool} {u : AOp} {d : Option Nat} {S T : St} {e : REff} (h : effA hs u d S = some e) (he : ∀ x ∈ opds u, ev T.fr x = ev S.fr x) (hk : ∀ x ∈ opds u, ∀ k ∈ yba (ev S.fr x), T.M k = S.M k)
  (hc : ∀ s ∈ e.bump, T.cnt s = S.cnt s) (hh : (∃ x ∈ opds u, ∃ o, .h o ∈ yba (ev S.fr x)) → T.hp = S.hp ∧ T.nx = S.nx) : effA hs u d T = some e := by
 have pureK : ∀ {u : AOp}, (∀ x ∈ opds u, ev T.fr x = ev S.fr x) → (∀ x ∈ opds u, ∀ k ∈ yba (ev S.fr x), T.M k = S.M k) → effP (pval (ya3 S) (ev S.fr) u) = some e → effP (pval (ya3 T) (ev T.fr) u) = some e := by
  intro u h1 h2 h3
  rw [ysj u h1 (fun x hx k hk' => by unfold ya3; rw [h2 x hx k hk'])]
  exact h3
 cases u <;> simp only [effA] at h ⊢
 all_goals first | (exact pureK he hk h) | (cases h; done) | skip
 case box e sz x =>
  rw [he x (by simp [opds])]
  split at h
  ·rename_i h0; rw [if_pos h0]; exact ye9 h hc
  ·cases h
 case bsl e sz len z ps =>
  have : ps.map (fun p => (p.1, p.2.1, ev T.fr p.2.2)) = ps.map (fun p => (p.1, p.2.1, ev S.fr p.2.2)) := by
   refine List.map_congr_left fun p hp => ?_
   rw [he _ (List.mem_map.2 ⟨p, hp, rfl⟩)]
  rw [this]
  split at h
  ·rename_i h0
   rw [if_pos h0]
   obtain ⟨cs, hcs, h⟩ := Option.bind_eq_some_iff.1 h
   rw [hcs]
   exact ye9 h hc
  ·cases h
 case ld g sz x =>
  rw [he x (by simp [opds]), yxh (hk x (by simp [opds]))]; exact h
 case sto sz x y =>
  rw [he x (by simp [opds]), he y (by simp [opds])]
  have hkx := hk x (by simp [opds])
  have hhx : (∃ o, .h o ∈ yba (ev S.fr x)) → T.hp = S.hp ∧ T.nx = S.nx := fun ⟨o, ho⟩ => hh ⟨x, by simp [opds], o, ho⟩
  cases hx : ev S.fr x with
  | pt k off =>
    rw [hx] at h hkx hhx
    simp only [yr8] at h ⊢
    rw [hkx k (by simp [yba])]
    cases k with
    | l q c => exact h
    | h o =>
      obtain ⟨p1, p2⟩ := hhx ⟨o, by simp [yba]⟩
      rw [p1, p2]; exact h
  | _ => rw [hx] at h; cases h
 case sll sz x lo hi =>
  have hb : ∀ {d : Int} {y : Option AOpd}, (∀ z ∈ y.toList, z ∈ opds (.sll sz x lo hi)) → bnd (ev T.fr) d y = bnd (ev S.fr) d y := by
   intro d y hy
   cases y with
   | none => rfl
   | some y => simp only [bnd]; rw [he y (hy y (by simp))]
  rw [he x (by simp [opds]), hb (y := lo) (fun z hz => by simp [opds]; right; left; simpa using hz), hb (y := hi) (fun z hz => by simp [opds]; right; right; simpa using hz)]
  have hkx := hk x (by simp [opds])
  cases hx : ev S.fr x with
  | gs k n =>
    rw [hx] at h hkx
    cases k with
    | h o => cases h
    | l q c =>
      simp only [ylG, ypu] at h ⊢
      rw [hkx (.l q c) (by simp [yba])]
      exact h
  | _ => rw [hx] at h; exact pureK he hk h
 case app e sz bytes x y =>
  rw [he x (by simp [opds]), he y (by simp [opds]), yvw (hk y (by simp [opds]))]
  obtain ⟨p, hp, h⟩ := Option.bind_eq_some_iff.1 h
  rw [hp]
  simp only [Option.bind_some]
  split at h
  ·rename_i h0; rw [if_pos h0]; exact ymL h (hk x (by simp [opds])) hc
  ·cases h
 case apps e x y =>
  rw [he x (by simp [opds]), he y (by simp [opds])]
  cases hy : ev S.fr y with
  | st l =>
    rw [hy] at h
    simp only at h ⊢
    split at h
    ·rename_i h0; rw [if_pos h0]; exact ymL h (hk x (by simp [opds])) hc
    ·cases h
  | _ => rw [hy] at h; cases h
 case mks e sz bytes z l c =>
  rw [he l (by simp [opds]), he c (by simp [opds])]
  split at h
  ·split at h
   ·rename_i h0
    rw [if_pos h0]; exact ye9 h hc
   ·cases h
  ·cases h
 case b2s x =>
  rw [he x (by simp [opds])]
  have hkx := hk x (by simp [opds])
  split at h
  ·exact h
  ·rename_i k n e1
   rw [e1] at hkx
   rw [hkx k (by simp [yba])]; exact h
  ·cases h
theorem yrM {u : AV} {S T : St} (h : ydN (key1 u) S T) : vw1 T.M u = vw1 S.M u := by
 unfold vw1
 split
 ·rename_i d c n
  rw [h (.l d c) (by simp [key1])]
 ·rfl
theorem yvs {u : AV} {S T : St} (h : ydN (yba u) S T) : vwV T.M u = vwV S.M u := by
 cases u with
 | agg cs =>
   simp only [vwV, AV.agg.injEq]
   refine List.map_congr_left fun x hx => yrM fun k hk => h k ?_
   simp only [yba]
   exact List.mem_flatMap.2 ⟨x, hx, hk⟩
 | gs k n => exact yrM h
 | _ => rfl
theorem yry {l : List AV} {S T : St} (h : ydN (l.flatMap yba) S T) : l.map (vwV T.M) = l.map (vwV S.M) :=
 List.map_congr_left fun x hx => yvs fun k hk => h k (List.mem_flatMap.2 ⟨x, hx, hk⟩)
theorem yli {f : Cal} {args : List AV} {S T : St} {e : REff} (h : ylv P f args S e) (hk : ydN (args.flatMap yba) S T) (hm : ∀ p ∈ e.mem, T.M (.l p.1.1 p.1.2) = S.M (.l p.1.1 p.1.2)) (hcn : ∀ s ∈ e.bump, T.cnt s = S.cnt s) (hh : T.hp = S.hp ∧ T.nx = S.nx) : ylv P f args T e := by
 obtain ⟨a, b⟩ := ypp hk
 rcases h with ⟨h1, h2, hn, hc⟩ | ⟨he, f', v, g1, g2, g3, g4, g5⟩ | ⟨fn, inn, out, g1, g2, g3, g4, hc⟩
 case inr.inl => exact .inr (.inl ⟨he, f', v, g1, by rw [yry hk]; exact g2, by rw [yry hk]; exact g3, g4, g5⟩)
 case inr.inr =>
  have hi : ∀ p ∈ inn, T.M (.l p.2.1 p.2.2) = S.M (.l p.2.1 p.2.2) := fun p hp => hm (p.2, none) (by rw [g4]; exact List.mem_append_left _ (List.mem_map.2 ⟨p, hp, rfl⟩))
  have hml : memL inn T.M = memL inn S.M := by
   funext x
   unfold memL
   cases hx : lkE inn x with
   | none => rfl
   | some k => simp only [Option.bind_some]; rw [hi _ (yp0 hx)]
  refine .inr (.inr ⟨fn, inn, out, g1, ⟨g2.n1, g2.n2, fun p hp => by rw [hi p hp]; exact g2.ok p hp⟩, g3, g4, ?_⟩)
  rw [hml, hh.1, hh.2]
  refine hc.mono ?_
  rintro av S1 ⟨ho, hv, e1, e2, hb⟩
  refine ⟨⟨ho.n1, ho.n2, ho.live, fun p hp => ?_⟩, hv, e1, e2, hb⟩
  rcases ho.goes p hp with q | ⟨q1, q2⟩
  ·exact .inl q
  ·exact .inr ⟨q1, by rw [hcn _ q1]; exact q2⟩
 left
 have hkh : ∀ (S : St) (ks : List (Nat × Nat)), (S.kills ks).hp = S.hp := by
  intro S ks
  unfold St.kills St.hp
  funext o
  simp only
  induction ks generalizing S with
  | nil => rfl
  | cons k ks ih =>
    simp only [List.foldl_cons]
    refine (ih { S with M := updK S.M (.l k.1 k.2) none }).trans ?_
    simp [updK]
 refine ⟨h1, by rw [b]; exact h2, by rw [a]; exact hn, ?_⟩
 rw [yud] at hc ⊢
 rw [a, b, hkh, show (T.kills (pkL args S)).nx = T.nx from rfl, hh.1, hh.2]
 rw [hkh] at hc
 refine hc.mono ?_
 rintro av H' n' ⟨rfl, e2⟩
 refine ⟨rfl, ?_⟩
 have q1 : ∀ o, H' o = (e.mst S).M (.h o) := fun o => by rw [← e2]; rfl
 have q2 : n' = (e.mst S).nx := by rw [← e2]; rfl
 refine St.ext4 (fun _ => rfl) (fun k => ?_) (fun s => ?_) ?_
 ·cases k with
  | h o =>
    show H' o = e.memM T.M (.h o)
    rw [q1, yhh]
    show e.memM S.M (.h o) = _
    rw [yhh]
    have := congrFun hh.1 o
    simp only [St.hp] at this
    rw [this]
  | l d c =>
    show (T.kills (pkL args S)).M (.l d c) = e.memM T.M (.l d c)
    rw [yi0]
    unfold REff.ml St.kills
    rw [h2]
    simp only [List.map_map]
    generalize T.M = M
    generalize pkL args S = ks
    induction ks generalizing M with
    | nil => rfl
    | cons a ks ih => simp only [List.map_cons, List.foldl_cons]; exact ih _
 ·show T.cnt s = e.cntF T.cnt s
  unfold REff.cntF; rw [h1, yg5]
 ·show n' = match e.H with | some (_, n) => n | none => T.nx
  rw [q2]
  show (match e.H with | some (_, n) => n | none => S.nx) = _
  rw [hh.2]
structure Foot where
 rk : List Key
 wk : List (Nat × Nat)
 rh : Bool
 wh : Bool
 bs : List Nat
def ykw : AOp → Bool
 | .call .. | .calv .. => true
 | _ => false
def yuY (ks : List Key) : Bool := ks.any isH
def ysr : AV → List Key
 | .fn _ a c => a.flatMap yba ++ c.flatMap yba
 | _ => []
def rkOf (u : AOp) (S : St) : List Key := match u with
 | .calv x args => ysr (ev S.fr x) ++ args.flatMap fun y => yba (ev S.fr y)
 | .mv _ => []
 | u => (opds u).flatMap fun x => yba (ev S.fr x)
def ycv (u : AOp) (S : St) (e : REff) : Foot := ⟨rkOf u S ++ (match ykw u with | true => e.mem.map (fun p => .l p.1.1 p.1.2) | false => []), e.mem.map (·.1), ykw u || yuY (rkOf u S), e.H.isSome, e.bump⟩
theorem ywu {hs : Nat → Bool} {u : AOp} {d : Option Nat} {S T : St} {e : REff} (h : yjP hs P u d S e) (he : ∀ x ∈ opds u, ev T.fr x = ev S.fr x) (hk : ∀ k ∈ (ycv u S e).rk, T.M k = S.M k)
  (hc : ∀ s ∈ e.bump, T.cnt s = S.cnt s) (hh : (ykw u || yuY (rkOf u S)) = true → T.hp = S.hp ∧ T.nx = S.nx) : yjP hs P u d T e := by
 have gen : ∀ {u : AOp}, rkOf u S = ((opds u).flatMap fun x => yba (ev S.fr x)) → (∀ x ∈ opds u, ev T.fr x = ev S.fr x) → (∀ k ∈ rkOf u S, T.M k = S.M k) → ((ykw u || yuY (rkOf u S)) = true → T.hp = S.hp ∧ T.nx = S.nx) → effA hs u d S = some e → effA hs u d T = some e := by
  intro u hu h1 h2 h3 h4
  refine yuL h4 h1 (fun x hx k hk' => h2 k (by rw [hu]; exact List.mem_flatMap.2 ⟨x, hx, hk'⟩)) hc ?_
  rintro ⟨x, hx, o, ho⟩
  refine h3 ?_
  rw [Bool.or_eq_true]; right
  exact List.any_eq_true.2 ⟨.h o, by rw [hu]; exact List.mem_flatMap.2 ⟨x, hx, ho⟩, rfl⟩
 have hm : ykw u = true → ∀ p ∈ e.mem, T.M (.l p.1.1 p.1.2) = S.M (.l p.1.1 p.1.2) := by
  intro hc p hp
  refine hk _ (List.mem_append_right _ ?_)
  rw [hc]; exact List.mem_map.2 ⟨p, hp, rfl⟩
 replace hk : ∀ k ∈ rkOf u S, T.M k = S.M k := fun k hk' => hk k (List.mem_append_left _ hk')
 cases u <;> simp only [yjP] at h ⊢
 case call f args =>
  have : args.map (ev T.fr) = args.map (ev S.fr) := List.map_congr_left he
  rw [this]
  refine yli h (fun k hk' => (hk k ?_).symm) (hm rfl) hc (hh rfl)
  rw [List.flatMap_map] at hk'
  exact hk'
 case calv x args =>
  have e1 : ev T.fr x = ev S.fr x := he x (by simp [opds])
  have : args.map (ev T.fr) = args.map (ev S.fr) := List.map_congr_left fun y hy => he y (by simp [opds, hy])
  rw [e1, this]
  split at h
  ·rename_i f first cap e2
   refine yli h (fun k hk' => (hk k ?_).symm) (hm rfl) hc (hh rfl)
   simp only [rkOf, e2, ysr]
   simp only [List.flatMap_append, List.flatMap_map, List.mem_append] at hk' ⊢
   rcases hk' with (h | h) | h
   ·exact .inl (.inl h)
   ·exact .inr h
   ·exact .inl (.inr h)
  ·rename_i q e2
   refine yli h (fun k hk' => (hk k ?_).symm) (hm rfl) hc (hh rfl)
   simp only [rkOf, e2, ysr, List.nil_append]
   rw [List.flatMap_map] at hk'
   exact hk'
  ·exact h.elim
 case mv x =>
  have e1 : ev T.fr x = ev S.fr x := he x (by simp [opds])
  simp only [effA, pval, e1] at h ⊢
  exact h
 all_goals exact gen rfl he hk hh h
def allL {α : Type} (p : α → Prop) : List α → Prop
 | [] => True
 | x :: l => p x ∧ allL p l
theorem ybE {α : Type} {p : α → Prop} {l : List α} : allL p l ↔ ∀ x ∈ l, p x := by
 induction l with
 | nil => simp [allL]
 | cons x l ih => simp [allL, ih]
def wpo {α : Type} (o : Option α) (K : α → Prop) : Prop := match o with
 | some u => K u
 | none => True
def okF (a b : Foot) : Prop :=
 allL (fun p => allL (fun k => Key.l p.1 p.2 ≠ k) b.rk ∧ allL (fun q => p ≠ q) b.wk) a.wk ∧ allL (fun p => allL (fun k => Key.l p.1 p.2 ≠ k) a.rk) b.wk ∧ (a.wh = true → b.rh = false ∧ b.wh = false) ∧ (b.wh = true → a.rh = false) ∧ allL (fun s => allL (fun t => s ≠ t) b.bs) a.bs
def yjt (ft : Foot) (acc : List Foot) (fre : List Nat) : Prop := allL (fun j => wpo acc[j]? (okF ft)) fre
def yfL : Foot := ⟨[], [], false, false, []⟩
def eop (hs : Nat → Bool) (CA : Program) (u : AOp) (d : Option Nat) (S : St) (K : REff → Prop) : Prop :=
 match u with
 | .call f args => ∃ e, ylv CA (.f f) (args.map (ev S.fr)) S e ∧ K e
 | .calv x args => match ev S.fr x with
   | .fn (.func f) first cap => ∃ e, ylv CA (.f f) (first ++ args.map (ev S.fr) ++ cap) S e ∧ K e
   | .yld o => ∃ e, ylv CA (.y o) (args.map (ev S.fr)) S e ∧ K e
   | _ => False
 | u => wpv (effA hs u d S) K
theorem ywE {hs : Nat → Bool} {CA : Program} {u : AOp} {d : Option Nat} {S : St} {K : REff → Prop} (h : eop hs CA u d S K) : ∃ e, yjP hs CA u d S e ∧ K e := by
 cases u <;> simp only [eop] at h <;> simp only [yjP]
 case call f args => exact h
 case calv x args =>
  split at h
  ·rename_i e; exact h
  ·rename_i e; exact h
  ·exact h.elim
 all_goals exact ydk h
def runD (hs : Nat → Bool) (CA : Program) : List (AO × List Nat) → List Foot → (St → Prop) → St → Prop
 | [], _, Q, S => Q S
 | (o, fre) :: r, acc, Q, S => match o.guard with
   | none => eop hs CA o.op o.dst S fun e => yjt (ycv o.op S e) acc fre ∧ runD hs CA r (acc ++ [ycv o.op S e]) Q (e.app o.dst S)
   | some (g, b) => match S.fr g with
     | .bl c => if c = b then eop hs CA o.op o.dst S fun e => yjt (ycv o.op S e) acc fre ∧ runD hs CA r (acc ++ [ycv o.op S e]) Q (e.app o.dst S) else runD hs CA r (acc ++ [yfL]) Q (S.put o.dst (.tup []))
     | .tup [] => runD hs CA r (acc ++ [yfL]) Q (S.put o.dst (.tup []))
     | _ => False
inductive ypR (P : Program) (hs : Nat → Bool) (o : AO) (S : St) : REff → Foot → Prop
 | run (e : REff) (hg : ∀ g b, o.guard = some (g, b) → S.fr g = .bl b) (h : yjP hs P o.op o.dst S e) : ypR P hs o S e (ycv o.op S e)
 | skip (g : Nat) (b : Bool) (hg : o.guard = some (g, b)) (h : S.fr g = .tup [] ∨ ∃ c, S.fr g = .bl c ∧ c ≠ b) : ypR P hs o S (eff1 (.tup [])) yfL
inductive yq0 (P : Program) (hs : Nat → Bool) : List (AO × List Nat) → List Foot → St → List (REff × Foot) → St → Prop
 | nil (acc : List Foot) (S : St) : yq0 P hs [] acc S [] S
 | cons (o : AO) (fre : List Nat) (r : List (AO × List Nat)) (acc : List Foot) (S T : St) (e : REff) (ft : Foot) (E : List (REff × Foot)) (h1 : ypR P hs o S e ft) (h2 : yjt ft acc fre) (h3 : yq0 P hs r (acc ++ [ft]) (e.app o.dst S) E T) : yq0 P hs ((o, fre) :: r) acc S ((e, ft) :: E) T
theorem yzx (acc : List Foot) (fre : List Nat) : yjt yfL acc fre := by
 refine ybE.2 fun j _ => ?_
 cases acc[j]? with
 | none => trivial
 | some b => exact ⟨trivial, ybE.2 fun _ _ => trivial, fun h => (by cases h), fun _ => rfl, trivial⟩
theorem ysb (d : Option Nat) (S : St) : (eff1 (.tup [])).app d S = S.put d (.tup []) := by
 unfold REff.app; rw [ydv]; rfl
theorem yuV {hs : Nat → Bool} {Q : St → Prop} : ∀ (l : List (AO × List Nat)) (acc : List Foot) (S : St), runD hs P l acc Q S → ∃ E T, yq0 P hs l acc S E T ∧ Q T := by
 intro l
 induction l with
 | nil => intro acc S h; exact ⟨[], S, .nil acc S, h⟩
 | cons x l ih =>
   obtain ⟨o, fre⟩ := x
   intro acc S h
   have run : (∀ g b, o.guard = some (g, b) → S.fr g = .bl b) → (eop hs P o.op o.dst S fun e => yjt (ycv o.op S e) acc fre ∧ runD hs P l (acc ++ [ycv o.op S e]) Q (e.app o.dst S)) → ∃ E T, yq0 P hs ((o, fre) :: l) acc S E T ∧ Q T := by
    intro hg h
    obtain ⟨e, h1, h2, h3⟩ := ywE h
    obtain ⟨E, T, h4, h5⟩ := ih _ _ h3
    exact ⟨_, T, .cons _ _ _ _ _ _ _ _ _ (.run e hg h1) h2 h4, h5⟩
   have skip : ∀ g b, o.guard = some (g, b) → (S.fr g = .tup [] ∨ ∃ c, S.fr g = .bl c ∧ c ≠ b) → runD hs P l (acc ++ [yfL]) Q (S.put o.dst (.tup [])) → ∃ E T, yq0 P hs ((o, fre) :: l) acc S E T ∧ Q T := by
    intro g b hg hc h
    rw [← ysb] at h
    obtain ⟨E, T, h4, h5⟩ := ih _ _ h
    exact ⟨_, T, .cons _ _ _ _ _ _ _ _ _ (.skip g b hg hc) (yzx _ _) h4, h5⟩
   simp only [runD] at h
   split at h
   ·rename_i hg; exact run (fun g b e => by rw [hg] at e; cases e) h
   ·rename_i g b hg
    split at h
    ·rename_i c e1
     split at h
     ·rename_i hc; subst hc; exact run (fun g' b' e => by rw [hg] at e; cases e; exact e1) h
     ·rename_i hc; exact skip g b hg (.inr ⟨c, e1, hc⟩) h
    ·rename_i e1; exact skip g b hg (.inl e1) h
    ·exact h.elim
theorem yvi {hs : Nat → Bool} {l : List (AO × List Nat)} {acc : List Foot} {S T : St} {E : List (REff × Foot)} (h : yq0 P hs l acc S E T) (R : Reg) : ∀ k, (∀ j e, E[j]? = some e → R.eff (k + j) = e.1) → (∀ j o, l[j]? = some o → R.dst (k + j) = o.1.dst) →
  E.length = l.length ∧ T = R.go (fun _ => true) (List.range' k l.length) S ∧ ∀ i o fre, l[i]? = some (o, fre) → ∃ e ft, E[i]? = some (e, ft) ∧ ypR P hs o (R.go (fun _ => true) (List.range' k i) S) e ft ∧ yjt ft (acc ++ (E.take i).map (·.2)) fre := by
 induction h with
 | nil acc S => intro k h1 h2; exact ⟨rfl, rfl, fun i o fre hi => by simp at hi⟩
 | cons o fre r acc S T e ft E g1 g2 g3 ih =>
   intro k h1 h2
   have e0 : R.eff k = e := h1 0 (e, ft) rfl
   have d0 : R.dst k = o.dst := h2 0 (o, fre) rfl
   obtain ⟨i1, i2, i3⟩ := ih (k + 1) (fun j e hj => by have := h1 (j + 1) e (by simpa using hj); rw [← this]; congr 1; omega) (fun j o hj => by have := h2 (j + 1) o (by simpa using hj); rw [← this]; congr 1; omega)
   refine ⟨by simp [i1], ?_, ?_⟩
   ·rw [List.length_cons, List.range'_succ]
    simp only [Reg.go, if_true]
    rw [e0, d0]; exact i2
   ·intro i o' fre' hi
    cases i with
    | zero =>
      simp only [List.getElem?_cons_zero, Option.some.injEq, Prod.mk.injEq] at hi
      obtain ⟨rfl, rfl⟩ := hi
      exact ⟨e, ft, rfl, g1, by simpa using g2⟩
    | succ i =>
      obtain ⟨e', ft', q1, q2, q3⟩ := i3 i o' fre' (by simpa using hi)
      refine ⟨e', ft', by simpa using q1, ?_, by simpa using q3⟩
      rw [List.range'_succ]
      simp only [Reg.go, if_true]
      rw [e0, d0]; exact q2
theorem yuE (R : Reg) (l : List Nat) (S : St) : R.go (fun _ => false) l S = S := by
 induction l with
 | nil => rfl
 | cons i l ih => simpa [Reg.go] using ih
theorem Reg.st_lt (R : Reg) {i : Nat} (hi : i ≤ R.n) (S : St) : R.st (fun j => decide (j < i)) S = R.go (fun _ => true) (List.range' 0 i) S := by
 unfold Reg.st
 have hsplit : List.range R.n = List.range' 0 i ++ List.range' i (R.n - i) := by
  rw [List.range_eq_range']
  have := List.range'_append_1 (s := 0) (m := i) (n := R.n - i)
  rw [Nat.zero_add] at this
  rw [this]; congr 1; omega
 rw [hsplit, Reg.go_append]
 rw [R.go_congr (D := fun j => decide (j < i)) (D' := fun _ => true) (l := List.range' 0 i) (fun j hj => by have := (List.mem_range'_1.1 hj).2; simp; omega),
  R.go_congr (D := fun j => decide (j < i)) (D' := fun _ => false) (l := List.range' i (R.n - i)) (fun j hj => by have := (List.mem_range'_1.1 hj).1; simp; omega), yuE]
theorem ytN {hs : Nat → Bool} {CA : Program} {u : AOp} {d : Option Nat} {S : St} {e : REff} (hw : mayW u = false) (h : yjP hs CA u d S e) : ∃ v, e = eff1 v := by
 have pureK : ∀ {o : Option AV}, effP o = some e → ∃ v, e = eff1 v := by
  intro o hp
  obtain ⟨v, hv, rfl⟩ := Option.map_eq_some_iff.1 hp
  exact ⟨v, rfl⟩
 cases u <;> simp only [mayW, yrw, Bool.true_eq_false] at hw <;> simp only [yjP, effA] at h
 case ld g sz x =>
  obtain ⟨p, hp, h⟩ := Option.bind_eq_some_iff.1 h
  split at h
  ·split at h
   ·cases h; exact ⟨_, rfl⟩
   ·cases h
  ·exact pureK h
 case b2s x =>
  split at h
  ·split at h
   ·exact pureK h
   ·cases h
  ·obtain ⟨b, hb, h⟩ := Option.bind_eq_some_iff.1 h
   split at h
   ·exact pureK h
   ·cases h
  ·cases h
 all_goals first | (exact pureK h) | (cases h; done)
theorem ylr {hs : Nat → Bool} {d e sz m : Nat} {ys : List AV} {x : AV} {S : St} {f : REff} {s : Nat} (h : yeB hs d e sz m ys S x = some f) (hb : s ∈ f.bump) : s = d := by
 unfold yeB at h
 split at h
 ·split at h
  ·cases h; cases hb
  ·have := (yfQ h).2.2.2; rw [this] at hb; exact List.mem_singleton.1 hb
 ·obtain ⟨b, _, h⟩ := Option.bind_eq_some_iff.1 h
  split at h
  ·have := (yfQ h).2.2.2; rw [this] at hb; exact List.mem_singleton.1 hb
  ·cases h
 ·cases h
theorem yuP {hs : Nat → Bool} {u : AOp} {d : Option Nat} {S : St} {e : REff} {s : Nat} (h : effA hs u d S = some e) (hb : s ∈ e.bump) : yrw u = true ∧ s = site d := by
 have new : ∀ {S ks b v}, ye4 hs (site d) S ks b v = some e → s = site d := by
  intro S ks b v h
  have := (yfQ h).2.2.2; rw [this] at hb; exact List.mem_singleton.1 hb
 have pureK : ∀ {o : Option AV}, effP o = some e → False := by
  intro o hp
  obtain ⟨v, hv, rfl⟩ := Option.map_eq_some_iff.1 hp
  cases hb
 cases u <;> simp only [effA] at h
 case ld g sz x =>
  obtain ⟨p, hp, h⟩ := Option.bind_eq_some_iff.1 h
  split at h
  ·split at h
   ·cases h; cases hb
   ·cases h
  ·exact (pureK h).elim
 case sto sz x y =>
  unfold yr8 at h
  split at h
  ·obtain ⟨b, _, h⟩ := Option.bind_eq_some_iff.1 h
   split at h
   ·split at h <;> (cases h; cases hb)
   ·cases h
  ·cases h
 case sll sz x lo hi =>
  cases hx : ev S.fr x with
  | gs k n =>
    rw [hx] at h
    cases k with
    | h o => cases h
    | l q c =>
      simp only [ylG] at h
      unfold ypu at h
      split at h
      ·obtain ⟨b, _, h⟩ := Option.bind_eq_some_iff.1 h
       split at h
       ·cases h; cases hb
       ·cases h
      ·cases h
  | _ => rw [hx] at h; exact (pureK h).elim
 case box e sz x =>
  split at h
  ·exact ⟨rfl, new h⟩
  ·cases h
 case bsl e sz len z ps =>
  split at h
  ·obtain ⟨cs, _, h⟩ := Option.bind_eq_some_iff.1 h
   exact ⟨rfl, new h⟩
  ·cases h
 case app e sz bytes x y =>
  obtain ⟨p, _, h⟩ := Option.bind_eq_some_iff.1 h
  split at h
  ·exact ⟨rfl, ylr h hb⟩
  ·cases h
 case apps e x y =>
  split at h
  ·split at h
   ·exact ⟨rfl, ylr h hb⟩
   ·cases h
  ·cases h
 case mks e sz bytes z l c =>
  split at h
  ·split at h
   ·exact ⟨rfl, new h⟩
   ·cases h
  ·cases h
 case b2s x =>
  split at h
  ·split at h
   ·exact (pureK h).elim
   ·cases h
  ·obtain ⟨b, _, h⟩ := Option.bind_eq_some_iff.1 h
   split at h
   ·exact (pureK h).elim
   ·cases h
  ·cases h
 all_goals first | (exact (pureK h).elim) | (cases h; done)
theorem yqQ {P : Program} {ops : Array Oper} {Q : Exit → Act → World → Prop} {F : Fence} {nn : Nat} {md : Region.Mode} (Inv : (Nat → Bool) → Act → World → Prop)
  (hwf : ∀ i o, ops[i]? = some o → ∀ e ∈ o.after.toList, Region.binds md e = true → e.on < i)
  (hstep : ∀ D i o a w, ops[i]? = some o → D i = false → (∀ e ∈ o.after.toList, Region.binds md e = true → D e.on = true) → Inv D a w → wpOpIn F nn P ops Q i (Inv (RG.upd D i)) a w)
  (hend : ∀ D a w, (∀ i, i < ops.size → D i = true) → Inv D a w → Q .normal a w) :
  ∀ (fuel : Nat) (listed : Array Bool) (a : Act) (w : World), listed.size = ops.size → ((List.range ops.size).filter (fun i => !listed.getD i false)).length ≤ fuel →
   Inv (fun j => listed.getD j false) a w → wpAnyIn F nn P md ops Q fuel listed a w := by
 have hall : ∀ listed : Array Bool, listed.size = ops.size → Region.ready md ops listed = [] → ∀ i, i < ops.size → listed.getD i false = true := by
  intro listed hs hr i
  induction i using Nat.strongRecOn with
  | ind i ih =>
    intro hi
    cases hb : listed.getD i false with
    | true => rfl
    | false =>
      have hm : i ∈ Region.ready md ops listed := RG.mem_ready.2 ⟨hi, by simpa [Array.getD, hs, hi] using hb, fun o ho e he hbd => by
       have := hwf i o ho e he hbd
       exact ih e.on this (by omega)⟩
      rw [hr] at hm
      cases hm
 intro fuel
 induction fuel with
 | zero =>
   intro listed a w hs hc hI
   have hl : ∀ i, i < ops.size → listed.getD i false = true := by
    intro i hi
    cases hb : listed.getD i false with
    | true => rfl
    | false =>
      have hm : i ∈ (List.range ops.size).filter (fun i => !listed.getD i false) := List.mem_filter.2 ⟨List.mem_range.2 hi, by rw [hb]; rfl⟩
      have := List.length_pos_of_mem hm
      omega
   refine ⟨?_, hend _ a w hl hI⟩
   cases hr : Region.ready md ops listed with
   | nil => rfl
   | cons x xs =>
     have hm : x ∈ Region.ready md ops listed := by rw [hr]; simp
     obtain ⟨h1, h2, _⟩ := RG.mem_ready.1 hm
     have := hl x h1
     simp [Array.getD, hs, h1] at h2 this
     rw [this] at h2; cases h2
 | succ fuel ih =>
   intro listed a w hs hc hI
   refine ⟨fun hr => hend _ a w (hall listed hs hr) hI, fun i hi => ?_⟩
   obtain ⟨h1, h2, h3⟩ := RG.mem_ready.1 hi
   have ho := Array.getElem?_eq_getElem h1
   have h2' : listed.getD i false = false := by simpa [Array.getD, hs, h1] using h2
   refine wpOpIn_mono ?_ (hstep _ i _ a w ho h2' (fun e he hb => h3 _ ho e he hb) hI)
   intro a' w' hI'
   refine ih _ a' w' (by simp [hs]) ?_ ?_
   ·have hlt : ((List.range ops.size).filter (fun j => !(listed.setIfInBounds i true).getD j false)).length < ((List.range ops.size).filter (fun j => !listed.getD j false)).length := by
     have e1 : (List.range ops.size).filter (fun j => !(listed.setIfInBounds i true).getD j false) = ((List.range ops.size).filter (fun j => !listed.getD j false)).filter (fun j => !(j == i)) := by
      rw [List.filter_filter]
      refine List.filter_congr fun j hj => ?_
      simp only [List.mem_range] at hj
      by_cases e : j = i
      ·subst e; simp [Array.getD, hs, hj]
      ·have e' : i ≠ j := fun h => e h.symm
       simp [Array.getD, hs, hj, e, e']
     rw [e1]
     exact List.length_filter_lt_length_iff_exists.2 ⟨i, List.mem_filter.2 ⟨List.mem_range.2 h1, by rw [h2']; rfl⟩, by simp⟩
    omega
   ·have e : (fun j => (listed.setIfInBounds i true).getD j false) = RG.upd (fun j => listed.getD j false) i := by
     funext j
     unfold RG.upd
     by_cases e : j = i
     ·subst e; simp [Array.getD, hs, h1]
     ·have e' : i ≠ j := fun h => e h.symm
      by_cases hj : j < listed.size <;> simp [Array.getD, hj, e, e']
    rw [e]
    exact hI'
theorem ywY {a b : Foot} (h : okF a b) : (∀ p ∈ a.wk, ∀ k ∈ b.rk, Key.l p.1 p.2 ≠ k) ∧ (∀ p ∈ a.wk, ∀ q ∈ b.wk, p ≠ q) ∧ (∀ p ∈ b.wk, ∀ k ∈ a.rk, Key.l p.1 p.2 ≠ k) ∧ (a.wh = true → b.rh = false ∧ b.wh = false) ∧ (b.wh = true → a.rh = false) ∧ ∀ s ∈ a.bs, s ∉ b.bs := by
 obtain ⟨h1, h2, h3, h4, h5⟩ := h
 exact ⟨fun p hp => ybE.1 (ybE.1 h1 p hp).1, fun p hp => ybE.1 (ybE.1 h1 p hp).2, fun p hp => ybE.1 (ybE.1 h2 p hp), h3, h4, fun s hs ht => ybE.1 (ybE.1 h5 s hs) s ht rfl⟩
theorem yu9 {P : Program} {N : Nat} {ops : Array Oper} : ∀ {l : List Oper} {us : List AO}, ykj P N ops l = some us → us.length = l.length ∧ ∀ (i : Nat) (o : Oper), l[i]? = some o → ∃ u g, us[i]? = some (⟨o.dst, g, u⟩ : AO) ∧ trOp P N o = some u ∧ ygC ops N o.guard = some g := by
 intro l
 induction l with
 | nil => intro us h; simp only [ykj, Option.some.injEq] at h; subst h; exact ⟨rfl, fun i o hi => by simp at hi⟩
 | cons o l ih =>
   intro us h
   simp only [ykj] at h
   split at h <;> first | (cases h; done) | skip
   rename_i u g us' h1 h2 h3 h4
   cases h
   obtain ⟨a, b⟩ := ih h4
   refine ⟨by simp [a], fun i o' hi => ?_⟩
   cases i with
   | zero => simp at hi; subst hi; exact ⟨u, g, rfl, h1, h2⟩
   | succ i => exact b i o' (by simpa using hi)
section
variable {B : Base} {N : Nat} {S : St} {a : Act} {G : Gh} {hs : Nat → Bool}
theorem yvg {T : St} {o : AO} {rs : List Nat} (hrs : ∀ t ∈ ylS o, t ∈ rs) (h : ∀ t ∈ rs, S.fr t = T.fr t) : (∀ x ∈ opds o.op, ev T.fr x = ev S.fr x) ∧ ∀ g b, o.guard = some (g, b) → T.fr g = S.fr g := by
 refine ⟨fun x hx => ?_, fun g b hg => ?_⟩
 ·cases x with
  | t n => exact (h n (hrs n (List.mem_append_right _ (List.mem_flatMap.2 ⟨_, hx, by simp [yvY]⟩)))).symm
  | c v => rfl
 ·refine (h g (hrs g (List.mem_append_left _ ?_))).symm
  rw [hg]; simp
theorem ys9 {P : Program} {T : St} {o : AO} {e : REff} {ft : Foot} (h : ypR P hs o S e ft) (hA : yuc (ylS o) ft.rk ft.rh e.bump S T) : ypR P hs o T e ft := by
 obtain ⟨e1, e2⟩ := yvg (S := S) (T := T) (o := o) (fun t ht => ht) hA.fr
 cases h with
 | run e hg h =>
   have h' : yjP hs P o.op o.dst T e := ywu h e1 (fun k hk => (hA.M k hk).symm) (fun s hs => (hA.cnt s hs).symm) (fun hh => by
    obtain ⟨p1, p2⟩ := hA.hp hh
    exact ⟨funext fun o => (p1 o).symm, p2.symm⟩)
   have hf : ycv o.op T e = ycv o.op S e := by
    have : rkOf o.op T = rkOf o.op S := by
     have gen : ∀ u : AOp, (∀ x ∈ opds u, ev T.fr x = ev S.fr x) → ((opds u).flatMap fun x => yba (ev T.fr x)) = (opds u).flatMap fun x => yba (ev S.fr x) := by
      intro u hu
      simp only [← List.flatMap_map (ev T.fr) yba, ← List.flatMap_map (ev S.fr) yba]
      rw [List.map_congr_left hu]
     cases ho : o.op <;> rw [ho] at e1 <;> simp only [rkOf] <;> first | (exact gen _ e1) | skip
     rename_i x args
     rw [e1 x (by simp [opds])]
     congr 1
     simp only [← List.flatMap_map (ev T.fr) yba, ← List.flatMap_map (ev S.fr) yba]
     rw [List.map_congr_left fun y hy => e1 y (by simp [opds, hy])]
    unfold ycv; rw [this]
   rw [← hf]
   exact .run e (fun g b hg' => by rw [e2 g b hg']; exact hg g b hg') h'
 | skip g b hg h => exact .skip g b hg (by rw [e2 g b hg]; exact h)
theorem ywU {P : Program} [GB P B] {ro : Option Nat} {ops : Array Oper} {i : Nat} {o : Oper} {u : AOp} {g : Option (Nat × Bool)} {e : REff} {ft : Foot} {K : Act → World → Prop} {Q : Exit → Act → World → Prop} (h : Rel B N S a G) (ho : ops[i]? = some o) (hu : trOp P N o = some u) (hg : ygC ops N o.guard = some g)
  (hst : ypR P hs ⟨o.dst, g, u⟩ S e ft) (hK : ∀ a' G', Rel B N (e.app o.dst S) a' G' → K a' G'.w) : wpOpIn (FR ro) 0 P ops Q i K a G.w := by
 unfold wpOpIn
 simp only [ho]
 have hrun : yjP hs P u o.dst S e → o.wpIn (FR ro) 0 P a G.w K Q := fun hE => yt0 h hu (yvE (K := fun v S' => v = e.v ∧ S' = e.mst S) hE ⟨rfl, rfl⟩) fun av v S' G' ⟨h1, h2⟩ hR hv => by
  subst h1; subst h2
  exact hK _ G' (hR.put hv)
 cases hog : o.guard with
 | none =>
   rw [hog] at hg
   simp only [ygC, Option.some.injEq] at hg; subst hg
   rw [if_pos (by simp [Region.wanted, hog])]
   cases hst with
   | run e hg hE => exact hrun hE
   | skip g b hg h => cases hg
 | some jb =>
   obtain ⟨j, want⟩ := jb
   rw [hog] at hg
   simp only [ygC] at hg
   split at hg <;> first | (cases hg; done) | skip
   rename_i d hd
   split at hg <;> first | (cases hg; done) | skip
   rename_i hdN
   cases hg
   have hdt : d < a.tmps.size := by rw [h.tsize]; exact hdN
   have hslot := h.slot d a.tmps[d] (Array.getElem?_eq_getElem hdt)
   cases hst with
   | run e hg hE =>
     have e1 := hg d want rfl
     rw [e1] at hslot
     have hb : a.tmps[d]? = some (.bool want) := by rw [Array.getElem?_eq_getElem hdt, hslot.bl_inv]
     have hw : Region.wanted o (yielded ops a.tmps) = true := by simp [Region.wanted, hog, yielded, hd, hb]
     rw [if_pos hw]
     exact hrun hE
   | skip g b hg hc =>
     cases hg
     have hw : Region.wanted o (yielded ops a.tmps) = false := by
      rcases hc with e1 | ⟨c, e1, hne⟩
      ·rw [e1] at hslot
       obtain ⟨vs, q0, q1, _⟩ := hslot.tup_inv
       have hb : a.tmps[d]? = some (.tuple vs) := by rw [Array.getElem?_eq_getElem hdt, q0]
       simp [Region.wanted, hog, yielded, hd, hb]
      ·rw [e1] at hslot
       have hb : a.tmps[d]? = some (.bool c) := by rw [Array.getElem?_eq_getElem hdt, hslot.bl_inv]
       simp [Region.wanted, hog, yielded, hd, hb, hne]
     rw [if_neg (by rw [hw]; simp)]
     refine ⟨fun _ _ => trivial, hK _ G ?_⟩
     rw [ysb]
     exact h.put (.tup [] #[] rfl (fun j u x hu => by simp at hu))
theorem yxG {P : Program} [GB P B] {ro : Option Nat} {id : Nat} {ops : Array Oper} {l : List (AO × List Nat)} {Qn : St → Prop} {Q : Exit → Act → World → Prop} (ht : trD P N ops = some l) (hr : runD hs P l [] Qn S) (h : Rel B N S a G) (hend : ∀ S a G, Qn S → Rel B N S a G → Q .normal a G.w) : (Code.region id ops true).wpIn (FR ro) 0 P Q a G.w := by
 unfold trD at ht
 split at ht
 case h_2 => cases ht
 rename_i us hus
 simp only at ht
 split at ht
 case isFalse => cases ht
 rename_i hchk
 cases ht
 simp only [Bool.and_eq_true] at hchk
 obtain ⟨⟨⟨⟨hm, hwf⟩, hancC⟩, hpairs⟩, hal⟩ := hchk
 obtain ⟨hlen, hat⟩ := yu9 hus
 have hnn : us.length = ops.size := by rw [hlen]; simp
 generalize hanc : ancL ops.toList [] = anc at *
 generalize hfre : freL us anc = fre at *
 have hfl : fre.length = us.length := by rw [← hfre]; simp [freL]
 obtain ⟨E, T, hC, hQ⟩ := yuV _ _ _ hr
 let R : Reg := ⟨us.length, fun i => ((E[i]?).map (·.1)).getD (eff1 .un), fun i => (us[i]?).bind (·.dst), fun i => ((us[i]?).map ylS).getD [], fun i => ((E[i]?).map (·.2.rk)).getD [], fun i => ((E[i]?).map (·.2.rh)).getD false, yff anc⟩
 have hzl : (us.zip fre).length = us.length := by simp [hfl]
 have hz : ∀ (i : Nat) (o : AO) (f : List Nat), (us.zip fre)[i]? = some (o, f) ↔ us[i]? = some o ∧ fre[i]? = some f := by
  intro i o f
  rw [List.getElem?_zip_eq_some]
 obtain ⟨c1, c2, c3⟩ := yvi hC R 0 (fun j e hj => by show ((E[0 + j]?).map (·.1)).getD _ = _; rw [Nat.zero_add, hj]; rfl) (fun j o hj => by
  show (us[0 + j]?).bind (·.dst) = _
  obtain ⟨o1, o2⟩ := o
  rw [Nat.zero_add, ((hz j o1 o2).1 hj).1]; rfl)
 rw [hzl] at c1 c2
 have all : ∀ i, i < us.length → ∃ o f e ft, us[i]? = some o ∧ yff fre i = f ∧ E[i]? = some (e, ft) ∧ ypR P hs o (R.st (fun j => decide (j < i)) S) e ft ∧ yjt ft ((E.take i).map (·.2)) f := by
  intro i hi
  have h1 := List.getElem?_eq_getElem hi
  have h2 := List.getElem?_eq_getElem (show i < fre.length by omega)
  obtain ⟨e, ft, q1, q2, q3⟩ := c3 i us[i] fre[i] ((hz i _ _).2 ⟨h1, h2⟩)
  refine ⟨_, _, e, ft, h1, ?_, q1, ?_, q3⟩
  ·unfold yff; rw [h2]; rfl
  ·rw [R.st_lt (Nat.le_of_lt hi)]; exact q2
 have hwk : ∀ i, i < us.length → ∃ o e ft, us[i]? = some o ∧ E[i]? = some (e, ft) ∧ R.eff i = e ∧ R.dst i = o.dst ∧ R.rs i = ylS o ∧ R.rk i = ft.rk ∧ R.rh i = ft.rh ∧ ft.wk = e.mem.map (·.1) ∧ ft.wh = e.H.isSome ∧ ft.bs = e.bump ∧ (mayW o.op = false → ft.wk = [] ∧ ft.wh = false ∧ ft.bs = []) ∧ (ft.rh = false → ∀ o, .h o ∉ ft.rk) ∧ yjt ft ((E.take i).map (·.2)) (yff fre i) := by
  intro i hi
  obtain ⟨o, f, e, ft, q1, q2, q3, q4, q5⟩ := all i hi
  refine ⟨o, e, ft, q1, q3, ?_, ?_, ?_, ?_, ?_, ?_, ?_, ?_, ?_, ?_, by rw [q2]; exact q5⟩
  ·show ((E[i]?).map (·.1)).getD _ = _; rw [q3]; rfl
  ·show (us[i]?).bind (·.dst) = _; rw [q1]; rfl
  ·show ((us[i]?).map ylS).getD _ = _; rw [q1]; rfl
  ·show ((E[i]?).map (·.2.rk)).getD _ = _; rw [q3]; rfl
  ·show ((E[i]?).map (·.2.rh)).getD _ = _; rw [q3]; rfl
  ·cases q4 <;> rfl
  ·cases q4 <;> rfl
  ·cases q4 <;> rfl
  ·intro hw
   cases q4 with
   | run e hg hE => obtain ⟨v, rfl⟩ := ytN hw hE; exact ⟨rfl, rfl, rfl⟩
   | skip g b hg hc => exact ⟨rfl, rfl, rfl⟩
  ·intro hh o' ho'
   cases q4 with
   | run e hg hE =>
     simp only [ycv, Bool.or_eq_false_iff] at hh ho'
     rw [hh.1] at ho'
     have ho' : .h o' ∈ rkOf o.op (R.st (fun j => decide (j < i)) S) := by simpa using ho'
     have : yuY (rkOf o.op (R.st (fun j => decide (j < i)) S)) = true := List.any_eq_true.2 ⟨_, ho', rfl⟩
     rw [hh.2] at this; cases this
   | skip g b hg hc => cases ho'
 have pair : ∀ i j, i < us.length → j < i → j ∉ yff anc i → (∀ t, R.dst i = some t → R.dst j ≠ some t) ∧ (∀ t, R.dst j = some t → t ∉ R.rs i) ∧ (∀ t, R.dst i = some t → t ∉ R.rs j) ∧ (∀ p ∈ (R.eff i).mem, .l p.1.1 p.1.2 ∉ R.rk j) ∧ (∀ p ∈ (R.eff j).mem, .l p.1.1 p.1.2 ∉ R.rk i) ∧ (∀ p ∈ (R.eff i).mem, ∀ q ∈ (R.eff j).mem, p.1 ≠ q.1) ∧
   ((R.eff i).H = none ∨ (R.eff j).H = none) ∧ ((R.eff j).H = none ∨ R.rh i = false) ∧ ((R.eff i).H = none ∨ R.rh j = false) ∧ ∀ s ∈ (R.eff i).bump, s ∉ (R.eff j).bump := by
  intro i j hi hj hna
  obtain ⟨o, e, ft, q1, q2, q3, q4, q5, q6, q7, q8, q9, q9', q10, q11, q12⟩ := hwk i hi
  obtain ⟨o', e', ft', p1, p2, p3, p4, p5, p6, p7, p8, p9, p9', p10, p11, p12⟩ := hwk j (by omega)
  have hp := List.all_eq_true.1 (List.all_eq_true.1 hpairs i (List.mem_range.2 hi)) j (List.mem_range.2 hj)
  rw [q1, p1] at hp
  simp only [ywg, Bool.or_eq_true, Bool.and_eq_true, List.contains_iff_mem] at hp
  have hp := hp.resolve_left hna
  obtain ⟨⟨⟨d1, d2⟩, d3⟩, d4⟩ := hp
  have hF : okF ft ft' := by
   rcases d4 with d4 | d4
   ·have := ybE.1 q12 j d4
    rw [List.getElem?_map, List.getElem?_take_of_lt hj, p2] at this
    exact this
   ·simp only [Bool.not_eq_true'] at d4
    obtain ⟨a1, a2, a3⟩ := q10 d4.1
    obtain ⟨b1, b2, b3⟩ := p10 d4.2
    unfold okF
    rw [a1, a2, a3, b1, b2]
    exact ⟨trivial, trivial, fun h => (by cases h), fun h => (by cases h), trivial⟩
  obtain ⟨f1, f2, f3, f4, f5, f6⟩ := ywY hF
  have nm : ∀ {e : REff} {ft : Foot} {p : (Nat × Nat) × Option Blk}, ft.wk = e.mem.map (·.1) → p ∈ e.mem → p.1 ∈ ft.wk := fun h hp => by rw [h]; exact List.mem_map.2 ⟨_, hp, rfl⟩
  have hn : ∀ {e : REff} {ft : Foot}, ft.wh = e.H.isSome → e.H = none ∨ ft.wh = true := by
   intro e ft h
   cases hH : e.H with
   | none => exact .inl rfl
   | some x => right; rw [h, hH]; rfl
  refine ⟨?_, ?_, ?_, ?_, ?_, ?_, ?_, ?_, ?_, by rw [q3, p3, ← q9', ← p9']; exact f6⟩
  ·intro t ht1 ht2
   rw [q4] at ht1; rw [p4] at ht2
   rw [ht1, ht2] at d1
   simp [dNe] at d1
  ·intro t ht hm'
   rw [p4] at ht; rw [q5] at hm'
   rw [ht] at d2
   simp only [dNr, Bool.not_eq_true', List.contains_eq_mem, decide_eq_false_iff_not] at d2
   exact d2 hm'
  ·intro t ht hm'
   rw [q4] at ht; rw [p5] at hm'
   rw [ht] at d3
   simp only [dNr, Bool.not_eq_true', List.contains_eq_mem, decide_eq_false_iff_not] at d3
   exact d3 hm'
  ·intro p hp hk
   rw [q3] at hp; rw [p6] at hk
   exact f1 p.1 (nm q8 hp) _ hk rfl
  ·intro p hp hk
   rw [p3] at hp; rw [q6] at hk
   exact f3 p.1 (nm p8 hp) _ hk rfl
  ·intro p hp q hq
   rw [q3] at hp; rw [p3] at hq
   exact f2 p.1 (nm q8 hp) q.1 (nm p8 hq)
  ·rw [q3, p3]
   rcases hn q9 with h | h
   ·exact .inl h
   ·right
    have := (f4 h).2
    rcases hn p9 with h' | h'
    ·exact h'
    ·rw [this] at h'; cases h'
  ·rw [p3, q7]
   rcases hn p9 with h | h
   ·exact .inl h
   ·exact .inr (f5 h)
  ·rw [q3, p7]
   rcases hn q9 with h | h
   ·exact .inl h
   ·exact .inr (f4 h).1
 have hancs : ∀ i x, i < us.length → x ∈ yff anc i → x < i ∧ ∃ o e, ops[i]? = some o ∧ e ∈ o.after.toList ∧ Region.binds .any e = true ∧ (e.on = x ∨ x ∈ yff anc e.on) := by
  intro i x hi hx
  have h' := List.all_eq_true.1 (List.all_eq_true.1 hancC i (List.mem_range.2 (by omega))) x hx
  simp only [Bool.and_eq_true, decide_eq_true_eq] at h'
  refine ⟨h'.1, ?_⟩
  have h' := h'.2
  cases ho : ops[i]? with
  | none => rw [ho] at h'; cases h'
  | some o =>
    rw [ho] at h'
    simp only [Option.map_some, Option.getD_some, List.any_eq_true, Bool.and_eq_true, Bool.or_eq_true, beq_iff_eq, List.contains_iff_mem] at h'
    obtain ⟨e, he, hb, h⟩ := h'
    exact ⟨o, e, rfl, he, hb, h⟩
 have hO : R.Ok := by
  have tri : ∀ i j, i < us.length → j < us.length → R.free i j → (j < i ∧ j ∉ yff anc i) ∨ (i < j ∧ i ∉ yff anc j) := by
   rintro i j hi hj ⟨f1, f2, f3⟩
   rcases Nat.lt_or_ge j i with h | h
   ·exact .inl ⟨h, f2⟩
   ·exact .inr ⟨by omega, f3⟩
  refine ⟨fun i j hi hj hf => ?_, fun i j hi hj hf => ?_, fun i j hi hj hf => ?_, fun i j hi hj hf => ?_, fun i hi hh => ?_, fun i x hx => ?_⟩
  ·rcases tri i j hi hj hf with ⟨h1, h2⟩ | ⟨h1, h2⟩
   ·obtain ⟨a1, _, _, _, _, a6, a7, _, _, a10⟩ := pair i j hi h1 h2
    exact ⟨a1, a6, a10, a7⟩
   ·obtain ⟨a1, _, _, _, _, a6, a7, _, _, a10⟩ := pair j i hj h1 h2
    have a1' : ∀ t, R.dst i = some t → R.dst j ≠ some t := fun t h h' => a1 t h' h
    exact ⟨a1', fun p hp q hq e => a6 q hq p hp e.symm, fun s h1 h2 => a10 s h2 h1, a7.symm⟩
  ·rcases tri i j hi hj hf with ⟨h1, h2⟩ | ⟨h1, h2⟩
   ·exact (pair i j hi h1 h2).2.1
   ·exact (pair j i hj h1 h2).2.2.1
  ·rcases tri i j hi hj hf with ⟨h1, h2⟩ | ⟨h1, h2⟩
   ·exact (pair i j hi h1 h2).2.2.2.2.1
   ·exact (pair j i hj h1 h2).2.2.2.1
  ·rcases tri i j hi hj hf with ⟨h1, h2⟩ | ⟨h1, h2⟩
   ·exact (pair i j hi h1 h2).2.2.2.2.2.2.2.1
   ·exact (pair j i hj h1 h2).2.2.2.2.2.2.2.2.1
  ·obtain ⟨o, e, ft, q1, q2, q3, q4, q5, q6, q7, q8, q9, q9', q10, q11, q12⟩ := hwk i hi
   rw [q7] at hh; rw [q6]; exact q11 hh
  ·by_cases hi : i < us.length
   ·exact (hancs i x hi hx).1
   ·have : yff anc i = [] := by
     have hl : ∀ (l : List Oper) (acc : List (List Nat)), (ancL l acc).length = acc.length + l.length := by
      intro l
      induction l with
      | nil => intro acc; simp [ancL]
      | cons o l ih => intro acc; simp only [ancL]; rw [ih]; simp; omega
     have hal' : anc.length = us.length := by rw [← hanc, hl, hlen]; simp
     unfold yff
     rw [List.getElem?_eq_none (by omega)]; rfl
    rw [show R.anc i = yff anc i from rfl, this] at hx; cases hx
 have wf : ∀ i o, ops[i]? = some o → ∀ e ∈ o.after.toList, Region.binds .any e = true → e.on < i := by
  intro i o ho e he hb
  have h' := List.all_eq_true.1 hwf i (List.mem_range.2 (Array.getElem?_eq_some_iff.1 ho).1)
  rw [ho] at h'
  simp only [Option.map_some, Option.getD_some, List.all_eq_true] at h'
  have := h' e he
  rw [hb] at this
  simpa using this
 obtain ⟨G0, g1, g2, g3⟩ := h.toMRel.same_heap (w1 := { G.w with drawn := G.w.drawn + 1 }) rfl rfl rfl rfl
 let Inv : (Nat → Bool) → Act → World → Prop := fun D a w => (∀ j, D j = true → j < us.length ∧ ∀ x ∈ yff anc j, D x = true) ∧ ∃ G, Rel B N (R.st D S) a G ∧ G.w = w
 refine wpIn_region_any hm (yqQ (Q := Q) Inv wf ?_ ?_ ops.size (Array.replicate ops.size false) a _ (by simp) ?_ ?_)
 ·rintro D i o a1 w1 ho hDi hready ⟨hD, G1, hR1, rfl⟩
  have hi : i < us.length := by rw [hnn]; exact (Array.getElem?_eq_some_iff.1 ho).1
  obtain ⟨u, g, k1, k2, k3⟩ := hat i o (by rw [Array.getElem?_toList]; exact ho)
  obtain ⟨o', e, ft, q1, q2, q3, q4, q5, q6, q7, q8, q9, q9', q10, q11, q12⟩ := hwk i hi
  rw [k1] at q1; cases q1
  obtain ⟨o', f, e', ft', p1, p2, p3, p4, p5⟩ := all i hi
  rw [k1] at p1; cases p1
  rw [q2] at p3; cases p3
  have hancD : ∀ x ∈ yff anc i, D x = true := by
   intro x hx
   obtain ⟨_, o', ed, ho', he, hb, hor⟩ := hancs i x hi hx
   rw [ho] at ho'; cases ho'
   have := hready ed he hb
   rcases hor with h | h
   ·rw [← h]; exact this
   ·exact (hD _ this).2 x h
  have hnot : ∀ j, D j = true → i ∉ yff anc j := fun j hj hm' => by
   have := (hD j hj).2 i hm'
   rw [hDi] at this; cases this
  have hA : yuc (R.rs i) (R.rk i) (R.rh i) (R.eff i).bump (R.st (fun j => decide (j < i)) S) (R.st D S) := by
   refine R.agree hO hi (fun j hj => List.mem_range.1 hj) (fun j hj hne => ?_) ⟨fun _ _ => rfl, fun _ _ => rfl, fun _ _ => rfl, fun _ => ⟨fun _ => rfl, rfl⟩⟩
   have hjn := List.mem_range.1 hj
   rcases Nat.lt_trichotomy j i with hlt | heq | hgt
   ·have hDj : D j = false := by
     cases hDj : D j with
     | false => rfl
     | true => rw [hDj] at hne; simp [hlt] at hne
    refine ⟨by omega, fun hm' => ?_, fun hm' => ?_⟩
    ·have := hancD j hm'; rw [hDj] at this; cases this
    ·have := hO.anc j i hm'; omega
   ·subst heq; rw [hDi] at hne; simp at hne
   ·have hDj : D j = true := by
     cases hDj : D j with
     | true => rfl
     | false => rw [hDj] at hne; have : ¬ j < i := by omega
                simp [this] at hne
    refine ⟨by omega, fun hm' => ?_, hnot j hDj⟩
    have := hO.anc i j hm'; omega
  rw [q5, q6, q7, q3] at hA
  have hst := ys9 p4 hA
  refine ywU hR1 ho k2 k3 hst fun a' G' hR' => ?_
  refine ⟨fun j hj => ?_, G', ?_, rfl⟩
  ·by_cases hji : j = i
   ·subst hji
    exact ⟨hi, fun x hx => by simp [RG.upd, hancD x hx]⟩
   ·have hDj : D j = true := by simpa [RG.upd, hji] using hj
    exact ⟨(hD j hDj).1, fun x hx => by simp [RG.upd, (hD j hDj).2 x hx]⟩
  ·rw [R.st_succ hO hi hDi (fun j _ hj => hnot j hj), q3, q4]
   exact hR'
 ·rintro D a1 w1 hall ⟨hD, G1, hR1, rfl⟩
  refine hend (R.st D S) a1 G1 ?_ hR1
  have : R.st D S = T := by
   rw [c2]
   unfold Reg.st
   rw [List.range_eq_range']
   exact R.go_congr (fun j hj => hall j (by have := (List.mem_range'_1.1 hj).2; simp only [Nat.zero_add] at this; rw [← hnn]; exact this)) S
  rw [this]; exact hQ
 ·exact Nat.le_trans (List.length_filter_le _ _) (by simp)
 ·have e0 : (fun j => (Array.replicate ops.size false).getD j false) = fun _ => false := by
   funext j
   by_cases hj : j < ops.size <;> simp [Array.getD, hj]
  rw [e0]
  refine ⟨fun j hj => (by cases hj), G0, ?_, g1⟩
  have : R.st (fun _ => false) S = S := yuE R _ S
  rw [this]
  exact h.lift g2 g3 rfl
end
end Go.AV
end
noncomputable section
namespace Go.AV
open Go.RowKit Go.RG Go.Lib
inductive AEx where
 | n
 | x (id : Nat)
 | r
def runA (hs : Nat → Bool) (CA : Cal → List AV → St → (AV → St → Prop) → Prop) : List AO → (St → Prop) → St → Prop
 | [], Q, S => Q S
 | o :: r, Q, S => match o.guard with
   | none => aop hs CA o.op o.dst S fun v S' => runA hs CA r Q (S'.put o.dst v)
   | some (d, b) => match S.fr d with
     | .bl c => if c = b then aop hs CA o.op o.dst S fun v S' => runA hs CA r Q (S'.put o.dst v) else runA hs CA r Q (S.put o.dst (.tup []))
     | .tup [] => runA hs CA r Q (S.put o.dst (.tup []))
     | _ => False
def lsOf : Option Blk → Option LS
 | some ⟨_, 0, .rcd _ _ _ j :: _⟩ => some j
 | _ => none
section
variable {P : Program} {B : Base} [GB P B] {N : Nat} {hs : Nat → Bool} {oo ro : Option Nat}
theorem ysn {S : St} {a : Act} {G : Gh} (h : Rel B N S a G) {c : Operand} {u : AOpd} {b : Bool} (hc : yaF P N c = some u) (he : ev S.fr u = .bl b) : a.eval c = .bool b := by
 have := ybC h hc
 rw [he] at this
 exact this.bl_inv
def res1 (S : St) : Nat × Option Nat → Option AV
 | (t, none) => some (S.fr t)
 | (t, some 0) => (tgt S (S.fr t)).bind fun p => p.1[p.2]?
 | (t, some (sz + 1)) => (tgt S (S.fr t)).bind fun p => if p.2 + (sz + 1) ≤ p.1.length then some (.agg ((p.1.drop p.2).take (sz + 1))) else none
def resL (S : St) : List (Nat × Option Nat) → Option (List AV)
 | [] => some []
 | p :: r => match res1 S p, resL S r with
   | some u, some us => some (u :: us)
   | _, _ => none
def resA (S : St) (l : List (Nat × Option Nat)) : Option AV := (resL S l).map fun us => match us with
 | [u] => u
 | us => .tup us
def argF (args : List AV) (t : Nat) : AV := (args[t]?).getD (.tup [])
def yAl (H : Hp) (k : Key) : Option Blk := match k with | .h o => H o | .l _ _ => none
def yt5 (args : List AV) (H : Hp) (n : Nat) : St := ⟨argF args, yAl H, fun _ => 0, n⟩
theorem MRel.forget {S : St} {G : Gh} (h : MRel B S G) (hB : ∀ d c, B.κ (.l d c) = none) : ∃ G', G'.w = G.w ∧ MRel B (hSt S.hp S.nx) G' ∧ (∀ o r, G.κ (.h o) = some r → G'.κ (.h o) = some r) ∧ (∀ o, G.dead (.h o) → G'.dead (.h o)) ∧ (∀ b, G.I b → G'.I b) := by
 obtain ⟨Gc, b1, b2, b3, b4, b5, b6⟩ := yqm h
 have hk : ∀ k r, Gc.κ k = some r → ∃ o, k = .h o ∧ G.κ (.h o) = some r := by
  intro k r hr
  cases k with
  | l d c => rw [b4] at hr; cases hr
  | h o => rw [b3] at hr; exact ⟨o, rfl, hr⟩
 refine ⟨Gc, b1, ⟨b6.blk, b6.inj, b6.dead, b6.live, b6.apart, b6.lt, ?_, ?_, ?_, h.nx, ?_, fun b hb => by rw [b2]; exact h.I0 b hb, fun b hb => by rw [b2] at hb; exact h.I1 b hb, by rw [b1]; exact h.os, by rw [b1]; exact h.tape, by rw [b1]; exact h.output, by rw [b1]; exact h.size, fun b p q => by rw [b1]; exact h.same b p q, b6.hno⟩, fun o r hr => by rw [b3]; exact hr, b5, fun b hb => by rw [b2]; exact hb⟩
 ·intro d c r hr; rw [b4] at hr; cases hr
 ·intro k r hr
  cases k with
  | l d c => rw [hB] at hr; cases hr
  | h o =>
    rcases h.keep (.h o) r hr with hq | hq
    ·left; rw [b3]; exact hq
    ·exact .inr (b5 o hq)
 ·intro o r hr
  rw [b3] at hr; exact h.heap o r hr
 ·intro o ho hb
  rw [b3]; exact h.gone o ho hb
theorem yu1 {S : St} {a : Act} {G : Gh} (h : Rel B N S a G) : ∀ (rs : List ResultVar) (l : List (Nat × Option Nat)) (us : List AV), ypl P N rs = some l → resL S l = some us →
  ∃ vs : List Value, (rs.mapM (fun r => match r with | .tmp t => pure (a.tmps.getD t undef) | .cell p t => do loadVar t (← asAddr (a.tmps.getD p undef))) : Sem (List Value)).run P G.w = .ok vs G.w ∧ VRs G us vs := by
 intro rs
 induction rs with
 | nil =>
   intro l us ht hr
   simp only [ypl, Option.some.injEq] at ht; subst ht
   simp only [resL, Option.some.injEq] at hr; subst hr
   exact ⟨[], by simp, rfl, fun j u x hu => by simp at hu⟩
 | cons r rs ih =>
   intro l us ht hr
   cases r with
   | tmp t =>
     simp only [ypl] at ht
     split at ht <;> first | (cases ht; done) | skip
     rename_i htN
     obtain ⟨l', hl', rfl⟩ := Option.map_eq_some_iff.1 ht
     simp only [resL, res1] at hr
     split at hr <;> first | (cases hr; done) | skip
     rename_i u us' e1 e2
     cases e1; cases hr
     obtain ⟨vs, g1, g2⟩ := ih l' us' hl' e2
     have htt : t < a.tmps.size := by rw [h.tsize]; exact htN
     have hv := h.slot t a.tmps[t] (Array.getElem?_eq_getElem htt)
     have hgd : a.tmps.getD t undef = a.tmps[t] := by simp [Array.getD, htt]
     refine ⟨a.tmps[t] :: vs, ?_, VRs.cons hv g2⟩
     simp only [List.mapM_cons, Sem.run_bind, Sem.run_pure, Result.andThen_ok, g1, hgd]
   | cell t ty =>
     simp only [ypl] at ht
     split at ht <;> first | (cases ht; done) | skip
     ·rename_i sz l' h1 h2
      split at ht <;> first | (cases ht; done) | skip
      rename_i htN
      cases ht
      simp only [resL, res1] at hr
      split at hr <;> first | (cases hr; done) | skip
      rename_i u us' e1 e2
      cases hr
      obtain ⟨⟨cs, off⟩, t1, t2⟩ := Option.bind_eq_some_iff.1 e1
      obtain ⟨vs, g1, g2⟩ := ih l' us' h2 e2
      have htt : t < a.tmps.size := by rw [h.tsize]; exact htN
      have hv := h.slot t a.tmps[t] (Array.getElem?_eq_getElem htt)
      have hgd : a.tmps.getD t undef = a.tmps[t] := by simp [Array.getD, htt]
      obtain ⟨b, base, e, hat⟩ := ytE h.toMRel hv t1
      have ha0 : a.eval (.tmp t) = a.tmps[t] := hgd
      obtain ⟨v, hr0, hv0⟩ := m_ld (P := P) h (o := { dst := none, op := .load ty (.tmp t), type := ty, pos := "", after := #[], guard := none }) rfl (x := .tmp t) (ux := .t t) (by simp [yaF, htN]) h1 t1 (by simpa using t2)
      have hrun : (loadVar ty ⟨b, base + off, none⟩).run P G.w = .ok v G.w := by
       simp only [execOp, Instr.loadAt, Instr.sureAddr, ha0, e] at hr0
       simp only [Sem.run_bind, Sem.run_pure, Result.andThen_ok] at hr0
       cases hq : (loadVar ty ⟨b, base + off, none⟩).run P G.w with
       | ok x w => rw [hq] at hr0; simp at hr0; rw [hr0.1, hr0.2]
       | halt x w => rw [hq] at hr0; simp [Result.andThen] at hr0
      refine ⟨v :: vs, ?_, VRs.cons hv0 g2⟩
      have has : (asAddr (a.tmps.getD t undef)).run P G.w = .ok ⟨b, base + off, none⟩ G.w := by rw [hgd, e]; rfl
      simp only [List.mapM_cons, Sem.run_bind, Sem.run_pure, Result.andThen_ok, g1, has, hrun]
     ·rename_i l' h1 h2
      split at ht <;> first | (cases ht; done) | skip
      rename_i htN
      cases ht
      simp only [resL, res1] at hr
      split at hr <;> first | (cases hr; done) | skip
      rename_i u us' e1 e2
      cases hr
      obtain ⟨⟨cs, off⟩, t1, t2⟩ := Option.bind_eq_some_iff.1 e1
      obtain ⟨vs, g1, g2⟩ := ih l' us' h2 e2
      have htt : t < a.tmps.size := by rw [h.tsize]; exact htN
      have hv := h.slot t a.tmps[t] (Array.getElem?_eq_getElem htt)
      have hgd : a.tmps.getD t undef = a.tmps[t] := by simp [Array.getD, htt]
      obtain ⟨b, base, e, hat⟩ := ytE h.toMRel hv t1
      have ha0 : a.eval (.tmp t) = a.tmps[t] := hgd
      obtain ⟨v, hr0, hv0⟩ := m_ld (P := P) h (o := { dst := none, op := .load ty (.tmp t), type := ty, pos := "", after := #[], guard := none }) rfl (x := .tmp t) (ux := .t t) (by simp [yaF, htN]) h1 t1 (by simpa using t2)
      have hrun : (loadVar ty ⟨b, base + off, none⟩).run P G.w = .ok v G.w := by
       simp only [execOp, Instr.loadAt, Instr.sureAddr, ha0, e] at hr0
       simp only [Sem.run_bind, Sem.run_pure, Result.andThen_ok] at hr0
       cases hq : (loadVar ty ⟨b, base + off, none⟩).run P G.w with
       | ok x w => rw [hq] at hr0; simp at hr0; rw [hr0.1, hr0.2]
       | halt x w => rw [hq] at hr0; simp [Result.andThen] at hr0
      refine ⟨v :: vs, ?_, VRs.cons hv0 g2⟩
      have has : (asAddr (a.tmps.getD t undef)).run P G.w = .ok ⟨b, base + off, none⟩ G.w := by rw [hgd, e]; rfl
      simp only [List.mapM_cons, Sem.run_bind, Sem.run_pure, Result.andThen_ok, g1, has, hrun]
theorem ysQ {S : St} {a : Act} {G : Gh} (h : Rel B N S a G) {fn : Func} {l : List (Nat × Option Nat)} {u : AV} (ht : ypl P N fn.results.toList = some l) (hr : resA S l = some u) : ∃ v, (results fn a.tmps).run P G.w = .ok v G.w ∧ VR G u v := by
 unfold resA at hr
 obtain ⟨us, h1, h2⟩ := Option.map_eq_some_iff.1 hr
 obtain ⟨vs, g1, g2⟩ := yu1 h fn.results.toList l us ht h1
 have hrun : ∀ f : ResultVar → Sem Value, (fn.results.toList.mapM f).run P G.w = .ok vs G.w → (fn.results.mapM f).run P G.w = .ok vs.toArray G.w := by
  intro f hf
  rw [Array.mapM_eq_mapM_toList]
  simp [hf]
 have hres : ∀ (f : ResultVar → Sem Value), (fn.results.mapM f).run P G.w = .ok vs.toArray G.w → (do let vs ← fn.results.mapM f; pure (if h : vs.size = 1 then vs[0] else .tuple vs) : Sem Value).run P G.w = .ok (if h : vs.toArray.size = 1 then vs.toArray[0] else .tuple vs.toArray) G.w := by
  intro f hf
  simp only [Sem.run_bind, hf, Result.andThen_ok, Sem.run_pure]
 refine ⟨if h : vs.toArray.size = 1 then vs.toArray[0] else .tuple vs.toArray, ?_, ?_⟩
 ·unfold results
  exact hres _ (hrun _ g1)
 ·split
  ·rename_i h1'
   have hl : vs.length = 1 := by simpa using h1'
   obtain ⟨v0, rfl⟩ := List.length_eq_one_iff.1 hl
   obtain ⟨u0, rfl⟩ := List.length_eq_one_iff.1 (g2.1.symm.trans hl)
   subst h2
   exact g2.head
  ·rename_i h1'
   have hu : u = .tup us := by
    match us, h2 with
    | [], h2 => exact h2.symm
    | [_], h2 => have := g2.1; simp at this; exact absurd (by simpa using this) h1'
    | _ :: _ :: _, h2 => exact h2.symm
   rw [hu]
   exact .tup us vs.toArray (by simpa using g2.1) (fun j u x p q => g2.2 j u x p (by simpa using q))
def ytc (w : World) (rs : List Nat) : World := rs.foldl (fun w r => w.putObj r (.deferred none)) w
theorem Rel.leave {S : St} {a : Act} {G : Gh} (h : Rel B N S a G) : ∃ rs G', a.defers = rs.map (fun r => { target := .collected r, args := #[] }) ∧ rs.Nodup ∧ (∀ r ∈ rs, G.w.heap[r]? = some (.deferred (some []))) ∧ G'.w = ytc G.w rs ∧ Rel B N S { a with defers := [] } G' := by
 obtain ⟨rs, h1, h2, h3⟩ := h.defers
 refine ⟨rs, ?_⟩
 have key : ∀ (rs : List Nat) (G : Gh), rs.Nodup → (∀ r ∈ rs, G.w.heap[r]? = some (.deferred (some [])) ∧ ¬ G.I r ∧ B.w.heap.size ≤ r) → Rel B N S { a with defers := [] } G → ∃ G', G'.w = ytc G.w rs ∧ Rel B N S { a with defers := [] } G' := by
  intro rs
  induction rs with
  | nil => intro G _ _ h; exact ⟨G, rfl, h⟩
  | cons r rs ih =>
    intro G hnd hr h
    obtain ⟨a1, a2, a3⟩ := hr r (by simp)
    obtain ⟨G1, b1, b2, b3, b4⟩ := h.toMRel.take (r := r) (o := .deferred none) (fun k q hk e => h.toMRel.notDfr hk _ (e ▸ a1)) a2 a3
    obtain ⟨hn1, hn2⟩ := List.nodup_cons.1 hnd
    obtain ⟨G2, c1, c2⟩ := ih G1 hn2 (fun q hq => by
     obtain ⟨d1, d2, d3⟩ := hr q (List.mem_cons_of_mem _ hq)
     refine ⟨?_, by rw [b2]; exact d2, d3⟩
     rw [b1, World.putObj_heap_other (fun e => hn1 (by rw [← e]; exact hq))]; exact d1) { b3 with defers := DfOk.nil _ _, tsize := h.tsize, slot := fun t v hv => (h.slot t v hv).le0 b4 }
    exact ⟨G2, by rw [c1, b1]; rfl, c2⟩
 obtain ⟨G', e1, e2⟩ := key rs G h2 h3 { h.toMRel with defers := DfOk.nil _ _, tsize := h.tsize, slot := h.slot }
 exact ⟨G', h1, h2, fun r hr => (h3 r hr).1, e1, e2⟩
theorem yp7 {F : Fence} {nn : Nat} {fn : Func} {tmps : Array Value} {R : Ending → World → Prop} : ∀ (rs : List Nat) (w : World), rs.Nodup → (∀ r ∈ rs, w.heap[r]? = some (.deferred (some []))) → (∃ v, (results fn tmps).run P (ytc w rs) = .ok v (ytc w rs) ∧ R (.returned v) (ytc w rs)) →
  LeavesInM F nn P fn tmps R (rs.map (fun r => { target := .collected r, args := #[] })) .returning w := by
 intro rs
 induction rs with
 | nil => intro w _ _ h; exact h
 | cons r rs ih =>
   intro w hnd hr h
   obtain ⟨hn1, hn2⟩ := List.nodup_cons.1 hnd
   refine ⟨by simp, .inl ⟨r, w.putObj r (.deferred none), rfl, run_takeDeferred (hr r (by simp)), ?_⟩⟩
   refine ih _ hn2 (fun q hq => ?_) h
   rw [World.putObj_heap_other (fun e => hn1 (by rw [← e]; exact hq))]; exact hr q (List.mem_cons_of_mem _ hq)
theorem yuI {f : FuncId} {F : AFn} (hF : trF P f = some F) (vs : Array Value) (w : World) : (callFunc f vs).run P w = .ok (.enter f vs) w := by
 unfold trF at hF
 split at hF <;> first | (cases hF; done) | skip
 rename_i fn hfn
 split at hF <;> first | (cases hF; done) | skip
 rename_i b hb
 split at hb
 ·cases hb
 ·rename_i hname
  simp only [callFunc, Sem.run_bind, run_program, Result.andThen_ok, hfn]
  rw [if_neg hname]
  simp [hb]
end
end Go.AV
end
noncomputable section
namespace Go.AV
open Go.RowKit Go.RG Go.Lib
structure KB where
 e : Nat
 sz : Nat
 cells : List AV
 q : Bool
def KB.blk (b : KB) : Blk := ⟨b.e, b.sz, b.cells⟩
structure KS where
 fr : List (Nat × AV)
 mem : List (Nat × KB)
 H : Hp
 nx : Nat
def lkF : List (Nat × AV) → Nat → AV
 | [], _ => .un
 | p :: r, t => match Nat.beq p.1 t with
   | true => p.2
   | false => lkF r t
def lkM : List (Nat × KB) → Nat → Option KB
 | [], _ => none
 | p :: r, t => match Nat.beq p.1 t with
   | true => some p.2
   | false => lkM r t
def KS.M (ks : KS) : Key → Option Blk
 | .h o => ks.H o
 | .l d c => match Nat.beq c 1 with
   | true => (lkM ks.mem d).map KB.blk
   | false => none
def toS (ks : KS) : St := ⟨lkF ks.fr, ks.M, fun _ => 1, ks.nx⟩
def KOk (ks : KS) : Prop := ∀ d b, lkM ks.mem d = some b → b.sz ≠ 0 ∧ (b.q = true → noLs b.cells = true)
theorem nbeq {a b : Nat} : Nat.beq a b = true ↔ a = b := ⟨Nat.eq_of_beq_eq_true, fun h => h ▸ Nat.beq_refl a⟩
theorem ydb (p : Nat × AV) (r : List (Nat × AV)) (t : Nat) : lkF (p :: r) t = if p.1 = t then p.2 else lkF r t := by
 simp only [lkF]
 by_cases h : p.1 = t
 ·rw [if_pos h, nbeq.2 h]
 ·rw [if_neg h]
  cases hb : Nat.beq p.1 t with
  | true => exact absurd (nbeq.1 hb) h
  | false => rfl
theorem yn8 (p : Nat × KB) (r : List (Nat × KB)) (t : Nat) : lkM (p :: r) t = if p.1 = t then some p.2 else lkM r t := by
 simp only [lkM]
 by_cases h : p.1 = t
 ·rw [if_pos h, nbeq.2 h]
 ·rw [if_neg h]
  cases hb : Nat.beq p.1 t with
  | true => exact absurd (nbeq.1 hb) h
  | false => rfl
theorem M_l1 (ks : KS) (d : Nat) : ks.M (.l d 1) = (lkM ks.mem d).map KB.blk := rfl
theorem M_lc (ks : KS) {d c : Nat} {b : Blk} (h : ks.M (.l d c) = some b) : c = 1 ∧ ∃ kb, lkM ks.mem d = some kb ∧ b = kb.blk := by
 simp only [KS.M] at h
 split at h
 ·rename_i hc
  obtain ⟨kb, h1, h2⟩ := Option.map_eq_some_iff.1 h
  exact ⟨nbeq.1 hc, kb, h1, h2.symm⟩
 ·cases h
inductive RV (ρ : Nat → Option (Nat × Nat)) (S : St) (p : Nat × Nat → Prop) : AV → AV → Prop
 | no (u : AV) (h : u.noL = true) : RV ρ S p u u
 | un (v : AV) : RV ρ S p .un v
 | gs (d n : Nat) (k : Nat × Nat) (h : ρ d = some k) : RV ρ S p (.gs (.l d 1) n) (.gs (.l k.1 k.2) n)
 | pt (d off : Nat) (k : Nat × Nat) (h : ρ d = some k) : RV ρ S p (.pt (.l d 1) off) (.pt (.l k.1 k.2) off)
 | pub (k : Nat × Nat) (n : Nat) (b : Blk) (hp : p k) (hm : S.M (.l k.1 k.2) = some b) (hl : b.cells.length = n * b.sz) (hz : b.sz ≠ 0) (hq : noLs b.cells = true) : RV ρ S p (.sl false n b.cells) (.gs (.l k.1 k.2) n)
 | nil : RV ρ S p (.sl false 0 []) (.sl true 0 [])
 | ep (xs : List AV) (off w : Nat) : RV ρ S p (.ep ((xs.drop off).take w) 0) (.ep xs off)
 | agg (us vs : List AV) (hl : us.length = vs.length) (h : ∀ (j : Nat) (u v : AV), us[j]? = some u → vs[j]? = some v → RV ρ S p u v) : RV ρ S p (.agg us) (.agg vs)
 | tup (us vs : List AV) (hl : us.length = vs.length) (h : ∀ (j : Nat) (u v : AV), us[j]? = some u → vs[j]? = some v → RV ρ S p u v) : RV ρ S p (.tup us) (.tup vs)
 | fn (f : Fn) (us vs us' vs' : List AV) (hl : us.length = vs.length) (h : ∀ (j : Nat) (u v : AV), us[j]? = some u → vs[j]? = some v → RV ρ S p u v) (hl' : us'.length = vs'.length) (h' : ∀ (j : Nat) (u v : AV), us'[j]? = some u → vs'[j]? = some v → RV ρ S p u v) : RV ρ S p (.fn f us us') (.fn f vs vs')
def RVL (ρ : Nat → Option (Nat × Nat)) (S : St) (p : Nat × Nat → Prop) (us vs : List AV) : Prop := us.length = vs.length ∧ ∀ (j : Nat) (u v : AV), us[j]? = some u → vs[j]? = some v → RV ρ S p u v
structure ReK (S : St) (ks : KS) (ρ : Nat → Option (Nat × Nat)) (p : Nat × Nat → Prop) : Prop where
 dom : ∀ d b1, lkM ks.mem d = some b1 → ∃ k, ρ d = some k
 at' : ∀ d k, ρ d = some k → ∃ b b1, S.M (.l k.1 k.2) = some b ∧ b.sz ≠ 0 ∧ lkM ks.mem d = some b1 ∧ b1.e = b.e ∧ b1.sz = b.sz ∧ RVL ρ S p b1.cells b.cells
 inj : ∀ d d' k, ρ d = some k → ρ d' = some k → d = d'
 disj : ∀ k d, p k → ρ d ≠ some k
 pub : ∀ k, p k → ∃ b, S.M (.l k.1 k.2) = some b ∧ b.sz ≠ 0
 fr : ∀ t, RV ρ S p (lkF ks.fr t) (S.fr t)
 H : ∀ o, S.M (.h o) = ks.H o
 nx : S.nx = ks.nx
 fix : ∀ d k, 2000000 ≤ d → ρ d = some k → k = (d, 1)
def ydZ (B : Base) : Prop := ∀ d c r, B.κ (.l d c) = some r → c = 1 ∧ 2000000 ≤ d
theorem ydZ.none {B : Base} (h : ∀ d c, B.κ (.l d c) = none) : ydZ B := fun d c r e => by rw [h] at e; cases e
section
variable {B : Base} {N : Nat} {S : St} {a : Act} {G : Gh} {ks : KS} {ρ : Nat → Option (Nat × Nat)} {p : Nat × Nat → Prop}
theorem RV.go (hR : ReK S ks ρ p) (hM : MRel B S G) {G1 : Gh} (f1 : ∀ d k r, ρ d = some k → G.κ (.l k.1 k.2) = some r → G1.κ (.l d 1) = some r) (f2 : ∀ o r, G.κ (.h o) = some r → G1.κ (.h o) = some r) (f3 : ∀ o, G.dead (.h o) → G1.dead (.h o))
  (f4 : ∀ b, G.I b → G1.I b) (f5 : G1.w = G.w) (f6 : ∀ k r, p k → G.κ (.l k.1 k.2) = some r → G1.I r.1) : ∀ {u v : AV}, RV ρ S p u v → ∀ {x : Value}, VR G v x → VR G1 u x := by
 intro u v h
 induction h with
 | no u h => exact fun hx => VR.noL f2 f3 f4 f5 hx h
 | un v => exact fun _ => .un _
 | gs d n k h =>
   intro x hx
   obtain ⟨b, b1, q1, _⟩ := hR.at' d k h
   obtain ⟨g, cap, hk, e⟩ := hx.gs_inv hM (by simp [ya3, q1])
   rw [e]; exact .gs _ n g cap (f1 d k _ h hk)
 | pt d off k h =>
   intro x hx
   obtain ⟨b, b1, q1, _⟩ := hR.at' d k h
   obtain ⟨g, cap, hk, e⟩ := hx.pt_inv hM (by simp [ya3, q1])
   rw [e]; exact .pt _ off g cap (f1 d k _ h hk)
 | pub k n b hp hm hl hz hq =>
   intro x hx
   obtain ⟨g, cap, hk, e⟩ := hx.gs_inv hM (by simp [ya3, hm])
   obtain ⟨r, hr, hb⟩ := hM.κcell hm hz
   rw [hk] at hr; cases hr
   obtain ⟨cur, c1, c2, c3, c4, c5, c6, c7⟩ := hb
   have hnc : n ≤ cap := by
    have : n * b.sz ≤ cap * b.sz := by rw [← hl, ← c2]; exact c5
    exact Nat.le_of_mul_le_mul_right this c4
   rw [e]
   have hcell : ∀ (j : Nat) (u : AV), b.cells[j]? = some u → ∃ x, cur[j]? = some x := by
    intro j u hu
    have hj : j < cur.size := Nat.lt_of_lt_of_le (List.getElem?_eq_some_iff.1 hu).1 c5
    exact ⟨cur[j], Array.getElem?_eq_getElem hj⟩
   refine .sl n b.cells g 0 cap (fun j => (cur[j]?).getD undef) (f6 k _ hp hk) ?_ ?_ ?_ hnc (Nat.le_trans hnc c3) hq
   ·intro j u hu
    obtain ⟨x, hx⟩ := hcell j u hu
    rw [f5]
    simp only [World.cell?, Nat.zero_add]
    simp [c1, hx]
   ·intro j u hu
    obtain ⟨x, hx⟩ := hcell j u hu
    rw [hx]; exact VR.noL f2 f3 f4 f5 (c6 j u x hu hx) (ybs hq j u hu)
   ·intro j u hu
    obtain ⟨x, hx⟩ := hcell j u hu
    rw [hx]; exact c7 j x (List.getElem?_eq_some_iff.1 hu).1 hx
 | nil => intro x hx; rw [hx.nsl_inv.1]; exact .nsl _ _ _ rfl rfl
 | ep xs off w =>
   intro x hx
   obtain ⟨b, base, f, e, a1, a2, a3, a4, a5⟩ := hx.ep_inv
   rw [e, show base + off = (base + off) + 0 from rfl]
   have hsub : ∀ (j : Nat) (u : AV), ((xs.drop off).take w)[j]? = some u → xs[off + j]? = some u := by
    intro j u hu
    simp only [List.getElem?_take, List.getElem?_drop] at hu
    split at hu
    ·exact hu
    ·cases hu
   refine .ep _ 0 b (base + off) (fun j => f (off + j)) (f4 b a1) ?_ ?_ ?_ (ynK (fun u hu => List.mem_of_mem_drop (List.mem_of_mem_take hu)) a5)
   ·intro j u hu; have := a2 _ u (hsub j u hu); rw [f5, Nat.add_assoc]; exact this
   ·intro j u hu; exact VR.noL f2 f3 f4 f5 (a3 _ u (hsub j u hu)) (ybs a5 _ u (hsub j u hu))
   ·intro j u hu; exact a4 _ u (hsub j u hu)
 | agg us vs hl h ih =>
   intro x hx
   obtain ⟨xs, e, h1, h2, h3⟩ := hx.agg_inv
   rw [e]
   refine .agg us xs (by rw [h1, hl]) (fun j u x hu hx => ?_) h3
   have hj : j < vs.length := by rw [← hl]; exact (List.getElem?_eq_some_iff.1 hu).1
   exact ih j u vs[j] hu (List.getElem?_eq_getElem hj) (h2 j _ x (List.getElem?_eq_getElem hj) hx)
 | tup us vs hl h ih =>
   intro x hx
   obtain ⟨xs, e, h1, h2⟩ := hx.tup_inv
   rw [e]
   refine .tup us xs (by rw [h1, hl]) (fun j u x hu hx => ?_)
   have hj : j < vs.length := by rw [← hl]; exact (List.getElem?_eq_some_iff.1 hu).1
   exact ih j u vs[j] hu (List.getElem?_eq_getElem hj) (h2 j _ x (List.getElem?_eq_getElem hj) hx)
 | fn f us vs us' vs' hl h hl' h' ih ih' =>
   intro x hx
   obtain ⟨xa, xc, e, h1, h2, h3, h4⟩ := hx.fn_inv
   rw [e]
   refine .fn f us us' xa xc (by rw [h1, hl]) (by rw [h2, hl']) (fun j u x hu hx => ?_) (fun j u x hu hx => ?_)
   ·have hj : j < vs.length := by rw [← hl]; exact (List.getElem?_eq_some_iff.1 hu).1
    exact ih j u vs[j] hu (List.getElem?_eq_getElem hj) (h3 j _ x (List.getElem?_eq_getElem hj) hx)
   ·have hj : j < vs'.length := by rw [← hl']; exact (List.getElem?_eq_some_iff.1 hu).1
    exact ih' j u vs'[j] hu (List.getElem?_eq_getElem hj) (h4 j _ x (List.getElem?_eq_getElem hj) hx)
theorem yv7 (h : Rel B N S a G) (hB : ydZ B) (hR : ReK S ks ρ p) : ∃ G1, G1.w = G.w ∧ Rel B N (toS ks) a G1 := by
 have hM := h.toMRel
 let κ1 : Key → Option (Nat × Nat) := fun k => match k with
  | .h o => G.κ (.h o)
  | .l d c => if c = 1 then (ρ d).bind fun k => G.κ (.l k.1 k.2) else none
 let G1 : Gh := ⟨κ1, yc9 (toS ks), fun b => G.I b ∨ ∃ k r, p k ∧ G.κ (.l k.1 k.2) = some r ∧ r.1 = b, G.w⟩
 have f1 : ∀ d k r, ρ d = some k → G.κ (.l k.1 k.2) = some r → G1.κ (.l d 1) = some r := by
  intro d k r h1 h2
  show (if 1 = 1 then (ρ d).bind fun k => G.κ (.l k.1 k.2) else none) = some r
  simp [h1, h2]
 have hinv : ∀ d c r, κ1 (.l d c) = some r → c = 1 ∧ ∃ k, ρ d = some k ∧ G.κ (.l k.1 k.2) = some r := by
  intro d c r hr
  have hr' : (if c = 1 then (ρ d).bind fun k => G.κ (.l k.1 k.2) else none) = some r := hr
  split at hr'
  ·rename_i hc
   obtain ⟨k, h1, h2⟩ := Option.bind_eq_some_iff.1 hr'
   exact ⟨hc, k, h1, h2⟩
  ·cases hr'
 have f3 : ∀ o, G.dead (.h o) → G1.dead (.h o) := by
  intro o hd
  obtain ⟨h1, h2⟩ := (hM.dead _).1 hd
  refine ⟨?_, ?_⟩
  ·show ks.H o = none
   rw [← hR.H]; exact h1
  ·show o < ks.nx
   rw [← hR.nx]; exact h2
 have f6 : ∀ k r, p k → G.κ (.l k.1 k.2) = some r → G1.I r.1 := fun k r h1 h2 => .inr ⟨k, r, h1, h2, rfl⟩
 have go : ∀ {u v : AV}, RV ρ S p u v → ∀ {x : Value}, VR G v x → VR G1 u x := RV.go (G1 := G1) hR hM f1 (fun _ _ q => q) f3 (fun _ q => .inl q) rfl f6
 have hno : ∀ {u : AV} {x : Value}, VR G u x → u.noL = true → VR G1 u x := VR.noL (G := G) (G' := G1) (fun _ _ q => q) f3 (fun _ q => .inl q) rfl
 refine ⟨G1, rfl, ?_⟩
 refine { blk := ?_, inj := ?_, dead := fun k => Iff.rfl, live := ?_, apart := ?_, lt := ?_, loc := ?_, keep := ?_, heap := ?_, nx := ?_, gone := ?_, I0 := fun b hb => .inl (h.I0 b hb), I1 := ?_, os := h.os, tape := h.tape, output := h.output, size := h.size, same := h.same, hno := ?_, defers := ?_, tsize := h.tsize, slot := ?_ }
 ·intro k
  cases k with
  | h o =>
    have hb := h.blk (.h o)
    have hn := h.hno (.h o)
    show yaC G1 (ks.H o) (G.κ (.h o))
    rw [← hR.H]
    revert hb hn
    cases S.M (.h o) with
    | none => cases G.κ (.h o) <;> exact fun x _ => x
    | some b => cases G.κ (.h o) with
      | none => exact fun x _ => x
      | some r =>
        intro this hn
        by_cases hz : b.sz = 0
        ·obtain ⟨q, j, fr, c1, c2, c3, c4, c5⟩ := (yaC.loop hz).1 this
         have hnf : noLs fr = true := by have := hn b rfl; simp only [hOk, c1, noLs, Bool.and_eq_true] at this; exact this.2
         exact (yaC.loop hz).2 ⟨q, j, fr, c1, c2, c3, c4, fun t u x p q => hno (c5 t u x p q) (ybs hnf t u p)⟩
        obtain ⟨cur, c1, c2, c3, c4, c5, c6, c7⟩ := (yaC.cell hz).1 this
        exact (yaC.cell hz).2 ⟨cur, c1, c2, c3, c4, c5, fun j u x p q => hno (c6 j u x p q) (ybs (hn b rfl) j u p), c7⟩
  | l d c =>
    show yaC G1 (ks.M (.l d c)) (κ1 (.l d c))
    by_cases hc : c = 1
    ·subst hc
     rw [M_l1]
     cases hl : lkM ks.mem d with
     | none =>
       have : κ1 (.l d 1) = none := by
        cases hk : κ1 (.l d 1) with
        | none => rfl
        | some r =>
          obtain ⟨_, k, h1, h2⟩ := hinv d 1 r hk
          obtain ⟨b, b1, q1, q2, q3, _⟩ := hR.at' d k h1
          rw [hl] at q3; cases q3
       rw [this]; trivial
     | some kb =>
       obtain ⟨k, hk⟩ := hR.dom d kb hl
       obtain ⟨b, b1, q1, q2, q3, q4, q5, q6, q7⟩ := hR.at' d k hk
       rw [hl] at q3; cases q3
       obtain ⟨r, hr, hb⟩ := hM.κcell q1 q2
       have hk1 : κ1 (.l d 1) = some r := f1 d k r hk hr
       rw [hk1]
       have hz : kb.blk.sz ≠ 0 := by show kb.sz ≠ 0; rw [q5]; exact q2
       refine (yaC.cell hz).2 ?_
       obtain ⟨cur, c1, c2, c3, c4, c5, c6, c7⟩ := hb
       refine ⟨cur, by show G.w.heap[r.1]? = _; rw [c1]; show _ = some (Obj.cells cur kb.e (0, 0)); rw [q4], by show cur.size = r.2 * kb.sz; rw [q5]; exact c2, c3, by show 0 < kb.sz; rw [q5]; exact c4, by show kb.cells.length ≤ _; rw [q6]; exact c5, ?_, ?_⟩
       ·intro j u x hu hx
        have hj : j < b.cells.length := by rw [← q6]; exact (List.getElem?_eq_some_iff.1 hu).1
        exact go (q7 j u _ hu (List.getElem?_eq_getElem hj)) (c6 j _ x (List.getElem?_eq_getElem hj) hx)
       ·intro j x hj hx; exact c7 j x (by rw [← q6]; exact hj) hx
    ·have h1 : ks.M (.l d c) = none := by
      cases hm : ks.M (.l d c) with
      | none => rfl
      | some b => exact absurd (M_lc ks hm).1 hc
     have h2 : κ1 (.l d c) = none := by
      cases hk : κ1 (.l d c) with
      | none => rfl
      | some r => exact absurd (hinv d c r hk).1 hc
     rw [h1, h2]; trivial
 ·intro k k' r r' hr hr' e
  cases k with
  | h o => cases k' with
    | h o' => exact h.inj _ _ r r' hr hr' e
    | l d c =>
      obtain ⟨_, k, h1, h2⟩ := hinv d c r' hr'
      have := h.inj _ _ r r' hr h2 e; cases this
  | l d c =>
    obtain ⟨rfl, k, h1, h2⟩ := hinv d c r hr
    cases k' with
    | h o' => have := h.inj _ _ r r' h2 hr' e; cases this
    | l d' c' =>
      obtain ⟨rfl, k', h3, h4⟩ := hinv d' c' r' hr'
      have := h.inj _ _ r r' h2 h4 e
      simp only [Key.l.injEq] at this
      have e1 : k = k' := Prod.ext this.1 this.2
      subst e1
      rw [hR.inj d d' k h1 h3]
 ·intro k b hb
  cases k with
  | h o =>
    have : o < S.nx := h.live (.h o) b (by rw [hR.H]; exact hb)
    show o < ks.nx
    rw [← hR.nx]; exact this
  | l d c => obtain ⟨rfl, _⟩ := M_lc ks hb; exact ⟨Nat.le_refl 1, Nat.le_refl 1⟩
 ·intro k r hr
  have hp : ∀ k0, G.κ k0 = some r → (∀ k, p k → k0 ≠ .l k.1 k.2) → ¬ G1.I r.1 ∧ r.1 < G.w.heap.size := by
   intro k0 hk0 hne
   obtain ⟨q1, q2⟩ := h.apart k0 r hk0
   refine ⟨?_, q2⟩
   rintro (hI | ⟨k', r', e1, e2, e3⟩)
   ·exact q1 hI
   ·exact hne k' e1 (h.inj _ _ _ _ hk0 e2 e3.symm)
  cases k with
  | h o => exact hp (.h o) hr (fun k _ e => by cases e)
  | l d c =>
    obtain ⟨rfl, k, h1, h2⟩ := hinv d c r hr
    refine hp _ h2 (fun k' hk' e => ?_)
    simp only [Key.l.injEq] at e
    have e1 : k = k' := Prod.ext e.1 e.2
    subst e1
    exact hR.disj k d hk' h1
 ·rintro b (hI | ⟨k, r, e1, e2, e3⟩)
  ·exact h.lt b hI
  ·rw [← e3]; exact (h.apart _ r e2).2
 ·intro d c r hr
  obtain ⟨_, k, h1, h2⟩ := hinv d c r hr
  exact h.loc _ _ r h2
 ·intro k r hr
  cases k with
  | l d c =>
    obtain ⟨rfl, hd⟩ := hB d c r hr
    cases hρ : ρ d with
    | none =>
      right
      refine ⟨?_, Nat.le_refl 1, Nat.le_refl 1⟩
      show (lkM ks.mem d).map KB.blk = none
      cases hl : lkM ks.mem d with
      | none => rfl
      | some b1 => obtain ⟨k, hk⟩ := hR.dom d b1 hl; rw [hρ] at hk; cases hk
    | some k =>
      have := hR.fix d k hd hρ; subst this
      obtain ⟨b, b1, q1, q2, q3, _⟩ := hR.at' d _ hρ
      rcases h.keep (.l d 1) r hr with hq | hq
      ·exact .inl (f1 d _ r hρ hq)
      ·have := ((hM.dead _).1 hq).1
       rw [this] at q1; cases q1
  | h o =>
    rcases h.keep (.h o) r hr with hq | hq
    ·exact .inl hq
    ·exact .inr (f3 o hq)
 ·intro o r hr; exact h.heap o r hr
 ·show B.nx ≤ ks.nx
  rw [← hR.nx]; exact h.nx
 ·intro o ho hb; exact h.gone o ho hb
 ·rintro b (hI | ⟨k, r, e1, e2, e3⟩)
  ·exact h.I1 b hI
  ·rw [← e3]
   rcases h.loc _ _ r e2 with hq | hq
   ·exact .inr (.inl hq)
   ·exact .inr (.inr hq)
 ·intro k b hb
  cases k with
  | h o => exact h.hno (.h o) b (by rw [hR.H]; exact hb)
  | l d c => rfl
 ·obtain ⟨rs, g1, g2, g3⟩ := h.defers
  refine ⟨rs, g1, g2, fun r hr => ?_⟩
  obtain ⟨u1, u2, u3⟩ := g3 r hr
  refine ⟨u1, ?_, u3⟩
  rintro (hI | ⟨k, r', e1, e2, e3⟩)
  ·exact u2 hI
  ·exact hM.notDfr e2 _ (e3 ▸ u1)
 ·intro t v hv
  exact go (hR.fr t) (h.slot t v hv)
end
end Go.AV
end
noncomputable section
namespace Go.AV
open Go.RowKit Go.RG Go.Lib
theorem ylm (a b : List AV) : noLs (a ++ b) = (noLs a && noLs b) := by
 induction a with
 | nil => simp [noLs]
 | cons x a ih => simp [noLs, ih, Bool.and_assoc]
section
variable {ρ : Nat → Option (Nat × Nat)} {S : St} {p : Nat × Nat → Prop} {live : Nat → Bool}
theorem RVL.no {l : List AV} (h : noLs l = true) : RVL ρ S p l l := ⟨rfl, fun j u v hu hv => by rw [hu] at hv; cases hv; exact .no u (ybs h j u hu)⟩
end
section
variable (P : Program) (B : Base) (N : Nat) (ro : Option Nat)
def RelK (ks : KS) (a : Act) (G : Gh) : Prop := Rel B N (toS ks) a G ∧ KOk ks
def exK (Q : AEx → KS → Prop) : Exit → KS → Prop
 | .normal, ks => Q .n ks
 | .exit id, ks => Q (.x id) ks
 | .ret, ks => Q .r ks
 | _, _ => False
def ypa (Q : AEx → KS → Prop) : Exit → Act → World → Prop := fun e a w => ∃ ks G, RelK B N ks a G ∧ G.w = w ∧ exK Q e ks
def RE (S : St) (X : KS → Prop) : Prop := ∀ a G, Rel B N S a G → ∃ ks1 G1, G1.w = G.w ∧ RelK B N ks1 a G1 ∧ X ks1
def WK (ac : ye0) (Q : AEx → KS → Prop) (ks : KS) : Prop := ∀ c, trC P N c = some ac → ∀ a G, RelK B N ks a G → c.wpIn (FR ro) 0 P (ypa B N Q) a G.w
def nQ (Q : KS → Prop) : AEx → KS → Prop := fun e ks => match e with
 | .n => Q ks
 | _ => False
end
section
variable {P : Program} {B : Base} [GB P B] {N : Nat} {ro : Option Nat} {hs : Nat → Bool} {L : List AO} {Q : KS → Prop} {ks : KS} {i : Nat}
theorem RE.id {X : KS → Prop} (hk : KOk ks) (h : X ks) : RE B N (toS ks) X := fun _ G hR => ⟨ks, G, rfl, ⟨hR, hk⟩, h⟩
theorem RE.mono {S : St} {X Y : KS → Prop} (h : RE B N S X) (hxy : ∀ ks, X ks → Y ks) : RE B N S Y := fun a G hR => by
 obtain ⟨k, G1, h1, h2, h3⟩ := h a G hR
 exact ⟨k, G1, h1, h2, hxy k h3⟩
theorem RE.of {S : St} {ks1 : KS} {X : KS → Prop} (hB : ydZ B) {ρ : Nat → Option (Nat × Nat)} {p : Nat × Nat → Prop} (hR : ReK S ks1 ρ p) (hk : KOk ks1) (h : X ks1) : RE B N S X := fun a G hr => by
 obtain ⟨G1, e1, e2⟩ := yv7 hr hB hR
 exact ⟨ks1, G1, e1, ⟨e2, hk⟩, h⟩
theorem yxe {c : ye0} {Q : AEx → KS → Prop} (h : KOk ks → RE B N (toS ks) (WK P B N ro c Q)) : WK P B N ro c Q ks := by
 have _ := (inferInstance : GB P B)
 intro c' ht a G hR
 obtain ⟨k1, G1, e1, e2, e3⟩ := h hR.2 a G hR.1
 rw [← e1]
 exact e3 c' ht a G1 e2
end
end Go.AV
end
noncomputable section
namespace Go.AV
open Go.RowKit Go.RG Go.Lib
def AllP : List Prop → Prop
 | [] => True
 | c :: r => c ∧ AllP r
structure DS where
 fr : List (Nat × AV)
 od : List (Nat × Option KB)
 nw : List (Nat × Option KB)
 H : Hp
 nx : Nat
def lkO : List (Nat × Option KB) → Nat → Option KB
 | [], _ => none
 | p :: r, t => match Nat.beq p.1 t with
   | true => p.2
   | false => lkO r t
def memO : List (Nat × Option KB) → Nat → Bool
 | [], _ => false
 | p :: r, t => Nat.beq p.1 t || memO r t
def DS.kb (ds : DS) (d c : Nat) : Option KB := match Nat.beq c 1 with
 | true => lkO ds.od d
 | false => match Nat.beq c 2 with
   | true => lkO ds.nw d
   | false => none
def DS.M (ds : DS) : Key → Option Blk
 | .h o => ds.H o
 | .l d c => (ds.kb d c).map KB.blk
def DS.cn (ds : DS) (d : Nat) : Nat := match memO ds.nw d with
 | true => 2
 | false => 1
def toD (ds : DS) : St := ⟨lkF ds.fr, ds.M, ds.cn, ds.nx⟩
def yqy : List (Nat × KB) → List (Nat × Option KB)
 | [] => []
 | p :: r => (p.1, some p.2) :: yqy r
def ofK (ks : KS) : DS := ⟨ks.fr, yqy ks.mem, [], ks.H, ks.nx⟩
def bOk (b : KB) : Prop := b.sz ≠ 0 ∧ (b.q = true → noLs b.cells = true)
def DOk (ds : DS) : Prop := ∀ d c b, ds.kb d c = some b → bOk b
theorem yg8 (p : Nat × Option KB) (r : List (Nat × Option KB)) (t : Nat) : lkO (p :: r) t = if p.1 = t then p.2 else lkO r t := by
 simp only [lkO]
 by_cases h : p.1 = t
 ·rw [if_pos h, nbeq.2 h]
 ·rw [if_neg h]
  cases hb : Nat.beq p.1 t with
  | true => exact absurd (nbeq.1 hb) h
  | false => rfl
theorem yiV (m : List (Nat × KB)) (d : Nat) : lkO (yqy m) d = lkM m d := by
 induction m with
 | nil => rfl
 | cons p m ih => simp only [yqy]; rw [yg8, yn8, ih]
theorem yh8 (ks : KS) : toD (ofK ks) = toS ks := by
 unfold toD toS
 simp only [St.mk.injEq]
 refine ⟨rfl, ?_, rfl, rfl⟩
 funext k
 cases k with
 | h o => rfl
 | l d c =>
   show ((ofK ks).kb d c).map KB.blk = ks.M (.l d c)
   unfold DS.kb KS.M
   cases hb : Nat.beq c 1 with
   | true => simp only [ofK, yiV, hb]
   | false =>
     cases hb2 : Nat.beq c 2 <;> simp only [ofK, hb, lkO, Option.map_none]
theorem yhp {ks : KS} (h : KOk ks) : DOk (ofK ks) := by
 intro d c b hb
 unfold DS.kb at hb
 split at hb
 ·simp only [ofK, yiV] at hb; exact h d b hb
 ·split at hb
  ·simp [ofK, lkO] at hb
  ·cases hb
def DS.put (ds : DS) (d : Option Nat) (v : AV) : DS := match d with
 | some d => ⟨(d, v) :: ds.fr, ds.od, ds.nw, ds.H, ds.nx⟩
 | none => ds
def DS.set (ds : DS) (q c : Nat) (b : Option KB) : DS := match Nat.beq c 1 with
 | true => ⟨ds.fr, (q, b) :: ds.od, ds.nw, ds.H, ds.nx⟩
 | false => ⟨ds.fr, ds.od, (q, b) :: ds.nw, ds.H, ds.nx⟩
theorem DS.put_M (ds : DS) (d : Option Nat) (v : AV) : (ds.put d v).M = ds.M := by
 cases d <;> (funext k; cases k <;> rfl)
theorem ycm (ds : DS) (d : Option Nat) (v : AV) : (toD ds).put d v = toD (ds.put d v) := by
 cases d with
 | none => rfl
 | some d =>
   unfold toD St.put
   simp only [St.mk.injEq]
   refine ⟨?_, (DS.put_M ds (some d) v).symm, rfl, rfl⟩
   funext t
   show upd (lkF ds.fr) d v t = lkF ((d, v) :: ds.fr) t
   rw [ydb]
   unfold upd
   by_cases h : t = d
   ·subst h; simp
   ·rw [if_neg h, if_neg (fun q => h q.symm)]
theorem DOk.put {ds : DS} {d : Option Nat} {v : AV} (h : DOk ds) : DOk (ds.put d v) := by cases d <;> exact h
theorem ypX (ds : DS) (q c : Nat) (b : Option KB) (hc : c = 1 ∨ c = 2) (d c' : Nat) : (ds.set q c b).kb d c' = if d = q ∧ c' = c then b else ds.kb d c' := by
 rcases hc with rfl | rfl
 ·unfold DS.set DS.kb
  simp only [show Nat.beq 1 1 = true from rfl]
  cases hb : Nat.beq c' 1 with
  | true =>
    have := nbeq.1 hb; subst this
    simp only
    rw [yg8]
    by_cases h : d = q
    ·subst h; simp
    ·have h' : ¬ q = d := fun e => h e.symm
     simp [h, h']
  | false =>
    have : ¬ c' = 1 := fun e => by subst e; cases hb
    simp [this]
 ·unfold DS.set DS.kb
  simp only [show Nat.beq 2 1 = false from rfl]
  cases hb : Nat.beq c' 1 with
  | true =>
    have := nbeq.1 hb; subst this
    simp
  | false =>
    simp only
    cases hb2 : Nat.beq c' 2 with
    | true =>
      have := nbeq.1 hb2; subst this
      simp only
      rw [yg8]
      by_cases h : d = q
      ·subst h; simp
      ·have h' : ¬ q = d := fun e => h e.symm
       simp [h, h']
    | false =>
      have : ¬ c' = 2 := fun e => by subst e; cases hb2
      simp [this]
theorem yp6 (ds : DS) (q c : Nat) (b : Option KB) : (ds.set q c b).fr = ds.fr := by unfold DS.set; split <;> rfl
theorem ym1 (ds : DS) (q c : Nat) (b : Option KB) : (ds.set q c b).nx = ds.nx := by unfold DS.set; split <;> rfl
theorem ywV (ds : DS) (q c : Nat) (b : Option KB) : (ds.set q c b).H = ds.H := by unfold DS.set; split <;> rfl
theorem DOk.set {ds : DS} {q c : Nat} {b : Option KB} (h : DOk ds) (hc : c = 1 ∨ c = 2) (hb : ∀ x, b = some x → bOk x) : DOk (ds.set q c b) := by
 intro d c' x hx
 rw [ypX ds q c b hc] at hx
 split at hx
 ·exact hb x hx
 ·exact h d c' x hx
theorem ysV (ds : DS) (q c : Nat) (b : Option KB) (hc : c = 1 ∨ c = 2) : (ds.set q c b).M = updK ds.M (.l q c) (b.map KB.blk) := by
 funext k
 unfold updK
 cases k with
 | h o => rcases hc with rfl | rfl <;> simp [DS.M, DS.set]
 | l d c' =>
   show ((ds.set q c b).kb d c').map KB.blk = _
   rw [ypX ds q c b hc]
   by_cases h : d = q ∧ c' = c
   ·simp [h]
   ·simp only [h, if_false, Key.l.injEq]; rfl
theorem ysN {ds : DS} {q c : Nat} {b : Option KB} (h : c = 1 ∨ (c = 2 ∧ memO ds.nw q = true)) : (ds.set q c b).cn = ds.cn := by
 funext d
 rcases h with rfl | ⟨rfl, hm⟩
 ·rfl
 ·unfold DS.cn
  show (match (Nat.beq q d || memO ds.nw d) with | true => 2 | false => 1) = _
  by_cases hd : q = d
  ·subst hd; rw [nbeq.2 rfl, hm]; rfl
  ·have : Nat.beq q d = false := by
    cases hb : Nat.beq q d with
    | true => exact absurd (nbeq.1 hb) hd
    | false => rfl
   rw [this]; rfl
theorem yvZ {ds : DS} {q : Nat} {b : Option KB} (h : memO ds.nw q = false) : (ds.set q 2 b).cn = upd ds.cn q (ds.cn q + 1) := by
 funext d
 unfold upd
 show (match (Nat.beq q d || memO ds.nw d) with | true => 2 | false => 1) = _
 by_cases hd : d = q
 ·subst hd; simp only [if_true, DS.cn, h, nbeq.2, Bool.true_or]
 ·have : Nat.beq q d = false := by
   cases hb : Nat.beq q d with
   | true => exact absurd (nbeq.1 hb).symm hd
   | false => rfl
  rw [this, if_neg hd]; rfl
abbrev KR (α : Type) := Option (List Prop × α)
def kok {α : Type} (o : Option α) : KR α := match o with
 | some v => some ([], v)
 | none => none
def kbin (op : BinOp) (k : IntKind) (a b : Int) : KR AV := match op with
 | .quo => some ([b ≠ 0], .it k (k.wrap (a.tdiv b)))
 | .rem => some ([b ≠ 0], .it k (a.tmod b))
 | op => kok (binI op k a b)
def kshi (op : BinOp) (k : IntKind) (a b : Int) : KR AV := match op with
 | .shl => some ([¬ b < 0], .it k (k.wrap (a * 2 ^ (min b.toNat k.bits))))
 | .shr => some ([¬ b < 0], .it k (a.fdiv (2 ^ (min b.toNat k.bits))))
 | _ => none
def kstr (op : BinOp) (a b : List UInt8) : KR AV := match op with
 | .add => some ([a.length + b.length ≤ 9223372036854775807], .st (a ++ b))
 | op => kok (binS op a b)
def ngB (g b : Bool) : Bool := match g with
 | false => b
 | true => !b
theorem ywe (g b : Bool) : ngB g b = (g != b) := by cases g <;> cases b <;> rfl
def keq (live : Key → Bool) (g : Bool) (kind : Nat) (x y : AV) : KR AV := match x, y with
 | .sl true _ _, .sl true _ _ => if kind = 4 then some ([], .bl (!g)) else none
 | .sl false n _, .sl true _ _ => if kind = 4 then some ([0 < n], .bl g) else none
 | .sl true _ _, .sl false n _ => if kind = 4 then some ([0 < n], .bl g) else none
 | x, y => kok ((eqP live kind x y).map fun b => .bl (ngB g b))
def ksls (l : List UInt8) (lo hi : Option Int) : KR AV := match lo, hi with
 | some a, some b => some ([0 ≤ a ∧ a ≤ b ∧ b ≤ l.length], .st ((l.drop a.toNat).take (b.toNat - a.toNat)))
 | _, _ => none
def kpv (live : Key → Bool) (fr : List (Nat × AV)) (u : AOp) : KR AV := match u with
 | .bin op x y => match ev (lkF fr) x, ev (lkF fr) y with
   | .it k a, .it k' b => if op = .shl ∨ op = .shr then kshi op k a b else if k = k' then kbin op k a b else none
   | .st a, .st b => kstr op a b
   | _, _ => none
 | .eq g kind x y => keq live g kind (ev (lkF fr) x) (ev (lkF fr) y)
 | .eqs g kinds x y => match ev (lkF fr) x, ev (lkF fr) y with
   | .agg a, .agg b => kok ((eqL kinds a b).map fun r => .bl (ngB g r))
   | _, _ => none
 | .sls x lo hi => match ev (lkF fr) x with
   | .st l => ksls l (bnd (ev (lkF fr)) 0 lo) (bnd (ev (lkF fr)) l.length hi)
   | _ => none
 | .idxs x i => match ev (lkF fr) x, ev (lkF fr) i with
   | .st l, .it _ i => some ([0 ≤ i ∧ i < l.length], .it .u8 ((l[i.toNat]?.getD 0).toNat))
   | _, _ => none
 | .iad sz x i => match ev (lkF fr) x, ev (lkF fr) i with
   | .gs k n, .it _ i => match live k with
     | true => some ([0 ≤ i ∧ i < n], .pt k (i.toNat * sz))
     | false => none
   | .sl _ n xs, .it _ i => some ([0 ≤ i ∧ i < n], .ep xs (i.toNat * sz))
   | _, _ => none
 | .iada len sz x i => match ev (lkF fr) x, ev (lkF fr) i with
   | .pt k o, .it _ i => match live k with
     | true => some ([0 ≤ i ∧ i < len], .pt k (o + i.toNat * sz))
     | false => none
   | .ep xs o, .it _ i => some ([0 ≤ i ∧ i < len], .ep xs (o + i.toNat * sz))
   | _, _ => none
 | .idxa g len sz x i => match ev (lkF fr) x, ev (lkF fr) i with
   | .agg cs, .it _ q => match !g && Nat.beq sz 1 && Nat.ble len cs.length with
     | true => some ([0 ≤ q ∧ q < len], (cs[q.toNat]?).getD .un)
     | false => kok (pval live (ev (lkF fr)) (.idxa g len sz x i))
   | _, _ => none
 | .sll .. => none
 | u => kok (pval live (ev (lkF fr)) u)
theorem yjQ {α : Type} {o : Option α} {C : List Prop} {v : α} (h : kok o = some (C, v)) : o = some v ∧ C = [] := by
 cases o with
 | none => cases h
 | some u => simp only [kok, Option.some.injEq, Prod.mk.injEq] at h; exact ⟨by rw [h.2], h.1.symm⟩
theorem yyQ {live : Key → Bool} {fr : List (Nat × AV)} {u : AOp} {C : List Prop} {v : AV} (h : kpv live fr u = some (C, v)) (hC : AllP C) : pval live (ev (lkF fr)) u = some v := by
 unfold kpv at h
 split at h
 ·rename_i op x y
  simp only [pval]
  split at h
  ·rename_i k a k' b e1 e2
   rw [e1, e2]; simp only
   split at h
   ·rename_i hop
    rw [if_pos hop]
    unfold kshi at h
    split at h <;> simp only [Option.some.injEq, Prod.mk.injEq, reduceCtorEq] at h
    ·obtain ⟨rfl, rfl⟩ := h; simp only [shI]; rw [if_neg hC.1]
    ·obtain ⟨rfl, rfl⟩ := h; simp only [shI]; rw [if_neg hC.1]
   ·rename_i hop
    rw [if_neg hop]
    split at h
    ·rename_i hk
     rw [if_pos hk]
     unfold kbin at h
     split at h
     ·simp only [Option.some.injEq, Prod.mk.injEq] at h; obtain ⟨rfl, rfl⟩ := h; simp only [binI]; rw [if_neg hC.1]
     ·simp only [Option.some.injEq, Prod.mk.injEq] at h; obtain ⟨rfl, rfl⟩ := h; simp only [binI]; rw [if_neg hC.1]
     ·exact (yjQ h).1
    ·cases h
  ·rename_i a b e1 e2
   rw [e1, e2]; simp only
   unfold kstr at h
   split at h
   ·simp only [Option.some.injEq, Prod.mk.injEq] at h; obtain ⟨rfl, rfl⟩ := h; simp only [binS]; rw [if_pos hC.1]
   ·exact (yjQ h).1
  ·cases h
 ·rename_i g kind x y
  simp only [pval]
  unfold keq at h
  split at h
  ·rename_i e1 e2
   rw [e1, e2]
   split at h
   ·rename_i hk; subst hk; simp only [Option.some.injEq, Prod.mk.injEq] at h; rw [← h.2]; cases g <;> rfl
   ·cases h
  ·rename_i e1 e2
   rw [e1, e2]
   split at h
   ·rename_i hk; subst hk; simp only [Option.some.injEq, Prod.mk.injEq] at h; obtain ⟨rfl, rfl⟩ := h; simp only [eqP]; rw [if_pos hC.1]; cases g <;> rfl
   ·cases h
  ·rename_i e1 e2
   rw [e1, e2]
   split at h
   ·rename_i hk; subst hk; simp only [Option.some.injEq, Prod.mk.injEq] at h; obtain ⟨rfl, rfl⟩ := h; simp only [eqP]; rw [if_pos hC.1]; cases g <;> rfl
   ·cases h
  ·have := (yjQ h).1
   rw [← this]
   congr 1
   funext b; rw [ywe]
 ·rename_i g kinds x y
  simp only [pval]
  split at h
  ·rename_i a b e1 e2
   rw [e1, e2]; simp only
   have := (yjQ h).1
   rw [← this]
   congr 1
   funext b; rw [ywe]
  ·cases h
 ·rename_i x lo hi
  simp only [pval]
  split at h
  ·rename_i l e1
   rw [e1]; simp only
   unfold ksls at h
   split at h
   ·rename_i a b e2 e3
    rw [e2, e3]; simp only
    simp only [Option.some.injEq, Prod.mk.injEq] at h; obtain ⟨rfl, rfl⟩ := h
    rw [if_pos hC.1]
   ·cases h
  ·cases h
 ·rename_i x j
  simp only [pval]
  split at h
  ·rename_i l k n e1 e2
   rw [e1, e2]; simp only
   simp only [Option.some.injEq, Prod.mk.injEq] at h; obtain ⟨rfl, rfl⟩ := h
   rw [if_pos hC.1]
  ·cases h
 ·rename_i sz x j
  simp only [pval]
  split at h
  ·rename_i k n k' m e1 e2
   rw [e1, e2]; simp only
   split at h
   ·rename_i hl
    simp only [Option.some.injEq, Prod.mk.injEq] at h; obtain ⟨rfl, rfl⟩ := h
    rw [if_pos ⟨hl, hC.1⟩]
   ·cases h
  ·rename_i z n xs k' m e1 e2
   rw [e1, e2]; simp only
   simp only [Option.some.injEq, Prod.mk.injEq] at h; obtain ⟨rfl, rfl⟩ := h
   rw [if_pos hC.1]
  ·cases h
 ·rename_i len sz x j
  simp only [pval]
  split at h
  ·rename_i k o k' m e1 e2
   rw [e1, e2]; simp only
   split at h
   ·rename_i hl
    simp only [Option.some.injEq, Prod.mk.injEq] at h; obtain ⟨rfl, rfl⟩ := h
    rw [if_pos ⟨hl, hC.1⟩]
   ·cases h
  ·rename_i xs o k' m e1 e2
   rw [e1, e2]; simp only
   simp only [Option.some.injEq, Prod.mk.injEq] at h; obtain ⟨rfl, rfl⟩ := h
   rw [if_pos hC.1]
  ·cases h
 ·rename_i g len sz x j
  split at h
  ·rename_i cs k q e1 e2
   split at h
   ·rename_i hb
    simp only [Bool.and_eq_true, Bool.not_eq_true'] at hb
    obtain ⟨⟨hg, hz⟩, hl⟩ := hb
    simp only [Option.some.injEq, Prod.mk.injEq] at h
    obtain ⟨rfl, rfl⟩ := h
    have hz' := nbeq.1 hz
    subst hz'
    subst hg
    have hC1 : 0 ≤ q ∧ q < len := hC.1
    have hlt : q.toNat < cs.length := by have := Nat.le_of_ble_eq_true hl; omega
    simp only [pval, e1, e2]
    rw [if_pos hC1]
    simp only [Nat.mul_one, Bool.false_eq_true, if_false]
    rw [List.getElem?_eq_getElem hlt]; rfl
   ·exact (yjQ h).1
  ·cases h
 ·cases h
 ·exact (yjQ h).1
structure Eff (u : AOp) (d : Option Nat) (ds : DS) (e : REff) (ds' : DS) : Prop where
 eff : effA (fun _ => false) u d (toD ds) = some e
 app : e.app d (toD ds) = toD ds'
 ok : DOk ds'
def yxR : AOp → Bool
 | .box .. | .bsl .. | .ld .. | .sto .. | .app .. | .apps .. | .sll .. | .mks .. | .b2s .. | .call .. | .calv .. | .s2b .. => true
 | _ => false
def kld (g : Bool) (sz : Nat) (cs : List AV) (off : Nat) : Option AV := match g with
 | true => if off + sz ≤ cs.length then some (.agg ((cs.drop off).take sz)) else none
 | false => cs[off]?
def kx (u : AOp) (d : Option Nat) (ds : DS) : KR (REff × DS) := match u with
 | .box e sz x => match memO ds.nw (site d) with
   | false => if (ev (lkF ds.fr) x).cells.length = sz ∧ (ev (lkF ds.fr) x).cells.all AV.one = true ∧ 0 < sz then some ([], ⟨.pt (.l (site d) 2) 0, [((site d, 2), some ⟨e, sz, (ev (lkF ds.fr) x).cells⟩)], [site d], none⟩, (ds.set (site d) 2 (some ⟨e, sz, (ev (lkF ds.fr) x).cells, false⟩)).put d (.pt (.l (site d) 2) 0)) else none
   | true => none
 | .bsl e sz len z parts => match memO ds.nw (site d), yia (ycu z len) (parts.map fun p => (p.1, p.2.1, ev (lkF ds.fr) p.2.2)) with
   | false, some cs => if z.length = sz ∧ 0 < sz ∧ len * sz ≤ 16777216 then some ([], ⟨.gs (.l (site d) 2) len, [((site d, 2), some ⟨e, sz, cs.map weak⟩)], [site d], none⟩, (ds.set (site d) 2 (some ⟨e, sz, cs.map weak, false⟩)).put d (.gs (.l (site d) 2) len)) else none
   | _, _ => none
 | .ld g sz x => match ev (lkF ds.fr) x with
   | .pt (.l s c) off => match ds.kb s c with
     | some b => match kld g sz b.cells off with
       | some v => some ([], eff1 v, ds.put d v)
       | none => none
     | none => none
   | .ep xs off => match kld g sz xs off with
     | some v => some ([], eff1 v, ds.put d v)
     | none => none
   | _ => none
 | .sto sz x y => match ev (lkF ds.fr) x with
   | .pt (.l s c) off => match ds.kb s c with
     | some b => if (ev (lkF ds.fr) y).cells.length = sz ∧ (ev (lkF ds.fr) y).cells.all AV.one = true ∧ off + sz ≤ b.cells.length then some ([], ⟨.un, [((s, c), some ⟨b.e, b.sz, b.cells.take off ++ (ev (lkF ds.fr) y).cells ++ b.cells.drop (off + sz)⟩)], [], none⟩, (ds.set s c (some ⟨b.e, b.sz, b.cells.take off ++ (ev (lkF ds.fr) y).cells ++ b.cells.drop (off + sz), false⟩)).put d .un) else none
     | none => none
   | _ => none
 | .app .. | .apps .. | .sll .. | .b2s .. | .s2b .. | .mks .. | .call .. | .calv .. => none
 | u => match kpv (ya3 (toD ds)) ds.fr u with
   | some (C, v) => some (C, eff1 v, ds.put d v)
   | none => none
theorem ycr (ds : DS) : (toD ds).fr = lkF ds.fr := rfl
theorem kb_c {ds : DS} {s c : Nat} {b : KB} (h : ds.kb s c = some b) : c = 1 ∨ (c = 2 ∧ memO ds.nw s = true) := by
 unfold DS.kb at h
 split at h
 ·rename_i hc; exact .inl (nbeq.1 hc)
 ·split at h
  ·rename_i hc
   refine .inr ⟨nbeq.1 hc, ?_⟩
   have : ∀ (l : List (Nat × Option KB)), lkO l s = some b → memO l s = true := by
    intro l
    induction l with
    | nil => intro h; cases h
    | cons p l ih =>
      intro h
      rw [yg8] at h
      simp only [memO]
      split at h
      ·rename_i e; rw [nbeq.2 e]; rfl
      ·rw [ih h, Bool.or_true]
   exact this _ h
  ·cases h
theorem yfC (v : AV) (d : Option Nat) (ds : DS) : (eff1 v).app d (toD ds) = toD (ds.put d v) := by
 unfold REff.app
 rw [ydv, ycm]; rfl
theorem yuD {ds : DS} {s c : Nat} {b : KB} {v : AV} {d : Option Nat} (hc : c = 1 ∨ (c = 2 ∧ memO ds.nw s = true)) : REff.app ⟨v, [((s, c), some b.blk)], [], none⟩ d (toD ds) = toD ((ds.set s c (some b)).put d v) := by
 rw [← ycm]
 unfold REff.app
 congr 1
 have hc' : c = 1 ∨ c = 2 := hc.imp id (·.1)
 unfold REff.mst toD
 simp only [St.mk.injEq]
 refine ⟨?_, ?_, ?_, ?_⟩
 ·unfold DS.set; split <;> rfl
 ·rw [ysV ds s c _ hc']; funext k; cases k <;> rfl
 ·rw [ysN hc]; exact (yg5 _).symm
 ·unfold DS.set; split <;> rfl
theorem yoB {ds : DS} {s : Nat} {b : KB} {v : AV} {d : Option Nat} (h : memO ds.nw s = false) : REff.app ⟨v, [((s, 2), some b.blk)], [s], none⟩ d (toD ds) = toD ((ds.set s 2 (some b)).put d v) := by
 rw [← ycm]
 unfold REff.app
 congr 1
 unfold REff.mst toD
 simp only [St.mk.injEq]
 refine ⟨rfl, ?_, ?_, rfl⟩
 ·rw [ysV ds s 2 _ (.inr rfl)]; funext k; cases k <;> rfl
 ·rw [yvZ h]; exact yr7 _ _
theorem yvn {ds : DS} {s q c : Nat} {b : KB} {v : AV} {d : Option Nat} (h : memO ds.nw s = false) (hc : c = 1 ∨ (c = 2 ∧ memO ds.nw q = true)) : REff.app ⟨v, [((q, c), none), ((s, 2), some b.blk)], [s], none⟩ d (toD ds) = toD (((ds.set q c none).set s 2 (some b)).put d v) := by
 rw [← ycm]
 unfold REff.app
 congr 1
 have hc' : c = 1 ∨ c = 2 := hc.imp id (·.1)
 have hne : q = s → c = 1 := by
  rintro rfl
  rcases hc with e | ⟨_, e⟩
  ·exact e
  ·rw [h] at e; cases e
 have hm : memO (ds.set q c none).nw s = false := by
  rcases hc with rfl | ⟨rfl, e⟩
  ·exact h
  ·show (Nat.beq q s || memO ds.nw s) = false
   rw [h, Bool.or_false]
   cases hb : Nat.beq q s with
   | true => have := hne (nbeq.1 hb); cases this
   | false => rfl
 unfold REff.mst toD
 simp only [St.mk.injEq]
 refine ⟨?_, ?_, ?_, ?_⟩
 ·rw [yp6, yp6]
 ·rw [ysV _ s 2 _ (.inr rfl), ysV ds q c _ hc']; funext k; cases k <;> rfl
 ·rw [yvZ hm, ysN hc]; exact yr7 _ _
 ·rw [ym1, ym1]
theorem yy4 {ds : DS} {s : Nat} (h : memO ds.nw s = false) : (toD ds).cnt s = 1 := by show ds.cn s = 1; unfold DS.cn; rw [h]
theorem yiN {ds : DS} {s : Nat} {ks : List (Nat × Nat)} {b : Blk} {v : Key → AV} (h : memO ds.nw s = false) : ye4 (fun _ => false) s (toD ds) ks b v = some ⟨v (.l s 2), ks.map (fun k => (k, none)) ++ [((s, 2), some b)], [s], none⟩ := by
 unfold ye4
 rw [if_pos rfl, yy4 h]
theorem yq5 {u : AOp} {d : Option Nat} {ds ds' : DS} {e : REff} {C : List Prop} (h : kx u d ds = some (C, e, ds')) (hC : AllP C) (hk : DOk ds) : Eff u d ds e ds' := by
 cases u
 case box ee sz x =>
  simp only [kx] at h
  split at h
  ·rename_i hm
   split at h
   ·rename_i hc
    simp only [Option.some.injEq, Prod.mk.injEq] at h
    obtain ⟨_, rfl, rfl⟩ := h
    refine ⟨?_, yoB (b := ⟨ee, sz, (ev (lkF ds.fr) x).cells, false⟩) hm, DOk.put (hk.set (.inr rfl) fun x hx => by cases hx; exact ⟨by have := hc.2.2; show sz ≠ 0; omega, fun q => by cases q⟩)⟩
    simp only [effA]
    rw [ycr, if_pos hc, yiN hm]; rfl
   ·cases h
  ·cases h
 case bsl ee sz len z parts =>
  simp only [kx] at h
  split at h
  ·rename_i cs hm hf
   split at h
   ·rename_i hc
    simp only [Option.some.injEq, Prod.mk.injEq] at h
    obtain ⟨_, rfl, rfl⟩ := h
    refine ⟨?_, yoB (b := ⟨ee, sz, cs.map weak, false⟩) hm, DOk.put (hk.set (.inr rfl) fun x hx => by cases hx; exact ⟨by have := hc.2.1; show sz ≠ 0; omega, fun q => by cases q⟩)⟩
    simp only [effA]
    rw [ycr, if_pos hc, hf, Option.bind_some, yiN hm]; rfl
   ·cases h
  ·cases h
 case ld g sz x =>
  simp only [kx] at h
  have hld : ∀ (cs : List AV) (off : Nat) (v : AV), kld g sz cs off = some v → ywG g sz (some (cs, off)) = some (eff1 v) := by
   intro cs off v hv
   unfold ywG
   cases g with
   | true =>
     simp only [kld] at hv
     split at hv
     ·rename_i hle; cases hv; simp [hle]
     ·cases hv
   | false => simp only [kld] at hv; simp [hv, effP]
  split at h
  ·rename_i s c off e1
   split at h
   ·rename_i b hb
    split at h
    ·rename_i v hv
     simp only [Option.some.injEq, Prod.mk.injEq] at h
     obtain ⟨_, rfl, rfl⟩ := h
     refine ⟨?_, yfC v d ds, DOk.put hk⟩
     simp only [effA]
     have : tgt (toD ds) (ev (toD ds).fr x) = some (b.cells, off) := by
      rw [ycr, e1]
      show (((ds.kb s c).map KB.blk).bind _) = _
      rw [hb]
      have hz := (hk s c b hb).1
      show (if b.sz = 0 then none else some (b.cells, off)) = _
      rw [if_neg hz]
     rw [this]; exact hld _ _ _ hv
    ·cases h
   ·cases h
  ·rename_i xs off e1
   split at h
   ·rename_i v hv
    simp only [Option.some.injEq, Prod.mk.injEq] at h
    obtain ⟨_, rfl, rfl⟩ := h
    refine ⟨?_, yfC v d ds, DOk.put hk⟩
    simp only [effA]
    rw [ycr, e1]; exact hld _ _ _ hv
   ·cases h
  ·cases h
 case sto sz x y =>
  simp only [kx] at h
  split at h
  ·rename_i s c off e1
   split at h
   ·rename_i b hb
    split at h
    ·rename_i hc
     simp only [Option.some.injEq, Prod.mk.injEq] at h
     obtain ⟨_, rfl, rfl⟩ := h
     have hcc := kb_c hb
     refine ⟨?_, yuD (b := ⟨b.e, b.sz, b.cells.take off ++ (ev (lkF ds.fr) y).cells ++ b.cells.drop (off + sz), false⟩) hcc, DOk.put (hk.set (hcc.imp id (·.1)) fun x hx => by cases hx; exact ⟨(hk s c b hb).1, fun q => by cases q⟩)⟩
     simp only [effA]
     rw [ycr, e1]
     show (((ds.kb s c).map KB.blk).bind _) = _
     rw [hb]
     simp only [Option.map_some, Option.bind_some]
     rw [if_pos ⟨(hk s c b hb).1, hc.1, hc.2.1, hc.2.2, rfl⟩]; rfl
    ·cases h
   ·cases h
  ·cases h
 all_goals first | (simp only [kx, reduceCtorEq] at h; done) | skip
 all_goals
  simp only [kx] at h
  split at h
  ·rename_i C' v hp
   simp only [Option.some.injEq, Prod.mk.injEq] at h
   obtain ⟨rfl, rfl, rfl⟩ := h
   have hpv := yyQ hp hC
   refine ⟨?_, yfC v d ds, DOk.put hk⟩
   show effP (pval (ya3 (toD ds)) (ev (lkF ds.fr)) _) = _
   rw [hpv]; rfl
  ·cases h
end Go.AV
end
noncomputable section
namespace Go.AV
open Go.RowKit Go.RG Go.Lib
def isMC : AOp → Bool
 | .call .. | .calv .. => true
 | _ => false
section
variable {P : Program} {B : Base} [GB P B] {N : Nat} {ro : Option Nat} {hs : Nat → Bool} {ks : KS}
end
section
variable {P : Program} {B : Base} [GB P B] {N : Nat} {ro : Option Nat} {hs : Nat → Bool} {ds : DS}
end
section
variable (P : Program) (B : Base) (N : Nat) (ro : Option Nat)
def RelD (ds : DS) (a : Act) (G : Gh) : Prop := Rel B N (toD ds) a G ∧ DOk ds
def WD (L : List AO) (i : Nat) (Q : KS → Prop) (ds : DS) : Prop := ∀ ops pre suf, ops.toList = pre ++ suf → ykj P N ops suf = some (L.drop i) → ∀ a G, RelD B N ds a G → wpOpsIn (FR ro) 0 P ops (ypa B N (nQ Q)) (List.range' pre.length suf.length) a G.w
end
section
variable {P : Program} {B : Base} [GB P B] {N : Nat} {ro : Option Nat} {hs : Nat → Bool} {L : List AO} {Q : KS → Prop} {ds : DS} {i : Nat}
theorem yuq {o : AO} (e : L[i]? = some o) : L.drop i = o :: L.drop (i + 1) := by
 have hi := (List.getElem?_eq_some_iff.1 e).1
 rw [List.drop_eq_getElem_cons hi]
 congr 1
 exact (List.getElem?_eq_some_iff.1 e).2
theorem yz2 (h : DOk ds → RE B N (toD ds) (fun ks => WD P B N ro L i Q (ofK ks))) : WD P B N ro L i Q ds := by
 have _ := (inferInstance : GB P B)
 intro ops pre suf he ht a G hR
 obtain ⟨k1, G1, e1, e2, e3⟩ := h hR.2 a G hR.1
 rw [← e1]
 exact e3 ops pre suf he ht a G1 ⟨by rw [yh8]; exact e2.1, yhp e2.2⟩
def gok (g : Option (Nat × Bool)) (fr : List (Nat × AV)) : Bool := match g with
 | none => true
 | some (d, b) => match lkF fr d with
   | .bl c => c == b
   | _ => false
def gno (g : Option (Nat × Bool)) (fr : List (Nat × AV)) : Bool := match g with
 | none => false
 | some (d, b) => match lkF fr d with
   | .bl c => c == !b
   | .tup [] => true
   | _ => false
theorem ysH {o : AO} (e : L[i]? = some o) (hg : gok o.guard ds.fr = true) (h : DOk ds → aop hs (ygc P) o.op o.dst (toD ds) (fun v S' => ∃ ds', S'.put o.dst v = toD ds' ∧ DOk ds' ∧ WD P B N ro L (i + 1) Q ds')) : WD P B N ro L i Q ds := by
 intro ops pre suf he ht a G hR
 rw [yuq e] at ht
 cases suf with
 | nil => simp [ykj] at ht
 | cons x suf =>
   have hat : ops[pre.length]? = some x := by rw [← Array.getElem?_toList, he]; simp
   simp only [ykj] at ht
   split at ht <;> first | (cases ht; done) | skip
   rename_i u g us h1 h2 h3 h4
   simp only [Option.some.injEq, List.cons.injEq] at ht
   obtain ⟨h5, h6⟩ := ht
   subst h5; subst h6
   rw [List.length_cons, List.range'_succ]
   simp only [wpOpsIn, hat]
   have hwant : Region.wanted x (yielded ops a.tmps) = true := by
    cases hx : x.guard with
    | none => simp [Region.wanted, hx]
    | some jb =>
      obtain ⟨j, want⟩ := jb
      rw [hx] at h2
      simp only [ygC] at h2
      split at h2 <;> first | (cases h2; done) | skip
      rename_i d' hd
      split at h2 <;> first | (cases h2; done) | skip
      rename_i hdN
      cases h2
      simp only [gok] at hg
      split at hg
      ·rename_i c hc
       have hdt : d' < a.tmps.size := by rw [hR.1.tsize]; exact hdN
       have hslot := hR.1.slot d' a.tmps[d'] (Array.getElem?_eq_getElem hdt)
       rw [show (toD ds).fr d' = .bl c from hc] at hslot
       have hb : a.tmps[d']? = some (.bool c) := by rw [Array.getElem?_eq_getElem hdt, hslot.bl_inv]
       simp [Region.wanted, hx, yielded, hd, hb]; simpa using hg
      ·cases hg
   rw [if_pos hwant]
   refine yt0 hR.1 h1 (h hR.2) fun av v S' G' hK hR' hv => ?_
   obtain ⟨ds', e1, e2, e3⟩ := hK
   have := e3 ops (pre ++ [x]) suf (by rw [he]; simp) h4 _ G' ⟨by rw [← e1]; exact hR'.put hv, e2⟩
   simpa using this
theorem yxY {o : AO} (e : L[i]? = some o) (hg : gno o.guard ds.fr = true) (h : WD P B N ro L (i + 1) Q (ds.put o.dst (.tup []))) : WD P B N ro L i Q ds := by
 have _ := (inferInstance : GB P B)
 intro ops pre suf he ht a G hR
 rw [yuq e] at ht
 cases suf with
 | nil => simp [ykj] at ht
 | cons x suf =>
   have hat : ops[pre.length]? = some x := by rw [← Array.getElem?_toList, he]; simp
   simp only [ykj] at ht
   split at ht <;> first | (cases ht; done) | skip
   rename_i u g us h1 h2 h3 h4
   simp only [Option.some.injEq, List.cons.injEq] at ht
   obtain ⟨h5, h6⟩ := ht
   subst h5; subst h6
   rw [List.length_cons, List.range'_succ]
   simp only [wpOpsIn, hat]
   have hwant : Region.wanted x (yielded ops a.tmps) = false := by
    cases hx : x.guard with
    | none =>
      rw [hx] at h2
      simp only [ygC, Option.some.injEq] at h2; subst h2
      cases hg
    | some jb =>
      obtain ⟨j, want⟩ := jb
      rw [hx] at h2
      simp only [ygC] at h2
      split at h2 <;> first | (cases h2; done) | skip
      rename_i d' hd
      split at h2 <;> first | (cases h2; done) | skip
      rename_i hdN
      cases h2
      have hdt : d' < a.tmps.size := by rw [hR.1.tsize]; exact hdN
      have hslot := hR.1.slot d' a.tmps[d'] (Array.getElem?_eq_getElem hdt)
      simp only [gno] at hg
      split at hg
      ·rename_i c hc
       rw [show (toD ds).fr d' = .bl c from hc] at hslot
       have hb : a.tmps[d']? = some (.bool c) := by rw [Array.getElem?_eq_getElem hdt, hslot.bl_inv]
       have hg' : c = !want := by simpa using hg
       simp [Region.wanted, hx, yielded, hd, hb, hg']
      ·rename_i hc
       rw [show (toD ds).fr d' = .tup [] from hc] at hslot
       obtain ⟨vs, q0, q1, _⟩ := hslot.tup_inv
       have hb : a.tmps[d']? = some (.tuple vs) := by rw [Array.getElem?_eq_getElem hdt, q0]
       simp [Region.wanted, hx, yielded, hd, hb]
      ·cases hg
   rw [if_neg (by rw [hwant]; simp)]
   refine ⟨fun _ _ => trivial, ?_⟩
   have := h ops (pre ++ [x]) suf (by rw [he]; simp) h4 (a.put x.dst undef) G ⟨by rw [← ycm]; exact hR.1.put (.tup [] #[] rfl (fun j u x hu => by simp at hu)), hR.2.put⟩
   simpa using this
theorem WD_e {o : AO} {e : REff} {ds' : DS} (e0 : L[i]? = some o) (hg : gok o.guard ds.fr = true) (h : DOk ds → Eff o.op o.dst ds e ds') (hc : isMC o.op = false) (k : WD P B N ro L (i + 1) Q ds') : WD P B N ro L i Q ds := by
 refine ysH (hs := fun _ => false) e0 hg fun hk => ?_
 obtain ⟨h1, h2, h3⟩ := h hk
 have hE : yjP (fun _ => false) P o.op o.dst (toD ds) e := by
  cases hop : o.op <;> rw [hop] at h1 hc <;> first | exact h1 | (cases hc; done)
 exact yvE hE ⟨ds', h2, h3, k⟩
theorem ywS {d : Nat} {b : Bool} (hv : lkF ds.fr d = .bl b) (h1 : b = true → WD P B N ro L i Q (ds.put (some d) (.bl true))) (h2 : b = false → WD P B N ro L i Q (ds.put (some d) (.bl false))) : WD P B N ro L i Q ds := by
 have _ := (inferInstance : GB P B)
 have key : toD ds = toD (ds.put (some d) (.bl b)) := by
  rw [← ycm]
  unfold toD St.put
  simp only [St.mk.injEq, and_true]
  funext t
  unfold upd
  by_cases h : t = d
  ·subst h; simp [hv]
  ·simp [h]
 have hh : WD P B N ro L i Q (ds.put (some d) (.bl b)) := by cases b; exact h2 rfl; exact h1 rfl
 intro ops pre suf he ht a G hR
 exact hh ops pre suf he ht a G ⟨by rw [← key]; exact hR.1, hR.2.put⟩
theorem yyk {t n : Nat} {z : Bool} {xs : List AV} (ht : t < N) (e : lkF ds.fr t = .sl z n xs) (h : n ≤ maxLen → WD P B N ro L i Q ds) : WD P B N ro L i Q ds := by
 have _ := (inferInstance : GB P B)
 intro ops pre suf he hts a G hR
 refine h ?_ ops pre suf he hts a G hR
 have hdt : t < a.tmps.size := by rw [hR.1.tsize]; exact ht
 have hslot := hR.1.slot t a.tmps[t] (Array.getElem?_eq_getElem hdt)
 rw [show (toD ds).fr t = .sl z n xs from e] at hslot
 rcases hslot.sl_inv with ⟨_, h0, _⟩ | ⟨_, h0, _⟩ | ⟨_, b, off, cap, f, _, _, _, _, _, _, hm, _⟩
 ·rw [h0]; exact Nat.zero_le _
 ·rw [h0]; exact Nat.zero_le _
 ·exact hm
end
def DD (P : Program) (L : List (AO × List Nat)) (i : Nat) (acc : List Foot) (Q : St → Prop) (ds : DS) : Prop := DOk ds → runD (fun _ => false) P (L.drop i) acc Q (toD ds)
section
variable {P : Program} {B : Base} [GB P B] {N : Nat} {L : List (AO × List Nat)} {Q : St → Prop} {ds : DS} {i : Nat} {acc : List Foot}
theorem yrp {o : AO × List Nat} (e : L[i]? = some o) : L.drop i = o :: L.drop (i + 1) := by
 have hi := (List.getElem?_eq_some_iff.1 e).1
 rw [List.drop_eq_getElem_cons hi]
 congr 1
 exact (List.getElem?_eq_some_iff.1 e).2
theorem yto {o : AO} {fre : List Nat} (e0 : L[i]? = some (o, fre)) (hg : gok o.guard ds.fr = true) (h : DOk ds → eop (fun _ => false) P o.op o.dst (toD ds) fun e => yjt (ycv o.op (toD ds) e) acc fre ∧ runD (fun _ => false) P (L.drop (i + 1)) (acc ++ [ycv o.op (toD ds) e]) Q (e.app o.dst (toD ds))) : DD P L i acc Q ds := by
 intro hk
 rw [yrp e0]
 simp only [runD]
 cases hq : o.guard with
 | none => exact h hk
 | some p =>
   obtain ⟨g, b⟩ := p
   rw [hq] at hg
   simp only [gok] at hg
   split at hg
   ·rename_i c hc
    simp only
    rw [show (toD ds).fr g = .bl c from hc]
    simp only
    rw [if_pos (by simpa using hg)]
    exact h hk
   ·cases hg
theorem yy5 {o : AO} {fre : List Nat} (e0 : L[i]? = some (o, fre)) (hg : gno o.guard ds.fr = true) (k : DD P L (i + 1) (acc ++ [yfL]) Q (ds.put o.dst (.tup []))) : DD P L i acc Q ds := by
 intro hk
 rw [yrp e0]
 simp only [runD]
 cases hq : o.guard with
 | none => rw [hq] at hg; cases hg
 | some p =>
   obtain ⟨g, b⟩ := p
   rw [hq] at hg
   simp only [gno] at hg
   simp only
   split at hg
   ·rename_i c hc
    rw [show (toD ds).fr g = .bl c from hc]
    simp only
    have : c = !b := by simpa using hg
    rw [if_neg (by rw [this]; cases b <;> simp), ycm]
    exact k hk.put
   ·rename_i hc
    rw [show (toD ds).fr g = .tup [] from hc]
    simp only
    rw [ycm]
    exact k hk.put
   ·cases hg
theorem yws {d : Nat} {b : Bool} (hv : lkF ds.fr d = .bl b) (h1 : b = true → DD P L i acc Q (ds.put (some d) (.bl true))) (h2 : b = false → DD P L i acc Q (ds.put (some d) (.bl false))) : DD P L i acc Q ds := by
 have key : toD ds = toD (ds.put (some d) (.bl b)) := by
  rw [← ycm]
  unfold toD St.put
  simp only [St.mk.injEq, and_true]
  funext t
  unfold upd
  by_cases h : t = d
  ·subst h; simp [hv]
  ·simp [h]
 have hh : DD P L i acc Q (ds.put (some d) (.bl b)) := by cases b; exact h2 rfl; exact h1 rfl
 intro hk
 rw [key]
 exact hh hk.put
end
end Go.AV
end
noncomputable section
namespace Go.AV
open Go.RowKit Go.RG Go.Lib
theorem ya7.weakR {P : Program} {f : FuncId} {args : List AV} {H : Hp} {n : Nat} {Post : AV → Hp → Nat → Prop} (h : ya7 P f args H n fun av H' n' => Post (weak av) H' n') : ya7 P f args H n Post := fun G vs hg hM hV =>
 (h G vs hg hM hV).mono fun _ _ ⟨v, av, H', n', G', a1, a2, a3, a4, a5, a6⟩ => ⟨v, weak av, H', n', G', a1, a2, a3, a4, a5.weak, by rw [yrP]; exact a6⟩
def yfJ : List AV → DS → Option (List AV × List (Nat × Nat) × DS)
 | [], ds => some ([], [], ds)
 | v :: r, ds => match v.noL with
   | true => match yfJ r ds with
     | some (vs, kl, d1) => some (v :: vs, kl, d1)
     | none => none
   | false => match v with
     | .gs (.l d c) n => match ds.kb d c with
       | some b => match Nat.beq b.cells.length (n * b.sz) && noLs b.cells with
         | true => match yfJ r (ds.set d c none) with
           | some (vs, kl, d1) => some (.sl false n b.cells :: vs, (d, c) :: kl, d1)
           | none => none
         | false => none
       | none => none
     | _ => none
theorem yru {ds : DS} {d c : Nat} {b : KB} (h : ds.kb d c = some b) : (toD ds).kill (.l d c) = toD (ds.set d c none) := by
 have hc := kb_c h
 unfold St.kill toD
 simp only [St.mk.injEq]
 exact ⟨by rw [yp6], by rw [ysV ds d c _ (hc.imp id (·.1))]; rfl, by rw [ysN hc], by rw [ym1]⟩
theorem yk9 : ∀ (vs : List AV) (ds : DS) (vs' : List AV) (kl : List (Nat × Nat)) (d1 : DS), DOk ds → yfJ vs ds = some (vs', kl, d1) → pubL vs (toD ds) = (vs', toD d1) ∧ pkL vs (toD ds) = kl ∧ DOk d1 ∧ d1.H = ds.H ∧ d1.nx = ds.nx
 | [], ds, vs', kl, d1, hk, h => by simp only [yfJ, Option.some.injEq, Prod.mk.injEq] at h; obtain ⟨rfl, rfl, rfl⟩ := h; exact ⟨rfl, rfl, hk, rfl, rfl⟩
 | v :: r, ds, vs', kl, d1, hk, h => by
   simp only [yfJ] at h
   split at h
   ·rename_i hn
    split at h
    ·rename_i vs kl' d1' h1
     cases h
     obtain ⟨a1, a2, a3, a4⟩ := yk9 r ds _ _ _ hk h1
     have e1 : pubV v (toD ds) = (v, toD ds) := by simp only [pubV, hn, if_true]
     have e2 : pkV v (toD ds) = [] := by simp only [pkV, hn, if_true]
     refine ⟨?_, ?_, a3, a4⟩
     ·simp only [pubL, e1, a1]
     ·simp only [pkL, e2, List.nil_append]; exact a2
    ·cases h
   ·rename_i hn
    split at h
    ·rename_i d c n
     split at h
     ·rename_i b hb
      split at h
      ·rename_i hc
       simp only [Bool.and_eq_true] at hc
       split at h
       ·rename_i vs kl' d1' h1
        cases h
        obtain ⟨a1, a2, a3, a4, a5⟩ := yk9 r _ _ _ _ (hk.set ((kb_c hb).imp id (·.1)) fun x hx => by cases hx) h1
        have hm : (toD ds).M (.l d c) = some b.blk := by show (ds.kb d c).map KB.blk = _; rw [hb]; rfl
        have hcond : b.blk.cells.length = n * b.blk.sz ∧ b.blk.sz ≠ 0 ∧ noLs b.blk.cells = true := ⟨nbeq.1 hc.1, (hk d c b hb).1, hc.2⟩
        have e1 : pubV (.gs (.l d c) n) (toD ds) = (.sl false n b.cells, toD (ds.set d c none)) := by
         simp only [pubV, hn, Bool.false_eq_true, if_false, pub1, hm]
         rw [if_pos hcond, yru hb]; rfl
        have e2 : pkV (.gs (.l d c) n) (toD ds) = [(d, c)] := by
         simp only [pkV, hn, Bool.false_eq_true, if_false, pk1, hm]
         rw [if_pos hcond]
        have e3 : (toD ds).kills [(d, c)] = toD (ds.set d c none) := by rw [← yru hb]; rfl
        refine ⟨?_, ?_, a3, by rw [a4, ywV], by rw [a5, ym1]⟩
        ·simp only [pubL, e1, a1]
        ·simp only [pkL, e2, e3, a2]; rfl
       ·cases h
      ·cases h
     ·cases h
    ·cases h
def CalO (o : AO) (ds : DS) (f : FuncId) (vs : List AV) : Prop := (∃ args, o.op = .call f args ∧ args.map (ev (lkF ds.fr)) = vs) ∨ ∃ x args first cap, o.op = .calv x args ∧ ev (lkF ds.fr) x = .fn (.func f) first cap ∧ first ++ args.map (ev (lkF ds.fr)) ++ cap = vs
section
variable {P : Program} {B : Base} [GB P B] {N : Nat} {ro : Option Nat} {hs : Nat → Bool} {L : List AO} {LD : List (AO × List Nat)} {Q : KS → Prop} {QD : St → Prop} {ds : DS} {i : Nat} {acc : List Foot}
end
section
variable {P : Program} {B : Base} [GB P B] {N : Nat} {ro : Option Nat} {hs : Nat → Bool} {L : List AO} {Q : KS → Prop} {ks : KS} {i : Nat}
def sqQ (Q : AEx → KS → Prop) (K : KS → Prop) : AEx → KS → Prop := fun e ks => match e with
 | .n => K ks
 | .x i => Q (.x i) ks
 | .r => Q .r ks
def bkQ (id : Nat) (Q : AEx → KS → Prop) : AEx → KS → Prop := fun e ks => match e with
 | .n => Q .n ks
 | .x i => match Nat.beq i id with
   | true => Q .n ks
   | false => Q (.x i) ks
 | .r => Q .r ks
theorem ypa.mono {Q Q' : AEx → KS → Prop} (h : ∀ e ks, Q e ks → Q' e ks) {e : Exit} {a : Act} {w : World} (hp : ypa B N Q e a w) : ypa B N Q' e a w := by
 obtain ⟨ks, G, h1, h2, h3⟩ := hp
 refine ⟨ks, G, h1, h2, ?_⟩
 cases e <;> first | exact h _ _ h3 | exact h3
theorem yza {c : Code} (h : trC P N c = some (.ops L)) : ∃ id ops, c = .region id ops false ∧ ykj P N ops ops.toList = some L := by
 cases c
 case region id ops draw =>
  cases draw with
  | false => simp only [trC] at h; obtain ⟨l, hl, e⟩ := Option.map_eq_some_iff.1 h; cases e; exact ⟨id, ops, rfl, hl⟩
  | true => simp only [trC] at h; obtain ⟨l, hl, e⟩ := Option.map_eq_some_iff.1 h; cases e
 all_goals (exfalso; revert h; unfold trC; (try split) <;> (try split) <;> simp)
theorem yyx {c : Code} {l : List (AO × List Nat)} (h : trC P N c = some (.drw l)) : ∃ id ops, c = .region id ops true ∧ trD P N ops = some l := by
 cases c
 case region id ops draw =>
  cases draw with
  | false => simp only [trC] at h; obtain ⟨l, hl, e⟩ := Option.map_eq_some_iff.1 h; cases e
  | true => simp only [trC] at h; obtain ⟨l, hl, e⟩ := Option.map_eq_some_iff.1 h; cases e; exact ⟨id, ops, rfl, hl⟩
 all_goals (exfalso; revert h; unfold trC; (try split) <;> (try split) <;> simp)
theorem yw6 {c : Code} (h : trC P N c = some .skip) : c = .skip := by
 cases c
 case skip => rfl
 case region id ops draw => cases draw <;> (exfalso; revert h; unfold trC; simp)
 all_goals (exfalso; revert h; unfold trC; (try split) <;> (try split) <;> simp)
theorem yyn {c : Code} {a b : ye0} (h : trC P N c = some (.seq a b)) : ∃ x y, c = .seq x y ∧ trC P N x = some a ∧ trC P N y = some b := by
 cases c
 case seq x y =>
  simp only [trC] at h
  split at h
  ·rename_i h1 h2; cases h; exact ⟨x, y, rfl, h1, h2⟩
  ·cases h
 case region id ops draw => cases draw <;> (exfalso; revert h; unfold trC; simp)
 all_goals (exfalso; revert h; unfold trC; (try split) <;> (try split) <;> simp)
theorem yxw {c : Code} {u : AOpd} {a b : ye0} (h : trC P N c = some (.cond u a b)) : ∃ o x y, c = .cond o x y ∧ yaF P N o = some u ∧ trC P N x = some a ∧ trC P N y = some b := by
 cases c
 case cond o x y =>
  simp only [trC] at h
  split at h
  ·rename_i h0 h1 h2; cases h; exact ⟨o, x, y, rfl, h0, h1, h2⟩
  ·cases h
 case region id ops draw => cases draw <;> (exfalso; revert h; unfold trC; simp)
 all_goals (exfalso; revert h; unfold trC; (try split) <;> (try split) <;> simp)
theorem yuX {c : Code} {id : Nat} {a : ye0} (h : trC P N c = some (.block id a)) : ∃ x, c = .block id x ∧ trC P N x = some a := by
 cases c
 case block id' x => simp only [trC] at h; obtain ⟨l, hl, e⟩ := Option.map_eq_some_iff.1 h; cases e; exact ⟨x, rfl, hl⟩
 case region id ops draw => cases draw <;> (exfalso; revert h; unfold trC; simp)
 all_goals (exfalso; revert h; unfold trC; (try split) <;> (try split) <;> simp)
theorem yxj {c : Code} {a : ye0} (h : trC P N c = some (.loop a)) : ∃ x, c = .loop x ∧ trC P N x = some a := by
 cases c
 case loop x => simp only [trC] at h; obtain ⟨l, hl, e⟩ := Option.map_eq_some_iff.1 h; cases e; exact ⟨x, rfl, hl⟩
 case region id ops draw => cases draw <;> (exfalso; revert h; unfold trC; simp)
 all_goals (exfalso; revert h; unfold trC; (try split) <;> (try split) <;> simp)
theorem yxs {c : Code} {id : Nat} (h : trC P N c = some (.exit id)) : c = .exit id := by
 cases c
 case exit id' => simp only [trC, Option.some.injEq, ye0.exit.injEq] at h; rw [h]
 case region id ops draw => cases draw <;> (exfalso; revert h; unfold trC; simp)
 all_goals (exfalso; revert h; unfold trC; (try split) <;> (try split) <;> simp)
theorem yx7 {c : Code} (h : trC P N c = some .ret) : c = .ret := by
 cases c
 case ret => rfl
 case region id ops draw => cases draw <;> (exfalso; revert h; unfold trC; simp)
 all_goals (exfalso; revert h; unfold trC; (try split) <;> (try split) <;> simp)
theorem yx8 {Q : AEx → KS → Prop} (h : WD P B N ro L 0 (Q .n) (ofK ks)) : WK P B N ro (.ops L) Q ks := by
 have _ := (inferInstance : GB P B)
 intro c ht a G hR
 obtain ⟨id, ops, rfl, hl⟩ := yza ht
 have := h ops [] ops.toList rfl (by rw [List.drop_zero]; exact hl) a G ⟨by rw [yh8]; exact hR.1, yhp hR.2⟩
 have h2 : wpOpsIn (FR ro) 0 P ops (ypa B N (nQ (Q .n))) (List.range ops.size) a G.w := by rw [List.range_eq_range']; simpa using this
 exact wpIn_mono (wpIn_region h2) fun e a w hp => ypa.mono (fun e ks q => by cases e <;> first | exact q | exact q.elim) hp
theorem yvF {a b : ye0} {Q : AEx → KS → Prop} (h : WK P B N ro a (sqQ Q (WK P B N ro b Q)) ks) : WK P B N ro (.seq a b) Q ks := by
 have _ := (inferInstance : GB P B)
 intro c ht act G hR
 obtain ⟨x, y, rfl, h1, h2⟩ := yyn ht
 refine wpIn_seq (wpIn_mono (h x h1 act G hR) ?_)
 rintro e a' w' ⟨k', G', hR', rfl, hq⟩
 cases e with
 | normal => exact hq y h2 a' G' hR'
 | exit id => exact ⟨k', G', hR', rfl, hq⟩
 | ret => exact ⟨k', G', hR', rfl, hq⟩
 | goto l => exact hq.elim
 | panic ch => exact hq.elim
 | outgrown => exact hq.elim
theorem yxE {Q : AEx → KS → Prop} (h : Q .n ks) : WK P B N ro .skip Q ks := by
 have _ := (inferInstance : GB P B)
 intro c ht a G hR
 rw [yw6 ht]
 exact wpIn_skip ⟨ks, G, hR, rfl, h⟩
theorem yww {id : Nat} {Q : AEx → KS → Prop} (h : Q (.x id) ks) : WK P B N ro (.exit id) Q ks := by
 have _ := (inferInstance : GB P B)
 intro c ht a G hR
 rw [yxs ht]
 exact wpIn_exit ⟨ks, G, hR, rfl, h⟩
theorem yyW {Q : AEx → KS → Prop} (h : Q .r ks) : WK P B N ro .ret Q ks := by
 have _ := (inferInstance : GB P B)
 intro c ht a G hR
 rw [yx7 ht]
 exact wpIn_ret ⟨ks, G, hR, rfl, h⟩
theorem yqk {u : AOpd} {t e : ye0} {b : Bool} {Q : AEx → KS → Prop} (hv : ev (lkF ks.fr) u = .bl b) (h1 : b = true → WK P B N ro t Q ks) (h2 : b = false → WK P B N ro e Q ks) : WK P B N ro (.cond u t e) Q ks := by
 intro c ht a G hR
 obtain ⟨o, x, y, rfl, g0, g1, g2⟩ := yxw ht
 exact wpIn_cond_split (ysn hR.1 g0 hv) (fun hb => h1 hb x g1 a G hR) (fun hb => h2 hb y g2 a G hR)
theorem yu5 {id : Nat} {a : ye0} {Q : AEx → KS → Prop} (h : WK P B N ro a (bkQ id Q) ks) : WK P B N ro (.block id a) Q ks := by
 have _ := (inferInstance : GB P B)
 intro c ht act G hR
 obtain ⟨x, rfl, h1⟩ := yuX ht
 refine wpIn_block (wpIn_mono (h x h1 act G hR) ?_)
 rintro e a' w' ⟨k', G', hR', rfl, hq⟩
 cases e with
 | normal => exact ⟨k', G', hR', rfl, hq⟩
 | exit id' =>
   simp only [exK, bkQ] at hq
   show if id' = id then _ else _
   split at hq
   ·rename_i e; rw [if_pos (nbeq.1 e)]; exact ⟨k', G', hR', rfl, hq⟩
   ·rename_i e; rw [if_neg (fun q => by rw [nbeq.2 q] at e; cases e)]; exact ⟨k', G', hR', rfl, hq⟩
 | ret => exact ⟨k', G', hR', rfl, hq⟩
 | goto l => exact hq.elim
 | panic ch => exact hq.elim
 | outgrown => exact hq.elim
theorem yqU {F : Fence} {nn : Nat} {c : Code} {Q : Exit → Act → World → Prop} {a : Act} {w : World} (h : ∀ X : Act → World → Prop, (∀ a w, c.wpIn F nn P (Exit.then X Q) a w → X a w) → X a w) : (Code.loop c).wpIn F nn P Q a w := by
 intro b k cs hro hb hr
 have key : ∃ e a' w', Q e a' w' ∧ ArrivesIn (Machine.fenced P F) P (lone (b.atR a (.code c :: .inLoop c :: k)) cs w) b k cs e a' w' := by
  refine h (fun a w => ∃ e a' w', Q e a' w' ∧ ArrivesIn (Machine.fenced P F) P (lone (b.atR a (.code c :: .inLoop c :: k)) cs w) b k cs e a' w') fun a w hw => ?_
  obtain ⟨e, a₁, w₁, hq, harr⟩ := hw b (.inLoop c :: k) cs hro hb hr
  cases e with
  | normal =>
    obtain ⟨e₂, a₂, w₂, hq₂, harr₂⟩ := hq
    exact ⟨e₂, a₂, w₂, hq₂, .of_steps (StepsIn.trans harr (.one (fenced_calm hb hr rfl) stepR_inLoop)) harr₂⟩
  | exit id => exact ⟨_, a₁, w₁, hq, .pass (x := .inLoop c) rfl (fun _ _ => .inl (by simp)) harr⟩
  | goto l => exact ⟨_, a₁, w₁, hq, .pass (x := .inLoop c) rfl (fun _ _ => .inl (by simp)) harr⟩
  | ret => exact ⟨_, a₁, w₁, hq, .pass (x := .inLoop c) rfl (fun _ _ => .inl (by simp)) harr⟩
  | panic ch => exact ⟨_, a₁, w₁, hq, .pass (x := .inLoop c) rfl (fun _ _ => .inl (by simp)) harr⟩
  | outgrown => exact ⟨_, a₁, w₁, hq, .pass (x := .inLoop c) rfl (fun _ _ => .inl (by simp)) harr⟩
 obtain ⟨e, a', w', hq, harr⟩ := key
 exact ⟨e, a', w', hq, .of_steps (.one (fenced_calm hb hr rfl) stepR_loop) harr⟩
theorem yw5 {u : ye0} {Q : AEx → KS → Prop} (h : ∀ X : KS → Prop, (∀ ks, WK P B N ro u (sqQ Q X) ks → X ks) → X ks) : WK P B N ro (.loop u) Q ks := by
 have _ := (inferInstance : GB P B)
 intro c ht a G hR
 obtain ⟨x, rfl, h1⟩ := yxj ht
 refine yqU fun X' hX' => ?_
 refine h (fun ks => ∀ a G, RelK B N ks a G → X' a G.w) (fun ks hw a G hR => ?_) a G hR
 refine hX' a G.w (wpIn_mono (hw x h1 a G hR) ?_)
 rintro e a' w' ⟨k', G', hR', rfl, hq⟩
 cases e with
 | normal => exact hq a' G' hR'
 | exit id => exact ⟨k', G', hR', rfl, hq⟩
 | ret => exact ⟨k', G', hR', rfl, hq⟩
 | goto l => exact hq.elim
 | panic ch => exact hq.elim
 | outgrown => exact hq.elim
theorem yyf {l : List (AO × List Nat)} {Q : AEx → KS → Prop} (h : DD P l 0 [] (fun S => RE B N S (Q .n)) (ofK ks)) : WK P B N ro (.drw l) Q ks := by
 intro c ht a G hR
 obtain ⟨id, ops, rfl, hl⟩ := yyx ht
 have h' := h (yhp hR.2)
 rw [List.drop_zero, yh8] at h'
 refine yxG hl h' hR.1 fun S a G hQ hR => ?_
 obtain ⟨k1, G1, e1, e2, e3⟩ := hQ a G hR
 exact ⟨k1, G1, e2, e1, e3⟩
end
def entF : List AV → Nat → List (Nat × AV)
 | [], _ => []
 | u :: r, i => (i, u) :: entF r (i + 1)
def entK (args : List AV) (H : Hp) (n : Nat) : KS := ⟨entF args 0, [], H, n⟩
theorem yqr : ∀ (args : List AV) (i t : Nat), lkF (entF args i) t = if i ≤ t then (args[t - i]?).getD .un else .un
 | [], i, t => by simp [entF, lkF]
 | u :: r, i, t => by
   simp only [entF]
   rw [ydb, yqr r (i + 1) t]
   by_cases h : i = t
   ·subst h; simp
   ·simp only [h, if_false]
    by_cases h2 : i ≤ t
    ·have h3 : i + 1 ≤ t := by omega
     rw [if_pos h2, if_pos h3]
     have : t - i = (t - (i + 1)) + 1 := by omega
     rw [this, List.getElem?_cons_succ]
    ·have h3 : ¬ i + 1 ≤ t := by omega
     rw [if_neg h2, if_neg h3]
def retK (l : List (Nat × Option Nat)) (Post : AV → Hp → Nat → Prop) : AEx → KS → Prop
 | .x _, _ => False
 | _, ks => wpv (resA (toS ks) l) fun u => u.noL = true ∧ Post (weak u) ks.H ks.nx
theorem ytm {P : Program} {f : FuncId} {F : AFn} (hF : trF P f = some F) {args : List AV} {H : Hp} {n : Nat} {Post : AV → Hp → Nat → Prop} (hN : args.length ≤ F.N) (hnl : noLs args = true) (hw : ∀ (B : Base) [GB P B], (ydZ B) → WK P B F.N none F.body (retK F.res Post) (entK args H n)) : ya7 P f args H n Post := by
 refine ya7.weakR ?_
 intro G vs hg hM hV
 haveI : GB P (ybp G n) := GB.of hg hM
 unfold trF at hF
 split at hF <;> first | (cases hF; done) | skip
 rename_i fn hfn
 split at hF <;> first | (cases hF; done) | skip
 rename_i b hb
 split at hF <;> first | (cases hF; done) | skip
 rename_i r c hr hc
 cases hF
 split at hb
 ·cases hb
 ·rename_i hname
  have hcall : (callFunc f vs).run P G.w = .ok (.enter f vs) G.w := by
   simp only [callFunc, Sem.run_bind, run_program, Result.andThen_ok, hfn]
   rw [if_neg hname]
   simp [hb]
  unfold yhG
  rw [hcall]
  have hvl : vs.size = args.length := by simpa using hV.1
  have hBl : ∀ d c, (ybp G n).κ (.l d c) = none := fun d c => hM.κnone (k := .l d c) rfl
  have hrel : Rel (ybp G n) fn.ntmps (yt5 args H n) { tmps := vs ++ Array.replicate (fn.ntmps - vs.size) undef, defers := [] } G := by
   refine { (show MRel (ybp G n) (yt5 args H n) G from hM.fr (yt5 args H n).fr) with defers := DfOk.nil _ _, tsize := by simp [hvl]; simp only at hN; omega, slot := ?_ }
   intro t v hv
   show VR G (argF args t) v
   unfold argF
   by_cases ht : t < vs.size
   ·rw [Array.getElem?_append_left ht] at hv
    have hta : t < args.length := by omega
    rw [List.getElem?_eq_getElem hta]
    exact hV.2 t _ v (List.getElem?_eq_getElem hta) (by simpa using hv)
   ·rw [Array.getElem?_append_right (by omega)] at hv
    rw [List.getElem?_eq_none (by omega)]
    have hv' : v = undef := by
     rw [Array.getElem?_replicate] at hv
     split at hv
     ·exact (Option.some.inj hv).symm
     ·cases hv
    rw [hv']
    exact .tup [] #[] rfl (fun j u x hu => by simp at hu)
  have hfr : ∀ t, RV (fun _ => none) (yt5 args H n) (fun _ => False) (lkF (entK args H n).fr t) ((yt5 args H n).fr t) := by
   intro t
   show RV _ _ _ (lkF (entF args 0) t) (argF args t)
   rw [yqr]
   simp only [Nat.zero_le, if_true, Nat.sub_zero]
   unfold argF
   cases hq : args[t]? with
   | none => exact .un _
   | some u => exact .no u (ybs hnl t u hq)
  obtain ⟨G1, w1, hrel1⟩ := yv7 (ks := entK args H n) (ρ := fun _ => none) (p := fun _ => False) hrel (ydZ.none hBl) { fix := fun d k _ h => (by cases h), dom := fun d b h => (by cases h), at' := fun d k h => (by cases h), inj := fun d d' k h => (by cases h), disj := fun k d h => h.elim, pub := fun k h => h.elim, H := fun _ => rfl, nx := rfl, fr := hfr }
  refine (callsIn_wide (n := 0)).1 (callsIn_of_wp_marks hfn hb trivial ?_)
  rw [← w1]
  refine wpIn_mono (hw (ybp G n) (ydZ.none hBl) b hc _ G1 ⟨hrel1, fun d b h => by cases h⟩) ?_
  rintro e a' w' ⟨k', G', hR, rfl, hq⟩
  have fin : retK r Post .r k' → LeavesInM Fence.wide 0 P fn a'.tmps (fun e w' => ∃ v av H' n' G', e = .returned v ∧ Post (weak av) H' n' ∧ MRel (ybp G n) (hSt H' n') G' ∧ G'.w = w' ∧ VR G' av v ∧ av.noL = true) a'.defers .returning G'.w := by
   intro hq
   obtain ⟨u, hu, hno, hP⟩ := ydk hq
   obtain ⟨rs, G0, d1, d2, d3, d4, d5⟩ := hR.1.leave
   rw [d1]
   refine yp7 rs _ d2 d3 ?_
   obtain ⟨v, hrun, hv⟩ := ysQ d5 hr hu
   obtain ⟨G2, q1, q2, q3, q4, q5⟩ := d5.toMRel.forget hBl
   rw [d4] at hrun
   exact ⟨v, hrun, v, _, _, _, G2, rfl, hP, q2, q1.trans d4, VR.noL (G := G0) (G' := G2) q3 q4 q5 q1 hv hno, hno⟩
  cases e with
  | normal => exact fin hq
  | ret => exact fin hq
  | exit id => exact hq.elim
  | goto l => exact hq.elim
  | panic ch => exact hq.elim
  | outgrown => exact hq.elim
theorem ywF (fr : List (Nat × AV)) (mem : List (Nat × KB)) (H : Hp) (n : Nat) : toS ⟨fr, mem, H, n⟩ = { lSt (fun d => (lkM mem d).map KB.blk) H n with fr := lkF fr } := by
 unfold toS lSt
 simp only [St.mk.injEq, true_and, and_true]
 funext k
 cases k with
 | h o => rfl
 | l d c =>
   simp only [KS.M]
   by_cases h : c = 1
   ·rw [if_pos h, nbeq.2 h]
   ·rw [if_neg h]
    cases hb : Nat.beq c 1 with
    | true => exact absurd (nbeq.1 hb) h
    | false => rfl
def yxz (l : List (Nat × Option Nat)) (Post : AV → KS → Prop) : AEx → KS → Prop
 | .x _, _ => False
 | _, ks => wpv (resA (toS ks) l) fun u => Post u ks
theorem ysm {P : Program} {f : FuncId} {F : AFn} (hF : trF P f = some F) {args : List AV} {mem : List (Nat × KB)} {H : Hp} {n : Nat} {Post : AV → KS → Prop} (hN : args.length ≤ F.N) (hm : ∀ d b, lkM mem d = some b → 2000000 ≤ d) (hk : KOk ⟨entF args 0, mem, H, n⟩)
  (hw : ∀ (B : Base) [GB P B], ydZ B → WK P B F.N none F.body (yxz F.res Post) ⟨entF args 0, mem, H, n⟩) : ybf P f args (fun d => (lkM mem d).map KB.blk) H n fun av S1 => ∃ ks, S1 = toS ks ∧ KOk ks ∧ Post av ks := by
 intro G vs hg hM hV
 haveI : GB P (ybp G n) := GB.of hg hM
 unfold trF at hF
 split at hF <;> first | (cases hF; done) | skip
 rename_i fn hfn
 split at hF <;> first | (cases hF; done) | skip
 rename_i b hb
 split at hF <;> first | (cases hF; done) | skip
 rename_i r c hr hc
 cases hF
 split at hb
 ·cases hb
 ·rename_i hname
  have hcall : (callFunc f vs).run P G.w = .ok (.enter f vs) G.w := by
   simp only [callFunc, Sem.run_bind, run_program, Result.andThen_ok, hfn]
   rw [if_neg hname]
   simp [hb]
  unfold yhG
  rw [hcall]
  have hvl : vs.size = args.length := by simpa using hV.1
  have hLB : ydZ (ybp G n) := by
   intro d c r hr
   obtain ⟨b, hb, _⟩ := hM.Msome (k := .l d c) hr
   have hb' : (if c = 1 then (lkM mem d).map KB.blk else none) = some b := hb
   split at hb'
   ·rename_i e
    obtain ⟨kb, h1, _⟩ := Option.map_eq_some_iff.1 hb'
    exact ⟨e, hm d kb h1⟩
   ·cases hb'
  have hrel : Rel (ybp G n) fn.ntmps (toS ⟨entF args 0, mem, H, n⟩) { tmps := vs ++ Array.replicate (fn.ntmps - vs.size) undef, defers := [] } G := by
   rw [ywF]
   refine { (show MRel (ybp G n) { lSt (fun d => (lkM mem d).map KB.blk) H n with fr := lkF (entF args 0) } G from hM.fr _) with defers := DfOk.nil _ _, tsize := by simp [hvl]; simp only at hN; omega, slot := ?_ }
   intro t v hv
   show VR G (lkF (entF args 0) t) v
   rw [yqr]
   simp only [Nat.zero_le, if_true, Nat.sub_zero]
   by_cases ht : t < vs.size
   ·rw [Array.getElem?_append_left ht] at hv
    have hta : t < args.length := by omega
    rw [List.getElem?_eq_getElem hta]
    exact hV.2 t _ v (List.getElem?_eq_getElem hta) (by simpa using hv)
   ·rw [List.getElem?_eq_none (by omega)]
    exact .un v
  refine (callsIn_wide (n := 0)).1 (callsIn_of_wp_marks hfn hb trivial ?_)
  refine wpIn_mono (hw (ybp G n) hLB b hc _ G ⟨hrel, hk⟩) ?_
  rintro e a' w' ⟨k', G', hR, rfl, hq⟩
  have fin : yxz r Post .r k' → LeavesInM Fence.wide 0 P fn a'.tmps (fun e w' => ∃ v av S1 G1, e = .returned v ∧ (∃ ks, S1 = toS ks ∧ KOk ks ∧ Post av ks) ∧ MRel (ybp G n) S1 G1 ∧ G1.w = w' ∧ VR G1 av v) a'.defers .returning G'.w := by
   intro hq
   obtain ⟨u, hu, hP⟩ := ydk hq
   obtain ⟨rs, G0, d1, d2, d3, d4, d5⟩ := hR.1.leave
   rw [d1]
   refine yp7 rs _ d2 d3 ?_
   obtain ⟨v, hrun, hv⟩ := ysQ d5 hr hu
   rw [d4] at hrun
   exact ⟨v, hrun, v, u, toS k', G0, rfl, ⟨k', rfl, hR.2, hP⟩, d5.toMRel, d4, hv⟩
  cases e with
  | normal => exact fin hq
  | ret => exact fin hq
  | exit id => exact hq.elim
  | goto l => exact hq.elim
  | panic ch => exact hq.elim
  | outgrown => exact hq.elim
section
variable {P : Program} {B : Base} [GB P B] {N : Nat} {ro : Option Nat} {L : List AO} {LD : List (AO × List Nat)} {Q : KS → Prop} {QD : St → Prop} {ds : DS} {i : Nat} {acc : List Foot}
end
end Go.AV
end
noncomputable section
namespace Go.AV
open Go.RowKit Go.RG Go.Lib
structure Enc (T : Type) where
 c : T → List AV
 sz : Nat
 pos : 0 < sz
 len : ∀ x, (c x).length = sz
 no : ∀ x, noLs (c x) = true
 one : ∀ x, (c x).all AV.one = true
def cl {T : Type} (E : Enc T) (l : List T) : List AV := l.flatMap E.c
def slA {T : Type} (E : Enc T) (l : List T) : AV := .sl false l.length (cl E l)
section
variable {T : Type} (E : Enc T)
theorem yi8 (l : List T) : (cl E l).length = l.length * E.sz := by
 induction l with
 | nil => simp [cl]
 | cons x l ih => simp only [cl, List.flatMap_cons, List.length_append, List.length_cons, E.len] at ih ⊢; rw [ih, Nat.add_mul]; omega
theorem yAc (l : List T) : noLs (cl E l) = true := by
 induction l with
 | nil => rfl
 | cons x l ih => rw [show cl E (x :: l) = E.c x ++ cl E l from by simp [cl], ylm, E.no, ih]; rfl
theorem yyA (l k : List T) : cl E (l ++ k) = cl E l ++ cl E k := by simp [cl]
theorem yzj {l : List T} {m : Nat} {y : T} (h : l[m]? = some y) (o w : Nat) (hw : o + w ≤ E.sz) : ((cl E l).drop (m * E.sz + o)).take w = ((E.c y).drop o).take w := by
 induction l generalizing m with
 | nil => simp at h
 | cons x l ih =>
   have e : cl E (x :: l) = E.c x ++ cl E l := by simp [cl]
   rw [e]
   cases m with
   | zero =>
     simp at h; subst h
     rw [Nat.zero_mul, Nat.zero_add, List.drop_append_of_le_length (by rw [E.len]; omega), List.take_append_of_le_length (by simp [E.len]; omega)]
   | succ m =>
     have := ih (m := m) (by simpa using h)
     rw [← this]
     congr 1
     rw [show (m + 1) * E.sz + o = E.sz + (m * E.sz + o) by rw [Nat.add_mul]; omega]
     have h2 : E.sz = (E.c x).length := (E.len x).symm
     rw [h2, ← List.drop_drop, List.drop_left]
theorem yx9 {l : List T} {m : Nat} {y y' : T} (h : l[m]? = some y) (o w : Nat) (hw : o + w ≤ E.sz) {vs : List AV} (hy : (E.c y).take o ++ vs ++ (E.c y).drop (o + w) = E.c y') :
  (cl E l).take (m * E.sz + o) ++ vs ++ (cl E l).drop (m * E.sz + o + w) = cl E (l.set m y') := by
 induction l generalizing m with
 | nil => simp at h
 | cons x l ih =>
   have e : cl E (x :: l) = E.c x ++ cl E l := by simp [cl]
   rw [e]
   cases m with
   | zero =>
     simp at h; subst h
     rw [List.set_cons_zero, show cl E (y' :: l) = E.c y' ++ cl E l by simp [cl], ← hy]
     rw [Nat.zero_mul, Nat.zero_add, List.take_append_of_le_length (by rw [E.len]; omega), List.drop_append_of_le_length (by rw [E.len]; omega)]
     simp
   | succ m =>
     rw [List.set_cons_succ, show cl E (x :: l.set m y') = E.c x ++ cl E (l.set m y') by simp [cl], ← ih (m := m) (by simpa using h)]
     have h2 : E.sz = (E.c x).length := (E.len x).symm
     rw [show (m + 1) * E.sz + o = (E.c x).length + (m * E.sz + o) by rw [← h2, Nat.add_mul]; omega, show (E.c x).length + (m * E.sz + o) + w = (E.c x).length + (m * E.sz + o + w) by omega]
     rw [List.take_length_add_append, List.drop_length_add_append]
     simp
theorem yvB (l : List T) (a b : Nat) : ((cl E l).drop (a * E.sz)).take (b * E.sz) = cl E ((l.drop a).take b) := by
 induction l generalizing a with
 | nil => simp [cl]
 | cons x l ih =>
   have e : cl E (x :: l) = E.c x ++ cl E l := by simp [cl]
   have h2 : E.sz = (E.c x).length := (E.len x).symm
   cases a with
   | zero =>
     simp only [Nat.zero_mul, List.drop_zero]
     clear ih
     have key : ∀ (k : List T) (b : Nat), (cl E k).take (b * E.sz) = cl E (k.take b) := by
      intro k
      induction k with
      | nil => intro b; simp [cl]
      | cons z k ihk =>
        intro b
        have h3 : E.sz = (E.c z).length := (E.len z).symm
        cases b with
        | zero => simp [cl]
        | succ b =>
          rw [List.take_succ_cons, show cl E (z :: k) = E.c z ++ cl E k by simp [cl], show cl E (z :: k.take b) = E.c z ++ cl E (k.take b) by simp [cl], ← ihk b, show (b + 1) * E.sz = (E.c z).length + b * E.sz by rw [← h3, Nat.add_mul]; omega, List.take_length_add_append]
     exact key _ b
   | succ a =>
     rw [e, List.drop_succ_cons, ← ih a, show (a + 1) * E.sz = (E.c x).length + a * E.sz by rw [← h2, Nat.add_mul]; omega, List.drop_length_add_append]
end
section
variable {P : Program} {B : Base} [GB P B] {N : Nat} {ro : Option Nat} {L : List AO} {Q : KS → Prop} {ds : DS} {i : Nat} {o : AO} {T : Type} {d : Option Nat}
def toB (n : Int) : UInt8 := UInt8.ofNat n.toNat
def ofB (b : UInt8) : Int := (b.toNat : Int)
end
abbrev Str := List UInt8
def eB : Enc Bool := ⟨fun b => [.bl b], 1, by omega, fun _ => rfl, fun _ => rfl, fun _ => rfl⟩
def eI (k : IntKind) : Enc Int := ⟨fun n => [.it k n], 1, by omega, fun _ => rfl, fun _ => rfl, fun _ => rfl⟩
def eS : Enc Str := ⟨fun s => [.st s], 1, by omega, fun _ => rfl, fun _ => rfl, fun _ => rfl⟩
def eSl {T : Type} (E : Enc T) : Enc (List T) := ⟨fun l => [slA E l], 1, by omega, fun _ => rfl, fun _ => rfl, fun _ => rfl⟩
def bAt (s : Str) (i : Int) : Int := ((s[i.toNat]?.getD 0).toNat : Int)
def cnd (b : Bool) (x y : Prop) : Prop := (b = true → x) ∧ (b = false → y)
end Go.AV
end
noncomputable section
namespace Go.AV
open Go.RowKit Go.RG Go.Lib Go.WideShapes Go.ChangeShapes
def ykq (P : Program) (pl : TypeId → Bool) : List Field → Nat → Option Nat
 | [], o => some o
 | f :: r, o => if f.offset = o ∧ pl f.type = true then ykq P pl r (o + P.cellsOf f.type) else none
def ylI (P : Program) : Nat → TypeId → Bool
 | 0, _ => false
 | k + 1, t => match P.underlying t with
   | some .bool => P.cellsOf t == 1
   | some (.int _) => P.cellsOf t == 1
   | some .string => P.cellsOf t == 1
   | some (.slice e) => P.cellsOf t == 1 && ylI P k e && decide (0 < P.cellsOf e)
   | some (.struct fs) => ykq P (ylI P k) fs.toList 0 == some (P.cellsOf t)
   | _ => false
mutual
inductive ydl (P : Program) : TypeId → List AV → Prop
 | bl (t : TypeId) (b : Bool) (h : P.underlying t = some .bool) : ydl P t [.bl b]
 | it (t : TypeId) (k : IntKind) (n : Int) (h : P.underlying t = some (.int k)) (hw : (Lit.int k n).wf = true) : ydl P t [.it k n]
 | st (t : TypeId) (l : List UInt8) (h : P.underlying t = some .string) (hw : l.length ≤ maxLen) : ydl P t [.st l]
 | sl (t e : TypeId) (h : P.underlying t = some (.slice e)) (rows : List (List AV)) (hr : ∀ r ∈ rows, ydl P e r) (hm : rows.length ≤ maxLen) : ydl P t [.sl false rows.length rows.flatten]
 | stc (t : TypeId) (fs : Array Field) (h : P.underlying t = some (.struct fs)) (us : List AV) (hf : ygL P fs.toList us) : ydl P t us
inductive ygL (P : Program) : List Field → List AV → Prop
 | nil : ygL P [] []
 | cons (f : Field) (r : List Field) (p q : List AV) (hp : ydl P f.type p) (hq : ygL P r q) : ygL P (f :: r) (p ++ q)
end
theorem ylx {α : Type} {Q : Nat → α → Prop} : ∀ (n : Nat), (∀ i, i < n → ∃ x, Q i x) → ∃ l : List α, l.length = n ∧ ∀ (i : Nat) (x : α), l[i]? = some x → Q i x
 | 0, _ => ⟨[], rfl, fun i x h => by simp at h⟩
 | n + 1, h => by
   obtain ⟨l, h1, h2⟩ := ylx n fun i hi => h i (by omega)
   obtain ⟨x, hx⟩ := h n (by omega)
   refine ⟨l ++ [x], by simp [h1], fun i y hy => ?_⟩
   by_cases hi : i < l.length
   ·rw [List.getElem?_append_left hi] at hy; exact h2 i y hy
   ·rw [List.getElem?_append_right (by omega)] at hy
    have : i - l.length = 0 := by
     have := (List.getElem?_eq_some_iff.1 hy).1
     simp at this; omega
    rw [this] at hy
    simp at hy; subst hy
    have : i = n := by omega
    rw [this]; exact hx
theorem ylz {sz : Nat} (h0 : 0 < sz) : ∀ (rows : List (List AV)), (∀ r ∈ rows, r.length = sz) → ∀ (j : Nat) (u : AV), rows.flatten[j]? = some u → ∃ r, rows[j / sz]? = some r ∧ r[j % sz]? = some u
 | [], _, j, u, h => by simp at h
 | r :: rows, hr, j, u, h => by
   have hl : r.length = sz := hr r (by simp)
   rw [List.flatten_cons] at h
   by_cases hj : j < sz
   ·rw [List.getElem?_append_left (by omega)] at h
    rw [Nat.div_eq_of_lt hj, Nat.mod_eq_of_lt hj]
    exact ⟨r, rfl, h⟩
   ·rw [List.getElem?_append_right (by omega), hl] at h
    obtain ⟨q, h1, h2⟩ := ylz h0 rows (fun r hq => hr r (by simp [hq])) (j - sz) u h
    have e1 : j / sz = (j - sz) / sz + 1 := Nat.div_eq_sub_div h0 (by omega)
    have e2 : j % sz = (j - sz) % sz := (Nat.mod_eq_sub_mod (by omega))
    rw [e1, e2]
    exact ⟨q, by simpa using h1, h2⟩
section
variable {H : Type} {enc : TypeId × Value → H} {P : Program} {G : Gh} {base : Nat} {held : Bool}
def TC (G : Gh) (us : List AV) (cs : List Value) : Prop := us.length = cs.length ∧ (∀ (j : Nat) (u : AV) (x : Value), us[j]? = some u → cs[j]? = some x → VR G u x) ∧ noLs us = true ∧ ∀ u ∈ us, u.one = true
theorem TC.one1 {u : AV} {x : Value} (h : VR G u x) (hn : u.noL = true) (ho : u.one = true) : TC G [u] [x] := by
 refine ⟨rfl, fun j u' x' hu hx => ?_, by simp [noLs, hn], by simp [ho]⟩
 cases j with
 | zero => simp at hu hx; subst hu; subst hx; exact h
 | succ j => simp at hu
theorem TC.append {us vs : List AV} {cs ds : List Value} (h : TC G us cs) (k : TC G vs ds) : TC G (us ++ vs) (cs ++ ds) := by
 refine ⟨by simp [h.1, k.1], fun j u x hu hx => ?_, by rw [ylm, h.2.2.1, k.2.2.1]; rfl, fun u hu => ?_⟩
 ·by_cases hj : j < us.length
  ·rw [List.getElem?_append_left hj] at hu
   rw [List.getElem?_append_left (by rw [← h.1]; exact hj)] at hx
   exact h.2.1 j u x hu hx
  ·rw [List.getElem?_append_right (by omega)] at hu
   rw [List.getElem?_append_right (by rw [← h.1]; omega)] at hx
   rw [← h.1] at hx
   exact k.2.1 _ u x hu hx
 ·rcases List.mem_append.1 hu with q | q
  ·exact h.2.2.2 u q
  ·exact k.2.2.2 u q
theorem ywA (hI : ∀ b, b < G.w.heap.size → G.I b) : ∀ (fuel k : Nat) (t : TypeId) (cs : List Value) (x : DataW H × List MemPlace), ylI P k t = true → DataW.trod enc P G.w base (fun _ => true) held fuel t cs = some x → cs.length = P.cellsOf t → ∃ us, TC G us cs ∧ ydl P t us := by
 intro fuel
 induction fuel with
 | zero => intro k t cs x _ h; simp [DataW.trod] at h
 | succ fuel ih =>
   intro k t cs x hp h hlen
   cases k with
   | zero => cases hp
   | succ k =>
     simp only [ylI] at hp
     split at hp
     ·rename_i ht
      obtain ⟨b, rfl, _⟩ := DataW.trod_bool ht h
      exact ⟨_, TC.one1 (.bl b) rfl rfl, .bl t b ht⟩
     ·rename_i kk ht
      obtain ⟨n, rfl, _, hw⟩ := DataW.trod_int ht h
      exact ⟨_, TC.one1 (.it kk n) rfl rfl, .it t kk n ht hw⟩
     ·rename_i ht
      obtain ⟨s, rfl, _, hw⟩ := DataW.trod_string ht h
      exact ⟨_, TC.one1 (.st _ s rfl) rfl rfl, .st t _ ht (by simpa using hw)⟩
     ·rename_i e ht
      simp only [Bool.and_eq_true, decide_eq_true_eq] at hp
      obtain ⟨⟨hp1, hp2⟩, hp3⟩ := hp
      rcases DataW.trod_slice ht h with ⟨rfl, _⟩ | ⟨a, len, cap, elems, rest, n, hfu, rfl, _, hb, hl, hm, hel, hg, hsp, _⟩
      ·exact ⟨_, TC.one1 (.nsl false 0 [] rfl rfl) rfl rfl, .sl t e ht [] (fun r hr => by cases hr) (by simp)⟩
      ·cases hfu
       by_cases hl0 : len = 0
       ·subst hl0
        exact ⟨_, TC.one1 (.esl 0 [] rfl rfl a cap) rfl rfl, .sl t e ht [] (fun r hr => by cases hr) (by simp)⟩
       ·have hone : ∀ i, i < len → ∃ us : List AV, ydl P e us ∧ ∃ csi, G.w.cells? base (a.add (i * P.cellsOf e)) (P.cellsOf e) = some csi ∧ csi.length = P.cellsOf e ∧ TC G us csi := by
         intro i hi
         have h1 := hg i hi
         rw [List.getElem?_eq_getElem (by rw [hel]; exact hi)] at h1
         obtain ⟨csi, h2, h3⟩ := Option.bind_eq_some_iff.1 h1
         have hcl : csi.length = P.cellsOf e := (World.cells?_some h2).2.1
         obtain ⟨us, u1, u2⟩ := ih k e csi _ hp2 h3 hcl
         exact ⟨us, u2, csi, h2, hcl, u1⟩
        obtain ⟨rows, r1, r2⟩ := ylx len hone
        have hrl : ∀ r ∈ rows, r.length = P.cellsOf e := by
         intro r hr
         obtain ⟨i, hi⟩ := List.getElem?_of_mem hr
         obtain ⟨_, csi, _, q2, q3⟩ := r2 i r hi
         rw [q3.1, q2]
        have hcell : ∀ (j : Nat) (u : AV), rows.flatten[j]? = some u → ∃ y, G.w.cell? (a.add j) = some y ∧ VR G u y ∧ u.one = true ∧ u.noL = true := by
         intro j u hu
         obtain ⟨r, q1, q2⟩ := ylz hp3 rows hrl j u hu
         obtain ⟨_, csi, s1, s2, s3⟩ := r2 _ r q1
         have hq : j % P.cellsOf e < P.cellsOf e := Nat.mod_lt _ hp3
         have hcs := (World.cells?_some s1).2.2 (j % P.cellsOf e) hq
         have e1 : (a.add (j / P.cellsOf e * P.cellsOf e)).add (j % P.cellsOf e) = a.add j := by
          rw [Addr.add_add]
          congr 1
          rw [Nat.mul_comm]; exact Nat.div_add_mod j _
         rw [e1] at hcs
         have hx : csi[j % P.cellsOf e]? = some csi[j % P.cellsOf e] := List.getElem?_eq_getElem (by rw [s2]; exact hq)
         refine ⟨csi[j % P.cellsOf e], ?_, s3.2.1 _ u _ q2 hx, s3.2.2.2 u (List.mem_of_getElem? q2), ybs s3.2.2.1 _ u q2⟩
         rw [hcs, hx]
        have hne : 0 < rows.flatten.length := by
         match rows, r1, hrl with
         | r :: rows, _, hrl =>
           rw [List.flatten_cons, List.length_append, hrl r (by simp)]; omega
         | [], r1, _ => simp at r1; omega
        obtain ⟨y0, c0, _⟩ := hcell 0 _ (List.getElem?_eq_getElem hne)
        have ha0 : a.add 0 = a := by cases a; simp [Addr.add]
        rw [ha0] at c0
        obtain ⟨ab, ao, asp⟩ := a
        have hspot : asp = none := by
         cases asp with
         | none => rfl
         | some q =>
           unfold World.cell? at c0
           split at c0
           ·simp at c0
           ·cases c0
        subst hspot
        have hblk : ab < G.w.heap.size := World.block_lt_of_cell? G.w _ c0
        have hxs : ∀ (j : Nat) (u : AV), rows.flatten[j]? = some u → ∃ y, G.w.cell? ⟨ab, ao + j, none⟩ = some y ∧ VR G u y ∧ u.one = true ∧ u.noL = true := by
         intro j u hu
         have := hcell j u hu
         rwa [Addr.add_lit] at this
        have hno : noLs rows.flatten = true := yha.2 fun u hu => by
         obtain ⟨j, hj⟩ := List.getElem?_of_mem hu
         obtain ⟨y, _, _, _, q⟩ := hxs j u hj
         exact q
        have hty : ydl P t [.sl false rows.length rows.flatten] := .sl t e ht rows (fun r hr => by
         obtain ⟨i, hi⟩ := List.getElem?_of_mem hr
         exact (r2 i r hi).1) (by rw [r1]; omega)
        rw [r1] at hty
        refine ⟨[.sl false len rows.flatten], TC.one1 (.sl len rows.flatten ab ao cap (fun j => (G.w.cell? ⟨ab, ao + j, none⟩).getD undef) (hI ab hblk) ?_ ?_ ?_ hl (by omega) hno) rfl rfl, hty⟩
        ·intro j u hu
         obtain ⟨y, q1, _⟩ := hxs j u hu
         rw [q1]; rfl
        ·intro j u hu
         obtain ⟨y, q1, q2, _⟩ := hxs j u hu
         simp only [q1, Option.getD_some]; exact q2
        ·intro j u hu
         obtain ⟨y, q1, q2, q3, _⟩ := hxs j u hu
         simp only [q1, Option.getD_some]; exact q2.one q3
     ·rename_i fs ht
      obtain ⟨xs, n, hfu, _, hcl, hxl, hf⟩ := DataW.trod_struct ht h
      cases hfu
      have key : ∀ (l : List Field) (i o : Nat) (tot : Nat), fs.toList.drop i = l → ykq P (ylI P k) l o = some tot → o ≤ cs.length → tot = cs.length → ∃ us, TC G us (cs.drop o) ∧ ygL P l us := by
       intro l
       induction l with
       | nil =>
         intro i o tot _ hc ho htot
         simp only [ykq, Option.some.injEq] at hc
         subst hc
         rw [List.drop_eq_nil_of_le (by omega)]
         exact ⟨[], ⟨rfl, fun j u x hu => by simp at hu, rfl, fun u hu => by cases hu⟩, .nil⟩
       | cons f l ihl =>
         intro i o tot hd hc ho htot
         simp only [ykq] at hc
         split at hc
         ·rename_i hcnd
          have hfi : fs[i]? = some f := by
           have : fs.toList[i]? = some f := by
            have := congrArg (·[0]?) hd
            simpa using this
           simpa using this
          have hi : i < fs.size := (Array.getElem?_eq_some_iff.1 hfi).1
          have h1 := hf i f hfi
          rw [List.getElem?_eq_getElem (by rw [hxl]; exact hi), hcnd.1] at h1
          have hmono : ∀ (l : List Field) (o tot : Nat), ykq P (ylI P k) l o = some tot → o ≤ tot := by
           intro l
           induction l with
           | nil => intro o tot h; simp only [ykq, Option.some.injEq] at h; omega
           | cons g l ihm =>
             intro o tot h
             simp only [ykq] at h
             split at h
             ·have := ihm _ _ h; omega
             ·cases h
          have hle := hmono _ _ _ hc
          obtain ⟨us, u1, u2⟩ := ih k f.type _ _ hcnd.2 h1 (by simp; omega)
          obtain ⟨vs, v1, v2⟩ := ihl (i + 1) _ tot (by rw [← List.drop_drop, hd]; rfl) hc (by omega) htot
          refine ⟨us ++ vs, ?_, .cons f l us vs u2 v2⟩
          have := u1.append v1
          rw [← List.drop_drop, List.take_append_drop] at this
          exact this
         ·cases hc
      obtain ⟨us, u1, u2⟩ := key fs.toList 0 0 _ rfl (by simpa using hp) (Nat.zero_le _) hlen.symm
      exact ⟨us, by simpa using u1, .stc t fs ht us u2⟩
     ·cases hp
def G0 (w : World) : Gh := ⟨fun _ => none, yc9 (hSt (fun _ => none) 0), fun b => b < w.heap.size, w⟩
theorem yzO (w : World) : MRel (ybp (G0 w) 0) (hSt (fun _ => none) 0) (G0 w) := by
 refine { blk := ?_, inj := fun k k' r r' h => (by cases h), dead := fun k => Iff.rfl, live := ?_, apart := fun k r h => (by cases h), lt := fun b h => h, loc := fun d c r h => (by cases h), keep := fun k r h => (by cases h), heap := fun o r h => (by cases h), nx := Nat.le_refl _, gone := fun o _ h => h, I0 := fun b h => h, I1 := fun b h => .inl h, os := rfl, tape := rfl, output := rfl, size := Nat.le_refl _, same := fun b _ _ => rfl, hno := ?_ }
 ·intro k; cases k <;> trivial
 ·intro k b h; cases k <;> cases h
 ·intro k b h; cases k <;> cases h
theorem yqt {f : FuncId} {args : List AV} {vs : Array Value} {w : World} (hg : GOK P w fun b => b < w.heap.size) (hp : Pure P f args (.bl true)) (hV : VRs (G0 w) args vs.toList) : yhG P f vs w fun e w' => e = .returned (.bool true) ∧ Below w.heap.size w w' := by
 refine (hp (fun _ => none) 0 (G0 w) vs hg (yzO w) hV).mono ?_
 rintro e w' ⟨v, av, H', n', G', rfl, ⟨rfl, rfl, rfl⟩, hM, rfl, hv, _⟩
 exact ⟨by rw [hv.bl_inv], hM.os, hM.tape, hM.output, hM.size, fun k hk => hM.same k hk (fun k' r hr => by cases hr)⟩
end
def yp3 (P : Program) (t : TypeId) {T : Type} (c : T → List AV) (R : T → Prop) : Prop := ∀ us, ydl P t us → ∃ v : T, us = c v ∧ R v
theorem yeA {P : Program} {t : TypeId} {k : IntKind} (ht : P.underlying t = some (.int k)) : yp3 P t (eI k).c (fun n => (Lit.int k n).wf = true) := by
 intro us h
 cases h with
 | bl _ b h => rw [ht] at h; cases h
 | it _ k n h hw => rw [ht] at h; cases h; exact ⟨n, rfl, hw⟩
 | st _ l h => rw [ht] at h; cases h
 | sl _ e h => rw [ht] at h; cases h
 | stc _ fs h => rw [ht] at h; cases h
theorem yrO {P : Program} {t : TypeId} (ht : P.underlying t = some .string) : yp3 P t eS.c (fun s => s.length ≤ maxLen) := by
 intro us h
 cases h with
 | bl _ b h => rw [ht] at h; cases h
 | it _ k n h => rw [ht] at h; cases h
 | st _ l h hw => exact ⟨l, rfl, hw⟩
 | sl _ e h => rw [ht] at h; cases h
 | stc _ fs h => rw [ht] at h; cases h
theorem yjV {P : Program} {t e : TypeId} {T : Type} (E : Enc T) {R : T → Prop} (ht : P.underlying t = some (.slice e)) (he : yp3 P e E.c R) : yp3 P t (eSl E).c (fun l => l.length ≤ maxLen ∧ ∀ v ∈ l, R v) := by
 intro us h
 cases h with
 | bl _ b h => rw [ht] at h; cases h
 | it _ k n h => rw [ht] at h; cases h
 | st _ l h => rw [ht] at h; cases h
 | sl _ e h rows hr hm =>
   rw [ht] at h; cases h
   have key : ∀ rows : List (List AV), (∀ r ∈ rows, ydl P e r) → ∃ l : List T, rows = l.map E.c ∧ ∀ v ∈ l, R v := by
    intro rows
    induction rows with
    | nil => exact fun _ => ⟨[], rfl, fun v hv => by cases hv⟩
    | cons r rows ih =>
      intro h
      obtain ⟨l, h1, h2⟩ := ih fun q hq => h q (by simp [hq])
      obtain ⟨v, h3, h4⟩ := he r (h r (by simp))
      refine ⟨v :: l, by rw [h1, h3]; rfl, fun u hu => ?_⟩
      rcases List.mem_cons.1 hu with rfl | hu
      ·exact h4
      ·exact h2 u hu
   obtain ⟨l, rfl, h2⟩ := key rows hr
   refine ⟨l, ?_, by simpa using hm, h2⟩
   show [AV.sl false (l.map E.c).length (l.map E.c).flatten] = [slA E l]
   unfold slA cl
   rw [List.length_map, List.flatMap_def]
 | stc _ fs h => rw [ht] at h; cases h
theorem ydl.fields {P : Program} {t : TypeId} {fs : Array Field} (ht : P.underlying t = some (.struct fs)) {us : List AV} (h : ydl P t us) : ygL P fs.toList us := by
 cases h with
 | bl _ b h => rw [ht] at h; cases h
 | it _ k n h => rw [ht] at h; cases h
 | st _ l h => rw [ht] at h; cases h
 | sl _ e h => rw [ht] at h; cases h
 | stc _ fs h us hf => rw [ht] at h; cases h; exact hf
theorem ygL.first {P : Program} {f : Field} {r : List Field} {us : List AV} (h : ygL P (f :: r) us) {T : Type} {c : T → List AV} {R : T → Prop} (hc : yp3 P f.type c R) : ∃ v q, us = c v ++ q ∧ R v ∧ ygL P r q := by
 cases h with
 | cons _ _ p q hp hq =>
   obtain ⟨v, rfl, h2⟩ := hc _ hp
   exact ⟨v, q, rfl, h2, hq⟩
theorem ygL.last {P : Program} {us : List AV} (h : ygL P [] us) : us = [] := by
 cases h; rfl
section
variable {H : Type} {enc : TypeId × Value → H} {P : Program} {w : World} {r : Reach} {v : Value} {d : DataW H} {p : List MemPlace} {held : Bool}
theorem yuW {t : TypeId} (k : Nat) (hp : ylI P k t = true) {fs : Array Field} (hu : P.underlying t = some (.struct fs)) {T : Type} {c : T → List AV} {R : T → Prop} (ht : yp3 P t c R) {b0 : Nat} (ok : Value.okWide P w r b0 t v) (h : DataW.Trod enc P w 0 (fun _ => true) held t v d p) : ∃ x, VR (G0 w) (.agg (c x)) v ∧ R x := by
 obtain ⟨fuel, h⟩ := h
 obtain ⟨cs, rfl, hs⟩ := okWide_struct hu ok
 obtain ⟨us, q1, q2⟩ := ywA (G := G0 w) (fun b hb => hb) fuel k t cs.toList _ hp h (by simpa using hs)
 obtain ⟨x, rfl, hR⟩ := ht us q2
 refine ⟨x, .agg _ cs (by simpa using q1.1.symm) (fun j u y hj hy => q1.2.1 j u y hj (by simpa using hy)) (fun j y hy => ?_), hR⟩
 obtain ⟨u, hu'⟩ : ∃ u, (c x)[j]? = some u := ⟨_, List.getElem?_eq_getElem (by rw [q1.1]; simpa using (Array.getElem?_eq_some_iff.1 hy).1)⟩
 exact (q1.2.1 j u y hu' (by simpa using hy)).one (q1.2.2.2 u (List.mem_of_getElem? hu'))
theorem VRs.nil (G : Gh) : VRs G [] [] := ⟨rfl, fun j u x h => by simp at h⟩
theorem ymi {f : FuncId} {F : AFn} (hF : trF P f = some F) {vs : Array Value} {Q : Ending → World → Prop} (h : yhG P f vs w Q) : Calls P f vs w Q := by
 unfold yhG at h
 rw [yuI hF vs w] at h
 exact h
end
end Go.AV
end
noncomputable section
namespace Go.AV
open Go.RowKit
theorem wrap64 {n : Int} (h : -9223372036854775808 ≤ n) (k : n < 9223372036854775808) : IntKind.i64.wrap n = n := by
 simp [IntKind.wrap, IntKind.bits, IntKind.signed]; omega
theorem yyU {n : Int} (h : 0 ≤ n) (k : n < 256) : IntKind.u8.wrap n = n := by
 simp [IntKind.wrap, IntKind.bits, IntKind.signed]; omega
theorem ypc (n : Int) : IntKind.i64.wrap n = if n % 18446744073709551616 ≥ 9223372036854775808 then n % 18446744073709551616 - 18446744073709551616 else n % 18446744073709551616 := by
 simp [IntKind.wrap, IntKind.bits, IntKind.signed]
theorem ypG (n : Int) : -9223372036854775808 ≤ IntKind.i64.wrap n ∧ IntKind.i64.wrap n < 9223372036854775808 := by
 rw [ypc]; split <;> omega
theorem ykr (op : BinOp) (x y : Int) : -9223372036854775808 ≤ bits op .i64 x y ∧ bits op .i64 x y < 9223372036854775808 := ypG _
theorem yu0 (n : Int) : bits .and .i64 n 1 = n % 2 := by
 have h1 : (BitVec.ofInt 64 1).toNat = 2 ^ 1 - 1 := by decide
 have key : (BitVec.ofInt 64 n &&& BitVec.ofInt 64 1).toNat = (n % ((2 ^ 64 : Nat) : Int)).toNat % 2 ^ 1 := by
  rw [BitVec.toNat_and, BitVec.toNat_ofInt, h1, Nat.and_two_pow_sub_one_eq_mod]
 show IntKind.i64.wrap ((BitVec.ofInt 64 n &&& BitVec.ofInt 64 1).toNat : Nat) = n % 2
 rw [key, ypc]
 split <;> omega
theorem wf64 {n : Int} : (Lit.int .i64 n).wf = true ↔ -9223372036854775808 ≤ n ∧ n ≤ 9223372036854775807 := by
 simp [Lit.wf, IntKind.min, IntKind.max, IntKind.signed, IntKind.bits]
theorem wfu8 {n : Int} : (Lit.int .u8 n).wf = true ↔ 0 ≤ n ∧ n ≤ 255 := by
 simp [Lit.wf, IntKind.min, IntKind.max, IntKind.signed, IntKind.bits]
theorem lp1 {α : Type} {L : (α → Prop) → α → Prop} (I : α → Prop) (m : α → Nat) (step : ∀ X a, I a → (∀ b, I b → m b < m a → X b) → L X a) {a : α} (ha : I a) : ∀ X : α → Prop, (∀ x, L X x → X x) → X a := by
 intro X hX
 have key : ∀ n a, I a → m a = n → X a := by
  intro n
  induction n using Nat.strongRecOn with
  | _ n ih => intro a ha hm; exact hX a (step X a ha fun b hb hlt => ih (m b) (by omega) b hb rfl)
 exact key _ a ha rfl
theorem lp2 {α β : Type} {L : (α → β → Prop) → α → β → Prop} (I : α → β → Prop) (m : α → β → Nat) (step : ∀ X a b, I a b → (∀ a' b', I a' b' → m a' b' < m a b → X a' b') → L X a b) {a : α} {b : β} (ha : I a b) : ∀ X : α → β → Prop, (∀ x y, L X x y → X x y) → X a b := by
 intro X hX
 have key : ∀ n a b, I a b → m a b = n → X a b := by
  intro n
  induction n using Nat.strongRecOn with
  | _ n ih => intro a b ha hm; exact hX a b (step X a b ha fun a' b' hb hlt => ih (m a' b') (by omega) a' b' hb rfl)
 exact key _ a b ha rfl
end Go.AV
end
noncomputable section
namespace Go.AV
open Go.RowKit Go.RG Go.Lib
inductive HO (K : Nat → Type) where
 | ob (e : Nat) (x : K e)
 | row (e : Nat) (l : List (K e))
 | dead
inductive DV (K : Nat → Type) where
 | i (n : Int)
 | b (b : Bool)
 | s (s : Str)
 | l (e : Nat) (l : List (K e))
 | v (t : Nat) (x : K t)
structure FV (K : Nat → Type) where
 av : AV
 W : List (DV K) → List (DV K) → Prop
inductive AD (K : Nat → Type) where
 | d (x : DV K)
 | f (F : FV K)
inductive TV (K : Nat → Type) where
 | un
 | lb (b : Bool)
 | bl (b : Bool)
 | li (k : IntKind) (n : Int)
 | it (k : IntKind) (n : Int)
 | st (s : Str)
 | agg (cs : List (TV K))
 | tup (cs : List (TV K))
 | nil
 | em
 | sl (e : Nat) (l : List (K e))
 | rw (s c : Nat)
 | px (s c off : Nat)
 | pr (e s c i of : Nat)
 | ep (e : Nat) (l : List (K e)) (i of : Nat)
 | gs (l : List Str) (i : Nat)
 | nptr
 | fn (f : Nat) (a c : List (TV K))
 | fv (ps rs : List Nat) (F : FV K)
 | cn (id : Nat) (v : TV K)
inductive TB (K : Nat → Type) where
 | box (e : Nat) (cs : List (TV K))
 | row (e : Nat) (l : List (K e))
 | lrow (e n : Nat) (cs : List (TV K))
structure Ty (K : Nat → Type) (t : Nat) where
 g : Bool
 c : K t → List (TV K)
 rd : List (TV K) → Option (K t)
 tb : Option (K t → UInt8)
 ob : Option (UInt8 → K t)
 fl : Bool
structure Cx (K : Nat → Type) where
 T : ∀ t, Ty K t
 E : ∀ t, Enc (K t)
structure TS (K : Nat → Type) where
 fr : List (Nat × TV K)
 od : List (Nat × Option (TB K))
 nw : List (Nat × Option (TB K))
 rg : List (Nat × TV K)
 h : List (HO K)
variable {K : Nat → Type}
def TV.s : TV K → TV K
 | .cn _ v => v
 | v => v
def lkT : List (Nat × TV K) → Nat → TV K
 | [], _ => .un
 | p :: r, t => match Nat.beq p.1 t with
   | true => p.2
   | false => lkT r t
def lkB : List (Nat × Option (TB K)) → Nat → Option (TB K)
 | [], _ => none
 | p :: r, t => match Nat.beq p.1 t with
   | true => p.2
   | false => lkB r t
def memB : List (Nat × Option (TB K)) → Nat → Bool
 | [], _ => false
 | p :: r, t => Nat.beq p.1 t || memB r t
def TS.tb (ts : TS K) (s c : Nat) : Option (TB K) := match Nat.beq c 1 with
 | true => lkB ts.od s
 | false => match Nat.beq c 2 with
   | true => lkB ts.nw s
   | false => none
def TS.setb (ts : TS K) (s c : Nat) (b : Option (TB K)) : TS K := match Nat.beq c 1 with
 | true => ⟨ts.fr, (s, b) :: ts.od, ts.nw, ts.rg, ts.h⟩
 | false => ⟨ts.fr, ts.od, (s, b) :: ts.nw, ts.rg, ts.h⟩
def TS.put (ts : TS K) (d : Option Nat) (v : TV K) : TS K := match d with
 | some d => ⟨(d, v) :: ts.fr, ts.od, ts.nw, ts.rg, ts.h⟩
 | none => ts
def ypJ : List AV → Option (List Str)
 | [] => some []
 | .st s :: r => match ypJ r with
   | some l => some (s :: l)
   | none => none
 | _ => none
mutual
def cvA : AV → TV K
 | .bl b => .lb b
 | .it k n => .li k n
 | .st s => .st s
 | .agg cs => .agg (cvAs cs)
 | .tup cs => .tup (cvAs cs)
 | .sl true 0 [] => .nil
 | .nptr => .nptr
 | .fn (.func f) [] [] => .fn f [] []
 | .ep cs off => match ypJ cs with
   | some l => .gs l off
   | none => .un
 | _ => .un
def cvAs : List AV → List (TV K)
 | [] => []
 | v :: r => cvA v :: cvAs r
end
def tea (fr : List (Nat × TV K)) : AOpd → TV K
 | .t n => lkT fr n
 | .c v => cvA v
def tev (fr : List (Nat × TV K)) (x : AOpd) : TV K := (tea fr x).s
def tcl (v : TV K) : List (TV K) := match v.s with
 | .agg cs => cs
 | _ => [v]
def ytK : TV K → Bool
 | .agg _ | .tup _ | .un | .cn _ _ => false
 | _ => true
def tone : TV K → Bool
 | .cn _ v => ytK v
 | v => ytK v
def twk (v : TV K) : TV K := match v.s with
 | .nil => .em
 | .agg _ => .un
 | .tup _ => .un
 | .fn _ _ _ => .un
 | .rw _ _ => .un
 | w => w
def tint : TV K → Option (IntKind × Int)
 | .it k n => some (k, n)
 | .li k n => some (k, n)
 | _ => none
def tlit : TV K → Bool
 | .li _ _ => true
 | _ => false
def tbo : TV K → Option Bool
 | .bl b => some b
 | .lb b => some b
 | _ => none
abbrev TR0 (K : Nat → Type) := Option (List Prop × TV K)
def tnum (op : BinOp) (k : IntKind) (a b : Int) (lit : Bool) : TR0 K := match op with
 | .add => some ([], .it k (k.wrap (a + b)))
 | .sub => some ([], .it k (k.wrap (a - b)))
 | .mul => some ([], .it k (k.wrap (a * b)))
 | .quo => match lit with
   | true => if b = 0 then none else some ([], .it k (k.wrap (a.tdiv b)))
   | false => some ([b ≠ 0], .it k (k.wrap (a.tdiv b)))
 | .rem => match lit with
   | true => if b = 0 then none else some ([], .it k (a.tmod b))
   | false => some ([b ≠ 0], .it k (a.tmod b))
 | .and => some ([], .it k (bits .and k a b))
 | .or => some ([], .it k (bits .or k a b))
 | .xor => some ([], .it k (bits .xor k a b))
 | .lss => some ([], .bl (decide (a < b)))
 | .leq => some ([], .bl (decide (a ≤ b)))
 | .gtr => some ([], .bl (decide (b < a)))
 | .geq => some ([], .bl (decide (b ≤ a)))
 | _ => none
def tsh (op : BinOp) (k : IntKind) (a b : Int) : Option (TV K) := match op with
 | .shl => some (.it k (k.wrap (a * 2 ^ (min b.toNat k.bits))))
 | .shr => some (.it k (a.fdiv (2 ^ (min b.toNat k.bits))))
 | _ => none
def tshi (op : BinOp) (k : IntKind) (a b : Int) (lit : Bool) : TR0 K := match tsh op k a b with
 | some v => match lit with
   | true => if b < 0 then none else some ([], v)
   | false => some ([¬ b < 0], v)
 | none => none
def tstr (op : BinOp) (a b : Str) : TR0 K := match op with
 | .add => some ([a.length + b.length ≤ 9223372036854775807], .st (a ++ b))
 | .lss => some ([], .bl (Op.bytesLess a b))
 | .leq => some ([], .bl (Op.bytesLess a b || a == b))
 | .gtr => some ([], .bl (!(Op.bytesLess a b || a == b)))
 | .geq => some ([], .bl (!Op.bytesLess a b))
 | _ => none
def yyv : BinOp → Bool
 | .shl | .shr => true
 | _ => false
def tbin (op : BinOp) (x y : TV K) : TR0 K := match x, y with
 | .st a, .st b => tstr op a b
 | x, y => match tint x, tint y with
   | some (k, a), some (k', b) => match yyv op with
     | true => tshi op k a b (tlit y)
     | false => if k = k' then tnum op k a b (tlit y) else none
   | _, _ => none
def teq1 : Nat → TV K → TV K → Option Bool
 | 0, x, y => match tbo x, tbo y with
   | some a, some b => some (a == b)
   | _, _ => none
 | 1, x, y => match tint x, tint y with
   | some (k, a), some (k', b) => if k = k' then some (a == b) else none
   | _, _ => none
 | 2, .st a, .st b => some (a == b)
 | _, _, _ => none
def teq (g : Bool) (kind : Nat) (x y : TV K) : TR0 K := match kind with
 | 4 => match x, y with
   | .nil, .nil => some ([], .lb (!g))
   | _, _ => none
 | 3 => match x, y with
   | .nptr, .nptr => some ([], .lb (!g))
   | _, _ => none
 | k => match teq1 k x y with
   | some b => some ([], .bl (ngB g b))
   | none => none
def teqL : List Nat → List (TV K) → List (TV K) → Option Bool
 | [], [], [] => some true
 | k :: ks, a :: r, b :: q => match teq1 k a.s b.s, teqL ks r q with
   | some x, some y => some (x && y)
   | _, _ => none
 | _, _, _ => none
def yq1 (cells : List (TV K)) : List (Nat × Nat × TV K) → Option (List (TV K))
 | [] => some cells
 | (off, sz, v) :: r => match Nat.beq (tcl v).length sz && Nat.ble (off + sz) cells.length && (tcl v).all tone with
   | true => yq1 (cells.take off ++ tcl v ++ cells.drop (off + sz)) r
   | false => none
def tbnd (fr : List (Nat × TV K)) (d : Int) : Option AOpd → Option Int
 | none => some d
 | some x => match tint (tev fr x) with
   | some (_, n) => some n
   | none => none
def tmnL (mx : Bool) (k : IntKind) (a : Int) : List (TV K) → Option (TV K)
 | [] => some (.it k a)
 | v :: r => match tint v with
   | some (k', b) => if k' = k then tmnL mx k (match mx with | true => if b > a then b else a | false => if b < a then b else a) r else none
   | none => none
def yuU (ts : TS K) (s c : Nat) (v : TV K) : TR0 K := match ts.tb s c with
 | some _ => some ([], v)
 | none => none
def tlvx (ts : TS K) (s c : Nat) (v : TV K) : TR0 K := match ts.tb s c with
 | some (.box _ _) => some ([], v)
 | _ => none
def selI : List (TV K) → Option (IntKind × List Int)
 | [] => none
 | v :: r => match tint v.s with
   | some (k, n) => match r with
     | [] => some (k, [n])
     | _ :: _ => match selI r with
       | some (k', l) => if k = k' then some (k, n :: l) else none
       | none => none
   | none => none
def selS : List (TV K) → Option (List Str)
 | [] => some []
 | v :: r => match v.s, selS r with
   | .st s, some l => some (s :: l)
   | _, _ => none
def tsel (cs : List (TV K)) (len : Nat) (i : Int) : TR0 K := match selI cs with
 | some (k, l) => some ([0 ≤ i ∧ i < len], .it k ((l[i.toNat]?).getD 0))
 | none => match selS cs with
   | some l => some ([0 ≤ i ∧ i < len], .st ((l[i.toNat]?).getD []))
   | none => none
def tqv (ts : TS K) (u : AOp) : TR0 K := let fr := ts.fr; match u with
 | .mv x => some ([], tea fr x)
 | .bld z parts => match yq1 (cvAs z) (parts.map fun p => (p.1, p.2.1, tea fr p.2.2)) with
   | some cs => some ([], .agg cs)
   | none => none
 | .nck x => match tev fr x with
   | .px s c o => tlvx ts s c (.px s c o)
   | .pr e s c i o => yuU ts s c (.pr e s c i o)
   | .ep e l i o => some ([], .ep e l i o)
   | .gs l i => some ([], .gs l i)
   | .fn f a c => some ([], .fn f a c)
   | .fv ps rs F => some ([], .fv ps rs F)
   | _ => none
 | .bin op x y => tbin op (tev fr x) (tev fr y)
 | .eq g kind x y => match tev fr x with
   | .px s c _ => match kind, tev fr y with
     | 3, .nptr => tlvx ts s c (.lb g)
     | _, _ => none
   | u => teq g kind u (tev fr y)
 | .eqs g ks x y => match tev fr x, tev fr y with
   | .agg a, .agg b => match teqL ks a b with
     | some r => some ([], .bl (ngB g r))
     | none => none
   | _, _ => none
 | .un op x => match op with
   | .neg => match tint (tev fr x) with
     | some (k, n) => some ([], .it k (k.wrap (0 - n)))
     | none => none
   | .not => match tev fr x with
     | .lb b => some ([], .lb (!b))
     | .bl b => some ([], .bl (!b))
     | _ => none
   | _ => none
 | .cvi k x => match tint (tev fr x) with
   | some (_, n) => some ([], .it k (k.wrap n))
   | none => none
 | .cvs x => match tev fr x with
   | .st l => some ([], .st l)
   | _ => none
 | .sls x lo hi => match tev fr x with
   | .st l => match tbnd fr 0 lo, tbnd fr l.length hi with
     | some a, some b => some ([0 ≤ a ∧ a ≤ b ∧ b ≤ l.length], .st ((l.drop a.toNat).take (b.toNat - a.toNat)))
     | _, _ => none
   | _ => none
 | .fad off x => match tev fr x with
   | .px s c o => tlvx ts s c (.px s c (o + off))
   | .pr e s c i o => yuU ts s c (.pr e s c i (o + off))
   | .ep e l i o => some ([], .ep e l i (o + off))
   | _ => none
 | .fld g off sz x => match tev fr x with
   | .agg cs => match g with
     | true => some ([], .agg ((cs.drop off).take sz))
     | false => match cs[off]? with
       | some v => some ([], v)
       | none => none
   | _ => none
 | .iada len sz x i => match tev fr x, tev fr i with
   | .px s c o, .li _ i => if 0 ≤ i ∧ i < len then tlvx ts s c (.px s c (o + i.toNat * sz)) else none
   | .gs l o, y => match tint y with
     | some (_, i) => some ([0 ≤ i ∧ i < len], .gs l (o + i.toNat * sz))
     | none => none
   | _, _ => none
 | .idxs x i => match tev fr x, tint (tev fr i) with
   | .st l, some (_, i) => some ([0 ≤ i ∧ i < l.length], .it .u8 (bAt l i))
   | _, _ => none
 | .idxa g len sz x i => match tev fr x, tev fr i with
   | .agg cs, .li _ i => if 0 ≤ i ∧ i < len then (match g with
     | true => some ([], .agg ((cs.drop (i.toNat * sz)).take sz))
     | false => match cs[i.toNat * sz]? with
       | some v => some ([], v)
       | none => none) else none
   | .agg cs, .it _ i => match !g && Nat.beq sz 1 && Nat.ble len cs.length with
     | true => tsel cs len i
     | false => none
   | _, _ => none
 | .ext x i => match tev fr x with
   | .tup vs => match vs[i]? with
     | some v => some ([], v)
     | none => none
   | _ => none
 | .lens x => match tev fr x with
   | .st l => some ([], .it .i64 (l.length : Int))
   | _ => none
 | .mnx mx xs => match xs with
   | [] => none
   | x :: r => match tint (tev fr x) with
     | some (k, a) => match tmnL mx k a (r.map (tev fr)) with
       | some v => some ([], v)
       | none => none
     | none => none
 | .mkf (.func f) a c => some ([], .fn f (a.map (tea fr)) (c.map (tea fr)))
 | _ => none
def andL : List Prop → Prop → Prop
 | [], p => p
 | c :: r, p => c ∧ andL r p
def ifL (b : Bool) (c : Prop) : List Prop := match b with
 | true => []
 | false => [c]
def ykU (e e' : Nat) (l : List (K e)) : Option (List (K e')) := if h : e = e' then some (h ▸ l) else none
def ytf {T : Type} (mk : List (TV K) → Option T) (sz : Nat) : Nat → List (TV K) → Option (List T)
 | 0, _ => some []
 | n + 1, cs => match mk ((cs.take sz).map TV.s), ytf mk sz n (cs.drop sz) with
   | some x, some r => some (x :: r)
   | _, _ => none
def trow (C : Cx K) (e : Nat) (b : Option (TB K)) : Option (List (K e)) := match b with
 | some (.row e' l) => ykU e' e l
 | some (.lrow e' n cs) => match Nat.beq e' e with
   | true => ytf (C.T e).rd (C.E e).sz n cs
   | false => none
 | _ => none
def tbe : Option (TB K) → Nat
 | some (.row e _) => e
 | some (.lrow e _ _) => e
 | _ => 0
def tln : Option (TB K) → Option Nat
 | some (.row _ l) => some l.length
 | some (.lrow _ n _) => some n
 | _ => none
def tfew : Option (TB K) → Bool
 | some (.lrow _ n _) => Nat.ble n 1000
 | _ => false
def tldc (g : Bool) (sz off : Nat) (cs : List (TV K)) : Option (TV K) := match g with
 | true => match Nat.ble (off + sz) cs.length with
   | true => some (.agg ((cs.drop off).take sz))
   | false => none
 | false => cs[off]?
def wpo' {α : Type} (o : Option α) (X : α → Prop) : Prop := match o with
 | some x => X x
 | none => False
def tld (C : Cx K) (g : Bool) (sz : Nat) (ts : TS K) (X : TV K → Prop) : TV K → Prop
 | .px s c off => match ts.tb s c with
   | some (.box _ cs) => wpo' (tldc g sz off cs) X
   | some (.lrow _ _ cs) => wpo' (tldc g sz off cs) X
   | _ => False
 | .pr e s c i of => wpo' (trow C e (ts.tb s c)) fun l => ∃ y : K e, l[i]? = some y ∧ wpo' (tldc g sz of ((C.T e).c y)) X
 | .ep e l i of => ∃ y : K e, l[i]? = some y ∧ wpo' (tldc g sz of ((C.T e).c y)) X
 | .gs l i => match g with
   | true => match Nat.beq i 0 && Nat.beq sz l.length with
     | true => X (.agg (l.map .st))
     | false => False
   | false => ∃ y : Str, l[i]? = some y ∧ X (.st y)
 | _ => False
def yhw (cs : List (TV K)) (off : Nat) (vs : List (TV K)) : List (TV K) := cs.take off ++ vs ++ cs.drop (off + vs.length)
def tsto (C : Cx K) (sz : Nat) (ts : TS K) (vs : List (TV K)) (X : TS K → Prop) : TV K → Prop
 | .px s c off => match ts.tb s c with
   | some (.box e cs) => match Nat.beq vs.length sz && vs.all tone && Nat.ble (off + sz) cs.length with
     | true => X (ts.setb s c (some (.box e (yhw cs off vs))))
     | false => False
   | _ => False
 | .pr e s c i of => match Nat.beq vs.length sz && vs.all tone && Nat.ble (of + sz) (C.E e).sz with
   | true => wpo' (trow C e (ts.tb s c)) fun l => ∃ y : K e, l[i]? = some y ∧ wpo' ((C.T e).rd ((yhw ((C.T e).c y) of vs).map TV.s)) fun y' => X (ts.setb s c (some (.row e (l.set i y'))))
   | false => False
 | _ => False
def ylC (ts : TS K) (d : Nat) (p : Prop) : Prop := match memB ts.nw d with
 | true => False
 | false => p
def tnew (ts : TS K) (d : Option Nat) (b : TB K) (v : Nat → TV K) : TS K := (ts.setb (site d) 2 (some b)).put d (v (site d))
def tiad (C : Cx K) (sz : Nat) (ts : TS K) (q : Int) (X : TV K → Prop) : TV K → Prop
 | .sl e l => match Nat.beq sz (C.E e).sz with
   | true => 0 ≤ q ∧ q < l.length ∧ X (.ep e l q.toNat 0)
   | false => False
 | .rw s c => match Nat.beq sz (C.E (tbe (ts.tb s c))).sz with
   | true => wpo' (trow C (tbe (ts.tb s c)) (ts.tb s c)) fun l => 0 ≤ q ∧ q < l.length ∧ X (.pr (tbe (ts.tb s c)) s c q.toNat 0)
   | false => False
 | _ => False
def tsrc (C : Cx K) (e : Nat) (ts : TS K) : TV K → Option (List (K e))
 | .sl e' l => ykU e' e l
 | .rw s c => trow C e (ts.tb s c)
 | .nil => some []
 | .em => some []
 | _ => none
def ysf (ts : TS K) : TV K → Bool
 | .rw s c => tfew (ts.tb s c)
 | .nil => true
 | .em => true
 | _ => false
def trw (s : Nat) : TV K := .rw s 2
def tapp (C : Cx K) (e : Nat) (d : Option Nat) (ts : TS K) (l2 : List (K e)) (c2 : List Prop) (X : TS K → Prop) : TV K → Prop
 | .nil => ylC ts (site d) (andL c2 (X (tnew ts d (.row e l2) trw)))
 | .rw s c => ylC ts (site d) (wpo' (trow C e (ts.tb s c)) fun l => andL (ifL (tfew (ts.tb s c)) (l.length ≤ 1000000000)) (andL c2 (X (tnew (ts.setb s c none) d (.row e (l ++ l2)) trw))))
 | _ => False
mutual
def yhc (s c : Nat) : TV K → TV K
 | .agg cs => .agg (yiq s c cs)
 | .tup cs => .tup (yiq s c cs)
 | .rw s' c' => match Nat.beq s s' && Nat.beq c c' with
   | true => .un
   | false => .rw s' c'
 | .pr e s' c' i o => match Nat.beq s s' && Nat.beq c c' with
   | true => .un
   | false => .pr e s' c' i o
 | .fn _ _ _ => .un
 | .cn i v => .cn i v
 | v => v
def yiq (s c : Nat) : List (TV K) → List (TV K)
 | [] => []
 | v :: r => yhc s c v :: yiq s c r
end
def ypZ {T : Type} (l : List T) (a b : Int) : List T := (l.drop a.toNat).take (b.toNat - a.toNat)
def mapB (f : TV K → TV K) : Option (TB K) → Option (TB K)
 | some (.box e cs) => some (.box e (cs.map f))
 | some (.lrow e n cs) => some (.lrow e n (cs.map f))
 | b => b
def mapF (f : TV K → TV K) : List (Nat × TV K) → List (Nat × TV K)
 | [] => []
 | p :: r => (p.1, f p.2) :: mapF f r
def mapM (f : TV K → TV K) : List (Nat × Option (TB K)) → List (Nat × Option (TB K))
 | [] => []
 | p :: r => (p.1, mapB f p.2) :: mapM f r
def TS.mapv (ts : TS K) (f : TV K → TV K) : TS K := ⟨mapF f ts.fr, mapM f ts.od, mapM f ts.nw, ts.rg, ts.h⟩
inductive PD where
 | v (t : Nat)
 | p (t : Nat)
 | f (ps rs : List Nat)
structure Sp (K : Nat → Type) where
 f : Nat
 ps : List PD
 rs : List Nat
 W : List (AD K) → List (DV K) → Prop
def RTy (K : Nat → Type) : List Nat → Type
 | [] => Prop
 | r :: rs => K r → RTy K rs
def FTy (K : Nat → Type) (rs : List Nat) : List Nat → Type
 | [] => RTy K rs
 | p :: ps => K p → FTy K rs ps
def PTy (K : Nat → Type) : PD → Type
 | .v t => K t
 | .p t => K t
 | .f as bs => FTy K bs as
def WTy (K : Nat → Type) (rs : List Nat) : List PD → Type
 | [] => RTy K rs
 | p :: ps => PTy K p → WTy K rs ps
def curR : (rs : List Nat) → (List (DV K) → Prop) → RTy K rs
 | [], W => W []
 | r :: rs, W => fun x => curR rs fun b => W (.v r x :: b)
def curF (rs : List Nat) : (ps : List Nat) → (List (DV K) → List (DV K) → Prop) → FTy K rs ps
 | [], W => curR rs (W [])
 | p :: ps, W => fun x => curF rs ps fun a b => W (.v p x :: a) b
def apR : (rs : List Nat) → RTy K rs → List (DV K) → Prop
 | [], w, [] => w
 | r :: rs, w, .v t x :: b => if h : t = r then apR rs (w (h ▸ x)) b else False
 | _, _, _ => False
def outP : (p : PD) → AD K → Option (PTy K p)
 | .v p, .d (.v t x) => if h : t = p then some (h ▸ x) else none
 | .p p, .d (.v t x) => if h : t = p then some (h ▸ x) else none
 | .f as bs, .f F => some (curF bs as F.W)
 | _, _ => none
def appW (rs : List Nat) : (ps : List PD) → WTy K rs ps → List (AD K) → List (DV K) → Prop
 | [], w, [], b => apR rs w b
 | p :: ps, w, x :: a, b => match outP p x with
   | some y => appW rs ps (w y) a b
   | none => False
 | _, _, _, _ => False
def lkS : List (Sp K) → Nat → Option (Sp K)
 | [], _ => none
 | p :: r, f => match Nat.beq p.f f with
   | true => some p
   | false => lkS r f
def outV (C : Cx K) (t : Nat) (v : TV K) : Option (K t) := match (C.T t).g, v.s with
 | true, .agg cs => (C.T t).rd (cs.map TV.s)
 | true, _ => none
 | false, .agg _ => none
 | false, w => (C.T t).rd [w]
def out1 (C : Cx K) : PD → TV K → Option (AD K)
 | .v t, v => match outV C t v with
   | some x => some (.d (.v t x))
   | none => none
 | .p t, v => match v.s with
   | .ep e [x] 0 0 => if h : e = t then some (.d (.v t (h ▸ x))) else none
   | _ => none
 | .f _ _, _ => none
def outD (C : Cx K) : List PD → List (TV K) → Option (List (AD K))
 | [], [] => some []
 | p :: ps, v :: vs => match out1 C p v, outD C ps vs with
   | some x, some r => some (x :: r)
   | _, _ => none
 | _, _ => none
def yx3 (C : Cx K) (sp : Sp K) (np : Nat) (a c : List (TV K)) : Option (List (AD K) × List (AD K)) :=
 match outD C (sp.ps.take a.length) a, outD C (sp.ps.drop (a.length + np)) c with
 | some x, some y => some (x, y)
 | _, _ => none
mutual
def tAV (C : Cx K) : TV K → AV
 | .lb b => .bl b
 | .bl b => .bl b
 | .li k n => .it k n
 | .it k n => .it k n
 | .st s => .st s
 | .agg cs => .agg (tAVs C cs)
 | .tup cs => .tup (tAVs C cs)
 | .nil => .sl false 0 []
 | .em => .sl false 0 []
 | .sl e l => slA (C.E e) l
 | .ep e l i of => .ep (cl (C.E e) l) (i * (C.E e).sz + of)
 | .gs l i => .ep (l.map .st) i
 | .nptr => .nptr
 | .fn f a c => .fn (.func f) (tAVs C a) (tAVs C c)
 | .fv _ _ F => F.av
 | .cn _ v => tAV C v
 | _ => .un
def tAVs (C : Cx K) : List (TV K) → List AV
 | [] => []
 | v :: r => tAV C v :: tAVs C r
end
def allV : List PD → Bool
 | [] => true
 | .v _ :: r => allV r
 | _ => false
mutual
def yaZ : TV K → Bool
 | .agg cs => ybr cs
 | .tup cs => ybr cs
 | .fn _ a c => ybr a && ybr c
 | .rw _ _ | .px _ _ _ | .pr _ _ _ _ _ | .cn _ _ | .un => false
 | _ => true
def ybr : List (TV K) → Bool
 | [] => true
 | v :: r => yaZ v && ybr r
end
def yuJ (C : Cx K) (Φ : List (Sp K)) : PD → TV K → Option (AD K)
 | .f ps _, v => match v.s with
   | .fv _ _ F => some (.f F)
   | .fn f a c => match lkS Φ f with
     | some sp => match yx3 C sp ps.length a c with
       | some (x, y) => match allV ((sp.ps.drop a.length).take ps.length) && ybr a && ybr c with
         | true => some (.f ⟨.fn (.func f) (tAVs C a) (tAVs C c), fun e r => match Nat.beq e.length ps.length with
           | true => sp.W (x ++ e.map .d ++ y) r
           | false => False⟩)
         | false => none
       | none => none
     | none => none
   | _ => none
 | p, v => out1 C p v
def outA (C : Cx K) (Φ : List (Sp K)) : List PD → List (TV K) → Option (List (AD K))
 | [], [] => some []
 | p :: ps, v :: vs => match yuJ C Φ p v, outA C Φ ps vs with
   | some x, some r => some (x :: r)
   | _, _ => none
 | _, _ => none
def inV (C : Cx K) (t : Nat) (x : K t) : TV K := match (C.T t).g with
 | true => .agg ((C.T t).c x)
 | false => match (C.T t).c x with
   | [v] => v
   | _ => .un
def exR (C : Cx K) : List Nat → (List (DV K) → List (TV K) → Prop) → Prop
 | [], p => p [] []
 | t :: r, p => ∃ z : K t, exR C r fun a b => p (.v t z :: a) (inV C t z :: b)
def tres : List (TV K) → TV K
 | [v] => v
 | vs => .tup vs
def twf (C : Cx K) (sp : Sp K) (env : List (AD K)) (X : TV K → Prop) : Prop := exR C sp.rs fun rs vs => sp.W env rs ∧ X (tres vs)
def yqL (C : Cx K) : TS K → List (TV K) → Option (List (TV K) × TS K)
 | ts, [] => some ([], ts)
 | ts, v :: r => match v.s with
   | .rw s c => match trow C (tbe (ts.tb s c)) (ts.tb s c) with
     | some l => match yqL C (ts.setb s c none) r with
       | some (ws, ts') => some (.sl (tbe (ts.tb s c)) l :: ws, ts')
       | none => none
     | none => none
   | _ => match yqL C ts r with
     | some (ws, ts') => some (v :: ws, ts')
     | none => none
def vt1 (C : Cx K) (ts : TS K) (v : TV K) : TV K := match v.s with
 | .rw s c => match trow C (tbe (ts.tb s c)) (ts.tb s c) with
   | some l => .sl (tbe (ts.tb s c)) l
   | none => .un
 | _ => v
def vtV (C : Cx K) (ts : TS K) (v : TV K) : TV K := match v.s with
 | .agg cs => .agg (cs.map (vt1 C ts))
 | _ => vt1 C ts v
def flR (C : Cx K) (sp : Sp K) : Bool := sp.rs.all fun t => (C.T t).fl
def flS (C : Cx K) (Φ : List (Sp K)) (f : Nat) : Bool := match lkS Φ f with
 | some sp => flR C sp
 | none => false
def ytn (C : Cx K) (Φ : List (Sp K)) (ts : TS K) (d : Option Nat) (f : Nat) (vs : List (TV K)) (X : TS K → Prop) : Prop :=
 match lkS Φ f with
 | some sp => match flR C sp with
   | true => match outA C Φ sp.ps (vs.map (vtV C ts)) with
     | some env => twf C sp env fun v => X (ts.put d v)
     | none => False
   | false => match yqL C ts vs with
     | some (ws, ts') => match outA C Φ sp.ps ws with
       | some env => twf C sp env fun v => X (ts'.put d v)
       | none => False
     | none => False
 | none => False
def adD : AD K → Option (DV K)
 | .d y => some y
 | .f _ => none
def ywC (C : Cx K) (ts : TS K) (d : Option Nat) (F : FV K) (ps rs : List Nat) (vs : List (TV K)) (X : TS K → Prop) : Prop :=
 match yqL C ts vs with
 | some (ws, ts') => match outD C (ps.map .v) ws with
   | some env => exR C rs fun r us => F.W (env.filterMap adD) r ∧ X (ts'.put d (tres us))
   | none => False
 | none => False
mutual
def rnV (A : Nat → Nat → Option (TV K)) (B : Nat → Nat → Option Nat) : TV K → TV K
 | .agg cs => .agg (rnVs A B cs)
 | .tup cs => .tup (rnVs A B cs)
 | .fn f a c => .fn f (rnVs A B a) (rnVs A B c)
 | .rw s c => match A s c with
   | some w => w
   | none => .un
 | .px s c o => match B s c with
   | some s1 => .px s1 1 o
   | none => .un
 | .pr e s c i o => match A s c with
   | some (.rw s1 _) => .pr e s1 1 i o
   | _ => .un
 | v => v
def rnVs (A : Nat → Nat → Option (TV K)) (B : Nat → Nat → Option Nat) : List (TV K) → List (TV K)
 | [] => []
 | v :: r => rnV A B v :: rnVs A B r
end
def nwL : List (Nat × Option (TB K)) → List (Nat × Option (TB K))
 | [] => []
 | p :: r => match Nat.ble 2000000 p.1 with
   | true => nwL r
   | false => p :: nwL r
def erN (nw : List (Nat × Option (TB K))) (s c : Nat) : Option Nat := match memB nw s with
 | true => match Nat.beq c 2 with
   | true => some s
   | false => none
 | false => match Nat.beq c 1 with
   | true => some s
   | false => none
def erA (ts : TS K) (s c : Nat) : Option (TV K) := match tln (ts.tb s c) with
 | some _ => match erN (nwL ts.nw) s c with
   | some s => some (.rw s 1)
   | none => none
 | none => none
def erB (ts : TS K) (s c : Nat) : Option Nat := match ts.tb s c with
 | some (.box _ _) => erN (nwL ts.nw) s c
 | _ => none
def er (ts : TS K) : TS K := ⟨mapF (rnV (erA ts) (erB ts)) ts.fr, mapM (rnV (erA ts) (erB ts)) (nwL ts.nw ++ ts.od), [], ts.rg, ts.h⟩
def fzS (ts : TS K) (s0 : Nat) (w : TV K) (s c : Nat) : Option (TV K) := match Nat.beq c 1 with
 | true => match Nat.beq s s0 with
   | true => some w
   | false => match tln (ts.tb s 1) with
     | some _ => some (.rw s 1)
     | none => none
 | false => none
def fzB (ts : TS K) (s c : Nat) : Option Nat := match Nat.beq c 1, ts.tb s 1 with
 | true, some (.box _ _) => some s
 | _, _ => none
def fz (C : Cx K) (ts : TS K) (s : Nat) : TS K := match ts.nw, trow C (tbe (ts.tb s 1)) (ts.tb s 1) with
 | [], some l => ⟨mapF (rnV (fzS ts s (.sl (tbe (ts.tb s 1)) l)) (fzB ts)) ts.fr, (s, none) :: mapM (rnV (fzS ts s (.sl (tbe (ts.tb s 1)) l)) (fzB ts)) ts.od, [], ts.rg, ts.h⟩
 | _, _ => ts
mutual
def rwsV : TV K → List Nat
 | .agg cs => yso cs
 | .tup cs => yso cs
 | .rw s _ => [s]
 | _ => []
def yso : List (TV K) → List Nat
 | [] => []
 | v :: r => rwsV v ++ yso r
end
def fzA (C : Cx K) : Nat → List (TV K) → TS K → TS K
 | 0, _, ts => ts
 | n + 1, vs, ts => match yso vs with
   | [] => ts
   | s :: _ => match ts.tb s 1 with
     | some (.lrow _ _ cs) => fz C (fzA C n cs ts) s
     | _ => fz C ts s
inductive CT where
 | i
 | b
 | s
 | l (e : Nat)
 | v (t : Nat)
inductive Kd where
 | it (k : IntKind)
 | bl
 | st
 | sl (e : Nat)
 | v (t : Nat)
 | agg (l : List Kd)
 | row (s : Nat)
 | px (s off : Nat)
 | kp (id : Nat)
 | nil
 | np
 | fn (f : Nat) (a c : List Kd)
 | un
structure Tm where
 ks : List (Nat × Kd)
 bx : List (Nat × Nat × List Kd)
 rw : List (Nat × Nat)
structure RM where
 r : List (Nat × Option (Nat × Nat))
 b : List (Nat × (Nat × Nat))
def lkA {α : Type} : List (Nat × α) → Nat → Option α
 | [], _ => none
 | p :: r, s => match Nat.beq p.1 s with
   | true => some p.2
   | false => lkA r s
def ylO (p q : Nat × Nat) : Bool := Nat.beq p.1 q.1 && Nat.beq p.2 q.2
def yyb : Option (Nat × Nat) → Option (Nat × Nat) → Bool
 | none, none => true
 | some p, some q => ylO p q
 | _, _ => false
def addA {α : Type} (eq : α → α → Bool) (m : List (Nat × α)) (s : Nat) (p : α) : Option (List (Nat × α)) := match lkA m s with
 | none => some ((s, p) :: m)
 | some q => match eq p q with
   | true => some m
   | false => none
def addR (m : RM) (s : Nat) (p : Option (Nat × Nat)) : Option (List (DV K) × RM) := match addA yyb m.r s p with
 | some r => some ([], ⟨r, m.b⟩)
 | none => none
def addB (m : RM) (s : Nat) (p : Nat × Nat) : Option (List (DV K) × RM) := match addA ylO m.b s p with
 | some b => some ([], ⟨m.r, b⟩)
 | none => none
mutual
def ctV : Kd → List CT
 | .it _ => [.i]
 | .bl => [.b]
 | .st => [.s]
 | .sl e => [.l e]
 | .v t => [.v t]
 | .agg l => ctVs l
 | .fn _ a c => ctVs a ++ ctVs c
 | _ => []
def ctVs : List Kd → List CT
 | [] => []
 | k :: r => ctV k ++ ctVs r
end
def ctT (τ : Tm) : List CT := (τ.ks.flatMap fun p => ctV p.2) ++ (τ.bx.flatMap fun p => ctVs p.2.2) ++ τ.rw.map fun p => .l p.2
def rd1 (C : Cx K) (k : Kd) (v : TV K) (m : RM) : Option (List (DV K) × RM) := match k with
 | .it k => match tint v.s with
   | some (k', n) => if k = k' then some ([.i n], m) else none
   | none => none
 | .bl => match tbo v.s with
   | some b => some ([.b b], m)
   | none => none
 | .st => match v.s with
   | .st s => some ([.s s], m)
   | _ => none
 | .sl e => match v.s with
   | .sl e' l => match ykU e' e l with
     | some l => some ([.l e l], m)
     | none => none
   | .nil => some ([.l e []], m)
   | .em => some ([.l e []], m)
   | _ => none
 | .v t => match outV C t v with
   | some x => some ([.v t x], m)
   | none => none
 | .row s => match v.s with
   | .rw s' c => addR m s (some (s', c))
   | .nil => addR m s none
   | _ => none
 | .px s off => match v.s with
   | .px s' c off' => match Nat.beq off off' with
     | true => addB m s (s', c)
     | false => none
   | _ => none
 | .kp id => match v with
   | .cn id' _ => match Nat.beq id id' with
     | true => some ([], m)
     | false => none
   | _ => none
 | .nil => match v.s with
   | .nil => some ([], m)
   | _ => none
 | .np => match v.s with
   | .nptr => some ([], m)
   | _ => none
 | .un => some ([], m)
 | .agg _ => none
 | .fn _ _ _ => none
mutual
def rdV (C : Cx K) : Kd → TV K → RM → Option (List (DV K) × RM)
 | .agg l, v, m => match v.s with
   | .agg vs => rdVs C l vs m
   | _ => none
 | .fn f a c, v, m => match v.s with
   | .fn f' a' c' => match Nat.beq f f' with
     | true => match rdVs C a a' m with
       | some (x, m) => match rdVs C c c' m with
         | some (y, m) => some (x ++ y, m)
         | none => none
       | none => none
     | false => none
   | _ => none
 | k, v, m => rd1 C k v m
def rdVs (C : Cx K) : List Kd → List (TV K) → RM → Option (List (DV K) × RM)
 | [], [], m => some ([], m)
 | k :: r, v :: q, m => match rdV C k v m with
   | some (a, m) => match rdVs C r q m with
     | some (b, m) => some (a ++ b, m)
     | none => none
   | none => none
 | _, _, _ => none
end
def rdS (C : Cx K) (fr : List (Nat × TV K)) : List (Nat × Kd) → RM → Option (List (DV K) × RM)
 | [], m => some ([], m)
 | p :: r, m => match rdV C p.2 (lkT fr p.1) m with
   | some (a, m) => match rdS C fr r m with
     | some (b, m) => some (a ++ b, m)
     | none => none
   | none => none
def rdW (C : Cx K) (ks : List Kd) (cs : List (TV K)) (m : RM) : Option (List (DV K) × RM) := match ks with
 | [.v t] => match (C.T t).g with
   | true => match outV C t (.agg cs) with
     | some x => some ([.v t x], m)
     | none => none
   | false => rdVs C [.v t] cs m
 | ks => rdVs C ks cs m
def rdB (C : Cx K) (ts : TS K) : List (Nat × Nat × List Kd) → RM → Option (List (DV K) × RM)
 | [], m => some ([], m)
 | p :: r, m => match lkA m.b p.1 with
   | some q => match ts.tb q.1 q.2 with
     | some (.box e cs) => match Nat.beq e p.2.1 with
       | true => match rdW C p.2.2 cs m with
         | some (a, m) => match rdB C ts r m with
           | some (b, m) => some (a ++ b, m)
           | none => none
         | none => none
       | false => none
     | _ => none
   | _ => none
def rdR (C : Cx K) (ts : TS K) (m : RM) : List (Nat × Nat) → Option (List (DV K))
 | [] => some []
 | p :: r => match lkA m.r p.1 with
   | some none => (rdR C ts m r).map fun b => .l p.2 [] :: b
   | some (some q) => match trow C p.2 (ts.tb q.1 q.2) with
     | some l => (rdR C ts m r).map fun b => .l p.2 l :: b
     | none => none
   | none => none
def yuT : List (Nat × Nat) → Nat × Nat → Bool
 | [], _ => false
 | p :: r, q => ylO p q || yuT r q
def plsR : List (Nat × Option (Nat × Nat)) → List (Nat × Nat)
 | [] => []
 | (_, some p) :: r => p :: plsR r
 | (_, none) :: r => plsR r
def yti : List (Nat × Nat) → Bool
 | [] => true
 | p :: r => !yuT r p && yti r
def ys2 (m : RM) (τ : Tm) : Bool := (m.b.all fun p => τ.bx.any fun q => Nat.beq q.1 p.1) && (m.r.all fun p => τ.rw.any fun q => Nat.beq q.1 p.1) && τ.bx.all fun p => τ.rw.all fun q => !Nat.beq p.1 q.1
def fixM (m : RM) : Bool := (m.b.all fun p => !Nat.ble 2000000 p.1 || ylO p.2 (p.1, 1)) && m.r.all fun p => !Nat.ble 2000000 p.1 || match p.2 with
 | some q => ylO q (p.1, 1)
 | none => false
def yvr : List (Nat × Nat × List Kd) → List (Nat × (Nat × Nat))
 | [] => []
 | p :: r => match Nat.ble 2000000 p.1 with
   | true => (p.1, (p.1, 1)) :: yvr r
   | false => yvr r
def yvb : List (Nat × Nat) → List (Nat × Option (Nat × Nat))
 | [] => []
 | p :: r => match Nat.ble 2000000 p.1 with
   | true => (p.1, some (p.1, 1)) :: yvb r
   | false => yvb r
def rdT (C : Cx K) (τ : Tm) (ts : TS K) : Option (List (DV K)) := match rdS C ts.fr τ.ks ⟨yvb τ.rw, yvr τ.bx⟩ with
 | some (a, m) => match rdB C ts τ.bx m with
   | some (b, m) => match rdR C ts m τ.rw, yti (plsR m.r ++ m.b.map (·.2)) && ys2 m τ && fixM m with
     | some c, true => some (a ++ b ++ c)
     | _, _ => none
   | none => none
 | none => none
def lkR : List (Nat × TV K) → Nat → Option (TV K)
 | [], _ => none
 | p :: r, t => match Nat.beq p.1 t with
   | true => some p.2
   | false => lkR r t
mutual
def bdV (C : Cx K) (rg : List (Nat × TV K)) : Kd → List (DV K) → TV K × List (DV K)
 | .it k, .i n :: r => (.it k n, r)
 | .bl, .b b :: r => (.bl b, r)
 | .st, .s s :: r => (.st s, r)
 | .sl e, .l e' l :: r => (match ykU e' e l with | some l => .sl e l | none => .un, r)
 | .v t, .v t' x :: r => (if h : t' = t then inV C t (h ▸ x) else .un, r)
 | .agg l, r => let p := bdVs C rg l r; (.agg p.1, p.2)
 | .row s, r => (.rw s 1, r)
 | .px s o, r => (.px s 1 o, r)
 | .kp id, r => (match lkR rg id with | some v => .cn id v | none => .un, r)
 | .nil, r => (.nil, r)
 | .np, r => (.nptr, r)
 | .fn f a c, r => let p := bdVs C rg a r; let q := bdVs C rg c p.2; (.fn f p.1 q.1, q.2)
 | _, r => (.un, r)
def bdVs (C : Cx K) (rg : List (Nat × TV K)) : List Kd → List (DV K) → List (TV K) × List (DV K)
 | [], r => ([], r)
 | k :: q, r => let p := bdV C rg k r; let p' := bdVs C rg q p.2; (p.1 :: p'.1, p'.2)
end
def bdS (C : Cx K) (rg : List (Nat × TV K)) : List (Nat × Kd) → List (DV K) → List (Nat × TV K) × List (DV K)
 | [], r => ([], r)
 | k :: q, r => let p := bdV C rg k.2 r; let p' := bdS C rg q p.2; ((k.1, p.1) :: p'.1, p'.2)
def bdW (C : Cx K) (rg : List (Nat × TV K)) (ks : List Kd) (env : List (DV K)) : List (TV K) × List (DV K) := match ks with
 | [.v t] => match (C.T t).g with
   | true => match env with
     | .v t' x :: r => (if h : t' = t then (C.T t).c (h ▸ x) else [], r)
     | r => ([], r)
   | false => bdVs C rg [.v t] env
 | ks => bdVs C rg ks env
def bdB (C : Cx K) (rg : List (Nat × TV K)) : List (Nat × Nat × List Kd) → List (DV K) → List (Nat × Option (TB K)) × List (DV K)
 | [], r => ([], r)
 | k :: q, r => let p := bdW C rg k.2.2 r; let p' := bdB C rg q p.2; ((k.1, some (.box k.2.1 p.1)) :: p'.1, p'.2)
def bdR : List (Nat × Nat) → List (DV K) → List (Nat × Option (TB K))
 | k :: q, .l e l :: r => (match ykU e k.2 l with | some l => (k.1, some (.row k.2 l)) | none => (k.1, none)) :: bdR q r
 | _, _ => []
def bdT (C : Cx K) (τ : Tm) (rg : List (Nat × TV K)) (h : List (HO K)) (env : List (DV K)) : TS K :=
 let p := bdS C rg τ.ks env; let q := bdB C rg τ.bx p.2; ⟨p.1, q.1 ++ bdR τ.rw q.2, [], rg, h⟩
mutual
def tagV : Kd → TV K → List (Nat × TV K) → TV K × List (Nat × TV K)
 | .kp id, v, rg => match yaZ v, lkR rg id with
   | true, none => (.cn id v, (id, v) :: rg)
   | _, _ => (v, rg)
 | .agg l, .agg vs, rg => let p := ygk l vs rg; (.agg p.1, p.2)
 | _, v, rg => (v, rg)
def ygk : List Kd → List (TV K) → List (Nat × TV K) → List (TV K) × List (Nat × TV K)
 | k :: r, v :: q, rg => let p := tagV k v rg; let p' := ygk r q p.2; (p.1 :: p'.1, p'.2)
 | _, vs, rg => (vs, rg)
end
def tagS : List (Nat × Kd) → TS K → TS K
 | [], ts => ts
 | p :: r, ts => let q := tagV p.2 (lkT ts.fr p.1) ts.rg; tagS r ⟨(p.1, q.1) :: ts.fr, ts.od, ts.nw, q.2, ts.h⟩
def tagB : List (Nat × Nat × List Kd) → TS K → TS K
 | [], ts => ts
 | p :: r, ts => match lkB ts.od p.1 with
   | some (.box e cs) => let q := ygk p.2.2 cs ts.rg; tagB r ⟨ts.fr, (p.1, some (.box e q.1)) :: ts.od, ts.nw, q.2, ts.h⟩
   | _ => tagB r ts
def tagT (τ : Tm) (ts : TS K) : TS K := tagB τ.bx (tagS τ.ks ts)
def fzT (C : Cx K) (fr : List (Nat × TV K)) : List (Nat × Kd) → TS K → TS K
 | [], ts => ts
 | (t, .sl _) :: r, ts => fzT C fr r (match (lkT fr t).s with | .rw s 1 => fz C ts s | _ => ts)
 | _ :: r, ts => fzT C fr r ts
def rdJ (C : Cx K) (τ : Tm) (ts : TS K) (J : List (DV K) → Prop) : Prop := match rdT C τ (fzT C ts.fr τ.ks ts) with
 | some env => J env
 | none => False
def CTy (K : Nat → Type) : CT → Type
 | .i => Int
 | .b => Bool
 | .s => Str
 | .l e => List (K e)
 | .v t => K t
def Cur (K : Nat → Type) (R : Type) : List CT → Type
 | [] => R
 | c :: r => CTy K c → Cur K R r
def outI : DV K → Option Int
 | .i n => some n
 | _ => none
def yxH : DV K → Option Bool
 | .b b => some b
 | _ => none
def outS : DV K → Option Str
 | .s s => some s
 | _ => none
def outL (e : Nat) : DV K → Option (List (K e))
 | .l e' l => ykU e' e l
 | _ => none
def outT (t : Nat) : DV K → Option (K t)
 | .v t' x => if h : t' = t then some (h ▸ x) else none
 | _ => none
def outC (c : CT) : DV K → Option (CTy K c) := match c with
 | .i => outI
 | .b => yxH
 | .s => outS
 | .l e => outL e
 | .v t => outT t
def inC : (c : CT) → CTy K c → DV K
 | .i, n => .i n
 | .b, b => .b b
 | .s, s => .s s
 | .l e, l => .l e l
 | .v t, x => .v t x
def apC {R : Type} (d : R) : (cs : List CT) → Cur K R cs → List (DV K) → R
 | [], f, [] => f
 | [], _, _ :: _ => d
 | c :: cs, f, x :: env => match outC c x with
   | some y => apC d cs (f y) env
   | none => d
 | _ :: _, _, [] => d
def allC : (cs : List CT) → (List (DV K) → Prop) → Prop
 | [], p => p []
 | c :: cs, p => ∀ x : CTy K c, allC cs fun env => p (inC c x :: env)
def resT (ts : TS K) : Nat × Option Nat → Option (TV K)
 | (t, none) => some (lkT ts.fr t)
 | (t, some 0) => match (lkT ts.fr t).s with
   | .px s c o => match ts.tb s c with
     | some (.box _ cs) => cs[o]?
     | _ => none
   | _ => none
 | (t, some (sz + 1)) => match (lkT ts.fr t).s with
   | .px s c o => match ts.tb s c with
     | some (.box _ cs) => tldc true (sz + 1) o cs
     | _ => none
   | _ => none
def ydp (ts : TS K) : List (Nat × Option Nat) → Option (List (TV K))
 | [] => some []
 | p :: r => match resT ts p, ydp ts r with
   | some v, some vs => some (v :: vs)
   | _, _ => none
structure Sl (K : Nat → Type) where
 f : Nat
 fs : List (Nat × List Nat × List Nat)
 ti : Tm
 te : Tm
 kp : List Nat
 res : List (Nat × Option Nat)
 fz : Bool
 W : List (FV K) → List (DV K) → List (DV K) → Prop
def ydW : List Nat → Nat → Bool
 | [], _ => false
 | x :: r, y => Nat.beq x y || ydW r y
def Sl.kbx (sp : Sl K) : List (Nat × Nat × List Kd) := sp.ti.bx.filter fun p => ydW sp.kp p.1
def Sl.krw (sp : Sl K) : List (Nat × Nat) := sp.ti.rw.filter fun p => ydW sp.kp p.1
def Sl.to (sp : Sl K) : Tm := ⟨sp.te.ks, sp.te.bx ++ sp.kbx, sp.te.rw ++ sp.krw⟩
def ctB (l : List (Nat × Nat × List Kd)) : List CT := l.flatMap fun p => ctVs p.2.2
def ctS (l : List (Nat × Kd)) : List CT := l.flatMap fun p => ctV p.2
def zipT : List (TV K) → Nat → List (Nat × TV K)
 | [], _ => []
 | v :: r, i => (i, v) :: zipT r (i + 1)
def rdM (C : Cx K) (τ : Tm) (ts : TS K) : Option (List (DV K) × RM) := match rdS C ts.fr τ.ks ⟨[], []⟩ with
 | some (a, m) => match rdB C ts τ.bx m with
   | some (b, m) => match rdR C ts m τ.rw, yti (plsR m.r ++ m.b.map (·.2)) && ys2 m τ with
     | some c, true => some (a ++ b ++ c, m)
     | _, _ => none
   | none => none
 | none => none
def ypM (C : Cx K) (Φ : List (Sp K)) (fr : List (Nat × TV K)) : List (Nat × List Nat × List Nat) → Option (List (FV K))
 | [] => some []
 | p :: r => match yuJ C Φ (.f p.2.1 p.2.2) (lkT fr p.1), ypM C Φ fr r with
   | some (.f F), some l => some (F :: l)
   | _, _ => none
mutual
def plV (m : RM) (n : Nat → Nat) : TV K → TV K
 | .agg cs => .agg (plVs m n cs)
 | .fn f a c => .fn f (plVs m n a) (plVs m n c)
 | .rw s _ => match Nat.ble 2000000 s with
   | true => match lkA m.r s with
     | some (some q) => .rw q.1 q.2
     | some none => .nil
     | none => .un
   | false => .rw (n s) 2
 | .px s _ o => match Nat.ble 2000000 s with
   | true => match lkA m.b s with
     | some q => .px q.1 q.2 o
     | none => .un
   | false => .px (n s) 2 o
 | v => v
def plVs (m : RM) (n : Nat → Nat) : List (TV K) → List (TV K)
 | [] => []
 | v :: r => plV m n v :: plVs m n r
end
def plQ (m : RM) (n : Nat → Nat) (s : Nat) : Option (Nat × Nat) := match Nat.ble 2000000 s with
 | true => match lkA m.b s with
   | some q => some q
   | none => match lkA m.r s with
     | some (some q) => some q
     | _ => none
 | false => some (n s, 2)
def plL (m : RM) (n : Nat → Nat) (c : Nat) : List (Nat × Option (TB K)) → List (Nat × Option (TB K))
 | [] => []
 | p :: r => match plQ m n p.1 with
   | some q => match Nat.beq q.2 c with
     | true => (q.1, mapB (plV m n) p.2) :: plL m n c r
     | false => plL m n c r
   | none => plL m n c r
def exC : (cs : List CT) → (List (DV K) → Prop) → Prop
 | [], p => p []
 | c :: cs, p => ∃ x : CTy K c, exC cs fun env => p (inC c x :: env)
def yao (d : Option Nat) (s : Nat) : Nat := s + 64 * site d
def newL (sp : Sl K) : List Nat := (sp.te.bx.map (·.1) ++ sp.te.rw.map (·.1)).filter fun s => !Nat.ble 2000000 s
def yrv (ts : TS K) (d : Option Nat) : List Nat → Bool
 | [] => true
 | s :: r => Nat.ble 1000000 s && Nat.ble (s + 1) 1000064 && !memB ts.nw (yao d s) && Nat.ble (yao d s + 1) 2000000 && yrv ts d r
def npL (sp : Sl K) : Nat := sp.ti.ks.length + sp.fs.length
def zipF : List (Nat × List Nat × List Nat) → List (FV K) → List (Nat × TV K)
 | p :: r, F :: l => (p.1, .fv p.2.1 p.2.2 F) :: zipF r l
 | _, _ => []
def entL (C : Cx K) (sp : Sl K) (fs : List (FV K)) (env : List (DV K)) : TS K := let t := bdT C sp.ti [] [] env; ⟨zipF sp.fs fs ++ t.fr, t.od, t.nw, t.rg, t.h⟩
def isBx : Option (TB K) → Bool
 | some (.box _ _) => true
 | _ => false
def ysM : List Nat → Bool
 | [] => true
 | x :: r => !ydW r x && ysM r
def tiN (sp : Sl K) : List Nat := sp.ti.bx.map (·.1) ++ sp.ti.rw.map (·.1)
mutual
def okK (bx rw : List Nat) : Kd → Bool
 | .row s => ydW rw s
 | .px s _ => ydW bx s
 | .kp _ => false
 | .agg l => okKs bx rw l
 | .fn _ a c => okKs bx rw a && okKs bx rw c
 | _ => true
def okKs (bx rw : List Nat) : List Kd → Bool
 | [] => true
 | k :: r => okK bx rw k && okKs bx rw r
end
def okTm (τ : Tm) : Bool :=
 let bx := τ.bx.map (·.1); let rw := τ.rw.map (·.1)
 ysM (bx ++ rw) && ysM (τ.ks.map (·.1)) && (τ.ks.all fun p => okK bx rw p.2) && τ.bx.all fun p => okKs bx rw p.2.2 && !p.2.2.isEmpty
def subN (a b : List Nat) : Bool := a.all (ydW b)
def bigN : Nat → Bool := fun s => Nat.ble 2000000 s
def okN (sp : Sl K) : Bool :=
 okTm sp.ti && okTm sp.to && (tiN sp).all bigN && subN ((sp.te.bx.map (·.1)).filter bigN) (sp.ti.bx.map (·.1)) && subN ((sp.te.rw.map (·.1)).filter bigN) (sp.ti.rw.map (·.1)) && (sp.fs.all fun p => Nat.ble (p.1 + 1) (npL sp)) && sp.ti.ks.all fun p => Nat.ble (p.1 + 1) (npL sp)
def wt : List CT → List (DV K) → Bool
 | [], [] => true
 | c :: cs, x :: env => (match c, x with
   | .i, .i _ => true
   | .b, .b _ => true
   | .s, .s _ => true
   | .l e, .l e' _ => Nat.beq e e'
   | .v t, .v t' _ => Nat.beq t t'
   | _, _ => false) && wt cs env
 | _, _ => false
def endT (C : Cx K) (sp : Sl K) (ts0 : TS K) (out : List (DV K)) : TS K :=
 let p := bdS C [] sp.te.ks out; let q := bdB C [] sp.te.bx p.2
 ⟨p.1, q.1 ++ (ts0.od.filter fun x => ydW sp.kp x.1 && isBx x.2) ++ bdR sp.te.rw q.2 ++ ts0.od.filter fun x => ydW sp.kp x.1 && !isBx x.2, [], [], []⟩
def lenL (ts0 : TS K) : List (Nat × Option (TB K)) → Prop → Prop
 | [], p => p
 | x :: r, p => match Nat.ble 2000000 x.1 with
   | true => match tln x.2, tln (ts0.tb x.1 1) with
     | some n, some m => n = m ∧ lenL ts0 r p
     | _, _ => False
   | false => lenL ts0 r p
def endR (C : Cx K) (sp : Sl K) (out : List (DV K)) : List (Nat × Option (TB K)) := bdR sp.te.rw (bdB C [] sp.te.bx (bdS C [] sp.te.ks out).2).2
def yh0 (sp : Sl K) (t : TS K) : List (Nat × Option (TB K)) := t.od ++ (tiN sp).map fun s => (s, none)
def aft0 (sp : Sl K) (n : Nat → Nat) (m : RM) (t ts : TS K) : TS K := ⟨ts.fr, plL m n 1 (yh0 sp t) ++ ts.od, plL m n 2 (yh0 sp t) ++ ts.nw, ts.rg, ts.h⟩
def aftL (sp : Sl K) (d : Option Nat) (m : RM) (t ts : TS K) : TS K := (aft0 sp (yao d) m t ts).put d (tres (plVs m (yao d) ((ydp t sp.res).getD [])))
def yjq (C : Cx K) (ts : TS K) (f : Nat) (vs : List (TV K)) : List (Sl K) → Option (Sl K × List (DV K) × RM)
 | [] => none
 | sp :: r => match Nat.beq sp.f f && Nat.beq vs.length (npL sp) with
   | true => match rdM C sp.ti ⟨zipT vs 0, ts.od, ts.nw, ts.rg, ts.h⟩ with
     | some (env, m) => some (sp, env, m)
     | none => yjq C ts f vs r
   | false => yjq C ts f vs r
def ykx (C : Cx K) (Φ : List (Sp K)) (drw : Bool) (ts : TS K) (d : Option Nat) (sp : Sl K) (env : List (DV K)) (m : RM) (vs : List (TV K)) (X : TS K → Prop) : Prop :=
 match ypM C Φ (zipT vs 0) sp.fs, okN sp && yrv ts d (newL sp) && (!drw || sp.te.rw.isEmpty) with
 | some fs, true => exC (ctT sp.te) fun out => sp.W fs env out ∧ lenL (entL C sp fs env) (endR C sp out) (X (aftL sp d m (endT C sp (entL C sp fs env) out) ts))
 | _, _ => False
def eqO : AOpd → AOpd → Bool
 | .t a, .t b => Nat.beq a b
 | .c (.it _ a), .c (.it _ b) => decide (a = b)
 | _, _ => false
structure Cf (K : Nat → Type) where
 C : Cx K
 S : List (Sp K)
 L : List (Sl K)
 N : Nat
def yyK (N : Nat) : AOpd → Bool
 | .t n => Nat.ble (n + 1) N
 | .c _ => false
def tlen (C : Cx K) (nofact : Bool) (ts : TS K) (X : TV K → Prop) : TV K → Prop
 | .sl _ l => match nofact with
   | true => X (.it .i64 (l.length : Int))
   | false => l.length ≤ maxLen → X (.it .i64 (l.length : Int))
 | .nil => X (.li .i64 0)
 | .em => X (.li .i64 0)
 | .rw s c => match ts.tb s c with
   | some (.row _ l) => X (.it .i64 (l.length : Int))
   | some (.lrow _ n _) => X (.li .i64 (n : Int))
   | _ => False
 | _ => False
def step (F : Cf K) (drw : Bool) (o : AO) (ts : TS K) (X : TS K → Prop) : Prop :=
 match o.op with
 | .ld g sz a => tld F.C g sz ts (fun v => X (ts.put o.dst v)) (tev ts.fr a)
 | .sto sz a v => tsto F.C sz ts (tcl (tea ts.fr v)) (fun t => X (t.put o.dst .un)) (tev ts.fr a)
 | .pick c a b => match tev ts.fr c with
   | .lb true => X (ts.put o.dst (tea ts.fr a))
   | .lb false => X (ts.put o.dst (tea ts.fr b))
   | _ => False
 | .box e sz x => match Nat.beq (tcl (tea ts.fr x)).length sz && (tcl (tea ts.fr x)).all tone && Nat.ble 1 sz with
   | true => ylC ts (site o.dst) (X (tnew ts o.dst (.box e (tcl (tea ts.fr x))) fun s => .px s 2 0))
   | false => False
 | .bsl e sz n z parts => match Nat.beq z.length sz && Nat.beq (F.C.E e).sz sz && Nat.ble (n * sz) 16777216 with
   | true => ylC ts (site o.dst) (wpo' (yq1 (List.replicate n (cvAs z)).flatten (parts.map fun p => (p.1, p.2.1, tea ts.fr p.2.2))) fun cs => X (tnew ts o.dst (.lrow e n (cs.map twk)) trw))
   | false => False
 | .mks e sz bytes z x y => match tint (tev ts.fr x), tint (tev ts.fr y), (F.C.T e).rd ((cvAs z).map TV.s) with
   | some (_, q), some (_, _), some v => match Nat.beq z.length sz && Nat.beq (F.C.E e).sz sz && eqO x y with
     | true => ylC ts (site o.dst) (0 ≤ q ∧ bytes * q.toNat ≤ 281474976710656 ∧ q ≤ 1000000000 ∧ X (tnew ts o.dst (.row e (List.replicate q.toNat v)) trw))
     | false => False
   | _, _, _ => False
 | .iad sz x i => match tint (tev ts.fr i) with
   | some (_, q) => tiad F.C sz ts q (fun v => X (ts.put o.dst v)) (tev ts.fr x)
   | none => False
 | .len x => tlen F.C (drw || !yyK F.N x) ts (fun v => X (ts.put o.dst v)) (tev ts.fr x)
 | .app e sz bytes x y => match Nat.beq (F.C.E e).sz sz && Nat.ble bytes 100000 with
   | true => wpo' (tsrc F.C e ts (tev ts.fr y)) fun l2 => tapp F.C e o.dst ts l2 (ifL (ysf ts (tev ts.fr y)) (l2.length ≤ 400000000)) X (tev ts.fr x)
   | false => False
 | .apps e x y => match tev ts.fr y, (F.C.T e).ob with
   | .st l, some f => tapp F.C e o.dst ts (l.map f) [l.length ≤ 400000000] X (tev ts.fr x)
   | _, _ => False
 | .b2s x => match tev ts.fr x with
   | .sl e l => match (F.C.T e).tb with
     | some f => X (ts.put o.dst (.st (l.map f)))
     | none => False
   | .rw s c => match (F.C.T (tbe (ts.tb s c))).tb, trow F.C (tbe (ts.tb s c)) (ts.tb s c) with
     | some f, some l => X (ts.put o.dst (.st (l.map f)))
     | _, _ => False
   | .nil => X (ts.put o.dst (.st []))
   | _ => False
 | .sll sz x lo hi => match tev ts.fr x with
   | .sl e l => match Nat.beq sz (F.C.E e).sz, tbnd ts.fr 0 lo, tbnd ts.fr l.length hi with
     | true, some a, some b => (0 ≤ a ∧ a ≤ b ∧ b ≤ l.length) ∧ X (ts.put o.dst (.sl e (ypZ l a b)))
     | _, _, _ => False
   | .rw s c => match Nat.beq sz (F.C.E (tbe (ts.tb s c))).sz, lo, trow F.C (tbe (ts.tb s c)) (ts.tb s c) with
     | true, none, some l => match tbnd ts.fr l.length hi with
       | some b => (0 ≤ b ∧ b ≤ l.length) ∧ X (((ts.mapv (yhc s c)).setb s c (some (.row (tbe (ts.tb s c)) (l.take b.toNat)))).put o.dst (.rw s c))
       | none => False
     | _, _, _ => False
   | _ => False
 | .call f args => match yjq F.C ts f (args.map (tea ts.fr)) F.L with
   | some (sp, env, m) => ykx F.C F.S drw ts o.dst sp env m (args.map (tea ts.fr)) X
   | none => ytn F.C F.S ts o.dst f (args.map (tea ts.fr)) X
 | .calv x args => match tev ts.fr x with
   | .fn f a c => match yjq F.C ts f (a ++ args.map (tea ts.fr) ++ c) F.L with
     | some (sp, env, m) => ykx F.C F.S drw ts o.dst sp env m (a ++ args.map (tea ts.fr) ++ c) X
     | none => ytn F.C F.S ts o.dst f (a ++ args.map (tea ts.fr) ++ c) X
   | .fv ps rs V => ywC F.C ts o.dst V ps rs (args.map (tea ts.fr)) X
   | _ => False
 | u => match tqv ts u with
   | some (cs, v) => andL cs (X (ts.put o.dst v))
   | none => False
mutual
def eqT : TV K → TV K → Prop
 | .it k n, w => match w.s with
   | .it k' n' => if k = k' then n = n' else False
   | .li k' n' => if k = k' then n = n' else False
   | _ => False
 | .bl b, w => match w.s with
   | .bl b' => b = b'
   | .lb b' => b = b'
   | _ => False
 | .st s, w => match w.s with
   | .st s' => s = s'
   | _ => False
 | .sl e l, w => match w.s with
   | .sl e' l' => (if h : e = e' then h ▸ l = l' else False)
   | _ => False
 | .agg l, w => match w.s with
   | .agg l' => eqTs l l'
   | _ => False
 | .rw s c, w => match w.s with
   | .rw s' c' => match Nat.beq s s' && Nat.beq c c' with
     | true => True
     | false => False
   | _ => False
 | .px s c o, w => match w.s with
   | .px s' c' o' => match Nat.beq s s' && Nat.beq c c' && Nat.beq o o' with
     | true => True
     | false => False
   | _ => False
 | .nptr, w => match w.s with
   | .nptr => True
   | _ => False
 | .nil, w => match w.s with
   | .nil => True
   | _ => False
 | .un, .un => True
 | _, _ => False
def eqTs : List (TV K) → List (TV K) → Prop
 | [], [] => True
 | a :: r, b :: q => match r with
   | [] => match q with
     | [] => eqT a b
     | _ => False
   | r => eqT a b ∧ eqTs r q
 | _, _ => False
end
def eqB : Option (TB K) → Option (TB K) → Prop
 | some (.box e l), some (.box e' l') => match Nat.beq e e' with
   | true => eqTs l l'
   | false => False
 | some (.row e l), some (.row e' l') => (if h : e = e' then h ▸ l = l' else False)
 | _, _ => False
def kpt (ts0 ts : TS K) : List Nat → Prop → Prop
 | [], p => p
 | s :: r, p => eqB (ts0.tb s 1) (ts.tb s 1) ∧ kpt ts0 ts r p
def selL (sp : Sl K) (env : List (DV K)) : List (DV K) :=
 let a := (ctS sp.te.ks).length + (ctB sp.te.bx).length; let b := (ctB sp.kbx).length
 env.take a ++ (env.drop (a + b)).take sp.te.rw.length
def eqD1 : DV K → DV K → Prop
 | .i n, .i n' => n = n'
 | .b b, .b b' => b = b'
 | .s s, .s s' => s = s'
 | .l e l, .l e' l' => (if h : e = e' then h ▸ l = l' else False)
 | .v t x, .v t' x' => (if h : t = t' then h ▸ x = x' else False)
 | _, _ => False
def eqDV : List (DV K) → List (DV K) → Prop
 | [], [] => True
 | x :: r, y :: q => match r with
   | [] => match q with
     | [] => eqD1 x y
     | _ => False
   | r => eqD1 x y ∧ eqDV r q
 | _, _ => False
def FsTy (K : Nat → Type) (R : Type) : List (Nat × List Nat × List Nat) → Type
 | [] => R
 | p :: r => FTy K p.2.2 p.2.1 → FsTy K R r
def yrj : (co : List CT) → Cur K Prop co → List (DV K) → Prop
 | [], f, [] => f
 | c :: co, f, x :: out => match outC c x with
   | some y => yrj co (f y) out
   | none => False
 | _, _, _ => False
def apIn (co : List CT) : (ci : List CT) → Cur K (Cur K Prop co) ci → List (DV K) → List (DV K) → Prop
 | [], f, [], out => yrj co f out
 | c :: ci, f, x :: env, out => match outC c x with
   | some y => apIn co ci (f y) env out
   | none => False
 | _, _, _, _ => False
def apFs (ci co : List CT) : (l : List (Nat × List Nat × List Nat)) → FsTy K (Cur K (Cur K Prop co) ci) l → List (FV K) → List (DV K) → List (DV K) → Prop
 | [], f, [], env, out => apIn co ci f env out
 | p :: r, f, F :: fs, env, out => apFs ci co r (f (curF p.2.2 p.2.1 F.W)) fs env out
 | _, _, _, _, _ => False
inductive An (K : Nat → Type) where
 | o
 | s (a b : An K)
 | c (a b : An K)
 | b (a : An K)
 | l (τ : Tm) (a : List (DV K) → An K)
 | j (τ : Tm) (a : An K) (b : List (DV K) → An K)
def tgd (fr : List (Nat × TV K)) (g : Option (Nat × Bool)) (run skip : Prop) (both : Nat → Bool → Bool → Prop) : Prop := match g with
 | none => run
 | some (d, b) => match (lkT fr d).s with
   | .lb c => match c == b with
     | true => run
     | false => skip
   | .bl c => both d c b
   | .tup [] => skip
   | _ => False
def frzs (F : Cf K) (args : List AOpd) (ts : TS K) : TS K := match yso (args.map (tea ts.fr)) with
 | [] => ts
 | _ => args.foldl (fun ts x => fzA F.C 9 [tea ts.fr x] ts) (er ts)
def hasL : List (Sl K) → Nat → Bool
 | [], _ => false
 | sp :: r, f => Nat.beq sp.f f || hasL r f
def frzO (F : Cf K) (fr : List (Nat × TV K)) : AOp → List AOpd
 | .call f args => match hasL F.L f || flS F.C F.S f with
   | true => []
   | false => args
 | .calv x args => match tev fr x with
   | .fn f _ _ => match hasL F.L f || flS F.C F.S f with
     | true => []
     | false => args
   | _ => args
 | .bsl _ _ _ _ parts => parts.map fun p => p.2.2
 | _ => []
def frzA (F : Cf K) (o : AO) (ts : TS K) : TS K := frzs F (frzO F ts.fr o.op) ts
def topg (F : Cf K) (o : AO) (R : TS K → Prop) (ts : TS K) : Prop :=
 tgd ts.fr o.guard (step F false o ts R) (R (ts.put o.dst (.tup [])))
  fun d c b => cnd c (match b with
   | true => step F false o (ts.put (some d) (.lb true)) R
   | false => R ((ts.put (some d) (.lb true)).put o.dst (.tup []))) (match b with
   | true => R ((ts.put (some d) (.lb false)).put o.dst (.tup []))
   | false => step F false o (ts.put (some d) (.lb false)) R)
def tops (F : Cf K) : List AO → TS K → (TS K → Prop) → Prop
 | [], ts, X => X ts
 | o :: r, ts, X => topg F o (fun t => tops F r t X) (frzA F o ts)
structure TFt where
 rk : List (Nat × Nat)
 wk : List (Nat × Nat)
def tky1 (ts : TS K) (v : TV K) : Option (List (Nat × Nat)) := match v.s with
 | .un => none
 | .rw s c => match tln (ts.tb s c) with
   | some _ => some [(s, c)]
   | none => none
 | .px s c _ => some [(s, c)]
 | .pr _ s c _ _ => some [(s, c)]
 | _ => some []
def tkys (ts : TS K) (f : TV K → Option (List (Nat × Nat))) : List (TV K) → Option (List (Nat × Nat))
 | [] => some []
 | v :: r => match f v, tkys ts f r with
   | some a, some b => some (a ++ b)
   | _, _ => none
def tky (ts : TS K) (v : TV K) : Option (List (Nat × Nat)) := match v.s with
 | .agg cs => tkys ts (tky1 ts) cs
 | _ => tky1 ts v
def ywy (ts : TS K) (v : TV K) : Option (List (Nat × Nat)) := match v.s with
 | .fn _ a c => tkys ts (tky ts) (a ++ c)
 | .fv _ _ _ => some []
 | _ => none
def trf : TV K → List (Nat × Nat)
 | .rw s c => [(s, c)]
 | .px s c _ => [(s, c)]
 | .pr _ s c _ _ => [(s, c)]
 | _ => []
def twk' (ts : TS K) (o : AO) : List (Nat × Nat) := match o.op with
 | .box .. | .bsl .. | .mks .. => [(site o.dst, 2)]
 | .app _ _ _ x _ => (site o.dst, 2) :: trf (tev ts.fr x)
 | .apps _ x _ => (site o.dst, 2) :: trf (tev ts.fr x)
 | .sto _ a _ => trf (tev ts.fr a)
 | .sll _ x _ _ => trf (tev ts.fr x)
 | _ => []
def yqp : List (TV K) → List (Nat × Nat)
 | [] => []
 | v :: r => match v.s with
   | .rw s c => (s, c) :: yqp r
   | _ => yqp r
def plcs (sp : Sl K) (d : Option Nat) (m : RM) : List (Nat × Nat) := m.b.map (·.2) ++ plsR m.r ++ (newL sp).map fun s => (yao d s, 2)
def tft (F : Cf K) (ts : TS K) (o : AO) : Option TFt := match o.op with
 | .call f args => match tkys ts (tky ts) (args.map (tea ts.fr)) with
   | some l => match yjq F.C ts f (args.map (tea ts.fr)) F.L with
     | some (sp, _, m) => some ⟨l ++ plcs sp o.dst m, plcs sp o.dst m⟩
     | none => some ⟨l, match flS F.C F.S f with
       | true => []
       | false => yqp (args.map (tea ts.fr))⟩
   | none => none
 | .calv x args => match ywy ts (tea ts.fr x), tkys ts (tky ts) (args.map (tea ts.fr)) with
   | some ca, some l => match tev ts.fr x with
     | .fn f a c => match yjq F.C ts f (a ++ args.map (tea ts.fr) ++ c) F.L with
       | some (sp, _, m) => some ⟨ca ++ l ++ plcs sp o.dst m, plcs sp o.dst m⟩
       | none => some ⟨ca ++ l, yqp (a ++ args.map (tea ts.fr) ++ c)⟩
     | _ => some ⟨ca ++ l, yqp (args.map (tea ts.fr))⟩
   | _, _ => none
 | .mv _ => some ⟨[], []⟩
 | u => match tkys ts (tky ts) ((opds u).map (tea ts.fr)) with
   | some l => some ⟨l, twk' ts o⟩
   | none => none
def memQ : List (Nat × Nat) → Nat × Nat → Bool
 | [], _ => false
 | p :: r, q => (Nat.beq p.1 q.1 && Nat.beq p.2 q.2) || memQ r q
def okT (a b : TFt) : Bool := (a.wk.all fun p => !memQ b.rk p && !memQ b.wk p) && b.wk.all fun p => !memQ a.rk p
def okTs (t : TFt) (acc : List TFt) : List Nat → Bool
 | [] => true
 | j :: r => (match acc[j]? with
   | some x => okT t x
   | none => true) && okTs t acc r
def ysk (F : Cf K) (o : AO) (fre : List Nat) (acc : List TFt) (R : List TFt → TS K → Prop) (ts : TS K) : Prop := match tft F ts o with
 | some t => match okTs t acc fre with
   | true => step F true o ts (R (acc ++ [t]))
   | false => False
 | none => False
def tdg (F : Cf K) (o : AO) (fre : List Nat) (acc : List TFt) (R : List TFt → TS K → Prop) (ts : TS K) : Prop :=
 tgd ts.fr o.guard (ysk F o fre acc R ts) (R (acc ++ [⟨[], []⟩]) (ts.put o.dst (.tup [])))
  fun d c b => cnd c (match b with
   | true => ysk F o fre acc R (ts.put (some d) (.lb true))
   | false => R (acc ++ [⟨[], []⟩]) ((ts.put (some d) (.lb true)).put o.dst (.tup []))) (match b with
   | true => R (acc ++ [⟨[], []⟩]) ((ts.put (some d) (.lb false)).put o.dst (.tup []))
   | false => ysk F o fre acc R (ts.put (some d) (.lb false)))
def tdrw (F : Cf K) : List (AO × List Nat) → List TFt → TS K → (TS K → Prop) → Prop
 | [], _, ts, X => X ts
 | (o, fre) :: r, acc, ts, X => tdg F o fre acc (fun acc t => tdrw F r acc t X) ts
def srcD (L : List (AO × List Nat)) : Nat → Nat → Nat
 | 0, n => n
 | k + 1, n => match L.find? (fun p => match p.1.dst with | some d => Nat.beq d n | none => false) with
   | some (⟨_, _, .mv (.t m)⟩, _) => srcD L k m
   | _ => n
def frzD (F : Cf K) (L : List (AO × List Nat)) (ts : TS K) : TS K :=
 (L.flatMap fun p => (frzO F ts.fr p.1.op).flatMap fun x => match x with | .t n => [srcD L 9 n] | .c _ => []).foldl (fun ts n => fzA F.C 9 [lkT ts.fr n] ts) ts
def Dn (F : Cf K) : An K → ye0 → (AEx → TS K → Prop) → TS K → Prop
 | .o, .skip, Q, ts => Q .n ts
 | .o, .ops L, Q, ts => tops F L ts fun t => Q .n (er t)
 | .o, .drw L, Q, ts => tdrw F L [] (frzD F L ts) fun t => Q .n (er t)
 | .o, .exit id, Q, ts => Q (.x id) ts
 | .o, .ret, Q, ts => Q .r ts
 | .s a b, .seq x y, Q, ts => Dn F a x (fun e t => match e with
   | .n => Dn F b y Q t
   | e => Q e t) ts
 | .c a b, .cond u x y, Q, ts => match tev ts.fr u with
   | .lb true => Dn F a x Q ts
   | .lb false => Dn F b y Q ts
   | .bl c => cnd c (Dn F a x Q ts) (Dn F b y Q ts)
   | _ => False
 | .b a, .block id x, Q, ts => Dn F a x (fun e t => match e with
   | .x i => match Nat.beq i id with
     | true => Q .n t
     | false => Q (.x i) t
   | e => Q e t) ts
 | .l τ a, .loop x, Q, ts => ∀ X : Cur K Prop (ctT τ), (allC (ctT τ) fun env => Dn F (a env) x (fun e t => match e with
    | .n => rdJ F.C τ t (apC False (ctT τ) X)
    | e => Q e t) (bdT F.C τ (tagT τ ts).rg ts.h env) → apC False (ctT τ) X env) → rdJ F.C τ (tagT τ ts) (apC False (ctT τ) X)
 | .j τ a b, .seq x y, Q, ts => ∀ J : Cur K Prop (ctT τ), (allC (ctT τ) fun env => Dn F (b env) y Q (bdT F.C τ (tagT τ ts).rg ts.h env) → apC False (ctT τ) J env) →
    Dn F a x (fun e t => match e with
     | .n => rdJ F.C τ t (apC False (ctT τ) J)
     | e => Q e t) (tagT τ ts)
 | _, _, _, _ => False
def outR (C : Cx K) : List Nat → List (TV K) → (List (DV K) → Prop) → Prop
 | [], [], p => p []
 | t :: r, v :: q, p => match outV C t v with
   | some x => outR C r q fun env => p (.v t x :: env)
   | none => False
 | _, _, _ => False
def retF (C : Cx K) (res : List (Nat × Option Nat)) (ts : TS K) : Nat → TS K
 | 0 => ts
 | n + 1 => match ydp ts res with
   | some vs => match yso vs with
     | [] => ts
     | s :: _ => retF C res (fzA C 9 [.rw s 1] ts) n
   | none => ts
def retD (C : Cx K) (res : List (Nat × Option Nat)) (rs : List Nat) (p : List (DV K) → Prop) : AEx → TS K → Prop
 | .x _, _ => False
 | _, ts => match ydp (retF C res ts 9) res with
   | some vs => outR C rs vs p
   | none => False
def entT (C : Cx K) : List PD → List (AD K) → Nat → List (Nat × TV K)
 | .v t :: ps, .d (.v t' x) :: env, i => (i, if h : t' = t then inV C t (h ▸ x) else .un) :: entT C ps env (i + 1)
 | .p t :: ps, .d (.v t' x) :: env, i => (i, if h : t' = t then .ep t [h ▸ x] 0 0 else .un) :: entT C ps env (i + 1)
 | .f as bs :: ps, .f F :: env, i => (i, .fv as bs F) :: entT C ps env (i + 1)
 | _, _, _ => []
def eqR : List (DV K) → List (DV K) → Prop
 | [], [] => True
 | [.v t x], [.v t' y] => if h : t = t' then h ▸ x = y else False
 | .v t x :: a, .v t' y :: b => (if h : t = t' then h ▸ x = y else False) ∧ eqR a b
 | _, _ => False
def frF (C : Cx K) (sp : Sl K) (ts : TS K) : TS K := match sp.fz with
 | true => retF C sp.res ts 9
 | false => ts
def retL (C : Cx K) (sp : Sl K) (ts0 : TS K) (r : List (DV K)) : AEx → TS K → Prop
 | .x _, _ => False
 | _, ts => rdJ C sp.to (frF C sp ts) fun env => match ydp (bdT C sp.to [] [] env) sp.res with
   | some _ => kpt ts0 (bdT C sp.to [] [] env) sp.kp (eqDV (selL sp env) r)
   | none => False
def DnL (F : Cf K) (A : An K) (c : AFn) (sp : Sl K) (fs : List (FV K)) (env r : List (DV K)) : Prop :=
 Dn F A c.body (retL F.C sp (entL F.C sp fs env) r) (entL F.C sp fs env)
def DnF (F : Cf K) (A : An K) (c : AFn) (ps : List PD) (rs : List Nat) (env : List (AD K)) (r : List (DV K)) : Prop :=
 Dn F A c.body (retD F.C c.res rs fun x => eqR x r) ⟨entT F.C ps env 0, [], [], [], []⟩
end Go.AV
end
noncomputable section
namespace Go.AV
open Go.RowKit Go.RG Go.Lib
mutual
def dwk : AV → AV
 | .sl _ n xs => .sl false n (dwks xs)
 | .agg cs => .agg (dwks cs)
 | .tup cs => .tup (dwks cs)
 | .fn f a c => .fn f (dwks a) (dwks c)
 | .ep xs off => .ep (dwks xs) off
 | u => u
def dwks : List AV → List AV
 | [] => []
 | u :: r => dwk u :: dwks r
end
theorem yc5 : ∀ (l : List AV), dwks l = l.map dwk
 | [] => rfl
 | x :: l => by simp only [dwks, List.map_cons, yc5 l]
theorem ydS (l : List AV) (j : Nat) (u : AV) (h : (dwks l)[j]? = some u) : ∃ v, l[j]? = some v ∧ u = dwk v := by
 rw [yc5, List.getElem?_map] at h
 obtain ⟨v, h1, h2⟩ := Option.map_eq_some_iff.1 h
 exact ⟨v, h1, h2.symm⟩
theorem ybG (l : List AV) : (dwks l).length = l.length := by rw [yc5]; simp
mutual
theorem yfH : ∀ (u : AV), (dwk u).noL = u.noL
 | .agg cs => by simp only [dwk, AV.noL]; exact ydx cs
 | .tup cs => by simp only [dwk, AV.noL]; exact ydx cs
 | .fn f a c => by simp only [dwk, AV.noL, ydx]
 | .sl z n xs => rfl
 | .gs k n => rfl
 | .pt k n => rfl
 | .bl b => rfl
 | .it k n => rfl
 | .st s => rfl
 | .nptr => rfl
 | .ep xs off => rfl
 | .nfn => rfl
 | .un => rfl
 | .yld o => rfl
 | .rcd a b c d => rfl
theorem ydx : ∀ (l : List AV), noLs (dwks l) = noLs l
 | [] => rfl
 | x :: l => by simp only [dwks, noLs, yfH, ydx]
end
theorem VR.dwk {G : Gh} {u : AV} {v : Value} (h : VR G u v) : VR G (AV.dwk u) v := by
 induction h with
 | agg cs vs hl h h1 ih => exact .agg _ vs (by rw [ybG]; exact hl) (fun j u x hu hx => by obtain ⟨w, e1, rfl⟩ := ydS cs j u hu; exact ih j w x e1 hx) h1
 | tup cs vs hl h ih => exact .tup _ vs (by rw [ybG]; exact hl) (fun j u x hu hx => by obtain ⟨w, e1, rfl⟩ := ydS cs j u hu; exact ih j w x e1 hx)
 | nsl z n xs hn hx => exact .nsl false n _ hn (by rw [hx]; rfl)
 | esl n xs hn hx a cap => exact .esl n _ hn (by rw [hx]; rfl) a cap
 | sl n xs b off cap f hI hc h h1 hn hm hq ih => exact .sl n _ b off cap f hI (fun j u hu => by obtain ⟨w, e1, rfl⟩ := ydS xs j u hu; exact hc j w e1) (fun j u hu => by obtain ⟨w, e1, rfl⟩ := ydS xs j u hu; exact ih j w e1) (fun j u hu => by obtain ⟨w, e1, rfl⟩ := ydS xs j u hu; exact h1 j w e1) hn hm (by rw [ydx]; exact hq)
 | fn f a c va vc ha hc h h' ih ih' => exact .fn f _ _ va vc (by rw [ybG]; exact ha) (by rw [ybG]; exact hc) (fun j u x hu hx => by obtain ⟨w, e1, rfl⟩ := ydS a j u hu; exact ih j w x e1 hx) (fun j u x hu hx => by obtain ⟨w, e1, rfl⟩ := ydS c j u hu; exact ih' j w x e1 hx)
 | bl b => exact .bl b
 | it k n => exact .it k n
 | st s b h => exact .st s b h
 | gs k n b cap hk => exact .gs k n b cap hk
 | gsd k n v hk h1 => exact .gsd k n v hk h1
 | nptr => exact .nptr
 | pt k off b cap hk => exact .pt k off b cap hk
 | ptd k off v hk h1 => exact .ptd k off v hk h1
 | ep xs off b base f hI hc h h1 hq ih => exact .ep _ off b base f hI (fun j u hu => by obtain ⟨w, e1, rfl⟩ := ydS xs j u hu; exact hc j w e1) (fun j u hu => by obtain ⟨w, e1, rfl⟩ := ydS xs j u hu; exact ih j w e1) (fun j u hu => by obtain ⟨w, e1, rfl⟩ := ydS xs j u hu; exact h1 j w e1) (by rw [ydx]; exact hq)
 | nfn => exact .nfn
 | yld o l cap hk => exact .yld o l cap hk
 | yldd o v hk h1 => exact .yldd o v hk h1
 | un v => exact .un v
theorem VRs.dwk {G : Gh} {us : List AV} {vs : List Value} (h : VRs G us vs) : VRs G (dwks us) vs :=
 ⟨by rw [ybG]; exact h.1, fun j u x hu hx => by obtain ⟨w, e1, rfl⟩ := ydS us j u hu; exact (h.2 j w x e1 hx).dwk⟩
theorem ya7.dwkA {P : Program} {f : FuncId} {args : List AV} {H : Hp} {n : Nat} {Post : AV → Hp → Nat → Prop} (h : ya7 P f (dwks args) H n Post) : ya7 P f args H n Post := fun G vs hg hM hV => h G vs hg hM hV.dwk
theorem ya7.dwkR {P : Program} {f : FuncId} {args : List AV} {H : Hp} {n : Nat} {Post : AV → Hp → Nat → Prop} (h : ya7 P f args H n fun av H' n' => Post (AV.dwk av) H' n') : ya7 P f args H n Post := fun G vs hg hM hV =>
 (h G vs hg hM hV).mono fun _ _ ⟨v, av, H', n', G', a1, a2, a3, a4, a5, a6⟩ => ⟨v, AV.dwk av, H', n', G', a1, a2, a3, a4, a5.dwk, by rw [yfH]; exact a6⟩
theorem ync {u : AV} : (dwk u).one = u.one := by cases u <;> rfl
variable {K : Nat → Type}
structure RR (K : Nat → Type) where
 R : List (HO K) → Hp → Nat → Prop
 L : Nat → Bool
instance : CoeFun (RR K) fun _ => List (HO K) → Hp → Nat → Prop := ⟨RR.R⟩
def eV (C : Cx K) (t : Nat) (x : K t) : AV := match (C.T t).g with
 | true => .agg ((C.E t).c x)
 | false => ((C.E t).c x).headD .un
def dvA (C : Cx K) : DV K → AV
 | .v t x => eV C t x
 | _ => .un
def ybk : List AV → AV
 | [v] => v
 | vs => .tup vs
def FOk (P : Program) (C : Cx K) (F : FV K) : Prop := F.av.noL = true ∧ dwk F.av = F.av ∧ F.av.one = true ∧
 ∃ (f : Nat) (a c : List AV), F.av = .fn (.func f) a c ∧ ∀ (e r : List (DV K)), F.W e r → Pure P f (a ++ e.map (dvA C) ++ c) (ybk (r.map (dvA C)))
def penc (C : Cx K) : PD → AD K → AV
 | .p t, .d (.v t' x) => if h : t' = t then .ep ((C.E t).c (h ▸ x)) 0 else .un
 | _, .d x => dvA C x
 | _, .f F => F.av
def ybj (C : Cx K) : List PD → List (AD K) → List AV
 | p :: ps, x :: xs => penc C p x :: ybj C ps xs
 | _, _ => []
def SpOk (P : Program) (C : Cx K) (sp : Sp K) : Prop := ∀ (env : List (AD K)) (r : List (DV K)), (∀ F, AD.f F ∈ env → FOk P C F) → sp.W env r → env.length = sp.ps.length ∧ Pure P sp.f (ybj C sp.ps env) (ybk (r.map (dvA C)))
def okr (ts : TS K) (s c : Nat) : Prop := c = 1 ∨ (c = 2 ∧ memB ts.nw s = true)
section
variable (P : Program) (C : Cx K) (ts : TS K) (χ : Nat → Nat → Bool)
inductive TR : TV K → AV → Prop
 | un (v : AV) : TR .un v
 | lb (b : Bool) : TR (.lb b) (.bl b)
 | bl (b : Bool) : TR (.bl b) (.bl b)
 | li (k : IntKind) (n : Int) : TR (.li k n) (.it k n)
 | it (k : IntKind) (n : Int) : TR (.it k n) (.it k n)
 | st (s : Str) : TR (.st s) (.st s)
 | agg (us : List (TV K)) (vs : List AV) (hl : vs.length = us.length) (h : ∀ (j : Nat) (u : TV K) (v : AV), us[j]? = some u → vs[j]? = some v → TR u v) : TR (.agg us) (.agg vs)
 | tup (us : List (TV K)) (vs : List AV) (hl : vs.length = us.length) (h : ∀ (j : Nat) (u : TV K) (v : AV), us[j]? = some u → vs[j]? = some v → TR u v) : TR (.tup us) (.tup vs)
 | nil : TR .nil (.sl true 0 [])
 | em (z : Bool) : TR .em (.sl z 0 [])
 | sl (e : Nat) (l : List (K e)) (z : Bool) (n : Nat) (xs : List AV) (hn : n = l.length) (hx : dwks xs = cl (C.E e) l) : TR (.sl e l) (.sl z n xs)
 | rwd (s c : Nat) (v : AV) (hr : okr ts s c) (h : tln (ts.tb s c) = none) (h1 : v.one = true) : TR (.rw s c) v
 | rw (s c n : Nat) (hr : okr ts s c) (h : tln (ts.tb s c) = some n) (hx : χ s c = false) : TR (.rw s c) (.gs (.l s c) n)
 | rwn (s c : Nat) (hr : okr ts s c) (h : tln (ts.tb s c) = some 0) (hx : χ s c = true) : TR (.rw s c) (.sl true 0 [])
 | px (s c off : Nat) (hr : okr ts s c) : TR (.px s c off) (.pt (.l s c) off)
 | pr (e s c i of : Nat) (hr : okr ts s c) (hx : χ s c = false) : TR (.pr e s c i of) (.pt (.l s c) (i * (C.E e).sz + of))
 | ep (e : Nat) (l : List (K e)) (i of : Nat) (xs : List AV) (hx : dwks xs = cl (C.E e) l) : TR (.ep e l i of) (.ep xs (i * (C.E e).sz + of))
 | gs (l : List Str) (i : Nat) (xs : List AV) (hx : dwks xs = l.map .st) : TR (.gs l i) (.ep xs i)
 | nptr : TR .nptr .nptr
 | fn (f : Nat) (a c : List (TV K)) (a' c' : List AV) (ha : a'.length = a.length) (hc : c'.length = c.length) (h : ∀ (j : Nat) (u : TV K) (v : AV), a[j]? = some u → a'[j]? = some v → TR u v)
    (h' : ∀ (j : Nat) (u : TV K) (v : AV), c[j]? = some u → c'[j]? = some v → TR u v) : TR (.fn f a c) (.fn (.func f) a' c')
 | fv (ps rs : List Nat) (F : FV K) (v : AV) (h : FOk P C F) (hv : dwk v = F.av) : TR (.fv ps rs F) v
 | cn (id : Nat) (u : TV K) (v : AV) (h : lkR ts.rg id = some u) (hn : yaZ u = true) (hv : TR u v) : TR (.cn id u) v
end
structure CxOk (P : Program) (C : Cx K) : Prop where
 c : ∀ (t : Nat) (x : K t) ts χ, ((C.E t).c x).length = ((C.T t).c x).length ∧ ∀ (j : Nat) (u : TV K) (v : AV), ((C.T t).c x)[j]? = some u → ((C.E t).c x)[j]? = some v → TR P C ts χ u v
 rd : ∀ (t : Nat) (cs : List (TV K)) (x : K t) ts χ (vs : List AV), (C.T t).rd cs = some x → vs.length = cs.length → (∀ (j : Nat) (u : TV K) (v : AV), cs[j]? = some u → vs[j]? = some v → TR P C ts χ u v) → dwks vs = (C.E t).c x
 g : ∀ t, (C.T t).g = false → (C.E t).sz = 1
 dw : ∀ t (x : K t), dwks ((C.E t).c x) = (C.E t).c x
 tb : ∀ t f, (C.T t).tb = some f → ∀ x, ∃ n, (C.E t).c x = [.it .u8 n] ∧ f x = UInt8.ofNat n.toNat
 ob : ∀ t f, (C.T t).ob = some f → ∀ b : UInt8, (C.E t).c (f b) = [.it .u8 b.toNat]
 fl : ∀ t, (C.T t).fl = true → ∀ x, yfU ((C.E t).c x) = true
 nr : ∀ t x, ybr ((C.T t).c x) = true
section
variable {P : Program} {C : Cx K} {R : RR K} {ts ts' : TS K} {χ χ' : Nat → Nat → Bool}
theorem TR.s {u : TV K} {v : AV} (h : TR P C ts χ u v) : TR P C ts χ u.s v := by
 cases h with
 | cn id u v h hn hv => exact hv
 | un v => exact .un v
 | lb b => exact .lb b
 | bl b => exact .bl b
 | li k n => exact .li k n
 | it k n => exact .it k n
 | st s => exact .st s
 | agg us vs hl h => exact .agg us vs hl h
 | tup us vs hl h => exact .tup us vs hl h
 | nil => exact .nil
 | em z => exact .em z
 | sl e l z n xs hn hx => exact .sl e l z n xs hn hx
 | rwd s c v hr h h1 => exact .rwd s c v hr h h1
 | rw s c n hr h hx => exact .rw s c n hr h hx
 | rwn s c hr h hx => exact .rwn s c hr h hx
 | px s c off hr => exact .px s c off hr
 | pr e s c i of hr hx => exact .pr e s c i of hr hx
 | ep e l i of xs hx => exact .ep e l i of xs hx
 | gs l i xs hx => exact .gs l i xs hx
 | nptr => exact .nptr
 | fn f a c a' c' ha hc h h' => exact .fn f a c a' c' ha hc h h'
 | fv ps rs F v h hv => exact .fv ps rs F v h hv
structure Mono (ts ts' : TS K) (χ χ' : Nat → Nat → Bool) : Prop where
 rg : ∀ id u, lkR ts.rg id = some u → lkR ts'.rg id = some u
 ok : ∀ s c, okr ts s c → okr ts' s c
 pl : ∀ s c, okr ts s c → (tln (ts'.tb s c) = none ∧ χ' s c = false) ∨ (tln (ts'.tb s c) = tln (ts.tb s c) ∧ χ' s c = χ s c)
theorem TR.mono (hm : Mono ts ts' χ χ') {u : TV K} {v : AV} (h : TR P C ts χ u v) : TR P C ts' χ' u v := by
 induction h with
 | cn id u v h hn _ ih => exact .cn id u v (hm.rg id u h) hn ih
 | un v => exact .un v
 | lb b => exact .lb b
 | bl b => exact .bl b
 | li k n => exact .li k n
 | it k n => exact .it k n
 | st s => exact .st s
 | agg us vs hl _ ih => exact .agg us vs hl ih
 | tup us vs hl _ ih => exact .tup us vs hl ih
 | nil => exact .nil
 | em z => exact .em z
 | sl e l z n xs hn hx => exact .sl e l z n xs hn hx
 | rwd s c v hr h ho =>
   refine .rwd s c v (hm.ok s c hr) ?_ ho
   rcases hm.pl s c hr with h1 | h1
   ·exact h1.1
   ·rw [h1.1]; exact h
 | rw s c n hr h hx =>
   rcases hm.pl s c hr with h1 | h1
   ·exact .rwd s c _ (hm.ok s c hr) h1.1 rfl
   ·exact .rw s c n (hm.ok s c hr) (by rw [h1.1]; exact h) (by rw [h1.2]; exact hx)
 | rwn s c hr h hx =>
   rcases hm.pl s c hr with h1 | h1
   ·exact .rwd s c _ (hm.ok s c hr) h1.1 rfl
   ·exact .rwn s c (hm.ok s c hr) (by rw [h1.1]; exact h) (by rw [h1.2]; exact hx)
 | px s c off hr => exact .px s c off (hm.ok s c hr)
 | pr e s c i of hr hx =>
   refine .pr e s c i of (hm.ok s c hr) ?_
   rcases hm.pl s c hr with h1 | h1
   ·exact h1.2
   ·rw [h1.2]; exact hx
 | ep e l i of xs hx => exact .ep e l i of xs hx
 | gs l i xs hx => exact .gs l i xs hx
 | nptr => exact .nptr
 | fn f a c a' c' ha hc _ _ ih ih' => exact .fn f a c a' c' ha hc ih ih'
 | fv ps rs F v h hv => exact .fv ps rs F v h hv
theorem Mono.refl : Mono ts ts χ χ := ⟨fun _ _ h => h, fun _ _ h => h, fun _ _ _ => .inr ⟨rfl, rfl⟩⟩
theorem Mono.put {d : Option Nat} {u : TV K} : Mono ts (ts.put d u) χ χ := by
 cases d with
 | none => exact .refl
 | some d => exact ⟨fun _ _ h => h, fun _ _ h => h, fun _ _ _ => .inr ⟨rfl, rfl⟩⟩
theorem Mono.trans {ts'' : TS K} {χ'' : Nat → Nat → Bool} (h : Mono ts ts' χ χ') (k : Mono ts' ts'' χ' χ'') (hv : ∀ s c, tln (ts'.tb s c) = none → χ' s c = false → tln (ts''.tb s c) = none ∧ χ'' s c = false) : Mono ts ts'' χ χ'' :=
 ⟨fun _ _ q => k.rg _ _ (h.rg _ _ q), fun _ _ q => k.ok _ _ (h.ok _ _ q), fun s c q => by
   rcases h.pl s c q with h1 | h1
   ·exact .inl (hv s c h1.1 h1.2)
   ·rcases k.pl s c (h.ok s c q) with h2 | h2
    ·exact .inl h2
    ·exact .inr ⟨h2.1.trans h1.1, h2.2.trans h1.2⟩⟩
theorem TR.noref {u : TV K} {v : AV} (h : TR P C ts χ u v) : yaZ u = true → TR P C ts' χ' u v ∧ v.noL = true := by
 have hL : ∀ {us : List (TV K)} {vs : List AV}, vs.length = us.length → ybr us = true → (∀ (j : Nat) (u : TV K) (v : AV), us[j]? = some u → vs[j]? = some v → yaZ u = true → TR P C ts' χ' u v ∧ v.noL = true) →
   (∀ (j : Nat) (u : TV K) (v : AV), us[j]? = some u → vs[j]? = some v → TR P C ts' χ' u v) ∧ noLs vs = true := by
  intro us
  induction us with
  | nil => intro vs hl _ _; exact ⟨fun j u v h => by simp at h, by cases vs with | nil => rfl | cons x r => simp at hl⟩
  | cons x r ih =>
    intro vs hl hn hh
    cases vs with
    | nil => simp at hl
    | cons y q =>
      simp only [ybr, Bool.and_eq_true] at hn
      obtain ⟨a1, a2⟩ := ih (vs := q) (by simpa using hl) hn.2 (fun j u v h1 h2 => hh (j + 1) u v (by simpa using h1) (by simpa using h2))
      obtain ⟨b1, b2⟩ := hh 0 x y rfl rfl hn.1
      refine ⟨fun j u v h1 h2 => ?_, by simp [noLs, a2, b2]⟩
      cases j with
      | zero => simp at h1 h2; subst h1; subst h2; exact b1
      | succ j => exact a1 j u v (by simpa using h1) (by simpa using h2)
 induction h with
 | cn id u v h _ _ ih => intro hn; simp [yaZ] at hn
 | un v => intro hn; simp [yaZ] at hn
 | lb b => exact fun _ => ⟨.lb b, rfl⟩
 | bl b => exact fun _ => ⟨.bl b, rfl⟩
 | li k n => exact fun _ => ⟨.li k n, rfl⟩
 | it k n => exact fun _ => ⟨.it k n, rfl⟩
 | st s => exact fun _ => ⟨.st s, rfl⟩
 | agg us vs hl _ ih =>
   intro hn
   obtain ⟨a, b⟩ := hL hl (by simpa only [yaZ] using hn) ih
   exact ⟨.agg us vs hl a, by simpa only [AV.noL] using b⟩
 | tup us vs hl _ ih =>
   intro hn
   obtain ⟨a, b⟩ := hL hl (by simpa only [yaZ] using hn) ih
   exact ⟨.tup us vs hl a, by simpa only [AV.noL] using b⟩
 | nil => exact fun _ => ⟨.nil, rfl⟩
 | em z => exact fun _ => ⟨.em z, rfl⟩
 | sl e l z n xs hn hx => exact fun _ => ⟨.sl e l z n xs hn hx, rfl⟩
 | rwd s c v hr h h1 => intro hn; simp [yaZ] at hn
 | rw s c n hr h hx => intro hn; simp [yaZ] at hn
 | rwn s c hr h hx => intro hn; simp [yaZ] at hn
 | px s c off hr => intro hn; simp [yaZ] at hn
 | pr e s c i of hr hx => intro hn; simp [yaZ] at hn
 | ep e l i of xs hx => exact fun _ => ⟨.ep e l i of xs hx, rfl⟩
 | gs l i xs hx => exact fun _ => ⟨.gs l i xs hx, rfl⟩
 | nptr => exact fun _ => ⟨.nptr, rfl⟩
 | fn f a c a' c' ha hc _ _ ih ih' =>
   intro hn
   simp only [yaZ, Bool.and_eq_true] at hn
   obtain ⟨a1, a2⟩ := hL ha hn.1 ih
   obtain ⟨b1, b2⟩ := hL hc hn.2 ih'
   exact ⟨.fn f a c a' c' ha hc a1 b1, by simp [AV.noL, a2, b2]⟩
 | fv ps rs F v h hv => exact fun _ => ⟨.fv ps rs F v h hv, by rw [← yfH, hv]; exact h.1⟩
variable (P C ts χ) in
def MR (b : TB K) (kb : KB) : Prop := match b with
 | .box e cs => kb.e = e ∧ kb.sz = cs.length ∧ kb.cells.length = cs.length ∧ ∀ (j : Nat) (u : TV K) (v : AV), cs[j]? = some u → kb.cells[j]? = some v → TR P C ts χ u v
 | .row e l => kb.e = e ∧ kb.sz = (C.E e).sz ∧ dwks kb.cells = cl (C.E e) l
 | .lrow e n cs => kb.e = e ∧ kb.sz = (C.E e).sz ∧ kb.cells.length = cs.length ∧ cs.length = n * (C.E e).sz ∧ ∀ (j : Nat) (u : TV K) (v : AV), cs[j]? = some u → kb.cells[j]? = some v → TR P C ts χ u v
theorem MR.mono (hm : Mono ts ts' χ χ') {b : TB K} {kb : KB} (h : MR P C ts χ b kb) : MR P C ts' χ' b kb := by
 cases b with
 | box e cs => exact ⟨h.1, h.2.1, h.2.2.1, fun j u v a b => (h.2.2.2 j u v a b).mono hm⟩
 | row e l => exact h
 | lrow e n cs => exact ⟨h.1, h.2.1, h.2.2.1, h.2.2.2.1, fun j u v a b => (h.2.2.2.2 j u v a b).mono hm⟩
variable (P C R ts χ) in
structure GM (ds : DS) : Prop where
 fr : ∀ t, TR P C ts χ (lkT ts.fr t) (lkF ds.fr t)
 mb : ∀ s c b, ts.tb s c = some b → χ s c = false → ∃ kb, ds.kb s c = some kb ∧ MR P C ts χ b kb
 vi : ∀ s c, χ s c = true → ∃ e, ts.tb s c = some (.row e [])
 nw : ∀ s, memB ts.nw s = false → memO ds.nw s = false
 hp : R ts.h ds.H ds.nx
 lv : ∀ s b, 2000000 ≤ s → ts.tb s 1 = some b → R.L s = χ s 1
theorem yek (fr : List (Nat × TV K)) (d t : Nat) (u : TV K) : lkT ((d, u) :: fr) t = if d = t then u else lkT fr t := by
 show (match Nat.beq d t with | true => u | false => lkT fr t) = _
 cases h : Nat.beq d t with
 | true => simp [nbeq.1 h]
 | false => simp only; rw [if_neg (fun e => by rw [nbeq.2 e] at h; cases h)]
theorem GM.put {ds : DS} (h : GM P C R ts χ ds) {d : Option Nat} {u : TV K} {v : AV} (hv : TR P C ts χ u v) : GM P C R (ts.put d u) χ (ds.put d v) := by
 cases d with
 | none => exact h
 | some d =>
   refine ⟨fun t => TR.mono Mono.put ?_, fun s c b hb hx => ?_, h.vi, h.nw, h.hp, h.lv⟩
   ·show TR P C ts χ (lkT ((d, u) :: ts.fr) t) (lkF ((d, v) :: ds.fr) t)
    rw [yek, ydb]
    simp only
    split
    ·exact hv
    ·exact h.fr t
   ·obtain ⟨kb, h1, h2⟩ := h.mb s c b hb hx
    exact ⟨kb, by rw [← h1]; rfl, h2.mono Mono.put⟩
theorem yvp : ∀ {cs : List AV} {l : List Str}, ypJ cs = some l → cs = l.map .st := by
 intro cs
 induction cs with
 | nil => intro l h; simp [ypJ] at h; subst h; rfl
 | cons x cs ih =>
   intro l h
   cases x with
   | st s =>
     simp only [ypJ] at h
     cases h' : ypJ cs with
     | none => rw [h'] at h; simp at h
     | some m => rw [h'] at h; simp at h; subst h; rw [ih h']; rfl
   | _ => simp [ypJ] at h
theorem yt3 (l : List Str) : dwks (l.map AV.st) = l.map AV.st := by
 induction l with
 | nil => rfl
 | cons s l ih => simp only [List.map_cons, dwks, ih]; rfl
mutual
theorem yv4 : ∀ (v : AV), TR P C ts χ (cvA v) v
 | .bl b => .lb b
 | .it k n => .li k n
 | .st s => .st s
 | .agg cs => by rw [cvA]; exact .agg _ _ (yjL cs).1 (yjL cs).2
 | .tup cs => by rw [cvA]; exact .tup _ _ (yjL cs).1 (yjL cs).2
 | .sl true 0 [] => .nil
 | .sl true (n + 1) xs => .un _
 | .sl true 0 (x :: xs) => .un _
 | .sl false n xs => .un _
 | .nptr => .nptr
 | .fn (.func f) [] [] => .fn f [] [] [] [] rfl rfl (fun j u v h => by simp at h) (fun j u v h => by simp at h)
 | .fn (.func f) (a :: r) c => .un _
 | .fn (.func f) [] (a :: r) => .un _
 | .fn (.method n) a c => .un _
 | .fn (.methodOf t n) a c => .un _
 | .fn (.via t a b p) _ _ => .un _
 | .fn (.yield l) a c => .un _
 | .gs k n => .un _
 | .pt k n => .un _
 | .ep xs off => by
   rw [cvA]
   cases h : ypJ xs with
   | none => exact .un _
   | some l => exact .gs l off xs (by rw [yvp h]; exact yt3 l)
 | .nfn => .un _
 | .un => .un _
 | .yld o => .un _
 | .rcd a b c d => .un _
theorem yjL : ∀ (l : List AV), l.length = (cvAs (K := K) l).length ∧ ∀ (j : Nat) (u : TV K) (v : AV), (cvAs l)[j]? = some u → l[j]? = some v → TR P C ts χ u v
 | [] => ⟨rfl, fun j u v h => by simp [cvAs] at h⟩
 | x :: l => by
   obtain ⟨a, b⟩ := yjL l
   refine ⟨by simp [cvAs, ← a], fun j u v h1 h2 => ?_⟩
   cases j with
   | zero => simp [cvAs] at h1 h2; subst h1; subst h2; exact yv4 x
   | succ j => exact b j u v (by simpa [cvAs] using h1) (by simpa using h2)
end
theorem GM.tea {ds : DS} (h : GM P C R ts χ ds) (x : AOpd) : TR P C ts χ (Go.AV.tea ts.fr x) (ev (lkF ds.fr) x) := by
 cases x with
 | t n => exact h.fr n
 | c v => exact yv4 v
theorem GM.tev {ds : DS} (h : GM P C R ts χ ds) (x : AOpd) : TR P C ts χ (Go.AV.tev ts.fr x) (ev (lkF ds.fr) x) := (h.tea x).s
theorem TR.int {u : TV K} {v : AV} {k : IntKind} {n : Int} (h : TR P C ts χ u v) (e : tint u = some (k, n)) : v = .it k n := by
 cases h <;> first | (simp [tint] at e; obtain ⟨rfl, rfl⟩ := e; rfl) | (simp [tint] at e; done)
theorem TR.bool {u : TV K} {v : AV} {b : Bool} (h : TR P C ts χ u v) (e : tbo u = some b) : v = .bl b := by
 cases h <;> first | (simp [tbo] at e; subst e; rfl) | (simp [tbo] at e; done)
end
end Go.AV
end
