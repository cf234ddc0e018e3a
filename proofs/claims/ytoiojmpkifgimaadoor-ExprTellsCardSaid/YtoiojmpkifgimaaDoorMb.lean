/- General texts and own ones, joined: what the program computes, told of abstract states, and the laws of plain data. No condition. -/
import Derived.Test.YtoiojmpkifgimaaDoorMa
import Derived.KernelRfl
import Derived.WalkKit
import Derived.ProofKit
import Derived.OpenShut
import Derived.ShutString
import Derived.ChangeOld
import Derived.ChangeSlices
import Derived.Below
import Derived.WideShapes
noncomputable section
namespace Go.AV
open Go.RowKit Go.RG Go.Lib
structure REff where
 v : AV
 mem : List ((Nat × Nat) × Option Blk)
 bump : List Nat
 H : Option (Hp × Nat)
def REff.ml (e : REff) : List (Key × Option Blk) := e.mem.map fun p => (.l p.1.1 p.1.2, p.2)
def REff.memM (e : REff) (M : Key → Option Blk) : Key → Option Blk := fun k => match e.H, k with
 | some (H, _), .h o => H o
 | _, k => e.ml.foldl (fun M p => updK M p.1 p.2) M k
def REff.cntF (e : REff) (c : Nat -> Nat) : Nat -> Nat := cntB e.bump c
def REff.mst (e : REff) (S : St) : St := ⟨S.fr, e.memM S.M, e.cntF S.cnt, match e.H with | some (_, n) => n | none => S.nx⟩
def REff.app (e : REff) (d : Option Nat) (S : St) : St := (e.mst S).put d e.v
theorem ml_h (e : REff) (o : Nat) : ∀ p ∈ e.ml, p.1 ≠ .h o := by
 intro p hp
 obtain ⟨q, _, rfl⟩ := List.mem_map.1 hp
 intro h; cases h
theorem ynI {e : REff} {p : Key × Option Blk} (hp : p ∈ e.ml) : ∃ q ∈ e.mem, p.1 = .l q.1.1 q.1.2 := by
 obtain ⟨q, hq, rfl⟩ := List.mem_map.1 hp
 exact ⟨q, hq, rfl⟩
theorem ybR {l : List (Key × Option Blk)} {k : Key} (h : ∀ p ∈ l, p.1 ≠ k) (M : Key → Option Blk) : l.foldl (fun M p => updK M p.1 p.2) M k = M k := by
 induction l generalizing M with
 | nil => rfl
 | cons p l ih =>
   rw [List.foldl_cons, ih (fun q hq => h q (List.mem_cons_of_mem _ hq))]
   simp [updK, (h p (by simp)).symm]
theorem ymk {l : List (Key × Option Blk)} {k : Key} (h : ∃ p ∈ l, p.1 = k) (M M' : Key → Option Blk) : l.foldl (fun M p => updK M p.1 p.2) M k = l.foldl (fun M p => updK M p.1 p.2) M' k := by
 induction l generalizing M M' with
 | nil => obtain ⟨p, hp, _⟩ := h; cases hp
 | cons p l ih =>
   rw [List.foldl_cons, List.foldl_cons]
   by_cases hk : ∃ q ∈ l, q.1 = k
   ·exact ih hk _ _
   ·have hn : ∀ q ∈ l, q.1 ≠ k := fun q hq e => hk ⟨q, hq, e⟩
    rw [ybR hn, ybR hn]
    obtain ⟨q, hq, e⟩ := h
    rcases List.mem_cons.1 hq with rfl | hq
    ·simp [updK, e]
    ·exact absurd e (hn q hq)
theorem ymw {l : List (Key × Option Blk)} {k : Key} {M M' : Key → Option Blk} (h : M k = M' k) : l.foldl (fun M p => updK M p.1 p.2) M k = l.foldl (fun M p => updK M p.1 p.2) M' k := by
 by_cases hk : ∃ p ∈ l, p.1 = k
 ·exact ymk hk _ _
 ·have hn : ∀ q ∈ l, q.1 ≠ k := fun q hq e => hk ⟨q, hq, e⟩
  rw [ybR hn, ybR hn, h]
theorem yeN (c : Nat -> Nat) : cntB [] c = c := by funext s; simp [cntB]
theorem ymR (s : Nat) (c : Nat → Nat) : cntB [s] c = upd c s (c s + 1) := by
 funext t
 simp only [cntB, upd, List.mem_singleton]
 split
 ·rename_i e; rw [e]
 ·rfl
def yqn (e : REff) (d : Option Nat) (f : REff) (c : Option Nat) : Prop := (∀ t, d = some t -> c ≠ some t) /\ (∀ p ∈ e.mem, ∀ q ∈ f.mem, p.1 ≠ q.1) /\ (∀ s ∈ e.bump, s ∉ f.bump) /\ (e.H = none ∨ f.H = none)
theorem St.ext4 {S T : St} (h1 : ∀ t, S.fr t = T.fr t) (h2 : ∀ k, S.M k = T.M k) (h3 : ∀ s, S.cnt s = T.cnt s) (h4 : S.nx = T.nx) : S = T := by
 cases S; cases T
 simp only [St.mk.injEq]
 exact ⟨funext h1, funext h2, funext h3, h4⟩
theorem ymJ (e : REff) (d : Option Nat) (S : St) (t : Nat) : (e.app d S).fr t = if d = some t then e.v else S.fr t := by
 unfold REff.app REff.mst
 cases d with
 | none => simp [St.put]
 | some q =>
   simp only [St.put, upd, Option.some.injEq]
   by_cases h : t = q
   ·subst h; simp
   ·have h' : ¬ q = t := fun e => h e.symm
    simp [h, h']
theorem yl0 (e : REff) (d : Option Nat) (S : St) : (e.app d S).M = e.memM S.M := by unfold REff.app REff.mst; cases d <;> rfl
theorem yjz (e : REff) (d : Option Nat) (S : St) : (e.app d S).cnt = e.cntF S.cnt := by unfold REff.app REff.mst; cases d <;> rfl
theorem ymc (e : REff) (d : Option Nat) (S : St) : (e.app d S).nx = match e.H with | some (_, n) => n | none => S.nx := by unfold REff.app REff.mst; cases d <;> rfl
theorem ygj (e : REff) (M : Key → Option Blk) (d c : Nat) : e.memM M (.l d c) = e.ml.foldl (fun M p => updK M p.1 p.2) M (.l d c) := by
 unfold REff.memM
 cases e.H <;> rfl
theorem ye2 (e : REff) (M : Key → Option Blk) (o : Nat) : e.memM M (.h o) = match e.H with | some (H, _) => H o | none => M (.h o) := by
 unfold REff.memM
 cases hH : e.H with
 | none => exact ybR (ml_h e o) M
 | some p => rfl
theorem ypy {e f : REff} {d c : Option Nat} (h : yqn e d f c) (S : St) : e.app d (f.app c S) = f.app c (e.app d S) := by
 obtain ⟨h1, h2, h3, h4⟩ := h
 refine St.ext4 ?_ ?_ ?_ ?_
 ·intro t
  simp only [ymJ]
  by_cases e1 : d = some t
  ·have : c ≠ some t := h1 t e1
   simp [e1, this]
  ·simp [e1]
 ·intro k
  simp only [yl0]
  cases k with
  | h o =>
    simp only [ye2]
    rcases h4 with h4 | h4 <;> simp [h4]
  | l a b =>
    simp only [ygj]
    by_cases hk : ∃ p ∈ e.ml, p.1 = .l a b
    ·have hn : ∀ q ∈ f.ml, q.1 ≠ .l a b := by
      intro q hq e'
      obtain ⟨p, hp, hpk⟩ := hk
      obtain ⟨p', hp', e1⟩ := ynI hp
      obtain ⟨q', hq', e2⟩ := ynI hq
      refine h2 p' hp' q' hq' ?_
      rw [e1] at hpk; rw [e2] at e'
      injection hpk with x1 x2; injection e' with y1 y2
      exact Prod.ext (x1.trans y1.symm) (x2.trans y2.symm)
     rw [ybR hn, ygj]
     exact ymk hk _ _
    ·have hn : ∀ q ∈ e.ml, q.1 ≠ .l a b := fun q hq e => hk ⟨q, hq, e⟩
     rw [ybR hn, ygj]
     refine ymw ?_
     rw [ygj, ybR hn]
 ·intro s
  simp only [yjz, REff.cntF, cntB]
  by_cases q1 : s ∈ e.bump
  ·have := h3 s q1; simp [q1, this]
  ·simp [q1]
 ·simp only [ymc]
  rcases h4 with h4 | h4 <;> simp [h4]
structure Reg where
 n : Nat
 eff : Nat -> REff
 dst : Nat -> Option Nat
 rs : Nat -> List Nat
 rk : Nat -> List Key
 rh : Nat -> Bool
 anc : Nat -> List Nat
def Reg.go (R : Reg) (D : Nat → Bool) : List Nat → St → St
 | [], S => S
 | i :: l, S => R.go D l (if D i then (R.eff i).app (R.dst i) S else S)
def Reg.st (R : Reg) (D : Nat -> Bool) (S : St) : St := R.go D (List.range R.n) S
theorem Reg.go_append (R : Reg) (D : Nat → Bool) (l m : List Nat) (S : St) : R.go D (l ++ m) S = R.go D m (R.go D l S) := by
 induction l generalizing S with
 | nil => rfl
 | cons i l ih => exact ih _
theorem Reg.go_congr (R : Reg) {D D' : Nat → Bool} {l : List Nat} (h : ∀ i ∈ l, D i = D' i) (S : St) : R.go D l S = R.go D' l S := by
 induction l generalizing S with
 | nil => rfl
 | cons i l ih =>
   simp only [Reg.go]
   rw [h i (by simp), ih (fun j hj => h j (List.mem_cons_of_mem _ hj))]
theorem Reg.go_last (R : Reg) {D : Nat → Bool} {e : REff} {d : Option Nat} {l : List Nat} (h : ∀ j ∈ l, D j = true → yqn e d (R.eff j) (R.dst j)) (S : St) : R.go D l (e.app d S) = e.app d (R.go D l S) := by
 induction l generalizing S with
 | nil => rfl
 | cons i l ih =>
   simp only [Reg.go]
   cases hD : D i with
   | false => simp only [Bool.false_eq_true, if_false]; exact ih (fun j hj => h j (List.mem_cons_of_mem _ hj)) S
   | true =>
     simp only [if_true]
     rw [<- ypy (h i (by simp) hD) S]
     exact ih (fun j hj => h j (List.mem_cons_of_mem _ hj)) _
def Reg.free (R : Reg) (i j : Nat) : Prop := i ≠ j /\ j ∉ R.anc i /\ i ∉ R.anc j
structure Reg.Ok (R : Reg) : Prop where
 apart : ∀ i j, i < R.n -> j < R.n -> R.free i j -> yqn (R.eff i) (R.dst i) (R.eff j) (R.dst j)
 slots : ∀ i j, i < R.n -> j < R.n -> R.free i j -> ∀ t, R.dst j = some t -> t ∉ R.rs i
 keys : ∀ i j, i < R.n -> j < R.n -> R.free i j -> ∀ p ∈ (R.eff j).mem, .l p.1.1 p.1.2 ∉ R.rk i
 heap : ∀ i j, i < R.n -> j < R.n -> R.free i j -> (R.eff j).H = none ∨ R.rh i = false
 rkh : ∀ i, i < R.n -> R.rh i = false -> ∀ o, .h o ∉ R.rk i
 anc : ∀ i, ∀ x ∈ R.anc i, x < i
structure yoM (rs : List Nat) (rk : List Key) (rh : Bool) (b : List Nat) (S T : St) : Prop where
 fr : ∀ t ∈ rs, S.fr t = T.fr t
 M : ∀ k ∈ rk, S.M k = T.M k
 cnt : ∀ s ∈ b, S.cnt s = T.cnt s
 hp : rh = true -> (∀ o, S.M (.h o) = T.M (.h o)) /\ S.nx = T.nx
theorem Reg.agree (R : Reg) (hO : R.Ok) {i : Nat} (hi : i < R.n) {D D' : Nat → Bool} {l : List Nat} (hl : ∀ j ∈ l, j < R.n) (h : ∀ j ∈ l, D j ≠ D' j → R.free i j) {S T : St} (hA : yoM (R.rs i) (R.rk i) (R.rh i) (R.eff i).bump S T) : yoM (R.rs i) (R.rk i) (R.rh i) (R.eff i).bump (R.go D l S) (R.go D' l T) := by
 induction l generalizing S T with
 | nil => exact hA
 | cons j l ih =>
   simp only [Reg.go]
   refine ih (fun q hq => hl q (List.mem_cons_of_mem _ hq)) (fun q hq => h q (List.mem_cons_of_mem _ hq)) ?_
   have hj := hl j (by simp)
   have both : yoM (R.rs i) (R.rk i) (R.rh i) (R.eff i).bump ((R.eff j).app (R.dst j) S) ((R.eff j).app (R.dst j) T) := by
    refine ⟨fun t ht => ?_, fun k hk => ?_, fun s hs => ?_, fun hh => ⟨fun o => ?_, ?_⟩⟩
    ·rw [ymJ, ymJ, hA.fr t ht]
    ·rw [yl0, yl0]
     cases k with
     | l a b => rw [ygj, ygj]; exact ymw (hA.M _ hk)
     | h o => rw [ye2, ye2, hA.M _ hk]
    ·rw [yjz, yjz]; unfold REff.cntF cntB
     rw [hA.cnt s hs]
    ·rw [yl0, yl0, ye2, ye2, (hA.hp hh).1 o]
    ·rw [ymc, ymc, (hA.hp hh).2]
   have oneF : R.free i j → ∀ S, (∀ t ∈ R.rs i, ((R.eff j).app (R.dst j) S).fr t = S.fr t) ∧ (∀ k ∈ R.rk i, ((R.eff j).app (R.dst j) S).M k = S.M k) ∧ (∀ s ∈ (R.eff i).bump, ((R.eff j).app (R.dst j) S).cnt s = S.cnt s) ∧ (R.rh i = true → (∀ o, ((R.eff j).app (R.dst j) S).M (.h o) = S.M (.h o)) ∧ ((R.eff j).app (R.dst j) S).nx = S.nx) := by
    intro hf S
    have hH : R.rh i = true -> (R.eff j).H = none := fun h => (hO.heap i j hi hj hf).resolve_right (by rw [h]; simp)
    refine ⟨fun t ht => ?_, fun k hk => ?_, fun s hs => ?_, fun hh => ⟨fun o => ?_, ?_⟩⟩
    ·rw [ymJ, if_neg (fun e => hO.slots i j hi hj hf t e ht)]
    ·rw [yl0]
     cases k with
     | l a b =>
       rw [ygj]
       refine ybR (fun p hp e => ?_) _
       obtain ⟨q, hq, e1⟩ := ynI hp
       exact hO.keys i j hi hj hf q hq (by rw [<- e1, e]; exact hk)
     | h o =>
       have : R.rh i = true := by
        cases h : R.rh i with
        | true => rfl
        | false => exact absurd hk (hO.rkh i hi h o)
       rw [ye2, hH this]
    ·rw [yjz]; unfold REff.cntF cntB
     rw [if_neg ((hO.apart i j hi hj hf).2.2.1 s hs)]
    ·rw [yl0, ye2, hH hh]
    ·rw [ymc, hH hh]
   cases hD : D j <;> cases hD' : D' j
   ·simp only [Bool.false_eq_true, if_false]; exact hA
   ·have hf := h j (by simp) (by rw [hD, hD']; simp)
    obtain ⟨a1, a2, a3, a4⟩ := oneF hf T
    simp only [Bool.false_eq_true, if_false, if_true]
    exact ⟨fun t ht => (hA.fr t ht).trans (a1 t ht).symm, fun k hk => (hA.M k hk).trans (a2 k hk).symm, fun s hs => (hA.cnt s hs).trans (a3 s hs).symm, fun hh => ⟨fun o => ((hA.hp hh).1 o).trans ((a4 hh).1 o).symm, (hA.hp hh).2.trans (a4 hh).2.symm⟩⟩
   ·have hf := h j (by simp) (by rw [hD, hD']; simp)
    obtain ⟨a1, a2, a3, a4⟩ := oneF hf S
    simp only [Bool.false_eq_true, if_false, if_true]
    exact ⟨fun t ht => (a1 t ht).trans (hA.fr t ht), fun k hk => (a2 k hk).trans (hA.M k hk), fun s hs => (a3 s hs).trans (hA.cnt s hs), fun hh => ⟨fun o => ((a4 hh).1 o).trans ((hA.hp hh).1 o), (a4 hh).2.trans (hA.hp hh).2⟩⟩
   ·simp only [if_true]; exact both
theorem Reg.st_succ (R : Reg) (hO : R.Ok) {D : Nat → Bool} {i : Nat} (hi : i < R.n) (hDi : D i = false) (hup : ∀ j, j < R.n → D j = true → i ∉ R.anc j) (S : St) : R.st (RG.upd D i) S = (R.eff i).app (R.dst i) (R.st D S) := by
 unfold Reg.st
 have hsplit : List.range R.n = List.range i ++ (i :: List.range' (i + 1) (R.n - i - 1)) := by
  have e1 : R.n = i + ((R.n - i - 1) + 1) := by omega
  rw [<- List.range'_succ, List.range_eq_range', List.range_eq_range']
  have := List.range'_append_1 (s := 0) (m := i) (n := R.n - i - 1 + 1)
  rw [Nat.zero_add] at this
  rw [this, <- e1]
 have hlt : ∀ j ∈ List.range' (i + 1) (R.n - i - 1), i < j ∧ j < R.n := by
  intro j hj
  rw [List.mem_range'_1] at hj
  omega
 rw [hsplit, Reg.go_append, Reg.go_append]
 simp only [Reg.go]
 have hi1 : RG.upd D i i = true := by simp [RG.upd]
 rw [hi1, hDi]
 simp only [if_true, Bool.false_eq_true, if_false]
 have hne : ∀ j, j ≠ i → RG.upd D i j = D j := by
  intro j hj
  have : (j == i) = false := by simpa using hj
  simp [RG.upd, this]
 rw [R.go_congr (D := RG.upd D i) (D' := D) (l := List.range i) (fun j hj => hne j (by have := List.mem_range.1 hj; omega)),
  R.go_congr (D := RG.upd D i) (D' := D) (l := List.range' (i + 1) (R.n - i - 1)) (fun j hj => hne j (by have := hlt j hj; omega))]
 refine R.go_last (fun j hj hDj => ?_) _
 obtain ⟨h1, h2⟩ := hlt j hj
 refine hO.apart i j hi h2 ⟨by omega, fun hm => ?_, hup j h2 hDj⟩
 have := hO.anc i j hm
 omega
def key1 : AV → List Key
 | .pt k _ => [k]
 | .gs k _ => [k]
 | _ => []
def keyOf : AV → List Key
 | .pt k _ => [k]
 | .gs k _ => [k]
 | .agg cs => cs.flatMap key1
 | _ => []
theorem ynh {l l' : Key → Bool} {e e' : AOpd → AV} (u : AOp) (he : ∀ x ∈ opds u, e' x = e x) (hl : ∀ x ∈ opds u, ∀ k ∈ keyOf (e x), l' k = l k) : pval l' e' u = pval l e u := by
 have hb : ∀ {d : Int} {x : Option AOpd}, (∀ y ∈ x.toList, e' y = e y) → bnd e' d x = bnd e d x := by
  intro d x h
  cases x with
  | none => rfl
  | some x => simp only [bnd]; rw [h x (by simp)]
 cases u <;> simp only [opds, List.mem_cons, List.not_mem_nil, or_false, forall_eq_or_imp, forall_eq, List.mem_append] at he hl <;> simp only [pval]
 case mv x => rw [he]
 case pick c x y => rw [he.1, he.2.1, he.2.2]
 case bld z ps =>
  have : ps.map (fun p => (p.1, p.2.1, e' p.2.2)) = ps.map (fun p => (p.1, p.2.1, e p.2.2)) := by
   refine List.map_congr_left fun p hp => ?_
   rw [he _ (List.mem_map.2 ⟨p, hp, rfl⟩)]
  rw [this]
 case nck x =>
  rw [he]
  cases hx : e x with
  | pt k o => simp only [hl k (by rw [hx]; simp [keyOf])]
  | fn f a b => cases f <;> rfl
  | _ => rfl
 case bin o x y => rw [he.1, he.2]
 case eq g k x y =>
  rw [he.1, he.2]
  congr 1
  unfold eqP
  split
  ·cases hx : e x <;> cases hy : e y <;> simp_all [keyOf]
  ·rfl
  ·rfl
 case eqs g k x y => rw [he.1, he.2]
 case un o x => rw [he]
 case cvi k x => rw [he]
 case cvs x => rw [he]
 case sls x lo hi =>
  have h1 : ∀ d, bnd e' d lo = bnd e d lo := fun d => hb fun y hy => he.2 y (.inl hy)
  have h2 : ∀ d, bnd e' d hi = bnd e d hi := fun d => hb fun y hy => he.2 y (.inr hy)
  simp only [he.1, h1, h2]
 case sll z x lo hi =>
  have h1 : ∀ d, bnd e' d lo = bnd e d lo := fun d => hb fun y hy => he.2 y (.inl hy)
  have h2 : ∀ d, bnd e' d hi = bnd e d hi := fun d => hb fun y hy => he.2 y (.inr hy)
  simp only [he.1, h1, h2]
 case fad o x => rw [he]; cases hx : e x <;> simp_all [keyOf]
 case fld g o z x => rw [he]
 case iad z x y =>
  rw [he.1, he.2]
  cases hx : e x with
  | gs k n => have q := hl.1 k (by rw [hx]; simp [keyOf]); cases e y <;> simp only [q]
  | _ => cases e y <;> rfl
 case iada n z x y =>
  rw [he.1, he.2]
  cases hx : e x with
  | pt k o => have q := hl.1 k (by rw [hx]; simp [keyOf]); cases e y <;> simp only [q]
  | _ => cases e y <;> rfl
 case idxs x y => rw [he.1, he.2]
 case idxa g n z x y => rw [he.1, he.2]
 case ext x i => rw [he]
 case lens x => rw [he]
 case len x => rw [he]; cases hx : e x <;> simp_all [keyOf]
 case mnx m xs => rw [List.map_congr_left he]
 case mkf f p c => rw [List.map_congr_left (fun x hx => he x (.inl hx)), List.map_congr_left (fun x hx => he x (.inr hx))]
def eff1 (v : AV) : REff := ⟨v, [], [], none⟩
def effP (v : Option AV) : Option REff := v.map eff1
def ycC (hs : Nat → Bool) (d : Nat) (S : St) (kill : List (Nat × Nat)) (b : Blk) (v : Key → AV) : Option REff :=
 if hs d = false then some ⟨v (.l d (S.cnt d + 1)), kill.map (fun k => (k, none)) ++ [((d, S.cnt d + 1), some b)], [d], none⟩ else none
def ydl (hs : Nat → Bool) (d e sz m : Nat) (ys : List AV) (S : St) : AV → Option REff
 | .sl true _ _ => if m = 0 then some (eff1 (.sl true 0 [])) else ycC hs d S [] ⟨e, sz, ys⟩ fun k => .gs k m
 | .gs (.l q c) n => (S.M (.l q c)).bind fun b => if b.e = e /\ b.sz = sz /\ b.cells.length = n * sz /\ n <= 1000000000 then ycC hs d S [(q, c)] ⟨e, sz, b.cells ++ ys⟩ fun k => .gs k (n + m) else none
 | _ => none
def yiT (sz : Nat) (S : St) (x y : AV) : Option REff := match x with
 | .pt k off => (S.M k).bind fun b => if b.sz ≠ 0 ∧ y.cells.length = sz ∧ y.cells.all AV.one = true ∧ off + sz ≤ b.cells.length ∧ hOk k (b.cells.take off ++ y.cells ++ b.cells.drop (off + sz)) = true then
    (match k with
      | .l q c => some ⟨.un, [((q, c), some { b with cells := b.cells.take off ++ y.cells ++ b.cells.drop (off + sz) })], [], none⟩
      | .h o => some ⟨.un, [], [], some (fun q => if q = o then some { b with cells := b.cells.take off ++ y.cells ++ b.cells.drop (off + sz) } else S.hp q, S.nx)⟩) else none
 | _ => none
def ylA (g : Bool) (sz : Nat) (p : Option (List AV × Nat)) : Option REff :=
 p.bind fun p => if g then (if p.2 + sz <= p.1.length then some (eff1 (.agg ((p.1.drop p.2).take sz))) else none) else effP p.1[p.2]?
def ylg (sz : Nat) (S : St) (q c n : Nat) (lo hi : Option Int) : Option REff := match lo, hi with
 | some 0, some p => (S.M (.l q c)).bind fun b => if b.sz = sz /\ 0 < sz /\ 0 <= p /\ p <= n /\ n * sz <= b.cells.length then some ⟨.gs (.l q c) p.toNat, [((q, c), some { b with cells := b.cells.take (p.toNat * sz) })], [], none⟩ else none
 | _, _ => none
def yhz (sz : Nat) (S : St) (x : AV) (lo hi : Option Int) (v : Option AV) : Option REff := match x with
 | .gs (.l q c) n => ylg sz S q c n lo hi
 | .gs (.h _) _ => none
 | _ => effP v
def effA (hs : Nat → Bool) (u : AOp) (d : Option Nat) (S : St) : Option REff :=
 match u with
 | .box e sz x => if (ev S.fr x).cells.length = sz /\ (ev S.fr x).cells.all AV.one = true /\ 0 < sz then ycC hs (site d) S [] ⟨e, sz, (ev S.fr x).cells⟩ fun k => .pt k 0 else none
 | .bsl e sz len z parts => if z.length = sz /\ 0 < sz /\ len * sz <= 16777216 then (yfk (ybA z len) (parts.map fun p => (p.1, p.2.1, ev S.fr p.2.2))).bind fun cs => ycC hs (site d) S [] ⟨e, sz, cs.map weak⟩ fun k => .gs k len else none
 | .ld g sz x => ylA g sz (tgt S (ev S.fr x))
 | .sto sz x y => yiT sz S (ev S.fr x) (ev S.fr y)
 | .app e sz bytes x y => (srcA S (ev S.fr y)).bind fun p => if 0 < sz /\ bytes <= 100000 /\ p.2.length = p.1 * sz /\ p.1 <= 400000000 then ydl hs (site d) e sz p.1 p.2 S (ev S.fr x) else none
 | .apps e x y => match ev S.fr y with
   | .st l => if l.length <= 400000000 then ydl hs (site d) e 1 l.length (encB l) S (ev S.fr x) else none
   | _ => none
 | .sll sz x lo hi => yhz sz S (ev S.fr x) (bnd (ev S.fr) 0 lo) (bnd (ev S.fr) ((match ev S.fr x with | .gs _ n => n | _ => 0 : Nat) : Int) hi) (pval (yaz S) (ev S.fr) (.sll sz x lo hi))
 | .mks e sz bytes z l c => match ev S.fr l, ev S.fr c with
   | .it _ n, .it _ m => if n = m /\ 0 <= n /\ z.length = sz /\ 0 < sz /\ bytes * n.toNat <= 281474976710656 /\ n <= 1000000000 then ycC hs (site d) S [] ⟨e, sz, ybA z n.toNat⟩ fun k => .gs k n.toNat else none
   | _, _ => none
 | .b2s x => match ev S.fr x with
   | .sl _ n xs => if xs.length = n then effP ((ydT xs).map .st) else none
   | .gs k n => (S.M k).bind fun b => if b.sz ≠ 0 /\ b.cells.length = n then effP ((ydT b.cells).map .st) else none
   | _ => none
 | .call .. | .calv .. | .s2b .. => none
 | u => effP (pval (yaz S) (ev S.fr) u)
def St.kills (S : St) (ks : List (Nat × Nat)) : St := { S with M := ks.foldl (fun M k => updK M (.l k.1 k.2) none) S.M }
theorem yha (S : St) (a b : List (Nat × Nat)) : S.kills (a ++ b) = (S.kills a).kills b := by simp [St.kills]
def pk1 (v : AV) (S : St) : List (Nat × Nat) :=
 match v with
 | .gs (.l d c) n => match S.M (.l d c) with
   | some b => if b.cells.length = n * b.sz /\ b.sz ≠ 0 /\ noLs b.cells = true then [(d, c)] else []
   | none => []
 | _ => []
def pks (l : List AV) (S : St) : List (Nat × Nat) :=
 match l with
 | [] => []
 | u :: r => pk1 u S ++ pks r (S.kills (pk1 u S))
def pkV (v : AV) (S : St) : List (Nat × Nat) :=
 if v.noL then [] else
 match v with
 | .agg cs => pks cs S
 | v => pk1 v S
def pkL (l : List AV) (S : St) : List (Nat × Nat) :=
 match l with
 | [] => []
 | u :: r => pkV u S ++ pkL r (S.kills (pkV u S))
theorem ynU (v : AV) (S : St) : (pub1 v S).2 = S.kills (pk1 v S) := by
 cases v with
 | gs k n => cases k with
   | l d c =>
     simp only [pub1, pk1]
     cases hm : S.M (.l d c) with
     | none => rfl
     | some b => simp only; split <;> rfl
   | h o => rfl
 | _ => rfl
theorem ypH : ∀ (l : List AV) (S : St), (pubs l S).2 = S.kills (pks l S)
 | [], _ => rfl
 | u :: r, S => by simp only [pubs, pks]; rw [ypH r, ynU, yha]
theorem ypQ (v : AV) (S : St) : (pubV v S).2 = S.kills (pkV v S) := by
 by_cases h : v.noL = true
 ·simp only [pubV, pkV, if_pos h]; rfl
 ·simp only [pubV, pkV, if_neg h]
  cases v with
  | agg cs => exact ypH _ _
  | _ => exact ynU _ _
theorem yow : ∀ (l : List AV) (S : St), (pubL l S).2 = S.kills (pkL l S)
 | [], _ => rfl
 | u :: r, S => by simp only [pubL, pkL]; rw [yow r, ypQ, yha]
def ycy (ks : List Key) (S T : St) : Prop := ∀ k ∈ ks, S.M k = T.M k
theorem ycy.kills {ks : List Key} {S T : St} (h : ycy ks S T) (l : List (Nat × Nat)) : ycy ks (S.kills l) (T.kills l) := by
 intro k hk
 unfold St.kills
 simp only
 induction l generalizing S T with
 | nil => exact h k hk
 | cons p l ih =>
   simp only [List.foldl_cons]
   refine ih (S := { S with M := updK S.M (.l p.1 p.2) none }) (T := { T with M := updK T.M (.l p.1 p.2) none }) (fun q hq => ?_)
   simp only [updK]
   split
   ·rfl
   ·exact h q hq
theorem ycy.left {a b : List Key} {S T : St} (h : ycy (a ++ b) S T) : ycy a S T := fun k hk => h k (List.mem_append_left _ hk)
theorem ycy.right {a b : List Key} {S T : St} (h : ycy (a ++ b) S T) : ycy b S T := fun k hk => h k (List.mem_append_right _ hk)
theorem yk2 {v : AV} {S T : St} (h : ycy (key1 v) S T) : (pub1 v T).1 = (pub1 v S).1 ∧ pk1 v T = pk1 v S := by
 cases v with
 | gs k n => cases k with
   | l d c =>
     simp only [pub1, pk1]
     rw [h (.l d c) (by simp [key1])]
     cases hm : T.M (.l d c) with
     | none => exact ⟨rfl, rfl⟩
     | some b => simp only; split <;> simp
   | h o => exact ⟨rfl, rfl⟩
 | _ => exact ⟨rfl, rfl⟩
theorem ykr : ∀ {l : List AV} {S T : St}, ycy (l.flatMap key1) S T → (pubs l T).1 = (pubs l S).1 ∧ pks l T = pks l S
 | [], _, _, _ => ⟨rfl, rfl⟩
 | u :: r, S, T, h => by
   rw [List.flatMap_cons] at h
   obtain ⟨a, b⟩ := yk2 h.left
   simp only [pubs, pks, ynU, a, b]
   obtain ⟨c, d⟩ := ykr (h.right.kills (pk1 u S))
   rw [c, d]
   exact ⟨rfl, rfl⟩
theorem yog {v : AV} {S T : St} (h : ycy (keyOf v) S T) : (pubV v T).1 = (pubV v S).1 ∧ pkV v T = pkV v S := by
 by_cases hn : v.noL = true
 ·simp only [pubV, pkV, if_pos hn]; exact ⟨trivial, trivial⟩
 ·simp only [pubV, pkV, if_neg hn]
  cases v with
  | agg cs =>
    obtain ⟨a, b⟩ := ykr (l := cs) h
    exact ⟨congrArg AV.agg a, b⟩
  | _ => exact yk2 h
theorem ykY : ∀ {l : List AV} {S T : St}, ycy (l.flatMap keyOf) S T → (pubL l T).1 = (pubL l S).1 ∧ pkL l T = pkL l S
 | [], _, _, _ => ⟨rfl, rfl⟩
 | u :: r, S, T, h => by
   rw [List.flatMap_cons] at h
   obtain ⟨a, b⟩ := yog h.left
   simp only [pubL, pkL, ypQ, a, b]
   obtain ⟨c, d⟩ := ykY (h.right.kills (pkV u S))
   rw [c, d]
   exact ⟨rfl, rfl⟩
theorem yfN : ∀ (l : List AV) (S : St), noLs l = true → pubL l S = (l, S)
 | [], S, _ => rfl
 | u :: r, S, h => by
   simp only [noLs, Bool.and_eq_true] at h
   simp only [pubL, pubV, h.1, if_true, yfN r S h.2]
theorem yoY : ∀ (l : List AV) (S : St), noLs l = true → pkL l S = []
 | [], S, _ => rfl
 | u :: r, S, h => by
   simp only [noLs, Bool.and_eq_true] at h
   simp only [pkL, pkV, h.1, if_true, List.nil_append]
   exact yoY r S h.2
theorem ygP (S : St) : S.withH S.hp S.nx = S := by
 unfold St.withH St.hp
 cases S with
 | mk fr M cnt nx =>
   simp only [St.mk.injEq, true_and, and_true]
   funext k
   cases k <;> rfl
def ysC (P : Program) (f : Cal) (args : List AV) (S : St) (e : REff) : Prop :=
 ∃ (fn : FuncId) (inn : List (Nat × K2)) (out : List ((K2 × K2) × Blk)), f = .f fn ∧ ymQ inn S.M ∧ e.H = none ∧ e.mem = inn.map (fun p => (p.2, none)) ++ out.map (fun p => (p.1.2, some p.2)) ∧
  ybD P fn (args.map (reA (finL inn))) (memL inn S.M) S.hp S.nx fun av S1 => yrN inn (out.map (·.1)) e.bump S.cnt S1 /\ reA (fun d c => lkE (out.map (·.1)) (d, c)) av = e.v /\ S1.hp = S.hp /\ S1.nx = S.nx /\ ∀ p ∈ out, (S1.M (.l p.1.1.1 p.1.1.2)).map (Blk.re fun d c => lkE (out.map (·.1)) (d, c)) = some p.2
def yhY (P : Program) (f : Cal) (args : List AV) (S : St) (e : REff) : Prop :=
 (e.bump = [] /\ e.mem = (pkL args S).map (fun k => (k, none)) /\ ye6 P f args S fun v S' => v = e.v /\ S' = e.mst S) ∨ (e = ⟨e.v, [], [], none⟩ /\ yp6 P f args S fun v _ => v = e.v) ∨ ysC P f args S e
def ygL (hs : Nat → Bool) (CA : Program) (u : AOp) (d : Option Nat) (S : St) (e : REff) : Prop :=
 match u with
 | .call f args => yhY CA (.f f) (args.map (ev S.fr)) S e
 | .calv x args => match ev S.fr x with
   | .fn (.func f) first cap => yhY CA (.f f) (first ++ args.map (ev S.fr) ++ cap) S e
   | .yld o => yhY CA (.y o) (args.map (ev S.fr)) S e
   | _ => False
 | u => effA hs u d S = some e
theorem ybG (v : AV) (S : St) : (eff1 v).mst S = S := by
 unfold REff.mst eff1 REff.cntF
 cases S with
 | mk fr M cnt nx =>
   simp only [St.mk.injEq, true_and, and_true]
   refine ⟨?_, ?_⟩
   ·funext k
    cases k <;> rfl
   ·funext s; simp [cntB]
theorem yeb {hs : Nat → Bool} {d : Nat} {S : St} {ks : List (Nat × Nat)} {b : Blk} {v : Key → AV} {e : REff} (h : ycC hs d S ks b v = some e) : hs d = false ∧ e.v = v (ybw hs S d) ∧ e.mst S = (S.kills ks).new hs d b ∧ e.bump = [d] := by
 unfold ycC at h
 split at h
 ·rename_i h0
  cases h
  refine ⟨h0, by simp [ybw, h0], ?_, rfl⟩
  unfold REff.mst REff.cntF REff.memM REff.ml St.new
  simp only [h0, Bool.false_eq_true, if_false, List.map_append, List.map_map, List.map_cons, List.map_nil, List.foldl_append, List.foldl_cons, List.foldl_nil, St.kills]
  have hc : cntB [d] S.cnt = upd S.cnt d (S.cnt d + 1) := by
   funext s
   simp only [cntB, upd, List.mem_singleton]
   split
   ·rename_i e; rw [e]
   ·rfl
  simp only [St.mk.injEq, true_and, and_true, hc]
  funext k
  have : ∀ (l : List (Nat × Nat)) (M : Key → Option Blk), List.foldl (fun M (p : Key × Option Blk) => updK M p.1 p.2) M (l.map ((fun p : (Nat × Nat) × Option Blk => (Key.l p.1.1 p.1.2, p.2)) ∘ fun k => (k, none))) = l.foldl (fun M k => updK M (.l k.1 k.2) none) M := by
   intro l
   induction l with
   | nil => intro M; rfl
   | cons a l ih => intro M; simp only [List.map_cons, List.foldl_cons]; exact ih _
  rw [this]
 ·cases h
variable {P : Program}
theorem ylc {hs : Nat → Bool} {e sz m d : Nat} {ys : List AV} {x : AV} {S : St} {f : REff} {K : AV → St → Prop} (h : ydl hs d e sz m ys S x = some f) (hK : K f.v (f.mst S)) : aapp hs d e sz m ys S K x := by
 unfold ydl at h
 split at h
 ·split at h
  ·rename_i h0; cases h; simp only [aapp, if_pos h0]; rw [ybG] at hK; exact hK
  ·rename_i h0
   obtain ⟨h1, h2, h3, _⟩ := yeb h
   simp only [aapp, if_neg h0]
   rw [h2, h3] at hK
   exact ⟨by simp [ybw, h1, hOk], hK⟩
 ·rename_i q c n
  obtain ⟨b, hb, h⟩ := Option.bind_eq_some_iff.1 h
  split at h
  ·rename_i hc
   obtain ⟨h1, h2, h3, _⟩ := yeb h
   simp only [aapp, hb, yeM]
   rw [h2, h3] at hK
   exact ⟨hc.1, hc.2.1, hc.2.2.1, hc.2.2.2, fun h => by simp [isH] at h, by simp [ybw, h1, hOk], hK⟩
  ·cases h
 ·cases h
theorem yiX {l : List (Key × Option Blk)} {k : Key} {v : Option Blk} (h : (k, v) ∈ l) (hn : ∀ v', (k, v') ∈ l → v' = v) (M : Key → Option Blk) : l.foldl (fun M p => updK M p.1 p.2) M k = v := by
 induction l generalizing M with
 | nil => cases h
 | cons p l ih =>
   rw [List.foldl_cons]
   by_cases hk : ∃ q ∈ l, q.1 = k
   ·obtain ⟨q, hq, e⟩ := hk
    have hq' : (k, q.2) ∈ l := by rw [<- e]; exact hq
    have := hn q.2 (List.mem_cons_of_mem _ hq')
    rw [this] at hq'
    exact ih hq' (fun v' hv => hn v' (List.mem_cons_of_mem _ hv)) _
   ·have hnk : ∀ q ∈ l, q.1 ≠ k := fun q hq e => hk ⟨q, hq, e⟩
    rw [ybR hnk]
    rcases List.mem_cons.1 h with e | e
    ·rw [<- e]; simp [updK]
    ·exact absurd rfl (hnk _ e)
theorem yoU {S S1 : St} {inn : List (Nat × K2)} {out : List ((K2 × K2) × Blk)} {e : REff} (he : e.H = none) (hm : e.mem = inn.map (fun p => (p.2, none)) ++ out.map (fun p => (p.1.2, some p.2))) (hhp : S1.hp = S.hp) (hnx : S1.nx = S.nx) (hn2 : ((out.map (·.1)).map (·.2)).Nodup)
  (hb : ∀ p ∈ out, (S1.M (.l p.1.1.1 p.1.1.2)).map (Blk.re fun d c => lkE (out.map (·.1)) (d, c)) = some p.2) : S.backL inn (out.map (·.1)) e.bump S1 = e.mst S := by
 refine St.ext4 (fun _ => rfl) (fun k => ?_) (fun _ => rfl) (by show S1.nx = match e.H with | some (_, n) => n | none => S.nx; rw [he]; exact hnx)
 show _ = e.memM S.M k
 cases k with
 | h o => rw [ye2, he]; exact congrFun hhp o
 | l d c =>
   rw [ygj]
   unfold REff.ml
   rw [hm, List.map_append, List.foldl_append, List.map_map, List.map_map]
   show (match lkZ (out.map (·.1)) (d, c) with | some q => (S1.M (.l q.1 q.2)).map (Blk.re fun d c => lkE (out.map (fun p : (K2 × K2) × Blk => p.1)) (d, c)) | none => match lkZ inn (d, c) with | some _ => none | none => S.M (.l d c)) = _
   cases hq : lkZ (out.map (·.1)) (d, c) with
   | some q =>
     obtain ⟨p, hp, e1⟩ := List.mem_map.1 (yg3 hq)
     have hbp := hb p hp
     have e2 : p.1.1 = q := by rw [e1]
     have e3 : p.1.2 = (d, c) := by rw [e1]
     rw [e2] at hbp
     simp only
     rw [hbp]
     refine (yiX (List.mem_map.2 ⟨p, hp, by simp [e3]⟩) (fun v' hv => ?_) _).symm
     obtain ⟨p', hp', e4⟩ := List.mem_map.1 hv
     simp only [Function.comp_apply, Prod.mk.injEq, Key.l.injEq] at e4
     have e5 : p'.1.2 = (d, c) := Prod.ext e4.1.1 e4.1.2
     have e6 : lkZ (out.map (·.1)) (d, c) = some p'.1.1 := ykF hn2 (List.mem_map.2 ⟨p', hp', Prod.ext rfl e5⟩)
     rw [hq] at e6
     have hbp' := hb p' hp'
     rw [<- Option.some.inj e6, hbp] at hbp'
     rw [<- e4.2, <- hbp']
   | none =>
     simp only
     have hno : ∀ p ∈ out, p.1.2 ≠ (d, c) := fun p hp e => yqe hq p.1.1 (List.mem_map.2 ⟨p, hp, Prod.ext rfl e⟩)
     rw [ybR (fun p hp e => by
      obtain ⟨p', hp', rfl⟩ := List.mem_map.1 hp
      simp only [Function.comp_apply, Key.l.injEq] at e
      exact hno p' hp' (Prod.ext e.1 e.2))]
     cases hi : lkZ inn (d, c) with
     | some x =>
       refine (yiX (v := none) (List.mem_map.2 ⟨(x, (d, c)), yg3 hi, rfl⟩) (fun v' hv => ?_) _).symm
       obtain ⟨p', hp', e4⟩ := List.mem_map.1 hv
       simp only [Function.comp_apply, Prod.mk.injEq] at e4
       exact e4.2.symm
     | none =>
       refine (ybR (fun p hp e => ?_) _).symm
       obtain ⟨p', hp', rfl⟩ := List.mem_map.1 hp
       simp only [Function.comp_apply, Key.l.injEq] at e
       exact yqe hi p'.1 (by rw [show (p'.1, ((d, c) : K2)) = p' from Prod.ext rfl (Prod.ext e.1.symm e.2.symm)]; exact hp')
theorem yjX {f : Cal} {args : List AV} {S : St} {e : REff} {K : AV → St → Prop} (h : yhY P f args S e) (hK : K e.v (e.mst S)) : ybo P f args S K := by
 rcases h with ⟨_, _, hn, hc⟩ | ⟨he, f', v, h1, h2, h3, h4, h5⟩ | ⟨fn, inn, out, h1, h2, h3, h4, hc⟩
 ·refine .inl ⟨hn, hc.mono ?_⟩
  rintro av H' n' ⟨rfl, e2⟩
  rw [e2]; exact hK
 ·refine .inr (.inl ⟨f', v, h1, h2, h3, h4, ?_⟩)
  rw [he] at hK
  rw [h5]
  have : REff.mst ⟨e.v, [], [], none⟩ S = S := ybG e.v S
  rw [this] at hK
  exact hK
 ·refine .inr (.inr ⟨fn, inn, h1, h2, hc.mono ?_⟩)
  rintro av S1 ⟨ho, hv, e1, e2, hb⟩
  refine ⟨out.map (·.1), e.bump, ho, ?_⟩
  rw [hv, yoU h3 h4 e1 e2 ho.n2 hb]; exact hK
theorem yql {hs : Nat → Bool} {u : AOp} {d : Option Nat} {S : St} {f : REff} {K : AV → St → Prop} (h : ygL hs P u d S f) (hK : K f.v (f.mst S)) : aop hs (ybo P) u d S K := by
 have yev : ∀ {u : AOp}, effP (pval (yaz S) (ev S.fr) u) = some f → wpv (pval (yaz S) (ev S.fr) u) fun v => K v S := by
  intro u hp
  obtain ⟨v, hv, rfl⟩ := Option.map_eq_some_iff.1 hp
  rw [hv]; rw [ybG] at hK; exact hK
 cases u <;> simp only [ygL] at h
 case call f args => exact yjX h hK
 case calv x args =>
  split at h
  ·rename_i e; simp only [aop, e]; exact yjX h hK
  ·rename_i e; simp only [aop, e]; exact yjX h hK
  ·exact h.elim
 all_goals simp only [effA] at h
 all_goals first | (exact yev h) | (cases h; done) | skip
 case box e sz x =>
  split at h
  ·rename_i hc
   obtain ⟨h1, h2, h3, _⟩ := yeb h
   rw [h2, h3] at hK
   exact ⟨hc.1, hc.2.1, hc.2.2, by simp [ybw, h1, hOk], hK⟩
  ·cases h
 case bsl e sz len z ps =>
  split at h
  ·rename_i hc
   obtain ⟨cs, hcs, h⟩ := Option.bind_eq_some_iff.1 h
   obtain ⟨h1, h2, h3, _⟩ := yeb h
   rw [h2, h3] at hK
   refine ⟨hc.1, hc.2.1, hc.2.2, ?_⟩
   rw [hcs]
   exact ⟨by simp [ybw, h1, hOk], hK⟩
  ·cases h
 case ld g sz x =>
  obtain ⟨p, hp, h⟩ := Option.bind_eq_some_iff.1 h
  simp only [aop, hp, yeM]
  split at h
  ·rename_i hg
   split at h
   ·rename_i hl
    cases h
    rw [ybG] at hK
    rw [if_pos hg, if_pos hl]; exact hK
   ·cases h
  ·rename_i hg
   obtain ⟨v, hv, rfl⟩ := Option.map_eq_some_iff.1 h
   rw [ybG] at hK
   rw [if_neg hg, hv]; exact hK
 case sto sz x y =>
  unfold yiT at h
  split at h
  ·rename_i k off e1
   obtain ⟨b, hb, h⟩ := Option.bind_eq_some_iff.1 h
   split at h
   ·rename_i hc
    simp only [aop, e1, hb, yeM]
    refine ⟨hc.1, hc.2.1, hc.2.2.1, hc.2.2.2.1, hc.2.2.2.2, ?_⟩
    split at h
    ·cases h
     refine Eq.mp (congrArg (K .un) ?_) hK
     unfold REff.mst REff.memM REff.cntF REff.ml St.setM
     simp only [St.mk.injEq, yeN, true_and, and_true]
     funext q
     cases q <;> rfl
    ·cases h
     refine Eq.mp (congrArg (K .un) ?_) hK
     unfold REff.mst REff.memM REff.cntF REff.ml St.setM
     simp only [St.mk.injEq, yeN, true_and, and_true]
     funext q
     cases q with
     | l a b => simp [updK]
     | h o => simp [updK, St.hp]
   ·cases h
  ·cases h
 case sll sz x lo hi =>
  cases hx : ev S.fr x with
  | gs k n =>
    rw [hx] at h
    cases k with
    | h o => cases h
    | l q c =>
      simp only [yhz] at h
      unfold ylg at h
      split at h
      ·rename_i p e1 e2
       obtain ⟨b, hb, h⟩ := Option.bind_eq_some_iff.1 h
       split at h
       ·rename_i hc
        cases h
        simp only [aop, hx, cutR, e1, e2, hb, yeM]
        refine ⟨hc.1, hc.2.1, hc.2.2.1, hc.2.2.2.1, hc.2.2.2.2, rfl, ?_⟩
        refine Eq.mp (congrArg (K _) ?_) hK
        unfold REff.mst REff.memM REff.cntF REff.ml St.setM
        simp only [St.mk.injEq, yeN, true_and, and_true]
        funext q
        cases q <;> rfl
       ·cases h
      ·cases h
  | _ => rw [hx] at h; simp only [aop, hx]; exact yev h
 case app e sz bytes x y =>
  obtain ⟨p, hp, h⟩ := Option.bind_eq_some_iff.1 h
  split at h
  ·rename_i hc
   refine ⟨hc.1, hc.2.1, ?_⟩
   rw [hp]
   exact ⟨hc.2.2.1, hc.2.2.2, ylc h hK⟩
  ·cases h
 case apps e x y =>
  split at h
  ·rename_i l e1
   split at h
   ·rename_i hc
    simp only [aop, e1]
    exact ⟨hc, ylc h hK⟩
   ·cases h
  ·cases h
 case mks e sz bytes z l c =>
  split at h
  ·rename_i n m e1 e2
   split at h
   ·rename_i hc
    obtain ⟨h1, h2, h3, _⟩ := yeb h
    rw [h2, h3] at hK
    simp only [aop, e1, e2]
    exact ⟨hc.1, hc.2.1, hc.2.2.1, hc.2.2.2.1, hc.2.2.2.2.1, hc.2.2.2.2.2, by simp [ybw, h1, hOk], hK⟩
   ·cases h
  ·cases h
 case b2s x =>
  split at h
  ·rename_i e1
   split at h
   ·rename_i hc
    obtain ⟨v, hv, rfl⟩ := Option.map_eq_some_iff.1 h
    obtain ⟨l, hl, rfl⟩ := Option.map_eq_some_iff.1 hv
    rw [ybG] at hK
    simp only [aop, e1, hl, yeM]
    exact ⟨hc, hK⟩
   ·cases h
  ·rename_i e1
   obtain ⟨b, hb, h⟩ := Option.bind_eq_some_iff.1 h
   split at h
   ·rename_i hc
    obtain ⟨v, hv, rfl⟩ := Option.map_eq_some_iff.1 h
    obtain ⟨l, hl, rfl⟩ := Option.map_eq_some_iff.1 hv
    rw [ybG] at hK
    simp only [aop, e1, hb, hl, yeM]
    exact ⟨hc.1, hc.2, hK⟩
   ·cases h
  ·cases h
theorem yrJ {S T : St} {v : AV} (h : ∀ k ∈ keyOf v, T.M k = S.M k) : tgt T v = tgt S v := by
 cases v with
 | pt k o => simp only [tgt]; rw [h k (by simp [keyOf])]
 | _ => rfl
theorem ypl {S T : St} {v : AV} (h : ∀ k ∈ keyOf v, T.M k = S.M k) : srcA T v = srcA S v := by
 cases v with
 | gs k n => simp only [srcA]; rw [h k (by simp [keyOf])]
 | _ => rfl
theorem ydC {hs : Nat → Bool} {d : Nat} {S T : St} {ks : List (Nat × Nat)} {b : Blk} {v : Key → AV} {e : REff} (h : ycC hs d S ks b v = some e) (hc : ∀ s ∈ e.bump, T.cnt s = S.cnt s) : ycC hs d T ks b v = some e := by
 have h4 := (yeb h).2.2.2
 unfold ycC at h ⊢
 rw [hc d (by rw [h4]; simp)]; exact h
theorem yiR {hs : Nat → Bool} {d e sz m : Nat} {ys : List AV} {x : AV} {S T : St} {f : REff} (h : ydl hs d e sz m ys S x = some f) (hk : ∀ k ∈ keyOf x, T.M k = S.M k) (hc : ∀ s ∈ f.bump, T.cnt s = S.cnt s) : ydl hs d e sz m ys T x = some f := by
 cases x with
 | sl z n xs =>
   cases z with
   | false => cases h
   | true =>
     simp only [ydl] at h ⊢
     split at h
     ·rename_i h0; rw [if_pos h0]; exact h
     ·rename_i h0; rw [if_neg h0]; exact ydC h hc
 | gs k n => cases k with
   | h o => cases h
   | l q c =>
     simp only [ydl] at h ⊢
     rw [hk (.l q c) (by simp [keyOf])]
     obtain ⟨b, hb, h⟩ := Option.bind_eq_some_iff.1 h
     rw [hb]
     simp only [Option.bind_some]
     split at h
     ·rename_i h0; rw [if_pos h0]; exact ydC h hc
     ·cases h
 | _ => cases h
theorem ypx {hs : Nat → Bool} {u : AOp} {d : Option Nat} {S T : St} {e : REff} (h : effA hs u d S = some e) (he : ∀ x ∈ opds u, ev T.fr x = ev S.fr x) (hk : ∀ x ∈ opds u, ∀ k ∈ keyOf (ev S.fr x), T.M k = S.M k)
  (hc : ∀ s ∈ e.bump, T.cnt s = S.cnt s) (hh : (∃ x ∈ opds u, ∃ o, .h o ∈ keyOf (ev S.fr x)) -> T.hp = S.hp /\ T.nx = S.nx) : effA hs u d T = some e := by
 have yev : ∀ {u : AOp}, (∀ x ∈ opds u, ev T.fr x = ev S.fr x) → (∀ x ∈ opds u, ∀ k ∈ keyOf (ev S.fr x), T.M k = S.M k) → effP (pval (yaz S) (ev S.fr) u) = some e → effP (pval (yaz T) (ev T.fr) u) = some e := by
  intro u h1 h2 h3
  rw [ynh u h1 (fun x hx k hk' => by unfold yaz; rw [h2 x hx k hk'])]
  exact h3
 cases u <;> simp only [effA] at h ⊢
 all_goals first | (exact yev he hk h) | (cases h; done) | skip
 case box e sz x =>
  rw [he x (by simp [opds])]
  split at h
  ·rename_i h0; rw [if_pos h0]; exact ydC h hc
  ·cases h
 case bsl e sz len z ps =>
  have : ps.map (fun p => (p.1, p.2.1, ev T.fr p.2.2)) = ps.map (fun p => (p.1, p.2.1, ev S.fr p.2.2)) := by
   refine List.map_congr_left fun p hp => ?_
   rw [he _ (List.mem_map.2 ⟨p, hp, rfl⟩)]
  rw [this]
  split at h
  ·rename_i h0
   rw [if_pos h0]
   obtain ⟨cs, hcs, h⟩ := Option.bind_eq_some_iff.1 h
   rw [hcs]
   exact ydC h hc
  ·cases h
 case ld g sz x =>
  rw [he x (by simp [opds]), yrJ (hk x (by simp [opds]))]; exact h
 case sto sz x y =>
  rw [he x (by simp [opds]), he y (by simp [opds])]
  have hkx := hk x (by simp [opds])
  have hhx : (∃ o, .h o ∈ keyOf (ev S.fr x)) -> T.hp = S.hp /\ T.nx = S.nx := fun ⟨o, ho⟩ => hh ⟨x, by simp [opds], o, ho⟩
  cases hx : ev S.fr x with
  | pt k off =>
    rw [hx] at h hkx hhx
    simp only [yiT] at h ⊢
    rw [hkx k (by simp [keyOf])]
    cases k with
    | l q c => exact h
    | h o =>
      obtain ⟨p1, p2⟩ := hhx ⟨o, by simp [keyOf]⟩
      rw [p1, p2]; exact h
  | _ => rw [hx] at h; cases h
 case sll sz x lo hi =>
  have hb : ∀ {d : Int} {y : Option AOpd}, (∀ z ∈ y.toList, z ∈ opds (.sll sz x lo hi)) → bnd (ev T.fr) d y = bnd (ev S.fr) d y := by
   intro d y hy
   cases y with
   | none => rfl
   | some y => simp only [bnd]; rw [he y (hy y (by simp))]
  rw [he x (by simp [opds]), hb (y := lo) (fun z hz => by simp [opds]; right; left; simpa using hz), hb (y := hi) (fun z hz => by simp [opds]; right; right; simpa using hz)]
  have hkx := hk x (by simp [opds])
  cases hx : ev S.fr x with
  | gs k n =>
    rw [hx] at h hkx
    cases k with
    | h o => cases h
    | l q c =>
      simp only [yhz, ylg] at h ⊢
      rw [hkx (.l q c) (by simp [keyOf])]
      exact h
  | _ => rw [hx] at h; exact yev he hk h
 case app e sz bytes x y =>
  rw [he x (by simp [opds]), he y (by simp [opds]), ypl (hk y (by simp [opds]))]
  obtain ⟨p, hp, h⟩ := Option.bind_eq_some_iff.1 h
  rw [hp]
  simp only [Option.bind_some]
  split at h
  ·rename_i h0; rw [if_pos h0]; exact yiR h (hk x (by simp [opds])) hc
  ·cases h
 case apps e x y =>
  rw [he x (by simp [opds]), he y (by simp [opds])]
  cases hy : ev S.fr y with
  | st l =>
    rw [hy] at h
    simp only at h ⊢
    split at h
    ·rename_i h0; rw [if_pos h0]; exact yiR h (hk x (by simp [opds])) hc
    ·cases h
  | _ => rw [hy] at h; cases h
 case mks e sz bytes z l c =>
  rw [he l (by simp [opds]), he c (by simp [opds])]
  split at h
  ·split at h
   ·rename_i h0
    rw [if_pos h0]; exact ydC h hc
   ·cases h
  ·cases h
 case b2s x =>
  rw [he x (by simp [opds])]
  have hkx := hk x (by simp [opds])
  split at h
  ·exact h
  ·rename_i k n e1
   rw [e1] at hkx
   rw [hkx k (by simp [keyOf])]; exact h
  ·cases h
theorem ym1 {u : AV} {S T : St} (h : ycy (key1 u) S T) : vw1 T.M u = vw1 S.M u := by
 unfold vw1
 split
 ·rename_i d c n
  rw [h (.l d c) (by simp [key1])]
 ·rfl
theorem ypq {u : AV} {S T : St} (h : ycy (keyOf u) S T) : vwV T.M u = vwV S.M u := by
 cases u with
 | agg cs =>
   simp only [vwV, AV.agg.injEq]
   refine List.map_congr_left fun x hx => ym1 fun k hk => h k ?_
   simp only [keyOf]
   exact List.mem_flatMap.2 ⟨x, hx, hk⟩
 | gs k n => exact ym1 h
 | _ => rfl
theorem ymO {l : List AV} {S T : St} (h : ycy (l.flatMap keyOf) S T) : l.map (vwV T.M) = l.map (vwV S.M) :=
 List.map_congr_left fun x hx => ypq fun k hk => h k (List.mem_flatMap.2 ⟨x, hx, hk⟩)
theorem yhR {f : Cal} {args : List AV} {S T : St} {e : REff} (h : yhY P f args S e) (hk : ycy (args.flatMap keyOf) S T) (hm : ∀ p ∈ e.mem, T.M (.l p.1.1 p.1.2) = S.M (.l p.1.1 p.1.2)) (hcn : ∀ s ∈ e.bump, T.cnt s = S.cnt s) (hh : T.hp = S.hp ∧ T.nx = S.nx) : yhY P f args T e := by
 obtain ⟨a, b⟩ := ykY hk
 rcases h with ⟨h1, h2, hn, hc⟩ | ⟨he, f', v, g1, g2, g3, g4, g5⟩ | ⟨fn, inn, out, g1, g2, g3, g4, hc⟩
 case inr.inl => exact .inr (.inl ⟨he, f', v, g1, by rw [ymO hk]; exact g2, by rw [ymO hk]; exact g3, g4, g5⟩)
 case inr.inr =>
  have hi : ∀ p ∈ inn, T.M (.l p.2.1 p.2.2) = S.M (.l p.2.1 p.2.2) := fun p hp => hm (p.2, none) (by rw [g4]; exact List.mem_append_left _ (List.mem_map.2 ⟨p, hp, rfl⟩))
  have hml : memL inn T.M = memL inn S.M := by
   funext x
   unfold memL
   cases hx : lkE inn x with
   | none => rfl
   | some k => simp only [Option.bind_some]; rw [hi _ (ymV hx)]
  refine .inr (.inr ⟨fn, inn, out, g1, ⟨g2.n1, g2.n2, fun p hp => by rw [hi p hp]; exact g2.ok p hp⟩, g3, g4, ?_⟩)
  rw [hml, hh.1, hh.2]
  refine hc.mono ?_
  rintro av S1 ⟨ho, hv, e1, e2, hb⟩
  refine ⟨⟨ho.n1, ho.n2, ho.live, fun p hp => ?_⟩, hv, e1, e2, hb⟩
  rcases ho.goes p hp with q | ⟨q1, q2⟩
  ·exact .inl q
  ·exact .inr ⟨q1, by rw [hcn _ q1]; exact q2⟩
 left
 have hkh : ∀ (S : St) (ks : List (Nat × Nat)), (S.kills ks).hp = S.hp := by
  intro S ks
  unfold St.kills St.hp
  funext o
  simp only
  induction ks generalizing S with
  | nil => rfl
  | cons k ks ih =>
    simp only [List.foldl_cons]
    refine (ih { S with M := updK S.M (.l k.1 k.2) none }).trans ?_
    simp [updK]
 refine ⟨h1, by rw [b]; exact h2, by rw [a]; exact hn, ?_⟩
 rw [yow] at hc ⊢
 rw [a, b, hkh, show (T.kills (pkL args S)).nx = T.nx from rfl, hh.1, hh.2]
 rw [hkh] at hc
 refine hc.mono ?_
 rintro av H' n' ⟨rfl, e2⟩
 refine ⟨rfl, ?_⟩
 have q1 : ∀ o, H' o = (e.mst S).M (.h o) := fun o => by rw [<- e2]; rfl
 have q2 : n' = (e.mst S).nx := by rw [<- e2]; rfl
 refine St.ext4 (fun _ => rfl) (fun k => ?_) (fun s => ?_) ?_
 ·cases k with
  | h o =>
    show H' o = e.memM T.M (.h o)
    rw [q1, ye2]
    show e.memM S.M (.h o) = _
    rw [ye2]
    have := congrFun hh.1 o
    simp only [St.hp] at this
    rw [this]
  | l d c =>
    show (T.kills (pkL args S)).M (.l d c) = e.memM T.M (.l d c)
    rw [ygj]
    unfold REff.ml St.kills
    rw [h2]
    simp only [List.map_map]
    generalize T.M = M
    generalize pkL args S = ks
    induction ks generalizing M with
    | nil => rfl
    | cons a ks ih => simp only [List.map_cons, List.foldl_cons]; exact ih _
 ·show T.cnt s = e.cntF T.cnt s
  unfold REff.cntF; rw [h1, yeN]
 ·show n' = match e.H with | some (_, n) => n | none => T.nx
  rw [q2]
  show (match e.H with | some (_, n) => n | none => S.nx) = _
  rw [hh.2]
structure Foot where
 rk : List Key
 wk : List (Nat × Nat)
 rh : Bool
 wh : Bool
 bs : List Nat
def yg0 : AOp → Bool
 | .call .. | .calv .. => true
 | _ => false
def ypa (ks : List Key) : Bool := ks.any isH
def ync : AV → List Key
 | .fn _ a c => a.flatMap keyOf ++ c.flatMap keyOf
 | _ => []
def rkOf (u : AOp) (S : St) : List Key := match u with
 | .calv x args => ync (ev S.fr x) ++ args.flatMap fun y => keyOf (ev S.fr y)
 | u => (opds u).flatMap fun x => keyOf (ev S.fr x)
def ybv (u : AOp) (S : St) (e : REff) : Foot := ⟨rkOf u S ++ (match yg0 u with | true => e.mem.map (fun p => .l p.1.1 p.1.2) | false => []), e.mem.map (·.1), yg0 u || ypa (rkOf u S), e.H.isSome, e.bump⟩
theorem yq0 {hs : Nat → Bool} {u : AOp} {d : Option Nat} {S T : St} {e : REff} (h : ygL hs P u d S e) (he : ∀ x ∈ opds u, ev T.fr x = ev S.fr x) (hk : ∀ k ∈ (ybv u S e).rk, T.M k = S.M k)
  (hc : ∀ s ∈ e.bump, T.cnt s = S.cnt s) (hh : (yg0 u || ypa (rkOf u S)) = true -> T.hp = S.hp /\ T.nx = S.nx) : ygL hs P u d T e := by
 have gen : ∀ {u : AOp}, rkOf u S = ((opds u).flatMap fun x => keyOf (ev S.fr x)) → (∀ x ∈ opds u, ev T.fr x = ev S.fr x) → (∀ k ∈ rkOf u S, T.M k = S.M k) → ((yg0 u || ypa (rkOf u S)) = true → T.hp = S.hp ∧ T.nx = S.nx) → effA hs u d S = some e → effA hs u d T = some e := by
  intro u hu h1 h2 h3 h4
  refine ypx h4 h1 (fun x hx k hk' => h2 k (by rw [hu]; exact List.mem_flatMap.2 ⟨x, hx, hk'⟩)) hc ?_
  rintro ⟨x, hx, o, ho⟩
  refine h3 ?_
  rw [Bool.or_eq_true]; right
  exact List.any_eq_true.2 ⟨.h o, by rw [hu]; exact List.mem_flatMap.2 ⟨x, hx, ho⟩, rfl⟩
 have hm : yg0 u = true → ∀ p ∈ e.mem, T.M (.l p.1.1 p.1.2) = S.M (.l p.1.1 p.1.2) := by
  intro hc p hp
  refine hk _ (List.mem_append_right _ ?_)
  rw [hc]; exact List.mem_map.2 ⟨p, hp, rfl⟩
 replace hk : ∀ k ∈ rkOf u S, T.M k = S.M k := fun k hk' => hk k (List.mem_append_left _ hk')
 cases u <;> simp only [ygL] at h ⊢
 case call f args =>
  have : args.map (ev T.fr) = args.map (ev S.fr) := List.map_congr_left he
  rw [this]
  refine yhR h (fun k hk' => (hk k ?_).symm) (hm rfl) hc (hh rfl)
  rw [List.flatMap_map] at hk'
  exact hk'
 case calv x args =>
  have e1 : ev T.fr x = ev S.fr x := he x (by simp [opds])
  have : args.map (ev T.fr) = args.map (ev S.fr) := List.map_congr_left fun y hy => he y (by simp [opds, hy])
  rw [e1, this]
  split at h
  ·rename_i f first cap e2
   refine yhR h (fun k hk' => (hk k ?_).symm) (hm rfl) hc (hh rfl)
   simp only [rkOf, e2, ync]
   simp only [List.flatMap_append, List.flatMap_map, List.mem_append] at hk' ⊢
   rcases hk' with (h | h) | h
   ·exact .inl (.inl h)
   ·exact .inr h
   ·exact .inl (.inr h)
  ·rename_i q e2
   refine yhR h (fun k hk' => (hk k ?_).symm) (hm rfl) hc (hh rfl)
   simp only [rkOf, e2, ync, List.nil_append]
   rw [List.flatMap_map] at hk'
   exact hk'
  ·exact h.elim
 all_goals exact gen rfl he hk hh h
def allL {α : Type} (p : α → Prop) : List α → Prop
 | [] => True
 | x :: l => p x /\ allL p l
theorem yaA {α : Type} {p : α → Prop} {l : List α} : allL p l ↔ ∀ x ∈ l, p x := by
 induction l with
 | nil => simp [allL]
 | cons x l ih => simp [allL, ih]
def wpo {α : Type} (o : Option α) (K : α → Prop) : Prop := match o with
 | some u => K u
 | none => True
def okF (a b : Foot) : Prop :=
 allL (fun p => allL (fun k => Key.l p.1 p.2 ≠ k) b.rk /\ allL (fun q => p ≠ q) b.wk) a.wk /\ allL (fun p => allL (fun k => Key.l p.1 p.2 ≠ k) a.rk) b.wk /\ (a.wh = true -> b.rh = false /\ b.wh = false) /\ (b.wh = true -> a.rh = false) /\ allL (fun s => allL (fun t => s ≠ t) b.bs) a.bs
def ygc (ft : Foot) (acc : List Foot) (fre : List Nat) : Prop := allL (fun j => wpo acc[j]? (okF ft)) fre
def yd5 : Foot := ⟨[], [], false, false, []⟩
def eop (hs : Nat → Bool) (CA : Program) (u : AOp) (d : Option Nat) (S : St) (K : REff → Prop) : Prop :=
 match u with
 | .call f args => ∃ e, yhY CA (.f f) (args.map (ev S.fr)) S e /\ K e
 | .calv x args => match ev S.fr x with
   | .fn (.func f) first cap => ∃ e, yhY CA (.f f) (first ++ args.map (ev S.fr) ++ cap) S e /\ K e
   | .yld o => ∃ e, yhY CA (.y o) (args.map (ev S.fr)) S e /\ K e
   | _ => False
 | u => wpv (effA hs u d S) K
theorem yqp {hs : Nat → Bool} {CA : Program} {u : AOp} {d : Option Nat} {S : St} {K : REff → Prop} (h : eop hs CA u d S K) : ∃ e, ygL hs CA u d S e ∧ K e := by
 cases u <;> simp only [eop] at h <;> simp only [ygL]
 case call f args => exact h
 case calv x args =>
  split at h
  ·rename_i e; exact h
  ·rename_i e; exact h
  ·exact h.elim
 all_goals exact ybU h
def runD (hs : Nat → Bool) (CA : Program) : List (AO × List Nat) → List Foot → (St → Prop) → St → Prop
 | [], _, Q, S => Q S
 | (o, fre) :: r, acc, Q, S => match o.guard with
   | none => eop hs CA o.op o.dst S fun e => ygc (ybv o.op S e) acc fre /\ runD hs CA r (acc ++ [ybv o.op S e]) Q (e.app o.dst S)
   | some (g, b) => match S.fr g with
     | .bl c => if c = b then eop hs CA o.op o.dst S fun e => ygc (ybv o.op S e) acc fre /\ runD hs CA r (acc ++ [ybv o.op S e]) Q (e.app o.dst S) else runD hs CA r (acc ++ [yd5]) Q (S.put o.dst (.tup []))
     | .tup [] => runD hs CA r (acc ++ [yd5]) Q (S.put o.dst (.tup []))
     | _ => False
inductive ykk (P : Program) (hs : Nat → Bool) (o : AO) (S : St) : REff → Foot → Prop
 | run (e : REff) (hg : ∀ g b, o.guard = some (g, b) -> S.fr g = .bl b) (h : ygL hs P o.op o.dst S e) : ykk P hs o S e (ybv o.op S e)
 | skip (g : Nat) (b : Bool) (hg : o.guard = some (g, b)) (h : S.fr g = .tup [] ∨ ∃ c, S.fr g = .bl c /\ c ≠ b) : ykk P hs o S (eff1 (.tup [])) yd5
inductive ylE (P : Program) (hs : Nat → Bool) : List (AO × List Nat) → List Foot → St → List (REff × Foot) → St → Prop
 | nil (acc : List Foot) (S : St) : ylE P hs [] acc S [] S
 | cons (o : AO) (fre : List Nat) (r : List (AO × List Nat)) (acc : List Foot) (S T : St) (e : REff) (ft : Foot) (E : List (REff × Foot)) (h1 : ykk P hs o S e ft) (h2 : ygc ft acc fre) (h3 : ylE P hs r (acc ++ [ft]) (e.app o.dst S) E T) : ylE P hs ((o, fre) :: r) acc S ((e, ft) :: E) T
theorem ys1 (acc : List Foot) (fre : List Nat) : ygc yd5 acc fre := by
 refine yaA.2 fun j _ => ?_
 cases acc[j]? with
 | none => trivial
 | some b => exact ⟨trivial, yaA.2 fun _ _ => trivial, fun h => (by cases h), fun _ => rfl, trivial⟩
theorem ymY (d : Option Nat) (S : St) : (eff1 (.tup [])).app d S = S.put d (.tup []) := by
 unfold REff.app; rw [ybG]; rfl
theorem ypj {hs : Nat → Bool} {Q : St → Prop} : ∀ (l : List (AO × List Nat)) (acc : List Foot) (S : St), runD hs P l acc Q S → ∃ E T, ylE P hs l acc S E T ∧ Q T := by
 intro l
 induction l with
 | nil => intro acc S h; exact ⟨[], S, .nil acc S, h⟩
 | cons x l ih =>
   obtain ⟨o, fre⟩ := x
   intro acc S h
   have run : (∀ g b, o.guard = some (g, b) → S.fr g = .bl b) → (eop hs P o.op o.dst S fun e => ygc (ybv o.op S e) acc fre ∧ runD hs P l (acc ++ [ybv o.op S e]) Q (e.app o.dst S)) → ∃ E T, ylE P hs ((o, fre) :: l) acc S E T ∧ Q T := by
    intro hg h
    obtain ⟨e, h1, h2, h3⟩ := yqp h
    obtain ⟨E, T, h4, h5⟩ := ih _ _ h3
    exact ⟨_, T, .cons _ _ _ _ _ _ _ _ _ (.run e hg h1) h2 h4, h5⟩
   have skip : ∀ g b, o.guard = some (g, b) → (S.fr g = .tup [] ∨ ∃ c, S.fr g = .bl c ∧ c ≠ b) → runD hs P l (acc ++ [yd5]) Q (S.put o.dst (.tup [])) → ∃ E T, ylE P hs ((o, fre) :: l) acc S E T ∧ Q T := by
    intro g b hg hc h
    rw [<- ymY] at h
    obtain ⟨E, T, h4, h5⟩ := ih _ _ h
    exact ⟨_, T, .cons _ _ _ _ _ _ _ _ _ (.skip g b hg hc) (ys1 _ _) h4, h5⟩
   simp only [runD] at h
   split at h
   ·rename_i hg; exact run (fun g b e => by rw [hg] at e; cases e) h
   ·rename_i g b hg
    split at h
    ·rename_i c e1
     split at h
     ·rename_i hc; subst hc; exact run (fun g' b' e => by rw [hg] at e; cases e; exact e1) h
     ·rename_i hc; exact skip g b hg (.inr ⟨c, e1, hc⟩) h
    ·rename_i e1; exact skip g b hg (.inl e1) h
    ·exact h.elim
theorem ypB {hs : Nat → Bool} {l : List (AO × List Nat)} {acc : List Foot} {S T : St} {E : List (REff × Foot)} (h : ylE P hs l acc S E T) (R : Reg) : ∀ k, (∀ j e, E[j]? = some e → R.eff (k + j) = e.1) → (∀ j o, l[j]? = some o → R.dst (k + j) = o.1.dst) →
  E.length = l.length /\ T = R.go (fun _ => true) (List.range' k l.length) S /\ ∀ i o fre, l[i]? = some (o, fre) -> ∃ e ft, E[i]? = some (e, ft) /\ ykk P hs o (R.go (fun _ => true) (List.range' k i) S) e ft /\ ygc ft (acc ++ (E.take i).map (·.2)) fre := by
 induction h with
 | nil acc S => intro k h1 h2; exact ⟨rfl, rfl, fun i o fre hi => by simp at hi⟩
 | cons o fre r acc S T e ft E g1 g2 g3 ih =>
   intro k h1 h2
   have e0 : R.eff k = e := h1 0 (e, ft) rfl
   have d0 : R.dst k = o.dst := h2 0 (o, fre) rfl
   obtain ⟨i1, i2, i3⟩ := ih (k + 1) (fun j e hj => by have := h1 (j + 1) e (by simpa using hj); rw [<- this]; congr 1; omega) (fun j o hj => by have := h2 (j + 1) o (by simpa using hj); rw [<- this]; congr 1; omega)
   refine ⟨by simp [i1], ?_, ?_⟩
   ·rw [List.length_cons, List.range'_succ]
    simp only [Reg.go, if_true]
    rw [e0, d0]; exact i2
   ·intro i o' fre' hi
    cases i with
    | zero =>
      simp only [List.getElem?_cons_zero, Option.some.injEq, Prod.mk.injEq] at hi
      obtain ⟨rfl, rfl⟩ := hi
      exact ⟨e, ft, rfl, g1, by simpa using g2⟩
    | succ i =>
      obtain ⟨e', ft', q1, q2, q3⟩ := i3 i o' fre' (by simpa using hi)
      refine ⟨e', ft', by simpa using q1, ?_, by simpa using q3⟩
      rw [List.range'_succ]
      simp only [Reg.go, if_true]
      rw [e0, d0]; exact q2
theorem ynM (R : Reg) (l : List Nat) (S : St) : R.go (fun _ => false) l S = S := by
 induction l with
 | nil => rfl
 | cons i l ih => simpa [Reg.go] using ih
theorem Reg.st_lt (R : Reg) {i : Nat} (hi : i ≤ R.n) (S : St) : R.st (fun j => decide (j < i)) S = R.go (fun _ => true) (List.range' 0 i) S := by
 unfold Reg.st
 have hsplit : List.range R.n = List.range' 0 i ++ List.range' i (R.n - i) := by
  rw [List.range_eq_range']
  have := List.range'_append_1 (s := 0) (m := i) (n := R.n - i)
  rw [Nat.zero_add] at this
  rw [this]; congr 1; omega
 rw [hsplit, Reg.go_append]
 rw [R.go_congr (D := fun j => decide (j < i)) (D' := fun _ => true) (l := List.range' 0 i) (fun j hj => by have := (List.mem_range'_1.1 hj).2; simp; omega),
  R.go_congr (D := fun j => decide (j < i)) (D' := fun _ => false) (l := List.range' i (R.n - i)) (fun j hj => by have := (List.mem_range'_1.1 hj).1; simp; omega), ynM]
theorem yor {hs : Nat → Bool} {CA : Program} {u : AOp} {d : Option Nat} {S : St} {e : REff} (hw : mayW u = false) (h : ygL hs CA u d S e) : ∃ v, e = eff1 v := by
 have yev : ∀ {o : Option AV}, effP o = some e → ∃ v, e = eff1 v := by
  intro o hp
  obtain ⟨v, hv, rfl⟩ := Option.map_eq_some_iff.1 hp
  exact ⟨v, rfl⟩
 cases u <;> simp only [mayW, ymu, Bool.true_eq_false] at hw <;> simp only [ygL, effA] at h
 case ld g sz x =>
  obtain ⟨p, hp, h⟩ := Option.bind_eq_some_iff.1 h
  split at h
  ·split at h
   ·cases h; exact ⟨_, rfl⟩
   ·cases h
  ·exact yev h
 case b2s x =>
  split at h
  ·split at h
   ·exact yev h
   ·cases h
  ·obtain ⟨b, hb, h⟩ := Option.bind_eq_some_iff.1 h
   split at h
   ·exact yev h
   ·cases h
  ·cases h
 all_goals first | (exact yev h) | (cases h; done)
theorem yhZ {hs : Nat → Bool} {d e sz m : Nat} {ys : List AV} {x : AV} {S : St} {f : REff} {s : Nat} (h : ydl hs d e sz m ys S x = some f) (hb : s ∈ f.bump) : s = d := by
 unfold ydl at h
 split at h
 ·split at h
  ·cases h; cases hb
  ·have := (yeb h).2.2.2; rw [this] at hb; exact List.mem_singleton.1 hb
 ·obtain ⟨b, _, h⟩ := Option.bind_eq_some_iff.1 h
  split at h
  ·have := (yeb h).2.2.2; rw [this] at hb; exact List.mem_singleton.1 hb
  ·cases h
 ·cases h
theorem ypm {hs : Nat → Bool} {u : AOp} {d : Option Nat} {S : St} {e : REff} {s : Nat} (h : effA hs u d S = some e) (hb : s ∈ e.bump) : ymu u = true ∧ s = site d := by
 have new : ∀ {S ks b v}, ycC hs (site d) S ks b v = some e → s = site d := by
  intro S ks b v h
  have := (yeb h).2.2.2; rw [this] at hb; exact List.mem_singleton.1 hb
 have yev : ∀ {o : Option AV}, effP o = some e → False := by
  intro o hp
  obtain ⟨v, hv, rfl⟩ := Option.map_eq_some_iff.1 hp
  cases hb
 cases u <;> simp only [effA] at h
 case ld g sz x =>
  obtain ⟨p, hp, h⟩ := Option.bind_eq_some_iff.1 h
  split at h
  ·split at h
   ·cases h; cases hb
   ·cases h
  ·exact (yev h).elim
 case sto sz x y =>
  unfold yiT at h
  split at h
  ·obtain ⟨b, _, h⟩ := Option.bind_eq_some_iff.1 h
   split at h
   ·split at h <;> (cases h; cases hb)
   ·cases h
  ·cases h
 case sll sz x lo hi =>
  cases hx : ev S.fr x with
  | gs k n =>
    rw [hx] at h
    cases k with
    | h o => cases h
    | l q c =>
      simp only [yhz] at h
      unfold ylg at h
      split at h
      ·obtain ⟨b, _, h⟩ := Option.bind_eq_some_iff.1 h
       split at h
       ·cases h; cases hb
       ·cases h
      ·cases h
  | _ => rw [hx] at h; exact (yev h).elim
 case box e sz x =>
  split at h
  ·exact ⟨rfl, new h⟩
  ·cases h
 case bsl e sz len z ps =>
  split at h
  ·obtain ⟨cs, _, h⟩ := Option.bind_eq_some_iff.1 h
   exact ⟨rfl, new h⟩
  ·cases h
 case app e sz bytes x y =>
  obtain ⟨p, _, h⟩ := Option.bind_eq_some_iff.1 h
  split at h
  ·exact ⟨rfl, yhZ h hb⟩
  ·cases h
 case apps e x y =>
  split at h
  ·split at h
   ·exact ⟨rfl, yhZ h hb⟩
   ·cases h
  ·cases h
 case mks e sz bytes z l c =>
  split at h
  ·split at h
   ·exact ⟨rfl, new h⟩
   ·cases h
  ·cases h
 case b2s x =>
  split at h
  ·split at h
   ·exact (yev h).elim
   ·cases h
  ·obtain ⟨b, _, h⟩ := Option.bind_eq_some_iff.1 h
   split at h
   ·exact (yev h).elim
   ·cases h
  ·cases h
 all_goals first | (exact (yev h).elim) | (cases h; done)
theorem yhA {P : Program} {ops : Array Oper} {Q : Exit → Act → World → Prop} {F : Fence} {nn : Nat} {md : Region.Mode} (Inv : (Nat → Bool) → Act → World → Prop)
  (hwf : ∀ i o, ops[i]? = some o -> ∀ e ∈ o.after.toList, Region.binds md e = true -> e.on < i)
  (hstep : ∀ D i o a w, ops[i]? = some o -> D i = false -> (∀ e ∈ o.after.toList, Region.binds md e = true -> D e.on = true) -> Inv D a w -> wpOpIn F nn P ops Q i (Inv (RG.upd D i)) a w)
  (hend : ∀ D a w, (∀ i, i < ops.size -> D i = true) -> Inv D a w -> Q .normal a w) :
  ∀ (fuel : Nat) (listed : Array Bool) (a : Act) (w : World), listed.size = ops.size → ((List.range ops.size).filter (fun i => !listed.getD i false)).length ≤ fuel →
   Inv (fun j => listed.getD j false) a w -> wpAnyIn F nn P md ops Q fuel listed a w := by
 have hall : ∀ listed : Array Bool, listed.size = ops.size → Region.ready md ops listed = [] → ∀ i, i < ops.size → listed.getD i false = true := by
  intro listed hs hr i
  induction i using Nat.strongRecOn with
  | ind i ih =>
    intro hi
    cases hb : listed.getD i false with
    | true => rfl
    | false =>
      have hm : i ∈ Region.ready md ops listed := RG.mem_ready.2 ⟨hi, by simpa [Array.getD, hs, hi] using hb, fun o ho e he hbd => by
       have := hwf i o ho e he hbd
       exact ih e.on this (by omega)⟩
      rw [hr] at hm
      cases hm
 intro fuel
 induction fuel with
 | zero =>
   intro listed a w hs hc hI
   have hl : ∀ i, i < ops.size → listed.getD i false = true := by
    intro i hi
    cases hb : listed.getD i false with
    | true => rfl
    | false =>
      have hm : i ∈ (List.range ops.size).filter (fun i => !listed.getD i false) := List.mem_filter.2 ⟨List.mem_range.2 hi, by rw [hb]; rfl⟩
      have := List.length_pos_of_mem hm
      omega
   refine ⟨?_, hend _ a w hl hI⟩
   cases hr : Region.ready md ops listed with
   | nil => rfl
   | cons x xs =>
     have hm : x ∈ Region.ready md ops listed := by rw [hr]; simp
     obtain ⟨h1, h2, _⟩ := RG.mem_ready.1 hm
     have := hl x h1
     simp [Array.getD, hs, h1] at h2 this
     rw [this] at h2; cases h2
 | succ fuel ih =>
   intro listed a w hs hc hI
   refine ⟨fun hr => hend _ a w (hall listed hs hr) hI, fun i hi => ?_⟩
   obtain ⟨h1, h2, h3⟩ := RG.mem_ready.1 hi
   have ho := Array.getElem?_eq_getElem h1
   have h2' : listed.getD i false = false := by simpa [Array.getD, hs, h1] using h2
   refine wpOpIn_mono ?_ (hstep _ i _ a w ho h2' (fun e he hb => h3 _ ho e he hb) hI)
   intro a' w' hI'
   refine ih _ a' w' (by simp [hs]) ?_ ?_
   ·have hlt : ((List.range ops.size).filter (fun j => !(listed.setIfInBounds i true).getD j false)).length < ((List.range ops.size).filter (fun j => !listed.getD j false)).length := by
     have e1 : (List.range ops.size).filter (fun j => !(listed.setIfInBounds i true).getD j false) = ((List.range ops.size).filter (fun j => !listed.getD j false)).filter (fun j => !(j == i)) := by
      rw [List.filter_filter]
      refine List.filter_congr fun j hj => ?_
      simp only [List.mem_range] at hj
      by_cases e : j = i
      ·subst e; simp [Array.getD, hs, hj]
      ·have e' : i ≠ j := fun h => e h.symm
       simp [Array.getD, hs, hj, e, e']
     rw [e1]
     exact List.length_filter_lt_length_iff_exists.2 ⟨i, List.mem_filter.2 ⟨List.mem_range.2 h1, by rw [h2']; rfl⟩, by simp⟩
    omega
   ·have e : (fun j => (listed.setIfInBounds i true).getD j false) = RG.upd (fun j => listed.getD j false) i := by
     funext j
     unfold RG.upd
     by_cases e : j = i
     ·subst e; simp [Array.getD, hs, h1]
     ·have e' : i ≠ j := fun h => e h.symm
      by_cases hj : j < listed.size <;> simp [Array.getD, hj, e, e']
    rw [e]
    exact hI'
theorem yrD {a b : Foot} (h : okF a b) : (∀ p ∈ a.wk, ∀ k ∈ b.rk, Key.l p.1 p.2 ≠ k) ∧ (∀ p ∈ a.wk, ∀ q ∈ b.wk, p ≠ q) ∧ (∀ p ∈ b.wk, ∀ k ∈ a.rk, Key.l p.1 p.2 ≠ k) ∧ (a.wh = true → b.rh = false ∧ b.wh = false) ∧ (b.wh = true → a.rh = false) ∧ ∀ s ∈ a.bs, s ∉ b.bs := by
 obtain ⟨h1, h2, h3, h4, h5⟩ := h
 exact ⟨fun p hp => yaA.1 (yaA.1 h1 p hp).1, fun p hp => yaA.1 (yaA.1 h1 p hp).2, fun p hp => yaA.1 (yaA.1 h2 p hp), h3, h4, fun s hs ht => yaA.1 (yaA.1 h5 s hs) s ht rfl⟩
theorem ym2 {P : Program} {N : Nat} {ops : Array Oper} : ∀ {l : List Oper} {us : List AO}, yeU P N ops l = some us → us.length = l.length ∧ ∀ (i : Nat) (o : Oper), l[i]? = some o → ∃ u g, us[i]? = some (⟨o.dst, g, u⟩ : AO) ∧ trOp P N o = some u ∧ yc3 ops N o.guard = some g := by
 intro l
 induction l with
 | nil => intro us h; simp only [yeU, Option.some.injEq] at h; subst h; exact ⟨rfl, fun i o hi => by simp at hi⟩
 | cons o l ih =>
   intro us h
   simp only [yeU] at h
   split at h <;> first | (cases h; done) | skip
   rename_i u g us' h1 h2 h3 h4
   cases h
   obtain ⟨a, b⟩ := ih h4
   refine ⟨by simp [a], fun i o' hi => ?_⟩
   cases i with
   | zero => simp at hi; subst hi; exact ⟨u, g, rfl, h1, h2⟩
   | succ i => exact b i o' (by simpa using hi)
section
variable {B : Base} {N : Nat} {S : St} {a : Act} {G : Gh} {hs : Nat -> Bool}
theorem ypv {T : St} {o : AO} {rs : List Nat} (hrs : ∀ t ∈ yg4 o, t ∈ rs) (h : ∀ t ∈ rs, S.fr t = T.fr t) : (∀ x ∈ opds o.op, ev T.fr x = ev S.fr x) ∧ ∀ g b, o.guard = some (g, b) → T.fr g = S.fr g := by
 refine ⟨fun x hx => ?_, fun g b hg => ?_⟩
 ·cases x with
  | t n => exact (h n (hrs n (List.mem_append_right _ (List.mem_flatMap.2 ⟨_, hx, by simp [yqi]⟩)))).symm
  | c v => rfl
 ·refine (h g (hrs g (List.mem_append_left _ ?_))).symm
  rw [hg]; simp
theorem ynm {P : Program} {T : St} {o : AO} {e : REff} {ft : Foot} (h : ykk P hs o S e ft) (hA : yoM (yg4 o) ft.rk ft.rh e.bump S T) : ykk P hs o T e ft := by
 obtain ⟨e1, e2⟩ := ypv (S := S) (T := T) (o := o) (fun t ht => ht) hA.fr
 cases h with
 | run e hg h =>
   have h' : ygL hs P o.op o.dst T e := yq0 h e1 (fun k hk => (hA.M k hk).symm) (fun s hs => (hA.cnt s hs).symm) (fun hh => by
    obtain ⟨p1, p2⟩ := hA.hp hh
    exact ⟨funext fun o => (p1 o).symm, p2.symm⟩)
   have hf : ybv o.op T e = ybv o.op S e := by
    have : rkOf o.op T = rkOf o.op S := by
     have gen : ∀ u : AOp, (∀ x ∈ opds u, ev T.fr x = ev S.fr x) → ((opds u).flatMap fun x => keyOf (ev T.fr x)) = (opds u).flatMap fun x => keyOf (ev S.fr x) := by
      intro u hu
      simp only [<- List.flatMap_map (ev T.fr) keyOf, <- List.flatMap_map (ev S.fr) keyOf]
      rw [List.map_congr_left hu]
     cases ho : o.op <;> rw [ho] at e1 <;> simp only [rkOf] <;> first | (exact gen _ e1) | skip
     rename_i x args
     rw [e1 x (by simp [opds])]
     congr 1
     simp only [<- List.flatMap_map (ev T.fr) keyOf, <- List.flatMap_map (ev S.fr) keyOf]
     rw [List.map_congr_left fun y hy => e1 y (by simp [opds, hy])]
    unfold ybv; rw [this]
   rw [<- hf]
   exact .run e (fun g b hg' => by rw [e2 g b hg']; exact hg g b hg') h'
 | skip g b hg h => exact .skip g b hg (by rw [e2 g b hg]; exact h)
theorem yqr {P : Program} [GB P B] {ro : Option Nat} {ops : Array Oper} {i : Nat} {o : Oper} {u : AOp} {g : Option (Nat × Bool)} {e : REff} {ft : Foot} {K : Act → World → Prop} {Q : Exit → Act → World → Prop} (h : Rel B N S a G) (ho : ops[i]? = some o) (hu : trOp P N o = some u) (hg : yc3 ops N o.guard = some g)
  (hst : ykk P hs ⟨o.dst, g, u⟩ S e ft) (hK : ∀ a' G', Rel B N (e.app o.dst S) a' G' -> K a' G'.w) : wpOpIn (FR ro) 0 P ops Q i K a G.w := by
 unfold wpOpIn
 simp only [ho]
 have hrun : ygL hs P u o.dst S e → o.wpIn (FR ro) 0 P a G.w K Q := fun hE => ykd h hu (yql (K := fun v S' => v = e.v ∧ S' = e.mst S) hE ⟨rfl, rfl⟩) fun av v S' G' ⟨h1, h2⟩ hR hv => by
  subst h1; subst h2
  exact hK _ G' (hR.put hv)
 cases hog : o.guard with
 | none =>
   rw [hog] at hg
   simp only [yc3, Option.some.injEq] at hg; subst hg
   rw [if_pos (by simp [Region.wanted, hog])]
   cases hst with
   | run e hg hE => exact hrun hE
   | skip g b hg h => cases hg
 | some jb =>
   obtain ⟨j, want⟩ := jb
   rw [hog] at hg
   simp only [yc3] at hg
   split at hg <;> first | (cases hg; done) | skip
   rename_i d hd
   split at hg <;> first | (cases hg; done) | skip
   rename_i hdN
   cases hg
   have hdt : d < a.tmps.size := by rw [h.tsize]; exact hdN
   have hslot := h.slot d a.tmps[d] (Array.getElem?_eq_getElem hdt)
   cases hst with
   | run e hg hE =>
     have e1 := hg d want rfl
     rw [e1] at hslot
     have hb : a.tmps[d]? = some (.bool want) := by rw [Array.getElem?_eq_getElem hdt, hslot.bl_inv]
     have hw : Region.wanted o (yielded ops a.tmps) = true := by simp [Region.wanted, hog, yielded, hd, hb]
     rw [if_pos hw]
     exact hrun hE
   | skip g b hg hc =>
     cases hg
     have hw : Region.wanted o (yielded ops a.tmps) = false := by
      rcases hc with e1 | ⟨c, e1, hne⟩
      ·rw [e1] at hslot
       obtain ⟨vs, q0, q1, _⟩ := hslot.tup_inv
       have hb : a.tmps[d]? = some (.tuple vs) := by rw [Array.getElem?_eq_getElem hdt, q0]
       simp [Region.wanted, hog, yielded, hd, hb]
      ·rw [e1] at hslot
       have hb : a.tmps[d]? = some (.bool c) := by rw [Array.getElem?_eq_getElem hdt, hslot.bl_inv]
       simp [Region.wanted, hog, yielded, hd, hb, hne]
     rw [if_neg (by rw [hw]; simp)]
     refine ⟨fun _ _ => trivial, hK _ G ?_⟩
     rw [ymY]
     exact h.put (.tup [] #[] rfl (fun j u x hu => by simp at hu))
theorem yoB {P : Program} [GB P B] {ro : Option Nat} {id : Nat} {ops : Array Oper} {l : List (AO × List Nat)} {Qn : St → Prop} {Q : Exit → Act → World → Prop} (ht : trD P N ops = some l) (hr : runD hs P l [] Qn S) (h : Rel B N S a G) (hend : ∀ S a G, Qn S → Rel B N S a G → Q .normal a G.w) : (Code.region id ops true).wpIn (FR ro) 0 P Q a G.w := by
 unfold trD at ht
 split at ht
 case h_2 => cases ht
 rename_i us hus
 simp only at ht
 split at ht
 case isFalse => cases ht
 rename_i hchk
 cases ht
 simp only [Bool.and_eq_true] at hchk
 obtain ⟨⟨⟨⟨hm, hwf⟩, hancC⟩, hpairs⟩, hal⟩ := hchk
 obtain ⟨hlen, hat⟩ := ym2 hus
 have hnn : us.length = ops.size := by rw [hlen]; simp
 generalize hanc : ancL ops.toList [] = anc at *
 generalize hfre : freL us anc = fre at *
 have hfl : fre.length = us.length := by rw [<- hfre]; simp [freL]
 obtain ⟨E, T, hC, hQ⟩ := ypj _ _ _ hr
 let R : Reg := ⟨us.length, fun i => ((E[i]?).map (·.1)).getD (eff1 .un), fun i => (us[i]?).bind (·.dst), fun i => ((us[i]?).map yg4).getD [], fun i => ((E[i]?).map (·.2.rk)).getD [], fun i => ((E[i]?).map (·.2.rh)).getD false, ycF anc⟩
 have hzl : (us.zip fre).length = us.length := by simp [hfl]
 have hz : ∀ (i : Nat) (o : AO) (f : List Nat), (us.zip fre)[i]? = some (o, f) ↔ us[i]? = some o ∧ fre[i]? = some f := by
  intro i o f
  rw [List.getElem?_zip_eq_some]
 obtain ⟨c1, c2, c3⟩ := ypB hC R 0 (fun j e hj => by show ((E[0 + j]?).map (·.1)).getD _ = _; rw [Nat.zero_add, hj]; rfl) (fun j o hj => by
  show (us[0 + j]?).bind (·.dst) = _
  obtain ⟨o1, o2⟩ := o
  rw [Nat.zero_add, ((hz j o1 o2).1 hj).1]; rfl)
 rw [hzl] at c1 c2
 have all : ∀ i, i < us.length → ∃ o f e ft, us[i]? = some o ∧ ycF fre i = f ∧ E[i]? = some (e, ft) ∧ ykk P hs o (R.st (fun j => decide (j < i)) S) e ft ∧ ygc ft ((E.take i).map (·.2)) f := by
  intro i hi
  have h1 := List.getElem?_eq_getElem hi
  have h2 := List.getElem?_eq_getElem (show i < fre.length by omega)
  obtain ⟨e, ft, q1, q2, q3⟩ := c3 i us[i] fre[i] ((hz i _ _).2 ⟨h1, h2⟩)
  refine ⟨_, _, e, ft, h1, ?_, q1, ?_, q3⟩
  ·unfold ycF; rw [h2]; rfl
  ·rw [R.st_lt (Nat.le_of_lt hi)]; exact q2
 have hwk : ∀ i, i < us.length → ∃ o e ft, us[i]? = some o ∧ E[i]? = some (e, ft) ∧ R.eff i = e ∧ R.dst i = o.dst ∧ R.rs i = yg4 o ∧ R.rk i = ft.rk ∧ R.rh i = ft.rh ∧ ft.wk = e.mem.map (·.1) ∧ ft.wh = e.H.isSome ∧ ft.bs = e.bump ∧ (mayW o.op = false → ft.wk = [] ∧ ft.wh = false ∧ ft.bs = []) ∧ (ft.rh = false → ∀ o, .h o ∉ ft.rk) ∧ ygc ft ((E.take i).map (·.2)) (ycF fre i) := by
  intro i hi
  obtain ⟨o, f, e, ft, q1, q2, q3, q4, q5⟩ := all i hi
  refine ⟨o, e, ft, q1, q3, ?_, ?_, ?_, ?_, ?_, ?_, ?_, ?_, ?_, ?_, by rw [q2]; exact q5⟩
  ·show ((E[i]?).map (·.1)).getD _ = _; rw [q3]; rfl
  ·show (us[i]?).bind (·.dst) = _; rw [q1]; rfl
  ·show ((us[i]?).map yg4).getD _ = _; rw [q1]; rfl
  ·show ((E[i]?).map (·.2.rk)).getD _ = _; rw [q3]; rfl
  ·show ((E[i]?).map (·.2.rh)).getD _ = _; rw [q3]; rfl
  ·cases q4 <;> rfl
  ·cases q4 <;> rfl
  ·cases q4 <;> rfl
  ·intro hw
   cases q4 with
   | run e hg hE => obtain ⟨v, rfl⟩ := yor hw hE; exact ⟨rfl, rfl, rfl⟩
   | skip g b hg hc => exact ⟨rfl, rfl, rfl⟩
  ·intro hh o' ho'
   cases q4 with
   | run e hg hE =>
     simp only [ybv, Bool.or_eq_false_iff] at hh ho'
     rw [hh.1] at ho'
     have ho' : .h o' ∈ rkOf o.op (R.st (fun j => decide (j < i)) S) := by simpa using ho'
     have : ypa (rkOf o.op (R.st (fun j => decide (j < i)) S)) = true := List.any_eq_true.2 ⟨_, ho', rfl⟩
     rw [hh.2] at this; cases this
   | skip g b hg hc => cases ho'
 have pair : ∀ i j, i < us.length → j < i → j ∉ ycF anc i → (∀ t, R.dst i = some t → R.dst j ≠ some t) ∧ (∀ t, R.dst j = some t → t ∉ R.rs i) ∧ (∀ t, R.dst i = some t → t ∉ R.rs j) ∧ (∀ p ∈ (R.eff i).mem, .l p.1.1 p.1.2 ∉ R.rk j) ∧ (∀ p ∈ (R.eff j).mem, .l p.1.1 p.1.2 ∉ R.rk i) ∧ (∀ p ∈ (R.eff i).mem, ∀ q ∈ (R.eff j).mem, p.1 ≠ q.1) ∧
   ((R.eff i).H = none ∨ (R.eff j).H = none) /\ ((R.eff j).H = none ∨ R.rh i = false) /\ ((R.eff i).H = none ∨ R.rh j = false) /\ ∀ s ∈ (R.eff i).bump, s ∉ (R.eff j).bump := by
  intro i j hi hj hna
  obtain ⟨o, e, ft, q1, q2, q3, q4, q5, q6, q7, q8, q9, q9', q10, q11, q12⟩ := hwk i hi
  obtain ⟨o', e', ft', p1, p2, p3, p4, p5, p6, p7, p8, p9, p9', p10, p11, p12⟩ := hwk j (by omega)
  have hp := List.all_eq_true.1 (List.all_eq_true.1 hpairs i (List.mem_range.2 hi)) j (List.mem_range.2 hj)
  rw [q1, p1] at hp
  simp only [yoR, Bool.or_eq_true, Bool.and_eq_true, List.contains_iff_mem] at hp
  have hp := hp.resolve_left hna
  obtain ⟨⟨⟨d1, d2⟩, d3⟩, d4⟩ := hp
  have hF : okF ft ft' := by
   rcases d4 with d4 | d4
   ·have := yaA.1 q12 j d4
    rw [List.getElem?_map, List.getElem?_take_of_lt hj, p2] at this
    exact this
   ·simp only [Bool.not_eq_true'] at d4
    obtain ⟨a1, a2, a3⟩ := q10 d4.1
    obtain ⟨b1, b2, b3⟩ := p10 d4.2
    unfold okF
    rw [a1, a2, a3, b1, b2]
    exact ⟨trivial, trivial, fun h => (by cases h), fun h => (by cases h), trivial⟩
  obtain ⟨f1, f2, f3, f4, f5, f6⟩ := yrD hF
  have nm : ∀ {e : REff} {ft : Foot} {p : (Nat × Nat) × Option Blk}, ft.wk = e.mem.map (·.1) -> p ∈ e.mem -> p.1 ∈ ft.wk := fun h hp => by rw [h]; exact List.mem_map.2 ⟨_, hp, rfl⟩
  have hn : ∀ {e : REff} {ft : Foot}, ft.wh = e.H.isSome → e.H = none ∨ ft.wh = true := by
   intro e ft h
   cases hH : e.H with
   | none => exact .inl rfl
   | some x => right; rw [h, hH]; rfl
  refine ⟨?_, ?_, ?_, ?_, ?_, ?_, ?_, ?_, ?_, by rw [q3, p3, <- q9', <- p9']; exact f6⟩
  ·intro t ht1 ht2
   rw [q4] at ht1; rw [p4] at ht2
   rw [ht1, ht2] at d1
   simp [dNe] at d1
  ·intro t ht hm'
   rw [p4] at ht; rw [q5] at hm'
   rw [ht] at d2
   simp only [dNr, Bool.not_eq_true', List.contains_eq_mem, decide_eq_false_iff_not] at d2
   exact d2 hm'
  ·intro t ht hm'
   rw [q4] at ht; rw [p5] at hm'
   rw [ht] at d3
   simp only [dNr, Bool.not_eq_true', List.contains_eq_mem, decide_eq_false_iff_not] at d3
   exact d3 hm'
  ·intro p hp hk
   rw [q3] at hp; rw [p6] at hk
   exact f1 p.1 (nm q8 hp) _ hk rfl
  ·intro p hp hk
   rw [p3] at hp; rw [q6] at hk
   exact f3 p.1 (nm p8 hp) _ hk rfl
  ·intro p hp q hq
   rw [q3] at hp; rw [p3] at hq
   exact f2 p.1 (nm q8 hp) q.1 (nm p8 hq)
  ·rw [q3, p3]
   rcases hn q9 with h | h
   ·exact .inl h
   ·right
    have := (f4 h).2
    rcases hn p9 with h' | h'
    ·exact h'
    ·rw [this] at h'; cases h'
  ·rw [p3, q7]
   rcases hn p9 with h | h
   ·exact .inl h
   ·exact .inr (f5 h)
  ·rw [q3, p7]
   rcases hn q9 with h | h
   ·exact .inl h
   ·exact .inr (f4 h).1
 have hancs : ∀ i x, i < us.length → x ∈ ycF anc i → x < i ∧ ∃ o e, ops[i]? = some o ∧ e ∈ o.after.toList ∧ Region.binds .any e = true ∧ (e.on = x ∨ x ∈ ycF anc e.on) := by
  intro i x hi hx
  have h' := List.all_eq_true.1 (List.all_eq_true.1 hancC i (List.mem_range.2 (by omega))) x hx
  simp only [Bool.and_eq_true, decide_eq_true_eq] at h'
  refine ⟨h'.1, ?_⟩
  have h' := h'.2
  cases ho : ops[i]? with
  | none => rw [ho] at h'; cases h'
  | some o =>
    rw [ho] at h'
    simp only [Option.map_some, Option.getD_some, List.any_eq_true, Bool.and_eq_true, Bool.or_eq_true, beq_iff_eq, List.contains_iff_mem] at h'
    obtain ⟨e, he, hb, h⟩ := h'
    exact ⟨o, e, rfl, he, hb, h⟩
 have hO : R.Ok := by
  have tri : ∀ i j, i < us.length → j < us.length → R.free i j → (j < i ∧ j ∉ ycF anc i) ∨ (i < j ∧ i ∉ ycF anc j) := by
   rintro i j hi hj ⟨f1, f2, f3⟩
   rcases Nat.lt_or_ge j i with h | h
   ·exact .inl ⟨h, f2⟩
   ·exact .inr ⟨by omega, f3⟩
  refine ⟨fun i j hi hj hf => ?_, fun i j hi hj hf => ?_, fun i j hi hj hf => ?_, fun i j hi hj hf => ?_, fun i hi hh => ?_, fun i x hx => ?_⟩
  ·rcases tri i j hi hj hf with ⟨h1, h2⟩ | ⟨h1, h2⟩
   ·obtain ⟨a1, _, _, _, _, a6, a7, _, _, a10⟩ := pair i j hi h1 h2
    exact ⟨a1, a6, a10, a7⟩
   ·obtain ⟨a1, _, _, _, _, a6, a7, _, _, a10⟩ := pair j i hj h1 h2
    have a1' : ∀ t, R.dst i = some t -> R.dst j ≠ some t := fun t h h' => a1 t h' h
    exact ⟨a1', fun p hp q hq e => a6 q hq p hp e.symm, fun s h1 h2 => a10 s h2 h1, a7.symm⟩
  ·rcases tri i j hi hj hf with ⟨h1, h2⟩ | ⟨h1, h2⟩
   ·exact (pair i j hi h1 h2).2.1
   ·exact (pair j i hj h1 h2).2.2.1
  ·rcases tri i j hi hj hf with ⟨h1, h2⟩ | ⟨h1, h2⟩
   ·exact (pair i j hi h1 h2).2.2.2.2.1
   ·exact (pair j i hj h1 h2).2.2.2.1
  ·rcases tri i j hi hj hf with ⟨h1, h2⟩ | ⟨h1, h2⟩
   ·exact (pair i j hi h1 h2).2.2.2.2.2.2.2.1
   ·exact (pair j i hj h1 h2).2.2.2.2.2.2.2.2.1
  ·obtain ⟨o, e, ft, q1, q2, q3, q4, q5, q6, q7, q8, q9, q9', q10, q11, q12⟩ := hwk i hi
   rw [q7] at hh; rw [q6]; exact q11 hh
  ·by_cases hi : i < us.length
   ·exact (hancs i x hi hx).1
   ·have : ycF anc i = [] := by
     have hl : ∀ (l : List Oper) (acc : List (List Nat)), (ancL l acc).length = acc.length + l.length := by
      intro l
      induction l with
      | nil => intro acc; simp [ancL]
      | cons o l ih => intro acc; simp only [ancL]; rw [ih]; simp; omega
     have hal' : anc.length = us.length := by rw [<- hanc, hl, hlen]; simp
     unfold ycF
     rw [List.getElem?_eq_none (by omega)]; rfl
    rw [show R.anc i = ycF anc i from rfl, this] at hx; cases hx
 have wf : ∀ i o, ops[i]? = some o → ∀ e ∈ o.after.toList, Region.binds .any e = true → e.on < i := by
  intro i o ho e he hb
  have h' := List.all_eq_true.1 hwf i (List.mem_range.2 (Array.getElem?_eq_some_iff.1 ho).1)
  rw [ho] at h'
  simp only [Option.map_some, Option.getD_some, List.all_eq_true] at h'
  have := h' e he
  rw [hb] at this
  simpa using this
 obtain ⟨G0, g1, g2, g3⟩ := h.toMRel.same_heap (w1 := { G.w with drawn := G.w.drawn + 1 }) rfl rfl rfl rfl
 let Inv : (Nat -> Bool) -> Act -> World -> Prop := fun D a w => (∀ j, D j = true -> j < us.length /\ ∀ x ∈ ycF anc j, D x = true) /\ ∃ G, Rel B N (R.st D S) a G /\ G.w = w
 refine wpIn_region_any hm (yhA (Q := Q) Inv wf ?_ ?_ ops.size (Array.replicate ops.size false) a _ (by simp) ?_ ?_)
 ·rintro D i o a1 w1 ho hDi hready ⟨hD, G1, hR1, rfl⟩
  have hi : i < us.length := by rw [hnn]; exact (Array.getElem?_eq_some_iff.1 ho).1
  obtain ⟨u, g, k1, k2, k3⟩ := hat i o (by rw [Array.getElem?_toList]; exact ho)
  obtain ⟨o', e, ft, q1, q2, q3, q4, q5, q6, q7, q8, q9, q9', q10, q11, q12⟩ := hwk i hi
  rw [k1] at q1; cases q1
  obtain ⟨o', f, e', ft', p1, p2, p3, p4, p5⟩ := all i hi
  rw [k1] at p1; cases p1
  rw [q2] at p3; cases p3
  have hancD : ∀ x ∈ ycF anc i, D x = true := by
   intro x hx
   obtain ⟨_, o', ed, ho', he, hb, hor⟩ := hancs i x hi hx
   rw [ho] at ho'; cases ho'
   have := hready ed he hb
   rcases hor with h | h
   ·rw [<- h]; exact this
   ·exact (hD _ this).2 x h
  have hnot : ∀ j, D j = true → i ∉ ycF anc j := fun j hj hm' => by
   have := (hD j hj).2 i hm'
   rw [hDi] at this; cases this
  have hA : yoM (R.rs i) (R.rk i) (R.rh i) (R.eff i).bump (R.st (fun j => decide (j < i)) S) (R.st D S) := by
   refine R.agree hO hi (fun j hj => List.mem_range.1 hj) (fun j hj hne => ?_) ⟨fun _ _ => rfl, fun _ _ => rfl, fun _ _ => rfl, fun _ => ⟨fun _ => rfl, rfl⟩⟩
   have hjn := List.mem_range.1 hj
   rcases Nat.lt_trichotomy j i with hlt | heq | hgt
   ·have hDj : D j = false := by
     cases hDj : D j with
     | false => rfl
     | true => rw [hDj] at hne; simp [hlt] at hne
    refine ⟨by omega, fun hm' => ?_, fun hm' => ?_⟩
    ·have := hancD j hm'; rw [hDj] at this; cases this
    ·have := hO.anc j i hm'; omega
   ·subst heq; rw [hDi] at hne; simp at hne
   ·have hDj : D j = true := by
     cases hDj : D j with
     | true => rfl
     | false => rw [hDj] at hne; have : ¬ j < i := by omega
                simp [this] at hne
    refine ⟨by omega, fun hm' => ?_, hnot j hDj⟩
    have := hO.anc i j hm'; omega
  rw [q5, q6, q7, q3] at hA
  have hst := ynm p4 hA
  refine yqr hR1 ho k2 k3 hst fun a' G' hR' => ?_
  refine ⟨fun j hj => ?_, G', ?_, rfl⟩
  ·by_cases hji : j = i
   ·subst hji
    exact ⟨hi, fun x hx => by simp [RG.upd, hancD x hx]⟩
   ·have hDj : D j = true := by simpa [RG.upd, hji] using hj
    exact ⟨(hD j hDj).1, fun x hx => by simp [RG.upd, (hD j hDj).2 x hx]⟩
  ·rw [R.st_succ hO hi hDi (fun j _ hj => hnot j hj), q3, q4]
   exact hR'
 ·rintro D a1 w1 hall ⟨hD, G1, hR1, rfl⟩
  refine hend (R.st D S) a1 G1 ?_ hR1
  have : R.st D S = T := by
   rw [c2]
   unfold Reg.st
   rw [List.range_eq_range']
   exact R.go_congr (fun j hj => hall j (by have := (List.mem_range'_1.1 hj).2; simp only [Nat.zero_add] at this; rw [<- hnn]; exact this)) S
  rw [this]; exact hQ
 ·exact Nat.le_trans (List.length_filter_le _ _) (by simp)
 ·have e0 : (fun j => (Array.replicate ops.size false).getD j false) = fun _ => false := by
   funext j
   by_cases hj : j < ops.size <;> simp [Array.getD, hj]
  rw [e0]
  refine ⟨fun j hj => (by cases hj), G0, ?_, g1⟩
  have : R.st (fun _ => false) S = S := ynM R _ S
  rw [this]
  exact h.lift g2 g3 rfl
end
end Go.AV
end
noncomputable section
namespace Go.AV
open Go.RowKit Go.RG Go.Lib
def anyD (hs : Nat → Bool) (CA : Program) (l : List (AO × List Nat)) (Q : St → Prop) (S : St) : Prop :=
 ∃ Inv : (Nat → Bool) → St → Prop, Inv (fun _ => false) S ∧ (∀ D S', (∀ i, i < l.length → D i = true) → Inv D S' → Q S') ∧
  ∀ (i : Nat) (o : AO) (f : List Nat), l[i]? = some (o, f) → o.guard = none ∧ ∀ D S', D i = false →
   (∀ (j : Nat) (q : AO × List Nat), j < i -> l[j]? = some q -> D j = true ∨ (∀ t, q.1.dst = some t -> t ∉ yg4 o) /\ (j ∈ f ∨ mayW o.op = false /\ mayW q.1.op = false)) ->
   Inv D S' -> aop hs (ybo CA) o.op o.dst S' fun v S'' => Inv (RG.upd D i) (S''.put o.dst v)
section
variable {B : Base} {N : Nat} {S : St} {a : Act} {G : Gh} {hs : Nat -> Bool}
theorem yqW {P : Program} [GB P B] {ro : Option Nat} {id : Nat} {ops : Array Oper} {l : List (AO × List Nat)} {Qn : St → Prop} {Q : Exit → Act → World → Prop} (ht : trD P N ops = some l) (hr : anyD hs P l Qn S) (h : Rel B N S a G) (hend : ∀ S a G, Qn S → Rel B N S a G → Q .normal a G.w) : (Code.region id ops true).wpIn (FR ro) 0 P Q a G.w := by
 unfold trD at ht
 split at ht
 case h_2 => cases ht
 rename_i us hus
 simp only at ht
 split at ht
 case isFalse => cases ht
 rename_i hchk
 cases ht
 simp only [Bool.and_eq_true] at hchk
 obtain ⟨⟨⟨⟨hm, hwf⟩, hancC⟩, hpairs⟩, hal⟩ := hchk
 obtain ⟨hlen, hat⟩ := ym2 hus
 have hnn : us.length = ops.size := by rw [hlen]; simp
 generalize hanc : ancL ops.toList [] = anc at *
 generalize hfre : freL us anc = fre at *
 have hfl : fre.length = us.length := by rw [<- hfre]; simp [freL]
 have hzl : (us.zip fre).length = us.length := by simp [hfl]
 have hz : ∀ (i : Nat) (o : AO) (f : List Nat), (us.zip fre)[i]? = some (o, f) ↔ us[i]? = some o ∧ fre[i]? = some f := by
  intro i o f
  rw [List.getElem?_zip_eq_some]
 have hancs : ∀ i x, i < us.length → x ∈ ycF anc i → x < i ∧ ∃ o e, ops[i]? = some o ∧ e ∈ o.after.toList ∧ Region.binds .any e = true ∧ (e.on = x ∨ x ∈ ycF anc e.on) := by
  intro i x hi hx
  have h' := List.all_eq_true.1 (List.all_eq_true.1 hancC i (List.mem_range.2 (by omega))) x hx
  simp only [Bool.and_eq_true, decide_eq_true_eq] at h'
  refine ⟨h'.1, ?_⟩
  have h' := h'.2
  cases ho : ops[i]? with
  | none => rw [ho] at h'; cases h'
  | some o =>
    rw [ho] at h'
    simp only [Option.map_some, Option.getD_some, List.any_eq_true, Bool.and_eq_true, Bool.or_eq_true, beq_iff_eq, List.contains_iff_mem] at h'
    obtain ⟨e, he, hb, h⟩ := h'
    exact ⟨o, e, rfl, he, hb, h⟩
 have wf : ∀ i o, ops[i]? = some o → ∀ e ∈ o.after.toList, Region.binds .any e = true → e.on < i := by
  intro i o ho e he hb
  have h' := List.all_eq_true.1 hwf i (List.mem_range.2 (Array.getElem?_eq_some_iff.1 ho).1)
  rw [ho] at h'
  simp only [Option.map_some, Option.getD_some, List.all_eq_true] at h'
  have := h' e he
  rw [hb] at this
  simpa using this
 obtain ⟨G0, g1, g2, g3⟩ := h.toMRel.same_heap (w1 := { G.w with drawn := G.w.drawn + 1 }) rfl rfl rfl rfl
 obtain ⟨I, hI0, hIe, hIs⟩ := hr
 let Inv : (Nat -> Bool) -> Act -> World -> Prop := fun D a w => (∀ j, D j = true -> ∀ x ∈ ycF anc j, D x = true) /\ ∃ S G, I D S /\ Rel B N S a G /\ G.w = w
 refine wpIn_region_any hm (yhA (Q := Q) Inv wf ?_ ?_ ops.size (Array.replicate ops.size false) a _ (by simp) ?_ ?_)
 ·rintro D i o a1 w1 ho hDi hready ⟨hD, S1, G1, hI1, hR1, rfl⟩
  have hi : i < us.length := by rw [hnn]; exact (Array.getElem?_eq_some_iff.1 ho).1
  obtain ⟨u, g, k1, k2, k3⟩ := hat i o (by rw [Array.getElem?_toList]; exact ho)
  have hfi := List.getElem?_eq_getElem (show i < fre.length by omega)
  have hancD : ∀ x ∈ ycF anc i, D x = true := by
   intro x hx
   obtain ⟨_, o', ed, ho', he, hb, hor⟩ := hancs i x hi hx
   rw [ho] at ho'; cases ho'
   have := hready ed he hb
   rcases hor with h | h
   ·rw [<- h]; exact this
   ·exact hD _ this x h
  obtain ⟨hgn, hst⟩ := hIs i ⟨o.dst, g, u⟩ fre[i] ((hz i _ _).2 ⟨k1, hfi⟩)
  have hgn : g = none := hgn
  subst hgn
  have hog : o.guard = none := by
   cases hog : o.guard with
   | none => rfl
   | some jb =>
     rw [hog] at k3
     obtain ⟨j, b⟩ := jb
     simp only [yc3] at k3
     split at k3
     ·split at k3 <;> cases k3
     ·cases k3
  have hA := hst D S1 hDi (fun j q hj hq => by
   by_cases hna : j ∈ ycF anc i
   ·exact .inl (hancD j hna)
   ·right
    have hp := List.all_eq_true.1 (List.all_eq_true.1 hpairs i (List.mem_range.2 hi)) j (List.mem_range.2 hj)
    obtain ⟨q1, q2⟩ := q
    have hq1 := ((hz j q1 q2).1 hq).1
    rw [k1, hq1] at hp
    simp only [yoR, Bool.or_eq_true, Bool.and_eq_true, List.contains_iff_mem] at hp
    obtain ⟨⟨⟨d1, d2⟩, d3⟩, d4⟩ := hp.resolve_left hna
    refine ⟨fun t ht hm' => ?_, ?_⟩
    ·have ht : q1.dst = some t := ht
     rw [ht] at d2
     simp only [dNr, Bool.not_eq_true', List.contains_eq_mem, decide_eq_false_iff_not] at d2
     exact d2 hm'
    ·rcases d4 with d4 | d4
     ·left
      unfold ycF at d4
      rw [hfi] at d4; exact d4
     ·right
      simpa using d4) hI1
  unfold wpOpIn
  simp only [ho]
  rw [if_pos (by simp [Region.wanted, hog])]
  exact ykd hR1 k2 hA fun av v S' G' hK hR hv => ⟨fun j hj x hx => by
   by_cases hji : j = i
   ·subst hji
    simp [RG.upd, hancD x hx]
   ·have hDj : D j = true := by simpa [RG.upd, hji] using hj
    simp [RG.upd, hD j hDj x hx], _, G', hK, hR.put hv, rfl⟩
 ·rintro D a1 w1 hall ⟨hD, S1, G1, hI1, hR1, rfl⟩
  exact hend S1 a1 G1 (hIe D S1 (fun i hi => hall i (by rw [<- hnn, <- hzl]; exact hi)) hI1) hR1
 ·exact Nat.le_trans (List.length_filter_le _ _) (by simp)
 ·have e0 : (fun j => (Array.replicate ops.size false).getD j false) = fun _ => false := by
   funext j
   by_cases hj : j < ops.size <;> simp [Array.getD, hj]
  rw [e0]
  exact ⟨fun j hj => (by cases hj), S, G0, hI0, h.lift g2 g3 rfl, g1⟩
end
end Go.AV
end
noncomputable section
namespace Go.AV
open Go.RowKit Go.RG Go.Lib
inductive AEx where
 | n
 | x (id : Nat)
 | r
def runA (hs : Nat → Bool) (CA : Cal → List AV → St → (AV → St → Prop) → Prop) : List AO → (St → Prop) → St → Prop
 | [], Q, S => Q S
 | o :: r, Q, S => match o.guard with
   | none => aop hs CA o.op o.dst S fun v S' => runA hs CA r Q (S'.put o.dst v)
   | some (d, b) => match S.fr d with
     | .bl c => if c = b then aop hs CA o.op o.dst S fun v S' => runA hs CA r Q (S'.put o.dst v) else runA hs CA r Q (S.put o.dst (.tup []))
     | .tup [] => runA hs CA r Q (S.put o.dst (.tup []))
     | _ => False
def cln (u : AV) : AV := if u.noL then u else .un
def recB (N : Nat) (fr : Nat -> AV) (ps : Array Tmp) (asg body : Code) : Blk := ⟨0, 0, .rcd ps asg body .ready :: (List.range N).map fun t => cln (fr t)⟩
def St.lay (N : Nat) (S : St) (ps : Array Tmp) (asg body : Code) : St := ⟨S.fr, updK S.M (.h S.nx) (some (recB N S.fr ps asg body)), S.cnt, S.nx + 1⟩
def lsOf : Option Blk → Option LS
 | some ⟨_, 0, .rcd _ _ _ j :: _⟩ => some j
 | _ => none
def yh4 (Q : AEx → St → Prop) (o : Nat) (S : St) : Prop := match lsOf (S.M (.h o)) with
 | some .ready => Q .n (S.kill (.h o))
 | some .ret => Q .r (S.kill (.h o))
 | some (.exit id) => Q (.x id) (S.kill (.h o))
 | _ => False
def inR (oo : Option Nat) (S : St) : Prop := match oo with
 | none => True
 | some o => (lsOf (S.M (.h o))).isSome = true
def wpA (hs : Nat → Bool) (oo : Option Nat) (CA : Program) : ybC → (AEx → St → Prop) → St → Prop
 | .skip, Q, S => Q .n S
 | .ops l, Q, S => runA hs (ybo CA) l (Q .n) S
 | .drw l, Q, S => runD hs CA l [] (Q .n) S ∨ anyD hs CA l (Q .n) S
 | .seq a b, Q, S => wpA hs oo CA a (fun e S' => match e with
   | .n => wpA hs oo CA b Q S'
   | e => Q e S') S
 | .cond c t e, Q, S => match ev S.fr c with
   | .bl b => (b = true -> wpA hs oo CA t Q S) /\ (b = false -> wpA hs oo CA e Q S)
   | _ => False
 | .block id c, Q, S => wpA hs oo CA c (fun e S' => match e with
   | .x i => if i = id then Q .n S' else Q (.x i) S'
   | e => Q e S') S
 | .loop c, Q, S => ∃ I : Nat → St → Prop, (∃ n, I n S) ∧ ∀ n S', I n S' → wpA hs oo CA c (fun e S'' => match e with
   | .n => ∃ m, m < n /\ I m S''
   | e => Q e S'') S'
 | .exit id, Q, S => Q (.x id) S
 | .ret, Q, S => Q .r S
 | .rng N g ps asg body, Q, S => match ev S.fr g with
   | .fn (.func f) first cap => inR oo S /\ ye6 CA (.e f) (first ++ [.yld S.nx] ++ cap) (S.lay N ps asg body) fun _ S' => yh4 Q S.nx S'
   | _ => False
section
variable {P : Program} {B : Base} [GB P B] {N : Nat} {hs : Nat -> Bool} {oo ro : Option Nat}
def exQ (Q : AEx → St → Prop) : Exit → St → Prop
 | .normal, S => Q .n S
 | .exit id, S => Q (.x id) S
 | .ret, S => Q .r S
 | _, _ => False
def ylN (B : Base) (N : Nat) (Q : AEx -> St -> Prop) : Exit -> Act -> World -> Prop := fun e a w => ∃ S G, Rel B N S a G /\ G.w = w /\ exQ Q e S
theorem yru {ops : Array Oper} (Q : AEx → St → Prop) : ∀ (suf pre : List Oper) (l : List AO) (S : St) (a : Act) (G : Gh), ops.toList = pre ++ suf → yeU P N ops suf = some l → runA hs (ybo P) l (Q .n) S → Rel B N S a G →
  wpOpsIn (FR ro) 0 P ops (ylN B N Q) (List.range' pre.length suf.length) a G.w := by
 intro suf
 induction suf with
 | nil =>
   intro pre l S a G he ht hr h
   simp only [yeU, Option.some.injEq] at ht; subst ht
   exact ⟨S, G, h, rfl, hr⟩
 | cons o suf ih =>
   intro pre l S a G he ht hr h
   have hat : ops[pre.length]? = some o := by
    rw [<- Array.getElem?_toList, he]; simp
   simp only [yeU] at ht
   split at ht <;> first | (cases ht; done) | skip
   rename_i u g us h1 h2 h3 h4
   cases ht
   rw [List.length_cons, List.range'_succ]
   simp only [wpOpsIn, hat]
   have hrest : ∀ (S' : St) (a' : Act) (G' : Gh), runA hs (ybo P) us (Q .n) S' → Rel B N S' a' G' → wpOpsIn (FR ro) 0 P ops (ylN B N Q) (List.range' (pre.length + 1) suf.length) a' G'.w := by
    intro S' a' G' hr' h'
    have := ih (pre ++ [o]) us S' a' G' (by rw [he]; simp) h4 hr' h'
    simpa using this
   have hrun : ∀ S0 : St, aop hs (ybo P) u o.dst S0 (fun v S' => runA hs (ybo P) us (Q .n) (S'.put o.dst v)) → Rel B N S0 a G → o.wpIn (FR ro) 0 P a G.w (wpOpsIn (FR ro) 0 P ops (ylN B N Q) (List.range' (pre.length + 1) suf.length)) (ylN B N Q) := by
    intro S0 hA h0
    exact ykd h0 h1 hA fun av v S' G' hK hR hv => hrest _ _ G' hK (hR.put hv)
   have hskip : runA hs (ybo P) us (Q .n) (S.put o.dst (.tup [])) → wpOpsIn (FR ro) 0 P ops (ylN B N Q) (List.range' (pre.length + 1) suf.length) (a.put o.dst undef) G.w := by
    intro hq
    exact hrest _ _ G hq (h.put (.tup [] #[] rfl (fun j u x hu => by simp at hu)))
   simp only [runA] at hr
   cases hg : o.guard with
   | none =>
     rw [hg] at h2
     simp only [yc3, Option.some.injEq] at h2; subst h2
     rw [if_pos (by simp [Region.wanted, hg])]
     exact hrun S hr h
   | some jb =>
     obtain ⟨j, want⟩ := jb
     rw [hg] at h2
     simp only [yc3] at h2
     split at h2 <;> first | (cases h2; done) | skip
     rename_i d hd
     split at h2 <;> first | (cases h2; done) | skip
     rename_i hdN
     cases h2
     simp only at hr
     have hdt : d < a.tmps.size := by rw [h.tsize]; exact hdN
     have hslot := h.slot d a.tmps[d] (Array.getElem?_eq_getElem hdt)
     split at hr
     ·rename_i c e1
      rw [e1] at hslot
      have hb : a.tmps[d]? = some (.bool c) := by rw [Array.getElem?_eq_getElem hdt, hslot.bl_inv]
      have hw : Region.wanted o (yielded ops a.tmps) = (c == want) := by simp [Region.wanted, hg, yielded, hd, hb]
      split at hr
      ·rename_i hc
       rw [if_pos (by rw [hw, hc]; simp)]
       exact hrun S hr h
      ·rename_i hc
       rw [if_neg (by rw [hw]; simpa using hc)]
       exact ⟨fun _ _ => trivial, hskip hr⟩
     ·rename_i e1
      rw [e1] at hslot
      obtain ⟨vs, q0, q1, _⟩ := hslot.tup_inv
      have hb : a.tmps[d]? = some (.tuple vs) := by rw [Array.getElem?_eq_getElem hdt, q0]
      have hw : Region.wanted o (yielded ops a.tmps) = false := by simp [Region.wanted, hg, yielded, hd, hb]
      rw [if_neg (by rw [hw]; simp)]
      exact ⟨fun _ _ => trivial, hskip hr⟩
     ·exact hr.elim
theorem yi0 {S : St} {a : Act} {G : Gh} (h : Rel B N S a G) {c : Operand} {u : AOpd} {b : Bool} (hc : yan P N c = some u) (he : ev S.fr u = .bl b) : a.eval c = .bool b := by
 have := ya8 h hc
 rw [he] at this
 exact this.bl_inv
theorem ynz {F : Fence} {nn : Nat} {c : Code} {Q : Exit → Act → World → Prop} {a : Act} {w : World} (I : Nat → Act → World → Prop) {n : Nat} (h₀ : I n a w)
  (round : ∀ n a w, I n a w -> c.wpIn F nn P (Exit.then (fun a' w' => ∃ m, m < n /\ I m a' w') Q) a w) : (Code.loop c).wpIn F nn P Q a w := by
 intro b k cs hro hb hr
 have key : ∀ n a w, I n a w → ∃ e a' w', Q e a' w' ∧ ArrivesIn (Machine.fenced P F) P (lone (b.atR a (.code c :: .inLoop c :: k)) cs w) b k cs e a' w' := by
  intro n
  induction n using Nat.strongRecOn with
  | _ n ih =>
    intro a w hI
    obtain ⟨e, a₁, w₁, hq, harr⟩ := round n a w hI b (.inLoop c :: k) cs hro hb hr
    cases e with
    | normal =>
      obtain ⟨m, hlt, hI₁⟩ := hq
      obtain ⟨e₂, a₂, w₂, hq₂, harr₂⟩ := ih m hlt a₁ w₁ hI₁
      exact ⟨e₂, a₂, w₂, hq₂, .of_steps (StepsIn.trans harr (.one (fenced_calm hb hr rfl) stepR_inLoop)) harr₂⟩
    | exit id => exact ⟨_, a₁, w₁, hq, .pass (x := .inLoop c) rfl (fun _ _ => .inl (by simp)) harr⟩
    | goto l => exact ⟨_, a₁, w₁, hq, .pass (x := .inLoop c) rfl (fun _ _ => .inl (by simp)) harr⟩
    | ret => exact ⟨_, a₁, w₁, hq, .pass (x := .inLoop c) rfl (fun _ _ => .inl (by simp)) harr⟩
    | panic ch => exact ⟨_, a₁, w₁, hq, .pass (x := .inLoop c) rfl (fun _ _ => .inl (by simp)) harr⟩
    | outgrown => exact ⟨_, a₁, w₁, hq, .pass (x := .inLoop c) rfl (fun _ _ => .inl (by simp)) harr⟩
 obtain ⟨e, a', w', hq, harr⟩ := key n a w h₀
 exact ⟨e, a', w', hq, .of_steps (.one (fenced_calm hb hr rfl) stepR_loop) harr⟩
theorem MRel.grownI {S : St} {G : Gh} (h : MRel B S G) {w1 : World} (hg : G.w.grownBy w1 none) : ∃ G', G'.w = w1 ∧ MRel B S G' ∧ LE G G' ∧ G'.I = G.I := by
 let G' : Gh := ⟨G.κ, G.dead, G.I, w1⟩
 have hsame : ∀ q, q < G.w.heap.size -> w1.heap[q]? = G.w.heap[q]? := fun q hq => hg.block q hq (by simp)
 have hle : LE G G' := ⟨fun _ _ hr => .inl hr, fun _ hd => hd, fun _ hb => hb, fun q hq => hsame q (h.lt q hq), fun q ds hq => ⟨hsame q (Array.getElem?_eq_some_iff.1 hq).1, fun h => h⟩⟩
 refine ⟨G', rfl, ⟨fun k => (h.blk k).le hle fun q hq => hsame q.1 (h.apart k q hq).2, h.inj, h.dead, h.live, fun k r hr => ⟨(h.apart k r hr).1, Nat.lt_of_lt_of_le (h.apart k r hr).2 hg.size⟩, fun b hb => Nat.lt_of_lt_of_le (h.lt b hb) hg.size, h.loc, h.keep, h.heap, h.nx, h.gone, h.I0, h.I1,
  hg.os.trans h.os, hg.tape.trans h.tape, hg.output.trans h.output, Nat.le_trans h.size hg.size, fun b hb hq => (hsame b (Nat.lt_of_lt_of_le hb h.size)).trans (h.same b hb hq), h.hno⟩, hle, rfl⟩
theorem yrj (u : AV) : (cln u).noL = true := by
 unfold cln
 split
 ·rename_i h; exact h
 ·rfl
theorem ysP {G : Gh} {u : AV} {x : Value} (h : VR G u x) : VR G (cln u) x := by
 unfold cln
 split
 ·exact h
 ·exact .un x
theorem ypd (fr : Nat → AV) (l : List Nat) : noLs (l.map fun t => cln (fr t)) = true := by
 induction l with
 | nil => rfl
 | cons t l ih => simp only [List.map_cons, noLs, yrj, ih, Bool.and_self]
theorem Rel.lay {S : St} {a : Act} {G : Gh} (h : Rel B N S a G) {ps : Array Tmp} {asg body : Code} {fn : FuncId} {dd : Nat} : ∃ G', G'.w = G.w.alloc (.loop { state := .ready, pending := none, fn, tmps := a.tmps, params := ps, assign := asg, body, defers := dd }) ∧ G'.κ (.h S.nx) = some (G.w.heap.size, 0) ∧ Rel B N (S.lay N ps asg body) a G' ∧ LE G G' := by
 have hnew : ∀ o, (G.w.alloc o).heap[G.w.heap.size]? = some o := World.alloc_heap_new G.w
 have hold : ∀ o q, q < G.w.heap.size → (G.w.alloc o).heap[q]? = G.w.heap[q]? := fun o q hq => by
  show (G.w.heap.push o)[q]? = _
  rw [Array.getElem?_push, if_neg (by omega)]
 obtain ⟨G', e1, e2, e3, e4⟩ := h.toMRel.addG (fun _ => False) (fun _ f => f.elim) (S' := S.lay N ps asg body) (k0 := .h S.nx) (b := recB N S.fr ps asg body) (g := G.w.heap.size) (cap := 0)
  (w1 := G.w.alloc (.loop { state := .ready, pending := none, fn, tmps := a.tmps, params := ps, assign := asg, body, defers := dd }))
  (by simp only [recB, hOk, noLs, ypd]; rfl) (fun hk => Nat.lt_irrefl _ hk) rfl (fun k => by
    cases k with
    | l d c => exact ⟨fun hk => .inl hk, fun hk => hk.elim id fun e => by cases e⟩
    | h o =>
      show o < S.nx + 1 ↔ o < S.nx ∨ Key.h o = Key.h S.nx
      rw [Key.h.injEq]; omega) (Nat.le_succ _) (fun hI => absurd (h.lt _ hI) (Nat.lt_irrefl _)) (fun k r hr e => absurd (h.apart k r hr).2 (by omega)) (.inl h.size) rfl rfl rfl (by rw [World.size_alloc]; omega) (fun q hq _ _ => hold _ q hq)
  (by rw [World.size_alloc]; omega) (fun q hq ds => by rcases hq with rfl | hq; simp; exact hq.elim) (fun G' hle hw => by
    refine (yak.loop rfl).2 ⟨_, .ready, _, rfl, by rw [hw]; exact hnew _, ⟨rfl, rfl⟩, ?_, ?_⟩
    ·simp [h.tsize]
    ·intro t u x hu hx
     have hx' : a.tmps[t]? = some x := hx
     rw [List.getElem?_map, List.getElem?_range (by rw [<- h.tsize]; exact (Array.getElem?_eq_some_iff.1 hx').1)] at hu
     simp only [Option.map_some, Option.some.injEq] at hu
     subst hu
     exact ysP ((h.slot t x hx').le hle))
 exact ⟨G', e1, e2, h.lift e3 e4 rfl, e4⟩
theorem yms {o : Option Blk} {j : LS} (h : lsOf o = some j) : ∃ e ps asg body fr, o = some ⟨e, 0, .rcd ps asg body j :: fr⟩ := by
 unfold lsOf at h
 split at h
 ·cases h; exact ⟨_, _, _, _, _, rfl⟩
 ·cases h
theorem MRel.recAt {S : St} {G : Gh} (h : MRel B S G) {o : Nat} {j : LS} (hj : lsOf (S.M (.h o)) = some j) : ∃ l cap r, G.κ (.h o) = some (l, cap) ∧ G.w.heap[l]? = some (.loop r) ∧ lsOk j r.state r.pending := by
 obtain ⟨e, ps, asg, body, fr, hb⟩ := yms hj
 obtain ⟨r, hr, hk⟩ := h.κsome hb
 obtain ⟨q, j', fr', h1, h2, h3, _⟩ := (yak.loop rfl).1 hk
 have : j = j' := by
  have := h1
  simp only [List.cons.injEq, AV.rcd.injEq] at this
  exact this.1.2.2.2
 subst this
 exact ⟨r.1, r.2, q, hr, h2, h3⟩
theorem DfOk.put {G G' : Gh} {ds : List Deferred} (h : DfOk B G ds) {l : Nat} {q : Loop} (hl : G.w.heap[l]? = some (.loop q)) (hI : G'.I = G.I) (hs : ∀ r, r ≠ l → G'.w.heap[r]? = G.w.heap[r]?) : DfOk B G' ds := by
 obtain ⟨rs, h1, h2, h3⟩ := h
 refine ⟨rs, h1, h2, fun r hr => ?_⟩
 obtain ⟨a, b, c⟩ := h3 r hr
 refine ⟨(hs r (fun e => ?_)).trans a, by rw [hI]; exact b, c⟩
 rw [e, hl] at a; cases a
theorem Rel.shut {S : St} {a : Act} {G : Gh} (h : Rel B N S a G) {o l cap : Nat} {q : Loop} {ob : Obj} (hk : G.κ (.h o) = some (l, cap)) (hl : G.w.heap[l]? = some (.loop q)) (hB : B.w.heap.size ≤ l) : ∃ G', G'.w = G.w.putObj l ob ∧ Rel B N (S.kill (.h o)) a G' := by
 obtain ⟨G1, a1, _, a3, a4, a5⟩ := h.toMRel.kill false (S' := S.kill (.h o)) hk rfl
 obtain ⟨a3, a3'⟩ := a3 rfl
 obtain ⟨G2, b1, b2, b3, b4⟩ := a4.take (r := l) (o := ob) (fun k r hr => a3' k r hr) (by rw [a3]; exact (h.toMRel.apart _ _ hk).1) hB
 refine ⟨G2, by rw [b1, a1], { b3 with defers := ?_, tsize := h.tsize, slot := fun t v hv => ((h.slot t v hv).le a5).le0 b4 }⟩
 refine (h.defers.le a5).put (l := l) (q := q) (by rw [a1]; exact hl) b2 (fun r hr => ?_)
 rw [b1]; exact World.putObj_heap_other hr
theorem ysA {S : St} {a : Act} {G : Gh} {Q : AEx → St → Prop} (h : Rel B N S a G) {g : Operand} {ug : AOpd} {ps : Array Tmp} {asg body : Code} (hg : yan P N g = some ug) (hA : wpA hs oo P (.rng N ug ps asg body) Q S)
  (hoo : ∀ o, oo = some o -> ∃ l cap, ro = some l /\ B.κ (.h o) = some (l, cap)) (hno : oo = none -> ro = none) : (Code.rangeFunc g ps asg body).wpIn (FR ro) 0 P (ylN B N Q) a G.w := by
 simp only [wpA] at hA
 split at hA
 case h_2 => exact hA.elim
 rename_i f first cap e
 obtain ⟨hin, hn, ⟨hent, hcc⟩⟩ := hA
 have hCf : ye6 P (.f f) (first ++ [.yld S.nx] ++ cap) (S.lay N ps asg body) (fun _ S' => yh4 Q S.nx S') := ⟨hn, hcc⟩
 refine wpIn_rangeFunc fun fn _ => ?_
 obtain ⟨mark, G0, dd, r1, r2, r3, r4⟩ : ∃ mark G0 dd, (Instr.enterLoop fn a.tmps ps asg body (FR ro).round).run P G.w = .ok (G0.w.heap.size, mark) (G0.w.alloc (.loop { state := .ready, pending := none, fn, tmps := a.tmps, params := ps, assign := asg, body, defers := dd })) ∧ Rel B N S { a with defers := mark ++ a.defers } G0 ∧ LE G G0 ∧ G.w.heap.size ≤ G0.w.heap.size := by
  cases hro : ro with
  | none =>
    have hrun := run_enterLoop_outer (P := P) (w := G.w) fn a.tmps ps asg body
    obtain ⟨G0, a1, a2, a3, a4⟩ := h.toMRel.grownI (w1 := G.w.alloc (.deferred (some []))) (World.grownBy_alloc G.w _ none)
    refine ⟨[{ target := .collected G.w.heap.size, args := #[] }], G0, G.w.heap.size, ?_, ?_, a3, by rw [a1, World.size_alloc]; omega⟩
    ·rw [a1, World.size_alloc]; exact hrun
    ·have hl := h.lift a2 a3 rfl
     refine { hl.toMRel with defers := ?_, tsize := hl.tsize, slot := hl.slot }
     obtain ⟨rs, d1, d2, d3⟩ := hl.defers
     refine ⟨G.w.heap.size :: rs, by rw [List.map_cons, <- d1]; rfl, ?_, ?_⟩
     ·refine List.nodup_cons.2 ⟨fun hm => ?_, d2⟩
      obtain ⟨rs', c1, c2, c3⟩ := h.defers
      have : rs = rs' := by
       have := d1.symm.trans c1
       have hinj : ∀ (l l' : List Nat), l.map (fun r => ({ target := .collected r, args := #[] } : Deferred)) = l'.map (fun r => { target := .collected r, args := #[] }) → l = l' := by
        intro l
        induction l with
        | nil => intro l' hh; cases l' with
          | nil => rfl
          | cons _ _ => cases hh
        | cons x l ih => intro l' hh; cases l' with
          | nil => cases hh
          | cons y l' =>
            simp only [List.map_cons, List.cons.injEq, Deferred.mk.injEq, Target.collected.injEq, and_true] at hh
            rw [hh.1, ih l' hh.2]
       exact hinj _ _ this
      subst this
      have := (Array.getElem?_eq_some_iff.1 (c3 _ hm).1).1
      omega
     ·intro r hr
      rcases List.mem_cons.1 hr with rfl | hr
      ·refine ⟨by rw [a1]; exact World.alloc_heap_new G.w _, fun hI => ?_, h.size⟩
       have hIG : G.I G.w.heap.size := by rw [a4] at hI; exact hI
       exact absurd (h.lt _ hIG) (Nat.lt_irrefl _)
      ·exact d3 r hr
  | some l0 =>
    cases hoo' : oo with
    | none => rw [hno hoo'] at hro; cases hro
    | some o0 =>
      rw [hoo'] at hin
      obtain ⟨j, hj⟩ := Option.isSome_iff_exists.1 hin
      obtain ⟨l, cap', q, k1, k2, k3⟩ := h.toMRel.recAt hj
      obtain ⟨l', cap2, e1, e2⟩ := hoo o0 hoo'
      have hl0 : l0 = l' := by rw [hro] at e1; exact Option.some.inj e1
      subst hl0
      have hll : l = l0 := by
       rcases h.toMRel.keep _ _ e2 with hq | hq
       ·rw [hq] at k1; cases k1; rfl
       ·have := ((h.toMRel.dead _).1 hq).1
        rw [this] at hj; cases hj
      subst hll
      refine ⟨[], G, q.defers, ?_, h, LE.refl G, Nat.le_refl _⟩
      show (Instr.enterLoop fn a.tmps ps asg body (some l)).run P G.w = _
      unfold Instr.enterLoop
      simp only [Sem.run_bind, run_getLoop k2, run_newObj_alloc, Result.andThen, Sem.run_pure]
 obtain ⟨G1, s1, s2, s3, s4⟩ := r2.lay (ps := ps) (asg := asg) (body := body) (fn := fn) (dd := dd)
 have rx := (ya8 h hg)
 rw [e] at rx
 obtain ⟨vp, vc, q0, q1, q2, q3, q4⟩ := (rx.le (r3.trans s4)).fn_inv
 have hv : VRs G1 (first ++ [.yld S.nx] ++ cap) (vp ++ #[Value.func (.yield G0.w.heap.size) #[] #[]] ++ vc).toList := by
  have r1 : VRs G1 first vp.toList := ⟨by simpa using q1, fun j u x a b => q3 j u x a (by simpa using b)⟩
  have r2 : VRs G1 cap vc.toList := ⟨by simpa using q2, fun j u x a b => q4 j u x a (by simpa using b)⟩
  have r0 : VRs G1 [.yld S.nx] [Value.func (.yield G0.w.heap.size) #[] #[]] := VRs.cons (.yld _ _ _ s2) ⟨rfl, fun j u x hu => by simp at hu⟩
  simpa using (r1.append r0).append r2
 have hcall := ymB s3 hv (.inl hCf)
 unfold yeT at hcall
 rw [hent] at hcall
 simp only at hcall
 rw [s1] at hcall
 refine ⟨G0.w.heap.size, mark, _, { target := .fn (.func f) vc, args := vp ++ #[.func (.yield G0.w.heap.size) #[] #[]] }, _, f, _, _, r1, ?_, fun _ _ => trivial, hent _ _, fun h => (by cases h), yiY (Calls.mono hcall ?_)⟩
 ·simp only [resolve, rangeCall]
  rw [q0]
  simp [Act.eval, Deferred.ofValue]
 ·rintro e w' ⟨v, av, S2, G2, rfl, hK, hR2, rfl, hvr, hle⟩
  have hls : ∃ j, lsOf (S2.M (.h S.nx)) = some j := by
   unfold yh4 at hK
   split at hK <;> first | exact ⟨_, ‹_›⟩ | exact hK.elim
  obtain ⟨j, hj⟩ := hls
  obtain ⟨l, cap', q, k1, k2, k3⟩ := hR2.toMRel.recAt hj
  have hll : l = G0.w.heap.size := by
   rcases hle.κ _ _ s2 with hq | hq
   ·rw [hq] at k1; cases k1; rfl
   ·have := ((hR2.toMRel.dead _).1 hq).1
    rw [this] at hj; cases hj
  subst hll
  unfold yh4 at hK
  rw [hj] at hK
  have hB : B.w.heap.size <= G0.w.heap.size := Nat.le_trans h.size r4
  have fin : ∀ ob, ∃ G', G'.w = G2.w.putObj G0.w.heap.size ob /\ Rel B N (S2.kill (.h S.nx)) { a with defers := mark ++ a.defers } G' := fun ob => hR2.shut k1 k2 hB
  cases j with
  | busy => exact hK.elim
  | ready =>
    obtain ⟨G', e1, e2⟩ := fin (.loop { q with state := .exhausted })
    refine ⟨none, _, by rw [run_endLoop k2 (by rw [k3.1]; simp)]; exact congrArg (fun p => Result.ok p _) k3.2, ?_⟩
    exact ⟨_, G', e2, e1, hK⟩
  | ret =>
    obtain ⟨G', e1, e2⟩ := fin (.loop { q with state := .exhausted })
    refine ⟨some .ret, _, by rw [run_endLoop k2 (by rw [k3.1]; simp)]; exact congrArg (fun p => Result.ok p _) k3.2, ?_⟩
    exact wpIn_ret ⟨_, G', e2, e1, hK⟩
  | exit id =>
    obtain ⟨G', e1, e2⟩ := fin (.loop { q with state := .exhausted })
    refine ⟨some (.exit id), _, by rw [run_endLoop k2 (by rw [k3.1]; simp)]; exact congrArg (fun p => Result.ok p _) k3.2, ?_⟩
    exact wpIn_exit ⟨_, G', e2, e1, hK⟩
theorem yo0 (hoo : ∀ o, oo = some o → ∃ l cap, ro = some l ∧ B.κ (.h o) = some (l, cap)) (hno : oo = none → ro = none) : ∀ (c : Code) (ac : ybC) (Q : AEx → St → Prop) (S : St) (a : Act) (G : Gh), trC P N c = some ac → wpA hs oo P ac Q S → Rel B N S a G → c.wpIn (FR ro) 0 P (ylN B N Q) a G.w := by
 intro c
 induction c with
 | skip =>
   intro ac Q S a G ht hA h
   simp only [trC, Option.some.injEq] at ht; subst ht
   exact wpIn_skip ⟨S, G, h, rfl, hA⟩
 | region id ops draw =>
   intro ac Q S a G ht hA h
   cases draw with
   | false =>
     simp only [trC] at ht
     obtain ⟨l, hl, rfl⟩ := Option.map_eq_some_iff.1 ht
     refine wpIn_region ?_
     have := yru (hs := hs) (ro := ro) Q ops.toList [] l S a G rfl hl hA h
     rw [List.range_eq_range']
     simpa using this
   | true =>
     simp only [trC] at ht
     obtain ⟨l, hl, rfl⟩ := Option.map_eq_some_iff.1 ht
     exact hA.elim (fun hA => yoB hl hA h fun S a G hQ hR => ⟨S, G, hR, rfl, hQ⟩) fun hA => yqW hl hA h fun S a G hQ hR => ⟨S, G, hR, rfl, hQ⟩
 | seq x y ihx ihy =>
   intro ac Q S a G ht hA h
   simp only [trC] at ht
   split at ht <;> first | (cases ht; done) | skip
   rename_i ax ay h1 h2
   cases ht
   refine wpIn_seq (wpIn_mono (ihx ax _ S a G h1 hA h) ?_)
   rintro e a' w' ⟨S', G', hR, rfl, hq⟩
   cases e with
   | normal => exact ihy ay Q S' a' G' h2 hq hR
   | exit id => exact ⟨S', G', hR, rfl, hq⟩
   | ret => exact ⟨S', G', hR, rfl, hq⟩
   | goto l => exact hq.elim
   | panic ch => exact hq.elim
   | outgrown => exact hq.elim
 | cond c x y ihx ihy =>
   intro ac Q S a G ht hA h
   simp only [trC] at ht
   split at ht <;> first | (cases ht; done) | skip
   rename_i uc ax ay h0 h1 h2
   cases ht
   simp only [wpA] at hA
   split at hA
   ·rename_i b e
    refine wpIn_cond_split (yi0 h h0 e) (fun hb => ihx ax Q S a G h1 (hA.1 hb) h) (fun hb => ihy ay Q S a G h2 (hA.2 hb) h)
   ·exact hA.elim
 | block id c ih =>
   intro ac Q S a G ht hA h
   simp only [trC] at ht
   obtain ⟨ax, h1, rfl⟩ := Option.map_eq_some_iff.1 ht
   refine wpIn_block (wpIn_mono (ih ax _ S a G h1 hA h) ?_)
   rintro e a' w' ⟨S', G', hR, rfl, hq⟩
   cases e with
   | normal => exact ⟨S', G', hR, rfl, hq⟩
   | exit id' =>
     simp only [exQ] at hq
     show if id' = id then _ else _
     split
     ·rename_i e; rw [if_pos e] at hq; exact ⟨S', G', hR, rfl, hq⟩
     ·rename_i e; rw [if_neg e] at hq; exact ⟨S', G', hR, rfl, hq⟩
   | ret => exact ⟨S', G', hR, rfl, hq⟩
   | goto l => exact hq.elim
   | panic ch => exact hq.elim
   | outgrown => exact hq.elim
 | loop c ih =>
   intro ac Q S a G ht hA h
   simp only [trC] at ht
   obtain ⟨ax, h1, rfl⟩ := Option.map_eq_some_iff.1 ht
   obtain ⟨I, ⟨n0, hI0⟩, hround⟩ := hA
   refine ynz (fun n a w => ∃ S G, I n S /\ Rel B N S a G /\ G.w = w) (n := n0) ⟨S, G, hI0, h, rfl⟩ ?_
   rintro n a1 w1 ⟨S1, G1, g1, g2, rfl⟩
   refine wpIn_mono (ih ax _ S1 a1 G1 h1 (hround _ S1 g1) g2) ?_
   rintro e a' w' ⟨S', G', hR, rfl, hq⟩
   cases e with
   | normal =>
     obtain ⟨m, hm, hIm⟩ := hq
     exact ⟨m, hm, S', G', hIm, hR, rfl⟩
   | exit id' => exact ⟨S', G', hR, rfl, hq⟩
   | ret => exact ⟨S', G', hR, rfl, hq⟩
   | goto l => exact hq.elim
   | panic ch => exact hq.elim
   | outgrown => exact hq.elim
 | exit id =>
   intro ac Q S a G ht hA h
   simp only [trC, Option.some.injEq] at ht; subst ht
   exact wpIn_exit ⟨S, G, h, rfl, hA⟩
 | ret =>
   intro ac Q S a G ht hA h
   simp only [trC, Option.some.injEq] at ht; subst ht
   exact wpIn_ret ⟨S, G, h, rfl, hA⟩
 | rangeFunc f ps x y =>
   intro ac Q S a G ht hA h
   simp only [trC] at ht
   split at ht
   ·obtain ⟨ug, hg, rfl⟩ := Option.map_eq_some_iff.1 ht
    exact ysA h hg hA hoo hno
   ·cases ht
 | scope c ih => intro ac Q S a G ht; cases ht
 | label l => intro ac Q S a G ht; cases ht
 | goto l => intro ac Q S a G ht; cases ht
 | refuse s => intro ac Q S a G ht; cases ht
def res1 (S : St) : Nat × Option Nat → Option AV
 | (t, none) => some (S.fr t)
 | (t, some 0) => (tgt S (S.fr t)).bind fun p => p.1[p.2]?
 | (t, some (sz + 1)) => (tgt S (S.fr t)).bind fun p => if p.2 + (sz + 1) <= p.1.length then some (.agg ((p.1.drop p.2).take (sz + 1))) else none
def resL (S : St) : List (Nat × Option Nat) → Option (List AV)
 | [] => some []
 | p :: r => match res1 S p, resL S r with
   | some u, some us => some (u :: us)
   | _, _ => none
def resA (S : St) (l : List (Nat × Option Nat)) : Option AV := (resL S l).map fun us => match us with
 | [u] => u
 | us => .tup us
def argF (args : List AV) (t : Nat) : AV := (args[t]?).getD (.tup [])
def yeY (H : Hp) (k : Key) : Option Blk := match k with | .h o => H o | .l _ _ => none
def yja (args : List AV) (H : Hp) (n : Nat) : St := ⟨argF args, yeY H, fun _ => 0, n⟩
def retQ (l : List (Nat × Option Nat)) (Post : AV → Hp → Nat → Prop) : AEx → St → Prop
 | .x _, _ => False
 | _, S => wpv (resA S l) fun v => (pubR v S).1.noL = true /\ Post (pubR v S).1 (pubR v S).2.hp (pubR v S).2.nx
theorem MRel.forget {S : St} {G : Gh} (h : MRel B S G) (hB : ∀ d c, B.κ (.l d c) = none) : ∃ G', G'.w = G.w ∧ MRel B (hSt S.hp S.nx) G' ∧ (∀ o r, G.κ (.h o) = some r → G'.κ (.h o) = some r) ∧ (∀ o, G.dead (.h o) → G'.dead (.h o)) ∧ (∀ b, G.I b → G'.I b) := by
 obtain ⟨Gc, b1, b2, b3, b4, b5, b6⟩ := ylI h
 have hk : ∀ k r, Gc.κ k = some r → ∃ o, k = .h o ∧ G.κ (.h o) = some r := by
  intro k r hr
  cases k with
  | l d c => rw [b4] at hr; cases hr
  | h o => rw [b3] at hr; exact ⟨o, rfl, hr⟩
 refine ⟨Gc, b1, ⟨b6.blk, b6.inj, b6.dead, b6.live, b6.apart, b6.lt, ?_, ?_, ?_, h.nx, ?_, fun b hb => by rw [b2]; exact h.I0 b hb, fun b hb => by rw [b2] at hb; exact h.I1 b hb, by rw [b1]; exact h.os, by rw [b1]; exact h.tape, by rw [b1]; exact h.output, by rw [b1]; exact h.size, fun b p q => by rw [b1]; exact h.same b p q, b6.hno⟩, fun o r hr => by rw [b3]; exact hr, b5, fun b hb => by rw [b2]; exact hb⟩
 ·intro d c r hr; rw [b4] at hr; cases hr
 ·intro k r hr
  cases k with
  | l d c => rw [hB] at hr; cases hr
  | h o =>
    rcases h.keep (.h o) r hr with hq | hq
    ·left; rw [b3]; exact hq
    ·exact .inr (b5 o hq)
 ·intro o r hr
  rw [b3] at hr; exact h.heap o r hr
 ·intro o ho hb
  rw [b3]; exact h.gone o ho hb
theorem ypf {S : St} {a : Act} {G : Gh} (h : Rel B N S a G) : ∀ (rs : List ResultVar) (l : List (Nat × Option Nat)) (us : List AV), ykJ P N rs = some l → resL S l = some us →
  ∃ vs : List Value, (rs.mapM (fun r => match r with | .tmp t => pure (a.tmps.getD t undef) | .cell p t => do loadVar t (<- asAddr (a.tmps.getD p undef))) : Sem (List Value)).run P G.w = .ok vs G.w /\ VRs G us vs := by
 intro rs
 induction rs with
 | nil =>
   intro l us ht hr
   simp only [ykJ, Option.some.injEq] at ht; subst ht
   simp only [resL, Option.some.injEq] at hr; subst hr
   exact ⟨[], by simp, rfl, fun j u x hu => by simp at hu⟩
 | cons r rs ih =>
   intro l us ht hr
   cases r with
   | tmp t =>
     simp only [ykJ] at ht
     split at ht <;> first | (cases ht; done) | skip
     rename_i htN
     obtain ⟨l', hl', rfl⟩ := Option.map_eq_some_iff.1 ht
     simp only [resL, res1] at hr
     split at hr <;> first | (cases hr; done) | skip
     rename_i u us' e1 e2
     cases e1; cases hr
     obtain ⟨vs, g1, g2⟩ := ih l' us' hl' e2
     have htt : t < a.tmps.size := by rw [h.tsize]; exact htN
     have hv := h.slot t a.tmps[t] (Array.getElem?_eq_getElem htt)
     have hgd : a.tmps.getD t undef = a.tmps[t] := by simp [Array.getD, htt]
     refine ⟨a.tmps[t] :: vs, ?_, VRs.cons hv g2⟩
     simp only [List.mapM_cons, Sem.run_bind, Sem.run_pure, Result.andThen_ok, g1, hgd]
   | cell t ty =>
     simp only [ykJ] at ht
     split at ht <;> first | (cases ht; done) | skip
     ·rename_i sz l' h1 h2
      split at ht <;> first | (cases ht; done) | skip
      rename_i htN
      cases ht
      simp only [resL, res1] at hr
      split at hr <;> first | (cases hr; done) | skip
      rename_i u us' e1 e2
      cases hr
      obtain ⟨⟨cs, off⟩, t1, t2⟩ := Option.bind_eq_some_iff.1 e1
      obtain ⟨vs, g1, g2⟩ := ih l' us' h2 e2
      have htt : t < a.tmps.size := by rw [h.tsize]; exact htN
      have hv := h.slot t a.tmps[t] (Array.getElem?_eq_getElem htt)
      have hgd : a.tmps.getD t undef = a.tmps[t] := by simp [Array.getD, htt]
      obtain ⟨b, base, e, hat⟩ := ynD h.toMRel hv t1
      have ha0 : a.eval (.tmp t) = a.tmps[t] := hgd
      obtain ⟨v, hr0, hv0⟩ := m_ld (P := P) h (o := { dst := none, op := .load ty (.tmp t), type := ty, pos := "", after := #[], guard := none }) rfl (x := .tmp t) (ux := .t t) (by simp [yan, htN]) h1 t1 (by simpa using t2)
      have hrun : (loadVar ty ⟨b, base + off, none⟩).run P G.w = .ok v G.w := by
       simp only [execOp, Instr.loadAt, Instr.sureAddr, ha0, e] at hr0
       simp only [Sem.run_bind, Sem.run_pure, Result.andThen_ok] at hr0
       cases hq : (loadVar ty ⟨b, base + off, none⟩).run P G.w with
       | ok x w => rw [hq] at hr0; simp at hr0; rw [hr0.1, hr0.2]
       | halt x w => rw [hq] at hr0; simp [Result.andThen] at hr0
      refine ⟨v :: vs, ?_, VRs.cons hv0 g2⟩
      have has : (asAddr (a.tmps.getD t undef)).run P G.w = .ok ⟨b, base + off, none⟩ G.w := by rw [hgd, e]; rfl
      simp only [List.mapM_cons, Sem.run_bind, Sem.run_pure, Result.andThen_ok, g1, has, hrun]
     ·rename_i l' h1 h2
      split at ht <;> first | (cases ht; done) | skip
      rename_i htN
      cases ht
      simp only [resL, res1] at hr
      split at hr <;> first | (cases hr; done) | skip
      rename_i u us' e1 e2
      cases hr
      obtain ⟨⟨cs, off⟩, t1, t2⟩ := Option.bind_eq_some_iff.1 e1
      obtain ⟨vs, g1, g2⟩ := ih l' us' h2 e2
      have htt : t < a.tmps.size := by rw [h.tsize]; exact htN
      have hv := h.slot t a.tmps[t] (Array.getElem?_eq_getElem htt)
      have hgd : a.tmps.getD t undef = a.tmps[t] := by simp [Array.getD, htt]
      obtain ⟨b, base, e, hat⟩ := ynD h.toMRel hv t1
      have ha0 : a.eval (.tmp t) = a.tmps[t] := hgd
      obtain ⟨v, hr0, hv0⟩ := m_ld (P := P) h (o := { dst := none, op := .load ty (.tmp t), type := ty, pos := "", after := #[], guard := none }) rfl (x := .tmp t) (ux := .t t) (by simp [yan, htN]) h1 t1 (by simpa using t2)
      have hrun : (loadVar ty ⟨b, base + off, none⟩).run P G.w = .ok v G.w := by
       simp only [execOp, Instr.loadAt, Instr.sureAddr, ha0, e] at hr0
       simp only [Sem.run_bind, Sem.run_pure, Result.andThen_ok] at hr0
       cases hq : (loadVar ty ⟨b, base + off, none⟩).run P G.w with
       | ok x w => rw [hq] at hr0; simp at hr0; rw [hr0.1, hr0.2]
       | halt x w => rw [hq] at hr0; simp [Result.andThen] at hr0
      refine ⟨v :: vs, ?_, VRs.cons hv0 g2⟩
      have has : (asAddr (a.tmps.getD t undef)).run P G.w = .ok ⟨b, base + off, none⟩ G.w := by rw [hgd, e]; rfl
      simp only [List.mapM_cons, Sem.run_bind, Sem.run_pure, Result.andThen_ok, g1, has, hrun]
theorem yoA {S : St} {a : Act} {G : Gh} (h : Rel B N S a G) {fn : Func} {l : List (Nat × Option Nat)} {u : AV} (ht : ykJ P N fn.results.toList = some l) (hr : resA S l = some u) : ∃ v, (results fn a.tmps).run P G.w = .ok v G.w ∧ VR G u v := by
 unfold resA at hr
 obtain ⟨us, h1, h2⟩ := Option.map_eq_some_iff.1 hr
 obtain ⟨vs, g1, g2⟩ := ypf h fn.results.toList l us ht h1
 have hrun : ∀ f : ResultVar → Sem Value, (fn.results.toList.mapM f).run P G.w = .ok vs G.w → (fn.results.mapM f).run P G.w = .ok vs.toArray G.w := by
  intro f hf
  rw [Array.mapM_eq_mapM_toList]
  simp [hf]
 have hres : ∀ (f : ResultVar → Sem Value), (fn.results.mapM f).run P G.w = .ok vs.toArray G.w → (do let vs ← fn.results.mapM f; pure (if h : vs.size = 1 then vs[0] else .tuple vs) : Sem Value).run P G.w = .ok (if h : vs.toArray.size = 1 then vs.toArray[0] else .tuple vs.toArray) G.w := by
  intro f hf
  simp only [Sem.run_bind, hf, Result.andThen_ok, Sem.run_pure]
 refine ⟨if h : vs.toArray.size = 1 then vs.toArray[0] else .tuple vs.toArray, ?_, ?_⟩
 ·unfold results
  exact hres _ (hrun _ g1)
 ·split
  ·rename_i h1'
   have hl : vs.length = 1 := by simpa using h1'
   obtain ⟨v0, rfl⟩ := List.length_eq_one_iff.1 hl
   obtain ⟨u0, rfl⟩ := List.length_eq_one_iff.1 (g2.1.symm.trans hl)
   subst h2
   exact g2.head
  ·rename_i h1'
   have hu : u = .tup us := by
    match us, h2 with
    | [], h2 => exact h2.symm
    | [_], h2 => have := g2.1; simp at this; exact absurd (by simpa using this) h1'
    | _ :: _ :: _, h2 => exact h2.symm
   rw [hu]
   exact .tup us vs.toArray (by simpa using g2.1) (fun j u x p q => g2.2 j u x p (by simpa using q))
def yoa (w : World) (rs : List Nat) : World := rs.foldl (fun w r => w.putObj r (.deferred none)) w
theorem Rel.leave {S : St} {a : Act} {G : Gh} (h : Rel B N S a G) : ∃ rs G', a.defers = rs.map (fun r => { target := .collected r, args := #[] }) ∧ rs.Nodup ∧ (∀ r ∈ rs, G.w.heap[r]? = some (.deferred (some []))) ∧ G'.w = yoa G.w rs ∧ Rel B N S { a with defers := [] } G' := by
 obtain ⟨rs, h1, h2, h3⟩ := h.defers
 refine ⟨rs, ?_⟩
 have key : ∀ (rs : List Nat) (G : Gh), rs.Nodup → (∀ r ∈ rs, G.w.heap[r]? = some (.deferred (some [])) ∧ ¬ G.I r ∧ B.w.heap.size ≤ r) → Rel B N S { a with defers := [] } G → ∃ G', G'.w = yoa G.w rs ∧ Rel B N S { a with defers := [] } G' := by
  intro rs
  induction rs with
  | nil => intro G _ _ h; exact ⟨G, rfl, h⟩
  | cons r rs ih =>
    intro G hnd hr h
    obtain ⟨a1, a2, a3⟩ := hr r (by simp)
    obtain ⟨G1, b1, b2, b3, b4⟩ := h.toMRel.take (r := r) (o := .deferred none) (fun k q hk e => h.toMRel.notDfr hk _ (e ▸ a1)) a2 a3
    obtain ⟨hn1, hn2⟩ := List.nodup_cons.1 hnd
    obtain ⟨G2, c1, c2⟩ := ih G1 hn2 (fun q hq => by
     obtain ⟨d1, d2, d3⟩ := hr q (List.mem_cons_of_mem _ hq)
     refine ⟨?_, by rw [b2]; exact d2, d3⟩
     rw [b1, World.putObj_heap_other (fun e => hn1 (by rw [<- e]; exact hq))]; exact d1) { b3 with defers := DfOk.nil _ _, tsize := h.tsize, slot := fun t v hv => (h.slot t v hv).le0 b4 }
    exact ⟨G2, by rw [c1, b1]; rfl, c2⟩
 obtain ⟨G', e1, e2⟩ := key rs G h2 h3 { h.toMRel with defers := DfOk.nil _ _, tsize := h.tsize, slot := h.slot }
 exact ⟨G', h1, h2, fun r hr => (h3 r hr).1, e1, e2⟩
theorem ykW {F : Fence} {nn : Nat} {fn : Func} {tmps : Array Value} {R : Ending → World → Prop} : ∀ (rs : List Nat) (w : World), rs.Nodup → (∀ r ∈ rs, w.heap[r]? = some (.deferred (some []))) → (∃ v, (results fn tmps).run P (yoa w rs) = .ok v (yoa w rs) ∧ R (.returned v) (yoa w rs)) →
  LeavesInM F nn P fn tmps R (rs.map (fun r => { target := .collected r, args := #[] })) .returning w := by
 intro rs
 induction rs with
 | nil => intro w _ _ h; exact h
 | cons r rs ih =>
   intro w hnd hr h
   obtain ⟨hn1, hn2⟩ := List.nodup_cons.1 hnd
   refine ⟨by simp, .inl ⟨r, w.putObj r (.deferred none), rfl, run_takeDeferred (hr r (by simp)), ?_⟩⟩
   refine ih _ hn2 (fun q hq => ?_) h
   rw [World.putObj_heap_other (fun e => hn1 (by rw [<- e]; exact hq))]; exact hr q (List.mem_cons_of_mem _ hq)
theorem yd2 {f : FuncId} {F : AFn} (hF : trF P f = some F) (hs : Nat → Bool) {args : List AV} {H : Hp} {n : Nat} {Post : AV → Hp → Nat → Prop} (hN : args.length ≤ F.N) (hw : wpA hs none P F.body (retQ F.res Post) (yja args H n)) : yao P f args H n Post := by
 intro G vs hg hM hV
 haveI : GB P (yaN G n) := GB.of hg hM
 unfold trF at hF
 split at hF <;> first | (cases hF; done) | skip
 rename_i fn hfn
 split at hF <;> first | (cases hF; done) | skip
 rename_i b hb
 split at hF <;> first | (cases hF; done) | skip
 rename_i r c hr hc
 cases hF
 split at hb
 ·cases hb
 ·rename_i hname
  have hcall : (callFunc f vs).run P G.w = .ok (.enter f vs) G.w := by
   simp only [callFunc, Sem.run_bind, run_program, Result.andThen_ok, hfn]
   rw [if_neg hname]
   simp [hb]
  unfold yeT
  rw [hcall]
  have hvl : vs.size = args.length := by simpa using hV.1
  have hBl : ∀ d c, (yaN G n).κ (.l d c) = none := fun d c => hM.κnone (k := .l d c) rfl
  have hrel : Rel (yaN G n) fn.ntmps (yja args H n) { tmps := vs ++ Array.replicate (fn.ntmps - vs.size) undef, defers := [] } G := by
   refine { (show MRel (yaN G n) (yja args H n) G from hM.fr (yja args H n).fr) with defers := DfOk.nil _ _, tsize := by simp [hvl]; simp only at hN; omega, slot := ?_ }
   intro t v hv
   show VR G (argF args t) v
   unfold argF
   by_cases ht : t < vs.size
   ·rw [Array.getElem?_append_left ht] at hv
    have hta : t < args.length := by omega
    rw [List.getElem?_eq_getElem hta]
    exact hV.2 t _ v (List.getElem?_eq_getElem hta) (by simpa using hv)
   ·rw [Array.getElem?_append_right (by omega)] at hv
    rw [List.getElem?_eq_none (by omega)]
    have hv' : v = undef := by
     rw [Array.getElem?_replicate] at hv
     split at hv
     ·exact (Option.some.inj hv).symm
     ·cases hv
    rw [hv']
    exact .tup [] #[] rfl (fun j u x hu => by simp at hu)
  refine (callsIn_wide (n := 0)).1 (callsIn_of_wp_marks hfn hb trivial ?_)
  refine wpIn_mono (yo0 (oo := none) (ro := none) (fun o ho => by cases ho) (fun _ => rfl) b c (retQ r Post) _ _ G hc hw hrel) ?_
  rintro e a' w' ⟨S', G', hR, rfl, hq⟩
  have fin : retQ r Post .r S' → LeavesInM Fence.wide 0 P fn a'.tmps (fun e w' => ∃ v av H' n' G', e = .returned v ∧ Post av H' n' ∧ MRel (yaN G n) (hSt H' n') G' ∧ G'.w = w' ∧ VR G' av v ∧ av.noL = true) a'.defers .returning G'.w := by
   intro hq
   obtain ⟨u, hu, hno, hP⟩ := ybU hq
   obtain ⟨rs, G0, d1, d2, d3, d4, d5⟩ := hR.leave
   rw [d1]
   refine ykW rs _ d2 d3 ?_
   obtain ⟨v, hrun, hv⟩ := yoA d5 hr hu
   obtain ⟨G1, p1, p2, p3, p4, p5⟩ := yqw d5.toMRel hv
   obtain ⟨G2, q1, q2, q3, q4, q5⟩ := p1.forget hBl
   rw [d4] at hrun
   exact ⟨v, hrun, v, _, _, _, G2, rfl, hP, q2, q1.trans (p3.trans d4), VR.noL (G := G1) (G' := G2) q3 q4 q5 q1 p4 hno, hno⟩
  cases e with
  | normal => exact fin hq
  | ret => exact fin hq
  | exit id => exact hq.elim
  | goto l => exact hq.elim
  | panic ch => exact hq.elim
  | outgrown => exact hq.elim
def setJ (j : LS) : List AV → List AV
 | .rcd ps a b _ :: r => .rcd ps a b j :: r
 | l => l
def St.setLs (S : St) (o : Nat) (j : LS) : St := { S with M := updK S.M (.h o) ((S.M (.h o)).map fun b => ⟨b.e, b.sz, setJ j b.cells⟩) }
def rfr (fr : List AV) (ps : List Nat) (args : List AV) : Nat -> AV := (ps.zip args).foldl (fun f p => upd f p.1 p.2) (fun t => (fr[t]?).getD (.tup []))
def rndQ (o : Nat) (Post : AV → Hp → Nat → Prop) : AEx → St → Prop
 | .n, S => lsOf (S.M (.h o)) = some .busy /\ Post (.bl true) (S.setLs o .ready).hp S.nx
 | .r, S => lsOf (S.M (.h o)) = some .busy /\ Post (.bl false) (S.setLs o .ret).hp S.nx
 | .x id, S => lsOf (S.M (.h o)) = some .busy /\ Post (.bl false) (S.setLs o (.exit id)).hp S.nx
def rndA (hs : Nat → Bool) (CA : Program) (o : Nat) (asg body : ybC) (Post : AV → Hp → Nat → Prop) (S : St) : Prop :=
 wpA hs (some o) CA asg (fun x S1 => match x with
  | .n => lsOf (S1.M (.h o)) = some .ready /\ wpA hs (some o) CA body (rndQ o Post) (S1.setLs o .busy)
  | _ => False) S
theorem Rel.setLs {S : St} {a : Act} {G : Gh} (h : Rel B N S a G) {o l cap : Nat} {j j' : LS} {q : Loop} {st : LoopState} {pd : Option Code} (hj : lsOf (S.M (.h o)) = some j) (hk : G.κ (.h o) = some (l, cap)) (hl : G.w.heap[l]? = some (.loop q)) (hok : lsOk j' st pd) :
  ∃ G', G'.w = G.w.putObj l (.loop { q with state := st, pending := pd }) /\ Rel B N (S.setLs o j') a G' /\ LE G G' := by
 obtain ⟨e, ps, asg, body, fr, hb⟩ := yms hj
 obtain ⟨r, hr, hbk⟩ := h.toMRel.κsome hb
 rw [hk] at hr; cases hr
 obtain ⟨q2, j2, fr2, c1, c2, c3, c4, c5⟩ := (yak.loop rfl).1 hbk
 rw [hl] at c2; cases c2
 simp only [List.cons.injEq, AV.rcd.injEq] at c1
 obtain ⟨⟨rfl, rfl, rfl, rfl⟩, rfl⟩ := c1
 have hlt : l < G.w.heap.size := (h.toMRel.apart _ _ hk).2
 have hno : hOk (.h o) (AV.rcd q.params q.assign q.body j' :: fr) = true := by
  have := h.toMRel.hno _ _ hb
  simp only [hOk, noLs, Bool.and_eq_true] at this ⊢
  exact ⟨rfl, this.2⟩
 obtain ⟨G', e1, e2, e3⟩ := h.toMRel.setG (k0 := .h o) (b' := ⟨e, 0, .rcd q.params q.assign q.body j' :: fr⟩) (g := l) (cap := cap) (S' := S.setLs o j') (w1 := G.w.putObj l (.loop { q with state := st, pending := pd })) hno hk hb (by unfold St.setLs; rw [hb]; rfl) rfl rfl rfl World.putObj_size (fun r hr => World.putObj_heap_other hr)
  (fun G' hle hw => (yak.loop rfl).2 ⟨{ q with state := st, pending := pd }, j', fr, rfl, by rw [hw]; exact World.putObj_heap_same hlt, hok, c4, fun t u x p r => (c5 t u x p r).le hle⟩)
 exact ⟨G', e1, h.lift e2 e3 rfl, e3⟩
theorem ysq {G : Gh} : ∀ (ps : List Nat) (args : List AV) (vs : List Value) (tm : Array Value) (f : Nat → AV), VRs G args vs → (∀ t v, tm[t]? = some v → VR G (f t) v) →
  ((ps.zip vs).foldl (fun tm p => tm.setIfInBounds p.1 p.2) tm).size = tm.size /\ ∀ t v, ((ps.zip vs).foldl (fun tm p => tm.setIfInBounds p.1 p.2) tm)[t]? = some v -> VR G ((ps.zip args).foldl (fun f p => upd f p.1 p.2) f t) v := by
 intro ps
 induction ps with
 | nil => intro args vs tm f _ h; exact ⟨rfl, h⟩
 | cons p ps ih =>
   intro args vs tm f hv h
   cases args with
   | nil => cases vs with
     | nil => exact ⟨rfl, h⟩
     | cons v vs => cases hv.1
   | cons u us => cases vs with
     | nil => cases hv.1
     | cons v vs =>
       simp only [List.zip_cons_cons, List.foldl_cons]
       obtain ⟨a1, a2⟩ := ih us vs (tm.setIfInBounds p v) (upd f p u) hv.tail (fun t x hx => by
        by_cases e : t = p
        ·subst e
         have : x = v := by
          rw [Array.getElem?_setIfInBounds_self] at hx
          split at hx
          ·exact (Option.some.inj hx).symm
          ·cases hx
         rw [this, yqd]; exact hv.head
        ·rw [yhb _ _ e]
         rw [Array.getElem?_setIfInBounds_ne (fun q => e q.symm)] at hx
         exact h t x hx)
       exact ⟨by rw [a1]; simp, a2⟩
theorem ymm (hs : Nat → Bool) {o e : Nat} {ps : Array Tmp} {asg body : Code} {fr : List AV} {aA aB : ybC} (hA : trC P N asg = some aA) (hB : trC P N body = some aB) {args : List AV} {H : Hp} {n : Nat} {Post : AV → Hp → Nat → Prop}
  (hH : H o = some ⟨e, 0, .rcd ps asg body .ready :: fr⟩) (hN : fr.length = N) (hps : ps.size = args.length) (hw : rndA hs P o aA aB Post ⟨rfr fr ps.toList args, yeY H, fun _ => 0, n⟩) : ybO P o args H n Post := by
 refine ⟨by rw [hH]; rfl, fun G vs l cap hg hM hV hk => ?_⟩
 haveI : GB P (yaN G n) := GB.of hg hM
 have hb : (hSt H n).M (.h o) = some ⟨e, 0, .rcd ps asg body .ready :: fr⟩ := hH
 obtain ⟨r, hr, hbk⟩ := hM.κsome hb
 rw [hk] at hr; cases hr
 obtain ⟨q, j, fr2, c1, c2, c3, c4, c5⟩ := (yak.loop rfl).1 hbk
 simp only [List.cons.injEq, AV.rcd.injEq] at c1
 obtain ⟨⟨rfl, rfl, rfl, rfl⟩, rfl⟩ := c1
 have hvl : vs.size = q.params.size := by rw [hps]; simpa using hV.1
 refine ⟨_, _, _, _, run_yield c2 hvl, roundIn_of_wpIn trivial ?_⟩
 have hBl : ∀ d c, (yaN G n).κ (.l d c) = none := fun d c => hM.κnone (k := .l d c) rfl
 have hfold : (q.params.zip vs).foldl (fun tmps (t, a) => tmps.setIfInBounds t a) q.tmps = (q.params.toList.zip vs.toList).foldl (fun tm p => tm.setIfInBounds p.1 p.2) q.tmps := by
  rw [<- Array.toList_zip, <- Array.foldl_toList]
 obtain ⟨d1, d2⟩ := ysq q.params.toList args vs.toList q.tmps (fun t => (fr[t]?).getD (.tup [])) hV (fun t v hv => by
  have ht : t < fr.length := by rw [<- c4]; exact (Array.getElem?_eq_some_iff.1 hv).1
  rw [List.getElem?_eq_getElem ht]
  exact c5 t _ v (List.getElem?_eq_getElem ht) hv)
 have hrel : Rel (yaN G n) N ⟨rfr fr q.params.toList args, yeY H, fun _ => 0, n⟩ { tmps := (q.params.zip vs).foldl (fun tmps (t, a) => tmps.setIfInBounds t a) q.tmps, defers := [] } G := by
  refine { (show MRel (yaN G n) ⟨rfr fr q.params.toList args, yeY H, fun _ => 0, n⟩ G from hM.fr (rfr fr q.params.toList args)) with defers := DfOk.nil _ _, tsize := by rw [hfold, d1, c4, hN], slot := fun t v hv => ?_ }
  rw [hfold] at hv
  exact d2 t v hv
 have hoo : ∀ o', some o = some o' -> ∃ l' cap, some l = some l' /\ (yaN G n).κ (.h o') = some (l', cap) := fun o' ho' => by cases ho'; exact ⟨l, cap, rfl, hk⟩
 have kk : ∀ {S1 : St} {a1 : Act} {G1 : Gh} {j : LS}, Rel (yaN G n) N S1 a1 G1 → lsOf (S1.M (.h o)) = some j → ∃ q, G1.κ (.h o) = some (l, cap) ∧ G1.w.heap[l]? = some (.loop q) ∧ lsOk j q.state q.pending := by
  intro S1 a1 G1 j h1 hj
  obtain ⟨l', cap', q, k1, k2, k3⟩ := h1.toMRel.recAt hj
  have : (l', cap') = (l, cap) := by
   rcases h1.toMRel.keep (.h o) (l, cap) hk with hq | hq
   ·rw [hq] at k1; exact (Option.some.inj k1).symm
   ·have := ((h1.toMRel.dead _).1 hq).1
    rw [this] at hj; cases hj
  injection this with t1 t2
  subst t1; subst t2
  exact ⟨q, k1, k2, k3⟩
 refine wpIn_mono (yo0 (oo := some o) (ro := some l) hoo (fun h => by cases h) q.assign aA _ _ _ G hA hw hrel) ?_
 rintro x a1 w1 ⟨S1, G1, h1, rfl, hq⟩
 cases x with
 | exit id => exact hq.elim
 | ret => exact hq.elim
 | goto l => exact hq.elim
 | panic c => exact hq.elim
 | outgrown => exact hq.elim
 | normal =>
   obtain ⟨hj, hbody⟩ := hq
   obtain ⟨q1, k1, k2, k3⟩ := kk h1 hj
   obtain ⟨G2, e1, e2, e3⟩ := h1.setLs (j' := .busy) (st := .busy) (pd := q1.pending) hj k1 k2 rfl
   refine ⟨_, run_beginRound k2 k3.1, ?_⟩
   have e1' : G2.w = G1.w.putObj l (.loop { q1 with state := .busy }) := e1
   rw [<- e1']
   refine wpIn_mono (yo0 (oo := some o) (ro := some l) hoo (fun h => by cases h) q.body aB _ _ _ G2 hB hbody e2) ?_
   rintro x a3 w3 ⟨S3, G3, h3, rfl, hq⟩
   have fin : ∀ (j' : LS) (jump : Option Code) (b : Bool), jump.isNone = b → lsOk j' (if jump.isNone then .ready else .done) jump → lsOf (S3.M (.h o)) = some .busy → Post (.bl b) (S3.setLs o j').hp S3.nx →
     ∃ v w', (Instr.endRound l jump).run P G3.w = .ok v w' /\ ∃ v' av H' n' G', Ending.returned v = .returned v' /\ Post av H' n' /\ MRel (yaN G n) (hSt H' n') G' /\ G'.w = w' /\ VR G' av v' /\ av.noL = true := by
    intro j' jump b hb hok hj3 hP
    obtain ⟨q3, m1, m2, m3⟩ := kk h3 hj3
    obtain ⟨G4, f1, f2, f3⟩ := h3.setLs (j' := j') (st := if jump.isNone then .ready else .done) (pd := jump) hj3 m1 m2 hok
    obtain ⟨G5, g1, g2, g3, g4, g5⟩ := f2.toMRel.forget hBl
    refine ⟨_, _, run_endRound jump m2, _, .bl b, _, _, G5, rfl, hP, g2, g1.trans f1, ?_, rfl⟩
    rw [hb]; exact .bl b
   cases x with
   | normal => exact fin .ready none true rfl ⟨rfl, rfl⟩ hq.1 hq.2
   | ret => exact fin .ret (some .ret) false rfl ⟨rfl, rfl⟩ hq.1 hq.2
   | exit id => exact fin (.exit id) (some (.exit id)) false rfl ⟨rfl, rfl⟩ hq.1 hq.2
   | goto l => exact hq.elim
   | panic c => exact hq.elim
   | outgrown => exact hq.elim
theorem enters_of {f : FuncId} {F : AFn} (hF : trF P f = some F) (vs : Array Value) (w : World) : (callFunc f vs).run P w = .ok (.enter f vs) w := by
 unfold trF at hF
 split at hF <;> first | (cases hF; done) | skip
 rename_i fn hfn
 split at hF <;> first | (cases hF; done) | skip
 rename_i b hb
 split at hb
 ·cases hb
 ·rename_i hname
  simp only [callFunc, Sem.run_bind, run_program, Result.andThen_ok, hfn]
  rw [if_neg hname]
  simp [hb]
end
end Go.AV
end
noncomputable section
namespace Go.AV
open Go.RowKit Go.RG Go.Lib
structure KB where
 e : Nat
 sz : Nat
 cells : List AV
 q : Bool
def KB.blk (b : KB) : Blk := ⟨b.e, b.sz, b.cells⟩
structure KS where
 fr : List (Nat × AV)
 mem : List (Nat × KB)
 H : Hp
 nx : Nat
def lkF : List (Nat × AV) → Nat → AV
 | [], _ => .un
 | p :: r, t => match Nat.beq p.1 t with
   | true => p.2
   | false => lkF r t
def lkM : List (Nat × KB) → Nat → Option KB
 | [], _ => none
 | p :: r, t => match Nat.beq p.1 t with
   | true => some p.2
   | false => lkM r t
def KS.M (ks : KS) : Key → Option Blk
 | .h o => ks.H o
 | .l d c => match Nat.beq c 1 with
   | true => (lkM ks.mem d).map KB.blk
   | false => none
def toS (ks : KS) : St := ⟨lkF ks.fr, ks.M, fun _ => 1, ks.nx⟩
def KOk (ks : KS) : Prop := ∀ d b, lkM ks.mem d = some b -> b.sz ≠ 0 /\ (b.q = true -> noLs b.cells = true)
theorem nbeq {a b : Nat} : Nat.beq a b = true ↔ a = b := ⟨Nat.eq_of_beq_eq_true, fun h => h ▸ Nat.beq_refl a⟩
theorem ycX (p : Nat × AV) (r : List (Nat × AV)) (t : Nat) : lkF (p :: r) t = if p.1 = t then p.2 else lkF r t := by
 simp only [lkF]
 by_cases h : p.1 = t
 ·rw [if_pos h, nbeq.2 h]
 ·rw [if_neg h]
  cases hb : Nat.beq p.1 t with
  | true => exact absurd (nbeq.1 hb) h
  | false => rfl
theorem yfV (p : Nat × KB) (r : List (Nat × KB)) (t : Nat) : lkM (p :: r) t = if p.1 = t then some p.2 else lkM r t := by
 simp only [lkM]
 by_cases h : p.1 = t
 ·rw [if_pos h, nbeq.2 h]
 ·rw [if_neg h]
  cases hb : Nat.beq p.1 t with
  | true => exact absurd (nbeq.1 hb) h
  | false => rfl
theorem M_l1 (ks : KS) (d : Nat) : ks.M (.l d 1) = (lkM ks.mem d).map KB.blk := rfl
theorem M_lc (ks : KS) {d c : Nat} {b : Blk} (h : ks.M (.l d c) = some b) : c = 1 ∧ ∃ kb, lkM ks.mem d = some kb ∧ b = kb.blk := by
 simp only [KS.M] at h
 split at h
 ·rename_i hc
  obtain ⟨kb, h1, h2⟩ := Option.map_eq_some_iff.1 h
  exact ⟨nbeq.1 hc, kb, h1, h2.symm⟩
 ·cases h
inductive RV (ρ : Nat → Option (Nat × Nat)) (S : St) (p : Nat × Nat → Prop) : AV → AV → Prop
 | no (u : AV) (h : u.noL = true) : RV ρ S p u u
 | un (v : AV) : RV ρ S p .un v
 | gs (d n : Nat) (k : Nat × Nat) (h : ρ d = some k) : RV ρ S p (.gs (.l d 1) n) (.gs (.l k.1 k.2) n)
 | pt (d off : Nat) (k : Nat × Nat) (h : ρ d = some k) : RV ρ S p (.pt (.l d 1) off) (.pt (.l k.1 k.2) off)
 | pub (k : Nat × Nat) (n : Nat) (b : Blk) (hp : p k) (hm : S.M (.l k.1 k.2) = some b) (hl : b.cells.length = n * b.sz) (hz : b.sz ≠ 0) (hq : noLs b.cells = true) : RV ρ S p (.sl false n b.cells) (.gs (.l k.1 k.2) n)
 | nil : RV ρ S p (.sl false 0 []) (.sl true 0 [])
 | ep (xs : List AV) (off w : Nat) : RV ρ S p (.ep ((xs.drop off).take w) 0) (.ep xs off)
 | agg (us vs : List AV) (hl : us.length = vs.length) (h : ∀ (j : Nat) (u v : AV), us[j]? = some u -> vs[j]? = some v -> RV ρ S p u v) : RV ρ S p (.agg us) (.agg vs)
 | tup (us vs : List AV) (hl : us.length = vs.length) (h : ∀ (j : Nat) (u v : AV), us[j]? = some u -> vs[j]? = some v -> RV ρ S p u v) : RV ρ S p (.tup us) (.tup vs)
 | fn (f : Fn) (us vs us' vs' : List AV) (hl : us.length = vs.length) (h : ∀ (j : Nat) (u v : AV), us[j]? = some u -> vs[j]? = some v -> RV ρ S p u v) (hl' : us'.length = vs'.length) (h' : ∀ (j : Nat) (u v : AV), us'[j]? = some u -> vs'[j]? = some v -> RV ρ S p u v) : RV ρ S p (.fn f us us') (.fn f vs vs')
def RVL (ρ : Nat -> Option (Nat × Nat)) (S : St) (p : Nat × Nat -> Prop) (us vs : List AV) : Prop := us.length = vs.length /\ ∀ (j : Nat) (u v : AV), us[j]? = some u -> vs[j]? = some v -> RV ρ S p u v
structure ReK (S : St) (ks : KS) (ρ : Nat → Option (Nat × Nat)) (p : Nat × Nat → Prop) : Prop where
 dom : ∀ d b1, lkM ks.mem d = some b1 -> ∃ k, ρ d = some k
 at' : ∀ d k, ρ d = some k -> ∃ b b1, S.M (.l k.1 k.2) = some b /\ b.sz ≠ 0 /\ lkM ks.mem d = some b1 /\ b1.e = b.e /\ b1.sz = b.sz /\ RVL ρ S p b1.cells b.cells
 inj : ∀ d d' k, ρ d = some k -> ρ d' = some k -> d = d'
 disj : ∀ k d, p k -> ρ d ≠ some k
 pub : ∀ k, p k -> ∃ b, S.M (.l k.1 k.2) = some b /\ b.sz ≠ 0
 fr : ∀ t, RV ρ S p (lkF ks.fr t) (S.fr t)
 H : ∀ o, S.M (.h o) = ks.H o
 nx : S.nx = ks.nx
 fix : ∀ d k, 2000000 <= d -> ρ d = some k -> k = (d, 1)
def ycW (B : Base) : Prop := ∀ d c r, B.κ (.l d c) = some r -> c = 1 /\ 2000000 <= d
theorem ycW.none {B : Base} (h : ∀ d c, B.κ (.l d c) = none) : ycW B := fun d c r e => by rw [h] at e; cases e
section
variable {B : Base} {N : Nat} {S : St} {a : Act} {G : Gh} {ks : KS} {ρ : Nat -> Option (Nat × Nat)} {p : Nat × Nat -> Prop}
theorem RV.go (hR : ReK S ks ρ p) (hM : MRel B S G) {G1 : Gh} (f1 : ∀ d k r, ρ d = some k → G.κ (.l k.1 k.2) = some r → G1.κ (.l d 1) = some r) (f2 : ∀ o r, G.κ (.h o) = some r → G1.κ (.h o) = some r) (f3 : ∀ o, G.dead (.h o) → G1.dead (.h o))
  (f4 : ∀ b, G.I b -> G1.I b) (f5 : G1.w = G.w) (f6 : ∀ k r, p k -> G.κ (.l k.1 k.2) = some r -> G1.I r.1) : ∀ {u v : AV}, RV ρ S p u v -> ∀ {x : Value}, VR G v x -> VR G1 u x := by
 intro u v h
 induction h with
 | no u h => exact fun hx => VR.noL f2 f3 f4 f5 hx h
 | un v => exact fun _ => .un _
 | gs d n k h =>
   intro x hx
   obtain ⟨b, b1, q1, _⟩ := hR.at' d k h
   obtain ⟨g, cap, hk, e⟩ := hx.gs_inv hM (by simp [yaz, q1])
   rw [e]; exact .gs _ n g cap (f1 d k _ h hk)
 | pt d off k h =>
   intro x hx
   obtain ⟨b, b1, q1, _⟩ := hR.at' d k h
   obtain ⟨g, cap, hk, e⟩ := hx.pt_inv hM (by simp [yaz, q1])
   rw [e]; exact .pt _ off g cap (f1 d k _ h hk)
 | pub k n b hp hm hl hz hq =>
   intro x hx
   obtain ⟨g, cap, hk, e⟩ := hx.gs_inv hM (by simp [yaz, hm])
   obtain ⟨r, hr, hb⟩ := hM.κcell hm hz
   rw [hk] at hr; cases hr
   obtain ⟨cur, c1, c2, c3, c4, c5, c6, c7⟩ := hb
   have hnc : n ≤ cap := by
    have : n * b.sz <= cap * b.sz := by rw [<- hl, <- c2]; exact c5
    exact Nat.le_of_mul_le_mul_right this c4
   rw [e]
   have hcell : ∀ (j : Nat) (u : AV), b.cells[j]? = some u → ∃ x, cur[j]? = some x := by
    intro j u hu
    have hj : j < cur.size := Nat.lt_of_lt_of_le (List.getElem?_eq_some_iff.1 hu).1 c5
    exact ⟨cur[j], Array.getElem?_eq_getElem hj⟩
   refine .sl n b.cells g 0 cap (fun j => (cur[j]?).getD undef) (f6 k _ hp hk) ?_ ?_ ?_ hnc (Nat.le_trans hnc c3) hq
   ·intro j u hu
    obtain ⟨x, hx⟩ := hcell j u hu
    rw [f5]
    simp only [World.cell?, Nat.zero_add]
    simp [c1, hx]
   ·intro j u hu
    obtain ⟨x, hx⟩ := hcell j u hu
    rw [hx]; exact VR.noL f2 f3 f4 f5 (c6 j u x hu hx) (yaB hq j u hu)
   ·intro j u hu
    obtain ⟨x, hx⟩ := hcell j u hu
    rw [hx]; exact c7 j x (List.getElem?_eq_some_iff.1 hu).1 hx
 | nil => intro x hx; rw [hx.nsl_inv.1]; exact .nsl _ _ _ rfl rfl
 | ep xs off w =>
   intro x hx
   obtain ⟨b, base, f, e, a1, a2, a3, a4, a5⟩ := hx.ep_inv
   rw [e, show base + off = (base + off) + 0 from rfl]
   have hsub : ∀ (j : Nat) (u : AV), ((xs.drop off).take w)[j]? = some u → xs[off + j]? = some u := by
    intro j u hu
    simp only [List.getElem?_take, List.getElem?_drop] at hu
    split at hu
    ·exact hu
    ·cases hu
   refine .ep _ 0 b (base + off) (fun j => f (off + j)) (f4 b a1) ?_ ?_ ?_ (yme (fun u hu => List.mem_of_mem_drop (List.mem_of_mem_take hu)) a5)
   ·intro j u hu; have := a2 _ u (hsub j u hu); rw [f5, Nat.add_assoc]; exact this
   ·intro j u hu; exact VR.noL f2 f3 f4 f5 (a3 _ u (hsub j u hu)) (yaB a5 _ u (hsub j u hu))
   ·intro j u hu; exact a4 _ u (hsub j u hu)
 | agg us vs hl h ih =>
   intro x hx
   obtain ⟨xs, e, h1, h2, h3⟩ := hx.agg_inv
   rw [e]
   refine .agg us xs (by rw [h1, hl]) (fun j u x hu hx => ?_) h3
   have hj : j < vs.length := by rw [<- hl]; exact (List.getElem?_eq_some_iff.1 hu).1
   exact ih j u vs[j] hu (List.getElem?_eq_getElem hj) (h2 j _ x (List.getElem?_eq_getElem hj) hx)
 | tup us vs hl h ih =>
   intro x hx
   obtain ⟨xs, e, h1, h2⟩ := hx.tup_inv
   rw [e]
   refine .tup us xs (by rw [h1, hl]) (fun j u x hu hx => ?_)
   have hj : j < vs.length := by rw [<- hl]; exact (List.getElem?_eq_some_iff.1 hu).1
   exact ih j u vs[j] hu (List.getElem?_eq_getElem hj) (h2 j _ x (List.getElem?_eq_getElem hj) hx)
 | fn f us vs us' vs' hl h hl' h' ih ih' =>
   intro x hx
   obtain ⟨xa, xc, e, h1, h2, h3, h4⟩ := hx.fn_inv
   rw [e]
   refine .fn f us us' xa xc (by rw [h1, hl]) (by rw [h2, hl']) (fun j u x hu hx => ?_) (fun j u x hu hx => ?_)
   ·have hj : j < vs.length := by rw [← hl]; exact (List.getElem?_eq_some_iff.1 hu).1
    exact ih j u vs[j] hu (List.getElem?_eq_getElem hj) (h3 j _ x (List.getElem?_eq_getElem hj) hx)
   ·have hj : j < vs'.length := by rw [← hl']; exact (List.getElem?_eq_some_iff.1 hu).1
    exact ih' j u vs'[j] hu (List.getElem?_eq_getElem hj) (h4 j _ x (List.getElem?_eq_getElem hj) hx)
theorem ypO (h : Rel B N S a G) (hB : ycW B) (hR : ReK S ks ρ p) : ∃ G1, G1.w = G.w ∧ Rel B N (toS ks) a G1 := by
 have hM := h.toMRel
 let κ1 : Key → Option (Nat × Nat) := fun k => match k with
  | .h o => G.κ (.h o)
  | .l d c => if c = 1 then (ρ d).bind fun k => G.κ (.l k.1 k.2) else none
 let G1 : Gh := ⟨κ1, yb0 (toS ks), fun b => G.I b ∨ ∃ k r, p k /\ G.κ (.l k.1 k.2) = some r /\ r.1 = b, G.w⟩
 have f1 : ∀ d k r, ρ d = some k → G.κ (.l k.1 k.2) = some r → G1.κ (.l d 1) = some r := by
  intro d k r h1 h2
  show (if 1 = 1 then (ρ d).bind fun k => G.κ (.l k.1 k.2) else none) = some r
  simp [h1, h2]
 have hinv : ∀ d c r, κ1 (.l d c) = some r → c = 1 ∧ ∃ k, ρ d = some k ∧ G.κ (.l k.1 k.2) = some r := by
  intro d c r hr
  have hr' : (if c = 1 then (ρ d).bind fun k => G.κ (.l k.1 k.2) else none) = some r := hr
  split at hr'
  ·rename_i hc
   obtain ⟨k, h1, h2⟩ := Option.bind_eq_some_iff.1 hr'
   exact ⟨hc, k, h1, h2⟩
  ·cases hr'
 have f3 : ∀ o, G.dead (.h o) → G1.dead (.h o) := by
  intro o hd
  obtain ⟨h1, h2⟩ := (hM.dead _).1 hd
  refine ⟨?_, ?_⟩
  ·show ks.H o = none
   rw [<- hR.H]; exact h1
  ·show o < ks.nx
   rw [<- hR.nx]; exact h2
 have f6 : ∀ k r, p k -> G.κ (.l k.1 k.2) = some r -> G1.I r.1 := fun k r h1 h2 => .inr ⟨k, r, h1, h2, rfl⟩
 have go : ∀ {u v : AV}, RV ρ S p u v -> ∀ {x : Value}, VR G v x -> VR G1 u x := RV.go (G1 := G1) hR hM f1 (fun _ _ q => q) f3 (fun _ q => .inl q) rfl f6
 have hno : ∀ {u : AV} {x : Value}, VR G u x -> u.noL = true -> VR G1 u x := VR.noL (G := G) (G' := G1) (fun _ _ q => q) f3 (fun _ q => .inl q) rfl
 refine ⟨G1, rfl, ?_⟩
 refine { blk := ?_, inj := ?_, dead := fun k => Iff.rfl, live := ?_, apart := ?_, lt := ?_, loc := ?_, keep := ?_, heap := ?_, nx := ?_, gone := ?_, I0 := fun b hb => .inl (h.I0 b hb), I1 := ?_, os := h.os, tape := h.tape, output := h.output, size := h.size, same := h.same, hno := ?_, defers := ?_, tsize := h.tsize, slot := ?_ }
 ·intro k
  cases k with
  | h o =>
    have hb := h.blk (.h o)
    have hn := h.hno (.h o)
    show yak G1 (ks.H o) (G.κ (.h o))
    rw [<- hR.H]
    revert hb hn
    cases S.M (.h o) with
    | none => cases G.κ (.h o) <;> exact fun x _ => x
    | some b => cases G.κ (.h o) with
      | none => exact fun x _ => x
      | some r =>
        intro this hn
        by_cases hz : b.sz = 0
        ·obtain ⟨q, j, fr, c1, c2, c3, c4, c5⟩ := (yak.loop hz).1 this
         have hnf : noLs fr = true := by have := hn b rfl; simp only [hOk, c1, noLs, Bool.and_eq_true] at this; exact this.2
         exact (yak.loop hz).2 ⟨q, j, fr, c1, c2, c3, c4, fun t u x p q => hno (c5 t u x p q) (yaB hnf t u p)⟩
        obtain ⟨cur, c1, c2, c3, c4, c5, c6, c7⟩ := (yak.cell hz).1 this
        exact (yak.cell hz).2 ⟨cur, c1, c2, c3, c4, c5, fun j u x p q => hno (c6 j u x p q) (yaB (hn b rfl) j u p), c7⟩
  | l d c =>
    show yak G1 (ks.M (.l d c)) (κ1 (.l d c))
    by_cases hc : c = 1
    ·subst hc
     rw [M_l1]
     cases hl : lkM ks.mem d with
     | none =>
       have : κ1 (.l d 1) = none := by
        cases hk : κ1 (.l d 1) with
        | none => rfl
        | some r =>
          obtain ⟨_, k, h1, h2⟩ := hinv d 1 r hk
          obtain ⟨b, b1, q1, q2, q3, _⟩ := hR.at' d k h1
          rw [hl] at q3; cases q3
       rw [this]; trivial
     | some kb =>
       obtain ⟨k, hk⟩ := hR.dom d kb hl
       obtain ⟨b, b1, q1, q2, q3, q4, q5, q6, q7⟩ := hR.at' d k hk
       rw [hl] at q3; cases q3
       obtain ⟨r, hr, hb⟩ := hM.κcell q1 q2
       have hk1 : κ1 (.l d 1) = some r := f1 d k r hk hr
       rw [hk1]
       have hz : kb.blk.sz ≠ 0 := by show kb.sz ≠ 0; rw [q5]; exact q2
       refine (yak.cell hz).2 ?_
       obtain ⟨cur, c1, c2, c3, c4, c5, c6, c7⟩ := hb
       refine ⟨cur, by show G.w.heap[r.1]? = _; rw [c1]; show _ = some (Obj.cells cur kb.e (0, 0)); rw [q4], by show cur.size = r.2 * kb.sz; rw [q5]; exact c2, c3, by show 0 < kb.sz; rw [q5]; exact c4, by show kb.cells.length <= _; rw [q6]; exact c5, ?_, ?_⟩
       ·intro j u x hu hx
        have hj : j < b.cells.length := by rw [<- q6]; exact (List.getElem?_eq_some_iff.1 hu).1
        exact go (q7 j u _ hu (List.getElem?_eq_getElem hj)) (c6 j _ x (List.getElem?_eq_getElem hj) hx)
       ·intro j x hj hx; exact c7 j x (by rw [<- q6]; exact hj) hx
    ·have h1 : ks.M (.l d c) = none := by
      cases hm : ks.M (.l d c) with
      | none => rfl
      | some b => exact absurd (M_lc ks hm).1 hc
     have h2 : κ1 (.l d c) = none := by
      cases hk : κ1 (.l d c) with
      | none => rfl
      | some r => exact absurd (hinv d c r hk).1 hc
     rw [h1, h2]; trivial
 ·intro k k' r r' hr hr' e
  cases k with
  | h o => cases k' with
    | h o' => exact h.inj _ _ r r' hr hr' e
    | l d c =>
      obtain ⟨_, k, h1, h2⟩ := hinv d c r' hr'
      have := h.inj _ _ r r' hr h2 e; cases this
  | l d c =>
    obtain ⟨rfl, k, h1, h2⟩ := hinv d c r hr
    cases k' with
    | h o' => have := h.inj _ _ r r' h2 hr' e; cases this
    | l d' c' =>
      obtain ⟨rfl, k', h3, h4⟩ := hinv d' c' r' hr'
      have := h.inj _ _ r r' h2 h4 e
      simp only [Key.l.injEq] at this
      have e1 : k = k' := Prod.ext this.1 this.2
      subst e1
      rw [hR.inj d d' k h1 h3]
 ·intro k b hb
  cases k with
  | h o =>
    have : o < S.nx := h.live (.h o) b (by rw [hR.H]; exact hb)
    show o < ks.nx
    rw [<- hR.nx]; exact this
  | l d c => obtain ⟨rfl, _⟩ := M_lc ks hb; exact ⟨Nat.le_refl 1, Nat.le_refl 1⟩
 ·intro k r hr
  have hp : ∀ k0, G.κ k0 = some r → (∀ k, p k → k0 ≠ .l k.1 k.2) → ¬ G1.I r.1 ∧ r.1 < G.w.heap.size := by
   intro k0 hk0 hne
   obtain ⟨q1, q2⟩ := h.apart k0 r hk0
   refine ⟨?_, q2⟩
   rintro (hI | ⟨k', r', e1, e2, e3⟩)
   ·exact q1 hI
   ·exact hne k' e1 (h.inj _ _ _ _ hk0 e2 e3.symm)
  cases k with
  | h o => exact hp (.h o) hr (fun k _ e => by cases e)
  | l d c =>
    obtain ⟨rfl, k, h1, h2⟩ := hinv d c r hr
    refine hp _ h2 (fun k' hk' e => ?_)
    simp only [Key.l.injEq] at e
    have e1 : k = k' := Prod.ext e.1 e.2
    subst e1
    exact hR.disj k d hk' h1
 ·rintro b (hI | ⟨k, r, e1, e2, e3⟩)
  ·exact h.lt b hI
  ·rw [<- e3]; exact (h.apart _ r e2).2
 ·intro d c r hr
  obtain ⟨_, k, h1, h2⟩ := hinv d c r hr
  exact h.loc _ _ r h2
 ·intro k r hr
  cases k with
  | l d c =>
    obtain ⟨rfl, hd⟩ := hB d c r hr
    cases hρ : ρ d with
    | none =>
      right
      refine ⟨?_, Nat.le_refl 1, Nat.le_refl 1⟩
      show (lkM ks.mem d).map KB.blk = none
      cases hl : lkM ks.mem d with
      | none => rfl
      | some b1 => obtain ⟨k, hk⟩ := hR.dom d b1 hl; rw [hρ] at hk; cases hk
    | some k =>
      have := hR.fix d k hd hρ; subst this
      obtain ⟨b, b1, q1, q2, q3, _⟩ := hR.at' d _ hρ
      rcases h.keep (.l d 1) r hr with hq | hq
      ·exact .inl (f1 d _ r hρ hq)
      ·have := ((hM.dead _).1 hq).1
       rw [this] at q1; cases q1
  | h o =>
    rcases h.keep (.h o) r hr with hq | hq
    ·exact .inl hq
    ·exact .inr (f3 o hq)
 ·intro o r hr; exact h.heap o r hr
 ·show B.nx ≤ ks.nx
  rw [<- hR.nx]; exact h.nx
 ·intro o ho hb; exact h.gone o ho hb
 ·rintro b (hI | ⟨k, r, e1, e2, e3⟩)
  ·exact h.I1 b hI
  ·rw [← e3]
   rcases h.loc _ _ r e2 with hq | hq
   ·exact .inr (.inl hq)
   ·exact .inr (.inr hq)
 ·intro k b hb
  cases k with
  | h o => exact h.hno (.h o) b (by rw [hR.H]; exact hb)
  | l d c => rfl
 ·obtain ⟨rs, g1, g2, g3⟩ := h.defers
  refine ⟨rs, g1, g2, fun r hr => ?_⟩
  obtain ⟨u1, u2, u3⟩ := g3 r hr
  refine ⟨u1, ?_, u3⟩
  rintro (hI | ⟨k, r', e1, e2, e3⟩)
  ·exact u2 hI
  ·exact hM.notDfr e2 _ (e3 ▸ u1)
 ·intro t v hv
  exact go (hR.fr t) (h.slot t v hv)
end
end Go.AV
end
noncomputable section
namespace Go.AV
open Go.RowKit Go.RG Go.Lib
theorem yhF (a b : List AV) : noLs (a ++ b) = (noLs a && noLs b) := by
 induction a with
 | nil => simp [noLs]
 | cons x a ih => simp [noLs, ih, Bool.and_assoc]
mutual
def okV (live : Nat → Bool) : AV → Bool
 | .agg cs => okVs live cs
 | .tup vs => okVs live vs
 | .fn _ a c => okVs live a && okVs live c
 | .gs (.l d c) _ => Nat.beq c 1 && live d
 | .pt (.l d c) _ => Nat.beq c 1 && live d
 | _ => true
def okVs (live : Nat → Bool) : List AV → Bool
 | [] => true
 | u :: r => okV live u && okVs live r
end
def scrub (live : Nat → Bool) (u : AV) : AV := match okV live u with
 | true => u
 | false => .un
def scrubB (live : Nat → Bool) (b : KB) : KB := match b.q with
 | true => b
 | false => ⟨b.e, b.sz, b.cells.map (scrub live), noLs (b.cells.map (scrub live))⟩
def hasM (m : List (Nat × KB)) (d : Nat) : Bool := (lkM m d).isSome
def KS.put (ks : KS) (d : Option Nat) (v : AV) : KS := match d with
 | some d => ⟨(d, v) :: ks.fr, ks.mem, ks.H, ks.nx⟩
 | none => ks
def memN (l : List Nat) (t : Nat) : Bool := match l with
 | [] => false
 | x :: r => Nat.beq x t || memN r t
def yr0 (live : Nat → Bool) (fr : List (Nat × AV)) : List Nat → List (Nat × AV)
 | [] => []
 | t :: r => (t, scrub live (lkF fr t)) :: yr0 live fr r
def yl4 (live : Nat → Bool) (m : List (Nat × KB)) : List Nat → List (Nat × KB)
 | [] => []
 | d :: r => match lkM m d with
   | some b => (d, scrubB live b) :: yl4 live m r
   | none => yl4 live m r
def KS.keep (ks : KS) (ts ds : List Nat) : KS := let live := fun s => memN ds s && hasM ks.mem s; ⟨yr0 live ks.fr ts, yl4 live ks.mem ds, ks.H, ks.nx⟩
mutual
theorem RV.same {ρ : Nat → Option (Nat × Nat)} {S : St} {p : Nat × Nat → Prop} {live : Nat → Bool} (hρ : ∀ d, live d = true → ρ d = some (d, 1)) : ∀ (u : AV), okV live u = true → RV ρ S p u u
 | .agg cs, h => .agg cs cs rfl fun j u v hu hv => by rw [hu] at hv; cases hv; exact RVs.same hρ cs (by simpa only [okV] using h) j u hu
 | .tup cs, h => .tup cs cs rfl fun j u v hu hv => by rw [hu] at hv; cases hv; exact RVs.same hρ cs (by simpa only [okV] using h) j u hu
 | .fn f a c, h => by
   simp only [okV, Bool.and_eq_true] at h
   exact .fn f a a c c rfl (fun j u v hu hv => by rw [hu] at hv; cases hv; exact RVs.same hρ a h.1 j u hu) rfl (fun j u v hu hv => by rw [hu] at hv; cases hv; exact RVs.same hρ c h.2 j u hu)
 | .gs (.l d c) n, h => by
   simp only [okV, Bool.and_eq_true] at h
   rw [nbeq.1 h.1]
   exact .gs d n (d, 1) (hρ d h.2)
 | .pt (.l d c) n, h => by
   simp only [okV, Bool.and_eq_true] at h
   rw [nbeq.1 h.1]
   exact .pt d n (d, 1) (hρ d h.2)
 | .gs (.h o) n, _ => .no _ rfl
 | .pt (.h o) n, _ => .no _ rfl
 | .bl b, _ => .no _ rfl
 | .it k n, _ => .no _ rfl
 | .st s, _ => .no _ rfl
 | .sl z n xs, _ => .no _ rfl
 | .nptr, _ => .no _ rfl
 | .ep xs off, _ => .no _ rfl
 | .nfn, _ => .no _ rfl
 | .un, _ => .no _ rfl
 | .yld o, _ => .no _ rfl
 | .rcd a b c d, _ => .no _ rfl
theorem RVs.same {ρ : Nat → Option (Nat × Nat)} {S : St} {p : Nat × Nat → Prop} {live : Nat → Bool} (hρ : ∀ d, live d = true → ρ d = some (d, 1)) : ∀ (l : List AV), okVs live l = true → ∀ (j : Nat) (u : AV), l[j]? = some u → RV ρ S p u u
 | [], _, j, u, hu => by simp at hu
 | x :: l, h, j, u, hu => by
   simp only [okVs, Bool.and_eq_true] at h
   cases j with
   | zero => simp at hu; subst hu; exact RV.same hρ x h.1
   | succ j => exact RVs.same hρ l h.2 j u (by simpa using hu)
end
section
variable {ρ : Nat -> Option (Nat × Nat)} {S : St} {p : Nat × Nat -> Prop} {live : Nat -> Bool}
theorem RV.scrub (hρ : ∀ d, live d = true → ρ d = some (d, 1)) (u : AV) : RV ρ S p (scrub live u) u := by
 unfold AV.scrub
 split
 ·rename_i h; exact RV.same hρ u h
 ·exact .un u
theorem RVL.scrub (hρ : ∀ d, live d = true → ρ d = some (d, 1)) (l : List AV) : RVL ρ S p (l.map (scrub live)) l := by
 refine ⟨by simp, fun j u v hu hv => ?_⟩
 rw [List.getElem?_map, hv] at hu
 simp only [Option.map_some, Option.some.injEq] at hu
 rw [<- hu]; exact RV.scrub hρ v
theorem RVL.no {l : List AV} (h : noLs l = true) : RVL ρ S p l l := ⟨rfl, fun j u v hu hv => by rw [hu] at hv; cases hv; exact .no u (yaB h j u hu)⟩
theorem RVL.scrubB (hρ : ∀ d, live d = true → ρ d = some (d, 1)) {b : KB} (hb : b.q = true → noLs b.cells = true) : RVL ρ S p (scrubB live b).cells b.cells := by
 unfold AV.scrubB
 split
 ·rename_i h; exact RVL.no (hb h)
 ·exact RVL.scrub hρ _
theorem yn1 (b : KB) : (scrubB live b).sz = b.sz := by unfold scrubB; split <;> rfl
theorem ypn (b : KB) (hb : b.q = true → noLs b.cells = true) : (scrubB live b).q = true → noLs (scrubB live b).cells = true := by
 unfold scrubB
 split
 ·rename_i h; exact fun _ => hb h
 ·exact fun h => h
theorem ypk (m : List (Nat × KB)) (ds : List Nat) (d : Nat) : lkM (yl4 live m ds) d = if memN ds d = true then (lkM m d).map (scrubB live) else none := by
 induction ds with
 | nil => simp [yl4, lkM, memN]
 | cons x ds ih =>
   simp only [yl4, memN]
   by_cases h : x = d
   ·subst h
    cases hl : lkM m x with
    | none => simp only; rw [ih, hl]; simp
    | some b => simp only; rw [yfV]; simp [nbeq.2 rfl]
   ·have hb : Nat.beq x d = false := by
     cases hq : Nat.beq x d with
     | true => exact absurd (nbeq.1 hq) h
     | false => rfl
    simp only [hb, Bool.false_or]
    cases hl : lkM m x with
    | none => simp only; exact ih
    | some b => simp only; rw [yfV, if_neg h]; exact ih
end
section
variable (P : Program) (B : Base) (N : Nat) (ro : Option Nat)
def RelK (ks : KS) (a : Act) (G : Gh) : Prop := Rel B N (toS ks) a G /\ KOk ks
def exK (Q : AEx → KS → Prop) : Exit → KS → Prop
 | .normal, ks => Q .n ks
 | .exit id, ks => Q (.x id) ks
 | .ret, ks => Q .r ks
 | _, _ => False
def yla (Q : AEx -> KS -> Prop) : Exit -> Act -> World -> Prop := fun e a w => ∃ ks G, RelK B N ks a G /\ G.w = w /\ exK Q e ks
def RE (S : St) (X : KS -> Prop) : Prop := ∀ a G, Rel B N S a G -> ∃ ks1 G1, G1.w = G.w /\ RelK B N ks1 a G1 /\ X ks1
def WK (ac : ybC) (Q : AEx -> KS -> Prop) (ks : KS) : Prop := ∀ c, trC P N c = some ac -> ∀ a G, RelK B N ks a G -> c.wpIn (FR ro) 0 P (yla B N Q) a G.w
def nQ (Q : KS → Prop) : AEx → KS → Prop := fun e ks => match e with
 | .n => Q ks
 | _ => False
end
section
variable {P : Program} {B : Base} [GB P B] {N : Nat} {ro : Option Nat} {hs : Nat -> Bool} {L : List AO} {Q : KS -> Prop} {ks : KS} {i : Nat}
theorem RE.id {X : KS -> Prop} (hk : KOk ks) (h : X ks) : RE B N (toS ks) X := fun _ G hR => ⟨ks, G, rfl, ⟨hR, hk⟩, h⟩
theorem RE.mono {S : St} {X Y : KS → Prop} (h : RE B N S X) (hxy : ∀ ks, X ks → Y ks) : RE B N S Y := fun a G hR => by
 obtain ⟨k, G1, h1, h2, h3⟩ := h a G hR
 exact ⟨k, G1, h1, h2, hxy k h3⟩
theorem RE.of {S : St} {ks1 : KS} {X : KS → Prop} (hB : ycW B) {ρ : Nat → Option (Nat × Nat)} {p : Nat × Nat → Prop} (hR : ReK S ks1 ρ p) (hk : KOk ks1) (h : X ks1) : RE B N S X := fun a G hr => by
 obtain ⟨G1, e1, e2⟩ := ypO hr hB hR
 exact ⟨ks1, G1, e1, ⟨e2, hk⟩, h⟩
theorem yqH {c : ybC} {Q : AEx → KS → Prop} (h : KOk ks → RE B N (toS ks) (WK P B N ro c Q)) : WK P B N ro c Q ks := by
 have _ := (inferInstance : GB P B)
 intro c' ht a G hR
 obtain ⟨k1, G1, e1, e2, e3⟩ := h hR.2 a G hR.1
 rw [<- e1]
 exact e3 c' ht a G1 e2
theorem KOk.put {d : Option Nat} {v : AV} (h : KOk ks) : KOk (ks.put d v) := by cases d <;> exact h
end
end Go.AV
end
noncomputable section
namespace Go.AV
open Go.RowKit Go.RG Go.Lib
def AllP : List Prop → Prop
 | [] => True
 | c :: r => c /\ AllP r
theorem yhP {a b : List Prop} (h : AllP (a ++ b)) : AllP a ∧ AllP b := by
 induction a with
 | nil => exact ⟨trivial, h⟩
 | cons x a ih => exact ⟨⟨h.1, (ih h.2).1⟩, (ih h.2).2⟩
structure DS where
 fr : List (Nat × AV)
 od : List (Nat × Option KB)
 nw : List (Nat × Option KB)
 H : Hp
 nx : Nat
def lkO : List (Nat × Option KB) → Nat → Option KB
 | [], _ => none
 | p :: r, t => match Nat.beq p.1 t with
   | true => p.2
   | false => lkO r t
def memO : List (Nat × Option KB) → Nat → Bool
 | [], _ => false
 | p :: r, t => Nat.beq p.1 t || memO r t
def DS.kb (ds : DS) (d c : Nat) : Option KB := match Nat.beq c 1 with
 | true => lkO ds.od d
 | false => match Nat.beq c 2 with
   | true => lkO ds.nw d
   | false => none
def DS.M (ds : DS) : Key → Option Blk
 | .h o => ds.H o
 | .l d c => (ds.kb d c).map KB.blk
def DS.cn (ds : DS) (d : Nat) : Nat := match memO ds.nw d with
 | true => 2
 | false => 1
def toD (ds : DS) : St := ⟨lkF ds.fr, ds.M, ds.cn, ds.nx⟩
def ynF : List (Nat × KB) → List (Nat × Option KB)
 | [] => []
 | p :: r => (p.1, some p.2) :: ynF r
def ofK (ks : KS) : DS := ⟨ks.fr, ynF ks.mem, [], ks.H, ks.nx⟩
def bOk (b : KB) : Prop := b.sz ≠ 0 /\ (b.q = true -> noLs b.cells = true)
def DOk (ds : DS) : Prop := ∀ d c b, ds.kb d c = some b -> bOk b
theorem yhv (p : Nat × Option KB) (r : List (Nat × Option KB)) (t : Nat) : lkO (p :: r) t = if p.1 = t then p.2 else lkO r t := by
 simp only [lkO]
 by_cases h : p.1 = t
 ·rw [if_pos h, nbeq.2 h]
 ·rw [if_neg h]
  cases hb : Nat.beq p.1 t with
  | true => exact absurd (nbeq.1 hb) h
  | false => rfl
theorem yj4 (m : List (Nat × KB)) (d : Nat) : lkO (ynF m) d = lkM m d := by
 induction m with
 | nil => rfl
 | cons p m ih => simp only [ynF]; rw [yhv, yfV, ih]
theorem yfE (ks : KS) : toD (ofK ks) = toS ks := by
 unfold toD toS
 simp only [St.mk.injEq]
 refine ⟨rfl, ?_, rfl, rfl⟩
 funext k
 cases k with
 | h o => rfl
 | l d c =>
   show ((ofK ks).kb d c).map KB.blk = ks.M (.l d c)
   unfold DS.kb KS.M
   cases hb : Nat.beq c 1 with
   | true => simp only [ofK, yj4, hb]
   | false =>
     cases hb2 : Nat.beq c 2 <;> simp only [ofK, hb, lkO, Option.map_none]
theorem yfa {ks : KS} (h : KOk ks) : DOk (ofK ks) := by
 intro d c b hb
 unfold DS.kb at hb
 split at hb
 ·simp only [ofK, yj4] at hb; exact h d b hb
 ·split at hb
  ·simp [ofK, lkO] at hb
  ·cases hb
def DS.put (ds : DS) (d : Option Nat) (v : AV) : DS := match d with
 | some d => ⟨(d, v) :: ds.fr, ds.od, ds.nw, ds.H, ds.nx⟩
 | none => ds
def DS.set (ds : DS) (q c : Nat) (b : Option KB) : DS := match Nat.beq c 1 with
 | true => ⟨ds.fr, (q, b) :: ds.od, ds.nw, ds.H, ds.nx⟩
 | false => ⟨ds.fr, ds.od, (q, b) :: ds.nw, ds.H, ds.nx⟩
theorem DS.put_M (ds : DS) (d : Option Nat) (v : AV) : (ds.put d v).M = ds.M := by
 cases d <;> (funext k; cases k <;> rfl)
theorem ybS (ds : DS) (d : Option Nat) (v : AV) : (toD ds).put d v = toD (ds.put d v) := by
 cases d with
 | none => rfl
 | some d =>
   unfold toD St.put
   simp only [St.mk.injEq]
   refine ⟨?_, (DS.put_M ds (some d) v).symm, rfl, rfl⟩
   funext t
   show upd (lkF ds.fr) d v t = lkF ((d, v) :: ds.fr) t
   rw [ycX]
   unfold upd
   by_cases h : t = d
   ·subst h; simp
   ·rw [if_neg h, if_neg (fun q => h q.symm)]
theorem DOk.put {ds : DS} {d : Option Nat} {v : AV} (h : DOk ds) : DOk (ds.put d v) := by cases d <;> exact h
theorem yky (ds : DS) (q c : Nat) (b : Option KB) (hc : c = 1 ∨ c = 2) (d c' : Nat) : (ds.set q c b).kb d c' = if d = q ∧ c' = c then b else ds.kb d c' := by
 rcases hc with rfl | rfl
 ·unfold DS.set DS.kb
  simp only [show Nat.beq 1 1 = true from rfl]
  cases hb : Nat.beq c' 1 with
  | true =>
    have := nbeq.1 hb; subst this
    simp only
    rw [yhv]
    by_cases h : d = q
    ·subst h; simp
    ·have h' : ¬ q = d := fun e => h e.symm
     simp [h, h']
  | false =>
    have : ¬ c' = 1 := fun e => by subst e; cases hb
    simp [this]
 ·unfold DS.set DS.kb
  simp only [show Nat.beq 2 1 = false from rfl]
  cases hb : Nat.beq c' 1 with
  | true =>
    have := nbeq.1 hb; subst this
    simp
  | false =>
    simp only
    cases hb2 : Nat.beq c' 2 with
    | true =>
      have := nbeq.1 hb2; subst this
      simp only
      rw [yhv]
      by_cases h : d = q
      ·subst h; simp
      ·have h' : ¬ q = d := fun e => h e.symm
       simp [h, h']
    | false =>
      have : ¬ c' = 2 := fun e => by subst e; cases hb2
      simp [this]
theorem ykK (ds : DS) (q c : Nat) (b : Option KB) : (ds.set q c b).fr = ds.fr := by unfold DS.set; split <;> rfl
theorem yiW (ds : DS) (q c : Nat) (b : Option KB) : (ds.set q c b).nx = ds.nx := by unfold DS.set; split <;> rfl
theorem yq1 (ds : DS) (q c : Nat) (b : Option KB) : (ds.set q c b).H = ds.H := by unfold DS.set; split <;> rfl
theorem DOk.set {ds : DS} {q c : Nat} {b : Option KB} (h : DOk ds) (hc : c = 1 ∨ c = 2) (hb : ∀ x, b = some x → bOk x) : DOk (ds.set q c b) := by
 intro d c' x hx
 rw [yky ds q c b hc] at hx
 split at hx
 ·exact hb x hx
 ·exact h d c' x hx
theorem ynu (ds : DS) (q c : Nat) (b : Option KB) (hc : c = 1 ∨ c = 2) : (ds.set q c b).M = updK ds.M (.l q c) (b.map KB.blk) := by
 funext k
 unfold updK
 cases k with
 | h o => rcases hc with rfl | rfl <;> simp [DS.M, DS.set]
 | l d c' =>
   show ((ds.set q c b).kb d c').map KB.blk = _
   rw [yky ds q c b hc]
   by_cases h : d = q /\ c' = c
   ·simp [h]
   ·simp only [h, if_false, Key.l.injEq]; rfl
theorem yoi {ds : DS} {q c : Nat} {b : Option KB} (h : c = 1 ∨ (c = 2 ∧ memO ds.nw q = true)) : (ds.set q c b).cn = ds.cn := by
 funext d
 rcases h with rfl | ⟨rfl, hm⟩
 ·rfl
 ·unfold DS.cn
  show (match (Nat.beq q d || memO ds.nw d) with | true => 2 | false => 1) = _
  by_cases hd : q = d
  ·subst hd; rw [nbeq.2 rfl, hm]; rfl
  ·have : Nat.beq q d = false := by
    cases hb : Nat.beq q d with
    | true => exact absurd (nbeq.1 hb) hd
    | false => rfl
   rw [this]; rfl
theorem ypJ {ds : DS} {q : Nat} {b : Option KB} (h : memO ds.nw q = false) : (ds.set q 2 b).cn = upd ds.cn q (ds.cn q + 1) := by
 funext d
 unfold upd
 show (match (Nat.beq q d || memO ds.nw d) with | true => 2 | false => 1) = _
 by_cases hd : d = q
 ·subst hd; simp only [if_true, DS.cn, h, nbeq.2, Bool.true_or]
 ·have : Nat.beq q d = false := by
   cases hb : Nat.beq q d with
   | true => exact absurd (nbeq.1 hb).symm hd
   | false => rfl
  rw [this, if_neg hd]; rfl
abbrev KR (α : Type) := Option (List Prop × α)
def kok {α : Type} (o : Option α) : KR α := match o with
 | some v => some ([], v)
 | none => none
def kbin (op : BinOp) (k : IntKind) (a b : Int) : KR AV := match op with
 | .quo => some ([b ≠ 0], .it k (k.wrap (a.tdiv b)))
 | .rem => some ([b ≠ 0], .it k (a.tmod b))
 | op => kok (binI op k a b)
def kshi (op : BinOp) (k : IntKind) (a b : Int) : KR AV := match op with
 | .shl => some ([¬ b < 0], .it k (k.wrap (a * 2 ^ (min b.toNat k.bits))))
 | .shr => some ([¬ b < 0], .it k (a.fdiv (2 ^ (min b.toNat k.bits))))
 | _ => none
def kstr (op : BinOp) (a b : List UInt8) : KR AV := match op with
 | .add => some ([a.length + b.length <= 9223372036854775807], .st (a ++ b))
 | op => kok (binS op a b)
def ngB (g b : Bool) : Bool := match g with
 | false => b
 | true => !b
theorem ypG (g b : Bool) : ngB g b = (g != b) := by cases g <;> cases b <;> rfl
def keq (live : Key → Bool) (g : Bool) (kind : Nat) (x y : AV) : KR AV := match x, y with
 | .sl true _ _, .sl true _ _ => if kind = 4 then some ([], .bl (!g)) else none
 | .sl false n _, .sl true _ _ => if kind = 4 then some ([0 < n], .bl g) else none
 | .sl true _ _, .sl false n _ => if kind = 4 then some ([0 < n], .bl g) else none
 | x, y => kok ((eqP live kind x y).map fun b => .bl (ngB g b))
def ksls (l : List UInt8) (lo hi : Option Int) : KR AV := match lo, hi with
 | some a, some b => some ([0 <= a /\ a <= b /\ b <= l.length], .st ((l.drop a.toNat).take (b.toNat - a.toNat)))
 | _, _ => none
def kpv (live : Key → Bool) (fr : List (Nat × AV)) (u : AOp) : KR AV := match u with
 | .bin op x y => match ev (lkF fr) x, ev (lkF fr) y with
   | .it k a, .it k' b => if op = .shl ∨ op = .shr then kshi op k a b else if k = k' then kbin op k a b else none
   | .st a, .st b => kstr op a b
   | _, _ => none
 | .eq g kind x y => keq live g kind (ev (lkF fr) x) (ev (lkF fr) y)
 | .eqs g kinds x y => match ev (lkF fr) x, ev (lkF fr) y with
   | .agg a, .agg b => kok ((eqL kinds a b).map fun r => .bl (ngB g r))
   | _, _ => none
 | .sls x lo hi => match ev (lkF fr) x with
   | .st l => ksls l (bnd (ev (lkF fr)) 0 lo) (bnd (ev (lkF fr)) l.length hi)
   | _ => none
 | .idxs x i => match ev (lkF fr) x, ev (lkF fr) i with
   | .st l, .it _ i => some ([0 <= i /\ i < l.length], .it .u8 ((l[i.toNat]?.getD 0).toNat))
   | _, _ => none
 | .iad sz x i => match ev (lkF fr) x, ev (lkF fr) i with
   | .gs k n, .it _ i => match live k with
     | true => some ([0 <= i /\ i < n], .pt k (i.toNat * sz))
     | false => none
   | .sl _ n xs, .it _ i => some ([0 <= i /\ i < n], .ep xs (i.toNat * sz))
   | _, _ => none
 | .iada len sz x i => match ev (lkF fr) x, ev (lkF fr) i with
   | .pt k o, .it _ i => match live k with
     | true => some ([0 <= i /\ i < len], .pt k (o + i.toNat * sz))
     | false => none
   | .ep xs o, .it _ i => some ([0 <= i /\ i < len], .ep xs (o + i.toNat * sz))
   | _, _ => none
 | .idxa g len sz x i => match ev (lkF fr) x, ev (lkF fr) i with
   | .agg cs, .it _ q => match !g && Nat.beq sz 1 && Nat.ble len cs.length with
     | true => some ([0 <= q /\ q < len], (cs[q.toNat]?).getD .un)
     | false => kok (pval live (ev (lkF fr)) (.idxa g len sz x i))
   | _, _ => none
 | .sll .. => none
 | u => kok (pval live (ev (lkF fr)) u)
theorem ygR {α : Type} {o : Option α} {C : List Prop} {v : α} (h : kok o = some (C, v)) : o = some v ∧ C = [] := by
 cases o with
 | none => cases h
 | some u => simp only [kok, Option.some.injEq, Prod.mk.injEq] at h; exact ⟨by rw [h.2], h.1.symm⟩
theorem yr5 {live : Key → Bool} {fr : List (Nat × AV)} {u : AOp} {C : List Prop} {v : AV} (h : kpv live fr u = some (C, v)) (hC : AllP C) : pval live (ev (lkF fr)) u = some v := by
 unfold kpv at h
 split at h
 ·rename_i op x y
  simp only [pval]
  split at h
  ·rename_i k a k' b e1 e2
   rw [e1, e2]; simp only
   split at h
   ·rename_i hop
    rw [if_pos hop]
    unfold kshi at h
    split at h <;> simp only [Option.some.injEq, Prod.mk.injEq, reduceCtorEq] at h
    ·obtain ⟨rfl, rfl⟩ := h; simp only [shI]; rw [if_neg hC.1]
    ·obtain ⟨rfl, rfl⟩ := h; simp only [shI]; rw [if_neg hC.1]
   ·rename_i hop
    rw [if_neg hop]
    split at h
    ·rename_i hk
     rw [if_pos hk]
     unfold kbin at h
     split at h
     ·simp only [Option.some.injEq, Prod.mk.injEq] at h; obtain ⟨rfl, rfl⟩ := h; simp only [binI]; rw [if_neg hC.1]
     ·simp only [Option.some.injEq, Prod.mk.injEq] at h; obtain ⟨rfl, rfl⟩ := h; simp only [binI]; rw [if_neg hC.1]
     ·exact (ygR h).1
    ·cases h
  ·rename_i a b e1 e2
   rw [e1, e2]; simp only
   unfold kstr at h
   split at h
   ·simp only [Option.some.injEq, Prod.mk.injEq] at h; obtain ⟨rfl, rfl⟩ := h; simp only [binS]; rw [if_pos hC.1]
   ·exact (ygR h).1
  ·cases h
 ·rename_i g kind x y
  simp only [pval]
  unfold keq at h
  split at h
  ·rename_i e1 e2
   rw [e1, e2]
   split at h
   ·rename_i hk; subst hk; simp only [Option.some.injEq, Prod.mk.injEq] at h; rw [<- h.2]; cases g <;> rfl
   ·cases h
  ·rename_i e1 e2
   rw [e1, e2]
   split at h
   ·rename_i hk; subst hk; simp only [Option.some.injEq, Prod.mk.injEq] at h; obtain ⟨rfl, rfl⟩ := h; simp only [eqP]; rw [if_pos hC.1]; cases g <;> rfl
   ·cases h
  ·rename_i e1 e2
   rw [e1, e2]
   split at h
   ·rename_i hk; subst hk; simp only [Option.some.injEq, Prod.mk.injEq] at h; obtain ⟨rfl, rfl⟩ := h; simp only [eqP]; rw [if_pos hC.1]; cases g <;> rfl
   ·cases h
  ·have := (ygR h).1
   rw [<- this]
   congr 1
   funext b; rw [ypG]
 ·rename_i g kinds x y
  simp only [pval]
  split at h
  ·rename_i a b e1 e2
   rw [e1, e2]; simp only
   have := (ygR h).1
   rw [<- this]
   congr 1
   funext b; rw [ypG]
  ·cases h
 ·rename_i x lo hi
  simp only [pval]
  split at h
  ·rename_i l e1
   rw [e1]; simp only
   unfold ksls at h
   split at h
   ·rename_i a b e2 e3
    rw [e2, e3]; simp only
    simp only [Option.some.injEq, Prod.mk.injEq] at h; obtain ⟨rfl, rfl⟩ := h
    rw [if_pos hC.1]
   ·cases h
  ·cases h
 ·rename_i x j
  simp only [pval]
  split at h
  ·rename_i l k n e1 e2
   rw [e1, e2]; simp only
   simp only [Option.some.injEq, Prod.mk.injEq] at h; obtain ⟨rfl, rfl⟩ := h
   rw [if_pos hC.1]
  ·cases h
 ·rename_i sz x j
  simp only [pval]
  split at h
  ·rename_i k n k' m e1 e2
   rw [e1, e2]; simp only
   split at h
   ·rename_i hl
    simp only [Option.some.injEq, Prod.mk.injEq] at h; obtain ⟨rfl, rfl⟩ := h
    rw [if_pos ⟨hl, hC.1⟩]
   ·cases h
  ·rename_i z n xs k' m e1 e2
   rw [e1, e2]; simp only
   simp only [Option.some.injEq, Prod.mk.injEq] at h; obtain ⟨rfl, rfl⟩ := h
   rw [if_pos hC.1]
  ·cases h
 ·rename_i len sz x j
  simp only [pval]
  split at h
  ·rename_i k o k' m e1 e2
   rw [e1, e2]; simp only
   split at h
   ·rename_i hl
    simp only [Option.some.injEq, Prod.mk.injEq] at h; obtain ⟨rfl, rfl⟩ := h
    rw [if_pos ⟨hl, hC.1⟩]
   ·cases h
  ·rename_i xs o k' m e1 e2
   rw [e1, e2]; simp only
   simp only [Option.some.injEq, Prod.mk.injEq] at h; obtain ⟨rfl, rfl⟩ := h
   rw [if_pos hC.1]
  ·cases h
 ·rename_i g len sz x j
  split at h
  ·rename_i cs k q e1 e2
   split at h
   ·rename_i hb
    simp only [Bool.and_eq_true, Bool.not_eq_true'] at hb
    obtain ⟨⟨hg, hz⟩, hl⟩ := hb
    simp only [Option.some.injEq, Prod.mk.injEq] at h
    obtain ⟨rfl, rfl⟩ := h
    have hz' := nbeq.1 hz
    subst hz'
    subst hg
    have hC1 : 0 <= q /\ q < len := hC.1
    have hlt : q.toNat < cs.length := by have := Nat.le_of_ble_eq_true hl; omega
    simp only [pval, e1, e2]
    rw [if_pos hC1]
    simp only [Nat.mul_one, Bool.false_eq_true, if_false]
    rw [List.getElem?_eq_getElem hlt]; rfl
   ·exact (ygR h).1
  ·cases h
 ·cases h
 ·exact (ygR h).1
structure Eff (u : AOp) (d : Option Nat) (ds : DS) (e : REff) (ds' : DS) : Prop where
 eff : effA (fun _ => false) u d (toD ds) = some e
 app : e.app d (toD ds) = toD ds'
 ok : DOk ds'
def ysi : AOp → Bool
 | .box .. | .bsl .. | .ld .. | .sto .. | .app .. | .apps .. | .sll .. | .mks .. | .b2s .. | .call .. | .calv .. | .s2b .. => true
 | _ => false
def kld (g : Bool) (sz : Nat) (cs : List AV) (off : Nat) : Option AV := match g with
 | true => if off + sz <= cs.length then some (.agg ((cs.drop off).take sz)) else none
 | false => cs[off]?
def kx (u : AOp) (d : Option Nat) (ds : DS) : KR (REff × DS) := match u with
 | .box e sz x => match memO ds.nw (site d) with
   | false => if (ev (lkF ds.fr) x).cells.length = sz /\ (ev (lkF ds.fr) x).cells.all AV.one = true /\ 0 < sz then some ([], ⟨.pt (.l (site d) 2) 0, [((site d, 2), some ⟨e, sz, (ev (lkF ds.fr) x).cells⟩)], [site d], none⟩, (ds.set (site d) 2 (some ⟨e, sz, (ev (lkF ds.fr) x).cells, false⟩)).put d (.pt (.l (site d) 2) 0)) else none
   | true => none
 | .bsl e sz len z parts => match memO ds.nw (site d), yfk (ybA z len) (parts.map fun p => (p.1, p.2.1, ev (lkF ds.fr) p.2.2)) with
   | false, some cs => if z.length = sz /\ 0 < sz /\ len * sz <= 16777216 then some ([], ⟨.gs (.l (site d) 2) len, [((site d, 2), some ⟨e, sz, cs.map weak⟩)], [site d], none⟩, (ds.set (site d) 2 (some ⟨e, sz, cs.map weak, false⟩)).put d (.gs (.l (site d) 2) len)) else none
   | _, _ => none
 | .ld g sz x => match ev (lkF ds.fr) x with
   | .pt (.l s c) off => match ds.kb s c with
     | some b => match kld g sz b.cells off with
       | some v => some ([], eff1 v, ds.put d v)
       | none => none
     | none => none
   | .ep xs off => match kld g sz xs off with
     | some v => some ([], eff1 v, ds.put d v)
     | none => none
   | _ => none
 | .sto sz x y => match ev (lkF ds.fr) x with
   | .pt (.l s c) off => match ds.kb s c with
     | some b => if (ev (lkF ds.fr) y).cells.length = sz /\ (ev (lkF ds.fr) y).cells.all AV.one = true /\ off + sz <= b.cells.length then some ([], ⟨.un, [((s, c), some ⟨b.e, b.sz, b.cells.take off ++ (ev (lkF ds.fr) y).cells ++ b.cells.drop (off + sz)⟩)], [], none⟩, (ds.set s c (some ⟨b.e, b.sz, b.cells.take off ++ (ev (lkF ds.fr) y).cells ++ b.cells.drop (off + sz), false⟩)).put d .un) else none
     | none => none
   | _ => none
 | .app .. | .apps .. | .sll .. | .b2s .. | .s2b .. | .mks .. | .call .. | .calv .. => none
 | u => match kpv (yaz (toD ds)) ds.fr u with
   | some (C, v) => some (C, eff1 v, ds.put d v)
   | none => none
theorem yb6 (ds : DS) : (toD ds).fr = lkF ds.fr := rfl
theorem kb_c {ds : DS} {s c : Nat} {b : KB} (h : ds.kb s c = some b) : c = 1 ∨ (c = 2 ∧ memO ds.nw s = true) := by
 unfold DS.kb at h
 split at h
 ·rename_i hc; exact .inl (nbeq.1 hc)
 ·split at h
  ·rename_i hc
   refine .inr ⟨nbeq.1 hc, ?_⟩
   have : ∀ (l : List (Nat × Option KB)), lkO l s = some b → memO l s = true := by
    intro l
    induction l with
    | nil => intro h; cases h
    | cons p l ih =>
      intro h
      rw [yhv] at h
      simp only [memO]
      split at h
      ·rename_i e; rw [nbeq.2 e]; rfl
      ·rw [ih h, Bool.or_true]
   exact this _ h
  ·cases h
theorem yec (v : AV) (d : Option Nat) (ds : DS) : (eff1 v).app d (toD ds) = toD (ds.put d v) := by
 unfold REff.app
 rw [ybG, ybS]; rfl
theorem ynS {ds : DS} {s c : Nat} {b : KB} {v : AV} {d : Option Nat} (hc : c = 1 ∨ (c = 2 ∧ memO ds.nw s = true)) : REff.app ⟨v, [((s, c), some b.blk)], [], none⟩ d (toD ds) = toD ((ds.set s c (some b)).put d v) := by
 rw [<- ybS]
 unfold REff.app
 congr 1
 have hc' : c = 1 ∨ c = 2 := hc.imp id (·.1)
 unfold REff.mst toD
 simp only [St.mk.injEq]
 refine ⟨?_, ?_, ?_, ?_⟩
 ·unfold DS.set; split <;> rfl
 ·rw [ynu ds s c _ hc']; funext k; cases k <;> rfl
 ·rw [yoi hc]; exact (yeN _).symm
 ·unfold DS.set; split <;> rfl
theorem yjc {ds : DS} {s : Nat} {b : KB} {v : AV} {d : Option Nat} (h : memO ds.nw s = false) : REff.app ⟨v, [((s, 2), some b.blk)], [s], none⟩ d (toD ds) = toD ((ds.set s 2 (some b)).put d v) := by
 rw [<- ybS]
 unfold REff.app
 congr 1
 unfold REff.mst toD
 simp only [St.mk.injEq]
 refine ⟨rfl, ?_, ?_, rfl⟩
 ·rw [ynu ds s 2 _ (.inr rfl)]; funext k; cases k <;> rfl
 ·rw [ypJ h]; exact ymR _ _
theorem ypA {ds : DS} {s q c : Nat} {b : KB} {v : AV} {d : Option Nat} (h : memO ds.nw s = false) (hc : c = 1 ∨ (c = 2 ∧ memO ds.nw q = true)) : REff.app ⟨v, [((q, c), none), ((s, 2), some b.blk)], [s], none⟩ d (toD ds) = toD (((ds.set q c none).set s 2 (some b)).put d v) := by
 rw [<- ybS]
 unfold REff.app
 congr 1
 have hc' : c = 1 ∨ c = 2 := hc.imp id (·.1)
 have hne : q = s → c = 1 := by
  rintro rfl
  rcases hc with e | ⟨_, e⟩
  ·exact e
  ·rw [h] at e; cases e
 have hm : memO (ds.set q c none).nw s = false := by
  rcases hc with rfl | ⟨rfl, e⟩
  ·exact h
  ·show (Nat.beq q s || memO ds.nw s) = false
   rw [h, Bool.or_false]
   cases hb : Nat.beq q s with
   | true => have := hne (nbeq.1 hb); cases this
   | false => rfl
 unfold REff.mst toD
 simp only [St.mk.injEq]
 refine ⟨?_, ?_, ?_, ?_⟩
 ·rw [ykK, ykK]
 ·rw [ynu _ s 2 _ (.inr rfl), ynu ds q c _ hc']; funext k; cases k <;> rfl
 ·rw [ypJ hm, yoi hc]; exact ymR _ _
 ·rw [yiW, yiW]
theorem yst {ds : DS} {s : Nat} (h : memO ds.nw s = false) : (toD ds).cnt s = 1 := by show ds.cn s = 1; unfold DS.cn; rw [h]
theorem ygh {ds : DS} {s : Nat} {ks : List (Nat × Nat)} {b : Blk} {v : Key → AV} (h : memO ds.nw s = false) : ycC (fun _ => false) s (toD ds) ks b v = some ⟨v (.l s 2), ks.map (fun k => (k, none)) ++ [((s, 2), some b)], [s], none⟩ := by
 unfold ycC
 rw [if_pos rfl, yst h]
theorem yl3 {u : AOp} {d : Option Nat} {ds ds' : DS} {e : REff} {C : List Prop} (h : kx u d ds = some (C, e, ds')) (hC : AllP C) (hk : DOk ds) : Eff u d ds e ds' := by
 cases u
 case box ee sz x =>
  simp only [kx] at h
  split at h
  ·rename_i hm
   split at h
   ·rename_i hc
    simp only [Option.some.injEq, Prod.mk.injEq] at h
    obtain ⟨_, rfl, rfl⟩ := h
    refine ⟨?_, yjc (b := ⟨ee, sz, (ev (lkF ds.fr) x).cells, false⟩) hm, DOk.put (hk.set (.inr rfl) fun x hx => by cases hx; exact ⟨by have := hc.2.2; show sz ≠ 0; omega, fun q => by cases q⟩)⟩
    simp only [effA]
    rw [yb6, if_pos hc, ygh hm]; rfl
   ·cases h
  ·cases h
 case bsl ee sz len z parts =>
  simp only [kx] at h
  split at h
  ·rename_i cs hm hf
   split at h
   ·rename_i hc
    simp only [Option.some.injEq, Prod.mk.injEq] at h
    obtain ⟨_, rfl, rfl⟩ := h
    refine ⟨?_, yjc (b := ⟨ee, sz, cs.map weak, false⟩) hm, DOk.put (hk.set (.inr rfl) fun x hx => by cases hx; exact ⟨by have := hc.2.1; show sz ≠ 0; omega, fun q => by cases q⟩)⟩
    simp only [effA]
    rw [yb6, if_pos hc, hf, Option.bind_some, ygh hm]; rfl
   ·cases h
  ·cases h
 case ld g sz x =>
  simp only [kx] at h
  have hld : ∀ (cs : List AV) (off : Nat) (v : AV), kld g sz cs off = some v → ylA g sz (some (cs, off)) = some (eff1 v) := by
   intro cs off v hv
   unfold ylA
   cases g with
   | true =>
     simp only [kld] at hv
     split at hv
     ·rename_i hle; cases hv; simp [hle]
     ·cases hv
   | false => simp only [kld] at hv; simp [hv, effP]
  split at h
  ·rename_i s c off e1
   split at h
   ·rename_i b hb
    split at h
    ·rename_i v hv
     simp only [Option.some.injEq, Prod.mk.injEq] at h
     obtain ⟨_, rfl, rfl⟩ := h
     refine ⟨?_, yec v d ds, DOk.put hk⟩
     simp only [effA]
     have : tgt (toD ds) (ev (toD ds).fr x) = some (b.cells, off) := by
      rw [yb6, e1]
      show (((ds.kb s c).map KB.blk).bind _) = _
      rw [hb]
      have hz := (hk s c b hb).1
      show (if b.sz = 0 then none else some (b.cells, off)) = _
      rw [if_neg hz]
     rw [this]; exact hld _ _ _ hv
    ·cases h
   ·cases h
  ·rename_i xs off e1
   split at h
   ·rename_i v hv
    simp only [Option.some.injEq, Prod.mk.injEq] at h
    obtain ⟨_, rfl, rfl⟩ := h
    refine ⟨?_, yec v d ds, DOk.put hk⟩
    simp only [effA]
    rw [yb6, e1]; exact hld _ _ _ hv
   ·cases h
  ·cases h
 case sto sz x y =>
  simp only [kx] at h
  split at h
  ·rename_i s c off e1
   split at h
   ·rename_i b hb
    split at h
    ·rename_i hc
     simp only [Option.some.injEq, Prod.mk.injEq] at h
     obtain ⟨_, rfl, rfl⟩ := h
     have hcc := kb_c hb
     refine ⟨?_, ynS (b := ⟨b.e, b.sz, b.cells.take off ++ (ev (lkF ds.fr) y).cells ++ b.cells.drop (off + sz), false⟩) hcc, DOk.put (hk.set (hcc.imp id (·.1)) fun x hx => by cases hx; exact ⟨(hk s c b hb).1, fun q => by cases q⟩)⟩
     simp only [effA]
     rw [yb6, e1]
     show (((ds.kb s c).map KB.blk).bind _) = _
     rw [hb]
     simp only [Option.map_some, Option.bind_some]
     rw [if_pos ⟨(hk s c b hb).1, hc.1, hc.2.1, hc.2.2, rfl⟩]; rfl
    ·cases h
   ·cases h
  ·cases h
 all_goals first | (simp only [kx, reduceCtorEq] at h; done) | skip
 all_goals
  simp only [kx] at h
  split at h
  ·rename_i C' v hp
   simp only [Option.some.injEq, Prod.mk.injEq] at h
   obtain ⟨rfl, rfl, rfl⟩ := h
   have hpv := yr5 hp hC
   refine ⟨?_, yec v d ds, DOk.put hk⟩
   show effP (pval (yaz (toD ds)) (ev (lkF ds.fr)) _) = _
   rw [hpv]; rfl
  ·cases h
end Go.AV
end
noncomputable section
namespace Go.AV
open Go.RowKit Go.RG Go.Lib
def isMC : AOp → Bool
 | .call .. | .calv .. => true
 | _ => false
mutual
def pubA (s : Nat) (b : KB) : AV → AV
 | .agg cs => .agg (yf0 s b cs)
 | .tup cs => .tup (yf0 s b cs)
 | .fn f a c => .fn f (yf0 s b a) (yf0 s b c)
 | .gs (.l d c) n => match Nat.beq d s && Nat.beq c 1 with
   | true => .sl false n b.cells
   | false => .gs (.l d c) n
 | u => u
def yf0 (s : Nat) (b : KB) : List AV → List AV
 | [] => []
 | u :: r => pubA s b u :: yf0 s b r
end
mutual
def pubP (s : Nat) (b : KB) : AV → List Prop
 | .agg cs => ykE s b cs
 | .tup cs => ykE s b cs
 | .fn _ a c => ykE s b a ++ ykE s b c
 | .gs (.l d c) n => match Nat.beq d s && Nat.beq c 1 with
   | true => [b.cells.length = n * b.sz]
   | false => []
 | _ => []
def ykE (s : Nat) (b : KB) : List AV → List Prop
 | [] => []
 | u :: r => pubP s b u ++ ykE s b r
end
def pubB (s : Nat) (b : KB) (live : Nat → Bool) (x : KB) : KB := match x.q with
 | true => x
 | false => ⟨x.e, x.sz, (yf0 s b x.cells).map (scrub live), noLs ((yf0 s b x.cells).map (scrub live))⟩
def pubF (s : Nat) (b : KB) (live : Nat → Bool) : List (Nat × AV) → List (Nat × AV)
 | [] => []
 | p :: r => (p.1, scrub live (pubA s b p.2)) :: pubF s b live r
def pubM (s : Nat) (b : KB) (live : Nat → Bool) : List (Nat × KB) → List (Nat × KB)
 | [] => []
 | p :: r => match live p.1 with
   | true => (p.1, pubB s b live p.2) :: pubM s b live r
   | false => pubM s b live r
def yr3 (s : Nat) (b : KB) : List (Nat × AV) → List Prop
 | [] => []
 | p :: r => pubP s b p.2 ++ yr3 s b r
def ysd (s : Nat) (b : KB) : List (Nat × KB) → List Prop
 | [] => []
 | p :: r => (match p.2.q with | true => [] | false => ykE s b p.2.cells) ++ ysd s b r
def KS.pub (ks : KS) (s : Nat) : KR KS := match lkM ks.mem s with
 | some b => match b.q || noLs b.cells with
   | true => let live := fun x => !Nat.beq x s && hasM ks.mem x
     some (yr3 s b ks.fr ++ ysd s b ks.mem, ⟨pubF s b live ks.fr, pubM s b live ks.mem, ks.H, ks.nx⟩)
   | false => none
 | none => none
mutual
theorem RV.pubA {ρ : Nat → Option (Nat × Nat)} {S : St} {p : Nat × Nat → Prop} {live : Nat → Bool} (hρ : ∀ d, live d = true → ρ d = some (d, 1)) {s : Nat} {b : KB} (hp : p (s, 1)) (hm : S.M (.l s 1) = some b.blk) (hz : b.sz ≠ 0) (hq : noLs b.cells = true) : ∀ (u : AV), AllP (pubP s b u) → okV live (AV.pubA s b u) = true → RV ρ S p (AV.pubA s b u) u
 | .agg cs, h, k => by
   simp only [AV.pubA]
   simp only [AV.pubA, okV] at k
   exact .agg _ _ (yey s b cs) (fun j u v hu hv => RVs.pubA hρ hp hm hz hq cs h k j u v hu hv)
 | .tup cs, h, k => by
   simp only [AV.pubA]
   simp only [AV.pubA, okV] at k
   exact .tup _ _ (yey s b cs) (fun j u v hu hv => RVs.pubA hρ hp hm hz hq cs h k j u v hu hv)
 | .fn f a c, h, k => by
   simp only [AV.pubA]
   simp only [AV.pubA, okV, Bool.and_eq_true] at k
   simp only [pubP] at h
   obtain ⟨h1, h2⟩ := yhP h
   exact .fn f _ _ _ _ (yey s b a) (fun j u v hu hv => RVs.pubA hρ hp hm hz hq a h1 k.1 j u v hu hv) (yey s b c) (fun j u v hu hv => RVs.pubA hρ hp hm hz hq c h2 k.2 j u v hu hv)
 | .gs (.l d c) n, h, k => by
   simp only [AV.pubA] at k ⊢
   simp only [pubP] at h
   cases hb : Nat.beq d s && Nat.beq c 1 with
   | true =>
     rw [hb] at h
     simp only
     simp only [Bool.and_eq_true] at hb
     have e1 := nbeq.1 hb.1; have e2 := nbeq.1 hb.2
     subst e1; subst e2
     exact .pub (d, 1) n b.blk hp hm h.1 hz hq
   | false =>
     rw [hb] at k
     simp only at k ⊢
     exact RV.same hρ _ k
 | .gs (.h o) n, _, _ => .no _ rfl
 | .pt (.l d c) n, _, k => RV.same hρ _ k
 | .pt (.h o) n, _, _ => .no _ rfl
 | .bl b, _, _ => .no _ rfl
 | .it k n, _, _ => .no _ rfl
 | .st s, _, _ => .no _ rfl
 | .sl z n xs, _, _ => .no _ rfl
 | .nptr, _, _ => .no _ rfl
 | .ep xs off, _, _ => .no _ rfl
 | .nfn, _, _ => .no _ rfl
 | .un, _, _ => .no _ rfl
 | .yld o, _, _ => .no _ rfl
 | .rcd a b c d, _, _ => .no _ rfl
theorem yey (s : Nat) (b : KB) : ∀ (l : List AV), (yf0 s b l).length = l.length
 | [] => rfl
 | u :: r => by simp only [yf0, List.length_cons, yey s b r]
theorem RVs.pubA {ρ : Nat → Option (Nat × Nat)} {S : St} {p : Nat × Nat → Prop} {live : Nat → Bool} (hρ : ∀ d, live d = true → ρ d = some (d, 1)) {s : Nat} {b : KB} (hp : p (s, 1)) (hm : S.M (.l s 1) = some b.blk) (hz : b.sz ≠ 0) (hq : noLs b.cells = true) : ∀ (l : List AV), AllP (ykE s b l) → okVs live (yf0 s b l) = true → ∀ (j : Nat) (u v : AV), (yf0 s b l)[j]? = some u → l[j]? = some v → RV ρ S p u v
 | [], _, _, j, u, v, hu, hv => by simp at hv
 | x :: l, h, k, j, u, v, hu, hv => by
   simp only [yf0, okVs, Bool.and_eq_true] at k
   simp only [ykE] at h
   obtain ⟨h1, h2⟩ := yhP h
   cases j with
   | zero => simp [yf0] at hu hv; subst hu; subst hv; exact RV.pubA hρ hp hm hz hq x h1 k.1
   | succ j => exact RVs.pubA hρ hp hm hz hq l h2 k.2 j u v (by simpa [yf0] using hu) (by simpa using hv)
end
section
variable {P : Program} {B : Base} [GB P B] {N : Nat} {ro : Option Nat} {hs : Nat -> Bool} {ks : KS}
theorem KOk.keep {ts ds : List Nat} (hk : KOk ks) : KOk (ks.keep ts ds) := by
 intro x b' hl
 have hl' : lkM (yl4 (fun s => memN ds s && hasM ks.mem s) ks.mem ds) x = some b' := hl
 rw [ypk] at hl'
 split at hl'
 ·obtain ⟨b0, h1, h2⟩ := Option.map_eq_some_iff.1 hl'
  subst h2
  exact ⟨by rw [yn1]; exact (hk x b0 h1).1, ypn b0 (hk x b0 h1).2⟩
 ·cases hl'
end
def lkN : List (Nat × Nat) → Nat → Option Nat
 | [], _ => none
 | p :: r, t => match Nat.beq p.1 t with
   | true => some p.2
   | false => lkN r t
def lvD (ds : DS) (ms : List (Nat × Nat)) (d c : Nat) : Bool := match lkN ms d with
 | some c' => Nat.beq c c' && (ds.kb d c).isSome
 | none => false
mutual
def okD (lv : Nat → Nat → Bool) : AV → Bool
 | .agg cs => okDs lv cs
 | .tup vs => okDs lv vs
 | .fn _ a c => okDs lv a && okDs lv c
 | .gs (.l d c) _ => lv d c
 | .pt (.l d c) _ => lv d c
 | _ => true
def okDs (lv : Nat → Nat → Bool) : List AV → Bool
 | [] => true
 | u :: r => okD lv u && okDs lv r
end
mutual
def renA : AV → AV
 | .agg cs => .agg (ynT cs)
 | .tup vs => .tup (ynT vs)
 | .fn f a c => .fn f (ynT a) (ynT c)
 | .gs (.l d _) n => .gs (.l d 1) n
 | .pt (.l d _) n => .pt (.l d 1) n
 | u => u
def ynT : List AV → List AV
 | [] => []
 | u :: r => renA u :: ynT r
end
def ynv (lv : Nat → Nat → Bool) (u : AV) : AV := match okD lv u with
 | true => renA u
 | false => .un
def yqT (lv : Nat → Nat → Bool) (b : KB) : KB := match b.q with
 | true => b
 | false => ⟨b.e, b.sz, b.cells.map (ynv lv), noLs (b.cells.map (ynv lv))⟩
def yp7 (lv : Nat → Nat → Bool) (fr : List (Nat × AV)) : List Nat → List (Nat × AV)
 | [] => []
 | t :: r => (t, ynv lv (lkF fr t)) :: yp7 lv fr r
def yob (ds : DS) (lv : Nat → Nat → Bool) : List (Nat × Nat) → List (Nat × KB)
 | [] => []
 | p :: r => match lv p.1 p.2, ds.kb p.1 p.2 with
   | true, some b => (p.1, yqT lv b) :: yob ds lv r
   | _, _ => yob ds lv r
def DS.keep (ds : DS) (ts : List Nat) (ms : List (Nat × Nat)) : KS := ⟨yp7 (lvD ds ms) ds.fr ts, yob ds (lvD ds ms) ms, ds.H, ds.nx⟩
section
variable {P : Program} {B : Base} [GB P B] {N : Nat} {ro : Option Nat} {hs : Nat -> Bool} {ds : DS}
end
section
variable (P : Program) (B : Base) (N : Nat) (ro : Option Nat)
def RelD (ds : DS) (a : Act) (G : Gh) : Prop := Rel B N (toD ds) a G /\ DOk ds
def WD (L : List AO) (i : Nat) (Q : KS -> Prop) (ds : DS) : Prop := ∀ ops pre suf, ops.toList = pre ++ suf -> yeU P N ops suf = some (L.drop i) -> ∀ a G, RelD B N ds a G -> wpOpsIn (FR ro) 0 P ops (yla B N (nQ Q)) (List.range' pre.length suf.length) a G.w
end
section
variable {P : Program} {B : Base} [GB P B] {N : Nat} {ro : Option Nat} {hs : Nat -> Bool} {L : List AO} {Q : KS -> Prop} {ds : DS} {i : Nat}
theorem yok {o : AO} (e : L[i]? = some o) : L.drop i = o :: L.drop (i + 1) := by
 have hi := (List.getElem?_eq_some_iff.1 e).1
 rw [List.drop_eq_getElem_cons hi]
 congr 1
 exact (List.getElem?_eq_some_iff.1 e).2
theorem yt6 (h : DOk ds → RE B N (toD ds) (fun ks => WD P B N ro L i Q (ofK ks))) : WD P B N ro L i Q ds := by
 have _ := (inferInstance : GB P B)
 intro ops pre suf he ht a G hR
 obtain ⟨k1, G1, e1, e2, e3⟩ := h hR.2 a G hR.1
 rw [<- e1]
 exact e3 ops pre suf he ht a G1 ⟨by rw [yfE]; exact e2.1, yfa e2.2⟩
def gok (g : Option (Nat × Bool)) (fr : List (Nat × AV)) : Bool := match g with
 | none => true
 | some (d, b) => match lkF fr d with
   | .bl c => c == b
   | _ => false
def gno (g : Option (Nat × Bool)) (fr : List (Nat × AV)) : Bool := match g with
 | none => false
 | some (d, b) => match lkF fr d with
   | .bl c => c == !b
   | .tup [] => true
   | _ => false
theorem yp5 {o : AO} (e : L[i]? = some o) (hg : gok o.guard ds.fr = true) (h : DOk ds → aop hs (ybo P) o.op o.dst (toD ds) (fun v S' => ∃ ds', S'.put o.dst v = toD ds' ∧ DOk ds' ∧ WD P B N ro L (i + 1) Q ds')) : WD P B N ro L i Q ds := by
 intro ops pre suf he ht a G hR
 rw [yok e] at ht
 cases suf with
 | nil => simp [yeU] at ht
 | cons x suf =>
   have hat : ops[pre.length]? = some x := by rw [<- Array.getElem?_toList, he]; simp
   simp only [yeU] at ht
   split at ht <;> first | (cases ht; done) | skip
   rename_i u g us h1 h2 h3 h4
   simp only [Option.some.injEq, List.cons.injEq] at ht
   obtain ⟨h5, h6⟩ := ht
   subst h5; subst h6
   rw [List.length_cons, List.range'_succ]
   simp only [wpOpsIn, hat]
   have hwant : Region.wanted x (yielded ops a.tmps) = true := by
    cases hx : x.guard with
    | none => simp [Region.wanted, hx]
    | some jb =>
      obtain ⟨j, want⟩ := jb
      rw [hx] at h2
      simp only [yc3] at h2
      split at h2 <;> first | (cases h2; done) | skip
      rename_i d' hd
      split at h2 <;> first | (cases h2; done) | skip
      rename_i hdN
      cases h2
      simp only [gok] at hg
      split at hg
      ·rename_i c hc
       have hdt : d' < a.tmps.size := by rw [hR.1.tsize]; exact hdN
       have hslot := hR.1.slot d' a.tmps[d'] (Array.getElem?_eq_getElem hdt)
       rw [show (toD ds).fr d' = .bl c from hc] at hslot
       have hb : a.tmps[d']? = some (.bool c) := by rw [Array.getElem?_eq_getElem hdt, hslot.bl_inv]
       simp [Region.wanted, hx, yielded, hd, hb]; simpa using hg
      ·cases hg
   rw [if_pos hwant]
   refine ykd hR.1 h1 (h hR.2) fun av v S' G' hK hR' hv => ?_
   obtain ⟨ds', e1, e2, e3⟩ := hK
   have := e3 ops (pre ++ [x]) suf (by rw [he]; simp) h4 _ G' ⟨by rw [<- e1]; exact hR'.put hv, e2⟩
   simpa using this
theorem yrY {o : AO} (e : L[i]? = some o) (hg : gno o.guard ds.fr = true) (h : WD P B N ro L (i + 1) Q (ds.put o.dst (.tup []))) : WD P B N ro L i Q ds := by
 have _ := (inferInstance : GB P B)
 intro ops pre suf he ht a G hR
 rw [yok e] at ht
 cases suf with
 | nil => simp [yeU] at ht
 | cons x suf =>
   have hat : ops[pre.length]? = some x := by rw [<- Array.getElem?_toList, he]; simp
   simp only [yeU] at ht
   split at ht <;> first | (cases ht; done) | skip
   rename_i u g us h1 h2 h3 h4
   simp only [Option.some.injEq, List.cons.injEq] at ht
   obtain ⟨h5, h6⟩ := ht
   subst h5; subst h6
   rw [List.length_cons, List.range'_succ]
   simp only [wpOpsIn, hat]
   have hwant : Region.wanted x (yielded ops a.tmps) = false := by
    cases hx : x.guard with
    | none =>
      rw [hx] at h2
      simp only [yc3, Option.some.injEq] at h2; subst h2
      cases hg
    | some jb =>
      obtain ⟨j, want⟩ := jb
      rw [hx] at h2
      simp only [yc3] at h2
      split at h2 <;> first | (cases h2; done) | skip
      rename_i d' hd
      split at h2 <;> first | (cases h2; done) | skip
      rename_i hdN
      cases h2
      have hdt : d' < a.tmps.size := by rw [hR.1.tsize]; exact hdN
      have hslot := hR.1.slot d' a.tmps[d'] (Array.getElem?_eq_getElem hdt)
      simp only [gno] at hg
      split at hg
      ·rename_i c hc
       rw [show (toD ds).fr d' = .bl c from hc] at hslot
       have hb : a.tmps[d']? = some (.bool c) := by rw [Array.getElem?_eq_getElem hdt, hslot.bl_inv]
       have hg' : c = !want := by simpa using hg
       simp [Region.wanted, hx, yielded, hd, hb, hg']
      ·rename_i hc
       rw [show (toD ds).fr d' = .tup [] from hc] at hslot
       obtain ⟨vs, q0, q1, _⟩ := hslot.tup_inv
       have hb : a.tmps[d']? = some (.tuple vs) := by rw [Array.getElem?_eq_getElem hdt, q0]
       simp [Region.wanted, hx, yielded, hd, hb]
      ·cases hg
   rw [if_neg (by rw [hwant]; simp)]
   refine ⟨fun _ _ => trivial, ?_⟩
   have := h ops (pre ++ [x]) suf (by rw [he]; simp) h4 (a.put x.dst undef) G ⟨by rw [<- ybS]; exact hR.1.put (.tup [] #[] rfl (fun j u x hu => by simp at hu)), hR.2.put⟩
   simpa using this
theorem WD_e {o : AO} {e : REff} {ds' : DS} (e0 : L[i]? = some o) (hg : gok o.guard ds.fr = true) (h : DOk ds → Eff o.op o.dst ds e ds') (hc : isMC o.op = false) (k : WD P B N ro L (i + 1) Q ds') : WD P B N ro L i Q ds := by
 refine yp5 (hs := fun _ => false) e0 hg fun hk => ?_
 obtain ⟨h1, h2, h3⟩ := h hk
 have hE : ygL (fun _ => false) P o.op o.dst (toD ds) e := by
  cases hop : o.op <;> rw [hop] at h1 hc <;> first | exact h1 | (cases hc; done)
 exact yql hE ⟨ds', h2, h3, k⟩
theorem yrw {d : Nat} {b : Bool} (hv : lkF ds.fr d = .bl b) (h1 : b = true → WD P B N ro L i Q (ds.put (some d) (.bl true))) (h2 : b = false → WD P B N ro L i Q (ds.put (some d) (.bl false))) : WD P B N ro L i Q ds := by
 have _ := (inferInstance : GB P B)
 have key : toD ds = toD (ds.put (some d) (.bl b)) := by
  rw [<- ybS]
  unfold toD St.put
  simp only [St.mk.injEq, and_true]
  funext t
  unfold upd
  by_cases h : t = d
  ·subst h; simp [hv]
  ·simp [h]
 have hh : WD P B N ro L i Q (ds.put (some d) (.bl b)) := by cases b; exact h2 rfl; exact h1 rfl
 intro ops pre suf he ht a G hR
 exact hh ops pre suf he ht a G ⟨by rw [<- key]; exact hR.1, hR.2.put⟩
theorem yrT {t n : Nat} {z : Bool} {xs : List AV} (ht : t < N) (e : lkF ds.fr t = .sl z n xs) (h : n ≤ maxLen → WD P B N ro L i Q ds) : WD P B N ro L i Q ds := by
 have _ := (inferInstance : GB P B)
 intro ops pre suf he hts a G hR
 refine h ?_ ops pre suf he hts a G hR
 have hdt : t < a.tmps.size := by rw [hR.1.tsize]; exact ht
 have hslot := hR.1.slot t a.tmps[t] (Array.getElem?_eq_getElem hdt)
 rw [show (toD ds).fr t = .sl z n xs from e] at hslot
 rcases hslot.sl_inv with ⟨_, h0, _⟩ | ⟨_, h0, _⟩ | ⟨_, b, off, cap, f, _, _, _, _, _, _, hm, _⟩
 ·rw [h0]; exact Nat.zero_le _
 ·rw [h0]; exact Nat.zero_le _
 ·exact hm
end
def DD (P : Program) (L : List (AO × List Nat)) (i : Nat) (acc : List Foot) (Q : St -> Prop) (ds : DS) : Prop := DOk ds -> runD (fun _ => false) P (L.drop i) acc Q (toD ds)
section
variable {P : Program} {B : Base} [GB P B] {N : Nat} {L : List (AO × List Nat)} {Q : St -> Prop} {ds : DS} {i : Nat} {acc : List Foot}
theorem ymb {o : AO × List Nat} (e : L[i]? = some o) : L.drop i = o :: L.drop (i + 1) := by
 have hi := (List.getElem?_eq_some_iff.1 e).1
 rw [List.drop_eq_getElem_cons hi]
 congr 1
 exact (List.getElem?_eq_some_iff.1 e).2
theorem ypY {o : AO} {fre : List Nat} (e0 : L[i]? = some (o, fre)) (hg : gok o.guard ds.fr = true) (h : DOk ds → eop (fun _ => false) P o.op o.dst (toD ds) fun e => ygc (ybv o.op (toD ds) e) acc fre ∧ runD (fun _ => false) P (L.drop (i + 1)) (acc ++ [ybv o.op (toD ds) e]) Q (e.app o.dst (toD ds))) : DD P L i acc Q ds := by
 intro hk
 rw [ymb e0]
 simp only [runD]
 cases hq : o.guard with
 | none => exact h hk
 | some p =>
   obtain ⟨g, b⟩ := p
   rw [hq] at hg
   simp only [gok] at hg
   split at hg
   ·rename_i c hc
    simp only
    rw [show (toD ds).fr g = .bl c from hc]
    simp only
    rw [if_pos (by simpa using hg)]
    exact h hk
   ·cases hg
theorem ysm {o : AO} {fre : List Nat} (e0 : L[i]? = some (o, fre)) (hg : gno o.guard ds.fr = true) (k : DD P L (i + 1) (acc ++ [yd5]) Q (ds.put o.dst (.tup []))) : DD P L i acc Q ds := by
 intro hk
 rw [ymb e0]
 simp only [runD]
 cases hq : o.guard with
 | none => rw [hq] at hg; cases hg
 | some p =>
   obtain ⟨g, b⟩ := p
   rw [hq] at hg
   simp only [gno] at hg
   simp only
   split at hg
   ·rename_i c hc
    rw [show (toD ds).fr g = .bl c from hc]
    simp only
    have : c = !b := by simpa using hg
    rw [if_neg (by rw [this]; cases b <;> simp), ybS]
    exact k hk.put
   ·rename_i hc
    rw [show (toD ds).fr g = .tup [] from hc]
    simp only
    rw [ybS]
    exact k hk.put
   ·cases hg
theorem yqQ {d : Nat} {b : Bool} (hv : lkF ds.fr d = .bl b) (h1 : b = true → DD P L i acc Q (ds.put (some d) (.bl true))) (h2 : b = false → DD P L i acc Q (ds.put (some d) (.bl false))) : DD P L i acc Q ds := by
 have key : toD ds = toD (ds.put (some d) (.bl b)) := by
  rw [<- ybS]
  unfold toD St.put
  simp only [St.mk.injEq, and_true]
  funext t
  unfold upd
  by_cases h : t = d
  ·subst h; simp [hv]
  ·simp [h]
 have hh : DD P L i acc Q (ds.put (some d) (.bl b)) := by cases b; exact h2 rfl; exact h1 rfl
 intro hk
 rw [key]
 exact hh hk.put
end
end Go.AV
end
noncomputable section
namespace Go.AV
open Go.RowKit Go.RG Go.Lib
theorem VRs.weak {G : Gh} {us : List AV} {vs : List Value} (h : VRs G us vs) : VRs G (yeV us) vs := ⟨by rw [ydJ]; exact h.1, fun j u x hu hx => by obtain ⟨w, e1, rfl⟩ := yeO us j u hu; exact (h.2 j w x e1 hx).weak⟩
theorem yao.weakR {P : Program} {f : FuncId} {args : List AV} {H : Hp} {n : Nat} {Post : AV → Hp → Nat → Prop} (h : yao P f args H n fun av H' n' => Post (weak av) H' n') : yao P f args H n Post := fun G vs hg hM hV =>
 (h G vs hg hM hV).mono fun _ _ ⟨v, av, H', n', G', a1, a2, a3, a4, a5, a6⟩ => ⟨v, weak av, H', n', G', a1, a2, a3, a4, a5.weak, by rw [ymN]; exact a6⟩
def yeg : List AV → DS → Option (List AV × List (Nat × Nat) × DS)
 | [], ds => some ([], [], ds)
 | v :: r, ds => match v.noL with
   | true => match yeg r ds with
     | some (vs, kl, d1) => some (v :: vs, kl, d1)
     | none => none
   | false => match v with
     | .gs (.l d c) n => match ds.kb d c with
       | some b => match Nat.beq b.cells.length (n * b.sz) && noLs b.cells with
         | true => match yeg r (ds.set d c none) with
           | some (vs, kl, d1) => some (.sl false n b.cells :: vs, (d, c) :: kl, d1)
           | none => none
         | false => none
       | none => none
     | _ => none
theorem ymv {ds : DS} {d c : Nat} {b : KB} (h : ds.kb d c = some b) : (toD ds).kill (.l d c) = toD (ds.set d c none) := by
 have hc := kb_c h
 unfold St.kill toD
 simp only [St.mk.injEq]
 exact ⟨by rw [ykK], by rw [ynu ds d c _ (hc.imp id (·.1))]; rfl, by rw [yoi hc], by rw [yiW]⟩
theorem yhq : ∀ (vs : List AV) (ds : DS) (vs' : List AV) (kl : List (Nat × Nat)) (d1 : DS), DOk ds → yeg vs ds = some (vs', kl, d1) → pubL vs (toD ds) = (vs', toD d1) ∧ pkL vs (toD ds) = kl ∧ DOk d1 ∧ d1.H = ds.H ∧ d1.nx = ds.nx
 | [], ds, vs', kl, d1, hk, h => by simp only [yeg, Option.some.injEq, Prod.mk.injEq] at h; obtain ⟨rfl, rfl, rfl⟩ := h; exact ⟨rfl, rfl, hk, rfl, rfl⟩
 | v :: r, ds, vs', kl, d1, hk, h => by
   simp only [yeg] at h
   split at h
   ·rename_i hn
    split at h
    ·rename_i vs kl' d1' h1
     cases h
     obtain ⟨a1, a2, a3, a4⟩ := yhq r ds _ _ _ hk h1
     have e1 : pubV v (toD ds) = (v, toD ds) := by simp only [pubV, hn, if_true]
     have e2 : pkV v (toD ds) = [] := by simp only [pkV, hn, if_true]
     refine ⟨?_, ?_, a3, a4⟩
     ·simp only [pubL, e1, a1]
     ·simp only [pkL, e2, List.nil_append]; exact a2
    ·cases h
   ·rename_i hn
    split at h
    ·rename_i d c n
     split at h
     ·rename_i b hb
      split at h
      ·rename_i hc
       simp only [Bool.and_eq_true] at hc
       split at h
       ·rename_i vs kl' d1' h1
        cases h
        obtain ⟨a1, a2, a3, a4, a5⟩ := yhq r _ _ _ _ (hk.set ((kb_c hb).imp id (·.1)) fun x hx => by cases hx) h1
        have hm : (toD ds).M (.l d c) = some b.blk := by show (ds.kb d c).map KB.blk = _; rw [hb]; rfl
        have hcond : b.blk.cells.length = n * b.blk.sz /\ b.blk.sz ≠ 0 /\ noLs b.blk.cells = true := ⟨nbeq.1 hc.1, (hk d c b hb).1, hc.2⟩
        have e1 : pubV (.gs (.l d c) n) (toD ds) = (.sl false n b.cells, toD (ds.set d c none)) := by
         simp only [pubV, hn, Bool.false_eq_true, if_false, pub1, hm]
         rw [if_pos hcond, ymv hb]; rfl
        have e2 : pkV (.gs (.l d c) n) (toD ds) = [(d, c)] := by
         simp only [pkV, hn, Bool.false_eq_true, if_false, pk1, hm]
         rw [if_pos hcond]
        have e3 : (toD ds).kills [(d, c)] = toD (ds.set d c none) := by rw [<- ymv hb]; rfl
        refine ⟨?_, ?_, a3, by rw [a4, yq1], by rw [a5, yiW]⟩
        ·simp only [pubL, e1, a1]
        ·simp only [pkL, e2, e3, a2]; rfl
       ·cases h
      ·cases h
     ·cases h
    ·cases h
def CalO (o : AO) (ds : DS) (f : FuncId) (vs : List AV) : Prop := (∃ args, o.op = .call f args /\ args.map (ev (lkF ds.fr)) = vs) ∨ ∃ x args first cap, o.op = .calv x args /\ ev (lkF ds.fr) x = .fn (.func f) first cap /\ first ++ args.map (ev (lkF ds.fr)) ++ cap = vs
section
variable {P : Program} {B : Base} [GB P B] {N : Nat} {ro : Option Nat} {hs : Nat -> Bool} {L : List AO} {LD : List (AO × List Nat)} {Q : KS -> Prop} {QD : St -> Prop} {ds : DS} {i : Nat} {acc : List Foot}
end
section
variable {P : Program} {B : Base} [GB P B] {N : Nat} {ro : Option Nat} {hs : Nat -> Bool} {L : List AO} {Q : KS -> Prop} {ks : KS} {i : Nat}
def sqQ (Q : AEx → KS → Prop) (K : KS → Prop) : AEx → KS → Prop := fun e ks => match e with
 | .n => K ks
 | .x i => Q (.x i) ks
 | .r => Q .r ks
def bkQ (id : Nat) (Q : AEx → KS → Prop) : AEx → KS → Prop := fun e ks => match e with
 | .n => Q .n ks
 | .x i => match Nat.beq i id with
   | true => Q .n ks
   | false => Q (.x i) ks
 | .r => Q .r ks
theorem yla.mono {Q Q' : AEx → KS → Prop} (h : ∀ e ks, Q e ks → Q' e ks) {e : Exit} {a : Act} {w : World} (hp : yla B N Q e a w) : yla B N Q' e a w := by
 obtain ⟨ks, G, h1, h2, h3⟩ := hp
 refine ⟨ks, G, h1, h2, ?_⟩
 cases e <;> first | exact h _ _ h3 | exact h3
theorem ysH {c : Code} (h : trC P N c = some (.ops L)) : ∃ id ops, c = .region id ops false ∧ yeU P N ops ops.toList = some L := by
 cases c
 case region id ops draw =>
  cases draw with
  | false => simp only [trC] at h; obtain ⟨l, hl, e⟩ := Option.map_eq_some_iff.1 h; cases e; exact ⟨id, ops, rfl, hl⟩
  | true => simp only [trC] at h; obtain ⟨l, hl, e⟩ := Option.map_eq_some_iff.1 h; cases e
 all_goals (exfalso; revert h; unfold trC; (try split) <;> (try split) <;> simp)
theorem ysW {c : Code} {l : List (AO × List Nat)} (h : trC P N c = some (.drw l)) : ∃ id ops, c = .region id ops true ∧ trD P N ops = some l := by
 cases c
 case region id ops draw =>
  cases draw with
  | false => simp only [trC] at h; obtain ⟨l, hl, e⟩ := Option.map_eq_some_iff.1 h; cases e
  | true => simp only [trC] at h; obtain ⟨l, hl, e⟩ := Option.map_eq_some_iff.1 h; cases e; exact ⟨id, ops, rfl, hl⟩
 all_goals (exfalso; revert h; unfold trC; (try split) <;> (try split) <;> simp)
theorem yre {c : Code} (h : trC P N c = some .skip) : c = .skip := by
 cases c
 case skip => rfl
 case region id ops draw => cases draw <;> (exfalso; revert h; unfold trC; simp)
 all_goals (exfalso; revert h; unfold trC; (try split) <;> (try split) <;> simp)
theorem yrS {c : Code} {a b : ybC} (h : trC P N c = some (.seq a b)) : ∃ x y, c = .seq x y ∧ trC P N x = some a ∧ trC P N y = some b := by
 cases c
 case seq x y =>
  simp only [trC] at h
  split at h
  ·rename_i h1 h2; cases h; exact ⟨x, y, rfl, h1, h2⟩
  ·cases h
 case region id ops draw => cases draw <;> (exfalso; revert h; unfold trC; simp)
 all_goals (exfalso; revert h; unfold trC; (try split) <;> (try split) <;> simp)
theorem yrC {c : Code} {u : AOpd} {a b : ybC} (h : trC P N c = some (.cond u a b)) : ∃ o x y, c = .cond o x y ∧ yan P N o = some u ∧ trC P N x = some a ∧ trC P N y = some b := by
 cases c
 case cond o x y =>
  simp only [trC] at h
  split at h
  ·rename_i h0 h1 h2; cases h; exact ⟨o, x, y, rfl, h0, h1, h2⟩
  ·cases h
 case region id ops draw => cases draw <;> (exfalso; revert h; unfold trC; simp)
 all_goals (exfalso; revert h; unfold trC; (try split) <;> (try split) <;> simp)
theorem ypp {c : Code} {id : Nat} {a : ybC} (h : trC P N c = some (.block id a)) : ∃ x, c = .block id x ∧ trC P N x = some a := by
 cases c
 case block id' x => simp only [trC] at h; obtain ⟨l, hl, e⟩ := Option.map_eq_some_iff.1 h; cases e; exact ⟨x, rfl, hl⟩
 case region id ops draw => cases draw <;> (exfalso; revert h; unfold trC; simp)
 all_goals (exfalso; revert h; unfold trC; (try split) <;> (try split) <;> simp)
theorem yrg {c : Code} {a : ybC} (h : trC P N c = some (.loop a)) : ∃ x, c = .loop x ∧ trC P N x = some a := by
 cases c
 case loop x => simp only [trC] at h; obtain ⟨l, hl, e⟩ := Option.map_eq_some_iff.1 h; cases e; exact ⟨x, rfl, hl⟩
 case region id ops draw => cases draw <;> (exfalso; revert h; unfold trC; simp)
 all_goals (exfalso; revert h; unfold trC; (try split) <;> (try split) <;> simp)
theorem yq3 {c : Code} {id : Nat} (h : trC P N c = some (.exit id)) : c = .exit id := by
 cases c
 case exit id' => simp only [trC, Option.some.injEq, ybC.exit.injEq] at h; rw [h]
 case region id ops draw => cases draw <;> (exfalso; revert h; unfold trC; simp)
 all_goals (exfalso; revert h; unfold trC; (try split) <;> (try split) <;> simp)
theorem ysT {c : Code} (h : trC P N c = some .ret) : c = .ret := by
 cases c
 case ret => rfl
 case region id ops draw => cases draw <;> (exfalso; revert h; unfold trC; simp)
 all_goals (exfalso; revert h; unfold trC; (try split) <;> (try split) <;> simp)
theorem ysE {Q : AEx → KS → Prop} (h : WD P B N ro L 0 (Q .n) (ofK ks)) : WK P B N ro (.ops L) Q ks := by
 have _ := (inferInstance : GB P B)
 intro c ht a G hR
 obtain ⟨id, ops, rfl, hl⟩ := ysH ht
 have := h ops [] ops.toList rfl (by rw [List.drop_zero]; exact hl) a G ⟨by rw [yfE]; exact hR.1, yfa hR.2⟩
 have h2 : wpOpsIn (FR ro) 0 P ops (yla B N (nQ (Q .n))) (List.range ops.size) a G.w := by rw [List.range_eq_range']; simpa using this
 exact wpIn_mono (wpIn_region h2) fun e a w hp => yla.mono (fun e ks q => by cases e <;> first | exact q | exact q.elim) hp
theorem yp9 {a b : ybC} {Q : AEx → KS → Prop} (h : WK P B N ro a (sqQ Q (WK P B N ro b Q)) ks) : WK P B N ro (.seq a b) Q ks := by
 have _ := (inferInstance : GB P B)
 intro c ht act G hR
 obtain ⟨x, y, rfl, h1, h2⟩ := yrS ht
 refine wpIn_seq (wpIn_mono (h x h1 act G hR) ?_)
 rintro e a' w' ⟨k', G', hR', rfl, hq⟩
 cases e with
 | normal => exact hq y h2 a' G' hR'
 | exit id => exact ⟨k', G', hR', rfl, hq⟩
 | ret => exact ⟨k', G', hR', rfl, hq⟩
 | goto l => exact hq.elim
 | panic ch => exact hq.elim
 | outgrown => exact hq.elim
theorem yqM {Q : AEx → KS → Prop} (h : Q .n ks) : WK P B N ro .skip Q ks := by
 have _ := (inferInstance : GB P B)
 intro c ht a G hR
 rw [yre ht]
 exact wpIn_skip ⟨ks, G, hR, rfl, h⟩
theorem yqz {id : Nat} {Q : AEx → KS → Prop} (h : Q (.x id) ks) : WK P B N ro (.exit id) Q ks := by
 have _ := (inferInstance : GB P B)
 intro c ht a G hR
 rw [yq3 ht]
 exact wpIn_exit ⟨ks, G, hR, rfl, h⟩
theorem ysx {Q : AEx → KS → Prop} (h : Q .r ks) : WK P B N ro .ret Q ks := by
 have _ := (inferInstance : GB P B)
 intro c ht a G hR
 rw [ysT ht]
 exact wpIn_ret ⟨ks, G, hR, rfl, h⟩
theorem yl2 {u : AOpd} {t e : ybC} {b : Bool} {Q : AEx → KS → Prop} (hv : ev (lkF ks.fr) u = .bl b) (h1 : b = true → WK P B N ro t Q ks) (h2 : b = false → WK P B N ro e Q ks) : WK P B N ro (.cond u t e) Q ks := by
 intro c ht a G hR
 obtain ⟨o, x, y, rfl, g0, g1, g2⟩ := yrC ht
 exact wpIn_cond_split (yi0 hR.1 g0 hv) (fun hb => h1 hb x g1 a G hR) (fun hb => h2 hb y g2 a G hR)
theorem ypo {id : Nat} {a : ybC} {Q : AEx → KS → Prop} (h : WK P B N ro a (bkQ id Q) ks) : WK P B N ro (.block id a) Q ks := by
 have _ := (inferInstance : GB P B)
 intro c ht act G hR
 obtain ⟨x, rfl, h1⟩ := ypp ht
 refine wpIn_block (wpIn_mono (h x h1 act G hR) ?_)
 rintro e a' w' ⟨k', G', hR', rfl, hq⟩
 cases e with
 | normal => exact ⟨k', G', hR', rfl, hq⟩
 | exit id' =>
   simp only [exK, bkQ] at hq
   show if id' = id then _ else _
   split at hq
   ·rename_i e; rw [if_pos (nbeq.1 e)]; exact ⟨k', G', hR', rfl, hq⟩
   ·rename_i e; rw [if_neg (fun q => by rw [nbeq.2 q] at e; cases e)]; exact ⟨k', G', hR', rfl, hq⟩
 | ret => exact ⟨k', G', hR', rfl, hq⟩
 | goto l => exact hq.elim
 | panic ch => exact hq.elim
 | outgrown => exact hq.elim
theorem ylx {F : Fence} {nn : Nat} {c : Code} {Q : Exit → Act → World → Prop} {a : Act} {w : World} (h : ∀ X : Act → World → Prop, (∀ a w, c.wpIn F nn P (Exit.then X Q) a w → X a w) → X a w) : (Code.loop c).wpIn F nn P Q a w := by
 intro b k cs hro hb hr
 have key : ∃ e a' w', Q e a' w' ∧ ArrivesIn (Machine.fenced P F) P (lone (b.atR a (.code c :: .inLoop c :: k)) cs w) b k cs e a' w' := by
  refine h (fun a w => ∃ e a' w', Q e a' w' /\ ArrivesIn (Machine.fenced P F) P (lone (b.atR a (.code c :: .inLoop c :: k)) cs w) b k cs e a' w') fun a w hw => ?_
  obtain ⟨e, a₁, w₁, hq, harr⟩ := hw b (.inLoop c :: k) cs hro hb hr
  cases e with
  | normal =>
    obtain ⟨e₂, a₂, w₂, hq₂, harr₂⟩ := hq
    exact ⟨e₂, a₂, w₂, hq₂, .of_steps (StepsIn.trans harr (.one (fenced_calm hb hr rfl) stepR_inLoop)) harr₂⟩
  | exit id => exact ⟨_, a₁, w₁, hq, .pass (x := .inLoop c) rfl (fun _ _ => .inl (by simp)) harr⟩
  | goto l => exact ⟨_, a₁, w₁, hq, .pass (x := .inLoop c) rfl (fun _ _ => .inl (by simp)) harr⟩
  | ret => exact ⟨_, a₁, w₁, hq, .pass (x := .inLoop c) rfl (fun _ _ => .inl (by simp)) harr⟩
  | panic ch => exact ⟨_, a₁, w₁, hq, .pass (x := .inLoop c) rfl (fun _ _ => .inl (by simp)) harr⟩
  | outgrown => exact ⟨_, a₁, w₁, hq, .pass (x := .inLoop c) rfl (fun _ _ => .inl (by simp)) harr⟩
 obtain ⟨e, a', w', hq, harr⟩ := key
 exact ⟨e, a', w', hq, .of_steps (.one (fenced_calm hb hr rfl) stepR_loop) harr⟩
theorem yrt {u : ybC} {Q : AEx → KS → Prop} (h : ∀ X : KS → Prop, (∀ ks, WK P B N ro u (sqQ Q X) ks → X ks) → X ks) : WK P B N ro (.loop u) Q ks := by
 have _ := (inferInstance : GB P B)
 intro c ht a G hR
 obtain ⟨x, rfl, h1⟩ := yrg ht
 refine ylx fun X' hX' => ?_
 refine h (fun ks => ∀ a G, RelK B N ks a G -> X' a G.w) (fun ks hw a G hR => ?_) a G hR
 refine hX' a G.w (wpIn_mono (hw x h1 a G hR) ?_)
 rintro e a' w' ⟨k', G', hR', rfl, hq⟩
 cases e with
 | normal => exact hq a' G' hR'
 | exit id => exact ⟨k', G', hR', rfl, hq⟩
 | ret => exact ⟨k', G', hR', rfl, hq⟩
 | goto l => exact hq.elim
 | panic ch => exact hq.elim
 | outgrown => exact hq.elim
theorem ytf {l : List (AO × List Nat)} {Q : AEx → KS → Prop} (h : DD P l 0 [] (fun S => RE B N S (Q .n)) (ofK ks)) : WK P B N ro (.drw l) Q ks := by
 intro c ht a G hR
 obtain ⟨id, ops, rfl, hl⟩ := ysW ht
 have h' := h (yfa hR.2)
 rw [List.drop_zero, yfE] at h'
 refine yoB hl h' hR.1 fun S a G hQ hR => ?_
 obtain ⟨k1, G1, e1, e2, e3⟩ := hQ a G hR
 exact ⟨k1, G1, e2, e1, e3⟩
end
def entF : List AV → Nat → List (Nat × AV)
 | [], _ => []
 | u :: r, i => (i, u) :: entF r (i + 1)
def entK (args : List AV) (H : Hp) (n : Nat) : KS := ⟨entF args 0, [], H, n⟩
theorem yoX : ∀ (args : List AV) (i t : Nat), lkF (entF args i) t = if i ≤ t then (args[t - i]?).getD .un else .un
 | [], i, t => by simp [entF, lkF]
 | u :: r, i, t => by
   simp only [entF]
   rw [ycX, yoX r (i + 1) t]
   by_cases h : i = t
   ·subst h; simp
   ·simp only [h, if_false]
    by_cases h2 : i <= t
    ·have h3 : i + 1 ≤ t := by omega
     rw [if_pos h2, if_pos h3]
     have : t - i = (t - (i + 1)) + 1 := by omega
     rw [this, List.getElem?_cons_succ]
    ·have h3 : ¬ i + 1 ≤ t := by omega
     rw [if_neg h2, if_neg h3]
def retK (l : List (Nat × Option Nat)) (Post : AV → Hp → Nat → Prop) : AEx → KS → Prop
 | .x _, _ => False
 | _, ks => wpv (resA (toS ks) l) fun u => u.noL = true /\ Post (weak u) ks.H ks.nx
theorem yks {P : Program} {f : FuncId} {F : AFn} (hF : trF P f = some F) {args : List AV} {H : Hp} {n : Nat} {Post : AV → Hp → Nat → Prop} (hN : args.length ≤ F.N) (hnl : noLs args = true) (hw : ∀ (B : Base) [GB P B], (ycW B) → WK P B F.N none F.body (retK F.res Post) (entK args H n)) : yao P f args H n Post := by
 refine yao.weakR ?_
 intro G vs hg hM hV
 haveI : GB P (yaN G n) := GB.of hg hM
 unfold trF at hF
 split at hF <;> first | (cases hF; done) | skip
 rename_i fn hfn
 split at hF <;> first | (cases hF; done) | skip
 rename_i b hb
 split at hF <;> first | (cases hF; done) | skip
 rename_i r c hr hc
 cases hF
 split at hb
 ·cases hb
 ·rename_i hname
  have hcall : (callFunc f vs).run P G.w = .ok (.enter f vs) G.w := by
   simp only [callFunc, Sem.run_bind, run_program, Result.andThen_ok, hfn]
   rw [if_neg hname]
   simp [hb]
  unfold yeT
  rw [hcall]
  have hvl : vs.size = args.length := by simpa using hV.1
  have hBl : ∀ d c, (yaN G n).κ (.l d c) = none := fun d c => hM.κnone (k := .l d c) rfl
  have hrel : Rel (yaN G n) fn.ntmps (yja args H n) { tmps := vs ++ Array.replicate (fn.ntmps - vs.size) undef, defers := [] } G := by
   refine { (show MRel (yaN G n) (yja args H n) G from hM.fr (yja args H n).fr) with defers := DfOk.nil _ _, tsize := by simp [hvl]; simp only at hN; omega, slot := ?_ }
   intro t v hv
   show VR G (argF args t) v
   unfold argF
   by_cases ht : t < vs.size
   ·rw [Array.getElem?_append_left ht] at hv
    have hta : t < args.length := by omega
    rw [List.getElem?_eq_getElem hta]
    exact hV.2 t _ v (List.getElem?_eq_getElem hta) (by simpa using hv)
   ·rw [Array.getElem?_append_right (by omega)] at hv
    rw [List.getElem?_eq_none (by omega)]
    have hv' : v = undef := by
     rw [Array.getElem?_replicate] at hv
     split at hv
     ·exact (Option.some.inj hv).symm
     ·cases hv
    rw [hv']
    exact .tup [] #[] rfl (fun j u x hu => by simp at hu)
  have hfr : ∀ t, RV (fun _ => none) (yja args H n) (fun _ => False) (lkF (entK args H n).fr t) ((yja args H n).fr t) := by
   intro t
   show RV _ _ _ (lkF (entF args 0) t) (argF args t)
   rw [yoX]
   simp only [Nat.zero_le, if_true, Nat.sub_zero]
   unfold argF
   cases hq : args[t]? with
   | none => exact .un _
   | some u => exact .no u (yaB hnl t u hq)
  obtain ⟨G1, w1, hrel1⟩ := ypO (ks := entK args H n) (ρ := fun _ => none) (p := fun _ => False) hrel (ycW.none hBl) { fix := fun d k _ h => (by cases h), dom := fun d b h => (by cases h), at' := fun d k h => (by cases h), inj := fun d d' k h => (by cases h), disj := fun k d h => h.elim, pub := fun k h => h.elim, H := fun _ => rfl, nx := rfl, fr := hfr }
  refine (callsIn_wide (n := 0)).1 (callsIn_of_wp_marks hfn hb trivial ?_)
  rw [<- w1]
  refine wpIn_mono (hw (yaN G n) (ycW.none hBl) b hc _ G1 ⟨hrel1, fun d b h => by cases h⟩) ?_
  rintro e a' w' ⟨k', G', hR, rfl, hq⟩
  have fin : retK r Post .r k' → LeavesInM Fence.wide 0 P fn a'.tmps (fun e w' => ∃ v av H' n' G', e = .returned v ∧ Post (weak av) H' n' ∧ MRel (yaN G n) (hSt H' n') G' ∧ G'.w = w' ∧ VR G' av v ∧ av.noL = true) a'.defers .returning G'.w := by
   intro hq
   obtain ⟨u, hu, hno, hP⟩ := ybU hq
   obtain ⟨rs, G0, d1, d2, d3, d4, d5⟩ := hR.1.leave
   rw [d1]
   refine ykW rs _ d2 d3 ?_
   obtain ⟨v, hrun, hv⟩ := yoA d5 hr hu
   obtain ⟨G2, q1, q2, q3, q4, q5⟩ := d5.toMRel.forget hBl
   rw [d4] at hrun
   exact ⟨v, hrun, v, _, _, _, G2, rfl, hP, q2, q1.trans d4, VR.noL (G := G0) (G' := G2) q3 q4 q5 q1 hv hno, hno⟩
  cases e with
  | normal => exact fin hq
  | ret => exact fin hq
  | exit id => exact hq.elim
  | goto l => exact hq.elim
  | panic ch => exact hq.elim
  | outgrown => exact hq.elim
theorem yev {P : Program} {f : FuncId} {F : AFn} (hF : trF P f = some F) {args : List AV} {v : AV} (hN : args.length ≤ F.N) (hnl : noLs args = true) (hw : ∀ (B : Base) [GB P B] (H : Hp) (n : Nat), (ycW B) → WK P B F.N none F.body (retK F.res fun av H' n' => av = v ∧ H' = H ∧ n' = n) (entK args H n)) : Pure P f args v :=
 fun H n => yks hF hN hnl fun B _ hB => hw B H n hB
section
variable {P : Program} {B : Base} [GB P B] {N : Nat} {ro : Option Nat} {L : List AO} {LD : List (AO × List Nat)} {Q : KS -> Prop} {QD : St -> Prop} {ds : DS} {i : Nat} {acc : List Foot}
end
end Go.AV
end
noncomputable section
namespace Go.AV
open Go.RowKit Go.RG Go.Lib
structure Enc (T : Type) where
 c : T -> List AV
 sz : Nat
 pos : 0 < sz
 len : ∀ x, (c x).length = sz
 no : ∀ x, noLs (c x) = true
 one : ∀ x, (c x).all AV.one = true
def cl {T : Type} (E : Enc T) (l : List T) : List AV := l.flatMap E.c
def slA {T : Type} (E : Enc T) (l : List T) : AV := .sl false l.length (cl E l)
section
variable {T : Type} (E : Enc T)
theorem ye1 (l : List T) : (cl E l).length = l.length * E.sz := by
 induction l with
 | nil => simp [cl]
 | cons x l ih => simp only [cl, List.flatMap_cons, List.length_append, List.length_cons, E.len] at ih ⊢; rw [ih, Nat.add_mul]; omega
theorem yty (l : List T) : noLs (cl E l) = true := by
 induction l with
 | nil => rfl
 | cons x l ih => rw [show cl E (x :: l) = E.c x ++ cl E l from by simp [cl], yhF, E.no, ih]; rfl
theorem ysY (l k : List T) : cl E (l ++ k) = cl E l ++ cl E k := by simp [cl]
theorem yqG {l : List T} {m : Nat} {y : T} (h : l[m]? = some y) (o w : Nat) (hw : o + w ≤ E.sz) : ((cl E l).drop (m * E.sz + o)).take w = ((E.c y).drop o).take w := by
 induction l generalizing m with
 | nil => simp at h
 | cons x l ih =>
   have e : cl E (x :: l) = E.c x ++ cl E l := by simp [cl]
   rw [e]
   cases m with
   | zero =>
     simp at h; subst h
     rw [Nat.zero_mul, Nat.zero_add, List.drop_append_of_le_length (by rw [E.len]; omega), List.take_append_of_le_length (by simp [E.len]; omega)]
   | succ m =>
     have := ih (m := m) (by simpa using h)
     rw [<- this]
     congr 1
     rw [show (m + 1) * E.sz + o = E.sz + (m * E.sz + o) by rw [Nat.add_mul]; omega]
     have h2 : E.sz = (E.c x).length := (E.len x).symm
     rw [h2, <- List.drop_drop, List.drop_left]
theorem ysn {l : List T} {m : Nat} {y y' : T} (h : l[m]? = some y) (o w : Nat) (hw : o + w ≤ E.sz) {vs : List AV} (hy : (E.c y).take o ++ vs ++ (E.c y).drop (o + w) = E.c y') :
  (cl E l).take (m * E.sz + o) ++ vs ++ (cl E l).drop (m * E.sz + o + w) = cl E (l.set m y') := by
 induction l generalizing m with
 | nil => simp at h
 | cons x l ih =>
   have e : cl E (x :: l) = E.c x ++ cl E l := by simp [cl]
   rw [e]
   cases m with
   | zero =>
     simp at h; subst h
     rw [List.set_cons_zero, show cl E (y' :: l) = E.c y' ++ cl E l by simp [cl], <- hy]
     rw [Nat.zero_mul, Nat.zero_add, List.take_append_of_le_length (by rw [E.len]; omega), List.drop_append_of_le_length (by rw [E.len]; omega)]
     simp
   | succ m =>
     rw [List.set_cons_succ, show cl E (x :: l.set m y') = E.c x ++ cl E (l.set m y') by simp [cl], <- ih (m := m) (by simpa using h)]
     have h2 : E.sz = (E.c x).length := (E.len x).symm
     rw [show (m + 1) * E.sz + o = (E.c x).length + (m * E.sz + o) by rw [<- h2, Nat.add_mul]; omega, show (E.c x).length + (m * E.sz + o) + w = (E.c x).length + (m * E.sz + o + w) by omega]
     rw [List.take_length_add_append, List.drop_length_add_append]
     simp
theorem yny (l : List T) (a b : Nat) : ((cl E l).drop (a * E.sz)).take (b * E.sz) = cl E ((l.drop a).take b) := by
 induction l generalizing a with
 | nil => simp [cl]
 | cons x l ih =>
   have e : cl E (x :: l) = E.c x ++ cl E l := by simp [cl]
   have h2 : E.sz = (E.c x).length := (E.len x).symm
   cases a with
   | zero =>
     simp only [Nat.zero_mul, List.drop_zero]
     clear ih
     have key : ∀ (k : List T) (b : Nat), (cl E k).take (b * E.sz) = cl E (k.take b) := by
      intro k
      induction k with
      | nil => intro b; simp [cl]
      | cons z k ihk =>
        intro b
        have h3 : E.sz = (E.c z).length := (E.len z).symm
        cases b with
        | zero => simp [cl]
        | succ b =>
          rw [List.take_succ_cons, show cl E (z :: k) = E.c z ++ cl E k by simp [cl], show cl E (z :: k.take b) = E.c z ++ cl E (k.take b) by simp [cl], <- ihk b, show (b + 1) * E.sz = (E.c z).length + b * E.sz by rw [<- h3, Nat.add_mul]; omega, List.take_length_add_append]
     exact key _ b
   | succ a =>
     rw [e, List.drop_succ_cons, <- ih a, show (a + 1) * E.sz = (E.c x).length + a * E.sz by rw [<- h2, Nat.add_mul]; omega, List.drop_length_add_append]
end
section
variable {P : Program} {B : Base} [GB P B] {N : Nat} {ro : Option Nat} {L : List AO} {Q : KS -> Prop} {ds : DS} {i : Nat} {o : AO} {T : Type} {d : Option Nat}
def toB (n : Int) : UInt8 := UInt8.ofNat n.toNat
def ofB (b : UInt8) : Int := (b.toNat : Int)
end
abbrev Str := List UInt8
def eB : Enc Bool := ⟨fun b => [.bl b], 1, by omega, fun _ => rfl, fun _ => rfl, fun _ => rfl⟩
def eI (k : IntKind) : Enc Int := ⟨fun n => [.it k n], 1, by omega, fun _ => rfl, fun _ => rfl, fun _ => rfl⟩
def eS : Enc Str := ⟨fun s => [.st s], 1, by omega, fun _ => rfl, fun _ => rfl, fun _ => rfl⟩
def eSl {T : Type} (E : Enc T) : Enc (List T) := ⟨fun l => [slA E l], 1, by omega, fun _ => rfl, fun _ => rfl, fun _ => rfl⟩
def bAt (s : Str) (i : Int) : Int := ((s[i.toNat]?.getD 0).toNat : Int)
def cnd (b : Bool) (x y : Prop) : Prop := (b = true -> x) /\ (b = false -> y)
end Go.AV
end
noncomputable section
namespace Go.AV
open Go.RowKit Go.RG Go.Lib Go.WideShapes Go.ChangeShapes
def ygW (P : Program) (pl : TypeId → Bool) : List Field → Nat → Option Nat
 | [], o => some o
 | f :: r, o => if f.offset = o /\ pl f.type = true then ygW P pl r (o + P.cellsOf f.type) else none
def ygX (P : Program) : Nat → TypeId → Bool
 | 0, _ => false
 | k + 1, t => match P.underlying t with
   | some .bool => P.cellsOf t == 1
   | some (.int _) => P.cellsOf t == 1
   | some .string => P.cellsOf t == 1
   | some (.slice e) => P.cellsOf t == 1 && ygX P k e && decide (0 < P.cellsOf e)
   | some (.struct fs) => ygW P (ygX P k) fs.toList 0 == some (P.cellsOf t)
   | _ => false
mutual
inductive yce (P : Program) : TypeId → List AV → Prop
 | bl (t : TypeId) (b : Bool) (h : P.underlying t = some .bool) : yce P t [.bl b]
 | it (t : TypeId) (k : IntKind) (n : Int) (h : P.underlying t = some (.int k)) (hw : (Lit.int k n).wf = true) : yce P t [.it k n]
 | st (t : TypeId) (l : List UInt8) (h : P.underlying t = some .string) (hw : l.length <= maxLen) : yce P t [.st l]
 | sl (t e : TypeId) (h : P.underlying t = some (.slice e)) (rows : List (List AV)) (hr : ∀ r ∈ rows, yce P e r) (hm : rows.length <= maxLen) : yce P t [.sl false rows.length rows.flatten]
 | stc (t : TypeId) (fs : Array Field) (h : P.underlying t = some (.struct fs)) (us : List AV) (hf : yer P fs.toList us) : yce P t us
inductive yer (P : Program) : List Field → List AV → Prop
 | nil : yer P [] []
 | cons (f : Field) (r : List Field) (p q : List AV) (hp : yce P f.type p) (hq : yer P r q) : yer P (f :: r) (p ++ q)
end
theorem yic {α : Type} {Q : Nat → α → Prop} : ∀ (n : Nat), (∀ i, i < n → ∃ x, Q i x) → ∃ l : List α, l.length = n ∧ ∀ (i : Nat) (x : α), l[i]? = some x → Q i x
 | 0, _ => ⟨[], rfl, fun i x h => by simp at h⟩
 | n + 1, h => by
   obtain ⟨l, h1, h2⟩ := yic n fun i hi => h i (by omega)
   obtain ⟨x, hx⟩ := h n (by omega)
   refine ⟨l ++ [x], by simp [h1], fun i y hy => ?_⟩
   by_cases hi : i < l.length
   ·rw [List.getElem?_append_left hi] at hy; exact h2 i y hy
   ·rw [List.getElem?_append_right (by omega)] at hy
    have : i - l.length = 0 := by
     have := (List.getElem?_eq_some_iff.1 hy).1
     simp at this; omega
    rw [this] at hy
    simp at hy; subst hy
    have : i = n := by omega
    rw [this]; exact hx
theorem yhO {sz : Nat} (h0 : 0 < sz) : ∀ (rows : List (List AV)), (∀ r ∈ rows, r.length = sz) → ∀ (j : Nat) (u : AV), rows.flatten[j]? = some u → ∃ r, rows[j / sz]? = some r ∧ r[j % sz]? = some u
 | [], _, j, u, h => by simp at h
 | r :: rows, hr, j, u, h => by
   have hl : r.length = sz := hr r (by simp)
   rw [List.flatten_cons] at h
   by_cases hj : j < sz
   ·rw [List.getElem?_append_left (by omega)] at h
    rw [Nat.div_eq_of_lt hj, Nat.mod_eq_of_lt hj]
    exact ⟨r, rfl, h⟩
   ·rw [List.getElem?_append_right (by omega), hl] at h
    obtain ⟨q, h1, h2⟩ := yhO h0 rows (fun r hq => hr r (by simp [hq])) (j - sz) u h
    have e1 : j / sz = (j - sz) / sz + 1 := Nat.div_eq_sub_div h0 (by omega)
    have e2 : j % sz = (j - sz) % sz := (Nat.mod_eq_sub_mod (by omega))
    rw [e1, e2]
    exact ⟨q, by simpa using h1, h2⟩
section
variable {H : Type} {enc : TypeId × Value -> H} {P : Program} {G : Gh} {base : Nat} {held : Bool}
def TC (G : Gh) (us : List AV) (cs : List Value) : Prop := us.length = cs.length /\ (∀ (j : Nat) (u : AV) (x : Value), us[j]? = some u -> cs[j]? = some x -> VR G u x) /\ noLs us = true /\ ∀ u ∈ us, u.one = true
theorem TC.one1 {u : AV} {x : Value} (h : VR G u x) (hn : u.noL = true) (ho : u.one = true) : TC G [u] [x] := by
 refine ⟨rfl, fun j u' x' hu hx => ?_, by simp [noLs, hn], by simp [ho]⟩
 cases j with
 | zero => simp at hu hx; subst hu; subst hx; exact h
 | succ j => simp at hu
theorem TC.append {us vs : List AV} {cs ds : List Value} (h : TC G us cs) (k : TC G vs ds) : TC G (us ++ vs) (cs ++ ds) := by
 refine ⟨by simp [h.1, k.1], fun j u x hu hx => ?_, by rw [yhF, h.2.2.1, k.2.2.1]; rfl, fun u hu => ?_⟩
 ·by_cases hj : j < us.length
  ·rw [List.getElem?_append_left hj] at hu
   rw [List.getElem?_append_left (by rw [<- h.1]; exact hj)] at hx
   exact h.2.1 j u x hu hx
  ·rw [List.getElem?_append_right (by omega)] at hu
   rw [List.getElem?_append_right (by rw [<- h.1]; omega)] at hx
   rw [<- h.1] at hx
   exact k.2.1 _ u x hu hx
 ·rcases List.mem_append.1 hu with q | q
  ·exact h.2.2.2 u q
  ·exact k.2.2.2 u q
theorem yqX (hI : ∀ b, b < G.w.heap.size → G.I b) : ∀ (fuel k : Nat) (t : TypeId) (cs : List Value) (x : DataW H × List MemPlace), ygX P k t = true → DataW.trod enc P G.w base (fun _ => true) held fuel t cs = some x → cs.length = P.cellsOf t → ∃ us, TC G us cs ∧ yce P t us := by
 intro fuel
 induction fuel with
 | zero => intro k t cs x _ h; simp [DataW.trod] at h
 | succ fuel ih =>
   intro k t cs x hp h hlen
   cases k with
   | zero => cases hp
   | succ k =>
     simp only [ygX] at hp
     split at hp
     ·rename_i ht
      obtain ⟨b, rfl, _⟩ := DataW.trod_bool ht h
      exact ⟨_, TC.one1 (.bl b) rfl rfl, .bl t b ht⟩
     ·rename_i kk ht
      obtain ⟨n, rfl, _, hw⟩ := DataW.trod_int ht h
      exact ⟨_, TC.one1 (.it kk n) rfl rfl, .it t kk n ht hw⟩
     ·rename_i ht
      obtain ⟨s, rfl, _, hw⟩ := DataW.trod_string ht h
      exact ⟨_, TC.one1 (.st _ s rfl) rfl rfl, .st t _ ht (by simpa using hw)⟩
     ·rename_i e ht
      simp only [Bool.and_eq_true, decide_eq_true_eq] at hp
      obtain ⟨⟨hp1, hp2⟩, hp3⟩ := hp
      rcases DataW.trod_slice ht h with ⟨rfl, _⟩ | ⟨a, len, cap, elems, rest, n, hfu, rfl, _, hb, hl, hm, hel, hg, hsp, _⟩
      ·exact ⟨_, TC.one1 (.nsl false 0 [] rfl rfl) rfl rfl, .sl t e ht [] (fun r hr => by cases hr) (by simp)⟩
      ·cases hfu
       by_cases hl0 : len = 0
       ·subst hl0
        exact ⟨_, TC.one1 (.esl 0 [] rfl rfl a cap) rfl rfl, .sl t e ht [] (fun r hr => by cases hr) (by simp)⟩
       ·have hone : ∀ i, i < len → ∃ us : List AV, yce P e us ∧ ∃ csi, G.w.cells? base (a.add (i * P.cellsOf e)) (P.cellsOf e) = some csi ∧ csi.length = P.cellsOf e ∧ TC G us csi := by
         intro i hi
         have h1 := hg i hi
         rw [List.getElem?_eq_getElem (by rw [hel]; exact hi)] at h1
         obtain ⟨csi, h2, h3⟩ := Option.bind_eq_some_iff.1 h1
         have hcl : csi.length = P.cellsOf e := (World.cells?_some h2).2.1
         obtain ⟨us, u1, u2⟩ := ih k e csi _ hp2 h3 hcl
         exact ⟨us, u2, csi, h2, hcl, u1⟩
        obtain ⟨rows, r1, r2⟩ := yic len hone
        have hrl : ∀ r ∈ rows, r.length = P.cellsOf e := by
         intro r hr
         obtain ⟨i, hi⟩ := List.getElem?_of_mem hr
         obtain ⟨_, csi, _, q2, q3⟩ := r2 i r hi
         rw [q3.1, q2]
        have hcell : ∀ (j : Nat) (u : AV), rows.flatten[j]? = some u → ∃ y, G.w.cell? (a.add j) = some y ∧ VR G u y ∧ u.one = true ∧ u.noL = true := by
         intro j u hu
         obtain ⟨r, q1, q2⟩ := yhO hp3 rows hrl j u hu
         obtain ⟨_, csi, s1, s2, s3⟩ := r2 _ r q1
         have hq : j % P.cellsOf e < P.cellsOf e := Nat.mod_lt _ hp3
         have hcs := (World.cells?_some s1).2.2 (j % P.cellsOf e) hq
         have e1 : (a.add (j / P.cellsOf e * P.cellsOf e)).add (j % P.cellsOf e) = a.add j := by
          rw [Addr.add_add]
          congr 1
          rw [Nat.mul_comm]; exact Nat.div_add_mod j _
         rw [e1] at hcs
         have hx : csi[j % P.cellsOf e]? = some csi[j % P.cellsOf e] := List.getElem?_eq_getElem (by rw [s2]; exact hq)
         refine ⟨csi[j % P.cellsOf e], ?_, s3.2.1 _ u _ q2 hx, s3.2.2.2 u (List.mem_of_getElem? q2), yaB s3.2.2.1 _ u q2⟩
         rw [hcs, hx]
        have hne : 0 < rows.flatten.length := by
         match rows, r1, hrl with
         | r :: rows, _, hrl =>
           rw [List.flatten_cons, List.length_append, hrl r (by simp)]; omega
         | [], r1, _ => simp at r1; omega
        obtain ⟨y0, c0, _⟩ := hcell 0 _ (List.getElem?_eq_getElem hne)
        have ha0 : a.add 0 = a := by cases a; simp [Addr.add]
        rw [ha0] at c0
        obtain ⟨ab, ao, asp⟩ := a
        have hspot : asp = none := by
         cases asp with
         | none => rfl
         | some q =>
           unfold World.cell? at c0
           split at c0
           ·simp at c0
           ·cases c0
        subst hspot
        have hblk : ab < G.w.heap.size := World.block_lt_of_cell? G.w _ c0
        have hxs : ∀ (j : Nat) (u : AV), rows.flatten[j]? = some u → ∃ y, G.w.cell? ⟨ab, ao + j, none⟩ = some y ∧ VR G u y ∧ u.one = true ∧ u.noL = true := by
         intro j u hu
         have := hcell j u hu
         rwa [Addr.add_lit] at this
        have hno : noLs rows.flatten = true := yd3.2 fun u hu => by
         obtain ⟨j, hj⟩ := List.getElem?_of_mem hu
         obtain ⟨y, _, _, _, q⟩ := hxs j u hj
         exact q
        have hty : yce P t [.sl false rows.length rows.flatten] := .sl t e ht rows (fun r hr => by
         obtain ⟨i, hi⟩ := List.getElem?_of_mem hr
         exact (r2 i r hi).1) (by rw [r1]; omega)
        rw [r1] at hty
        refine ⟨[.sl false len rows.flatten], TC.one1 (.sl len rows.flatten ab ao cap (fun j => (G.w.cell? ⟨ab, ao + j, none⟩).getD undef) (hI ab hblk) ?_ ?_ ?_ hl (by omega) hno) rfl rfl, hty⟩
        ·intro j u hu
         obtain ⟨y, q1, _⟩ := hxs j u hu
         rw [q1]; rfl
        ·intro j u hu
         obtain ⟨y, q1, q2, _⟩ := hxs j u hu
         simp only [q1, Option.getD_some]; exact q2
        ·intro j u hu
         obtain ⟨y, q1, q2, q3, _⟩ := hxs j u hu
         simp only [q1, Option.getD_some]; exact q2.one q3
     ·rename_i fs ht
      obtain ⟨xs, n, hfu, _, hcl, hxl, hf⟩ := DataW.trod_struct ht h
      cases hfu
      have key : ∀ (l : List Field) (i o : Nat) (tot : Nat), fs.toList.drop i = l → ygW P (ygX P k) l o = some tot → o ≤ cs.length → tot = cs.length → ∃ us, TC G us (cs.drop o) ∧ yer P l us := by
       intro l
       induction l with
       | nil =>
         intro i o tot _ hc ho htot
         simp only [ygW, Option.some.injEq] at hc
         subst hc
         rw [List.drop_eq_nil_of_le (by omega)]
         exact ⟨[], ⟨rfl, fun j u x hu => by simp at hu, rfl, fun u hu => by cases hu⟩, .nil⟩
       | cons f l ihl =>
         intro i o tot hd hc ho htot
         simp only [ygW] at hc
         split at hc
         ·rename_i hcnd
          have hfi : fs[i]? = some f := by
           have : fs.toList[i]? = some f := by
            have := congrArg (·[0]?) hd
            simpa using this
           simpa using this
          have hi : i < fs.size := (Array.getElem?_eq_some_iff.1 hfi).1
          have h1 := hf i f hfi
          rw [List.getElem?_eq_getElem (by rw [hxl]; exact hi), hcnd.1] at h1
          have hmono : ∀ (l : List Field) (o tot : Nat), ygW P (ygX P k) l o = some tot → o ≤ tot := by
           intro l
           induction l with
           | nil => intro o tot h; simp only [ygW, Option.some.injEq] at h; omega
           | cons g l ihm =>
             intro o tot h
             simp only [ygW] at h
             split at h
             ·have := ihm _ _ h; omega
             ·cases h
          have hle := hmono _ _ _ hc
          obtain ⟨us, u1, u2⟩ := ih k f.type _ _ hcnd.2 h1 (by simp; omega)
          obtain ⟨vs, v1, v2⟩ := ihl (i + 1) _ tot (by rw [<- List.drop_drop, hd]; rfl) hc (by omega) htot
          refine ⟨us ++ vs, ?_, .cons f l us vs u2 v2⟩
          have := u1.append v1
          rw [<- List.drop_drop, List.take_append_drop] at this
          exact this
         ·cases hc
      obtain ⟨us, u1, u2⟩ := key fs.toList 0 0 _ rfl (by simpa using hp) (Nat.zero_le _) hlen.symm
      exact ⟨us, by simpa using u1, .stc t fs ht us u2⟩
     ·cases hp
def G0 (w : World) : Gh := ⟨fun _ => none, yb0 (hSt (fun _ => none) 0), fun b => b < w.heap.size, w⟩
theorem ytA (w : World) : MRel (yaN (G0 w) 0) (hSt (fun _ => none) 0) (G0 w) := by
 refine { blk := ?_, inj := fun k k' r r' h => (by cases h), dead := fun k => Iff.rfl, live := ?_, apart := fun k r h => (by cases h), lt := fun b h => h, loc := fun d c r h => (by cases h), keep := fun k r h => (by cases h), heap := fun o r h => (by cases h), nx := Nat.le_refl _, gone := fun o _ h => h, I0 := fun b h => h, I1 := fun b h => .inl h, os := rfl, tape := rfl, output := rfl, size := Nat.le_refl _, same := fun b _ _ => rfl, hno := ?_ }
 ·intro k; cases k <;> trivial
 ·intro k b h; cases k <;> cases h
 ·intro k b h; cases k <;> cases h
theorem GOK.none {P : Program} {w : World} {I : Nat → Prop} (h : ynb.all (fun p => (P.globalNamed p.1).isNone) = true) (h' : P.globalNamed "internal/bytealg.MaxLen" = .none) (h2 : yqJ.all (fun n => (P.globalNamed n).isNone) = true := by kernel_rfl) : GOK P w I :=
 ⟨fun name avs hm g hg => (by have := List.all_eq_true.1 h _ hm; rw [hg] at this; cases this), fun g hg => (by rw [h'] at hg; cases hg), fun name hm g hg => (by have := List.all_eq_true.1 h2 _ hm; rw [hg] at this; cases this)⟩
theorem ylr {f : FuncId} {args : List AV} {vs : Array Value} {w : World} (hg : GOK P w fun b => b < w.heap.size) (hp : Pure P f args (.bl true)) (hV : VRs (G0 w) args vs.toList) : yeT P f vs w fun e w' => e = .returned (.bool true) ∧ Below w.heap.size w w' := by
 refine (hp (fun _ => none) 0 (G0 w) vs hg (ytA w) hV).mono ?_
 rintro e w' ⟨v, av, H', n', G', rfl, ⟨rfl, rfl, rfl⟩, hM, rfl, hv, _⟩
 exact ⟨by rw [hv.bl_inv], hM.os, hM.tape, hM.output, hM.size, fun k hk => hM.same k hk (fun k' r hr => by cases hr)⟩
end
def ylP (P : Program) (t : TypeId) {T : Type} (c : T -> List AV) (R : T -> Prop) : Prop := ∀ us, yce P t us -> ∃ v : T, us = c v /\ R v
theorem yf8 {P : Program} {t : TypeId} {k : IntKind} (ht : P.underlying t = some (.int k)) : ylP P t (eI k).c (fun n => (Lit.int k n).wf = true) := by
 intro us h
 cases h with
 | bl _ b h => rw [ht] at h; cases h
 | it _ k n h hw => rw [ht] at h; cases h; exact ⟨n, rfl, hw⟩
 | st _ l h => rw [ht] at h; cases h
 | sl _ e h => rw [ht] at h; cases h
 | stc _ fs h => rw [ht] at h; cases h
theorem ymP {P : Program} {t : TypeId} (ht : P.underlying t = some .string) : ylP P t eS.c (fun s => s.length ≤ maxLen) := by
 intro us h
 cases h with
 | bl _ b h => rw [ht] at h; cases h
 | it _ k n h => rw [ht] at h; cases h
 | st _ l h hw => exact ⟨l, rfl, hw⟩
 | sl _ e h => rw [ht] at h; cases h
 | stc _ fs h => rw [ht] at h; cases h
theorem yiV {P : Program} {t e : TypeId} {T : Type} (E : Enc T) {R : T → Prop} (ht : P.underlying t = some (.slice e)) (he : ylP P e E.c R) : ylP P t (eSl E).c (fun l => l.length ≤ maxLen ∧ ∀ v ∈ l, R v) := by
 intro us h
 cases h with
 | bl _ b h => rw [ht] at h; cases h
 | it _ k n h => rw [ht] at h; cases h
 | st _ l h => rw [ht] at h; cases h
 | sl _ e h rows hr hm =>
   rw [ht] at h; cases h
   have key : ∀ rows : List (List AV), (∀ r ∈ rows, yce P e r) → ∃ l : List T, rows = l.map E.c ∧ ∀ v ∈ l, R v := by
    intro rows
    induction rows with
    | nil => exact fun _ => ⟨[], rfl, fun v hv => by cases hv⟩
    | cons r rows ih =>
      intro h
      obtain ⟨l, h1, h2⟩ := ih fun q hq => h q (by simp [hq])
      obtain ⟨v, h3, h4⟩ := he r (h r (by simp))
      refine ⟨v :: l, by rw [h1, h3]; rfl, fun u hu => ?_⟩
      rcases List.mem_cons.1 hu with rfl | hu
      ·exact h4
      ·exact h2 u hu
   obtain ⟨l, rfl, h2⟩ := key rows hr
   refine ⟨l, ?_, by simpa using hm, h2⟩
   show [AV.sl false (l.map E.c).length (l.map E.c).flatten] = [slA E l]
   unfold slA cl
   rw [List.length_map, List.flatMap_def]
 | stc _ fs h => rw [ht] at h; cases h
theorem yce.fields {P : Program} {t : TypeId} {fs : Array Field} (ht : P.underlying t = some (.struct fs)) {us : List AV} (h : yce P t us) : yer P fs.toList us := by
 cases h with
 | bl _ b h => rw [ht] at h; cases h
 | it _ k n h => rw [ht] at h; cases h
 | st _ l h => rw [ht] at h; cases h
 | sl _ e h => rw [ht] at h; cases h
 | stc _ fs h us hf => rw [ht] at h; cases h; exact hf
theorem yer.first {P : Program} {f : Field} {r : List Field} {us : List AV} (h : yer P (f :: r) us) {T : Type} {c : T → List AV} {R : T → Prop} (hc : ylP P f.type c R) : ∃ v q, us = c v ++ q ∧ R v ∧ yer P r q := by
 cases h with
 | cons _ _ p q hp hq =>
   obtain ⟨v, rfl, h2⟩ := hc _ hp
   exact ⟨v, q, rfl, h2, hq⟩
theorem yer.last {P : Program} {us : List AV} (h : yer P [] us) : us = [] := by
 cases h; rfl
section
variable {H : Type} {enc : TypeId × Value -> H} {P : Program} {w : World} {r : Reach} {v : Value} {d : DataW H} {p : List MemPlace} {held : Bool}
def ysc (P : Program) (t : TypeId) : Bool := match P.underlying t with
 | some .bool => true
 | some (.int _) => true
 | some .string => true
 | some (.slice _) => true
 | _ => false
theorem ykv {t : TypeId} (k : Nat) (hp : ygX P k t = true) (hc : ysc P t = true) {T : Type} {av : T → AV} {R : T → Prop} (ht : ylP P t (fun x => [av x]) R) {b0 : Nat} (ok : Value.okWide P w r b0 t v) (h : DataW.Trod enc P w 0 (fun _ => true) held t v d p) : ∃ x, VR (G0 w) (av x) v ∧ R x := by
 obtain ⟨fuel, h⟩ := h
 have h1 : v.cells.toList = [v] ∧ P.cellsOf t = 1 := by
  cases k with
  | zero => cases hp
  | succ k =>
    unfold ysc at hc
    unfold ygX at hp
    revert hc
    revert hp
    cases hu : P.underlying t with
    | none => intro _ hc; cases hc
    | some u =>
      cases u with
      | bool => intro hp _; obtain ⟨b, rfl⟩ := okWide_bool hu ok; exact ⟨rfl, by simpa using hp⟩
      | int k => intro hp _; obtain ⟨n, rfl⟩ := okWide_int hu ok; exact ⟨rfl, by simpa using hp⟩
      | string => intro hp _; obtain ⟨b, rfl⟩ := okWide_string hu ok; exact ⟨rfl, by simpa using hp⟩
      | slice e => intro hp _; obtain ⟨a, len, cap, rfl⟩ := okWide_slice hu ok; exact ⟨rfl, by simp at hp; exact hp.1.1⟩
      | _ => intro _ hc; cases hc
 rw [h1.1] at h
 obtain ⟨us, q1, q2⟩ := yqX (G := G0 w) (fun b hb => hb) fuel k t [v] _ hp h (by simp [h1.2])
 obtain ⟨x, rfl, hR⟩ := ht us q2
 exact ⟨x, q1.2.1 0 _ _ rfl rfl, hR⟩
theorem VRs.nil (G : Gh) : VRs G [] [] := ⟨rfl, fun j u x h => by simp at h⟩
theorem yix {f : FuncId} {F : AFn} (hF : trF P f = some F) {vs : Array Value} {Q : Ending → World → Prop} (h : yeT P f vs w Q) : Calls P f vs w Q := by
 unfold yeT at h
 rw [enters_of hF vs w] at h
 exact h
end
end Go.AV
end
noncomputable section
namespace Go.AV
open Go.RowKit
theorem wrap64 {n : Int} (h : -9223372036854775808 ≤ n) (k : n < 9223372036854775808) : IntKind.i64.wrap n = n := by
 simp [IntKind.wrap, IntKind.bits, IntKind.signed]; omega
theorem ysS {n : Int} (h : 0 ≤ n) (k : n < 256) : IntKind.u8.wrap n = n := by
 simp [IntKind.wrap, IntKind.bits, IntKind.signed]; omega
theorem yoK (n : Int) : IntKind.i64.wrap n = if n % 18446744073709551616 ≥ 9223372036854775808 then n % 18446744073709551616 - 18446744073709551616 else n % 18446744073709551616 := by
 simp [IntKind.wrap, IntKind.bits, IntKind.signed]
theorem ypi (n : Int) : bits .and .i64 n 1 = n % 2 := by
 have h1 : (BitVec.ofInt 64 1).toNat = 2 ^ 1 - 1 := by decide
 have key : (BitVec.ofInt 64 n &&& BitVec.ofInt 64 1).toNat = (n % ((2 ^ 64 : Nat) : Int)).toNat % 2 ^ 1 := by
  rw [BitVec.toNat_and, BitVec.toNat_ofInt, h1, Nat.and_two_pow_sub_one_eq_mod]
 show IntKind.i64.wrap ((BitVec.ofInt 64 n &&& BitVec.ofInt 64 1).toNat : Nat) = n % 2
 rw [key, yoK]
 split <;> omega
theorem wf64 {n : Int} : (Lit.int .i64 n).wf = true ↔ -9223372036854775808 ≤ n ∧ n ≤ 9223372036854775807 := by
 simp [Lit.wf, IntKind.min, IntKind.max, IntKind.signed, IntKind.bits]
theorem wfu8 {n : Int} : (Lit.int .u8 n).wf = true ↔ 0 ≤ n ∧ n ≤ 255 := by
 simp [Lit.wf, IntKind.min, IntKind.max, IntKind.signed, IntKind.bits]
theorem lp1 {α : Type} {L : (α → Prop) → α → Prop} (I : α → Prop) (m : α → Nat) (step : ∀ X a, I a → (∀ b, I b → m b < m a → X b) → L X a) {a : α} (ha : I a) : ∀ X : α → Prop, (∀ x, L X x → X x) → X a := by
 intro X hX
 have key : ∀ n a, I a → m a = n → X a := by
  intro n
  induction n using Nat.strongRecOn with
  | _ n ih => intro a ha hm; exact hX a (step X a ha fun b hb hlt => ih (m b) (by omega) b hb rfl)
 exact key _ a ha rfl
theorem lp2 {α β : Type} {L : (α → β → Prop) → α → β → Prop} (I : α → β → Prop) (m : α → β → Nat) (step : ∀ X a b, I a b → (∀ a' b', I a' b' → m a' b' < m a b → X a' b') → L X a b) {a : α} {b : β} (ha : I a b) : ∀ X : α → β → Prop, (∀ x y, L X x y → X x y) → X a b := by
 intro X hX
 have key : ∀ n a b, I a b → m a b = n → X a b := by
  intro n
  induction n using Nat.strongRecOn with
  | _ n ih => intro a b ha hm; exact hX a b (step X a b ha fun a' b' hb hlt => ih (m a' b') (by omega) a' b' hb rfl)
 exact key _ a b ha rfl
end Go.AV
end
