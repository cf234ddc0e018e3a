/-
  A region that draws its order: the order of the text will do, where what the operations do does not get in each other's way.
-/
import Derived.Test.YteoohihaibgplaaDoorAvT
namespace Go.AV
open Go.RowKit Go.RG Go.Lib

/-- what an operation of such a region does: its value, places of the frame's own (turned, gone, new), a site that counts on, the objects -/
structure REff where
  v : AV
  mem : List ((Nat × Nat) × Option Blk)
  bump : List Nat
  H : Option (Hp × Nat)

def REff.ml (e : REff) : List (Key × Option Blk) := e.mem.map fun p => (.l p.1.1 p.1.2, p.2)
def REff.memM (e : REff) (M : Key → Option Blk) : Key → Option Blk := fun k => match e.H, k with
  | some (H, _), .h o => H o
  | _, k => e.ml.foldl (fun M p => updK M p.1 p.2) M k
def REff.cntF (e : REff) (c : Nat → Nat) : Nat → Nat := cntB e.bump c
def REff.mst (e : REff) (S : St) : St := ⟨S.fr, e.memM S.M, e.cntF S.cnt, match e.H with | some (_, n) => n | none => S.nx⟩
def REff.app (e : REff) (d : Option Nat) (S : St) : St := (e.mst S).put d e.v

theorem ml_h (e : REff) (o : Nat) : ∀ p ∈ e.ml, p.1 ≠ .h o := by
  intro p hp
  obtain ⟨q, _, rfl⟩ := List.mem_map.1 hp
  intro h; cases h
theorem ml_mem {e : REff} {p : Key × Option Blk} (hp : p ∈ e.ml) : ∃ q ∈ e.mem, p.1 = .l q.1.1 q.1.2 := by
  obtain ⟨q, hq, rfl⟩ := List.mem_map.1 hp
  exact ⟨q, hq, rfl⟩

/-! ### effects that do not get in each other's way -/
theorem foldM_ne {l : List (Key × Option Blk)} {k : Key} (h : ∀ p ∈ l, p.1 ≠ k) (M : Key → Option Blk) : l.foldl (fun M p => updK M p.1 p.2) M k = M k := by
  induction l generalizing M with
  | nil => rfl
  | cons p l ih =>
    rw [List.foldl_cons, ih (fun q hq => h q (List.mem_cons_of_mem _ hq))]
    simp [updK, (h p (by simp)).symm]
theorem foldM_in {l : List (Key × Option Blk)} {k : Key} (h : ∃ p ∈ l, p.1 = k) (M M' : Key → Option Blk) : l.foldl (fun M p => updK M p.1 p.2) M k = l.foldl (fun M p => updK M p.1 p.2) M' k := by
  induction l generalizing M M' with
  | nil => obtain ⟨p, hp, _⟩ := h; cases hp
  | cons p l ih =>
    rw [List.foldl_cons, List.foldl_cons]
    by_cases hk : ∃ q ∈ l, q.1 = k
    · exact ih hk _ _
    · have hn : ∀ q ∈ l, q.1 ≠ k := fun q hq e => hk ⟨q, hq, e⟩
      rw [foldM_ne hn, foldM_ne hn]
      obtain ⟨q, hq, e⟩ := h
      rcases List.mem_cons.1 hq with rfl | hq
      · simp [updK, e]
      · exact absurd e (hn q hq)
theorem foldM_eq {l : List (Key × Option Blk)} {k : Key} {M M' : Key → Option Blk} (h : M k = M' k) : l.foldl (fun M p => updK M p.1 p.2) M k = l.foldl (fun M p => updK M p.1 p.2) M' k := by
  by_cases hk : ∃ p ∈ l, p.1 = k
  · exact foldM_in hk _ _
  · have hn : ∀ q ∈ l, q.1 ≠ k := fun q hq e => hk ⟨q, hq, e⟩
    rw [foldM_ne hn, foldM_ne hn, h]

theorem cntB_nil (c : Nat → Nat) : cntB [] c = c := by funext s; simp [cntB]
theorem cntB_one (s : Nat) (c : Nat → Nat) : cntB [s] c = upd c s (c s + 1) := by
  funext t
  simp only [cntB, upd, List.mem_singleton]
  split
  · rename_i e; rw [e]
  · rfl
/-- apart: slots, places, counters -/
def Apart (e : REff) (d : Option Nat) (f : REff) (c : Option Nat) : Prop := (∀ t, d = some t → c ≠ some t) ∧ (∀ p ∈ e.mem, ∀ q ∈ f.mem, p.1 ≠ q.1) ∧ (∀ s ∈ e.bump, s ∉ f.bump) ∧ (e.H = none ∨ f.H = none)

theorem St.ext4 {S T : St} (h1 : ∀ t, S.fr t = T.fr t) (h2 : ∀ k, S.M k = T.M k) (h3 : ∀ s, S.cnt s = T.cnt s) (h4 : S.nx = T.nx) : S = T := by
  cases S; cases T
  simp only [St.mk.injEq]
  exact ⟨funext h1, funext h2, funext h3, h4⟩

theorem app_fr (e : REff) (d : Option Nat) (S : St) (t : Nat) : (e.app d S).fr t = if d = some t then e.v else S.fr t := by
  unfold REff.app REff.mst
  cases d with
  | none => simp [St.put]
  | some q =>
    simp only [St.put, upd, Option.some.injEq]
    by_cases h : t = q
    · subst h; simp
    · have h' : ¬ q = t := fun e => h e.symm
      simp [h, h']
theorem app_M (e : REff) (d : Option Nat) (S : St) : (e.app d S).M = e.memM S.M := by unfold REff.app REff.mst; cases d <;> rfl
theorem app_cnt (e : REff) (d : Option Nat) (S : St) : (e.app d S).cnt = e.cntF S.cnt := by unfold REff.app REff.mst; cases d <;> rfl
theorem app_nx (e : REff) (d : Option Nat) (S : St) : (e.app d S).nx = match e.H with | some (_, n) => n | none => S.nx := by unfold REff.app REff.mst; cases d <;> rfl
theorem memM_l (e : REff) (M : Key → Option Blk) (d c : Nat) : e.memM M (.l d c) = e.ml.foldl (fun M p => updK M p.1 p.2) M (.l d c) := by
  unfold REff.memM
  cases e.H <;> rfl
theorem memM_h (e : REff) (M : Key → Option Blk) (o : Nat) : e.memM M (.h o) = match e.H with | some (H, _) => H o | none => M (.h o) := by
  unfold REff.memM
  cases hH : e.H with
  | none => exact foldM_ne (ml_h e o) M
  | some p => rfl

theorem app_comm {e f : REff} {d c : Option Nat} (h : Apart e d f c) (S : St) : e.app d (f.app c S) = f.app c (e.app d S) := by
  obtain ⟨h1, h2, h3, h4⟩ := h
  refine St.ext4 ?_ ?_ ?_ ?_
  · intro t
    simp only [app_fr]
    by_cases e1 : d = some t
    · have : c ≠ some t := h1 t e1
      simp [e1, this]
    · simp [e1]
  · intro k
    simp only [app_M]
    cases k with
    | h o =>
      simp only [memM_h]
      rcases h4 with h4 | h4 <;> simp [h4]
    | l a b =>
      simp only [memM_l]
      by_cases hk : ∃ p ∈ e.ml, p.1 = .l a b
      · have hn : ∀ q ∈ f.ml, q.1 ≠ .l a b := by
          intro q hq e'
          obtain ⟨p, hp, hpk⟩ := hk
          obtain ⟨p', hp', e1⟩ := ml_mem hp
          obtain ⟨q', hq', e2⟩ := ml_mem hq
          refine h2 p' hp' q' hq' ?_
          rw [e1] at hpk; rw [e2] at e'
          injection hpk with x1 x2; injection e' with y1 y2
          exact Prod.ext (x1.trans y1.symm) (x2.trans y2.symm)
        rw [foldM_ne hn, memM_l]
        exact foldM_in hk _ _
      · have hn : ∀ q ∈ e.ml, q.1 ≠ .l a b := fun q hq e => hk ⟨q, hq, e⟩
        rw [foldM_ne hn, memM_l]
        refine foldM_eq ?_
        rw [memM_l, foldM_ne hn]
  · intro s
    simp only [app_cnt, REff.cntF, cntB]
    by_cases q1 : s ∈ e.bump
    · have := h3 s q1; simp [q1, this]
    · simp [q1]
  · simp only [app_nx]
    rcases h4 with h4 | h4 <;> simp [h4]

/-- a region: each operation's effect, slot, what it reads, what is ahead of it -/
structure Reg where
  n : Nat
  eff : Nat → REff
  dst : Nat → Option Nat
  rs : Nat → List Nat
  rk : Nat → List Key
  rh : Nat → Bool
  anc : Nat → List Nat

def Reg.go (R : Reg) (D : Nat → Bool) : List Nat → St → St
  | [], S => S
  | i :: l, S => R.go D l (if D i then (R.eff i).app (R.dst i) S else S)
def Reg.st (R : Reg) (D : Nat → Bool) (S : St) : St := R.go D (List.range R.n) S

theorem Reg.go_append (R : Reg) (D : Nat → Bool) (l m : List Nat) (S : St) : R.go D (l ++ m) S = R.go D m (R.go D l S) := by
  induction l generalizing S with
  | nil => rfl
  | cons i l ih => exact ih _

theorem Reg.go_congr (R : Reg) {D D' : Nat → Bool} {l : List Nat} (h : ∀ i ∈ l, D i = D' i) (S : St) : R.go D l S = R.go D' l S := by
  induction l generalizing S with
  | nil => rfl
  | cons i l ih =>
    simp only [Reg.go]
    rw [h i (by simp), ih (fun j hj => h j (List.mem_cons_of_mem _ hj))]

/-- an effect that is apart from all that is done behind it may be done last -/
theorem Reg.go_last (R : Reg) {D : Nat → Bool} {e : REff} {d : Option Nat} {l : List Nat} (h : ∀ j ∈ l, D j = true → Apart e d (R.eff j) (R.dst j)) (S : St) : R.go D l (e.app d S) = e.app d (R.go D l S) := by
  induction l generalizing S with
  | nil => rfl
  | cons i l ih =>
    simp only [Reg.go]
    cases hD : D i with
    | false => simp only [Bool.false_eq_true, if_false]; exact ih (fun j hj => h j (List.mem_cons_of_mem _ hj)) S
    | true =>
      simp only [if_true]
      rw [← app_comm (h i (by simp) hD) S]
      exact ih (fun j hj => h j (List.mem_cons_of_mem _ hj)) _

/-- two operations neither of which is ahead of the other -/
def Reg.free (R : Reg) (i j : Nat) : Prop := i ≠ j ∧ j ∉ R.anc i ∧ i ∉ R.anc j

structure Reg.Ok (R : Reg) : Prop where
  apart : ∀ i j, i < R.n → j < R.n → R.free i j → Apart (R.eff i) (R.dst i) (R.eff j) (R.dst j)
  slots : ∀ i j, i < R.n → j < R.n → R.free i j → ∀ t, R.dst j = some t → t ∉ R.rs i
  keys : ∀ i j, i < R.n → j < R.n → R.free i j → ∀ p ∈ (R.eff j).mem, .l p.1.1 p.1.2 ∉ R.rk i
  heap : ∀ i j, i < R.n → j < R.n → R.free i j → (R.eff j).H = none ∨ R.rh i = false
  rkh : ∀ i, i < R.n → R.rh i = false → ∀ o, .h o ∉ R.rk i
  anc : ∀ i, ∀ x ∈ R.anc i, x < i

/-- what an operation looks at is the same -/
structure Agree (rs : List Nat) (rk : List Key) (rh : Bool) (b : List Nat) (S T : St) : Prop where
  fr : ∀ t ∈ rs, S.fr t = T.fr t
  M : ∀ k ∈ rk, S.M k = T.M k
  cnt : ∀ s ∈ b, S.cnt s = T.cnt s
  hp : rh = true → (∀ o, S.M (.h o) = T.M (.h o)) ∧ S.nx = T.nx

theorem Reg.agree (R : Reg) (hO : R.Ok) {i : Nat} (hi : i < R.n) {D D' : Nat → Bool} {l : List Nat} (hl : ∀ j ∈ l, j < R.n) (h : ∀ j ∈ l, D j ≠ D' j → R.free i j) {S T : St} (hA : Agree (R.rs i) (R.rk i) (R.rh i) (R.eff i).bump S T) : Agree (R.rs i) (R.rk i) (R.rh i) (R.eff i).bump (R.go D l S) (R.go D' l T) := by
  induction l generalizing S T with
  | nil => exact hA
  | cons j l ih =>
    simp only [Reg.go]
    refine ih (fun q hq => hl q (List.mem_cons_of_mem _ hq)) (fun q hq => h q (List.mem_cons_of_mem _ hq)) ?_
    have hj := hl j (by simp)
    have both : Agree (R.rs i) (R.rk i) (R.rh i) (R.eff i).bump ((R.eff j).app (R.dst j) S) ((R.eff j).app (R.dst j) T) := by
      refine ⟨fun t ht => ?_, fun k hk => ?_, fun s hs => ?_, fun hh => ⟨fun o => ?_, ?_⟩⟩
      · rw [app_fr, app_fr, hA.fr t ht]
      · rw [app_M, app_M]
        cases k with
        | l a b => rw [memM_l, memM_l]; exact foldM_eq (hA.M _ hk)
        | h o => rw [memM_h, memM_h, hA.M _ hk]
      · rw [app_cnt, app_cnt]; unfold REff.cntF cntB
        rw [hA.cnt s hs]
      · rw [app_M, app_M, memM_h, memM_h, (hA.hp hh).1 o]
      · rw [app_nx, app_nx, (hA.hp hh).2]
    have oneF : R.free i j → ∀ S, (∀ t ∈ R.rs i, ((R.eff j).app (R.dst j) S).fr t = S.fr t) ∧ (∀ k ∈ R.rk i, ((R.eff j).app (R.dst j) S).M k = S.M k) ∧ (∀ s ∈ (R.eff i).bump, ((R.eff j).app (R.dst j) S).cnt s = S.cnt s) ∧ (R.rh i = true → (∀ o, ((R.eff j).app (R.dst j) S).M (.h o) = S.M (.h o)) ∧ ((R.eff j).app (R.dst j) S).nx = S.nx) := by
      intro hf S
      have hH : R.rh i = true → (R.eff j).H = none := fun h => (hO.heap i j hi hj hf).resolve_right (by rw [h]; simp)
      refine ⟨fun t ht => ?_, fun k hk => ?_, fun s hs => ?_, fun hh => ⟨fun o => ?_, ?_⟩⟩
      · rw [app_fr, if_neg (fun e => hO.slots i j hi hj hf t e ht)]
      · rw [app_M]
        cases k with
        | l a b =>
          rw [memM_l]
          refine foldM_ne (fun p hp e => ?_) _
          obtain ⟨q, hq, e1⟩ := ml_mem hp
          exact hO.keys i j hi hj hf q hq (by rw [← e1, e]; exact hk)
        | h o =>
          have : R.rh i = true := by
            cases h : R.rh i with
            | true => rfl
            | false => exact absurd hk (hO.rkh i hi h o)
          rw [memM_h, hH this]
      · rw [app_cnt]; unfold REff.cntF cntB
        rw [if_neg ((hO.apart i j hi hj hf).2.2.1 s hs)]
      · rw [app_M, memM_h, hH hh]
      · rw [app_nx, hH hh]
    cases hD : D j <;> cases hD' : D' j
    · simp only [Bool.false_eq_true, if_false]; exact hA
    · have hf := h j (by simp) (by rw [hD, hD']; simp)
      obtain ⟨a1, a2, a3, a4⟩ := oneF hf T
      simp only [Bool.false_eq_true, if_false, if_true]
      exact ⟨fun t ht => (hA.fr t ht).trans (a1 t ht).symm, fun k hk => (hA.M k hk).trans (a2 k hk).symm, fun s hs => (hA.cnt s hs).trans (a3 s hs).symm, fun hh => ⟨fun o => ((hA.hp hh).1 o).trans ((a4 hh).1 o).symm, (hA.hp hh).2.trans (a4 hh).2.symm⟩⟩
    · have hf := h j (by simp) (by rw [hD, hD']; simp)
      obtain ⟨a1, a2, a3, a4⟩ := oneF hf S
      simp only [Bool.false_eq_true, if_false, if_true]
      exact ⟨fun t ht => (a1 t ht).trans (hA.fr t ht), fun k hk => (a2 k hk).trans (hA.M k hk), fun s hs => (a3 s hs).trans (hA.cnt s hs), fun hh => ⟨fun o => ((a4 hh).1 o).trans ((hA.hp hh).1 o), (a4 hh).2.trans (hA.hp hh).2⟩⟩
    · simp only [if_true]; exact both

/-- one operation more -/
theorem Reg.st_succ (R : Reg) (hO : R.Ok) {D : Nat → Bool} {i : Nat} (hi : i < R.n) (hDi : D i = false) (hup : ∀ j, j < R.n → D j = true → i ∉ R.anc j) (S : St) : R.st (RG.upd D i) S = (R.eff i).app (R.dst i) (R.st D S) := by
  unfold Reg.st
  have hsplit : List.range R.n = List.range i ++ (i :: List.range' (i + 1) (R.n - i - 1)) := by
    have e1 : R.n = i + ((R.n - i - 1) + 1) := by omega
    rw [← List.range'_succ, List.range_eq_range', List.range_eq_range']
    have := List.range'_append_1 (s := 0) (m := i) (n := R.n - i - 1 + 1)
    rw [Nat.zero_add] at this
    rw [this, ← e1]
  have hlt : ∀ j ∈ List.range' (i + 1) (R.n - i - 1), i < j ∧ j < R.n := by
    intro j hj
    rw [List.mem_range'_1] at hj
    omega
  rw [hsplit, Reg.go_append, Reg.go_append]
  simp only [Reg.go]
  have hi1 : RG.upd D i i = true := by simp [RG.upd]
  rw [hi1, hDi]
  simp only [if_true, Bool.false_eq_true, if_false]
  have hne : ∀ j, j ≠ i → RG.upd D i j = D j := by
    intro j hj
    have : (j == i) = false := by simpa using hj
    simp [RG.upd, this]
  rw [R.go_congr (D := RG.upd D i) (D' := D) (l := List.range i) (fun j hj => hne j (by have := List.mem_range.1 hj; omega)),
    R.go_congr (D := RG.upd D i) (D' := D) (l := List.range' (i + 1) (R.n - i - 1)) (fun j hj => hne j (by have := hlt j hj; omega))]
  refine R.go_last (fun j hj hDj => ?_) _
  obtain ⟨h1, h2⟩ := hlt j hj
  refine hO.apart i j hi h2 ⟨by omega, fun hm => ?_, hup j h2 hDj⟩
  have := hO.anc i j hm
  omega

/-! ### the operations -/
def key1 : AV → List Key
  | .pt k _ => [k]
  | .gs k _ => [k]
  | _ => []
def keyOf : AV → List Key
  | .pt k _ => [k]
  | .gs k _ => [k]
  | .agg cs => cs.flatMap key1
  | _ => []
theorem pval_congr {l l' : Key → Bool} {e e' : AOpd → AV} (u : AOp) (he : ∀ x ∈ opds u, e' x = e x) (hl : ∀ x ∈ opds u, ∀ k ∈ keyOf (e x), l' k = l k) : pval l' e' u = pval l e u := by
  have hb : ∀ {d : Int} {x : Option AOpd}, (∀ y ∈ x.toList, e' y = e y) → bnd e' d x = bnd e d x := by
    intro d x h
    cases x with
    | none => rfl
    | some x => simp only [bnd]; rw [h x (by simp)]
  cases u <;> simp only [opds, List.mem_cons, List.not_mem_nil, or_false, forall_eq_or_imp, forall_eq, List.mem_append] at he hl <;> simp only [pval]
  case mv x => rw [he]
  case pick c x y => rw [he.1, he.2.1, he.2.2]
  case bld z ps =>
    have : ps.map (fun p => (p.1, p.2.1, e' p.2.2)) = ps.map (fun p => (p.1, p.2.1, e p.2.2)) := by
      refine List.map_congr_left fun p hp => ?_
      rw [he _ (List.mem_map.2 ⟨p, hp, rfl⟩)]
    rw [this]
  case nck x =>
    rw [he]
    cases hx : e x with
    | pt k o => simp only [hl k (by rw [hx]; simp [keyOf])]
    | fn f a b => cases f <;> rfl
    | _ => rfl
  case bin o x y => rw [he.1, he.2]
  case eq g k x y =>
    rw [he.1, he.2]
    congr 1
    unfold eqP
    split
    · cases hx : e x <;> cases hy : e y <;> simp_all [keyOf]
    · rfl
    · rfl
  case eqs g k x y => rw [he.1, he.2]
  case un o x => rw [he]
  case cvi k x => rw [he]
  case cvs x => rw [he]
  case sls x lo hi =>
    have h1 : ∀ d, bnd e' d lo = bnd e d lo := fun d => hb fun y hy => he.2 y (.inl hy)
    have h2 : ∀ d, bnd e' d hi = bnd e d hi := fun d => hb fun y hy => he.2 y (.inr hy)
    simp only [he.1, h1, h2]
  case sll z x lo hi =>
    have h1 : ∀ d, bnd e' d lo = bnd e d lo := fun d => hb fun y hy => he.2 y (.inl hy)
    have h2 : ∀ d, bnd e' d hi = bnd e d hi := fun d => hb fun y hy => he.2 y (.inr hy)
    simp only [he.1, h1, h2]
  case fad o x => rw [he]; cases hx : e x <;> simp_all [keyOf]
  case fld g o z x => rw [he]
  case iad z x y =>
    rw [he.1, he.2]
    cases hx : e x with
    | gs k n => have q := hl.1 k (by rw [hx]; simp [keyOf]); cases e y <;> simp only [q]
    | _ => cases e y <;> rfl
  case iada n z x y =>
    rw [he.1, he.2]
    cases hx : e x with
    | pt k o => have q := hl.1 k (by rw [hx]; simp [keyOf]); cases e y <;> simp only [q]
    | _ => cases e y <;> rfl
  case idxs x y => rw [he.1, he.2]
  case idxa g n z x y => rw [he.1, he.2]
  case ext x i => rw [he]
  case lens x => rw [he]
  case len x => rw [he]; cases hx : e x <;> simp_all [keyOf]
  case mnx m xs => rw [List.map_congr_left he]
  case mkf f p c => rw [List.map_congr_left (fun x hx => he x (.inl hx)), List.map_congr_left (fun x hx => he x (.inr hx))]

/-! ### an operation's effect, out of what it looks at -/
def eff1 (v : AV) : REff := ⟨v, [], [], none⟩
def effP (v : Option AV) : Option REff := v.map eff1

/-- the new thing at a site -/
def effNew (hs : Nat → Bool) (d : Nat) (S : St) (kill : List (Nat × Nat)) (b : Blk) (v : Key → AV) : Option REff :=
  if hs d = false then some ⟨v (.l d (S.cnt d + 1)), kill.map (fun k => (k, none)) ++ [((d, S.cnt d + 1), some b)], [d], none⟩ else none

def effApp (hs : Nat → Bool) (d e sz m : Nat) (ys : List AV) (S : St) : AV → Option REff
  | .sl true _ _ => if m = 0 then some (eff1 (.sl true 0 [])) else effNew hs d S [] ⟨e, sz, ys⟩ fun k => .gs k m
  | .gs (.l q c) n => (S.M (.l q c)).bind fun b => if b.e = e ∧ b.sz = sz ∧ b.cells.length = n * sz ∧ n ≤ 1000000000 then effNew hs d S [(q, c)] ⟨e, sz, b.cells ++ ys⟩ fun k => .gs k (n + m) else none
  | _ => none

def effSto (sz : Nat) (S : St) (x y : AV) : Option REff := match x with
  | .pt k off => (S.M k).bind fun b => if b.sz ≠ 0 ∧ y.cells.length = sz ∧ y.cells.all AV.one = true ∧ off + sz ≤ b.cells.length ∧ hOk k (b.cells.take off ++ y.cells ++ b.cells.drop (off + sz)) = true then
      (match k with
        | .l q c => some ⟨.un, [((q, c), some { b with cells := b.cells.take off ++ y.cells ++ b.cells.drop (off + sz) })], [], none⟩
        | .h o => some ⟨.un, [], [], some (fun q => if q = o then some { b with cells := b.cells.take off ++ y.cells ++ b.cells.drop (off + sz) } else S.hp q, S.nx)⟩) else none
  | _ => none

def effLd (g : Bool) (sz : Nat) (p : Option (List AV × Nat)) : Option REff :=
  p.bind fun p => if g then (if p.2 + sz ≤ p.1.length then some (eff1 (.agg ((p.1.drop p.2).take sz))) else none) else effP p.1[p.2]?

def effCut (sz : Nat) (S : St) (q c n : Nat) (lo hi : Option Int) : Option REff := match lo, hi with
  | some 0, some p => (S.M (.l q c)).bind fun b => if b.sz = sz ∧ 0 < sz ∧ 0 ≤ p ∧ p ≤ n ∧ n * sz ≤ b.cells.length then some ⟨.gs (.l q c) p.toNat, [((q, c), some { b with cells := b.cells.take (p.toNat * sz) })], [], none⟩ else none
  | _, _ => none

def effSll (sz : Nat) (S : St) (x : AV) (lo hi : Option Int) (v : Option AV) : Option REff := match x with
  | .gs (.l q c) n => effCut sz S q c n lo hi
  | .gs (.h _) _ => none
  | _ => effP v

def effA (hs : Nat → Bool) (u : AOp) (d : Option Nat) (S : St) : Option REff :=
  match u with
  | .box e sz x => if (ev S.fr x).cells.length = sz ∧ (ev S.fr x).cells.all AV.one = true ∧ 0 < sz then effNew hs (site d) S [] ⟨e, sz, (ev S.fr x).cells⟩ fun k => .pt k 0 else none
  | .bsl e sz len z parts => if z.length = sz ∧ 0 < sz ∧ len * sz ≤ 16777216 then (fillA (zerosL z len) (parts.map fun p => (p.1, p.2.1, ev S.fr p.2.2))).bind fun cs => effNew hs (site d) S [] ⟨e, sz, cs.map weak⟩ fun k => .gs k len else none
  | .ld g sz x => effLd g sz (tgt S (ev S.fr x))
  | .sto sz x y => effSto sz S (ev S.fr x) (ev S.fr y)
  | .app e sz bytes x y => (srcA S (ev S.fr y)).bind fun p => if 0 < sz ∧ bytes ≤ 100000 ∧ p.2.length = p.1 * sz ∧ p.1 ≤ 400000000 then effApp hs (site d) e sz p.1 p.2 S (ev S.fr x) else none
  | .apps e x y => match ev S.fr y with
    | .st l => if l.length ≤ 400000000 then effApp hs (site d) e 1 l.length (encB l) S (ev S.fr x) else none
    | _ => none
  | .sll sz x lo hi => effSll sz S (ev S.fr x) (bnd (ev S.fr) 0 lo) (bnd (ev S.fr) ((match ev S.fr x with | .gs _ n => n | _ => 0 : Nat) : Int) hi) (pval (liveB S) (ev S.fr) (.sll sz x lo hi))
  | .mks e sz bytes z l c => match ev S.fr l, ev S.fr c with
    | .it _ n, .it _ m => if n = m ∧ 0 ≤ n ∧ z.length = sz ∧ 0 < sz ∧ bytes * n.toNat ≤ 281474976710656 ∧ n ≤ 1000000000 then effNew hs (site d) S [] ⟨e, sz, zerosL z n.toNat⟩ fun k => .gs k n.toNat else none
    | _, _ => none
  | .b2s x => match ev S.fr x with
    | .sl _ n xs => if xs.length = n then effP ((bytesA xs).map .st) else none
    | .gs k n => (S.M k).bind fun b => if b.sz ≠ 0 ∧ b.cells.length = n then effP ((bytesA b.cells).map .st) else none
    | _ => none
  | .call .. | .calv .. | .s2b .. => none
  | u => effP (pval (liveB S) (ev S.fr) u)

/-! ### what is handed over -/
def St.kills (S : St) (ks : List (Nat × Nat)) : St := { S with M := ks.foldl (fun M k => updK M (.l k.1 k.2) none) S.M }
theorem kills_append (S : St) (a b : List (Nat × Nat)) : S.kills (a ++ b) = (S.kills a).kills b := by simp [St.kills]
def pk1 (v : AV) (S : St) : List (Nat × Nat) :=
  match v with
  | .gs (.l d c) n => match S.M (.l d c) with
    | some b => if b.cells.length = n * b.sz ∧ b.sz ≠ 0 ∧ noLs b.cells = true then [(d, c)] else []
    | none => []
  | _ => []
def pks (l : List AV) (S : St) : List (Nat × Nat) :=
  match l with
  | [] => []
  | u :: r => pk1 u S ++ pks r (S.kills (pk1 u S))
def pkV (v : AV) (S : St) : List (Nat × Nat) :=
  if v.noL then [] else
  match v with
  | .agg cs => pks cs S
  | v => pk1 v S
def pkL (l : List AV) (S : St) : List (Nat × Nat) :=
  match l with
  | [] => []
  | u :: r => pkV u S ++ pkL r (S.kills (pkV u S))

theorem pub1_k (v : AV) (S : St) : (pub1 v S).2 = S.kills (pk1 v S) := by
  cases v with
  | gs k n => cases k with
    | l d c =>
      simp only [pub1, pk1]
      cases hm : S.M (.l d c) with
      | none => rfl
      | some b => simp only; split <;> rfl
    | h o => rfl
  | _ => rfl
theorem pubs_k : ∀ (l : List AV) (S : St), (pubs l S).2 = S.kills (pks l S)
  | [], _ => rfl
  | u :: r, S => by simp only [pubs, pks]; rw [pubs_k r, pub1_k, kills_append]
theorem pubV_k (v : AV) (S : St) : (pubV v S).2 = S.kills (pkV v S) := by
  by_cases h : v.noL = true
  · simp only [pubV, pkV, if_pos h]; rfl
  · simp only [pubV, pkV, if_neg h]
    cases v with
    | agg cs => exact pubs_k _ _
    | _ => exact pub1_k _ _
theorem pubL_k : ∀ (l : List AV) (S : St), (pubL l S).2 = S.kills (pkL l S)
  | [], _ => rfl
  | u :: r, S => by simp only [pubL, pkL]; rw [pubL_k r, pubV_k, kills_append]

/-- the same at some keys -/
def SameAt (ks : List Key) (S T : St) : Prop := ∀ k ∈ ks, S.M k = T.M k
theorem SameAt.kills {ks : List Key} {S T : St} (h : SameAt ks S T) (l : List (Nat × Nat)) : SameAt ks (S.kills l) (T.kills l) := by
  intro k hk
  unfold St.kills
  simp only
  induction l generalizing S T with
  | nil => exact h k hk
  | cons p l ih =>
    simp only [List.foldl_cons]
    refine ih (S := { S with M := updK S.M (.l p.1 p.2) none }) (T := { T with M := updK T.M (.l p.1 p.2) none }) (fun q hq => ?_)
    simp only [updK]
    split
    · rfl
    · exact h q hq
theorem SameAt.left {a b : List Key} {S T : St} (h : SameAt (a ++ b) S T) : SameAt a S T := fun k hk => h k (List.mem_append_left _ hk)
theorem SameAt.right {a b : List Key} {S T : St} (h : SameAt (a ++ b) S T) : SameAt b S T := fun k hk => h k (List.mem_append_right _ hk)

theorem pub1_same {v : AV} {S T : St} (h : SameAt (key1 v) S T) : (pub1 v T).1 = (pub1 v S).1 ∧ pk1 v T = pk1 v S := by
  cases v with
  | gs k n => cases k with
    | l d c =>
      simp only [pub1, pk1]
      rw [h (.l d c) (by simp [key1])]
      cases hm : T.M (.l d c) with
      | none => exact ⟨rfl, rfl⟩
      | some b => simp only; split <;> simp
    | h o => exact ⟨rfl, rfl⟩
  | _ => exact ⟨rfl, rfl⟩
theorem pubs_same : ∀ {l : List AV} {S T : St}, SameAt (l.flatMap key1) S T → (pubs l T).1 = (pubs l S).1 ∧ pks l T = pks l S
  | [], _, _, _ => ⟨rfl, rfl⟩
  | u :: r, S, T, h => by
    rw [List.flatMap_cons] at h
    obtain ⟨a, b⟩ := pub1_same h.left
    simp only [pubs, pks, pub1_k, a, b]
    obtain ⟨c, d⟩ := pubs_same (h.right.kills (pk1 u S))
    rw [c, d]
    exact ⟨rfl, rfl⟩
theorem pubV_same {v : AV} {S T : St} (h : SameAt (keyOf v) S T) : (pubV v T).1 = (pubV v S).1 ∧ pkV v T = pkV v S := by
  by_cases hn : v.noL = true
  · simp only [pubV, pkV, if_pos hn]; exact ⟨trivial, trivial⟩
  · simp only [pubV, pkV, if_neg hn]
    cases v with
    | agg cs =>
      obtain ⟨a, b⟩ := pubs_same (l := cs) h
      exact ⟨congrArg AV.agg a, b⟩
    | _ => exact pub1_same h
theorem pubL_same : ∀ {l : List AV} {S T : St}, SameAt (l.flatMap keyOf) S T → (pubL l T).1 = (pubL l S).1 ∧ pkL l T = pkL l S
  | [], _, _, _ => ⟨rfl, rfl⟩
  | u :: r, S, T, h => by
    rw [List.flatMap_cons] at h
    obtain ⟨a, b⟩ := pubV_same h.left
    simp only [pubL, pkL, pubV_k, a, b]
    obtain ⟨c, d⟩ := pubL_same (h.right.kills (pkV u S))
    rw [c, d]
    exact ⟨rfl, rfl⟩

theorem withH_self (S : St) : S.withH S.hp S.nx = S := by
  unfold St.withH St.hp
  cases S with
  | mk fr M cnt nx =>
    simp only [St.mk.injEq, true_and, and_true]
    funext k
    cases k <;> rfl

/-- a call's effect, where places are lent -/
def CallEL (P : Program) (f : Cal) (args : List AV) (S : St) (e : REff) : Prop :=
  ∃ (fn : FuncId) (inn : List (Nat × K2)) (out : List ((K2 × K2) × Blk)), f = .f fn ∧ LendOk inn S.M ∧ e.H = none ∧ e.mem = inn.map (fun p => (p.2, none)) ++ out.map (fun p => (p.1.2, some p.2)) ∧
    LContract P fn (args.map (reA (finL inn))) (memL inn S.M) S.hp S.nx fun av S1 => OutOk inn (out.map (·.1)) e.bump S.cnt S1 ∧ reA (fun d c => lkE (out.map (·.1)) (d, c)) av = e.v ∧ S1.hp = S.hp ∧ S1.nx = S.nx ∧ ∀ p ∈ out, (S1.M (.l p.1.1.1 p.1.1.2)).map (Blk.re fun d c => lkE (out.map (·.1)) (d, c)) = some p.2
/-- a call's effect -/
def CallE (P : Program) (f : Cal) (args : List AV) (S : St) (e : REff) : Prop :=
  (e.bump = [] ∧ e.mem = (pkL args S).map (fun k => (k, none)) ∧ CallsO P f args S fun v S' => v = e.v ∧ S' = e.mst S) ∨ (e = ⟨e.v, [], [], none⟩ ∧ CallsB P f args S fun v _ => v = e.v) ∨ CallEL P f args S e

/-- an operation's effect -/
def EffOk (hs : Nat → Bool) (CA : Program) (u : AOp) (d : Option Nat) (S : St) (e : REff) : Prop :=
  match u with
  | .call f args => CallE CA (.f f) (args.map (ev S.fr)) S e
  | .calv x args => match ev S.fr x with
    | .fn (.func f) first cap => CallE CA (.f f) (first ++ args.map (ev S.fr) ++ cap) S e
    | .yld o => CallE CA (.y o) (args.map (ev S.fr)) S e
    | _ => False
  | u => effA hs u d S = some e

theorem mst_eff1 (v : AV) (S : St) : (eff1 v).mst S = S := by
  unfold REff.mst eff1 REff.cntF
  cases S with
  | mk fr M cnt nx =>
    simp only [St.mk.injEq, true_and, and_true]
    refine ⟨?_, ?_⟩
    · funext k
      cases k <;> rfl
    · funext s; simp [cntB]

theorem mst_new {hs : Nat → Bool} {d : Nat} {S : St} {ks : List (Nat × Nat)} {b : Blk} {v : Key → AV} {e : REff} (h : effNew hs d S ks b v = some e) : hs d = false ∧ e.v = v (keyAt hs S d) ∧ e.mst S = (S.kills ks).new hs d b ∧ e.bump = [d] := by
  unfold effNew at h
  split at h
  · rename_i h0
    cases h
    refine ⟨h0, by simp [keyAt, h0], ?_, rfl⟩
    unfold REff.mst REff.cntF REff.memM REff.ml St.new
    simp only [h0, Bool.false_eq_true, if_false, List.map_append, List.map_map, List.map_cons, List.map_nil, List.foldl_append, List.foldl_cons, List.foldl_nil, St.kills]
    have hc : cntB [d] S.cnt = upd S.cnt d (S.cnt d + 1) := by
      funext s
      simp only [cntB, upd, List.mem_singleton]
      split
      · rename_i e; rw [e]
      · rfl
    simp only [St.mk.injEq, true_and, and_true, hc]
    funext k
    have : ∀ (l : List (Nat × Nat)) (M : Key → Option Blk), List.foldl (fun M (p : Key × Option Blk) => updK M p.1 p.2) M (l.map ((fun p : (Nat × Nat) × Option Blk => (Key.l p.1.1 p.1.2, p.2)) ∘ fun k => (k, none))) = l.foldl (fun M k => updK M (.l k.1 k.2) none) M := by
      intro l
      induction l with
      | nil => intro M; rfl
      | cons a l ih => intro M; simp only [List.map_cons, List.foldl_cons]; exact ih _
    rw [this]
  · cases h

variable {P : Program}
theorem effApp_ok {hs : Nat → Bool} {e sz m d : Nat} {ys : List AV} {x : AV} {S : St} {f : REff} {K : AV → St → Prop} (h : effApp hs d e sz m ys S x = some f) (hK : K f.v (f.mst S)) : aapp hs d e sz m ys S K x := by
  unfold effApp at h
  split at h
  · split at h
    · rename_i h0; cases h; simp only [aapp, if_pos h0]; rw [mst_eff1] at hK; exact hK
    · rename_i h0
      obtain ⟨h1, h2, h3, _⟩ := mst_new h
      simp only [aapp, if_neg h0]
      rw [h2, h3] at hK
      exact ⟨by simp [keyAt, h1, hOk], hK⟩
  · rename_i q c n
    obtain ⟨b, hb, h⟩ := Option.bind_eq_some_iff.1 h
    split at h
    · rename_i hc
      obtain ⟨h1, h2, h3, _⟩ := mst_new h
      simp only [aapp, hb, wpv_some]
      rw [h2, h3] at hK
      exact ⟨hc.1, hc.2.1, hc.2.2.1, hc.2.2.2, fun h => by simp [isH] at h, by simp [keyAt, h1, hOk], hK⟩
    · cases h
  · cases h

theorem foldM_some {l : List (Key × Option Blk)} {k : Key} {v : Option Blk} (h : (k, v) ∈ l) (hn : ∀ v', (k, v') ∈ l → v' = v) (M : Key → Option Blk) : l.foldl (fun M p => updK M p.1 p.2) M k = v := by
  induction l generalizing M with
  | nil => cases h
  | cons p l ih =>
    rw [List.foldl_cons]
    by_cases hk : ∃ q ∈ l, q.1 = k
    · obtain ⟨q, hq, e⟩ := hk
      have hq' : (k, q.2) ∈ l := by rw [← e]; exact hq
      have := hn q.2 (List.mem_cons_of_mem _ hq')
      rw [this] at hq'
      exact ih hq' (fun v' hv => hn v' (List.mem_cons_of_mem _ hv)) _
    · have hnk : ∀ q ∈ l, q.1 ≠ k := fun q hq e => hk ⟨q, hq, e⟩
      rw [foldM_ne hnk]
      rcases List.mem_cons.1 h with e | e
      · rw [← e]; simp [updK]
      · exact absurd rfl (hnk _ e)
theorem backL_mst {S S1 : St} {inn : List (Nat × K2)} {out : List ((K2 × K2) × Blk)} {e : REff} (he : e.H = none) (hm : e.mem = inn.map (fun p => (p.2, none)) ++ out.map (fun p => (p.1.2, some p.2))) (hhp : S1.hp = S.hp) (hnx : S1.nx = S.nx) (hn2 : ((out.map (·.1)).map (·.2)).Nodup)
    (hb : ∀ p ∈ out, (S1.M (.l p.1.1.1 p.1.1.2)).map (Blk.re fun d c => lkE (out.map (·.1)) (d, c)) = some p.2) : S.backL inn (out.map (·.1)) e.bump S1 = e.mst S := by
  refine St.ext4 (fun _ => rfl) (fun k => ?_) (fun _ => rfl) (by show S1.nx = match e.H with | some (_, n) => n | none => S.nx; rw [he]; exact hnx)
  show _ = e.memM S.M k
  cases k with
  | h o => rw [memM_h, he]; exact congrFun hhp o
  | l d c =>
    rw [memM_l]
    unfold REff.ml
    rw [hm, List.map_append, List.foldl_append, List.map_map, List.map_map]
    show (match lkZ (out.map (·.1)) (d, c) with | some q => (S1.M (.l q.1 q.2)).map (Blk.re fun d c => lkE (out.map (fun p : (K2 × K2) × Blk => p.1)) (d, c)) | none => match lkZ inn (d, c) with | some _ => none | none => S.M (.l d c)) = _
    cases hq : lkZ (out.map (·.1)) (d, c) with
    | some q =>
      obtain ⟨p, hp, e1⟩ := List.mem_map.1 (lkZ_in hq)
      have hbp := hb p hp
      have e2 : p.1.1 = q := by rw [e1]
      have e3 : p.1.2 = (d, c) := by rw [e1]
      rw [e2] at hbp
      simp only
      rw [hbp]
      refine (foldM_some (List.mem_map.2 ⟨p, hp, by simp [e3]⟩) (fun v' hv => ?_) _).symm
      obtain ⟨p', hp', e4⟩ := List.mem_map.1 hv
      simp only [Function.comp_apply, Prod.mk.injEq, Key.l.injEq] at e4
      have e5 : p'.1.2 = (d, c) := Prod.ext e4.1.1 e4.1.2
      have e6 : lkZ (out.map (·.1)) (d, c) = some p'.1.1 := lkZ_of hn2 (List.mem_map.2 ⟨p', hp', Prod.ext rfl e5⟩)
      rw [hq] at e6
      have hbp' := hb p' hp'
      rw [← Option.some.inj e6, hbp] at hbp'
      rw [← e4.2, ← hbp']
    | none =>
      simp only
      have hno : ∀ p ∈ out, p.1.2 ≠ (d, c) := fun p hp e => lkZ_no hq p.1.1 (List.mem_map.2 ⟨p, hp, Prod.ext rfl e⟩)
      rw [foldM_ne (fun p hp e => by
        obtain ⟨p', hp', rfl⟩ := List.mem_map.1 hp
        simp only [Function.comp_apply, Key.l.injEq] at e
        exact hno p' hp' (Prod.ext e.1 e.2))]
      cases hi : lkZ inn (d, c) with
      | some x =>
        refine (foldM_some (v := none) (List.mem_map.2 ⟨(x, (d, c)), lkZ_in hi, rfl⟩) (fun v' hv => ?_) _).symm
        obtain ⟨p', hp', e4⟩ := List.mem_map.1 hv
        simp only [Function.comp_apply, Prod.mk.injEq] at e4
        exact e4.2.symm
      | none =>
        refine (foldM_ne (fun p hp e => ?_) _).symm
        obtain ⟨p', hp', rfl⟩ := List.mem_map.1 hp
        simp only [Function.comp_apply, Key.l.injEq] at e
        exact lkZ_no hi p'.1 (by rw [show (p'.1, ((d, c) : K2)) = p' from Prod.ext rfl (Prod.ext e.1.symm e.2.symm)]; exact hp')
theorem mst_call {f : Cal} {args : List AV} {S : St} {e : REff} {K : AV → St → Prop} (h : CallE P f args S e) (hK : K e.v (e.mst S)) : CallsA P f args S K := by
  rcases h with ⟨_, _, hn, hc⟩ | ⟨he, f', v, h1, h2, h3, h4, h5⟩ | ⟨fn, inn, out, h1, h2, h3, h4, hc⟩
  · refine .inl ⟨hn, hc.mono ?_⟩
    rintro av H' n' ⟨rfl, e2⟩
    rw [e2]; exact hK
  · refine .inr (.inl ⟨f', v, h1, h2, h3, h4, ?_⟩)
    rw [he] at hK
    rw [h5]
    have : REff.mst ⟨e.v, [], [], none⟩ S = S := mst_eff1 e.v S
    rw [this] at hK
    exact hK
  · refine .inr (.inr ⟨fn, inn, h1, h2, hc.mono ?_⟩)
    rintro av S1 ⟨ho, hv, e1, e2, hb⟩
    refine ⟨out.map (·.1), e.bump, ho, ?_⟩
    rw [hv, backL_mst h3 h4 e1 e2 ho.n2 hb]; exact hK

theorem eff_ok {hs : Nat → Bool} {u : AOp} {d : Option Nat} {S : St} {f : REff} {K : AV → St → Prop} (h : EffOk hs P u d S f) (hK : K f.v (f.mst S)) : aop hs (CallsA P) u d S K := by
  have pureK : ∀ {u : AOp}, effP (pval (liveB S) (ev S.fr) u) = some f → wpv (pval (liveB S) (ev S.fr) u) fun v => K v S := by
    intro u hp
    obtain ⟨v, hv, rfl⟩ := Option.map_eq_some_iff.1 hp
    rw [hv]; rw [mst_eff1] at hK; exact hK
  cases u <;> simp only [EffOk] at h
  case call f args => exact mst_call h hK
  case calv x args =>
    split at h
    · rename_i e; simp only [aop, e]; exact mst_call h hK
    · rename_i e; simp only [aop, e]; exact mst_call h hK
    · exact h.elim
  all_goals simp only [effA] at h
  all_goals first | (exact pureK h) | (cases h; done) | skip
  case box e sz x =>
    split at h
    · rename_i hc
      obtain ⟨h1, h2, h3, _⟩ := mst_new h
      rw [h2, h3] at hK
      exact ⟨hc.1, hc.2.1, hc.2.2, by simp [keyAt, h1, hOk], hK⟩
    · cases h
  case bsl e sz len z ps =>
    split at h
    · rename_i hc
      obtain ⟨cs, hcs, h⟩ := Option.bind_eq_some_iff.1 h
      obtain ⟨h1, h2, h3, _⟩ := mst_new h
      rw [h2, h3] at hK
      refine ⟨hc.1, hc.2.1, hc.2.2, ?_⟩
      rw [hcs]
      exact ⟨by simp [keyAt, h1, hOk], hK⟩
    · cases h
  case ld g sz x =>
    obtain ⟨p, hp, h⟩ := Option.bind_eq_some_iff.1 h
    simp only [aop, hp, wpv_some]
    split at h
    · rename_i hg
      split at h
      · rename_i hl
        cases h
        rw [mst_eff1] at hK
        rw [if_pos hg, if_pos hl]; exact hK
      · cases h
    · rename_i hg
      obtain ⟨v, hv, rfl⟩ := Option.map_eq_some_iff.1 h
      rw [mst_eff1] at hK
      rw [if_neg hg, hv]; exact hK
  case sto sz x y =>
    unfold effSto at h
    split at h
    · rename_i k off e1
      obtain ⟨b, hb, h⟩ := Option.bind_eq_some_iff.1 h
      split at h
      · rename_i hc
        simp only [aop, e1, hb, wpv_some]
        refine ⟨hc.1, hc.2.1, hc.2.2.1, hc.2.2.2.1, hc.2.2.2.2, ?_⟩
        split at h
        · cases h
          refine Eq.mp (congrArg (K .un) ?_) hK
          unfold REff.mst REff.memM REff.cntF REff.ml St.setM
          simp only [St.mk.injEq, cntB_nil, true_and, and_true]
          funext q
          cases q <;> rfl
        · cases h
          refine Eq.mp (congrArg (K .un) ?_) hK
          unfold REff.mst REff.memM REff.cntF REff.ml St.setM
          simp only [St.mk.injEq, cntB_nil, true_and, and_true]
          funext q
          cases q with
          | l a b => simp [updK]
          | h o => simp [updK, St.hp]
      · cases h
    · cases h
  case sll sz x lo hi =>
    cases hx : ev S.fr x with
    | gs k n =>
      rw [hx] at h
      cases k with
      | h o => cases h
      | l q c =>
        simp only [effSll] at h
        unfold effCut at h
        split at h
        · rename_i p e1 e2
          obtain ⟨b, hb, h⟩ := Option.bind_eq_some_iff.1 h
          split at h
          · rename_i hc
            cases h
            simp only [aop, hx, cutR, e1, e2, hb, wpv_some]
            refine ⟨hc.1, hc.2.1, hc.2.2.1, hc.2.2.2.1, hc.2.2.2.2, rfl, ?_⟩
            refine Eq.mp (congrArg (K _) ?_) hK
            unfold REff.mst REff.memM REff.cntF REff.ml St.setM
            simp only [St.mk.injEq, cntB_nil, true_and, and_true]
            funext q
            cases q <;> rfl
          · cases h
        · cases h
    | _ => rw [hx] at h; simp only [aop, hx]; exact pureK h
  case app e sz bytes x y =>
    obtain ⟨p, hp, h⟩ := Option.bind_eq_some_iff.1 h
    split at h
    · rename_i hc
      refine ⟨hc.1, hc.2.1, ?_⟩
      rw [hp]
      exact ⟨hc.2.2.1, hc.2.2.2, effApp_ok h hK⟩
    · cases h
  case apps e x y =>
    split at h
    · rename_i l e1
      split at h
      · rename_i hc
        simp only [aop, e1]
        exact ⟨hc, effApp_ok h hK⟩
      · cases h
    · cases h
  case mks e sz bytes z l c =>
    split at h
    · rename_i n m e1 e2
      split at h
      · rename_i hc
        obtain ⟨h1, h2, h3, _⟩ := mst_new h
        rw [h2, h3] at hK
        simp only [aop, e1, e2]
        exact ⟨hc.1, hc.2.1, hc.2.2.1, hc.2.2.2.1, hc.2.2.2.2.1, hc.2.2.2.2.2, by simp [keyAt, h1, hOk], hK⟩
      · cases h
    · cases h
  case b2s x =>
    split at h
    · rename_i e1
      split at h
      · rename_i hc
        obtain ⟨v, hv, rfl⟩ := Option.map_eq_some_iff.1 h
        obtain ⟨l, hl, rfl⟩ := Option.map_eq_some_iff.1 hv
        rw [mst_eff1] at hK
        simp only [aop, e1, hl, wpv_some]
        exact ⟨hc, hK⟩
      · cases h
    · rename_i e1
      obtain ⟨b, hb, h⟩ := Option.bind_eq_some_iff.1 h
      split at h
      · rename_i hc
        obtain ⟨v, hv, rfl⟩ := Option.map_eq_some_iff.1 h
        obtain ⟨l, hl, rfl⟩ := Option.map_eq_some_iff.1 hv
        rw [mst_eff1] at hK
        simp only [aop, e1, hb, hl, wpv_some]
        exact ⟨hc.1, hc.2, hK⟩
      · cases h
    · cases h
/-! ### an effect is told by what the operation looks at -/
theorem tgt_loc {S T : St} {v : AV} (h : ∀ k ∈ keyOf v, T.M k = S.M k) : tgt T v = tgt S v := by
  cases v with
  | pt k o => simp only [tgt]; rw [h k (by simp [keyOf])]
  | _ => rfl
theorem srcA_loc {S T : St} {v : AV} (h : ∀ k ∈ keyOf v, T.M k = S.M k) : srcA T v = srcA S v := by
  cases v with
  | gs k n => simp only [srcA]; rw [h k (by simp [keyOf])]
  | _ => rfl
theorem effNew_loc {hs : Nat → Bool} {d : Nat} {S T : St} {ks : List (Nat × Nat)} {b : Blk} {v : Key → AV} {e : REff} (h : effNew hs d S ks b v = some e) (hc : ∀ s ∈ e.bump, T.cnt s = S.cnt s) : effNew hs d T ks b v = some e := by
  have h4 := (mst_new h).2.2.2
  unfold effNew at h ⊢
  rw [hc d (by rw [h4]; simp)]; exact h
theorem effApp_loc {hs : Nat → Bool} {d e sz m : Nat} {ys : List AV} {x : AV} {S T : St} {f : REff} (h : effApp hs d e sz m ys S x = some f) (hk : ∀ k ∈ keyOf x, T.M k = S.M k) (hc : ∀ s ∈ f.bump, T.cnt s = S.cnt s) : effApp hs d e sz m ys T x = some f := by
  cases x with
  | sl z n xs =>
    cases z with
    | false => cases h
    | true =>
      simp only [effApp] at h ⊢
      split at h
      · rename_i h0; rw [if_pos h0]; exact h
      · rename_i h0; rw [if_neg h0]; exact effNew_loc h hc
  | gs k n => cases k with
    | h o => cases h
    | l q c =>
      simp only [effApp] at h ⊢
      rw [hk (.l q c) (by simp [keyOf])]
      obtain ⟨b, hb, h⟩ := Option.bind_eq_some_iff.1 h
      rw [hb]
      simp only [Option.bind_some]
      split at h
      · rename_i h0; rw [if_pos h0]; exact effNew_loc h hc
      · cases h
  | _ => cases h

theorem effA_loc {hs : Nat → Bool} {u : AOp} {d : Option Nat} {S T : St} {e : REff} (h : effA hs u d S = some e) (he : ∀ x ∈ opds u, ev T.fr x = ev S.fr x) (hk : ∀ x ∈ opds u, ∀ k ∈ keyOf (ev S.fr x), T.M k = S.M k)
    (hc : ∀ s ∈ e.bump, T.cnt s = S.cnt s) (hh : (∃ x ∈ opds u, ∃ o, .h o ∈ keyOf (ev S.fr x)) → T.hp = S.hp ∧ T.nx = S.nx) : effA hs u d T = some e := by
  have pureK : ∀ {u : AOp}, (∀ x ∈ opds u, ev T.fr x = ev S.fr x) → (∀ x ∈ opds u, ∀ k ∈ keyOf (ev S.fr x), T.M k = S.M k) → effP (pval (liveB S) (ev S.fr) u) = some e → effP (pval (liveB T) (ev T.fr) u) = some e := by
    intro u h1 h2 h3
    rw [pval_congr u h1 (fun x hx k hk' => by unfold liveB; rw [h2 x hx k hk'])]
    exact h3
  cases u <;> simp only [effA] at h ⊢
  all_goals first | (exact pureK he hk h) | (cases h; done) | skip
  case box e sz x =>
    rw [he x (by simp [opds])]
    split at h
    · rename_i h0; rw [if_pos h0]; exact effNew_loc h hc
    · cases h
  case bsl e sz len z ps =>
    have : ps.map (fun p => (p.1, p.2.1, ev T.fr p.2.2)) = ps.map (fun p => (p.1, p.2.1, ev S.fr p.2.2)) := by
      refine List.map_congr_left fun p hp => ?_
      rw [he _ (List.mem_map.2 ⟨p, hp, rfl⟩)]
    rw [this]
    split at h
    · rename_i h0
      rw [if_pos h0]
      obtain ⟨cs, hcs, h⟩ := Option.bind_eq_some_iff.1 h
      rw [hcs]
      exact effNew_loc h hc
    · cases h
  case ld g sz x =>
    rw [he x (by simp [opds]), tgt_loc (hk x (by simp [opds]))]; exact h
  case sto sz x y =>
    rw [he x (by simp [opds]), he y (by simp [opds])]
    have hkx := hk x (by simp [opds])
    have hhx : (∃ o, .h o ∈ keyOf (ev S.fr x)) → T.hp = S.hp ∧ T.nx = S.nx := fun ⟨o, ho⟩ => hh ⟨x, by simp [opds], o, ho⟩
    cases hx : ev S.fr x with
    | pt k off =>
      rw [hx] at h hkx hhx
      simp only [effSto] at h ⊢
      rw [hkx k (by simp [keyOf])]
      cases k with
      | l q c => exact h
      | h o =>
        obtain ⟨p1, p2⟩ := hhx ⟨o, by simp [keyOf]⟩
        rw [p1, p2]; exact h
    | _ => rw [hx] at h; cases h
  case sll sz x lo hi =>
    have hb : ∀ {d : Int} {y : Option AOpd}, (∀ z ∈ y.toList, z ∈ opds (.sll sz x lo hi)) → bnd (ev T.fr) d y = bnd (ev S.fr) d y := by
      intro d y hy
      cases y with
      | none => rfl
      | some y => simp only [bnd]; rw [he y (hy y (by simp))]
    rw [he x (by simp [opds]), hb (y := lo) (fun z hz => by simp [opds]; right; left; simpa using hz), hb (y := hi) (fun z hz => by simp [opds]; right; right; simpa using hz)]
    have hkx := hk x (by simp [opds])
    cases hx : ev S.fr x with
    | gs k n =>
      rw [hx] at h hkx
      cases k with
      | h o => cases h
      | l q c =>
        simp only [effSll, effCut] at h ⊢
        rw [hkx (.l q c) (by simp [keyOf])]
        exact h
    | _ => rw [hx] at h; exact pureK he hk h
  case app e sz bytes x y =>
    rw [he x (by simp [opds]), he y (by simp [opds]), srcA_loc (hk y (by simp [opds]))]
    obtain ⟨p, hp, h⟩ := Option.bind_eq_some_iff.1 h
    rw [hp]
    simp only [Option.bind_some]
    split at h
    · rename_i h0; rw [if_pos h0]; exact effApp_loc h (hk x (by simp [opds])) hc
    · cases h
  case apps e x y =>
    rw [he x (by simp [opds]), he y (by simp [opds])]
    cases hy : ev S.fr y with
    | st l =>
      rw [hy] at h
      simp only at h ⊢
      split at h
      · rename_i h0; rw [if_pos h0]; exact effApp_loc h (hk x (by simp [opds])) hc
      · cases h
    | _ => rw [hy] at h; cases h
  case mks e sz bytes z l c =>
    rw [he l (by simp [opds]), he c (by simp [opds])]
    split at h
    · split at h
      · rename_i h0
        rw [if_pos h0]; exact effNew_loc h hc
      · cases h
    · cases h
  case b2s x =>
    rw [he x (by simp [opds])]
    have hkx := hk x (by simp [opds])
    split at h
    · exact h
    · rename_i k n e1
      rw [e1] at hkx
      rw [hkx k (by simp [keyOf])]; exact h
    · cases h

theorem vw1_same {u : AV} {S T : St} (h : SameAt (key1 u) S T) : vw1 T.M u = vw1 S.M u := by
  unfold vw1
  split
  · rename_i d c n
    rw [h (.l d c) (by simp [key1])]
  · rfl
theorem vwV_same {u : AV} {S T : St} (h : SameAt (keyOf u) S T) : vwV T.M u = vwV S.M u := by
  cases u with
  | agg cs =>
    simp only [vwV, AV.agg.injEq]
    refine List.map_congr_left fun x hx => vw1_same fun k hk => h k ?_
    simp only [keyOf]
    exact List.mem_flatMap.2 ⟨x, hx, hk⟩
  | gs k n => exact vw1_same h
  | _ => rfl
theorem vwL_same {l : List AV} {S T : St} (h : SameAt (l.flatMap keyOf) S T) : l.map (vwV T.M) = l.map (vwV S.M) :=
  List.map_congr_left fun x hx => vwV_same fun k hk => h k (List.mem_flatMap.2 ⟨x, hx, hk⟩)
theorem callE_loc {f : Cal} {args : List AV} {S T : St} {e : REff} (h : CallE P f args S e) (hk : SameAt (args.flatMap keyOf) S T) (hm : ∀ p ∈ e.mem, T.M (.l p.1.1 p.1.2) = S.M (.l p.1.1 p.1.2)) (hcn : ∀ s ∈ e.bump, T.cnt s = S.cnt s) (hh : T.hp = S.hp ∧ T.nx = S.nx) : CallE P f args T e := by
  obtain ⟨a, b⟩ := pubL_same hk
  rcases h with ⟨h1, h2, hn, hc⟩ | ⟨he, f', v, g1, g2, g3, g4, g5⟩ | ⟨fn, inn, out, g1, g2, g3, g4, hc⟩
  case inr.inl => exact .inr (.inl ⟨he, f', v, g1, by rw [vwL_same hk]; exact g2, by rw [vwL_same hk]; exact g3, g4, g5⟩)
  case inr.inr =>
    have hi : ∀ p ∈ inn, T.M (.l p.2.1 p.2.2) = S.M (.l p.2.1 p.2.2) := fun p hp => hm (p.2, none) (by rw [g4]; exact List.mem_append_left _ (List.mem_map.2 ⟨p, hp, rfl⟩))
    have hml : memL inn T.M = memL inn S.M := by
      funext x
      unfold memL
      cases hx : lkE inn x with
      | none => rfl
      | some k => simp only [Option.bind_some]; rw [hi _ (lkE_in hx)]
    refine .inr (.inr ⟨fn, inn, out, g1, ⟨g2.n1, g2.n2, fun p hp => by rw [hi p hp]; exact g2.ok p hp⟩, g3, g4, ?_⟩)
    rw [hml, hh.1, hh.2]
    refine hc.mono ?_
    rintro av S1 ⟨ho, hv, e1, e2, hb⟩
    refine ⟨⟨ho.n1, ho.n2, ho.live, fun p hp => ?_⟩, hv, e1, e2, hb⟩
    rcases ho.goes p hp with q | ⟨q1, q2⟩
    · exact .inl q
    · exact .inr ⟨q1, by rw [hcn _ q1]; exact q2⟩
  left
  have hkh : ∀ (S : St) (ks : List (Nat × Nat)), (S.kills ks).hp = S.hp := by
    intro S ks
    unfold St.kills St.hp
    funext o
    simp only
    induction ks generalizing S with
    | nil => rfl
    | cons k ks ih =>
      simp only [List.foldl_cons]
      refine (ih { S with M := updK S.M (.l k.1 k.2) none }).trans ?_
      simp [updK]
  refine ⟨h1, by rw [b]; exact h2, by rw [a]; exact hn, ?_⟩
  rw [pubL_k] at hc ⊢
  rw [a, b, hkh, show (T.kills (pkL args S)).nx = T.nx from rfl, hh.1, hh.2]
  rw [hkh] at hc
  refine hc.mono ?_
  rintro av H' n' ⟨rfl, e2⟩
  refine ⟨rfl, ?_⟩
  have q1 : ∀ o, H' o = (e.mst S).M (.h o) := fun o => by rw [← e2]; rfl
  have q2 : n' = (e.mst S).nx := by rw [← e2]; rfl
  refine St.ext4 (fun _ => rfl) (fun k => ?_) (fun s => ?_) ?_
  · cases k with
    | h o =>
      show H' o = e.memM T.M (.h o)
      rw [q1, memM_h]
      show e.memM S.M (.h o) = _
      rw [memM_h]
      have := congrFun hh.1 o
      simp only [St.hp] at this
      rw [this]
    | l d c =>
      show (T.kills (pkL args S)).M (.l d c) = e.memM T.M (.l d c)
      rw [memM_l]
      unfold REff.ml St.kills
      rw [h2]
      simp only [List.map_map]
      generalize T.M = M
      generalize pkL args S = ks
      induction ks generalizing M with
      | nil => rfl
      | cons a ks ih => simp only [List.map_cons, List.foldl_cons]; exact ih _
  · show T.cnt s = e.cntF T.cnt s
    unfold REff.cntF; rw [h1, cntB_nil]
  · show n' = match e.H with | some (_, n) => n | none => T.nx
    rw [q2]
    show (match e.H with | some (_, n) => n | none => S.nx) = _
    rw [hh.2]

/-- what an operation's effect looks at and turns -/
structure Foot where
  rk : List Key
  wk : List (Nat × Nat)
  rh : Bool
  wh : Bool
  bs : List Nat

def isCall : AOp → Bool
  | .call .. | .calv .. => true
  | _ => false
def heapy (ks : List Key) : Bool := ks.any isH
/-- what a call of a closure hands over besides -/
def rkCap : AV → List Key
  | .fn _ a c => a.flatMap keyOf ++ c.flatMap keyOf
  | _ => []
def rkOf (u : AOp) (S : St) : List Key := match u with
  | .calv x args => rkCap (ev S.fr x) ++ args.flatMap fun y => keyOf (ev S.fr y)
  | u => (opds u).flatMap fun x => keyOf (ev S.fr x)
def footOf (u : AOp) (S : St) (e : REff) : Foot := ⟨rkOf u S ++ (match isCall u with | true => e.mem.map (fun p => .l p.1.1 p.1.2) | false => []), e.mem.map (·.1), isCall u || heapy (rkOf u S), e.H.isSome, e.bump⟩

theorem eff_loc {hs : Nat → Bool} {u : AOp} {d : Option Nat} {S T : St} {e : REff} (h : EffOk hs P u d S e) (he : ∀ x ∈ opds u, ev T.fr x = ev S.fr x) (hk : ∀ k ∈ (footOf u S e).rk, T.M k = S.M k)
    (hc : ∀ s ∈ e.bump, T.cnt s = S.cnt s) (hh : (isCall u || heapy (rkOf u S)) = true → T.hp = S.hp ∧ T.nx = S.nx) : EffOk hs P u d T e := by
  have gen : ∀ {u : AOp}, rkOf u S = ((opds u).flatMap fun x => keyOf (ev S.fr x)) → (∀ x ∈ opds u, ev T.fr x = ev S.fr x) → (∀ k ∈ rkOf u S, T.M k = S.M k) → ((isCall u || heapy (rkOf u S)) = true → T.hp = S.hp ∧ T.nx = S.nx) → effA hs u d S = some e → effA hs u d T = some e := by
    intro u hu h1 h2 h3 h4
    refine effA_loc h4 h1 (fun x hx k hk' => h2 k (by rw [hu]; exact List.mem_flatMap.2 ⟨x, hx, hk'⟩)) hc ?_
    rintro ⟨x, hx, o, ho⟩
    refine h3 ?_
    rw [Bool.or_eq_true]; right
    exact List.any_eq_true.2 ⟨.h o, by rw [hu]; exact List.mem_flatMap.2 ⟨x, hx, ho⟩, rfl⟩
  have hm : isCall u = true → ∀ p ∈ e.mem, T.M (.l p.1.1 p.1.2) = S.M (.l p.1.1 p.1.2) := by
    intro hc p hp
    refine hk _ (List.mem_append_right _ ?_)
    rw [hc]; exact List.mem_map.2 ⟨p, hp, rfl⟩
  replace hk : ∀ k ∈ rkOf u S, T.M k = S.M k := fun k hk' => hk k (List.mem_append_left _ hk')
  cases u <;> simp only [EffOk] at h ⊢
  case call f args =>
    have : args.map (ev T.fr) = args.map (ev S.fr) := List.map_congr_left he
    rw [this]
    refine callE_loc h (fun k hk' => (hk k ?_).symm) (hm rfl) hc (hh rfl)
    rw [List.flatMap_map] at hk'
    exact hk'
  case calv x args =>
    have e1 : ev T.fr x = ev S.fr x := he x (by simp [opds])
    have : args.map (ev T.fr) = args.map (ev S.fr) := List.map_congr_left fun y hy => he y (by simp [opds, hy])
    rw [e1, this]
    split at h
    · rename_i f first cap e2
      refine callE_loc h (fun k hk' => (hk k ?_).symm) (hm rfl) hc (hh rfl)
      simp only [rkOf, e2, rkCap]
      simp only [List.flatMap_append, List.flatMap_map, List.mem_append] at hk' ⊢
      rcases hk' with (h | h) | h
      · exact .inl (.inl h)
      · exact .inr h
      · exact .inl (.inr h)
    · rename_i q e2
      refine callE_loc h (fun k hk' => (hk k ?_).symm) (hm rfl) hc (hh rfl)
      simp only [rkOf, e2, rkCap, List.nil_append]
      rw [List.flatMap_map] at hk'
      exact hk'
    · exact h.elim
  all_goals exact gen rfl he hk hh h
/-! ### the operations of a region that draws, in the order of the text -/
def allL {α : Type} (p : α → Prop) : List α → Prop
  | [] => True
  | x :: l => p x ∧ allL p l
theorem allL_iff {α : Type} {p : α → Prop} {l : List α} : allL p l ↔ ∀ x ∈ l, p x := by
  induction l with
  | nil => simp [allL]
  | cons x l ih => simp [allL, ih]
/-- told of a value, if it is there -/
def wpo {α : Type} (o : Option α) (K : α → Prop) : Prop := match o with
  | some u => K u
  | none => True

/-- two operations that are not in each other's way -/
def okF (a b : Foot) : Prop :=
  allL (fun p => allL (fun k => Key.l p.1 p.2 ≠ k) b.rk ∧ allL (fun q => p ≠ q) b.wk) a.wk ∧ allL (fun p => allL (fun k => Key.l p.1 p.2 ≠ k) a.rk) b.wk ∧ (a.wh = true → b.rh = false ∧ b.wh = false) ∧ (b.wh = true → a.rh = false) ∧ allL (fun s => allL (fun t => s ≠ t) b.bs) a.bs
def okAcc (ft : Foot) (acc : List Foot) (fre : List Nat) : Prop := allL (fun j => wpo acc[j]? (okF ft)) fre
def footSkip : Foot := ⟨[], [], false, false, []⟩

def eop (hs : Nat → Bool) (CA : Program) (u : AOp) (d : Option Nat) (S : St) (K : REff → Prop) : Prop :=
  match u with
  | .call f args => ∃ e, CallE CA (.f f) (args.map (ev S.fr)) S e ∧ K e
  | .calv x args => match ev S.fr x with
    | .fn (.func f) first cap => ∃ e, CallE CA (.f f) (first ++ args.map (ev S.fr) ++ cap) S e ∧ K e
    | .yld o => ∃ e, CallE CA (.y o) (args.map (ev S.fr)) S e ∧ K e
    | _ => False
  | u => wpv (effA hs u d S) K
theorem eop_out {hs : Nat → Bool} {CA : Program} {u : AOp} {d : Option Nat} {S : St} {K : REff → Prop} (h : eop hs CA u d S K) : ∃ e, EffOk hs CA u d S e ∧ K e := by
  cases u <;> simp only [eop] at h <;> simp only [EffOk]
  case call f args => exact h
  case calv x args =>
    split at h
    · rename_i e; exact h
    · rename_i e; exact h
    · exact h.elim
  all_goals exact wpv_out h

def runD (hs : Nat → Bool) (CA : Program) : List (AO × List Nat) → List Foot → (St → Prop) → St → Prop
  | [], _, Q, S => Q S
  | (o, fre) :: r, acc, Q, S => match o.guard with
    | none => eop hs CA o.op o.dst S fun e => okAcc (footOf o.op S e) acc fre ∧ runD hs CA r (acc ++ [footOf o.op S e]) Q (e.app o.dst S)
    | some (g, b) => match S.fr g with
      | .bl c => if c = b then eop hs CA o.op o.dst S fun e => okAcc (footOf o.op S e) acc fre ∧ runD hs CA r (acc ++ [footOf o.op S e]) Q (e.app o.dst S) else runD hs CA r (acc ++ [footSkip]) Q (S.put o.dst (.tup []))
      | .tup [] => runD hs CA r (acc ++ [footSkip]) Q (S.put o.dst (.tup []))
      | _ => False

inductive StepD (P : Program) (hs : Nat → Bool) (o : AO) (S : St) : REff → Foot → Prop
  | run (e : REff) (hg : ∀ g b, o.guard = some (g, b) → S.fr g = .bl b) (h : EffOk hs P o.op o.dst S e) : StepD P hs o S e (footOf o.op S e)
  | skip (g : Nat) (b : Bool) (hg : o.guard = some (g, b)) (h : S.fr g = .tup [] ∨ ∃ c, S.fr g = .bl c ∧ c ≠ b) : StepD P hs o S (eff1 (.tup [])) footSkip

inductive Chain (P : Program) (hs : Nat → Bool) : List (AO × List Nat) → List Foot → St → List (REff × Foot) → St → Prop
  | nil (acc : List Foot) (S : St) : Chain P hs [] acc S [] S
  | cons (o : AO) (fre : List Nat) (r : List (AO × List Nat)) (acc : List Foot) (S T : St) (e : REff) (ft : Foot) (E : List (REff × Foot)) (h1 : StepD P hs o S e ft) (h2 : okAcc ft acc fre) (h3 : Chain P hs r (acc ++ [ft]) (e.app o.dst S) E T) : Chain P hs ((o, fre) :: r) acc S ((e, ft) :: E) T

theorem okSkip (acc : List Foot) (fre : List Nat) : okAcc footSkip acc fre := by
  refine allL_iff.2 fun j _ => ?_
  cases acc[j]? with
  | none => trivial
  | some b => exact ⟨trivial, allL_iff.2 fun _ _ => trivial, fun h => (by cases h), fun _ => rfl, trivial⟩

theorem app_skip (d : Option Nat) (S : St) : (eff1 (.tup [])).app d S = S.put d (.tup []) := by
  unfold REff.app; rw [mst_eff1]; rfl

theorem runD_out {hs : Nat → Bool} {Q : St → Prop} : ∀ (l : List (AO × List Nat)) (acc : List Foot) (S : St), runD hs P l acc Q S → ∃ E T, Chain P hs l acc S E T ∧ Q T := by
  intro l
  induction l with
  | nil => intro acc S h; exact ⟨[], S, .nil acc S, h⟩
  | cons x l ih =>
    obtain ⟨o, fre⟩ := x
    intro acc S h
    have run : (∀ g b, o.guard = some (g, b) → S.fr g = .bl b) → (eop hs P o.op o.dst S fun e => okAcc (footOf o.op S e) acc fre ∧ runD hs P l (acc ++ [footOf o.op S e]) Q (e.app o.dst S)) → ∃ E T, Chain P hs ((o, fre) :: l) acc S E T ∧ Q T := by
      intro hg h
      obtain ⟨e, h1, h2, h3⟩ := eop_out h
      obtain ⟨E, T, h4, h5⟩ := ih _ _ h3
      exact ⟨_, T, .cons _ _ _ _ _ _ _ _ _ (.run e hg h1) h2 h4, h5⟩
    have skip : ∀ g b, o.guard = some (g, b) → (S.fr g = .tup [] ∨ ∃ c, S.fr g = .bl c ∧ c ≠ b) → runD hs P l (acc ++ [footSkip]) Q (S.put o.dst (.tup [])) → ∃ E T, Chain P hs ((o, fre) :: l) acc S E T ∧ Q T := by
      intro g b hg hc h
      rw [← app_skip] at h
      obtain ⟨E, T, h4, h5⟩ := ih _ _ h
      exact ⟨_, T, .cons _ _ _ _ _ _ _ _ _ (.skip g b hg hc) (okSkip _ _) h4, h5⟩
    simp only [runD] at h
    split at h
    · rename_i hg; exact run (fun g b e => by rw [hg] at e; cases e) h
    · rename_i g b hg
      split at h
      · rename_i c e1
        split at h
        · rename_i hc; subst hc; exact run (fun g' b' e => by rw [hg] at e; cases e; exact e1) h
        · rename_i hc; exact skip g b hg (.inr ⟨c, e1, hc⟩) h
      · rename_i e1; exact skip g b hg (.inl e1) h
      · exact h.elim

theorem chain_at {hs : Nat → Bool} {l : List (AO × List Nat)} {acc : List Foot} {S T : St} {E : List (REff × Foot)} (h : Chain P hs l acc S E T) (R : Reg) : ∀ k, (∀ j e, E[j]? = some e → R.eff (k + j) = e.1) → (∀ j o, l[j]? = some o → R.dst (k + j) = o.1.dst) →
    E.length = l.length ∧ T = R.go (fun _ => true) (List.range' k l.length) S ∧ ∀ i o fre, l[i]? = some (o, fre) → ∃ e ft, E[i]? = some (e, ft) ∧ StepD P hs o (R.go (fun _ => true) (List.range' k i) S) e ft ∧ okAcc ft (acc ++ (E.take i).map (·.2)) fre := by
  induction h with
  | nil acc S => intro k h1 h2; exact ⟨rfl, rfl, fun i o fre hi => by simp at hi⟩
  | cons o fre r acc S T e ft E g1 g2 g3 ih =>
    intro k h1 h2
    have e0 : R.eff k = e := h1 0 (e, ft) rfl
    have d0 : R.dst k = o.dst := h2 0 (o, fre) rfl
    obtain ⟨i1, i2, i3⟩ := ih (k + 1) (fun j e hj => by have := h1 (j + 1) e (by simpa using hj); rw [← this]; congr 1; omega) (fun j o hj => by have := h2 (j + 1) o (by simpa using hj); rw [← this]; congr 1; omega)
    refine ⟨by simp [i1], ?_, ?_⟩
    · rw [List.length_cons, List.range'_succ]
      simp only [Reg.go, if_true]
      rw [e0, d0]; exact i2
    · intro i o' fre' hi
      cases i with
      | zero =>
        simp only [List.getElem?_cons_zero, Option.some.injEq, Prod.mk.injEq] at hi
        obtain ⟨rfl, rfl⟩ := hi
        exact ⟨e, ft, rfl, g1, by simpa using g2⟩
      | succ i =>
        obtain ⟨e', ft', q1, q2, q3⟩ := i3 i o' fre' (by simpa using hi)
        refine ⟨e', ft', by simpa using q1, ?_, by simpa using q3⟩
        rw [List.range'_succ]
        simp only [Reg.go, if_true]
        rw [e0, d0]; exact q2

theorem go_none (R : Reg) (l : List Nat) (S : St) : R.go (fun _ => false) l S = S := by
  induction l with
  | nil => rfl
  | cons i l ih => simpa [Reg.go] using ih

theorem Reg.st_lt (R : Reg) {i : Nat} (hi : i ≤ R.n) (S : St) : R.st (fun j => decide (j < i)) S = R.go (fun _ => true) (List.range' 0 i) S := by
  unfold Reg.st
  have hsplit : List.range R.n = List.range' 0 i ++ List.range' i (R.n - i) := by
    rw [List.range_eq_range']
    have := List.range'_append_1 (s := 0) (m := i) (n := R.n - i)
    rw [Nat.zero_add] at this
    rw [this]; congr 1; omega
  rw [hsplit, Reg.go_append]
  rw [R.go_congr (D := fun j => decide (j < i)) (D' := fun _ => true) (l := List.range' 0 i) (fun j hj => by have := (List.mem_range'_1.1 hj).2; simp; omega),
    R.go_congr (D := fun j => decide (j < i)) (D' := fun _ => false) (l := List.range' i (R.n - i)) (fun j hj => by have := (List.mem_range'_1.1 hj).1; simp; omega), go_none]

/-! ### what an operation that turns nothing leaves -/
theorem eff_quiet {hs : Nat → Bool} {CA : Program} {u : AOp} {d : Option Nat} {S : St} {e : REff} (hw : mayW u = false) (h : EffOk hs CA u d S e) : ∃ v, e = eff1 v := by
  have pureK : ∀ {o : Option AV}, effP o = some e → ∃ v, e = eff1 v := by
    intro o hp
    obtain ⟨v, hv, rfl⟩ := Option.map_eq_some_iff.1 hp
    exact ⟨v, rfl⟩
  cases u <;> simp only [mayW, allocs, Bool.true_eq_false] at hw <;> simp only [EffOk, effA] at h
  case ld g sz x =>
    obtain ⟨p, hp, h⟩ := Option.bind_eq_some_iff.1 h
    split at h
    · split at h
      · cases h; exact ⟨_, rfl⟩
      · cases h
    · exact pureK h
  case b2s x =>
    split at h
    · split at h
      · exact pureK h
      · cases h
    · obtain ⟨b, hb, h⟩ := Option.bind_eq_some_iff.1 h
      split at h
      · exact pureK h
      · cases h
    · cases h
  all_goals first | (exact pureK h) | (cases h; done)

theorem effApp_bump {hs : Nat → Bool} {d e sz m : Nat} {ys : List AV} {x : AV} {S : St} {f : REff} {s : Nat} (h : effApp hs d e sz m ys S x = some f) (hb : s ∈ f.bump) : s = d := by
  unfold effApp at h
  split at h
  · split at h
    · cases h; cases hb
    · have := (mst_new h).2.2.2; rw [this] at hb; exact List.mem_singleton.1 hb
  · obtain ⟨b, _, h⟩ := Option.bind_eq_some_iff.1 h
    split at h
    · have := (mst_new h).2.2.2; rw [this] at hb; exact List.mem_singleton.1 hb
    · cases h
  · cases h

theorem eff_bump {hs : Nat → Bool} {u : AOp} {d : Option Nat} {S : St} {e : REff} {s : Nat} (h : effA hs u d S = some e) (hb : s ∈ e.bump) : allocs u = true ∧ s = site d := by
  have new : ∀ {S ks b v}, effNew hs (site d) S ks b v = some e → s = site d := by
    intro S ks b v h
    have := (mst_new h).2.2.2; rw [this] at hb; exact List.mem_singleton.1 hb
  have pureK : ∀ {o : Option AV}, effP o = some e → False := by
    intro o hp
    obtain ⟨v, hv, rfl⟩ := Option.map_eq_some_iff.1 hp
    cases hb
  cases u <;> simp only [effA] at h
  case ld g sz x =>
    obtain ⟨p, hp, h⟩ := Option.bind_eq_some_iff.1 h
    split at h
    · split at h
      · cases h; cases hb
      · cases h
    · exact (pureK h).elim
  case sto sz x y =>
    unfold effSto at h
    split at h
    · obtain ⟨b, _, h⟩ := Option.bind_eq_some_iff.1 h
      split at h
      · split at h <;> (cases h; cases hb)
      · cases h
    · cases h
  case sll sz x lo hi =>
    cases hx : ev S.fr x with
    | gs k n =>
      rw [hx] at h
      cases k with
      | h o => cases h
      | l q c =>
        simp only [effSll] at h
        unfold effCut at h
        split at h
        · obtain ⟨b, _, h⟩ := Option.bind_eq_some_iff.1 h
          split at h
          · cases h; cases hb
          · cases h
        · cases h
    | _ => rw [hx] at h; exact (pureK h).elim
  case box e sz x =>
    split at h
    · exact ⟨rfl, new h⟩
    · cases h
  case bsl e sz len z ps =>
    split at h
    · obtain ⟨cs, _, h⟩ := Option.bind_eq_some_iff.1 h
      exact ⟨rfl, new h⟩
    · cases h
  case app e sz bytes x y =>
    obtain ⟨p, _, h⟩ := Option.bind_eq_some_iff.1 h
    split at h
    · exact ⟨rfl, effApp_bump h hb⟩
    · cases h
  case apps e x y =>
    split at h
    · split at h
      · exact ⟨rfl, effApp_bump h hb⟩
      · cases h
    · cases h
  case mks e sz bytes z l c =>
    split at h
    · split at h
      · exact ⟨rfl, new h⟩
      · cases h
    · cases h
  case b2s x =>
    split at h
    · split at h
      · exact (pureK h).elim
      · cases h
    · obtain ⟨b, _, h⟩ := Option.bind_eq_some_iff.1 h
      split at h
      · exact (pureK h).elim
      · cases h
    · cases h
  all_goals first | (exact (pureK h).elim) | (cases h; done)
/-! ### the region -/
theorem wpAnyIn_inv {P : Program} {ops : Array Oper} {Q : Exit → Act → World → Prop} {F : Fence} {nn : Nat} {md : Region.Mode} (Inv : (Nat → Bool) → Act → World → Prop)
    (hwf : ∀ i o, ops[i]? = some o → ∀ e ∈ o.after.toList, Region.binds md e = true → e.on < i)
    (hstep : ∀ D i o a w, ops[i]? = some o → D i = false → (∀ e ∈ o.after.toList, Region.binds md e = true → D e.on = true) → Inv D a w → wpOpIn F nn P ops Q i (Inv (RG.upd D i)) a w)
    (hend : ∀ D a w, (∀ i, i < ops.size → D i = true) → Inv D a w → Q .normal a w) :
    ∀ (fuel : Nat) (listed : Array Bool) (a : Act) (w : World), listed.size = ops.size → ((List.range ops.size).filter (fun i => !listed.getD i false)).length ≤ fuel →
      Inv (fun j => listed.getD j false) a w → wpAnyIn F nn P md ops Q fuel listed a w := by
  have hall : ∀ listed : Array Bool, listed.size = ops.size → Region.ready md ops listed = [] → ∀ i, i < ops.size → listed.getD i false = true := by
    intro listed hs hr i
    induction i using Nat.strongRecOn with
    | ind i ih =>
      intro hi
      cases hb : listed.getD i false with
      | true => rfl
      | false =>
        have hm : i ∈ Region.ready md ops listed := RG.mem_ready.2 ⟨hi, by simpa [Array.getD, hs, hi] using hb, fun o ho e he hbd => by
          have := hwf i o ho e he hbd
          exact ih e.on this (by omega)⟩
        rw [hr] at hm
        cases hm
  intro fuel
  induction fuel with
  | zero =>
    intro listed a w hs hc hI
    have hl : ∀ i, i < ops.size → listed.getD i false = true := by
      intro i hi
      cases hb : listed.getD i false with
      | true => rfl
      | false =>
        have hm : i ∈ (List.range ops.size).filter (fun i => !listed.getD i false) := List.mem_filter.2 ⟨List.mem_range.2 hi, by rw [hb]; rfl⟩
        have := List.length_pos_of_mem hm
        omega
    refine ⟨?_, hend _ a w hl hI⟩
    cases hr : Region.ready md ops listed with
    | nil => rfl
    | cons x xs =>
      have hm : x ∈ Region.ready md ops listed := by rw [hr]; simp
      obtain ⟨h1, h2, _⟩ := RG.mem_ready.1 hm
      have := hl x h1
      simp [Array.getD, hs, h1] at h2 this
      rw [this] at h2; cases h2
  | succ fuel ih =>
    intro listed a w hs hc hI
    refine ⟨fun hr => hend _ a w (hall listed hs hr) hI, fun i hi => ?_⟩
    obtain ⟨h1, h2, h3⟩ := RG.mem_ready.1 hi
    have ho := Array.getElem?_eq_getElem h1
    have h2' : listed.getD i false = false := by simpa [Array.getD, hs, h1] using h2
    refine wpOpIn_mono ?_ (hstep _ i _ a w ho h2' (fun e he hb => h3 _ ho e he hb) hI)
    intro a' w' hI'
    refine ih _ a' w' (by simp [hs]) ?_ ?_
    · have hlt : ((List.range ops.size).filter (fun j => !(listed.setIfInBounds i true).getD j false)).length < ((List.range ops.size).filter (fun j => !listed.getD j false)).length := by
        have e1 : (List.range ops.size).filter (fun j => !(listed.setIfInBounds i true).getD j false) = ((List.range ops.size).filter (fun j => !listed.getD j false)).filter (fun j => !(j == i)) := by
          rw [List.filter_filter]
          refine List.filter_congr fun j hj => ?_
          simp only [List.mem_range] at hj
          by_cases e : j = i
          · subst e; simp [Array.getD, hs, hj]
          · have e' : i ≠ j := fun h => e h.symm
            simp [Array.getD, hs, hj, e, e']
        rw [e1]
        exact List.length_filter_lt_length_iff_exists.2 ⟨i, List.mem_filter.2 ⟨List.mem_range.2 h1, by rw [h2']; rfl⟩, by simp⟩
      omega
    · have e : (fun j => (listed.setIfInBounds i true).getD j false) = RG.upd (fun j => listed.getD j false) i := by
        funext j
        unfold RG.upd
        by_cases e : j = i
        · subst e; simp [Array.getD, hs, h1]
        · have e' : i ≠ j := fun h => e h.symm
          by_cases hj : j < listed.size <;> simp [Array.getD, hj, e, e']
      rw [e]
      exact hI'

theorem okF_out {a b : Foot} (h : okF a b) : (∀ p ∈ a.wk, ∀ k ∈ b.rk, Key.l p.1 p.2 ≠ k) ∧ (∀ p ∈ a.wk, ∀ q ∈ b.wk, p ≠ q) ∧ (∀ p ∈ b.wk, ∀ k ∈ a.rk, Key.l p.1 p.2 ≠ k) ∧ (a.wh = true → b.rh = false ∧ b.wh = false) ∧ (b.wh = true → a.rh = false) ∧ ∀ s ∈ a.bs, s ∉ b.bs := by
  obtain ⟨h1, h2, h3, h4, h5⟩ := h
  exact ⟨fun p hp => allL_iff.1 (allL_iff.1 h1 p hp).1, fun p hp => allL_iff.1 (allL_iff.1 h1 p hp).2, fun p hp => allL_iff.1 (allL_iff.1 h2 p hp), h3, h4, fun s hs ht => allL_iff.1 (allL_iff.1 h5 s hs) s ht rfl⟩

theorem trOps_at {P : Program} {N : Nat} {ops : Array Oper} : ∀ {l : List Oper} {us : List AO}, trOps P N ops l = some us → us.length = l.length ∧ ∀ (i : Nat) (o : Oper), l[i]? = some o → ∃ u g, us[i]? = some (⟨o.dst, g, u⟩ : AO) ∧ trOp P N o = some u ∧ trGuard ops N o.guard = some g := by
  intro l
  induction l with
  | nil => intro us h; simp only [trOps, Option.some.injEq] at h; subst h; exact ⟨rfl, fun i o hi => by simp at hi⟩
  | cons o l ih =>
    intro us h
    simp only [trOps] at h
    split at h <;> first | (cases h; done) | skip
    rename_i u g us' h1 h2 h3 h4
    cases h
    obtain ⟨a, b⟩ := ih h4
    refine ⟨by simp [a], fun i o' hi => ?_⟩
    cases i with
    | zero => simp at hi; subst hi; exact ⟨u, g, rfl, h1, h2⟩
    | succ i => exact b i o' (by simpa using hi)

section
variable {B : Base} {N : Nat} {S : St} {a : Act} {G : Gh} {hs : Nat → Bool}

theorem ev_agree {T : St} {o : AO} {rs : List Nat} (hrs : ∀ t ∈ readsS o, t ∈ rs) (h : ∀ t ∈ rs, S.fr t = T.fr t) : (∀ x ∈ opds o.op, ev T.fr x = ev S.fr x) ∧ ∀ g b, o.guard = some (g, b) → T.fr g = S.fr g := by
  refine ⟨fun x hx => ?_, fun g b hg => ?_⟩
  · cases x with
    | t n => exact (h n (hrs n (List.mem_append_right _ (List.mem_flatMap.2 ⟨_, hx, by simp [slotOf]⟩)))).symm
    | c v => rfl
  · refine (h g (hrs g (List.mem_append_left _ ?_))).symm
    rw [hg]; simp

theorem stepD_loc {P : Program} {T : St} {o : AO} {e : REff} {ft : Foot} (h : StepD P hs o S e ft) (hA : Agree (readsS o) ft.rk ft.rh e.bump S T) : StepD P hs o T e ft := by
  obtain ⟨e1, e2⟩ := ev_agree (S := S) (T := T) (o := o) (fun t ht => ht) hA.fr
  cases h with
  | run e hg h =>
    have h' : EffOk hs P o.op o.dst T e := eff_loc h e1 (fun k hk => (hA.M k hk).symm) (fun s hs => (hA.cnt s hs).symm) (fun hh => by
      obtain ⟨p1, p2⟩ := hA.hp hh
      exact ⟨funext fun o => (p1 o).symm, p2.symm⟩)
    have hf : footOf o.op T e = footOf o.op S e := by
      have : rkOf o.op T = rkOf o.op S := by
        have gen : ∀ u : AOp, (∀ x ∈ opds u, ev T.fr x = ev S.fr x) → ((opds u).flatMap fun x => keyOf (ev T.fr x)) = (opds u).flatMap fun x => keyOf (ev S.fr x) := by
          intro u hu
          simp only [← List.flatMap_map (ev T.fr) keyOf, ← List.flatMap_map (ev S.fr) keyOf]
          rw [List.map_congr_left hu]
        cases ho : o.op <;> rw [ho] at e1 <;> simp only [rkOf] <;> first | (exact gen _ e1) | skip
        rename_i x args
        rw [e1 x (by simp [opds])]
        congr 1
        simp only [← List.flatMap_map (ev T.fr) keyOf, ← List.flatMap_map (ev S.fr) keyOf]
        rw [List.map_congr_left fun y hy => e1 y (by simp [opds, hy])]
      unfold footOf; rw [this]
    rw [← hf]
    exact .run e (fun g b hg' => by rw [e2 g b hg']; exact hg g b hg') h'
  | skip g b hg h => exact .skip g b hg (by rw [e2 g b hg]; exact h)

theorem step_ok {P : Program} [GB P B] {ro : Option Nat} {ops : Array Oper} {i : Nat} {o : Oper} {u : AOp} {g : Option (Nat × Bool)} {e : REff} {ft : Foot} {K : Act → World → Prop} {Q : Exit → Act → World → Prop} (h : Rel B N S a G) (ho : ops[i]? = some o) (hu : trOp P N o = some u) (hg : trGuard ops N o.guard = some g)
    (hst : StepD P hs ⟨o.dst, g, u⟩ S e ft) (hK : ∀ a' G', Rel B N (e.app o.dst S) a' G' → K a' G'.w) : wpOpIn (FR ro) 0 P ops Q i K a G.w := by
  unfold wpOpIn
  simp only [ho]
  have hrun : EffOk hs P u o.dst S e → o.wpIn (FR ro) 0 P a G.w K Q := fun hE => aop_okR h hu (eff_ok (K := fun v S' => v = e.v ∧ S' = e.mst S) hE ⟨rfl, rfl⟩) fun av v S' G' ⟨h1, h2⟩ hR hv => by
    subst h1; subst h2
    exact hK _ G' (hR.put hv)
  cases hog : o.guard with
  | none =>
    rw [hog] at hg
    simp only [trGuard, Option.some.injEq] at hg; subst hg
    rw [if_pos (by simp [Region.wanted, hog])]
    cases hst with
    | run e hg hE => exact hrun hE
    | skip g b hg h => cases hg
  | some jb =>
    obtain ⟨j, want⟩ := jb
    rw [hog] at hg
    simp only [trGuard] at hg
    split at hg <;> first | (cases hg; done) | skip
    rename_i d hd
    split at hg <;> first | (cases hg; done) | skip
    rename_i hdN
    cases hg
    have hdt : d < a.tmps.size := by rw [h.tsize]; exact hdN
    have hslot := h.slot d a.tmps[d] (Array.getElem?_eq_getElem hdt)
    cases hst with
    | run e hg hE =>
      have e1 := hg d want rfl
      rw [e1] at hslot
      have hb : a.tmps[d]? = some (.bool want) := by rw [Array.getElem?_eq_getElem hdt, hslot.bl_inv]
      have hw : Region.wanted o (yielded ops a.tmps) = true := by simp [Region.wanted, hog, yielded, hd, hb]
      rw [if_pos hw]
      exact hrun hE
    | skip g b hg hc =>
      cases hg
      have hw : Region.wanted o (yielded ops a.tmps) = false := by
        rcases hc with e1 | ⟨c, e1, hne⟩
        · rw [e1] at hslot
          obtain ⟨vs, q0, q1, _⟩ := hslot.tup_inv
          have hb : a.tmps[d]? = some (.tuple vs) := by rw [Array.getElem?_eq_getElem hdt, q0]
          simp [Region.wanted, hog, yielded, hd, hb]
        · rw [e1] at hslot
          have hb : a.tmps[d]? = some (.bool c) := by rw [Array.getElem?_eq_getElem hdt, hslot.bl_inv]
          simp [Region.wanted, hog, yielded, hd, hb, hne]
      rw [if_neg (by rw [hw]; simp)]
      refine ⟨fun _ _ => trivial, hK _ G ?_⟩
      rw [app_skip]
      exact h.put (.tup [] #[] rfl (fun j u x hu => by simp at hu))

theorem runD_ok {P : Program} [GB P B] {ro : Option Nat} {id : Nat} {ops : Array Oper} {l : List (AO × List Nat)} {Qn : St → Prop} {Q : Exit → Act → World → Prop} (ht : trD P N ops = some l) (hr : runD hs P l [] Qn S) (h : Rel B N S a G) (hend : ∀ S a G, Qn S → Rel B N S a G → Q .normal a G.w) : (Code.region id ops true).wpIn (FR ro) 0 P Q a G.w := by
  unfold trD at ht
  split at ht
  case h_2 => cases ht
  rename_i us hus
  simp only at ht
  split at ht
  case isFalse => cases ht
  rename_i hchk
  cases ht
  simp only [Bool.and_eq_true] at hchk
  obtain ⟨⟨⟨⟨hm, hwf⟩, hancC⟩, hpairs⟩, hal⟩ := hchk
  obtain ⟨hlen, hat⟩ := trOps_at hus
  have hnn : us.length = ops.size := by rw [hlen]; simp
  generalize hanc : ancL ops.toList [] = anc at *
  generalize hfre : freL us anc = fre at *
  have hfl : fre.length = us.length := by rw [← hfre]; simp [freL]
  obtain ⟨E, T, hC, hQ⟩ := runD_out _ _ _ hr
  let R : Reg := ⟨us.length, fun i => ((E[i]?).map (·.1)).getD (eff1 .un), fun i => (us[i]?).bind (·.dst), fun i => ((us[i]?).map readsS).getD [], fun i => ((E[i]?).map (·.2.rk)).getD [], fun i => ((E[i]?).map (·.2.rh)).getD false, ancAt anc⟩
  have hzl : (us.zip fre).length = us.length := by simp [hfl]
  have hz : ∀ (i : Nat) (o : AO) (f : List Nat), (us.zip fre)[i]? = some (o, f) ↔ us[i]? = some o ∧ fre[i]? = some f := by
    intro i o f
    rw [List.getElem?_zip_eq_some]
  obtain ⟨c1, c2, c3⟩ := chain_at hC R 0 (fun j e hj => by show ((E[0 + j]?).map (·.1)).getD _ = _; rw [Nat.zero_add, hj]; rfl) (fun j o hj => by
    show (us[0 + j]?).bind (·.dst) = _
    obtain ⟨o1, o2⟩ := o
    rw [Nat.zero_add, ((hz j o1 o2).1 hj).1]; rfl)
  rw [hzl] at c1 c2
  -- what each operation is
  have all : ∀ i, i < us.length → ∃ o f e ft, us[i]? = some o ∧ ancAt fre i = f ∧ E[i]? = some (e, ft) ∧ StepD P hs o (R.st (fun j => decide (j < i)) S) e ft ∧ okAcc ft ((E.take i).map (·.2)) f := by
    intro i hi
    have h1 := List.getElem?_eq_getElem hi
    have h2 := List.getElem?_eq_getElem (show i < fre.length by omega)
    obtain ⟨e, ft, q1, q2, q3⟩ := c3 i us[i] fre[i] ((hz i _ _).2 ⟨h1, h2⟩)
    refine ⟨_, _, e, ft, h1, ?_, q1, ?_, q3⟩
    · unfold ancAt; rw [h2]; rfl
    · rw [R.st_lt (Nat.le_of_lt hi)]; exact q2
  have hwk : ∀ i, i < us.length → ∃ o e ft, us[i]? = some o ∧ E[i]? = some (e, ft) ∧ R.eff i = e ∧ R.dst i = o.dst ∧ R.rs i = readsS o ∧ R.rk i = ft.rk ∧ R.rh i = ft.rh ∧ ft.wk = e.mem.map (·.1) ∧ ft.wh = e.H.isSome ∧ ft.bs = e.bump ∧ (mayW o.op = false → ft.wk = [] ∧ ft.wh = false ∧ ft.bs = []) ∧ (ft.rh = false → ∀ o, .h o ∉ ft.rk) ∧ okAcc ft ((E.take i).map (·.2)) (ancAt fre i) := by
    intro i hi
    obtain ⟨o, f, e, ft, q1, q2, q3, q4, q5⟩ := all i hi
    refine ⟨o, e, ft, q1, q3, ?_, ?_, ?_, ?_, ?_, ?_, ?_, ?_, ?_, ?_, by rw [q2]; exact q5⟩
    · show ((E[i]?).map (·.1)).getD _ = _; rw [q3]; rfl
    · show (us[i]?).bind (·.dst) = _; rw [q1]; rfl
    · show ((us[i]?).map readsS).getD _ = _; rw [q1]; rfl
    · show ((E[i]?).map (·.2.rk)).getD _ = _; rw [q3]; rfl
    · show ((E[i]?).map (·.2.rh)).getD _ = _; rw [q3]; rfl
    · cases q4 <;> rfl
    · cases q4 <;> rfl
    · cases q4 <;> rfl
    · intro hw
      cases q4 with
      | run e hg hE => obtain ⟨v, rfl⟩ := eff_quiet hw hE; exact ⟨rfl, rfl, rfl⟩
      | skip g b hg hc => exact ⟨rfl, rfl, rfl⟩
    · intro hh o' ho'
      cases q4 with
      | run e hg hE =>
        simp only [footOf, Bool.or_eq_false_iff] at hh ho'
        rw [hh.1] at ho'
        have ho' : .h o' ∈ rkOf o.op (R.st (fun j => decide (j < i)) S) := by simpa using ho'
        have : heapy (rkOf o.op (R.st (fun j => decide (j < i)) S)) = true := List.any_eq_true.2 ⟨_, ho', rfl⟩
        rw [hh.2] at this; cases this
      | skip g b hg hc => cases ho'
  -- two that are free
  have pair : ∀ i j, i < us.length → j < i → j ∉ ancAt anc i → (∀ t, R.dst i = some t → R.dst j ≠ some t) ∧ (∀ t, R.dst j = some t → t ∉ R.rs i) ∧ (∀ t, R.dst i = some t → t ∉ R.rs j) ∧ (∀ p ∈ (R.eff i).mem, .l p.1.1 p.1.2 ∉ R.rk j) ∧ (∀ p ∈ (R.eff j).mem, .l p.1.1 p.1.2 ∉ R.rk i) ∧ (∀ p ∈ (R.eff i).mem, ∀ q ∈ (R.eff j).mem, p.1 ≠ q.1) ∧
      ((R.eff i).H = none ∨ (R.eff j).H = none) ∧ ((R.eff j).H = none ∨ R.rh i = false) ∧ ((R.eff i).H = none ∨ R.rh j = false) ∧ ∀ s ∈ (R.eff i).bump, s ∉ (R.eff j).bump := by
    intro i j hi hj hna
    obtain ⟨o, e, ft, q1, q2, q3, q4, q5, q6, q7, q8, q9, q9', q10, q11, q12⟩ := hwk i hi
    obtain ⟨o', e', ft', p1, p2, p3, p4, p5, p6, p7, p8, p9, p9', p10, p11, p12⟩ := hwk j (by omega)
    have hp := List.all_eq_true.1 (List.all_eq_true.1 hpairs i (List.mem_range.2 hi)) j (List.mem_range.2 hj)
    rw [q1, p1] at hp
    simp only [pairOk, Bool.or_eq_true, Bool.and_eq_true, List.contains_iff_mem] at hp
    have hp := hp.resolve_left hna
    obtain ⟨⟨⟨d1, d2⟩, d3⟩, d4⟩ := hp
    have hF : okF ft ft' := by
      rcases d4 with d4 | d4
      · have := allL_iff.1 q12 j d4
        rw [List.getElem?_map, List.getElem?_take_of_lt hj, p2] at this
        exact this
      · simp only [Bool.not_eq_true'] at d4
        obtain ⟨a1, a2, a3⟩ := q10 d4.1
        obtain ⟨b1, b2, b3⟩ := p10 d4.2
        unfold okF
        rw [a1, a2, a3, b1, b2]
        exact ⟨trivial, trivial, fun h => (by cases h), fun h => (by cases h), trivial⟩
    obtain ⟨f1, f2, f3, f4, f5, f6⟩ := okF_out hF
    have nm : ∀ {e : REff} {ft : Foot} {p : (Nat × Nat) × Option Blk}, ft.wk = e.mem.map (·.1) → p ∈ e.mem → p.1 ∈ ft.wk := fun h hp => by rw [h]; exact List.mem_map.2 ⟨_, hp, rfl⟩
    have hn : ∀ {e : REff} {ft : Foot}, ft.wh = e.H.isSome → e.H = none ∨ ft.wh = true := by
      intro e ft h
      cases hH : e.H with
      | none => exact .inl rfl
      | some x => right; rw [h, hH]; rfl
    refine ⟨?_, ?_, ?_, ?_, ?_, ?_, ?_, ?_, ?_, by rw [q3, p3, ← q9', ← p9']; exact f6⟩
    · intro t ht1 ht2
      rw [q4] at ht1; rw [p4] at ht2
      rw [ht1, ht2] at d1
      simp [dNe] at d1
    · intro t ht hm'
      rw [p4] at ht; rw [q5] at hm'
      rw [ht] at d2
      simp only [dNr, Bool.not_eq_true', List.contains_eq_mem, decide_eq_false_iff_not] at d2
      exact d2 hm'
    · intro t ht hm'
      rw [q4] at ht; rw [p5] at hm'
      rw [ht] at d3
      simp only [dNr, Bool.not_eq_true', List.contains_eq_mem, decide_eq_false_iff_not] at d3
      exact d3 hm'
    · intro p hp hk
      rw [q3] at hp; rw [p6] at hk
      exact f1 p.1 (nm q8 hp) _ hk rfl
    · intro p hp hk
      rw [p3] at hp; rw [q6] at hk
      exact f3 p.1 (nm p8 hp) _ hk rfl
    · intro p hp q hq
      rw [q3] at hp; rw [p3] at hq
      exact f2 p.1 (nm q8 hp) q.1 (nm p8 hq)
    · rw [q3, p3]
      rcases hn q9 with h | h
      · exact .inl h
      · right
        have := (f4 h).2
        rcases hn p9 with h' | h'
        · exact h'
        · rw [this] at h'; cases h'
    · rw [p3, q7]
      rcases hn p9 with h | h
      · exact .inl h
      · exact .inr (f5 h)
    · rw [q3, p7]
      rcases hn q9 with h | h
      · exact .inl h
      · exact .inr (f4 h).1
  have hancs : ∀ i x, i < us.length → x ∈ ancAt anc i → x < i ∧ ∃ o e, ops[i]? = some o ∧ e ∈ o.after.toList ∧ Region.binds .any e = true ∧ (e.on = x ∨ x ∈ ancAt anc e.on) := by
    intro i x hi hx
    have h' := List.all_eq_true.1 (List.all_eq_true.1 hancC i (List.mem_range.2 (by omega))) x hx
    simp only [Bool.and_eq_true, decide_eq_true_eq] at h'
    refine ⟨h'.1, ?_⟩
    have h' := h'.2
    cases ho : ops[i]? with
    | none => rw [ho] at h'; cases h'
    | some o =>
      rw [ho] at h'
      simp only [Option.map_some, Option.getD_some, List.any_eq_true, Bool.and_eq_true, Bool.or_eq_true, beq_iff_eq, List.contains_iff_mem] at h'
      obtain ⟨e, he, hb, h⟩ := h'
      exact ⟨o, e, rfl, he, hb, h⟩
  have hO : R.Ok := by
    have tri : ∀ i j, i < us.length → j < us.length → R.free i j → (j < i ∧ j ∉ ancAt anc i) ∨ (i < j ∧ i ∉ ancAt anc j) := by
      rintro i j hi hj ⟨f1, f2, f3⟩
      rcases Nat.lt_or_ge j i with h | h
      · exact .inl ⟨h, f2⟩
      · exact .inr ⟨by omega, f3⟩
    refine ⟨fun i j hi hj hf => ?_, fun i j hi hj hf => ?_, fun i j hi hj hf => ?_, fun i j hi hj hf => ?_, fun i hi hh => ?_, fun i x hx => ?_⟩
    · rcases tri i j hi hj hf with ⟨h1, h2⟩ | ⟨h1, h2⟩
      · obtain ⟨a1, _, _, _, _, a6, a7, _, _, a10⟩ := pair i j hi h1 h2
        exact ⟨a1, a6, a10, a7⟩
      · obtain ⟨a1, _, _, _, _, a6, a7, _, _, a10⟩ := pair j i hj h1 h2
        have a1' : ∀ t, R.dst i = some t → R.dst j ≠ some t := fun t h h' => a1 t h' h
        exact ⟨a1', fun p hp q hq e => a6 q hq p hp e.symm, fun s h1 h2 => a10 s h2 h1, a7.symm⟩
    · rcases tri i j hi hj hf with ⟨h1, h2⟩ | ⟨h1, h2⟩
      · exact (pair i j hi h1 h2).2.1
      · exact (pair j i hj h1 h2).2.2.1
    · rcases tri i j hi hj hf with ⟨h1, h2⟩ | ⟨h1, h2⟩
      · exact (pair i j hi h1 h2).2.2.2.2.1
      · exact (pair j i hj h1 h2).2.2.2.1
    · rcases tri i j hi hj hf with ⟨h1, h2⟩ | ⟨h1, h2⟩
      · exact (pair i j hi h1 h2).2.2.2.2.2.2.2.1
      · exact (pair j i hj h1 h2).2.2.2.2.2.2.2.2.1
    · obtain ⟨o, e, ft, q1, q2, q3, q4, q5, q6, q7, q8, q9, q9', q10, q11, q12⟩ := hwk i hi
      rw [q7] at hh; rw [q6]; exact q11 hh
    · by_cases hi : i < us.length
      · exact (hancs i x hi hx).1
      · have : ancAt anc i = [] := by
          have hl : ∀ (l : List Oper) (acc : List (List Nat)), (ancL l acc).length = acc.length + l.length := by
            intro l
            induction l with
            | nil => intro acc; simp [ancL]
            | cons o l ih => intro acc; simp only [ancL]; rw [ih]; simp; omega
          have hal' : anc.length = us.length := by rw [← hanc, hl, hlen]; simp
          unfold ancAt
          rw [List.getElem?_eq_none (by omega)]; rfl
        rw [show R.anc i = ancAt anc i from rfl, this] at hx; cases hx
  have wf : ∀ i o, ops[i]? = some o → ∀ e ∈ o.after.toList, Region.binds .any e = true → e.on < i := by
    intro i o ho e he hb
    have h' := List.all_eq_true.1 hwf i (List.mem_range.2 (Array.getElem?_eq_some_iff.1 ho).1)
    rw [ho] at h'
    simp only [Option.map_some, Option.getD_some, List.all_eq_true] at h'
    have := h' e he
    rw [hb] at this
    simpa using this
  obtain ⟨G0, g1, g2, g3⟩ := h.toMRel.same_heap (w1 := { G.w with drawn := G.w.drawn + 1 }) rfl rfl rfl rfl
  let Inv : (Nat → Bool) → Act → World → Prop := fun D a w => (∀ j, D j = true → j < us.length ∧ ∀ x ∈ ancAt anc j, D x = true) ∧ ∃ G, Rel B N (R.st D S) a G ∧ G.w = w
  refine wpIn_region_any hm (wpAnyIn_inv (Q := Q) Inv wf ?_ ?_ ops.size (Array.replicate ops.size false) a _ (by simp) ?_ ?_)
  · rintro D i o a1 w1 ho hDi hready ⟨hD, G1, hR1, rfl⟩
    have hi : i < us.length := by rw [hnn]; exact (Array.getElem?_eq_some_iff.1 ho).1
    obtain ⟨u, g, k1, k2, k3⟩ := hat i o (by rw [Array.getElem?_toList]; exact ho)
    obtain ⟨o', e, ft, q1, q2, q3, q4, q5, q6, q7, q8, q9, q9', q10, q11, q12⟩ := hwk i hi
    rw [k1] at q1; cases q1
    obtain ⟨o', f, e', ft', p1, p2, p3, p4, p5⟩ := all i hi
    rw [k1] at p1; cases p1
    rw [q2] at p3; cases p3
    have hancD : ∀ x ∈ ancAt anc i, D x = true := by
      intro x hx
      obtain ⟨_, o', ed, ho', he, hb, hor⟩ := hancs i x hi hx
      rw [ho] at ho'; cases ho'
      have := hready ed he hb
      rcases hor with h | h
      · rw [← h]; exact this
      · exact (hD _ this).2 x h
    have hnot : ∀ j, D j = true → i ∉ ancAt anc j := fun j hj hm' => by
      have := (hD j hj).2 i hm'
      rw [hDi] at this; cases this
    have hA : Agree (R.rs i) (R.rk i) (R.rh i) (R.eff i).bump (R.st (fun j => decide (j < i)) S) (R.st D S) := by
      refine R.agree hO hi (fun j hj => List.mem_range.1 hj) (fun j hj hne => ?_) ⟨fun _ _ => rfl, fun _ _ => rfl, fun _ _ => rfl, fun _ => ⟨fun _ => rfl, rfl⟩⟩
      have hjn := List.mem_range.1 hj
      rcases Nat.lt_trichotomy j i with hlt | heq | hgt
      · have hDj : D j = false := by
          cases hDj : D j with
          | false => rfl
          | true => rw [hDj] at hne; simp [hlt] at hne
        refine ⟨by omega, fun hm' => ?_, fun hm' => ?_⟩
        · have := hancD j hm'; rw [hDj] at this; cases this
        · have := hO.anc j i hm'; omega
      · subst heq; rw [hDi] at hne; simp at hne
      · have hDj : D j = true := by
          cases hDj : D j with
          | true => rfl
          | false => rw [hDj] at hne; have : ¬ j < i := by omega
                     simp [this] at hne
        refine ⟨by omega, fun hm' => ?_, hnot j hDj⟩
        have := hO.anc i j hm'; omega
    rw [q5, q6, q7, q3] at hA
    have hst := stepD_loc p4 hA
    refine step_ok hR1 ho k2 k3 hst fun a' G' hR' => ?_
    refine ⟨fun j hj => ?_, G', ?_, rfl⟩
    · by_cases hji : j = i
      · subst hji
        exact ⟨hi, fun x hx => by simp [RG.upd, hancD x hx]⟩
      · have hDj : D j = true := by simpa [RG.upd, hji] using hj
        exact ⟨(hD j hDj).1, fun x hx => by simp [RG.upd, (hD j hDj).2 x hx]⟩
    · rw [R.st_succ hO hi hDi (fun j _ hj => hnot j hj), q3, q4]
      exact hR'
  · rintro D a1 w1 hall ⟨hD, G1, hR1, rfl⟩
    refine hend (R.st D S) a1 G1 ?_ hR1
    have : R.st D S = T := by
      rw [c2]
      unfold Reg.st
      rw [List.range_eq_range']
      exact R.go_congr (fun j hj => hall j (by have := (List.mem_range'_1.1 hj).2; simp only [Nat.zero_add] at this; rw [← hnn]; exact this)) S
    rw [this]; exact hQ
  · exact Nat.le_trans (List.length_filter_le _ _) (by simp)
  · have e0 : (fun j => (Array.replicate ops.size false).getD j false) = fun _ => false := by
      funext j
      by_cases hj : j < ops.size <;> simp [Array.getD, hj]
    rw [e0]
    refine ⟨fun j hj => (by cases hj), G0, ?_, g1⟩
    have : R.st (fun _ => false) S = S := go_none R _ S
    rw [this]
    exact h.lift g2 g3 rfl
end
end Go.AV

