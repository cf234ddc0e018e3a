/- General texts and own ones, joined: what the program computes, told of abstract states, and the laws of plain data. No condition. -/
import Derived.Test.YtnlhnefjjblpcabMe
import Derived.Test.YtnlhnefjjblpcabMc
noncomputable section
namespace Go.Proofs.Ytnlhnefjjblpcab
open Go.AV Go.RowKit
abbrev SL := T_arena_slot
abbrev ST := T_order_stamp
def st0 : ST := ⟨0, 0, 0⟩
structure AI (s : List SL) (f : List Int) : Prop where
 nd : f.Nodup
 un : ∀ i ∈ f, 0 ≤ i ∧ ∃ y, s[i.toNat]? = some y ∧ y.used = false
 ct : s.countP T_arena_slot.used + f.length = s.length
theorem snoc_cases {α : Type} : ∀ l : List α, l = [] ∨ ∃ l' b, l = l' ++ [b]
 | [] => .inl rfl
 | a :: l => .inr (match snoc_cases l with
   | .inl e => ⟨[], a, by rw [e]; rfl⟩
   | .inr ⟨l', b, e⟩ => ⟨a :: l', b, by rw [e]; rfl⟩)
theorem countP_set {α : Type} (p : α → Bool) : ∀ (l : List α) (n : Nat) (y x : α), l[n]? = some y → (l.set n x).countP p + (if p y then 1 else 0) = l.countP p + (if p x then 1 else 0)
 | [], n, y, x, h => by simp at h
 | a :: l, 0, y, x, h => by
   simp at h; subst h
   simp only [List.set_cons_zero, List.countP_cons]; omega
 | a :: l, n + 1, y, x, h => by
   simp at h
   have := countP_set p l n y x h
   simp only [List.set_cons_succ, List.countP_cons]; omega
theorem set_get {α : Type} {l : List α} {n m : Nat} {y x : α} (h : l[n]? = some y) : (l.set n x)[m]? = if m = n then some x else l[m]? := by
 have hn : n < l.length := by
  rcases Nat.lt_or_ge n l.length with k | k
  ·exact k
  ·rw [List.getElem?_eq_none k] at h; cases h
 by_cases e : m = n
 ·subst e; rw [List.getElem?_set_self hn, if_pos rfl]
 ·rw [List.getElem?_set_ne (fun q => e q.symm), if_neg e]
theorem get_lt {α : Type} {l : List α} {n : Nat} {y : α} (h : l[n]? = some y) : n < l.length := by
 rcases Nat.lt_or_ge n l.length with k | k
 ·exact k
 ·rw [List.getElem?_eq_none k] at h; cases h
theorem AI.le {s : List SL} {f : List Int} (h : AI s f) : f.length ≤ s.length := by have := h.ct; omega
theorem AI.setU {s : List SL} {f : List Int} {i : Int} {x : ST} (h : AI s (f ++ [i])) : AI (s.set i.toNat ⟨x, true⟩) f := by
 obtain ⟨h0, y, h1, h2⟩ := h.un i (by simp)
 have nd := List.nodup_append.1 h.nd
 refine ⟨nd.1, fun j hj => ?_, ?_⟩
 ·obtain ⟨k0, z, k1, k2⟩ := h.un j (by simp [hj])
  refine ⟨k0, z, ?_, k2⟩
  rw [set_get h1, if_neg]
  ·exact k1
  ·intro e
   exact nd.2.2 j hj i (by simp) (by omega)
 ·have := countP_set T_arena_slot.used s i.toNat y ⟨x, true⟩ h1
  have ct := h.ct
  rw [h2] at this
  simp at this ct ⊢
  omega
theorem AI.app {s : List SL} {x : ST} (h : AI s []) : AI (s ++ [⟨x, true⟩]) [] := by
 refine ⟨by simp, fun j hj => by simp at hj, ?_⟩
 have := h.ct
 simp [List.countP_append] at this ⊢
 omega
theorem AI.free {s : List SL} {f : List Int} {i : Int} {y : SL} (h : AI s f) (hi : 0 ≤ i) (hy : s[i.toNat]? = some y) (hu : y.used = true) : AI (s.set i.toNat ⟨st0, false⟩) (f ++ [i]) := by
 have hn : i ∉ f := fun e => by
  obtain ⟨_, z, k1, k2⟩ := h.un i e
  rw [hy] at k1; cases k1; rw [hu] at k2; cases k2
 refine ⟨List.nodup_append.2 ⟨h.nd, by simp, fun a ha b hb => ?_⟩, fun j hj => ?_, ?_⟩
 ·simp at hb; subst hb; intro e; subst e; exact hn ha
 ·rw [set_get hy]
  rcases List.mem_append.1 hj with hj | hj
  ·obtain ⟨k0, z, k1, k2⟩ := h.un j hj
   refine ⟨k0, ?_⟩
   by_cases e : j.toNat = i.toNat
   ·rw [if_pos e]; exact ⟨_, rfl, rfl⟩
   ·rw [if_neg e]; exact ⟨z, k1, k2⟩
  ·simp at hj; subst hj
   exact ⟨hi, _, if_pos rfl, rfl⟩
 ·have := countP_set T_arena_slot.used s i.toNat y ⟨st0, false⟩ hy
  have ct := h.ct
  rw [hu] at this
  simp at this ct ⊢
  omega
theorem AI.put {s : List SL} {f : List Int} {i : Int} {x : ST} {y : SL} (h : AI s f) (hy : s[i.toNat]? = some y) : AI (s.set i.toNat ⟨x, y.used⟩) f := by
 refine ⟨h.nd, fun j hj => ?_, ?_⟩
 ·obtain ⟨k0, z, k1, k2⟩ := h.un j hj
  rw [set_get hy]
  refine ⟨k0, ?_⟩
  by_cases e : j.toNat = i.toNat
  ·rw [if_pos e]
   rw [e, hy] at k1; cases k1
   exact ⟨_, rfl, k2⟩
  ·rw [if_neg e]; exact ⟨z, k1, k2⟩
 ·have := countP_set T_arena_slot.used s i.toNat y ⟨x, y.used⟩ hy
  have ct := h.ct
  simp at this ct ⊢
  omega
def has (s : List SL) (i : Int) : Bool := decide (0 ≤ i) && (match s[i.toNat]? with | some y => y.used | none => false)
theorem has_iff {s : List SL} {i : Int} : has s i = true ↔ 0 ≤ i ∧ ∃ y, s[i.toNat]? = some y ∧ y.used = true := by
 unfold has
 cases h : s[i.toNat]? with
 | none => simp
 | some y => simp
theorem pHas (a i : Int) (s : List SL) (f : List Int) : arena_Arena_stamp_has_v0_o i a s f (has s i) := by
 refine arena_Arena_stamp_has_v0_i _ _ _ _ _ ⟨fun h => ⟨fun k => ?_, fun k => ?_⟩, fun h => ?_⟩
 ·have h : 0 ≤ i := by simpa using h
  have k : i < (s.length : Int) := by simpa using k
  have hl : i.toNat < s.length := by omega
  exact ⟨h, k, s[i.toNat], List.getElem?_eq_getElem hl, by unfold has; rw [List.getElem?_eq_getElem hl]; simp [h]⟩
 ·have k : ¬ i < (s.length : Int) := by simpa using k
  have h : 0 ≤ i := by simpa using h
  unfold has; rw [List.getElem?_eq_none (by omega)]; simp
 ·unfold has; rw [h]; rfl
theorem pLive {a : Int} {s : List SL} {f : List Int} (h : AI s f) (hs : s.length ≤ 1000000000) : arena_Arena_stamp_Live_v0_o a s f ((s.length : Int) - f.length) := by
 have := h.le
 refine arena_Arena_stamp_Live_v0_i _ _ _ _ ?_
 exact wrap64 (by omega) (by omega)
def cell (s : List SL) (i : Int) : Option ST := if 0 ≤ i then (match s[i.toNat]? with | some y => if y.used then some y.x else none | none => none) else none
theorem cell_some {s : List SL} {i : Int} {x : ST} : cell s i = some x ↔ 0 ≤ i ∧ s[i.toNat]? = some ⟨x, true⟩ := by
 unfold cell
 split
 ·rename_i h
  cases e : s[i.toNat]? with
  | none => simp
  | some y =>
    obtain ⟨y, u⟩ := y
    cases u <;> simp [h]
 ·rename_i h; simp [h]
theorem has_cell (s : List SL) (i : Int) : has s i = (cell s i).isSome := by
 unfold has cell
 by_cases h : 0 ≤ i
 ·simp only [h, if_true, decide_true, Bool.true_and]
  cases s[i.toNat]? with
  | none => rfl
  | some y => cases hy : y.used <;> simp [hy]
 ·simp [h]
theorem pGet (a i : Int) (s : List SL) (f : List Int) : arena_Arena_stamp_Get_v0_o i a s f (cell s i).isSome ((cell s i).getD st0) := by
 refine arena_Arena_stamp_Get_v0_i _ _ _ _ _ _ ⟨_, pHas a i s f, fun h => ?_, fun h => ?_⟩
 ·have h : has s i = false := by simpa using h
  rw [has_cell] at h
  cases hc : cell s i with
  | none => exact ⟨rfl, rfl⟩
  | some x => rw [hc] at h; cases h
 ·have h : has s i = true := by simpa using h
  obtain ⟨k0, y, k1, k2⟩ := has_iff.1 h
  have := get_lt k1
  have hc : cell s i = some y.x := cell_some.2 ⟨k0, by rw [k1, ← k2]⟩
  rw [hc]
  exact ⟨k0, by omega, y, k1, rfl, rfl⟩
theorem pAt (a i : Int) (s : List SL) (f : List Int) : order_List_at_v0_o i a s f ((cell s i).getD st0) := order_List_at_v0_i _ _ _ _ _ ⟨_, _, pGet a i s f, rfl⟩
theorem pHasL (a i : Int) (s : List SL) (f : List Int) : order_List_Has_v0_o i a s f (cell s i).isSome := order_List_Has_v0_i _ _ _ _ _ ⟨_, _, pGet a i s f, rfl⟩
theorem pFree {a i : Int} {s : List SL} {f : List Int} (hf : f.length ≤ 1000000000) {x : ST} (hc : cell s i = some x) : arena_Arena_stamp_Free_v0_o i a s f true a (s.set i.toNat ⟨st0, false⟩) (f ++ [i]) := by
 obtain ⟨k0, k1⟩ := cell_some.1 hc
 have := get_lt k1
 have hh : has s i = true := has_iff.2 ⟨k0, _, k1, rfl⟩
 have p := pHas a i s f
 rw [hh] at p
 exact ⟨_, p, cnd_of_false rfl ⟨k0, by omega, _, k1, hf, rfl, rfl, rfl, rfl⟩⟩
theorem pSet (a : Int) {i : Int} (x : ST) {s : List SL} (f : List Int) {x0 : ST} (hc : cell s i = some x0) : arena_Arena_stamp_Set_v0_o i x a s f true a (s.set i.toNat ⟨x, true⟩) := by
 obtain ⟨k0, k1⟩ := cell_some.1 hc
 have := get_lt k1
 have hh : has s i = true := has_iff.2 ⟨k0, _, k1, rfl⟩
 have p := pHas a i s f
 rw [hh] at p
 exact arena_Arena_stamp_Set_v0_i _ _ _ _ _ _ _ _ ⟨_, p, cnd_of_false rfl ⟨k0, by omega, _, k1, rfl, rfl, rfl⟩⟩
def upd (c : Int → Option ST) (i : Int) (x : Option ST) : Int → Option ST := fun j => if j = i then x else c j
theorem cell_set {s : List SL} {i : Int} {y : SL} (k0 : 0 ≤ i) (k1 : s[i.toNat]? = some y) (z : SL) : cell (s.set i.toNat z) = upd (cell s) i (if z.used then some z.x else none) := by
 funext j
 unfold cell upd
 by_cases hj : 0 ≤ j
 ·simp only [hj, if_true]
  rw [set_get k1]
  by_cases e : j = i
  ·subst e; simp
  ·have : ¬ j.toNat = i.toNat := by omega
   simp [e, this]
 ·have e : ¬ j = i := by omega
  simp [hj, e]
theorem cell_app (s : List SL) (x : ST) : cell (s ++ [⟨x, true⟩]) = upd (cell s) (s.length : Int) (some x) := by
 funext j
 unfold cell upd
 by_cases hj : 0 ≤ j
 ·simp only [hj, if_true]
  rcases Nat.lt_trichotomy j.toNat s.length with h | h | h
  ·rw [List.getElem?_append_left h, if_neg (by omega)]
  ·have e : j = (s.length : Int) := by omega
   subst e; simp
  ·rw [List.getElem?_append_right (by omega), List.getElem?_eq_none (by simp; omega), List.getElem?_eq_none (by omega), if_neg (by omega)]
 ·have e : ¬ j = (s.length : Int) := by omega
  simp [hj, e]
structure Got where
 i : Int
 ok : Bool
 s : List SL
 f : List Int
def alloc (x : ST) (a : Int) (s : List SL) (f : List Int) : Got := if a ≤ (s.length : Int) - f.length then ⟨0, false, s, f⟩ else match f.getLast? with
 | some i => ⟨i, true, s.set i.toNat ⟨x, true⟩, f.dropLast⟩
 | none => ⟨s.length, true, s ++ [⟨x, true⟩], f⟩
theorem pAlloc {x : ST} {a : Int} {s : List SL} {f : List Int} (h : AI s f) (hs : s.length ≤ 1000000) : arena_Arena_stamp_Alloc_v0_o x a s f (alloc x a s f).i (alloc x a s f).ok a (alloc x a s f).s (alloc x a s f).f := by
 have hle := h.le
 refine ⟨_, pLive h (by omega), a, arena_Arena_stamp_most_v0_i _ _ _ _ rfl, fun c => ?_, fun c => ?_⟩
 ·have c : a ≤ (s.length : Int) - f.length := by simpa using c
  unfold alloc; rw [if_pos c]
  exact ⟨rfl, rfl, rfl, rfl, rfl⟩
 ·have c : ¬ a ≤ (s.length : Int) - f.length := by simpa using c
  unfold alloc; rw [if_neg c, wrap64 (by omega) (by omega)]
  rcases snoc_cases f with rfl | ⟨f', i, rfl⟩
  ·refine cnd_of_false (by simp) ⟨by omega, ?_, rfl, rfl, rfl, rfl⟩
   rw [wrap64 (by simp <;> omega) (by simp <;> omega)]
   simp
  ·obtain ⟨h0, y, h1, h2⟩ := h.un i (by simp)
   have hl := get_lt h1
   have e : (((f' ++ [i]).length : Int) - 1) = (f'.length : Int) := by simp
   rw [e]
   refine cnd_of_true (by simp) ⟨by omega, by simp; omega, i, by simp, ⟨by omega, by simp; omega⟩, h0, by omega, y, h1, ?_⟩
   simp
theorem alloc_AI {x : ST} {a : Int} {s : List SL} {f : List Int} (h : AI s f) : AI (alloc x a s f).s (alloc x a s f).f := by
 unfold alloc
 split
 ·exact h
 ·rcases snoc_cases f with rfl | ⟨f', i, rfl⟩
  ·exact h.app
  ·simp only [List.getLast?_append, List.getLast?_singleton, Option.some_or, List.dropLast_concat]
   exact h.setU
theorem alloc_len {x : ST} {a : Int} {s : List SL} {f : List Int} : (alloc x a s f).s.length ≤ s.length + 1 := by
 unfold alloc
 split
 ·simp
 ·split <;> simp
theorem alloc_ok {x : ST} {a : Int} {s : List SL} {f : List Int} (h : AI s f) (hr : (s.length : Int) - f.length < a) : (alloc x a s f).ok = true ∧ cell s (alloc x a s f).i = none ∧ 0 ≤ (alloc x a s f).i ∧ cell (alloc x a s f).s = upd (cell s) (alloc x a s f).i (some x) ∧ ((alloc x a s f).s.length : Int) - (alloc x a s f).f.length = (s.length : Int) - f.length + 1 := by
 unfold alloc
 rw [if_neg (by omega)]
 rcases snoc_cases f with rfl | ⟨f', i, rfl⟩
 ·simp only [List.getLast?_nil]
  refine ⟨trivial, ?_, by omega, cell_app s x, by simp⟩
  unfold cell; simp
 ·simp only [List.getLast?_append, List.getLast?_singleton, Option.some_or, List.dropLast_concat]
  obtain ⟨h0, y, h1, h2⟩ := h.un i (by simp)
  refine ⟨trivial, ?_, h0, ?_, by simp; omega⟩
  ·unfold cell; simp [h0, h1, h2]
  ·rw [cell_set h0 h1]; simp
end Go.Proofs.Ytnlhnefjjblpcab
end
noncomputable section
namespace Go.Proofs.Ytnlhnefjjblpcab
open Go.AV Go.RowKit
def Ch (c : Int → Option ST) : Int → List Int → Int → Prop
 | _, [], _ => True
 | p, i :: r, e => (∃ l, c i = some ⟨l, r.headD e, p⟩) ∧ Ch c i r e
theorem Ch.congr {c c' : Int → Option ST} : ∀ {o : List Int} {p e : Int}, (∀ i ∈ o, c' i = c i) → Ch c p o e → Ch c' p o e
 | [], _, _, _, _ => trivial
 | i :: r, p, e, h, ⟨⟨l, hl⟩, k⟩ => ⟨⟨l, by rw [h i List.mem_cons_self, hl]⟩, Ch.congr (fun j hj => h j (List.mem_cons_of_mem _ hj)) k⟩
theorem headD_app (r B : List Int) (e : Int) : (r ++ B).headD e = r.headD (B.headD e) := by cases r <;> rfl
theorem Ch.app {c : Int → Option ST} : ∀ {A B : List Int} {p e : Int}, Ch c p (A ++ B) e ↔ Ch c p A (B.headD e) ∧ Ch c (A.getLastD p) B e
 | [], B, p, e => by simp [Ch]
 | i :: r, B, p, e => by
   rw [List.cons_append]
   show ((∃ l, c i = some ⟨l, (r ++ B).headD e, p⟩) ∧ Ch c i (r ++ B) e) ↔ ((∃ l, c i = some ⟨l, r.headD (B.headD e), p⟩) ∧ Ch c i r (B.headD e)) ∧ Ch c ((i :: r).getLastD p) B e
   rw [headD_app, Ch.app (A := r), List.getLastD_cons]
   exact ⟨fun ⟨a, b, d⟩ => ⟨⟨a, b⟩, d⟩, fun ⟨⟨a, b⟩, d⟩ => ⟨a, b, d⟩⟩
theorem Ch.mem {c : Int → Option ST} : ∀ {o : List Int} {p e i : Int}, Ch c p o e → i ∈ o → ∃ x, c i = some x
 | a :: r, p, e, i, ⟨⟨l, hl⟩, k⟩, h => by
   rcases List.mem_cons.1 h with rfl | h
   ·exact ⟨_, hl⟩
   ·exact Ch.mem k h
theorem Ch.relab {c : Int → Option ST} {i l l' nx pv : Int} (hc : c i = some ⟨l, nx, pv⟩) : ∀ {o : List Int} {p e : Int}, Ch c p o e → Ch (upd c i (some ⟨l', nx, pv⟩)) p o e
 | [], _, _, _ => trivial
 | a :: r, p, e, ⟨⟨l2, hl⟩, k⟩ => by
   refine ⟨?_, Ch.relab hc k⟩
   by_cases ea : a = i
   ·subst ea
    rw [hc] at hl
    simp only [Option.some.injEq, T_order_stamp.mk.injEq] at hl
    exact ⟨l', by unfold upd; rw [if_pos rfl, hl.2.1, hl.2.2]⟩
   ·exact ⟨l2, by unfold upd; rw [if_neg ea, hl]⟩
def lab (c : Int → Option ST) (i : Int) : Int := match c i with | some x => x.label | none => 0
theorem lab_some {c : Int → Option ST} {i : Int} {x : ST} (h : c i = some x) : lab c i = x.label := by unfold lab; rw [h]
structure OI (c : Int → Option ST) (o : List Int) : Prop where
 nd : o.Nodup
 ch : Ch c (-1) o (-1)
 us : ∀ i, c i ≠ none → i ∈ o
 lb : o.Pairwise fun x y => lab c x < lab c y
 rg : ∀ i ∈ o, 0 ≤ lab c i ∧ lab c i < 18446744073709551616
 h0 : o.head? = some 0
 nn : ∀ i ∈ o, 0 ≤ i
theorem OI.at {c : Int → Option ST} {A B : List Int} {i : Int} (h : OI c (A ++ i :: B)) : c i = some ⟨lab c i, B.headD (-1), A.getLastD (-1)⟩ := by
 obtain ⟨l, hl⟩ := (Ch.app.1 h.ch).2.1
 rw [lab_some hl, hl]
theorem OI.lt {c : Int → Option ST} {A B : List Int} {i j : Int} (h : OI c (A ++ i :: B)) (hj : j ∈ B) : lab c i < lab c j :=
 (List.pairwise_cons.1 (List.pairwise_append.1 h.lb).2.1).1 j hj
theorem nd_split {A B : List Int} {i : Int} (h : (A ++ i :: B).Nodup) : i ∉ A ∧ i ∉ B ∧ (∀ k ∈ A, k ∉ B) ∧ B.Nodup := by
 have h1 := List.nodup_append.1 h
 have h2 := List.nodup_cons.1 h1.2.1
 exact ⟨fun e => h1.2.2 i e i List.mem_cons_self rfl, h2.1, fun k ka kb => h1.2.2 k ka k (List.mem_cons_of_mem _ kb) rfl, h2.2⟩
theorem OI.ins {c c' : Int → Option ST} {A B : List Int} {i n nl : Int} (h : OI c (A ++ i :: B)) (hn : c n = none) (n0 : 0 ≤ n) (h1 : lab c i < nl) (h2 : nl < 18446744073709551616) (h3 : ∀ j ∈ B, nl < lab c j)
  (e1 : ∀ k, k ≠ n → k ≠ i → B.head? ≠ some k → c' k = c k) (ei : c' i = some ⟨lab c i, n, A.getLastD (-1)⟩) (en : c' n = some ⟨nl, B.headD (-1), i⟩) (ej : ∀ j B', B = j :: B' → c' j = some ⟨lab c j, B'.headD (-1), n⟩) : OI c' (A ++ i :: n :: B) := by
 have hno : n ∉ A ++ i :: B := fun e => by
  obtain ⟨x, hx⟩ := h.ch.mem e
  rw [hn] at hx; cases hx
 obtain ⟨iA, iB, AB, ndB⟩ := nd_split h.nd
 have nA : n ∉ A := fun e => hno (List.mem_append_left _ e)
 have nB : n ∉ B := fun e => hno (List.mem_append_right _ (List.mem_cons_of_mem _ e))
 have ni : n ≠ i := fun e => hno (by rw [e]; exact List.mem_append_right _ List.mem_cons_self)
 have cA : ∀ k ∈ A, c' k = c k := fun k hk => e1 k (fun e => nA (e ▸ hk)) (fun e => iA (e ▸ hk)) fun e => AB k hk (List.mem_of_mem_head? (by rw [e]; rfl))
 have lA : ∀ k ∈ A, lab c' k = lab c k := fun k hk => by unfold lab; rw [cA k hk]
 have li : lab c' i = lab c i := lab_some ei
 have ln : lab c' n = nl := lab_some en
 have lB : ∀ k ∈ B, lab c' k = lab c k := by
  intro k hk
  cases B with
  | nil => cases hk
  | cons j B' =>
    by_cases e : k = j
    ·subst e; exact lab_some (ej k B' rfl)
    ·have := e1 k (fun e => nB (e ▸ hk)) (fun e => iB (e ▸ hk)) (fun q => by simp at q; exact e q.symm)
     unfold lab; rw [this]
 have hp := List.pairwise_append.1 h.lb
 have hq := List.pairwise_cons.1 hp.2.1
 refine ⟨?_, ?_, ?_, ?_, ?_, ?_, ?_⟩
 ·refine List.nodup_append.2 ⟨(List.nodup_append.1 h.nd).1, List.nodup_cons.2 ⟨?_, List.nodup_cons.2 ⟨nB, ndB⟩⟩, ?_⟩
  ·intro e
   rcases List.mem_cons.1 e with e | e
   ·exact ni e.symm
   ·exact iB e
  ·intro a ha b hb e
   subst e
   rcases List.mem_cons.1 hb with e | hb
   ·exact iA (e ▸ ha)
   ·rcases List.mem_cons.1 hb with e | hb
    ·exact nA (e ▸ ha)
    ·exact AB a ha hb
 ·have hc := Ch.app.1 h.ch
  refine Ch.app.2 ⟨hc.1.congr cA, ⟨_, ei⟩, ⟨_, en⟩, ?_⟩
  cases B with
  | nil => trivial
  | cons j B' =>
    refine ⟨⟨_, ej j B' rfl⟩, Ch.congr (fun k hk => ?_) hc.2.2.2⟩
    have hkj : k ≠ j := fun e => (List.nodup_cons.1 ndB).1 (e ▸ hk)
    exact e1 k (fun e => nB (e ▸ List.mem_cons_of_mem _ hk)) (fun e => iB (e ▸ List.mem_cons_of_mem _ hk)) (fun q => by simp at q; exact hkj q.symm)
 ·intro k hk
  by_cases a1 : k = n
  ·subst a1; simp
  ·by_cases a2 : k = i
   ·subst a2; simp
   ·by_cases a3 : B.head? = some k
    ·have := List.mem_of_mem_head? (l := B) (a := k) (by rw [a3]; rfl)
     simp [this]
    ·rw [e1 k a1 a2 a3] at hk
     have := h.us k hk
     simp only [List.mem_append, List.mem_cons] at this ⊢
     rcases this with t | t | t
     ·exact .inl t
     ·exact .inr (.inl t)
     ·exact .inr (.inr (.inr t))
 ·refine List.pairwise_append.2 ⟨hp.1.imp_of_mem fun ha hb r => by rw [lA _ ha, lA _ hb]; exact r, List.pairwise_cons.2 ⟨fun b hb => ?_, List.pairwise_cons.2 ⟨fun b hb => by rw [ln, lB b hb]; exact h3 b hb, hq.2.imp_of_mem fun ha hb r => by rw [lB _ ha, lB _ hb]; exact r⟩⟩, fun a ha b hb => ?_⟩
  ·rw [li]
   rcases List.mem_cons.1 hb with rfl | hb
   ·rw [ln]; exact h1
   ·rw [lB b hb]; exact hq.1 b hb
  ·rw [lA a ha]
   have hai := hp.2.2 a ha i List.mem_cons_self
   rcases List.mem_cons.1 hb with rfl | hb
   ·rw [li]; exact hai
   ·rcases List.mem_cons.1 hb with rfl | hb
    ·rw [ln]; omega
    ·rw [lB b hb]; exact hp.2.2 a ha b (List.mem_cons_of_mem _ hb)
 ·intro k hk
  have ri := h.rg i (by simp)
  rcases List.mem_append.1 hk with hk | hk
  ·rw [lA k hk]; exact h.rg k (List.mem_append_left _ hk)
  ·rcases List.mem_cons.1 hk with rfl | hk
   ·rw [li]; exact ri
   ·rcases List.mem_cons.1 hk with rfl | hk
    ·rw [ln]; omega
    ·rw [lB k hk]; exact h.rg k (by simp [hk])
 ·have := h.h0
  cases A with
  | nil => simpa using this
  | cons a A => simpa using this
 ·intro k hk
  rcases List.mem_append.1 hk with hk | hk
  ·exact h.nn k (List.mem_append_left _ hk)
  ·rcases List.mem_cons.1 hk with rfl | hk
   ·exact h.nn k (by simp)
   ·rcases List.mem_cons.1 hk with rfl | hk
    ·exact n0
    ·exact h.nn k (by simp [hk])
end Go.Proofs.Ytnlhnefjjblpcab
end
noncomputable section
namespace Go.Proofs.Ytnlhnefjjblpcab
open Go.AV Go.RowKit
theorem lp5 {α β γ δ ε : Type} {L : (α → β → γ → δ → ε → Prop) → α → β → γ → δ → ε → Prop} (I : α → β → γ → δ → ε → Prop) (m : α → β → γ → δ → ε → Nat) (step : ∀ X a b c d e, I a b c d e → (∀ a' b' c' d' e', I a' b' c' d' e' → m a' b' c' d' e' < m a b c d e → X a' b' c' d' e') → L X a b c d e) {a : α} {b : β} {c : γ} {d : δ} {e : ε} (ha : I a b c d e) : ∀ X : α → β → γ → δ → ε → Prop, (∀ x y z w v, L X x y z w v → X x y z w v) → X a b c d e := by
 intro X hX
 have key : ∀ n a b c d e, I a b c d e → m a b c d e = n → X a b c d e := by
  intro n
  induction n using Nat.strongRecOn with
  | _ n ih => intro a b c d e ha hm; exact hX a b c d e (step X a b c d e ha fun a' b' c' d' e' hb hlt => ih (m a' b' c' d' e') (by omega) a' b' c' d' e' hb rfl)
 exact key _ a b c d e ha rfl
def endL (c : Int → Option ST) (B : List Int) : Int := match B with | [] => 18446744073709551615 | j :: _ => lab c j
def newL (a e : Int) : Int := a + (if 1048576 < (e - a) / 2 then 1048576 else (e - a) / 2)
theorem OI.endL {c : Int → Option ST} {A B : List Int} {i : Int} (h : OI c (A ++ i :: B)) : 0 ≤ lab c i ∧ lab c i ≤ endL c B ∧ endL c B ≤ 18446744073709551615 := by
 have r := h.rg i (by simp)
 cases B with
 | nil => unfold Go.Proofs.Ytnlhnefjjblpcab.endL; simp only; omega
 | cons j B' =>
   have r2 := h.rg j (by simp)
   have := h.lt (j := j) (by simp)
   unfold Go.Proofs.Ytnlhnefjjblpcab.endL; simp only; omega
theorem OI.endL_lt {c : Int → Option ST} {A B : List Int} {i x : Int} (h : OI c (A ++ i :: B)) (hx : x < Go.Proofs.Ytnlhnefjjblpcab.endL c B) : ∀ j ∈ B, x < lab c j := by
 intro j hj
 cases B with
 | nil => cases hj
 | cons b B' =>
   unfold Go.Proofs.Ytnlhnefjjblpcab.endL at hx
   simp only at hx
   rcases List.mem_cons.1 hj with rfl | hj
   ·exact hx
   ·have h' : OI c ((A ++ [i]) ++ b :: B') := by simpa using h
    have := h'.lt hj
    omega
theorem pBetween (room : Int) {s : List SL} (f : List Int) {A B : List Int} {i : Int} (h : OI (cell s) (A ++ i :: B)) :
  order_List_between_v0_o i room s f (newL (lab (cell s) i) (endL (cell s) B)) (decide (1 < endL (cell s) B - lab (cell s) i)) room s f := by
 have at' := pAt room i s f
 rw [h.at] at at'
 have hr := h.endL
 have J : ∀ e, e = endL (cell s) B → order_List_between_v0_J1i (newL (lab (cell s) i) (endL (cell s) B)) (decide (1 < endL (cell s) B - lab (cell s) i)) room s f ⟨lab (cell s) i, B.headD (-1), A.getLastD (-1)⟩ e room s f := by
  rintro e rfl
  unfold order_List_between_v0_J1i
  simp only
  have e1 : IntKind.u64.wrap (endL (cell s) B - lab (cell s) i) = endL (cell s) B - lab (cell s) i := wrapu64 (by omega) (by omega)
  have e2 : (endL (cell s) B - lab (cell s) i).tdiv 2 = (endL (cell s) B - lab (cell s) i) / 2 := by rw [Int.tdiv_eq_ediv_of_nonneg (by omega)]
  rw [e1, e2, wrapu64 (n := (endL (cell s) B - lab (cell s) i) / 2) (by omega) (by omega)]
  refine ⟨?_, rfl, trivial, trivial, trivial⟩
  unfold newL
  split
  ·exact wrapu64 (by omega) (by omega)
  ·exact wrapu64 (by omega) (by omega)
 refine order_List_between_v0_i _ _ _ _ _ _ _ _ _ ⟨_, at', ?_⟩
 cases B with
 | nil => exact cnd_of_false (by simp) (J _ rfl)
 | cons j B' =>
   have h' : OI (cell s) ((A ++ [i]) ++ j :: B') := by simpa using h
   have hj := pAt room j s f
   rw [h'.at] at hj
   have n := h.nn j (by simp)
   exact cnd_of_true (by simp; omega) ⟨_, hj, J _ rfl⟩
def usd (s : List SL) : List Bool := s.map T_arena_slot.used
theorem usd_set {s : List SL} {n : Nat} {x y : ST} (h : s[n]? = some ⟨x, true⟩) : usd (s.set n ⟨y, true⟩) = usd s := by
 unfold usd
 rw [List.map_set]
 refine List.ext_getElem? fun m => ?_
 have g : (s.map T_arena_slot.used)[n]? = some true := by rw [List.getElem?_map, h]; rfl
 rw [set_get g]
 split
 ·rename_i e; rw [e, g]
 ·rfl
theorem usd_len {s t : List SL} (h : usd s = usd t) : s.length = t.length := by have := congrArg List.length h; simpa [usd] using this
structure RlI (s0 : List SL) (f : List Int) (o A B : List Int) (s : List SL) : Prop where
 e : o = A ++ B
 ln : usd s = usd s0
 ai : AI s f
 ch : Ch (cell s) (-1) o (-1)
 us : ∀ k, cell s k ≠ none → k ∈ o
 lb : ∀ (k : Nat) (i : Int), A[k]? = some i → lab (cell s) i = (k : Int) * 1048576
def rl : List Int → Int → List SL → List SL
 | [], _, s => s
 | i :: B, x, s => rl B (x + 1048576) (match cell s i with | some y => s.set i.toNat ⟨⟨x, y.next, y.prev⟩, true⟩ | none => s)
theorem RlI.step {s0 : List SL} {f : List Int} {o A B : List Int} {s : List SL} {i : Int} (h : RlI s0 f o A (i :: B) s) (nd : o.Nodup) : ∃ y, cell s i = some y ∧ y.next = B.headD (-1) ∧ RlI s0 f o (A ++ [i]) B (s.set i.toNat ⟨⟨(A.length : Int) * 1048576, y.next, y.prev⟩, true⟩) ∧ cell (s.set i.toNat ⟨⟨(A.length : Int) * 1048576, y.next, y.prev⟩, true⟩) = upd (cell s) i (some ⟨(A.length : Int) * 1048576, y.next, y.prev⟩) := by
 have hc := h.ch
 rw [h.e] at hc
 obtain ⟨l, hl⟩ := (Ch.app.1 hc).2.1
 obtain ⟨k0, k1⟩ := cell_some.1 hl
 have hu := cell_set k0 k1 ⟨⟨(A.length : Int) * 1048576, B.headD (-1), A.getLastD (-1)⟩, true⟩
 simp only [if_true] at hu
 have nd' := nd
 rw [h.e] at nd'
 have iA := (nd_split nd').1
 have hp := AI.put (x := ⟨(A.length : Int) * 1048576, B.headD (-1), A.getLastD (-1)⟩) h.ai k1
 refine ⟨_, hl, rfl, ⟨by rw [h.e]; simp, by rw [usd_set k1]; exact h.ln, hp, ?_, ?_, ?_⟩, hu⟩
 ·rw [hu]; exact Ch.relab hl h.ch
 ·intro k hk
  rw [hu] at hk
  unfold upd at hk
  split at hk
  ·rename_i e; rw [e, h.e]; simp
  ·exact h.us k hk
 ·intro k j hj
  rw [hu]
  rcases Nat.lt_or_ge k A.length with q | q
  ·rw [List.getElem?_append_left q] at hj
   have hne : j ≠ i := fun e => iA (e ▸ List.mem_of_getElem? hj)
   have := h.lb k j hj
   rw [← this]; unfold lab upd; rw [if_neg hne]
  ·rw [List.getElem?_append_right q] at hj
   have : k - A.length = 0 := by
    rcases Nat.eq_zero_or_pos (k - A.length) with e | e
    ·exact e
    ·rw [List.getElem?_eq_none (by simp; omega)] at hj; cases hj
   rw [this] at hj
   simp at hj; subst hj
   have : k = A.length := by omega
   subst this
   unfold lab upd; rw [if_pos rfl]
theorem rl_ok {s0 : List SL} {f : List Int} {o : List Int} (nd : o.Nodup) : ∀ {B A : List Int} {s : List SL}, RlI s0 f o A B s → RlI s0 f o o [] (rl B ((A.length : Int) * 1048576) s)
 | [], A, s, h => by
   have e : o = A := by rw [h.e]; simp
   unfold rl
   exact ⟨by simp, h.ln, h.ai, h.ch, h.us, by rw [e]; exact h.lb⟩
 | i :: B, A, s, h => by
   obtain ⟨y, hy, _, hs, _⟩ := h.step nd
   have := rl_ok nd hs
   unfold rl
   rw [hy]
   have e : ((A ++ [i]).length : Int) * 1048576 = (A.length : Int) * 1048576 + 1048576 := by simp; omega
   rw [e] at this
   exact this
theorem pRelabel (room : Int) {s : List SL} {f : List Int} {o : List Int} (h : OI (cell s) o) (ai : AI s f) (ho : o.length ≤ 100000) :
  ∃ s', order_List_relabel_v0_o room s f room s' f ∧ OI (cell s') o ∧ AI s' f ∧ usd s' = usd s ∧ ∀ (k : Nat) (i : Int), o[k]? = some i → lab (cell s') i = (k : Int) * 1048576 := by
 have fin : ∃ s', RlI s f o o [] s' ∧ order_List_relabel_v0_o room s f room s' f := by
  have r0 : RlI s f o [] o s := ⟨rfl, rfl, ai, h.ch, h.us, fun k i hk => by simp at hk⟩
  refine ⟨rl o 0 s, by simpa using rl_ok h.nd r0, order_List_relabel_v0_i _ _ _ _ _ _ ?_⟩
  refine lp5 (fun (x1 x2 x3 : Int) (x4 : List Int) (x5 : List SL) => ∃ A B, RlI s f o A B x5 ∧ x1 = (A.length : Int) * 1048576 ∧ x2 = B.headD (-1) ∧ x3 = room ∧ x4 = f ∧ rl B x1 x5 = rl o 0 s) (fun x1 _ _ _ _ => (200000 * 1048576 - x1).toNat) ?_ ⟨[], o, r0, by simp, ?_, rfl, rfl, rfl⟩
  ·rintro X x1 x2 x3 x4 x5 ⟨A, B, r, rfl, rfl, rfl, rfl, hrl⟩ ih
   have hlen : A.length ≤ 100000 := by
    have := congrArg List.length r.e; simp at this; omega
   cases B with
   | nil => exact cnd_of_false (by simp) ⟨rfl, hrl, rfl⟩
   | cons i B =>
     obtain ⟨y, hy, hnx, hs, hu⟩ := r.step h.nd
     have n0 := (cell_some.1 hy).1
     have a1 := pAt x3 i x5 x4
     rw [hy] at a1
     have a2 := pSet x3 ⟨(A.length : Int) * 1048576, y.next, y.prev⟩ x4 hy
     have a3 := pAt x3 i (x5.set i.toNat ⟨⟨(A.length : Int) * 1048576, y.next, y.prev⟩, true⟩) x4
     have a4 : cell (x5.set i.toNat ⟨⟨(A.length : Int) * 1048576, y.next, y.prev⟩, true⟩) i = some ⟨(A.length : Int) * 1048576, y.next, y.prev⟩ := by rw [hu]; unfold upd; rw [if_pos rfl]
     rw [a4] at a3
     refine cnd_of_true (by simp; omega) ⟨_, a1, _, _, _, a2, _, a3, ?_⟩
     rw [wrapu64 (by omega) (by omega)]
     refine ih _ _ _ _ _ ⟨A ++ [i], B, hs, by simp; omega, hnx, rfl, rfl, ?_⟩ (by omega)
     rw [← hrl]
     conv => rhs; unfold rl
     rw [hy]
  ·obtain ⟨r, hr⟩ : ∃ r, o = 0 :: r := by
    have := h.h0
    cases o with
    | nil => cases this
    | cons a r => simp at this; exact ⟨r, by rw [this]⟩
   rw [hr]; rfl
 obtain ⟨s', r, hr⟩ := fin
 refine ⟨s', hr, ⟨h.nd, r.ch, r.us, ?_, ?_, h.h0, h.nn⟩, r.ai, r.ln, r.lb⟩
 ·refine List.pairwise_iff_getElem.2 fun i j hi hj hij => ?_
  rw [r.lb i _ (List.getElem?_eq_getElem hi), r.lb j _ (List.getElem?_eq_getElem hj)]
  omega
 ·intro i hi
  obtain ⟨k, hk, rfl⟩ := List.mem_iff_getElem.1 hi
  rw [r.lb k _ (List.getElem?_eq_getElem hk)]
  omega
structure LI (s : List SL) (f : List Int) (o : List Int) : Prop where
 ai : AI s f
 oi : OI (cell s) o
 ln : (o.length : Int) = (s.length : Int) - f.length
theorem newL_in {a e : Int} (h : 1 < e - a) : a < newL a e ∧ newL a e < e := by
 unfold newL; split <;> omega
def nextP (s : List SL) (f : List Int) : Int := (alloc st0 1048576 s f).i
theorem nextP_eq {x : ST} {s : List SL} {f : List Int} : (s.length : Int) - f.length < 1048576 → (alloc x 1048576 s f).i = nextP s f := by
 intro h
 unfold nextP alloc
 rw [if_neg (by omega), if_neg (by omega)]
 cases f.getLast? <;> rfl
theorem alloc_same {x : ST} {s : List SL} {f : List Int} : (alloc x 1048576 s f).f = (alloc st0 1048576 s f).f ∧ usd (alloc x 1048576 s f).s = usd (alloc st0 1048576 s f).s := by
 unfold alloc
 split
 ·exact ⟨rfl, rfl⟩
 ·cases f.getLast? with
  | none => refine ⟨rfl, ?_⟩; unfold usd; simp
  | some i => refine ⟨rfl, ?_⟩; unfold usd; simp [List.map_set]
theorem J1_ok {s : List SL} {f : List Int} {A B : List Int} {i nl : Int} (h : LI s f (A ++ i :: B)) (hs : s.length ≤ 10000) (h1 : lab (cell s) i < nl) (h2 : nl < endL (cell s) B) :
  ∃ s' f', order_List_After_v0_J1i i (nextP s f) true 1048576 s' f' nl 1048576 s f ∧ LI s' f' (A ++ i :: nextP s f :: B) ∧ s'.length ≤ s.length + 1 ∧ cell s (nextP s f) = none ∧ f' = (alloc st0 1048576 s f).f ∧ usd s' = usd (alloc st0 1048576 s f).s := by
 have hr := h.oi.endL
 have hlt := h.oi.endL_lt h2
 have hle := h.ai.le
 have hi := h.oi.at
 have at1 := pAt 1048576 i s f
 rw [hi] at at1
 have hroom : (s.length : Int) - f.length < 1048576 := by omega
 obtain ⟨q1, q2, q3, q4, q5⟩ := alloc_ok (x := ⟨nl, B.headD (-1), i⟩) (a := 1048576) h.ai hroom
 have p := pAlloc (x := ⟨nl, B.headD (-1), i⟩) (a := 1048576) h.ai (by omega)
 have hA := alloc_AI (x := ⟨nl, B.headD (-1), i⟩) (a := 1048576) h.ai
 have hL := alloc_len (x := ⟨nl, B.headD (-1), i⟩) (a := 1048576) (s := s) (f := f)
 have hsame := alloc_same (x := ⟨nl, B.headD (-1), i⟩) (s := s) (f := f)
 rw [q1] at p
 rw [nextP_eq hroom] at p q2 q3 q4
 generalize nextP s f = n at *
 generalize (alloc ⟨nl, B.headD (-1), i⟩ 1048576 s f).s = s1 at *
 generalize (alloc ⟨nl, B.headD (-1), i⟩ 1048576 s f).f = f1 at *
 have hno : n ∉ A ++ i :: B := fun e => by
  obtain ⟨x, hx⟩ := h.oi.ch.mem e
  rw [q2] at hx; cases hx
 have ni : n ≠ i := fun e => hno (by rw [e]; simp)
 have iB := (nd_split h.oi.nd).2.1
 have c1i : cell s1 i = some ⟨lab (cell s) i, B.headD (-1), A.getLastD (-1)⟩ := by rw [q4]; unfold upd; rw [if_neg (fun e => ni e.symm), hi]
 have c1n : cell s1 n = some ⟨nl, B.headD (-1), i⟩ := by rw [q4]; unfold upd; rw [if_pos rfl]
 have hln := h.ln
 have hlen : ((A ++ i :: n :: B).length : Int) = ((A ++ i :: B).length : Int) + 1 := by simp; omega
 cases B with
 | nil =>
   obtain ⟨k0, k1⟩ := cell_some.1 c1i
   have a2 := pSet 1048576 (⟨lab (cell s) i, n, A.getLastD (-1)⟩ : ST) f1 c1i
   have hu := cell_set k0 k1 ⟨⟨lab (cell s) i, n, A.getLastD (-1)⟩, true⟩
   simp only [if_true] at hu
   refine ⟨_, f1, ⟨_, at1, n, true, 1048576, s1, f1, p, cnd_of_false rfl (cnd_of_false (by simp) ⟨_, _, _, a2, rfl, rfl, rfl, rfl, rfl⟩)⟩, ⟨AI.put hA k1, ?_, ?_⟩, by simp; omega, q2, hsame.1, by rw [usd_set k1]; exact hsame.2⟩
   ·refine h.oi.ins q2 q3 h1 (by omega) hlt (fun k kn ki _ => ?_) ?_ ?_ (fun j B' e => by cases e)
    ·rw [hu, q4]; unfold upd; rw [if_neg ki, if_neg kn]
    ·rw [hu]; unfold upd; rw [if_pos rfl]
    ·rw [hu]; unfold upd; rw [if_neg ni]; exact c1n
   ·rw [hlen]; simp only [List.length_set]; omega
 | cons j B' =>
   have h' : OI (cell s) ((A ++ [i]) ++ j :: B') := by simpa using h.oi
   have hj := h'.at
   have jn : j ≠ n := fun e => hno (by rw [← e]; simp)
   have ji : j ≠ i := fun e => iB (by rw [← e]; simp)
   have j0 := h.oi.nn j (by simp)
   have e1 : (A ++ [i]).getLastD (-1) = i := by simp
   rw [e1] at hj
   have c1j : cell s1 j = some ⟨lab (cell s) j, B'.headD (-1), i⟩ := by rw [q4]; unfold upd; rw [if_neg jn, hj]
   have at2 := pAt 1048576 j s1 f1
   rw [c1j] at at2
   obtain ⟨m0, m1⟩ := cell_some.1 c1j
   have a1 := pSet 1048576 (⟨lab (cell s) j, B'.headD (-1), n⟩ : ST) f1 c1j
   have hv := cell_set m0 m1 ⟨⟨lab (cell s) j, B'.headD (-1), n⟩, true⟩
   simp only [if_true] at hv
   have hA2 := AI.put (x := ⟨lab (cell s) j, B'.headD (-1), n⟩) hA m1
   have us2 : usd (s1.set j.toNat ⟨⟨lab (cell s) j, B'.headD (-1), n⟩, true⟩) = usd s1 := usd_set m1
   have len2 : (s1.set j.toNat ⟨⟨lab (cell s) j, B'.headD (-1), n⟩, true⟩).length = s1.length := by simp
   simp only at hA2
   generalize (s1.set j.toNat ⟨⟨lab (cell s) j, B'.headD (-1), n⟩, true⟩) = s2 at *
   have c2i : cell s2 i = some ⟨lab (cell s) i, j, A.getLastD (-1)⟩ := by rw [hv]; unfold upd; rw [if_neg (fun e => ji e.symm)]; exact c1i
   obtain ⟨k0, k1⟩ := cell_some.1 c2i
   have a2 := pSet 1048576 (⟨lab (cell s) i, n, A.getLastD (-1)⟩ : ST) f1 c2i
   have hu := cell_set k0 k1 ⟨⟨lab (cell s) i, n, A.getLastD (-1)⟩, true⟩
   simp only [if_true] at hu
   refine ⟨_, f1, ⟨_, at1, n, true, 1048576, s1, f1, p, cnd_of_false rfl (cnd_of_true (by simp; omega) ⟨_, at2, _, _, _, a1, _, _, _, a2, rfl, rfl, rfl, rfl, rfl⟩)⟩, ⟨AI.put hA2 k1, ?_, ?_⟩, by simp; omega, q2, hsame.1, by rw [usd_set k1, us2]; exact hsame.2⟩
   ·refine h.oi.ins q2 q3 h1 (by omega) hlt (fun k kn ki kb => ?_) ?_ ?_ (fun j2 B2 e => ?_)
    ·have kj : k ≠ j := fun e => kb (by rw [e]; rfl)
     rw [hu]; unfold upd; rw [if_neg ki, hv]; unfold upd; rw [if_neg kj, q4]; unfold upd; rw [if_neg kn]
    ·rw [hu]; unfold upd; rw [if_pos rfl]
    ·rw [hu]; unfold upd; rw [if_neg ni, hv]; unfold upd; rw [if_neg (fun e => jn e.symm)]; exact c1n
    ·cases e
     rw [hu]; unfold upd; rw [if_neg ji, hv]; unfold upd; rw [if_pos rfl]
   ·rw [hlen]; simp only [List.length_set]; omega
theorem pAfter {s : List SL} {f : List Int} {A B : List Int} {i : Int} (h : LI s f (A ++ i :: B)) (hs : s.length ≤ 10000) :
  ∃ s' f', order_List_After_v0_o i 1048576 s f (nextP s f) true 1048576 s' f' ∧ LI s' f' (A ++ i :: nextP s f :: B) ∧ s'.length ≤ s.length + 1 ∧ cell s (nextP s f) = none ∧ f' = (alloc st0 1048576 s f).f ∧ usd s' = usd (alloc st0 1048576 s f).s := by
 have hH := pHasL 1048576 i s f
 rw [h.oi.at] at hH
 have hb := pBetween 1048576 f h.oi
 have hln := h.ln
 have hle := h.ai.le
 by_cases c : 1 < endL (cell s) B - lab (cell s) i
 ·obtain ⟨n1, n2⟩ := newL_in c
  obtain ⟨s', f', j1, j2, j3, j4, j5⟩ := J1_ok h hs n1 n2
  rw [decide_eq_true c] at hb
  exact ⟨s', f', order_List_After_v0_i _ _ _ _ _ _ _ _ _ ⟨_, hH, cnd_of_false rfl ⟨_, _, _, _, _, hb, cnd_of_false rfl j1⟩⟩, j2, j3, j4, j5⟩
 ·rw [decide_eq_false c] at hb
  obtain ⟨s1, r1, r2, r3, r4', r5⟩ := pRelabel 1048576 h.oi h.ai (by omega)
  have r4 := usd_len r4'
  have hb2 := pBetween 1048576 f r2
  have li : lab (cell s1) i = (A.length : Int) * 1048576 := r5 A.length i (by simp)
  have c2 : 1 < endL (cell s1) B - lab (cell s1) i := by
   cases B with
   | nil => unfold endL; simp only; rw [li]; simp at hln; omega
   | cons j B' =>
     have lj : lab (cell s1) j = ((A.length + 1 : Nat) : Int) * 1048576 := r5 (A.length + 1) j (by
      rw [List.getElem?_append_right (by omega)]; simp)
     unfold endL; simp only; rw [li, lj]; omega
  rw [decide_eq_true c2] at hb2
  obtain ⟨n1, n2⟩ := newL_in c2
  have h1 : LI s1 f (A ++ i :: B) := ⟨r3, r2, by rw [hln, r4]⟩
  obtain ⟨s', f', j1, j2, j3, j4, j5, j6⟩ := J1_ok h1 (by omega) n1 n2
  have en : nextP s1 f = nextP s f := by
   unfold nextP alloc
   rw [if_neg (by omega), if_neg (by omega), r4]
   cases f.getLast? <;> rfl
  rw [en] at j1 j2 j4
  have ef : (alloc st0 1048576 s1 f).f = (alloc st0 1048576 s f).f := by
   unfold alloc
   rw [if_neg (by omega), if_neg (by omega)]
   cases f.getLast? <;> rfl
  have eu : usd (alloc st0 1048576 s1 f).s = usd (alloc st0 1048576 s f).s := by
   have r4u : s1.map T_arena_slot.used = s.map T_arena_slot.used := r4'
   unfold alloc
   rw [if_neg (by omega), if_neg (by omega)]
   cases f.getLast? with
   | none => unfold usd; simp [r4u]
   | some i => unfold usd; simp [List.map_set, r4u]
  refine ⟨s', f', order_List_After_v0_i _ _ _ _ _ _ _ _ _ ⟨_, hH, cnd_of_false rfl ⟨_, _, _, _, _, hb, cnd_of_true rfl ⟨_, _, _, r1, _, _, _, _, _, hb2, j1⟩⟩⟩, j2, by omega, ?_, by rw [j5, ef], by rw [j6, eu]⟩
  cases e : cell s (nextP s f) with
  | none => rfl
  | some x =>
    have := h.oi.us _ (by rw [e]; simp)
    obtain ⟨y, hy⟩ := r2.ch.mem this
    rw [j4] at hy; cases hy
theorem pLess (a : Int) {s : List SL} (f : List Int) {x y : Int} {p q : ST} (hx : cell s x = some p) (hy : cell s y = some q) : order_List_Less_v0_o x y a s f (decide (lab (cell s) x < lab (cell s) y)) := by
 have h1 := pHasL a x s f
 have h2 := pHasL a y s f
 have h3 := pAt a x s f
 have h4 := pAt a y s f
 rw [hx] at h1 h3
 rw [hy] at h2 h4
 rw [lab_some hx, lab_some hy]
 exact order_List_Less_v0_i _ _ _ _ _ _ ⟨_, h1, cnd_of_true rfl ⟨_, h2, cnd_of_true rfl ⟨_, h3, _, h4, rfl⟩⟩⟩
theorem pLen {s : List SL} {f o : List Int} (h : LI s f o) (hs : s.length ≤ 100000) (a : Int) : order_List_Len_v0_o a s f (o.length : Int) := by
 have hle := h.ai.le
 refine order_List_Len_v0_i _ _ _ _ ⟨_, arena_Arena_stamp_Live_v0_i _ _ _ _ rfl, ?_⟩
 rw [wrap64 (by omega) (by omega), h.ln]
theorem pNew : ∃ s, order_New_v0_o 1048576 s [] ∧ LI s [] [0] ∧ s.length = 1 := by
 refine ⟨[⟨⟨0, -1, -1⟩, true⟩], ⟨1048576, [], [], ⟨by decide, rfl, rfl⟩, 0, true, 1048576, [⟨⟨0, -1, -1⟩, true⟩], [], ?_, rfl, rfl, rfl⟩, ⟨⟨by simp, fun i h => by simp at h, by simp⟩, ?_, by simp⟩, rfl⟩
 ·exact pAlloc (x := ⟨0, -1, -1⟩) (a := 1048576) (s := []) (f := []) ⟨by simp, fun _ h => by simp at h, by simp⟩ (by simp)
 ·have hc : cell [⟨⟨0, -1, -1⟩, true⟩] 0 = some ⟨0, -1, -1⟩ := by simp [cell]
  refine ⟨by simp, ⟨⟨0, hc⟩, trivial⟩, fun i hi => ?_, by simp, fun i hi => ?_, rfl, fun i hi => ?_⟩
  ·unfold cell at hi
   by_cases h0 : 0 ≤ i
   ·by_cases h1 : i = 0
    ·simp [h1]
    ·rw [List.getElem?_eq_none (by simp; omega)] at hi; simp at hi
   ·simp [h0] at hi
  ·simp at hi; subst hi; rw [lab_some hc]; simp
  ·simp at hi; omega
end Go.Proofs.Ytnlhnefjjblpcab
end
noncomputable section
namespace Go.Proofs.Ytnlhnefjjblpcab
open Go.AV Go.RowKit
theorem next0 {s : List SL} (h : s.length < 1000000) : nextP s [] = s.length ∧ (alloc st0 1048576 s []).f = [] ∧ (usd (alloc st0 1048576 s []).s).length = s.length + 1 := by
 unfold nextP alloc
 rw [if_neg (by simp; omega)]
 refine ⟨rfl, rfl, by simp [usd]⟩
theorem OI.head {c : Int → Option ST} {o : List Int} (h : OI c o) {n : Int} (hn : n ∈ o) (h0 : n ≠ 0) : lab c 0 < lab c n := by
 have hh := h.h0
 cases o with
 | nil => cases hh
 | cons a r =>
   simp at hh; subst hh
   have h' : OI c ([] ++ 0 :: r) := h
   rcases List.mem_cons.1 hn with e | e
   ·exact (h0 e).elim
   ·exact h'.lt e
theorem OI.some0 {c : Int → Option ST} {o : List Int} (h : OI c o) : (0 : Int) ∈ o ∧ ∃ x, c 0 = some x := by
 have hh := h.h0
 cases o with
 | nil => cases hh
 | cons a r =>
   simp at hh; subst hh
   exact ⟨by simp, h.ch.mem List.mem_cons_self⟩
theorem put0 {s : List SL} {o : List Int} (h : LI s [] o) (hs : s.length ≤ 9000) {i : Int} (hi : i ∈ o) :
  ∃ s' A B, o = A ++ i :: B ∧ order_List_After_v0_o i 1048576 s [] (s.length : Int) true 1048576 s' [] ∧ LI s' [] (A ++ i :: (s.length : Int) :: B) ∧ s'.length = s.length + 1 ∧ (s.length : Int) ≠ 0 := by
 obtain ⟨A, B, rfl⟩ := List.append_of_mem hi
 obtain ⟨s', f', a1, a2, a3, a4, a5, a6⟩ := pAfter h (by omega)
 obtain ⟨n1, n2, n3⟩ := next0 (s := s) (by omega)
 rw [n1] at a1 a2 a4
 rw [n2] at a5
 subst a5
 refine ⟨s', A, B, rfl, a1, a2, ?_, ?_⟩
 ·have := congrArg List.length a6
  rw [n3] at this; simpa [usd] using this
 ·intro e
  obtain ⟨x, hx⟩ := h.oi.some0.2
  rw [e, hx] at a4; cases a4
theorem speaks_true : law02_speaks_o true := by
 refine law02_speaks_i true ?_
 obtain ⟨s1, w1, h1, l1⟩ := pNew
 obtain ⟨s2, A, B, e, w2, h2, l2, _⟩ := put0 h1 (by omega) (i := 0) (by simp)
 obtain ⟨rfl, rfl⟩ : A = [] ∧ B = [] := by
  cases A with
  | nil => simp at e; exact ⟨rfl, e⟩
  | cons a A => simp at e
 rw [l1] at w2 h2
 obtain ⟨s3, A, B, e, w3, h3, l3, _⟩ := put0 h2 (by omega) (i := 0) (by simp)
 obtain ⟨rfl, rfl⟩ : A = [] ∧ B = [1] := by
  cases A with
  | nil => simp at e; exact ⟨rfl, e.symm⟩
  | cons a A =>
    simp at e
    cases A with
    | nil => simp at e
    | cons b A => simp at e
 rw [l2, l1] at w3 h3
 have h3' : OI (cell s3) ([0] ++ 2 :: [1]) := h3.oi
 have lt := h3'.lt (j := 1) (by simp)
 obtain ⟨x1, c1⟩ := h3.oi.ch.mem (i := 1) (by simp)
 obtain ⟨x2, c2⟩ := h3.oi.ch.mem (i := 2) (by simp)
 have p1 := pLess 1048576 [] c2 c1
 have p2 := pLess 1048576 [] c1 c2
 have p3 := pLen h3 (by omega) 1048576
 refine ⟨_, _, _, w1, _, _, _, _, _, w2, _, _, _, _, _, w3, cnd_of_true rfl (cnd_of_true rfl (cnd_of_true rfl (cnd_of_true rfl ⟨_, p1, cnd_of_true (by simpa using lt) ⟨_, p2, cnd_of_true (by simp; omega) ⟨_, p3, ?_⟩⟩⟩)))⟩
 show _ = _
 simp
end Go.Proofs.Ytnlhnefjjblpcab
end
noncomputable section
namespace Go.Proofs.Ytnlhnefjjblpcab
open Go.AV Go.RowKit
theorem OI.del {c c' : Int → Option ST} {A B : List Int} {p i : Int} (h : OI c (A ++ p :: i :: B)) (e1 : ∀ k, k ≠ i → k ≠ p → B.head? ≠ some k → c' k = c k) (ei : c' i = none) (ep : c' p = some ⟨lab c p, B.headD (-1), A.getLastD (-1)⟩) (ej : ∀ j B', B = j :: B' → c' j = some ⟨lab c j, B'.headD (-1), p⟩) : OI c' (A ++ p :: B) := by
 obtain ⟨pA, pB0, AB0, nd0⟩ := nd_split h.nd
 have pi : p ≠ i := fun e => pB0 (by rw [e]; simp)
 have pB : p ∉ B := fun e => pB0 (List.mem_cons_of_mem _ e)
 have iB := (List.nodup_cons.1 nd0).1
 have ndB := (List.nodup_cons.1 nd0).2
 have iA : i ∉ A := fun e => AB0 i e (by simp)
 have AB : ∀ k ∈ A, k ∉ B := fun k hk hb => AB0 k hk (List.mem_cons_of_mem _ hb)
 have cA : ∀ k ∈ A, c' k = c k := fun k hk => e1 k (fun e => iA (e ▸ hk)) (fun e => pA (e ▸ hk)) fun e => AB k hk (List.mem_of_mem_head? (by rw [e]; rfl))
 have lA : ∀ k ∈ A, lab c' k = lab c k := fun k hk => by unfold lab; rw [cA k hk]
 have lp : lab c' p = lab c p := lab_some ep
 have lB : ∀ k ∈ B, lab c' k = lab c k := by
  intro k hk
  cases B with
  | nil => cases hk
  | cons j B' =>
    by_cases e : k = j
    ·subst e; exact lab_some (ej k B' rfl)
    ·have := e1 k (fun e => iB (e ▸ hk)) (fun e => pB (e ▸ hk)) (fun q => by simp at q; exact e q.symm)
     unfold lab; rw [this]
 have mem : ∀ k, k ∈ A ++ p :: B → k ∈ A ++ p :: i :: B := fun k hk => by
  simp only [List.mem_append, List.mem_cons] at hk ⊢
  rcases hk with t | t | t
  ·exact .inl t
  ·exact .inr (.inl t)
  ·exact .inr (.inr (.inr t))
 have lall : ∀ k ∈ A ++ p :: B, lab c' k = lab c k := fun k hk => by
  simp only [List.mem_append, List.mem_cons] at hk
  rcases hk with t | rfl | t
  ·exact lA k t
  ·exact lp
  ·exact lB k t
 have sub : (A ++ p :: B).Sublist (A ++ p :: i :: B) := List.Sublist.append (List.Sublist.refl _) (List.Sublist.cons_cons _ (List.sublist_cons_self _ _))
 refine ⟨h.nd.sublist sub, ?_, ?_, ?_, fun k hk => ?_, ?_, fun k hk => h.nn k (mem k hk)⟩
 ·have hc := Ch.app.1 h.ch
  refine Ch.app.2 ⟨hc.1.congr cA, ⟨_, ep⟩, ?_⟩
  cases B with
  | nil => trivial
  | cons j B' =>
    refine ⟨⟨_, ej j B' rfl⟩, Ch.congr (fun k hk => ?_) hc.2.2.2.2⟩
    have hkj : k ≠ j := fun e => (List.nodup_cons.1 ndB).1 (e ▸ hk)
    exact e1 k (fun e => iB (e ▸ List.mem_cons_of_mem _ hk)) (fun e => pB (e ▸ List.mem_cons_of_mem _ hk)) (fun q => by simp at q; exact hkj q.symm)
 ·intro k hk
  by_cases a1 : k = i
  ·subst a1; exact (hk ei).elim
  ·by_cases a2 : k = p
   ·subst a2; simp
   ·by_cases a3 : B.head? = some k
    ·have := List.mem_of_mem_head? (l := B) (a := k) (by rw [a3]; rfl)
     simp [this]
    ·rw [e1 k a1 a2 a3] at hk
     have := h.us k hk
     simp only [List.mem_append, List.mem_cons] at this ⊢
     rcases this with t | t | t | t
     ·exact .inl t
     ·exact .inr (.inl t)
     ·exact (a1 t).elim
     ·exact .inr (.inr t)
 ·exact (h.lb.sublist sub).imp_of_mem fun ha hb r => by rw [lall _ ha, lall _ hb]; exact r
 ·rw [lall k hk]; exact h.rg k (mem k hk)
 ·have := h.h0
  cases A with
  | nil => simpa using this
  | cons a A => simpa using this
theorem usd_setF {s : List SL} {n : Nat} {x : ST} : usd (s.set n ⟨x, false⟩) = (usd s).set n false := by unfold usd; rw [List.map_set]
theorem AI.freeS {s : List SL} {f : List Int} {i : Int} {x : ST} (h : AI s f) (hc : cell s i = some x) : AI (s.set i.toNat ⟨st0, false⟩) (f ++ [i]) := by
 obtain ⟨k0, k1⟩ := cell_some.1 hc
 exact h.free k0 k1 rfl
theorem pDelete {s : List SL} {f : List Int} {A B : List Int} {p i : Int} (h : LI s f (A ++ p :: i :: B)) (hs : s.length ≤ 10000) :
  ∃ s', order_List_Delete_v0_o i 1048576 s f true 1048576 s' (f ++ [i]) ∧ LI s' (f ++ [i]) (A ++ p :: B) ∧ usd s' = (usd s).set i.toNat false ∧ s'.length = s.length := by
 obtain ⟨pA, pB0, AB0, nd0⟩ := nd_split h.oi.nd
 have pi : p ≠ i := fun e => pB0 (by rw [e]; simp)
 have pB : p ∉ B := fun e => pB0 (List.mem_cons_of_mem _ e)
 have iB := (List.nodup_cons.1 nd0).1
 have i0 : i ≠ 0 := by
  have hh := h.oi.h0
  cases A with
  | nil => simp at hh; rw [← hh]; exact fun e => pi e.symm
  | cons a A => simp at hh; subst hh; exact fun e => AB0 0 (by simp) (by rw [← e]; simp)
 have hI : OI (cell s) ((A ++ [p]) ++ i :: B) := by simpa using h.oi
 have ci := hI.at
 rw [show (A ++ [p]).getLastD (-1) = p by simp] at ci
 have cp := h.oi.at
 rw [show (i :: B).headD (-1) = i from rfl] at cp
 have hle := h.ai.le
 have hln := h.ln
 have at1 := pAt 1048576 i s f
 rw [ci] at at1
 have at2 := pAt 1048576 p s f
 rw [cp] at at2
 have hH := pHasL 1048576 i s f
 rw [ci] at hH
 have set1 := pSet 1048576 (⟨lab (cell s) p, B.headD (-1), A.getLastD (-1)⟩ : ST) f cp
 obtain ⟨m0, m1⟩ := cell_some.1 cp
 have hv := cell_set m0 m1 ⟨⟨lab (cell s) p, B.headD (-1), A.getLastD (-1)⟩, true⟩
 simp only [if_true] at hv
 have ai1 := AI.put (x := ⟨lab (cell s) p, B.headD (-1), A.getLastD (-1)⟩) h.ai m1
 have us1 : usd (s.set p.toNat ⟨⟨lab (cell s) p, B.headD (-1), A.getLastD (-1)⟩, true⟩) = usd s := usd_set m1
 simp only at ai1
 generalize (s.set p.toNat ⟨⟨lab (cell s) p, B.headD (-1), A.getLastD (-1)⟩, true⟩) = s1 at *
 have hlen : ((A ++ p :: B).length : Int) = ((A ++ p :: i :: B).length : Int) - 1 := by simp; omega
 have l1 := usd_len us1
 cases B with
 | nil =>
   have c1i : cell s1 i = some ⟨lab (cell s) i, -1, p⟩ := by rw [hv]; unfold upd; rw [if_neg (fun e => pi e.symm)]; exact ci
   obtain ⟨k0, k1⟩ := cell_some.1 c1i
   have fr := pFree (a := 1048576) (f := f) (by omega) c1i
   have hw := cell_set k0 k1 ⟨st0, false⟩
   simp only [Bool.false_eq_true, if_false] at hw
   refine ⟨s1.set i.toNat ⟨st0, false⟩, order_List_Delete_v0_i _ _ _ _ _ _ _ _ (cnd_of_false (by simpa using i0) ⟨_, hH, ?_⟩), ⟨AI.freeS ai1 c1i, ?_, ?_⟩, by rw [usd_setF, us1], by simp [l1]⟩
   ·exact cnd_of_false rfl ⟨_, at1, _, at2, _, _, _, set1, cnd_of_false (by simp) ⟨_, _, _, _, fr, rfl, rfl, rfl, rfl⟩⟩
   ·refine h.oi.del (fun k ki kp _ => ?_) ?_ ?_ (fun j B' e => by cases e)
    ·rw [hw]; unfold upd; rw [if_neg ki, hv]; unfold upd; rw [if_neg kp]
    ·rw [hw]; unfold upd; rw [if_pos rfl]
    ·rw [hw]; unfold upd; rw [if_neg pi, hv]; unfold upd; rw [if_pos rfl]
   ·rw [hlen, hln, List.length_set, List.length_append, List.length_singleton]; omega
 | cons j B' =>
   have ji : j ≠ i := fun e => iB (by rw [← e]; simp)
   have jp : j ≠ p := fun e => pB (by rw [← e]; simp)
   have j0 := h.oi.nn j (by simp)
   have hJ : OI (cell s) ((A ++ [p, i]) ++ j :: B') := by simpa using h.oi
   have cj := hJ.at
   rw [show (A ++ [p, i]).getLastD (-1) = i by simp] at cj
   have c1j : cell s1 j = some ⟨lab (cell s) j, B'.headD (-1), i⟩ := by rw [hv]; unfold upd; rw [if_neg jp]; exact cj
   have at3 := pAt 1048576 j s1 f
   rw [c1j] at at3
   have set2 := pSet 1048576 (⟨lab (cell s) j, B'.headD (-1), p⟩ : ST) f c1j
   obtain ⟨n0, n1⟩ := cell_some.1 c1j
   have hx := cell_set n0 n1 ⟨⟨lab (cell s) j, B'.headD (-1), p⟩, true⟩
   simp only [if_true] at hx
   have ai2 := AI.put (x := ⟨lab (cell s) j, B'.headD (-1), p⟩) ai1 n1
   have us2 : usd (s1.set j.toNat ⟨⟨lab (cell s) j, B'.headD (-1), p⟩, true⟩) = usd s1 := usd_set n1
   simp only at ai2
   generalize (s1.set j.toNat ⟨⟨lab (cell s) j, B'.headD (-1), p⟩, true⟩) = s2 at *
   have l2 := usd_len us2
   have c2i : cell s2 i = some ⟨lab (cell s) i, j, p⟩ := by rw [hx]; unfold upd; rw [if_neg (fun e => ji e.symm), hv]; unfold upd; rw [if_neg (fun e => pi e.symm)]; exact ci
   obtain ⟨k0, k1⟩ := cell_some.1 c2i
   have fr := pFree (a := 1048576) (f := f) (by omega) c2i
   have hw := cell_set k0 k1 ⟨st0, false⟩
   simp only [Bool.false_eq_true, if_false] at hw
   refine ⟨s2.set i.toNat ⟨st0, false⟩, order_List_Delete_v0_i _ _ _ _ _ _ _ _ (cnd_of_false (by simpa using i0) ⟨_, hH, ?_⟩), ⟨AI.freeS ai2 c2i, ?_, ?_⟩, by rw [usd_setF, us2, us1], by simp [l1, l2]⟩
   ·exact cnd_of_false rfl ⟨_, at1, _, at2, _, _, _, set1, cnd_of_true (by simp; omega) ⟨_, at3, _, _, _, set2, ⟨_, _, _, _, fr, rfl, rfl, rfl, rfl⟩⟩⟩
   ·refine h.oi.del (fun k ki kp kb => ?_) ?_ ?_ (fun j2 B2 e => ?_)
    ·have kj : k ≠ j := fun e => kb (by rw [e]; rfl)
     rw [hw]; unfold upd; rw [if_neg ki, hx]; unfold upd; rw [if_neg kj, hv]; unfold upd; rw [if_neg kp]
    ·rw [hw]; unfold upd; rw [if_pos rfl]
    ·rw [hw]; unfold upd; rw [if_neg pi, hx]; unfold upd; rw [if_neg (fun e => jp e.symm), hv]; unfold upd; rw [if_pos rfl]
    ·cases e
     rw [hw]; unfold upd; rw [if_neg ji, hx]; unfold upd; rw [if_pos rfl]
   ·rw [hlen, hln, List.length_set, List.length_append, List.length_singleton]; omega
theorem pDelete_no {s : List SL} {f : List Int} {i : Int} (h : i = 0 ∨ cell s i = none) : order_List_Delete_v0_o i 1048576 s f false 1048576 s f := by
 have hH := pHasL 1048576 i s f
 refine order_List_Delete_v0_i _ _ _ _ _ _ _ _ ⟨fun _ => cnd_of_true rfl ⟨rfl, rfl, rfl, rfl⟩, fun c => ⟨_, hH, ?_⟩⟩
 rcases h with rfl | h
 ·cases c
 ·rw [h]; exact cnd_of_true rfl ⟨rfl, rfl, rfl, rfl⟩
theorem pAfter_no {s : List SL} {f : List Int} {i : Int} (h : cell s i = none) : order_List_After_v0_o i 1048576 s f 0 false 1048576 s f := by
 have hH := pHasL 1048576 i s f
 rw [h] at hH
 exact order_List_After_v0_i _ _ _ _ _ _ _ _ _ ⟨_, hH, cnd_of_true rfl ⟨rfl, rfl, rfl, rfl, rfl⟩⟩
theorem pLess_no {s : List SL} (a : Int) (f : List Int) {x y : Int} (h : cell s x = none ∨ cell s y = none) : order_List_Less_v0_o x y a s f false := by
 have h1 := pHasL a x s f
 have h2 := pHasL a y s f
 refine order_List_Less_v0_i _ _ _ _ _ _ ⟨_, h1, fun c => ⟨_, h2, fun c2 => ?_, fun _ => rfl⟩, fun _ => rfl⟩
 rcases h with h | h
 ·rw [h] at c; cases c
 ·rw [h] at c2; cases c2
theorem OI.idx {c : Int → Option ST} {o : List Int} (h : OI c o) {k m : Nat} {x y : Int} (hx : o[k]? = some x) (hy : o[m]? = some y) : decide (lab c x < lab c y) = decide ((k : Int) < (m : Int)) := by
 obtain ⟨k1, rfl⟩ := List.getElem?_eq_some_iff.1 hx
 obtain ⟨m1, rfl⟩ := List.getElem?_eq_some_iff.1 hy
 have hp := List.pairwise_iff_getElem.1 h.lb
 rcases Nat.lt_trichotomy k m with q | q | q
 ·have := hp k m k1 m1 q
  simp [this, q]
 ·subst q; simp
 ·have := hp m k m1 k1 q
  have a1 : ¬ lab c o[k] < lab c o[m] := by omega
  have a2 : ¬ (k : Int) < (m : Int) := by omega
  simp only [a1, a2]
end Go.Proofs.Ytnlhnefjjblpcab
end
noncomputable section
namespace Go.Proofs.Ytnlhnefjjblpcab
open Go.AV Go.RowKit
theorem lp9 {α1 α2 α3 α4 α5 α6 α7 α8 α9 : Type} {L : (α1 → α2 → α3 → α4 → α5 → α6 → α7 → α8 → α9 → Prop) → α1 → α2 → α3 → α4 → α5 → α6 → α7 → α8 → α9 → Prop} (I : α1 → α2 → α3 → α4 → α5 → α6 → α7 → α8 → α9 → Prop) (m : α1 → Nat)
  (step : ∀ X a b c d e f g h k, I a b c d e f g h k → (∀ a' b' c' d' e' f' g' h' k', I a' b' c' d' e' f' g' h' k' → m a' < m a → X a' b' c' d' e' f' g' h' k') → L X a b c d e f g h k) {a : α1} {b : α2} {c : α3} {d : α4} {e : α5} {f : α6} {g : α7} {h : α8} {k : α9} (ha : I a b c d e f g h k) : ∀ X : α1 → α2 → α3 → α4 → α5 → α6 → α7 → α8 → α9 → Prop, (∀ x1 x2 x3 x4 x5 x6 x7 x8 x9, L X x1 x2 x3 x4 x5 x6 x7 x8 x9 → X x1 x2 x3 x4 x5 x6 x7 x8 x9) → X a b c d e f g h k := by
 intro X hX
 have key : ∀ n a b c d e f g h k, I a b c d e f g h k → m a = n → X a b c d e f g h k := by
  intro n
  induction n using Nat.strongRecOn with
  | _ n ih => intro a b c d e f g h k ha hm; exact hX a b c d e f g h k (step X a b c d e f g h k ha fun a' b' c' d' e' f' g' h' k' hb hlt => ih (m a') (by omega) a' b' c' d' e' f' g' h' k' hb rfl)
 exact key _ a b c d e f g h k ha rfl
theorem get_some {α : Type} {l : List α} {n : Nat} (h : n < l.length) : ∃ t, l[n]? = some t := ⟨_, List.getElem?_eq_getElem h⟩
variable {s : List SL} {f o th : List Int}
theorem rAt (ho : o.length ≤ 100000) (nums : T_ref01_Arena) (x : Int) : ∃ z, ref02_At_o ⟨o, nums⟩ x z ∧ ((z = -1 ∧ x ∉ o) ∨ ∃ k, z = ((k : Nat) : Int) ∧ o[k]? = some x ∧ ∀ m, m < k → o[m]? ≠ some x) := by
 by_cases hx : x ∈ o
 ·obtain ⟨A, B, e, hA⟩ : ∃ A B, o = A ++ x :: B ∧ x ∉ A := by
   clear ho
   induction o with
   | nil => cases hx
   | cons a r ih =>
     by_cases e : a = x
     ·exact ⟨[], r, by rw [e]; rfl, by simp⟩
     ·obtain ⟨A, B, h1, h2⟩ := ih (by rcases List.mem_cons.1 hx with q | q; exact (e q.symm).elim; exact q)
      exact ⟨a :: A, B, by rw [h1]; rfl, by simp [h2]; exact fun q => e q.symm⟩
  refine ⟨A.length, ref02_At_i _ _ _ ?_, .inr ⟨A.length, rfl, by rw [e]; simp, fun m hm q => ?_⟩⟩
  ·refine lp1 (fun q : Int => 0 ≤ q ∧ q ≤ A.length) (fun q => (A.length - q).toNat) ?_ ⟨by omega, by omega⟩
   rintro X q ⟨q0, q1⟩ ih _
   have hl : o.length = A.length + (B.length + 1) := by rw [e]; simp
   refine cnd_of_true (by show decide (q < (o.length : Int)) = true; simp; omega) ⟨q0, by show q < (o.length : Int); omega, ?_⟩
   show ∃ y2 : Int, (o[q.toNat]? = some y2) ∧ _
   rcases Int.lt_or_le q A.length with lt | ge
   ·obtain ⟨t, ht⟩ := get_some (l := A) (n := q.toNat) (by omega)
    have hto : o[q.toNat]? = some t := by rw [e, List.getElem?_append_left (by omega)]; exact ht
    have hne : t ≠ x := fun q => hA (q ▸ List.mem_of_getElem? ht)
    refine ⟨t, hto, cnd_of_false (by simpa using hne) ?_⟩
    rw [wrap64 (by omega) (by omega)]
    exact ih _ ⟨by omega, by omega⟩ (by omega)
   ·obtain rfl : q = A.length := by omega
    refine ⟨x, by rw [e]; simp, cnd_of_true (by simp) rfl⟩
  ·rw [e, List.getElem?_append_left hm] at q
   exact hA (List.mem_of_getElem? q)
 ·refine ⟨-1, ref02_At_i _ _ _ ?_, .inl ⟨rfl, hx⟩⟩
  refine lp1 (fun q : Int => 0 ≤ q ∧ q ≤ o.length) (fun q => (o.length - q).toNat) ?_ ⟨by omega, by omega⟩
  rintro X q ⟨q0, q1⟩ ih _
  refine ⟨fun c => ?_, fun _ => rfl⟩
  have c : q < (o.length : Int) := by simpa using c
  obtain ⟨t, ht⟩ := get_some (l := o) (n := q.toNat) (by omega)
  have hne : t ≠ x := fun q => hx (q ▸ List.mem_of_getElem? ht)
  refine ⟨q0, c, t, ht, cnd_of_false (by simpa using hne) ?_⟩
  rw [wrap64 (by omega) (by omega)]
  exact ih _ ⟨by omega, by omega⟩ (by omega)
theorem usd_length : (usd s).length = s.length := by simp [usd]
theorem usd_get {k : Nat} {y : SL} (h : s[k]? = some y) : (usd s)[k]? = some y.used := by unfold usd; rw [List.getElem?_map, h]; rfl
theorem take_cnt {k : Nat} {y : SL} (h : s[k]? = some y) : (s.take (k + 1)).countP T_arena_slot.used = (s.take k).countP T_arena_slot.used + (if y.used then 1 else 0) := by
 rw [List.take_add_one, h]
 simp [List.countP_append, List.countP_cons]
theorem rLive (h : AI s f) (hs : s.length ≤ 1000000) (room : Int) : ref01_Live_o ⟨room, th, usd s, f⟩ ((s.length : Int) - f.length) := by
 have hul := usd_length (s := s)
 have ct := h.ct
 refine ref01_Live_i _ _ ?_
 refine lp2 (fun (m i : Int) => 0 ≤ i ∧ i ≤ s.length ∧ m = ((s.take i.toNat).countP T_arena_slot.used : Int)) (fun _ i => s.length - i.toNat) ?_ ⟨by omega, by omega, by simp⟩
 rintro X m i ⟨h0, h1, rfl⟩ ih
 have cl : (s.take i.toNat).countP T_arena_slot.used ≤ s.length := Nat.le_trans List.countP_le_length (by simp; omega)
 intro _
 refine ⟨fun c => ?_, fun c => ?_⟩
 ·have c : i < ((usd s).length : Int) := by simpa using c
  have hl : i.toNat < s.length := by omega
  have hg : s[i.toNat]? = some s[i.toNat] := List.getElem?_eq_getElem hl
  have e1 : IntKind.i64.wrap (i + 1) = i + 1 := wrap64 (by omega) (by omega)
  have e2 : (i + 1).toNat = i.toNat + 1 := by omega
  have tc := take_cnt hg
  refine ⟨h0, c, _, usd_get hg, fun u => ?_, fun u => ?_⟩
  ·rw [e1, wrap64 (by omega) (by omega)]
   refine ih _ _ ⟨by omega, by omega, ?_⟩ (by omega)
   rw [e2, tc, u]; simp
  ·rw [e1]
   refine ih _ _ ⟨by omega, by omega, ?_⟩ (by omega)
   rw [e2, tc, u]; simp
 ·have c : ¬ i < ((usd s).length : Int) := by simpa using c
  rw [show s.take i.toNat = s from List.take_of_length_le (by omega)]
  omega
theorem rAlloc (h : AI s f) (hs : s.length ≤ 10000) (hth : th.length = s.length) : ∃ th', ref01_Alloc_o ⟨1048576, th, usd s, f⟩ 0 ⟨1048576, th', usd (alloc st0 1048576 s f).s, (alloc st0 1048576 s f).f⟩ (nextP s f) true ∧ th'.length = (usd (alloc st0 1048576 s f).s).length := by
 have hul := usd_length (s := s)
 have hle := h.le
 have c : ¬ (1048576 : Int) ≤ (s.length : Int) - f.length := by omega
 unfold nextP alloc
 rw [if_neg c]
 rcases snoc_cases f with rfl | ⟨f', i, rfl⟩
 ·simp only [List.getLast?_nil]
  refine ⟨th ++ [0], ⟨_, rLive h (by omega) _, cnd_of_false (by simp; omega) ⟨by show th.length ≤ 400000000; omega, by show (usd s).length ≤ 400000000; omega, fun _ => ?_⟩⟩, by simp [usd, hth]⟩
  refine cnd_of_false (by simp) ⟨?_, ?_, ?_, ?_, rfl⟩
  ·show (([] : List Int) ++ th).length ≤ 1000000000; simp; omega
  ·show (([] : List Bool) ++ usd s).length ≤ 1000000000; simp; omega
  ·simp [usd]
  ·show (th.length : Int) = _; rw [hth]
 ·simp only [List.getLast?_append, List.getLast?_singleton, Option.some_or, List.dropLast_concat]
  obtain ⟨h0, y, h1, h2⟩ := h.un i (by simp)
  have hlt := get_lt h1
  have hg := usd_get h1
  have hf1 : (f' ++ [i]).length = f'.length + 1 := by simp
  have e : (((f' ++ [i]).length : Int) - 1) = (f'.length : Int) := by rw [hf1]; omega
  have e2 : IntKind.i64.wrap ((((f' ++ [i]).length : Nat) : Int) - 1) = (f'.length : Int) := by rw [e]; exact wrap64 (by omega) (by omega)
  obtain ⟨t0, ht0⟩ := get_some (l := th) (n := i.toNat) (by omega)
  refine ⟨th.set i.toNat 0, ⟨_, rLive h (by omega) _, cnd_of_false (by show decide ((1048576 : Int) ≤ _) = false; simp; omega) ⟨by show th.length ≤ 400000000; omega, by show (usd s).length ≤ 400000000; omega, fun _ => ?_⟩⟩, by simp [usd, hth]⟩
  refine cnd_of_true (by simp) ?_
  show (0 ≤ (IntKind.i64.wrap ((((f' ++ [i]).length : Nat) : Int) - (1 : Int)))) ∧ _
  simp only [e2, List.nil_append]
  refine ⟨by omega, by rw [hf1]; omega, i, by simp, h0, by omega, _, ht0, h0, by omega, _, hg, ⟨by omega, by omega, by rw [hf1]; omega⟩, ?_, rfl, trivial⟩
  simp [tslice, usd, List.map_set]
theorem rFree (h : AI s f) (hs : s.length ≤ 10000) {i : Int} {x : ST} (hc : cell s i = some x) : ref01_Free_o ⟨1048576, th, usd s, f⟩ i ⟨1048576, th, (usd s).set i.toNat false, f ++ [i]⟩ true := by
 obtain ⟨k0, k1⟩ := cell_some.1 hc
 have := get_lt k1
 have hle := h.le
 have hul := usd_length (s := s)
 have hg := usd_get k1
 have hH : ref01_Has_o ⟨1048576, th, usd s, f⟩ i true := cnd_of_true (by simpa using k0) fun _ => cnd_of_true (by show decide (i < ((usd s).length : Int)) = true; simp; omega) ⟨k0, by show i < ((usd s).length : Int); omega, true, hg, rfl⟩
 refine ⟨_, hH, cnd_of_false rfl ⟨?_, k0, ?_, true, ?_, ?_, ?_, ?_, rfl⟩⟩
 ·show (usd s).length ≤ 400000000; omega
 ·show i < ((([] : List Bool) ++ usd s).length : Int); simp; omega
 ·show (([] : List Bool) ++ usd s)[i.toNat]? = _; simp [hg]
 ·show f.length ≤ 400000000; omega
 ·show (([] : List Int) ++ f).length ≤ 1000000000; simp; omega
 ·simp
structure PI (o th : List Int) (us : List Bool) (fr : List Int) (s : List SL) (f : List Int) : Prop where
 hu : us = usd s
 hf : fr = f
 ht : th.length = s.length
 li : LI s f o
theorem split_at {k : Nat} {x : Int} (h : o[k]? = some x) : ∃ A B, o = A ++ x :: B ∧ A.length = k := by
 obtain ⟨hk, rfl⟩ := List.getElem?_eq_some_iff.1 h
 refine ⟨o.take k, o.drop (k + 1), ?_, by simp; omega⟩
 rw [List.getElem_cons_drop, List.take_append_drop]
theorem none_out (h : OI (cell s) o) {x : Int} (hx : x ∉ o) : cell s x = none := by
 cases e : cell s x with
 | none => rfl
 | some y => exact (hx (h.us x (by rw [e]; simp))).elim
theorem sl1 (A B : List Int) (x : Int) : tslice (A ++ x :: B) 0 ((A.length : Int) + 1) = A ++ [x] := by
 unfold tslice
 have : ((A.length : Int) + 1).toNat - (0 : Int).toNat = (A ++ [x]).length := by simp <;> omega
 rw [this]
 show ((A ++ x :: B).drop 0).take _ = _
 rw [List.drop_zero, show A ++ x :: B = (A ++ [x]) ++ B by simp, List.take_left]
theorem sl2 (A B : List Int) (x : Int) (n : Int) (hn : n = ((A ++ x :: B).length : Int)) : tslice (A ++ x :: B) ((A.length : Int) + 1) n = B := by
 unfold tslice
 have e1 : ((A.length : Int) + 1).toNat = (A ++ [x]).length := by simp <;> omega
 have e2 : n.toNat - (A ++ [x]).length = B.length := by rw [hn]; simp; omega
 rw [e1, e2, show A ++ x :: B = (A ++ [x]) ++ B by simp, List.drop_left]
 simp
theorem sl0 (A B : List Int) : tslice (A ++ B) 0 (A.length : Int) = A := by
 unfold tslice
 simp
end Go.Proofs.Ytnlhnefjjblpcab
end
noncomputable section
namespace Go.Proofs.Ytnlhnefjjblpcab
open Go.AV Go.RowKit
variable {s : List SL} {f o th fr : List Int} {us : List Bool}
theorem walk2_ok (h : LI s f o) (hs : s.length ≤ 9000) : ∀ X6 : Int → Int → Int → (List T_arena_slot) → (List Int) → Prop, (∀ x55 x56 x57 x58 x59, law02_OrderPlays_L6i true o X6 x55 x56 x57 x58 x59 → X6 x55 x56 x57 x58 x59) → X6 0 0 1048576 s f := by
 intro X hX
 have hle := h.ai.le
 have hln := h.ln
 have key : ∀ (B A : List Int), o = A ++ B → X (B.headD (-1)) A.length 1048576 s f := by
  intro B
  induction B with
  | nil =>
    intro A e
    have e : o = A := by rw [e]; simp
    have hH : order_List_Has_v1_o 0 false := rfl
    have hH1 : order_List_Has_v1_o 1 false := rfl
    refine hX _ _ _ _ _ (cnd_of_false (by simp) ⟨0, false, order_List_After_v1_i _ _ _ ⟨_, hH, cnd_of_true rfl ⟨rfl, rfl⟩⟩, trivial, fun _ _ => cnd_of_true (by rw [e]; simp) (cnd_of_true rfl ⟨false, order_List_Delete_v1_i _ _ (cnd_of_false rfl ⟨_, hH1, cnd_of_true rfl rfl⟩), cnd_of_true rfl ⟨false, ⟨_, hH, cnd_of_false rfl rfl⟩, cnd_of_true rfl ⟨_, hH, cnd_of_true rfl ⟨0, rfl, rfl⟩⟩⟩⟩)⟩)
  | cons b B ih =>
    intro A e
    have hb : b ∈ o := by rw [e]; simp
    have b0 := h.oi.nn b hb
    have ho := h.oi
    rw [e] at ho
    have at1 := pAt 1048576 b s f
    rw [ho.at] at at1
    have hl : o.length = A.length + (B.length + 1) := by rw [e]; simp
    refine hX _ _ _ _ _ (cnd_of_true (by simp <;> omega) fun _ => cnd_of_false (by simp <;> omega) ⟨by omega, by omega, b, by rw [e]; simp, cnd_of_false (by simp) ⟨_, at1, ?_⟩⟩)
    have := ih (A ++ [b]) (by rw [e]; simp)
    rw [wrap64 (by omega) (by omega)]
    have el : ((A ++ [b]).length : Int) = (A.length : Int) + 1 := by simp
    rw [el] at this
    exact this
 have hh := h.oi.h0
 cases o with
 | nil => cases hh
 | cons a r => simp at hh; subst hh; exact key (0 :: r) [] rfl
theorem plays_true (l : List T_law02_Act) : law02_OrderPlays_o l true := by
 obtain ⟨s1, w1, k1, l1⟩ := pNew
 obtain ⟨th1, ra, rt⟩ := rAlloc (s := []) (f := []) (th := []) ⟨by simp, fun _ h => by simp at h, by simp⟩ (by simp) rfl
 have rn : ref02_New_o ⟨[0], ⟨1048576, th1, usd (alloc st0 1048576 [] []).s, (alloc st0 1048576 [] []).f⟩⟩ := ⟨_, _, _, ra, rfl⟩
 refine law02_OrderPlays_i _ _ ⟨true, speaks_true, cnd_of_false rfl ⟨_, _, _, w1, _, rn, ?_⟩⟩
 have u1 : usd (alloc st0 1048576 [] []).s = [true] := by simp [usd, alloc]
 have f1 : (alloc st0 1048576 [] []).f = [] := by simp [alloc]
 have us1 : usd s1 = [true] := by
  obtain ⟨y, hy⟩ : ∃ y, s1 = [y] := by
   match s1, l1 with
   | [y], _ => exact ⟨y, rfl⟩
  obtain ⟨x, hx⟩ := k1.oi.some0.2
  have := (cell_some.1 hx).2
  rw [hy] at this ⊢
  simp at this
  rw [this]; rfl
 rw [u1] at rt
 show ∀ X1 : Int → (List Int) → Int → (List Int) → (List Bool) → (List Int) → Int → (List T_arena_slot) → (List Int) → Prop, _ → X1 0 [0] 1048576 th1 (usd (alloc st0 1048576 [] []).s) (alloc st0 1048576 [] []).f 1048576 s1 []
 rw [u1, f1]
 refine lp9 (fun (i : Int) (o : List Int) (r : Int) (th : List Int) (us : List Bool) (fr : List Int) (a : Int) (s : List SL) (f : List Int) => r = 1048576 ∧ a = 1048576 ∧ 0 ≤ i ∧ i ≤ 80 ∧ (s.length : Int) ≤ i + 1 ∧ PI o th us fr s f) (fun i => (80 - i).toNat) ?_ ⟨rfl, rfl, by omega, by omega, by omega, us1.symm, rfl, by rw [rt, l1]; rfl, k1⟩
 rintro X i o r th us fr a s f ⟨rfl, rfl, i0, i1, hs, ⟨rfl, rfl, ht, h⟩⟩ ih hlen
 have hle := h.ai.le
 have hln := h.ln
 have w : (order_List_All_v0_o 1048576 s fr) ∧ (Nat → ∀ X6 : Int → Int → Int → (List T_arena_slot) → (List Int) → Prop, (∀ x55 x56 x57 x58 x59, law02_OrderPlays_L6i true o X6 x55 x56 x57 x58 x59 → X6 x55 x56 x57 x58 x59) → X6 0 0 1048576 s fr) := ⟨order_List_All_v0_i _ _ _ trivial, fun _ => walk2_ok h (by omega)⟩
 refine ⟨fun c => ?_, fun c => cnd_of_false rfl w⟩
 have c : i < (l.length : Int) := by simpa using c
 refine ⟨fun c2 => ?_, fun c2 => w⟩
 have c2 : i < 80 := by simpa using c2
 have hi : i.toNat < l.length := by omega
 have e1 : IntKind.i64.wrap (i + 1) = i + 1 := wrap64 (by omega) (by omega)
 have up : ∀ {o th us fr s f}, (s.length : Int) ≤ i + 2 → PI o th us fr s f → law02_OrderPlays_J3i X true i o 1048576 th us fr 1048576 s f := by
  intro o th us fr s f hs h
  refine ⟨_, pLen h.li (by omega) 1048576, cnd_of_false (by simp) ?_⟩
  rw [e1]
  exact ih _ _ _ _ _ _ _ _ _ ⟨rfl, rfl, by omega, by omega, by omega, h⟩ (by omega)
 have same : PI o th (usd s) fr s fr := ⟨rfl, rfl, ht, h⟩
 refine ⟨i0, c, _, List.getElem?_eq_getElem hi, ?_⟩
 generalize l[i.toNat] = x
 refine ⟨fun _ => ?_, fun _ => ⟨fun _ => ?_, fun _ => ?_⟩⟩
 ·
  obtain ⟨z, hz, hzz⟩ := rAt (o := o) (by omega) ⟨1048576, th, usd s, fr⟩ x.A
  have no : (x.A = 0 ∨ cell s x.A = none) → z ≤ 0 → cnd true True True → _ := fun hx z0 _ => by
   refine (show ∃ z28 z29, (ref02_Delete_o (⟨o, (⟨1048576, th, usd s, fr⟩ : T_ref01_Arena)⟩ : T_ref02_List) x.A z28 z29) ∧ ∃ z30 z31 z32 z33, (order_List_Delete_v0_o x.A 1048576 s fr z30 z31 z32 z33) ∧ cnd (!(z30 == z29)) (false = true) (law02_OrderPlays_J3i X true i z28.Order z28.Numbers.Room z28.Numbers.Things z28.Numbers.Used z28.Numbers.Freed z31 z32 z33) from ⟨_, _, ⟨z, hz, cnd_of_true (by simpa using z0) ⟨rfl, rfl⟩⟩, _, _, _, _, pDelete_no hx, cnd_of_false rfl (up (by omega) same)⟩)
  rcases hzz with ⟨rfl, hx⟩ | ⟨k, rfl, hk, hmin⟩
  ·exact no (.inr (none_out h.oi hx)) (by omega) ⟨fun _ => trivial, fun _ => trivial⟩
  ·cases k with
   | zero =>
     refine no (.inl ?_) (by omega) ⟨fun _ => trivial, fun _ => trivial⟩
     have hh := h.oi.h0
     cases o with
     | nil => cases hh
     | cons a r => simp at hh hk; rw [← hk, hh]
   | succ k =>
     obtain ⟨A', B, eo, hA⟩ := split_at hk
     rcases snoc_cases A' with rfl | ⟨A, p, rfl⟩
     ·simp at hA
     ·have eo2 : o = A ++ p :: x.A :: B := by rw [eo]; simp
      have h' := h
      rw [eo2] at h'
      obtain ⟨s', d1, d2, d3, d4⟩ := pDelete h' (by omega)
      have hI : OI (cell s) ((A ++ [p]) ++ x.A :: B) := by simpa using h'.oi
      have fr1 := rFree (th := th) h.ai (by omega) hI.at
      have hz' := hz
      have lz : ((k + 1 : Nat) : Int) = ((A ++ [p]).length : Int) := by rw [hA]
      rw [lz] at hz'
      have hol : (o.length : Int) = ((A ++ [p]).length : Int) + (B.length + 1) := by rw [eo]; simp; omega
      have t1 : tslice o 0 ((A ++ [p]).length : Int) = A ++ [p] := by rw [eo]; exact sl0 _ _
      have t2 : tslice o (((A ++ [p]).length : Int) + 1) (o.length : Int) = B := by rw [eo]; exact sl2 _ _ _ _ rfl
      have ew : IntKind.i64.wrap (((A ++ [p]).length : Int) + 1) = ((A ++ [p]).length : Int) + 1 := wrap64 (by omega) (by omega)
      have lAp : ((A ++ [p]).length : Int) ≤ o.length := by omega
      have rd : ref02_Delete_o ⟨o, ⟨1048576, th, usd s, fr⟩⟩ x.A ⟨A ++ p :: B, ⟨1048576, th, (usd s).set x.A.toNat false, fr ++ [x.A]⟩⟩ true := by
       refine ⟨_, hz', cnd_of_false (by simp <;> omega) ⟨_, _, fr1, ⟨by omega, by omega, lAp⟩, ?_, ?_, ?_, ?_, ?_, rfl⟩⟩
       ·show (tslice o 0 ((A ++ [p]).length : Int)).length ≤ 400000000; rw [t1]; omega
       ·show 0 ≤ IntKind.i64.wrap (((A ++ [p]).length : Int) + 1) ∧ IntKind.i64.wrap (((A ++ [p]).length : Int) + 1) ≤ (o.length : Int) ∧ (o.length : Int) ≤ (o.length : Int); rw [ew]; omega
       ·show (([] : List Int) ++ tslice o 0 ((A ++ [p]).length : Int)).length ≤ 1000000000; rw [t1, List.nil_append]; omega
       ·show (tslice o (IntKind.i64.wrap (((A ++ [p]).length : Int) + 1)) (o.length : Int)).length ≤ 400000000; rw [ew, t2]; omega
       ·show (⟨(([] : List Int) ++ tslice o 0 ((A ++ [p]).length : Int)) ++ tslice o (IntKind.i64.wrap (((A ++ [p]).length : Int) + 1)) (o.length : Int), _⟩ : T_ref02_List) = _
        rw [ew, t1, t2]; simp
      refine ⟨_, _, rd, _, _, _, _, d1, cnd_of_false rfl (up (by omega) ⟨d3.symm, rfl, by rw [d4]; exact ht, d2⟩)⟩
 ·
  obtain ⟨z1, hz1, q1⟩ := rAt (o := o) (by omega) ⟨1048576, th, usd s, fr⟩ x.A
  obtain ⟨z2, hz2, q2⟩ := rAt (o := o) (by omega) ⟨1048576, th, usd s, fr⟩ x.B
  have hH := pHasL 1048576 x.A s fr
  have fin : ∀ b, b = decide (0 ≤ z1) → law02_OrderPlays_J4i X true i o 1048576 th (usd s) fr (!(b == decide ((0 : Int) ≤ z1))) 1048576 s fr := fun b hb => cnd_of_false (by rw [hb]; simp) (up (by omega) same)
  rcases q1 with ⟨rfl, hx⟩ | ⟨k1', rfl, hk1, _⟩
  ·have cn := none_out h.oi hx
   rw [cn] at hH
   exact ⟨_, hz1, _, hz2, false, pLess_no _ _ (.inl cn), cnd_of_false rfl (cnd_of_false rfl ⟨_, hH, fin _ rfl⟩)⟩
  ·obtain ⟨xa, ca⟩ := h.oi.ch.mem (List.mem_of_getElem? hk1)
   rw [ca] at hH
   have f1 := fin true (by simp <;> omega)
   rcases q2 with ⟨rfl, hx⟩ | ⟨k2, rfl, hk2, _⟩
   ·exact ⟨_, hz1, _, hz2, false, pLess_no _ _ (.inr (none_out h.oi hx)), cnd_of_true (by simp <;> omega) (cnd_of_false rfl (cnd_of_false rfl ⟨_, hH, f1⟩))⟩
   ·obtain ⟨xb, cb⟩ := h.oi.ch.mem (List.mem_of_getElem? hk2)
    have pl := pLess 1048576 fr ca cb
    rw [h.oi.idx hk1 hk2] at pl
    exact ⟨_, hz1, _, hz2, _, pl, cnd_of_true (by simp <;> omega) (cnd_of_true (by simp <;> omega) (cnd_of_false (by simp) ⟨_, hH, f1⟩))⟩
 ·
  obtain ⟨z, hz, hzz⟩ := rAt (o := o) (by omega) ⟨1048576, th, usd s, fr⟩ x.A
  rcases hzz with ⟨rfl, hx⟩ | ⟨k, rfl, hk, hmin⟩
  ·exact ⟨_, _, _, _, _, pAfter_no (none_out h.oi hx), _, _, _, ⟨_, hz, cnd_of_true rfl ⟨rfl, rfl, rfl⟩⟩, cnd_of_false rfl (cnd_of_false rfl (up (by omega) same))⟩
  ·obtain ⟨A, B, eo, hA⟩ := split_at hk
   have h' := h
   rw [eo] at h'
   obtain ⟨s', f', a1, a2, a3, a4, a5, a6⟩ := pAfter h' (by omega)
   obtain ⟨th', al, tl⟩ := rAlloc h.ai (by omega) ht
   have hol : (o.length : Int) = (A.length : Int) + (B.length + 1) := by rw [eo]; simp
   have t1 : tslice o 0 ((A.length : Int) + 1) = A ++ [x.A] := by rw [eo]; exact sl1 _ _ _
   have t2 : tslice o ((A.length : Int) + 1) (o.length : Int) = B := by rw [eo]; exact sl2 _ _ _ _ rfl
   have ew : IntKind.i64.wrap ((A.length : Int) + 1) = (A.length : Int) + 1 := wrap64 (by omega) (by omega)
   have lA1 : (A ++ [x.A]).length = A.length + 1 := by simp
   rw [← hA] at hz
   have rd : ref02_After_o ⟨o, ⟨1048576, th, usd s, fr⟩⟩ x.A ⟨A ++ x.A :: nextP s fr :: B, ⟨1048576, th', usd (alloc st0 1048576 s fr).s, (alloc st0 1048576 s fr).f⟩⟩ (nextP s fr) true := by
    refine ⟨_, hz, cnd_of_false (by simp <;> omega) ⟨_, _, _, al, ⟨by omega, ?_, ?_⟩, ?_, ?_, ?_, ?_, ?_, ?_, rfl, rfl⟩⟩
    ·rw [ew]; omega
    ·show IntKind.i64.wrap ((A.length : Int) + 1) ≤ (o.length : Int); rw [ew]; omega
    ·show (tslice o 0 (IntKind.i64.wrap ((A.length : Int) + 1))).length ≤ 400000000; rw [ew, t1]; omega
    ·show (([] : List Int) ++ tslice o 0 (IntKind.i64.wrap ((A.length : Int) + 1))).length ≤ 1000000000; rw [ew, t1, List.nil_append]; omega
    ·show 0 ≤ IntKind.i64.wrap ((A.length : Int) + 1) ∧ IntKind.i64.wrap ((A.length : Int) + 1) ≤ (o.length : Int) ∧ (o.length : Int) ≤ (o.length : Int); rw [ew]; omega
    ·show ((([] : List Int) ++ tslice o 0 (IntKind.i64.wrap ((A.length : Int) + 1))) ++ ([nextP s fr] : List Int)).length ≤ 1000000000; rw [ew, t1]; simp; omega
    ·show (tslice o (IntKind.i64.wrap ((A.length : Int) + 1)) (o.length : Int)).length ≤ 400000000; rw [ew, t2]; omega
    ·show (⟨((([] : List Int) ++ tslice o 0 (IntKind.i64.wrap ((A.length : Int) + 1))) ++ ([nextP s fr] : List Int)) ++ tslice o (IntKind.i64.wrap ((A.length : Int) + 1)) (o.length : Int), _⟩ : T_ref02_List) = _
     rw [ew, t1, t2]; simp
   refine ⟨_, _, _, _, _, a1, _, _, _, rd, cnd_of_false (by simp) (cnd_of_false (by simp) (up (by omega) ⟨a6.symm, a5.symm, ?_, a2⟩))⟩
   rw [tl, ← a6, usd_length]
end Go.Proofs.Ytnlhnefjjblpcab
end
noncomputable section
namespace Go.Proofs.Ytnlhnefjjblpcab
open Go.AV Go.RowKit
def R_law02_Act_42 (v : T_law02_Act) : Prop := (fun n : Int => (Lit.int .i64 n).wf = true) v.What ∧ (fun n : Int => (Lit.int .i64 n).wf = true) v.A ∧ (fun n : Int => (Lit.int .i64 n).wf = true) v.B
theorem told_law02_Act_42 : ToldT Try.prog 42 e_law02_Act.c R_law02_Act_42 := by
 intro us h
 have r := h.fields Try.underlying42
 obtain ⟨v0, q0, rfl, h0, r⟩ := r.first (told_int Try.underlying3)
 obtain ⟨v1, q1, rfl, h1, r⟩ := r.first (told_int Try.underlying3)
 obtain ⟨v2, q2, rfl, h2, r⟩ := r.first (told_int Try.underlying3)
 obtain rfl := r.last
 exact ⟨⟨v0, v1, v2⟩, rfl, h0, h1, h2⟩
def OrderPlays_law : Prop := ∀ (a0 : (List T_law02_Act)), (fun l : List T_law02_Act => l.length ≤ maxLen ∧ ∀ v ∈ l, R_law02_Act_42 v) a0 → law02_OrderPlays_o a0 true
set_option maxRecDepth 100000 in
theorem OrderPlays_pure {a0 : (List T_law02_Act)} (h : law02_OrderPlays_o a0 true) : Pure Try.prog 4 [slA e_law02_Act a0] (.bl true) := by
 have e : Pure Try.prog law02_OrderPlays_sp.f (pencs CC law02_OrderPlays_sp.ps [.d (.v 34 a0)]) (tresA (([.v 4 true] : List (DV KK)).map (dvA CC))) = Pure Try.prog 4 [slA e_law02_Act a0] (.bl true) := by kernel_rfl
 have w : law02_OrderPlays_sp.W [.d (.v 34 a0)] [.v 4 true] = law02_OrderPlays_o a0 true := by kernel_rfl
 exact e.mp (law02_OrderPlays_ok _ _ (fun F h => by simp at h) (w.mpr h)).2
end Go.Proofs.Ytnlhnefjjblpcab
end
noncomputable section
namespace Go.Proofs.Ytnlhnefjjblpcab
theorem OrderPlays_true : OrderPlays_law := fun a0 _ => plays_true a0
end Go.Proofs.Ytnlhnefjjblpcab
end
