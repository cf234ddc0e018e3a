/-
  Typed states: an operation does as it is told.
-/
import Derived.Test.YteoohihaibgplaaDoorDnR
namespace Go.AV
open Go.RowKit Go.RG Go.Lib
variable {K : Nat → Type}
section
variable {P : Program} {C : Cx K} {R : List (HO K) → Hp → Nat → Prop} {ts ts' : TS K} {χ χ' : Nat → Nat → Bool} {ds : DS}

theorem andL_out : ∀ {cs : List Prop} {p : Prop}, andL cs p → AllP cs ∧ p
  | [], _, h => ⟨trivial, h⟩
  | _ :: r, _, h => ⟨⟨h.1, (andL_out (cs := r) h.2).1⟩, (andL_out (cs := r) h.2).2⟩
theorem wpo'_out {α : Type} {o : Option α} {X : α → Prop} (h : wpo' o X) : ∃ x, o = some x ∧ X x := by
  cases o with
  | none => exact h.elim
  | some x => exact ⟨x, rfl, h⟩
theorem GM.live (h : GM P C R ts χ ds) {s c : Nat} {b : TB K} (hb : ts.tb s c = some b) (hx : χ s c = false) : liveB (toD ds) (.l s c) = true := by
  obtain ⟨kb, h1, _⟩ := h.mb s c b hb hx
  show ((ds.kb s c).map KB.blk).isSome = true
  rw [h1]; rfl
theorem GM.box (h : GM P C R ts χ ds) {s c e : Nat} {cs : List (TV K)} (hb : ts.tb s c = some (.box e cs)) : χ s c = false := by
  cases hx : χ s c with
  | false => rfl
  | true => obtain ⟨e', h1⟩ := h.vi s c hx; rw [hb] at h1; cases h1
theorem GM.lrow (h : GM P C R ts χ ds) {s c e n : Nat} {cs : List (TV K)} (hb : ts.tb s c = some (.lrow e n cs)) : χ s c = false := by
  cases hx : χ s c with
  | false => rfl
  | true => obtain ⟨e', h1⟩ := h.vi s c hx; rw [hb] at h1; cases h1

theorem tnum_ok {op : BinOp} {k : IntKind} {a b : Int} {lit : Bool} {cs : List Prop} {w : TV K} (h : tnum op k a b lit = some (cs, w)) (hc : AllP cs) (hs : isShp op = false) :
    ∃ D v, kbin op k a b = some (D, v) ∧ AllP D ∧ TR P C ts χ w v := by
  cases op <;> simp only [tnum] at h <;> simp only [kbin, binI, kok] <;> first
    | (cases h; done)
    | (cases h; exact ⟨_, _, rfl, trivial, .it _ _⟩)
    | (cases h; exact ⟨_, _, rfl, trivial, .bl _⟩)
    | (split at h
       · split at h
         · cases h
         · rename_i h0; cases h; exact ⟨_, _, rfl, ⟨h0, trivial⟩, .it _ _⟩
       · cases h; exact ⟨_, _, rfl, hc, .it _ _⟩)
    | (cases hs; done)
theorem tshi_ok {op : BinOp} {k : IntKind} {a b : Int} {lit : Bool} {cs : List Prop} {w : TV K} (h : tshi op k a b lit = some (cs, w)) (hc : AllP cs) : (op = .shl ∨ op = .shr) ∧
    ∃ D v, kshi op k a b = some (D, v) ∧ AllP D ∧ TR P C ts χ w v := by
  cases op <;> simp only [tshi, tsh] at h <;> first | (cases h; done) | skip
  all_goals
    cases lit with
    | true =>
      simp only at h
      split at h
      · cases h
      · rename_i h0; cases h; exact ⟨by simp, _, _, rfl, ⟨h0, trivial⟩, .it _ _⟩
    | false => simp only at h; cases h; exact ⟨by simp, _, _, rfl, hc, .it _ _⟩
theorem tstr_ok {op : BinOp} {a b : Str} {cs : List Prop} {w : TV K} (h : tstr op a b = some (cs, w)) (hc : AllP cs) : ∃ D v, kstr op a b = some (D, v) ∧ AllP D ∧ TR P C ts χ w v := by
  cases op <;> simp only [tstr] at h <;> simp only [kstr, binS, kok] <;> first
    | (cases h; done)
    | (cases h; exact ⟨_, _, rfl, hc, .st _⟩)
    | (cases h; exact ⟨_, _, rfl, trivial, .bl _⟩)
theorem TR.pxi {s c o : Nat} {v : AV} (h : TR P C ts χ (.px s c o) v) : v = .pt (.l s c) o := by cases h; rfl
theorem TR.lbi {b : Bool} {v : AV} (h : TR P C ts χ (.lb b) v) : v = .bl b := by cases h; rfl
theorem TR.bli {b : Bool} {v : AV} (h : TR P C ts χ (.bl b) v) : v = .bl b := by cases h; rfl
theorem TR.str {s : Str} {v : AV} (h : TR P C ts χ (.st s) v) : v = .st s := by cases h; rfl
theorem tbin_ok {op : BinOp} {x y : TV K} {u v : AV} {cs : List Prop} {w : TV K} (hx : TR P C ts χ x u) (hy : TR P C ts χ y v) (h : tbin op x y = some (cs, w)) (hc : AllP cs) :
    ∃ D z, (match u, v with
      | .it k a, .it k' b => if op = .shl ∨ op = .shr then kshi op k a b else if k = k' then kbin op k a b else none
      | .st a, .st b => kstr op a b
      | _, _ => none) = some (D, z) ∧ AllP D ∧ TR P C ts χ w z := by
  unfold tbin at h
  split at h
  · rw [hx.str, hy.str]; exact tstr_ok h hc
  · split at h
    · rename_i k a k' b e1 e2
      rw [hx.int e1, hy.int e2]
      simp only
      split at h
      · obtain ⟨q, r⟩ := tshi_ok (P := P) (C := C) (ts := ts) (χ := χ) h hc
        rw [if_pos q]; exact r
      · rename_i hs
        split at h
        · rename_i e
          rw [if_neg (by rintro (rfl | rfl) <;> cases hs), if_pos e]
          exact tnum_ok h hc hs
        · cases h
    · cases h
theorem teq1_ok {k : Nat} {x y : TV K} {u v : AV} {b : Bool} (hx : TR P C ts χ x u) (hy : TR P C ts χ y v) (h : teq1 k x y = some b) : k ≤ 2 ∧ eq1 k u v = some b := by
  unfold teq1 at h
  split at h
  · split at h
    · rename_i e1 e2; cases h; rw [hx.bool e1, hy.bool e2]; exact ⟨by omega, rfl⟩
    · cases h
  · split at h
    · rename_i e1 e2
      split at h
      · rename_i e; cases h; rw [hx.int e1, hy.int e2]; exact ⟨by omega, by simp [eq1, e]⟩
      · cases h
    · cases h
  · cases h; rw [hx.str, hy.str]; exact ⟨by omega, rfl⟩
  · cases h
theorem teqL_ok : ∀ {ks : List Nat} {xs ys : List (TV K)} {us vs : List AV} {b : Bool}, us.length = xs.length → vs.length = ys.length → (∀ (j : Nat) (u : TV K) (v : AV), xs[j]? = some u → us[j]? = some v → TR P C ts χ u v) →
    (∀ (j : Nat) (u : TV K) (v : AV), ys[j]? = some u → vs[j]? = some v → TR P C ts χ u v) → teqL ks xs ys = some b → eqL ks us vs = some b
  | [], [], [], us, vs, b, h1, h2, _, _, h => by
    cases us with
    | cons => simp at h1
    | nil => cases vs with
      | cons => simp at h2
      | nil => exact h
  | k :: ks, x :: xs, y :: ys, us, vs, b, h1, h2, hx, hy, h => by
    cases us with
    | nil => simp at h1
    | cons u us => cases vs with
      | nil => simp at h2
      | cons v vs =>
        simp only [teqL] at h
        split at h
        · rename_i p q e1 e2
          cases h
          have a1 := (teq1_ok (hx 0 x u rfl rfl).s (hy 0 y v rfl rfl).s e1).2
          have a2 := teqL_ok (us := us) (vs := vs) (by simpa using h1) (by simpa using h2) (fun j u v a b => hx (j + 1) u v (by simpa using a) (by simpa using b)) (fun j u v a b => hy (j + 1) u v (by simpa using a) (by simpa using b)) e2
          simp only [eqL, a1, a2]
        · cases h
  | [], _ :: _, _, _, _, _, _, _, _, _, h => by simp [teqL] at h
  | [], [], _ :: _, _, _, _, _, _, _, _, h => by simp [teqL] at h
  | _ :: _, [], _, _, _, _, _, _, _, _, h => by simp [teqL] at h
  | _ :: _, _ :: _, [], _, _, _, _, _, _, _, h => by simp [teqL] at h
theorem TR.agg' {us : List (TV K)} {v : AV} (h : TR P C ts χ (.agg us) v) : ∃ vs, v = .agg vs ∧ vs.length = us.length ∧ ∀ (j : Nat) (u : TV K) (v : AV), us[j]? = some u → vs[j]? = some v → TR P C ts χ u v := by
  cases h with
  | agg us vs hl h => exact ⟨vs, rfl, hl, h⟩
theorem TR.tup' {us : List (TV K)} {v : AV} (h : TR P C ts χ (.tup us) v) : ∃ vs, v = .tup vs ∧ vs.length = us.length ∧ ∀ (j : Nat) (u : TV K) (v : AV), us[j]? = some u → vs[j]? = some v → TR P C ts χ u v := by
  cases h with
  | tup us vs hl h => exact ⟨vs, rfl, hl, h⟩
theorem TR.one1 {u : TV K} {v : AV} (h : TR P C ts χ u v) : tone1 u = true → v.one = true := by
  cases h with
  | rwd s c v hr h h1 => exact fun _ => h1
  | fv ps rs F v h hv => intro _; rw [← dwk_one, hv]; exact h.2.2.1
  | _ => intro h; first | rfl | (cases h; done)
theorem TR.one {u : TV K} {v : AV} (h : TR P C ts χ u v) (ht : tone u = true) : v.one = true := by
  cases h with
  | cn id u v h hn hv => exact hv.one1 ht
  | rwd s c v hr h h1 => exact h1
  | fv ps rs F v h hv => rw [← dwk_one, hv]; exact h.2.2.1
  | _ => first | rfl | (cases ht; done)
theorem one_cells {v : AV} (h : v.one = true) : v.cells = [v] := by cases v <;> first | rfl | (cases h; done)
theorem TR.cells {u : TV K} {v : AV} (h : TR P C ts χ u v) (hu : u.s ≠ .un) : (v.cells).length = (tcl u).length ∧ ∀ (j : Nat) (w : TV K) (x : AV), (tcl u)[j]? = some w → v.cells[j]? = some x → TR P C ts χ w x := by
  have one : v.cells = [v] → (v.cells).length = [u].length ∧ ∀ (j : Nat) (w : TV K) (x : AV), [u][j]? = some w → v.cells[j]? = some x → TR P C ts χ w x := by
    intro e2
    rw [e2]
    refine ⟨rfl, fun j w x h1 h2 => ?_⟩
    cases j with
    | zero => simp at h1 h2; subst h1; subst h2; exact h
    | succ j => simp at h1
  have hs := h.s
  unfold tcl
  split
  · rename_i cs e
    rw [e] at hs
    obtain ⟨vs, rfl, a, b⟩ := hs.agg'
    exact ⟨a, b⟩
  · rename_i hne
    refine one ?_
    have hnc : ∀ id w, u.s ≠ .cn id w := by
      intro id w e
      cases h with
      | cn id' u v h hn hv => simp only [TV.s] at e; rw [e] at hn; cases hn
      | _ => cases e
    revert hs hne hu hnc
    generalize hw : u.s = w
    intro hu hs hne hnc
    cases hs with
    | agg us vs hl h => exact (hne _ rfl).elim
    | un v => exact (hu rfl).elim
    | rwd s c v hr h h1 => exact one_cells h1
    | fv ps rs F v h hv => exact one_cells (by rw [← dwk_one, hv]; exact h.2.2.1)
    | cn id u' v h hn hv => exact (hnc _ _ rfl).elim
    | _ => rfl

variable (P C ts χ) in
def TL (us : List (TV K)) (vs : List AV) : Prop := vs.length = us.length ∧ ∀ (j : Nat) (u : TV K) (v : AV), us[j]? = some u → vs[j]? = some v → TR P C ts χ u v
theorem TL.app {us us' : List (TV K)} {vs vs' : List AV} (h : TL P C ts χ us vs) (k : TL P C ts χ us' vs') : TL P C ts χ (us ++ us') (vs ++ vs') := by
  refine ⟨by simp [h.1, k.1], fun j u v h1 h2 => ?_⟩
  by_cases hj : j < us.length
  · rw [List.getElem?_append_left hj] at h1
    rw [List.getElem?_append_left (by rw [h.1]; exact hj)] at h2
    exact h.2 j u v h1 h2
  · rw [List.getElem?_append_right (by omega)] at h1
    rw [List.getElem?_append_right (by rw [h.1]; omega), h.1] at h2
    exact k.2 _ u v h1 h2
theorem TL.take {us : List (TV K)} {vs : List AV} (h : TL P C ts χ us vs) (n : Nat) : TL P C ts χ (us.take n) (vs.take n) := by
  refine ⟨by simp [h.1], fun j u v h1 h2 => ?_⟩
  rw [List.getElem?_take] at h1 h2
  split at h1
  · rename_i hj; rw [if_pos hj] at h2; exact h.2 j u v h1 h2
  · cases h1
theorem TL.drop {us : List (TV K)} {vs : List AV} (h : TL P C ts χ us vs) (n : Nat) : TL P C ts χ (us.drop n) (vs.drop n) := by
  refine ⟨by simp [h.1], fun j u v h1 h2 => ?_⟩
  rw [List.getElem?_drop] at h1 h2
  exact h.2 _ u v h1 h2
theorem TL.at' {us : List (TV K)} {vs : List AV} (h : TL P C ts χ us vs) {j : Nat} {u : TV K} (hj : us[j]? = some u) : ∃ v, vs[j]? = some v ∧ TR P C ts χ u v := by
  have hlt : j < vs.length := by rw [h.1]; exact (List.getElem?_eq_some_iff.1 hj).1
  exact ⟨vs[j], List.getElem?_eq_getElem hlt, h.2 j u _ hj (List.getElem?_eq_getElem hlt)⟩
theorem TL.mono (hm : Mono ts ts' χ χ') {us : List (TV K)} {vs : List AV} (h : TL P C ts χ us vs) : TL P C ts' χ' us vs := ⟨h.1, fun j u v a b => (h.2 j u v a b).mono hm⟩
theorem TL.nil : TL P C ts χ [] [] := ⟨rfl, fun j u v h => by simp at h⟩
theorem TL.cons {u : TV K} {v : AV} {us : List (TV K)} {vs : List AV} (h : TR P C ts χ u v) (k : TL P C ts χ us vs) : TL P C ts χ (u :: us) (v :: vs) := TL.app (us := [u]) (vs := [v]) ⟨rfl, fun j u' v' h1 h2 => by cases j with | zero => simp at h1 h2; subst h1; subst h2; exact h | succ j => simp at h1⟩ k
theorem TL.head {u : TV K} {v : AV} {us : List (TV K)} {vs : List AV} (h : TL P C ts χ (u :: us) (v :: vs)) : TR P C ts χ u v ∧ TL P C ts χ us vs :=
  ⟨h.2 0 u v rfl rfl, by simpa using h.1, fun j u v a b => h.2 (j + 1) u v (by simpa using a) (by simpa using b)⟩
theorem TL.cvAs (z : List AV) : TL P C ts χ (cvAs z) z := cvAs_ok z
theorem TL.one : ∀ {us : List (TV K)} {vs : List AV}, TL P C ts χ us vs → us.all tone = true → vs.all AV.one = true
  | [], [], _, _ => rfl
  | [], _ :: _, h, _ => by simp [TL] at h
  | _ :: _, [], h, _ => by simp [TL] at h
  | u :: us, v :: vs, h, ht => by
    simp only [List.all_cons, Bool.and_eq_true] at ht ⊢
    exact ⟨h.head.1.one ht.1, TL.one h.head.2 ht.2⟩
theorem TL.mapS {us : List (TV K)} {vs : List AV} (h : TL P C ts χ us vs) : TL P C ts χ (us.map TV.s) vs := by
  refine ⟨by simp [h.1], fun j u v h1 h2 => ?_⟩
  rw [List.getElem?_map] at h1
  obtain ⟨w, e1, rfl⟩ := Option.map_eq_some_iff.1 h1
  exact (h.2 j w v e1 h2).s
theorem TL.tea (h : GM P C R ts χ ds) : ∀ (l : List AOpd), TL P C ts χ (l.map (tea ts.fr)) (l.map (ev (lkF ds.fr)))
  | [] => .nil
  | x :: l => .cons (h.tea x) (TL.tea h l)
theorem TL.tev (h : GM P C R ts χ ds) : ∀ (l : List AOpd), TL P C ts χ (l.map (tev ts.fr)) (l.map (ev (lkF ds.fr)))
  | [] => .nil
  | x :: l => .cons (h.tev x) (TL.tev h l)
theorem TR.tcl {u : TV K} {v : AV} (h : TR P C ts χ u v) (ht : (tcl u).all tone = true) : TL P C ts χ (tcl u) v.cells ∧ v.cells.all AV.one = true := by
  have hu : u.s ≠ .un := by
    intro e
    cases u with
    | un => simp [Go.AV.tcl, TV.s, tone, tone1] at ht
    | cn id w => simp only [TV.s] at e; subst e; simp [Go.AV.tcl, TV.s, tone, tone1] at ht
    | _ => cases e
  have := h.cells hu
  exact ⟨this, TL.one this ht⟩
theorem tfill_ok : ∀ (l : List (Nat × Nat × TV K)) (m : List (Nat × Nat × AV)) (cells : List (TV K)) (cells' : List AV) (cs : List (TV K)), TL P C ts χ cells cells' → m.length = l.length →
    (∀ (j : Nat) (p : Nat × Nat × TV K) (q : Nat × Nat × AV), l[j]? = some p → m[j]? = some q → q.1 = p.1 ∧ q.2.1 = p.2.1 ∧ TR P C ts χ p.2.2 q.2.2) → tfill cells l = some cs → ∃ cs', fillA cells' m = some cs' ∧ TL P C ts χ cs cs'
  | [], m, cells, cells', cs, h, hl, _, e => by
    cases m with
    | cons => simp at hl
    | nil => cases e; exact ⟨cells', rfl, h⟩
  | (off, sz, v) :: l, m, cells, cells', cs, h, hl, hh, e => by
    cases m with
    | nil => simp at hl
    | cons q m =>
      obtain ⟨off', sz', v'⟩ := q
      obtain ⟨e1, e2, e3⟩ := hh 0 _ _ rfl rfl
      simp only at e1 e2 e3
      subst e1; subst e2
      simp only [tfill] at e
      split at e
      · rename_i hc
        simp only [Bool.and_eq_true] at hc
        obtain ⟨⟨c1, c2⟩, c3⟩ := hc
        obtain ⟨t1, t2⟩ := e3.tcl c3
        have c1' := nbeq.1 c1
        have hc' : v'.cells.length = sz' ∧ off' + sz' ≤ cells'.length ∧ v'.cells.all AV.one = true := ⟨by rw [t1.1, c1'], by rw [h.1]; exact Nat.le_of_ble_eq_true c2, t2⟩
        simp only [fillA]
        rw [if_pos hc']
        exact tfill_ok l m _ _ cs (((h.take off').app t1).app (h.drop (off' + sz'))) (by simpa using hl) (fun j p q a b => hh (j + 1) p q (by simpa using a) (by simpa using b)) e
      · cases e
theorem tmnL_ok {mx : Bool} {k : IntKind} : ∀ (r : List (TV K)) (r' : List AV) (a : Int) (w : TV K), TL P C ts χ r r' → tmnL mx k a r = some w → ∃ v, mnL mx k a r' = some v ∧ TR P C ts χ w v
  | [], r', a, w, h, e => by
    cases r' with
    | cons => simp [TL] at h
    | nil => cases e; exact ⟨_, rfl, .it _ _⟩
  | x :: r, r', a, w, h, e => by
    cases r' with
    | nil => simp [TL] at h
    | cons y r' =>
      simp only [tmnL] at e
      split at e
      · rename_i k' b e1
        have hy := h.head.1.int e1
        subst hy
        split at e
        · rename_i ek
          obtain ⟨v, h1, h2⟩ := tmnL_ok r r' _ w h.head.2 e
          refine ⟨v, ?_, h2⟩
          simp only [mnL]
          rw [if_pos ek, ← h1]
          cases mx <;> rfl
        · cases e
      · cases e
theorem tbnd_ok (h : GM P C R ts χ ds) {d a : Int} {x : Option AOpd} (e : tbnd ts.fr d x = some a) : bnd (ev (lkF ds.fr)) d x = some a := by
  cases x with
  | none => exact e
  | some x =>
    simp only [tbnd] at e
    split at e
    · rename_i k n e1
      cases e
      simp only [bnd, (h.tev x).int e1]
    · cases e
theorem teq_ok {g : Bool} {kind : Nat} {x y : TV K} {u v : AV} {live : Key → Bool} {cs : List Prop} {w : TV K} (hx : TR P C ts χ x u) (hy : TR P C ts χ y v) (h : teq g kind x y = some (cs, w)) (hc : AllP cs) :
    ∃ D z, keq live g kind u v = some (D, z) ∧ AllP D ∧ TR P C ts χ w z := by
  unfold teq at h
  split at h
  · split at h
    · cases h; cases hx; cases hy; exact ⟨[], .bl (!g), rfl, trivial, .lb _⟩
    · cases h
  · split at h
    · cases h; cases hx; cases hy; exact ⟨[], .bl (!g), by cases g <;> rfl, trivial, .lb _⟩
    · cases h
  · split at h
    · rename_i b e1
      cases h
      obtain ⟨hk, e2⟩ := teq1_ok hx hy e1
      refine ⟨[], .bl (ngB g b), ?_, trivial, .bl _⟩
      have hk' : kind = 0 ∨ kind = 1 ∨ kind = 2 := by omega
      have : eqP live kind u v = some b := by
        rcases hk' with rfl | rfl | rfl <;> exact e2
      have hns : ∀ z n xs, u ≠ .sl z n xs := by
        rintro z n xs rfl
        rcases hk' with rfl | rfl | rfl <;> simp [eq1] at e2
      unfold keq
      split
      · exact absurd rfl (hns _ _ _)
      · exact absurd rfl (hns _ _ _)
      · exact absurd rfl (hns _ _ _)
      · rw [this]; rfl
    · cases h
/-- a quiet operation -/
theorem selI_ok : ∀ {cs : List (TV K)} {vs : List AV} {k : IntKind} {l : List Int}, TL P C ts χ cs vs → selI cs = some (k, l) → l.length = cs.length ∧ ∀ (j : Nat) (n : Int), l[j]? = some n → vs[j]? = some (.it k n)
  | [], vs, k, l, t, h => by simp [selI] at h
  | v :: r, [], k, l, t, h => by simp [TL] at t
  | v :: r, w :: vs, k, l, t, h => by
    simp only [selI] at h
    split at h
    · rename_i k0 n0 h0
      have hw : w = .it k0 n0 := t.head.1.s.int h0
      split at h
      · cases h
        refine ⟨rfl, fun j n hj => ?_⟩
        cases j with
        | zero => simp at hj; subst hj; simp [hw]
        | succ j => simp at hj
      · split at h
        · rename_i k' l' h1
          split at h
          · rename_i e
            cases h
            subst e
            obtain ⟨a, b⟩ := selI_ok t.head.2 h1
            refine ⟨by simp [a], fun j n hj => ?_⟩
            cases j with
            | zero => simp at hj; subst hj; simp [hw]
            | succ j => simpa using b j n (by simpa using hj)
          · cases h
        · cases h
    · cases h
theorem selS_ok : ∀ {cs : List (TV K)} {vs : List AV} {l : List Str}, TL P C ts χ cs vs → selS cs = some l → l.length = cs.length ∧ ∀ (j : Nat) (n : Str), l[j]? = some n → vs[j]? = some (.st n)
  | [], vs, l, t, h => by simp only [selS] at h; cases h; exact ⟨rfl, fun j n hj => by simp at hj⟩
  | v :: r, [], l, t, h => by simp [TL] at t
  | v :: r, w :: vs, l, t, h => by
    simp only [selS] at h
    split at h
    · rename_i s l' h0 h1
      cases h
      have hs := t.head.1.s
      rw [h0] at hs
      have hw : w = .st s := hs.str
      obtain ⟨a, b⟩ := selS_ok t.head.2 h1
      refine ⟨by simp [a], fun j n hj => ?_⟩
      cases j with
      | zero => simp at hj; subst hj; simp [hw]
      | succ j => simpa using b j n (by simpa using hj)
    · cases h
theorem tsel_ok {us : List (TV K)} {vs : List AV} {len : Nat} {i : Int} {cs : List Prop} {w : TV K} (t : TL P C ts χ us vs) (h : tsel us len i = some (cs, w)) (hl : Nat.ble len us.length = true) (hc : AllP cs) : cs = [0 ≤ i ∧ i < len] ∧ TR P C ts χ w ((vs[i.toNat]?).getD .un) := by
  unfold tsel at h
  have hl' := Nat.le_of_ble_eq_true hl
  split at h
  · rename_i k l h1
    cases h
    refine ⟨rfl, ?_⟩
    obtain ⟨a, b⟩ := selI_ok t h1
    have h0 : 0 ≤ i ∧ i < len := hc.1
    have hlt : i.toNat < l.length := by omega
    rw [b _ _ (List.getElem?_eq_getElem hlt), List.getElem?_eq_getElem hlt]
    exact .it _ _
  · split at h
    · rename_i l h1
      cases h
      refine ⟨rfl, ?_⟩
      obtain ⟨a, b⟩ := selS_ok t h1
      have h0 : 0 ≤ i ∧ i < len := hc.1
      have hlt : i.toNat < l.length := by omega
      rw [b _ _ (List.getElem?_eq_getElem hlt), List.getElem?_eq_getElem hlt]
      exact .st _
    · cases h
theorem tqv_ok (hγ : GM P C R ts χ ds) {u : AOp} {cs : List Prop} {w : TV K} (h : tqv ts u = some (cs, w)) (hc : AllP cs) :
    isMem u = false ∧ ∃ D v, kpv (liveB (toD ds)) ds.fr u = some (D, v) ∧ AllP D ∧ TR P C ts χ w v := by
  have lvx : ∀ {s c : Nat} {v : TV K}, tlvx ts s c v = some (cs, w) → cs = [] ∧ w = v ∧ liveB (toD ds) (.l s c) = true := by
    intro s c v e
    unfold tlvx at e
    split at e
    · rename_i e' cs' e1; cases e; exact ⟨rfl, rfl, hγ.live e1 (hγ.box e1)⟩
    · cases e
  have lv : ∀ {s c : Nat} {v : TV K}, χ s c = false → tlive ts s c v = some (cs, w) → cs = [] ∧ w = v ∧ liveB (toD ds) (.l s c) = true := by
    intro s c v hx e
    unfold tlive at e
    split at e
    · rename_i b e1; cases e; exact ⟨rfl, rfl, hγ.live e1 hx⟩
    · cases e
  unfold tqv at h
  simp only at h
  split at h
  case h_1 x =>
    cases h; exact ⟨rfl, [], _, rfl, trivial, hγ.tea x⟩
  case h_2 z parts =>
    split at h
    · rename_i cs' e
      cases h
      obtain ⟨cs2, e2, t⟩ := tfill_ok (P := P) (C := C) (ts := ts) (χ := χ) _ (parts.map fun p => (p.1, p.2.1, ev (lkF ds.fr) p.2.2)) _ z _ (TL.cvAs z) (by simp) (fun j p q a b => by
        rw [List.getElem?_map] at a b
        cases hp : parts[j]? with
        | none => rw [hp] at a; cases a
        | some r => rw [hp] at a b; cases a; cases b; exact ⟨rfl, rfl, hγ.tea _⟩) e
      refine ⟨rfl, [], .agg cs2, ?_, trivial, .agg _ _ t.1 t.2⟩
      simp only [kpv, pval, e2, kok, Option.map_some]
    · cases h
  case h_3 x =>
    have hx := hγ.tev x
    split at h
    · rename_i s c o e
      rw [e] at hx
      obtain ⟨rfl, rfl, hl⟩ := lvx h
      have ev' : ev (lkF ds.fr) x = .pt (.l s c) o := hx.pxi
      refine ⟨rfl, [], _, ?_, trivial, ev' ▸ hx⟩
      simp only [kpv, pval, ev', hl, if_true, kok]
    · rename_i e' s c i o e
      rw [e] at hx
      cases hx' : (ev (lkF ds.fr) x) with
      | pt k off =>
        rw [hx'] at hx
        cases hx with
        | pr _ _ _ _ _ hr hxx =>
          obtain ⟨rfl, rfl, hl⟩ := lv hxx h
          refine ⟨rfl, [], .pt (.l s c) _, ?_, trivial, .pr _ _ _ _ _ hr hxx⟩
          simp only [kpv, pval, hx', hl, if_true, kok]
      | _ => rw [hx'] at hx; cases hx
    · rename_i e' l i o e
      rw [e] at hx
      cases h
      cases hx' : (ev (lkF ds.fr) x) with
      | ep xs off =>
        rw [hx'] at hx
        refine ⟨rfl, [], .ep xs off, ?_, trivial, hx⟩
        simp only [kpv, pval, hx', kok]
      | _ => rw [hx'] at hx; cases hx
    · rename_i l i e
      rw [e] at hx
      cases h
      cases hx' : (ev (lkF ds.fr) x) with
      | ep xs off =>
        rw [hx'] at hx
        refine ⟨rfl, [], .ep xs off, ?_, trivial, hx⟩
        simp only [kpv, pval, hx', kok]
      | _ => rw [hx'] at hx; cases hx
    · rename_i f a c e
      rw [e] at hx
      cases h
      cases hx' : (ev (lkF ds.fr) x) with
      | fn f' a' c' =>
        rw [hx'] at hx
        have : f' = .func f := by cases hx; rfl
        subst this
        refine ⟨rfl, [], .fn (.func f) a' c', ?_, trivial, hx⟩
        simp only [kpv, pval, hx', kok]
      | _ => rw [hx'] at hx; cases hx
    · rename_i ps rs V e
      rw [e] at hx
      cases h
      have hx2 := hx
      cases hx with
      | fv _ _ _ _ hF hv =>
        obtain ⟨_, _, _, f, a, c, e1, _⟩ := hF
        rw [e1] at hv
        cases hx' : (ev (lkF ds.fr) x) with
        | fn f' a' c' =>
          rw [hx'] at hv hx2
          simp only [dwk, AV.fn.injEq] at hv
          obtain ⟨rfl, _, _⟩ := hv
          refine ⟨rfl, [], .fn (.func f) a' c', ?_, trivial, hx2⟩
          simp only [kpv, pval, hx', kok]
        | _ => rw [hx'] at hv; simp [dwk] at hv
    · cases h
  case h_4 op x y =>
    obtain ⟨D, z, h1, h2, h3⟩ := tbin_ok (hγ.tev x) (hγ.tev y) h hc
    exact ⟨rfl, D, z, h1, h2, h3⟩
  case h_5 g k x y =>
    obtain ⟨D, z, h1, h2, h3⟩ := teq_ok (live := liveB (toD ds)) (hγ.tev x) (hγ.tev y) h hc
    exact ⟨rfl, D, z, h1, h2, h3⟩
  case h_6 g ks x y =>
    have hx := hγ.tev x
    have hy := hγ.tev y
    split at h
    · rename_i a b e1 e2
      rw [e1] at hx; rw [e2] at hy
      obtain ⟨us, f1, t1, t2⟩ := hx.agg'
      obtain ⟨vs, f2, t3, t4⟩ := hy.agg'
      split at h
      · rename_i r e3
        cases h
        have := teqL_ok t1 t3 t2 t4 e3
        refine ⟨rfl, [], .bl (ngB g r), ?_, trivial, .bl _⟩
        simp only [kpv, f1, f2, this, kok, Option.map_some]
      · cases h
    · cases h
  case h_7 op x =>
    have hx := hγ.tev x
    split at h
    · split at h
      · rename_i k n e
        cases h
        have := hx.int e
        refine ⟨rfl, [], .it k _, ?_, trivial, .it _ _⟩
        simp only [kpv, pval, this, kok]
      · cases h
    · split at h
      · rename_i b e
        cases h
        rw [e] at hx
        have : ev (lkF ds.fr) x = .bl b := hx.lbi
        refine ⟨rfl, [], .bl (!b), ?_, trivial, .lb _⟩
        simp only [kpv, pval, this, kok]
      · rename_i b e
        cases h
        rw [e] at hx
        have : ev (lkF ds.fr) x = .bl b := hx.bli
        refine ⟨rfl, [], .bl (!b), ?_, trivial, .bl _⟩
        simp only [kpv, pval, this, kok]
      · cases h
    · cases h
  case h_8 k x =>
    split at h
    · rename_i k' n e
      cases h
      have := (hγ.tev x).int e
      refine ⟨rfl, [], .it k _, ?_, trivial, .it _ _⟩
      simp only [kpv, pval, this, kok]
    · cases h
  case h_9 x =>
    have hx := hγ.tev x
    split at h
    · rename_i l e
      cases h
      rw [e] at hx
      refine ⟨rfl, [], .st l, ?_, trivial, .st _⟩
      simp only [kpv, pval, hx.str, kok]
    · cases h
  case h_10 x lo hi =>
    have hx := hγ.tev x
    split at h
    · rename_i l e
      rw [e] at hx
      split at h
      · rename_i a b e1 e2
        cases h
        refine ⟨rfl, _, .st ((l.drop a.toNat).take (b.toNat - a.toNat)), ?_, hc, .st _⟩
        simp only [kpv, hx.str, tbnd_ok hγ e1, tbnd_ok hγ e2, ksls]
      · cases h
    · cases h
  case h_11 off x =>
    have hx := hγ.tev x
    split at h
    · rename_i s c o e
      rw [e] at hx
      obtain ⟨rfl, rfl, hl⟩ := lvx h
      cases hx' : (ev (lkF ds.fr) x) with
      | pt k off' =>
        rw [hx'] at hx
        cases hx with
        | px _ _ _ hr =>
          refine ⟨rfl, [], .pt (.l s c) (o + off), ?_, trivial, .px _ _ _ hr⟩
          simp only [kpv, pval, hx', hl, if_true, kok]
      | _ => rw [hx'] at hx; cases hx
    · rename_i e' s c i o e
      rw [e] at hx
      cases hx' : (ev (lkF ds.fr) x) with
      | pt k off' =>
        rw [hx'] at hx
        cases hx with
        | pr _ _ _ _ _ hr hxx =>
          obtain ⟨rfl, rfl, hl⟩ := lv hxx h
          refine ⟨rfl, [], .pt (.l s c) (i * (C.E e').sz + o + off), ?_, trivial, by rw [Nat.add_assoc]; exact .pr _ _ _ _ _ hr hxx⟩
          simp only [kpv, pval, hx', hl, if_true, kok]
      | _ => rw [hx'] at hx; cases hx
    · rename_i e' l i o e
      rw [e] at hx
      cases h
      cases hx' : (ev (lkF ds.fr) x) with
      | ep xs off' =>
        rw [hx'] at hx
        cases hx with
        | ep _ _ _ _ _ hxx =>
          refine ⟨rfl, [], .ep xs (i * (C.E e').sz + o + off), ?_, trivial, by rw [Nat.add_assoc]; exact .ep _ _ _ _ _ hxx⟩
          simp only [kpv, pval, hx', kok]
      | _ => rw [hx'] at hx; cases hx
    · cases h
  case h_12 g off sz x =>
    have hx := hγ.tev x
    split at h
    · rename_i us e
      rw [e] at hx
      obtain ⟨vs, f1, t⟩ := hx.agg'
      have t : TL P C ts χ us vs := t
      split at h
      · cases h
        refine ⟨rfl, [], .agg ((vs.drop off).take sz), ?_, trivial, .agg _ _ ((t.drop off).take sz).1 ((t.drop off).take sz).2⟩
        simp only [kpv, pval, f1, kok, if_true]
      · split at h
        · rename_i v e1
          cases h
          obtain ⟨v', e2, e3⟩ := t.at' e1
          refine ⟨rfl, [], v', ?_, trivial, e3⟩
          simp only [kpv, pval, f1, e2, kok, Bool.false_eq_true, if_false]
        · cases h
    · cases h
  case h_13 len sz x i =>
    have hx := hγ.tev x
    have hi := hγ.tev i
    split at h
    · rename_i s c o k n e1 e2
      rw [e1] at hx; rw [e2] at hi
      split at h
      · rename_i hb
        obtain ⟨rfl, rfl, hl⟩ := lvx h
        cases hx' : (ev (lkF ds.fr) x) with
        | pt q off' =>
          rw [hx'] at hx
          cases hx with
          | px _ _ _ hr =>
            refine ⟨rfl, [0 ≤ n ∧ n < len], .pt (.l s c) (o + n.toNat * sz), ?_, ⟨hb, trivial⟩, .px _ _ _ hr⟩
            simp only [kpv, hx', hi.int (k := k) (n := n) rfl, hl]
        | _ => rw [hx'] at hx; cases hx
      · cases h
    · rename_i l o e1
      rw [e1] at hx
      split at h
      · rename_i k n e2
        cases h
        cases hx' : (ev (lkF ds.fr) x) with
        | ep xs off' =>
          rw [hx'] at hx
          cases hx with
          | gs _ _ _ hxx =>
            refine ⟨rfl, [0 ≤ n ∧ n < len], .ep xs (o + n.toNat * sz), ?_, ?_, .gs _ _ _ hxx⟩
            · simp only [kpv, hx', hi.int e2]
            · exact hc
        | _ => rw [hx'] at hx; cases hx
      · cases h
    · cases h
  case h_14 x i =>
    have hx := hγ.tev x
    split at h
    · rename_i l k n e1 e2
      rw [e1] at hx
      cases h
      refine ⟨rfl, _, _, ?_, hc, .it _ _⟩
      simp only [kpv, hx.str, (hγ.tev i).int e2, bAt]
    · cases h
  case h_15 g len sz x i =>
    have hx := hγ.tev x
    have hi := hγ.tev i
    split at h
    · rename_i us k n e1 e2
      rw [e1] at hx; rw [e2] at hi
      obtain ⟨vs, f1, t⟩ := hx.agg'
      have t : TL P C ts χ us vs := t
      split at h
      · rename_i hb
        split at h
        · cases h
          refine ⟨rfl, [], .agg ((vs.drop (n.toNat * sz)).take sz), ?_, trivial, .agg _ _ ((t.drop _).take sz).1 ((t.drop _).take sz).2⟩
          simp only [kpv, pval, f1, hi.int (k := k) (n := n) rfl, kok, if_true, if_pos hb, Bool.not_true, Bool.false_and]
        · split at h
          · rename_i v e3
            cases h
            obtain ⟨v', e4, e5⟩ := t.at' e3
            cases hq : (!false && Nat.beq sz 1 && Nat.ble len vs.length) with
            | false =>
              refine ⟨rfl, [], v', ?_, trivial, e5⟩
              simp only [kpv, pval, f1, hi.int (k := k) (n := n) rfl, e4, kok, hq, Bool.false_eq_true, if_false, if_pos hb]
            | true =>
              refine ⟨rfl, [0 ≤ n ∧ n < len], v', ?_, ⟨hb, trivial⟩, e5⟩
              have h1 : sz = 1 := by simp only [Bool.and_eq_true] at hq; exact nbeq.1 hq.1.2
              subst h1
              rw [Nat.mul_one] at e4
              simp only [kpv, f1, hi.int (k := k) (n := n) rfl, hq, e4, Option.getD_some]
          · cases h
      · cases h
    · rename_i us k n e1 e2
      rw [e1] at hx; rw [e2] at hi
      obtain ⟨vs, f1, t⟩ := hx.agg'
      have t : TL P C ts χ us vs := t
      split at h
      · rename_i hq
        have hq0 := hq
        simp only [Bool.and_eq_true] at hq
        obtain ⟨e3, e4⟩ := tsel_ok t h hq.2 hc
        refine ⟨rfl, [0 ≤ n ∧ n < len], _, ?_, by rw [← e3]; exact hc, e4⟩
        rw [← t.1] at hq0
        simp only [kpv, f1, hi.int (k := k) (n := n) rfl, hq0]
      · cases h
    · cases h
  case h_16 x i =>
    have hx := hγ.tev x
    split at h
    · rename_i us e
      rw [e] at hx
      obtain ⟨vs, f1, t⟩ := hx.tup'
      have t : TL P C ts χ us vs := t
      split at h
      · rename_i v e1
        cases h
        obtain ⟨v', e2, e3⟩ := t.at' e1
        refine ⟨rfl, [], v', ?_, trivial, e3⟩
        simp only [kpv, pval, f1, e2, kok]
      · cases h
    · cases h
  case h_17 x =>
    have hx := hγ.tev x
    split at h
    · rename_i l e
      cases h
      rw [e] at hx
      refine ⟨rfl, [], .it .i64 (l.length : Int), ?_, trivial, .it _ _⟩
      simp only [kpv, pval, hx.str, kok]
    · cases h
  case h_18 mx xs =>
    split at h
    · cases h
    · rename_i x r
      split at h
      · rename_i k a e1
        split at h
        · rename_i v e2
          cases h
          obtain ⟨v', e3, e4⟩ := tmnL_ok _ _ a w (TL.tev hγ r) e2
          refine ⟨rfl, [], v', ?_, trivial, e4⟩
          simp only [kpv, pval, List.map_cons, (hγ.tev x).int e1, e3, kok]
        · cases h
      · cases h
  case h_19 f a c =>
    cases h
    refine ⟨rfl, [], .fn (.func f) (a.map (ev (lkF ds.fr))) (c.map (ev (lkF ds.fr))), ?_, trivial, .fn _ _ _ _ _ (TL.tea hγ a).1 (TL.tea hγ c).1 (TL.tea hγ a).2 (TL.tea hγ c).2⟩
    simp only [kpv, pval, kok]
  case h_20 => cases h
end
end Go.AV

