/-
  A region that draws its order, walked once: each operation has ONE obligation, whatever order the draw gives. Conditions: the operations' edges point back, each slot is written once, each owned row has one consumer.
-/
import Derived.Orders
import Derived.Below
import Derived.OneCell
import Derived.Calls
import Derived.Laws.World
namespace Go.RG
open Go.RowKit

theorem hid {p : Prop} (h : p) : Hid p := h

def dstOf (ops : Array Oper) (i : Nat) : Option Nat := (ops[i]?).bind (·.dst)

def upd (D : Nat → Bool) (i : Nat) : Nat → Bool := fun j => j == i || D j

section
variable {P : Program} {ops : Array Oper} {Q : Exit → Act → World → Prop}

/-- ready, as a proposition -/
theorem mem_ready {md : Region.Mode} {listed : Array Bool} {i : Nat} : i ∈ Region.ready md ops listed ↔
    i < ops.size ∧ listed.getD i true = false ∧ ∀ o, ops[i]? = some o → ∀ e ∈ o.after.toList, Region.binds md e = true → listed.getD e.on false = true := by
  unfold Region.ready
  simp only [List.mem_filter, List.mem_range, Bool.and_eq_true, Bool.not_eq_true']
  constructor
  · rintro ⟨h1, h2, h3⟩
    refine ⟨h1, h2, fun o ho e he hb => ?_⟩
    rw [ho] at h3
    simp only [Option.map_some, Option.getD_some, Array.all_eq_true', Bool.or_eq_true, Bool.not_eq_true'] at h3
    rcases h3 e (by simpa using he) with h | h
    · rw [hb] at h; cases h
    · exact h
  · rintro ⟨h1, h2, h3⟩
    refine ⟨h1, h2, ?_⟩
    rw [Array.getElem?_eq_getElem h1]
    simp only [Option.map_some, Option.getD_some, Array.all_eq_true', Bool.or_eq_true, Bool.not_eq_true']
    intro e he
    cases hb : Region.binds md e
    · exact .inl rfl
    · exact .inr (h3 _ (Array.getElem?_eq_getElem h1) e (by simpa using he) hb)

theorem wpAny_inv {md : Region.Mode} (Inv : (Nat → Bool) → Act → World → Prop)
    (hwf : ∀ i o, ops[i]? = some o → ∀ e ∈ o.after.toList, Region.binds md e = true → e.on < i)
    (hstep : ∀ D i o a w, ops[i]? = some o → D i = false → (∀ e ∈ o.after.toList, Region.binds md e = true → D e.on = true) → Inv D a w → wpOp P ops Q i (Inv (upd D i)) a w)
    (hend : ∀ D a w, (∀ i, i < ops.size → D i = true) → Inv D a w → Q .normal a w) :
    ∀ (fuel : Nat) (listed : Array Bool) (a : Act) (w : World), listed.size = ops.size → ((List.range ops.size).filter (fun i => !listed.getD i false)).length ≤ fuel →
      Inv (fun j => listed.getD j false) a w → wpAny P md ops Q fuel listed a w := by
  have hall : ∀ listed : Array Bool, listed.size = ops.size → Region.ready md ops listed = [] → ∀ i, i < ops.size → listed.getD i false = true := by
    intro listed hs hr i
    induction i using Nat.strongRecOn with
    | ind i ih =>
      intro hi
      cases hb : listed.getD i false with
      | true => rfl
      | false =>
        have hm : i ∈ Region.ready md ops listed := mem_ready.2 ⟨hi, by simpa [Array.getD, hs, hi] using hb, fun o ho e he hbd => by
          have := hwf i o ho e he hbd
          exact ih e.on this (by omega)⟩
        rw [hr] at hm
        cases hm
  intro fuel
  induction fuel with
  | zero =>
    intro listed a w hs hc hI
    have hl : ∀ i, i < ops.size → listed.getD i false = true := by
      intro i hi
      cases hb : listed.getD i false with
      | true => rfl
      | false =>
        have hm : i ∈ (List.range ops.size).filter (fun i => !listed.getD i false) := List.mem_filter.2 ⟨List.mem_range.2 hi, by rw [hb]; rfl⟩
        have := List.length_pos_of_mem hm
        omega
    refine ⟨?_, hend _ a w hl hI⟩
    cases hr : Region.ready md ops listed with
    | nil => rfl
    | cons x xs =>
      have hm : x ∈ Region.ready md ops listed := by rw [hr]; simp
      obtain ⟨h1, h2, _⟩ := mem_ready.1 hm
      have := hl x h1
      simp [Array.getD, hs, h1] at h2 this
      rw [this] at h2; cases h2
  | succ fuel ih =>
    intro listed a w hs hc hI
    refine ⟨fun hr => hend _ a w (hall listed hs hr) hI, fun i hi => ?_⟩
    obtain ⟨h1, h2, h3⟩ := mem_ready.1 hi
    have ho := Array.getElem?_eq_getElem h1
    have h2' : listed.getD i false = false := by simpa [Array.getD, hs, h1] using h2
    refine wpOp_mono ?_ (hstep _ i _ a w ho h2' (fun e he hb => h3 _ ho e he hb) hI)
    intro a' w' hI'
    refine ih _ a' w' (by simp [hs]) ?_ ?_
    · have hlt : ((List.range ops.size).filter (fun j => !(listed.setIfInBounds i true).getD j false)).length < ((List.range ops.size).filter (fun j => !listed.getD j false)).length := by
        have e1 : (List.range ops.size).filter (fun j => !(listed.setIfInBounds i true).getD j false) = ((List.range ops.size).filter (fun j => !listed.getD j false)).filter (fun j => !(j == i)) := by
          rw [List.filter_filter]
          refine List.filter_congr fun j hj => ?_
          simp only [List.mem_range] at hj
          by_cases e : j = i
          · subst e; simp [Array.getD, hs, hj]
          · have e' : i ≠ j := fun h => e h.symm
            simp [Array.getD, hs, hj, e, e']
        rw [e1]
        exact List.length_filter_lt_length_iff_exists.2 ⟨i, List.mem_filter.2 ⟨List.mem_range.2 h1, by rw [h2']; rfl⟩, by simp⟩
      omega
    · have e : (fun j => (listed.setIfInBounds i true).getD j false) = upd (fun j => listed.getD j false) i := by
        funext j
        unfold upd
        by_cases e : j = i
        · subst e; simp [Array.getD, hs, h1]
        · have e' : i ≠ j := fun h => e h.symm
          by_cases hj : j < listed.size <;> simp [Array.getD, hj, e, e']
      rw [e]
      exact hI'

/-- the plan of a region -/
structure Plan where
  anc : Nat → List Nat
  cons : Nat → List Nat
  own : Nat → Bool
  F : Nat → Value → World → Prop
  iv : Nat → Value
  m : Nat
  B : Nat

def Plan.fp (pl : Plan) (p : Nat) (v : Value) : Option Nat := if pl.own p then v.ownBlock else none

def chkWf (ops : Array Oper) : Bool := (List.range ops.size).all fun i => ((ops[i]?).map fun o => o.after.toList.all fun e => !Region.binds .any e || decide (e.on < i)).getD true
def chkAnc (ops : Array Oper) (anc : Nat → List Nat) : Bool :=
  (List.range ops.size).all fun i => (anc i).all fun x => ((ops[i]?).map fun o => o.after.toList.any fun e => Region.binds .any e && (e.on == x || (anc e.on).contains x)).getD false
def chkDst (ops : Array Oper) (k : Nat) : Bool :=
  (List.range ops.size).all fun i => match dstOf ops i with
    | none => true
    | some d => decide (d < k) && (List.range ops.size).all fun j => i == j || !(dstOf ops j == some d)
def chkCons (ops : Array Oper) (anc cons : Nat → List Nat) (m : Nat) : Bool :=
  (List.range ops.size).all fun c => (cons c).all fun p => (((anc c).contains p && decide (p < ops.size)) || (decide (ops.size ≤ p) && decide (p < ops.size + m))) && (List.range ops.size).all fun d => c == d || !(cons d).contains p

def live (ops : Array Oper) (pl : Plan) (D : Nat → Bool) (p : Nat) : Prop :=
  (D p = true ∨ (ops.size ≤ p ∧ p < ops.size + pl.m)) ∧ ∀ c, D c = true → p ∉ pl.cons c

def final (ops : Array Oper) (t0 : Array Value) (val : Nat → Value) : Array Value :=
  (List.range ops.size).foldl (fun t i => match dstOf ops i with | some d => t.setIfInBounds d (val i) | none => t) t0

theorem final_size (ops : Array Oper) (t0 : Array Value) (val : Nat → Value) : (final ops t0 val).size = t0.size := by
  unfold final
  suffices h : ∀ (l : List Nat) (t : Array Value), (l.foldl (fun t i => match dstOf ops i with | some d => t.setIfInBounds d (val i) | none => t) t).size = t.size from h _ _
  intro l
  induction l with
  | nil => intro t; rfl
  | cons i l ih =>
    intro t
    simp only [List.foldl_cons]
    rw [ih]
    split <;> simp

theorem final_at {k : Nat} (hd : chkDst ops k = true) (t0 : Array Value) (ht : k ≤ t0.size) (val : Nat → Value) (t : Nat) :
    (∀ i, i < ops.size → dstOf ops i = some t → (final ops t0 val)[t]? = some (val i)) ∧ ((∀ i, i < ops.size → dstOf ops i ≠ some t) → (final ops t0 val)[t]? = t0[t]?) := by
  have hinj : ∀ i j, i < ops.size → j < ops.size → dstOf ops i = some t → dstOf ops j = some t → i = j := by
    intro i j hi hj h1 h2
    have h := List.all_eq_true.1 hd i (List.mem_range.2 hi)
    rw [h1] at h
    simp only [Bool.and_eq_true, List.all_eq_true, List.mem_range] at h
    have := h.2 j hj
    rw [h2] at this
    simpa using this
  have hlt : ∀ i, i < ops.size → dstOf ops i = some t → t < t0.size := by
    intro i hi h1
    have h := List.all_eq_true.1 hd i (List.mem_range.2 hi)
    rw [h1] at h
    simp only [Bool.and_eq_true, decide_eq_true_eq] at h
    omega
  have gen : ∀ (n : Nat), n ≤ ops.size → ∀ i, i < n → dstOf ops i = some t → ((List.range n).foldl (fun t i => match dstOf ops i with | some d => t.setIfInBounds d (val i) | none => t) t0)[t]? = some (val i) := by
    intro n
    induction n with
    | zero => intro _ i hi; omega
    | succ n ih =>
      intro hn i hi h1
      rw [List.range_succ, List.foldl_append]
      simp only [List.foldl_cons, List.foldl_nil]
      have hsz : ∀ (l : List Nat) (t : Array Value), (l.foldl (fun t i => match dstOf ops i with | some d => t.setIfInBounds d (val i) | none => t) t).size = t.size := by
        intro l
        induction l with
        | nil => intro t; rfl
        | cons i l ih =>
          intro t
          simp only [List.foldl_cons]
          rw [ih]
          split <;> simp
      by_cases e : i = n
      · subst e
        rw [h1]
        simp only []
        rw [Array.getElem?_setIfInBounds_self]
        rw [if_pos (by rw [hsz]; exact hlt i (by omega) h1)]
      · have := ih (by omega) i (by omega) h1
        split
        · rename_i d hdn
          rw [Array.getElem?_setIfInBounds_ne (by intro e2; subst e2; exact e (hinj i n (by omega) (by omega) h1 hdn))]
          exact this
        · exact this
  refine ⟨fun i hi h => gen ops.size (Nat.le_refl _) i hi h, fun h => ?_⟩
  unfold final
  suffices hh : ∀ (l : List Nat) (x : Array Value), (∀ i ∈ l, i < ops.size) → (l.foldl (fun t i => match dstOf ops i with | some d => t.setIfInBounds d (val i) | none => t) x)[t]? = x[t]? from hh _ _ (fun i hi => List.mem_range.1 hi)
  intro l
  induction l with
  | nil => intro x _; rfl
  | cons i l ih =>
    intro x hx
    simp only [List.foldl_cons]
    rw [ih _ (fun j hj => hx j (List.mem_cons_of_mem _ hj))]
    split
    · rename_i d hdn
      rw [Array.getElem?_setIfInBounds_ne (by intro e2; subst e2; exact h i (hx i (by simp)) hdn)]
    · rfl

/-- what operation i owes -/
def StepOk (P : Program) (ops : Array Oper) (Q : Exit → Act → World → Prop) (pl : Plan) (a0 : Act) (w0 : World) (i : Nat) : Prop :=
  ∀ (a : Act) (w : World) (val : Nat → Value) (K : Act → World → Prop), Below pl.B w0 w →
    (∀ p, ops.size ≤ p → val p = pl.iv p) →
    (∀ p ∈ pl.anc i, ∀ d, dstOf ops p = some d → a.tmps[d]? = some (val p)) →
    (∀ p, p ∈ pl.anc i ∨ (ops.size ≤ p ∧ p < ops.size + pl.m) → (∀ c, c < ops.size → p ∈ pl.cons c → c = i) → pl.F p (val p) w) →
    (∀ p, p ∈ pl.anc i ∨ (ops.size ≤ p ∧ p < ops.size + pl.m) → (∀ c, c < ops.size → p ∈ pl.cons c → c = i) → ∀ b, pl.fp p (val p) = some b → pl.B ≤ b ∧ b < w.heap.size) →
    (∀ t, (∀ j, j < ops.size → dstOf ops j = some t → j = i ∨ i ∈ pl.anc j) → a.tmps[t]? = a0.tmps[t]?) →
    a.defers = a0.defers →
    (∀ v w', pl.F i v w' → w.grownBy w' none ∨ (∃ p ∈ pl.cons i, w.grownBy w' (pl.fp p (val p))) →
      (∀ b, pl.fp i v = some b → (pl.B ≤ b ∧ b < w'.heap.size) ∧ (w.heap.size ≤ b ∨ ∃ p ∈ pl.cons i, pl.fp p (val p) = some b)) → K (a.put (dstOf ops i) v) w') →
    wpOp P ops Q i K a w

theorem region_any {id : Nat} (pl : Plan) (a0 : Act) (w0 : World) (hm : P.follows .mixedOrders = true)
    (hwf : chkWf ops = true) (hanc : chkAnc ops pl.anc = true) (hdst : chkDst ops a0.tmps.size = true) (hcons : chkCons ops pl.anc pl.cons pl.m = true) (hB : pl.B ≤ w0.heap.size)
    (hstable : ∀ p v w w', pl.F p v w → pl.B ≤ w.heap.size → (∀ k, k < pl.B → w'.heap[k]? = w.heap[k]?) → (∀ k, pl.fp p v = some k → w'.heap[k]? = w.heap[k]?) → w.heap.size ≤ w'.heap.size → pl.F p v w')
    (hini : ∀ p, ops.size ≤ p → p < ops.size + pl.m → pl.F p (pl.iv p) w0 ∧ ∀ b, pl.fp p (pl.iv p) = some b → pl.B ≤ b ∧ b < w0.heap.size)
    (hinid : ∀ p q b, ops.size ≤ p → p < ops.size + pl.m → ops.size ≤ q → q < ops.size + pl.m → pl.fp p (pl.iv p) = some b → pl.fp q (pl.iv q) = some b → p = q)
    (hstep : ∀ i, i < ops.size → StepOk P ops Q pl a0 w0 i)
    (hend : ∀ (val : Nat → Value) (w : World), (∀ p, ops.size ≤ p → val p = pl.iv p) → Below pl.B w0 w →
      (∀ p, p < ops.size + pl.m → (∀ c, c < ops.size → p ∉ pl.cons c) → pl.F p (val p) w ∧ ∀ b, pl.fp p (val p) = some b → pl.B ≤ b ∧ b < w.heap.size) →
      (∀ p q b, p < ops.size + pl.m → q < ops.size + pl.m → (∀ c, c < ops.size → p ∉ pl.cons c) → (∀ c, c < ops.size → q ∉ pl.cons c) → pl.fp p (val p) = some b → pl.fp q (val q) = some b → p = q) →
      Q .normal { tmps := final ops a0.tmps val, defers := a0.defers } w) :
    (Code.region id ops true).wp P Q a0 w0 := by
  have hlt : ∀ {i o}, ops[i]? = some o → i < ops.size := fun h => (Array.getElem?_eq_some_iff.1 h).1
  have hdef : ∀ {i d}, dstOf ops i = some d → i < ops.size := by
    intro i d h
    unfold dstOf at h
    cases ho : ops[i]? with
    | none => rw [ho] at h; cases h
    | some o => exact hlt ho
  have dlt : ∀ {i d}, dstOf ops i = some d → d < a0.tmps.size := by
    intro i d h
    have h' := List.all_eq_true.1 hdst i (List.mem_range.2 (hdef h))
    rw [h] at h'
    simp only [Bool.and_eq_true, decide_eq_true_eq] at h'
    exact h'.1
  have dinj : ∀ {i j d}, dstOf ops i = some d → dstOf ops j = some d → i = j := by
    intro i j d h1 h2
    have h' := List.all_eq_true.1 hdst i (List.mem_range.2 (hdef h1))
    rw [h1] at h'
    simp only [Bool.and_eq_true, List.all_eq_true, List.mem_range] at h'
    have := h'.2 j (hdef h2)
    rw [h2] at this
    simpa using this
  have wf : ∀ i o, ops[i]? = some o → ∀ e ∈ o.after.toList, Region.binds .any e = true → e.on < i := by
    intro i o ho e he hb
    have h' := List.all_eq_true.1 hwf i (List.mem_range.2 (hlt ho))
    rw [ho] at h'
    simp only [Option.map_some, Option.getD_some, List.all_eq_true] at h'
    have := h' e he
    rw [hb] at this
    simpa using this
  have ancs : ∀ i x, i < ops.size → x ∈ pl.anc i → ∃ o e, ops[i]? = some o ∧ e ∈ o.after.toList ∧ Region.binds .any e = true ∧ (e.on = x ∨ x ∈ pl.anc e.on) := by
    intro i x hi hx
    have h' := List.all_eq_true.1 (List.all_eq_true.1 hanc i (List.mem_range.2 hi)) x hx
    cases ho : ops[i]? with
    | none => rw [ho] at h'; cases h'
    | some o =>
      rw [ho] at h'
      simp only [Option.map_some, Option.getD_some, List.any_eq_true, Bool.and_eq_true, Bool.or_eq_true, beq_iff_eq, List.contains_iff_mem] at h'
      obtain ⟨e, he, hb, h⟩ := h'
      exact ⟨o, e, rfl, he, hb, h⟩
  have conss : ∀ c p, c < ops.size → p ∈ pl.cons c → ((p ∈ pl.anc c ∧ p < ops.size) ∨ (ops.size ≤ p ∧ p < ops.size + pl.m)) ∧ ∀ d, d < ops.size → p ∈ pl.cons d → d = c := by
    intro c p hc hp
    have h' := List.all_eq_true.1 (List.all_eq_true.1 hcons c (List.mem_range.2 hc)) p hp
    simp only [Bool.and_eq_true, Bool.or_eq_true, decide_eq_true_eq, List.contains_iff_mem, List.all_eq_true, List.mem_range, beq_iff_eq, Bool.not_eq_true'] at h'
    refine ⟨h'.1, fun d hd hpd => ?_⟩
    rcases h'.2 d hd with h | h
    · exact h.symm
    · have : (pl.cons d).contains p = true := by simpa using hpd
      rw [this] at h; cases h
  let Inv : (Nat → Bool) → Act → World → Prop := fun D a w =>
    (∀ i o, D i = true → ops[i]? = some o → ∀ e ∈ o.after.toList, Region.binds .any e = true → D e.on = true) ∧ (∀ i, D i = true → i < ops.size) ∧
    a.tmps.size = a0.tmps.size ∧ a.defers = a0.defers ∧ (∀ t, (∀ i, D i = true → dstOf ops i ≠ some t) → a.tmps[t]? = a0.tmps[t]?) ∧ Below pl.B w0 w ∧
    ∃ val : Nat → Value, (∀ p, ops.size ≤ p → val p = pl.iv p) ∧ (∀ i d, D i = true → dstOf ops i = some d → a.tmps[d]? = some (val i)) ∧
      (∀ p, live ops pl D p → pl.F p (val p) w ∧ ∀ b, pl.fp p (val p) = some b → pl.B ≤ b ∧ b < w.heap.size) ∧
      (∀ p q b, live ops pl D p → live ops pl D q → pl.fp p (val p) = some b → pl.fp q (val q) = some b → p = q)
  refine wp_region_any hm (wpAny_inv (Q := Q) Inv wf ?_ ?_ ops.size (Array.replicate ops.size false) a0 _ (by simp) ?_ ?_)
  · -- a step
    rintro D i o a w ho hDi hready ⟨hdown, hDlt, hsz, hdf, hold, hbel, val, hiv, hval, hF, hdis⟩
    have hi := hlt ho
    have hanc' : ∀ x, x ∈ pl.anc i → D x = true := by
      have h0 : ∀ n j x, j ≤ n → D j = true → x ∈ pl.anc j → D x = true := by
        intro n
        induction n with
        | zero =>
          intro j x hj hD hx
          obtain ⟨o', e, ho', he, hb, h⟩ := ancs j x (hDlt j hD) hx
          have := wf j o' ho' e he hb
          omega
        | succ n ih =>
          intro j x hj hD hx
          obtain ⟨o', e, ho', he, hb, h⟩ := ancs j x (hDlt j hD) hx
          have h1 := wf j o' ho' e he hb
          have h2 := hdown j o' hD ho' e he hb
          rcases h with h | h
          · rw [← h]; exact h2
          · exact ih e.on x (by omega) h2 h
      intro x hx
      obtain ⟨o', e, ho', he, hb, h⟩ := ancs i x hi hx
      rw [ho] at ho'
      cases ho'
      have h2 := hready e he hb
      rcases h with h | h
      · rw [← h]; exact h2
      · exact h0 e.on e.on x (Nat.le_refl _) h2 h
    have hdownA : ∀ n j, j ≤ n → D j = true → i ∈ pl.anc j → False := by
      intro n
      induction n with
      | zero =>
        intro j hj hD hx
        obtain ⟨o', e, ho', he, hb, h⟩ := ancs j i (hDlt j hD) hx
        have := wf j o' ho' e he hb
        omega
      | succ n ih =>
        intro j hj hD hx
        obtain ⟨o', e, ho', he, hb, h⟩ := ancs j i (hDlt j hD) hx
        have h1 := wf j o' ho' e he hb
        have h2 := hdown j o' hD ho' e he hb
        rcases h with h | h
        · rw [h] at h2; rw [h2] at hDi; cases hDi
        · exact ih e.on (by omega) h2 h
    have hlive : ∀ p, p ∈ pl.anc i ∨ (ops.size ≤ p ∧ p < ops.size + pl.m) → (∀ c, c < ops.size → p ∈ pl.cons c → c = i) → live ops pl D p := by
      intro p hp hc
      refine ⟨?_, fun c hDc hpc => ?_⟩
      · rcases hp with hp | hp
        · exact .inl (hanc' p hp)
        · exact .inr hp
      · have := hc c (hDlt c hDc) hpc
        subst this
        rw [hDc] at hDi; cases hDi
    have hBw : pl.B ≤ w.heap.size := Nat.le_trans hB hbel.size
    refine hstep i hi a w val (Inv (upd D i)) hbel hiv (fun p hp d hd => hval p d (hanc' p hp) hd) (fun p hp hc => (hF p (hlive p hp hc)).1) (fun p hp hc => (hF p (hlive p hp hc)).2) ?_ hdf ?_
    · intro t ht
      refine hold t fun j hDj hdj => ?_
      rcases ht j (hDlt j hDj) hdj with h | h
      · subst h; rw [hDj] at hDi; cases hDi
      · exact hdownA j j (Nat.le_refl _) hDj h
    · intro v w' hFi hgr hfpi
      -- the blocks that did not turn
      have hcl : ∀ p ∈ pl.cons i, live ops pl D p := by
        intro p hp
        obtain ⟨h1, h2⟩ := conss i p hi hp
        refine hlive p ?_ (fun c hc hpc => h2 c hc hpc)
        rcases h1 with h1 | h1
        · exact .inl h1.1
        · exact .inr h1
      have hsize : w.heap.size ≤ w'.heap.size := by
        rcases hgr with h | ⟨p, _, h⟩ <;> exact h.size
      have hsame : ∀ k, k < w.heap.size → (∀ p ∈ pl.cons i, pl.fp p (val p) ≠ some k) → w'.heap[k]? = w.heap[k]? := by
        intro k hk hne
        rcases hgr with h | ⟨p, hp, h⟩
        · exact h.block k hk (by simp)
        · exact h.block k hk (fun e => hne p hp e.symm)
      have hbase : ∀ k, k < pl.B → w'.heap[k]? = w.heap[k]? := by
        intro k hk
        refine hsame k (by omega) fun p hp e => ?_
        have := ((hF p (hcl p hp)).2 k e).1
        omega
      have hos : w'.os = w.os ∧ w'.tape = w.tape ∧ w'.output = w.output := by
        rcases hgr with h | ⟨p, _, h⟩ <;> exact ⟨h.os, h.tape, h.output⟩
      have hvi : ∀ p, p ≠ i → (if p = i then v else val p) = val p := fun p hp => by rw [if_neg hp]
      have hliveU : ∀ p, p ≠ i → live ops pl (upd D i) p → live ops pl D p ∧ p ∉ pl.cons i := by
        rintro p hp ⟨h1, h2⟩
        refine ⟨⟨?_, fun c hc => h2 c (by simp [upd, hc])⟩, h2 i (by simp [upd])⟩
        rcases h1 with h1 | h1
        · left; simpa [upd, hp] using h1
        · exact .inr h1
      have hkeep : ∀ p, p ≠ i → live ops pl (upd D i) p → pl.F p (val p) w' ∧ ∀ b, pl.fp p (val p) = some b → pl.B ≤ b ∧ b < w'.heap.size := by
        intro p hp hl
        obtain ⟨hl1, hnc⟩ := hliveU p hp hl
        obtain ⟨f1, f2⟩ := hF p hl1
        refine ⟨hstable p (val p) w w' f1 hBw hbase (fun k hk => hsame k (f2 k hk).2 fun q hq e => ?_) hsize, fun b hb => ⟨(f2 b hb).1, Nat.lt_of_lt_of_le (f2 b hb).2 hsize⟩⟩
        have := hdis p q k hl1 (hcl q hq) hk e
        exact hnc (this ▸ hq)
      refine ⟨?_, ?_, ?_, ?_, ?_, ?_, fun p => if p = i then v else val p, ?_, ?_, ?_, ?_⟩
      · intro j o' hD ho' e he hb
        by_cases e' : j = i
        · subst e'
          rw [ho] at ho'; cases ho'
          have := hready e he hb
          simp [upd, this]
        · have hDj : D j = true := by simpa [upd, e'] using hD
          have := hdown j o' hDj ho' e he hb
          simp [upd, this]
      · intro j hD
        by_cases e' : j = i
        · subst e'; exact hi
        · exact hDlt j (by simpa [upd, e'] using hD)
      · unfold Act.put; split <;> simp [hsz]
      · unfold Act.put; split <;> simp [hdf]
      · intro t ht
        have h1 : dstOf ops i ≠ some t := ht i (by simp [upd])
        have h2 := hold t (fun j hj => ht j (by simp [upd, hj]))
        rw [← h2]
        unfold Act.put
        split
        · rename_i d hd
          rw [hd] at h1
          show (a.tmps.setIfInBounds d v)[t]? = _
          rw [Array.getElem?_setIfInBounds_ne (by intro e; exact h1 (by rw [e]))]
        · rfl
      · exact hbel.trans ⟨hos.1, hos.2.1, hos.2.2, hsize, hbase⟩
      · intro p hp
        show (if p = i then v else val p) = _
        rw [if_neg (by omega)]
        exact hiv p hp
      · intro j d hD hd
        by_cases e' : j = i
        · subst e'
          show (a.put (dstOf ops j) v).tmps[d]? = some (if j = j then v else val j)
          rw [hd, if_pos rfl]
          show (a.tmps.setIfInBounds d v)[d]? = _
          rw [Array.getElem?_setIfInBounds_self, if_pos (by rw [hsz]; exact dlt hd)]
        · show (a.put (dstOf ops i) v).tmps[d]? = some (if j = i then v else val j)
          rw [if_neg e']
          have hDj : D j = true := by simpa [upd, e'] using hD
          have h2 := hval j d hDj hd
          rw [← h2]
          unfold Act.put
          split
          · rename_i d' hd'
            show (a.tmps.setIfInBounds d' v)[d]? = _
            rw [Array.getElem?_setIfInBounds_ne (by intro e; subst e; exact e' (dinj hd hd'))]
          · rfl
      · intro p hl
        by_cases e' : p = i
        · subst e'
          simp only [if_true]
          exact ⟨hFi, fun b hb => (hfpi b hb).1⟩
        · simp only [e', if_false]
          exact hkeep p e' hl
      · intro p q b hlp hlq hp hq
        by_cases e1 : p = i
        · by_cases e2 : q = i
          · rw [e1, e2]
          · exfalso
            simp only [e1, e2, if_true, if_false] at hp hq
            obtain ⟨hl1, hnc⟩ := hliveU q e2 hlq
            have hb := ((hF q hl1).2 b hq).2
            rcases (hfpi b hp).2 with h | ⟨p', hp', h⟩
            · omega
            · have := hdis q p' b hl1 (hcl p' hp') hq h
              exact hnc (this ▸ hp')
        · by_cases e2 : q = i
          · exfalso
            simp only [e1, e2, if_true, if_false] at hp hq
            obtain ⟨hl1, hnc⟩ := hliveU p e1 hlp
            have hb := ((hF p hl1).2 b hp).2
            rcases (hfpi b hq).2 with h | ⟨p', hp', h⟩
            · omega
            · have := hdis p p' b hl1 (hcl p' hp') hp h
              exact hnc (this ▸ hp')
          · simp only [e1, e2, if_false] at hp hq
            exact hdis p q b (hliveU p e1 hlp).1 (hliveU q e2 hlq).1 hp hq
  · -- the end
    rintro D a w hall ⟨hdown, hDlt, hsz, hdf, hold, hbel, val, hiv, hval, hF, hdis⟩
    have ha : a = { tmps := final ops a0.tmps val, defers := a0.defers } := by
      have : a.tmps = final ops a0.tmps val := by
        refine Array.ext_getElem? fun t => ?_
        obtain ⟨h1, h2⟩ := final_at hdst a0.tmps (Nat.le_refl _) val t
        by_cases hex : ∃ i, i < ops.size ∧ dstOf ops i = some t
        · obtain ⟨i, hi, hd⟩ := hex
          rw [h1 i hi hd]
          exact hval i t (hall i hi) hd
        · have hno : ∀ i, i < ops.size → dstOf ops i ≠ some t := fun i hi hd => hex ⟨i, hi, hd⟩
          rw [h2 hno]
          exact hold t (fun i hD => hno i (hDlt i hD))
      cases a
      simp only at this hdf
      rw [this, hdf]
    rw [ha]
    have hlv : ∀ p, p < ops.size + pl.m → (∀ c, c < ops.size → p ∉ pl.cons c) → live ops pl D p := by
      intro p hp hc
      refine ⟨?_, fun c hDc => hc c (hDlt c hDc)⟩
      by_cases h : p < ops.size
      · exact .inl (hall p h)
      · exact .inr ⟨by omega, hp⟩
    exact hend val w hiv hbel (fun p hp hc => hF p (hlv p hp hc)) (fun p q b hp hq hcp hcq => hdis p q b (hlv p hp hcp) (hlv q hq hcq))
  · exact Nat.le_trans (List.length_filter_le _ _) (by simp)
  · have e0 : ∀ j, (Array.replicate ops.size false).getD j false = false := by
      intro j; simp [Array.getD]
    refine ⟨?_, ?_, rfl, rfl, fun _ _ => rfl, (Below.refl _ _).drew, pl.iv, fun _ _ => rfl, ?_, ?_, ?_⟩
    · intro i o h; exact absurd (h.symm.trans (e0 i)) (by simp)
    · intro i h; exact absurd (h.symm.trans (e0 i)) (by simp)
    · intro i d h; exact absurd (h.symm.trans (e0 i)) (by simp)
    · intro p hl
      rcases hl.1 with h | h
      · exact absurd (h.symm.trans (e0 p)) (by simp)
      · exact ⟨hstable p _ w0 _ (hini p h.1 h.2).1 hB (fun _ _ => rfl) (fun _ _ => rfl) (Nat.le_refl _), (hini p h.1 h.2).2⟩
    · intro p q b hp hq h1 h2
      rcases hp.1 with h | h
      · exact absurd (h.symm.trans (e0 p)) (by simp)
      · rcases hq.1 with h' | h'
        · exact absurd (h'.symm.trans (e0 q)) (by simp)
        · exact hinid p q b h.1 h.2 h'.1 h'.2 h1 h2
end
end Go.RG
