import Derived.Test.YteoohihaibgplaaChQa
namespace Go.Proofs.Yteoohihaibgplaa
open Go.AV Go.RowKit

/-! ### the document's expressions -/
mutual
def dep : E6 → Nat
  | .mk _ _ _ _ _ L => 1 + deps L
def deps : List E6 → Nat
  | [] => 0
  | x :: r => max (dep x) (deps r)
end
theorem deps_app (x : E6) : ∀ (l : List E6), deps (l ++ [x]) = max (deps l) (dep x)
  | [] => by simp [deps]
  | y :: l => by simp only [List.cons_append, deps, deps_app x l]; omega
theorem dep_eq (m : E6) : dep m = 1 + deps m.L := by cases m; simp [dep, T_ref15_Expr.L]
theorem deps_mem {x : E6} : ∀ {l : List E6}, x ∈ l → dep x ≤ deps l
  | y :: l, h => by
    simp only [deps]
    rcases List.mem_cons.1 h with rfl | h
    · omega
    · have := deps_mem h; omega
inductive WF : E6 → Prop
  | mk (m : E6) (h : m.L.length ≤ 3) (hn : Rg m.V.N) (hs : ∀ y ∈ m.L, WF y) : WF m
theorem pDepth {m : E6} (h : WF m) : dep m ≤ 1000 → ref15_Depth_o m (dep m) := by
  induction h with
  | mk m h hn hs ih =>
    intro hd
    intro Xr hXr
    apply hXr
    apply ref15_Depth_Bm
    refine lp2 (fun (d i : Int) => 0 ≤ i ∧ i ≤ m.L.length ∧ d = 1 + (deps (m.L.take i.toNat) : Nat)) (fun _ (i : Int) => m.L.length - i.toNat) ?_ ⟨by omega, by omega, by simp [deps]⟩
    intro X d i ⟨h0, h1, h2⟩ hX hlen
    rw [dep_eq] at hd
    refine ⟨fun hlt => ?_, fun hge => ?_⟩
    · have hlt : i < m.L.length := by simpa using hlt
      have hi : i.toNat < m.L.length := by omega
      have hm : m.L[i.toNat] ∈ m.L := List.getElem_mem hi
      have hdm := deps_mem hm
      have e1 : m.L.take (i + 1).toNat = m.L.take i.toNat ++ [m.L[i.toNat]] := by
        have : (i + 1).toNat = i.toNat + 1 := by omega
        rw [this, List.take_succ_eq_append_getElem hi]
      refine ⟨h0, hlt, m.L[i.toNat], by simp [hi], dep m.L[i.toNat], ?_, ?_⟩
      · rw [e_ref]
        exact ih _ hm (by omega) Xr hXr
      · rw [wrap64 (n := i + 1) (by omega) (by omega), wrap64 (n := (dep m.L[i.toNat] : Int) + 1) (by omega) (by omega)]
        refine ⟨fun c => ?_, fun c => ?_⟩
        · have c : d ≤ dep m.L[i.toNat] := by simpa using c
          exact hX _ _ ⟨by omega, by omega, by rw [e1, deps_app]; omega⟩ (by omega)
        · have c : ¬ d ≤ dep m.L[i.toNat] := by simpa using c
          exact hX _ _ ⟨by omega, by omega, by rw [e1, deps_app]; omega⟩ (by omega)
    · have hge : ¬ i < m.L.length := by simpa using hge
      have : m.L.take i.toNat = m.L := List.take_of_length_le (by omega)
      rw [this] at h2
      rw [h2, dep_eq]; omega
def sClass (c : Int) : Int := if 97 ≤ c ∧ c ≤ 122 then 1 else if 65 ≤ c ∧ c ≤ 90 then 2 else if 48 ≤ c ∧ c ≤ 57 then 3 else if c = 95 then 4 else if c = 39 then 5 else if c = 32 ∨ c = 10 then 6 else 0
theorem pClass (c : Int) : ref14_class_o c (sClass c) := by
  apply ref14_class_i
  simp only [ref14_class_oi, ref14_class_J1i, ref14_class_J2i, ref14_class_J3i, ref14_class_J4i]
  grind [sClass, cnd]
theorem pName (s : Str) : ∃ b, ref14_Good_o s b := by
  by_cases h1 : (s.length : Int) < 1
  · refine ⟨false, ?_⟩
    apply ref14_Good_i
    exact ⟨fun _ => ⟨fun _ => rfl, fun c => (by cases c)⟩, fun c => absurd h1 (by simpa using c)⟩
  by_cases h2 : 16 < (s.length : Int)
  · refine ⟨false, ?_⟩
    apply ref14_Good_i
    exact ⟨fun c => absurd (by simpa using c) h1, fun _ => ⟨fun _ => ⟨fun _ => rfl, fun c => (by cases c)⟩, fun c => absurd h2 (by simpa using c)⟩⟩
  by_cases h3 : sClass (bAt s 0) = 1
  · have key : ∀ n i : Nat, i + n = s.length → ∃ b, ∀ X2 : Int → Prop, (∀ x2, ref14_Good_L2i s b X2 x2 → X2 x2) → X2 (i : Int) := by
      intro n
      induction n with
      | zero =>
        intro i hi
        refine ⟨true, fun X2 hX => hX _ ⟨fun c => ?_, fun _ => rfl⟩⟩
        simp at c; omega
      | succ n ih =>
        intro i hi
        by_cases hc : sClass (bAt s i) = 1 ∨ sClass (bAt s i) = 3 ∨ sClass (bAt s i) = 4
        · obtain ⟨b, hb⟩ := ih (i + 1) (by omega)
          refine ⟨b, fun X2 hX => hX _ ⟨fun _ => ⟨⟨by omega, by omega⟩, _, pClass _, ?_⟩, fun c => (by simp at c; omega)⟩⟩
          have hn : X2 (IntKind.i64.wrap ((i : Int) + 1)) := by
            rw [wrap64 (by omega) (by omega)]
            exact_mod_cast hb X2 hX
          simp only [ref14_Good_J3i]
          grind [cnd]
        · refine ⟨false, fun X2 hX => hX _ ⟨fun _ => ⟨⟨by omega, by omega⟩, _, pClass _, ?_⟩, fun c => (by simp at c; omega)⟩⟩
          simp only [ref14_Good_J3i]
          grind [cnd]
    obtain ⟨b, hb⟩ := key s.length 0 (by omega)
    refine ⟨b, ?_⟩
    apply ref14_Good_i
    exact ⟨fun c => absurd (by simpa using c) h1, fun _ => ⟨fun c => absurd (by simpa using c) h2, fun _ => ⟨⟨by omega, by omega⟩, _, pClass _, ⟨fun c => (by simp [h3] at c), fun _ => hb⟩⟩⟩⟩
  · refine ⟨false, ?_⟩
    apply ref14_Good_i
    exact ⟨fun c => absurd (by simpa using c) h1, fun _ => ⟨fun c => absurd (by simpa using c) h2, fun _ => ⟨⟨by omega, by omega⟩, _, pClass _, ⟨fun _ => rfl, fun c => absurd (by simpa using c) h3⟩⟩⟩⟩
def sG6 (v : T_ref06_Value) : Bool := if v.Kind = 0 then v.N == 0 && v.S == [] else if v.Kind = 1 then (v.N == 0 || v.N == 1) && v.S == [] else if v.Kind = 2 then v.S == [] else if v.Kind = 3 then v.N == 0 && decide ((v.S.length : Int) ≤ 64) else false
theorem pG6 (v : T_ref06_Value) : ref06_Good_o v (sG6 v) := by
  unfold ref06_Good_o
  grind [sG6, cnd]
theorem sG6_good {v : T_ref06_Value} (h : sG6 v = true) (hr : Rg v.N) : good ⟨v.Kind, v.N, v.S⟩ := by
  unfold sG6 at h
  split at h
  · rename_i k; simp only [Bool.and_eq_true, beq_iff_eq] at h; exact .inl ⟨k, h.1, h.2⟩
  · split at h
    · rename_i k; simp only [Bool.and_eq_true, Bool.or_eq_true, beq_iff_eq] at h; exact .inr (.inl ⟨k, h.1, h.2⟩)
    · split at h
      · rename_i k; simp only [beq_iff_eq] at h; exact .inr (.inr (.inl ⟨k, hr, h⟩))
      · split at h
        · rename_i k; simp only [Bool.and_eq_true, beq_iff_eq, decide_eq_true_eq] at h; exact .inr (.inr (.inr ⟨k, h.1, by simp; omega⟩))
        · cases h
inductive OkE : E6 → Prop
  | lit (m : E6) (h : m.Kind = 1) (hl : m.L = []) (hv : good ⟨m.V.Kind, m.V.N, m.V.S⟩) : OkE m
  | col (m : E6) (h : m.Kind = 2) (hl : m.L = []) : OkE m
  | bin (m a b : E6) (h : m.Kind = 3) (hl : m.L = [a, b]) (h1 : 1 ≤ m.Op) (h14 : m.Op ≤ 14) (ha : OkE a) (hb : OkE b) : OkE m
  | un (m a : E6) (h : 4 ≤ m.Kind) (h' : m.Kind ≤ 7) (hl : m.L = [a]) (ha : OkE a) : OkE m
  | agg0 (m : E6) (h : m.Kind = 8) (hl : m.L = []) : OkE m
  | agg1 (m a : E6) (h : m.Kind = 8) (hl : m.L = [a]) (ha : OkE a) : OkE m
theorem tailMay (m : E6) (w : Bool) (hr : Rg m.V.N) (h3 : m.L.length ≤ 3) (hs : ∀ y ∈ m.L, OkE y) : ∃ b, (b = true → OkE m) ∧ ∀ Xr X1, ref15_may_L1i Xr m w b X1 (m.L.length : Int) := by
  obtain ⟨zn, hzn⟩ := pName m.Name
  obtain ⟨zt, hzt⟩ := pName m.Table
  have hg : ref06_Good_o (⟨m.V.Kind, m.V.N, m.V.S⟩ : T_ref06_Value) (sG6 m.V) := pG6 m.V
  let none' : Bool := m.V.Kind == 0 && m.V.N == 0 && m.V.S == []
  let r : Bool := if m.Kind = 1 then m.L.length == 0 && m.Op == 0 && m.Table == [] && m.Name == [] && sG6 m.V && (m.V.Kind != 2 || decide (0 ≤ m.V.N))
    else if m.Kind = 2 then m.L.length == 0 && m.Op == 0 && none' && zn && (m.Table == [] || zt)
    else if !none' || m.Table != [] || m.Name != [] then false
    else if m.Kind = 3 then m.L.length == 2 && decide (1 ≤ m.Op) && decide (m.Op ≤ 14)
    else if m.Kind = 4 ∨ m.Kind = 5 ∨ m.Kind = 6 ∨ m.Kind = 7 then m.L.length == 1 && m.Op == 0
    else if m.Kind = 8 then !w && decide (1 ≤ m.Op) && decide (m.Op ≤ 4) && (m.L.length == 1 || m.L.length == 0 && m.Op == 1)
    else false
  refine ⟨r, fun hb => ?_, fun Xr X1 => ?_⟩
  · have c0 : m.L.length = 0 → m.L = [] := fun h => List.eq_nil_of_length_eq_zero h
    have c1 : m.L.length = 1 → ∃ a, m.L = [a] := fun h => List.length_eq_one_iff.1 h
    have c2 : m.L.length = 2 → ∃ a b, m.L = [a, b] := fun h => by
      match hq : m.L, h with
      | [a, b], _ => exact ⟨a, b, rfl⟩
    simp only [r] at hb
    split at hb
    · rename_i k1
      simp only [Bool.and_eq_true] at hb
      refine .lit m k1 (c0 (by simpa using hb.1.1.1.1.1)) ?_
      exact sG6_good hb.1.2 hr
    · split at hb
      · rename_i k1
        simp only [Bool.and_eq_true] at hb
        exact .col m k1 (c0 (by simpa using hb.1.1.1.1))
      · split at hb
        · cases hb
        · split at hb
          · rename_i k1
            simp only [Bool.and_eq_true] at hb
            obtain ⟨a, b, e⟩ := c2 (by simpa using hb.1.1)
            exact .bin m a b k1 e (by simpa using hb.1.2) (by simpa using hb.2) (hs a (by simp [e])) (hs b (by simp [e]))
          · split at hb
            · rename_i k1
              simp only [Bool.and_eq_true] at hb
              obtain ⟨a, e⟩ := c1 (by simpa using hb.1)
              exact .un m a (by omega) (by omega) e (hs a (by simp [e]))
            · split at hb
              · rename_i k1
                simp only [Bool.and_eq_true, Bool.or_eq_true] at hb
                rcases hb.2 with q | q
                · obtain ⟨a, e⟩ := c1 (by simpa using q)
                  exact .agg1 m a k1 e (hs a (by simp [e]))
                · exact .agg0 m k1 (c0 (by simpa using q.1))
              · cases hb
  · intro hlen
    refine ⟨fun c => (by simp at c), fun _ => ?_⟩
    simp only [ref15_may_J3i, ref15_may_J4i, ref15_may_J5i, ref15_may_J6i, ref15_may_J7i]
    generalize hL : m.L.length = n at *
    simp only [r, none', hL]
    refine ⟨fun k => ?_, fun k => ⟨fun k2 => ?_, fun k2 => ?_⟩⟩
    · grind [cnd]
    · refine fun _ => ⟨fun a => ⟨fun b => ⟨fun c => ⟨_, hzn, ⟨fun d => ⟨fun e => ?_, fun e => ⟨_, hzt, ?_⟩⟩, fun d => ?_⟩⟩, fun c => ?_⟩, fun b => ?_⟩, fun a => ?_⟩ <;> simp_all
    · have k1 : m.Kind ≠ 1 := by simpa using k
      have k2 : m.Kind ≠ 2 := by simpa using k2
      rw [if_neg k1, if_neg k2]
      by_cases hv : m.V.Kind = 0 ∧ m.V.N = 0 ∧ m.V.S = []
      · by_cases ht : m.Table = []
        · by_cases hq : m.Name = []
          · simp only [hv.1, hv.2.1, hv.2.2, ht, hq]
            by_cases k3 : m.Kind = 3
            · simp only [k3]; clear hzn hzt hg hs; grind [cnd]
            · by_cases k4 : m.Kind = 4 ∨ m.Kind = 5 ∨ m.Kind = 6 ∨ m.Kind = 7
              · rcases k4 with k4 | k4 | k4 | k4 <;> simp only [k4] <;> clear hzn hzt hg hs <;> grind [cnd]
              · have k41 : m.Kind ≠ 4 := fun e => k4 (.inl e)
                have k42 : m.Kind ≠ 5 := fun e => k4 (.inr (.inl e))
                have k43 : m.Kind ≠ 6 := fun e => k4 (.inr (.inr (.inl e)))
                have k44 : m.Kind ≠ 7 := fun e => k4 (.inr (.inr (.inr e)))
                by_cases k8 : m.Kind = 8
                · simp only [k8]; clear hzn hzt hg hs
                  clear hL hlen hr r none' hv ht hq k41 k42 k43 k44 k4 k3 k1 k2 k
                  generalize m.Op = op
                  cases w <;> simp [cnd] <;> grind
                · clear hzn hzt hg hs; grind [cnd]
          · clear hzn hzt hg hs; simp_all [cnd]
        · clear hzn hzt hg hs; simp_all [cnd]
      · have e : ((m.V.Kind == 0) && ((m.V.N == 0) && ((m.V.S == []) && true))) = false := by
          cases hx : ((m.V.Kind == 0) && ((m.V.N == 0) && ((m.V.S == []) && true))) with
          | false => rfl
          | true => simp at hx; exact absurd hx hv
        have e' : (m.V.Kind == 0 && m.V.N == 0 && m.V.S == []) = false := by
          cases hx : (m.V.Kind == 0 && m.V.N == 0 && m.V.S == []) with
          | false => rfl
          | true => simp at hx; exact absurd ⟨hx.1.1, hx.1.2, hx.2⟩ hv
        rw [e, e']
        simp [cnd]
end Go.Proofs.Yteoohihaibgplaa
