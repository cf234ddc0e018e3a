import Derived.Test.YtkmehmgocelkiaaDoorVpA
namespace Go.Proofs.YtkmehmgocelkiaaDoor
open Go.AV Go.RowKit

/-! ### the document's side -/
def s6Before (a b : V6) : Bool := if a.Kind ≠ b.Kind then decide (a.Kind < b.Kind) else if a.Kind = 3 then Op.bytesLess a.S b.S else decide (a.N < b.N)
theorem bl_step {a b : Str} {i : Nat} (h1 : i < a.length) (h2 : i < b.length) : Op.bytesLess (a.drop i) (b.drop i) = (decide (a[i] < b[i]) || (a[i] == b[i] && Op.bytesLess (a.drop (i + 1)) (b.drop (i + 1)))) := by
  rw [List.drop_eq_getElem_cons h1, List.drop_eq_getElem_cons h2]
  simp only [Op.bytesLess]
theorem bl_endL {a b : Str} {i : Nat} (h1 : a.length ≤ i) (h2 : i ≤ b.length) : Op.bytesLess (a.drop i) (b.drop i) = decide (i < b.length) := by
  rw [List.drop_of_length_le h1]
  by_cases h : i < b.length
  · rw [List.drop_eq_getElem_cons h]; simp [Op.bytesLess, h]
  · rw [List.drop_of_length_le (by omega)]; simp [Op.bytesLess, h]
theorem bl_endR {a b : Str} {i : Nat} (h2 : b.length ≤ i) : Op.bytesLess (a.drop i) (b.drop i) = false := by
  rw [List.drop_of_length_le h2]
  cases a.drop i <;> rfl
theorem bAt_nat {s : Str} {i : Nat} (h : i < s.length) : bAt s (i : Int) = (s[i].toNat : Int) := by
  unfold bAt
  rw [Int.toNat_natCast, List.getElem?_eq_getElem h]; rfl
theorem pBefore (a b : V6) (h1 : a.S.length ≤ 1000) (h2 : b.S.length ≤ 1000) : ref06_Before_o a b (s6Before a b) := by
  apply ref06_Before_i
  refine ⟨fun c => ?_, fun c => ⟨fun c3 => ?_, fun c3 => ?_⟩⟩
  · have c : a.Kind ≠ b.Kind := by simpa using c
    simp [s6Before, c]
  · have c : a.Kind = b.Kind := by simpa using c
    have c3 : a.Kind = 3 := by simpa using c3
    have hs : s6Before a b = Op.bytesLess a.S b.S := by simp [s6Before, ← c, c3]
    rw [hs]
    refine lp1 (fun (x : Int) => ∃ i : Nat, x = (i : Int) ∧ i ≤ a.S.length ∧ i ≤ b.S.length ∧ Op.bytesLess a.S b.S = Op.bytesLess (a.S.drop i) (b.S.drop i)) (fun (x : Int) => a.S.length - x.toNat) ?_ ⟨0, rfl, by omega, by omega, rfl⟩
    rintro X x ⟨i, rfl, hi1, hi2, he⟩ hX
    rw [he]
    simp only [ref06_Before_L1i, ref06_Before_J2i]
    by_cases l1 : i < a.S.length
    · by_cases l2 : i < b.S.length
      · have t1 : ((i : Int) < a.S.length) := by omega
        have t2 : ((i : Int) < b.S.length) := by omega
        simp only [t1, t2, decide_true]
        refine ⟨fun _ => ⟨fun _ => ⟨(by refine ⟨?_, ?_⟩ <;> first | trivial | omega), (by refine ⟨?_, ?_⟩ <;> first | trivial | omega), ?_⟩, fun q => (by cases q)⟩, fun q => (by cases q)⟩
        rw [bAt_nat l1, bAt_nat l2, bl_step l1 l2]
        refine ⟨fun d => ⟨(by refine ⟨?_, ?_⟩ <;> first | trivial | omega), (by refine ⟨?_, ?_⟩ <;> first | trivial | omega), ?_⟩, fun d => ?_⟩
        · have d0 : ¬ (a.S[i].toNat : Int) = b.S[i].toNat := by simpa using d
          have d : ¬ a.S[i].toNat = b.S[i].toNat := by omega
          have d' : ¬ a.S[i] = b.S[i] := fun e => d (by rw [e])
          rw [Bool.eq_iff_iff]
          simp [d', UInt8.lt_iff_toNat_lt]
        · have d : a.S[i] = b.S[i] := by
            have d0 : (a.S[i].toNat : Int) = b.S[i].toNat := by simpa using d
            have : a.S[i].toNat = b.S[i].toNat := by omega
            exact UInt8.toNat_inj.1 this
          rw [wrap64 (by omega) (by omega)]
          refine hX _ ⟨i + 1, by omega, by omega, by omega, ?_⟩ (by omega)
          rw [he, bl_step l1 l2]
          have hlt : ¬ b.S[i] < b.S[i] := Nat.lt_irrefl _
          simp [d, hlt]
      · have t1 : ((i : Int) < a.S.length) := by omega
        have t2 : ¬ ((i : Int) < b.S.length) := by omega
        simp only [t1, t2, decide_true, decide_false]
        refine ⟨fun _ => ⟨fun q => (by cases q), fun _ => ?_⟩, fun q => (by cases q)⟩
        rw [bl_endR (by omega)]
        simp; omega
    · have t1 : ¬ ((i : Int) < a.S.length) := by omega
      simp only [t1, decide_false]
      refine ⟨fun q => (by cases q), fun _ => ⟨fun q => (by cases q), fun _ => ?_⟩⟩
      rw [bl_endL (by omega) hi2]
      rw [Bool.eq_iff_iff]; simp; omega
  · have c : a.Kind = b.Kind := by simpa using c
    have c3 : ¬ a.Kind = 3 := by simpa using c3
    simp [s6Before, ← c, c3]
theorem pBool6 (b : Bool) : ref06_boolean_o b (v6 (bV b)) := by
  unfold ref06_boolean_o; cases b <;> simp [cnd, bV, v6]
theorem pAdd6 {a b : Int} (ha : Rg a) (hb : Rg b) : ref06_add_o a b (if inR (a + b) then a + b else 0) (inR (a + b)) := by
  apply ref06_add_i
  simp only [ref06_add_oi, ref06_add_J1i]
  have hi := inR_iff (a + b)
  unfold Rg at ha hb hi
  have w1 : 0 < b → IntKind.i64.wrap (9223372036854775807 - b) = 9223372036854775807 - b := fun h => wrap64 (by omega) (by omega)
  have w2 : b < 0 → IntKind.i64.wrap (-9223372036854775808 - b) = -9223372036854775808 - b := fun h => wrap64 (by omega) (by omega)
  have w3 : Rg (a + b) → IntKind.i64.wrap (a + b) = a + b := fun h => by unfold Rg at h; exact wrap64 (by omega) (by omega)
  unfold Rg at w3
  have yes : Rg (a + b) → cnd false ((0 : Int) = (if inR (a + b) then a + b else 0) ∧ false = inR (a + b)) (IntKind.i64.wrap (a + b) = (if inR (a + b) then a + b else 0) ∧ true = inR (a + b)) := fun h => by
    unfold Rg at h
    refine ⟨fun q => (by cases q), fun _ => ?_⟩
    rw [if_pos (hi.2 h), w3 h, hi.2 h]; exact ⟨rfl, rfl⟩
  have no : ¬ Rg (a + b) → cnd true ((0 : Int) = (if inR (a + b) then a + b else 0) ∧ false = inR (a + b)) (IntKind.i64.wrap (a + b) = (if inR (a + b) then a + b else 0) ∧ true = inR (a + b)) := fun h => by
    unfold Rg at h
    refine ⟨fun _ => ?_, fun q => (by cases q)⟩
    have : inR (a + b) = false := by rw [← Bool.not_eq_true]; exact fun q => h (hi.1 q)
    rw [this]; exact ⟨rfl, rfl⟩
  unfold Rg at yes no
  refine ⟨fun c => ?_, fun c => ?_⟩
  · have c : 0 < b := by simpa using c
    rw [w1 c]
    refine ⟨fun d => no ?_, fun d => ⟨fun e => ?_, fun e => yes ?_⟩⟩
    · have d : 9223372036854775807 - b < a := by simpa using d
      omega
    · have e : b < 0 := by simpa using e
      omega
    · have d : ¬ 9223372036854775807 - b < a := by simpa using d
      omega
  · have c : ¬ 0 < b := by simpa using c
    refine ⟨fun e => ?_, fun e => yes ?_⟩
    · have e : b < 0 := by simpa using e
      rw [w2 e]
      by_cases d : a < -9223372036854775808 - b
      · simp only [d, decide_true]; exact no (by omega)
      · simp only [d, decide_false]; exact yes (by omega)
    · have e : ¬ b < 0 := by simpa using e
      omega
theorem mul_test {a b : Int} (ha : Rg a) (hb : Rg b) (h0 : b ≠ 0) (h1 : ¬ (b = -1 ∧ a = -9223372036854775808)) (h2 : ¬ (a = -1 ∧ b = -9223372036854775808)) : (IntKind.i64.wrap ((IntKind.i64.wrap (a * b)).tdiv b) == a) = inR (a * b) := by
  have hr := rg_wrap (a * b)
  by_cases hi : inR (a * b) = true
  · have hi' := (inR_iff _).1 hi
    have : IntKind.i64.wrap (a * b) = a * b := by unfold Rg at hi'; exact wrap64 (by omega) (by omega)
    rw [this, Int.mul_tdiv_cancel _ h0, hi]
    have : IntKind.i64.wrap a = a := by unfold Rg at ha; exact wrap64 (by omega) (by omega)
    rw [this]; simp
  · have hi' : ¬ Rg (a * b) := fun q => hi ((inR_iff _).2 q)
    have hf : inR (a * b) = false := by simpa using hi
    rw [hf]
    simp only [beq_eq_false_iff_ne, ne_eq]
    intro he
    obtain ⟨k, hk⟩ : ∃ k : Int, IntKind.i64.wrap (a * b) = a * b - k * 18446744073709551616 := by
      rw [wrap64_eq]
      have := Int.emod_add_mul_ediv (a * b) 18446744073709551616
      split
      · exact ⟨a * b / 18446744073709551616 + 1, by omega⟩
      · exact ⟨a * b / 18446744073709551616, by omega⟩
    generalize hn : IntKind.i64.wrap (a * b) = n at *
    have hnb : ¬ (n = -9223372036854775808 ∧ b = -1) := by
      rintro ⟨e1, e2⟩
      subst e2
      unfold Rg at ha hi'
      omega
    have hd := tdiv_rg (b := b) hr hnb
    have hw : IntKind.i64.wrap (n.tdiv b) = n.tdiv b := by unfold Rg at hd; exact wrap64 (by omega) (by omega)
    rw [hw] at he
    have e1 := Int.mul_tdiv_add_tmod n b
    rw [he] at e1
    have e2 : (n.tmod b).natAbs < b.natAbs := by
      rw [Int.natAbs_tmod]; exact Nat.mod_lt _ (by omega)
    have e3 : b * a = a * b := Int.mul_comm b a
    unfold Rg at hb
    have hk0 : k = 0 := by omega
    subst hk0
    unfold Rg at hr hi'
    omega
theorem pTimes6 {a b : Int} (ha : Rg a) (hb : Rg b) : ∃ n, ref06_times_o a b n (inR (a * b)) ∧ (inR (a * b) = true → n = a * b) := by
  by_cases z : a = 0 ∨ b = 0
  · refine ⟨0, ?_, fun _ => ?_⟩
    · have e : inR (a * b) = true := by rcases z with rfl | rfl <;> simp [inR]
      rw [e]
      apply ref06_times_i
      simp only [ref06_times_oi, ref06_times_J1i]
      rcases z with rfl | rfl
      · simp [cnd]
      · simp [cnd]
    · rcases z with rfl | rfl <;> simp
  · have za : a ≠ 0 := fun e => z (.inl e)
    have zb : b ≠ 0 := fun e => z (.inr e)
    by_cases m : (b = -1 ∧ a = -9223372036854775808) ∨ (a = -1 ∧ b = -9223372036854775808)
    · have e : inR (a * b) = false := by rcases m with ⟨rfl, rfl⟩ | ⟨rfl, rfl⟩ <;> decide
      refine ⟨0, ?_, fun q => (by rw [e] at q; cases q)⟩
      rw [e]
      apply ref06_times_i
      simp only [ref06_times_oi, ref06_times_J1i, ref06_times_J2i]
      rcases m with ⟨rfl, rfl⟩ | ⟨rfl, rfl⟩ <;> simp [cnd]
    · refine ⟨IntKind.i64.wrap (a * b), ?_, fun q => ?_⟩
      · have t := mul_test ha hb zb (fun q => m (.inl q)) (fun q => m (.inr q))
        apply ref06_times_i
        simp only [ref06_times_oi, ref06_times_J1i, ref06_times_J2i]
        have fin : zb = zb := rfl
        have leaf : cnd false ((0 : Int) = IntKind.i64.wrap (a * b) ∧ false = inR (a * b)) (b ≠ 0 ∧ True ∧ (IntKind.i64.wrap ((IntKind.i64.wrap (a * b)).tdiv b) == a) = inR (a * b)) := ⟨fun q => (by cases q), fun _ => ⟨zb, trivial, t⟩⟩
        have b1 : (b == -1) = true → (a == -9223372036854775808) = false := fun q => by
          have : b = -1 := by simpa using q
          simp only [beq_eq_false_iff_ne, ne_eq]
          exact fun e => m (.inl ⟨this, e⟩)
        have b2 : (a == -1) = true → (b == -9223372036854775808) = false := fun q => by
          have : a = -1 := by simpa using q
          simp only [beq_eq_false_iff_ne, ne_eq]
          exact fun e => m (.inr ⟨this, e⟩)
        have z1 : (a == 0) = false := by simpa using za
        have z2 : (b == 0) = false := by simpa using zb
        rw [z1, z2]
        refine ⟨fun q => (by cases q), fun _ => ⟨fun q => (by cases q), fun _ => ⟨fun c => ?_, fun c => ⟨fun d => ?_, fun _ => leaf⟩⟩⟩⟩
        · rw [b2 c]
          exact ⟨fun q => (by cases q), fun _ => ⟨fun d => (by rw [b1 d]; exact leaf), fun _ => leaf⟩⟩
        · rw [b1 d]; exact leaf
      · have := (inR_iff _).1 q
        unfold Rg at this; exact wrap64 (by omega) (by omega)
/-! ### comparisons -/
theorem cS_0 {a b : Str} : cS a b = 0 ↔ a = b := by
  unfold cS
  have := bl_irrefl b
  rcases bl_total a b with h | rfl | h
  · rw [if_pos h]; refine ⟨fun q => (by cases q), ?_⟩; rintro rfl; rw [h] at this; cases this
  · simp [this]
  · have hn : ¬ Op.bytesLess a b = true := fun q => by have := bl_trans _ _ _ q h; rw [bl_irrefl] at this; cases this
    have he : ¬ a = b := fun e => by subst e; rw [h] at this; cases this
    simp [hn, he]
theorem cS_neg {a b : Str} : cS a b < 0 ↔ Op.bytesLess a b = true := by
  unfold cS; split
  · rename_i h; simp [h]
  · rename_i h; split <;> simp [h]
theorem cS_pos {a b : Str} : 0 < cS a b ↔ Op.bytesLess b a = true := by
  have hi := bl_irrefl b
  unfold cS
  rcases bl_total a b with h | rfl | h
  · have hn : ¬ Op.bytesLess b a = true := fun q => by have := bl_trans _ _ _ h q; rw [bl_irrefl] at this; cases this
    simp [h, hn]
  · simp [hi]
  · have hn : ¬ Op.bytesLess a b = true := fun q => by have := bl_trans _ _ _ q h; rw [bl_irrefl] at this; cases this
    have he : ¬ a = b := fun e => by subst e; rw [h] at hi; cases hi
    simp [hn, he, h]
theorem cI_iff {a b : Int} : (cI a b = 0 ↔ a = b) ∧ (cI a b < 0 ↔ a < b) ∧ (0 < cI a b ↔ b < a) := by
  unfold cI
  split
  · refine ⟨by omega, by omega, by omega⟩
  · split <;> refine ⟨by omega, by omega, by omega⟩
theorem sCmp_0 {a b : V} : sCmp a b = 0 ↔ a = b := by
  unfold sCmp sOr
  have h1 := (cI_iff (a := a.Kind) (b := b.Kind)).1
  have h2 := (cI_iff (a := a.N) (b := b.N)).1
  have h3 := cS_0 (a := a.S) (b := b.S)
  cases a; cases b
  simp only [T_value_Value.mk.injEq]
  simp only at h1 h2 h3
  split
  · rename_i c; exact ⟨fun q => absurd q c, fun q => absurd (h1.2 q.1) c⟩
  · rename_i c
    have c := Decidable.not_not.1 c
    split
    · rename_i d; exact ⟨fun q => absurd q d, fun q => absurd (h2.2 q.2.1) d⟩
    · rename_i d
      have d := Decidable.not_not.1 d
      rw [h3]; exact ⟨fun q => ⟨h1.1 c, h2.1 d, q⟩, fun q => q.2.2⟩
theorem good_cmp {a b : V} (ha : good a) (hb : good b) : (sCmp a b < 0 ↔ s6Before (v6 a) (v6 b) = true) ∧ (0 < sCmp a b ↔ s6Before (v6 b) (v6 a) = true) := by
  have h1 := cI_iff (a := a.Kind) (b := b.Kind)
  have h2 := cI_iff (a := a.N) (b := b.N)
  have h3 := cS_neg (a := a.S) (b := b.S)
  have h4 := cS_pos (a := a.S) (b := b.S)
  have hs : ∀ {u v : V}, good u → good v → u.Kind = v.Kind → (u.Kind = 3 → u.N = v.N) ∧ (¬ u.Kind = 3 → u.S = v.S) := by
    intro u v hu hv e
    unfold good at hu hv
    refine ⟨fun k => ?_, fun k => ?_⟩
    · rcases hu with h | h | h | h <;> rcases hv with h' | h' | h' | h' <;> omega
    · rcases hu with h | h | h | h <;> rcases hv with h' | h' | h' | h' <;> first | (rw [h.2.2, h'.2.2]; done) | omega
  unfold sCmp sOr s6Before v6
  simp only
  by_cases hk : a.Kind = b.Kind
  · have hk0 := h1.1.2 hk
    obtain ⟨e3, e4⟩ := hs ha hb hk
    rw [hk0]
    simp only [ne_eq, not_true_eq_false, if_false, hk]
    by_cases k3 : b.Kind = 3
    · have hn0 := h2.1.2 (e3 (by omega))
      rw [hn0]
      simp only [not_true_eq_false, if_false, k3, if_true]
      exact ⟨h3, h4⟩
    · have es := e4 (by omega)
      simp only [k3, if_false]
      have hc : cS a.S b.S = 0 := cS_0.2 es
      rw [hc]
      by_cases hn : cI a.N b.N = 0
      · have e1 := h2.2.1
        have e2 := h2.2.2
        simp only [hn, not_true_eq_false, if_false, decide_eq_true_eq] at *
        exact ⟨by omega, by omega⟩
      · simp only [hn, not_false_eq_true, if_true]
        exact ⟨by rw [h2.2.1]; simp, by rw [h2.2.2]; simp⟩
  · have hn : ¬ cI a.Kind b.Kind = 0 := fun q => hk (h1.1.1 q)
    have hk' : ¬ b.Kind = a.Kind := fun q => hk q.symm
    simp only [ne_eq, hn, not_false_eq_true, if_true, hk, hk']
    exact ⟨by rw [h1.2.1]; simp, by rw [h1.2.2]; simp⟩
end Go.Proofs.YtkmehmgocelkiaaDoor
