import Derived.Test.YtkmehmgocelkiaaDoorVpB
namespace Go.Proofs.YtkmehmgocelkiaaDoor
open Go.AV Go.RowKit

/-! ### both sides' operators -/
theorem goodN {a : V} (h : good a) : Rg a.N := by
  unfold good at h; unfold Rg at *
  rcases h with h | h | h | h <;> omega
theorem goodS {a : V} (h : good a) : a.S.length ≤ 64 := by
  unfold good at h
  rcases h with h | h | h | h
  · rw [h.2.2]; simp
  · rw [h.2.2]; simp
  · rw [h.2.2]; simp
  · exact h.2.2
theorem v6_eq {a b : V} : (((v6 a).Kind == (v6 b).Kind) && (((v6 a).N == (v6 b).N) && (((v6 a).S == (v6 b).S) && true))) = eqV a b := rfl
theorem v6_D0 : (⟨0, 0, []⟩ : V6) = v6 D0 := rfl
theorem d8 {op : Int} {a b : V} (ha : good a) (hb : good b) (h1 : ¬ op < 1) (h14 : ¬ 14 < op) (hf : ¬ sFit op a b = false) :
    ref06_Do_J8i op (v6 a) (v6 b) (v6 (sDo op a b).1) (sDo op a b).2 (a.Kind == 0 || b.Kind == 0) (op == 13 || op == 14) := by
  have hop : ¬ (op < 1 ∨ 14 < op) := by omega
  simp only [ref06_Do_J8i, ref06_Do_J9i, v6_D0]
  refine ⟨fun c => ⟨_, pBool6 (op == 14), ?_⟩, fun c => ⟨fun n => ?_, fun n => ?_⟩⟩
  · have c : op = 13 ∨ op = 14 := by simpa using c
    have c1 : 13 ≤ op := by omega
    have e13 : (op == 13) = !(op == 14) := by rcases c with rfl | rfl <;> rfl
    rw [v6_eq, v6_eq, e13]
    have ob := pBool6 (!(op == 14))
    have hs : sDo op a b = (sLogic (op == 14) a b, 0) := by simp [sDo, hop, hf, c1]
    rw [hs]
    unfold sLogic
    generalize (eqV a (bV (op == 14))) = x
    generalize (eqV b (bV (op == 14))) = y
    generalize (a.Kind == 0) = p
    generalize (b.Kind == 0) = q
    cases x <;> cases y <;> cases p <;> cases q <;> simp [cnd] <;> first | exact ob | exact ⟨_, ob, rfl⟩ | rfl
  · have c : ¬ op = 13 ∧ ¬ op = 14 := by simpa using c
    have c1 : ¬ 13 ≤ op := by omega
    have n : a.Kind = 0 ∨ b.Kind = 0 := by simpa using n
    simp [sDo, hop, hf, c1, n]
  · have c : ¬ op = 13 ∧ ¬ op = 14 := by simpa using c
    have c1 : ¬ 13 ≤ op := by omega
    have n : ¬ (a.Kind = 0 ∨ b.Kind = 0) := by
      have : ¬ a.Kind = 0 ∧ ¬ b.Kind = 0 := by simpa using n
      rintro (h | h)
      · exact this.1 h
      · exact this.2 h
    have hs : sDo op a b = if op ≤ 6 then (bV (sHolds op (sCmp a b)), 0) else if op = 12 then (if 64 < a.S.length + b.S.length then (D0, 8) else (⟨3, 0, a.S ++ b.S⟩, 0)) else
        if (sRk op a.N b.N).2 ≠ 0 then (D0, (sRk op a.N b.N).2) else (⟨2, (sRk op a.N b.N).1, []⟩, 0) := by
      simp only [sDo]
      rw [if_neg hop, if_neg hf, if_neg c1, if_neg n]
    obtain ⟨g1, g2⟩ := good_cmp ha hb
    have g0 := sCmp_0 (a := a) (b := b)
    have bf1 := pBefore (v6 a) (v6 b) (by have := goodS ha; show a.S.length ≤ 1000; omega) (by have := goodS hb; show b.S.length ≤ 1000; omega)
    have bf2 := pBefore (v6 b) (v6 a) (by have := goodS hb; show b.S.length ≤ 1000; omega) (by have := goodS ha; show a.S.length ≤ 1000; omega)
    generalize hx : s6Before (v6 a) (v6 b) = x at *
    generalize hy : s6Before (v6 b) (v6 a) = y at *
    have cmp : ∀ k : Int, op = k → 1 ≤ k → k ≤ 6 → ∀ t : Bool, t = sHolds k (sCmp a b) → ∃ z, ref06_boolean_o t z ∧ z = v6 (sDo op a b).1 ∧ 0 = (sDo op a b).2 := by
      intro k e k1 k6 t ht
      refine ⟨_, pBool6 t, ?_⟩
      rw [hs, if_pos (by omega), e, ht]; exact ⟨rfl, rfl⟩
    refine ⟨fun c => ?_, fun k1 => ⟨fun c => ?_, fun k2 => ⟨fun c => ⟨_, bf1, ?_⟩, fun k3 => ⟨fun c => ⟨_, bf2, ?_⟩, fun k4 => ⟨fun c => ⟨_, bf2, ?_⟩, fun k5 => ⟨fun c => ⟨_, bf1, ?_⟩, fun k6 => ?_⟩⟩⟩⟩⟩⟩
    · refine cmp 1 (by simpa using c) (by omega) (by omega) _ ?_
      rw [v6_eq, Bool.eq_iff_iff, eqV_iff, ← g0]; simp [sHolds]
    · refine cmp 2 (by simpa using c) (by omega) (by omega) _ ?_
      rw [v6_eq, Bool.eq_iff_iff]
      have := eqV_iff (a := a) (b := b)
      rw [← g0] at this
      simp [sHolds, ← this]
    · refine cmp 3 (by simpa using c) (by omega) (by omega) _ ?_
      rw [Bool.eq_iff_iff, ← g1]; simp [sHolds]
    · refine cmp 4 (by simpa using c) (by omega) (by omega) _ ?_
      rw [Bool.eq_iff_iff]; simp only [Bool.not_eq_true', ← Bool.not_eq_true, ← g2]; simp [sHolds]
    · refine cmp 5 (by simpa using c) (by omega) (by omega) _ ?_
      rw [Bool.eq_iff_iff, ← g2]; simp [sHolds]
    · refine cmp 6 (by simpa using c) (by omega) (by omega) _ ?_
      rw [Bool.eq_iff_iff]; simp only [Bool.not_eq_true', ← Bool.not_eq_true, ← g1]; simp [sHolds]
    · simp only [beq_eq_false_iff_ne, ne_eq] at k1 k2 k3 k4 k5 k6
      have h6 : ¬ op ≤ 6 := by omega
      have rN := goodN ha
      have rM := goodN hb
      rw [if_neg h6] at hs
      have sa := goodS ha
      have sb := goodS hb
      refine ⟨fun c => ?_, fun k12 => ?_⟩
      · have c : op = 12 := by simpa using c
        rw [if_pos c] at hs
        refine ⟨by show a.S.length + b.S.length ≤ _; omega, fun d => ?_, fun d => ⟨by show a.S.length + b.S.length ≤ _; omega, ?_⟩⟩
        · have d : (64 : Int) < (a.S ++ b.S).length := of_decide_eq_true d
          rw [List.length_append] at d
          rw [hs, if_pos (by omega)]; exact ⟨rfl, rfl⟩
        · have d : ¬ (64 : Int) < (a.S ++ b.S).length := of_decide_eq_false d
          rw [List.length_append] at d
          rw [hs, if_neg (by omega)]; exact ⟨rfl, rfl⟩
      · simp only [beq_eq_false_iff_ne, ne_eq] at k12
        rw [if_neg k12] at hs
        have j10 : ∀ (n : Int) (ok : Bool), (ok = true → sRk op a.N b.N = (n, 0)) → (ok = false → sRk op a.N b.N = (0, 8)) → ref06_Do_J10i (v6 (sDo op a b).1) (sDo op a b).2 n ok := by
          intro n ok h1 h2
          simp only [ref06_Do_J10i, v6_D0]
          cases ok with
          | true => rw [hs, h1 rfl]; exact ⟨fun q => (by cases q), fun _ => ⟨rfl, rfl⟩⟩
          | false => rw [hs, h2 rfl]; exact ⟨fun _ => ⟨rfl, rfl⟩, fun q => (by cases q)⟩
        refine ⟨fun c => ?_, fun k7 => ⟨fun c => ?_, fun k8 => ⟨fun c => ?_, fun k9 => ⟨fun c => ?_, fun kz => ?_⟩⟩⟩⟩
        · have c : op = 7 := by simpa using c
          refine ⟨_, _, pAdd6 rN rM, j10 _ _ (fun q => ?_) (fun q => ?_)⟩
          · have q : inR (a.N + b.N) = true := q
            simp [sRk, c, q, v6]
          · have q : inR (a.N + b.N) = false := q
            simp [sRk, c, q]
        · have c : op = 8 := by simpa using c
          refine ⟨fun d => ?_, fun d => ?_⟩
          · have d : b.N = -9223372036854775808 := by simpa [v6] using d
            have hi := inR_iff (a.N - b.N)
            show ref06_Do_J10i _ _ (IntKind.i64.wrap (a.N - b.N)) (decide (a.N < 0))
            unfold Rg at hi rN
            refine j10 _ _ (fun q => ?_) (fun q => ?_)
            · have q : a.N < 0 := by simpa using q
              have : inR (a.N - b.N) = true := hi.2 (by omega)
              simp [sRk, c, this]
              exact (wrap64 (by omega) (by omega)).symm
            · have q : ¬ a.N < 0 := by simpa using q
              have : ¬ inR (a.N - b.N) = true := fun h => by have := hi.1 h; omega
              simp [sRk, c, this]
          · have d : ¬ b.N = -9223372036854775808 := by simpa [v6] using d
            unfold Rg at rM
            have hw : IntKind.i64.wrap (0 - (v6 b).N) = -b.N := by
              show IntKind.i64.wrap (0 - b.N) = _
              rw [wrap64 (by omega) (by omega)]; omega
            rw [hw]
            have hR : Rg (-b.N) := by unfold Rg; omega
            refine ⟨_, _, pAdd6 rN hR, ?_⟩
            have e : (v6 a).N + -b.N = a.N - b.N := by show a.N + -b.N = _; omega
            rw [e]
            refine j10 _ _ (fun q => ?_) (fun q => ?_)
            · simp [sRk, c, q]
            · simp [sRk, c, q]
        · have c : op = 9 := by simpa using c
          obtain ⟨n, t1, t2⟩ := pTimes6 rN rM
          refine ⟨_, _, t1, j10 _ _ (fun q => ?_) (fun q => ?_)⟩
          · have q' : inR (a.N * b.N) = true := q
            have t3 : n = a.N * b.N := t2 q
            simp [sRk, c, q', t3]
          · have q : inR (a.N * b.N) = false := q
            simp [sRk, c, q]
        · have c : b.N = 0 := by simpa [v6] using c
          simp only [beq_eq_false_iff_ne, ne_eq] at k7 k8 k9
          rw [hs]
          simp [sRk, k7, k8, k9, c]
        · have kz : ¬ b.N = 0 := by simpa [v6] using kz
          simp only [beq_eq_false_iff_ne, ne_eq] at k7 k8 k9
          have hrk : sRk op a.N b.N = if op = 11 then (a.N.tmod b.N, 0) else if a.N = -9223372036854775808 ∧ b.N = -1 then (0, 8) else (a.N.tdiv b.N, 0) := by
            simp only [sRk, k7, k8, k9, kz, if_false]
          refine ⟨fun c => ⟨fun d => ?_, fun d => ?_⟩, fun c => ⟨fun d => ⟨kz, ?_⟩, fun d => ⟨kz, ?_⟩⟩⟩
          · have c : b.N = -1 := by simpa [v6] using c
            have d : op = 11 := by simpa using d
            rw [hs, hrk, if_pos d, c]
            have : a.N.tmod (-1) = 0 := by rw [Int.tmod_neg, Int.tmod_one]
            rw [this]; exact ⟨rfl, rfl⟩
          · have c : b.N = -1 := by simpa [v6] using c
            have d : ¬ op = 11 := by simpa using d
            refine j10 _ _ (fun q => ?_) (fun q => ?_)
            · have q : ¬ a.N = -9223372036854775808 := by simpa [v6] using q
              rw [hrk, if_neg d, if_neg (fun h => q h.1), c]
              have : a.N.tdiv (-1) = -a.N := by rw [Int.tdiv_neg, Int.tdiv_one]
              unfold Rg at rN
              rw [this]
              show _ = (IntKind.i64.wrap (0 - a.N), 0)
              rw [wrap64 (by omega) (by omega)]; simp
            · have q : a.N = -9223372036854775808 := by simpa [v6] using q
              rw [hrk, if_neg d, if_pos ⟨q, c⟩]
          · have c : ¬ b.N = -1 := by simpa [v6] using c
            have d : op = 10 := by simpa using d
            refine j10 _ _ (fun q => ?_) (fun q => (by cases q))
            have := tdiv_rg (b := b.N) rN (fun h => c h.2)
            unfold Rg at this
            rw [hrk, if_neg (by omega), if_neg (fun h => c h.2)]
            show _ = (IntKind.i64.wrap (a.N.tdiv b.N), 0)
            rw [wrap64 (by omega) (by omega)]
          · have c : ¬ b.N = -1 := by simpa [v6] using c
            have d : ¬ op = 10 := by simpa using d
            have hr := tdiv_rg (b := b.N) rN (fun h => c h.2)
            refine j10 _ _ (fun q => ?_) (fun q => (by cases q))
            rw [hrk, if_pos (by omega)]
            show _ = (IntKind.i64.wrap (a.N - IntKind.i64.wrap (IntKind.i64.wrap (a.N.tdiv b.N) * b.N)), 0)
            have e1 : IntKind.i64.wrap (a.N.tdiv b.N) = a.N.tdiv b.N := by unfold Rg at hr; exact wrap64 (by omega) (by omega)
            have e2 := Int.mul_tdiv_add_tmod a.N b.N
            have e3 : b.N * a.N.tdiv b.N = a.N.tdiv b.N * b.N := Int.mul_comm _ _
            have e4 : (a.N.tmod b.N).natAbs < b.N.natAbs := by rw [Int.natAbs_tmod]; exact Nat.mod_lt _ (by omega)
            have e5 : (a.N.tmod b.N).natAbs ≤ a.N.natAbs := by rw [Int.natAbs_tmod]; exact Nat.mod_le _ _
            have e6 : 0 ≤ a.N → 0 ≤ a.N.tmod b.N := fun h => Int.tmod_nonneg b.N h
            have e7 : a.N ≤ 0 → a.N.tmod b.N ≤ 0 := fun h => by
              have := Int.tmod_nonneg b.N (show 0 ≤ -a.N by omega)
              rw [Int.neg_tmod] at this; omega
            rw [e1]
            unfold Rg at rN
            rw [e3] at e2
            generalize a.N.tdiv b.N * b.N = p at *
            generalize a.N.tmod b.N = r at *
            rw [wrap64 (n := p) (by omega) (by omega), wrap64 (by omega) (by omega)]
            congr 1; omega
theorem pDo6 {op : Int} {a b : V} (ha : good a) (hb : good b) : ref06_Do_o op (v6 a) (v6 b) (v6 (sDo op a b).1) (sDo op a b).2 := by
  apply ref06_Do_i
  have null : ref06_Do_J1i op (v6 a) (v6 b) (v6 (sDo op a b).1) (sDo op a b).2 (a.Kind == 0 || b.Kind == 0) → ref06_Do_oi op (v6 a) (v6 b) (v6 (sDo op a b).1) (sDo op a b).2 := by
    intro h
    simp only [ref06_Do_oi]
    refine ⟨fun c => ?_, fun c => ?_⟩
    · have c : (a.Kind == 0) = true := c
      rw [c] at h; exact h
    · have c : (a.Kind == 0) = false := c
      rw [c] at h; exact h
  apply null
  by_cases h1 : op < 1
  · simp only [ref06_Do_J1i, ref06_Do_J2i, v6_D0]
    simp only [h1, decide_true]
    exact ⟨fun _ => ⟨fun _ => (by simp [sDo, h1]), fun q => (by cases q)⟩, fun q => (by cases q)⟩
  by_cases h14 : 14 < op
  · simp only [ref06_Do_J1i, ref06_Do_J2i, v6_D0]
    simp only [h1, h14, decide_true, decide_false]
    exact ⟨fun q => (by cases q), fun _ => ⟨fun _ => (by simp [sDo, h14]), fun q => (by cases q)⟩⟩
  have hop : ¬ (op < 1 ∨ 14 < op) := by omega
  -- the kinds' look
  have j7 : ref06_Do_J7i op (v6 a) (v6 b) (v6 (sDo op a b).1) (sDo op a b).2 (a.Kind == 0 || b.Kind == 0) (!sFit op a b) := by
    simp only [ref06_Do_J7i, v6_D0]
    refine ⟨fun c => ?_, fun c => ?_⟩
    · have c : sFit op a b = false := by simpa using c
      simp [sDo, hop, c]
    · have c : ¬ sFit op a b = false := by simpa using c
      have h8 := d8 ha hb h1 h14 c
      refine ⟨fun d => ?_, fun d => ?_⟩
      · rw [d] at h8; simpa using h8
      · rw [d] at h8; simpa using h8
  simp only [ref06_Do_J1i, ref06_Do_J2i]
  simp only [h1, h14, decide_false]
  refine ⟨fun q => (by cases q), fun _ => ⟨fun q => (by cases q), fun _ => ?_⟩⟩
  -- what the operator takes
  have j6 : (sTakes op ≠ 0 ∨ sFit op a b = true) → ref06_Do_J3i op (v6 a) (v6 b) (v6 (sDo op a b).1) (sDo op a b).2 (a.Kind == 0 || b.Kind == 0) false := by
    intro hx
    have core : ref06_Do_J6i op (v6 a) (v6 b) (v6 (sDo op a b).1) (sDo op a b).2 (a.Kind == 0 || b.Kind == 0) (sTakes op) := by
      by_cases t0 : sTakes op = 0
      · cases hf : sFit op a b with
        | false => rcases hx with hx | hx; exact absurd t0 hx; rw [hf] at hx; cases hx
        | true =>
          rw [hf] at j7
          simp only [ref06_Do_J6i, t0]
          exact ⟨fun q => (by cases q), fun _ => j7⟩
      · have tp : 0 < sTakes op := by unfold sTakes at *; split <;> (try split) <;> (try split) <;> omega
        simp only [ref06_Do_J6i, tp, decide_true]
        have k1 : (v6 a).Kind = a.Kind := rfl
        have k2 : (v6 b).Kind = b.Kind := rfl
        rw [k1, k2]
        unfold sFit at j7
        rw [if_neg t0] at j7
        refine ⟨fun _ => ⟨fun c => ⟨fun d => ?_, fun d => ⟨fun e => ?_, fun e => ?_⟩⟩, fun c => ⟨fun e => ?_, fun e => ?_⟩⟩, fun q => (by cases q)⟩
        · have c : (a.Kind == 0) = false := by simpa using c
          have d : (a.Kind == sTakes op) = false := by simpa using d
          rw [c, d] at j7; rw [c]; exact j7
        · have c : (a.Kind == 0) = false := by simpa using c
          have d : (a.Kind == sTakes op) = true := by simpa using d
          have e : (b.Kind == 0) = false := by simpa using e
          rw [c, d, e] at j7; rw [c, e]; exact j7
        · have c : (a.Kind == 0) = false := by simpa using c
          have d : (a.Kind == sTakes op) = true := by simpa using d
          have e : (b.Kind == 0) = true := by simpa using e
          rw [c, d, e] at j7; rw [c, e]; exact j7
        · have c : (a.Kind == 0) = true := by simpa using c
          have e : (b.Kind == 0) = false := by simpa using e
          rw [c, e] at j7 ⊢; exact j7
        · have c : (a.Kind == 0) = true := by simpa using c
          have e : (b.Kind == 0) = true := by simpa using e
          rw [c, e] at j7 ⊢; exact j7
    simp only [ref06_Do_J3i, ref06_Do_J4i, ref06_Do_J5i]
    refine ⟨fun q => (by cases q), fun _ => ⟨fun c => ⟨fun d => ⟨fun e => ?_, fun e => ?_⟩, fun d => ⟨fun e => ?_, fun e => ?_⟩⟩, fun c => ⟨fun d => ⟨fun e => ?_, fun e => ?_⟩, fun d => ⟨fun e => ?_, fun e => ?_⟩⟩⟩⟩ <;>
      (simp only [decide_eq_true_eq, decide_eq_false_iff_not, beq_iff_eq, beq_eq_false_iff_ne, ne_eq] at c d e
       first
       | omega
       | (have ht : sTakes op = 1 := by unfold sTakes; rw [if_neg (by omega), if_neg (by omega), if_pos (by omega)]
          rw [ht] at core; exact core)
       | (have ht : sTakes op = 3 := by unfold sTakes; rw [if_neg (by omega), if_pos (by omega)]
          rw [ht] at core; exact core)
       | (have ht : sTakes op = 2 := by unfold sTakes; rw [if_pos (by omega)]
          rw [ht] at core; exact core)
       | (have ht : sTakes op = 0 := by unfold sTakes; rw [if_neg (by omega), if_neg (by omega), if_neg (by omega)]
          rw [ht] at core; exact core))
  have k1 : (v6 a).Kind = a.Kind := rfl
  have k2 : (v6 b).Kind = b.Kind := rfl
  by_cases h6 : op ≤ 6
  · have t0 : sTakes op = 0 := by unfold sTakes; rw [if_neg (by omega), if_neg (by omega), if_neg (by omega)]
    have hfit : sFit op a b = (a.Kind == 0 || b.Kind == 0 || a.Kind == b.Kind) := by unfold sFit; rw [if_pos t0]
    rw [hfit] at j6
    simp only [h6, decide_true]
    refine ⟨fun _ => ⟨fun c => ?_, fun c => j6 (.inr ?_)⟩, fun q => (by cases q)⟩
    · have c : (a.Kind == 0 || b.Kind == 0) = false := by revert c; cases (a.Kind == 0 || b.Kind == 0) <;> simp
      rw [k1, k2]
      rw [c] at j6 hfit ⊢
      cases hk : (a.Kind == b.Kind) with
      | true => rw [c] at *; exact j6 (.inr (by rw [hk]; rfl))
      | false =>
        simp only [ref06_Do_J3i, v6_D0]
        refine ⟨fun _ => ?_, fun q => (by cases q)⟩
        have hfit' : sFit op a b = false := by rw [hfit, hk]; rfl
        simp [sDo, hop, hfit']
    · have c : (a.Kind == 0 || b.Kind == 0) = true := by revert c; cases (a.Kind == 0 || b.Kind == 0) <;> simp
      rw [c]; rfl
  · simp only [h6, decide_false]
    refine ⟨fun q => (by cases q), fun _ => j6 (.inl ?_)⟩
    unfold sTakes; split <;> (try split) <;> (try split) <;> omega
/-! ### what comes in; the opening look -/
abbrev LV := T_law06_Value
def told (x : LV) : V := if x.Kind % 4 = 1 then ⟨1, x.N % 2, []⟩ else if x.Kind % 4 = 2 then ⟨2, x.N, []⟩ else if x.Kind % 4 = 3 then ⟨3, 0, x.S.take 64⟩ else ⟨0, 0, []⟩
def LOk (x : LV) : Prop := 0 ≤ x.Kind ∧ x.Kind ≤ 255 ∧ Rg x.N
theorem told_good {x : LV} (h : LOk x) : good (told x) := by
  obtain ⟨h1, h2, h3⟩ := h
  unfold told good
  have : x.N % 2 = 0 ∨ x.N % 2 = 1 := by omega
  split
  · exact .inr (.inl ⟨rfl, this, rfl⟩)
  · split
    · exact .inr (.inr (.inl ⟨rfl, h3, rfl⟩))
    · split
      · exact .inr (.inr (.inr ⟨rfl, rfl, by simp; omega⟩))
      · exact .inl ⟨rfl, rfl, rfl⟩
theorem pTold {x : LV} (h : LOk x) : law06_told_o x (told x) (v6 (told x)) := by
  obtain ⟨h1, h2, h3⟩ := h
  have hk : IntKind.i64.wrap (x.Kind.tmod 4) = x.Kind % 4 := by
    rw [Int.tmod_eq_emod_of_nonneg h1]; exact wrap64 (by omega) (by omega)
  apply law06_told_i
  simp only [law06_told_oi, law06_told_J1i, hk]
  refine ⟨fun c => ?_, fun c1 => ⟨fun c => ?_, fun c2 => ⟨fun c => ⟨?_, ?_⟩, fun c3 => ?_⟩⟩⟩
  · have c : x.Kind % 4 = 1 := by simpa using c
    rw [i64_and1]; simp [told, c, v6]
  · have c : x.Kind % 4 = 2 := by simpa using c
    simp [told, c, v6]
  · split <;> omega
  · have c : x.Kind % 4 = 3 := by simpa using c
    have e : (List.take ((if (64 : Int) < (x.S.length : Int) then (64 : Int) else (x.S.length : Int)).toNat - (0 : Int).toNat) (List.drop (0 : Int).toNat x.S)) = x.S.take 64 := by
      split
      · simp
      · have : x.S.length ≤ 64 := by omega
        simp [List.take_of_length_le this]
    rw [e]; simp [told, c, v6]
  · have c1 : ¬ x.Kind % 4 = 1 := by simpa using c1
    have c2 : ¬ x.Kind % 4 = 2 := by simpa using c2
    have c3 : ¬ x.Kind % 4 = 3 := by simpa using c3
    have : x.Kind % 4 = 0 := by omega
    simp [told, c1, c2, c3, v6, this]
def sGood (v : V) : Bool := if v.Kind = 0 then eqV v D0 else if v.Kind = 1 then (v.N == 0 || v.N == 1) && v.S == [] else if v.Kind = 2 then v.S == [] else if v.Kind = 3 then v.N == 0 && decide ((v.S.length : Int) ≤ 64) else false
theorem pGoodV (v : V) : value_Value_Good_o v (sGood v) := by
  unfold value_Value_Good_o
  have e : ((v.Kind == 0) && ((v.N == 0) && ((v.S == ([] : Str)) && true))) = eqV v D0 := rfl
  rw [e]
  unfold sGood
  generalize eqV v D0 = z
  refine ⟨fun c => ?_, fun c => ⟨fun c1 => ?_, fun c1 => ⟨fun c2 => ?_, fun c2 => ⟨fun c3 => ?_, fun c3 => ?_⟩⟩⟩⟩ <;> simp only [beq_iff_eq, beq_eq_false_iff_ne, ne_eq] at * <;> grind [cnd]
def sShow (v : V) : Str := if !sGood v || v.Kind == 0 then [78, 85, 76, 76] else if eqV v (bV true) then [84, 82, 85, 69] else if v.Kind = 1 then [70, 65, 76, 83, 69] else if v.Kind = 2 then Go.Lib.itoa v.N else [39] ++ Go.Lib.replaceAll v.S [39] [39, 39] ++ [39]
theorem pShow {v : V} (hr : Rg v.N) (hl : (Go.Lib.replaceAll v.S [39] [39, 39]).length ≤ 100000) (hs : v.S.length ≤ 1000) : value_Value_Show_o v (sShow v) := by
  apply value_Value_Show_i
  simp only [value_Value_Show_oi, value_Value_Show_J1i]
  have g := pGoodV v
  have n := pNone v
  have t := pTrue v
  unfold Rg at hr
  have f : strconv_FormatInt_o v.N 10 (Go.Lib.itoa v.N) := ⟨rfl, hr.1, hr.2, rfl⟩
  have r : strings_ReplaceAll_o v.S [39] [39, 39] (Go.Lib.replaceAll v.S [39] [39, 39]) := ⟨by omega, by simp, by simp, rfl⟩
  have tail : ∀ b : Bool, (b = true → (!sGood v || v.Kind == 0) = true) → (b = false → (!sGood v || v.Kind == 0) = false) → cnd b (([78, 85, 76, 76] : Str) = sShow v) (∃ z2 : Bool, (value_Value_True_o v z2) ∧ cnd z2 (([84, 82, 85, 69] : Str) = sShow v) (cnd (v.Kind == (1 : Int)) (([70, 65, 76, 83, 69] : Str) = sShow v) (cnd (v.Kind == (2 : Int)) (∃ z3 : Str, (strconv_FormatInt_o v.N (10 : Int) z3) ∧ z3 = sShow v) (∃ z4 : Str, (strings_ReplaceAll_o v.S ([39] : Str) ([39, 39] : Str) z4) ∧ (([39] : Str).length + z4.length ≤ 9223372036854775807) ∧ ((([39] : Str) ++ z4).length + ([39] : Str).length ≤ 9223372036854775807) ∧ ((([39] : Str) ++ z4) ++ ([39] : Str)) = sShow v)))) := by
    intro b h1 h2
    refine ⟨fun e => ?_, fun e => ⟨_, t, fun c => ?_, fun c => ⟨fun c1 => ?_, fun c1 => ⟨fun c2 => ⟨_, f, ?_⟩, fun c2 => ⟨_, r, ?_, ?_, ?_⟩⟩⟩⟩⟩
    · unfold sShow; rw [if_pos (h1 e)]
    · unfold sShow; rw [h2 e, if_neg (by simp), if_pos c]
    · have c1 : v.Kind = 1 := by simpa using c1
      unfold sShow; rw [h2 e, if_neg (by simp), c, if_neg (by simp), if_pos c1]
    · have c1 : ¬ v.Kind = 1 := by simpa using c1
      have c2 : v.Kind = 2 := by simpa using c2
      unfold sShow; rw [h2 e, if_neg (by simp), c, if_neg (by simp), if_neg c1, if_pos c2]
    · simp; omega
    · simp; omega
    · have c1 : ¬ v.Kind = 1 := by simpa using c1
      have c2 : ¬ v.Kind = 2 := by simpa using c2
      unfold sShow; rw [h2 e, if_neg (by simp), c, if_neg (by simp), if_neg c1, if_neg c2]
  refine ⟨_, g, fun c => ?_, fun c => ⟨_, n, ?_⟩⟩
  · exact tail true (fun _ => by rw [c]; rfl) (fun q => (by cases q))
  · exact tail _ (fun q => by rw [q]; simp) (fun q => by rw [q, c]; rfl)
theorem pSpeaks : law06_speaks_o true := by
  apply law06_speaks_i
  have d1 := pDo (op := 7) (a := ⟨2, 2, []⟩) (b := ⟨2, 3, []⟩) (by unfold Rg; simp) (by unfold Rg; simp) (by simp) (by simp)
  have d2 := pDo (op := 13) (a := ⟨0, 0, []⟩) (b := bV false) (by unfold Rg; simp) (by unfold Rg; simp [bV]) (by simp) (by simp [bV])
  have hrep : Go.Lib.replaceAll [105, 116, 39, 115] [39] [39, 39] = [105, 116, 39, 39, 115] := by decide
  have s := pShow (v := ⟨3, 0, [105, 116, 39, 115]⟩) (by unfold Rg; simp) (by rw [hrep]; decide) (by simp)
  have e1 : sDo 7 ⟨2, 2, []⟩ ⟨2, 3, []⟩ = (⟨2, 5, []⟩, 0) := by rfl
  have e2 : sDo 13 ⟨0, 0, []⟩ (bV false) = (bV false, 0) := by rfl
  have e3 : sShow ⟨3, 0, [105, 116, 39, 115]⟩ = [39, 105, 116, 39, 39, 115, 39] := by
    unfold sShow
    rw [if_neg (by decide), if_neg (by decide), if_neg (by decide), if_neg (by decide)]
    rw [show (⟨3, 0, [105, 116, 39, 115]⟩ : V).S = [105, 116, 39, 115] from rfl, hrep]; rfl
  rw [e1] at d1; rw [e2] at d2; rw [e3] at s
  refine ⟨_, pOfInt 2, _, pOfInt 3, _, _, d1, _, pOfBool false, _, _, d2, ?_⟩
  refine ⟨fun _ => ⟨fun _ => ⟨fun _ => ⟨fun _ => ⟨_, pOfBool false, fun _ => ⟨fun _ => ⟨_, pOfText _, _, s, rfl⟩, fun q => (by simp [bV] at q)⟩, fun q => (by simp [bV] at q)⟩, fun q => (by simp at q)⟩, fun q => (by simp at q)⟩, fun q => (by simp at q)⟩, fun q => (by simp at q)⟩
theorem ValueDoes_plain {op : Int} {x y : LV} (hx : LOk x) (hy : LOk y) : law06_ValueDoes_o op x y true := by
  have gx := told_good hx
  have gy := told_good hy
  refine ⟨_, pSpeaks, fun q => (by cases q), fun _ => ⟨_, _, pTold hx, _, _, pTold hy, _, _, pDo (goodN gx) (goodN gy) (by have := goodS gx; omega) (by have := goodS gy; omega), _, _, pDo6 gx gy, fun _ => ?_, fun q => (by simp at q)⟩⟩
  simp [v6]
end Go.Proofs.YtkmehmgocelkiaaDoor
