import Derived.Test.YteoohihaibgplaaDoorEpF
namespace Go.Proofs.YteoohihaibgplaaDoor
open Go.AV Go.RowKit

theorem sLex_ok {s : Str} (h : sLex s = true) : ∃ c r, s = c :: r ∧ isS c = true ∧ ∀ d ∈ s, isR d = true := by
  cases s with
  | nil => cases h
  | cons c r =>
    simp only [sLex, Bool.and_eq_true] at h
    exact ⟨c, r, rfl, h.2.1, List.all_eq_true.1 h.2.2⟩
theorem isS_no {c : UInt8} (h : isS c = true) : c ≠ 40 ∧ c ≠ 39 ∧ isD c = false ∧ c ≠ 42 ∧ c ≠ 45 ∧ c ≠ 78 := by
  simp only [isS, Bool.and_eq_true, decide_eq_true_eq] at h
  refine ⟨?_, ?_, ?_, ?_, ?_, ?_⟩
  · rintro rfl; exact absurd h.1 (by decide)
  · rintro rfl; exact absurd h.1 (by decide)
  · unfold isD
    rw [decide_eq_false (show ¬ c.toNat ≤ 57 by omega), Bool.and_false]
  · rintro rfl; exact absurd h.1 (by decide)
  · rintro rfl; exact absurd h.1 (by decide)
  · rintro rfl; exact absurd h.1 (by decide)
theorem isD_no {c : UInt8} (h : isD c = true) : c ≠ 40 ∧ c ≠ 39 ∧ c ≠ 42 ∧ c ≠ 45 ∧ c ≠ 78 := by
  simp only [isD, Bool.and_eq_true, decide_eq_true_eq] at h
  refine ⟨?_, ?_, ?_, ?_, ?_⟩
  · rintro rfl; exact absurd h.1 (by decide)
  · rintro rfl; exact absurd h.1 (by decide)
  · rintro rfl; exact absurd h.1 (by decide)
  · rintro rfl; exact absurd h.1 (by decide)
  · rintro rfl; exact absurd h.2 (by decide)
/-- how a shown one begins -/
theorem Sh.begin {e : X} {s : Str} (h : Sh e s) : (∃ c r, s = c :: r ∧ c ≠ 42 ∧ c ≠ 45 ∧ c ≠ 78) ∨ ∃ r, s = 78 :: 85 :: r := by
  cases h with
  | lit v hv hn =>
    rcases good_cases hv with rfl | rfl | rfl | ⟨n, h, rfl⟩ | ⟨s, h, rfl⟩
    · exact .inr ⟨_, sShow_null⟩
    · exact .inl ⟨_, _, sShow_true, by decide, by decide, by decide⟩
    · exact .inl ⟨_, _, sShow_false, by decide, by decide, by decide⟩
    · obtain ⟨_, h1, h2⟩ := itoa_ok (hn rfl)
      rw [sShow_int]
      show (∃ c r, Go.Lib.itoa n = _ ∧ _) ∨ _
      cases hq : Go.Lib.itoa n with
      | nil => exact absurd hq h2
      | cons c r =>
        have := isD_no (h1 c (by show c ∈ Go.Lib.itoa n; rw [hq]; simp))
        exact .inl ⟨c, r, rfl, this.2.2.1, this.2.2.2.1, this.2.2.2.2⟩
    · rw [sShow_text h]; exact .inl ⟨39, _, rfl, by decide, by decide, by decide⟩
  | col1 n hn =>
    obtain ⟨c, r, rfl, h1, _⟩ := sLex_ok hn
    have := isS_no h1
    exact .inl ⟨c, r, rfl, this.2.2.2.1, this.2.2.2.2.1, this.2.2.2.2.2⟩
  | col2 t n hn ht =>
    obtain ⟨c, r, rfl, h1, _⟩ := sLex_ok ht
    have := isS_no h1
    exact .inl ⟨c, _, rfl, this.2.2.2.1, this.2.2.2.2.1, this.2.2.2.2.2⟩
  | bin op o a b s t h1 h2 ho ha hb => exact .inl ⟨40, _, rfl, by decide, by decide, by decide⟩
  | no a s ha => exact .inl ⟨40, _, rfl, by decide, by decide, by decide⟩
  | neg a s ha => exact .inl ⟨40, _, rfl, by decide, by decide, by decide⟩
  | isn a s ha => exact .inl ⟨40, _, rfl, by decide, by decide, by decide⟩
  | ntn a s ha => exact .inl ⟨40, _, rfl, by decide, by decide, by decide⟩
  | cnt => exact .inl ⟨67, _, rfl, by decide, by decide, by decide⟩
  | agg op o a s h1 h2 ho ha =>
    have : op.toNat = 1 ∨ op.toNat = 2 ∨ op.toNat = 3 ∨ op.toNat = 4 := by omega
    rcases this with q | q | q | q <;> rw [q] at ho <;> cases ho <;> exact .inl ⟨_, _, rfl, by decide, by decide, by decide⟩
theorem strip_no {c d : UInt8} {p r : Str} (h : c ≠ d) : strip (d :: p) (c :: r) = none := by
  unfold strip
  rw [if_neg]
  simp [List.isPrefixOf, h.symm]
theorem Sh.strips {e : X} {s : Str} (h : Sh e s) (u : Str) : strip [78, 79, 84, 32] (s ++ u) = none ∧ strip [45, 32] (s ++ u) = none ∧ strip [40, 42, 41] (40 :: (s ++ u)) = none := by
  rcases h.begin with ⟨c, r, rfl, h1, h2, h3⟩ | ⟨r, rfl⟩
  · refine ⟨strip_no h3, strip_no h2, ?_⟩
    unfold strip
    rw [if_neg]
    simp [List.isPrefixOf, h1.symm]
  · exact ⟨rfl, rfl, rfl⟩
theorem ops_read {op : Int} {o : Str} (h1 : 1 ≤ op) (h2 : op ≤ 14) (ho : ops[op.toNat]? = some o) (x : Str) : strip [32, 73, 83, 32, 78, 85, 76, 76, 41] (32 :: (o ++ 32 :: x)) = none ∧ strip [32, 73, 83, 32, 78, 79, 84, 32, 78, 85, 76, 76, 41] (32 :: (o ++ 32 :: x)) = none ∧ (o ++ 32 :: x).takeWhile n32 = o ∧ (o ++ 32 :: x).dropWhile n32 = 32 :: x ∧ idxO o = op := by
  have : op = 1 ∨ op = 2 ∨ op = 3 ∨ op = 4 ∨ op = 5 ∨ op = 6 ∨ op = 7 ∨ op = 8 ∨ op = 9 ∨ op = 10 ∨ op = 11 ∨ op = 12 ∨ op = 13 ∨ op = 14 := by omega
  rcases this with rfl | rfl | rfl | rfl | rfl | rfl | rfl | rfl | rfl | rfl | rfl | rfl | rfl | rfl <;> cases ho <;> exact ⟨rfl, rfl, rfl, rfl, rfl⟩
theorem ags_read {op : Int} {o : Str} (h1 : 1 ≤ op) (h2 : op ≤ 4) (ho : ags[op.toNat]? = some o) : (∀ c ∈ o, isU c = true) ∧ idxA o = op ∧ o ≠ [78, 85, 76, 76] ∧ o ≠ [84, 82, 85, 69] ∧ o ≠ [70, 65, 76, 83, 69] ∧ ∃ c r, o = c :: r ∧ c ≠ 40 ∧ c ≠ 39 ∧ isD c = false ∧ isS c = false := by
  have : op = 1 ∨ op = 2 ∨ op = 3 ∨ op = 4 := by omega
  rcases this with rfl | rfl | rfl | rfl <;> cases ho <;> exact ⟨by decide, rfl, by decide, by decide, by decide, _, _, rfl, by decide, by decide, by decide, by decide⟩
theorem rd_upper {P : Str → Option (X × Str)} {w u : Str} (hw : ∀ c ∈ w, isU c = true) (hu : ∀ c r, u = c :: r → isU c = false) (hc : ∃ c r, w = c :: r ∧ c ≠ 40 ∧ c ≠ 39 ∧ isD c = false ∧ isS c = false) : rd P (w ++ u) = rdU P w u := by
  obtain ⟨a, b⟩ := tw hw hu
  obtain ⟨c, r, rfl, h1, h2, h3, h4⟩ := hc
  show rd P (c :: (r ++ u)) = _
  have a' : (c :: (r ++ u)).takeWhile isU = c :: r := a
  have b' : (c :: (r ++ u)).dropWhile isU = u := b
  simp only [rd]
  rw [if_neg h1, if_neg h2, if_neg (by rw [h3]; simp), if_neg (by rw [h4]; simp), a', b']
theorem dX_pos (e : X) : 1 ≤ dX e := by rw [dX_eq]; omega
/-- what is shown is read as it was -/
theorem Sh.read {e : X} {s : Str} (h : Sh e s) : ∀ (n : Nat) (u : Str), dX e ≤ n → dl u = true → rdn n (s ++ u) = some (e, u) := by
  induction h with
  | lit v hv hn =>
    intro n u hd hu
    cases n with
    | zero => have := dX_pos (.mk 1 0 v [] [] []); omega
    | succ n =>
    show rd (rdn n) _ = _
    have hU := dl_out hu isU (by decide) (by decide)
    rcases good_cases hv with rfl | rfl | rfl | ⟨k, h, rfl⟩ | ⟨t, h, rfl⟩
    · rw [sShow_null, rd_upper (by decide) hU ⟨_, _, rfl, by decide, by decide, by decide, by decide⟩]; rfl
    · rw [sShow_true, rd_upper (by decide) hU ⟨_, _, rfl, by decide, by decide, by decide, by decide⟩]; rfl
    · rw [sShow_false, rd_upper (by decide) hU ⟨_, _, rfl, by decide, by decide, by decide, by decide⟩]; rfl
    · obtain ⟨a1, a2, a3⟩ := itoa_ok (hn rfl)
      rw [sShow_int]
      have a1 : (dnum (Go.Lib.itoa k) : Int) = k := a1
      have a2 : ∀ c ∈ Go.Lib.itoa k, isD c = true := a2
      have a3 : Go.Lib.itoa k ≠ [] := a3
      generalize Go.Lib.itoa k = w at *
      obtain ⟨b1, b2⟩ := tw a2 (dl_out hu isD (by decide) (by decide))
      cases w with
      | nil => exact absurd rfl a3
      | cons c r =>
        have hc := a2 c (by simp)
        have := isD_no hc
        have b1 : (c :: (r ++ u)).takeWhile isD = c :: r := b1
        have b2 : (c :: (r ++ u)).dropWhile isD = u := b2
        show rd (rdn n) (c :: (r ++ u)) = _
        simp only [rd]
        rw [if_neg this.1, if_neg this.2.1, if_pos hc, b1, b2, a1]
    · rw [sShow_text h]
      have e1 : [39] ++ dq t ++ [39] ++ u = 39 :: (dq t ++ 39 :: u) := by simp
      rw [e1]
      simp only [rd]
      rw [if_neg (by decide), if_pos trivial, uq_dq t u (fun c r q => by
        subst q
        simp only [dl, Bool.or_eq_true, beq_iff_eq] at hu
        rcases hu with rfl | rfl <;> decide)]
      rfl
  | col1 w hw =>
    intro n u hd hu
    cases n with
    | zero => have := dX_pos (.mk 2 0 D0 [] w []); omega
    | succ n =>
    obtain ⟨c, r, rfl, h1, h2⟩ := sLex_ok hw
    have := isS_no h1
    obtain ⟨b1, b2⟩ := tw h2 (dl_out hu isR (by decide) (by decide))
    have b1 : (c :: (r ++ u)).takeWhile isR = c :: r := b1
    have b2 : (c :: (r ++ u)).dropWhile isR = u := b2
    show rd (rdn n) (c :: (r ++ u)) = _
    simp only [rd]
    rw [if_neg this.1, if_neg this.2.1, if_neg (by rw [this.2.2.1]; simp), if_pos h1, b1, b2]
    cases u with
    | nil => rfl
    | cons d q =>
      have hd : d ≠ 46 := by
        simp only [dl, Bool.or_eq_true, beq_iff_eq] at hu
        rcases hu with rfl | rfl <;> decide
      simp only [rdN]
      rw [if_neg hd]
  | col2 t w hw ht =>
    intro n u hd hu
    cases n with
    | zero => have := dX_pos (.mk 2 0 D0 t w []); omega
    | succ n =>
    obtain ⟨_, _, _, _, h2⟩ := sLex_ok hw
    obtain ⟨c, r, rfl, h1, h3⟩ := sLex_ok ht
    have := isS_no h1
    obtain ⟨b1, b2⟩ := tw h2 (dl_out hu isR (by decide) (by decide))
    obtain ⟨d1, d2⟩ := tw (u := 46 :: (w ++ u)) h3 (fun c r q => by cases q; decide)
    have e1 : c :: r ++ [46] ++ w ++ u = c :: (r ++ 46 :: (w ++ u)) := by simp
    have d1 : (c :: (r ++ 46 :: (w ++ u))).takeWhile isR = c :: r := d1
    have d2 : (c :: (r ++ 46 :: (w ++ u))).dropWhile isR = 46 :: (w ++ u) := d2
    rw [e1]
    show rd (rdn n) (c :: (r ++ 46 :: (w ++ u))) = _
    simp only [rd]
    rw [if_neg this.1, if_neg this.2.1, if_neg (by rw [this.2.2.1]; simp), if_pos h1, d1, d2]
    simp only [rdN]
    rw [if_pos trivial, b1, b2]
  | bin op o a b s t h1 h2 ho ha hb i1 i2 =>
    intro n u hd hu
    rw [_root_.Go.Proofs.YteoohihaibgplaaDoor.d2] at hd
    cases n with
    | zero => omega
    | succ n =>
    have e1 : [40] ++ s ++ [32] ++ o ++ [32] ++ t ++ [41] ++ u = 40 :: (s ++ (32 :: (o ++ 32 :: (t ++ 41 :: u)))) := by simp
    obtain ⟨s1, s2, _⟩ := ha.strips (32 :: (o ++ 32 :: (t ++ 41 :: u)))
    obtain ⟨o1, o2, o3, o4, o5⟩ := ops_read h1 h2 ho (t ++ 41 :: u)
    rw [e1]
    show rd (rdn n) (40 :: _) = _
    simp only [rd, if_true]
    simp only [rdP]
    rw [s1, s2, i1 n _ (by omega) rfl]
    simp only
    rw [o1, o2]
    simp only [List.drop_succ_cons, List.drop_zero]
    rw [o3, o4, o5]
    simp only [List.drop_succ_cons, List.drop_zero]
    rw [i2 n _ (by omega) rfl]
    rfl
  | no a s ha ih =>
    intro n u hd hu
    rw [_root_.Go.Proofs.YteoohihaibgplaaDoor.d1] at hd
    cases n with
    | zero => omega
    | succ n =>
    have e1 : [40, 78, 79, 84, 32] ++ s ++ [41] ++ u = 40 :: ([78, 79, 84, 32] ++ (s ++ 41 :: u)) := by simp
    rw [e1]
    show rd (rdn n) (40 :: _) = _
    simp only [rd, if_true]
    simp only [rdP]
    rw [strip_app]
    simp only
    rw [ih n _ (by omega) rfl]
    rfl
  | neg a s ha ih =>
    intro n u hd hu
    rw [_root_.Go.Proofs.YteoohihaibgplaaDoor.d1] at hd
    cases n with
    | zero => omega
    | succ n =>
    have e1 : [40, 45, 32] ++ s ++ [41] ++ u = 40 :: ([45, 32] ++ (s ++ 41 :: u)) := by simp
    have e2 : strip [78, 79, 84, 32] ([45, 32] ++ (s ++ 41 :: u)) = none := rfl
    rw [e1]
    show rd (rdn n) (40 :: _) = _
    simp only [rd, if_true]
    simp only [rdP]
    rw [e2, strip_app]
    simp only
    rw [ih n _ (by omega) rfl]
    rfl
  | isn a s ha ih =>
    intro n u hd hu
    rw [_root_.Go.Proofs.YteoohihaibgplaaDoor.d1] at hd
    cases n with
    | zero => omega
    | succ n =>
    have e1 : [40] ++ s ++ [32, 73, 83, 32, 78, 85, 76, 76, 41] ++ u = 40 :: (s ++ ([32, 73, 83, 32, 78, 85, 76, 76, 41] ++ u)) := by simp
    obtain ⟨s1, s2, _⟩ := ha.strips ([32, 73, 83, 32, 78, 85, 76, 76, 41] ++ u)
    rw [e1]
    show rd (rdn n) (40 :: _) = _
    simp only [rd, if_true]
    simp only [rdP]
    rw [s1, s2, ih n _ (by omega) rfl]
    simp only
    rw [strip_app]
  | ntn a s ha ih =>
    intro n u hd hu
    rw [_root_.Go.Proofs.YteoohihaibgplaaDoor.d1] at hd
    cases n with
    | zero => omega
    | succ n =>
    have e1 : [40] ++ s ++ [32, 73, 83, 32, 78, 79, 84, 32, 78, 85, 76, 76, 41] ++ u = 40 :: (s ++ ([32, 73, 83, 32, 78, 79, 84, 32, 78, 85, 76, 76, 41] ++ u)) := by simp
    obtain ⟨s1, s2, _⟩ := ha.strips ([32, 73, 83, 32, 78, 79, 84, 32, 78, 85, 76, 76, 41] ++ u)
    have e2 : strip [32, 73, 83, 32, 78, 85, 76, 76, 41] ([32, 73, 83, 32, 78, 79, 84, 32, 78, 85, 76, 76, 41] ++ u) = none := rfl
    rw [e1]
    show rd (rdn n) (40 :: _) = _
    simp only [rd, if_true]
    simp only [rdP]
    rw [s1, s2, ih n _ (by omega) rfl]
    simp only
    rw [e2, strip_app]
  | cnt =>
    intro n u hd hu
    cases n with
    | zero => have := dX_pos (.mk 8 1 D0 [] [] []); omega
    | succ n =>
    have e1 : [67, 79, 85, 78, 84, 40, 42, 41] ++ u = [67, 79, 85, 78, 84] ++ ([40, 42, 41] ++ u) := rfl
    show rd (rdn n) _ = _
    rw [e1, rd_upper (by decide) (fun c r q => by cases q; decide) ⟨_, _, rfl, by decide, by decide, by decide, by decide⟩]
    simp only [rdU]
    rw [if_neg (by decide), if_neg (by decide), if_neg (by decide), strip_app]
  | agg op o a s h1 h2 ho ha ih =>
    intro n u hd hu
    rw [_root_.Go.Proofs.YteoohihaibgplaaDoor.d1] at hd
    cases n with
    | zero => omega
    | succ n =>
    obtain ⟨g1, g2, g3, g4, g5, g6⟩ := ags_read h1 h2 ho
    obtain ⟨_, _, s3⟩ := ha.strips (41 :: u)
    have e1 : o ++ [40] ++ s ++ [41] ++ u = o ++ (40 :: (s ++ 41 :: u)) := by simp
    show rd (rdn n) _ = _
    rw [e1, rd_upper g1 (fun c r q => by cases q; decide) g6]
    simp only [rdU]
    rw [if_neg g3, if_neg g4, if_neg g5, s3]
    simp only [List.drop_succ_cons, List.drop_zero]
    rw [ih n _ (by omega) rfl, g2]
    rfl
theorem Sh.inj {e f : X} {s : Str} (h : Sh e s) (k : Sh f s) : e = f := by
  have a := h.read (max (dX e) (dX f)) [] (by omega) rfl
  have b := k.read (max (dX e) (dX f)) [] (by omega) rfl
  rw [a] at b
  exact (Prod.mk.inj (Option.some.inj b)).1
theorem Sh.ne {e : X} {s : Str} (h : Sh e s) : s ≠ [] := by
  rcases h.begin with ⟨c, r, rfl, _⟩ | ⟨r, rfl⟩ <;> simp
end Go.Proofs.YteoohihaibgplaaDoor
