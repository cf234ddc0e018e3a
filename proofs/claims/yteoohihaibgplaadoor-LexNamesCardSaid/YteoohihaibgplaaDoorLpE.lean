import Derived.Test.YteoohihaibgplaaDoorLpD
namespace Go.Proofs.YteoohihaibgplaaDoor
open Go.AV Go.RowKit

theorem take30 {s : Str} : (List.take ((if (30 : Int) < (s.length : Int) then (30 : Int) else (s.length : Int)).toNat - (0 : Int).toNat) (List.drop (0 : Int).toNat s)) = s.take 30 := by
  split
  · simp
  · have : s.length ≤ 30 := by omega
    simp [List.take_of_length_le this]
theorem min30 {s : Str} : 0 ≤ (0 : Int) ∧ (0 : Int) ≤ (if (30 : Int) < (s.length : Int) then (30 : Int) else (s.length : Int)) ∧ (if (30 : Int) < (s.length : Int) then (30 : Int) else (s.length : Int)) ≤ (s.length : Int) := by
  split <;> omega
theorem par_map (m : Nat) : (List.replicate m (40 : Int)).map toB = List.replicate m (40 : UInt8) := by
  rw [List.map_replicate]; rfl
/-- the second half -/
theorem half (s : Str) {n : Int} (h0 : 0 ≤ n) (h1 : n ≤ 65535) : law14_LexNames_J1i s n true (sLex (s.take 30)) (sLex (s.take 30)) := by
  have hn : (IntKind.i64.wrap n).tmod 4000 = n % 4000 := by
    rw [wrap64 (by omega) (by omega), Int.tmod_eq_emod_of_nonneg h0]
  unfold law14_LexNames_J1i
  rw [hn]
  obtain ⟨m, hm⟩ : ∃ m : Nat, (n % 4000).toNat = m := ⟨_, rfl⟩
  have hm2 : n % 4000 = (m : Int) := by omega
  rw [hm, hm2]
  refine ⟨by omega, by omega, by omega, ?_⟩
  refine lp2 (fun (x : Int) (y : List Int) => ∃ k : Nat, x = k ∧ k ≤ m ∧ y = List.replicate k (40 : Int) ++ List.replicate (m - k) (0 : Int)) (fun (x : Int) (_ : List Int) => m - x.toNat) ?_ ⟨0, rfl, by omega, rfl⟩
  rintro X x y ⟨k, rfl, hk, rfl⟩ hX
  unfold law14_LexNames_L2i
  have hl : (List.replicate k (40 : Int) ++ List.replicate (m - k) (0 : Int)).length = m := by simp; omega
  by_cases hlt : k < m
  · rw [decide_eq_true (show (k : Int) < ((List.replicate k (40 : Int) ++ List.replicate (m - k) (0 : Int)).length : Nat) by rw [hl]; omega)]
    have er : List.replicate (m - k) (0 : Int) = 0 :: List.replicate (m - (k + 1)) 0 := by
      have : m - k = (m - (k + 1)) + 1 := by omega
      rw [this]; rfl
    refine cT ⟨by omega, by rw [hl]; omega, 0, ?_, ?_⟩
    · rw [Int.toNat_natCast, List.getElem?_append_right (by simp), er]; simp
    · rw [w1 (by omega), Int.toNat_natCast]
      refine hX _ _ ⟨k + 1, rfl, by omega, ?_⟩ (by omega)
      rw [List.set_append_right _ _ (by simp), er, List.replicate_succ']
      simp
  · have e : k = m := by omega
    subst e
    rw [decide_eq_false (show ¬ (k : Int) < ((List.replicate k (40 : Int) ++ List.replicate (k - k) (0 : Int)).length : Nat) by rw [hl]; omega)]
    have e2 : List.replicate k (40 : Int) ++ List.replicate (k - k) (0 : Int) = List.replicate k 40 := by simp
    rw [e2, par_map]
    have hl2 : (List.replicate k (40 : Int)).length = k := List.length_replicate
    rw [hl2]
    have g14 := pGood14 (s := s.take 30) (by rw [List.length_take]; omega)
    by_cases hb : 2000 < k
    · refine cF ⟨[], 0, 3, split_long (by rw [List.length_replicate]; omega), ?_⟩
      rw [decide_eq_true (show (2000 : Int) < k by omega)]
      refine cT ⟨_, by rw [take30]; exact g14, ?_⟩
      have e : ∀ b : Bool, (b == b) = true := fun b => by simp
      rw [e]
      exact cT (cT (cT (cT fun _ => rfl)))
    · refine cF ⟨(List.range k).map pTok, 0, 0, split_par (by omega), ?_⟩
      rw [decide_eq_false (show ¬ (2000 : Int) < k by omega)]
      refine cF ⟨_, by rw [take30]; exact g14, ?_⟩
      have e : ∀ b : Bool, (b == b) = true := fun b => by simp
      rw [e]
      refine cT (cT (cT fun _ => ?_))
      rw [List.length_map, List.length_range]; simp
theorem LexNames_plain {s : Str} {n : Int} (h0 : 0 ≤ n) (h1 : n ≤ 65535) : law14_LexNames_o s n true := by
  apply law14_LexNames_i
  have hh := half s h0 h1
  have hl : (s.take 30).length ≤ 2000 := by rw [List.length_take]; omega
  refine ⟨true, pSpeaks14, cF ⟨min30, sLex (s.take 30), by rw [take30]; exact pLex _, ?_⟩⟩
  cases hs : sLex (s.take 30) with
  | true =>
    rw [hs] at hh
    have sn := split_name hs
    refine ⟨[⟨1, s.take 30, 0, 0⟩], 0, 0, by rw [take30]; exact sn, cT fun _ => cT ⟨by omega, by show (0 : Int) < 1; omega, ⟨1, s.take 30, 0, 0⟩, rfl, cT ⟨by omega, by show (0 : Int) < 1; omega, ⟨1, s.take 30, 0, 0⟩, rfl, ?_⟩⟩⟩
    rw [take30]
    have : (s.take 30 == s.take 30) = true := by simp
    rw [show ((⟨1, s.take 30, 0, 0⟩ : Tok).S == s.take 30) = true from this]
    exact hh
  | false =>
    rw [hs] at hh
    obtain ⟨l, a, e, k1, k2⟩ := pSplit hl
    refine ⟨l, a, e, by rw [take30]; exact k1, fun c => fun _ => ⟨fun d => ?_, fun d => hh⟩, fun c => hh⟩
    have c : e = 0 := by simpa using c
    obtain ⟨t1, _⟩ := k2 c
    have d : l.length = 1 := by
      have : (l.length : Int) = 1 := by simpa using d
      omega
    match l, d with
    | [t], _ =>
      refine ⟨by omega, by show (0 : Int) < 1; omega, t, rfl, fun z => ⟨by omega, by show (0 : Int) < 1; omega, t, rfl, ?_⟩, fun z => hh⟩
      have z : t.Kind = 1 := by simpa using z
      have hn := t1 t (by simp) z
      rw [take30]
      have : (t.S == s.take 30) = false := by
        rw [beq_eq_false_iff_ne]
        intro q
        rw [q, hs] at hn; cases hn
      rw [this]
      exact hh
end Go.Proofs.YteoohihaibgplaaDoor
