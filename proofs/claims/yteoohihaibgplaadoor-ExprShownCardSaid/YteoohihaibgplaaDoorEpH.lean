import Derived.Test.YteoohihaibgplaaDoorEpG
namespace Go.Proofs.YteoohihaibgplaaDoor
open Go.AV Go.RowKit

theorem dXs_told : ∀ l : List E6, (∀ y ∈ l, dX (told y) = dep y) → dXs (l.map told) = deps l
  | [], _ => rfl
  | x :: r, h => by
    simp only [List.map_cons, dXs, deps]
    rw [h x (by simp), dXs_told r fun y hy => h y (by simp [hy])]
theorem told_ok {m : E6} (h : WF m) : WX (told m) ∧ dX (told m) = dep m := by
  induction h with
  | mk m h hn hs ih =>
    rw [told_eq]
    refine ⟨.mk _ (by show (m.L.map told).length ≤ 3; rw [List.length_map]; exact h) hn fun y hy => ?_, ?_⟩
    · have hy : y ∈ m.L.map told := hy
      obtain ⟨z, hz, rfl⟩ := List.mem_map.1 hy
      exact (ih z hz).1
    · rw [dX_eq, dep_eq]
      show 1 + dXs (m.L.map told) = _
      rw [dXs_told _ fun y hy => (ih y hy).2]
/-- one is shown in one way -/
theorem Sh.fn {e : X} {s : Str} (h : Sh e s) : ∀ {t : Str}, Sh e t → s = t := by
  induction h with
  | lit v hv hn => intro t k; cases k; rfl
  | col1 n hn => intro t k; cases k with
    | col1 _ _ => rfl
    | col2 _ _ _ ht => cases ht
  | col2 t0 n hn ht => intro t k; cases k with
    | col1 _ _ => cases ht
    | col2 _ _ _ _ => rfl
  | bin op o a b s t h1 h2 ho ha hb i1 i2 => intro t k; cases k with
    | bin _ o' _ _ s' t' _ _ ho' ha' hb' =>
      rw [ho] at ho'; cases ho'
      rw [i1 ha', i2 hb']
  | no a s ha ih => intro t k; cases k with
    | no _ s' ha' => rw [ih ha']
  | neg a s ha ih => intro t k; cases k with
    | neg _ s' ha' => rw [ih ha']
  | isn a s ha ih => intro t k; cases k with
    | isn _ s' ha' => rw [ih ha']
  | ntn a s ha ih => intro t k; cases k with
    | ntn _ s' ha' => rw [ih ha']
  | cnt => intro t k; cases k; rfl
  | agg op o a s h1 h2 ho ha ih => intro t k; cases k with
    | agg _ o' _ s' _ _ ho' ha' =>
      rw [ho] at ho'; cases ho'
      rw [ih ha']
theorem pShowX {e : X} {s : Str} (h : WX e) (hd : dX e ≤ 20) (hg : gX false e = true) (hs : Sh e s) : expr_Show_o e s := by
  refine ⟨true, ?_, fun q => (by cases q), fun _ => ⟨s, ?_, rfl⟩⟩
  · rw [e_expr]
    have := pGoodX h (by omega)
    rw [hg, decide_eq_true hd] at this; exact this
  · rw [e_expr]; exact pShowE hs (by omega)
def eA : X := .mk 1 0 ⟨2, 1, []⟩ [] [] []
def eB : X := .mk 2 0 D0 [97] [98] []
def e0 : X := .mk 3 7 D0 [] [] [eA, eB]
theorem wA : WX eA := .mk _ (by show 0 ≤ 3; omega) (by show Rg 1; unfold Rg; omega) (fun y hy => by cases hy)
theorem wB : WX eB := .mk _ (by show 0 ≤ 3; omega) (by show Rg 0; unfold Rg; omega) (fun y hy => by cases hy)
theorem w0 : WX e0 := .mk _ (by show 2 ≤ 3; omega) (by show Rg 0; unfold Rg; omega) (fun y hy => by
  have hy : y ∈ [eA, eB] := hy
  simp only [List.mem_cons, List.not_mem_nil, or_false] at hy
  rcases hy with rfl | rfl
  · exact wA
  · exact wB)
theorem dA : dX eA = 1 := rfl
theorem dB : dX eB = 1 := rfl
theorem d0 : dX e0 = 2 := rfl
theorem g0 : gX false e0 = true := by decide
theorem sh0 : Sh e0 [40, 49, 32, 43, 32, 97, 46, 98, 41] := by
  have a : Sh eA [49] := by
    have := Sh.lit ⟨2, 1, []⟩ (.inr (.inr (.inl ⟨rfl, by unfold Rg; simp, rfl⟩))) (fun _ => by simp)
    rw [sShow_int] at this
    have e : Go.Lib.itoa 1 = [49] := by simp [Go.Lib.itoa, Go.Lib.decDigits]
    rw [e] at this; exact this
  have b : Sh eB [97, 46, 98] := Sh.col2 [97] [98] (by decide) (by decide)
  exact Sh.bin 7 [43] eA eB [49] [97, 46, 98] (by omega) (by omega) rfl a b
theorem pSpeaks15 : law15_speaks_o true := by
  apply law15_speaks_i
  have g := pGoodX w0 (by rw [d0]; omega)
  rw [g0, d0] at g
  have dd := pDepthX w0 (by rw [d0]; omega)
  rw [d0] at dd
  have s1 := pSameX w0 w0
  rw [(eqX_iff e0 e0).2 rfl] at s1
  have s2 := pSameX w0 wA
  have sh := pShowX w0 (by rw [d0]; omega) g0 sh0
  have hne : eqX e0 eA = false := rfl
  rw [hne] at s2
  refine ⟨_, pOfInt 1, true, g, fun _ => ⟨_, sh, fun _ => ⟨2, dd, fun _ => ⟨true, s1, fun _ => ⟨by omega, by show (0 : Int) < 2; omega, eA, rfl, false, s2, rfl⟩, fun q => (by cases q)⟩, fun q => (by cases q)⟩, fun q => (by simp at q)⟩, fun q => (by cases q)⟩
theorem take_ok {l : List Pt} : 0 ≤ (0 : Int) ∧ (0 : Int) ≤ (if (30 : Int) < (l.length : Int) then (30 : Int) else (l.length : Int)) ∧ (if (30 : Int) < (l.length : Int) then (30 : Int) else (l.length : Int)) ≤ (l.length : Int) := by
  split <;> omega
theorem tslice_ok {l : List Pt} (h : ∀ p ∈ l, PtOk p) (a b : Int) : ∀ p ∈ tslice l a b, PtOk p := fun p hp => h p (List.mem_of_mem_drop (List.mem_of_mem_take hp))
theorem ExprShown_plain {a0 a1 : List Pt} (h0 : ∀ p ∈ a0, PtOk p) (h1 : ∀ p ∈ a1, PtOk p) : law15_ExprShown_o a0 a1 true := by
  apply law15_ExprShown_i
  have big : (0 : Int) + 4 ^ (25 + 1) ≤ 1152921504606846976 := by decide
  refine ⟨true, pSpeaks15, fun q => (by cases q), fun _ _ => ⟨take_ok, ?_⟩⟩
  obtain ⟨m, x, m1, m2, m3, _⟩ := pBuilt (tslice_ok h0 0 (if (30 : Int) < (a0.length : Int) then (30 : Int) else (a0.length : Int))) 25 0 rfl (by omega) 0 (by omega) big
  refine ⟨m, x, m1, fun _ => ⟨take_ok, ?_⟩⟩
  obtain ⟨n, y, n1, n2, n3, _⟩ := pBuilt (tslice_ok h1 0 (if (30 : Int) < (a1.length : Int) then (30 : Int) else (a1.length : Int))) 25 0 rfl (by omega) 0 (by omega) big
  obtain ⟨we, de⟩ := told_ok m2
  obtain ⟨wf, df⟩ := told_ok n2
  refine ⟨n, y, n1, told m, by rw [e_ref]; exact pTold m2, told n, by rw [e_ref]; exact pTold n2, _, by rw [e_expr]; exact pGoodX we (by omega), fun q => ?_, fun q => ⟨_, by rw [e_expr]; exact pGoodX wf (by omega), ?_⟩⟩
  · exact ⟨fun _ => rfl, fun q => (by cases q)⟩
  · have q : (decide (dX (told m) ≤ 20) && gX false (told m)) = true := by simpa using q
    simp only [Bool.and_eq_true, decide_eq_true_eq] at q
    obtain ⟨s, hs⟩ := Sh.of we false q.2
    cases r : (decide (dX (told n) ≤ 20) && gX false (told n)) with
    | false => exact ⟨fun _ => rfl, fun q => (by cases q)⟩
    | true =>
      simp only [Bool.and_eq_true, decide_eq_true_eq] at r
      obtain ⟨t, ht⟩ := Sh.of wf false r.2
      have p1 := pShowX we q.1 q.2 hs
      have p2 := pShowX wf r.1 r.2 ht
      have hkey : (s == t) = eqX (told m) (told n) := by
        rw [Bool.eq_iff_iff, beq_iff_eq, eqX_iff]
        constructor
        · rintro rfl; exact hs.inj ht
        · intro e
          rw [← e] at ht
          exact Sh.fn hs ht
      refine ⟨fun q => (by cases q), fun _ => ⟨s, by rw [e_expr]; exact p1, t, by rw [e_expr]; exact p2, eqX (told m) (told n), by rw [e_expr, e_expr]; exact pSameX we wf, fun _ => ⟨s, by rw [e_expr]; exact p1, ?_⟩, fun z => ?_⟩⟩
      · have := hs.ne
        simpa using this
      · rw [hkey] at z; simp at z
end Go.Proofs.YteoohihaibgplaaDoor
