import Derived.Test.YtkmehmgocelkiaaDoorRpH
namespace Go.Proofs.YtkmehmgocelkiaaDoor
open Go.AV Go.RowKit

theorem sGet_none {s : Str} (h : sSplit s = none) : sGet s = ([], 2) := by unfold sGet; rw [h]
theorem sGet_bad {s : Str} {l : List Str} (h : sSplit s = some l) (k : l.all tOk = false) : sGet s = ([], 4) := by
  unfold sGet; rw [h]
  have : (l.all fun t => (sRead t).2) = false := by rw [← k]; congr 1; funext t; exact sRead_ok t
  simp only [this]; rfl
theorem sGet_ok {s : Str} {l : List Str} (h : sSplit s = some l) (k : l.all tOk = true) : sGet s = (l.map (fun t => (sRead t).1), 0) ∧ (∀ v ∈ l.map (fun t => (sRead t).1), good v) ∧ sKey (l.map (fun t => (sRead t).1)) = s := by
  have e : (l.all fun t => (sRead t).2) = true := by rw [← k]; congr 1; funext t; exact sRead_ok t
  refine ⟨?_, ?_, ?_⟩
  · unfold sGet; rw [h]; simp only [e]; rfl
  · intro v hv
    obtain ⟨t, ht, rfl⟩ := List.mem_map.1 hv
    exact (read_text (List.all_eq_true.1 e t ht)).1
  · unfold sKey
    rw [List.map_map]
    have : l.map (sText ∘ fun t => (sRead t).1) = l := by
      conv => rhs; rw [← List.map_id l]
      exact List.map_congr_left fun t ht => (read_text (List.all_eq_true.1 e t ht)).2
    rw [this]; exact (pack_spl h).1
theorem tail_end {l : List Str} {a1 : Str} {s z8 : Str} (hs : z8 ++ a1.take 20 = s) (hl : s.length ≤ 900) (h : sSplit s = some l) :
    ∀ X3 : Bool → Int → Prop, (∀ (x13 : Bool) (x14 : Int), law07_RowReads_L3i a1 true z8 (sGet s).1 (sGet s).2 l X3 x13 x14 → X3 x13 x14) → X3 true 0 := by
  have hlen := sSplit_len h
  refine lp2 (fun (x : Bool) (y : Int) => ∃ i : Nat, y = i ∧ i ≤ l.length ∧ x = (l.take i).all tOk) (fun (_ : Bool) (y : Int) => l.length - y.toNat) ?_ ⟨0, rfl, by omega, rfl⟩
  rintro X x y ⟨i, rfl, hi, rfl⟩ hX
  simp only [law07_RowReads_L3i]
  intro _
  refine ⟨fun c => ?_, fun c => ?_⟩
  · have c : (i : Int) < l.length := of_decide_eq_true c
    have hlt : i < l.length := by omega
    refine ⟨by omega, c, _, gAt hlt, ?_⟩
    refine look (P := law07_RowReads_J4i X ((l.take i).all tOk) (i : Int)) ?_
    have et : (l.take (i + 1)).all tOk = ((l.take i).all tOk && tOk l[i]) := by
      rw [List.take_succ_eq_append_getElem hlt, List.all_append]; simp
    rw [law07_RowReads_J4i, w1 (by omega)]
    refine ⟨fun q => hX _ _ ⟨i + 1, rfl, by omega, ?_⟩ (by omega), fun q => hX _ _ ⟨i + 1, rfl, by omega, ?_⟩ (by omega)⟩
    · rw [et, q]; rfl
    · rw [et, q]; rfl
  · have c : ¬ (i : Int) < l.length := of_decide_eq_false c
    rw [List.take_of_length_le (by omega)]
    refine ⟨fun q => ?_, fun q => ?_⟩
    · have q : l.all tOk = false := by simpa using q
      rw [sGet_bad h q]
      exact ⟨fun _ _ => rfl, fun e => (by simp at e)⟩
    · have q : l.all tOk = true := by simpa using q
      obtain ⟨h1, h2, h3⟩ := sGet_ok h q
      rw [h1]
      have hlm : (l.map (fun t => (sRead t).1)).length = l.length := List.length_map ..
      refine ⟨fun _ _ _ => ⟨fun _ => ⟨_, pKey (l := l.map (fun t => (sRead t).1)) (by omega) h2, ?_⟩, fun e => ?_⟩, fun e => (by simp at e)⟩
      · have := take_min (s := a1) (k := 20)
        rw [show ((20 : Nat) : Int) = 20 from rfl] at this
        rw [h3, this, hs]; simp
      · simp at e
theorem RowReads_plain (l : List Str) (a1 : Str) : law07_RowReads_o l a1 true := by
  apply law07_RowReads_i
  refine ⟨_, pSpeaks7, fun q => (by cases q), fun _ => ?_⟩
  -- the rest, behind the loop
  have fin : ∀ X i, law07_RowReads_J2i X l a1 true i false (sShort l) := by
    intro X i
    simp only [law07_RowReads_J2i]
    refine ⟨fun q => (by cases q), fun _ => ?_⟩
    have hsl : (sShort l).length ≤ 9 := by simp [sShort]; omega
    have hp := pPack (l := sShort l) (by omega) (fun s hs => by have := sShort_ok l s hs; omega)
    have hpl := sPack_len (l := sShort l) (m := 80) (sShort_ok l)
    have hb : (sPack (sShort l)).length ≤ 756 := by
      have : (sShort l).length * (80 + 4) ≤ 9 * (80 + 4) := Nat.mul_le_mul_right _ hsl
      omega
    have tm := take_min (s := a1) (k := 20)
    have mo := min_ok (s := a1) (k := 20)
    rw [show ((20 : Nat) : Int) = 20 from rfl] at tm mo
    have ht : (a1.take 20).length ≤ 20 := by rw [List.length_take]; omega
    have hs : (sPack (sShort l) ++ a1.take 20).length ≤ 900 := by rw [List.length_append]; omega
    have g := pGet (s := sPack (sShort l) ++ a1.take 20) (by omega)
    have g4 := pSplit4 (s := sPack (sShort l) ++ a1.take 20) (by omega)
    refine ⟨_, hp, mo, by rw [tm]; omega, (sGet (sPack (sShort l) ++ a1.take 20)).1, (sGet (sPack (sShort l) ++ a1.take 20)).2, by rw [tm]; exact g, (sp4 (sPack (sShort l) ++ a1.take 20).length (sPack (sShort l) ++ a1.take 20)).1, (sp4 (sPack (sShort l) ++ a1.take 20).length (sPack (sShort l) ++ a1.take 20)).2, by rw [tm]; exact g4, ?_⟩
    · have hsp := sp4_spl (n := (sPack (sShort l) ++ a1.take 20).length) (s := sPack (sShort l) ++ a1.take 20) (Nat.le_refl _)
      generalize hq : sp4 (sPack (sShort l) ++ a1.take 20).length (sPack (sShort l) ++ a1.take 20) = q at *
      obtain ⟨q1, q2⟩ := q
      cases q2 with
      | false =>
        rw [sGet_none hsp]
        exact ⟨fun _ => ⟨fun _ _ => rfl, fun e => (by simp at e)⟩, fun e => (by cases e)⟩
      | true =>
        exact ⟨fun e => (by cases e), fun _ => tail_end rfl hs hsp⟩
  refine lp2 (fun (x : Int) (y : List Str) => ∃ i : Nat, x = i ∧ i ≤ l.length ∧ i ≤ 9 ∧ y = (l.take i).map (·.take 80)) (fun (x : Int) (_ : List Str) => l.length - x.toNat) ?_ ⟨0, rfl, by omega, by omega, by simp⟩
  rintro X x y ⟨i, rfl, hi, hi9, rfl⟩ hX
  have done : ¬ (i < l.length ∧ i < 9) → (l.take i).map (·.take 80) = sShort l := by
    intro hd
    unfold sShort
    by_cases h9 : i = 9
    · rw [h9]
    · rw [List.take_of_length_le (show l.length ≤ i by omega), List.take_of_length_le (show l.length ≤ 9 by omega)]
  simp only [law07_RowReads_L1i]
  intro _
  refine ⟨fun c => ?_, fun c => ?_⟩
  · have c : (i : Int) < l.length := of_decide_eq_true c
    have hlt : i < l.length := by omega
    by_cases h9 : i < 9
    · rw [decide_eq_true (show (i : Int) < 9 by omega)]
      simp only [law07_RowReads_J2i]
      have tm := take_min (s := l[i]) (k := 80)
      have mo := min_ok (s := l[i]) (k := 80)
      rw [show ((80 : Nat) : Int) = 80 from rfl] at tm mo
      refine ⟨fun _ => ⟨by omega, c, _, gAt hlt, by omega, c, _, gAt hlt, mo, by simp; omega, ?_⟩, fun q => (by cases q)⟩
      rw [tm, w1 (by omega)]
      refine hX _ _ ⟨i + 1, rfl, by omega, by omega, ?_⟩ (by omega)
      rw [List.take_succ_eq_append_getElem hlt, List.map_append]; rfl
    · rw [decide_eq_false (show ¬ (i : Int) < 9 by omega), done (fun q => h9 q.2)]
      exact fin _ _
  · have c : ¬ (i : Int) < l.length := of_decide_eq_false c
    rw [done (fun q => by omega)]
    exact fin _ _
end Go.Proofs.YtkmehmgocelkiaaDoor
