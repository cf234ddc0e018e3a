import Derived.Test.YtkmehmgocelkiaaDoorRpD
namespace Go.Proofs.YtkmehmgocelkiaaDoor
open Go.AV Go.RowKit

/-! ### keys -/
def sKey (l : List V) : Str := sPack (l.map sText)
theorem w1 {i : Nat} (h : i < 1000000000) : IntKind.i64.wrap ((i : Int) + 1) = ((i + 1 : Nat) : Int) := by rw [wrap64 (by omega) (by omega)]; omega
theorem gAt {α : Type} {l : List α} {i : Nat} (h : i < l.length) : l[((i : Nat) : Int).toNat]? = some l[i] := by rw [Int.toNat_natCast]; exact List.getElem?_eq_getElem h
theorem texts_len {l : List V} (h : ∀ v ∈ l, good v) : ∀ s ∈ l.map sText, s.length ≤ 65 := by
  intro s hs
  obtain ⟨v, hv, rfl⟩ := List.mem_map.1 hs
  exact sText_len (h v hv)
theorem pKey {l : List V} (hl : l.length ≤ 1000) (h : ∀ v ∈ l, good v) : row_Key_o l (sKey l) := by
  apply row_Key_i
  intro _
  refine lp2 (fun (x : Int) (y : List Str) => ∃ i : Nat, x = i ∧ i ≤ l.length ∧ y = (l.take i).map sText) (fun (x : Int) (_ : List Str) => l.length - x.toNat) ?_ ⟨0, rfl, by omega, by simp⟩
  rintro X x y ⟨i, rfl, hi, rfl⟩ hX
  simp only [row_Key_L1i]
  refine ⟨fun c => ?_, fun c => ?_⟩
  · have c : (i : Int) < l.length := by simpa using c
    have hlt : i < l.length := by omega
    refine ⟨by omega, c, _, gAt hlt, _, pTxt (h _ (List.getElem_mem hlt)), by simp; omega, ?_⟩
    rw [w1 (by omega)]
    refine hX _ _ ⟨i + 1, rfl, by omega, ?_⟩ (by omega)
    rw [List.take_succ_eq_append_getElem hlt, List.map_append]; rfl
  · have c : ¬ (i : Int) < l.length := by simpa using c
    rw [List.take_of_length_le (by omega)]
    exact ⟨_, pPack (by simpa using hl) (fun s hs => by have := texts_len h s hs; omega), rfl⟩
def sGet (s : Str) : List V × Int := match sSplit s with
  | none => ([], 2)
  | some l => if l.all (fun t => (sRead t).2) then (l.map (fun t => (sRead t).1), 0) else ([], 4)
theorem pGet {s : Str} (h : s.length ≤ 1000000) : row_Get_o s (sGet s).1 (sGet s).2 := by
  apply row_Get_i
  refine ⟨_, _, pSplit (by omega), ?_⟩
  unfold sGet
  cases hs : sSplit s with
  | none => exact ⟨fun _ => ⟨rfl, rfl⟩, fun q => (by simp at q)⟩
  | some l =>
    refine ⟨fun q => (by simp at q), fun _ _ => ?_⟩
    have hlen := sSplit_len hs
    have hb := (pack_spl hs).2
    show ∀ X1 : Int → List V → Prop, (∀ x3 x4, row_Get_L1i _ _ l X1 x3 x4 → X1 x3 x4) → X1 0 []
    refine lp2 (fun (x : Int) (y : List V) => ∃ i : Nat, x = i ∧ i ≤ l.length ∧ y = (l.take i).map (fun t => (sRead t).1) ∧ ((l.take i).all (fun t => (sRead t).2)) = true) (fun (x : Int) (_ : List V) => l.length - x.toNat) ?_ ⟨0, rfl, by omega, by simp, by simp⟩
    rintro X x y ⟨i, rfl, hi, rfl, ha⟩ hX
    simp only [row_Get_L1i]
    refine ⟨fun c => ?_, fun c => ?_⟩
    · have c : (i : Int) < l.length := by simpa using c
      have hlt : i < l.length := by omega
      refine ⟨by omega, c, _, gAt hlt, _, _, pRead (by have := hb l[i] (List.getElem_mem hlt); omega), fun d => ?_, fun d => ⟨by simp; omega, ?_⟩⟩
      · have d : (sRead l[i]).2 = false := by simpa using d
        have : ¬ (l.all (fun t => (sRead t).2)) = true := fun q => by
          have := List.all_eq_true.1 q l[i] (List.getElem_mem hlt)
          rw [d] at this; cases this
        rw [if_neg this]; exact ⟨rfl, rfl⟩
      · have d : (sRead l[i]).2 = true := by simpa using d
        rw [w1 (by omega)]
        refine hX _ _ ⟨i + 1, rfl, by omega, ?_, ?_⟩ (by omega)
        · rw [List.take_succ_eq_append_getElem hlt, List.map_append]; rfl
        · rw [List.take_succ_eq_append_getElem hlt, List.all_append, ha]; simp [d]
    · have c : ¬ (i : Int) < l.length := by simpa using c
      rw [List.take_of_length_le (by omega)] at ha ⊢
      rw [if_pos ha]; exact ⟨rfl, rfl⟩
theorem get_key {l : List V} (h : ∀ v ∈ l, good v) : sGet (sKey l) = (l, 0) := by
  unfold sGet sKey
  rw [sSplit_pack fun s hs => by have := texts_len h s hs; omega]
  simp only
  have ha : ((l.map sText).all fun t => (sRead t).2) = true := by
    rw [List.all_eq_true]
    intro t ht
    obtain ⟨v, hv, rfl⟩ := List.mem_map.1 ht
    rw [text_read (h v hv)]
  rw [if_pos ha, List.map_map]
  congr 1
  conv => rhs; rw [← List.map_id l]
  refine List.map_congr_left fun v hv => ?_
  show (sRead (sText v)).1 = v
  rw [text_read (h v hv)]
theorem key_inj {l k : List V} (hl : ∀ v ∈ l, good v) (hk : ∀ v ∈ k, good v) (h : sKey l = sKey k) : l = k := by
  have h1 := get_key hl
  have h2 := get_key hk
  rw [h, h2] at h1
  exact (congrArg Prod.fst h1).symm
theorem key_len {l : List V} (hl : l.length ≤ 1000) (h : ∀ v ∈ l, good v) : (sKey l).length ≤ 1000000 := by
  have := sPack_len (l := l.map sText) (m := 65) (texts_len h)
  rw [List.length_map] at this
  unfold sKey
  have : l.length * (65 + 4) ≤ 1000 * (65 + 4) := Nat.mul_le_mul_right _ hl
  omega
/-! ### a row against itself -/
theorem pRowSelf {l : List V} (hl : l.length ≤ 1000) : row_Compare_o l l 0 := by
  refine ⟨0, ?_, rfl⟩
  apply slices_CompareFunc_Value_i
  intro _
  refine lp1 (fun (x : Int) => ∃ i : Nat, x = i ∧ i ≤ l.length) (fun (x : Int) => l.length - x.toNat) ?_ ⟨0, rfl, by omega⟩
  rintro X x ⟨i, rfl, hi⟩ hX
  simp only [slices_CompareFunc_Value_L1i]
  refine ⟨fun c => ?_, fun c _ _ => ⟨fun d => ?_, fun _ => trivial⟩⟩
  · have c : (i : Int) < l.length := by simpa using c
    have hlt : i < l.length := by omega
    refine ⟨by omega, c, _, gAt hlt, fun _ => ⟨fun d => ?_, fun _ => ⟨by omega, c, _, gAt hlt, _, pCompare _ _, fun d => ?_, fun _ => ?_⟩⟩⟩
    · have d : (l.length : Int) ≤ i := of_decide_eq_true d
      omega
    · rw [sCmp_0.2 rfl] at d; simp at d
    · rw [w1 (by omega)]
      exact hX _ ⟨i + 1, rfl, by omega⟩ (by omega)
  · have d : (l.length : Int) < l.length := of_decide_eq_true d
    omega
/-! ### the law's rows -/
def told9 (l : List LV) : List V := (l.take 9).map told
theorem told9_good {l : List LV} (h : ∀ x ∈ l, LOk x) : ∀ v ∈ told9 l, good v := by
  intro v hv
  obtain ⟨x, hx, rfl⟩ := List.mem_map.1 hv
  exact told_good (h x (List.mem_of_mem_take hx))
theorem told9_len (l : List LV) : (told9 l).length ≤ 9 := by simp [told9]; omega
theorem pTold9 {l : List LV} (h : ∀ x ∈ l, LOk x) : law07_told_o l (told9 l) ((told9 l).map v6) := by
  apply law07_told_i
  refine lp3 (fun (x : Int) (y : List V) (z : List V6) => ∃ i : Nat, x = i ∧ i ≤ l.length ∧ i ≤ 9 ∧ y = (l.take i).map told ∧ z = ((l.take i).map told).map v6) (fun (x : Int) (_ : List V) (_ : List V6) => l.length - x.toNat) ?_ ⟨0, rfl, by omega, by omega, by simp, by simp⟩
  rintro X x y z ⟨i, rfl, hi, hi9, rfl, rfl⟩ hX
  have done : ¬ (i < l.length ∧ i < 9) → law07_told_J2i X l (told9 l) ((told9 l).map v6) i false ((l.take i).map told) (((l.take i).map told).map v6) := by
    intro hd
    have e : l.take i = l.take 9 := by
      by_cases h9 : i = 9
      · rw [h9]
      · rw [List.take_of_length_le (show l.length ≤ i by omega), List.take_of_length_le (show l.length ≤ 9 by omega)]
    rw [e]
    exact ⟨fun q => (by cases q), fun _ => ⟨rfl, rfl⟩⟩
  simp only [law07_told_L1i]
  intro _
  refine ⟨fun c => ?_, fun c => ?_⟩
  · have c : (i : Int) < l.length := of_decide_eq_true c
    have hlt : i < l.length := by omega
    by_cases h9 : i < 9
    · have e9 : decide ((i : Int) < 9) = true := decide_eq_true (by omega)
      rw [e9]
      obtain ⟨h1, h2, h3⟩ := h _ (List.getElem_mem hlt)
      have hk : IntKind.i64.wrap (l[i].Kind.tmod 4) = l[i].Kind % 4 := by
        rw [Int.tmod_eq_emod_of_nonneg h1]; exact wrap64 (by omega) (by omega)
      have fin : ∀ n s, (⟨l[i].Kind % 4, n, s⟩ : V) = told l[i] → law07_told_J3i X i l[i] n s ((l.take i).map told) (((l.take i).map told).map v6) := by
        intro n s e
        have hl1 : ((l.take i).map told).length ≤ 1000000000 := by simp; omega
        refine ⟨hl1, by rw [List.length_map]; exact hl1, ?_⟩
        rw [w1 (by omega), hk]
        refine hX _ _ _ ⟨i + 1, rfl, by omega, by omega, ?_, ?_⟩ (by omega)
        · rw [List.take_succ_eq_append_getElem hlt, List.map_append, e]; rfl
        · rw [List.take_succ_eq_append_getElem hlt, List.map_append, List.map_append, List.map_cons, List.map_nil, ← e]; rfl
      simp only [law07_told_J2i]
      refine ⟨fun _ => ⟨by omega, c, _, gAt hlt, ?_⟩, fun q => (by cases q)⟩
      rw [hk]
      refine ⟨fun k => ⟨by omega, c, _, gAt hlt, fin _ _ ?_⟩, fun k1 => ⟨fun k => ⟨by omega, c, _, gAt hlt, fin _ _ ?_⟩, fun k2 => ⟨fun k => ⟨by omega, c, _, gAt hlt, by omega, c, _, gAt hlt, ?_, fin _ _ ?_⟩, fun k3 => fin _ _ ?_⟩⟩⟩
      · have k : l[i].Kind % 4 = 1 := by simpa using k
        rw [i64_and1]; simp [told, k]
      · have k : l[i].Kind % 4 = 2 := by simpa using k
        simp [told, k]
      · split <;> omega
      · have k : l[i].Kind % 4 = 3 := by simpa using k
        have e : (List.take ((if (64 : Int) < (l[i].S.length : Int) then (64 : Int) else (l[i].S.length : Int)).toNat - (0 : Int).toNat) (List.drop (0 : Int).toNat l[i].S)) = l[i].S.take 64 := by
          split
          · simp
          · have : l[i].S.length ≤ 64 := by omega
            simp [List.take_of_length_le this]
        rw [e]; simp [told, k]
      · have k1 : ¬ l[i].Kind % 4 = 1 := by simpa using k1
        have k2 : ¬ l[i].Kind % 4 = 2 := by simpa using k2
        have k3 : ¬ l[i].Kind % 4 = 3 := by simpa using k3
        have : l[i].Kind % 4 = 0 := by omega
        simp [told, this]
    · have e9 : decide ((i : Int) < 9) = false := decide_eq_false (by omega)
      rw [e9]; exact done (fun q => h9 q.2)
  · have c : ¬ (i : Int) < l.length := of_decide_eq_false c
    exact done (fun q => by omega)
/-! ### speaks -/
def r0V : List V := [⟨2, 1, []⟩, ⟨0, 0, []⟩]
theorem r0_good : ∀ v ∈ r0V, good v := by
  intro v hv
  simp only [r0V, List.mem_cons, List.not_mem_nil, or_false] at hv
  rcases hv with rfl | rfl
  · exact .inr (.inr (.inl ⟨rfl, by unfold Rg; simp, rfl⟩))
  · exact .inl ⟨rfl, rfl, rfl⟩
theorem pShow0 : row_Show_o r0V [40, 49, 44, 32, 78, 85, 76, 76, 41] := by
  have hrep : Go.Lib.replaceAll [] [39] [39, 39] = [] := by decide
  have s1 := pShow (v := ⟨2, 1, []⟩) (by unfold Rg; simp) (by rw [hrep]; decide) (by simp)
  have s2 := pShow (v := ⟨0, 0, []⟩) (by unfold Rg; simp) (by rw [hrep]; decide) (by simp)
  have e1 : sShow ⟨2, 1, []⟩ = [49] := by
    unfold sShow
    rw [if_neg (by decide), if_neg (by decide), if_neg (by decide), if_pos (by decide)]
    simp [Go.Lib.itoa, Go.Lib.decDigits]
  have e2 : sShow ⟨0, 0, []⟩ = [78, 85, 76, 76] := by unfold sShow; rw [if_pos (by decide)]
  rw [e1] at s1; rw [e2] at s2
  apply row_Show_i
  intro _ X hX
  apply hX
  refine ⟨fun _ => ⟨by omega, by simp [r0V], _, rfl, _, s1, by simp, ?_⟩, fun q => (by simp [r0V] at q)⟩
  rw [wrap64 (by omega) (by omega)]
  apply hX
  refine ⟨fun _ => ⟨by omega, by simp [r0V], _, rfl, _, s2, by simp, ?_⟩, fun q => (by simp [r0V] at q)⟩
  rw [wrap64 (by omega) (by omega)]
  apply hX
  refine ⟨fun q => (by simp [r0V] at q), fun _ => ⟨[49, 44, 32, 78, 85, 76, 76], ⟨by simp, by decide, by decide⟩, by simp, by simp, rfl⟩⟩
theorem pSpeaks7 : law07_speaks_o true := by
  apply law07_speaks_i
  have g := pGet (s := sKey r0V) (key_len (by simp [r0V]) r0_good)
  rw [get_key r0_good] at g
  refine ⟨_, pOfInt 1, _, pKey (l := r0V) (by simp [r0V]) r0_good, _, _, g, _, pShow0, fun _ => ⟨fun _ => ⟨fun _ => ⟨by omega, by simp [r0V], _, rfl, _, pOfInt 1, fun _ => ⟨_, pRowSelf (l := r0V) (by simp [r0V]), rfl⟩, fun q => (by simp at q)⟩, fun q => (by simp [r0V] at q)⟩, fun q => (by simp at q)⟩, fun q => (by simp at q)⟩
end Go.Proofs.YtkmehmgocelkiaaDoor
