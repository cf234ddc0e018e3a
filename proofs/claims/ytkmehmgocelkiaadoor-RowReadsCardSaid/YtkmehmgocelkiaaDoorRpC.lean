import Derived.Test.YtkmehmgocelkiaaDoorRpB
namespace Go.Proofs.YtkmehmgocelkiaaDoor
open Go.AV Go.RowKit

/-! ### packing -/
def sPack (l : List Str) : Str := l.flatMap fun s => be 4 s.length ++ s
theorem sPack_app (a b : List Str) : sPack (a ++ b) = sPack a ++ sPack b := by simp [sPack]
theorem sPack_len {l : List Str} {m : Nat} (h : ∀ s ∈ l, s.length ≤ m) : (sPack l).length ≤ l.length * (m + 4) := by
  induction l with
  | nil => simp [sPack]
  | cons s l ih =>
    have e : sPack (s :: l) = (be 4 s.length ++ s) ++ sPack l := rfl
    have h1 := h s (List.mem_cons_self ..)
    have h2 := ih fun t ht => h t (List.mem_cons_of_mem _ ht)
    rw [e, List.length_append, List.length_append, be_len, List.length_cons, Nat.succ_mul]; omega
theorem pPack {l : List Str} (hl : l.length ≤ 1000) (h : ∀ s ∈ l, s.length ≤ 10000) : pack_Pack_o l (sPack l) := by
  apply pack_Pack_i
  intro _
  refine lp2 (fun (x : Int) (y : List Int) => ∃ i : Nat, x = i ∧ i ≤ l.length ∧ y = (sPack (l.take i)).map ofB) (fun (x : Int) (_ : List Int) => l.length - x.toNat) ?_ ⟨0, rfl, by omega, by simp [sPack]⟩
  rintro X x y ⟨i, rfl, hi, rfl⟩ hX
  have hb := sPack_len (l := l.take i) (m := 10000) fun s hs => h s (List.mem_of_mem_take hs)
  rw [List.length_take] at hb
  have hb2 : (sPack (l.take i)).length ≤ 100000000 := by
    have : min i l.length * (10000 + 4) ≤ 1000 * (10000 + 4) := Nat.mul_le_mul_right _ (by omega)
    omega
  simp only [pack_Pack_L1i]
  refine ⟨fun c => ?_, fun c => ?_⟩
  · have c : (i : Int) < l.length := by simpa using c
    have hlt : i < l.length := by omega
    have hs := h l[i] (List.getElem_mem hlt)
    have w4 : IntKind.i64.wrap ((i : Int) + 1) = ((i + 1 : Nat) : Int) := by rw [wrap64 (by omega) (by omega)]; omega
    have w5 : IntKind.u64.wrap ((l[i].length : Nat) : Int) = ((l[i].length : Nat) : Int) := wrapu64 (by omega) (by omega)
    refine ⟨by omega, c, l[i], by rw [Int.toNat_natCast]; exact List.getElem?_eq_getElem hlt, tl l[i].length 4, ?_, ?_, ?_, ?_, ?_, ?_⟩
    · rw [w5]; exact pWide (k := 4) (by decide)
    · rw [List.length_map]; omega
    · rw [tl_len]; omega
    · rw [List.length_append, List.length_map, tl_len]; omega
    · omega
    · rw [w4]
      refine hX _ _ ⟨i + 1, rfl, by omega, ?_⟩ (by omega)
      rw [List.take_succ_eq_append_getElem hlt, sPack_app, List.map_append, tl_be, List.append_assoc]
      simp [sPack]
  · have c : ¬ (i : Int) < l.length := by simpa using c
    rw [List.take_of_length_le (by omega), toB_ofB]
/-! ### what is packed splits -/
theorem spl_mono : ∀ {n : Nat} {s : Str} {m : Nat}, s.length ≤ n → n ≤ m → spl m s = spl n s := by
  intro n
  induction n with
  | zero =>
    intro s m hs _
    have : s = [] := List.eq_nil_of_length_eq_zero (by omega)
    subst this
    cases m <;> simp [spl]
  | succ n ih =>
    intro s m hs hm
    cases m with
    | zero => omega
    | succ m =>
      simp only [spl]
      split
      · rfl
      · split
        · rfl
        · split
          · rfl
          · rename_i h1 h2 h3
            rw [ih (s := s.drop (4 + num (s.take 4))) (m := m) (by rw [List.length_drop]; omega) (by omega)]
theorem sSplit_cons {t u : Str} (h : t.length < 4294967296) : sSplit ((be 4 t.length ++ t) ++ u) = (sSplit u).map (t :: ·) := by
  have hb : (be 4 t.length).length = 4 := be_len _ _
  have e1 : ((be 4 t.length ++ t) ++ u).take 4 = be 4 t.length := by rw [List.append_assoc, List.take_append_of_le_length (by omega), List.take_of_length_le (by omega)]
  have e2 : num (be 4 t.length) = t.length := by rw [num_be]; exact Nat.mod_eq_of_lt h
  have e3 : ((be 4 t.length ++ t) ++ u).drop 4 = t ++ u := by rw [List.append_assoc, List.drop_append_of_le_length (by omega), List.drop_of_length_le (by omega)]; rfl
  have e4 : ((be 4 t.length ++ t) ++ u).drop (4 + t.length) = u := by rw [← List.drop_drop, e3]; simp
  have hl : ((be 4 t.length ++ t) ++ u).length = (t.length + u.length + 3) + 1 := by rw [List.length_append, List.length_append, hb]; omega
  have hne : ¬ (be 4 t.length ++ t) ++ u = [] := fun q => by rw [q] at hl; simp at hl
  have es : sSplit ((be 4 t.length ++ t) ++ u) = spl ((t.length + u.length + 3) + 1) ((be 4 t.length ++ t) ++ u) := by rw [← hl]; rfl
  rw [es, spl.eq_2, if_neg hne, if_neg (by rw [hl]; omega), e1, e2, if_neg (by rw [hl]; omega), e4, e3, spl_mono (n := u.length) (Nat.le_refl _) (by omega)]
  simp [sSplit]
theorem sSplit_pack {l : List Str} (h : ∀ s ∈ l, s.length < 4294967296) : sSplit (sPack l) = some l := by
  induction l with
  | nil => rfl
  | cons s l ih =>
    have e : sPack (s :: l) = (be 4 s.length ++ s) ++ sPack l := rfl
    rw [e, sSplit_cons (h s (List.mem_cons_self ..)), ih fun t ht => h t (List.mem_cons_of_mem _ ht)]; rfl
theorem pack_spl : ∀ {n : Nat} {s : Str} {l : List Str}, spl n s = some l → sPack l = s ∧ ∀ t ∈ l, t.length ≤ s.length := by
  intro n
  induction n with
  | zero =>
    intro s l h
    simp only [spl] at h
    split at h
    · rename_i e; cases h; subst e; exact ⟨rfl, fun t ht => by cases ht⟩
    · cases h
  | succ n ih =>
    intro s l h
    simp only [spl] at h
    split at h
    · rename_i e; cases h; subst e; exact ⟨rfl, fun t ht => by cases ht⟩
    · split at h
      · cases h
      · split at h
        · cases h
        · rename_i h1 h2 h3
          rw [Option.map_eq_some_iff] at h
          obtain ⟨l', hl', rfl⟩ := h
          obtain ⟨i1, i2⟩ := ih hl'
          have hk : (s.take 4).length = 4 := by rw [List.length_take]; omega
          have ht : ((s.drop 4).take (num (s.take 4))).length = num (s.take 4) := by rw [List.length_take, List.length_drop]; omega
          refine ⟨?_, ?_⟩
          · show (be 4 ((s.drop 4).take (num (s.take 4))).length ++ (s.drop 4).take (num (s.take 4))) ++ sPack l' = s
            rw [ht, i1]
            have := be_num (s.take 4)
            rw [hk] at this
            rw [this, ← List.drop_drop, List.append_assoc, List.take_append_drop, List.take_append_drop]
          · intro t ht'
            rcases List.mem_cons.1 ht' with rfl | hm
            · rw [ht]; omega
            · have := i2 t hm
              rw [List.length_drop] at this; omega
theorem sSplit_len {s : Str} {l : List Str} (h : sSplit s = some l) : l.length ≤ s.length := by
  have h1 := (pack_spl h).1
  rw [← h1]
  clear h h1
  induction l with
  | nil => simp
  | cons t l ih =>
    have e : sPack (t :: l) = (be 4 t.length ++ t) ++ sPack l := rfl
    rw [e, List.length_append, List.length_append, be_len, List.length_cons]; omega
end Go.Proofs.YtkmehmgocelkiaaDoor
