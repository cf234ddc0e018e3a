import Derived.Test.YteoohihaibgplaaChQd
namespace Go.Proofs.Yteoohihaibgplaa
open Go.AV Go.RowKit
abbrev Cl := T_law20_Cell
def ClOk (p : Cl) : Prop := 0 ≤ p.Table ∧ p.Table ≤ 255 ∧ 0 ≤ p.Name ∧ p.Name ≤ 255 ∧ 0 ≤ p.Kind ∧ p.Kind ≤ 255 ∧ Rg p.N
theorem Row_snoc {a : List Fd} {c : List V} {f : Fd} {v : V} (h : Row a c) (hv : has v f.Kind) : Row (a ++ [f]) (c ++ [v]) := by
  refine ⟨by simp [h.1], fun i g w hg hw => ?_⟩
  by_cases hi : i < a.length
  · rw [List.getElem?_append_left hi] at hg
    rw [List.getElem?_append_left (by rw [h.1]; exact hi)] at hw
    exact h.2 i g w hg hw
  · rw [List.getElem?_append_right (by omega)] at hg
    rw [List.getElem?_append_right (by rw [h.1]; omega)] at hw
    rw [h.1] at hw
    cases hk : i - a.length with
    | zero => rw [hk] at hg hw; simp at hg hw; subst hg; subst hw; exact hv
    | succ k => rw [hk] at hg; simp at hg
theorem rowStep {y : Cl} (hy : ClOk y) : ∃ x18 x19 x20, has ⟨x18, x19, x20⟩ (IntKind.i64.wrap (1 + IntKind.i64.wrap (y.Kind.tmod 3))) ∧ ∀ (X1 : Int → List Fd → List T_ref20_Field → List V → List T_ref06_Value → Prop) (i : Int) a b c d, law20_row_J4i X1 i y x18 x19 x20 a b c d →
    cnd (IntKind.i64.wrap (1 + IntKind.i64.wrap (y.Kind.tmod 3)) == 1) (law20_row_J3i X1 i y (bits .and .i64 y.N 1) [] a b c d) (cnd (IntKind.i64.wrap (1 + IntKind.i64.wrap (y.Kind.tmod 3)) == 2) (law20_row_J3i X1 i y y.N [] a b c d) (cnd (IntKind.i64.wrap (1 + IntKind.i64.wrap (y.Kind.tmod 3)) == 3) ((0 ≤ (0 : Int) ∧ (0 : Int) ≤ (if (64 : Int) < (y.S.length : Int) then (64 : Int) else (y.S.length : Int)) ∧ (if (64 : Int) < (y.S.length : Int) then (64 : Int) else (y.S.length : Int)) ≤ (y.S.length : Int)) ∧ law20_row_J3i X1 i y 0 ((y.S.drop (0 : Int).toNat).take ((if (64 : Int) < (y.S.length : Int) then (64 : Int) else (y.S.length : Int)).toNat - (0 : Int).toNat)) a b c d) (law20_row_J3i X1 i y 0 [] a b c d))) := by
  obtain ⟨_, _, _, _, k0, k1, hn⟩ := hy
  have w : IntKind.i64.wrap (1 + IntKind.i64.wrap (y.Kind.tmod 3)) = 1 + y.Kind % 3 := by rw [tm k0, wrap64 (n := y.Kind % 3) (by omega) (by omega), wrap64 (by omega) (by omega)]
  rw [w]
  simp only [law20_row_J3i, w]
  by_cases hnull : y.Null = true
  · refine ⟨0, 0, [], ⟨by simp [good], .inr rfl⟩, fun X1 i a b c d q => ?_⟩
    rw [hnull]
    have q' : ∀ z, cnd true (law20_row_J4i X1 i y 0 0 [] a b c d) z := fun z => ⟨fun _ => q, fun e => (by cases e)⟩
    exact ⟨fun _ => q' _, fun _ => ⟨fun _ => q' _, fun _ => ⟨fun _ => ⟨by split <;> omega, q' _⟩, fun _ => q' _⟩⟩⟩
  · have hnull : y.Null = false := by simpa using hnull
    rw [hnull]
    have q' : ∀ {z z' : Prop}, z' → cnd false z z' := fun h => ⟨fun e => (by cases e), fun _ => h⟩
    have hk : y.Kind % 3 = 0 ∨ y.Kind % 3 = 1 ∨ y.Kind % 3 = 2 := by omega
    rcases hk with hk | hk | hk <;> simp only [hk]
    · refine ⟨1, bits .and .i64 y.N 1, [], ⟨.inr (.inl ⟨rfl, ?_, rfl⟩), .inl rfl⟩, fun X1 i a b c d q => ⟨fun _ => q' q, fun e => (by simp at e)⟩⟩
      show bits .and .i64 y.N 1 = 0 ∨ bits .and .i64 y.N 1 = 1
      rw [i64_and1]; omega
    · exact ⟨2, y.N, [], ⟨.inr (.inr (.inl ⟨rfl, hn, rfl⟩)), .inl rfl⟩, fun X1 i a b c d q => ⟨fun e => (by simp at e), fun _ => ⟨fun _ => q' q, fun e => (by simp at e)⟩⟩⟩
    · refine ⟨3, 0, _, ⟨.inr (.inr (.inr ⟨rfl, rfl, ?_⟩)), .inl rfl⟩, fun X1 i a b c d q => ⟨fun e => (by simp at e), fun _ => ⟨fun e => (by simp at e), fun _ => ⟨fun _ => ⟨by split <;> omega, q' q⟩, fun e => (by simp at e)⟩⟩⟩⟩
      show List.length _ ≤ 64
      rw [List.length_take]
      split <;> omega
theorem pRow {l : List Cl} (hl : ∀ p ∈ l, ClOk p) : ∃ r0 r1 r2 r3, law20_row_o l r0 r1 r2 r3 ∧ Row r0 r2 := by
  have key : ∀ (k : Nat) (i : Int) (a : List Fd) (b : List T_ref20_Field) (c : List V) (d : List T_ref06_Value), 0 ≤ i → i + k = 6 → Row a c → (a.length : Int) = i → (b.length : Int) = i → (d.length : Int) = i → ∃ r0 r1 r2 r3, Row r0 r2 ∧ ∀ X1 : Int → List Fd → List T_ref20_Field → List V → List T_ref06_Value → Prop, (∀ x1 x2 x3 x4 x5, law20_row_L1i l r0 r1 r2 r3 X1 x1 x2 x3 x4 x5 → X1 x1 x2 x3 x4 x5) → X1 i a b c d := by
    intro k
    induction k with
    | zero =>
      intro i a b c d h0 hi hr ha hb hd
      have hi : i = 6 := by omega
      subst hi
      refine ⟨a, b, c, d, hr, fun X1 hX => hX _ _ _ _ _ fun _ => ?_⟩
      have m : law20_row_J2i X1 l a b c d 6 false a b c d := ⟨fun e => (by cases e), fun _ => ⟨rfl, rfl, rfl, rfl⟩⟩
      exact ⟨fun _ => m, fun _ => m⟩
    | succ k ih =>
      intro i a b c d h0 hi hr ha hb hd
      by_cases hlt : i < l.length
      · have hi' : i.toNat < l.length := by omega
        have hy := hl _ (List.getElem_mem hi')
        obtain ⟨x18, x19, x20, hv, f⟩ := rowStep hy
        obtain ⟨r0, r1, r2, r3, q1, q2⟩ := ih (i + 1) (a ++ [_]) (b ++ [_]) (c ++ [⟨x18, x19, x20⟩]) (d ++ [⟨x18, x19, x20⟩]) (by omega) (by push_cast at hi; omega) (Row_snoc (f := ⟨((([([116] : Str), ([117] : Str)] : List Str)[(l[i.toNat].Table.tmod (2 : Int)).toNat]?).getD []), ((([([97] : Str), ([98] : Str), ([99, 49] : Str), ([110] : Str)] : List Str)[(l[i.toNat].Name.tmod (4 : Int)).toNat]?).getD []), IntKind.i64.wrap ((1 : Int) + (IntKind.i64.wrap (l[i.toNat].Kind.tmod (3 : Int))))⟩) hr hv) (by simp; omega) (by simp; omega) (by simp; omega)
        refine ⟨r0, r1, r2, r3, q1, fun X1 hX => hX _ _ _ _ _ fun _ => ?_⟩
        have h6 : decide (i < 6) = true := by simp; push_cast at hi; omega
        rw [h6]
        obtain ⟨t0, t1, n0, n1, _⟩ := hy
        refine ⟨fun _ => ⟨fun _ => ⟨h0, hlt, l[i.toNat], by simp [hi'], by rw [tm t0]; omega, by rw [tm n0]; omega, f _ _ _ _ _ _ ⟨by push_cast at hi; omega, by push_cast at hi; omega, by rw [hr.1]; push_cast at hi; omega, by push_cast at hi; omega, ?_⟩⟩, fun e => (by cases e)⟩, fun e => absurd hlt (by simpa using e)⟩
        rw [wrap64 (by push_cast at hi; omega) (by push_cast at hi; omega)]
        exact q2 X1 hX
      · refine ⟨a, b, c, d, hr, fun X1 hX => hX _ _ _ _ _ fun _ => ⟨fun e => absurd (by simpa using e) hlt, fun _ => ⟨fun e => (by cases e), fun _ => ⟨rfl, rfl, rfl, rfl⟩⟩⟩⟩
  obtain ⟨r0, r1, r2, r3, q1, q2⟩ := key 6 0 [] [] [] [] (by omega) (by omega) ⟨rfl, fun i f v h => by simp at h⟩ rfl rfl rfl
  exact ⟨r0, r1, r2, r3, law20_row_i _ _ _ _ _ q2, q1⟩
end Go.Proofs.Yteoohihaibgplaa
