import Derived.Test.YtkmehmgocelkiaaDoorRpA
namespace Go.Proofs.YtkmehmgocelkiaaDoor
open Go.AV Go.RowKit

/-! ### bit words -/
theorem nat_xor63 {u : Nat} (h : u < 2 ^ 64) : u ^^^ 2 ^ 63 = (u + 2 ^ 63) % 2 ^ 64 := by
  have h1 : (u ^^^ 2 ^ 63) % 2 ^ 63 = u % 2 ^ 63 := by
    rw [Nat.xor_mod_two_pow]; simp
  have h2 : (u ^^^ 2 ^ 63) / 2 ^ 63 = (u / 2 ^ 63) ^^^ 1 := by
    rw [Nat.xor_div_two_pow]
  have h3 : u / 2 ^ 63 = 0 ∨ u / 2 ^ 63 = 1 := by omega
  have h4 := Nat.div_add_mod (u ^^^ 2 ^ 63) (2 ^ 63)
  rw [h1, h2] at h4
  rcases h3 with h3 | h3
  · rw [h3] at h4
    have : (0 ^^^ 1 : Nat) = 1 := rfl
    rw [this] at h4; omega
  · rw [h3] at h4
    have : (1 ^^^ 1 : Nat) = 0 := rfl
    rw [this] at h4; omega
theorem xor63 (n : Int) : bits .xor .u64 n 9223372036854775808 = ((((n % 18446744073709551616).toNat + 9223372036854775808) % 18446744073709551616 : Nat) : Int) := by
  have key : (BitVec.ofInt 64 n ^^^ BitVec.ofInt 64 9223372036854775808).toNat = ((n % 18446744073709551616).toNat + 9223372036854775808) % 18446744073709551616 := by
    rw [BitVec.toNat_xor, BitVec.toNat_ofInt, BitVec.toNat_ofInt]
    have e : (9223372036854775808 % ((2 ^ 64 : Nat) : Int)).toNat = 2 ^ 63 := by decide
    rw [e]
    have : (n % ((2 ^ 64 : Nat) : Int)).toNat < 2 ^ 64 := by omega
    rw [nat_xor63 this]; rfl
  show IntKind.u64.wrap ((BitVec.ofInt 64 n ^^^ BitVec.ofInt 64 9223372036854775808).toNat : Nat) = _
  rw [key]; exact wrapu64 (by omega) (by omega)
theorem or8 {x c : Nat} (hx : x < 72057594037927936) (hc : c < 256) : bits .or .u64 (IntKind.u64.wrap ((x : Int) * 2 ^ (min (8 : Int).toNat IntKind.u64.bits))) (IntKind.u64.wrap (c : Int)) = ((x * 256 + c : Nat) : Int) := by
  have e1 : IntKind.u64.wrap ((x : Int) * 2 ^ (min (8 : Int).toNat IntKind.u64.bits)) = ((2 ^ 8 * x : Nat) : Int) := by
    have : (2 : Int) ^ (min (8 : Int).toNat IntKind.u64.bits) = 256 := by decide
    rw [this, wrapu64 (by omega) (by omega)]; omega
  have e2 : IntKind.u64.wrap (c : Int) = (c : Int) := wrapu64 (by omega) (by omega)
  rw [e1, e2]
  have key : (BitVec.ofInt 64 ((2 ^ 8 * x : Nat) : Int) ||| BitVec.ofInt 64 (c : Int)).toNat = x * 256 + c := by
    rw [BitVec.toNat_or, BitVec.toNat_ofInt, BitVec.toNat_ofInt]
    have a1 : (((2 ^ 8 * x : Nat) : Int) % ((2 ^ 64 : Nat) : Int)).toNat = 2 ^ 8 * x := by omega
    have a2 : ((c : Int) % ((2 ^ 64 : Nat) : Int)).toNat = c := by omega
    rw [a1, a2, ← Nat.two_pow_add_eq_or_of_lt (by omega : c < 2 ^ 8)]; omega
  show IntKind.u64.wrap ((BitVec.ofInt 64 ((2 ^ 8 * x : Nat) : Int) ||| BitVec.ofInt 64 (c : Int)).toNat : Nat) = _
  rw [key]; exact wrapu64 (by omega) (by omega)
/-! ### texts of numbers -/
def sInt (n : Int) : Str := be 8 (n + 9223372036854775808).toNat
theorem sInt_len (n : Int) : (sInt n).length = 8 := be_len _ _
theorem pInt {n : Int} (h : Rg n) : pack_Int_o n (sInt n) := by
  unfold Rg at h
  refine ⟨(sInt n).map ofB, ?_, toB_ofB _⟩
  · rw [xor63]
    have e : ((((IntKind.u64.wrap n) % 18446744073709551616).toNat + 9223372036854775808) % 18446744073709551616 : Nat) = (n + 9223372036854775808).toNat := by
      rw [wrapu64_eq]; omega
    rw [e]
    have := pWide (a := (n + 9223372036854775808).toNat) (k := 8) (by omega)
    rw [tl_be] at this; exact this
theorem pNumber {s : Str} (h : s.length ≤ 8) : pack_number_o s (num s) := by
  apply pack_number_i
  refine lp2 (fun (x y : Int) => ∃ i : Nat, y = i ∧ i ≤ s.length ∧ x = (num (s.take i) : Int)) (fun (_ y : Int) => s.length - y.toNat) ?_ ⟨0, rfl, by omega, by simp [num]⟩
  rintro X x y ⟨i, rfl, hi, rfl⟩ hX
  simp only [pack_number_L1i]
  refine ⟨fun c => ?_, fun c => ?_⟩
  · have c : (i : Int) < s.length := by simpa using c
    have hlt : i < s.length := by omega
    refine ⟨⟨by omega, c⟩, ?_⟩
    have w4 : IntKind.i64.wrap ((i : Int) + 1) = ((i + 1 : Nat) : Int) := by rw [wrap64 (by omega) (by omega)]; omega
    have hn := num_lt (s.take i)
    have hle : (s.take i).length ≤ 7 := by rw [List.length_take]; omega
    have hp : 256 ^ (s.take i).length ≤ 256 ^ 7 := Nat.pow_le_pow_right (by omega) hle
    rw [bAt_nat hlt, or8 (by omega) (s[i].toNat_lt), w4]
    refine hX _ _ ⟨i + 1, rfl, by omega, ?_⟩ (by omega)
    rw [List.take_succ_eq_append_getElem hlt, num_snoc]
  · have c : ¬ (i : Int) < s.length := by simpa using c
    rw [List.take_of_length_le (by omega)]
theorem xor63_num {s : Str} (h : s.length = 8) : IntKind.i64.wrap (bits .xor .u64 (num s : Int) 9223372036854775808) = (num s : Int) - 9223372036854775808 := by
  have hn := num_lt s
  rw [h] at hn
  rw [xor63, wrap64_eq]
  split <;> omega
theorem pGetInt (s : Str) : pack_GetInt_o s (if s.length = 8 then (num s : Int) - 9223372036854775808 else 0) (decide (s.length = 8)) := by
  refine ⟨fun c => ?_, fun c => ?_⟩
  · have c : ¬ s.length = 8 := by
      have : ¬ (s.length : Int) = 8 := by simpa using c
      omega
    rw [if_neg c, decide_eq_false c]; exact ⟨rfl, rfl⟩
  · have c : s.length = 8 := by
      have : (s.length : Int) = 8 := by simpa using c
      omega
    rw [if_pos c, decide_eq_true c]
    exact ⟨_, pNumber (by omega), xor63_num c, rfl⟩
/-! ### parts of a text -/
def sFirst (s : Str) : Str × Str × Bool := if s.length < 4 then ([], s, false) else if s.length - 4 < num (s.take 4) then ([], s, false) else ((s.drop 4).take (num (s.take 4)), s.drop (4 + num (s.take 4)), true)
theorem pFirst {s : Str} (h : s.length ≤ 1000000000) : pack_first_o s (sFirst s).1 (sFirst s).2.1 (sFirst s).2.2 := by
  unfold sFirst
  refine ⟨fun c => ?_, fun c => ?_⟩
  · have c : (s.length : Int) < 4 := of_decide_eq_true c
    rw [if_pos (by omega)]; exact ⟨rfl, rfl, rfl⟩
  · have c : ¬ (s.length : Int) < 4 := of_decide_eq_false c
    rw [if_neg (by omega)]
    have e0 : (s.drop (0 : Int).toNat).take ((4 : Int).toNat - (0 : Int).toNat) = s.take 4 := by simp
    have hl : (s.take 4).length = 4 := by rw [List.length_take]; omega
    have hn := num_lt (s.take 4)
    rw [hl] at hn
    rw [e0]
    refine ⟨⟨by omega, by omega, by omega⟩, _, pNumber (by omega), ?_⟩
    generalize num (s.take 4) = n at *
    have w1 : IntKind.u64.wrap (IntKind.i64.wrap ((s.length : Int) - 4)) = (s.length : Int) - 4 := by rw [wrap64 (by omega) (by omega), wrapu64 (by omega) (by omega)]
    have w2 : IntKind.i64.wrap (4 + IntKind.i64.wrap (n : Int)) = ((4 + n : Nat) : Int) := by rw [wrap64 (n := (n : Int)) (by omega) (by omega), wrap64 (by omega) (by omega)]; omega
    rw [w1, w2]
    refine ⟨fun d => ?_, fun d => ?_⟩
    · have d : (s.length : Int) - 4 < n := of_decide_eq_true d
      rw [if_pos (by omega)]; exact ⟨rfl, rfl, rfl⟩
    · have d : ¬ (s.length : Int) - 4 < n := of_decide_eq_false d
      rw [if_neg (by omega)]
      refine ⟨⟨by omega, by omega, by omega⟩, ⟨by omega, by omega, by omega⟩, ?_, ?_, rfl⟩
      · rw [Int.toNat_natCast]
        have : 4 + n - (4 : Int).toNat = n := by omega
        rw [this]; rfl
      · rw [Int.toNat_natCast, Int.toNat_natCast, List.take_of_length_le (by rw [List.length_drop]; omega)]
def spl : Nat → Str → Option (List Str)
  | 0, s => if s = [] then some [] else none
  | n + 1, s => if s = [] then some [] else if s.length < 4 then none else if s.length - 4 < num (s.take 4) then none else
      (spl n (s.drop (4 + num (s.take 4)))).map ((s.drop 4).take (num (s.take 4)) :: ·)
def sSplit (s : Str) : Option (List Str) := spl s.length s
theorem pSplit {s : Str} (h : s.length ≤ 100000000) : pack_Split_o s ((sSplit s).getD []) (if (sSplit s).isSome then 0 else 2) := by
  apply pack_Split_i
  intro X hX
  have key : ∀ n, ∀ (x : Str) (y : List Str), x.length ≤ n → x.length ≤ 100000000 → y.length + x.length ≤ 100000000 →
      ((spl n x).map (y ++ ·) = sSplit s) → X x y := by
    intro n
    induction n with
    | zero =>
      intro x y hx _ _ he
      have : x = [] := List.eq_nil_of_length_eq_zero (by omega)
      subst this
      apply hX
      refine ⟨fun c => (by simp at c), fun _ => ?_⟩
      rw [← he]; simp [spl]
    | succ n ih =>
      intro x y hx hb hyx he
      apply hX
      simp only [spl] at he
      refine ⟨fun c => ?_, fun c => ?_⟩
      · have c : ¬ x = [] := by simpa using c
        rw [if_neg c] at he
        refine ⟨_, _, _, pFirst (by omega), ?_⟩
        unfold sFirst
        by_cases h4 : x.length < 4
        · rw [if_pos h4] at he ⊢
          refine ⟨fun _ => ?_, fun q => (by cases q)⟩
          rw [← he]; exact ⟨rfl, rfl⟩
        · rw [if_neg h4] at he ⊢
          by_cases hn : x.length - 4 < num (x.take 4)
          · rw [if_pos hn] at he ⊢
            refine ⟨fun _ => ?_, fun q => (by cases q)⟩
            rw [← he]; exact ⟨rfl, rfl⟩
          · rw [if_neg hn] at he ⊢
            refine ⟨fun q => (by cases q), fun _ => ⟨by omega, ?_⟩⟩
            have hd : (x.drop (4 + num (x.take 4))).length = x.length - (4 + num (x.take 4)) := List.length_drop
            refine ih _ _ (by show (x.drop _).length ≤ n; rw [hd]; omega) (by show (x.drop _).length ≤ _; rw [hd]; omega) (by show _ + (x.drop _).length ≤ _; rw [hd]; simp; omega) ?_
            rw [← he]
            show ((spl n (x.drop _)).map _) = _
            cases spl n (x.drop (4 + num (x.take 4))) with
            | none => rfl
            | some l => simp
      · have c : x = [] := by simpa using c
        rw [if_pos c] at he
        rw [← he]; simp
  refine key s.length s [] (Nat.le_refl _) (by omega) (by simp; omega) ?_
  show (sSplit s).map _ = _
  cases sSplit s <;> simp
end Go.Proofs.YtkmehmgocelkiaaDoor
