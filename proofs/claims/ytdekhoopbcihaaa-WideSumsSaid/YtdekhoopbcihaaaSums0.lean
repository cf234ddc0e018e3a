/-
  Plain facts for WideSums: a natural number's bits stand for a whole number modulo 2 to the 128; the contracts in these words.
-/
import Derived.Test.YtdekhoopbcihaaaRef21
namespace Go.Proofs.Ytdekhoopbcihaaa
open Go.RowKit Go.RG

def Rep (n : Nat) (z : Int) : Prop := (n : Int) % 340282366920938463463374607431768211456 = z % 340282366920938463463374607431768211456
theorem Rep.halves {n : Nat} {z : Int} (h : Rep n z) : wrap64 ((n / 2 ^ 64 % 2 ^ 64 : Nat) : Int) = whi z ∧ ((n % 2 ^ 64 : Nat) : Int) = wlo z := by
  unfold Rep at h
  unfold whi wlo wrap64
  constructor <;> omega
theorem Rep.add {a b : Nat} {x y : Int} (h1 : Rep a x) (h2 : Rep b y) : Rep (a + b) (x + y) := by unfold Rep at *; omega
theorem Rep.zero : Rep 0 0 := rfl
theorem Rep.of (z : Int) (H L : Nat) (hH : IntKind.u64.wrap (whi z) = (H : Int)) (hL : wlo z = (L : Int)) : Rep (H * 2 ^ 64 + L) z := by
  unfold Rep
  rw [IntKind.wrap_u64] at hH
  unfold whi wrap64 at hH
  unfold wlo at hL
  omega

theorem allB_iff (n : Nat) : allB n = true ↔ n / 2 ^ 64 % 2 ^ 64 = if n.testBit 63 then 2 ^ 64 - 1 else 0 := by
  have tH : ∀ j, j < 64 → n.testBit (64 + j) = (n / 2 ^ 64 % 2 ^ 64).testBit j := by
    intro j hj; rw [Nat.testBit_mod_two_pow, Nat.testBit_div_two_pow]; simp [hj]; rw [Nat.add_comm]
  have hlt : n / 2 ^ 64 % 2 ^ 64 < 2 ^ 64 := Nat.mod_lt _ (Nat.two_pow_pos 64)
  unfold allB
  rw [List.all_eq_true]
  generalize n.testBit 63 = b at *
  generalize n / 2 ^ 64 % 2 ^ 64 = U at *
  constructor
  · intro h
    refine Nat.eq_of_testBit_eq fun j => ?_
    by_cases hj : j < 64
    · have h1 := h j (List.mem_range.2 hj)
      rw [tH j hj] at h1
      have h2 : U.testBit j = b := by simpa using h1
      rw [h2]
      cases b
      · simp
      · rw [if_pos rfl, Nat.testBit_two_pow_sub_one]; simp [hj]
    · have h1 : U.testBit j = false := Nat.testBit_lt_two_pow (Nat.lt_of_lt_of_le hlt (Nat.pow_le_pow_right (by omega) (by omega)))
      rw [h1]
      cases b
      · simp
      · rw [if_pos rfl, Nat.testBit_two_pow_sub_one]; simp [hj]
  · intro h j hj
    rw [tH j (List.mem_range.1 hj), h]
    have := List.mem_range.1 hj
    cases b
    · simp
    · rw [if_pos rfl, Nat.testBit_two_pow_sub_one]; simp [this]

theorem Rep.allB {n : Nat} {z : Int} (h : Rep n z) : (allB n = true ↔ whi (wrap64 z) = whi z) ∧ wrap64 ((n % 2 ^ 64 : Nat) : Int) = wrap64 z := by
  have hb : n.testBit 63 = decide (n / 2 ^ 63 % 2 = 1) := Nat.testBit_eq_decide_div_mod_eq
  rw [allB_iff, hb]
  unfold Rep at h
  unfold whi wrap64
  constructor
  · by_cases hc : n / 2 ^ 63 % 2 = 1
    · simp only [hc, decide_true, if_true]
      constructor <;> intro h1 <;> omega
    · simp only [hc, decide_false, Bool.false_eq_true, if_false]
      constructor <;> intro h1 <;> omega
  · omega

/-- the answer of Int, of the program and of the reference alike -/
def intZ (z : Int) : Value := if whi (wrap64 z) = whi z then .tuple #[.int .i64 (wrap64 z), .bool true] else .tuple #[.int .i64 0, .bool false]
theorem intZ_of {n : Nat} {z : Int} (h : Rep n z) : intV n (n % 2 ^ 64) = intZ z := by
  obtain ⟨h1, h2⟩ := h.allB
  unfold intZ
  by_cases hc : whi (wrap64 z) = whi z
  · rw [if_pos hc, ← intV_yes (h1.2 hc), h2]
  · rw [if_neg hc, ← intV_no]
    cases he : allB n with
    | false => rfl
    | true => exact absurd (h1.1 he) hc

theorem int_z (z : Int) (w : World) : Calls Try.prog 8 #[.agg #[.int .i64 (whi z), .int .u64 (wlo z)]] w fun e w' => e = .returned (intZ z) ∧ Below w.heap.size w w' := by
  unfold intZ
  by_cases hc : whi (wrap64 z) = whi z
  · rw [if_pos hc]; exact int_yes z hc w
  · rw [if_neg hc]; exact int_no z hc w
theorem rint_z {n : Nat} {z : Int} (h : Rep n z) (w : World) : Calls Try.prog 9 #[.agg (bitsV n)] w fun e w' => e = .returned (intZ z) ∧ Below w.heap.size w w' := by
  rw [← intZ_of h]; exact rint_any n _ _ rfl rfl w
theorem rhalves_z {n : Nat} {z : Int} (h : Rep n z) (w : World) : Calls Try.prog 13 #[.agg (bitsV n)] w fun e w' => e = .returned (.tuple #[.int .i64 (whi z), .int .u64 (wlo z)]) ∧ Below w.heap.size w w' := by
  rw [← h.halves.1, ← h.halves.2]; exact rhalves_any n _ _ rfl rfl w
theorem rof_z (z : Int) : ∃ n, Rep n z ∧ ∀ w : World, Calls Try.prog 6 #[.int .i64 (whi z), .int .u64 (wlo z)] w fun e w' => e = .returned (.agg (bitsV n)) ∧ Below w.heap.size w w' := by
  have h1 : 0 ≤ IntKind.u64.wrap (whi z) ∧ IntKind.u64.wrap (whi z) < 18446744073709551616 := by rw [IntKind.wrap_u64]; omega
  have h2 : 0 ≤ wlo z ∧ wlo z < 18446744073709551616 := by unfold wlo; omega
  obtain ⟨H, hH⟩ := Int.eq_ofNat_of_zero_le h1.1
  obtain ⟨L, hL⟩ := Int.eq_ofNat_of_zero_le h2.1
  refine ⟨H * 2 ^ 64 + L, Rep.of z H L hH hL, fun w => ?_⟩
  rw [hL]
  exact rof_any (whi z) L H (by omega) hH (by omega) w

theorem u8_int (k : Int) (h0 : 0 ≤ k) (h1 : k < 256) : ((UInt8.ofNat k.toNat).toNat : Int) = k := by
  rw [UInt8.toNat_ofNat']; omega
theorem num_eight (x : Int) (h0 : 0 ≤ x) (h1 : x < 18446744073709551616) : num (strOfNums (eightL x)).data.toList = x := by
  rw [strOfNums_data]
  have e : eightL x = [x / 72057594037927936 % 256, x / 281474976710656 % 256, x / 1099511627776 % 256, x / 4294967296 % 256, x / 16777216 % 256, x / 65536 % 256, x / 256 % 256, x % 256] := by
    simp only [eightL, show List.range 8 = [0, 1, 2, 3, 4, 5, 6, 7] from rfl, List.map_cons, List.map_nil, byteOf, Nat.reduceSub, Nat.reduceMul, Int.reducePow, Int.ediv_one]
  rw [e]
  simp only [List.map_cons, List.map_nil, num, List.foldl]
  rw [u8_int _ (by omega) (by omega), u8_int _ (by omega) (by omega), u8_int _ (by omega) (by omega), u8_int _ (by omega) (by omega), u8_int _ (by omega) (by omega), u8_int _ (by omega) (by omega), u8_int _ (by omega) (by omega), u8_int _ (by omega) (by omega)]
  have d1 : x / 65536 = x / 256 / 256 := by omega
  have d2 : x / 16777216 = x / 65536 / 256 := by omega
  have d3 : x / 4294967296 = x / 16777216 / 256 := by omega
  have d4 : x / 1099511627776 = x / 4294967296 / 256 := by omega
  have d5 : x / 281474976710656 = x / 1099511627776 / 256 := by omega
  have d6 : x / 72057594037927936 = x / 281474976710656 / 256 := by omega
  have d7 : x / 72057594037927936 < 256 := by omega
  have d8 : 0 ≤ x / 72057594037927936 := by omega
  generalize x / 72057594037927936 = a7 at *
  generalize x / 281474976710656 = a6 at *
  generalize x / 1099511627776 = a5 at *
  generalize x / 4294967296 = a4 at *
  generalize x / 16777216 = a3 at *
  generalize x / 65536 = a2 at *
  generalize hx : x / 256 = a1 at *
  omega
theorem extr_l (a b : ByteArray) (ha : a.size = 8) (hb : b.size = 8) : ((a ++ b).extract 0 8).data.toList = a.data.toList ∧ ((a ++ b).extract 8 16).data.toList = b.data.toList := by
  have h1 : a.data.size = 8 := ha
  have h2 : b.data.size = 8 := hb
  constructor
  · simp only [ByteArray.data_extract, ByteArray.data_append, Array.toList_extract, Array.toList_append]
    simp [List.extract, h1]
  · simp only [ByteArray.data_extract, ByteArray.data_append, Array.toList_extract, Array.toList_append]
    simp only [List.extract, Nat.reduceSub, Array.toList_append]
    rw [List.drop_append_of_le_length (by simp [h1]), List.drop_of_length_le (by simp [h1]), List.nil_append, List.take_of_length_le (by simp [h2])]

theorem key_back (z : Int) : ∃ s : ByteArray, s.size = 16 ∧ (∀ w, Calls Try.prog 11 #[.agg #[.int .i64 (whi z), .int .u64 (wlo z)]] w fun e w' => e = .returned (.string s) ∧ Below w.heap.size w w') ∧
    (∀ w, Calls Try.prog 10 #[.string s] w fun e w' => e = .returned (.tuple #[.agg #[.int .i64 (whi z), .int .u64 (wlo z)], .int .i64 0]) ∧ Below w.heap.size w w') := by
  have hsz : (strOfNums (eightL (IntKind.u64.wrap (whi z))) ++ strOfNums (eightL (wlo z))).size = 16 := by rw [ByteArray.size_append, size_eight, size_eight]
  refine ⟨_, hsz, fun w => key_any (whi z) (wlo z) (wlo_pos z) w, fun w => ?_⟩
  refine (get_fits _ hsz w).mono ?_
  rintro e w' ⟨rfl, hb⟩
  refine ⟨ret_val ?_, hb⟩
  have hx := extr_l _ _ (size_eight (IntKind.u64.wrap (whi z))) (size_eight (wlo z))
  have h1 : 0 ≤ IntKind.u64.wrap (whi z) ∧ IntKind.u64.wrap (whi z) < 18446744073709551616 := by rw [IntKind.wrap_u64]; omega
  have h2 : 0 ≤ wlo z ∧ wlo z < 18446744073709551616 := by unfold wlo; omega
  have h3 : wrap64 (IntKind.u64.wrap (whi z)) = whi z := by rw [IntKind.wrap_u64]; unfold whi wrap64; omega
  rw [hx.1, hx.2, num_eight _ h1.1 h1.2, num_eight _ h2.1 h2.2, h3]
end Go.Proofs.Ytdekhoopbcihaaa
