import Derived.Test.YtkmehmgocelkiaaDoorRp0
namespace Go.Proofs.YtkmehmgocelkiaaDoor
open Go.AV Go.RowKit

/-! ### numbers as bytes -/
theorem toB_ofB (s : Str) : (s.map ofB).map toB = s := by
  induction s with
  | nil => rfl
  | cons c s ih =>
    simp only [List.map_cons, ih]
    congr 1
    show UInt8.ofNat ((c.toNat : Int).toNat) = c
    rw [Int.toNat_natCast]; exact UInt8.ofNat_toNat
def num : Str → Nat
  | [] => 0
  | c :: s => c.toNat * 256 ^ s.length + num s
theorem num_lt (s : Str) : num s < 256 ^ s.length := by
  induction s with
  | nil => simp [num]
  | cons c s ih =>
    have hc : c.toNat < 256 := c.toNat_lt
    have e : (256 : Nat) ^ (c :: s).length = 256 * 256 ^ s.length := by simp [Nat.pow_succ, Nat.mul_comm]
    rw [e]
    have : c.toNat * 256 ^ s.length ≤ 255 * 256 ^ s.length := Nat.mul_le_mul_right _ (by omega)
    simp only [num]; omega
theorem num_snoc (s : Str) (c : UInt8) : num (s ++ [c]) = num s * 256 + c.toNat := by
  induction s with
  | nil => simp [num]
  | cons d s ih =>
    have : d.toNat * 256 ^ (s.length + 1) = d.toNat * 256 ^ s.length * 256 := by rw [Nat.pow_succ, Nat.mul_assoc]
    simp only [List.cons_append, num, ih, List.length_append, List.length_cons, List.length_nil]
    simp only [Nat.zero_add, this]; omega
theorem num_inj : ∀ {s t : Str}, s.length = t.length → num s = num t → s = t := by
  intro s
  induction s with
  | nil => intro t h _; exact (List.eq_nil_of_length_eq_zero h.symm).symm
  | cons c s ih =>
    intro t h e
    cases t with
    | nil => simp at h
    | cons d t =>
      have hl : s.length = t.length := by simpa using h
      have h1 := num_lt s
      have h2 := num_lt t
      simp only [num] at e
      rw [← hl] at e h2
      have hB : 0 < 256 ^ s.length := Nat.pow_pos (by omega)
      have hcd : c.toNat = d.toNat := by
        have e1 : (c.toNat * 256 ^ s.length + num s) / 256 ^ s.length = c.toNat := by
          rw [Nat.add_comm, Nat.add_mul_div_right _ _ hB, Nat.div_eq_of_lt h1]; omega
        have e2 : (d.toNat * 256 ^ s.length + num t) / 256 ^ s.length = d.toNat := by
          rw [Nat.add_comm, Nat.add_mul_div_right _ _ hB, Nat.div_eq_of_lt h2]; omega
        rw [← e1, ← e2, e]
      have hcd' : c = d := UInt8.toNat_inj.1 hcd
      subst hcd'
      rw [ih hl (by omega)]
def be : Nat → Nat → Str
  | 0, _ => []
  | i + 1, u => UInt8.ofNat (u / 256 ^ i) :: be i u
theorem be_len (k u : Nat) : (be k u).length = k := by
  induction k with
  | zero => rfl
  | succ k ih => simp [be, ih]
theorem num_be (k u : Nat) : num (be k u) = u % 256 ^ k := by
  induction k with
  | zero => simp [be, num, Nat.mod_one]
  | succ k ih =>
    simp only [be, num, be_len, ih]
    rw [Nat.mod_pow_succ, UInt8.toNat_ofNat', Nat.mul_comm]
    show 256 ^ k * (u / 256 ^ k % 2 ^ 8) + _ = _
    rw [Nat.add_comm]
theorem be_num (s : Str) : be s.length (num s) = s := by
  refine num_inj (be_len _ _) ?_
  rw [num_be, Nat.mod_eq_of_lt (num_lt s)]
/-! ### the program's bytes -/
def tl (a : Nat) : Nat → List Int
  | 0 => []
  | i + 1 => ofB (UInt8.ofNat (a / 256 ^ i)) :: tl a i
theorem tl_be (a k : Nat) : tl a k = (be k a).map ofB := by
  induction k with
  | zero => rfl
  | succ k ih => simp [tl, be, ih]
theorem tl_len (a k : Nat) : (tl a k).length = k := by rw [tl_be]; simp [be_len]
theorem pow8 (i : Nat) : (2 : Nat) ^ (8 * i) = 256 ^ i := by
  rw [Nat.pow_mul]
theorem ofB_nat (n : Nat) : ofB (UInt8.ofNat n) = ((n % 256 : Nat) : Int) := by
  show (((UInt8.ofNat n).toNat : Nat) : Int) = _
  rw [UInt8.toNat_ofNat']
theorem pWide {a k : Nat} (hk : k ≤ 8) : pack_wide_o (a : Int) (k : Int) (tl a k) := by
  apply pack_wide_i
  refine ⟨by omega, by omega, by omega, ?_⟩
  refine lp2 (fun (x : Int) (y : List Int) => ∃ i : Nat, x = i ∧ i ≤ k ∧ y = List.replicate (k - i) (0 : Int) ++ tl a i) (fun (x : Int) (_ : List Int) => k - x.toNat) ?_ ⟨0, rfl, by omega, by simp [tl]⟩
  rintro X x y ⟨i, rfl, hi, rfl⟩ hX
  simp only [pack_wide_L1i]
  have ek : (k : Int).toNat = k := Int.toNat_natCast k
  refine ⟨fun c => ?_, fun c => ?_⟩
  · have c : (i : Int) < ((List.replicate (k : Int).toNat (0 : Int)).length : Int) := by simpa using c
    rw [ek, List.length_replicate] at c
    have w1 : IntKind.i64.wrap (8 * (i : Int)) = 8 * (i : Int) := wrap64 (by omega) (by omega)
    have w2 : IntKind.i64.wrap ((k : Int) - 1) = (k : Int) - 1 := wrap64 (by omega) (by omega)
    have w3 : IntKind.i64.wrap ((k : Int) - 1 - (i : Int)) = ((k - 1 - i : Nat) : Int) := by rw [wrap64 (by omega) (by omega)]; omega
    have w4 : IntKind.i64.wrap ((i : Int) + 1) = ((i + 1 : Nat) : Int) := by rw [wrap64 (by omega) (by omega)]; omega
    rw [w1, w2, w3, w4, Int.toNat_natCast]
    have hm : k - i = (k - 1 - i) + 1 := by omega
    have er : List.replicate (k - i) (0 : Int) ++ tl a i = List.replicate (k - 1 - i) 0 ++ (0 :: tl a i) := by
      rw [hm, List.replicate_succ', List.append_assoc]; rfl
    have hmin : min (8 * (i : Int)).toNat IntKind.u64.bits = 8 * i := by
      show min _ 64 = _
      omega
    have hsh : IntKind.u8.wrap ((a : Int).fdiv (2 ^ (min (8 * (i : Int)).toNat IntKind.u64.bits))) = ofB (UInt8.ofNat (a / 256 ^ i)) := by
      rw [hmin, ofB_nat, wrapu8_eq]
      have : (2 : Int) ^ (8 * i) = ((256 ^ i : Nat) : Int) := by rw [← pow8]; norm_cast
      rw [this, Int.fdiv_eq_ediv_of_nonneg _ (Int.natCast_nonneg _), ← Int.natCast_ediv]
      generalize a / 256 ^ i = q
      omega
    rw [hsh, er]
    refine ⟨by omega, by omega, by simp; omega, 0, ?_, ?_⟩
    · rw [List.getElem?_append_right (by simp)]; simp
    · refine hX _ _ ⟨i + 1, rfl, by omega, ?_⟩ (by omega)
      have e2 : k - (i + 1) = k - 1 - i := by omega
      rw [List.set_append_right _ _ (by simp), e2]; simp [tl]
  · have c : ¬ (i : Int) < ((List.replicate (k : Int).toNat (0 : Int)).length : Int) := by simpa using c
    rw [ek, List.length_replicate] at c
    have : k - i = 0 := by omega
    have e : i = k := by omega
    rw [this, e]; rfl
end Go.Proofs.YtkmehmgocelkiaaDoor
