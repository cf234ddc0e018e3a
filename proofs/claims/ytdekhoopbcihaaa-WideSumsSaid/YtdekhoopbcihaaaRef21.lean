/-
  Contracts of the reference of package wide: a wide number is a row of 128 bits, told by a natural number.
-/
import Derived.Test.YtdekhoopbcihaaaWide
namespace Go.Proofs.Ytdekhoopbcihaaa
open Go.RowKit Go.RG

def bitsV (n : Nat) : Array Value := rowf 128 fun j => .bool (n.testBit j)
theorem size_bitsV (n : Nat) : (bitsV n).size = 128 := rowf_size _ _

theorem tb (L k : Nat) : ((((L / 2 ^ k : Nat) : Int) % 2) == 1) = L.testBit k := by
  rw [Nat.testBit_eq_decide_div_mod_eq, Bool.eq_iff_iff]
  simp only [beq_iff_eq, decide_eq_true_eq]
  generalize L / 2 ^ k = q
  omega

def ofRow (L H k : Nat) : Array Value := rowf 128 fun j => .bool (if j < 64 then decide (j < k) && L.testBit j else decide (j < 64 + k) && H.testBit (j - 64))
theorem ofRow_zero (L H : Nat) : ofRow L H 0 = rowf 128 fun _ => .bool false := by
  refine rowf_congr fun j hj => ?_
  by_cases h : j < 64
  · simp [h]
  · simp [h]
theorem ofRow_succ (L H k : Nat) (h : k < 64) : ((ofRow L H k).setIfInBounds k (.bool (L.testBit k))).setIfInBounds (64 + k) (.bool (H.testBit k)) = ofRow L H (k + 1) := by
  unfold ofRow
  rw [rowf_set, rowf_set]
  refine rowf_congr fun j hj => ?_
  by_cases e : j = 64 + k
  · subst e; rw [if_pos rfl, if_neg (by omega)]; simp
  · rw [if_neg e]
    by_cases e2 : j = k
    · subst e2; simp [h]
    · rw [if_neg e2]
      by_cases h3 : j < 64
      · simp only [h3, if_true]
        congr 2
        rw [Bool.eq_iff_iff]; simp; omega
      · simp only [h3, if_false]
        congr 2
        rw [Bool.eq_iff_iff]; simp; omega
theorem ofRow_end (L H : Nat) (hL : L < 2 ^ 64) (hH : H < 2 ^ 64) : ofRow L H 64 = bitsV (H * 2 ^ 64 + L) := by
  unfold ofRow bitsV
  refine rowf_congr fun j hj => ?_
  congr 1
  rw [Nat.mul_comm]
  by_cases h : j < 64
  · rw [if_pos h, Nat.testBit_two_pow_mul_add _ hL, if_pos h]
    simp [h]
  · rw [if_neg h, Nat.testBit_two_pow_mul_add _ hL, if_neg h]
    simp; omega

theorem zeroRW (w : World) : (zeroValue 26).run Try.prog w = .ok (.agg (rowf 128 fun _ => .bool false)) w := by kernel_rfl
theorem infoRW : (Try.prog.info? 26).map (·.size) = some 128 := by kernel_rfl
theorem div_succ (L k : Nat) : ((L / 2 ^ k : Nat) : Int) / 2 = ((L / 2 ^ (k + 1) : Nat) : Int) := by
  rw [Nat.pow_succ, ← Nat.div_div_eq_div_mul]; omega

set_option maxRecDepth 100000 in
set_option maxHeartbeats 1000000 in
theorem rof_any (hi : Int) (L H : Nat) (hL : L < 2 ^ 64) (hH : IntKind.u64.wrap hi = (H : Int)) (hH2 : H < 2 ^ 64) (w : World) :
    Calls Try.prog 6 #[.int .i64 hi, .int .u64 (L : Int)] w fun e w' => e = .returned (.agg (bitsV (H * 2 ^ 64 + L))) ∧ Below w.heap.size w w' := by
  have hz := zeroRW
  have hL' := hid hL
  have hH' := hid hH2
  clear hL hH2
  go_enter Try.func6, Try.ntmps6
  go_wp2
  go_loopw [1, 6, 7] (fun l h i wr => ∃ k : Nat, k ≤ 64 ∧ i = .int .i64 k ∧ l = .int .u64 ((L / 2 ^ k : Nat) : Int) ∧ h = .int .u64 ((H / 2 ^ k : Nat) : Int) ∧ wr.heap[w.heap.size + 1]? = some (.cells (ofRow L H k) 26 (0, 0)) ∧ wr.heap[w.heap.size]? = some (.cells (rowf 128 fun _ => .bool false) 26 (0, 0)) ∧ Below w.heap.size w wr)
    (fun _ _ i _ => 64 - (intOf i).toNat)
  case atStart =>
    refine ⟨0, Nat.zero_le _, rfl, by simp, by simp, ?_, ?_, ((Below.refl _ _).alloc (Nat.le_refl _) _).alloc (by simp) _⟩
    · rw [hp_alloc, if_pos (by simp), ofRow_zero]
    · rw [hp_alloc, if_neg (by simp), hp_alloc, if_pos rfl]
  case round =>
    obtain ⟨k, hk, rfl, rfl, rfl, hb, hb0, hbel⟩ := hrel
    clear hz hH
    have HB := hid hb
    have HB0 := hid hb0
    have hsz := lt_of_block hb
    by_cases hlt : k < 64
    · have c1 := (row_cells hb k).1
      have f1 := (row_cells hb k).2
      have c2 := (row_cells hb (64 + k)).1
      have f2 := (row_cells hb (64 + k)).2
      unfold ofRow at c1 c2
      rw [rowf_get _ _ _ (by omega)] at c1 c2
      have t1 := hid (tb L k)
      have t2 := hid (tb H k)
      have d1 := hid (div_succ L k)
      have d2 := hid (div_succ H k)
      generalize hx : (L / 2 ^ k : Nat) = x at *
      generalize hy : (H / 2 ^ k : Nat) = y at *
      have hxb : x < 2 ^ 64 := by rw [← hx]; exact Nat.lt_of_le_of_lt (Nat.div_le_self _ _) hL'.out
      have hyb : y < 2 ^ 64 := by rw [← hy]; exact Nat.lt_of_le_of_lt (Nat.div_le_self _ _) hH'.out
      have u1 : Hid (IntKind.u64.wrap ((x : Int) / 2) = ((L / 2 ^ (k + 1) : Nat) : Int)) := by rw [← d1.out, IntKind.wrap_u64]; exact hid (by omega)
      have u2 : Hid (IntKind.u64.wrap ((y : Int) / 2) = ((H / 2 ^ (k + 1) : Nat) : Int)) := by rw [← d2.out, IntKind.wrap_u64]; exact hid (by omega)
      clear hb hb0 hx hy hxb hyb
      go_wp2
      go_roundw
      case rel =>
        refine ⟨k + 1, by omega, by go_num, by rw [u1.out], by rw [u2.out], ?_, ?_, (hbel.setCell (by simp) _).setCell (by simp) _⟩
        · rw [hp_set, if_pos rfl, hp_set, if_pos rfl, HB.out, ← ofRow_succ L H k hlt, ← t1.out, ← t2.out]; rfl
        · rw [hp_set, if_neg (by omega), hp_set, if_neg (by omega), HB0.out]
      case measure => simp [intOf]; omega
    · obtain rfl : k = 64 := by omega
      have E := hid (ofRow_end L H hL'.out hH'.out)
      have hsz2 := lt_of_block hb0
      clear hb hb0
      generalize (L / 2 ^ 64 : Nat) = x
      generalize (H / 2 ^ 64 : Nat) = y
      go_wp2_with (first
        | (refine wpList_load_row rfl 26 (.tmp 5) rfl (w.heap.size + 1) rfl 26 (ofRow L H 64) (0, 0) _ HB.out Try.underlying26 rfl (by rw [infoRW, E.out, size_bitsV]) ?_)
        | ((refine wpList_put_row rfl 26 (.tmp 4) (.tmp 29) rfl w.heap.size rfl (ofRow L H 64) rfl HB0.out (by rw [E.out, size_bitsV, rowf_size]) (by rw [infoRW, E.out, size_bitsV]) (rowf_one fun _ => rfl) ?_); intro w2 hg2 hgr2 hs2))
      refine ret_c (g := w.heap.size) (cs := ofRow L H 64) (t := 26) (fr := (0, 0)) Try.results6 rfl rfl hg2 Try.underlying26 rfl (by rw [infoRW, E.out, size_bitsV]) ⟨by rw [E.out], hbel.grown hgr2 (by omega) (fun k hk => by cases hk; exact Nat.le_refl _)⟩

/-! ### the sum, bit by bit -/
def car (a b k : Nat) : Nat := (a % 2 ^ k + b % 2 ^ k) / 2 ^ k
theorem car_step (a b k : Nat) : (car a b k + (a.testBit k).toNat + (b.testBit k).toNat) / 2 = car a b (k + 1) ∧ decide ((car a b k + (a.testBit k).toNat + (b.testBit k).toNat) % 2 = 1) = (a + b).testBit k := by
  have hp : 0 < 2 ^ k := Nat.two_pow_pos k
  have e1 : ∀ x : Nat, (x.testBit k).toNat = x / 2 ^ k % 2 := fun x => by rw [Nat.testBit_eq_decide_div_mod_eq]; rcases Nat.mod_two_eq_zero_or_one (x / 2 ^ k) with h | h <;> simp [h]
  have e2 : ∀ x : Nat, x % 2 ^ (k + 1) = x % 2 ^ k + 2 ^ k * (x / 2 ^ k % 2) := fun x => by exact Nat.mod_pow_succ
  have e3 : (a + b) / 2 ^ k = car a b k + (a / 2 ^ k + b / 2 ^ k) := by
    unfold car
    rw [← Nat.add_mul_div_left _ _ hp]
    congr 1
    have h1 := Nat.mod_add_div a (2 ^ k)
    have h2 := Nat.mod_add_div b (2 ^ k)
    rw [Nat.mul_add]; omega
  rw [e1, e1]
  refine ⟨?_, ?_⟩
  · have e4 : car a b (k + 1) = (car a b k + (a / 2 ^ k % 2 + b / 2 ^ k % 2)) / 2 := by
      unfold car
      rw [e2, e2, Nat.pow_succ, ← Nat.div_div_eq_div_mul, ← Nat.add_mul_div_left _ _ hp]
      congr 2
      rw [Nat.mul_add]; omega
    rw [e4, Nat.add_assoc]
  · rw [Nat.testBit_eq_decide_div_mod_eq, e3]
    congr 1
    rw [eq_iff_iff]
    omega
theorem car_le (a b k : Nat) : car a b k ≤ 1 := by
  unfold car
  have hp : 0 < 2 ^ k := Nat.two_pow_pos k
  have h1 := Nat.mod_lt a hp
  have h2 := Nat.mod_lt b hp
  have : (a % 2 ^ k + b % 2 ^ k) / 2 ^ k < 2 := Nat.div_lt_of_lt_mul (by omega)
  omega
def sumRow (a b k : Nat) : Array Value := rowf 128 fun j => .bool (decide (j < k) && (a + b).testBit j)
theorem sumRow_zero (a b : Nat) : sumRow a b 0 = rowf 128 fun _ => .bool false := rowf_congr fun j _ => by simp
theorem sumRow_succ (a b k : Nat) : (sumRow a b k).setIfInBounds k (.bool ((a + b).testBit k)) = sumRow a b (k + 1) := by
  unfold sumRow
  rw [rowf_set]
  refine rowf_congr fun j _ => ?_
  by_cases e : j = k
  · subst e; simp
  · rw [if_neg e]; congr 2; rw [Bool.eq_iff_iff]; simp; omega
theorem sumRow_end (a b : Nat) : sumRow a b 128 = bitsV (a + b) := rowf_congr fun j h => by simp [h]

theorem sumstep (a b k c : Nat) (x y : Bool) (hc : car a b k = c) (hx : a.testBit k = x) (hy : b.testBit k = y) :
    ((((c : Int) + (x.toNat : Int) + (y.toNat : Int)) % 2) == 1) = (a + b).testBit k ∧ ((c : Int) + (x.toNat : Int) + (y.toNat : Int)) / 2 = (car a b (k + 1) : Int) := by
  have h := car_step a b k
  rw [hc, hx, hy] at h
  rw [← h.1, ← h.2]
  refine ⟨?_, by omega⟩
  rw [Bool.eq_iff_iff]; simp only [beq_iff_eq, decide_eq_true_eq]; omega

set_option maxRecDepth 100000 in
set_option maxHeartbeats 2000000 in
theorem rplus_any (m n : Nat) (w : World) :
    Calls Try.prog 7 #[.agg (bitsV m), .agg (bitsV n)] w fun e w' => e = .returned (.agg (bitsV (m + n))) ∧ Below w.heap.size w w' := by
  have hz := zeroRW
  have hbm := hid (size_bitsV m)
  go_enter Try.func7, Try.ntmps7
  go_wp2
  go_loopw [6, 7] (fun c i wr => ∃ k : Nat, k ≤ 128 ∧ i = .int .i64 k ∧ c = .int .i64 (car m n k) ∧ wr.heap[w.heap.size]? = some (.cells (bitsV m) 26 (0, 0)) ∧ wr.heap[w.heap.size + 1]? = some (.cells (bitsV n) 26 (0, 0)) ∧ wr.heap[w.heap.size + 1 + 1 + 1]? = some (.cells (sumRow m n k) 26 (0, 0)) ∧ wr.heap[w.heap.size + 1 + 1]? = some (.cells (rowf 128 fun _ => .bool false) 26 (0, 0)) ∧ Below w.heap.size w wr)
    (fun _ i _ => 128 - (intOf i).toNat)
  case atStart =>
    refine ⟨0, Nat.zero_le _, rfl, by simp [car, Nat.mod_one], ?_, ?_, ?_, ?_, ((((Below.refl _ _).alloc (Nat.le_refl _) _).alloc (by simp) _).alloc (by simp; omega) _).alloc (by simp; omega) _⟩
    · exact (new4 w _ _ _ _).1
    · exact (new4 w _ _ _ _).2.1
    · rw [sumRow_zero]; exact (new4 w _ _ _ _).2.2.2
    · exact (new4 w _ _ _ _).2.2.1
  case round =>
    obtain ⟨k, hk, rfl, rfl, hbm1, hbn1, hbo, hbr, hbel⟩ := hrel
    clear hz
    have HM := hid hbm1
    have HN := hid hbn1
    have HO := hid hbo
    have HR := hid hbr
    have hsz := lt_of_block hbo
    by_cases hlt : k < 128
    · have c1 := (row_cells hbm1 k).1
      have c2 := (row_cells hbn1 k).1
      have c3 := (row_cells hbo k).1
      have f3 := (row_cells hbo k).2
      unfold bitsV at c1 c2
      unfold sumRow at c3
      rw [rowf_get _ _ _ (by omega)] at c1 c2 c3
      have hcl := car_le m n k
      have hst := hid (sumstep m n k _ _ _ rfl rfl rfl)
      generalize hx : m.testBit k = x at *
      generalize hy : n.testBit k = y at *
      generalize hc : car m n k = c at *
      clear hx hy hc hbm1 hbn1 hbo hbr
      cases x <;> cases y
      all_goals
        simp only [Bool.toNat_true, Bool.toNat_false] at hst
        go_wp2
        go_roundw
        case rel =>
          refine ⟨k + 1, by omega, by go_num, ?_, ?_, ?_, ?_, ?_, hbel.setCell (by simp; omega) _⟩
          · rw [← hst.out.2]; congr 2 <;> omega
          · rw [hp_set, if_neg (by omega), HM.out]
          · rw [hp_set, if_neg (by omega), HN.out]
          · rw [hp_set, if_pos rfl, HO.out, ← sumRow_succ, ← hst.out.1]
            simp only [Option.map_some, updCell, Option.some.injEq, Obj.cells.injEq, and_true]
            congr 4
          · rw [hp_set, if_neg (by omega), HR.out]
        case measure => simp [intOf]; omega
    · obtain rfl : k = 128 := by omega
      have E := hid (sumRow_end m n)
      clear hbm1 hbn1 hbo hbr
      generalize car m n 128 = c at *
      go_wp2_with (first
        | (refine wpList_load_row rfl 26 (.tmp 5) rfl (w.heap.size + 1 + 1 + 1) rfl 26 (sumRow m n 128) (0, 0) _ HO.out Try.underlying26 rfl (by rw [infoRW, E.out, size_bitsV]) ?_)
        | ((refine wpList_put_row rfl 26 (.tmp 4) (.tmp 31) rfl (w.heap.size + 1 + 1) rfl (sumRow m n 128) rfl HR.out (by rw [E.out, size_bitsV, rowf_size]) (by rw [infoRW, E.out, size_bitsV]) (rowf_one fun _ => rfl) ?_); intro w2 hg2 hgr2 hs2))
      refine ret_c (g := w.heap.size + 1 + 1) (cs := sumRow m n 128) (t := 26) (fr := (0, 0)) Try.results7 rfl rfl hg2 Try.underlying26 rfl (by rw [infoRW, E.out, size_bitsV]) ⟨by rw [E.out], hbel.grown hgr2 (by omega) (fun k hk => by cases hk; omega)⟩

/-! ### its halves -/
theorem half_step (H j : Nat) : H / 2 ^ j = 2 * (H / 2 ^ (j + 1)) + (H.testBit j).toNat := by
  rw [Nat.pow_succ, ← Nat.div_div_eq_div_mul, Nat.testBit_eq_decide_div_mod_eq]
  generalize H / 2 ^ j = q
  rcases Nat.mod_two_eq_zero_or_one q with h | h <;> simp [h] <;> omega

set_option maxRecDepth 100000 in
set_option maxHeartbeats 2000000 in
theorem rhalves_any (n H L : Nat) (hH : H = n / 2 ^ 64 % 2 ^ 64) (hL : L = n % 2 ^ 64) (w : World) :
    Calls Try.prog 13 #[.agg (bitsV n)] w fun e w' => e = .returned (.tuple #[.int .i64 (wrap64 (H : Int)), .int .u64 (L : Int)]) ∧ Below w.heap.size w w' := by
  have hHb : H < 2 ^ 64 := by rw [hH]; exact Nat.mod_lt _ (Nat.two_pow_pos 64)
  have hLb : L < 2 ^ 64 := by rw [hL]; exact Nat.mod_lt _ (Nat.two_pow_pos 64)
  have tH : ∀ j, j < 64 → n.testBit (64 + j) = H.testBit j := by
    intro j hj; rw [hH, Nat.testBit_mod_two_pow, Nat.testBit_div_two_pow]; simp [hj]; rw [Nat.add_comm]
  have tL : ∀ j, j < 64 → n.testBit j = L.testBit j := by
    intro j hj; rw [hL, Nat.testBit_mod_two_pow]; simp [hj]
  have HB := hid hHb
  have LB := hid hLb
  have TH := hid tH
  have TL := hid tL
  clear hH hL hHb hLb tH tL
  go_enter Try.func13, Try.ntmps13
  go_wp2
  go_loopw [4, 5, 6] (fun h l i wr => ∃ m : Nat, m ≤ 64 ∧ i = .int .i64 ((m : Int) - 1) ∧ h = .int .u64 ((H / 2 ^ m : Nat) : Int) ∧ l = .int .u64 ((L / 2 ^ m : Nat) : Int) ∧ wr.heap[w.heap.size]? = some (.cells (bitsV n) 26 (0, 0)) ∧ Below w.heap.size w wr)
    (fun _ _ i _ => (intOf i + 1).toNat)
  case atStart =>
    refine ⟨64, Nat.le_refl _, rfl, ?_, ?_, hnew rfl, Below.new w _⟩
    · rw [Nat.div_eq_of_lt HB.out]; rfl
    · rw [Nat.div_eq_of_lt LB.out]; rfl
  case round =>
    obtain ⟨m, hm, rfl, rfl, rfl, hb, hbel⟩ := hrel
    cases m with
    | zero =>
      have e1 : Hid ((H / 2 ^ 0 : Nat) = H) := hid (by simp)
      have e2 : Hid ((L / 2 ^ 0 : Nat) = L) := hid (by simp)
      clear hb
      generalize (H / 2 ^ 0 : Nat) = x at *
      generalize (L / 2 ^ 0 : Nat) = y at *
      go_wp2
      go_ret2
      exact ⟨by rw [e1.out, e2.out]; rfl, hbel⟩
    | succ j =>
      rw [show (((j + 1 : Nat) : Int) - 1) = (j : Int) from by omega]
      have c1 := (row_cells hb (64 + j)).1
      have c2 := (row_cells hb j).1
      unfold bitsV at c1 c2
      rw [rowf_get _ _ _ (by omega)] at c1 c2
      rw [TH.out j (by omega)] at c1
      rw [TL.out j (by omega)] at c2
      have s1 := hid (half_step H j)
      have s2 := hid (half_step L j)
      have b1 : H / 2 ^ j < 2 ^ 64 := Nat.lt_of_le_of_lt (Nat.div_le_self _ _) HB.out
      have b2 : L / 2 ^ j < 2 ^ 64 := Nat.lt_of_le_of_lt (Nat.div_le_self _ _) LB.out
      rw [s1.out] at b1
      rw [s2.out] at b2
      have BB := hid hb
      clear hb
      generalize (H / 2 ^ (j + 1) : Nat) = x at *
      generalize (L / 2 ^ (j + 1) : Nat) = y at *
      generalize H.testBit j = p at *
      generalize L.testBit j = q at *
      have v1 : IntKind.u64.wrap (2 * (x : Int)) = 2 * (x : Int) := by rw [IntKind.wrap_u64]; omega
      have v2 : IntKind.u64.wrap (2 * (y : Int)) = 2 * (y : Int) := by rw [IntKind.wrap_u64]; omega
      cases p <;> cases q
      all_goals
        simp only [Bool.toNat_true, Bool.toNat_false] at s1 s2 b1 b2
        have v3 : IntKind.u64.wrap (2 * (x : Int) + 1) = 2 * (x : Int) + 1 := by rw [IntKind.wrap_u64]; omega
        have v4 : IntKind.u64.wrap (2 * (y : Int) + 1) = 2 * (y : Int) + 1 := by rw [IntKind.wrap_u64]; omega
        have B1 := hid b1
        have B2 := hid b2
        clear b1 b2
        go_wp2
        go_roundw
        case rel => exact ⟨j, by omega, rfl, by rw [s1.out]; go_num, by rw [s2.out]; go_num, BB.out, hbel⟩
        case measure => simp [intOf]

/-! ### is it an int64? -/
def allB (n : Nat) : Bool := (List.range 64).all fun j => n.testBit (64 + j) == n.testBit 63
theorem allB_no (n k : Nat) (h1 : 64 ≤ k) (h2 : k < 128) (h : n.testBit k ≠ n.testBit 63) : allB n = false := by
  cases he : allB n with
  | false => rfl
  | true =>
    exfalso
    have := List.all_eq_true.1 he (k - 64) (List.mem_range.2 (by omega))
    rw [show 64 + (k - 64) = k from by omega] at this
    exact h (by simpa using this)

def intV (n L : Nat) : Value := .tuple #[.int .i64 (if allB n then wrap64 (L : Int) else 0), .bool (allB n)]
theorem intV_no {n L : Nat} (h : allB n = false) : Value.tuple #[.int .i64 0, .bool false] = intV n L := by simp [intV, h]
theorem intV_yes {n L : Nat} (h : allB n = true) : Value.tuple #[.int .i64 (wrap64 (L : Int)), .bool true] = intV n L := by simp [intV, h]
theorem ret_val {v u : Value} (h : v = u) : Ending.returned v = .returned u := by rw [h]
theorem below_drewN {B : Nat} {a w : World} (h : Below B a w) (n : Nat) : Below B a (w.drewN n) := ⟨h.os, h.tape, h.output, h.size, h.block⟩
theorem allB_yes (n : Nat) (h : ∀ j, 64 ≤ j → j < 128 → n.testBit j = n.testBit 63) : allB n = true := by
  refine List.all_eq_true.2 fun j hj => ?_
  rw [h (64 + j) (by omega) (by have := List.mem_range.1 hj; omega)]
  simp

set_option maxRecDepth 100000 in
set_option maxHeartbeats 2000000 in
theorem rint_any (n L : Nat) (H : Nat) (hH : H = n / 2 ^ 64 % 2 ^ 64) (hL : L = n % 2 ^ 64) (w : World) :
    Calls Try.prog 9 #[.agg (bitsV n)] w fun e w' => e = .returned (intV n L) ∧ Below w.heap.size w w' := by
  have HL := hid hL
  have HH := hid hH
  clear hL hH
  go_enter Try.func9, Try.ntmps9
  go_wp2
  go_loopw [4] (fun i wr => ∃ k : Nat, 64 ≤ k ∧ k ≤ 128 ∧ i = .int .i64 k ∧ wr.heap[w.heap.size]? = some (.cells (bitsV n) 26 (0, 0)) ∧ Hid (∀ j, 64 ≤ j → j < k → n.testBit j = n.testBit 63) ∧ Below w.heap.size w wr)
    (fun i _ => (128 - intOf i).toNat)
  case atStart =>
    exact ⟨64, by omega, by omega, rfl, hnew rfl, hid (fun j h1 h2 => by omega), Below.new w _⟩
  case round =>
    obtain ⟨k, hk1, hk2, rfl, hb, hall, hbel⟩ := hrel
    have BB := hid hb
    by_cases hlt : k < 128
    · have c1 := (row_cells hb k).1
      have c2 := (row_cells hb 63).1
      unfold bitsV at c1 c2
      rw [rowf_get _ _ _ (by omega)] at c1 c2
      clear hb
      have AN := hid (allB_no n k hk1 hlt)
      generalize hx : n.testBit k = x at *
      generalize hy : n.testBit 63 = y at *
      have HX := hid hx
      clear hx
      have HY := hid hy
      clear hy
      have hki : (k : Int) < 128 := by omega
      have HS : Hid (x = y → ∀ j, 64 ≤ j → j < k + 1 → n.testBit j = y) := hid fun hxy j h1 h2 => by
        rcases Nat.lt_or_ge j k with h | h
        · exact hall.out j h1 h
        · rw [show j = k from by omega, HX.out, hxy]
      cases x <;> cases y
      all_goals
        go_wp2
        go_quiet (fail)
        go_wp2
        first
          | (go_ret2; exact ⟨ret_val (intV_no (AN.out (by simp))), below_drewN hbel _⟩)
          | (go_roundw
             case rel => exact ⟨k + 1, by omega, by omega, by go_num, BB.out, hid (HS.out (by simp)), below_drewN hbel _⟩
             case measure => simp [intOf]; omega)
    · obtain rfl : k = 128 := by omega
      have AY := hid (allB_yes n hall.out)
      clear hb
      go_wp2_with (first
        | (refine wpList_load_row rfl 26 (.tmp 1) rfl w.heap.size rfl 26 (bitsV n) (0, 0) _ BB.out Try.underlying26 rfl (by rw [infoRW, size_bitsV]) ?_)
        | (go_at_call 13; refine (rhalves_any n H L HH.out HL.out _).mono ?_; rintro e w2 ⟨rfl, hb2⟩))
      go_ret2
      exact ⟨ret_val (intV_yes AY.out), Below.step hbel hb2⟩
end Go.Proofs.Ytdekhoopbcihaaa
