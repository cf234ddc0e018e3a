/-
  Contracts of package wide: Of, Plus, Int, Key, Get. A wide number is told by any whole number that it is congruent to modulo 2 to the 128.
-/
import Derived.Test.YtdekhoopbcihaaaRows
import Derived.Test.YtdekhoopbcihaaaMem
namespace Go.Proofs.Ytdekhoopbcihaaa
open Go.RowKit Go.RG

def whi (z : Int) : Int := wrap64 (z / 18446744073709551616)
def wlo (z : Int) : Int := z % 18446744073709551616
def wca (x y : Int) : Int := (x + y) / 18446744073709551616

theorem of_arith (n : Int) (h : -9223372036854775808 ≤ n ∧ n ≤ 9223372036854775807) : n / 9223372036854775808 = whi n ∧ IntKind.u64.wrap n = wlo n := by
  constructor
  · unfold whi wrap64; omega
  · simp [IntKind.wrap, IntKind.signed, IntKind.bits, wlo]

theorem wlo_pos (z : Int) : 0 ≤ wlo z := by unfold wlo; omega
theorem wlo_add (a b : Int) : wlo (wlo a + wlo b) = wlo (a + b) := by unfold wlo; omega
theorem whi_add (a b : Int) : wrap64 (wrap64 (whi a + whi b) + wca (wlo a) (wlo b)) = whi (a + b) := by unfold wca whi wlo wrap64; omega
theorem wca_bd (a b : Int) : 0 ≤ wca (wlo a) (wlo b) ∧ wca (wlo a) (wlo b) ≤ 1 := by unfold wca wlo; omega

theorem add64_call (x y : Int) (hx : 0 ≤ x) (hy : 0 ≤ y) (w : World) : (callFunc 17 #[.int .u64 x, .int .u64 y, .int .u64 0]).run Try.prog w = .ok (.value (.tuple #[.int .u64 (wlo (x + y)), .int .u64 (wca x y)])) w := by
  rw [run_callFunc_extern Try.func17 (by kernel_rfl) (by kernel_rfl) (by kernel_rfl) (e := add64Entry) (by kernel_rfl), run_add64 x y 0 hx hy (by omega) (by omega)]
  simp only [Result.andThen, Int.add_zero]
  rfl

set_option maxHeartbeats 400000 in
theorem of_any (n : Int) (hn : -9223372036854775808 ≤ n ∧ n ≤ 9223372036854775807) (w : World) :
    Calls Try.prog 14 #[.int .i64 n] w fun e w' => e = .returned (.agg #[.int .i64 (whi n), .int .u64 (wlo n)]) ∧ Below w.heap.size w w' := by
  obtain ⟨h1, h2⟩ := of_arith n hn
  have H := hid h1
  have H2 := hid h2
  clear h1 h2 hn
  go_enter Try.func14, Try.ntmps14
  go_wp2
  refine bodyPost_ret (v := .agg #[.int .i64 (n / 9223372036854775808), .int .u64 (IntKind.u64.wrap n)]) (by simp [results, Try.results14, go_sem]) rfl ⟨by rw [H.out, H2.out], (Below.refl _ _).alloc (Nat.le_refl _) _⟩

theorem sum_snoc (zs : List Int) (k : Nat) (h : k < zs.length) : (zs.take (k + 1)).sum = (zs.take k).sum + zs[k]?.getD 0 := by
  rw [List.take_succ_eq_append_getElem h, List.sum_append]; simp [h]

set_option maxHeartbeats 400000 in
theorem plus_at (b o cap : Nat) (zs : List Int) (w : World) (hb : b < w.heap.size) (hl : zs.length ≤ 1000000)
   (hc : ∀ k, k < zs.length → w.cell? ⟨b, o + k * 2, none⟩ = some (.int .i64 (whi (zs[k]?.getD 0))) ∧ w.cell? ⟨b, o + k * 2 + 1, none⟩ = some (.int .u64 (wlo (zs[k]?.getD 0)))) :
    Calls Try.prog 12 #[.slice (some ⟨b, o, none⟩) zs.length cap] w fun e w' => e = .returned (.agg #[.int .i64 (whi zs.sum), .int .u64 (wlo zs.sum)]) ∧ Below w.heap.size w w' := by
  go_enter Try.func12, Try.ntmps12
  go_wp2
  go_loopw [10] (fun i wr => ∃ k : Nat, k ≤ zs.length ∧ i = .int .i64 k ∧ wr.heap[w.heap.size + 1]? = some (.cells #[.int .i64 (whi (zs.take k).sum), .int .u64 (wlo (zs.take k).sum)] 29 (0, 0)) ∧ wr.heap[w.heap.size]? = some (.cells #[.int .i64 0, .int .u64 0] 29 (0, 0)) ∧ Below w.heap.size w wr)
    (fun i _ => zs.length - (intOf i).toNat)
  case atStart =>
    refine ⟨0, Nat.zero_le _, rfl, ?_, ?_, ((Below.refl _ _).alloc (Nat.le_refl _) _).alloc (by simp) _⟩
    · rw [hp_alloc, if_pos (by simp)]; simp [whi, wlo, wrap64]
    · rw [hp_alloc, if_neg (by simp), hp_alloc, if_pos rfl]
  case round =>
    obtain ⟨k, hk, rfl, hbx, hbr, hbel⟩ := hrel
    obtain ⟨c0, c1, f0, f1, hlt⟩ := two_cells hbx
    obtain ⟨d0, d1, g0, g1, hlt2⟩ := two_cells hbr
    have HB := hid hbx
    have HR := hid hbr
    clear hbx hbr
    by_cases hlt : k < zs.length
    · obtain ⟨e0, e1⟩ := hc k hlt
      rw [← hbel.cell hb] at e0
      rw [← hbel.cell hb] at e1
      have HS := hid (sum_snoc zs k hlt)
      generalize (zs.take k).sum = s at *
      generalize zs[k]?.getD 0 = z at *
      have hadd := add64_call (wlo s) (wlo z) (wlo_pos s) (wlo_pos z)
      rw [wlo_add] at hadd
      obtain ⟨q1, q2⟩ := wca_bd s z
      have HW := hid (whi_add s z)
      clear hc
      go_wp2_with fail
      go_roundw
      case rel =>
        refine ⟨k + 1, by omega, by go_num, ?_, ?_, (((hbel.setCell (by simp) _).setCell (by simp) _).alloc (by simp; omega) _)⟩
        · rw [hp_alloc, if_neg (by simp; omega), hp_set, if_pos rfl, hp_set, if_pos rfl, HB.out, HS.out, ← HW.out]; rfl
        · rw [hp_alloc, if_neg (by simp; omega), hp_set, if_neg (by omega), hp_set, if_neg (by omega), HR.out]
      case measure => simp [intOf]; omega
    · obtain rfl : k = zs.length := by omega
      have E : Hid (zs.sum = (zs.take zs.length).sum) := by rw [List.take_length]; rfl
      clear hc
      generalize (zs.take zs.length).sum = s at *
      go_wp2_with fail
      refine ret_c (g := w.heap.size) (cs := #[.int .i64 (whi s), .int .u64 (wlo s)]) (t := 29) (fr := (0, 0)) Try.results12 rfl rfl ?_ Try.underlying29 rfl (by kernel_rfl) ⟨by rw [E.out], ?_⟩
      · simp [hp_set, HR.out, updCell]
      · exact (hbel.setCell (by simp) _).setCell (by simp) _

set_option maxHeartbeats 400000 in
theorem plus_nil (w : World) :
    Calls Try.prog 12 #[.slice none 0 0] w fun e w' => e = .returned (.agg #[.int .i64 0, .int .u64 0]) ∧ Below w.heap.size w w' := by
  go_enter Try.func12, Try.ntmps12
  go_wp2
  refine wp_loop_rounds 1 ?_
  rw [rounds_succ]
  go_wp2
  refine ret_c (g := w.heap.size) (t := 29) (fr := (0, 0)) Try.results12 rfl rfl ?_ Try.underlying29 rfl (by kernel_rfl) ⟨rfl, ?_⟩
  · rw [hp_alloc, if_neg (by simp), hp_alloc, if_pos rfl]
  · exact (Below.new w _).alloc (by simp) _

def wcells (zs : List Int) : List Value := zs.flatMap fun z => [.int .i64 (whi z), .int .u64 (wlo z)]
theorem wcells_len (zs : List Int) : (wcells zs).length = zs.length * 2 := by
  induction zs with
  | nil => rfl
  | cons z zs ih => simp only [wcells, List.flatMap_cons, List.length_append, List.length_cons, List.length_nil] at *; omega
theorem wcells_get (zs : List Int) (k : Nat) (h : k < zs.length) : (wcells zs)[k * 2]? = some (.int .i64 (whi (zs[k]?.getD 0))) ∧ (wcells zs)[k * 2 + 1]? = some (.int .u64 (wlo (zs[k]?.getD 0))) := by
  induction zs generalizing k with
  | nil => simp at h
  | cons z zs ih =>
    cases k with
    | zero => simp [wcells]
    | succ k =>
      have := ih k (by simpa using h)
      rw [show (k + 1) * 2 = k * 2 + 1 + 1 from by omega]
      simpa [wcells] using this
theorem wcells_append (a b : List Int) : wcells (a ++ b) = wcells a ++ wcells b := by simp [wcells]

/-- the sum of a row of the call's own -/
theorem plus_own (v : Value) (base n : Nat) (zs : List Int) (S : Int) (w : World) (hn : zs.length = n) (hS : zs.sum = S) (hl : n ≤ 1000000) (h : w.ownsRow base 29 2 v n (wcells zs)) :
    Calls Try.prog 12 #[v] w fun e w' => e = .returned (.agg #[.int .i64 (whi S), .int .u64 (wlo S)]) ∧ Below w.heap.size w w' := by
  subst hS
  subst hn
  rcases h.2 with ⟨rfl, h0⟩ | ⟨g, cap, cur, rfl, hb, hg, hn, hc, hs, ht⟩
  · obtain rfl : zs = [] := List.eq_nil_of_length_eq_zero h0
    refine (plus_nil w).mono ?_
    rintro e w' ⟨rfl, hb⟩
    exact ⟨by simp [whi, wlo, wrap64], hb⟩
  · refine plus_at g 0 cap zs w (lt_of_block hg) hl fun k hk => ?_
    have hcell : ∀ j, j < zs.length * 2 → w.cell? ⟨g, 0 + j, none⟩ = (wcells zs)[j]? := by
      intro j hj
      rw [Nat.zero_add, (row_cells hg j).1, ← ht, List.getElem?_take, if_pos hj]
      simp
    obtain ⟨e1, e2⟩ := wcells_get zs k hk
    exact ⟨(hcell _ (by omega)).trans e1, (hcell _ (by omega)).trans e2⟩

/-- the number of some bytes, the highest first -/
def num (l : List UInt8) : Int := l.foldl (fun n c => n * 256 + c.toNat) 0
theorem num_snoc (l : List UInt8) (c : UInt8) : num (l ++ [c]) = num l * 256 + c.toNat := by simp [num]
theorem snoc_ind {α : Type} {p : List α → Prop} (h0 : p []) (h1 : ∀ l c, p l → p (l ++ [c])) (l : List α) : p l := by
  have h : ∀ r : List α, p r.reverse := by
    intro r
    induction r with
    | nil => exact h0
    | cons c r ih => rw [List.reverse_cons]; exact h1 _ _ ih
  simpa using h l.reverse
theorem num_bd (l : List UInt8) : 0 ≤ num l ∧ num l < ((256 ^ l.length : Nat) : Int) := by
  refine snoc_ind (p := fun l => 0 ≤ num l ∧ num l < ((256 ^ l.length : Nat) : Int)) (by simp [num]) (fun l c ih => ?_) l
  rw [num_snoc]; have := c.toNat_lt; rw [List.length_append, List.length_singleton, Nat.pow_succ]; generalize (256 : Nat) ^ l.length = q at *; omega
theorem num_bd7 (l : List UInt8) (h : l.length ≤ 7) : num l < 72057594037927936 := by
  have h1 := (num_bd l).2
  have h2 := Nat.pow_le_pow_right (n := 256) (by omega) h
  generalize (256 : Nat) ^ l.length = q at *
  omega
theorem num_step (n : Int) (c : UInt8) (h0 : 0 ≤ n) (h1 : n < 72057594037927936) : bits .or .u64 (IntKind.u64.wrap (n * 256)) (IntKind.u64.wrap (c.toNat : Int)) = n * 256 + c.toNat := by
  obtain ⟨m, rfl⟩ := Int.eq_ofNat_of_zero_le h0
  have hc := c.toNat_lt
  rw [IntKind.wrap_u64, IntKind.wrap_u64, Int.emod_eq_of_lt (by omega) (by omega), Int.emod_eq_of_lt (by omega) (by omega)]
  rw [show ((m : Int) * 256) = ((m * 256 : Nat) : Int) from by omega, u64_or_nat _ _ (by omega) (by omega), nat_join 8 _ _ (by omega) (by omega)]
  omega

theorem take_snoc (l : List UInt8) (k : Nat) (h : k < l.length) : l.take (k + 1) = l.take k ++ [l[k]] := List.take_succ_eq_append_getElem h

set_option maxHeartbeats 400000 in
theorem number_any (s : ByteArray) (hs : s.size = 8) (w : World) :
    Calls Try.prog 15 #[.string s] w fun e w' => e = .returned (.int .u64 (num s.data.toList)) ∧ w = w' := by
  go_enter Try.func15, Try.ntmps15
  go_wp2
  go_loop [7, 3] (fun i n => ∃ k : Nat, k ≤ s.size ∧ i = .int .i64 k ∧ n = .int .u64 (num (s.data.toList.take k))) (fun i _ => s.size - (intOf i).toNat)
  case atStart => exact ⟨0, Nat.zero_le _, rfl, rfl⟩
  case round =>
    obtain ⟨k, hk, rfl, rfl⟩ := hrel
    by_cases hlt : k < s.size
    · have hb := num_bd (s.data.toList.take k)
      have hb2 := num_bd7 (s.data.toList.take k) (by simp; omega)
      have HS := hid (num_step _ s[k] hb.1 hb2)
      have HT := hid (take_snoc s.data.toList k (by simpa using hlt))
      clear hb hb2
      go_wp2
      go_round
      case rel =>
        refine ⟨k + 1, by omega, by go_num, ?_⟩
        rw [HT.out, num_snoc, HS.out]
        rfl
      case measure => simp [intOf]; omega
    · go_wp2
      go_ret
      exact ⟨ret_int (by rw [List.take_of_length_le (by simp; omega)]), rfl⟩

/-- the eight bytes of a number -/
def byteOf (z : Int) (j : Nat) : Int := z / 2 ^ (8 * (7 - j)) % 256
def eightL (z : Int) : List Int := (List.range 8).map (byteOf z)
def eightRow (z : Int) (k : Nat) (j : Nat) : Value := .int .u8 (if 8 ≤ j + k then byteOf z j else 0)
theorem eightRow_succ (z : Int) (k : Nat) (h : k < 8) : (rowf 8 (eightRow z k)).setIfInBounds (7 - k) (.int .u8 (z / 2 ^ (8 * k) % 256)) = rowf 8 (eightRow z (k + 1)) := by
  rw [rowf_set]
  refine rowf_congr fun j hj => ?_
  simp only [eightRow]
  by_cases e : j = 7 - k
  · subst e
    rw [if_pos rfl, if_pos (by omega)]
    simp only [byteOf]
    rw [show 7 - (7 - k) = k from by omega]
  · rw [if_neg e]
    by_cases h2 : 8 ≤ j + k
    · rw [if_pos h2, if_pos (by omega)]
    · rw [if_neg h2, if_neg (by omega)]

set_option maxHeartbeats 400000 in
theorem eight_any (z : Int) (hz : 0 ≤ z) (w : World) :
    Calls Try.prog 16 #[.int .u64 z] w fun e w' => e = .returned (.string (strOfNums (eightL z))) ∧ Below w.heap.size w w' := by
  have hmk : ∀ w, (Instr.makeSlice 52 (.int .i64 8) (.int .i64 8)).run Try.prog w = .ok (.slice (some ⟨w.heap.size, 0, none⟩) 8 8) (w.alloc (.cells #[.int .u8 0, .int .u8 0, .int .u8 0, .int .u8 0, .int .u8 0, .int .u8 0, .int .u8 0, .int .u8 0] 5)) := fun _ => by kernel_rfl
  go_enter Try.func16, Try.ntmps16
  go_wp2
  clear hmk
  go_loopw [8] (fun i wr => ∃ k : Nat, k ≤ 8 ∧ i = .int .i64 k ∧ wr.heap[w.heap.size]? = some (.cells (rowf 8 (eightRow z k)) 5 (0, 0)) ∧ Below w.heap.size w wr) (fun i _ => 8 - (intOf i).toNat)
  case atStart =>
    refine ⟨0, Nat.zero_le _, rfl, ?_, (Below.refl _ _).alloc (Nat.le_refl _) _⟩
    rw [hp_alloc, if_pos rfl]; rfl
  case round =>
    obtain ⟨k, hk, rfl, hb, hbel⟩ := hrel
    by_cases hlt : k < 8
    · have hc := (row_cells hb (7 - k)).1
      have hf := (row_cells hb (7 - k)).2
      rw [rowf_get 8 _ _ (by omega)] at hc
      have HE := hid (eightRow_succ z k hlt)
      have HB := hid hb
      clear hb
      go_wp2
      go_roundw
      case rel =>
        refine ⟨k + 1, by omega, by go_num, ?_, hbel.setCell (by simp) _⟩
        rw [hp_set, if_pos rfl, HB.out, ← HE.out]; rfl
      case measure => simp [intOf]; omega
    · obtain rfl : k = 8 := by omega
      have hconv := run_convert_bytes_arg (P := Try.prog) (w := wr) 52 5 Try.underlying52 Try.underlying5 w.heap.size 0 8 8 (eightL z) (by simp [eightL]) (by
        intro i hi
        rw [Nat.zero_add, (row_cells hb i).1, rowf_get 8 _ _ hi]
        simp [eightRow, eightL, hi]) 9 Try.underlying9
      clear hb
      go_wp2
      go_ret
      exact ⟨rfl, hbel⟩

theorem mixed : Try.prog.follows .mixedOrders = true := by kernel_rfl


theorem size_eight (z : Int) : (strOfNums (eightL z)).size = 8 := by rw [strOfNums_size]; simp [eightL]

set_option maxHeartbeats 1000000 in
theorem key_any (h l : Int) (hl : 0 ≤ l) (w : World) :
    Calls Try.prog 11 #[.agg #[.int .i64 h, .int .u64 l]] w fun e w' => e = .returned (.string (strOfNums (eightL (IntKind.u64.wrap h)) ++ strOfNums (eightL l))) ∧ Below w.heap.size w w' := by
  have hh : 0 ≤ IntKind.u64.wrap h := by rw [IntKind.wrap_u64]; omega
  have hs1 := size_eight (IntKind.u64.wrap h)
  have hs2 := size_eight l
  go_enter Try.func11, Try.ntmps11
  go_wp2
  go_region_held3 (fun w' => w'.cell? ⟨w.heap.size, 0, none⟩ = some (.int .i64 h) ∧ w'.cell? ⟨w.heap.size, 1, none⟩ = some (.int .u64 l))
    (first | go_keep | exact keep2 ‹_› ‹_›)
    (first | (go_at_call 16; refine (eight_any _ (by assumption) _).mono ?_; rintro e w' ⟨rfl, hb2⟩))
  go_wp2
  go_ret
  exact ⟨rfl, Below.step (Below.step (Below.new w _).drew (by assumption)) (by assumption)⟩

set_option maxHeartbeats 1000000 in
theorem get_short (s : ByteArray) (hs : s.size < 16) (w : World) :
    Calls Try.prog 10 #[.string s] w fun e w' => e = .returned (.tuple #[.agg #[.int .i64 0, .int .u64 0], .int .i64 2]) ∧ Below w.heap.size w w' := by
  go_enter Try.func10, Try.ntmps10
  go_wp2
  refine ret_ct (g := w.heap.size) (t := 29) (fr := (0, 0)) Try.results10 rfl rfl (by rw [hp_alloc, if_pos rfl]) Try.underlying29 rfl (by kernel_rfl) ⟨rfl, Below.new w _⟩

set_option maxHeartbeats 1000000 in
theorem get_long (s : ByteArray) (hs : 16 < s.size) (w : World) :
    Calls Try.prog 10 #[.string s] w fun e w' => e = .returned (.tuple #[.agg #[.int .i64 0, .int .u64 0], .int .i64 3]) ∧ Below w.heap.size w w' := by
  go_enter Try.func10, Try.ntmps10
  go_wp2
  refine ret_ct (g := w.heap.size) (t := 29) (fr := (0, 0)) Try.results10 rfl rfl (by rw [hp_alloc, if_pos rfl]) Try.underlying29 rfl (by kernel_rfl) ⟨rfl, Below.new w _⟩

set_option maxHeartbeats 1000000 in
theorem get_fits (s : ByteArray) (hs : s.size = 16) (w : World) :
    Calls Try.prog 10 #[.string s] w fun e w' => e = .returned (.tuple #[.agg #[.int .i64 (wrap64 (num (s.extract 0 8).data.toList)), .int .u64 (num (s.extract 8 16).data.toList)], .int .i64 0]) ∧ Below w.heap.size w w' := by
  have h1 : (s.extract 0 8).size = 8 := by simp [ByteArray.size_extract, hs]
  have h2 : (s.extract 8 16).size = 8 := by simp [ByteArray.size_extract, hs]
  go_enter Try.func10, Try.ntmps10
  go_wp2
  go_region_held3 (fun _ => True) (trivial)
    (first | (go_at_call 15; refine (number_any _ (by assumption) _).mono ?_; rintro e w' ⟨rfl, rfl⟩))
  go_wp2
  refine ret_ct (g := w.heap.size) (t := 29) (fr := (0, 0)) Try.results10 rfl rfl (by rw [heap_drew, hp_alloc, if_pos rfl]) Try.underlying29 rfl (by kernel_rfl) ⟨?_, (Below.new w _).drew⟩
  simp [IntKind.wrap, IntKind.signed, IntKind.bits, wrap64]
  split <;> omega

theorem fits_whi (z : Int) : wrap64 (wlo z) = wrap64 z := by unfold wrap64 wlo; omega
theorem wlo_wrap (z : Int) : wlo (wrap64 z) = wlo z := by unfold wrap64 wlo; omega

set_option maxHeartbeats 1000000 in
theorem int_yes (z : Int) (hz : whi (wrap64 z) = whi z) (w : World) :
    Calls Try.prog 8 #[.agg #[.int .i64 (whi z), .int .u64 (wlo z)]] w fun e w' => e = .returned (.tuple #[.int .i64 (wrap64 z), .bool true]) ∧ Below w.heap.size w w' := by
  have b1 : -9223372036854775808 ≤ wrap64 z ∧ wrap64 z ≤ 9223372036854775807 := by unfold wrap64; omega
  have h2 := fits_whi z
  have h3 := wlo_wrap z
  go_enter Try.func8, Try.ntmps8
  go_wp2
  go_region_held3 (fun w' => w'.cell? ⟨w.heap.size, 0, none⟩ = some (.int .i64 (whi z)) ∧ w'.cell? ⟨w.heap.size, 1, none⟩ = some (.int .u64 (wlo z)))
    (first | go_keep | exact keep2 ‹_› ‹_›)
    (first | (go_at_call 14; refine (of_any _ (by assumption) _).mono ?_; rintro e w' ⟨rfl, hb2⟩))
  go_wp2
  go_ret2
  exact ⟨rfl, Below.step (Below.new w _).drew (by assumption)⟩

set_option maxHeartbeats 1000000 in
theorem int_no (z : Int) (hz : ¬ whi (wrap64 z) = whi z) (w : World) :
    Calls Try.prog 8 #[.agg #[.int .i64 (whi z), .int .u64 (wlo z)]] w fun e w' => e = .returned (.tuple #[.int .i64 0, .bool false]) ∧ Below w.heap.size w w' := by
  have b1 : -9223372036854775808 ≤ wrap64 z ∧ wrap64 z ≤ 9223372036854775807 := by unfold wrap64; omega
  have h2 := fits_whi z
  have h3 := wlo_wrap z
  go_enter Try.func8, Try.ntmps8
  go_wp2
  go_region_held3 (fun w' => w'.cell? ⟨w.heap.size, 0, none⟩ = some (.int .i64 (whi z)) ∧ w'.cell? ⟨w.heap.size, 1, none⟩ = some (.int .u64 (wlo z)))
    (first | go_keep | exact keep2 ‹_› ‹_›)
    (first | (go_at_call 14; refine (of_any _ (by assumption) _).mono ?_; rintro e w' ⟨rfl, hb2⟩))
  go_wp2
  go_ret2
  exact ⟨rfl, Below.step (Below.new w _).drew (by assumption)⟩


theorem list8 {α : Type} (l : List α) (h : l.length = 8) : ∃ a b c d e f g i, l = [a, b, c, d, e, f, g, i] := by
  match l, h with
  | [a, b, c, d, e, f, g, i], _ => exact ⟨a, b, c, d, e, f, g, i, rfl⟩

theorem eight_num (l : List UInt8) (h : l.length = 8) : strOfNums (eightL (num l)) = ⟨l.toArray⟩ := by
  obtain ⟨a, b, c, d, e, f, g, i, rfl⟩ := list8 l h
  have h0 := a.toNat_lt
  have h1 := b.toNat_lt
  have h2 := c.toNat_lt
  have h3 := d.toNat_lt
  have h4 := e.toNat_lt
  have h5 := f.toNat_lt
  have h6 := g.toNat_lt
  have h7 := i.toNat_lt
  have key : eightL (num [a, b, c, d, e, f, g, i]) = [(a.toNat : Int), b.toNat, c.toNat, d.toNat, e.toNat, f.toNat, g.toNat, i.toNat] := by
    simp only [eightL, num, List.foldl, show List.range 8 = [0, 1, 2, 3, 4, 5, 6, 7] from rfl, List.map_cons, List.map_nil, byteOf]
    simp only [Nat.reduceSub, Nat.reduceMul, Int.reducePow, List.cons.injEq, and_true]
    refine ⟨?_, ?_, ?_, ?_, ?_, ?_, ?_, ?_⟩ <;> omega
  rw [key]
  simp [strOfNums]

theorem num_lt8 (l : List UInt8) (h : l.length = 8) : 0 ≤ num l ∧ num l < 18446744073709551616 := by
  obtain ⟨a, b, c, d, e, f, g, i, rfl⟩ := list8 l h
  have h0 := a.toNat_lt
  have h1 := b.toNat_lt
  have h2 := c.toNat_lt
  have h3 := d.toNat_lt
  have h4 := e.toNat_lt
  have h5 := f.toNat_lt
  have h6 := g.toNat_lt
  have h7 := i.toNat_lt
  simp only [num, List.foldl]
  omega

/-- the wide number of a key has that key -/
theorem get_key (s : ByteArray) (hs : s.size = 16) : ∃ h l : Int,
    (∀ w, Calls Try.prog 10 #[.string s] w fun e w' => e = .returned (.tuple #[.agg #[.int .i64 h, .int .u64 l], .int .i64 0]) ∧ Below w.heap.size w w') ∧
    (∀ w, Calls Try.prog 11 #[.agg #[.int .i64 h, .int .u64 l]] w fun e w' => e = .returned (.string s) ∧ Below w.heap.size w w') := by
  have l1 : (s.extract 0 8).data.toList.length = 8 := by simp [hs]
  have l2 : (s.extract 8 16).data.toList.length = 8 := by simp [hs]
  refine ⟨_, _, fun w => get_fits s hs w, fun w => ?_⟩
  refine (key_any _ _ (num_lt8 _ l2).1 w).mono ?_
  rintro e w' ⟨rfl, hb⟩
  refine ⟨ret_str ?_, hb⟩
  have e1 : IntKind.u64.wrap (wrap64 (num (s.extract 0 8).data.toList)) = num (s.extract 0 8).data.toList := by
    have := num_lt8 _ l1
    generalize num (s.extract 0 8).data.toList = q at *
    rw [IntKind.wrap_u64]; unfold wrap64; omega
  rw [e1, eight_num _ l1, eight_num _ l2]
  apply ByteArray.ext
  simp
  rw [List.take_of_length_le (l := List.drop 8 s.data.toList) (by simp; have : s.data.size = 16 := hs; omega), List.take_append_drop]
end Go.Proofs.Ytdekhoopbcihaaa
