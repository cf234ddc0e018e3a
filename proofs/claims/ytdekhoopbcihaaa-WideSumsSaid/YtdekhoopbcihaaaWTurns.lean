/-
  The walk of WideTurns: it returns true for every slice of int64s and every string.
-/
import Derived.Test.YtdekhoopbcihaaaWide
namespace Go.Proofs.Ytdekhoopbcihaaa
open Go.RowKit Go.RG

set_option maxHeartbeats 1000000 in
theorem speaks_any (w : World) : Calls Try.prog 5 #[] w fun e w' => e = .returned (.bool true) ∧ Below w.heap.size w w' := by
  go_enter Try.func5, Try.ntmps5
  go_wp2_with fail
  refine (of_any _ (by omega) _).mono ?_
  rintro e w1 ⟨rfl, hb1⟩
  go_wp2_with fail
  refine (of_any _ (by omega) _).mono ?_
  rintro e w2 ⟨rfl, hb2⟩
  go_wp2_with fail
  refine (plus_own _ 0 2 [9223372036854775807, 1] _ _ rfl rfl (by decide) (own_lit (Nat.zero_le _) (heap_alloc_new _ _) rfl rfl (by decide))).mono ?_
  rintro e w3 ⟨rfl, hb3⟩
  go_wp2_with fail
  refine (int_no 9223372036854775808 (by unfold whi wrap64; omega) _).mono ?_
  rintro e w4 ⟨rfl, hb4⟩
  have c0 := keep1 hb4 (cell_of_block0 (heap_alloc_new w3 _))
  have c1 := keep1 hb4 (cell_of_block1 (heap_alloc_new w3 _))
  go_wp2_with fail
  go_region_held3 (fun w' => w'.cell? ⟨w3.heap.size, 0, none⟩ = some (.int .i64 (whi 9223372036854775808)) ∧ w'.cell? ⟨w3.heap.size, 1, none⟩ = some (.int .u64 (wlo 9223372036854775808)))
    (first | go_keep | exact keep2 ‹_› ‹_›)
    (first
      | (go_at_call 14; refine (of_any _ (by omega) _).mono ?_; rintro e w' ⟨rfl, hb5⟩)
      | (go_at_call 12; refine (plus_own _ 0 2 [9223372036854775808, -1] _ _ rfl rfl (by decide) (own_lit (Nat.zero_le _) (heap_alloc_new _ _) rfl rfl (by decide))).mono ?_; rintro e w' ⟨rfl, hb6⟩)
      | (go_at_call 8; refine (int_yes 9223372036854775807 (by unfold whi wrap64; omega) _).mono ?_; rintro e w' ⟨rfl, hb7⟩))
  have e0 : (wrap64 9223372036854775807 == 9223372036854775807) = true := by unfold wrap64; decide
  go_wp2_with fail
  go_ret
  exact ⟨rfl, by repeat (first | exact Below.refl _ _ | assumption | refine Below.step ?_ (by assumption) | refine Below.step ?_ (Below.new _ _) | refine Below.drew ?_)⟩

theorem elemW : Elem Try.prog 24 29 2 16 := Elem.mk' (z := .agg #[.int .i64 0, .int .u64 0]) Try.underlying24 (by kernel_rfl) rfl (by decide)

def halves (l : List Int) : List Int := l.flatMap fun z => [-z.tdiv 2, z.tdiv 2 - z]
theorem halves_snoc (l : List Int) (z : Int) : halves (l ++ [z]) = halves l ++ [-z.tdiv 2, z.tdiv 2 - z] := by simp [halves]
theorem halves_len (l : List Int) : (halves l).length = l.length * 2 := by
  induction l with
  | nil => rfl
  | cons z l ih => simp only [halves, List.flatMap_cons, List.length_append, List.length_cons, List.length_nil] at *; omega
theorem halves_sum (l : List Int) : (halves l).sum = - l.sum := by
  induction l with
  | nil => rfl
  | cons z l ih => simp only [halves, List.flatMap_cons, List.sum_append, List.sum_cons, List.sum_nil] at *; omega
theorem halves_bd (z : Int) (h1 : -9223372036854775808 ≤ z) (h2 : z ≤ 9223372036854775807) : -4611686018427387904 ≤ z.tdiv 2 ∧ z.tdiv 2 ≤ 4611686018427387904 ∧ -4611686018427387904 ≤ z - z.tdiv 2 ∧ z - z.tdiv 2 ≤ 4611686018427387904 := by
  by_cases h : 0 ≤ z
  · rw [Int.tdiv_eq_ediv_of_nonneg h]; omega
  · have e : z.tdiv 2 = -((-z) / 2) := by rw [← Int.tdiv_eq_ediv_of_nonneg (by omega), Int.neg_tdiv, Int.neg_neg]
    rw [e]; omega
theorem wrap_in (z : Int) (h1 : -9223372036854775808 ≤ z) (h2 : z ≤ 9223372036854775807) : IntKind.i64.wrap z = z := by
  rw [IntKind.wrap_i64]; omega
theorem take_snoc' (zs : List Int) (k : Nat) (h : k < zs.length) : zs.take (k + 1) = zs.take k ++ [zs[k]?.getD 0] := by
  rw [List.take_succ_eq_append_getElem h]; simp [h]
theorem wcells_one (zs : List Int) : ∀ u ∈ wcells zs, u.oneCell' = true := by
  intro u hu
  simp only [wcells, List.mem_flatMap] at hu
  obtain ⟨z, _, h⟩ := hu
  simp at h
  rcases h with rfl | rfl <;> rfl

def SlOk (w : World) (n len : Nat) (zs : List Int) (a : Option Addr) : Prop :=
  0 < n → ∃ b o, a = some ⟨b, o, none⟩ ∧ b < w.heap.size ∧ ∀ i, i < len → w.cell? ⟨b, o + i, none⟩ = some (.int .i64 (zs[i]?.getD 0))

set_option maxRecDepth 100000 in
set_option maxHeartbeats 4000000 in
theorem turns_any (ao : Option Addr) (len cap : Nat) (zs : List Int) (s : ByteArray) (w : World) (hl : len ≤ cap) (hcap : cap ≤ 9223372036854775807) (hs : s.size ≤ 9223372036854775807) (hz : len ≤ zs.length)
    (hnil : ao = none → cap = 0) (hsl : SlOk w len len zs ao) (hwf : ∀ n ∈ zs, -9223372036854775808 ≤ n ∧ n ≤ 9223372036854775807) :
    Calls Try.prog 4 #[.slice ao len cap, .string s] w fun e w' => e = .returned (.bool true) ∧ Below w.heap.size w w' := by
  obtain ⟨n, hn30, hnl, hcase⟩ : ∃ n : Nat, n ≤ 30 ∧ n ≤ len ∧ ((len ≤ 30 ∧ n = len) ∨ (30 < len ∧ n = 30)) := by
    by_cases h : len ≤ 30
    · exact ⟨len, h, Nat.le_refl _, .inl ⟨h, rfl⟩⟩
    · exact ⟨30, Nat.le_refl _, by omega, .inr ⟨by omega, rfl⟩⟩
  have HC := hid hcase
  have HSL := hid hsl
  clear hcase hsl
  go_enter Try.func4, Try.ntmps4
  go_upto_region 3 with (go_at_call 5; refine (speaks_any _).mono ?_; rintro e w1 ⟨rfl, hb1⟩)
  go_cut [0] (fun v wx => ∃ (a : Option Addr) (c : Nat), v = .slice a n c ∧ SlOk w n len zs a ∧ Below w.heap.size w wx)
  case first =>
    cases ao with
    | none =>
      obtain rfl := hnil rfl
      obtain rfl : len = 0 := by omega
      obtain rfl : n = 0 := by omega
      clear HC HSL
      go_wp2
      go_meet
      exact ⟨_, _, rfl, fun h => absurd h (by omega), hb1⟩
    | some x =>
      obtain ⟨b, o, sp⟩ := x
      rcases HC.out with ⟨h1, rfl⟩ | ⟨h1, rfl⟩
      · have H2 := hid hb1
        clear HC hnil hb1
        go_wp2
        go_meet
        exact ⟨_, _, rfl, HSL.out, H2.out⟩
      · have H2 := hid hb1
        clear HC hnil hb1
        go_wp2
        go_meet
        exact ⟨_, _, rfl, fun h => HSL.out (by omega), H2.out⟩
  case rest =>
    obtain ⟨ao, cap, rfl, HS0, hbx⟩ := hcut
    clear HC HSL hnil hl hcap
    have HSL := hid HS0
    clear HS0
    go_wp2_with fail
    go_loopw [5, 6, 7, 8] (fun va vb vc vi wr => ∃ (k : Nat) (aa ab ac : Option Addr) (ca cb cc : Nat), k ≤ n ∧ vi = .int .i64 k ∧ va = .slice aa k ca ∧ vb = .slice ab k cb ∧ vc = .slice ac (k * 2) cc ∧
        wr.ownsRow w.heap.size 29 2 (.slice aa k ca) k (wcells (zs.take k)) ∧ wr.ownsRow w.heap.size 29 2 (.slice ab k cb) k (wcells (zs.take k).reverse) ∧ wr.ownsRow w.heap.size 29 2 (.slice ac (k * 2) cc) (k * 2) (wcells (halves (zs.take k))) ∧
        (∀ g, blk aa = some g → blk ab ≠ some g) ∧ (∀ g, blk aa = some g → blk ac ≠ some g) ∧ (∀ g, blk ab = some g → blk ac ≠ some g) ∧ Below w.heap.size w wr)
      (fun _ _ _ i _ => n - (intOf i).toNat)
    case atStart =>
      exact ⟨0, none, none, none, 0, 0, 0, Nat.zero_le _, rfl, rfl, rfl, rfl, World.ownsRow_nil _ _ _ _, World.ownsRow_nil _ _ _ _, World.ownsRow_nil _ _ _ _, by simp [blk], by simp [blk], by simp [blk], hbx⟩
    case round =>
      obtain ⟨k, aa, ab, ac, ca, cb, cc, hk, rfl, rfl, rfl, rfl, hA, hB, hC, d1, d2, d3, hbel⟩ := hrel
      by_cases hlt : k < n
      · obtain ⟨b, o, rfl, hb, hc⟩ := HSL.out (by omega)
        clear HSL
        have hzk : zs[k]?.getD 0 ∈ zs := by rw [List.getElem?_eq_getElem (by omega)]; exact List.getElem_mem _
        obtain ⟨z1, z2⟩ := hwf _ hzk
        have e0 := hc k (by omega)
        rw [← hbel.cell hb] at e0
        have HS := hid (take_snoc' zs k (by omega))
        have HL : Hid ((zs.take k).length = k) := hid (by simp; omega)
        clear hzk
        generalize zs[k]?.getD 0 = z at *
        generalize zs.take k = pre at *
        have hlen := HL.out
        have hbs := hbel.size
        have tok1 : True := trivial
        go_wp2_with fail
        go_region_held3 (fun w' => w'.cell? ⟨b, o + k, none⟩ = some (.int .i64 z))
          (first
            | go_keep
            | exact keep1 ‹_› ‹_›
            | exact cell_grown ‹_› (by assumption) (fun k hk => (own_blk (by assumption) k hk).1) hb
            | exact cell_grown (B := w.heap.size) ‹_› hg8 (fun k hk => by have := hb5.size; simp [blk] at hk this hs6; omega) hb)
          (first
            | (go_at_call 14; have _t := tok1; refine (of_any _ ⟨z1, z2⟩ _).mono ?_; rintro e w5 ⟨rfl, hb5⟩; have hA5 := own_step hA.drew hb5; clear tok1)
            | (go_at_call 14; refine (of_any _ ⟨z1, z2⟩ _).mono ?_; rintro e w7 ⟨rfl, hb7⟩; have hs7 := hb7.size; have hs6 := hg6.size; have hB7 := own_step (own_grown ((own_step hB.drew hb5).alloc _) hg6 (fun g hg => fun e => d1 g e hg)) hb7)
            | (refine step_app rfl (.tmp 26) (.tmp 32) rfl rfl rfl elemW (hA5.alloc _) rfl (Src.block (heap_alloc_new _ _) rfl) (wcells_one [z]) (by unfold maxLen; omega) (by omega) (by have := hb5.size; simp at this; simp; omega) ?_; intro aa' ca' w6 hA6 hg6 hl6 hn6)
            | (refine step_app (n := 1) (base := w.heap.size) (xs := wcells [z]) rfl (.tmp 39) (.tmp 40) rfl rfl rfl elemW (own_lit (by have := hb5.size; simp at this hs6; omega) (heap_alloc_new _ _) rfl rfl (by decide)) (by rw [wcells_len, List.length_reverse, hlen]) (Src.own (hB7.alloc _)) (wcells_one _) (by unfold maxLen; omega) (by omega) (by have := hb5.size; simp at this hs6; simp; omega) ?_; intro ab' cb' w8 hB8 hg8 hl8 hn8))
        have hs5 := hb5.size
        have hs8 := hg8.size
        simp at hs5 hs6 hs8
        have q1 : ∀ g, blk aa' = some g → blk ab' ≠ some g := by
          intro g h1 h2
          have := (own_blk hA6 g h1).2
          rcases hl8 with h | h <;> rw [h2] at h <;> simp [blk] at h <;> omega
        have q2 : ∀ g, blk aa' = some g → blk ac ≠ some g := by
          intro g h1 h2
          have := (own_blk hC g h2).2
          rcases hl6 with h | h
          · exact d2 g (h ▸ h1) h2
          · rw [h1] at h; simp at h; omega
        have q3 : ∀ g, blk ab' = some g → blk ac ≠ some g := by
          intro g h1 h2
          have := (own_blk hC g h2).2
          rcases hl8 with h | h <;> rw [h1] at h <;> simp [blk] at h <;> omega
        have A8 : w8.ownsRow w.heap.size 29 2 (.slice aa' (k + 1) ca') (k + 1) (wcells (pre ++ [z])) := by
          rw [wcells_append]
          refine own_grown ((own_step hA6 hb7).alloc _) hg8 fun g h1 h2 => ?_
          have := (own_blk hA6 g h1).2
          simp [blk] at h2; omega
        have B8 : w8.ownsRow w.heap.size 29 2 (.slice ab' (1 + k) cb') (1 + k) (wcells (pre ++ [z]).reverse) := by
          rw [List.reverse_append, List.reverse_singleton, wcells_append]
          exact hB8
        have C8 : w8.ownsRow w.heap.size 29 2 (.slice ac (k * 2) cc) (k * 2) (wcells (halves pre)) := by
          refine own_grown ((own_step (own_grown ((own_step hC.drew hb5).alloc _) hg6 fun g h1 h2 => d2 g h2 h1) hb7).alloc _) hg8 fun g h1 h2 => ?_
          have := (own_blk hC g h1).2
          simp [blk] at h2; omega
        have L8 : Below w.heap.size w w8 := by
          have x1 : Below w.heap.size w w5 := Below.step hbel.drew hb5
          have x2 : Below w.heap.size w w6 := (x1.alloc (by omega) _).grown hg6 (by simp; omega) (fun g h => (own_blk hA g h).1)
          have x3 : Below w.heap.size w w7 := Below.step x2 hb7
          exact (x3.alloc (by omega) _).grown hg8 (by simp; omega) (fun g h => by simp [blk] at h; omega)
        have e8 : w8.cell? ⟨b, o + k, none⟩ = some (.int .i64 z) := by assumption
        clear hA6 hB8 hg6 hg8 hl6 hl8 hn6 hn8 hA5 hB7 hb5 hb7 hA hB hC d1 d2 d3 hbel e0 hs5 hs6 hs7 hs8
        have hbs8 := L8.size
        have tok2 : True := trivial
        have bt := halves_bd z z1 z2
        obtain ⟨bt1, bt2, bt3, bt4⟩ := bt
        have hh := halves_len pre
        have v1 := wrap_in (z.tdiv 2) (by omega) (by omega)
        have v2 := wrap_in (-z.tdiv 2) (by omega) (by omega)
        have v3 := wrap_in (z - z.tdiv 2) (by omega) (by omega)
        have v4 : IntKind.i64.wrap (-(z - z.tdiv 2)) = z.tdiv 2 - z := by rw [wrap_in _ (by omega) (by omega)]; omega
        go_wp2_with fail
        go_region_held3 (fun w' => w'.cell? ⟨b, o + k, none⟩ = some (.int .i64 z))
          (first
            | go_keep
            | exact keep1 ‹_› ‹_›
            | exact cell_grown ‹_› (by assumption) (fun k hk => (own_blk (by assumption) k hk).1) hb)
          (first
            | (go_at_call 14; have _t := tok2; refine (of_any _ ⟨by omega, by omega⟩ _).mono ?_; rintro e w9 ⟨rfl, hb9⟩; clear tok2)
            | (go_at_call 14; refine (of_any _ ⟨by omega, by omega⟩ _).mono ?_; rintro e w10 ⟨rfl, hb10⟩; have hC10 := own_step (own_step C8.drew hb9) hb10; have hs10 : w.heap.size ≤ w10.heap.size := Nat.le_trans hbs8 (Nat.le_trans (hb9.size : w8.heap.size ≤ w9.heap.size) hb10.size))
            | (refine step_app rfl (.tmp 42) (.tmp 62) rfl rfl rfl elemW (hC10.alloc _) (news := wcells [-z.tdiv 2, z.tdiv 2 - z]) rfl (Src.block (heap_alloc_new _ _) rfl) (wcells_one _) (by unfold maxLen; omega) (by omega) (Nat.le_trans hs10 (Below.new _ _).size) ?_; intro ac' cc' w11 hC11 hg11 hl11 hn11))
        clear v1 v2 v3 v4
        have hs11 := hg11.size
        simp at hs11
        have hs9 : w8.heap.size ≤ w9.heap.size := hb9.size
        have hs10' := hb10.size
        have p2 : ∀ g, blk aa' = some g → blk ac' ≠ some g := by
          intro g h1 h2
          have := (own_blk A8 g h1).2
          rcases hl11 with h | h
          · exact q2 g h1 (h ▸ h2)
          · rw [h2] at h; simp at h; omega
        have p3 : ∀ g, blk ab' = some g → blk ac' ≠ some g := by
          intro g h1 h2
          have := (own_blk B8 g h1).2
          rcases hl11 with h | h
          · exact q3 g h1 (h ▸ h2)
          · rw [h2] at h; simp at h; omega
        have A11 := own_grown ((own_step (own_step A8.drew hb9) hb10).alloc _) hg11 fun g h1 h2 => q2 g h1 h2
        have B11 := own_grown ((own_step (own_step B8.drew hb9) hb10).alloc _) hg11 fun g h1 h2 => q3 g h1 h2
        have L11 : Below w.heap.size w w11 := by
          have x1 : Below w.heap.size w w10 := Below.step (Below.step L8.drew hb9) hb10
          exact (x1.alloc (by omega) _).grown hg11 (by simp; omega) (fun g h => (own_blk C8 g h).1)
        go_wp2_with fail
        go_roundw
        case rel =>
          refine ⟨k + 1, aa', ab', ac', ca', cb', cc', by omega, by go_num, rfl, ?_, ?_, ?_, ?_, ?_, q1, p2, p3, L11⟩
          · rw [Nat.add_comm]
          · congr 1; omega
          · rw [HS.out]; exact A11
          · rw [HS.out, Nat.add_comm k 1]; exact B11
          · rw [HS.out, halves_snoc, wcells_append, Nat.add_mul]; exact hC11
        case measure => simp [intOf]; omega
      · obtain rfl : k = n := by omega
        have HL : (zs.take k).length = k := by simp; omega
        have hpre : ∀ x ∈ zs.take k, -9223372036854775808 ≤ x ∧ x ≤ 9223372036854775807 := fun x hx => hwf x (List.mem_of_mem_take hx)
        generalize zs.take k = pre at *
        clear HSL
        go_wp2_with fail
        refine (plus_own _ _ _ pre _ _ HL rfl (by omega) hA).mono ?_
        rintro e w2 ⟨rfl, hb2⟩
        have hB2 := own_step hB hb2
        have hC2 := own_step hC hb2
        have HLr : pre.reverse.length = k := by rw [List.length_reverse, HL]
        have HSr : pre.reverse.sum = pre.sum := List.sum_reverse _
        have hlen : (halves pre).length = k * 2 := by rw [halves_len, HL]
        have hsum : (halves pre ++ [pre.sum]).sum = 0 := by rw [List.sum_append, halves_sum]; simp; omega
        have y0 : whi 0 = 0 := by unfold whi wrap64; omega
        have y1 : wlo 0 = 0 := by unfold wlo; omega
        generalize hS : pre.sum = S at *
        have HS := hid hS
        clear hS
        rcases Nat.lt_trichotomy s.size 16 with hs16 | hs16 | hs16
        · go_wp2_with (go_at_call 10; refine (get_short s hs16 _).mono ?_; rintro e w3 ⟨rfl, hb3⟩)
          have hB3 := (own_step (hB2.alloc (.cells #[.int .i64 (whi S), .int .u64 (wlo S)] 29)) hb3).alloc (.cells #[.int .i64 0, .int .u64 0] 29)
          have hC3 := (own_step (hC2.alloc (.cells #[.int .i64 (whi S), .int .u64 (wlo S)] 29)) hb3).alloc (.cells #[.int .i64 0, .int .u64 0] 29)
          have c0 := keep1 (Below.step hb3 (Below.new w3 (.cells #[.int .i64 0, .int .u64 0] 29))) (cell_of_block0 (heap_alloc_new w2 (.cells #[.int .i64 (whi S), .int .u64 (wlo S)] 29)))
          have c1 := keep1 (Below.step hb3 (Below.new w3 (.cells #[.int .i64 0, .int .u64 0] 29))) (cell_of_block1 (heap_alloc_new w2 (.cells #[.int .i64 (whi S), .int .u64 (wlo S)] 29)))
          have hs3 : w.heap.size ≤ (w3.alloc (.cells #[.int .i64 0, .int .u64 0] 29)).heap.size := by
            have h1 := hb3.size
            have h2 := hb2.size
            have h3 := hbel.size
            simp at h1
            simp
            omega
          have c2 := cell_of_block0 (heap_alloc_new w3 (.cells #[.int .i64 0, .int .u64 0] 29))
          have c3 := cell_of_block1 (heap_alloc_new w3 (.cells #[.int .i64 0, .int .u64 0] 29))
          have L3 : Below w.heap.size w (w3.alloc (.cells #[.int .i64 0, .int .u64 0] 29)) := Below.step (Below.step (Below.step (Below.step hbel hb2) (Below.new _ _)) hb3) (Below.new _ _)
          have hq2 : w2.heap.size < (w3.alloc (.cells #[.int .i64 0, .int .u64 0] 29)).heap.size := by have h1 := hb3.size; simp at h1 ⊢; omega
          have hq3 : w3.heap.size < (w3.alloc (.cells #[.int .i64 0, .int .u64 0] 29)).heap.size := by simp
          generalize w3.alloc (.cells #[.int .i64 0, .int .u64 0] 29) = W3 at hB3 hC3 c0 c1 c2 c3 L3 hq2 hq3 hs3 ⊢
          let MX : Mix := { anc := [[], [], [1], [0, 2], [3], [4], [4], [4, 5, 6], [4], [4, 8], [4, 7, 9], [4, 10], [4], [4, 11, 12], [4, 13], [14], [15], [15], [15, 16, 17], [15, 18], [19], [20], [20, 21], [20, 22], [23], [23, 24], [23], [23, 25, 26], [20, 23, 27], [20, 28], [29], [29, 30], [29, 31], [32], [32], [32, 33, 34], [29, 32, 35], [20, 29, 36], [20, 37], [38]], vals := [some (.agg #[.int .i64 (whi S), .int .u64 (wlo S)]), some (.slice ab k cb), some (.agg #[.int .i64 (whi S), .int .u64 (wlo S)]), some (.bool true), some (.bool true), none, some (.slice ac (k * 2) cc), none, some (.agg #[.int .i64 (whi S), .int .u64 (wlo S)]), none, none, some (.agg #[.int .i64 (whi 0), .int .u64 (wlo 0)]), some (.agg #[.int .i64 0, .int .u64 0]), some (.bool true), some (.bool true), some (.bool true), some (.int .i64 2), some (.int .i64 2), some (.bool true), some (.bool true), some (.bool true), some (.int .i64 2), some (.bool false), some (.bool false), some (undef), some (undef), some (undef), some (undef), some ((Value.bool false)), some ((Value.bool false)), some (.int .i64 2), some (.bool true), some (.bool true), some (.agg #[.int .i64 0, .int .u64 0]), some (.agg #[.int .i64 0, .int .u64 0]), some (.bool true), some (.bool true), some (.bool true), some (.bool true), some (.bool true)], cons := [[], [], [], [], [], [], [], [5], [], [], [7]], own := [5, 7, 9, 10], F := (fun p v w => if p = 5 then (∃ ao cap, v = .slice ao 0 cap ∧ w.ownsRow W3.heap.size 29 2 (.slice ao 0 cap) 0 []) else if p = 7 then (∃ ao cap, v = .slice ao (k * 2) cap ∧ w.ownsRow W3.heap.size 29 2 (.slice ao (k * 2) cap) (k * 2) (wcells (halves pre))) else if p = 9 then (∃ ao cap, v = .slice ao 1 cap ∧ w.ownsRow W3.heap.size 29 2 (.slice ao 1 cap) 1 (wcells [S])) else if p = 10 then (∃ ao cap, v = .slice ao (k * 2 + 1) cap ∧ w.ownsRow W3.heap.size 29 2 (.slice ao (k * 2 + 1) cap) (k * 2 + 1) (wcells (halves pre ++ [S]))) else True), iv := fun _ => undef, m := 0, B := W3.heap.size }
          refine region_mix MX [some 77, some 78, some 79, some 80, some 81, some 82, some 83, some 84, some 85, some 86, some 87, some 88, some 89, some 90, some 91, some 92, some 93, some 94, some 95, some 96, some 97, some 98, some 99, some 100, some 101, some 102, some 103, some 104, some 105, some 106, some 107, some 108, some 109, some 110, some 111, some 112, some 113, some 114, some 115, some 4] _ _ (by kernel_rfl) (by rfl) (by rfl) (by rfl) (by rfl) (by rfl) (by rfl) (Nat.le_refl _) ?_ ?_ ?_ ?_ ?_
          · intro p v w w1 hf hB1 hb1 hb2 hb3
            simp only [MX] at hf ⊢
            by_cases e5 : p = 5
            · subst e5
              simp only [if_true] at hf ⊢
              exact mix_stable hf hb2 (by rfl)
            by_cases e7 : p = 7
            · subst e7
              simp only [if_true, if_neg (show ¬ (7 : Nat) = 5 by decide)] at hf ⊢
              exact mix_stable hf hb2 (by rfl)
            by_cases e9 : p = 9
            · subst e9
              simp only [if_true, if_neg (show ¬ (9 : Nat) = 5 by decide), if_neg (show ¬ (9 : Nat) = 7 by decide)] at hf ⊢
              exact mix_stable hf hb2 (by rfl)
            by_cases e10 : p = 10
            · subst e10
              simp only [if_true, if_neg (show ¬ (10 : Nat) = 5 by decide), if_neg (show ¬ (10 : Nat) = 7 by decide), if_neg (show ¬ (10 : Nat) = 9 by decide)] at hf ⊢
              exact mix_stable hf hb2 (by rfl)
            simp only [if_neg e5, if_neg e7, if_neg e9, if_neg e10]
          · intro p h1 h2; exact absurd h2 (by simp only [MX]; omega)
          · intro p q b h1 h2; exact absurd h2 (by simp only [MX]; omega)
          · intro i hi
            have hi' : i < 40 := hi
            have hc : i = 0 ∨ i = 1 ∨ i = 2 ∨ i = 3 ∨ i = 4 ∨ i = 5 ∨ i = 6 ∨ i = 7 ∨ i = 8 ∨ i = 9 ∨ i = 10 ∨ i = 11 ∨ i = 12 ∨ i = 13 ∨ i = 14 ∨ i = 15 ∨ i = 16 ∨ i = 17 ∨ i = 18 ∨ i = 19 ∨ i = 20 ∨ i = 21 ∨ i = 22 ∨ i = 23 ∨ i = 24 ∨ i = 25 ∨ i = 26 ∨ i = 27 ∨ i = 28 ∨ i = 29 ∨ i = 30 ∨ i = 31 ∨ i = 32 ∨ i = 33 ∨ i = 34 ∨ i = 35 ∨ i = 36 ∨ i = 37 ∨ i = 38 ∨ i = 39 := by omega
            clear hi hi'
            rcases hc with rfl | rfl | rfl | rfl | rfl | rfl | rfl | rfl | rfl | rfl | rfl | rfl | rfl | rfl | rfl | rfl | rfl | rfl | rfl | rfl | rfl | rfl | rfl | rfl | rfl | rfl | rfl | rfl | rfl | rfl | rfl | rfl | rfl | rfl | rfl | rfl | rfl | rfl | rfl | rfl
            · intro a w val K H hK1 hK2
              have e9 : a.tmps[9]? = some (.pointer (some ⟨w2.heap.size, 0, none⟩)) := H.hold 9 _ rfl rfl
              have c0 := H.cell (hq2) c0
              have c1 := H.cell (hq2) c1
              refine op_value rfl rfl (w' := w) ?_ (MixK hK1 rfl (Below.refl _ _))
              clear H hK1 hK2; simp [execOp, e9, go_sem, c0, c1]
            · intro a w val K H hK1 hK2
              have e6 : a.tmps[6]? = some (.slice ab k cb) := H.hold 6 _ rfl rfl
              refine op_value rfl rfl (w' := w) ?_ (MixK hK1 rfl (Below.refl _ _))
              clear H hK1 hK2; simp [execOp, e6, go_sem]
            · intro a w val K H hK1 hK2
              have e78 : a.tmps[78]? = some (.slice ab k cb) := H.known 1 78 _ rfl rfl
              refine op_enter rfl rfl (w' := w) ?_ (Calls.mono (plus_own _ _ k pre.reverse S w HLr HSr (by omega) (H.own rfl hB3)) ?_)
              · clear H hK1 hK2; simp [execOp, e78, go_sem]
              · rintro e w1 ⟨rfl, hb1⟩; exact ⟨_, rfl, MixK hK1 rfl hb1⟩
            · intro a w val K H hK1 hK2
              have e77 : a.tmps[77]? = some (.agg #[.int .i64 (whi S), .int .u64 (wlo S)]) := H.known 0 77 _ rfl rfl
              have e79 : a.tmps[79]? = some (.agg #[.int .i64 (whi S), .int .u64 (wlo S)]) := H.known 2 79 _ rfl rfl
              refine op_value rfl rfl (w' := w) ?_ (MixK hK1 rfl (Below.refl _ _))
              clear H hK1 hK2; simp [execOp, e77, e79, go_sem]
            · intro a w val K H hK1 hK2
              have e80 : a.tmps[80]? = some (.bool true) := H.known 3 80 _ rfl rfl
              refine op_value rfl rfl (w' := w) ?_ (MixK hK1 rfl (Below.refl _ _))
              clear H hK1 hK2; simp [execOp, e80, go_sem]
            · intro a w val K H hK1 hK2
              have eg : a.tmps[81]? = some (.bool true) := H.known 4 81 _ rfl rfl
              refine mix_new H (Nat.le_refl _) hK2 rfl (by simp [Region.wanted, yielded, eg]) rfl (ob := .cells #[] 29) (v := .slice (some ⟨w.heap.size, 0, none⟩) 0 0) ?_ ?_ (.inl rfl)
              · clear H hK1 hK2; simp [execOp, Act.eval, go_sem]
              · simp only [MX, if_true, if_neg (show ¬ (5 : Nat) = 7 by decide), if_neg (show ¬ (5 : Nat) = 9 by decide), if_neg (show ¬ (5 : Nat) = 10 by decide)]; exact ⟨_, _, rfl, own_lit H.bel.size (heap_alloc_new _ _) rfl rfl (by decide)⟩
            · intro a w val K H hK1 hK2
              have eg : a.tmps[81]? = some (.bool true) := H.known 4 81 _ rfl rfl
              have e7 : a.tmps[7]? = some (.slice ac (k * 2) cc) := H.hold 7 _ rfl rfl
              refine op_value rfl (by simp [Region.wanted, yielded, eg]) (w' := w) ?_ (MixK hK1 rfl (Below.refl _ _))
              clear H hK1 hK2; simp [execOp, e7, go_sem]
            · intro a w val K H hK1 hK2
              have eg : a.tmps[81]? = some (.bool true) := H.known 4 81 _ rfl rfl
              have e82 : a.tmps[82]? = some (val 5) := H.slot 5 82 rfl
              have f82 := H.F 5 rfl
              simp only [MX, if_true, if_neg (show ¬ (5 : Nat) = 7 by decide), if_neg (show ¬ (5 : Nat) = 9 by decide), if_neg (show ¬ (5 : Nat) = 10 by decide)] at f82
              have e83 : a.tmps[83]? = some (.slice ac (k * 2) cc) := H.known 6 83 _ rfl rfl
              obtain ⟨ao, cap, hv, ho⟩ := f82
              rw [hv] at e82
              refine mix_app (n := 0) (xs := []) H (Nat.le_refl _) hK2 rfl (by simp [Region.wanted, yielded, eg]) rfl rfl 5 rfl rfl hv e82 e83 elemW ho (by rw [wcells_len, hlen]) (Src.own (H.own rfl hC3)) (wcells_one _) (by unfold maxLen; omega) (by omega) (fun ao1 cap1 w1 h1 => ?_)
              simp only [MX, if_neg (show ¬ (7 : Nat) = 5 by decide), if_true]
              simp only [Nat.zero_add, List.nil_append] at h1 ⊢
              exact ⟨_, _, rfl, h1⟩
            · intro a w val K H hK1 hK2
              have eg : a.tmps[81]? = some (.bool true) := H.known 4 81 _ rfl rfl
              have e9 : a.tmps[9]? = some (.pointer (some ⟨w2.heap.size, 0, none⟩)) := H.hold 9 _ rfl rfl
              have c0 := H.cell (hq2) c0
              have c1 := H.cell (hq2) c1
              refine op_value rfl (by simp [Region.wanted, yielded, eg]) (w' := w) ?_ (MixK hK1 rfl (Below.refl _ _))
              clear H hK1 hK2; simp [execOp, e9, go_sem, c0, c1]
            · intro a w val K H hK1 hK2
              have eg : a.tmps[81]? = some (.bool true) := H.known 4 81 _ rfl rfl
              have e85 : a.tmps[85]? = some (.agg #[.int .i64 (whi S), .int .u64 (wlo S)]) := H.known 8 85 _ rfl rfl
              refine mix_new H (Nat.le_refl _) hK2 rfl (by simp [Region.wanted, yielded, eg]) rfl (ob := .cells #[.int .i64 (whi S), .int .u64 (wlo S)] 29) (v := .slice (some ⟨w.heap.size, 0, none⟩) 1 1) ?_ ?_ (.inl rfl)
              · clear H hK1 hK2; simp [execOp, e85, go_sem]
              · simp only [MX, if_true, if_neg (show ¬ (9 : Nat) = 5 by decide), if_neg (show ¬ (9 : Nat) = 7 by decide), if_neg (show ¬ (9 : Nat) = 10 by decide)]; exact ⟨_, _, rfl, own_lit H.bel.size (heap_alloc_new _ _) rfl rfl (by decide)⟩
            · intro a w val K H hK1 hK2
              have eg : a.tmps[81]? = some (.bool true) := H.known 4 81 _ rfl rfl
              have e84 : a.tmps[84]? = some (val 7) := H.slot 7 84 rfl
              have f84 := H.F 7 rfl
              simp only [MX, if_true, if_neg (show ¬ (7 : Nat) = 5 by decide), if_neg (show ¬ (7 : Nat) = 9 by decide), if_neg (show ¬ (7 : Nat) = 10 by decide)] at f84
              have e86 : a.tmps[86]? = some (val 9) := H.slot 9 86 rfl
              have f86 := H.F 9 rfl
              simp only [MX, if_true, if_neg (show ¬ (9 : Nat) = 5 by decide), if_neg (show ¬ (9 : Nat) = 7 by decide), if_neg (show ¬ (9 : Nat) = 10 by decide)] at f86
              obtain ⟨ao, cap, hv, ho⟩ := f84
              obtain ⟨bo, cap2, hv2, ho2⟩ := f86
              rw [hv] at e84
              rw [hv2] at e86
              refine mix_app H (Nat.le_refl _) hK2 rfl (by simp [Region.wanted, yielded, eg]) rfl rfl 7 rfl rfl hv e84 e86 elemW ho (by rw [wcells_len]; rfl) (Src.own ho2) (wcells_one _) (by unfold maxLen; omega) (by omega) (fun ao1 cap1 w1 h1 => ?_)
              simp only [MX, if_neg (show ¬ (10 : Nat) = 5 by decide), if_neg (show ¬ (10 : Nat) = 7 by decide), if_neg (show ¬ (10 : Nat) = 9 by decide), if_true]
              rw [wcells_append]
              exact ⟨_, _, rfl, h1⟩
            · intro a w val K H hK1 hK2
              have eg : a.tmps[81]? = some (.bool true) := H.known 4 81 _ rfl rfl
              have e87 : a.tmps[87]? = some (val 10) := H.slot 10 87 rfl
              have f87 := H.F 10 rfl
              simp only [MX, if_true, if_neg (show ¬ (10 : Nat) = 5 by decide), if_neg (show ¬ (10 : Nat) = 7 by decide), if_neg (show ¬ (10 : Nat) = 9 by decide)] at f87
              obtain ⟨ao, cap, hv, ho⟩ := f87
              rw [hv] at e87
              refine op_enter rfl (by simp [Region.wanted, yielded, eg]) (w' := w) ?_ (Calls.mono (plus_own _ _ (k * 2 + 1) (halves pre ++ [S]) 0 w (by rw [List.length_append, hlen]; rfl) hsum (by omega) ho) ?_)
              · clear H hK1 hK2; simp [execOp, e87, go_sem]
              · rintro e w1 ⟨rfl, hb1⟩; exact ⟨_, rfl, MixK hK1 rfl hb1⟩
            · intro a w val K H hK1 hK2
              have eg : a.tmps[81]? = some (.bool true) := H.known 4 81 _ rfl rfl
              refine op_value rfl (by simp [Region.wanted, yielded, eg]) (w' := w) ?_ (MixK hK1 rfl (Below.refl _ _))
              clear H hK1 hK2; simp [execOp, Act.eval, go_sem]
            · intro a w val K H hK1 hK2
              have eg : a.tmps[81]? = some (.bool true) := H.known 4 81 _ rfl rfl
              have e88 : a.tmps[88]? = some (.agg #[.int .i64 (whi 0), .int .u64 (wlo 0)]) := H.known 11 88 _ rfl rfl
              have e89 : a.tmps[89]? = some (.agg #[.int .i64 0, .int .u64 0]) := H.known 12 89 _ rfl rfl
              refine op_value rfl (by simp [Region.wanted, yielded, eg]) (w' := w) ?_ (MixK hK1 rfl (Below.refl _ _))
              clear H hK1 hK2; simp [execOp, e88, e89, go_sem, y0, y1]
            · intro a w val K H hK1 hK2
              have e81 : a.tmps[81]? = some (.bool true) := H.known 4 81 _ rfl rfl
              have e90 : a.tmps[90]? = some (.bool true) := H.known 13 90 _ rfl rfl
              refine op_value rfl rfl (w' := w) ?_ (MixK hK1 rfl (Below.refl _ _))
              clear H hK1 hK2; simp [execOp, e81, e90, go_sem]
            · intro a w val K H hK1 hK2
              have e91 : a.tmps[91]? = some (.bool true) := H.known 14 91 _ rfl rfl
              refine op_value rfl rfl (w' := w) ?_ (MixK hK1 rfl (Below.refl _ _))
              clear H hK1 hK2; simp [execOp, e91, go_sem]
            · intro a w val K H hK1 hK2
              have eg : a.tmps[92]? = some (.bool true) := H.known 15 92 _ rfl rfl
              have e11 : a.tmps[11]? = some (.int .i64 2) := H.hold 11 _ rfl rfl
              refine op_value rfl (by simp [Region.wanted, yielded, eg]) (w' := w) ?_ (MixK hK1 rfl (Below.refl _ _))
              clear H hK1 hK2; simp [execOp, e11, go_sem]
            · intro a w val K H hK1 hK2
              have eg : a.tmps[92]? = some (.bool true) := H.known 15 92 _ rfl rfl
              have e12 : a.tmps[12]? = some (.int .i64 2) := H.hold 12 _ rfl rfl
              refine op_value rfl (by simp [Region.wanted, yielded, eg]) (w' := w) ?_ (MixK hK1 rfl (Below.refl _ _))
              clear H hK1 hK2; simp [execOp, e12, go_sem]
            · intro a w val K H hK1 hK2
              have eg : a.tmps[92]? = some (.bool true) := H.known 15 92 _ rfl rfl
              have e93 : a.tmps[93]? = some (.int .i64 2) := H.known 16 93 _ rfl rfl
              have e94 : a.tmps[94]? = some (.int .i64 2) := H.known 17 94 _ rfl rfl
              refine op_value rfl (by simp [Region.wanted, yielded, eg]) (w' := w) ?_ (MixK hK1 rfl (Below.refl _ _))
              clear H hK1 hK2; simp [execOp, e93, e94, go_sem]
            · intro a w val K H hK1 hK2
              have e92 : a.tmps[92]? = some (.bool true) := H.known 15 92 _ rfl rfl
              have e95 : a.tmps[95]? = some (.bool true) := H.known 18 95 _ rfl rfl
              refine op_value rfl rfl (w' := w) ?_ (MixK hK1 rfl (Below.refl _ _))
              clear H hK1 hK2; simp [execOp, e92, e95, go_sem]
            · intro a w val K H hK1 hK2
              have e96 : a.tmps[96]? = some (.bool true) := H.known 19 96 _ rfl rfl
              refine op_value rfl rfl (w' := w) ?_ (MixK hK1 rfl (Below.refl _ _))
              clear H hK1 hK2; simp [execOp, e96, go_sem]
            · intro a w val K H hK1 hK2
              have eg : a.tmps[97]? = some (.bool true) := H.known 20 97 _ rfl rfl
              have e11 : a.tmps[11]? = some (.int .i64 2) := H.hold 11 _ rfl rfl
              refine op_value rfl (by simp [Region.wanted, yielded, eg]) (w' := w) ?_ (MixK hK1 rfl (Below.refl _ _))
              clear H hK1 hK2; simp [execOp, e11, go_sem]
            · intro a w val K H hK1 hK2
              have eg : a.tmps[97]? = some (.bool true) := H.known 20 97 _ rfl rfl
              have e98 : a.tmps[98]? = some (.int .i64 2) := H.known 21 98 _ rfl rfl
              refine op_value rfl (by simp [Region.wanted, yielded, eg]) (w' := w) ?_ (MixK hK1 rfl (Below.refl _ _))
              clear H hK1 hK2; simp [execOp, e98, go_sem]
            · intro a w val K H hK1 hK2
              have eg : a.tmps[97]? = some (.bool true) := H.known 20 97 _ rfl rfl
              have e99 : a.tmps[99]? = some (.bool false) := H.known 22 99 _ rfl rfl
              refine op_value rfl (by simp [Region.wanted, yielded, eg]) (w' := w) ?_ (MixK hK1 rfl (Below.refl _ _))
              clear H hK1 hK2; simp [execOp, e99, go_sem]
            · intro a w val K H hK1 hK2
              have eg : a.tmps[100]? = some (.bool false) := H.known 23 100 _ rfl rfl
              exact op_pass rfl (by simp [Region.wanted, yielded, eg, undef]) (MixK hK1 rfl (Below.refl _ _))
            · intro a w val K H hK1 hK2
              have eg : a.tmps[100]? = some (.bool false) := H.known 23 100 _ rfl rfl
              exact op_pass rfl (by simp [Region.wanted, yielded, eg, undef]) (MixK hK1 rfl (Below.refl _ _))
            · intro a w val K H hK1 hK2
              have eg : a.tmps[100]? = some (.bool false) := H.known 23 100 _ rfl rfl
              exact op_pass rfl (by simp [Region.wanted, yielded, eg, undef]) (MixK hK1 rfl (Below.refl _ _))
            · intro a w val K H hK1 hK2
              have eg : a.tmps[100]? = some (.bool false) := H.known 23 100 _ rfl rfl
              exact op_pass rfl (by simp [Region.wanted, yielded, eg, undef]) (MixK hK1 rfl (Below.refl _ _))
            · intro a w val K H hK1 hK2
              have eg : a.tmps[97]? = some (.bool true) := H.known 20 97 _ rfl rfl
              have e100 : a.tmps[100]? = some (.bool false) := H.known 23 100 _ rfl rfl
              have e104 : a.tmps[104]? = some (undef) := H.known 27 104 _ rfl rfl
              refine op_value rfl (by simp [Region.wanted, yielded, eg]) (w' := w) ?_ (MixK hK1 rfl (Below.refl _ _))
              clear H hK1 hK2; simp [execOp, e100, e104, go_sem]
            · intro a w val K H hK1 hK2
              have eg : a.tmps[97]? = some (.bool true) := H.known 20 97 _ rfl rfl
              have e105 : a.tmps[105]? = some ((Value.bool false)) := H.known 28 105 _ rfl rfl
              refine op_value rfl (by simp [Region.wanted, yielded, eg]) (w' := w) ?_ (MixK hK1 rfl (Below.refl _ _))
              clear H hK1 hK2; simp [execOp, e105, go_sem]
            · intro a w val K H hK1 hK2
              have eg : a.tmps[106]? = some ((Value.bool false)) := H.known 29 106 _ rfl rfl
              have e11 : a.tmps[11]? = some (.int .i64 2) := H.hold 11 _ rfl rfl
              refine op_value rfl (by simp [Region.wanted, yielded, eg]) (w' := w) ?_ (MixK hK1 rfl (Below.refl _ _))
              clear H hK1 hK2; simp [execOp, e11, go_sem]
            · intro a w val K H hK1 hK2
              have eg : a.tmps[106]? = some ((Value.bool false)) := H.known 29 106 _ rfl rfl
              have e107 : a.tmps[107]? = some (.int .i64 2) := H.known 30 107 _ rfl rfl
              refine op_value rfl (by simp [Region.wanted, yielded, eg]) (w' := w) ?_ (MixK hK1 rfl (Below.refl _ _))
              clear H hK1 hK2; simp [execOp, e107, go_sem]
            · intro a w val K H hK1 hK2
              have eg : a.tmps[106]? = some ((Value.bool false)) := H.known 29 106 _ rfl rfl
              have e108 : a.tmps[108]? = some (.bool true) := H.known 31 108 _ rfl rfl
              refine op_value rfl (by simp [Region.wanted, yielded, eg]) (w' := w) ?_ (MixK hK1 rfl (Below.refl _ _))
              clear H hK1 hK2; simp [execOp, e108, go_sem]
            · intro a w val K H hK1 hK2
              have eg : a.tmps[109]? = some (.bool true) := H.known 32 109 _ rfl rfl
              have e10 : a.tmps[10]? = some (.pointer (some ⟨w3.heap.size, 0, none⟩)) := H.hold 10 _ rfl rfl
              have c0 := H.cell (hq3) c2
              have c1 := H.cell (hq3) c3
              refine op_value rfl (by simp [Region.wanted, yielded, eg]) (w' := w) ?_ (MixK hK1 rfl (Below.refl _ _))
              clear H hK1 hK2; simp [execOp, e10, go_sem, c0, c1]
            · intro a w val K H hK1 hK2
              have eg : a.tmps[109]? = some (.bool true) := H.known 32 109 _ rfl rfl
              refine op_value rfl (by simp [Region.wanted, yielded, eg]) (w' := w) ?_ (MixK hK1 rfl (Below.refl _ _))
              clear H hK1 hK2; simp [execOp, Act.eval, go_sem]
            · intro a w val K H hK1 hK2
              have eg : a.tmps[109]? = some (.bool true) := H.known 32 109 _ rfl rfl
              have e110 : a.tmps[110]? = some (.agg #[.int .i64 0, .int .u64 0]) := H.known 33 110 _ rfl rfl
              have e111 : a.tmps[111]? = some (.agg #[.int .i64 0, .int .u64 0]) := H.known 34 111 _ rfl rfl
              refine op_value rfl (by simp [Region.wanted, yielded, eg]) (w' := w) ?_ (MixK hK1 rfl (Below.refl _ _))
              clear H hK1 hK2; simp [execOp, e110, e111, go_sem]
            · intro a w val K H hK1 hK2
              have eg : a.tmps[106]? = some ((Value.bool false)) := H.known 29 106 _ rfl rfl
              have e109 : a.tmps[109]? = some (.bool true) := H.known 32 109 _ rfl rfl
              have e112 : a.tmps[112]? = some (.bool true) := H.known 35 112 _ rfl rfl
              refine op_value rfl (by simp [Region.wanted, yielded, eg]) (w' := w) ?_ (MixK hK1 rfl (Below.refl _ _))
              clear H hK1 hK2; simp [execOp, e109, e112, go_sem]
            · intro a w val K H hK1 hK2
              have eg : a.tmps[97]? = some (.bool true) := H.known 20 97 _ rfl rfl
              have e106 : a.tmps[106]? = some ((Value.bool false)) := H.known 29 106 _ rfl rfl
              have e113 : a.tmps[113]? = some (.bool true) := H.known 36 113 _ rfl rfl
              refine op_value rfl (by simp [Region.wanted, yielded, eg]) (w' := w) ?_ (MixK hK1 rfl (Below.refl _ _))
              clear H hK1 hK2; simp [execOp, e106, e113, go_sem]
            · intro a w val K H hK1 hK2
              have e97 : a.tmps[97]? = some (.bool true) := H.known 20 97 _ rfl rfl
              have e114 : a.tmps[114]? = some (.bool true) := H.known 37 114 _ rfl rfl
              refine op_value rfl rfl (w' := w) ?_ (MixK hK1 rfl (Below.refl _ _))
              clear H hK1 hK2; simp [execOp, e97, e114, go_sem]
            · intro a w val K H hK1 hK2
              have e115 : a.tmps[115]? = some (.bool true) := H.known 38 115 _ rfl rfl
              refine op_value rfl rfl (w' := w) ?_ (MixK hK1 rfl (Below.refl _ _))
              clear H hK1 hK2; simp [execOp, e115, go_sem]
          intro val wz HE
          simp only [finalL, MX, Mix.valF, List.getD_cons_zero, List.getD_cons_succ, Option.getD_some, Option.getD_none, List.setIfInBounds_toArray, List.set_cons_zero, List.set_cons_succ]
          go_wp2_with fail
          go_ret
          exact ⟨rfl, L3.trans (HE.bel.mono L3.size)⟩
        · obtain ⟨h, l, hG, hK⟩ := get_key s hs16
          have HG := hid hG
          have HK := hid hK
          clear hG hK
          go_wp2_with (go_at_call 10; refine (HG.out _).mono ?_; rintro e w3 ⟨rfl, hb3⟩)
          have hB3 := (own_step (hB2.alloc (.cells #[.int .i64 (whi S), .int .u64 (wlo S)] 29)) hb3).alloc (.cells #[.int .i64 h, .int .u64 l] 29)
          have hC3 := (own_step (hC2.alloc (.cells #[.int .i64 (whi S), .int .u64 (wlo S)] 29)) hb3).alloc (.cells #[.int .i64 h, .int .u64 l] 29)
          have c0 := keep1 (Below.step hb3 (Below.new w3 (.cells #[.int .i64 h, .int .u64 l] 29))) (cell_of_block0 (heap_alloc_new w2 (.cells #[.int .i64 (whi S), .int .u64 (wlo S)] 29)))
          have c1 := keep1 (Below.step hb3 (Below.new w3 (.cells #[.int .i64 h, .int .u64 l] 29))) (cell_of_block1 (heap_alloc_new w2 (.cells #[.int .i64 (whi S), .int .u64 (wlo S)] 29)))
          have hs3 : w.heap.size ≤ (w3.alloc (.cells #[.int .i64 h, .int .u64 l] 29)).heap.size := by
            have h1 := hb3.size
            have h2 := hb2.size
            have h3 := hbel.size
            simp at h1
            simp
            omega
          have c2 := cell_of_block0 (heap_alloc_new w3 (.cells #[.int .i64 h, .int .u64 l] 29))
          have c3 := cell_of_block1 (heap_alloc_new w3 (.cells #[.int .i64 h, .int .u64 l] 29))
          have L3 : Below w.heap.size w (w3.alloc (.cells #[.int .i64 h, .int .u64 l] 29)) := Below.step (Below.step (Below.step (Below.step hbel hb2) (Below.new _ _)) hb3) (Below.new _ _)
          have hq2 : w2.heap.size < (w3.alloc (.cells #[.int .i64 h, .int .u64 l] 29)).heap.size := by have h1 := hb3.size; simp at h1 ⊢; omega
          have hq3 : w3.heap.size < (w3.alloc (.cells #[.int .i64 h, .int .u64 l] 29)).heap.size := by simp
          generalize w3.alloc (.cells #[.int .i64 h, .int .u64 l] 29) = W3 at hB3 hC3 c0 c1 c2 c3 L3 hq2 hq3 hs3 ⊢
          let MX : Mix := { anc := [[], [], [1], [0, 2], [3], [4], [4], [4, 5, 6], [4], [4, 8], [4, 7, 9], [4, 10], [4], [4, 11, 12], [4, 13], [14], [15], [15], [15, 16, 17], [15, 18], [19], [20], [20, 21], [20, 22], [23], [23, 24], [23], [23, 25, 26], [20, 23, 27], [20, 28], [29], [29, 30], [29, 31], [32], [32], [32, 33, 34], [29, 32, 35], [20, 29, 36], [20, 37], [38]], vals := [some (.agg #[.int .i64 (whi S), .int .u64 (wlo S)]), some (.slice ab k cb), some (.agg #[.int .i64 (whi S), .int .u64 (wlo S)]), some (.bool true), some (.bool true), none, some (.slice ac (k * 2) cc), none, some (.agg #[.int .i64 (whi S), .int .u64 (wlo S)]), none, none, some (.agg #[.int .i64 (whi 0), .int .u64 (wlo 0)]), some (.agg #[.int .i64 0, .int .u64 0]), some (.bool true), some (.bool true), some (.bool true), some (.int .i64 0), some (.int .i64 0), some (.bool true), some (.bool true), some (.bool true), some (.int .i64 0), some (.bool true), some (.bool true), some (.agg #[.int .i64 h, .int .u64 l]), some (.string s), some (.string s), some (.bool true), some (.bool true), some (.bool true), some (undef), some (undef), some (undef), some (undef), some (undef), some (undef), some (undef), some ((Value.bool true)), some ((Value.bool true)), some ((Value.bool true))], cons := [[], [], [], [], [], [], [], [5], [], [], [7]], own := [5, 7, 9, 10], F := (fun p v w => if p = 5 then (∃ ao cap, v = .slice ao 0 cap ∧ w.ownsRow W3.heap.size 29 2 (.slice ao 0 cap) 0 []) else if p = 7 then (∃ ao cap, v = .slice ao (k * 2) cap ∧ w.ownsRow W3.heap.size 29 2 (.slice ao (k * 2) cap) (k * 2) (wcells (halves pre))) else if p = 9 then (∃ ao cap, v = .slice ao 1 cap ∧ w.ownsRow W3.heap.size 29 2 (.slice ao 1 cap) 1 (wcells [S])) else if p = 10 then (∃ ao cap, v = .slice ao (k * 2 + 1) cap ∧ w.ownsRow W3.heap.size 29 2 (.slice ao (k * 2 + 1) cap) (k * 2 + 1) (wcells (halves pre ++ [S]))) else True), iv := fun _ => undef, m := 0, B := W3.heap.size }
          refine region_mix MX [some 77, some 78, some 79, some 80, some 81, some 82, some 83, some 84, some 85, some 86, some 87, some 88, some 89, some 90, some 91, some 92, some 93, some 94, some 95, some 96, some 97, some 98, some 99, some 100, some 101, some 102, some 103, some 104, some 105, some 106, some 107, some 108, some 109, some 110, some 111, some 112, some 113, some 114, some 115, some 4] _ _ (by kernel_rfl) (by rfl) (by rfl) (by rfl) (by rfl) (by rfl) (by rfl) (Nat.le_refl _) ?_ ?_ ?_ ?_ ?_
          · intro p v w w1 hf hB1 hb1 hb2 hb3
            simp only [MX] at hf ⊢
            by_cases e5 : p = 5
            · subst e5
              simp only [if_true] at hf ⊢
              exact mix_stable hf hb2 (by rfl)
            by_cases e7 : p = 7
            · subst e7
              simp only [if_true, if_neg (show ¬ (7 : Nat) = 5 by decide)] at hf ⊢
              exact mix_stable hf hb2 (by rfl)
            by_cases e9 : p = 9
            · subst e9
              simp only [if_true, if_neg (show ¬ (9 : Nat) = 5 by decide), if_neg (show ¬ (9 : Nat) = 7 by decide)] at hf ⊢
              exact mix_stable hf hb2 (by rfl)
            by_cases e10 : p = 10
            · subst e10
              simp only [if_true, if_neg (show ¬ (10 : Nat) = 5 by decide), if_neg (show ¬ (10 : Nat) = 7 by decide), if_neg (show ¬ (10 : Nat) = 9 by decide)] at hf ⊢
              exact mix_stable hf hb2 (by rfl)
            simp only [if_neg e5, if_neg e7, if_neg e9, if_neg e10]
          · intro p h1 h2; exact absurd h2 (by simp only [MX]; omega)
          · intro p q b h1 h2; exact absurd h2 (by simp only [MX]; omega)
          · intro i hi
            have hi' : i < 40 := hi
            have hc : i = 0 ∨ i = 1 ∨ i = 2 ∨ i = 3 ∨ i = 4 ∨ i = 5 ∨ i = 6 ∨ i = 7 ∨ i = 8 ∨ i = 9 ∨ i = 10 ∨ i = 11 ∨ i = 12 ∨ i = 13 ∨ i = 14 ∨ i = 15 ∨ i = 16 ∨ i = 17 ∨ i = 18 ∨ i = 19 ∨ i = 20 ∨ i = 21 ∨ i = 22 ∨ i = 23 ∨ i = 24 ∨ i = 25 ∨ i = 26 ∨ i = 27 ∨ i = 28 ∨ i = 29 ∨ i = 30 ∨ i = 31 ∨ i = 32 ∨ i = 33 ∨ i = 34 ∨ i = 35 ∨ i = 36 ∨ i = 37 ∨ i = 38 ∨ i = 39 := by omega
            clear hi hi'
            rcases hc with rfl | rfl | rfl | rfl | rfl | rfl | rfl | rfl | rfl | rfl | rfl | rfl | rfl | rfl | rfl | rfl | rfl | rfl | rfl | rfl | rfl | rfl | rfl | rfl | rfl | rfl | rfl | rfl | rfl | rfl | rfl | rfl | rfl | rfl | rfl | rfl | rfl | rfl | rfl | rfl
            · intro a w val K H hK1 hK2
              have e9 : a.tmps[9]? = some (.pointer (some ⟨w2.heap.size, 0, none⟩)) := H.hold 9 _ rfl rfl
              have c0 := H.cell (hq2) c0
              have c1 := H.cell (hq2) c1
              refine op_value rfl rfl (w' := w) ?_ (MixK hK1 rfl (Below.refl _ _))
              clear H hK1 hK2; simp [execOp, e9, go_sem, c0, c1]
            · intro a w val K H hK1 hK2
              have e6 : a.tmps[6]? = some (.slice ab k cb) := H.hold 6 _ rfl rfl
              refine op_value rfl rfl (w' := w) ?_ (MixK hK1 rfl (Below.refl _ _))
              clear H hK1 hK2; simp [execOp, e6, go_sem]
            · intro a w val K H hK1 hK2
              have e78 : a.tmps[78]? = some (.slice ab k cb) := H.known 1 78 _ rfl rfl
              refine op_enter rfl rfl (w' := w) ?_ (Calls.mono (plus_own _ _ k pre.reverse S w HLr HSr (by omega) (H.own rfl hB3)) ?_)
              · clear H hK1 hK2; simp [execOp, e78, go_sem]
              · rintro e w1 ⟨rfl, hb1⟩; exact ⟨_, rfl, MixK hK1 rfl hb1⟩
            · intro a w val K H hK1 hK2
              have e77 : a.tmps[77]? = some (.agg #[.int .i64 (whi S), .int .u64 (wlo S)]) := H.known 0 77 _ rfl rfl
              have e79 : a.tmps[79]? = some (.agg #[.int .i64 (whi S), .int .u64 (wlo S)]) := H.known 2 79 _ rfl rfl
              refine op_value rfl rfl (w' := w) ?_ (MixK hK1 rfl (Below.refl _ _))
              clear H hK1 hK2; simp [execOp, e77, e79, go_sem]
            · intro a w val K H hK1 hK2
              have e80 : a.tmps[80]? = some (.bool true) := H.known 3 80 _ rfl rfl
              refine op_value rfl rfl (w' := w) ?_ (MixK hK1 rfl (Below.refl _ _))
              clear H hK1 hK2; simp [execOp, e80, go_sem]
            · intro a w val K H hK1 hK2
              have eg : a.tmps[81]? = some (.bool true) := H.known 4 81 _ rfl rfl
              refine mix_new H (Nat.le_refl _) hK2 rfl (by simp [Region.wanted, yielded, eg]) rfl (ob := .cells #[] 29) (v := .slice (some ⟨w.heap.size, 0, none⟩) 0 0) ?_ ?_ (.inl rfl)
              · clear H hK1 hK2; simp [execOp, Act.eval, go_sem]
              · simp only [MX, if_true, if_neg (show ¬ (5 : Nat) = 7 by decide), if_neg (show ¬ (5 : Nat) = 9 by decide), if_neg (show ¬ (5 : Nat) = 10 by decide)]; exact ⟨_, _, rfl, own_lit H.bel.size (heap_alloc_new _ _) rfl rfl (by decide)⟩
            · intro a w val K H hK1 hK2
              have eg : a.tmps[81]? = some (.bool true) := H.known 4 81 _ rfl rfl
              have e7 : a.tmps[7]? = some (.slice ac (k * 2) cc) := H.hold 7 _ rfl rfl
              refine op_value rfl (by simp [Region.wanted, yielded, eg]) (w' := w) ?_ (MixK hK1 rfl (Below.refl _ _))
              clear H hK1 hK2; simp [execOp, e7, go_sem]
            · intro a w val K H hK1 hK2
              have eg : a.tmps[81]? = some (.bool true) := H.known 4 81 _ rfl rfl
              have e82 : a.tmps[82]? = some (val 5) := H.slot 5 82 rfl
              have f82 := H.F 5 rfl
              simp only [MX, if_true, if_neg (show ¬ (5 : Nat) = 7 by decide), if_neg (show ¬ (5 : Nat) = 9 by decide), if_neg (show ¬ (5 : Nat) = 10 by decide)] at f82
              have e83 : a.tmps[83]? = some (.slice ac (k * 2) cc) := H.known 6 83 _ rfl rfl
              obtain ⟨ao, cap, hv, ho⟩ := f82
              rw [hv] at e82
              refine mix_app (n := 0) (xs := []) H (Nat.le_refl _) hK2 rfl (by simp [Region.wanted, yielded, eg]) rfl rfl 5 rfl rfl hv e82 e83 elemW ho (by rw [wcells_len, hlen]) (Src.own (H.own rfl hC3)) (wcells_one _) (by unfold maxLen; omega) (by omega) (fun ao1 cap1 w1 h1 => ?_)
              simp only [MX, if_neg (show ¬ (7 : Nat) = 5 by decide), if_true]
              simp only [Nat.zero_add, List.nil_append] at h1 ⊢
              exact ⟨_, _, rfl, h1⟩
            · intro a w val K H hK1 hK2
              have eg : a.tmps[81]? = some (.bool true) := H.known 4 81 _ rfl rfl
              have e9 : a.tmps[9]? = some (.pointer (some ⟨w2.heap.size, 0, none⟩)) := H.hold 9 _ rfl rfl
              have c0 := H.cell (hq2) c0
              have c1 := H.cell (hq2) c1
              refine op_value rfl (by simp [Region.wanted, yielded, eg]) (w' := w) ?_ (MixK hK1 rfl (Below.refl _ _))
              clear H hK1 hK2; simp [execOp, e9, go_sem, c0, c1]
            · intro a w val K H hK1 hK2
              have eg : a.tmps[81]? = some (.bool true) := H.known 4 81 _ rfl rfl
              have e85 : a.tmps[85]? = some (.agg #[.int .i64 (whi S), .int .u64 (wlo S)]) := H.known 8 85 _ rfl rfl
              refine mix_new H (Nat.le_refl _) hK2 rfl (by simp [Region.wanted, yielded, eg]) rfl (ob := .cells #[.int .i64 (whi S), .int .u64 (wlo S)] 29) (v := .slice (some ⟨w.heap.size, 0, none⟩) 1 1) ?_ ?_ (.inl rfl)
              · clear H hK1 hK2; simp [execOp, e85, go_sem]
              · simp only [MX, if_true, if_neg (show ¬ (9 : Nat) = 5 by decide), if_neg (show ¬ (9 : Nat) = 7 by decide), if_neg (show ¬ (9 : Nat) = 10 by decide)]; exact ⟨_, _, rfl, own_lit H.bel.size (heap_alloc_new _ _) rfl rfl (by decide)⟩
            · intro a w val K H hK1 hK2
              have eg : a.tmps[81]? = some (.bool true) := H.known 4 81 _ rfl rfl
              have e84 : a.tmps[84]? = some (val 7) := H.slot 7 84 rfl
              have f84 := H.F 7 rfl
              simp only [MX, if_true, if_neg (show ¬ (7 : Nat) = 5 by decide), if_neg (show ¬ (7 : Nat) = 9 by decide), if_neg (show ¬ (7 : Nat) = 10 by decide)] at f84
              have e86 : a.tmps[86]? = some (val 9) := H.slot 9 86 rfl
              have f86 := H.F 9 rfl
              simp only [MX, if_true, if_neg (show ¬ (9 : Nat) = 5 by decide), if_neg (show ¬ (9 : Nat) = 7 by decide), if_neg (show ¬ (9 : Nat) = 10 by decide)] at f86
              obtain ⟨ao, cap, hv, ho⟩ := f84
              obtain ⟨bo, cap2, hv2, ho2⟩ := f86
              rw [hv] at e84
              rw [hv2] at e86
              refine mix_app H (Nat.le_refl _) hK2 rfl (by simp [Region.wanted, yielded, eg]) rfl rfl 7 rfl rfl hv e84 e86 elemW ho (by rw [wcells_len]; rfl) (Src.own ho2) (wcells_one _) (by unfold maxLen; omega) (by omega) (fun ao1 cap1 w1 h1 => ?_)
              simp only [MX, if_neg (show ¬ (10 : Nat) = 5 by decide), if_neg (show ¬ (10 : Nat) = 7 by decide), if_neg (show ¬ (10 : Nat) = 9 by decide), if_true]
              rw [wcells_append]
              exact ⟨_, _, rfl, h1⟩
            · intro a w val K H hK1 hK2
              have eg : a.tmps[81]? = some (.bool true) := H.known 4 81 _ rfl rfl
              have e87 : a.tmps[87]? = some (val 10) := H.slot 10 87 rfl
              have f87 := H.F 10 rfl
              simp only [MX, if_true, if_neg (show ¬ (10 : Nat) = 5 by decide), if_neg (show ¬ (10 : Nat) = 7 by decide), if_neg (show ¬ (10 : Nat) = 9 by decide)] at f87
              obtain ⟨ao, cap, hv, ho⟩ := f87
              rw [hv] at e87
              refine op_enter rfl (by simp [Region.wanted, yielded, eg]) (w' := w) ?_ (Calls.mono (plus_own _ _ (k * 2 + 1) (halves pre ++ [S]) 0 w (by rw [List.length_append, hlen]; rfl) hsum (by omega) ho) ?_)
              · clear H hK1 hK2; simp [execOp, e87, go_sem]
              · rintro e w1 ⟨rfl, hb1⟩; exact ⟨_, rfl, MixK hK1 rfl hb1⟩
            · intro a w val K H hK1 hK2
              have eg : a.tmps[81]? = some (.bool true) := H.known 4 81 _ rfl rfl
              refine op_value rfl (by simp [Region.wanted, yielded, eg]) (w' := w) ?_ (MixK hK1 rfl (Below.refl _ _))
              clear H hK1 hK2; simp [execOp, Act.eval, go_sem]
            · intro a w val K H hK1 hK2
              have eg : a.tmps[81]? = some (.bool true) := H.known 4 81 _ rfl rfl
              have e88 : a.tmps[88]? = some (.agg #[.int .i64 (whi 0), .int .u64 (wlo 0)]) := H.known 11 88 _ rfl rfl
              have e89 : a.tmps[89]? = some (.agg #[.int .i64 0, .int .u64 0]) := H.known 12 89 _ rfl rfl
              refine op_value rfl (by simp [Region.wanted, yielded, eg]) (w' := w) ?_ (MixK hK1 rfl (Below.refl _ _))
              clear H hK1 hK2; simp [execOp, e88, e89, go_sem, y0, y1]
            · intro a w val K H hK1 hK2
              have e81 : a.tmps[81]? = some (.bool true) := H.known 4 81 _ rfl rfl
              have e90 : a.tmps[90]? = some (.bool true) := H.known 13 90 _ rfl rfl
              refine op_value rfl rfl (w' := w) ?_ (MixK hK1 rfl (Below.refl _ _))
              clear H hK1 hK2; simp [execOp, e81, e90, go_sem]
            · intro a w val K H hK1 hK2
              have e91 : a.tmps[91]? = some (.bool true) := H.known 14 91 _ rfl rfl
              refine op_value rfl rfl (w' := w) ?_ (MixK hK1 rfl (Below.refl _ _))
              clear H hK1 hK2; simp [execOp, e91, go_sem]
            · intro a w val K H hK1 hK2
              have eg : a.tmps[92]? = some (.bool true) := H.known 15 92 _ rfl rfl
              have e11 : a.tmps[11]? = some (.int .i64 0) := H.hold 11 _ rfl rfl
              refine op_value rfl (by simp [Region.wanted, yielded, eg]) (w' := w) ?_ (MixK hK1 rfl (Below.refl _ _))
              clear H hK1 hK2; simp [execOp, e11, go_sem]
            · intro a w val K H hK1 hK2
              have eg : a.tmps[92]? = some (.bool true) := H.known 15 92 _ rfl rfl
              have e12 : a.tmps[12]? = some (.int .i64 0) := H.hold 12 _ rfl rfl
              refine op_value rfl (by simp [Region.wanted, yielded, eg]) (w' := w) ?_ (MixK hK1 rfl (Below.refl _ _))
              clear H hK1 hK2; simp [execOp, e12, go_sem]
            · intro a w val K H hK1 hK2
              have eg : a.tmps[92]? = some (.bool true) := H.known 15 92 _ rfl rfl
              have e93 : a.tmps[93]? = some (.int .i64 0) := H.known 16 93 _ rfl rfl
              have e94 : a.tmps[94]? = some (.int .i64 0) := H.known 17 94 _ rfl rfl
              refine op_value rfl (by simp [Region.wanted, yielded, eg]) (w' := w) ?_ (MixK hK1 rfl (Below.refl _ _))
              clear H hK1 hK2; simp [execOp, e93, e94, go_sem]
            · intro a w val K H hK1 hK2
              have e92 : a.tmps[92]? = some (.bool true) := H.known 15 92 _ rfl rfl
              have e95 : a.tmps[95]? = some (.bool true) := H.known 18 95 _ rfl rfl
              refine op_value rfl rfl (w' := w) ?_ (MixK hK1 rfl (Below.refl _ _))
              clear H hK1 hK2; simp [execOp, e92, e95, go_sem]
            · intro a w val K H hK1 hK2
              have e96 : a.tmps[96]? = some (.bool true) := H.known 19 96 _ rfl rfl
              refine op_value rfl rfl (w' := w) ?_ (MixK hK1 rfl (Below.refl _ _))
              clear H hK1 hK2; simp [execOp, e96, go_sem]
            · intro a w val K H hK1 hK2
              have eg : a.tmps[97]? = some (.bool true) := H.known 20 97 _ rfl rfl
              have e11 : a.tmps[11]? = some (.int .i64 0) := H.hold 11 _ rfl rfl
              refine op_value rfl (by simp [Region.wanted, yielded, eg]) (w' := w) ?_ (MixK hK1 rfl (Below.refl _ _))
              clear H hK1 hK2; simp [execOp, e11, go_sem]
            · intro a w val K H hK1 hK2
              have eg : a.tmps[97]? = some (.bool true) := H.known 20 97 _ rfl rfl
              have e98 : a.tmps[98]? = some (.int .i64 0) := H.known 21 98 _ rfl rfl
              refine op_value rfl (by simp [Region.wanted, yielded, eg]) (w' := w) ?_ (MixK hK1 rfl (Below.refl _ _))
              clear H hK1 hK2; simp [execOp, e98, go_sem]
            · intro a w val K H hK1 hK2
              have eg : a.tmps[97]? = some (.bool true) := H.known 20 97 _ rfl rfl
              have e99 : a.tmps[99]? = some (.bool true) := H.known 22 99 _ rfl rfl
              refine op_value rfl (by simp [Region.wanted, yielded, eg]) (w' := w) ?_ (MixK hK1 rfl (Below.refl _ _))
              clear H hK1 hK2; simp [execOp, e99, go_sem]
            · intro a w val K H hK1 hK2
              have eg : a.tmps[100]? = some (.bool true) := H.known 23 100 _ rfl rfl
              have e10 : a.tmps[10]? = some (.pointer (some ⟨w3.heap.size, 0, none⟩)) := H.hold 10 _ rfl rfl
              have c0 := H.cell (hq3) c2
              have c1 := H.cell (hq3) c3
              refine op_value rfl (by simp [Region.wanted, yielded, eg]) (w' := w) ?_ (MixK hK1 rfl (Below.refl _ _))
              clear H hK1 hK2; simp [execOp, e10, go_sem, c0, c1]
            · intro a w val K H hK1 hK2
              have eg : a.tmps[100]? = some (.bool true) := H.known 23 100 _ rfl rfl
              have e101 : a.tmps[101]? = some (.agg #[.int .i64 h, .int .u64 l]) := H.known 24 101 _ rfl rfl
              refine op_enter rfl (by simp [Region.wanted, yielded, eg]) (w' := w) ?_ (Calls.mono (HK.out w) ?_)
              · clear H hK1 hK2; simp [execOp, e101, go_sem]
              · rintro e w1 ⟨rfl, hb1⟩; exact ⟨_, rfl, MixK hK1 rfl hb1⟩
            · intro a w val K H hK1 hK2
              have eg : a.tmps[100]? = some (.bool true) := H.known 23 100 _ rfl rfl
              have e1 : a.tmps[1]? = some (.string s) := H.hold 1 _ rfl rfl
              refine op_value rfl (by simp [Region.wanted, yielded, eg]) (w' := w) ?_ (MixK hK1 rfl (Below.refl _ _))
              clear H hK1 hK2; simp [execOp, e1, go_sem]
            · intro a w val K H hK1 hK2
              have eg : a.tmps[100]? = some (.bool true) := H.known 23 100 _ rfl rfl
              have e102 : a.tmps[102]? = some (.string s) := H.known 25 102 _ rfl rfl
              have e103 : a.tmps[103]? = some (.string s) := H.known 26 103 _ rfl rfl
              refine op_value rfl (by simp [Region.wanted, yielded, eg]) (w' := w) ?_ (MixK hK1 rfl (Below.refl _ _))
              clear H hK1 hK2; simp [execOp, e102, e103, go_sem]
            · intro a w val K H hK1 hK2
              have eg : a.tmps[97]? = some (.bool true) := H.known 20 97 _ rfl rfl
              have e100 : a.tmps[100]? = some (.bool true) := H.known 23 100 _ rfl rfl
              have e104 : a.tmps[104]? = some (.bool true) := H.known 27 104 _ rfl rfl
              refine op_value rfl (by simp [Region.wanted, yielded, eg]) (w' := w) ?_ (MixK hK1 rfl (Below.refl _ _))
              clear H hK1 hK2; simp [execOp, e100, e104, go_sem]
            · intro a w val K H hK1 hK2
              have eg : a.tmps[97]? = some (.bool true) := H.known 20 97 _ rfl rfl
              have e105 : a.tmps[105]? = some (.bool true) := H.known 28 105 _ rfl rfl
              refine op_value rfl (by simp [Region.wanted, yielded, eg]) (w' := w) ?_ (MixK hK1 rfl (Below.refl _ _))
              clear H hK1 hK2; simp [execOp, e105, go_sem]
            · intro a w val K H hK1 hK2
              have eg : a.tmps[106]? = some (.bool true) := H.known 29 106 _ rfl rfl
              exact op_pass rfl (by simp [Region.wanted, yielded, eg, undef]) (MixK hK1 rfl (Below.refl _ _))
            · intro a w val K H hK1 hK2
              have eg : a.tmps[106]? = some (.bool true) := H.known 29 106 _ rfl rfl
              exact op_pass rfl (by simp [Region.wanted, yielded, eg, undef]) (MixK hK1 rfl (Below.refl _ _))
            · intro a w val K H hK1 hK2
              have eg : a.tmps[106]? = some (.bool true) := H.known 29 106 _ rfl rfl
              exact op_pass rfl (by simp [Region.wanted, yielded, eg, undef]) (MixK hK1 rfl (Below.refl _ _))
            · intro a w val K H hK1 hK2
              have eg : a.tmps[109]? = some (undef) := H.known 32 109 _ rfl rfl
              exact op_pass rfl (by simp [Region.wanted, yielded, eg, undef]) (MixK hK1 rfl (Below.refl _ _))
            · intro a w val K H hK1 hK2
              have eg : a.tmps[109]? = some (undef) := H.known 32 109 _ rfl rfl
              exact op_pass rfl (by simp [Region.wanted, yielded, eg, undef]) (MixK hK1 rfl (Below.refl _ _))
            · intro a w val K H hK1 hK2
              have eg : a.tmps[109]? = some (undef) := H.known 32 109 _ rfl rfl
              exact op_pass rfl (by simp [Region.wanted, yielded, eg, undef]) (MixK hK1 rfl (Below.refl _ _))
            · intro a w val K H hK1 hK2
              have eg : a.tmps[106]? = some (.bool true) := H.known 29 106 _ rfl rfl
              exact op_pass rfl (by simp [Region.wanted, yielded, eg, undef]) (MixK hK1 rfl (Below.refl _ _))
            · intro a w val K H hK1 hK2
              have eg : a.tmps[97]? = some (.bool true) := H.known 20 97 _ rfl rfl
              have e106 : a.tmps[106]? = some (.bool true) := H.known 29 106 _ rfl rfl
              have e113 : a.tmps[113]? = some (undef) := H.known 36 113 _ rfl rfl
              refine op_value rfl (by simp [Region.wanted, yielded, eg]) (w' := w) ?_ (MixK hK1 rfl (Below.refl _ _))
              clear H hK1 hK2; simp [execOp, e106, e113, go_sem]
            · intro a w val K H hK1 hK2
              have e97 : a.tmps[97]? = some (.bool true) := H.known 20 97 _ rfl rfl
              have e114 : a.tmps[114]? = some ((Value.bool true)) := H.known 37 114 _ rfl rfl
              refine op_value rfl rfl (w' := w) ?_ (MixK hK1 rfl (Below.refl _ _))
              clear H hK1 hK2; simp [execOp, e97, e114, go_sem]
            · intro a w val K H hK1 hK2
              have e115 : a.tmps[115]? = some ((Value.bool true)) := H.known 38 115 _ rfl rfl
              refine op_value rfl rfl (w' := w) ?_ (MixK hK1 rfl (Below.refl _ _))
              clear H hK1 hK2; simp [execOp, e115, go_sem]
          intro val wz HE
          simp only [finalL, MX, Mix.valF, List.getD_cons_zero, List.getD_cons_succ, Option.getD_some, Option.getD_none, List.setIfInBounds_toArray, List.set_cons_zero, List.set_cons_succ]
          go_wp2_with fail
          go_ret
          exact ⟨rfl, L3.trans (HE.bel.mono L3.size)⟩
        · go_wp2_with (go_at_call 10; refine (get_long s hs16 _).mono ?_; rintro e w3 ⟨rfl, hb3⟩)
          have hB3 := (own_step (hB2.alloc (.cells #[.int .i64 (whi S), .int .u64 (wlo S)] 29)) hb3).alloc (.cells #[.int .i64 0, .int .u64 0] 29)
          have hC3 := (own_step (hC2.alloc (.cells #[.int .i64 (whi S), .int .u64 (wlo S)] 29)) hb3).alloc (.cells #[.int .i64 0, .int .u64 0] 29)
          have c0 := keep1 (Below.step hb3 (Below.new w3 (.cells #[.int .i64 0, .int .u64 0] 29))) (cell_of_block0 (heap_alloc_new w2 (.cells #[.int .i64 (whi S), .int .u64 (wlo S)] 29)))
          have c1 := keep1 (Below.step hb3 (Below.new w3 (.cells #[.int .i64 0, .int .u64 0] 29))) (cell_of_block1 (heap_alloc_new w2 (.cells #[.int .i64 (whi S), .int .u64 (wlo S)] 29)))
          have hs3 : w.heap.size ≤ (w3.alloc (.cells #[.int .i64 0, .int .u64 0] 29)).heap.size := by
            have h1 := hb3.size
            have h2 := hb2.size
            have h3 := hbel.size
            simp at h1
            simp
            omega
          have c2 := cell_of_block0 (heap_alloc_new w3 (.cells #[.int .i64 0, .int .u64 0] 29))
          have c3 := cell_of_block1 (heap_alloc_new w3 (.cells #[.int .i64 0, .int .u64 0] 29))
          have L3 : Below w.heap.size w (w3.alloc (.cells #[.int .i64 0, .int .u64 0] 29)) := Below.step (Below.step (Below.step (Below.step hbel hb2) (Below.new _ _)) hb3) (Below.new _ _)
          have hq2 : w2.heap.size < (w3.alloc (.cells #[.int .i64 0, .int .u64 0] 29)).heap.size := by have h1 := hb3.size; simp at h1 ⊢; omega
          have hq3 : w3.heap.size < (w3.alloc (.cells #[.int .i64 0, .int .u64 0] 29)).heap.size := by simp
          generalize w3.alloc (.cells #[.int .i64 0, .int .u64 0] 29) = W3 at hB3 hC3 c0 c1 c2 c3 L3 hq2 hq3 hs3 ⊢
          let MX : Mix := { anc := [[], [], [1], [0, 2], [3], [4], [4], [4, 5, 6], [4], [4, 8], [4, 7, 9], [4, 10], [4], [4, 11, 12], [4, 13], [14], [15], [15], [15, 16, 17], [15, 18], [19], [20], [20, 21], [20, 22], [23], [23, 24], [23], [23, 25, 26], [20, 23, 27], [20, 28], [29], [29, 30], [29, 31], [32], [32], [32, 33, 34], [29, 32, 35], [20, 29, 36], [20, 37], [38]], vals := [some (.agg #[.int .i64 (whi S), .int .u64 (wlo S)]), some (.slice ab k cb), some (.agg #[.int .i64 (whi S), .int .u64 (wlo S)]), some (.bool true), some (.bool true), none, some (.slice ac (k * 2) cc), none, some (.agg #[.int .i64 (whi S), .int .u64 (wlo S)]), none, none, some (.agg #[.int .i64 (whi 0), .int .u64 (wlo 0)]), some (.agg #[.int .i64 0, .int .u64 0]), some (.bool true), some (.bool true), some (.bool true), some (.int .i64 3), some (.int .i64 3), some (.bool true), some (.bool true), some (.bool true), some (.int .i64 3), some (.bool false), some (.bool false), some (undef), some (undef), some (undef), some (undef), some ((Value.bool false)), some ((Value.bool false)), some (.int .i64 3), some (.bool true), some (.bool true), some (.agg #[.int .i64 0, .int .u64 0]), some (.agg #[.int .i64 0, .int .u64 0]), some (.bool true), some (.bool true), some (.bool true), some (.bool true), some (.bool true)], cons := [[], [], [], [], [], [], [], [5], [], [], [7]], own := [5, 7, 9, 10], F := (fun p v w => if p = 5 then (∃ ao cap, v = .slice ao 0 cap ∧ w.ownsRow W3.heap.size 29 2 (.slice ao 0 cap) 0 []) else if p = 7 then (∃ ao cap, v = .slice ao (k * 2) cap ∧ w.ownsRow W3.heap.size 29 2 (.slice ao (k * 2) cap) (k * 2) (wcells (halves pre))) else if p = 9 then (∃ ao cap, v = .slice ao 1 cap ∧ w.ownsRow W3.heap.size 29 2 (.slice ao 1 cap) 1 (wcells [S])) else if p = 10 then (∃ ao cap, v = .slice ao (k * 2 + 1) cap ∧ w.ownsRow W3.heap.size 29 2 (.slice ao (k * 2 + 1) cap) (k * 2 + 1) (wcells (halves pre ++ [S]))) else True), iv := fun _ => undef, m := 0, B := W3.heap.size }
          refine region_mix MX [some 77, some 78, some 79, some 80, some 81, some 82, some 83, some 84, some 85, some 86, some 87, some 88, some 89, some 90, some 91, some 92, some 93, some 94, some 95, some 96, some 97, some 98, some 99, some 100, some 101, some 102, some 103, some 104, some 105, some 106, some 107, some 108, some 109, some 110, some 111, some 112, some 113, some 114, some 115, some 4] _ _ (by kernel_rfl) (by rfl) (by rfl) (by rfl) (by rfl) (by rfl) (by rfl) (Nat.le_refl _) ?_ ?_ ?_ ?_ ?_
          · intro p v w w1 hf hB1 hb1 hb2 hb3
            simp only [MX] at hf ⊢
            by_cases e5 : p = 5
            · subst e5
              simp only [if_true] at hf ⊢
              exact mix_stable hf hb2 (by rfl)
            by_cases e7 : p = 7
            · subst e7
              simp only [if_true, if_neg (show ¬ (7 : Nat) = 5 by decide)] at hf ⊢
              exact mix_stable hf hb2 (by rfl)
            by_cases e9 : p = 9
            · subst e9
              simp only [if_true, if_neg (show ¬ (9 : Nat) = 5 by decide), if_neg (show ¬ (9 : Nat) = 7 by decide)] at hf ⊢
              exact mix_stable hf hb2 (by rfl)
            by_cases e10 : p = 10
            · subst e10
              simp only [if_true, if_neg (show ¬ (10 : Nat) = 5 by decide), if_neg (show ¬ (10 : Nat) = 7 by decide), if_neg (show ¬ (10 : Nat) = 9 by decide)] at hf ⊢
              exact mix_stable hf hb2 (by rfl)
            simp only [if_neg e5, if_neg e7, if_neg e9, if_neg e10]
          · intro p h1 h2; exact absurd h2 (by simp only [MX]; omega)
          · intro p q b h1 h2; exact absurd h2 (by simp only [MX]; omega)
          · intro i hi
            have hi' : i < 40 := hi
            have hc : i = 0 ∨ i = 1 ∨ i = 2 ∨ i = 3 ∨ i = 4 ∨ i = 5 ∨ i = 6 ∨ i = 7 ∨ i = 8 ∨ i = 9 ∨ i = 10 ∨ i = 11 ∨ i = 12 ∨ i = 13 ∨ i = 14 ∨ i = 15 ∨ i = 16 ∨ i = 17 ∨ i = 18 ∨ i = 19 ∨ i = 20 ∨ i = 21 ∨ i = 22 ∨ i = 23 ∨ i = 24 ∨ i = 25 ∨ i = 26 ∨ i = 27 ∨ i = 28 ∨ i = 29 ∨ i = 30 ∨ i = 31 ∨ i = 32 ∨ i = 33 ∨ i = 34 ∨ i = 35 ∨ i = 36 ∨ i = 37 ∨ i = 38 ∨ i = 39 := by omega
            clear hi hi'
            rcases hc with rfl | rfl | rfl | rfl | rfl | rfl | rfl | rfl | rfl | rfl | rfl | rfl | rfl | rfl | rfl | rfl | rfl | rfl | rfl | rfl | rfl | rfl | rfl | rfl | rfl | rfl | rfl | rfl | rfl | rfl | rfl | rfl | rfl | rfl | rfl | rfl | rfl | rfl | rfl | rfl
            · intro a w val K H hK1 hK2
              have e9 : a.tmps[9]? = some (.pointer (some ⟨w2.heap.size, 0, none⟩)) := H.hold 9 _ rfl rfl
              have c0 := H.cell (hq2) c0
              have c1 := H.cell (hq2) c1
              refine op_value rfl rfl (w' := w) ?_ (MixK hK1 rfl (Below.refl _ _))
              clear H hK1 hK2; simp [execOp, e9, go_sem, c0, c1]
            · intro a w val K H hK1 hK2
              have e6 : a.tmps[6]? = some (.slice ab k cb) := H.hold 6 _ rfl rfl
              refine op_value rfl rfl (w' := w) ?_ (MixK hK1 rfl (Below.refl _ _))
              clear H hK1 hK2; simp [execOp, e6, go_sem]
            · intro a w val K H hK1 hK2
              have e78 : a.tmps[78]? = some (.slice ab k cb) := H.known 1 78 _ rfl rfl
              refine op_enter rfl rfl (w' := w) ?_ (Calls.mono (plus_own _ _ k pre.reverse S w HLr HSr (by omega) (H.own rfl hB3)) ?_)
              · clear H hK1 hK2; simp [execOp, e78, go_sem]
              · rintro e w1 ⟨rfl, hb1⟩; exact ⟨_, rfl, MixK hK1 rfl hb1⟩
            · intro a w val K H hK1 hK2
              have e77 : a.tmps[77]? = some (.agg #[.int .i64 (whi S), .int .u64 (wlo S)]) := H.known 0 77 _ rfl rfl
              have e79 : a.tmps[79]? = some (.agg #[.int .i64 (whi S), .int .u64 (wlo S)]) := H.known 2 79 _ rfl rfl
              refine op_value rfl rfl (w' := w) ?_ (MixK hK1 rfl (Below.refl _ _))
              clear H hK1 hK2; simp [execOp, e77, e79, go_sem]
            · intro a w val K H hK1 hK2
              have e80 : a.tmps[80]? = some (.bool true) := H.known 3 80 _ rfl rfl
              refine op_value rfl rfl (w' := w) ?_ (MixK hK1 rfl (Below.refl _ _))
              clear H hK1 hK2; simp [execOp, e80, go_sem]
            · intro a w val K H hK1 hK2
              have eg : a.tmps[81]? = some (.bool true) := H.known 4 81 _ rfl rfl
              refine mix_new H (Nat.le_refl _) hK2 rfl (by simp [Region.wanted, yielded, eg]) rfl (ob := .cells #[] 29) (v := .slice (some ⟨w.heap.size, 0, none⟩) 0 0) ?_ ?_ (.inl rfl)
              · clear H hK1 hK2; simp [execOp, Act.eval, go_sem]
              · simp only [MX, if_true, if_neg (show ¬ (5 : Nat) = 7 by decide), if_neg (show ¬ (5 : Nat) = 9 by decide), if_neg (show ¬ (5 : Nat) = 10 by decide)]; exact ⟨_, _, rfl, own_lit H.bel.size (heap_alloc_new _ _) rfl rfl (by decide)⟩
            · intro a w val K H hK1 hK2
              have eg : a.tmps[81]? = some (.bool true) := H.known 4 81 _ rfl rfl
              have e7 : a.tmps[7]? = some (.slice ac (k * 2) cc) := H.hold 7 _ rfl rfl
              refine op_value rfl (by simp [Region.wanted, yielded, eg]) (w' := w) ?_ (MixK hK1 rfl (Below.refl _ _))
              clear H hK1 hK2; simp [execOp, e7, go_sem]
            · intro a w val K H hK1 hK2
              have eg : a.tmps[81]? = some (.bool true) := H.known 4 81 _ rfl rfl
              have e82 : a.tmps[82]? = some (val 5) := H.slot 5 82 rfl
              have f82 := H.F 5 rfl
              simp only [MX, if_true, if_neg (show ¬ (5 : Nat) = 7 by decide), if_neg (show ¬ (5 : Nat) = 9 by decide), if_neg (show ¬ (5 : Nat) = 10 by decide)] at f82
              have e83 : a.tmps[83]? = some (.slice ac (k * 2) cc) := H.known 6 83 _ rfl rfl
              obtain ⟨ao, cap, hv, ho⟩ := f82
              rw [hv] at e82
              refine mix_app (n := 0) (xs := []) H (Nat.le_refl _) hK2 rfl (by simp [Region.wanted, yielded, eg]) rfl rfl 5 rfl rfl hv e82 e83 elemW ho (by rw [wcells_len, hlen]) (Src.own (H.own rfl hC3)) (wcells_one _) (by unfold maxLen; omega) (by omega) (fun ao1 cap1 w1 h1 => ?_)
              simp only [MX, if_neg (show ¬ (7 : Nat) = 5 by decide), if_true]
              simp only [Nat.zero_add, List.nil_append] at h1 ⊢
              exact ⟨_, _, rfl, h1⟩
            · intro a w val K H hK1 hK2
              have eg : a.tmps[81]? = some (.bool true) := H.known 4 81 _ rfl rfl
              have e9 : a.tmps[9]? = some (.pointer (some ⟨w2.heap.size, 0, none⟩)) := H.hold 9 _ rfl rfl
              have c0 := H.cell (hq2) c0
              have c1 := H.cell (hq2) c1
              refine op_value rfl (by simp [Region.wanted, yielded, eg]) (w' := w) ?_ (MixK hK1 rfl (Below.refl _ _))
              clear H hK1 hK2; simp [execOp, e9, go_sem, c0, c1]
            · intro a w val K H hK1 hK2
              have eg : a.tmps[81]? = some (.bool true) := H.known 4 81 _ rfl rfl
              have e85 : a.tmps[85]? = some (.agg #[.int .i64 (whi S), .int .u64 (wlo S)]) := H.known 8 85 _ rfl rfl
              refine mix_new H (Nat.le_refl _) hK2 rfl (by simp [Region.wanted, yielded, eg]) rfl (ob := .cells #[.int .i64 (whi S), .int .u64 (wlo S)] 29) (v := .slice (some ⟨w.heap.size, 0, none⟩) 1 1) ?_ ?_ (.inl rfl)
              · clear H hK1 hK2; simp [execOp, e85, go_sem]
              · simp only [MX, if_true, if_neg (show ¬ (9 : Nat) = 5 by decide), if_neg (show ¬ (9 : Nat) = 7 by decide), if_neg (show ¬ (9 : Nat) = 10 by decide)]; exact ⟨_, _, rfl, own_lit H.bel.size (heap_alloc_new _ _) rfl rfl (by decide)⟩
            · intro a w val K H hK1 hK2
              have eg : a.tmps[81]? = some (.bool true) := H.known 4 81 _ rfl rfl
              have e84 : a.tmps[84]? = some (val 7) := H.slot 7 84 rfl
              have f84 := H.F 7 rfl
              simp only [MX, if_true, if_neg (show ¬ (7 : Nat) = 5 by decide), if_neg (show ¬ (7 : Nat) = 9 by decide), if_neg (show ¬ (7 : Nat) = 10 by decide)] at f84
              have e86 : a.tmps[86]? = some (val 9) := H.slot 9 86 rfl
              have f86 := H.F 9 rfl
              simp only [MX, if_true, if_neg (show ¬ (9 : Nat) = 5 by decide), if_neg (show ¬ (9 : Nat) = 7 by decide), if_neg (show ¬ (9 : Nat) = 10 by decide)] at f86
              obtain ⟨ao, cap, hv, ho⟩ := f84
              obtain ⟨bo, cap2, hv2, ho2⟩ := f86
              rw [hv] at e84
              rw [hv2] at e86
              refine mix_app H (Nat.le_refl _) hK2 rfl (by simp [Region.wanted, yielded, eg]) rfl rfl 7 rfl rfl hv e84 e86 elemW ho (by rw [wcells_len]; rfl) (Src.own ho2) (wcells_one _) (by unfold maxLen; omega) (by omega) (fun ao1 cap1 w1 h1 => ?_)
              simp only [MX, if_neg (show ¬ (10 : Nat) = 5 by decide), if_neg (show ¬ (10 : Nat) = 7 by decide), if_neg (show ¬ (10 : Nat) = 9 by decide), if_true]
              rw [wcells_append]
              exact ⟨_, _, rfl, h1⟩
            · intro a w val K H hK1 hK2
              have eg : a.tmps[81]? = some (.bool true) := H.known 4 81 _ rfl rfl
              have e87 : a.tmps[87]? = some (val 10) := H.slot 10 87 rfl
              have f87 := H.F 10 rfl
              simp only [MX, if_true, if_neg (show ¬ (10 : Nat) = 5 by decide), if_neg (show ¬ (10 : Nat) = 7 by decide), if_neg (show ¬ (10 : Nat) = 9 by decide)] at f87
              obtain ⟨ao, cap, hv, ho⟩ := f87
              rw [hv] at e87
              refine op_enter rfl (by simp [Region.wanted, yielded, eg]) (w' := w) ?_ (Calls.mono (plus_own _ _ (k * 2 + 1) (halves pre ++ [S]) 0 w (by rw [List.length_append, hlen]; rfl) hsum (by omega) ho) ?_)
              · clear H hK1 hK2; simp [execOp, e87, go_sem]
              · rintro e w1 ⟨rfl, hb1⟩; exact ⟨_, rfl, MixK hK1 rfl hb1⟩
            · intro a w val K H hK1 hK2
              have eg : a.tmps[81]? = some (.bool true) := H.known 4 81 _ rfl rfl
              refine op_value rfl (by simp [Region.wanted, yielded, eg]) (w' := w) ?_ (MixK hK1 rfl (Below.refl _ _))
              clear H hK1 hK2; simp [execOp, Act.eval, go_sem]
            · intro a w val K H hK1 hK2
              have eg : a.tmps[81]? = some (.bool true) := H.known 4 81 _ rfl rfl
              have e88 : a.tmps[88]? = some (.agg #[.int .i64 (whi 0), .int .u64 (wlo 0)]) := H.known 11 88 _ rfl rfl
              have e89 : a.tmps[89]? = some (.agg #[.int .i64 0, .int .u64 0]) := H.known 12 89 _ rfl rfl
              refine op_value rfl (by simp [Region.wanted, yielded, eg]) (w' := w) ?_ (MixK hK1 rfl (Below.refl _ _))
              clear H hK1 hK2; simp [execOp, e88, e89, go_sem, y0, y1]
            · intro a w val K H hK1 hK2
              have e81 : a.tmps[81]? = some (.bool true) := H.known 4 81 _ rfl rfl
              have e90 : a.tmps[90]? = some (.bool true) := H.known 13 90 _ rfl rfl
              refine op_value rfl rfl (w' := w) ?_ (MixK hK1 rfl (Below.refl _ _))
              clear H hK1 hK2; simp [execOp, e81, e90, go_sem]
            · intro a w val K H hK1 hK2
              have e91 : a.tmps[91]? = some (.bool true) := H.known 14 91 _ rfl rfl
              refine op_value rfl rfl (w' := w) ?_ (MixK hK1 rfl (Below.refl _ _))
              clear H hK1 hK2; simp [execOp, e91, go_sem]
            · intro a w val K H hK1 hK2
              have eg : a.tmps[92]? = some (.bool true) := H.known 15 92 _ rfl rfl
              have e11 : a.tmps[11]? = some (.int .i64 3) := H.hold 11 _ rfl rfl
              refine op_value rfl (by simp [Region.wanted, yielded, eg]) (w' := w) ?_ (MixK hK1 rfl (Below.refl _ _))
              clear H hK1 hK2; simp [execOp, e11, go_sem]
            · intro a w val K H hK1 hK2
              have eg : a.tmps[92]? = some (.bool true) := H.known 15 92 _ rfl rfl
              have e12 : a.tmps[12]? = some (.int .i64 3) := H.hold 12 _ rfl rfl
              refine op_value rfl (by simp [Region.wanted, yielded, eg]) (w' := w) ?_ (MixK hK1 rfl (Below.refl _ _))
              clear H hK1 hK2; simp [execOp, e12, go_sem]
            · intro a w val K H hK1 hK2
              have eg : a.tmps[92]? = some (.bool true) := H.known 15 92 _ rfl rfl
              have e93 : a.tmps[93]? = some (.int .i64 3) := H.known 16 93 _ rfl rfl
              have e94 : a.tmps[94]? = some (.int .i64 3) := H.known 17 94 _ rfl rfl
              refine op_value rfl (by simp [Region.wanted, yielded, eg]) (w' := w) ?_ (MixK hK1 rfl (Below.refl _ _))
              clear H hK1 hK2; simp [execOp, e93, e94, go_sem]
            · intro a w val K H hK1 hK2
              have e92 : a.tmps[92]? = some (.bool true) := H.known 15 92 _ rfl rfl
              have e95 : a.tmps[95]? = some (.bool true) := H.known 18 95 _ rfl rfl
              refine op_value rfl rfl (w' := w) ?_ (MixK hK1 rfl (Below.refl _ _))
              clear H hK1 hK2; simp [execOp, e92, e95, go_sem]
            · intro a w val K H hK1 hK2
              have e96 : a.tmps[96]? = some (.bool true) := H.known 19 96 _ rfl rfl
              refine op_value rfl rfl (w' := w) ?_ (MixK hK1 rfl (Below.refl _ _))
              clear H hK1 hK2; simp [execOp, e96, go_sem]
            · intro a w val K H hK1 hK2
              have eg : a.tmps[97]? = some (.bool true) := H.known 20 97 _ rfl rfl
              have e11 : a.tmps[11]? = some (.int .i64 3) := H.hold 11 _ rfl rfl
              refine op_value rfl (by simp [Region.wanted, yielded, eg]) (w' := w) ?_ (MixK hK1 rfl (Below.refl _ _))
              clear H hK1 hK2; simp [execOp, e11, go_sem]
            · intro a w val K H hK1 hK2
              have eg : a.tmps[97]? = some (.bool true) := H.known 20 97 _ rfl rfl
              have e98 : a.tmps[98]? = some (.int .i64 3) := H.known 21 98 _ rfl rfl
              refine op_value rfl (by simp [Region.wanted, yielded, eg]) (w' := w) ?_ (MixK hK1 rfl (Below.refl _ _))
              clear H hK1 hK2; simp [execOp, e98, go_sem]
            · intro a w val K H hK1 hK2
              have eg : a.tmps[97]? = some (.bool true) := H.known 20 97 _ rfl rfl
              have e99 : a.tmps[99]? = some (.bool false) := H.known 22 99 _ rfl rfl
              refine op_value rfl (by simp [Region.wanted, yielded, eg]) (w' := w) ?_ (MixK hK1 rfl (Below.refl _ _))
              clear H hK1 hK2; simp [execOp, e99, go_sem]
            · intro a w val K H hK1 hK2
              have eg : a.tmps[100]? = some (.bool false) := H.known 23 100 _ rfl rfl
              exact op_pass rfl (by simp [Region.wanted, yielded, eg, undef]) (MixK hK1 rfl (Below.refl _ _))
            · intro a w val K H hK1 hK2
              have eg : a.tmps[100]? = some (.bool false) := H.known 23 100 _ rfl rfl
              exact op_pass rfl (by simp [Region.wanted, yielded, eg, undef]) (MixK hK1 rfl (Below.refl _ _))
            · intro a w val K H hK1 hK2
              have eg : a.tmps[100]? = some (.bool false) := H.known 23 100 _ rfl rfl
              exact op_pass rfl (by simp [Region.wanted, yielded, eg, undef]) (MixK hK1 rfl (Below.refl _ _))
            · intro a w val K H hK1 hK2
              have eg : a.tmps[100]? = some (.bool false) := H.known 23 100 _ rfl rfl
              exact op_pass rfl (by simp [Region.wanted, yielded, eg, undef]) (MixK hK1 rfl (Below.refl _ _))
            · intro a w val K H hK1 hK2
              have eg : a.tmps[97]? = some (.bool true) := H.known 20 97 _ rfl rfl
              have e100 : a.tmps[100]? = some (.bool false) := H.known 23 100 _ rfl rfl
              have e104 : a.tmps[104]? = some (undef) := H.known 27 104 _ rfl rfl
              refine op_value rfl (by simp [Region.wanted, yielded, eg]) (w' := w) ?_ (MixK hK1 rfl (Below.refl _ _))
              clear H hK1 hK2; simp [execOp, e100, e104, go_sem]
            · intro a w val K H hK1 hK2
              have eg : a.tmps[97]? = some (.bool true) := H.known 20 97 _ rfl rfl
              have e105 : a.tmps[105]? = some ((Value.bool false)) := H.known 28 105 _ rfl rfl
              refine op_value rfl (by simp [Region.wanted, yielded, eg]) (w' := w) ?_ (MixK hK1 rfl (Below.refl _ _))
              clear H hK1 hK2; simp [execOp, e105, go_sem]
            · intro a w val K H hK1 hK2
              have eg : a.tmps[106]? = some ((Value.bool false)) := H.known 29 106 _ rfl rfl
              have e11 : a.tmps[11]? = some (.int .i64 3) := H.hold 11 _ rfl rfl
              refine op_value rfl (by simp [Region.wanted, yielded, eg]) (w' := w) ?_ (MixK hK1 rfl (Below.refl _ _))
              clear H hK1 hK2; simp [execOp, e11, go_sem]
            · intro a w val K H hK1 hK2
              have eg : a.tmps[106]? = some ((Value.bool false)) := H.known 29 106 _ rfl rfl
              have e107 : a.tmps[107]? = some (.int .i64 3) := H.known 30 107 _ rfl rfl
              refine op_value rfl (by simp [Region.wanted, yielded, eg]) (w' := w) ?_ (MixK hK1 rfl (Below.refl _ _))
              clear H hK1 hK2; simp [execOp, e107, go_sem]
            · intro a w val K H hK1 hK2
              have eg : a.tmps[106]? = some ((Value.bool false)) := H.known 29 106 _ rfl rfl
              have e108 : a.tmps[108]? = some (.bool true) := H.known 31 108 _ rfl rfl
              refine op_value rfl (by simp [Region.wanted, yielded, eg]) (w' := w) ?_ (MixK hK1 rfl (Below.refl _ _))
              clear H hK1 hK2; simp [execOp, e108, go_sem]
            · intro a w val K H hK1 hK2
              have eg : a.tmps[109]? = some (.bool true) := H.known 32 109 _ rfl rfl
              have e10 : a.tmps[10]? = some (.pointer (some ⟨w3.heap.size, 0, none⟩)) := H.hold 10 _ rfl rfl
              have c0 := H.cell (hq3) c2
              have c1 := H.cell (hq3) c3
              refine op_value rfl (by simp [Region.wanted, yielded, eg]) (w' := w) ?_ (MixK hK1 rfl (Below.refl _ _))
              clear H hK1 hK2; simp [execOp, e10, go_sem, c0, c1]
            · intro a w val K H hK1 hK2
              have eg : a.tmps[109]? = some (.bool true) := H.known 32 109 _ rfl rfl
              refine op_value rfl (by simp [Region.wanted, yielded, eg]) (w' := w) ?_ (MixK hK1 rfl (Below.refl _ _))
              clear H hK1 hK2; simp [execOp, Act.eval, go_sem]
            · intro a w val K H hK1 hK2
              have eg : a.tmps[109]? = some (.bool true) := H.known 32 109 _ rfl rfl
              have e110 : a.tmps[110]? = some (.agg #[.int .i64 0, .int .u64 0]) := H.known 33 110 _ rfl rfl
              have e111 : a.tmps[111]? = some (.agg #[.int .i64 0, .int .u64 0]) := H.known 34 111 _ rfl rfl
              refine op_value rfl (by simp [Region.wanted, yielded, eg]) (w' := w) ?_ (MixK hK1 rfl (Below.refl _ _))
              clear H hK1 hK2; simp [execOp, e110, e111, go_sem]
            · intro a w val K H hK1 hK2
              have eg : a.tmps[106]? = some ((Value.bool false)) := H.known 29 106 _ rfl rfl
              have e109 : a.tmps[109]? = some (.bool true) := H.known 32 109 _ rfl rfl
              have e112 : a.tmps[112]? = some (.bool true) := H.known 35 112 _ rfl rfl
              refine op_value rfl (by simp [Region.wanted, yielded, eg]) (w' := w) ?_ (MixK hK1 rfl (Below.refl _ _))
              clear H hK1 hK2; simp [execOp, e109, e112, go_sem]
            · intro a w val K H hK1 hK2
              have eg : a.tmps[97]? = some (.bool true) := H.known 20 97 _ rfl rfl
              have e106 : a.tmps[106]? = some ((Value.bool false)) := H.known 29 106 _ rfl rfl
              have e113 : a.tmps[113]? = some (.bool true) := H.known 36 113 _ rfl rfl
              refine op_value rfl (by simp [Region.wanted, yielded, eg]) (w' := w) ?_ (MixK hK1 rfl (Below.refl _ _))
              clear H hK1 hK2; simp [execOp, e106, e113, go_sem]
            · intro a w val K H hK1 hK2
              have e97 : a.tmps[97]? = some (.bool true) := H.known 20 97 _ rfl rfl
              have e114 : a.tmps[114]? = some (.bool true) := H.known 37 114 _ rfl rfl
              refine op_value rfl rfl (w' := w) ?_ (MixK hK1 rfl (Below.refl _ _))
              clear H hK1 hK2; simp [execOp, e97, e114, go_sem]
            · intro a w val K H hK1 hK2
              have e115 : a.tmps[115]? = some (.bool true) := H.known 38 115 _ rfl rfl
              refine op_value rfl rfl (w' := w) ?_ (MixK hK1 rfl (Below.refl _ _))
              clear H hK1 hK2; simp [execOp, e115, go_sem]
          intro val wz HE
          simp only [finalL, MX, Mix.valF, List.getD_cons_zero, List.getD_cons_succ, Option.getD_some, Option.getD_none, List.setIfInBounds_toArray, List.set_cons_zero, List.set_cons_succ]
          go_wp2_with fail
          go_ret
          exact ⟨rfl, L3.trans (HE.bel.mono L3.size)⟩
end Go.Proofs.Ytdekhoopbcihaaa
