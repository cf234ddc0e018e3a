/-
  The functions as relations of plain data, and that the program does as they say. (Written by a program of mine, wip/gen.py.)
-/
import Derived.Test.YtkmehmgocelkiaaAgg
namespace Go.Proofs.Ytkmehmgocelkiaa
open Go.AV Go.RowKit

def wide_eight_J1 (r : Str) (l4 : (List Int)) : Prop :=
  (l4.map toB) = r
def wide_eight_L3 (a0 : Int) (r : Str) (X3 : (List Int) → Int → Prop) (l5 : (List Int)) (x6 : Int) : Prop :=
  cnd (decide (x6 < ((List.replicate (8 : Int).toNat (0 : Int)).length : Int))) ((¬ (IntKind.i64.wrap ((8 : Int) * x6)) < 0) ∧ 0 ≤ (IntKind.i64.wrap ((7 : Int) - x6)) ∧ ∃ y9 : Int, l5[(IntKind.i64.wrap ((7 : Int) - x6)).toNat]? = some y9 ∧ X3 (l5.set (IntKind.i64.wrap ((7 : Int) - x6)).toNat (IntKind.u8.wrap (a0.fdiv (2 ^ (min (IntKind.i64.wrap ((8 : Int) * x6)).toNat IntKind.u64.bits))))) (IntKind.i64.wrap (x6 + (1 : Int)))) (wide_eight_J1 r l5)
def wide_eight_o (a0 : Int) (r : Str) : Prop :=
  (0 ≤ (8 : Int)) ∧ (1 * (8 : Int).toNat ≤ 281474976710656) ∧ ((8 : Int) ≤ 1000000000) ∧ Lp2 (wide_eight_L3 a0 r) (List.replicate (8 : Int).toNat (0 : Int)) (0 : Int)

set_option maxRecDepth 100000 in
set_option maxHeartbeats 1000000 in
theorem wide_eight_ok {a0 : Int} {r : Str}  (h : wide_eight_o a0 r) : Pure Try.prog 94 [.it .u64 a0] (.st r) := by
  refine pureK t94 (Nat.le_of_ble_eq_true rfl) (by kernel_rfl) fun B H n hB => ?_
  dsimp only [c94]
  unfold wide_eight_o at h
  refine WK_conv (ks' := ⟨[(0, .it .u64 a0)], [], H, n⟩) (by kernel_rfl) ?_
  refine WK_seq ?_
  refine WK_ops ?_
  refine @WD_q _ _ _ _ _ _ _ _ 1 1 [] (by kernel_rfl) rfl trivial ?_
  refine @WD_end _ _ _ _ _ _ _ _ hB [0] [] ⟨[(0, .it .u64 a0)], [], H, n⟩ (by kernel_rfl) (by kernel_rfl) ?_
  refine sqn ?_
  refine WK_seq ?_
  refine WK_ops ?_
  obtain ⟨c1, h⟩ := h
  obtain ⟨c2, h⟩ := h
  obtain ⟨c3, h⟩ := h
  refine WD_mks (eI .u8) (k := .i64) (k' := .i64) (o := ⟨some 5, none, .mks 5 1 1 [(.it .u8 0)] (.c (.it .i64 8)) (.c (.it .i64 8))⟩) (q := (8 : Int)) (v := (0 : Int)) (by kernel_rfl) rfl (by kernel_rfl) (by kernel_rfl) (by kernel_rfl) (by kernel_rfl) (by kernel_rfl) (by kernel_rfl) c1 c2 c3 ?_
  refine @WD_q _ _ _ _ _ _ _ _ 1 2 [] (by kernel_rfl) rfl trivial ?_
  refine @WD_end _ _ _ _ _ _ _ _ hB [0, 3] [(5, 2)] ⟨[(0, .it .u64 a0), (3, rwA 5 1 (List.replicate (8 : Int).toNat (0 : Int)))], [(5, rwB 5 (eI .u8) (List.replicate (8 : Int).toNat (0 : Int)))], H, n⟩ (by kernel_rfl) (by kernel_rfl) ?_
  refine sqn ?_
  refine WK_seqJ (σ := (List Int)) (fun (l4 : (List Int)) => wide_eight_J1 r l4) (fun (l4 : (List Int)) ks => ks.keep [3] [5] = ⟨[(3, rwA 5 1 l4)], [(5, rwB 5 (eI .u8) l4)], H, n⟩) (fun X hX2 => ?_) ?_
  · refine WK_seq ?_
    refine WK_ops ?_
    refine @WD_q _ _ _ _ _ _ _ _ 3 3 [] (by kernel_rfl) rfl trivial ?_
    refine @WD_end _ _ _ _ _ _ _ _ hB [0, 3, 7, 8] [(5, 1)] ⟨[(0, .it .u64 a0), (3, rwA 5 1 (List.replicate (8 : Int).toNat (0 : Int))), (7, .it .i64 ((List.replicate (8 : Int).toNat (0 : Int)).length : Int)), (8, .it .i64 (0 : Int))], [(5, rwB 5 (eI .u8) (List.replicate (8 : Int).toNat (0 : Int)))], H, n⟩ (by kernel_rfl) (by kernel_rfl) ?_
    refine sqn ?_
    refine WK_block ?_
    refine WK_loop fun YX3 hYX3 => ?_
    obtain ⟨X3, hX3⟩ : ∃ q : (List Int) → Int → Prop, q = (fun (l5 : (List Int)) (x6 : Int) => ∀ ks, (ks.keep [0, 3, 7, 8] [5] = ⟨[(0, .it .u64 a0), (3, rwA 5 1 l5), (7, .it .i64 ((List.replicate (8 : Int).toNat (0 : Int)).length : Int)), (8, .it .i64 x6)], [(5, rwB 5 (eI .u8) l5)], H, n⟩) → YX3 ks) := ⟨_, rfl⟩
    suffices hs : X3 (List.replicate (8 : Int).toNat (0 : Int)) (0 : Int) by rw [hX3] at hs; exact hs _ (by show _ = _; kernel_rfl)
    refine h X3 (fun l5 x6 h => ?_)
    rw [hX3]
    rintro _ hk
    refine hYX3 _ ?_
    unfold wide_eight_L3 at h
    refine WK_keep hB hk ?_
    refine WK_seq ?_
    refine WK_ops ?_
    refine @WD_q _ _ _ _ _ _ _ _ 1 1 [] (by kernel_rfl) rfl trivial ?_
    refine @WD_end _ _ _ _ _ _ _ _ hB [0, 3, 7, 8, 9] [(5, 1)] ⟨[(0, .it .u64 a0), (3, rwA 5 1 l5), (7, .it .i64 ((List.replicate (8 : Int).toNat (0 : Int)).length : Int)), (8, .it .i64 x6), (9, .bl (decide (x6 < ((List.replicate (8 : Int).toNat (0 : Int)).length : Int))))], [(5, rwB 5 (eI .u8) l5)], H, n⟩ (by kernel_rfl) (by kernel_rfl) ?_
    refine sqn ?_
    refine WK_seq ?_
    refine WK_cond (b := decide (x6 < ((List.replicate (8 : Int).toNat (0 : Int)).length : Int))) (by kernel_rfl) (fun b7 => ?_) (fun b7 => ?_)
    · have h := h.1 b7
      refine WK_skip ?_
      refine sqn ?_
      refine WK_seq ?_
      refine WK_block ?_
      refine WK_seq ?_
      refine WK_ops ?_
      refine @WD_q _ _ _ _ _ _ _ _ 2 2 [] (by kernel_rfl) rfl trivial ?_
      refine @WD_end _ _ _ _ _ _ _ _ hB [0, 3, 4, 7, 8] [(5, 1)] ⟨[(0, .it .u64 a0), (3, rwA 5 1 l5), (4, .it .i64 x6), (7, .it .i64 ((List.replicate (8 : Int).toNat (0 : Int)).length : Int)), (8, .it .i64 x6)], [(5, rwB 5 (eI .u8) l5)], H, n⟩ (by kernel_rfl) (by kernel_rfl) ?_
      refine sqn ?_
      refine WK_ops ?_
      obtain ⟨c8, h⟩ := h
      obtain ⟨i10, y9, y11, h⟩ := h
      refine @WD_q _ _ _ _ _ _ _ _ 9 9 [¬ (IntKind.i64.wrap ((8 : Int) * x6)) < 0, 0 ≤ (IntKind.i64.wrap ((7 : Int) - x6)) ∧ (IntKind.i64.wrap ((7 : Int) - x6)) < l5.length] (by kernel_rfl) rfl ⟨c8, ⟨i10, lt_of_at i10 y11⟩, trivial⟩ ?_
      refine @WD_e _ _ _ _ _ _ _ _ ⟨none, none, .sto 1 (.t 19) (.t 18)⟩ _ _ (by kernel_rfl) (by kernel_rfl) (fun hk => E_str (eI .u8) (x := (.t 19)) (l := l5) (y := y9) (off := (IntKind.i64.wrap ((7 : Int) - x6)).toNat * 1) (m := (IntKind.i64.wrap ((7 : Int) - x6)).toNat) (of := 0) (s := 5) (c := 1) (e0 := 5) (b := true) (IntKind.u8.wrap (a0.fdiv (2 ^ (min (IntKind.i64.wrap ((8 : Int) * x6)).toNat IntKind.u64.bits)))) hk (by kernel_rfl) (by kernel_rfl) (by kernel_rfl) y11 (by kernel_rfl) (by kernel_rfl)) rfl ?_
      refine @WD_val _ _ _ _ _ _ _ _ 3 (rwA 5 1 l5) (rwA 5 1 (l5.set (IntKind.i64.wrap ((7 : Int) - x6)).toNat (IntKind.u8.wrap (a0.fdiv (2 ^ (min (IntKind.i64.wrap ((8 : Int) * x6)).toNat IntKind.u64.bits)))))) (by kernel_rfl) (by simp only [rwA, List.length_set]) ?_
      refine @WD_val _ _ _ _ _ _ _ _ 11 (rwA 5 1 l5) (rwA 5 1 (l5.set (IntKind.i64.wrap ((7 : Int) - x6)).toNat (IntKind.u8.wrap (a0.fdiv (2 ^ (min (IntKind.i64.wrap ((8 : Int) * x6)).toNat IntKind.u64.bits)))))) (by kernel_rfl) (by simp only [rwA, List.length_set]) ?_
      refine @WD_end _ _ _ _ _ _ _ _ hB [0, 3, 7, 8] [(5, 1)] ⟨[(0, .it .u64 a0), (3, rwA 5 1 (l5.set (IntKind.i64.wrap ((7 : Int) - x6)).toNat (IntKind.u8.wrap (a0.fdiv (2 ^ (min (IntKind.i64.wrap ((8 : Int) * x6)).toNat IntKind.u64.bits)))))), (7, .it .i64 ((List.replicate (8 : Int).toNat (0 : Int)).length : Int)), (8, .it .i64 x6)], [(5, rwB 5 (eI .u8) (l5.set (IntKind.i64.wrap ((7 : Int) - x6)).toNat (IntKind.u8.wrap (a0.fdiv (2 ^ (min (IntKind.i64.wrap ((8 : Int) * x6)).toNat IntKind.u64.bits))))))], H, n⟩ (by kernel_rfl) (by kernel_rfl) ?_
      refine bkn ?_
      refine sqn ?_
      refine WK_ops ?_
      refine @WD_q _ _ _ _ _ _ _ _ 2 2 [] (by kernel_rfl) rfl trivial ?_
      refine @WD_end _ _ _ _ _ _ _ _ hB [0, 3, 7, 8] [(5, 1)] ⟨[(0, .it .u64 a0), (3, rwA 5 1 (l5.set (IntKind.i64.wrap ((7 : Int) - x6)).toNat (IntKind.u8.wrap (a0.fdiv (2 ^ (min (IntKind.i64.wrap ((8 : Int) * x6)).toNat IntKind.u64.bits)))))), (7, .it .i64 ((List.replicate (8 : Int).toNat (0 : Int)).length : Int)), (8, .it .i64 (IntKind.i64.wrap (x6 + (1 : Int))))], [(5, rwB 5 (eI .u8) (l5.set (IntKind.i64.wrap ((7 : Int) - x6)).toNat (IntKind.u8.wrap (a0.fdiv (2 ^ (min (IntKind.i64.wrap ((8 : Int) * x6)).toNat IntKind.u64.bits))))))], H, n⟩ (by kernel_rfl) (by kernel_rfl) ?_
      refine sqn ?_
      rw [hX3] at h
      exact h _ (by show _ = _; kernel_rfl)
    · have h := h.2 b7
      refine WK_exit ?_
      refine sqx ?_
      refine sqx ?_
      refine bkx ?_
      refine sqn (hX2 l5 _ h (by show _ = _; kernel_rfl))
  · rintro l4 _ h hk
    replace h : wide_eight_J1 r l4 := h
    unfold wide_eight_J1 at h
    refine WK_keep hB hk ?_
    refine WK_seq ?_
    refine WK_ops ?_
    refine @WD_q _ _ _ _ _ _ _ _ 1 1 [] (by kernel_rfl) rfl trivial ?_
    refine WD_b2s (o := ⟨some 22, none, .b2s (.t 21)⟩) (s := 5) (c := 1) (e0 := 5) (n := l4.length) (l := l4) (q := true) (cs := cl eU8 l4) (by kernel_rfl) rfl (by kernel_rfl) (by kernel_rfl) (by kernel_rfl) rfl rfl ?_
    refine @WD_q _ _ _ _ _ _ _ _ 1 3 [] (by kernel_rfl) rfl trivial ?_
    refine @WD_end _ _ _ _ _ _ _ _ hB [2] [] ⟨[(2, .st (l4.map toB))], [], H, n⟩ (by kernel_rfl) (by kernel_rfl) ?_
    refine sqn ?_
    refine WK_ret ?_
    have hr : (l4.map toB) = r := h
    subst hr
    refine k_ret (u := .st (l4.map toB)) (by kernel_rfl) (by kernel_rfl) (by kernel_rfl) rfl rfl

def wide_Wide_Key_o (a0 : T_wide_Wide) (r : Str) : Prop :=
  ∃ z1 : Str, wide_eight_o (IntKind.u64.wrap a0.Hi) z1 ∧ ∃ z3 : Str, wide_eight_o a0.Lo z3 ∧ (z1.length + z3.length ≤ 9223372036854775807) ∧ (z1 ++ z3) = r

set_option maxRecDepth 100000 in
set_option maxHeartbeats 1000000 in
theorem wide_Wide_Key_ok {a0 : T_wide_Wide} {r : Str}  (h : wide_Wide_Key_o a0 r) : Pure Try.prog 79 [.agg [.it .i64 a0.Hi, .it .u64 a0.Lo]] (.st r) := by
  refine pureK t79 (Nat.le_of_ble_eq_true rfl) (by kernel_rfl) fun B H n hB => ?_
  dsimp only [c79]
  unfold wide_Wide_Key_o at h
  refine WK_conv (ks' := ⟨[(0, .agg [.it .i64 a0.Hi, .it .u64 a0.Lo])], [], H, n⟩) (by kernel_rfl) ?_
  refine WK_seq ?_
  refine WK_ops ?_
  refine @WD_q _ _ _ _ _ _ _ _ 2 2 [] (by kernel_rfl) rfl trivial ?_
  refine @WD_end _ _ _ _ _ _ _ _ hB [1] [(1, 2)] ⟨[(1, .pt (.l 1 1) 0)], [(1, ⟨113, 2, [.it .i64 a0.Hi, .it .u64 a0.Lo], true⟩)], H, n⟩ (by kernel_rfl) (by kernel_rfl) ?_
  refine sqn ?_
  refine WK_seq ?_
  refine WK_drw ?_
  obtain ⟨z1, z2, h⟩ := h
  refine @DD_q _ _ _ _ _ _ 3 3 [] (by kernel_rfl) rfl trivial ?_
  refine @DD_c _ _ _ _ _ _ ⟨some 6, none, .call 94 [(.t 5)]⟩ [] 94 [.it .u64 (IntKind.u64.wrap a0.Hi)] [.it .u64 (IntKind.u64.wrap a0.Hi)] [.it .u64 (IntKind.u64.wrap a0.Hi)] [] (.st z1) (by kernel_rfl) (by kernel_rfl) (.inl ⟨[(.t 5)], rfl, by kernel_rfl⟩) (by kernel_rfl) (by kernel_rfl) (by kernel_rfl) (wide_eight_ok z2) (by kernel_rfl) ?_
  obtain ⟨z3, z4, h⟩ := h
  refine @DD_q _ _ _ _ _ _ 2 6 [] (by kernel_rfl) rfl trivial ?_
  refine @DD_c _ _ _ _ _ _ ⟨some 9, none, .call 94 [(.t 8)]⟩ [] 94 [.it .u64 a0.Lo] [.it .u64 a0.Lo] [.it .u64 a0.Lo] [] (.st z3) (by kernel_rfl) (by kernel_rfl) (.inl ⟨[(.t 8)], rfl, by kernel_rfl⟩) (by kernel_rfl) (by kernel_rfl) (by kernel_rfl) (wide_eight_ok z4) (by kernel_rfl) ?_
  obtain ⟨c5, h⟩ := h
  refine @DD_q _ _ _ _ _ _ 2 9 [z1.length + z3.length ≤ 9223372036854775807] (by kernel_rfl) rfl ⟨c5, trivial⟩ ?_
  refine @DD_end _ _ _ _ _ _ _ hB [2] [] ⟨[(2, .st (z1 ++ z3))], [], H, n⟩ _ (by kernel_rfl) (by kernel_rfl) ?_
  refine sqn ?_
  refine WK_ret ?_
  have hr : (z1 ++ z3) = r := h
  subst hr
  refine k_ret (u := .st (z1 ++ z3)) (by kernel_rfl) (by kernel_rfl) (by kernel_rfl) rfl rfl

def agg_Part_text_J1 (r : Str) (l3 : (List Str)) : Prop :=
  ∃ z4 : Str, pack_Pack_o l3 z4 ∧ z4 = r
def agg_Part_text_L3 (a0 : T_agg_Part) (r : Str) (X3 : (List Str) → Int → Prop) (l7 : (List Str)) (x8 : Int) : Prop :=
  cnd (decide (x8 < (a0.L.length : Int))) (0 ≤ x8 ∧ ∃ y10 : T_agg_One, a0.L[x8.toNat]? = some y10 ∧ ∃ z13 : Str, pack_Int_o y10.N z13 ∧ ∃ z15 : Str, wide_Wide_Key_o (⟨y10.Sum.Hi, y10.Sum.Lo⟩ : T_wide_Wide) z15 ∧ ∃ z17 : Str, row_Key_o ([(⟨y10.Min.Kind, y10.Min.N, y10.Min.S⟩ : T_value_Value)] : List T_value_Value) z17 ∧ ∃ z19 : Str, row_Key_o ([(⟨y10.Max.Kind, y10.Max.N, y10.Max.S⟩ : T_value_Value)] : List T_value_Value) z19 ∧ (l7.length ≤ 1000000000) ∧ X3 (l7 ++ ([z13, z15, z17, z19] : List Str)) (IntKind.i64.wrap (x8 + (1 : Int)))) (agg_Part_text_J1 r l7)
def agg_Part_text_o (a0 : T_agg_Part) (r : Str) : Prop :=
  ∃ z1 : Str, pack_Int_o a0.Rows z1 ∧ (a0.L.length ≤ maxLen → Lp2 (agg_Part_text_L3 a0 r) ([z1] : List Str) (0 : Int))

set_option maxRecDepth 100000 in
set_option maxHeartbeats 1000000 in
theorem agg_Part_text_ok {a0 : T_agg_Part} {r : Str}  (h : agg_Part_text_o a0 r) : Pure Try.prog 54 [.agg [.it .i64 a0.Rows, slA e_agg_One a0.L]] (.st r) := by
  refine pureK t54 (Nat.le_of_ble_eq_true rfl) (by kernel_rfl) fun B H n hB => ?_
  dsimp only [c54]
  unfold agg_Part_text_o at h
  refine WK_conv (ks' := ⟨[(0, .agg [.it .i64 a0.Rows, slA e_agg_One a0.L])], [], H, n⟩) (by kernel_rfl) ?_
  refine WK_seq ?_
  refine WK_ops ?_
  refine @WD_q _ _ _ _ _ _ _ _ 2 2 [] (by kernel_rfl) rfl trivial ?_
  refine @WD_end _ _ _ _ _ _ _ _ hB [1] [(1, 2)] ⟨[(1, .pt (.l 1 1) 0)], [(1, ⟨58, 2, [.it .i64 a0.Rows, slA e_agg_One a0.L], true⟩)], H, n⟩ (by kernel_rfl) (by kernel_rfl) ?_
  refine sqn ?_
  refine WK_seq ?_
  refine WK_ops ?_
  obtain ⟨z1, z2, h⟩ := h
  refine @WD_q _ _ _ _ _ _ _ _ 2 2 [] (by kernel_rfl) rfl trivial ?_
  refine @WD_c _ _ _ _ _ _ _ _ ⟨some 8, none, .call 78 [(.t 7)]⟩ 78 [.it .i64 a0.Rows] [.it .i64 a0.Rows] [.it .i64 a0.Rows] [] (.st z1) (by kernel_rfl) (by kernel_rfl) (.inl ⟨[(.t 7)], rfl, by kernel_rfl⟩) (by kernel_rfl) (by kernel_rfl) (by kernel_rfl) (pack_Int_ok z2) ?_
  refine @WD_q _ _ _ _ _ _ _ _ 2 5 [] (by kernel_rfl) rfl trivial ?_
  refine @WD_end _ _ _ _ _ _ _ _ hB [1, 3] [(1, 1), (9, 2)] ⟨[(1, .pt (.l 1 1) 0), (3, rwA 9 1 ([z1] : List Str))], [(1, ⟨58, 2, [.it .i64 a0.Rows, slA e_agg_One a0.L], true⟩), (9, rwB 9 eS ([z1] : List Str))], H, n⟩ (by kernel_rfl) (by kernel_rfl) ?_
  refine sqn ?_
  refine WK_seqW (σ := (List Str)) (fun (l3 : (List Str)) => agg_Part_text_J1 r l3) (fun (l3 : (List Str)) ks => (ks.keep [3] [9] = ⟨[(3, rwA 9 1 l3)], [(9, rwB 9 eS l3)], H, n⟩) ∨ (ks.keep [3] [33] = ⟨[(3, rwA 33 1 l3)], [(33, rwB 9 eS l3)], H, n⟩)) (fun (l3 : (List Str)) => ⟨[(3, slA eS l3)], [], H, n⟩) (fun X hX2 => ?_) ?_ ?_
  · refine WK_seq ?_
    refine WK_ops ?_
    refine @WD_q _ _ _ _ _ _ _ _ 2 2 [] (by kernel_rfl) rfl trivial ?_
    refine @WD_len _ _ _ _ _ _ _ _ 11 a0.L.length false (cl e_agg_One a0.L) (by decide) (by kernel_rfl) (fun m6 => ?_)
    have h := h m6
    refine @WD_q _ _ _ _ _ _ _ _ 2 4 [] (by kernel_rfl) rfl trivial ?_
    refine @WD_end _ _ _ _ _ _ _ _ hB [3, 11, 12, 13] [(9, 1)] ⟨[(3, rwA 9 1 ([z1] : List Str)), (11, slA e_agg_One a0.L), (12, .it .i64 (a0.L.length : Int)), (13, .it .i64 (0 : Int))], [(9, rwB 9 eS ([z1] : List Str))], H, n⟩ (by kernel_rfl) (by kernel_rfl) ?_
    refine sqn ?_
    refine WK_block ?_
    refine WK_loop fun YX3 hYX3 => ?_
    obtain ⟨X3, hX3⟩ : ∃ q : (List Str) → Int → Prop, q = (fun (l7 : (List Str)) (x8 : Int) => ∀ ks, ((ks.keep [3, 11, 12, 13] [9] = ⟨[(3, rwA 9 1 l7), (11, slA e_agg_One a0.L), (12, .it .i64 (a0.L.length : Int)), (13, .it .i64 x8)], [(9, rwB 9 eS l7)], H, n⟩) ∨ (ks.keep [3, 11, 12, 13] [33] = ⟨[(3, rwA 33 1 l7), (11, slA e_agg_One a0.L), (12, .it .i64 (a0.L.length : Int)), (13, .it .i64 x8)], [(33, rwB 9 eS l7)], H, n⟩)) → YX3 ks) := ⟨_, rfl⟩
    suffices hs : X3 ([z1] : List Str) (0 : Int) by rw [hX3] at hs; exact hs _ (.inl (by show _ = _; kernel_rfl))
    refine h X3 (fun l7 x8 h => ?_)
    rw [hX3]
    rintro _ (hk | hk)
    · refine hYX3 _ ?_
      unfold agg_Part_text_L3 at h
      refine WK_keep hB hk ?_
      refine WK_seq ?_
      refine WK_ops ?_
      refine @WD_q _ _ _ _ _ _ _ _ 1 1 [] (by kernel_rfl) rfl trivial ?_
      refine @WD_end _ _ _ _ _ _ _ _ hB [3, 11, 12, 13, 14] [(9, 1)] ⟨[(3, rwA 9 1 l7), (11, slA e_agg_One a0.L), (12, .it .i64 (a0.L.length : Int)), (13, .it .i64 x8), (14, .bl (decide (x8 < (a0.L.length : Int))))], [(9, rwB 9 eS l7)], H, n⟩ (by kernel_rfl) (by kernel_rfl) ?_
      refine sqn ?_
      refine WK_seq ?_
      refine WK_cond (b := decide (x8 < (a0.L.length : Int))) (by kernel_rfl) (fun b9 => ?_) (fun b9 => ?_)
      · have h := h.1 b9
        refine WK_skip ?_
        refine sqn ?_
        refine WK_seq ?_
        refine WK_block ?_
        refine WK_seq ?_
        refine WK_ops ?_
        obtain ⟨i11, y10, y12, h⟩ := h
        refine @WD_q _ _ _ _ _ _ _ _ 1 1 [0 ≤ x8 ∧ x8 < a0.L.length] (by kernel_rfl) rfl ⟨⟨i11, lt_of_at i11 y12⟩, trivial⟩ ?_
        refine @WD_e _ _ _ _ _ _ _ _ ⟨some 16, none, .ld true 9 (.t 15)⟩ _ _ (by kernel_rfl) (by kernel_rfl) (fun hk => E_lde e_agg_One (x := (.t 15)) (l := a0.L) (y := y10) (off := x8.toNat * 9) (m := x8.toNat) (of := 0) (v := .agg [.it .i64 y10.N, .it .i64 y10.Sum.Hi, .it .u64 y10.Sum.Lo, .it .i64 y10.Min.Kind, .it .i64 y10.Min.N, .st y10.Min.S, .it .i64 y10.Max.Kind, .it .i64 y10.Max.N, .st y10.Max.S]) hk (by kernel_rfl) (by kernel_rfl) y12 (by kernel_rfl)) rfl ?_
        refine @WD_q _ _ _ _ _ _ _ _ 2 4 [] (by kernel_rfl) rfl trivial ?_
        refine @WD_end _ _ _ _ _ _ _ _ hB [3, 5, 11, 12, 13] [(5, 2), (9, 1)] ⟨[(3, rwA 9 1 l7), (5, .pt (.l 5 1) 0), (11, slA e_agg_One a0.L), (12, .it .i64 (a0.L.length : Int)), (13, .it .i64 x8)], [(5, ⟨115, 9, [.it .i64 y10.N, .it .i64 y10.Sum.Hi, .it .u64 y10.Sum.Lo, .it .i64 y10.Min.Kind, .it .i64 y10.Min.N, .st y10.Min.S, .it .i64 y10.Max.Kind, .it .i64 y10.Max.N, .st y10.Max.S], true⟩), (9, rwB 9 eS l7)], H, n⟩ (by kernel_rfl) (by kernel_rfl) ?_
        refine sqn ?_
        refine WK_drw ?_
        obtain ⟨z13, z14, h⟩ := h
        refine @DD_q _ _ _ _ _ _ 3 3 [] (by kernel_rfl) rfl trivial ?_
        refine @DD_c _ _ _ _ _ _ ⟨some 20, none, .call 78 [(.t 19)]⟩ [0] 78 [.it .i64 y10.N] [.it .i64 y10.N] [.it .i64 y10.N] [] (.st z13) (by kernel_rfl) (by kernel_rfl) (.inl ⟨[(.t 19)], rfl, by kernel_rfl⟩) (by kernel_rfl) (by kernel_rfl) (by kernel_rfl) (pack_Int_ok z14) (by kernel_rfl) ?_
        obtain ⟨z15, z16, h⟩ := h
        refine @DD_q _ _ _ _ _ _ 2 6 [] (by kernel_rfl) rfl trivial ?_
        refine @DD_c _ _ _ _ _ _ ⟨some 23, none, .call 79 [(.t 22)]⟩ [0] 79 [.agg [.it .i64 y10.Sum.Hi, .it .u64 y10.Sum.Lo]] [.agg [.it .i64 y10.Sum.Hi, .it .u64 y10.Sum.Lo]] [.agg [.it .i64 y10.Sum.Hi, .it .u64 y10.Sum.Lo]] [] (.st z15) (by kernel_rfl) (by kernel_rfl) (.inl ⟨[(.t 22)], rfl, by kernel_rfl⟩) (by kernel_rfl) (by kernel_rfl) (by kernel_rfl) (wide_Wide_Key_ok z16) (by kernel_rfl) ?_
        obtain ⟨z17, z18, h⟩ := h
        refine @DD_q _ _ _ _ _ _ 3 10 [] (by kernel_rfl) rfl trivial ?_
        refine @DD_c _ _ _ _ _ _ ⟨some 27, none, .call 32 [(.t 26)]⟩ [0] 32 [.gs (.l 26 2) 1] [slA e_value_Value ([(⟨y10.Min.Kind, y10.Min.N, y10.Min.S⟩ : T_value_Value)] : List T_value_Value)] [slA e_value_Value ([(⟨y10.Min.Kind, y10.Min.N, y10.Min.S⟩ : T_value_Value)] : List T_value_Value)] [(26, 2)] (.st z17) (by kernel_rfl) (by kernel_rfl) (.inl ⟨[(.t 26)], rfl, by kernel_rfl⟩) (by kernel_rfl) (by kernel_rfl) (by kernel_rfl) (row_Key_ok z18) (by kernel_rfl) ?_
        obtain ⟨z19, z20, h⟩ := h
        refine @DD_q _ _ _ _ _ _ 3 14 [] (by kernel_rfl) rfl trivial ?_
        refine @DD_c _ _ _ _ _ _ ⟨some 31, none, .call 32 [(.t 30)]⟩ [0] 32 [.gs (.l 30 2) 1] [slA e_value_Value ([(⟨y10.Max.Kind, y10.Max.N, y10.Max.S⟩ : T_value_Value)] : List T_value_Value)] [slA e_value_Value ([(⟨y10.Max.Kind, y10.Max.N, y10.Max.S⟩ : T_value_Value)] : List T_value_Value)] [(30, 2)] (.st z19) (by kernel_rfl) (by kernel_rfl) (.inl ⟨[(.t 30)], rfl, by kernel_rfl⟩) (by kernel_rfl) (by kernel_rfl) (by kernel_rfl) (row_Key_ok z20) (by kernel_rfl) ?_
        obtain ⟨c21, h⟩ := h
        refine @DD_q _ _ _ _ _ _ 1 16 [] (by kernel_rfl) rfl trivial ?_
        refine @DD_e _ _ _ _ _ _ ⟨some 33, none, .app 9 1 16 (.t 17) (.t 32)⟩ [] _ _ (by kernel_rfl) (by kernel_rfl) (fun hk => E_app eS (s := 9) (c := 1) (m := ([z13, z15, z17, z19] : List Str).length) (n := l7.length) (l := l7) (l2 := ([z13, z15, z17, z19] : List Str)) (b := true) (cs := cl eS ([z13, z15, z17, z19] : List Str)) hk (by kernel_rfl) rfl (by kernel_rfl) (by kernel_rfl) (by kernel_rfl) (by kernel_rfl) rfl rfl c21 (Nat.le_of_ble_eq_true rfl)) rfl (by kernel_rfl) ?_
        refine @DD_q _ _ _ _ _ _ 1 18 [] (by kernel_rfl) rfl trivial ?_
        refine @DD_end _ _ _ _ _ _ _ hB [3, 11, 12, 13] [(33, 2)] ⟨[(3, rwA 33 1 (l7 ++ ([z13, z15, z17, z19] : List Str))), (11, slA e_agg_One a0.L), (12, .it .i64 (a0.L.length : Int)), (13, .it .i64 x8)], [(33, rwB 9 eS (l7 ++ ([z13, z15, z17, z19] : List Str)))], H, n⟩ _ (by kernel_rfl) (by kernel_rfl) ?_
        refine bkn ?_
        refine sqn ?_
        refine WK_ops ?_
        refine @WD_q _ _ _ _ _ _ _ _ 2 2 [] (by kernel_rfl) rfl trivial ?_
        refine @WD_end _ _ _ _ _ _ _ _ hB [3, 11, 12, 13] [(33, 1)] ⟨[(3, rwA 33 1 (l7 ++ ([z13, z15, z17, z19] : List Str))), (11, slA e_agg_One a0.L), (12, .it .i64 (a0.L.length : Int)), (13, .it .i64 (IntKind.i64.wrap (x8 + (1 : Int))))], [(33, rwB 9 eS (l7 ++ ([z13, z15, z17, z19] : List Str)))], H, n⟩ (by kernel_rfl) (by kernel_rfl) ?_
        refine sqn ?_
        rw [hX3] at h
        exact h _ (.inr ((by show _ = _; kernel_rfl)))
      · have h := h.2 b9
        refine WK_exit ?_
        refine sqx ?_
        refine sqx ?_
        refine bkx ?_
        refine sqn (hX2 l7 _ h (.inl (by show _ = _; kernel_rfl)))
    · refine hYX3 _ ?_
      unfold agg_Part_text_L3 at h
      refine WK_keep hB hk ?_
      refine WK_seq ?_
      refine WK_ops ?_
      refine @WD_q _ _ _ _ _ _ _ _ 1 1 [] (by kernel_rfl) rfl trivial ?_
      refine @WD_end _ _ _ _ _ _ _ _ hB [3, 11, 12, 13, 14] [(33, 1)] ⟨[(3, rwA 33 1 l7), (11, slA e_agg_One a0.L), (12, .it .i64 (a0.L.length : Int)), (13, .it .i64 x8), (14, .bl (decide (x8 < (a0.L.length : Int))))], [(33, rwB 9 eS l7)], H, n⟩ (by kernel_rfl) (by kernel_rfl) ?_
      refine sqn ?_
      refine WK_seq ?_
      refine WK_cond (b := decide (x8 < (a0.L.length : Int))) (by kernel_rfl) (fun b22 => ?_) (fun b22 => ?_)
      · have h := h.1 b22
        refine WK_skip ?_
        refine sqn ?_
        refine WK_seq ?_
        refine WK_block ?_
        refine WK_seq ?_
        refine WK_ops ?_
        obtain ⟨i24, y23, y25, h⟩ := h
        refine @WD_q _ _ _ _ _ _ _ _ 1 1 [0 ≤ x8 ∧ x8 < a0.L.length] (by kernel_rfl) rfl ⟨⟨i24, lt_of_at i24 y25⟩, trivial⟩ ?_
        refine @WD_e _ _ _ _ _ _ _ _ ⟨some 16, none, .ld true 9 (.t 15)⟩ _ _ (by kernel_rfl) (by kernel_rfl) (fun hk => E_lde e_agg_One (x := (.t 15)) (l := a0.L) (y := y23) (off := x8.toNat * 9) (m := x8.toNat) (of := 0) (v := .agg [.it .i64 y23.N, .it .i64 y23.Sum.Hi, .it .u64 y23.Sum.Lo, .it .i64 y23.Min.Kind, .it .i64 y23.Min.N, .st y23.Min.S, .it .i64 y23.Max.Kind, .it .i64 y23.Max.N, .st y23.Max.S]) hk (by kernel_rfl) (by kernel_rfl) y25 (by kernel_rfl)) rfl ?_
        refine @WD_q _ _ _ _ _ _ _ _ 2 4 [] (by kernel_rfl) rfl trivial ?_
        refine @WD_end _ _ _ _ _ _ _ _ hB [3, 5, 11, 12, 13] [(5, 2), (33, 1)] ⟨[(3, rwA 33 1 l7), (5, .pt (.l 5 1) 0), (11, slA e_agg_One a0.L), (12, .it .i64 (a0.L.length : Int)), (13, .it .i64 x8)], [(5, ⟨115, 9, [.it .i64 y23.N, .it .i64 y23.Sum.Hi, .it .u64 y23.Sum.Lo, .it .i64 y23.Min.Kind, .it .i64 y23.Min.N, .st y23.Min.S, .it .i64 y23.Max.Kind, .it .i64 y23.Max.N, .st y23.Max.S], true⟩), (33, rwB 9 eS l7)], H, n⟩ (by kernel_rfl) (by kernel_rfl) ?_
        refine sqn ?_
        refine WK_drw ?_
        obtain ⟨z26, z27, h⟩ := h
        refine @DD_q _ _ _ _ _ _ 3 3 [] (by kernel_rfl) rfl trivial ?_
        refine @DD_c _ _ _ _ _ _ ⟨some 20, none, .call 78 [(.t 19)]⟩ [0] 78 [.it .i64 y23.N] [.it .i64 y23.N] [.it .i64 y23.N] [] (.st z26) (by kernel_rfl) (by kernel_rfl) (.inl ⟨[(.t 19)], rfl, by kernel_rfl⟩) (by kernel_rfl) (by kernel_rfl) (by kernel_rfl) (pack_Int_ok z27) (by kernel_rfl) ?_
        obtain ⟨z28, z29, h⟩ := h
        refine @DD_q _ _ _ _ _ _ 2 6 [] (by kernel_rfl) rfl trivial ?_
        refine @DD_c _ _ _ _ _ _ ⟨some 23, none, .call 79 [(.t 22)]⟩ [0] 79 [.agg [.it .i64 y23.Sum.Hi, .it .u64 y23.Sum.Lo]] [.agg [.it .i64 y23.Sum.Hi, .it .u64 y23.Sum.Lo]] [.agg [.it .i64 y23.Sum.Hi, .it .u64 y23.Sum.Lo]] [] (.st z28) (by kernel_rfl) (by kernel_rfl) (.inl ⟨[(.t 22)], rfl, by kernel_rfl⟩) (by kernel_rfl) (by kernel_rfl) (by kernel_rfl) (wide_Wide_Key_ok z29) (by kernel_rfl) ?_
        obtain ⟨z30, z31, h⟩ := h
        refine @DD_q _ _ _ _ _ _ 3 10 [] (by kernel_rfl) rfl trivial ?_
        refine @DD_c _ _ _ _ _ _ ⟨some 27, none, .call 32 [(.t 26)]⟩ [0] 32 [.gs (.l 26 2) 1] [slA e_value_Value ([(⟨y23.Min.Kind, y23.Min.N, y23.Min.S⟩ : T_value_Value)] : List T_value_Value)] [slA e_value_Value ([(⟨y23.Min.Kind, y23.Min.N, y23.Min.S⟩ : T_value_Value)] : List T_value_Value)] [(26, 2)] (.st z30) (by kernel_rfl) (by kernel_rfl) (.inl ⟨[(.t 26)], rfl, by kernel_rfl⟩) (by kernel_rfl) (by kernel_rfl) (by kernel_rfl) (row_Key_ok z31) (by kernel_rfl) ?_
        obtain ⟨z32, z33, h⟩ := h
        refine @DD_q _ _ _ _ _ _ 3 14 [] (by kernel_rfl) rfl trivial ?_
        refine @DD_c _ _ _ _ _ _ ⟨some 31, none, .call 32 [(.t 30)]⟩ [0] 32 [.gs (.l 30 2) 1] [slA e_value_Value ([(⟨y23.Max.Kind, y23.Max.N, y23.Max.S⟩ : T_value_Value)] : List T_value_Value)] [slA e_value_Value ([(⟨y23.Max.Kind, y23.Max.N, y23.Max.S⟩ : T_value_Value)] : List T_value_Value)] [(30, 2)] (.st z32) (by kernel_rfl) (by kernel_rfl) (.inl ⟨[(.t 30)], rfl, by kernel_rfl⟩) (by kernel_rfl) (by kernel_rfl) (by kernel_rfl) (row_Key_ok z33) (by kernel_rfl) ?_
        obtain ⟨c34, h⟩ := h
        refine @DD_q _ _ _ _ _ _ 1 16 [] (by kernel_rfl) rfl trivial ?_
        refine @DD_e _ _ _ _ _ _ ⟨some 33, none, .app 9 1 16 (.t 17) (.t 32)⟩ [] _ _ (by kernel_rfl) (by kernel_rfl) (fun hk => E_app eS (s := 33) (c := 1) (m := ([z26, z28, z30, z32] : List Str).length) (n := l7.length) (l := l7) (l2 := ([z26, z28, z30, z32] : List Str)) (b := true) (cs := cl eS ([z26, z28, z30, z32] : List Str)) hk (by kernel_rfl) rfl (by kernel_rfl) (by kernel_rfl) (by kernel_rfl) (by kernel_rfl) rfl rfl c34 (Nat.le_of_ble_eq_true rfl)) rfl (by kernel_rfl) ?_
        refine @DD_q _ _ _ _ _ _ 1 18 [] (by kernel_rfl) rfl trivial ?_
        refine @DD_end _ _ _ _ _ _ _ hB [3, 11, 12, 13] [(33, 2)] ⟨[(3, rwA 33 1 (l7 ++ ([z26, z28, z30, z32] : List Str))), (11, slA e_agg_One a0.L), (12, .it .i64 (a0.L.length : Int)), (13, .it .i64 x8)], [(33, rwB 9 eS (l7 ++ ([z26, z28, z30, z32] : List Str)))], H, n⟩ _ (by kernel_rfl) (by kernel_rfl) ?_
        refine bkn ?_
        refine sqn ?_
        refine WK_ops ?_
        refine @WD_q _ _ _ _ _ _ _ _ 2 2 [] (by kernel_rfl) rfl trivial ?_
        refine @WD_end _ _ _ _ _ _ _ _ hB [3, 11, 12, 13] [(33, 1)] ⟨[(3, rwA 33 1 (l7 ++ ([z26, z28, z30, z32] : List Str))), (11, slA e_agg_One a0.L), (12, .it .i64 (a0.L.length : Int)), (13, .it .i64 (IntKind.i64.wrap (x8 + (1 : Int))))], [(33, rwB 9 eS (l7 ++ ([z26, z28, z30, z32] : List Str)))], H, n⟩ (by kernel_rfl) (by kernel_rfl) ?_
        refine sqn ?_
        rw [hX3] at h
        exact h _ (.inr ((by show _ = _; kernel_rfl)))
      · have h := h.2 b22
        refine WK_exit ?_
        refine sqx ?_
        refine sqx ?_
        refine bkx ?_
        refine sqn (hX2 l7 _ h (.inr ((by show _ = _; kernel_rfl))))
  · rintro c Q l3 _ (hk | hk) hm
    · refine WK_keep hB hk ?_
      refine WK_keep hB (ts := [3]) (ds := [9]) (ks' := ⟨[(3, rwA 9 1 l3)], [(9, rwB 9 eS l3)], H, n⟩) (by kernel_rfl) ?_
      refine WK_pub hB (s := 9) (ts := [3]) (ds := []) (C := [(cl eS l3).length = l3.length * 1]) (ks' := ⟨[(3, slA eS l3)], [], H, n⟩) (by kernel_rfl) ⟨cl_len eS l3, trivial⟩ ?_
      exact hm
    · refine WK_keep hB hk ?_
      refine WK_keep hB (ts := [3]) (ds := [33]) (ks' := ⟨[(3, rwA 33 1 l3)], [(33, rwB 9 eS l3)], H, n⟩) (by kernel_rfl) ?_
      refine WK_pub hB (s := 33) (ts := [3]) (ds := []) (C := [(cl eS l3).length = l3.length * 1]) (ks' := ⟨[(3, slA eS l3)], [], H, n⟩) (by kernel_rfl) ⟨cl_len eS l3, trivial⟩ ?_
      exact hm
  · rintro l3 h
    replace h : agg_Part_text_J1 r l3 := h
    unfold agg_Part_text_J1 at h
    refine WK_seq ?_
    refine WK_ops ?_
    obtain ⟨z4, z5, h⟩ := h
    refine @WD_q _ _ _ _ _ _ _ _ 1 1 [] (by kernel_rfl) rfl trivial ?_
    refine @WD_c _ _ _ _ _ _ _ _ ⟨some 36, none, .call 47 [(.t 35)]⟩ 47 [slA eS l3] [slA eS l3] [slA eS l3] [] (.st z4) (by kernel_rfl) (by kernel_rfl) (.inl ⟨[(.t 35)], rfl, by kernel_rfl⟩) (by kernel_rfl) (by kernel_rfl) (by kernel_rfl) (pack_Pack_ok z5) ?_
    refine @WD_q _ _ _ _ _ _ _ _ 1 3 [] (by kernel_rfl) rfl trivial ?_
    refine @WD_end _ _ _ _ _ _ _ _ hB [2] [] ⟨[(2, .st z4)], [], H, n⟩ (by kernel_rfl) (by kernel_rfl) ?_
    refine sqn ?_
    refine WK_ret ?_
    have hr : z4 = r := h
    subst hr
    refine k_ret (u := .st z4) (by kernel_rfl) (by kernel_rfl) (by kernel_rfl) rfl rfl

def agg_Pack_J1 (r : Str) (l1 : (List Str)) : Prop :=
  ∃ z2 : Str, pack_Pack_o l1 z2 ∧ z2 = r
def agg_Pack_L3 (a0 : (List T_agg_Group)) (r : Str) (X3 : (List Str) → Int → Prop) (l5 : (List Str)) (x6 : Int) : Prop :=
  cnd (decide (x6 < (a0.length : Int))) (0 ≤ x6 ∧ ∃ y8 : T_agg_Group, a0[x6.toNat]? = some y8 ∧ ∃ z11 : Str, row_Key_o y8.Row z11 ∧ ∃ z13 : Str, agg_Part_text_o (⟨y8.Part.Rows, y8.Part.L⟩ : T_agg_Part) z13 ∧ (l5.length ≤ 1000000000) ∧ X3 (l5 ++ ([z11, z13] : List Str)) (IntKind.i64.wrap (x6 + (1 : Int)))) (agg_Pack_J1 r l5)
def agg_Pack_o (a0 : (List T_agg_Group)) (r : Str) : Prop :=
  (a0.length ≤ maxLen → Lp2 (agg_Pack_L3 a0 r) ([] : List Str) (0 : Int))

set_option maxRecDepth 100000 in
set_option maxHeartbeats 1000000 in
theorem agg_Pack_ok {a0 : (List T_agg_Group)} {r : Str}  (h : agg_Pack_o a0 r) : Pure Try.prog 29 [slA e_agg_Group a0] (.st r) := by
  refine pureK t29 (Nat.le_of_ble_eq_true rfl) (by kernel_rfl) fun B H n hB => ?_
  dsimp only [c29]
  unfold agg_Pack_o at h
  refine WK_conv (ks' := ⟨[(0, slA e_agg_Group a0)], [], H, n⟩) (by kernel_rfl) ?_
  refine WK_seq ?_
  refine WK_ops ?_
  refine @WD_q _ _ _ _ _ _ _ _ 1 1 [] (by kernel_rfl) rfl trivial ?_
  refine @WD_end _ _ _ _ _ _ _ _ hB [0] [] ⟨[(0, slA e_agg_Group a0)], [], H, n⟩ (by kernel_rfl) (by kernel_rfl) ?_
  refine sqn ?_
  refine WK_seq ?_
  refine WK_ops ?_
  refine @WD_q _ _ _ _ _ _ _ _ 1 1 [] (by kernel_rfl) rfl trivial ?_
  refine @WD_end _ _ _ _ _ _ _ _ hB [0, 3] [] ⟨[(0, slA e_agg_Group a0), (3, .sl true 0 [])], [], H, n⟩ (by kernel_rfl) (by kernel_rfl) ?_
  refine sqn ?_
  refine WK_seqW (σ := (List Str)) (fun (l1 : (List Str)) => agg_Pack_J1 r l1) (fun (l1 : (List Str)) ks => (ks.keep [3] [20] = ⟨[(3, rwA 20 1 l1)], [(20, rwB 9 eS l1)], H, n⟩) ∨ (l1 = [] ∧ ks.keep [3] [] = ⟨[(3, .sl true 0 [])], [], H, n⟩)) (fun (l1 : (List Str)) => ⟨[(3, slA eS l1)], [], H, n⟩) (fun X hX2 => ?_) ?_ ?_
  · refine WK_seq ?_
    refine WK_ops ?_
    refine @WD_q _ _ _ _ _ _ _ _ 1 1 [] (by kernel_rfl) rfl trivial ?_
    refine @WD_len _ _ _ _ _ _ _ _ 6 a0.length false (cl e_agg_Group a0) (by decide) (by kernel_rfl) (fun m4 => ?_)
    have h := h m4
    refine @WD_q _ _ _ _ _ _ _ _ 2 3 [] (by kernel_rfl) rfl trivial ?_
    refine @WD_end _ _ _ _ _ _ _ _ hB [3, 6, 7, 8] [] ⟨[(3, .sl true 0 []), (6, slA e_agg_Group a0), (7, .it .i64 (a0.length : Int)), (8, .it .i64 (0 : Int))], [], H, n⟩ (by kernel_rfl) (by kernel_rfl) ?_
    refine sqn ?_
    refine WK_block ?_
    refine WK_loop fun YX3 hYX3 => ?_
    obtain ⟨X3, hX3⟩ : ∃ q : (List Str) → Int → Prop, q = (fun (l5 : (List Str)) (x6 : Int) => ∀ ks, ((ks.keep [3, 6, 7, 8] [20] = ⟨[(3, rwA 20 1 l5), (6, slA e_agg_Group a0), (7, .it .i64 (a0.length : Int)), (8, .it .i64 x6)], [(20, rwB 9 eS l5)], H, n⟩) ∨ (l5 = [] ∧ ks.keep [3, 6, 7, 8] [] = ⟨[(3, .sl true 0 []), (6, slA e_agg_Group a0), (7, .it .i64 (a0.length : Int)), (8, .it .i64 x6)], [], H, n⟩)) → YX3 ks) := ⟨_, rfl⟩
    suffices hs : X3 ([] : List Str) (0 : Int) by rw [hX3] at hs; exact hs _ (.inr (⟨rfl, (by show _ = _; kernel_rfl)⟩))
    refine h X3 (fun l5 x6 h => ?_)
    rw [hX3]
    rintro _ (hk | ⟨hn_l5, hk⟩)
    · refine hYX3 _ ?_
      unfold agg_Pack_L3 at h
      refine WK_keep hB hk ?_
      refine WK_seq ?_
      refine WK_ops ?_
      refine @WD_q _ _ _ _ _ _ _ _ 1 1 [] (by kernel_rfl) rfl trivial ?_
      refine @WD_end _ _ _ _ _ _ _ _ hB [3, 6, 7, 8, 9] [(20, 1)] ⟨[(3, rwA 20 1 l5), (6, slA e_agg_Group a0), (7, .it .i64 (a0.length : Int)), (8, .it .i64 x6), (9, .bl (decide (x6 < (a0.length : Int))))], [(20, rwB 9 eS l5)], H, n⟩ (by kernel_rfl) (by kernel_rfl) ?_
      refine sqn ?_
      refine WK_seq ?_
      refine WK_cond (b := decide (x6 < (a0.length : Int))) (by kernel_rfl) (fun b7 => ?_) (fun b7 => ?_)
      · have h := h.1 b7
        refine WK_skip ?_
        refine sqn ?_
        refine WK_seq ?_
        refine WK_block ?_
        refine WK_seq ?_
        refine WK_ops ?_
        obtain ⟨i9, y8, y10, h⟩ := h
        refine @WD_q _ _ _ _ _ _ _ _ 1 1 [0 ≤ x6 ∧ x6 < a0.length] (by kernel_rfl) rfl ⟨⟨i9, lt_of_at i9 y10⟩, trivial⟩ ?_
        refine @WD_e _ _ _ _ _ _ _ _ ⟨some 11, none, .ld true 3 (.t 10)⟩ _ _ (by kernel_rfl) (by kernel_rfl) (fun hk => E_lde e_agg_Group (x := (.t 10)) (l := a0) (y := y8) (off := x6.toNat * 3) (m := x6.toNat) (of := 0) (v := .agg [slA e_value_Value y8.Row, .it .i64 y8.Part.Rows, slA e_agg_One y8.Part.L]) hk (by kernel_rfl) (by kernel_rfl) y10 (by kernel_rfl)) rfl ?_
        refine @WD_q _ _ _ _ _ _ _ _ 2 4 [] (by kernel_rfl) rfl trivial ?_
        refine @WD_end _ _ _ _ _ _ _ _ hB [3, 5, 6, 7, 8] [(5, 2), (20, 1)] ⟨[(3, rwA 20 1 l5), (5, .pt (.l 5 1) 0), (6, slA e_agg_Group a0), (7, .it .i64 (a0.length : Int)), (8, .it .i64 x6)], [(5, ⟨61, 3, [slA e_value_Value y8.Row, .it .i64 y8.Part.Rows, slA e_agg_One y8.Part.L], true⟩), (20, rwB 9 eS l5)], H, n⟩ (by kernel_rfl) (by kernel_rfl) ?_
        refine sqn ?_
        refine WK_drw ?_
        obtain ⟨z11, z12, h⟩ := h
        refine @DD_q _ _ _ _ _ _ 3 3 [] (by kernel_rfl) rfl trivial ?_
        refine @DD_c _ _ _ _ _ _ ⟨some 15, none, .call 32 [(.t 14)]⟩ [0] 32 [slA e_value_Value y8.Row] [slA e_value_Value y8.Row] [slA e_value_Value y8.Row] [] (.st z11) (by kernel_rfl) (by kernel_rfl) (.inl ⟨[(.t 14)], rfl, by kernel_rfl⟩) (by kernel_rfl) (by kernel_rfl) (by kernel_rfl) (row_Key_ok z12) (by kernel_rfl) ?_
        obtain ⟨z13, z14, h⟩ := h
        refine @DD_q _ _ _ _ _ _ 2 6 [] (by kernel_rfl) rfl trivial ?_
        refine @DD_c _ _ _ _ _ _ ⟨some 18, none, .call 54 [(.t 17)]⟩ [0] 54 [.agg [.it .i64 y8.Part.Rows, slA e_agg_One y8.Part.L]] [.agg [.it .i64 y8.Part.Rows, slA e_agg_One y8.Part.L]] [.agg [.it .i64 y8.Part.Rows, slA e_agg_One y8.Part.L]] [] (.st z13) (by kernel_rfl) (by kernel_rfl) (.inl ⟨[(.t 17)], rfl, by kernel_rfl⟩) (by kernel_rfl) (by kernel_rfl) (by kernel_rfl) (agg_Part_text_ok z14) (by kernel_rfl) ?_
        obtain ⟨c15, h⟩ := h
        refine @DD_q _ _ _ _ _ _ 1 8 [] (by kernel_rfl) rfl trivial ?_
        refine @DD_e _ _ _ _ _ _ ⟨some 20, none, .app 9 1 16 (.t 12) (.t 19)⟩ [] _ _ (by kernel_rfl) (by kernel_rfl) (fun hk => E_app eS (s := 20) (c := 1) (m := ([z11, z13] : List Str).length) (n := l5.length) (l := l5) (l2 := ([z11, z13] : List Str)) (b := true) (cs := cl eS ([z11, z13] : List Str)) hk (by kernel_rfl) rfl (by kernel_rfl) (by kernel_rfl) (by kernel_rfl) (by kernel_rfl) rfl rfl c15 (Nat.le_of_ble_eq_true rfl)) rfl (by kernel_rfl) ?_
        refine @DD_q _ _ _ _ _ _ 1 10 [] (by kernel_rfl) rfl trivial ?_
        refine @DD_end _ _ _ _ _ _ _ hB [3, 6, 7, 8] [(20, 2)] ⟨[(3, rwA 20 1 (l5 ++ ([z11, z13] : List Str))), (6, slA e_agg_Group a0), (7, .it .i64 (a0.length : Int)), (8, .it .i64 x6)], [(20, rwB 9 eS (l5 ++ ([z11, z13] : List Str)))], H, n⟩ _ (by kernel_rfl) (by kernel_rfl) ?_
        refine bkn ?_
        refine sqn ?_
        refine WK_ops ?_
        refine @WD_q _ _ _ _ _ _ _ _ 2 2 [] (by kernel_rfl) rfl trivial ?_
        refine @WD_end _ _ _ _ _ _ _ _ hB [3, 6, 7, 8] [(20, 1)] ⟨[(3, rwA 20 1 (l5 ++ ([z11, z13] : List Str))), (6, slA e_agg_Group a0), (7, .it .i64 (a0.length : Int)), (8, .it .i64 (IntKind.i64.wrap (x6 + (1 : Int))))], [(20, rwB 9 eS (l5 ++ ([z11, z13] : List Str)))], H, n⟩ (by kernel_rfl) (by kernel_rfl) ?_
        refine sqn ?_
        rw [hX3] at h
        exact h _ (.inl (by show _ = _; kernel_rfl))
      · have h := h.2 b7
        refine WK_exit ?_
        refine sqx ?_
        refine sqx ?_
        refine bkx ?_
        refine sqn (hX2 l5 _ h (.inl (by show _ = _; kernel_rfl)))
    · subst hn_l5
      refine hYX3 _ ?_
      unfold agg_Pack_L3 at h
      refine WK_keep hB hk ?_
      refine WK_seq ?_
      refine WK_ops ?_
      refine @WD_q _ _ _ _ _ _ _ _ 1 1 [] (by kernel_rfl) rfl trivial ?_
      refine @WD_end _ _ _ _ _ _ _ _ hB [3, 6, 7, 8, 9] [] ⟨[(3, .sl true 0 []), (6, slA e_agg_Group a0), (7, .it .i64 (a0.length : Int)), (8, .it .i64 x6), (9, .bl (decide (x6 < (a0.length : Int))))], [], H, n⟩ (by kernel_rfl) (by kernel_rfl) ?_
      refine sqn ?_
      refine WK_seq ?_
      refine WK_cond (b := decide (x6 < (a0.length : Int))) (by kernel_rfl) (fun b16 => ?_) (fun b16 => ?_)
      · have h := h.1 b16
        refine WK_skip ?_
        refine sqn ?_
        refine WK_seq ?_
        refine WK_block ?_
        refine WK_seq ?_
        refine WK_ops ?_
        obtain ⟨i18, y17, y19, h⟩ := h
        refine @WD_q _ _ _ _ _ _ _ _ 1 1 [0 ≤ x6 ∧ x6 < a0.length] (by kernel_rfl) rfl ⟨⟨i18, lt_of_at i18 y19⟩, trivial⟩ ?_
        refine @WD_e _ _ _ _ _ _ _ _ ⟨some 11, none, .ld true 3 (.t 10)⟩ _ _ (by kernel_rfl) (by kernel_rfl) (fun hk => E_lde e_agg_Group (x := (.t 10)) (l := a0) (y := y17) (off := x6.toNat * 3) (m := x6.toNat) (of := 0) (v := .agg [slA e_value_Value y17.Row, .it .i64 y17.Part.Rows, slA e_agg_One y17.Part.L]) hk (by kernel_rfl) (by kernel_rfl) y19 (by kernel_rfl)) rfl ?_
        refine @WD_q _ _ _ _ _ _ _ _ 2 4 [] (by kernel_rfl) rfl trivial ?_
        refine @WD_end _ _ _ _ _ _ _ _ hB [3, 5, 6, 7, 8] [(5, 2)] ⟨[(3, .sl true 0 []), (5, .pt (.l 5 1) 0), (6, slA e_agg_Group a0), (7, .it .i64 (a0.length : Int)), (8, .it .i64 x6)], [(5, ⟨61, 3, [slA e_value_Value y17.Row, .it .i64 y17.Part.Rows, slA e_agg_One y17.Part.L], true⟩)], H, n⟩ (by kernel_rfl) (by kernel_rfl) ?_
        refine sqn ?_
        refine WK_drw ?_
        obtain ⟨z20, z21, h⟩ := h
        refine @DD_q _ _ _ _ _ _ 3 3 [] (by kernel_rfl) rfl trivial ?_
        refine @DD_c _ _ _ _ _ _ ⟨some 15, none, .call 32 [(.t 14)]⟩ [0] 32 [slA e_value_Value y17.Row] [slA e_value_Value y17.Row] [slA e_value_Value y17.Row] [] (.st z20) (by kernel_rfl) (by kernel_rfl) (.inl ⟨[(.t 14)], rfl, by kernel_rfl⟩) (by kernel_rfl) (by kernel_rfl) (by kernel_rfl) (row_Key_ok z21) (by kernel_rfl) ?_
        obtain ⟨z22, z23, h⟩ := h
        refine @DD_q _ _ _ _ _ _ 2 6 [] (by kernel_rfl) rfl trivial ?_
        refine @DD_c _ _ _ _ _ _ ⟨some 18, none, .call 54 [(.t 17)]⟩ [0] 54 [.agg [.it .i64 y17.Part.Rows, slA e_agg_One y17.Part.L]] [.agg [.it .i64 y17.Part.Rows, slA e_agg_One y17.Part.L]] [.agg [.it .i64 y17.Part.Rows, slA e_agg_One y17.Part.L]] [] (.st z22) (by kernel_rfl) (by kernel_rfl) (.inl ⟨[(.t 17)], rfl, by kernel_rfl⟩) (by kernel_rfl) (by kernel_rfl) (by kernel_rfl) (agg_Part_text_ok z23) (by kernel_rfl) ?_
        obtain ⟨c24, h⟩ := h
        refine @DD_q _ _ _ _ _ _ 1 8 [] (by kernel_rfl) rfl trivial ?_
        refine @DD_e _ _ _ _ _ _ ⟨some 20, none, .app 9 1 16 (.t 12) (.t 19)⟩ [] _ _ (by kernel_rfl) (by kernel_rfl) (fun hk => E_app0 eS (n := 0) (xs := []) (m := ([z20, z22] : List Str).length) (l2 := ([z20, z22] : List Str)) (cs := cl eS ([z20, z22] : List Str)) hk (by kernel_rfl) (by kernel_rfl) (by kernel_rfl) (by kernel_rfl) rfl rfl (List.cons_ne_nil _ _) (Nat.le_of_ble_eq_true rfl)) rfl (by kernel_rfl) ?_
        refine @DD_q _ _ _ _ _ _ 1 10 [] (by kernel_rfl) rfl trivial ?_
        refine @DD_end _ _ _ _ _ _ _ hB [3, 6, 7, 8] [(20, 2)] ⟨[(3, rwA 20 1 (([] : List Str) ++ ([z20, z22] : List Str))), (6, slA e_agg_Group a0), (7, .it .i64 (a0.length : Int)), (8, .it .i64 x6)], [(20, rwB 9 eS (([] : List Str) ++ ([z20, z22] : List Str)))], H, n⟩ _ (by kernel_rfl) (by kernel_rfl) ?_
        refine bkn ?_
        refine sqn ?_
        refine WK_ops ?_
        refine @WD_q _ _ _ _ _ _ _ _ 2 2 [] (by kernel_rfl) rfl trivial ?_
        refine @WD_end _ _ _ _ _ _ _ _ hB [3, 6, 7, 8] [(20, 1)] ⟨[(3, rwA 20 1 (([] : List Str) ++ ([z20, z22] : List Str))), (6, slA e_agg_Group a0), (7, .it .i64 (a0.length : Int)), (8, .it .i64 (IntKind.i64.wrap (x6 + (1 : Int))))], [(20, rwB 9 eS (([] : List Str) ++ ([z20, z22] : List Str)))], H, n⟩ (by kernel_rfl) (by kernel_rfl) ?_
        refine sqn ?_
        rw [hX3] at h
        exact h _ (.inl (by show _ = _; kernel_rfl))
      · have h := h.2 b16
        refine WK_exit ?_
        refine sqx ?_
        refine sqx ?_
        refine bkx ?_
        refine sqn (hX2 ([] : List Str) _ h (.inr (⟨rfl, (by show _ = _; kernel_rfl)⟩)))
  · rintro c Q l1 _ (hk | ⟨hn_l1, hk⟩) hm
    · refine WK_keep hB hk ?_
      refine WK_keep hB (ts := [3]) (ds := [20]) (ks' := ⟨[(3, rwA 20 1 l1)], [(20, rwB 9 eS l1)], H, n⟩) (by kernel_rfl) ?_
      refine WK_pub hB (s := 20) (ts := [3]) (ds := []) (C := [(cl eS l1).length = l1.length * 1]) (ks' := ⟨[(3, slA eS l1)], [], H, n⟩) (by kernel_rfl) ⟨cl_len eS l1, trivial⟩ ?_
      exact hm
    · subst hn_l1
      refine WK_keep hB hk ?_
      refine WK_weak hB 3 [3] [] (ks' := ⟨[(3, slA eS ([] : List Str))], [], H, n⟩) (by kernel_rfl) ?_
      exact hm
  · rintro l1 h
    replace h : agg_Pack_J1 r l1 := h
    unfold agg_Pack_J1 at h
    refine WK_seq ?_
    refine WK_ops ?_
    obtain ⟨z2, z3, h⟩ := h
    refine @WD_q _ _ _ _ _ _ _ _ 1 1 [] (by kernel_rfl) rfl trivial ?_
    refine @WD_c _ _ _ _ _ _ _ _ ⟨some 23, none, .call 47 [(.t 22)]⟩ 47 [slA eS l1] [slA eS l1] [slA eS l1] [] (.st z2) (by kernel_rfl) (by kernel_rfl) (.inl ⟨[(.t 22)], rfl, by kernel_rfl⟩) (by kernel_rfl) (by kernel_rfl) (by kernel_rfl) (pack_Pack_ok z3) ?_
    refine @WD_q _ _ _ _ _ _ _ _ 1 3 [] (by kernel_rfl) rfl trivial ?_
    refine @WD_end _ _ _ _ _ _ _ _ hB [2] [] ⟨[(2, .st z2)], [], H, n⟩ (by kernel_rfl) (by kernel_rfl) ?_
    refine sqn ?_
    refine WK_ret ?_
    have hr : z2 = r := h
    subst hr
    refine k_ret (u := .st z2) (by kernel_rfl) (by kernel_rfl) (by kernel_rfl) rfl rfl

def law23_AggTurns_1_o (a0 : T_agg_Part) (r : Str) : Prop :=
  ∃ z1 : Str, agg_Pack_o ([(⟨([] : List T_value_Value), a0⟩ : T_agg_Group)] : List T_agg_Group) z1 ∧ z1 = r

set_option maxRecDepth 100000 in
set_option maxHeartbeats 1000000 in
theorem law23_AggTurns_1_ok {a0 : T_agg_Part} {r : Str}  (h : law23_AggTurns_1_o a0 r) : Pure Try.prog 28 [.agg [.it .i64 a0.Rows, slA e_agg_One a0.L]] (.st r) := by
  refine pureK t28 (Nat.le_of_ble_eq_true rfl) (by kernel_rfl) fun B H n hB => ?_
  dsimp only [c28]
  unfold law23_AggTurns_1_o at h
  refine WK_conv (ks' := ⟨[(0, .agg [.it .i64 a0.Rows, slA e_agg_One a0.L])], [], H, n⟩) (by kernel_rfl) ?_
  refine WK_seq ?_
  refine WK_ops ?_
  refine @WD_q _ _ _ _ _ _ _ _ 2 2 [] (by kernel_rfl) rfl trivial ?_
  refine @WD_end _ _ _ _ _ _ _ _ hB [1] [(1, 2)] ⟨[(1, .pt (.l 1 1) 0)], [(1, ⟨58, 2, [.it .i64 a0.Rows, slA e_agg_One a0.L], true⟩)], H, n⟩ (by kernel_rfl) (by kernel_rfl) ?_
  refine sqn ?_
  refine WK_seq ?_
  refine WK_ops ?_
  obtain ⟨z1, z2, h⟩ := h
  refine @WD_q _ _ _ _ _ _ _ _ 3 3 [] (by kernel_rfl) rfl trivial ?_
  refine @WD_c _ _ _ _ _ _ _ _ ⟨some 6, none, .call 29 [(.t 5)]⟩ 29 [.gs (.l 5 2) 1] [slA e_agg_Group ([(⟨([] : List T_value_Value), a0⟩ : T_agg_Group)] : List T_agg_Group)] [slA e_agg_Group ([(⟨([] : List T_value_Value), a0⟩ : T_agg_Group)] : List T_agg_Group)] [(5, 2)] (.st z1) (by kernel_rfl) (by kernel_rfl) (.inl ⟨[(.t 5)], rfl, by kernel_rfl⟩) (by kernel_rfl) (by kernel_rfl) (by kernel_rfl) (agg_Pack_ok z2) ?_
  refine @WD_q _ _ _ _ _ _ _ _ 1 5 [] (by kernel_rfl) rfl trivial ?_
  refine @WD_end _ _ _ _ _ _ _ _ hB [2] [] ⟨[(2, .st z1)], [], H, n⟩ (by kernel_rfl) (by kernel_rfl) ?_
  refine sqn ?_
  refine WK_ret ?_
  have hr : z1 = r := h
  subst hr
  refine k_ret (u := .st z1) (by kernel_rfl) (by kernel_rfl) (by kernel_rfl) rfl rfl

def law23_AggTurns_J1 (a0 : (List T_law23_Row)) (r : Bool) (x8 : Int) (l9 : (List T_agg_One)) (x10 : Int) (l11 : (List T_agg_One)) : Prop :=
  ∃ z12 : T_agg_Part, agg_None_o (2 : Int) z12 ∧ ∃ z14 : T_agg_Part, agg_Plus_o (⟨x8, l9⟩ : T_agg_Part) z12 z14 ∧ ∃ z16 : Str, law23_AggTurns_1_o (⟨x8, l9⟩ : T_agg_Part) z16 ∧ ∃ z18 : Str, law23_AggTurns_1_o (⟨x10, l11⟩ : T_agg_Part) z18 ∧ cnd (z16 == z18) (∃ z21 : Str, law23_AggTurns_1_o z14 z21 ∧ ∃ z23 : Str, law23_AggTurns_1_o (⟨x8, l9⟩ : T_agg_Part) z23 ∧ cnd (z21 == z23) ((x8 == (if (30 : Int) < (a0.length : Int) then (30 : Int) else (a0.length : Int))) = r) (false = r)) (false = r)
def law23_AggTurns_J4 (x26 : Int) (a0 : (List T_law23_Row)) (x27 : Int) (l28 : (List T_agg_One)) (x29 : Int) (l30 : (List T_agg_One)) (X3 : Int → Int → (List T_agg_One) → Int → (List T_agg_One) → Prop) (r : Bool) (x31 : Bool) : Prop :=
  cnd x31 (0 ≤ x26 ∧ ∃ y33 : T_law23_Row, a0[x26.toNat]? = some y33 ∧ ∃ z36 : T_agg_Group × T_ref23_Row, law23_told_o (⟨y33.Group, (⟨y33.A.Kind, y33.A.N, y33.A.S⟩ : T_law23_Value), (⟨y33.B.Kind, y33.B.N, y33.B.S⟩ : T_law23_Value)⟩ : T_law23_Row) z36 ∧ (a0.length ≤ maxLen → 0 ≤ (IntKind.i64.wrap ((IntKind.i64.wrap ((if (30 : Int) < (a0.length : Int) then (30 : Int) else (a0.length : Int)) - (1 : Int))) - x26)) ∧ ∃ y39 : T_law23_Row, a0[(IntKind.i64.wrap ((IntKind.i64.wrap ((if (30 : Int) < (a0.length : Int) then (30 : Int) else (a0.length : Int)) - (1 : Int))) - x26)).toNat]? = some y39 ∧ ∃ z42 : T_agg_Group × T_ref23_Row, law23_told_o (⟨y39.Group, (⟨y39.A.Kind, y39.A.N, y39.A.S⟩ : T_law23_Value), (⟨y39.B.Kind, y39.B.N, y39.B.S⟩ : T_law23_Value)⟩ : T_law23_Row) z42 ∧ ∃ z44 : T_agg_Part, agg_Plus_o (⟨x27, l28⟩ : T_agg_Part) (⟨z36.1.Part.Rows, z36.1.Part.L⟩ : T_agg_Part) z44 ∧ ∃ z46 : T_agg_Part, agg_Plus_o (⟨z42.1.Part.Rows, z42.1.Part.L⟩ : T_agg_Part) (⟨x29, l30⟩ : T_agg_Part) z46 ∧ X3 (IntKind.i64.wrap (x26 + (1 : Int))) z44.Rows z44.L z46.Rows z46.L)) (law23_AggTurns_J1 a0 r x27 l28 x29 l30)
def law23_AggTurns_L3 (a0 : (List T_law23_Row)) (r : Bool) (X3 : Int → Int → (List T_agg_One) → Int → (List T_agg_One) → Prop) (x26 : Int) (x27 : Int) (l28 : (List T_agg_One)) (x29 : Int) (l30 : (List T_agg_One)) : Prop :=
  (a0.length ≤ maxLen → cnd (decide (x26 < (a0.length : Int))) (law23_AggTurns_J4 x26 a0 x27 l28 x29 l30 X3 r (decide (x26 < (30 : Int)))) (law23_AggTurns_J4 x26 a0 x27 l28 x29 l30 X3 r false))
def law23_AggTurns_o (a0 : (List T_law23_Row)) (r : Bool) : Prop :=
  ∃ z1 : Bool, law23_speaks_o z1 ∧ cnd (!z1) (false = r) (∃ z4 : T_agg_Part, agg_None_o (2 : Int) z4 ∧ ∃ z6 : T_agg_Part, agg_None_o (2 : Int) z6 ∧ Lp5 (law23_AggTurns_L3 a0 r) (0 : Int) z4.Rows z4.L z6.Rows z6.L)

set_option maxRecDepth 100000 in
set_option maxHeartbeats 1000000 in
theorem law23_AggTurns_ok {a0 : (List T_law23_Row)} {r : Bool}  (h : law23_AggTurns_o a0 r) : Pure Try.prog 6 [slA e_law23_Row a0] (.bl r) := by
  refine pureK t6 (Nat.le_of_ble_eq_true rfl) (by kernel_rfl) fun B H n hB => ?_
  dsimp only [c6]
  unfold law23_AggTurns_o at h
  refine WK_conv (ks' := ⟨[(0, slA e_law23_Row a0)], [], H, n⟩) (by kernel_rfl) ?_
  refine WK_seq ?_
  refine WK_ops ?_
  refine @WD_q _ _ _ _ _ _ _ _ 1 1 [] (by kernel_rfl) rfl trivial ?_
  refine @WD_end _ _ _ _ _ _ _ _ hB [0] [] ⟨[(0, slA e_law23_Row a0)], [], H, n⟩ (by kernel_rfl) (by kernel_rfl) ?_
  refine sqn ?_
  refine WK_seq ?_
  refine WK_seq ?_
  refine WK_ops ?_
  obtain ⟨z1, z2, h⟩ := h
  refine @WD_c _ _ _ _ _ _ _ _ ⟨some 12, none, .call 24 []⟩ 24 [] [] [] [] (.bl z1) (by kernel_rfl) (by kernel_rfl) (.inl ⟨[], rfl, by kernel_rfl⟩) (by kernel_rfl) (by kernel_rfl) (by kernel_rfl) (law23_speaks_ok z2) ?_
  refine @WD_q _ _ _ _ _ _ _ _ 1 2 [] (by kernel_rfl) rfl trivial ?_
  refine @WD_end _ _ _ _ _ _ _ _ hB [0, 13] [] ⟨[(0, slA e_law23_Row a0), (13, .bl (!z1))], [], H, n⟩ (by kernel_rfl) (by kernel_rfl) ?_
  refine sqn ?_
  refine WK_cond (b := !z1) (by kernel_rfl) (fun b3 => ?_) (fun b3 => ?_)
  · have h := h.1 b3
    refine WK_seq ?_
    refine WK_ops ?_
    refine @WD_q _ _ _ _ _ _ _ _ 1 1 [] (by kernel_rfl) rfl trivial ?_
    refine @WD_end _ _ _ _ _ _ _ _ hB [2] [] ⟨[(2, .bl false)], [], H, n⟩ (by kernel_rfl) (by kernel_rfl) ?_
    refine sqn ?_
    refine WK_ret ?_
    refine sqr ?_
    have hr : false = r := h
    subst hr
    refine k_ret (u := .bl false) (by kernel_rfl) (by kernel_rfl) (by kernel_rfl) rfl rfl
  · have h := h.2 b3
    refine WK_skip ?_
    refine sqn ?_
    refine WK_seq ?_
    refine WK_ops ?_
    obtain ⟨z4, z5, h⟩ := h
    refine @WD_c _ _ _ _ _ _ _ _ ⟨some 14, none, .call 25 [(.c (.it .i64 2))]⟩ 25 [.it .i64 (2 : Int)] [.it .i64 (2 : Int)] [.it .i64 (2 : Int)] [] (.agg [.it .i64 z4.Rows, slA e_agg_One z4.L]) (by kernel_rfl) (by kernel_rfl) (.inl ⟨[(.c (.it .i64 2))], rfl, by kernel_rfl⟩) (by kernel_rfl) (by kernel_rfl) (by kernel_rfl) (agg_None_ok z5) ?_
    obtain ⟨z6, z7, h⟩ := h
    refine @WD_c _ _ _ _ _ _ _ _ ⟨some 15, none, .call 25 [(.c (.it .i64 2))]⟩ 25 [.it .i64 (2 : Int)] [.it .i64 (2 : Int)] [.it .i64 (2 : Int)] [] (.agg [.it .i64 z6.Rows, slA e_agg_One z6.L]) (by kernel_rfl) (by kernel_rfl) (.inl ⟨[(.c (.it .i64 2))], rfl, by kernel_rfl⟩) (by kernel_rfl) (by kernel_rfl) (by kernel_rfl) (agg_None_ok z7) ?_
    refine @WD_q _ _ _ _ _ _ _ _ 4 6 [] (by kernel_rfl) rfl trivial ?_
    refine @WD_end _ _ _ _ _ _ _ _ hB [0, 3, 4] [(3, 2), (4, 2)] ⟨[(0, slA e_law23_Row a0), (3, .pt (.l 3 1) 0), (4, .pt (.l 4 1) 0)], [(3, ⟨58, 2, [.it .i64 z4.Rows, slA e_agg_One z4.L], true⟩), (4, ⟨58, 2, [.it .i64 z6.Rows, slA e_agg_One z6.L], true⟩)], H, n⟩ (by kernel_rfl) (by kernel_rfl) ?_
    refine sqn ?_
    refine WK_seqJ (σ := Int × (List T_agg_One) × Int × (List T_agg_One)) (fun ((x8, l9, x10, l11) : Int × (List T_agg_One) × Int × (List T_agg_One)) => law23_AggTurns_J1 a0 r x8 l9 x10 l11) (fun ((x8, l9, x10, l11) : Int × (List T_agg_One) × Int × (List T_agg_One)) ks => ks.keep [0, 3, 4] [3, 4] = ⟨[(0, slA e_law23_Row a0), (3, .pt (.l 3 1) 0), (4, .pt (.l 4 1) 0)], [(3, ⟨58, 2, [.it .i64 x8, slA e_agg_One l9], true⟩), (4, ⟨58, 2, [.it .i64 x10, slA e_agg_One l11], true⟩)], H, n⟩) (fun X hX2 => ?_) ?_
    · refine WK_seq ?_
      refine WK_ops ?_
      refine @WD_q _ _ _ _ _ _ _ _ 1 1 [] (by kernel_rfl) rfl trivial ?_
      refine @WD_end _ _ _ _ _ _ _ _ hB [0, 3, 4, 5] [(3, 1), (4, 1)] ⟨[(0, slA e_law23_Row a0), (3, .pt (.l 3 1) 0), (4, .pt (.l 4 1) 0), (5, .it .i64 (0 : Int))], [(3, ⟨58, 2, [.it .i64 z4.Rows, slA e_agg_One z4.L], true⟩), (4, ⟨58, 2, [.it .i64 z6.Rows, slA e_agg_One z6.L], true⟩)], H, n⟩ (by kernel_rfl) (by kernel_rfl) ?_
      refine sqn ?_
      refine WK_block ?_
      refine WK_loop fun YX3 hYX3 => ?_
      obtain ⟨X3, hX3⟩ : ∃ q : Int → Int → (List T_agg_One) → Int → (List T_agg_One) → Prop, q = (fun (x26 : Int) (x27 : Int) (l28 : (List T_agg_One)) (x29 : Int) (l30 : (List T_agg_One)) => ∀ ks, (ks.keep [0, 3, 4, 5] [3, 4] = ⟨[(0, slA e_law23_Row a0), (3, .pt (.l 3 1) 0), (4, .pt (.l 4 1) 0), (5, .it .i64 x26)], [(3, ⟨58, 2, [.it .i64 x27, slA e_agg_One l28], true⟩), (4, ⟨58, 2, [.it .i64 x29, slA e_agg_One l30], true⟩)], H, n⟩) → YX3 ks) := ⟨_, rfl⟩
      suffices hs : X3 (0 : Int) z4.Rows z4.L z6.Rows z6.L by rw [hX3] at hs; exact hs _ (by show _ = _; kernel_rfl)
      refine h X3 (fun x26 x27 l28 x29 l30 h => ?_)
      rw [hX3]
      rintro _ hk
      refine hYX3 _ ?_
      unfold law23_AggTurns_L3 at h
      refine WK_keep hB hk ?_
      refine WK_seq ?_
      refine WK_seqJ (σ := Bool) (fun (x31 : Bool) => law23_AggTurns_J4 x26 a0 x27 l28 x29 l30 X3 r x31) (fun (x31 : Bool) ks => ks.keep [0, 3, 4, 5, 23] [3, 4] = ⟨[(0, slA e_law23_Row a0), (3, .pt (.l 3 1) 0), (4, .pt (.l 4 1) 0), (5, .it .i64 x26), (23, .bl x31)], [(3, ⟨58, 2, [.it .i64 x27, slA e_agg_One l28], true⟩), (4, ⟨58, 2, [.it .i64 x29, slA e_agg_One l30], true⟩)], H, n⟩) (fun X hX5 => ?_) ?_
      · refine WK_ops ?_
        refine @WD_q _ _ _ _ _ _ _ _ 2 2 [] (by kernel_rfl) rfl trivial ?_
        refine @WD_len _ _ _ _ _ _ _ _ 17 a0.length false (cl e_law23_Row a0) (by decide) (by kernel_rfl) (fun m48 => ?_)
        have h := h m48
        refine @WD_q _ _ _ _ _ _ _ _ 3 5 [] (by kernel_rfl) rfl trivial ?_
        refine @WD_bool _ _ _ _ _ _ _ _ 20 (decide (x26 < (a0.length : Int))) (by kernel_rfl) (fun b49 => ?_) (fun b49 => ?_)
        · have h := h.1 b49
          refine @WD_q _ _ _ _ _ _ _ _ 3 8 [] (by kernel_rfl) rfl trivial ?_
          refine @WD_end _ _ _ _ _ _ _ _ hB [0, 3, 4, 5, 23] [(3, 1), (4, 1)] ⟨[(0, slA e_law23_Row a0), (3, .pt (.l 3 1) 0), (4, .pt (.l 4 1) 0), (5, .it .i64 x26), (23, .bl (decide (x26 < (30 : Int))))], [(3, ⟨58, 2, [.it .i64 x27, slA e_agg_One l28], true⟩), (4, ⟨58, 2, [.it .i64 x29, slA e_agg_One l30], true⟩)], H, n⟩ (by kernel_rfl) (by kernel_rfl) ?_
          refine sqn (hX5 (decide (x26 < (30 : Int))) _ h (by show _ = _; kernel_rfl))
        · have h := h.2 b49
          refine @WD_q _ _ _ _ _ _ _ _ 3 8 [] (by kernel_rfl) rfl trivial ?_
          refine @WD_end _ _ _ _ _ _ _ _ hB [0, 3, 4, 5, 23] [(3, 1), (4, 1)] ⟨[(0, slA e_law23_Row a0), (3, .pt (.l 3 1) 0), (4, .pt (.l 4 1) 0), (5, .it .i64 x26), (23, .bl false)], [(3, ⟨58, 2, [.it .i64 x27, slA e_agg_One l28], true⟩), (4, ⟨58, 2, [.it .i64 x29, slA e_agg_One l30], true⟩)], H, n⟩ (by kernel_rfl) (by kernel_rfl) ?_
          refine sqn (hX5 false _ h (by show _ = _; kernel_rfl))
      · rintro x31 _ h hk
        replace h : law23_AggTurns_J4 x26 a0 x27 l28 x29 l30 X3 r x31 := h
        unfold law23_AggTurns_J4 at h
        refine WK_keep hB hk ?_
        refine WK_cond (b := x31) (by kernel_rfl) (fun b32 => ?_) (fun b32 => ?_)
        · have h := h.1 b32
          refine WK_skip ?_
          refine sqn ?_
          refine WK_seq ?_
          refine WK_block ?_
          refine WK_seq ?_
          refine WK_ops ?_
          obtain ⟨i34, y33, y35, h⟩ := h
          refine @WD_q _ _ _ _ _ _ _ _ 3 3 [0 ≤ x26 ∧ x26 < a0.length] (by kernel_rfl) rfl ⟨⟨i34, lt_of_at i34 y35⟩, trivial⟩ ?_
          refine @WD_e _ _ _ _ _ _ _ _ ⟨some 30, none, .ld true 7 (.t 29)⟩ _ _ (by kernel_rfl) (by kernel_rfl) (fun hk => E_lde e_law23_Row (x := (.t 29)) (l := a0) (y := y33) (off := x26.toNat * 7) (m := x26.toNat) (of := 0) (v := .agg [.it .u8 y33.Group, .it .u8 y33.A.Kind, .it .i64 y33.A.N, .st y33.A.S, .it .u8 y33.B.Kind, .it .i64 y33.B.N, .st y33.B.S]) hk (by kernel_rfl) (by kernel_rfl) y35 (by kernel_rfl)) rfl ?_
          obtain ⟨z36, z37, h⟩ := h
          refine @WD_c _ _ _ _ _ _ _ _ ⟨some 31, none, .call 26 [(.t 30)]⟩ 26 [.agg [.it .u8 y33.Group, .it .u8 y33.A.Kind, .it .i64 y33.A.N, .st y33.A.S, .it .u8 y33.B.Kind, .it .i64 y33.B.N, .st y33.B.S]] [.agg [.it .u8 y33.Group, .it .u8 y33.A.Kind, .it .i64 y33.A.N, .st y33.A.S, .it .u8 y33.B.Kind, .it .i64 y33.B.N, .st y33.B.S]] [.agg [.it .u8 y33.Group, .it .u8 y33.A.Kind, .it .i64 y33.A.N, .st y33.A.S, .it .u8 y33.B.Kind, .it .i64 y33.B.N, .st y33.B.S]] [] (.tup [.agg [slA e_value_Value z36.1.Row, .it .i64 z36.1.Part.Rows, slA e_agg_One z36.1.Part.L], .agg [slA e_ref06_Value z36.2.Group, slA e_ref06_Value z36.2.Values]]) (by kernel_rfl) (by kernel_rfl) (.inl ⟨[(.t 30)], rfl, by kernel_rfl⟩) (by kernel_rfl) (by kernel_rfl) (by kernel_rfl) (law23_told_ok z37) ?_
          refine @WD_q _ _ _ _ _ _ _ _ 7 12 [] (by kernel_rfl) rfl trivial ?_
          refine @WD_end _ _ _ _ _ _ _ _ hB [0, 3, 4, 5, 6] [(3, 1), (4, 1), (6, 2)] ⟨[(0, slA e_law23_Row a0), (3, .pt (.l 3 1) 0), (4, .pt (.l 4 1) 0), (5, .it .i64 x26), (6, .pt (.l 6 1) 0)], [(3, ⟨58, 2, [.it .i64 x27, slA e_agg_One l28], true⟩), (4, ⟨58, 2, [.it .i64 x29, slA e_agg_One l30], true⟩), (6, ⟨61, 3, [slA e_value_Value z36.1.Row, .it .i64 z36.1.Part.Rows, slA e_agg_One z36.1.Part.L], true⟩)], H, n⟩ (by kernel_rfl) (by kernel_rfl) ?_
          refine sqn ?_
          refine WK_seq ?_
          refine WK_ops ?_
          refine @WD_q _ _ _ _ _ _ _ _ 2 2 [] (by kernel_rfl) rfl trivial ?_
          refine @WD_len _ _ _ _ _ _ _ _ 36 a0.length false (cl e_law23_Row a0) (by decide) (by kernel_rfl) (fun m38 => ?_)
          have h := h m38
          obtain ⟨i40, y39, y41, h⟩ := h
          refine @WD_q _ _ _ _ _ _ _ _ 6 8 [0 ≤ (IntKind.i64.wrap ((IntKind.i64.wrap ((if (30 : Int) < (a0.length : Int) then (30 : Int) else (a0.length : Int)) - (1 : Int))) - x26)) ∧ (IntKind.i64.wrap ((IntKind.i64.wrap ((if (30 : Int) < (a0.length : Int) then (30 : Int) else (a0.length : Int)) - (1 : Int))) - x26)) < a0.length] (by kernel_rfl) rfl ⟨⟨i40, lt_of_at i40 y41⟩, trivial⟩ ?_
          refine @WD_e _ _ _ _ _ _ _ _ ⟨some 43, none, .ld true 7 (.t 42)⟩ _ _ (by kernel_rfl) (by kernel_rfl) (fun hk => E_lde e_law23_Row (x := (.t 42)) (l := a0) (y := y39) (off := (IntKind.i64.wrap ((IntKind.i64.wrap ((if (30 : Int) < (a0.length : Int) then (30 : Int) else (a0.length : Int)) - (1 : Int))) - x26)).toNat * 7) (m := (IntKind.i64.wrap ((IntKind.i64.wrap ((if (30 : Int) < (a0.length : Int) then (30 : Int) else (a0.length : Int)) - (1 : Int))) - x26)).toNat) (of := 0) (v := .agg [.it .u8 y39.Group, .it .u8 y39.A.Kind, .it .i64 y39.A.N, .st y39.A.S, .it .u8 y39.B.Kind, .it .i64 y39.B.N, .st y39.B.S]) hk (by kernel_rfl) (by kernel_rfl) y41 (by kernel_rfl)) rfl ?_
          obtain ⟨z42, z43, h⟩ := h
          refine @WD_c _ _ _ _ _ _ _ _ ⟨some 44, none, .call 26 [(.t 43)]⟩ 26 [.agg [.it .u8 y39.Group, .it .u8 y39.A.Kind, .it .i64 y39.A.N, .st y39.A.S, .it .u8 y39.B.Kind, .it .i64 y39.B.N, .st y39.B.S]] [.agg [.it .u8 y39.Group, .it .u8 y39.A.Kind, .it .i64 y39.A.N, .st y39.A.S, .it .u8 y39.B.Kind, .it .i64 y39.B.N, .st y39.B.S]] [.agg [.it .u8 y39.Group, .it .u8 y39.A.Kind, .it .i64 y39.A.N, .st y39.A.S, .it .u8 y39.B.Kind, .it .i64 y39.B.N, .st y39.B.S]] [] (.tup [.agg [slA e_value_Value z42.1.Row, .it .i64 z42.1.Part.Rows, slA e_agg_One z42.1.Part.L], .agg [slA e_ref06_Value z42.2.Group, slA e_ref06_Value z42.2.Values]]) (by kernel_rfl) (by kernel_rfl) (.inl ⟨[(.t 43)], rfl, by kernel_rfl⟩) (by kernel_rfl) (by kernel_rfl) (by kernel_rfl) (law23_told_ok z43) ?_
          refine @WD_q _ _ _ _ _ _ _ _ 7 17 [] (by kernel_rfl) rfl trivial ?_
          refine @WD_end _ _ _ _ _ _ _ _ hB [0, 3, 4, 5, 6, 8] [(3, 1), (4, 1), (6, 1), (8, 2)] ⟨[(0, slA e_law23_Row a0), (3, .pt (.l 3 1) 0), (4, .pt (.l 4 1) 0), (5, .it .i64 x26), (6, .pt (.l 6 1) 0), (8, .pt (.l 8 1) 0)], [(3, ⟨58, 2, [.it .i64 x27, slA e_agg_One l28], true⟩), (4, ⟨58, 2, [.it .i64 x29, slA e_agg_One l30], true⟩), (6, ⟨61, 3, [slA e_value_Value z36.1.Row, .it .i64 z36.1.Part.Rows, slA e_agg_One z36.1.Part.L], true⟩), (8, ⟨61, 3, [slA e_value_Value z42.1.Row, .it .i64 z42.1.Part.Rows, slA e_agg_One z42.1.Part.L], true⟩)], H, n⟩ (by kernel_rfl) (by kernel_rfl) ?_
          refine sqn ?_
          refine WK_drw ?_
          obtain ⟨z44, z45, h⟩ := h
          refine @DD_q _ _ _ _ _ _ 3 3 [] (by kernel_rfl) rfl trivial ?_
          refine @DD_c _ _ _ _ _ _ ⟨some 50, none, .call 27 [(.t 47), (.t 49)]⟩ [] 27 [.agg [.it .i64 x27, slA e_agg_One l28], .agg [.it .i64 z36.1.Part.Rows, slA e_agg_One z36.1.Part.L]] [.agg [.it .i64 x27, slA e_agg_One l28], .agg [.it .i64 z36.1.Part.Rows, slA e_agg_One z36.1.Part.L]] [.agg [.it .i64 x27, slA e_agg_One l28], .agg [.it .i64 z36.1.Part.Rows, slA e_agg_One z36.1.Part.L]] [] (.agg [.it .i64 z44.Rows, slA e_agg_One z44.L]) (by kernel_rfl) (by kernel_rfl) (.inl ⟨[(.t 47), (.t 49)], rfl, by kernel_rfl⟩) (by kernel_rfl) (by kernel_rfl) (by kernel_rfl) (agg_Plus_ok z45) (by kernel_rfl) ?_
          obtain ⟨z46, z47, h⟩ := h
          refine @DD_q _ _ _ _ _ _ 3 7 [] (by kernel_rfl) rfl trivial ?_
          refine @DD_c _ _ _ _ _ _ ⟨some 54, none, .call 27 [(.t 52), (.t 53)]⟩ [] 27 [.agg [.it .i64 z42.1.Part.Rows, slA e_agg_One z42.1.Part.L], .agg [.it .i64 x29, slA e_agg_One l30]] [.agg [.it .i64 z42.1.Part.Rows, slA e_agg_One z42.1.Part.L], .agg [.it .i64 x29, slA e_agg_One l30]] [.agg [.it .i64 z42.1.Part.Rows, slA e_agg_One z42.1.Part.L], .agg [.it .i64 x29, slA e_agg_One l30]] [] (.agg [.it .i64 z46.Rows, slA e_agg_One z46.L]) (by kernel_rfl) (by kernel_rfl) (.inl ⟨[(.t 52), (.t 53)], rfl, by kernel_rfl⟩) (by kernel_rfl) (by kernel_rfl) (by kernel_rfl) (agg_Plus_ok z47) (by kernel_rfl) ?_
          refine @DD_q _ _ _ _ _ _ 2 10 [] (by kernel_rfl) rfl trivial ?_
          refine @DD_end _ _ _ _ _ _ _ hB [0, 3, 4, 5] [(3, 1), (4, 1)] ⟨[(0, slA e_law23_Row a0), (3, .pt (.l 3 1) 0), (4, .pt (.l 4 1) 0), (5, .it .i64 x26)], [(3, ⟨58, 2, [.it .i64 z44.Rows, slA e_agg_One z44.L], true⟩), (4, ⟨58, 2, [.it .i64 z46.Rows, slA e_agg_One z46.L], true⟩)], H, n⟩ _ (by kernel_rfl) (by kernel_rfl) ?_
          refine bkn ?_
          refine sqn ?_
          refine WK_ops ?_
          refine @WD_q _ _ _ _ _ _ _ _ 3 3 [] (by kernel_rfl) rfl trivial ?_
          refine @WD_end _ _ _ _ _ _ _ _ hB [0, 3, 4, 5] [(3, 1), (4, 1)] ⟨[(0, slA e_law23_Row a0), (3, .pt (.l 3 1) 0), (4, .pt (.l 4 1) 0), (5, .it .i64 (IntKind.i64.wrap (x26 + (1 : Int))))], [(3, ⟨58, 2, [.it .i64 z44.Rows, slA e_agg_One z44.L], true⟩), (4, ⟨58, 2, [.it .i64 z46.Rows, slA e_agg_One z46.L], true⟩)], H, n⟩ (by kernel_rfl) (by kernel_rfl) ?_
          refine sqn ?_
          rw [hX3] at h
          exact h _ (by show _ = _; kernel_rfl)
        · have h := h.2 b32
          refine WK_exit ?_
          refine sqx ?_
          refine sqx ?_
          refine bkx ?_
          refine sqn (hX2 (x27, l28, x29, l30) _ h (by show _ = _; kernel_rfl))
    · rintro ⟨x8, l9, x10, l11⟩ _ h hk
      replace h : law23_AggTurns_J1 a0 r x8 l9 x10 l11 := h
      unfold law23_AggTurns_J1 at h
      refine WK_keep hB hk ?_
      refine WK_seq ?_
      refine WK_drw ?_
      obtain ⟨z12, z13, h⟩ := h
      refine @DD_q _ _ _ _ _ _ 1 1 [] (by kernel_rfl) rfl trivial ?_
      refine @DD_c _ _ _ _ _ _ ⟨some 56, none, .call 25 [(.c (.it .i64 2))]⟩ [0] 25 [.it .i64 (2 : Int)] [.it .i64 (2 : Int)] [.it .i64 (2 : Int)] [] (.agg [.it .i64 z12.Rows, slA e_agg_One z12.L]) (by kernel_rfl) (by kernel_rfl) (.inl ⟨[(.c (.it .i64 2))], rfl, by kernel_rfl⟩) (by kernel_rfl) (by kernel_rfl) (by kernel_rfl) (agg_None_ok z13) (by kernel_rfl) ?_
      obtain ⟨z14, z15, h⟩ := h
      refine @DD_c _ _ _ _ _ _ ⟨some 57, none, .call 27 [(.t 55), (.t 56)]⟩ [] 27 [.agg [.it .i64 x8, slA e_agg_One l9], .agg [.it .i64 z12.Rows, slA e_agg_One z12.L]] [.agg [.it .i64 x8, slA e_agg_One l9], .agg [.it .i64 z12.Rows, slA e_agg_One z12.L]] [.agg [.it .i64 x8, slA e_agg_One l9], .agg [.it .i64 z12.Rows, slA e_agg_One z12.L]] [] (.agg [.it .i64 z14.Rows, slA e_agg_One z14.L]) (by kernel_rfl) (by kernel_rfl) (.inl ⟨[(.t 55), (.t 56)], rfl, by kernel_rfl⟩) (by kernel_rfl) (by kernel_rfl) (by kernel_rfl) (agg_Plus_ok z15) (by kernel_rfl) ?_
      refine @DD_q _ _ _ _ _ _ 2 5 [] (by kernel_rfl) rfl trivial ?_
      refine @DD_end _ _ _ _ _ _ _ hB [0, 3, 4, 10] [(3, 1), (4, 1), (10, 2)] ⟨[(0, slA e_law23_Row a0), (3, .pt (.l 3 1) 0), (4, .pt (.l 4 1) 0), (10, .pt (.l 10 1) 0)], [(3, ⟨58, 2, [.it .i64 x8, slA e_agg_One l9], true⟩), (4, ⟨58, 2, [.it .i64 x10, slA e_agg_One l11], true⟩), (10, ⟨58, 2, [.it .i64 z14.Rows, slA e_agg_One z14.L], true⟩)], H, n⟩ _ (by kernel_rfl) (by kernel_rfl) ?_
      refine sqn ?_
      refine WK_seq ?_
      refine WK_ops ?_
      refine @WD_q _ _ _ _ _ _ _ _ 1 1 [] (by kernel_rfl) rfl trivial ?_
      refine @WD_end _ _ _ _ _ _ _ _ hB [0, 3, 4, 10, 11] [(3, 1), (4, 1), (10, 1)] ⟨[(0, slA e_law23_Row a0), (3, .pt (.l 3 1) 0), (4, .pt (.l 4 1) 0), (10, .pt (.l 10 1) 0), (11, .fn (.func 28) [] [])], [(3, ⟨58, 2, [.it .i64 x8, slA e_agg_One l9], true⟩), (4, ⟨58, 2, [.it .i64 x10, slA e_agg_One l11], true⟩), (10, ⟨58, 2, [.it .i64 z14.Rows, slA e_agg_One z14.L], true⟩)], H, n⟩ (by kernel_rfl) (by kernel_rfl) ?_
      refine sqn ?_
      refine WK_seq ?_
      refine WK_drw ?_
      obtain ⟨z16, z17, h⟩ := h
      refine @DD_q _ _ _ _ _ _ 2 2 [] (by kernel_rfl) rfl trivial ?_
      refine @DD_c _ _ _ _ _ _ ⟨some 60, none, .calv (.t 58) [(.t 59)]⟩ [] 28 [.agg [.it .i64 x8, slA e_agg_One l9]] [.agg [.it .i64 x8, slA e_agg_One l9]] [.agg [.it .i64 x8, slA e_agg_One l9]] [] (.st z16) (by kernel_rfl) (by kernel_rfl) (.inr ⟨(.t 58), [(.t 59)], [], [], rfl, by kernel_rfl, by kernel_rfl⟩) (by kernel_rfl) (by kernel_rfl) (by kernel_rfl) (law23_AggTurns_1_ok z17) (by kernel_rfl) ?_
      obtain ⟨z18, z19, h⟩ := h
      refine @DD_q _ _ _ _ _ _ 2 5 [] (by kernel_rfl) rfl trivial ?_
      refine @DD_c _ _ _ _ _ _ ⟨some 63, none, .calv (.t 61) [(.t 62)]⟩ [] 28 [.agg [.it .i64 x10, slA e_agg_One l11]] [.agg [.it .i64 x10, slA e_agg_One l11]] [.agg [.it .i64 x10, slA e_agg_One l11]] [] (.st z18) (by kernel_rfl) (by kernel_rfl) (.inr ⟨(.t 61), [(.t 62)], [], [], rfl, by kernel_rfl, by kernel_rfl⟩) (by kernel_rfl) (by kernel_rfl) (by kernel_rfl) (law23_AggTurns_1_ok z19) (by kernel_rfl) ?_
      refine @DD_q _ _ _ _ _ _ 2 8 [] (by kernel_rfl) rfl trivial ?_
      refine @DD_bool _ _ _ _ _ _ 65 (z16 == z18) (by kernel_rfl) (fun b20 => ?_) (fun b20 => ?_)
      · have h := h.1 b20
        obtain ⟨z21, z22, h⟩ := h
        refine @DD_q _ _ _ _ _ _ 2 10 [] (by kernel_rfl) rfl trivial ?_
        refine @DD_c _ _ _ _ _ _ ⟨some 68, some (65, true), .calv (.t 66) [(.t 67)]⟩ [] 28 [.agg [.it .i64 z14.Rows, slA e_agg_One z14.L]] [.agg [.it .i64 z14.Rows, slA e_agg_One z14.L]] [.agg [.it .i64 z14.Rows, slA e_agg_One z14.L]] [] (.st z21) (by kernel_rfl) (by kernel_rfl) (.inr ⟨(.t 66), [(.t 67)], [], [], rfl, by kernel_rfl, by kernel_rfl⟩) (by kernel_rfl) (by kernel_rfl) (by kernel_rfl) (law23_AggTurns_1_ok z22) (by kernel_rfl) ?_
        obtain ⟨z23, z24, h⟩ := h
        refine @DD_q _ _ _ _ _ _ 2 13 [] (by kernel_rfl) rfl trivial ?_
        refine @DD_c _ _ _ _ _ _ ⟨some 71, some (65, true), .calv (.t 69) [(.t 70)]⟩ [] 28 [.agg [.it .i64 x8, slA e_agg_One l9]] [.agg [.it .i64 x8, slA e_agg_One l9]] [.agg [.it .i64 x8, slA e_agg_One l9]] [] (.st z23) (by kernel_rfl) (by kernel_rfl) (.inr ⟨(.t 69), [(.t 70)], [], [], rfl, by kernel_rfl, by kernel_rfl⟩) (by kernel_rfl) (by kernel_rfl) (by kernel_rfl) (law23_AggTurns_1_ok z24) (by kernel_rfl) ?_
        refine @DD_q _ _ _ _ _ _ 3 17 [] (by kernel_rfl) rfl trivial ?_
        refine @DD_bool _ _ _ _ _ _ 74 (z21 == z23) (by kernel_rfl) (fun b25 => ?_) (fun b25 => ?_)
        · have h := h.1 b25
          refine @DD_q _ _ _ _ _ _ 8 25 [] (by kernel_rfl) rfl trivial ?_
          refine @DD_end _ _ _ _ _ _ _ hB [2] [] ⟨[(2, .bl (x8 == (if (30 : Int) < (a0.length : Int) then (30 : Int) else (a0.length : Int))))], [], H, n⟩ _ (by kernel_rfl) (by kernel_rfl) ?_
          refine sqn ?_
          refine WK_ret ?_
          have hr : (x8 == (if (30 : Int) < (a0.length : Int) then (30 : Int) else (a0.length : Int))) = r := h
          subst hr
          refine k_ret (u := .bl (x8 == (if (30 : Int) < (a0.length : Int) then (30 : Int) else (a0.length : Int)))) (by kernel_rfl) (by kernel_rfl) (by kernel_rfl) rfl rfl
        · have h := h.2 b25
          refine @DD_q _ _ _ _ _ _ 8 25 [] (by kernel_rfl) rfl trivial ?_
          refine @DD_end _ _ _ _ _ _ _ hB [2] [] ⟨[(2, .bl false)], [], H, n⟩ _ (by kernel_rfl) (by kernel_rfl) ?_
          refine sqn ?_
          refine WK_ret ?_
          have hr : false = r := h
          subst hr
          refine k_ret (u := .bl false) (by kernel_rfl) (by kernel_rfl) (by kernel_rfl) rfl rfl
      · have h := h.2 b20
        refine @DD_q _ _ _ _ _ _ 17 25 [] (by kernel_rfl) rfl trivial ?_
        refine @DD_end _ _ _ _ _ _ _ hB [2] [] ⟨[(2, .bl false)], [], H, n⟩ _ (by kernel_rfl) (by kernel_rfl) ?_
        refine sqn ?_
        refine WK_ret ?_
        have hr : false = r := h
        subst hr
        refine k_ret (u := .bl false) (by kernel_rfl) (by kernel_rfl) (by kernel_rfl) rfl rfl

end Go.Proofs.Ytkmehmgocelkiaa
