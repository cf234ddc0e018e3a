/-
  The functions as relations of plain data, and that the program does as they say. (Written by a program of mine, wip/gen.py.)
-/
import Derived.Test.YtkmehmgocelkiaaCode
import Derived.Test.YtkmehmgocelkiaaAvG
import Derived.KernelRfl
import Derived.Test.YtkmehmgocelkiaaHand
namespace Go.Proofs.Ytkmehmgocelkiaa
open Go.AV Go.RowKit

structure T_law08_Value where
  Kind : Int
  N : Int
  S : Str
noncomputable def e_law08_Value : Enc T_law08_Value := ⟨fun v => [.it .u8 v.Kind, .it .u8 v.N, .st v.S], 3, by decide, fun _ => rfl, fun _ => rfl, fun _ => rfl⟩

structure T_value_Value where
  Kind : Int
  N : Int
  S : Str
noncomputable def e_value_Value : Enc T_value_Value := ⟨fun v => [.it .i64 v.Kind, .it .i64 v.N, .st v.S], 3, by decide, fun _ => rfl, fun _ => rfl, fun _ => rfl⟩

structure T_ref06_Value where
  Kind : Int
  N : Int
  S : Str
noncomputable def e_ref06_Value : Enc T_ref06_Value := ⟨fun v => [.it .i64 v.Kind, .it .i64 v.N, .st v.S], 3, by decide, fun _ => rfl, fun _ => rfl, fun _ => rfl⟩

structure T_bag_Bag where
  rows : (List (List T_value_Value))
noncomputable def e_bag_Bag : Enc T_bag_Bag := ⟨fun v => [slA (eSl e_value_Value) v.rows], 1, by decide, fun _ => rfl, fun _ => rfl, fun _ => rfl⟩

structure T_law23_Value where
  Kind : Int
  N : Int
  S : Str
noncomputable def e_law23_Value : Enc T_law23_Value := ⟨fun v => [.it .u8 v.Kind, .it .i64 v.N, .st v.S], 3, by decide, fun _ => rfl, fun _ => rfl, fun _ => rfl⟩

structure T_law23_Row where
  Group : Int
  A : T_law23_Value
  B : T_law23_Value
noncomputable def e_law23_Row : Enc T_law23_Row := ⟨fun v => [.it .u8 v.Group, .it .u8 v.A.Kind, .it .i64 v.A.N, .st v.A.S, .it .u8 v.B.Kind, .it .i64 v.B.N, .st v.B.S], 7, by decide, fun _ => rfl, fun _ => rfl, fun _ => rfl⟩

structure T_wide_Wide where
  Hi : Int
  Lo : Int
noncomputable def e_wide_Wide : Enc T_wide_Wide := ⟨fun v => [.it .i64 v.Hi, .it .u64 v.Lo], 2, by decide, fun _ => rfl, fun _ => rfl, fun _ => rfl⟩

structure T_agg_One where
  N : Int
  Sum : T_wide_Wide
  Min : T_value_Value
  Max : T_value_Value
noncomputable def e_agg_One : Enc T_agg_One := ⟨fun v => [.it .i64 v.N, .it .i64 v.Sum.Hi, .it .u64 v.Sum.Lo, .it .i64 v.Min.Kind, .it .i64 v.Min.N, .st v.Min.S, .it .i64 v.Max.Kind, .it .i64 v.Max.N, .st v.Max.S], 9, by decide, fun _ => rfl, fun _ => rfl, fun _ => rfl⟩

structure T_agg_Part where
  Rows : Int
  L : (List T_agg_One)
noncomputable def e_agg_Part : Enc T_agg_Part := ⟨fun v => [.it .i64 v.Rows, slA e_agg_One v.L], 2, by decide, fun _ => rfl, fun _ => rfl, fun _ => rfl⟩

structure T_agg_Group where
  Row : (List T_value_Value)
  Part : T_agg_Part
noncomputable def e_agg_Group : Enc T_agg_Group := ⟨fun v => [slA e_value_Value v.Row, .it .i64 v.Part.Rows, slA e_agg_One v.Part.L], 3, by decide, fun _ => rfl, fun _ => rfl, fun _ => rfl⟩

structure T_ref23_Row where
  Group : (List T_ref06_Value)
  Values : (List T_ref06_Value)
noncomputable def e_ref23_Row : Enc T_ref23_Row := ⟨fun v => [slA e_ref06_Value v.Group, slA e_ref06_Value v.Values], 2, by decide, fun _ => rfl, fun _ => rfl, fun _ => rfl⟩

def value_OfInt_o (a0 : Int) (r : T_value_Value) : Prop :=
  (⟨(2 : Int), a0, ([] : Str)⟩ : T_value_Value) = r

set_option maxRecDepth 100000 in
set_option maxHeartbeats 1000000 in
theorem value_OfInt_ok {a0 : Int} {r : T_value_Value}  (h : value_OfInt_o a0 r) : Pure Try.prog 36 [.it .i64 a0] (.agg [.it .i64 r.Kind, .it .i64 r.N, .st r.S]) := by
  refine pureK t36 (Nat.le_of_ble_eq_true rfl) (by kernel_rfl) fun B H n hB => ?_
  dsimp only [c36]
  unfold value_OfInt_o at h
  refine WK_conv (ks' := ⟨[(0, .it .i64 a0)], [], H, n⟩) (by kernel_rfl) ?_
  refine WK_seq ?_
  refine WK_ops ?_
  refine @WD_q _ _ _ _ _ _ _ _ 1 1 [] (by kernel_rfl) rfl trivial ?_
  refine @WD_end _ _ _ _ _ _ _ _ hB [0, 2] [(2, 2)] ⟨[(0, .it .i64 a0), (2, .pt (.l 2 1) 0)], [(2, ⟨88, 3, [.it .i64 (0 : Int), .it .i64 (0 : Int), .st ([] : Str)], true⟩)], H, n⟩ (by kernel_rfl) (by kernel_rfl) ?_
  refine sqn ?_
  refine WK_seq ?_
  refine WK_ops ?_
  refine @WD_q _ _ _ _ _ _ _ _ 3 3 [] (by kernel_rfl) rfl trivial ?_
  refine @WD_end _ _ _ _ _ _ _ _ hB [2] [(2, 1)] ⟨[(2, .pt (.l 2 1) 0)], [(2, ⟨88, 3, [.it .i64 (2 : Int), .it .i64 a0, .st ([] : Str)], true⟩)], H, n⟩ (by kernel_rfl) (by kernel_rfl) ?_
  refine sqn ?_
  refine WK_ret ?_
  have hr : (⟨(2 : Int), a0, ([] : Str)⟩ : T_value_Value) = r := h
  subst hr
  refine k_ret (u := .agg [.it .i64 (2 : Int), .it .i64 a0, .st ([] : Str)]) (by kernel_rfl) (by kernel_rfl) (by kernel_rfl) rfl rfl

def wide_Of_o (a0 : Int) (r : T_wide_Wide) : Prop :=
  (⟨a0.fdiv (2 ^ (min (63 : Int).toNat IntKind.i64.bits)), IntKind.u64.wrap a0⟩ : T_wide_Wide) = r

set_option maxRecDepth 100000 in
set_option maxHeartbeats 1000000 in
theorem wide_Of_ok {a0 : Int} {r : T_wide_Wide}  (h : wide_Of_o a0 r) : Pure Try.prog 75 [.it .i64 a0] (.agg [.it .i64 r.Hi, .it .u64 r.Lo]) := by
  refine pureK t75 (Nat.le_of_ble_eq_true rfl) (by kernel_rfl) fun B H n hB => ?_
  dsimp only [c75]
  unfold wide_Of_o at h
  refine WK_conv (ks' := ⟨[(0, .it .i64 a0)], [], H, n⟩) (by kernel_rfl) ?_
  refine WK_seq ?_
  refine WK_ops ?_
  refine @WD_q _ _ _ _ _ _ _ _ 1 1 [] (by kernel_rfl) rfl trivial ?_
  refine @WD_end _ _ _ _ _ _ _ _ hB [0, 2] [(2, 2)] ⟨[(0, .it .i64 a0), (2, .pt (.l 2 1) 0)], [(2, ⟨113, 2, [.it .i64 (0 : Int), .it .u64 (0 : Int)], true⟩)], H, n⟩ (by kernel_rfl) (by kernel_rfl) ?_
  refine sqn ?_
  refine WK_seq ?_
  refine WK_ops ?_
  refine @WD_q _ _ _ _ _ _ _ _ 6 6 [¬ (63 : Int) < 0] (by kernel_rfl) rfl ⟨(by decide), trivial⟩ ?_
  refine @WD_end _ _ _ _ _ _ _ _ hB [2] [(2, 1)] ⟨[(2, .pt (.l 2 1) 0)], [(2, ⟨113, 2, [.it .i64 (a0.fdiv (2 ^ (min (63 : Int).toNat IntKind.i64.bits))), .it .u64 (IntKind.u64.wrap a0)], true⟩)], H, n⟩ (by kernel_rfl) (by kernel_rfl) ?_
  refine sqn ?_
  refine WK_ret ?_
  have hr : (⟨a0.fdiv (2 ^ (min (63 : Int).toNat IntKind.i64.bits)), IntKind.u64.wrap a0⟩ : T_wide_Wide) = r := h
  subst hr
  refine k_ret (u := .agg [.it .i64 (a0.fdiv (2 ^ (min (63 : Int).toNat IntKind.i64.bits))), .it .u64 (IntKind.u64.wrap a0)]) (by kernel_rfl) (by kernel_rfl) (by kernel_rfl) rfl rfl

def agg_Of_J1 (r : T_agg_Part) (l1 : (List T_agg_One)) : Prop :=
  (⟨(1 : Int), l1⟩ : T_agg_Part) = r
def agg_Of_J5 (l4 : (List T_agg_One)) (X3 : Int → (List T_agg_One) → Prop) (x3 : Int) (x9 : Int) (x10 : Int) (x11 : Int) (x12 : Str) (x13 : Int) (x14 : Int) (x15 : Str) (r : T_agg_Part) (x16 : Int) (x17 : Int) : Prop :=
  (l4.length ≤ 1000000000) ∧ X3 (IntKind.i64.wrap (x3 + (1 : Int))) (l4 ++ ([(⟨x9, (⟨x16, x17⟩ : T_wide_Wide), (⟨x10, x11, x12⟩ : T_value_Value), (⟨x13, x14, x15⟩ : T_value_Value)⟩ : T_agg_One)] : List T_agg_One))
def agg_Of_J4 (y6 : T_value_Value) (l4 : (List T_agg_One)) (X3 : Int → (List T_agg_One) → Prop) (x3 : Int) (r : T_agg_Part) (x9 : Int) (x10 : Int) (x11 : Int) (x12 : Str) (x13 : Int) (x14 : Int) (x15 : Str) : Prop :=
  cnd (y6.Kind == (2 : Int)) (∃ z20 : T_wide_Wide, wide_Of_o y6.N z20 ∧ agg_Of_J5 l4 X3 x3 x9 x10 x11 x12 x13 x14 x15 r z20.Hi z20.Lo) (agg_Of_J5 l4 X3 x3 x9 x10 x11 x12 x13 x14 x15 r (0 : Int) (0 : Int))
def agg_Of_J9 (X3 : Int → (List T_agg_One) → Prop) (x3 : Int) (x27 : Int) (x28 : Int) (x29 : Int) (x30 : Str) (x31 : Int) (x32 : Int) (x33 : Str) (r : T_agg_Part) (x34 : Int) (x35 : Int) : Prop :=
  (([] : List T_agg_One).length ≤ 1000000000) ∧ X3 (IntKind.i64.wrap (x3 + (1 : Int))) (([] : List T_agg_One) ++ ([(⟨x27, (⟨x34, x35⟩ : T_wide_Wide), (⟨x28, x29, x30⟩ : T_value_Value), (⟨x31, x32, x33⟩ : T_value_Value)⟩ : T_agg_One)] : List T_agg_One))
def agg_Of_J8 (y24 : T_value_Value) (X3 : Int → (List T_agg_One) → Prop) (x3 : Int) (r : T_agg_Part) (x27 : Int) (x28 : Int) (x29 : Int) (x30 : Str) (x31 : Int) (x32 : Int) (x33 : Str) : Prop :=
  cnd (y24.Kind == (2 : Int)) (∃ z38 : T_wide_Wide, wide_Of_o y24.N z38 ∧ agg_Of_J9 X3 x3 x27 x28 x29 x30 x31 x32 x33 r z38.Hi z38.Lo) (agg_Of_J9 X3 x3 x27 x28 x29 x30 x31 x32 x33 r (0 : Int) (0 : Int))
def agg_Of_L3 (a0 : (List T_value_Value)) (r : T_agg_Part) (X3 : Int → (List T_agg_One) → Prop) (x3 : Int) (l4 : (List T_agg_One)) : Prop :=
  cnd (decide (x3 < (a0.length : Int))) (0 ≤ x3 ∧ ∃ y6 : T_value_Value, a0[x3.toNat]? = some y6 ∧ cnd (!(y6.Kind == (0 : Int))) (agg_Of_J4 y6 l4 X3 x3 r (1 : Int) y6.Kind y6.N y6.S y6.Kind y6.N y6.S) (agg_Of_J4 y6 l4 X3 x3 r (0 : Int) (0 : Int) (0 : Int) ([] : Str) (0 : Int) (0 : Int) ([] : Str))) (agg_Of_J1 r l4)
def agg_Of_o (a0 : (List T_value_Value)) (r : T_agg_Part) : Prop :=
  (a0.length ≤ maxLen → Lp2 (agg_Of_L3 a0 r) (0 : Int) ([] : List T_agg_One))

set_option maxRecDepth 100000 in
set_option maxHeartbeats 1000000 in
theorem agg_Of_ok {a0 : (List T_value_Value)} {r : T_agg_Part}  (h : agg_Of_o a0 r) : Pure Try.prog 50 [slA e_value_Value a0] (.agg [.it .i64 r.Rows, slA e_agg_One r.L]) := by
  refine pureK t50 (Nat.le_of_ble_eq_true rfl) (by kernel_rfl) fun B H n hB => ?_
  dsimp only [c50]
  unfold agg_Of_o at h
  refine WK_conv (ks' := ⟨[(0, slA e_value_Value a0)], [], H, n⟩) (by kernel_rfl) ?_
  refine WK_seq ?_
  refine WK_ops ?_
  refine @WD_q _ _ _ _ _ _ _ _ 1 1 [] (by kernel_rfl) rfl trivial ?_
  refine @WD_end _ _ _ _ _ _ _ _ hB [0, 2] [(2, 2)] ⟨[(0, slA e_value_Value a0), (2, .pt (.l 2 1) 0)], [(2, ⟨58, 2, [.it .i64 (0 : Int), .sl true 0 []], true⟩)], H, n⟩ (by kernel_rfl) (by kernel_rfl) ?_
  refine sqn ?_
  refine WK_seq ?_
  refine WK_ops ?_
  refine @WD_q _ _ _ _ _ _ _ _ 3 3 [] (by kernel_rfl) rfl trivial ?_
  refine @WD_end _ _ _ _ _ _ _ _ hB [0, 2, 3] [(2, 1), (3, 2)] ⟨[(0, slA e_value_Value a0), (2, .pt (.l 2 1) 0), (3, .pt (.l 3 1) 0)], [(2, ⟨58, 2, [.it .i64 (0 : Int), .sl true 0 []], true⟩), (3, ⟨58, 2, [.it .i64 (1 : Int), .sl true 0 []], true⟩)], H, n⟩ (by kernel_rfl) (by kernel_rfl) ?_
  refine sqn ?_
  refine WK_seqW (σ := (List T_agg_One)) (fun (l1 : (List T_agg_One)) => agg_Of_J1 r l1) (fun (l1 : (List T_agg_One)) ks => (ks.keep [2, 3] [2, 3, 31] = ⟨[(2, .pt (.l 2 1) 0), (3, .pt (.l 3 1) 0)], [(2, ⟨58, 2, [.it .i64 (0 : Int), .sl true 0 []], true⟩), (3, ⟨58, 2, [.it .i64 (1 : Int), rwA 31 1 l1], false⟩), (31, rwB 115 e_agg_One l1)], H, n⟩) ∨ (l1 = [] ∧ ks.keep [2, 3] [2, 3] = ⟨[(2, .pt (.l 2 1) 0), (3, .pt (.l 3 1) 0)], [(2, ⟨58, 2, [.it .i64 (0 : Int), .sl true 0 []], true⟩), (3, ⟨58, 2, [.it .i64 (1 : Int), .sl true 0 []], true⟩)], H, n⟩)) (fun (l1 : (List T_agg_One)) => ⟨[(2, .pt (.l 2 1) 0), (3, .pt (.l 3 1) 0)], [(2, ⟨58, 2, [.it .i64 (0 : Int), .sl true 0 []], true⟩), (3, ⟨58, 2, [.it .i64 (1 : Int), slA e_agg_One l1], true⟩)], H, n⟩) (fun X hX2 => ?_) ?_ ?_
  · refine WK_seq ?_
    refine WK_ops ?_
    refine @WD_q _ _ _ _ _ _ _ _ 1 1 [] (by kernel_rfl) rfl trivial ?_
    refine @WD_len _ _ _ _ _ _ _ _ 8 a0.length false (cl e_value_Value a0) (by decide) (by kernel_rfl) (fun m2 => ?_)
    have h := h m2
    refine @WD_q _ _ _ _ _ _ _ _ 2 3 [] (by kernel_rfl) rfl trivial ?_
    refine @WD_end _ _ _ _ _ _ _ _ hB [2, 3, 8, 9, 10] [(2, 1), (3, 1)] ⟨[(2, .pt (.l 2 1) 0), (3, .pt (.l 3 1) 0), (8, slA e_value_Value a0), (9, .it .i64 (a0.length : Int)), (10, .it .i64 (0 : Int))], [(2, ⟨58, 2, [.it .i64 (0 : Int), .sl true 0 []], true⟩), (3, ⟨58, 2, [.it .i64 (1 : Int), .sl true 0 []], true⟩)], H, n⟩ (by kernel_rfl) (by kernel_rfl) ?_
    refine sqn ?_
    refine WK_block ?_
    refine WK_loop fun YX3 hYX3 => ?_
    obtain ⟨X3, hX3⟩ : ∃ q : Int → (List T_agg_One) → Prop, q = (fun (x3 : Int) (l4 : (List T_agg_One)) => ∀ ks, ((ks.keep [2, 3, 8, 9, 10] [2, 3, 31] = ⟨[(2, .pt (.l 2 1) 0), (3, .pt (.l 3 1) 0), (8, slA e_value_Value a0), (9, .it .i64 (a0.length : Int)), (10, .it .i64 x3)], [(2, ⟨58, 2, [.it .i64 (0 : Int), .sl true 0 []], true⟩), (3, ⟨58, 2, [.it .i64 (1 : Int), rwA 31 1 l4], false⟩), (31, rwB 115 e_agg_One l4)], H, n⟩) ∨ (l4 = [] ∧ ks.keep [2, 3, 8, 9, 10] [2, 3] = ⟨[(2, .pt (.l 2 1) 0), (3, .pt (.l 3 1) 0), (8, slA e_value_Value a0), (9, .it .i64 (a0.length : Int)), (10, .it .i64 x3)], [(2, ⟨58, 2, [.it .i64 (0 : Int), .sl true 0 []], true⟩), (3, ⟨58, 2, [.it .i64 (1 : Int), .sl true 0 []], true⟩)], H, n⟩)) → YX3 ks) := ⟨_, rfl⟩
    suffices hs : X3 (0 : Int) ([] : List T_agg_One) by rw [hX3] at hs; exact hs _ (.inr (⟨rfl, (by show _ = _; kernel_rfl)⟩))
    refine h X3 (fun x3 l4 h => ?_)
    rw [hX3]
    rintro _ (hk | ⟨hn_l4, hk⟩)
    · refine hYX3 _ ?_
      unfold agg_Of_L3 at h
      refine WK_keep hB hk ?_
      refine WK_seq ?_
      refine WK_ops ?_
      refine @WD_q _ _ _ _ _ _ _ _ 1 1 [] (by kernel_rfl) rfl trivial ?_
      refine @WD_end _ _ _ _ _ _ _ _ hB [2, 3, 8, 9, 10, 11] [(2, 1), (3, 1), (31, 1)] ⟨[(2, .pt (.l 2 1) 0), (3, .pt (.l 3 1) 0), (8, slA e_value_Value a0), (9, .it .i64 (a0.length : Int)), (10, .it .i64 x3), (11, .bl (decide (x3 < (a0.length : Int))))], [(2, ⟨58, 2, [.it .i64 (0 : Int), .sl true 0 []], true⟩), (3, ⟨58, 2, [.it .i64 (1 : Int), rwA 31 1 l4], false⟩), (31, rwB 115 e_agg_One l4)], H, n⟩ (by kernel_rfl) (by kernel_rfl) ?_
      refine sqn ?_
      refine WK_seq ?_
      refine WK_cond (b := decide (x3 < (a0.length : Int))) (by kernel_rfl) (fun b5 => ?_) (fun b5 => ?_)
      · have h := h.1 b5
        refine WK_skip ?_
        refine sqn ?_
        refine WK_seq ?_
        refine WK_block ?_
        refine WK_seq ?_
        refine WK_ops ?_
        obtain ⟨i7, y6, y8, h⟩ := h
        refine @WD_q _ _ _ _ _ _ _ _ 1 1 [0 ≤ x3 ∧ x3 < a0.length] (by kernel_rfl) rfl ⟨⟨i7, lt_of_at i7 y8⟩, trivial⟩ ?_
        refine @WD_e _ _ _ _ _ _ _ _ ⟨some 13, none, .ld true 3 (.t 12)⟩ _ _ (by kernel_rfl) (by kernel_rfl) (fun hk => E_lde e_value_Value (x := (.t 12)) (l := a0) (y := y6) (off := x3.toNat * 3) (m := x3.toNat) (of := 0) (v := .agg [.it .i64 y6.Kind, .it .i64 y6.N, .st y6.S]) hk (by kernel_rfl) (by kernel_rfl) y8 (by kernel_rfl)) rfl ?_
        refine @WD_q _ _ _ _ _ _ _ _ 2 4 [] (by kernel_rfl) rfl trivial ?_
        refine @WD_end _ _ _ _ _ _ _ _ hB [2, 3, 5, 8, 9, 10] [(2, 1), (3, 1), (5, 2), (31, 1)] ⟨[(2, .pt (.l 2 1) 0), (3, .pt (.l 3 1) 0), (5, .pt (.l 5 1) 0), (8, slA e_value_Value a0), (9, .it .i64 (a0.length : Int)), (10, .it .i64 x3)], [(2, ⟨58, 2, [.it .i64 (0 : Int), .sl true 0 []], true⟩), (3, ⟨58, 2, [.it .i64 (1 : Int), rwA 31 1 l4], false⟩), (5, ⟨88, 3, [.it .i64 y6.Kind, .it .i64 y6.N, .st y6.S], true⟩), (31, rwB 115 e_agg_One l4)], H, n⟩ (by kernel_rfl) (by kernel_rfl) ?_
        refine sqn ?_
        refine WK_seq ?_
        refine WK_ops ?_
        refine @WD_q _ _ _ _ _ _ _ _ 1 1 [] (by kernel_rfl) rfl trivial ?_
        refine @WD_end _ _ _ _ _ _ _ _ hB [2, 3, 5, 6, 8, 9, 10] [(2, 1), (3, 1), (5, 1), (6, 2), (31, 1)] ⟨[(2, .pt (.l 2 1) 0), (3, .pt (.l 3 1) 0), (5, .pt (.l 5 1) 0), (6, .pt (.l 6 1) 0), (8, slA e_value_Value a0), (9, .it .i64 (a0.length : Int)), (10, .it .i64 x3)], [(2, ⟨58, 2, [.it .i64 (0 : Int), .sl true 0 []], true⟩), (3, ⟨58, 2, [.it .i64 (1 : Int), rwA 31 1 l4], false⟩), (5, ⟨88, 3, [.it .i64 y6.Kind, .it .i64 y6.N, .st y6.S], true⟩), (6, ⟨115, 9, [.it .i64 (0 : Int), .it .i64 (0 : Int), .it .u64 (0 : Int), .it .i64 (0 : Int), .it .i64 (0 : Int), .st ([] : Str), .it .i64 (0 : Int), .it .i64 (0 : Int), .st ([] : Str)], true⟩), (31, rwB 115 e_agg_One l4)], H, n⟩ (by kernel_rfl) (by kernel_rfl) ?_
        refine sqn ?_
        refine WK_seqJ (σ := Int × Int × Int × Str × Int × Int × Str) (fun ((x9, x10, x11, x12, x13, x14, x15) : Int × Int × Int × Str × Int × Int × Str) => agg_Of_J4 y6 l4 X3 x3 r x9 x10 x11 x12 x13 x14 x15) (fun ((x9, x10, x11, x12, x13, x14, x15) : Int × Int × Int × Str × Int × Int × Str) ks => ks.keep [2, 3, 5, 6, 8, 9, 10] [2, 3, 5, 6, 31] = ⟨[(2, .pt (.l 2 1) 0), (3, .pt (.l 3 1) 0), (5, .pt (.l 5 1) 0), (6, .pt (.l 6 1) 0), (8, slA e_value_Value a0), (9, .it .i64 (a0.length : Int)), (10, .it .i64 x3)], [(2, ⟨58, 2, [.it .i64 (0 : Int), .sl true 0 []], true⟩), (3, ⟨58, 2, [.it .i64 (1 : Int), rwA 31 1 l4], false⟩), (5, ⟨88, 3, [.it .i64 y6.Kind, .it .i64 y6.N, .st y6.S], true⟩), (6, ⟨115, 9, [.it .i64 x9, .it .i64 (0 : Int), .it .u64 (0 : Int), .it .i64 x10, .it .i64 x11, .st x12, .it .i64 x13, .it .i64 x14, .st x15], true⟩), (31, rwB 115 e_agg_One l4)], H, n⟩) (fun X hX7 => ?_) ?_
        · refine WK_seq ?_
          refine WK_ops ?_
          refine @WD_q _ _ _ _ _ _ _ _ 3 3 [] (by kernel_rfl) rfl trivial ?_
          refine @WD_end _ _ _ _ _ _ _ _ hB [2, 3, 5, 6, 8, 9, 10, 16] [(2, 1), (3, 1), (5, 1), (6, 1), (31, 1)] ⟨[(2, .pt (.l 2 1) 0), (3, .pt (.l 3 1) 0), (5, .pt (.l 5 1) 0), (6, .pt (.l 6 1) 0), (8, slA e_value_Value a0), (9, .it .i64 (a0.length : Int)), (10, .it .i64 x3), (16, .bl (!(y6.Kind == (0 : Int))))], [(2, ⟨58, 2, [.it .i64 (0 : Int), .sl true 0 []], true⟩), (3, ⟨58, 2, [.it .i64 (1 : Int), rwA 31 1 l4], false⟩), (5, ⟨88, 3, [.it .i64 y6.Kind, .it .i64 y6.N, .st y6.S], true⟩), (6, ⟨115, 9, [.it .i64 (0 : Int), .it .i64 (0 : Int), .it .u64 (0 : Int), .it .i64 (0 : Int), .it .i64 (0 : Int), .st ([] : Str), .it .i64 (0 : Int), .it .i64 (0 : Int), .st ([] : Str)], true⟩), (31, rwB 115 e_agg_One l4)], H, n⟩ (by kernel_rfl) (by kernel_rfl) ?_
          refine sqn ?_
          refine WK_cond (b := !(y6.Kind == (0 : Int))) (by kernel_rfl) (fun b22 => ?_) (fun b22 => ?_)
          · have h := h.1 b22
            refine WK_ops ?_
            refine @WD_q _ _ _ _ _ _ _ _ 4 4 [] (by kernel_rfl) rfl trivial ?_
            refine @WD_end _ _ _ _ _ _ _ _ hB [2, 3, 5, 6, 8, 9, 10] [(2, 1), (3, 1), (5, 1), (6, 1), (31, 1)] ⟨[(2, .pt (.l 2 1) 0), (3, .pt (.l 3 1) 0), (5, .pt (.l 5 1) 0), (6, .pt (.l 6 1) 0), (8, slA e_value_Value a0), (9, .it .i64 (a0.length : Int)), (10, .it .i64 x3)], [(2, ⟨58, 2, [.it .i64 (0 : Int), .sl true 0 []], true⟩), (3, ⟨58, 2, [.it .i64 (1 : Int), rwA 31 1 l4], false⟩), (5, ⟨88, 3, [.it .i64 y6.Kind, .it .i64 y6.N, .st y6.S], true⟩), (6, ⟨115, 9, [.it .i64 (1 : Int), .it .i64 (0 : Int), .it .u64 (0 : Int), .it .i64 y6.Kind, .it .i64 y6.N, .st y6.S, .it .i64 y6.Kind, .it .i64 y6.N, .st y6.S], true⟩), (31, rwB 115 e_agg_One l4)], H, n⟩ (by kernel_rfl) (by kernel_rfl) ?_
            refine sqn (hX7 ((1 : Int), y6.Kind, y6.N, y6.S, y6.Kind, y6.N, y6.S) _ h (by show _ = _; kernel_rfl))
          · have h := h.2 b22
            refine WK_skip ?_
            refine sqn (hX7 ((0 : Int), (0 : Int), (0 : Int), ([] : Str), (0 : Int), (0 : Int), ([] : Str)) _ h (by show _ = _; kernel_rfl))
        · rintro ⟨x9, x10, x11, x12, x13, x14, x15⟩ _ h hk
          replace h : agg_Of_J4 y6 l4 X3 x3 r x9 x10 x11 x12 x13 x14 x15 := h
          unfold agg_Of_J4 at h
          refine WK_keep hB hk ?_
          refine WK_seqJ (σ := Int × Int) (fun ((x16, x17) : Int × Int) => agg_Of_J5 l4 X3 x3 x9 x10 x11 x12 x13 x14 x15 r x16 x17) (fun ((x16, x17) : Int × Int) ks => ks.keep [2, 3, 6, 8, 9, 10] [2, 3, 6, 31] = ⟨[(2, .pt (.l 2 1) 0), (3, .pt (.l 3 1) 0), (6, .pt (.l 6 1) 0), (8, slA e_value_Value a0), (9, .it .i64 (a0.length : Int)), (10, .it .i64 x3)], [(2, ⟨58, 2, [.it .i64 (0 : Int), .sl true 0 []], true⟩), (3, ⟨58, 2, [.it .i64 (1 : Int), rwA 31 1 l4], false⟩), (6, ⟨115, 9, [.it .i64 x9, .it .i64 x16, .it .u64 x17, .it .i64 x10, .it .i64 x11, .st x12, .it .i64 x13, .it .i64 x14, .st x15], true⟩), (31, rwB 115 e_agg_One l4)], H, n⟩) (fun X hX6 => ?_) ?_
          · refine WK_seq ?_
            refine WK_ops ?_
            refine @WD_q _ _ _ _ _ _ _ _ 3 3 [] (by kernel_rfl) rfl trivial ?_
            refine @WD_end _ _ _ _ _ _ _ _ hB [2, 3, 5, 6, 8, 9, 10, 22] [(2, 1), (3, 1), (5, 1), (6, 1), (31, 1)] ⟨[(2, .pt (.l 2 1) 0), (3, .pt (.l 3 1) 0), (5, .pt (.l 5 1) 0), (6, .pt (.l 6 1) 0), (8, slA e_value_Value a0), (9, .it .i64 (a0.length : Int)), (10, .it .i64 x3), (22, .bl (y6.Kind == (2 : Int)))], [(2, ⟨58, 2, [.it .i64 (0 : Int), .sl true 0 []], true⟩), (3, ⟨58, 2, [.it .i64 (1 : Int), rwA 31 1 l4], false⟩), (5, ⟨88, 3, [.it .i64 y6.Kind, .it .i64 y6.N, .st y6.S], true⟩), (6, ⟨115, 9, [.it .i64 x9, .it .i64 (0 : Int), .it .u64 (0 : Int), .it .i64 x10, .it .i64 x11, .st x12, .it .i64 x13, .it .i64 x14, .st x15], true⟩), (31, rwB 115 e_agg_One l4)], H, n⟩ (by kernel_rfl) (by kernel_rfl) ?_
            refine sqn ?_
            refine WK_cond (b := y6.Kind == (2 : Int)) (by kernel_rfl) (fun b19 => ?_) (fun b19 => ?_)
            · have h := h.1 b19
              refine WK_ops ?_
              obtain ⟨z20, z21, h⟩ := h
              refine @WD_q _ _ _ _ _ _ _ _ 2 2 [] (by kernel_rfl) rfl trivial ?_
              refine @WD_c _ _ _ _ _ _ _ _ ⟨some 25, none, .call 75 [(.t 24)]⟩ 75 [.it .i64 y6.N] [.it .i64 y6.N] [.it .i64 y6.N] [] (.agg [.it .i64 z20.Hi, .it .u64 z20.Lo]) (by kernel_rfl) (by kernel_rfl) (.inl ⟨[(.t 24)], rfl, by kernel_rfl⟩) (by kernel_rfl) (by kernel_rfl) (by kernel_rfl) (wide_Of_ok z21) ?_
              refine @WD_q _ _ _ _ _ _ _ _ 2 5 [] (by kernel_rfl) rfl trivial ?_
              refine @WD_end _ _ _ _ _ _ _ _ hB [2, 3, 6, 8, 9, 10] [(2, 1), (3, 1), (6, 1), (31, 1)] ⟨[(2, .pt (.l 2 1) 0), (3, .pt (.l 3 1) 0), (6, .pt (.l 6 1) 0), (8, slA e_value_Value a0), (9, .it .i64 (a0.length : Int)), (10, .it .i64 x3)], [(2, ⟨58, 2, [.it .i64 (0 : Int), .sl true 0 []], true⟩), (3, ⟨58, 2, [.it .i64 (1 : Int), rwA 31 1 l4], false⟩), (6, ⟨115, 9, [.it .i64 x9, .it .i64 z20.Hi, .it .u64 z20.Lo, .it .i64 x10, .it .i64 x11, .st x12, .it .i64 x13, .it .i64 x14, .st x15], true⟩), (31, rwB 115 e_agg_One l4)], H, n⟩ (by kernel_rfl) (by kernel_rfl) ?_
              refine sqn (hX6 (z20.Hi, z20.Lo) _ h (by show _ = _; kernel_rfl))
            · have h := h.2 b19
              refine WK_skip ?_
              refine sqn (hX6 ((0 : Int), (0 : Int)) _ h (by show _ = _; kernel_rfl))
          · rintro ⟨x16, x17⟩ _ h hk
            replace h : agg_Of_J5 l4 X3 x3 x9 x10 x11 x12 x13 x14 x15 r x16 x17 := h
            unfold agg_Of_J5 at h
            refine WK_keep hB hk ?_
            refine WK_ops ?_
            obtain ⟨c18, h⟩ := h
            refine @WD_q _ _ _ _ _ _ _ _ 4 4 [] (by kernel_rfl) rfl trivial ?_
            refine @WD_e _ _ _ _ _ _ _ _ ⟨some 31, none, .app 115 9 88 (.t 28) (.t 30)⟩ _ _ (by kernel_rfl) (by kernel_rfl) (fun hk => E_app e_agg_One (s := 31) (c := 1) (m := ([(⟨x9, (⟨x16, x17⟩ : T_wide_Wide), (⟨x10, x11, x12⟩ : T_value_Value), (⟨x13, x14, x15⟩ : T_value_Value)⟩ : T_agg_One)] : List T_agg_One).length) (n := l4.length) (l := l4) (l2 := ([(⟨x9, (⟨x16, x17⟩ : T_wide_Wide), (⟨x10, x11, x12⟩ : T_value_Value), (⟨x13, x14, x15⟩ : T_value_Value)⟩ : T_agg_One)] : List T_agg_One)) (b := true) (cs := cl e_agg_One ([(⟨x9, (⟨x16, x17⟩ : T_wide_Wide), (⟨x10, x11, x12⟩ : T_value_Value), (⟨x13, x14, x15⟩ : T_value_Value)⟩ : T_agg_One)] : List T_agg_One)) hk (by kernel_rfl) rfl (by kernel_rfl) (by kernel_rfl) (by kernel_rfl) (by kernel_rfl) rfl rfl c18 (Nat.le_of_ble_eq_true rfl)) rfl ?_
            refine @WD_q _ _ _ _ _ _ _ _ 2 7 [] (by kernel_rfl) rfl trivial ?_
            refine @WD_end _ _ _ _ _ _ _ _ hB [2, 3, 8, 9, 10] [(2, 1), (3, 1), (31, 2)] ⟨[(2, .pt (.l 2 1) 0), (3, .pt (.l 3 1) 0), (8, slA e_value_Value a0), (9, .it .i64 (a0.length : Int)), (10, .it .i64 x3)], [(2, ⟨58, 2, [.it .i64 (0 : Int), .sl true 0 []], true⟩), (3, ⟨58, 2, [.it .i64 (1 : Int), rwA 31 1 (l4 ++ ([(⟨x9, (⟨x16, x17⟩ : T_wide_Wide), (⟨x10, x11, x12⟩ : T_value_Value), (⟨x13, x14, x15⟩ : T_value_Value)⟩ : T_agg_One)] : List T_agg_One))], false⟩), (31, rwB 115 e_agg_One (l4 ++ ([(⟨x9, (⟨x16, x17⟩ : T_wide_Wide), (⟨x10, x11, x12⟩ : T_value_Value), (⟨x13, x14, x15⟩ : T_value_Value)⟩ : T_agg_One)] : List T_agg_One)))], H, n⟩ (by kernel_rfl) (by kernel_rfl) ?_
            refine bkn ?_
            refine sqn ?_
            refine WK_ops ?_
            refine @WD_q _ _ _ _ _ _ _ _ 2 2 [] (by kernel_rfl) rfl trivial ?_
            refine @WD_end _ _ _ _ _ _ _ _ hB [2, 3, 8, 9, 10] [(2, 1), (3, 1), (31, 1)] ⟨[(2, .pt (.l 2 1) 0), (3, .pt (.l 3 1) 0), (8, slA e_value_Value a0), (9, .it .i64 (a0.length : Int)), (10, .it .i64 (IntKind.i64.wrap (x3 + (1 : Int))))], [(2, ⟨58, 2, [.it .i64 (0 : Int), .sl true 0 []], true⟩), (3, ⟨58, 2, [.it .i64 (1 : Int), rwA 31 1 (l4 ++ ([(⟨x9, (⟨x16, x17⟩ : T_wide_Wide), (⟨x10, x11, x12⟩ : T_value_Value), (⟨x13, x14, x15⟩ : T_value_Value)⟩ : T_agg_One)] : List T_agg_One))], false⟩), (31, rwB 115 e_agg_One (l4 ++ ([(⟨x9, (⟨x16, x17⟩ : T_wide_Wide), (⟨x10, x11, x12⟩ : T_value_Value), (⟨x13, x14, x15⟩ : T_value_Value)⟩ : T_agg_One)] : List T_agg_One)))], H, n⟩ (by kernel_rfl) (by kernel_rfl) ?_
            refine sqn ?_
            rw [hX3] at h
            exact h _ (.inl (by show _ = _; kernel_rfl))
      · have h := h.2 b5
        refine WK_exit ?_
        refine sqx ?_
        refine sqx ?_
        refine bkx ?_
        refine sqn (hX2 l4 _ h (.inl (by show _ = _; kernel_rfl)))
    · subst hn_l4
      refine hYX3 _ ?_
      unfold agg_Of_L3 at h
      refine WK_keep hB hk ?_
      refine WK_seq ?_
      refine WK_ops ?_
      refine @WD_q _ _ _ _ _ _ _ _ 1 1 [] (by kernel_rfl) rfl trivial ?_
      refine @WD_end _ _ _ _ _ _ _ _ hB [2, 3, 8, 9, 10, 11] [(2, 1), (3, 1)] ⟨[(2, .pt (.l 2 1) 0), (3, .pt (.l 3 1) 0), (8, slA e_value_Value a0), (9, .it .i64 (a0.length : Int)), (10, .it .i64 x3), (11, .bl (decide (x3 < (a0.length : Int))))], [(2, ⟨58, 2, [.it .i64 (0 : Int), .sl true 0 []], true⟩), (3, ⟨58, 2, [.it .i64 (1 : Int), .sl true 0 []], true⟩)], H, n⟩ (by kernel_rfl) (by kernel_rfl) ?_
      refine sqn ?_
      refine WK_seq ?_
      refine WK_cond (b := decide (x3 < (a0.length : Int))) (by kernel_rfl) (fun b23 => ?_) (fun b23 => ?_)
      · have h := h.1 b23
        refine WK_skip ?_
        refine sqn ?_
        refine WK_seq ?_
        refine WK_block ?_
        refine WK_seq ?_
        refine WK_ops ?_
        obtain ⟨i25, y24, y26, h⟩ := h
        refine @WD_q _ _ _ _ _ _ _ _ 1 1 [0 ≤ x3 ∧ x3 < a0.length] (by kernel_rfl) rfl ⟨⟨i25, lt_of_at i25 y26⟩, trivial⟩ ?_
        refine @WD_e _ _ _ _ _ _ _ _ ⟨some 13, none, .ld true 3 (.t 12)⟩ _ _ (by kernel_rfl) (by kernel_rfl) (fun hk => E_lde e_value_Value (x := (.t 12)) (l := a0) (y := y24) (off := x3.toNat * 3) (m := x3.toNat) (of := 0) (v := .agg [.it .i64 y24.Kind, .it .i64 y24.N, .st y24.S]) hk (by kernel_rfl) (by kernel_rfl) y26 (by kernel_rfl)) rfl ?_
        refine @WD_q _ _ _ _ _ _ _ _ 2 4 [] (by kernel_rfl) rfl trivial ?_
        refine @WD_end _ _ _ _ _ _ _ _ hB [2, 3, 5, 8, 9, 10] [(2, 1), (3, 1), (5, 2)] ⟨[(2, .pt (.l 2 1) 0), (3, .pt (.l 3 1) 0), (5, .pt (.l 5 1) 0), (8, slA e_value_Value a0), (9, .it .i64 (a0.length : Int)), (10, .it .i64 x3)], [(2, ⟨58, 2, [.it .i64 (0 : Int), .sl true 0 []], true⟩), (3, ⟨58, 2, [.it .i64 (1 : Int), .sl true 0 []], true⟩), (5, ⟨88, 3, [.it .i64 y24.Kind, .it .i64 y24.N, .st y24.S], true⟩)], H, n⟩ (by kernel_rfl) (by kernel_rfl) ?_
        refine sqn ?_
        refine WK_seq ?_
        refine WK_ops ?_
        refine @WD_q _ _ _ _ _ _ _ _ 1 1 [] (by kernel_rfl) rfl trivial ?_
        refine @WD_end _ _ _ _ _ _ _ _ hB [2, 3, 5, 6, 8, 9, 10] [(2, 1), (3, 1), (5, 1), (6, 2)] ⟨[(2, .pt (.l 2 1) 0), (3, .pt (.l 3 1) 0), (5, .pt (.l 5 1) 0), (6, .pt (.l 6 1) 0), (8, slA e_value_Value a0), (9, .it .i64 (a0.length : Int)), (10, .it .i64 x3)], [(2, ⟨58, 2, [.it .i64 (0 : Int), .sl true 0 []], true⟩), (3, ⟨58, 2, [.it .i64 (1 : Int), .sl true 0 []], true⟩), (5, ⟨88, 3, [.it .i64 y24.Kind, .it .i64 y24.N, .st y24.S], true⟩), (6, ⟨115, 9, [.it .i64 (0 : Int), .it .i64 (0 : Int), .it .u64 (0 : Int), .it .i64 (0 : Int), .it .i64 (0 : Int), .st ([] : Str), .it .i64 (0 : Int), .it .i64 (0 : Int), .st ([] : Str)], true⟩)], H, n⟩ (by kernel_rfl) (by kernel_rfl) ?_
        refine sqn ?_
        refine WK_seqJ (σ := Int × Int × Int × Str × Int × Int × Str) (fun ((x27, x28, x29, x30, x31, x32, x33) : Int × Int × Int × Str × Int × Int × Str) => agg_Of_J8 y24 X3 x3 r x27 x28 x29 x30 x31 x32 x33) (fun ((x27, x28, x29, x30, x31, x32, x33) : Int × Int × Int × Str × Int × Int × Str) ks => ks.keep [2, 3, 5, 6, 8, 9, 10] [2, 3, 5, 6] = ⟨[(2, .pt (.l 2 1) 0), (3, .pt (.l 3 1) 0), (5, .pt (.l 5 1) 0), (6, .pt (.l 6 1) 0), (8, slA e_value_Value a0), (9, .it .i64 (a0.length : Int)), (10, .it .i64 x3)], [(2, ⟨58, 2, [.it .i64 (0 : Int), .sl true 0 []], true⟩), (3, ⟨58, 2, [.it .i64 (1 : Int), .sl true 0 []], true⟩), (5, ⟨88, 3, [.it .i64 y24.Kind, .it .i64 y24.N, .st y24.S], true⟩), (6, ⟨115, 9, [.it .i64 x27, .it .i64 (0 : Int), .it .u64 (0 : Int), .it .i64 x28, .it .i64 x29, .st x30, .it .i64 x31, .it .i64 x32, .st x33], true⟩)], H, n⟩) (fun X hX11 => ?_) ?_
        · refine WK_seq ?_
          refine WK_ops ?_
          refine @WD_q _ _ _ _ _ _ _ _ 3 3 [] (by kernel_rfl) rfl trivial ?_
          refine @WD_end _ _ _ _ _ _ _ _ hB [2, 3, 5, 6, 8, 9, 10, 16] [(2, 1), (3, 1), (5, 1), (6, 1)] ⟨[(2, .pt (.l 2 1) 0), (3, .pt (.l 3 1) 0), (5, .pt (.l 5 1) 0), (6, .pt (.l 6 1) 0), (8, slA e_value_Value a0), (9, .it .i64 (a0.length : Int)), (10, .it .i64 x3), (16, .bl (!(y24.Kind == (0 : Int))))], [(2, ⟨58, 2, [.it .i64 (0 : Int), .sl true 0 []], true⟩), (3, ⟨58, 2, [.it .i64 (1 : Int), .sl true 0 []], true⟩), (5, ⟨88, 3, [.it .i64 y24.Kind, .it .i64 y24.N, .st y24.S], true⟩), (6, ⟨115, 9, [.it .i64 (0 : Int), .it .i64 (0 : Int), .it .u64 (0 : Int), .it .i64 (0 : Int), .it .i64 (0 : Int), .st ([] : Str), .it .i64 (0 : Int), .it .i64 (0 : Int), .st ([] : Str)], true⟩)], H, n⟩ (by kernel_rfl) (by kernel_rfl) ?_
          refine sqn ?_
          refine WK_cond (b := !(y24.Kind == (0 : Int))) (by kernel_rfl) (fun b40 => ?_) (fun b40 => ?_)
          · have h := h.1 b40
            refine WK_ops ?_
            refine @WD_q _ _ _ _ _ _ _ _ 4 4 [] (by kernel_rfl) rfl trivial ?_
            refine @WD_end _ _ _ _ _ _ _ _ hB [2, 3, 5, 6, 8, 9, 10] [(2, 1), (3, 1), (5, 1), (6, 1)] ⟨[(2, .pt (.l 2 1) 0), (3, .pt (.l 3 1) 0), (5, .pt (.l 5 1) 0), (6, .pt (.l 6 1) 0), (8, slA e_value_Value a0), (9, .it .i64 (a0.length : Int)), (10, .it .i64 x3)], [(2, ⟨58, 2, [.it .i64 (0 : Int), .sl true 0 []], true⟩), (3, ⟨58, 2, [.it .i64 (1 : Int), .sl true 0 []], true⟩), (5, ⟨88, 3, [.it .i64 y24.Kind, .it .i64 y24.N, .st y24.S], true⟩), (6, ⟨115, 9, [.it .i64 (1 : Int), .it .i64 (0 : Int), .it .u64 (0 : Int), .it .i64 y24.Kind, .it .i64 y24.N, .st y24.S, .it .i64 y24.Kind, .it .i64 y24.N, .st y24.S], true⟩)], H, n⟩ (by kernel_rfl) (by kernel_rfl) ?_
            refine sqn (hX11 ((1 : Int), y24.Kind, y24.N, y24.S, y24.Kind, y24.N, y24.S) _ h (by show _ = _; kernel_rfl))
          · have h := h.2 b40
            refine WK_skip ?_
            refine sqn (hX11 ((0 : Int), (0 : Int), (0 : Int), ([] : Str), (0 : Int), (0 : Int), ([] : Str)) _ h (by show _ = _; kernel_rfl))
        · rintro ⟨x27, x28, x29, x30, x31, x32, x33⟩ _ h hk
          replace h : agg_Of_J8 y24 X3 x3 r x27 x28 x29 x30 x31 x32 x33 := h
          unfold agg_Of_J8 at h
          refine WK_keep hB hk ?_
          refine WK_seqJ (σ := Int × Int) (fun ((x34, x35) : Int × Int) => agg_Of_J9 X3 x3 x27 x28 x29 x30 x31 x32 x33 r x34 x35) (fun ((x34, x35) : Int × Int) ks => ks.keep [2, 3, 6, 8, 9, 10] [2, 3, 6] = ⟨[(2, .pt (.l 2 1) 0), (3, .pt (.l 3 1) 0), (6, .pt (.l 6 1) 0), (8, slA e_value_Value a0), (9, .it .i64 (a0.length : Int)), (10, .it .i64 x3)], [(2, ⟨58, 2, [.it .i64 (0 : Int), .sl true 0 []], true⟩), (3, ⟨58, 2, [.it .i64 (1 : Int), .sl true 0 []], true⟩), (6, ⟨115, 9, [.it .i64 x27, .it .i64 x34, .it .u64 x35, .it .i64 x28, .it .i64 x29, .st x30, .it .i64 x31, .it .i64 x32, .st x33], true⟩)], H, n⟩) (fun X hX10 => ?_) ?_
          · refine WK_seq ?_
            refine WK_ops ?_
            refine @WD_q _ _ _ _ _ _ _ _ 3 3 [] (by kernel_rfl) rfl trivial ?_
            refine @WD_end _ _ _ _ _ _ _ _ hB [2, 3, 5, 6, 8, 9, 10, 22] [(2, 1), (3, 1), (5, 1), (6, 1)] ⟨[(2, .pt (.l 2 1) 0), (3, .pt (.l 3 1) 0), (5, .pt (.l 5 1) 0), (6, .pt (.l 6 1) 0), (8, slA e_value_Value a0), (9, .it .i64 (a0.length : Int)), (10, .it .i64 x3), (22, .bl (y24.Kind == (2 : Int)))], [(2, ⟨58, 2, [.it .i64 (0 : Int), .sl true 0 []], true⟩), (3, ⟨58, 2, [.it .i64 (1 : Int), .sl true 0 []], true⟩), (5, ⟨88, 3, [.it .i64 y24.Kind, .it .i64 y24.N, .st y24.S], true⟩), (6, ⟨115, 9, [.it .i64 x27, .it .i64 (0 : Int), .it .u64 (0 : Int), .it .i64 x28, .it .i64 x29, .st x30, .it .i64 x31, .it .i64 x32, .st x33], true⟩)], H, n⟩ (by kernel_rfl) (by kernel_rfl) ?_
            refine sqn ?_
            refine WK_cond (b := y24.Kind == (2 : Int)) (by kernel_rfl) (fun b37 => ?_) (fun b37 => ?_)
            · have h := h.1 b37
              refine WK_ops ?_
              obtain ⟨z38, z39, h⟩ := h
              refine @WD_q _ _ _ _ _ _ _ _ 2 2 [] (by kernel_rfl) rfl trivial ?_
              refine @WD_c _ _ _ _ _ _ _ _ ⟨some 25, none, .call 75 [(.t 24)]⟩ 75 [.it .i64 y24.N] [.it .i64 y24.N] [.it .i64 y24.N] [] (.agg [.it .i64 z38.Hi, .it .u64 z38.Lo]) (by kernel_rfl) (by kernel_rfl) (.inl ⟨[(.t 24)], rfl, by kernel_rfl⟩) (by kernel_rfl) (by kernel_rfl) (by kernel_rfl) (wide_Of_ok z39) ?_
              refine @WD_q _ _ _ _ _ _ _ _ 2 5 [] (by kernel_rfl) rfl trivial ?_
              refine @WD_end _ _ _ _ _ _ _ _ hB [2, 3, 6, 8, 9, 10] [(2, 1), (3, 1), (6, 1)] ⟨[(2, .pt (.l 2 1) 0), (3, .pt (.l 3 1) 0), (6, .pt (.l 6 1) 0), (8, slA e_value_Value a0), (9, .it .i64 (a0.length : Int)), (10, .it .i64 x3)], [(2, ⟨58, 2, [.it .i64 (0 : Int), .sl true 0 []], true⟩), (3, ⟨58, 2, [.it .i64 (1 : Int), .sl true 0 []], true⟩), (6, ⟨115, 9, [.it .i64 x27, .it .i64 z38.Hi, .it .u64 z38.Lo, .it .i64 x28, .it .i64 x29, .st x30, .it .i64 x31, .it .i64 x32, .st x33], true⟩)], H, n⟩ (by kernel_rfl) (by kernel_rfl) ?_
              refine sqn (hX10 (z38.Hi, z38.Lo) _ h (by show _ = _; kernel_rfl))
            · have h := h.2 b37
              refine WK_skip ?_
              refine sqn (hX10 ((0 : Int), (0 : Int)) _ h (by show _ = _; kernel_rfl))
          · rintro ⟨x34, x35⟩ _ h hk
            replace h : agg_Of_J9 X3 x3 x27 x28 x29 x30 x31 x32 x33 r x34 x35 := h
            unfold agg_Of_J9 at h
            refine WK_keep hB hk ?_
            refine WK_ops ?_
            obtain ⟨c36, h⟩ := h
            refine @WD_q _ _ _ _ _ _ _ _ 4 4 [] (by kernel_rfl) rfl trivial ?_
            refine @WD_e _ _ _ _ _ _ _ _ ⟨some 31, none, .app 115 9 88 (.t 28) (.t 30)⟩ _ _ (by kernel_rfl) (by kernel_rfl) (fun hk => E_app0 e_agg_One (n := 0) (xs := []) (m := ([(⟨x27, (⟨x34, x35⟩ : T_wide_Wide), (⟨x28, x29, x30⟩ : T_value_Value), (⟨x31, x32, x33⟩ : T_value_Value)⟩ : T_agg_One)] : List T_agg_One).length) (l2 := ([(⟨x27, (⟨x34, x35⟩ : T_wide_Wide), (⟨x28, x29, x30⟩ : T_value_Value), (⟨x31, x32, x33⟩ : T_value_Value)⟩ : T_agg_One)] : List T_agg_One)) (cs := cl e_agg_One ([(⟨x27, (⟨x34, x35⟩ : T_wide_Wide), (⟨x28, x29, x30⟩ : T_value_Value), (⟨x31, x32, x33⟩ : T_value_Value)⟩ : T_agg_One)] : List T_agg_One)) hk (by kernel_rfl) (by kernel_rfl) (by kernel_rfl) (by kernel_rfl) rfl rfl (List.cons_ne_nil _ _) (Nat.le_of_ble_eq_true rfl)) rfl ?_
            refine @WD_q _ _ _ _ _ _ _ _ 2 7 [] (by kernel_rfl) rfl trivial ?_
            refine @WD_end _ _ _ _ _ _ _ _ hB [2, 3, 8, 9, 10] [(2, 1), (3, 1), (31, 2)] ⟨[(2, .pt (.l 2 1) 0), (3, .pt (.l 3 1) 0), (8, slA e_value_Value a0), (9, .it .i64 (a0.length : Int)), (10, .it .i64 x3)], [(2, ⟨58, 2, [.it .i64 (0 : Int), .sl true 0 []], true⟩), (3, ⟨58, 2, [.it .i64 (1 : Int), rwA 31 1 (([] : List T_agg_One) ++ ([(⟨x27, (⟨x34, x35⟩ : T_wide_Wide), (⟨x28, x29, x30⟩ : T_value_Value), (⟨x31, x32, x33⟩ : T_value_Value)⟩ : T_agg_One)] : List T_agg_One))], false⟩), (31, rwB 115 e_agg_One (([] : List T_agg_One) ++ ([(⟨x27, (⟨x34, x35⟩ : T_wide_Wide), (⟨x28, x29, x30⟩ : T_value_Value), (⟨x31, x32, x33⟩ : T_value_Value)⟩ : T_agg_One)] : List T_agg_One)))], H, n⟩ (by kernel_rfl) (by kernel_rfl) ?_
            refine bkn ?_
            refine sqn ?_
            refine WK_ops ?_
            refine @WD_q _ _ _ _ _ _ _ _ 2 2 [] (by kernel_rfl) rfl trivial ?_
            refine @WD_end _ _ _ _ _ _ _ _ hB [2, 3, 8, 9, 10] [(2, 1), (3, 1), (31, 1)] ⟨[(2, .pt (.l 2 1) 0), (3, .pt (.l 3 1) 0), (8, slA e_value_Value a0), (9, .it .i64 (a0.length : Int)), (10, .it .i64 (IntKind.i64.wrap (x3 + (1 : Int))))], [(2, ⟨58, 2, [.it .i64 (0 : Int), .sl true 0 []], true⟩), (3, ⟨58, 2, [.it .i64 (1 : Int), rwA 31 1 (([] : List T_agg_One) ++ ([(⟨x27, (⟨x34, x35⟩ : T_wide_Wide), (⟨x28, x29, x30⟩ : T_value_Value), (⟨x31, x32, x33⟩ : T_value_Value)⟩ : T_agg_One)] : List T_agg_One))], false⟩), (31, rwB 115 e_agg_One (([] : List T_agg_One) ++ ([(⟨x27, (⟨x34, x35⟩ : T_wide_Wide), (⟨x28, x29, x30⟩ : T_value_Value), (⟨x31, x32, x33⟩ : T_value_Value)⟩ : T_agg_One)] : List T_agg_One)))], H, n⟩ (by kernel_rfl) (by kernel_rfl) ?_
            refine sqn ?_
            rw [hX3] at h
            exact h _ (.inl (by show _ = _; kernel_rfl))
      · have h := h.2 b23
        refine WK_exit ?_
        refine sqx ?_
        refine sqx ?_
        refine bkx ?_
        refine sqn (hX2 ([] : List T_agg_One) _ h (.inr (⟨rfl, (by show _ = _; kernel_rfl)⟩)))
  · rintro c Q l1 _ (hk | ⟨hn_l1, hk⟩) hm
    · refine WK_keep hB hk ?_
      refine WK_keep hB (ts := [2, 3]) (ds := [2, 3, 31]) (ks' := ⟨[(2, .pt (.l 2 1) 0), (3, .pt (.l 3 1) 0)], [(2, ⟨58, 2, [.it .i64 (0 : Int), .sl true 0 []], true⟩), (3, ⟨58, 2, [.it .i64 (1 : Int), rwA 31 1 l1], false⟩), (31, rwB 115 e_agg_One l1)], H, n⟩) (by kernel_rfl) ?_
      refine WK_pub hB (s := 31) (ts := [2, 3]) (ds := [2, 3]) (C := [(cl e_agg_One l1).length = l1.length * 9]) (ks' := ⟨[(2, .pt (.l 2 1) 0), (3, .pt (.l 3 1) 0)], [(2, ⟨58, 2, [.it .i64 (0 : Int), .sl true 0 []], true⟩), (3, ⟨58, 2, [.it .i64 (1 : Int), slA e_agg_One l1], true⟩)], H, n⟩) (by kernel_rfl) ⟨cl_len e_agg_One l1, trivial⟩ ?_
      exact hm
    · subst hn_l1
      refine WK_keep hB hk ?_
      refine WK_weakB hB 3 [2, 3] [2, 3] (ks' := ⟨[(2, .pt (.l 2 1) 0), (3, .pt (.l 3 1) 0)], [(2, ⟨58, 2, [.it .i64 (0 : Int), .sl true 0 []], true⟩), (3, ⟨58, 2, [.it .i64 (1 : Int), slA e_agg_One ([] : List T_agg_One)], true⟩)], H, n⟩) (by kernel_rfl) ?_
      exact hm
  · rintro l1 h
    replace h : agg_Of_J1 r l1 := h
    unfold agg_Of_J1 at h
    refine WK_seq ?_
    refine WK_ops ?_
    refine @WD_q _ _ _ _ _ _ _ _ 2 2 [] (by kernel_rfl) rfl trivial ?_
    refine @WD_end _ _ _ _ _ _ _ _ hB [2] [(2, 1)] ⟨[(2, .pt (.l 2 1) 0)], [(2, ⟨58, 2, [.it .i64 (1 : Int), slA e_agg_One l1], true⟩)], H, n⟩ (by kernel_rfl) (by kernel_rfl) ?_
    refine sqn ?_
    refine WK_ret ?_
    have hr : (⟨(1 : Int), l1⟩ : T_agg_Part) = r := h
    subst hr
    refine k_ret (u := .agg [.it .i64 (1 : Int), slA e_agg_One l1]) (by kernel_rfl) (by kernel_rfl) (by kernel_rfl) rfl rfl

def wide_Plus_J1 (r : T_wide_Wide) (x1 : Int) (x2 : Int) : Prop :=
  (⟨x1, x2⟩ : T_wide_Wide) = r
def wide_Plus_L3 (a0 : (List T_wide_Wide)) (r : T_wide_Wide) (X3 : Int → Int → Int → Prop) (x4 : Int) (x5 : Int) (x6 : Int) : Prop :=
  cnd (decide (x4 < (a0.length : Int))) (0 ≤ x4 ∧ ∃ y8 : T_wide_Wide, a0[x4.toNat]? = some y8 ∧ ∃ z11 : Int × Int, math_bits_Add64_o x6 y8.Lo (0 : Int) z11 ∧ X3 (IntKind.i64.wrap (x4 + (1 : Int))) (IntKind.i64.wrap ((IntKind.i64.wrap (x5 + y8.Hi)) + (IntKind.i64.wrap z11.2))) z11.1) (wide_Plus_J1 r x5 x6)
def wide_Plus_o (a0 : (List T_wide_Wide)) (r : T_wide_Wide) : Prop :=
  (a0.length ≤ maxLen → Lp3 (wide_Plus_L3 a0 r) (0 : Int) (0 : Int) (0 : Int))

set_option maxRecDepth 100000 in
set_option maxHeartbeats 1000000 in
theorem wide_Plus_ok {a0 : (List T_wide_Wide)} {r : T_wide_Wide}  (h : wide_Plus_o a0 r) : Pure Try.prog 77 [slA e_wide_Wide a0] (.agg [.it .i64 r.Hi, .it .u64 r.Lo]) := by
  refine pureK t77 (Nat.le_of_ble_eq_true rfl) (by kernel_rfl) fun B H n hB => ?_
  dsimp only [c77]
  unfold wide_Plus_o at h
  refine WK_conv (ks' := ⟨[(0, slA e_wide_Wide a0)], [], H, n⟩) (by kernel_rfl) ?_
  refine WK_seq ?_
  refine WK_ops ?_
  refine @WD_q _ _ _ _ _ _ _ _ 1 1 [] (by kernel_rfl) rfl trivial ?_
  refine @WD_end _ _ _ _ _ _ _ _ hB [0, 2] [(2, 2)] ⟨[(0, slA e_wide_Wide a0), (2, .pt (.l 2 1) 0)], [(2, ⟨113, 2, [.it .i64 (0 : Int), .it .u64 (0 : Int)], true⟩)], H, n⟩ (by kernel_rfl) (by kernel_rfl) ?_
  refine sqn ?_
  refine WK_seq ?_
  refine WK_ops ?_
  refine @WD_q _ _ _ _ _ _ _ _ 1 1 [] (by kernel_rfl) rfl trivial ?_
  refine @WD_end _ _ _ _ _ _ _ _ hB [0, 2, 3] [(2, 1), (3, 2)] ⟨[(0, slA e_wide_Wide a0), (2, .pt (.l 2 1) 0), (3, .pt (.l 3 1) 0)], [(2, ⟨113, 2, [.it .i64 (0 : Int), .it .u64 (0 : Int)], true⟩), (3, ⟨113, 2, [.it .i64 (0 : Int), .it .u64 (0 : Int)], true⟩)], H, n⟩ (by kernel_rfl) (by kernel_rfl) ?_
  refine sqn ?_
  refine WK_seqJ (σ := Int × Int) (fun ((x1, x2) : Int × Int) => wide_Plus_J1 r x1 x2) (fun ((x1, x2) : Int × Int) ks => ks.keep [2, 3] [2, 3] = ⟨[(2, .pt (.l 2 1) 0), (3, .pt (.l 3 1) 0)], [(2, ⟨113, 2, [.it .i64 (0 : Int), .it .u64 (0 : Int)], true⟩), (3, ⟨113, 2, [.it .i64 x1, .it .u64 x2], true⟩)], H, n⟩) (fun X hX2 => ?_) ?_
  · refine WK_seq ?_
    refine WK_ops ?_
    refine @WD_q _ _ _ _ _ _ _ _ 1 1 [] (by kernel_rfl) rfl trivial ?_
    refine @WD_len _ _ _ _ _ _ _ _ 8 a0.length false (cl e_wide_Wide a0) (by decide) (by kernel_rfl) (fun m3 => ?_)
    have h := h m3
    refine @WD_q _ _ _ _ _ _ _ _ 2 3 [] (by kernel_rfl) rfl trivial ?_
    refine @WD_end _ _ _ _ _ _ _ _ hB [2, 3, 8, 9, 10] [(2, 1), (3, 1)] ⟨[(2, .pt (.l 2 1) 0), (3, .pt (.l 3 1) 0), (8, slA e_wide_Wide a0), (9, .it .i64 (a0.length : Int)), (10, .it .i64 (0 : Int))], [(2, ⟨113, 2, [.it .i64 (0 : Int), .it .u64 (0 : Int)], true⟩), (3, ⟨113, 2, [.it .i64 (0 : Int), .it .u64 (0 : Int)], true⟩)], H, n⟩ (by kernel_rfl) (by kernel_rfl) ?_
    refine sqn ?_
    refine WK_block ?_
    refine WK_loop fun YX3 hYX3 => ?_
    obtain ⟨X3, hX3⟩ : ∃ q : Int → Int → Int → Prop, q = (fun (x4 : Int) (x5 : Int) (x6 : Int) => ∀ ks, (ks.keep [2, 3, 8, 9, 10] [2, 3] = ⟨[(2, .pt (.l 2 1) 0), (3, .pt (.l 3 1) 0), (8, slA e_wide_Wide a0), (9, .it .i64 (a0.length : Int)), (10, .it .i64 x4)], [(2, ⟨113, 2, [.it .i64 (0 : Int), .it .u64 (0 : Int)], true⟩), (3, ⟨113, 2, [.it .i64 x5, .it .u64 x6], true⟩)], H, n⟩) → YX3 ks) := ⟨_, rfl⟩
    suffices hs : X3 (0 : Int) (0 : Int) (0 : Int) by rw [hX3] at hs; exact hs _ (by show _ = _; kernel_rfl)
    refine h X3 (fun x4 x5 x6 h => ?_)
    rw [hX3]
    rintro _ hk
    refine hYX3 _ ?_
    unfold wide_Plus_L3 at h
    refine WK_keep hB hk ?_
    refine WK_seq ?_
    refine WK_ops ?_
    refine @WD_q _ _ _ _ _ _ _ _ 1 1 [] (by kernel_rfl) rfl trivial ?_
    refine @WD_end _ _ _ _ _ _ _ _ hB [2, 3, 8, 9, 10, 11] [(2, 1), (3, 1)] ⟨[(2, .pt (.l 2 1) 0), (3, .pt (.l 3 1) 0), (8, slA e_wide_Wide a0), (9, .it .i64 (a0.length : Int)), (10, .it .i64 x4), (11, .bl (decide (x4 < (a0.length : Int))))], [(2, ⟨113, 2, [.it .i64 (0 : Int), .it .u64 (0 : Int)], true⟩), (3, ⟨113, 2, [.it .i64 x5, .it .u64 x6], true⟩)], H, n⟩ (by kernel_rfl) (by kernel_rfl) ?_
    refine sqn ?_
    refine WK_seq ?_
    refine WK_cond (b := decide (x4 < (a0.length : Int))) (by kernel_rfl) (fun b7 => ?_) (fun b7 => ?_)
    · have h := h.1 b7
      refine WK_skip ?_
      refine sqn ?_
      refine WK_seq ?_
      refine WK_block ?_
      refine WK_seq ?_
      refine WK_ops ?_
      obtain ⟨i9, y8, y10, h⟩ := h
      refine @WD_q _ _ _ _ _ _ _ _ 1 1 [0 ≤ x4 ∧ x4 < a0.length] (by kernel_rfl) rfl ⟨⟨i9, lt_of_at i9 y10⟩, trivial⟩ ?_
      refine @WD_e _ _ _ _ _ _ _ _ ⟨some 13, none, .ld true 2 (.t 12)⟩ _ _ (by kernel_rfl) (by kernel_rfl) (fun hk => E_lde e_wide_Wide (x := (.t 12)) (l := a0) (y := y8) (off := x4.toNat * 2) (m := x4.toNat) (of := 0) (v := .agg [.it .i64 y8.Hi, .it .u64 y8.Lo]) hk (by kernel_rfl) (by kernel_rfl) y10 (by kernel_rfl)) rfl ?_
      refine @WD_q _ _ _ _ _ _ _ _ 2 4 [] (by kernel_rfl) rfl trivial ?_
      refine @WD_end _ _ _ _ _ _ _ _ hB [2, 3, 5, 8, 9, 10] [(2, 1), (3, 1), (5, 2)] ⟨[(2, .pt (.l 2 1) 0), (3, .pt (.l 3 1) 0), (5, .pt (.l 5 1) 0), (8, slA e_wide_Wide a0), (9, .it .i64 (a0.length : Int)), (10, .it .i64 x4)], [(2, ⟨113, 2, [.it .i64 (0 : Int), .it .u64 (0 : Int)], true⟩), (3, ⟨113, 2, [.it .i64 x5, .it .u64 x6], true⟩), (5, ⟨113, 2, [.it .i64 y8.Hi, .it .u64 y8.Lo], true⟩)], H, n⟩ (by kernel_rfl) (by kernel_rfl) ?_
      refine sqn ?_
      refine WK_seq ?_
      refine WK_ops ?_
      obtain ⟨z11, z12, h⟩ := h
      refine @WD_q _ _ _ _ _ _ _ _ 4 4 [] (by kernel_rfl) rfl trivial ?_
      refine @WD_c _ _ _ _ _ _ _ _ ⟨some 19, none, .call 93 [(.t 16), (.t 18), (.c (.it .u64 0))]⟩ 93 [.it .u64 x6, .it .u64 y8.Lo, .it .u64 (0 : Int)] [.it .u64 x6, .it .u64 y8.Lo, .it .u64 (0 : Int)] [.it .u64 x6, .it .u64 y8.Lo, .it .u64 (0 : Int)] [] (.tup [.it .u64 z11.1, .it .u64 z11.2]) (by kernel_rfl) (by kernel_rfl) (.inl ⟨[(.t 16), (.t 18), (.c (.it .u64 0))], rfl, by kernel_rfl⟩) (by kernel_rfl) (by kernel_rfl) (by kernel_rfl) (math_bits_Add64_ok z12) ?_
      refine @WD_q _ _ _ _ _ _ _ _ 5 10 [] (by kernel_rfl) rfl trivial ?_
      refine @WD_end _ _ _ _ _ _ _ _ hB [2, 3, 5, 6, 7, 8, 9, 10] [(2, 1), (3, 1), (5, 1)] ⟨[(2, .pt (.l 2 1) 0), (3, .pt (.l 3 1) 0), (5, .pt (.l 5 1) 0), (6, .it .u64 z11.1), (7, .it .u64 z11.2), (8, slA e_wide_Wide a0), (9, .it .i64 (a0.length : Int)), (10, .it .i64 x4)], [(2, ⟨113, 2, [.it .i64 (0 : Int), .it .u64 (0 : Int)], true⟩), (3, ⟨113, 2, [.it .i64 x5, .it .u64 x6], true⟩), (5, ⟨113, 2, [.it .i64 y8.Hi, .it .u64 y8.Lo], true⟩)], H, n⟩ (by kernel_rfl) (by kernel_rfl) ?_
      refine sqn ?_
      refine WK_ops ?_
      refine @WD_q _ _ _ _ _ _ _ _ 11 11 [] (by kernel_rfl) rfl trivial ?_
      refine @WD_end _ _ _ _ _ _ _ _ hB [2, 3, 8, 9, 10] [(2, 1), (3, 1)] ⟨[(2, .pt (.l 2 1) 0), (3, .pt (.l 3 1) 0), (8, slA e_wide_Wide a0), (9, .it .i64 (a0.length : Int)), (10, .it .i64 x4)], [(2, ⟨113, 2, [.it .i64 (0 : Int), .it .u64 (0 : Int)], true⟩), (3, ⟨113, 2, [.it .i64 (IntKind.i64.wrap ((IntKind.i64.wrap (x5 + y8.Hi)) + (IntKind.i64.wrap z11.2))), .it .u64 z11.1], true⟩)], H, n⟩ (by kernel_rfl) (by kernel_rfl) ?_
      refine bkn ?_
      refine sqn ?_
      refine WK_ops ?_
      refine @WD_q _ _ _ _ _ _ _ _ 2 2 [] (by kernel_rfl) rfl trivial ?_
      refine @WD_end _ _ _ _ _ _ _ _ hB [2, 3, 8, 9, 10] [(2, 1), (3, 1)] ⟨[(2, .pt (.l 2 1) 0), (3, .pt (.l 3 1) 0), (8, slA e_wide_Wide a0), (9, .it .i64 (a0.length : Int)), (10, .it .i64 (IntKind.i64.wrap (x4 + (1 : Int))))], [(2, ⟨113, 2, [.it .i64 (0 : Int), .it .u64 (0 : Int)], true⟩), (3, ⟨113, 2, [.it .i64 (IntKind.i64.wrap ((IntKind.i64.wrap (x5 + y8.Hi)) + (IntKind.i64.wrap z11.2))), .it .u64 z11.1], true⟩)], H, n⟩ (by kernel_rfl) (by kernel_rfl) ?_
      refine sqn ?_
      rw [hX3] at h
      exact h _ (by show _ = _; kernel_rfl)
    · have h := h.2 b7
      refine WK_exit ?_
      refine sqx ?_
      refine sqx ?_
      refine bkx ?_
      refine sqn (hX2 (x5, x6) _ h (by show _ = _; kernel_rfl))
  · rintro ⟨x1, x2⟩ _ h hk
    replace h : wide_Plus_J1 r x1 x2 := h
    unfold wide_Plus_J1 at h
    refine WK_keep hB hk ?_
    refine WK_seq ?_
    refine WK_ops ?_
    refine @WD_q _ _ _ _ _ _ _ _ 2 2 [] (by kernel_rfl) rfl trivial ?_
    refine @WD_end _ _ _ _ _ _ _ _ hB [2] [(2, 1)] ⟨[(2, .pt (.l 2 1) 0)], [(2, ⟨113, 2, [.it .i64 x1, .it .u64 x2], true⟩)], H, n⟩ (by kernel_rfl) (by kernel_rfl) ?_
    refine sqn ?_
    refine WK_ret ?_
    have hr : (⟨x1, x2⟩ : T_wide_Wide) = r := h
    subst hr
    refine k_ret (u := .agg [.it .i64 x1, .it .u64 x2]) (by kernel_rfl) (by kernel_rfl) (by kernel_rfl) rfl rfl

def cmp_isNaN_int_o (a0 : Int) (r : Bool) : Prop :=
  (!(a0 == a0)) = r

set_option maxRecDepth 100000 in
set_option maxHeartbeats 1000000 in
theorem cmp_isNaN_int_ok {a0 : Int} {r : Bool}  (h : cmp_isNaN_int_o a0 r) : Pure Try.prog 90 [.it .i64 a0] (.bl r) := by
  refine pureK t90 (Nat.le_of_ble_eq_true rfl) (by kernel_rfl) fun B H n hB => ?_
  dsimp only [c90]
  unfold cmp_isNaN_int_o at h
  refine WK_conv (ks' := ⟨[(0, .it .i64 a0)], [], H, n⟩) (by kernel_rfl) ?_
  refine WK_seq ?_
  refine WK_ops ?_
  refine @WD_q _ _ _ _ _ _ _ _ 1 1 [] (by kernel_rfl) rfl trivial ?_
  refine @WD_end _ _ _ _ _ _ _ _ hB [0] [] ⟨[(0, .it .i64 a0)], [], H, n⟩ (by kernel_rfl) (by kernel_rfl) ?_
  refine sqn ?_
  refine WK_seq ?_
  refine WK_ops ?_
  refine @WD_q _ _ _ _ _ _ _ _ 4 4 [] (by kernel_rfl) rfl trivial ?_
  refine @WD_end _ _ _ _ _ _ _ _ hB [2] [] ⟨[(2, .bl (!(a0 == a0)))], [], H, n⟩ (by kernel_rfl) (by kernel_rfl) ?_
  refine sqn ?_
  refine WK_ret ?_
  have hr : (!(a0 == a0)) = r := h
  subst hr
  refine k_ret (u := .bl (!(a0 == a0))) (by kernel_rfl) (by kernel_rfl) (by kernel_rfl) rfl rfl

def cmp_Compare_int_o (a0 : Int) (a1 : Int) (r : Int) : Prop :=
  ∃ z1 : Bool, cmp_isNaN_int_o a0 z1 ∧ ∃ z3 : Bool, cmp_isNaN_int_o a1 z3 ∧ cnd z1 (cnd z3 ((0 : Int) = r) ((-1 : Int) = r)) (cnd z3 ((1 : Int) = r) (cnd (decide (a0 < a1)) ((-1 : Int) = r) (cnd (decide (a1 < a0)) ((1 : Int) = r) ((0 : Int) = r))))

set_option maxRecDepth 100000 in
set_option maxHeartbeats 1000000 in
theorem cmp_Compare_int_ok {a0 : Int} {a1 : Int} {r : Int}  (h : cmp_Compare_int_o a0 a1 r) : Pure Try.prog 69 [.it .i64 a0, .it .i64 a1] (.it .i64 r) := by
  refine pureK t69 (Nat.le_of_ble_eq_true rfl) (by kernel_rfl) fun B H n hB => ?_
  dsimp only [c69]
  unfold cmp_Compare_int_o at h
  refine WK_conv (ks' := ⟨[(0, .it .i64 a0), (1, .it .i64 a1)], [], H, n⟩) (by kernel_rfl) ?_
  refine WK_seq ?_
  refine WK_ops ?_
  refine @WD_q _ _ _ _ _ _ _ _ 1 1 [] (by kernel_rfl) rfl trivial ?_
  refine @WD_end _ _ _ _ _ _ _ _ hB [0, 1] [] ⟨[(0, .it .i64 a0), (1, .it .i64 a1)], [], H, n⟩ (by kernel_rfl) (by kernel_rfl) ?_
  refine sqn ?_
  refine WK_seq ?_
  refine WK_ops ?_
  obtain ⟨z1, z2, h⟩ := h
  refine @WD_q _ _ _ _ _ _ _ _ 1 1 [] (by kernel_rfl) rfl trivial ?_
  refine @WD_c _ _ _ _ _ _ _ _ ⟨some 8, none, .call 90 [(.t 7)]⟩ 90 [.it .i64 a0] [.it .i64 a0] [.it .i64 a0] [] (.bl z1) (by kernel_rfl) (by kernel_rfl) (.inl ⟨[(.t 7)], rfl, by kernel_rfl⟩) (by kernel_rfl) (by kernel_rfl) (by kernel_rfl) (cmp_isNaN_int_ok z2) ?_
  refine @WD_q _ _ _ _ _ _ _ _ 1 3 [] (by kernel_rfl) rfl trivial ?_
  refine @WD_end _ _ _ _ _ _ _ _ hB [0, 1, 5] [] ⟨[(0, .it .i64 a0), (1, .it .i64 a1), (5, .bl z1)], [], H, n⟩ (by kernel_rfl) (by kernel_rfl) ?_
  refine sqn ?_
  refine WK_seq ?_
  refine WK_ops ?_
  obtain ⟨z3, z4, h⟩ := h
  refine @WD_q _ _ _ _ _ _ _ _ 1 1 [] (by kernel_rfl) rfl trivial ?_
  refine @WD_c _ _ _ _ _ _ _ _ ⟨some 10, none, .call 90 [(.t 9)]⟩ 90 [.it .i64 a1] [.it .i64 a1] [.it .i64 a1] [] (.bl z3) (by kernel_rfl) (by kernel_rfl) (.inl ⟨[(.t 9)], rfl, by kernel_rfl⟩) (by kernel_rfl) (by kernel_rfl) (by kernel_rfl) (cmp_isNaN_int_ok z4) ?_
  refine @WD_q _ _ _ _ _ _ _ _ 1 3 [] (by kernel_rfl) rfl trivial ?_
  refine @WD_end _ _ _ _ _ _ _ _ hB [0, 1, 5, 6] [] ⟨[(0, .it .i64 a0), (1, .it .i64 a1), (5, .bl z1), (6, .bl z3)], [], H, n⟩ (by kernel_rfl) (by kernel_rfl) ?_
  refine sqn ?_
  refine WK_seq ?_
  refine WK_seq ?_
  refine WK_ops ?_
  refine @WD_q _ _ _ _ _ _ _ _ 1 1 [] (by kernel_rfl) rfl trivial ?_
  refine @WD_end _ _ _ _ _ _ _ _ hB [0, 1, 6, 11] [] ⟨[(0, .it .i64 a0), (1, .it .i64 a1), (6, .bl z3), (11, .bl z1)], [], H, n⟩ (by kernel_rfl) (by kernel_rfl) ?_
  refine sqn ?_
  refine WK_cond (b := z1) (by kernel_rfl) (fun b5 => ?_) (fun b5 => ?_)
  · have h := h.1 b5
    refine WK_seq ?_
    refine WK_seq ?_
    refine WK_ops ?_
    refine @WD_q _ _ _ _ _ _ _ _ 1 1 [] (by kernel_rfl) rfl trivial ?_
    refine @WD_end _ _ _ _ _ _ _ _ hB [12] [] ⟨[(12, .bl z3)], [], H, n⟩ (by kernel_rfl) (by kernel_rfl) ?_
    refine sqn ?_
    refine WK_cond (b := z3) (by kernel_rfl) (fun b6 => ?_) (fun b6 => ?_)
    · have h := h.1 b6
      refine WK_seq ?_
      refine WK_ops ?_
      refine @WD_q _ _ _ _ _ _ _ _ 1 1 [] (by kernel_rfl) rfl trivial ?_
      refine @WD_end _ _ _ _ _ _ _ _ hB [4] [] ⟨[(4, .it .i64 (0 : Int))], [], H, n⟩ (by kernel_rfl) (by kernel_rfl) ?_
      refine sqn ?_
      refine WK_ret ?_
      refine sqr ?_
      refine sqr ?_
      have hr : (0 : Int) = r := h
      subst hr
      refine k_ret (u := .it .i64 (0 : Int)) (by kernel_rfl) (by kernel_rfl) (by kernel_rfl) rfl rfl
    · have h := h.2 b6
      refine WK_skip ?_
      refine sqn ?_
      refine WK_seq ?_
      refine WK_ops ?_
      refine @WD_q _ _ _ _ _ _ _ _ 1 1 [] (by kernel_rfl) rfl trivial ?_
      refine @WD_end _ _ _ _ _ _ _ _ hB [4] [] ⟨[(4, .it .i64 (-1 : Int))], [], H, n⟩ (by kernel_rfl) (by kernel_rfl) ?_
      refine sqn ?_
      refine WK_ret ?_
      refine sqr ?_
      have hr : (-1 : Int) = r := h
      subst hr
      refine k_ret (u := .it .i64 (-1 : Int)) (by kernel_rfl) (by kernel_rfl) (by kernel_rfl) rfl rfl
  · have h := h.2 b5
    refine WK_skip ?_
    refine sqn ?_
    refine WK_seq ?_
    refine WK_seq ?_
    refine WK_ops ?_
    refine @WD_q _ _ _ _ _ _ _ _ 1 1 [] (by kernel_rfl) rfl trivial ?_
    refine @WD_end _ _ _ _ _ _ _ _ hB [0, 1, 13] [] ⟨[(0, .it .i64 a0), (1, .it .i64 a1), (13, .bl z3)], [], H, n⟩ (by kernel_rfl) (by kernel_rfl) ?_
    refine sqn ?_
    refine WK_cond (b := z3) (by kernel_rfl) (fun b7 => ?_) (fun b7 => ?_)
    · have h := h.1 b7
      refine WK_seq ?_
      refine WK_ops ?_
      refine @WD_q _ _ _ _ _ _ _ _ 1 1 [] (by kernel_rfl) rfl trivial ?_
      refine @WD_end _ _ _ _ _ _ _ _ hB [4] [] ⟨[(4, .it .i64 (1 : Int))], [], H, n⟩ (by kernel_rfl) (by kernel_rfl) ?_
      refine sqn ?_
      refine WK_ret ?_
      refine sqr ?_
      have hr : (1 : Int) = r := h
      subst hr
      refine k_ret (u := .it .i64 (1 : Int)) (by kernel_rfl) (by kernel_rfl) (by kernel_rfl) rfl rfl
    · have h := h.2 b7
      refine WK_skip ?_
      refine sqn ?_
      refine WK_seq ?_
      refine WK_seq ?_
      refine WK_ops ?_
      refine @WD_q _ _ _ _ _ _ _ _ 3 3 [] (by kernel_rfl) rfl trivial ?_
      refine @WD_end _ _ _ _ _ _ _ _ hB [0, 1, 16] [] ⟨[(0, .it .i64 a0), (1, .it .i64 a1), (16, .bl (decide (a0 < a1)))], [], H, n⟩ (by kernel_rfl) (by kernel_rfl) ?_
      refine sqn ?_
      refine WK_cond (b := decide (a0 < a1)) (by kernel_rfl) (fun b8 => ?_) (fun b8 => ?_)
      · have h := h.1 b8
        refine WK_seq ?_
        refine WK_ops ?_
        refine @WD_q _ _ _ _ _ _ _ _ 1 1 [] (by kernel_rfl) rfl trivial ?_
        refine @WD_end _ _ _ _ _ _ _ _ hB [4] [] ⟨[(4, .it .i64 (-1 : Int))], [], H, n⟩ (by kernel_rfl) (by kernel_rfl) ?_
        refine sqn ?_
        refine WK_ret ?_
        refine sqr ?_
        have hr : (-1 : Int) = r := h
        subst hr
        refine k_ret (u := .it .i64 (-1 : Int)) (by kernel_rfl) (by kernel_rfl) (by kernel_rfl) rfl rfl
      · have h := h.2 b8
        refine WK_skip ?_
        refine sqn ?_
        refine WK_seq ?_
        refine WK_seq ?_
        refine WK_ops ?_
        refine @WD_q _ _ _ _ _ _ _ _ 3 3 [] (by kernel_rfl) rfl trivial ?_
        refine @WD_end _ _ _ _ _ _ _ _ hB [19] [] ⟨[(19, .bl (decide (a1 < a0)))], [], H, n⟩ (by kernel_rfl) (by kernel_rfl) ?_
        refine sqn ?_
        refine WK_cond (b := decide (a1 < a0)) (by kernel_rfl) (fun b9 => ?_) (fun b9 => ?_)
        · have h := h.1 b9
          refine WK_seq ?_
          refine WK_ops ?_
          refine @WD_q _ _ _ _ _ _ _ _ 1 1 [] (by kernel_rfl) rfl trivial ?_
          refine @WD_end _ _ _ _ _ _ _ _ hB [4] [] ⟨[(4, .it .i64 (1 : Int))], [], H, n⟩ (by kernel_rfl) (by kernel_rfl) ?_
          refine sqn ?_
          refine WK_ret ?_
          refine sqr ?_
          have hr : (1 : Int) = r := h
          subst hr
          refine k_ret (u := .it .i64 (1 : Int)) (by kernel_rfl) (by kernel_rfl) (by kernel_rfl) rfl rfl
        · have h := h.2 b9
          refine WK_skip ?_
          refine sqn ?_
          refine WK_seq ?_
          refine WK_ops ?_
          refine @WD_q _ _ _ _ _ _ _ _ 1 1 [] (by kernel_rfl) rfl trivial ?_
          refine @WD_end _ _ _ _ _ _ _ _ hB [4] [] ⟨[(4, .it .i64 (0 : Int))], [], H, n⟩ (by kernel_rfl) (by kernel_rfl) ?_
          refine sqn ?_
          refine WK_ret ?_
          have hr : (0 : Int) = r := h
          subst hr
          refine k_ret (u := .it .i64 (0 : Int)) (by kernel_rfl) (by kernel_rfl) (by kernel_rfl) rfl rfl

def cmp_isNaN_int64_o (a0 : Int) (r : Bool) : Prop :=
  (!(a0 == a0)) = r

set_option maxRecDepth 100000 in
set_option maxHeartbeats 1000000 in
theorem cmp_isNaN_int64_ok {a0 : Int} {r : Bool}  (h : cmp_isNaN_int64_o a0 r) : Pure Try.prog 91 [.it .i64 a0] (.bl r) := by
  refine pureK t91 (Nat.le_of_ble_eq_true rfl) (by kernel_rfl) fun B H n hB => ?_
  dsimp only [c91]
  unfold cmp_isNaN_int64_o at h
  refine WK_conv (ks' := ⟨[(0, .it .i64 a0)], [], H, n⟩) (by kernel_rfl) ?_
  refine WK_seq ?_
  refine WK_ops ?_
  refine @WD_q _ _ _ _ _ _ _ _ 1 1 [] (by kernel_rfl) rfl trivial ?_
  refine @WD_end _ _ _ _ _ _ _ _ hB [0] [] ⟨[(0, .it .i64 a0)], [], H, n⟩ (by kernel_rfl) (by kernel_rfl) ?_
  refine sqn ?_
  refine WK_seq ?_
  refine WK_ops ?_
  refine @WD_q _ _ _ _ _ _ _ _ 4 4 [] (by kernel_rfl) rfl trivial ?_
  refine @WD_end _ _ _ _ _ _ _ _ hB [2] [] ⟨[(2, .bl (!(a0 == a0)))], [], H, n⟩ (by kernel_rfl) (by kernel_rfl) ?_
  refine sqn ?_
  refine WK_ret ?_
  have hr : (!(a0 == a0)) = r := h
  subst hr
  refine k_ret (u := .bl (!(a0 == a0))) (by kernel_rfl) (by kernel_rfl) (by kernel_rfl) rfl rfl

def cmp_Compare_int64_o (a0 : Int) (a1 : Int) (r : Int) : Prop :=
  ∃ z1 : Bool, cmp_isNaN_int64_o a0 z1 ∧ ∃ z3 : Bool, cmp_isNaN_int64_o a1 z3 ∧ cnd z1 (cnd z3 ((0 : Int) = r) ((-1 : Int) = r)) (cnd z3 ((1 : Int) = r) (cnd (decide (a0 < a1)) ((-1 : Int) = r) (cnd (decide (a1 < a0)) ((1 : Int) = r) ((0 : Int) = r))))

set_option maxRecDepth 100000 in
set_option maxHeartbeats 1000000 in
theorem cmp_Compare_int64_ok {a0 : Int} {a1 : Int} {r : Int}  (h : cmp_Compare_int64_o a0 a1 r) : Pure Try.prog 70 [.it .i64 a0, .it .i64 a1] (.it .i64 r) := by
  refine pureK t70 (Nat.le_of_ble_eq_true rfl) (by kernel_rfl) fun B H n hB => ?_
  dsimp only [c70]
  unfold cmp_Compare_int64_o at h
  refine WK_conv (ks' := ⟨[(0, .it .i64 a0), (1, .it .i64 a1)], [], H, n⟩) (by kernel_rfl) ?_
  refine WK_seq ?_
  refine WK_ops ?_
  refine @WD_q _ _ _ _ _ _ _ _ 1 1 [] (by kernel_rfl) rfl trivial ?_
  refine @WD_end _ _ _ _ _ _ _ _ hB [0, 1] [] ⟨[(0, .it .i64 a0), (1, .it .i64 a1)], [], H, n⟩ (by kernel_rfl) (by kernel_rfl) ?_
  refine sqn ?_
  refine WK_seq ?_
  refine WK_ops ?_
  obtain ⟨z1, z2, h⟩ := h
  refine @WD_q _ _ _ _ _ _ _ _ 1 1 [] (by kernel_rfl) rfl trivial ?_
  refine @WD_c _ _ _ _ _ _ _ _ ⟨some 8, none, .call 91 [(.t 7)]⟩ 91 [.it .i64 a0] [.it .i64 a0] [.it .i64 a0] [] (.bl z1) (by kernel_rfl) (by kernel_rfl) (.inl ⟨[(.t 7)], rfl, by kernel_rfl⟩) (by kernel_rfl) (by kernel_rfl) (by kernel_rfl) (cmp_isNaN_int64_ok z2) ?_
  refine @WD_q _ _ _ _ _ _ _ _ 1 3 [] (by kernel_rfl) rfl trivial ?_
  refine @WD_end _ _ _ _ _ _ _ _ hB [0, 1, 5] [] ⟨[(0, .it .i64 a0), (1, .it .i64 a1), (5, .bl z1)], [], H, n⟩ (by kernel_rfl) (by kernel_rfl) ?_
  refine sqn ?_
  refine WK_seq ?_
  refine WK_ops ?_
  obtain ⟨z3, z4, h⟩ := h
  refine @WD_q _ _ _ _ _ _ _ _ 1 1 [] (by kernel_rfl) rfl trivial ?_
  refine @WD_c _ _ _ _ _ _ _ _ ⟨some 10, none, .call 91 [(.t 9)]⟩ 91 [.it .i64 a1] [.it .i64 a1] [.it .i64 a1] [] (.bl z3) (by kernel_rfl) (by kernel_rfl) (.inl ⟨[(.t 9)], rfl, by kernel_rfl⟩) (by kernel_rfl) (by kernel_rfl) (by kernel_rfl) (cmp_isNaN_int64_ok z4) ?_
  refine @WD_q _ _ _ _ _ _ _ _ 1 3 [] (by kernel_rfl) rfl trivial ?_
  refine @WD_end _ _ _ _ _ _ _ _ hB [0, 1, 5, 6] [] ⟨[(0, .it .i64 a0), (1, .it .i64 a1), (5, .bl z1), (6, .bl z3)], [], H, n⟩ (by kernel_rfl) (by kernel_rfl) ?_
  refine sqn ?_
  refine WK_seq ?_
  refine WK_seq ?_
  refine WK_ops ?_
  refine @WD_q _ _ _ _ _ _ _ _ 1 1 [] (by kernel_rfl) rfl trivial ?_
  refine @WD_end _ _ _ _ _ _ _ _ hB [0, 1, 6, 11] [] ⟨[(0, .it .i64 a0), (1, .it .i64 a1), (6, .bl z3), (11, .bl z1)], [], H, n⟩ (by kernel_rfl) (by kernel_rfl) ?_
  refine sqn ?_
  refine WK_cond (b := z1) (by kernel_rfl) (fun b5 => ?_) (fun b5 => ?_)
  · have h := h.1 b5
    refine WK_seq ?_
    refine WK_seq ?_
    refine WK_ops ?_
    refine @WD_q _ _ _ _ _ _ _ _ 1 1 [] (by kernel_rfl) rfl trivial ?_
    refine @WD_end _ _ _ _ _ _ _ _ hB [12] [] ⟨[(12, .bl z3)], [], H, n⟩ (by kernel_rfl) (by kernel_rfl) ?_
    refine sqn ?_
    refine WK_cond (b := z3) (by kernel_rfl) (fun b6 => ?_) (fun b6 => ?_)
    · have h := h.1 b6
      refine WK_seq ?_
      refine WK_ops ?_
      refine @WD_q _ _ _ _ _ _ _ _ 1 1 [] (by kernel_rfl) rfl trivial ?_
      refine @WD_end _ _ _ _ _ _ _ _ hB [4] [] ⟨[(4, .it .i64 (0 : Int))], [], H, n⟩ (by kernel_rfl) (by kernel_rfl) ?_
      refine sqn ?_
      refine WK_ret ?_
      refine sqr ?_
      refine sqr ?_
      have hr : (0 : Int) = r := h
      subst hr
      refine k_ret (u := .it .i64 (0 : Int)) (by kernel_rfl) (by kernel_rfl) (by kernel_rfl) rfl rfl
    · have h := h.2 b6
      refine WK_skip ?_
      refine sqn ?_
      refine WK_seq ?_
      refine WK_ops ?_
      refine @WD_q _ _ _ _ _ _ _ _ 1 1 [] (by kernel_rfl) rfl trivial ?_
      refine @WD_end _ _ _ _ _ _ _ _ hB [4] [] ⟨[(4, .it .i64 (-1 : Int))], [], H, n⟩ (by kernel_rfl) (by kernel_rfl) ?_
      refine sqn ?_
      refine WK_ret ?_
      refine sqr ?_
      have hr : (-1 : Int) = r := h
      subst hr
      refine k_ret (u := .it .i64 (-1 : Int)) (by kernel_rfl) (by kernel_rfl) (by kernel_rfl) rfl rfl
  · have h := h.2 b5
    refine WK_skip ?_
    refine sqn ?_
    refine WK_seq ?_
    refine WK_seq ?_
    refine WK_ops ?_
    refine @WD_q _ _ _ _ _ _ _ _ 1 1 [] (by kernel_rfl) rfl trivial ?_
    refine @WD_end _ _ _ _ _ _ _ _ hB [0, 1, 13] [] ⟨[(0, .it .i64 a0), (1, .it .i64 a1), (13, .bl z3)], [], H, n⟩ (by kernel_rfl) (by kernel_rfl) ?_
    refine sqn ?_
    refine WK_cond (b := z3) (by kernel_rfl) (fun b7 => ?_) (fun b7 => ?_)
    · have h := h.1 b7
      refine WK_seq ?_
      refine WK_ops ?_
      refine @WD_q _ _ _ _ _ _ _ _ 1 1 [] (by kernel_rfl) rfl trivial ?_
      refine @WD_end _ _ _ _ _ _ _ _ hB [4] [] ⟨[(4, .it .i64 (1 : Int))], [], H, n⟩ (by kernel_rfl) (by kernel_rfl) ?_
      refine sqn ?_
      refine WK_ret ?_
      refine sqr ?_
      have hr : (1 : Int) = r := h
      subst hr
      refine k_ret (u := .it .i64 (1 : Int)) (by kernel_rfl) (by kernel_rfl) (by kernel_rfl) rfl rfl
    · have h := h.2 b7
      refine WK_skip ?_
      refine sqn ?_
      refine WK_seq ?_
      refine WK_seq ?_
      refine WK_ops ?_
      refine @WD_q _ _ _ _ _ _ _ _ 3 3 [] (by kernel_rfl) rfl trivial ?_
      refine @WD_end _ _ _ _ _ _ _ _ hB [0, 1, 16] [] ⟨[(0, .it .i64 a0), (1, .it .i64 a1), (16, .bl (decide (a0 < a1)))], [], H, n⟩ (by kernel_rfl) (by kernel_rfl) ?_
      refine sqn ?_
      refine WK_cond (b := decide (a0 < a1)) (by kernel_rfl) (fun b8 => ?_) (fun b8 => ?_)
      · have h := h.1 b8
        refine WK_seq ?_
        refine WK_ops ?_
        refine @WD_q _ _ _ _ _ _ _ _ 1 1 [] (by kernel_rfl) rfl trivial ?_
        refine @WD_end _ _ _ _ _ _ _ _ hB [4] [] ⟨[(4, .it .i64 (-1 : Int))], [], H, n⟩ (by kernel_rfl) (by kernel_rfl) ?_
        refine sqn ?_
        refine WK_ret ?_
        refine sqr ?_
        have hr : (-1 : Int) = r := h
        subst hr
        refine k_ret (u := .it .i64 (-1 : Int)) (by kernel_rfl) (by kernel_rfl) (by kernel_rfl) rfl rfl
      · have h := h.2 b8
        refine WK_skip ?_
        refine sqn ?_
        refine WK_seq ?_
        refine WK_seq ?_
        refine WK_ops ?_
        refine @WD_q _ _ _ _ _ _ _ _ 3 3 [] (by kernel_rfl) rfl trivial ?_
        refine @WD_end _ _ _ _ _ _ _ _ hB [19] [] ⟨[(19, .bl (decide (a1 < a0)))], [], H, n⟩ (by kernel_rfl) (by kernel_rfl) ?_
        refine sqn ?_
        refine WK_cond (b := decide (a1 < a0)) (by kernel_rfl) (fun b9 => ?_) (fun b9 => ?_)
        · have h := h.1 b9
          refine WK_seq ?_
          refine WK_ops ?_
          refine @WD_q _ _ _ _ _ _ _ _ 1 1 [] (by kernel_rfl) rfl trivial ?_
          refine @WD_end _ _ _ _ _ _ _ _ hB [4] [] ⟨[(4, .it .i64 (1 : Int))], [], H, n⟩ (by kernel_rfl) (by kernel_rfl) ?_
          refine sqn ?_
          refine WK_ret ?_
          refine sqr ?_
          have hr : (1 : Int) = r := h
          subst hr
          refine k_ret (u := .it .i64 (1 : Int)) (by kernel_rfl) (by kernel_rfl) (by kernel_rfl) rfl rfl
        · have h := h.2 b9
          refine WK_skip ?_
          refine sqn ?_
          refine WK_seq ?_
          refine WK_ops ?_
          refine @WD_q _ _ _ _ _ _ _ _ 1 1 [] (by kernel_rfl) rfl trivial ?_
          refine @WD_end _ _ _ _ _ _ _ _ hB [4] [] ⟨[(4, .it .i64 (0 : Int))], [], H, n⟩ (by kernel_rfl) (by kernel_rfl) ?_
          refine sqn ?_
          refine WK_ret ?_
          have hr : (0 : Int) = r := h
          subst hr
          refine k_ret (u := .it .i64 (0 : Int)) (by kernel_rfl) (by kernel_rfl) (by kernel_rfl) rfl rfl

def cmp_isNaN_string_o (a0 : Str) (r : Bool) : Prop :=
  (!(a0 == a0)) = r

set_option maxRecDepth 100000 in
set_option maxHeartbeats 1000000 in
theorem cmp_isNaN_string_ok {a0 : Str} {r : Bool}  (h : cmp_isNaN_string_o a0 r) : Pure Try.prog 92 [.st a0] (.bl r) := by
  refine pureK t92 (Nat.le_of_ble_eq_true rfl) (by kernel_rfl) fun B H n hB => ?_
  dsimp only [c92]
  unfold cmp_isNaN_string_o at h
  refine WK_conv (ks' := ⟨[(0, .st a0)], [], H, n⟩) (by kernel_rfl) ?_
  refine WK_seq ?_
  refine WK_ops ?_
  refine @WD_q _ _ _ _ _ _ _ _ 1 1 [] (by kernel_rfl) rfl trivial ?_
  refine @WD_end _ _ _ _ _ _ _ _ hB [0] [] ⟨[(0, .st a0)], [], H, n⟩ (by kernel_rfl) (by kernel_rfl) ?_
  refine sqn ?_
  refine WK_seq ?_
  refine WK_ops ?_
  refine @WD_q _ _ _ _ _ _ _ _ 4 4 [] (by kernel_rfl) rfl trivial ?_
  refine @WD_end _ _ _ _ _ _ _ _ hB [2] [] ⟨[(2, .bl (!(a0 == a0)))], [], H, n⟩ (by kernel_rfl) (by kernel_rfl) ?_
  refine sqn ?_
  refine WK_ret ?_
  have hr : (!(a0 == a0)) = r := h
  subst hr
  refine k_ret (u := .bl (!(a0 == a0))) (by kernel_rfl) (by kernel_rfl) (by kernel_rfl) rfl rfl

def cmp_Compare_string_o (a0 : Str) (a1 : Str) (r : Int) : Prop :=
  ∃ z1 : Bool, cmp_isNaN_string_o a0 z1 ∧ ∃ z3 : Bool, cmp_isNaN_string_o a1 z3 ∧ cnd z1 (cnd z3 ((0 : Int) = r) ((-1 : Int) = r)) (cnd z3 ((1 : Int) = r) (cnd (Op.bytesLess a0 a1) ((-1 : Int) = r) (cnd (!(Op.bytesLess a0 a1 || a0 == a1)) ((1 : Int) = r) ((0 : Int) = r))))

set_option maxRecDepth 100000 in
set_option maxHeartbeats 1000000 in
theorem cmp_Compare_string_ok {a0 : Str} {a1 : Str} {r : Int}  (h : cmp_Compare_string_o a0 a1 r) : Pure Try.prog 71 [.st a0, .st a1] (.it .i64 r) := by
  refine pureK t71 (Nat.le_of_ble_eq_true rfl) (by kernel_rfl) fun B H n hB => ?_
  dsimp only [c71]
  unfold cmp_Compare_string_o at h
  refine WK_conv (ks' := ⟨[(0, .st a0), (1, .st a1)], [], H, n⟩) (by kernel_rfl) ?_
  refine WK_seq ?_
  refine WK_ops ?_
  refine @WD_q _ _ _ _ _ _ _ _ 1 1 [] (by kernel_rfl) rfl trivial ?_
  refine @WD_end _ _ _ _ _ _ _ _ hB [0, 1] [] ⟨[(0, .st a0), (1, .st a1)], [], H, n⟩ (by kernel_rfl) (by kernel_rfl) ?_
  refine sqn ?_
  refine WK_seq ?_
  refine WK_ops ?_
  obtain ⟨z1, z2, h⟩ := h
  refine @WD_q _ _ _ _ _ _ _ _ 1 1 [] (by kernel_rfl) rfl trivial ?_
  refine @WD_c _ _ _ _ _ _ _ _ ⟨some 8, none, .call 92 [(.t 7)]⟩ 92 [.st a0] [.st a0] [.st a0] [] (.bl z1) (by kernel_rfl) (by kernel_rfl) (.inl ⟨[(.t 7)], rfl, by kernel_rfl⟩) (by kernel_rfl) (by kernel_rfl) (by kernel_rfl) (cmp_isNaN_string_ok z2) ?_
  refine @WD_q _ _ _ _ _ _ _ _ 1 3 [] (by kernel_rfl) rfl trivial ?_
  refine @WD_end _ _ _ _ _ _ _ _ hB [0, 1, 5] [] ⟨[(0, .st a0), (1, .st a1), (5, .bl z1)], [], H, n⟩ (by kernel_rfl) (by kernel_rfl) ?_
  refine sqn ?_
  refine WK_seq ?_
  refine WK_ops ?_
  obtain ⟨z3, z4, h⟩ := h
  refine @WD_q _ _ _ _ _ _ _ _ 1 1 [] (by kernel_rfl) rfl trivial ?_
  refine @WD_c _ _ _ _ _ _ _ _ ⟨some 10, none, .call 92 [(.t 9)]⟩ 92 [.st a1] [.st a1] [.st a1] [] (.bl z3) (by kernel_rfl) (by kernel_rfl) (.inl ⟨[(.t 9)], rfl, by kernel_rfl⟩) (by kernel_rfl) (by kernel_rfl) (by kernel_rfl) (cmp_isNaN_string_ok z4) ?_
  refine @WD_q _ _ _ _ _ _ _ _ 1 3 [] (by kernel_rfl) rfl trivial ?_
  refine @WD_end _ _ _ _ _ _ _ _ hB [0, 1, 5, 6] [] ⟨[(0, .st a0), (1, .st a1), (5, .bl z1), (6, .bl z3)], [], H, n⟩ (by kernel_rfl) (by kernel_rfl) ?_
  refine sqn ?_
  refine WK_seq ?_
  refine WK_seq ?_
  refine WK_ops ?_
  refine @WD_q _ _ _ _ _ _ _ _ 1 1 [] (by kernel_rfl) rfl trivial ?_
  refine @WD_end _ _ _ _ _ _ _ _ hB [0, 1, 6, 11] [] ⟨[(0, .st a0), (1, .st a1), (6, .bl z3), (11, .bl z1)], [], H, n⟩ (by kernel_rfl) (by kernel_rfl) ?_
  refine sqn ?_
  refine WK_cond (b := z1) (by kernel_rfl) (fun b5 => ?_) (fun b5 => ?_)
  · have h := h.1 b5
    refine WK_seq ?_
    refine WK_seq ?_
    refine WK_ops ?_
    refine @WD_q _ _ _ _ _ _ _ _ 1 1 [] (by kernel_rfl) rfl trivial ?_
    refine @WD_end _ _ _ _ _ _ _ _ hB [12] [] ⟨[(12, .bl z3)], [], H, n⟩ (by kernel_rfl) (by kernel_rfl) ?_
    refine sqn ?_
    refine WK_cond (b := z3) (by kernel_rfl) (fun b6 => ?_) (fun b6 => ?_)
    · have h := h.1 b6
      refine WK_seq ?_
      refine WK_ops ?_
      refine @WD_q _ _ _ _ _ _ _ _ 1 1 [] (by kernel_rfl) rfl trivial ?_
      refine @WD_end _ _ _ _ _ _ _ _ hB [4] [] ⟨[(4, .it .i64 (0 : Int))], [], H, n⟩ (by kernel_rfl) (by kernel_rfl) ?_
      refine sqn ?_
      refine WK_ret ?_
      refine sqr ?_
      refine sqr ?_
      have hr : (0 : Int) = r := h
      subst hr
      refine k_ret (u := .it .i64 (0 : Int)) (by kernel_rfl) (by kernel_rfl) (by kernel_rfl) rfl rfl
    · have h := h.2 b6
      refine WK_skip ?_
      refine sqn ?_
      refine WK_seq ?_
      refine WK_ops ?_
      refine @WD_q _ _ _ _ _ _ _ _ 1 1 [] (by kernel_rfl) rfl trivial ?_
      refine @WD_end _ _ _ _ _ _ _ _ hB [4] [] ⟨[(4, .it .i64 (-1 : Int))], [], H, n⟩ (by kernel_rfl) (by kernel_rfl) ?_
      refine sqn ?_
      refine WK_ret ?_
      refine sqr ?_
      have hr : (-1 : Int) = r := h
      subst hr
      refine k_ret (u := .it .i64 (-1 : Int)) (by kernel_rfl) (by kernel_rfl) (by kernel_rfl) rfl rfl
  · have h := h.2 b5
    refine WK_skip ?_
    refine sqn ?_
    refine WK_seq ?_
    refine WK_seq ?_
    refine WK_ops ?_
    refine @WD_q _ _ _ _ _ _ _ _ 1 1 [] (by kernel_rfl) rfl trivial ?_
    refine @WD_end _ _ _ _ _ _ _ _ hB [0, 1, 13] [] ⟨[(0, .st a0), (1, .st a1), (13, .bl z3)], [], H, n⟩ (by kernel_rfl) (by kernel_rfl) ?_
    refine sqn ?_
    refine WK_cond (b := z3) (by kernel_rfl) (fun b7 => ?_) (fun b7 => ?_)
    · have h := h.1 b7
      refine WK_seq ?_
      refine WK_ops ?_
      refine @WD_q _ _ _ _ _ _ _ _ 1 1 [] (by kernel_rfl) rfl trivial ?_
      refine @WD_end _ _ _ _ _ _ _ _ hB [4] [] ⟨[(4, .it .i64 (1 : Int))], [], H, n⟩ (by kernel_rfl) (by kernel_rfl) ?_
      refine sqn ?_
      refine WK_ret ?_
      refine sqr ?_
      have hr : (1 : Int) = r := h
      subst hr
      refine k_ret (u := .it .i64 (1 : Int)) (by kernel_rfl) (by kernel_rfl) (by kernel_rfl) rfl rfl
    · have h := h.2 b7
      refine WK_skip ?_
      refine sqn ?_
      refine WK_seq ?_
      refine WK_seq ?_
      refine WK_ops ?_
      refine @WD_q _ _ _ _ _ _ _ _ 3 3 [] (by kernel_rfl) rfl trivial ?_
      refine @WD_end _ _ _ _ _ _ _ _ hB [0, 1, 16] [] ⟨[(0, .st a0), (1, .st a1), (16, .bl (Op.bytesLess a0 a1))], [], H, n⟩ (by kernel_rfl) (by kernel_rfl) ?_
      refine sqn ?_
      refine WK_cond (b := Op.bytesLess a0 a1) (by kernel_rfl) (fun b8 => ?_) (fun b8 => ?_)
      · have h := h.1 b8
        refine WK_seq ?_
        refine WK_ops ?_
        refine @WD_q _ _ _ _ _ _ _ _ 1 1 [] (by kernel_rfl) rfl trivial ?_
        refine @WD_end _ _ _ _ _ _ _ _ hB [4] [] ⟨[(4, .it .i64 (-1 : Int))], [], H, n⟩ (by kernel_rfl) (by kernel_rfl) ?_
        refine sqn ?_
        refine WK_ret ?_
        refine sqr ?_
        have hr : (-1 : Int) = r := h
        subst hr
        refine k_ret (u := .it .i64 (-1 : Int)) (by kernel_rfl) (by kernel_rfl) (by kernel_rfl) rfl rfl
      · have h := h.2 b8
        refine WK_skip ?_
        refine sqn ?_
        refine WK_seq ?_
        refine WK_seq ?_
        refine WK_ops ?_
        refine @WD_q _ _ _ _ _ _ _ _ 3 3 [] (by kernel_rfl) rfl trivial ?_
        refine @WD_end _ _ _ _ _ _ _ _ hB [19] [] ⟨[(19, .bl (!(Op.bytesLess a0 a1 || a0 == a1)))], [], H, n⟩ (by kernel_rfl) (by kernel_rfl) ?_
        refine sqn ?_
        refine WK_cond (b := !(Op.bytesLess a0 a1 || a0 == a1)) (by kernel_rfl) (fun b9 => ?_) (fun b9 => ?_)
        · have h := h.1 b9
          refine WK_seq ?_
          refine WK_ops ?_
          refine @WD_q _ _ _ _ _ _ _ _ 1 1 [] (by kernel_rfl) rfl trivial ?_
          refine @WD_end _ _ _ _ _ _ _ _ hB [4] [] ⟨[(4, .it .i64 (1 : Int))], [], H, n⟩ (by kernel_rfl) (by kernel_rfl) ?_
          refine sqn ?_
          refine WK_ret ?_
          refine sqr ?_
          have hr : (1 : Int) = r := h
          subst hr
          refine k_ret (u := .it .i64 (1 : Int)) (by kernel_rfl) (by kernel_rfl) (by kernel_rfl) rfl rfl
        · have h := h.2 b9
          refine WK_skip ?_
          refine sqn ?_
          refine WK_seq ?_
          refine WK_ops ?_
          refine @WD_q _ _ _ _ _ _ _ _ 1 1 [] (by kernel_rfl) rfl trivial ?_
          refine @WD_end _ _ _ _ _ _ _ _ hB [4] [] ⟨[(4, .it .i64 (0 : Int))], [], H, n⟩ (by kernel_rfl) (by kernel_rfl) ?_
          refine sqn ?_
          refine WK_ret ?_
          have hr : (0 : Int) = r := h
          subst hr
          refine k_ret (u := .it .i64 (0 : Int)) (by kernel_rfl) (by kernel_rfl) (by kernel_rfl) rfl rfl

def cmp_Or_int_J1 (r : Int) : Prop :=
  (0 : Int) = r
def cmp_Or_int_L3 (a0 : (List Int)) (r : Int) (X3 : Int → Prop) (x2 : Int) : Prop :=
  cnd (decide (x2 < (a0.length : Int))) (0 ≤ x2 ∧ ∃ y4 : Int, a0[x2.toNat]? = some y4 ∧ cnd (!(y4 == (0 : Int))) (y4 = r) (X3 (IntKind.i64.wrap (x2 + (1 : Int))))) (cmp_Or_int_J1 r)
def cmp_Or_int_o (a0 : (List Int)) (r : Int) : Prop :=
  (a0.length ≤ maxLen → Lp1 (cmp_Or_int_L3 a0 r) (0 : Int))

set_option maxRecDepth 100000 in
set_option maxHeartbeats 1000000 in
theorem cmp_Or_int_ok {a0 : (List Int)} {r : Int}  (h : cmp_Or_int_o a0 r) : Pure Try.prog 68 [slA (eI .i64) a0] (.it .i64 r) := by
  refine pureK t68 (Nat.le_of_ble_eq_true rfl) (by kernel_rfl) fun B H n hB => ?_
  dsimp only [c68]
  unfold cmp_Or_int_o at h
  refine WK_conv (ks' := ⟨[(0, slA (eI .i64) a0)], [], H, n⟩) (by kernel_rfl) ?_
  refine WK_seq ?_
  refine WK_ops ?_
  refine @WD_q _ _ _ _ _ _ _ _ 1 1 [] (by kernel_rfl) rfl trivial ?_
  refine @WD_end _ _ _ _ _ _ _ _ hB [0] [] ⟨[(0, slA (eI .i64) a0)], [], H, n⟩ (by kernel_rfl) (by kernel_rfl) ?_
  refine sqn ?_
  refine WK_seq ?_
  refine WK_ops ?_
  refine @WD_q _ _ _ _ _ _ _ _ 1 1 [] (by kernel_rfl) rfl trivial ?_
  refine @WD_end _ _ _ _ _ _ _ _ hB [0, 3] [] ⟨[(0, slA (eI .i64) a0), (3, .it .i64 (0 : Int))], [], H, n⟩ (by kernel_rfl) (by kernel_rfl) ?_
  refine sqn ?_
  refine WK_seqJ (σ := Unit) (fun (_ : Unit) => cmp_Or_int_J1 r) (fun (_ : Unit) ks => ks.keep [3] [] = ⟨[(3, .it .i64 (0 : Int))], [], H, n⟩) (fun X hX2 => ?_) ?_
  · refine WK_seq ?_
    refine WK_ops ?_
    refine @WD_q _ _ _ _ _ _ _ _ 1 1 [] (by kernel_rfl) rfl trivial ?_
    refine @WD_len _ _ _ _ _ _ _ _ 6 a0.length false (cl (eI .i64) a0) (by decide) (by kernel_rfl) (fun m1 => ?_)
    have h := h m1
    refine @WD_q _ _ _ _ _ _ _ _ 2 3 [] (by kernel_rfl) rfl trivial ?_
    refine @WD_end _ _ _ _ _ _ _ _ hB [3, 6, 7, 8] [] ⟨[(3, .it .i64 (0 : Int)), (6, slA (eI .i64) a0), (7, .it .i64 (a0.length : Int)), (8, .it .i64 (0 : Int))], [], H, n⟩ (by kernel_rfl) (by kernel_rfl) ?_
    refine sqn ?_
    refine WK_block ?_
    refine WK_loop fun YX3 hYX3 => ?_
    obtain ⟨X3, hX3⟩ : ∃ q : Int → Prop, q = (fun (x2 : Int) => ∀ ks, (ks.keep [3, 6, 7, 8] [] = ⟨[(3, .it .i64 (0 : Int)), (6, slA (eI .i64) a0), (7, .it .i64 (a0.length : Int)), (8, .it .i64 x2)], [], H, n⟩) → YX3 ks) := ⟨_, rfl⟩
    suffices hs : X3 (0 : Int) by rw [hX3] at hs; exact hs _ (by show _ = _; kernel_rfl)
    refine h X3 (fun x2 h => ?_)
    rw [hX3]
    rintro _ hk
    refine hYX3 _ ?_
    unfold cmp_Or_int_L3 at h
    refine WK_keep hB hk ?_
    refine WK_seq ?_
    refine WK_ops ?_
    refine @WD_q _ _ _ _ _ _ _ _ 1 1 [] (by kernel_rfl) rfl trivial ?_
    refine @WD_end _ _ _ _ _ _ _ _ hB [3, 6, 7, 8, 9] [] ⟨[(3, .it .i64 (0 : Int)), (6, slA (eI .i64) a0), (7, .it .i64 (a0.length : Int)), (8, .it .i64 x2), (9, .bl (decide (x2 < (a0.length : Int))))], [], H, n⟩ (by kernel_rfl) (by kernel_rfl) ?_
    refine sqn ?_
    refine WK_seq ?_
    refine WK_cond (b := decide (x2 < (a0.length : Int))) (by kernel_rfl) (fun b3 => ?_) (fun b3 => ?_)
    · have h := h.1 b3
      refine WK_skip ?_
      refine sqn ?_
      refine WK_seq ?_
      refine WK_block ?_
      refine WK_seq ?_
      refine WK_ops ?_
      obtain ⟨i5, y4, y6, h⟩ := h
      refine @WD_q _ _ _ _ _ _ _ _ 1 1 [0 ≤ x2 ∧ x2 < a0.length] (by kernel_rfl) rfl ⟨⟨i5, lt_of_at i5 y6⟩, trivial⟩ ?_
      refine @WD_e _ _ _ _ _ _ _ _ ⟨some 11, none, .ld false 1 (.t 10)⟩ _ _ (by kernel_rfl) (by kernel_rfl) (fun hk => E_lde (eI .i64) (x := (.t 10)) (l := a0) (y := y4) (off := x2.toNat * 1) (m := x2.toNat) (of := 0) (v := .it .i64 y4) hk (by kernel_rfl) (by kernel_rfl) y6 (by kernel_rfl)) rfl ?_
      refine @WD_q _ _ _ _ _ _ _ _ 1 3 [] (by kernel_rfl) rfl trivial ?_
      refine @WD_end _ _ _ _ _ _ _ _ hB [3, 5, 6, 7, 8] [] ⟨[(3, .it .i64 (0 : Int)), (5, .it .i64 y4), (6, slA (eI .i64) a0), (7, .it .i64 (a0.length : Int)), (8, .it .i64 x2)], [], H, n⟩ (by kernel_rfl) (by kernel_rfl) ?_
      refine sqn ?_
      refine WK_seq ?_
      refine WK_ops ?_
      refine @WD_q _ _ _ _ _ _ _ _ 3 3 [] (by kernel_rfl) rfl trivial ?_
      refine @WD_end _ _ _ _ _ _ _ _ hB [3, 5, 6, 7, 8, 14] [] ⟨[(3, .it .i64 (0 : Int)), (5, .it .i64 y4), (6, slA (eI .i64) a0), (7, .it .i64 (a0.length : Int)), (8, .it .i64 x2), (14, .bl (!(y4 == (0 : Int))))], [], H, n⟩ (by kernel_rfl) (by kernel_rfl) ?_
      refine sqn ?_
      refine WK_cond (b := !(y4 == (0 : Int))) (by kernel_rfl) (fun b7 => ?_) (fun b7 => ?_)
      · have h := h.1 b7
        refine WK_seq ?_
        refine WK_ops ?_
        refine @WD_q _ _ _ _ _ _ _ _ 2 2 [] (by kernel_rfl) rfl trivial ?_
        refine @WD_end _ _ _ _ _ _ _ _ hB [2] [] ⟨[(2, .it .i64 y4)], [], H, n⟩ (by kernel_rfl) (by kernel_rfl) ?_
        refine sqn ?_
        refine WK_ret ?_
        refine bkr ?_
        refine sqr ?_
        refine sqr ?_
        refine bkr ?_
        refine sqr ?_
        have hr : y4 = r := h
        subst hr
        refine k_ret (u := .it .i64 y4) (by kernel_rfl) (by kernel_rfl) (by kernel_rfl) rfl rfl
      · have h := h.2 b7
        refine WK_skip ?_
        refine bkn ?_
        refine sqn ?_
        refine WK_ops ?_
        refine @WD_q _ _ _ _ _ _ _ _ 2 2 [] (by kernel_rfl) rfl trivial ?_
        refine @WD_end _ _ _ _ _ _ _ _ hB [3, 6, 7, 8] [] ⟨[(3, .it .i64 (0 : Int)), (6, slA (eI .i64) a0), (7, .it .i64 (a0.length : Int)), (8, .it .i64 (IntKind.i64.wrap (x2 + (1 : Int))))], [], H, n⟩ (by kernel_rfl) (by kernel_rfl) ?_
        refine sqn ?_
        rw [hX3] at h
        exact h _ (by show _ = _; kernel_rfl)
    · have h := h.2 b3
      refine WK_exit ?_
      refine sqx ?_
      refine sqx ?_
      refine bkx ?_
      refine sqn (hX2 () _ h (by show _ = _; kernel_rfl))
  · rintro _ _ h hk
    replace h : cmp_Or_int_J1 r := h
    unfold cmp_Or_int_J1 at h
    refine WK_keep hB hk ?_
    refine WK_seq ?_
    refine WK_ops ?_
    refine @WD_q _ _ _ _ _ _ _ _ 2 2 [] (by kernel_rfl) rfl trivial ?_
    refine @WD_end _ _ _ _ _ _ _ _ hB [2] [] ⟨[(2, .it .i64 (0 : Int))], [], H, n⟩ (by kernel_rfl) (by kernel_rfl) ?_
    refine sqn ?_
    refine WK_ret ?_
    have hr : (0 : Int) = r := h
    subst hr
    refine k_ret (u := .it .i64 (0 : Int)) (by kernel_rfl) (by kernel_rfl) (by kernel_rfl) rfl rfl

def value_Compare_o (a0 : T_value_Value) (a1 : T_value_Value) (r : Int) : Prop :=
  ∃ z1 : Int, cmp_Compare_int_o a0.Kind a1.Kind z1 ∧ ∃ z3 : Int, cmp_Compare_int64_o a0.N a1.N z3 ∧ ∃ z5 : Int, cmp_Compare_string_o a0.S a1.S z5 ∧ ∃ z7 : Int, cmp_Or_int_o ([z1, z3, z5] : List Int) z7 ∧ z7 = r

set_option maxRecDepth 100000 in
set_option maxHeartbeats 1000000 in
theorem value_Compare_ok {a0 : T_value_Value} {a1 : T_value_Value} {r : Int}  (h : value_Compare_o a0 a1 r) : Pure Try.prog 46 [.agg [.it .i64 a0.Kind, .it .i64 a0.N, .st a0.S], .agg [.it .i64 a1.Kind, .it .i64 a1.N, .st a1.S]] (.it .i64 r) := by
  refine pureK t46 (Nat.le_of_ble_eq_true rfl) (by kernel_rfl) fun B H n hB => ?_
  dsimp only [c46]
  unfold value_Compare_o at h
  refine WK_conv (ks' := ⟨[(0, .agg [.it .i64 a0.Kind, .it .i64 a0.N, .st a0.S]), (1, .agg [.it .i64 a1.Kind, .it .i64 a1.N, .st a1.S])], [], H, n⟩) (by kernel_rfl) ?_
  refine WK_seq ?_
  refine WK_ops ?_
  refine @WD_q _ _ _ _ _ _ _ _ 3 3 [] (by kernel_rfl) rfl trivial ?_
  refine @WD_end _ _ _ _ _ _ _ _ hB [2, 3] [(2, 2), (3, 2)] ⟨[(2, .pt (.l 2 1) 0), (3, .pt (.l 3 1) 0)], [(2, ⟨88, 3, [.it .i64 a0.Kind, .it .i64 a0.N, .st a0.S], true⟩), (3, ⟨88, 3, [.it .i64 a1.Kind, .it .i64 a1.N, .st a1.S], true⟩)], H, n⟩ (by kernel_rfl) (by kernel_rfl) ?_
  refine sqn ?_
  refine WK_seq ?_
  refine WK_drw ?_
  obtain ⟨z1, z2, h⟩ := h
  refine @DD_q _ _ _ _ _ _ 4 4 [] (by kernel_rfl) rfl trivial ?_
  refine @DD_c _ _ _ _ _ _ ⟨some 9, none, .call 69 [(.t 6), (.t 8)]⟩ [] 69 [.it .i64 a0.Kind, .it .i64 a1.Kind] [.it .i64 a0.Kind, .it .i64 a1.Kind] [.it .i64 a0.Kind, .it .i64 a1.Kind] [] (.it .i64 z1) (by kernel_rfl) (by kernel_rfl) (.inl ⟨[(.t 6), (.t 8)], rfl, by kernel_rfl⟩) (by kernel_rfl) (by kernel_rfl) (by kernel_rfl) (cmp_Compare_int_ok z2) (by kernel_rfl) ?_
  obtain ⟨z3, z4, h⟩ := h
  refine @DD_q _ _ _ _ _ _ 4 9 [] (by kernel_rfl) rfl trivial ?_
  refine @DD_c _ _ _ _ _ _ ⟨some 14, none, .call 70 [(.t 11), (.t 13)]⟩ [] 70 [.it .i64 a0.N, .it .i64 a1.N] [.it .i64 a0.N, .it .i64 a1.N] [.it .i64 a0.N, .it .i64 a1.N] [] (.it .i64 z3) (by kernel_rfl) (by kernel_rfl) (.inl ⟨[(.t 11), (.t 13)], rfl, by kernel_rfl⟩) (by kernel_rfl) (by kernel_rfl) (by kernel_rfl) (cmp_Compare_int64_ok z4) (by kernel_rfl) ?_
  obtain ⟨z5, z6, h⟩ := h
  refine @DD_q _ _ _ _ _ _ 4 14 [] (by kernel_rfl) rfl trivial ?_
  refine @DD_c _ _ _ _ _ _ ⟨some 19, none, .call 71 [(.t 16), (.t 18)]⟩ [] 71 [.st a0.S, .st a1.S] [.st a0.S, .st a1.S] [.st a0.S, .st a1.S] [] (.it .i64 z5) (by kernel_rfl) (by kernel_rfl) (.inl ⟨[(.t 16), (.t 18)], rfl, by kernel_rfl⟩) (by kernel_rfl) (by kernel_rfl) (by kernel_rfl) (cmp_Compare_string_ok z6) (by kernel_rfl) ?_
  obtain ⟨z7, z8, h⟩ := h
  refine @DD_q _ _ _ _ _ _ 1 16 [] (by kernel_rfl) rfl trivial ?_
  refine @DD_c _ _ _ _ _ _ ⟨some 21, none, .call 68 [(.t 20)]⟩ [] 68 [.gs (.l 20 2) 3] [slA (eI .i64) ([z1, z3, z5] : List Int)] [slA (eI .i64) ([z1, z3, z5] : List Int)] [(20, 2)] (.it .i64 z7) (by kernel_rfl) (by kernel_rfl) (.inl ⟨[(.t 20)], rfl, by kernel_rfl⟩) (by kernel_rfl) (by kernel_rfl) (by kernel_rfl) (cmp_Or_int_ok z8) (by kernel_rfl) ?_
  refine @DD_q _ _ _ _ _ _ 1 18 [] (by kernel_rfl) rfl trivial ?_
  refine @DD_end _ _ _ _ _ _ _ hB [4] [] ⟨[(4, .it .i64 z7)], [], H, n⟩ _ (by kernel_rfl) (by kernel_rfl) ?_
  refine sqn ?_
  refine WK_ret ?_
  have hr : z7 = r := h
  subst hr
  refine k_ret (u := .it .i64 z7) (by kernel_rfl) (by kernel_rfl) (by kernel_rfl) rfl rfl

def agg_One_plus_J2 (a0 : T_agg_One) (a1 : T_agg_One) (z3 : T_wide_Wide) (x5 : Int) (x6 : Int) (x7 : Str) (r : T_agg_One) (x8 : Int) (x9 : Int) (x10 : Str) : Prop :=
  (⟨IntKind.i64.wrap (a0.N + a1.N), z3, (⟨x5, x6, x7⟩ : T_value_Value), (⟨x8, x9, x10⟩ : T_value_Value)⟩ : T_agg_One) = r
def agg_One_plus_J1 (a1 : T_agg_One) (a0 : T_agg_One) (z3 : T_wide_Wide) (r : T_agg_One) (x5 : Int) (x6 : Int) (x7 : Str) : Prop :=
  ∃ z11 : Int, value_Compare_o (⟨a1.Max.Kind, a1.Max.N, a1.Max.S⟩ : T_value_Value) (⟨a0.Max.Kind, a0.Max.N, a0.Max.S⟩ : T_value_Value) z11 ∧ cnd (decide ((0 : Int) < z11)) (agg_One_plus_J2 a0 a1 z3 x5 x6 x7 r a1.Max.Kind a1.Max.N a1.Max.S) (agg_One_plus_J2 a0 a1 z3 x5 x6 x7 r a0.Max.Kind a0.Max.N a0.Max.S)
def agg_One_plus_o (a0 : T_agg_One) (a1 : T_agg_One) (r : T_agg_One) : Prop :=
  cnd (a0.N == (0 : Int)) ((⟨a1.N, (⟨a1.Sum.Hi, a1.Sum.Lo⟩ : T_wide_Wide), (⟨a1.Min.Kind, a1.Min.N, a1.Min.S⟩ : T_value_Value), (⟨a1.Max.Kind, a1.Max.N, a1.Max.S⟩ : T_value_Value)⟩ : T_agg_One) = r) (cnd (a1.N == (0 : Int)) ((⟨a0.N, (⟨a0.Sum.Hi, a0.Sum.Lo⟩ : T_wide_Wide), (⟨a0.Min.Kind, a0.Min.N, a0.Min.S⟩ : T_value_Value), (⟨a0.Max.Kind, a0.Max.N, a0.Max.S⟩ : T_value_Value)⟩ : T_agg_One) = r) (∃ z3 : T_wide_Wide, wide_Plus_o ([(⟨a0.Sum.Hi, a0.Sum.Lo⟩ : T_wide_Wide), (⟨a1.Sum.Hi, a1.Sum.Lo⟩ : T_wide_Wide)] : List T_wide_Wide) z3 ∧ ∃ z14 : Int, value_Compare_o (⟨a1.Min.Kind, a1.Min.N, a1.Min.S⟩ : T_value_Value) (⟨a0.Min.Kind, a0.Min.N, a0.Min.S⟩ : T_value_Value) z14 ∧ cnd (decide (z14 < (0 : Int))) (agg_One_plus_J1 a1 a0 z3 r a1.Min.Kind a1.Min.N a1.Min.S) (agg_One_plus_J1 a1 a0 z3 r a0.Min.Kind a0.Min.N a0.Min.S)))

set_option maxRecDepth 100000 in
set_option maxHeartbeats 1000000 in
theorem agg_One_plus_ok {a0 : T_agg_One} {a1 : T_agg_One} {r : T_agg_One}  (h : agg_One_plus_o a0 a1 r) : Pure Try.prog 53 [.agg [.it .i64 a0.N, .it .i64 a0.Sum.Hi, .it .u64 a0.Sum.Lo, .it .i64 a0.Min.Kind, .it .i64 a0.Min.N, .st a0.Min.S, .it .i64 a0.Max.Kind, .it .i64 a0.Max.N, .st a0.Max.S], .agg [.it .i64 a1.N, .it .i64 a1.Sum.Hi, .it .u64 a1.Sum.Lo, .it .i64 a1.Min.Kind, .it .i64 a1.Min.N, .st a1.Min.S, .it .i64 a1.Max.Kind, .it .i64 a1.Max.N, .st a1.Max.S]] (.agg [.it .i64 r.N, .it .i64 r.Sum.Hi, .it .u64 r.Sum.Lo, .it .i64 r.Min.Kind, .it .i64 r.Min.N, .st r.Min.S, .it .i64 r.Max.Kind, .it .i64 r.Max.N, .st r.Max.S]) := by
  refine pureK t53 (Nat.le_of_ble_eq_true rfl) (by kernel_rfl) fun B H n hB => ?_
  dsimp only [c53]
  unfold agg_One_plus_o at h
  refine WK_conv (ks' := ⟨[(0, .agg [.it .i64 a0.N, .it .i64 a0.Sum.Hi, .it .u64 a0.Sum.Lo, .it .i64 a0.Min.Kind, .it .i64 a0.Min.N, .st a0.Min.S, .it .i64 a0.Max.Kind, .it .i64 a0.Max.N, .st a0.Max.S]), (1, .agg [.it .i64 a1.N, .it .i64 a1.Sum.Hi, .it .u64 a1.Sum.Lo, .it .i64 a1.Min.Kind, .it .i64 a1.Min.N, .st a1.Min.S, .it .i64 a1.Max.Kind, .it .i64 a1.Max.N, .st a1.Max.S])], [], H, n⟩) (by kernel_rfl) ?_
  refine WK_seq ?_
  refine WK_ops ?_
  refine @WD_q _ _ _ _ _ _ _ _ 3 3 [] (by kernel_rfl) rfl trivial ?_
  refine @WD_end _ _ _ _ _ _ _ _ hB [2, 3, 4] [(2, 2), (3, 2), (4, 2)] ⟨[(2, .pt (.l 2 1) 0), (3, .pt (.l 3 1) 0), (4, .pt (.l 4 1) 0)], [(2, ⟨115, 9, [.it .i64 a0.N, .it .i64 a0.Sum.Hi, .it .u64 a0.Sum.Lo, .it .i64 a0.Min.Kind, .it .i64 a0.Min.N, .st a0.Min.S, .it .i64 a0.Max.Kind, .it .i64 a0.Max.N, .st a0.Max.S], true⟩), (3, ⟨115, 9, [.it .i64 a1.N, .it .i64 a1.Sum.Hi, .it .u64 a1.Sum.Lo, .it .i64 a1.Min.Kind, .it .i64 a1.Min.N, .st a1.Min.S, .it .i64 a1.Max.Kind, .it .i64 a1.Max.N, .st a1.Max.S], true⟩), (4, ⟨115, 9, [.it .i64 (0 : Int), .it .i64 (0 : Int), .it .u64 (0 : Int), .it .i64 (0 : Int), .it .i64 (0 : Int), .st ([] : Str), .it .i64 (0 : Int), .it .i64 (0 : Int), .st ([] : Str)], true⟩)], H, n⟩ (by kernel_rfl) (by kernel_rfl) ?_
  refine sqn ?_
  refine WK_seq ?_
  refine WK_block ?_
  refine WK_seq ?_
  refine WK_ops ?_
  refine @WD_q _ _ _ _ _ _ _ _ 4 4 [] (by kernel_rfl) rfl trivial ?_
  refine @WD_end _ _ _ _ _ _ _ _ hB [2, 3, 4, 6] [(2, 1), (3, 1), (4, 1)] ⟨[(2, .pt (.l 2 1) 0), (3, .pt (.l 3 1) 0), (4, .pt (.l 4 1) 0), (6, .bl (a0.N == (0 : Int)))], [(2, ⟨115, 9, [.it .i64 a0.N, .it .i64 a0.Sum.Hi, .it .u64 a0.Sum.Lo, .it .i64 a0.Min.Kind, .it .i64 a0.Min.N, .st a0.Min.S, .it .i64 a0.Max.Kind, .it .i64 a0.Max.N, .st a0.Max.S], true⟩), (3, ⟨115, 9, [.it .i64 a1.N, .it .i64 a1.Sum.Hi, .it .u64 a1.Sum.Lo, .it .i64 a1.Min.Kind, .it .i64 a1.Min.N, .st a1.Min.S, .it .i64 a1.Max.Kind, .it .i64 a1.Max.N, .st a1.Max.S], true⟩), (4, ⟨115, 9, [.it .i64 (0 : Int), .it .i64 (0 : Int), .it .u64 (0 : Int), .it .i64 (0 : Int), .it .i64 (0 : Int), .st ([] : Str), .it .i64 (0 : Int), .it .i64 (0 : Int), .st ([] : Str)], true⟩)], H, n⟩ (by kernel_rfl) (by kernel_rfl) ?_
  refine sqn ?_
  refine WK_cond (b := a0.N == (0 : Int)) (by kernel_rfl) (fun b1 => ?_) (fun b1 => ?_)
  · have h := h.1 b1
    refine WK_seq ?_
    refine WK_ops ?_
    refine @WD_q _ _ _ _ _ _ _ _ 2 2 [] (by kernel_rfl) rfl trivial ?_
    refine @WD_end _ _ _ _ _ _ _ _ hB [4] [(4, 1)] ⟨[(4, .pt (.l 4 1) 0)], [(4, ⟨115, 9, [.it .i64 a1.N, .it .i64 a1.Sum.Hi, .it .u64 a1.Sum.Lo, .it .i64 a1.Min.Kind, .it .i64 a1.Min.N, .st a1.Min.S, .it .i64 a1.Max.Kind, .it .i64 a1.Max.N, .st a1.Max.S], true⟩)], H, n⟩ (by kernel_rfl) (by kernel_rfl) ?_
    refine sqn ?_
    refine WK_ret ?_
    refine bkr ?_
    refine sqr ?_
    have hr : (⟨a1.N, (⟨a1.Sum.Hi, a1.Sum.Lo⟩ : T_wide_Wide), (⟨a1.Min.Kind, a1.Min.N, a1.Min.S⟩ : T_value_Value), (⟨a1.Max.Kind, a1.Max.N, a1.Max.S⟩ : T_value_Value)⟩ : T_agg_One) = r := h
    subst hr
    refine k_ret (u := .agg [.it .i64 a1.N, .it .i64 a1.Sum.Hi, .it .u64 a1.Sum.Lo, .it .i64 a1.Min.Kind, .it .i64 a1.Min.N, .st a1.Min.S, .it .i64 a1.Max.Kind, .it .i64 a1.Max.N, .st a1.Max.S]) (by kernel_rfl) (by kernel_rfl) (by kernel_rfl) rfl rfl
  · have h := h.2 b1
    refine WK_seq ?_
    refine WK_ops ?_
    refine @WD_q _ _ _ _ _ _ _ _ 4 4 [] (by kernel_rfl) rfl trivial ?_
    refine @WD_end _ _ _ _ _ _ _ _ hB [2, 3, 4, 11] [(2, 1), (3, 1), (4, 1)] ⟨[(2, .pt (.l 2 1) 0), (3, .pt (.l 3 1) 0), (4, .pt (.l 4 1) 0), (11, .bl (a1.N == (0 : Int)))], [(2, ⟨115, 9, [.it .i64 a0.N, .it .i64 a0.Sum.Hi, .it .u64 a0.Sum.Lo, .it .i64 a0.Min.Kind, .it .i64 a0.Min.N, .st a0.Min.S, .it .i64 a0.Max.Kind, .it .i64 a0.Max.N, .st a0.Max.S], true⟩), (3, ⟨115, 9, [.it .i64 a1.N, .it .i64 a1.Sum.Hi, .it .u64 a1.Sum.Lo, .it .i64 a1.Min.Kind, .it .i64 a1.Min.N, .st a1.Min.S, .it .i64 a1.Max.Kind, .it .i64 a1.Max.N, .st a1.Max.S], true⟩), (4, ⟨115, 9, [.it .i64 (0 : Int), .it .i64 (0 : Int), .it .u64 (0 : Int), .it .i64 (0 : Int), .it .i64 (0 : Int), .st ([] : Str), .it .i64 (0 : Int), .it .i64 (0 : Int), .st ([] : Str)], true⟩)], H, n⟩ (by kernel_rfl) (by kernel_rfl) ?_
    refine sqn ?_
    refine WK_cond (b := a1.N == (0 : Int)) (by kernel_rfl) (fun b2 => ?_) (fun b2 => ?_)
    · have h := h.1 b2
      refine WK_seq ?_
      refine WK_ops ?_
      refine @WD_q _ _ _ _ _ _ _ _ 2 2 [] (by kernel_rfl) rfl trivial ?_
      refine @WD_end _ _ _ _ _ _ _ _ hB [4] [(4, 1)] ⟨[(4, .pt (.l 4 1) 0)], [(4, ⟨115, 9, [.it .i64 a0.N, .it .i64 a0.Sum.Hi, .it .u64 a0.Sum.Lo, .it .i64 a0.Min.Kind, .it .i64 a0.Min.N, .st a0.Min.S, .it .i64 a0.Max.Kind, .it .i64 a0.Max.N, .st a0.Max.S], true⟩)], H, n⟩ (by kernel_rfl) (by kernel_rfl) ?_
      refine sqn ?_
      refine WK_ret ?_
      refine bkr ?_
      refine sqr ?_
      have hr : (⟨a0.N, (⟨a0.Sum.Hi, a0.Sum.Lo⟩ : T_wide_Wide), (⟨a0.Min.Kind, a0.Min.N, a0.Min.S⟩ : T_value_Value), (⟨a0.Max.Kind, a0.Max.N, a0.Max.S⟩ : T_value_Value)⟩ : T_agg_One) = r := h
      subst hr
      refine k_ret (u := .agg [.it .i64 a0.N, .it .i64 a0.Sum.Hi, .it .u64 a0.Sum.Lo, .it .i64 a0.Min.Kind, .it .i64 a0.Min.N, .st a0.Min.S, .it .i64 a0.Max.Kind, .it .i64 a0.Max.N, .st a0.Max.S]) (by kernel_rfl) (by kernel_rfl) (by kernel_rfl) rfl rfl
    · have h := h.2 b2
      refine WK_skip ?_
      refine bkn ?_
      refine sqn ?_
      refine WK_seq ?_
      refine WK_drw ?_
      obtain ⟨z3, z4, h⟩ := h
      refine @DD_q _ _ _ _ _ _ 10 10 [] (by kernel_rfl) rfl trivial ?_
      refine @DD_c _ _ _ _ _ _ ⟨some 26, none, .call 77 [(.t 25)]⟩ [0, 1, 2, 3, 4] 77 [.gs (.l 25 2) 2] [slA e_wide_Wide ([(⟨a0.Sum.Hi, a0.Sum.Lo⟩ : T_wide_Wide), (⟨a1.Sum.Hi, a1.Sum.Lo⟩ : T_wide_Wide)] : List T_wide_Wide)] [slA e_wide_Wide ([(⟨a0.Sum.Hi, a0.Sum.Lo⟩ : T_wide_Wide), (⟨a1.Sum.Hi, a1.Sum.Lo⟩ : T_wide_Wide)] : List T_wide_Wide)] [(25, 2)] (.agg [.it .i64 z3.Hi, .it .u64 z3.Lo]) (by kernel_rfl) (by kernel_rfl) (.inl ⟨[(.t 25)], rfl, by kernel_rfl⟩) (by kernel_rfl) (by kernel_rfl) (by kernel_rfl) (wide_Plus_ok z4) (by kernel_rfl) ?_
      refine @DD_q _ _ _ _ _ _ 7 18 [] (by kernel_rfl) rfl trivial ?_
      refine @DD_end _ _ _ _ _ _ _ hB [3, 4, 5] [(3, 1), (4, 1), (5, 2)] ⟨[(3, .pt (.l 3 1) 0), (4, .pt (.l 4 1) 0), (5, .pt (.l 5 1) 0)], [(3, ⟨115, 9, [.it .i64 a1.N, .it .i64 a1.Sum.Hi, .it .u64 a1.Sum.Lo, .it .i64 a1.Min.Kind, .it .i64 a1.Min.N, .st a1.Min.S, .it .i64 a1.Max.Kind, .it .i64 a1.Max.N, .st a1.Max.S], true⟩), (4, ⟨115, 9, [.it .i64 (0 : Int), .it .i64 (0 : Int), .it .u64 (0 : Int), .it .i64 (0 : Int), .it .i64 (0 : Int), .st ([] : Str), .it .i64 (0 : Int), .it .i64 (0 : Int), .st ([] : Str)], true⟩), (5, ⟨115, 9, [.it .i64 (IntKind.i64.wrap (a0.N + a1.N)), .it .i64 z3.Hi, .it .u64 z3.Lo, .it .i64 a0.Min.Kind, .it .i64 a0.Min.N, .st a0.Min.S, .it .i64 a0.Max.Kind, .it .i64 a0.Max.N, .st a0.Max.S], true⟩)], H, n⟩ _ (by kernel_rfl) (by kernel_rfl) ?_
      refine sqn ?_
      refine WK_seqJ (σ := Int × Int × Str) (fun ((x5, x6, x7) : Int × Int × Str) => agg_One_plus_J1 a1 a0 z3 r x5 x6 x7) (fun ((x5, x6, x7) : Int × Int × Str) ks => ks.keep [3, 4, 5] [3, 4, 5] = ⟨[(3, .pt (.l 3 1) 0), (4, .pt (.l 4 1) 0), (5, .pt (.l 5 1) 0)], [(3, ⟨115, 9, [.it .i64 a1.N, .it .i64 a1.Sum.Hi, .it .u64 a1.Sum.Lo, .it .i64 a1.Min.Kind, .it .i64 a1.Min.N, .st a1.Min.S, .it .i64 a1.Max.Kind, .it .i64 a1.Max.N, .st a1.Max.S], true⟩), (4, ⟨115, 9, [.it .i64 (0 : Int), .it .i64 (0 : Int), .it .u64 (0 : Int), .it .i64 (0 : Int), .it .i64 (0 : Int), .st ([] : Str), .it .i64 (0 : Int), .it .i64 (0 : Int), .st ([] : Str)], true⟩), (5, ⟨115, 9, [.it .i64 (IntKind.i64.wrap (a0.N + a1.N)), .it .i64 z3.Hi, .it .u64 z3.Lo, .it .i64 x5, .it .i64 x6, .st x7, .it .i64 a0.Max.Kind, .it .i64 a0.Max.N, .st a0.Max.S], true⟩)], H, n⟩) (fun X hX4 => ?_) ?_
      · refine WK_seq ?_
        refine WK_ops ?_
        obtain ⟨z14, z15, h⟩ := h
        refine @WD_q _ _ _ _ _ _ _ _ 4 4 [] (by kernel_rfl) rfl trivial ?_
        refine @WD_c _ _ _ _ _ _ _ _ ⟨some 36, none, .call 46 [(.t 33), (.t 35)]⟩ 46 [.agg [.it .i64 a1.Min.Kind, .it .i64 a1.Min.N, .st a1.Min.S], .agg [.it .i64 a0.Min.Kind, .it .i64 a0.Min.N, .st a0.Min.S]] [.agg [.it .i64 a1.Min.Kind, .it .i64 a1.Min.N, .st a1.Min.S], .agg [.it .i64 a0.Min.Kind, .it .i64 a0.Min.N, .st a0.Min.S]] [.agg [.it .i64 a1.Min.Kind, .it .i64 a1.Min.N, .st a1.Min.S], .agg [.it .i64 a0.Min.Kind, .it .i64 a0.Min.N, .st a0.Min.S]] [] (.it .i64 z14) (by kernel_rfl) (by kernel_rfl) (.inl ⟨[(.t 33), (.t 35)], rfl, by kernel_rfl⟩) (by kernel_rfl) (by kernel_rfl) (by kernel_rfl) (value_Compare_ok z15) ?_
        refine @WD_q _ _ _ _ _ _ _ _ 1 6 [] (by kernel_rfl) rfl trivial ?_
        refine @WD_end _ _ _ _ _ _ _ _ hB [3, 4, 5, 37] [(3, 1), (4, 1), (5, 1)] ⟨[(3, .pt (.l 3 1) 0), (4, .pt (.l 4 1) 0), (5, .pt (.l 5 1) 0), (37, .bl (decide (z14 < (0 : Int))))], [(3, ⟨115, 9, [.it .i64 a1.N, .it .i64 a1.Sum.Hi, .it .u64 a1.Sum.Lo, .it .i64 a1.Min.Kind, .it .i64 a1.Min.N, .st a1.Min.S, .it .i64 a1.Max.Kind, .it .i64 a1.Max.N, .st a1.Max.S], true⟩), (4, ⟨115, 9, [.it .i64 (0 : Int), .it .i64 (0 : Int), .it .u64 (0 : Int), .it .i64 (0 : Int), .it .i64 (0 : Int), .st ([] : Str), .it .i64 (0 : Int), .it .i64 (0 : Int), .st ([] : Str)], true⟩), (5, ⟨115, 9, [.it .i64 (IntKind.i64.wrap (a0.N + a1.N)), .it .i64 z3.Hi, .it .u64 z3.Lo, .it .i64 a0.Min.Kind, .it .i64 a0.Min.N, .st a0.Min.S, .it .i64 a0.Max.Kind, .it .i64 a0.Max.N, .st a0.Max.S], true⟩)], H, n⟩ (by kernel_rfl) (by kernel_rfl) ?_
        refine sqn ?_
        refine WK_cond (b := decide (z14 < (0 : Int))) (by kernel_rfl) (fun b16 => ?_) (fun b16 => ?_)
        · have h := h.1 b16
          refine WK_ops ?_
          refine @WD_q _ _ _ _ _ _ _ _ 4 4 [] (by kernel_rfl) rfl trivial ?_
          refine @WD_end _ _ _ _ _ _ _ _ hB [3, 4, 5] [(3, 1), (4, 1), (5, 1)] ⟨[(3, .pt (.l 3 1) 0), (4, .pt (.l 4 1) 0), (5, .pt (.l 5 1) 0)], [(3, ⟨115, 9, [.it .i64 a1.N, .it .i64 a1.Sum.Hi, .it .u64 a1.Sum.Lo, .it .i64 a1.Min.Kind, .it .i64 a1.Min.N, .st a1.Min.S, .it .i64 a1.Max.Kind, .it .i64 a1.Max.N, .st a1.Max.S], true⟩), (4, ⟨115, 9, [.it .i64 (0 : Int), .it .i64 (0 : Int), .it .u64 (0 : Int), .it .i64 (0 : Int), .it .i64 (0 : Int), .st ([] : Str), .it .i64 (0 : Int), .it .i64 (0 : Int), .st ([] : Str)], true⟩), (5, ⟨115, 9, [.it .i64 (IntKind.i64.wrap (a0.N + a1.N)), .it .i64 z3.Hi, .it .u64 z3.Lo, .it .i64 a1.Min.Kind, .it .i64 a1.Min.N, .st a1.Min.S, .it .i64 a0.Max.Kind, .it .i64 a0.Max.N, .st a0.Max.S], true⟩)], H, n⟩ (by kernel_rfl) (by kernel_rfl) ?_
          refine sqn (hX4 (a1.Min.Kind, a1.Min.N, a1.Min.S) _ h (by show _ = _; kernel_rfl))
        · have h := h.2 b16
          refine WK_skip ?_
          refine sqn (hX4 (a0.Min.Kind, a0.Min.N, a0.Min.S) _ h (by show _ = _; kernel_rfl))
      · rintro ⟨x5, x6, x7⟩ _ h hk
        replace h : agg_One_plus_J1 a1 a0 z3 r x5 x6 x7 := h
        unfold agg_One_plus_J1 at h
        refine WK_keep hB hk ?_
        refine WK_seqJ (σ := Int × Int × Str) (fun ((x8, x9, x10) : Int × Int × Str) => agg_One_plus_J2 a0 a1 z3 x5 x6 x7 r x8 x9 x10) (fun ((x8, x9, x10) : Int × Int × Str) ks => ks.keep [4, 5] [4, 5] = ⟨[(4, .pt (.l 4 1) 0), (5, .pt (.l 5 1) 0)], [(4, ⟨115, 9, [.it .i64 (0 : Int), .it .i64 (0 : Int), .it .u64 (0 : Int), .it .i64 (0 : Int), .it .i64 (0 : Int), .st ([] : Str), .it .i64 (0 : Int), .it .i64 (0 : Int), .st ([] : Str)], true⟩), (5, ⟨115, 9, [.it .i64 (IntKind.i64.wrap (a0.N + a1.N)), .it .i64 z3.Hi, .it .u64 z3.Lo, .it .i64 x5, .it .i64 x6, .st x7, .it .i64 x8, .it .i64 x9, .st x10], true⟩)], H, n⟩) (fun X hX3 => ?_) ?_
        · refine WK_seq ?_
          refine WK_ops ?_
          obtain ⟨z11, z12, h⟩ := h
          refine @WD_q _ _ _ _ _ _ _ _ 4 4 [] (by kernel_rfl) rfl trivial ?_
          refine @WD_c _ _ _ _ _ _ _ _ ⟨some 45, none, .call 46 [(.t 42), (.t 44)]⟩ 46 [.agg [.it .i64 a1.Max.Kind, .it .i64 a1.Max.N, .st a1.Max.S], .agg [.it .i64 a0.Max.Kind, .it .i64 a0.Max.N, .st a0.Max.S]] [.agg [.it .i64 a1.Max.Kind, .it .i64 a1.Max.N, .st a1.Max.S], .agg [.it .i64 a0.Max.Kind, .it .i64 a0.Max.N, .st a0.Max.S]] [.agg [.it .i64 a1.Max.Kind, .it .i64 a1.Max.N, .st a1.Max.S], .agg [.it .i64 a0.Max.Kind, .it .i64 a0.Max.N, .st a0.Max.S]] [] (.it .i64 z11) (by kernel_rfl) (by kernel_rfl) (.inl ⟨[(.t 42), (.t 44)], rfl, by kernel_rfl⟩) (by kernel_rfl) (by kernel_rfl) (by kernel_rfl) (value_Compare_ok z12) ?_
          refine @WD_q _ _ _ _ _ _ _ _ 1 6 [] (by kernel_rfl) rfl trivial ?_
          refine @WD_end _ _ _ _ _ _ _ _ hB [3, 4, 5, 46] [(3, 1), (4, 1), (5, 1)] ⟨[(3, .pt (.l 3 1) 0), (4, .pt (.l 4 1) 0), (5, .pt (.l 5 1) 0), (46, .bl (decide ((0 : Int) < z11)))], [(3, ⟨115, 9, [.it .i64 a1.N, .it .i64 a1.Sum.Hi, .it .u64 a1.Sum.Lo, .it .i64 a1.Min.Kind, .it .i64 a1.Min.N, .st a1.Min.S, .it .i64 a1.Max.Kind, .it .i64 a1.Max.N, .st a1.Max.S], true⟩), (4, ⟨115, 9, [.it .i64 (0 : Int), .it .i64 (0 : Int), .it .u64 (0 : Int), .it .i64 (0 : Int), .it .i64 (0 : Int), .st ([] : Str), .it .i64 (0 : Int), .it .i64 (0 : Int), .st ([] : Str)], true⟩), (5, ⟨115, 9, [.it .i64 (IntKind.i64.wrap (a0.N + a1.N)), .it .i64 z3.Hi, .it .u64 z3.Lo, .it .i64 x5, .it .i64 x6, .st x7, .it .i64 a0.Max.Kind, .it .i64 a0.Max.N, .st a0.Max.S], true⟩)], H, n⟩ (by kernel_rfl) (by kernel_rfl) ?_
          refine sqn ?_
          refine WK_cond (b := decide ((0 : Int) < z11)) (by kernel_rfl) (fun b13 => ?_) (fun b13 => ?_)
          · have h := h.1 b13
            refine WK_ops ?_
            refine @WD_q _ _ _ _ _ _ _ _ 4 4 [] (by kernel_rfl) rfl trivial ?_
            refine @WD_end _ _ _ _ _ _ _ _ hB [4, 5] [(4, 1), (5, 1)] ⟨[(4, .pt (.l 4 1) 0), (5, .pt (.l 5 1) 0)], [(4, ⟨115, 9, [.it .i64 (0 : Int), .it .i64 (0 : Int), .it .u64 (0 : Int), .it .i64 (0 : Int), .it .i64 (0 : Int), .st ([] : Str), .it .i64 (0 : Int), .it .i64 (0 : Int), .st ([] : Str)], true⟩), (5, ⟨115, 9, [.it .i64 (IntKind.i64.wrap (a0.N + a1.N)), .it .i64 z3.Hi, .it .u64 z3.Lo, .it .i64 x5, .it .i64 x6, .st x7, .it .i64 a1.Max.Kind, .it .i64 a1.Max.N, .st a1.Max.S], true⟩)], H, n⟩ (by kernel_rfl) (by kernel_rfl) ?_
            refine sqn (hX3 (a1.Max.Kind, a1.Max.N, a1.Max.S) _ h (by show _ = _; kernel_rfl))
          · have h := h.2 b13
            refine WK_skip ?_
            refine sqn (hX3 (a0.Max.Kind, a0.Max.N, a0.Max.S) _ h (by show _ = _; kernel_rfl))
        · rintro ⟨x8, x9, x10⟩ _ h hk
          replace h : agg_One_plus_J2 a0 a1 z3 x5 x6 x7 r x8 x9 x10 := h
          unfold agg_One_plus_J2 at h
          refine WK_keep hB hk ?_
          refine WK_seq ?_
          refine WK_ops ?_
          refine @WD_q _ _ _ _ _ _ _ _ 2 2 [] (by kernel_rfl) rfl trivial ?_
          refine @WD_end _ _ _ _ _ _ _ _ hB [4] [(4, 1)] ⟨[(4, .pt (.l 4 1) 0)], [(4, ⟨115, 9, [.it .i64 (IntKind.i64.wrap (a0.N + a1.N)), .it .i64 z3.Hi, .it .u64 z3.Lo, .it .i64 x5, .it .i64 x6, .st x7, .it .i64 x8, .it .i64 x9, .st x10], true⟩)], H, n⟩ (by kernel_rfl) (by kernel_rfl) ?_
          refine sqn ?_
          refine WK_ret ?_
          have hr : (⟨IntKind.i64.wrap (a0.N + a1.N), z3, (⟨x5, x6, x7⟩ : T_value_Value), (⟨x8, x9, x10⟩ : T_value_Value)⟩ : T_agg_One) = r := h
          subst hr
          refine k_ret (u := .agg [.it .i64 (IntKind.i64.wrap (a0.N + a1.N)), .it .i64 z3.Hi, .it .u64 z3.Lo, .it .i64 x5, .it .i64 x6, .st x7, .it .i64 x8, .it .i64 x9, .st x10]) (by kernel_rfl) (by kernel_rfl) (by kernel_rfl) rfl rfl

def agg_Plus_J1 (a0 : T_agg_Part) (a1 : T_agg_Part) (r : T_agg_Part) (l1 : (List T_agg_One)) : Prop :=
  (⟨IntKind.i64.wrap (a0.Rows + a1.Rows), l1⟩ : T_agg_Part) = r
def agg_Plus_L3 (a1 : T_agg_Part) (a0 : T_agg_Part) (r : T_agg_Part) (X3 : Int → (List T_agg_One) → Prop) (x4 : Int) (l5 : (List T_agg_One)) : Prop :=
  cnd (decide (x4 < (if (a1.L.length : Int) < (a0.L.length : Int) then (a1.L.length : Int) else (a0.L.length : Int)))) (0 ≤ x4 ∧ ∃ y7 : T_agg_One, a0.L[x4.toNat]? = some y7 ∧ 0 ≤ x4 ∧ ∃ y10 : T_agg_One, a1.L[x4.toNat]? = some y10 ∧ ∃ z13 : T_agg_One, agg_One_plus_o (⟨y7.N, (⟨y7.Sum.Hi, y7.Sum.Lo⟩ : T_wide_Wide), (⟨y7.Min.Kind, y7.Min.N, y7.Min.S⟩ : T_value_Value), (⟨y7.Max.Kind, y7.Max.N, y7.Max.S⟩ : T_value_Value)⟩ : T_agg_One) (⟨y10.N, (⟨y10.Sum.Hi, y10.Sum.Lo⟩ : T_wide_Wide), (⟨y10.Min.Kind, y10.Min.N, y10.Min.S⟩ : T_value_Value), (⟨y10.Max.Kind, y10.Max.N, y10.Max.S⟩ : T_value_Value)⟩ : T_agg_One) z13 ∧ (l5.length ≤ 1000000000) ∧ X3 (IntKind.i64.wrap (x4 + (1 : Int))) (l5 ++ ([(⟨z13.N, (⟨z13.Sum.Hi, z13.Sum.Lo⟩ : T_wide_Wide), (⟨z13.Min.Kind, z13.Min.N, z13.Min.S⟩ : T_value_Value), (⟨z13.Max.Kind, z13.Max.N, z13.Max.S⟩ : T_value_Value)⟩ : T_agg_One)] : List T_agg_One))) (agg_Plus_J1 a0 a1 r l5)
def agg_Plus_o (a0 : T_agg_Part) (a1 : T_agg_Part) (r : T_agg_Part) : Prop :=
  (a0.L.length ≤ maxLen → (a1.L.length ≤ maxLen → Lp2 (agg_Plus_L3 a1 a0 r) (0 : Int) ([] : List T_agg_One)))

set_option maxRecDepth 100000 in
set_option maxHeartbeats 1000000 in
theorem agg_Plus_ok {a0 : T_agg_Part} {a1 : T_agg_Part} {r : T_agg_Part}  (h : agg_Plus_o a0 a1 r) : Pure Try.prog 27 [.agg [.it .i64 a0.Rows, slA e_agg_One a0.L], .agg [.it .i64 a1.Rows, slA e_agg_One a1.L]] (.agg [.it .i64 r.Rows, slA e_agg_One r.L]) := by
  refine pureK t27 (Nat.le_of_ble_eq_true rfl) (by kernel_rfl) fun B H n hB => ?_
  dsimp only [c27]
  unfold agg_Plus_o at h
  refine WK_conv (ks' := ⟨[(0, .agg [.it .i64 a0.Rows, slA e_agg_One a0.L]), (1, .agg [.it .i64 a1.Rows, slA e_agg_One a1.L])], [], H, n⟩) (by kernel_rfl) ?_
  refine WK_seq ?_
  refine WK_ops ?_
  refine @WD_q _ _ _ _ _ _ _ _ 3 3 [] (by kernel_rfl) rfl trivial ?_
  refine @WD_end _ _ _ _ _ _ _ _ hB [2, 3, 4] [(2, 2), (3, 2), (4, 2)] ⟨[(2, .pt (.l 2 1) 0), (3, .pt (.l 3 1) 0), (4, .pt (.l 4 1) 0)], [(2, ⟨58, 2, [.it .i64 a0.Rows, slA e_agg_One a0.L], true⟩), (3, ⟨58, 2, [.it .i64 a1.Rows, slA e_agg_One a1.L], true⟩), (4, ⟨58, 2, [.it .i64 (0 : Int), .sl true 0 []], true⟩)], H, n⟩ (by kernel_rfl) (by kernel_rfl) ?_
  refine sqn ?_
  refine WK_seq ?_
  refine WK_ops ?_
  refine @WD_q _ _ _ _ _ _ _ _ 8 8 [] (by kernel_rfl) rfl trivial ?_
  refine @WD_end _ _ _ _ _ _ _ _ hB [2, 3, 4, 5] [(2, 1), (3, 1), (4, 1), (5, 2)] ⟨[(2, .pt (.l 2 1) 0), (3, .pt (.l 3 1) 0), (4, .pt (.l 4 1) 0), (5, .pt (.l 5 1) 0)], [(2, ⟨58, 2, [.it .i64 a0.Rows, slA e_agg_One a0.L], true⟩), (3, ⟨58, 2, [.it .i64 a1.Rows, slA e_agg_One a1.L], true⟩), (4, ⟨58, 2, [.it .i64 (0 : Int), .sl true 0 []], true⟩), (5, ⟨58, 2, [.it .i64 (IntKind.i64.wrap (a0.Rows + a1.Rows)), .sl true 0 []], true⟩)], H, n⟩ (by kernel_rfl) (by kernel_rfl) ?_
  refine sqn ?_
  refine WK_seqW (σ := (List T_agg_One)) (fun (l1 : (List T_agg_One)) => agg_Plus_J1 a0 a1 r l1) (fun (l1 : (List T_agg_One)) ks => (ks.keep [4, 5] [4, 5, 37] = ⟨[(4, .pt (.l 4 1) 0), (5, .pt (.l 5 1) 0)], [(4, ⟨58, 2, [.it .i64 (0 : Int), .sl true 0 []], true⟩), (5, ⟨58, 2, [.it .i64 (IntKind.i64.wrap (a0.Rows + a1.Rows)), rwA 37 1 l1], false⟩), (37, rwB 115 e_agg_One l1)], H, n⟩) ∨ (l1 = [] ∧ ks.keep [4, 5] [4, 5] = ⟨[(4, .pt (.l 4 1) 0), (5, .pt (.l 5 1) 0)], [(4, ⟨58, 2, [.it .i64 (0 : Int), .sl true 0 []], true⟩), (5, ⟨58, 2, [.it .i64 (IntKind.i64.wrap (a0.Rows + a1.Rows)), .sl true 0 []], true⟩)], H, n⟩)) (fun (l1 : (List T_agg_One)) => ⟨[(4, .pt (.l 4 1) 0), (5, .pt (.l 5 1) 0)], [(4, ⟨58, 2, [.it .i64 (0 : Int), .sl true 0 []], true⟩), (5, ⟨58, 2, [.it .i64 (IntKind.i64.wrap (a0.Rows + a1.Rows)), slA e_agg_One l1], true⟩)], H, n⟩) (fun X hX2 => ?_) ?_ ?_
  · refine WK_seq ?_
    refine WK_ops ?_
    refine @WD_q _ _ _ _ _ _ _ _ 2 2 [] (by kernel_rfl) rfl trivial ?_
    refine @WD_len _ _ _ _ _ _ _ _ 14 a0.L.length false (cl e_agg_One a0.L) (by decide) (by kernel_rfl) (fun m2 => ?_)
    have h := h m2
    refine @WD_q _ _ _ _ _ _ _ _ 3 5 [] (by kernel_rfl) rfl trivial ?_
    refine @WD_len _ _ _ _ _ _ _ _ 17 a1.L.length false (cl e_agg_One a1.L) (by decide) (by kernel_rfl) (fun m3 => ?_)
    have h := h m3
    refine @WD_q _ _ _ _ _ _ _ _ 3 8 [] (by kernel_rfl) rfl trivial ?_
    refine @WD_end _ _ _ _ _ _ _ _ hB [2, 3, 4, 5, 19, 20] [(2, 1), (3, 1), (4, 1), (5, 1)] ⟨[(2, .pt (.l 2 1) 0), (3, .pt (.l 3 1) 0), (4, .pt (.l 4 1) 0), (5, .pt (.l 5 1) 0), (19, .it .i64 (if (a1.L.length : Int) < (a0.L.length : Int) then (a1.L.length : Int) else (a0.L.length : Int))), (20, .it .i64 (0 : Int))], [(2, ⟨58, 2, [.it .i64 a0.Rows, slA e_agg_One a0.L], true⟩), (3, ⟨58, 2, [.it .i64 a1.Rows, slA e_agg_One a1.L], true⟩), (4, ⟨58, 2, [.it .i64 (0 : Int), .sl true 0 []], true⟩), (5, ⟨58, 2, [.it .i64 (IntKind.i64.wrap (a0.Rows + a1.Rows)), .sl true 0 []], true⟩)], H, n⟩ (by kernel_rfl) (by kernel_rfl) ?_
    refine sqn ?_
    refine WK_block ?_
    refine WK_loop fun YX3 hYX3 => ?_
    obtain ⟨X3, hX3⟩ : ∃ q : Int → (List T_agg_One) → Prop, q = (fun (x4 : Int) (l5 : (List T_agg_One)) => ∀ ks, ((ks.keep [2, 3, 4, 5, 19, 20] [2, 3, 4, 5, 37] = ⟨[(2, .pt (.l 2 1) 0), (3, .pt (.l 3 1) 0), (4, .pt (.l 4 1) 0), (5, .pt (.l 5 1) 0), (19, .it .i64 (if (a1.L.length : Int) < (a0.L.length : Int) then (a1.L.length : Int) else (a0.L.length : Int))), (20, .it .i64 x4)], [(2, ⟨58, 2, [.it .i64 a0.Rows, slA e_agg_One a0.L], true⟩), (3, ⟨58, 2, [.it .i64 a1.Rows, slA e_agg_One a1.L], true⟩), (4, ⟨58, 2, [.it .i64 (0 : Int), .sl true 0 []], true⟩), (5, ⟨58, 2, [.it .i64 (IntKind.i64.wrap (a0.Rows + a1.Rows)), rwA 37 1 l5], false⟩), (37, rwB 115 e_agg_One l5)], H, n⟩) ∨ (l5 = [] ∧ ks.keep [2, 3, 4, 5, 19, 20] [2, 3, 4, 5] = ⟨[(2, .pt (.l 2 1) 0), (3, .pt (.l 3 1) 0), (4, .pt (.l 4 1) 0), (5, .pt (.l 5 1) 0), (19, .it .i64 (if (a1.L.length : Int) < (a0.L.length : Int) then (a1.L.length : Int) else (a0.L.length : Int))), (20, .it .i64 x4)], [(2, ⟨58, 2, [.it .i64 a0.Rows, slA e_agg_One a0.L], true⟩), (3, ⟨58, 2, [.it .i64 a1.Rows, slA e_agg_One a1.L], true⟩), (4, ⟨58, 2, [.it .i64 (0 : Int), .sl true 0 []], true⟩), (5, ⟨58, 2, [.it .i64 (IntKind.i64.wrap (a0.Rows + a1.Rows)), .sl true 0 []], true⟩)], H, n⟩)) → YX3 ks) := ⟨_, rfl⟩
    suffices hs : X3 (0 : Int) ([] : List T_agg_One) by rw [hX3] at hs; exact hs _ (.inr (⟨rfl, (by show _ = _; kernel_rfl)⟩))
    refine h X3 (fun x4 l5 h => ?_)
    rw [hX3]
    rintro _ (hk | ⟨hn_l5, hk⟩)
    · refine hYX3 _ ?_
      unfold agg_Plus_L3 at h
      refine WK_keep hB hk ?_
      refine WK_seq ?_
      refine WK_ops ?_
      refine @WD_q _ _ _ _ _ _ _ _ 1 1 [] (by kernel_rfl) rfl trivial ?_
      refine @WD_end _ _ _ _ _ _ _ _ hB [2, 3, 4, 5, 19, 20, 21] [(2, 1), (3, 1), (4, 1), (5, 1), (37, 1)] ⟨[(2, .pt (.l 2 1) 0), (3, .pt (.l 3 1) 0), (4, .pt (.l 4 1) 0), (5, .pt (.l 5 1) 0), (19, .it .i64 (if (a1.L.length : Int) < (a0.L.length : Int) then (a1.L.length : Int) else (a0.L.length : Int))), (20, .it .i64 x4), (21, .bl (decide (x4 < (if (a1.L.length : Int) < (a0.L.length : Int) then (a1.L.length : Int) else (a0.L.length : Int)))))], [(2, ⟨58, 2, [.it .i64 a0.Rows, slA e_agg_One a0.L], true⟩), (3, ⟨58, 2, [.it .i64 a1.Rows, slA e_agg_One a1.L], true⟩), (4, ⟨58, 2, [.it .i64 (0 : Int), .sl true 0 []], true⟩), (5, ⟨58, 2, [.it .i64 (IntKind.i64.wrap (a0.Rows + a1.Rows)), rwA 37 1 l5], false⟩), (37, rwB 115 e_agg_One l5)], H, n⟩ (by kernel_rfl) (by kernel_rfl) ?_
      refine sqn ?_
      refine WK_seq ?_
      refine WK_cond (b := decide (x4 < (if (a1.L.length : Int) < (a0.L.length : Int) then (a1.L.length : Int) else (a0.L.length : Int)))) (by kernel_rfl) (fun b6 => ?_) (fun b6 => ?_)
      · have h := h.1 b6
        refine WK_skip ?_
        refine sqn ?_
        refine WK_seq ?_
        refine WK_block ?_
        refine WK_seq ?_
        refine WK_ops ?_
        refine @WD_q _ _ _ _ _ _ _ _ 2 2 [] (by kernel_rfl) rfl trivial ?_
        refine @WD_end _ _ _ _ _ _ _ _ hB [2, 3, 4, 5, 6, 19, 20] [(2, 1), (3, 1), (4, 1), (5, 1), (37, 1)] ⟨[(2, .pt (.l 2 1) 0), (3, .pt (.l 3 1) 0), (4, .pt (.l 4 1) 0), (5, .pt (.l 5 1) 0), (6, .it .i64 x4), (19, .it .i64 (if (a1.L.length : Int) < (a0.L.length : Int) then (a1.L.length : Int) else (a0.L.length : Int))), (20, .it .i64 x4)], [(2, ⟨58, 2, [.it .i64 a0.Rows, slA e_agg_One a0.L], true⟩), (3, ⟨58, 2, [.it .i64 a1.Rows, slA e_agg_One a1.L], true⟩), (4, ⟨58, 2, [.it .i64 (0 : Int), .sl true 0 []], true⟩), (5, ⟨58, 2, [.it .i64 (IntKind.i64.wrap (a0.Rows + a1.Rows)), rwA 37 1 l5], false⟩), (37, rwB 115 e_agg_One l5)], H, n⟩ (by kernel_rfl) (by kernel_rfl) ?_
        refine sqn ?_
        refine WK_drw ?_
        obtain ⟨i8, y7, y9, h⟩ := h
        refine @DD_q _ _ _ _ _ _ 6 6 [0 ≤ x4 ∧ x4 < a0.L.length] (by kernel_rfl) rfl ⟨⟨i8, lt_of_at i8 y9⟩, trivial⟩ ?_
        refine @DD_e _ _ _ _ _ _ ⟨some 29, none, .ld true 9 (.t 28)⟩ [] _ _ (by kernel_rfl) (by kernel_rfl) (fun hk => E_lde e_agg_One (x := (.t 28)) (l := a0.L) (y := y7) (off := x4.toNat * 9) (m := x4.toNat) (of := 0) (v := .agg [.it .i64 y7.N, .it .i64 y7.Sum.Hi, .it .u64 y7.Sum.Lo, .it .i64 y7.Min.Kind, .it .i64 y7.Min.N, .st y7.Min.S, .it .i64 y7.Max.Kind, .it .i64 y7.Max.N, .st y7.Max.S]) hk (by kernel_rfl) (by kernel_rfl) y9 (by kernel_rfl)) rfl (by kernel_rfl) ?_
        obtain ⟨i11, y10, y12, h⟩ := h
        refine @DD_q _ _ _ _ _ _ 4 11 [0 ≤ x4 ∧ x4 < a1.L.length] (by kernel_rfl) rfl ⟨⟨i11, lt_of_at i11 y12⟩, trivial⟩ ?_
        refine @DD_e _ _ _ _ _ _ ⟨some 34, none, .ld true 9 (.t 33)⟩ [] _ _ (by kernel_rfl) (by kernel_rfl) (fun hk => E_lde e_agg_One (x := (.t 33)) (l := a1.L) (y := y10) (off := x4.toNat * 9) (m := x4.toNat) (of := 0) (v := .agg [.it .i64 y10.N, .it .i64 y10.Sum.Hi, .it .u64 y10.Sum.Lo, .it .i64 y10.Min.Kind, .it .i64 y10.Min.N, .st y10.Min.S, .it .i64 y10.Max.Kind, .it .i64 y10.Max.N, .st y10.Max.S]) hk (by kernel_rfl) (by kernel_rfl) y12 (by kernel_rfl)) rfl (by kernel_rfl) ?_
        obtain ⟨z13, z14, h⟩ := h
        refine @DD_c _ _ _ _ _ _ ⟨some 35, none, .call 53 [(.t 29), (.t 34)]⟩ [0, 1] 53 [.agg [.it .i64 y7.N, .it .i64 y7.Sum.Hi, .it .u64 y7.Sum.Lo, .it .i64 y7.Min.Kind, .it .i64 y7.Min.N, .st y7.Min.S, .it .i64 y7.Max.Kind, .it .i64 y7.Max.N, .st y7.Max.S], .agg [.it .i64 y10.N, .it .i64 y10.Sum.Hi, .it .u64 y10.Sum.Lo, .it .i64 y10.Min.Kind, .it .i64 y10.Min.N, .st y10.Min.S, .it .i64 y10.Max.Kind, .it .i64 y10.Max.N, .st y10.Max.S]] [.agg [.it .i64 y7.N, .it .i64 y7.Sum.Hi, .it .u64 y7.Sum.Lo, .it .i64 y7.Min.Kind, .it .i64 y7.Min.N, .st y7.Min.S, .it .i64 y7.Max.Kind, .it .i64 y7.Max.N, .st y7.Max.S], .agg [.it .i64 y10.N, .it .i64 y10.Sum.Hi, .it .u64 y10.Sum.Lo, .it .i64 y10.Min.Kind, .it .i64 y10.Min.N, .st y10.Min.S, .it .i64 y10.Max.Kind, .it .i64 y10.Max.N, .st y10.Max.S]] [.agg [.it .i64 y7.N, .it .i64 y7.Sum.Hi, .it .u64 y7.Sum.Lo, .it .i64 y7.Min.Kind, .it .i64 y7.Min.N, .st y7.Min.S, .it .i64 y7.Max.Kind, .it .i64 y7.Max.N, .st y7.Max.S], .agg [.it .i64 y10.N, .it .i64 y10.Sum.Hi, .it .u64 y10.Sum.Lo, .it .i64 y10.Min.Kind, .it .i64 y10.Min.N, .st y10.Min.S, .it .i64 y10.Max.Kind, .it .i64 y10.Max.N, .st y10.Max.S]] [] (.agg [.it .i64 z13.N, .it .i64 z13.Sum.Hi, .it .u64 z13.Sum.Lo, .it .i64 z13.Min.Kind, .it .i64 z13.Min.N, .st z13.Min.S, .it .i64 z13.Max.Kind, .it .i64 z13.Max.N, .st z13.Max.S]) (by kernel_rfl) (by kernel_rfl) (.inl ⟨[(.t 29), (.t 34)], rfl, by kernel_rfl⟩) (by kernel_rfl) (by kernel_rfl) (by kernel_rfl) (agg_One_plus_ok z14) (by kernel_rfl) ?_
        obtain ⟨c15, h⟩ := h
        refine @DD_q _ _ _ _ _ _ 1 14 [] (by kernel_rfl) rfl trivial ?_
        refine @DD_e _ _ _ _ _ _ ⟨some 37, none, .app 115 9 88 (.t 24) (.t 36)⟩ [] _ _ (by kernel_rfl) (by kernel_rfl) (fun hk => E_app e_agg_One (s := 37) (c := 1) (m := ([(⟨z13.N, (⟨z13.Sum.Hi, z13.Sum.Lo⟩ : T_wide_Wide), (⟨z13.Min.Kind, z13.Min.N, z13.Min.S⟩ : T_value_Value), (⟨z13.Max.Kind, z13.Max.N, z13.Max.S⟩ : T_value_Value)⟩ : T_agg_One)] : List T_agg_One).length) (n := l5.length) (l := l5) (l2 := ([(⟨z13.N, (⟨z13.Sum.Hi, z13.Sum.Lo⟩ : T_wide_Wide), (⟨z13.Min.Kind, z13.Min.N, z13.Min.S⟩ : T_value_Value), (⟨z13.Max.Kind, z13.Max.N, z13.Max.S⟩ : T_value_Value)⟩ : T_agg_One)] : List T_agg_One)) (b := true) (cs := cl e_agg_One ([(⟨z13.N, (⟨z13.Sum.Hi, z13.Sum.Lo⟩ : T_wide_Wide), (⟨z13.Min.Kind, z13.Min.N, z13.Min.S⟩ : T_value_Value), (⟨z13.Max.Kind, z13.Max.N, z13.Max.S⟩ : T_value_Value)⟩ : T_agg_One)] : List T_agg_One)) hk (by kernel_rfl) rfl (by kernel_rfl) (by kernel_rfl) (by kernel_rfl) (by kernel_rfl) rfl rfl c15 (Nat.le_of_ble_eq_true rfl)) rfl (by kernel_rfl) ?_
        refine @DD_q _ _ _ _ _ _ 2 17 [] (by kernel_rfl) rfl trivial ?_
        refine @DD_end _ _ _ _ _ _ _ hB [2, 3, 4, 5, 19, 20] [(2, 1), (3, 1), (4, 1), (5, 1), (37, 2)] ⟨[(2, .pt (.l 2 1) 0), (3, .pt (.l 3 1) 0), (4, .pt (.l 4 1) 0), (5, .pt (.l 5 1) 0), (19, .it .i64 (if (a1.L.length : Int) < (a0.L.length : Int) then (a1.L.length : Int) else (a0.L.length : Int))), (20, .it .i64 x4)], [(2, ⟨58, 2, [.it .i64 a0.Rows, slA e_agg_One a0.L], true⟩), (3, ⟨58, 2, [.it .i64 a1.Rows, slA e_agg_One a1.L], true⟩), (4, ⟨58, 2, [.it .i64 (0 : Int), .sl true 0 []], true⟩), (5, ⟨58, 2, [.it .i64 (IntKind.i64.wrap (a0.Rows + a1.Rows)), rwA 37 1 (l5 ++ ([(⟨z13.N, (⟨z13.Sum.Hi, z13.Sum.Lo⟩ : T_wide_Wide), (⟨z13.Min.Kind, z13.Min.N, z13.Min.S⟩ : T_value_Value), (⟨z13.Max.Kind, z13.Max.N, z13.Max.S⟩ : T_value_Value)⟩ : T_agg_One)] : List T_agg_One))], false⟩), (37, rwB 115 e_agg_One (l5 ++ ([(⟨z13.N, (⟨z13.Sum.Hi, z13.Sum.Lo⟩ : T_wide_Wide), (⟨z13.Min.Kind, z13.Min.N, z13.Min.S⟩ : T_value_Value), (⟨z13.Max.Kind, z13.Max.N, z13.Max.S⟩ : T_value_Value)⟩ : T_agg_One)] : List T_agg_One)))], H, n⟩ _ (by kernel_rfl) (by kernel_rfl) ?_
        refine bkn ?_
        refine sqn ?_
        refine WK_ops ?_
        refine @WD_q _ _ _ _ _ _ _ _ 2 2 [] (by kernel_rfl) rfl trivial ?_
        refine @WD_end _ _ _ _ _ _ _ _ hB [2, 3, 4, 5, 19, 20] [(2, 1), (3, 1), (4, 1), (5, 1), (37, 1)] ⟨[(2, .pt (.l 2 1) 0), (3, .pt (.l 3 1) 0), (4, .pt (.l 4 1) 0), (5, .pt (.l 5 1) 0), (19, .it .i64 (if (a1.L.length : Int) < (a0.L.length : Int) then (a1.L.length : Int) else (a0.L.length : Int))), (20, .it .i64 (IntKind.i64.wrap (x4 + (1 : Int))))], [(2, ⟨58, 2, [.it .i64 a0.Rows, slA e_agg_One a0.L], true⟩), (3, ⟨58, 2, [.it .i64 a1.Rows, slA e_agg_One a1.L], true⟩), (4, ⟨58, 2, [.it .i64 (0 : Int), .sl true 0 []], true⟩), (5, ⟨58, 2, [.it .i64 (IntKind.i64.wrap (a0.Rows + a1.Rows)), rwA 37 1 (l5 ++ ([(⟨z13.N, (⟨z13.Sum.Hi, z13.Sum.Lo⟩ : T_wide_Wide), (⟨z13.Min.Kind, z13.Min.N, z13.Min.S⟩ : T_value_Value), (⟨z13.Max.Kind, z13.Max.N, z13.Max.S⟩ : T_value_Value)⟩ : T_agg_One)] : List T_agg_One))], false⟩), (37, rwB 115 e_agg_One (l5 ++ ([(⟨z13.N, (⟨z13.Sum.Hi, z13.Sum.Lo⟩ : T_wide_Wide), (⟨z13.Min.Kind, z13.Min.N, z13.Min.S⟩ : T_value_Value), (⟨z13.Max.Kind, z13.Max.N, z13.Max.S⟩ : T_value_Value)⟩ : T_agg_One)] : List T_agg_One)))], H, n⟩ (by kernel_rfl) (by kernel_rfl) ?_
        refine sqn ?_
        rw [hX3] at h
        exact h _ (.inl (by show _ = _; kernel_rfl))
      · have h := h.2 b6
        refine WK_exit ?_
        refine sqx ?_
        refine sqx ?_
        refine bkx ?_
        refine sqn (hX2 l5 _ h (.inl (by show _ = _; kernel_rfl)))
    · subst hn_l5
      refine hYX3 _ ?_
      unfold agg_Plus_L3 at h
      refine WK_keep hB hk ?_
      refine WK_seq ?_
      refine WK_ops ?_
      refine @WD_q _ _ _ _ _ _ _ _ 1 1 [] (by kernel_rfl) rfl trivial ?_
      refine @WD_end _ _ _ _ _ _ _ _ hB [2, 3, 4, 5, 19, 20, 21] [(2, 1), (3, 1), (4, 1), (5, 1)] ⟨[(2, .pt (.l 2 1) 0), (3, .pt (.l 3 1) 0), (4, .pt (.l 4 1) 0), (5, .pt (.l 5 1) 0), (19, .it .i64 (if (a1.L.length : Int) < (a0.L.length : Int) then (a1.L.length : Int) else (a0.L.length : Int))), (20, .it .i64 x4), (21, .bl (decide (x4 < (if (a1.L.length : Int) < (a0.L.length : Int) then (a1.L.length : Int) else (a0.L.length : Int)))))], [(2, ⟨58, 2, [.it .i64 a0.Rows, slA e_agg_One a0.L], true⟩), (3, ⟨58, 2, [.it .i64 a1.Rows, slA e_agg_One a1.L], true⟩), (4, ⟨58, 2, [.it .i64 (0 : Int), .sl true 0 []], true⟩), (5, ⟨58, 2, [.it .i64 (IntKind.i64.wrap (a0.Rows + a1.Rows)), .sl true 0 []], true⟩)], H, n⟩ (by kernel_rfl) (by kernel_rfl) ?_
      refine sqn ?_
      refine WK_seq ?_
      refine WK_cond (b := decide (x4 < (if (a1.L.length : Int) < (a0.L.length : Int) then (a1.L.length : Int) else (a0.L.length : Int)))) (by kernel_rfl) (fun b16 => ?_) (fun b16 => ?_)
      · have h := h.1 b16
        refine WK_skip ?_
        refine sqn ?_
        refine WK_seq ?_
        refine WK_block ?_
        refine WK_seq ?_
        refine WK_ops ?_
        refine @WD_q _ _ _ _ _ _ _ _ 2 2 [] (by kernel_rfl) rfl trivial ?_
        refine @WD_end _ _ _ _ _ _ _ _ hB [2, 3, 4, 5, 6, 19, 20] [(2, 1), (3, 1), (4, 1), (5, 1)] ⟨[(2, .pt (.l 2 1) 0), (3, .pt (.l 3 1) 0), (4, .pt (.l 4 1) 0), (5, .pt (.l 5 1) 0), (6, .it .i64 x4), (19, .it .i64 (if (a1.L.length : Int) < (a0.L.length : Int) then (a1.L.length : Int) else (a0.L.length : Int))), (20, .it .i64 x4)], [(2, ⟨58, 2, [.it .i64 a0.Rows, slA e_agg_One a0.L], true⟩), (3, ⟨58, 2, [.it .i64 a1.Rows, slA e_agg_One a1.L], true⟩), (4, ⟨58, 2, [.it .i64 (0 : Int), .sl true 0 []], true⟩), (5, ⟨58, 2, [.it .i64 (IntKind.i64.wrap (a0.Rows + a1.Rows)), .sl true 0 []], true⟩)], H, n⟩ (by kernel_rfl) (by kernel_rfl) ?_
        refine sqn ?_
        refine WK_drw ?_
        obtain ⟨i18, y17, y19, h⟩ := h
        refine @DD_q _ _ _ _ _ _ 6 6 [0 ≤ x4 ∧ x4 < a0.L.length] (by kernel_rfl) rfl ⟨⟨i18, lt_of_at i18 y19⟩, trivial⟩ ?_
        refine @DD_e _ _ _ _ _ _ ⟨some 29, none, .ld true 9 (.t 28)⟩ [] _ _ (by kernel_rfl) (by kernel_rfl) (fun hk => E_lde e_agg_One (x := (.t 28)) (l := a0.L) (y := y17) (off := x4.toNat * 9) (m := x4.toNat) (of := 0) (v := .agg [.it .i64 y17.N, .it .i64 y17.Sum.Hi, .it .u64 y17.Sum.Lo, .it .i64 y17.Min.Kind, .it .i64 y17.Min.N, .st y17.Min.S, .it .i64 y17.Max.Kind, .it .i64 y17.Max.N, .st y17.Max.S]) hk (by kernel_rfl) (by kernel_rfl) y19 (by kernel_rfl)) rfl (by kernel_rfl) ?_
        obtain ⟨i21, y20, y22, h⟩ := h
        refine @DD_q _ _ _ _ _ _ 4 11 [0 ≤ x4 ∧ x4 < a1.L.length] (by kernel_rfl) rfl ⟨⟨i21, lt_of_at i21 y22⟩, trivial⟩ ?_
        refine @DD_e _ _ _ _ _ _ ⟨some 34, none, .ld true 9 (.t 33)⟩ [] _ _ (by kernel_rfl) (by kernel_rfl) (fun hk => E_lde e_agg_One (x := (.t 33)) (l := a1.L) (y := y20) (off := x4.toNat * 9) (m := x4.toNat) (of := 0) (v := .agg [.it .i64 y20.N, .it .i64 y20.Sum.Hi, .it .u64 y20.Sum.Lo, .it .i64 y20.Min.Kind, .it .i64 y20.Min.N, .st y20.Min.S, .it .i64 y20.Max.Kind, .it .i64 y20.Max.N, .st y20.Max.S]) hk (by kernel_rfl) (by kernel_rfl) y22 (by kernel_rfl)) rfl (by kernel_rfl) ?_
        obtain ⟨z23, z24, h⟩ := h
        refine @DD_c _ _ _ _ _ _ ⟨some 35, none, .call 53 [(.t 29), (.t 34)]⟩ [0, 1] 53 [.agg [.it .i64 y17.N, .it .i64 y17.Sum.Hi, .it .u64 y17.Sum.Lo, .it .i64 y17.Min.Kind, .it .i64 y17.Min.N, .st y17.Min.S, .it .i64 y17.Max.Kind, .it .i64 y17.Max.N, .st y17.Max.S], .agg [.it .i64 y20.N, .it .i64 y20.Sum.Hi, .it .u64 y20.Sum.Lo, .it .i64 y20.Min.Kind, .it .i64 y20.Min.N, .st y20.Min.S, .it .i64 y20.Max.Kind, .it .i64 y20.Max.N, .st y20.Max.S]] [.agg [.it .i64 y17.N, .it .i64 y17.Sum.Hi, .it .u64 y17.Sum.Lo, .it .i64 y17.Min.Kind, .it .i64 y17.Min.N, .st y17.Min.S, .it .i64 y17.Max.Kind, .it .i64 y17.Max.N, .st y17.Max.S], .agg [.it .i64 y20.N, .it .i64 y20.Sum.Hi, .it .u64 y20.Sum.Lo, .it .i64 y20.Min.Kind, .it .i64 y20.Min.N, .st y20.Min.S, .it .i64 y20.Max.Kind, .it .i64 y20.Max.N, .st y20.Max.S]] [.agg [.it .i64 y17.N, .it .i64 y17.Sum.Hi, .it .u64 y17.Sum.Lo, .it .i64 y17.Min.Kind, .it .i64 y17.Min.N, .st y17.Min.S, .it .i64 y17.Max.Kind, .it .i64 y17.Max.N, .st y17.Max.S], .agg [.it .i64 y20.N, .it .i64 y20.Sum.Hi, .it .u64 y20.Sum.Lo, .it .i64 y20.Min.Kind, .it .i64 y20.Min.N, .st y20.Min.S, .it .i64 y20.Max.Kind, .it .i64 y20.Max.N, .st y20.Max.S]] [] (.agg [.it .i64 z23.N, .it .i64 z23.Sum.Hi, .it .u64 z23.Sum.Lo, .it .i64 z23.Min.Kind, .it .i64 z23.Min.N, .st z23.Min.S, .it .i64 z23.Max.Kind, .it .i64 z23.Max.N, .st z23.Max.S]) (by kernel_rfl) (by kernel_rfl) (.inl ⟨[(.t 29), (.t 34)], rfl, by kernel_rfl⟩) (by kernel_rfl) (by kernel_rfl) (by kernel_rfl) (agg_One_plus_ok z24) (by kernel_rfl) ?_
        obtain ⟨c25, h⟩ := h
        refine @DD_q _ _ _ _ _ _ 1 14 [] (by kernel_rfl) rfl trivial ?_
        refine @DD_e _ _ _ _ _ _ ⟨some 37, none, .app 115 9 88 (.t 24) (.t 36)⟩ [] _ _ (by kernel_rfl) (by kernel_rfl) (fun hk => E_app0 e_agg_One (n := 0) (xs := []) (m := ([(⟨z23.N, (⟨z23.Sum.Hi, z23.Sum.Lo⟩ : T_wide_Wide), (⟨z23.Min.Kind, z23.Min.N, z23.Min.S⟩ : T_value_Value), (⟨z23.Max.Kind, z23.Max.N, z23.Max.S⟩ : T_value_Value)⟩ : T_agg_One)] : List T_agg_One).length) (l2 := ([(⟨z23.N, (⟨z23.Sum.Hi, z23.Sum.Lo⟩ : T_wide_Wide), (⟨z23.Min.Kind, z23.Min.N, z23.Min.S⟩ : T_value_Value), (⟨z23.Max.Kind, z23.Max.N, z23.Max.S⟩ : T_value_Value)⟩ : T_agg_One)] : List T_agg_One)) (cs := cl e_agg_One ([(⟨z23.N, (⟨z23.Sum.Hi, z23.Sum.Lo⟩ : T_wide_Wide), (⟨z23.Min.Kind, z23.Min.N, z23.Min.S⟩ : T_value_Value), (⟨z23.Max.Kind, z23.Max.N, z23.Max.S⟩ : T_value_Value)⟩ : T_agg_One)] : List T_agg_One)) hk (by kernel_rfl) (by kernel_rfl) (by kernel_rfl) (by kernel_rfl) rfl rfl (List.cons_ne_nil _ _) (Nat.le_of_ble_eq_true rfl)) rfl (by kernel_rfl) ?_
        refine @DD_q _ _ _ _ _ _ 2 17 [] (by kernel_rfl) rfl trivial ?_
        refine @DD_end _ _ _ _ _ _ _ hB [2, 3, 4, 5, 19, 20] [(2, 1), (3, 1), (4, 1), (5, 1), (37, 2)] ⟨[(2, .pt (.l 2 1) 0), (3, .pt (.l 3 1) 0), (4, .pt (.l 4 1) 0), (5, .pt (.l 5 1) 0), (19, .it .i64 (if (a1.L.length : Int) < (a0.L.length : Int) then (a1.L.length : Int) else (a0.L.length : Int))), (20, .it .i64 x4)], [(2, ⟨58, 2, [.it .i64 a0.Rows, slA e_agg_One a0.L], true⟩), (3, ⟨58, 2, [.it .i64 a1.Rows, slA e_agg_One a1.L], true⟩), (4, ⟨58, 2, [.it .i64 (0 : Int), .sl true 0 []], true⟩), (5, ⟨58, 2, [.it .i64 (IntKind.i64.wrap (a0.Rows + a1.Rows)), rwA 37 1 (([] : List T_agg_One) ++ ([(⟨z23.N, (⟨z23.Sum.Hi, z23.Sum.Lo⟩ : T_wide_Wide), (⟨z23.Min.Kind, z23.Min.N, z23.Min.S⟩ : T_value_Value), (⟨z23.Max.Kind, z23.Max.N, z23.Max.S⟩ : T_value_Value)⟩ : T_agg_One)] : List T_agg_One))], false⟩), (37, rwB 115 e_agg_One (([] : List T_agg_One) ++ ([(⟨z23.N, (⟨z23.Sum.Hi, z23.Sum.Lo⟩ : T_wide_Wide), (⟨z23.Min.Kind, z23.Min.N, z23.Min.S⟩ : T_value_Value), (⟨z23.Max.Kind, z23.Max.N, z23.Max.S⟩ : T_value_Value)⟩ : T_agg_One)] : List T_agg_One)))], H, n⟩ _ (by kernel_rfl) (by kernel_rfl) ?_
        refine bkn ?_
        refine sqn ?_
        refine WK_ops ?_
        refine @WD_q _ _ _ _ _ _ _ _ 2 2 [] (by kernel_rfl) rfl trivial ?_
        refine @WD_end _ _ _ _ _ _ _ _ hB [2, 3, 4, 5, 19, 20] [(2, 1), (3, 1), (4, 1), (5, 1), (37, 1)] ⟨[(2, .pt (.l 2 1) 0), (3, .pt (.l 3 1) 0), (4, .pt (.l 4 1) 0), (5, .pt (.l 5 1) 0), (19, .it .i64 (if (a1.L.length : Int) < (a0.L.length : Int) then (a1.L.length : Int) else (a0.L.length : Int))), (20, .it .i64 (IntKind.i64.wrap (x4 + (1 : Int))))], [(2, ⟨58, 2, [.it .i64 a0.Rows, slA e_agg_One a0.L], true⟩), (3, ⟨58, 2, [.it .i64 a1.Rows, slA e_agg_One a1.L], true⟩), (4, ⟨58, 2, [.it .i64 (0 : Int), .sl true 0 []], true⟩), (5, ⟨58, 2, [.it .i64 (IntKind.i64.wrap (a0.Rows + a1.Rows)), rwA 37 1 (([] : List T_agg_One) ++ ([(⟨z23.N, (⟨z23.Sum.Hi, z23.Sum.Lo⟩ : T_wide_Wide), (⟨z23.Min.Kind, z23.Min.N, z23.Min.S⟩ : T_value_Value), (⟨z23.Max.Kind, z23.Max.N, z23.Max.S⟩ : T_value_Value)⟩ : T_agg_One)] : List T_agg_One))], false⟩), (37, rwB 115 e_agg_One (([] : List T_agg_One) ++ ([(⟨z23.N, (⟨z23.Sum.Hi, z23.Sum.Lo⟩ : T_wide_Wide), (⟨z23.Min.Kind, z23.Min.N, z23.Min.S⟩ : T_value_Value), (⟨z23.Max.Kind, z23.Max.N, z23.Max.S⟩ : T_value_Value)⟩ : T_agg_One)] : List T_agg_One)))], H, n⟩ (by kernel_rfl) (by kernel_rfl) ?_
        refine sqn ?_
        rw [hX3] at h
        exact h _ (.inl (by show _ = _; kernel_rfl))
      · have h := h.2 b16
        refine WK_exit ?_
        refine sqx ?_
        refine sqx ?_
        refine bkx ?_
        refine sqn (hX2 ([] : List T_agg_One) _ h (.inr (⟨rfl, (by show _ = _; kernel_rfl)⟩)))
  · rintro c Q l1 _ (hk | ⟨hn_l1, hk⟩) hm
    · refine WK_keep hB hk ?_
      refine WK_keep hB (ts := [4, 5]) (ds := [4, 5, 37]) (ks' := ⟨[(4, .pt (.l 4 1) 0), (5, .pt (.l 5 1) 0)], [(4, ⟨58, 2, [.it .i64 (0 : Int), .sl true 0 []], true⟩), (5, ⟨58, 2, [.it .i64 (IntKind.i64.wrap (a0.Rows + a1.Rows)), rwA 37 1 l1], false⟩), (37, rwB 115 e_agg_One l1)], H, n⟩) (by kernel_rfl) ?_
      refine WK_pub hB (s := 37) (ts := [4, 5]) (ds := [4, 5]) (C := [(cl e_agg_One l1).length = l1.length * 9]) (ks' := ⟨[(4, .pt (.l 4 1) 0), (5, .pt (.l 5 1) 0)], [(4, ⟨58, 2, [.it .i64 (0 : Int), .sl true 0 []], true⟩), (5, ⟨58, 2, [.it .i64 (IntKind.i64.wrap (a0.Rows + a1.Rows)), slA e_agg_One l1], true⟩)], H, n⟩) (by kernel_rfl) ⟨cl_len e_agg_One l1, trivial⟩ ?_
      exact hm
    · subst hn_l1
      refine WK_keep hB hk ?_
      refine WK_weakB hB 5 [4, 5] [4, 5] (ks' := ⟨[(4, .pt (.l 4 1) 0), (5, .pt (.l 5 1) 0)], [(4, ⟨58, 2, [.it .i64 (0 : Int), .sl true 0 []], true⟩), (5, ⟨58, 2, [.it .i64 (IntKind.i64.wrap (a0.Rows + a1.Rows)), slA e_agg_One ([] : List T_agg_One)], true⟩)], H, n⟩) (by kernel_rfl) ?_
      exact hm
  · rintro l1 h
    replace h : agg_Plus_J1 a0 a1 r l1 := h
    unfold agg_Plus_J1 at h
    refine WK_seq ?_
    refine WK_ops ?_
    refine @WD_q _ _ _ _ _ _ _ _ 2 2 [] (by kernel_rfl) rfl trivial ?_
    refine @WD_end _ _ _ _ _ _ _ _ hB [4] [(4, 1)] ⟨[(4, .pt (.l 4 1) 0)], [(4, ⟨58, 2, [.it .i64 (IntKind.i64.wrap (a0.Rows + a1.Rows)), slA e_agg_One l1], true⟩)], H, n⟩ (by kernel_rfl) (by kernel_rfl) ?_
    refine sqn ?_
    refine WK_ret ?_
    have hr : (⟨IntKind.i64.wrap (a0.Rows + a1.Rows), l1⟩ : T_agg_Part) = r := h
    subst hr
    refine k_ret (u := .agg [.it .i64 (IntKind.i64.wrap (a0.Rows + a1.Rows)), slA e_agg_One l1]) (by kernel_rfl) (by kernel_rfl) (by kernel_rfl) rfl rfl

def wide_Wide_Int_o (a0 : T_wide_Wide) (r : Int × Bool) : Prop :=
  ∃ z1 : T_wide_Wide, wide_Of_o (IntKind.i64.wrap a0.Lo) z1 ∧ cnd (!((z1.Hi == a0.Hi) && ((z1.Lo == a0.Lo) && true))) (((0 : Int), false) = r) ((IntKind.i64.wrap a0.Lo, true) = r)

set_option maxRecDepth 100000 in
set_option maxHeartbeats 1000000 in
theorem wide_Wide_Int_ok {a0 : T_wide_Wide} {r : Int × Bool}  (h : wide_Wide_Int_o a0 r) : Pure Try.prog 76 [.agg [.it .i64 a0.Hi, .it .u64 a0.Lo]] (.tup [.it .i64 r.1, .bl r.2]) := by
  refine pureK t76 (Nat.le_of_ble_eq_true rfl) (by kernel_rfl) fun B H n hB => ?_
  dsimp only [c76]
  unfold wide_Wide_Int_o at h
  refine WK_conv (ks' := ⟨[(0, .agg [.it .i64 a0.Hi, .it .u64 a0.Lo])], [], H, n⟩) (by kernel_rfl) ?_
  refine WK_seq ?_
  refine WK_ops ?_
  refine @WD_q _ _ _ _ _ _ _ _ 3 3 [] (by kernel_rfl) rfl trivial ?_
  refine @WD_end _ _ _ _ _ _ _ _ hB [1] [(1, 2)] ⟨[(1, .pt (.l 1 1) 0)], [(1, ⟨113, 2, [.it .i64 a0.Hi, .it .u64 a0.Lo], true⟩)], H, n⟩ (by kernel_rfl) (by kernel_rfl) ?_
  refine sqn ?_
  refine WK_seq ?_
  refine WK_ops ?_
  refine @WD_q _ _ _ _ _ _ _ _ 4 4 [] (by kernel_rfl) rfl trivial ?_
  refine @WD_end _ _ _ _ _ _ _ _ hB [1, 4] [(1, 1)] ⟨[(1, .pt (.l 1 1) 0), (4, .it .i64 (IntKind.i64.wrap a0.Lo))], [(1, ⟨113, 2, [.it .i64 a0.Hi, .it .u64 a0.Lo], true⟩)], H, n⟩ (by kernel_rfl) (by kernel_rfl) ?_
  refine sqn ?_
  refine WK_seq ?_
  refine WK_seq ?_
  refine WK_drw ?_
  obtain ⟨z1, z2, h⟩ := h
  refine @DD_q _ _ _ _ _ _ 1 1 [] (by kernel_rfl) rfl trivial ?_
  refine @DD_c _ _ _ _ _ _ ⟨some 9, none, .call 75 [(.t 8)]⟩ [] 75 [.it .i64 (IntKind.i64.wrap a0.Lo)] [.it .i64 (IntKind.i64.wrap a0.Lo)] [.it .i64 (IntKind.i64.wrap a0.Lo)] [] (.agg [.it .i64 z1.Hi, .it .u64 z1.Lo]) (by kernel_rfl) (by kernel_rfl) (.inl ⟨[(.t 8)], rfl, by kernel_rfl⟩) (by kernel_rfl) (by kernel_rfl) (by kernel_rfl) (wide_Of_ok z2) (by kernel_rfl) ?_
  refine @DD_q _ _ _ _ _ _ 2 4 [] (by kernel_rfl) rfl trivial ?_
  refine @DD_end _ _ _ _ _ _ _ hB [4, 11] [] ⟨[(4, .it .i64 (IntKind.i64.wrap a0.Lo)), (11, .bl (!((z1.Hi == a0.Hi) && ((z1.Lo == a0.Lo) && true))))], [], H, n⟩ _ (by kernel_rfl) (by kernel_rfl) ?_
  refine sqn ?_
  refine WK_cond (b := !((z1.Hi == a0.Hi) && ((z1.Lo == a0.Lo) && true))) (by kernel_rfl) (fun b3 => ?_) (fun b3 => ?_)
  · have h := h.1 b3
    refine WK_seq ?_
    refine WK_ops ?_
    refine @WD_q _ _ _ _ _ _ _ _ 2 2 [] (by kernel_rfl) rfl trivial ?_
    refine @WD_end _ _ _ _ _ _ _ _ hB [2, 3] [] ⟨[(2, .it .i64 (0 : Int)), (3, .bl false)], [], H, n⟩ (by kernel_rfl) (by kernel_rfl) ?_
    refine sqn ?_
    refine WK_ret ?_
    refine sqr ?_
    have hr : ((0 : Int), false) = r := h
    subst hr
    refine k_ret (u := .tup [.it .i64 (0 : Int), .bl false]) (by kernel_rfl) (by kernel_rfl) (by kernel_rfl) rfl rfl
  · have h := h.2 b3
    refine WK_skip ?_
    refine sqn ?_
    refine WK_seq ?_
    refine WK_ops ?_
    refine @WD_q _ _ _ _ _ _ _ _ 3 3 [] (by kernel_rfl) rfl trivial ?_
    refine @WD_end _ _ _ _ _ _ _ _ hB [2, 3] [] ⟨[(2, .it .i64 (IntKind.i64.wrap a0.Lo)), (3, .bl true)], [], H, n⟩ (by kernel_rfl) (by kernel_rfl) ?_
    refine sqn ?_
    refine WK_ret ?_
    have hr : (IntKind.i64.wrap a0.Lo, true) = r := h
    subst hr
    refine k_ret (u := .tup [.it .i64 (IntKind.i64.wrap a0.Lo), .bl true]) (by kernel_rfl) (by kernel_rfl) (by kernel_rfl) rfl rfl

def agg_Part_Final_o (a0 : T_agg_Part) (a1 : Int) (a2 : Int) (r : T_value_Value × Int) : Prop :=
  cnd (decide (a2 < (0 : Int))) (∃ z2 : T_value_Value, value_OfInt_o a0.Rows z2 ∧ (z2, (0 : Int)) = r) (0 ≤ a2 ∧ ∃ y4 : T_agg_One, a0.L[a2.toNat]? = some y4 ∧ cnd (a1 == (1 : Int)) (∃ z8 : T_value_Value, value_OfInt_o y4.N z8 ∧ (z8, (0 : Int)) = r) (cnd (a1 == (3 : Int)) (((⟨y4.Min.Kind, y4.Min.N, y4.Min.S⟩ : T_value_Value), (0 : Int)) = r) (cnd (a1 == (4 : Int)) (((⟨y4.Max.Kind, y4.Max.N, y4.Max.S⟩ : T_value_Value), (0 : Int)) = r) (cnd (y4.N == (0 : Int)) (((⟨(0 : Int), (0 : Int), ([] : Str)⟩ : T_value_Value), (0 : Int)) = r) (∃ z13 : Int × Bool, wide_Wide_Int_o (⟨y4.Sum.Hi, y4.Sum.Lo⟩ : T_wide_Wide) z13 ∧ cnd (!z13.2) (((⟨(0 : Int), (0 : Int), ([] : Str)⟩ : T_value_Value), (8 : Int)) = r) (∃ z16 : T_value_Value, value_OfInt_o z13.1 z16 ∧ (z16, (0 : Int)) = r))))))

set_option maxRecDepth 100000 in
set_option maxHeartbeats 1000000 in
theorem agg_Part_Final_ok {a0 : T_agg_Part} {a1 : Int} {a2 : Int} {r : T_value_Value × Int}  (h : agg_Part_Final_o a0 a1 a2 r) : Pure Try.prog 51 [.agg [.it .i64 a0.Rows, slA e_agg_One a0.L], .it .i64 a1, .it .i64 a2] (.tup [.agg [.it .i64 r.1.Kind, .it .i64 r.1.N, .st r.1.S], .it .i64 r.2]) := by
  refine pureK t51 (Nat.le_of_ble_eq_true rfl) (by kernel_rfl) fun B H n hB => ?_
  dsimp only [c51]
  unfold agg_Part_Final_o at h
  refine WK_conv (ks' := ⟨[(0, .agg [.it .i64 a0.Rows, slA e_agg_One a0.L]), (1, .it .i64 a1), (2, .it .i64 a2)], [], H, n⟩) (by kernel_rfl) ?_
  refine WK_seq ?_
  refine WK_ops ?_
  refine @WD_q _ _ _ _ _ _ _ _ 3 3 [] (by kernel_rfl) rfl trivial ?_
  refine @WD_end _ _ _ _ _ _ _ _ hB [1, 2, 3, 6] [(3, 2), (6, 2)] ⟨[(1, .it .i64 a1), (2, .it .i64 a2), (3, .pt (.l 3 1) 0), (6, .pt (.l 6 1) 0)], [(3, ⟨58, 2, [.it .i64 a0.Rows, slA e_agg_One a0.L], true⟩), (6, ⟨88, 3, [.it .i64 (0 : Int), .it .i64 (0 : Int), .st ([] : Str)], true⟩)], H, n⟩ (by kernel_rfl) (by kernel_rfl) ?_
  refine sqn ?_
  refine WK_seq ?_
  refine WK_seq ?_
  refine WK_ops ?_
  refine @WD_q _ _ _ _ _ _ _ _ 2 2 [] (by kernel_rfl) rfl trivial ?_
  refine @WD_end _ _ _ _ _ _ _ _ hB [1, 2, 3, 6, 12] [(3, 1), (6, 1)] ⟨[(1, .it .i64 a1), (2, .it .i64 a2), (3, .pt (.l 3 1) 0), (6, .pt (.l 6 1) 0), (12, .bl (decide (a2 < (0 : Int))))], [(3, ⟨58, 2, [.it .i64 a0.Rows, slA e_agg_One a0.L], true⟩), (6, ⟨88, 3, [.it .i64 (0 : Int), .it .i64 (0 : Int), .st ([] : Str)], true⟩)], H, n⟩ (by kernel_rfl) (by kernel_rfl) ?_
  refine sqn ?_
  refine WK_cond (b := decide (a2 < (0 : Int))) (by kernel_rfl) (fun b1 => ?_) (fun b1 => ?_)
  · have h := h.1 b1
    refine WK_seq ?_
    refine WK_ops ?_
    obtain ⟨z2, z3, h⟩ := h
    refine @WD_q _ _ _ _ _ _ _ _ 2 2 [] (by kernel_rfl) rfl trivial ?_
    refine @WD_c _ _ _ _ _ _ _ _ ⟨some 15, none, .call 36 [(.t 14)]⟩ 36 [.it .i64 a0.Rows] [.it .i64 a0.Rows] [.it .i64 a0.Rows] [] (.agg [.it .i64 z2.Kind, .it .i64 z2.N, .st z2.S]) (by kernel_rfl) (by kernel_rfl) (.inl ⟨[(.t 14)], rfl, by kernel_rfl⟩) (by kernel_rfl) (by kernel_rfl) (by kernel_rfl) (value_OfInt_ok z3) ?_
    refine @WD_q _ _ _ _ _ _ _ _ 2 5 [] (by kernel_rfl) rfl trivial ?_
    refine @WD_end _ _ _ _ _ _ _ _ hB [6, 7] [(6, 1)] ⟨[(6, .pt (.l 6 1) 0), (7, .it .i64 (0 : Int))], [(6, ⟨88, 3, [.it .i64 z2.Kind, .it .i64 z2.N, .st z2.S], true⟩)], H, n⟩ (by kernel_rfl) (by kernel_rfl) ?_
    refine sqn ?_
    refine WK_ret ?_
    refine sqr ?_
    have hr : (z2, (0 : Int)) = r := h
    subst hr
    refine k_ret (u := .tup [.agg [.it .i64 z2.Kind, .it .i64 z2.N, .st z2.S], .it .i64 (0 : Int)]) (by kernel_rfl) (by kernel_rfl) (by kernel_rfl) rfl rfl
  · have h := h.2 b1
    refine WK_skip ?_
    refine sqn ?_
    refine WK_seq ?_
    refine WK_ops ?_
    obtain ⟨i5, y4, y6, h⟩ := h
    refine @WD_q _ _ _ _ _ _ _ _ 4 4 [0 ≤ a2 ∧ a2 < a0.L.length] (by kernel_rfl) rfl ⟨⟨i5, lt_of_at i5 y6⟩, trivial⟩ ?_
    refine @WD_e _ _ _ _ _ _ _ _ ⟨some 20, none, .ld true 9 (.t 19)⟩ _ _ (by kernel_rfl) (by kernel_rfl) (fun hk => E_lde e_agg_One (x := (.t 19)) (l := a0.L) (y := y4) (off := a2.toNat * 9) (m := a2.toNat) (of := 0) (v := .agg [.it .i64 y4.N, .it .i64 y4.Sum.Hi, .it .u64 y4.Sum.Lo, .it .i64 y4.Min.Kind, .it .i64 y4.Min.N, .st y4.Min.S, .it .i64 y4.Max.Kind, .it .i64 y4.Max.N, .st y4.Max.S]) hk (by kernel_rfl) (by kernel_rfl) y6 (by kernel_rfl)) rfl ?_
    refine @WD_q _ _ _ _ _ _ _ _ 2 7 [] (by kernel_rfl) rfl trivial ?_
    refine @WD_end _ _ _ _ _ _ _ _ hB [1, 6, 8] [(6, 1), (8, 2)] ⟨[(1, .it .i64 a1), (6, .pt (.l 6 1) 0), (8, .pt (.l 8 1) 0)], [(6, ⟨88, 3, [.it .i64 (0 : Int), .it .i64 (0 : Int), .st ([] : Str)], true⟩), (8, ⟨115, 9, [.it .i64 y4.N, .it .i64 y4.Sum.Hi, .it .u64 y4.Sum.Lo, .it .i64 y4.Min.Kind, .it .i64 y4.Min.N, .st y4.Min.S, .it .i64 y4.Max.Kind, .it .i64 y4.Max.N, .st y4.Max.S], true⟩)], H, n⟩ (by kernel_rfl) (by kernel_rfl) ?_
    refine sqn ?_
    refine WK_seq ?_
    refine WK_seq ?_
    refine WK_ops ?_
    refine @WD_q _ _ _ _ _ _ _ _ 1 1 [] (by kernel_rfl) rfl trivial ?_
    refine @WD_end _ _ _ _ _ _ _ _ hB [6, 8, 21] [(6, 1), (8, 1)] ⟨[(6, .pt (.l 6 1) 0), (8, .pt (.l 8 1) 0), (21, .it .i64 a1)], [(6, ⟨88, 3, [.it .i64 (0 : Int), .it .i64 (0 : Int), .st ([] : Str)], true⟩), (8, ⟨115, 9, [.it .i64 y4.N, .it .i64 y4.Sum.Hi, .it .u64 y4.Sum.Lo, .it .i64 y4.Min.Kind, .it .i64 y4.Min.N, .st y4.Min.S, .it .i64 y4.Max.Kind, .it .i64 y4.Max.N, .st y4.Max.S], true⟩)], H, n⟩ (by kernel_rfl) (by kernel_rfl) ?_
    refine sqn ?_
    refine WK_block ?_
    refine WK_seq ?_
    refine WK_ops ?_
    refine @WD_q _ _ _ _ _ _ _ _ 2 2 [] (by kernel_rfl) rfl trivial ?_
    refine @WD_end _ _ _ _ _ _ _ _ hB [6, 8, 21, 22] [(6, 1), (8, 1)] ⟨[(6, .pt (.l 6 1) 0), (8, .pt (.l 8 1) 0), (21, .it .i64 a1), (22, .bl (a1 == (1 : Int)))], [(6, ⟨88, 3, [.it .i64 (0 : Int), .it .i64 (0 : Int), .st ([] : Str)], true⟩), (8, ⟨115, 9, [.it .i64 y4.N, .it .i64 y4.Sum.Hi, .it .u64 y4.Sum.Lo, .it .i64 y4.Min.Kind, .it .i64 y4.Min.N, .st y4.Min.S, .it .i64 y4.Max.Kind, .it .i64 y4.Max.N, .st y4.Max.S], true⟩)], H, n⟩ (by kernel_rfl) (by kernel_rfl) ?_
    refine sqn ?_
    refine WK_cond (b := a1 == (1 : Int)) (by kernel_rfl) (fun b7 => ?_) (fun b7 => ?_)
    · have h := h.1 b7
      refine WK_seq ?_
      refine WK_ops ?_
      obtain ⟨z8, z9, h⟩ := h
      refine @WD_q _ _ _ _ _ _ _ _ 2 2 [] (by kernel_rfl) rfl trivial ?_
      refine @WD_c _ _ _ _ _ _ _ _ ⟨some 26, none, .call 36 [(.t 25)]⟩ 36 [.it .i64 y4.N] [.it .i64 y4.N] [.it .i64 y4.N] [] (.agg [.it .i64 z8.Kind, .it .i64 z8.N, .st z8.S]) (by kernel_rfl) (by kernel_rfl) (.inl ⟨[(.t 25)], rfl, by kernel_rfl⟩) (by kernel_rfl) (by kernel_rfl) (by kernel_rfl) (value_OfInt_ok z9) ?_
      refine @WD_q _ _ _ _ _ _ _ _ 2 5 [] (by kernel_rfl) rfl trivial ?_
      refine @WD_end _ _ _ _ _ _ _ _ hB [6, 7] [(6, 1)] ⟨[(6, .pt (.l 6 1) 0), (7, .it .i64 (0 : Int))], [(6, ⟨88, 3, [.it .i64 z8.Kind, .it .i64 z8.N, .st z8.S], true⟩)], H, n⟩ (by kernel_rfl) (by kernel_rfl) ?_
      refine sqn ?_
      refine WK_ret ?_
      refine bkr ?_
      refine sqr ?_
      have hr : (z8, (0 : Int)) = r := h
      subst hr
      refine k_ret (u := .tup [.agg [.it .i64 z8.Kind, .it .i64 z8.N, .st z8.S], .it .i64 (0 : Int)]) (by kernel_rfl) (by kernel_rfl) (by kernel_rfl) rfl rfl
    · have h := h.2 b7
      refine WK_seq ?_
      refine WK_ops ?_
      refine @WD_q _ _ _ _ _ _ _ _ 2 2 [] (by kernel_rfl) rfl trivial ?_
      refine @WD_end _ _ _ _ _ _ _ _ hB [6, 8, 21, 27] [(6, 1), (8, 1)] ⟨[(6, .pt (.l 6 1) 0), (8, .pt (.l 8 1) 0), (21, .it .i64 a1), (27, .bl (a1 == (3 : Int)))], [(6, ⟨88, 3, [.it .i64 (0 : Int), .it .i64 (0 : Int), .st ([] : Str)], true⟩), (8, ⟨115, 9, [.it .i64 y4.N, .it .i64 y4.Sum.Hi, .it .u64 y4.Sum.Lo, .it .i64 y4.Min.Kind, .it .i64 y4.Min.N, .st y4.Min.S, .it .i64 y4.Max.Kind, .it .i64 y4.Max.N, .st y4.Max.S], true⟩)], H, n⟩ (by kernel_rfl) (by kernel_rfl) ?_
      refine sqn ?_
      refine WK_cond (b := a1 == (3 : Int)) (by kernel_rfl) (fun b10 => ?_) (fun b10 => ?_)
      · have h := h.1 b10
        refine WK_seq ?_
        refine WK_ops ?_
        refine @WD_q _ _ _ _ _ _ _ _ 4 4 [] (by kernel_rfl) rfl trivial ?_
        refine @WD_end _ _ _ _ _ _ _ _ hB [6, 7] [(6, 1)] ⟨[(6, .pt (.l 6 1) 0), (7, .it .i64 (0 : Int))], [(6, ⟨88, 3, [.it .i64 y4.Min.Kind, .it .i64 y4.Min.N, .st y4.Min.S], true⟩)], H, n⟩ (by kernel_rfl) (by kernel_rfl) ?_
        refine sqn ?_
        refine WK_ret ?_
        refine bkr ?_
        refine sqr ?_
        have hr : ((⟨y4.Min.Kind, y4.Min.N, y4.Min.S⟩ : T_value_Value), (0 : Int)) = r := h
        subst hr
        refine k_ret (u := .tup [.agg [.it .i64 y4.Min.Kind, .it .i64 y4.Min.N, .st y4.Min.S], .it .i64 (0 : Int)]) (by kernel_rfl) (by kernel_rfl) (by kernel_rfl) rfl rfl
      · have h := h.2 b10
        refine WK_seq ?_
        refine WK_ops ?_
        refine @WD_q _ _ _ _ _ _ _ _ 2 2 [] (by kernel_rfl) rfl trivial ?_
        refine @WD_end _ _ _ _ _ _ _ _ hB [6, 8, 31] [(6, 1), (8, 1)] ⟨[(6, .pt (.l 6 1) 0), (8, .pt (.l 8 1) 0), (31, .bl (a1 == (4 : Int)))], [(6, ⟨88, 3, [.it .i64 (0 : Int), .it .i64 (0 : Int), .st ([] : Str)], true⟩), (8, ⟨115, 9, [.it .i64 y4.N, .it .i64 y4.Sum.Hi, .it .u64 y4.Sum.Lo, .it .i64 y4.Min.Kind, .it .i64 y4.Min.N, .st y4.Min.S, .it .i64 y4.Max.Kind, .it .i64 y4.Max.N, .st y4.Max.S], true⟩)], H, n⟩ (by kernel_rfl) (by kernel_rfl) ?_
        refine sqn ?_
        refine WK_cond (b := a1 == (4 : Int)) (by kernel_rfl) (fun b11 => ?_) (fun b11 => ?_)
        · have h := h.1 b11
          refine WK_seq ?_
          refine WK_ops ?_
          refine @WD_q _ _ _ _ _ _ _ _ 4 4 [] (by kernel_rfl) rfl trivial ?_
          refine @WD_end _ _ _ _ _ _ _ _ hB [6, 7] [(6, 1)] ⟨[(6, .pt (.l 6 1) 0), (7, .it .i64 (0 : Int))], [(6, ⟨88, 3, [.it .i64 y4.Max.Kind, .it .i64 y4.Max.N, .st y4.Max.S], true⟩)], H, n⟩ (by kernel_rfl) (by kernel_rfl) ?_
          refine sqn ?_
          refine WK_ret ?_
          refine bkr ?_
          refine sqr ?_
          have hr : ((⟨y4.Max.Kind, y4.Max.N, y4.Max.S⟩ : T_value_Value), (0 : Int)) = r := h
          subst hr
          refine k_ret (u := .tup [.agg [.it .i64 y4.Max.Kind, .it .i64 y4.Max.N, .st y4.Max.S], .it .i64 (0 : Int)]) (by kernel_rfl) (by kernel_rfl) (by kernel_rfl) rfl rfl
        · have h := h.2 b11
          refine WK_skip ?_
          refine bkn ?_
          refine sqn ?_
          refine WK_seq ?_
          refine WK_seq ?_
          refine WK_ops ?_
          refine @WD_q _ _ _ _ _ _ _ _ 3 3 [] (by kernel_rfl) rfl trivial ?_
          refine @WD_end _ _ _ _ _ _ _ _ hB [6, 8, 37] [(6, 1), (8, 1)] ⟨[(6, .pt (.l 6 1) 0), (8, .pt (.l 8 1) 0), (37, .bl (y4.N == (0 : Int)))], [(6, ⟨88, 3, [.it .i64 (0 : Int), .it .i64 (0 : Int), .st ([] : Str)], true⟩), (8, ⟨115, 9, [.it .i64 y4.N, .it .i64 y4.Sum.Hi, .it .u64 y4.Sum.Lo, .it .i64 y4.Min.Kind, .it .i64 y4.Min.N, .st y4.Min.S, .it .i64 y4.Max.Kind, .it .i64 y4.Max.N, .st y4.Max.S], true⟩)], H, n⟩ (by kernel_rfl) (by kernel_rfl) ?_
          refine sqn ?_
          refine WK_cond (b := y4.N == (0 : Int)) (by kernel_rfl) (fun b12 => ?_) (fun b12 => ?_)
          · have h := h.1 b12
            refine WK_seq ?_
            refine WK_ops ?_
            refine @WD_q _ _ _ _ _ _ _ _ 3 3 [] (by kernel_rfl) rfl trivial ?_
            refine @WD_end _ _ _ _ _ _ _ _ hB [6, 7] [(6, 1)] ⟨[(6, .pt (.l 6 1) 0), (7, .it .i64 (0 : Int))], [(6, ⟨88, 3, [.it .i64 (0 : Int), .it .i64 (0 : Int), .st ([] : Str)], true⟩)], H, n⟩ (by kernel_rfl) (by kernel_rfl) ?_
            refine sqn ?_
            refine WK_ret ?_
            refine sqr ?_
            have hr : ((⟨(0 : Int), (0 : Int), ([] : Str)⟩ : T_value_Value), (0 : Int)) = r := h
            subst hr
            refine k_ret (u := .tup [.agg [.it .i64 (0 : Int), .it .i64 (0 : Int), .st ([] : Str)], .it .i64 (0 : Int)]) (by kernel_rfl) (by kernel_rfl) (by kernel_rfl) rfl rfl
          · have h := h.2 b12
            refine WK_skip ?_
            refine sqn ?_
            refine WK_seq ?_
            refine WK_ops ?_
            obtain ⟨z13, z14, h⟩ := h
            refine @WD_q _ _ _ _ _ _ _ _ 2 2 [] (by kernel_rfl) rfl trivial ?_
            refine @WD_c _ _ _ _ _ _ _ _ ⟨some 42, none, .call 76 [(.t 41)]⟩ 76 [.agg [.it .i64 y4.Sum.Hi, .it .u64 y4.Sum.Lo]] [.agg [.it .i64 y4.Sum.Hi, .it .u64 y4.Sum.Lo]] [.agg [.it .i64 y4.Sum.Hi, .it .u64 y4.Sum.Lo]] [] (.tup [.it .i64 z13.1, .bl z13.2]) (by kernel_rfl) (by kernel_rfl) (.inl ⟨[(.t 41)], rfl, by kernel_rfl⟩) (by kernel_rfl) (by kernel_rfl) (by kernel_rfl) (wide_Wide_Int_ok z14) ?_
            refine @WD_q _ _ _ _ _ _ _ _ 5 8 [] (by kernel_rfl) rfl trivial ?_
            refine @WD_end _ _ _ _ _ _ _ _ hB [6, 9, 10] [(6, 1)] ⟨[(6, .pt (.l 6 1) 0), (9, .it .i64 z13.1), (10, .bl z13.2)], [(6, ⟨88, 3, [.it .i64 (0 : Int), .it .i64 (0 : Int), .st ([] : Str)], true⟩)], H, n⟩ (by kernel_rfl) (by kernel_rfl) ?_
            refine sqn ?_
            refine WK_seq ?_
            refine WK_seq ?_
            refine WK_ops ?_
            refine @WD_q _ _ _ _ _ _ _ _ 2 2 [] (by kernel_rfl) rfl trivial ?_
            refine @WD_end _ _ _ _ _ _ _ _ hB [6, 9, 46] [(6, 1)] ⟨[(6, .pt (.l 6 1) 0), (9, .it .i64 z13.1), (46, .bl (!z13.2))], [(6, ⟨88, 3, [.it .i64 (0 : Int), .it .i64 (0 : Int), .st ([] : Str)], true⟩)], H, n⟩ (by kernel_rfl) (by kernel_rfl) ?_
            refine sqn ?_
            refine WK_cond (b := !z13.2) (by kernel_rfl) (fun b15 => ?_) (fun b15 => ?_)
            · have h := h.1 b15
              refine WK_seq ?_
              refine WK_ops ?_
              refine @WD_q _ _ _ _ _ _ _ _ 3 3 [] (by kernel_rfl) rfl trivial ?_
              refine @WD_end _ _ _ _ _ _ _ _ hB [6, 7] [(6, 1)] ⟨[(6, .pt (.l 6 1) 0), (7, .it .i64 (8 : Int))], [(6, ⟨88, 3, [.it .i64 (0 : Int), .it .i64 (0 : Int), .st ([] : Str)], true⟩)], H, n⟩ (by kernel_rfl) (by kernel_rfl) ?_
              refine sqn ?_
              refine WK_ret ?_
              refine sqr ?_
              have hr : ((⟨(0 : Int), (0 : Int), ([] : Str)⟩ : T_value_Value), (8 : Int)) = r := h
              subst hr
              refine k_ret (u := .tup [.agg [.it .i64 (0 : Int), .it .i64 (0 : Int), .st ([] : Str)], .it .i64 (8 : Int)]) (by kernel_rfl) (by kernel_rfl) (by kernel_rfl) rfl rfl
            · have h := h.2 b15
              refine WK_skip ?_
              refine sqn ?_
              refine WK_seq ?_
              refine WK_ops ?_
              obtain ⟨z16, z17, h⟩ := h
              refine @WD_q _ _ _ _ _ _ _ _ 1 1 [] (by kernel_rfl) rfl trivial ?_
              refine @WD_c _ _ _ _ _ _ _ _ ⟨some 49, none, .call 36 [(.t 48)]⟩ 36 [.it .i64 z13.1] [.it .i64 z13.1] [.it .i64 z13.1] [] (.agg [.it .i64 z16.Kind, .it .i64 z16.N, .st z16.S]) (by kernel_rfl) (by kernel_rfl) (.inl ⟨[(.t 48)], rfl, by kernel_rfl⟩) (by kernel_rfl) (by kernel_rfl) (by kernel_rfl) (value_OfInt_ok z17) ?_
              refine @WD_q _ _ _ _ _ _ _ _ 2 4 [] (by kernel_rfl) rfl trivial ?_
              refine @WD_end _ _ _ _ _ _ _ _ hB [6, 7] [(6, 1)] ⟨[(6, .pt (.l 6 1) 0), (7, .it .i64 (0 : Int))], [(6, ⟨88, 3, [.it .i64 z16.Kind, .it .i64 z16.N, .st z16.S], true⟩)], H, n⟩ (by kernel_rfl) (by kernel_rfl) ?_
              refine sqn ?_
              refine WK_ret ?_
              have hr : (z16, (0 : Int)) = r := h
              subst hr
              refine k_ret (u := .tup [.agg [.it .i64 z16.Kind, .it .i64 z16.N, .st z16.S], .it .i64 (0 : Int)]) (by kernel_rfl) (by kernel_rfl) (by kernel_rfl) rfl rfl

def law23_speaks_o  (r : Bool) : Prop :=
  ∃ z1 : T_value_Value, value_OfInt_o (1 : Int) z1 ∧ ∃ z3 : T_agg_Part, agg_Of_o ([z1] : List T_value_Value) z3 ∧ ∃ z5 : T_agg_Part, agg_Of_o ([(⟨(0 : Int), (0 : Int), ([] : Str)⟩ : T_value_Value)] : List T_value_Value) z5 ∧ ∃ z7 : T_agg_Part, agg_Plus_o z3 z5 z7 ∧ ∃ z9 : T_value_Value × Int, agg_Part_Final_o z7 (2 : Int) (0 : Int) z9 ∧ ∃ z11 : T_value_Value × Int, agg_Part_Final_o z7 (1 : Int) (-1 : Int) z11 ∧ cnd (z9.2 == (0 : Int)) (cnd (z11.2 == (0 : Int)) (∃ z15 : T_value_Value, value_OfInt_o (1 : Int) z15 ∧ cnd ((z9.1.Kind == z15.Kind) && ((z9.1.N == z15.N) && ((z9.1.S == z15.S) && true))) (cnd (z9.1.Kind == (2 : Int)) (∃ z19 : T_value_Value, value_OfInt_o (2 : Int) z19 ∧ cnd ((z11.1.Kind == z19.Kind) && ((z11.1.N == z19.N) && ((z11.1.S == z19.S) && true))) (0 ≤ (0 : Int) ∧ ∃ y22 : T_agg_One, z7.L[(0 : Int).toNat]? = some y22 ∧ (y22.N == (1 : Int)) = r) (false = r)) (false = r)) (false = r)) (false = r)) (false = r)

set_option maxRecDepth 100000 in
set_option maxHeartbeats 1000000 in
theorem law23_speaks_ok  {r : Bool}  (h : law23_speaks_o  r) : Pure Try.prog 24 [] (.bl r) := by
  refine pureK t24 (Nat.le_of_ble_eq_true rfl) (by kernel_rfl) fun B H n hB => ?_
  dsimp only [c24]
  unfold law23_speaks_o at h
  refine WK_conv (ks' := ⟨[], [], H, n⟩) (by kernel_rfl) ?_
  refine WK_seq ?_
  refine WK_ops ?_
  refine @WD_q _ _ _ _ _ _ _ _ 1 1 [] (by kernel_rfl) rfl trivial ?_
  refine @WD_end _ _ _ _ _ _ _ _ hB [] [] ⟨[], [], H, n⟩ (by kernel_rfl) (by kernel_rfl) ?_
  refine sqn ?_
  refine WK_seq ?_
  refine WK_ops ?_
  obtain ⟨z1, z2, h⟩ := h
  refine @WD_c _ _ _ _ _ _ _ _ ⟨some 6, none, .call 36 [(.c (.it .i64 1))]⟩ 36 [.it .i64 (1 : Int)] [.it .i64 (1 : Int)] [.it .i64 (1 : Int)] [] (.agg [.it .i64 z1.Kind, .it .i64 z1.N, .st z1.S]) (by kernel_rfl) (by kernel_rfl) (.inl ⟨[(.c (.it .i64 1))], rfl, by kernel_rfl⟩) (by kernel_rfl) (by kernel_rfl) (by kernel_rfl) (value_OfInt_ok z2) ?_
  obtain ⟨z3, z4, h⟩ := h
  refine @WD_q _ _ _ _ _ _ _ _ 1 2 [] (by kernel_rfl) rfl trivial ?_
  refine @WD_c _ _ _ _ _ _ _ _ ⟨some 8, none, .call 50 [(.t 7)]⟩ 50 [.gs (.l 7 2) 1] [slA e_value_Value ([z1] : List T_value_Value)] [slA e_value_Value ([z1] : List T_value_Value)] [(7, 2)] (.agg [.it .i64 z3.Rows, slA e_agg_One z3.L]) (by kernel_rfl) (by kernel_rfl) (.inl ⟨[(.t 7)], rfl, by kernel_rfl⟩) (by kernel_rfl) (by kernel_rfl) (by kernel_rfl) (agg_Of_ok z4) ?_
  obtain ⟨z5, z6, h⟩ := h
  refine @WD_q _ _ _ _ _ _ _ _ 2 5 [] (by kernel_rfl) rfl trivial ?_
  refine @WD_c _ _ _ _ _ _ _ _ ⟨some 11, none, .call 50 [(.t 10)]⟩ 50 [.gs (.l 10 2) 1] [slA e_value_Value ([(⟨(0 : Int), (0 : Int), ([] : Str)⟩ : T_value_Value)] : List T_value_Value)] [slA e_value_Value ([(⟨(0 : Int), (0 : Int), ([] : Str)⟩ : T_value_Value)] : List T_value_Value)] [(10, 2)] (.agg [.it .i64 z5.Rows, slA e_agg_One z5.L]) (by kernel_rfl) (by kernel_rfl) (.inl ⟨[(.t 10)], rfl, by kernel_rfl⟩) (by kernel_rfl) (by kernel_rfl) (by kernel_rfl) (agg_Of_ok z6) ?_
  obtain ⟨z7, z8, h⟩ := h
  refine @WD_c _ _ _ _ _ _ _ _ ⟨some 12, none, .call 27 [(.t 8), (.t 11)]⟩ 27 [.agg [.it .i64 z3.Rows, slA e_agg_One z3.L], .agg [.it .i64 z5.Rows, slA e_agg_One z5.L]] [.agg [.it .i64 z3.Rows, slA e_agg_One z3.L], .agg [.it .i64 z5.Rows, slA e_agg_One z5.L]] [.agg [.it .i64 z3.Rows, slA e_agg_One z3.L], .agg [.it .i64 z5.Rows, slA e_agg_One z5.L]] [] (.agg [.it .i64 z7.Rows, slA e_agg_One z7.L]) (by kernel_rfl) (by kernel_rfl) (.inl ⟨[(.t 8), (.t 11)], rfl, by kernel_rfl⟩) (by kernel_rfl) (by kernel_rfl) (by kernel_rfl) (agg_Plus_ok z8) ?_
  refine @WD_q _ _ _ _ _ _ _ _ 2 9 [] (by kernel_rfl) rfl trivial ?_
  refine @WD_end _ _ _ _ _ _ _ _ hB [1] [(1, 2)] ⟨[(1, .pt (.l 1 1) 0)], [(1, ⟨58, 2, [.it .i64 z7.Rows, slA e_agg_One z7.L], true⟩)], H, n⟩ (by kernel_rfl) (by kernel_rfl) ?_
  refine sqn ?_
  refine WK_seq ?_
  refine WK_ops ?_
  obtain ⟨z9, z10, h⟩ := h
  refine @WD_q _ _ _ _ _ _ _ _ 1 1 [] (by kernel_rfl) rfl trivial ?_
  refine @WD_c _ _ _ _ _ _ _ _ ⟨some 15, none, .call 51 [(.t 14), (.c (.it .i64 2)), (.c (.it .i64 0))]⟩ 51 [.agg [.it .i64 z7.Rows, slA e_agg_One z7.L], .it .i64 (2 : Int), .it .i64 (0 : Int)] [.agg [.it .i64 z7.Rows, slA e_agg_One z7.L], .it .i64 (2 : Int), .it .i64 (0 : Int)] [.agg [.it .i64 z7.Rows, slA e_agg_One z7.L], .it .i64 (2 : Int), .it .i64 (0 : Int)] [] (.tup [.agg [.it .i64 z9.1.Kind, .it .i64 z9.1.N, .st z9.1.S], .it .i64 z9.2]) (by kernel_rfl) (by kernel_rfl) (.inl ⟨[(.t 14), (.c (.it .i64 2)), (.c (.it .i64 0))], rfl, by kernel_rfl⟩) (by kernel_rfl) (by kernel_rfl) (by kernel_rfl) (agg_Part_Final_ok z10) ?_
  refine @WD_q _ _ _ _ _ _ _ _ 6 8 [] (by kernel_rfl) rfl trivial ?_
  refine @WD_end _ _ _ _ _ _ _ _ hB [1, 2, 3] [(1, 1), (2, 2)] ⟨[(1, .pt (.l 1 1) 0), (2, .pt (.l 2 1) 0), (3, .it .i64 z9.2)], [(1, ⟨58, 2, [.it .i64 z7.Rows, slA e_agg_One z7.L], true⟩), (2, ⟨88, 3, [.it .i64 z9.1.Kind, .it .i64 z9.1.N, .st z9.1.S], true⟩)], H, n⟩ (by kernel_rfl) (by kernel_rfl) ?_
  refine sqn ?_
  refine WK_seq ?_
  refine WK_ops ?_
  obtain ⟨z11, z12, h⟩ := h
  refine @WD_q _ _ _ _ _ _ _ _ 1 1 [] (by kernel_rfl) rfl trivial ?_
  refine @WD_c _ _ _ _ _ _ _ _ ⟨some 20, none, .call 51 [(.t 19), (.c (.it .i64 1)), (.c (.it .i64 (-1)))]⟩ 51 [.agg [.it .i64 z7.Rows, slA e_agg_One z7.L], .it .i64 (1 : Int), .it .i64 (-1 : Int)] [.agg [.it .i64 z7.Rows, slA e_agg_One z7.L], .it .i64 (1 : Int), .it .i64 (-1 : Int)] [.agg [.it .i64 z7.Rows, slA e_agg_One z7.L], .it .i64 (1 : Int), .it .i64 (-1 : Int)] [] (.tup [.agg [.it .i64 z11.1.Kind, .it .i64 z11.1.N, .st z11.1.S], .it .i64 z11.2]) (by kernel_rfl) (by kernel_rfl) (.inl ⟨[(.t 19), (.c (.it .i64 1)), (.c (.it .i64 (-1)))], rfl, by kernel_rfl⟩) (by kernel_rfl) (by kernel_rfl) (by kernel_rfl) (agg_Part_Final_ok z12) ?_
  refine @WD_q _ _ _ _ _ _ _ _ 6 8 [] (by kernel_rfl) rfl trivial ?_
  refine @WD_end _ _ _ _ _ _ _ _ hB [1, 2, 3, 4, 5] [(1, 1), (2, 1), (4, 2)] ⟨[(1, .pt (.l 1 1) 0), (2, .pt (.l 2 1) 0), (3, .it .i64 z9.2), (4, .pt (.l 4 1) 0), (5, .it .i64 z11.2)], [(1, ⟨58, 2, [.it .i64 z7.Rows, slA e_agg_One z7.L], true⟩), (2, ⟨88, 3, [.it .i64 z9.1.Kind, .it .i64 z9.1.N, .st z9.1.S], true⟩), (4, ⟨88, 3, [.it .i64 z11.1.Kind, .it .i64 z11.1.N, .st z11.1.S], true⟩)], H, n⟩ (by kernel_rfl) (by kernel_rfl) ?_
  refine sqn ?_
  refine WK_seq ?_
  refine WK_drw ?_
  refine @DD_q _ _ _ _ _ _ 3 3 [] (by kernel_rfl) rfl trivial ?_
  refine @DD_bool _ _ _ _ _ _ 25 (z9.2 == (0 : Int)) (by kernel_rfl) (fun b13 => ?_) (fun b13 => ?_)
  · have h := h.1 b13
    refine @DD_q _ _ _ _ _ _ 4 7 [] (by kernel_rfl) rfl trivial ?_
    refine @DD_bool _ _ _ _ _ _ 29 (z11.2 == (0 : Int)) (by kernel_rfl) (fun b14 => ?_) (fun b14 => ?_)
    · have h := h.1 b14
      obtain ⟨z15, z16, h⟩ := h
      refine @DD_q _ _ _ _ _ _ 1 8 [] (by kernel_rfl) rfl trivial ?_
      refine @DD_c _ _ _ _ _ _ ⟨some 31, some (29, true), .call 36 [(.c (.it .i64 1))]⟩ [7] 36 [.it .i64 (1 : Int)] [.it .i64 (1 : Int)] [.it .i64 (1 : Int)] [] (.agg [.it .i64 z15.Kind, .it .i64 z15.N, .st z15.S]) (by kernel_rfl) (by kernel_rfl) (.inl ⟨[(.c (.it .i64 1))], rfl, by kernel_rfl⟩) (by kernel_rfl) (by kernel_rfl) (by kernel_rfl) (value_OfInt_ok z16) (by kernel_rfl) ?_
      refine @DD_q _ _ _ _ _ _ 3 12 [] (by kernel_rfl) rfl trivial ?_
      refine @DD_bool _ _ _ _ _ _ 34 ((z9.1.Kind == z15.Kind) && ((z9.1.N == z15.N) && ((z9.1.S == z15.S) && true))) (by kernel_rfl) (fun b17 => ?_) (fun b17 => ?_)
      · have h := h.1 b17
        refine @DD_q _ _ _ _ _ _ 5 17 [] (by kernel_rfl) rfl trivial ?_
        refine @DD_bool _ _ _ _ _ _ 39 (z9.1.Kind == (2 : Int)) (by kernel_rfl) (fun b18 => ?_) (fun b18 => ?_)
        · have h := h.1 b18
          obtain ⟨z19, z20, h⟩ := h
          refine @DD_q _ _ _ _ _ _ 1 18 [] (by kernel_rfl) rfl trivial ?_
          refine @DD_c _ _ _ _ _ _ ⟨some 41, some (39, true), .call 36 [(.c (.it .i64 2))]⟩ [17] 36 [.it .i64 (2 : Int)] [.it .i64 (2 : Int)] [.it .i64 (2 : Int)] [] (.agg [.it .i64 z19.Kind, .it .i64 z19.N, .st z19.S]) (by kernel_rfl) (by kernel_rfl) (.inl ⟨[(.c (.it .i64 2))], rfl, by kernel_rfl⟩) (by kernel_rfl) (by kernel_rfl) (by kernel_rfl) (value_OfInt_ok z20) (by kernel_rfl) ?_
          refine @DD_q _ _ _ _ _ _ 3 22 [] (by kernel_rfl) rfl trivial ?_
          refine @DD_bool _ _ _ _ _ _ 44 ((z11.1.Kind == z19.Kind) && ((z11.1.N == z19.N) && ((z11.1.S == z19.S) && true))) (by kernel_rfl) (fun b21 => ?_) (fun b21 => ?_)
          · have h := h.1 b21
            obtain ⟨i23, y22, y24, h⟩ := h
            refine @DD_q _ _ _ _ _ _ 4 26 [0 ≤ (0 : Int) ∧ (0 : Int) < z7.L.length] (by kernel_rfl) rfl ⟨⟨i23, lt_of_at i23 y24⟩, trivial⟩ ?_
            refine @DD_e _ _ _ _ _ _ ⟨some 49, some (44, true), .ld false 1 (.t 48)⟩ [] _ _ (by kernel_rfl) (by kernel_rfl) (fun hk => E_lde e_agg_One (x := (.t 48)) (l := z7.L) (y := y22) (off := (0 : Int).toNat * 9) (m := (0 : Int).toNat) (of := 0) (v := .it .i64 y22.N) hk (by kernel_rfl) (by kernel_rfl) y24 (by kernel_rfl)) rfl (by kernel_rfl) ?_
            refine @DD_q _ _ _ _ _ _ 3 30 [] (by kernel_rfl) rfl trivial ?_
            refine @DD_end _ _ _ _ _ _ _ hB [0] [] ⟨[(0, .bl (y22.N == (1 : Int)))], [], H, n⟩ _ (by kernel_rfl) (by kernel_rfl) ?_
            refine sqn ?_
            refine WK_ret ?_
            have hr : (y22.N == (1 : Int)) = r := h
            subst hr
            refine k_ret (u := .bl (y22.N == (1 : Int))) (by kernel_rfl) (by kernel_rfl) (by kernel_rfl) rfl rfl
          · have h := h.2 b21
            refine @DD_q _ _ _ _ _ _ 8 30 [] (by kernel_rfl) rfl trivial ?_
            refine @DD_end _ _ _ _ _ _ _ hB [0] [] ⟨[(0, .bl false)], [], H, n⟩ _ (by kernel_rfl) (by kernel_rfl) ?_
            refine sqn ?_
            refine WK_ret ?_
            have hr : false = r := h
            subst hr
            refine k_ret (u := .bl false) (by kernel_rfl) (by kernel_rfl) (by kernel_rfl) rfl rfl
        · have h := h.2 b18
          refine @DD_q _ _ _ _ _ _ 13 30 [] (by kernel_rfl) rfl trivial ?_
          refine @DD_end _ _ _ _ _ _ _ hB [0] [] ⟨[(0, .bl false)], [], H, n⟩ _ (by kernel_rfl) (by kernel_rfl) ?_
          refine sqn ?_
          refine WK_ret ?_
          have hr : false = r := h
          subst hr
          refine k_ret (u := .bl false) (by kernel_rfl) (by kernel_rfl) (by kernel_rfl) rfl rfl
      · have h := h.2 b17
        refine @DD_q _ _ _ _ _ _ 18 30 [] (by kernel_rfl) rfl trivial ?_
        refine @DD_end _ _ _ _ _ _ _ hB [0] [] ⟨[(0, .bl false)], [], H, n⟩ _ (by kernel_rfl) (by kernel_rfl) ?_
        refine sqn ?_
        refine WK_ret ?_
        have hr : false = r := h
        subst hr
        refine k_ret (u := .bl false) (by kernel_rfl) (by kernel_rfl) (by kernel_rfl) rfl rfl
    · have h := h.2 b14
      refine @DD_q _ _ _ _ _ _ 23 30 [] (by kernel_rfl) rfl trivial ?_
      refine @DD_end _ _ _ _ _ _ _ hB [0] [] ⟨[(0, .bl false)], [], H, n⟩ _ (by kernel_rfl) (by kernel_rfl) ?_
      refine sqn ?_
      refine WK_ret ?_
      have hr : false = r := h
      subst hr
      refine k_ret (u := .bl false) (by kernel_rfl) (by kernel_rfl) (by kernel_rfl) rfl rfl
  · have h := h.2 b13
    refine @DD_q _ _ _ _ _ _ 27 30 [] (by kernel_rfl) rfl trivial ?_
    refine @DD_end _ _ _ _ _ _ _ hB [0] [] ⟨[(0, .bl false)], [], H, n⟩ _ (by kernel_rfl) (by kernel_rfl) ?_
    refine sqn ?_
    refine WK_ret ?_
    have hr : false = r := h
    subst hr
    refine k_ret (u := .bl false) (by kernel_rfl) (by kernel_rfl) (by kernel_rfl) rfl rfl

def agg_None_o (a0 : Int) (r : T_agg_Part) : Prop :=
  (0 ≤ a0) ∧ (88 * a0.toNat ≤ 281474976710656) ∧ (a0 ≤ 1000000000) ∧ (⟨(0 : Int), List.replicate a0.toNat (⟨(0 : Int), (⟨(0 : Int), (0 : Int)⟩ : T_wide_Wide), (⟨(0 : Int), (0 : Int), ([] : Str)⟩ : T_value_Value), (⟨(0 : Int), (0 : Int), ([] : Str)⟩ : T_value_Value)⟩ : T_agg_One)⟩ : T_agg_Part) = r

set_option maxRecDepth 100000 in
set_option maxHeartbeats 1000000 in
theorem agg_None_ok {a0 : Int} {r : T_agg_Part}  (h : agg_None_o a0 r) : Pure Try.prog 25 [.it .i64 a0] (.agg [.it .i64 r.Rows, slA e_agg_One r.L]) := by
  refine pureK t25 (Nat.le_of_ble_eq_true rfl) (by kernel_rfl) fun B H n hB => ?_
  dsimp only [c25]
  unfold agg_None_o at h
  refine WK_conv (ks' := ⟨[(0, .it .i64 a0)], [], H, n⟩) (by kernel_rfl) ?_
  refine WK_seq ?_
  refine WK_ops ?_
  refine @WD_q _ _ _ _ _ _ _ _ 1 1 [] (by kernel_rfl) rfl trivial ?_
  refine @WD_end _ _ _ _ _ _ _ _ hB [0, 2] [(2, 2)] ⟨[(0, .it .i64 a0), (2, .pt (.l 2 1) 0)], [(2, ⟨58, 2, [.it .i64 (0 : Int), .sl true 0 []], true⟩)], H, n⟩ (by kernel_rfl) (by kernel_rfl) ?_
  refine sqn ?_
  refine WK_seq ?_
  refine WK_ops ?_
  obtain ⟨c1, h⟩ := h
  obtain ⟨c2, h⟩ := h
  obtain ⟨c3, h⟩ := h
  refine @WD_q _ _ _ _ _ _ _ _ 1 1 [] (by kernel_rfl) rfl trivial ?_
  refine WD_mks e_agg_One (k := .i64) (k' := .i64) (o := ⟨some 4, none, .mks 115 9 88 [(.it .i64 0), (.it .i64 0), (.it .u64 0), (.it .i64 0), (.it .i64 0), (.st []), (.it .i64 0), (.it .i64 0), (.st [])] (.t 3) (.t 3)⟩) (q := a0) (v := (⟨(0 : Int), (⟨(0 : Int), (0 : Int)⟩ : T_wide_Wide), (⟨(0 : Int), (0 : Int), ([] : Str)⟩ : T_value_Value), (⟨(0 : Int), (0 : Int), ([] : Str)⟩ : T_value_Value)⟩ : T_agg_One)) (by kernel_rfl) rfl (by kernel_rfl) (by kernel_rfl) (by kernel_rfl) (by kernel_rfl) (by kernel_rfl) (by kernel_rfl) c1 c2 c3 ?_
  refine @WD_q _ _ _ _ _ _ _ _ 2 4 [] (by kernel_rfl) rfl trivial ?_
  refine @WD_end _ _ _ _ _ _ _ _ hB [2] [(2, 1), (4, 2)] ⟨[(2, .pt (.l 2 1) 0)], [(2, ⟨58, 2, [.it .i64 (0 : Int), rwA 4 1 (List.replicate a0.toNat (⟨(0 : Int), (⟨(0 : Int), (0 : Int)⟩ : T_wide_Wide), (⟨(0 : Int), (0 : Int), ([] : Str)⟩ : T_value_Value), (⟨(0 : Int), (0 : Int), ([] : Str)⟩ : T_value_Value)⟩ : T_agg_One))], false⟩), (4, rwB 115 e_agg_One (List.replicate a0.toNat (⟨(0 : Int), (⟨(0 : Int), (0 : Int)⟩ : T_wide_Wide), (⟨(0 : Int), (0 : Int), ([] : Str)⟩ : T_value_Value), (⟨(0 : Int), (0 : Int), ([] : Str)⟩ : T_value_Value)⟩ : T_agg_One)))], H, n⟩ (by kernel_rfl) (by kernel_rfl) ?_
  refine sqn ?_
  refine WK_keep hB (ts := [2]) (ds := [2, 4]) (ks' := ⟨[(2, .pt (.l 2 1) 0)], [(2, ⟨58, 2, [.it .i64 (0 : Int), rwA 4 1 (List.replicate a0.toNat (⟨(0 : Int), (⟨(0 : Int), (0 : Int)⟩ : T_wide_Wide), (⟨(0 : Int), (0 : Int), ([] : Str)⟩ : T_value_Value), (⟨(0 : Int), (0 : Int), ([] : Str)⟩ : T_value_Value)⟩ : T_agg_One))], false⟩), (4, rwB 115 e_agg_One (List.replicate a0.toNat (⟨(0 : Int), (⟨(0 : Int), (0 : Int)⟩ : T_wide_Wide), (⟨(0 : Int), (0 : Int), ([] : Str)⟩ : T_value_Value), (⟨(0 : Int), (0 : Int), ([] : Str)⟩ : T_value_Value)⟩ : T_agg_One)))], H, n⟩) (by kernel_rfl) ?_
  refine WK_pub hB (s := 4) (ts := [2]) (ds := [2]) (C := [(cl e_agg_One (List.replicate a0.toNat (⟨(0 : Int), (⟨(0 : Int), (0 : Int)⟩ : T_wide_Wide), (⟨(0 : Int), (0 : Int), ([] : Str)⟩ : T_value_Value), (⟨(0 : Int), (0 : Int), ([] : Str)⟩ : T_value_Value)⟩ : T_agg_One))).length = (List.replicate a0.toNat (⟨(0 : Int), (⟨(0 : Int), (0 : Int)⟩ : T_wide_Wide), (⟨(0 : Int), (0 : Int), ([] : Str)⟩ : T_value_Value), (⟨(0 : Int), (0 : Int), ([] : Str)⟩ : T_value_Value)⟩ : T_agg_One)).length * 9]) (ks' := ⟨[(2, .pt (.l 2 1) 0)], [(2, ⟨58, 2, [.it .i64 (0 : Int), slA e_agg_One (List.replicate a0.toNat (⟨(0 : Int), (⟨(0 : Int), (0 : Int)⟩ : T_wide_Wide), (⟨(0 : Int), (0 : Int), ([] : Str)⟩ : T_value_Value), (⟨(0 : Int), (0 : Int), ([] : Str)⟩ : T_value_Value)⟩ : T_agg_One))], true⟩)], H, n⟩) (by kernel_rfl) ⟨cl_len e_agg_One (List.replicate a0.toNat (⟨(0 : Int), (⟨(0 : Int), (0 : Int)⟩ : T_wide_Wide), (⟨(0 : Int), (0 : Int), ([] : Str)⟩ : T_value_Value), (⟨(0 : Int), (0 : Int), ([] : Str)⟩ : T_value_Value)⟩ : T_agg_One)), trivial⟩ ?_
  refine WK_ret ?_
  have hr : (⟨(0 : Int), List.replicate a0.toNat (⟨(0 : Int), (⟨(0 : Int), (0 : Int)⟩ : T_wide_Wide), (⟨(0 : Int), (0 : Int), ([] : Str)⟩ : T_value_Value), (⟨(0 : Int), (0 : Int), ([] : Str)⟩ : T_value_Value)⟩ : T_agg_One)⟩ : T_agg_Part) = r := h
  subst hr
  refine k_ret (u := .agg [.it .i64 (0 : Int), slA e_agg_One (List.replicate a0.toNat (⟨(0 : Int), (⟨(0 : Int), (0 : Int)⟩ : T_wide_Wide), (⟨(0 : Int), (0 : Int), ([] : Str)⟩ : T_value_Value), (⟨(0 : Int), (0 : Int), ([] : Str)⟩ : T_value_Value)⟩ : T_agg_One))]) (by kernel_rfl) (by kernel_rfl) (by kernel_rfl) rfl rfl

def law23_of_J1 (a0 : T_law23_Value) (r : T_value_Value × T_ref06_Value) (x1 : Int) (x2 : Str) : Prop :=
  ((⟨IntKind.i64.wrap (a0.Kind.tmod (4 : Int)), x1, x2⟩ : T_value_Value), (⟨IntKind.i64.wrap (a0.Kind.tmod (4 : Int)), x1, x2⟩ : T_ref06_Value)) = r
def law23_of_o (a0 : T_law23_Value) (r : T_value_Value × T_ref06_Value) : Prop :=
  cnd ((IntKind.i64.wrap (a0.Kind.tmod (4 : Int))) == (1 : Int)) (law23_of_J1 a0 r (bits .and .i64 a0.N (1 : Int)) ([] : Str)) (cnd ((IntKind.i64.wrap (a0.Kind.tmod (4 : Int))) == (2 : Int)) (law23_of_J1 a0 r a0.N ([] : Str)) (cnd ((IntKind.i64.wrap (a0.Kind.tmod (4 : Int))) == (3 : Int)) ((0 ≤ (0 : Int) ∧ (0 : Int) ≤ (if (64 : Int) < (a0.S.length : Int) then (64 : Int) else (a0.S.length : Int)) ∧ (if (64 : Int) < (a0.S.length : Int) then (64 : Int) else (a0.S.length : Int)) ≤ a0.S.length) ∧ law23_of_J1 a0 r (0 : Int) ((a0.S.drop (0 : Int).toNat).take ((if (64 : Int) < (a0.S.length : Int) then (64 : Int) else (a0.S.length : Int)).toNat - (0 : Int).toNat))) (law23_of_J1 a0 r (0 : Int) ([] : Str))))

set_option maxRecDepth 100000 in
set_option maxHeartbeats 1000000 in
theorem law23_of_ok {a0 : T_law23_Value} {r : T_value_Value × T_ref06_Value}  (h : law23_of_o a0 r) : Pure Try.prog 52 [.agg [.it .u8 a0.Kind, .it .i64 a0.N, .st a0.S]] (.tup [.agg [.it .i64 r.1.Kind, .it .i64 r.1.N, .st r.1.S], .agg [.it .i64 r.2.Kind, .it .i64 r.2.N, .st r.2.S]]) := by
  refine pureK t52 (Nat.le_of_ble_eq_true rfl) (by kernel_rfl) fun B H n hB => ?_
  dsimp only [c52]
  unfold law23_of_o at h
  refine WK_conv (ks' := ⟨[(0, .agg [.it .u8 a0.Kind, .it .i64 a0.N, .st a0.S])], [], H, n⟩) (by kernel_rfl) ?_
  refine WK_seq ?_
  refine WK_ops ?_
  refine @WD_q _ _ _ _ _ _ _ _ 3 3 [] (by kernel_rfl) rfl trivial ?_
  refine @WD_end _ _ _ _ _ _ _ _ hB [1, 2, 3] [(1, 2), (2, 2), (3, 2)] ⟨[(1, .pt (.l 1 1) 0), (2, .pt (.l 2 1) 0), (3, .pt (.l 3 1) 0)], [(1, ⟨67, 3, [.it .u8 a0.Kind, .it .i64 a0.N, .st a0.S], true⟩), (2, ⟨88, 3, [.it .i64 (0 : Int), .it .i64 (0 : Int), .st ([] : Str)], true⟩), (3, ⟨116, 3, [.it .i64 (0 : Int), .it .i64 (0 : Int), .st ([] : Str)], true⟩)], H, n⟩ (by kernel_rfl) (by kernel_rfl) ?_
  refine sqn ?_
  refine WK_seq ?_
  refine WK_ops ?_
  refine @WD_q _ _ _ _ _ _ _ _ 7 7 [(4 : Int) ≠ 0] (by kernel_rfl) rfl ⟨(by decide), trivial⟩ ?_
  refine @WD_end _ _ _ _ _ _ _ _ hB [1, 2, 3, 4] [(1, 1), (2, 1), (3, 1), (4, 2)] ⟨[(1, .pt (.l 1 1) 0), (2, .pt (.l 2 1) 0), (3, .pt (.l 3 1) 0), (4, .pt (.l 4 1) 0)], [(1, ⟨67, 3, [.it .u8 a0.Kind, .it .i64 a0.N, .st a0.S], true⟩), (2, ⟨88, 3, [.it .i64 (0 : Int), .it .i64 (0 : Int), .st ([] : Str)], true⟩), (3, ⟨116, 3, [.it .i64 (0 : Int), .it .i64 (0 : Int), .st ([] : Str)], true⟩), (4, ⟨116, 3, [.it .i64 (IntKind.i64.wrap (a0.Kind.tmod (4 : Int))), .it .i64 (0 : Int), .st ([] : Str)], true⟩)], H, n⟩ (by kernel_rfl) (by kernel_rfl) ?_
  refine sqn ?_
  refine WK_seqJ (σ := Int × Str) (fun ((x1, x2) : Int × Str) => law23_of_J1 a0 r x1 x2) (fun ((x1, x2) : Int × Str) ks => ks.keep [2, 3, 4] [2, 3, 4] = ⟨[(2, .pt (.l 2 1) 0), (3, .pt (.l 3 1) 0), (4, .pt (.l 4 1) 0)], [(2, ⟨88, 3, [.it .i64 (0 : Int), .it .i64 (0 : Int), .st ([] : Str)], true⟩), (3, ⟨116, 3, [.it .i64 (0 : Int), .it .i64 (0 : Int), .st ([] : Str)], true⟩), (4, ⟨116, 3, [.it .i64 (IntKind.i64.wrap (a0.Kind.tmod (4 : Int))), .it .i64 x1, .st x2], true⟩)], H, n⟩) (fun X hX2 => ?_) ?_
  · refine WK_seq ?_
    refine WK_ops ?_
    refine @WD_q _ _ _ _ _ _ _ _ 2 2 [] (by kernel_rfl) rfl trivial ?_
    refine @WD_end _ _ _ _ _ _ _ _ hB [1, 2, 3, 4, 11] [(1, 1), (2, 1), (3, 1), (4, 1)] ⟨[(1, .pt (.l 1 1) 0), (2, .pt (.l 2 1) 0), (3, .pt (.l 3 1) 0), (4, .pt (.l 4 1) 0), (11, .it .i64 (IntKind.i64.wrap (a0.Kind.tmod (4 : Int))))], [(1, ⟨67, 3, [.it .u8 a0.Kind, .it .i64 a0.N, .st a0.S], true⟩), (2, ⟨88, 3, [.it .i64 (0 : Int), .it .i64 (0 : Int), .st ([] : Str)], true⟩), (3, ⟨116, 3, [.it .i64 (0 : Int), .it .i64 (0 : Int), .st ([] : Str)], true⟩), (4, ⟨116, 3, [.it .i64 (IntKind.i64.wrap (a0.Kind.tmod (4 : Int))), .it .i64 (0 : Int), .st ([] : Str)], true⟩)], H, n⟩ (by kernel_rfl) (by kernel_rfl) ?_
    refine sqn ?_
    refine WK_block ?_
    refine WK_seq ?_
    refine WK_ops ?_
    refine @WD_q _ _ _ _ _ _ _ _ 2 2 [] (by kernel_rfl) rfl trivial ?_
    refine @WD_end _ _ _ _ _ _ _ _ hB [1, 2, 3, 4, 11, 12] [(1, 1), (2, 1), (3, 1), (4, 1)] ⟨[(1, .pt (.l 1 1) 0), (2, .pt (.l 2 1) 0), (3, .pt (.l 3 1) 0), (4, .pt (.l 4 1) 0), (11, .it .i64 (IntKind.i64.wrap (a0.Kind.tmod (4 : Int)))), (12, .bl ((IntKind.i64.wrap (a0.Kind.tmod (4 : Int))) == (1 : Int)))], [(1, ⟨67, 3, [.it .u8 a0.Kind, .it .i64 a0.N, .st a0.S], true⟩), (2, ⟨88, 3, [.it .i64 (0 : Int), .it .i64 (0 : Int), .st ([] : Str)], true⟩), (3, ⟨116, 3, [.it .i64 (0 : Int), .it .i64 (0 : Int), .st ([] : Str)], true⟩), (4, ⟨116, 3, [.it .i64 (IntKind.i64.wrap (a0.Kind.tmod (4 : Int))), .it .i64 (0 : Int), .st ([] : Str)], true⟩)], H, n⟩ (by kernel_rfl) (by kernel_rfl) ?_
    refine sqn ?_
    refine WK_cond (b := (IntKind.i64.wrap (a0.Kind.tmod (4 : Int))) == (1 : Int)) (by kernel_rfl) (fun b3 => ?_) (fun b3 => ?_)
    · have h := h.1 b3
      refine WK_ops ?_
      refine @WD_q _ _ _ _ _ _ _ _ 5 5 [] (by kernel_rfl) rfl trivial ?_
      refine @WD_end _ _ _ _ _ _ _ _ hB [2, 3, 4] [(2, 1), (3, 1), (4, 1)] ⟨[(2, .pt (.l 2 1) 0), (3, .pt (.l 3 1) 0), (4, .pt (.l 4 1) 0)], [(2, ⟨88, 3, [.it .i64 (0 : Int), .it .i64 (0 : Int), .st ([] : Str)], true⟩), (3, ⟨116, 3, [.it .i64 (0 : Int), .it .i64 (0 : Int), .st ([] : Str)], true⟩), (4, ⟨116, 3, [.it .i64 (IntKind.i64.wrap (a0.Kind.tmod (4 : Int))), .it .i64 (bits .and .i64 a0.N (1 : Int)), .st ([] : Str)], true⟩)], H, n⟩ (by kernel_rfl) (by kernel_rfl) ?_
      refine bkn ?_
      refine sqn (hX2 ((bits .and .i64 a0.N (1 : Int)), ([] : Str)) _ h (by show _ = _; kernel_rfl))
    · have h := h.2 b3
      refine WK_seq ?_
      refine WK_ops ?_
      refine @WD_q _ _ _ _ _ _ _ _ 2 2 [] (by kernel_rfl) rfl trivial ?_
      refine @WD_end _ _ _ _ _ _ _ _ hB [1, 2, 3, 4, 11, 18] [(1, 1), (2, 1), (3, 1), (4, 1)] ⟨[(1, .pt (.l 1 1) 0), (2, .pt (.l 2 1) 0), (3, .pt (.l 3 1) 0), (4, .pt (.l 4 1) 0), (11, .it .i64 (IntKind.i64.wrap (a0.Kind.tmod (4 : Int)))), (18, .bl ((IntKind.i64.wrap (a0.Kind.tmod (4 : Int))) == (2 : Int)))], [(1, ⟨67, 3, [.it .u8 a0.Kind, .it .i64 a0.N, .st a0.S], true⟩), (2, ⟨88, 3, [.it .i64 (0 : Int), .it .i64 (0 : Int), .st ([] : Str)], true⟩), (3, ⟨116, 3, [.it .i64 (0 : Int), .it .i64 (0 : Int), .st ([] : Str)], true⟩), (4, ⟨116, 3, [.it .i64 (IntKind.i64.wrap (a0.Kind.tmod (4 : Int))), .it .i64 (0 : Int), .st ([] : Str)], true⟩)], H, n⟩ (by kernel_rfl) (by kernel_rfl) ?_
      refine sqn ?_
      refine WK_cond (b := (IntKind.i64.wrap (a0.Kind.tmod (4 : Int))) == (2 : Int)) (by kernel_rfl) (fun b4 => ?_) (fun b4 => ?_)
      · have h := h.1 b4
        refine WK_ops ?_
        refine @WD_q _ _ _ _ _ _ _ _ 4 4 [] (by kernel_rfl) rfl trivial ?_
        refine @WD_end _ _ _ _ _ _ _ _ hB [2, 3, 4] [(2, 1), (3, 1), (4, 1)] ⟨[(2, .pt (.l 2 1) 0), (3, .pt (.l 3 1) 0), (4, .pt (.l 4 1) 0)], [(2, ⟨88, 3, [.it .i64 (0 : Int), .it .i64 (0 : Int), .st ([] : Str)], true⟩), (3, ⟨116, 3, [.it .i64 (0 : Int), .it .i64 (0 : Int), .st ([] : Str)], true⟩), (4, ⟨116, 3, [.it .i64 (IntKind.i64.wrap (a0.Kind.tmod (4 : Int))), .it .i64 a0.N, .st ([] : Str)], true⟩)], H, n⟩ (by kernel_rfl) (by kernel_rfl) ?_
        refine bkn ?_
        refine sqn (hX2 (a0.N, ([] : Str)) _ h (by show _ = _; kernel_rfl))
      · have h := h.2 b4
        refine WK_seq ?_
        refine WK_ops ?_
        refine @WD_q _ _ _ _ _ _ _ _ 2 2 [] (by kernel_rfl) rfl trivial ?_
        refine @WD_end _ _ _ _ _ _ _ _ hB [1, 2, 3, 4, 23] [(1, 1), (2, 1), (3, 1), (4, 1)] ⟨[(1, .pt (.l 1 1) 0), (2, .pt (.l 2 1) 0), (3, .pt (.l 3 1) 0), (4, .pt (.l 4 1) 0), (23, .bl ((IntKind.i64.wrap (a0.Kind.tmod (4 : Int))) == (3 : Int)))], [(1, ⟨67, 3, [.it .u8 a0.Kind, .it .i64 a0.N, .st a0.S], true⟩), (2, ⟨88, 3, [.it .i64 (0 : Int), .it .i64 (0 : Int), .st ([] : Str)], true⟩), (3, ⟨116, 3, [.it .i64 (0 : Int), .it .i64 (0 : Int), .st ([] : Str)], true⟩), (4, ⟨116, 3, [.it .i64 (IntKind.i64.wrap (a0.Kind.tmod (4 : Int))), .it .i64 (0 : Int), .st ([] : Str)], true⟩)], H, n⟩ (by kernel_rfl) (by kernel_rfl) ?_
        refine sqn ?_
        refine WK_cond (b := (IntKind.i64.wrap (a0.Kind.tmod (4 : Int))) == (3 : Int)) (by kernel_rfl) (fun b5 => ?_) (fun b5 => ?_)
        · have h := h.1 b5
          refine WK_ops ?_
          obtain ⟨c6, h⟩ := h
          refine @WD_q _ _ _ _ _ _ _ _ 9 9 [0 ≤ (0 : Int) ∧ (0 : Int) ≤ (if (64 : Int) < (a0.S.length : Int) then (64 : Int) else (a0.S.length : Int)) ∧ (if (64 : Int) < (a0.S.length : Int) then (64 : Int) else (a0.S.length : Int)) ≤ a0.S.length] (by kernel_rfl) rfl ⟨c6, trivial⟩ ?_
          refine @WD_end _ _ _ _ _ _ _ _ hB [2, 3, 4] [(2, 1), (3, 1), (4, 1)] ⟨[(2, .pt (.l 2 1) 0), (3, .pt (.l 3 1) 0), (4, .pt (.l 4 1) 0)], [(2, ⟨88, 3, [.it .i64 (0 : Int), .it .i64 (0 : Int), .st ([] : Str)], true⟩), (3, ⟨116, 3, [.it .i64 (0 : Int), .it .i64 (0 : Int), .st ([] : Str)], true⟩), (4, ⟨116, 3, [.it .i64 (IntKind.i64.wrap (a0.Kind.tmod (4 : Int))), .it .i64 (0 : Int), .st ((a0.S.drop (0 : Int).toNat).take ((if (64 : Int) < (a0.S.length : Int) then (64 : Int) else (a0.S.length : Int)).toNat - (0 : Int).toNat))], true⟩)], H, n⟩ (by kernel_rfl) (by kernel_rfl) ?_
          refine bkn ?_
          refine sqn (hX2 ((0 : Int), ((a0.S.drop (0 : Int).toNat).take ((if (64 : Int) < (a0.S.length : Int) then (64 : Int) else (a0.S.length : Int)).toNat - (0 : Int).toNat))) _ h (by show _ = _; kernel_rfl))
        · have h := h.2 b5
          refine WK_skip ?_
          refine bkn ?_
          refine sqn (hX2 ((0 : Int), ([] : Str)) _ h (by show _ = _; kernel_rfl))
  · rintro ⟨x1, x2⟩ _ h hk
    replace h : law23_of_J1 a0 r x1 x2 := h
    unfold law23_of_J1 at h
    refine WK_keep hB hk ?_
    refine WK_seq ?_
    refine WK_drw ?_
    refine @DD_q _ _ _ _ _ _ 4 4 [] (by kernel_rfl) rfl trivial ?_
    refine @DD_end _ _ _ _ _ _ _ hB [2, 3] [(2, 1), (3, 1)] ⟨[(2, .pt (.l 2 1) 0), (3, .pt (.l 3 1) 0)], [(2, ⟨88, 3, [.it .i64 (IntKind.i64.wrap (a0.Kind.tmod (4 : Int))), .it .i64 x1, .st x2], true⟩), (3, ⟨116, 3, [.it .i64 (IntKind.i64.wrap (a0.Kind.tmod (4 : Int))), .it .i64 x1, .st x2], true⟩)], H, n⟩ _ (by kernel_rfl) (by kernel_rfl) ?_
    refine sqn ?_
    refine WK_ret ?_
    have hr : ((⟨IntKind.i64.wrap (a0.Kind.tmod (4 : Int)), x1, x2⟩ : T_value_Value), (⟨IntKind.i64.wrap (a0.Kind.tmod (4 : Int)), x1, x2⟩ : T_ref06_Value)) = r := h
    subst hr
    refine k_ret (u := .tup [.agg [.it .i64 (IntKind.i64.wrap (a0.Kind.tmod (4 : Int))), .it .i64 x1, .st x2], .agg [.it .i64 (IntKind.i64.wrap (a0.Kind.tmod (4 : Int))), .it .i64 x1, .st x2]]) (by kernel_rfl) (by kernel_rfl) (by kernel_rfl) rfl rfl

def law23_told_o (a0 : T_law23_Row) (r : T_agg_Group × T_ref23_Row) : Prop :=
  ∃ z1 : T_value_Value × T_ref06_Value, law23_of_o (⟨a0.A.Kind, a0.A.N, a0.A.S⟩ : T_law23_Value) z1 ∧ ∃ z3 : T_value_Value × T_ref06_Value, law23_of_o (⟨a0.B.Kind, a0.B.N, a0.B.S⟩ : T_law23_Value) z3 ∧ ∃ z5 : T_value_Value, value_OfInt_o (IntKind.i64.wrap (a0.Group.tmod (4 : Int))) z5 ∧ ∃ z7 : T_agg_Part, agg_Of_o ([z1.1, z3.1] : List T_value_Value) z7 ∧ ((⟨([z5] : List T_value_Value), z7⟩ : T_agg_Group), (⟨([(⟨(2 : Int), IntKind.i64.wrap (a0.Group.tmod (4 : Int)), ([] : Str)⟩ : T_ref06_Value)] : List T_ref06_Value), ([z1.2, z3.2] : List T_ref06_Value)⟩ : T_ref23_Row)) = r

set_option maxRecDepth 100000 in
set_option maxHeartbeats 1000000 in
theorem law23_told_ok {a0 : T_law23_Row} {r : T_agg_Group × T_ref23_Row}  (h : law23_told_o a0 r) : Pure Try.prog 26 [.agg [.it .u8 a0.Group, .it .u8 a0.A.Kind, .it .i64 a0.A.N, .st a0.A.S, .it .u8 a0.B.Kind, .it .i64 a0.B.N, .st a0.B.S]] (.tup [.agg [slA e_value_Value r.1.Row, .it .i64 r.1.Part.Rows, slA e_agg_One r.1.Part.L], .agg [slA e_ref06_Value r.2.Group, slA e_ref06_Value r.2.Values]]) := by
  refine pureK t26 (Nat.le_of_ble_eq_true rfl) (by kernel_rfl) fun B H n hB => ?_
  dsimp only [c26]
  unfold law23_told_o at h
  refine WK_conv (ks' := ⟨[(0, .agg [.it .u8 a0.Group, .it .u8 a0.A.Kind, .it .i64 a0.A.N, .st a0.A.S, .it .u8 a0.B.Kind, .it .i64 a0.B.N, .st a0.B.S])], [], H, n⟩) (by kernel_rfl) ?_
  refine WK_seq ?_
  refine WK_ops ?_
  refine @WD_q _ _ _ _ _ _ _ _ 3 3 [] (by kernel_rfl) rfl trivial ?_
  refine @WD_end _ _ _ _ _ _ _ _ hB [1, 2, 3] [(1, 2), (2, 2), (3, 2)] ⟨[(1, .pt (.l 1 1) 0), (2, .pt (.l 2 1) 0), (3, .pt (.l 3 1) 0)], [(1, ⟨69, 7, [.it .u8 a0.Group, .it .u8 a0.A.Kind, .it .i64 a0.A.N, .st a0.A.S, .it .u8 a0.B.Kind, .it .i64 a0.B.N, .st a0.B.S], true⟩), (2, ⟨61, 3, [.sl true 0 [], .it .i64 (0 : Int), .sl true 0 []], true⟩), (3, ⟨63, 2, [.sl true 0 [], .sl true 0 []], true⟩)], H, n⟩ (by kernel_rfl) (by kernel_rfl) ?_
  refine sqn ?_
  refine WK_seq ?_
  refine WK_ops ?_
  obtain ⟨z1, z2, h⟩ := h
  refine @WD_q _ _ _ _ _ _ _ _ 2 2 [] (by kernel_rfl) rfl trivial ?_
  refine @WD_c _ _ _ _ _ _ _ _ ⟨some 12, none, .call 52 [(.t 11)]⟩ 52 [.agg [.it .u8 a0.A.Kind, .it .i64 a0.A.N, .st a0.A.S]] [.agg [.it .u8 a0.A.Kind, .it .i64 a0.A.N, .st a0.A.S]] [.agg [.it .u8 a0.A.Kind, .it .i64 a0.A.N, .st a0.A.S]] [] (.tup [.agg [.it .i64 z1.1.Kind, .it .i64 z1.1.N, .st z1.1.S], .agg [.it .i64 z1.2.Kind, .it .i64 z1.2.N, .st z1.2.S]]) (by kernel_rfl) (by kernel_rfl) (.inl ⟨[(.t 11)], rfl, by kernel_rfl⟩) (by kernel_rfl) (by kernel_rfl) (by kernel_rfl) (law23_of_ok z2) ?_
  refine @WD_q _ _ _ _ _ _ _ _ 7 10 [] (by kernel_rfl) rfl trivial ?_
  refine @WD_end _ _ _ _ _ _ _ _ hB [1, 2, 3, 4, 5] [(1, 1), (2, 1), (3, 1), (4, 2), (5, 2)] ⟨[(1, .pt (.l 1 1) 0), (2, .pt (.l 2 1) 0), (3, .pt (.l 3 1) 0), (4, .pt (.l 4 1) 0), (5, .pt (.l 5 1) 0)], [(1, ⟨69, 7, [.it .u8 a0.Group, .it .u8 a0.A.Kind, .it .i64 a0.A.N, .st a0.A.S, .it .u8 a0.B.Kind, .it .i64 a0.B.N, .st a0.B.S], true⟩), (2, ⟨61, 3, [.sl true 0 [], .it .i64 (0 : Int), .sl true 0 []], true⟩), (3, ⟨63, 2, [.sl true 0 [], .sl true 0 []], true⟩), (4, ⟨88, 3, [.it .i64 z1.1.Kind, .it .i64 z1.1.N, .st z1.1.S], true⟩), (5, ⟨116, 3, [.it .i64 z1.2.Kind, .it .i64 z1.2.N, .st z1.2.S], true⟩)], H, n⟩ (by kernel_rfl) (by kernel_rfl) ?_
  refine sqn ?_
  refine WK_seq ?_
  refine WK_ops ?_
  obtain ⟨z3, z4, h⟩ := h
  refine @WD_q _ _ _ _ _ _ _ _ 2 2 [] (by kernel_rfl) rfl trivial ?_
  refine @WD_c _ _ _ _ _ _ _ _ ⟨some 18, none, .call 52 [(.t 17)]⟩ 52 [.agg [.it .u8 a0.B.Kind, .it .i64 a0.B.N, .st a0.B.S]] [.agg [.it .u8 a0.B.Kind, .it .i64 a0.B.N, .st a0.B.S]] [.agg [.it .u8 a0.B.Kind, .it .i64 a0.B.N, .st a0.B.S]] [] (.tup [.agg [.it .i64 z3.1.Kind, .it .i64 z3.1.N, .st z3.1.S], .agg [.it .i64 z3.2.Kind, .it .i64 z3.2.N, .st z3.2.S]]) (by kernel_rfl) (by kernel_rfl) (.inl ⟨[(.t 17)], rfl, by kernel_rfl⟩) (by kernel_rfl) (by kernel_rfl) (by kernel_rfl) (law23_of_ok z4) ?_
  refine @WD_q _ _ _ _ _ _ _ _ 7 10 [] (by kernel_rfl) rfl trivial ?_
  refine @WD_end _ _ _ _ _ _ _ _ hB [1, 2, 3, 4, 5, 6, 7] [(1, 1), (2, 1), (3, 1), (4, 1), (5, 1), (6, 2), (7, 2)] ⟨[(1, .pt (.l 1 1) 0), (2, .pt (.l 2 1) 0), (3, .pt (.l 3 1) 0), (4, .pt (.l 4 1) 0), (5, .pt (.l 5 1) 0), (6, .pt (.l 6 1) 0), (7, .pt (.l 7 1) 0)], [(1, ⟨69, 7, [.it .u8 a0.Group, .it .u8 a0.A.Kind, .it .i64 a0.A.N, .st a0.A.S, .it .u8 a0.B.Kind, .it .i64 a0.B.N, .st a0.B.S], true⟩), (2, ⟨61, 3, [.sl true 0 [], .it .i64 (0 : Int), .sl true 0 []], true⟩), (3, ⟨63, 2, [.sl true 0 [], .sl true 0 []], true⟩), (4, ⟨88, 3, [.it .i64 z1.1.Kind, .it .i64 z1.1.N, .st z1.1.S], true⟩), (5, ⟨116, 3, [.it .i64 z1.2.Kind, .it .i64 z1.2.N, .st z1.2.S], true⟩), (6, ⟨88, 3, [.it .i64 z3.1.Kind, .it .i64 z3.1.N, .st z3.1.S], true⟩), (7, ⟨116, 3, [.it .i64 z3.2.Kind, .it .i64 z3.2.N, .st z3.2.S], true⟩)], H, n⟩ (by kernel_rfl) (by kernel_rfl) ?_
  refine sqn ?_
  refine WK_seq ?_
  refine WK_ops ?_
  refine @WD_q _ _ _ _ _ _ _ _ 5 5 [(4 : Int) ≠ 0] (by kernel_rfl) rfl ⟨(by decide), trivial⟩ ?_
  refine @WD_end _ _ _ _ _ _ _ _ hB [2, 3, 4, 5, 6, 7, 8] [(2, 1), (3, 1), (4, 1), (5, 1), (6, 1), (7, 1)] ⟨[(2, .pt (.l 2 1) 0), (3, .pt (.l 3 1) 0), (4, .pt (.l 4 1) 0), (5, .pt (.l 5 1) 0), (6, .pt (.l 6 1) 0), (7, .pt (.l 7 1) 0), (8, .it .i64 (IntKind.i64.wrap (a0.Group.tmod (4 : Int))))], [(2, ⟨61, 3, [.sl true 0 [], .it .i64 (0 : Int), .sl true 0 []], true⟩), (3, ⟨63, 2, [.sl true 0 [], .sl true 0 []], true⟩), (4, ⟨88, 3, [.it .i64 z1.1.Kind, .it .i64 z1.1.N, .st z1.1.S], true⟩), (5, ⟨116, 3, [.it .i64 z1.2.Kind, .it .i64 z1.2.N, .st z1.2.S], true⟩), (6, ⟨88, 3, [.it .i64 z3.1.Kind, .it .i64 z3.1.N, .st z3.1.S], true⟩), (7, ⟨116, 3, [.it .i64 z3.2.Kind, .it .i64 z3.2.N, .st z3.2.S], true⟩)], H, n⟩ (by kernel_rfl) (by kernel_rfl) ?_
  refine sqn ?_
  refine WK_seq ?_
  refine WK_drw ?_
  obtain ⟨z5, z6, h⟩ := h
  refine @DD_q _ _ _ _ _ _ 1 1 [] (by kernel_rfl) rfl trivial ?_
  refine @DD_c _ _ _ _ _ _ ⟨some 26, none, .call 36 [(.t 25)]⟩ [] 36 [.it .i64 (IntKind.i64.wrap (a0.Group.tmod (4 : Int)))] [.it .i64 (IntKind.i64.wrap (a0.Group.tmod (4 : Int)))] [.it .i64 (IntKind.i64.wrap (a0.Group.tmod (4 : Int)))] [] (.agg [.it .i64 z5.Kind, .it .i64 z5.N, .st z5.S]) (by kernel_rfl) (by kernel_rfl) (.inl ⟨[(.t 25)], rfl, by kernel_rfl⟩) (by kernel_rfl) (by kernel_rfl) (by kernel_rfl) (value_OfInt_ok z6) (by kernel_rfl) ?_
  obtain ⟨z7, z8, h⟩ := h
  refine @DD_q _ _ _ _ _ _ 4 6 [] (by kernel_rfl) rfl trivial ?_
  refine @DD_c _ _ _ _ _ _ ⟨some 31, none, .call 50 [(.t 30)]⟩ [2] 50 [.gs (.l 30 2) 2] [slA e_value_Value ([z1.1, z3.1] : List T_value_Value)] [slA e_value_Value ([z1.1, z3.1] : List T_value_Value)] [(30, 2)] (.agg [.it .i64 z7.Rows, slA e_agg_One z7.L]) (by kernel_rfl) (by kernel_rfl) (.inl ⟨[(.t 30)], rfl, by kernel_rfl⟩) (by kernel_rfl) (by kernel_rfl) (by kernel_rfl) (agg_Of_ok z8) (by kernel_rfl) ?_
  refine @DD_q _ _ _ _ _ _ 10 17 [] (by kernel_rfl) rfl trivial ?_
  refine @DD_end _ _ _ _ _ _ _ hB [2, 3] [(2, 1), (3, 1), (27, 2), (35, 2), (38, 2)] ⟨[(2, .pt (.l 2 1) 0), (3, .pt (.l 3 1) 0)], [(2, ⟨61, 3, [rwA 27 1 ([z5] : List T_value_Value), .it .i64 z7.Rows, slA e_agg_One z7.L], false⟩), (3, ⟨63, 2, [rwA 35 1 ([(⟨(2 : Int), IntKind.i64.wrap (a0.Group.tmod (4 : Int)), ([] : Str)⟩ : T_ref06_Value)] : List T_ref06_Value), rwA 38 1 ([z1.2, z3.2] : List T_ref06_Value)], false⟩), (27, rwB 88 e_value_Value ([z5] : List T_value_Value)), (35, rwB 116 e_ref06_Value ([(⟨(2 : Int), IntKind.i64.wrap (a0.Group.tmod (4 : Int)), ([] : Str)⟩ : T_ref06_Value)] : List T_ref06_Value)), (38, rwB 116 e_ref06_Value ([z1.2, z3.2] : List T_ref06_Value))], H, n⟩ _ (by kernel_rfl) (by kernel_rfl) ?_
  refine sqn ?_
  refine WK_keep hB (ts := [2, 3]) (ds := [2, 3, 27, 35, 38]) (ks' := ⟨[(2, .pt (.l 2 1) 0), (3, .pt (.l 3 1) 0)], [(2, ⟨61, 3, [rwA 27 1 ([z5] : List T_value_Value), .it .i64 z7.Rows, slA e_agg_One z7.L], false⟩), (3, ⟨63, 2, [rwA 35 1 ([(⟨(2 : Int), IntKind.i64.wrap (a0.Group.tmod (4 : Int)), ([] : Str)⟩ : T_ref06_Value)] : List T_ref06_Value), rwA 38 1 ([z1.2, z3.2] : List T_ref06_Value)], false⟩), (27, rwB 88 e_value_Value ([z5] : List T_value_Value)), (35, rwB 116 e_ref06_Value ([(⟨(2 : Int), IntKind.i64.wrap (a0.Group.tmod (4 : Int)), ([] : Str)⟩ : T_ref06_Value)] : List T_ref06_Value)), (38, rwB 116 e_ref06_Value ([z1.2, z3.2] : List T_ref06_Value))], H, n⟩) (by kernel_rfl) ?_
  refine WK_pub hB (s := 27) (ts := [2, 3]) (ds := [2, 3, 35, 38]) (C := [(cl e_value_Value ([z5] : List T_value_Value)).length = ([z5] : List T_value_Value).length * 3]) (ks' := ⟨[(2, .pt (.l 2 1) 0), (3, .pt (.l 3 1) 0)], [(2, ⟨61, 3, [slA e_value_Value ([z5] : List T_value_Value), .it .i64 z7.Rows, slA e_agg_One z7.L], true⟩), (3, ⟨63, 2, [rwA 35 1 ([(⟨(2 : Int), IntKind.i64.wrap (a0.Group.tmod (4 : Int)), ([] : Str)⟩ : T_ref06_Value)] : List T_ref06_Value), rwA 38 1 ([z1.2, z3.2] : List T_ref06_Value)], false⟩), (35, rwB 116 e_ref06_Value ([(⟨(2 : Int), IntKind.i64.wrap (a0.Group.tmod (4 : Int)), ([] : Str)⟩ : T_ref06_Value)] : List T_ref06_Value)), (38, rwB 116 e_ref06_Value ([z1.2, z3.2] : List T_ref06_Value))], H, n⟩) (by kernel_rfl) ⟨cl_len e_value_Value ([z5] : List T_value_Value), trivial⟩ ?_
  refine WK_keep hB (ts := [2, 3]) (ds := [2, 3, 35, 38]) (ks' := ⟨[(2, .pt (.l 2 1) 0), (3, .pt (.l 3 1) 0)], [(2, ⟨61, 3, [slA e_value_Value ([z5] : List T_value_Value), .it .i64 z7.Rows, slA e_agg_One z7.L], true⟩), (3, ⟨63, 2, [rwA 35 1 ([(⟨(2 : Int), IntKind.i64.wrap (a0.Group.tmod (4 : Int)), ([] : Str)⟩ : T_ref06_Value)] : List T_ref06_Value), rwA 38 1 ([z1.2, z3.2] : List T_ref06_Value)], false⟩), (35, rwB 116 e_ref06_Value ([(⟨(2 : Int), IntKind.i64.wrap (a0.Group.tmod (4 : Int)), ([] : Str)⟩ : T_ref06_Value)] : List T_ref06_Value)), (38, rwB 116 e_ref06_Value ([z1.2, z3.2] : List T_ref06_Value))], H, n⟩) (by kernel_rfl) ?_
  refine WK_pub hB (s := 35) (ts := [2, 3]) (ds := [2, 3, 38]) (C := [(cl e_ref06_Value ([(⟨(2 : Int), IntKind.i64.wrap (a0.Group.tmod (4 : Int)), ([] : Str)⟩ : T_ref06_Value)] : List T_ref06_Value)).length = ([(⟨(2 : Int), IntKind.i64.wrap (a0.Group.tmod (4 : Int)), ([] : Str)⟩ : T_ref06_Value)] : List T_ref06_Value).length * 3]) (ks' := ⟨[(2, .pt (.l 2 1) 0), (3, .pt (.l 3 1) 0)], [(2, ⟨61, 3, [slA e_value_Value ([z5] : List T_value_Value), .it .i64 z7.Rows, slA e_agg_One z7.L], true⟩), (3, ⟨63, 2, [slA e_ref06_Value ([(⟨(2 : Int), IntKind.i64.wrap (a0.Group.tmod (4 : Int)), ([] : Str)⟩ : T_ref06_Value)] : List T_ref06_Value), rwA 38 1 ([z1.2, z3.2] : List T_ref06_Value)], false⟩), (38, rwB 116 e_ref06_Value ([z1.2, z3.2] : List T_ref06_Value))], H, n⟩) (by kernel_rfl) ⟨cl_len e_ref06_Value ([(⟨(2 : Int), IntKind.i64.wrap (a0.Group.tmod (4 : Int)), ([] : Str)⟩ : T_ref06_Value)] : List T_ref06_Value), trivial⟩ ?_
  refine WK_keep hB (ts := [2, 3]) (ds := [2, 3, 38]) (ks' := ⟨[(2, .pt (.l 2 1) 0), (3, .pt (.l 3 1) 0)], [(2, ⟨61, 3, [slA e_value_Value ([z5] : List T_value_Value), .it .i64 z7.Rows, slA e_agg_One z7.L], true⟩), (3, ⟨63, 2, [slA e_ref06_Value ([(⟨(2 : Int), IntKind.i64.wrap (a0.Group.tmod (4 : Int)), ([] : Str)⟩ : T_ref06_Value)] : List T_ref06_Value), rwA 38 1 ([z1.2, z3.2] : List T_ref06_Value)], false⟩), (38, rwB 116 e_ref06_Value ([z1.2, z3.2] : List T_ref06_Value))], H, n⟩) (by kernel_rfl) ?_
  refine WK_pub hB (s := 38) (ts := [2, 3]) (ds := [2, 3]) (C := [(cl e_ref06_Value ([z1.2, z3.2] : List T_ref06_Value)).length = ([z1.2, z3.2] : List T_ref06_Value).length * 3]) (ks' := ⟨[(2, .pt (.l 2 1) 0), (3, .pt (.l 3 1) 0)], [(2, ⟨61, 3, [slA e_value_Value ([z5] : List T_value_Value), .it .i64 z7.Rows, slA e_agg_One z7.L], true⟩), (3, ⟨63, 2, [slA e_ref06_Value ([(⟨(2 : Int), IntKind.i64.wrap (a0.Group.tmod (4 : Int)), ([] : Str)⟩ : T_ref06_Value)] : List T_ref06_Value), slA e_ref06_Value ([z1.2, z3.2] : List T_ref06_Value)], true⟩)], H, n⟩) (by kernel_rfl) ⟨cl_len e_ref06_Value ([z1.2, z3.2] : List T_ref06_Value), trivial⟩ ?_
  refine WK_ret ?_
  have hr : ((⟨([z5] : List T_value_Value), z7⟩ : T_agg_Group), (⟨([(⟨(2 : Int), IntKind.i64.wrap (a0.Group.tmod (4 : Int)), ([] : Str)⟩ : T_ref06_Value)] : List T_ref06_Value), ([z1.2, z3.2] : List T_ref06_Value)⟩ : T_ref23_Row)) = r := h
  subst hr
  refine k_ret (u := .tup [.agg [slA e_value_Value ([z5] : List T_value_Value), .it .i64 z7.Rows, slA e_agg_One z7.L], .agg [slA e_ref06_Value ([(⟨(2 : Int), IntKind.i64.wrap (a0.Group.tmod (4 : Int)), ([] : Str)⟩ : T_ref06_Value)] : List T_ref06_Value), slA e_ref06_Value ([z1.2, z3.2] : List T_ref06_Value)]]) (by kernel_rfl) (by kernel_rfl) (by kernel_rfl) rfl rfl

def pack_wide_J1 (r : (List Int)) (l4 : (List Int)) : Prop :=
  l4 = r
def pack_wide_L3 (a1 : Int) (a0 : Int) (r : (List Int)) (X3 : (List Int) → Int → Prop) (l5 : (List Int)) (x6 : Int) : Prop :=
  cnd (decide (x6 < ((List.replicate a1.toNat (0 : Int)).length : Int))) ((¬ (IntKind.i64.wrap ((8 : Int) * x6)) < 0) ∧ 0 ≤ (IntKind.i64.wrap ((IntKind.i64.wrap (a1 - (1 : Int))) - x6)) ∧ ∃ y9 : Int, l5[(IntKind.i64.wrap ((IntKind.i64.wrap (a1 - (1 : Int))) - x6)).toNat]? = some y9 ∧ X3 (l5.set (IntKind.i64.wrap ((IntKind.i64.wrap (a1 - (1 : Int))) - x6)).toNat (IntKind.u8.wrap (a0.fdiv (2 ^ (min (IntKind.i64.wrap ((8 : Int) * x6)).toNat IntKind.u64.bits))))) (IntKind.i64.wrap (x6 + (1 : Int)))) (pack_wide_J1 r l5)
def pack_wide_o (a0 : Int) (a1 : Int) (r : (List Int)) : Prop :=
  (0 ≤ a1) ∧ (1 * a1.toNat ≤ 281474976710656) ∧ (a1 ≤ 1000000000) ∧ Lp2 (pack_wide_L3 a1 a0 r) (List.replicate a1.toNat (0 : Int)) (0 : Int)

set_option maxRecDepth 100000 in
set_option maxHeartbeats 1000000 in
theorem pack_wide_ok {a0 : Int} {a1 : Int} {r : (List Int)}  (h : pack_wide_o a0 a1 r) : Pure Try.prog 72 [.it .u64 a0, .it .i64 a1] (slA (eI .u8) r) := by
  refine pureK t72 (Nat.le_of_ble_eq_true rfl) (by kernel_rfl) fun B H n hB => ?_
  dsimp only [c72]
  unfold pack_wide_o at h
  refine WK_conv (ks' := ⟨[(0, .it .u64 a0), (1, .it .i64 a1)], [], H, n⟩) (by kernel_rfl) ?_
  refine WK_seq ?_
  refine WK_ops ?_
  refine @WD_q _ _ _ _ _ _ _ _ 1 1 [] (by kernel_rfl) rfl trivial ?_
  refine @WD_end _ _ _ _ _ _ _ _ hB [0, 1] [] ⟨[(0, .it .u64 a0), (1, .it .i64 a1)], [], H, n⟩ (by kernel_rfl) (by kernel_rfl) ?_
  refine sqn ?_
  refine WK_seq ?_
  refine WK_ops ?_
  obtain ⟨c1, h⟩ := h
  obtain ⟨c2, h⟩ := h
  obtain ⟨c3, h⟩ := h
  refine @WD_q _ _ _ _ _ _ _ _ 1 1 [] (by kernel_rfl) rfl trivial ?_
  refine WD_mks (eI .u8) (k := .i64) (k' := .i64) (o := ⟨some 8, none, .mks 5 1 1 [(.it .u8 0)] (.t 7) (.t 7)⟩) (q := a1) (v := (0 : Int)) (by kernel_rfl) rfl (by kernel_rfl) (by kernel_rfl) (by kernel_rfl) (by kernel_rfl) (by kernel_rfl) (by kernel_rfl) c1 c2 c3 ?_
  refine @WD_q _ _ _ _ _ _ _ _ 1 3 [] (by kernel_rfl) rfl trivial ?_
  refine @WD_end _ _ _ _ _ _ _ _ hB [0, 1, 5] [(8, 2)] ⟨[(0, .it .u64 a0), (1, .it .i64 a1), (5, rwA 8 1 (List.replicate a1.toNat (0 : Int)))], [(8, rwB 5 (eI .u8) (List.replicate a1.toNat (0 : Int)))], H, n⟩ (by kernel_rfl) (by kernel_rfl) ?_
  refine sqn ?_
  refine WK_seqJ (σ := (List Int)) (fun (l4 : (List Int)) => pack_wide_J1 r l4) (fun (l4 : (List Int)) ks => ks.keep [5] [8] = ⟨[(5, rwA 8 1 l4)], [(8, rwB 5 (eI .u8) l4)], H, n⟩) (fun X hX2 => ?_) ?_
  · refine WK_seq ?_
    refine WK_ops ?_
    refine @WD_q _ _ _ _ _ _ _ _ 3 3 [] (by kernel_rfl) rfl trivial ?_
    refine @WD_end _ _ _ _ _ _ _ _ hB [0, 1, 5, 10, 11] [(8, 1)] ⟨[(0, .it .u64 a0), (1, .it .i64 a1), (5, rwA 8 1 (List.replicate a1.toNat (0 : Int))), (10, .it .i64 ((List.replicate a1.toNat (0 : Int)).length : Int)), (11, .it .i64 (0 : Int))], [(8, rwB 5 (eI .u8) (List.replicate a1.toNat (0 : Int)))], H, n⟩ (by kernel_rfl) (by kernel_rfl) ?_
    refine sqn ?_
    refine WK_block ?_
    refine WK_loop fun YX3 hYX3 => ?_
    obtain ⟨X3, hX3⟩ : ∃ q : (List Int) → Int → Prop, q = (fun (l5 : (List Int)) (x6 : Int) => ∀ ks, (ks.keep [0, 1, 5, 10, 11] [8] = ⟨[(0, .it .u64 a0), (1, .it .i64 a1), (5, rwA 8 1 l5), (10, .it .i64 ((List.replicate a1.toNat (0 : Int)).length : Int)), (11, .it .i64 x6)], [(8, rwB 5 (eI .u8) l5)], H, n⟩) → YX3 ks) := ⟨_, rfl⟩
    suffices hs : X3 (List.replicate a1.toNat (0 : Int)) (0 : Int) by rw [hX3] at hs; exact hs _ (by show _ = _; kernel_rfl)
    refine h X3 (fun l5 x6 h => ?_)
    rw [hX3]
    rintro _ hk
    refine hYX3 _ ?_
    unfold pack_wide_L3 at h
    refine WK_keep hB hk ?_
    refine WK_seq ?_
    refine WK_ops ?_
    refine @WD_q _ _ _ _ _ _ _ _ 1 1 [] (by kernel_rfl) rfl trivial ?_
    refine @WD_end _ _ _ _ _ _ _ _ hB [0, 1, 5, 10, 11, 12] [(8, 1)] ⟨[(0, .it .u64 a0), (1, .it .i64 a1), (5, rwA 8 1 l5), (10, .it .i64 ((List.replicate a1.toNat (0 : Int)).length : Int)), (11, .it .i64 x6), (12, .bl (decide (x6 < ((List.replicate a1.toNat (0 : Int)).length : Int))))], [(8, rwB 5 (eI .u8) l5)], H, n⟩ (by kernel_rfl) (by kernel_rfl) ?_
    refine sqn ?_
    refine WK_seq ?_
    refine WK_cond (b := decide (x6 < ((List.replicate a1.toNat (0 : Int)).length : Int))) (by kernel_rfl) (fun b7 => ?_) (fun b7 => ?_)
    · have h := h.1 b7
      refine WK_skip ?_
      refine sqn ?_
      refine WK_seq ?_
      refine WK_block ?_
      refine WK_seq ?_
      refine WK_ops ?_
      refine @WD_q _ _ _ _ _ _ _ _ 2 2 [] (by kernel_rfl) rfl trivial ?_
      refine @WD_end _ _ _ _ _ _ _ _ hB [0, 1, 5, 6, 10, 11] [(8, 1)] ⟨[(0, .it .u64 a0), (1, .it .i64 a1), (5, rwA 8 1 l5), (6, .it .i64 x6), (10, .it .i64 ((List.replicate a1.toNat (0 : Int)).length : Int)), (11, .it .i64 x6)], [(8, rwB 5 (eI .u8) l5)], H, n⟩ (by kernel_rfl) (by kernel_rfl) ?_
      refine sqn ?_
      refine WK_ops ?_
      obtain ⟨c8, h⟩ := h
      obtain ⟨i10, y9, y11, h⟩ := h
      refine @WD_q _ _ _ _ _ _ _ _ 11 11 [¬ (IntKind.i64.wrap ((8 : Int) * x6)) < 0, 0 ≤ (IntKind.i64.wrap ((IntKind.i64.wrap (a1 - (1 : Int))) - x6)) ∧ (IntKind.i64.wrap ((IntKind.i64.wrap (a1 - (1 : Int))) - x6)) < l5.length] (by kernel_rfl) rfl ⟨c8, ⟨i10, lt_of_at i10 y11⟩, trivial⟩ ?_
      refine @WD_e _ _ _ _ _ _ _ _ ⟨none, none, .sto 1 (.t 24) (.t 23)⟩ _ _ (by kernel_rfl) (by kernel_rfl) (fun hk => E_str (eI .u8) (x := (.t 24)) (l := l5) (y := y9) (off := (IntKind.i64.wrap ((IntKind.i64.wrap (a1 - (1 : Int))) - x6)).toNat * 1) (m := (IntKind.i64.wrap ((IntKind.i64.wrap (a1 - (1 : Int))) - x6)).toNat) (of := 0) (s := 8) (c := 1) (e0 := 5) (b := true) (IntKind.u8.wrap (a0.fdiv (2 ^ (min (IntKind.i64.wrap ((8 : Int) * x6)).toNat IntKind.u64.bits)))) hk (by kernel_rfl) (by kernel_rfl) (by kernel_rfl) y11 (by kernel_rfl) (by kernel_rfl)) rfl ?_
      refine @WD_val _ _ _ _ _ _ _ _ 5 (rwA 8 1 l5) (rwA 8 1 (l5.set (IntKind.i64.wrap ((IntKind.i64.wrap (a1 - (1 : Int))) - x6)).toNat (IntKind.u8.wrap (a0.fdiv (2 ^ (min (IntKind.i64.wrap ((8 : Int) * x6)).toNat IntKind.u64.bits)))))) (by kernel_rfl) (by simp only [rwA, List.length_set]) ?_
      refine @WD_val _ _ _ _ _ _ _ _ 14 (rwA 8 1 l5) (rwA 8 1 (l5.set (IntKind.i64.wrap ((IntKind.i64.wrap (a1 - (1 : Int))) - x6)).toNat (IntKind.u8.wrap (a0.fdiv (2 ^ (min (IntKind.i64.wrap ((8 : Int) * x6)).toNat IntKind.u64.bits)))))) (by kernel_rfl) (by simp only [rwA, List.length_set]) ?_
      refine @WD_end _ _ _ _ _ _ _ _ hB [0, 1, 5, 10, 11] [(8, 1)] ⟨[(0, .it .u64 a0), (1, .it .i64 a1), (5, rwA 8 1 (l5.set (IntKind.i64.wrap ((IntKind.i64.wrap (a1 - (1 : Int))) - x6)).toNat (IntKind.u8.wrap (a0.fdiv (2 ^ (min (IntKind.i64.wrap ((8 : Int) * x6)).toNat IntKind.u64.bits)))))), (10, .it .i64 ((List.replicate a1.toNat (0 : Int)).length : Int)), (11, .it .i64 x6)], [(8, rwB 5 (eI .u8) (l5.set (IntKind.i64.wrap ((IntKind.i64.wrap (a1 - (1 : Int))) - x6)).toNat (IntKind.u8.wrap (a0.fdiv (2 ^ (min (IntKind.i64.wrap ((8 : Int) * x6)).toNat IntKind.u64.bits))))))], H, n⟩ (by kernel_rfl) (by kernel_rfl) ?_
      refine bkn ?_
      refine sqn ?_
      refine WK_ops ?_
      refine @WD_q _ _ _ _ _ _ _ _ 2 2 [] (by kernel_rfl) rfl trivial ?_
      refine @WD_end _ _ _ _ _ _ _ _ hB [0, 1, 5, 10, 11] [(8, 1)] ⟨[(0, .it .u64 a0), (1, .it .i64 a1), (5, rwA 8 1 (l5.set (IntKind.i64.wrap ((IntKind.i64.wrap (a1 - (1 : Int))) - x6)).toNat (IntKind.u8.wrap (a0.fdiv (2 ^ (min (IntKind.i64.wrap ((8 : Int) * x6)).toNat IntKind.u64.bits)))))), (10, .it .i64 ((List.replicate a1.toNat (0 : Int)).length : Int)), (11, .it .i64 (IntKind.i64.wrap (x6 + (1 : Int))))], [(8, rwB 5 (eI .u8) (l5.set (IntKind.i64.wrap ((IntKind.i64.wrap (a1 - (1 : Int))) - x6)).toNat (IntKind.u8.wrap (a0.fdiv (2 ^ (min (IntKind.i64.wrap ((8 : Int) * x6)).toNat IntKind.u64.bits))))))], H, n⟩ (by kernel_rfl) (by kernel_rfl) ?_
      refine sqn ?_
      rw [hX3] at h
      exact h _ (by show _ = _; kernel_rfl)
    · have h := h.2 b7
      refine WK_exit ?_
      refine sqx ?_
      refine sqx ?_
      refine bkx ?_
      refine sqn (hX2 l5 _ h (by show _ = _; kernel_rfl))
  · rintro l4 _ h hk
    replace h : pack_wide_J1 r l4 := h
    unfold pack_wide_J1 at h
    refine WK_keep hB hk ?_
    refine WK_seq ?_
    refine WK_ops ?_
    refine @WD_q _ _ _ _ _ _ _ _ 2 2 [] (by kernel_rfl) rfl trivial ?_
    refine @WD_end _ _ _ _ _ _ _ _ hB [4] [(8, 1)] ⟨[(4, rwA 8 1 l4)], [(8, rwB 5 (eI .u8) l4)], H, n⟩ (by kernel_rfl) (by kernel_rfl) ?_
    refine sqn ?_
    refine WK_keep hB (ts := [4]) (ds := [8]) (ks' := ⟨[(4, rwA 8 1 l4)], [(8, rwB 5 (eI .u8) l4)], H, n⟩) (by kernel_rfl) ?_
    refine WK_pub hB (s := 8) (ts := [4]) (ds := []) (C := [(cl (eI .u8) l4).length = l4.length * 1]) (ks' := ⟨[(4, slA (eI .u8) l4)], [], H, n⟩) (by kernel_rfl) ⟨cl_len (eI .u8) l4, trivial⟩ ?_
    refine WK_ret ?_
    have hr : l4 = r := h
    subst hr
    refine k_ret (u := slA (eI .u8) l4) (by kernel_rfl) (by kernel_rfl) (by kernel_rfl) rfl rfl

def pack_Int_o (a0 : Int) (r : Str) : Prop :=
  ∃ z1 : (List Int), pack_wide_o (bits .xor .u64 (IntKind.u64.wrap a0) (9223372036854775808 : Int)) (8 : Int) z1 ∧ (z1.map toB) = r

set_option maxRecDepth 100000 in
set_option maxHeartbeats 1000000 in
theorem pack_Int_ok {a0 : Int} {r : Str}  (h : pack_Int_o a0 r) : Pure Try.prog 78 [.it .i64 a0] (.st r) := by
  refine pureK t78 (Nat.le_of_ble_eq_true rfl) (by kernel_rfl) fun B H n hB => ?_
  dsimp only [c78]
  unfold pack_Int_o at h
  refine WK_conv (ks' := ⟨[(0, .it .i64 a0)], [], H, n⟩) (by kernel_rfl) ?_
  refine WK_seq ?_
  refine WK_ops ?_
  refine @WD_q _ _ _ _ _ _ _ _ 1 1 [] (by kernel_rfl) rfl trivial ?_
  refine @WD_end _ _ _ _ _ _ _ _ hB [0] [] ⟨[(0, .it .i64 a0)], [], H, n⟩ (by kernel_rfl) (by kernel_rfl) ?_
  refine sqn ?_
  refine WK_seq ?_
  refine WK_ops ?_
  obtain ⟨z1, z2, h⟩ := h
  refine @WD_q _ _ _ _ _ _ _ _ 3 3 [] (by kernel_rfl) rfl trivial ?_
  refine @WD_c _ _ _ _ _ _ _ _ ⟨some 6, none, .call 72 [(.t 5), (.c (.it .i64 8))]⟩ 72 [.it .u64 (bits .xor .u64 (IntKind.u64.wrap a0) (9223372036854775808 : Int)), .it .i64 (8 : Int)] [.it .u64 (bits .xor .u64 (IntKind.u64.wrap a0) (9223372036854775808 : Int)), .it .i64 (8 : Int)] [.it .u64 (bits .xor .u64 (IntKind.u64.wrap a0) (9223372036854775808 : Int)), .it .i64 (8 : Int)] [] (slA (eI .u8) z1) (by kernel_rfl) (by kernel_rfl) (.inl ⟨[(.t 5), (.c (.it .i64 8))], rfl, by kernel_rfl⟩) (by kernel_rfl) (by kernel_rfl) (by kernel_rfl) (pack_wide_ok z2) ?_
  refine WD_b2s' (o := ⟨some 7, none, .b2s (.t 6)⟩) (n := z1.length) (l := z1) (cs := cl eU8 z1) (z := false) (by kernel_rfl) rfl (by kernel_rfl) (by kernel_rfl) rfl rfl ?_
  refine @WD_q _ _ _ _ _ _ _ _ 1 6 [] (by kernel_rfl) rfl trivial ?_
  refine @WD_end _ _ _ _ _ _ _ _ hB [2] [] ⟨[(2, .st (z1.map toB))], [], H, n⟩ (by kernel_rfl) (by kernel_rfl) ?_
  refine sqn ?_
  refine WK_ret ?_
  have hr : (z1.map toB) = r := h
  subst hr
  refine k_ret (u := .st (z1.map toB)) (by kernel_rfl) (by kernel_rfl) (by kernel_rfl) rfl rfl

def row_text_o (a0 : T_value_Value) (r : Str) : Prop :=
  cnd (a0.Kind == (1 : Int)) (((([IntKind.u8.wrap a0.Kind] : List Int).map toB).length + (([IntKind.u8.wrap a0.N] : List Int).map toB).length ≤ 9223372036854775807) ∧ ((([IntKind.u8.wrap a0.Kind] : List Int).map toB) ++ (([IntKind.u8.wrap a0.N] : List Int).map toB)) = r) (cnd (a0.Kind == (2 : Int)) (∃ z4 : Str, pack_Int_o a0.N z4 ∧ ((([IntKind.u8.wrap a0.Kind] : List Int).map toB).length + z4.length ≤ 9223372036854775807) ∧ ((([IntKind.u8.wrap a0.Kind] : List Int).map toB) ++ z4) = r) (cnd (a0.Kind == (3 : Int)) (((([IntKind.u8.wrap a0.Kind] : List Int).map toB).length + a0.S.length ≤ 9223372036854775807) ∧ ((([IntKind.u8.wrap a0.Kind] : List Int).map toB) ++ a0.S) = r) ((([IntKind.u8.wrap a0.Kind] : List Int).map toB) = r)))

set_option maxRecDepth 100000 in
set_option maxHeartbeats 1000000 in
theorem row_text_ok {a0 : T_value_Value} {r : Str}  (h : row_text_o a0 r) : Pure Try.prog 58 [.agg [.it .i64 a0.Kind, .it .i64 a0.N, .st a0.S]] (.st r) := by
  refine pureK t58 (Nat.le_of_ble_eq_true rfl) (by kernel_rfl) fun B H n hB => ?_
  dsimp only [c58]
  unfold row_text_o at h
  refine WK_conv (ks' := ⟨[(0, .agg [.it .i64 a0.Kind, .it .i64 a0.N, .st a0.S])], [], H, n⟩) (by kernel_rfl) ?_
  refine WK_seq ?_
  refine WK_ops ?_
  refine @WD_q _ _ _ _ _ _ _ _ 2 2 [] (by kernel_rfl) rfl trivial ?_
  refine @WD_end _ _ _ _ _ _ _ _ hB [1] [(1, 2)] ⟨[(1, .pt (.l 1 1) 0)], [(1, ⟨88, 3, [.it .i64 a0.Kind, .it .i64 a0.N, .st a0.S], true⟩)], H, n⟩ (by kernel_rfl) (by kernel_rfl) ?_
  refine sqn ?_
  refine WK_seq ?_
  refine WK_ops ?_
  refine @WD_q _ _ _ _ _ _ _ _ 4 4 [] (by kernel_rfl) rfl trivial ?_
  refine WD_b2s (o := ⟨some 8, none, .b2s (.t 7)⟩) (s := 7) (c := 2) (e0 := 5) (n := ([IntKind.u8.wrap a0.Kind] : List Int).length) (l := ([IntKind.u8.wrap a0.Kind] : List Int)) (q := false) (cs := cl eU8 ([IntKind.u8.wrap a0.Kind] : List Int)) (by kernel_rfl) rfl (by kernel_rfl) (by kernel_rfl) (by kernel_rfl) rfl rfl ?_
  refine @WD_q _ _ _ _ _ _ _ _ 1 6 [] (by kernel_rfl) rfl trivial ?_
  refine @WD_end _ _ _ _ _ _ _ _ hB [1, 3] [(1, 1)] ⟨[(1, .pt (.l 1 1) 0), (3, .st (([IntKind.u8.wrap a0.Kind] : List Int).map toB))], [(1, ⟨88, 3, [.it .i64 a0.Kind, .it .i64 a0.N, .st a0.S], true⟩)], H, n⟩ (by kernel_rfl) (by kernel_rfl) ?_
  refine sqn ?_
  refine WK_seq ?_
  refine WK_seq ?_
  refine WK_ops ?_
  refine @WD_q _ _ _ _ _ _ _ _ 2 2 [] (by kernel_rfl) rfl trivial ?_
  refine @WD_end _ _ _ _ _ _ _ _ hB [1, 3, 10] [(1, 1)] ⟨[(1, .pt (.l 1 1) 0), (3, .st (([IntKind.u8.wrap a0.Kind] : List Int).map toB)), (10, .it .i64 a0.Kind)], [(1, ⟨88, 3, [.it .i64 a0.Kind, .it .i64 a0.N, .st a0.S], true⟩)], H, n⟩ (by kernel_rfl) (by kernel_rfl) ?_
  refine sqn ?_
  refine WK_block ?_
  refine WK_seq ?_
  refine WK_ops ?_
  refine @WD_q _ _ _ _ _ _ _ _ 2 2 [] (by kernel_rfl) rfl trivial ?_
  refine @WD_end _ _ _ _ _ _ _ _ hB [1, 3, 10, 11] [(1, 1)] ⟨[(1, .pt (.l 1 1) 0), (3, .st (([IntKind.u8.wrap a0.Kind] : List Int).map toB)), (10, .it .i64 a0.Kind), (11, .bl (a0.Kind == (1 : Int)))], [(1, ⟨88, 3, [.it .i64 a0.Kind, .it .i64 a0.N, .st a0.S], true⟩)], H, n⟩ (by kernel_rfl) (by kernel_rfl) ?_
  refine sqn ?_
  refine WK_cond (b := a0.Kind == (1 : Int)) (by kernel_rfl) (fun b1 => ?_) (fun b1 => ?_)
  · have h := h.1 b1
    refine WK_ops ?_
    refine @WD_q _ _ _ _ _ _ _ _ 5 5 [] (by kernel_rfl) rfl trivial ?_
    refine WD_b2s (o := ⟨some 18, none, .b2s (.t 17)⟩) (s := 17) (c := 2) (e0 := 5) (n := ([IntKind.u8.wrap a0.N] : List Int).length) (l := ([IntKind.u8.wrap a0.N] : List Int)) (q := false) (cs := cl eU8 ([IntKind.u8.wrap a0.N] : List Int)) (by kernel_rfl) rfl (by kernel_rfl) (by kernel_rfl) (by kernel_rfl) rfl rfl ?_
    obtain ⟨c2, h⟩ := h
    refine @WD_q _ _ _ _ _ _ _ _ 2 8 [(([IntKind.u8.wrap a0.Kind] : List Int).map toB).length + (([IntKind.u8.wrap a0.N] : List Int).map toB).length ≤ 9223372036854775807] (by kernel_rfl) rfl ⟨c2, trivial⟩ ?_
    refine @WD_end _ _ _ _ _ _ _ _ hB [3] [] ⟨[(3, .st ((([IntKind.u8.wrap a0.Kind] : List Int).map toB) ++ (([IntKind.u8.wrap a0.N] : List Int).map toB)))], [], H, n⟩ (by kernel_rfl) (by kernel_rfl) ?_
    refine bkn ?_
    refine sqn ?_
    refine WK_seq ?_
    refine WK_ops ?_
    refine @WD_q _ _ _ _ _ _ _ _ 2 2 [] (by kernel_rfl) rfl trivial ?_
    refine @WD_end _ _ _ _ _ _ _ _ hB [2] [] ⟨[(2, .st ((([IntKind.u8.wrap a0.Kind] : List Int).map toB) ++ (([IntKind.u8.wrap a0.N] : List Int).map toB)))], [], H, n⟩ (by kernel_rfl) (by kernel_rfl) ?_
    refine sqn ?_
    refine WK_ret ?_
    have hr : ((([IntKind.u8.wrap a0.Kind] : List Int).map toB) ++ (([IntKind.u8.wrap a0.N] : List Int).map toB)) = r := h
    subst hr
    refine k_ret (u := .st ((([IntKind.u8.wrap a0.Kind] : List Int).map toB) ++ (([IntKind.u8.wrap a0.N] : List Int).map toB))) (by kernel_rfl) (by kernel_rfl) (by kernel_rfl) rfl rfl
  · have h := h.2 b1
    refine WK_seq ?_
    refine WK_ops ?_
    refine @WD_q _ _ _ _ _ _ _ _ 2 2 [] (by kernel_rfl) rfl trivial ?_
    refine @WD_end _ _ _ _ _ _ _ _ hB [1, 3, 10, 20] [(1, 1)] ⟨[(1, .pt (.l 1 1) 0), (3, .st (([IntKind.u8.wrap a0.Kind] : List Int).map toB)), (10, .it .i64 a0.Kind), (20, .bl (a0.Kind == (2 : Int)))], [(1, ⟨88, 3, [.it .i64 a0.Kind, .it .i64 a0.N, .st a0.S], true⟩)], H, n⟩ (by kernel_rfl) (by kernel_rfl) ?_
    refine sqn ?_
    refine WK_cond (b := a0.Kind == (2 : Int)) (by kernel_rfl) (fun b3 => ?_) (fun b3 => ?_)
    · have h := h.1 b3
      refine WK_ops ?_
      obtain ⟨z4, z5, h⟩ := h
      refine @WD_q _ _ _ _ _ _ _ _ 3 3 [] (by kernel_rfl) rfl trivial ?_
      refine @WD_c _ _ _ _ _ _ _ _ ⟨some 25, none, .call 78 [(.t 24)]⟩ 78 [.it .i64 a0.N] [.it .i64 a0.N] [.it .i64 a0.N] [] (.st z4) (by kernel_rfl) (by kernel_rfl) (.inl ⟨[(.t 24)], rfl, by kernel_rfl⟩) (by kernel_rfl) (by kernel_rfl) (by kernel_rfl) (pack_Int_ok z5) ?_
      obtain ⟨c6, h⟩ := h
      refine @WD_q _ _ _ _ _ _ _ _ 2 6 [(([IntKind.u8.wrap a0.Kind] : List Int).map toB).length + z4.length ≤ 9223372036854775807] (by kernel_rfl) rfl ⟨c6, trivial⟩ ?_
      refine @WD_end _ _ _ _ _ _ _ _ hB [3] [] ⟨[(3, .st ((([IntKind.u8.wrap a0.Kind] : List Int).map toB) ++ z4))], [], H, n⟩ (by kernel_rfl) (by kernel_rfl) ?_
      refine bkn ?_
      refine sqn ?_
      refine WK_seq ?_
      refine WK_ops ?_
      refine @WD_q _ _ _ _ _ _ _ _ 2 2 [] (by kernel_rfl) rfl trivial ?_
      refine @WD_end _ _ _ _ _ _ _ _ hB [2] [] ⟨[(2, .st ((([IntKind.u8.wrap a0.Kind] : List Int).map toB) ++ z4))], [], H, n⟩ (by kernel_rfl) (by kernel_rfl) ?_
      refine sqn ?_
      refine WK_ret ?_
      have hr : ((([IntKind.u8.wrap a0.Kind] : List Int).map toB) ++ z4) = r := h
      subst hr
      refine k_ret (u := .st ((([IntKind.u8.wrap a0.Kind] : List Int).map toB) ++ z4)) (by kernel_rfl) (by kernel_rfl) (by kernel_rfl) rfl rfl
    · have h := h.2 b3
      refine WK_seq ?_
      refine WK_ops ?_
      refine @WD_q _ _ _ _ _ _ _ _ 2 2 [] (by kernel_rfl) rfl trivial ?_
      refine @WD_end _ _ _ _ _ _ _ _ hB [1, 3, 27] [(1, 1)] ⟨[(1, .pt (.l 1 1) 0), (3, .st (([IntKind.u8.wrap a0.Kind] : List Int).map toB)), (27, .bl (a0.Kind == (3 : Int)))], [(1, ⟨88, 3, [.it .i64 a0.Kind, .it .i64 a0.N, .st a0.S], true⟩)], H, n⟩ (by kernel_rfl) (by kernel_rfl) ?_
      refine sqn ?_
      refine WK_cond (b := a0.Kind == (3 : Int)) (by kernel_rfl) (fun b7 => ?_) (fun b7 => ?_)
      · have h := h.1 b7
        refine WK_ops ?_
        obtain ⟨c8, h⟩ := h
        refine @WD_q _ _ _ _ _ _ _ _ 5 5 [(([IntKind.u8.wrap a0.Kind] : List Int).map toB).length + a0.S.length ≤ 9223372036854775807] (by kernel_rfl) rfl ⟨c8, trivial⟩ ?_
        refine @WD_end _ _ _ _ _ _ _ _ hB [3] [] ⟨[(3, .st ((([IntKind.u8.wrap a0.Kind] : List Int).map toB) ++ a0.S))], [], H, n⟩ (by kernel_rfl) (by kernel_rfl) ?_
        refine bkn ?_
        refine sqn ?_
        refine WK_seq ?_
        refine WK_ops ?_
        refine @WD_q _ _ _ _ _ _ _ _ 2 2 [] (by kernel_rfl) rfl trivial ?_
        refine @WD_end _ _ _ _ _ _ _ _ hB [2] [] ⟨[(2, .st ((([IntKind.u8.wrap a0.Kind] : List Int).map toB) ++ a0.S))], [], H, n⟩ (by kernel_rfl) (by kernel_rfl) ?_
        refine sqn ?_
        refine WK_ret ?_
        have hr : ((([IntKind.u8.wrap a0.Kind] : List Int).map toB) ++ a0.S) = r := h
        subst hr
        refine k_ret (u := .st ((([IntKind.u8.wrap a0.Kind] : List Int).map toB) ++ a0.S)) (by kernel_rfl) (by kernel_rfl) (by kernel_rfl) rfl rfl
      · have h := h.2 b7
        refine WK_skip ?_
        refine bkn ?_
        refine sqn ?_
        refine WK_seq ?_
        refine WK_ops ?_
        refine @WD_q _ _ _ _ _ _ _ _ 2 2 [] (by kernel_rfl) rfl trivial ?_
        refine @WD_end _ _ _ _ _ _ _ _ hB [2] [] ⟨[(2, .st (([IntKind.u8.wrap a0.Kind] : List Int).map toB))], [], H, n⟩ (by kernel_rfl) (by kernel_rfl) ?_
        refine sqn ?_
        refine WK_ret ?_
        have hr : (([IntKind.u8.wrap a0.Kind] : List Int).map toB) = r := h
        subst hr
        refine k_ret (u := .st (([IntKind.u8.wrap a0.Kind] : List Int).map toB)) (by kernel_rfl) (by kernel_rfl) (by kernel_rfl) rfl rfl

def pack_Pack_J1 (r : Str) (l1 : (List Int)) : Prop :=
  (l1.map toB) = r
def pack_Pack_J4 (y16 : Str) (X3 : (List Int) → Int → Prop) (x4 : Int) (r : Str) (l19 : (List Int)) : Prop :=
  (l19.length ≤ 1000000000) ∧ (y16.length ≤ 400000000) ∧ X3 (l19 ++ (y16.map ofB)) (IntKind.i64.wrap (x4 + (1 : Int)))
def pack_Pack_L3 (a0 : (List Str)) (r : Str) (X3 : (List Int) → Int → Prop) (l3 : (List Int)) (x4 : Int) : Prop :=
  cnd (decide (x4 < (a0.length : Int))) (0 ≤ x4 ∧ ∃ y6 : Str, a0[x4.toNat]? = some y6 ∧ ∃ z9 : (List Int), pack_wide_o (IntKind.u64.wrap (y6.length : Int)) (4 : Int) z9 ∧ (l3.length ≤ 1000000000) ∧ (z9.length ≤ 400000000) ∧ ((l3 ++ z9).length ≤ 1000000000) ∧ (y6.length ≤ 400000000) ∧ X3 ((l3 ++ z9) ++ (y6.map ofB)) (IntKind.i64.wrap (x4 + (1 : Int)))) (pack_Pack_J1 r l3)
def pack_Pack_o (a0 : (List Str)) (r : Str) : Prop :=
  (a0.length ≤ maxLen → Lp2 (pack_Pack_L3 a0 r) ([] : List Int) (0 : Int))

set_option maxRecDepth 100000 in
set_option maxHeartbeats 1000000 in
theorem pack_Pack_ok {a0 : (List Str)} {r : Str}  (h : pack_Pack_o a0 r) : Pure Try.prog 47 [slA eS a0] (.st r) := by
  refine pureK t47 (Nat.le_of_ble_eq_true rfl) (by kernel_rfl) fun B H n hB => ?_
  dsimp only [c47]
  unfold pack_Pack_o at h
  refine WK_conv (ks' := ⟨[(0, slA eS a0)], [], H, n⟩) (by kernel_rfl) ?_
  refine WK_seq ?_
  refine WK_ops ?_
  refine @WD_q _ _ _ _ _ _ _ _ 1 1 [] (by kernel_rfl) rfl trivial ?_
  refine @WD_end _ _ _ _ _ _ _ _ hB [0] [] ⟨[(0, slA eS a0)], [], H, n⟩ (by kernel_rfl) (by kernel_rfl) ?_
  refine sqn ?_
  refine WK_seq ?_
  refine WK_ops ?_
  refine @WD_q _ _ _ _ _ _ _ _ 1 1 [] (by kernel_rfl) rfl trivial ?_
  refine @WD_end _ _ _ _ _ _ _ _ hB [0, 3] [] ⟨[(0, slA eS a0), (3, .sl true 0 [])], [], H, n⟩ (by kernel_rfl) (by kernel_rfl) ?_
  refine sqn ?_
  refine WK_seqW (σ := (List Int)) (fun (l1 : (List Int)) => pack_Pack_J1 r l1) (fun (l1 : (List Int)) ks => (ks.keep [3] [20] = ⟨[(3, rwA 20 1 l1)], [(20, rwB 5 (eI .u8) l1)], H, n⟩) ∨ (l1 = [] ∧ ks.keep [3] [] = ⟨[(3, .sl true 0 [])], [], H, n⟩)) (fun (l1 : (List Int)) => ⟨[(3, slA (eI .u8) l1)], [], H, n⟩) (fun X hX2 => ?_) ?_ ?_
  · refine WK_seq ?_
    refine WK_ops ?_
    refine @WD_q _ _ _ _ _ _ _ _ 1 1 [] (by kernel_rfl) rfl trivial ?_
    refine @WD_len _ _ _ _ _ _ _ _ 6 a0.length false (cl eS a0) (by decide) (by kernel_rfl) (fun m2 => ?_)
    have h := h m2
    refine @WD_q _ _ _ _ _ _ _ _ 2 3 [] (by kernel_rfl) rfl trivial ?_
    refine @WD_end _ _ _ _ _ _ _ _ hB [3, 6, 7, 8] [] ⟨[(3, .sl true 0 []), (6, slA eS a0), (7, .it .i64 (a0.length : Int)), (8, .it .i64 (0 : Int))], [], H, n⟩ (by kernel_rfl) (by kernel_rfl) ?_
    refine sqn ?_
    refine WK_block ?_
    refine WK_loop fun YX3 hYX3 => ?_
    obtain ⟨X3, hX3⟩ : ∃ q : (List Int) → Int → Prop, q = (fun (l3 : (List Int)) (x4 : Int) => ∀ ks, ((ks.keep [3, 6, 7, 8] [20] = ⟨[(3, rwA 20 1 l3), (6, slA eS a0), (7, .it .i64 (a0.length : Int)), (8, .it .i64 x4)], [(20, rwB 5 (eI .u8) l3)], H, n⟩) ∨ (l3 = [] ∧ ks.keep [3, 6, 7, 8] [] = ⟨[(3, .sl true 0 []), (6, slA eS a0), (7, .it .i64 (a0.length : Int)), (8, .it .i64 x4)], [], H, n⟩)) → YX3 ks) := ⟨_, rfl⟩
    suffices hs : X3 ([] : List Int) (0 : Int) by rw [hX3] at hs; exact hs _ (.inr (⟨rfl, (by show _ = _; kernel_rfl)⟩))
    refine h X3 (fun l3 x4 h => ?_)
    rw [hX3]
    rintro _ (hk | ⟨hn_l3, hk⟩)
    · refine hYX3 _ ?_
      unfold pack_Pack_L3 at h
      refine WK_keep hB hk ?_
      refine WK_seq ?_
      refine WK_ops ?_
      refine @WD_q _ _ _ _ _ _ _ _ 1 1 [] (by kernel_rfl) rfl trivial ?_
      refine @WD_end _ _ _ _ _ _ _ _ hB [3, 6, 7, 8, 9] [(20, 1)] ⟨[(3, rwA 20 1 l3), (6, slA eS a0), (7, .it .i64 (a0.length : Int)), (8, .it .i64 x4), (9, .bl (decide (x4 < (a0.length : Int))))], [(20, rwB 5 (eI .u8) l3)], H, n⟩ (by kernel_rfl) (by kernel_rfl) ?_
      refine sqn ?_
      refine WK_seq ?_
      refine WK_cond (b := decide (x4 < (a0.length : Int))) (by kernel_rfl) (fun b5 => ?_) (fun b5 => ?_)
      · have h := h.1 b5
        refine WK_skip ?_
        refine sqn ?_
        refine WK_seq ?_
        refine WK_block ?_
        refine WK_seq ?_
        refine WK_ops ?_
        obtain ⟨i7, y6, y8, h⟩ := h
        refine @WD_q _ _ _ _ _ _ _ _ 1 1 [0 ≤ x4 ∧ x4 < a0.length] (by kernel_rfl) rfl ⟨⟨i7, lt_of_at i7 y8⟩, trivial⟩ ?_
        refine @WD_e _ _ _ _ _ _ _ _ ⟨some 11, none, .ld false 1 (.t 10)⟩ _ _ (by kernel_rfl) (by kernel_rfl) (fun hk => E_lde eS (x := (.t 10)) (l := a0) (y := y6) (off := x4.toNat * 1) (m := x4.toNat) (of := 0) (v := .st y6) hk (by kernel_rfl) (by kernel_rfl) y8 (by kernel_rfl)) rfl ?_
        refine @WD_q _ _ _ _ _ _ _ _ 1 3 [] (by kernel_rfl) rfl trivial ?_
        refine @WD_end _ _ _ _ _ _ _ _ hB [3, 5, 6, 7, 8] [(20, 1)] ⟨[(3, rwA 20 1 l3), (5, .st y6), (6, slA eS a0), (7, .it .i64 (a0.length : Int)), (8, .it .i64 x4)], [(20, rwB 5 (eI .u8) l3)], H, n⟩ (by kernel_rfl) (by kernel_rfl) ?_
        refine sqn ?_
        refine WK_seq ?_
        refine WK_ops ?_
        obtain ⟨z9, z10, h⟩ := h
        refine @WD_q _ _ _ _ _ _ _ _ 4 4 [] (by kernel_rfl) rfl trivial ?_
        refine @WD_c _ _ _ _ _ _ _ _ ⟨some 16, none, .call 72 [(.t 15), (.c (.it .i64 4))]⟩ 72 [.it .u64 (IntKind.u64.wrap (y6.length : Int)), .it .i64 (4 : Int)] [.it .u64 (IntKind.u64.wrap (y6.length : Int)), .it .i64 (4 : Int)] [.it .u64 (IntKind.u64.wrap (y6.length : Int)), .it .i64 (4 : Int)] [] (slA (eI .u8) z9) (by kernel_rfl) (by kernel_rfl) (.inl ⟨[(.t 15), (.c (.it .i64 4))], rfl, by kernel_rfl⟩) (by kernel_rfl) (by kernel_rfl) (by kernel_rfl) (pack_wide_ok z10) ?_
        obtain ⟨c11, h⟩ := h
        obtain ⟨c12, h⟩ := h
        refine @WD_e _ _ _ _ _ _ _ _ ⟨some 17, none, .app 5 1 1 (.t 12) (.t 16)⟩ _ _ (by kernel_rfl) (by kernel_rfl) (fun hk => E_app (eI .u8) (s := 20) (c := 1) (m := z9.length) (n := l3.length) (l := l3) (l2 := z9) (b := true) (cs := cl (eI .u8) z9) hk (by kernel_rfl) rfl (by kernel_rfl) (by kernel_rfl) (by kernel_rfl) (by kernel_rfl) rfl rfl c11 c12) rfl ?_
        refine @WD_q _ _ _ _ _ _ _ _ 1 7 [] (by kernel_rfl) rfl trivial ?_
        refine @WD_end _ _ _ _ _ _ _ _ hB [3, 5, 6, 7, 8] [(17, 2)] ⟨[(3, rwA 17 1 (l3 ++ z9)), (5, .st y6), (6, slA eS a0), (7, .it .i64 (a0.length : Int)), (8, .it .i64 x4)], [(17, rwB 5 (eI .u8) (l3 ++ z9))], H, n⟩ (by kernel_rfl) (by kernel_rfl) ?_
        refine sqn ?_
        refine WK_ops ?_
        obtain ⟨c13, h⟩ := h
        obtain ⟨c14, h⟩ := h
        refine @WD_q _ _ _ _ _ _ _ _ 2 2 [] (by kernel_rfl) rfl trivial ?_
        refine @WD_e _ _ _ _ _ _ _ _ ⟨some 20, none, .apps 5 (.t 18) (.t 19)⟩ _ _ (by kernel_rfl) (by kernel_rfl) (fun hk => E_apps (s := 17) (c := 1) (n := (l3 ++ z9).length) (l := (l3 ++ z9)) (t := y6) (b := true) hk (by kernel_rfl) rfl (by kernel_rfl) (by kernel_rfl) (by kernel_rfl) c13 c14) rfl ?_
        refine @WD_q _ _ _ _ _ _ _ _ 1 4 [] (by kernel_rfl) rfl trivial ?_
        refine @WD_end _ _ _ _ _ _ _ _ hB [3, 6, 7, 8] [(20, 2)] ⟨[(3, rwA 20 1 ((l3 ++ z9) ++ (y6.map ofB))), (6, slA eS a0), (7, .it .i64 (a0.length : Int)), (8, .it .i64 x4)], [(20, rwB 5 (eI .u8) ((l3 ++ z9) ++ (y6.map ofB)))], H, n⟩ (by kernel_rfl) (by kernel_rfl) ?_
        refine bkn ?_
        refine sqn ?_
        refine WK_ops ?_
        refine @WD_q _ _ _ _ _ _ _ _ 2 2 [] (by kernel_rfl) rfl trivial ?_
        refine @WD_end _ _ _ _ _ _ _ _ hB [3, 6, 7, 8] [(20, 1)] ⟨[(3, rwA 20 1 ((l3 ++ z9) ++ (y6.map ofB))), (6, slA eS a0), (7, .it .i64 (a0.length : Int)), (8, .it .i64 (IntKind.i64.wrap (x4 + (1 : Int))))], [(20, rwB 5 (eI .u8) ((l3 ++ z9) ++ (y6.map ofB)))], H, n⟩ (by kernel_rfl) (by kernel_rfl) ?_
        refine sqn ?_
        rw [hX3] at h
        exact h _ (.inl (by show _ = _; kernel_rfl))
      · have h := h.2 b5
        refine WK_exit ?_
        refine sqx ?_
        refine sqx ?_
        refine bkx ?_
        refine sqn (hX2 l3 _ h (.inl (by show _ = _; kernel_rfl)))
    · subst hn_l3
      refine hYX3 _ ?_
      unfold pack_Pack_L3 at h
      refine WK_keep hB hk ?_
      refine WK_seq ?_
      refine WK_ops ?_
      refine @WD_q _ _ _ _ _ _ _ _ 1 1 [] (by kernel_rfl) rfl trivial ?_
      refine @WD_end _ _ _ _ _ _ _ _ hB [3, 6, 7, 8, 9] [] ⟨[(3, .sl true 0 []), (6, slA eS a0), (7, .it .i64 (a0.length : Int)), (8, .it .i64 x4), (9, .bl (decide (x4 < (a0.length : Int))))], [], H, n⟩ (by kernel_rfl) (by kernel_rfl) ?_
      refine sqn ?_
      refine WK_seq ?_
      refine WK_cond (b := decide (x4 < (a0.length : Int))) (by kernel_rfl) (fun b15 => ?_) (fun b15 => ?_)
      · have h := h.1 b15
        refine WK_skip ?_
        refine sqn ?_
        refine WK_seq ?_
        refine WK_block ?_
        refine WK_seq ?_
        refine WK_ops ?_
        obtain ⟨i17, y16, y18, h⟩ := h
        refine @WD_q _ _ _ _ _ _ _ _ 1 1 [0 ≤ x4 ∧ x4 < a0.length] (by kernel_rfl) rfl ⟨⟨i17, lt_of_at i17 y18⟩, trivial⟩ ?_
        refine @WD_e _ _ _ _ _ _ _ _ ⟨some 11, none, .ld false 1 (.t 10)⟩ _ _ (by kernel_rfl) (by kernel_rfl) (fun hk => E_lde eS (x := (.t 10)) (l := a0) (y := y16) (off := x4.toNat * 1) (m := x4.toNat) (of := 0) (v := .st y16) hk (by kernel_rfl) (by kernel_rfl) y18 (by kernel_rfl)) rfl ?_
        refine @WD_q _ _ _ _ _ _ _ _ 1 3 [] (by kernel_rfl) rfl trivial ?_
        refine @WD_end _ _ _ _ _ _ _ _ hB [3, 5, 6, 7, 8] [] ⟨[(3, .sl true 0 []), (5, .st y16), (6, slA eS a0), (7, .it .i64 (a0.length : Int)), (8, .it .i64 x4)], [], H, n⟩ (by kernel_rfl) (by kernel_rfl) ?_
        refine sqn ?_
        refine WK_seqJ (σ := (List Int)) (fun (l19 : (List Int)) => pack_Pack_J4 y16 X3 x4 r l19) (fun (l19 : (List Int)) ks => (ks.keep [3, 5, 6, 7, 8] [17] = ⟨[(3, rwA 17 1 l19), (5, .st y16), (6, slA eS a0), (7, .it .i64 (a0.length : Int)), (8, .it .i64 x4)], [(17, rwB 5 (eI .u8) l19)], H, n⟩) ∨ (l19 = [] ∧ ks.keep [3, 5, 6, 7, 8] [] = ⟨[(3, .sl true 0 []), (5, .st y16), (6, slA eS a0), (7, .it .i64 (a0.length : Int)), (8, .it .i64 x4)], [], H, n⟩)) (fun X hX5 => ?_) ?_
        · refine WK_ops ?_
          obtain ⟨z25, z26, h⟩ := h
          refine @WD_q _ _ _ _ _ _ _ _ 4 4 [] (by kernel_rfl) rfl trivial ?_
          refine @WD_c _ _ _ _ _ _ _ _ ⟨some 16, none, .call 72 [(.t 15), (.c (.it .i64 4))]⟩ 72 [.it .u64 (IntKind.u64.wrap (y16.length : Int)), .it .i64 (4 : Int)] [.it .u64 (IntKind.u64.wrap (y16.length : Int)), .it .i64 (4 : Int)] [.it .u64 (IntKind.u64.wrap (y16.length : Int)), .it .i64 (4 : Int)] [] (slA (eI .u8) z25) (by kernel_rfl) (by kernel_rfl) (.inl ⟨[(.t 15), (.c (.it .i64 4))], rfl, by kernel_rfl⟩) (by kernel_rfl) (by kernel_rfl) (by kernel_rfl) (pack_wide_ok z26) ?_
          obtain ⟨c27, h⟩ := h
          obtain ⟨c28, h⟩ := h
          by_cases e29 : z25 = []
          · refine @WD_e _ _ _ _ _ _ _ _ ⟨some 17, none, .app 5 1 1 (.t 12) (.t 16)⟩ _ _ (by kernel_rfl) (by kernel_rfl) (fun hk => E_app00s (eI .u8) (n := 0) (xs := []) (l2 := z25) hk (by kernel_rfl) (by kernel_rfl) (by kernel_rfl) e29) rfl ?_
            refine @WD_q _ _ _ _ _ _ _ _ 1 7 [] (by kernel_rfl) rfl trivial ?_
            refine @WD_end _ _ _ _ _ _ _ _ hB [3, 5, 6, 7, 8] [] ⟨[(3, .sl true 0 []), (5, .st y16), (6, slA eS a0), (7, .it .i64 (a0.length : Int)), (8, .it .i64 x4)], [], H, n⟩ (by kernel_rfl) (by kernel_rfl) ?_
            refine sqn (hX5 (([] : List Int) ++ z25) _ h (.inr (⟨(by simp [e29]), (by show _ = _; kernel_rfl)⟩)))
          · refine @WD_e _ _ _ _ _ _ _ _ ⟨some 17, none, .app 5 1 1 (.t 12) (.t 16)⟩ _ _ (by kernel_rfl) (by kernel_rfl) (fun hk => E_app0 (eI .u8) (n := 0) (xs := []) (m := z25.length) (l2 := z25) (cs := cl (eI .u8) z25) hk (by kernel_rfl) (by kernel_rfl) (by kernel_rfl) (by kernel_rfl) rfl rfl e29 c28) rfl ?_
            refine @WD_q _ _ _ _ _ _ _ _ 1 7 [] (by kernel_rfl) rfl trivial ?_
            refine @WD_end _ _ _ _ _ _ _ _ hB [3, 5, 6, 7, 8] [(17, 2)] ⟨[(3, rwA 17 1 (([] : List Int) ++ z25)), (5, .st y16), (6, slA eS a0), (7, .it .i64 (a0.length : Int)), (8, .it .i64 x4)], [(17, rwB 5 (eI .u8) (([] : List Int) ++ z25))], H, n⟩ (by kernel_rfl) (by kernel_rfl) ?_
            refine sqn (hX5 (([] : List Int) ++ z25) _ h (.inl (by show _ = _; kernel_rfl)))
        · rintro l19 _ h (hk | ⟨hn_l19, hk⟩)
          · replace h : pack_Pack_J4 y16 X3 x4 r l19 := h
            unfold pack_Pack_J4 at h
            refine WK_keep hB hk ?_
            refine WK_ops ?_
            obtain ⟨c20, h⟩ := h
            obtain ⟨c21, h⟩ := h
            refine @WD_q _ _ _ _ _ _ _ _ 2 2 [] (by kernel_rfl) rfl trivial ?_
            refine @WD_e _ _ _ _ _ _ _ _ ⟨some 20, none, .apps 5 (.t 18) (.t 19)⟩ _ _ (by kernel_rfl) (by kernel_rfl) (fun hk => E_apps (s := 17) (c := 1) (n := l19.length) (l := l19) (t := y16) (b := true) hk (by kernel_rfl) rfl (by kernel_rfl) (by kernel_rfl) (by kernel_rfl) c20 c21) rfl ?_
            refine @WD_q _ _ _ _ _ _ _ _ 1 4 [] (by kernel_rfl) rfl trivial ?_
            refine @WD_end _ _ _ _ _ _ _ _ hB [3, 6, 7, 8] [(20, 2)] ⟨[(3, rwA 20 1 (l19 ++ (y16.map ofB))), (6, slA eS a0), (7, .it .i64 (a0.length : Int)), (8, .it .i64 x4)], [(20, rwB 5 (eI .u8) (l19 ++ (y16.map ofB)))], H, n⟩ (by kernel_rfl) (by kernel_rfl) ?_
            refine bkn ?_
            refine sqn ?_
            refine WK_ops ?_
            refine @WD_q _ _ _ _ _ _ _ _ 2 2 [] (by kernel_rfl) rfl trivial ?_
            refine @WD_end _ _ _ _ _ _ _ _ hB [3, 6, 7, 8] [(20, 1)] ⟨[(3, rwA 20 1 (l19 ++ (y16.map ofB))), (6, slA eS a0), (7, .it .i64 (a0.length : Int)), (8, .it .i64 (IntKind.i64.wrap (x4 + (1 : Int))))], [(20, rwB 5 (eI .u8) (l19 ++ (y16.map ofB)))], H, n⟩ (by kernel_rfl) (by kernel_rfl) ?_
            refine sqn ?_
            rw [hX3] at h
            exact h _ (.inl (by show _ = _; kernel_rfl))
          · replace h : pack_Pack_J4 y16 X3 x4 r l19 := h
            subst hn_l19
            unfold pack_Pack_J4 at h
            refine WK_keep hB hk ?_
            refine WK_ops ?_
            obtain ⟨c22, h⟩ := h
            obtain ⟨c23, h⟩ := h
            refine @WD_q _ _ _ _ _ _ _ _ 2 2 [] (by kernel_rfl) rfl trivial ?_
            by_cases e24 : y16 = []
            · refine @WD_e _ _ _ _ _ _ _ _ ⟨some 20, none, .apps 5 (.t 18) (.t 19)⟩ _ _ (by kernel_rfl) (by kernel_rfl) (fun hk => E_apps00 (n := 0) (xs := []) (t := y16) hk (by kernel_rfl) (by kernel_rfl) e24) rfl ?_
              refine @WD_q _ _ _ _ _ _ _ _ 1 4 [] (by kernel_rfl) rfl trivial ?_
              refine @WD_end _ _ _ _ _ _ _ _ hB [3, 6, 7, 8] [] ⟨[(3, .sl true 0 []), (6, slA eS a0), (7, .it .i64 (a0.length : Int)), (8, .it .i64 x4)], [], H, n⟩ (by kernel_rfl) (by kernel_rfl) ?_
              refine bkn ?_
              refine sqn ?_
              refine WK_ops ?_
              refine @WD_q _ _ _ _ _ _ _ _ 2 2 [] (by kernel_rfl) rfl trivial ?_
              refine @WD_end _ _ _ _ _ _ _ _ hB [3, 6, 7, 8] [] ⟨[(3, .sl true 0 []), (6, slA eS a0), (7, .it .i64 (a0.length : Int)), (8, .it .i64 (IntKind.i64.wrap (x4 + (1 : Int))))], [], H, n⟩ (by kernel_rfl) (by kernel_rfl) ?_
              refine sqn ?_
              rw [hX3] at h
              exact h _ (.inr (⟨(by simp [e24]), (by show _ = _; kernel_rfl)⟩))
            · refine @WD_e _ _ _ _ _ _ _ _ ⟨some 20, none, .apps 5 (.t 18) (.t 19)⟩ _ _ (by kernel_rfl) (by kernel_rfl) (fun hk => E_apps0 (n := 0) (xs := []) (t := y16) hk (by kernel_rfl) (by kernel_rfl) (by kernel_rfl) e24 c23) rfl ?_
              refine @WD_q _ _ _ _ _ _ _ _ 1 4 [] (by kernel_rfl) rfl trivial ?_
              refine @WD_end _ _ _ _ _ _ _ _ hB [3, 6, 7, 8] [(20, 2)] ⟨[(3, rwA 20 1 (([] : List Int) ++ (y16.map ofB))), (6, slA eS a0), (7, .it .i64 (a0.length : Int)), (8, .it .i64 x4)], [(20, rwB 5 (eI .u8) (([] : List Int) ++ (y16.map ofB)))], H, n⟩ (by kernel_rfl) (by kernel_rfl) ?_
              refine bkn ?_
              refine sqn ?_
              refine WK_ops ?_
              refine @WD_q _ _ _ _ _ _ _ _ 2 2 [] (by kernel_rfl) rfl trivial ?_
              refine @WD_end _ _ _ _ _ _ _ _ hB [3, 6, 7, 8] [(20, 1)] ⟨[(3, rwA 20 1 (([] : List Int) ++ (y16.map ofB))), (6, slA eS a0), (7, .it .i64 (a0.length : Int)), (8, .it .i64 (IntKind.i64.wrap (x4 + (1 : Int))))], [(20, rwB 5 (eI .u8) (([] : List Int) ++ (y16.map ofB)))], H, n⟩ (by kernel_rfl) (by kernel_rfl) ?_
              refine sqn ?_
              rw [hX3] at h
              exact h _ (.inl (by show _ = _; kernel_rfl))
      · have h := h.2 b15
        refine WK_exit ?_
        refine sqx ?_
        refine sqx ?_
        refine bkx ?_
        refine sqn (hX2 ([] : List Int) _ h (.inr (⟨rfl, (by show _ = _; kernel_rfl)⟩)))
  · rintro c Q l1 _ (hk | ⟨hn_l1, hk⟩) hm
    · refine WK_keep hB hk ?_
      refine WK_keep hB (ts := [3]) (ds := [20]) (ks' := ⟨[(3, rwA 20 1 l1)], [(20, rwB 5 (eI .u8) l1)], H, n⟩) (by kernel_rfl) ?_
      refine WK_pub hB (s := 20) (ts := [3]) (ds := []) (C := [(cl (eI .u8) l1).length = l1.length * 1]) (ks' := ⟨[(3, slA (eI .u8) l1)], [], H, n⟩) (by kernel_rfl) ⟨cl_len (eI .u8) l1, trivial⟩ ?_
      exact hm
    · subst hn_l1
      refine WK_keep hB hk ?_
      refine WK_weak hB 3 [3] [] (ks' := ⟨[(3, slA (eI .u8) ([] : List Int))], [], H, n⟩) (by kernel_rfl) ?_
      exact hm
  · rintro l1 h
    replace h : pack_Pack_J1 r l1 := h
    unfold pack_Pack_J1 at h
    refine WK_seq ?_
    refine WK_ops ?_
    refine @WD_q _ _ _ _ _ _ _ _ 1 1 [] (by kernel_rfl) rfl trivial ?_
    refine WD_b2s' (o := ⟨some 23, none, .b2s (.t 22)⟩) (n := l1.length) (l := l1) (cs := cl eU8 l1) (z := false) (by kernel_rfl) rfl (by kernel_rfl) (by kernel_rfl) rfl rfl ?_
    refine @WD_q _ _ _ _ _ _ _ _ 1 3 [] (by kernel_rfl) rfl trivial ?_
    refine @WD_end _ _ _ _ _ _ _ _ hB [2] [] ⟨[(2, .st (l1.map toB))], [], H, n⟩ (by kernel_rfl) (by kernel_rfl) ?_
    refine sqn ?_
    refine WK_ret ?_
    have hr : (l1.map toB) = r := h
    subst hr
    refine k_ret (u := .st (l1.map toB)) (by kernel_rfl) (by kernel_rfl) (by kernel_rfl) rfl rfl

def row_Key_J1 (r : Str) (l1 : (List Str)) : Prop :=
  ∃ z2 : Str, pack_Pack_o l1 z2 ∧ z2 = r
def row_Key_L3 (a0 : (List T_value_Value)) (r : Str) (X3 : (List Str) → Int → Prop) (l5 : (List Str)) (x6 : Int) : Prop :=
  cnd (decide (x6 < (a0.length : Int))) (0 ≤ x6 ∧ ∃ y8 : T_value_Value, a0[x6.toNat]? = some y8 ∧ ∃ z11 : Str, row_text_o y8 z11 ∧ (l5.length ≤ 1000000000) ∧ X3 (l5 ++ ([z11] : List Str)) (IntKind.i64.wrap (x6 + (1 : Int)))) (row_Key_J1 r l5)
def row_Key_o (a0 : (List T_value_Value)) (r : Str) : Prop :=
  (a0.length ≤ maxLen → Lp2 (row_Key_L3 a0 r) ([] : List Str) (0 : Int))

set_option maxRecDepth 100000 in
set_option maxHeartbeats 1000000 in
theorem row_Key_ok {a0 : (List T_value_Value)} {r : Str}  (h : row_Key_o a0 r) : Pure Try.prog 32 [slA e_value_Value a0] (.st r) := by
  refine pureK t32 (Nat.le_of_ble_eq_true rfl) (by kernel_rfl) fun B H n hB => ?_
  dsimp only [c32]
  unfold row_Key_o at h
  refine WK_conv (ks' := ⟨[(0, slA e_value_Value a0)], [], H, n⟩) (by kernel_rfl) ?_
  refine WK_seq ?_
  refine WK_ops ?_
  refine @WD_q _ _ _ _ _ _ _ _ 1 1 [] (by kernel_rfl) rfl trivial ?_
  refine @WD_end _ _ _ _ _ _ _ _ hB [0] [] ⟨[(0, slA e_value_Value a0)], [], H, n⟩ (by kernel_rfl) (by kernel_rfl) ?_
  refine sqn ?_
  refine WK_seq ?_
  refine WK_ops ?_
  refine @WD_q _ _ _ _ _ _ _ _ 1 1 [] (by kernel_rfl) rfl trivial ?_
  refine @WD_end _ _ _ _ _ _ _ _ hB [0, 3] [] ⟨[(0, slA e_value_Value a0), (3, .sl true 0 [])], [], H, n⟩ (by kernel_rfl) (by kernel_rfl) ?_
  refine sqn ?_
  refine WK_seqW (σ := (List Str)) (fun (l1 : (List Str)) => row_Key_J1 r l1) (fun (l1 : (List Str)) ks => (ks.keep [3] [16] = ⟨[(3, rwA 16 1 l1)], [(16, rwB 9 eS l1)], H, n⟩) ∨ (l1 = [] ∧ ks.keep [3] [] = ⟨[(3, .sl true 0 [])], [], H, n⟩)) (fun (l1 : (List Str)) => ⟨[(3, slA eS l1)], [], H, n⟩) (fun X hX2 => ?_) ?_ ?_
  · refine WK_seq ?_
    refine WK_ops ?_
    refine @WD_q _ _ _ _ _ _ _ _ 1 1 [] (by kernel_rfl) rfl trivial ?_
    refine @WD_len _ _ _ _ _ _ _ _ 6 a0.length false (cl e_value_Value a0) (by decide) (by kernel_rfl) (fun m4 => ?_)
    have h := h m4
    refine @WD_q _ _ _ _ _ _ _ _ 2 3 [] (by kernel_rfl) rfl trivial ?_
    refine @WD_end _ _ _ _ _ _ _ _ hB [3, 6, 7, 8] [] ⟨[(3, .sl true 0 []), (6, slA e_value_Value a0), (7, .it .i64 (a0.length : Int)), (8, .it .i64 (0 : Int))], [], H, n⟩ (by kernel_rfl) (by kernel_rfl) ?_
    refine sqn ?_
    refine WK_block ?_
    refine WK_loop fun YX3 hYX3 => ?_
    obtain ⟨X3, hX3⟩ : ∃ q : (List Str) → Int → Prop, q = (fun (l5 : (List Str)) (x6 : Int) => ∀ ks, ((ks.keep [3, 6, 7, 8] [16] = ⟨[(3, rwA 16 1 l5), (6, slA e_value_Value a0), (7, .it .i64 (a0.length : Int)), (8, .it .i64 x6)], [(16, rwB 9 eS l5)], H, n⟩) ∨ (l5 = [] ∧ ks.keep [3, 6, 7, 8] [] = ⟨[(3, .sl true 0 []), (6, slA e_value_Value a0), (7, .it .i64 (a0.length : Int)), (8, .it .i64 x6)], [], H, n⟩)) → YX3 ks) := ⟨_, rfl⟩
    suffices hs : X3 ([] : List Str) (0 : Int) by rw [hX3] at hs; exact hs _ (.inr (⟨rfl, (by show _ = _; kernel_rfl)⟩))
    refine h X3 (fun l5 x6 h => ?_)
    rw [hX3]
    rintro _ (hk | ⟨hn_l5, hk⟩)
    · refine hYX3 _ ?_
      unfold row_Key_L3 at h
      refine WK_keep hB hk ?_
      refine WK_seq ?_
      refine WK_ops ?_
      refine @WD_q _ _ _ _ _ _ _ _ 1 1 [] (by kernel_rfl) rfl trivial ?_
      refine @WD_end _ _ _ _ _ _ _ _ hB [3, 6, 7, 8, 9] [(16, 1)] ⟨[(3, rwA 16 1 l5), (6, slA e_value_Value a0), (7, .it .i64 (a0.length : Int)), (8, .it .i64 x6), (9, .bl (decide (x6 < (a0.length : Int))))], [(16, rwB 9 eS l5)], H, n⟩ (by kernel_rfl) (by kernel_rfl) ?_
      refine sqn ?_
      refine WK_seq ?_
      refine WK_cond (b := decide (x6 < (a0.length : Int))) (by kernel_rfl) (fun b7 => ?_) (fun b7 => ?_)
      · have h := h.1 b7
        refine WK_skip ?_
        refine sqn ?_
        refine WK_seq ?_
        refine WK_block ?_
        refine WK_seq ?_
        refine WK_ops ?_
        obtain ⟨i9, y8, y10, h⟩ := h
        refine @WD_q _ _ _ _ _ _ _ _ 1 1 [0 ≤ x6 ∧ x6 < a0.length] (by kernel_rfl) rfl ⟨⟨i9, lt_of_at i9 y10⟩, trivial⟩ ?_
        refine @WD_e _ _ _ _ _ _ _ _ ⟨some 11, none, .ld true 3 (.t 10)⟩ _ _ (by kernel_rfl) (by kernel_rfl) (fun hk => E_lde e_value_Value (x := (.t 10)) (l := a0) (y := y8) (off := x6.toNat * 3) (m := x6.toNat) (of := 0) (v := .agg [.it .i64 y8.Kind, .it .i64 y8.N, .st y8.S]) hk (by kernel_rfl) (by kernel_rfl) y10 (by kernel_rfl)) rfl ?_
        refine @WD_q _ _ _ _ _ _ _ _ 2 4 [] (by kernel_rfl) rfl trivial ?_
        refine @WD_end _ _ _ _ _ _ _ _ hB [3, 5, 6, 7, 8] [(5, 2), (16, 1)] ⟨[(3, rwA 16 1 l5), (5, .pt (.l 5 1) 0), (6, slA e_value_Value a0), (7, .it .i64 (a0.length : Int)), (8, .it .i64 x6)], [(5, ⟨88, 3, [.it .i64 y8.Kind, .it .i64 y8.N, .st y8.S], true⟩), (16, rwB 9 eS l5)], H, n⟩ (by kernel_rfl) (by kernel_rfl) ?_
        refine sqn ?_
        refine WK_ops ?_
        obtain ⟨z11, z12, h⟩ := h
        refine @WD_q _ _ _ _ _ _ _ _ 2 2 [] (by kernel_rfl) rfl trivial ?_
        refine @WD_c _ _ _ _ _ _ _ _ ⟨some 14, none, .call 58 [(.t 13)]⟩ 58 [.agg [.it .i64 y8.Kind, .it .i64 y8.N, .st y8.S]] [.agg [.it .i64 y8.Kind, .it .i64 y8.N, .st y8.S]] [.agg [.it .i64 y8.Kind, .it .i64 y8.N, .st y8.S]] [] (.st z11) (by kernel_rfl) (by kernel_rfl) (.inl ⟨[(.t 13)], rfl, by kernel_rfl⟩) (by kernel_rfl) (by kernel_rfl) (by kernel_rfl) (row_text_ok z12) ?_
        obtain ⟨c13, h⟩ := h
        refine @WD_q _ _ _ _ _ _ _ _ 1 4 [] (by kernel_rfl) rfl trivial ?_
        refine @WD_e _ _ _ _ _ _ _ _ ⟨some 16, none, .app 9 1 16 (.t 12) (.t 15)⟩ _ _ (by kernel_rfl) (by kernel_rfl) (fun hk => E_app eS (s := 16) (c := 1) (m := ([z11] : List Str).length) (n := l5.length) (l := l5) (l2 := ([z11] : List Str)) (b := true) (cs := cl eS ([z11] : List Str)) hk (by kernel_rfl) rfl (by kernel_rfl) (by kernel_rfl) (by kernel_rfl) (by kernel_rfl) rfl rfl c13 (Nat.le_of_ble_eq_true rfl)) rfl ?_
        refine @WD_q _ _ _ _ _ _ _ _ 1 6 [] (by kernel_rfl) rfl trivial ?_
        refine @WD_end _ _ _ _ _ _ _ _ hB [3, 6, 7, 8] [(16, 2)] ⟨[(3, rwA 16 1 (l5 ++ ([z11] : List Str))), (6, slA e_value_Value a0), (7, .it .i64 (a0.length : Int)), (8, .it .i64 x6)], [(16, rwB 9 eS (l5 ++ ([z11] : List Str)))], H, n⟩ (by kernel_rfl) (by kernel_rfl) ?_
        refine bkn ?_
        refine sqn ?_
        refine WK_ops ?_
        refine @WD_q _ _ _ _ _ _ _ _ 2 2 [] (by kernel_rfl) rfl trivial ?_
        refine @WD_end _ _ _ _ _ _ _ _ hB [3, 6, 7, 8] [(16, 1)] ⟨[(3, rwA 16 1 (l5 ++ ([z11] : List Str))), (6, slA e_value_Value a0), (7, .it .i64 (a0.length : Int)), (8, .it .i64 (IntKind.i64.wrap (x6 + (1 : Int))))], [(16, rwB 9 eS (l5 ++ ([z11] : List Str)))], H, n⟩ (by kernel_rfl) (by kernel_rfl) ?_
        refine sqn ?_
        rw [hX3] at h
        exact h _ (.inl (by show _ = _; kernel_rfl))
      · have h := h.2 b7
        refine WK_exit ?_
        refine sqx ?_
        refine sqx ?_
        refine bkx ?_
        refine sqn (hX2 l5 _ h (.inl (by show _ = _; kernel_rfl)))
    · subst hn_l5
      refine hYX3 _ ?_
      unfold row_Key_L3 at h
      refine WK_keep hB hk ?_
      refine WK_seq ?_
      refine WK_ops ?_
      refine @WD_q _ _ _ _ _ _ _ _ 1 1 [] (by kernel_rfl) rfl trivial ?_
      refine @WD_end _ _ _ _ _ _ _ _ hB [3, 6, 7, 8, 9] [] ⟨[(3, .sl true 0 []), (6, slA e_value_Value a0), (7, .it .i64 (a0.length : Int)), (8, .it .i64 x6), (9, .bl (decide (x6 < (a0.length : Int))))], [], H, n⟩ (by kernel_rfl) (by kernel_rfl) ?_
      refine sqn ?_
      refine WK_seq ?_
      refine WK_cond (b := decide (x6 < (a0.length : Int))) (by kernel_rfl) (fun b14 => ?_) (fun b14 => ?_)
      · have h := h.1 b14
        refine WK_skip ?_
        refine sqn ?_
        refine WK_seq ?_
        refine WK_block ?_
        refine WK_seq ?_
        refine WK_ops ?_
        obtain ⟨i16, y15, y17, h⟩ := h
        refine @WD_q _ _ _ _ _ _ _ _ 1 1 [0 ≤ x6 ∧ x6 < a0.length] (by kernel_rfl) rfl ⟨⟨i16, lt_of_at i16 y17⟩, trivial⟩ ?_
        refine @WD_e _ _ _ _ _ _ _ _ ⟨some 11, none, .ld true 3 (.t 10)⟩ _ _ (by kernel_rfl) (by kernel_rfl) (fun hk => E_lde e_value_Value (x := (.t 10)) (l := a0) (y := y15) (off := x6.toNat * 3) (m := x6.toNat) (of := 0) (v := .agg [.it .i64 y15.Kind, .it .i64 y15.N, .st y15.S]) hk (by kernel_rfl) (by kernel_rfl) y17 (by kernel_rfl)) rfl ?_
        refine @WD_q _ _ _ _ _ _ _ _ 2 4 [] (by kernel_rfl) rfl trivial ?_
        refine @WD_end _ _ _ _ _ _ _ _ hB [3, 5, 6, 7, 8] [(5, 2)] ⟨[(3, .sl true 0 []), (5, .pt (.l 5 1) 0), (6, slA e_value_Value a0), (7, .it .i64 (a0.length : Int)), (8, .it .i64 x6)], [(5, ⟨88, 3, [.it .i64 y15.Kind, .it .i64 y15.N, .st y15.S], true⟩)], H, n⟩ (by kernel_rfl) (by kernel_rfl) ?_
        refine sqn ?_
        refine WK_ops ?_
        obtain ⟨z18, z19, h⟩ := h
        refine @WD_q _ _ _ _ _ _ _ _ 2 2 [] (by kernel_rfl) rfl trivial ?_
        refine @WD_c _ _ _ _ _ _ _ _ ⟨some 14, none, .call 58 [(.t 13)]⟩ 58 [.agg [.it .i64 y15.Kind, .it .i64 y15.N, .st y15.S]] [.agg [.it .i64 y15.Kind, .it .i64 y15.N, .st y15.S]] [.agg [.it .i64 y15.Kind, .it .i64 y15.N, .st y15.S]] [] (.st z18) (by kernel_rfl) (by kernel_rfl) (.inl ⟨[(.t 13)], rfl, by kernel_rfl⟩) (by kernel_rfl) (by kernel_rfl) (by kernel_rfl) (row_text_ok z19) ?_
        obtain ⟨c20, h⟩ := h
        refine @WD_q _ _ _ _ _ _ _ _ 1 4 [] (by kernel_rfl) rfl trivial ?_
        refine @WD_e _ _ _ _ _ _ _ _ ⟨some 16, none, .app 9 1 16 (.t 12) (.t 15)⟩ _ _ (by kernel_rfl) (by kernel_rfl) (fun hk => E_app0 eS (n := 0) (xs := []) (m := ([z18] : List Str).length) (l2 := ([z18] : List Str)) (cs := cl eS ([z18] : List Str)) hk (by kernel_rfl) (by kernel_rfl) (by kernel_rfl) (by kernel_rfl) rfl rfl (List.cons_ne_nil _ _) (Nat.le_of_ble_eq_true rfl)) rfl ?_
        refine @WD_q _ _ _ _ _ _ _ _ 1 6 [] (by kernel_rfl) rfl trivial ?_
        refine @WD_end _ _ _ _ _ _ _ _ hB [3, 6, 7, 8] [(16, 2)] ⟨[(3, rwA 16 1 (([] : List Str) ++ ([z18] : List Str))), (6, slA e_value_Value a0), (7, .it .i64 (a0.length : Int)), (8, .it .i64 x6)], [(16, rwB 9 eS (([] : List Str) ++ ([z18] : List Str)))], H, n⟩ (by kernel_rfl) (by kernel_rfl) ?_
        refine bkn ?_
        refine sqn ?_
        refine WK_ops ?_
        refine @WD_q _ _ _ _ _ _ _ _ 2 2 [] (by kernel_rfl) rfl trivial ?_
        refine @WD_end _ _ _ _ _ _ _ _ hB [3, 6, 7, 8] [(16, 1)] ⟨[(3, rwA 16 1 (([] : List Str) ++ ([z18] : List Str))), (6, slA e_value_Value a0), (7, .it .i64 (a0.length : Int)), (8, .it .i64 (IntKind.i64.wrap (x6 + (1 : Int))))], [(16, rwB 9 eS (([] : List Str) ++ ([z18] : List Str)))], H, n⟩ (by kernel_rfl) (by kernel_rfl) ?_
        refine sqn ?_
        rw [hX3] at h
        exact h _ (.inl (by show _ = _; kernel_rfl))
      · have h := h.2 b14
        refine WK_exit ?_
        refine sqx ?_
        refine sqx ?_
        refine bkx ?_
        refine sqn (hX2 ([] : List Str) _ h (.inr (⟨rfl, (by show _ = _; kernel_rfl)⟩)))
  · rintro c Q l1 _ (hk | ⟨hn_l1, hk⟩) hm
    · refine WK_keep hB hk ?_
      refine WK_keep hB (ts := [3]) (ds := [16]) (ks' := ⟨[(3, rwA 16 1 l1)], [(16, rwB 9 eS l1)], H, n⟩) (by kernel_rfl) ?_
      refine WK_pub hB (s := 16) (ts := [3]) (ds := []) (C := [(cl eS l1).length = l1.length * 1]) (ks' := ⟨[(3, slA eS l1)], [], H, n⟩) (by kernel_rfl) ⟨cl_len eS l1, trivial⟩ ?_
      exact hm
    · subst hn_l1
      refine WK_keep hB hk ?_
      refine WK_weak hB 3 [3] [] (ks' := ⟨[(3, slA eS ([] : List Str))], [], H, n⟩) (by kernel_rfl) ?_
      exact hm
  · rintro l1 h
    replace h : row_Key_J1 r l1 := h
    unfold row_Key_J1 at h
    refine WK_seq ?_
    refine WK_ops ?_
    obtain ⟨z2, z3, h⟩ := h
    refine @WD_q _ _ _ _ _ _ _ _ 1 1 [] (by kernel_rfl) rfl trivial ?_
    refine @WD_c _ _ _ _ _ _ _ _ ⟨some 19, none, .call 47 [(.t 18)]⟩ 47 [slA eS l1] [slA eS l1] [slA eS l1] [] (.st z2) (by kernel_rfl) (by kernel_rfl) (.inl ⟨[(.t 18)], rfl, by kernel_rfl⟩) (by kernel_rfl) (by kernel_rfl) (by kernel_rfl) (pack_Pack_ok z3) ?_
    refine @WD_q _ _ _ _ _ _ _ _ 1 3 [] (by kernel_rfl) rfl trivial ?_
    refine @WD_end _ _ _ _ _ _ _ _ hB [2] [] ⟨[(2, .st z2)], [], H, n⟩ (by kernel_rfl) (by kernel_rfl) ?_
    refine sqn ?_
    refine WK_ret ?_
    have hr : z2 = r := h
    subst hr
    refine k_ret (u := .st z2) (by kernel_rfl) (by kernel_rfl) (by kernel_rfl) rfl rfl

end Go.Proofs.Ytkmehmgocelkiaa
