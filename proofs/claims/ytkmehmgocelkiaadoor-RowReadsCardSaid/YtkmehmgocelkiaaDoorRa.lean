/-
  What the functions come to, as relations of plain data, and that the program does so. (Written by a program of mine, wip/gen2.py.)
-/
import Derived.Test.YtkmehmgocelkiaaDoorCode
import Derived.Test.YtkmehmgocelkiaaDoorDnG
import Derived.KernelRfl
import Derived.Test.YtkmehmgocelkiaaDoorSh
import Derived.Test.YtkmehmgocelkiaaDoorShelf
namespace Go.Proofs.YtkmehmgocelkiaaDoor
open Go.AV Go.RowKit

structure T_law07_Value where
  Kind : Int
  N : Int
  S : Str

structure T_value_Value where
  Kind : Int
  N : Int
  S : Str

structure T_ref06_Value where
  Kind : Int
  N : Int
  S : Str

inductive TC where
  | c0
  | c2
  | c3
  | c4
  | c5
  | c9
  | c26
  | c27
  | c30
  | c50
  | c52
  | c54
  | c64
  | c90
  | c96
  | c100
  | c107
def KF : TC → Type
  | .c0 => Unit
  | .c2 => Int
  | .c3 => Int
  | .c4 => Bool
  | .c5 => Int
  | .c9 => Str
  | .c26 => T_value_Value
  | .c27 => T_ref06_Value
  | .c30 => Int
  | .c50 => (List T_law07_Value)
  | .c52 => (List T_value_Value)
  | .c54 => (List T_ref06_Value)
  | .c64 => (List Str)
  | .c90 => T_law07_Value
  | .c96 => (List Int)
  | .c100 => Int
  | .c107 => (List Int)
def codes : List (Nat × TC) := [(2, .c2), (3, .c3), (4, .c4), (5, .c5), (9, .c9), (26, .c26), (27, .c27), (30, .c30), (50, .c50), (52, .c52), (54, .c54), (64, .c64), (90, .c90), (96, .c96), (100, .c100), (107, .c107)]
def code (t : Nat) : TC := lkC .c0 codes t
abbrev KK (t : Nat) : Type := KF (code t)
noncomputable def e_value_Value : Enc T_value_Value := encIso ((tbCat (tbI .i64) (tbCat (tbI .i64) tbS)) : Tb KK _).E (fun x : T_value_Value => (x.Kind, x.N, x.S))
noncomputable def b26 : Tb KK T_value_Value := tbIso (tbCat (tbI .i64) (tbCat (tbI .i64) tbS)) (fun x : T_value_Value => (x.Kind, x.N, x.S)) (fun y => (⟨y.1, y.2.1, y.2.2⟩ : T_value_Value)) e_value_Value
noncomputable def e_ref06_Value : Enc T_ref06_Value := encIso ((tbCat (tbI .i64) (tbCat (tbI .i64) tbS)) : Tb KK _).E (fun x : T_ref06_Value => (x.Kind, x.N, x.S))
noncomputable def b27 : Tb KK T_ref06_Value := tbIso (tbCat (tbI .i64) (tbCat (tbI .i64) tbS)) (fun x : T_ref06_Value => (x.Kind, x.N, x.S)) (fun y => (⟨y.1, y.2.1, y.2.2⟩ : T_ref06_Value)) e_ref06_Value
noncomputable def e_law07_Value : Enc T_law07_Value := encIso ((tbCat (tbI .u8) (tbCat (tbI .i64) tbS)) : Tb KK _).E (fun x : T_law07_Value => (x.Kind, x.N, x.S))
noncomputable def b90 : Tb KK T_law07_Value := tbIso (tbCat (tbI .u8) (tbCat (tbI .i64) tbS)) (fun x : T_law07_Value => (x.Kind, x.N, x.S)) (fun y => (⟨y.1, y.2.1, y.2.2⟩ : T_law07_Value)) e_law07_Value
noncomputable def TF : (c : TC) → Tb KK (KF c)
  | .c0 => tbU
  | .c2 => (tbI .i64)
  | .c3 => (tbI .i64)
  | .c4 => tbB
  | .c5 => (tbI .u8)
  | .c9 => tbS
  | .c26 => b26
  | .c27 => b27
  | .c30 => (tbI .i64)
  | .c50 => (tbL 90 e_law07_Value : Tb KK (List T_law07_Value))
  | .c52 => (tbL 26 e_value_Value : Tb KK (List T_value_Value))
  | .c54 => (tbL 27 e_ref06_Value : Tb KK (List T_ref06_Value))
  | .c64 => (tbL 9 eS : Tb KK (List Str))
  | .c90 => b90
  | .c96 => (tbL 5 (eI .u8) : Tb KK (List Int))
  | .c100 => (tbI .u64)
  | .c107 => (tbL 3 (eI .i64) : Tb KK (List Int))
noncomputable def CC : Cx KK := @cxOf TC KF code TF
theorem b26_ok : TbOk Tryd.prog CC b26 := tbIso_ok (tbCat_ok (tbI_ok _) (tbCat_ok (tbI_ok _) tbS_ok)) (fun y => rfl) (fun x => rfl)
theorem dw_value_Value : ∀ x, dwks (e_value_Value.c x) = e_value_Value.c x := b26_ok.dw
theorem b27_ok : TbOk Tryd.prog CC b27 := tbIso_ok (tbCat_ok (tbI_ok _) (tbCat_ok (tbI_ok _) tbS_ok)) (fun y => rfl) (fun x => rfl)
theorem dw_ref06_Value : ∀ x, dwks (e_ref06_Value.c x) = e_ref06_Value.c x := b27_ok.dw
theorem b90_ok : TbOk Tryd.prog CC b90 := tbIso_ok (tbCat_ok (tbI_ok _) (tbCat_ok (tbI_ok _) tbS_ok)) (fun y => rfl) (fun x => rfl)
theorem dw_law07_Value : ∀ x, dwks (e_law07_Value.c x) = e_law07_Value.c x := b90_ok.dw
theorem CC_ok : CxOk Tryd.prog CC := @cxOf_ok TC KF code _ TF fun c => match c with
  | .c0 => tbU_ok
  | .c2 => (tbI_ok _)
  | .c3 => (tbI_ok _)
  | .c4 => tbB_ok
  | .c5 => (tbI_ok _)
  | .c9 => tbS_ok
  | .c26 => b26_ok
  | .c27 => b27_ok
  | .c30 => (tbI_ok _)
  | .c50 => (tbL_ok _ rfl dw_law07_Value)
  | .c52 => (tbL_ok _ rfl dw_value_Value)
  | .c54 => (tbL_ok _ rfl dw_ref06_Value)
  | .c64 => (tbL_ok _ rfl (fun _ => rfl))
  | .c90 => b90_ok
  | .c96 => (tbL_ok _ rfl (fun _ => rfl))
  | .c100 => (tbI_ok _)
  | .c107 => (tbL_ok _ rfl (fun _ => rfl))

def value_OfInt_o (a0 : Int) (r0 : T_value_Value) : Prop :=
  (⟨(2 : Int), a0, ([] : Str)⟩ : T_value_Value) = r0
noncomputable def value_OfInt_sp : Sp KK := ⟨18, [.v 2], [26], appW (K := KK) [26] [.v 2] value_OfInt_o⟩
noncomputable def value_OfInt_an : An KK := (.s .o (.s .o .o))
noncomputable def value_OfInt_cf : Cf KK := ⟨CC, [], 5⟩

set_option maxRecDepth 100000 in
theorem value_OfInt_ok : SpOk Tryd.prog CC value_OfInt_sp := by
  intro env r hF h
  obtain ⟨a0, env0, rfl, h1⟩ := appW_v h
  obtain ⟨rfl, h2⟩ := appW_n h1
  obtain ⟨r0, rr0, rfl, h3⟩ := apR_v h2
  obtain ⟨rfl, h4⟩ := apR_n h3
  refine ⟨rfl, DnF_by (F := value_OfInt_cf) CC_ok SsOk_n t18 (A := value_OfInt_an) (ps := [.v 2]) (rs := [26]) (env := [.d (.v 2 a0)]) (r := [.v 26 r0]) (X := value_OfInt_o a0 r0) rfl (Nat.le_of_ble_eq_true rfl) rfl hF h4 ?_⟩
  kernel_rfl

def pack_wide_L1 (a1 : Int) (a0 : Int) (r0 : (List Int)) (X1 : Int → (List Int) → Prop) (x1 : Int) (x2 : (List Int)) : Prop :=
  cnd (decide (x1 < ((List.replicate a1.toNat (0 : Int)).length : Int))) ((¬ (IntKind.i64.wrap ((8 : Int) * x1)) < 0) ∧ (0 ≤ (IntKind.i64.wrap ((IntKind.i64.wrap (a1 - (1 : Int))) - x1))) ∧ ((IntKind.i64.wrap ((IntKind.i64.wrap (a1 - (1 : Int))) - x1)) < (x2.length : Int)) ∧ ∃ y3 : Int, (x2[(IntKind.i64.wrap ((IntKind.i64.wrap (a1 - (1 : Int))) - x1)).toNat]? = some y3) ∧ X1 (IntKind.i64.wrap (x1 + (1 : Int))) (x2.set ((IntKind.i64.wrap ((IntKind.i64.wrap (a1 - (1 : Int))) - x1)).toNat) (IntKind.u8.wrap (a0.fdiv (2 ^ (min (IntKind.i64.wrap ((8 : Int) * x1)).toNat IntKind.u64.bits)))))) (x2 = r0)
def pack_wide_o (a0 : Int) (a1 : Int) (r0 : (List Int)) : Prop :=
  (0 ≤ a1) ∧ (1 * a1.toNat ≤ 281474976710656) ∧ (a1 ≤ 1000000000) ∧ ∀ X1 : Int → (List Int) → Prop, (∀ (x1 : Int) (x2 : (List Int)), pack_wide_L1 a1 a0 r0 X1 x1 x2 → X1 x1 x2) → X1 (0 : Int) (List.replicate a1.toNat (0 : Int))
def pack_wide_L1i (a0 : Int) (a1 : Int) (r0 : (List Int)) (X1 : Int → (List Int) → Prop) (x1 : Int) (x2 : (List Int)) : Prop :=
  cnd (decide (x1 < ((List.replicate a1.toNat (0 : Int)).length : Int))) ((¬ (IntKind.i64.wrap ((8 : Int) * x1)) < 0) ∧ (0 ≤ (IntKind.i64.wrap ((IntKind.i64.wrap (a1 - (1 : Int))) - x1))) ∧ ((IntKind.i64.wrap ((IntKind.i64.wrap (a1 - (1 : Int))) - x1)) < (x2.length : Int)) ∧ ∃ y3 : Int, (x2[(IntKind.i64.wrap ((IntKind.i64.wrap (a1 - (1 : Int))) - x1)).toNat]? = some y3) ∧ X1 (IntKind.i64.wrap (x1 + (1 : Int))) (x2.set ((IntKind.i64.wrap ((IntKind.i64.wrap (a1 - (1 : Int))) - x1)).toNat) (IntKind.u8.wrap (a0.fdiv (2 ^ (min (IntKind.i64.wrap ((8 : Int) * x1)).toNat IntKind.u64.bits)))))) (x2 = r0)
def pack_wide_oi (a0 : Int) (a1 : Int) (r0 : (List Int)) : Prop :=
  (0 ≤ a1) ∧ (1 * a1.toNat ≤ 281474976710656) ∧ (a1 ≤ 1000000000) ∧ ∀ X1 : Int → (List Int) → Prop, (∀ (x1 : Int) (x2 : (List Int)), pack_wide_L1i a0 a1 r0 X1 x1 x2 → X1 x1 x2) → X1 (0 : Int) (List.replicate a1.toNat (0 : Int))
theorem pack_wide_L1_m (a0 : Int) (a1 : Int) (r0 : (List Int)) {X1 : Int → (List Int) → Prop} {x1 : Int} {x2 : (List Int)} (h : pack_wide_L1i a0 a1 r0 X1 x1 x2) : pack_wide_L1 a1 a0 r0 X1 x1 x2 := by
  unfold pack_wide_L1
  unfold pack_wide_L1i at h
  exact h
theorem pack_wide_i (a0 : Int) (a1 : Int) (r0 : (List Int)) (h : pack_wide_oi a0 a1 r0) : pack_wide_o a0 a1 r0 := by
  unfold pack_wide_o
  unfold pack_wide_oi at h
  obtain ⟨h0, h⟩ := h
  refine ⟨h0, ?_⟩
  obtain ⟨h0, h⟩ := h
  refine ⟨h0, ?_⟩
  obtain ⟨h0, h⟩ := h
  refine ⟨h0, ?_⟩
  intro X1 k
  exact h X1 (fun x1 x2 q => k x1 x2 (pack_wide_L1_m a0 a1 r0 q))
noncomputable def pack_wide_sp : Sp KK := ⟨61, [.v 100, .v 3], [96], appW (K := KK) [96] [.v 100, .v 3] pack_wide_o⟩
noncomputable def pack_wide_an : An KK := (.s .o (.s .o (.s (.s .o (.b (.l ⟨[(0, .kp 5), (1, .kp 6), (5, .row 8), (10, .kp 7), (11, .it .i64)], [], [(8, 5)]⟩ (fun _ => (.s .o (.s (.c .o .o) (.s (.b (.s .o .o)) .o))))))) (.s .o .o))))
noncomputable def pack_wide_cf : Cf KK := ⟨CC, [], 27⟩

set_option maxRecDepth 100000 in
theorem pack_wide_ok : SpOk Tryd.prog CC pack_wide_sp := by
  intro env r hF h
  obtain ⟨a0, env0, rfl, h1⟩ := appW_v h
  obtain ⟨a1, env1, rfl, h2⟩ := appW_v h1
  obtain ⟨rfl, h3⟩ := appW_n h2
  obtain ⟨r0, rr0, rfl, h4⟩ := apR_v h3
  obtain ⟨rfl, h5⟩ := apR_n h4
  refine ⟨rfl, DnF_by (F := pack_wide_cf) CC_ok SsOk_n t61 (A := pack_wide_an) (ps := [.v 100, .v 3]) (rs := [96]) (env := [.d (.v 100 a0), .d (.v 3 a1)]) (r := [.v 96 r0]) (X := pack_wide_o a0 a1 r0) rfl (Nat.le_of_ble_eq_true rfl) rfl hF h5 ?_⟩
  kernel_rfl

def pack_Int_o (a0 : Int) (r0 : Str) : Prop :=
  ∃ z1 : (List Int), (pack_wide_o (bits .xor .u64 (IntKind.u64.wrap a0) (9223372036854775808 : Int)) (8 : Int) z1) ∧ (z1.map toB) = r0
noncomputable def pack_Int_sp : Sp KK := ⟨72, [.v 2], [9], appW (K := KK) [9] [.v 2] pack_Int_o⟩
noncomputable def pack_Int_an : An KK := (.s .o (.s .o .o))
noncomputable def pack_Int_cf : Cf KK := ⟨CC, [pack_wide_sp], 8⟩

set_option maxRecDepth 100000 in
theorem pack_Int_ok : SpOk Tryd.prog CC pack_Int_sp := by
  intro env r hF h
  obtain ⟨a0, env0, rfl, h1⟩ := appW_v h
  obtain ⟨rfl, h2⟩ := appW_n h1
  obtain ⟨r0, rr0, rfl, h3⟩ := apR_v h2
  obtain ⟨rfl, h4⟩ := apR_n h3
  refine ⟨rfl, DnF_by (F := pack_Int_cf) CC_ok (SsOk_c pack_wide_ok SsOk_n) t72 (A := pack_Int_an) (ps := [.v 2]) (rs := [9]) (env := [.d (.v 2 a0)]) (r := [.v 9 r0]) (X := pack_Int_o a0 r0) rfl (Nat.le_of_ble_eq_true rfl) rfl hF h4 ?_⟩
  kernel_rfl

def row_text_o (a0 : T_value_Value) (r0 : Str) : Prop :=
  cnd (a0.Kind == (1 : Int)) (((([IntKind.u8.wrap a0.Kind] : List Int).map toB).length + (([IntKind.u8.wrap a0.N] : List Int).map toB).length ≤ 9223372036854775807) ∧ ((([IntKind.u8.wrap a0.Kind] : List Int).map toB) ++ (([IntKind.u8.wrap a0.N] : List Int).map toB)) = r0) (cnd (a0.Kind == (2 : Int)) (∃ z1 : Str, (pack_Int_o a0.N z1) ∧ ((([IntKind.u8.wrap a0.Kind] : List Int).map toB).length + z1.length ≤ 9223372036854775807) ∧ ((([IntKind.u8.wrap a0.Kind] : List Int).map toB) ++ z1) = r0) (cnd (a0.Kind == (3 : Int)) (((([IntKind.u8.wrap a0.Kind] : List Int).map toB).length + a0.S.length ≤ 9223372036854775807) ∧ ((([IntKind.u8.wrap a0.Kind] : List Int).map toB) ++ a0.S) = r0) ((([IntKind.u8.wrap a0.Kind] : List Int).map toB) = r0)))
noncomputable def row_text_sp : Sp KK := ⟨55, [.v 26], [9], appW (K := KK) [9] [.v 26] row_text_o⟩
noncomputable def row_text_an : An KK := (.s .o (.s .o (.s (.s .o (.b (.s .o (.c .o (.s .o (.c .o (.s .o (.c .o .o)))))))) (.s .o .o))))
noncomputable def row_text_cf : Cf KK := ⟨CC, [pack_Int_sp], 34⟩

set_option maxRecDepth 100000 in
theorem row_text_ok : SpOk Tryd.prog CC row_text_sp := by
  intro env r hF h
  obtain ⟨a0, env0, rfl, h1⟩ := appW_v h
  obtain ⟨rfl, h2⟩ := appW_n h1
  obtain ⟨r0, rr0, rfl, h3⟩ := apR_v h2
  obtain ⟨rfl, h4⟩ := apR_n h3
  refine ⟨rfl, DnF_by (F := row_text_cf) CC_ok (SsOk_c pack_Int_ok SsOk_n) t55 (A := row_text_an) (ps := [.v 26]) (rs := [9]) (env := [.d (.v 26 a0)]) (r := [.v 9 r0]) (X := row_text_o a0 r0) rfl (Nat.le_of_ble_eq_true rfl) rfl hF h4 ?_⟩
  kernel_rfl

def pack_Pack_L1 (a0 : (List Str)) (r0 : Str) (X1 : Int → (List Int) → Prop) (x1 : Int) (x2 : (List Int)) : Prop :=
  cnd (decide (x1 < (a0.length : Int))) ((0 ≤ x1) ∧ (x1 < (a0.length : Int)) ∧ ∃ y3 : Str, (a0[x1.toNat]? = some y3) ∧ ∃ z4 : (List Int), (pack_wide_o (IntKind.u64.wrap (y3.length : Int)) (4 : Int) z4) ∧ (x2.length ≤ 1000000000) ∧ (z4.length ≤ 400000000) ∧ ((x2 ++ z4).length ≤ 1000000000) ∧ (y3.length ≤ 400000000) ∧ X1 (IntKind.i64.wrap (x1 + (1 : Int))) ((x2 ++ z4) ++ (y3.map ofB))) ((x2.map toB) = r0)
def pack_Pack_o (a0 : (List Str)) (r0 : Str) : Prop :=
  (a0.length ≤ maxLen → ∀ X1 : Int → (List Int) → Prop, (∀ (x1 : Int) (x2 : (List Int)), pack_Pack_L1 a0 r0 X1 x1 x2 → X1 x1 x2) → X1 (0 : Int) ([] : List Int))
def pack_Pack_L1i (a0 : (List Str)) (r0 : Str) (X1 : Int → (List Int) → Prop) (x1 : Int) (x2 : (List Int)) : Prop :=
  cnd (decide (x1 < (a0.length : Int))) ((0 ≤ x1) ∧ (x1 < (a0.length : Int)) ∧ ∃ y3 : Str, (a0[x1.toNat]? = some y3) ∧ ∃ z4 : (List Int), (pack_wide_o (IntKind.u64.wrap (y3.length : Int)) (4 : Int) z4) ∧ (x2.length ≤ 1000000000) ∧ (z4.length ≤ 400000000) ∧ ((x2 ++ z4).length ≤ 1000000000) ∧ (y3.length ≤ 400000000) ∧ X1 (IntKind.i64.wrap (x1 + (1 : Int))) ((x2 ++ z4) ++ (y3.map ofB))) ((x2.map toB) = r0)
def pack_Pack_oi (a0 : (List Str)) (r0 : Str) : Prop :=
  (a0.length ≤ maxLen → ∀ X1 : Int → (List Int) → Prop, (∀ (x1 : Int) (x2 : (List Int)), pack_Pack_L1i a0 r0 X1 x1 x2 → X1 x1 x2) → X1 (0 : Int) ([] : List Int))
theorem pack_Pack_L1_m (a0 : (List Str)) (r0 : Str) {X1 : Int → (List Int) → Prop} {x1 : Int} {x2 : (List Int)} (h : pack_Pack_L1i a0 r0 X1 x1 x2) : pack_Pack_L1 a0 r0 X1 x1 x2 := by
  unfold pack_Pack_L1
  unfold pack_Pack_L1i at h
  exact h
theorem pack_Pack_i (a0 : (List Str)) (r0 : Str) (h : pack_Pack_oi a0 r0) : pack_Pack_o a0 r0 := by
  unfold pack_Pack_o
  unfold pack_Pack_oi at h
  intro c
  replace h := h c
  intro X1 k
  exact h X1 (fun x1 x2 q => k x1 x2 (pack_Pack_L1_m a0 r0 q))
noncomputable def pack_Pack_sp : Sp KK := ⟨33, [.v 64], [9], appW (K := KK) [9] [.v 64] pack_Pack_o⟩
noncomputable def pack_Pack_an : An KK := (.s .o (.s .o (.s (.s .o (.b (.l ⟨[(3, .row 20), (6, .kp 6), (7, .kp 7), (8, .it .i64)], [], [(20, 5)]⟩ (fun _ => (.s .o (.s (.c .o .o) (.s (.b (.s .o (.s .o .o))) .o))))))) (.s .o .o))))
noncomputable def pack_Pack_cf : Cf KK := ⟨CC, [pack_wide_sp], 24⟩

set_option maxRecDepth 100000 in
theorem pack_Pack_ok : SpOk Tryd.prog CC pack_Pack_sp := by
  intro env r hF h
  obtain ⟨a0, env0, rfl, h1⟩ := appW_v h
  obtain ⟨rfl, h2⟩ := appW_n h1
  obtain ⟨r0, rr0, rfl, h3⟩ := apR_v h2
  obtain ⟨rfl, h4⟩ := apR_n h3
  refine ⟨rfl, DnF_by (F := pack_Pack_cf) CC_ok (SsOk_c pack_wide_ok SsOk_n) t33 (A := pack_Pack_an) (ps := [.v 64]) (rs := [9]) (env := [.d (.v 64 a0)]) (r := [.v 9 r0]) (X := pack_Pack_o a0 r0) rfl (Nat.le_of_ble_eq_true rfl) rfl hF h4 ?_⟩
  kernel_rfl

def row_Key_L1 (a0 : (List T_value_Value)) (r0 : Str) (X1 : Int → (List Str) → Prop) (x1 : Int) (x2 : (List Str)) : Prop :=
  cnd (decide (x1 < (a0.length : Int))) ((0 ≤ x1) ∧ (x1 < (a0.length : Int)) ∧ ∃ y3 : T_value_Value, (a0[x1.toNat]? = some y3) ∧ ∃ z4 : Str, (row_text_o y3 z4) ∧ (x2.length ≤ 1000000000) ∧ X1 (IntKind.i64.wrap (x1 + (1 : Int))) (x2 ++ ([z4] : List Str))) (∃ z5 : Str, (pack_Pack_o x2 z5) ∧ z5 = r0)
def row_Key_o (a0 : (List T_value_Value)) (r0 : Str) : Prop :=
  (a0.length ≤ maxLen → ∀ X1 : Int → (List Str) → Prop, (∀ (x1 : Int) (x2 : (List Str)), row_Key_L1 a0 r0 X1 x1 x2 → X1 x1 x2) → X1 (0 : Int) ([] : List Str))
def row_Key_L1i (a0 : (List T_value_Value)) (r0 : Str) (X1 : Int → (List Str) → Prop) (x1 : Int) (x2 : (List Str)) : Prop :=
  cnd (decide (x1 < (a0.length : Int))) ((0 ≤ x1) ∧ (x1 < (a0.length : Int)) ∧ ∃ y3 : T_value_Value, (a0[x1.toNat]? = some y3) ∧ ∃ z4 : Str, (row_text_o y3 z4) ∧ (x2.length ≤ 1000000000) ∧ X1 (IntKind.i64.wrap (x1 + (1 : Int))) (x2 ++ ([z4] : List Str))) (∃ z5 : Str, (pack_Pack_o x2 z5) ∧ z5 = r0)
def row_Key_oi (a0 : (List T_value_Value)) (r0 : Str) : Prop :=
  (a0.length ≤ maxLen → ∀ X1 : Int → (List Str) → Prop, (∀ (x1 : Int) (x2 : (List Str)), row_Key_L1i a0 r0 X1 x1 x2 → X1 x1 x2) → X1 (0 : Int) ([] : List Str))
theorem row_Key_L1_m (a0 : (List T_value_Value)) (r0 : Str) {X1 : Int → (List Str) → Prop} {x1 : Int} {x2 : (List Str)} (h : row_Key_L1i a0 r0 X1 x1 x2) : row_Key_L1 a0 r0 X1 x1 x2 := by
  unfold row_Key_L1
  unfold row_Key_L1i at h
  exact h
theorem row_Key_i (a0 : (List T_value_Value)) (r0 : Str) (h : row_Key_oi a0 r0) : row_Key_o a0 r0 := by
  unfold row_Key_o
  unfold row_Key_oi at h
  intro c
  replace h := h c
  intro X1 k
  exact h X1 (fun x1 x2 q => k x1 x2 (row_Key_L1_m a0 r0 q))
noncomputable def row_Key_sp : Sp KK := ⟨28, [.v 52], [9], appW (K := KK) [9] [.v 52] row_Key_o⟩
noncomputable def row_Key_an : An KK := (.s .o (.s .o (.s (.s .o (.b (.l ⟨[(3, .row 16), (6, .kp 6), (7, .kp 7), (8, .it .i64)], [], [(16, 9)]⟩ (fun _ => (.s .o (.s (.c .o .o) (.s (.b (.s .o .o)) .o))))))) (.s .o .o))))
noncomputable def row_Key_cf : Cf KK := ⟨CC, [row_text_sp, pack_Pack_sp], 20⟩

set_option maxRecDepth 100000 in
theorem row_Key_ok : SpOk Tryd.prog CC row_Key_sp := by
  intro env r hF h
  obtain ⟨a0, env0, rfl, h1⟩ := appW_v h
  obtain ⟨rfl, h2⟩ := appW_n h1
  obtain ⟨r0, rr0, rfl, h3⟩ := apR_v h2
  obtain ⟨rfl, h4⟩ := apR_n h3
  refine ⟨rfl, DnF_by (F := row_Key_cf) CC_ok (SsOk_c row_text_ok (SsOk_c pack_Pack_ok SsOk_n)) t28 (A := row_Key_an) (ps := [.v 52]) (rs := [9]) (env := [.d (.v 52 a0)]) (r := [.v 9 r0]) (X := row_Key_o a0 r0) rfl (Nat.le_of_ble_eq_true rfl) rfl hF h4 ?_⟩
  kernel_rfl

def pack_number_L1 (a0 : Str) (r0 : Int) (X1 : Int → Int → Prop) (x1 : Int) (x2 : Int) : Prop :=
  cnd (decide (x2 < (a0.length : Int))) ((0 ≤ x2 ∧ x2 < (a0.length : Int)) ∧ X1 (bits .or .u64 (IntKind.u64.wrap (x1 * 2 ^ (min (8 : Int).toNat IntKind.u64.bits))) (IntKind.u64.wrap (bAt a0 x2))) (IntKind.i64.wrap (x2 + (1 : Int)))) (x1 = r0)
def pack_number_o (a0 : Str) (r0 : Int) : Prop :=
  ∀ X1 : Int → Int → Prop, (∀ (x1 : Int) (x2 : Int), pack_number_L1 a0 r0 X1 x1 x2 → X1 x1 x2) → X1 (0 : Int) (0 : Int)
def pack_number_L1i (a0 : Str) (r0 : Int) (X1 : Int → Int → Prop) (x1 : Int) (x2 : Int) : Prop :=
  cnd (decide (x2 < (a0.length : Int))) ((0 ≤ x2 ∧ x2 < (a0.length : Int)) ∧ X1 (bits .or .u64 (IntKind.u64.wrap (x1 * 2 ^ (min (8 : Int).toNat IntKind.u64.bits))) (IntKind.u64.wrap (bAt a0 x2))) (IntKind.i64.wrap (x2 + (1 : Int)))) (x1 = r0)
def pack_number_oi (a0 : Str) (r0 : Int) : Prop :=
  ∀ X1 : Int → Int → Prop, (∀ (x1 : Int) (x2 : Int), pack_number_L1i a0 r0 X1 x1 x2 → X1 x1 x2) → X1 (0 : Int) (0 : Int)
theorem pack_number_L1_m (a0 : Str) (r0 : Int) {X1 : Int → Int → Prop} {x1 : Int} {x2 : Int} (h : pack_number_L1i a0 r0 X1 x1 x2) : pack_number_L1 a0 r0 X1 x1 x2 := by
  unfold pack_number_L1
  unfold pack_number_L1i at h
  exact h
theorem pack_number_i (a0 : Str) (r0 : Int) (h : pack_number_oi a0 r0) : pack_number_o a0 r0 := by
  unfold pack_number_o
  unfold pack_number_oi at h
  intro X1 k
  exact h X1 (fun x1 x2 q => k x1 x2 (pack_number_L1_m a0 r0 q))
noncomputable def pack_number_sp : Sp KK := ⟨89, [.v 9], [100], appW (K := KK) [100] [.v 9] pack_number_o⟩
noncomputable def pack_number_an : An KK := (.s .o (.s .o (.s (.s .o (.b (.l ⟨[(0, .kp 5), (3, .it .u64), (6, .kp 7), (7, .it .i64)], [], []⟩ (fun _ => (.s .o (.s (.c .o .o) (.s (.b (.s .o .o)) .o))))))) (.s .o .o))))
noncomputable def pack_number_cf : Cf KK := ⟨CC, [], 19⟩

set_option maxRecDepth 100000 in
theorem pack_number_ok : SpOk Tryd.prog CC pack_number_sp := by
  intro env r hF h
  obtain ⟨a0, env0, rfl, h1⟩ := appW_v h
  obtain ⟨rfl, h2⟩ := appW_n h1
  obtain ⟨r0, rr0, rfl, h3⟩ := apR_v h2
  obtain ⟨rfl, h4⟩ := apR_n h3
  refine ⟨rfl, DnF_by (F := pack_number_cf) CC_ok SsOk_n t89 (A := pack_number_an) (ps := [.v 9]) (rs := [100]) (env := [.d (.v 9 a0)]) (r := [.v 100 r0]) (X := pack_number_o a0 r0) rfl (Nat.le_of_ble_eq_true rfl) rfl hF h4 ?_⟩
  kernel_rfl

def pack_first_o (a0 : Str) (r0 : Str) (r1 : Str) (r2 : Bool) : Prop :=
  cnd (decide ((a0.length : Int) < (4 : Int))) (([] : Str) = r0 ∧ a0 = r1 ∧ false = r2) ((0 ≤ (0 : Int) ∧ (0 : Int) ≤ (4 : Int) ∧ (4 : Int) ≤ (a0.length : Int)) ∧ ∃ z1 : Int, (pack_number_o ((a0.drop (0 : Int).toNat).take ((4 : Int).toNat - (0 : Int).toNat)) z1) ∧ cnd (decide ((IntKind.u64.wrap (IntKind.i64.wrap ((a0.length : Int) - (4 : Int)))) < z1)) (([] : Str) = r0 ∧ a0 = r1 ∧ false = r2) ((0 ≤ (4 : Int) ∧ (4 : Int) ≤ (IntKind.i64.wrap ((4 : Int) + (IntKind.i64.wrap z1))) ∧ (IntKind.i64.wrap ((4 : Int) + (IntKind.i64.wrap z1))) ≤ (a0.length : Int)) ∧ (0 ≤ (IntKind.i64.wrap ((4 : Int) + (IntKind.i64.wrap z1))) ∧ (IntKind.i64.wrap ((4 : Int) + (IntKind.i64.wrap z1))) ≤ (a0.length : Int) ∧ (a0.length : Int) ≤ (a0.length : Int)) ∧ ((a0.drop (4 : Int).toNat).take ((IntKind.i64.wrap ((4 : Int) + (IntKind.i64.wrap z1))).toNat - (4 : Int).toNat)) = r0 ∧ ((a0.drop (IntKind.i64.wrap ((4 : Int) + (IntKind.i64.wrap z1))).toNat).take ((a0.length : Int).toNat - (IntKind.i64.wrap ((4 : Int) + (IntKind.i64.wrap z1))).toNat)) = r1 ∧ true = r2))
noncomputable def pack_first_sp : Sp KK := ⟨73, [.v 9], [9, 9, 4], appW (K := KK) [9, 9, 4] [.v 9] pack_first_o⟩
noncomputable def pack_first_an : An KK := (.s .o (.s (.s .o (.c (.s .o .o) .o)) (.s .o (.s (.s .o (.c (.s .o .o) .o)) (.s .o (.s .o .o))))))
noncomputable def pack_first_cf : Cf KK := ⟨CC, [pack_number_sp], 30⟩

set_option maxRecDepth 100000 in
theorem pack_first_ok : SpOk Tryd.prog CC pack_first_sp := by
  intro env r hF h
  obtain ⟨a0, env0, rfl, h1⟩ := appW_v h
  obtain ⟨rfl, h2⟩ := appW_n h1
  obtain ⟨r0, rr0, rfl, h3⟩ := apR_v h2
  obtain ⟨r1, rr1, rfl, h4⟩ := apR_v h3
  obtain ⟨r2, rr2, rfl, h5⟩ := apR_v h4
  obtain ⟨rfl, h6⟩ := apR_n h5
  refine ⟨rfl, DnF_by (F := pack_first_cf) CC_ok (SsOk_c pack_number_ok SsOk_n) t73 (A := pack_first_an) (ps := [.v 9]) (rs := [9, 9, 4]) (env := [.d (.v 9 a0)]) (r := [.v 9 r0, .v 9 r1, .v 4 r2]) (X := pack_first_o a0 r0 r1 r2) rfl (Nat.le_of_ble_eq_true rfl) rfl hF h6 ?_⟩
  kernel_rfl

def pack_Split_L1 (r0 : (List Str)) (r1 : Int) (X1 : Str → (List Str) → Prop) (x1 : Str) (x2 : (List Str)) : Prop :=
  cnd (!(x1 == ([] : Str))) (∃ z3 : Str, ∃ z4 : Str, ∃ z5 : Bool, (pack_first_o x1 z3 z4 z5) ∧ cnd (!z5) (([] : List Str) = r0 ∧ (2 : Int) = r1) ((x2.length ≤ 1000000000) ∧ X1 z4 (x2 ++ ([z3] : List Str)))) (x2 = r0 ∧ (0 : Int) = r1)
def pack_Split_o (a0 : Str) (r0 : (List Str)) (r1 : Int) : Prop :=
  ∀ X1 : Str → (List Str) → Prop, (∀ (x1 : Str) (x2 : (List Str)), pack_Split_L1 r0 r1 X1 x1 x2 → X1 x1 x2) → X1 a0 ([] : List Str)
def pack_Split_L1i (r0 : (List Str)) (r1 : Int) (X1 : Str → (List Str) → Prop) (x1 : Str) (x2 : (List Str)) : Prop :=
  cnd (!(x1 == ([] : Str))) (∃ z3 : Str, ∃ z4 : Str, ∃ z5 : Bool, (pack_first_o x1 z3 z4 z5) ∧ cnd (!z5) (([] : List Str) = r0 ∧ (2 : Int) = r1) ((x2.length ≤ 1000000000) ∧ X1 z4 (x2 ++ ([z3] : List Str)))) (x2 = r0 ∧ (0 : Int) = r1)
def pack_Split_oi (a0 : Str) (r0 : (List Str)) (r1 : Int) : Prop :=
  ∀ X1 : Str → (List Str) → Prop, (∀ (x1 : Str) (x2 : (List Str)), pack_Split_L1i r0 r1 X1 x1 x2 → X1 x1 x2) → X1 a0 ([] : List Str)
theorem pack_Split_L1_m (r0 : (List Str)) (r1 : Int) {X1 : Str → (List Str) → Prop} {x1 : Str} {x2 : (List Str)} (h : pack_Split_L1i r0 r1 X1 x1 x2) : pack_Split_L1 r0 r1 X1 x1 x2 := by
  unfold pack_Split_L1
  unfold pack_Split_L1i at h
  exact h
theorem pack_Split_i (a0 : Str) (r0 : (List Str)) (r1 : Int) (h : pack_Split_oi a0 r0 r1) : pack_Split_o a0 r0 r1 := by
  unfold pack_Split_o
  unfold pack_Split_oi at h
  intro X1 k
  exact h X1 (fun x1 x2 q => k x1 x2 (pack_Split_L1_m r0 r1 q))
noncomputable def pack_Split_sp : Sp KK := ⟨56, [.v 9], [64, 30], appW (K := KK) [64, 30] [.v 9] pack_Split_o⟩
noncomputable def pack_Split_an : An KK := (.s .o (.s .o (.s (.b (.l ⟨[(0, .st), (4, .row 21)], [], [(21, 9)]⟩ (fun _ => (.s (.s .o (.c .o .o)) (.b (.s .o (.s (.s .o (.c (.s .o .o) .o)) .o))))))) (.s .o .o))))
noncomputable def pack_Split_cf : Cf KK := ⟨CC, [pack_first_sp], 24⟩

set_option maxRecDepth 100000 in
theorem pack_Split_ok : SpOk Tryd.prog CC pack_Split_sp := by
  intro env r hF h
  obtain ⟨a0, env0, rfl, h1⟩ := appW_v h
  obtain ⟨rfl, h2⟩ := appW_n h1
  obtain ⟨r0, rr0, rfl, h3⟩ := apR_v h2
  obtain ⟨r1, rr1, rfl, h4⟩ := apR_v h3
  obtain ⟨rfl, h5⟩ := apR_n h4
  refine ⟨rfl, DnF_by (F := pack_Split_cf) CC_ok (SsOk_c pack_first_ok SsOk_n) t56 (A := pack_Split_an) (ps := [.v 9]) (rs := [64, 30]) (env := [.d (.v 9 a0)]) (r := [.v 64 r0, .v 30 r1]) (X := pack_Split_o a0 r0 r1) rfl (Nat.le_of_ble_eq_true rfl) rfl hF h5 ?_⟩
  kernel_rfl

def pack_GetInt_o (a0 : Str) (r0 : Int) (r1 : Bool) : Prop :=
  cnd (!((a0.length : Int) == (8 : Int))) ((0 : Int) = r0 ∧ false = r1) (∃ z1 : Int, (pack_number_o a0 z1) ∧ (IntKind.i64.wrap (bits .xor .u64 z1 (9223372036854775808 : Int))) = r0 ∧ true = r1)
noncomputable def pack_GetInt_sp : Sp KK := ⟨74, [.v 9], [2, 4], appW (K := KK) [2, 4] [.v 9] pack_GetInt_o⟩
noncomputable def pack_GetInt_an : An KK := (.s .o (.s (.s .o (.c (.s .o .o) .o)) (.s .o .o)))
noncomputable def pack_GetInt_cf : Cf KK := ⟨CC, [pack_number_sp], 11⟩

set_option maxRecDepth 100000 in
theorem pack_GetInt_ok : SpOk Tryd.prog CC pack_GetInt_sp := by
  intro env r hF h
  obtain ⟨a0, env0, rfl, h1⟩ := appW_v h
  obtain ⟨rfl, h2⟩ := appW_n h1
  obtain ⟨r0, rr0, rfl, h3⟩ := apR_v h2
  obtain ⟨r1, rr1, rfl, h4⟩ := apR_v h3
  obtain ⟨rfl, h5⟩ := apR_n h4
  refine ⟨rfl, DnF_by (F := pack_GetInt_cf) CC_ok (SsOk_c pack_number_ok SsOk_n) t74 (A := pack_GetInt_an) (ps := [.v 9]) (rs := [2, 4]) (env := [.d (.v 9 a0)]) (r := [.v 2 r0, .v 4 r1]) (X := pack_GetInt_o a0 r0 r1) rfl (Nat.le_of_ble_eq_true rfl) rfl hF h5 ?_⟩
  kernel_rfl

def value_Value_Good_o (a0 : T_value_Value) (r0 : Bool) : Prop :=
  cnd (a0.Kind == (0 : Int)) (((a0.Kind == (0 : Int)) && ((a0.N == (0 : Int)) && ((a0.S == ([] : Str)) && true))) = r0) (cnd (a0.Kind == (1 : Int)) (cnd (a0.N == (0 : Int)) ((a0.S == ([] : Str)) = r0) (cnd (a0.N == (1 : Int)) ((a0.S == ([] : Str)) = r0) (false = r0))) (cnd (a0.Kind == (2 : Int)) ((a0.S == ([] : Str)) = r0) (cnd (a0.Kind == (3 : Int)) (cnd (a0.N == (0 : Int)) ((decide ((a0.S.length : Int) ≤ (64 : Int))) = r0) (false = r0)) (false = r0))))
noncomputable def value_Value_Good_sp : Sp KK := ⟨19, [.v 26], [4], appW (K := KK) [4] [.v 26] value_Value_Good_o⟩
noncomputable def value_Value_Good_an : An KK := (.s .o (.s (.s .o (.b (.s .o (.c (.s .o .o) (.s .o (.c (.s .o .o) (.s .o (.c (.s .o .o) (.s .o (.c (.s .o .o) .o)))))))))) (.s .o .o)))
noncomputable def value_Value_Good_cf : Cf KK := ⟨CC, [], 41⟩

set_option maxRecDepth 100000 in
theorem value_Value_Good_ok : SpOk Tryd.prog CC value_Value_Good_sp := by
  intro env r hF h
  obtain ⟨a0, env0, rfl, h1⟩ := appW_v h
  obtain ⟨rfl, h2⟩ := appW_n h1
  obtain ⟨r0, rr0, rfl, h3⟩ := apR_v h2
  obtain ⟨rfl, h4⟩ := apR_n h3
  refine ⟨rfl, DnF_by (F := value_Value_Good_cf) CC_ok SsOk_n t19 (A := value_Value_Good_an) (ps := [.v 26]) (rs := [4]) (env := [.d (.v 26 a0)]) (r := [.v 4 r0]) (X := value_Value_Good_o a0 r0) rfl (Nat.le_of_ble_eq_true rfl) rfl hF h4 ?_⟩
  kernel_rfl

def row_read_J1 (a0 : Str) (r0 : T_value_Value) (r1 : Bool) (x1 : Int) (x2 : Str) : Prop :=
  ∃ z3 : Bool, (value_Value_Good_o (⟨IntKind.i64.wrap (bAt a0 (0 : Int)), x1, x2⟩ : T_value_Value) z3) ∧ (⟨IntKind.i64.wrap (bAt a0 (0 : Int)), x1, x2⟩ : T_value_Value) = r0 ∧ z3 = r1
def row_read_o (a0 : Str) (r0 : T_value_Value) (r1 : Bool) : Prop :=
  cnd (a0 == ([] : Str)) ((⟨(0 : Int), (0 : Int), ([] : Str)⟩ : T_value_Value) = r0 ∧ false = r1) ((0 ≤ (1 : Int) ∧ (1 : Int) ≤ (a0.length : Int) ∧ (a0.length : Int) ≤ (a0.length : Int)) ∧ (0 ≤ (0 : Int) ∧ (0 : Int) < (a0.length : Int)) ∧ ∀ J1 : Int → Str → Prop, (∀ (x1 : Int) (x2 : Str), row_read_J1 a0 r0 r1 x1 x2 → J1 x1 x2) → cnd ((IntKind.i64.wrap (bAt a0 (0 : Int))) == (0 : Int)) ((⟨IntKind.i64.wrap (bAt a0 (0 : Int)), (0 : Int), ([] : Str)⟩ : T_value_Value) = r0 ∧ (((a0.drop (1 : Int).toNat).take ((a0.length : Int).toNat - (1 : Int).toNat)) == ([] : Str)) = r1) (cnd ((IntKind.i64.wrap (bAt a0 (0 : Int))) == (1 : Int)) (cnd (!((((a0.drop (1 : Int).toNat).take ((a0.length : Int).toNat - (1 : Int).toNat)).length : Int) == (1 : Int))) ((⟨IntKind.i64.wrap (bAt a0 (0 : Int)), (0 : Int), ([] : Str)⟩ : T_value_Value) = r0 ∧ false = r1) ((0 ≤ (0 : Int) ∧ (0 : Int) < (((a0.drop (1 : Int).toNat).take ((a0.length : Int).toNat - (1 : Int).toNat)).length : Int)) ∧ J1 (IntKind.i64.wrap (bAt ((a0.drop (1 : Int).toNat).take ((a0.length : Int).toNat - (1 : Int).toNat)) (0 : Int))) ([] : Str))) (cnd ((IntKind.i64.wrap (bAt a0 (0 : Int))) == (2 : Int)) (∃ z4 : Int, ∃ z5 : Bool, (pack_GetInt_o ((a0.drop (1 : Int).toNat).take ((a0.length : Int).toNat - (1 : Int).toNat)) z4 z5) ∧ cnd (!z5) ((⟨IntKind.i64.wrap (bAt a0 (0 : Int)), (0 : Int), ([] : Str)⟩ : T_value_Value) = r0 ∧ false = r1) (J1 z4 ([] : Str))) (J1 (0 : Int) ((a0.drop (1 : Int).toNat).take ((a0.length : Int).toNat - (1 : Int).toNat))))))
def row_read_J1i (a0 : Str) (r0 : T_value_Value) (r1 : Bool) (x1 : Int) (x2 : Str) : Prop :=
  ∃ z3 : Bool, (value_Value_Good_o (⟨IntKind.i64.wrap (bAt a0 (0 : Int)), x1, x2⟩ : T_value_Value) z3) ∧ (⟨IntKind.i64.wrap (bAt a0 (0 : Int)), x1, x2⟩ : T_value_Value) = r0 ∧ z3 = r1
def row_read_oi (a0 : Str) (r0 : T_value_Value) (r1 : Bool) : Prop :=
  cnd (a0 == ([] : Str)) ((⟨(0 : Int), (0 : Int), ([] : Str)⟩ : T_value_Value) = r0 ∧ false = r1) ((0 ≤ (1 : Int) ∧ (1 : Int) ≤ (a0.length : Int) ∧ (a0.length : Int) ≤ (a0.length : Int)) ∧ (0 ≤ (0 : Int) ∧ (0 : Int) < (a0.length : Int)) ∧ cnd ((IntKind.i64.wrap (bAt a0 (0 : Int))) == (0 : Int)) ((⟨IntKind.i64.wrap (bAt a0 (0 : Int)), (0 : Int), ([] : Str)⟩ : T_value_Value) = r0 ∧ (((a0.drop (1 : Int).toNat).take ((a0.length : Int).toNat - (1 : Int).toNat)) == ([] : Str)) = r1) (cnd ((IntKind.i64.wrap (bAt a0 (0 : Int))) == (1 : Int)) (cnd (!((((a0.drop (1 : Int).toNat).take ((a0.length : Int).toNat - (1 : Int).toNat)).length : Int) == (1 : Int))) ((⟨IntKind.i64.wrap (bAt a0 (0 : Int)), (0 : Int), ([] : Str)⟩ : T_value_Value) = r0 ∧ false = r1) ((0 ≤ (0 : Int) ∧ (0 : Int) < (((a0.drop (1 : Int).toNat).take ((a0.length : Int).toNat - (1 : Int).toNat)).length : Int)) ∧ row_read_J1i a0 r0 r1 (IntKind.i64.wrap (bAt ((a0.drop (1 : Int).toNat).take ((a0.length : Int).toNat - (1 : Int).toNat)) (0 : Int))) ([] : Str))) (cnd ((IntKind.i64.wrap (bAt a0 (0 : Int))) == (2 : Int)) (∃ z4 : Int, ∃ z5 : Bool, (pack_GetInt_o ((a0.drop (1 : Int).toNat).take ((a0.length : Int).toNat - (1 : Int).toNat)) z4 z5) ∧ cnd (!z5) ((⟨IntKind.i64.wrap (bAt a0 (0 : Int)), (0 : Int), ([] : Str)⟩ : T_value_Value) = r0 ∧ false = r1) (row_read_J1i a0 r0 r1 z4 ([] : Str))) (row_read_J1i a0 r0 r1 (0 : Int) ((a0.drop (1 : Int).toNat).take ((a0.length : Int).toNat - (1 : Int).toNat))))))
theorem row_read_J1_m (a0 : Str) (r0 : T_value_Value) (r1 : Bool) {x1 : Int} {x2 : Str} (h : row_read_J1i a0 r0 r1 x1 x2) : row_read_J1 a0 r0 r1 x1 x2 := by
  unfold row_read_J1
  unfold row_read_J1i at h
  exact h
theorem row_read_i (a0 : Str) (r0 : T_value_Value) (r1 : Bool) (h : row_read_oi a0 r0 r1) : row_read_o a0 r0 r1 := by
  unfold row_read_o
  unfold row_read_oi at h
  refine cnd_mono h (fun h => ?_) (fun h => ?_)
  · exact h
  · obtain ⟨h0, h⟩ := h
    refine ⟨h0, ?_⟩
    obtain ⟨h0, h⟩ := h
    refine ⟨h0, ?_⟩
    intro J1 kJ1
    have hJ1 : ∀ (x1 : Int) (x2 : Str), row_read_J1i a0 r0 r1 x1 x2 → J1 x1 x2 := fun x1 x2 q => kJ1 x1 x2 (row_read_J1_m a0 r0 r1 q)
    refine cnd_mono h (fun h => ?_) (fun h => ?_)
    · exact h
    · refine cnd_mono h (fun h => ?_) (fun h => ?_)
      · refine cnd_mono h (fun h => ?_) (fun h => ?_)
        · exact h
        · obtain ⟨h0, h⟩ := h
          refine ⟨h0, ?_⟩
          exact hJ1 _ _ h
      · refine cnd_mono h (fun h => ?_) (fun h => ?_)
        · obtain ⟨z4, h⟩ := h
          refine ⟨z4, ?_⟩
          obtain ⟨z5, h⟩ := h
          refine ⟨z5, ?_⟩
          obtain ⟨h0, h⟩ := h
          refine ⟨h0, ?_⟩
          refine cnd_mono h (fun h => ?_) (fun h => ?_)
          · exact h
          · exact hJ1 _ _ h
        · exact hJ1 _ _ h
noncomputable def row_read_sp : Sp KK := ⟨57, [.v 9], [26, 4], appW (K := KK) [26, 4] [.v 9] row_read_o⟩
noncomputable def row_read_an : An KK := (.s .o (.s (.s .o (.c (.s .o .o) .o)) (.s .o (.s .o (.j ⟨[(2, .px 2 0), (5, .px 5 0)], [(2, 26, [.kp 1, .kp 2, .kp 3]), (5, 26, [.kp 4, .it .i64, .st])], []⟩ (.s .o (.b (.s .o (.c (.s .o .o) (.s .o (.c (.s (.s .o (.c (.s .o .o) .o)) .o) (.s .o (.c (.s .o (.s (.s .o (.c (.s .o .o) .o)) .o)) .o)))))))) (fun _ => (.s .o .o)))))))
noncomputable def row_read_cf : Cf KK := ⟨CC, [pack_GetInt_sp, value_Value_Good_sp], 51⟩

set_option maxRecDepth 100000 in
theorem row_read_ok : SpOk Tryd.prog CC row_read_sp := by
  intro env r hF h
  obtain ⟨a0, env0, rfl, h1⟩ := appW_v h
  obtain ⟨rfl, h2⟩ := appW_n h1
  obtain ⟨r0, rr0, rfl, h3⟩ := apR_v h2
  obtain ⟨r1, rr1, rfl, h4⟩ := apR_v h3
  obtain ⟨rfl, h5⟩ := apR_n h4
  refine ⟨rfl, DnF_by (F := row_read_cf) CC_ok (SsOk_c pack_GetInt_ok (SsOk_c value_Value_Good_ok SsOk_n)) t57 (A := row_read_an) (ps := [.v 9]) (rs := [26, 4]) (env := [.d (.v 9 a0)]) (r := [.v 26 r0, .v 4 r1]) (X := row_read_o a0 r0 r1) rfl (Nat.le_of_ble_eq_true rfl) rfl hF h5 ?_⟩
  kernel_rfl

def row_Get_L1 (z1 : (List Str)) (r0 : (List T_value_Value)) (r1 : Int) (X1 : Int → (List T_value_Value) → Prop) (x3 : Int) (x4 : (List T_value_Value)) : Prop :=
  cnd (decide (x3 < (z1.length : Int))) ((0 ≤ x3) ∧ (x3 < (z1.length : Int)) ∧ ∃ y5 : Str, (z1[x3.toNat]? = some y5) ∧ ∃ z6 : T_value_Value, ∃ z7 : Bool, (row_read_o y5 z6 z7) ∧ cnd (!z7) (([] : List T_value_Value) = r0 ∧ (4 : Int) = r1) ((x4.length ≤ 1000000000) ∧ X1 (IntKind.i64.wrap (x3 + (1 : Int))) (x4 ++ ([z6] : List T_value_Value)))) (x4 = r0 ∧ (0 : Int) = r1)
def row_Get_o (a0 : Str) (r0 : (List T_value_Value)) (r1 : Int) : Prop :=
  ∃ z1 : (List Str), ∃ z2 : Int, (pack_Split_o a0 z1 z2) ∧ cnd (!(z2 == (0 : Int))) (([] : List T_value_Value) = r0 ∧ z2 = r1) ((z1.length ≤ maxLen → ∀ X1 : Int → (List T_value_Value) → Prop, (∀ (x3 : Int) (x4 : (List T_value_Value)), row_Get_L1 z1 r0 r1 X1 x3 x4 → X1 x3 x4) → X1 (0 : Int) ([] : List T_value_Value)))
def row_Get_L1i (r0 : (List T_value_Value)) (r1 : Int) (z1 : (List Str)) (X1 : Int → (List T_value_Value) → Prop) (x3 : Int) (x4 : (List T_value_Value)) : Prop :=
  cnd (decide (x3 < (z1.length : Int))) ((0 ≤ x3) ∧ (x3 < (z1.length : Int)) ∧ ∃ y5 : Str, (z1[x3.toNat]? = some y5) ∧ ∃ z6 : T_value_Value, ∃ z7 : Bool, (row_read_o y5 z6 z7) ∧ cnd (!z7) (([] : List T_value_Value) = r0 ∧ (4 : Int) = r1) ((x4.length ≤ 1000000000) ∧ X1 (IntKind.i64.wrap (x3 + (1 : Int))) (x4 ++ ([z6] : List T_value_Value)))) (x4 = r0 ∧ (0 : Int) = r1)
def row_Get_oi (a0 : Str) (r0 : (List T_value_Value)) (r1 : Int) : Prop :=
  ∃ z1 : (List Str), ∃ z2 : Int, (pack_Split_o a0 z1 z2) ∧ cnd (!(z2 == (0 : Int))) (([] : List T_value_Value) = r0 ∧ z2 = r1) ((z1.length ≤ maxLen → ∀ X1 : Int → (List T_value_Value) → Prop, (∀ (x3 : Int) (x4 : (List T_value_Value)), row_Get_L1i r0 r1 z1 X1 x3 x4 → X1 x3 x4) → X1 (0 : Int) ([] : List T_value_Value)))
theorem row_Get_L1_m (r0 : (List T_value_Value)) (r1 : Int) (z1 : (List Str)) {X1 : Int → (List T_value_Value) → Prop} {x3 : Int} {x4 : (List T_value_Value)} (h : row_Get_L1i r0 r1 z1 X1 x3 x4) : row_Get_L1 z1 r0 r1 X1 x3 x4 := by
  unfold row_Get_L1
  unfold row_Get_L1i at h
  exact h
theorem row_Get_i (a0 : Str) (r0 : (List T_value_Value)) (r1 : Int) (h : row_Get_oi a0 r0 r1) : row_Get_o a0 r0 r1 := by
  unfold row_Get_o
  unfold row_Get_oi at h
  obtain ⟨z1, h⟩ := h
  refine ⟨z1, ?_⟩
  obtain ⟨z2, h⟩ := h
  refine ⟨z2, ?_⟩
  obtain ⟨h0, h⟩ := h
  refine ⟨h0, ?_⟩
  refine cnd_mono h (fun h => ?_) (fun h => ?_)
  · exact h
  · intro c
    replace h := h c
    intro X1 k
    exact h X1 (fun x3 x4 q => k x3 x4 (row_Get_L1_m r0 r1 z1 q))
noncomputable def row_Get_sp : Sp KK := ⟨29, [.v 9], [52, 30], appW (K := KK) [52, 30] [.v 9] row_Get_o⟩
noncomputable def row_Get_an : An KK := (.s .o (.s .o (.s (.s .o (.c (.s .o .o) .o)) (.s .o (.s (.s .o (.b (.l ⟨[(6, .row 35), (19, .kp 6), (20, .kp 7), (21, .it .i64)], [], [(35, 26)]⟩ (fun _ => (.s .o (.s (.c .o .o) (.s (.b (.s .o (.s .o (.s (.s .o (.c (.s .o .o) .o)) .o)))) .o))))))) (.s .o .o))))))
noncomputable def row_Get_cf : Cf KK := ⟨CC, [pack_Split_sp, row_read_sp], 38⟩

set_option maxRecDepth 100000 in
theorem row_Get_ok : SpOk Tryd.prog CC row_Get_sp := by
  intro env r hF h
  obtain ⟨a0, env0, rfl, h1⟩ := appW_v h
  obtain ⟨rfl, h2⟩ := appW_n h1
  obtain ⟨r0, rr0, rfl, h3⟩ := apR_v h2
  obtain ⟨r1, rr1, rfl, h4⟩ := apR_v h3
  obtain ⟨rfl, h5⟩ := apR_n h4
  refine ⟨rfl, DnF_by (F := row_Get_cf) CC_ok (SsOk_c pack_Split_ok (SsOk_c row_read_ok SsOk_n)) t29 (A := row_Get_an) (ps := [.v 9]) (rs := [52, 30]) (env := [.d (.v 9 a0)]) (r := [.v 52 r0, .v 30 r1]) (X := row_Get_o a0 r0 r1) rfl (Nat.le_of_ble_eq_true rfl) rfl hF h5 ?_⟩
  kernel_rfl

def value_Value_none_o (a0 : T_value_Value) (r0 : Bool) : Prop :=
  (a0.Kind == (0 : Int)) = r0
noncomputable def value_Value_none_sp : Sp KK := ⟨42, [.v 26], [4], appW (K := KK) [4] [.v 26] value_Value_none_o⟩
noncomputable def value_Value_none_an : An KK := (.s .o (.s .o .o))
noncomputable def value_Value_none_cf : Cf KK := ⟨CC, [], 6⟩

set_option maxRecDepth 100000 in
theorem value_Value_none_ok : SpOk Tryd.prog CC value_Value_none_sp := by
  intro env r hF h
  obtain ⟨a0, env0, rfl, h1⟩ := appW_v h
  obtain ⟨rfl, h2⟩ := appW_n h1
  obtain ⟨r0, rr0, rfl, h3⟩ := apR_v h2
  obtain ⟨rfl, h4⟩ := apR_n h3
  refine ⟨rfl, DnF_by (F := value_Value_none_cf) CC_ok SsOk_n t42 (A := value_Value_none_an) (ps := [.v 26]) (rs := [4]) (env := [.d (.v 26 a0)]) (r := [.v 4 r0]) (X := value_Value_none_o a0 r0) rfl (Nat.le_of_ble_eq_true rfl) rfl hF h4 ?_⟩
  kernel_rfl

def value_OfBool_o (a0 : Bool) (r0 : T_value_Value) : Prop :=
  cnd a0 ((⟨(1 : Int), (1 : Int), ([] : Str)⟩ : T_value_Value) = r0) ((⟨(1 : Int), (0 : Int), ([] : Str)⟩ : T_value_Value) = r0)
noncomputable def value_OfBool_sp : Sp KK := ⟨16, [.v 4], [26], appW (K := KK) [26] [.v 4] value_OfBool_o⟩
noncomputable def value_OfBool_an : An KK := (.s .o (.s (.s .o (.c (.s .o .o) .o)) (.s .o .o)))
noncomputable def value_OfBool_cf : Cf KK := ⟨CC, [], 6⟩

set_option maxRecDepth 100000 in
theorem value_OfBool_ok : SpOk Tryd.prog CC value_OfBool_sp := by
  intro env r hF h
  obtain ⟨a0, env0, rfl, h1⟩ := appW_v h
  obtain ⟨rfl, h2⟩ := appW_n h1
  obtain ⟨r0, rr0, rfl, h3⟩ := apR_v h2
  obtain ⟨rfl, h4⟩ := apR_n h3
  refine ⟨rfl, DnF_by (F := value_OfBool_cf) CC_ok SsOk_n t16 (A := value_OfBool_an) (ps := [.v 4]) (rs := [26]) (env := [.d (.v 4 a0)]) (r := [.v 26 r0]) (X := value_OfBool_o a0 r0) rfl (Nat.le_of_ble_eq_true rfl) rfl hF h4 ?_⟩
  kernel_rfl

def value_Value_True_o (a0 : T_value_Value) (r0 : Bool) : Prop :=
  ∃ z1 : T_value_Value, (value_OfBool_o true z1) ∧ ((a0.Kind == z1.Kind) && ((a0.N == z1.N) && ((a0.S == z1.S) && true))) = r0
noncomputable def value_Value_True_sp : Sp KK := ⟨23, [.v 26], [4], appW (K := KK) [4] [.v 26] value_Value_True_o⟩
noncomputable def value_Value_True_an : An KK := (.s .o (.s .o .o))
noncomputable def value_Value_True_cf : Cf KK := ⟨CC, [value_OfBool_sp], 6⟩

set_option maxRecDepth 100000 in
theorem value_Value_True_ok : SpOk Tryd.prog CC value_Value_True_sp := by
  intro env r hF h
  obtain ⟨a0, env0, rfl, h1⟩ := appW_v h
  obtain ⟨rfl, h2⟩ := appW_n h1
  obtain ⟨r0, rr0, rfl, h3⟩ := apR_v h2
  obtain ⟨rfl, h4⟩ := apR_n h3
  refine ⟨rfl, DnF_by (F := value_Value_True_cf) CC_ok (SsOk_c value_OfBool_ok SsOk_n) t23 (A := value_Value_True_an) (ps := [.v 26]) (rs := [4]) (env := [.d (.v 26 a0)]) (r := [.v 4 r0]) (X := value_Value_True_o a0 r0) rfl (Nat.le_of_ble_eq_true rfl) rfl hF h4 ?_⟩
  kernel_rfl

def strconv_FormatInt_o (a0 : Int) (a1 : Int) (r0 : Str) : Prop := a1 = 10 ∧ -9223372036854775808 ≤ a0 ∧ a0 ≤ 9223372036854775807 ∧ r0 = Go.Lib.itoa a0
noncomputable def strconv_FormatInt_sp : Sp KK := ⟨52, [.v 2, .v 3], [9], appW (K := KK) [9] [.v 2, .v 3] strconv_FormatInt_o⟩

set_option maxRecDepth 100000 in
theorem strconv_FormatInt_p {a0 : Int} {a1 : Int} {r0 : Str} (h : strconv_FormatInt_o a0 a1 r0) : AV.Pure Tryd.prog 52 [.it .i64 a0, .it .i64 a1] (.st r0) := by
  obtain ⟨rfl, q0, q1, rfl⟩ := h
  exact sh_FormatInt Tryd.func52 (by kernel_rfl) (by kernel_rfl) Tryd.strconv_FormatInt_10 q0 q1
set_option maxRecDepth 100000 in
theorem strconv_FormatInt_ok : SpOk Tryd.prog CC strconv_FormatInt_sp := by
  intro env r hF h
  obtain ⟨a0, env0, rfl, h1⟩ := appW_v h
  obtain ⟨a1, env1, rfl, h2⟩ := appW_v h1
  obtain ⟨rfl, h3⟩ := appW_n h2
  obtain ⟨r0, rr0, rfl, h4⟩ := apR_v h3
  obtain ⟨rfl, h5⟩ := apR_n h4
  exact ⟨rfl, (strconv_FormatInt_p h5).congr (by kernel_rfl) (by kernel_rfl)⟩

def strings_ReplaceAll_o (a0 : Str) (a1 : Str) (a2 : Str) (r0 : Str) : Prop := a0.length ≤ 100000 ∧ 1 ≤ a1.length ∧ a2.length ≤ 100000 ∧ r0 = Go.Lib.replaceAll a0 a1 a2
noncomputable def strings_ReplaceAll_sp : Sp KK := ⟨53, [.v 9, .v 9, .v 9], [9], appW (K := KK) [9] [.v 9, .v 9, .v 9] strings_ReplaceAll_o⟩

set_option maxRecDepth 100000 in
theorem strings_ReplaceAll_p {a0 : Str} {a1 : Str} {a2 : Str} {r0 : Str} (h : strings_ReplaceAll_o a0 a1 a2 r0) : AV.Pure Tryd.prog 53 [.st a0, .st a1, .st a2] (.st r0) := by
  obtain ⟨q0, q1, q2, rfl⟩ := h
  exact sh_ReplaceAll Tryd.func53 (by kernel_rfl) (by kernel_rfl) Tryd.strings_ReplaceAll q0 q1 q2
set_option maxRecDepth 100000 in
theorem strings_ReplaceAll_ok : SpOk Tryd.prog CC strings_ReplaceAll_sp := by
  intro env r hF h
  obtain ⟨a0, env0, rfl, h1⟩ := appW_v h
  obtain ⟨a1, env1, rfl, h2⟩ := appW_v h1
  obtain ⟨a2, env2, rfl, h3⟩ := appW_v h2
  obtain ⟨rfl, h4⟩ := appW_n h3
  obtain ⟨r0, rr0, rfl, h5⟩ := apR_v h4
  obtain ⟨rfl, h6⟩ := apR_n h5
  exact ⟨rfl, (strings_ReplaceAll_p h6).congr (by kernel_rfl) (by kernel_rfl)⟩

def value_Value_Show_J1 (r0 : Str) (a0 : T_value_Value) (x1 : Bool) : Prop :=
  cnd x1 (([78, 85, 76, 76] : Str) = r0) (∃ z2 : Bool, (value_Value_True_o a0 z2) ∧ cnd z2 (([84, 82, 85, 69] : Str) = r0) (cnd (a0.Kind == (1 : Int)) (([70, 65, 76, 83, 69] : Str) = r0) (cnd (a0.Kind == (2 : Int)) (∃ z3 : Str, (strconv_FormatInt_o a0.N (10 : Int) z3) ∧ z3 = r0) (∃ z4 : Str, (strings_ReplaceAll_o a0.S ([39] : Str) ([39, 39] : Str) z4) ∧ (([39] : Str).length + z4.length ≤ 9223372036854775807) ∧ ((([39] : Str) ++ z4).length + ([39] : Str).length ≤ 9223372036854775807) ∧ ((([39] : Str) ++ z4) ++ ([39] : Str)) = r0))))
def value_Value_Show_o (a0 : T_value_Value) (r0 : Str) : Prop :=
  ∀ J1 : Bool → Prop, (∀ (x1 : Bool), value_Value_Show_J1 r0 a0 x1 → J1 x1) → ∃ z5 : Bool, (value_Value_Good_o a0 z5) ∧ cnd (!z5) (J1 true) (∃ z6 : Bool, (value_Value_none_o a0 z6) ∧ J1 z6)
def value_Value_Show_J1i (a0 : T_value_Value) (r0 : Str) (x1 : Bool) : Prop :=
  cnd x1 (([78, 85, 76, 76] : Str) = r0) (∃ z2 : Bool, (value_Value_True_o a0 z2) ∧ cnd z2 (([84, 82, 85, 69] : Str) = r0) (cnd (a0.Kind == (1 : Int)) (([70, 65, 76, 83, 69] : Str) = r0) (cnd (a0.Kind == (2 : Int)) (∃ z3 : Str, (strconv_FormatInt_o a0.N (10 : Int) z3) ∧ z3 = r0) (∃ z4 : Str, (strings_ReplaceAll_o a0.S ([39] : Str) ([39, 39] : Str) z4) ∧ (([39] : Str).length + z4.length ≤ 9223372036854775807) ∧ ((([39] : Str) ++ z4).length + ([39] : Str).length ≤ 9223372036854775807) ∧ ((([39] : Str) ++ z4) ++ ([39] : Str)) = r0))))
def value_Value_Show_oi (a0 : T_value_Value) (r0 : Str) : Prop :=
  ∃ z5 : Bool, (value_Value_Good_o a0 z5) ∧ cnd (!z5) (value_Value_Show_J1i a0 r0 true) (∃ z6 : Bool, (value_Value_none_o a0 z6) ∧ value_Value_Show_J1i a0 r0 z6)
theorem value_Value_Show_J1_m (a0 : T_value_Value) (r0 : Str) {x1 : Bool} (h : value_Value_Show_J1i a0 r0 x1) : value_Value_Show_J1 r0 a0 x1 := by
  unfold value_Value_Show_J1
  unfold value_Value_Show_J1i at h
  exact h
theorem value_Value_Show_i (a0 : T_value_Value) (r0 : Str) (h : value_Value_Show_oi a0 r0) : value_Value_Show_o a0 r0 := by
  unfold value_Value_Show_o
  unfold value_Value_Show_oi at h
  intro J1 kJ1
  have hJ1 : ∀ (x1 : Bool), value_Value_Show_J1i a0 r0 x1 → J1 x1 := fun x1 q => kJ1 x1 (value_Value_Show_J1_m a0 r0 q)
  obtain ⟨z5, h⟩ := h
  refine ⟨z5, ?_⟩
  obtain ⟨h0, h⟩ := h
  refine ⟨h0, ?_⟩
  refine cnd_mono h (fun h => ?_) (fun h => ?_)
  · exact hJ1 _ h
  · obtain ⟨z6, h⟩ := h
    refine ⟨z6, ?_⟩
    obtain ⟨h0, h⟩ := h
    refine ⟨h0, ?_⟩
    exact hJ1 _ h
noncomputable def value_Value_Show_sp : Sp KK := ⟨21, [.v 26], [9], appW (K := KK) [9] [.v 26] value_Value_Show_o⟩
noncomputable def value_Value_Show_an : An KK := (.s .o (.s (.b (.j ⟨[(1, .px 1 0), (3, .bl)], [(1, 26, [.kp 4, .kp 5, .kp 6])], []⟩ .o (fun _ => (.c (.s .o .o) (.s .o (.c (.s .o .o) (.s .o (.c (.s .o .o) (.s .o (.c (.s .o .o) .o)))))))))) (.s .o .o)))
noncomputable def value_Value_Show_cf : Cf KK := ⟨CC, [value_Value_Good_sp, value_Value_none_sp, value_Value_True_sp, strconv_FormatInt_sp, strings_ReplaceAll_sp], 30⟩

set_option maxRecDepth 100000 in
theorem value_Value_Show_ok : SpOk Tryd.prog CC value_Value_Show_sp := by
  intro env r hF h
  obtain ⟨a0, env0, rfl, h1⟩ := appW_v h
  obtain ⟨rfl, h2⟩ := appW_n h1
  obtain ⟨r0, rr0, rfl, h3⟩ := apR_v h2
  obtain ⟨rfl, h4⟩ := apR_n h3
  refine ⟨rfl, DnF_by (F := value_Value_Show_cf) CC_ok (SsOk_c value_Value_Good_ok (SsOk_c value_Value_none_ok (SsOk_c value_Value_True_ok (SsOk_c strconv_FormatInt_ok (SsOk_c strings_ReplaceAll_ok SsOk_n))))) t21 (A := value_Value_Show_an) (ps := [.v 26]) (rs := [9]) (env := [.d (.v 26 a0)]) (r := [.v 9 r0]) (X := value_Value_Show_o a0 r0) rfl (Nat.le_of_ble_eq_true rfl) rfl hF h4 ?_⟩
  kernel_rfl

def strings_Join_o (a0 : (List Str)) (a1 : Str) (r0 : Str) : Prop := a0.length ≤ 100000 ∧ (Go.Lib.join a0 a1).length ≤ 140737488355328 ∧ r0 = Go.Lib.join a0 a1
noncomputable def strings_Join_sp : Sp KK := ⟨62, [.v 64, .v 9], [9], appW (K := KK) [9] [.v 64, .v 9] strings_Join_o⟩

set_option maxRecDepth 100000 in
theorem strings_Join_p {a0 : (List Str)} {a1 : Str} {r0 : Str} (h : strings_Join_o a0 a1 r0) : AV.Pure Tryd.prog 62 [slA eS a0, .st a1] (.st r0) := by
  obtain ⟨q0, q1, rfl⟩ := h
  exact sh_Join Tryd.func62 (by kernel_rfl) Tryd.strings_Join_none Tryd.strings_Join q0 q1
set_option maxRecDepth 100000 in
theorem strings_Join_ok : SpOk Tryd.prog CC strings_Join_sp := by
  intro env r hF h
  obtain ⟨a0, env0, rfl, h1⟩ := appW_v h
  obtain ⟨a1, env1, rfl, h2⟩ := appW_v h1
  obtain ⟨rfl, h3⟩ := appW_n h2
  obtain ⟨r0, rr0, rfl, h4⟩ := apR_v h3
  obtain ⟨rfl, h5⟩ := apR_n h4
  exact ⟨rfl, (strings_Join_p h5).congr (by kernel_rfl) (by kernel_rfl)⟩

def row_Show_L1 (a0 : (List T_value_Value)) (r0 : Str) (X1 : Int → (List Str) → Prop) (x1 : Int) (x2 : (List Str)) : Prop :=
  cnd (decide (x1 < (a0.length : Int))) ((0 ≤ x1) ∧ (x1 < (a0.length : Int)) ∧ ∃ y3 : T_value_Value, (a0[x1.toNat]? = some y3) ∧ ∃ z4 : Str, (value_Value_Show_o y3 z4) ∧ (x2.length ≤ 1000000000) ∧ X1 (IntKind.i64.wrap (x1 + (1 : Int))) (x2 ++ ([z4] : List Str))) (∃ z5 : Str, (strings_Join_o x2 ([44, 32] : Str) z5) ∧ (([40] : Str).length + z5.length ≤ 9223372036854775807) ∧ ((([40] : Str) ++ z5).length + ([41] : Str).length ≤ 9223372036854775807) ∧ ((([40] : Str) ++ z5) ++ ([41] : Str)) = r0)
def row_Show_o (a0 : (List T_value_Value)) (r0 : Str) : Prop :=
  (a0.length ≤ maxLen → ∀ X1 : Int → (List Str) → Prop, (∀ (x1 : Int) (x2 : (List Str)), row_Show_L1 a0 r0 X1 x1 x2 → X1 x1 x2) → X1 (0 : Int) ([] : List Str))
def row_Show_L1i (a0 : (List T_value_Value)) (r0 : Str) (X1 : Int → (List Str) → Prop) (x1 : Int) (x2 : (List Str)) : Prop :=
  cnd (decide (x1 < (a0.length : Int))) ((0 ≤ x1) ∧ (x1 < (a0.length : Int)) ∧ ∃ y3 : T_value_Value, (a0[x1.toNat]? = some y3) ∧ ∃ z4 : Str, (value_Value_Show_o y3 z4) ∧ (x2.length ≤ 1000000000) ∧ X1 (IntKind.i64.wrap (x1 + (1 : Int))) (x2 ++ ([z4] : List Str))) (∃ z5 : Str, (strings_Join_o x2 ([44, 32] : Str) z5) ∧ (([40] : Str).length + z5.length ≤ 9223372036854775807) ∧ ((([40] : Str) ++ z5).length + ([41] : Str).length ≤ 9223372036854775807) ∧ ((([40] : Str) ++ z5) ++ ([41] : Str)) = r0)
def row_Show_oi (a0 : (List T_value_Value)) (r0 : Str) : Prop :=
  (a0.length ≤ maxLen → ∀ X1 : Int → (List Str) → Prop, (∀ (x1 : Int) (x2 : (List Str)), row_Show_L1i a0 r0 X1 x1 x2 → X1 x1 x2) → X1 (0 : Int) ([] : List Str))
theorem row_Show_L1_m (a0 : (List T_value_Value)) (r0 : Str) {X1 : Int → (List Str) → Prop} {x1 : Int} {x2 : (List Str)} (h : row_Show_L1i a0 r0 X1 x1 x2) : row_Show_L1 a0 r0 X1 x1 x2 := by
  unfold row_Show_L1
  unfold row_Show_L1i at h
  exact h
theorem row_Show_i (a0 : (List T_value_Value)) (r0 : Str) (h : row_Show_oi a0 r0) : row_Show_o a0 r0 := by
  unfold row_Show_o
  unfold row_Show_oi at h
  intro c
  replace h := h c
  intro X1 k
  exact h X1 (fun x1 x2 q => k x1 x2 (row_Show_L1_m a0 r0 q))
noncomputable def row_Show_sp : Sp KK := ⟨35, [.v 52], [9], appW (K := KK) [9] [.v 52] row_Show_o⟩
noncomputable def row_Show_an : An KK := (.s .o (.s .o (.s (.s .o (.b (.l ⟨[(3, .row 16), (6, .kp 6), (7, .kp 7), (8, .it .i64)], [], [(16, 9)]⟩ (fun _ => (.s .o (.s (.c .o .o) (.s (.b (.s .o .o)) .o))))))) (.s .o .o))))
noncomputable def row_Show_cf : Cf KK := ⟨CC, [value_Value_Show_sp, strings_Join_sp], 22⟩

set_option maxRecDepth 100000 in
theorem row_Show_ok : SpOk Tryd.prog CC row_Show_sp := by
  intro env r hF h
  obtain ⟨a0, env0, rfl, h1⟩ := appW_v h
  obtain ⟨rfl, h2⟩ := appW_n h1
  obtain ⟨r0, rr0, rfl, h3⟩ := apR_v h2
  obtain ⟨rfl, h4⟩ := apR_n h3
  refine ⟨rfl, DnF_by (F := row_Show_cf) CC_ok (SsOk_c value_Value_Show_ok (SsOk_c strings_Join_ok SsOk_n)) t35 (A := row_Show_an) (ps := [.v 52]) (rs := [9]) (env := [.d (.v 52 a0)]) (r := [.v 9 r0]) (X := row_Show_o a0 r0) rfl (Nat.le_of_ble_eq_true rfl) rfl hF h4 ?_⟩
  kernel_rfl

def cmp_isNaN_int_o (a0 : Int) (r0 : Bool) : Prop :=
  (!(a0 == a0)) = r0
noncomputable def cmp_isNaN_int_sp : Sp KK := ⟨67, [.v 3], [4], appW (K := KK) [4] [.v 3] cmp_isNaN_int_o⟩
noncomputable def cmp_isNaN_int_an : An KK := (.s .o (.s .o .o))
noncomputable def cmp_isNaN_int_cf : Cf KK := ⟨CC, [], 6⟩

set_option maxRecDepth 100000 in
theorem cmp_isNaN_int_ok : SpOk Tryd.prog CC cmp_isNaN_int_sp := by
  intro env r hF h
  obtain ⟨a0, env0, rfl, h1⟩ := appW_v h
  obtain ⟨rfl, h2⟩ := appW_n h1
  obtain ⟨r0, rr0, rfl, h3⟩ := apR_v h2
  obtain ⟨rfl, h4⟩ := apR_n h3
  refine ⟨rfl, DnF_by (F := cmp_isNaN_int_cf) CC_ok SsOk_n t67 (A := cmp_isNaN_int_an) (ps := [.v 3]) (rs := [4]) (env := [.d (.v 3 a0)]) (r := [.v 4 r0]) (X := cmp_isNaN_int_o a0 r0) rfl (Nat.le_of_ble_eq_true rfl) rfl hF h4 ?_⟩
  kernel_rfl

def cmp_Compare_int_o (a0 : Int) (a1 : Int) (r0 : Int) : Prop :=
  ∃ z1 : Bool, (cmp_isNaN_int_o a0 z1) ∧ ∃ z2 : Bool, (cmp_isNaN_int_o a1 z2) ∧ cnd z1 (cnd z2 ((0 : Int) = r0) ((-1 : Int) = r0)) (cnd z2 ((1 : Int) = r0) (cnd (decide (a0 < a1)) ((-1 : Int) = r0) (cnd (decide (a1 < a0)) ((1 : Int) = r0) ((0 : Int) = r0))))
noncomputable def cmp_Compare_int_sp : Sp KK := ⟨49, [.v 3, .v 3], [3], appW (K := KK) [3] [.v 3, .v 3] cmp_Compare_int_o⟩
noncomputable def cmp_Compare_int_an : An KK := (.s .o (.s .o (.s .o (.s (.s .o (.c (.s (.s .o (.c (.s .o .o) .o)) (.s .o .o)) .o)) (.s (.s .o (.c (.s .o .o) .o)) (.s (.s .o (.c (.s .o .o) .o)) (.s (.s .o (.c (.s .o .o) .o)) (.s .o .o))))))))
noncomputable def cmp_Compare_int_cf : Cf KK := ⟨CC, [cmp_isNaN_int_sp], 20⟩

set_option maxRecDepth 100000 in
theorem cmp_Compare_int_ok : SpOk Tryd.prog CC cmp_Compare_int_sp := by
  intro env r hF h
  obtain ⟨a0, env0, rfl, h1⟩ := appW_v h
  obtain ⟨a1, env1, rfl, h2⟩ := appW_v h1
  obtain ⟨rfl, h3⟩ := appW_n h2
  obtain ⟨r0, rr0, rfl, h4⟩ := apR_v h3
  obtain ⟨rfl, h5⟩ := apR_n h4
  refine ⟨rfl, DnF_by (F := cmp_Compare_int_cf) CC_ok (SsOk_c cmp_isNaN_int_ok SsOk_n) t49 (A := cmp_Compare_int_an) (ps := [.v 3, .v 3]) (rs := [3]) (env := [.d (.v 3 a0), .d (.v 3 a1)]) (r := [.v 3 r0]) (X := cmp_Compare_int_o a0 a1 r0) rfl (Nat.le_of_ble_eq_true rfl) rfl hF h5 ?_⟩
  kernel_rfl

def cmp_isNaN_int64_o (a0 : Int) (r0 : Bool) : Prop :=
  (!(a0 == a0)) = r0
noncomputable def cmp_isNaN_int64_sp : Sp KK := ⟨68, [.v 2], [4], appW (K := KK) [4] [.v 2] cmp_isNaN_int64_o⟩
noncomputable def cmp_isNaN_int64_an : An KK := (.s .o (.s .o .o))
noncomputable def cmp_isNaN_int64_cf : Cf KK := ⟨CC, [], 6⟩

set_option maxRecDepth 100000 in
theorem cmp_isNaN_int64_ok : SpOk Tryd.prog CC cmp_isNaN_int64_sp := by
  intro env r hF h
  obtain ⟨a0, env0, rfl, h1⟩ := appW_v h
  obtain ⟨rfl, h2⟩ := appW_n h1
  obtain ⟨r0, rr0, rfl, h3⟩ := apR_v h2
  obtain ⟨rfl, h4⟩ := apR_n h3
  refine ⟨rfl, DnF_by (F := cmp_isNaN_int64_cf) CC_ok SsOk_n t68 (A := cmp_isNaN_int64_an) (ps := [.v 2]) (rs := [4]) (env := [.d (.v 2 a0)]) (r := [.v 4 r0]) (X := cmp_isNaN_int64_o a0 r0) rfl (Nat.le_of_ble_eq_true rfl) rfl hF h4 ?_⟩
  kernel_rfl

def cmp_Compare_int64_o (a0 : Int) (a1 : Int) (r0 : Int) : Prop :=
  ∃ z1 : Bool, (cmp_isNaN_int64_o a0 z1) ∧ ∃ z2 : Bool, (cmp_isNaN_int64_o a1 z2) ∧ cnd z1 (cnd z2 ((0 : Int) = r0) ((-1 : Int) = r0)) (cnd z2 ((1 : Int) = r0) (cnd (decide (a0 < a1)) ((-1 : Int) = r0) (cnd (decide (a1 < a0)) ((1 : Int) = r0) ((0 : Int) = r0))))
noncomputable def cmp_Compare_int64_sp : Sp KK := ⟨50, [.v 2, .v 2], [3], appW (K := KK) [3] [.v 2, .v 2] cmp_Compare_int64_o⟩
noncomputable def cmp_Compare_int64_an : An KK := (.s .o (.s .o (.s .o (.s (.s .o (.c (.s (.s .o (.c (.s .o .o) .o)) (.s .o .o)) .o)) (.s (.s .o (.c (.s .o .o) .o)) (.s (.s .o (.c (.s .o .o) .o)) (.s (.s .o (.c (.s .o .o) .o)) (.s .o .o))))))))
noncomputable def cmp_Compare_int64_cf : Cf KK := ⟨CC, [cmp_isNaN_int64_sp], 20⟩

set_option maxRecDepth 100000 in
theorem cmp_Compare_int64_ok : SpOk Tryd.prog CC cmp_Compare_int64_sp := by
  intro env r hF h
  obtain ⟨a0, env0, rfl, h1⟩ := appW_v h
  obtain ⟨a1, env1, rfl, h2⟩ := appW_v h1
  obtain ⟨rfl, h3⟩ := appW_n h2
  obtain ⟨r0, rr0, rfl, h4⟩ := apR_v h3
  obtain ⟨rfl, h5⟩ := apR_n h4
  refine ⟨rfl, DnF_by (F := cmp_Compare_int64_cf) CC_ok (SsOk_c cmp_isNaN_int64_ok SsOk_n) t50 (A := cmp_Compare_int64_an) (ps := [.v 2, .v 2]) (rs := [3]) (env := [.d (.v 2 a0), .d (.v 2 a1)]) (r := [.v 3 r0]) (X := cmp_Compare_int64_o a0 a1 r0) rfl (Nat.le_of_ble_eq_true rfl) rfl hF h5 ?_⟩
  kernel_rfl

def cmp_isNaN_string_o (a0 : Str) (r0 : Bool) : Prop :=
  (!(a0 == a0)) = r0
noncomputable def cmp_isNaN_string_sp : Sp KK := ⟨69, [.v 9], [4], appW (K := KK) [4] [.v 9] cmp_isNaN_string_o⟩
noncomputable def cmp_isNaN_string_an : An KK := (.s .o (.s .o .o))
noncomputable def cmp_isNaN_string_cf : Cf KK := ⟨CC, [], 6⟩

set_option maxRecDepth 100000 in
theorem cmp_isNaN_string_ok : SpOk Tryd.prog CC cmp_isNaN_string_sp := by
  intro env r hF h
  obtain ⟨a0, env0, rfl, h1⟩ := appW_v h
  obtain ⟨rfl, h2⟩ := appW_n h1
  obtain ⟨r0, rr0, rfl, h3⟩ := apR_v h2
  obtain ⟨rfl, h4⟩ := apR_n h3
  refine ⟨rfl, DnF_by (F := cmp_isNaN_string_cf) CC_ok SsOk_n t69 (A := cmp_isNaN_string_an) (ps := [.v 9]) (rs := [4]) (env := [.d (.v 9 a0)]) (r := [.v 4 r0]) (X := cmp_isNaN_string_o a0 r0) rfl (Nat.le_of_ble_eq_true rfl) rfl hF h4 ?_⟩
  kernel_rfl

def cmp_Compare_string_o (a0 : Str) (a1 : Str) (r0 : Int) : Prop :=
  ∃ z1 : Bool, (cmp_isNaN_string_o a0 z1) ∧ ∃ z2 : Bool, (cmp_isNaN_string_o a1 z2) ∧ cnd z1 (cnd z2 ((0 : Int) = r0) ((-1 : Int) = r0)) (cnd z2 ((1 : Int) = r0) (cnd (Op.bytesLess a0 a1) ((-1 : Int) = r0) (cnd (!(Op.bytesLess a0 a1 || a0 == a1)) ((1 : Int) = r0) ((0 : Int) = r0))))
noncomputable def cmp_Compare_string_sp : Sp KK := ⟨51, [.v 9, .v 9], [3], appW (K := KK) [3] [.v 9, .v 9] cmp_Compare_string_o⟩
noncomputable def cmp_Compare_string_an : An KK := (.s .o (.s .o (.s .o (.s (.s .o (.c (.s (.s .o (.c (.s .o .o) .o)) (.s .o .o)) .o)) (.s (.s .o (.c (.s .o .o) .o)) (.s (.s .o (.c (.s .o .o) .o)) (.s (.s .o (.c (.s .o .o) .o)) (.s .o .o))))))))
noncomputable def cmp_Compare_string_cf : Cf KK := ⟨CC, [cmp_isNaN_string_sp], 20⟩

set_option maxRecDepth 100000 in
theorem cmp_Compare_string_ok : SpOk Tryd.prog CC cmp_Compare_string_sp := by
  intro env r hF h
  obtain ⟨a0, env0, rfl, h1⟩ := appW_v h
  obtain ⟨a1, env1, rfl, h2⟩ := appW_v h1
  obtain ⟨rfl, h3⟩ := appW_n h2
  obtain ⟨r0, rr0, rfl, h4⟩ := apR_v h3
  obtain ⟨rfl, h5⟩ := apR_n h4
  refine ⟨rfl, DnF_by (F := cmp_Compare_string_cf) CC_ok (SsOk_c cmp_isNaN_string_ok SsOk_n) t51 (A := cmp_Compare_string_an) (ps := [.v 9, .v 9]) (rs := [3]) (env := [.d (.v 9 a0), .d (.v 9 a1)]) (r := [.v 3 r0]) (X := cmp_Compare_string_o a0 a1 r0) rfl (Nat.le_of_ble_eq_true rfl) rfl hF h5 ?_⟩
  kernel_rfl

def cmp_Or_int_L1 (a0 : (List Int)) (r0 : Int) (X1 : Int → Prop) (x1 : Int) : Prop :=
  cnd (decide (x1 < (a0.length : Int))) ((0 ≤ x1) ∧ (x1 < (a0.length : Int)) ∧ ∃ y2 : Int, (a0[x1.toNat]? = some y2) ∧ cnd (!(y2 == (0 : Int))) (y2 = r0) (X1 (IntKind.i64.wrap (x1 + (1 : Int))))) ((0 : Int) = r0)
def cmp_Or_int_o (a0 : (List Int)) (r0 : Int) : Prop :=
  (a0.length ≤ maxLen → ∀ X1 : Int → Prop, (∀ (x1 : Int), cmp_Or_int_L1 a0 r0 X1 x1 → X1 x1) → X1 (0 : Int))
def cmp_Or_int_L1i (a0 : (List Int)) (r0 : Int) (X1 : Int → Prop) (x1 : Int) : Prop :=
  cnd (decide (x1 < (a0.length : Int))) ((0 ≤ x1) ∧ (x1 < (a0.length : Int)) ∧ ∃ y2 : Int, (a0[x1.toNat]? = some y2) ∧ cnd (!(y2 == (0 : Int))) (y2 = r0) (X1 (IntKind.i64.wrap (x1 + (1 : Int))))) ((0 : Int) = r0)
def cmp_Or_int_oi (a0 : (List Int)) (r0 : Int) : Prop :=
  (a0.length ≤ maxLen → ∀ X1 : Int → Prop, (∀ (x1 : Int), cmp_Or_int_L1i a0 r0 X1 x1 → X1 x1) → X1 (0 : Int))
theorem cmp_Or_int_L1_m (a0 : (List Int)) (r0 : Int) {X1 : Int → Prop} {x1 : Int} (h : cmp_Or_int_L1i a0 r0 X1 x1) : cmp_Or_int_L1 a0 r0 X1 x1 := by
  unfold cmp_Or_int_L1
  unfold cmp_Or_int_L1i at h
  exact h
theorem cmp_Or_int_i (a0 : (List Int)) (r0 : Int) (h : cmp_Or_int_oi a0 r0) : cmp_Or_int_o a0 r0 := by
  unfold cmp_Or_int_o
  unfold cmp_Or_int_oi at h
  intro c
  replace h := h c
  intro X1 k
  exact h X1 (fun x1 q => k x1 (cmp_Or_int_L1_m a0 r0 q))
noncomputable def cmp_Or_int_sp : Sp KK := ⟨48, [.v 107], [3], appW (K := KK) [3] [.v 107] cmp_Or_int_o⟩
noncomputable def cmp_Or_int_an : An KK := (.s .o (.s .o (.s (.s .o (.b (.l ⟨[(3, .kp 5), (6, .kp 6), (7, .kp 7), (8, .it .i64)], [], []⟩ (fun _ => (.s .o (.s (.c .o .o) (.s (.b (.s .o (.s .o (.c (.s .o .o) .o)))) .o))))))) (.s .o .o))))
noncomputable def cmp_Or_int_cf : Cf KK := ⟨CC, [], 18⟩

set_option maxRecDepth 100000 in
theorem cmp_Or_int_ok : SpOk Tryd.prog CC cmp_Or_int_sp := by
  intro env r hF h
  obtain ⟨a0, env0, rfl, h1⟩ := appW_v h
  obtain ⟨rfl, h2⟩ := appW_n h1
  obtain ⟨r0, rr0, rfl, h3⟩ := apR_v h2
  obtain ⟨rfl, h4⟩ := apR_n h3
  refine ⟨rfl, DnF_by (F := cmp_Or_int_cf) CC_ok SsOk_n t48 (A := cmp_Or_int_an) (ps := [.v 107]) (rs := [3]) (env := [.d (.v 107 a0)]) (r := [.v 3 r0]) (X := cmp_Or_int_o a0 r0) rfl (Nat.le_of_ble_eq_true rfl) rfl hF h4 ?_⟩
  kernel_rfl

def value_Compare_o (a0 : T_value_Value) (a1 : T_value_Value) (r0 : Int) : Prop :=
  ∃ z1 : Int, (cmp_Compare_int_o a0.Kind a1.Kind z1) ∧ ∃ z2 : Int, (cmp_Compare_int64_o a0.N a1.N z2) ∧ ∃ z3 : Int, (cmp_Compare_string_o a0.S a1.S z3) ∧ ∃ z4 : Int, (cmp_Or_int_o ([z1, z2, z3] : List Int) z4) ∧ z4 = r0
noncomputable def value_Compare_sp : Sp KK := ⟨15, [.v 26, .v 26], [3], appW (K := KK) [3] [.v 26, .v 26] value_Compare_o⟩
noncomputable def value_Compare_an : An KK := (.s .o (.s .o .o))
noncomputable def value_Compare_cf : Cf KK := ⟨CC, [cmp_Compare_int_sp, cmp_Compare_int64_sp, cmp_Compare_string_sp, cmp_Or_int_sp], 22⟩

set_option maxRecDepth 100000 in
theorem value_Compare_ok : SpOk Tryd.prog CC value_Compare_sp := by
  intro env r hF h
  obtain ⟨a0, env0, rfl, h1⟩ := appW_v h
  obtain ⟨a1, env1, rfl, h2⟩ := appW_v h1
  obtain ⟨rfl, h3⟩ := appW_n h2
  obtain ⟨r0, rr0, rfl, h4⟩ := apR_v h3
  obtain ⟨rfl, h5⟩ := apR_n h4
  refine ⟨rfl, DnF_by (F := value_Compare_cf) CC_ok (SsOk_c cmp_Compare_int_ok (SsOk_c cmp_Compare_int64_ok (SsOk_c cmp_Compare_string_ok (SsOk_c cmp_Or_int_ok SsOk_n)))) t15 (A := value_Compare_an) (ps := [.v 26, .v 26]) (rs := [3]) (env := [.d (.v 26 a0), .d (.v 26 a1)]) (r := [.v 3 r0]) (X := value_Compare_o a0 a1 r0) rfl (Nat.le_of_ble_eq_true rfl) rfl hF h5 ?_⟩
  kernel_rfl

def slices_CompareFunc_Value_L1 (a0 : (List T_value_Value)) (a1 : (List T_value_Value)) (r0 : Int) (g2 : T_value_Value → T_value_Value → Int → Prop) (X1 : Int → Prop) (x1 : Int) : Prop :=
  cnd (decide (x1 < (a0.length : Int))) ((0 ≤ x1) ∧ (x1 < (a0.length : Int)) ∧ ∃ y2 : T_value_Value, (a0[x1.toNat]? = some y2) ∧ (a1.length ≤ maxLen → cnd (decide ((a1.length : Int) ≤ x1)) ((1 : Int) = r0) ((0 ≤ x1) ∧ (x1 < (a1.length : Int)) ∧ ∃ y3 : T_value_Value, (a1[x1.toNat]? = some y3) ∧ ∃ z4 : Int, (g2 y2 y3 z4) ∧ cnd (!(z4 == (0 : Int))) (z4 = r0) (X1 (IntKind.i64.wrap (x1 + (1 : Int))))))) ((a0.length ≤ maxLen → (a1.length ≤ maxLen → cnd (decide ((a0.length : Int) < (a1.length : Int))) ((-1 : Int) = r0) ((0 : Int) = r0))))
def slices_CompareFunc_Value_o (a0 : (List T_value_Value)) (a1 : (List T_value_Value)) (g2 : T_value_Value → T_value_Value → Int → Prop) (r0 : Int) : Prop :=
  (a0.length ≤ maxLen → ∀ X1 : Int → Prop, (∀ (x1 : Int), slices_CompareFunc_Value_L1 a0 a1 r0 g2 X1 x1 → X1 x1) → X1 (0 : Int))
def slices_CompareFunc_Value_L1i (a0 : (List T_value_Value)) (a1 : (List T_value_Value)) (g2 : T_value_Value → T_value_Value → Int → Prop) (r0 : Int) (X1 : Int → Prop) (x1 : Int) : Prop :=
  cnd (decide (x1 < (a0.length : Int))) ((0 ≤ x1) ∧ (x1 < (a0.length : Int)) ∧ ∃ y2 : T_value_Value, (a0[x1.toNat]? = some y2) ∧ (a1.length ≤ maxLen → cnd (decide ((a1.length : Int) ≤ x1)) ((1 : Int) = r0) ((0 ≤ x1) ∧ (x1 < (a1.length : Int)) ∧ ∃ y3 : T_value_Value, (a1[x1.toNat]? = some y3) ∧ ∃ z4 : Int, (g2 y2 y3 z4) ∧ cnd (!(z4 == (0 : Int))) (z4 = r0) (X1 (IntKind.i64.wrap (x1 + (1 : Int))))))) ((a0.length ≤ maxLen → (a1.length ≤ maxLen → cnd (decide ((a0.length : Int) < (a1.length : Int))) ((-1 : Int) = r0) ((0 : Int) = r0))))
def slices_CompareFunc_Value_oi (a0 : (List T_value_Value)) (a1 : (List T_value_Value)) (g2 : T_value_Value → T_value_Value → Int → Prop) (r0 : Int) : Prop :=
  (a0.length ≤ maxLen → ∀ X1 : Int → Prop, (∀ (x1 : Int), slices_CompareFunc_Value_L1i a0 a1 g2 r0 X1 x1 → X1 x1) → X1 (0 : Int))
theorem slices_CompareFunc_Value_L1_m (a0 : (List T_value_Value)) (a1 : (List T_value_Value)) (g2 : T_value_Value → T_value_Value → Int → Prop) (r0 : Int) {X1 : Int → Prop} {x1 : Int} (h : slices_CompareFunc_Value_L1i a0 a1 g2 r0 X1 x1) : slices_CompareFunc_Value_L1 a0 a1 r0 g2 X1 x1 := by
  unfold slices_CompareFunc_Value_L1
  unfold slices_CompareFunc_Value_L1i at h
  exact h
theorem slices_CompareFunc_Value_i (a0 : (List T_value_Value)) (a1 : (List T_value_Value)) (g2 : T_value_Value → T_value_Value → Int → Prop) (r0 : Int) (h : slices_CompareFunc_Value_oi a0 a1 g2 r0) : slices_CompareFunc_Value_o a0 a1 g2 r0 := by
  unfold slices_CompareFunc_Value_o
  unfold slices_CompareFunc_Value_oi at h
  intro c
  replace h := h c
  intro X1 k
  exact h X1 (fun x1 q => k x1 (slices_CompareFunc_Value_L1_m a0 a1 g2 r0 q))
noncomputable def slices_CompareFunc_Value_sp : Sp KK := ⟨60, [.v 52, .v 52, .f [26, 26] [3]], [3], appW (K := KK) [3] [.v 52, .v 52, .f [26, 26] [3]] slices_CompareFunc_Value_o⟩
noncomputable def slices_CompareFunc_Value_an : An KK := (.s .o (.s (.s .o (.b (.l ⟨[(0, .kp 7), (1, .kp 8), (2, .kp 9), (11, .kp 10), (12, .kp 11), (13, .it .i64)], [], []⟩ (fun _ => (.s .o (.s (.c .o .o) (.s (.b (.s .o (.s (.s .o (.c (.s .o .o) .o)) (.s .o (.s .o (.s .o (.c (.s .o .o) .o))))))) .o))))))) (.s (.s .o (.c (.s .o .o) .o)) (.s .o .o))))
noncomputable def slices_CompareFunc_Value_cf : Cf KK := ⟨CC, [], 39⟩

set_option maxRecDepth 100000 in
theorem slices_CompareFunc_Value_ok : SpOk Tryd.prog CC slices_CompareFunc_Value_sp := by
  intro env r hF h
  obtain ⟨a0, env0, rfl, h1⟩ := appW_v h
  obtain ⟨a1, env1, rfl, h2⟩ := appW_v h1
  obtain ⟨F2, env2, rfl, h3⟩ := appW_f h2
  obtain ⟨rfl, h4⟩ := appW_n h3
  obtain ⟨r0, rr0, rfl, h5⟩ := apR_v h4
  obtain ⟨rfl, h6⟩ := apR_n h5
  refine ⟨rfl, DnF_by (F := slices_CompareFunc_Value_cf) CC_ok SsOk_n t60 (A := slices_CompareFunc_Value_an) (ps := [.v 52, .v 52, .f [26, 26] [3]]) (rs := [3]) (env := [.d (.v 52 a0), .d (.v 52 a1), .f F2]) (r := [.v 3 r0]) (X := slices_CompareFunc_Value_o a0 a1 (curF [3] [26, 26] F2.W) r0) rfl (Nat.le_of_ble_eq_true rfl) rfl hF h6 ?_⟩
  kernel_rfl

def row_Compare_o (a0 : (List T_value_Value)) (a1 : (List T_value_Value)) (r0 : Int) : Prop :=
  ∃ z1 : Int, (slices_CompareFunc_Value_o a0 a1 value_Compare_o z1) ∧ z1 = r0
noncomputable def row_Compare_sp : Sp KK := ⟨31, [.v 52, .v 52], [3], appW (K := KK) [3] [.v 52, .v 52] row_Compare_o⟩
noncomputable def row_Compare_an : An KK := (.s .o (.s .o .o))
noncomputable def row_Compare_cf : Cf KK := ⟨CC, [value_Compare_sp, slices_CompareFunc_Value_sp], 8⟩

set_option maxRecDepth 100000 in
theorem row_Compare_ok : SpOk Tryd.prog CC row_Compare_sp := by
  intro env r hF h
  obtain ⟨a0, env0, rfl, h1⟩ := appW_v h
  obtain ⟨a1, env1, rfl, h2⟩ := appW_v h1
  obtain ⟨rfl, h3⟩ := appW_n h2
  obtain ⟨r0, rr0, rfl, h4⟩ := apR_v h3
  obtain ⟨rfl, h5⟩ := apR_n h4
  refine ⟨rfl, DnF_by (F := row_Compare_cf) CC_ok (SsOk_c value_Compare_ok (SsOk_c slices_CompareFunc_Value_ok SsOk_n)) t31 (A := row_Compare_an) (ps := [.v 52, .v 52]) (rs := [3]) (env := [.d (.v 52 a0), .d (.v 52 a1)]) (r := [.v 3 r0]) (X := row_Compare_o a0 a1 r0) rfl (Nat.le_of_ble_eq_true rfl) rfl hF h5 ?_⟩
  kernel_rfl

def law07_speaks_J1 (r0 : Bool) (x5 : Bool) : Prop :=
  x5 = r0
def law07_speaks_o (r0 : Bool) : Prop :=
  ∃ z1 : T_value_Value, (value_OfInt_o (1 : Int) z1) ∧ ∃ z2 : Str, (row_Key_o ([z1, (⟨(0 : Int), (0 : Int), ([] : Str)⟩ : T_value_Value)] : List T_value_Value) z2) ∧ ∃ z3 : (List T_value_Value), ∃ z4 : Int, (row_Get_o z2 z3 z4) ∧ ∀ J1 : Bool → Prop, (∀ (x5 : Bool), law07_speaks_J1 r0 x5 → J1 x5) → ∃ z6 : Str, (row_Show_o ([z1, (⟨(0 : Int), (0 : Int), ([] : Str)⟩ : T_value_Value)] : List T_value_Value) z6) ∧ cnd (z6 == ([40, 49, 44, 32, 78, 85, 76, 76, 41] : Str)) (cnd (z4 == (0 : Int)) (cnd ((z3.length : Int) == (2 : Int)) ((0 ≤ (0 : Int)) ∧ ((0 : Int) < (z3.length : Int)) ∧ ∃ y7 : T_value_Value, (z3[(0 : Int).toNat]? = some y7) ∧ ∃ z8 : T_value_Value, (value_OfInt_o (1 : Int) z8) ∧ cnd ((y7.Kind == z8.Kind) && ((y7.N == z8.N) && ((y7.S == z8.S) && true))) (∃ z9 : Int, (row_Compare_o ([z1, (⟨(0 : Int), (0 : Int), ([] : Str)⟩ : T_value_Value)] : List T_value_Value) z3 z9) ∧ J1 (z9 == (0 : Int))) (J1 false)) (J1 false)) (J1 false)) (J1 false)
def law07_speaks_J1i (r0 : Bool) (x5 : Bool) : Prop :=
  x5 = r0
def law07_speaks_oi (r0 : Bool) : Prop :=
  ∃ z1 : T_value_Value, (value_OfInt_o (1 : Int) z1) ∧ ∃ z2 : Str, (row_Key_o ([z1, (⟨(0 : Int), (0 : Int), ([] : Str)⟩ : T_value_Value)] : List T_value_Value) z2) ∧ ∃ z3 : (List T_value_Value), ∃ z4 : Int, (row_Get_o z2 z3 z4) ∧ ∃ z6 : Str, (row_Show_o ([z1, (⟨(0 : Int), (0 : Int), ([] : Str)⟩ : T_value_Value)] : List T_value_Value) z6) ∧ cnd (z6 == ([40, 49, 44, 32, 78, 85, 76, 76, 41] : Str)) (cnd (z4 == (0 : Int)) (cnd ((z3.length : Int) == (2 : Int)) ((0 ≤ (0 : Int)) ∧ ((0 : Int) < (z3.length : Int)) ∧ ∃ y7 : T_value_Value, (z3[(0 : Int).toNat]? = some y7) ∧ ∃ z8 : T_value_Value, (value_OfInt_o (1 : Int) z8) ∧ cnd ((y7.Kind == z8.Kind) && ((y7.N == z8.N) && ((y7.S == z8.S) && true))) (∃ z9 : Int, (row_Compare_o ([z1, (⟨(0 : Int), (0 : Int), ([] : Str)⟩ : T_value_Value)] : List T_value_Value) z3 z9) ∧ law07_speaks_J1i r0 (z9 == (0 : Int))) (law07_speaks_J1i r0 false)) (law07_speaks_J1i r0 false)) (law07_speaks_J1i r0 false)) (law07_speaks_J1i r0 false)
theorem law07_speaks_J1_m (r0 : Bool) {x5 : Bool} (h : law07_speaks_J1i r0 x5) : law07_speaks_J1 r0 x5 := by
  unfold law07_speaks_J1
  unfold law07_speaks_J1i at h
  exact h
theorem law07_speaks_i (r0 : Bool) (h : law07_speaks_oi r0) : law07_speaks_o r0 := by
  unfold law07_speaks_o
  unfold law07_speaks_oi at h
  obtain ⟨z1, h⟩ := h
  refine ⟨z1, ?_⟩
  obtain ⟨h0, h⟩ := h
  refine ⟨h0, ?_⟩
  obtain ⟨z2, h⟩ := h
  refine ⟨z2, ?_⟩
  obtain ⟨h0, h⟩ := h
  refine ⟨h0, ?_⟩
  obtain ⟨z3, h⟩ := h
  refine ⟨z3, ?_⟩
  obtain ⟨z4, h⟩ := h
  refine ⟨z4, ?_⟩
  obtain ⟨h0, h⟩ := h
  refine ⟨h0, ?_⟩
  intro J1 kJ1
  have hJ1 : ∀ (x5 : Bool), law07_speaks_J1i r0 x5 → J1 x5 := fun x5 q => kJ1 x5 (law07_speaks_J1_m r0 q)
  obtain ⟨z6, h⟩ := h
  refine ⟨z6, ?_⟩
  obtain ⟨h0, h⟩ := h
  refine ⟨h0, ?_⟩
  refine cnd_mono h (fun h => ?_) (fun h => ?_)
  · refine cnd_mono h (fun h => ?_) (fun h => ?_)
    · refine cnd_mono h (fun h => ?_) (fun h => ?_)
      · obtain ⟨h0, h⟩ := h
        refine ⟨h0, ?_⟩
        obtain ⟨h0, h⟩ := h
        refine ⟨h0, ?_⟩
        obtain ⟨y7, h⟩ := h
        refine ⟨y7, ?_⟩
        obtain ⟨h0, h⟩ := h
        refine ⟨h0, ?_⟩
        obtain ⟨z8, h⟩ := h
        refine ⟨z8, ?_⟩
        obtain ⟨h0, h⟩ := h
        refine ⟨h0, ?_⟩
        refine cnd_mono h (fun h => ?_) (fun h => ?_)
        · obtain ⟨z9, h⟩ := h
          refine ⟨z9, ?_⟩
          obtain ⟨h0, h⟩ := h
          refine ⟨h0, ?_⟩
          exact hJ1 _ h
        · exact hJ1 _ h
      · exact hJ1 _ h
    · exact hJ1 _ h
  · exact hJ1 _ h
noncomputable def law07_speaks_sp : Sp KK := ⟨26, [], [4], appW (K := KK) [4] [] law07_speaks_o⟩
noncomputable def law07_speaks_an : An KK := (.s .o (.s .o (.s .o (.j ⟨[(0, .bl)], [], []⟩ .o (fun _ => .o)))))
noncomputable def law07_speaks_cf : Cf KK := ⟨CC, [value_OfInt_sp, row_Key_sp, row_Get_sp, row_Show_sp, row_Compare_sp], 38⟩

set_option maxRecDepth 100000 in
theorem law07_speaks_ok : SpOk Tryd.prog CC law07_speaks_sp := by
  intro env r hF h
  obtain ⟨rfl, h1⟩ := appW_n h
  obtain ⟨r0, rr0, rfl, h2⟩ := apR_v h1
  obtain ⟨rfl, h3⟩ := apR_n h2
  refine ⟨rfl, DnF_by (F := law07_speaks_cf) CC_ok (SsOk_c value_OfInt_ok (SsOk_c row_Key_ok (SsOk_c row_Get_ok (SsOk_c row_Show_ok (SsOk_c row_Compare_ok SsOk_n))))) t26 (A := law07_speaks_an) (ps := []) (rs := [4]) (env := []) (r := [.v 4 r0]) (X := law07_speaks_o  r0) rfl (Nat.le_of_ble_eq_true rfl) rfl hF h3 ?_⟩
  kernel_rfl

def law07_told_J3 (X1 : Int → (List T_value_Value) → (List T_ref06_Value) → Prop) (x1 : Int) (y7 : T_law07_Value) (x8 : Int) (x9 : Str) (x10 : (List T_value_Value)) (x11 : (List T_ref06_Value)) : Prop :=
  (x10.length ≤ 1000000000) ∧ (x11.length ≤ 1000000000) ∧ X1 (IntKind.i64.wrap (x1 + (1 : Int))) (x10 ++ ([(⟨IntKind.i64.wrap (y7.Kind.tmod (4 : Int)), x8, x9⟩ : T_value_Value)] : List T_value_Value)) (x11 ++ ([(⟨IntKind.i64.wrap (y7.Kind.tmod (4 : Int)), x8, x9⟩ : T_ref06_Value)] : List T_ref06_Value))
def law07_told_J2 (x1 : Int) (a0 : (List T_law07_Value)) (X1 : Int → (List T_value_Value) → (List T_ref06_Value) → Prop) (r0 : (List T_value_Value)) (r1 : (List T_ref06_Value)) (x4 : Bool) (x5 : (List T_value_Value)) (x6 : (List T_ref06_Value)) : Prop :=
  cnd x4 ((0 ≤ x1) ∧ (x1 < (a0.length : Int)) ∧ ∃ y7 : T_law07_Value, (a0[x1.toNat]? = some y7) ∧ ∀ J3 : Int → Str → (List T_value_Value) → (List T_ref06_Value) → Prop, (∀ (x8 : Int) (x9 : Str) (x10 : (List T_value_Value)) (x11 : (List T_ref06_Value)), law07_told_J3 X1 x1 y7 x8 x9 x10 x11 → J3 x8 x9 x10 x11) → cnd ((IntKind.i64.wrap (y7.Kind.tmod (4 : Int))) == (1 : Int)) ((0 ≤ x1) ∧ (x1 < (a0.length : Int)) ∧ ∃ y12 : T_law07_Value, (a0[x1.toNat]? = some y12) ∧ J3 (bits .and .i64 y12.N (1 : Int)) ([] : Str) x5 x6) (cnd ((IntKind.i64.wrap (y7.Kind.tmod (4 : Int))) == (2 : Int)) ((0 ≤ x1) ∧ (x1 < (a0.length : Int)) ∧ ∃ y13 : T_law07_Value, (a0[x1.toNat]? = some y13) ∧ J3 y13.N ([] : Str) x5 x6) (cnd ((IntKind.i64.wrap (y7.Kind.tmod (4 : Int))) == (3 : Int)) ((0 ≤ x1) ∧ (x1 < (a0.length : Int)) ∧ ∃ y14 : T_law07_Value, (a0[x1.toNat]? = some y14) ∧ (0 ≤ x1) ∧ (x1 < (a0.length : Int)) ∧ ∃ y15 : T_law07_Value, (a0[x1.toNat]? = some y15) ∧ (0 ≤ (0 : Int) ∧ (0 : Int) ≤ (if (64 : Int) < (y15.S.length : Int) then (64 : Int) else (y15.S.length : Int)) ∧ (if (64 : Int) < (y15.S.length : Int) then (64 : Int) else (y15.S.length : Int)) ≤ (y14.S.length : Int)) ∧ J3 (0 : Int) ((y14.S.drop (0 : Int).toNat).take ((if (64 : Int) < (y15.S.length : Int) then (64 : Int) else (y15.S.length : Int)).toNat - (0 : Int).toNat)) x5 x6) (J3 (0 : Int) ([] : Str) x5 x6)))) (x5 = r0 ∧ x6 = r1)
def law07_told_L1 (a0 : (List T_law07_Value)) (r0 : (List T_value_Value)) (r1 : (List T_ref06_Value)) (X1 : Int → (List T_value_Value) → (List T_ref06_Value) → Prop) (x1 : Int) (x2 : (List T_value_Value)) (x3 : (List T_ref06_Value)) : Prop :=
  ∀ J2 : Bool → (List T_value_Value) → (List T_ref06_Value) → Prop, (∀ (x4 : Bool) (x5 : (List T_value_Value)) (x6 : (List T_ref06_Value)), law07_told_J2 x1 a0 X1 r0 r1 x4 x5 x6 → J2 x4 x5 x6) → (a0.length ≤ maxLen → cnd (decide (x1 < (a0.length : Int))) (J2 (decide (x1 < (9 : Int))) x2 x3) (J2 false x2 x3))
def law07_told_o (a0 : (List T_law07_Value)) (r0 : (List T_value_Value)) (r1 : (List T_ref06_Value)) : Prop :=
  ∀ X1 : Int → (List T_value_Value) → (List T_ref06_Value) → Prop, (∀ (x1 : Int) (x2 : (List T_value_Value)) (x3 : (List T_ref06_Value)), law07_told_L1 a0 r0 r1 X1 x1 x2 x3 → X1 x1 x2 x3) → X1 (0 : Int) ([] : List T_value_Value) ([] : List T_ref06_Value)
def law07_told_J3i (X1 : Int → (List T_value_Value) → (List T_ref06_Value) → Prop) (x1 : Int) (y7 : T_law07_Value) (x8 : Int) (x9 : Str) (x10 : (List T_value_Value)) (x11 : (List T_ref06_Value)) : Prop :=
  (x10.length ≤ 1000000000) ∧ (x11.length ≤ 1000000000) ∧ X1 (IntKind.i64.wrap (x1 + (1 : Int))) (x10 ++ ([(⟨IntKind.i64.wrap (y7.Kind.tmod (4 : Int)), x8, x9⟩ : T_value_Value)] : List T_value_Value)) (x11 ++ ([(⟨IntKind.i64.wrap (y7.Kind.tmod (4 : Int)), x8, x9⟩ : T_ref06_Value)] : List T_ref06_Value))
def law07_told_J2i (X1 : Int → (List T_value_Value) → (List T_ref06_Value) → Prop) (a0 : (List T_law07_Value)) (r0 : (List T_value_Value)) (r1 : (List T_ref06_Value)) (x1 : Int) (x4 : Bool) (x5 : (List T_value_Value)) (x6 : (List T_ref06_Value)) : Prop :=
  cnd x4 ((0 ≤ x1) ∧ (x1 < (a0.length : Int)) ∧ ∃ y7 : T_law07_Value, (a0[x1.toNat]? = some y7) ∧ cnd ((IntKind.i64.wrap (y7.Kind.tmod (4 : Int))) == (1 : Int)) ((0 ≤ x1) ∧ (x1 < (a0.length : Int)) ∧ ∃ y12 : T_law07_Value, (a0[x1.toNat]? = some y12) ∧ law07_told_J3i X1 x1 y7 (bits .and .i64 y12.N (1 : Int)) ([] : Str) x5 x6) (cnd ((IntKind.i64.wrap (y7.Kind.tmod (4 : Int))) == (2 : Int)) ((0 ≤ x1) ∧ (x1 < (a0.length : Int)) ∧ ∃ y13 : T_law07_Value, (a0[x1.toNat]? = some y13) ∧ law07_told_J3i X1 x1 y7 y13.N ([] : Str) x5 x6) (cnd ((IntKind.i64.wrap (y7.Kind.tmod (4 : Int))) == (3 : Int)) ((0 ≤ x1) ∧ (x1 < (a0.length : Int)) ∧ ∃ y14 : T_law07_Value, (a0[x1.toNat]? = some y14) ∧ (0 ≤ x1) ∧ (x1 < (a0.length : Int)) ∧ ∃ y15 : T_law07_Value, (a0[x1.toNat]? = some y15) ∧ (0 ≤ (0 : Int) ∧ (0 : Int) ≤ (if (64 : Int) < (y15.S.length : Int) then (64 : Int) else (y15.S.length : Int)) ∧ (if (64 : Int) < (y15.S.length : Int) then (64 : Int) else (y15.S.length : Int)) ≤ (y14.S.length : Int)) ∧ law07_told_J3i X1 x1 y7 (0 : Int) ((y14.S.drop (0 : Int).toNat).take ((if (64 : Int) < (y15.S.length : Int) then (64 : Int) else (y15.S.length : Int)).toNat - (0 : Int).toNat)) x5 x6) (law07_told_J3i X1 x1 y7 (0 : Int) ([] : Str) x5 x6)))) (x5 = r0 ∧ x6 = r1)
def law07_told_L1i (a0 : (List T_law07_Value)) (r0 : (List T_value_Value)) (r1 : (List T_ref06_Value)) (X1 : Int → (List T_value_Value) → (List T_ref06_Value) → Prop) (x1 : Int) (x2 : (List T_value_Value)) (x3 : (List T_ref06_Value)) : Prop :=
  (a0.length ≤ maxLen → cnd (decide (x1 < (a0.length : Int))) (law07_told_J2i X1 a0 r0 r1 x1 (decide (x1 < (9 : Int))) x2 x3) (law07_told_J2i X1 a0 r0 r1 x1 false x2 x3))
def law07_told_oi (a0 : (List T_law07_Value)) (r0 : (List T_value_Value)) (r1 : (List T_ref06_Value)) : Prop :=
  ∀ X1 : Int → (List T_value_Value) → (List T_ref06_Value) → Prop, (∀ (x1 : Int) (x2 : (List T_value_Value)) (x3 : (List T_ref06_Value)), law07_told_L1i a0 r0 r1 X1 x1 x2 x3 → X1 x1 x2 x3) → X1 (0 : Int) ([] : List T_value_Value) ([] : List T_ref06_Value)
theorem law07_told_J3_m (X1 : Int → (List T_value_Value) → (List T_ref06_Value) → Prop) (x1 : Int) (y7 : T_law07_Value) {x8 : Int} {x9 : Str} {x10 : (List T_value_Value)} {x11 : (List T_ref06_Value)} (h : law07_told_J3i X1 x1 y7 x8 x9 x10 x11) : law07_told_J3 X1 x1 y7 x8 x9 x10 x11 := by
  unfold law07_told_J3
  unfold law07_told_J3i at h
  exact h
theorem law07_told_J2_m (X1 : Int → (List T_value_Value) → (List T_ref06_Value) → Prop) (a0 : (List T_law07_Value)) (r0 : (List T_value_Value)) (r1 : (List T_ref06_Value)) (x1 : Int) {x4 : Bool} {x5 : (List T_value_Value)} {x6 : (List T_ref06_Value)} (h : law07_told_J2i X1 a0 r0 r1 x1 x4 x5 x6) : law07_told_J2 x1 a0 X1 r0 r1 x4 x5 x6 := by
  unfold law07_told_J2
  unfold law07_told_J2i at h
  refine cnd_mono h (fun h => ?_) (fun h => ?_)
  · obtain ⟨h0, h⟩ := h
    refine ⟨h0, ?_⟩
    obtain ⟨h0, h⟩ := h
    refine ⟨h0, ?_⟩
    obtain ⟨y7, h⟩ := h
    refine ⟨y7, ?_⟩
    obtain ⟨h0, h⟩ := h
    refine ⟨h0, ?_⟩
    intro J3 kJ3
    have hJ3 : ∀ (x8 : Int) (x9 : Str) (x10 : (List T_value_Value)) (x11 : (List T_ref06_Value)), law07_told_J3i X1 x1 y7 x8 x9 x10 x11 → J3 x8 x9 x10 x11 := fun x8 x9 x10 x11 q => kJ3 x8 x9 x10 x11 (law07_told_J3_m X1 x1 y7 q)
    refine cnd_mono h (fun h => ?_) (fun h => ?_)
    · obtain ⟨h0, h⟩ := h
      refine ⟨h0, ?_⟩
      obtain ⟨h0, h⟩ := h
      refine ⟨h0, ?_⟩
      obtain ⟨y12, h⟩ := h
      refine ⟨y12, ?_⟩
      obtain ⟨h0, h⟩ := h
      refine ⟨h0, ?_⟩
      exact hJ3 _ _ _ _ h
    · refine cnd_mono h (fun h => ?_) (fun h => ?_)
      · obtain ⟨h0, h⟩ := h
        refine ⟨h0, ?_⟩
        obtain ⟨h0, h⟩ := h
        refine ⟨h0, ?_⟩
        obtain ⟨y13, h⟩ := h
        refine ⟨y13, ?_⟩
        obtain ⟨h0, h⟩ := h
        refine ⟨h0, ?_⟩
        exact hJ3 _ _ _ _ h
      · refine cnd_mono h (fun h => ?_) (fun h => ?_)
        · obtain ⟨h0, h⟩ := h
          refine ⟨h0, ?_⟩
          obtain ⟨h0, h⟩ := h
          refine ⟨h0, ?_⟩
          obtain ⟨y14, h⟩ := h
          refine ⟨y14, ?_⟩
          obtain ⟨h0, h⟩ := h
          refine ⟨h0, ?_⟩
          obtain ⟨h0, h⟩ := h
          refine ⟨h0, ?_⟩
          obtain ⟨h0, h⟩ := h
          refine ⟨h0, ?_⟩
          obtain ⟨y15, h⟩ := h
          refine ⟨y15, ?_⟩
          obtain ⟨h0, h⟩ := h
          refine ⟨h0, ?_⟩
          obtain ⟨h0, h⟩ := h
          refine ⟨h0, ?_⟩
          exact hJ3 _ _ _ _ h
        · exact hJ3 _ _ _ _ h
  · exact h
theorem law07_told_L1_m (a0 : (List T_law07_Value)) (r0 : (List T_value_Value)) (r1 : (List T_ref06_Value)) {X1 : Int → (List T_value_Value) → (List T_ref06_Value) → Prop} {x1 : Int} {x2 : (List T_value_Value)} {x3 : (List T_ref06_Value)} (h : law07_told_L1i a0 r0 r1 X1 x1 x2 x3) : law07_told_L1 a0 r0 r1 X1 x1 x2 x3 := by
  unfold law07_told_L1
  unfold law07_told_L1i at h
  intro J2 kJ2
  have hJ2 : ∀ (x4 : Bool) (x5 : (List T_value_Value)) (x6 : (List T_ref06_Value)), law07_told_J2i X1 a0 r0 r1 x1 x4 x5 x6 → J2 x4 x5 x6 := fun x4 x5 x6 q => kJ2 x4 x5 x6 (law07_told_J2_m X1 a0 r0 r1 x1 q)
  intro c
  replace h := h c
  refine cnd_mono h (fun h => ?_) (fun h => ?_)
  · exact hJ2 _ _ _ h
  · exact hJ2 _ _ _ h
theorem law07_told_i (a0 : (List T_law07_Value)) (r0 : (List T_value_Value)) (r1 : (List T_ref06_Value)) (h : law07_told_oi a0 r0 r1) : law07_told_o a0 r0 r1 := by
  unfold law07_told_o
  unfold law07_told_oi at h
  intro X1 k
  exact h X1 (fun x1 x2 x3 q => k x1 x2 x3 (law07_told_L1_m a0 r0 r1 q))
noncomputable def law07_told_sp : Sp KK := ⟨27, [.v 50], [52, 54], appW (K := KK) [52, 54] [.v 50] law07_told_o⟩
noncomputable def law07_told_an : An KK := (.s .o (.s .o (.s .o (.s (.s .o (.b (.l ⟨[(0, .kp 15), (4, .row 64), (5, .row 68), (6, .it .i64)], [], [(64, 26), (68, 27)]⟩ (fun _ => (.s (.j ⟨[(0, .kp 15), (4, .row 64), (5, .row 68), (6, .kp 26), (15, .bl)], [], [(64, 26), (68, 27)]⟩ .o (fun _ => (.c .o .o))) (.s (.b (.s .o (.j ⟨[(0, .kp 15), (4, .row 64), (5, .row 68), (6, .kp 26), (7, .px 7 0)], [(7, 27, [.kp 28, .it .i64, .st])], [(64, 26), (68, 27)]⟩ (.s .o (.b (.s .o (.c .o (.s .o (.c .o (.s .o (.c .o .o)))))))) (fun _ => .o)))) .o)))))) (.s .o .o)))))
noncomputable def law07_told_cf : Cf KK := ⟨CC, [], 71⟩

set_option maxRecDepth 100000 in
theorem law07_told_ok : SpOk Tryd.prog CC law07_told_sp := by
  intro env r hF h
  obtain ⟨a0, env0, rfl, h1⟩ := appW_v h
  obtain ⟨rfl, h2⟩ := appW_n h1
  obtain ⟨r0, rr0, rfl, h3⟩ := apR_v h2
  obtain ⟨r1, rr1, rfl, h4⟩ := apR_v h3
  obtain ⟨rfl, h5⟩ := apR_n h4
  refine ⟨rfl, DnF_by (F := law07_told_cf) CC_ok SsOk_n t27 (A := law07_told_an) (ps := [.v 50]) (rs := [52, 54]) (env := [.d (.v 50 a0)]) (r := [.v 52 r0, .v 54 r1]) (X := law07_told_o a0 r0 r1) rfl (Nat.le_of_ble_eq_true rfl) rfl hF h5 ?_⟩
  kernel_rfl

def ref04_Int_L1 (r0 : Str) (X1 : Int → Str → Int → Prop) (x1 : Int) (x2 : Str) (x3 : Int) : Prop :=
  cnd (decide (x3 < (8 : Int))) (((([IntKind.u8.wrap (x1.tmod (256 : Int))] : List Int).map toB).length + x2.length ≤ 9223372036854775807) ∧ X1 (IntKind.u64.wrap (x1.tdiv (256 : Int))) ((([IntKind.u8.wrap (x1.tmod (256 : Int))] : List Int).map toB) ++ x2) (IntKind.i64.wrap (x3 + (1 : Int)))) (x2 = r0)
def ref04_Int_o (a0 : Int) (r0 : Str) : Prop :=
  ∀ X1 : Int → Str → Int → Prop, (∀ (x1 : Int) (x2 : Str) (x3 : Int), ref04_Int_L1 r0 X1 x1 x2 x3 → X1 x1 x2 x3) → X1 (IntKind.u64.wrap ((IntKind.u64.wrap a0) + (9223372036854775808 : Int))) ([] : Str) (0 : Int)
def ref04_Int_L1i (r0 : Str) (X1 : Int → Str → Int → Prop) (x1 : Int) (x2 : Str) (x3 : Int) : Prop :=
  cnd (decide (x3 < (8 : Int))) (((([IntKind.u8.wrap (x1.tmod (256 : Int))] : List Int).map toB).length + x2.length ≤ 9223372036854775807) ∧ X1 (IntKind.u64.wrap (x1.tdiv (256 : Int))) ((([IntKind.u8.wrap (x1.tmod (256 : Int))] : List Int).map toB) ++ x2) (IntKind.i64.wrap (x3 + (1 : Int)))) (x2 = r0)
def ref04_Int_oi (a0 : Int) (r0 : Str) : Prop :=
  ∀ X1 : Int → Str → Int → Prop, (∀ (x1 : Int) (x2 : Str) (x3 : Int), ref04_Int_L1i r0 X1 x1 x2 x3 → X1 x1 x2 x3) → X1 (IntKind.u64.wrap ((IntKind.u64.wrap a0) + (9223372036854775808 : Int))) ([] : Str) (0 : Int)
theorem ref04_Int_L1_m (r0 : Str) {X1 : Int → Str → Int → Prop} {x1 : Int} {x2 : Str} {x3 : Int} (h : ref04_Int_L1i r0 X1 x1 x2 x3) : ref04_Int_L1 r0 X1 x1 x2 x3 := by
  unfold ref04_Int_L1
  unfold ref04_Int_L1i at h
  exact h
theorem ref04_Int_i (a0 : Int) (r0 : Str) (h : ref04_Int_oi a0 r0) : ref04_Int_o a0 r0 := by
  unfold ref04_Int_o
  unfold ref04_Int_oi at h
  intro X1 k
  exact h X1 (fun x1 x2 x3 q => k x1 x2 x3 (ref04_Int_L1_m r0 q))
noncomputable def ref04_Int_sp : Sp KK := ⟨58, [.v 2], [9], appW (K := KK) [9] [.v 2] ref04_Int_o⟩
noncomputable def ref04_Int_an : An KK := (.s .o (.s .o (.s .o (.s (.s .o (.b (.l ⟨[(3, .it .u64), (4, .st), (5, .it .i64)], [], []⟩ (fun _ => (.s (.s .o (.c .o .o)) (.s (.b (.s .o .o)) .o)))))) (.s .o .o)))))
noncomputable def ref04_Int_cf : Cf KK := ⟨CC, [], 23⟩

set_option maxRecDepth 100000 in
theorem ref04_Int_ok : SpOk Tryd.prog CC ref04_Int_sp := by
  intro env r hF h
  obtain ⟨a0, env0, rfl, h1⟩ := appW_v h
  obtain ⟨rfl, h2⟩ := appW_n h1
  obtain ⟨r0, rr0, rfl, h3⟩ := apR_v h2
  obtain ⟨rfl, h4⟩ := apR_n h3
  refine ⟨rfl, DnF_by (F := ref04_Int_cf) CC_ok SsOk_n t58 (A := ref04_Int_an) (ps := [.v 2]) (rs := [9]) (env := [.d (.v 2 a0)]) (r := [.v 9 r0]) (X := ref04_Int_o a0 r0) rfl (Nat.le_of_ble_eq_true rfl) rfl hF h4 ?_⟩
  kernel_rfl

def ref04_Pack_L1 (a0 : (List Str)) (r0 : Str) (X1 : Str → Int → Prop) (x1 : Str) (x2 : Int) : Prop :=
  (a0.length ≤ maxLen → cnd (decide (x2 < (a0.length : Int))) ((0 ≤ x2) ∧ (x2 < (a0.length : Int)) ∧ ∃ y3 : Str, (a0[x2.toNat]? = some y3) ∧ (0 ≤ x2) ∧ (x2 < (a0.length : Int)) ∧ ∃ y4 : Str, (a0[x2.toNat]? = some y4) ∧ ((([IntKind.u8.wrap ((IntKind.i64.wrap ((y3.length : Int).tdiv (16777216 : Int))).tmod (256 : Int)), IntKind.u8.wrap ((IntKind.i64.wrap ((y3.length : Int).tdiv (65536 : Int))).tmod (256 : Int)), IntKind.u8.wrap ((IntKind.i64.wrap ((y3.length : Int).tdiv (256 : Int))).tmod (256 : Int)), IntKind.u8.wrap ((y3.length : Int).tmod (256 : Int))] : List Int).map toB).length + y4.length ≤ 9223372036854775807) ∧ (x1.length + ((([IntKind.u8.wrap ((IntKind.i64.wrap ((y3.length : Int).tdiv (16777216 : Int))).tmod (256 : Int)), IntKind.u8.wrap ((IntKind.i64.wrap ((y3.length : Int).tdiv (65536 : Int))).tmod (256 : Int)), IntKind.u8.wrap ((IntKind.i64.wrap ((y3.length : Int).tdiv (256 : Int))).tmod (256 : Int)), IntKind.u8.wrap ((y3.length : Int).tmod (256 : Int))] : List Int).map toB) ++ y4).length ≤ 9223372036854775807) ∧ X1 (x1 ++ ((([IntKind.u8.wrap ((IntKind.i64.wrap ((y3.length : Int).tdiv (16777216 : Int))).tmod (256 : Int)), IntKind.u8.wrap ((IntKind.i64.wrap ((y3.length : Int).tdiv (65536 : Int))).tmod (256 : Int)), IntKind.u8.wrap ((IntKind.i64.wrap ((y3.length : Int).tdiv (256 : Int))).tmod (256 : Int)), IntKind.u8.wrap ((y3.length : Int).tmod (256 : Int))] : List Int).map toB) ++ y4)) (IntKind.i64.wrap (x2 + (1 : Int)))) (x1 = r0))
def ref04_Pack_o (a0 : (List Str)) (r0 : Str) : Prop :=
  ∀ X1 : Str → Int → Prop, (∀ (x1 : Str) (x2 : Int), ref04_Pack_L1 a0 r0 X1 x1 x2 → X1 x1 x2) → X1 ([] : Str) (0 : Int)
def ref04_Pack_L1i (a0 : (List Str)) (r0 : Str) (X1 : Str → Int → Prop) (x1 : Str) (x2 : Int) : Prop :=
  (a0.length ≤ maxLen → cnd (decide (x2 < (a0.length : Int))) ((0 ≤ x2) ∧ (x2 < (a0.length : Int)) ∧ ∃ y3 : Str, (a0[x2.toNat]? = some y3) ∧ (0 ≤ x2) ∧ (x2 < (a0.length : Int)) ∧ ∃ y4 : Str, (a0[x2.toNat]? = some y4) ∧ ((([IntKind.u8.wrap ((IntKind.i64.wrap ((y3.length : Int).tdiv (16777216 : Int))).tmod (256 : Int)), IntKind.u8.wrap ((IntKind.i64.wrap ((y3.length : Int).tdiv (65536 : Int))).tmod (256 : Int)), IntKind.u8.wrap ((IntKind.i64.wrap ((y3.length : Int).tdiv (256 : Int))).tmod (256 : Int)), IntKind.u8.wrap ((y3.length : Int).tmod (256 : Int))] : List Int).map toB).length + y4.length ≤ 9223372036854775807) ∧ (x1.length + ((([IntKind.u8.wrap ((IntKind.i64.wrap ((y3.length : Int).tdiv (16777216 : Int))).tmod (256 : Int)), IntKind.u8.wrap ((IntKind.i64.wrap ((y3.length : Int).tdiv (65536 : Int))).tmod (256 : Int)), IntKind.u8.wrap ((IntKind.i64.wrap ((y3.length : Int).tdiv (256 : Int))).tmod (256 : Int)), IntKind.u8.wrap ((y3.length : Int).tmod (256 : Int))] : List Int).map toB) ++ y4).length ≤ 9223372036854775807) ∧ X1 (x1 ++ ((([IntKind.u8.wrap ((IntKind.i64.wrap ((y3.length : Int).tdiv (16777216 : Int))).tmod (256 : Int)), IntKind.u8.wrap ((IntKind.i64.wrap ((y3.length : Int).tdiv (65536 : Int))).tmod (256 : Int)), IntKind.u8.wrap ((IntKind.i64.wrap ((y3.length : Int).tdiv (256 : Int))).tmod (256 : Int)), IntKind.u8.wrap ((y3.length : Int).tmod (256 : Int))] : List Int).map toB) ++ y4)) (IntKind.i64.wrap (x2 + (1 : Int)))) (x1 = r0))
def ref04_Pack_oi (a0 : (List Str)) (r0 : Str) : Prop :=
  ∀ X1 : Str → Int → Prop, (∀ (x1 : Str) (x2 : Int), ref04_Pack_L1i a0 r0 X1 x1 x2 → X1 x1 x2) → X1 ([] : Str) (0 : Int)
theorem ref04_Pack_L1_m (a0 : (List Str)) (r0 : Str) {X1 : Str → Int → Prop} {x1 : Str} {x2 : Int} (h : ref04_Pack_L1i a0 r0 X1 x1 x2) : ref04_Pack_L1 a0 r0 X1 x1 x2 := by
  unfold ref04_Pack_L1
  unfold ref04_Pack_L1i at h
  exact h
theorem ref04_Pack_i (a0 : (List Str)) (r0 : Str) (h : ref04_Pack_oi a0 r0) : ref04_Pack_o a0 r0 := by
  unfold ref04_Pack_o
  unfold ref04_Pack_oi at h
  intro X1 k
  exact h X1 (fun x1 x2 q => k x1 x2 (ref04_Pack_L1_m a0 r0 q))
noncomputable def ref04_Pack_sp : Sp KK := ⟨59, [.v 64], [9], appW (K := KK) [9] [.v 64] ref04_Pack_o⟩
noncomputable def ref04_Pack_an : An KK := (.s .o (.s .o (.s (.s .o (.b (.l ⟨[(0, .kp 4), (3, .st), (4, .it .i64)], [], []⟩ (fun _ => (.s (.s .o (.c .o .o)) (.s (.b (.s .o .o)) .o)))))) (.s .o .o))))
noncomputable def ref04_Pack_cf : Cf KK := ⟨CC, [], 42⟩

set_option maxRecDepth 100000 in
theorem ref04_Pack_ok : SpOk Tryd.prog CC ref04_Pack_sp := by
  intro env r hF h
  obtain ⟨a0, env0, rfl, h1⟩ := appW_v h
  obtain ⟨rfl, h2⟩ := appW_n h1
  obtain ⟨r0, rr0, rfl, h3⟩ := apR_v h2
  obtain ⟨rfl, h4⟩ := apR_n h3
  refine ⟨rfl, DnF_by (F := ref04_Pack_cf) CC_ok SsOk_n t59 (A := ref04_Pack_an) (ps := [.v 64]) (rs := [9]) (env := [.d (.v 64 a0)]) (r := [.v 9 r0]) (X := ref04_Pack_o a0 r0) rfl (Nat.le_of_ble_eq_true rfl) rfl hF h4 ?_⟩
  kernel_rfl

def ref07_Key_J3 (x1 : Int) (a0 : (List T_ref06_Value)) (X1 : Int → (List Str) → Prop) (x6 : Str) (x7 : (List Str)) : Prop :=
  (0 ≤ x1) ∧ (x1 < (a0.length : Int)) ∧ ∃ y8 : T_ref06_Value, (a0[x1.toNat]? = some y8) ∧ (x6.length + y8.S.length ≤ 9223372036854775807) ∧ (x7.length ≤ 1000000000) ∧ X1 (IntKind.i64.wrap (x1 + (1 : Int))) (x7 ++ ([x6 ++ y8.S] : List Str))
def ref07_Key_J2 (x1 : Int) (a0 : (List T_ref06_Value)) (X1 : Int → (List Str) → Prop) (x4 : Str) (x5 : (List Str)) : Prop :=
  ∀ J3 : Str → (List Str) → Prop, (∀ (x6 : Str) (x7 : (List Str)), ref07_Key_J3 x1 a0 X1 x6 x7 → J3 x6 x7) → (0 ≤ x1) ∧ (x1 < (a0.length : Int)) ∧ ∃ y9 : T_ref06_Value, (a0[x1.toNat]? = some y9) ∧ cnd (y9.Kind == (2 : Int)) ((0 ≤ x1) ∧ (x1 < (a0.length : Int)) ∧ ∃ y10 : T_ref06_Value, (a0[x1.toNat]? = some y10) ∧ ∃ z11 : Str, (ref04_Int_o y10.N z11) ∧ (x4.length + z11.length ≤ 9223372036854775807) ∧ J3 (x4 ++ z11) x5) (J3 x4 x5)
def ref07_Key_L1 (a0 : (List T_ref06_Value)) (r0 : Str) (X1 : Int → (List Str) → Prop) (x1 : Int) (x2 : (List Str)) : Prop :=
  (a0.length ≤ maxLen → cnd (decide (x1 < (a0.length : Int))) ((0 ≤ x1) ∧ (x1 < (a0.length : Int)) ∧ ∃ y3 : T_ref06_Value, (a0[x1.toNat]? = some y3) ∧ ∀ J2 : Str → (List Str) → Prop, (∀ (x4 : Str) (x5 : (List Str)), ref07_Key_J2 x1 a0 X1 x4 x5 → J2 x4 x5) → (0 ≤ x1) ∧ (x1 < (a0.length : Int)) ∧ ∃ y12 : T_ref06_Value, (a0[x1.toNat]? = some y12) ∧ cnd (y12.Kind == (1 : Int)) ((0 ≤ x1) ∧ (x1 < (a0.length : Int)) ∧ ∃ y13 : T_ref06_Value, (a0[x1.toNat]? = some y13) ∧ ((([IntKind.u8.wrap y3.Kind] : List Int).map toB).length + (([IntKind.u8.wrap y13.N] : List Int).map toB).length ≤ 9223372036854775807) ∧ J2 ((([IntKind.u8.wrap y3.Kind] : List Int).map toB) ++ (([IntKind.u8.wrap y13.N] : List Int).map toB)) x2) (J2 (([IntKind.u8.wrap y3.Kind] : List Int).map toB) x2)) (∃ z14 : Str, (ref04_Pack_o x2 z14) ∧ z14 = r0))
def ref07_Key_o (a0 : (List T_ref06_Value)) (r0 : Str) : Prop :=
  ∀ X1 : Int → (List Str) → Prop, (∀ (x1 : Int) (x2 : (List Str)), ref07_Key_L1 a0 r0 X1 x1 x2 → X1 x1 x2) → X1 (0 : Int) ([] : List Str)
def ref07_Key_J3i (X1 : Int → (List Str) → Prop) (a0 : (List T_ref06_Value)) (x1 : Int) (x6 : Str) (x7 : (List Str)) : Prop :=
  (0 ≤ x1) ∧ (x1 < (a0.length : Int)) ∧ ∃ y8 : T_ref06_Value, (a0[x1.toNat]? = some y8) ∧ (x6.length + y8.S.length ≤ 9223372036854775807) ∧ (x7.length ≤ 1000000000) ∧ X1 (IntKind.i64.wrap (x1 + (1 : Int))) (x7 ++ ([x6 ++ y8.S] : List Str))
def ref07_Key_J2i (X1 : Int → (List Str) → Prop) (a0 : (List T_ref06_Value)) (x1 : Int) (x4 : Str) (x5 : (List Str)) : Prop :=
  (0 ≤ x1) ∧ (x1 < (a0.length : Int)) ∧ ∃ y9 : T_ref06_Value, (a0[x1.toNat]? = some y9) ∧ cnd (y9.Kind == (2 : Int)) ((0 ≤ x1) ∧ (x1 < (a0.length : Int)) ∧ ∃ y10 : T_ref06_Value, (a0[x1.toNat]? = some y10) ∧ ∃ z11 : Str, (ref04_Int_o y10.N z11) ∧ (x4.length + z11.length ≤ 9223372036854775807) ∧ ref07_Key_J3i X1 a0 x1 (x4 ++ z11) x5) (ref07_Key_J3i X1 a0 x1 x4 x5)
def ref07_Key_L1i (a0 : (List T_ref06_Value)) (r0 : Str) (X1 : Int → (List Str) → Prop) (x1 : Int) (x2 : (List Str)) : Prop :=
  (a0.length ≤ maxLen → cnd (decide (x1 < (a0.length : Int))) ((0 ≤ x1) ∧ (x1 < (a0.length : Int)) ∧ ∃ y3 : T_ref06_Value, (a0[x1.toNat]? = some y3) ∧ (0 ≤ x1) ∧ (x1 < (a0.length : Int)) ∧ ∃ y12 : T_ref06_Value, (a0[x1.toNat]? = some y12) ∧ cnd (y12.Kind == (1 : Int)) ((0 ≤ x1) ∧ (x1 < (a0.length : Int)) ∧ ∃ y13 : T_ref06_Value, (a0[x1.toNat]? = some y13) ∧ ((([IntKind.u8.wrap y3.Kind] : List Int).map toB).length + (([IntKind.u8.wrap y13.N] : List Int).map toB).length ≤ 9223372036854775807) ∧ ref07_Key_J2i X1 a0 x1 ((([IntKind.u8.wrap y3.Kind] : List Int).map toB) ++ (([IntKind.u8.wrap y13.N] : List Int).map toB)) x2) (ref07_Key_J2i X1 a0 x1 (([IntKind.u8.wrap y3.Kind] : List Int).map toB) x2)) (∃ z14 : Str, (ref04_Pack_o x2 z14) ∧ z14 = r0))
def ref07_Key_oi (a0 : (List T_ref06_Value)) (r0 : Str) : Prop :=
  ∀ X1 : Int → (List Str) → Prop, (∀ (x1 : Int) (x2 : (List Str)), ref07_Key_L1i a0 r0 X1 x1 x2 → X1 x1 x2) → X1 (0 : Int) ([] : List Str)
theorem ref07_Key_J3_m (X1 : Int → (List Str) → Prop) (a0 : (List T_ref06_Value)) (x1 : Int) {x6 : Str} {x7 : (List Str)} (h : ref07_Key_J3i X1 a0 x1 x6 x7) : ref07_Key_J3 x1 a0 X1 x6 x7 := by
  unfold ref07_Key_J3
  unfold ref07_Key_J3i at h
  exact h
theorem ref07_Key_J2_m (X1 : Int → (List Str) → Prop) (a0 : (List T_ref06_Value)) (x1 : Int) {x4 : Str} {x5 : (List Str)} (h : ref07_Key_J2i X1 a0 x1 x4 x5) : ref07_Key_J2 x1 a0 X1 x4 x5 := by
  unfold ref07_Key_J2
  unfold ref07_Key_J2i at h
  intro J3 kJ3
  have hJ3 : ∀ (x6 : Str) (x7 : (List Str)), ref07_Key_J3i X1 a0 x1 x6 x7 → J3 x6 x7 := fun x6 x7 q => kJ3 x6 x7 (ref07_Key_J3_m X1 a0 x1 q)
  obtain ⟨h0, h⟩ := h
  refine ⟨h0, ?_⟩
  obtain ⟨h0, h⟩ := h
  refine ⟨h0, ?_⟩
  obtain ⟨y9, h⟩ := h
  refine ⟨y9, ?_⟩
  obtain ⟨h0, h⟩ := h
  refine ⟨h0, ?_⟩
  refine cnd_mono h (fun h => ?_) (fun h => ?_)
  · obtain ⟨h0, h⟩ := h
    refine ⟨h0, ?_⟩
    obtain ⟨h0, h⟩ := h
    refine ⟨h0, ?_⟩
    obtain ⟨y10, h⟩ := h
    refine ⟨y10, ?_⟩
    obtain ⟨h0, h⟩ := h
    refine ⟨h0, ?_⟩
    obtain ⟨z11, h⟩ := h
    refine ⟨z11, ?_⟩
    obtain ⟨h0, h⟩ := h
    refine ⟨h0, ?_⟩
    obtain ⟨h0, h⟩ := h
    refine ⟨h0, ?_⟩
    exact hJ3 _ _ h
  · exact hJ3 _ _ h
theorem ref07_Key_L1_m (a0 : (List T_ref06_Value)) (r0 : Str) {X1 : Int → (List Str) → Prop} {x1 : Int} {x2 : (List Str)} (h : ref07_Key_L1i a0 r0 X1 x1 x2) : ref07_Key_L1 a0 r0 X1 x1 x2 := by
  unfold ref07_Key_L1
  unfold ref07_Key_L1i at h
  intro c
  replace h := h c
  refine cnd_mono h (fun h => ?_) (fun h => ?_)
  · obtain ⟨h0, h⟩ := h
    refine ⟨h0, ?_⟩
    obtain ⟨h0, h⟩ := h
    refine ⟨h0, ?_⟩
    obtain ⟨y3, h⟩ := h
    refine ⟨y3, ?_⟩
    obtain ⟨h0, h⟩ := h
    refine ⟨h0, ?_⟩
    intro J2 kJ2
    have hJ2 : ∀ (x4 : Str) (x5 : (List Str)), ref07_Key_J2i X1 a0 x1 x4 x5 → J2 x4 x5 := fun x4 x5 q => kJ2 x4 x5 (ref07_Key_J2_m X1 a0 x1 q)
    obtain ⟨h0, h⟩ := h
    refine ⟨h0, ?_⟩
    obtain ⟨h0, h⟩ := h
    refine ⟨h0, ?_⟩
    obtain ⟨y12, h⟩ := h
    refine ⟨y12, ?_⟩
    obtain ⟨h0, h⟩ := h
    refine ⟨h0, ?_⟩
    refine cnd_mono h (fun h => ?_) (fun h => ?_)
    · obtain ⟨h0, h⟩ := h
      refine ⟨h0, ?_⟩
      obtain ⟨h0, h⟩ := h
      refine ⟨h0, ?_⟩
      obtain ⟨y13, h⟩ := h
      refine ⟨y13, ?_⟩
      obtain ⟨h0, h⟩ := h
      refine ⟨h0, ?_⟩
      obtain ⟨h0, h⟩ := h
      refine ⟨h0, ?_⟩
      exact hJ2 _ _ h
    · exact hJ2 _ _ h
  · exact h
theorem ref07_Key_i (a0 : (List T_ref06_Value)) (r0 : Str) (h : ref07_Key_oi a0 r0) : ref07_Key_o a0 r0 := by
  unfold ref07_Key_o
  unfold ref07_Key_oi at h
  intro X1 k
  exact h X1 (fun x1 x2 q => k x1 x2 (ref07_Key_L1_m a0 r0 q))
noncomputable def ref07_Key_sp : Sp KK := ⟨30, [.v 54], [9], appW (K := KK) [9] [.v 54] ref07_Key_o⟩
noncomputable def ref07_Key_an : An KK := (.s .o (.s .o (.s (.s .o (.b (.l ⟨[(0, .kp 8), (3, .row 59), (4, .it .i64)], [], [(59, 9)]⟩ (fun _ => (.s (.s .o (.c .o .o)) (.s (.b (.s .o (.j ⟨[(0, .kp 8), (3, .row 59), (4, .kp 14), (5, .st)], [], [(59, 9)]⟩ (.s .o (.c .o .o)) (fun _ => (.j ⟨[(0, .kp 8), (3, .row 59), (4, .kp 14), (5, .st)], [], [(59, 9)]⟩ (.s .o (.c .o .o)) (fun _ => .o)))))) .o)))))) (.s .o .o))))
noncomputable def ref07_Key_cf : Cf KK := ⟨CC, [ref04_Int_sp, ref04_Pack_sp], 62⟩

set_option maxRecDepth 100000 in
theorem ref07_Key_ok : SpOk Tryd.prog CC ref07_Key_sp := by
  intro env r hF h
  obtain ⟨a0, env0, rfl, h1⟩ := appW_v h
  obtain ⟨rfl, h2⟩ := appW_n h1
  obtain ⟨r0, rr0, rfl, h3⟩ := apR_v h2
  obtain ⟨rfl, h4⟩ := apR_n h3
  refine ⟨rfl, DnF_by (F := ref07_Key_cf) CC_ok (SsOk_c ref04_Int_ok (SsOk_c ref04_Pack_ok SsOk_n)) t30 (A := ref07_Key_an) (ps := [.v 54]) (rs := [9]) (env := [.d (.v 54 a0)]) (r := [.v 9 r0]) (X := ref07_Key_o a0 r0) rfl (Nat.le_of_ble_eq_true rfl) rfl hF h4 ?_⟩
  kernel_rfl

def ref06_Before_J2 (x1 : Int) (a0 : T_ref06_Value) (a1 : T_ref06_Value) (r0 : Bool) (X1 : Int → Prop) (x2 : Bool) : Prop :=
  cnd x2 ((0 ≤ x1 ∧ x1 < (a0.S.length : Int)) ∧ (0 ≤ x1 ∧ x1 < (a1.S.length : Int)) ∧ cnd (!((bAt a0.S x1) == (bAt a1.S x1))) ((0 ≤ x1 ∧ x1 < (a0.S.length : Int)) ∧ (0 ≤ x1 ∧ x1 < (a1.S.length : Int)) ∧ (decide ((bAt a0.S x1) < (bAt a1.S x1))) = r0) (X1 (IntKind.i64.wrap (x1 + (1 : Int))))) ((decide ((a0.S.length : Int) < (a1.S.length : Int))) = r0)
def ref06_Before_L1 (a0 : T_ref06_Value) (a1 : T_ref06_Value) (r0 : Bool) (X1 : Int → Prop) (x1 : Int) : Prop :=
  ∀ J2 : Bool → Prop, (∀ (x2 : Bool), ref06_Before_J2 x1 a0 a1 r0 X1 x2 → J2 x2) → cnd (decide (x1 < (a0.S.length : Int))) (J2 (decide (x1 < (a1.S.length : Int)))) (J2 false)
def ref06_Before_o (a0 : T_ref06_Value) (a1 : T_ref06_Value) (r0 : Bool) : Prop :=
  cnd (!(a0.Kind == a1.Kind)) ((decide (a0.Kind < a1.Kind)) = r0) (cnd (a0.Kind == (3 : Int)) (∀ X1 : Int → Prop, (∀ (x1 : Int), ref06_Before_L1 a0 a1 r0 X1 x1 → X1 x1) → X1 (0 : Int)) ((decide (a0.N < a1.N)) = r0))
def ref06_Before_J2i (X1 : Int → Prop) (a0 : T_ref06_Value) (a1 : T_ref06_Value) (r0 : Bool) (x1 : Int) (x2 : Bool) : Prop :=
  cnd x2 ((0 ≤ x1 ∧ x1 < (a0.S.length : Int)) ∧ (0 ≤ x1 ∧ x1 < (a1.S.length : Int)) ∧ cnd (!((bAt a0.S x1) == (bAt a1.S x1))) ((0 ≤ x1 ∧ x1 < (a0.S.length : Int)) ∧ (0 ≤ x1 ∧ x1 < (a1.S.length : Int)) ∧ (decide ((bAt a0.S x1) < (bAt a1.S x1))) = r0) (X1 (IntKind.i64.wrap (x1 + (1 : Int))))) ((decide ((a0.S.length : Int) < (a1.S.length : Int))) = r0)
def ref06_Before_L1i (a0 : T_ref06_Value) (a1 : T_ref06_Value) (r0 : Bool) (X1 : Int → Prop) (x1 : Int) : Prop :=
  cnd (decide (x1 < (a0.S.length : Int))) (ref06_Before_J2i X1 a0 a1 r0 x1 (decide (x1 < (a1.S.length : Int)))) (ref06_Before_J2i X1 a0 a1 r0 x1 false)
def ref06_Before_oi (a0 : T_ref06_Value) (a1 : T_ref06_Value) (r0 : Bool) : Prop :=
  cnd (!(a0.Kind == a1.Kind)) ((decide (a0.Kind < a1.Kind)) = r0) (cnd (a0.Kind == (3 : Int)) (∀ X1 : Int → Prop, (∀ (x1 : Int), ref06_Before_L1i a0 a1 r0 X1 x1 → X1 x1) → X1 (0 : Int)) ((decide (a0.N < a1.N)) = r0))
theorem ref06_Before_J2_m (X1 : Int → Prop) (a0 : T_ref06_Value) (a1 : T_ref06_Value) (r0 : Bool) (x1 : Int) {x2 : Bool} (h : ref06_Before_J2i X1 a0 a1 r0 x1 x2) : ref06_Before_J2 x1 a0 a1 r0 X1 x2 := by
  unfold ref06_Before_J2
  unfold ref06_Before_J2i at h
  exact h
theorem ref06_Before_L1_m (a0 : T_ref06_Value) (a1 : T_ref06_Value) (r0 : Bool) {X1 : Int → Prop} {x1 : Int} (h : ref06_Before_L1i a0 a1 r0 X1 x1) : ref06_Before_L1 a0 a1 r0 X1 x1 := by
  unfold ref06_Before_L1
  unfold ref06_Before_L1i at h
  intro J2 kJ2
  have hJ2 : ∀ (x2 : Bool), ref06_Before_J2i X1 a0 a1 r0 x1 x2 → J2 x2 := fun x2 q => kJ2 x2 (ref06_Before_J2_m X1 a0 a1 r0 x1 q)
  refine cnd_mono h (fun h => ?_) (fun h => ?_)
  · exact hJ2 _ h
  · exact hJ2 _ h
theorem ref06_Before_i (a0 : T_ref06_Value) (a1 : T_ref06_Value) (r0 : Bool) (h : ref06_Before_oi a0 a1 r0) : ref06_Before_o a0 a1 r0 := by
  unfold ref06_Before_o
  unfold ref06_Before_oi at h
  refine cnd_mono h (fun h => ?_) (fun h => ?_)
  · exact h
  · refine cnd_mono h (fun h => ?_) (fun h => ?_)
    · intro X1 k
      exact h X1 (fun x1 q => k x1 (ref06_Before_L1_m a0 a1 r0 q))
    · exact h
noncomputable def ref06_Before_sp : Sp KK := ⟨14, [.v 27, .v 27], [4], appW (K := KK) [4] [.v 27, .v 27] ref06_Before_o⟩
noncomputable def ref06_Before_an : An KK := (.s .o (.s (.s .o (.c (.s .o .o) .o)) (.s (.s .o (.c (.s (.s .o (.b (.l ⟨[(2, .px 2 0), (3, .px 3 0), (5, .it .i64)], [(2, 27, [.kp 35, .kp 36, .kp 37]), (3, 27, [.kp 38, .kp 39, .kp 40])], []⟩ (fun _ => (.s (.j ⟨[(2, .px 2 0), (3, .px 3 0), (5, .kp 44), (30, .bl)], [(2, 27, [.kp 35, .kp 36, .kp 37]), (3, 27, [.kp 38, .kp 39, .kp 40])], []⟩ .o (fun _ => (.c .o .o))) (.s (.b (.s .o (.c (.s .o .o) .o))) .o)))))) (.s .o .o)) .o)) (.s .o .o))))
noncomputable def ref06_Before_cf : Cf KK := ⟨CC, [], 63⟩

set_option maxRecDepth 100000 in
theorem ref06_Before_ok : SpOk Tryd.prog CC ref06_Before_sp := by
  intro env r hF h
  obtain ⟨a0, env0, rfl, h1⟩ := appW_v h
  obtain ⟨a1, env1, rfl, h2⟩ := appW_v h1
  obtain ⟨rfl, h3⟩ := appW_n h2
  obtain ⟨r0, rr0, rfl, h4⟩ := apR_v h3
  obtain ⟨rfl, h5⟩ := apR_n h4
  refine ⟨rfl, DnF_by (F := ref06_Before_cf) CC_ok SsOk_n t14 (A := ref06_Before_an) (ps := [.v 27, .v 27]) (rs := [4]) (env := [.d (.v 27 a0), .d (.v 27 a1)]) (r := [.v 4 r0]) (X := ref06_Before_o a0 a1 r0) rfl (Nat.le_of_ble_eq_true rfl) rfl hF h5 ?_⟩
  kernel_rfl

def ref07_Before_J2 (x1 : Int) (a0 : (List T_ref06_Value)) (a1 : (List T_ref06_Value)) (r0 : Bool) (X1 : Int → Prop) (x2 : Bool) : Prop :=
  cnd x2 ((0 ≤ x1) ∧ (x1 < (a0.length : Int)) ∧ ∃ y3 : T_ref06_Value, (a0[x1.toNat]? = some y3) ∧ (0 ≤ x1) ∧ (x1 < (a1.length : Int)) ∧ ∃ y4 : T_ref06_Value, (a1[x1.toNat]? = some y4) ∧ cnd (!((y3.Kind == y4.Kind) && ((y3.N == y4.N) && ((y3.S == y4.S) && true)))) ((0 ≤ x1) ∧ (x1 < (a0.length : Int)) ∧ ∃ y5 : T_ref06_Value, (a0[x1.toNat]? = some y5) ∧ (0 ≤ x1) ∧ (x1 < (a1.length : Int)) ∧ ∃ y6 : T_ref06_Value, (a1[x1.toNat]? = some y6) ∧ ∃ z7 : Bool, (ref06_Before_o y5 y6 z7) ∧ z7 = r0) (X1 (IntKind.i64.wrap (x1 + (1 : Int))))) ((a0.length ≤ maxLen → (a1.length ≤ maxLen → (decide ((a0.length : Int) < (a1.length : Int))) = r0)))
def ref07_Before_L1 (a0 : (List T_ref06_Value)) (a1 : (List T_ref06_Value)) (r0 : Bool) (X1 : Int → Prop) (x1 : Int) : Prop :=
  ∀ J2 : Bool → Prop, (∀ (x2 : Bool), ref07_Before_J2 x1 a0 a1 r0 X1 x2 → J2 x2) → (a0.length ≤ maxLen → cnd (decide (x1 < (a0.length : Int))) ((a1.length ≤ maxLen → J2 (decide (x1 < (a1.length : Int))))) (J2 false))
def ref07_Before_o (a0 : (List T_ref06_Value)) (a1 : (List T_ref06_Value)) (r0 : Bool) : Prop :=
  ∀ X1 : Int → Prop, (∀ (x1 : Int), ref07_Before_L1 a0 a1 r0 X1 x1 → X1 x1) → X1 (0 : Int)
def ref07_Before_J2i (X1 : Int → Prop) (a0 : (List T_ref06_Value)) (a1 : (List T_ref06_Value)) (r0 : Bool) (x1 : Int) (x2 : Bool) : Prop :=
  cnd x2 ((0 ≤ x1) ∧ (x1 < (a0.length : Int)) ∧ ∃ y3 : T_ref06_Value, (a0[x1.toNat]? = some y3) ∧ (0 ≤ x1) ∧ (x1 < (a1.length : Int)) ∧ ∃ y4 : T_ref06_Value, (a1[x1.toNat]? = some y4) ∧ cnd (!((y3.Kind == y4.Kind) && ((y3.N == y4.N) && ((y3.S == y4.S) && true)))) ((0 ≤ x1) ∧ (x1 < (a0.length : Int)) ∧ ∃ y5 : T_ref06_Value, (a0[x1.toNat]? = some y5) ∧ (0 ≤ x1) ∧ (x1 < (a1.length : Int)) ∧ ∃ y6 : T_ref06_Value, (a1[x1.toNat]? = some y6) ∧ ∃ z7 : Bool, (ref06_Before_o y5 y6 z7) ∧ z7 = r0) (X1 (IntKind.i64.wrap (x1 + (1 : Int))))) ((a0.length ≤ maxLen → (a1.length ≤ maxLen → (decide ((a0.length : Int) < (a1.length : Int))) = r0)))
def ref07_Before_L1i (a0 : (List T_ref06_Value)) (a1 : (List T_ref06_Value)) (r0 : Bool) (X1 : Int → Prop) (x1 : Int) : Prop :=
  (a0.length ≤ maxLen → cnd (decide (x1 < (a0.length : Int))) ((a1.length ≤ maxLen → ref07_Before_J2i X1 a0 a1 r0 x1 (decide (x1 < (a1.length : Int))))) (ref07_Before_J2i X1 a0 a1 r0 x1 false))
def ref07_Before_oi (a0 : (List T_ref06_Value)) (a1 : (List T_ref06_Value)) (r0 : Bool) : Prop :=
  ∀ X1 : Int → Prop, (∀ (x1 : Int), ref07_Before_L1i a0 a1 r0 X1 x1 → X1 x1) → X1 (0 : Int)
theorem ref07_Before_J2_m (X1 : Int → Prop) (a0 : (List T_ref06_Value)) (a1 : (List T_ref06_Value)) (r0 : Bool) (x1 : Int) {x2 : Bool} (h : ref07_Before_J2i X1 a0 a1 r0 x1 x2) : ref07_Before_J2 x1 a0 a1 r0 X1 x2 := by
  unfold ref07_Before_J2
  unfold ref07_Before_J2i at h
  exact h
theorem ref07_Before_L1_m (a0 : (List T_ref06_Value)) (a1 : (List T_ref06_Value)) (r0 : Bool) {X1 : Int → Prop} {x1 : Int} (h : ref07_Before_L1i a0 a1 r0 X1 x1) : ref07_Before_L1 a0 a1 r0 X1 x1 := by
  unfold ref07_Before_L1
  unfold ref07_Before_L1i at h
  intro J2 kJ2
  have hJ2 : ∀ (x2 : Bool), ref07_Before_J2i X1 a0 a1 r0 x1 x2 → J2 x2 := fun x2 q => kJ2 x2 (ref07_Before_J2_m X1 a0 a1 r0 x1 q)
  intro c
  replace h := h c
  refine cnd_mono h (fun h => ?_) (fun h => ?_)
  · intro c
    replace h := h c
    exact hJ2 _ h
  · exact hJ2 _ h
theorem ref07_Before_i (a0 : (List T_ref06_Value)) (a1 : (List T_ref06_Value)) (r0 : Bool) (h : ref07_Before_oi a0 a1 r0) : ref07_Before_o a0 a1 r0 := by
  unfold ref07_Before_o
  unfold ref07_Before_oi at h
  intro X1 k
  exact h X1 (fun x1 q => k x1 (ref07_Before_L1_m a0 a1 r0 q))
noncomputable def ref07_Before_sp : Sp KK := ⟨37, [.v 54, .v 54], [4], appW (K := KK) [4] [.v 54, .v 54] ref07_Before_o⟩
noncomputable def ref07_Before_an : An KK := (.s .o (.s (.s .o (.b (.l ⟨[(0, .kp 8), (1, .kp 9), (5, .it .i64)], [], []⟩ (fun _ => (.s (.j ⟨[(0, .kp 8), (1, .kp 9), (5, .kp 14), (15, .bl)], [], []⟩ .o (fun _ => (.c .o .o))) (.s (.b (.s .o (.c (.s .o .o) .o))) .o)))))) (.s .o .o)))
noncomputable def ref07_Before_cf : Cf KK := ⟨CC, [ref06_Before_sp], 41⟩

set_option maxRecDepth 100000 in
theorem ref07_Before_ok : SpOk Tryd.prog CC ref07_Before_sp := by
  intro env r hF h
  obtain ⟨a0, env0, rfl, h1⟩ := appW_v h
  obtain ⟨a1, env1, rfl, h2⟩ := appW_v h1
  obtain ⟨rfl, h3⟩ := appW_n h2
  obtain ⟨r0, rr0, rfl, h4⟩ := apR_v h3
  obtain ⟨rfl, h5⟩ := apR_n h4
  refine ⟨rfl, DnF_by (F := ref07_Before_cf) CC_ok (SsOk_c ref06_Before_ok SsOk_n) t37 (A := ref07_Before_an) (ps := [.v 54, .v 54]) (rs := [4]) (env := [.d (.v 54 a0), .d (.v 54 a1)]) (r := [.v 4 r0]) (X := ref07_Before_o a0 a1 r0) rfl (Nat.le_of_ble_eq_true rfl) rfl hF h5 ?_⟩
  kernel_rfl

def ref07_Same_o (a0 : (List T_ref06_Value)) (a1 : (List T_ref06_Value)) (r0 : Bool) : Prop :=
  ∃ z1 : Bool, (ref07_Before_o a0 a1 z1) ∧ cnd (!z1) (∃ z2 : Bool, (ref07_Before_o a1 a0 z2) ∧ (!z2) = r0) (false = r0)
noncomputable def ref07_Same_sp : Sp KK := ⟨32, [.v 54, .v 54], [4], appW (K := KK) [4] [.v 54, .v 54] ref07_Same_o⟩
noncomputable def ref07_Same_an : An KK := (.s .o (.s .o .o))
noncomputable def ref07_Same_cf : Cf KK := ⟨CC, [ref07_Before_sp], 15⟩

set_option maxRecDepth 100000 in
theorem ref07_Same_ok : SpOk Tryd.prog CC ref07_Same_sp := by
  intro env r hF h
  obtain ⟨a0, env0, rfl, h1⟩ := appW_v h
  obtain ⟨a1, env1, rfl, h2⟩ := appW_v h1
  obtain ⟨rfl, h3⟩ := appW_n h2
  obtain ⟨r0, rr0, rfl, h4⟩ := apR_v h3
  obtain ⟨rfl, h5⟩ := apR_n h4
  refine ⟨rfl, DnF_by (F := ref07_Same_cf) CC_ok (SsOk_c ref07_Before_ok SsOk_n) t32 (A := ref07_Same_an) (ps := [.v 54, .v 54]) (rs := [4]) (env := [.d (.v 54 a0), .d (.v 54 a1)]) (r := [.v 4 r0]) (X := ref07_Same_o a0 a1 r0) rfl (Nat.le_of_ble_eq_true rfl) rfl hF h5 ?_⟩
  kernel_rfl

def law07_RowKeys_J1 (r0 : Bool) (x9 : Bool) : Prop :=
  x9 = r0
def law07_RowKeys_o (a0 : (List T_law07_Value)) (a1 : (List T_law07_Value)) (r0 : Bool) : Prop :=
  ∃ z1 : Bool, (law07_speaks_o z1) ∧ cnd (!z1) (false = r0) (∃ z2 : (List T_value_Value), ∃ z3 : (List T_ref06_Value), (law07_told_o a0 z2 z3) ∧ ∃ z4 : (List T_value_Value), ∃ z5 : (List T_ref06_Value), (law07_told_o a1 z4 z5) ∧ ∃ z6 : Str, (row_Key_o z2 z6) ∧ ∃ z7 : (List T_value_Value), ∃ z8 : Int, (row_Get_o z6 z7 z8) ∧ ∀ J1 : Bool → Prop, (∀ (x9 : Bool), law07_RowKeys_J1 r0 x9 → J1 x9) → ∃ z10 : Str, (ref07_Key_o z3 z10) ∧ cnd (z6 == z10) (cnd (z8 == (0 : Int)) (∃ z11 : Int, (row_Compare_o z7 z2 z11) ∧ cnd (z11 == (0 : Int)) ((z7.length ≤ maxLen → (z2.length ≤ maxLen → cnd ((z7.length : Int) == (z2.length : Int)) (∃ z12 : Str, (row_Key_o z4 z12) ∧ ∃ z13 : Bool, (ref07_Same_o z3 z5 z13) ∧ J1 ((z6 == z12) == z13)) (J1 false)))) (J1 false)) (J1 false)) (J1 false))
def law07_RowKeys_J1i (r0 : Bool) (x9 : Bool) : Prop :=
  x9 = r0
def law07_RowKeys_oi (a0 : (List T_law07_Value)) (a1 : (List T_law07_Value)) (r0 : Bool) : Prop :=
  ∃ z1 : Bool, (law07_speaks_o z1) ∧ cnd (!z1) (false = r0) (∃ z2 : (List T_value_Value), ∃ z3 : (List T_ref06_Value), (law07_told_o a0 z2 z3) ∧ ∃ z4 : (List T_value_Value), ∃ z5 : (List T_ref06_Value), (law07_told_o a1 z4 z5) ∧ ∃ z6 : Str, (row_Key_o z2 z6) ∧ ∃ z7 : (List T_value_Value), ∃ z8 : Int, (row_Get_o z6 z7 z8) ∧ ∃ z10 : Str, (ref07_Key_o z3 z10) ∧ cnd (z6 == z10) (cnd (z8 == (0 : Int)) (∃ z11 : Int, (row_Compare_o z7 z2 z11) ∧ cnd (z11 == (0 : Int)) ((z7.length ≤ maxLen → (z2.length ≤ maxLen → cnd ((z7.length : Int) == (z2.length : Int)) (∃ z12 : Str, (row_Key_o z4 z12) ∧ ∃ z13 : Bool, (ref07_Same_o z3 z5 z13) ∧ law07_RowKeys_J1i r0 ((z6 == z12) == z13)) (law07_RowKeys_J1i r0 false)))) (law07_RowKeys_J1i r0 false)) (law07_RowKeys_J1i r0 false)) (law07_RowKeys_J1i r0 false))
theorem law07_RowKeys_J1_m (r0 : Bool) {x9 : Bool} (h : law07_RowKeys_J1i r0 x9) : law07_RowKeys_J1 r0 x9 := by
  unfold law07_RowKeys_J1
  unfold law07_RowKeys_J1i at h
  exact h
theorem law07_RowKeys_i (a0 : (List T_law07_Value)) (a1 : (List T_law07_Value)) (r0 : Bool) (h : law07_RowKeys_oi a0 a1 r0) : law07_RowKeys_o a0 a1 r0 := by
  unfold law07_RowKeys_o
  unfold law07_RowKeys_oi at h
  obtain ⟨z1, h⟩ := h
  refine ⟨z1, ?_⟩
  obtain ⟨h0, h⟩ := h
  refine ⟨h0, ?_⟩
  refine cnd_mono h (fun h => ?_) (fun h => ?_)
  · exact h
  · obtain ⟨z2, h⟩ := h
    refine ⟨z2, ?_⟩
    obtain ⟨z3, h⟩ := h
    refine ⟨z3, ?_⟩
    obtain ⟨h0, h⟩ := h
    refine ⟨h0, ?_⟩
    obtain ⟨z4, h⟩ := h
    refine ⟨z4, ?_⟩
    obtain ⟨z5, h⟩ := h
    refine ⟨z5, ?_⟩
    obtain ⟨h0, h⟩ := h
    refine ⟨h0, ?_⟩
    obtain ⟨z6, h⟩ := h
    refine ⟨z6, ?_⟩
    obtain ⟨h0, h⟩ := h
    refine ⟨h0, ?_⟩
    obtain ⟨z7, h⟩ := h
    refine ⟨z7, ?_⟩
    obtain ⟨z8, h⟩ := h
    refine ⟨z8, ?_⟩
    obtain ⟨h0, h⟩ := h
    refine ⟨h0, ?_⟩
    intro J1 kJ1
    have hJ1 : ∀ (x9 : Bool), law07_RowKeys_J1i r0 x9 → J1 x9 := fun x9 q => kJ1 x9 (law07_RowKeys_J1_m r0 q)
    obtain ⟨z10, h⟩ := h
    refine ⟨z10, ?_⟩
    obtain ⟨h0, h⟩ := h
    refine ⟨h0, ?_⟩
    refine cnd_mono h (fun h => ?_) (fun h => ?_)
    · refine cnd_mono h (fun h => ?_) (fun h => ?_)
      · obtain ⟨z11, h⟩ := h
        refine ⟨z11, ?_⟩
        obtain ⟨h0, h⟩ := h
        refine ⟨h0, ?_⟩
        refine cnd_mono h (fun h => ?_) (fun h => ?_)
        · intro c
          replace h := h c
          intro c
          replace h := h c
          refine cnd_mono h (fun h => ?_) (fun h => ?_)
          · obtain ⟨z12, h⟩ := h
            refine ⟨z12, ?_⟩
            obtain ⟨h0, h⟩ := h
            refine ⟨h0, ?_⟩
            obtain ⟨z13, h⟩ := h
            refine ⟨z13, ?_⟩
            obtain ⟨h0, h⟩ := h
            refine ⟨h0, ?_⟩
            exact hJ1 _ h
          · exact hJ1 _ h
        · exact hJ1 _ h
      · exact hJ1 _ h
    · exact hJ1 _ h
noncomputable def law07_RowKeys_sp : Sp KK := ⟨7, [.v 50, .v 50], [4], appW (K := KK) [4] [.v 50, .v 50] law07_RowKeys_o⟩
noncomputable def law07_RowKeys_an : An KK := (.s .o (.s (.s .o (.c (.s .o .o) .o)) (.s .o (.s .o (.s .o (.s .o (.j ⟨[(4, .bl)], [], []⟩ .o (fun _ => .o))))))))
noncomputable def law07_RowKeys_cf : Cf KK := ⟨CC, [law07_speaks_sp, law07_told_sp, row_Key_sp, row_Get_sp, ref07_Key_sp, row_Compare_sp, ref07_Same_sp], 62⟩

set_option maxRecDepth 100000 in
theorem law07_RowKeys_ok : SpOk Tryd.prog CC law07_RowKeys_sp := by
  intro env r hF h
  obtain ⟨a0, env0, rfl, h1⟩ := appW_v h
  obtain ⟨a1, env1, rfl, h2⟩ := appW_v h1
  obtain ⟨rfl, h3⟩ := appW_n h2
  obtain ⟨r0, rr0, rfl, h4⟩ := apR_v h3
  obtain ⟨rfl, h5⟩ := apR_n h4
  refine ⟨rfl, DnF_by (F := law07_RowKeys_cf) CC_ok (SsOk_c law07_speaks_ok (SsOk_c law07_told_ok (SsOk_c row_Key_ok (SsOk_c row_Get_ok (SsOk_c ref07_Key_ok (SsOk_c row_Compare_ok (SsOk_c ref07_Same_ok SsOk_n))))))) t7 (A := law07_RowKeys_an) (ps := [.v 50, .v 50]) (rs := [4]) (env := [.d (.v 50 a0), .d (.v 50 a1)]) (r := [.v 4 r0]) (X := law07_RowKeys_o a0 a1 r0) rfl (Nat.le_of_ble_eq_true rfl) rfl hF h5 ?_⟩
  kernel_rfl

def ref04_Split_L1 (r0 : (List Str)) (r1 : Bool) (X1 : Str → (List Str) → Prop) (x1 : Str) (x2 : (List Str)) : Prop :=
  cnd (decide ((4 : Int) ≤ (x1.length : Int))) ((0 ≤ (0 : Int) ∧ (0 : Int) < (x1.length : Int)) ∧ (0 ≤ (1 : Int) ∧ (1 : Int) < (x1.length : Int)) ∧ (0 ≤ (2 : Int) ∧ (2 : Int) < (x1.length : Int)) ∧ (0 ≤ (3 : Int) ∧ (3 : Int) < (x1.length : Int)) ∧ cnd (decide ((IntKind.u64.wrap (IntKind.i64.wrap ((x1.length : Int) - (4 : Int)))) < (IntKind.u64.wrap ((IntKind.u64.wrap ((IntKind.u64.wrap ((IntKind.u64.wrap ((IntKind.u64.wrap (bAt x1 (0 : Int))) * (16777216 : Int))) + (IntKind.u64.wrap ((IntKind.u64.wrap (bAt x1 (1 : Int))) * (65536 : Int))))) + (IntKind.u64.wrap ((IntKind.u64.wrap (bAt x1 (2 : Int))) * (256 : Int))))) + (IntKind.u64.wrap (bAt x1 (3 : Int))))))) (x2 = r0 ∧ false = r1) ((0 ≤ (4 : Int) ∧ (4 : Int) ≤ (IntKind.i64.wrap ((4 : Int) + (IntKind.i64.wrap (IntKind.u64.wrap ((IntKind.u64.wrap ((IntKind.u64.wrap ((IntKind.u64.wrap ((IntKind.u64.wrap (bAt x1 (0 : Int))) * (16777216 : Int))) + (IntKind.u64.wrap ((IntKind.u64.wrap (bAt x1 (1 : Int))) * (65536 : Int))))) + (IntKind.u64.wrap ((IntKind.u64.wrap (bAt x1 (2 : Int))) * (256 : Int))))) + (IntKind.u64.wrap (bAt x1 (3 : Int)))))))) ∧ (IntKind.i64.wrap ((4 : Int) + (IntKind.i64.wrap (IntKind.u64.wrap ((IntKind.u64.wrap ((IntKind.u64.wrap ((IntKind.u64.wrap ((IntKind.u64.wrap (bAt x1 (0 : Int))) * (16777216 : Int))) + (IntKind.u64.wrap ((IntKind.u64.wrap (bAt x1 (1 : Int))) * (65536 : Int))))) + (IntKind.u64.wrap ((IntKind.u64.wrap (bAt x1 (2 : Int))) * (256 : Int))))) + (IntKind.u64.wrap (bAt x1 (3 : Int)))))))) ≤ (x1.length : Int)) ∧ (x2.length ≤ 1000000000) ∧ (0 ≤ (IntKind.i64.wrap ((4 : Int) + (IntKind.i64.wrap (IntKind.u64.wrap ((IntKind.u64.wrap ((IntKind.u64.wrap ((IntKind.u64.wrap ((IntKind.u64.wrap (bAt x1 (0 : Int))) * (16777216 : Int))) + (IntKind.u64.wrap ((IntKind.u64.wrap (bAt x1 (1 : Int))) * (65536 : Int))))) + (IntKind.u64.wrap ((IntKind.u64.wrap (bAt x1 (2 : Int))) * (256 : Int))))) + (IntKind.u64.wrap (bAt x1 (3 : Int)))))))) ∧ (IntKind.i64.wrap ((4 : Int) + (IntKind.i64.wrap (IntKind.u64.wrap ((IntKind.u64.wrap ((IntKind.u64.wrap ((IntKind.u64.wrap ((IntKind.u64.wrap (bAt x1 (0 : Int))) * (16777216 : Int))) + (IntKind.u64.wrap ((IntKind.u64.wrap (bAt x1 (1 : Int))) * (65536 : Int))))) + (IntKind.u64.wrap ((IntKind.u64.wrap (bAt x1 (2 : Int))) * (256 : Int))))) + (IntKind.u64.wrap (bAt x1 (3 : Int)))))))) ≤ (x1.length : Int) ∧ (x1.length : Int) ≤ (x1.length : Int)) ∧ X1 ((x1.drop (IntKind.i64.wrap ((4 : Int) + (IntKind.i64.wrap (IntKind.u64.wrap ((IntKind.u64.wrap ((IntKind.u64.wrap ((IntKind.u64.wrap ((IntKind.u64.wrap (bAt x1 (0 : Int))) * (16777216 : Int))) + (IntKind.u64.wrap ((IntKind.u64.wrap (bAt x1 (1 : Int))) * (65536 : Int))))) + (IntKind.u64.wrap ((IntKind.u64.wrap (bAt x1 (2 : Int))) * (256 : Int))))) + (IntKind.u64.wrap (bAt x1 (3 : Int)))))))).toNat).take ((x1.length : Int).toNat - (IntKind.i64.wrap ((4 : Int) + (IntKind.i64.wrap (IntKind.u64.wrap ((IntKind.u64.wrap ((IntKind.u64.wrap ((IntKind.u64.wrap ((IntKind.u64.wrap (bAt x1 (0 : Int))) * (16777216 : Int))) + (IntKind.u64.wrap ((IntKind.u64.wrap (bAt x1 (1 : Int))) * (65536 : Int))))) + (IntKind.u64.wrap ((IntKind.u64.wrap (bAt x1 (2 : Int))) * (256 : Int))))) + (IntKind.u64.wrap (bAt x1 (3 : Int)))))))).toNat)) (x2 ++ ([(x1.drop (4 : Int).toNat).take ((IntKind.i64.wrap ((4 : Int) + (IntKind.i64.wrap (IntKind.u64.wrap ((IntKind.u64.wrap ((IntKind.u64.wrap ((IntKind.u64.wrap ((IntKind.u64.wrap (bAt x1 (0 : Int))) * (16777216 : Int))) + (IntKind.u64.wrap ((IntKind.u64.wrap (bAt x1 (1 : Int))) * (65536 : Int))))) + (IntKind.u64.wrap ((IntKind.u64.wrap (bAt x1 (2 : Int))) * (256 : Int))))) + (IntKind.u64.wrap (bAt x1 (3 : Int)))))))).toNat - (4 : Int).toNat)] : List Str)))) (x2 = r0 ∧ (x1 == ([] : Str)) = r1)
def ref04_Split_o (a0 : Str) (r0 : (List Str)) (r1 : Bool) : Prop :=
  ∀ X1 : Str → (List Str) → Prop, (∀ (x1 : Str) (x2 : (List Str)), ref04_Split_L1 r0 r1 X1 x1 x2 → X1 x1 x2) → X1 a0 ([] : List Str)
def ref04_Split_L1i (r0 : (List Str)) (r1 : Bool) (X1 : Str → (List Str) → Prop) (x1 : Str) (x2 : (List Str)) : Prop :=
  cnd (decide ((4 : Int) ≤ (x1.length : Int))) ((0 ≤ (0 : Int) ∧ (0 : Int) < (x1.length : Int)) ∧ (0 ≤ (1 : Int) ∧ (1 : Int) < (x1.length : Int)) ∧ (0 ≤ (2 : Int) ∧ (2 : Int) < (x1.length : Int)) ∧ (0 ≤ (3 : Int) ∧ (3 : Int) < (x1.length : Int)) ∧ cnd (decide ((IntKind.u64.wrap (IntKind.i64.wrap ((x1.length : Int) - (4 : Int)))) < (IntKind.u64.wrap ((IntKind.u64.wrap ((IntKind.u64.wrap ((IntKind.u64.wrap ((IntKind.u64.wrap (bAt x1 (0 : Int))) * (16777216 : Int))) + (IntKind.u64.wrap ((IntKind.u64.wrap (bAt x1 (1 : Int))) * (65536 : Int))))) + (IntKind.u64.wrap ((IntKind.u64.wrap (bAt x1 (2 : Int))) * (256 : Int))))) + (IntKind.u64.wrap (bAt x1 (3 : Int))))))) (x2 = r0 ∧ false = r1) ((0 ≤ (4 : Int) ∧ (4 : Int) ≤ (IntKind.i64.wrap ((4 : Int) + (IntKind.i64.wrap (IntKind.u64.wrap ((IntKind.u64.wrap ((IntKind.u64.wrap ((IntKind.u64.wrap ((IntKind.u64.wrap (bAt x1 (0 : Int))) * (16777216 : Int))) + (IntKind.u64.wrap ((IntKind.u64.wrap (bAt x1 (1 : Int))) * (65536 : Int))))) + (IntKind.u64.wrap ((IntKind.u64.wrap (bAt x1 (2 : Int))) * (256 : Int))))) + (IntKind.u64.wrap (bAt x1 (3 : Int)))))))) ∧ (IntKind.i64.wrap ((4 : Int) + (IntKind.i64.wrap (IntKind.u64.wrap ((IntKind.u64.wrap ((IntKind.u64.wrap ((IntKind.u64.wrap ((IntKind.u64.wrap (bAt x1 (0 : Int))) * (16777216 : Int))) + (IntKind.u64.wrap ((IntKind.u64.wrap (bAt x1 (1 : Int))) * (65536 : Int))))) + (IntKind.u64.wrap ((IntKind.u64.wrap (bAt x1 (2 : Int))) * (256 : Int))))) + (IntKind.u64.wrap (bAt x1 (3 : Int)))))))) ≤ (x1.length : Int)) ∧ (x2.length ≤ 1000000000) ∧ (0 ≤ (IntKind.i64.wrap ((4 : Int) + (IntKind.i64.wrap (IntKind.u64.wrap ((IntKind.u64.wrap ((IntKind.u64.wrap ((IntKind.u64.wrap ((IntKind.u64.wrap (bAt x1 (0 : Int))) * (16777216 : Int))) + (IntKind.u64.wrap ((IntKind.u64.wrap (bAt x1 (1 : Int))) * (65536 : Int))))) + (IntKind.u64.wrap ((IntKind.u64.wrap (bAt x1 (2 : Int))) * (256 : Int))))) + (IntKind.u64.wrap (bAt x1 (3 : Int)))))))) ∧ (IntKind.i64.wrap ((4 : Int) + (IntKind.i64.wrap (IntKind.u64.wrap ((IntKind.u64.wrap ((IntKind.u64.wrap ((IntKind.u64.wrap ((IntKind.u64.wrap (bAt x1 (0 : Int))) * (16777216 : Int))) + (IntKind.u64.wrap ((IntKind.u64.wrap (bAt x1 (1 : Int))) * (65536 : Int))))) + (IntKind.u64.wrap ((IntKind.u64.wrap (bAt x1 (2 : Int))) * (256 : Int))))) + (IntKind.u64.wrap (bAt x1 (3 : Int)))))))) ≤ (x1.length : Int) ∧ (x1.length : Int) ≤ (x1.length : Int)) ∧ X1 ((x1.drop (IntKind.i64.wrap ((4 : Int) + (IntKind.i64.wrap (IntKind.u64.wrap ((IntKind.u64.wrap ((IntKind.u64.wrap ((IntKind.u64.wrap ((IntKind.u64.wrap (bAt x1 (0 : Int))) * (16777216 : Int))) + (IntKind.u64.wrap ((IntKind.u64.wrap (bAt x1 (1 : Int))) * (65536 : Int))))) + (IntKind.u64.wrap ((IntKind.u64.wrap (bAt x1 (2 : Int))) * (256 : Int))))) + (IntKind.u64.wrap (bAt x1 (3 : Int)))))))).toNat).take ((x1.length : Int).toNat - (IntKind.i64.wrap ((4 : Int) + (IntKind.i64.wrap (IntKind.u64.wrap ((IntKind.u64.wrap ((IntKind.u64.wrap ((IntKind.u64.wrap ((IntKind.u64.wrap (bAt x1 (0 : Int))) * (16777216 : Int))) + (IntKind.u64.wrap ((IntKind.u64.wrap (bAt x1 (1 : Int))) * (65536 : Int))))) + (IntKind.u64.wrap ((IntKind.u64.wrap (bAt x1 (2 : Int))) * (256 : Int))))) + (IntKind.u64.wrap (bAt x1 (3 : Int)))))))).toNat)) (x2 ++ ([(x1.drop (4 : Int).toNat).take ((IntKind.i64.wrap ((4 : Int) + (IntKind.i64.wrap (IntKind.u64.wrap ((IntKind.u64.wrap ((IntKind.u64.wrap ((IntKind.u64.wrap ((IntKind.u64.wrap (bAt x1 (0 : Int))) * (16777216 : Int))) + (IntKind.u64.wrap ((IntKind.u64.wrap (bAt x1 (1 : Int))) * (65536 : Int))))) + (IntKind.u64.wrap ((IntKind.u64.wrap (bAt x1 (2 : Int))) * (256 : Int))))) + (IntKind.u64.wrap (bAt x1 (3 : Int)))))))).toNat - (4 : Int).toNat)] : List Str)))) (x2 = r0 ∧ (x1 == ([] : Str)) = r1)
def ref04_Split_oi (a0 : Str) (r0 : (List Str)) (r1 : Bool) : Prop :=
  ∀ X1 : Str → (List Str) → Prop, (∀ (x1 : Str) (x2 : (List Str)), ref04_Split_L1i r0 r1 X1 x1 x2 → X1 x1 x2) → X1 a0 ([] : List Str)
theorem ref04_Split_L1_m (r0 : (List Str)) (r1 : Bool) {X1 : Str → (List Str) → Prop} {x1 : Str} {x2 : (List Str)} (h : ref04_Split_L1i r0 r1 X1 x1 x2) : ref04_Split_L1 r0 r1 X1 x1 x2 := by
  unfold ref04_Split_L1
  unfold ref04_Split_L1i at h
  exact h
theorem ref04_Split_i (a0 : Str) (r0 : (List Str)) (r1 : Bool) (h : ref04_Split_oi a0 r0 r1) : ref04_Split_o a0 r0 r1 := by
  unfold ref04_Split_o
  unfold ref04_Split_oi at h
  intro X1 k
  exact h X1 (fun x1 x2 q => k x1 x2 (ref04_Split_L1_m r0 r1 q))
noncomputable def ref04_Split_sp : Sp KK := ⟨34, [.v 9], [64, 4], appW (K := KK) [64, 4] [.v 9] ref04_Split_o⟩
noncomputable def ref04_Split_an : An KK := (.s .o (.s .o (.s (.b (.l ⟨[(0, .st), (4, .row 41)], [], [(41, 9)]⟩ (fun _ => (.s (.s .o (.c .o .o)) (.b (.s .o (.s (.s .o (.c (.s .o .o) .o)) (.s .o .o)))))))) (.s .o .o))))
noncomputable def ref04_Split_cf : Cf KK := ⟨CC, [], 50⟩

set_option maxRecDepth 100000 in
theorem ref04_Split_ok : SpOk Tryd.prog CC ref04_Split_sp := by
  intro env r hF h
  obtain ⟨a0, env0, rfl, h1⟩ := appW_v h
  obtain ⟨rfl, h2⟩ := appW_n h1
  obtain ⟨r0, rr0, rfl, h3⟩ := apR_v h2
  obtain ⟨r1, rr1, rfl, h4⟩ := apR_v h3
  obtain ⟨rfl, h5⟩ := apR_n h4
  refine ⟨rfl, DnF_by (F := ref04_Split_cf) CC_ok SsOk_n t34 (A := ref04_Split_an) (ps := [.v 9]) (rs := [64, 4]) (env := [.d (.v 9 a0)]) (r := [.v 64 r0, .v 4 r1]) (X := ref04_Split_o a0 r0 r1) rfl (Nat.le_of_ble_eq_true rfl) rfl hF h5 ?_⟩
  kernel_rfl

def law07_RowReads_J4 (x13 : Bool) (X3 : Bool → Int → Prop) (x14 : Int) (x16 : Bool) : Prop :=
  cnd x13 (X3 x16 (IntKind.i64.wrap (x14 + (1 : Int)))) (X3 false (IntKind.i64.wrap (x14 + (1 : Int))))
def law07_RowReads_L3 (z11 : (List Str)) (z10 : Int) (z9 : (List T_value_Value)) (r0 : Bool) (z8 : Str) (a1 : Str) (X3 : Bool → Int → Prop) (x13 : Bool) (x14 : Int) : Prop :=
  (z11.length ≤ maxLen → cnd (decide (x14 < (z11.length : Int))) ((0 ≤ x14) ∧ (x14 < (z11.length : Int)) ∧ ∃ y15 : Str, (z11[x14.toNat]? = some y15) ∧ ∀ J4 : Bool → Prop, (∀ (x16 : Bool), law07_RowReads_J4 x13 X3 x14 x16 → J4 x16) → cnd (decide ((0 : Int) < (y15.length : Int))) ((0 ≤ (0 : Int) ∧ (0 : Int) < (y15.length : Int)) ∧ cnd ((bAt y15 (0 : Int)) == (0 : Int)) (cnd ((y15.length : Int) == (1 : Int)) (J4 true) ((0 ≤ (0 : Int) ∧ (0 : Int) < (y15.length : Int)) ∧ cnd ((bAt y15 (0 : Int)) == (1 : Int)) (cnd ((y15.length : Int) == (2 : Int)) ((0 ≤ (1 : Int) ∧ (1 : Int) < (y15.length : Int)) ∧ cnd (decide ((bAt y15 (1 : Int)) < (2 : Int))) (J4 true) ((0 ≤ (0 : Int) ∧ (0 : Int) < (y15.length : Int)) ∧ cnd ((bAt y15 (0 : Int)) == (2 : Int)) (cnd ((y15.length : Int) == (9 : Int)) (J4 true) ((0 ≤ (0 : Int) ∧ (0 : Int) < (y15.length : Int)) ∧ cnd ((bAt y15 (0 : Int)) == (3 : Int)) (J4 (decide ((y15.length : Int) ≤ (65 : Int)))) (J4 false))) ((0 ≤ (0 : Int) ∧ (0 : Int) < (y15.length : Int)) ∧ cnd ((bAt y15 (0 : Int)) == (3 : Int)) (J4 (decide ((y15.length : Int) ≤ (65 : Int)))) (J4 false)))) ((0 ≤ (0 : Int) ∧ (0 : Int) < (y15.length : Int)) ∧ cnd ((bAt y15 (0 : Int)) == (2 : Int)) (cnd ((y15.length : Int) == (9 : Int)) (J4 true) ((0 ≤ (0 : Int) ∧ (0 : Int) < (y15.length : Int)) ∧ cnd ((bAt y15 (0 : Int)) == (3 : Int)) (J4 (decide ((y15.length : Int) ≤ (65 : Int)))) (J4 false))) ((0 ≤ (0 : Int) ∧ (0 : Int) < (y15.length : Int)) ∧ cnd ((bAt y15 (0 : Int)) == (3 : Int)) (J4 (decide ((y15.length : Int) ≤ (65 : Int)))) (J4 false)))) ((0 ≤ (0 : Int) ∧ (0 : Int) < (y15.length : Int)) ∧ cnd ((bAt y15 (0 : Int)) == (2 : Int)) (cnd ((y15.length : Int) == (9 : Int)) (J4 true) ((0 ≤ (0 : Int) ∧ (0 : Int) < (y15.length : Int)) ∧ cnd ((bAt y15 (0 : Int)) == (3 : Int)) (J4 (decide ((y15.length : Int) ≤ (65 : Int)))) (J4 false))) ((0 ≤ (0 : Int) ∧ (0 : Int) < (y15.length : Int)) ∧ cnd ((bAt y15 (0 : Int)) == (3 : Int)) (J4 (decide ((y15.length : Int) ≤ (65 : Int)))) (J4 false))))) ((0 ≤ (0 : Int) ∧ (0 : Int) < (y15.length : Int)) ∧ cnd ((bAt y15 (0 : Int)) == (1 : Int)) (cnd ((y15.length : Int) == (2 : Int)) ((0 ≤ (1 : Int) ∧ (1 : Int) < (y15.length : Int)) ∧ cnd (decide ((bAt y15 (1 : Int)) < (2 : Int))) (J4 true) ((0 ≤ (0 : Int) ∧ (0 : Int) < (y15.length : Int)) ∧ cnd ((bAt y15 (0 : Int)) == (2 : Int)) (cnd ((y15.length : Int) == (9 : Int)) (J4 true) ((0 ≤ (0 : Int) ∧ (0 : Int) < (y15.length : Int)) ∧ cnd ((bAt y15 (0 : Int)) == (3 : Int)) (J4 (decide ((y15.length : Int) ≤ (65 : Int)))) (J4 false))) ((0 ≤ (0 : Int) ∧ (0 : Int) < (y15.length : Int)) ∧ cnd ((bAt y15 (0 : Int)) == (3 : Int)) (J4 (decide ((y15.length : Int) ≤ (65 : Int)))) (J4 false)))) ((0 ≤ (0 : Int) ∧ (0 : Int) < (y15.length : Int)) ∧ cnd ((bAt y15 (0 : Int)) == (2 : Int)) (cnd ((y15.length : Int) == (9 : Int)) (J4 true) ((0 ≤ (0 : Int) ∧ (0 : Int) < (y15.length : Int)) ∧ cnd ((bAt y15 (0 : Int)) == (3 : Int)) (J4 (decide ((y15.length : Int) ≤ (65 : Int)))) (J4 false))) ((0 ≤ (0 : Int) ∧ (0 : Int) < (y15.length : Int)) ∧ cnd ((bAt y15 (0 : Int)) == (3 : Int)) (J4 (decide ((y15.length : Int) ≤ (65 : Int)))) (J4 false)))) ((0 ≤ (0 : Int) ∧ (0 : Int) < (y15.length : Int)) ∧ cnd ((bAt y15 (0 : Int)) == (2 : Int)) (cnd ((y15.length : Int) == (9 : Int)) (J4 true) ((0 ≤ (0 : Int) ∧ (0 : Int) < (y15.length : Int)) ∧ cnd ((bAt y15 (0 : Int)) == (3 : Int)) (J4 (decide ((y15.length : Int) ≤ (65 : Int)))) (J4 false))) ((0 ≤ (0 : Int) ∧ (0 : Int) < (y15.length : Int)) ∧ cnd ((bAt y15 (0 : Int)) == (3 : Int)) (J4 (decide ((y15.length : Int) ≤ (65 : Int)))) (J4 false))))) (J4 false)) (cnd (!x13) (cnd (z10 == (4 : Int)) ((z9.length ≤ maxLen → ((z9.length : Int) == (0 : Int)) = r0)) (false = r0)) (cnd (z10 == (0 : Int)) ((z9.length ≤ maxLen → (z11.length ≤ maxLen → cnd ((z9.length : Int) == (z11.length : Int)) (∃ z17 : Str, (row_Key_o z9 z17) ∧ (z17 == (z8 ++ ((a1.drop (0 : Int).toNat).take ((if (20 : Int) < (a1.length : Int) then (20 : Int) else (a1.length : Int)).toNat - (0 : Int).toNat)))) = r0) (false = r0)))) (false = r0))))
def law07_RowReads_J2 (x2 : Int) (a0 : (List Str)) (X1 : Int → (List Str) → Prop) (a1 : Str) (r0 : Bool) (x4 : Bool) (x5 : (List Str)) : Prop :=
  cnd x4 ((0 ≤ x2) ∧ (x2 < (a0.length : Int)) ∧ ∃ y6 : Str, (a0[x2.toNat]? = some y6) ∧ (0 ≤ x2) ∧ (x2 < (a0.length : Int)) ∧ ∃ y7 : Str, (a0[x2.toNat]? = some y7) ∧ (0 ≤ (0 : Int) ∧ (0 : Int) ≤ (if (80 : Int) < (y7.length : Int) then (80 : Int) else (y7.length : Int)) ∧ (if (80 : Int) < (y7.length : Int) then (80 : Int) else (y7.length : Int)) ≤ (y6.length : Int)) ∧ (x5.length ≤ 1000000000) ∧ X1 (IntKind.i64.wrap (x2 + (1 : Int))) (x5 ++ ([(y6.drop (0 : Int).toNat).take ((if (80 : Int) < (y7.length : Int) then (80 : Int) else (y7.length : Int)).toNat - (0 : Int).toNat)] : List Str))) (∃ z8 : Str, (pack_Pack_o x5 z8) ∧ (0 ≤ (0 : Int) ∧ (0 : Int) ≤ (if (20 : Int) < (a1.length : Int) then (20 : Int) else (a1.length : Int)) ∧ (if (20 : Int) < (a1.length : Int) then (20 : Int) else (a1.length : Int)) ≤ (a1.length : Int)) ∧ (z8.length + ((a1.drop (0 : Int).toNat).take ((if (20 : Int) < (a1.length : Int) then (20 : Int) else (a1.length : Int)).toNat - (0 : Int).toNat)).length ≤ 9223372036854775807) ∧ ∃ z9 : (List T_value_Value), ∃ z10 : Int, (row_Get_o (z8 ++ ((a1.drop (0 : Int).toNat).take ((if (20 : Int) < (a1.length : Int) then (20 : Int) else (a1.length : Int)).toNat - (0 : Int).toNat))) z9 z10) ∧ ∃ z11 : (List Str), ∃ z12 : Bool, (ref04_Split_o (z8 ++ ((a1.drop (0 : Int).toNat).take ((if (20 : Int) < (a1.length : Int) then (20 : Int) else (a1.length : Int)).toNat - (0 : Int).toNat))) z11 z12) ∧ cnd (!z12) (cnd (z10 == (2 : Int)) ((z9.length ≤ maxLen → ((z9.length : Int) == (0 : Int)) = r0)) (false = r0)) (∀ X3 : Bool → Int → Prop, (∀ (x13 : Bool) (x14 : Int), law07_RowReads_L3 z11 z10 z9 r0 z8 a1 X3 x13 x14 → X3 x13 x14) → X3 true (0 : Int)))
def law07_RowReads_L1 (a0 : (List Str)) (a1 : Str) (r0 : Bool) (X1 : Int → (List Str) → Prop) (x2 : Int) (x3 : (List Str)) : Prop :=
  ∀ J2 : Bool → (List Str) → Prop, (∀ (x4 : Bool) (x5 : (List Str)), law07_RowReads_J2 x2 a0 X1 a1 r0 x4 x5 → J2 x4 x5) → (a0.length ≤ maxLen → cnd (decide (x2 < (a0.length : Int))) (J2 (decide (x2 < (9 : Int))) x3) (J2 false x3))
def law07_RowReads_o (a0 : (List Str)) (a1 : Str) (r0 : Bool) : Prop :=
  ∃ z1 : Bool, (law07_speaks_o z1) ∧ cnd (!z1) (false = r0) (∀ X1 : Int → (List Str) → Prop, (∀ (x2 : Int) (x3 : (List Str)), law07_RowReads_L1 a0 a1 r0 X1 x2 x3 → X1 x2 x3) → X1 (0 : Int) ([] : List Str))
def law07_RowReads_J4i (X3 : Bool → Int → Prop) (x13 : Bool) (x14 : Int) (x16 : Bool) : Prop :=
  cnd x13 (X3 x16 (IntKind.i64.wrap (x14 + (1 : Int)))) (X3 false (IntKind.i64.wrap (x14 + (1 : Int))))
def law07_RowReads_L3i (a1 : Str) (r0 : Bool) (z8 : Str) (z9 : (List T_value_Value)) (z10 : Int) (z11 : (List Str)) (X3 : Bool → Int → Prop) (x13 : Bool) (x14 : Int) : Prop :=
  (z11.length ≤ maxLen → cnd (decide (x14 < (z11.length : Int))) ((0 ≤ x14) ∧ (x14 < (z11.length : Int)) ∧ ∃ y15 : Str, (z11[x14.toNat]? = some y15) ∧ cnd (decide ((0 : Int) < (y15.length : Int))) ((0 ≤ (0 : Int) ∧ (0 : Int) < (y15.length : Int)) ∧ cnd ((bAt y15 (0 : Int)) == (0 : Int)) (cnd ((y15.length : Int) == (1 : Int)) (law07_RowReads_J4i X3 x13 x14 true) ((0 ≤ (0 : Int) ∧ (0 : Int) < (y15.length : Int)) ∧ cnd ((bAt y15 (0 : Int)) == (1 : Int)) (cnd ((y15.length : Int) == (2 : Int)) ((0 ≤ (1 : Int) ∧ (1 : Int) < (y15.length : Int)) ∧ cnd (decide ((bAt y15 (1 : Int)) < (2 : Int))) (law07_RowReads_J4i X3 x13 x14 true) ((0 ≤ (0 : Int) ∧ (0 : Int) < (y15.length : Int)) ∧ cnd ((bAt y15 (0 : Int)) == (2 : Int)) (cnd ((y15.length : Int) == (9 : Int)) (law07_RowReads_J4i X3 x13 x14 true) ((0 ≤ (0 : Int) ∧ (0 : Int) < (y15.length : Int)) ∧ cnd ((bAt y15 (0 : Int)) == (3 : Int)) (law07_RowReads_J4i X3 x13 x14 (decide ((y15.length : Int) ≤ (65 : Int)))) (law07_RowReads_J4i X3 x13 x14 false))) ((0 ≤ (0 : Int) ∧ (0 : Int) < (y15.length : Int)) ∧ cnd ((bAt y15 (0 : Int)) == (3 : Int)) (law07_RowReads_J4i X3 x13 x14 (decide ((y15.length : Int) ≤ (65 : Int)))) (law07_RowReads_J4i X3 x13 x14 false)))) ((0 ≤ (0 : Int) ∧ (0 : Int) < (y15.length : Int)) ∧ cnd ((bAt y15 (0 : Int)) == (2 : Int)) (cnd ((y15.length : Int) == (9 : Int)) (law07_RowReads_J4i X3 x13 x14 true) ((0 ≤ (0 : Int) ∧ (0 : Int) < (y15.length : Int)) ∧ cnd ((bAt y15 (0 : Int)) == (3 : Int)) (law07_RowReads_J4i X3 x13 x14 (decide ((y15.length : Int) ≤ (65 : Int)))) (law07_RowReads_J4i X3 x13 x14 false))) ((0 ≤ (0 : Int) ∧ (0 : Int) < (y15.length : Int)) ∧ cnd ((bAt y15 (0 : Int)) == (3 : Int)) (law07_RowReads_J4i X3 x13 x14 (decide ((y15.length : Int) ≤ (65 : Int)))) (law07_RowReads_J4i X3 x13 x14 false)))) ((0 ≤ (0 : Int) ∧ (0 : Int) < (y15.length : Int)) ∧ cnd ((bAt y15 (0 : Int)) == (2 : Int)) (cnd ((y15.length : Int) == (9 : Int)) (law07_RowReads_J4i X3 x13 x14 true) ((0 ≤ (0 : Int) ∧ (0 : Int) < (y15.length : Int)) ∧ cnd ((bAt y15 (0 : Int)) == (3 : Int)) (law07_RowReads_J4i X3 x13 x14 (decide ((y15.length : Int) ≤ (65 : Int)))) (law07_RowReads_J4i X3 x13 x14 false))) ((0 ≤ (0 : Int) ∧ (0 : Int) < (y15.length : Int)) ∧ cnd ((bAt y15 (0 : Int)) == (3 : Int)) (law07_RowReads_J4i X3 x13 x14 (decide ((y15.length : Int) ≤ (65 : Int)))) (law07_RowReads_J4i X3 x13 x14 false))))) ((0 ≤ (0 : Int) ∧ (0 : Int) < (y15.length : Int)) ∧ cnd ((bAt y15 (0 : Int)) == (1 : Int)) (cnd ((y15.length : Int) == (2 : Int)) ((0 ≤ (1 : Int) ∧ (1 : Int) < (y15.length : Int)) ∧ cnd (decide ((bAt y15 (1 : Int)) < (2 : Int))) (law07_RowReads_J4i X3 x13 x14 true) ((0 ≤ (0 : Int) ∧ (0 : Int) < (y15.length : Int)) ∧ cnd ((bAt y15 (0 : Int)) == (2 : Int)) (cnd ((y15.length : Int) == (9 : Int)) (law07_RowReads_J4i X3 x13 x14 true) ((0 ≤ (0 : Int) ∧ (0 : Int) < (y15.length : Int)) ∧ cnd ((bAt y15 (0 : Int)) == (3 : Int)) (law07_RowReads_J4i X3 x13 x14 (decide ((y15.length : Int) ≤ (65 : Int)))) (law07_RowReads_J4i X3 x13 x14 false))) ((0 ≤ (0 : Int) ∧ (0 : Int) < (y15.length : Int)) ∧ cnd ((bAt y15 (0 : Int)) == (3 : Int)) (law07_RowReads_J4i X3 x13 x14 (decide ((y15.length : Int) ≤ (65 : Int)))) (law07_RowReads_J4i X3 x13 x14 false)))) ((0 ≤ (0 : Int) ∧ (0 : Int) < (y15.length : Int)) ∧ cnd ((bAt y15 (0 : Int)) == (2 : Int)) (cnd ((y15.length : Int) == (9 : Int)) (law07_RowReads_J4i X3 x13 x14 true) ((0 ≤ (0 : Int) ∧ (0 : Int) < (y15.length : Int)) ∧ cnd ((bAt y15 (0 : Int)) == (3 : Int)) (law07_RowReads_J4i X3 x13 x14 (decide ((y15.length : Int) ≤ (65 : Int)))) (law07_RowReads_J4i X3 x13 x14 false))) ((0 ≤ (0 : Int) ∧ (0 : Int) < (y15.length : Int)) ∧ cnd ((bAt y15 (0 : Int)) == (3 : Int)) (law07_RowReads_J4i X3 x13 x14 (decide ((y15.length : Int) ≤ (65 : Int)))) (law07_RowReads_J4i X3 x13 x14 false)))) ((0 ≤ (0 : Int) ∧ (0 : Int) < (y15.length : Int)) ∧ cnd ((bAt y15 (0 : Int)) == (2 : Int)) (cnd ((y15.length : Int) == (9 : Int)) (law07_RowReads_J4i X3 x13 x14 true) ((0 ≤ (0 : Int) ∧ (0 : Int) < (y15.length : Int)) ∧ cnd ((bAt y15 (0 : Int)) == (3 : Int)) (law07_RowReads_J4i X3 x13 x14 (decide ((y15.length : Int) ≤ (65 : Int)))) (law07_RowReads_J4i X3 x13 x14 false))) ((0 ≤ (0 : Int) ∧ (0 : Int) < (y15.length : Int)) ∧ cnd ((bAt y15 (0 : Int)) == (3 : Int)) (law07_RowReads_J4i X3 x13 x14 (decide ((y15.length : Int) ≤ (65 : Int)))) (law07_RowReads_J4i X3 x13 x14 false))))) (law07_RowReads_J4i X3 x13 x14 false)) (cnd (!x13) (cnd (z10 == (4 : Int)) ((z9.length ≤ maxLen → ((z9.length : Int) == (0 : Int)) = r0)) (false = r0)) (cnd (z10 == (0 : Int)) ((z9.length ≤ maxLen → (z11.length ≤ maxLen → cnd ((z9.length : Int) == (z11.length : Int)) (∃ z17 : Str, (row_Key_o z9 z17) ∧ (z17 == (z8 ++ ((a1.drop (0 : Int).toNat).take ((if (20 : Int) < (a1.length : Int) then (20 : Int) else (a1.length : Int)).toNat - (0 : Int).toNat)))) = r0) (false = r0)))) (false = r0))))
def law07_RowReads_J2i (X1 : Int → (List Str) → Prop) (a0 : (List Str)) (a1 : Str) (r0 : Bool) (x2 : Int) (x4 : Bool) (x5 : (List Str)) : Prop :=
  cnd x4 ((0 ≤ x2) ∧ (x2 < (a0.length : Int)) ∧ ∃ y6 : Str, (a0[x2.toNat]? = some y6) ∧ (0 ≤ x2) ∧ (x2 < (a0.length : Int)) ∧ ∃ y7 : Str, (a0[x2.toNat]? = some y7) ∧ (0 ≤ (0 : Int) ∧ (0 : Int) ≤ (if (80 : Int) < (y7.length : Int) then (80 : Int) else (y7.length : Int)) ∧ (if (80 : Int) < (y7.length : Int) then (80 : Int) else (y7.length : Int)) ≤ (y6.length : Int)) ∧ (x5.length ≤ 1000000000) ∧ X1 (IntKind.i64.wrap (x2 + (1 : Int))) (x5 ++ ([(y6.drop (0 : Int).toNat).take ((if (80 : Int) < (y7.length : Int) then (80 : Int) else (y7.length : Int)).toNat - (0 : Int).toNat)] : List Str))) (∃ z8 : Str, (pack_Pack_o x5 z8) ∧ (0 ≤ (0 : Int) ∧ (0 : Int) ≤ (if (20 : Int) < (a1.length : Int) then (20 : Int) else (a1.length : Int)) ∧ (if (20 : Int) < (a1.length : Int) then (20 : Int) else (a1.length : Int)) ≤ (a1.length : Int)) ∧ (z8.length + ((a1.drop (0 : Int).toNat).take ((if (20 : Int) < (a1.length : Int) then (20 : Int) else (a1.length : Int)).toNat - (0 : Int).toNat)).length ≤ 9223372036854775807) ∧ ∃ z9 : (List T_value_Value), ∃ z10 : Int, (row_Get_o (z8 ++ ((a1.drop (0 : Int).toNat).take ((if (20 : Int) < (a1.length : Int) then (20 : Int) else (a1.length : Int)).toNat - (0 : Int).toNat))) z9 z10) ∧ ∃ z11 : (List Str), ∃ z12 : Bool, (ref04_Split_o (z8 ++ ((a1.drop (0 : Int).toNat).take ((if (20 : Int) < (a1.length : Int) then (20 : Int) else (a1.length : Int)).toNat - (0 : Int).toNat))) z11 z12) ∧ cnd (!z12) (cnd (z10 == (2 : Int)) ((z9.length ≤ maxLen → ((z9.length : Int) == (0 : Int)) = r0)) (false = r0)) (∀ X3 : Bool → Int → Prop, (∀ (x13 : Bool) (x14 : Int), law07_RowReads_L3i a1 r0 z8 z9 z10 z11 X3 x13 x14 → X3 x13 x14) → X3 true (0 : Int)))
def law07_RowReads_L1i (a0 : (List Str)) (a1 : Str) (r0 : Bool) (X1 : Int → (List Str) → Prop) (x2 : Int) (x3 : (List Str)) : Prop :=
  (a0.length ≤ maxLen → cnd (decide (x2 < (a0.length : Int))) (law07_RowReads_J2i X1 a0 a1 r0 x2 (decide (x2 < (9 : Int))) x3) (law07_RowReads_J2i X1 a0 a1 r0 x2 false x3))
def law07_RowReads_oi (a0 : (List Str)) (a1 : Str) (r0 : Bool) : Prop :=
  ∃ z1 : Bool, (law07_speaks_o z1) ∧ cnd (!z1) (false = r0) (∀ X1 : Int → (List Str) → Prop, (∀ (x2 : Int) (x3 : (List Str)), law07_RowReads_L1i a0 a1 r0 X1 x2 x3 → X1 x2 x3) → X1 (0 : Int) ([] : List Str))
theorem law07_RowReads_J4_m (X3 : Bool → Int → Prop) (x13 : Bool) (x14 : Int) {x16 : Bool} (h : law07_RowReads_J4i X3 x13 x14 x16) : law07_RowReads_J4 x13 X3 x14 x16 := by
  unfold law07_RowReads_J4
  unfold law07_RowReads_J4i at h
  exact h
theorem law07_RowReads_L3_m (a1 : Str) (r0 : Bool) (z8 : Str) (z9 : (List T_value_Value)) (z10 : Int) (z11 : (List Str)) {X3 : Bool → Int → Prop} {x13 : Bool} {x14 : Int} (h : law07_RowReads_L3i a1 r0 z8 z9 z10 z11 X3 x13 x14) : law07_RowReads_L3 z11 z10 z9 r0 z8 a1 X3 x13 x14 := by
  unfold law07_RowReads_L3
  unfold law07_RowReads_L3i at h
  intro c
  replace h := h c
  refine cnd_mono h (fun h => ?_) (fun h => ?_)
  · obtain ⟨h0, h⟩ := h
    refine ⟨h0, ?_⟩
    obtain ⟨h0, h⟩ := h
    refine ⟨h0, ?_⟩
    obtain ⟨y15, h⟩ := h
    refine ⟨y15, ?_⟩
    obtain ⟨h0, h⟩ := h
    refine ⟨h0, ?_⟩
    intro J4 kJ4
    have hJ4 : ∀ (x16 : Bool), law07_RowReads_J4i X3 x13 x14 x16 → J4 x16 := fun x16 q => kJ4 x16 (law07_RowReads_J4_m X3 x13 x14 q)
    refine cnd_mono h (fun h => ?_) (fun h => ?_)
    · obtain ⟨h0, h⟩ := h
      refine ⟨h0, ?_⟩
      refine cnd_mono h (fun h => ?_) (fun h => ?_)
      · refine cnd_mono h (fun h => ?_) (fun h => ?_)
        · exact hJ4 _ h
        · obtain ⟨h0, h⟩ := h
          refine ⟨h0, ?_⟩
          refine cnd_mono h (fun h => ?_) (fun h => ?_)
          · refine cnd_mono h (fun h => ?_) (fun h => ?_)
            · obtain ⟨h0, h⟩ := h
              refine ⟨h0, ?_⟩
              refine cnd_mono h (fun h => ?_) (fun h => ?_)
              · exact hJ4 _ h
              · obtain ⟨h0, h⟩ := h
                refine ⟨h0, ?_⟩
                refine cnd_mono h (fun h => ?_) (fun h => ?_)
                · refine cnd_mono h (fun h => ?_) (fun h => ?_)
                  · exact hJ4 _ h
                  · obtain ⟨h0, h⟩ := h
                    refine ⟨h0, ?_⟩
                    refine cnd_mono h (fun h => ?_) (fun h => ?_)
                    · exact hJ4 _ h
                    · exact hJ4 _ h
                · obtain ⟨h0, h⟩ := h
                  refine ⟨h0, ?_⟩
                  refine cnd_mono h (fun h => ?_) (fun h => ?_)
                  · exact hJ4 _ h
                  · exact hJ4 _ h
            · obtain ⟨h0, h⟩ := h
              refine ⟨h0, ?_⟩
              refine cnd_mono h (fun h => ?_) (fun h => ?_)
              · refine cnd_mono h (fun h => ?_) (fun h => ?_)
                · exact hJ4 _ h
                · obtain ⟨h0, h⟩ := h
                  refine ⟨h0, ?_⟩
                  refine cnd_mono h (fun h => ?_) (fun h => ?_)
                  · exact hJ4 _ h
                  · exact hJ4 _ h
              · obtain ⟨h0, h⟩ := h
                refine ⟨h0, ?_⟩
                refine cnd_mono h (fun h => ?_) (fun h => ?_)
                · exact hJ4 _ h
                · exact hJ4 _ h
          · obtain ⟨h0, h⟩ := h
            refine ⟨h0, ?_⟩
            refine cnd_mono h (fun h => ?_) (fun h => ?_)
            · refine cnd_mono h (fun h => ?_) (fun h => ?_)
              · exact hJ4 _ h
              · obtain ⟨h0, h⟩ := h
                refine ⟨h0, ?_⟩
                refine cnd_mono h (fun h => ?_) (fun h => ?_)
                · exact hJ4 _ h
                · exact hJ4 _ h
            · obtain ⟨h0, h⟩ := h
              refine ⟨h0, ?_⟩
              refine cnd_mono h (fun h => ?_) (fun h => ?_)
              · exact hJ4 _ h
              · exact hJ4 _ h
      · obtain ⟨h0, h⟩ := h
        refine ⟨h0, ?_⟩
        refine cnd_mono h (fun h => ?_) (fun h => ?_)
        · refine cnd_mono h (fun h => ?_) (fun h => ?_)
          · obtain ⟨h0, h⟩ := h
            refine ⟨h0, ?_⟩
            refine cnd_mono h (fun h => ?_) (fun h => ?_)
            · exact hJ4 _ h
            · obtain ⟨h0, h⟩ := h
              refine ⟨h0, ?_⟩
              refine cnd_mono h (fun h => ?_) (fun h => ?_)
              · refine cnd_mono h (fun h => ?_) (fun h => ?_)
                · exact hJ4 _ h
                · obtain ⟨h0, h⟩ := h
                  refine ⟨h0, ?_⟩
                  refine cnd_mono h (fun h => ?_) (fun h => ?_)
                  · exact hJ4 _ h
                  · exact hJ4 _ h
              · obtain ⟨h0, h⟩ := h
                refine ⟨h0, ?_⟩
                refine cnd_mono h (fun h => ?_) (fun h => ?_)
                · exact hJ4 _ h
                · exact hJ4 _ h
          · obtain ⟨h0, h⟩ := h
            refine ⟨h0, ?_⟩
            refine cnd_mono h (fun h => ?_) (fun h => ?_)
            · refine cnd_mono h (fun h => ?_) (fun h => ?_)
              · exact hJ4 _ h
              · obtain ⟨h0, h⟩ := h
                refine ⟨h0, ?_⟩
                refine cnd_mono h (fun h => ?_) (fun h => ?_)
                · exact hJ4 _ h
                · exact hJ4 _ h
            · obtain ⟨h0, h⟩ := h
              refine ⟨h0, ?_⟩
              refine cnd_mono h (fun h => ?_) (fun h => ?_)
              · exact hJ4 _ h
              · exact hJ4 _ h
        · obtain ⟨h0, h⟩ := h
          refine ⟨h0, ?_⟩
          refine cnd_mono h (fun h => ?_) (fun h => ?_)
          · refine cnd_mono h (fun h => ?_) (fun h => ?_)
            · exact hJ4 _ h
            · obtain ⟨h0, h⟩ := h
              refine ⟨h0, ?_⟩
              refine cnd_mono h (fun h => ?_) (fun h => ?_)
              · exact hJ4 _ h
              · exact hJ4 _ h
          · obtain ⟨h0, h⟩ := h
            refine ⟨h0, ?_⟩
            refine cnd_mono h (fun h => ?_) (fun h => ?_)
            · exact hJ4 _ h
            · exact hJ4 _ h
    · exact hJ4 _ h
  · exact h
theorem law07_RowReads_J2_m (X1 : Int → (List Str) → Prop) (a0 : (List Str)) (a1 : Str) (r0 : Bool) (x2 : Int) {x4 : Bool} {x5 : (List Str)} (h : law07_RowReads_J2i X1 a0 a1 r0 x2 x4 x5) : law07_RowReads_J2 x2 a0 X1 a1 r0 x4 x5 := by
  unfold law07_RowReads_J2
  unfold law07_RowReads_J2i at h
  refine cnd_mono h (fun h => ?_) (fun h => ?_)
  · exact h
  · obtain ⟨z8, h⟩ := h
    refine ⟨z8, ?_⟩
    obtain ⟨h0, h⟩ := h
    refine ⟨h0, ?_⟩
    obtain ⟨h0, h⟩ := h
    refine ⟨h0, ?_⟩
    obtain ⟨h0, h⟩ := h
    refine ⟨h0, ?_⟩
    obtain ⟨z9, h⟩ := h
    refine ⟨z9, ?_⟩
    obtain ⟨z10, h⟩ := h
    refine ⟨z10, ?_⟩
    obtain ⟨h0, h⟩ := h
    refine ⟨h0, ?_⟩
    obtain ⟨z11, h⟩ := h
    refine ⟨z11, ?_⟩
    obtain ⟨z12, h⟩ := h
    refine ⟨z12, ?_⟩
    obtain ⟨h0, h⟩ := h
    refine ⟨h0, ?_⟩
    refine cnd_mono h (fun h => ?_) (fun h => ?_)
    · exact h
    · intro X3 k
      exact h X3 (fun x13 x14 q => k x13 x14 (law07_RowReads_L3_m a1 r0 z8 z9 z10 z11 q))
theorem law07_RowReads_L1_m (a0 : (List Str)) (a1 : Str) (r0 : Bool) {X1 : Int → (List Str) → Prop} {x2 : Int} {x3 : (List Str)} (h : law07_RowReads_L1i a0 a1 r0 X1 x2 x3) : law07_RowReads_L1 a0 a1 r0 X1 x2 x3 := by
  unfold law07_RowReads_L1
  unfold law07_RowReads_L1i at h
  intro J2 kJ2
  have hJ2 : ∀ (x4 : Bool) (x5 : (List Str)), law07_RowReads_J2i X1 a0 a1 r0 x2 x4 x5 → J2 x4 x5 := fun x4 x5 q => kJ2 x4 x5 (law07_RowReads_J2_m X1 a0 a1 r0 x2 q)
  intro c
  replace h := h c
  refine cnd_mono h (fun h => ?_) (fun h => ?_)
  · exact hJ2 _ _ h
  · exact hJ2 _ _ h
theorem law07_RowReads_i (a0 : (List Str)) (a1 : Str) (r0 : Bool) (h : law07_RowReads_oi a0 a1 r0) : law07_RowReads_o a0 a1 r0 := by
  unfold law07_RowReads_o
  unfold law07_RowReads_oi at h
  obtain ⟨z1, h⟩ := h
  refine ⟨z1, ?_⟩
  obtain ⟨h0, h⟩ := h
  refine ⟨h0, ?_⟩
  refine cnd_mono h (fun h => ?_) (fun h => ?_)
  · exact h
  · intro X1 k
    exact h X1 (fun x2 x3 q => k x2 x3 (law07_RowReads_L1_m a0 a1 r0 q))
noncomputable def law07_RowReads_sp : Sp KK := ⟨8, [.v 64, .v 9], [4], appW (K := KK) [4] [.v 64, .v 9] law07_RowReads_o⟩
noncomputable def law07_RowReads_an : An KK := (.s .o (.s (.s .o (.c (.s .o .o) .o)) (.s .o (.s (.s .o (.b (.l ⟨[(0, .kp 9), (1, .kp 10), (5, .row 41), (6, .it .i64)], [], [(41, 9)]⟩ (fun _ => (.s (.j ⟨[(0, .kp 9), (1, .kp 10), (5, .row 41), (6, .kp 16), (25, .bl)], [], [(41, 9)]⟩ .o (fun _ => (.c .o .o))) (.s (.b .o) .o)))))) (.s .o (.s .o (.s .o (.s (.s .o (.c (.s .o .o) .o)) (.s .o (.s (.s .o (.b (.l ⟨[(7, .kp 31), (8, .kp 32), (9, .kp 33), (10, .kp 34), (12, .bl), (13, .it .i64)], [], []⟩ (fun _ => (.s (.s .o (.c .o .o)) (.s (.b (.s .o (.s .o (.j ⟨[(7, .kp 31), (8, .kp 32), (9, .kp 33), (10, .kp 34), (12, .kp 43), (13, .kp 44), (15, .bl)], [], []⟩ (.s .o (.c .o .o)) (fun _ => .o))))) .o)))))) (.s (.s .o (.c (.s .o .o) .o)) (.s .o .o))))))))))))
noncomputable def law07_RowReads_cf : Cf KK := ⟨CC, [law07_speaks_sp, pack_Pack_sp, row_Get_sp, ref04_Split_sp, row_Key_sp], 153⟩

set_option maxRecDepth 100000 in
theorem law07_RowReads_ok : SpOk Tryd.prog CC law07_RowReads_sp := by
  intro env r hF h
  obtain ⟨a0, env0, rfl, h1⟩ := appW_v h
  obtain ⟨a1, env1, rfl, h2⟩ := appW_v h1
  obtain ⟨rfl, h3⟩ := appW_n h2
  obtain ⟨r0, rr0, rfl, h4⟩ := apR_v h3
  obtain ⟨rfl, h5⟩ := apR_n h4
  refine ⟨rfl, DnF_by (F := law07_RowReads_cf) CC_ok (SsOk_c law07_speaks_ok (SsOk_c pack_Pack_ok (SsOk_c row_Get_ok (SsOk_c ref04_Split_ok (SsOk_c row_Key_ok SsOk_n))))) t8 (A := law07_RowReads_an) (ps := [.v 64, .v 9]) (rs := [4]) (env := [.d (.v 64 a0), .d (.v 9 a1)]) (r := [.v 4 r0]) (X := law07_RowReads_o a0 a1 r0) rfl (Nat.le_of_ble_eq_true rfl) rfl hF h5 ?_⟩
  kernel_rfl

end Go.Proofs.YtkmehmgocelkiaaDoor
