/- General texts and own ones, joined: what the program computes, told of abstract states, and the laws of plain data. No condition. -/
import Derived.Test.YtkmehmgocelkiaaMe
import Derived.KernelRfl
import Derived.Test.YtkmehmgocelkiaaMc
noncomputable section
namespace Go.Proofs.Ytkmehmgocelkiaa
open Go.AV Go.RowKit
set_option maxRecDepth 100000
structure T_law08_Value where
 Kind : Int
 N : Int
 S : Str
structure T_value_Value where
 Kind : Int
 N : Int
 S : Str
structure T_ref06_Value where
 Kind : Int
 N : Int
 S : Str
structure T_bag_Bag where
 rows : (List (List T_value_Value))
inductive TC where
 | c0
 | c2
 | c3
 | c4
 | c5
 | c9
 | c22
 | c24
 | c25
 | c29
 | c31
 | c37
 | c39
 | c50
 | c75
 | c88
 | c93
 | c97
 | c111
 | c116
 | c130
 | c161
def KF : TC → Type
 | .c0 => Unit
 | .c2 => Int
 | .c3 => Int
 | .c4 => Bool
 | .c5 => Int
 | .c9 => Str
 | .c22 => (List (List T_law08_Value))
 | .c24 => (List (List T_value_Value))
 | .c25 => (List (List T_ref06_Value))
 | .c29 => (List T_value_Value)
 | .c31 => T_bag_Bag
 | .c37 => (List Str)
 | .c39 => Int
 | .c50 => (List T_ref06_Value)
 | .c75 => (List Int)
 | .c88 => T_value_Value
 | .c93 => (List T_law08_Value)
 | .c97 => (List T_bag_Bag)
 | .c111 => Int
 | .c116 => T_ref06_Value
 | .c130 => T_law08_Value
 | .c161 => (List Int)
def codes : List (Nat × TC) := [(2, .c2), (3, .c3), (4, .c4), (5, .c5), (9, .c9), (22, .c22), (24, .c24), (25, .c25), (29, .c29), (31, .c31), (37, .c37), (39, .c39), (50, .c50), (75, .c75), (88, .c88), (93, .c93), (97, .c97), (111, .c111), (116, .c116), (130, .c130), (161, .c161)]
def code (t : Nat) : TC := lkC .c0 codes t
abbrev KK (t : Nat) : Type := KF (code t)
def e_law08_Value : Enc T_law08_Value := encIso ((tbCat (tbI .u8) (tbCat (tbI .u8) tbS)) : Tb KK _).E (fun x : T_law08_Value => (x.Kind, x.N, x.S))
def b130 : Tb KK T_law08_Value := tbIso (tbCat (tbI .u8) (tbCat (tbI .u8) tbS)) (fun x : T_law08_Value => (x.Kind, x.N, x.S)) (fun y => (⟨y.1, y.2.1, y.2.2⟩ : T_law08_Value)) e_law08_Value
def e_value_Value : Enc T_value_Value := encIso ((tbCat (tbI .i64) (tbCat (tbI .i64) tbS)) : Tb KK _).E (fun x : T_value_Value => (x.Kind, x.N, x.S))
def b88 : Tb KK T_value_Value := tbIso (tbCat (tbI .i64) (tbCat (tbI .i64) tbS)) (fun x : T_value_Value => (x.Kind, x.N, x.S)) (fun y => (⟨y.1, y.2.1, y.2.2⟩ : T_value_Value)) e_value_Value
def e_ref06_Value : Enc T_ref06_Value := encIso ((tbCat (tbI .i64) (tbCat (tbI .i64) tbS)) : Tb KK _).E (fun x : T_ref06_Value => (x.Kind, x.N, x.S))
def b116 : Tb KK T_ref06_Value := tbIso (tbCat (tbI .i64) (tbCat (tbI .i64) tbS)) (fun x : T_ref06_Value => (x.Kind, x.N, x.S)) (fun y => (⟨y.1, y.2.1, y.2.2⟩ : T_ref06_Value)) e_ref06_Value
def e_bag_Bag : Enc T_bag_Bag := encIso ((tbL 29 (eSl e_value_Value) : Tb KK (List (List T_value_Value))) : Tb KK _).E (fun x : T_bag_Bag => x.rows)
def b31 : Tb KK T_bag_Bag := tbIso (tbL 29 (eSl e_value_Value) : Tb KK (List (List T_value_Value))) (fun x : T_bag_Bag => x.rows) (fun y => (⟨y⟩ : T_bag_Bag)) e_bag_Bag
def TF : (c : TC) → Tb KK (KF c)
 | .c0 => tbU
 | .c2 => (tbI .i64)
 | .c3 => (tbI .i64)
 | .c4 => tbB
 | .c5 => (tbI .u8)
 | .c9 => tbS
 | .c22 => (tbL 93 (eSl e_law08_Value) : Tb KK (List (List T_law08_Value)))
 | .c24 => (tbL 29 (eSl e_value_Value) : Tb KK (List (List T_value_Value)))
 | .c25 => (tbL 50 (eSl e_ref06_Value) : Tb KK (List (List T_ref06_Value)))
 | .c29 => (tbL 88 e_value_Value : Tb KK (List T_value_Value))
 | .c31 => b31
 | .c37 => (tbL 9 eS : Tb KK (List Str))
 | .c39 => (tbI .i64)
 | .c50 => (tbL 116 e_ref06_Value : Tb KK (List T_ref06_Value))
 | .c75 => (tbL 5 (eI .u8) : Tb KK (List Int))
 | .c88 => b88
 | .c93 => (tbL 130 e_law08_Value : Tb KK (List T_law08_Value))
 | .c97 => (tbL 31 e_bag_Bag : Tb KK (List T_bag_Bag))
 | .c111 => (tbI .u64)
 | .c116 => b116
 | .c130 => b130
 | .c161 => (tbL 3 (eI .i64) : Tb KK (List Int))
def CC : Cx KK := @cxOf TC KF code TF
theorem b130_ok : TbOk Try.prog CC b130 := tbIso_ok (tbCat_ok (tbI_ok _) (tbCat_ok (tbI_ok _) tbS_ok)) (fun y => rfl) (fun x => rfl)
theorem dw_law08_Value : ∀ x, dwks (e_law08_Value.c x) = e_law08_Value.c x := b130_ok.dw
theorem hl_law08_Value : ∀ x m, hlts m (e_law08_Value.c x) = true := b130_ok.hl
theorem b88_ok : TbOk Try.prog CC b88 := tbIso_ok (tbCat_ok (tbI_ok _) (tbCat_ok (tbI_ok _) tbS_ok)) (fun y => rfl) (fun x => rfl)
theorem dw_value_Value : ∀ x, dwks (e_value_Value.c x) = e_value_Value.c x := b88_ok.dw
theorem hl_value_Value : ∀ x m, hlts m (e_value_Value.c x) = true := b88_ok.hl
theorem b116_ok : TbOk Try.prog CC b116 := tbIso_ok (tbCat_ok (tbI_ok _) (tbCat_ok (tbI_ok _) tbS_ok)) (fun y => rfl) (fun x => rfl)
theorem dw_ref06_Value : ∀ x, dwks (e_ref06_Value.c x) = e_ref06_Value.c x := b116_ok.dw
theorem hl_ref06_Value : ∀ x m, hlts m (e_ref06_Value.c x) = true := b116_ok.hl
theorem b31_ok : TbOk Try.prog CC b31 := tbIso_ok (tbL_ok _ rfl (eSl_dw dw_value_Value) (eSl_hl hl_value_Value)) (fun y => rfl) (fun x => rfl)
theorem dw_bag_Bag : ∀ x, dwks (e_bag_Bag.c x) = e_bag_Bag.c x := b31_ok.dw
theorem hl_bag_Bag : ∀ x m, hlts m (e_bag_Bag.c x) = true := b31_ok.hl
theorem CC_ok : CxOk Try.prog CC := @cxOf_ok TC KF code _ TF fun c => match c with
 | .c0 => tbU_ok
 | .c2 => (tbI_ok _)
 | .c3 => (tbI_ok _)
 | .c4 => tbB_ok
 | .c5 => (tbI_ok _)
 | .c9 => tbS_ok
 | .c22 => (tbL_ok _ rfl (eSl_dw dw_law08_Value) (eSl_hl hl_law08_Value))
 | .c24 => (tbL_ok _ rfl (eSl_dw dw_value_Value) (eSl_hl hl_value_Value))
 | .c25 => (tbL_ok _ rfl (eSl_dw dw_ref06_Value) (eSl_hl hl_ref06_Value))
 | .c29 => (tbL_ok _ rfl dw_value_Value hl_value_Value)
 | .c31 => b31_ok
 | .c37 => (tbL_ok _ rfl (fun _ => rfl) (fun _ _ => rfl))
 | .c39 => (tbI_ok _)
 | .c50 => (tbL_ok _ rfl dw_ref06_Value hl_ref06_Value)
 | .c75 => (tbL_ok _ rfl (fun _ => rfl) (fun _ _ => rfl))
 | .c88 => b88_ok
 | .c93 => (tbL_ok _ rfl dw_law08_Value hl_law08_Value)
 | .c97 => (tbL_ok _ rfl dw_bag_Bag hl_bag_Bag)
 | .c111 => (tbI_ok _)
 | .c116 => b116_ok
 | .c130 => b130_ok
 | .c161 => (tbL_ok _ rfl (fun _ => rfl) (fun _ _ => rfl))
def value_OfInt_o (a0 : Int) (r0 : T_value_Value) : Prop :=
 (⟨(2 : Int), a0, ([] : Str)⟩ : T_value_Value) = r0
def value_OfInt_sp : Sp KK := ⟨36, [.v 2], [88], appW (K := KK) [88] [.v 2] value_OfInt_o⟩
def value_OfInt_an : An KK := (.s .o (.s .o .o))
def value_OfInt_cf : Cf KK := ⟨CC, [], [], 5, [], none, false⟩
theorem value_OfInt_ok : SpOk Try.prog CC value_OfInt_sp := SpOk_by (F := value_OfInt_cf) (ps := [.v 2]) (rs := [88]) (w := value_OfInt_o) CC_ok SsOk_n SLOk_n t36 (A := value_OfInt_an) (by kernel_rfl) (by kernel_rfl) (fun a0 r0 => show _ = _ by kernel_rfl)
def cmp_isNaN_int_o (a0 : Int) (r0 : Bool) : Prop :=
 (!(a0 == a0)) = r0
def cmp_isNaN_int_sp : Sp KK := ⟨90, [.v 3], [4], appW (K := KK) [4] [.v 3] cmp_isNaN_int_o⟩
def cmp_isNaN_int_an : An KK := (.s .o (.s .o .o))
def cmp_isNaN_int_cf : Cf KK := ⟨CC, [], [], 6, [], none, false⟩
theorem cmp_isNaN_int_ok : SpOk Try.prog CC cmp_isNaN_int_sp := SpOk_by (F := cmp_isNaN_int_cf) (ps := [.v 3]) (rs := [4]) (w := cmp_isNaN_int_o) CC_ok SsOk_n SLOk_n t90 (A := cmp_isNaN_int_an) (by kernel_rfl) (by kernel_rfl) (fun a0 r0 => show _ = _ by kernel_rfl)
def cmp_Compare_int_o (a0 a1 r0 : Int) : Prop :=
 ∃ z1, (cmp_isNaN_int_o a0 z1) /\ ∃ z2, (cmp_isNaN_int_o a1 z2) /\ cnd z1 (cnd z2 ((0 : Int) = r0) ((-1 : Int) = r0)) (cnd z2 ((1 : Int) = r0) (cnd (decide (a0 < a1)) ((-1 : Int) = r0) (cnd (decide (a1 < a0)) ((1 : Int) = r0) ((0 : Int) = r0))))
def cmp_Compare_int_sp : Sp KK := ⟨69, [.v 3, .v 3], [3], appW (K := KK) [3] [.v 3, .v 3] cmp_Compare_int_o⟩
def cmp_Compare_int_an : An KK := (.s .o (.s .o (.s .o (.s (.s .o (.c (.s (.s .o (.c (.s .o .o) .o)) (.s .o .o)) .o)) (.s (.s .o (.c (.s .o .o) .o)) (.s (.s .o (.c (.s .o .o) .o)) (.s (.s .o (.c (.s .o .o) .o)) (.s .o .o))))))))
def cmp_Compare_int_cf : Cf KK := ⟨CC, [cmp_isNaN_int_sp], [], 20, [], none, false⟩
theorem cmp_Compare_int_ok : SpOk Try.prog CC cmp_Compare_int_sp := SpOk_by (F := cmp_Compare_int_cf) (ps := [.v 3, .v 3]) (rs := [3]) (w := cmp_Compare_int_o) CC_ok (SsOk_c cmp_isNaN_int_ok SsOk_n) SLOk_n t69 (A := cmp_Compare_int_an) (by kernel_rfl) (by kernel_rfl) (fun a0 a1 r0 => show _ = _ by kernel_rfl)
def cmp_isNaN_int64_o (a0 : Int) (r0 : Bool) : Prop :=
 (!(a0 == a0)) = r0
def cmp_isNaN_int64_sp : Sp KK := ⟨91, [.v 2], [4], appW (K := KK) [4] [.v 2] cmp_isNaN_int64_o⟩
def cmp_isNaN_int64_an : An KK := (.s .o (.s .o .o))
def cmp_isNaN_int64_cf : Cf KK := ⟨CC, [], [], 6, [], none, false⟩
theorem cmp_isNaN_int64_ok : SpOk Try.prog CC cmp_isNaN_int64_sp := SpOk_by (F := cmp_isNaN_int64_cf) (ps := [.v 2]) (rs := [4]) (w := cmp_isNaN_int64_o) CC_ok SsOk_n SLOk_n t91 (A := cmp_isNaN_int64_an) (by kernel_rfl) (by kernel_rfl) (fun a0 r0 => show _ = _ by kernel_rfl)
def cmp_Compare_int64_o (a0 a1 r0 : Int) : Prop :=
 ∃ z1, (cmp_isNaN_int64_o a0 z1) /\ ∃ z2, (cmp_isNaN_int64_o a1 z2) /\ cnd z1 (cnd z2 ((0 : Int) = r0) ((-1 : Int) = r0)) (cnd z2 ((1 : Int) = r0) (cnd (decide (a0 < a1)) ((-1 : Int) = r0) (cnd (decide (a1 < a0)) ((1 : Int) = r0) ((0 : Int) = r0))))
def cmp_Compare_int64_sp : Sp KK := ⟨70, [.v 2, .v 2], [3], appW (K := KK) [3] [.v 2, .v 2] cmp_Compare_int64_o⟩
def cmp_Compare_int64_an : An KK := (.s .o (.s .o (.s .o (.s (.s .o (.c (.s (.s .o (.c (.s .o .o) .o)) (.s .o .o)) .o)) (.s (.s .o (.c (.s .o .o) .o)) (.s (.s .o (.c (.s .o .o) .o)) (.s (.s .o (.c (.s .o .o) .o)) (.s .o .o))))))))
def cmp_Compare_int64_cf : Cf KK := ⟨CC, [cmp_isNaN_int64_sp], [], 20, [], none, false⟩
theorem cmp_Compare_int64_ok : SpOk Try.prog CC cmp_Compare_int64_sp := SpOk_by (F := cmp_Compare_int64_cf) (ps := [.v 2, .v 2]) (rs := [3]) (w := cmp_Compare_int64_o) CC_ok (SsOk_c cmp_isNaN_int64_ok SsOk_n) SLOk_n t70 (A := cmp_Compare_int64_an) (by kernel_rfl) (by kernel_rfl) (fun a0 a1 r0 => show _ = _ by kernel_rfl)
def cmp_isNaN_string_o (a0 : Str) (r0 : Bool) : Prop :=
 (!(a0 == a0)) = r0
def cmp_isNaN_string_sp : Sp KK := ⟨92, [.v 9], [4], appW (K := KK) [4] [.v 9] cmp_isNaN_string_o⟩
def cmp_isNaN_string_an : An KK := (.s .o (.s .o .o))
def cmp_isNaN_string_cf : Cf KK := ⟨CC, [], [], 6, [], none, false⟩
theorem cmp_isNaN_string_ok : SpOk Try.prog CC cmp_isNaN_string_sp := SpOk_by (F := cmp_isNaN_string_cf) (ps := [.v 9]) (rs := [4]) (w := cmp_isNaN_string_o) CC_ok SsOk_n SLOk_n t92 (A := cmp_isNaN_string_an) (by kernel_rfl) (by kernel_rfl) (fun a0 r0 => show _ = _ by kernel_rfl)
def cmp_Compare_string_o (a0 a1 : Str) (r0 : Int) : Prop :=
 ∃ z1, (cmp_isNaN_string_o a0 z1) /\ ∃ z2, (cmp_isNaN_string_o a1 z2) /\ cnd z1 (cnd z2 ((0 : Int) = r0) ((-1 : Int) = r0)) (cnd z2 ((1 : Int) = r0) (cnd (Op.bytesLess a0 a1) ((-1 : Int) = r0) (cnd (!(Op.bytesLess a0 a1 || a0 == a1)) ((1 : Int) = r0) ((0 : Int) = r0))))
def cmp_Compare_string_sp : Sp KK := ⟨71, [.v 9, .v 9], [3], appW (K := KK) [3] [.v 9, .v 9] cmp_Compare_string_o⟩
def cmp_Compare_string_an : An KK := (.s .o (.s .o (.s .o (.s (.s .o (.c (.s (.s .o (.c (.s .o .o) .o)) (.s .o .o)) .o)) (.s (.s .o (.c (.s .o .o) .o)) (.s (.s .o (.c (.s .o .o) .o)) (.s (.s .o (.c (.s .o .o) .o)) (.s .o .o))))))))
def cmp_Compare_string_cf : Cf KK := ⟨CC, [cmp_isNaN_string_sp], [], 20, [], none, false⟩
theorem cmp_Compare_string_ok : SpOk Try.prog CC cmp_Compare_string_sp := SpOk_by (F := cmp_Compare_string_cf) (ps := [.v 9, .v 9]) (rs := [3]) (w := cmp_Compare_string_o) CC_ok (SsOk_c cmp_isNaN_string_ok SsOk_n) SLOk_n t71 (A := cmp_Compare_string_an) (by kernel_rfl) (by kernel_rfl) (fun a0 a1 r0 => show _ = _ by kernel_rfl)
def cmp_Or_int_L1 (a0 : List Int) (r0 : Int) (X1 : Int → Prop) (x1 : Int) : Prop :=
 cnd (decide (x1 < (a0.length : Int))) ((0 <= x1) /\ (x1 < (a0.length : Int)) /\ ∃ y2 : Int, (a0[x1.toNat]? = some y2) /\ cnd (!(y2 == (0 : Int))) (y2 = r0) (X1 (IntKind.i64.wrap (x1 + (1 : Int))))) ((0 : Int) = r0)
def cmp_Or_int_o (a0 : List Int) (r0 : Int) : Prop :=
 (a0.length <= maxLen -> ∀ X1 : Int -> Prop, (∀ x1, cmp_Or_int_L1 a0 r0 X1 x1 -> X1 x1) -> X1 (0 : Int))
def cmp_Or_int_L1i (a0 : List Int) (r0 : Int) (X1 : Int → Prop) (x1 : Int) : Prop :=
 cnd (decide (x1 < (a0.length : Int))) ((0 <= x1) /\ (x1 < (a0.length : Int)) /\ ∃ y2 : Int, (a0[x1.toNat]? = some y2) /\ cnd (!(y2 == (0 : Int))) (y2 = r0) (X1 (IntKind.i64.wrap (x1 + (1 : Int))))) ((0 : Int) = r0)
def cmp_Or_int_oi (a0 : List Int) (r0 : Int) : Prop :=
 (a0.length <= maxLen -> ∀ X1 : Int -> Prop, (∀ x1, cmp_Or_int_L1i a0 r0 X1 x1 -> X1 x1) -> X1 (0 : Int))
theorem cmp_Or_int_L1_m (a0 : List Int) (r0 : Int) {X1 : Int → Prop} {x1 : Int} (h : cmp_Or_int_L1i a0 r0 X1 x1) : cmp_Or_int_L1 a0 r0 X1 x1 := by
 unfold cmp_Or_int_L1
 unfold cmp_Or_int_L1i at h
 exact h
theorem cmp_Or_int_i (a0 : List Int) (r0 : Int) (h : cmp_Or_int_oi a0 r0) : cmp_Or_int_o a0 r0 := by
 unfold cmp_Or_int_o
 unfold cmp_Or_int_oi at h
 intro c
 replace h := h c
 intro X1 k
 exact h X1 (fun x1 q => k x1 (cmp_Or_int_L1_m a0 r0 q))
def cmp_Or_int_sp : Sp KK := ⟨68, [.v 161], [3], appW (K := KK) [3] [.v 161] cmp_Or_int_o⟩
def cmp_Or_int_an : An KK := (.s .o (.s .o (.s (.s .o (.b (.l ⟨[(3, .kp 5), (6, .kp 6), (7, .kp 7), (8, .it .i64)], [], []⟩ (fun _ => (.s .o (.s (.c .o .o) (.s (.b (.s .o (.s .o (.c (.s .o .o) .o)))) .o))))))) (.s .o .o))))
def cmp_Or_int_cf : Cf KK := ⟨CC, [], [], 18, [], none, false⟩
theorem cmp_Or_int_ok : SpOk Try.prog CC cmp_Or_int_sp := SpOk_by (F := cmp_Or_int_cf) (ps := [.v 161]) (rs := [3]) (w := cmp_Or_int_o) CC_ok SsOk_n SLOk_n t68 (A := cmp_Or_int_an) (by kernel_rfl) (by kernel_rfl) (fun a0 r0 => show _ = _ by kernel_rfl)
def value_Compare_o (a0 a1 : T_value_Value) (r0 : Int) : Prop :=
 ∃ z1, (cmp_Compare_int_o a0.Kind a1.Kind z1) /\ ∃ z2, (cmp_Compare_int64_o a0.N a1.N z2) /\ ∃ z3, (cmp_Compare_string_o a0.S a1.S z3) /\ ∃ z4, (cmp_Or_int_o ([z1, z2, z3] : List Int) z4) /\ z4 = r0
def value_Compare_sp : Sp KK := ⟨46, [.v 88, .v 88], [3], appW (K := KK) [3] [.v 88, .v 88] value_Compare_o⟩
def value_Compare_an : An KK := (.s .o (.s .o .o))
def value_Compare_cf : Cf KK := ⟨CC, [cmp_Compare_int_sp, cmp_Compare_int64_sp, cmp_Compare_string_sp, cmp_Or_int_sp], [], 22, [], none, false⟩
theorem value_Compare_ok : SpOk Try.prog CC value_Compare_sp := SpOk_by (F := value_Compare_cf) (ps := [.v 88, .v 88]) (rs := [3]) (w := value_Compare_o) CC_ok (SsOk_c cmp_Compare_int_ok (SsOk_c cmp_Compare_int64_ok (SsOk_c cmp_Compare_string_ok (SsOk_c cmp_Or_int_ok SsOk_n)))) SLOk_n t46 (A := value_Compare_an) (by kernel_rfl) (by kernel_rfl) (fun a0 a1 r0 => show _ = _ by kernel_rfl)
def slices_CompareFunc_Value_L1 (a0 a1 : List T_value_Value) (r0 : Int) (g2 : T_value_Value → T_value_Value → Int → Prop) (X1 : Int → Prop) (x1 : Int) : Prop :=
 cnd (decide (x1 < (a0.length : Int))) ((0 <= x1) /\ (x1 < (a0.length : Int)) /\ ∃ y2 : T_value_Value, (a0[x1.toNat]? = some y2) /\ (a1.length <= maxLen -> cnd (decide ((a1.length : Int) <= x1)) ((1 : Int) = r0) ((0 <= x1) /\ (x1 < (a1.length : Int)) /\ ∃ y3 : T_value_Value, (a1[x1.toNat]? = some y3) /\ ∃ z4, (g2 y2 y3 z4) /\ cnd (!(z4 == (0 : Int))) (z4 = r0) (X1 (IntKind.i64.wrap (x1 + (1 : Int))))))) ((a0.length <= maxLen -> (a1.length <= maxLen -> cnd (decide ((a0.length : Int) < (a1.length : Int))) ((-1 : Int) = r0) ((0 : Int) = r0))))
def slices_CompareFunc_Value_o (a0 a1 : List T_value_Value) (g2 : T_value_Value → T_value_Value → Int → Prop) (r0 : Int) : Prop :=
 (a0.length <= maxLen -> ∀ X1 : Int -> Prop, (∀ x1, slices_CompareFunc_Value_L1 a0 a1 r0 g2 X1 x1 -> X1 x1) -> X1 (0 : Int))
def slices_CompareFunc_Value_L1i (a0 a1 : List T_value_Value) (g2 : T_value_Value → T_value_Value → Int → Prop) (r0 : Int) (X1 : Int → Prop) (x1 : Int) : Prop :=
 cnd (decide (x1 < (a0.length : Int))) ((0 <= x1) /\ (x1 < (a0.length : Int)) /\ ∃ y2 : T_value_Value, (a0[x1.toNat]? = some y2) /\ (a1.length <= maxLen -> cnd (decide ((a1.length : Int) <= x1)) ((1 : Int) = r0) ((0 <= x1) /\ (x1 < (a1.length : Int)) /\ ∃ y3 : T_value_Value, (a1[x1.toNat]? = some y3) /\ ∃ z4, (g2 y2 y3 z4) /\ cnd (!(z4 == (0 : Int))) (z4 = r0) (X1 (IntKind.i64.wrap (x1 + (1 : Int))))))) ((a0.length <= maxLen -> (a1.length <= maxLen -> cnd (decide ((a0.length : Int) < (a1.length : Int))) ((-1 : Int) = r0) ((0 : Int) = r0))))
def slices_CompareFunc_Value_oi (a0 a1 : List T_value_Value) (g2 : T_value_Value → T_value_Value → Int → Prop) (r0 : Int) : Prop :=
 (a0.length <= maxLen -> ∀ X1 : Int -> Prop, (∀ x1, slices_CompareFunc_Value_L1i a0 a1 g2 r0 X1 x1 -> X1 x1) -> X1 (0 : Int))
theorem slices_CompareFunc_Value_L1_m (a0 a1 : List T_value_Value) (g2 : T_value_Value → T_value_Value → Int → Prop) (r0 : Int) {X1 : Int → Prop} {x1 : Int} (h : slices_CompareFunc_Value_L1i a0 a1 g2 r0 X1 x1) : slices_CompareFunc_Value_L1 a0 a1 r0 g2 X1 x1 := by
 unfold slices_CompareFunc_Value_L1
 unfold slices_CompareFunc_Value_L1i at h
 exact h
theorem slices_CompareFunc_Value_i (a0 a1 : List T_value_Value) (g2 : T_value_Value → T_value_Value → Int → Prop) (r0 : Int) (h : slices_CompareFunc_Value_oi a0 a1 g2 r0) : slices_CompareFunc_Value_o a0 a1 g2 r0 := by
 unfold slices_CompareFunc_Value_o
 unfold slices_CompareFunc_Value_oi at h
 intro c
 replace h := h c
 intro X1 k
 exact h X1 (fun x1 q => k x1 (slices_CompareFunc_Value_L1_m a0 a1 g2 r0 q))
def slices_CompareFunc_Value_sp : Sp KK := ⟨45, [.v 29, .v 29, .f [88, 88] [3]], [3], appW (K := KK) [3] [.v 29, .v 29, .f [88, 88] [3]] slices_CompareFunc_Value_o⟩
def slices_CompareFunc_Value_an : An KK := (.s .o (.s (.s .o (.b (.l ⟨[(0, .kp 7), (1, .kp 8), (2, .kp 9), (11, .kp 10), (12, .kp 11), (13, .it .i64)], [], []⟩ (fun _ => (.s .o (.s (.c .o .o) (.s (.b (.s .o (.s (.s .o (.c (.s .o .o) .o)) (.s .o (.s .o (.s .o (.c (.s .o .o) .o))))))) .o))))))) (.s (.s .o (.c (.s .o .o) .o)) (.s .o .o))))
def slices_CompareFunc_Value_cf : Cf KK := ⟨CC, [], [], 39, [], none, false⟩
theorem slices_CompareFunc_Value_ok : SpOk Try.prog CC slices_CompareFunc_Value_sp := SpOk_by (F := slices_CompareFunc_Value_cf) (ps := [.v 29, .v 29, .f [88, 88] [3]]) (rs := [3]) (w := slices_CompareFunc_Value_o) CC_ok SsOk_n SLOk_n t45 (A := slices_CompareFunc_Value_an) (by kernel_rfl) (by kernel_rfl) (fun a0 a1 F2 r0 => show _ = _ by kernel_rfl)
def row_Compare_o (a0 a1 : List T_value_Value) (r0 : Int) : Prop :=
 ∃ z1, (slices_CompareFunc_Value_o a0 a1 value_Compare_o z1) /\ z1 = r0
def row_Compare_sp : Sp KK := ⟨17, [.v 29, .v 29], [3], appW (K := KK) [3] [.v 29, .v 29] row_Compare_o⟩
def row_Compare_an : An KK := (.s .o (.s .o .o))
def row_Compare_cf : Cf KK := ⟨CC, [value_Compare_sp, slices_CompareFunc_Value_sp], [], 8, [], none, false⟩
theorem row_Compare_ok : SpOk Try.prog CC row_Compare_sp := SpOk_by (F := row_Compare_cf) (ps := [.v 29, .v 29]) (rs := [3]) (w := row_Compare_o) CC_ok (SsOk_c value_Compare_ok (SsOk_c slices_CompareFunc_Value_ok SsOk_n)) SLOk_n t17 (A := row_Compare_an) (by kernel_rfl) (by kernel_rfl) (fun a0 a1 r0 => show _ = _ by kernel_rfl)
def slices_Values_Row_v0_o (a0 r0 : List (List T_value_Value)) : Prop :=
 a0 = r0
def slices_Values_Row_v0_s0 : Sl KK := ⟨64, [], ⟨[(0, .sl 29)], [], []⟩, ⟨[(2, .fn 88 [] [.px 1000000 0])], [(1000000, 24, [.sl 29])], []⟩, [], [(2, none)], true, fun _ _ _ => True⟩
def slices_Values_Row_v0_sl : Sl KK := ⟨64, [], ⟨[(0, .sl 29)], [], []⟩, ⟨[(2, .fn 88 [] [.px 1000000 0])], [(1000000, 24, [.sl 29])], []⟩, [], [(2, none)], true, apFs (K := KK) (ctT slices_Values_Row_v0_s0.ti) (ctT slices_Values_Row_v0_s0.te) [] slices_Values_Row_v0_o⟩
def slices_Values_Row_v0_an : An KK := (.s .o (.s .o .o))
def slices_Values_Row_v0_cf : Cf KK := ⟨CC, [], [], 4, [], none, false⟩
theorem slices_Values_Row_v0_ok : SlOk Try.prog CC slices_Values_Row_v0_sl := by
 intro fs env out hl hF hW
 obtain ⟨rfl, h0⟩ := apFs_n hW
 obtain ⟨a0, ea0, rfl, h1⟩ := apIn_c h0
 obtain ⟨rfl, h2⟩ := apIn_n h1
 obtain ⟨r0, er0, rfl, h3⟩ := apOut_c h2
 obtain ⟨rfl, h4⟩ := apOut_n h3
 show SlC Try.prog CC slices_Values_Row_v0_sl [] [.l 29 a0] [.l 29 r0]
 rw [show SlC Try.prog CC slices_Values_Row_v0_sl [] [.l 29 a0] [.l 29 r0] = SlC Try.prog CC slices_Values_Row_v0_s0 [] [.l 29 a0] [.l 29 r0] by kernel_rfl]
 exact DnL_by (F := slices_Values_Row_v0_cf) CC_ok SsOk_n SLOk_n t64 (A := slices_Values_Row_v0_an) (sp := slices_Values_Row_v0_s0) rfl (by kernel_rfl) (by kernel_rfl) (Nat.le_of_ble_eq_true (by kernel_rfl)) (fs := []) (env := [.l 29 a0]) (out := [.l 29 r0]) (by kernel_rfl) hF (X := slices_Values_Row_v0_o a0 r0) h4 (by kernel_rfl)
def slices_AppendSeq_Row_v0_L1 (a0 r0 : List (List T_value_Value)) (X1 : Int → (List (List T_value_Value)) → Prop) (x1 : Int) (x2 : List (List T_value_Value)) : Prop :=
 cnd (decide (x1 < (a0.length : Int))) ((0 <= x1) /\ (x1 < (a0.length : Int)) /\ ∃ y3 : (List T_value_Value), (a0[x1.toNat]? = some y3) /\ (x2.length <= 1000000000) /\ X1 (IntKind.i64.wrap (x1 + (1 : Int))) (x2 ++ ([y3] : List (List T_value_Value)))) (((a0 = a0)) /\ x2 = r0)
def slices_AppendSeq_Row_v0_o (a0 a1 r0 : List (List T_value_Value)) : Prop :=
 (Nat -> (a0.length <= maxLen -> ∀ X1 : Int -> (List (List T_value_Value)) -> Prop, (∀ x1 x2, slices_AppendSeq_Row_v0_L1 a0 r0 X1 x1 x2 -> X1 x1 x2) -> X1 (0 : Int) a1))
def slices_AppendSeq_Row_v0_L1i (a0 r0 : List (List T_value_Value)) (X1 : Int → (List (List T_value_Value)) → Prop) (x1 : Int) (x2 : List (List T_value_Value)) : Prop :=
 cnd (decide (x1 < (a0.length : Int))) ((0 <= x1) /\ (x1 < (a0.length : Int)) /\ ∃ y3 : (List T_value_Value), (a0[x1.toNat]? = some y3) /\ (x2.length <= 1000000000) /\ X1 (IntKind.i64.wrap (x1 + (1 : Int))) (x2 ++ ([y3] : List (List T_value_Value)))) (x2 = r0)
def slices_AppendSeq_Row_v0_oi (a0 a1 r0 : List (List T_value_Value)) : Prop :=
 (Nat -> (a0.length <= maxLen -> ∀ X1 : Int -> (List (List T_value_Value)) -> Prop, (∀ x1 x2, slices_AppendSeq_Row_v0_L1i a0 r0 X1 x1 x2 -> X1 x1 x2) -> X1 (0 : Int) a1))
theorem slices_AppendSeq_Row_v0_L1_m (a0 r0 : List (List T_value_Value)) {X1 : Int → (List (List T_value_Value)) → Prop} {x1 : Int} {x2 : List (List T_value_Value)} (h : slices_AppendSeq_Row_v0_L1i a0 r0 X1 x1 x2) : slices_AppendSeq_Row_v0_L1 a0 r0 X1 x1 x2 := by
 unfold slices_AppendSeq_Row_v0_L1
 unfold slices_AppendSeq_Row_v0_L1i at h
 refine cnd_mono h (fun h => ?_) (fun h => ?_)
 ·exact h
 ·exact ⟨by and_intros <;> first | rfl | trivial, h⟩
theorem slices_AppendSeq_Row_v0_i (a0 a1 r0 : List (List T_value_Value)) (h : slices_AppendSeq_Row_v0_oi a0 a1 r0) : slices_AppendSeq_Row_v0_o a0 a1 r0 := by
 unfold slices_AppendSeq_Row_v0_o
 unfold slices_AppendSeq_Row_v0_oi at h
 intro c
 replace h := h c
 intro c
 replace h := h c
 intro X1 k
 exact h X1 (fun x1 x2 q => k x1 x2 (slices_AppendSeq_Row_v0_L1_m a0 r0 q))
def slices_AppendSeq_Row_v0_s0 : Sl KK := ⟨101, [], ⟨[(0, .row 2000000), (1, .fn 88 [] [.px 2000001 0])], [(2000001, 24, [.sl 29])], [(2000000, 29)]⟩, ⟨[(4, .row 1000000)], [], [(1000000, 29)]⟩, [2000001], [(4, none)], false, fun _ _ _ => True⟩
def slices_AppendSeq_Row_v0_sl : Sl KK := ⟨101, [], ⟨[(0, .row 2000000), (1, .fn 88 [] [.px 2000001 0])], [(2000001, 24, [.sl 29])], [(2000000, 29)]⟩, ⟨[(4, .row 1000000)], [], [(1000000, 29)]⟩, [2000001], [(4, none)], false, apFs (K := KK) (ctT slices_AppendSeq_Row_v0_s0.ti) (ctT slices_AppendSeq_Row_v0_s0.te) [] slices_AppendSeq_Row_v0_o⟩
def slices_AppendSeq_Row_v0_an : An KK := (.s .o (.s (.s .o (.b (.g 1 ⟨[(2, .px 100002 0), (6, .fn 88 [] [.px 2000001 0])], [(100002, 24, [.row 2000000]), (2000001, 24, [.sl 29])], [(2000000, 29)]⟩ ⟨[(0, .kp 1), (5, .kp 6), (6, .kp 7), (7, .it .i64), (11, .kp 1), (12, .sl 88), (16, .kp 1), (19, .px 200002 0)], [(200002, 24, [.row 200011]), (2000001, 24, [.kp 9])], [(200011, 29)]⟩ (.s .o (.b (.l ⟨[(0, .kp 1), (5, .kp 6), (6, .kp 7), (7, .it .i64), (16, .kp 1), (19, .px 100002 0)], [(100002, 24, [.row 11]), (2000001, 24, [.kp 9])], [(11, 29)]⟩ (fun _ => (.s .o (.s (.c .o .o) (.s (.b (.s .o (.s .o (.c .o .o)))) .o))))))) .o (.b .o)))) (.s .o .o)))
def slices_AppendSeq_Row_v0_cf : Cf KK := ⟨CC, [], [], 13, [(88, c88)], none, false⟩
theorem slices_AppendSeq_Row_v0_ok : SlOk Try.prog CC slices_AppendSeq_Row_v0_sl := by
 intro fs env out hl hF hW
 obtain ⟨rfl, h0⟩ := apFs_n hW
 obtain ⟨a0, ea0, rfl, h1⟩ := apIn_c h0
 obtain ⟨a1, ea1, rfl, h2⟩ := apIn_c h1
 obtain ⟨rfl, h3⟩ := apIn_n h2
 obtain ⟨r0, er0, rfl, h4⟩ := apOut_c h3
 obtain ⟨rfl, h5⟩ := apOut_n h4
 show SlC Try.prog CC slices_AppendSeq_Row_v0_sl [] [.l 29 a0, .l 29 a1] [.l 29 r0]
 rw [show SlC Try.prog CC slices_AppendSeq_Row_v0_sl [] [.l 29 a0, .l 29 a1] [.l 29 r0] = SlC Try.prog CC slices_AppendSeq_Row_v0_s0 [] [.l 29 a0, .l 29 a1] [.l 29 r0] by kernel_rfl]
 exact DnL_by (F := slices_AppendSeq_Row_v0_cf) CC_ok SsOk_n SLOk_n t101 (A := slices_AppendSeq_Row_v0_an) (sp := slices_AppendSeq_Row_v0_s0) rfl (by kernel_rfl) (by kernel_rfl) (Nat.le_of_ble_eq_true (by kernel_rfl)) (fs := []) (env := [.l 29 a0, .l 29 a1]) (out := [.l 29 r0]) (by kernel_rfl) hF (X := slices_AppendSeq_Row_v0_o a0 a1 r0) h5 (by kernel_rfl) (hI := (IOk_c t88 IOk_n))
def slices_Collect_Row_v0_o (a0 r0 : List (List T_value_Value)) : Prop :=
 ∃ z1, (slices_AppendSeq_Row_v0_o a0 ([] : List (List T_value_Value)) z1) /\ ((a0 = a0)) /\ z1 = r0
def slices_Collect_Row_v0_oi (a0 r0 : List (List T_value_Value)) : Prop :=
 ∃ z1, (slices_AppendSeq_Row_v0_o a0 ([] : List (List T_value_Value)) z1) /\ z1 = r0
theorem slices_Collect_Row_v0_i (a0 r0 : List (List T_value_Value)) (h : slices_Collect_Row_v0_oi a0 r0) : slices_Collect_Row_v0_o a0 r0 := by
 unfold slices_Collect_Row_v0_o
 unfold slices_Collect_Row_v0_oi at h
 obtain ⟨z1, h⟩ := h
 refine ⟨z1, ?_⟩
 obtain ⟨h0, h⟩ := h
 refine ⟨h0, ?_⟩
 exact ⟨by and_intros <;> first | rfl | trivial, h⟩
def slices_Collect_Row_v0_s0 : Sl KK := ⟨86, [], ⟨[(0, .fn 88 [] [.px 2000000 0])], [(2000000, 24, [.sl 29])], []⟩, ⟨[(2, .row 1000000)], [], [(1000000, 29)]⟩, [2000000], [(2, none)], false, fun _ _ _ => True⟩
def slices_Collect_Row_v0_sl : Sl KK := ⟨86, [], ⟨[(0, .fn 88 [] [.px 2000000 0])], [(2000000, 24, [.sl 29])], []⟩, ⟨[(2, .row 1000000)], [], [(1000000, 29)]⟩, [2000000], [(2, none)], false, apFs (K := KK) (ctT slices_Collect_Row_v0_s0.ti) (ctT slices_Collect_Row_v0_s0.te) [] slices_Collect_Row_v0_o⟩
def slices_Collect_Row_v0_an : An KK := (.s .o (.s .o .o))
def slices_Collect_Row_v0_cf : Cf KK := ⟨CC, [], [slices_AppendSeq_Row_v0_sl], 5, [], none, false⟩
theorem slices_Collect_Row_v0_ok : SlOk Try.prog CC slices_Collect_Row_v0_sl := by
 intro fs env out hl hF hW
 obtain ⟨rfl, h0⟩ := apFs_n hW
 obtain ⟨a0, ea0, rfl, h1⟩ := apIn_c h0
 obtain ⟨rfl, h2⟩ := apIn_n h1
 obtain ⟨r0, er0, rfl, h3⟩ := apOut_c h2
 obtain ⟨rfl, h4⟩ := apOut_n h3
 show SlC Try.prog CC slices_Collect_Row_v0_sl [] [.l 29 a0] [.l 29 r0]
 rw [show SlC Try.prog CC slices_Collect_Row_v0_sl [] [.l 29 a0] [.l 29 r0] = SlC Try.prog CC slices_Collect_Row_v0_s0 [] [.l 29 a0] [.l 29 r0] by kernel_rfl]
 exact DnL_by (F := slices_Collect_Row_v0_cf) CC_ok SsOk_n (SLOk_c slices_AppendSeq_Row_v0_ok SLOk_n) t86 (A := slices_Collect_Row_v0_an) (sp := slices_Collect_Row_v0_s0) rfl (by kernel_rfl) (by kernel_rfl) (Nat.le_of_ble_eq_true (by kernel_rfl)) (fs := []) (env := [.l 29 a0]) (out := [.l 29 r0]) (by kernel_rfl) hF (X := slices_Collect_Row_v0_o a0 r0) h4 (by kernel_rfl)
def slices_insertionSortCmpFunc_Row_v0_J3 (x3 : Int) (X2 X1 : Int → (List (List T_value_Value)) → Prop) (x1 : Int) (x5 : Bool) (x6 : List (List T_value_Value)) : Prop :=
 cnd x5 ((0 <= (IntKind.i64.wrap (x3 - (1 : Int)))) /\ ((IntKind.i64.wrap (x3 - (1 : Int))) < (x6.length : Int)) /\ ∃ y7 : (List T_value_Value), (x6[(IntKind.i64.wrap (x3 - (1 : Int))).toNat]? = some y7) /\ (0 <= x3) /\ (x3 < (x6.length : Int)) /\ ∃ y8 : (List T_value_Value), (x6[x3.toNat]? = some y8) /\ (0 <= x3) /\ (x3 < (x6.length : Int)) /\ ∃ y9 : (List T_value_Value), (x6[x3.toNat]? = some y9) /\ (0 <= (IntKind.i64.wrap (x3 - (1 : Int)))) /\ ((IntKind.i64.wrap (x3 - (1 : Int))) < ((x6.set x3.toNat y7).length : Int)) /\ ∃ y10 : (List T_value_Value), ((x6.set x3.toNat y7)[(IntKind.i64.wrap (x3 - (1 : Int))).toNat]? = some y10) /\ X2 (IntKind.i64.wrap (x3 - (1 : Int))) ((x6.set x3.toNat y7).set ((IntKind.i64.wrap (x3 - (1 : Int))).toNat) y8)) (X1 (IntKind.i64.wrap (x1 + (1 : Int))) x6)
def slices_insertionSortCmpFunc_Row_v0_L2 (X1 : Int → (List (List T_value_Value)) → Prop) (x1 a0 : Int) (g3 : (List T_value_Value) → (List T_value_Value) → Int → Prop) (X2 : Int → (List (List T_value_Value)) → Prop) (x3 : Int) (x4 : List (List T_value_Value)) : Prop :=
 ∀ J3 : Bool -> (List (List T_value_Value)) -> Prop, (∀ x5 x6, slices_insertionSortCmpFunc_Row_v0_J3 x3 X2 X1 x1 x5 x6 -> J3 x5 x6) -> cnd (decide (a0 < x3)) ((0 <= x3) /\ (x3 < (x4.length : Int)) /\ ∃ y11 : (List T_value_Value), (x4[x3.toNat]? = some y11) /\ (0 <= (IntKind.i64.wrap (x3 - (1 : Int)))) /\ ((IntKind.i64.wrap (x3 - (1 : Int))) < (x4.length : Int)) /\ ∃ y12 : (List T_value_Value), (x4[(IntKind.i64.wrap (x3 - (1 : Int))).toNat]? = some y12) /\ ∃ z13, (g3 y11 y12 z13) /\ J3 (decide (z13 < (0 : Int))) x4) (J3 false x4)
def slices_insertionSortCmpFunc_Row_v0_L1 (a1 a0 : Int) (g3 : (List T_value_Value) → (List T_value_Value) → Int → Prop) (r0 : List (List T_value_Value)) (X1 : Int → (List (List T_value_Value)) → Prop) (x1 : Int) (x2 : List (List T_value_Value)) : Prop :=
 cnd (decide (x1 < a1)) (∀ X2 : Int -> (List (List T_value_Value)) -> Prop, (∀ x3 x4, slices_insertionSortCmpFunc_Row_v0_L2 X1 x1 a0 g3 X2 x3 x4 -> X2 x3 x4) -> X2 x1 x2) (x2 = r0)
def slices_insertionSortCmpFunc_Row_v0_o (g3 : (List T_value_Value) → (List T_value_Value) → Int → Prop) (a0 a1 : Int) (a2 r0 : List (List T_value_Value)) : Prop :=
 ∀ X1 : Int -> (List (List T_value_Value)) -> Prop, (∀ x1 x2, slices_insertionSortCmpFunc_Row_v0_L1 a1 a0 g3 r0 X1 x1 x2 -> X1 x1 x2) -> X1 (IntKind.i64.wrap (a0 + (1 : Int))) a2
def slices_insertionSortCmpFunc_Row_v0_J3i (X1 X2 : Int → (List (List T_value_Value)) → Prop) (x1 x3 : Int) (x5 : Bool) (x6 : List (List T_value_Value)) : Prop :=
 cnd x5 ((0 <= (IntKind.i64.wrap (x3 - (1 : Int)))) /\ ((IntKind.i64.wrap (x3 - (1 : Int))) < (x6.length : Int)) /\ ∃ y7 : (List T_value_Value), (x6[(IntKind.i64.wrap (x3 - (1 : Int))).toNat]? = some y7) /\ (0 <= x3) /\ (x3 < (x6.length : Int)) /\ ∃ y8 : (List T_value_Value), (x6[x3.toNat]? = some y8) /\ (0 <= x3) /\ (x3 < (x6.length : Int)) /\ ∃ y9 : (List T_value_Value), (x6[x3.toNat]? = some y9) /\ (0 <= (IntKind.i64.wrap (x3 - (1 : Int)))) /\ ((IntKind.i64.wrap (x3 - (1 : Int))) < ((x6.set x3.toNat y7).length : Int)) /\ ∃ y10 : (List T_value_Value), ((x6.set x3.toNat y7)[(IntKind.i64.wrap (x3 - (1 : Int))).toNat]? = some y10) /\ X2 (IntKind.i64.wrap (x3 - (1 : Int))) ((x6.set x3.toNat y7).set ((IntKind.i64.wrap (x3 - (1 : Int))).toNat) y8)) (X1 (IntKind.i64.wrap (x1 + (1 : Int))) x6)
def slices_insertionSortCmpFunc_Row_v0_L2i (X1 : Int → (List (List T_value_Value)) → Prop) (a0 : Int) (g3 : (List T_value_Value) → (List T_value_Value) → Int → Prop) (x1 : Int) (X2 : Int → (List (List T_value_Value)) → Prop) (x3 : Int) (x4 : List (List T_value_Value)) : Prop :=
 cnd (decide (a0 < x3)) ((0 <= x3) /\ (x3 < (x4.length : Int)) /\ ∃ y11 : (List T_value_Value), (x4[x3.toNat]? = some y11) /\ (0 <= (IntKind.i64.wrap (x3 - (1 : Int)))) /\ ((IntKind.i64.wrap (x3 - (1 : Int))) < (x4.length : Int)) /\ ∃ y12 : (List T_value_Value), (x4[(IntKind.i64.wrap (x3 - (1 : Int))).toNat]? = some y12) /\ ∃ z13, (g3 y11 y12 z13) /\ slices_insertionSortCmpFunc_Row_v0_J3i X1 X2 x1 x3 (decide (z13 < (0 : Int))) x4) (slices_insertionSortCmpFunc_Row_v0_J3i X1 X2 x1 x3 false x4)
def slices_insertionSortCmpFunc_Row_v0_L1i (a0 a1 : Int) (g3 : (List T_value_Value) → (List T_value_Value) → Int → Prop) (r0 : List (List T_value_Value)) (X1 : Int → (List (List T_value_Value)) → Prop) (x1 : Int) (x2 : List (List T_value_Value)) : Prop :=
 cnd (decide (x1 < a1)) (∀ X2 : Int -> (List (List T_value_Value)) -> Prop, (∀ x3 x4, slices_insertionSortCmpFunc_Row_v0_L2i X1 a0 g3 x1 X2 x3 x4 -> X2 x3 x4) -> X2 x1 x2) (x2 = r0)
def slices_insertionSortCmpFunc_Row_v0_oi (g3 : (List T_value_Value) → (List T_value_Value) → Int → Prop) (a0 a1 : Int) (a2 r0 : List (List T_value_Value)) : Prop :=
 ∀ X1 : Int -> (List (List T_value_Value)) -> Prop, (∀ x1 x2, slices_insertionSortCmpFunc_Row_v0_L1i a0 a1 g3 r0 X1 x1 x2 -> X1 x1 x2) -> X1 (IntKind.i64.wrap (a0 + (1 : Int))) a2
theorem slices_insertionSortCmpFunc_Row_v0_J3_m (X1 X2 : Int → (List (List T_value_Value)) → Prop) (x1 x3 : Int) {x5 : Bool} {x6 : List (List T_value_Value)} (h : slices_insertionSortCmpFunc_Row_v0_J3i X1 X2 x1 x3 x5 x6) : slices_insertionSortCmpFunc_Row_v0_J3 x3 X2 X1 x1 x5 x6 := by
 unfold slices_insertionSortCmpFunc_Row_v0_J3
 unfold slices_insertionSortCmpFunc_Row_v0_J3i at h
 exact h
theorem slices_insertionSortCmpFunc_Row_v0_L2_m (X1 : Int → (List (List T_value_Value)) → Prop) (a0 : Int) (g3 : (List T_value_Value) → (List T_value_Value) → Int → Prop) (x1 : Int) {X2 : Int → (List (List T_value_Value)) → Prop} {x3 : Int} {x4 : List (List T_value_Value)} (h : slices_insertionSortCmpFunc_Row_v0_L2i X1 a0 g3 x1 X2 x3 x4) : slices_insertionSortCmpFunc_Row_v0_L2 X1 x1 a0 g3 X2 x3 x4 := by
 unfold slices_insertionSortCmpFunc_Row_v0_L2
 unfold slices_insertionSortCmpFunc_Row_v0_L2i at h
 intro J3 kJ3
 have hJ3 : ∀ x5 x6, slices_insertionSortCmpFunc_Row_v0_J3i X1 X2 x1 x3 x5 x6 -> J3 x5 x6 := fun x5 x6 q => kJ3 x5 x6 (slices_insertionSortCmpFunc_Row_v0_J3_m X1 X2 x1 x3 q)
 refine cnd_mono h (fun h => ?_) (fun h => ?_)
 ·obtain ⟨h0, h⟩ := h
  refine ⟨h0, ?_⟩
  obtain ⟨h0, h⟩ := h
  refine ⟨h0, ?_⟩
  obtain ⟨y11, h⟩ := h
  refine ⟨y11, ?_⟩
  obtain ⟨h0, h⟩ := h
  refine ⟨h0, ?_⟩
  obtain ⟨h0, h⟩ := h
  refine ⟨h0, ?_⟩
  obtain ⟨h0, h⟩ := h
  refine ⟨h0, ?_⟩
  obtain ⟨y12, h⟩ := h
  refine ⟨y12, ?_⟩
  obtain ⟨h0, h⟩ := h
  refine ⟨h0, ?_⟩
  obtain ⟨z13, h⟩ := h
  refine ⟨z13, ?_⟩
  obtain ⟨h0, h⟩ := h
  refine ⟨h0, ?_⟩
  exact hJ3 _ _ h
 ·exact hJ3 _ _ h
theorem slices_insertionSortCmpFunc_Row_v0_L1_m (a0 a1 : Int) (g3 : (List T_value_Value) → (List T_value_Value) → Int → Prop) (r0 : List (List T_value_Value)) {X1 : Int → (List (List T_value_Value)) → Prop} {x1 : Int} {x2 : List (List T_value_Value)} (h : slices_insertionSortCmpFunc_Row_v0_L1i a0 a1 g3 r0 X1 x1 x2) : slices_insertionSortCmpFunc_Row_v0_L1 a1 a0 g3 r0 X1 x1 x2 := by
 unfold slices_insertionSortCmpFunc_Row_v0_L1
 unfold slices_insertionSortCmpFunc_Row_v0_L1i at h
 refine cnd_mono h (fun h => ?_) (fun h => ?_)
 ·intro X2 k
  exact h X2 (fun x3 x4 q => k x3 x4 (slices_insertionSortCmpFunc_Row_v0_L2_m X1 a0 g3 x1 q))
 ·exact h
theorem slices_insertionSortCmpFunc_Row_v0_i (g3 : (List T_value_Value) → (List T_value_Value) → Int → Prop) (a0 a1 : Int) (a2 r0 : List (List T_value_Value)) (h : slices_insertionSortCmpFunc_Row_v0_oi g3 a0 a1 a2 r0) : slices_insertionSortCmpFunc_Row_v0_o g3 a0 a1 a2 r0 := by
 unfold slices_insertionSortCmpFunc_Row_v0_o
 unfold slices_insertionSortCmpFunc_Row_v0_oi at h
 intro X1 k
 exact h X1 (fun x1 x2 q => k x1 x2 (slices_insertionSortCmpFunc_Row_v0_L1_m a0 a1 g3 r0 q))
def slices_insertionSortCmpFunc_Row_v0_s0 : Sl KK := ⟨104, [(3, [29, 29], [3])], ⟨[(0, .row 2000000), (1, .it .i64), (2, .it .i64)], [], [(2000000, 29)]⟩, ⟨[], [], [(2000000, 29)]⟩, [], [], true, fun _ _ _ => True⟩
def slices_insertionSortCmpFunc_Row_v0_sl : Sl KK := ⟨104, [(3, [29, 29], [3])], ⟨[(0, .row 2000000), (1, .it .i64), (2, .it .i64)], [], [(2000000, 29)]⟩, ⟨[], [], [(2000000, 29)]⟩, [], [], true, apFs (K := KK) (ctT slices_insertionSortCmpFunc_Row_v0_s0.ti) (ctT slices_insertionSortCmpFunc_Row_v0_s0.te) [(3, [29, 29], [3])] slices_insertionSortCmpFunc_Row_v0_o⟩
def slices_insertionSortCmpFunc_Row_v0_an : An KK := (.s .o (.b (.l ⟨[(0, .row 2000000), (1, .kp 1), (2, .kp 2), (3, .kp 3), (8, .it .i64)], [], [(2000000, 29)]⟩ (fun _ => (.s (.s .o (.c .o .o)) (.s (.b (.s .o (.b (.l ⟨[(0, .row 2000000), (1, .kp 1), (2, .kp 2), (3, .kp 3), (8, .kp 31), (9, .it .i64)], [], [(2000000, 29)]⟩ (fun _ => (.s (.j ⟨[(0, .row 2000000), (1, .kp 1), (2, .kp 2), (3, .kp 3), (8, .kp 31), (9, .kp 36), (34, .bl)], [], [(2000000, 29)]⟩ .o (fun _ => (.c .o .o))) (.s (.b .o) .o))))))) .o))))))
def slices_insertionSortCmpFunc_Row_v0_cf : Cf KK := ⟨CC, [], [], 53, [], none, false⟩
theorem slices_insertionSortCmpFunc_Row_v0_ok : SlOk Try.prog CC slices_insertionSortCmpFunc_Row_v0_sl := by
 intro fs env out hl hF hW
 obtain ⟨F3, fs3, rfl, h0⟩ := apFs_c hW
 obtain ⟨rfl, h1⟩ := apFs_n h0
 obtain ⟨a0, ea0, rfl, h2⟩ := apIn_c h1
 obtain ⟨a1, ea1, rfl, h3⟩ := apIn_c h2
 obtain ⟨a2, ea2, rfl, h4⟩ := apIn_c h3
 obtain ⟨rfl, h5⟩ := apIn_n h4
 obtain ⟨r0, er0, rfl, h6⟩ := apOut_c h5
 obtain ⟨rfl, h7⟩ := apOut_n h6
 show SlC Try.prog CC slices_insertionSortCmpFunc_Row_v0_sl [F3] [.i a0, .i a1, .l 29 a2] [.l 29 r0]
 rw [show SlC Try.prog CC slices_insertionSortCmpFunc_Row_v0_sl [F3] [.i a0, .i a1, .l 29 a2] [.l 29 r0] = SlC Try.prog CC slices_insertionSortCmpFunc_Row_v0_s0 [F3] [.i a0, .i a1, .l 29 a2] [.l 29 r0] by kernel_rfl]
 exact DnL_by (F := slices_insertionSortCmpFunc_Row_v0_cf) CC_ok SsOk_n SLOk_n t104 (A := slices_insertionSortCmpFunc_Row_v0_an) (sp := slices_insertionSortCmpFunc_Row_v0_s0) rfl (by kernel_rfl) (by kernel_rfl) (Nat.le_of_ble_eq_true (by kernel_rfl)) (fs := [F3]) (env := [.i a0, .i a1, .l 29 a2]) (out := [.l 29 r0]) (by kernel_rfl) hF (X := slices_insertionSortCmpFunc_Row_v0_o (curF [3] [29, 29] F3.W) a0 a1 a2 r0) h7 (by kernel_rfl)
def slices_swapRangeCmpFunc_Row_v0_L1 (a2 a1 a0 : Int) (r0 : List (List T_value_Value)) (X1 : Int → (List (List T_value_Value)) → Prop) (x1 : Int) (x2 : List (List T_value_Value)) : Prop :=
 cnd (decide (x1 < a2)) ((0 <= (IntKind.i64.wrap (a1 + x1))) /\ ((IntKind.i64.wrap (a1 + x1)) < (x2.length : Int)) /\ ∃ y3 : (List T_value_Value), (x2[(IntKind.i64.wrap (a1 + x1)).toNat]? = some y3) /\ (0 <= (IntKind.i64.wrap (a0 + x1))) /\ ((IntKind.i64.wrap (a0 + x1)) < (x2.length : Int)) /\ ∃ y4 : (List T_value_Value), (x2[(IntKind.i64.wrap (a0 + x1)).toNat]? = some y4) /\ (0 <= (IntKind.i64.wrap (a0 + x1))) /\ ((IntKind.i64.wrap (a0 + x1)) < (x2.length : Int)) /\ ∃ y5 : (List T_value_Value), (x2[(IntKind.i64.wrap (a0 + x1)).toNat]? = some y5) /\ (0 <= (IntKind.i64.wrap (a1 + x1))) /\ ((IntKind.i64.wrap (a1 + x1)) < ((x2.set ((IntKind.i64.wrap (a0 + x1)).toNat) y3).length : Int)) /\ ∃ y6 : (List T_value_Value), ((x2.set ((IntKind.i64.wrap (a0 + x1)).toNat) y3)[(IntKind.i64.wrap (a1 + x1)).toNat]? = some y6) /\ X1 (IntKind.i64.wrap (x1 + (1 : Int))) ((x2.set ((IntKind.i64.wrap (a0 + x1)).toNat) y3).set ((IntKind.i64.wrap (a1 + x1)).toNat) y4)) (x2 = r0)
def slices_swapRangeCmpFunc_Row_v0_o (g4 : (List T_value_Value) → (List T_value_Value) → Int → Prop) (a0 a1 a2 : Int) (a3 r0 : List (List T_value_Value)) : Prop :=
 ∀ X1 : Int -> (List (List T_value_Value)) -> Prop, (∀ x1 x2, slices_swapRangeCmpFunc_Row_v0_L1 a2 a1 a0 r0 X1 x1 x2 -> X1 x1 x2) -> X1 (0 : Int) a3
def slices_swapRangeCmpFunc_Row_v0_L1i (a0 a1 a2 : Int) (r0 : List (List T_value_Value)) (X1 : Int → (List (List T_value_Value)) → Prop) (x1 : Int) (x2 : List (List T_value_Value)) : Prop :=
 cnd (decide (x1 < a2)) ((0 <= (IntKind.i64.wrap (a1 + x1))) /\ ((IntKind.i64.wrap (a1 + x1)) < (x2.length : Int)) /\ ∃ y3 : (List T_value_Value), (x2[(IntKind.i64.wrap (a1 + x1)).toNat]? = some y3) /\ (0 <= (IntKind.i64.wrap (a0 + x1))) /\ ((IntKind.i64.wrap (a0 + x1)) < (x2.length : Int)) /\ ∃ y4 : (List T_value_Value), (x2[(IntKind.i64.wrap (a0 + x1)).toNat]? = some y4) /\ (0 <= (IntKind.i64.wrap (a0 + x1))) /\ ((IntKind.i64.wrap (a0 + x1)) < (x2.length : Int)) /\ ∃ y5 : (List T_value_Value), (x2[(IntKind.i64.wrap (a0 + x1)).toNat]? = some y5) /\ (0 <= (IntKind.i64.wrap (a1 + x1))) /\ ((IntKind.i64.wrap (a1 + x1)) < ((x2.set ((IntKind.i64.wrap (a0 + x1)).toNat) y3).length : Int)) /\ ∃ y6 : (List T_value_Value), ((x2.set ((IntKind.i64.wrap (a0 + x1)).toNat) y3)[(IntKind.i64.wrap (a1 + x1)).toNat]? = some y6) /\ X1 (IntKind.i64.wrap (x1 + (1 : Int))) ((x2.set ((IntKind.i64.wrap (a0 + x1)).toNat) y3).set ((IntKind.i64.wrap (a1 + x1)).toNat) y4)) (x2 = r0)
def slices_swapRangeCmpFunc_Row_v0_oi (g4 : (List T_value_Value) → (List T_value_Value) → Int → Prop) (a0 a1 a2 : Int) (a3 r0 : List (List T_value_Value)) : Prop :=
 ∀ X1 : Int -> (List (List T_value_Value)) -> Prop, (∀ x1 x2, slices_swapRangeCmpFunc_Row_v0_L1i a0 a1 a2 r0 X1 x1 x2 -> X1 x1 x2) -> X1 (0 : Int) a3
theorem slices_swapRangeCmpFunc_Row_v0_L1_m (a0 a1 a2 : Int) (r0 : List (List T_value_Value)) {X1 : Int → (List (List T_value_Value)) → Prop} {x1 : Int} {x2 : List (List T_value_Value)} (h : slices_swapRangeCmpFunc_Row_v0_L1i a0 a1 a2 r0 X1 x1 x2) : slices_swapRangeCmpFunc_Row_v0_L1 a2 a1 a0 r0 X1 x1 x2 := by
 unfold slices_swapRangeCmpFunc_Row_v0_L1
 unfold slices_swapRangeCmpFunc_Row_v0_L1i at h
 exact h
theorem slices_swapRangeCmpFunc_Row_v0_i (g4 : (List T_value_Value) → (List T_value_Value) → Int → Prop) (a0 a1 a2 : Int) (a3 r0 : List (List T_value_Value)) (h : slices_swapRangeCmpFunc_Row_v0_oi g4 a0 a1 a2 a3 r0) : slices_swapRangeCmpFunc_Row_v0_o g4 a0 a1 a2 a3 r0 := by
 unfold slices_swapRangeCmpFunc_Row_v0_o
 unfold slices_swapRangeCmpFunc_Row_v0_oi at h
 intro X1 k
 exact h X1 (fun x1 x2 q => k x1 x2 (slices_swapRangeCmpFunc_Row_v0_L1_m a0 a1 a2 r0 q))
def slices_swapRangeCmpFunc_Row_v0_s0 : Sl KK := ⟨108, [(4, [29, 29], [3])], ⟨[(0, .row 2000000), (1, .it .i64), (2, .it .i64), (3, .it .i64)], [], [(2000000, 29)]⟩, ⟨[], [], [(2000000, 29)]⟩, [], [], true, fun _ _ _ => True⟩
def slices_swapRangeCmpFunc_Row_v0_sl : Sl KK := ⟨108, [(4, [29, 29], [3])], ⟨[(0, .row 2000000), (1, .it .i64), (2, .it .i64), (3, .it .i64)], [], [(2000000, 29)]⟩, ⟨[], [], [(2000000, 29)]⟩, [], [], true, apFs (K := KK) (ctT slices_swapRangeCmpFunc_Row_v0_s0.ti) (ctT slices_swapRangeCmpFunc_Row_v0_s0.te) [(4, [29, 29], [3])] slices_swapRangeCmpFunc_Row_v0_o⟩
def slices_swapRangeCmpFunc_Row_v0_an : An KK := (.s .o (.b (.l ⟨[(0, .row 2000000), (1, .kp 1), (2, .kp 2), (3, .kp 3), (10, .it .i64)], [], [(2000000, 29)]⟩ (fun _ => (.s (.s .o (.c .o .o)) (.s (.b .o) .o))))))
def slices_swapRangeCmpFunc_Row_v0_cf : Cf KK := ⟨CC, [], [], 38, [], none, false⟩
theorem slices_swapRangeCmpFunc_Row_v0_ok : SlOk Try.prog CC slices_swapRangeCmpFunc_Row_v0_sl := by
 intro fs env out hl hF hW
 obtain ⟨F4, fs4, rfl, h0⟩ := apFs_c hW
 obtain ⟨rfl, h1⟩ := apFs_n h0
 obtain ⟨a0, ea0, rfl, h2⟩ := apIn_c h1
 obtain ⟨a1, ea1, rfl, h3⟩ := apIn_c h2
 obtain ⟨a2, ea2, rfl, h4⟩ := apIn_c h3
 obtain ⟨a3, ea3, rfl, h5⟩ := apIn_c h4
 obtain ⟨rfl, h6⟩ := apIn_n h5
 obtain ⟨r0, er0, rfl, h7⟩ := apOut_c h6
 obtain ⟨rfl, h8⟩ := apOut_n h7
 show SlC Try.prog CC slices_swapRangeCmpFunc_Row_v0_sl [F4] [.i a0, .i a1, .i a2, .l 29 a3] [.l 29 r0]
 rw [show SlC Try.prog CC slices_swapRangeCmpFunc_Row_v0_sl [F4] [.i a0, .i a1, .i a2, .l 29 a3] [.l 29 r0] = SlC Try.prog CC slices_swapRangeCmpFunc_Row_v0_s0 [F4] [.i a0, .i a1, .i a2, .l 29 a3] [.l 29 r0] by kernel_rfl]
 exact DnL_by (F := slices_swapRangeCmpFunc_Row_v0_cf) CC_ok SsOk_n SLOk_n t108 (A := slices_swapRangeCmpFunc_Row_v0_an) (sp := slices_swapRangeCmpFunc_Row_v0_s0) rfl (by kernel_rfl) (by kernel_rfl) (Nat.le_of_ble_eq_true (by kernel_rfl)) (fs := [F4]) (env := [.i a0, .i a1, .i a2, .l 29 a3]) (out := [.l 29 r0]) (by kernel_rfl) hF (X := slices_swapRangeCmpFunc_Row_v0_o (curF [3] [29, 29] F4.W) a0 a1 a2 a3 r0) h8 (by kernel_rfl)
def slices_rotateCmpFunc_Row_v0_L1 (g4 : (List T_value_Value) → (List T_value_Value) → Int → Prop) (a1 : Int) (r0 : List (List T_value_Value)) (X1 : Int → Int → (List (List T_value_Value)) → Prop) (x1 x2 : Int) (x3 : List (List T_value_Value)) : Prop :=
 cnd (!(x1 == x2)) (cnd (decide (x2 < x1)) (∃ z4, (slices_swapRangeCmpFunc_Row_v0_o g4 (IntKind.i64.wrap (a1 - x1)) a1 x2 x3 z4) /\ (z4.length = x3.length) /\ X1 (IntKind.i64.wrap (x1 - x2)) x2 z4) (∃ z5, (slices_swapRangeCmpFunc_Row_v0_o g4 (IntKind.i64.wrap (a1 - x1)) (IntKind.i64.wrap ((IntKind.i64.wrap (a1 + x2)) - x1)) x1 x3 z5) /\ (z5.length = x3.length) /\ X1 x1 (IntKind.i64.wrap (x2 - x1)) z5)) (∃ z6, (slices_swapRangeCmpFunc_Row_v0_o g4 (IntKind.i64.wrap (a1 - x1)) a1 x1 x3 z6) /\ (z6.length = x3.length) /\ z6 = r0)
def slices_rotateCmpFunc_Row_v0_o (g4 : (List T_value_Value) → (List T_value_Value) → Int → Prop) (a0 a1 a2 : Int) (a3 r0 : List (List T_value_Value)) : Prop :=
 ∀ X1 : Int -> Int -> (List (List T_value_Value)) -> Prop, (∀ x1 x2 x3, slices_rotateCmpFunc_Row_v0_L1 g4 a1 r0 X1 x1 x2 x3 -> X1 x1 x2 x3) -> X1 (IntKind.i64.wrap (a1 - a0)) (IntKind.i64.wrap (a2 - a1)) a3
def slices_rotateCmpFunc_Row_v0_L1i (a1 : Int) (g4 : (List T_value_Value) → (List T_value_Value) → Int → Prop) (r0 : List (List T_value_Value)) (X1 : Int → Int → (List (List T_value_Value)) → Prop) (x1 x2 : Int) (x3 : List (List T_value_Value)) : Prop :=
 cnd (!(x1 == x2)) (cnd (decide (x2 < x1)) (∃ z4, (slices_swapRangeCmpFunc_Row_v0_o g4 (IntKind.i64.wrap (a1 - x1)) a1 x2 x3 z4) /\ (z4.length = x3.length) /\ X1 (IntKind.i64.wrap (x1 - x2)) x2 z4) (∃ z5, (slices_swapRangeCmpFunc_Row_v0_o g4 (IntKind.i64.wrap (a1 - x1)) (IntKind.i64.wrap ((IntKind.i64.wrap (a1 + x2)) - x1)) x1 x3 z5) /\ (z5.length = x3.length) /\ X1 x1 (IntKind.i64.wrap (x2 - x1)) z5)) (∃ z6, (slices_swapRangeCmpFunc_Row_v0_o g4 (IntKind.i64.wrap (a1 - x1)) a1 x1 x3 z6) /\ (z6.length = x3.length) /\ z6 = r0)
def slices_rotateCmpFunc_Row_v0_oi (g4 : (List T_value_Value) → (List T_value_Value) → Int → Prop) (a0 a1 a2 : Int) (a3 r0 : List (List T_value_Value)) : Prop :=
 ∀ X1 : Int -> Int -> (List (List T_value_Value)) -> Prop, (∀ x1 x2 x3, slices_rotateCmpFunc_Row_v0_L1i a1 g4 r0 X1 x1 x2 x3 -> X1 x1 x2 x3) -> X1 (IntKind.i64.wrap (a1 - a0)) (IntKind.i64.wrap (a2 - a1)) a3
theorem slices_rotateCmpFunc_Row_v0_L1_m (a1 : Int) (g4 : (List T_value_Value) → (List T_value_Value) → Int → Prop) (r0 : List (List T_value_Value)) {X1 : Int → Int → (List (List T_value_Value)) → Prop} {x1 x2 : Int} {x3 : List (List T_value_Value)} (h : slices_rotateCmpFunc_Row_v0_L1i a1 g4 r0 X1 x1 x2 x3) : slices_rotateCmpFunc_Row_v0_L1 g4 a1 r0 X1 x1 x2 x3 := by
 unfold slices_rotateCmpFunc_Row_v0_L1
 unfold slices_rotateCmpFunc_Row_v0_L1i at h
 exact h
theorem slices_rotateCmpFunc_Row_v0_i (g4 : (List T_value_Value) → (List T_value_Value) → Int → Prop) (a0 a1 a2 : Int) (a3 r0 : List (List T_value_Value)) (h : slices_rotateCmpFunc_Row_v0_oi g4 a0 a1 a2 a3 r0) : slices_rotateCmpFunc_Row_v0_o g4 a0 a1 a2 a3 r0 := by
 unfold slices_rotateCmpFunc_Row_v0_o
 unfold slices_rotateCmpFunc_Row_v0_oi at h
 intro X1 k
 exact h X1 (fun x1 x2 x3 q => k x1 x2 x3 (slices_rotateCmpFunc_Row_v0_L1_m a1 g4 r0 q))
def slices_rotateCmpFunc_Row_v0_s0 : Sl KK := ⟨107, [(4, [29, 29], [3])], ⟨[(0, .row 2000000), (1, .it .i64), (2, .it .i64), (3, .it .i64)], [], [(2000000, 29)]⟩, ⟨[], [], [(2000000, 29)]⟩, [], [], true, fun _ _ _ => True⟩
def slices_rotateCmpFunc_Row_v0_sl : Sl KK := ⟨107, [(4, [29, 29], [3])], ⟨[(0, .row 2000000), (1, .it .i64), (2, .it .i64), (3, .it .i64)], [], [(2000000, 29)]⟩, ⟨[], [], [(2000000, 29)]⟩, [], [], true, apFs (K := KK) (ctT slices_rotateCmpFunc_Row_v0_s0.ti) (ctT slices_rotateCmpFunc_Row_v0_s0.te) [(4, [29, 29], [3])] slices_rotateCmpFunc_Row_v0_o⟩
def slices_rotateCmpFunc_Row_v0_an : An KK := (.s .o (.s .o (.s (.b (.l ⟨[(0, .row 2000000), (2, .kp 5), (4, .kp 6), (10, .it .i64), (11, .it .i64)], [], [(2000000, 29)]⟩ (fun _ => (.s (.s .o (.c .o .o)) (.b (.s .o (.c (.s .o .o) (.s .o .o)))))))) .o)))
def slices_rotateCmpFunc_Row_v0_cf : Cf KK := ⟨CC, [], [slices_swapRangeCmpFunc_Row_v0_sl], 58, [], none, false⟩
theorem slices_rotateCmpFunc_Row_v0_ok : SlOk Try.prog CC slices_rotateCmpFunc_Row_v0_sl := by
 intro fs env out hl hF hW
 obtain ⟨F4, fs4, rfl, h0⟩ := apFs_c hW
 obtain ⟨rfl, h1⟩ := apFs_n h0
 obtain ⟨a0, ea0, rfl, h2⟩ := apIn_c h1
 obtain ⟨a1, ea1, rfl, h3⟩ := apIn_c h2
 obtain ⟨a2, ea2, rfl, h4⟩ := apIn_c h3
 obtain ⟨a3, ea3, rfl, h5⟩ := apIn_c h4
 obtain ⟨rfl, h6⟩ := apIn_n h5
 obtain ⟨r0, er0, rfl, h7⟩ := apOut_c h6
 obtain ⟨rfl, h8⟩ := apOut_n h7
 show SlC Try.prog CC slices_rotateCmpFunc_Row_v0_sl [F4] [.i a0, .i a1, .i a2, .l 29 a3] [.l 29 r0]
 rw [show SlC Try.prog CC slices_rotateCmpFunc_Row_v0_sl [F4] [.i a0, .i a1, .i a2, .l 29 a3] [.l 29 r0] = SlC Try.prog CC slices_rotateCmpFunc_Row_v0_s0 [F4] [.i a0, .i a1, .i a2, .l 29 a3] [.l 29 r0] by kernel_rfl]
 exact DnL_by (F := slices_rotateCmpFunc_Row_v0_cf) CC_ok SsOk_n (SLOk_c slices_swapRangeCmpFunc_Row_v0_ok SLOk_n) t107 (A := slices_rotateCmpFunc_Row_v0_an) (sp := slices_rotateCmpFunc_Row_v0_s0) rfl (by kernel_rfl) (by kernel_rfl) (Nat.le_of_ble_eq_true (by kernel_rfl)) (fs := [F4]) (env := [.i a0, .i a1, .i a2, .l 29 a3]) (out := [.l 29 r0]) (by kernel_rfl) hF (X := slices_rotateCmpFunc_Row_v0_o (curF [3] [29, 29] F4.W) a0 a1 a2 a3 r0) h8 (by kernel_rfl)
def slices_symMergeCmpFunc_Row_v0_L2 (x1 : Int) (r0 : List (List T_value_Value)) (X2 : Int → (List (List T_value_Value)) → Prop) (x7 : Int) (x8 : List (List T_value_Value)) : Prop :=
 cnd (decide (x7 < (IntKind.i64.wrap (x1 - (1 : Int))))) ((0 <= (IntKind.i64.wrap (x7 + (1 : Int)))) /\ ((IntKind.i64.wrap (x7 + (1 : Int))) < (x8.length : Int)) /\ ∃ y9 : (List T_value_Value), (x8[(IntKind.i64.wrap (x7 + (1 : Int))).toNat]? = some y9) /\ (0 <= x7) /\ (x7 < (x8.length : Int)) /\ ∃ y10 : (List T_value_Value), (x8[x7.toNat]? = some y10) /\ (0 <= x7) /\ (x7 < (x8.length : Int)) /\ ∃ y11 : (List T_value_Value), (x8[x7.toNat]? = some y11) /\ (0 <= (IntKind.i64.wrap (x7 + (1 : Int)))) /\ ((IntKind.i64.wrap (x7 + (1 : Int))) < ((x8.set x7.toNat y9).length : Int)) /\ ∃ y12 : (List T_value_Value), ((x8.set x7.toNat y9)[(IntKind.i64.wrap (x7 + (1 : Int))).toNat]? = some y12) /\ X2 (IntKind.i64.wrap (x7 + (1 : Int))) ((x8.set x7.toNat y9).set ((IntKind.i64.wrap (x7 + (1 : Int))).toNat) y10)) (x8 = r0)
def slices_symMergeCmpFunc_Row_v0_L1 (a0 : Int) (g4 : (List T_value_Value) → (List T_value_Value) → Int → Prop) (r0 : List (List T_value_Value)) (X1 : Int → Int → (List (List T_value_Value)) → Prop) (x1 x2 : Int) (x3 : List (List T_value_Value)) : Prop :=
 cnd (decide (x1 < x2)) ((0 <= (IntKind.i64.wrap ((IntKind.u64.wrap (IntKind.i64.wrap (x1 + x2))).fdiv (2 ^ (min (1 : Int).toNat IntKind.u64.bits))))) /\ ((IntKind.i64.wrap ((IntKind.u64.wrap (IntKind.i64.wrap (x1 + x2))).fdiv (2 ^ (min (1 : Int).toNat IntKind.u64.bits)))) < (x3.length : Int)) /\ ∃ y4 : (List T_value_Value), (x3[(IntKind.i64.wrap ((IntKind.u64.wrap (IntKind.i64.wrap (x1 + x2))).fdiv (2 ^ (min (1 : Int).toNat IntKind.u64.bits)))).toNat]? = some y4) /\ (0 <= a0) /\ (a0 < (x3.length : Int)) /\ ∃ y5 : (List T_value_Value), (x3[a0.toNat]? = some y5) /\ ∃ z6, (g4 y4 y5 z6) /\ cnd (decide (z6 < (0 : Int))) (X1 (IntKind.i64.wrap ((IntKind.i64.wrap ((IntKind.u64.wrap (IntKind.i64.wrap (x1 + x2))).fdiv (2 ^ (min (1 : Int).toNat IntKind.u64.bits)))) + (1 : Int))) x2 x3) (X1 x1 (IntKind.i64.wrap ((IntKind.u64.wrap (IntKind.i64.wrap (x1 + x2))).fdiv (2 ^ (min (1 : Int).toNat IntKind.u64.bits)))) x3)) (∀ X2 : Int -> (List (List T_value_Value)) -> Prop, (∀ x7 x8, slices_symMergeCmpFunc_Row_v0_L2 x1 r0 X2 x7 x8 -> X2 x7 x8) -> X2 a0 x3)
def slices_symMergeCmpFunc_Row_v0_L4 (x13 : Int) (r0 : List (List T_value_Value)) (X4 : Int → (List (List T_value_Value)) → Prop) (x19 : Int) (x20 : List (List T_value_Value)) : Prop :=
 cnd (decide (x13 < x19)) ((0 <= (IntKind.i64.wrap (x19 - (1 : Int)))) /\ ((IntKind.i64.wrap (x19 - (1 : Int))) < (x20.length : Int)) /\ ∃ y21 : (List T_value_Value), (x20[(IntKind.i64.wrap (x19 - (1 : Int))).toNat]? = some y21) /\ (0 <= x19) /\ (x19 < (x20.length : Int)) /\ ∃ y22 : (List T_value_Value), (x20[x19.toNat]? = some y22) /\ (0 <= x19) /\ (x19 < (x20.length : Int)) /\ ∃ y23 : (List T_value_Value), (x20[x19.toNat]? = some y23) /\ (0 <= (IntKind.i64.wrap (x19 - (1 : Int)))) /\ ((IntKind.i64.wrap (x19 - (1 : Int))) < ((x20.set x19.toNat y21).length : Int)) /\ ∃ y24 : (List T_value_Value), ((x20.set x19.toNat y21)[(IntKind.i64.wrap (x19 - (1 : Int))).toNat]? = some y24) /\ X4 (IntKind.i64.wrap (x19 - (1 : Int))) ((x20.set x19.toNat y21).set ((IntKind.i64.wrap (x19 - (1 : Int))).toNat) y22)) (x20 = r0)
def slices_symMergeCmpFunc_Row_v0_L3 (a1 : Int) (g4 : (List T_value_Value) → (List T_value_Value) → Int → Prop) (r0 : List (List T_value_Value)) (X3 : Int → Int → (List (List T_value_Value)) → Prop) (x13 x14 : Int) (x15 : List (List T_value_Value)) : Prop :=
 cnd (decide (x13 < x14)) ((0 <= a1) /\ (a1 < (x15.length : Int)) /\ ∃ y16 : (List T_value_Value), (x15[a1.toNat]? = some y16) /\ (0 <= (IntKind.i64.wrap ((IntKind.u64.wrap (IntKind.i64.wrap (x13 + x14))).fdiv (2 ^ (min (1 : Int).toNat IntKind.u64.bits))))) /\ ((IntKind.i64.wrap ((IntKind.u64.wrap (IntKind.i64.wrap (x13 + x14))).fdiv (2 ^ (min (1 : Int).toNat IntKind.u64.bits)))) < (x15.length : Int)) /\ ∃ y17 : (List T_value_Value), (x15[(IntKind.i64.wrap ((IntKind.u64.wrap (IntKind.i64.wrap (x13 + x14))).fdiv (2 ^ (min (1 : Int).toNat IntKind.u64.bits)))).toNat]? = some y17) /\ ∃ z18, (g4 y16 y17 z18) /\ cnd (!(decide (z18 < (0 : Int)))) (X3 (IntKind.i64.wrap ((IntKind.i64.wrap ((IntKind.u64.wrap (IntKind.i64.wrap (x13 + x14))).fdiv (2 ^ (min (1 : Int).toNat IntKind.u64.bits)))) + (1 : Int))) x14 x15) (X3 x13 (IntKind.i64.wrap ((IntKind.u64.wrap (IntKind.i64.wrap (x13 + x14))).fdiv (2 ^ (min (1 : Int).toNat IntKind.u64.bits)))) x15)) (∀ X4 : Int -> (List (List T_value_Value)) -> Prop, (∀ x19 x20, slices_symMergeCmpFunc_Row_v0_L4 x13 r0 X4 x19 x20 -> X4 x19 x20) -> X4 a1 x15)
def slices_symMergeCmpFunc_Row_v0_J9 (Xr : ((List T_value_Value) → (List T_value_Value) → Int → Prop) → Int → Int → Int → (List (List T_value_Value)) → (List (List T_value_Value)) → Prop) (g4 : (List T_value_Value) → (List T_value_Value) → Int → Prop) (a0 a2 x37 : Int) (r0 : List (List T_value_Value)) (x39 : Bool) (x40 : List (List T_value_Value)) : Prop :=
 cnd x39 (∃ z41, (Xr g4 (IntKind.i64.wrap ((IntKind.u64.wrap (IntKind.i64.wrap (a0 + a2))).fdiv (2 ^ (min (1 : Int).toNat IntKind.u64.bits)))) x37 a2 x40 z41) /\ (z41.length = x40.length) /\ z41 = r0) (x40 = r0)
def slices_symMergeCmpFunc_Row_v0_J8 (Xr : ((List T_value_Value) → (List T_value_Value) → Int → Prop) → Int → Int → Int → (List (List T_value_Value)) → (List (List T_value_Value)) → Prop) (g4 : (List T_value_Value) → (List T_value_Value) → Int → Prop) (a0 a2 : Int) (r0 : List (List T_value_Value)) (x37 : Int) (x38 : List (List T_value_Value)) : Prop :=
 ∀ J9 : Bool -> (List (List T_value_Value)) -> Prop, (∀ x39 x40, slices_symMergeCmpFunc_Row_v0_J9 Xr g4 a0 a2 x37 r0 x39 x40 -> J9 x39 x40) -> cnd (decide ((IntKind.i64.wrap ((IntKind.u64.wrap (IntKind.i64.wrap (a0 + a2))).fdiv (2 ^ (min (1 : Int).toNat IntKind.u64.bits)))) < x37)) (J9 (decide (x37 < a2)) x38) (J9 false x38)
def slices_symMergeCmpFunc_Row_v0_J10 (Xr : ((List T_value_Value) → (List T_value_Value) → Int → Prop) → Int → Int → Int → (List (List T_value_Value)) → (List (List T_value_Value)) → Prop) (g4 : (List T_value_Value) → (List T_value_Value) → Int → Prop) (a0 x34 a2 : Int) (J8 : Int → (List (List T_value_Value)) → Prop) (x35 : Int) (x42 : Bool) (x43 : List (List T_value_Value)) : Prop :=
 cnd x42 (∃ z44, (Xr g4 a0 x34 (IntKind.i64.wrap ((IntKind.u64.wrap (IntKind.i64.wrap (a0 + a2))).fdiv (2 ^ (min (1 : Int).toNat IntKind.u64.bits)))) x43 z44) /\ (z44.length = x43.length) /\ J8 x35 z44) (J8 x35 x43)
def slices_symMergeCmpFunc_Row_v0_J7 (Xr : ((List T_value_Value) → (List T_value_Value) → Int → Prop) → Int → Int → Int → (List (List T_value_Value)) → (List (List T_value_Value)) → Prop) (g4 : (List T_value_Value) → (List T_value_Value) → Int → Prop) (a0 a2 : Int) (r0 : List (List T_value_Value)) (x34 x35 : Int) (x36 : List (List T_value_Value)) : Prop :=
 ∀ J8 : Int -> (List (List T_value_Value)) -> Prop, (∀ x37 x38, slices_symMergeCmpFunc_Row_v0_J8 Xr g4 a0 a2 r0 x37 x38 -> J8 x37 x38) -> ∀ J10 : Bool -> (List (List T_value_Value)) -> Prop, (∀ x42 x43, slices_symMergeCmpFunc_Row_v0_J10 Xr g4 a0 x34 a2 J8 x35 x42 x43 -> J10 x42 x43) -> cnd (decide (a0 < x34)) (J10 (decide (x34 < (IntKind.i64.wrap ((IntKind.u64.wrap (IntKind.i64.wrap (a0 + a2))).fdiv (2 ^ (min (1 : Int).toNat IntKind.u64.bits)))))) x36) (J10 false x36)
def slices_symMergeCmpFunc_Row_v0_J11 (g4 : (List T_value_Value) → (List T_value_Value) → Int → Prop) (x28 a1 a0 a2 : Int) (J7 : Int → Int → (List (List T_value_Value)) → Prop) (x45 : Bool) (x46 : List (List T_value_Value)) : Prop :=
 cnd x45 (∃ z47, (slices_rotateCmpFunc_Row_v0_o g4 x28 a1 (IntKind.i64.wrap ((IntKind.i64.wrap ((IntKind.i64.wrap ((IntKind.u64.wrap (IntKind.i64.wrap (a0 + a2))).fdiv (2 ^ (min (1 : Int).toNat IntKind.u64.bits)))) + a1)) - x28)) x46 z47) /\ (z47.length = x46.length) /\ J7 x28 (IntKind.i64.wrap ((IntKind.i64.wrap ((IntKind.i64.wrap ((IntKind.u64.wrap (IntKind.i64.wrap (a0 + a2))).fdiv (2 ^ (min (1 : Int).toNat IntKind.u64.bits)))) + a1)) - x28)) z47) (J7 x28 (IntKind.i64.wrap ((IntKind.i64.wrap ((IntKind.i64.wrap ((IntKind.u64.wrap (IntKind.i64.wrap (a0 + a2))).fdiv (2 ^ (min (1 : Int).toNat IntKind.u64.bits)))) + a1)) - x28)) x46)
def slices_symMergeCmpFunc_Row_v0_L6 (a0 a2 a1 : Int) (g4 : (List T_value_Value) → (List T_value_Value) → Int → Prop) (Xr : ((List T_value_Value) → (List T_value_Value) → Int → Prop) → Int → Int → Int → (List (List T_value_Value)) → (List (List T_value_Value)) → Prop) (r0 : List (List T_value_Value)) (X6 : Int → Int → (List (List T_value_Value)) → Prop) (x28 x29 : Int) (x30 : List (List T_value_Value)) : Prop :=
 cnd (decide (x28 < x29)) ((0 <= (IntKind.i64.wrap ((IntKind.i64.wrap ((IntKind.i64.wrap ((IntKind.i64.wrap ((IntKind.u64.wrap (IntKind.i64.wrap (a0 + a2))).fdiv (2 ^ (min (1 : Int).toNat IntKind.u64.bits)))) + a1)) - (1 : Int))) - (IntKind.i64.wrap ((IntKind.u64.wrap (IntKind.i64.wrap (x28 + x29))).fdiv (2 ^ (min (1 : Int).toNat IntKind.u64.bits))))))) /\ ((IntKind.i64.wrap ((IntKind.i64.wrap ((IntKind.i64.wrap ((IntKind.i64.wrap ((IntKind.u64.wrap (IntKind.i64.wrap (a0 + a2))).fdiv (2 ^ (min (1 : Int).toNat IntKind.u64.bits)))) + a1)) - (1 : Int))) - (IntKind.i64.wrap ((IntKind.u64.wrap (IntKind.i64.wrap (x28 + x29))).fdiv (2 ^ (min (1 : Int).toNat IntKind.u64.bits)))))) < (x30.length : Int)) /\ ∃ y31 : (List T_value_Value), (x30[(IntKind.i64.wrap ((IntKind.i64.wrap ((IntKind.i64.wrap ((IntKind.i64.wrap ((IntKind.u64.wrap (IntKind.i64.wrap (a0 + a2))).fdiv (2 ^ (min (1 : Int).toNat IntKind.u64.bits)))) + a1)) - (1 : Int))) - (IntKind.i64.wrap ((IntKind.u64.wrap (IntKind.i64.wrap (x28 + x29))).fdiv (2 ^ (min (1 : Int).toNat IntKind.u64.bits)))))).toNat]? = some y31) /\ (0 <= (IntKind.i64.wrap ((IntKind.u64.wrap (IntKind.i64.wrap (x28 + x29))).fdiv (2 ^ (min (1 : Int).toNat IntKind.u64.bits))))) /\ ((IntKind.i64.wrap ((IntKind.u64.wrap (IntKind.i64.wrap (x28 + x29))).fdiv (2 ^ (min (1 : Int).toNat IntKind.u64.bits)))) < (x30.length : Int)) /\ ∃ y32 : (List T_value_Value), (x30[(IntKind.i64.wrap ((IntKind.u64.wrap (IntKind.i64.wrap (x28 + x29))).fdiv (2 ^ (min (1 : Int).toNat IntKind.u64.bits)))).toNat]? = some y32) /\ ∃ z33, (g4 y31 y32 z33) /\ cnd (!(decide (z33 < (0 : Int)))) (X6 (IntKind.i64.wrap ((IntKind.i64.wrap ((IntKind.u64.wrap (IntKind.i64.wrap (x28 + x29))).fdiv (2 ^ (min (1 : Int).toNat IntKind.u64.bits)))) + (1 : Int))) x29 x30) (X6 x28 (IntKind.i64.wrap ((IntKind.u64.wrap (IntKind.i64.wrap (x28 + x29))).fdiv (2 ^ (min (1 : Int).toNat IntKind.u64.bits)))) x30)) (∀ J7 : Int -> Int -> (List (List T_value_Value)) -> Prop, (∀ x34 x35 x36, slices_symMergeCmpFunc_Row_v0_J7 Xr g4 a0 a2 r0 x34 x35 x36 -> J7 x34 x35 x36) -> ∀ J11 : Bool -> (List (List T_value_Value)) -> Prop, (∀ x45 x46, slices_symMergeCmpFunc_Row_v0_J11 g4 x28 a1 a0 a2 J7 x45 x46 -> J11 x45 x46) -> cnd (decide (x28 < a1)) (J11 (decide (a1 < (IntKind.i64.wrap ((IntKind.i64.wrap ((IntKind.i64.wrap ((IntKind.u64.wrap (IntKind.i64.wrap (a0 + a2))).fdiv (2 ^ (min (1 : Int).toNat IntKind.u64.bits)))) + a1)) - x28)))) x30) (J11 false x30))
def slices_symMergeCmpFunc_Row_v0_J5 (a0 a2 a1 : Int) (g4 : (List T_value_Value) → (List T_value_Value) → Int → Prop) (Xr : ((List T_value_Value) → (List T_value_Value) → Int → Prop) → Int → Int → Int → (List (List T_value_Value)) → (List (List T_value_Value)) → Prop) (r0 : List (List T_value_Value)) (x25 x26 : Int) (x27 : List (List T_value_Value)) : Prop :=
 ∀ X6 : Int -> Int -> (List (List T_value_Value)) -> Prop, (∀ x28 x29 x30, slices_symMergeCmpFunc_Row_v0_L6 a0 a2 a1 g4 Xr r0 X6 x28 x29 x30 -> X6 x28 x29 x30) -> X6 x25 x26 x27
def slices_symMergeCmpFunc_Row_v0_B (Xr : ((List T_value_Value) → (List T_value_Value) → Int → Prop) → Int → Int → Int → (List (List T_value_Value)) → (List (List T_value_Value)) → Prop) (g4 : (List T_value_Value) → (List T_value_Value) → Int → Prop) (a0 a1 a2 : Int) (a3 r0 : List (List T_value_Value)) : Prop :=
 cnd ((IntKind.i64.wrap (a1 - a0)) == (1 : Int)) (∀ X1 : Int -> Int -> (List (List T_value_Value)) -> Prop, (∀ x1 x2 x3, slices_symMergeCmpFunc_Row_v0_L1 a0 g4 r0 X1 x1 x2 x3 -> X1 x1 x2 x3) -> X1 a1 a2 a3) (cnd ((IntKind.i64.wrap (a2 - a1)) == (1 : Int)) (∀ X3 : Int -> Int -> (List (List T_value_Value)) -> Prop, (∀ x13 x14 x15, slices_symMergeCmpFunc_Row_v0_L3 a1 g4 r0 X3 x13 x14 x15 -> X3 x13 x14 x15) -> X3 a0 a1 a3) (∀ J5 : Int -> Int -> (List (List T_value_Value)) -> Prop, (∀ x25 x26 x27, slices_symMergeCmpFunc_Row_v0_J5 a0 a2 a1 g4 Xr r0 x25 x26 x27 -> J5 x25 x26 x27) -> cnd (decide ((IntKind.i64.wrap ((IntKind.u64.wrap (IntKind.i64.wrap (a0 + a2))).fdiv (2 ^ (min (1 : Int).toNat IntKind.u64.bits)))) < a1)) (J5 (IntKind.i64.wrap ((IntKind.i64.wrap ((IntKind.i64.wrap ((IntKind.u64.wrap (IntKind.i64.wrap (a0 + a2))).fdiv (2 ^ (min (1 : Int).toNat IntKind.u64.bits)))) + a1)) - a2)) (IntKind.i64.wrap ((IntKind.u64.wrap (IntKind.i64.wrap (a0 + a2))).fdiv (2 ^ (min (1 : Int).toNat IntKind.u64.bits)))) a3) (J5 a0 a1 a3)))
def slices_symMergeCmpFunc_Row_v0_o (g4 : (List T_value_Value) -> (List T_value_Value) -> Int -> Prop) (a0 a1 a2 : Int) (a3 r0 : List (List T_value_Value)) : Prop := ∀ Xr : ((List T_value_Value) -> (List T_value_Value) -> Int -> Prop) -> Int -> Int -> Int -> (List (List T_value_Value)) -> (List (List T_value_Value)) -> Prop, (∀ (g4 : (List T_value_Value) -> (List T_value_Value) -> Int -> Prop) (a0 : Int) (a1 : Int) (a2 : Int) (a3 : (List (List T_value_Value))) (r0 : (List (List T_value_Value))), slices_symMergeCmpFunc_Row_v0_B Xr g4 a0 a1 a2 a3 r0 -> Xr g4 a0 a1 a2 a3 r0) -> Xr g4 a0 a1 a2 a3 r0
def slices_symMergeCmpFunc_Row_v0_L2i (r0 : List (List T_value_Value)) (x1 : Int) (X2 : Int → (List (List T_value_Value)) → Prop) (x7 : Int) (x8 : List (List T_value_Value)) : Prop :=
 cnd (decide (x7 < (IntKind.i64.wrap (x1 - (1 : Int))))) ((0 <= (IntKind.i64.wrap (x7 + (1 : Int)))) /\ ((IntKind.i64.wrap (x7 + (1 : Int))) < (x8.length : Int)) /\ ∃ y9 : (List T_value_Value), (x8[(IntKind.i64.wrap (x7 + (1 : Int))).toNat]? = some y9) /\ (0 <= x7) /\ (x7 < (x8.length : Int)) /\ ∃ y10 : (List T_value_Value), (x8[x7.toNat]? = some y10) /\ (0 <= x7) /\ (x7 < (x8.length : Int)) /\ ∃ y11 : (List T_value_Value), (x8[x7.toNat]? = some y11) /\ (0 <= (IntKind.i64.wrap (x7 + (1 : Int)))) /\ ((IntKind.i64.wrap (x7 + (1 : Int))) < ((x8.set x7.toNat y9).length : Int)) /\ ∃ y12 : (List T_value_Value), ((x8.set x7.toNat y9)[(IntKind.i64.wrap (x7 + (1 : Int))).toNat]? = some y12) /\ X2 (IntKind.i64.wrap (x7 + (1 : Int))) ((x8.set x7.toNat y9).set ((IntKind.i64.wrap (x7 + (1 : Int))).toNat) y10)) (x8 = r0)
def slices_symMergeCmpFunc_Row_v0_L1i (a0 : Int) (g4 : (List T_value_Value) → (List T_value_Value) → Int → Prop) (r0 : List (List T_value_Value)) (X1 : Int → Int → (List (List T_value_Value)) → Prop) (x1 x2 : Int) (x3 : List (List T_value_Value)) : Prop :=
 cnd (decide (x1 < x2)) ((0 <= (IntKind.i64.wrap ((IntKind.u64.wrap (IntKind.i64.wrap (x1 + x2))).fdiv (2 ^ (min (1 : Int).toNat IntKind.u64.bits))))) /\ ((IntKind.i64.wrap ((IntKind.u64.wrap (IntKind.i64.wrap (x1 + x2))).fdiv (2 ^ (min (1 : Int).toNat IntKind.u64.bits)))) < (x3.length : Int)) /\ ∃ y4 : (List T_value_Value), (x3[(IntKind.i64.wrap ((IntKind.u64.wrap (IntKind.i64.wrap (x1 + x2))).fdiv (2 ^ (min (1 : Int).toNat IntKind.u64.bits)))).toNat]? = some y4) /\ (0 <= a0) /\ (a0 < (x3.length : Int)) /\ ∃ y5 : (List T_value_Value), (x3[a0.toNat]? = some y5) /\ ∃ z6, (g4 y4 y5 z6) /\ cnd (decide (z6 < (0 : Int))) (X1 (IntKind.i64.wrap ((IntKind.i64.wrap ((IntKind.u64.wrap (IntKind.i64.wrap (x1 + x2))).fdiv (2 ^ (min (1 : Int).toNat IntKind.u64.bits)))) + (1 : Int))) x2 x3) (X1 x1 (IntKind.i64.wrap ((IntKind.u64.wrap (IntKind.i64.wrap (x1 + x2))).fdiv (2 ^ (min (1 : Int).toNat IntKind.u64.bits)))) x3)) (∀ X2 : Int -> (List (List T_value_Value)) -> Prop, (∀ x7 x8, slices_symMergeCmpFunc_Row_v0_L2i r0 x1 X2 x7 x8 -> X2 x7 x8) -> X2 a0 x3)
def slices_symMergeCmpFunc_Row_v0_L4i (r0 : List (List T_value_Value)) (x13 : Int) (X4 : Int → (List (List T_value_Value)) → Prop) (x19 : Int) (x20 : List (List T_value_Value)) : Prop :=
 cnd (decide (x13 < x19)) ((0 <= (IntKind.i64.wrap (x19 - (1 : Int)))) /\ ((IntKind.i64.wrap (x19 - (1 : Int))) < (x20.length : Int)) /\ ∃ y21 : (List T_value_Value), (x20[(IntKind.i64.wrap (x19 - (1 : Int))).toNat]? = some y21) /\ (0 <= x19) /\ (x19 < (x20.length : Int)) /\ ∃ y22 : (List T_value_Value), (x20[x19.toNat]? = some y22) /\ (0 <= x19) /\ (x19 < (x20.length : Int)) /\ ∃ y23 : (List T_value_Value), (x20[x19.toNat]? = some y23) /\ (0 <= (IntKind.i64.wrap (x19 - (1 : Int)))) /\ ((IntKind.i64.wrap (x19 - (1 : Int))) < ((x20.set x19.toNat y21).length : Int)) /\ ∃ y24 : (List T_value_Value), ((x20.set x19.toNat y21)[(IntKind.i64.wrap (x19 - (1 : Int))).toNat]? = some y24) /\ X4 (IntKind.i64.wrap (x19 - (1 : Int))) ((x20.set x19.toNat y21).set ((IntKind.i64.wrap (x19 - (1 : Int))).toNat) y22)) (x20 = r0)
def slices_symMergeCmpFunc_Row_v0_L3i (a1 : Int) (g4 : (List T_value_Value) → (List T_value_Value) → Int → Prop) (r0 : List (List T_value_Value)) (X3 : Int → Int → (List (List T_value_Value)) → Prop) (x13 x14 : Int) (x15 : List (List T_value_Value)) : Prop :=
 cnd (decide (x13 < x14)) ((0 <= a1) /\ (a1 < (x15.length : Int)) /\ ∃ y16 : (List T_value_Value), (x15[a1.toNat]? = some y16) /\ (0 <= (IntKind.i64.wrap ((IntKind.u64.wrap (IntKind.i64.wrap (x13 + x14))).fdiv (2 ^ (min (1 : Int).toNat IntKind.u64.bits))))) /\ ((IntKind.i64.wrap ((IntKind.u64.wrap (IntKind.i64.wrap (x13 + x14))).fdiv (2 ^ (min (1 : Int).toNat IntKind.u64.bits)))) < (x15.length : Int)) /\ ∃ y17 : (List T_value_Value), (x15[(IntKind.i64.wrap ((IntKind.u64.wrap (IntKind.i64.wrap (x13 + x14))).fdiv (2 ^ (min (1 : Int).toNat IntKind.u64.bits)))).toNat]? = some y17) /\ ∃ z18, (g4 y16 y17 z18) /\ cnd (!(decide (z18 < (0 : Int)))) (X3 (IntKind.i64.wrap ((IntKind.i64.wrap ((IntKind.u64.wrap (IntKind.i64.wrap (x13 + x14))).fdiv (2 ^ (min (1 : Int).toNat IntKind.u64.bits)))) + (1 : Int))) x14 x15) (X3 x13 (IntKind.i64.wrap ((IntKind.u64.wrap (IntKind.i64.wrap (x13 + x14))).fdiv (2 ^ (min (1 : Int).toNat IntKind.u64.bits)))) x15)) (∀ X4 : Int -> (List (List T_value_Value)) -> Prop, (∀ x19 x20, slices_symMergeCmpFunc_Row_v0_L4i r0 x13 X4 x19 x20 -> X4 x19 x20) -> X4 a1 x15)
def slices_symMergeCmpFunc_Row_v0_J9i (Xr : ((List T_value_Value) → (List T_value_Value) → Int → Prop) → Int → Int → Int → (List (List T_value_Value)) → (List (List T_value_Value)) → Prop) (a0 a2 : Int) (g4 : (List T_value_Value) → (List T_value_Value) → Int → Prop) (r0 : List (List T_value_Value)) (x37 : Int) (x39 : Bool) (x40 : List (List T_value_Value)) : Prop :=
 cnd x39 (∃ z41, (Xr g4 (IntKind.i64.wrap ((IntKind.u64.wrap (IntKind.i64.wrap (a0 + a2))).fdiv (2 ^ (min (1 : Int).toNat IntKind.u64.bits)))) x37 a2 x40 z41) /\ (z41.length = x40.length) /\ z41 = r0) (x40 = r0)
def slices_symMergeCmpFunc_Row_v0_J8i (Xr : ((List T_value_Value) → (List T_value_Value) → Int → Prop) → Int → Int → Int → (List (List T_value_Value)) → (List (List T_value_Value)) → Prop) (a0 a2 : Int) (g4 : (List T_value_Value) → (List T_value_Value) → Int → Prop) (r0 : List (List T_value_Value)) (x37 : Int) (x38 : List (List T_value_Value)) : Prop :=
 cnd (decide ((IntKind.i64.wrap ((IntKind.u64.wrap (IntKind.i64.wrap (a0 + a2))).fdiv (2 ^ (min (1 : Int).toNat IntKind.u64.bits)))) < x37)) (slices_symMergeCmpFunc_Row_v0_J9i Xr a0 a2 g4 r0 x37 (decide (x37 < a2)) x38) (slices_symMergeCmpFunc_Row_v0_J9i Xr a0 a2 g4 r0 x37 false x38)
def slices_symMergeCmpFunc_Row_v0_J10i (Xr : ((List T_value_Value) → (List T_value_Value) → Int → Prop) → Int → Int → Int → (List (List T_value_Value)) → (List (List T_value_Value)) → Prop) (a0 a2 : Int) (g4 : (List T_value_Value) → (List T_value_Value) → Int → Prop) (r0 : List (List T_value_Value)) (x34 x35 : Int) (x42 : Bool) (x43 : List (List T_value_Value)) : Prop :=
 cnd x42 (∃ z44, (Xr g4 a0 x34 (IntKind.i64.wrap ((IntKind.u64.wrap (IntKind.i64.wrap (a0 + a2))).fdiv (2 ^ (min (1 : Int).toNat IntKind.u64.bits)))) x43 z44) /\ (z44.length = x43.length) /\ slices_symMergeCmpFunc_Row_v0_J8i Xr a0 a2 g4 r0 x35 z44) (slices_symMergeCmpFunc_Row_v0_J8i Xr a0 a2 g4 r0 x35 x43)
def slices_symMergeCmpFunc_Row_v0_J7i (Xr : ((List T_value_Value) → (List T_value_Value) → Int → Prop) → Int → Int → Int → (List (List T_value_Value)) → (List (List T_value_Value)) → Prop) (a0 a2 : Int) (g4 : (List T_value_Value) → (List T_value_Value) → Int → Prop) (r0 : List (List T_value_Value)) (x34 x35 : Int) (x36 : List (List T_value_Value)) : Prop :=
 cnd (decide (a0 < x34)) (slices_symMergeCmpFunc_Row_v0_J10i Xr a0 a2 g4 r0 x34 x35 (decide (x34 < (IntKind.i64.wrap ((IntKind.u64.wrap (IntKind.i64.wrap (a0 + a2))).fdiv (2 ^ (min (1 : Int).toNat IntKind.u64.bits)))))) x36) (slices_symMergeCmpFunc_Row_v0_J10i Xr a0 a2 g4 r0 x34 x35 false x36)
def slices_symMergeCmpFunc_Row_v0_J11i (Xr : ((List T_value_Value) → (List T_value_Value) → Int → Prop) → Int → Int → Int → (List (List T_value_Value)) → (List (List T_value_Value)) → Prop) (a0 a1 a2 : Int) (g4 : (List T_value_Value) → (List T_value_Value) → Int → Prop) (r0 : List (List T_value_Value)) (x28 : Int) (x45 : Bool) (x46 : List (List T_value_Value)) : Prop :=
 cnd x45 (∃ z47, (slices_rotateCmpFunc_Row_v0_o g4 x28 a1 (IntKind.i64.wrap ((IntKind.i64.wrap ((IntKind.i64.wrap ((IntKind.u64.wrap (IntKind.i64.wrap (a0 + a2))).fdiv (2 ^ (min (1 : Int).toNat IntKind.u64.bits)))) + a1)) - x28)) x46 z47) /\ (z47.length = x46.length) /\ slices_symMergeCmpFunc_Row_v0_J7i Xr a0 a2 g4 r0 x28 (IntKind.i64.wrap ((IntKind.i64.wrap ((IntKind.i64.wrap ((IntKind.u64.wrap (IntKind.i64.wrap (a0 + a2))).fdiv (2 ^ (min (1 : Int).toNat IntKind.u64.bits)))) + a1)) - x28)) z47) (slices_symMergeCmpFunc_Row_v0_J7i Xr a0 a2 g4 r0 x28 (IntKind.i64.wrap ((IntKind.i64.wrap ((IntKind.i64.wrap ((IntKind.u64.wrap (IntKind.i64.wrap (a0 + a2))).fdiv (2 ^ (min (1 : Int).toNat IntKind.u64.bits)))) + a1)) - x28)) x46)
def slices_symMergeCmpFunc_Row_v0_L6i (Xr : ((List T_value_Value) → (List T_value_Value) → Int → Prop) → Int → Int → Int → (List (List T_value_Value)) → (List (List T_value_Value)) → Prop) (a0 a1 a2 : Int) (g4 : (List T_value_Value) → (List T_value_Value) → Int → Prop) (r0 : List (List T_value_Value)) (X6 : Int → Int → (List (List T_value_Value)) → Prop) (x28 x29 : Int) (x30 : List (List T_value_Value)) : Prop :=
 cnd (decide (x28 < x29)) ((0 <= (IntKind.i64.wrap ((IntKind.i64.wrap ((IntKind.i64.wrap ((IntKind.i64.wrap ((IntKind.u64.wrap (IntKind.i64.wrap (a0 + a2))).fdiv (2 ^ (min (1 : Int).toNat IntKind.u64.bits)))) + a1)) - (1 : Int))) - (IntKind.i64.wrap ((IntKind.u64.wrap (IntKind.i64.wrap (x28 + x29))).fdiv (2 ^ (min (1 : Int).toNat IntKind.u64.bits))))))) /\ ((IntKind.i64.wrap ((IntKind.i64.wrap ((IntKind.i64.wrap ((IntKind.i64.wrap ((IntKind.u64.wrap (IntKind.i64.wrap (a0 + a2))).fdiv (2 ^ (min (1 : Int).toNat IntKind.u64.bits)))) + a1)) - (1 : Int))) - (IntKind.i64.wrap ((IntKind.u64.wrap (IntKind.i64.wrap (x28 + x29))).fdiv (2 ^ (min (1 : Int).toNat IntKind.u64.bits)))))) < (x30.length : Int)) /\ ∃ y31 : (List T_value_Value), (x30[(IntKind.i64.wrap ((IntKind.i64.wrap ((IntKind.i64.wrap ((IntKind.i64.wrap ((IntKind.u64.wrap (IntKind.i64.wrap (a0 + a2))).fdiv (2 ^ (min (1 : Int).toNat IntKind.u64.bits)))) + a1)) - (1 : Int))) - (IntKind.i64.wrap ((IntKind.u64.wrap (IntKind.i64.wrap (x28 + x29))).fdiv (2 ^ (min (1 : Int).toNat IntKind.u64.bits)))))).toNat]? = some y31) /\ (0 <= (IntKind.i64.wrap ((IntKind.u64.wrap (IntKind.i64.wrap (x28 + x29))).fdiv (2 ^ (min (1 : Int).toNat IntKind.u64.bits))))) /\ ((IntKind.i64.wrap ((IntKind.u64.wrap (IntKind.i64.wrap (x28 + x29))).fdiv (2 ^ (min (1 : Int).toNat IntKind.u64.bits)))) < (x30.length : Int)) /\ ∃ y32 : (List T_value_Value), (x30[(IntKind.i64.wrap ((IntKind.u64.wrap (IntKind.i64.wrap (x28 + x29))).fdiv (2 ^ (min (1 : Int).toNat IntKind.u64.bits)))).toNat]? = some y32) /\ ∃ z33, (g4 y31 y32 z33) /\ cnd (!(decide (z33 < (0 : Int)))) (X6 (IntKind.i64.wrap ((IntKind.i64.wrap ((IntKind.u64.wrap (IntKind.i64.wrap (x28 + x29))).fdiv (2 ^ (min (1 : Int).toNat IntKind.u64.bits)))) + (1 : Int))) x29 x30) (X6 x28 (IntKind.i64.wrap ((IntKind.u64.wrap (IntKind.i64.wrap (x28 + x29))).fdiv (2 ^ (min (1 : Int).toNat IntKind.u64.bits)))) x30)) (cnd (decide (x28 < a1)) (slices_symMergeCmpFunc_Row_v0_J11i Xr a0 a1 a2 g4 r0 x28 (decide (a1 < (IntKind.i64.wrap ((IntKind.i64.wrap ((IntKind.i64.wrap ((IntKind.u64.wrap (IntKind.i64.wrap (a0 + a2))).fdiv (2 ^ (min (1 : Int).toNat IntKind.u64.bits)))) + a1)) - x28)))) x30) (slices_symMergeCmpFunc_Row_v0_J11i Xr a0 a1 a2 g4 r0 x28 false x30))
def slices_symMergeCmpFunc_Row_v0_J5i (Xr : ((List T_value_Value) → (List T_value_Value) → Int → Prop) → Int → Int → Int → (List (List T_value_Value)) → (List (List T_value_Value)) → Prop) (a0 a1 a2 : Int) (g4 : (List T_value_Value) → (List T_value_Value) → Int → Prop) (r0 : List (List T_value_Value)) (x25 x26 : Int) (x27 : List (List T_value_Value)) : Prop :=
 ∀ X6 : Int -> Int -> (List (List T_value_Value)) -> Prop, (∀ x28 x29 x30, slices_symMergeCmpFunc_Row_v0_L6i Xr a0 a1 a2 g4 r0 X6 x28 x29 x30 -> X6 x28 x29 x30) -> X6 x25 x26 x27
def slices_symMergeCmpFunc_Row_v0_Bi (Xr : ((List T_value_Value) → (List T_value_Value) → Int → Prop) → Int → Int → Int → (List (List T_value_Value)) → (List (List T_value_Value)) → Prop) (g4 : (List T_value_Value) → (List T_value_Value) → Int → Prop) (a0 a1 a2 : Int) (a3 r0 : List (List T_value_Value)) : Prop :=
 cnd ((IntKind.i64.wrap (a1 - a0)) == (1 : Int)) (∀ X1 : Int -> Int -> (List (List T_value_Value)) -> Prop, (∀ x1 x2 x3, slices_symMergeCmpFunc_Row_v0_L1i a0 g4 r0 X1 x1 x2 x3 -> X1 x1 x2 x3) -> X1 a1 a2 a3) (cnd ((IntKind.i64.wrap (a2 - a1)) == (1 : Int)) (∀ X3 : Int -> Int -> (List (List T_value_Value)) -> Prop, (∀ x13 x14 x15, slices_symMergeCmpFunc_Row_v0_L3i a1 g4 r0 X3 x13 x14 x15 -> X3 x13 x14 x15) -> X3 a0 a1 a3) (cnd (decide ((IntKind.i64.wrap ((IntKind.u64.wrap (IntKind.i64.wrap (a0 + a2))).fdiv (2 ^ (min (1 : Int).toNat IntKind.u64.bits)))) < a1)) (slices_symMergeCmpFunc_Row_v0_J5i Xr a0 a1 a2 g4 r0 (IntKind.i64.wrap ((IntKind.i64.wrap ((IntKind.i64.wrap ((IntKind.u64.wrap (IntKind.i64.wrap (a0 + a2))).fdiv (2 ^ (min (1 : Int).toNat IntKind.u64.bits)))) + a1)) - a2)) (IntKind.i64.wrap ((IntKind.u64.wrap (IntKind.i64.wrap (a0 + a2))).fdiv (2 ^ (min (1 : Int).toNat IntKind.u64.bits)))) a3) (slices_symMergeCmpFunc_Row_v0_J5i Xr a0 a1 a2 g4 r0 a0 a1 a3)))
theorem slices_symMergeCmpFunc_Row_v0_L2_m (r0 : List (List T_value_Value)) (x1 : Int) {X2 : Int → (List (List T_value_Value)) → Prop} {x7 : Int} {x8 : List (List T_value_Value)} (h : slices_symMergeCmpFunc_Row_v0_L2i r0 x1 X2 x7 x8) : slices_symMergeCmpFunc_Row_v0_L2 x1 r0 X2 x7 x8 := by
 unfold slices_symMergeCmpFunc_Row_v0_L2
 unfold slices_symMergeCmpFunc_Row_v0_L2i at h
 exact h
theorem slices_symMergeCmpFunc_Row_v0_L1_m (a0 : Int) (g4 : (List T_value_Value) → (List T_value_Value) → Int → Prop) (r0 : List (List T_value_Value)) {X1 : Int → Int → (List (List T_value_Value)) → Prop} {x1 x2 : Int} {x3 : List (List T_value_Value)} (h : slices_symMergeCmpFunc_Row_v0_L1i a0 g4 r0 X1 x1 x2 x3) : slices_symMergeCmpFunc_Row_v0_L1 a0 g4 r0 X1 x1 x2 x3 := by
 unfold slices_symMergeCmpFunc_Row_v0_L1
 unfold slices_symMergeCmpFunc_Row_v0_L1i at h
 refine cnd_mono h (fun h => ?_) (fun h => ?_)
 ·exact h
 ·intro X2 k
  exact h X2 (fun x7 x8 q => k x7 x8 (slices_symMergeCmpFunc_Row_v0_L2_m r0 x1 q))
theorem slices_symMergeCmpFunc_Row_v0_L4_m (r0 : List (List T_value_Value)) (x13 : Int) {X4 : Int → (List (List T_value_Value)) → Prop} {x19 : Int} {x20 : List (List T_value_Value)} (h : slices_symMergeCmpFunc_Row_v0_L4i r0 x13 X4 x19 x20) : slices_symMergeCmpFunc_Row_v0_L4 x13 r0 X4 x19 x20 := by
 unfold slices_symMergeCmpFunc_Row_v0_L4
 unfold slices_symMergeCmpFunc_Row_v0_L4i at h
 exact h
theorem slices_symMergeCmpFunc_Row_v0_L3_m (a1 : Int) (g4 : (List T_value_Value) → (List T_value_Value) → Int → Prop) (r0 : List (List T_value_Value)) {X3 : Int → Int → (List (List T_value_Value)) → Prop} {x13 x14 : Int} {x15 : List (List T_value_Value)} (h : slices_symMergeCmpFunc_Row_v0_L3i a1 g4 r0 X3 x13 x14 x15) : slices_symMergeCmpFunc_Row_v0_L3 a1 g4 r0 X3 x13 x14 x15 := by
 unfold slices_symMergeCmpFunc_Row_v0_L3
 unfold slices_symMergeCmpFunc_Row_v0_L3i at h
 refine cnd_mono h (fun h => ?_) (fun h => ?_)
 ·exact h
 ·intro X4 k
  exact h X4 (fun x19 x20 q => k x19 x20 (slices_symMergeCmpFunc_Row_v0_L4_m r0 x13 q))
theorem slices_symMergeCmpFunc_Row_v0_J9_m (Xr : ((List T_value_Value) → (List T_value_Value) → Int → Prop) → Int → Int → Int → (List (List T_value_Value)) → (List (List T_value_Value)) → Prop) (a0 a2 : Int) (g4 : (List T_value_Value) → (List T_value_Value) → Int → Prop) (r0 : List (List T_value_Value)) (x37 : Int) {x39 : Bool} {x40 : List (List T_value_Value)} (h : slices_symMergeCmpFunc_Row_v0_J9i Xr a0 a2 g4 r0 x37 x39 x40) : slices_symMergeCmpFunc_Row_v0_J9 Xr g4 a0 a2 x37 r0 x39 x40 := by
 unfold slices_symMergeCmpFunc_Row_v0_J9
 unfold slices_symMergeCmpFunc_Row_v0_J9i at h
 exact h
theorem slices_symMergeCmpFunc_Row_v0_J8_m (Xr : ((List T_value_Value) → (List T_value_Value) → Int → Prop) → Int → Int → Int → (List (List T_value_Value)) → (List (List T_value_Value)) → Prop) (a0 a2 : Int) (g4 : (List T_value_Value) → (List T_value_Value) → Int → Prop) (r0 : List (List T_value_Value)) {x37 : Int} {x38 : List (List T_value_Value)} (h : slices_symMergeCmpFunc_Row_v0_J8i Xr a0 a2 g4 r0 x37 x38) : slices_symMergeCmpFunc_Row_v0_J8 Xr g4 a0 a2 r0 x37 x38 := by
 unfold slices_symMergeCmpFunc_Row_v0_J8
 unfold slices_symMergeCmpFunc_Row_v0_J8i at h
 intro J9 kJ9
 have hJ9 : ∀ x39 x40, slices_symMergeCmpFunc_Row_v0_J9i Xr a0 a2 g4 r0 x37 x39 x40 -> J9 x39 x40 := fun x39 x40 q => kJ9 x39 x40 (slices_symMergeCmpFunc_Row_v0_J9_m Xr a0 a2 g4 r0 x37 q)
 refine cnd_mono h (fun h => ?_) (fun h => ?_)
 ·exact hJ9 _ _ h
 ·exact hJ9 _ _ h
theorem slices_symMergeCmpFunc_Row_v0_J10_m (J8 : Int → (List (List T_value_Value)) → Prop) (Xr : ((List T_value_Value) → (List T_value_Value) → Int → Prop) → Int → Int → Int → (List (List T_value_Value)) → (List (List T_value_Value)) → Prop) (a0 a2 : Int) (g4 : (List T_value_Value) → (List T_value_Value) → Int → Prop) (r0 : List (List T_value_Value)) (x34 x35 : Int) (hJ8 : ∀ (x37 : Int) (x38 : (List (List T_value_Value))), slices_symMergeCmpFunc_Row_v0_J8i Xr a0 a2 g4 r0 x37 x38 → J8 x37 x38) {x42 : Bool} {x43 : List (List T_value_Value)} (h : slices_symMergeCmpFunc_Row_v0_J10i Xr a0 a2 g4 r0 x34 x35 x42 x43) : slices_symMergeCmpFunc_Row_v0_J10 Xr g4 a0 x34 a2 J8 x35 x42 x43 := by
 unfold slices_symMergeCmpFunc_Row_v0_J10
 unfold slices_symMergeCmpFunc_Row_v0_J10i at h
 refine cnd_mono h (fun h => ?_) (fun h => ?_)
 ·obtain ⟨z44, h⟩ := h
  refine ⟨z44, ?_⟩
  obtain ⟨h0, h⟩ := h
  refine ⟨h0, ?_⟩
  obtain ⟨h0, h⟩ := h
  refine ⟨h0, ?_⟩
  exact hJ8 _ _ h
 ·exact hJ8 _ _ h
theorem slices_symMergeCmpFunc_Row_v0_J7_m (Xr : ((List T_value_Value) → (List T_value_Value) → Int → Prop) → Int → Int → Int → (List (List T_value_Value)) → (List (List T_value_Value)) → Prop) (a0 a2 : Int) (g4 : (List T_value_Value) → (List T_value_Value) → Int → Prop) (r0 : List (List T_value_Value)) {x34 x35 : Int} {x36 : List (List T_value_Value)} (h : slices_symMergeCmpFunc_Row_v0_J7i Xr a0 a2 g4 r0 x34 x35 x36) : slices_symMergeCmpFunc_Row_v0_J7 Xr g4 a0 a2 r0 x34 x35 x36 := by
 unfold slices_symMergeCmpFunc_Row_v0_J7
 unfold slices_symMergeCmpFunc_Row_v0_J7i at h
 intro J8 kJ8
 have hJ8 : ∀ x37 x38, slices_symMergeCmpFunc_Row_v0_J8i Xr a0 a2 g4 r0 x37 x38 -> J8 x37 x38 := fun x37 x38 q => kJ8 x37 x38 (slices_symMergeCmpFunc_Row_v0_J8_m Xr a0 a2 g4 r0 q)
 intro J10 kJ10
 have hJ10 : ∀ x42 x43, slices_symMergeCmpFunc_Row_v0_J10i Xr a0 a2 g4 r0 x34 x35 x42 x43 -> J10 x42 x43 := fun x42 x43 q => kJ10 x42 x43 (slices_symMergeCmpFunc_Row_v0_J10_m J8 Xr a0 a2 g4 r0 x34 x35 hJ8 q)
 refine cnd_mono h (fun h => ?_) (fun h => ?_)
 ·exact hJ10 _ _ h
 ·exact hJ10 _ _ h
theorem slices_symMergeCmpFunc_Row_v0_J11_m (J7 : Int → Int → (List (List T_value_Value)) → Prop) (Xr : ((List T_value_Value) → (List T_value_Value) → Int → Prop) → Int → Int → Int → (List (List T_value_Value)) → (List (List T_value_Value)) → Prop) (a0 a1 a2 : Int) (g4 : (List T_value_Value) → (List T_value_Value) → Int → Prop) (r0 : List (List T_value_Value)) (x28 : Int) (hJ7 : ∀ (x34 : Int) (x35 : Int) (x36 : (List (List T_value_Value))), slices_symMergeCmpFunc_Row_v0_J7i Xr a0 a2 g4 r0 x34 x35 x36 → J7 x34 x35 x36) {x45 : Bool} {x46 : List (List T_value_Value)} (h : slices_symMergeCmpFunc_Row_v0_J11i Xr a0 a1 a2 g4 r0 x28 x45 x46) : slices_symMergeCmpFunc_Row_v0_J11 g4 x28 a1 a0 a2 J7 x45 x46 := by
 unfold slices_symMergeCmpFunc_Row_v0_J11
 unfold slices_symMergeCmpFunc_Row_v0_J11i at h
 refine cnd_mono h (fun h => ?_) (fun h => ?_)
 ·obtain ⟨z47, h⟩ := h
  refine ⟨z47, ?_⟩
  obtain ⟨h0, h⟩ := h
  refine ⟨h0, ?_⟩
  obtain ⟨h0, h⟩ := h
  refine ⟨h0, ?_⟩
  exact hJ7 _ _ _ h
 ·exact hJ7 _ _ _ h
theorem slices_symMergeCmpFunc_Row_v0_L6_m (Xr : ((List T_value_Value) → (List T_value_Value) → Int → Prop) → Int → Int → Int → (List (List T_value_Value)) → (List (List T_value_Value)) → Prop) (a0 a1 a2 : Int) (g4 : (List T_value_Value) → (List T_value_Value) → Int → Prop) (r0 : List (List T_value_Value)) {X6 : Int → Int → (List (List T_value_Value)) → Prop} {x28 x29 : Int} {x30 : List (List T_value_Value)} (h : slices_symMergeCmpFunc_Row_v0_L6i Xr a0 a1 a2 g4 r0 X6 x28 x29 x30) : slices_symMergeCmpFunc_Row_v0_L6 a0 a2 a1 g4 Xr r0 X6 x28 x29 x30 := by
 unfold slices_symMergeCmpFunc_Row_v0_L6
 unfold slices_symMergeCmpFunc_Row_v0_L6i at h
 refine cnd_mono h (fun h => ?_) (fun h => ?_)
 ·exact h
 ·intro J7 kJ7
  have hJ7 : ∀ x34 x35 x36, slices_symMergeCmpFunc_Row_v0_J7i Xr a0 a2 g4 r0 x34 x35 x36 -> J7 x34 x35 x36 := fun x34 x35 x36 q => kJ7 x34 x35 x36 (slices_symMergeCmpFunc_Row_v0_J7_m Xr a0 a2 g4 r0 q)
  intro J11 kJ11
  have hJ11 : ∀ x45 x46, slices_symMergeCmpFunc_Row_v0_J11i Xr a0 a1 a2 g4 r0 x28 x45 x46 -> J11 x45 x46 := fun x45 x46 q => kJ11 x45 x46 (slices_symMergeCmpFunc_Row_v0_J11_m J7 Xr a0 a1 a2 g4 r0 x28 hJ7 q)
  refine cnd_mono h (fun h => ?_) (fun h => ?_)
  ·exact hJ11 _ _ h
  ·exact hJ11 _ _ h
theorem slices_symMergeCmpFunc_Row_v0_J5_m (Xr : ((List T_value_Value) → (List T_value_Value) → Int → Prop) → Int → Int → Int → (List (List T_value_Value)) → (List (List T_value_Value)) → Prop) (a0 a1 a2 : Int) (g4 : (List T_value_Value) → (List T_value_Value) → Int → Prop) (r0 : List (List T_value_Value)) {x25 x26 : Int} {x27 : List (List T_value_Value)} (h : slices_symMergeCmpFunc_Row_v0_J5i Xr a0 a1 a2 g4 r0 x25 x26 x27) : slices_symMergeCmpFunc_Row_v0_J5 a0 a2 a1 g4 Xr r0 x25 x26 x27 := by
 unfold slices_symMergeCmpFunc_Row_v0_J5
 unfold slices_symMergeCmpFunc_Row_v0_J5i at h
 intro X6 k
 exact h X6 (fun x28 x29 x30 q => k x28 x29 x30 (slices_symMergeCmpFunc_Row_v0_L6_m Xr a0 a1 a2 g4 r0 q))
theorem slices_symMergeCmpFunc_Row_v0_Bm (Xr : ((List T_value_Value) → (List T_value_Value) → Int → Prop) → Int → Int → Int → (List (List T_value_Value)) → (List (List T_value_Value)) → Prop) (g4 : (List T_value_Value) → (List T_value_Value) → Int → Prop) (a0 a1 a2 : Int) (a3 r0 : List (List T_value_Value)) (h : slices_symMergeCmpFunc_Row_v0_Bi Xr g4 a0 a1 a2 a3 r0) : slices_symMergeCmpFunc_Row_v0_B Xr g4 a0 a1 a2 a3 r0 := by
 unfold slices_symMergeCmpFunc_Row_v0_B
 unfold slices_symMergeCmpFunc_Row_v0_Bi at h
 refine cnd_mono h (fun h => ?_) (fun h => ?_)
 ·intro X1 k
  exact h X1 (fun x1 x2 x3 q => k x1 x2 x3 (slices_symMergeCmpFunc_Row_v0_L1_m a0 g4 r0 q))
 ·refine cnd_mono h (fun h => ?_) (fun h => ?_)
  ·intro X3 k
   exact h X3 (fun x13 x14 x15 q => k x13 x14 x15 (slices_symMergeCmpFunc_Row_v0_L3_m a1 g4 r0 q))
  ·intro J5 kJ5
   have hJ5 : ∀ x25 x26 x27, slices_symMergeCmpFunc_Row_v0_J5i Xr a0 a1 a2 g4 r0 x25 x26 x27 -> J5 x25 x26 x27 := fun x25 x26 x27 q => kJ5 x25 x26 x27 (slices_symMergeCmpFunc_Row_v0_J5_m Xr a0 a1 a2 g4 r0 q)
   refine cnd_mono h (fun h => ?_) (fun h => ?_)
   ·exact hJ5 _ _ _ h
   ·exact hJ5 _ _ _ h
theorem slices_symMergeCmpFunc_Row_v0_i (g4 : (List T_value_Value) -> (List T_value_Value) -> Int -> Prop) (a0 a1 a2 : Int) (a3 r0 : List (List T_value_Value)) (h : ∀ Xr : ((List T_value_Value) -> (List T_value_Value) -> Int -> Prop) -> Int -> Int -> Int -> (List (List T_value_Value)) -> (List (List T_value_Value)) -> Prop, (∀ (g4 : (List T_value_Value) -> (List T_value_Value) -> Int -> Prop) (a0 : Int) (a1 : Int) (a2 : Int) (a3 : (List (List T_value_Value))) (r0 : (List (List T_value_Value))), slices_symMergeCmpFunc_Row_v0_Bi Xr g4 a0 a1 a2 a3 r0 -> Xr g4 a0 a1 a2 a3 r0) -> Xr g4 a0 a1 a2 a3 r0) : slices_symMergeCmpFunc_Row_v0_o g4 a0 a1 a2 a3 r0 := fun Xr k => h Xr fun g4 a0 a1 a2 a3 r0 q => k g4 a0 a1 a2 a3 r0 (slices_symMergeCmpFunc_Row_v0_Bm Xr g4 a0 a1 a2 a3 r0 q)
def slices_symMergeCmpFunc_Row_v0_s0 : Sl KK := ⟨105, [(4, [29, 29], [3])], ⟨[(0, .row 2000000), (1, .it .i64), (2, .it .i64), (3, .it .i64)], [], [(2000000, 29)]⟩, ⟨[], [], [(2000000, 29)]⟩, [], [], true, fun _ _ _ => True⟩
def slices_symMergeCmpFunc_Row_v0_sl : Sl KK := ⟨105, [(4, [29, 29], [3])], ⟨[(0, .row 2000000), (1, .it .i64), (2, .it .i64), (3, .it .i64)], [], [(2000000, 29)]⟩, ⟨[], [], [(2000000, 29)]⟩, [], [], true, apFs (K := KK) (ctT slices_symMergeCmpFunc_Row_v0_s0.ti) (ctT slices_symMergeCmpFunc_Row_v0_s0.te) [(4, [29, 29], [3])] slices_symMergeCmpFunc_Row_v0_o⟩
def slices_symMergeCmpFunc_Row_v0_an : An KK := (.s (.s .o (.c (.s .o (.s .o (.s (.b (.l ⟨[(0, .row 2000000), (1, .kp 15), (4, .kp 16), (10, .it .i64), (11, .it .i64)], [], [(2000000, 29)]⟩ (fun _ => (.s (.s .o (.c .o .o)) (.b (.s .o (.s .o (.c .o .o)))))))) (.s (.s .o (.b (.l ⟨[(0, .row 2000000), (10, .kp 20), (13, .it .i64)], [], [(2000000, 29)]⟩ (fun _ => (.s (.s .o (.c .o .o)) (.s (.b .o) .o)))))) .o)))) .o)) (.s (.s .o (.c (.s .o (.s .o (.s (.b (.l ⟨[(0, .row 2000000), (2, .kp 35), (4, .kp 36), (14, .it .i64), (15, .it .i64)], [], [(2000000, 29)]⟩ (fun _ => (.s (.s .o (.c .o .o)) (.b (.s .o (.s .o (.c .o .o)))))))) (.s (.s .o (.b (.l ⟨[(0, .row 2000000), (14, .kp 40), (17, .it .i64)], [], [(2000000, 29)]⟩ (fun _ => (.s (.s .o (.c .o .o)) (.s (.b .o) .o)))))) .o)))) .o)) (.s .o (.s .o (.s .o (.j ⟨[(0, .row 2000000), (1, .kp 41), (2, .kp 42), (3, .kp 43), (4, .kp 44), (18, .kp 45), (19, .kp 46), (20, .it .i64), (21, .it .i64)], [], [(2000000, 29)]⟩ (.s .o (.c (.s .o .o) (.s .o .o))) (fun _ => (.s .o (.s (.b (.l ⟨[(0, .row 2000000), (1, .kp 41), (2, .kp 42), (3, .kp 43), (4, .kp 44), (18, .kp 45), (19, .kp 46), (20, .it .i64), (21, .it .i64), (22, .kp 52)], [], [(2000000, 29)]⟩ (fun _ => (.s (.s .o (.c .o .o)) (.b (.s .o (.s .o (.c .o .o)))))))) (.s .o (.j ⟨[(0, .row 2000000), (1, .kp 41), (3, .kp 43), (4, .kp 44), (18, .kp 45), (20, .it .i64), (24, .it .i64)], [], [(2000000, 29)]⟩ (.j ⟨[(0, .row 2000000), (1, .kp 41), (2, .kp 42), (3, .kp 43), (4, .kp 44), (18, .kp 45), (20, .kp 64), (24, .kp 65), (185, .bl)], [], [(2000000, 29)]⟩ .o (fun _ => (.c .o .o))) (fun _ => (.j ⟨[(0, .row 2000000), (3, .kp 43), (4, .kp 44), (18, .kp 45), (24, .it .i64)], [], [(2000000, 29)]⟩ (.j ⟨[(0, .row 2000000), (1, .kp 41), (3, .kp 43), (4, .kp 44), (18, .kp 45), (20, .kp 62), (24, .kp 63), (199, .bl)], [], [(2000000, 29)]⟩ .o (fun _ => (.c .o .o))) (fun _ => (.j ⟨[(0, .row 2000000), (3, .kp 43), (4, .kp 44), (18, .kp 45), (24, .kp 61), (213, .bl)], [], [(2000000, 29)]⟩ .o (fun _ => (.c .o .o)))))))))))))))))
def slices_symMergeCmpFunc_Row_v0_cf (Xr : ((List T_value_Value) -> (List T_value_Value) -> Int -> Prop) -> Int -> Int -> Int -> (List (List T_value_Value)) -> (List (List T_value_Value)) -> Prop) : Cf KK := ⟨CC, [], [⟨105, [(4, [29, 29], [3])], ⟨[(0, .row 2000000), (1, .it .i64), (2, .it .i64), (3, .it .i64)], [], [(2000000, 29)]⟩, ⟨[], [], [(2000000, 29)]⟩, [], [], true, apFs (K := KK) (ctT slices_symMergeCmpFunc_Row_v0_s0.ti) (ctT slices_symMergeCmpFunc_Row_v0_s0.te) [(4, [29, 29], [3])] Xr⟩, slices_rotateCmpFunc_Row_v0_sl], 220, [], none, false⟩
theorem slices_symMergeCmpFunc_Row_v0_okB (Xr : ((List T_value_Value) → (List T_value_Value) → Int → Prop) → Int → Int → Int → (List (List T_value_Value)) → (List (List T_value_Value)) → Prop) (hX : ∀ (F4 : FV KK) (hF4 : FOk Try.prog CC F4) (a0 : Int) (a1 : Int) (a2 : Int) (a3 : (List (List T_value_Value))) (r0 : (List (List T_value_Value))), Xr (curF [3] [29, 29] F4.W) a0 a1 a2 a3 r0 → SlC Try.prog CC slices_symMergeCmpFunc_Row_v0_s0 [F4] [.i a0, .i a1, .i a2, .l 29 a3] [.l 29 r0]) : ∀ (F4 : FV KK) (hF4 : FOk Try.prog CC F4) (a0 : Int) (a1 : Int) (a2 : Int) (a3 : (List (List T_value_Value))) (r0 : (List (List T_value_Value))), slices_symMergeCmpFunc_Row_v0_B Xr (curF [3] [29, 29] F4.W) a0 a1 a2 a3 r0 → SlC Try.prog CC slices_symMergeCmpFunc_Row_v0_s0 [F4] [.i a0, .i a1, .i a2, .l 29 a3] [.l 29 r0] := by
 intro F4 hF4 a0 a1 a2 a3 r0 h
 refine DnL_by (F := slices_symMergeCmpFunc_Row_v0_cf Xr) CC_ok SsOk_n (SLOk_c ?_ (SLOk_c slices_rotateCmpFunc_Row_v0_ok SLOk_n)) t105 (A := slices_symMergeCmpFunc_Row_v0_an) (sp := slices_symMergeCmpFunc_Row_v0_s0) rfl (by kernel_rfl) (by kernel_rfl) (Nat.le_of_ble_eq_true (by kernel_rfl)) (fs := [F4]) (env := [.i a0, .i a1, .i a2, .l 29 a3]) (out := [.l 29 r0]) (by kernel_rfl) (fun G hG => by simp at hG; subst hG; assumption) (X := slices_symMergeCmpFunc_Row_v0_B Xr (curF [3] [29, 29] F4.W) a0 a1 a2 a3 r0) h (by kernel_rfl)
 clear h a0 a1 a2 a3 r0 hF4 F4
 intro fs env out hl hF hW
 obtain ⟨F4, fs4, rfl, h0⟩ := apFs_c hW
 obtain ⟨rfl, h1⟩ := apFs_n h0
 obtain ⟨a0, ea0, rfl, h2⟩ := apIn_c h1
 obtain ⟨a1, ea1, rfl, h3⟩ := apIn_c h2
 obtain ⟨a2, ea2, rfl, h4⟩ := apIn_c h3
 obtain ⟨a3, ea3, rfl, h5⟩ := apIn_c h4
 obtain ⟨rfl, h6⟩ := apIn_n h5
 obtain ⟨r0, er0, rfl, h7⟩ := apOut_c h6
 obtain ⟨rfl, h8⟩ := apOut_n h7
 show SlC Try.prog CC ⟨105, [(4, [29, 29], [3])], ⟨[(0, .row 2000000), (1, .it .i64), (2, .it .i64), (3, .it .i64)], [], [(2000000, 29)]⟩, ⟨[], [], [(2000000, 29)]⟩, [], [], true, apFs (K := KK) (ctT slices_symMergeCmpFunc_Row_v0_s0.ti) (ctT slices_symMergeCmpFunc_Row_v0_s0.te) [(4, [29, 29], [3])] Xr⟩ [F4] [.i a0, .i a1, .i a2, .l 29 a3] [.l 29 r0]
 rw [show SlC Try.prog CC ⟨105, [(4, [29, 29], [3])], ⟨[(0, .row 2000000), (1, .it .i64), (2, .it .i64), (3, .it .i64)], [], [(2000000, 29)]⟩, ⟨[], [], [(2000000, 29)]⟩, [], [], true, apFs (K := KK) (ctT slices_symMergeCmpFunc_Row_v0_s0.ti) (ctT slices_symMergeCmpFunc_Row_v0_s0.te) [(4, [29, 29], [3])] Xr⟩ [F4] [.i a0, .i a1, .i a2, .l 29 a3] [.l 29 r0] = SlC Try.prog CC slices_symMergeCmpFunc_Row_v0_s0 [F4] [.i a0, .i a1, .i a2, .l 29 a3] [.l 29 r0] by kernel_rfl]
 exact hX F4 (hF _ (by simp)) a0 a1 a2 a3 r0 h8
theorem slices_symMergeCmpFunc_Row_v0_ok : SlOk Try.prog CC slices_symMergeCmpFunc_Row_v0_sl := by
 intro fs env out hl hF hW
 obtain ⟨F4, fs4, rfl, h0⟩ := apFs_c hW
 obtain ⟨rfl, h1⟩ := apFs_n h0
 obtain ⟨a0, ea0, rfl, h2⟩ := apIn_c h1
 obtain ⟨a1, ea1, rfl, h3⟩ := apIn_c h2
 obtain ⟨a2, ea2, rfl, h4⟩ := apIn_c h3
 obtain ⟨a3, ea3, rfl, h5⟩ := apIn_c h4
 obtain ⟨rfl, h6⟩ := apIn_n h5
 obtain ⟨r0, er0, rfl, h7⟩ := apOut_c h6
 obtain ⟨rfl, h8⟩ := apOut_n h7
 show SlC Try.prog CC slices_symMergeCmpFunc_Row_v0_sl [F4] [.i a0, .i a1, .i a2, .l 29 a3] [.l 29 r0]
 rw [show SlC Try.prog CC slices_symMergeCmpFunc_Row_v0_sl [F4] [.i a0, .i a1, .i a2, .l 29 a3] [.l 29 r0] = SlC Try.prog CC slices_symMergeCmpFunc_Row_v0_s0 [F4] [.i a0, .i a1, .i a2, .l 29 a3] [.l 29 r0] by kernel_rfl]
 exact h8 (fun g4 a0 a1 a2 a3 r0 => ∀ F4 : FV KK, FOk Try.prog CC F4 -> curF [3] [29, 29] F4.W = g4 -> SlC Try.prog CC slices_symMergeCmpFunc_Row_v0_s0 [F4] [.i a0, .i a1, .i a2, .l 29 a3] [.l 29 r0]) (fun g4 a0 a1 a2 a3 r0 h => fun F4 hF4 e4 => slices_symMergeCmpFunc_Row_v0_okB (fun g4 a0 a1 a2 a3 r0 => ∀ F4 : FV KK, FOk Try.prog CC F4 -> curF [3] [29, 29] F4.W = g4 -> SlC Try.prog CC slices_symMergeCmpFunc_Row_v0_s0 [F4] [.i a0, .i a1, .i a2, .l 29 a3] [.l 29 r0]) (fun F4 hF4 a0 a1 a2 a3 r0 h => h F4 hF4 rfl) F4 hF4 a0 a1 a2 a3 r0 (by subst e4; exact h)) F4 (hF _ (by simp)) rfl
def slices_stableCmpFunc_Row_v0_L3 (a0 : Int) (g2 : (List T_value_Value) → (List T_value_Value) → Int → Prop) (x6 : Int) (X2 : Int → (List (List T_value_Value)) → Prop) (X3 : Int → Int → (List (List T_value_Value)) → Prop) (x8 x9 : Int) (x10 : List (List T_value_Value)) : Prop :=
 cnd (decide (x9 <= a0)) (∃ z11, (slices_symMergeCmpFunc_Row_v0_o g2 x8 (IntKind.i64.wrap (x8 + x6)) x9 x10 z11) /\ (z11.length = x10.length) /\ X3 x9 (IntKind.i64.wrap (x9 + (IntKind.i64.wrap ((2 : Int) * x6)))) z11) (cnd (decide ((IntKind.i64.wrap (x8 + x6)) < a0)) (∃ z12, (slices_symMergeCmpFunc_Row_v0_o g2 x8 (IntKind.i64.wrap (x8 + x6)) a0 x10 z12) /\ (z12.length = x10.length) /\ X2 (IntKind.i64.wrap (x6 * (2 : Int))) z12) (X2 (IntKind.i64.wrap (x6 * (2 : Int))) x10))
def slices_stableCmpFunc_Row_v0_L2 (a0 : Int) (g2 : (List T_value_Value) → (List T_value_Value) → Int → Prop) (r0 : List (List T_value_Value)) (X2 : Int → (List (List T_value_Value)) → Prop) (x6 : Int) (x7 : List (List T_value_Value)) : Prop :=
 cnd (decide (x6 < a0)) (∀ X3 : Int -> Int -> (List (List T_value_Value)) -> Prop, (∀ x8 x9 x10, slices_stableCmpFunc_Row_v0_L3 a0 g2 x6 X2 X3 x8 x9 x10 -> X3 x8 x9 x10) -> X3 (0 : Int) (IntKind.i64.wrap ((2 : Int) * x6)) x7) (x7 = r0)
def slices_stableCmpFunc_Row_v0_L1 (a0 : Int) (g2 : (List T_value_Value) → (List T_value_Value) → Int → Prop) (r0 : List (List T_value_Value)) (X1 : Int → Int → (List (List T_value_Value)) → Prop) (x1 x2 : Int) (x3 : List (List T_value_Value)) : Prop :=
 cnd (decide (x2 <= a0)) (∃ z4, (slices_insertionSortCmpFunc_Row_v0_o g2 x1 x2 x3 z4) /\ (z4.length = x3.length) /\ X1 x2 (IntKind.i64.wrap (x2 + (20 : Int))) z4) (∃ z5, (slices_insertionSortCmpFunc_Row_v0_o g2 x1 a0 x3 z5) /\ (z5.length = x3.length) /\ ∀ X2 : Int -> (List (List T_value_Value)) -> Prop, (∀ x6 x7, slices_stableCmpFunc_Row_v0_L2 a0 g2 r0 X2 x6 x7 -> X2 x6 x7) -> X2 (20 : Int) z5)
def slices_stableCmpFunc_Row_v0_o (g2 : (List T_value_Value) → (List T_value_Value) → Int → Prop) (a0 : Int) (a1 r0 : List (List T_value_Value)) : Prop :=
 ∀ X1 : Int -> Int -> (List (List T_value_Value)) -> Prop, (∀ x1 x2 x3, slices_stableCmpFunc_Row_v0_L1 a0 g2 r0 X1 x1 x2 x3 -> X1 x1 x2 x3) -> X1 (0 : Int) (20 : Int) a1
def slices_stableCmpFunc_Row_v0_L3i (X2 : Int → (List (List T_value_Value)) → Prop) (a0 : Int) (g2 : (List T_value_Value) → (List T_value_Value) → Int → Prop) (x6 : Int) (X3 : Int → Int → (List (List T_value_Value)) → Prop) (x8 x9 : Int) (x10 : List (List T_value_Value)) : Prop :=
 cnd (decide (x9 <= a0)) (∃ z11, (slices_symMergeCmpFunc_Row_v0_o g2 x8 (IntKind.i64.wrap (x8 + x6)) x9 x10 z11) /\ (z11.length = x10.length) /\ X3 x9 (IntKind.i64.wrap (x9 + (IntKind.i64.wrap ((2 : Int) * x6)))) z11) (cnd (decide ((IntKind.i64.wrap (x8 + x6)) < a0)) (∃ z12, (slices_symMergeCmpFunc_Row_v0_o g2 x8 (IntKind.i64.wrap (x8 + x6)) a0 x10 z12) /\ (z12.length = x10.length) /\ X2 (IntKind.i64.wrap (x6 * (2 : Int))) z12) (X2 (IntKind.i64.wrap (x6 * (2 : Int))) x10))
def slices_stableCmpFunc_Row_v0_L2i (a0 : Int) (g2 : (List T_value_Value) → (List T_value_Value) → Int → Prop) (r0 : List (List T_value_Value)) (X2 : Int → (List (List T_value_Value)) → Prop) (x6 : Int) (x7 : List (List T_value_Value)) : Prop :=
 cnd (decide (x6 < a0)) (∀ X3 : Int -> Int -> (List (List T_value_Value)) -> Prop, (∀ x8 x9 x10, slices_stableCmpFunc_Row_v0_L3i X2 a0 g2 x6 X3 x8 x9 x10 -> X3 x8 x9 x10) -> X3 (0 : Int) (IntKind.i64.wrap ((2 : Int) * x6)) x7) (x7 = r0)
def slices_stableCmpFunc_Row_v0_L1i (a0 : Int) (g2 : (List T_value_Value) → (List T_value_Value) → Int → Prop) (r0 : List (List T_value_Value)) (X1 : Int → Int → (List (List T_value_Value)) → Prop) (x1 x2 : Int) (x3 : List (List T_value_Value)) : Prop :=
 cnd (decide (x2 <= a0)) (∃ z4, (slices_insertionSortCmpFunc_Row_v0_o g2 x1 x2 x3 z4) /\ (z4.length = x3.length) /\ X1 x2 (IntKind.i64.wrap (x2 + (20 : Int))) z4) (∃ z5, (slices_insertionSortCmpFunc_Row_v0_o g2 x1 a0 x3 z5) /\ (z5.length = x3.length) /\ ∀ X2 : Int -> (List (List T_value_Value)) -> Prop, (∀ x6 x7, slices_stableCmpFunc_Row_v0_L2i a0 g2 r0 X2 x6 x7 -> X2 x6 x7) -> X2 (20 : Int) z5)
def slices_stableCmpFunc_Row_v0_oi (g2 : (List T_value_Value) → (List T_value_Value) → Int → Prop) (a0 : Int) (a1 r0 : List (List T_value_Value)) : Prop :=
 ∀ X1 : Int -> Int -> (List (List T_value_Value)) -> Prop, (∀ x1 x2 x3, slices_stableCmpFunc_Row_v0_L1i a0 g2 r0 X1 x1 x2 x3 -> X1 x1 x2 x3) -> X1 (0 : Int) (20 : Int) a1
theorem slices_stableCmpFunc_Row_v0_L3_m (X2 : Int → (List (List T_value_Value)) → Prop) (a0 : Int) (g2 : (List T_value_Value) → (List T_value_Value) → Int → Prop) (x6 : Int) {X3 : Int → Int → (List (List T_value_Value)) → Prop} {x8 x9 : Int} {x10 : List (List T_value_Value)} (h : slices_stableCmpFunc_Row_v0_L3i X2 a0 g2 x6 X3 x8 x9 x10) : slices_stableCmpFunc_Row_v0_L3 a0 g2 x6 X2 X3 x8 x9 x10 := by
 unfold slices_stableCmpFunc_Row_v0_L3
 unfold slices_stableCmpFunc_Row_v0_L3i at h
 exact h
theorem slices_stableCmpFunc_Row_v0_L2_m (a0 : Int) (g2 : (List T_value_Value) → (List T_value_Value) → Int → Prop) (r0 : List (List T_value_Value)) {X2 : Int → (List (List T_value_Value)) → Prop} {x6 : Int} {x7 : List (List T_value_Value)} (h : slices_stableCmpFunc_Row_v0_L2i a0 g2 r0 X2 x6 x7) : slices_stableCmpFunc_Row_v0_L2 a0 g2 r0 X2 x6 x7 := by
 unfold slices_stableCmpFunc_Row_v0_L2
 unfold slices_stableCmpFunc_Row_v0_L2i at h
 refine cnd_mono h (fun h => ?_) (fun h => ?_)
 ·intro X3 k
  exact h X3 (fun x8 x9 x10 q => k x8 x9 x10 (slices_stableCmpFunc_Row_v0_L3_m X2 a0 g2 x6 q))
 ·exact h
theorem slices_stableCmpFunc_Row_v0_L1_m (a0 : Int) (g2 : (List T_value_Value) → (List T_value_Value) → Int → Prop) (r0 : List (List T_value_Value)) {X1 : Int → Int → (List (List T_value_Value)) → Prop} {x1 x2 : Int} {x3 : List (List T_value_Value)} (h : slices_stableCmpFunc_Row_v0_L1i a0 g2 r0 X1 x1 x2 x3) : slices_stableCmpFunc_Row_v0_L1 a0 g2 r0 X1 x1 x2 x3 := by
 unfold slices_stableCmpFunc_Row_v0_L1
 unfold slices_stableCmpFunc_Row_v0_L1i at h
 refine cnd_mono h (fun h => ?_) (fun h => ?_)
 ·exact h
 ·obtain ⟨z5, h⟩ := h
  refine ⟨z5, ?_⟩
  obtain ⟨h0, h⟩ := h
  refine ⟨h0, ?_⟩
  obtain ⟨h0, h⟩ := h
  refine ⟨h0, ?_⟩
  intro X2 k
  exact h X2 (fun x6 x7 q => k x6 x7 (slices_stableCmpFunc_Row_v0_L2_m a0 g2 r0 q))
theorem slices_stableCmpFunc_Row_v0_i (g2 : (List T_value_Value) → (List T_value_Value) → Int → Prop) (a0 : Int) (a1 r0 : List (List T_value_Value)) (h : slices_stableCmpFunc_Row_v0_oi g2 a0 a1 r0) : slices_stableCmpFunc_Row_v0_o g2 a0 a1 r0 := by
 unfold slices_stableCmpFunc_Row_v0_o
 unfold slices_stableCmpFunc_Row_v0_oi at h
 intro X1 k
 exact h X1 (fun x1 x2 x3 q => k x1 x2 x3 (slices_stableCmpFunc_Row_v0_L1_m a0 g2 r0 q))
def slices_stableCmpFunc_Row_v0_s0 : Sl KK := ⟨102, [(2, [29, 29], [3])], ⟨[(0, .row 2000000), (1, .it .i64)], [], [(2000000, 29)]⟩, ⟨[], [], [(2000000, 29)]⟩, [], [], true, fun _ _ _ => True⟩
def slices_stableCmpFunc_Row_v0_sl : Sl KK := ⟨102, [(2, [29, 29], [3])], ⟨[(0, .row 2000000), (1, .it .i64)], [], [(2000000, 29)]⟩, ⟨[], [], [(2000000, 29)]⟩, [], [], true, apFs (K := KK) (ctT slices_stableCmpFunc_Row_v0_s0.ti) (ctT slices_stableCmpFunc_Row_v0_s0.te) [(2, [29, 29], [3])] slices_stableCmpFunc_Row_v0_o⟩
def slices_stableCmpFunc_Row_v0_an : An KK := (.s .o (.s .o (.s (.b (.l ⟨[(0, .row 2000000), (1, .kp 6), (2, .kp 7), (6, .kp 8), (7, .it .i64), (8, .it .i64)], [], [(2000000, 29)]⟩ (fun _ => (.s (.s .o (.c .o .o)) (.b (.s .o (.s .o .o))))))) (.s .o (.b (.l ⟨[(0, .row 2000000), (1, .kp 6), (2, .kp 7), (6, .it .i64)], [], [(2000000, 29)]⟩ (fun _ => (.s (.s .o (.c .o .o)) (.b (.s .o (.s (.b (.l ⟨[(0, .row 2000000), (1, .kp 6), (2, .kp 7), (6, .kp 24), (7, .it .i64), (8, .it .i64)], [], [(2000000, 29)]⟩ (fun _ => (.s (.s .o (.c .o .o)) (.b (.s .o (.s .o .o))))))) (.s (.s .o (.s .o (.c .o .o))) .o))))))))))))
def slices_stableCmpFunc_Row_v0_cf : Cf KK := ⟨CC, [], [slices_insertionSortCmpFunc_Row_v0_sl, slices_symMergeCmpFunc_Row_v0_sl], 63, [], none, false⟩
theorem slices_stableCmpFunc_Row_v0_ok : SlOk Try.prog CC slices_stableCmpFunc_Row_v0_sl := by
 intro fs env out hl hF hW
 obtain ⟨F2, fs2, rfl, h0⟩ := apFs_c hW
 obtain ⟨rfl, h1⟩ := apFs_n h0
 obtain ⟨a0, ea0, rfl, h2⟩ := apIn_c h1
 obtain ⟨a1, ea1, rfl, h3⟩ := apIn_c h2
 obtain ⟨rfl, h4⟩ := apIn_n h3
 obtain ⟨r0, er0, rfl, h5⟩ := apOut_c h4
 obtain ⟨rfl, h6⟩ := apOut_n h5
 show SlC Try.prog CC slices_stableCmpFunc_Row_v0_sl [F2] [.i a0, .l 29 a1] [.l 29 r0]
 rw [show SlC Try.prog CC slices_stableCmpFunc_Row_v0_sl [F2] [.i a0, .l 29 a1] [.l 29 r0] = SlC Try.prog CC slices_stableCmpFunc_Row_v0_s0 [F2] [.i a0, .l 29 a1] [.l 29 r0] by kernel_rfl]
 exact DnL_by (F := slices_stableCmpFunc_Row_v0_cf) CC_ok SsOk_n (SLOk_c slices_insertionSortCmpFunc_Row_v0_ok (SLOk_c slices_symMergeCmpFunc_Row_v0_ok SLOk_n)) t102 (A := slices_stableCmpFunc_Row_v0_an) (sp := slices_stableCmpFunc_Row_v0_s0) rfl (by kernel_rfl) (by kernel_rfl) (Nat.le_of_ble_eq_true (by kernel_rfl)) (fs := [F2]) (env := [.i a0, .l 29 a1]) (out := [.l 29 r0]) (by kernel_rfl) hF (X := slices_stableCmpFunc_Row_v0_o (curF [3] [29, 29] F2.W) a0 a1 r0) h6 (by kernel_rfl)
def slices_SortStableFunc_Row_v0_o (g1 : (List T_value_Value) → (List T_value_Value) → Int → Prop) (a0 r0 : List (List T_value_Value)) : Prop :=
 ∃ z1, (slices_stableCmpFunc_Row_v0_o g1 (a0.length : Int) a0 z1) /\ (z1.length = a0.length) /\ z1 = r0
def slices_SortStableFunc_Row_v0_s0 : Sl KK := ⟨87, [(1, [29, 29], [3])], ⟨[(0, .row 2000000)], [], [(2000000, 29)]⟩, ⟨[], [], [(2000000, 29)]⟩, [], [], true, fun _ _ _ => True⟩
def slices_SortStableFunc_Row_v0_sl : Sl KK := ⟨87, [(1, [29, 29], [3])], ⟨[(0, .row 2000000)], [], [(2000000, 29)]⟩, ⟨[], [], [(2000000, 29)]⟩, [], [], true, apFs (K := KK) (ctT slices_SortStableFunc_Row_v0_s0.ti) (ctT slices_SortStableFunc_Row_v0_s0.te) [(1, [29, 29], [3])] slices_SortStableFunc_Row_v0_o⟩
def slices_SortStableFunc_Row_v0_an : An KK := .o
def slices_SortStableFunc_Row_v0_cf : Cf KK := ⟨CC, [], [slices_stableCmpFunc_Row_v0_sl], 9, [], none, false⟩
theorem slices_SortStableFunc_Row_v0_ok : SlOk Try.prog CC slices_SortStableFunc_Row_v0_sl := by
 intro fs env out hl hF hW
 obtain ⟨F1, fs1, rfl, h0⟩ := apFs_c hW
 obtain ⟨rfl, h1⟩ := apFs_n h0
 obtain ⟨a0, ea0, rfl, h2⟩ := apIn_c h1
 obtain ⟨rfl, h3⟩ := apIn_n h2
 obtain ⟨r0, er0, rfl, h4⟩ := apOut_c h3
 obtain ⟨rfl, h5⟩ := apOut_n h4
 show SlC Try.prog CC slices_SortStableFunc_Row_v0_sl [F1] [.l 29 a0] [.l 29 r0]
 rw [show SlC Try.prog CC slices_SortStableFunc_Row_v0_sl [F1] [.l 29 a0] [.l 29 r0] = SlC Try.prog CC slices_SortStableFunc_Row_v0_s0 [F1] [.l 29 a0] [.l 29 r0] by kernel_rfl]
 exact DnL_by (F := slices_SortStableFunc_Row_v0_cf) CC_ok SsOk_n (SLOk_c slices_stableCmpFunc_Row_v0_ok SLOk_n) t87 (A := slices_SortStableFunc_Row_v0_an) (sp := slices_SortStableFunc_Row_v0_s0) rfl (by kernel_rfl) (by kernel_rfl) (Nat.le_of_ble_eq_true (by kernel_rfl)) (fs := [F1]) (env := [.l 29 a0]) (out := [.l 29 r0]) (by kernel_rfl) hF (X := slices_SortStableFunc_Row_v0_o (curF [3] [29, 29] F1.W) a0 r0) h5 (by kernel_rfl)
def slices_SortedStableFunc_Row_v0_o (g1 : (List T_value_Value) → (List T_value_Value) → Int → Prop) (a0 r0 : List (List T_value_Value)) : Prop :=
 ∃ z1, (slices_Collect_Row_v0_o a0 z1) /\ ∃ z2, (slices_SortStableFunc_Row_v0_o g1 z1 z2) /\ (z2.length = z1.length) /\ ((a0 = a0)) /\ z2 = r0
def slices_SortedStableFunc_Row_v0_oi (g1 : (List T_value_Value) → (List T_value_Value) → Int → Prop) (a0 r0 : List (List T_value_Value)) : Prop :=
 ∃ z1, (slices_Collect_Row_v0_o a0 z1) /\ ∃ z2, (slices_SortStableFunc_Row_v0_o g1 z1 z2) /\ (z2.length = z1.length) /\ z2 = r0
theorem slices_SortedStableFunc_Row_v0_i (g1 : (List T_value_Value) → (List T_value_Value) → Int → Prop) (a0 r0 : List (List T_value_Value)) (h : slices_SortedStableFunc_Row_v0_oi g1 a0 r0) : slices_SortedStableFunc_Row_v0_o g1 a0 r0 := by
 unfold slices_SortedStableFunc_Row_v0_o
 unfold slices_SortedStableFunc_Row_v0_oi at h
 obtain ⟨z1, h⟩ := h
 refine ⟨z1, ?_⟩
 obtain ⟨h0, h⟩ := h
 refine ⟨h0, ?_⟩
 obtain ⟨z2, h⟩ := h
 refine ⟨z2, ?_⟩
 obtain ⟨h0, h⟩ := h
 refine ⟨h0, ?_⟩
 obtain ⟨h0, h⟩ := h
 refine ⟨h0, ?_⟩
 exact ⟨by and_intros <;> first | rfl | trivial, h⟩
def slices_SortedStableFunc_Row_v0_s0 : Sl KK := ⟨63, [(1, [29, 29], [3])], ⟨[(0, .fn 88 [] [.px 2000000 0])], [(2000000, 24, [.sl 29])], []⟩, ⟨[(4, .row 1000000)], [], [(1000000, 29)]⟩, [2000000], [(4, none)], false, fun _ _ _ => True⟩
def slices_SortedStableFunc_Row_v0_sl : Sl KK := ⟨63, [(1, [29, 29], [3])], ⟨[(0, .fn 88 [] [.px 2000000 0])], [(2000000, 24, [.sl 29])], []⟩, ⟨[(4, .row 1000000)], [], [(1000000, 29)]⟩, [2000000], [(4, none)], false, apFs (K := KK) (ctT slices_SortedStableFunc_Row_v0_s0.ti) (ctT slices_SortedStableFunc_Row_v0_s0.te) [(1, [29, 29], [3])] slices_SortedStableFunc_Row_v0_o⟩
def slices_SortedStableFunc_Row_v0_an : An KK := (.s .o (.s .o (.s .o (.s .o .o))))
def slices_SortedStableFunc_Row_v0_cf : Cf KK := ⟨CC, [], [slices_Collect_Row_v0_sl, slices_SortStableFunc_Row_v0_sl], 12, [], none, false⟩
theorem slices_SortedStableFunc_Row_v0_ok : SlOk Try.prog CC slices_SortedStableFunc_Row_v0_sl := by
 intro fs env out hl hF hW
 obtain ⟨F1, fs1, rfl, h0⟩ := apFs_c hW
 obtain ⟨rfl, h1⟩ := apFs_n h0
 obtain ⟨a0, ea0, rfl, h2⟩ := apIn_c h1
 obtain ⟨rfl, h3⟩ := apIn_n h2
 obtain ⟨r0, er0, rfl, h4⟩ := apOut_c h3
 obtain ⟨rfl, h5⟩ := apOut_n h4
 show SlC Try.prog CC slices_SortedStableFunc_Row_v0_sl [F1] [.l 29 a0] [.l 29 r0]
 rw [show SlC Try.prog CC slices_SortedStableFunc_Row_v0_sl [F1] [.l 29 a0] [.l 29 r0] = SlC Try.prog CC slices_SortedStableFunc_Row_v0_s0 [F1] [.l 29 a0] [.l 29 r0] by kernel_rfl]
 exact DnL_by (F := slices_SortedStableFunc_Row_v0_cf) CC_ok SsOk_n (SLOk_c slices_Collect_Row_v0_ok (SLOk_c slices_SortStableFunc_Row_v0_ok SLOk_n)) t63 (A := slices_SortedStableFunc_Row_v0_an) (sp := slices_SortedStableFunc_Row_v0_s0) rfl (by kernel_rfl) (by kernel_rfl) (Nat.le_of_ble_eq_true (by kernel_rfl)) (fs := [F1]) (env := [.l 29 a0]) (out := [.l 29 r0]) (by kernel_rfl) hF (X := slices_SortedStableFunc_Row_v0_o (curF [3] [29, 29] F1.W) a0 r0) h5 (by kernel_rfl)
def row_Sort_o (a0 r0 : List (List T_value_Value)) : Prop :=
 ∃ z1, (slices_Values_Row_v0_o a0 z1) /\ ∃ z2, (slices_SortedStableFunc_Row_v0_o row_Compare_o z1 z2) /\ z2 = r0
def row_Sort_sp : Sp KK := ⟨39, [.v 24], [24], appW (K := KK) [24] [.v 24] row_Sort_o⟩
def row_Sort_an : An KK := (.s .o (.s .o .o))
def row_Sort_cf : Cf KK := ⟨CC, [row_Compare_sp], [slices_Values_Row_v0_sl, slices_SortedStableFunc_Row_v0_sl], 6, [], none, false⟩
theorem row_Sort_ok : SpOk Try.prog CC row_Sort_sp := SpOk_by (F := row_Sort_cf) (ps := [.v 24]) (rs := [24]) (w := row_Sort_o) CC_ok (SsOk_c row_Compare_ok SsOk_n) (SLOk_c slices_Values_Row_v0_ok (SLOk_c slices_SortedStableFunc_Row_v0_ok SLOk_n)) t39 (A := row_Sort_an) (by kernel_rfl) (by kernel_rfl) (fun a0 r0 => show _ = _ by kernel_rfl)
def bag_Of_o (a0 : List (List T_value_Value)) (r0 : T_bag_Bag) : Prop :=
 ∃ z1, (row_Sort_o a0 z1) /\ (⟨z1⟩ : T_bag_Bag) = r0
def bag_Of_sp : Sp KK := ⟨10, [.v 24], [31], appW (K := KK) [31] [.v 24] bag_Of_o⟩
def bag_Of_an : An KK := (.s .o (.s .o .o))
def bag_Of_cf : Cf KK := ⟨CC, [row_Sort_sp], [], 6, [], none, false⟩
theorem bag_Of_ok : SpOk Try.prog CC bag_Of_sp := SpOk_by (F := bag_Of_cf) (ps := [.v 24]) (rs := [31]) (w := bag_Of_o) CC_ok (SsOk_c row_Sort_ok SsOk_n) SLOk_n t10 (A := bag_Of_an) (by kernel_rfl) (by kernel_rfl) (fun a0 r0 => show _ = _ by kernel_rfl)
def slices_Clone_Value_o (a0 r0 : List T_value_Value) : Prop :=
 ∀ u1 : Bool, ((u1 = true -> a0 = []) -> cnd u1 (([] : List T_value_Value) = r0) ((a0.length <= 400000000) /\ (([] : List T_value_Value) ++ a0) = r0))
def slices_Clone_Value_sp : Sp KK := ⟨62, [.v 29], [29], appW (K := KK) [29] [.v 29] slices_Clone_Value_o⟩
def slices_Clone_Value_an : An KK := (.s .o (.s (.s .o (.c (.s .o .o) .o)) (.s .o .o)))
def slices_Clone_Value_cf : Cf KK := ⟨CC, [], [], 8, [], none, false⟩
theorem slices_Clone_Value_ok : SpOk Try.prog CC slices_Clone_Value_sp := SpOk_by (F := slices_Clone_Value_cf) (ps := [.v 29]) (rs := [29]) (w := slices_Clone_Value_o) CC_ok SsOk_n SLOk_n t62 (A := slices_Clone_Value_an) (by kernel_rfl) (by kernel_rfl) (fun a0 r0 => show _ = _ by kernel_rfl)
def bag_Bag_Rows_L1 (a0 : T_bag_Bag) (r0 : List (List T_value_Value)) (X1 : Int → (List (List T_value_Value)) → Prop) (x1 : Int) (x2 : List (List T_value_Value)) : Prop :=
 cnd (decide (x1 < (a0.rows.length : Int))) ((0 <= x1) /\ (x1 < (a0.rows.length : Int)) /\ ∃ y3 : (List T_value_Value), (a0.rows[x1.toNat]? = some y3) /\ ∃ z4, (slices_Clone_Value_o y3 z4) /\ (x2.length <= 1000000000) /\ X1 (IntKind.i64.wrap (x1 + (1 : Int))) (x2 ++ ([z4] : List (List T_value_Value)))) (x2 = r0)
def bag_Bag_Rows_o (a0 : T_bag_Bag) (r0 : List (List T_value_Value)) : Prop :=
 (a0.rows.length <= maxLen -> ∀ X1 : Int -> (List (List T_value_Value)) -> Prop, (∀ x1 x2, bag_Bag_Rows_L1 a0 r0 X1 x1 x2 -> X1 x1 x2) -> X1 (0 : Int) ([] : List (List T_value_Value)))
def bag_Bag_Rows_L1i (a0 : T_bag_Bag) (r0 : List (List T_value_Value)) (X1 : Int → (List (List T_value_Value)) → Prop) (x1 : Int) (x2 : List (List T_value_Value)) : Prop :=
 cnd (decide (x1 < (a0.rows.length : Int))) ((0 <= x1) /\ (x1 < (a0.rows.length : Int)) /\ ∃ y3 : (List T_value_Value), (a0.rows[x1.toNat]? = some y3) /\ ∃ z4, (slices_Clone_Value_o y3 z4) /\ (x2.length <= 1000000000) /\ X1 (IntKind.i64.wrap (x1 + (1 : Int))) (x2 ++ ([z4] : List (List T_value_Value)))) (x2 = r0)
def bag_Bag_Rows_oi (a0 : T_bag_Bag) (r0 : List (List T_value_Value)) : Prop :=
 (a0.rows.length <= maxLen -> ∀ X1 : Int -> (List (List T_value_Value)) -> Prop, (∀ x1 x2, bag_Bag_Rows_L1i a0 r0 X1 x1 x2 -> X1 x1 x2) -> X1 (0 : Int) ([] : List (List T_value_Value)))
theorem bag_Bag_Rows_L1_m (a0 : T_bag_Bag) (r0 : List (List T_value_Value)) {X1 : Int → (List (List T_value_Value)) → Prop} {x1 : Int} {x2 : List (List T_value_Value)} (h : bag_Bag_Rows_L1i a0 r0 X1 x1 x2) : bag_Bag_Rows_L1 a0 r0 X1 x1 x2 := by
 unfold bag_Bag_Rows_L1
 unfold bag_Bag_Rows_L1i at h
 exact h
theorem bag_Bag_Rows_i (a0 : T_bag_Bag) (r0 : List (List T_value_Value)) (h : bag_Bag_Rows_oi a0 r0) : bag_Bag_Rows_o a0 r0 := by
 unfold bag_Bag_Rows_o
 unfold bag_Bag_Rows_oi at h
 intro c
 replace h := h c
 intro X1 k
 exact h X1 (fun x1 x2 q => k x1 x2 (bag_Bag_Rows_L1_m a0 r0 q))
def bag_Bag_Rows_sp : Sp KK := ⟨37, [.v 31], [24], appW (K := KK) [24] [.v 31] bag_Bag_Rows_o⟩
def bag_Bag_Rows_an : An KK := (.s .o (.s .o (.s (.s .o (.b (.l ⟨[(3, .row 17), (7, .kp 6), (8, .kp 7), (9, .it .i64)], [], [(17, 29)]⟩ (fun _ => (.s .o (.s (.c .o .o) (.s (.b (.s .o .o)) .o))))))) (.s .o .o))))
def bag_Bag_Rows_cf : Cf KK := ⟨CC, [slices_Clone_Value_sp], [], 20, [], none, false⟩
theorem bag_Bag_Rows_ok : SpOk Try.prog CC bag_Bag_Rows_sp := SpOk_by (F := bag_Bag_Rows_cf) (ps := [.v 31]) (rs := [24]) (w := bag_Bag_Rows_o) CC_ok (SsOk_c slices_Clone_Value_ok SsOk_n) SLOk_n t37 (A := bag_Bag_Rows_an) (by kernel_rfl) (by kernel_rfl) (fun a0 r0 => show _ = _ by kernel_rfl)
def bag_Bag_Len_o (a0 : T_bag_Bag) (r0 : Int) : Prop :=
 (a0.rows.length <= maxLen -> (a0.rows.length : Int) = r0)
def bag_Bag_Len_sp : Sp KK := ⟨13, [.v 31], [3], appW (K := KK) [3] [.v 31] bag_Bag_Len_o⟩
def bag_Bag_Len_an : An KK := (.s .o (.s .o .o))
def bag_Bag_Len_cf : Cf KK := ⟨CC, [], [], 6, [], none, false⟩
theorem bag_Bag_Len_ok : SpOk Try.prog CC bag_Bag_Len_sp := SpOk_by (F := bag_Bag_Len_cf) (ps := [.v 31]) (rs := [3]) (w := bag_Bag_Len_o) CC_ok SsOk_n SLOk_n t13 (A := bag_Bag_Len_an) (by kernel_rfl) (by kernel_rfl) (fun a0 r0 => show _ = _ by kernel_rfl)
def bag_Bag_All_v0_o (a0 : T_bag_Bag) (r0 : List (List T_value_Value)) : Prop :=
 a0.rows = r0
def bag_Bag_All_v0_s0 : Sl KK := ⟨49, [], ⟨[(0, .v 31)], [], []⟩, ⟨[(2, .fn 74 [] [.px 1000000 0])], [(1000000, 31, [.sl 29])], []⟩, [], [(2, none)], true, fun _ _ _ => True⟩
def bag_Bag_All_v0_sl : Sl KK := ⟨49, [], ⟨[(0, .v 31)], [], []⟩, ⟨[(2, .fn 74 [] [.px 1000000 0])], [(1000000, 31, [.sl 29])], []⟩, [], [(2, none)], true, apFs (K := KK) (ctT bag_Bag_All_v0_s0.ti) (ctT bag_Bag_All_v0_s0.te) [] bag_Bag_All_v0_o⟩
def bag_Bag_All_v0_an : An KK := (.s .o (.s .o .o))
def bag_Bag_All_v0_cf : Cf KK := ⟨CC, [], [], 4, [], none, false⟩
theorem bag_Bag_All_v0_ok : SlOk Try.prog CC bag_Bag_All_v0_sl := by
 intro fs env out hl hF hW
 obtain ⟨rfl, h0⟩ := apFs_n hW
 obtain ⟨a0, ea0, rfl, h1⟩ := apIn_c h0
 obtain ⟨rfl, h2⟩ := apIn_n h1
 obtain ⟨r0, er0, rfl, h3⟩ := apOut_c h2
 obtain ⟨rfl, h4⟩ := apOut_n h3
 show SlC Try.prog CC bag_Bag_All_v0_sl [] [.v 31 a0] [.l 29 r0]
 rw [show SlC Try.prog CC bag_Bag_All_v0_sl [] [.v 31 a0] [.l 29 r0] = SlC Try.prog CC bag_Bag_All_v0_s0 [] [.v 31 a0] [.l 29 r0] by kernel_rfl]
 exact DnL_by (F := bag_Bag_All_v0_cf) CC_ok SsOk_n SLOk_n t49 (A := bag_Bag_All_v0_an) (sp := bag_Bag_All_v0_s0) rfl (by kernel_rfl) (by kernel_rfl) (Nat.le_of_ble_eq_true (by kernel_rfl)) (fs := []) (env := [.v 31 a0]) (out := [.l 29 r0]) (by kernel_rfl) hF (X := bag_Bag_All_v0_o a0 r0) h4 (by kernel_rfl)
def bag_Bag_Distinct_J3 (X2 : Int → (List (List T_value_Value)) → Prop) (x4 x2 : Int) (z1 : List (List T_value_Value)) (X1 : Int → (List (List T_value_Value)) → Prop) (x6 : Bool) (x7 : List (List T_value_Value)) : Prop :=
 cnd x6 (X2 (IntKind.i64.wrap (x4 + (1 : Int))) x7) ((0 <= x2) /\ (x2 < (z1.length : Int)) /\ ∃ y8 : (List T_value_Value), (z1[x2.toNat]? = some y8) /\ ∃ z9, (slices_Clone_Value_o y8 z9) /\ (x7.length <= 1000000000) /\ X1 (IntKind.i64.wrap (x2 + x4)) (x7 ++ ([z9] : List (List T_value_Value))))
def bag_Bag_Distinct_L2 (x2 : Int) (z1 : List (List T_value_Value)) (X1 X2 : Int → (List (List T_value_Value)) → Prop) (x4 : Int) (x5 : List (List T_value_Value)) : Prop :=
 ∀ J3 : Bool -> (List (List T_value_Value)) -> Prop, (∀ x6 x7, bag_Bag_Distinct_J3 X2 x4 x2 z1 X1 x6 x7 -> J3 x6 x7) -> cnd (decide ((IntKind.i64.wrap (x2 + x4)) < (z1.length : Int))) ((0 <= x2) /\ (x2 < (z1.length : Int)) /\ ∃ y10 : (List T_value_Value), (z1[x2.toNat]? = some y10) /\ (0 <= (IntKind.i64.wrap (x2 + x4))) /\ ((IntKind.i64.wrap (x2 + x4)) < (z1.length : Int)) /\ ∃ y11 : (List T_value_Value), (z1[(IntKind.i64.wrap (x2 + x4)).toNat]? = some y11) /\ ∃ z12, (row_Compare_o y10 y11 z12) /\ J3 (z12 == (0 : Int)) x5) (J3 false x5)
def bag_Bag_Distinct_L1 (z1 : List (List T_value_Value)) (r0 : T_bag_Bag) (X1 : Int → (List (List T_value_Value)) → Prop) (x2 : Int) (x3 : List (List T_value_Value)) : Prop :=
 (z1.length <= maxLen -> cnd (decide (x2 < (z1.length : Int))) (∀ X2 : Int -> (List (List T_value_Value)) -> Prop, (∀ x4 x5, bag_Bag_Distinct_L2 x2 z1 X1 X2 x4 x5 -> X2 x4 x5) -> X2 (1 : Int) x3) ((⟨x3⟩ : T_bag_Bag) = r0))
def bag_Bag_Distinct_o (a0 r0 : T_bag_Bag) : Prop :=
 ∃ z1, (bag_Bag_All_v0_o a0 z1) /\ (Nat -> ∀ X1 : Int -> (List (List T_value_Value)) -> Prop, (∀ x2 x3, bag_Bag_Distinct_L1 z1 r0 X1 x2 x3 -> X1 x2 x3) -> X1 (0 : Int) ([] : List (List T_value_Value)))
def bag_Bag_Distinct_J3i (X1 X2 : Int → (List (List T_value_Value)) → Prop) (x2 x4 : Int) (z1 : List (List T_value_Value)) (x6 : Bool) (x7 : List (List T_value_Value)) : Prop :=
 cnd x6 (X2 (IntKind.i64.wrap (x4 + (1 : Int))) x7) ((0 <= x2) /\ (x2 < (z1.length : Int)) /\ ∃ y8 : (List T_value_Value), (z1[x2.toNat]? = some y8) /\ ∃ z9, (slices_Clone_Value_o y8 z9) /\ (x7.length <= 1000000000) /\ X1 (IntKind.i64.wrap (x2 + x4)) (x7 ++ ([z9] : List (List T_value_Value))))
def bag_Bag_Distinct_L2i (X1 : Int → (List (List T_value_Value)) → Prop) (x2 : Int) (z1 : List (List T_value_Value)) (X2 : Int → (List (List T_value_Value)) → Prop) (x4 : Int) (x5 : List (List T_value_Value)) : Prop :=
 cnd (decide ((IntKind.i64.wrap (x2 + x4)) < (z1.length : Int))) ((0 <= x2) /\ (x2 < (z1.length : Int)) /\ ∃ y10 : (List T_value_Value), (z1[x2.toNat]? = some y10) /\ (0 <= (IntKind.i64.wrap (x2 + x4))) /\ ((IntKind.i64.wrap (x2 + x4)) < (z1.length : Int)) /\ ∃ y11 : (List T_value_Value), (z1[(IntKind.i64.wrap (x2 + x4)).toNat]? = some y11) /\ ∃ z12, (row_Compare_o y10 y11 z12) /\ bag_Bag_Distinct_J3i X1 X2 x2 x4 z1 (z12 == (0 : Int)) x5) (bag_Bag_Distinct_J3i X1 X2 x2 x4 z1 false x5)
def bag_Bag_Distinct_L1i (r0 : T_bag_Bag) (z1 : List (List T_value_Value)) (X1 : Int → (List (List T_value_Value)) → Prop) (x2 : Int) (x3 : List (List T_value_Value)) : Prop :=
 (z1.length <= maxLen -> cnd (decide (x2 < (z1.length : Int))) (∀ X2 : Int -> (List (List T_value_Value)) -> Prop, (∀ x4 x5, bag_Bag_Distinct_L2i X1 x2 z1 X2 x4 x5 -> X2 x4 x5) -> X2 (1 : Int) x3) ((⟨x3⟩ : T_bag_Bag) = r0))
def bag_Bag_Distinct_oi (a0 r0 : T_bag_Bag) : Prop :=
 ∃ z1, (bag_Bag_All_v0_o a0 z1) /\ (Nat -> ∀ X1 : Int -> (List (List T_value_Value)) -> Prop, (∀ x2 x3, bag_Bag_Distinct_L1i r0 z1 X1 x2 x3 -> X1 x2 x3) -> X1 (0 : Int) ([] : List (List T_value_Value)))
theorem bag_Bag_Distinct_J3_m (X1 X2 : Int → (List (List T_value_Value)) → Prop) (x2 x4 : Int) (z1 : List (List T_value_Value)) {x6 : Bool} {x7 : List (List T_value_Value)} (h : bag_Bag_Distinct_J3i X1 X2 x2 x4 z1 x6 x7) : bag_Bag_Distinct_J3 X2 x4 x2 z1 X1 x6 x7 := by
 unfold bag_Bag_Distinct_J3
 unfold bag_Bag_Distinct_J3i at h
 exact h
theorem bag_Bag_Distinct_L2_m (X1 : Int → (List (List T_value_Value)) → Prop) (x2 : Int) (z1 : List (List T_value_Value)) {X2 : Int → (List (List T_value_Value)) → Prop} {x4 : Int} {x5 : List (List T_value_Value)} (h : bag_Bag_Distinct_L2i X1 x2 z1 X2 x4 x5) : bag_Bag_Distinct_L2 x2 z1 X1 X2 x4 x5 := by
 unfold bag_Bag_Distinct_L2
 unfold bag_Bag_Distinct_L2i at h
 intro J3 kJ3
 have hJ3 : ∀ x6 x7, bag_Bag_Distinct_J3i X1 X2 x2 x4 z1 x6 x7 -> J3 x6 x7 := fun x6 x7 q => kJ3 x6 x7 (bag_Bag_Distinct_J3_m X1 X2 x2 x4 z1 q)
 refine cnd_mono h (fun h => ?_) (fun h => ?_)
 ·obtain ⟨h0, h⟩ := h
  refine ⟨h0, ?_⟩
  obtain ⟨h0, h⟩ := h
  refine ⟨h0, ?_⟩
  obtain ⟨y10, h⟩ := h
  refine ⟨y10, ?_⟩
  obtain ⟨h0, h⟩ := h
  refine ⟨h0, ?_⟩
  obtain ⟨h0, h⟩ := h
  refine ⟨h0, ?_⟩
  obtain ⟨h0, h⟩ := h
  refine ⟨h0, ?_⟩
  obtain ⟨y11, h⟩ := h
  refine ⟨y11, ?_⟩
  obtain ⟨h0, h⟩ := h
  refine ⟨h0, ?_⟩
  obtain ⟨z12, h⟩ := h
  refine ⟨z12, ?_⟩
  obtain ⟨h0, h⟩ := h
  refine ⟨h0, ?_⟩
  exact hJ3 _ _ h
 ·exact hJ3 _ _ h
theorem bag_Bag_Distinct_L1_m (r0 : T_bag_Bag) (z1 : List (List T_value_Value)) {X1 : Int → (List (List T_value_Value)) → Prop} {x2 : Int} {x3 : List (List T_value_Value)} (h : bag_Bag_Distinct_L1i r0 z1 X1 x2 x3) : bag_Bag_Distinct_L1 z1 r0 X1 x2 x3 := by
 unfold bag_Bag_Distinct_L1
 unfold bag_Bag_Distinct_L1i at h
 intro c
 replace h := h c
 refine cnd_mono h (fun h => ?_) (fun h => ?_)
 ·intro X2 k
  exact h X2 (fun x4 x5 q => k x4 x5 (bag_Bag_Distinct_L2_m X1 x2 z1 q))
 ·exact h
theorem bag_Bag_Distinct_i (a0 r0 : T_bag_Bag) (h : bag_Bag_Distinct_oi a0 r0) : bag_Bag_Distinct_o a0 r0 := by
 unfold bag_Bag_Distinct_o
 unfold bag_Bag_Distinct_oi at h
 obtain ⟨z1, h⟩ := h
 refine ⟨z1, ?_⟩
 obtain ⟨h0, h⟩ := h
 refine ⟨h0, ?_⟩
 intro c
 replace h := h c
 intro X1 k
 exact h X1 (fun x2 x3 q => k x2 x3 (bag_Bag_Distinct_L1_m r0 z1 q))
def bag_Bag_Distinct_sp : Sp KK := ⟨22, [.v 31], [31], appW (K := KK) [31] [.v 31] bag_Bag_Distinct_o⟩
def bag_Bag_Distinct_an : An KK := (.s .o (.s .o (.s (.s .o (.b (.g 1 ⟨[(2, .px 100002 0), (3, .px 100003 0), (6, .fn 74 [] [.px 100384 0])], [(100002, 31, [.nil]), (100003, 24, [.nil]), (100384, 31, [.sl 29])], []⟩ ⟨[(0, .kp 1), (1, .px 200384 0), (3, .kp 72), (4, .kp 77), (35, .kp 1), (41, .sl 88), (42, .kp 77), (48, .kp 1), (51, .px 200002 0), (52, .px 200003 0)], [(200384, 31, [.kp 41]), (200002, 31, [.kp 42]), (200003, 24, [.row 200012])], [(200012, 29)]⟩ (.s .o (.b (.l ⟨[(0, .kp 1), (1, .px 100384 0), (3, .it .i64), (48, .kp 1), (51, .px 100002 0), (52, .px 100003 0)], [(100384, 31, [.kp 41]), (100002, 31, [.kp 42]), (100003, 24, [.row 12])], [(12, 29)]⟩ (fun _ => (.s (.s .o (.c .o .o)) (.b (.s .o (.s (.b (.l ⟨[(0, .kp 1), (1, .px 100384 0), (3, .kp 72), (4, .it .i64), (48, .kp 1), (51, .px 100002 0), (52, .px 100003 0)], [(100384, 31, [.kp 41]), (100002, 31, [.kp 42]), (100003, 24, [.row 12])], [(12, 29)]⟩ (fun _ => (.s (.j ⟨[(0, .kp 1), (1, .px 100384 0), (3, .kp 72), (4, .kp 77), (32, .bl), (48, .kp 1), (51, .px 100002 0), (52, .px 100003 0)], [(100384, 31, [.kp 41]), (100002, 31, [.kp 42]), (100003, 24, [.row 12])], [(12, 29)]⟩ .o (fun _ => (.c .o .o))) (.b .o))))) (.s (.s .o (.c .o .o)) .o))))))))) .o (.b .o)))) (.s .o .o))))
def bag_Bag_Distinct_cf : Cf KK := ⟨CC, [row_Compare_sp, slices_Clone_Value_sp], [bag_Bag_All_v0_sl], 15, [(74, c74)], none, false⟩
theorem bag_Bag_Distinct_ok : SpOk Try.prog CC bag_Bag_Distinct_sp := SpOk_by (F := bag_Bag_Distinct_cf) (ps := [.v 31]) (rs := [31]) (w := bag_Bag_Distinct_o) CC_ok (SsOk_c row_Compare_ok (SsOk_c slices_Clone_Value_ok SsOk_n)) (SLOk_c bag_Bag_All_v0_ok SLOk_n) t22 (A := bag_Bag_Distinct_an) (by kernel_rfl) (by kernel_rfl) (fun a0 r0 => show _ = _ by kernel_rfl) (hI := (IOk_c t74 IOk_n))
def law08_speaks_J1 (r0 x5 : Bool) : Prop :=
 x5 = r0
def law08_speaks_o (r0 : Bool) : Prop :=
 ∃ z1, (value_OfInt_o (1 : Int) z1) /\ ∃ z2, (value_OfInt_o (0 : Int) z2) /\ ∃ z3, (bag_Of_o ([([z1] : List T_value_Value), ([z2] : List T_value_Value), ([z1] : List T_value_Value)] : List (List T_value_Value)) z3) /\ ∃ z4, (bag_Bag_Rows_o z3 z4) /\ ∀ J1 : Bool -> Prop, (∀ x5, law08_speaks_J1 r0 x5 -> J1 x5) -> ∃ z6, (bag_Bag_Len_o z3 z6) /\ cnd (z6 == (3 : Int)) (∃ z7, (bag_Bag_Distinct_o z3 z7) /\ ∃ z8, (bag_Bag_Len_o z7 z8) /\ cnd (z8 == (2 : Int)) (cnd ((z4.length : Int) == (3 : Int)) ((0 <= (0 : Int)) /\ ((0 : Int) < (z4.length : Int)) /\ ∃ y9 : (List T_value_Value), (z4[(0 : Int).toNat]? = some y9) /\ (0 <= (0 : Int)) /\ ((0 : Int) < (y9.length : Int)) /\ ∃ y10 : T_value_Value, (y9[(0 : Int).toNat]? = some y10) /\ ∃ z11, (value_OfInt_o (0 : Int) z11) /\ cnd ((y10.Kind == z11.Kind) && ((y10.N == z11.N) && ((y10.S == z11.S) && true))) ((0 <= (2 : Int)) /\ ((2 : Int) < (z4.length : Int)) /\ ∃ y12 : (List T_value_Value), (z4[(2 : Int).toNat]? = some y12) /\ (0 <= (0 : Int)) /\ ((0 : Int) < (y12.length : Int)) /\ ∃ y13 : T_value_Value, (y12[(0 : Int).toNat]? = some y13) /\ ∃ z14, (value_OfInt_o (1 : Int) z14) /\ J1 ((y13.Kind == z14.Kind) && ((y13.N == z14.N) && ((y13.S == z14.S) && true)))) (J1 false)) (J1 false)) (J1 false)) (J1 false)
def law08_speaks_J1i (r0 x5 : Bool) : Prop :=
 x5 = r0
def law08_speaks_oi (r0 : Bool) : Prop :=
 ∃ z1, (value_OfInt_o (1 : Int) z1) /\ ∃ z2, (value_OfInt_o (0 : Int) z2) /\ ∃ z3, (bag_Of_o ([([z1] : List T_value_Value), ([z2] : List T_value_Value), ([z1] : List T_value_Value)] : List (List T_value_Value)) z3) /\ ∃ z4, (bag_Bag_Rows_o z3 z4) /\ ∃ z6, (bag_Bag_Len_o z3 z6) /\ cnd (z6 == (3 : Int)) (∃ z7, (bag_Bag_Distinct_o z3 z7) /\ ∃ z8, (bag_Bag_Len_o z7 z8) /\ cnd (z8 == (2 : Int)) (cnd ((z4.length : Int) == (3 : Int)) ((0 <= (0 : Int)) /\ ((0 : Int) < (z4.length : Int)) /\ ∃ y9 : (List T_value_Value), (z4[(0 : Int).toNat]? = some y9) /\ (0 <= (0 : Int)) /\ ((0 : Int) < (y9.length : Int)) /\ ∃ y10 : T_value_Value, (y9[(0 : Int).toNat]? = some y10) /\ ∃ z11, (value_OfInt_o (0 : Int) z11) /\ cnd ((y10.Kind == z11.Kind) && ((y10.N == z11.N) && ((y10.S == z11.S) && true))) ((0 <= (2 : Int)) /\ ((2 : Int) < (z4.length : Int)) /\ ∃ y12 : (List T_value_Value), (z4[(2 : Int).toNat]? = some y12) /\ (0 <= (0 : Int)) /\ ((0 : Int) < (y12.length : Int)) /\ ∃ y13 : T_value_Value, (y12[(0 : Int).toNat]? = some y13) /\ ∃ z14, (value_OfInt_o (1 : Int) z14) /\ law08_speaks_J1i r0 ((y13.Kind == z14.Kind) && ((y13.N == z14.N) && ((y13.S == z14.S) && true)))) (law08_speaks_J1i r0 false)) (law08_speaks_J1i r0 false)) (law08_speaks_J1i r0 false)) (law08_speaks_J1i r0 false)
theorem law08_speaks_J1_m (r0 : Bool) {x5 : Bool} (h : law08_speaks_J1i r0 x5) : law08_speaks_J1 r0 x5 := by
 unfold law08_speaks_J1
 unfold law08_speaks_J1i at h
 exact h
theorem law08_speaks_i (r0 : Bool) (h : law08_speaks_oi r0) : law08_speaks_o r0 := by
 unfold law08_speaks_o
 unfold law08_speaks_oi at h
 obtain ⟨z1, h⟩ := h
 refine ⟨z1, ?_⟩
 obtain ⟨h0, h⟩ := h
 refine ⟨h0, ?_⟩
 obtain ⟨z2, h⟩ := h
 refine ⟨z2, ?_⟩
 obtain ⟨h0, h⟩ := h
 refine ⟨h0, ?_⟩
 obtain ⟨z3, h⟩ := h
 refine ⟨z3, ?_⟩
 obtain ⟨h0, h⟩ := h
 refine ⟨h0, ?_⟩
 obtain ⟨z4, h⟩ := h
 refine ⟨z4, ?_⟩
 obtain ⟨h0, h⟩ := h
 refine ⟨h0, ?_⟩
 intro J1 kJ1
 have hJ1 : ∀ x5, law08_speaks_J1i r0 x5 -> J1 x5 := fun x5 q => kJ1 x5 (law08_speaks_J1_m r0 q)
 obtain ⟨z6, h⟩ := h
 refine ⟨z6, ?_⟩
 obtain ⟨h0, h⟩ := h
 refine ⟨h0, ?_⟩
 refine cnd_mono h (fun h => ?_) (fun h => ?_)
 ·obtain ⟨z7, h⟩ := h
  refine ⟨z7, ?_⟩
  obtain ⟨h0, h⟩ := h
  refine ⟨h0, ?_⟩
  obtain ⟨z8, h⟩ := h
  refine ⟨z8, ?_⟩
  obtain ⟨h0, h⟩ := h
  refine ⟨h0, ?_⟩
  refine cnd_mono h (fun h => ?_) (fun h => ?_)
  ·refine cnd_mono h (fun h => ?_) (fun h => ?_)
   ·obtain ⟨h0, h⟩ := h
    refine ⟨h0, ?_⟩
    obtain ⟨h0, h⟩ := h
    refine ⟨h0, ?_⟩
    obtain ⟨y9, h⟩ := h
    refine ⟨y9, ?_⟩
    obtain ⟨h0, h⟩ := h
    refine ⟨h0, ?_⟩
    obtain ⟨h0, h⟩ := h
    refine ⟨h0, ?_⟩
    obtain ⟨h0, h⟩ := h
    refine ⟨h0, ?_⟩
    obtain ⟨y10, h⟩ := h
    refine ⟨y10, ?_⟩
    obtain ⟨h0, h⟩ := h
    refine ⟨h0, ?_⟩
    obtain ⟨z11, h⟩ := h
    refine ⟨z11, ?_⟩
    obtain ⟨h0, h⟩ := h
    refine ⟨h0, ?_⟩
    refine cnd_mono h (fun h => ?_) (fun h => ?_)
    ·obtain ⟨h0, h⟩ := h
     refine ⟨h0, ?_⟩
     obtain ⟨h0, h⟩ := h
     refine ⟨h0, ?_⟩
     obtain ⟨y12, h⟩ := h
     refine ⟨y12, ?_⟩
     obtain ⟨h0, h⟩ := h
     refine ⟨h0, ?_⟩
     obtain ⟨h0, h⟩ := h
     refine ⟨h0, ?_⟩
     obtain ⟨h0, h⟩ := h
     refine ⟨h0, ?_⟩
     obtain ⟨y13, h⟩ := h
     refine ⟨y13, ?_⟩
     obtain ⟨h0, h⟩ := h
     refine ⟨h0, ?_⟩
     obtain ⟨z14, h⟩ := h
     refine ⟨z14, ?_⟩
     obtain ⟨h0, h⟩ := h
     refine ⟨h0, ?_⟩
     exact hJ1 _ h
    ·exact hJ1 _ h
   ·exact hJ1 _ h
  ·exact hJ1 _ h
 ·exact hJ1 _ h
def law08_speaks_sp : Sp KK := ⟨8, [], [4], appW (K := KK) [4] [] law08_speaks_o⟩
def law08_speaks_an : An KK := (.s .o (.s .o (.s .o (.s .o (.j ⟨[(0, .bl)], [], []⟩ .o (fun _ => .o))))))
def law08_speaks_cf : Cf KK := ⟨CC, [value_OfInt_sp, bag_Of_sp, bag_Bag_Rows_sp, bag_Bag_Len_sp, bag_Bag_Distinct_sp], [], 46, [], none, false⟩
theorem law08_speaks_ok : SpOk Try.prog CC law08_speaks_sp := SpOk_by (F := law08_speaks_cf) (ps := []) (rs := [4]) (w := law08_speaks_o) CC_ok (SsOk_c value_OfInt_ok (SsOk_c bag_Of_ok (SsOk_c bag_Bag_Rows_ok (SsOk_c bag_Bag_Len_ok (SsOk_c bag_Bag_Distinct_ok SsOk_n))))) SLOk_n t8 (A := law08_speaks_an) (by kernel_rfl) (by kernel_rfl) (fun r0 => show _ = _ by kernel_rfl)
def law08_told_J3 (X1 : Int → (List T_value_Value) → (List T_ref06_Value) → Prop) (x1 : Int) (y7 : T_law08_Value) (x8 : Int) (x9 : Str) (x10 : List T_value_Value) (x11 : List T_ref06_Value) : Prop :=
 (x10.length <= 1000000000) /\ (x11.length <= 1000000000) /\ X1 (IntKind.i64.wrap (x1 + (1 : Int))) (x10 ++ ([(⟨IntKind.i64.wrap (y7.Kind.tmod (4 : Int)), x8, x9⟩ : T_value_Value)] : List T_value_Value)) (x11 ++ ([(⟨IntKind.i64.wrap (y7.Kind.tmod (4 : Int)), x8, x9⟩ : T_ref06_Value)] : List T_ref06_Value))
def law08_told_J2 (x1 : Int) (a0 : List T_law08_Value) (X1 : Int → (List T_value_Value) → (List T_ref06_Value) → Prop) (r0 : List T_value_Value) (r1 : List T_ref06_Value) (x4 : Bool) (x5 : List T_value_Value) (x6 : List T_ref06_Value) : Prop :=
 cnd x4 ((0 <= x1) /\ (x1 < (a0.length : Int)) /\ ∃ y7 : T_law08_Value, (a0[x1.toNat]? = some y7) /\ ∀ J3 : Int -> Str -> (List T_value_Value) -> (List T_ref06_Value) -> Prop, (∀ x8 x9 x10 x11, law08_told_J3 X1 x1 y7 x8 x9 x10 x11 -> J3 x8 x9 x10 x11) -> cnd ((IntKind.i64.wrap (y7.Kind.tmod (4 : Int))) == (1 : Int)) ((0 <= x1) /\ (x1 < (a0.length : Int)) /\ ∃ y12 : T_law08_Value, (a0[x1.toNat]? = some y12) /\ J3 (IntKind.i64.wrap (bits .and .u8 y12.N (1 : Int))) ([] : Str) x5 x6) (cnd ((IntKind.i64.wrap (y7.Kind.tmod (4 : Int))) == (2 : Int)) ((0 <= x1) /\ (x1 < (a0.length : Int)) /\ ∃ y13 : T_law08_Value, (a0[x1.toNat]? = some y13) /\ J3 (IntKind.i64.wrap y13.N) ([] : Str) x5 x6) (cnd ((IntKind.i64.wrap (y7.Kind.tmod (4 : Int))) == (3 : Int)) ((0 <= x1) /\ (x1 < (a0.length : Int)) /\ ∃ y14 : T_law08_Value, (a0[x1.toNat]? = some y14) /\ (0 <= x1) /\ (x1 < (a0.length : Int)) /\ ∃ y15 : T_law08_Value, (a0[x1.toNat]? = some y15) /\ (0 <= (0 : Int) /\ (0 : Int) <= (if (64 : Int) < (y15.S.length : Int) then (64 : Int) else (y15.S.length : Int)) /\ (if (64 : Int) < (y15.S.length : Int) then (64 : Int) else (y15.S.length : Int)) <= (y14.S.length : Int)) /\ J3 (0 : Int) ((y14.S.drop (0 : Int).toNat).take ((if (64 : Int) < (y15.S.length : Int) then (64 : Int) else (y15.S.length : Int)).toNat - (0 : Int).toNat)) x5 x6) (J3 (0 : Int) ([] : Str) x5 x6)))) (x5 = r0 /\ x6 = r1)
def law08_told_L1 (a0 : List T_law08_Value) (r0 : List T_value_Value) (r1 : List T_ref06_Value) (X1 : Int → (List T_value_Value) → (List T_ref06_Value) → Prop) (x1 : Int) (x2 : List T_value_Value) (x3 : List T_ref06_Value) : Prop :=
 ∀ J2 : Bool -> (List T_value_Value) -> (List T_ref06_Value) -> Prop, (∀ x4 x5 x6, law08_told_J2 x1 a0 X1 r0 r1 x4 x5 x6 -> J2 x4 x5 x6) -> (a0.length <= maxLen -> cnd (decide (x1 < (a0.length : Int))) (J2 (decide (x1 < (4 : Int))) x2 x3) (J2 false x2 x3))
def law08_told_o (a0 : List T_law08_Value) (r0 : List T_value_Value) (r1 : List T_ref06_Value) : Prop :=
 ∀ X1 : Int -> (List T_value_Value) -> (List T_ref06_Value) -> Prop, (∀ x1 x2 x3, law08_told_L1 a0 r0 r1 X1 x1 x2 x3 -> X1 x1 x2 x3) -> X1 (0 : Int) ([] : List T_value_Value) ([] : List T_ref06_Value)
def law08_told_J3i (X1 : Int → (List T_value_Value) → (List T_ref06_Value) → Prop) (x1 : Int) (y7 : T_law08_Value) (x8 : Int) (x9 : Str) (x10 : List T_value_Value) (x11 : List T_ref06_Value) : Prop :=
 (x10.length <= 1000000000) /\ (x11.length <= 1000000000) /\ X1 (IntKind.i64.wrap (x1 + (1 : Int))) (x10 ++ ([(⟨IntKind.i64.wrap (y7.Kind.tmod (4 : Int)), x8, x9⟩ : T_value_Value)] : List T_value_Value)) (x11 ++ ([(⟨IntKind.i64.wrap (y7.Kind.tmod (4 : Int)), x8, x9⟩ : T_ref06_Value)] : List T_ref06_Value))
def law08_told_J2i (X1 : Int → (List T_value_Value) → (List T_ref06_Value) → Prop) (a0 : List T_law08_Value) (r0 : List T_value_Value) (r1 : List T_ref06_Value) (x1 : Int) (x4 : Bool) (x5 : List T_value_Value) (x6 : List T_ref06_Value) : Prop :=
 cnd x4 ((0 <= x1) /\ (x1 < (a0.length : Int)) /\ ∃ y7 : T_law08_Value, (a0[x1.toNat]? = some y7) /\ cnd ((IntKind.i64.wrap (y7.Kind.tmod (4 : Int))) == (1 : Int)) ((0 <= x1) /\ (x1 < (a0.length : Int)) /\ ∃ y12 : T_law08_Value, (a0[x1.toNat]? = some y12) /\ law08_told_J3i X1 x1 y7 (IntKind.i64.wrap (bits .and .u8 y12.N (1 : Int))) ([] : Str) x5 x6) (cnd ((IntKind.i64.wrap (y7.Kind.tmod (4 : Int))) == (2 : Int)) ((0 <= x1) /\ (x1 < (a0.length : Int)) /\ ∃ y13 : T_law08_Value, (a0[x1.toNat]? = some y13) /\ law08_told_J3i X1 x1 y7 (IntKind.i64.wrap y13.N) ([] : Str) x5 x6) (cnd ((IntKind.i64.wrap (y7.Kind.tmod (4 : Int))) == (3 : Int)) ((0 <= x1) /\ (x1 < (a0.length : Int)) /\ ∃ y14 : T_law08_Value, (a0[x1.toNat]? = some y14) /\ (0 <= x1) /\ (x1 < (a0.length : Int)) /\ ∃ y15 : T_law08_Value, (a0[x1.toNat]? = some y15) /\ (0 <= (0 : Int) /\ (0 : Int) <= (if (64 : Int) < (y15.S.length : Int) then (64 : Int) else (y15.S.length : Int)) /\ (if (64 : Int) < (y15.S.length : Int) then (64 : Int) else (y15.S.length : Int)) <= (y14.S.length : Int)) /\ law08_told_J3i X1 x1 y7 (0 : Int) ((y14.S.drop (0 : Int).toNat).take ((if (64 : Int) < (y15.S.length : Int) then (64 : Int) else (y15.S.length : Int)).toNat - (0 : Int).toNat)) x5 x6) (law08_told_J3i X1 x1 y7 (0 : Int) ([] : Str) x5 x6)))) (x5 = r0 /\ x6 = r1)
def law08_told_L1i (a0 : List T_law08_Value) (r0 : List T_value_Value) (r1 : List T_ref06_Value) (X1 : Int → (List T_value_Value) → (List T_ref06_Value) → Prop) (x1 : Int) (x2 : List T_value_Value) (x3 : List T_ref06_Value) : Prop :=
 (a0.length <= maxLen -> cnd (decide (x1 < (a0.length : Int))) (law08_told_J2i X1 a0 r0 r1 x1 (decide (x1 < (4 : Int))) x2 x3) (law08_told_J2i X1 a0 r0 r1 x1 false x2 x3))
def law08_told_oi (a0 : List T_law08_Value) (r0 : List T_value_Value) (r1 : List T_ref06_Value) : Prop :=
 ∀ X1 : Int -> (List T_value_Value) -> (List T_ref06_Value) -> Prop, (∀ x1 x2 x3, law08_told_L1i a0 r0 r1 X1 x1 x2 x3 -> X1 x1 x2 x3) -> X1 (0 : Int) ([] : List T_value_Value) ([] : List T_ref06_Value)
theorem law08_told_J3_m (X1 : Int → (List T_value_Value) → (List T_ref06_Value) → Prop) (x1 : Int) (y7 : T_law08_Value) {x8 : Int} {x9 : Str} {x10 : List T_value_Value} {x11 : List T_ref06_Value} (h : law08_told_J3i X1 x1 y7 x8 x9 x10 x11) : law08_told_J3 X1 x1 y7 x8 x9 x10 x11 := by
 unfold law08_told_J3
 unfold law08_told_J3i at h
 exact h
theorem law08_told_J2_m (X1 : Int → (List T_value_Value) → (List T_ref06_Value) → Prop) (a0 : List T_law08_Value) (r0 : List T_value_Value) (r1 : List T_ref06_Value) (x1 : Int) {x4 : Bool} {x5 : List T_value_Value} {x6 : List T_ref06_Value} (h : law08_told_J2i X1 a0 r0 r1 x1 x4 x5 x6) : law08_told_J2 x1 a0 X1 r0 r1 x4 x5 x6 := by
 unfold law08_told_J2
 unfold law08_told_J2i at h
 refine cnd_mono h (fun h => ?_) (fun h => ?_)
 ·obtain ⟨h0, h⟩ := h
  refine ⟨h0, ?_⟩
  obtain ⟨h0, h⟩ := h
  refine ⟨h0, ?_⟩
  obtain ⟨y7, h⟩ := h
  refine ⟨y7, ?_⟩
  obtain ⟨h0, h⟩ := h
  refine ⟨h0, ?_⟩
  intro J3 kJ3
  have hJ3 : ∀ x8 x9 x10 x11, law08_told_J3i X1 x1 y7 x8 x9 x10 x11 -> J3 x8 x9 x10 x11 := fun x8 x9 x10 x11 q => kJ3 x8 x9 x10 x11 (law08_told_J3_m X1 x1 y7 q)
  refine cnd_mono h (fun h => ?_) (fun h => ?_)
  ·obtain ⟨h0, h⟩ := h
   refine ⟨h0, ?_⟩
   obtain ⟨h0, h⟩ := h
   refine ⟨h0, ?_⟩
   obtain ⟨y12, h⟩ := h
   refine ⟨y12, ?_⟩
   obtain ⟨h0, h⟩ := h
   refine ⟨h0, ?_⟩
   exact hJ3 _ _ _ _ h
  ·refine cnd_mono h (fun h => ?_) (fun h => ?_)
   ·obtain ⟨h0, h⟩ := h
    refine ⟨h0, ?_⟩
    obtain ⟨h0, h⟩ := h
    refine ⟨h0, ?_⟩
    obtain ⟨y13, h⟩ := h
    refine ⟨y13, ?_⟩
    obtain ⟨h0, h⟩ := h
    refine ⟨h0, ?_⟩
    exact hJ3 _ _ _ _ h
   ·refine cnd_mono h (fun h => ?_) (fun h => ?_)
    ·obtain ⟨h0, h⟩ := h
     refine ⟨h0, ?_⟩
     obtain ⟨h0, h⟩ := h
     refine ⟨h0, ?_⟩
     obtain ⟨y14, h⟩ := h
     refine ⟨y14, ?_⟩
     obtain ⟨h0, h⟩ := h
     refine ⟨h0, ?_⟩
     obtain ⟨h0, h⟩ := h
     refine ⟨h0, ?_⟩
     obtain ⟨h0, h⟩ := h
     refine ⟨h0, ?_⟩
     obtain ⟨y15, h⟩ := h
     refine ⟨y15, ?_⟩
     obtain ⟨h0, h⟩ := h
     refine ⟨h0, ?_⟩
     obtain ⟨h0, h⟩ := h
     refine ⟨h0, ?_⟩
     exact hJ3 _ _ _ _ h
    ·exact hJ3 _ _ _ _ h
 ·exact h
theorem law08_told_L1_m (a0 : List T_law08_Value) (r0 : List T_value_Value) (r1 : List T_ref06_Value) {X1 : Int → (List T_value_Value) → (List T_ref06_Value) → Prop} {x1 : Int} {x2 : List T_value_Value} {x3 : List T_ref06_Value} (h : law08_told_L1i a0 r0 r1 X1 x1 x2 x3) : law08_told_L1 a0 r0 r1 X1 x1 x2 x3 := by
 unfold law08_told_L1
 unfold law08_told_L1i at h
 intro J2 kJ2
 have hJ2 : ∀ x4 x5 x6, law08_told_J2i X1 a0 r0 r1 x1 x4 x5 x6 -> J2 x4 x5 x6 := fun x4 x5 x6 q => kJ2 x4 x5 x6 (law08_told_J2_m X1 a0 r0 r1 x1 q)
 intro c
 replace h := h c
 refine cnd_mono h (fun h => ?_) (fun h => ?_)
 ·exact hJ2 _ _ _ h
 ·exact hJ2 _ _ _ h
theorem law08_told_i (a0 : List T_law08_Value) (r0 : List T_value_Value) (r1 : List T_ref06_Value) (h : law08_told_oi a0 r0 r1) : law08_told_o a0 r0 r1 := by
 unfold law08_told_o
 unfold law08_told_oi at h
 intro X1 k
 exact h X1 (fun x1 x2 x3 q => k x1 x2 x3 (law08_told_L1_m a0 r0 r1 q))
def law08_told_sp : Sp KK := ⟨38, [.v 93], [29, 50], appW (K := KK) [29, 50] [.v 93] law08_told_o⟩
def law08_told_an : An KK := (.s .o (.s .o (.s .o (.s (.s .o (.b (.l ⟨[(0, .kp 15), (4, .row 66), (5, .row 70), (6, .it .i64)], [], [(66, 88), (70, 116)]⟩ (fun _ => (.s (.j ⟨[(0, .kp 15), (4, .row 66), (5, .row 70), (6, .kp 26), (15, .bl)], [], [(66, 88), (70, 116)]⟩ .o (fun _ => (.c .o .o))) (.s (.b (.s .o (.j ⟨[(0, .kp 15), (4, .row 66), (5, .row 70), (6, .kp 26), (7, .px 7 0)], [(7, 116, [.kp 28, .it .i64, .st])], [(66, 88), (70, 116)]⟩ (.s .o (.b (.s .o (.c .o (.s .o (.c .o (.s .o (.c .o .o)))))))) (fun _ => .o)))) .o)))))) (.s .o .o)))))
def law08_told_cf : Cf KK := ⟨CC, [], [], 73, [], none, false⟩
theorem law08_told_ok : SpOk Try.prog CC law08_told_sp := SpOk_by (F := law08_told_cf) (ps := [.v 93]) (rs := [29, 50]) (w := law08_told_o) CC_ok SsOk_n SLOk_n t38 (A := law08_told_an) (by kernel_rfl) (by kernel_rfl) (fun a0 r0 r1 => show _ = _ by kernel_rfl)
def law08_rows_J2 (x1 : Int) (a0 : List (List T_law08_Value)) (X1 : Int → (List (List T_value_Value)) → (List (List T_ref06_Value)) → Prop) (r0 : List (List T_value_Value)) (r1 : List (List T_ref06_Value)) (x4 : Bool) (x5 : List (List T_value_Value)) (x6 : List (List T_ref06_Value)) : Prop :=
 cnd x4 ((0 <= x1) /\ (x1 < (a0.length : Int)) /\ ∃ y7 : (List T_law08_Value), (a0[x1.toNat]? = some y7) /\ ∃ z8 z9, (law08_told_o y7 z8 z9) /\ (x5.length <= 1000000000) /\ (x6.length <= 1000000000) /\ X1 (IntKind.i64.wrap (x1 + (1 : Int))) (x5 ++ ([z8] : List (List T_value_Value))) (x6 ++ ([z9] : List (List T_ref06_Value)))) (x5 = r0 /\ x6 = r1)
def law08_rows_L1 (a0 : List (List T_law08_Value)) (r0 : List (List T_value_Value)) (r1 : List (List T_ref06_Value)) (X1 : Int → (List (List T_value_Value)) → (List (List T_ref06_Value)) → Prop) (x1 : Int) (x2 : List (List T_value_Value)) (x3 : List (List T_ref06_Value)) : Prop :=
 ∀ J2 : Bool -> (List (List T_value_Value)) -> (List (List T_ref06_Value)) -> Prop, (∀ x4 x5 x6, law08_rows_J2 x1 a0 X1 r0 r1 x4 x5 x6 -> J2 x4 x5 x6) -> (a0.length <= maxLen -> cnd (decide (x1 < (a0.length : Int))) (J2 (decide (x1 < (12 : Int))) x2 x3) (J2 false x2 x3))
def law08_rows_o (a0 : List (List T_law08_Value)) (r0 : List (List T_value_Value)) (r1 : List (List T_ref06_Value)) : Prop :=
 ∀ X1 : Int -> (List (List T_value_Value)) -> (List (List T_ref06_Value)) -> Prop, (∀ x1 x2 x3, law08_rows_L1 a0 r0 r1 X1 x1 x2 x3 -> X1 x1 x2 x3) -> X1 (0 : Int) ([] : List (List T_value_Value)) ([] : List (List T_ref06_Value))
def law08_rows_J2i (X1 : Int → (List (List T_value_Value)) → (List (List T_ref06_Value)) → Prop) (a0 : List (List T_law08_Value)) (r0 : List (List T_value_Value)) (r1 : List (List T_ref06_Value)) (x1 : Int) (x4 : Bool) (x5 : List (List T_value_Value)) (x6 : List (List T_ref06_Value)) : Prop :=
 cnd x4 ((0 <= x1) /\ (x1 < (a0.length : Int)) /\ ∃ y7 : (List T_law08_Value), (a0[x1.toNat]? = some y7) /\ ∃ z8 z9, (law08_told_o y7 z8 z9) /\ (x5.length <= 1000000000) /\ (x6.length <= 1000000000) /\ X1 (IntKind.i64.wrap (x1 + (1 : Int))) (x5 ++ ([z8] : List (List T_value_Value))) (x6 ++ ([z9] : List (List T_ref06_Value)))) (x5 = r0 /\ x6 = r1)
def law08_rows_L1i (a0 : List (List T_law08_Value)) (r0 : List (List T_value_Value)) (r1 : List (List T_ref06_Value)) (X1 : Int → (List (List T_value_Value)) → (List (List T_ref06_Value)) → Prop) (x1 : Int) (x2 : List (List T_value_Value)) (x3 : List (List T_ref06_Value)) : Prop :=
 (a0.length <= maxLen -> cnd (decide (x1 < (a0.length : Int))) (law08_rows_J2i X1 a0 r0 r1 x1 (decide (x1 < (12 : Int))) x2 x3) (law08_rows_J2i X1 a0 r0 r1 x1 false x2 x3))
def law08_rows_oi (a0 : List (List T_law08_Value)) (r0 : List (List T_value_Value)) (r1 : List (List T_ref06_Value)) : Prop :=
 ∀ X1 : Int -> (List (List T_value_Value)) -> (List (List T_ref06_Value)) -> Prop, (∀ x1 x2 x3, law08_rows_L1i a0 r0 r1 X1 x1 x2 x3 -> X1 x1 x2 x3) -> X1 (0 : Int) ([] : List (List T_value_Value)) ([] : List (List T_ref06_Value))
theorem law08_rows_J2_m (X1 : Int → (List (List T_value_Value)) → (List (List T_ref06_Value)) → Prop) (a0 : List (List T_law08_Value)) (r0 : List (List T_value_Value)) (r1 : List (List T_ref06_Value)) (x1 : Int) {x4 : Bool} {x5 : List (List T_value_Value)} {x6 : List (List T_ref06_Value)} (h : law08_rows_J2i X1 a0 r0 r1 x1 x4 x5 x6) : law08_rows_J2 x1 a0 X1 r0 r1 x4 x5 x6 := by
 unfold law08_rows_J2
 unfold law08_rows_J2i at h
 exact h
theorem law08_rows_L1_m (a0 : List (List T_law08_Value)) (r0 : List (List T_value_Value)) (r1 : List (List T_ref06_Value)) {X1 : Int → (List (List T_value_Value)) → (List (List T_ref06_Value)) → Prop} {x1 : Int} {x2 : List (List T_value_Value)} {x3 : List (List T_ref06_Value)} (h : law08_rows_L1i a0 r0 r1 X1 x1 x2 x3) : law08_rows_L1 a0 r0 r1 X1 x1 x2 x3 := by
 unfold law08_rows_L1
 unfold law08_rows_L1i at h
 intro J2 kJ2
 have hJ2 : ∀ x4 x5 x6, law08_rows_J2i X1 a0 r0 r1 x1 x4 x5 x6 -> J2 x4 x5 x6 := fun x4 x5 x6 q => kJ2 x4 x5 x6 (law08_rows_J2_m X1 a0 r0 r1 x1 q)
 intro c
 replace h := h c
 refine cnd_mono h (fun h => ?_) (fun h => ?_)
 ·exact hJ2 _ _ _ h
 ·exact hJ2 _ _ _ h
theorem law08_rows_i (a0 : List (List T_law08_Value)) (r0 : List (List T_value_Value)) (r1 : List (List T_ref06_Value)) (h : law08_rows_oi a0 r0 r1) : law08_rows_o a0 r0 r1 := by
 unfold law08_rows_o
 unfold law08_rows_oi at h
 intro X1 k
 exact h X1 (fun x1 x2 x3 q => k x1 x2 x3 (law08_rows_L1_m a0 r0 r1 q))
def law08_rows_sp : Sp KK := ⟨9, [.v 22], [24, 25], appW (K := KK) [24, 25] [.v 22] law08_rows_o⟩
def law08_rows_an : An KK := (.s .o (.s .o (.s .o (.s (.s .o (.b (.l ⟨[(0, .kp 9), (4, .row 30), (5, .row 34), (6, .it .i64)], [], [(30, 29), (34, 50)]⟩ (fun _ => (.s (.j ⟨[(0, .kp 9), (4, .row 30), (5, .row 34), (6, .kp 16), (16, .bl)], [], [(30, 29), (34, 50)]⟩ .o (fun _ => (.c .o .o))) (.s (.b (.s .o .o)) .o)))))) (.s .o .o)))))
def law08_rows_cf : Cf KK := ⟨CC, [law08_told_sp], [], 37, [], none, false⟩
theorem law08_rows_ok : SpOk Try.prog CC law08_rows_sp := SpOk_by (F := law08_rows_cf) (ps := [.v 22]) (rs := [24, 25]) (w := law08_rows_o) CC_ok (SsOk_c law08_told_ok SsOk_n) SLOk_n t9 (A := law08_rows_an) (by kernel_rfl) (by kernel_rfl) (fun a0 r0 r1 => show _ = _ by kernel_rfl)
def bag_Same_1_o (a0 a1 : List T_value_Value) (r0 : Bool) : Prop :=
 ∃ z1, (row_Compare_o a0 a1 z1) /\ (z1 == (0 : Int)) = r0
def bag_Same_1_sp : Sp KK := ⟨41, [.v 29, .v 29], [4], appW (K := KK) [4] [.v 29, .v 29] bag_Same_1_o⟩
def bag_Same_1_an : An KK := (.s .o (.s .o .o))
def bag_Same_1_cf : Cf KK := ⟨CC, [row_Compare_sp], [], 9, [], none, false⟩
theorem bag_Same_1_ok : SpOk Try.prog CC bag_Same_1_sp := SpOk_by (F := bag_Same_1_cf) (ps := [.v 29, .v 29]) (rs := [4]) (w := bag_Same_1_o) CC_ok (SsOk_c row_Compare_ok SsOk_n) SLOk_n t41 (A := bag_Same_1_an) (by kernel_rfl) (by kernel_rfl) (fun a0 a1 r0 => show _ = _ by kernel_rfl)
def slices_EqualFunc_Row_L1 (a0 a1 : List (List T_value_Value)) (g2 : (List T_value_Value) → (List T_value_Value) → Bool → Prop) (r0 : Bool) (X1 : Int → Prop) (x1 : Int) : Prop :=
 cnd (decide (x1 < (a0.length : Int))) ((0 <= x1) /\ (x1 < (a0.length : Int)) /\ ∃ y2 : (List T_value_Value), (a0[x1.toNat]? = some y2) /\ (0 <= x1) /\ (x1 < (a1.length : Int)) /\ ∃ y3 : (List T_value_Value), (a1[x1.toNat]? = some y3) /\ ∃ z4, (g2 y2 y3 z4) /\ cnd (!z4) (false = r0) (X1 (IntKind.i64.wrap (x1 + (1 : Int))))) (true = r0)
def slices_EqualFunc_Row_o (a0 a1 : List (List T_value_Value)) (g2 : (List T_value_Value) → (List T_value_Value) → Bool → Prop) (r0 : Bool) : Prop :=
 (a0.length <= maxLen -> (a1.length <= maxLen -> cnd (!((a0.length : Int) == (a1.length : Int))) (false = r0) ((a0.length <= maxLen -> ∀ X1 : Int -> Prop, (∀ x1, slices_EqualFunc_Row_L1 a0 a1 g2 r0 X1 x1 -> X1 x1) -> X1 (0 : Int)))))
def slices_EqualFunc_Row_L1i (a0 a1 : List (List T_value_Value)) (g2 : (List T_value_Value) → (List T_value_Value) → Bool → Prop) (r0 : Bool) (X1 : Int → Prop) (x1 : Int) : Prop :=
 cnd (decide (x1 < (a0.length : Int))) ((0 <= x1) /\ (x1 < (a0.length : Int)) /\ ∃ y2 : (List T_value_Value), (a0[x1.toNat]? = some y2) /\ (0 <= x1) /\ (x1 < (a1.length : Int)) /\ ∃ y3 : (List T_value_Value), (a1[x1.toNat]? = some y3) /\ ∃ z4, (g2 y2 y3 z4) /\ cnd (!z4) (false = r0) (X1 (IntKind.i64.wrap (x1 + (1 : Int))))) (true = r0)
def slices_EqualFunc_Row_oi (a0 a1 : List (List T_value_Value)) (g2 : (List T_value_Value) → (List T_value_Value) → Bool → Prop) (r0 : Bool) : Prop :=
 (a0.length <= maxLen -> (a1.length <= maxLen -> cnd (!((a0.length : Int) == (a1.length : Int))) (false = r0) ((a0.length <= maxLen -> ∀ X1 : Int -> Prop, (∀ x1, slices_EqualFunc_Row_L1i a0 a1 g2 r0 X1 x1 -> X1 x1) -> X1 (0 : Int)))))
theorem slices_EqualFunc_Row_L1_m (a0 a1 : List (List T_value_Value)) (g2 : (List T_value_Value) → (List T_value_Value) → Bool → Prop) (r0 : Bool) {X1 : Int → Prop} {x1 : Int} (h : slices_EqualFunc_Row_L1i a0 a1 g2 r0 X1 x1) : slices_EqualFunc_Row_L1 a0 a1 g2 r0 X1 x1 := by
 unfold slices_EqualFunc_Row_L1
 unfold slices_EqualFunc_Row_L1i at h
 exact h
theorem slices_EqualFunc_Row_i (a0 a1 : List (List T_value_Value)) (g2 : (List T_value_Value) → (List T_value_Value) → Bool → Prop) (r0 : Bool) (h : slices_EqualFunc_Row_oi a0 a1 g2 r0) : slices_EqualFunc_Row_o a0 a1 g2 r0 := by
 unfold slices_EqualFunc_Row_o
 unfold slices_EqualFunc_Row_oi at h
 intro c
 replace h := h c
 intro c
 replace h := h c
 refine cnd_mono h (fun h => ?_) (fun h => ?_)
 ·exact h
 ·intro c
  replace h := h c
  intro X1 k
  exact h X1 (fun x1 q => k x1 (slices_EqualFunc_Row_L1_m a0 a1 g2 r0 q))
def slices_EqualFunc_Row_sp : Sp KK := ⟨40, [.v 24, .v 24, .f [29, 29] [4]], [4], appW (K := KK) [4] [.v 24, .v 24, .f [29, 29] [4]] slices_EqualFunc_Row_o⟩
def slices_EqualFunc_Row_an : An KK := (.s .o (.s (.s .o (.c (.s .o .o) .o)) (.s (.s .o (.b (.l ⟨[(1, .kp 6), (2, .kp 7), (15, .kp 8), (16, .kp 9), (17, .it .i64)], [], []⟩ (fun _ => (.s .o (.s (.c .o .o) (.s (.b (.s .o (.s .o (.s .o (.c (.s .o .o) .o))))) .o))))))) (.s .o .o))))
def slices_EqualFunc_Row_cf : Cf KK := ⟨CC, [], [], 32, [], none, false⟩
theorem slices_EqualFunc_Row_ok : SpOk Try.prog CC slices_EqualFunc_Row_sp := SpOk_by (F := slices_EqualFunc_Row_cf) (ps := [.v 24, .v 24, .f [29, 29] [4]]) (rs := [4]) (w := slices_EqualFunc_Row_o) CC_ok SsOk_n SLOk_n t40 (A := slices_EqualFunc_Row_an) (by kernel_rfl) (by kernel_rfl) (fun a0 a1 F2 r0 => show _ = _ by kernel_rfl)
def bag_Same_o (a0 a1 : T_bag_Bag) (r0 : Bool) : Prop :=
 ∃ z1, (slices_EqualFunc_Row_o a0.rows a1.rows bag_Same_1_o z1) /\ z1 = r0
def bag_Same_sp : Sp KK := ⟨11, [.v 31, .v 31], [4], appW (K := KK) [4] [.v 31, .v 31] bag_Same_o⟩
def bag_Same_an : An KK := (.s .o (.s .o .o))
def bag_Same_cf : Cf KK := ⟨CC, [bag_Same_1_sp, slices_EqualFunc_Row_sp], [], 10, [], none, false⟩
theorem bag_Same_ok : SpOk Try.prog CC bag_Same_sp := SpOk_by (F := bag_Same_cf) (ps := [.v 31, .v 31]) (rs := [4]) (w := bag_Same_o) CC_ok (SsOk_c bag_Same_1_ok (SsOk_c slices_EqualFunc_Row_ok SsOk_n)) SLOk_n t11 (A := bag_Same_an) (by kernel_rfl) (by kernel_rfl) (fun a0 a1 r0 => show _ = _ by kernel_rfl)
def bag_Plus_L1 (a0 : List T_bag_Bag) (r0 : T_bag_Bag) (X1 : Int → (List (List T_value_Value)) → Prop) (x1 : Int) (x2 : List (List T_value_Value)) : Prop :=
 cnd (decide (x1 < (a0.length : Int))) ((0 <= x1) /\ (x1 < (a0.length : Int)) /\ ∃ y3 : T_bag_Bag, (a0[x1.toNat]? = some y3) /\ (x2.length <= 1000000000) /\ (y3.rows.length <= 400000000) /\ X1 (IntKind.i64.wrap (x1 + (1 : Int))) (x2 ++ y3.rows)) (∃ z4, (bag_Of_o x2 z4) /\ z4 = r0)
def bag_Plus_o (a0 : List T_bag_Bag) (r0 : T_bag_Bag) : Prop :=
 (a0.length <= maxLen -> ∀ X1 : Int -> (List (List T_value_Value)) -> Prop, (∀ x1 x2, bag_Plus_L1 a0 r0 X1 x1 x2 -> X1 x1 x2) -> X1 (0 : Int) ([] : List (List T_value_Value)))
def bag_Plus_L1i (a0 : List T_bag_Bag) (r0 : T_bag_Bag) (X1 : Int → (List (List T_value_Value)) → Prop) (x1 : Int) (x2 : List (List T_value_Value)) : Prop :=
 cnd (decide (x1 < (a0.length : Int))) ((0 <= x1) /\ (x1 < (a0.length : Int)) /\ ∃ y3 : T_bag_Bag, (a0[x1.toNat]? = some y3) /\ (x2.length <= 1000000000) /\ (y3.rows.length <= 400000000) /\ X1 (IntKind.i64.wrap (x1 + (1 : Int))) (x2 ++ y3.rows)) (∃ z4, (bag_Of_o x2 z4) /\ z4 = r0)
def bag_Plus_oi (a0 : List T_bag_Bag) (r0 : T_bag_Bag) : Prop :=
 (a0.length <= maxLen -> ∀ X1 : Int -> (List (List T_value_Value)) -> Prop, (∀ x1 x2, bag_Plus_L1i a0 r0 X1 x1 x2 -> X1 x1 x2) -> X1 (0 : Int) ([] : List (List T_value_Value)))
theorem bag_Plus_L1_m (a0 : List T_bag_Bag) (r0 : T_bag_Bag) {X1 : Int → (List (List T_value_Value)) → Prop} {x1 : Int} {x2 : List (List T_value_Value)} (h : bag_Plus_L1i a0 r0 X1 x1 x2) : bag_Plus_L1 a0 r0 X1 x1 x2 := by
 unfold bag_Plus_L1
 unfold bag_Plus_L1i at h
 exact h
theorem bag_Plus_i (a0 : List T_bag_Bag) (r0 : T_bag_Bag) (h : bag_Plus_oi a0 r0) : bag_Plus_o a0 r0 := by
 unfold bag_Plus_o
 unfold bag_Plus_oi at h
 intro c
 replace h := h c
 intro X1 k
 exact h X1 (fun x1 x2 q => k x1 x2 (bag_Plus_L1_m a0 r0 q))
def bag_Plus_sp : Sp KK := ⟨12, [.v 97], [31], appW (K := KK) [31] [.v 97] bag_Plus_o⟩
def bag_Plus_an : An KK := (.s .o (.s .o (.s (.s .o (.b (.l ⟨[(2, .px 2 0), (3, .row 15), (6, .kp 7), (7, .kp 8), (8, .it .i64)], [(2, 31, [.kp 10])], [(15, 29)]⟩ (fun _ => (.s .o (.s (.c .o .o) (.s (.b (.s .o .o)) .o))))))) (.s .o .o))))
def bag_Plus_cf : Cf KK := ⟨CC, [bag_Of_sp], [], 19, [], none, false⟩
theorem bag_Plus_ok : SpOk Try.prog CC bag_Plus_sp := SpOk_by (F := bag_Plus_cf) (ps := [.v 97]) (rs := [31]) (w := bag_Plus_o) CC_ok (SsOk_c bag_Of_ok SsOk_n) SLOk_n t12 (A := bag_Plus_an) (by kernel_rfl) (by kernel_rfl) (fun a0 r0 => show _ = _ by kernel_rfl)
def law08_BagTurns_L1 (z2 z4 z6 : List (List T_value_Value)) (r0 : Bool) (X1 : Int → (List (List T_value_Value)) → Prop) (x8 : Int) (x9 : List (List T_value_Value)) : Prop :=
 cnd (decide ((0 : Int) <= x8)) ((0 <= x8) /\ (x8 < (z2.length : Int)) /\ ∃ y10 : (List T_value_Value), (z2[x8.toNat]? = some y10) /\ (x9.length <= 1000000000) /\ X1 (IntKind.i64.wrap (x8 - (1 : Int))) (x9 ++ ([y10] : List (List T_value_Value)))) (∃ z11, (bag_Of_o z2 z11) /\ ∃ z12, (bag_Of_o z4 z12) /\ ∃ z13, (bag_Of_o z6 z13) /\ ∃ z14, (bag_Of_o x9 z14) /\ ∃ z15, (bag_Same_o z11 z14 z15) /\ cnd z15 (∃ z16, (bag_Plus_o ([z11, z12] : List T_bag_Bag) z16) /\ ∃ z17, (bag_Plus_o ([z16, z13] : List T_bag_Bag) z17) /\ ∃ z18, (bag_Plus_o ([z12, z11] : List T_bag_Bag) z18) /\ ∃ z19, (bag_Plus_o ([z13, z18] : List T_bag_Bag) z19) /\ ∃ z20, (bag_Same_o z17 z19 z20) /\ cnd z20 (∃ z21, (bag_Plus_o ([z11, (⟨([] : List (List T_value_Value))⟩ : T_bag_Bag)] : List T_bag_Bag) z21) /\ ∃ z22, (bag_Same_o z21 z11 z22) /\ cnd z22 (∃ z23, (bag_Plus_o ([z11, z12, z13] : List T_bag_Bag) z23) /\ ∃ z24, (bag_Bag_Len_o z23 z24) /\ (z24 == (IntKind.i64.wrap ((IntKind.i64.wrap ((z2.length : Int) + (z4.length : Int))) + (z6.length : Int)))) = r0) (false = r0)) (false = r0)) (false = r0))
def law08_BagTurns_o (a0 a1 a2 : List (List T_law08_Value)) (r0 : Bool) : Prop :=
 ∃ z1, (law08_speaks_o z1) /\ cnd (!z1) (false = r0) (∃ z2 z3, (law08_rows_o a0 z2 z3) /\ ∃ z4 z5, (law08_rows_o a1 z4 z5) /\ ∃ z6 z7, (law08_rows_o a2 z6 z7) /\ (z2.length <= maxLen -> ∀ X1 : Int -> (List (List T_value_Value)) -> Prop, (∀ x8 x9, law08_BagTurns_L1 z2 z4 z6 r0 X1 x8 x9 -> X1 x8 x9) -> X1 (IntKind.i64.wrap ((z2.length : Int) - (1 : Int))) ([] : List (List T_value_Value))))
def law08_BagTurns_L1i (r0 : Bool) (z2 z4 z6 : List (List T_value_Value)) (X1 : Int → (List (List T_value_Value)) → Prop) (x8 : Int) (x9 : List (List T_value_Value)) : Prop :=
 cnd (decide ((0 : Int) <= x8)) ((0 <= x8) /\ (x8 < (z2.length : Int)) /\ ∃ y10 : (List T_value_Value), (z2[x8.toNat]? = some y10) /\ (x9.length <= 1000000000) /\ X1 (IntKind.i64.wrap (x8 - (1 : Int))) (x9 ++ ([y10] : List (List T_value_Value)))) (∃ z11, (bag_Of_o z2 z11) /\ ∃ z12, (bag_Of_o z4 z12) /\ ∃ z13, (bag_Of_o z6 z13) /\ ∃ z14, (bag_Of_o x9 z14) /\ ∃ z15, (bag_Same_o z11 z14 z15) /\ cnd z15 (∃ z16, (bag_Plus_o ([z11, z12] : List T_bag_Bag) z16) /\ ∃ z17, (bag_Plus_o ([z16, z13] : List T_bag_Bag) z17) /\ ∃ z18, (bag_Plus_o ([z12, z11] : List T_bag_Bag) z18) /\ ∃ z19, (bag_Plus_o ([z13, z18] : List T_bag_Bag) z19) /\ ∃ z20, (bag_Same_o z17 z19 z20) /\ cnd z20 (∃ z21, (bag_Plus_o ([z11, (⟨([] : List (List T_value_Value))⟩ : T_bag_Bag)] : List T_bag_Bag) z21) /\ ∃ z22, (bag_Same_o z21 z11 z22) /\ cnd z22 (∃ z23, (bag_Plus_o ([z11, z12, z13] : List T_bag_Bag) z23) /\ ∃ z24, (bag_Bag_Len_o z23 z24) /\ (z24 == (IntKind.i64.wrap ((IntKind.i64.wrap ((z2.length : Int) + (z4.length : Int))) + (z6.length : Int)))) = r0) (false = r0)) (false = r0)) (false = r0))
def law08_BagTurns_oi (a0 a1 a2 : List (List T_law08_Value)) (r0 : Bool) : Prop :=
 ∃ z1, (law08_speaks_o z1) /\ cnd (!z1) (false = r0) (∃ z2 z3, (law08_rows_o a0 z2 z3) /\ ∃ z4 z5, (law08_rows_o a1 z4 z5) /\ ∃ z6 z7, (law08_rows_o a2 z6 z7) /\ (z2.length <= maxLen -> ∀ X1 : Int -> (List (List T_value_Value)) -> Prop, (∀ x8 x9, law08_BagTurns_L1i r0 z2 z4 z6 X1 x8 x9 -> X1 x8 x9) -> X1 (IntKind.i64.wrap ((z2.length : Int) - (1 : Int))) ([] : List (List T_value_Value))))
theorem law08_BagTurns_L1_m (r0 : Bool) (z2 z4 z6 : List (List T_value_Value)) {X1 : Int → (List (List T_value_Value)) → Prop} {x8 : Int} {x9 : List (List T_value_Value)} (h : law08_BagTurns_L1i r0 z2 z4 z6 X1 x8 x9) : law08_BagTurns_L1 z2 z4 z6 r0 X1 x8 x9 := by
 unfold law08_BagTurns_L1
 unfold law08_BagTurns_L1i at h
 exact h
theorem law08_BagTurns_i (a0 a1 a2 : List (List T_law08_Value)) (r0 : Bool) (h : law08_BagTurns_oi a0 a1 a2 r0) : law08_BagTurns_o a0 a1 a2 r0 := by
 unfold law08_BagTurns_o
 unfold law08_BagTurns_oi at h
 obtain ⟨z1, h⟩ := h
 refine ⟨z1, ?_⟩
 obtain ⟨h0, h⟩ := h
 refine ⟨h0, ?_⟩
 refine cnd_mono h (fun h => ?_) (fun h => ?_)
 ·exact h
 ·obtain ⟨z2, h⟩ := h
  refine ⟨z2, ?_⟩
  obtain ⟨z3, h⟩ := h
  refine ⟨z3, ?_⟩
  obtain ⟨h0, h⟩ := h
  refine ⟨h0, ?_⟩
  obtain ⟨z4, h⟩ := h
  refine ⟨z4, ?_⟩
  obtain ⟨z5, h⟩ := h
  refine ⟨z5, ?_⟩
  obtain ⟨h0, h⟩ := h
  refine ⟨h0, ?_⟩
  obtain ⟨z6, h⟩ := h
  refine ⟨z6, ?_⟩
  obtain ⟨z7, h⟩ := h
  refine ⟨z7, ?_⟩
  obtain ⟨h0, h⟩ := h
  refine ⟨h0, ?_⟩
  intro c
  replace h := h c
  intro X1 k
  exact h X1 (fun x8 x9 q => k x8 x9 (law08_BagTurns_L1_m r0 z2 z4 z6 q))
def law08_BagTurns_sp : Sp KK := ⟨3, [.v 22, .v 22, .v 22], [4], appW (K := KK) [4] [.v 22, .v 22, .v 22] law08_BagTurns_o⟩
def law08_BagTurns_an : An KK := (.s .o (.s (.s .o (.c (.s .o .o) .o)) (.s .o (.s .o (.s .o (.s .o (.s (.s .o (.b (.l ⟨[(7, .kp 6), (9, .kp 7), (11, .kp 8), (13, .row 48), (14, .it .i64)], [], [(48, 29)]⟩ (fun _ => (.s (.s .o (.c .o .o)) (.s (.b .o) .o)))))) (.s .o (.s .o .o)))))))))
def law08_BagTurns_cf : Cf KK := ⟨CC, [law08_speaks_sp, law08_rows_sp, bag_Of_sp, bag_Same_sp, bag_Plus_sp, bag_Bag_Len_sp], [], 101, [], none, false⟩
theorem law08_BagTurns_ok : SpOk Try.prog CC law08_BagTurns_sp := SpOk_by (F := law08_BagTurns_cf) (ps := [.v 22, .v 22, .v 22]) (rs := [4]) (w := law08_BagTurns_o) CC_ok (SsOk_c law08_speaks_ok (SsOk_c law08_rows_ok (SsOk_c bag_Of_ok (SsOk_c bag_Same_ok (SsOk_c bag_Plus_ok (SsOk_c bag_Bag_Len_ok SsOk_n)))))) SLOk_n t3 (A := law08_BagTurns_an) (by kernel_rfl) (by kernel_rfl) (fun a0 a1 a2 r0 => show _ = _ by kernel_rfl)
end Go.Proofs.Ytkmehmgocelkiaa
end
noncomputable section
namespace Go.Proofs.Ytkmehmgocelkiaa
open Go.AV Go.RowKit
set_option maxRecDepth 100000
end Go.Proofs.Ytkmehmgocelkiaa
end
noncomputable section
namespace Go.Proofs.Ytkmehmgocelkiaa
open Go.AV Go.RowKit
abbrev V := T_value_Value
abbrev V6 := T_ref06_Value
def Rg (n : Int) : Prop := -9223372036854775808 <= n /\ n <= 9223372036854775807
def good (v : V) : Prop := (v.Kind = 0 /\ v.N = 0 /\ v.S = []) ∨ (v.Kind = 1 /\ (v.N = 0 ∨ v.N = 1) /\ v.S = []) ∨ (v.Kind = 2 /\ Rg v.N /\ v.S = []) ∨ (v.Kind = 3 /\ v.N = 0 /\ v.S.length <= 64)
def v6 (a : V) : V6 := ⟨a.Kind, a.N, a.S⟩
def eqV (a b : V) : Bool := (a.Kind == b.Kind) && ((a.N == b.N) && ((a.S == b.S) && true))
theorem eqV_iff {a b : V} : eqV a b = true ↔ a = b := by
 cases a; cases b; simp [eqV]
theorem pOfInt (n : Int) : value_OfInt_o n ⟨2, n, []⟩ := by unfold value_OfInt_o; rfl
def cI (a b : Int) : Int := if a < b then -1 else if b < a then 1 else 0
def cS (a b : Str) : Int := if Op.bytesLess a b then -1 else if !(Op.bytesLess a b || a == b) then 1 else 0
theorem pCmpI (a b : Int) : cmp_Compare_int_o a b (cI a b) := by
 refine ⟨_, rfl, _, rfl, ?_⟩
 grind [cnd, cI]
theorem pCmpJ (a b : Int) : cmp_Compare_int64_o a b (cI a b) := by
 refine ⟨_, rfl, _, rfl, ?_⟩
 grind [cnd, cI]
theorem pCmpS (a b : Str) : cmp_Compare_string_o a b (cS a b) := by
 refine ⟨_, rfl, _, rfl, ?_⟩
 grind [cnd, cS]
def sOr (a b c : Int) : Int := if a ≠ 0 then a else if b ≠ 0 then b else c
theorem pOr (a b c : Int) : cmp_Or_int_o [a, b, c] (sOr a b c) := by
 apply cmp_Or_int_i
 intro _ X hX
 apply hX
 refine ⟨fun _ => ⟨by omega, by simp, a, rfl, ?_⟩, fun h => by simp at h⟩
 refine ⟨fun h => by grind [sOr], fun h => ?_⟩
 rw [wrap64 (by omega) (by omega)]
 apply hX
 refine ⟨fun _ => ⟨by omega, by simp, b, rfl, ?_⟩, fun h => by simp at h⟩
 refine ⟨fun h => by grind [sOr], fun h => ?_⟩
 rw [wrap64 (by omega) (by omega)]
 apply hX
 refine ⟨fun _ => ⟨by omega, by simp, c, rfl, ?_⟩, fun h => by simp at h⟩
 refine ⟨fun h => by grind [sOr], fun h => ?_⟩
 rw [wrap64 (by omega) (by omega)]
 apply hX
 refine ⟨fun h => by simp at h, fun _ => by grind [sOr]⟩
def sCmp (a b : V) : Int := sOr (cI a.Kind b.Kind) (cI a.N b.N) (cS a.S b.S)
theorem pCompare (a b : V) : value_Compare_o a b (sCmp a b) :=
 ⟨_, pCmpI a.Kind b.Kind, _, pCmpJ a.N b.N, _, pCmpS a.S b.S, _, pOr _ _ _, rfl⟩
theorem cS_0 {a b : Str} : cS a b = 0 ↔ a = b := by
 unfold cS
 have := bl_irrefl b
 rcases bl_total a b with h | rfl | h
 ·rw [if_pos h]; refine ⟨fun q => (by cases q), ?_⟩; rintro rfl; rw [h] at this; cases this
 ·simp [this]
 ·have hn : ¬ Op.bytesLess a b = true := fun q => by have := bl_trans _ _ _ q h; rw [bl_irrefl] at this; cases this
  have he : ¬ a = b := fun e => by subst e; rw [h] at this; cases this
  simp [hn, he]
theorem cS_neg {a b : Str} : cS a b < 0 ↔ Op.bytesLess a b = true := by
 unfold cS; split
 ·rename_i h; simp [h]
 ·rename_i h; split <;> simp [h]
theorem cI_iff {a b : Int} : (cI a b = 0 ↔ a = b) ∧ (cI a b < 0 ↔ a < b) ∧ (0 < cI a b ↔ b < a) := by
 unfold cI
 split
 ·refine ⟨by omega, by omega, by omega⟩
 ·split <;> refine ⟨by omega, by omega, by omega⟩
theorem sCmp_0 {a b : V} : sCmp a b = 0 ↔ a = b := by
 unfold sCmp sOr
 have h1 := (cI_iff (a := a.Kind) (b := b.Kind)).1
 have h2 := (cI_iff (a := a.N) (b := b.N)).1
 have h3 := cS_0 (a := a.S) (b := b.S)
 cases a; cases b
 simp only [T_value_Value.mk.injEq]
 simp only at h1 h2 h3
 split
 ·rename_i c; exact ⟨fun q => absurd q c, fun q => absurd (h1.2 q.1) c⟩
 ·rename_i c
  have c := Decidable.not_not.1 c
  split
  ·rename_i d; exact ⟨fun q => absurd q d, fun q => absurd (h2.2 q.2.1) d⟩
  ·rename_i d
   have d := Decidable.not_not.1 d
   rw [h3]; exact ⟨fun q => ⟨h1.1 c, h2.1 d, q⟩, fun q => q.2.2⟩
end Go.Proofs.Ytkmehmgocelkiaa
end
noncomputable section
namespace Go.Proofs.Ytkmehmgocelkiaa
open Go.AV Go.RowKit
def be : Nat → Nat → Str
 | 0, _ => []
 | i + 1, u => UInt8.ofNat (u / 256 ^ i) :: be i u
def tl (a : Nat) : Nat → List Int
 | 0 => []
 | i + 1 => ofB (UInt8.ofNat (a / 256 ^ i)) :: tl a i
end Go.Proofs.Ytkmehmgocelkiaa
end
noncomputable section
namespace Go.Proofs.Ytkmehmgocelkiaa
open Go.AV Go.RowKit
end Go.Proofs.Ytkmehmgocelkiaa
end
noncomputable section
namespace Go.Proofs.Ytkmehmgocelkiaa
open Go.AV Go.RowKit
end Go.Proofs.Ytkmehmgocelkiaa
end
noncomputable section
namespace Go.Proofs.Ytkmehmgocelkiaa
open Go.AV Go.RowKit
def b1 (n : Int) : Str := [UInt8.ofNat n.toNat]
end Go.Proofs.Ytkmehmgocelkiaa
end
noncomputable section
namespace Go.Proofs.Ytkmehmgocelkiaa
open Go.AV Go.RowKit
theorem w1 {i : Nat} (h : i < 1000000000) : IntKind.i64.wrap ((i : Int) + 1) = ((i + 1 : Nat) : Int) := by rw [wrap64 (by omega) (by omega)]; omega
theorem gAt {α : Type} {l : List α} {i : Nat} (h : i < l.length) : l[((i : Nat) : Int).toNat]? = some l[i] := by rw [Int.toNat_natCast]; exact List.getElem?_eq_getElem h
end Go.Proofs.Ytkmehmgocelkiaa
end
noncomputable section
namespace Go.Proofs.Ytkmehmgocelkiaa
open Go.AV Go.RowKit
end Go.Proofs.Ytkmehmgocelkiaa
end
noncomputable section
namespace Go.Proofs.Ytkmehmgocelkiaa
open Go.AV Go.RowKit
section
variable {α : Type}
def rins (lt : α → α → Bool) (x : α) : List α → List α
 | [] => [x]
 | y :: r => if lt x y then y :: rins lt x r else x :: y :: r
def ins (lt : α -> α -> Bool) (x : α) (l : List α) : List α := (rins lt x l.reverse).reverse
def srt (lt : α → α → Bool) : List α → List α → List α
 | out, [] => out
 | out, x :: r => srt lt (ins lt x out) r
structure Ord (lt : α → α → Bool) : Prop where
 irr : ∀ a, lt a a = false
 tr : ∀ a b c, lt a b = true -> lt b c = true -> lt a c = true
 tot : ∀ a b, lt a b = true ∨ a = b ∨ lt b a = true
variable {lt : α -> α -> Bool}
theorem Ord.le_trans (o : Ord lt) {a b c : α} (h : lt b a = false) (k : lt c b = false) : lt c a = false := by
 cases hc : lt c a with
 | false => rfl
 | true =>
   rcases o.tot a b with e | e | e
   ·have := o.tr _ _ _ hc e; rw [k] at this; cases this
   ·subst e; rw [k] at hc; cases hc
   ·rw [h] at e; cases e
theorem Ord.anti (o : Ord lt) {a b : α} (h : lt b a = false) (k : lt a b = false) : a = b := by
 rcases o.tot a b with e | e | e
 ·rw [k] at e; cases e
 ·exact e
 ·rw [h] at e; cases e
theorem Ord.asym (o : Ord lt) {a b : α} (h : lt a b = true) : lt b a = false := by
 cases hc : lt b a with
 | false => rfl
 | true => have := o.tr _ _ _ h hc; rw [o.irr] at this; cases this
def Sd (lt : α -> α -> Bool) (l : List α) : Prop := l.Pairwise fun a b => lt b a = false
theorem Sd.app {l m : List α} : Sd lt (l ++ m) ↔ Sd lt l /\ Sd lt m /\ ∀ a ∈ l, ∀ b ∈ m, lt b a = false := List.pairwise_append
theorem Sd.uniq (o : Ord lt) {l m : List α} (h : Sd lt l) (k : Sd lt m) (p : l.Perm m) : l = m :=
 List.Perm.eq_of_pairwise (fun _ _ _ _ h k => o.anti h k) h k p
theorem rins_perm (x : α) : ∀ l : List α, (rins lt x l).Perm (x :: l)
 | [] => .refl _
 | y :: r => by
   unfold rins
   split
   ·exact ((rins_perm x r).cons y).trans (.swap ..)
   ·exact .refl _
theorem ins_perm (x : α) (l : List α) : (ins lt x l).Perm (x :: l) := by
 unfold ins
 refine (List.reverse_perm _).trans ((rins_perm x _).trans ?_)
 exact (List.reverse_perm l).cons x
theorem srt_perm : ∀ (l out : List α), (srt lt out l).Perm (out ++ l)
 | [], out => by simp [srt]
 | x :: r, out => by
   unfold srt
   refine (srt_perm r _).trans (((ins_perm x out).append_right r).trans ?_)
   exact List.perm_middle.symm
theorem rins_sd (o : Ord lt) (x : α) : ∀ {l : List α}, (l.Pairwise fun a b => lt a b = false) → (rins lt x l).Pairwise fun a b => lt a b = false
 | [], _ => by simp [rins]
 | y :: r, h => by
   obtain ⟨h1, h2⟩ := List.pairwise_cons.1 h
   unfold rins
   split
   ·rename_i c
    refine List.pairwise_cons.2 ⟨fun z hz => ?_, rins_sd o x h2⟩
    rcases List.mem_cons.1 ((rins_perm x r).subset hz) with rfl | hz
    ·exact o.asym c
    ·exact h1 z hz
   ·rename_i c
    have c : lt x y = false := by simpa using c
    refine List.pairwise_cons.2 ⟨fun z hz => ?_, h⟩
    rcases List.mem_cons.1 hz with rfl | hz
    ·exact c
    ·exact o.le_trans (h1 z hz) c
theorem ins_sd (o : Ord lt) (x : α) {l : List α} (h : Sd lt l) : Sd lt (ins lt x l) := by
 unfold ins Sd
 rw [List.pairwise_reverse]
 exact rins_sd o x (List.pairwise_reverse.2 h)
theorem srt_sd (o : Ord lt) : ∀ (l : List α) {out : List α}, Sd lt out → Sd lt (srt lt out l)
 | [], _, h => h
 | x :: r, _, h => by unfold srt; exact srt_sd o r (ins_sd o x h)
theorem srt0_sd (o : Ord lt) (l : List α) : Sd lt (srt lt [] l) := srt_sd o l List.Pairwise.nil
theorem srt0_perm (l : List α) : (srt lt [] l).Perm l := srt_perm l []
theorem srt_eq (o : Ord lt) {l m : List α} (h : Sd lt m) (p : m.Perm l) : srt lt [] l = m :=
 (srt0_sd o l).uniq o h ((srt0_perm l).trans p.symm)
theorem srt_pp (o : Ord lt) {l m : List α} (p : m.Perm l) : srt lt [] l = srt lt [] m :=
 srt_eq o (srt0_sd o m) ((srt0_perm m).trans p)
theorem srt0_len (lt : α -> α -> Bool) (l : List α) : (srt lt [] l).length = l.length := (srt0_perm l).length_eq
theorem Sd.last {l : List α} {p x : α} (o : Ord lt) (h : Sd lt (l ++ [p])) (k : lt x p = false) : ∀ a ∈ l ++ [p], lt x a = false := by
 intro a ha
 rcases List.mem_append.1 ha with ha | ha
 ·exact o.le_trans ((Sd.app.1 h).2.2 a ha p (by simp)) k
 ·rw [List.mem_singleton.1 ha]; exact k
theorem Sd.head {l : List α} {p x : α} (o : Ord lt) (h : Sd lt (p :: l)) (k : lt p x = false) : ∀ a ∈ p :: l, lt a x = false := by
 intro a ha
 rcases List.mem_cons.1 ha with rfl | ha
 ·exact k
 ·exact o.le_trans k ((List.pairwise_cons.1 h).1 a ha)
theorem cut_ok (o : Ord lt) {A B A1 A2 B1 B2 : List α} (hA : Sd lt A) (hB : Sd lt B) (eA : A = A1 ++ A2) (eB : B = B1 ++ B2)
  (h1 : ∀ x y, A1.getLast? = some x -> B2.head? = some y -> lt y x = false) (h2 : ∀ x y, B1.getLast? = some x -> A2.head? = some y -> lt y x = false) :
  srt lt [] (A ++ B) = srt lt [] (A1 ++ B1) ++ srt lt [] (A2 ++ B2) := by
 subst eA; subst eB
 obtain ⟨a1, a2, a3⟩ := Sd.app.1 hA
 obtain ⟨b1, b2, b3⟩ := Sd.app.1 hB
 have cross : ∀ {U W : List α}, Sd lt U → Sd lt W → (∀ x y, U.getLast? = some x → W.head? = some y → lt y x = false) → ∀ u ∈ U, ∀ w ∈ W, lt w u = false := by
  intro U W hU hW h u hu w hw
  cases W with
  | nil => cases hw
  | cons y W =>
    have hne : U ≠ [] := fun e => by subst e; cases hu
    have hx : U.getLast? = some (U.getLast hne) := List.getLast?_eq_some_getLast hne
    have eU : U = U.dropLast ++ [U.getLast hne] := (List.dropLast_concat_getLast hne).symm
    have k := h _ y hx rfl
    have := Sd.last o (l := U.dropLast) (p := U.getLast hne) (x := y) (by rw [<- eU]; exact hU) k u (by rw [<- eU]; exact hu)
    exact Sd.head o hW this w hw
 refine srt_eq o ?_ ?_
 ·refine Sd.app.2 ⟨srt0_sd o _, srt0_sd o _, fun u hu w hw => ?_⟩
  have hu := (srt0_perm _).subset hu
  have hw := (srt0_perm _).subset hw
  rcases List.mem_append.1 hu with hu | hu <;> rcases List.mem_append.1 hw with hw | hw
  ·exact a3 u hu w hw
  ·exact cross a1 b2 h1 u hu w hw
  ·exact cross b1 a2 h2 u hu w hw
  ·exact b3 u hu w hw
 ·refine (((srt0_perm _).append_right _).trans ((srt0_perm _).append_left _)).trans ?_
  simp only [List.append_assoc]
  refine List.Perm.append_left A1 ?_
  rw [<- List.append_assoc, <- List.append_assoc]
  exact List.perm_append_comm.append_right B2
theorem srt_id (o : Ord lt) {l : List α} (h : Sd lt l) : srt lt [] l = l := srt_eq o h (.refl _)
theorem srt_one (o : Ord lt) {x : α} {B1 B2 : List α} (h : Sd lt (B1 ++ B2)) (h1 : ∀ b ∈ B1, lt x b = false) (h2 : ∀ b ∈ B2, lt b x = false) : srt lt [] (x :: (B1 ++ B2)) = B1 ++ x :: B2 := by
 obtain ⟨b1, b2, b3⟩ := Sd.app.1 h
 refine srt_eq o ?_ List.perm_middle
 exact Sd.app.2 ⟨b1, List.pairwise_cons.2 ⟨h2, b2⟩, fun a ha b hb => by
  rcases List.mem_cons.1 hb with rfl | hb
  ·exact h1 a ha
  ·exact b3 a ha b hb⟩
end
theorem snoc_cases {α : Type} : ∀ l : List α, l = [] ∨ ∃ l' b, l = l' ++ [b]
 | [] => .inl rfl
 | a :: l => .inr (match snoc_cases l with
   | .inl e => ⟨[], a, by rw [e]; rfl⟩
   | .inr ⟨l', b, e⟩ => ⟨a :: l', b, by rw [e]; rfl⟩)
def rc : List V → List V → Int
 | [], [] => 0
 | [], _ :: _ => -1
 | _ :: _, [] => 1
 | a :: r, b :: q => if sCmp a b ≠ 0 then sCmp a b else rc r q
theorem rc_nilL (b : List V) : rc [] b = if 0 < b.length then -1 else 0 := by cases b <;> simp [rc]
theorem rc_cc (a b : V) (r q : List V) : rc (a :: r) (b :: q) = if sCmp a b ≠ 0 then sCmp a b else rc r q := rfl
theorem drop_get {α : Type} {l : List α} {i : Nat} {y : α} (h : l[i]? = some y) : l.drop i = y :: l.drop (i + 1) := by
 obtain ⟨hi, rfl⟩ := List.getElem?_eq_some_iff.1 h
 exact List.drop_eq_getElem_cons hi
theorem get_some {α : Type} {l : List α} {n : Nat} (h : n < l.length) : ∃ t, l[n]? = some t := ⟨_, List.getElem?_eq_getElem h⟩
theorem sCmp_lt {a b : V} : sCmp a b < 0 ↔ a.Kind < b.Kind ∨ a.Kind = b.Kind ∧ (a.N < b.N ∨ a.N = b.N ∧ Op.bytesLess a.S b.S = true) := by
 have h1 := cI_iff (a := a.Kind) (b := b.Kind)
 have h2 := cI_iff (a := a.N) (b := b.N)
 have h3 := cS_neg (a := a.S) (b := b.S)
 unfold sCmp sOr
 rw [<- h3]
 split
 ·omega
 ·split <;> omega
theorem sCmp_irr (a : V) : ¬ sCmp a a < 0 := by
 rw [sCmp_lt]
 have := bl_irrefl a.S
 rintro (h | ⟨_, h | ⟨_, h⟩⟩)
 ·omega
 ·omega
 ·rw [this] at h; cases h
theorem sCmp_tr {a b c : V} (h : sCmp a b < 0) (k : sCmp b c < 0) : sCmp a c < 0 := by
 rw [sCmp_lt] at *
 rcases h with h | ⟨h, h'⟩ <;> rcases k with k | ⟨k, k'⟩
 ·exact .inl (by omega)
 ·exact .inl (by omega)
 ·exact .inl (by omega)
 ·refine .inr ⟨by omega, ?_⟩
  rcases h' with h' | ⟨h', h2⟩ <;> rcases k' with k' | ⟨k', k2⟩
  ·exact .inl (by omega)
  ·exact .inl (by omega)
  ·exact .inl (by omega)
  ·exact .inr ⟨by omega, bl_trans _ _ _ h2 k2⟩
theorem sCmp_tot (a b : V) : sCmp a b < 0 ∨ a = b ∨ sCmp b a < 0 := by
 rw [sCmp_lt, sCmp_lt]
 rcases Int.lt_trichotomy a.Kind b.Kind with h | h | h
 ·exact .inl (.inl h)
 ·rcases Int.lt_trichotomy a.N b.N with k | k | k
  ·exact .inl (.inr ⟨h, .inl k⟩)
  ·rcases bl_total a.S b.S with q | q | q
   ·exact .inl (.inr ⟨h, .inr ⟨k, q⟩⟩)
   ·refine .inr (.inl ?_)
    cases a; cases b
    simp only at h k q
    rw [h, k, q]
   ·exact .inr (.inr (.inr ⟨h.symm, .inr ⟨k.symm, q⟩⟩))
  ·exact .inr (.inr (.inr ⟨h.symm, .inl k⟩))
 ·exact .inr (.inr (.inl h))
def lt7 (a b : List V) : Bool := decide (rc a b < 0)
theorem lt7_cc (x y : V) (r q : List V) : lt7 (x :: r) (y :: q) = true ↔ sCmp x y < 0 ∨ x = y ∧ lt7 r q = true := by
 unfold lt7
 rw [decide_eq_true_eq, decide_eq_true_eq, rc_cc]
 by_cases h : sCmp x y = 0
 ·rw [if_neg (by simpa using h)]
  have e := sCmp_0.1 h
  constructor
  ·exact fun k => .inr ⟨e, k⟩
  ·rintro (k | ⟨_, k⟩)
   ·omega
   ·exact k
 ·rw [if_pos h]
  constructor
  ·exact fun k => .inl k
  ·rintro (k | ⟨e, k⟩)
   ·exact k
   ·exact absurd (sCmp_0.2 e) h
theorem lt7_ord : Ord lt7 := by
 refine ⟨fun a => ?_, fun a b c => ?_, fun a b => ?_⟩
 ·induction a with
  | nil => rfl
  | cons x r ih =>
    cases h : lt7 (x :: r) (x :: r) with
    | false => rfl
    | true =>
      rcases (lt7_cc x x r r).1 h with k | ⟨_, k⟩
      ·exact absurd k (sCmp_irr x)
      ·rw [ih] at k; cases k
 ·induction a generalizing b c with
  | nil =>
    intro h k
    cases c with
    | nil => cases b <;> simp [lt7, rc] at h k
    | cons z t => rfl
  | cons x r ih =>
    intro h k
    cases b with
    | nil => simp [lt7, rc] at h
    | cons y q =>
      cases c with
      | nil => simp [lt7, rc] at k
      | cons z t =>
        rw [lt7_cc] at *
        rcases h with h | ⟨h, h'⟩ <;> rcases k with k | ⟨k, k'⟩
        ·exact .inl (sCmp_tr h k)
        ·subst k; exact .inl h
        ·subst h; exact .inl k
        ·exact .inr ⟨h.trans k, ih _ _ h' k'⟩
 ·induction a generalizing b with
  | nil => cases b with
    | nil => exact .inr (.inl rfl)
    | cons y q => exact .inl rfl
  | cons x r ih =>
    cases b with
    | nil => exact .inr (.inr rfl)
    | cons y q =>
      rw [lt7_cc, lt7_cc]
      rcases sCmp_tot x y with h | h | h
      ·exact .inl (.inl h)
      ·rcases ih q with k | k | k
       ·exact .inl (.inr ⟨h, k⟩)
       ·exact .inr (.inl (by rw [h, k]))
       ·exact .inr (.inr (.inr ⟨h.symm, k⟩))
      ·exact .inr (.inr (.inl h))
theorem rc_0 {a b : List V} : rc a b = 0 ↔ a = b := by
 constructor
 ·intro h
  rcases lt7_ord.tot a b with k | k | k
  ·have := of_decide_eq_true k; omega
  ·exact k
  ·have k := of_decide_eq_true k
   exfalso
   have key : ∀ a b : List V, rc a b = 0 → ¬ rc b a < 0 := by
    intro a
    induction a with
    | nil => intro b h; cases b with
      | nil => simp [rc]
      | cons y q => simp [rc] at h
    | cons x r ih =>
      intro b h
      cases b with
      | nil => simp [rc] at h
      | cons y q =>
        rw [rc_cc] at h ⊢
        split at h
        ·rename_i e; exact absurd h e
        ·rename_i e
         have e := sCmp_0.1 (Decidable.not_not.1 e)
         subst e
         rw [if_neg (by simp [sCmp_0])]
         exact ih q h
   exact key a b h k
 ·rintro rfl
  induction a with
  | nil => rfl
  | cons x r ih => rw [rc_cc, if_neg (by simp [sCmp_0])]; exact ih
end Go.Proofs.Ytkmehmgocelkiaa
end
noncomputable section
namespace Go.Proofs.Ytkmehmgocelkiaa
open Go.AV Go.RowKit
abbrev Rw := List T_value_Value
section
variable {α : Type}
theorem get_mid (U T : List α) (x : α) : (U ++ x :: T)[U.length]? = some x := by simp
theorem set_mid (U T : List α) (x y : α) : (U ++ x :: T).set U.length y = U ++ y :: T := by
 rw [List.set_append_right _ _ (Nat.le_refl _)]; simp
theorem swap_at {U M T : List α} {x z : α} {i j : Nat} (hi : i = U.length) (hj : j = U.length + 1 + M.length) :
  (U ++ x :: (M ++ z :: T))[i]? = some x /\ (U ++ x :: (M ++ z :: T))[j]? = some z /\ ((U ++ x :: (M ++ z :: T)).set i z)[j]? = some z /\ ((U ++ x :: (M ++ z :: T)).set j x)[i]? = some x /\ ((U ++ x :: (M ++ z :: T)).set i z).set j x = U ++ z :: (M ++ x :: T) /\ ((U ++ x :: (M ++ z :: T)).set j x).set i z = U ++ z :: (M ++ x :: T) /\ j < (U ++ x :: (M ++ z :: T)).length := by
 subst hi; subst hj
 have e : ∀ w : α, U ++ w :: (M ++ z :: T) = (U ++ w :: M) ++ z :: T := fun w => by simp
 have l : ∀ w : α, (U ++ w :: M).length = U.length + 1 + M.length := fun w => by simp; omega
 refine ⟨get_mid _ _ _, ?_, ?_, ?_, ?_, ?_, ?_⟩
 ·rw [e, <- l x]; exact get_mid _ _ _
 ·rw [set_mid, e, <- l z]; exact get_mid _ _ _
 ·rw [e, <- l x, set_mid, List.append_assoc]; exact get_mid _ _ _
 ·rw [set_mid, e, <- l z, set_mid, List.append_assoc]; rfl
 ·rw [e, <- l x, set_mid, List.append_assoc]; exact set_mid _ _ _ _
 ·simp; omega
end
theorem half_eq (x y : Nat) (h : x + y < 4000000000) : IntKind.i64.wrap ((IntKind.u64.wrap (IntKind.i64.wrap ((x : Int) + (y : Int)))).fdiv (2 ^ (min (1 : Int).toNat IntKind.u64.bits))) = (((x + y) / 2 : Nat) : Int) := by
 have e : (2 : Int) ^ (min (1 : Int).toNat IntKind.u64.bits) = 2 := by decide
 rw [e, wrap64 (n := (x : Int) + y) (by omega) (by omega), wrapu64 (by omega) (by omega), Int.fdiv_eq_ediv_of_nonneg _ (by omega), wrap64 (by omega) (by omega)]
 omega
theorem pSwap {g : Rw → Rw → Int → Prop} {P X Y Z S : List Rw} {a b n : Int} (h : X.length = Z.length) (hb : P.length + X.length + Y.length + Z.length ≤ 1000) (ha : a = P.length) (hbb : b = P.length + X.length + Y.length) (hn : n = X.length) :
  slices_swapRangeCmpFunc_Row_v0_o g a b n (P ++ (X ++ (Y ++ (Z ++ S)))) (P ++ (Z ++ (Y ++ (X ++ S)))) := by
 refine slices_swapRangeCmpFunc_Row_v0_i _ _ _ _ _ _ ?_
 refine lp2 (fun (i : Int) (d : List Rw) => ∃ X1 X2 Z1 Z2, X = X1 ++ X2 /\ Z = Z1 ++ Z2 /\ i = X1.length /\ X1.length = Z1.length /\ d = P ++ (Z1 ++ (X2 ++ (Y ++ (X1 ++ (Z2 ++ S)))))) (fun i _ => (X.length - i).toNat) ?_ ⟨[], X, [], Z, rfl, rfl, rfl, rfl, rfl⟩
 rintro J i d ⟨X1, X2, Z1, Z2, e1, e2, rfl, e3, rfl⟩ ih
 have l1 : X.length = X1.length + X2.length := by rw [e1]; simp
 have l2 : Z.length = Z1.length + Z2.length := by rw [e2]; simp
 unfold slices_swapRangeCmpFunc_Row_v0_L1i
 cases X2 with
 | nil =>
   simp only [List.length_nil] at l1
   have : Z2 = [] := List.eq_nil_of_length_eq_zero (by omega)
   subst this
   refine cnd_of_false (by simp; omega) ?_
   rw [e1, e2]; simp
 | cons x X2 =>
   cases Z2 with
   | nil => simp only [List.length_nil, List.length_cons] at l1 l2; omega
   | cons z Z2 =>
     simp only [List.length_cons] at l1 l2
     have w1 : IntKind.i64.wrap (a + (X1.length : Int)) = (((P ++ Z1).length : Nat) : Int) := by rw [wrap64 (by omega) (by omega)]; simp; omega
     have w2 : IntKind.i64.wrap (b + (X1.length : Int)) = (((P ++ Z1).length + 1 + (X2 ++ (Y ++ X1)).length : Nat) : Int) := by rw [wrap64 (by omega) (by omega)]; simp; omega
     have w3 : IntKind.i64.wrap ((X1.length : Int) + 1) = ((X1.length + 1 : Nat) : Int) := by rw [wrap64 (by omega) (by omega)]; omega
     have ed : P ++ (Z1 ++ (x :: X2 ++ (Y ++ (X1 ++ (z :: Z2 ++ S))))) = (P ++ Z1) ++ x :: ((X2 ++ (Y ++ X1)) ++ z :: (Z2 ++ S)) := by simp
     obtain ⟨g1, g2, g3, g4, g5, g6, g7⟩ := swap_at (U := P ++ Z1) (M := X2 ++ (Y ++ X1)) (T := Z2 ++ S) (x := x) (z := z) rfl rfl
     rw [ed, w1, w2, w3]
     simp only [Int.toNat_natCast]
     refine cnd_of_true (by simp; omega) ⟨by omega, by omega, z, g2, by omega, by omega, x, g1, by omega, by omega, x, g1, by omega, by rw [List.length_set]; omega, z, g3, ?_⟩
     rw [g5]
     refine ih _ _ ⟨X1 ++ [x], X2, Z1 ++ [z], Z2, by rw [e1]; simp, by rw [e2]; simp, by simp, by simp [e3], by simp⟩ (by omega)
theorem cut_len {α : Type} {l : List α} {n : Nat} (h : n <= l.length) : ∃ a b, l = a ++ b /\ a.length = n /\ b.length = l.length - n := ⟨l.take n, l.drop n, by simp, by simp; omega, by simp⟩
theorem pRotate {g : Rw → Rw → Int → Prop} {P L R S : List Rw} {a m b : Int} (hb : P.length + L.length + R.length ≤ 1000) (hL : 0 < L.length) (hR : 0 < R.length) (ha : a = P.length) (hm : m = P.length + L.length) (hbb : b = P.length + L.length + R.length) :
  slices_rotateCmpFunc_Row_v0_o g a m b (P ++ (L ++ (R ++ S))) (P ++ (R ++ (L ++ S))) := by
 refine slices_rotateCmpFunc_Row_v0_i _ _ _ _ _ _ ?_
 have s1 : IntKind.i64.wrap (m - a) = (L.length : Int) := by rw [wrap64 (by omega) (by omega)]; omega
 have s2 : IntKind.i64.wrap (b - m) = (R.length : Int) := by rw [wrap64 (by omega) (by omega)]; omega
 unfold slices_rotateCmpFunc_Row_v0_oi
 rw [s1, s2]
 refine lp3 (fun (i j : Int) (d : List Rw) => ∃ P' L' R' S', i = L'.length /\ j = R'.length /\ 0 < L'.length /\ 0 < R'.length /\ m = P'.length + L'.length /\ P'.length + L'.length + R'.length <= 1000 /\ d = P' ++ (L' ++ (R' ++ S')) /\ P' ++ (R' ++ (L' ++ S')) = P ++ (R ++ (L ++ S))) (fun i j _ => (i + j).toNat) ?_ ⟨P, L, R, S, rfl, rfl, hL, hR, hm, hb, rfl, rfl⟩
 rintro X i j d ⟨P', L', R', S', rfl, rfl, hl, hr, hm', hb', rfl, he⟩ ih
 unfold slices_rotateCmpFunc_Row_v0_L1i
 have w0 : IntKind.i64.wrap (m - (L'.length : Int)) = (P'.length : Int) := by rw [wrap64 (by omega) (by omega)]; omega
 rw [w0]
 refine ⟨fun c => ⟨fun c2 => ?_, fun c2 => ?_⟩, fun c => ?_⟩
 ·have c2 : (R'.length : Int) < L'.length := by simpa using c2
  obtain ⟨A, B, rfl, hA, hB⟩ := cut_len (l := L') (n := R'.length) (by omega)
  simp only [List.length_append] at *
  have w1 : IntKind.i64.wrap (((A.length + B.length : Nat) : Int) - (R'.length : Int)) = (B.length : Int) := by rw [wrap64 (by omega) (by omega)]; omega
  rw [w1]
  refine ⟨P' ++ (R' ++ (B ++ (A ++ S'))), ?_, by simp; omega, ih _ _ _ ⟨P' ++ R', B, A, S', rfl, by omega, by omega, by omega, by simp; omega, by simp; omega, by simp, by rw [<- he]; simp⟩ (by omega)⟩
  have := pSwap (g := g) (P := P') (X := A) (Y := B) (Z := R') (S := S') (a := P'.length) (b := m) (n := R'.length) hA (by omega) rfl (by omega) (by omega)
  simpa using this
 ·have c2 : ¬ (R'.length : Int) < L'.length := by simpa using c2
  have c : ¬ (L'.length : Int) = R'.length := by simpa using c
  obtain ⟨U, W, rfl, hU, hW⟩ := cut_len (l := R') (n := R'.length - L'.length) (by omega)
  simp only [List.length_append] at *
  have w1 : IntKind.i64.wrap (((U.length + W.length : Nat) : Int) - (L'.length : Int)) = (U.length : Int) := by rw [wrap64 (by omega) (by omega)]; omega
  have w2 : IntKind.i64.wrap (IntKind.i64.wrap (m + ((U.length + W.length : Nat) : Int)) - (L'.length : Int)) = ((P'.length + L'.length + U.length : Nat) : Int) := by rw [wrap64 (n := m + _) (by omega) (by omega), wrap64 (by omega) (by omega)]; omega
  rw [w1, w2]
  refine ⟨P' ++ (W ++ (U ++ (L' ++ S'))), ?_, by simp; omega, ih _ _ _ ⟨P', W, U, L' ++ S', by omega, rfl, by omega, by omega, by omega, by omega, rfl, by rw [<- he]; simp⟩ (by omega)⟩
  have := pSwap (g := g) (P := P') (X := L') (Y := U) (Z := W) (S := S') (a := P'.length) (b := ((P'.length + L'.length + U.length : Nat) : Int)) (n := L'.length) (by omega) (by omega) rfl (by omega) rfl
  simpa using this
 ·have c : (L'.length : Int) = R'.length := by simpa using c
  refine ⟨_, ?_, ?_, he⟩
  ·have := pSwap (g := g) (P := P') (X := L') (Y := []) (Z := R') (S := S') (a := P'.length) (b := m) (n := L'.length) (by omega) (by simp; omega) rfl (by simp; omega) rfl
   simpa using this
  ·simp; omega
end Go.Proofs.Ytkmehmgocelkiaa
end
noncomputable section
namespace Go.Proofs.Ytkmehmgocelkiaa
open Go.AV Go.RowKit
def Cmp (g : Rw -> Rw -> Int -> Prop) (Q : Rw -> Prop) : Prop := ∀ a b, Q a -> Q b -> g a b (rc a b)
theorem lastOf {α : Type} {l : List α} {x : α} (h : l.getLast? = some x) : ∃ l', l = l' ++ [x] := by
 have hne : l ≠ [] := fun e => by subst e; cases h
 rw [List.getLast?_eq_some_getLast hne] at h
 exact ⟨l.dropLast, by rw [<- Option.some.inj h]; exact (List.dropLast_concat_getLast hne).symm⟩
theorem pSymA {g : Rw → Rw → Int → Prop} {Q : Rw → Prop} (hg : Cmp g Q) {P B S : List Rw} {x : Rw} (hb : P.length + 1 + B.length ≤ 1000) (hq : ∀ y ∈ x :: B, Q y) (hB : Sd lt7 B) :
  ∀ X1 : Int -> Int -> List Rw -> Prop, (∀ x1 x2 x3, slices_symMergeCmpFunc_Row_v0_L1i (P.length : Int) g (P ++ (srt lt7 [] (x :: B) ++ S)) X1 x1 x2 x3 -> X1 x1 x2 x3) -> X1 ((P.length + 1 : Nat) : Int) ((P.length + 1 + B.length : Nat) : Int) (P ++ (x :: (B ++ S))) := by
 refine lp3 (fun (i j : Int) (d : List Rw) => ∃ p q : Nat, i = ((P.length + 1 + p : Nat) : Int) /\ j = ((P.length + 1 + q : Nat) : Int) /\ p <= q /\ q <= B.length /\ d = P ++ (x :: (B ++ S)) /\ (∀ y, 0 < p -> B[p - 1]? = some y -> lt7 y x = true) /\ (∀ y, B[q]? = some y -> lt7 y x = false)) (fun i j _ => (j - i).toNat) ?_ ⟨0, B.length, rfl, rfl, by omega, by omega, rfl, fun y h => by omega, fun y h => by rw [List.getElem?_eq_none (by omega)] at h; cases h⟩
 rintro X i j d ⟨p, q, rfl, rfl, hpq, hqB, rfl, h1, h2⟩ ih
 have hl : (P ++ (x :: (B ++ S))).length = P.length + 1 + B.length + S.length := by simp; omega
 unfold slices_symMergeCmpFunc_Row_v0_L1i
 rw [half_eq _ _ (by omega)]
 obtain ⟨r, hr⟩ : ∃ r, (P.length + 1 + p + (P.length + 1 + q)) / 2 = P.length + 1 + r := ⟨(P.length + 1 + p + (P.length + 1 + q)) / 2 - (P.length + 1), by omega⟩
 rw [hr]
 refine ⟨fun c => ?_, fun c => ?_⟩
 ·have c : p < q := by have := of_decide_eq_true c; omega
  obtain ⟨y, hy⟩ := get_some (l := B) (n := r) (by omega)
  have gy : (P ++ (x :: (B ++ S)))[P.length + 1 + r]? = some y := by
   rw [List.getElem?_append_right (by omega), show P.length + 1 + r - P.length = r + 1 by omega, List.getElem?_cons_succ, List.getElem?_append_left (by omega)]
   exact hy
  have w1 : IntKind.i64.wrap (((P.length + 1 + r : Nat) : Int) + 1) = ((P.length + 1 + (r + 1) : Nat) : Int) := by rw [wrap64 (by omega) (by omega)]; omega
  rw [w1]
  simp only [Int.toNat_natCast]
  refine ⟨by omega, by omega, y, gy, by omega, by omega, x, get_mid _ _ _, rc y x, hg y x (hq y (by simp [List.mem_of_getElem? hy])) (hq x (by simp)), fun c2 => ?_, fun c2 => ?_⟩
  ·exact ih _ _ _ ⟨r + 1, q, rfl, rfl, by omega, hqB, rfl, fun z _ hz => by rw [show r + 1 - 1 = r by omega, hy] at hz; cases hz; exact c2, h2⟩ (by omega)
  ·exact ih _ _ _ ⟨p, r, rfl, rfl, by omega, by omega, rfl, h1, fun z hz => by rw [hy] at hz; cases hz; exact c2⟩ (by omega)
 ·have c : ¬ p < q := by have := of_decide_eq_false c; omega
  have e : q = p := by omega
  subst e
  have w1 : IntKind.i64.wrap (((P.length + 1 + q : Nat) : Int) - 1) = ((P.length + q : Nat) : Int) := by rw [wrap64 (by omega) (by omega)]; omega
  refine lp2 (fun (k : Int) (d : List Rw) => ∃ r : Nat, k = ((P.length + r : Nat) : Int) /\ r <= q /\ d = P ++ (B.take r ++ x :: (B.drop r ++ S))) (fun k _ => (P.length + q - k).toNat) ?_ ⟨0, by omega, by omega, by simp⟩
  rintro X2 k d ⟨r, rfl, hrq, rfl⟩ ih2
  unfold slices_symMergeCmpFunc_Row_v0_L2i
  rw [w1]
  refine ⟨fun c => ?_, fun c => ?_⟩
  ·have c : r < q := by have := of_decide_eq_true c; omega
   obtain ⟨y, hy⟩ := get_some (l := B) (n := r) (by omega)
   have hd := drop_get hy
   have ht : (B.take r).length = r := by rw [List.length_take]; omega
   have ed : P ++ (B.take r ++ x :: (B.drop r ++ S)) = (P ++ B.take r) ++ x :: ([] ++ y :: (B.drop (r + 1) ++ S)) := by rw [hd]; simp
   obtain ⟨g1, g2, g3, g4, g5, g6, g7⟩ := swap_at (U := P ++ B.take r) (M := []) (T := B.drop (r + 1) ++ S) (x := x) (z := y) (i := P.length + r) (j := P.length + r + 1) (by simp; omega) (by simp; omega)
   have w2 : IntKind.i64.wrap (((P.length + r : Nat) : Int) + 1) = ((P.length + r + 1 : Nat) : Int) := by rw [wrap64 (by omega) (by omega)]; omega
   rw [ed, w2]
   simp only [Int.toNat_natCast]
   refine ⟨by omega, by omega, y, g2, by omega, by omega, x, g1, by omega, by omega, x, g1, by omega, by rw [List.length_set]; omega, y, g3, ?_⟩
   rw [g5]
   refine ih2 _ _ ⟨r + 1, by omega, by omega, ?_⟩ (by omega)
   rw [List.take_add_one, hy]; simp
  ·have c : ¬ r < q := by have := of_decide_eq_false c; omega
   have e : r = q := by omega
   subst e
   have eB : B.take r ++ B.drop r = B := List.take_append_drop r B
   have := srt_one lt7_ord (x := x) (B1 := B.take r) (B2 := B.drop r) (by rw [eB]; exact hB) (fun b hb => ?_) (fun b hb => ?_)
   ·rw [eB] at this; rw [this]; simp
   ·by_cases hr0 : r = 0
    ·subst hr0; cases hb
    obtain ⟨y, hy⟩ := get_some (l := B) (n := r - 1) (by omega)
    have et : B.take r = B.take (r - 1) ++ [y] := by
     have := List.take_add_one (l := B) (i := r - 1)
     rw [hy, show r - 1 + 1 = r by omega] at this
     exact this
    have hs := (Sd.app.1 (show Sd lt7 (B.take r ++ B.drop r) by rw [eB]; exact hB)).1
    rw [et] at hs hb
    exact Sd.last lt7_ord hs (lt7_ord.asym (h1 y (by omega) hy)) b hb
   ·cases hdr : B.drop r with
    | nil => rw [hdr] at hb; cases hb
    | cons y T =>
      have hs := (Sd.app.1 (show Sd lt7 (B.take r ++ B.drop r) by rw [eB]; exact hB)).2.1
      rw [hdr] at hs hb
      have hy : B[r]? = some y := by
       have : (B.drop r)[0]? = some y := by rw [hdr]; rfl
       rw [List.getElem?_drop] at this; exact this
      exact Sd.head lt7_ord hs (h2 y hy) b hb
theorem pSymB {g : Rw → Rw → Int → Prop} {Q : Rw → Prop} (hg : Cmp g Q) {P A S : List Rw} {x : Rw} (hb : P.length + A.length + 1 ≤ 1000) (hq : ∀ y ∈ A ++ [x], Q y) (hA : Sd lt7 A) :
  ∀ X3 : Int -> Int -> List Rw -> Prop, (∀ x13 x14 x15, slices_symMergeCmpFunc_Row_v0_L3i ((P.length + A.length : Nat) : Int) g (P ++ (srt lt7 [] (A ++ [x]) ++ S)) X3 x13 x14 x15 -> X3 x13 x14 x15) -> X3 (P.length : Int) ((P.length + A.length : Nat) : Int) (P ++ (A ++ (x :: S))) := by
 refine lp3 (fun (i j : Int) (d : List Rw) => ∃ p q : Nat, i = ((P.length + p : Nat) : Int) /\ j = ((P.length + q : Nat) : Int) /\ p <= q /\ q <= A.length /\ d = P ++ (A ++ (x :: S)) /\ (∀ y, 0 < p -> A[p - 1]? = some y -> lt7 x y = false) /\ (∀ y, A[q]? = some y -> lt7 x y = true)) (fun i j _ => (j - i).toNat) ?_ ⟨0, A.length, rfl, rfl, by omega, by omega, rfl, fun y h => by omega, fun y h => by rw [List.getElem?_eq_none (by omega)] at h; cases h⟩
 rintro X i j d ⟨p, q, rfl, rfl, hpq, hqA, rfl, h1, h2⟩ ih
 have hl : (P ++ (A ++ (x :: S))).length = P.length + A.length + 1 + S.length := by simp; omega
 have gx : (P ++ (A ++ (x :: S)))[P.length + A.length]? = some x := by
  rw [<- List.append_assoc, <- List.length_append]; exact get_mid _ _ _
 unfold slices_symMergeCmpFunc_Row_v0_L3i
 rw [half_eq _ _ (by omega)]
 obtain ⟨r, hr⟩ : ∃ r, (P.length + p + (P.length + q)) / 2 = P.length + r := ⟨(P.length + p + (P.length + q)) / 2 - P.length, by omega⟩
 rw [hr]
 refine ⟨fun c => ?_, fun c => ?_⟩
 ·have c : p < q := by have := of_decide_eq_true c; omega
  obtain ⟨y, hy⟩ := get_some (l := A) (n := r) (by omega)
  have gy : (P ++ (A ++ (x :: S)))[P.length + r]? = some y := by
   rw [List.getElem?_append_right (by omega), show P.length + r - P.length = r by omega, List.getElem?_append_left (by omega)]
   exact hy
  have w1 : IntKind.i64.wrap (((P.length + r : Nat) : Int) + 1) = ((P.length + (r + 1) : Nat) : Int) := by rw [wrap64 (by omega) (by omega)]; omega
  rw [w1]
  simp only [Int.toNat_natCast]
  refine ⟨by omega, by omega, x, gx, by omega, by omega, y, gy, rc x y, hg x y (hq x (by simp)) (hq y (by simp [List.mem_of_getElem? hy])), fun c2 => ?_, fun c2 => ?_⟩
  ·have c2 : lt7 x y = false := by simpa [lt7] using c2
   exact ih _ _ _ ⟨r + 1, q, rfl, rfl, by omega, hqA, rfl, fun z _ hz => by rw [show r + 1 - 1 = r by omega, hy] at hz; cases hz; exact c2, h2⟩ (by omega)
  ·have c2 : lt7 x y = true := by simpa [lt7] using c2
   exact ih _ _ _ ⟨p, r, rfl, rfl, by omega, by omega, rfl, h1, fun z hz => by rw [hy] at hz; cases hz; exact c2⟩ (by omega)
 ·have c : ¬ p < q := by have := of_decide_eq_false c; omega
  have e : q = p := by omega
  subst e
  refine lp2 (fun (k : Int) (d : List Rw) => ∃ r : Nat, k = ((P.length + r : Nat) : Int) /\ q <= r /\ r <= A.length /\ d = P ++ (A.take r ++ x :: (A.drop r ++ S))) (fun k _ => k.toNat) ?_ ⟨A.length, rfl, by omega, by omega, by simp⟩
  rintro X2 k d ⟨r, rfl, hrq, hrA, rfl⟩ ih2
  unfold slices_symMergeCmpFunc_Row_v0_L4i
  refine ⟨fun c => ?_, fun c => ?_⟩
  ·have c : q < r := by have := of_decide_eq_true c; omega
   obtain ⟨y, hy⟩ := get_some (l := A) (n := r - 1) (by omega)
   have et : A.take r = A.take (r - 1) ++ [y] := by
    have := List.take_add_one (l := A) (i := r - 1)
    rw [hy, show r - 1 + 1 = r by omega] at this
    exact this
   have ht : (A.take (r - 1)).length = r - 1 := by rw [List.length_take]; omega
   have ed : P ++ (A.take r ++ x :: (A.drop r ++ S)) = (P ++ A.take (r - 1)) ++ y :: ([] ++ x :: (A.drop r ++ S)) := by rw [et]; simp
   obtain ⟨g1, g2, g3, g4, g5, g6, g7⟩ := swap_at (U := P ++ A.take (r - 1)) (M := []) (T := A.drop r ++ S) (x := y) (z := x) (i := P.length + (r - 1)) (j := P.length + r) (by simp; omega) (by simp; omega)
   have w2 : IntKind.i64.wrap (((P.length + r : Nat) : Int) - 1) = ((P.length + (r - 1) : Nat) : Int) := by rw [wrap64 (by omega) (by omega)]; omega
   rw [ed, w2]
   simp only [Int.toNat_natCast]
   refine ⟨by omega, by omega, y, g1, by omega, by omega, x, g2, by omega, by omega, x, g2, by omega, by rw [List.length_set]; omega, y, g4, ?_⟩
   rw [g6]
   refine ih2 _ _ ⟨r - 1, by omega, by omega, by omega, ?_⟩ (by omega)
   have hd := drop_get hy
   rw [show r - 1 + 1 = r by omega] at hd
   rw [hd]; simp
  ·have c : ¬ q < r := by have := of_decide_eq_false c; omega
   have e : r = q := by omega
   subst e
   have eA : A.take r ++ A.drop r = A := List.take_append_drop r A
   have pp : srt lt7 [] (A ++ [x]) = srt lt7 [] (x :: A) := srt_pp lt7_ord (List.perm_append_comm (l₁ := [x]) (l₂ := A))
   have := srt_one lt7_ord (x := x) (B1 := A.take r) (B2 := A.drop r) (by rw [eA]; exact hA) (fun b hb => ?_) (fun b hb => ?_)
   ·rw [eA] at this; rw [pp, this]; simp
   ·by_cases hr0 : r = 0
    ·subst hr0; cases hb
    obtain ⟨y, hy⟩ := get_some (l := A) (n := r - 1) (by omega)
    have et : A.take r = A.take (r - 1) ++ [y] := by
     have := List.take_add_one (l := A) (i := r - 1)
     rw [hy, show r - 1 + 1 = r by omega] at this
     exact this
    have hs := (Sd.app.1 (show Sd lt7 (A.take r ++ A.drop r) by rw [eA]; exact hA)).1
    rw [et] at hs hb
    exact Sd.last lt7_ord hs (h1 y (by omega) hy) b hb
   ·cases hdr : A.drop r with
    | nil => rw [hdr] at hb; cases hb
    | cons y T =>
      have hs := (Sd.app.1 (show Sd lt7 (A.take r ++ A.drop r) by rw [eA]; exact hA)).2.1
      rw [hdr] at hs hb
      have hy : A[r]? = some y := by
       have : (A.drop r)[0]? = some y := by rw [hdr]; rfl
       rw [List.getElem?_drop] at this; exact this
      exact Sd.head lt7_ord hs (lt7_ord.asym (h2 y hy)) b hb
end Go.Proofs.Ytkmehmgocelkiaa
end
noncomputable section
namespace Go.Proofs.Ytkmehmgocelkiaa
open Go.AV Go.RowKit
def Clo (Xr : (Rw -> Rw -> Int -> Prop) -> Int -> Int -> Int -> List Rw -> List Rw -> Prop) : Prop := ∀ (g4 : Rw -> Rw -> Int -> Prop) (a0 a1 a2 : Int) (a3 r0 : List Rw), slices_symMergeCmpFunc_Row_v0_Bi Xr g4 a0 a1 a2 a3 r0 -> Xr g4 a0 a1 a2 a3 r0
theorem srt_nilL {A : List Rw} (h : Sd lt7 A) : srt lt7 [] ([] ++ A) = A := srt_id lt7_ord h
theorem srt_nilR {A : List Rw} (h : Sd lt7 A) : srt lt7 [] (A ++ []) = A := by rw [List.append_nil]; exact srt_id lt7_ord h
set_option maxHeartbeats 4000000 in
theorem pSym {g : Rw → Rw → Int → Prop} {Q : Rw → Prop} (hg : Cmp g Q) (Xr : (Rw → Rw → Int → Prop) → Int → Int → Int → List Rw → List Rw → Prop) (hX : Clo Xr) : ∀ (n : Nat) (P A B S : List Rw), A.length + B.length ≤ n → 0 < A.length → 0 < B.length → P.length + A.length + B.length ≤ 1000 → (∀ y ∈ A ++ B, Q y) → Sd lt7 A → Sd lt7 B →
  Xr g (P.length : Int) ((P.length + A.length : Nat) : Int) ((P.length + A.length + B.length : Nat) : Int) (P ++ (A ++ (B ++ S))) (P ++ (srt lt7 [] (A ++ B) ++ S)) := by
 intro n
 induction n with
 | zero => intro P A B S h hA hB; omega
 | succ n ih =>
   intro P A B S hn hA hB hb hq sA sB
   apply hX
   have w1 : IntKind.i64.wrap (((P.length + A.length : Nat) : Int) - (P.length : Int)) = (A.length : Int) := by rw [wrap64 (by omega) (by omega)]; omega
   have w2 : IntKind.i64.wrap (((P.length + A.length + B.length : Nat) : Int) - ((P.length + A.length : Nat) : Int)) = (B.length : Int) := by rw [wrap64 (by omega) (by omega)]; omega
   unfold slices_symMergeCmpFunc_Row_v0_Bi
   rw [w1, w2]
   refine ⟨fun c => ?_, fun c => ⟨fun c2 => ?_, fun c2 => ?_⟩⟩
   ·have c : A.length = 1 := by have : (A.length : Int) = 1 := by simpa using c
                                omega
    obtain ⟨x, rfl⟩ := List.length_eq_one_iff.1 c
    exact pSymA hg (by simpa using hb) (by simpa using hq) sB
   ·have c : B.length = 1 := by have : (B.length : Int) = 1 := by simpa using c2
                                omega
    obtain ⟨x, rfl⟩ := List.length_eq_one_iff.1 c
    exact pSymB hg (by simpa using hb) (by simpa using hq) sA
   ·have cA : A.length ≠ 1 := by intro e; rw [e] at c; simp at c
    have cB : B.length ≠ 1 := by intro e; rw [e] at c2; simp at c2
    clear w1 w2 c c2
    have hmid := half_eq P.length (P.length + A.length + B.length) (by omega)
    obtain ⟨mid, hmd⟩ : ∃ mid, mid = (P.length + (P.length + A.length + B.length)) / 2 := ⟨_, rfl⟩
    rw [<- hmd] at hmid
    have wn : IntKind.i64.wrap ((mid : Int) + ((P.length + A.length : Nat) : Int)) = ((mid + (P.length + A.length) : Nat) : Int) := by rw [wrap64 (by omega) (by omega)]; omega
    have dA : ∀ k, k < A.length → (P ++ (A ++ (B ++ S)))[P.length + k]? = A[k]? := by
     intro k hk
     rw [List.getElem?_append_right (by omega), show P.length + k - P.length = k by omega, List.getElem?_append_left hk]
    have dB : ∀ k, k < B.length → (P ++ (A ++ (B ++ S)))[P.length + A.length + k]? = B[k]? := by
     intro k hk
     rw [<- List.append_assoc, List.getElem?_append_right (by simp), show P.length + A.length + k - (P ++ A).length = k by simp, List.getElem?_append_left hk]
    have hl : (P ++ (A ++ (B ++ S))).length = P.length + A.length + B.length + S.length := by simp; omega
    have core : ∀ lo hi : Nat, (mid < P.length + A.length ∧ lo + (P.length + A.length + B.length) = mid + (P.length + A.length) ∧ hi = mid) ∨ (P.length + A.length ≤ mid ∧ lo = P.length ∧ hi = P.length + A.length) →
      slices_symMergeCmpFunc_Row_v0_J5i Xr (P.length : Int) ((P.length + A.length : Nat) : Int) ((P.length + A.length + B.length : Nat) : Int) g (P ++ (srt lt7 [] (A ++ B) ++ S)) (lo : Int) (hi : Int) (P ++ (A ++ (B ++ S))) := by
     intro lo hi hlh
     have hlo : P.length <= lo := by omega
     have hhi : hi <= P.length + A.length := by omega
     have hhm : hi <= mid := by omega
     unfold slices_symMergeCmpFunc_Row_v0_J5i
     refine lp3 (fun (i j : Int) (d : List Rw) => ∃ s r : Nat, i = (s : Int) /\ j = (r : Int) /\ lo <= s /\ s <= r /\ r <= hi /\ d = P ++ (A ++ (B ++ S)) /\ (lo < s -> ∀ x y, (P ++ (A ++ (B ++ S)))[s - 1]? = some x -> (P ++ (A ++ (B ++ S)))[mid + (P.length + A.length) - s]? = some y -> lt7 y x = false) /\ (r < hi -> ∀ x y, (P ++ (A ++ (B ++ S)))[r]? = some x -> (P ++ (A ++ (B ++ S)))[mid + (P.length + A.length) - 1 - r]? = some y -> lt7 y x = true)) (fun i j _ => (j - i).toNat) ?_ ⟨lo, hi, rfl, rfl, by omega, by omega, by omega, rfl, fun h => by omega, fun h => by omega⟩
     rintro X i j d ⟨s, r, rfl, rfl, k1, k2, k3, rfl, h1, h2⟩ ih2
     unfold slices_symMergeCmpFunc_Row_v0_L6i
     rw [hmid, wn, half_eq s r (by omega)]
     refine ⟨fun c => ?_, fun c => ?_⟩
     ·have c : s < r := by have := of_decide_eq_true c; omega
      obtain ⟨q, hq'⟩ : ∃ q, q = (s + r) / 2 := ⟨_, rfl⟩
      rw [<- hq']
      have wp : IntKind.i64.wrap (((mid + (P.length + A.length) : Nat) : Int) - 1) = ((mid + (P.length + A.length) - 1 : Nat) : Int) := by rw [wrap64 (by omega) (by omega)]; omega
      have wq : IntKind.i64.wrap (((mid + (P.length + A.length) - 1 : Nat) : Int) - (q : Int)) = ((mid + (P.length + A.length) - 1 - q : Nat) : Int) := by rw [wrap64 (by omega) (by omega)]; omega
      have wc : IntKind.i64.wrap ((q : Int) + 1) = ((q + 1 : Nat) : Int) := by rw [wrap64 (by omega) (by omega)]; omega
      rw [wp, wq, wc]
      simp only [Int.toNat_natCast]
      obtain ⟨kx, hkx⟩ : ∃ k, q = P.length + k := ⟨q - P.length, by omega⟩
      obtain ⟨ky, hky⟩ : ∃ k, mid + (P.length + A.length) - 1 - q = P.length + A.length + k := ⟨mid - 1 - q, by omega⟩
      obtain ⟨x, hx⟩ := get_some (l := A) (n := kx) (by omega)
      obtain ⟨y, hy⟩ := get_some (l := B) (n := ky) (by omega)
      have gx : (P ++ (A ++ (B ++ S)))[q]? = some x := by rw [hkx, dA kx (by omega)]; exact hx
      have gy : (P ++ (A ++ (B ++ S)))[mid + (P.length + A.length) - 1 - q]? = some y := by rw [hky, dB ky (by omega)]; exact hy
      refine ⟨by omega, by omega, y, gy, by omega, by omega, x, gx, rc y x, hg y x (hq y (by simp [List.mem_of_getElem? hy])) (hq x (by simp [List.mem_of_getElem? hx])), fun c2 => ?_, fun c2 => ?_⟩
      ·have c2 : lt7 y x = false := by simpa [lt7] using c2
       refine ih2 _ _ _ ⟨q + 1, r, rfl, rfl, by omega, by omega, by omega, rfl, fun _ u v hu hv => ?_, h2⟩ (by omega)
       rw [show q + 1 - 1 = q by omega, gx] at hu
       rw [show mid + (P.length + A.length) - (q + 1) = mid + (P.length + A.length) - 1 - q by omega, gy] at hv
       cases hu; cases hv; exact c2
      ·have c2 : lt7 y x = true := by simpa [lt7] using c2
       refine ih2 _ _ _ ⟨s, q, rfl, rfl, by omega, by omega, by omega, rfl, h1, fun _ u v hu hv => ?_⟩ (by omega)
       rw [gx] at hu; rw [gy] at hv
       cases hu; cases hv; exact c2
     ·have c : ¬ s < r := by have := of_decide_eq_false c; omega
      have e : r = s := by omega
      subst e
      clear ih2
      obtain ⟨A1, A2, eA, lA1, lA2⟩ := cut_len (l := A) (n := r - P.length) (by omega)
      obtain ⟨B1, B2, eB, lB1, lB2⟩ := cut_len (l := B) (n := mid - r) (by omega)
      have sA' := sA; have sB' := sB
      rw [eA] at sA'; rw [eB] at sB'
      obtain ⟨sA1, sA2, _⟩ := Sd.app.1 sA'
      obtain ⟨sB1, sB2, _⟩ := Sd.app.1 sB'
      have hcut : srt lt7 [] (A ++ B) = srt lt7 [] (A1 ++ B1) ++ srt lt7 [] (A2 ++ B2) := by
       refine cut_ok lt7_ord sA sB eA eB (fun x y hx hy => ?_) (fun x y hx hy => ?_)
       ·obtain ⟨A0, e0⟩ := lastOf hx
        cases hB2 : B2 with
        | nil => rw [hB2] at hy; cases hy
        | cons y' T =>
          rw [hB2] at hy; cases hy
          have l0 : A1.length = A0.length + 1 := by rw [e0]; simp
          have l2 : B2.length = T.length + 1 := by rw [hB2]; simp
          refine h1 (by omega) x y ?_ ?_
          ·rw [show r - 1 = P.length + A0.length by omega, dA _ (by omega), eA, e0, List.append_assoc]; exact get_mid _ _ _
          ·rw [show mid + (P.length + A.length) - r = P.length + A.length + B1.length by omega, dB _ (by omega), eB, hB2]; exact get_mid _ _ _
       ·obtain ⟨B0, e0⟩ := lastOf hx
        cases hA2 : A2 with
        | nil => rw [hA2] at hy; cases hy
        | cons y' T =>
          rw [hA2] at hy; cases hy
          have l0 : B1.length = B0.length + 1 := by rw [e0]; simp
          have l2 : A2.length = T.length + 1 := by rw [hA2]; simp
          refine lt7_ord.asym (h2 (by omega) y x ?_ ?_)
          ·rw [show r = P.length + A1.length by omega, dA _ (by omega), eA, hA2]; exact get_mid _ _ _
          ·rw [show mid + (P.length + A.length) - 1 - r = P.length + A.length + B0.length by omega, dB _ (by omega), eB, e0, List.append_assoc]; exact get_mid _ _ _
      have we : IntKind.i64.wrap (((mid + (P.length + A.length) : Nat) : Int) - (r : Int)) = ((mid + (P.length + A.length) - r : Nat) : Int) := by rw [wrap64 (by omega) (by omega)]; omega
      have lsrt : (srt lt7 [] (A1 ++ B1)).length = A1.length + B1.length := by rw [srt0_len]; simp
      have t8 : slices_symMergeCmpFunc_Row_v0_J8i Xr (P.length : Int) ((P.length + A.length + B.length : Nat) : Int) g (P ++ (srt lt7 [] (A ++ B) ++ S)) ((mid + (P.length + A.length) - r : Nat) : Int) (P ++ (srt lt7 [] (A1 ++ B1) ++ (A2 ++ (B2 ++ S)))) := by
       have stay : (A2 = [] ∨ B2 = []) → P ++ (srt lt7 [] (A1 ++ B1) ++ (A2 ++ (B2 ++ S))) = P ++ (srt lt7 [] (A ++ B) ++ S) := by
        rw [hcut]
        rintro (h | h)
        ·rw [h] at *; rw [srt_nilL sB2]; simp
        ·rw [h] at *; rw [srt_nilR sA2]; simp
       unfold slices_symMergeCmpFunc_Row_v0_J8i slices_symMergeCmpFunc_Row_v0_J9i
       rw [hmid]
       refine ⟨fun d => ⟨fun d2 => ?_, fun d2 => ?_⟩, fun d => cnd_of_false rfl ?_⟩
       ·have d := of_decide_eq_true d
        have d2 := of_decide_eq_true d2
        refine ⟨_, ?_, ?_, rfl⟩
        ·have := ih (P ++ srt lt7 [] (A1 ++ B1)) A2 B2 S (by omega) (by omega) (by omega) (by rw [List.length_append]; omega) (fun y hy => hq y (by rw [eA, eB]; simp only [List.mem_append] at *; rcases hy with h | h <;> simp [h])) sA2 sB2
         rw [hcut]
         simp only [List.append_assoc, List.length_append, lsrt] at this ⊢
         rw [show P.length + (A1.length + B1.length) = mid by omega] at this
         rw [show mid + A2.length = mid + (P.length + A.length) - r by omega] at this
         rw [show mid + (P.length + A.length) - r + B2.length = P.length + A.length + B.length by omega] at this
         exact this
        ·rw [hcut]; simp only [List.length_append, srt0_len]; omega
       ·have d2 := of_decide_eq_false d2
        exact stay (.inr (List.eq_nil_of_length_eq_zero (by omega)))
       ·have d := of_decide_eq_false d
        exact stay (.inl (List.eq_nil_of_length_eq_zero (by omega)))
      have t7 : slices_symMergeCmpFunc_Row_v0_J7i Xr (P.length : Int) ((P.length + A.length + B.length : Nat) : Int) g (P ++ (srt lt7 [] (A ++ B) ++ S)) (r : Int) ((mid + (P.length + A.length) - r : Nat) : Int) (P ++ (A1 ++ (B1 ++ (A2 ++ (B2 ++ S))))) := by
       have stay : (A1 = [] ∨ B1 = []) → P ++ (A1 ++ (B1 ++ (A2 ++ (B2 ++ S)))) = P ++ (srt lt7 [] (A1 ++ B1) ++ (A2 ++ (B2 ++ S))) := by
        rintro (h | h)
        ·rw [h] at *; rw [srt_nilL sB1]; simp
        ·rw [h] at *; rw [srt_nilR sA1]; simp
       unfold slices_symMergeCmpFunc_Row_v0_J7i slices_symMergeCmpFunc_Row_v0_J10i
       rw [hmid]
       refine ⟨fun d => ⟨fun d2 => ?_, fun d2 => ?_⟩, fun d => cnd_of_false rfl ?_⟩
       ·have d := of_decide_eq_true d
        have d2 := of_decide_eq_true d2
        refine ⟨_, ?_, ?_, t8⟩
        ·have := ih P A1 B1 (A2 ++ (B2 ++ S)) (by omega) (by omega) (by omega) (by omega) (fun y hy => hq y (by rw [eA, eB]; simp only [List.mem_append] at *; rcases hy with h | h <;> simp [h])) sA1 sB1
         rw [show P.length + A1.length = r by omega] at this
         rw [show r + B1.length = mid by omega] at this
         exact this
        ·simp only [List.length_append, srt0_len]; omega
       ·have d2 := of_decide_eq_false d2
        rw [stay (.inr (List.eq_nil_of_length_eq_zero (by omega)))]; exact t8
       ·have d := of_decide_eq_false d
        rw [stay (.inl (List.eq_nil_of_length_eq_zero (by omega)))]; exact t8
      have stay : (A2 = [] ∨ B1 = []) → P ++ (A ++ (B ++ S)) = P ++ (A1 ++ (B1 ++ (A2 ++ (B2 ++ S)))) := by
       rw [eA, eB]
       rintro (h | h)
       ·rw [h]; simp
       ·rw [h]; simp
      unfold slices_symMergeCmpFunc_Row_v0_J11i
      rw [hmid, wn, we]
      refine ⟨fun d => ⟨fun d2 => ?_, fun d2 => ?_⟩, fun d => cnd_of_false rfl ?_⟩
      ·have d := of_decide_eq_true d
       have d2 := of_decide_eq_true d2
       refine ⟨_, ?_, ?_, t7⟩
       ·have := pRotate (g := g) (P := P ++ A1) (L := A2) (R := B1) (S := B2 ++ S) (a := (r : Int)) (m := ((P.length + A.length : Nat) : Int)) (b := ((mid + (P.length + A.length) - r : Nat) : Int)) (by rw [List.length_append]; omega) (by omega) (by omega) (by rw [List.length_append]; omega) (by rw [List.length_append]; omega) (by rw [List.length_append]; omega)
        rw [eA, eB]
        rw [eA] at this
        simpa using this
       ·rw [hl]; simp only [List.length_append]; omega
      ·have d2 := of_decide_eq_false d2
       rw [stay (.inr (List.eq_nil_of_length_eq_zero (by omega)))]; exact t7
      ·have d := of_decide_eq_false d
       rw [stay (.inl (List.eq_nil_of_length_eq_zero (by omega)))]; exact t7
    rw [hmid, wn]
    refine ⟨fun d => ?_, fun d => ?_⟩
    ·have d := of_decide_eq_true d
     have wl : IntKind.i64.wrap (((mid + (P.length + A.length) : Nat) : Int) - ((P.length + A.length + B.length : Nat) : Int)) = ((mid + (P.length + A.length) - (P.length + A.length + B.length) : Nat) : Int) := by rw [wrap64 (by omega) (by omega)]; omega
     rw [wl]
     exact core _ _ (.inl ⟨by omega, by omega, rfl⟩)
    ·have d := of_decide_eq_false d
     exact core _ _ (.inr ⟨by omega, rfl, rfl⟩)
theorem pSymMerge {g : Rw → Rw → Int → Prop} {Q : Rw → Prop} (hg : Cmp g Q) {A B : List Rw} (hA : 0 < A.length) (hB : 0 < B.length) (hb : A.length + B.length ≤ 1000) (hq : ∀ y ∈ A ++ B, Q y) (sA : Sd lt7 A) (sB : Sd lt7 B) {a m b : Int} (ha : a = 0) (hm : m = A.length) (hbb : b = A.length + B.length) :
  slices_symMergeCmpFunc_Row_v0_o g a m b (A ++ B) (srt lt7 [] (A ++ B)) := by
 refine slices_symMergeCmpFunc_Row_v0_i _ _ _ _ _ _ fun Xr hX => ?_
 have := pSym hg Xr hX _ [] A B [] (Nat.le_refl _) hA hB (by simpa using hb) hq sA sB
 subst ha; subst hm; subst hbb
 simpa using this
end Go.Proofs.Ytkmehmgocelkiaa
end
noncomputable section
namespace Go.Proofs.Ytkmehmgocelkiaa
open Go.AV Go.RowKit
section
variable {α : Type}
theorem ins_snoc (lt : α → α → Bool) (x p : α) (l : List α) : ins lt x (l ++ [p]) = if lt x p then ins lt x l ++ [p] else (l ++ [p]) ++ [x] := by
 unfold ins
 rw [List.reverse_append]
 show (if lt x p = true then p :: rins lt x l.reverse else x :: p :: l.reverse).reverse = _
 split
 ·rw [List.reverse_cons]
 ·simp
theorem srt_app (lt : α → α → Bool) (b : α) : ∀ (a out : List α), srt lt out (a ++ [b]) = ins lt b (srt lt out a)
 | [], out => rfl
 | x :: r, out => by show srt lt (ins lt x out) (r ++ [b]) = _; rw [srt_app lt b r]; rfl
end
theorem pInsSort {g : Rw → Rw → Int → Prop} {Q : Rw → Prop} (hg : Cmp g Q) {P L S : List Rw} {a b : Int} (hl : P.length + L.length ≤ 1000) (hq : ∀ y ∈ L, Q y) (ha : a = P.length) (hb : b = P.length + L.length) : slices_insertionSortCmpFunc_Row_v0_o g a b (P ++ (L ++ S)) (P ++ (srt lt7 [] L ++ S)) := by
 refine slices_insertionSortCmpFunc_Row_v0_i _ _ _ _ _ ?_
 have e01 : IntKind.i64.wrap (a + (1 : Int)) = ((P.length + 1 : Nat) : Int) := by rw [wrap64 (by omega) (by omega)]; omega
 unfold slices_insertionSortCmpFunc_Row_v0_oi
 rw [e01]
 refine lp2 (fun (i : Int) (d : List Rw) => (L = [] /\ d = P ++ S /\ i = ((P.length + 1 : Nat) : Int)) ∨ ∃ A B, L = A ++ B /\ i = ((P.length + A.length : Nat) : Int) /\ 1 <= A.length /\ d = P ++ (srt lt7 [] A ++ (B ++ S))) (fun i _ => (b - i).toNat) ?_ ?_
 ·rintro X i d inv ih
  unfold slices_insertionSortCmpFunc_Row_v0_L1i
  rcases inv with ⟨e, rfl, rfl⟩ | ⟨A, B, e, rfl, hA, rfl⟩
  ·subst e
   exact cnd_of_false (by simp at hb ⊢; omega) rfl
  ·have hll : L.length = A.length + B.length := by rw [e]; simp
   refine ⟨fun c => ?_, fun c => ?_⟩
   ·have c := of_decide_eq_true c
    cases B with
    | nil => exfalso; simp only [List.length_nil] at hll; omega
    | cons x B =>
      have hsl := srt0_len lt7 A
      have qA : ∀ y ∈ srt lt7 [] A, Q y := fun y hy => hq y (by rw [e]; exact List.mem_append_left _ ((srt0_perm A).subset hy))
      have qx : Q x := hq x (by rw [e]; simp)
      simp only [List.length_cons] at hll
      have nx : ∀ d, d = P ++ (srt lt7 [] (A ++ [x]) ++ (B ++ S)) → X (IntKind.i64.wrap (((P.length + A.length : Nat) : Int) + 1)) d := by
       intro d hd
       rw [wrap64 (by omega) (by omega)]
       exact ih _ _ (.inr ⟨A ++ [x], B, by rw [e]; simp, by simp; omega, by simp, hd⟩) (by omega)
      refine lp2 (fun (j : Int) (d : List Rw) => ∃ P1 P2, j = ((P.length + P1.length : Nat) : Int) /\ d = P ++ (P1 ++ x :: (P2 ++ (B ++ S))) /\ ins lt7 x (srt lt7 [] A) = ins lt7 x P1 ++ P2 /\ P1.length <= A.length /\ ∀ y ∈ P1, Q y) (fun j _ => j.toNat) ?_ ⟨srt lt7 [] A, [], by rw [hsl], by simp, by simp, by omega, qA⟩
      rintro X2 j d ⟨P1, P2, rfl, rfl, hins, hP, hQ⟩ ih2
      have stop : ins lt7 x P1 = P1 ++ [x] -> X (IntKind.i64.wrap (((P.length + A.length : Nat) : Int) + 1)) (P ++ (P1 ++ x :: (P2 ++ (B ++ S)))) := fun h => nx _ (by rw [srt_app, hins, h]; simp)
      unfold slices_insertionSortCmpFunc_Row_v0_L2i
      rcases snoc_cases P1 with rfl | ⟨P0, p, rfl⟩
      ·exact cnd_of_false (by simp; omega) (cnd_of_false rfl (stop rfl))
      ·have hlen : (P0 ++ [p]).length = P0.length + 1 := by simp
       rw [hlen] at hP
       have e1 : IntKind.i64.wrap (((P.length + (P0 ++ [p]).length : Nat) : Int) - 1) = ((P.length + P0.length : Nat) : Int) := by rw [wrap64 (by omega) (by omega)]; omega
       have qp : Q p := hQ p (by simp)
       have hs : ins lt7 x (P0 ++ [p]) = if lt7 x p then ins lt7 x P0 ++ [p] else (P0 ++ [p]) ++ [x] := ins_snoc lt7 x p P0
       have ed : P ++ ((P0 ++ [p]) ++ x :: (P2 ++ (B ++ S))) = (P ++ P0) ++ p :: ([] ++ x :: (P2 ++ (B ++ S))) := by simp
       obtain ⟨g1, g2, g3, g4, g5, g6, g7⟩ := swap_at (U := P ++ P0) (M := []) (T := P2 ++ (B ++ S)) (x := p) (z := x) (i := P.length + P0.length) (j := P.length + (P0 ++ [p]).length) (by simp) (by simp; omega)
       rw [ed] at stop ⊢
       rw [e1]
       refine cnd_of_true (by simp <;> omega) ⟨by omega, by omega, x, by simpa only [Int.toNat_natCast] using g2, by omega, by omega, p, by simpa only [Int.toNat_natCast] using g1, rc x p, hg x p qx qp, ?_⟩
       rw [show decide (rc x p < 0) = lt7 x p from rfl]
       unfold slices_insertionSortCmpFunc_Row_v0_J3i
       rw [e1]
       simp only [Int.toNat_natCast]
       refine ⟨fun hx => ?_, fun hx => stop (by rw [hs, hx]; rfl)⟩
       refine ⟨by omega, by omega, p, g1, by omega, by omega, x, g2, by omega, by omega, x, g2, by omega, by rw [List.length_set]; omega, p, g4, ?_⟩
       rw [g6]
       exact ih2 _ _ ⟨P0, p :: P2, rfl, by simp, by rw [hins, hs, hx]; simp, by omega, fun y hy => hQ y (by simp [hy])⟩ (by omega)
   ·have c := of_decide_eq_false c
    have : B = [] := List.length_eq_zero_iff.1 (by omega)
    subst this
    rw [e]; simp
 ·cases L with
  | nil => exact .inl ⟨rfl, rfl, rfl⟩
  | cons x r => exact .inr ⟨[x], r, rfl, rfl, by simp, rfl⟩
theorem pStable {g : Rw → Rw → Int → Prop} {Q : Rw → Prop} (hg : Cmp g Q) {l : List Rw} (hl : l.length ≤ 39) (hq : ∀ y ∈ l, Q y) : slices_stableCmpFunc_Row_v0_o g (l.length : Int) l (srt lt7 [] l) := by
 refine slices_stableCmpFunc_Row_v0_i _ _ _ _ ?_
 intro X hX
 by_cases h20 : 20 <= l.length
 ·obtain ⟨L, R, rfl, hL, hR⟩ := cut_len h20
  have hlen : (L ++ R).length = 20 + R.length := by simp [hL]
  have sl := srt0_len lt7 L
  have sr := srt0_len lt7 R
  refine hX _ _ _ (cnd_of_true (by simp; omega) ⟨srt lt7 [] L ++ R, ?_, by simp [sl], ?_⟩)
  ·exact pInsSort (P := []) (L := L) (S := R) hg (by simp; omega) (fun y hy => hq y (by simp [hy])) rfl (by simp; omega)
  ·refine hX _ _ _ (cnd_of_false (by rw [wrap64 (by omega) (by omega)]; simp; omega) ⟨srt lt7 [] L ++ srt lt7 [] R, ?_, by simp [sl, sr], fun X2 hX2 => ?_⟩)
   ·have := pInsSort (P := srt lt7 [] L) (L := R) (S := []) (a := 20) (b := ((L ++ R).length : Int)) hg (by omega) (fun y hy => hq y (by simp [hy])) (by omega) (by omega)
    simpa using this
   ·refine hX2 _ _ ⟨fun c => ?_, fun c => ?_⟩
    ·have c := of_decide_eq_true c
     intro X3 hX3
     have e40 : IntKind.i64.wrap ((2 : Int) * 20) = 40 := by decide
     have e20 : IntKind.i64.wrap ((0 : Int) + 20) = 20 := by decide
     have e42 : IntKind.i64.wrap ((20 : Int) * 2) = 40 := by decide
     have h := hX3 0 40 (srt lt7 [] L ++ srt lt7 [] R)
     rw [e40]
     refine h ?_
     unfold slices_stableCmpFunc_Row_v0_L3i
     rw [e20, e42]
     have pp : srt lt7 [] (srt lt7 [] L ++ srt lt7 [] R) = srt lt7 [] (L ++ R) := srt_pp lt7_ord (((srt0_perm L).append_right R).symm.trans (((srt0_perm R).append_left _).symm))
     refine cnd_of_false (by simp; omega) (cnd_of_true (by simp; omega) ⟨srt lt7 [] (L ++ R), ?_, by rw [srt0_len]; simp [sl, sr], hX2 _ _ (cnd_of_false (by simp; omega) rfl)⟩)
     rw [<- pp]
     exact pSymMerge hg (by omega) (by omega) (by omega) (fun y hy => hq y (by
      rcases List.mem_append.1 hy with h | h
      ·exact List.mem_append_left _ ((srt0_perm L).subset h)
      ·exact List.mem_append_right _ ((srt0_perm R).subset h))) (srt0_sd lt7_ord L) (srt0_sd lt7_ord R) rfl (by omega) (by omega)
    ·have c := of_decide_eq_false c
     have : R = [] := List.length_eq_zero_iff.1 (by omega)
     subst this
     rw [List.append_nil]
     show srt lt7 [] L ++ [] = srt lt7 [] L
     simp
 ·refine hX _ _ _ (cnd_of_false (by simp; omega) ⟨srt lt7 [] l, ?_, by rw [srt0_len], fun X2 hX2 => hX2 _ _ (cnd_of_false (by simp; omega) rfl)⟩)
  have := pInsSort (P := []) (L := l) (S := []) (a := 0) (b := (l.length : Int)) hg (by simp; omega) hq rfl (by simp)
  simpa using this
theorem pRowCompare {a b : List V} (ha : a.length ≤ 100000000) : row_Compare_o a b (rc a b) := by
 refine ⟨_, ?_, rfl⟩
 refine slices_CompareFunc_Value_i _ _ _ _ fun _ => ?_
 refine lp1 (fun i : Int => 0 <= i /\ i <= a.length /\ i <= b.length /\ rc (a.drop i.toNat) (b.drop i.toNat) = rc a b) (fun i => (a.length - i).toNat) ?_ ⟨by omega, by omega, by omega, by simp⟩
 rintro X i ⟨i0, i1, i2, hr⟩ ih
 refine ⟨fun c => ?_, fun c => ?_⟩
 ·have c : i < (a.length : Int) := by simpa using c
  obtain ⟨y, hy⟩ := get_some (l := a) (n := i.toNat) (by omega)
  refine ⟨i0, c, y, hy, fun _ => ⟨fun c2 => ?_, fun c2 => ?_⟩⟩
  ·have c2 : (b.length : Int) ≤ i := by simpa using c2
   rw [drop_get hy, List.drop_eq_nil_of_le (show b.length <= i.toNat by omega)] at hr
   exact hr
  ·have c2 : ¬ (b.length : Int) ≤ i := by simpa using c2
   obtain ⟨z, hz⟩ := get_some (l := b) (n := i.toNat) (by omega)
   rw [drop_get hy, drop_get hz] at hr
   rw [rc_cc] at hr
   refine ⟨i0, by omega, z, hz, _, pCompare y z, fun h => ?_, fun h => ?_⟩
   ·have h : sCmp y z ≠ 0 := by simpa using h
    rw [if_pos h] at hr; exact hr
   ·have h : sCmp y z = 0 := by simpa using h
    rw [if_neg (by simpa using h)] at hr
    rw [wrap64 (by omega) (by omega)]
    exact ih _ ⟨by omega, by omega, by omega, by rw [show (i + 1).toNat = i.toNat + 1 by omega]; exact hr⟩ (by omega)
 ·have c : ¬ i < (a.length : Int) := by simpa using c
  have hd : a.drop i.toNat = [] := List.drop_eq_nil_of_le (by omega)
  rw [hd, rc_nilL, List.length_drop] at hr
  refine fun _ _ => ⟨fun c2 => ?_, fun c2 => ?_⟩
  ·have c2 : (a.length : Int) < b.length := by simpa using c2
   rw [if_pos (by omega)] at hr; exact hr
  ·have c2 : ¬ (a.length : Int) < b.length := by simpa using c2
   rw [if_neg (by omega)] at hr; exact hr
def gd (l : List V) : Prop := l.length <= 9 /\ ∀ v ∈ l, good v
def Sh (l : Rw) : Prop := l.length <= 100000000
theorem rowCmp : Cmp row_Compare_o Sh := fun _ _ h _ => pRowCompare h
theorem pRowSort {l : List Rw} (hl : l.length ≤ 39) (hq : ∀ y ∈ l, Sh y) : row_Sort_o l (srt lt7 [] l) := by
 have hlen := srt0_len lt7 l
 have col : slices_Collect_Row_v0_o l l := by
  refine slices_Collect_Row_v0_i _ _ ⟨l, slices_AppendSeq_Row_v0_i _ _ _ fun _ _ => ?_, rfl⟩
  refine lp2 (fun (i : Int) (d : List (List V)) => 0 <= i /\ i <= l.length /\ d = l.take i.toNat) (fun i _ => (l.length - i).toNat) ?_ ⟨by omega, by omega, by simp⟩
  rintro X i d ⟨i0, i1, rfl⟩ ih
  refine ⟨fun c => ?_, fun c => ?_⟩
  ·have c : i < (l.length : Int) := by simpa using c
   obtain ⟨y, hy⟩ := get_some (l := l) (n := i.toNat) (by omega)
   refine ⟨i0, c, y, hy, by simp; omega, ?_⟩
   rw [wrap64 (by omega) (by omega)]
   refine ih _ _ ⟨by omega, by omega, ?_⟩ (by omega)
   rw [show (i + 1).toNat = i.toNat + 1 by omega, List.take_add_one, hy]; rfl
  ·have c : ¬ i < (l.length : Int) := by simpa using c
   exact List.take_of_length_le (by omega)
 exact ⟨l, rfl, _, slices_SortedStableFunc_Row_v0_i _ _ _ ⟨l, col, _, ⟨_, pStable rowCmp hl hq, hlen, rfl⟩, hlen, rfl⟩, rfl⟩
def m7 (l : List (List V)) : List (List V6) := l.map (List.map v6)
theorem m7_len (l : List (List V)) : (m7 l).length = l.length := by simp [m7]
theorem m7_app (a b : List (List V)) : m7 (a ++ b) = m7 a ++ m7 b := by simp [m7]
end Go.Proofs.Ytkmehmgocelkiaa
end
noncomputable section
namespace Go.Proofs.Ytkmehmgocelkiaa
open Go.AV Go.RowKit
abbrev Bg := T_bag_Bag
instance : DecidableEq T_value_Value := fun a b => if h : eqV a b = true then isTrue (eqV_iff.1 h) else isFalse fun e => h (eqV_iff.2 e)
theorem pClone {l : Rw} (h : l.length ≤ 400000000) : slices_Clone_Value_o l l := by
 intro u hu
 exact ⟨fun c => (hu c).symm, fun _ => ⟨h, by simp⟩⟩
theorem pOf {l : List Rw} (hl : l.length <= 39) (hq : ∀ y ∈ l, Sh y) : bag_Of_o l ⟨srt lt7 [] l⟩ := ⟨_, pRowSort hl hq, rfl⟩
theorem pLen (b : Bg) : bag_Bag_Len_o b b.rows.length := fun _ => rfl
theorem pRows {b : Bg} (hl : b.rows.length ≤ 1000) (hq : ∀ y ∈ b.rows, Sh y) : bag_Bag_Rows_o b b.rows := by
 apply bag_Bag_Rows_i
 intro _
 refine lp2 (fun (i : Int) (d : List Rw) => ∃ k : Nat, i = k /\ k <= b.rows.length /\ d = b.rows.take k) (fun i _ => (b.rows.length - i).toNat) ?_ ⟨0, rfl, by omega, by simp⟩
 rintro X i d ⟨k, rfl, hk, rfl⟩ ih
 unfold bag_Bag_Rows_L1i
 refine ⟨fun c => ?_, fun c => ?_⟩
 ·have c : (k : Int) < b.rows.length := of_decide_eq_true c
  obtain ⟨y, hy⟩ := get_some (l := b.rows) (n := k) (by omega)
  have hs := hq y (List.mem_of_getElem? hy)
  refine ⟨by omega, c, y, hy, y, pClone (by have : y.length <= 100000000 := hs; omega), by simp; omega, ?_⟩
  rw [w1 (by omega)]
  exact ih _ _ ⟨k + 1, rfl, by omega, by rw [List.take_add_one, hy]; rfl⟩ (by omega)
 ·have c : ¬ (k : Int) < b.rows.length := of_decide_eq_false c
  rw [List.take_of_length_le (by omega)]
theorem pEqRow {a b : Rw} (ha : Sh a) : bag_Same_1_o a b (rc a b == 0) := ⟨_, pRowCompare ha, rfl⟩
theorem pEqRows {a b : List Rw} (ha : a.length ≤ 1000) (hq : ∀ y ∈ a, Sh y) : slices_EqualFunc_Row_o a b bag_Same_1_o (decide (a = b)) := by
 apply slices_EqualFunc_Row_i
 intro _ _
 refine ⟨fun c => ?_, fun c _ => ?_⟩
 ·have c : ¬ (a.length : Int) = b.length := by simpa using c
  have : ¬ a = b := fun e => c (by rw [e])
  simp [this]
 ·have c : (a.length : Int) = b.length := by simpa using c
  refine lp1 (fun (i : Int) => ∃ k : Nat, i = k /\ k <= a.length /\ a.take k = b.take k) (fun i => (a.length - i).toNat) ?_ ⟨0, rfl, by omega, by simp⟩
  rintro X i ⟨k, rfl, hk, he⟩ ih
  unfold slices_EqualFunc_Row_L1i
  refine ⟨fun c2 => ?_, fun c2 => ?_⟩
  ·have c2 : (k : Int) < a.length := of_decide_eq_true c2
   obtain ⟨x, hx⟩ := get_some (l := a) (n := k) (by omega)
   obtain ⟨y, hy⟩ := get_some (l := b) (n := k) (by omega)
   refine ⟨by omega, c2, x, hx, by omega, by omega, y, hy, _, pEqRow (hq x (List.mem_of_getElem? hx)), fun d => ?_, fun d => ?_⟩
   ·have d : ¬ rc x y = 0 := by simpa using d
    have : ¬ a = b := fun e => by rw [e, hy] at hx; cases hx; exact d (rc_0.2 rfl)
    simp [this]
   ·have d : rc x y = 0 := by simpa using d
    have d := rc_0.1 d
    subst d
    rw [w1 (by omega)]
    exact ih _ ⟨k + 1, rfl, by omega, by rw [List.take_add_one, List.take_add_one, hx, hy, he]⟩ (by omega)
  ·have c2 : ¬ (k : Int) < a.length := of_decide_eq_false c2
   rw [List.take_of_length_le (by omega), List.take_of_length_le (by omega)] at he
   simp [he]
theorem pSameB {a b : Bg} (ha : a.rows.length <= 1000) (hq : ∀ y ∈ a.rows, Sh y) : bag_Same_o a b (decide (a.rows = b.rows)) := ⟨_, pEqRows ha hq, rfl⟩
theorem pPlus {l : List Bg} (hl : l.length ≤ 1000) (hb : (l.flatMap (·.rows)).length ≤ 39) (hq : ∀ y ∈ l.flatMap (·.rows), Sh y) : bag_Plus_o l ⟨srt lt7 [] (l.flatMap (·.rows))⟩ := by
 apply bag_Plus_i
 intro _
 refine lp2 (fun (i : Int) (d : List Rw) => ∃ A B, l = A ++ B /\ i = (A.length : Int) /\ d = A.flatMap (·.rows)) (fun i _ => (l.length - i).toNat) ?_ ⟨[], l, rfl, rfl, rfl⟩
 rintro X i d ⟨A, B, e, rfl, rfl⟩ ih
 have hll : l.length = A.length + B.length := by rw [e]; simp
 have hfl : (l.flatMap (·.rows)).length = (A.flatMap (·.rows)).length + (B.flatMap (·.rows)).length := by rw [e]; simp only [List.flatMap_append, List.length_append]
 unfold bag_Plus_L1i
 refine ⟨fun c => ?_, fun c => ?_⟩
 ·have c : (A.length : Int) < l.length := of_decide_eq_true c
  cases B with
  | nil => simp only [List.length_nil] at hll; omega
  | cons x B =>
    have hx : ((x :: B).flatMap (·.rows)).length = x.rows.length + (B.flatMap (·.rows)).length := by rw [List.flatMap_cons, List.length_append]
    refine ⟨by omega, c, x, by rw [Int.toNat_natCast, e]; simp, by omega, by omega, ?_⟩
    rw [w1 (by omega)]
    refine ih _ _ ⟨A ++ [x], B, by rw [e]; simp, by simp, by simp⟩ (by omega)
 ·have c : ¬ (A.length : Int) < l.length := of_decide_eq_false c
  have : B = [] := List.length_eq_zero_iff.1 (by omega)
  subst this
  have e' : l = A := by rw [e]; simp
  subst e'
  exact ⟨_, pOf hb hq, rfl⟩
def uqf : Option Rw → List Rw → List Rw
 | _, [] => []
 | none, x :: r => x :: uqf (some x) r
 | some p, x :: r => if rc p x = 0 then uqf (some x) r else x :: uqf (some x) r
def lastO (p : Option Rw) : List Rw → Option Rw
 | [] => p
 | x :: r => lastO (some x) r
theorem lastO_app (A B : List Rw) : ∀ p, lastO p (A ++ B) = lastO (lastO p A) B := by
 induction A with
 | nil => intro p; rfl
 | cons x A ih => intro p; exact ih (some x)
theorem lastO_rep (x : Rw) (k : Nat) : lastO (some x) (List.replicate k x) = some x := by
 induction k with
 | zero => rfl
 | succ k ih => exact ih
theorem uqf_app (A B : List Rw) : ∀ p, uqf p (A ++ B) = uqf p A ++ uqf (lastO p A) B := by
 induction A with
 | nil => intro p; cases p <;> rfl
 | cons x A ih =>
   intro p
   cases p with
   | none => simp only [List.cons_append, uqf, lastO]; rw [ih]
   | some q =>
     simp only [List.cons_append, uqf, lastO]
     rw [ih]
     split <;> rfl
theorem uqf_rep (x : Rw) (k : Nat) : uqf (some x) (List.replicate k x) = [] := by
 induction k with
 | zero => rfl
 | succ k ih => rw [List.replicate_succ]; simp only [uqf]; rw [if_pos (rc_0.2 rfl)]; exact ih
def uq (l : List Rw) : List Rw := uqf none l
theorem uq_run {A : List Rw} {x : Rw} {k : Nat} (h : ∀ p, lastO none A = some p → p ≠ x) : uq (A ++ List.replicate (k + 1) x) = uq A ++ [x] := by
 unfold uq
 rw [uqf_app, List.replicate_succ]
 congr 1
 have key : ∀ q : Option Rw, (∀ p, q = some p → p ≠ x) → uqf q (x :: List.replicate k x) = [x] := by
  intro q hq
  cases q with
  | none => simp only [uqf]; rw [uqf_rep]
  | some p => simp only [uqf]; rw [if_neg (fun e => hq p rfl (rc_0.1 e)), uqf_rep]
 exact key _ h
theorem uq_len (l : List Rw) : ∀ p, (uqf p l).length ≤ l.length := by
 induction l with
 | nil => intro p; simp [uqf]
 | cons x l ih =>
   intro p
   have := ih (some x)
   cases p with
   | none => simp only [uqf, List.length_cons]; omega
   | some q => simp only [uqf]; split <;> simp only [List.length_cons] <;> omega
theorem pDistinct {l : List Rw} (hl : l.length ≤ 1000) (hq : ∀ y ∈ l, Sh y) : bag_Bag_Distinct_o ⟨l⟩ ⟨uq l⟩ := by
 apply bag_Bag_Distinct_i
 refine ⟨l, rfl, fun _ => ?_⟩
 refine lp2 (fun (i : Int) (d : List Rw) => ∃ A B, l = A ++ B /\ i = (A.length : Int) /\ d = uq A /\ ∀ p x, lastO none A = some p -> B.head? = some x -> p ≠ x) (fun i _ => (l.length - i).toNat) ?_ ⟨[], l, rfl, rfl, rfl, fun p x h => by cases h⟩
 rintro X i d ⟨A, B, e, rfl, rfl, hne⟩ ih
 have hll : l.length = A.length + B.length := by rw [e]; simp
 unfold bag_Bag_Distinct_L1i
 intro _
 refine ⟨fun c => ?_, fun c => ?_⟩
 ·have c : (A.length : Int) < l.length := of_decide_eq_true c
  obtain ⟨x, B, rfl⟩ : ∃ x T, B = x :: T := by
   cases B with
   | nil => exfalso; simp only [List.length_nil] at hll; omega
   | cons x T => exact ⟨x, T, rfl⟩
  ·skip
   have gx : l[A.length]? = some x := by rw [e]; exact get_mid _ _ _
   have sx := hq x (List.mem_of_getElem? gx)
   refine lp2 (fun (n : Int) (d : List Rw) => ∃ k C, n = ((k + 1 : Nat) : Int) /\ x :: B = List.replicate (k + 1) x ++ C /\ d = uq A) (fun n _ => (l.length - n).toNat) ?_ ⟨0, B, rfl, rfl, rfl⟩
   rintro X2 n d ⟨k, C, rfl, he, rfl⟩ ih2
   have hlC : l.length = A.length + (k + 1) + C.length := by rw [e, he]; simp; omega
   have wk : IntKind.i64.wrap ((A.length : Int) + ((k + 1 : Nat) : Int)) = ((A.length + (k + 1) : Nat) : Int) := by rw [wrap64 (by omega) (by omega)]; omega
   have wk1 : IntKind.i64.wrap (((k + 1 : Nat) : Int) + 1) = ((k + 1 + 1 : Nat) : Int) := by rw [wrap64 (by omega) (by omega)]; omega
   have gC : ∀ y T, C = y :: T → l[A.length + (k + 1)]? = some y := by
    intro y T hC
    have hA2 : (A ++ List.replicate (k + 1) x).length = A.length + (k + 1) := by simp
    rw [e, he, hC, <- List.append_assoc, <- hA2]; exact get_mid _ _ _
   have stop : (∀ y, C.head? = some y → y ≠ x) → bag_Bag_Distinct_J3i X X2 (A.length : Int) ((k + 1 : Nat) : Int) l false (uq A) := by
    intro hy
    refine cnd_of_false rfl ⟨by omega, c, x, gx, x, pClone (by have : x.length <= 100000000 := sx; omega), by have := uq_len A none; unfold uq; omega, ?_⟩
    rw [wk]
    refine ih _ _ ⟨A ++ List.replicate (k + 1) x, C, by rw [e, he]; simp, by simp, ?_, fun p y hp hC => ?_⟩ (by omega)
    ·exact (uq_run fun p hp => hne p x hp rfl).symm
    ·rw [lastO_app, List.replicate_succ, lastO, lastO_rep] at hp
     cases hp
     exact fun q => hy y hC q.symm
   unfold bag_Bag_Distinct_L2i
   rw [wk]
   refine ⟨fun c2 => ?_, fun c2 => ?_⟩
   ·have c2 := of_decide_eq_true c2
    cases hC : C with
    | nil => rw [hC] at hlC; simp only [List.length_nil] at hlC; omega
    | cons y T =>
      refine ⟨by omega, c, x, gx, by omega, by omega, y, gC y T hC, _, pRowCompare sx, ?_⟩
      by_cases h0 : rc x y = 0
      ·have hxy := rc_0.1 h0
       rw [h0]
       refine cnd_of_true rfl ?_
       rw [wk1]
       exact ih2 _ _ ⟨k + 1, T, rfl, by rw [he, hC, <- hxy, List.replicate_succ' (n := k + 1)]; simp, rfl⟩ (by omega)
      ·rw [show (rc x y == 0) = false by simpa using h0]
       refine stop fun z hz => ?_
       rw [hC] at hz; cases hz
       exact fun q => h0 (rc_0.2 q.symm)
   ·have c2 := of_decide_eq_false c2
    have : C = [] := List.length_eq_zero_iff.1 (by omega)
    exact stop fun y hy => by rw [this] at hy; cases hy
 ·have c : ¬ (A.length : Int) < l.length := of_decide_eq_false c
  have : B = [] := List.length_eq_zero_iff.1 (by omega)
  subst this
  rw [e, List.append_nil]
end Go.Proofs.Ytkmehmgocelkiaa
end
noncomputable section
namespace Go.Proofs.Ytkmehmgocelkiaa
open Go.AV Go.RowKit
abbrev LV := T_law08_Value
def told (x : LV) : V := if x.Kind % 4 = 1 then ⟨1, x.N % 2, []⟩ else if x.Kind % 4 = 2 then ⟨2, x.N, []⟩ else if x.Kind % 4 = 3 then ⟨3, 0, x.S.take 64⟩ else ⟨0, 0, []⟩
def LOk (x : LV) : Prop := 0 <= x.Kind /\ x.Kind <= 255 /\ 0 <= x.N /\ x.N <= 255
theorem told_good {x : LV} (h : LOk x) : good (told x) := by
 obtain ⟨h1, h2, h3, h4⟩ := h
 unfold told good
 have : x.N % 2 = 0 ∨ x.N % 2 = 1 := by omega
 split
 ·exact .inr (.inl ⟨rfl, this, rfl⟩)
 ·split
  ·exact .inr (.inr (.inl ⟨rfl, by unfold Rg; simp only; omega, rfl⟩))
  ·split
   ·exact .inr (.inr (.inr ⟨rfl, rfl, by simp; omega⟩))
   ·exact .inl ⟨rfl, rfl, rfl⟩
theorem u8_and1 {n : Int} (h : 0 ≤ n) (k : n ≤ 255) : bits .and .u8 n 1 = n % 2 := by
 have h1 : (BitVec.ofInt 8 1).toNat = 2 ^ 1 - 1 := by decide
 have key : (BitVec.ofInt 8 n &&& BitVec.ofInt 8 1).toNat = (n % ((2 ^ 8 : Nat) : Int)).toNat % 2 ^ 1 := by
  rw [BitVec.toNat_and, BitVec.toNat_ofInt, h1, Nat.and_two_pow_sub_one_eq_mod]
 show IntKind.u8.wrap ((BitVec.ofInt 8 n &&& BitVec.ofInt 8 1).toNat : Nat) = n % 2
 rw [key, wrapu8_eq]
 omega
def tolds (l : List LV) : Rw := (l.take 4).map told
theorem tolds_good {l : List LV} (h : ∀ x ∈ l, LOk x) : gd (tolds l) := by
 refine ⟨by simp [tolds]; omega, fun v hv => ?_⟩
 obtain ⟨x, hx, rfl⟩ := List.mem_map.1 hv
 exact told_good (h x (List.mem_of_mem_take hx))
theorem pTolds {l : List LV} (h : ∀ x ∈ l, LOk x) : law08_told_o l (tolds l) ((tolds l).map v6) := by
 apply law08_told_i
 refine lp3 (fun (x : Int) (y : List V) (z : List V6) => ∃ i : Nat, x = i /\ i <= l.length /\ i <= 4 /\ y = (l.take i).map told /\ z = ((l.take i).map told).map v6) (fun (x : Int) (_ : List V) (_ : List V6) => l.length - x.toNat) ?_ ⟨0, rfl, by omega, by omega, by simp, by simp⟩
 rintro X x y z ⟨i, rfl, hi, hi9, rfl, rfl⟩ hX
 have done : ¬ (i < l.length ∧ i < 4) → law08_told_J2i X l (tolds l) ((tolds l).map v6) i false ((l.take i).map told) (((l.take i).map told).map v6) := by
  intro hd
  have e : l.take i = l.take 4 := by
   by_cases h9 : i = 4
   ·rw [h9]
   ·rw [List.take_of_length_le (show l.length <= i by omega), List.take_of_length_le (show l.length <= 4 by omega)]
  rw [e]
  exact ⟨fun q => (by cases q), fun _ => ⟨rfl, rfl⟩⟩
 simp only [law08_told_L1i]
 intro _
 refine ⟨fun c => ?_, fun c => ?_⟩
 ·have c : (i : Int) < l.length := of_decide_eq_true c
  have hlt : i < l.length := by omega
  by_cases h9 : i < 4
  ·have e9 : decide ((i : Int) < 4) = true := decide_eq_true (by omega)
   rw [e9]
   obtain ⟨h1, h2, h3, h4⟩ := h _ (List.getElem_mem hlt)
   have hk : IntKind.i64.wrap (l[i].Kind.tmod 4) = l[i].Kind % 4 := by
    rw [Int.tmod_eq_emod_of_nonneg h1]; exact wrap64 (by omega) (by omega)
   have fin : ∀ n s, (⟨l[i].Kind % 4, n, s⟩ : V) = told l[i] → law08_told_J3i X i l[i] n s ((l.take i).map told) (((l.take i).map told).map v6) := by
    intro n s e
    have hl1 : ((l.take i).map told).length <= 1000000000 := by simp; omega
    refine ⟨hl1, by rw [List.length_map]; exact hl1, ?_⟩
    rw [w1 (by omega), hk]
    refine hX _ _ _ ⟨i + 1, rfl, by omega, by omega, ?_, ?_⟩ (by omega)
    ·rw [List.take_succ_eq_append_getElem hlt, List.map_append, e]; rfl
    ·rw [List.take_succ_eq_append_getElem hlt, List.map_append, List.map_append, List.map_cons, List.map_nil, <- e]; rfl
   simp only [law08_told_J2i]
   refine ⟨fun _ => ⟨by omega, c, _, gAt hlt, ?_⟩, fun q => (by cases q)⟩
   rw [hk]
   refine ⟨fun k => ⟨by omega, c, _, gAt hlt, fin _ _ ?_⟩, fun k1 => ⟨fun k => ⟨by omega, c, _, gAt hlt, fin _ _ ?_⟩, fun k2 => ⟨fun k => ⟨by omega, c, _, gAt hlt, by omega, c, _, gAt hlt, ?_, fin _ _ ?_⟩, fun k3 => fin _ _ ?_⟩⟩⟩
   ·have k : l[i].Kind % 4 = 1 := by simpa using k
    rw [u8_and1 h3 h4, wrap64 (by omega) (by omega)]; simp [told, k]
   ·have k : l[i].Kind % 4 = 2 := by simpa using k
    rw [wrap64 (by omega) (by omega)]; simp [told, k]
   ·split <;> omega
   ·have k : l[i].Kind % 4 = 3 := by simpa using k
    have e : (List.take ((if (64 : Int) < (l[i].S.length : Int) then (64 : Int) else (l[i].S.length : Int)).toNat - (0 : Int).toNat) (List.drop (0 : Int).toNat l[i].S)) = l[i].S.take 64 := by
     split
     ·simp
     ·have : l[i].S.length ≤ 64 := by omega
      simp [List.take_of_length_le this]
    rw [e]; simp [told, k]
   ·have k1 : ¬ l[i].Kind % 4 = 1 := by simpa using k1
    have k2 : ¬ l[i].Kind % 4 = 2 := by simpa using k2
    have k3 : ¬ l[i].Kind % 4 = 3 := by simpa using k3
    have : l[i].Kind % 4 = 0 := by omega
    simp [told, this]
  ·have e9 : decide ((i : Int) < 4) = false := decide_eq_false (by omega)
   rw [e9]; exact done (fun q => h9 q.2)
 ·have c : ¬ (i : Int) < l.length := of_decide_eq_false c
  exact done (fun q => by omega)
def rowsL (l : List (List LV)) : List Rw := (l.take 12).map tolds
def LLOk (l : List (List LV)) : Prop := ∀ r ∈ l, ∀ x ∈ r, LOk x
def Gd (l : List Rw) : Prop := ∀ y ∈ l, gd y
theorem Gd.sh {l : List Rw} (h : Gd l) : ∀ y ∈ l, Sh y := fun y hy => by have := (h y hy).1; unfold Sh; omega
theorem rowsL_gd {l : List (List LV)} (h : LLOk l) : Gd (rowsL l) := by
 intro y hy
 obtain ⟨x, hx, rfl⟩ := List.mem_map.1 hy
 exact tolds_good (h x (List.mem_of_mem_take hx))
theorem rowsL_len (l : List (List LV)) : (rowsL l).length <= 12 := by simp [rowsL]; omega
theorem pRowsL {l : List (List LV)} (h : LLOk l) : law08_rows_o l (rowsL l) (m7 (rowsL l)) := by
 apply law08_rows_i
 refine lp3 (fun (x : Int) (y : List Rw) (z : List (List V6)) => ∃ i : Nat, x = i /\ i <= l.length /\ i <= 12 /\ y = (l.take i).map tolds /\ z = m7 ((l.take i).map tolds)) (fun (x : Int) (_ : List Rw) (_ : List (List V6)) => l.length - x.toNat) ?_ ⟨0, rfl, by omega, by omega, by simp, by simp [m7]⟩
 rintro X x y z ⟨i, rfl, hi, hi9, rfl, rfl⟩ hX
 have done : ¬ (i < l.length ∧ i < 12) → law08_rows_J2i X l (rowsL l) (m7 (rowsL l)) i false ((l.take i).map tolds) (m7 ((l.take i).map tolds)) := by
  intro hd
  have e : l.take i = l.take 12 := by
   by_cases h9 : i = 12
   ·rw [h9]
   ·rw [List.take_of_length_le (show l.length <= i by omega), List.take_of_length_le (show l.length <= 12 by omega)]
  rw [e]
  exact ⟨fun q => (by cases q), fun _ => ⟨rfl, rfl⟩⟩
 simp only [law08_rows_L1i]
 intro _
 refine ⟨fun c => ?_, fun c => ?_⟩
 ·have c : (i : Int) < l.length := of_decide_eq_true c
  have hlt : i < l.length := by omega
  by_cases h9 : i < 12
  ·have e9 : decide ((i : Int) < 12) = true := decide_eq_true (by omega)
   rw [e9]
   have hl1 : ((l.take i).map tolds).length <= 1000000000 := by simp; omega
   refine ⟨fun _ => ⟨by omega, c, _, gAt hlt, _, _, pTolds (h _ (List.getElem_mem hlt)), hl1, by rw [m7_len]; exact hl1, ?_⟩, fun q => (by cases q)⟩
   rw [w1 (by omega)]
   refine hX _ _ _ ⟨i + 1, rfl, by omega, by omega, ?_, ?_⟩ (by omega)
   ·rw [List.take_succ_eq_append_getElem hlt, List.map_append]; rfl
   ·rw [List.take_succ_eq_append_getElem hlt, List.map_append, m7_app]; rfl
  ·have e9 : decide ((i : Int) < 12) = false := decide_eq_false (by omega)
   rw [e9]; exact done (fun q => h9 q.2)
 ·have c : ¬ (i : Int) < l.length := of_decide_eq_false c
  exact done (fun q => by omega)
def vI (n : Int) : V := ⟨2, n, []⟩
theorem sp_srt : srt lt7 [] [[vI 1], [vI 0], [vI 1]] = [[vI 0], [vI 1], [vI 1]] := by decide
theorem sp_uq : uq [[vI 0], [vI 1], [vI 1]] = [[vI 0], [vI 1]] := by decide
theorem pSpeaks : law08_speaks_o true := by
 apply law08_speaks_i
 have sh : ∀ l : List Rw, (∀ y ∈ l, y.length <= 1) -> ∀ y ∈ l, Sh y := fun l h y hy => by have := h y hy; unfold Sh; omega
 have ho := pOf (l := [[vI 1], [vI 0], [vI 1]]) (by simp) (sh _ (by simp))
 rw [sp_srt] at ho
 have hr := pRows (b := ⟨[[vI 0], [vI 1], [vI 1]]⟩) (by simp) (sh _ (by simp))
 have hd := pDistinct (l := [[vI 0], [vI 1], [vI 1]]) (by simp) (sh _ (by simp))
 rw [sp_uq] at hd
 refine ⟨_, pOfInt 1, _, pOfInt 0, _, ho, _, hr, _, pLen _, cnd_of_true (by rfl) ⟨_, hd, _, pLen _, cnd_of_true (by rfl) (cnd_of_true (by rfl) ⟨by omega, by simp, _, rfl, by omega, by simp, _, rfl, _, pOfInt 0, cnd_of_true (by rfl) ⟨by omega, by simp, _, rfl, by omega, by simp, _, rfl, _, pOfInt 1, ?_⟩⟩)⟩⟩
 rfl
end Go.Proofs.Ytkmehmgocelkiaa
end
noncomputable section
namespace Go.Proofs.Ytkmehmgocelkiaa
open Go.AV Go.RowKit
def R_law08_Value_130 (v : T_law08_Value) : Prop := (fun n : Int => (Lit.int .u8 n).wf = true) v.Kind /\ (fun n : Int => (Lit.int .u8 n).wf = true) v.N /\ (fun s : Str => s.length <= maxLen) v.S
theorem told_law08_Value_130 : ToldT Try.prog 130 e_law08_Value.c R_law08_Value_130 := by
 intro us h
 have r := h.fields Try.underlying130
 obtain ⟨v0, q0, rfl, h0, r⟩ := r.first (told_int Try.underlying5)
 obtain ⟨v1, q1, rfl, h1, r⟩ := r.first (told_int Try.underlying5)
 obtain ⟨v2, q2, rfl, h2, r⟩ := r.first (told_str Try.underlying9)
 obtain rfl := r.last
 exact ⟨⟨v0, v1, v2⟩, rfl, h0, h1, h2⟩
def BagTurns_law : Prop := ∀ (a0 : (List (List T_law08_Value))) (a1 : (List (List T_law08_Value))) (a2 : (List (List T_law08_Value))), (fun l : List (List T_law08_Value) => l.length <= maxLen /\ ∀ v ∈ l, (fun l : List T_law08_Value => l.length <= maxLen /\ ∀ v ∈ l, R_law08_Value_130 v) v) a0 -> (fun l : List (List T_law08_Value) => l.length <= maxLen /\ ∀ v ∈ l, (fun l : List T_law08_Value => l.length <= maxLen /\ ∀ v ∈ l, R_law08_Value_130 v) v) a1 -> (fun l : List (List T_law08_Value) => l.length <= maxLen /\ ∀ v ∈ l, (fun l : List T_law08_Value => l.length <= maxLen /\ ∀ v ∈ l, R_law08_Value_130 v) v) a2 -> law08_BagTurns_o a0 a1 a2 true
set_option maxRecDepth 100000 in
theorem BagTurns_pure {a0 : (List (List T_law08_Value))} {a1 : (List (List T_law08_Value))} {a2 : (List (List T_law08_Value))} (h : law08_BagTurns_o a0 a1 a2 true) : Pure Try.prog 3 [slA (eSl e_law08_Value) a0, slA (eSl e_law08_Value) a1, slA (eSl e_law08_Value) a2] (.bl true) := by
 have e : Pure Try.prog law08_BagTurns_sp.f (pencs CC law08_BagTurns_sp.ps [.d (.v 22 a0), .d (.v 22 a1), .d (.v 22 a2)]) (tresA (([.v 4 true] : List (DV KK)).map (dvA CC))) = Pure Try.prog 3 [slA (eSl e_law08_Value) a0, slA (eSl e_law08_Value) a1, slA (eSl e_law08_Value) a2] (.bl true) := by kernel_rfl
 have w : law08_BagTurns_sp.W [.d (.v 22 a0), .d (.v 22 a1), .d (.v 22 a2)] [.v 4 true] = law08_BagTurns_o a0 a1 a2 true := by kernel_rfl
 exact e.mp (law08_BagTurns_ok _ _ (fun F h => by simp at h) (w.mpr h)).2
end Go.Proofs.Ytkmehmgocelkiaa
end
noncomputable section
namespace Go.Proofs.Ytkmehmgocelkiaa
open Go.AV Go.RowKit
theorem srt_comm (a b : List Rw) : srt lt7 [] (a ++ b) = srt lt7 [] (b ++ a) := srt_pp lt7_ord List.perm_append_comm
theorem Gd.srt {l : List Rw} (h : Gd l) : Gd (srt lt7 [] l) := fun y hy => h y ((srt0_perm l).subset hy)
theorem Gd.app {a b : List Rw} (h : Gd a) (k : Gd b) : Gd (a ++ b) := fun y hy => (List.mem_append.1 hy).elim (h y) (k y)
theorem BagTurns_plain {a0 a1 a2 : List (List LV)} (h0 : LLOk a0) (h1 : LLOk a1) (h2 : LLOk a2) : law08_BagTurns_o a0 a1 a2 true := by
 apply law08_BagTurns_i
 refine ⟨_, pSpeaks, cnd_of_false rfl ⟨_, _, pRowsL h0, _, _, pRowsL h1, _, _, pRowsL h2, fun _ => ?_⟩⟩
 have gx := rowsL_gd h0
 have gy := rowsL_gd h1
 have gz := rowsL_gd h2
 have lx := rowsL_len a0
 have ly := rowsL_len a1
 have lz := rowsL_len a2
 generalize rowsL a0 = x at *
 generalize rowsL a1 = y at *
 generalize rowsL a2 = z at *
 rw [show IntKind.i64.wrap ((x.length : Int) - (1 : Int)) = (x.length : Int) - 1 from wrap64 (by omega) (by omega)]
 refine lp2 (fun (i : Int) (d : List Rw) => ∃ A B, x = A ++ B /\ i = (A.length : Int) - 1 /\ d = B.reverse) (fun i _ => (i + 1).toNat) ?_ ⟨x, [], by simp, rfl, rfl⟩
 rintro X i d ⟨A, B, e, rfl, rfl⟩ ih
 have hll : x.length = A.length + B.length := by rw [e]; simp
 unfold law08_BagTurns_L1i
 rcases snoc_cases A with rfl | ⟨A0, p, rfl⟩
 ·refine cnd_of_false (by simp) ?_
  have eB : x = B := by rw [e]; rfl
  subst eB
  have sx := srt0_len lt7 x
  have sy := srt0_len lt7 y
  have sz := srt0_len lt7 z
  have gR : Gd x.reverse := fun q hq => gx q (List.mem_reverse.1 hq)
  have pp : ∀ l : List Rw, l.length <= 39 -> Gd l -> bag_Of_o l ⟨srt lt7 [] l⟩ := fun l h g => pOf h g.sh
  have plus : ∀ l : List Bg, l.length <= 1000 -> (l.flatMap (·.rows)).length <= 39 -> Gd (l.flatMap (·.rows)) -> bag_Plus_o l ⟨srt lt7 [] (l.flatMap (·.rows))⟩ := fun l h k g => pPlus h k g.sh
  have same : ∀ (a b : List Rw), a.length ≤ 1000 → Gd a → a = b → bag_Same_o ⟨a⟩ ⟨b⟩ true := by
   intro a b h g e
   have := pSameB (a := ⟨a⟩) (b := ⟨b⟩) h g.sh
   rw [show decide ((⟨a⟩ : Bg).rows = (⟨b⟩ : Bg).rows) = true from decide_eq_true e] at this
   exact this
  have g12 : Gd (srt lt7 [] x ++ srt lt7 [] y) := gx.srt.app gy.srt
  have g123 : Gd (srt lt7 [] x ++ (srt lt7 [] y ++ srt lt7 [] z)) := gx.srt.app (gy.srt.app gz.srt)
  refine ⟨_, pp x (by omega) gx, _, pp y (by omega) gy, _, pp z (by omega) gz, _, pp x.reverse (by simp; omega) gR, true, ?_, cnd_of_true rfl ?_⟩
  ·exact same _ _ (by omega) gx.srt (srt_pp lt7_ord (List.reverse_perm x))
  ·refine ⟨⟨srt lt7 [] (srt lt7 [] x ++ srt lt7 [] y)⟩, ?_, ⟨srt lt7 [] (srt lt7 [] (srt lt7 [] x ++ srt lt7 [] y) ++ srt lt7 [] z)⟩, ?_, ⟨srt lt7 [] (srt lt7 [] y ++ srt lt7 [] x)⟩, ?_, ⟨srt lt7 [] (srt lt7 [] z ++ srt lt7 [] (srt lt7 [] y ++ srt lt7 [] x))⟩, ?_, true, ?_, cnd_of_true rfl ?_⟩
   ·have := plus [⟨srt lt7 [] x⟩, ⟨srt lt7 [] y⟩] (by simp) (by simp [sx, sy]; omega) (by simpa using g12)
    simpa using this
   ·have := plus [⟨srt lt7 [] (srt lt7 [] x ++ srt lt7 [] y)⟩, ⟨srt lt7 [] z⟩] (by simp) (by simp [srt0_len]; omega) (by simpa using g12.srt.app gz.srt)
    simpa using this
   ·have := plus [⟨srt lt7 [] y⟩, ⟨srt lt7 [] x⟩] (by simp) (by simp [sx, sy]; omega) (by simpa using gy.srt.app gx.srt)
    simpa using this
   ·have := plus [⟨srt lt7 [] z⟩, ⟨srt lt7 [] (srt lt7 [] y ++ srt lt7 [] x)⟩] (by simp) (by simp [srt0_len]; omega) (by simpa using gz.srt.app (gy.srt.app gx.srt).srt)
    simpa using this
   ·refine same _ _ (by simp [srt0_len]; omega) (g12.srt.app gz.srt).srt ?_
    rw [srt_comm (srt lt7 [] (srt lt7 [] x ++ srt lt7 [] y)), srt_comm (srt lt7 [] x)]
   ·refine ⟨⟨srt lt7 [] x⟩, ?_, true, same _ _ (by omega) gx.srt rfl, cnd_of_true rfl ⟨⟨srt lt7 [] (srt lt7 [] x ++ (srt lt7 [] y ++ srt lt7 [] z))⟩, ?_, _, pLen _, ?_⟩⟩
    ·have := plus [⟨srt lt7 [] x⟩, ⟨[]⟩] (by simp) (by simp [sx]; omega) (by simpa using gx.srt)
     have e2 : srt lt7 [] (srt lt7 [] x) = srt lt7 [] x := srt_id lt7_ord (srt0_sd lt7_ord x)
     simpa [e2] using this
    ·have := plus [⟨srt lt7 [] x⟩, ⟨srt lt7 [] y⟩, ⟨srt lt7 [] z⟩] (by simp) (by simp [sx, sy, sz]; omega) (by simpa using g123)
     simpa using this
    ·have l3 : (srt lt7 [] (srt lt7 [] x ++ (srt lt7 [] y ++ srt lt7 [] z))).length = x.length + (y.length + z.length) := by simp [srt0_len]
     show ((((srt lt7 [] (srt lt7 [] x ++ (srt lt7 [] y ++ srt lt7 [] z))).length : Nat) : Int) == _) = true
     rw [l3, wrap64 (n := (x.length : Int) + y.length) (by omega) (by omega), wrap64 (by omega) (by omega)]
     simp <;> omega
 ·have hlA : (A0 ++ [p]).length = A0.length + 1 := by simp
  have gp : x[A0.length]? = some p := by rw [e, List.append_assoc]; exact get_mid _ _ _
  refine cnd_of_true (by simp <;> omega) ⟨by omega, by omega, p, by rw [show (((A0 ++ [p]).length : Int) - 1).toNat = A0.length by omega]; exact gp, by simp; omega, ?_⟩
  rw [show IntKind.i64.wrap (((A0 ++ [p]).length : Int) - 1 - 1) = (A0.length : Int) - 1 by rw [wrap64 (by omega) (by omega)]; omega]
  exact ih _ _ ⟨A0, p :: B, by rw [e]; simp, rfl, by simp⟩ (by omega)
theorem okL {l : List LV} (h : l.length ≤ maxLen ∧ ∀ v ∈ l, R_law08_Value_130 v) : ∀ x ∈ l, LOk x := by
 intro x hx
 have := h.2 x hx
 unfold R_law08_Value_130 at this
 have a := wfu8.1 this.1
 have b := wfu8.1 this.2.1
 exact ⟨a.1, a.2, b.1, b.2⟩
theorem okLL {l : List (List LV)} (h : l.length <= maxLen /\ ∀ r ∈ l, r.length <= maxLen /\ ∀ v ∈ r, R_law08_Value_130 v) : LLOk l := fun r hr => okL (h.2 r hr)
theorem BagTurns_true : BagTurns_law := fun _ _ _ h0 h1 h2 => BagTurns_plain (okLL h0) (okLL h1) (okLL h2)
end Go.Proofs.Ytkmehmgocelkiaa
end
