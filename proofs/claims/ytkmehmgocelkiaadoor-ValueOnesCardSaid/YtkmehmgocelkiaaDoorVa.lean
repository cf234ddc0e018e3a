/-
  What the functions come to, as relations of plain data, and that the program does so. (Written by a program of mine, wip/gen2.py.)
-/
import Derived.Test.YtkmehmgocelkiaaDoorCode
import Derived.Test.YtkmehmgocelkiaaDoorDnG
import Derived.KernelRfl
import Derived.Test.YtkmehmgocelkiaaDoorSh
import Derived.Test.YtkmehmgocelkiaaDoorShelf
namespace Go.Proofs.YtkmehmgocelkiaaDoor
open Go.AV Go.RowKit

structure T_law06_Value where
  Kind : Int
  N : Int
  S : Str

structure T_value_Value where
  Kind : Int
  N : Int
  S : Str

structure T_ref06_Value where
  Kind : Int
  N : Int
  S : Str

structure T_law06_Pair where
  X : T_law06_Value
  Y : T_law06_Value
  A : Int
  B : Int

inductive TC where
  | c0
  | c2
  | c3
  | c4
  | c5
  | c9
  | c23
  | c26
  | c27
  | c30
  | c40
  | c100
  | c107
def KF : TC → Type
  | .c0 => Unit
  | .c2 => Int
  | .c3 => Int
  | .c4 => Bool
  | .c5 => Int
  | .c9 => Str
  | .c23 => T_law06_Value
  | .c26 => T_value_Value
  | .c27 => T_ref06_Value
  | .c30 => Int
  | .c40 => T_law06_Pair
  | .c100 => Int
  | .c107 => (List Int)
def codes : List (Nat × TC) := [(2, .c2), (3, .c3), (4, .c4), (5, .c5), (9, .c9), (23, .c23), (26, .c26), (27, .c27), (30, .c30), (40, .c40), (100, .c100), (107, .c107)]
def code (t : Nat) : TC := lkC .c0 codes t
abbrev KK (t : Nat) : Type := KF (code t)
noncomputable def e_law06_Value : Enc T_law06_Value := encIso ((tbCat (tbI .u8) (tbCat (tbI .i64) tbS)) : Tb KK _).E (fun x : T_law06_Value => (x.Kind, x.N, x.S))
noncomputable def b23 : Tb KK T_law06_Value := tbIso (tbCat (tbI .u8) (tbCat (tbI .i64) tbS)) (fun x : T_law06_Value => (x.Kind, x.N, x.S)) (fun y => (⟨y.1, y.2.1, y.2.2⟩ : T_law06_Value)) e_law06_Value
noncomputable def e_value_Value : Enc T_value_Value := encIso ((tbCat (tbI .i64) (tbCat (tbI .i64) tbS)) : Tb KK _).E (fun x : T_value_Value => (x.Kind, x.N, x.S))
noncomputable def b26 : Tb KK T_value_Value := tbIso (tbCat (tbI .i64) (tbCat (tbI .i64) tbS)) (fun x : T_value_Value => (x.Kind, x.N, x.S)) (fun y => (⟨y.1, y.2.1, y.2.2⟩ : T_value_Value)) e_value_Value
noncomputable def e_ref06_Value : Enc T_ref06_Value := encIso ((tbCat (tbI .i64) (tbCat (tbI .i64) tbS)) : Tb KK _).E (fun x : T_ref06_Value => (x.Kind, x.N, x.S))
noncomputable def b27 : Tb KK T_ref06_Value := tbIso (tbCat (tbI .i64) (tbCat (tbI .i64) tbS)) (fun x : T_ref06_Value => (x.Kind, x.N, x.S)) (fun y => (⟨y.1, y.2.1, y.2.2⟩ : T_ref06_Value)) e_ref06_Value
noncomputable def e_law06_Pair : Enc T_law06_Pair := encIso ((tbCat b23 (tbCat b23 (tbCat (tbI .i64) (tbI .i64)))) : Tb KK _).E (fun x : T_law06_Pair => (x.X, x.Y, x.A, x.B))
noncomputable def b40 : Tb KK T_law06_Pair := tbIso (tbCat b23 (tbCat b23 (tbCat (tbI .i64) (tbI .i64)))) (fun x : T_law06_Pair => (x.X, x.Y, x.A, x.B)) (fun y => (⟨y.1, y.2.1, y.2.2.1, y.2.2.2⟩ : T_law06_Pair)) e_law06_Pair
noncomputable def TF : (c : TC) → Tb KK (KF c)
  | .c0 => tbU
  | .c2 => (tbI .i64)
  | .c3 => (tbI .i64)
  | .c4 => tbB
  | .c5 => (tbI .u8)
  | .c9 => tbS
  | .c23 => b23
  | .c26 => b26
  | .c27 => b27
  | .c30 => (tbI .i64)
  | .c40 => b40
  | .c100 => (tbI .u64)
  | .c107 => (tbL 3 (eI .i64) : Tb KK (List Int))
noncomputable def CC : Cx KK := @cxOf TC KF code TF
theorem b23_ok : TbOk Tryd.prog CC b23 := tbIso_ok (tbCat_ok (tbI_ok _) (tbCat_ok (tbI_ok _) tbS_ok)) (fun y => rfl) (fun x => rfl)
theorem dw_law06_Value : ∀ x, dwks (e_law06_Value.c x) = e_law06_Value.c x := b23_ok.dw
theorem b26_ok : TbOk Tryd.prog CC b26 := tbIso_ok (tbCat_ok (tbI_ok _) (tbCat_ok (tbI_ok _) tbS_ok)) (fun y => rfl) (fun x => rfl)
theorem dw_value_Value : ∀ x, dwks (e_value_Value.c x) = e_value_Value.c x := b26_ok.dw
theorem b27_ok : TbOk Tryd.prog CC b27 := tbIso_ok (tbCat_ok (tbI_ok _) (tbCat_ok (tbI_ok _) tbS_ok)) (fun y => rfl) (fun x => rfl)
theorem dw_ref06_Value : ∀ x, dwks (e_ref06_Value.c x) = e_ref06_Value.c x := b27_ok.dw
theorem b40_ok : TbOk Tryd.prog CC b40 := tbIso_ok (tbCat_ok b23_ok (tbCat_ok b23_ok (tbCat_ok (tbI_ok _) (tbI_ok _)))) (fun y => rfl) (fun x => rfl)
theorem dw_law06_Pair : ∀ x, dwks (e_law06_Pair.c x) = e_law06_Pair.c x := b40_ok.dw
theorem CC_ok : CxOk Tryd.prog CC := @cxOf_ok TC KF code _ TF fun c => match c with
  | .c0 => tbU_ok
  | .c2 => (tbI_ok _)
  | .c3 => (tbI_ok _)
  | .c4 => tbB_ok
  | .c5 => (tbI_ok _)
  | .c9 => tbS_ok
  | .c23 => b23_ok
  | .c26 => b26_ok
  | .c27 => b27_ok
  | .c30 => (tbI_ok _)
  | .c40 => b40_ok
  | .c100 => (tbI_ok _)
  | .c107 => (tbL_ok _ rfl (fun _ => rfl))

def value_OfInt_o (a0 : Int) (r0 : T_value_Value) : Prop :=
  (⟨(2 : Int), a0, ([] : Str)⟩ : T_value_Value) = r0
noncomputable def value_OfInt_sp : Sp KK := ⟨18, [.v 2], [26], appW (K := KK) [26] [.v 2] value_OfInt_o⟩
noncomputable def value_OfInt_an : An KK := (.s .o (.s .o .o))
noncomputable def value_OfInt_cf : Cf KK := ⟨CC, [], 5⟩

set_option maxRecDepth 100000 in
theorem value_OfInt_ok : SpOk Tryd.prog CC value_OfInt_sp := by
  intro env r hF h
  obtain ⟨a0, env0, rfl, h1⟩ := appW_v h
  obtain ⟨rfl, h2⟩ := appW_n h1
  obtain ⟨r0, rr0, rfl, h3⟩ := apR_v h2
  obtain ⟨rfl, h4⟩ := apR_n h3
  refine ⟨rfl, DnF_by (F := value_OfInt_cf) CC_ok SsOk_n t18 (A := value_OfInt_an) (ps := [.v 2]) (rs := [26]) (env := [.d (.v 2 a0)]) (r := [.v 26 r0]) (X := value_OfInt_o a0 r0) rfl (Nat.le_of_ble_eq_true rfl) rfl hF h4 ?_⟩
  kernel_rfl

def value_takes_J2 (r0 : Int) (x2 : Bool) : Prop :=
  cnd x2 ((1 : Int) = r0) ((0 : Int) = r0)
def value_takes_J1 (r0 : Int) (a0 : Int) (x1 : Bool) : Prop :=
  cnd x1 ((2 : Int) = r0) (cnd (a0 == (12 : Int)) ((3 : Int) = r0) (∀ J2 : Bool → Prop, (∀ (x2 : Bool), value_takes_J2 r0 x2 → J2 x2) → cnd (a0 == (13 : Int)) (J2 true) (J2 (a0 == (14 : Int)))))
def value_takes_o (a0 : Int) (r0 : Int) : Prop :=
  ∀ J1 : Bool → Prop, (∀ (x1 : Bool), value_takes_J1 r0 a0 x1 → J1 x1) → cnd (decide ((7 : Int) ≤ a0)) (J1 (decide (a0 ≤ (11 : Int)))) (J1 false)
def value_takes_J2i (r0 : Int) (x2 : Bool) : Prop :=
  cnd x2 ((1 : Int) = r0) ((0 : Int) = r0)
def value_takes_J1i (a0 : Int) (r0 : Int) (x1 : Bool) : Prop :=
  cnd x1 ((2 : Int) = r0) (cnd (a0 == (12 : Int)) ((3 : Int) = r0) (cnd (a0 == (13 : Int)) (value_takes_J2i r0 true) (value_takes_J2i r0 (a0 == (14 : Int)))))
def value_takes_oi (a0 : Int) (r0 : Int) : Prop :=
  cnd (decide ((7 : Int) ≤ a0)) (value_takes_J1i a0 r0 (decide (a0 ≤ (11 : Int)))) (value_takes_J1i a0 r0 false)
theorem value_takes_J2_m (r0 : Int) {x2 : Bool} (h : value_takes_J2i r0 x2) : value_takes_J2 r0 x2 := by
  unfold value_takes_J2
  unfold value_takes_J2i at h
  exact h
theorem value_takes_J1_m (a0 : Int) (r0 : Int) {x1 : Bool} (h : value_takes_J1i a0 r0 x1) : value_takes_J1 r0 a0 x1 := by
  unfold value_takes_J1
  unfold value_takes_J1i at h
  refine cnd_mono h (fun h => ?_) (fun h => ?_)
  · exact h
  · refine cnd_mono h (fun h => ?_) (fun h => ?_)
    · exact h
    · intro J2 kJ2
      have hJ2 : ∀ (x2 : Bool), value_takes_J2i r0 x2 → J2 x2 := fun x2 q => kJ2 x2 (value_takes_J2_m r0 q)
      refine cnd_mono h (fun h => ?_) (fun h => ?_)
      · exact hJ2 _ h
      · exact hJ2 _ h
theorem value_takes_i (a0 : Int) (r0 : Int) (h : value_takes_oi a0 r0) : value_takes_o a0 r0 := by
  unfold value_takes_o
  unfold value_takes_oi at h
  intro J1 kJ1
  have hJ1 : ∀ (x1 : Bool), value_takes_J1i a0 r0 x1 → J1 x1 := fun x1 q => kJ1 x1 (value_takes_J1_m a0 r0 q)
  refine cnd_mono h (fun h => ?_) (fun h => ?_)
  · exact hJ1 _ h
  · exact hJ1 _ h
noncomputable def value_takes_sp : Sp KK := ⟨65, [.v 3], [3], appW (K := KK) [3] [.v 3] value_takes_o⟩
noncomputable def value_takes_an : An KK := (.s .o (.s (.b (.j ⟨[(0, .kp 2), (3, .bl)], [], []⟩ .o (fun _ => (.c (.s .o .o) (.s .o (.c (.s .o .o) (.j ⟨[(13, .bl)], [], []⟩ .o (fun _ => (.c (.s .o .o) .o))))))))) (.s .o .o)))
noncomputable def value_takes_cf : Cf KK := ⟨CC, [], 20⟩

set_option maxRecDepth 100000 in
theorem value_takes_ok : SpOk Tryd.prog CC value_takes_sp := by
  intro env r hF h
  obtain ⟨a0, env0, rfl, h1⟩ := appW_v h
  obtain ⟨rfl, h2⟩ := appW_n h1
  obtain ⟨r0, rr0, rfl, h3⟩ := apR_v h2
  obtain ⟨rfl, h4⟩ := apR_n h3
  refine ⟨rfl, DnF_by (F := value_takes_cf) CC_ok SsOk_n t65 (A := value_takes_an) (ps := [.v 3]) (rs := [3]) (env := [.d (.v 3 a0)]) (r := [.v 3 r0]) (X := value_takes_o a0 r0) rfl (Nat.le_of_ble_eq_true rfl) rfl hF h4 ?_⟩
  kernel_rfl

def value_Value_none_o (a0 : T_value_Value) (r0 : Bool) : Prop :=
  (a0.Kind == (0 : Int)) = r0
noncomputable def value_Value_none_sp : Sp KK := ⟨42, [.v 26], [4], appW (K := KK) [4] [.v 26] value_Value_none_o⟩
noncomputable def value_Value_none_an : An KK := (.s .o (.s .o .o))
noncomputable def value_Value_none_cf : Cf KK := ⟨CC, [], 6⟩

set_option maxRecDepth 100000 in
theorem value_Value_none_ok : SpOk Tryd.prog CC value_Value_none_sp := by
  intro env r hF h
  obtain ⟨a0, env0, rfl, h1⟩ := appW_v h
  obtain ⟨rfl, h2⟩ := appW_n h1
  obtain ⟨r0, rr0, rfl, h3⟩ := apR_v h2
  obtain ⟨rfl, h4⟩ := apR_n h3
  refine ⟨rfl, DnF_by (F := value_Value_none_cf) CC_ok SsOk_n t42 (A := value_Value_none_an) (ps := [.v 26]) (rs := [4]) (env := [.d (.v 26 a0)]) (r := [.v 4 r0]) (X := value_Value_none_o a0 r0) rfl (Nat.le_of_ble_eq_true rfl) rfl hF h4 ?_⟩
  kernel_rfl

def value_fit_J1 (r0 : Bool) (x4 : Bool) : Prop :=
  x4 = r0
def value_fit_o (a0 : Int) (a1 : T_value_Value) (a2 : T_value_Value) (r0 : Bool) : Prop :=
  ∃ z1 : Int, (value_takes_o a0 z1) ∧ cnd (z1 == (0 : Int)) (∃ z2 : Bool, (value_Value_none_o a1 z2) ∧ cnd z2 (true = r0) (∃ z3 : Bool, (value_Value_none_o a2 z3) ∧ cnd z3 (true = r0) ((a1.Kind == a2.Kind) = r0))) (∀ J1 : Bool → Prop, (∀ (x4 : Bool), value_fit_J1 r0 x4 → J1 x4) → ∃ z5 : Bool, (value_Value_none_o a1 z5) ∧ cnd z5 (∃ z6 : Bool, (value_Value_none_o a2 z6) ∧ cnd z6 (J1 true) (J1 (a2.Kind == z1))) (cnd (a1.Kind == z1) (∃ z7 : Bool, (value_Value_none_o a2 z7) ∧ cnd z7 (J1 true) (J1 (a2.Kind == z1))) (J1 false)))
def value_fit_J1i (r0 : Bool) (x4 : Bool) : Prop :=
  x4 = r0
def value_fit_oi (a0 : Int) (a1 : T_value_Value) (a2 : T_value_Value) (r0 : Bool) : Prop :=
  ∃ z1 : Int, (value_takes_o a0 z1) ∧ cnd (z1 == (0 : Int)) (∃ z2 : Bool, (value_Value_none_o a1 z2) ∧ cnd z2 (true = r0) (∃ z3 : Bool, (value_Value_none_o a2 z3) ∧ cnd z3 (true = r0) ((a1.Kind == a2.Kind) = r0))) (∃ z5 : Bool, (value_Value_none_o a1 z5) ∧ cnd z5 (∃ z6 : Bool, (value_Value_none_o a2 z6) ∧ cnd z6 (value_fit_J1i r0 true) (value_fit_J1i r0 (a2.Kind == z1))) (cnd (a1.Kind == z1) (∃ z7 : Bool, (value_Value_none_o a2 z7) ∧ cnd z7 (value_fit_J1i r0 true) (value_fit_J1i r0 (a2.Kind == z1))) (value_fit_J1i r0 false)))
theorem value_fit_J1_m (r0 : Bool) {x4 : Bool} (h : value_fit_J1i r0 x4) : value_fit_J1 r0 x4 := by
  unfold value_fit_J1
  unfold value_fit_J1i at h
  exact h
theorem value_fit_i (a0 : Int) (a1 : T_value_Value) (a2 : T_value_Value) (r0 : Bool) (h : value_fit_oi a0 a1 a2 r0) : value_fit_o a0 a1 a2 r0 := by
  unfold value_fit_o
  unfold value_fit_oi at h
  obtain ⟨z1, h⟩ := h
  refine ⟨z1, ?_⟩
  obtain ⟨h0, h⟩ := h
  refine ⟨h0, ?_⟩
  refine cnd_mono h (fun h => ?_) (fun h => ?_)
  · exact h
  · intro J1 kJ1
    have hJ1 : ∀ (x4 : Bool), value_fit_J1i r0 x4 → J1 x4 := fun x4 q => kJ1 x4 (value_fit_J1_m r0 q)
    obtain ⟨z5, h⟩ := h
    refine ⟨z5, ?_⟩
    obtain ⟨h0, h⟩ := h
    refine ⟨h0, ?_⟩
    refine cnd_mono h (fun h => ?_) (fun h => ?_)
    · obtain ⟨z6, h⟩ := h
      refine ⟨z6, ?_⟩
      obtain ⟨h0, h⟩ := h
      refine ⟨h0, ?_⟩
      refine cnd_mono h (fun h => ?_) (fun h => ?_)
      · exact hJ1 _ h
      · exact hJ1 _ h
    · refine cnd_mono h (fun h => ?_) (fun h => ?_)
      · obtain ⟨z7, h⟩ := h
        refine ⟨z7, ?_⟩
        obtain ⟨h0, h⟩ := h
        refine ⟨h0, ?_⟩
        refine cnd_mono h (fun h => ?_) (fun h => ?_)
        · exact hJ1 _ h
        · exact hJ1 _ h
      · exact hJ1 _ h
noncomputable def value_fit_sp : Sp KK := ⟨40, [.v 3, .v 26, .v 26], [4], appW (K := KK) [4] [.v 3, .v 26, .v 26] value_fit_o⟩
noncomputable def value_fit_an : An KK := (.s .o (.s .o (.s (.s .o (.c (.s .o .o) .o)) (.j ⟨[(6, .bl)], [], []⟩ .o (fun _ => .o)))))
noncomputable def value_fit_cf : Cf KK := ⟨CC, [value_takes_sp, value_Value_none_sp], 43⟩

set_option maxRecDepth 100000 in
theorem value_fit_ok : SpOk Tryd.prog CC value_fit_sp := by
  intro env r hF h
  obtain ⟨a0, env0, rfl, h1⟩ := appW_v h
  obtain ⟨a1, env1, rfl, h2⟩ := appW_v h1
  obtain ⟨a2, env2, rfl, h3⟩ := appW_v h2
  obtain ⟨rfl, h4⟩ := appW_n h3
  obtain ⟨r0, rr0, rfl, h5⟩ := apR_v h4
  obtain ⟨rfl, h6⟩ := apR_n h5
  refine ⟨rfl, DnF_by (F := value_fit_cf) CC_ok (SsOk_c value_takes_ok (SsOk_c value_Value_none_ok SsOk_n)) t40 (A := value_fit_an) (ps := [.v 3, .v 26, .v 26]) (rs := [4]) (env := [.d (.v 3 a0), .d (.v 26 a1), .d (.v 26 a2)]) (r := [.v 4 r0]) (X := value_fit_o a0 a1 a2 r0) rfl (Nat.le_of_ble_eq_true rfl) rfl hF h6 ?_⟩
  kernel_rfl

def value_OfBool_o (a0 : Bool) (r0 : T_value_Value) : Prop :=
  cnd a0 ((⟨(1 : Int), (1 : Int), ([] : Str)⟩ : T_value_Value) = r0) ((⟨(1 : Int), (0 : Int), ([] : Str)⟩ : T_value_Value) = r0)
noncomputable def value_OfBool_sp : Sp KK := ⟨16, [.v 4], [26], appW (K := KK) [26] [.v 4] value_OfBool_o⟩
noncomputable def value_OfBool_an : An KK := (.s .o (.s (.s .o (.c (.s .o .o) .o)) (.s .o .o)))
noncomputable def value_OfBool_cf : Cf KK := ⟨CC, [], 6⟩

set_option maxRecDepth 100000 in
theorem value_OfBool_ok : SpOk Tryd.prog CC value_OfBool_sp := by
  intro env r hF h
  obtain ⟨a0, env0, rfl, h1⟩ := appW_v h
  obtain ⟨rfl, h2⟩ := appW_n h1
  obtain ⟨r0, rr0, rfl, h3⟩ := apR_v h2
  obtain ⟨rfl, h4⟩ := apR_n h3
  refine ⟨rfl, DnF_by (F := value_OfBool_cf) CC_ok SsOk_n t16 (A := value_OfBool_an) (ps := [.v 4]) (rs := [26]) (env := [.d (.v 4 a0)]) (r := [.v 26 r0]) (X := value_OfBool_o a0 r0) rfl (Nat.le_of_ble_eq_true rfl) rfl hF h4 ?_⟩
  kernel_rfl

def value_logic_J2 (r0 : T_value_Value) (a0 : Bool) (x3 : Bool) : Prop :=
  cnd x3 ((⟨(0 : Int), (0 : Int), ([] : Str)⟩ : T_value_Value) = r0) (∃ z4 : T_value_Value, (value_OfBool_o (!a0) z4) ∧ z4 = r0)
def value_logic_J1 (z1 : T_value_Value) (r0 : T_value_Value) (a0 : Bool) (a1 : T_value_Value) (a2 : T_value_Value) (x2 : Bool) : Prop :=
  cnd x2 (z1 = r0) (∀ J2 : Bool → Prop, (∀ (x3 : Bool), value_logic_J2 r0 a0 x3 → J2 x3) → ∃ z5 : Bool, (value_Value_none_o a1 z5) ∧ cnd z5 (J2 true) (∃ z6 : Bool, (value_Value_none_o a2 z6) ∧ J2 z6))
def value_logic_o (a0 : Bool) (a1 : T_value_Value) (a2 : T_value_Value) (r0 : T_value_Value) : Prop :=
  ∃ z1 : T_value_Value, (value_OfBool_o a0 z1) ∧ ∀ J1 : Bool → Prop, (∀ (x2 : Bool), value_logic_J1 z1 r0 a0 a1 a2 x2 → J1 x2) → cnd ((a1.Kind == z1.Kind) && ((a1.N == z1.N) && ((a1.S == z1.S) && true))) (J1 true) (J1 ((a2.Kind == z1.Kind) && ((a2.N == z1.N) && ((a2.S == z1.S) && true))))
def value_logic_J2i (a0 : Bool) (r0 : T_value_Value) (x3 : Bool) : Prop :=
  cnd x3 ((⟨(0 : Int), (0 : Int), ([] : Str)⟩ : T_value_Value) = r0) (∃ z4 : T_value_Value, (value_OfBool_o (!a0) z4) ∧ z4 = r0)
def value_logic_J1i (a0 : Bool) (a1 : T_value_Value) (a2 : T_value_Value) (r0 : T_value_Value) (z1 : T_value_Value) (x2 : Bool) : Prop :=
  cnd x2 (z1 = r0) (∃ z5 : Bool, (value_Value_none_o a1 z5) ∧ cnd z5 (value_logic_J2i a0 r0 true) (∃ z6 : Bool, (value_Value_none_o a2 z6) ∧ value_logic_J2i a0 r0 z6))
def value_logic_oi (a0 : Bool) (a1 : T_value_Value) (a2 : T_value_Value) (r0 : T_value_Value) : Prop :=
  ∃ z1 : T_value_Value, (value_OfBool_o a0 z1) ∧ cnd ((a1.Kind == z1.Kind) && ((a1.N == z1.N) && ((a1.S == z1.S) && true))) (value_logic_J1i a0 a1 a2 r0 z1 true) (value_logic_J1i a0 a1 a2 r0 z1 ((a2.Kind == z1.Kind) && ((a2.N == z1.N) && ((a2.S == z1.S) && true))))
theorem value_logic_J2_m (a0 : Bool) (r0 : T_value_Value) {x3 : Bool} (h : value_logic_J2i a0 r0 x3) : value_logic_J2 r0 a0 x3 := by
  unfold value_logic_J2
  unfold value_logic_J2i at h
  exact h
theorem value_logic_J1_m (a0 : Bool) (a1 : T_value_Value) (a2 : T_value_Value) (r0 : T_value_Value) (z1 : T_value_Value) {x2 : Bool} (h : value_logic_J1i a0 a1 a2 r0 z1 x2) : value_logic_J1 z1 r0 a0 a1 a2 x2 := by
  unfold value_logic_J1
  unfold value_logic_J1i at h
  refine cnd_mono h (fun h => ?_) (fun h => ?_)
  · exact h
  · intro J2 kJ2
    have hJ2 : ∀ (x3 : Bool), value_logic_J2i a0 r0 x3 → J2 x3 := fun x3 q => kJ2 x3 (value_logic_J2_m a0 r0 q)
    obtain ⟨z5, h⟩ := h
    refine ⟨z5, ?_⟩
    obtain ⟨h0, h⟩ := h
    refine ⟨h0, ?_⟩
    refine cnd_mono h (fun h => ?_) (fun h => ?_)
    · exact hJ2 _ h
    · obtain ⟨z6, h⟩ := h
      refine ⟨z6, ?_⟩
      obtain ⟨h0, h⟩ := h
      refine ⟨h0, ?_⟩
      exact hJ2 _ h
theorem value_logic_i (a0 : Bool) (a1 : T_value_Value) (a2 : T_value_Value) (r0 : T_value_Value) (h : value_logic_oi a0 a1 a2 r0) : value_logic_o a0 a1 a2 r0 := by
  unfold value_logic_o
  unfold value_logic_oi at h
  obtain ⟨z1, h⟩ := h
  refine ⟨z1, ?_⟩
  obtain ⟨h0, h⟩ := h
  refine ⟨h0, ?_⟩
  intro J1 kJ1
  have hJ1 : ∀ (x2 : Bool), value_logic_J1i a0 a1 a2 r0 z1 x2 → J1 x2 := fun x2 q => kJ1 x2 (value_logic_J1_m a0 a1 a2 r0 z1 q)
  refine cnd_mono h (fun h => ?_) (fun h => ?_)
  · exact hJ1 _ h
  · exact hJ1 _ h
noncomputable def value_logic_sp : Sp KK := ⟨41, [.v 4, .v 26, .v 26], [26], appW (K := KK) [26] [.v 4, .v 26, .v 26] value_logic_o⟩
noncomputable def value_logic_an : An KK := (.s .o (.s (.s .o (.b (.j ⟨[(0, .kp 14), (4, .px 4 0), (5, .px 5 0), (6, .px 6 0), (7, .px 7 0), (10, .bl)], [(4, 26, [.kp 15, .kp 16, .kp 17]), (5, 26, [.kp 18, .kp 19, .kp 20]), (6, 26, [.kp 21, .kp 22, .kp 23]), (7, 26, [.kp 24, .kp 25, .kp 26])], []⟩ .o (fun _ => (.c (.s .o .o) (.j ⟨[(0, .kp 14), (6, .px 6 0), (20, .bl)], [(6, 26, [.kp 21, .kp 22, .kp 23])], []⟩ .o (fun _ => (.c (.s .o .o) .o)))))))) (.s .o .o)))
noncomputable def value_logic_cf : Cf KK := ⟨CC, [value_OfBool_sp, value_Value_none_sp], 31⟩

set_option maxRecDepth 100000 in
theorem value_logic_ok : SpOk Tryd.prog CC value_logic_sp := by
  intro env r hF h
  obtain ⟨a0, env0, rfl, h1⟩ := appW_v h
  obtain ⟨a1, env1, rfl, h2⟩ := appW_v h1
  obtain ⟨a2, env2, rfl, h3⟩ := appW_v h2
  obtain ⟨rfl, h4⟩ := appW_n h3
  obtain ⟨r0, rr0, rfl, h5⟩ := apR_v h4
  obtain ⟨rfl, h6⟩ := apR_n h5
  refine ⟨rfl, DnF_by (F := value_logic_cf) CC_ok (SsOk_c value_OfBool_ok (SsOk_c value_Value_none_ok SsOk_n)) t41 (A := value_logic_an) (ps := [.v 4, .v 26, .v 26]) (rs := [26]) (env := [.d (.v 4 a0), .d (.v 26 a1), .d (.v 26 a2)]) (r := [.v 26 r0]) (X := value_logic_o a0 a1 a2 r0) rfl (Nat.le_of_ble_eq_true rfl) rfl hF h6 ?_⟩
  kernel_rfl

def cmp_isNaN_int_o (a0 : Int) (r0 : Bool) : Prop :=
  (!(a0 == a0)) = r0
noncomputable def cmp_isNaN_int_sp : Sp KK := ⟨67, [.v 3], [4], appW (K := KK) [4] [.v 3] cmp_isNaN_int_o⟩
noncomputable def cmp_isNaN_int_an : An KK := (.s .o (.s .o .o))
noncomputable def cmp_isNaN_int_cf : Cf KK := ⟨CC, [], 6⟩

set_option maxRecDepth 100000 in
theorem cmp_isNaN_int_ok : SpOk Tryd.prog CC cmp_isNaN_int_sp := by
  intro env r hF h
  obtain ⟨a0, env0, rfl, h1⟩ := appW_v h
  obtain ⟨rfl, h2⟩ := appW_n h1
  obtain ⟨r0, rr0, rfl, h3⟩ := apR_v h2
  obtain ⟨rfl, h4⟩ := apR_n h3
  refine ⟨rfl, DnF_by (F := cmp_isNaN_int_cf) CC_ok SsOk_n t67 (A := cmp_isNaN_int_an) (ps := [.v 3]) (rs := [4]) (env := [.d (.v 3 a0)]) (r := [.v 4 r0]) (X := cmp_isNaN_int_o a0 r0) rfl (Nat.le_of_ble_eq_true rfl) rfl hF h4 ?_⟩
  kernel_rfl

def cmp_Compare_int_o (a0 : Int) (a1 : Int) (r0 : Int) : Prop :=
  ∃ z1 : Bool, (cmp_isNaN_int_o a0 z1) ∧ ∃ z2 : Bool, (cmp_isNaN_int_o a1 z2) ∧ cnd z1 (cnd z2 ((0 : Int) = r0) ((-1 : Int) = r0)) (cnd z2 ((1 : Int) = r0) (cnd (decide (a0 < a1)) ((-1 : Int) = r0) (cnd (decide (a1 < a0)) ((1 : Int) = r0) ((0 : Int) = r0))))
noncomputable def cmp_Compare_int_sp : Sp KK := ⟨49, [.v 3, .v 3], [3], appW (K := KK) [3] [.v 3, .v 3] cmp_Compare_int_o⟩
noncomputable def cmp_Compare_int_an : An KK := (.s .o (.s .o (.s .o (.s (.s .o (.c (.s (.s .o (.c (.s .o .o) .o)) (.s .o .o)) .o)) (.s (.s .o (.c (.s .o .o) .o)) (.s (.s .o (.c (.s .o .o) .o)) (.s (.s .o (.c (.s .o .o) .o)) (.s .o .o))))))))
noncomputable def cmp_Compare_int_cf : Cf KK := ⟨CC, [cmp_isNaN_int_sp], 20⟩

set_option maxRecDepth 100000 in
theorem cmp_Compare_int_ok : SpOk Tryd.prog CC cmp_Compare_int_sp := by
  intro env r hF h
  obtain ⟨a0, env0, rfl, h1⟩ := appW_v h
  obtain ⟨a1, env1, rfl, h2⟩ := appW_v h1
  obtain ⟨rfl, h3⟩ := appW_n h2
  obtain ⟨r0, rr0, rfl, h4⟩ := apR_v h3
  obtain ⟨rfl, h5⟩ := apR_n h4
  refine ⟨rfl, DnF_by (F := cmp_Compare_int_cf) CC_ok (SsOk_c cmp_isNaN_int_ok SsOk_n) t49 (A := cmp_Compare_int_an) (ps := [.v 3, .v 3]) (rs := [3]) (env := [.d (.v 3 a0), .d (.v 3 a1)]) (r := [.v 3 r0]) (X := cmp_Compare_int_o a0 a1 r0) rfl (Nat.le_of_ble_eq_true rfl) rfl hF h5 ?_⟩
  kernel_rfl

def cmp_isNaN_int64_o (a0 : Int) (r0 : Bool) : Prop :=
  (!(a0 == a0)) = r0
noncomputable def cmp_isNaN_int64_sp : Sp KK := ⟨68, [.v 2], [4], appW (K := KK) [4] [.v 2] cmp_isNaN_int64_o⟩
noncomputable def cmp_isNaN_int64_an : An KK := (.s .o (.s .o .o))
noncomputable def cmp_isNaN_int64_cf : Cf KK := ⟨CC, [], 6⟩

set_option maxRecDepth 100000 in
theorem cmp_isNaN_int64_ok : SpOk Tryd.prog CC cmp_isNaN_int64_sp := by
  intro env r hF h
  obtain ⟨a0, env0, rfl, h1⟩ := appW_v h
  obtain ⟨rfl, h2⟩ := appW_n h1
  obtain ⟨r0, rr0, rfl, h3⟩ := apR_v h2
  obtain ⟨rfl, h4⟩ := apR_n h3
  refine ⟨rfl, DnF_by (F := cmp_isNaN_int64_cf) CC_ok SsOk_n t68 (A := cmp_isNaN_int64_an) (ps := [.v 2]) (rs := [4]) (env := [.d (.v 2 a0)]) (r := [.v 4 r0]) (X := cmp_isNaN_int64_o a0 r0) rfl (Nat.le_of_ble_eq_true rfl) rfl hF h4 ?_⟩
  kernel_rfl

def cmp_Compare_int64_o (a0 : Int) (a1 : Int) (r0 : Int) : Prop :=
  ∃ z1 : Bool, (cmp_isNaN_int64_o a0 z1) ∧ ∃ z2 : Bool, (cmp_isNaN_int64_o a1 z2) ∧ cnd z1 (cnd z2 ((0 : Int) = r0) ((-1 : Int) = r0)) (cnd z2 ((1 : Int) = r0) (cnd (decide (a0 < a1)) ((-1 : Int) = r0) (cnd (decide (a1 < a0)) ((1 : Int) = r0) ((0 : Int) = r0))))
noncomputable def cmp_Compare_int64_sp : Sp KK := ⟨50, [.v 2, .v 2], [3], appW (K := KK) [3] [.v 2, .v 2] cmp_Compare_int64_o⟩
noncomputable def cmp_Compare_int64_an : An KK := (.s .o (.s .o (.s .o (.s (.s .o (.c (.s (.s .o (.c (.s .o .o) .o)) (.s .o .o)) .o)) (.s (.s .o (.c (.s .o .o) .o)) (.s (.s .o (.c (.s .o .o) .o)) (.s (.s .o (.c (.s .o .o) .o)) (.s .o .o))))))))
noncomputable def cmp_Compare_int64_cf : Cf KK := ⟨CC, [cmp_isNaN_int64_sp], 20⟩

set_option maxRecDepth 100000 in
theorem cmp_Compare_int64_ok : SpOk Tryd.prog CC cmp_Compare_int64_sp := by
  intro env r hF h
  obtain ⟨a0, env0, rfl, h1⟩ := appW_v h
  obtain ⟨a1, env1, rfl, h2⟩ := appW_v h1
  obtain ⟨rfl, h3⟩ := appW_n h2
  obtain ⟨r0, rr0, rfl, h4⟩ := apR_v h3
  obtain ⟨rfl, h5⟩ := apR_n h4
  refine ⟨rfl, DnF_by (F := cmp_Compare_int64_cf) CC_ok (SsOk_c cmp_isNaN_int64_ok SsOk_n) t50 (A := cmp_Compare_int64_an) (ps := [.v 2, .v 2]) (rs := [3]) (env := [.d (.v 2 a0), .d (.v 2 a1)]) (r := [.v 3 r0]) (X := cmp_Compare_int64_o a0 a1 r0) rfl (Nat.le_of_ble_eq_true rfl) rfl hF h5 ?_⟩
  kernel_rfl

def cmp_isNaN_string_o (a0 : Str) (r0 : Bool) : Prop :=
  (!(a0 == a0)) = r0
noncomputable def cmp_isNaN_string_sp : Sp KK := ⟨69, [.v 9], [4], appW (K := KK) [4] [.v 9] cmp_isNaN_string_o⟩
noncomputable def cmp_isNaN_string_an : An KK := (.s .o (.s .o .o))
noncomputable def cmp_isNaN_string_cf : Cf KK := ⟨CC, [], 6⟩

set_option maxRecDepth 100000 in
theorem cmp_isNaN_string_ok : SpOk Tryd.prog CC cmp_isNaN_string_sp := by
  intro env r hF h
  obtain ⟨a0, env0, rfl, h1⟩ := appW_v h
  obtain ⟨rfl, h2⟩ := appW_n h1
  obtain ⟨r0, rr0, rfl, h3⟩ := apR_v h2
  obtain ⟨rfl, h4⟩ := apR_n h3
  refine ⟨rfl, DnF_by (F := cmp_isNaN_string_cf) CC_ok SsOk_n t69 (A := cmp_isNaN_string_an) (ps := [.v 9]) (rs := [4]) (env := [.d (.v 9 a0)]) (r := [.v 4 r0]) (X := cmp_isNaN_string_o a0 r0) rfl (Nat.le_of_ble_eq_true rfl) rfl hF h4 ?_⟩
  kernel_rfl

def cmp_Compare_string_o (a0 : Str) (a1 : Str) (r0 : Int) : Prop :=
  ∃ z1 : Bool, (cmp_isNaN_string_o a0 z1) ∧ ∃ z2 : Bool, (cmp_isNaN_string_o a1 z2) ∧ cnd z1 (cnd z2 ((0 : Int) = r0) ((-1 : Int) = r0)) (cnd z2 ((1 : Int) = r0) (cnd (Op.bytesLess a0 a1) ((-1 : Int) = r0) (cnd (!(Op.bytesLess a0 a1 || a0 == a1)) ((1 : Int) = r0) ((0 : Int) = r0))))
noncomputable def cmp_Compare_string_sp : Sp KK := ⟨51, [.v 9, .v 9], [3], appW (K := KK) [3] [.v 9, .v 9] cmp_Compare_string_o⟩
noncomputable def cmp_Compare_string_an : An KK := (.s .o (.s .o (.s .o (.s (.s .o (.c (.s (.s .o (.c (.s .o .o) .o)) (.s .o .o)) .o)) (.s (.s .o (.c (.s .o .o) .o)) (.s (.s .o (.c (.s .o .o) .o)) (.s (.s .o (.c (.s .o .o) .o)) (.s .o .o))))))))
noncomputable def cmp_Compare_string_cf : Cf KK := ⟨CC, [cmp_isNaN_string_sp], 20⟩

set_option maxRecDepth 100000 in
theorem cmp_Compare_string_ok : SpOk Tryd.prog CC cmp_Compare_string_sp := by
  intro env r hF h
  obtain ⟨a0, env0, rfl, h1⟩ := appW_v h
  obtain ⟨a1, env1, rfl, h2⟩ := appW_v h1
  obtain ⟨rfl, h3⟩ := appW_n h2
  obtain ⟨r0, rr0, rfl, h4⟩ := apR_v h3
  obtain ⟨rfl, h5⟩ := apR_n h4
  refine ⟨rfl, DnF_by (F := cmp_Compare_string_cf) CC_ok (SsOk_c cmp_isNaN_string_ok SsOk_n) t51 (A := cmp_Compare_string_an) (ps := [.v 9, .v 9]) (rs := [3]) (env := [.d (.v 9 a0), .d (.v 9 a1)]) (r := [.v 3 r0]) (X := cmp_Compare_string_o a0 a1 r0) rfl (Nat.le_of_ble_eq_true rfl) rfl hF h5 ?_⟩
  kernel_rfl

def cmp_Or_int_L1 (a0 : (List Int)) (r0 : Int) (X1 : Int → Prop) (x1 : Int) : Prop :=
  cnd (decide (x1 < (a0.length : Int))) ((0 ≤ x1) ∧ (x1 < (a0.length : Int)) ∧ ∃ y2 : Int, (a0[x1.toNat]? = some y2) ∧ cnd (!(y2 == (0 : Int))) (y2 = r0) (X1 (IntKind.i64.wrap (x1 + (1 : Int))))) ((0 : Int) = r0)
def cmp_Or_int_o (a0 : (List Int)) (r0 : Int) : Prop :=
  (a0.length ≤ maxLen → ∀ X1 : Int → Prop, (∀ (x1 : Int), cmp_Or_int_L1 a0 r0 X1 x1 → X1 x1) → X1 (0 : Int))
def cmp_Or_int_L1i (a0 : (List Int)) (r0 : Int) (X1 : Int → Prop) (x1 : Int) : Prop :=
  cnd (decide (x1 < (a0.length : Int))) ((0 ≤ x1) ∧ (x1 < (a0.length : Int)) ∧ ∃ y2 : Int, (a0[x1.toNat]? = some y2) ∧ cnd (!(y2 == (0 : Int))) (y2 = r0) (X1 (IntKind.i64.wrap (x1 + (1 : Int))))) ((0 : Int) = r0)
def cmp_Or_int_oi (a0 : (List Int)) (r0 : Int) : Prop :=
  (a0.length ≤ maxLen → ∀ X1 : Int → Prop, (∀ (x1 : Int), cmp_Or_int_L1i a0 r0 X1 x1 → X1 x1) → X1 (0 : Int))
theorem cmp_Or_int_L1_m (a0 : (List Int)) (r0 : Int) {X1 : Int → Prop} {x1 : Int} (h : cmp_Or_int_L1i a0 r0 X1 x1) : cmp_Or_int_L1 a0 r0 X1 x1 := by
  unfold cmp_Or_int_L1
  unfold cmp_Or_int_L1i at h
  exact h
theorem cmp_Or_int_i (a0 : (List Int)) (r0 : Int) (h : cmp_Or_int_oi a0 r0) : cmp_Or_int_o a0 r0 := by
  unfold cmp_Or_int_o
  unfold cmp_Or_int_oi at h
  intro c
  replace h := h c
  intro X1 k
  exact h X1 (fun x1 q => k x1 (cmp_Or_int_L1_m a0 r0 q))
noncomputable def cmp_Or_int_sp : Sp KK := ⟨48, [.v 107], [3], appW (K := KK) [3] [.v 107] cmp_Or_int_o⟩
noncomputable def cmp_Or_int_an : An KK := (.s .o (.s .o (.s (.s .o (.b (.l ⟨[(3, .kp 5), (6, .kp 6), (7, .kp 7), (8, .it .i64)], [], []⟩ (fun _ => (.s .o (.s (.c .o .o) (.s (.b (.s .o (.s .o (.c (.s .o .o) .o)))) .o))))))) (.s .o .o))))
noncomputable def cmp_Or_int_cf : Cf KK := ⟨CC, [], 18⟩

set_option maxRecDepth 100000 in
theorem cmp_Or_int_ok : SpOk Tryd.prog CC cmp_Or_int_sp := by
  intro env r hF h
  obtain ⟨a0, env0, rfl, h1⟩ := appW_v h
  obtain ⟨rfl, h2⟩ := appW_n h1
  obtain ⟨r0, rr0, rfl, h3⟩ := apR_v h2
  obtain ⟨rfl, h4⟩ := apR_n h3
  refine ⟨rfl, DnF_by (F := cmp_Or_int_cf) CC_ok SsOk_n t48 (A := cmp_Or_int_an) (ps := [.v 107]) (rs := [3]) (env := [.d (.v 107 a0)]) (r := [.v 3 r0]) (X := cmp_Or_int_o a0 r0) rfl (Nat.le_of_ble_eq_true rfl) rfl hF h4 ?_⟩
  kernel_rfl

def value_Compare_o (a0 : T_value_Value) (a1 : T_value_Value) (r0 : Int) : Prop :=
  ∃ z1 : Int, (cmp_Compare_int_o a0.Kind a1.Kind z1) ∧ ∃ z2 : Int, (cmp_Compare_int64_o a0.N a1.N z2) ∧ ∃ z3 : Int, (cmp_Compare_string_o a0.S a1.S z3) ∧ ∃ z4 : Int, (cmp_Or_int_o ([z1, z2, z3] : List Int) z4) ∧ z4 = r0
noncomputable def value_Compare_sp : Sp KK := ⟨15, [.v 26, .v 26], [3], appW (K := KK) [3] [.v 26, .v 26] value_Compare_o⟩
noncomputable def value_Compare_an : An KK := (.s .o (.s .o .o))
noncomputable def value_Compare_cf : Cf KK := ⟨CC, [cmp_Compare_int_sp, cmp_Compare_int64_sp, cmp_Compare_string_sp, cmp_Or_int_sp], 22⟩

set_option maxRecDepth 100000 in
theorem value_Compare_ok : SpOk Tryd.prog CC value_Compare_sp := by
  intro env r hF h
  obtain ⟨a0, env0, rfl, h1⟩ := appW_v h
  obtain ⟨a1, env1, rfl, h2⟩ := appW_v h1
  obtain ⟨rfl, h3⟩ := appW_n h2
  obtain ⟨r0, rr0, rfl, h4⟩ := apR_v h3
  obtain ⟨rfl, h5⟩ := apR_n h4
  refine ⟨rfl, DnF_by (F := value_Compare_cf) CC_ok (SsOk_c cmp_Compare_int_ok (SsOk_c cmp_Compare_int64_ok (SsOk_c cmp_Compare_string_ok (SsOk_c cmp_Or_int_ok SsOk_n)))) t15 (A := value_Compare_an) (ps := [.v 26, .v 26]) (rs := [3]) (env := [.d (.v 26 a0), .d (.v 26 a1)]) (r := [.v 3 r0]) (X := value_Compare_o a0 a1 r0) rfl (Nat.le_of_ble_eq_true rfl) rfl hF h5 ?_⟩
  kernel_rfl

def value_holds_o (a0 : Int) (a1 : Int) (r0 : Bool) : Prop :=
  cnd (a0 == (1 : Int)) ((a1 == (0 : Int)) = r0) (cnd (a0 == (2 : Int)) ((!(a1 == (0 : Int))) = r0) (cnd (a0 == (3 : Int)) ((decide (a1 < (0 : Int))) = r0) (cnd (a0 == (4 : Int)) ((decide (a1 ≤ (0 : Int))) = r0) (cnd (a0 == (5 : Int)) ((decide ((0 : Int) < a1)) = r0) ((decide ((0 : Int) ≤ a1)) = r0)))))
noncomputable def value_holds_sp : Sp KK := ⟨43, [.v 3, .v 3], [4], appW (K := KK) [4] [.v 3, .v 3] value_holds_o⟩
noncomputable def value_holds_an : An KK := (.s .o (.s (.s .o (.b (.s .o (.c (.s .o .o) (.s .o (.c (.s .o .o) (.s .o (.c (.s .o .o) (.s .o (.c (.s .o .o) (.s .o (.c (.s .o .o) .o)))))))))))) (.s .o .o)))
noncomputable def value_holds_cf : Cf KK := ⟨CC, [], 28⟩

set_option maxRecDepth 100000 in
theorem value_holds_ok : SpOk Tryd.prog CC value_holds_sp := by
  intro env r hF h
  obtain ⟨a0, env0, rfl, h1⟩ := appW_v h
  obtain ⟨a1, env1, rfl, h2⟩ := appW_v h1
  obtain ⟨rfl, h3⟩ := appW_n h2
  obtain ⟨r0, rr0, rfl, h4⟩ := apR_v h3
  obtain ⟨rfl, h5⟩ := apR_n h4
  refine ⟨rfl, DnF_by (F := value_holds_cf) CC_ok SsOk_n t43 (A := value_holds_an) (ps := [.v 3, .v 3]) (rs := [4]) (env := [.d (.v 3 a0), .d (.v 3 a1)]) (r := [.v 4 r0]) (X := value_holds_o a0 a1 r0) rfl (Nat.le_of_ble_eq_true rfl) rfl hF h5 ?_⟩
  kernel_rfl

def value_OfText_o (a0 : Str) (r0 : T_value_Value) : Prop :=
  (⟨(3 : Int), (0 : Int), a0⟩ : T_value_Value) = r0
noncomputable def value_OfText_sp : Sp KK := ⟨24, [.v 9], [26], appW (K := KK) [26] [.v 9] value_OfText_o⟩
noncomputable def value_OfText_an : An KK := (.s .o (.s .o .o))
noncomputable def value_OfText_cf : Cf KK := ⟨CC, [], 5⟩

set_option maxRecDepth 100000 in
theorem value_OfText_ok : SpOk Tryd.prog CC value_OfText_sp := by
  intro env r hF h
  obtain ⟨a0, env0, rfl, h1⟩ := appW_v h
  obtain ⟨rfl, h2⟩ := appW_n h1
  obtain ⟨r0, rr0, rfl, h3⟩ := apR_v h2
  obtain ⟨rfl, h4⟩ := apR_n h3
  refine ⟨rfl, DnF_by (F := value_OfText_cf) CC_ok SsOk_n t24 (A := value_OfText_an) (ps := [.v 9]) (rs := [26]) (env := [.d (.v 9 a0)]) (r := [.v 26 r0]) (X := value_OfText_o a0 r0) rfl (Nat.le_of_ble_eq_true rfl) rfl hF h4 ?_⟩
  kernel_rfl

def math_bits_Mul64_o (a0 : Int) (a1 : Int) (r0 : Int) (r1 : Int) : Prop := 0 ≤ a0 ∧ a0 < 18446744073709551616 ∧ 0 ≤ a1 ∧ a1 < 18446744073709551616 ∧ r0 = a0 * a1 / 18446744073709551616 ∧ r1 = a0 * a1 % 18446744073709551616
noncomputable def math_bits_Mul64_sp : Sp KK := ⟨81, [.v 100, .v 100], [100, 100], appW (K := KK) [100, 100] [.v 100, .v 100] math_bits_Mul64_o⟩

set_option maxRecDepth 100000 in
theorem math_bits_Mul64_p {a0 : Int} {a1 : Int} {r0 : Int} {r1 : Int} (h : math_bits_Mul64_o a0 a1 r0 r1) : AV.Pure Tryd.prog 81 [.it .u64 a0, .it .u64 a1] (.tup [.it .u64 r0, .it .u64 r1]) := by
  obtain ⟨q0, q1, q2, q3, rfl, rfl⟩ := h
  exact sh_Mul64 Tryd.func81 (by kernel_rfl) Tryd.bits_Mul64 q0 q1 q2 q3
set_option maxRecDepth 100000 in
theorem math_bits_Mul64_ok : SpOk Tryd.prog CC math_bits_Mul64_sp := by
  intro env r hF h
  obtain ⟨a0, env0, rfl, h1⟩ := appW_v h
  obtain ⟨a1, env1, rfl, h2⟩ := appW_v h1
  obtain ⟨rfl, h3⟩ := appW_n h2
  obtain ⟨r0, rr0, rfl, h4⟩ := apR_v h3
  obtain ⟨r1, rr1, rfl, h5⟩ := apR_v h4
  obtain ⟨rfl, h6⟩ := apR_n h5
  exact ⟨rfl, (math_bits_Mul64_p h6).congr (by kernel_rfl) (by kernel_rfl)⟩

def value_product_o (a0 : Int) (a1 : Int) (r0 : Int) (r1 : Bool) : Prop :=
  ∃ z1 : Int, ∃ z2 : Int, (math_bits_Mul64_o (IntKind.u64.wrap (if (IntKind.i64.wrap (0 - a0)) > a0 then (IntKind.i64.wrap (0 - a0)) else a0)) (IntKind.u64.wrap (if (IntKind.i64.wrap (0 - a1)) > a1 then (IntKind.i64.wrap (0 - a1)) else a1)) z1 z2) ∧ cnd (!((decide (a0 < (0 : Int))) == (decide (a1 < (0 : Int))))) (cnd (z1 == (0 : Int)) ((IntKind.i64.wrap (0 - (IntKind.i64.wrap z2))) = r0 ∧ (decide (z2 ≤ (9223372036854775808 : Int))) = r1) ((IntKind.i64.wrap (0 - (IntKind.i64.wrap z2))) = r0 ∧ false = r1)) (cnd (z1 == (0 : Int)) ((IntKind.i64.wrap z2) = r0 ∧ (decide (z2 ≤ (9223372036854775807 : Int))) = r1) ((IntKind.i64.wrap z2) = r0 ∧ false = r1))
noncomputable def value_product_sp : Sp KK := ⟨66, [.v 2, .v 2], [2, 4], appW (K := KK) [2, 4] [.v 2, .v 2] value_product_o⟩
noncomputable def value_product_an : An KK := (.s .o (.s .o (.s (.s .o (.c (.s .o .o) .o)) (.s .o .o))))
noncomputable def value_product_cf : Cf KK := ⟨CC, [math_bits_Mul64_sp], 44⟩

set_option maxRecDepth 100000 in
theorem value_product_ok : SpOk Tryd.prog CC value_product_sp := by
  intro env r hF h
  obtain ⟨a0, env0, rfl, h1⟩ := appW_v h
  obtain ⟨a1, env1, rfl, h2⟩ := appW_v h1
  obtain ⟨rfl, h3⟩ := appW_n h2
  obtain ⟨r0, rr0, rfl, h4⟩ := apR_v h3
  obtain ⟨r1, rr1, rfl, h5⟩ := apR_v h4
  obtain ⟨rfl, h6⟩ := apR_n h5
  refine ⟨rfl, DnF_by (F := value_product_cf) CC_ok (SsOk_c math_bits_Mul64_ok SsOk_n) t66 (A := value_product_an) (ps := [.v 2, .v 2]) (rs := [2, 4]) (env := [.d (.v 2 a0), .d (.v 2 a1)]) (r := [.v 2 r0, .v 4 r1]) (X := value_product_o a0 a1 r0 r1) rfl (Nat.le_of_ble_eq_true rfl) rfl hF h6 ?_⟩
  kernel_rfl

def value_reckon_J1 (r0 : Int) (r1 : Int) (x1 : Int) (x2 : Bool) : Prop :=
  cnd (!x2) ((0 : Int) = r0 ∧ (8 : Int) = r1) (x1 = r0 ∧ (0 : Int) = r1)
def value_reckon_o (a0 : Int) (a1 : Int) (a2 : Int) (r0 : Int) (r1 : Int) : Prop :=
  ∀ J1 : Int → Bool → Prop, (∀ (x1 : Int) (x2 : Bool), value_reckon_J1 r0 r1 x1 x2 → J1 x1 x2) → cnd (a0 == (7 : Int)) (cnd ((decide (a1 < (IntKind.i64.wrap (a1 + a2)))) == (decide ((0 : Int) < a2))) (J1 (IntKind.i64.wrap (a1 + a2)) true) (J1 (IntKind.i64.wrap (a1 + a2)) (a2 == (0 : Int)))) (cnd (a0 == (8 : Int)) (cnd ((decide ((IntKind.i64.wrap (a1 - a2)) < a1)) == (decide ((0 : Int) < a2))) (J1 (IntKind.i64.wrap (a1 - a2)) true) (J1 (IntKind.i64.wrap (a1 - a2)) (a2 == (0 : Int)))) (cnd (a0 == (9 : Int)) (∃ z3 : Int, ∃ z4 : Bool, (value_product_o a1 a2 z3 z4) ∧ J1 z3 z4) (cnd (a2 == (0 : Int)) ((0 : Int) = r0 ∧ (9 : Int) = r1) (cnd (a0 == (11 : Int)) ((a2 ≠ 0) ∧ (a1.tmod a2) = r0 ∧ (0 : Int) = r1) ((a2 ≠ 0) ∧ cnd (!(a1 == (-9223372036854775808 : Int))) (J1 (IntKind.i64.wrap (a1.tdiv a2)) true) (J1 (IntKind.i64.wrap (a1.tdiv a2)) (!(a2 == (-1 : Int)))))))))
def value_reckon_J1i (r0 : Int) (r1 : Int) (x1 : Int) (x2 : Bool) : Prop :=
  cnd (!x2) ((0 : Int) = r0 ∧ (8 : Int) = r1) (x1 = r0 ∧ (0 : Int) = r1)
def value_reckon_oi (a0 : Int) (a1 : Int) (a2 : Int) (r0 : Int) (r1 : Int) : Prop :=
  cnd (a0 == (7 : Int)) (cnd ((decide (a1 < (IntKind.i64.wrap (a1 + a2)))) == (decide ((0 : Int) < a2))) (value_reckon_J1i r0 r1 (IntKind.i64.wrap (a1 + a2)) true) (value_reckon_J1i r0 r1 (IntKind.i64.wrap (a1 + a2)) (a2 == (0 : Int)))) (cnd (a0 == (8 : Int)) (cnd ((decide ((IntKind.i64.wrap (a1 - a2)) < a1)) == (decide ((0 : Int) < a2))) (value_reckon_J1i r0 r1 (IntKind.i64.wrap (a1 - a2)) true) (value_reckon_J1i r0 r1 (IntKind.i64.wrap (a1 - a2)) (a2 == (0 : Int)))) (cnd (a0 == (9 : Int)) (∃ z3 : Int, ∃ z4 : Bool, (value_product_o a1 a2 z3 z4) ∧ value_reckon_J1i r0 r1 z3 z4) (cnd (a2 == (0 : Int)) ((0 : Int) = r0 ∧ (9 : Int) = r1) (cnd (a0 == (11 : Int)) ((a2 ≠ 0) ∧ (a1.tmod a2) = r0 ∧ (0 : Int) = r1) ((a2 ≠ 0) ∧ cnd (!(a1 == (-9223372036854775808 : Int))) (value_reckon_J1i r0 r1 (IntKind.i64.wrap (a1.tdiv a2)) true) (value_reckon_J1i r0 r1 (IntKind.i64.wrap (a1.tdiv a2)) (!(a2 == (-1 : Int)))))))))
theorem value_reckon_J1_m (r0 : Int) (r1 : Int) {x1 : Int} {x2 : Bool} (h : value_reckon_J1i r0 r1 x1 x2) : value_reckon_J1 r0 r1 x1 x2 := by
  unfold value_reckon_J1
  unfold value_reckon_J1i at h
  exact h
theorem value_reckon_i (a0 : Int) (a1 : Int) (a2 : Int) (r0 : Int) (r1 : Int) (h : value_reckon_oi a0 a1 a2 r0 r1) : value_reckon_o a0 a1 a2 r0 r1 := by
  unfold value_reckon_o
  unfold value_reckon_oi at h
  intro J1 kJ1
  have hJ1 : ∀ (x1 : Int) (x2 : Bool), value_reckon_J1i r0 r1 x1 x2 → J1 x1 x2 := fun x1 x2 q => kJ1 x1 x2 (value_reckon_J1_m r0 r1 q)
  refine cnd_mono h (fun h => ?_) (fun h => ?_)
  · refine cnd_mono h (fun h => ?_) (fun h => ?_)
    · exact hJ1 _ _ h
    · exact hJ1 _ _ h
  · refine cnd_mono h (fun h => ?_) (fun h => ?_)
    · refine cnd_mono h (fun h => ?_) (fun h => ?_)
      · exact hJ1 _ _ h
      · exact hJ1 _ _ h
    · refine cnd_mono h (fun h => ?_) (fun h => ?_)
      · obtain ⟨z3, h⟩ := h
        refine ⟨z3, ?_⟩
        obtain ⟨z4, h⟩ := h
        refine ⟨z4, ?_⟩
        obtain ⟨h0, h⟩ := h
        refine ⟨h0, ?_⟩
        exact hJ1 _ _ h
      · refine cnd_mono h (fun h => ?_) (fun h => ?_)
        · exact h
        · refine cnd_mono h (fun h => ?_) (fun h => ?_)
          · exact h
          · obtain ⟨h0, h⟩ := h
            refine ⟨h0, ?_⟩
            refine cnd_mono h (fun h => ?_) (fun h => ?_)
            · exact hJ1 _ _ h
            · exact hJ1 _ _ h
noncomputable def value_reckon_sp : Sp KK := ⟨44, [.v 3, .v 2, .v 2], [2, 30], appW (K := KK) [2, 30] [.v 3, .v 2, .v 2] value_reckon_o⟩
noncomputable def value_reckon_an : An KK := (.s .o (.s .o (.j ⟨[(8, .it .i64), (9, .bl)], [], []⟩ (.s .o (.b (.s .o (.c (.s .o .o) (.s .o (.c (.s .o .o) (.s .o (.c .o (.s (.s .o (.c (.s .o .o) .o)) (.s (.s .o (.c (.s .o .o) .o)) .o)))))))))) (fun _ => (.s (.s .o (.c (.s .o .o) .o)) (.s .o .o))))))
noncomputable def value_reckon_cf : Cf KK := ⟨CC, [value_product_sp], 68⟩

set_option maxRecDepth 100000 in
theorem value_reckon_ok : SpOk Tryd.prog CC value_reckon_sp := by
  intro env r hF h
  obtain ⟨a0, env0, rfl, h1⟩ := appW_v h
  obtain ⟨a1, env1, rfl, h2⟩ := appW_v h1
  obtain ⟨a2, env2, rfl, h3⟩ := appW_v h2
  obtain ⟨rfl, h4⟩ := appW_n h3
  obtain ⟨r0, rr0, rfl, h5⟩ := apR_v h4
  obtain ⟨r1, rr1, rfl, h6⟩ := apR_v h5
  obtain ⟨rfl, h7⟩ := apR_n h6
  refine ⟨rfl, DnF_by (F := value_reckon_cf) CC_ok (SsOk_c value_product_ok SsOk_n) t44 (A := value_reckon_an) (ps := [.v 3, .v 2, .v 2]) (rs := [2, 30]) (env := [.d (.v 3 a0), .d (.v 2 a1), .d (.v 2 a2)]) (r := [.v 2 r0, .v 30 r1]) (X := value_reckon_o a0 a1 a2 r0 r1) rfl (Nat.le_of_ble_eq_true rfl) rfl hF h7 ?_⟩
  kernel_rfl

def value_Do_J2 (r0 : T_value_Value) (r1 : Int) (a0 : Int) (a1 : T_value_Value) (a2 : T_value_Value) (x4 : Bool) : Prop :=
  cnd x4 ((⟨(0 : Int), (0 : Int), ([] : Str)⟩ : T_value_Value) = r0 ∧ (0 : Int) = r1) (cnd (decide (a0 ≤ (6 : Int))) (∃ z5 : Int, (value_Compare_o a1 a2 z5) ∧ ∃ z6 : Bool, (value_holds_o a0 z5 z6) ∧ ∃ z7 : T_value_Value, (value_OfBool_o z6 z7) ∧ z7 = r0 ∧ (0 : Int) = r1) (cnd (a0 == (12 : Int)) (cnd (decide ((64 : Int) < (IntKind.i64.wrap ((a1.S.length : Int) + (a2.S.length : Int))))) ((⟨(0 : Int), (0 : Int), ([] : Str)⟩ : T_value_Value) = r0 ∧ (8 : Int) = r1) ((a1.S.length + a2.S.length ≤ 9223372036854775807) ∧ ∃ z8 : T_value_Value, (value_OfText_o (a1.S ++ a2.S) z8) ∧ z8 = r0 ∧ (0 : Int) = r1)) (∃ z9 : Int, ∃ z10 : Int, (value_reckon_o a0 a1.N a2.N z9 z10) ∧ cnd (!(z10 == (0 : Int))) ((⟨(0 : Int), (0 : Int), ([] : Str)⟩ : T_value_Value) = r0 ∧ z10 = r1) (∃ z11 : T_value_Value, (value_OfInt_o z9 z11) ∧ z11 = r0 ∧ (0 : Int) = r1))))
def value_Do_J1 (r0 : T_value_Value) (r1 : Int) (a0 : Int) (a1 : T_value_Value) (a2 : T_value_Value) (x1 : Bool) : Prop :=
  cnd x1 ((⟨(0 : Int), (0 : Int), ([] : Str)⟩ : T_value_Value) = r0 ∧ (1 : Int) = r1) (∃ z2 : Bool, (value_fit_o a0 a1 a2 z2) ∧ cnd (!z2) ((⟨(0 : Int), (0 : Int), ([] : Str)⟩ : T_value_Value) = r0 ∧ (5 : Int) = r1) (cnd (decide ((13 : Int) ≤ a0)) (∃ z3 : T_value_Value, (value_logic_o (a0 == (14 : Int)) a1 a2 z3) ∧ z3 = r0 ∧ (0 : Int) = r1) (∀ J2 : Bool → Prop, (∀ (x4 : Bool), value_Do_J2 r0 r1 a0 a1 a2 x4 → J2 x4) → ∃ z12 : Bool, (value_Value_none_o a1 z12) ∧ cnd z12 (J2 true) (∃ z13 : Bool, (value_Value_none_o a2 z13) ∧ J2 z13))))
def value_Do_o (a0 : Int) (a1 : T_value_Value) (a2 : T_value_Value) (r0 : T_value_Value) (r1 : Int) : Prop :=
  ∀ J1 : Bool → Prop, (∀ (x1 : Bool), value_Do_J1 r0 r1 a0 a1 a2 x1 → J1 x1) → cnd (decide (a0 < (1 : Int))) (J1 true) (J1 (decide ((14 : Int) < a0)))
def value_Do_J2i (a0 : Int) (a1 : T_value_Value) (a2 : T_value_Value) (r0 : T_value_Value) (r1 : Int) (x4 : Bool) : Prop :=
  cnd x4 ((⟨(0 : Int), (0 : Int), ([] : Str)⟩ : T_value_Value) = r0 ∧ (0 : Int) = r1) (cnd (decide (a0 ≤ (6 : Int))) (∃ z5 : Int, (value_Compare_o a1 a2 z5) ∧ ∃ z6 : Bool, (value_holds_o a0 z5 z6) ∧ ∃ z7 : T_value_Value, (value_OfBool_o z6 z7) ∧ z7 = r0 ∧ (0 : Int) = r1) (cnd (a0 == (12 : Int)) (cnd (decide ((64 : Int) < (IntKind.i64.wrap ((a1.S.length : Int) + (a2.S.length : Int))))) ((⟨(0 : Int), (0 : Int), ([] : Str)⟩ : T_value_Value) = r0 ∧ (8 : Int) = r1) ((a1.S.length + a2.S.length ≤ 9223372036854775807) ∧ ∃ z8 : T_value_Value, (value_OfText_o (a1.S ++ a2.S) z8) ∧ z8 = r0 ∧ (0 : Int) = r1)) (∃ z9 : Int, ∃ z10 : Int, (value_reckon_o a0 a1.N a2.N z9 z10) ∧ cnd (!(z10 == (0 : Int))) ((⟨(0 : Int), (0 : Int), ([] : Str)⟩ : T_value_Value) = r0 ∧ z10 = r1) (∃ z11 : T_value_Value, (value_OfInt_o z9 z11) ∧ z11 = r0 ∧ (0 : Int) = r1))))
def value_Do_J1i (a0 : Int) (a1 : T_value_Value) (a2 : T_value_Value) (r0 : T_value_Value) (r1 : Int) (x1 : Bool) : Prop :=
  cnd x1 ((⟨(0 : Int), (0 : Int), ([] : Str)⟩ : T_value_Value) = r0 ∧ (1 : Int) = r1) (∃ z2 : Bool, (value_fit_o a0 a1 a2 z2) ∧ cnd (!z2) ((⟨(0 : Int), (0 : Int), ([] : Str)⟩ : T_value_Value) = r0 ∧ (5 : Int) = r1) (cnd (decide ((13 : Int) ≤ a0)) (∃ z3 : T_value_Value, (value_logic_o (a0 == (14 : Int)) a1 a2 z3) ∧ z3 = r0 ∧ (0 : Int) = r1) (∃ z12 : Bool, (value_Value_none_o a1 z12) ∧ cnd z12 (value_Do_J2i a0 a1 a2 r0 r1 true) (∃ z13 : Bool, (value_Value_none_o a2 z13) ∧ value_Do_J2i a0 a1 a2 r0 r1 z13))))
def value_Do_oi (a0 : Int) (a1 : T_value_Value) (a2 : T_value_Value) (r0 : T_value_Value) (r1 : Int) : Prop :=
  cnd (decide (a0 < (1 : Int))) (value_Do_J1i a0 a1 a2 r0 r1 true) (value_Do_J1i a0 a1 a2 r0 r1 (decide ((14 : Int) < a0)))
theorem value_Do_J2_m (a0 : Int) (a1 : T_value_Value) (a2 : T_value_Value) (r0 : T_value_Value) (r1 : Int) {x4 : Bool} (h : value_Do_J2i a0 a1 a2 r0 r1 x4) : value_Do_J2 r0 r1 a0 a1 a2 x4 := by
  unfold value_Do_J2
  unfold value_Do_J2i at h
  exact h
theorem value_Do_J1_m (a0 : Int) (a1 : T_value_Value) (a2 : T_value_Value) (r0 : T_value_Value) (r1 : Int) {x1 : Bool} (h : value_Do_J1i a0 a1 a2 r0 r1 x1) : value_Do_J1 r0 r1 a0 a1 a2 x1 := by
  unfold value_Do_J1
  unfold value_Do_J1i at h
  refine cnd_mono h (fun h => ?_) (fun h => ?_)
  · exact h
  · obtain ⟨z2, h⟩ := h
    refine ⟨z2, ?_⟩
    obtain ⟨h0, h⟩ := h
    refine ⟨h0, ?_⟩
    refine cnd_mono h (fun h => ?_) (fun h => ?_)
    · exact h
    · refine cnd_mono h (fun h => ?_) (fun h => ?_)
      · exact h
      · intro J2 kJ2
        have hJ2 : ∀ (x4 : Bool), value_Do_J2i a0 a1 a2 r0 r1 x4 → J2 x4 := fun x4 q => kJ2 x4 (value_Do_J2_m a0 a1 a2 r0 r1 q)
        obtain ⟨z12, h⟩ := h
        refine ⟨z12, ?_⟩
        obtain ⟨h0, h⟩ := h
        refine ⟨h0, ?_⟩
        refine cnd_mono h (fun h => ?_) (fun h => ?_)
        · exact hJ2 _ h
        · obtain ⟨z13, h⟩ := h
          refine ⟨z13, ?_⟩
          obtain ⟨h0, h⟩ := h
          refine ⟨h0, ?_⟩
          exact hJ2 _ h
theorem value_Do_i (a0 : Int) (a1 : T_value_Value) (a2 : T_value_Value) (r0 : T_value_Value) (r1 : Int) (h : value_Do_oi a0 a1 a2 r0 r1) : value_Do_o a0 a1 a2 r0 r1 := by
  unfold value_Do_o
  unfold value_Do_oi at h
  intro J1 kJ1
  have hJ1 : ∀ (x1 : Bool), value_Do_J1i a0 a1 a2 r0 r1 x1 → J1 x1 := fun x1 q => kJ1 x1 (value_Do_J1_m a0 a1 a2 r0 r1 q)
  refine cnd_mono h (fun h => ?_) (fun h => ?_)
  · exact hJ1 _ h
  · exact hJ1 _ h
noncomputable def value_Do_sp : Sp KK := ⟨12, [.v 3, .v 26, .v 26], [26, 30], appW (K := KK) [26, 30] [.v 3, .v 26, .v 26] value_Do_o⟩
noncomputable def value_Do_an : An KK := (.s .o (.s (.b (.j ⟨[(0, .kp 11), (4, .px 4 0), (5, .px 5 0), (6, .px 6 0), (10, .bl)], [(4, 26, [.kp 12, .kp 13, .kp 14]), (5, 26, [.kp 15, .kp 16, .kp 17]), (6, 26, [.kp 18, .kp 19, .kp 20])], []⟩ .o (fun _ => (.c (.s .o .o) (.s .o (.c (.s .o .o) (.s .o (.c (.s .o .o) (.j ⟨[(0, .kp 11), (4, .px 4 0), (5, .px 5 0), (6, .px 6 0), (33, .bl)], [(4, 26, [.kp 12, .kp 13, .kp 14]), (5, 26, [.kp 15, .kp 16, .kp 17]), (6, 26, [.kp 18, .kp 19, .kp 20])], []⟩ .o (fun _ => (.c (.s .o .o) (.s .o (.c (.s .o .o) (.s .o (.c (.s (.s .o (.c (.s .o .o) .o)) (.s .o .o)) .o))))))))))))))) (.s .o (.s (.s .o (.c (.s .o .o) .o)) (.s .o .o)))))
noncomputable def value_Do_cf : Cf KK := ⟨CC, [value_fit_sp, value_logic_sp, value_Value_none_sp, value_Compare_sp, value_holds_sp, value_OfBool_sp, value_OfText_sp, value_reckon_sp, value_OfInt_sp], 83⟩

set_option maxRecDepth 100000 in
theorem value_Do_ok : SpOk Tryd.prog CC value_Do_sp := by
  intro env r hF h
  obtain ⟨a0, env0, rfl, h1⟩ := appW_v h
  obtain ⟨a1, env1, rfl, h2⟩ := appW_v h1
  obtain ⟨a2, env2, rfl, h3⟩ := appW_v h2
  obtain ⟨rfl, h4⟩ := appW_n h3
  obtain ⟨r0, rr0, rfl, h5⟩ := apR_v h4
  obtain ⟨r1, rr1, rfl, h6⟩ := apR_v h5
  obtain ⟨rfl, h7⟩ := apR_n h6
  refine ⟨rfl, DnF_by (F := value_Do_cf) CC_ok (SsOk_c value_fit_ok (SsOk_c value_logic_ok (SsOk_c value_Value_none_ok (SsOk_c value_Compare_ok (SsOk_c value_holds_ok (SsOk_c value_OfBool_ok (SsOk_c value_OfText_ok (SsOk_c value_reckon_ok (SsOk_c value_OfInt_ok SsOk_n))))))))) t12 (A := value_Do_an) (ps := [.v 3, .v 26, .v 26]) (rs := [26, 30]) (env := [.d (.v 3 a0), .d (.v 26 a1), .d (.v 26 a2)]) (r := [.v 26 r0, .v 30 r1]) (X := value_Do_o a0 a1 a2 r0 r1) rfl (Nat.le_of_ble_eq_true rfl) rfl hF h7 ?_⟩
  kernel_rfl

def value_Value_Good_o (a0 : T_value_Value) (r0 : Bool) : Prop :=
  cnd (a0.Kind == (0 : Int)) (((a0.Kind == (0 : Int)) && ((a0.N == (0 : Int)) && ((a0.S == ([] : Str)) && true))) = r0) (cnd (a0.Kind == (1 : Int)) (cnd (a0.N == (0 : Int)) ((a0.S == ([] : Str)) = r0) (cnd (a0.N == (1 : Int)) ((a0.S == ([] : Str)) = r0) (false = r0))) (cnd (a0.Kind == (2 : Int)) ((a0.S == ([] : Str)) = r0) (cnd (a0.Kind == (3 : Int)) (cnd (a0.N == (0 : Int)) ((decide ((a0.S.length : Int) ≤ (64 : Int))) = r0) (false = r0)) (false = r0))))
noncomputable def value_Value_Good_sp : Sp KK := ⟨19, [.v 26], [4], appW (K := KK) [4] [.v 26] value_Value_Good_o⟩
noncomputable def value_Value_Good_an : An KK := (.s .o (.s (.s .o (.b (.s .o (.c (.s .o .o) (.s .o (.c (.s .o .o) (.s .o (.c (.s .o .o) (.s .o (.c (.s .o .o) .o)))))))))) (.s .o .o)))
noncomputable def value_Value_Good_cf : Cf KK := ⟨CC, [], 41⟩

set_option maxRecDepth 100000 in
theorem value_Value_Good_ok : SpOk Tryd.prog CC value_Value_Good_sp := by
  intro env r hF h
  obtain ⟨a0, env0, rfl, h1⟩ := appW_v h
  obtain ⟨rfl, h2⟩ := appW_n h1
  obtain ⟨r0, rr0, rfl, h3⟩ := apR_v h2
  obtain ⟨rfl, h4⟩ := apR_n h3
  refine ⟨rfl, DnF_by (F := value_Value_Good_cf) CC_ok SsOk_n t19 (A := value_Value_Good_an) (ps := [.v 26]) (rs := [4]) (env := [.d (.v 26 a0)]) (r := [.v 4 r0]) (X := value_Value_Good_o a0 r0) rfl (Nat.le_of_ble_eq_true rfl) rfl hF h4 ?_⟩
  kernel_rfl

def value_Value_True_o (a0 : T_value_Value) (r0 : Bool) : Prop :=
  ∃ z1 : T_value_Value, (value_OfBool_o true z1) ∧ ((a0.Kind == z1.Kind) && ((a0.N == z1.N) && ((a0.S == z1.S) && true))) = r0
noncomputable def value_Value_True_sp : Sp KK := ⟨23, [.v 26], [4], appW (K := KK) [4] [.v 26] value_Value_True_o⟩
noncomputable def value_Value_True_an : An KK := (.s .o (.s .o .o))
noncomputable def value_Value_True_cf : Cf KK := ⟨CC, [value_OfBool_sp], 6⟩

set_option maxRecDepth 100000 in
theorem value_Value_True_ok : SpOk Tryd.prog CC value_Value_True_sp := by
  intro env r hF h
  obtain ⟨a0, env0, rfl, h1⟩ := appW_v h
  obtain ⟨rfl, h2⟩ := appW_n h1
  obtain ⟨r0, rr0, rfl, h3⟩ := apR_v h2
  obtain ⟨rfl, h4⟩ := apR_n h3
  refine ⟨rfl, DnF_by (F := value_Value_True_cf) CC_ok (SsOk_c value_OfBool_ok SsOk_n) t23 (A := value_Value_True_an) (ps := [.v 26]) (rs := [4]) (env := [.d (.v 26 a0)]) (r := [.v 4 r0]) (X := value_Value_True_o a0 r0) rfl (Nat.le_of_ble_eq_true rfl) rfl hF h4 ?_⟩
  kernel_rfl

def strconv_FormatInt_o (a0 : Int) (a1 : Int) (r0 : Str) : Prop := a1 = 10 ∧ -9223372036854775808 ≤ a0 ∧ a0 ≤ 9223372036854775807 ∧ r0 = Go.Lib.itoa a0
noncomputable def strconv_FormatInt_sp : Sp KK := ⟨52, [.v 2, .v 3], [9], appW (K := KK) [9] [.v 2, .v 3] strconv_FormatInt_o⟩

set_option maxRecDepth 100000 in
theorem strconv_FormatInt_p {a0 : Int} {a1 : Int} {r0 : Str} (h : strconv_FormatInt_o a0 a1 r0) : AV.Pure Tryd.prog 52 [.it .i64 a0, .it .i64 a1] (.st r0) := by
  obtain ⟨rfl, q0, q1, rfl⟩ := h
  exact sh_FormatInt Tryd.func52 (by kernel_rfl) (by kernel_rfl) Tryd.strconv_FormatInt_10 q0 q1
set_option maxRecDepth 100000 in
theorem strconv_FormatInt_ok : SpOk Tryd.prog CC strconv_FormatInt_sp := by
  intro env r hF h
  obtain ⟨a0, env0, rfl, h1⟩ := appW_v h
  obtain ⟨a1, env1, rfl, h2⟩ := appW_v h1
  obtain ⟨rfl, h3⟩ := appW_n h2
  obtain ⟨r0, rr0, rfl, h4⟩ := apR_v h3
  obtain ⟨rfl, h5⟩ := apR_n h4
  exact ⟨rfl, (strconv_FormatInt_p h5).congr (by kernel_rfl) (by kernel_rfl)⟩

def strings_ReplaceAll_o (a0 : Str) (a1 : Str) (a2 : Str) (r0 : Str) : Prop := a0.length ≤ 100000 ∧ 1 ≤ a1.length ∧ a2.length ≤ 100000 ∧ r0 = Go.Lib.replaceAll a0 a1 a2
noncomputable def strings_ReplaceAll_sp : Sp KK := ⟨53, [.v 9, .v 9, .v 9], [9], appW (K := KK) [9] [.v 9, .v 9, .v 9] strings_ReplaceAll_o⟩

set_option maxRecDepth 100000 in
theorem strings_ReplaceAll_p {a0 : Str} {a1 : Str} {a2 : Str} {r0 : Str} (h : strings_ReplaceAll_o a0 a1 a2 r0) : AV.Pure Tryd.prog 53 [.st a0, .st a1, .st a2] (.st r0) := by
  obtain ⟨q0, q1, q2, rfl⟩ := h
  exact sh_ReplaceAll Tryd.func53 (by kernel_rfl) (by kernel_rfl) Tryd.strings_ReplaceAll q0 q1 q2
set_option maxRecDepth 100000 in
theorem strings_ReplaceAll_ok : SpOk Tryd.prog CC strings_ReplaceAll_sp := by
  intro env r hF h
  obtain ⟨a0, env0, rfl, h1⟩ := appW_v h
  obtain ⟨a1, env1, rfl, h2⟩ := appW_v h1
  obtain ⟨a2, env2, rfl, h3⟩ := appW_v h2
  obtain ⟨rfl, h4⟩ := appW_n h3
  obtain ⟨r0, rr0, rfl, h5⟩ := apR_v h4
  obtain ⟨rfl, h6⟩ := apR_n h5
  exact ⟨rfl, (strings_ReplaceAll_p h6).congr (by kernel_rfl) (by kernel_rfl)⟩

def value_Value_Show_J1 (r0 : Str) (a0 : T_value_Value) (x1 : Bool) : Prop :=
  cnd x1 (([78, 85, 76, 76] : Str) = r0) (∃ z2 : Bool, (value_Value_True_o a0 z2) ∧ cnd z2 (([84, 82, 85, 69] : Str) = r0) (cnd (a0.Kind == (1 : Int)) (([70, 65, 76, 83, 69] : Str) = r0) (cnd (a0.Kind == (2 : Int)) (∃ z3 : Str, (strconv_FormatInt_o a0.N (10 : Int) z3) ∧ z3 = r0) (∃ z4 : Str, (strings_ReplaceAll_o a0.S ([39] : Str) ([39, 39] : Str) z4) ∧ (([39] : Str).length + z4.length ≤ 9223372036854775807) ∧ ((([39] : Str) ++ z4).length + ([39] : Str).length ≤ 9223372036854775807) ∧ ((([39] : Str) ++ z4) ++ ([39] : Str)) = r0))))
def value_Value_Show_o (a0 : T_value_Value) (r0 : Str) : Prop :=
  ∀ J1 : Bool → Prop, (∀ (x1 : Bool), value_Value_Show_J1 r0 a0 x1 → J1 x1) → ∃ z5 : Bool, (value_Value_Good_o a0 z5) ∧ cnd (!z5) (J1 true) (∃ z6 : Bool, (value_Value_none_o a0 z6) ∧ J1 z6)
def value_Value_Show_J1i (a0 : T_value_Value) (r0 : Str) (x1 : Bool) : Prop :=
  cnd x1 (([78, 85, 76, 76] : Str) = r0) (∃ z2 : Bool, (value_Value_True_o a0 z2) ∧ cnd z2 (([84, 82, 85, 69] : Str) = r0) (cnd (a0.Kind == (1 : Int)) (([70, 65, 76, 83, 69] : Str) = r0) (cnd (a0.Kind == (2 : Int)) (∃ z3 : Str, (strconv_FormatInt_o a0.N (10 : Int) z3) ∧ z3 = r0) (∃ z4 : Str, (strings_ReplaceAll_o a0.S ([39] : Str) ([39, 39] : Str) z4) ∧ (([39] : Str).length + z4.length ≤ 9223372036854775807) ∧ ((([39] : Str) ++ z4).length + ([39] : Str).length ≤ 9223372036854775807) ∧ ((([39] : Str) ++ z4) ++ ([39] : Str)) = r0))))
def value_Value_Show_oi (a0 : T_value_Value) (r0 : Str) : Prop :=
  ∃ z5 : Bool, (value_Value_Good_o a0 z5) ∧ cnd (!z5) (value_Value_Show_J1i a0 r0 true) (∃ z6 : Bool, (value_Value_none_o a0 z6) ∧ value_Value_Show_J1i a0 r0 z6)
theorem value_Value_Show_J1_m (a0 : T_value_Value) (r0 : Str) {x1 : Bool} (h : value_Value_Show_J1i a0 r0 x1) : value_Value_Show_J1 r0 a0 x1 := by
  unfold value_Value_Show_J1
  unfold value_Value_Show_J1i at h
  exact h
theorem value_Value_Show_i (a0 : T_value_Value) (r0 : Str) (h : value_Value_Show_oi a0 r0) : value_Value_Show_o a0 r0 := by
  unfold value_Value_Show_o
  unfold value_Value_Show_oi at h
  intro J1 kJ1
  have hJ1 : ∀ (x1 : Bool), value_Value_Show_J1i a0 r0 x1 → J1 x1 := fun x1 q => kJ1 x1 (value_Value_Show_J1_m a0 r0 q)
  obtain ⟨z5, h⟩ := h
  refine ⟨z5, ?_⟩
  obtain ⟨h0, h⟩ := h
  refine ⟨h0, ?_⟩
  refine cnd_mono h (fun h => ?_) (fun h => ?_)
  · exact hJ1 _ h
  · obtain ⟨z6, h⟩ := h
    refine ⟨z6, ?_⟩
    obtain ⟨h0, h⟩ := h
    refine ⟨h0, ?_⟩
    exact hJ1 _ h
noncomputable def value_Value_Show_sp : Sp KK := ⟨21, [.v 26], [9], appW (K := KK) [9] [.v 26] value_Value_Show_o⟩
noncomputable def value_Value_Show_an : An KK := (.s .o (.s (.b (.j ⟨[(1, .px 1 0), (3, .bl)], [(1, 26, [.kp 4, .kp 5, .kp 6])], []⟩ .o (fun _ => (.c (.s .o .o) (.s .o (.c (.s .o .o) (.s .o (.c (.s .o .o) (.s .o (.c (.s .o .o) .o)))))))))) (.s .o .o)))
noncomputable def value_Value_Show_cf : Cf KK := ⟨CC, [value_Value_Good_sp, value_Value_none_sp, value_Value_True_sp, strconv_FormatInt_sp, strings_ReplaceAll_sp], 30⟩

set_option maxRecDepth 100000 in
theorem value_Value_Show_ok : SpOk Tryd.prog CC value_Value_Show_sp := by
  intro env r hF h
  obtain ⟨a0, env0, rfl, h1⟩ := appW_v h
  obtain ⟨rfl, h2⟩ := appW_n h1
  obtain ⟨r0, rr0, rfl, h3⟩ := apR_v h2
  obtain ⟨rfl, h4⟩ := apR_n h3
  refine ⟨rfl, DnF_by (F := value_Value_Show_cf) CC_ok (SsOk_c value_Value_Good_ok (SsOk_c value_Value_none_ok (SsOk_c value_Value_True_ok (SsOk_c strconv_FormatInt_ok (SsOk_c strings_ReplaceAll_ok SsOk_n))))) t21 (A := value_Value_Show_an) (ps := [.v 26]) (rs := [9]) (env := [.d (.v 26 a0)]) (r := [.v 9 r0]) (X := value_Value_Show_o a0 r0) rfl (Nat.le_of_ble_eq_true rfl) rfl hF h4 ?_⟩
  kernel_rfl

def law06_speaks_J1 (r0 : Bool) (x8 : Bool) : Prop :=
  x8 = r0
def law06_speaks_o (r0 : Bool) : Prop :=
  ∃ z1 : T_value_Value, (value_OfInt_o (2 : Int) z1) ∧ ∃ z2 : T_value_Value, (value_OfInt_o (3 : Int) z2) ∧ ∃ z3 : T_value_Value, ∃ z4 : Int, (value_Do_o (7 : Int) z1 z2 z3 z4) ∧ ∃ z5 : T_value_Value, (value_OfBool_o false z5) ∧ ∃ z6 : T_value_Value, ∃ z7 : Int, (value_Do_o (13 : Int) (⟨(0 : Int), (0 : Int), ([] : Str)⟩ : T_value_Value) z5 z6 z7) ∧ ∀ J1 : Bool → Prop, (∀ (x8 : Bool), law06_speaks_J1 r0 x8 → J1 x8) → cnd (z4 == (0 : Int)) (cnd (z3.N == (5 : Int)) (cnd (z3.Kind == (2 : Int)) (cnd (z7 == (0 : Int)) (∃ z9 : T_value_Value, (value_OfBool_o false z9) ∧ cnd ((z6.Kind == z9.Kind) && ((z6.N == z9.N) && ((z6.S == z9.S) && true))) (cnd (z6.Kind == (1 : Int)) (∃ z10 : T_value_Value, (value_OfText_o ([105, 116, 39, 115] : Str) z10) ∧ ∃ z11 : Str, (value_Value_Show_o z10 z11) ∧ J1 (z11 == ([39, 105, 116, 39, 39, 115, 39] : Str))) (J1 false)) (J1 false)) (J1 false)) (J1 false)) (J1 false)) (J1 false)
def law06_speaks_J1i (r0 : Bool) (x8 : Bool) : Prop :=
  x8 = r0
def law06_speaks_oi (r0 : Bool) : Prop :=
  ∃ z1 : T_value_Value, (value_OfInt_o (2 : Int) z1) ∧ ∃ z2 : T_value_Value, (value_OfInt_o (3 : Int) z2) ∧ ∃ z3 : T_value_Value, ∃ z4 : Int, (value_Do_o (7 : Int) z1 z2 z3 z4) ∧ ∃ z5 : T_value_Value, (value_OfBool_o false z5) ∧ ∃ z6 : T_value_Value, ∃ z7 : Int, (value_Do_o (13 : Int) (⟨(0 : Int), (0 : Int), ([] : Str)⟩ : T_value_Value) z5 z6 z7) ∧ cnd (z4 == (0 : Int)) (cnd (z3.N == (5 : Int)) (cnd (z3.Kind == (2 : Int)) (cnd (z7 == (0 : Int)) (∃ z9 : T_value_Value, (value_OfBool_o false z9) ∧ cnd ((z6.Kind == z9.Kind) && ((z6.N == z9.N) && ((z6.S == z9.S) && true))) (cnd (z6.Kind == (1 : Int)) (∃ z10 : T_value_Value, (value_OfText_o ([105, 116, 39, 115] : Str) z10) ∧ ∃ z11 : Str, (value_Value_Show_o z10 z11) ∧ law06_speaks_J1i r0 (z11 == ([39, 105, 116, 39, 39, 115, 39] : Str))) (law06_speaks_J1i r0 false)) (law06_speaks_J1i r0 false)) (law06_speaks_J1i r0 false)) (law06_speaks_J1i r0 false)) (law06_speaks_J1i r0 false)) (law06_speaks_J1i r0 false)
theorem law06_speaks_J1_m (r0 : Bool) {x8 : Bool} (h : law06_speaks_J1i r0 x8) : law06_speaks_J1 r0 x8 := by
  unfold law06_speaks_J1
  unfold law06_speaks_J1i at h
  exact h
theorem law06_speaks_i (r0 : Bool) (h : law06_speaks_oi r0) : law06_speaks_o r0 := by
  unfold law06_speaks_o
  unfold law06_speaks_oi at h
  obtain ⟨z1, h⟩ := h
  refine ⟨z1, ?_⟩
  obtain ⟨h0, h⟩ := h
  refine ⟨h0, ?_⟩
  obtain ⟨z2, h⟩ := h
  refine ⟨z2, ?_⟩
  obtain ⟨h0, h⟩ := h
  refine ⟨h0, ?_⟩
  obtain ⟨z3, h⟩ := h
  refine ⟨z3, ?_⟩
  obtain ⟨z4, h⟩ := h
  refine ⟨z4, ?_⟩
  obtain ⟨h0, h⟩ := h
  refine ⟨h0, ?_⟩
  obtain ⟨z5, h⟩ := h
  refine ⟨z5, ?_⟩
  obtain ⟨h0, h⟩ := h
  refine ⟨h0, ?_⟩
  obtain ⟨z6, h⟩ := h
  refine ⟨z6, ?_⟩
  obtain ⟨z7, h⟩ := h
  refine ⟨z7, ?_⟩
  obtain ⟨h0, h⟩ := h
  refine ⟨h0, ?_⟩
  intro J1 kJ1
  have hJ1 : ∀ (x8 : Bool), law06_speaks_J1i r0 x8 → J1 x8 := fun x8 q => kJ1 x8 (law06_speaks_J1_m r0 q)
  refine cnd_mono h (fun h => ?_) (fun h => ?_)
  · refine cnd_mono h (fun h => ?_) (fun h => ?_)
    · refine cnd_mono h (fun h => ?_) (fun h => ?_)
      · refine cnd_mono h (fun h => ?_) (fun h => ?_)
        · obtain ⟨z9, h⟩ := h
          refine ⟨z9, ?_⟩
          obtain ⟨h0, h⟩ := h
          refine ⟨h0, ?_⟩
          refine cnd_mono h (fun h => ?_) (fun h => ?_)
          · refine cnd_mono h (fun h => ?_) (fun h => ?_)
            · obtain ⟨z10, h⟩ := h
              refine ⟨z10, ?_⟩
              obtain ⟨h0, h⟩ := h
              refine ⟨h0, ?_⟩
              obtain ⟨z11, h⟩ := h
              refine ⟨z11, ?_⟩
              obtain ⟨h0, h⟩ := h
              refine ⟨h0, ?_⟩
              exact hJ1 _ h
            · exact hJ1 _ h
          · exact hJ1 _ h
        · exact hJ1 _ h
      · exact hJ1 _ h
    · exact hJ1 _ h
  · exact hJ1 _ h
noncomputable def law06_speaks_sp : Sp KK := ⟨10, [], [4], appW (K := KK) [4] [] law06_speaks_o⟩
noncomputable def law06_speaks_an : An KK := (.s .o (.s .o (.s .o (.j ⟨[(0, .bl)], [], []⟩ .o (fun _ => .o)))))
noncomputable def law06_speaks_cf : Cf KK := ⟨CC, [value_OfInt_sp, value_Do_sp, value_OfBool_sp, value_OfText_sp, value_Value_Show_sp], 48⟩

set_option maxRecDepth 100000 in
theorem law06_speaks_ok : SpOk Tryd.prog CC law06_speaks_sp := by
  intro env r hF h
  obtain ⟨rfl, h1⟩ := appW_n h
  obtain ⟨r0, rr0, rfl, h2⟩ := apR_v h1
  obtain ⟨rfl, h3⟩ := apR_n h2
  refine ⟨rfl, DnF_by (F := law06_speaks_cf) CC_ok (SsOk_c value_OfInt_ok (SsOk_c value_Do_ok (SsOk_c value_OfBool_ok (SsOk_c value_OfText_ok (SsOk_c value_Value_Show_ok SsOk_n))))) t10 (A := law06_speaks_an) (ps := []) (rs := [4]) (env := []) (r := [.v 4 r0]) (X := law06_speaks_o  r0) rfl (Nat.le_of_ble_eq_true rfl) rfl hF h3 ?_⟩
  kernel_rfl

def law06_told_J1 (a0 : T_law06_Value) (r0 : T_value_Value) (r1 : T_ref06_Value) (x1 : Int) (x2 : Str) : Prop :=
  (⟨IntKind.i64.wrap (a0.Kind.tmod (4 : Int)), x1, x2⟩ : T_value_Value) = r0 ∧ (⟨IntKind.i64.wrap (a0.Kind.tmod (4 : Int)), x1, x2⟩ : T_ref06_Value) = r1
def law06_told_o (a0 : T_law06_Value) (r0 : T_value_Value) (r1 : T_ref06_Value) : Prop :=
  ∀ J1 : Int → Str → Prop, (∀ (x1 : Int) (x2 : Str), law06_told_J1 a0 r0 r1 x1 x2 → J1 x1 x2) → cnd ((IntKind.i64.wrap (a0.Kind.tmod (4 : Int))) == (1 : Int)) (J1 (bits .and .i64 a0.N (1 : Int)) ([] : Str)) (cnd ((IntKind.i64.wrap (a0.Kind.tmod (4 : Int))) == (2 : Int)) (J1 a0.N ([] : Str)) (cnd ((IntKind.i64.wrap (a0.Kind.tmod (4 : Int))) == (3 : Int)) ((0 ≤ (0 : Int) ∧ (0 : Int) ≤ (if (64 : Int) < (a0.S.length : Int) then (64 : Int) else (a0.S.length : Int)) ∧ (if (64 : Int) < (a0.S.length : Int) then (64 : Int) else (a0.S.length : Int)) ≤ (a0.S.length : Int)) ∧ J1 (0 : Int) ((a0.S.drop (0 : Int).toNat).take ((if (64 : Int) < (a0.S.length : Int) then (64 : Int) else (a0.S.length : Int)).toNat - (0 : Int).toNat))) (J1 (0 : Int) ([] : Str))))
def law06_told_J1i (a0 : T_law06_Value) (r0 : T_value_Value) (r1 : T_ref06_Value) (x1 : Int) (x2 : Str) : Prop :=
  (⟨IntKind.i64.wrap (a0.Kind.tmod (4 : Int)), x1, x2⟩ : T_value_Value) = r0 ∧ (⟨IntKind.i64.wrap (a0.Kind.tmod (4 : Int)), x1, x2⟩ : T_ref06_Value) = r1
def law06_told_oi (a0 : T_law06_Value) (r0 : T_value_Value) (r1 : T_ref06_Value) : Prop :=
  cnd ((IntKind.i64.wrap (a0.Kind.tmod (4 : Int))) == (1 : Int)) (law06_told_J1i a0 r0 r1 (bits .and .i64 a0.N (1 : Int)) ([] : Str)) (cnd ((IntKind.i64.wrap (a0.Kind.tmod (4 : Int))) == (2 : Int)) (law06_told_J1i a0 r0 r1 a0.N ([] : Str)) (cnd ((IntKind.i64.wrap (a0.Kind.tmod (4 : Int))) == (3 : Int)) ((0 ≤ (0 : Int) ∧ (0 : Int) ≤ (if (64 : Int) < (a0.S.length : Int) then (64 : Int) else (a0.S.length : Int)) ∧ (if (64 : Int) < (a0.S.length : Int) then (64 : Int) else (a0.S.length : Int)) ≤ (a0.S.length : Int)) ∧ law06_told_J1i a0 r0 r1 (0 : Int) ((a0.S.drop (0 : Int).toNat).take ((if (64 : Int) < (a0.S.length : Int) then (64 : Int) else (a0.S.length : Int)).toNat - (0 : Int).toNat))) (law06_told_J1i a0 r0 r1 (0 : Int) ([] : Str))))
theorem law06_told_J1_m (a0 : T_law06_Value) (r0 : T_value_Value) (r1 : T_ref06_Value) {x1 : Int} {x2 : Str} (h : law06_told_J1i a0 r0 r1 x1 x2) : law06_told_J1 a0 r0 r1 x1 x2 := by
  unfold law06_told_J1
  unfold law06_told_J1i at h
  exact h
theorem law06_told_i (a0 : T_law06_Value) (r0 : T_value_Value) (r1 : T_ref06_Value) (h : law06_told_oi a0 r0 r1) : law06_told_o a0 r0 r1 := by
  unfold law06_told_o
  unfold law06_told_oi at h
  intro J1 kJ1
  have hJ1 : ∀ (x1 : Int) (x2 : Str), law06_told_J1i a0 r0 r1 x1 x2 → J1 x1 x2 := fun x1 x2 q => kJ1 x1 x2 (law06_told_J1_m a0 r0 r1 q)
  refine cnd_mono h (fun h => ?_) (fun h => ?_)
  · exact hJ1 _ _ h
  · refine cnd_mono h (fun h => ?_) (fun h => ?_)
    · exact hJ1 _ _ h
    · refine cnd_mono h (fun h => ?_) (fun h => ?_)
      · obtain ⟨h0, h⟩ := h
        refine ⟨h0, ?_⟩
        exact hJ1 _ _ h
      · exact hJ1 _ _ h
noncomputable def law06_told_sp : Sp KK := ⟨11, [.v 23], [26, 27], appW (K := KK) [26, 27] [.v 23] law06_told_o⟩
noncomputable def law06_told_an : An KK := (.s .o (.s .o (.j ⟨[(2, .px 2 0), (3, .px 3 0), (4, .px 4 0)], [(2, 26, [.kp 1, .kp 2, .kp 3]), (3, 27, [.kp 4, .kp 5, .kp 6]), (4, 27, [.kp 7, .it .i64, .st])], []⟩ (.s .o (.b (.s .o (.c .o (.s .o (.c .o (.s .o (.c .o .o)))))))) (fun _ => (.s .o .o)))))
noncomputable def law06_told_cf : Cf KK := ⟨CC, [], 35⟩

set_option maxRecDepth 100000 in
theorem law06_told_ok : SpOk Tryd.prog CC law06_told_sp := by
  intro env r hF h
  obtain ⟨a0, env0, rfl, h1⟩ := appW_v h
  obtain ⟨rfl, h2⟩ := appW_n h1
  obtain ⟨r0, rr0, rfl, h3⟩ := apR_v h2
  obtain ⟨r1, rr1, rfl, h4⟩ := apR_v h3
  obtain ⟨rfl, h5⟩ := apR_n h4
  refine ⟨rfl, DnF_by (F := law06_told_cf) CC_ok SsOk_n t11 (A := law06_told_an) (ps := [.v 23]) (rs := [26, 27]) (env := [.d (.v 23 a0)]) (r := [.v 26 r0, .v 27 r1]) (X := law06_told_o a0 r0 r1) rfl (Nat.le_of_ble_eq_true rfl) rfl hF h5 ?_⟩
  kernel_rfl

def ref06_boolean_o (a0 : Bool) (r0 : T_ref06_Value) : Prop :=
  cnd a0 ((⟨(1 : Int), (1 : Int), ([] : Str)⟩ : T_ref06_Value) = r0) ((⟨(1 : Int), (0 : Int), ([] : Str)⟩ : T_ref06_Value) = r0)
noncomputable def ref06_boolean_sp : Sp KK := ⟨45, [.v 4], [27], appW (K := KK) [27] [.v 4] ref06_boolean_o⟩
noncomputable def ref06_boolean_an : An KK := (.s .o (.s (.s .o (.c (.s .o .o) .o)) (.s .o .o)))
noncomputable def ref06_boolean_cf : Cf KK := ⟨CC, [], 6⟩

set_option maxRecDepth 100000 in
theorem ref06_boolean_ok : SpOk Tryd.prog CC ref06_boolean_sp := by
  intro env r hF h
  obtain ⟨a0, env0, rfl, h1⟩ := appW_v h
  obtain ⟨rfl, h2⟩ := appW_n h1
  obtain ⟨r0, rr0, rfl, h3⟩ := apR_v h2
  obtain ⟨rfl, h4⟩ := apR_n h3
  refine ⟨rfl, DnF_by (F := ref06_boolean_cf) CC_ok SsOk_n t45 (A := ref06_boolean_an) (ps := [.v 4]) (rs := [27]) (env := [.d (.v 4 a0)]) (r := [.v 27 r0]) (X := ref06_boolean_o a0 r0) rfl (Nat.le_of_ble_eq_true rfl) rfl hF h4 ?_⟩
  kernel_rfl

def ref06_Before_J2 (x1 : Int) (a0 : T_ref06_Value) (a1 : T_ref06_Value) (r0 : Bool) (X1 : Int → Prop) (x2 : Bool) : Prop :=
  cnd x2 ((0 ≤ x1 ∧ x1 < (a0.S.length : Int)) ∧ (0 ≤ x1 ∧ x1 < (a1.S.length : Int)) ∧ cnd (!((bAt a0.S x1) == (bAt a1.S x1))) ((0 ≤ x1 ∧ x1 < (a0.S.length : Int)) ∧ (0 ≤ x1 ∧ x1 < (a1.S.length : Int)) ∧ (decide ((bAt a0.S x1) < (bAt a1.S x1))) = r0) (X1 (IntKind.i64.wrap (x1 + (1 : Int))))) ((decide ((a0.S.length : Int) < (a1.S.length : Int))) = r0)
def ref06_Before_L1 (a0 : T_ref06_Value) (a1 : T_ref06_Value) (r0 : Bool) (X1 : Int → Prop) (x1 : Int) : Prop :=
  ∀ J2 : Bool → Prop, (∀ (x2 : Bool), ref06_Before_J2 x1 a0 a1 r0 X1 x2 → J2 x2) → cnd (decide (x1 < (a0.S.length : Int))) (J2 (decide (x1 < (a1.S.length : Int)))) (J2 false)
def ref06_Before_o (a0 : T_ref06_Value) (a1 : T_ref06_Value) (r0 : Bool) : Prop :=
  cnd (!(a0.Kind == a1.Kind)) ((decide (a0.Kind < a1.Kind)) = r0) (cnd (a0.Kind == (3 : Int)) (∀ X1 : Int → Prop, (∀ (x1 : Int), ref06_Before_L1 a0 a1 r0 X1 x1 → X1 x1) → X1 (0 : Int)) ((decide (a0.N < a1.N)) = r0))
def ref06_Before_J2i (X1 : Int → Prop) (a0 : T_ref06_Value) (a1 : T_ref06_Value) (r0 : Bool) (x1 : Int) (x2 : Bool) : Prop :=
  cnd x2 ((0 ≤ x1 ∧ x1 < (a0.S.length : Int)) ∧ (0 ≤ x1 ∧ x1 < (a1.S.length : Int)) ∧ cnd (!((bAt a0.S x1) == (bAt a1.S x1))) ((0 ≤ x1 ∧ x1 < (a0.S.length : Int)) ∧ (0 ≤ x1 ∧ x1 < (a1.S.length : Int)) ∧ (decide ((bAt a0.S x1) < (bAt a1.S x1))) = r0) (X1 (IntKind.i64.wrap (x1 + (1 : Int))))) ((decide ((a0.S.length : Int) < (a1.S.length : Int))) = r0)
def ref06_Before_L1i (a0 : T_ref06_Value) (a1 : T_ref06_Value) (r0 : Bool) (X1 : Int → Prop) (x1 : Int) : Prop :=
  cnd (decide (x1 < (a0.S.length : Int))) (ref06_Before_J2i X1 a0 a1 r0 x1 (decide (x1 < (a1.S.length : Int)))) (ref06_Before_J2i X1 a0 a1 r0 x1 false)
def ref06_Before_oi (a0 : T_ref06_Value) (a1 : T_ref06_Value) (r0 : Bool) : Prop :=
  cnd (!(a0.Kind == a1.Kind)) ((decide (a0.Kind < a1.Kind)) = r0) (cnd (a0.Kind == (3 : Int)) (∀ X1 : Int → Prop, (∀ (x1 : Int), ref06_Before_L1i a0 a1 r0 X1 x1 → X1 x1) → X1 (0 : Int)) ((decide (a0.N < a1.N)) = r0))
theorem ref06_Before_J2_m (X1 : Int → Prop) (a0 : T_ref06_Value) (a1 : T_ref06_Value) (r0 : Bool) (x1 : Int) {x2 : Bool} (h : ref06_Before_J2i X1 a0 a1 r0 x1 x2) : ref06_Before_J2 x1 a0 a1 r0 X1 x2 := by
  unfold ref06_Before_J2
  unfold ref06_Before_J2i at h
  exact h
theorem ref06_Before_L1_m (a0 : T_ref06_Value) (a1 : T_ref06_Value) (r0 : Bool) {X1 : Int → Prop} {x1 : Int} (h : ref06_Before_L1i a0 a1 r0 X1 x1) : ref06_Before_L1 a0 a1 r0 X1 x1 := by
  unfold ref06_Before_L1
  unfold ref06_Before_L1i at h
  intro J2 kJ2
  have hJ2 : ∀ (x2 : Bool), ref06_Before_J2i X1 a0 a1 r0 x1 x2 → J2 x2 := fun x2 q => kJ2 x2 (ref06_Before_J2_m X1 a0 a1 r0 x1 q)
  refine cnd_mono h (fun h => ?_) (fun h => ?_)
  · exact hJ2 _ h
  · exact hJ2 _ h
theorem ref06_Before_i (a0 : T_ref06_Value) (a1 : T_ref06_Value) (r0 : Bool) (h : ref06_Before_oi a0 a1 r0) : ref06_Before_o a0 a1 r0 := by
  unfold ref06_Before_o
  unfold ref06_Before_oi at h
  refine cnd_mono h (fun h => ?_) (fun h => ?_)
  · exact h
  · refine cnd_mono h (fun h => ?_) (fun h => ?_)
    · intro X1 k
      exact h X1 (fun x1 q => k x1 (ref06_Before_L1_m a0 a1 r0 q))
    · exact h
noncomputable def ref06_Before_sp : Sp KK := ⟨14, [.v 27, .v 27], [4], appW (K := KK) [4] [.v 27, .v 27] ref06_Before_o⟩
noncomputable def ref06_Before_an : An KK := (.s .o (.s (.s .o (.c (.s .o .o) .o)) (.s (.s .o (.c (.s (.s .o (.b (.l ⟨[(2, .px 2 0), (3, .px 3 0), (5, .it .i64)], [(2, 27, [.kp 35, .kp 36, .kp 37]), (3, 27, [.kp 38, .kp 39, .kp 40])], []⟩ (fun _ => (.s (.j ⟨[(2, .px 2 0), (3, .px 3 0), (5, .kp 44), (30, .bl)], [(2, 27, [.kp 35, .kp 36, .kp 37]), (3, 27, [.kp 38, .kp 39, .kp 40])], []⟩ .o (fun _ => (.c .o .o))) (.s (.b (.s .o (.c (.s .o .o) .o))) .o)))))) (.s .o .o)) .o)) (.s .o .o))))
noncomputable def ref06_Before_cf : Cf KK := ⟨CC, [], 63⟩

set_option maxRecDepth 100000 in
theorem ref06_Before_ok : SpOk Tryd.prog CC ref06_Before_sp := by
  intro env r hF h
  obtain ⟨a0, env0, rfl, h1⟩ := appW_v h
  obtain ⟨a1, env1, rfl, h2⟩ := appW_v h1
  obtain ⟨rfl, h3⟩ := appW_n h2
  obtain ⟨r0, rr0, rfl, h4⟩ := apR_v h3
  obtain ⟨rfl, h5⟩ := apR_n h4
  refine ⟨rfl, DnF_by (F := ref06_Before_cf) CC_ok SsOk_n t14 (A := ref06_Before_an) (ps := [.v 27, .v 27]) (rs := [4]) (env := [.d (.v 27 a0), .d (.v 27 a1)]) (r := [.v 4 r0]) (X := ref06_Before_o a0 a1 r0) rfl (Nat.le_of_ble_eq_true rfl) rfl hF h5 ?_⟩
  kernel_rfl

def ref06_add_J1 (r0 : Int) (r1 : Bool) (a0 : Int) (a1 : Int) (x1 : Bool) : Prop :=
  cnd x1 ((0 : Int) = r0 ∧ false = r1) ((IntKind.i64.wrap (a0 + a1)) = r0 ∧ true = r1)
def ref06_add_o (a0 : Int) (a1 : Int) (r0 : Int) (r1 : Bool) : Prop :=
  ∀ J1 : Bool → Prop, (∀ (x1 : Bool), ref06_add_J1 r0 r1 a0 a1 x1 → J1 x1) → cnd (decide ((0 : Int) < a1)) (cnd (decide ((IntKind.i64.wrap ((9223372036854775807 : Int) - a1)) < a0)) (J1 true) (cnd (decide (a1 < (0 : Int))) (J1 (decide (a0 < (IntKind.i64.wrap ((-9223372036854775808 : Int) - a1))))) (J1 false))) (cnd (decide (a1 < (0 : Int))) (J1 (decide (a0 < (IntKind.i64.wrap ((-9223372036854775808 : Int) - a1))))) (J1 false))
def ref06_add_J1i (a0 : Int) (a1 : Int) (r0 : Int) (r1 : Bool) (x1 : Bool) : Prop :=
  cnd x1 ((0 : Int) = r0 ∧ false = r1) ((IntKind.i64.wrap (a0 + a1)) = r0 ∧ true = r1)
def ref06_add_oi (a0 : Int) (a1 : Int) (r0 : Int) (r1 : Bool) : Prop :=
  cnd (decide ((0 : Int) < a1)) (cnd (decide ((IntKind.i64.wrap ((9223372036854775807 : Int) - a1)) < a0)) (ref06_add_J1i a0 a1 r0 r1 true) (cnd (decide (a1 < (0 : Int))) (ref06_add_J1i a0 a1 r0 r1 (decide (a0 < (IntKind.i64.wrap ((-9223372036854775808 : Int) - a1))))) (ref06_add_J1i a0 a1 r0 r1 false))) (cnd (decide (a1 < (0 : Int))) (ref06_add_J1i a0 a1 r0 r1 (decide (a0 < (IntKind.i64.wrap ((-9223372036854775808 : Int) - a1))))) (ref06_add_J1i a0 a1 r0 r1 false))
theorem ref06_add_J1_m (a0 : Int) (a1 : Int) (r0 : Int) (r1 : Bool) {x1 : Bool} (h : ref06_add_J1i a0 a1 r0 r1 x1) : ref06_add_J1 r0 r1 a0 a1 x1 := by
  unfold ref06_add_J1
  unfold ref06_add_J1i at h
  exact h
theorem ref06_add_i (a0 : Int) (a1 : Int) (r0 : Int) (r1 : Bool) (h : ref06_add_oi a0 a1 r0 r1) : ref06_add_o a0 a1 r0 r1 := by
  unfold ref06_add_o
  unfold ref06_add_oi at h
  intro J1 kJ1
  have hJ1 : ∀ (x1 : Bool), ref06_add_J1i a0 a1 r0 r1 x1 → J1 x1 := fun x1 q => kJ1 x1 (ref06_add_J1_m a0 a1 r0 r1 q)
  refine cnd_mono h (fun h => ?_) (fun h => ?_)
  · refine cnd_mono h (fun h => ?_) (fun h => ?_)
    · exact hJ1 _ h
    · refine cnd_mono h (fun h => ?_) (fun h => ?_)
      · exact hJ1 _ h
      · exact hJ1 _ h
  · refine cnd_mono h (fun h => ?_) (fun h => ?_)
    · exact hJ1 _ h
    · exact hJ1 _ h
noncomputable def ref06_add_sp : Sp KK := ⟨46, [.v 2, .v 2], [2, 4], appW (K := KK) [2, 4] [.v 2, .v 2] ref06_add_o⟩
noncomputable def ref06_add_an : An KK := (.s .o (.s (.j ⟨[(0, .kp 3), (1, .kp 4), (23, .bl)], [], []⟩ .o (fun _ => (.c (.s .o .o) .o))) (.s .o .o)))
noncomputable def ref06_add_cf : Cf KK := ⟨CC, [], 27⟩

set_option maxRecDepth 100000 in
theorem ref06_add_ok : SpOk Tryd.prog CC ref06_add_sp := by
  intro env r hF h
  obtain ⟨a0, env0, rfl, h1⟩ := appW_v h
  obtain ⟨a1, env1, rfl, h2⟩ := appW_v h1
  obtain ⟨rfl, h3⟩ := appW_n h2
  obtain ⟨r0, rr0, rfl, h4⟩ := apR_v h3
  obtain ⟨r1, rr1, rfl, h5⟩ := apR_v h4
  obtain ⟨rfl, h6⟩ := apR_n h5
  refine ⟨rfl, DnF_by (F := ref06_add_cf) CC_ok SsOk_n t46 (A := ref06_add_an) (ps := [.v 2, .v 2]) (rs := [2, 4]) (env := [.d (.v 2 a0), .d (.v 2 a1)]) (r := [.v 2 r0, .v 4 r1]) (X := ref06_add_o a0 a1 r0 r1) rfl (Nat.le_of_ble_eq_true rfl) rfl hF h6 ?_⟩
  kernel_rfl

def ref06_times_J2 (r0 : Int) (r1 : Bool) (a1 : Int) (a0 : Int) (x2 : Bool) : Prop :=
  cnd x2 ((0 : Int) = r0 ∧ false = r1) ((a1 ≠ 0) ∧ (IntKind.i64.wrap (a0 * a1)) = r0 ∧ ((IntKind.i64.wrap ((IntKind.i64.wrap (a0 * a1)).tdiv a1)) == a0) = r1)
def ref06_times_J1 (r0 : Int) (r1 : Bool) (a1 : Int) (a0 : Int) (x1 : Bool) : Prop :=
  cnd x1 ((0 : Int) = r0 ∧ true = r1) (∀ J2 : Bool → Prop, (∀ (x2 : Bool), ref06_times_J2 r0 r1 a1 a0 x2 → J2 x2) → cnd (a0 == (-1 : Int)) (cnd (a1 == (-9223372036854775808 : Int)) (J2 true) (cnd (a1 == (-1 : Int)) (J2 (a0 == (-9223372036854775808 : Int))) (J2 false))) (cnd (a1 == (-1 : Int)) (J2 (a0 == (-9223372036854775808 : Int))) (J2 false)))
def ref06_times_o (a0 : Int) (a1 : Int) (r0 : Int) (r1 : Bool) : Prop :=
  ∀ J1 : Bool → Prop, (∀ (x1 : Bool), ref06_times_J1 r0 r1 a1 a0 x1 → J1 x1) → cnd (a0 == (0 : Int)) (J1 true) (J1 (a1 == (0 : Int)))
def ref06_times_J2i (a0 : Int) (a1 : Int) (r0 : Int) (r1 : Bool) (x2 : Bool) : Prop :=
  cnd x2 ((0 : Int) = r0 ∧ false = r1) ((a1 ≠ 0) ∧ (IntKind.i64.wrap (a0 * a1)) = r0 ∧ ((IntKind.i64.wrap ((IntKind.i64.wrap (a0 * a1)).tdiv a1)) == a0) = r1)
def ref06_times_J1i (a0 : Int) (a1 : Int) (r0 : Int) (r1 : Bool) (x1 : Bool) : Prop :=
  cnd x1 ((0 : Int) = r0 ∧ true = r1) (cnd (a0 == (-1 : Int)) (cnd (a1 == (-9223372036854775808 : Int)) (ref06_times_J2i a0 a1 r0 r1 true) (cnd (a1 == (-1 : Int)) (ref06_times_J2i a0 a1 r0 r1 (a0 == (-9223372036854775808 : Int))) (ref06_times_J2i a0 a1 r0 r1 false))) (cnd (a1 == (-1 : Int)) (ref06_times_J2i a0 a1 r0 r1 (a0 == (-9223372036854775808 : Int))) (ref06_times_J2i a0 a1 r0 r1 false)))
def ref06_times_oi (a0 : Int) (a1 : Int) (r0 : Int) (r1 : Bool) : Prop :=
  cnd (a0 == (0 : Int)) (ref06_times_J1i a0 a1 r0 r1 true) (ref06_times_J1i a0 a1 r0 r1 (a1 == (0 : Int)))
theorem ref06_times_J2_m (a0 : Int) (a1 : Int) (r0 : Int) (r1 : Bool) {x2 : Bool} (h : ref06_times_J2i a0 a1 r0 r1 x2) : ref06_times_J2 r0 r1 a1 a0 x2 := by
  unfold ref06_times_J2
  unfold ref06_times_J2i at h
  exact h
theorem ref06_times_J1_m (a0 : Int) (a1 : Int) (r0 : Int) (r1 : Bool) {x1 : Bool} (h : ref06_times_J1i a0 a1 r0 r1 x1) : ref06_times_J1 r0 r1 a1 a0 x1 := by
  unfold ref06_times_J1
  unfold ref06_times_J1i at h
  refine cnd_mono h (fun h => ?_) (fun h => ?_)
  · exact h
  · intro J2 kJ2
    have hJ2 : ∀ (x2 : Bool), ref06_times_J2i a0 a1 r0 r1 x2 → J2 x2 := fun x2 q => kJ2 x2 (ref06_times_J2_m a0 a1 r0 r1 q)
    refine cnd_mono h (fun h => ?_) (fun h => ?_)
    · refine cnd_mono h (fun h => ?_) (fun h => ?_)
      · exact hJ2 _ h
      · refine cnd_mono h (fun h => ?_) (fun h => ?_)
        · exact hJ2 _ h
        · exact hJ2 _ h
    · refine cnd_mono h (fun h => ?_) (fun h => ?_)
      · exact hJ2 _ h
      · exact hJ2 _ h
theorem ref06_times_i (a0 : Int) (a1 : Int) (r0 : Int) (r1 : Bool) (h : ref06_times_oi a0 a1 r0 r1) : ref06_times_o a0 a1 r0 r1 := by
  unfold ref06_times_o
  unfold ref06_times_oi at h
  intro J1 kJ1
  have hJ1 : ∀ (x1 : Bool), ref06_times_J1i a0 a1 r0 r1 x1 → J1 x1 := fun x1 q => kJ1 x1 (ref06_times_J1_m a0 a1 r0 r1 q)
  refine cnd_mono h (fun h => ?_) (fun h => ?_)
  · exact hJ1 _ h
  · exact hJ1 _ h
noncomputable def ref06_times_sp : Sp KK := ⟨47, [.v 2, .v 2], [2, 4], appW (K := KK) [2, 4] [.v 2, .v 2] ref06_times_o⟩
noncomputable def ref06_times_an : An KK := (.s .o (.s (.j ⟨[(0, .kp 3), (1, .kp 4), (12, .bl)], [], []⟩ .o (fun _ => (.c (.s .o .o) .o))) (.s .o (.s (.j ⟨[(0, .kp 3), (1, .kp 4), (6, .kp 6), (29, .bl)], [], []⟩ .o (fun _ => (.c (.s .o .o) .o))) (.s .o .o)))))
noncomputable def ref06_times_cf : Cf KK := ⟨CC, [], 36⟩

set_option maxRecDepth 100000 in
theorem ref06_times_ok : SpOk Tryd.prog CC ref06_times_sp := by
  intro env r hF h
  obtain ⟨a0, env0, rfl, h1⟩ := appW_v h
  obtain ⟨a1, env1, rfl, h2⟩ := appW_v h1
  obtain ⟨rfl, h3⟩ := appW_n h2
  obtain ⟨r0, rr0, rfl, h4⟩ := apR_v h3
  obtain ⟨r1, rr1, rfl, h5⟩ := apR_v h4
  obtain ⟨rfl, h6⟩ := apR_n h5
  refine ⟨rfl, DnF_by (F := ref06_times_cf) CC_ok SsOk_n t47 (A := ref06_times_an) (ps := [.v 2, .v 2]) (rs := [2, 4]) (env := [.d (.v 2 a0), .d (.v 2 a1)]) (r := [.v 2 r0, .v 4 r1]) (X := ref06_times_o a0 a1 r0 r1) rfl (Nat.le_of_ble_eq_true rfl) rfl hF h6 ?_⟩
  kernel_rfl

def ref06_Do_J9 (z9 : T_ref06_Value) (r0 : T_ref06_Value) (r1 : Int) (x1 : Bool) (a0 : Int) (x10 : Bool) : Prop :=
  cnd x10 (z9 = r0 ∧ (0 : Int) = r1) (cnd x1 ((⟨(0 : Int), (0 : Int), ([] : Str)⟩ : T_ref06_Value) = r0 ∧ (0 : Int) = r1) (∃ z11 : T_ref06_Value, (ref06_boolean_o (a0 == (13 : Int)) z11) ∧ z11 = r0 ∧ (0 : Int) = r1))
def ref06_Do_J10 (r0 : T_ref06_Value) (r1 : Int) (x22 : Int) (x23 : Bool) : Prop :=
  cnd (!x23) ((⟨(0 : Int), (0 : Int), ([] : Str)⟩ : T_ref06_Value) = r0 ∧ (8 : Int) = r1) ((⟨(2 : Int), x22, ([] : Str)⟩ : T_ref06_Value) = r0 ∧ (0 : Int) = r1)
def ref06_Do_J8 (a0 : Int) (r0 : T_ref06_Value) (r1 : Int) (x1 : Bool) (a1 : T_ref06_Value) (a2 : T_ref06_Value) (x8 : Bool) : Prop :=
  cnd x8 (∃ z9 : T_ref06_Value, (ref06_boolean_o (a0 == (14 : Int)) z9) ∧ ∀ J9 : Bool → Prop, (∀ (x10 : Bool), ref06_Do_J9 z9 r0 r1 x1 a0 x10 → J9 x10) → cnd ((a1.Kind == z9.Kind) && ((a1.N == z9.N) && ((a1.S == z9.S) && true))) (J9 true) (J9 ((a2.Kind == z9.Kind) && ((a2.N == z9.N) && ((a2.S == z9.S) && true))))) (cnd x1 ((⟨(0 : Int), (0 : Int), ([] : Str)⟩ : T_ref06_Value) = r0 ∧ (0 : Int) = r1) (cnd (a0 == (1 : Int)) (∃ z12 : T_ref06_Value, (ref06_boolean_o ((a1.Kind == a2.Kind) && ((a1.N == a2.N) && ((a1.S == a2.S) && true))) z12) ∧ z12 = r0 ∧ (0 : Int) = r1) (cnd (a0 == (2 : Int)) (∃ z13 : T_ref06_Value, (ref06_boolean_o (!((a1.Kind == a2.Kind) && ((a1.N == a2.N) && ((a1.S == a2.S) && true)))) z13) ∧ z13 = r0 ∧ (0 : Int) = r1) (cnd (a0 == (3 : Int)) (∃ z14 : Bool, (ref06_Before_o a1 a2 z14) ∧ ∃ z15 : T_ref06_Value, (ref06_boolean_o z14 z15) ∧ z15 = r0 ∧ (0 : Int) = r1) (cnd (a0 == (4 : Int)) (∃ z16 : Bool, (ref06_Before_o a2 a1 z16) ∧ ∃ z17 : T_ref06_Value, (ref06_boolean_o (!z16) z17) ∧ z17 = r0 ∧ (0 : Int) = r1) (cnd (a0 == (5 : Int)) (∃ z18 : Bool, (ref06_Before_o a2 a1 z18) ∧ ∃ z19 : T_ref06_Value, (ref06_boolean_o z18 z19) ∧ z19 = r0 ∧ (0 : Int) = r1) (cnd (a0 == (6 : Int)) (∃ z20 : Bool, (ref06_Before_o a1 a2 z20) ∧ ∃ z21 : T_ref06_Value, (ref06_boolean_o (!z20) z21) ∧ z21 = r0 ∧ (0 : Int) = r1) (cnd (a0 == (12 : Int)) ((a1.S.length + a2.S.length ≤ 9223372036854775807) ∧ cnd (decide ((64 : Int) < ((a1.S ++ a2.S).length : Int))) ((⟨(0 : Int), (0 : Int), ([] : Str)⟩ : T_ref06_Value) = r0 ∧ (8 : Int) = r1) ((a1.S.length + a2.S.length ≤ 9223372036854775807) ∧ (⟨(3 : Int), (0 : Int), a1.S ++ a2.S⟩ : T_ref06_Value) = r0 ∧ (0 : Int) = r1)) (∀ J10 : Int → Bool → Prop, (∀ (x22 : Int) (x23 : Bool), ref06_Do_J10 r0 r1 x22 x23 → J10 x22 x23) → cnd (a0 == (7 : Int)) (∃ z24 : Int, ∃ z25 : Bool, (ref06_add_o a1.N a2.N z24 z25) ∧ J10 z24 z25) (cnd (a0 == (8 : Int)) (cnd (a2.N == (-9223372036854775808 : Int)) (J10 (IntKind.i64.wrap (a1.N - a2.N)) (decide (a1.N < (0 : Int)))) (∃ z26 : Int, ∃ z27 : Bool, (ref06_add_o a1.N (IntKind.i64.wrap (0 - a2.N)) z26 z27) ∧ J10 z26 z27)) (cnd (a0 == (9 : Int)) (∃ z28 : Int, ∃ z29 : Bool, (ref06_times_o a1.N a2.N z28 z29) ∧ J10 z28 z29) (cnd (a2.N == (0 : Int)) ((⟨(0 : Int), (0 : Int), ([] : Str)⟩ : T_ref06_Value) = r0 ∧ (9 : Int) = r1) (cnd (a2.N == (-1 : Int)) (cnd (a0 == (11 : Int)) ((⟨(2 : Int), (0 : Int), ([] : Str)⟩ : T_ref06_Value) = r0 ∧ (0 : Int) = r1) (J10 (IntKind.i64.wrap (0 - a1.N)) (!(a1.N == (-9223372036854775808 : Int))))) (cnd (a0 == (10 : Int)) ((a2.N ≠ 0) ∧ J10 (IntKind.i64.wrap (a1.N.tdiv a2.N)) true) ((a2.N ≠ 0) ∧ J10 (IntKind.i64.wrap (a1.N - (IntKind.i64.wrap ((IntKind.i64.wrap (a1.N.tdiv a2.N)) * a2.N)))) true)))))))))))))))
def ref06_Do_J7 (r0 : T_ref06_Value) (r1 : Int) (a0 : Int) (x1 : Bool) (a1 : T_ref06_Value) (a2 : T_ref06_Value) (x7 : Bool) : Prop :=
  cnd x7 ((⟨(0 : Int), (0 : Int), ([] : Str)⟩ : T_ref06_Value) = r0 ∧ (5 : Int) = r1) (∀ J8 : Bool → Prop, (∀ (x8 : Bool), ref06_Do_J8 a0 r0 r1 x1 a1 a2 x8 → J8 x8) → cnd (a0 == (13 : Int)) (J8 true) (J8 (a0 == (14 : Int))))
def ref06_Do_J6 (r0 : T_ref06_Value) (r1 : Int) (a0 : Int) (x1 : Bool) (a1 : T_ref06_Value) (a2 : T_ref06_Value) (x6 : Int) : Prop :=
  ∀ J7 : Bool → Prop, (∀ (x7 : Bool), ref06_Do_J7 r0 r1 a0 x1 a1 a2 x7 → J7 x7) → cnd (decide ((0 : Int) < x6)) (cnd (!(a1.Kind == (0 : Int))) (cnd (!(a1.Kind == x6)) (J7 true) (cnd (!(a2.Kind == (0 : Int))) (J7 (!(a2.Kind == x6))) (J7 false))) (cnd (!(a2.Kind == (0 : Int))) (J7 (!(a2.Kind == x6))) (J7 false))) (J7 false)
def ref06_Do_J5 (r0 : T_ref06_Value) (r1 : Int) (a0 : Int) (x1 : Bool) (a1 : T_ref06_Value) (a2 : T_ref06_Value) (x5 : Int) : Prop :=
  ∀ J6 : Int → Prop, (∀ (x6 : Int), ref06_Do_J6 r0 r1 a0 x1 a1 a2 x6 → J6 x6) → cnd (decide ((13 : Int) ≤ a0)) (J6 (1 : Int)) (J6 x5)
def ref06_Do_J4 (r0 : T_ref06_Value) (r1 : Int) (a0 : Int) (x1 : Bool) (a1 : T_ref06_Value) (a2 : T_ref06_Value) (x4 : Int) : Prop :=
  ∀ J5 : Int → Prop, (∀ (x5 : Int), ref06_Do_J5 r0 r1 a0 x1 a1 a2 x5 → J5 x5) → cnd (a0 == (12 : Int)) (J5 (3 : Int)) (J5 x4)
def ref06_Do_J3 (r0 : T_ref06_Value) (r1 : Int) (a0 : Int) (x1 : Bool) (a1 : T_ref06_Value) (a2 : T_ref06_Value) (x3 : Bool) : Prop :=
  cnd x3 ((⟨(0 : Int), (0 : Int), ([] : Str)⟩ : T_ref06_Value) = r0 ∧ (5 : Int) = r1) (∀ J4 : Int → Prop, (∀ (x4 : Int), ref06_Do_J4 r0 r1 a0 x1 a1 a2 x4 → J4 x4) → cnd (decide ((7 : Int) ≤ a0)) (J4 (2 : Int)) (J4 (0 : Int)))
def ref06_Do_J2 (r0 : T_ref06_Value) (r1 : Int) (a0 : Int) (x1 : Bool) (a1 : T_ref06_Value) (a2 : T_ref06_Value) (x2 : Bool) : Prop :=
  cnd x2 ((⟨(0 : Int), (0 : Int), ([] : Str)⟩ : T_ref06_Value) = r0 ∧ (1 : Int) = r1) (∀ J3 : Bool → Prop, (∀ (x3 : Bool), ref06_Do_J3 r0 r1 a0 x1 a1 a2 x3 → J3 x3) → cnd (decide (a0 ≤ (6 : Int))) (cnd (!x1) (J3 (!(a1.Kind == a2.Kind))) (J3 false)) (J3 false))
def ref06_Do_J1 (r0 : T_ref06_Value) (r1 : Int) (a0 : Int) (a1 : T_ref06_Value) (a2 : T_ref06_Value) (x1 : Bool) : Prop :=
  ∀ J2 : Bool → Prop, (∀ (x2 : Bool), ref06_Do_J2 r0 r1 a0 x1 a1 a2 x2 → J2 x2) → cnd (decide (a0 < (1 : Int))) (J2 true) (J2 (decide ((14 : Int) < a0)))
def ref06_Do_o (a0 : Int) (a1 : T_ref06_Value) (a2 : T_ref06_Value) (r0 : T_ref06_Value) (r1 : Int) : Prop :=
  ∀ J1 : Bool → Prop, (∀ (x1 : Bool), ref06_Do_J1 r0 r1 a0 a1 a2 x1 → J1 x1) → cnd (a1.Kind == (0 : Int)) (J1 true) (J1 (a2.Kind == (0 : Int)))
def ref06_Do_J9i (a0 : Int) (r0 : T_ref06_Value) (r1 : Int) (x1 : Bool) (z9 : T_ref06_Value) (x10 : Bool) : Prop :=
  cnd x10 (z9 = r0 ∧ (0 : Int) = r1) (cnd x1 ((⟨(0 : Int), (0 : Int), ([] : Str)⟩ : T_ref06_Value) = r0 ∧ (0 : Int) = r1) (∃ z11 : T_ref06_Value, (ref06_boolean_o (a0 == (13 : Int)) z11) ∧ z11 = r0 ∧ (0 : Int) = r1))
def ref06_Do_J10i (r0 : T_ref06_Value) (r1 : Int) (x22 : Int) (x23 : Bool) : Prop :=
  cnd (!x23) ((⟨(0 : Int), (0 : Int), ([] : Str)⟩ : T_ref06_Value) = r0 ∧ (8 : Int) = r1) ((⟨(2 : Int), x22, ([] : Str)⟩ : T_ref06_Value) = r0 ∧ (0 : Int) = r1)
def ref06_Do_J8i (a0 : Int) (a1 : T_ref06_Value) (a2 : T_ref06_Value) (r0 : T_ref06_Value) (r1 : Int) (x1 : Bool) (x8 : Bool) : Prop :=
  cnd x8 (∃ z9 : T_ref06_Value, (ref06_boolean_o (a0 == (14 : Int)) z9) ∧ cnd ((a1.Kind == z9.Kind) && ((a1.N == z9.N) && ((a1.S == z9.S) && true))) (ref06_Do_J9i a0 r0 r1 x1 z9 true) (ref06_Do_J9i a0 r0 r1 x1 z9 ((a2.Kind == z9.Kind) && ((a2.N == z9.N) && ((a2.S == z9.S) && true))))) (cnd x1 ((⟨(0 : Int), (0 : Int), ([] : Str)⟩ : T_ref06_Value) = r0 ∧ (0 : Int) = r1) (cnd (a0 == (1 : Int)) (∃ z12 : T_ref06_Value, (ref06_boolean_o ((a1.Kind == a2.Kind) && ((a1.N == a2.N) && ((a1.S == a2.S) && true))) z12) ∧ z12 = r0 ∧ (0 : Int) = r1) (cnd (a0 == (2 : Int)) (∃ z13 : T_ref06_Value, (ref06_boolean_o (!((a1.Kind == a2.Kind) && ((a1.N == a2.N) && ((a1.S == a2.S) && true)))) z13) ∧ z13 = r0 ∧ (0 : Int) = r1) (cnd (a0 == (3 : Int)) (∃ z14 : Bool, (ref06_Before_o a1 a2 z14) ∧ ∃ z15 : T_ref06_Value, (ref06_boolean_o z14 z15) ∧ z15 = r0 ∧ (0 : Int) = r1) (cnd (a0 == (4 : Int)) (∃ z16 : Bool, (ref06_Before_o a2 a1 z16) ∧ ∃ z17 : T_ref06_Value, (ref06_boolean_o (!z16) z17) ∧ z17 = r0 ∧ (0 : Int) = r1) (cnd (a0 == (5 : Int)) (∃ z18 : Bool, (ref06_Before_o a2 a1 z18) ∧ ∃ z19 : T_ref06_Value, (ref06_boolean_o z18 z19) ∧ z19 = r0 ∧ (0 : Int) = r1) (cnd (a0 == (6 : Int)) (∃ z20 : Bool, (ref06_Before_o a1 a2 z20) ∧ ∃ z21 : T_ref06_Value, (ref06_boolean_o (!z20) z21) ∧ z21 = r0 ∧ (0 : Int) = r1) (cnd (a0 == (12 : Int)) ((a1.S.length + a2.S.length ≤ 9223372036854775807) ∧ cnd (decide ((64 : Int) < ((a1.S ++ a2.S).length : Int))) ((⟨(0 : Int), (0 : Int), ([] : Str)⟩ : T_ref06_Value) = r0 ∧ (8 : Int) = r1) ((a1.S.length + a2.S.length ≤ 9223372036854775807) ∧ (⟨(3 : Int), (0 : Int), a1.S ++ a2.S⟩ : T_ref06_Value) = r0 ∧ (0 : Int) = r1)) (cnd (a0 == (7 : Int)) (∃ z24 : Int, ∃ z25 : Bool, (ref06_add_o a1.N a2.N z24 z25) ∧ ref06_Do_J10i r0 r1 z24 z25) (cnd (a0 == (8 : Int)) (cnd (a2.N == (-9223372036854775808 : Int)) (ref06_Do_J10i r0 r1 (IntKind.i64.wrap (a1.N - a2.N)) (decide (a1.N < (0 : Int)))) (∃ z26 : Int, ∃ z27 : Bool, (ref06_add_o a1.N (IntKind.i64.wrap (0 - a2.N)) z26 z27) ∧ ref06_Do_J10i r0 r1 z26 z27)) (cnd (a0 == (9 : Int)) (∃ z28 : Int, ∃ z29 : Bool, (ref06_times_o a1.N a2.N z28 z29) ∧ ref06_Do_J10i r0 r1 z28 z29) (cnd (a2.N == (0 : Int)) ((⟨(0 : Int), (0 : Int), ([] : Str)⟩ : T_ref06_Value) = r0 ∧ (9 : Int) = r1) (cnd (a2.N == (-1 : Int)) (cnd (a0 == (11 : Int)) ((⟨(2 : Int), (0 : Int), ([] : Str)⟩ : T_ref06_Value) = r0 ∧ (0 : Int) = r1) (ref06_Do_J10i r0 r1 (IntKind.i64.wrap (0 - a1.N)) (!(a1.N == (-9223372036854775808 : Int))))) (cnd (a0 == (10 : Int)) ((a2.N ≠ 0) ∧ ref06_Do_J10i r0 r1 (IntKind.i64.wrap (a1.N.tdiv a2.N)) true) ((a2.N ≠ 0) ∧ ref06_Do_J10i r0 r1 (IntKind.i64.wrap (a1.N - (IntKind.i64.wrap ((IntKind.i64.wrap (a1.N.tdiv a2.N)) * a2.N)))) true)))))))))))))))
def ref06_Do_J7i (a0 : Int) (a1 : T_ref06_Value) (a2 : T_ref06_Value) (r0 : T_ref06_Value) (r1 : Int) (x1 : Bool) (x7 : Bool) : Prop :=
  cnd x7 ((⟨(0 : Int), (0 : Int), ([] : Str)⟩ : T_ref06_Value) = r0 ∧ (5 : Int) = r1) (cnd (a0 == (13 : Int)) (ref06_Do_J8i a0 a1 a2 r0 r1 x1 true) (ref06_Do_J8i a0 a1 a2 r0 r1 x1 (a0 == (14 : Int))))
def ref06_Do_J6i (a0 : Int) (a1 : T_ref06_Value) (a2 : T_ref06_Value) (r0 : T_ref06_Value) (r1 : Int) (x1 : Bool) (x6 : Int) : Prop :=
  cnd (decide ((0 : Int) < x6)) (cnd (!(a1.Kind == (0 : Int))) (cnd (!(a1.Kind == x6)) (ref06_Do_J7i a0 a1 a2 r0 r1 x1 true) (cnd (!(a2.Kind == (0 : Int))) (ref06_Do_J7i a0 a1 a2 r0 r1 x1 (!(a2.Kind == x6))) (ref06_Do_J7i a0 a1 a2 r0 r1 x1 false))) (cnd (!(a2.Kind == (0 : Int))) (ref06_Do_J7i a0 a1 a2 r0 r1 x1 (!(a2.Kind == x6))) (ref06_Do_J7i a0 a1 a2 r0 r1 x1 false))) (ref06_Do_J7i a0 a1 a2 r0 r1 x1 false)
def ref06_Do_J5i (a0 : Int) (a1 : T_ref06_Value) (a2 : T_ref06_Value) (r0 : T_ref06_Value) (r1 : Int) (x1 : Bool) (x5 : Int) : Prop :=
  cnd (decide ((13 : Int) ≤ a0)) (ref06_Do_J6i a0 a1 a2 r0 r1 x1 (1 : Int)) (ref06_Do_J6i a0 a1 a2 r0 r1 x1 x5)
def ref06_Do_J4i (a0 : Int) (a1 : T_ref06_Value) (a2 : T_ref06_Value) (r0 : T_ref06_Value) (r1 : Int) (x1 : Bool) (x4 : Int) : Prop :=
  cnd (a0 == (12 : Int)) (ref06_Do_J5i a0 a1 a2 r0 r1 x1 (3 : Int)) (ref06_Do_J5i a0 a1 a2 r0 r1 x1 x4)
def ref06_Do_J3i (a0 : Int) (a1 : T_ref06_Value) (a2 : T_ref06_Value) (r0 : T_ref06_Value) (r1 : Int) (x1 : Bool) (x3 : Bool) : Prop :=
  cnd x3 ((⟨(0 : Int), (0 : Int), ([] : Str)⟩ : T_ref06_Value) = r0 ∧ (5 : Int) = r1) (cnd (decide ((7 : Int) ≤ a0)) (ref06_Do_J4i a0 a1 a2 r0 r1 x1 (2 : Int)) (ref06_Do_J4i a0 a1 a2 r0 r1 x1 (0 : Int)))
def ref06_Do_J2i (a0 : Int) (a1 : T_ref06_Value) (a2 : T_ref06_Value) (r0 : T_ref06_Value) (r1 : Int) (x1 : Bool) (x2 : Bool) : Prop :=
  cnd x2 ((⟨(0 : Int), (0 : Int), ([] : Str)⟩ : T_ref06_Value) = r0 ∧ (1 : Int) = r1) (cnd (decide (a0 ≤ (6 : Int))) (cnd (!x1) (ref06_Do_J3i a0 a1 a2 r0 r1 x1 (!(a1.Kind == a2.Kind))) (ref06_Do_J3i a0 a1 a2 r0 r1 x1 false)) (ref06_Do_J3i a0 a1 a2 r0 r1 x1 false))
def ref06_Do_J1i (a0 : Int) (a1 : T_ref06_Value) (a2 : T_ref06_Value) (r0 : T_ref06_Value) (r1 : Int) (x1 : Bool) : Prop :=
  cnd (decide (a0 < (1 : Int))) (ref06_Do_J2i a0 a1 a2 r0 r1 x1 true) (ref06_Do_J2i a0 a1 a2 r0 r1 x1 (decide ((14 : Int) < a0)))
def ref06_Do_oi (a0 : Int) (a1 : T_ref06_Value) (a2 : T_ref06_Value) (r0 : T_ref06_Value) (r1 : Int) : Prop :=
  cnd (a1.Kind == (0 : Int)) (ref06_Do_J1i a0 a1 a2 r0 r1 true) (ref06_Do_J1i a0 a1 a2 r0 r1 (a2.Kind == (0 : Int)))
theorem ref06_Do_J9_m (a0 : Int) (r0 : T_ref06_Value) (r1 : Int) (x1 : Bool) (z9 : T_ref06_Value) {x10 : Bool} (h : ref06_Do_J9i a0 r0 r1 x1 z9 x10) : ref06_Do_J9 z9 r0 r1 x1 a0 x10 := by
  unfold ref06_Do_J9
  unfold ref06_Do_J9i at h
  exact h
theorem ref06_Do_J10_m (r0 : T_ref06_Value) (r1 : Int) {x22 : Int} {x23 : Bool} (h : ref06_Do_J10i r0 r1 x22 x23) : ref06_Do_J10 r0 r1 x22 x23 := by
  unfold ref06_Do_J10
  unfold ref06_Do_J10i at h
  exact h
theorem ref06_Do_J8_m (a0 : Int) (a1 : T_ref06_Value) (a2 : T_ref06_Value) (r0 : T_ref06_Value) (r1 : Int) (x1 : Bool) {x8 : Bool} (h : ref06_Do_J8i a0 a1 a2 r0 r1 x1 x8) : ref06_Do_J8 a0 r0 r1 x1 a1 a2 x8 := by
  unfold ref06_Do_J8
  unfold ref06_Do_J8i at h
  refine cnd_mono h (fun h => ?_) (fun h => ?_)
  · obtain ⟨z9, h⟩ := h
    refine ⟨z9, ?_⟩
    obtain ⟨h0, h⟩ := h
    refine ⟨h0, ?_⟩
    intro J9 kJ9
    have hJ9 : ∀ (x10 : Bool), ref06_Do_J9i a0 r0 r1 x1 z9 x10 → J9 x10 := fun x10 q => kJ9 x10 (ref06_Do_J9_m a0 r0 r1 x1 z9 q)
    refine cnd_mono h (fun h => ?_) (fun h => ?_)
    · exact hJ9 _ h
    · exact hJ9 _ h
  · refine cnd_mono h (fun h => ?_) (fun h => ?_)
    · exact h
    · refine cnd_mono h (fun h => ?_) (fun h => ?_)
      · exact h
      · refine cnd_mono h (fun h => ?_) (fun h => ?_)
        · exact h
        · refine cnd_mono h (fun h => ?_) (fun h => ?_)
          · exact h
          · refine cnd_mono h (fun h => ?_) (fun h => ?_)
            · exact h
            · refine cnd_mono h (fun h => ?_) (fun h => ?_)
              · exact h
              · refine cnd_mono h (fun h => ?_) (fun h => ?_)
                · exact h
                · refine cnd_mono h (fun h => ?_) (fun h => ?_)
                  · exact h
                  · intro J10 kJ10
                    have hJ10 : ∀ (x22 : Int) (x23 : Bool), ref06_Do_J10i r0 r1 x22 x23 → J10 x22 x23 := fun x22 x23 q => kJ10 x22 x23 (ref06_Do_J10_m r0 r1 q)
                    refine cnd_mono h (fun h => ?_) (fun h => ?_)
                    · obtain ⟨z24, h⟩ := h
                      refine ⟨z24, ?_⟩
                      obtain ⟨z25, h⟩ := h
                      refine ⟨z25, ?_⟩
                      obtain ⟨h0, h⟩ := h
                      refine ⟨h0, ?_⟩
                      exact hJ10 _ _ h
                    · refine cnd_mono h (fun h => ?_) (fun h => ?_)
                      · refine cnd_mono h (fun h => ?_) (fun h => ?_)
                        · exact hJ10 _ _ h
                        · obtain ⟨z26, h⟩ := h
                          refine ⟨z26, ?_⟩
                          obtain ⟨z27, h⟩ := h
                          refine ⟨z27, ?_⟩
                          obtain ⟨h0, h⟩ := h
                          refine ⟨h0, ?_⟩
                          exact hJ10 _ _ h
                      · refine cnd_mono h (fun h => ?_) (fun h => ?_)
                        · obtain ⟨z28, h⟩ := h
                          refine ⟨z28, ?_⟩
                          obtain ⟨z29, h⟩ := h
                          refine ⟨z29, ?_⟩
                          obtain ⟨h0, h⟩ := h
                          refine ⟨h0, ?_⟩
                          exact hJ10 _ _ h
                        · refine cnd_mono h (fun h => ?_) (fun h => ?_)
                          · exact h
                          · refine cnd_mono h (fun h => ?_) (fun h => ?_)
                            · refine cnd_mono h (fun h => ?_) (fun h => ?_)
                              · exact h
                              · exact hJ10 _ _ h
                            · refine cnd_mono h (fun h => ?_) (fun h => ?_)
                              · obtain ⟨h0, h⟩ := h
                                refine ⟨h0, ?_⟩
                                exact hJ10 _ _ h
                              · obtain ⟨h0, h⟩ := h
                                refine ⟨h0, ?_⟩
                                exact hJ10 _ _ h
theorem ref06_Do_J7_m (a0 : Int) (a1 : T_ref06_Value) (a2 : T_ref06_Value) (r0 : T_ref06_Value) (r1 : Int) (x1 : Bool) {x7 : Bool} (h : ref06_Do_J7i a0 a1 a2 r0 r1 x1 x7) : ref06_Do_J7 r0 r1 a0 x1 a1 a2 x7 := by
  unfold ref06_Do_J7
  unfold ref06_Do_J7i at h
  refine cnd_mono h (fun h => ?_) (fun h => ?_)
  · exact h
  · intro J8 kJ8
    have hJ8 : ∀ (x8 : Bool), ref06_Do_J8i a0 a1 a2 r0 r1 x1 x8 → J8 x8 := fun x8 q => kJ8 x8 (ref06_Do_J8_m a0 a1 a2 r0 r1 x1 q)
    refine cnd_mono h (fun h => ?_) (fun h => ?_)
    · exact hJ8 _ h
    · exact hJ8 _ h
theorem ref06_Do_J6_m (a0 : Int) (a1 : T_ref06_Value) (a2 : T_ref06_Value) (r0 : T_ref06_Value) (r1 : Int) (x1 : Bool) {x6 : Int} (h : ref06_Do_J6i a0 a1 a2 r0 r1 x1 x6) : ref06_Do_J6 r0 r1 a0 x1 a1 a2 x6 := by
  unfold ref06_Do_J6
  unfold ref06_Do_J6i at h
  intro J7 kJ7
  have hJ7 : ∀ (x7 : Bool), ref06_Do_J7i a0 a1 a2 r0 r1 x1 x7 → J7 x7 := fun x7 q => kJ7 x7 (ref06_Do_J7_m a0 a1 a2 r0 r1 x1 q)
  refine cnd_mono h (fun h => ?_) (fun h => ?_)
  · refine cnd_mono h (fun h => ?_) (fun h => ?_)
    · refine cnd_mono h (fun h => ?_) (fun h => ?_)
      · exact hJ7 _ h
      · refine cnd_mono h (fun h => ?_) (fun h => ?_)
        · exact hJ7 _ h
        · exact hJ7 _ h
    · refine cnd_mono h (fun h => ?_) (fun h => ?_)
      · exact hJ7 _ h
      · exact hJ7 _ h
  · exact hJ7 _ h
theorem ref06_Do_J5_m (a0 : Int) (a1 : T_ref06_Value) (a2 : T_ref06_Value) (r0 : T_ref06_Value) (r1 : Int) (x1 : Bool) {x5 : Int} (h : ref06_Do_J5i a0 a1 a2 r0 r1 x1 x5) : ref06_Do_J5 r0 r1 a0 x1 a1 a2 x5 := by
  unfold ref06_Do_J5
  unfold ref06_Do_J5i at h
  intro J6 kJ6
  have hJ6 : ∀ (x6 : Int), ref06_Do_J6i a0 a1 a2 r0 r1 x1 x6 → J6 x6 := fun x6 q => kJ6 x6 (ref06_Do_J6_m a0 a1 a2 r0 r1 x1 q)
  refine cnd_mono h (fun h => ?_) (fun h => ?_)
  · exact hJ6 _ h
  · exact hJ6 _ h
theorem ref06_Do_J4_m (a0 : Int) (a1 : T_ref06_Value) (a2 : T_ref06_Value) (r0 : T_ref06_Value) (r1 : Int) (x1 : Bool) {x4 : Int} (h : ref06_Do_J4i a0 a1 a2 r0 r1 x1 x4) : ref06_Do_J4 r0 r1 a0 x1 a1 a2 x4 := by
  unfold ref06_Do_J4
  unfold ref06_Do_J4i at h
  intro J5 kJ5
  have hJ5 : ∀ (x5 : Int), ref06_Do_J5i a0 a1 a2 r0 r1 x1 x5 → J5 x5 := fun x5 q => kJ5 x5 (ref06_Do_J5_m a0 a1 a2 r0 r1 x1 q)
  refine cnd_mono h (fun h => ?_) (fun h => ?_)
  · exact hJ5 _ h
  · exact hJ5 _ h
theorem ref06_Do_J3_m (a0 : Int) (a1 : T_ref06_Value) (a2 : T_ref06_Value) (r0 : T_ref06_Value) (r1 : Int) (x1 : Bool) {x3 : Bool} (h : ref06_Do_J3i a0 a1 a2 r0 r1 x1 x3) : ref06_Do_J3 r0 r1 a0 x1 a1 a2 x3 := by
  unfold ref06_Do_J3
  unfold ref06_Do_J3i at h
  refine cnd_mono h (fun h => ?_) (fun h => ?_)
  · exact h
  · intro J4 kJ4
    have hJ4 : ∀ (x4 : Int), ref06_Do_J4i a0 a1 a2 r0 r1 x1 x4 → J4 x4 := fun x4 q => kJ4 x4 (ref06_Do_J4_m a0 a1 a2 r0 r1 x1 q)
    refine cnd_mono h (fun h => ?_) (fun h => ?_)
    · exact hJ4 _ h
    · exact hJ4 _ h
theorem ref06_Do_J2_m (a0 : Int) (a1 : T_ref06_Value) (a2 : T_ref06_Value) (r0 : T_ref06_Value) (r1 : Int) (x1 : Bool) {x2 : Bool} (h : ref06_Do_J2i a0 a1 a2 r0 r1 x1 x2) : ref06_Do_J2 r0 r1 a0 x1 a1 a2 x2 := by
  unfold ref06_Do_J2
  unfold ref06_Do_J2i at h
  refine cnd_mono h (fun h => ?_) (fun h => ?_)
  · exact h
  · intro J3 kJ3
    have hJ3 : ∀ (x3 : Bool), ref06_Do_J3i a0 a1 a2 r0 r1 x1 x3 → J3 x3 := fun x3 q => kJ3 x3 (ref06_Do_J3_m a0 a1 a2 r0 r1 x1 q)
    refine cnd_mono h (fun h => ?_) (fun h => ?_)
    · refine cnd_mono h (fun h => ?_) (fun h => ?_)
      · exact hJ3 _ h
      · exact hJ3 _ h
    · exact hJ3 _ h
theorem ref06_Do_J1_m (a0 : Int) (a1 : T_ref06_Value) (a2 : T_ref06_Value) (r0 : T_ref06_Value) (r1 : Int) {x1 : Bool} (h : ref06_Do_J1i a0 a1 a2 r0 r1 x1) : ref06_Do_J1 r0 r1 a0 a1 a2 x1 := by
  unfold ref06_Do_J1
  unfold ref06_Do_J1i at h
  intro J2 kJ2
  have hJ2 : ∀ (x2 : Bool), ref06_Do_J2i a0 a1 a2 r0 r1 x1 x2 → J2 x2 := fun x2 q => kJ2 x2 (ref06_Do_J2_m a0 a1 a2 r0 r1 x1 q)
  refine cnd_mono h (fun h => ?_) (fun h => ?_)
  · exact hJ2 _ h
  · exact hJ2 _ h
theorem ref06_Do_i (a0 : Int) (a1 : T_ref06_Value) (a2 : T_ref06_Value) (r0 : T_ref06_Value) (r1 : Int) (h : ref06_Do_oi a0 a1 a2 r0 r1) : ref06_Do_o a0 a1 a2 r0 r1 := by
  unfold ref06_Do_o
  unfold ref06_Do_oi at h
  intro J1 kJ1
  have hJ1 : ∀ (x1 : Bool), ref06_Do_J1i a0 a1 a2 r0 r1 x1 → J1 x1 := fun x1 q => kJ1 x1 (ref06_Do_J1_m a0 a1 a2 r0 r1 q)
  refine cnd_mono h (fun h => ?_) (fun h => ?_)
  · exact hJ1 _ h
  · exact hJ1 _ h
noncomputable def ref06_Do_sp : Sp KK := ⟨13, [.v 3, .v 27, .v 27], [27, 3], appW (K := KK) [27, 3] [.v 3, .v 27, .v 27] ref06_Do_o⟩
noncomputable def ref06_Do_an : An KK := (.s .o (.j ⟨[(0, .kp 1), (4, .px 4 0), (5, .px 5 0), (6, .px 6 0), (8, .bl)], [(4, 27, [.kp 2, .kp 3, .kp 4]), (5, 27, [.kp 5, .kp 6, .kp 7]), (6, 27, [.kp 8, .kp 9, .kp 10])], []⟩ .o (fun _ => (.s (.j ⟨[(0, .kp 1), (4, .px 4 0), (5, .px 5 0), (6, .px 6 0), (8, .kp 12), (26, .bl)], [(4, 27, [.kp 2, .kp 3, .kp 4]), (5, 27, [.kp 5, .kp 6, .kp 7]), (6, 27, [.kp 8, .kp 9, .kp 10])], []⟩ .o (fun _ => (.c (.s .o .o) .o))) (.s (.j ⟨[(0, .kp 1), (4, .px 4 0), (5, .px 5 0), (6, .px 6 0), (8, .kp 12), (40, .bl)], [(4, 27, [.kp 2, .kp 3, .kp 4]), (5, 27, [.kp 5, .kp 6, .kp 7]), (6, 27, [.kp 8, .kp 9, .kp 10])], []⟩ .o (fun _ => (.c (.s .o .o) .o))) (.s .o (.j ⟨[(0, .kp 1), (4, .px 4 0), (5, .px 5 0), (6, .px 6 0), (8, .kp 12), (9, .it .i64)], [(4, 27, [.kp 2, .kp 3, .kp 4]), (5, 27, [.kp 5, .kp 6, .kp 7]), (6, 27, [.kp 8, .kp 9, .kp 10])], []⟩ (.s .o (.c .o .o)) (fun _ => (.j ⟨[(0, .kp 1), (4, .px 4 0), (5, .px 5 0), (6, .px 6 0), (8, .kp 12), (9, .it .i64)], [(4, 27, [.kp 2, .kp 3, .kp 4]), (5, 27, [.kp 5, .kp 6, .kp 7]), (6, 27, [.kp 8, .kp 9, .kp 10])], []⟩ (.s .o (.c .o .o)) (fun _ => (.j ⟨[(0, .kp 1), (4, .px 4 0), (5, .px 5 0), (6, .px 6 0), (8, .kp 12), (9, .it .i64)], [(4, 27, [.kp 2, .kp 3, .kp 4]), (5, 27, [.kp 5, .kp 6, .kp 7]), (6, 27, [.kp 8, .kp 9, .kp 10])], []⟩ (.s .o (.c .o .o)) (fun _ => (.s (.j ⟨[(0, .kp 1), (4, .px 4 0), (5, .px 5 0), (6, .px 6 0), (8, .kp 12), (71, .bl)], [(4, 27, [.kp 2, .kp 3, .kp 4]), (5, 27, [.kp 5, .kp 6, .kp 7]), (6, 27, [.kp 8, .kp 9, .kp 10])], []⟩ .o (fun _ => (.c (.s .o .o) .o))) (.s (.j ⟨[(0, .kp 1), (4, .px 4 0), (5, .px 5 0), (6, .px 6 0), (8, .kp 12), (78, .bl)], [(4, 27, [.kp 2, .kp 3, .kp 4]), (5, 27, [.kp 5, .kp 6, .kp 7]), (6, 27, [.kp 8, .kp 9, .kp 10])], []⟩ .o (fun _ => (.c (.s .o (.s (.j ⟨[(0, .kp 1), (6, .px 6 0), (8, .kp 12), (10, .px 10 0), (89, .bl)], [(6, 27, [.kp 8, .kp 9, .kp 10]), (10, 27, [.kp 22, .kp 23, .kp 24])], []⟩ .o (fun _ => (.c (.s .o .o) .o))) (.s (.s .o (.c (.s .o .o) .o)) (.s .o .o)))) .o))) (.s (.s .o (.c (.s .o .o) .o)) (.s (.s .o (.b (.s .o (.c (.s .o .o) (.s .o (.c (.s .o .o) (.s .o (.c (.s .o .o) (.s .o (.c (.s .o .o) (.s .o (.c (.s .o .o) (.s .o (.c (.s .o .o) (.s .o (.c (.s (.s .o (.c (.s .o .o) .o)) (.s .o .o)) .o)))))))))))))))) (.s .o (.j ⟨[(6, .px 6 0), (11, .it .i64), (12, .bl)], [(6, 27, [.kp 8, .kp 9, .kp 10])], []⟩ (.s .o (.b (.s .o (.c .o (.s .o (.c (.s .o (.c .o .o)) (.s .o (.c .o (.s (.s .o (.c (.s .o .o) .o)) (.s .o (.c (.s (.s .o (.c (.s .o .o) .o)) .o) (.s .o (.c .o .o))))))))))))) (fun _ => (.s (.s .o (.c (.s .o .o) .o)) (.s .o .o)))))))))))))))))))))
noncomputable def ref06_Do_cf : Cf KK := ⟨CC, [ref06_boolean_sp, ref06_Before_sp, ref06_add_sp, ref06_times_sp], 235⟩

set_option maxRecDepth 100000 in
theorem ref06_Do_ok : SpOk Tryd.prog CC ref06_Do_sp := by
  intro env r hF h
  obtain ⟨a0, env0, rfl, h1⟩ := appW_v h
  obtain ⟨a1, env1, rfl, h2⟩ := appW_v h1
  obtain ⟨a2, env2, rfl, h3⟩ := appW_v h2
  obtain ⟨rfl, h4⟩ := appW_n h3
  obtain ⟨r0, rr0, rfl, h5⟩ := apR_v h4
  obtain ⟨r1, rr1, rfl, h6⟩ := apR_v h5
  obtain ⟨rfl, h7⟩ := apR_n h6
  refine ⟨rfl, DnF_by (F := ref06_Do_cf) CC_ok (SsOk_c ref06_boolean_ok (SsOk_c ref06_Before_ok (SsOk_c ref06_add_ok (SsOk_c ref06_times_ok SsOk_n)))) t13 (A := ref06_Do_an) (ps := [.v 3, .v 27, .v 27]) (rs := [27, 3]) (env := [.d (.v 3 a0), .d (.v 27 a1), .d (.v 27 a2)]) (r := [.v 27 r0, .v 3 r1]) (X := ref06_Do_o a0 a1 a2 r0 r1) rfl (Nat.le_of_ble_eq_true rfl) rfl hF h7 ?_⟩
  kernel_rfl

def law06_ValueDoes_o (a0 : Int) (a1 : T_law06_Value) (a2 : T_law06_Value) (r0 : Bool) : Prop :=
  ∃ z1 : Bool, (law06_speaks_o z1) ∧ cnd (!z1) (false = r0) (∃ z2 : T_value_Value, ∃ z3 : T_ref06_Value, (law06_told_o a1 z2 z3) ∧ ∃ z4 : T_value_Value, ∃ z5 : T_ref06_Value, (law06_told_o a2 z4 z5) ∧ ∃ z6 : T_value_Value, ∃ z7 : Int, (value_Do_o a0 z2 z4 z6 z7) ∧ ∃ z8 : T_ref06_Value, ∃ z9 : Int, (ref06_Do_o a0 z3 z5 z8 z9) ∧ cnd (z7 == z9) (((z6.Kind == z8.Kind) && ((z6.N == z8.N) && ((z6.S == z8.S) && true))) = r0) (false = r0))
noncomputable def law06_ValueDoes_sp : Sp KK := ⟨3, [.v 3, .v 23, .v 23], [4], appW (K := KK) [4] [.v 3, .v 23, .v 23] law06_ValueDoes_o⟩
noncomputable def law06_ValueDoes_an : An KK := (.s .o (.s (.s .o (.c (.s .o .o) .o)) (.s .o (.s .o (.s .o (.s .o (.s .o .o)))))))
noncomputable def law06_ValueDoes_cf : Cf KK := ⟨CC, [law06_speaks_sp, law06_told_sp, value_Do_sp, ref06_Do_sp], 49⟩

set_option maxRecDepth 100000 in
theorem law06_ValueDoes_ok : SpOk Tryd.prog CC law06_ValueDoes_sp := by
  intro env r hF h
  obtain ⟨a0, env0, rfl, h1⟩ := appW_v h
  obtain ⟨a1, env1, rfl, h2⟩ := appW_v h1
  obtain ⟨a2, env2, rfl, h3⟩ := appW_v h2
  obtain ⟨rfl, h4⟩ := appW_n h3
  obtain ⟨r0, rr0, rfl, h5⟩ := apR_v h4
  obtain ⟨rfl, h6⟩ := apR_n h5
  refine ⟨rfl, DnF_by (F := law06_ValueDoes_cf) CC_ok (SsOk_c law06_speaks_ok (SsOk_c law06_told_ok (SsOk_c value_Do_ok (SsOk_c ref06_Do_ok SsOk_n)))) t3 (A := law06_ValueDoes_an) (ps := [.v 3, .v 23, .v 23]) (rs := [4]) (env := [.d (.v 3 a0), .d (.v 23 a1), .d (.v 23 a2)]) (r := [.v 4 r0]) (X := law06_ValueDoes_o a0 a1 a2 r0) rfl (Nat.le_of_ble_eq_true rfl) rfl hF h6 ?_⟩
  kernel_rfl

def law06_ValueOrders_J2 (z2 : T_value_Value) (z4 : T_value_Value) (z3 : T_ref06_Value) (z5 : T_ref06_Value) (r0 : Bool) (x7 : Int) : Prop :=
  ∃ z8 : Int, (value_Compare_o z2 z4 z8) ∧ cnd (z8 == x7) (∃ z9 : Int, (value_Compare_o z4 z2 z9) ∧ cnd (z9 == (IntKind.i64.wrap (0 - x7))) (((x7 == (0 : Int)) == ((z3.Kind == z5.Kind) && ((z3.N == z5.N) && ((z3.S == z5.S) && true)))) = r0) (false = r0)) (false = r0)
def law06_ValueOrders_J1 (z2 : T_value_Value) (z4 : T_value_Value) (z3 : T_ref06_Value) (z5 : T_ref06_Value) (r0 : Bool) (x6 : Int) : Prop :=
  ∀ J2 : Int → Prop, (∀ (x7 : Int), law06_ValueOrders_J2 z2 z4 z3 z5 r0 x7 → J2 x7) → ∃ z10 : Bool, (ref06_Before_o z5 z3 z10) ∧ cnd z10 (J2 (1 : Int)) (J2 x6)
def law06_ValueOrders_o (a0 : T_law06_Value) (a1 : T_law06_Value) (r0 : Bool) : Prop :=
  ∃ z1 : Bool, (law06_speaks_o z1) ∧ cnd (!z1) (false = r0) (∃ z2 : T_value_Value, ∃ z3 : T_ref06_Value, (law06_told_o a0 z2 z3) ∧ ∃ z4 : T_value_Value, ∃ z5 : T_ref06_Value, (law06_told_o a1 z4 z5) ∧ ∀ J1 : Int → Prop, (∀ (x6 : Int), law06_ValueOrders_J1 z2 z4 z3 z5 r0 x6 → J1 x6) → ∃ z11 : Bool, (ref06_Before_o z3 z5 z11) ∧ cnd z11 (J1 (-1 : Int)) (J1 (0 : Int)))
def law06_ValueOrders_J2i (r0 : Bool) (z2 : T_value_Value) (z3 : T_ref06_Value) (z4 : T_value_Value) (z5 : T_ref06_Value) (x7 : Int) : Prop :=
  ∃ z8 : Int, (value_Compare_o z2 z4 z8) ∧ cnd (z8 == x7) (∃ z9 : Int, (value_Compare_o z4 z2 z9) ∧ cnd (z9 == (IntKind.i64.wrap (0 - x7))) (((x7 == (0 : Int)) == ((z3.Kind == z5.Kind) && ((z3.N == z5.N) && ((z3.S == z5.S) && true)))) = r0) (false = r0)) (false = r0)
def law06_ValueOrders_J1i (r0 : Bool) (z2 : T_value_Value) (z3 : T_ref06_Value) (z4 : T_value_Value) (z5 : T_ref06_Value) (x6 : Int) : Prop :=
  ∃ z10 : Bool, (ref06_Before_o z5 z3 z10) ∧ cnd z10 (law06_ValueOrders_J2i r0 z2 z3 z4 z5 (1 : Int)) (law06_ValueOrders_J2i r0 z2 z3 z4 z5 x6)
def law06_ValueOrders_oi (a0 : T_law06_Value) (a1 : T_law06_Value) (r0 : Bool) : Prop :=
  ∃ z1 : Bool, (law06_speaks_o z1) ∧ cnd (!z1) (false = r0) (∃ z2 : T_value_Value, ∃ z3 : T_ref06_Value, (law06_told_o a0 z2 z3) ∧ ∃ z4 : T_value_Value, ∃ z5 : T_ref06_Value, (law06_told_o a1 z4 z5) ∧ ∃ z11 : Bool, (ref06_Before_o z3 z5 z11) ∧ cnd z11 (law06_ValueOrders_J1i r0 z2 z3 z4 z5 (-1 : Int)) (law06_ValueOrders_J1i r0 z2 z3 z4 z5 (0 : Int)))
theorem law06_ValueOrders_J2_m (r0 : Bool) (z2 : T_value_Value) (z3 : T_ref06_Value) (z4 : T_value_Value) (z5 : T_ref06_Value) {x7 : Int} (h : law06_ValueOrders_J2i r0 z2 z3 z4 z5 x7) : law06_ValueOrders_J2 z2 z4 z3 z5 r0 x7 := by
  unfold law06_ValueOrders_J2
  unfold law06_ValueOrders_J2i at h
  exact h
theorem law06_ValueOrders_J1_m (r0 : Bool) (z2 : T_value_Value) (z3 : T_ref06_Value) (z4 : T_value_Value) (z5 : T_ref06_Value) {x6 : Int} (h : law06_ValueOrders_J1i r0 z2 z3 z4 z5 x6) : law06_ValueOrders_J1 z2 z4 z3 z5 r0 x6 := by
  unfold law06_ValueOrders_J1
  unfold law06_ValueOrders_J1i at h
  intro J2 kJ2
  have hJ2 : ∀ (x7 : Int), law06_ValueOrders_J2i r0 z2 z3 z4 z5 x7 → J2 x7 := fun x7 q => kJ2 x7 (law06_ValueOrders_J2_m r0 z2 z3 z4 z5 q)
  obtain ⟨z10, h⟩ := h
  refine ⟨z10, ?_⟩
  obtain ⟨h0, h⟩ := h
  refine ⟨h0, ?_⟩
  refine cnd_mono h (fun h => ?_) (fun h => ?_)
  · exact hJ2 _ h
  · exact hJ2 _ h
theorem law06_ValueOrders_i (a0 : T_law06_Value) (a1 : T_law06_Value) (r0 : Bool) (h : law06_ValueOrders_oi a0 a1 r0) : law06_ValueOrders_o a0 a1 r0 := by
  unfold law06_ValueOrders_o
  unfold law06_ValueOrders_oi at h
  obtain ⟨z1, h⟩ := h
  refine ⟨z1, ?_⟩
  obtain ⟨h0, h⟩ := h
  refine ⟨h0, ?_⟩
  refine cnd_mono h (fun h => ?_) (fun h => ?_)
  · exact h
  · obtain ⟨z2, h⟩ := h
    refine ⟨z2, ?_⟩
    obtain ⟨z3, h⟩ := h
    refine ⟨z3, ?_⟩
    obtain ⟨h0, h⟩ := h
    refine ⟨h0, ?_⟩
    obtain ⟨z4, h⟩ := h
    refine ⟨z4, ?_⟩
    obtain ⟨z5, h⟩ := h
    refine ⟨z5, ?_⟩
    obtain ⟨h0, h⟩ := h
    refine ⟨h0, ?_⟩
    intro J1 kJ1
    have hJ1 : ∀ (x6 : Int), law06_ValueOrders_J1i r0 z2 z3 z4 z5 x6 → J1 x6 := fun x6 q => kJ1 x6 (law06_ValueOrders_J1_m r0 z2 z3 z4 z5 q)
    obtain ⟨z11, h⟩ := h
    refine ⟨z11, ?_⟩
    obtain ⟨h0, h⟩ := h
    refine ⟨h0, ?_⟩
    refine cnd_mono h (fun h => ?_) (fun h => ?_)
    · exact hJ1 _ h
    · exact hJ1 _ h
noncomputable def law06_ValueOrders_sp : Sp KK := ⟨4, [.v 23, .v 23], [4], appW (K := KK) [4] [.v 23, .v 23] law06_ValueOrders_o⟩
noncomputable def law06_ValueOrders_an : An KK := (.s .o (.s (.s .o (.c (.s .o .o) .o)) (.s .o (.s .o (.s .o (.j ⟨[(5, .px 5 0), (6, .px 6 0), (7, .px 7 0), (8, .px 8 0), (9, .it .i64)], [(5, 26, [.kp 1, .kp 2, .kp 3]), (6, 27, [.kp 4, .kp 5, .kp 6]), (7, 26, [.kp 7, .kp 8, .kp 9]), (8, 27, [.kp 10, .kp 11, .kp 12])], []⟩ (.s .o (.c .o .o)) (fun _ => (.j ⟨[(5, .px 5 0), (6, .px 6 0), (7, .px 7 0), (8, .px 8 0), (9, .it .i64)], [(5, 26, [.kp 1, .kp 2, .kp 3]), (6, 27, [.kp 4, .kp 5, .kp 6]), (7, 26, [.kp 7, .kp 8, .kp 9]), (8, 27, [.kp 10, .kp 11, .kp 12])], []⟩ (.s .o (.c .o .o)) (fun _ => (.s .o .o))))))))))
noncomputable def law06_ValueOrders_cf : Cf KK := ⟨CC, [law06_speaks_sp, law06_told_sp, ref06_Before_sp, value_Compare_sp], 49⟩

set_option maxRecDepth 100000 in
theorem law06_ValueOrders_ok : SpOk Tryd.prog CC law06_ValueOrders_sp := by
  intro env r hF h
  obtain ⟨a0, env0, rfl, h1⟩ := appW_v h
  obtain ⟨a1, env1, rfl, h2⟩ := appW_v h1
  obtain ⟨rfl, h3⟩ := appW_n h2
  obtain ⟨r0, rr0, rfl, h4⟩ := apR_v h3
  obtain ⟨rfl, h5⟩ := apR_n h4
  refine ⟨rfl, DnF_by (F := law06_ValueOrders_cf) CC_ok (SsOk_c law06_speaks_ok (SsOk_c law06_told_ok (SsOk_c ref06_Before_ok (SsOk_c value_Compare_ok SsOk_n)))) t4 (A := law06_ValueOrders_an) (ps := [.v 23, .v 23]) (rs := [4]) (env := [.d (.v 23 a0), .d (.v 23 a1)]) (r := [.v 4 r0]) (X := law06_ValueOrders_o a0 a1 r0) rfl (Nat.le_of_ble_eq_true rfl) rfl hF h5 ?_⟩
  kernel_rfl

def value_Not_o (a0 : T_value_Value) (r0 : T_value_Value) (r1 : Int) : Prop :=
  cnd (a0.Kind == (0 : Int)) (a0 = r0 ∧ (0 : Int) = r1) (cnd (a0.Kind == (1 : Int)) (∃ z1 : Bool, (value_Value_True_o a0 z1) ∧ ∃ z2 : T_value_Value, (value_OfBool_o (!z1) z2) ∧ z2 = r0 ∧ (0 : Int) = r1) ((⟨(0 : Int), (0 : Int), ([] : Str)⟩ : T_value_Value) = r0 ∧ (5 : Int) = r1))
noncomputable def value_Not_sp : Sp KK := ⟨17, [.v 26], [26, 30], appW (K := KK) [26, 30] [.v 26] value_Not_o⟩
noncomputable def value_Not_an : An KK := (.s .o (.s (.s .o (.b (.s .o (.c (.s .o .o) (.s .o (.c (.s .o .o) .o)))))) (.s .o .o)))
noncomputable def value_Not_cf : Cf KK := ⟨CC, [value_Value_True_sp, value_OfBool_sp], 16⟩

set_option maxRecDepth 100000 in
theorem value_Not_ok : SpOk Tryd.prog CC value_Not_sp := by
  intro env r hF h
  obtain ⟨a0, env0, rfl, h1⟩ := appW_v h
  obtain ⟨rfl, h2⟩ := appW_n h1
  obtain ⟨r0, rr0, rfl, h3⟩ := apR_v h2
  obtain ⟨r1, rr1, rfl, h4⟩ := apR_v h3
  obtain ⟨rfl, h5⟩ := apR_n h4
  refine ⟨rfl, DnF_by (F := value_Not_cf) CC_ok (SsOk_c value_Value_True_ok (SsOk_c value_OfBool_ok SsOk_n)) t17 (A := value_Not_an) (ps := [.v 26]) (rs := [26, 30]) (env := [.d (.v 26 a0)]) (r := [.v 26 r0, .v 30 r1]) (X := value_Not_o a0 r0 r1) rfl (Nat.le_of_ble_eq_true rfl) rfl hF h5 ?_⟩
  kernel_rfl

def law06_ValueLaws_J4 (r0 : Bool) (X3 : Int → Prop) (x22 : Int) (x27 : Bool) : Prop :=
  cnd x27 (false = r0) (X3 (IntKind.i64.wrap (x22 + (2 : Int))))
def law06_ValueLaws_J5 (r0 : Bool) (x32 : Bool) : Prop :=
  x32 = r0
def law06_ValueLaws_L3 (z20 : T_value_Value) (z21 : T_value_Value) (r0 : Bool) (a0 : T_law06_Pair) (X3 : Int → Prop) (x22 : Int) : Prop :=
  cnd (decide (x22 ≤ (9 : Int))) (∃ z23 : T_value_Value, ∃ z24 : Int, (value_Do_o x22 z20 z21 z23 z24) ∧ ∃ z25 : T_value_Value, ∃ z26 : Int, (value_Do_o x22 z21 z20 z25 z26) ∧ ∀ J4 : Bool → Prop, (∀ (x27 : Bool), law06_ValueLaws_J4 r0 X3 x22 x27 → J4 x27) → cnd (!((z23.Kind == z25.Kind) && ((z23.N == z25.N) && ((z23.S == z25.S) && true)))) (J4 true) (J4 (!(z24 == z26)))) (∃ z28 : T_value_Value, ∃ z29 : Int, (value_Do_o (10 : Int) z20 z21 z28 z29) ∧ ∃ z30 : T_value_Value, ∃ z31 : Int, (value_Do_o (11 : Int) z20 z21 z30 z31) ∧ cnd (!(z29 == (0 : Int))) (∀ J5 : Bool → Prop, (∀ (x32 : Bool), law06_ValueLaws_J5 r0 x32 → J5 x32) → cnd (a0.B == (0 : Int)) (cnd (z31 == (9 : Int)) (J5 true) (cnd (a0.B == (-1 : Int)) (cnd (z29 == (8 : Int)) (cnd (z31 == (0 : Int)) (∃ z33 : T_value_Value, (value_OfInt_o (0 : Int) z33) ∧ J5 ((z30.Kind == z33.Kind) && ((z30.N == z33.N) && ((z30.S == z33.S) && true)))) (J5 false)) (J5 false)) (J5 false))) (cnd (a0.B == (-1 : Int)) (cnd (z29 == (8 : Int)) (cnd (z31 == (0 : Int)) (∃ z34 : T_value_Value, (value_OfInt_o (0 : Int) z34) ∧ J5 ((z30.Kind == z34.Kind) && ((z30.N == z34.N) && ((z30.S == z34.S) && true)))) (J5 false)) (J5 false)) (J5 false))) (cnd (z31 == (0 : Int)) (((IntKind.i64.wrap ((IntKind.i64.wrap (z28.N * a0.B)) + z30.N)) == a0.A) = r0) (false = r0)))
def law06_ValueLaws_J2 (x4 : Int) (x5 : Int) (x6 : Str) (r0 : Bool) (a0 : T_law06_Pair) (x7 : Int) (x8 : Int) (x9 : Str) : Prop :=
  ∃ z10 : T_value_Value, ∃ z11 : Int, (value_Do_o (13 : Int) (⟨x4, x5, x6⟩ : T_value_Value) (⟨x7, x8, x9⟩ : T_value_Value) z10 z11) ∧ ∃ z12 : T_value_Value, ∃ z13 : Int, (value_Not_o z10 z12 z13) ∧ ∃ z14 : T_value_Value, ∃ z15 : Int, (value_Not_o (⟨x4, x5, x6⟩ : T_value_Value) z14 z15) ∧ ∃ z16 : T_value_Value, ∃ z17 : Int, (value_Not_o (⟨x7, x8, x9⟩ : T_value_Value) z16 z17) ∧ ∃ z18 : T_value_Value, ∃ z19 : Int, (value_Do_o (14 : Int) z14 z16 z18 z19) ∧ cnd (!((z12.Kind == z18.Kind) && ((z12.N == z18.N) && ((z12.S == z18.S) && true)))) (false = r0) (∃ z20 : T_value_Value, (value_OfInt_o a0.A z20) ∧ ∃ z21 : T_value_Value, (value_OfInt_o a0.B z21) ∧ ∀ X3 : Int → Prop, (∀ (x22 : Int), law06_ValueLaws_L3 z20 z21 r0 a0 X3 x22 → X3 x22) → X3 (7 : Int))
def law06_ValueLaws_J1 (r0 : Bool) (a0 : T_law06_Pair) (z3 : T_value_Value) (x4 : Int) (x5 : Int) (x6 : Str) : Prop :=
  ∀ J2 : Int → Int → Str → Prop, (∀ (x7 : Int) (x8 : Int) (x9 : Str), law06_ValueLaws_J2 x4 x5 x6 r0 a0 x7 x8 x9 → J2 x7 x8 x9) → cnd ((bits .and .u8 a0.Y.Kind (1 : Int)) == (1 : Int)) (J2 (0 : Int) (0 : Int) ([] : Str)) (J2 z3.Kind z3.N z3.S)
def law06_ValueLaws_o (a0 : T_law06_Pair) (r0 : Bool) : Prop :=
  ∃ z1 : Bool, (law06_speaks_o z1) ∧ cnd (!z1) (false = r0) (∃ z2 : T_value_Value, (value_OfBool_o ((bits .and .i64 a0.X.N (1 : Int)) == (1 : Int)) z2) ∧ ∃ z3 : T_value_Value, (value_OfBool_o ((bits .and .i64 a0.Y.N (1 : Int)) == (1 : Int)) z3) ∧ ∀ J1 : Int → Int → Str → Prop, (∀ (x4 : Int) (x5 : Int) (x6 : Str), law06_ValueLaws_J1 r0 a0 z3 x4 x5 x6 → J1 x4 x5 x6) → cnd ((bits .and .u8 a0.X.Kind (1 : Int)) == (1 : Int)) (J1 (0 : Int) (0 : Int) ([] : Str)) (J1 z2.Kind z2.N z2.S))
def law06_ValueLaws_J4i (X3 : Int → Prop) (r0 : Bool) (x22 : Int) (x27 : Bool) : Prop :=
  cnd x27 (false = r0) (X3 (IntKind.i64.wrap (x22 + (2 : Int))))
def law06_ValueLaws_J5i (r0 : Bool) (x32 : Bool) : Prop :=
  x32 = r0
def law06_ValueLaws_L3i (a0 : T_law06_Pair) (r0 : Bool) (z20 : T_value_Value) (z21 : T_value_Value) (X3 : Int → Prop) (x22 : Int) : Prop :=
  cnd (decide (x22 ≤ (9 : Int))) (∃ z23 : T_value_Value, ∃ z24 : Int, (value_Do_o x22 z20 z21 z23 z24) ∧ ∃ z25 : T_value_Value, ∃ z26 : Int, (value_Do_o x22 z21 z20 z25 z26) ∧ cnd (!((z23.Kind == z25.Kind) && ((z23.N == z25.N) && ((z23.S == z25.S) && true)))) (law06_ValueLaws_J4i X3 r0 x22 true) (law06_ValueLaws_J4i X3 r0 x22 (!(z24 == z26)))) (∃ z28 : T_value_Value, ∃ z29 : Int, (value_Do_o (10 : Int) z20 z21 z28 z29) ∧ ∃ z30 : T_value_Value, ∃ z31 : Int, (value_Do_o (11 : Int) z20 z21 z30 z31) ∧ cnd (!(z29 == (0 : Int))) (cnd (a0.B == (0 : Int)) (cnd (z31 == (9 : Int)) (law06_ValueLaws_J5i r0 true) (cnd (a0.B == (-1 : Int)) (cnd (z29 == (8 : Int)) (cnd (z31 == (0 : Int)) (∃ z33 : T_value_Value, (value_OfInt_o (0 : Int) z33) ∧ law06_ValueLaws_J5i r0 ((z30.Kind == z33.Kind) && ((z30.N == z33.N) && ((z30.S == z33.S) && true)))) (law06_ValueLaws_J5i r0 false)) (law06_ValueLaws_J5i r0 false)) (law06_ValueLaws_J5i r0 false))) (cnd (a0.B == (-1 : Int)) (cnd (z29 == (8 : Int)) (cnd (z31 == (0 : Int)) (∃ z34 : T_value_Value, (value_OfInt_o (0 : Int) z34) ∧ law06_ValueLaws_J5i r0 ((z30.Kind == z34.Kind) && ((z30.N == z34.N) && ((z30.S == z34.S) && true)))) (law06_ValueLaws_J5i r0 false)) (law06_ValueLaws_J5i r0 false)) (law06_ValueLaws_J5i r0 false))) (cnd (z31 == (0 : Int)) (((IntKind.i64.wrap ((IntKind.i64.wrap (z28.N * a0.B)) + z30.N)) == a0.A) = r0) (false = r0)))
def law06_ValueLaws_J2i (a0 : T_law06_Pair) (r0 : Bool) (x4 : Int) (x5 : Int) (x6 : Str) (x7 : Int) (x8 : Int) (x9 : Str) : Prop :=
  ∃ z10 : T_value_Value, ∃ z11 : Int, (value_Do_o (13 : Int) (⟨x4, x5, x6⟩ : T_value_Value) (⟨x7, x8, x9⟩ : T_value_Value) z10 z11) ∧ ∃ z12 : T_value_Value, ∃ z13 : Int, (value_Not_o z10 z12 z13) ∧ ∃ z14 : T_value_Value, ∃ z15 : Int, (value_Not_o (⟨x4, x5, x6⟩ : T_value_Value) z14 z15) ∧ ∃ z16 : T_value_Value, ∃ z17 : Int, (value_Not_o (⟨x7, x8, x9⟩ : T_value_Value) z16 z17) ∧ ∃ z18 : T_value_Value, ∃ z19 : Int, (value_Do_o (14 : Int) z14 z16 z18 z19) ∧ cnd (!((z12.Kind == z18.Kind) && ((z12.N == z18.N) && ((z12.S == z18.S) && true)))) (false = r0) (∃ z20 : T_value_Value, (value_OfInt_o a0.A z20) ∧ ∃ z21 : T_value_Value, (value_OfInt_o a0.B z21) ∧ ∀ X3 : Int → Prop, (∀ (x22 : Int), law06_ValueLaws_L3i a0 r0 z20 z21 X3 x22 → X3 x22) → X3 (7 : Int))
def law06_ValueLaws_J1i (a0 : T_law06_Pair) (r0 : Bool) (z3 : T_value_Value) (x4 : Int) (x5 : Int) (x6 : Str) : Prop :=
  cnd ((bits .and .u8 a0.Y.Kind (1 : Int)) == (1 : Int)) (law06_ValueLaws_J2i a0 r0 x4 x5 x6 (0 : Int) (0 : Int) ([] : Str)) (law06_ValueLaws_J2i a0 r0 x4 x5 x6 z3.Kind z3.N z3.S)
def law06_ValueLaws_oi (a0 : T_law06_Pair) (r0 : Bool) : Prop :=
  ∃ z1 : Bool, (law06_speaks_o z1) ∧ cnd (!z1) (false = r0) (∃ z2 : T_value_Value, (value_OfBool_o ((bits .and .i64 a0.X.N (1 : Int)) == (1 : Int)) z2) ∧ ∃ z3 : T_value_Value, (value_OfBool_o ((bits .and .i64 a0.Y.N (1 : Int)) == (1 : Int)) z3) ∧ cnd ((bits .and .u8 a0.X.Kind (1 : Int)) == (1 : Int)) (law06_ValueLaws_J1i a0 r0 z3 (0 : Int) (0 : Int) ([] : Str)) (law06_ValueLaws_J1i a0 r0 z3 z2.Kind z2.N z2.S))
theorem law06_ValueLaws_J4_m (X3 : Int → Prop) (r0 : Bool) (x22 : Int) {x27 : Bool} (h : law06_ValueLaws_J4i X3 r0 x22 x27) : law06_ValueLaws_J4 r0 X3 x22 x27 := by
  unfold law06_ValueLaws_J4
  unfold law06_ValueLaws_J4i at h
  exact h
theorem law06_ValueLaws_J5_m (r0 : Bool) {x32 : Bool} (h : law06_ValueLaws_J5i r0 x32) : law06_ValueLaws_J5 r0 x32 := by
  unfold law06_ValueLaws_J5
  unfold law06_ValueLaws_J5i at h
  exact h
theorem law06_ValueLaws_L3_m (a0 : T_law06_Pair) (r0 : Bool) (z20 : T_value_Value) (z21 : T_value_Value) {X3 : Int → Prop} {x22 : Int} (h : law06_ValueLaws_L3i a0 r0 z20 z21 X3 x22) : law06_ValueLaws_L3 z20 z21 r0 a0 X3 x22 := by
  unfold law06_ValueLaws_L3
  unfold law06_ValueLaws_L3i at h
  refine cnd_mono h (fun h => ?_) (fun h => ?_)
  · obtain ⟨z23, h⟩ := h
    refine ⟨z23, ?_⟩
    obtain ⟨z24, h⟩ := h
    refine ⟨z24, ?_⟩
    obtain ⟨h0, h⟩ := h
    refine ⟨h0, ?_⟩
    obtain ⟨z25, h⟩ := h
    refine ⟨z25, ?_⟩
    obtain ⟨z26, h⟩ := h
    refine ⟨z26, ?_⟩
    obtain ⟨h0, h⟩ := h
    refine ⟨h0, ?_⟩
    intro J4 kJ4
    have hJ4 : ∀ (x27 : Bool), law06_ValueLaws_J4i X3 r0 x22 x27 → J4 x27 := fun x27 q => kJ4 x27 (law06_ValueLaws_J4_m X3 r0 x22 q)
    refine cnd_mono h (fun h => ?_) (fun h => ?_)
    · exact hJ4 _ h
    · exact hJ4 _ h
  · obtain ⟨z28, h⟩ := h
    refine ⟨z28, ?_⟩
    obtain ⟨z29, h⟩ := h
    refine ⟨z29, ?_⟩
    obtain ⟨h0, h⟩ := h
    refine ⟨h0, ?_⟩
    obtain ⟨z30, h⟩ := h
    refine ⟨z30, ?_⟩
    obtain ⟨z31, h⟩ := h
    refine ⟨z31, ?_⟩
    obtain ⟨h0, h⟩ := h
    refine ⟨h0, ?_⟩
    refine cnd_mono h (fun h => ?_) (fun h => ?_)
    · intro J5 kJ5
      have hJ5 : ∀ (x32 : Bool), law06_ValueLaws_J5i r0 x32 → J5 x32 := fun x32 q => kJ5 x32 (law06_ValueLaws_J5_m r0 q)
      refine cnd_mono h (fun h => ?_) (fun h => ?_)
      · refine cnd_mono h (fun h => ?_) (fun h => ?_)
        · exact hJ5 _ h
        · refine cnd_mono h (fun h => ?_) (fun h => ?_)
          · refine cnd_mono h (fun h => ?_) (fun h => ?_)
            · refine cnd_mono h (fun h => ?_) (fun h => ?_)
              · obtain ⟨z33, h⟩ := h
                refine ⟨z33, ?_⟩
                obtain ⟨h0, h⟩ := h
                refine ⟨h0, ?_⟩
                exact hJ5 _ h
              · exact hJ5 _ h
            · exact hJ5 _ h
          · exact hJ5 _ h
      · refine cnd_mono h (fun h => ?_) (fun h => ?_)
        · refine cnd_mono h (fun h => ?_) (fun h => ?_)
          · refine cnd_mono h (fun h => ?_) (fun h => ?_)
            · obtain ⟨z34, h⟩ := h
              refine ⟨z34, ?_⟩
              obtain ⟨h0, h⟩ := h
              refine ⟨h0, ?_⟩
              exact hJ5 _ h
            · exact hJ5 _ h
          · exact hJ5 _ h
        · exact hJ5 _ h
    · exact h
theorem law06_ValueLaws_J2_m (a0 : T_law06_Pair) (r0 : Bool) (x4 : Int) (x5 : Int) (x6 : Str) {x7 : Int} {x8 : Int} {x9 : Str} (h : law06_ValueLaws_J2i a0 r0 x4 x5 x6 x7 x8 x9) : law06_ValueLaws_J2 x4 x5 x6 r0 a0 x7 x8 x9 := by
  unfold law06_ValueLaws_J2
  unfold law06_ValueLaws_J2i at h
  obtain ⟨z10, h⟩ := h
  refine ⟨z10, ?_⟩
  obtain ⟨z11, h⟩ := h
  refine ⟨z11, ?_⟩
  obtain ⟨h0, h⟩ := h
  refine ⟨h0, ?_⟩
  obtain ⟨z12, h⟩ := h
  refine ⟨z12, ?_⟩
  obtain ⟨z13, h⟩ := h
  refine ⟨z13, ?_⟩
  obtain ⟨h0, h⟩ := h
  refine ⟨h0, ?_⟩
  obtain ⟨z14, h⟩ := h
  refine ⟨z14, ?_⟩
  obtain ⟨z15, h⟩ := h
  refine ⟨z15, ?_⟩
  obtain ⟨h0, h⟩ := h
  refine ⟨h0, ?_⟩
  obtain ⟨z16, h⟩ := h
  refine ⟨z16, ?_⟩
  obtain ⟨z17, h⟩ := h
  refine ⟨z17, ?_⟩
  obtain ⟨h0, h⟩ := h
  refine ⟨h0, ?_⟩
  obtain ⟨z18, h⟩ := h
  refine ⟨z18, ?_⟩
  obtain ⟨z19, h⟩ := h
  refine ⟨z19, ?_⟩
  obtain ⟨h0, h⟩ := h
  refine ⟨h0, ?_⟩
  refine cnd_mono h (fun h => ?_) (fun h => ?_)
  · exact h
  · obtain ⟨z20, h⟩ := h
    refine ⟨z20, ?_⟩
    obtain ⟨h0, h⟩ := h
    refine ⟨h0, ?_⟩
    obtain ⟨z21, h⟩ := h
    refine ⟨z21, ?_⟩
    obtain ⟨h0, h⟩ := h
    refine ⟨h0, ?_⟩
    intro X3 k
    exact h X3 (fun x22 q => k x22 (law06_ValueLaws_L3_m a0 r0 z20 z21 q))
theorem law06_ValueLaws_J1_m (a0 : T_law06_Pair) (r0 : Bool) (z3 : T_value_Value) {x4 : Int} {x5 : Int} {x6 : Str} (h : law06_ValueLaws_J1i a0 r0 z3 x4 x5 x6) : law06_ValueLaws_J1 r0 a0 z3 x4 x5 x6 := by
  unfold law06_ValueLaws_J1
  unfold law06_ValueLaws_J1i at h
  intro J2 kJ2
  have hJ2 : ∀ (x7 : Int) (x8 : Int) (x9 : Str), law06_ValueLaws_J2i a0 r0 x4 x5 x6 x7 x8 x9 → J2 x7 x8 x9 := fun x7 x8 x9 q => kJ2 x7 x8 x9 (law06_ValueLaws_J2_m a0 r0 x4 x5 x6 q)
  refine cnd_mono h (fun h => ?_) (fun h => ?_)
  · exact hJ2 _ _ _ h
  · exact hJ2 _ _ _ h
theorem law06_ValueLaws_i (a0 : T_law06_Pair) (r0 : Bool) (h : law06_ValueLaws_oi a0 r0) : law06_ValueLaws_o a0 r0 := by
  unfold law06_ValueLaws_o
  unfold law06_ValueLaws_oi at h
  obtain ⟨z1, h⟩ := h
  refine ⟨z1, ?_⟩
  obtain ⟨h0, h⟩ := h
  refine ⟨h0, ?_⟩
  refine cnd_mono h (fun h => ?_) (fun h => ?_)
  · exact h
  · obtain ⟨z2, h⟩ := h
    refine ⟨z2, ?_⟩
    obtain ⟨h0, h⟩ := h
    refine ⟨h0, ?_⟩
    obtain ⟨z3, h⟩ := h
    refine ⟨z3, ?_⟩
    obtain ⟨h0, h⟩ := h
    refine ⟨h0, ?_⟩
    intro J1 kJ1
    have hJ1 : ∀ (x4 : Int) (x5 : Int) (x6 : Str), law06_ValueLaws_J1i a0 r0 z3 x4 x5 x6 → J1 x4 x5 x6 := fun x4 x5 x6 q => kJ1 x4 x5 x6 (law06_ValueLaws_J1_m a0 r0 z3 q)
    refine cnd_mono h (fun h => ?_) (fun h => ?_)
    · exact hJ1 _ _ _ h
    · exact hJ1 _ _ _ h
noncomputable def law06_ValueLaws_sp : Sp KK := ⟨5, [.v 40], [4], appW (K := KK) [4] [.v 40] law06_ValueLaws_o⟩
noncomputable def law06_ValueLaws_an : An KK := (.s .o (.s (.s .o (.c (.s .o .o) .o)) (.s .o (.s .o (.j ⟨[(4, .px 4 0), (5, .kp 1), (6, .kp 2), (7, .px 7 0), (8, .px 8 0)], [(4, 23, [.kp 3, .kp 4, .kp 5]), (7, 26, [.it .i64, .it .i64, .st]), (8, 26, [.kp 6, .kp 7, .kp 8])], []⟩ (.s .o (.c .o .o)) (fun _ => (.j ⟨[(5, .kp 1), (6, .kp 2), (7, .px 7 0), (8, .px 8 0)], [(7, 26, [.kp 9, .kp 10, .kp 11]), (8, 26, [.it .i64, .it .i64, .st])], []⟩ (.s .o (.c .o .o)) (fun _ => (.s .o (.s .o (.s .o (.s .o (.s .o (.s (.s .o (.c (.s .o .o) .o)) (.s .o (.s (.s .o (.b (.l ⟨[(5, .kp 1), (6, .kp 2), (19, .px 19 0), (20, .px 20 0), (21, .it .i64)], [(19, 26, [.kp 24, .kp 25, .kp 26]), (20, 26, [.kp 27, .kp 28, .kp 29])], []⟩ (fun _ => (.s (.s .o (.c .o .o)) (.s (.b (.s .o (.s .o (.j ⟨[(5, .kp 1), (6, .kp 2), (19, .px 19 0), (20, .px 20 0), (21, .kp 33), (119, .bl)], [(19, 26, [.kp 24, .kp 25, .kp 26]), (20, 26, [.kp 27, .kp 28, .kp 29])], []⟩ .o (fun _ => (.c (.s .o .o) .o)))))) .o)))))) (.s .o (.s .o (.s (.s .o (.c (.j ⟨[(2, .bl)], [], []⟩ .o (fun _ => .o)) .o)) (.s .o .o))))))))))))))))))))
noncomputable def law06_ValueLaws_cf : Cf KK := ⟨CC, [law06_speaks_sp, value_OfBool_sp, value_Do_sp, value_Not_sp, value_OfInt_sp], 170⟩

set_option maxRecDepth 100000 in
theorem law06_ValueLaws_ok : SpOk Tryd.prog CC law06_ValueLaws_sp := by
  intro env r hF h
  obtain ⟨a0, env0, rfl, h1⟩ := appW_v h
  obtain ⟨rfl, h2⟩ := appW_n h1
  obtain ⟨r0, rr0, rfl, h3⟩ := apR_v h2
  obtain ⟨rfl, h4⟩ := apR_n h3
  refine ⟨rfl, DnF_by (F := law06_ValueLaws_cf) CC_ok (SsOk_c law06_speaks_ok (SsOk_c value_OfBool_ok (SsOk_c value_Do_ok (SsOk_c value_Not_ok (SsOk_c value_OfInt_ok SsOk_n))))) t5 (A := law06_ValueLaws_an) (ps := [.v 40]) (rs := [4]) (env := [.d (.v 40 a0)]) (r := [.v 4 r0]) (X := law06_ValueLaws_o a0 r0) rfl (Nat.le_of_ble_eq_true rfl) rfl hF h4 ?_⟩
  kernel_rfl

def ref06_Good_o (a0 : T_ref06_Value) (r0 : Bool) : Prop :=
  cnd (a0.Kind == (0 : Int)) (cnd (a0.N == (0 : Int)) ((a0.S == ([] : Str)) = r0) (false = r0)) (cnd (a0.Kind == (1 : Int)) (cnd (a0.N == (0 : Int)) ((a0.S == ([] : Str)) = r0) (cnd (a0.N == (1 : Int)) ((a0.S == ([] : Str)) = r0) (false = r0))) (cnd (a0.Kind == (2 : Int)) ((a0.S == ([] : Str)) = r0) (cnd (a0.Kind == (3 : Int)) (cnd (a0.N == (0 : Int)) ((decide ((a0.S.length : Int) ≤ (64 : Int))) = r0) (false = r0)) (false = r0))))
noncomputable def ref06_Good_sp : Sp KK := ⟨20, [.v 27], [4], appW (K := KK) [4] [.v 27] ref06_Good_o⟩
noncomputable def ref06_Good_an : An KK := (.s .o (.s (.s .o (.c (.s .o .o) .o)) (.s (.s .o (.c (.s .o .o) .o)) (.s (.s .o (.c (.s .o .o) .o)) (.s .o .o)))))
noncomputable def ref06_Good_cf : Cf KK := ⟨CC, [], 50⟩

set_option maxRecDepth 100000 in
theorem ref06_Good_ok : SpOk Tryd.prog CC ref06_Good_sp := by
  intro env r hF h
  obtain ⟨a0, env0, rfl, h1⟩ := appW_v h
  obtain ⟨rfl, h2⟩ := appW_n h1
  obtain ⟨r0, rr0, rfl, h3⟩ := apR_v h2
  obtain ⟨rfl, h4⟩ := apR_n h3
  refine ⟨rfl, DnF_by (F := ref06_Good_cf) CC_ok SsOk_n t20 (A := ref06_Good_an) (ps := [.v 27]) (rs := [4]) (env := [.d (.v 27 a0)]) (r := [.v 4 r0]) (X := ref06_Good_o a0 r0) rfl (Nat.le_of_ble_eq_true rfl) rfl hF h4 ?_⟩
  kernel_rfl

def ref06_Digits_J3 (x3 : Str) (x2 : Int) (x1 : Str) (r0 : Str) (X2 : Int → Str → Prop) (x4 : Int) : Prop :=
  ((([IntKind.u8.wrap (IntKind.i64.wrap ((48 : Int) + x4))] : List Int).map toB).length + x3.length ≤ 9223372036854775807) ∧ cnd ((IntKind.i64.wrap (x2.tdiv (10 : Int))) == (0 : Int)) ((x1.length + ((([IntKind.u8.wrap (IntKind.i64.wrap ((48 : Int) + x4))] : List Int).map toB) ++ x3).length ≤ 9223372036854775807) ∧ (x1 ++ ((([IntKind.u8.wrap (IntKind.i64.wrap ((48 : Int) + x4))] : List Int).map toB) ++ x3)) = r0) (X2 (IntKind.i64.wrap (x2.tdiv (10 : Int))) ((([IntKind.u8.wrap (IntKind.i64.wrap ((48 : Int) + x4))] : List Int).map toB) ++ x3))
def ref06_Digits_L2 (x1 : Str) (r0 : Str) (X2 : Int → Str → Prop) (x2 : Int) (x3 : Str) : Prop :=
  ∀ J3 : Int → Prop, (∀ (x4 : Int), ref06_Digits_J3 x3 x2 x1 r0 X2 x4 → J3 x4) → cnd (decide ((x2.tmod (10 : Int)) < (0 : Int))) (J3 (IntKind.i64.wrap (0 - (x2.tmod (10 : Int))))) (J3 (x2.tmod (10 : Int)))
def ref06_Digits_J1 (r0 : Str) (a0 : Int) (x1 : Str) : Prop :=
  ∀ X2 : Int → Str → Prop, (∀ (x2 : Int) (x3 : Str), ref06_Digits_L2 x1 r0 X2 x2 x3 → X2 x2 x3) → X2 a0 ([] : Str)
def ref06_Digits_o (a0 : Int) (r0 : Str) : Prop :=
  ∀ J1 : Str → Prop, (∀ (x1 : Str), ref06_Digits_J1 r0 a0 x1 → J1 x1) → cnd (decide (a0 < (0 : Int))) (J1 ([45] : Str)) (J1 ([] : Str))
def ref06_Digits_J3i (X2 : Int → Str → Prop) (r0 : Str) (x1 : Str) (x2 : Int) (x3 : Str) (x4 : Int) : Prop :=
  ((([IntKind.u8.wrap (IntKind.i64.wrap ((48 : Int) + x4))] : List Int).map toB).length + x3.length ≤ 9223372036854775807) ∧ cnd ((IntKind.i64.wrap (x2.tdiv (10 : Int))) == (0 : Int)) ((x1.length + ((([IntKind.u8.wrap (IntKind.i64.wrap ((48 : Int) + x4))] : List Int).map toB) ++ x3).length ≤ 9223372036854775807) ∧ (x1 ++ ((([IntKind.u8.wrap (IntKind.i64.wrap ((48 : Int) + x4))] : List Int).map toB) ++ x3)) = r0) (X2 (IntKind.i64.wrap (x2.tdiv (10 : Int))) ((([IntKind.u8.wrap (IntKind.i64.wrap ((48 : Int) + x4))] : List Int).map toB) ++ x3))
def ref06_Digits_L2i (r0 : Str) (x1 : Str) (X2 : Int → Str → Prop) (x2 : Int) (x3 : Str) : Prop :=
  cnd (decide ((x2.tmod (10 : Int)) < (0 : Int))) (ref06_Digits_J3i X2 r0 x1 x2 x3 (IntKind.i64.wrap (0 - (x2.tmod (10 : Int))))) (ref06_Digits_J3i X2 r0 x1 x2 x3 (x2.tmod (10 : Int)))
def ref06_Digits_J1i (a0 : Int) (r0 : Str) (x1 : Str) : Prop :=
  ∀ X2 : Int → Str → Prop, (∀ (x2 : Int) (x3 : Str), ref06_Digits_L2i r0 x1 X2 x2 x3 → X2 x2 x3) → X2 a0 ([] : Str)
def ref06_Digits_oi (a0 : Int) (r0 : Str) : Prop :=
  cnd (decide (a0 < (0 : Int))) (ref06_Digits_J1i a0 r0 ([45] : Str)) (ref06_Digits_J1i a0 r0 ([] : Str))
theorem ref06_Digits_J3_m (X2 : Int → Str → Prop) (r0 : Str) (x1 : Str) (x2 : Int) (x3 : Str) {x4 : Int} (h : ref06_Digits_J3i X2 r0 x1 x2 x3 x4) : ref06_Digits_J3 x3 x2 x1 r0 X2 x4 := by
  unfold ref06_Digits_J3
  unfold ref06_Digits_J3i at h
  exact h
theorem ref06_Digits_L2_m (r0 : Str) (x1 : Str) {X2 : Int → Str → Prop} {x2 : Int} {x3 : Str} (h : ref06_Digits_L2i r0 x1 X2 x2 x3) : ref06_Digits_L2 x1 r0 X2 x2 x3 := by
  unfold ref06_Digits_L2
  unfold ref06_Digits_L2i at h
  intro J3 kJ3
  have hJ3 : ∀ (x4 : Int), ref06_Digits_J3i X2 r0 x1 x2 x3 x4 → J3 x4 := fun x4 q => kJ3 x4 (ref06_Digits_J3_m X2 r0 x1 x2 x3 q)
  refine cnd_mono h (fun h => ?_) (fun h => ?_)
  · exact hJ3 _ h
  · exact hJ3 _ h
theorem ref06_Digits_J1_m (a0 : Int) (r0 : Str) {x1 : Str} (h : ref06_Digits_J1i a0 r0 x1) : ref06_Digits_J1 r0 a0 x1 := by
  unfold ref06_Digits_J1
  unfold ref06_Digits_J1i at h
  intro X2 k
  exact h X2 (fun x2 x3 q => k x2 x3 (ref06_Digits_L2_m r0 x1 q))
theorem ref06_Digits_i (a0 : Int) (r0 : Str) (h : ref06_Digits_oi a0 r0) : ref06_Digits_o a0 r0 := by
  unfold ref06_Digits_o
  unfold ref06_Digits_oi at h
  intro J1 kJ1
  have hJ1 : ∀ (x1 : Str), ref06_Digits_J1i a0 r0 x1 → J1 x1 := fun x1 q => kJ1 x1 (ref06_Digits_J1_m a0 r0 q)
  refine cnd_mono h (fun h => ?_) (fun h => ?_)
  · exact hJ1 _ h
  · exact hJ1 _ h
noncomputable def ref06_Digits_sp : Sp KK := ⟨54, [.v 2], [9], appW (K := KK) [9] [.v 2] ref06_Digits_o⟩
noncomputable def ref06_Digits_an : An KK := (.s .o (.s .o (.j ⟨[(0, .kp 1), (3, .st), (4, .kp 2)], [], []⟩ (.s .o (.c .o .o)) (fun _ => (.b (.l ⟨[(0, .it .i64), (3, .kp 3), (4, .st)], [], []⟩ (fun _ => (.b (.s .o (.j ⟨[(0, .kp 6), (3, .kp 3), (4, .kp 7), (5, .it .i64)], [], []⟩ (.s .o (.c .o .o)) (fun _ => (.s .o (.s .o (.s .o (.c (.s .o .o) .o)))))))))))))))
noncomputable def ref06_Digits_cf : Cf KK := ⟨CC, [], 28⟩

set_option maxRecDepth 100000 in
theorem ref06_Digits_ok : SpOk Tryd.prog CC ref06_Digits_sp := by
  intro env r hF h
  obtain ⟨a0, env0, rfl, h1⟩ := appW_v h
  obtain ⟨rfl, h2⟩ := appW_n h1
  obtain ⟨r0, rr0, rfl, h3⟩ := apR_v h2
  obtain ⟨rfl, h4⟩ := apR_n h3
  refine ⟨rfl, DnF_by (F := ref06_Digits_cf) CC_ok SsOk_n t54 (A := ref06_Digits_an) (ps := [.v 2]) (rs := [9]) (env := [.d (.v 2 a0)]) (r := [.v 9 r0]) (X := ref06_Digits_o a0 r0) rfl (Nat.le_of_ble_eq_true rfl) rfl hF h4 ?_⟩
  kernel_rfl

def ref06_Show_L3 (a0 : T_ref06_Value) (r0 : Str) (X3 : Str → Int → Prop) (x4 : Str) (x5 : Int) : Prop :=
  cnd (decide (x5 < (a0.S.length : Int))) ((0 ≤ x5 ∧ x5 ≤ (IntKind.i64.wrap (x5 + (1 : Int))) ∧ (IntKind.i64.wrap (x5 + (1 : Int))) ≤ (a0.S.length : Int)) ∧ (x4.length + ((a0.S.drop x5.toNat).take ((IntKind.i64.wrap (x5 + (1 : Int))).toNat - x5.toNat)).length ≤ 9223372036854775807) ∧ (0 ≤ x5 ∧ x5 < (a0.S.length : Int)) ∧ cnd ((bAt a0.S x5) == (39 : Int)) (((x4 ++ ((a0.S.drop x5.toNat).take ((IntKind.i64.wrap (x5 + (1 : Int))).toNat - x5.toNat))).length + ([39] : Str).length ≤ 9223372036854775807) ∧ X3 ((x4 ++ ((a0.S.drop x5.toNat).take ((IntKind.i64.wrap (x5 + (1 : Int))).toNat - x5.toNat))) ++ ([39] : Str)) (IntKind.i64.wrap (x5 + (1 : Int)))) (X3 (x4 ++ ((a0.S.drop x5.toNat).take ((IntKind.i64.wrap (x5 + (1 : Int))).toNat - x5.toNat))) (IntKind.i64.wrap (x5 + (1 : Int))))) ((x4.length + ([39] : Str).length ≤ 9223372036854775807) ∧ (x4 ++ ([39] : Str)) = r0)
def ref06_Show_J2 (r0 : Str) (a0 : T_ref06_Value) (x2 : Bool) : Prop :=
  cnd x2 (([84, 82, 85, 69] : Str) = r0) (cnd (a0.Kind == (1 : Int)) (([70, 65, 76, 83, 69] : Str) = r0) (cnd (a0.Kind == (2 : Int)) (∃ z3 : Str, (ref06_Digits_o a0.N z3) ∧ z3 = r0) (∀ X3 : Str → Int → Prop, (∀ (x4 : Str) (x5 : Int), ref06_Show_L3 a0 r0 X3 x4 x5 → X3 x4 x5) → X3 ([39] : Str) (0 : Int))))
def ref06_Show_J1 (r0 : Str) (a0 : T_ref06_Value) (x1 : Bool) : Prop :=
  cnd x1 (([78, 85, 76, 76] : Str) = r0) (∀ J2 : Bool → Prop, (∀ (x2 : Bool), ref06_Show_J2 r0 a0 x2 → J2 x2) → cnd (a0.Kind == (1 : Int)) (J2 (a0.N == (1 : Int))) (J2 false))
def ref06_Show_o (a0 : T_ref06_Value) (r0 : Str) : Prop :=
  ∀ J1 : Bool → Prop, (∀ (x1 : Bool), ref06_Show_J1 r0 a0 x1 → J1 x1) → ∃ z6 : Bool, (ref06_Good_o a0 z6) ∧ cnd (!z6) (J1 true) (J1 (a0.Kind == (0 : Int)))
def ref06_Show_L3i (a0 : T_ref06_Value) (r0 : Str) (X3 : Str → Int → Prop) (x4 : Str) (x5 : Int) : Prop :=
  cnd (decide (x5 < (a0.S.length : Int))) ((0 ≤ x5 ∧ x5 ≤ (IntKind.i64.wrap (x5 + (1 : Int))) ∧ (IntKind.i64.wrap (x5 + (1 : Int))) ≤ (a0.S.length : Int)) ∧ (x4.length + ((a0.S.drop x5.toNat).take ((IntKind.i64.wrap (x5 + (1 : Int))).toNat - x5.toNat)).length ≤ 9223372036854775807) ∧ (0 ≤ x5 ∧ x5 < (a0.S.length : Int)) ∧ cnd ((bAt a0.S x5) == (39 : Int)) (((x4 ++ ((a0.S.drop x5.toNat).take ((IntKind.i64.wrap (x5 + (1 : Int))).toNat - x5.toNat))).length + ([39] : Str).length ≤ 9223372036854775807) ∧ X3 ((x4 ++ ((a0.S.drop x5.toNat).take ((IntKind.i64.wrap (x5 + (1 : Int))).toNat - x5.toNat))) ++ ([39] : Str)) (IntKind.i64.wrap (x5 + (1 : Int)))) (X3 (x4 ++ ((a0.S.drop x5.toNat).take ((IntKind.i64.wrap (x5 + (1 : Int))).toNat - x5.toNat))) (IntKind.i64.wrap (x5 + (1 : Int))))) ((x4.length + ([39] : Str).length ≤ 9223372036854775807) ∧ (x4 ++ ([39] : Str)) = r0)
def ref06_Show_J2i (a0 : T_ref06_Value) (r0 : Str) (x2 : Bool) : Prop :=
  cnd x2 (([84, 82, 85, 69] : Str) = r0) (cnd (a0.Kind == (1 : Int)) (([70, 65, 76, 83, 69] : Str) = r0) (cnd (a0.Kind == (2 : Int)) (∃ z3 : Str, (ref06_Digits_o a0.N z3) ∧ z3 = r0) (∀ X3 : Str → Int → Prop, (∀ (x4 : Str) (x5 : Int), ref06_Show_L3i a0 r0 X3 x4 x5 → X3 x4 x5) → X3 ([39] : Str) (0 : Int))))
def ref06_Show_J1i (a0 : T_ref06_Value) (r0 : Str) (x1 : Bool) : Prop :=
  cnd x1 (([78, 85, 76, 76] : Str) = r0) (cnd (a0.Kind == (1 : Int)) (ref06_Show_J2i a0 r0 (a0.N == (1 : Int))) (ref06_Show_J2i a0 r0 false))
def ref06_Show_oi (a0 : T_ref06_Value) (r0 : Str) : Prop :=
  ∃ z6 : Bool, (ref06_Good_o a0 z6) ∧ cnd (!z6) (ref06_Show_J1i a0 r0 true) (ref06_Show_J1i a0 r0 (a0.Kind == (0 : Int)))
theorem ref06_Show_L3_m (a0 : T_ref06_Value) (r0 : Str) {X3 : Str → Int → Prop} {x4 : Str} {x5 : Int} (h : ref06_Show_L3i a0 r0 X3 x4 x5) : ref06_Show_L3 a0 r0 X3 x4 x5 := by
  unfold ref06_Show_L3
  unfold ref06_Show_L3i at h
  exact h
theorem ref06_Show_J2_m (a0 : T_ref06_Value) (r0 : Str) {x2 : Bool} (h : ref06_Show_J2i a0 r0 x2) : ref06_Show_J2 r0 a0 x2 := by
  unfold ref06_Show_J2
  unfold ref06_Show_J2i at h
  refine cnd_mono h (fun h => ?_) (fun h => ?_)
  · exact h
  · refine cnd_mono h (fun h => ?_) (fun h => ?_)
    · exact h
    · refine cnd_mono h (fun h => ?_) (fun h => ?_)
      · exact h
      · intro X3 k
        exact h X3 (fun x4 x5 q => k x4 x5 (ref06_Show_L3_m a0 r0 q))
theorem ref06_Show_J1_m (a0 : T_ref06_Value) (r0 : Str) {x1 : Bool} (h : ref06_Show_J1i a0 r0 x1) : ref06_Show_J1 r0 a0 x1 := by
  unfold ref06_Show_J1
  unfold ref06_Show_J1i at h
  refine cnd_mono h (fun h => ?_) (fun h => ?_)
  · exact h
  · intro J2 kJ2
    have hJ2 : ∀ (x2 : Bool), ref06_Show_J2i a0 r0 x2 → J2 x2 := fun x2 q => kJ2 x2 (ref06_Show_J2_m a0 r0 q)
    refine cnd_mono h (fun h => ?_) (fun h => ?_)
    · exact hJ2 _ h
    · exact hJ2 _ h
theorem ref06_Show_i (a0 : T_ref06_Value) (r0 : Str) (h : ref06_Show_oi a0 r0) : ref06_Show_o a0 r0 := by
  unfold ref06_Show_o
  unfold ref06_Show_oi at h
  intro J1 kJ1
  have hJ1 : ∀ (x1 : Bool), ref06_Show_J1i a0 r0 x1 → J1 x1 := fun x1 q => kJ1 x1 (ref06_Show_J1_m a0 r0 q)
  obtain ⟨z6, h⟩ := h
  refine ⟨z6, ?_⟩
  obtain ⟨h0, h⟩ := h
  refine ⟨h0, ?_⟩
  refine cnd_mono h (fun h => ?_) (fun h => ?_)
  · exact hJ1 _ h
  · exact hJ1 _ h
noncomputable def ref06_Show_sp : Sp KK := ⟨22, [.v 27], [9], appW (K := KK) [9] [.v 27] ref06_Show_o⟩
noncomputable def ref06_Show_an : An KK := (.s .o (.s (.j ⟨[(1, .px 1 0), (12, .bl)], [(1, 27, [.kp 4, .kp 5, .kp 6])], []⟩ .o (fun _ => (.c (.s .o .o) .o))) (.s (.j ⟨[(1, .px 1 0), (20, .bl)], [(1, 27, [.kp 4, .kp 5, .kp 6])], []⟩ .o (fun _ => (.c (.s .o .o) .o))) (.s (.s .o (.c (.s .o .o) .o)) (.s (.s .o (.c (.s .o .o) .o)) (.s .o (.s (.s .o (.b (.l ⟨[(1, .px 1 0), (3, .st), (4, .it .i64)], [(1, 27, [.kp 4, .kp 5, .kp 6])], []⟩ (fun _ => (.s (.s .o (.c .o .o)) (.s (.b (.s .o (.s .o (.c .o .o)))) .o)))))) (.s .o .o))))))))
noncomputable def ref06_Show_cf : Cf KK := ⟨CC, [ref06_Good_sp, ref06_Digits_sp], 54⟩

set_option maxRecDepth 100000 in
theorem ref06_Show_ok : SpOk Tryd.prog CC ref06_Show_sp := by
  intro env r hF h
  obtain ⟨a0, env0, rfl, h1⟩ := appW_v h
  obtain ⟨rfl, h2⟩ := appW_n h1
  obtain ⟨r0, rr0, rfl, h3⟩ := apR_v h2
  obtain ⟨rfl, h4⟩ := apR_n h3
  refine ⟨rfl, DnF_by (F := ref06_Show_cf) CC_ok (SsOk_c ref06_Good_ok (SsOk_c ref06_Digits_ok SsOk_n)) t22 (A := ref06_Show_an) (ps := [.v 27]) (rs := [9]) (env := [.d (.v 27 a0)]) (r := [.v 9 r0]) (X := ref06_Show_o a0 r0) rfl (Nat.le_of_ble_eq_true rfl) rfl hF h4 ?_⟩
  kernel_rfl

def value_Neg_o (a0 : T_value_Value) (r0 : T_value_Value) (r1 : Int) : Prop :=
  ∃ z1 : Bool, (value_Value_none_o a0 z1) ∧ cnd z1 (a0 = r0 ∧ (0 : Int) = r1) (cnd (!(a0.Kind == (2 : Int))) ((⟨(0 : Int), (0 : Int), ([] : Str)⟩ : T_value_Value) = r0 ∧ (5 : Int) = r1) (cnd (a0.N == (-9223372036854775808 : Int)) ((⟨(0 : Int), (0 : Int), ([] : Str)⟩ : T_value_Value) = r0 ∧ (8 : Int) = r1) (∃ z2 : T_value_Value, (value_OfInt_o (IntKind.i64.wrap (0 - a0.N)) z2) ∧ z2 = r0 ∧ (0 : Int) = r1)))
noncomputable def value_Neg_sp : Sp KK := ⟨25, [.v 26], [26, 30], appW (K := KK) [26, 30] [.v 26] value_Neg_o⟩
noncomputable def value_Neg_an : An KK := (.s .o (.s (.b (.s .o (.c (.s .o .o) (.s .o (.c (.s .o .o) (.s .o (.c (.s .o .o) .o))))))) (.s .o .o)))
noncomputable def value_Neg_cf : Cf KK := ⟨CC, [value_Value_none_sp, value_OfInt_sp], 22⟩

set_option maxRecDepth 100000 in
theorem value_Neg_ok : SpOk Tryd.prog CC value_Neg_sp := by
  intro env r hF h
  obtain ⟨a0, env0, rfl, h1⟩ := appW_v h
  obtain ⟨rfl, h2⟩ := appW_n h1
  obtain ⟨r0, rr0, rfl, h3⟩ := apR_v h2
  obtain ⟨r1, rr1, rfl, h4⟩ := apR_v h3
  obtain ⟨rfl, h5⟩ := apR_n h4
  refine ⟨rfl, DnF_by (F := value_Neg_cf) CC_ok (SsOk_c value_Value_none_ok (SsOk_c value_OfInt_ok SsOk_n)) t25 (A := value_Neg_an) (ps := [.v 26]) (rs := [26, 30]) (env := [.d (.v 26 a0)]) (r := [.v 26 r0, .v 30 r1]) (X := value_Neg_o a0 r0 r1) rfl (Nat.le_of_ble_eq_true rfl) rfl hF h5 ?_⟩
  kernel_rfl

def law06_ValueOnes_J2 (r0 : Bool) (a0 : Int) (a1 : Int) (a2 : Str) (x3 : Bool) : Prop :=
  cnd x3 (false = r0) (∃ z4 : Bool, (ref06_Good_o (⟨a0, a1, (a2.drop (0 : Int).toNat).take ((if (70 : Int) < (a2.length : Int) then (70 : Int) else (a2.length : Int)).toNat - (0 : Int).toNat)⟩ : T_ref06_Value) z4) ∧ cnd (!z4) (true = r0) (∃ z5 : T_value_Value, ∃ z6 : Int, (value_Not_o (⟨a0, a1, (a2.drop (0 : Int).toNat).take ((if (70 : Int) < (a2.length : Int) then (70 : Int) else (a2.length : Int)).toNat - (0 : Int).toNat)⟩ : T_value_Value) z5 z6) ∧ ∃ z7 : T_value_Value, ∃ z8 : Int, (value_Neg_o (⟨a0, a1, (a2.drop (0 : Int).toNat).take ((if (70 : Int) < (a2.length : Int) then (70 : Int) else (a2.length : Int)).toNat - (0 : Int).toNat)⟩ : T_value_Value) z7 z8) ∧ cnd (a0 == (0 : Int)) (cnd (z6 == (0 : Int)) (cnd (z8 == (0 : Int)) (cnd ((z5.Kind == a0) && ((z5.N == a1) && ((z5.S == ((a2.drop (0 : Int).toNat).take ((if (70 : Int) < (a2.length : Int) then (70 : Int) else (a2.length : Int)).toNat - (0 : Int).toNat))) && true))) (((z7.Kind == a0) && ((z7.N == a1) && ((z7.S == ((a2.drop (0 : Int).toNat).take ((if (70 : Int) < (a2.length : Int) then (70 : Int) else (a2.length : Int)).toNat - (0 : Int).toNat))) && true))) = r0) (false = r0)) (false = r0)) (false = r0)) (cnd (a0 == (1 : Int)) (cnd (z6 == (0 : Int)) (cnd (z8 == (5 : Int)) (∃ z9 : T_value_Value, (value_OfBool_o (a1 == (0 : Int)) z9) ∧ ((z5.Kind == z9.Kind) && ((z5.N == z9.N) && ((z5.S == z9.S) && true))) = r0) (false = r0)) (false = r0)) (cnd (a0 == (2 : Int)) (cnd (a1 == (-9223372036854775808 : Int)) (cnd (z6 == (5 : Int)) (cnd (z8 == (8 : Int)) (((z7.Kind == (0 : Int)) && ((z7.N == (0 : Int)) && ((z7.S == ([] : Str)) && true))) = r0) (false = r0)) (false = r0)) (cnd (z6 == (5 : Int)) (cnd (z8 == (0 : Int)) (∃ z10 : T_value_Value, (value_OfInt_o (IntKind.i64.wrap (0 - a1)) z10) ∧ ((z7.Kind == z10.Kind) && ((z7.N == z10.N) && ((z7.S == z10.S) && true))) = r0) (false = r0)) (false = r0))) (cnd (z6 == (5 : Int)) ((z8 == (5 : Int)) = r0) (false = r0))))))
def law06_ValueOnes_J1 (r0 : Bool) (a0 : Int) (a1 : Int) (a2 : Str) (x2 : Bool) : Prop :=
  cnd x2 (false = r0) (∀ J2 : Bool → Prop, (∀ (x3 : Bool), law06_ValueOnes_J2 r0 a0 a1 a2 x3 → J2 x3) → ∃ z11 : T_value_Value, (value_OfText_o ((a2.drop (0 : Int).toNat).take ((if (70 : Int) < (a2.length : Int) then (70 : Int) else (a2.length : Int)).toNat - (0 : Int).toNat)) z11) ∧ cnd (!((z11.Kind == (3 : Int)) && ((z11.N == (0 : Int)) && ((z11.S == ((a2.drop (0 : Int).toNat).take ((if (70 : Int) < (a2.length : Int) then (70 : Int) else (a2.length : Int)).toNat - (0 : Int).toNat))) && true)))) (J2 true) (∃ z12 : T_value_Value, (value_OfInt_o a1 z12) ∧ cnd (!((z12.Kind == (2 : Int)) && ((z12.N == a1) && ((z12.S == ([] : Str)) && true)))) (J2 true) (∃ z13 : T_value_Value, (value_OfBool_o (decide ((0 : Int) < a1)) z13) ∧ ∃ z14 : Bool, (value_Value_True_o z13 z14) ∧ J2 (!(z14 == (decide ((0 : Int) < a1)))))))
def law06_ValueOnes_o (a0 : Int) (a1 : Int) (a2 : Str) (r0 : Bool) : Prop :=
  ∃ z1 : Bool, (law06_speaks_o z1) ∧ cnd (!z1) (false = r0) ((0 ≤ (0 : Int) ∧ (0 : Int) ≤ (if (70 : Int) < (a2.length : Int) then (70 : Int) else (a2.length : Int)) ∧ (if (70 : Int) < (a2.length : Int) then (70 : Int) else (a2.length : Int)) ≤ (a2.length : Int)) ∧ ∀ J1 : Bool → Prop, (∀ (x2 : Bool), law06_ValueOnes_J1 r0 a0 a1 a2 x2 → J1 x2) → ∃ z15 : Bool, (value_Value_Good_o (⟨a0, a1, (a2.drop (0 : Int).toNat).take ((if (70 : Int) < (a2.length : Int) then (70 : Int) else (a2.length : Int)).toNat - (0 : Int).toNat)⟩ : T_value_Value) z15) ∧ ∃ z16 : Bool, (ref06_Good_o (⟨a0, a1, (a2.drop (0 : Int).toNat).take ((if (70 : Int) < (a2.length : Int) then (70 : Int) else (a2.length : Int)).toNat - (0 : Int).toNat)⟩ : T_ref06_Value) z16) ∧ cnd (!(z15 == z16)) (J1 true) (∃ z17 : Str, (value_Value_Show_o (⟨a0, a1, (a2.drop (0 : Int).toNat).take ((if (70 : Int) < (a2.length : Int) then (70 : Int) else (a2.length : Int)).toNat - (0 : Int).toNat)⟩ : T_value_Value) z17) ∧ ∃ z18 : Str, (ref06_Show_o (⟨a0, a1, (a2.drop (0 : Int).toNat).take ((if (70 : Int) < (a2.length : Int) then (70 : Int) else (a2.length : Int)).toNat - (0 : Int).toNat)⟩ : T_ref06_Value) z18) ∧ cnd (!(z17 == z18)) (J1 true) (∃ z19 : Bool, (value_Value_True_o (⟨a0, a1, (a2.drop (0 : Int).toNat).take ((if (70 : Int) < (a2.length : Int) then (70 : Int) else (a2.length : Int)).toNat - (0 : Int).toNat)⟩ : T_value_Value) z19) ∧ cnd (a0 == (1 : Int)) (cnd (a1 == (1 : Int)) (J1 (!(z19 == (((a2.drop (0 : Int).toNat).take ((if (70 : Int) < (a2.length : Int) then (70 : Int) else (a2.length : Int)).toNat - (0 : Int).toNat)) == ([] : Str))))) (J1 (!(z19 == false)))) (J1 (!(z19 == false))))))
def law06_ValueOnes_J2i (a0 : Int) (a1 : Int) (a2 : Str) (r0 : Bool) (x3 : Bool) : Prop :=
  cnd x3 (false = r0) (∃ z4 : Bool, (ref06_Good_o (⟨a0, a1, (a2.drop (0 : Int).toNat).take ((if (70 : Int) < (a2.length : Int) then (70 : Int) else (a2.length : Int)).toNat - (0 : Int).toNat)⟩ : T_ref06_Value) z4) ∧ cnd (!z4) (true = r0) (∃ z5 : T_value_Value, ∃ z6 : Int, (value_Not_o (⟨a0, a1, (a2.drop (0 : Int).toNat).take ((if (70 : Int) < (a2.length : Int) then (70 : Int) else (a2.length : Int)).toNat - (0 : Int).toNat)⟩ : T_value_Value) z5 z6) ∧ ∃ z7 : T_value_Value, ∃ z8 : Int, (value_Neg_o (⟨a0, a1, (a2.drop (0 : Int).toNat).take ((if (70 : Int) < (a2.length : Int) then (70 : Int) else (a2.length : Int)).toNat - (0 : Int).toNat)⟩ : T_value_Value) z7 z8) ∧ cnd (a0 == (0 : Int)) (cnd (z6 == (0 : Int)) (cnd (z8 == (0 : Int)) (cnd ((z5.Kind == a0) && ((z5.N == a1) && ((z5.S == ((a2.drop (0 : Int).toNat).take ((if (70 : Int) < (a2.length : Int) then (70 : Int) else (a2.length : Int)).toNat - (0 : Int).toNat))) && true))) (((z7.Kind == a0) && ((z7.N == a1) && ((z7.S == ((a2.drop (0 : Int).toNat).take ((if (70 : Int) < (a2.length : Int) then (70 : Int) else (a2.length : Int)).toNat - (0 : Int).toNat))) && true))) = r0) (false = r0)) (false = r0)) (false = r0)) (cnd (a0 == (1 : Int)) (cnd (z6 == (0 : Int)) (cnd (z8 == (5 : Int)) (∃ z9 : T_value_Value, (value_OfBool_o (a1 == (0 : Int)) z9) ∧ ((z5.Kind == z9.Kind) && ((z5.N == z9.N) && ((z5.S == z9.S) && true))) = r0) (false = r0)) (false = r0)) (cnd (a0 == (2 : Int)) (cnd (a1 == (-9223372036854775808 : Int)) (cnd (z6 == (5 : Int)) (cnd (z8 == (8 : Int)) (((z7.Kind == (0 : Int)) && ((z7.N == (0 : Int)) && ((z7.S == ([] : Str)) && true))) = r0) (false = r0)) (false = r0)) (cnd (z6 == (5 : Int)) (cnd (z8 == (0 : Int)) (∃ z10 : T_value_Value, (value_OfInt_o (IntKind.i64.wrap (0 - a1)) z10) ∧ ((z7.Kind == z10.Kind) && ((z7.N == z10.N) && ((z7.S == z10.S) && true))) = r0) (false = r0)) (false = r0))) (cnd (z6 == (5 : Int)) ((z8 == (5 : Int)) = r0) (false = r0))))))
def law06_ValueOnes_J1i (a0 : Int) (a1 : Int) (a2 : Str) (r0 : Bool) (x2 : Bool) : Prop :=
  cnd x2 (false = r0) (∃ z11 : T_value_Value, (value_OfText_o ((a2.drop (0 : Int).toNat).take ((if (70 : Int) < (a2.length : Int) then (70 : Int) else (a2.length : Int)).toNat - (0 : Int).toNat)) z11) ∧ cnd (!((z11.Kind == (3 : Int)) && ((z11.N == (0 : Int)) && ((z11.S == ((a2.drop (0 : Int).toNat).take ((if (70 : Int) < (a2.length : Int) then (70 : Int) else (a2.length : Int)).toNat - (0 : Int).toNat))) && true)))) (law06_ValueOnes_J2i a0 a1 a2 r0 true) (∃ z12 : T_value_Value, (value_OfInt_o a1 z12) ∧ cnd (!((z12.Kind == (2 : Int)) && ((z12.N == a1) && ((z12.S == ([] : Str)) && true)))) (law06_ValueOnes_J2i a0 a1 a2 r0 true) (∃ z13 : T_value_Value, (value_OfBool_o (decide ((0 : Int) < a1)) z13) ∧ ∃ z14 : Bool, (value_Value_True_o z13 z14) ∧ law06_ValueOnes_J2i a0 a1 a2 r0 (!(z14 == (decide ((0 : Int) < a1)))))))
def law06_ValueOnes_oi (a0 : Int) (a1 : Int) (a2 : Str) (r0 : Bool) : Prop :=
  ∃ z1 : Bool, (law06_speaks_o z1) ∧ cnd (!z1) (false = r0) ((0 ≤ (0 : Int) ∧ (0 : Int) ≤ (if (70 : Int) < (a2.length : Int) then (70 : Int) else (a2.length : Int)) ∧ (if (70 : Int) < (a2.length : Int) then (70 : Int) else (a2.length : Int)) ≤ (a2.length : Int)) ∧ ∃ z15 : Bool, (value_Value_Good_o (⟨a0, a1, (a2.drop (0 : Int).toNat).take ((if (70 : Int) < (a2.length : Int) then (70 : Int) else (a2.length : Int)).toNat - (0 : Int).toNat)⟩ : T_value_Value) z15) ∧ ∃ z16 : Bool, (ref06_Good_o (⟨a0, a1, (a2.drop (0 : Int).toNat).take ((if (70 : Int) < (a2.length : Int) then (70 : Int) else (a2.length : Int)).toNat - (0 : Int).toNat)⟩ : T_ref06_Value) z16) ∧ cnd (!(z15 == z16)) (law06_ValueOnes_J1i a0 a1 a2 r0 true) (∃ z17 : Str, (value_Value_Show_o (⟨a0, a1, (a2.drop (0 : Int).toNat).take ((if (70 : Int) < (a2.length : Int) then (70 : Int) else (a2.length : Int)).toNat - (0 : Int).toNat)⟩ : T_value_Value) z17) ∧ ∃ z18 : Str, (ref06_Show_o (⟨a0, a1, (a2.drop (0 : Int).toNat).take ((if (70 : Int) < (a2.length : Int) then (70 : Int) else (a2.length : Int)).toNat - (0 : Int).toNat)⟩ : T_ref06_Value) z18) ∧ cnd (!(z17 == z18)) (law06_ValueOnes_J1i a0 a1 a2 r0 true) (∃ z19 : Bool, (value_Value_True_o (⟨a0, a1, (a2.drop (0 : Int).toNat).take ((if (70 : Int) < (a2.length : Int) then (70 : Int) else (a2.length : Int)).toNat - (0 : Int).toNat)⟩ : T_value_Value) z19) ∧ cnd (a0 == (1 : Int)) (cnd (a1 == (1 : Int)) (law06_ValueOnes_J1i a0 a1 a2 r0 (!(z19 == (((a2.drop (0 : Int).toNat).take ((if (70 : Int) < (a2.length : Int) then (70 : Int) else (a2.length : Int)).toNat - (0 : Int).toNat)) == ([] : Str))))) (law06_ValueOnes_J1i a0 a1 a2 r0 (!(z19 == false)))) (law06_ValueOnes_J1i a0 a1 a2 r0 (!(z19 == false))))))
theorem law06_ValueOnes_J2_m (a0 : Int) (a1 : Int) (a2 : Str) (r0 : Bool) {x3 : Bool} (h : law06_ValueOnes_J2i a0 a1 a2 r0 x3) : law06_ValueOnes_J2 r0 a0 a1 a2 x3 := by
  unfold law06_ValueOnes_J2
  unfold law06_ValueOnes_J2i at h
  exact h
theorem law06_ValueOnes_J1_m (a0 : Int) (a1 : Int) (a2 : Str) (r0 : Bool) {x2 : Bool} (h : law06_ValueOnes_J1i a0 a1 a2 r0 x2) : law06_ValueOnes_J1 r0 a0 a1 a2 x2 := by
  unfold law06_ValueOnes_J1
  unfold law06_ValueOnes_J1i at h
  refine cnd_mono h (fun h => ?_) (fun h => ?_)
  · exact h
  · intro J2 kJ2
    have hJ2 : ∀ (x3 : Bool), law06_ValueOnes_J2i a0 a1 a2 r0 x3 → J2 x3 := fun x3 q => kJ2 x3 (law06_ValueOnes_J2_m a0 a1 a2 r0 q)
    obtain ⟨z11, h⟩ := h
    refine ⟨z11, ?_⟩
    obtain ⟨h0, h⟩ := h
    refine ⟨h0, ?_⟩
    refine cnd_mono h (fun h => ?_) (fun h => ?_)
    · exact hJ2 _ h
    · obtain ⟨z12, h⟩ := h
      refine ⟨z12, ?_⟩
      obtain ⟨h0, h⟩ := h
      refine ⟨h0, ?_⟩
      refine cnd_mono h (fun h => ?_) (fun h => ?_)
      · exact hJ2 _ h
      · obtain ⟨z13, h⟩ := h
        refine ⟨z13, ?_⟩
        obtain ⟨h0, h⟩ := h
        refine ⟨h0, ?_⟩
        obtain ⟨z14, h⟩ := h
        refine ⟨z14, ?_⟩
        obtain ⟨h0, h⟩ := h
        refine ⟨h0, ?_⟩
        exact hJ2 _ h
theorem law06_ValueOnes_i (a0 : Int) (a1 : Int) (a2 : Str) (r0 : Bool) (h : law06_ValueOnes_oi a0 a1 a2 r0) : law06_ValueOnes_o a0 a1 a2 r0 := by
  unfold law06_ValueOnes_o
  unfold law06_ValueOnes_oi at h
  obtain ⟨z1, h⟩ := h
  refine ⟨z1, ?_⟩
  obtain ⟨h0, h⟩ := h
  refine ⟨h0, ?_⟩
  refine cnd_mono h (fun h => ?_) (fun h => ?_)
  · exact h
  · obtain ⟨h0, h⟩ := h
    refine ⟨h0, ?_⟩
    intro J1 kJ1
    have hJ1 : ∀ (x2 : Bool), law06_ValueOnes_J1i a0 a1 a2 r0 x2 → J1 x2 := fun x2 q => kJ1 x2 (law06_ValueOnes_J1_m a0 a1 a2 r0 q)
    obtain ⟨z15, h⟩ := h
    refine ⟨z15, ?_⟩
    obtain ⟨h0, h⟩ := h
    refine ⟨h0, ?_⟩
    obtain ⟨z16, h⟩ := h
    refine ⟨z16, ?_⟩
    obtain ⟨h0, h⟩ := h
    refine ⟨h0, ?_⟩
    refine cnd_mono h (fun h => ?_) (fun h => ?_)
    · exact hJ1 _ h
    · obtain ⟨z17, h⟩ := h
      refine ⟨z17, ?_⟩
      obtain ⟨h0, h⟩ := h
      refine ⟨h0, ?_⟩
      obtain ⟨z18, h⟩ := h
      refine ⟨z18, ?_⟩
      obtain ⟨h0, h⟩ := h
      refine ⟨h0, ?_⟩
      refine cnd_mono h (fun h => ?_) (fun h => ?_)
      · exact hJ1 _ h
      · obtain ⟨z19, h⟩ := h
        refine ⟨z19, ?_⟩
        obtain ⟨h0, h⟩ := h
        refine ⟨h0, ?_⟩
        refine cnd_mono h (fun h => ?_) (fun h => ?_)
        · refine cnd_mono h (fun h => ?_) (fun h => ?_)
          · exact hJ1 _ h
          · exact hJ1 _ h
        · exact hJ1 _ h
noncomputable def law06_ValueOnes_sp : Sp KK := ⟨6, [.v 3, .v 2, .v 9], [4], appW (K := KK) [4] [.v 3, .v 2, .v 9] law06_ValueOnes_o⟩
noncomputable def law06_ValueOnes_an : An KK := (.s .o (.s (.s .o (.c (.s .o .o) .o)) (.s .o (.s .o (.s .o (.s (.j ⟨[(0, .kp 10), (1, .kp 11), (2, .kp 12), (7, .px 7 0), (8, .px 8 0), (54, .bl)], [(7, 26, [.kp 13, .kp 14, .kp 15]), (8, 27, [.kp 16, .kp 17, .kp 18])], []⟩ .o (fun _ => (.c (.s .o .o) .o))) (.s (.j ⟨[(0, .kp 10), (1, .kp 11), (7, .px 7 0), (8, .px 8 0), (75, .bl)], [(7, 26, [.kp 13, .kp 14, .kp 15]), (8, 27, [.kp 16, .kp 17, .kp 18])], []⟩ .o (fun _ => (.c (.s .o .o) .o))) (.s (.s .o (.c (.s .o .o) .o)) (.s .o (.s .o (.s (.s .o (.b (.s .o (.c (.s .o .o) (.s .o (.c (.s .o .o) (.s .o (.c (.s (.s .o (.c (.s .o .o) .o)) (.s .o .o)) .o)))))))) (.s .o .o))))))))))))
noncomputable def law06_ValueOnes_cf : Cf KK := ⟨CC, [law06_speaks_sp, value_Value_Good_sp, ref06_Good_sp, value_Value_Show_sp, ref06_Show_sp, value_Value_True_sp, value_OfText_sp, value_OfInt_sp, value_OfBool_sp, value_Not_sp, value_Neg_sp], 157⟩

set_option maxRecDepth 100000 in
theorem law06_ValueOnes_ok : SpOk Tryd.prog CC law06_ValueOnes_sp := by
  intro env r hF h
  obtain ⟨a0, env0, rfl, h1⟩ := appW_v h
  obtain ⟨a1, env1, rfl, h2⟩ := appW_v h1
  obtain ⟨a2, env2, rfl, h3⟩ := appW_v h2
  obtain ⟨rfl, h4⟩ := appW_n h3
  obtain ⟨r0, rr0, rfl, h5⟩ := apR_v h4
  obtain ⟨rfl, h6⟩ := apR_n h5
  refine ⟨rfl, DnF_by (F := law06_ValueOnes_cf) CC_ok (SsOk_c law06_speaks_ok (SsOk_c value_Value_Good_ok (SsOk_c ref06_Good_ok (SsOk_c value_Value_Show_ok (SsOk_c ref06_Show_ok (SsOk_c value_Value_True_ok (SsOk_c value_OfText_ok (SsOk_c value_OfInt_ok (SsOk_c value_OfBool_ok (SsOk_c value_Not_ok (SsOk_c value_Neg_ok SsOk_n))))))))))) t6 (A := law06_ValueOnes_an) (ps := [.v 3, .v 2, .v 9]) (rs := [4]) (env := [.d (.v 3 a0), .d (.v 2 a1), .d (.v 9 a2)]) (r := [.v 4 r0]) (X := law06_ValueOnes_o a0 a1 a2 r0) rfl (Nat.le_of_ble_eq_true rfl) rfl hF h6 ?_⟩
  kernel_rfl

end Go.Proofs.YtkmehmgocelkiaaDoor
