/-
  What the functions come to, as relations of plain data, and that the program does so. (Written by a program of mine, wip/gen2.py.)
-/
import Derived.Test.YteoohihaibgplaaCode
import Derived.Test.YteoohihaibgplaaDnG
import Derived.KernelRfl
namespace Go.Proofs.Yteoohihaibgplaa
open Go.AV Go.RowKit

structure T_law15_Part where
  Kind : Int
  Op : Int
  Value : Int
  Parts : Int
  N : Int
  Name : Str
  Table : Str

structure T_law20_Cell where
  Table : Int
  Name : Int
  Kind : Int
  Null : Bool
  N : Int
  S : Str

structure T_ref06_Value where
  Kind : Int
  N : Int
  S : Str

inductive T_ref15_Expr where
  | mk (Kind : Int) (Op : Int) (V : T_ref06_Value) (Table : Str) (Name : Str) (L : (List T_ref15_Expr))
def T_ref15_Expr.Kind : T_ref15_Expr → Int
  | .mk y _ _ _ _ _ => y
def T_ref15_Expr.Op : T_ref15_Expr → Int
  | .mk _ y _ _ _ _ => y
def T_ref15_Expr.V : T_ref15_Expr → T_ref06_Value
  | .mk _ _ y _ _ _ => y
def T_ref15_Expr.Table : T_ref15_Expr → Str
  | .mk _ _ _ y _ _ => y
def T_ref15_Expr.Name : T_ref15_Expr → Str
  | .mk _ _ _ _ y _ => y
def T_ref15_Expr.L : T_ref15_Expr → (List T_ref15_Expr)
  | .mk _ _ _ _ _ y => y

structure T_value_Value where
  Kind : Int
  N : Int
  S : Str

inductive T_expr_Expr where
  | mk (Kind : Int) (Op : Int) (V : T_value_Value) (Table : Str) (Name : Str) (L : (List T_expr_Expr))
def T_expr_Expr.Kind : T_expr_Expr → Int
  | .mk y _ _ _ _ _ => y
def T_expr_Expr.Op : T_expr_Expr → Int
  | .mk _ y _ _ _ _ => y
def T_expr_Expr.V : T_expr_Expr → T_value_Value
  | .mk _ _ y _ _ _ => y
def T_expr_Expr.Table : T_expr_Expr → Str
  | .mk _ _ _ y _ _ => y
def T_expr_Expr.Name : T_expr_Expr → Str
  | .mk _ _ _ _ y _ => y
def T_expr_Expr.L : T_expr_Expr → (List T_expr_Expr)
  | .mk _ _ _ _ _ y => y

structure T_check_Field where
  Table : Str
  Name : Str
  Kind : Int

structure T_ref20_Field where
  Table : Str
  Name : Str
  Kind : Int

inductive TC where
  | c0
  | c2
  | c3
  | c4
  | c5
  | c9
  | c22
  | c23
  | c26
  | c27
  | c29
  | c35
  | c36
  | c38
  | c40
  | c41
  | c42
  | c43
  | c46
  | c96
  | c105
  | c109
  | c112
  | c115
  | c234
def KF : TC → Type
  | .c0 => Unit
  | .c2 => Int
  | .c3 => Int
  | .c4 => Bool
  | .c5 => Int
  | .c9 => Str
  | .c22 => (List T_law15_Part)
  | .c23 => (List T_law20_Cell)
  | .c26 => T_ref06_Value
  | .c27 => (List T_ref15_Expr)
  | .c29 => T_ref15_Expr
  | .c35 => T_value_Value
  | .c36 => (List T_expr_Expr)
  | .c38 => T_expr_Expr
  | .c40 => (List T_check_Field)
  | .c41 => (List T_ref20_Field)
  | .c42 => (List T_value_Value)
  | .c43 => (List T_ref06_Value)
  | .c46 => Int
  | .c96 => (List Int)
  | .c105 => T_check_Field
  | .c109 => T_law15_Part
  | .c112 => T_law20_Cell
  | .c115 => T_ref20_Field
  | .c234 => Int
def codes : List (Nat × TC) := [(2, .c2), (3, .c3), (4, .c4), (5, .c5), (9, .c9), (22, .c22), (23, .c23), (26, .c26), (27, .c27), (29, .c29), (35, .c35), (36, .c36), (38, .c38), (40, .c40), (41, .c41), (42, .c42), (43, .c43), (46, .c46), (96, .c96), (105, .c105), (109, .c109), (112, .c112), (115, .c115), (234, .c234)]
def code (t : Nat) : TC := lkC .c0 codes t
abbrev KK (t : Nat) : Type := KF (code t)
noncomputable def e_law15_Part : Enc T_law15_Part := encIso ((tbCat (tbI .u8) (tbCat (tbI .u8) (tbCat (tbI .u8) (tbCat (tbI .u8) (tbCat (tbI .i64) (tbCat tbS tbS)))))) : Tb KK _).E (fun x : T_law15_Part => (x.Kind, x.Op, x.Value, x.Parts, x.N, x.Name, x.Table))
noncomputable def b109 : Tb KK T_law15_Part := tbIso (tbCat (tbI .u8) (tbCat (tbI .u8) (tbCat (tbI .u8) (tbCat (tbI .u8) (tbCat (tbI .i64) (tbCat tbS tbS)))))) (fun x : T_law15_Part => (x.Kind, x.Op, x.Value, x.Parts, x.N, x.Name, x.Table)) (fun y => (⟨y.1, y.2.1, y.2.2.1, y.2.2.2.1, y.2.2.2.2.1, y.2.2.2.2.2.1, y.2.2.2.2.2.2⟩ : T_law15_Part)) e_law15_Part
noncomputable def e_law20_Cell : Enc T_law20_Cell := encIso ((tbCat (tbI .u8) (tbCat (tbI .u8) (tbCat (tbI .u8) (tbCat tbB (tbCat (tbI .i64) tbS))))) : Tb KK _).E (fun x : T_law20_Cell => (x.Table, x.Name, x.Kind, x.Null, x.N, x.S))
noncomputable def b112 : Tb KK T_law20_Cell := tbIso (tbCat (tbI .u8) (tbCat (tbI .u8) (tbCat (tbI .u8) (tbCat tbB (tbCat (tbI .i64) tbS))))) (fun x : T_law20_Cell => (x.Table, x.Name, x.Kind, x.Null, x.N, x.S)) (fun y => (⟨y.1, y.2.1, y.2.2.1, y.2.2.2.1, y.2.2.2.2.1, y.2.2.2.2.2⟩ : T_law20_Cell)) e_law20_Cell
noncomputable def e_ref06_Value : Enc T_ref06_Value := encIso ((tbCat (tbI .i64) (tbCat (tbI .i64) tbS)) : Tb KK _).E (fun x : T_ref06_Value => (x.Kind, x.N, x.S))
noncomputable def b26 : Tb KK T_ref06_Value := tbIso (tbCat (tbI .i64) (tbCat (tbI .i64) tbS)) (fun x : T_ref06_Value => (x.Kind, x.N, x.S)) (fun y => (⟨y.1, y.2.1, y.2.2⟩ : T_ref06_Value)) e_ref06_Value
mutual
noncomputable def c_ref15_Expr : T_ref15_Expr → List AV
  | .mk v_Kind v_Op v_V v_Table v_Name v_L => ([.it .i64 v_Kind]) ++ ([.it .i64 v_Op]) ++ (e_ref06_Value.c v_V) ++ ([.st v_Table]) ++ ([.st v_Name]) ++ ([.sl false v_L.length (cs_ref15_Expr v_L)])
noncomputable def cs_ref15_Expr : List T_ref15_Expr → List AV
  | [] => []
  | x :: r => c_ref15_Expr x ++ cs_ref15_Expr r
end
theorem cs_ref15_Expr_eq : ∀ l, cs_ref15_Expr l = l.flatMap c_ref15_Expr
  | [] => rfl
  | x :: r => by simp only [cs_ref15_Expr, List.flatMap_cons, cs_ref15_Expr_eq r]
mutual
theorem c_ref15_Expr_len : ∀ x, (c_ref15_Expr x).length = 8
  | .mk v_Kind v_Op v_V v_Table v_Name v_L => by first | (simp [c_ref15_Expr, e_ref06_Value.len]; done) | (simp [c_ref15_Expr, e_ref06_Value.len]; rfl)
end
mutual
theorem c_ref15_Expr_no : ∀ x, noLs (c_ref15_Expr x) = true
  | .mk v_Kind v_Op v_V v_Table v_Name v_L => by simp [c_ref15_Expr, noLs_app, noLs, AV.noL, slA, e_ref06_Value.no]
end
mutual
theorem c_ref15_Expr_one : ∀ x, (c_ref15_Expr x).all AV.one = true
  | .mk v_Kind v_Op v_V v_Table v_Name v_L => by simp only [c_ref15_Expr, List.all_append, List.all_cons, List.all_nil, AV.one, slA, Bool.and_true, Bool.true_and, e_ref06_Value.one]
end
noncomputable def e_ref15_Expr : Enc T_ref15_Expr := ⟨c_ref15_Expr, 8, by omega, c_ref15_Expr_len, c_ref15_Expr_no, c_ref15_Expr_one⟩
noncomputable def b29 : Tb KK T_ref15_Expr := tbIso (tbCat (tbI .i64) (tbCat (tbI .i64) (tbCat b26 (tbCat tbS (tbCat tbS (tbL 29 e_ref15_Expr : Tb KK (List T_ref15_Expr))))))) (fun x : T_ref15_Expr => (x.Kind, x.Op, x.V, x.Table, x.Name, x.L)) (fun y => (T_ref15_Expr.mk y.1 y.2.1 y.2.2.1 y.2.2.2.1 y.2.2.2.2.1 y.2.2.2.2.2)) e_ref15_Expr
noncomputable def e_value_Value : Enc T_value_Value := encIso ((tbCat (tbI .i64) (tbCat (tbI .i64) tbS)) : Tb KK _).E (fun x : T_value_Value => (x.Kind, x.N, x.S))
noncomputable def b35 : Tb KK T_value_Value := tbIso (tbCat (tbI .i64) (tbCat (tbI .i64) tbS)) (fun x : T_value_Value => (x.Kind, x.N, x.S)) (fun y => (⟨y.1, y.2.1, y.2.2⟩ : T_value_Value)) e_value_Value
mutual
noncomputable def c_expr_Expr : T_expr_Expr → List AV
  | .mk v_Kind v_Op v_V v_Table v_Name v_L => ([.it .i64 v_Kind]) ++ ([.it .i64 v_Op]) ++ (e_value_Value.c v_V) ++ ([.st v_Table]) ++ ([.st v_Name]) ++ ([.sl false v_L.length (cs_expr_Expr v_L)])
noncomputable def cs_expr_Expr : List T_expr_Expr → List AV
  | [] => []
  | x :: r => c_expr_Expr x ++ cs_expr_Expr r
end
theorem cs_expr_Expr_eq : ∀ l, cs_expr_Expr l = l.flatMap c_expr_Expr
  | [] => rfl
  | x :: r => by simp only [cs_expr_Expr, List.flatMap_cons, cs_expr_Expr_eq r]
mutual
theorem c_expr_Expr_len : ∀ x, (c_expr_Expr x).length = 8
  | .mk v_Kind v_Op v_V v_Table v_Name v_L => by first | (simp [c_expr_Expr, e_value_Value.len]; done) | (simp [c_expr_Expr, e_value_Value.len]; rfl)
end
mutual
theorem c_expr_Expr_no : ∀ x, noLs (c_expr_Expr x) = true
  | .mk v_Kind v_Op v_V v_Table v_Name v_L => by simp [c_expr_Expr, noLs_app, noLs, AV.noL, slA, e_value_Value.no]
end
mutual
theorem c_expr_Expr_one : ∀ x, (c_expr_Expr x).all AV.one = true
  | .mk v_Kind v_Op v_V v_Table v_Name v_L => by simp only [c_expr_Expr, List.all_append, List.all_cons, List.all_nil, AV.one, slA, Bool.and_true, Bool.true_and, e_value_Value.one]
end
noncomputable def e_expr_Expr : Enc T_expr_Expr := ⟨c_expr_Expr, 8, by omega, c_expr_Expr_len, c_expr_Expr_no, c_expr_Expr_one⟩
noncomputable def b38 : Tb KK T_expr_Expr := tbIso (tbCat (tbI .i64) (tbCat (tbI .i64) (tbCat b35 (tbCat tbS (tbCat tbS (tbL 38 e_expr_Expr : Tb KK (List T_expr_Expr))))))) (fun x : T_expr_Expr => (x.Kind, x.Op, x.V, x.Table, x.Name, x.L)) (fun y => (T_expr_Expr.mk y.1 y.2.1 y.2.2.1 y.2.2.2.1 y.2.2.2.2.1 y.2.2.2.2.2)) e_expr_Expr
noncomputable def e_check_Field : Enc T_check_Field := encIso ((tbCat tbS (tbCat tbS (tbI .i64))) : Tb KK _).E (fun x : T_check_Field => (x.Table, x.Name, x.Kind))
noncomputable def b105 : Tb KK T_check_Field := tbIso (tbCat tbS (tbCat tbS (tbI .i64))) (fun x : T_check_Field => (x.Table, x.Name, x.Kind)) (fun y => (⟨y.1, y.2.1, y.2.2⟩ : T_check_Field)) e_check_Field
noncomputable def e_ref20_Field : Enc T_ref20_Field := encIso ((tbCat tbS (tbCat tbS (tbI .i64))) : Tb KK _).E (fun x : T_ref20_Field => (x.Table, x.Name, x.Kind))
noncomputable def b115 : Tb KK T_ref20_Field := tbIso (tbCat tbS (tbCat tbS (tbI .i64))) (fun x : T_ref20_Field => (x.Table, x.Name, x.Kind)) (fun y => (⟨y.1, y.2.1, y.2.2⟩ : T_ref20_Field)) e_ref20_Field
noncomputable def TF : (c : TC) → Tb KK (KF c)
  | .c0 => tbU
  | .c2 => (tbI .i64)
  | .c3 => (tbI .i64)
  | .c4 => tbB
  | .c5 => (tbI .u8)
  | .c9 => tbS
  | .c22 => (tbL 109 e_law15_Part : Tb KK (List T_law15_Part))
  | .c23 => (tbL 112 e_law20_Cell : Tb KK (List T_law20_Cell))
  | .c26 => b26
  | .c27 => (tbL 29 e_ref15_Expr : Tb KK (List T_ref15_Expr))
  | .c29 => b29
  | .c35 => b35
  | .c36 => (tbL 38 e_expr_Expr : Tb KK (List T_expr_Expr))
  | .c38 => b38
  | .c40 => (tbL 105 e_check_Field : Tb KK (List T_check_Field))
  | .c41 => (tbL 115 e_ref20_Field : Tb KK (List T_ref20_Field))
  | .c42 => (tbL 35 e_value_Value : Tb KK (List T_value_Value))
  | .c43 => (tbL 26 e_ref06_Value : Tb KK (List T_ref06_Value))
  | .c46 => (tbI .i64)
  | .c96 => (tbL 3 (eI .i64) : Tb KK (List Int))
  | .c105 => b105
  | .c109 => b109
  | .c112 => b112
  | .c115 => b115
  | .c234 => (tbI .u64)
noncomputable def CC : Cx KK := @cxOf TC KF code TF
theorem b109_ok : TbOk Try.prog CC b109 := tbIso_ok (tbCat_ok (tbI_ok _) (tbCat_ok (tbI_ok _) (tbCat_ok (tbI_ok _) (tbCat_ok (tbI_ok _) (tbCat_ok (tbI_ok _) (tbCat_ok tbS_ok tbS_ok)))))) (fun y => rfl) (fun x => rfl)
theorem dw_law15_Part : ∀ x, dwks (e_law15_Part.c x) = e_law15_Part.c x := b109_ok.dw
theorem b112_ok : TbOk Try.prog CC b112 := tbIso_ok (tbCat_ok (tbI_ok _) (tbCat_ok (tbI_ok _) (tbCat_ok (tbI_ok _) (tbCat_ok tbB_ok (tbCat_ok (tbI_ok _) tbS_ok))))) (fun y => rfl) (fun x => rfl)
theorem dw_law20_Cell : ∀ x, dwks (e_law20_Cell.c x) = e_law20_Cell.c x := b112_ok.dw
theorem b26_ok : TbOk Try.prog CC b26 := tbIso_ok (tbCat_ok (tbI_ok _) (tbCat_ok (tbI_ok _) tbS_ok)) (fun y => rfl) (fun x => rfl)
theorem dw_ref06_Value : ∀ x, dwks (e_ref06_Value.c x) = e_ref06_Value.c x := b26_ok.dw
mutual
theorem c_ref15_Expr_dw : ∀ x, dwks (c_ref15_Expr x) = c_ref15_Expr x
  | .mk v_Kind v_Op v_V v_Table v_Name v_L => by simp only [c_ref15_Expr, dwks_app, dwks, dwk, slA, cs_ref15_Expr_dw v_L, dw_ref06_Value]
theorem cs_ref15_Expr_dw : ∀ l, dwks (cs_ref15_Expr l) = cs_ref15_Expr l
  | [] => rfl
  | x :: r => by simp only [cs_ref15_Expr, dwks_app, c_ref15_Expr_dw x, cs_ref15_Expr_dw r]
end
theorem dw_ref15_Expr : ∀ x, dwks (e_ref15_Expr.c x) = e_ref15_Expr.c x := c_ref15_Expr_dw
theorem b29_ok : TbOk Try.prog CC b29 := tbIso_ok (tbCat_ok (tbI_ok _) (tbCat_ok (tbI_ok _) (tbCat_ok b26_ok (tbCat_ok tbS_ok (tbCat_ok tbS_ok (tbL_ok _ rfl dw_ref15_Expr)))))) (fun y => rfl) (fun x => by cases x; simp only [e_ref15_Expr, c_ref15_Expr, cs_ref15_Expr_eq]; rfl)
theorem b35_ok : TbOk Try.prog CC b35 := tbIso_ok (tbCat_ok (tbI_ok _) (tbCat_ok (tbI_ok _) tbS_ok)) (fun y => rfl) (fun x => rfl)
theorem dw_value_Value : ∀ x, dwks (e_value_Value.c x) = e_value_Value.c x := b35_ok.dw
mutual
theorem c_expr_Expr_dw : ∀ x, dwks (c_expr_Expr x) = c_expr_Expr x
  | .mk v_Kind v_Op v_V v_Table v_Name v_L => by simp only [c_expr_Expr, dwks_app, dwks, dwk, slA, cs_expr_Expr_dw v_L, dw_value_Value]
theorem cs_expr_Expr_dw : ∀ l, dwks (cs_expr_Expr l) = cs_expr_Expr l
  | [] => rfl
  | x :: r => by simp only [cs_expr_Expr, dwks_app, c_expr_Expr_dw x, cs_expr_Expr_dw r]
end
theorem dw_expr_Expr : ∀ x, dwks (e_expr_Expr.c x) = e_expr_Expr.c x := c_expr_Expr_dw
theorem b38_ok : TbOk Try.prog CC b38 := tbIso_ok (tbCat_ok (tbI_ok _) (tbCat_ok (tbI_ok _) (tbCat_ok b35_ok (tbCat_ok tbS_ok (tbCat_ok tbS_ok (tbL_ok _ rfl dw_expr_Expr)))))) (fun y => rfl) (fun x => by cases x; simp only [e_expr_Expr, c_expr_Expr, cs_expr_Expr_eq]; rfl)
theorem b105_ok : TbOk Try.prog CC b105 := tbIso_ok (tbCat_ok tbS_ok (tbCat_ok tbS_ok (tbI_ok _))) (fun y => rfl) (fun x => rfl)
theorem dw_check_Field : ∀ x, dwks (e_check_Field.c x) = e_check_Field.c x := b105_ok.dw
theorem b115_ok : TbOk Try.prog CC b115 := tbIso_ok (tbCat_ok tbS_ok (tbCat_ok tbS_ok (tbI_ok _))) (fun y => rfl) (fun x => rfl)
theorem dw_ref20_Field : ∀ x, dwks (e_ref20_Field.c x) = e_ref20_Field.c x := b115_ok.dw
theorem CC_ok : CxOk Try.prog CC := @cxOf_ok TC KF code _ TF fun c => match c with
  | .c0 => tbU_ok
  | .c2 => (tbI_ok _)
  | .c3 => (tbI_ok _)
  | .c4 => tbB_ok
  | .c5 => (tbI_ok _)
  | .c9 => tbS_ok
  | .c22 => (tbL_ok _ rfl dw_law15_Part)
  | .c23 => (tbL_ok _ rfl dw_law20_Cell)
  | .c26 => b26_ok
  | .c27 => (tbL_ok _ rfl dw_ref15_Expr)
  | .c29 => b29_ok
  | .c35 => b35_ok
  | .c36 => (tbL_ok _ rfl dw_expr_Expr)
  | .c38 => b38_ok
  | .c40 => (tbL_ok _ rfl dw_check_Field)
  | .c41 => (tbL_ok _ rfl dw_ref20_Field)
  | .c42 => (tbL_ok _ rfl dw_value_Value)
  | .c43 => (tbL_ok _ rfl dw_ref06_Value)
  | .c46 => (tbI_ok _)
  | .c96 => (tbL_ok _ rfl (fun _ => rfl))
  | .c105 => b105_ok
  | .c109 => b109_ok
  | .c112 => b112_ok
  | .c115 => b115_ok
  | .c234 => (tbI_ok _)

def value_OfInt_o (a0 : Int) (r0 : T_value_Value) : Prop :=
  (⟨(2 : Int), a0, ([] : Str)⟩ : T_value_Value) = r0
noncomputable def value_OfInt_sp : Sp KK := ⟨27, [.v 2], [35], appW (K := KK) [35] [.v 2] value_OfInt_o⟩
noncomputable def value_OfInt_an : An KK := (.s .o (.s .o .o))
noncomputable def value_OfInt_cf : Cf KK := ⟨CC, [], 5⟩

set_option maxRecDepth 100000 in
theorem value_OfInt_ok : SpOk Try.prog CC value_OfInt_sp := by
  intro env r hF h
  obtain ⟨a0, env0, rfl, h1⟩ := appW_v h
  obtain ⟨rfl, h2⟩ := appW_n h1
  obtain ⟨r0, rr0, rfl, h3⟩ := apR_v h2
  obtain ⟨rfl, h4⟩ := apR_n h3
  refine ⟨rfl, DnF_by (F := value_OfInt_cf) CC_ok SsOk_n t27 (A := value_OfInt_an) (ps := [.v 2]) (rs := [35]) (env := [.d (.v 2 a0)]) (r := [.v 35 r0]) (X := value_OfInt_o a0 r0) rfl (Nat.le_of_ble_eq_true rfl) rfl hF h4 ?_⟩
  kernel_rfl

def check_Find_J2 (X1 : Int → Int → Int → Prop) (x3 : Int) (x2 : Int) (x1 : Int) (x5 : Bool) : Prop :=
  cnd x5 (X1 x3 (IntKind.i64.wrap (x2 + (1 : Int))) (IntKind.i64.wrap (x3 + (1 : Int)))) (X1 x1 x2 (IntKind.i64.wrap (x3 + (1 : Int))))
def check_Find_L1 (a0 : (List T_check_Field)) (a1 : T_expr_Expr) (r0 : Int) (r1 : Int) (X1 : Int → Int → Int → Prop) (x1 : Int) (x2 : Int) (x3 : Int) : Prop :=
  cnd (decide (x3 < (a0.length : Int))) ((0 ≤ x3) ∧ (x3 < (a0.length : Int)) ∧ ∃ y4 : T_check_Field, (a0[x3.toNat]? = some y4) ∧ ∀ J2 : Bool → Prop, (∀ (x5 : Bool), check_Find_J2 X1 x3 x2 x1 x5 → J2 x5) → cnd (y4.Name == a1.Name) (cnd (a1.Table == ([] : Str)) (J2 true) (J2 (a1.Table == y4.Table))) (J2 false)) (cnd (x2 == (0 : Int)) ((0 : Int) = r0 ∧ (6 : Int) = r1) (cnd (x2 == (1 : Int)) (x1 = r0 ∧ (0 : Int) = r1) ((0 : Int) = r0 ∧ (7 : Int) = r1)))
def check_Find_o (a0 : (List T_check_Field)) (a1 : T_expr_Expr) (r0 : Int) (r1 : Int) : Prop :=
  (a0.length ≤ maxLen → ∀ X1 : Int → Int → Int → Prop, (∀ (x1 : Int) (x2 : Int) (x3 : Int), check_Find_L1 a0 a1 r0 r1 X1 x1 x2 x3 → X1 x1 x2 x3) → X1 (0 : Int) (0 : Int) (0 : Int))
def check_Find_J2i (X1 : Int → Int → Int → Prop) (x1 : Int) (x2 : Int) (x3 : Int) (x5 : Bool) : Prop :=
  cnd x5 (X1 x3 (IntKind.i64.wrap (x2 + (1 : Int))) (IntKind.i64.wrap (x3 + (1 : Int)))) (X1 x1 x2 (IntKind.i64.wrap (x3 + (1 : Int))))
def check_Find_L1i (a0 : (List T_check_Field)) (a1 : T_expr_Expr) (r0 : Int) (r1 : Int) (X1 : Int → Int → Int → Prop) (x1 : Int) (x2 : Int) (x3 : Int) : Prop :=
  cnd (decide (x3 < (a0.length : Int))) ((0 ≤ x3) ∧ (x3 < (a0.length : Int)) ∧ ∃ y4 : T_check_Field, (a0[x3.toNat]? = some y4) ∧ cnd (y4.Name == a1.Name) (cnd (a1.Table == ([] : Str)) (check_Find_J2i X1 x1 x2 x3 true) (check_Find_J2i X1 x1 x2 x3 (a1.Table == y4.Table))) (check_Find_J2i X1 x1 x2 x3 false)) (cnd (x2 == (0 : Int)) ((0 : Int) = r0 ∧ (6 : Int) = r1) (cnd (x2 == (1 : Int)) (x1 = r0 ∧ (0 : Int) = r1) ((0 : Int) = r0 ∧ (7 : Int) = r1)))
def check_Find_oi (a0 : (List T_check_Field)) (a1 : T_expr_Expr) (r0 : Int) (r1 : Int) : Prop :=
  (a0.length ≤ maxLen → ∀ X1 : Int → Int → Int → Prop, (∀ (x1 : Int) (x2 : Int) (x3 : Int), check_Find_L1i a0 a1 r0 r1 X1 x1 x2 x3 → X1 x1 x2 x3) → X1 (0 : Int) (0 : Int) (0 : Int))
theorem check_Find_J2_m (X1 : Int → Int → Int → Prop) (x1 : Int) (x2 : Int) (x3 : Int) {x5 : Bool} (h : check_Find_J2i X1 x1 x2 x3 x5) : check_Find_J2 X1 x3 x2 x1 x5 := by
  unfold check_Find_J2
  unfold check_Find_J2i at h
  exact h
theorem check_Find_L1_m (a0 : (List T_check_Field)) (a1 : T_expr_Expr) (r0 : Int) (r1 : Int) {X1 : Int → Int → Int → Prop} {x1 : Int} {x2 : Int} {x3 : Int} (h : check_Find_L1i a0 a1 r0 r1 X1 x1 x2 x3) : check_Find_L1 a0 a1 r0 r1 X1 x1 x2 x3 := by
  unfold check_Find_L1
  unfold check_Find_L1i at h
  refine cnd_mono h (fun h => ?_) (fun h => ?_)
  · obtain ⟨h0, h⟩ := h
    refine ⟨h0, ?_⟩
    obtain ⟨h0, h⟩ := h
    refine ⟨h0, ?_⟩
    obtain ⟨y4, h⟩ := h
    refine ⟨y4, ?_⟩
    obtain ⟨h0, h⟩ := h
    refine ⟨h0, ?_⟩
    intro J2 kJ2
    have hJ2 : ∀ (x5 : Bool), check_Find_J2i X1 x1 x2 x3 x5 → J2 x5 := fun x5 q => kJ2 x5 (check_Find_J2_m X1 x1 x2 x3 q)
    refine cnd_mono h (fun h => ?_) (fun h => ?_)
    · refine cnd_mono h (fun h => ?_) (fun h => ?_)
      · exact hJ2 _ h
      · exact hJ2 _ h
    · exact hJ2 _ h
  · exact h
theorem check_Find_i (a0 : (List T_check_Field)) (a1 : T_expr_Expr) (r0 : Int) (r1 : Int) (h : check_Find_oi a0 a1 r0 r1) : check_Find_o a0 a1 r0 r1 := by
  unfold check_Find_o
  unfold check_Find_oi at h
  intro c
  replace h := h c
  intro X1 k
  exact h X1 (fun x1 x2 x3 q => k x1 x2 x3 (check_Find_L1_m a0 a1 r0 r1 q))
noncomputable def check_Find_sp : Sp KK := ⟨31, [.v 40, .v 38], [3, 46], appW (K := KK) [3, 46] [.v 40, .v 38] check_Find_o⟩
noncomputable def check_Find_an : An KK := (.s .o (.s .o (.s (.s .o (.b (.l ⟨[(3, .px 3 0), (6, .it .i64), (7, .it .i64), (10, .kp 32), (11, .kp 33), (12, .it .i64)], [(3, 38, [.kp 35, .kp 36, .kp 37, .kp 38, .kp 39, .kp 40, .kp 41, .kp 42])], []⟩ (fun _ => (.s .o (.s (.c .o .o) (.s (.b (.s .o (.j ⟨[(3, .px 3 0), (6, .kp 55), (7, .kp 56), (8, .kp 57), (10, .kp 32), (11, .kp 33), (12, .kp 58), (33, .bl)], [(3, 38, [.kp 35, .kp 36, .kp 37, .kp 38, .kp 39, .kp 40, .kp 41, .kp 42])], []⟩ .o (fun _ => (.c (.s .o .o) .o))))) .o))))))) (.s (.s .o (.b (.s .o (.c (.s .o .o) (.s .o (.c (.s .o .o) .o)))))) (.s .o .o)))))
noncomputable def check_Find_cf : Cf KK := ⟨CC, [], 44⟩

set_option maxRecDepth 100000 in
theorem check_Find_ok : SpOk Try.prog CC check_Find_sp := by
  intro env r hF h
  obtain ⟨a0, env0, rfl, h1⟩ := appW_v h
  obtain ⟨a1, env1, rfl, h2⟩ := appW_v h1
  obtain ⟨rfl, h3⟩ := appW_n h2
  obtain ⟨r0, rr0, rfl, h4⟩ := apR_v h3
  obtain ⟨r1, rr1, rfl, h5⟩ := apR_v h4
  obtain ⟨rfl, h6⟩ := apR_n h5
  refine ⟨rfl, DnF_by (F := check_Find_cf) CC_ok SsOk_n t31 (A := check_Find_an) (ps := [.v 40, .v 38]) (rs := [3, 46]) (env := [.d (.v 40 a0), .d (.v 38 a1)]) (r := [.v 3 r0, .v 46 r1]) (X := check_Find_o a0 a1 r0 r1) rfl (Nat.le_of_ble_eq_true rfl) rfl hF h6 ?_⟩
  kernel_rfl

def check_is_o (a0 : Int) (a1 : Int) (r0 : Bool) : Prop :=
  cnd (a0 == (0 : Int)) (true = r0) ((a0 == a1) = r0)
noncomputable def check_is_sp : Sp KK := ⟨89, [.v 3, .v 3], [4], appW (K := KK) [4] [.v 3, .v 3] check_is_o⟩
noncomputable def check_is_an : An KK := (.s .o (.s .o .o))
noncomputable def check_is_cf : Cf KK := ⟨CC, [], 12⟩

set_option maxRecDepth 100000 in
theorem check_is_ok : SpOk Try.prog CC check_is_sp := by
  intro env r hF h
  obtain ⟨a0, env0, rfl, h1⟩ := appW_v h
  obtain ⟨a1, env1, rfl, h2⟩ := appW_v h1
  obtain ⟨rfl, h3⟩ := appW_n h2
  obtain ⟨r0, rr0, rfl, h4⟩ := apR_v h3
  obtain ⟨rfl, h5⟩ := apR_n h4
  refine ⟨rfl, DnF_by (F := check_is_cf) CC_ok SsOk_n t89 (A := check_is_an) (ps := [.v 3, .v 3]) (rs := [4]) (env := [.d (.v 3 a0), .d (.v 3 a1)]) (r := [.v 4 r0]) (X := check_is_o a0 a1 r0) rfl (Nat.le_of_ble_eq_true rfl) rfl hF h5 ?_⟩
  kernel_rfl

def check_binary_J2 (r0 : Int) (r1 : Int) (x2 : Int) (x3 : Bool) : Prop :=
  cnd x3 ((0 : Int) = r0 ∧ (5 : Int) = r1) (x2 = r0 ∧ (0 : Int) = r1)
def check_binary_J1 (r0 : Int) (r1 : Int) (a1 : Int) (a2 : Int) (x1 : Int) (x2 : Int) : Prop :=
  ∀ J2 : Bool → Prop, (∀ (x3 : Bool), check_binary_J2 r0 r1 x2 x3 → J2 x3) → ∃ z4 : Bool, (check_is_o a1 x1 z4) ∧ cnd (!z4) (J2 true) (∃ z5 : Bool, (check_is_o a2 x1 z5) ∧ J2 (!z5))
def check_binary_J3 (r0 : Int) (r1 : Int) (x6 : Bool) : Prop :=
  cnd x6 ((0 : Int) = r0 ∧ (5 : Int) = r1) ((1 : Int) = r0 ∧ (0 : Int) = r1)
def check_binary_J4 (J1 : Int → Int → Prop) (a0 : Int) (x7 : Bool) : Prop :=
  cnd x7 (J1 (1 : Int) (1 : Int)) (cnd (a0 == (12 : Int)) (J1 (3 : Int) (3 : Int)) (J1 (2 : Int) (2 : Int)))
def check_binary_o (a0 : Int) (a1 : Int) (a2 : Int) (r0 : Int) (r1 : Int) : Prop :=
  ∀ J1 : Int → Int → Prop, (∀ (x1 : Int) (x2 : Int), check_binary_J1 r0 r1 a1 a2 x1 x2 → J1 x1 x2) → cnd (decide (a0 ≤ (6 : Int))) (∀ J3 : Bool → Prop, (∀ (x6 : Bool), check_binary_J3 r0 r1 x6 → J3 x6) → cnd (!(a1 == a2)) (cnd (!(a1 == (0 : Int))) (J3 (!(a2 == (0 : Int)))) (J3 false)) (J3 false)) (∀ J4 : Bool → Prop, (∀ (x7 : Bool), check_binary_J4 J1 a0 x7 → J4 x7) → cnd (a0 == (13 : Int)) (J4 true) (J4 (a0 == (14 : Int))))
def check_binary_J2i (r0 : Int) (r1 : Int) (x2 : Int) (x3 : Bool) : Prop :=
  cnd x3 ((0 : Int) = r0 ∧ (5 : Int) = r1) (x2 = r0 ∧ (0 : Int) = r1)
def check_binary_J1i (a1 : Int) (a2 : Int) (r0 : Int) (r1 : Int) (x1 : Int) (x2 : Int) : Prop :=
  ∃ z4 : Bool, (check_is_o a1 x1 z4) ∧ cnd (!z4) (check_binary_J2i r0 r1 x2 true) (∃ z5 : Bool, (check_is_o a2 x1 z5) ∧ check_binary_J2i r0 r1 x2 (!z5))
def check_binary_J3i (r0 : Int) (r1 : Int) (x6 : Bool) : Prop :=
  cnd x6 ((0 : Int) = r0 ∧ (5 : Int) = r1) ((1 : Int) = r0 ∧ (0 : Int) = r1)
def check_binary_J4i (a0 : Int) (a1 : Int) (a2 : Int) (r0 : Int) (r1 : Int) (x7 : Bool) : Prop :=
  cnd x7 (check_binary_J1i a1 a2 r0 r1 (1 : Int) (1 : Int)) (cnd (a0 == (12 : Int)) (check_binary_J1i a1 a2 r0 r1 (3 : Int) (3 : Int)) (check_binary_J1i a1 a2 r0 r1 (2 : Int) (2 : Int)))
def check_binary_oi (a0 : Int) (a1 : Int) (a2 : Int) (r0 : Int) (r1 : Int) : Prop :=
  cnd (decide (a0 ≤ (6 : Int))) (cnd (!(a1 == a2)) (cnd (!(a1 == (0 : Int))) (check_binary_J3i r0 r1 (!(a2 == (0 : Int)))) (check_binary_J3i r0 r1 false)) (check_binary_J3i r0 r1 false)) (cnd (a0 == (13 : Int)) (check_binary_J4i a0 a1 a2 r0 r1 true) (check_binary_J4i a0 a1 a2 r0 r1 (a0 == (14 : Int))))
theorem check_binary_J2_m (r0 : Int) (r1 : Int) (x2 : Int) {x3 : Bool} (h : check_binary_J2i r0 r1 x2 x3) : check_binary_J2 r0 r1 x2 x3 := by
  unfold check_binary_J2
  unfold check_binary_J2i at h
  exact h
theorem check_binary_J1_m (a1 : Int) (a2 : Int) (r0 : Int) (r1 : Int) {x1 : Int} {x2 : Int} (h : check_binary_J1i a1 a2 r0 r1 x1 x2) : check_binary_J1 r0 r1 a1 a2 x1 x2 := by
  unfold check_binary_J1
  unfold check_binary_J1i at h
  intro J2 kJ2
  have hJ2 : ∀ (x3 : Bool), check_binary_J2i r0 r1 x2 x3 → J2 x3 := fun x3 q => kJ2 x3 (check_binary_J2_m r0 r1 x2 q)
  obtain ⟨z4, h⟩ := h
  refine ⟨z4, ?_⟩
  obtain ⟨h0, h⟩ := h
  refine ⟨h0, ?_⟩
  refine cnd_mono h (fun h => ?_) (fun h => ?_)
  · exact hJ2 _ h
  · obtain ⟨z5, h⟩ := h
    refine ⟨z5, ?_⟩
    obtain ⟨h0, h⟩ := h
    refine ⟨h0, ?_⟩
    exact hJ2 _ h
theorem check_binary_J3_m (r0 : Int) (r1 : Int) {x6 : Bool} (h : check_binary_J3i r0 r1 x6) : check_binary_J3 r0 r1 x6 := by
  unfold check_binary_J3
  unfold check_binary_J3i at h
  exact h
theorem check_binary_J4_m (J1 : Int → Int → Prop) (a0 : Int) (a1 : Int) (a2 : Int) (r0 : Int) (r1 : Int) (hJ1 : ∀ (x1 : Int) (x2 : Int), check_binary_J1i a1 a2 r0 r1 x1 x2 → J1 x1 x2) {x7 : Bool} (h : check_binary_J4i a0 a1 a2 r0 r1 x7) : check_binary_J4 J1 a0 x7 := by
  unfold check_binary_J4
  unfold check_binary_J4i at h
  refine cnd_mono h (fun h => ?_) (fun h => ?_)
  · exact hJ1 _ _ h
  · refine cnd_mono h (fun h => ?_) (fun h => ?_)
    · exact hJ1 _ _ h
    · exact hJ1 _ _ h
theorem check_binary_i (a0 : Int) (a1 : Int) (a2 : Int) (r0 : Int) (r1 : Int) (h : check_binary_oi a0 a1 a2 r0 r1) : check_binary_o a0 a1 a2 r0 r1 := by
  unfold check_binary_o
  unfold check_binary_oi at h
  intro J1 kJ1
  have hJ1 : ∀ (x1 : Int) (x2 : Int), check_binary_J1i a1 a2 r0 r1 x1 x2 → J1 x1 x2 := fun x1 x2 q => kJ1 x1 x2 (check_binary_J1_m a1 a2 r0 r1 q)
  refine cnd_mono h (fun h => ?_) (fun h => ?_)
  · intro J3 kJ3
    have hJ3 : ∀ (x6 : Bool), check_binary_J3i r0 r1 x6 → J3 x6 := fun x6 q => kJ3 x6 (check_binary_J3_m r0 r1 q)
    refine cnd_mono h (fun h => ?_) (fun h => ?_)
    · refine cnd_mono h (fun h => ?_) (fun h => ?_)
      · exact hJ3 _ h
      · exact hJ3 _ h
    · exact hJ3 _ h
  · intro J4 kJ4
    have hJ4 : ∀ (x7 : Bool), check_binary_J4i a0 a1 a2 r0 r1 x7 → J4 x7 := fun x7 q => kJ4 x7 (check_binary_J4_m J1 a0 a1 a2 r0 r1 hJ1 q)
    refine cnd_mono h (fun h => ?_) (fun h => ?_)
    · exact hJ4 _ h
    · exact hJ4 _ h
noncomputable def check_binary_sp : Sp KK := ⟨57, [.v 3, .v 3, .v 3], [3, 46], appW (K := KK) [3, 46] [.v 3, .v 3, .v 3] check_binary_o⟩
noncomputable def check_binary_an : An KK := (.s .o (.s .o (.j ⟨[(1, .kp 2), (2, .kp 3), (8, .it .i64), (9, .it .i64)], [], []⟩ (.b (.s .o (.c (.s (.j ⟨[(23, .bl)], [], []⟩ .o (fun _ => (.c (.s .o .o) .o))) (.s .o .o)) (.j ⟨[(0, .kp 7), (1, .kp 2), (2, .kp 3), (24, .bl)], [], []⟩ .o (fun _ => (.c .o (.s .o (.c .o .o)))))))) (fun _ => (.s (.j ⟨[(9, .kp 6), (43, .bl)], [], []⟩ .o (fun _ => (.c (.s .o .o) .o))) (.s .o .o))))))
noncomputable def check_binary_cf : Cf KK := ⟨CC, [check_is_sp], 45⟩

set_option maxRecDepth 100000 in
theorem check_binary_ok : SpOk Try.prog CC check_binary_sp := by
  intro env r hF h
  obtain ⟨a0, env0, rfl, h1⟩ := appW_v h
  obtain ⟨a1, env1, rfl, h2⟩ := appW_v h1
  obtain ⟨a2, env2, rfl, h3⟩ := appW_v h2
  obtain ⟨rfl, h4⟩ := appW_n h3
  obtain ⟨r0, rr0, rfl, h5⟩ := apR_v h4
  obtain ⟨r1, rr1, rfl, h6⟩ := apR_v h5
  obtain ⟨rfl, h7⟩ := apR_n h6
  refine ⟨rfl, DnF_by (F := check_binary_cf) CC_ok (SsOk_c check_is_ok SsOk_n) t57 (A := check_binary_an) (ps := [.v 3, .v 3, .v 3]) (rs := [3, 46]) (env := [.d (.v 3 a0), .d (.v 3 a1), .d (.v 3 a2)]) (r := [.v 3 r0, .v 46 r1]) (X := check_binary_o a0 a1 a2 r0 r1) rfl (Nat.le_of_ble_eq_true rfl) rfl hF h7 ?_⟩
  kernel_rfl

def check_unary_J1 (r0 : Int) (r1 : Int) (a2 : Int) (x1 : Bool) : Prop :=
  cnd x1 ((0 : Int) = r0 ∧ (5 : Int) = r1) (a2 = r0 ∧ (0 : Int) = r1)
def check_unary_o (a0 : Int) (a1 : Int) (a2 : Int) (r0 : Int) (r1 : Int) : Prop :=
  ∀ J1 : Bool → Prop, (∀ (x1 : Bool), check_unary_J1 r0 r1 a2 x1 → J1 x1) → cnd (!(a1 == (0 : Int))) (∃ z2 : Bool, (check_is_o a0 a1 z2) ∧ J1 (!z2)) (J1 false)
def check_unary_J1i (a2 : Int) (r0 : Int) (r1 : Int) (x1 : Bool) : Prop :=
  cnd x1 ((0 : Int) = r0 ∧ (5 : Int) = r1) (a2 = r0 ∧ (0 : Int) = r1)
def check_unary_oi (a0 : Int) (a1 : Int) (a2 : Int) (r0 : Int) (r1 : Int) : Prop :=
  cnd (!(a1 == (0 : Int))) (∃ z2 : Bool, (check_is_o a0 a1 z2) ∧ check_unary_J1i a2 r0 r1 (!z2)) (check_unary_J1i a2 r0 r1 false)
theorem check_unary_J1_m (a2 : Int) (r0 : Int) (r1 : Int) {x1 : Bool} (h : check_unary_J1i a2 r0 r1 x1) : check_unary_J1 r0 r1 a2 x1 := by
  unfold check_unary_J1
  unfold check_unary_J1i at h
  exact h
theorem check_unary_i (a0 : Int) (a1 : Int) (a2 : Int) (r0 : Int) (r1 : Int) (h : check_unary_oi a0 a1 a2 r0 r1) : check_unary_o a0 a1 a2 r0 r1 := by
  unfold check_unary_o
  unfold check_unary_oi at h
  intro J1 kJ1
  have hJ1 : ∀ (x1 : Bool), check_unary_J1i a2 r0 r1 x1 → J1 x1 := fun x1 q => kJ1 x1 (check_unary_J1_m a2 r0 r1 q)
  refine cnd_mono h (fun h => ?_) (fun h => ?_)
  · obtain ⟨z2, h⟩ := h
    refine ⟨z2, ?_⟩
    obtain ⟨h0, h⟩ := h
    refine ⟨h0, ?_⟩
    exact hJ1 _ h
  · exact hJ1 _ h
noncomputable def check_unary_sp : Sp KK := ⟨58, [.v 3, .v 3, .v 3], [3, 46], appW (K := KK) [3, 46] [.v 3, .v 3, .v 3] check_unary_o⟩
noncomputable def check_unary_an : An KK := (.s .o (.s (.j ⟨[(2, .kp 2), (15, .bl)], [], []⟩ .o (fun _ => (.c (.s .o .o) .o))) (.s .o .o)))
noncomputable def check_unary_cf : Cf KK := ⟨CC, [check_is_sp], 17⟩

set_option maxRecDepth 100000 in
theorem check_unary_ok : SpOk Try.prog CC check_unary_sp := by
  intro env r hF h
  obtain ⟨a0, env0, rfl, h1⟩ := appW_v h
  obtain ⟨a1, env1, rfl, h2⟩ := appW_v h1
  obtain ⟨a2, env2, rfl, h3⟩ := appW_v h2
  obtain ⟨rfl, h4⟩ := appW_n h3
  obtain ⟨r0, rr0, rfl, h5⟩ := apR_v h4
  obtain ⟨r1, rr1, rfl, h6⟩ := apR_v h5
  obtain ⟨rfl, h7⟩ := apR_n h6
  refine ⟨rfl, DnF_by (F := check_unary_cf) CC_ok (SsOk_c check_is_ok SsOk_n) t58 (A := check_unary_an) (ps := [.v 3, .v 3, .v 3]) (rs := [3, 46]) (env := [.d (.v 3 a0), .d (.v 3 a1), .d (.v 3 a2)]) (r := [.v 3 r0, .v 46 r1]) (X := check_unary_o a0 a1 a2 r0 r1) rfl (Nat.le_of_ble_eq_true rfl) rfl hF h7 ?_⟩
  kernel_rfl

def check_kindOf_J1 (r0 : Int) (r1 : Int) (a0 : T_expr_Expr) (a2 : (List Int)) (x14 : Bool) : Prop :=
  cnd x14 ((1 : Int) = r0 ∧ (0 : Int) = r1) (cnd (a0.Op == (1 : Int)) ((2 : Int) = r0 ∧ (0 : Int) = r1) (cnd (a0.Op == (2 : Int)) ((0 ≤ (0 : Int)) ∧ ((0 : Int) < (a2.length : Int)) ∧ ∃ y15 : Int, (a2[(0 : Int).toNat]? = some y15) ∧ ∃ z16 : Int, ∃ z17 : Int, (check_unary_o y15 (2 : Int) (2 : Int) z16 z17) ∧ z16 = r0 ∧ z17 = r1) ((0 ≤ (0 : Int)) ∧ ((0 : Int) < (a2.length : Int)) ∧ ∃ y18 : Int, (a2[(0 : Int).toNat]? = some y18) ∧ y18 = r0 ∧ (0 : Int) = r1)))
def check_kindOf_o (a0 : T_expr_Expr) (a1 : (List T_check_Field)) (a2 : (List Int)) (r0 : Int) (r1 : Int) : Prop :=
  cnd (a0.Kind == (1 : Int)) (a0.V.Kind = r0 ∧ (0 : Int) = r1) (cnd (a0.Kind == (2 : Int)) (∃ z1 : Int, ∃ z2 : Int, (check_Find_o a1 (T_expr_Expr.mk a0.Kind a0.Op (⟨a0.V.Kind, a0.V.N, a0.V.S⟩ : T_value_Value) a0.Table a0.Name a0.L) z1 z2) ∧ cnd (!(z2 == (0 : Int))) ((0 : Int) = r0 ∧ z2 = r1) ((0 ≤ z1) ∧ (z1 < (a1.length : Int)) ∧ ∃ y3 : T_check_Field, (a1[z1.toNat]? = some y3) ∧ y3.Kind = r0 ∧ (0 : Int) = r1)) (cnd (a0.Kind == (3 : Int)) ((0 ≤ (0 : Int)) ∧ ((0 : Int) < (a2.length : Int)) ∧ ∃ y4 : Int, (a2[(0 : Int).toNat]? = some y4) ∧ (0 ≤ (1 : Int)) ∧ ((1 : Int) < (a2.length : Int)) ∧ ∃ y5 : Int, (a2[(1 : Int).toNat]? = some y5) ∧ ∃ z6 : Int, ∃ z7 : Int, (check_binary_o a0.Op y4 y5 z6 z7) ∧ z6 = r0 ∧ z7 = r1) (cnd (a0.Kind == (4 : Int)) ((0 ≤ (0 : Int)) ∧ ((0 : Int) < (a2.length : Int)) ∧ ∃ y8 : Int, (a2[(0 : Int).toNat]? = some y8) ∧ ∃ z9 : Int, ∃ z10 : Int, (check_unary_o y8 (1 : Int) (1 : Int) z9 z10) ∧ z9 = r0 ∧ z10 = r1) (cnd (a0.Kind == (5 : Int)) ((0 ≤ (0 : Int)) ∧ ((0 : Int) < (a2.length : Int)) ∧ ∃ y11 : Int, (a2[(0 : Int).toNat]? = some y11) ∧ ∃ z12 : Int, ∃ z13 : Int, (check_unary_o y11 (2 : Int) (2 : Int) z12 z13) ∧ z12 = r0 ∧ z13 = r1) (∀ J1 : Bool → Prop, (∀ (x14 : Bool), check_kindOf_J1 r0 r1 a0 a2 x14 → J1 x14) → cnd (a0.Kind == (6 : Int)) (J1 (a0.Kind == (6 : Int))) (J1 (a0.Kind == (7 : Int))))))))
def check_kindOf_J1i (a0 : T_expr_Expr) (a2 : (List Int)) (r0 : Int) (r1 : Int) (x14 : Bool) : Prop :=
  cnd x14 ((1 : Int) = r0 ∧ (0 : Int) = r1) (cnd (a0.Op == (1 : Int)) ((2 : Int) = r0 ∧ (0 : Int) = r1) (cnd (a0.Op == (2 : Int)) ((0 ≤ (0 : Int)) ∧ ((0 : Int) < (a2.length : Int)) ∧ ∃ y15 : Int, (a2[(0 : Int).toNat]? = some y15) ∧ ∃ z16 : Int, ∃ z17 : Int, (check_unary_o y15 (2 : Int) (2 : Int) z16 z17) ∧ z16 = r0 ∧ z17 = r1) ((0 ≤ (0 : Int)) ∧ ((0 : Int) < (a2.length : Int)) ∧ ∃ y18 : Int, (a2[(0 : Int).toNat]? = some y18) ∧ y18 = r0 ∧ (0 : Int) = r1)))
def check_kindOf_oi (a0 : T_expr_Expr) (a1 : (List T_check_Field)) (a2 : (List Int)) (r0 : Int) (r1 : Int) : Prop :=
  cnd (a0.Kind == (1 : Int)) (a0.V.Kind = r0 ∧ (0 : Int) = r1) (cnd (a0.Kind == (2 : Int)) (∃ z1 : Int, ∃ z2 : Int, (check_Find_o a1 (T_expr_Expr.mk a0.Kind a0.Op (⟨a0.V.Kind, a0.V.N, a0.V.S⟩ : T_value_Value) a0.Table a0.Name a0.L) z1 z2) ∧ cnd (!(z2 == (0 : Int))) ((0 : Int) = r0 ∧ z2 = r1) ((0 ≤ z1) ∧ (z1 < (a1.length : Int)) ∧ ∃ y3 : T_check_Field, (a1[z1.toNat]? = some y3) ∧ y3.Kind = r0 ∧ (0 : Int) = r1)) (cnd (a0.Kind == (3 : Int)) ((0 ≤ (0 : Int)) ∧ ((0 : Int) < (a2.length : Int)) ∧ ∃ y4 : Int, (a2[(0 : Int).toNat]? = some y4) ∧ (0 ≤ (1 : Int)) ∧ ((1 : Int) < (a2.length : Int)) ∧ ∃ y5 : Int, (a2[(1 : Int).toNat]? = some y5) ∧ ∃ z6 : Int, ∃ z7 : Int, (check_binary_o a0.Op y4 y5 z6 z7) ∧ z6 = r0 ∧ z7 = r1) (cnd (a0.Kind == (4 : Int)) ((0 ≤ (0 : Int)) ∧ ((0 : Int) < (a2.length : Int)) ∧ ∃ y8 : Int, (a2[(0 : Int).toNat]? = some y8) ∧ ∃ z9 : Int, ∃ z10 : Int, (check_unary_o y8 (1 : Int) (1 : Int) z9 z10) ∧ z9 = r0 ∧ z10 = r1) (cnd (a0.Kind == (5 : Int)) ((0 ≤ (0 : Int)) ∧ ((0 : Int) < (a2.length : Int)) ∧ ∃ y11 : Int, (a2[(0 : Int).toNat]? = some y11) ∧ ∃ z12 : Int, ∃ z13 : Int, (check_unary_o y11 (2 : Int) (2 : Int) z12 z13) ∧ z12 = r0 ∧ z13 = r1) (cnd (a0.Kind == (6 : Int)) (check_kindOf_J1i a0 a2 r0 r1 (a0.Kind == (6 : Int))) (check_kindOf_J1i a0 a2 r0 r1 (a0.Kind == (7 : Int))))))))
theorem check_kindOf_J1_m (a0 : T_expr_Expr) (a2 : (List Int)) (r0 : Int) (r1 : Int) {x14 : Bool} (h : check_kindOf_J1i a0 a2 r0 r1 x14) : check_kindOf_J1 r0 r1 a0 a2 x14 := by
  unfold check_kindOf_J1
  unfold check_kindOf_J1i at h
  exact h
theorem check_kindOf_i (a0 : T_expr_Expr) (a1 : (List T_check_Field)) (a2 : (List Int)) (r0 : Int) (r1 : Int) (h : check_kindOf_oi a0 a1 a2 r0 r1) : check_kindOf_o a0 a1 a2 r0 r1 := by
  unfold check_kindOf_o
  unfold check_kindOf_oi at h
  refine cnd_mono h (fun h => ?_) (fun h => ?_)
  · exact h
  · refine cnd_mono h (fun h => ?_) (fun h => ?_)
    · exact h
    · refine cnd_mono h (fun h => ?_) (fun h => ?_)
      · exact h
      · refine cnd_mono h (fun h => ?_) (fun h => ?_)
        · exact h
        · refine cnd_mono h (fun h => ?_) (fun h => ?_)
          · exact h
          · intro J1 kJ1
            have hJ1 : ∀ (x14 : Bool), check_kindOf_J1i a0 a2 r0 r1 x14 → J1 x14 := fun x14 q => kJ1 x14 (check_kindOf_J1_m a0 a2 r0 r1 q)
            refine cnd_mono h (fun h => ?_) (fun h => ?_)
            · exact hJ1 _ h
            · exact hJ1 _ h
noncomputable def check_kindOf_sp : Sp KK := ⟨30, [.v 38, .v 40, .v 96], [3, 46], appW (K := KK) [3, 46] [.v 38, .v 40, .v 96] check_kindOf_o⟩
noncomputable def check_kindOf_an : An KK := (.s .o (.s (.s .o (.b (.s .o (.c (.s .o .o) (.s .o (.c (.s .o (.s (.s .o (.c (.s .o .o) .o)) (.s .o .o))) (.s .o (.c (.s .o .o) (.s .o (.c (.s .o .o) (.s .o (.c (.s .o .o) (.j ⟨[(2, .kp 10), (3, .px 3 0), (62, .bl)], [(3, 38, [.kp 11, .kp 12, .kp 13, .kp 14, .kp 15, .kp 16, .kp 17, .kp 18])], []⟩ (.s .o (.c .o .o)) (fun _ => (.c (.s .o .o) .o))))))))))))))) (.s (.s .o (.b (.s .o (.c (.s .o .o) (.s .o (.c (.s .o .o) .o)))))) (.s .o .o))))
noncomputable def check_kindOf_cf : Cf KK := ⟨CC, [check_Find_sp, check_binary_sp, check_unary_sp], 80⟩

set_option maxRecDepth 100000 in
theorem check_kindOf_ok : SpOk Try.prog CC check_kindOf_sp := by
  intro env r hF h
  obtain ⟨a0, env0, rfl, h1⟩ := appW_v h
  obtain ⟨a1, env1, rfl, h2⟩ := appW_v h1
  obtain ⟨a2, env2, rfl, h3⟩ := appW_v h2
  obtain ⟨rfl, h4⟩ := appW_n h3
  obtain ⟨r0, rr0, rfl, h5⟩ := apR_v h4
  obtain ⟨r1, rr1, rfl, h6⟩ := apR_v h5
  obtain ⟨rfl, h7⟩ := apR_n h6
  refine ⟨rfl, DnF_by (F := check_kindOf_cf) CC_ok (SsOk_c check_Find_ok (SsOk_c check_binary_ok (SsOk_c check_unary_ok SsOk_n))) t30 (A := check_kindOf_an) (ps := [.v 38, .v 40, .v 96]) (rs := [3, 46]) (env := [.d (.v 38 a0), .d (.v 40 a1), .d (.v 96 a2)]) (r := [.v 3 r0, .v 46 r1]) (X := check_kindOf_o a0 a1 a2 r0 r1) rfl (Nat.le_of_ble_eq_true rfl) rfl hF h7 ?_⟩
  kernel_rfl

def check_Type_L2 (a0 : T_expr_Expr) (Xr : T_expr_Expr → (List T_check_Field) → Bool → Int → Int → Prop) (a1 : (List T_check_Field)) (a2 : Bool) (r0 : Int) (r1 : Int) (X2 : Int → (List Int) → Prop) (x2 : Int) (x3 : (List Int)) : Prop :=
  cnd (decide (x2 < (a0.L.length : Int))) ((0 ≤ x2) ∧ (x2 < (a0.L.length : Int)) ∧ ∃ y4 : T_expr_Expr, (a0.L[x2.toNat]? = some y4) ∧ ∃ z5 : Int, ∃ z6 : Int, (Xr (T_expr_Expr.mk y4.Kind y4.Op (⟨y4.V.Kind, y4.V.N, y4.V.S⟩ : T_value_Value) y4.Table y4.Name y4.L) a1 a2 z5 z6) ∧ cnd (!(z6 == (0 : Int))) ((0 : Int) = r0 ∧ z6 = r1) ((x3.length ≤ 1000000000) ∧ X2 (IntKind.i64.wrap (x2 + (1 : Int))) (x3 ++ ([z5] : List Int)))) (∃ z7 : Int, ∃ z8 : Int, (check_kindOf_o (T_expr_Expr.mk a0.Kind a0.Op (⟨a0.V.Kind, a0.V.N, a0.V.S⟩ : T_value_Value) a0.Table a0.Name a0.L) a1 x3 z7 z8) ∧ z7 = r0 ∧ z8 = r1)
def check_Type_J1 (r0 : Int) (r1 : Int) (a0 : T_expr_Expr) (Xr : T_expr_Expr → (List T_check_Field) → Bool → Int → Int → Prop) (a1 : (List T_check_Field)) (a2 : Bool) (x1 : Bool) : Prop :=
  cnd x1 ((0 : Int) = r0 ∧ (4 : Int) = r1) ((a0.L.length ≤ maxLen → ∀ X2 : Int → (List Int) → Prop, (∀ (x2 : Int) (x3 : (List Int)), check_Type_L2 a0 Xr a1 a2 r0 r1 X2 x2 x3 → X2 x2 x3) → X2 (0 : Int) ([] : List Int)))
def check_Type_B (Xr : T_expr_Expr → (List T_check_Field) → Bool → Int → Int → Prop) (a0 : T_expr_Expr) (a1 : (List T_check_Field)) (a2 : Bool) (r0 : Int) (r1 : Int) : Prop :=
  ∀ J1 : Bool → Prop, (∀ (x1 : Bool), check_Type_J1 r0 r1 a0 Xr a1 a2 x1 → J1 x1) → cnd (a0.Kind == (8 : Int)) (J1 (!a2)) (J1 false)
def check_Type_o (a0 : T_expr_Expr) (a1 : (List T_check_Field)) (a2 : Bool) (r0 : Int) (r1 : Int) : Prop := ∀ Xr : T_expr_Expr → (List T_check_Field) → Bool → Int → Int → Prop, (∀ (a0 : T_expr_Expr) (a1 : (List T_check_Field)) (a2 : Bool) (r0 : Int) (r1 : Int), check_Type_B Xr a0 a1 a2 r0 r1 → Xr a0 a1 a2 r0 r1) → Xr a0 a1 a2 r0 r1
def check_Type_L2i (Xr : T_expr_Expr → (List T_check_Field) → Bool → Int → Int → Prop) (a0 : T_expr_Expr) (a1 : (List T_check_Field)) (a2 : Bool) (r0 : Int) (r1 : Int) (X2 : Int → (List Int) → Prop) (x2 : Int) (x3 : (List Int)) : Prop :=
  cnd (decide (x2 < (a0.L.length : Int))) ((0 ≤ x2) ∧ (x2 < (a0.L.length : Int)) ∧ ∃ y4 : T_expr_Expr, (a0.L[x2.toNat]? = some y4) ∧ ∃ z5 : Int, ∃ z6 : Int, (Xr (T_expr_Expr.mk y4.Kind y4.Op (⟨y4.V.Kind, y4.V.N, y4.V.S⟩ : T_value_Value) y4.Table y4.Name y4.L) a1 a2 z5 z6) ∧ cnd (!(z6 == (0 : Int))) ((0 : Int) = r0 ∧ z6 = r1) ((x3.length ≤ 1000000000) ∧ X2 (IntKind.i64.wrap (x2 + (1 : Int))) (x3 ++ ([z5] : List Int)))) (∃ z7 : Int, ∃ z8 : Int, (check_kindOf_o (T_expr_Expr.mk a0.Kind a0.Op (⟨a0.V.Kind, a0.V.N, a0.V.S⟩ : T_value_Value) a0.Table a0.Name a0.L) a1 x3 z7 z8) ∧ z7 = r0 ∧ z8 = r1)
def check_Type_J1i (Xr : T_expr_Expr → (List T_check_Field) → Bool → Int → Int → Prop) (a0 : T_expr_Expr) (a1 : (List T_check_Field)) (a2 : Bool) (r0 : Int) (r1 : Int) (x1 : Bool) : Prop :=
  cnd x1 ((0 : Int) = r0 ∧ (4 : Int) = r1) ((a0.L.length ≤ maxLen → ∀ X2 : Int → (List Int) → Prop, (∀ (x2 : Int) (x3 : (List Int)), check_Type_L2i Xr a0 a1 a2 r0 r1 X2 x2 x3 → X2 x2 x3) → X2 (0 : Int) ([] : List Int)))
def check_Type_Bi (Xr : T_expr_Expr → (List T_check_Field) → Bool → Int → Int → Prop) (a0 : T_expr_Expr) (a1 : (List T_check_Field)) (a2 : Bool) (r0 : Int) (r1 : Int) : Prop :=
  cnd (a0.Kind == (8 : Int)) (check_Type_J1i Xr a0 a1 a2 r0 r1 (!a2)) (check_Type_J1i Xr a0 a1 a2 r0 r1 false)
theorem check_Type_L2_m (Xr : T_expr_Expr → (List T_check_Field) → Bool → Int → Int → Prop) (a0 : T_expr_Expr) (a1 : (List T_check_Field)) (a2 : Bool) (r0 : Int) (r1 : Int) {X2 : Int → (List Int) → Prop} {x2 : Int} {x3 : (List Int)} (h : check_Type_L2i Xr a0 a1 a2 r0 r1 X2 x2 x3) : check_Type_L2 a0 Xr a1 a2 r0 r1 X2 x2 x3 := by
  unfold check_Type_L2
  unfold check_Type_L2i at h
  exact h
theorem check_Type_J1_m (Xr : T_expr_Expr → (List T_check_Field) → Bool → Int → Int → Prop) (a0 : T_expr_Expr) (a1 : (List T_check_Field)) (a2 : Bool) (r0 : Int) (r1 : Int) {x1 : Bool} (h : check_Type_J1i Xr a0 a1 a2 r0 r1 x1) : check_Type_J1 r0 r1 a0 Xr a1 a2 x1 := by
  unfold check_Type_J1
  unfold check_Type_J1i at h
  refine cnd_mono h (fun h => ?_) (fun h => ?_)
  · exact h
  · intro c
    replace h := h c
    intro X2 k
    exact h X2 (fun x2 x3 q => k x2 x3 (check_Type_L2_m Xr a0 a1 a2 r0 r1 q))
theorem check_Type_Bm (Xr : T_expr_Expr → (List T_check_Field) → Bool → Int → Int → Prop) (a0 : T_expr_Expr) (a1 : (List T_check_Field)) (a2 : Bool) (r0 : Int) (r1 : Int) (h : check_Type_Bi Xr a0 a1 a2 r0 r1) : check_Type_B Xr a0 a1 a2 r0 r1 := by
  unfold check_Type_B
  unfold check_Type_Bi at h
  intro J1 kJ1
  have hJ1 : ∀ (x1 : Bool), check_Type_J1i Xr a0 a1 a2 r0 r1 x1 → J1 x1 := fun x1 q => kJ1 x1 (check_Type_J1_m Xr a0 a1 a2 r0 r1 q)
  refine cnd_mono h (fun h => ?_) (fun h => ?_)
  · exact hJ1 _ h
  · exact hJ1 _ h
theorem check_Type_i (a0 : T_expr_Expr) (a1 : (List T_check_Field)) (a2 : Bool) (r0 : Int) (r1 : Int) (h : ∀ Xr : T_expr_Expr → (List T_check_Field) → Bool → Int → Int → Prop, (∀ (a0 : T_expr_Expr) (a1 : (List T_check_Field)) (a2 : Bool) (r0 : Int) (r1 : Int), check_Type_Bi Xr a0 a1 a2 r0 r1 → Xr a0 a1 a2 r0 r1) → Xr a0 a1 a2 r0 r1) : check_Type_o a0 a1 a2 r0 r1 := fun Xr k => h Xr fun a0 a1 a2 r0 r1 q => k a0 a1 a2 r0 r1 (check_Type_Bm Xr a0 a1 a2 r0 r1 q)
noncomputable def check_Type_sp : Sp KK := ⟨13, [.v 38, .v 40, .v 4], [3, 46], appW (K := KK) [3, 46] [.v 38, .v 40, .v 4] check_Type_o⟩
noncomputable def check_Type_an : An KK := (.s .o (.s (.j ⟨[(1, .kp 11), (2, .kp 12), (3, .px 3 0), (19, .bl)], [(3, 38, [.kp 13, .kp 14, .kp 15, .kp 16, .kp 17, .kp 18, .kp 19, .kp 20])], []⟩ .o (fun _ => (.c (.s .o .o) .o))) (.s .o (.s (.s .o (.b (.l ⟨[(1, .kp 11), (2, .kp 12), (3, .px 3 0), (8, .row 40), (21, .kp 20), (22, .kp 25), (23, .it .i64)], [(3, 38, [.kp 13, .kp 14, .kp 15, .kp 16, .kp 17, .kp 18, .kp 19, .kp 20])], [(40, 3)]⟩ (fun _ => (.s .o (.s (.c .o .o) (.s (.b (.s .o (.s .o (.s (.s .o (.c (.s .o .o) .o)) .o)))) .o))))))) (.s .o .o)))))
noncomputable def check_Type_cf (Xr : WTy KK [3, 46] [.v 38, .v 40, .v 4]) : Cf KK := ⟨CC, [⟨13, [.v 38, .v 40, .v 4], [3, 46], appW (K := KK) [3, 46] [.v 38, .v 40, .v 4] Xr⟩, check_kindOf_sp], 48⟩

set_option maxRecDepth 100000 in
theorem check_Type_okB (Xr : T_expr_Expr → (List T_check_Field) → Bool → Int → Int → Prop) (hX : ∀ (a0 : T_expr_Expr) (a1 : (List T_check_Field)) (a2 : Bool) (r0 : Int) (r1 : Int), Xr a0 a1 a2 r0 r1 → Pure Try.prog 13 (pencs CC [.v 38, .v 40, .v 4] ([.d (.v 38 a0), .d (.v 40 a1), .d (.v 4 a2)] : List (AD KK))) (tresA (([.v 3 r0, .v 46 r1] : List (DV KK)).map (dvA CC)))) : ∀ (a0 : T_expr_Expr) (a1 : (List T_check_Field)) (a2 : Bool) (r0 : Int) (r1 : Int), check_Type_B Xr a0 a1 a2 r0 r1 → Pure Try.prog 13 (pencs CC [.v 38, .v 40, .v 4] ([.d (.v 38 a0), .d (.v 40 a1), .d (.v 4 a2)] : List (AD KK))) (tresA (([.v 3 r0, .v 46 r1] : List (DV KK)).map (dvA CC))) := by
  intro a0 a1 a2 r0 r1 h
  refine DnF_by (F := check_Type_cf Xr) CC_ok (SsOk_c ?_ (SsOk_c check_kindOf_ok SsOk_n)) t13 (A := check_Type_an) (ps := [.v 38, .v 40, .v 4]) (rs := [3, 46]) (env := [.d (.v 38 a0), .d (.v 40 a1), .d (.v 4 a2)]) (r := [.v 3 r0, .v 46 r1]) (X := check_Type_B Xr a0 a1 a2 r0 r1) rfl (Nat.le_of_ble_eq_true rfl) rfl (fun G hG => by simp at hG) h ?_
  · clear h r0 r1
    intro env r hF h
    obtain ⟨a0, env0, rfl, h1⟩ := appW_v h
    obtain ⟨a1, env1, rfl, h2⟩ := appW_v h1
    obtain ⟨a2, env2, rfl, h3⟩ := appW_v h2
    obtain ⟨rfl, h4⟩ := appW_n h3
    obtain ⟨r0, rr0, rfl, h5⟩ := apR_v h4
    obtain ⟨r1, rr1, rfl, h6⟩ := apR_v h5
    obtain ⟨rfl, h7⟩ := apR_n h6
    exact ⟨rfl, hX a0 a1 a2 r0 r1 h7⟩
  · kernel_rfl
set_option maxRecDepth 100000 in
theorem check_Type_ok : SpOk Try.prog CC check_Type_sp := by
  intro env r hF h
  obtain ⟨a0, env0, rfl, h1⟩ := appW_v h
  obtain ⟨a1, env1, rfl, h2⟩ := appW_v h1
  obtain ⟨a2, env2, rfl, h3⟩ := appW_v h2
  obtain ⟨rfl, h4⟩ := appW_n h3
  obtain ⟨r0, rr0, rfl, h5⟩ := apR_v h4
  obtain ⟨r1, rr1, rfl, h6⟩ := apR_v h5
  obtain ⟨rfl, h7⟩ := apR_n h6
  exact ⟨rfl, h7 (fun a0 a1 a2 r0 r1 =>  Pure Try.prog 13 (pencs CC [.v 38, .v 40, .v 4] ([.d (.v 38 a0), .d (.v 40 a1), .d (.v 4 a2)] : List (AD KK))) (tresA (([.v 3 r0, .v 46 r1] : List (DV KK)).map (dvA CC)))) (fun a0 a1 a2 r0 r1 h => check_Type_okB _ (fun a0 a1 a2 r0 r1 h => h) a0 a1 a2 r0 r1 h)⟩

def value_OfText_o (a0 : Str) (r0 : T_value_Value) : Prop :=
  (⟨(3 : Int), (0 : Int), a0⟩ : T_value_Value) = r0
noncomputable def value_OfText_sp : Sp KK := ⟨28, [.v 9], [35], appW (K := KK) [35] [.v 9] value_OfText_o⟩
noncomputable def value_OfText_an : An KK := (.s .o (.s .o .o))
noncomputable def value_OfText_cf : Cf KK := ⟨CC, [], 5⟩

set_option maxRecDepth 100000 in
theorem value_OfText_ok : SpOk Try.prog CC value_OfText_sp := by
  intro env r hF h
  obtain ⟨a0, env0, rfl, h1⟩ := appW_v h
  obtain ⟨rfl, h2⟩ := appW_n h1
  obtain ⟨r0, rr0, rfl, h3⟩ := apR_v h2
  obtain ⟨rfl, h4⟩ := apR_n h3
  refine ⟨rfl, DnF_by (F := value_OfText_cf) CC_ok SsOk_n t28 (A := value_OfText_an) (ps := [.v 9]) (rs := [35]) (env := [.d (.v 9 a0)]) (r := [.v 35 r0]) (X := value_OfText_o a0 r0) rfl (Nat.le_of_ble_eq_true rfl) rfl hF h4 ?_⟩
  kernel_rfl

def value_takes_J2 (r0 : Int) (x2 : Bool) : Prop :=
  cnd x2 ((1 : Int) = r0) ((0 : Int) = r0)
def value_takes_J1 (r0 : Int) (a0 : Int) (x1 : Bool) : Prop :=
  cnd x1 ((2 : Int) = r0) (cnd (a0 == (12 : Int)) ((3 : Int) = r0) (∀ J2 : Bool → Prop, (∀ (x2 : Bool), value_takes_J2 r0 x2 → J2 x2) → cnd (a0 == (13 : Int)) (J2 true) (J2 (a0 == (14 : Int)))))
def value_takes_o (a0 : Int) (r0 : Int) : Prop :=
  ∀ J1 : Bool → Prop, (∀ (x1 : Bool), value_takes_J1 r0 a0 x1 → J1 x1) → cnd (decide ((7 : Int) ≤ a0)) (J1 (decide (a0 ≤ (11 : Int)))) (J1 false)
def value_takes_J2i (r0 : Int) (x2 : Bool) : Prop :=
  cnd x2 ((1 : Int) = r0) ((0 : Int) = r0)
def value_takes_J1i (a0 : Int) (r0 : Int) (x1 : Bool) : Prop :=
  cnd x1 ((2 : Int) = r0) (cnd (a0 == (12 : Int)) ((3 : Int) = r0) (cnd (a0 == (13 : Int)) (value_takes_J2i r0 true) (value_takes_J2i r0 (a0 == (14 : Int)))))
def value_takes_oi (a0 : Int) (r0 : Int) : Prop :=
  cnd (decide ((7 : Int) ≤ a0)) (value_takes_J1i a0 r0 (decide (a0 ≤ (11 : Int)))) (value_takes_J1i a0 r0 false)
theorem value_takes_J2_m (r0 : Int) {x2 : Bool} (h : value_takes_J2i r0 x2) : value_takes_J2 r0 x2 := by
  unfold value_takes_J2
  unfold value_takes_J2i at h
  exact h
theorem value_takes_J1_m (a0 : Int) (r0 : Int) {x1 : Bool} (h : value_takes_J1i a0 r0 x1) : value_takes_J1 r0 a0 x1 := by
  unfold value_takes_J1
  unfold value_takes_J1i at h
  refine cnd_mono h (fun h => ?_) (fun h => ?_)
  · exact h
  · refine cnd_mono h (fun h => ?_) (fun h => ?_)
    · exact h
    · intro J2 kJ2
      have hJ2 : ∀ (x2 : Bool), value_takes_J2i r0 x2 → J2 x2 := fun x2 q => kJ2 x2 (value_takes_J2_m r0 q)
      refine cnd_mono h (fun h => ?_) (fun h => ?_)
      · exact hJ2 _ h
      · exact hJ2 _ h
theorem value_takes_i (a0 : Int) (r0 : Int) (h : value_takes_oi a0 r0) : value_takes_o a0 r0 := by
  unfold value_takes_o
  unfold value_takes_oi at h
  intro J1 kJ1
  have hJ1 : ∀ (x1 : Bool), value_takes_J1i a0 r0 x1 → J1 x1 := fun x1 q => kJ1 x1 (value_takes_J1_m a0 r0 q)
  refine cnd_mono h (fun h => ?_) (fun h => ?_)
  · exact hJ1 _ h
  · exact hJ1 _ h
noncomputable def value_takes_sp : Sp KK := ⟨90, [.v 3], [3], appW (K := KK) [3] [.v 3] value_takes_o⟩
noncomputable def value_takes_an : An KK := (.s .o (.s (.b (.j ⟨[(0, .kp 2), (3, .bl)], [], []⟩ .o (fun _ => (.c (.s .o .o) (.s .o (.c (.s .o .o) (.j ⟨[(13, .bl)], [], []⟩ .o (fun _ => (.c (.s .o .o) .o))))))))) (.s .o .o)))
noncomputable def value_takes_cf : Cf KK := ⟨CC, [], 20⟩

set_option maxRecDepth 100000 in
theorem value_takes_ok : SpOk Try.prog CC value_takes_sp := by
  intro env r hF h
  obtain ⟨a0, env0, rfl, h1⟩ := appW_v h
  obtain ⟨rfl, h2⟩ := appW_n h1
  obtain ⟨r0, rr0, rfl, h3⟩ := apR_v h2
  obtain ⟨rfl, h4⟩ := apR_n h3
  refine ⟨rfl, DnF_by (F := value_takes_cf) CC_ok SsOk_n t90 (A := value_takes_an) (ps := [.v 3]) (rs := [3]) (env := [.d (.v 3 a0)]) (r := [.v 3 r0]) (X := value_takes_o a0 r0) rfl (Nat.le_of_ble_eq_true rfl) rfl hF h4 ?_⟩
  kernel_rfl

def value_Value_none_o (a0 : T_value_Value) (r0 : Bool) : Prop :=
  (a0.Kind == (0 : Int)) = r0
noncomputable def value_Value_none_sp : Sp KK := ⟨61, [.v 35], [4], appW (K := KK) [4] [.v 35] value_Value_none_o⟩
noncomputable def value_Value_none_an : An KK := (.s .o (.s .o .o))
noncomputable def value_Value_none_cf : Cf KK := ⟨CC, [], 6⟩

set_option maxRecDepth 100000 in
theorem value_Value_none_ok : SpOk Try.prog CC value_Value_none_sp := by
  intro env r hF h
  obtain ⟨a0, env0, rfl, h1⟩ := appW_v h
  obtain ⟨rfl, h2⟩ := appW_n h1
  obtain ⟨r0, rr0, rfl, h3⟩ := apR_v h2
  obtain ⟨rfl, h4⟩ := apR_n h3
  refine ⟨rfl, DnF_by (F := value_Value_none_cf) CC_ok SsOk_n t61 (A := value_Value_none_an) (ps := [.v 35]) (rs := [4]) (env := [.d (.v 35 a0)]) (r := [.v 4 r0]) (X := value_Value_none_o a0 r0) rfl (Nat.le_of_ble_eq_true rfl) rfl hF h4 ?_⟩
  kernel_rfl

def value_fit_J1 (r0 : Bool) (x4 : Bool) : Prop :=
  x4 = r0
def value_fit_o (a0 : Int) (a1 : T_value_Value) (a2 : T_value_Value) (r0 : Bool) : Prop :=
  ∃ z1 : Int, (value_takes_o a0 z1) ∧ cnd (z1 == (0 : Int)) (∃ z2 : Bool, (value_Value_none_o a1 z2) ∧ cnd z2 (true = r0) (∃ z3 : Bool, (value_Value_none_o a2 z3) ∧ cnd z3 (true = r0) ((a1.Kind == a2.Kind) = r0))) (∀ J1 : Bool → Prop, (∀ (x4 : Bool), value_fit_J1 r0 x4 → J1 x4) → ∃ z5 : Bool, (value_Value_none_o a1 z5) ∧ cnd z5 (∃ z6 : Bool, (value_Value_none_o a2 z6) ∧ cnd z6 (J1 true) (J1 (a2.Kind == z1))) (cnd (a1.Kind == z1) (∃ z7 : Bool, (value_Value_none_o a2 z7) ∧ cnd z7 (J1 true) (J1 (a2.Kind == z1))) (J1 false)))
def value_fit_J1i (r0 : Bool) (x4 : Bool) : Prop :=
  x4 = r0
def value_fit_oi (a0 : Int) (a1 : T_value_Value) (a2 : T_value_Value) (r0 : Bool) : Prop :=
  ∃ z1 : Int, (value_takes_o a0 z1) ∧ cnd (z1 == (0 : Int)) (∃ z2 : Bool, (value_Value_none_o a1 z2) ∧ cnd z2 (true = r0) (∃ z3 : Bool, (value_Value_none_o a2 z3) ∧ cnd z3 (true = r0) ((a1.Kind == a2.Kind) = r0))) (∃ z5 : Bool, (value_Value_none_o a1 z5) ∧ cnd z5 (∃ z6 : Bool, (value_Value_none_o a2 z6) ∧ cnd z6 (value_fit_J1i r0 true) (value_fit_J1i r0 (a2.Kind == z1))) (cnd (a1.Kind == z1) (∃ z7 : Bool, (value_Value_none_o a2 z7) ∧ cnd z7 (value_fit_J1i r0 true) (value_fit_J1i r0 (a2.Kind == z1))) (value_fit_J1i r0 false)))
theorem value_fit_J1_m (r0 : Bool) {x4 : Bool} (h : value_fit_J1i r0 x4) : value_fit_J1 r0 x4 := by
  unfold value_fit_J1
  unfold value_fit_J1i at h
  exact h
theorem value_fit_i (a0 : Int) (a1 : T_value_Value) (a2 : T_value_Value) (r0 : Bool) (h : value_fit_oi a0 a1 a2 r0) : value_fit_o a0 a1 a2 r0 := by
  unfold value_fit_o
  unfold value_fit_oi at h
  obtain ⟨z1, h⟩ := h
  refine ⟨z1, ?_⟩
  obtain ⟨h0, h⟩ := h
  refine ⟨h0, ?_⟩
  refine cnd_mono h (fun h => ?_) (fun h => ?_)
  · exact h
  · intro J1 kJ1
    have hJ1 : ∀ (x4 : Bool), value_fit_J1i r0 x4 → J1 x4 := fun x4 q => kJ1 x4 (value_fit_J1_m r0 q)
    obtain ⟨z5, h⟩ := h
    refine ⟨z5, ?_⟩
    obtain ⟨h0, h⟩ := h
    refine ⟨h0, ?_⟩
    refine cnd_mono h (fun h => ?_) (fun h => ?_)
    · obtain ⟨z6, h⟩ := h
      refine ⟨z6, ?_⟩
      obtain ⟨h0, h⟩ := h
      refine ⟨h0, ?_⟩
      refine cnd_mono h (fun h => ?_) (fun h => ?_)
      · exact hJ1 _ h
      · exact hJ1 _ h
    · refine cnd_mono h (fun h => ?_) (fun h => ?_)
      · obtain ⟨z7, h⟩ := h
        refine ⟨z7, ?_⟩
        obtain ⟨h0, h⟩ := h
        refine ⟨h0, ?_⟩
        refine cnd_mono h (fun h => ?_) (fun h => ?_)
        · exact hJ1 _ h
        · exact hJ1 _ h
      · exact hJ1 _ h
noncomputable def value_fit_sp : Sp KK := ⟨59, [.v 3, .v 35, .v 35], [4], appW (K := KK) [4] [.v 3, .v 35, .v 35] value_fit_o⟩
noncomputable def value_fit_an : An KK := (.s .o (.s .o (.s (.s .o (.c (.s .o .o) .o)) (.j ⟨[(6, .bl)], [], []⟩ .o (fun _ => .o)))))
noncomputable def value_fit_cf : Cf KK := ⟨CC, [value_takes_sp, value_Value_none_sp], 43⟩

set_option maxRecDepth 100000 in
theorem value_fit_ok : SpOk Try.prog CC value_fit_sp := by
  intro env r hF h
  obtain ⟨a0, env0, rfl, h1⟩ := appW_v h
  obtain ⟨a1, env1, rfl, h2⟩ := appW_v h1
  obtain ⟨a2, env2, rfl, h3⟩ := appW_v h2
  obtain ⟨rfl, h4⟩ := appW_n h3
  obtain ⟨r0, rr0, rfl, h5⟩ := apR_v h4
  obtain ⟨rfl, h6⟩ := apR_n h5
  refine ⟨rfl, DnF_by (F := value_fit_cf) CC_ok (SsOk_c value_takes_ok (SsOk_c value_Value_none_ok SsOk_n)) t59 (A := value_fit_an) (ps := [.v 3, .v 35, .v 35]) (rs := [4]) (env := [.d (.v 3 a0), .d (.v 35 a1), .d (.v 35 a2)]) (r := [.v 4 r0]) (X := value_fit_o a0 a1 a2 r0) rfl (Nat.le_of_ble_eq_true rfl) rfl hF h6 ?_⟩
  kernel_rfl

def value_OfBool_o (a0 : Bool) (r0 : T_value_Value) : Prop :=
  cnd a0 ((⟨(1 : Int), (1 : Int), ([] : Str)⟩ : T_value_Value) = r0) ((⟨(1 : Int), (0 : Int), ([] : Str)⟩ : T_value_Value) = r0)
noncomputable def value_OfBool_sp : Sp KK := ⟨35, [.v 4], [35], appW (K := KK) [35] [.v 4] value_OfBool_o⟩
noncomputable def value_OfBool_an : An KK := (.s .o (.s (.s .o (.c (.s .o .o) .o)) (.s .o .o)))
noncomputable def value_OfBool_cf : Cf KK := ⟨CC, [], 6⟩

set_option maxRecDepth 100000 in
theorem value_OfBool_ok : SpOk Try.prog CC value_OfBool_sp := by
  intro env r hF h
  obtain ⟨a0, env0, rfl, h1⟩ := appW_v h
  obtain ⟨rfl, h2⟩ := appW_n h1
  obtain ⟨r0, rr0, rfl, h3⟩ := apR_v h2
  obtain ⟨rfl, h4⟩ := apR_n h3
  refine ⟨rfl, DnF_by (F := value_OfBool_cf) CC_ok SsOk_n t35 (A := value_OfBool_an) (ps := [.v 4]) (rs := [35]) (env := [.d (.v 4 a0)]) (r := [.v 35 r0]) (X := value_OfBool_o a0 r0) rfl (Nat.le_of_ble_eq_true rfl) rfl hF h4 ?_⟩
  kernel_rfl

def value_logic_J2 (r0 : T_value_Value) (a0 : Bool) (x3 : Bool) : Prop :=
  cnd x3 ((⟨(0 : Int), (0 : Int), ([] : Str)⟩ : T_value_Value) = r0) (∃ z4 : T_value_Value, (value_OfBool_o (!a0) z4) ∧ z4 = r0)
def value_logic_J1 (z1 : T_value_Value) (r0 : T_value_Value) (a0 : Bool) (a1 : T_value_Value) (a2 : T_value_Value) (x2 : Bool) : Prop :=
  cnd x2 (z1 = r0) (∀ J2 : Bool → Prop, (∀ (x3 : Bool), value_logic_J2 r0 a0 x3 → J2 x3) → ∃ z5 : Bool, (value_Value_none_o a1 z5) ∧ cnd z5 (J2 true) (∃ z6 : Bool, (value_Value_none_o a2 z6) ∧ J2 z6))
def value_logic_o (a0 : Bool) (a1 : T_value_Value) (a2 : T_value_Value) (r0 : T_value_Value) : Prop :=
  ∃ z1 : T_value_Value, (value_OfBool_o a0 z1) ∧ ∀ J1 : Bool → Prop, (∀ (x2 : Bool), value_logic_J1 z1 r0 a0 a1 a2 x2 → J1 x2) → cnd ((a1.Kind == z1.Kind) && ((a1.N == z1.N) && ((a1.S == z1.S) && true))) (J1 true) (J1 ((a2.Kind == z1.Kind) && ((a2.N == z1.N) && ((a2.S == z1.S) && true))))
def value_logic_J2i (a0 : Bool) (r0 : T_value_Value) (x3 : Bool) : Prop :=
  cnd x3 ((⟨(0 : Int), (0 : Int), ([] : Str)⟩ : T_value_Value) = r0) (∃ z4 : T_value_Value, (value_OfBool_o (!a0) z4) ∧ z4 = r0)
def value_logic_J1i (a0 : Bool) (a1 : T_value_Value) (a2 : T_value_Value) (r0 : T_value_Value) (z1 : T_value_Value) (x2 : Bool) : Prop :=
  cnd x2 (z1 = r0) (∃ z5 : Bool, (value_Value_none_o a1 z5) ∧ cnd z5 (value_logic_J2i a0 r0 true) (∃ z6 : Bool, (value_Value_none_o a2 z6) ∧ value_logic_J2i a0 r0 z6))
def value_logic_oi (a0 : Bool) (a1 : T_value_Value) (a2 : T_value_Value) (r0 : T_value_Value) : Prop :=
  ∃ z1 : T_value_Value, (value_OfBool_o a0 z1) ∧ cnd ((a1.Kind == z1.Kind) && ((a1.N == z1.N) && ((a1.S == z1.S) && true))) (value_logic_J1i a0 a1 a2 r0 z1 true) (value_logic_J1i a0 a1 a2 r0 z1 ((a2.Kind == z1.Kind) && ((a2.N == z1.N) && ((a2.S == z1.S) && true))))
theorem value_logic_J2_m (a0 : Bool) (r0 : T_value_Value) {x3 : Bool} (h : value_logic_J2i a0 r0 x3) : value_logic_J2 r0 a0 x3 := by
  unfold value_logic_J2
  unfold value_logic_J2i at h
  exact h
theorem value_logic_J1_m (a0 : Bool) (a1 : T_value_Value) (a2 : T_value_Value) (r0 : T_value_Value) (z1 : T_value_Value) {x2 : Bool} (h : value_logic_J1i a0 a1 a2 r0 z1 x2) : value_logic_J1 z1 r0 a0 a1 a2 x2 := by
  unfold value_logic_J1
  unfold value_logic_J1i at h
  refine cnd_mono h (fun h => ?_) (fun h => ?_)
  · exact h
  · intro J2 kJ2
    have hJ2 : ∀ (x3 : Bool), value_logic_J2i a0 r0 x3 → J2 x3 := fun x3 q => kJ2 x3 (value_logic_J2_m a0 r0 q)
    obtain ⟨z5, h⟩ := h
    refine ⟨z5, ?_⟩
    obtain ⟨h0, h⟩ := h
    refine ⟨h0, ?_⟩
    refine cnd_mono h (fun h => ?_) (fun h => ?_)
    · exact hJ2 _ h
    · obtain ⟨z6, h⟩ := h
      refine ⟨z6, ?_⟩
      obtain ⟨h0, h⟩ := h
      refine ⟨h0, ?_⟩
      exact hJ2 _ h
theorem value_logic_i (a0 : Bool) (a1 : T_value_Value) (a2 : T_value_Value) (r0 : T_value_Value) (h : value_logic_oi a0 a1 a2 r0) : value_logic_o a0 a1 a2 r0 := by
  unfold value_logic_o
  unfold value_logic_oi at h
  obtain ⟨z1, h⟩ := h
  refine ⟨z1, ?_⟩
  obtain ⟨h0, h⟩ := h
  refine ⟨h0, ?_⟩
  intro J1 kJ1
  have hJ1 : ∀ (x2 : Bool), value_logic_J1i a0 a1 a2 r0 z1 x2 → J1 x2 := fun x2 q => kJ1 x2 (value_logic_J1_m a0 a1 a2 r0 z1 q)
  refine cnd_mono h (fun h => ?_) (fun h => ?_)
  · exact hJ1 _ h
  · exact hJ1 _ h
noncomputable def value_logic_sp : Sp KK := ⟨60, [.v 4, .v 35, .v 35], [35], appW (K := KK) [35] [.v 4, .v 35, .v 35] value_logic_o⟩
noncomputable def value_logic_an : An KK := (.s .o (.s (.s .o (.b (.j ⟨[(0, .kp 14), (4, .px 4 0), (5, .px 5 0), (6, .px 6 0), (7, .px 7 0), (10, .bl)], [(4, 35, [.kp 15, .kp 16, .kp 17]), (5, 35, [.kp 18, .kp 19, .kp 20]), (6, 35, [.kp 21, .kp 22, .kp 23]), (7, 35, [.kp 24, .kp 25, .kp 26])], []⟩ .o (fun _ => (.c (.s .o .o) (.j ⟨[(0, .kp 14), (6, .px 6 0), (20, .bl)], [(6, 35, [.kp 21, .kp 22, .kp 23])], []⟩ .o (fun _ => (.c (.s .o .o) .o)))))))) (.s .o .o)))
noncomputable def value_logic_cf : Cf KK := ⟨CC, [value_OfBool_sp, value_Value_none_sp], 31⟩

set_option maxRecDepth 100000 in
theorem value_logic_ok : SpOk Try.prog CC value_logic_sp := by
  intro env r hF h
  obtain ⟨a0, env0, rfl, h1⟩ := appW_v h
  obtain ⟨a1, env1, rfl, h2⟩ := appW_v h1
  obtain ⟨a2, env2, rfl, h3⟩ := appW_v h2
  obtain ⟨rfl, h4⟩ := appW_n h3
  obtain ⟨r0, rr0, rfl, h5⟩ := apR_v h4
  obtain ⟨rfl, h6⟩ := apR_n h5
  refine ⟨rfl, DnF_by (F := value_logic_cf) CC_ok (SsOk_c value_OfBool_ok (SsOk_c value_Value_none_ok SsOk_n)) t60 (A := value_logic_an) (ps := [.v 4, .v 35, .v 35]) (rs := [35]) (env := [.d (.v 4 a0), .d (.v 35 a1), .d (.v 35 a2)]) (r := [.v 35 r0]) (X := value_logic_o a0 a1 a2 r0) rfl (Nat.le_of_ble_eq_true rfl) rfl hF h6 ?_⟩
  kernel_rfl

def cmp_isNaN_int_o (a0 : Int) (r0 : Bool) : Prop :=
  (!(a0 == a0)) = r0
noncomputable def cmp_isNaN_int_sp : Sp KK := ⟨105, [.v 3], [4], appW (K := KK) [4] [.v 3] cmp_isNaN_int_o⟩
noncomputable def cmp_isNaN_int_an : An KK := (.s .o (.s .o .o))
noncomputable def cmp_isNaN_int_cf : Cf KK := ⟨CC, [], 6⟩

set_option maxRecDepth 100000 in
theorem cmp_isNaN_int_ok : SpOk Try.prog CC cmp_isNaN_int_sp := by
  intro env r hF h
  obtain ⟨a0, env0, rfl, h1⟩ := appW_v h
  obtain ⟨rfl, h2⟩ := appW_n h1
  obtain ⟨r0, rr0, rfl, h3⟩ := apR_v h2
  obtain ⟨rfl, h4⟩ := apR_n h3
  refine ⟨rfl, DnF_by (F := cmp_isNaN_int_cf) CC_ok SsOk_n t105 (A := cmp_isNaN_int_an) (ps := [.v 3]) (rs := [4]) (env := [.d (.v 3 a0)]) (r := [.v 4 r0]) (X := cmp_isNaN_int_o a0 r0) rfl (Nat.le_of_ble_eq_true rfl) rfl hF h4 ?_⟩
  kernel_rfl

def cmp_Compare_int_o (a0 : Int) (a1 : Int) (r0 : Int) : Prop :=
  ∃ z1 : Bool, (cmp_isNaN_int_o a0 z1) ∧ ∃ z2 : Bool, (cmp_isNaN_int_o a1 z2) ∧ cnd z1 (cnd z2 ((0 : Int) = r0) ((-1 : Int) = r0)) (cnd z2 ((1 : Int) = r0) (cnd (decide (a0 < a1)) ((-1 : Int) = r0) (cnd (decide (a1 < a0)) ((1 : Int) = r0) ((0 : Int) = r0))))
noncomputable def cmp_Compare_int_sp : Sp KK := ⟨92, [.v 3, .v 3], [3], appW (K := KK) [3] [.v 3, .v 3] cmp_Compare_int_o⟩
noncomputable def cmp_Compare_int_an : An KK := (.s .o (.s .o (.s .o (.s (.s .o (.c (.s (.s .o (.c (.s .o .o) .o)) (.s .o .o)) .o)) (.s (.s .o (.c (.s .o .o) .o)) (.s (.s .o (.c (.s .o .o) .o)) (.s (.s .o (.c (.s .o .o) .o)) (.s .o .o))))))))
noncomputable def cmp_Compare_int_cf : Cf KK := ⟨CC, [cmp_isNaN_int_sp], 20⟩

set_option maxRecDepth 100000 in
theorem cmp_Compare_int_ok : SpOk Try.prog CC cmp_Compare_int_sp := by
  intro env r hF h
  obtain ⟨a0, env0, rfl, h1⟩ := appW_v h
  obtain ⟨a1, env1, rfl, h2⟩ := appW_v h1
  obtain ⟨rfl, h3⟩ := appW_n h2
  obtain ⟨r0, rr0, rfl, h4⟩ := apR_v h3
  obtain ⟨rfl, h5⟩ := apR_n h4
  refine ⟨rfl, DnF_by (F := cmp_Compare_int_cf) CC_ok (SsOk_c cmp_isNaN_int_ok SsOk_n) t92 (A := cmp_Compare_int_an) (ps := [.v 3, .v 3]) (rs := [3]) (env := [.d (.v 3 a0), .d (.v 3 a1)]) (r := [.v 3 r0]) (X := cmp_Compare_int_o a0 a1 r0) rfl (Nat.le_of_ble_eq_true rfl) rfl hF h5 ?_⟩
  kernel_rfl

def cmp_isNaN_int64_o (a0 : Int) (r0 : Bool) : Prop :=
  (!(a0 == a0)) = r0
noncomputable def cmp_isNaN_int64_sp : Sp KK := ⟨106, [.v 2], [4], appW (K := KK) [4] [.v 2] cmp_isNaN_int64_o⟩
noncomputable def cmp_isNaN_int64_an : An KK := (.s .o (.s .o .o))
noncomputable def cmp_isNaN_int64_cf : Cf KK := ⟨CC, [], 6⟩

set_option maxRecDepth 100000 in
theorem cmp_isNaN_int64_ok : SpOk Try.prog CC cmp_isNaN_int64_sp := by
  intro env r hF h
  obtain ⟨a0, env0, rfl, h1⟩ := appW_v h
  obtain ⟨rfl, h2⟩ := appW_n h1
  obtain ⟨r0, rr0, rfl, h3⟩ := apR_v h2
  obtain ⟨rfl, h4⟩ := apR_n h3
  refine ⟨rfl, DnF_by (F := cmp_isNaN_int64_cf) CC_ok SsOk_n t106 (A := cmp_isNaN_int64_an) (ps := [.v 2]) (rs := [4]) (env := [.d (.v 2 a0)]) (r := [.v 4 r0]) (X := cmp_isNaN_int64_o a0 r0) rfl (Nat.le_of_ble_eq_true rfl) rfl hF h4 ?_⟩
  kernel_rfl

def cmp_Compare_int64_o (a0 : Int) (a1 : Int) (r0 : Int) : Prop :=
  ∃ z1 : Bool, (cmp_isNaN_int64_o a0 z1) ∧ ∃ z2 : Bool, (cmp_isNaN_int64_o a1 z2) ∧ cnd z1 (cnd z2 ((0 : Int) = r0) ((-1 : Int) = r0)) (cnd z2 ((1 : Int) = r0) (cnd (decide (a0 < a1)) ((-1 : Int) = r0) (cnd (decide (a1 < a0)) ((1 : Int) = r0) ((0 : Int) = r0))))
noncomputable def cmp_Compare_int64_sp : Sp KK := ⟨93, [.v 2, .v 2], [3], appW (K := KK) [3] [.v 2, .v 2] cmp_Compare_int64_o⟩
noncomputable def cmp_Compare_int64_an : An KK := (.s .o (.s .o (.s .o (.s (.s .o (.c (.s (.s .o (.c (.s .o .o) .o)) (.s .o .o)) .o)) (.s (.s .o (.c (.s .o .o) .o)) (.s (.s .o (.c (.s .o .o) .o)) (.s (.s .o (.c (.s .o .o) .o)) (.s .o .o))))))))
noncomputable def cmp_Compare_int64_cf : Cf KK := ⟨CC, [cmp_isNaN_int64_sp], 20⟩

set_option maxRecDepth 100000 in
theorem cmp_Compare_int64_ok : SpOk Try.prog CC cmp_Compare_int64_sp := by
  intro env r hF h
  obtain ⟨a0, env0, rfl, h1⟩ := appW_v h
  obtain ⟨a1, env1, rfl, h2⟩ := appW_v h1
  obtain ⟨rfl, h3⟩ := appW_n h2
  obtain ⟨r0, rr0, rfl, h4⟩ := apR_v h3
  obtain ⟨rfl, h5⟩ := apR_n h4
  refine ⟨rfl, DnF_by (F := cmp_Compare_int64_cf) CC_ok (SsOk_c cmp_isNaN_int64_ok SsOk_n) t93 (A := cmp_Compare_int64_an) (ps := [.v 2, .v 2]) (rs := [3]) (env := [.d (.v 2 a0), .d (.v 2 a1)]) (r := [.v 3 r0]) (X := cmp_Compare_int64_o a0 a1 r0) rfl (Nat.le_of_ble_eq_true rfl) rfl hF h5 ?_⟩
  kernel_rfl

def cmp_isNaN_string_o (a0 : Str) (r0 : Bool) : Prop :=
  (!(a0 == a0)) = r0
noncomputable def cmp_isNaN_string_sp : Sp KK := ⟨107, [.v 9], [4], appW (K := KK) [4] [.v 9] cmp_isNaN_string_o⟩
noncomputable def cmp_isNaN_string_an : An KK := (.s .o (.s .o .o))
noncomputable def cmp_isNaN_string_cf : Cf KK := ⟨CC, [], 6⟩

set_option maxRecDepth 100000 in
theorem cmp_isNaN_string_ok : SpOk Try.prog CC cmp_isNaN_string_sp := by
  intro env r hF h
  obtain ⟨a0, env0, rfl, h1⟩ := appW_v h
  obtain ⟨rfl, h2⟩ := appW_n h1
  obtain ⟨r0, rr0, rfl, h3⟩ := apR_v h2
  obtain ⟨rfl, h4⟩ := apR_n h3
  refine ⟨rfl, DnF_by (F := cmp_isNaN_string_cf) CC_ok SsOk_n t107 (A := cmp_isNaN_string_an) (ps := [.v 9]) (rs := [4]) (env := [.d (.v 9 a0)]) (r := [.v 4 r0]) (X := cmp_isNaN_string_o a0 r0) rfl (Nat.le_of_ble_eq_true rfl) rfl hF h4 ?_⟩
  kernel_rfl

def cmp_Compare_string_o (a0 : Str) (a1 : Str) (r0 : Int) : Prop :=
  ∃ z1 : Bool, (cmp_isNaN_string_o a0 z1) ∧ ∃ z2 : Bool, (cmp_isNaN_string_o a1 z2) ∧ cnd z1 (cnd z2 ((0 : Int) = r0) ((-1 : Int) = r0)) (cnd z2 ((1 : Int) = r0) (cnd (Op.bytesLess a0 a1) ((-1 : Int) = r0) (cnd (!(Op.bytesLess a0 a1 || a0 == a1)) ((1 : Int) = r0) ((0 : Int) = r0))))
noncomputable def cmp_Compare_string_sp : Sp KK := ⟨94, [.v 9, .v 9], [3], appW (K := KK) [3] [.v 9, .v 9] cmp_Compare_string_o⟩
noncomputable def cmp_Compare_string_an : An KK := (.s .o (.s .o (.s .o (.s (.s .o (.c (.s (.s .o (.c (.s .o .o) .o)) (.s .o .o)) .o)) (.s (.s .o (.c (.s .o .o) .o)) (.s (.s .o (.c (.s .o .o) .o)) (.s (.s .o (.c (.s .o .o) .o)) (.s .o .o))))))))
noncomputable def cmp_Compare_string_cf : Cf KK := ⟨CC, [cmp_isNaN_string_sp], 20⟩

set_option maxRecDepth 100000 in
theorem cmp_Compare_string_ok : SpOk Try.prog CC cmp_Compare_string_sp := by
  intro env r hF h
  obtain ⟨a0, env0, rfl, h1⟩ := appW_v h
  obtain ⟨a1, env1, rfl, h2⟩ := appW_v h1
  obtain ⟨rfl, h3⟩ := appW_n h2
  obtain ⟨r0, rr0, rfl, h4⟩ := apR_v h3
  obtain ⟨rfl, h5⟩ := apR_n h4
  refine ⟨rfl, DnF_by (F := cmp_Compare_string_cf) CC_ok (SsOk_c cmp_isNaN_string_ok SsOk_n) t94 (A := cmp_Compare_string_an) (ps := [.v 9, .v 9]) (rs := [3]) (env := [.d (.v 9 a0), .d (.v 9 a1)]) (r := [.v 3 r0]) (X := cmp_Compare_string_o a0 a1 r0) rfl (Nat.le_of_ble_eq_true rfl) rfl hF h5 ?_⟩
  kernel_rfl

def cmp_Or_int_L1 (a0 : (List Int)) (r0 : Int) (X1 : Int → Prop) (x1 : Int) : Prop :=
  cnd (decide (x1 < (a0.length : Int))) ((0 ≤ x1) ∧ (x1 < (a0.length : Int)) ∧ ∃ y2 : Int, (a0[x1.toNat]? = some y2) ∧ cnd (!(y2 == (0 : Int))) (y2 = r0) (X1 (IntKind.i64.wrap (x1 + (1 : Int))))) ((0 : Int) = r0)
def cmp_Or_int_o (a0 : (List Int)) (r0 : Int) : Prop :=
  (a0.length ≤ maxLen → ∀ X1 : Int → Prop, (∀ (x1 : Int), cmp_Or_int_L1 a0 r0 X1 x1 → X1 x1) → X1 (0 : Int))
def cmp_Or_int_L1i (a0 : (List Int)) (r0 : Int) (X1 : Int → Prop) (x1 : Int) : Prop :=
  cnd (decide (x1 < (a0.length : Int))) ((0 ≤ x1) ∧ (x1 < (a0.length : Int)) ∧ ∃ y2 : Int, (a0[x1.toNat]? = some y2) ∧ cnd (!(y2 == (0 : Int))) (y2 = r0) (X1 (IntKind.i64.wrap (x1 + (1 : Int))))) ((0 : Int) = r0)
def cmp_Or_int_oi (a0 : (List Int)) (r0 : Int) : Prop :=
  (a0.length ≤ maxLen → ∀ X1 : Int → Prop, (∀ (x1 : Int), cmp_Or_int_L1i a0 r0 X1 x1 → X1 x1) → X1 (0 : Int))
theorem cmp_Or_int_L1_m (a0 : (List Int)) (r0 : Int) {X1 : Int → Prop} {x1 : Int} (h : cmp_Or_int_L1i a0 r0 X1 x1) : cmp_Or_int_L1 a0 r0 X1 x1 := by
  unfold cmp_Or_int_L1
  unfold cmp_Or_int_L1i at h
  exact h
theorem cmp_Or_int_i (a0 : (List Int)) (r0 : Int) (h : cmp_Or_int_oi a0 r0) : cmp_Or_int_o a0 r0 := by
  unfold cmp_Or_int_o
  unfold cmp_Or_int_oi at h
  intro c
  replace h := h c
  intro X1 k
  exact h X1 (fun x1 q => k x1 (cmp_Or_int_L1_m a0 r0 q))
noncomputable def cmp_Or_int_sp : Sp KK := ⟨91, [.v 96], [3], appW (K := KK) [3] [.v 96] cmp_Or_int_o⟩
noncomputable def cmp_Or_int_an : An KK := (.s .o (.s .o (.s (.s .o (.b (.l ⟨[(3, .kp 5), (6, .kp 6), (7, .kp 7), (8, .it .i64)], [], []⟩ (fun _ => (.s .o (.s (.c .o .o) (.s (.b (.s .o (.s .o (.c (.s .o .o) .o)))) .o))))))) (.s .o .o))))
noncomputable def cmp_Or_int_cf : Cf KK := ⟨CC, [], 18⟩

set_option maxRecDepth 100000 in
theorem cmp_Or_int_ok : SpOk Try.prog CC cmp_Or_int_sp := by
  intro env r hF h
  obtain ⟨a0, env0, rfl, h1⟩ := appW_v h
  obtain ⟨rfl, h2⟩ := appW_n h1
  obtain ⟨r0, rr0, rfl, h3⟩ := apR_v h2
  obtain ⟨rfl, h4⟩ := apR_n h3
  refine ⟨rfl, DnF_by (F := cmp_Or_int_cf) CC_ok SsOk_n t91 (A := cmp_Or_int_an) (ps := [.v 96]) (rs := [3]) (env := [.d (.v 96 a0)]) (r := [.v 3 r0]) (X := cmp_Or_int_o a0 r0) rfl (Nat.le_of_ble_eq_true rfl) rfl hF h4 ?_⟩
  kernel_rfl

def value_Compare_o (a0 : T_value_Value) (a1 : T_value_Value) (r0 : Int) : Prop :=
  ∃ z1 : Int, (cmp_Compare_int_o a0.Kind a1.Kind z1) ∧ ∃ z2 : Int, (cmp_Compare_int64_o a0.N a1.N z2) ∧ ∃ z3 : Int, (cmp_Compare_string_o a0.S a1.S z3) ∧ ∃ z4 : Int, (cmp_Or_int_o ([z1, z2, z3] : List Int) z4) ∧ z4 = r0
noncomputable def value_Compare_sp : Sp KK := ⟨63, [.v 35, .v 35], [3], appW (K := KK) [3] [.v 35, .v 35] value_Compare_o⟩
noncomputable def value_Compare_an : An KK := (.s .o (.s .o .o))
noncomputable def value_Compare_cf : Cf KK := ⟨CC, [cmp_Compare_int_sp, cmp_Compare_int64_sp, cmp_Compare_string_sp, cmp_Or_int_sp], 22⟩

set_option maxRecDepth 100000 in
theorem value_Compare_ok : SpOk Try.prog CC value_Compare_sp := by
  intro env r hF h
  obtain ⟨a0, env0, rfl, h1⟩ := appW_v h
  obtain ⟨a1, env1, rfl, h2⟩ := appW_v h1
  obtain ⟨rfl, h3⟩ := appW_n h2
  obtain ⟨r0, rr0, rfl, h4⟩ := apR_v h3
  obtain ⟨rfl, h5⟩ := apR_n h4
  refine ⟨rfl, DnF_by (F := value_Compare_cf) CC_ok (SsOk_c cmp_Compare_int_ok (SsOk_c cmp_Compare_int64_ok (SsOk_c cmp_Compare_string_ok (SsOk_c cmp_Or_int_ok SsOk_n)))) t63 (A := value_Compare_an) (ps := [.v 35, .v 35]) (rs := [3]) (env := [.d (.v 35 a0), .d (.v 35 a1)]) (r := [.v 3 r0]) (X := value_Compare_o a0 a1 r0) rfl (Nat.le_of_ble_eq_true rfl) rfl hF h5 ?_⟩
  kernel_rfl

def value_holds_o (a0 : Int) (a1 : Int) (r0 : Bool) : Prop :=
  cnd (a0 == (1 : Int)) ((a1 == (0 : Int)) = r0) (cnd (a0 == (2 : Int)) ((!(a1 == (0 : Int))) = r0) (cnd (a0 == (3 : Int)) ((decide (a1 < (0 : Int))) = r0) (cnd (a0 == (4 : Int)) ((decide (a1 ≤ (0 : Int))) = r0) (cnd (a0 == (5 : Int)) ((decide ((0 : Int) < a1)) = r0) ((decide ((0 : Int) ≤ a1)) = r0)))))
noncomputable def value_holds_sp : Sp KK := ⟨62, [.v 3, .v 3], [4], appW (K := KK) [4] [.v 3, .v 3] value_holds_o⟩
noncomputable def value_holds_an : An KK := (.s .o (.s (.s .o (.b (.s .o (.c (.s .o .o) (.s .o (.c (.s .o .o) (.s .o (.c (.s .o .o) (.s .o (.c (.s .o .o) (.s .o (.c (.s .o .o) .o)))))))))))) (.s .o .o)))
noncomputable def value_holds_cf : Cf KK := ⟨CC, [], 28⟩

set_option maxRecDepth 100000 in
theorem value_holds_ok : SpOk Try.prog CC value_holds_sp := by
  intro env r hF h
  obtain ⟨a0, env0, rfl, h1⟩ := appW_v h
  obtain ⟨a1, env1, rfl, h2⟩ := appW_v h1
  obtain ⟨rfl, h3⟩ := appW_n h2
  obtain ⟨r0, rr0, rfl, h4⟩ := apR_v h3
  obtain ⟨rfl, h5⟩ := apR_n h4
  refine ⟨rfl, DnF_by (F := value_holds_cf) CC_ok SsOk_n t62 (A := value_holds_an) (ps := [.v 3, .v 3]) (rs := [4]) (env := [.d (.v 3 a0), .d (.v 3 a1)]) (r := [.v 4 r0]) (X := value_holds_o a0 a1 r0) rfl (Nat.le_of_ble_eq_true rfl) rfl hF h5 ?_⟩
  kernel_rfl

def math_bits_Mul64_o (a0 : Int) (a1 : Int) (r0 : Int) (r1 : Int) : Prop :=
  (IntKind.u64.wrap ((IntKind.u64.wrap ((IntKind.u64.wrap ((a0.fdiv (2 ^ (min (32 : Int).toNat IntKind.u64.bits))) * (a1.fdiv (2 ^ (min (32 : Int).toNat IntKind.u64.bits))))) + ((IntKind.u64.wrap ((IntKind.u64.wrap ((a0.fdiv (2 ^ (min (32 : Int).toNat IntKind.u64.bits))) * (bits .and .u64 a1 (4294967295 : Int)))) + ((IntKind.u64.wrap ((bits .and .u64 a0 (4294967295 : Int)) * (bits .and .u64 a1 (4294967295 : Int)))).fdiv (2 ^ (min (32 : Int).toNat IntKind.u64.bits))))).fdiv (2 ^ (min (32 : Int).toNat IntKind.u64.bits))))) + ((IntKind.u64.wrap ((bits .and .u64 (IntKind.u64.wrap ((IntKind.u64.wrap ((a0.fdiv (2 ^ (min (32 : Int).toNat IntKind.u64.bits))) * (bits .and .u64 a1 (4294967295 : Int)))) + ((IntKind.u64.wrap ((bits .and .u64 a0 (4294967295 : Int)) * (bits .and .u64 a1 (4294967295 : Int)))).fdiv (2 ^ (min (32 : Int).toNat IntKind.u64.bits))))) (4294967295 : Int)) + (IntKind.u64.wrap ((bits .and .u64 a0 (4294967295 : Int)) * (a1.fdiv (2 ^ (min (32 : Int).toNat IntKind.u64.bits))))))).fdiv (2 ^ (min (32 : Int).toNat IntKind.u64.bits))))) = r0 ∧ (IntKind.u64.wrap (a0 * a1)) = r1
noncomputable def math_bits_Mul64_sp : Sp KK := ⟨108, [.v 234, .v 234], [234, 234], appW (K := KK) [234, 234] [.v 234, .v 234] math_bits_Mul64_o⟩
noncomputable def math_bits_Mul64_an : An KK := (.s .o (.s .o (.s .o (.s .o (.s .o (.s .o (.s .o (.s .o (.s .o (.s .o (.s .o (.s .o .o))))))))))))
noncomputable def math_bits_Mul64_cf : Cf KK := ⟨CC, [], 51⟩

set_option maxRecDepth 100000 in
theorem math_bits_Mul64_ok : SpOk Try.prog CC math_bits_Mul64_sp := by
  intro env r hF h
  obtain ⟨a0, env0, rfl, h1⟩ := appW_v h
  obtain ⟨a1, env1, rfl, h2⟩ := appW_v h1
  obtain ⟨rfl, h3⟩ := appW_n h2
  obtain ⟨r0, rr0, rfl, h4⟩ := apR_v h3
  obtain ⟨r1, rr1, rfl, h5⟩ := apR_v h4
  obtain ⟨rfl, h6⟩ := apR_n h5
  refine ⟨rfl, DnF_by (F := math_bits_Mul64_cf) CC_ok SsOk_n t108 (A := math_bits_Mul64_an) (ps := [.v 234, .v 234]) (rs := [234, 234]) (env := [.d (.v 234 a0), .d (.v 234 a1)]) (r := [.v 234 r0, .v 234 r1]) (X := math_bits_Mul64_o a0 a1 r0 r1) rfl (Nat.le_of_ble_eq_true rfl) rfl hF h6 ?_⟩
  kernel_rfl

def value_product_o (a0 : Int) (a1 : Int) (r0 : Int) (r1 : Bool) : Prop :=
  ∃ z1 : Int, ∃ z2 : Int, (math_bits_Mul64_o (IntKind.u64.wrap (if (IntKind.i64.wrap (0 - a0)) > a0 then (IntKind.i64.wrap (0 - a0)) else a0)) (IntKind.u64.wrap (if (IntKind.i64.wrap (0 - a1)) > a1 then (IntKind.i64.wrap (0 - a1)) else a1)) z1 z2) ∧ cnd (!((decide (a0 < (0 : Int))) == (decide (a1 < (0 : Int))))) (cnd (z1 == (0 : Int)) ((IntKind.i64.wrap (0 - (IntKind.i64.wrap z2))) = r0 ∧ (decide (z2 ≤ (9223372036854775808 : Int))) = r1) ((IntKind.i64.wrap (0 - (IntKind.i64.wrap z2))) = r0 ∧ false = r1)) (cnd (z1 == (0 : Int)) ((IntKind.i64.wrap z2) = r0 ∧ (decide (z2 ≤ (9223372036854775807 : Int))) = r1) ((IntKind.i64.wrap z2) = r0 ∧ false = r1))
noncomputable def value_product_sp : Sp KK := ⟨95, [.v 2, .v 2], [2, 4], appW (K := KK) [2, 4] [.v 2, .v 2] value_product_o⟩
noncomputable def value_product_an : An KK := (.s .o (.s .o (.s (.s .o (.c (.s .o .o) .o)) (.s .o .o))))
noncomputable def value_product_cf : Cf KK := ⟨CC, [math_bits_Mul64_sp], 44⟩

set_option maxRecDepth 100000 in
theorem value_product_ok : SpOk Try.prog CC value_product_sp := by
  intro env r hF h
  obtain ⟨a0, env0, rfl, h1⟩ := appW_v h
  obtain ⟨a1, env1, rfl, h2⟩ := appW_v h1
  obtain ⟨rfl, h3⟩ := appW_n h2
  obtain ⟨r0, rr0, rfl, h4⟩ := apR_v h3
  obtain ⟨r1, rr1, rfl, h5⟩ := apR_v h4
  obtain ⟨rfl, h6⟩ := apR_n h5
  refine ⟨rfl, DnF_by (F := value_product_cf) CC_ok (SsOk_c math_bits_Mul64_ok SsOk_n) t95 (A := value_product_an) (ps := [.v 2, .v 2]) (rs := [2, 4]) (env := [.d (.v 2 a0), .d (.v 2 a1)]) (r := [.v 2 r0, .v 4 r1]) (X := value_product_o a0 a1 r0 r1) rfl (Nat.le_of_ble_eq_true rfl) rfl hF h6 ?_⟩
  kernel_rfl

def value_reckon_J1 (r0 : Int) (r1 : Int) (x1 : Int) (x2 : Bool) : Prop :=
  cnd (!x2) ((0 : Int) = r0 ∧ (8 : Int) = r1) (x1 = r0 ∧ (0 : Int) = r1)
def value_reckon_o (a0 : Int) (a1 : Int) (a2 : Int) (r0 : Int) (r1 : Int) : Prop :=
  ∀ J1 : Int → Bool → Prop, (∀ (x1 : Int) (x2 : Bool), value_reckon_J1 r0 r1 x1 x2 → J1 x1 x2) → cnd (a0 == (7 : Int)) (cnd ((decide (a1 < (IntKind.i64.wrap (a1 + a2)))) == (decide ((0 : Int) < a2))) (J1 (IntKind.i64.wrap (a1 + a2)) true) (J1 (IntKind.i64.wrap (a1 + a2)) (a2 == (0 : Int)))) (cnd (a0 == (8 : Int)) (cnd ((decide ((IntKind.i64.wrap (a1 - a2)) < a1)) == (decide ((0 : Int) < a2))) (J1 (IntKind.i64.wrap (a1 - a2)) true) (J1 (IntKind.i64.wrap (a1 - a2)) (a2 == (0 : Int)))) (cnd (a0 == (9 : Int)) (∃ z3 : Int, ∃ z4 : Bool, (value_product_o a1 a2 z3 z4) ∧ J1 z3 z4) (cnd (a2 == (0 : Int)) ((0 : Int) = r0 ∧ (9 : Int) = r1) (cnd (a0 == (11 : Int)) ((a2 ≠ 0) ∧ (a1.tmod a2) = r0 ∧ (0 : Int) = r1) ((a2 ≠ 0) ∧ cnd (!(a1 == (-9223372036854775808 : Int))) (J1 (IntKind.i64.wrap (a1.tdiv a2)) true) (J1 (IntKind.i64.wrap (a1.tdiv a2)) (!(a2 == (-1 : Int)))))))))
def value_reckon_J1i (r0 : Int) (r1 : Int) (x1 : Int) (x2 : Bool) : Prop :=
  cnd (!x2) ((0 : Int) = r0 ∧ (8 : Int) = r1) (x1 = r0 ∧ (0 : Int) = r1)
def value_reckon_oi (a0 : Int) (a1 : Int) (a2 : Int) (r0 : Int) (r1 : Int) : Prop :=
  cnd (a0 == (7 : Int)) (cnd ((decide (a1 < (IntKind.i64.wrap (a1 + a2)))) == (decide ((0 : Int) < a2))) (value_reckon_J1i r0 r1 (IntKind.i64.wrap (a1 + a2)) true) (value_reckon_J1i r0 r1 (IntKind.i64.wrap (a1 + a2)) (a2 == (0 : Int)))) (cnd (a0 == (8 : Int)) (cnd ((decide ((IntKind.i64.wrap (a1 - a2)) < a1)) == (decide ((0 : Int) < a2))) (value_reckon_J1i r0 r1 (IntKind.i64.wrap (a1 - a2)) true) (value_reckon_J1i r0 r1 (IntKind.i64.wrap (a1 - a2)) (a2 == (0 : Int)))) (cnd (a0 == (9 : Int)) (∃ z3 : Int, ∃ z4 : Bool, (value_product_o a1 a2 z3 z4) ∧ value_reckon_J1i r0 r1 z3 z4) (cnd (a2 == (0 : Int)) ((0 : Int) = r0 ∧ (9 : Int) = r1) (cnd (a0 == (11 : Int)) ((a2 ≠ 0) ∧ (a1.tmod a2) = r0 ∧ (0 : Int) = r1) ((a2 ≠ 0) ∧ cnd (!(a1 == (-9223372036854775808 : Int))) (value_reckon_J1i r0 r1 (IntKind.i64.wrap (a1.tdiv a2)) true) (value_reckon_J1i r0 r1 (IntKind.i64.wrap (a1.tdiv a2)) (!(a2 == (-1 : Int)))))))))
theorem value_reckon_J1_m (r0 : Int) (r1 : Int) {x1 : Int} {x2 : Bool} (h : value_reckon_J1i r0 r1 x1 x2) : value_reckon_J1 r0 r1 x1 x2 := by
  unfold value_reckon_J1
  unfold value_reckon_J1i at h
  exact h
theorem value_reckon_i (a0 : Int) (a1 : Int) (a2 : Int) (r0 : Int) (r1 : Int) (h : value_reckon_oi a0 a1 a2 r0 r1) : value_reckon_o a0 a1 a2 r0 r1 := by
  unfold value_reckon_o
  unfold value_reckon_oi at h
  intro J1 kJ1
  have hJ1 : ∀ (x1 : Int) (x2 : Bool), value_reckon_J1i r0 r1 x1 x2 → J1 x1 x2 := fun x1 x2 q => kJ1 x1 x2 (value_reckon_J1_m r0 r1 q)
  refine cnd_mono h (fun h => ?_) (fun h => ?_)
  · refine cnd_mono h (fun h => ?_) (fun h => ?_)
    · exact hJ1 _ _ h
    · exact hJ1 _ _ h
  · refine cnd_mono h (fun h => ?_) (fun h => ?_)
    · refine cnd_mono h (fun h => ?_) (fun h => ?_)
      · exact hJ1 _ _ h
      · exact hJ1 _ _ h
    · refine cnd_mono h (fun h => ?_) (fun h => ?_)
      · obtain ⟨z3, h⟩ := h
        refine ⟨z3, ?_⟩
        obtain ⟨z4, h⟩ := h
        refine ⟨z4, ?_⟩
        obtain ⟨h0, h⟩ := h
        refine ⟨h0, ?_⟩
        exact hJ1 _ _ h
      · refine cnd_mono h (fun h => ?_) (fun h => ?_)
        · exact h
        · refine cnd_mono h (fun h => ?_) (fun h => ?_)
          · exact h
          · obtain ⟨h0, h⟩ := h
            refine ⟨h0, ?_⟩
            refine cnd_mono h (fun h => ?_) (fun h => ?_)
            · exact hJ1 _ _ h
            · exact hJ1 _ _ h
noncomputable def value_reckon_sp : Sp KK := ⟨64, [.v 3, .v 2, .v 2], [2, 46], appW (K := KK) [2, 46] [.v 3, .v 2, .v 2] value_reckon_o⟩
noncomputable def value_reckon_an : An KK := (.s .o (.s .o (.j ⟨[(8, .it .i64), (9, .bl)], [], []⟩ (.s .o (.b (.s .o (.c (.s .o .o) (.s .o (.c (.s .o .o) (.s .o (.c .o (.s (.s .o (.c (.s .o .o) .o)) (.s (.s .o (.c (.s .o .o) .o)) .o)))))))))) (fun _ => (.s (.s .o (.c (.s .o .o) .o)) (.s .o .o))))))
noncomputable def value_reckon_cf : Cf KK := ⟨CC, [value_product_sp], 68⟩

set_option maxRecDepth 100000 in
theorem value_reckon_ok : SpOk Try.prog CC value_reckon_sp := by
  intro env r hF h
  obtain ⟨a0, env0, rfl, h1⟩ := appW_v h
  obtain ⟨a1, env1, rfl, h2⟩ := appW_v h1
  obtain ⟨a2, env2, rfl, h3⟩ := appW_v h2
  obtain ⟨rfl, h4⟩ := appW_n h3
  obtain ⟨r0, rr0, rfl, h5⟩ := apR_v h4
  obtain ⟨r1, rr1, rfl, h6⟩ := apR_v h5
  obtain ⟨rfl, h7⟩ := apR_n h6
  refine ⟨rfl, DnF_by (F := value_reckon_cf) CC_ok (SsOk_c value_product_ok SsOk_n) t64 (A := value_reckon_an) (ps := [.v 3, .v 2, .v 2]) (rs := [2, 46]) (env := [.d (.v 3 a0), .d (.v 2 a1), .d (.v 2 a2)]) (r := [.v 2 r0, .v 46 r1]) (X := value_reckon_o a0 a1 a2 r0 r1) rfl (Nat.le_of_ble_eq_true rfl) rfl hF h7 ?_⟩
  kernel_rfl

def value_Do_J2 (r0 : T_value_Value) (r1 : Int) (a0 : Int) (a1 : T_value_Value) (a2 : T_value_Value) (x4 : Bool) : Prop :=
  cnd x4 ((⟨(0 : Int), (0 : Int), ([] : Str)⟩ : T_value_Value) = r0 ∧ (0 : Int) = r1) (cnd (decide (a0 ≤ (6 : Int))) (∃ z5 : Int, (value_Compare_o a1 a2 z5) ∧ ∃ z6 : Bool, (value_holds_o a0 z5 z6) ∧ ∃ z7 : T_value_Value, (value_OfBool_o z6 z7) ∧ z7 = r0 ∧ (0 : Int) = r1) (cnd (a0 == (12 : Int)) (cnd (decide ((64 : Int) < (IntKind.i64.wrap ((a1.S.length : Int) + (a2.S.length : Int))))) ((⟨(0 : Int), (0 : Int), ([] : Str)⟩ : T_value_Value) = r0 ∧ (8 : Int) = r1) ((a1.S.length + a2.S.length ≤ 9223372036854775807) ∧ ∃ z8 : T_value_Value, (value_OfText_o (a1.S ++ a2.S) z8) ∧ z8 = r0 ∧ (0 : Int) = r1)) (∃ z9 : Int, ∃ z10 : Int, (value_reckon_o a0 a1.N a2.N z9 z10) ∧ cnd (!(z10 == (0 : Int))) ((⟨(0 : Int), (0 : Int), ([] : Str)⟩ : T_value_Value) = r0 ∧ z10 = r1) (∃ z11 : T_value_Value, (value_OfInt_o z9 z11) ∧ z11 = r0 ∧ (0 : Int) = r1))))
def value_Do_J1 (r0 : T_value_Value) (r1 : Int) (a0 : Int) (a1 : T_value_Value) (a2 : T_value_Value) (x1 : Bool) : Prop :=
  cnd x1 ((⟨(0 : Int), (0 : Int), ([] : Str)⟩ : T_value_Value) = r0 ∧ (1 : Int) = r1) (∃ z2 : Bool, (value_fit_o a0 a1 a2 z2) ∧ cnd (!z2) ((⟨(0 : Int), (0 : Int), ([] : Str)⟩ : T_value_Value) = r0 ∧ (5 : Int) = r1) (cnd (decide ((13 : Int) ≤ a0)) (∃ z3 : T_value_Value, (value_logic_o (a0 == (14 : Int)) a1 a2 z3) ∧ z3 = r0 ∧ (0 : Int) = r1) (∀ J2 : Bool → Prop, (∀ (x4 : Bool), value_Do_J2 r0 r1 a0 a1 a2 x4 → J2 x4) → ∃ z12 : Bool, (value_Value_none_o a1 z12) ∧ cnd z12 (J2 true) (∃ z13 : Bool, (value_Value_none_o a2 z13) ∧ J2 z13))))
def value_Do_o (a0 : Int) (a1 : T_value_Value) (a2 : T_value_Value) (r0 : T_value_Value) (r1 : Int) : Prop :=
  ∀ J1 : Bool → Prop, (∀ (x1 : Bool), value_Do_J1 r0 r1 a0 a1 a2 x1 → J1 x1) → cnd (decide (a0 < (1 : Int))) (J1 true) (J1 (decide ((14 : Int) < a0)))
def value_Do_J2i (a0 : Int) (a1 : T_value_Value) (a2 : T_value_Value) (r0 : T_value_Value) (r1 : Int) (x4 : Bool) : Prop :=
  cnd x4 ((⟨(0 : Int), (0 : Int), ([] : Str)⟩ : T_value_Value) = r0 ∧ (0 : Int) = r1) (cnd (decide (a0 ≤ (6 : Int))) (∃ z5 : Int, (value_Compare_o a1 a2 z5) ∧ ∃ z6 : Bool, (value_holds_o a0 z5 z6) ∧ ∃ z7 : T_value_Value, (value_OfBool_o z6 z7) ∧ z7 = r0 ∧ (0 : Int) = r1) (cnd (a0 == (12 : Int)) (cnd (decide ((64 : Int) < (IntKind.i64.wrap ((a1.S.length : Int) + (a2.S.length : Int))))) ((⟨(0 : Int), (0 : Int), ([] : Str)⟩ : T_value_Value) = r0 ∧ (8 : Int) = r1) ((a1.S.length + a2.S.length ≤ 9223372036854775807) ∧ ∃ z8 : T_value_Value, (value_OfText_o (a1.S ++ a2.S) z8) ∧ z8 = r0 ∧ (0 : Int) = r1)) (∃ z9 : Int, ∃ z10 : Int, (value_reckon_o a0 a1.N a2.N z9 z10) ∧ cnd (!(z10 == (0 : Int))) ((⟨(0 : Int), (0 : Int), ([] : Str)⟩ : T_value_Value) = r0 ∧ z10 = r1) (∃ z11 : T_value_Value, (value_OfInt_o z9 z11) ∧ z11 = r0 ∧ (0 : Int) = r1))))
def value_Do_J1i (a0 : Int) (a1 : T_value_Value) (a2 : T_value_Value) (r0 : T_value_Value) (r1 : Int) (x1 : Bool) : Prop :=
  cnd x1 ((⟨(0 : Int), (0 : Int), ([] : Str)⟩ : T_value_Value) = r0 ∧ (1 : Int) = r1) (∃ z2 : Bool, (value_fit_o a0 a1 a2 z2) ∧ cnd (!z2) ((⟨(0 : Int), (0 : Int), ([] : Str)⟩ : T_value_Value) = r0 ∧ (5 : Int) = r1) (cnd (decide ((13 : Int) ≤ a0)) (∃ z3 : T_value_Value, (value_logic_o (a0 == (14 : Int)) a1 a2 z3) ∧ z3 = r0 ∧ (0 : Int) = r1) (∃ z12 : Bool, (value_Value_none_o a1 z12) ∧ cnd z12 (value_Do_J2i a0 a1 a2 r0 r1 true) (∃ z13 : Bool, (value_Value_none_o a2 z13) ∧ value_Do_J2i a0 a1 a2 r0 r1 z13))))
def value_Do_oi (a0 : Int) (a1 : T_value_Value) (a2 : T_value_Value) (r0 : T_value_Value) (r1 : Int) : Prop :=
  cnd (decide (a0 < (1 : Int))) (value_Do_J1i a0 a1 a2 r0 r1 true) (value_Do_J1i a0 a1 a2 r0 r1 (decide ((14 : Int) < a0)))
theorem value_Do_J2_m (a0 : Int) (a1 : T_value_Value) (a2 : T_value_Value) (r0 : T_value_Value) (r1 : Int) {x4 : Bool} (h : value_Do_J2i a0 a1 a2 r0 r1 x4) : value_Do_J2 r0 r1 a0 a1 a2 x4 := by
  unfold value_Do_J2
  unfold value_Do_J2i at h
  exact h
theorem value_Do_J1_m (a0 : Int) (a1 : T_value_Value) (a2 : T_value_Value) (r0 : T_value_Value) (r1 : Int) {x1 : Bool} (h : value_Do_J1i a0 a1 a2 r0 r1 x1) : value_Do_J1 r0 r1 a0 a1 a2 x1 := by
  unfold value_Do_J1
  unfold value_Do_J1i at h
  refine cnd_mono h (fun h => ?_) (fun h => ?_)
  · exact h
  · obtain ⟨z2, h⟩ := h
    refine ⟨z2, ?_⟩
    obtain ⟨h0, h⟩ := h
    refine ⟨h0, ?_⟩
    refine cnd_mono h (fun h => ?_) (fun h => ?_)
    · exact h
    · refine cnd_mono h (fun h => ?_) (fun h => ?_)
      · exact h
      · intro J2 kJ2
        have hJ2 : ∀ (x4 : Bool), value_Do_J2i a0 a1 a2 r0 r1 x4 → J2 x4 := fun x4 q => kJ2 x4 (value_Do_J2_m a0 a1 a2 r0 r1 q)
        obtain ⟨z12, h⟩ := h
        refine ⟨z12, ?_⟩
        obtain ⟨h0, h⟩ := h
        refine ⟨h0, ?_⟩
        refine cnd_mono h (fun h => ?_) (fun h => ?_)
        · exact hJ2 _ h
        · obtain ⟨z13, h⟩ := h
          refine ⟨z13, ?_⟩
          obtain ⟨h0, h⟩ := h
          refine ⟨h0, ?_⟩
          exact hJ2 _ h
theorem value_Do_i (a0 : Int) (a1 : T_value_Value) (a2 : T_value_Value) (r0 : T_value_Value) (r1 : Int) (h : value_Do_oi a0 a1 a2 r0 r1) : value_Do_o a0 a1 a2 r0 r1 := by
  unfold value_Do_o
  unfold value_Do_oi at h
  intro J1 kJ1
  have hJ1 : ∀ (x1 : Bool), value_Do_J1i a0 a1 a2 r0 r1 x1 → J1 x1 := fun x1 q => kJ1 x1 (value_Do_J1_m a0 a1 a2 r0 r1 q)
  refine cnd_mono h (fun h => ?_) (fun h => ?_)
  · exact hJ1 _ h
  · exact hJ1 _ h
noncomputable def value_Do_sp : Sp KK := ⟨32, [.v 3, .v 35, .v 35], [35, 46], appW (K := KK) [35, 46] [.v 3, .v 35, .v 35] value_Do_o⟩
noncomputable def value_Do_an : An KK := (.s .o (.s (.b (.j ⟨[(0, .kp 11), (4, .px 4 0), (5, .px 5 0), (6, .px 6 0), (10, .bl)], [(4, 35, [.kp 12, .kp 13, .kp 14]), (5, 35, [.kp 15, .kp 16, .kp 17]), (6, 35, [.kp 18, .kp 19, .kp 20])], []⟩ .o (fun _ => (.c (.s .o .o) (.s .o (.c (.s .o .o) (.s .o (.c (.s .o .o) (.j ⟨[(0, .kp 11), (4, .px 4 0), (5, .px 5 0), (6, .px 6 0), (33, .bl)], [(4, 35, [.kp 12, .kp 13, .kp 14]), (5, 35, [.kp 15, .kp 16, .kp 17]), (6, 35, [.kp 18, .kp 19, .kp 20])], []⟩ .o (fun _ => (.c (.s .o .o) (.s .o (.c (.s .o .o) (.s .o (.c (.s (.s .o (.c (.s .o .o) .o)) (.s .o .o)) .o))))))))))))))) (.s .o (.s (.s .o (.c (.s .o .o) .o)) (.s .o .o)))))
noncomputable def value_Do_cf : Cf KK := ⟨CC, [value_fit_sp, value_logic_sp, value_Value_none_sp, value_Compare_sp, value_holds_sp, value_OfBool_sp, value_OfText_sp, value_reckon_sp, value_OfInt_sp], 83⟩

set_option maxRecDepth 100000 in
theorem value_Do_ok : SpOk Try.prog CC value_Do_sp := by
  intro env r hF h
  obtain ⟨a0, env0, rfl, h1⟩ := appW_v h
  obtain ⟨a1, env1, rfl, h2⟩ := appW_v h1
  obtain ⟨a2, env2, rfl, h3⟩ := appW_v h2
  obtain ⟨rfl, h4⟩ := appW_n h3
  obtain ⟨r0, rr0, rfl, h5⟩ := apR_v h4
  obtain ⟨r1, rr1, rfl, h6⟩ := apR_v h5
  obtain ⟨rfl, h7⟩ := apR_n h6
  refine ⟨rfl, DnF_by (F := value_Do_cf) CC_ok (SsOk_c value_fit_ok (SsOk_c value_logic_ok (SsOk_c value_Value_none_ok (SsOk_c value_Compare_ok (SsOk_c value_holds_ok (SsOk_c value_OfBool_ok (SsOk_c value_OfText_ok (SsOk_c value_reckon_ok (SsOk_c value_OfInt_ok SsOk_n))))))))) t32 (A := value_Do_an) (ps := [.v 3, .v 35, .v 35]) (rs := [35, 46]) (env := [.d (.v 3 a0), .d (.v 35 a1), .d (.v 35 a2)]) (r := [.v 35 r0, .v 46 r1]) (X := value_Do_o a0 a1 a2 r0 r1) rfl (Nat.le_of_ble_eq_true rfl) rfl hF h7 ?_⟩
  kernel_rfl

def value_Value_True_o (a0 : T_value_Value) (r0 : Bool) : Prop :=
  ∃ z1 : T_value_Value, (value_OfBool_o true z1) ∧ ((a0.Kind == z1.Kind) && ((a0.N == z1.N) && ((a0.S == z1.S) && true))) = r0
noncomputable def value_Value_True_sp : Sp KK := ⟨65, [.v 35], [4], appW (K := KK) [4] [.v 35] value_Value_True_o⟩
noncomputable def value_Value_True_an : An KK := (.s .o (.s .o .o))
noncomputable def value_Value_True_cf : Cf KK := ⟨CC, [value_OfBool_sp], 6⟩

set_option maxRecDepth 100000 in
theorem value_Value_True_ok : SpOk Try.prog CC value_Value_True_sp := by
  intro env r hF h
  obtain ⟨a0, env0, rfl, h1⟩ := appW_v h
  obtain ⟨rfl, h2⟩ := appW_n h1
  obtain ⟨r0, rr0, rfl, h3⟩ := apR_v h2
  obtain ⟨rfl, h4⟩ := apR_n h3
  refine ⟨rfl, DnF_by (F := value_Value_True_cf) CC_ok (SsOk_c value_OfBool_ok SsOk_n) t65 (A := value_Value_True_an) (ps := [.v 35]) (rs := [4]) (env := [.d (.v 35 a0)]) (r := [.v 4 r0]) (X := value_Value_True_o a0 r0) rfl (Nat.le_of_ble_eq_true rfl) rfl hF h4 ?_⟩
  kernel_rfl

def value_Not_o (a0 : T_value_Value) (r0 : T_value_Value) (r1 : Int) : Prop :=
  cnd (a0.Kind == (0 : Int)) (a0 = r0 ∧ (0 : Int) = r1) (cnd (a0.Kind == (1 : Int)) (∃ z1 : Bool, (value_Value_True_o a0 z1) ∧ ∃ z2 : T_value_Value, (value_OfBool_o (!z1) z2) ∧ z2 = r0 ∧ (0 : Int) = r1) ((⟨(0 : Int), (0 : Int), ([] : Str)⟩ : T_value_Value) = r0 ∧ (5 : Int) = r1))
noncomputable def value_Not_sp : Sp KK := ⟨33, [.v 35], [35, 46], appW (K := KK) [35, 46] [.v 35] value_Not_o⟩
noncomputable def value_Not_an : An KK := (.s .o (.s (.s .o (.b (.s .o (.c (.s .o .o) (.s .o (.c (.s .o .o) .o)))))) (.s .o .o)))
noncomputable def value_Not_cf : Cf KK := ⟨CC, [value_Value_True_sp, value_OfBool_sp], 16⟩

set_option maxRecDepth 100000 in
theorem value_Not_ok : SpOk Try.prog CC value_Not_sp := by
  intro env r hF h
  obtain ⟨a0, env0, rfl, h1⟩ := appW_v h
  obtain ⟨rfl, h2⟩ := appW_n h1
  obtain ⟨r0, rr0, rfl, h3⟩ := apR_v h2
  obtain ⟨r1, rr1, rfl, h4⟩ := apR_v h3
  obtain ⟨rfl, h5⟩ := apR_n h4
  refine ⟨rfl, DnF_by (F := value_Not_cf) CC_ok (SsOk_c value_Value_True_ok (SsOk_c value_OfBool_ok SsOk_n)) t33 (A := value_Not_an) (ps := [.v 35]) (rs := [35, 46]) (env := [.d (.v 35 a0)]) (r := [.v 35 r0, .v 46 r1]) (X := value_Not_o a0 r0 r1) rfl (Nat.le_of_ble_eq_true rfl) rfl hF h5 ?_⟩
  kernel_rfl

def value_Neg_o (a0 : T_value_Value) (r0 : T_value_Value) (r1 : Int) : Prop :=
  ∃ z1 : Bool, (value_Value_none_o a0 z1) ∧ cnd z1 (a0 = r0 ∧ (0 : Int) = r1) (cnd (!(a0.Kind == (2 : Int))) ((⟨(0 : Int), (0 : Int), ([] : Str)⟩ : T_value_Value) = r0 ∧ (5 : Int) = r1) (cnd (a0.N == (-9223372036854775808 : Int)) ((⟨(0 : Int), (0 : Int), ([] : Str)⟩ : T_value_Value) = r0 ∧ (8 : Int) = r1) (∃ z2 : T_value_Value, (value_OfInt_o (IntKind.i64.wrap (0 - a0.N)) z2) ∧ z2 = r0 ∧ (0 : Int) = r1)))
noncomputable def value_Neg_sp : Sp KK := ⟨34, [.v 35], [35, 46], appW (K := KK) [35, 46] [.v 35] value_Neg_o⟩
noncomputable def value_Neg_an : An KK := (.s .o (.s (.b (.s .o (.c (.s .o .o) (.s .o (.c (.s .o .o) (.s .o (.c (.s .o .o) .o))))))) (.s .o .o)))
noncomputable def value_Neg_cf : Cf KK := ⟨CC, [value_Value_none_sp, value_OfInt_sp], 22⟩

set_option maxRecDepth 100000 in
theorem value_Neg_ok : SpOk Try.prog CC value_Neg_sp := by
  intro env r hF h
  obtain ⟨a0, env0, rfl, h1⟩ := appW_v h
  obtain ⟨rfl, h2⟩ := appW_n h1
  obtain ⟨r0, rr0, rfl, h3⟩ := apR_v h2
  obtain ⟨r1, rr1, rfl, h4⟩ := apR_v h3
  obtain ⟨rfl, h5⟩ := apR_n h4
  refine ⟨rfl, DnF_by (F := value_Neg_cf) CC_ok (SsOk_c value_Value_none_ok (SsOk_c value_OfInt_ok SsOk_n)) t34 (A := value_Neg_an) (ps := [.v 35]) (rs := [35, 46]) (env := [.d (.v 35 a0)]) (r := [.v 35 r0, .v 46 r1]) (X := value_Neg_o a0 r0 r1) rfl (Nat.le_of_ble_eq_true rfl) rfl hF h5 ?_⟩
  kernel_rfl

def check_Eval_L1 (a0 : T_expr_Expr) (Xr : T_expr_Expr → (List T_check_Field) → (List T_value_Value) → T_value_Value → Int → Prop) (a1 : (List T_check_Field)) (a2 : (List T_value_Value)) (r0 : T_value_Value) (r1 : Int) (X1 : Int → (List T_value_Value) → Prop) (x1 : Int) (x2 : (List T_value_Value)) : Prop :=
  cnd (decide (x1 < (a0.L.length : Int))) ((0 ≤ x1) ∧ (x1 < (a0.L.length : Int)) ∧ ∃ y3 : T_expr_Expr, (a0.L[x1.toNat]? = some y3) ∧ ∃ z4 : T_value_Value, ∃ z5 : Int, (Xr (T_expr_Expr.mk y3.Kind y3.Op (⟨y3.V.Kind, y3.V.N, y3.V.S⟩ : T_value_Value) y3.Table y3.Name y3.L) a1 a2 z4 z5) ∧ cnd (!(z5 == (0 : Int))) ((⟨(0 : Int), (0 : Int), ([] : Str)⟩ : T_value_Value) = r0 ∧ z5 = r1) ((x2.length ≤ 1000000000) ∧ X1 (IntKind.i64.wrap (x1 + (1 : Int))) (x2 ++ ([z4] : List T_value_Value)))) (cnd (a0.Kind == (1 : Int)) ((⟨a0.V.Kind, a0.V.N, a0.V.S⟩ : T_value_Value) = r0 ∧ (0 : Int) = r1) (cnd (a0.Kind == (2 : Int)) (∃ z6 : Int, ∃ z7 : Int, (check_Find_o a1 (T_expr_Expr.mk a0.Kind a0.Op (⟨a0.V.Kind, a0.V.N, a0.V.S⟩ : T_value_Value) a0.Table a0.Name a0.L) z6 z7) ∧ cnd (!(z7 == (0 : Int))) ((⟨(0 : Int), (0 : Int), ([] : Str)⟩ : T_value_Value) = r0 ∧ z7 = r1) ((0 ≤ z6) ∧ (z6 < (a2.length : Int)) ∧ ∃ y8 : T_value_Value, (a2[z6.toNat]? = some y8) ∧ y8 = r0 ∧ (0 : Int) = r1)) (cnd (a0.Kind == (3 : Int)) ((0 ≤ (0 : Int)) ∧ ((0 : Int) < (x2.length : Int)) ∧ ∃ y9 : T_value_Value, (x2[(0 : Int).toNat]? = some y9) ∧ (0 ≤ (1 : Int)) ∧ ((1 : Int) < (x2.length : Int)) ∧ ∃ y10 : T_value_Value, (x2[(1 : Int).toNat]? = some y10) ∧ ∃ z11 : T_value_Value, ∃ z12 : Int, (value_Do_o a0.Op y9 y10 z11 z12) ∧ z11 = r0 ∧ z12 = r1) (cnd (a0.Kind == (4 : Int)) ((0 ≤ (0 : Int)) ∧ ((0 : Int) < (x2.length : Int)) ∧ ∃ y13 : T_value_Value, (x2[(0 : Int).toNat]? = some y13) ∧ ∃ z14 : T_value_Value, ∃ z15 : Int, (value_Not_o y13 z14 z15) ∧ z14 = r0 ∧ z15 = r1) (cnd (a0.Kind == (5 : Int)) ((0 ≤ (0 : Int)) ∧ ((0 : Int) < (x2.length : Int)) ∧ ∃ y16 : T_value_Value, (x2[(0 : Int).toNat]? = some y16) ∧ ∃ z17 : T_value_Value, ∃ z18 : Int, (value_Neg_o y16 z17 z18) ∧ z17 = r0 ∧ z18 = r1) ((0 ≤ (0 : Int)) ∧ ((0 : Int) < (x2.length : Int)) ∧ ∃ y19 : T_value_Value, (x2[(0 : Int).toNat]? = some y19) ∧ ∃ z20 : T_value_Value, (value_OfBool_o ((y19.Kind == (0 : Int)) == (a0.Kind == (6 : Int))) z20) ∧ z20 = r0 ∧ (0 : Int) = r1))))))
def check_Eval_B (Xr : T_expr_Expr → (List T_check_Field) → (List T_value_Value) → T_value_Value → Int → Prop) (a0 : T_expr_Expr) (a1 : (List T_check_Field)) (a2 : (List T_value_Value)) (r0 : T_value_Value) (r1 : Int) : Prop :=
  (a0.L.length ≤ maxLen → ∀ X1 : Int → (List T_value_Value) → Prop, (∀ (x1 : Int) (x2 : (List T_value_Value)), check_Eval_L1 a0 Xr a1 a2 r0 r1 X1 x1 x2 → X1 x1 x2) → X1 (0 : Int) ([] : List T_value_Value))
def check_Eval_o (a0 : T_expr_Expr) (a1 : (List T_check_Field)) (a2 : (List T_value_Value)) (r0 : T_value_Value) (r1 : Int) : Prop := ∀ Xr : T_expr_Expr → (List T_check_Field) → (List T_value_Value) → T_value_Value → Int → Prop, (∀ (a0 : T_expr_Expr) (a1 : (List T_check_Field)) (a2 : (List T_value_Value)) (r0 : T_value_Value) (r1 : Int), check_Eval_B Xr a0 a1 a2 r0 r1 → Xr a0 a1 a2 r0 r1) → Xr a0 a1 a2 r0 r1
def check_Eval_L1i (Xr : T_expr_Expr → (List T_check_Field) → (List T_value_Value) → T_value_Value → Int → Prop) (a0 : T_expr_Expr) (a1 : (List T_check_Field)) (a2 : (List T_value_Value)) (r0 : T_value_Value) (r1 : Int) (X1 : Int → (List T_value_Value) → Prop) (x1 : Int) (x2 : (List T_value_Value)) : Prop :=
  cnd (decide (x1 < (a0.L.length : Int))) ((0 ≤ x1) ∧ (x1 < (a0.L.length : Int)) ∧ ∃ y3 : T_expr_Expr, (a0.L[x1.toNat]? = some y3) ∧ ∃ z4 : T_value_Value, ∃ z5 : Int, (Xr (T_expr_Expr.mk y3.Kind y3.Op (⟨y3.V.Kind, y3.V.N, y3.V.S⟩ : T_value_Value) y3.Table y3.Name y3.L) a1 a2 z4 z5) ∧ cnd (!(z5 == (0 : Int))) ((⟨(0 : Int), (0 : Int), ([] : Str)⟩ : T_value_Value) = r0 ∧ z5 = r1) ((x2.length ≤ 1000000000) ∧ X1 (IntKind.i64.wrap (x1 + (1 : Int))) (x2 ++ ([z4] : List T_value_Value)))) (cnd (a0.Kind == (1 : Int)) ((⟨a0.V.Kind, a0.V.N, a0.V.S⟩ : T_value_Value) = r0 ∧ (0 : Int) = r1) (cnd (a0.Kind == (2 : Int)) (∃ z6 : Int, ∃ z7 : Int, (check_Find_o a1 (T_expr_Expr.mk a0.Kind a0.Op (⟨a0.V.Kind, a0.V.N, a0.V.S⟩ : T_value_Value) a0.Table a0.Name a0.L) z6 z7) ∧ cnd (!(z7 == (0 : Int))) ((⟨(0 : Int), (0 : Int), ([] : Str)⟩ : T_value_Value) = r0 ∧ z7 = r1) ((0 ≤ z6) ∧ (z6 < (a2.length : Int)) ∧ ∃ y8 : T_value_Value, (a2[z6.toNat]? = some y8) ∧ y8 = r0 ∧ (0 : Int) = r1)) (cnd (a0.Kind == (3 : Int)) ((0 ≤ (0 : Int)) ∧ ((0 : Int) < (x2.length : Int)) ∧ ∃ y9 : T_value_Value, (x2[(0 : Int).toNat]? = some y9) ∧ (0 ≤ (1 : Int)) ∧ ((1 : Int) < (x2.length : Int)) ∧ ∃ y10 : T_value_Value, (x2[(1 : Int).toNat]? = some y10) ∧ ∃ z11 : T_value_Value, ∃ z12 : Int, (value_Do_o a0.Op y9 y10 z11 z12) ∧ z11 = r0 ∧ z12 = r1) (cnd (a0.Kind == (4 : Int)) ((0 ≤ (0 : Int)) ∧ ((0 : Int) < (x2.length : Int)) ∧ ∃ y13 : T_value_Value, (x2[(0 : Int).toNat]? = some y13) ∧ ∃ z14 : T_value_Value, ∃ z15 : Int, (value_Not_o y13 z14 z15) ∧ z14 = r0 ∧ z15 = r1) (cnd (a0.Kind == (5 : Int)) ((0 ≤ (0 : Int)) ∧ ((0 : Int) < (x2.length : Int)) ∧ ∃ y16 : T_value_Value, (x2[(0 : Int).toNat]? = some y16) ∧ ∃ z17 : T_value_Value, ∃ z18 : Int, (value_Neg_o y16 z17 z18) ∧ z17 = r0 ∧ z18 = r1) ((0 ≤ (0 : Int)) ∧ ((0 : Int) < (x2.length : Int)) ∧ ∃ y19 : T_value_Value, (x2[(0 : Int).toNat]? = some y19) ∧ ∃ z20 : T_value_Value, (value_OfBool_o ((y19.Kind == (0 : Int)) == (a0.Kind == (6 : Int))) z20) ∧ z20 = r0 ∧ (0 : Int) = r1))))))
def check_Eval_Bi (Xr : T_expr_Expr → (List T_check_Field) → (List T_value_Value) → T_value_Value → Int → Prop) (a0 : T_expr_Expr) (a1 : (List T_check_Field)) (a2 : (List T_value_Value)) (r0 : T_value_Value) (r1 : Int) : Prop :=
  (a0.L.length ≤ maxLen → ∀ X1 : Int → (List T_value_Value) → Prop, (∀ (x1 : Int) (x2 : (List T_value_Value)), check_Eval_L1i Xr a0 a1 a2 r0 r1 X1 x1 x2 → X1 x1 x2) → X1 (0 : Int) ([] : List T_value_Value))
theorem check_Eval_L1_m (Xr : T_expr_Expr → (List T_check_Field) → (List T_value_Value) → T_value_Value → Int → Prop) (a0 : T_expr_Expr) (a1 : (List T_check_Field)) (a2 : (List T_value_Value)) (r0 : T_value_Value) (r1 : Int) {X1 : Int → (List T_value_Value) → Prop} {x1 : Int} {x2 : (List T_value_Value)} (h : check_Eval_L1i Xr a0 a1 a2 r0 r1 X1 x1 x2) : check_Eval_L1 a0 Xr a1 a2 r0 r1 X1 x1 x2 := by
  unfold check_Eval_L1
  unfold check_Eval_L1i at h
  exact h
theorem check_Eval_Bm (Xr : T_expr_Expr → (List T_check_Field) → (List T_value_Value) → T_value_Value → Int → Prop) (a0 : T_expr_Expr) (a1 : (List T_check_Field)) (a2 : (List T_value_Value)) (r0 : T_value_Value) (r1 : Int) (h : check_Eval_Bi Xr a0 a1 a2 r0 r1) : check_Eval_B Xr a0 a1 a2 r0 r1 := by
  unfold check_Eval_B
  unfold check_Eval_Bi at h
  intro c
  replace h := h c
  intro X1 k
  exact h X1 (fun x1 x2 q => k x1 x2 (check_Eval_L1_m Xr a0 a1 a2 r0 r1 q))
theorem check_Eval_i (a0 : T_expr_Expr) (a1 : (List T_check_Field)) (a2 : (List T_value_Value)) (r0 : T_value_Value) (r1 : Int) (h : ∀ Xr : T_expr_Expr → (List T_check_Field) → (List T_value_Value) → T_value_Value → Int → Prop, (∀ (a0 : T_expr_Expr) (a1 : (List T_check_Field)) (a2 : (List T_value_Value)) (r0 : T_value_Value) (r1 : Int), check_Eval_Bi Xr a0 a1 a2 r0 r1 → Xr a0 a1 a2 r0 r1) → Xr a0 a1 a2 r0 r1) : check_Eval_o a0 a1 a2 r0 r1 := fun Xr k => h Xr fun a0 a1 a2 r0 r1 q => k a0 a1 a2 r0 r1 (check_Eval_Bm Xr a0 a1 a2 r0 r1 q)
noncomputable def check_Eval_sp : Sp KK := ⟨14, [.v 38, .v 40, .v 42], [35, 46], appW (K := KK) [35, 46] [.v 38, .v 40, .v 42] check_Eval_o⟩
noncomputable def check_Eval_an : An KK := (.s .o (.s .o (.s (.s .o (.b (.l ⟨[(1, .kp 18), (2, .kp 19), (3, .px 3 0), (6, .px 6 0), (8, .row 37), (17, .kp 21), (18, .kp 22), (19, .it .i64)], [(3, 38, [.kp 24, .kp 25, .kp 26, .kp 27, .kp 28, .kp 29, .kp 30, .kp 31]), (6, 35, [.kp 32, .kp 33, .kp 34])], [(37, 35)]⟩ (fun _ => (.s .o (.s (.c .o .o) (.s (.b (.s .o (.s .o (.s (.s .o (.c (.s .o .o) .o)) .o)))) .o))))))) (.s (.s .o (.b (.s .o (.c (.s .o .o) (.s .o (.c (.s .o (.s (.s .o (.c (.s .o .o) .o)) (.s .o .o))) (.s .o (.c (.s .o .o) (.s .o (.c (.s .o .o) (.s .o (.c (.s .o .o) .o)))))))))))) (.s .o (.s .o .o))))))
noncomputable def check_Eval_cf (Xr : WTy KK [35, 46] [.v 38, .v 40, .v 42]) : Cf KK := ⟨CC, [⟨14, [.v 38, .v 40, .v 42], [35, 46], appW (K := KK) [35, 46] [.v 38, .v 40, .v 42] Xr⟩, check_Find_sp, value_Do_sp, value_Not_sp, value_Neg_sp, value_OfBool_sp], 101⟩

set_option maxRecDepth 100000 in
theorem check_Eval_okB (Xr : T_expr_Expr → (List T_check_Field) → (List T_value_Value) → T_value_Value → Int → Prop) (hX : ∀ (a0 : T_expr_Expr) (a1 : (List T_check_Field)) (a2 : (List T_value_Value)) (r0 : T_value_Value) (r1 : Int), Xr a0 a1 a2 r0 r1 → Pure Try.prog 14 (pencs CC [.v 38, .v 40, .v 42] ([.d (.v 38 a0), .d (.v 40 a1), .d (.v 42 a2)] : List (AD KK))) (tresA (([.v 35 r0, .v 46 r1] : List (DV KK)).map (dvA CC)))) : ∀ (a0 : T_expr_Expr) (a1 : (List T_check_Field)) (a2 : (List T_value_Value)) (r0 : T_value_Value) (r1 : Int), check_Eval_B Xr a0 a1 a2 r0 r1 → Pure Try.prog 14 (pencs CC [.v 38, .v 40, .v 42] ([.d (.v 38 a0), .d (.v 40 a1), .d (.v 42 a2)] : List (AD KK))) (tresA (([.v 35 r0, .v 46 r1] : List (DV KK)).map (dvA CC))) := by
  intro a0 a1 a2 r0 r1 h
  refine DnF_by (F := check_Eval_cf Xr) CC_ok (SsOk_c ?_ (SsOk_c check_Find_ok (SsOk_c value_Do_ok (SsOk_c value_Not_ok (SsOk_c value_Neg_ok (SsOk_c value_OfBool_ok SsOk_n)))))) t14 (A := check_Eval_an) (ps := [.v 38, .v 40, .v 42]) (rs := [35, 46]) (env := [.d (.v 38 a0), .d (.v 40 a1), .d (.v 42 a2)]) (r := [.v 35 r0, .v 46 r1]) (X := check_Eval_B Xr a0 a1 a2 r0 r1) rfl (Nat.le_of_ble_eq_true rfl) rfl (fun G hG => by simp at hG) h ?_
  · clear h r0 r1
    intro env r hF h
    obtain ⟨a0, env0, rfl, h1⟩ := appW_v h
    obtain ⟨a1, env1, rfl, h2⟩ := appW_v h1
    obtain ⟨a2, env2, rfl, h3⟩ := appW_v h2
    obtain ⟨rfl, h4⟩ := appW_n h3
    obtain ⟨r0, rr0, rfl, h5⟩ := apR_v h4
    obtain ⟨r1, rr1, rfl, h6⟩ := apR_v h5
    obtain ⟨rfl, h7⟩ := apR_n h6
    exact ⟨rfl, hX a0 a1 a2 r0 r1 h7⟩
  · kernel_rfl
set_option maxRecDepth 100000 in
theorem check_Eval_ok : SpOk Try.prog CC check_Eval_sp := by
  intro env r hF h
  obtain ⟨a0, env0, rfl, h1⟩ := appW_v h
  obtain ⟨a1, env1, rfl, h2⟩ := appW_v h1
  obtain ⟨a2, env2, rfl, h3⟩ := appW_v h2
  obtain ⟨rfl, h4⟩ := appW_n h3
  obtain ⟨r0, rr0, rfl, h5⟩ := apR_v h4
  obtain ⟨r1, rr1, rfl, h6⟩ := apR_v h5
  obtain ⟨rfl, h7⟩ := apR_n h6
  exact ⟨rfl, h7 (fun a0 a1 a2 r0 r1 =>  Pure Try.prog 14 (pencs CC [.v 38, .v 40, .v 42] ([.d (.v 38 a0), .d (.v 40 a1), .d (.v 42 a2)] : List (AD KK))) (tresA (([.v 35 r0, .v 46 r1] : List (DV KK)).map (dvA CC)))) (fun a0 a1 a2 r0 r1 h => check_Eval_okB _ (fun a0 a1 a2 r0 r1 h => h) a0 a1 a2 r0 r1 h)⟩

def law20_speaks_J1 (r0 : Bool) (x11 : Bool) : Prop :=
  x11 = r0
def law20_speaks_o (r0 : Bool) : Prop :=
  ∃ z1 : T_value_Value, (value_OfInt_o (1 : Int) z1) ∧ ∃ z2 : Int, ∃ z3 : Int, (check_Type_o (T_expr_Expr.mk (3 : Int) (7 : Int) (⟨(0 : Int), (0 : Int), ([] : Str)⟩ : T_value_Value) ([] : Str) ([] : Str) ([(T_expr_Expr.mk (2 : Int) (0 : Int) (⟨(0 : Int), (0 : Int), ([] : Str)⟩ : T_value_Value) ([] : Str) ([97] : Str) ([] : List T_expr_Expr)), (T_expr_Expr.mk (1 : Int) (0 : Int) z1 ([] : Str) ([] : Str) ([] : List T_expr_Expr))] : List T_expr_Expr)) ([(⟨([116] : Str), ([97] : Str), (3 : Int)⟩ : T_check_Field)] : List T_check_Field) false z2 z3) ∧ ∃ z4 : T_value_Value, (value_OfText_o ([120] : Str) z4) ∧ (0 ≤ (1 : Int)) ∧ ((1 : Int) < (([(T_expr_Expr.mk (2 : Int) (0 : Int) (⟨(0 : Int), (0 : Int), ([] : Str)⟩ : T_value_Value) ([] : Str) ([97] : Str) ([] : List T_expr_Expr)), (T_expr_Expr.mk (1 : Int) (0 : Int) z1 ([] : Str) ([] : Str) ([] : List T_expr_Expr))] : List T_expr_Expr).length : Int)) ∧ ∃ y5 : T_expr_Expr, (([(T_expr_Expr.mk (2 : Int) (0 : Int) (⟨(0 : Int), (0 : Int), ([] : Str)⟩ : T_value_Value) ([] : Str) ([97] : Str) ([] : List T_expr_Expr)), (T_expr_Expr.mk (1 : Int) (0 : Int) z1 ([] : Str) ([] : Str) ([] : List T_expr_Expr))] : List T_expr_Expr)[(1 : Int).toNat]? = some y5) ∧ ∃ z6 : Int, ∃ z7 : Int, (check_Type_o (T_expr_Expr.mk (3 : Int) (12 : Int) (⟨(0 : Int), (0 : Int), ([] : Str)⟩ : T_value_Value) ([] : Str) ([] : Str) (([(T_expr_Expr.mk (2 : Int) (0 : Int) (⟨(0 : Int), (0 : Int), ([] : Str)⟩ : T_value_Value) ([] : Str) ([97] : Str) ([] : List T_expr_Expr)), (T_expr_Expr.mk (1 : Int) (0 : Int) z1 ([] : Str) ([] : Str) ([] : List T_expr_Expr))] : List T_expr_Expr).set ((1 : Int).toNat) (T_expr_Expr.mk y5.Kind y5.Op z4 y5.Table y5.Name y5.L))) ([(⟨([116] : Str), ([97] : Str), (3 : Int)⟩ : T_check_Field)] : List T_check_Field) false z6 z7) ∧ ∃ z8 : T_value_Value, (value_OfText_o ([121] : Str) z8) ∧ ∃ z9 : T_value_Value, ∃ z10 : Int, (check_Eval_o (T_expr_Expr.mk (3 : Int) (12 : Int) (⟨(0 : Int), (0 : Int), ([] : Str)⟩ : T_value_Value) ([] : Str) ([] : Str) (([(T_expr_Expr.mk (2 : Int) (0 : Int) (⟨(0 : Int), (0 : Int), ([] : Str)⟩ : T_value_Value) ([] : Str) ([97] : Str) ([] : List T_expr_Expr)), (T_expr_Expr.mk (1 : Int) (0 : Int) z1 ([] : Str) ([] : Str) ([] : List T_expr_Expr))] : List T_expr_Expr).set ((1 : Int).toNat) (T_expr_Expr.mk y5.Kind y5.Op z4 y5.Table y5.Name y5.L))) ([(⟨([116] : Str), ([97] : Str), (3 : Int)⟩ : T_check_Field)] : List T_check_Field) ([z8] : List T_value_Value) z9 z10) ∧ ∀ J1 : Bool → Prop, (∀ (x11 : Bool), law20_speaks_J1 r0 x11 → J1 x11) → cnd (z3 == (5 : Int)) (cnd (z6 == (3 : Int)) (cnd (z7 == (0 : Int)) (cnd (z10 == (0 : Int)) (∃ z12 : T_value_Value, (value_OfText_o ([121, 120] : Str) z12) ∧ J1 ((z9.Kind == z12.Kind) && ((z9.N == z12.N) && ((z9.S == z12.S) && true)))) (J1 false)) (J1 false)) (J1 false)) (J1 false)
def law20_speaks_J1i (r0 : Bool) (x11 : Bool) : Prop :=
  x11 = r0
def law20_speaks_oi (r0 : Bool) : Prop :=
  ∃ z1 : T_value_Value, (value_OfInt_o (1 : Int) z1) ∧ ∃ z2 : Int, ∃ z3 : Int, (check_Type_o (T_expr_Expr.mk (3 : Int) (7 : Int) (⟨(0 : Int), (0 : Int), ([] : Str)⟩ : T_value_Value) ([] : Str) ([] : Str) ([(T_expr_Expr.mk (2 : Int) (0 : Int) (⟨(0 : Int), (0 : Int), ([] : Str)⟩ : T_value_Value) ([] : Str) ([97] : Str) ([] : List T_expr_Expr)), (T_expr_Expr.mk (1 : Int) (0 : Int) z1 ([] : Str) ([] : Str) ([] : List T_expr_Expr))] : List T_expr_Expr)) ([(⟨([116] : Str), ([97] : Str), (3 : Int)⟩ : T_check_Field)] : List T_check_Field) false z2 z3) ∧ ∃ z4 : T_value_Value, (value_OfText_o ([120] : Str) z4) ∧ (0 ≤ (1 : Int)) ∧ ((1 : Int) < (([(T_expr_Expr.mk (2 : Int) (0 : Int) (⟨(0 : Int), (0 : Int), ([] : Str)⟩ : T_value_Value) ([] : Str) ([97] : Str) ([] : List T_expr_Expr)), (T_expr_Expr.mk (1 : Int) (0 : Int) z1 ([] : Str) ([] : Str) ([] : List T_expr_Expr))] : List T_expr_Expr).length : Int)) ∧ ∃ y5 : T_expr_Expr, (([(T_expr_Expr.mk (2 : Int) (0 : Int) (⟨(0 : Int), (0 : Int), ([] : Str)⟩ : T_value_Value) ([] : Str) ([97] : Str) ([] : List T_expr_Expr)), (T_expr_Expr.mk (1 : Int) (0 : Int) z1 ([] : Str) ([] : Str) ([] : List T_expr_Expr))] : List T_expr_Expr)[(1 : Int).toNat]? = some y5) ∧ ∃ z6 : Int, ∃ z7 : Int, (check_Type_o (T_expr_Expr.mk (3 : Int) (12 : Int) (⟨(0 : Int), (0 : Int), ([] : Str)⟩ : T_value_Value) ([] : Str) ([] : Str) (([(T_expr_Expr.mk (2 : Int) (0 : Int) (⟨(0 : Int), (0 : Int), ([] : Str)⟩ : T_value_Value) ([] : Str) ([97] : Str) ([] : List T_expr_Expr)), (T_expr_Expr.mk (1 : Int) (0 : Int) z1 ([] : Str) ([] : Str) ([] : List T_expr_Expr))] : List T_expr_Expr).set ((1 : Int).toNat) (T_expr_Expr.mk y5.Kind y5.Op z4 y5.Table y5.Name y5.L))) ([(⟨([116] : Str), ([97] : Str), (3 : Int)⟩ : T_check_Field)] : List T_check_Field) false z6 z7) ∧ ∃ z8 : T_value_Value, (value_OfText_o ([121] : Str) z8) ∧ ∃ z9 : T_value_Value, ∃ z10 : Int, (check_Eval_o (T_expr_Expr.mk (3 : Int) (12 : Int) (⟨(0 : Int), (0 : Int), ([] : Str)⟩ : T_value_Value) ([] : Str) ([] : Str) (([(T_expr_Expr.mk (2 : Int) (0 : Int) (⟨(0 : Int), (0 : Int), ([] : Str)⟩ : T_value_Value) ([] : Str) ([97] : Str) ([] : List T_expr_Expr)), (T_expr_Expr.mk (1 : Int) (0 : Int) z1 ([] : Str) ([] : Str) ([] : List T_expr_Expr))] : List T_expr_Expr).set ((1 : Int).toNat) (T_expr_Expr.mk y5.Kind y5.Op z4 y5.Table y5.Name y5.L))) ([(⟨([116] : Str), ([97] : Str), (3 : Int)⟩ : T_check_Field)] : List T_check_Field) ([z8] : List T_value_Value) z9 z10) ∧ cnd (z3 == (5 : Int)) (cnd (z6 == (3 : Int)) (cnd (z7 == (0 : Int)) (cnd (z10 == (0 : Int)) (∃ z12 : T_value_Value, (value_OfText_o ([121, 120] : Str) z12) ∧ law20_speaks_J1i r0 ((z9.Kind == z12.Kind) && ((z9.N == z12.N) && ((z9.S == z12.S) && true)))) (law20_speaks_J1i r0 false)) (law20_speaks_J1i r0 false)) (law20_speaks_J1i r0 false)) (law20_speaks_J1i r0 false)
theorem law20_speaks_J1_m (r0 : Bool) {x11 : Bool} (h : law20_speaks_J1i r0 x11) : law20_speaks_J1 r0 x11 := by
  unfold law20_speaks_J1
  unfold law20_speaks_J1i at h
  exact h
theorem law20_speaks_i (r0 : Bool) (h : law20_speaks_oi r0) : law20_speaks_o r0 := by
  unfold law20_speaks_o
  unfold law20_speaks_oi at h
  obtain ⟨z1, h⟩ := h
  refine ⟨z1, ?_⟩
  obtain ⟨h0, h⟩ := h
  refine ⟨h0, ?_⟩
  obtain ⟨z2, h⟩ := h
  refine ⟨z2, ?_⟩
  obtain ⟨z3, h⟩ := h
  refine ⟨z3, ?_⟩
  obtain ⟨h0, h⟩ := h
  refine ⟨h0, ?_⟩
  obtain ⟨z4, h⟩ := h
  refine ⟨z4, ?_⟩
  obtain ⟨h0, h⟩ := h
  refine ⟨h0, ?_⟩
  obtain ⟨h0, h⟩ := h
  refine ⟨h0, ?_⟩
  obtain ⟨h0, h⟩ := h
  refine ⟨h0, ?_⟩
  obtain ⟨y5, h⟩ := h
  refine ⟨y5, ?_⟩
  obtain ⟨h0, h⟩ := h
  refine ⟨h0, ?_⟩
  obtain ⟨z6, h⟩ := h
  refine ⟨z6, ?_⟩
  obtain ⟨z7, h⟩ := h
  refine ⟨z7, ?_⟩
  obtain ⟨h0, h⟩ := h
  refine ⟨h0, ?_⟩
  obtain ⟨z8, h⟩ := h
  refine ⟨z8, ?_⟩
  obtain ⟨h0, h⟩ := h
  refine ⟨h0, ?_⟩
  obtain ⟨z9, h⟩ := h
  refine ⟨z9, ?_⟩
  obtain ⟨z10, h⟩ := h
  refine ⟨z10, ?_⟩
  obtain ⟨h0, h⟩ := h
  refine ⟨h0, ?_⟩
  intro J1 kJ1
  have hJ1 : ∀ (x11 : Bool), law20_speaks_J1i r0 x11 → J1 x11 := fun x11 q => kJ1 x11 (law20_speaks_J1_m r0 q)
  refine cnd_mono h (fun h => ?_) (fun h => ?_)
  · refine cnd_mono h (fun h => ?_) (fun h => ?_)
    · refine cnd_mono h (fun h => ?_) (fun h => ?_)
      · refine cnd_mono h (fun h => ?_) (fun h => ?_)
        · obtain ⟨z12, h⟩ := h
          refine ⟨z12, ?_⟩
          obtain ⟨h0, h⟩ := h
          refine ⟨h0, ?_⟩
          exact hJ1 _ h
        · exact hJ1 _ h
      · exact hJ1 _ h
    · exact hJ1 _ h
  · exact hJ1 _ h
noncomputable def law20_speaks_sp : Sp KK := ⟨6, [], [4], appW (K := KK) [4] [] law20_speaks_o⟩
noncomputable def law20_speaks_an : An KK := (.s .o (.s .o (.s .o (.s .o (.s .o (.s .o (.s .o (.s .o (.j ⟨[(0, .bl)], [], []⟩ .o (fun _ => .o))))))))))
noncomputable def law20_speaks_cf : Cf KK := ⟨CC, [value_OfInt_sp, check_Type_sp, value_OfText_sp, check_Eval_sp], 61⟩

set_option maxRecDepth 100000 in
theorem law20_speaks_ok : SpOk Try.prog CC law20_speaks_sp := by
  intro env r hF h
  obtain ⟨rfl, h1⟩ := appW_n h
  obtain ⟨r0, rr0, rfl, h2⟩ := apR_v h1
  obtain ⟨rfl, h3⟩ := apR_n h2
  refine ⟨rfl, DnF_by (F := law20_speaks_cf) CC_ok (SsOk_c value_OfInt_ok (SsOk_c check_Type_ok (SsOk_c value_OfText_ok (SsOk_c check_Eval_ok SsOk_n)))) t6 (A := law20_speaks_an) (ps := []) (rs := [4]) (env := []) (r := [.v 4 r0]) (X := law20_speaks_o  r0) rfl (Nat.le_of_ble_eq_true rfl) rfl hF h3 ?_⟩
  kernel_rfl

def law15_Built_L6 (x12 : Int) (Xr : (List T_law15_Part) → Int → Int → T_ref15_Expr → Int → Prop) (a0 : (List T_law15_Part)) (a2 : Int) (y2 : T_law15_Part) (x9 : Int) (x3 : Int) (x4 : Int) (x5 : Str) (x10 : Str) (x11 : Str) (r0 : T_ref15_Expr) (r1 : Int) (X6 : Int → Int → (List T_ref15_Expr) → Prop) (x13 : Int) (x14 : Int) (x15 : (List T_ref15_Expr)) : Prop :=
  cnd (decide (x14 < x12)) (∃ z16 : T_ref15_Expr, ∃ z17 : Int, (Xr a0 x13 (IntKind.i64.wrap (a2 + (1 : Int))) z16 z17) ∧ (x15.length ≤ 1000000000) ∧ X6 z17 (IntKind.i64.wrap (x14 + (1 : Int))) (x15 ++ ([(T_ref15_Expr.mk z16.Kind z16.Op (⟨z16.V.Kind, z16.V.N, z16.V.S⟩ : T_ref06_Value) z16.Table z16.Name z16.L)] : List T_ref15_Expr))) ((T_ref15_Expr.mk (IntKind.i64.wrap (y2.Kind.tmod (10 : Int))) x9 (⟨x3, x4, x5⟩ : T_ref06_Value) x10 x11 x15) = r0 ∧ x13 = r1)
def law15_Built_J5 (Xr : (List T_law15_Part) → Int → Int → T_ref15_Expr → Int → Prop) (a0 : (List T_law15_Part)) (a2 : Int) (y2 : T_law15_Part) (x9 : Int) (x3 : Int) (x4 : Int) (x5 : Str) (x10 : Str) (x11 : Str) (r0 : T_ref15_Expr) (r1 : Int) (a1 : Int) (x12 : Int) : Prop :=
  ∀ X6 : Int → Int → (List T_ref15_Expr) → Prop, (∀ (x13 : Int) (x14 : Int) (x15 : (List T_ref15_Expr)), law15_Built_L6 x12 Xr a0 a2 y2 x9 x3 x4 x5 x10 x11 r0 r1 X6 x13 x14 x15 → X6 x13 x14 x15) → X6 (IntKind.i64.wrap (a1 + (1 : Int))) (0 : Int) ([] : List T_ref15_Expr)
def law15_Built_J4 (Xr : (List T_law15_Part) → Int → Int → T_ref15_Expr → Int → Prop) (a0 : (List T_law15_Part)) (a2 : Int) (y2 : T_law15_Part) (x3 : Int) (x4 : Int) (x5 : Str) (r0 : T_ref15_Expr) (r1 : Int) (a1 : Int) (x8 : Int) (x9 : Int) (x10 : Str) (x11 : Str) : Prop :=
  ∀ J5 : Int → Prop, (∀ (x12 : Int), law15_Built_J5 Xr a0 a2 y2 x9 x3 x4 x5 x10 x11 r0 r1 a1 x12 → J5 x12) → cnd (decide ((240 : Int) ≤ y2.Kind)) (J5 (IntKind.i64.wrap (y2.Parts.tmod (4 : Int)))) (J5 x8)
def law15_Built_J8 (J4 : Int → Int → Str → Str → Prop) (x6 : Str) (x7 : Str) (y2 : T_law15_Part) (x19 : Bool) : Prop :=
  cnd x19 (J4 (0 : Int) (0 : Int) x6 x7) (J4 (IntKind.i64.wrap (y2.Parts.tmod (3 : Int))) (0 : Int) x6 x7)
def law15_Built_J7 (J4 : Int → Int → Str → Str → Prop) (x6 : Str) (x7 : Str) (y2 : T_law15_Part) (x18 : Bool) : Prop :=
  cnd x18 (J4 (1 : Int) (0 : Int) x6 x7) (cnd ((y2.Kind.tmod (10 : Int)) == (8 : Int)) (J4 (IntKind.i64.wrap (y2.Parts.tmod (2 : Int))) (IntKind.i64.wrap (y2.Op.tmod (6 : Int))) x6 x7) (∀ J8 : Bool → Prop, (∀ (x19 : Bool), law15_Built_J8 J4 x6 x7 y2 x19 → J8 x19) → cnd ((y2.Kind.tmod (10 : Int)) == (1 : Int)) (J8 ((y2.Kind.tmod (10 : Int)) == (1 : Int))) (J8 ((y2.Kind.tmod (10 : Int)) == (2 : Int)))))
def law15_Built_J3 (Xr : (List T_law15_Part) → Int → Int → T_ref15_Expr → Int → Prop) (a0 : (List T_law15_Part)) (a2 : Int) (y2 : T_law15_Part) (x3 : Int) (x4 : Int) (x5 : Str) (r0 : T_ref15_Expr) (r1 : Int) (a1 : Int) (x6 : Str) (x7 : Str) : Prop :=
  ∀ J4 : Int → Int → Str → Str → Prop, (∀ (x8 : Int) (x9 : Int) (x10 : Str) (x11 : Str), law15_Built_J4 Xr a0 a2 y2 x3 x4 x5 r0 r1 a1 x8 x9 x10 x11 → J4 x8 x9 x10 x11) → cnd ((y2.Kind.tmod (10 : Int)) == (3 : Int)) (J4 (2 : Int) (IntKind.i64.wrap (y2.Op.tmod (16 : Int))) x6 x7) (∀ J7 : Bool → Prop, (∀ (x18 : Bool), law15_Built_J7 J4 x6 x7 y2 x18 → J7 x18) → cnd ((y2.Kind.tmod (10 : Int)) == (4 : Int)) (J7 ((y2.Kind.tmod (10 : Int)) == (4 : Int))) (cnd ((y2.Kind.tmod (10 : Int)) == (5 : Int)) (J7 ((y2.Kind.tmod (10 : Int)) == (5 : Int))) (cnd ((y2.Kind.tmod (10 : Int)) == (6 : Int)) (J7 ((y2.Kind.tmod (10 : Int)) == (6 : Int))) (J7 ((y2.Kind.tmod (10 : Int)) == (7 : Int))))))
def law15_Built_J9 (y2 : T_law15_Part) (J3 : Str → Str → Prop) (x20 : Bool) : Prop :=
  cnd x20 ((0 ≤ (0 : Int) ∧ (0 : Int) ≤ (if (20 : Int) < (y2.Name.length : Int) then (20 : Int) else (y2.Name.length : Int)) ∧ (if (20 : Int) < (y2.Name.length : Int) then (20 : Int) else (y2.Name.length : Int)) ≤ (y2.Name.length : Int)) ∧ (0 ≤ (0 : Int) ∧ (0 : Int) ≤ (if (20 : Int) < (y2.Table.length : Int) then (20 : Int) else (y2.Table.length : Int)) ∧ (if (20 : Int) < (y2.Table.length : Int) then (20 : Int) else (y2.Table.length : Int)) ≤ (y2.Table.length : Int)) ∧ J3 ((y2.Table.drop (0 : Int).toNat).take ((if (20 : Int) < (y2.Table.length : Int) then (20 : Int) else (y2.Table.length : Int)).toNat - (0 : Int).toNat)) ((y2.Name.drop (0 : Int).toNat).take ((if (20 : Int) < (y2.Name.length : Int) then (20 : Int) else (y2.Name.length : Int)).toNat - (0 : Int).toNat))) (J3 ([] : Str) ([] : Str))
def law15_Built_J2 (Xr : (List T_law15_Part) → Int → Int → T_ref15_Expr → Int → Prop) (a0 : (List T_law15_Part)) (a2 : Int) (y2 : T_law15_Part) (r0 : T_ref15_Expr) (r1 : Int) (a1 : Int) (x3 : Int) (x4 : Int) (x5 : Str) : Prop :=
  ∀ J3 : Str → Str → Prop, (∀ (x6 : Str) (x7 : Str), law15_Built_J3 Xr a0 a2 y2 x3 x4 x5 r0 r1 a1 x6 x7 → J3 x6 x7) → ∀ J9 : Bool → Prop, (∀ (x20 : Bool), law15_Built_J9 y2 J3 x20 → J9 x20) → cnd ((y2.Kind.tmod (10 : Int)) == (2 : Int)) (J9 true) (J9 (decide ((250 : Int) ≤ y2.Kind)))
def law15_Built_J10 (y2 : T_law15_Part) (J2 : Int → Int → Str → Prop) (x21 : Bool) : Prop :=
  cnd x21 (cnd ((IntKind.i64.wrap (y2.Value.tmod (5 : Int))) == (1 : Int)) (J2 (IntKind.i64.wrap (y2.Value.tmod (5 : Int))) (bits .and .i64 y2.N (1 : Int)) ([] : Str)) (cnd ((IntKind.i64.wrap (y2.Value.tmod (5 : Int))) == (2 : Int)) (J2 (IntKind.i64.wrap (y2.Value.tmod (5 : Int))) y2.N ([] : Str)) (cnd ((IntKind.i64.wrap (y2.Value.tmod (5 : Int))) == (3 : Int)) ((0 ≤ (0 : Int) ∧ (0 : Int) ≤ (if (70 : Int) < (y2.Name.length : Int) then (70 : Int) else (y2.Name.length : Int)) ∧ (if (70 : Int) < (y2.Name.length : Int) then (70 : Int) else (y2.Name.length : Int)) ≤ (y2.Name.length : Int)) ∧ J2 (IntKind.i64.wrap (y2.Value.tmod (5 : Int))) (0 : Int) ((y2.Name.drop (0 : Int).toNat).take ((if (70 : Int) < (y2.Name.length : Int) then (70 : Int) else (y2.Name.length : Int)).toNat - (0 : Int).toNat))) (J2 (IntKind.i64.wrap (y2.Value.tmod (5 : Int))) (0 : Int) ([] : Str))))) (J2 (0 : Int) (0 : Int) ([] : Str))
def law15_Built_J1 (r0 : T_ref15_Expr) (a1 : Int) (r1 : Int) (a0 : (List T_law15_Part)) (Xr : (List T_law15_Part) → Int → Int → T_ref15_Expr → Int → Prop) (a2 : Int) (x1 : Bool) : Prop :=
  cnd x1 ((T_ref15_Expr.mk (1 : Int) (0 : Int) (⟨(0 : Int), (0 : Int), ([] : Str)⟩ : T_ref06_Value) ([] : Str) ([] : Str) ([] : List T_ref15_Expr)) = r0 ∧ (IntKind.i64.wrap (a1 + (1 : Int))) = r1) ((0 ≤ a1) ∧ (a1 < (a0.length : Int)) ∧ ∃ y2 : T_law15_Part, (a0[a1.toNat]? = some y2) ∧ ∀ J2 : Int → Int → Str → Prop, (∀ (x3 : Int) (x4 : Int) (x5 : Str), law15_Built_J2 Xr a0 a2 y2 r0 r1 a1 x3 x4 x5 → J2 x3 x4 x5) → ∀ J10 : Bool → Prop, (∀ (x21 : Bool), law15_Built_J10 y2 J2 x21 → J10 x21) → cnd ((y2.Kind.tmod (10 : Int)) == (1 : Int)) (J10 true) (J10 (decide ((250 : Int) ≤ y2.Kind))))
def law15_Built_B (Xr : (List T_law15_Part) → Int → Int → T_ref15_Expr → Int → Prop) (a0 : (List T_law15_Part)) (a1 : Int) (a2 : Int) (r0 : T_ref15_Expr) (r1 : Int) : Prop :=
  ∀ J1 : Bool → Prop, (∀ (x1 : Bool), law15_Built_J1 r0 a1 r1 a0 Xr a2 x1 → J1 x1) → (a0.length ≤ maxLen → cnd (decide ((a0.length : Int) ≤ a1)) (J1 true) (J1 (decide ((24 : Int) < a2))))
def law15_Built_o (a0 : (List T_law15_Part)) (a1 : Int) (a2 : Int) (r0 : T_ref15_Expr) (r1 : Int) : Prop := ∀ Xr : (List T_law15_Part) → Int → Int → T_ref15_Expr → Int → Prop, (∀ (a0 : (List T_law15_Part)) (a1 : Int) (a2 : Int) (r0 : T_ref15_Expr) (r1 : Int), law15_Built_B Xr a0 a1 a2 r0 r1 → Xr a0 a1 a2 r0 r1) → Xr a0 a1 a2 r0 r1
def law15_Built_L6i (Xr : (List T_law15_Part) → Int → Int → T_ref15_Expr → Int → Prop) (a0 : (List T_law15_Part)) (a2 : Int) (r0 : T_ref15_Expr) (r1 : Int) (x3 : Int) (x4 : Int) (x5 : Str) (x9 : Int) (x10 : Str) (x11 : Str) (x12 : Int) (y2 : T_law15_Part) (X6 : Int → Int → (List T_ref15_Expr) → Prop) (x13 : Int) (x14 : Int) (x15 : (List T_ref15_Expr)) : Prop :=
  cnd (decide (x14 < x12)) (∃ z16 : T_ref15_Expr, ∃ z17 : Int, (Xr a0 x13 (IntKind.i64.wrap (a2 + (1 : Int))) z16 z17) ∧ (x15.length ≤ 1000000000) ∧ X6 z17 (IntKind.i64.wrap (x14 + (1 : Int))) (x15 ++ ([(T_ref15_Expr.mk z16.Kind z16.Op (⟨z16.V.Kind, z16.V.N, z16.V.S⟩ : T_ref06_Value) z16.Table z16.Name z16.L)] : List T_ref15_Expr))) ((T_ref15_Expr.mk (IntKind.i64.wrap (y2.Kind.tmod (10 : Int))) x9 (⟨x3, x4, x5⟩ : T_ref06_Value) x10 x11 x15) = r0 ∧ x13 = r1)
def law15_Built_J5i (Xr : (List T_law15_Part) → Int → Int → T_ref15_Expr → Int → Prop) (a0 : (List T_law15_Part)) (a1 : Int) (a2 : Int) (r0 : T_ref15_Expr) (r1 : Int) (x3 : Int) (x4 : Int) (x5 : Str) (x9 : Int) (x10 : Str) (x11 : Str) (y2 : T_law15_Part) (x12 : Int) : Prop :=
  ∀ X6 : Int → Int → (List T_ref15_Expr) → Prop, (∀ (x13 : Int) (x14 : Int) (x15 : (List T_ref15_Expr)), law15_Built_L6i Xr a0 a2 r0 r1 x3 x4 x5 x9 x10 x11 x12 y2 X6 x13 x14 x15 → X6 x13 x14 x15) → X6 (IntKind.i64.wrap (a1 + (1 : Int))) (0 : Int) ([] : List T_ref15_Expr)
def law15_Built_J4i (Xr : (List T_law15_Part) → Int → Int → T_ref15_Expr → Int → Prop) (a0 : (List T_law15_Part)) (a1 : Int) (a2 : Int) (r0 : T_ref15_Expr) (r1 : Int) (x3 : Int) (x4 : Int) (x5 : Str) (y2 : T_law15_Part) (x8 : Int) (x9 : Int) (x10 : Str) (x11 : Str) : Prop :=
  cnd (decide ((240 : Int) ≤ y2.Kind)) (law15_Built_J5i Xr a0 a1 a2 r0 r1 x3 x4 x5 x9 x10 x11 y2 (IntKind.i64.wrap (y2.Parts.tmod (4 : Int)))) (law15_Built_J5i Xr a0 a1 a2 r0 r1 x3 x4 x5 x9 x10 x11 y2 x8)
def law15_Built_J8i (Xr : (List T_law15_Part) → Int → Int → T_ref15_Expr → Int → Prop) (a0 : (List T_law15_Part)) (a1 : Int) (a2 : Int) (r0 : T_ref15_Expr) (r1 : Int) (x3 : Int) (x4 : Int) (x5 : Str) (x6 : Str) (x7 : Str) (y2 : T_law15_Part) (x19 : Bool) : Prop :=
  cnd x19 (law15_Built_J4i Xr a0 a1 a2 r0 r1 x3 x4 x5 y2 (0 : Int) (0 : Int) x6 x7) (law15_Built_J4i Xr a0 a1 a2 r0 r1 x3 x4 x5 y2 (IntKind.i64.wrap (y2.Parts.tmod (3 : Int))) (0 : Int) x6 x7)
def law15_Built_J7i (Xr : (List T_law15_Part) → Int → Int → T_ref15_Expr → Int → Prop) (a0 : (List T_law15_Part)) (a1 : Int) (a2 : Int) (r0 : T_ref15_Expr) (r1 : Int) (x3 : Int) (x4 : Int) (x5 : Str) (x6 : Str) (x7 : Str) (y2 : T_law15_Part) (x18 : Bool) : Prop :=
  cnd x18 (law15_Built_J4i Xr a0 a1 a2 r0 r1 x3 x4 x5 y2 (1 : Int) (0 : Int) x6 x7) (cnd ((y2.Kind.tmod (10 : Int)) == (8 : Int)) (law15_Built_J4i Xr a0 a1 a2 r0 r1 x3 x4 x5 y2 (IntKind.i64.wrap (y2.Parts.tmod (2 : Int))) (IntKind.i64.wrap (y2.Op.tmod (6 : Int))) x6 x7) (cnd ((y2.Kind.tmod (10 : Int)) == (1 : Int)) (law15_Built_J8i Xr a0 a1 a2 r0 r1 x3 x4 x5 x6 x7 y2 ((y2.Kind.tmod (10 : Int)) == (1 : Int))) (law15_Built_J8i Xr a0 a1 a2 r0 r1 x3 x4 x5 x6 x7 y2 ((y2.Kind.tmod (10 : Int)) == (2 : Int)))))
def law15_Built_J3i (Xr : (List T_law15_Part) → Int → Int → T_ref15_Expr → Int → Prop) (a0 : (List T_law15_Part)) (a1 : Int) (a2 : Int) (r0 : T_ref15_Expr) (r1 : Int) (x3 : Int) (x4 : Int) (x5 : Str) (y2 : T_law15_Part) (x6 : Str) (x7 : Str) : Prop :=
  cnd ((y2.Kind.tmod (10 : Int)) == (3 : Int)) (law15_Built_J4i Xr a0 a1 a2 r0 r1 x3 x4 x5 y2 (2 : Int) (IntKind.i64.wrap (y2.Op.tmod (16 : Int))) x6 x7) (cnd ((y2.Kind.tmod (10 : Int)) == (4 : Int)) (law15_Built_J7i Xr a0 a1 a2 r0 r1 x3 x4 x5 x6 x7 y2 ((y2.Kind.tmod (10 : Int)) == (4 : Int))) (cnd ((y2.Kind.tmod (10 : Int)) == (5 : Int)) (law15_Built_J7i Xr a0 a1 a2 r0 r1 x3 x4 x5 x6 x7 y2 ((y2.Kind.tmod (10 : Int)) == (5 : Int))) (cnd ((y2.Kind.tmod (10 : Int)) == (6 : Int)) (law15_Built_J7i Xr a0 a1 a2 r0 r1 x3 x4 x5 x6 x7 y2 ((y2.Kind.tmod (10 : Int)) == (6 : Int))) (law15_Built_J7i Xr a0 a1 a2 r0 r1 x3 x4 x5 x6 x7 y2 ((y2.Kind.tmod (10 : Int)) == (7 : Int))))))
def law15_Built_J9i (Xr : (List T_law15_Part) → Int → Int → T_ref15_Expr → Int → Prop) (a0 : (List T_law15_Part)) (a1 : Int) (a2 : Int) (r0 : T_ref15_Expr) (r1 : Int) (x3 : Int) (x4 : Int) (x5 : Str) (y2 : T_law15_Part) (x20 : Bool) : Prop :=
  cnd x20 ((0 ≤ (0 : Int) ∧ (0 : Int) ≤ (if (20 : Int) < (y2.Name.length : Int) then (20 : Int) else (y2.Name.length : Int)) ∧ (if (20 : Int) < (y2.Name.length : Int) then (20 : Int) else (y2.Name.length : Int)) ≤ (y2.Name.length : Int)) ∧ (0 ≤ (0 : Int) ∧ (0 : Int) ≤ (if (20 : Int) < (y2.Table.length : Int) then (20 : Int) else (y2.Table.length : Int)) ∧ (if (20 : Int) < (y2.Table.length : Int) then (20 : Int) else (y2.Table.length : Int)) ≤ (y2.Table.length : Int)) ∧ law15_Built_J3i Xr a0 a1 a2 r0 r1 x3 x4 x5 y2 ((y2.Table.drop (0 : Int).toNat).take ((if (20 : Int) < (y2.Table.length : Int) then (20 : Int) else (y2.Table.length : Int)).toNat - (0 : Int).toNat)) ((y2.Name.drop (0 : Int).toNat).take ((if (20 : Int) < (y2.Name.length : Int) then (20 : Int) else (y2.Name.length : Int)).toNat - (0 : Int).toNat))) (law15_Built_J3i Xr a0 a1 a2 r0 r1 x3 x4 x5 y2 ([] : Str) ([] : Str))
def law15_Built_J2i (Xr : (List T_law15_Part) → Int → Int → T_ref15_Expr → Int → Prop) (a0 : (List T_law15_Part)) (a1 : Int) (a2 : Int) (r0 : T_ref15_Expr) (r1 : Int) (y2 : T_law15_Part) (x3 : Int) (x4 : Int) (x5 : Str) : Prop :=
  cnd ((y2.Kind.tmod (10 : Int)) == (2 : Int)) (law15_Built_J9i Xr a0 a1 a2 r0 r1 x3 x4 x5 y2 true) (law15_Built_J9i Xr a0 a1 a2 r0 r1 x3 x4 x5 y2 (decide ((250 : Int) ≤ y2.Kind)))
def law15_Built_J10i (Xr : (List T_law15_Part) → Int → Int → T_ref15_Expr → Int → Prop) (a0 : (List T_law15_Part)) (a1 : Int) (a2 : Int) (r0 : T_ref15_Expr) (r1 : Int) (y2 : T_law15_Part) (x21 : Bool) : Prop :=
  cnd x21 (cnd ((IntKind.i64.wrap (y2.Value.tmod (5 : Int))) == (1 : Int)) (law15_Built_J2i Xr a0 a1 a2 r0 r1 y2 (IntKind.i64.wrap (y2.Value.tmod (5 : Int))) (bits .and .i64 y2.N (1 : Int)) ([] : Str)) (cnd ((IntKind.i64.wrap (y2.Value.tmod (5 : Int))) == (2 : Int)) (law15_Built_J2i Xr a0 a1 a2 r0 r1 y2 (IntKind.i64.wrap (y2.Value.tmod (5 : Int))) y2.N ([] : Str)) (cnd ((IntKind.i64.wrap (y2.Value.tmod (5 : Int))) == (3 : Int)) ((0 ≤ (0 : Int) ∧ (0 : Int) ≤ (if (70 : Int) < (y2.Name.length : Int) then (70 : Int) else (y2.Name.length : Int)) ∧ (if (70 : Int) < (y2.Name.length : Int) then (70 : Int) else (y2.Name.length : Int)) ≤ (y2.Name.length : Int)) ∧ law15_Built_J2i Xr a0 a1 a2 r0 r1 y2 (IntKind.i64.wrap (y2.Value.tmod (5 : Int))) (0 : Int) ((y2.Name.drop (0 : Int).toNat).take ((if (70 : Int) < (y2.Name.length : Int) then (70 : Int) else (y2.Name.length : Int)).toNat - (0 : Int).toNat))) (law15_Built_J2i Xr a0 a1 a2 r0 r1 y2 (IntKind.i64.wrap (y2.Value.tmod (5 : Int))) (0 : Int) ([] : Str))))) (law15_Built_J2i Xr a0 a1 a2 r0 r1 y2 (0 : Int) (0 : Int) ([] : Str))
def law15_Built_J1i (Xr : (List T_law15_Part) → Int → Int → T_ref15_Expr → Int → Prop) (a0 : (List T_law15_Part)) (a1 : Int) (a2 : Int) (r0 : T_ref15_Expr) (r1 : Int) (x1 : Bool) : Prop :=
  cnd x1 ((T_ref15_Expr.mk (1 : Int) (0 : Int) (⟨(0 : Int), (0 : Int), ([] : Str)⟩ : T_ref06_Value) ([] : Str) ([] : Str) ([] : List T_ref15_Expr)) = r0 ∧ (IntKind.i64.wrap (a1 + (1 : Int))) = r1) ((0 ≤ a1) ∧ (a1 < (a0.length : Int)) ∧ ∃ y2 : T_law15_Part, (a0[a1.toNat]? = some y2) ∧ cnd ((y2.Kind.tmod (10 : Int)) == (1 : Int)) (law15_Built_J10i Xr a0 a1 a2 r0 r1 y2 true) (law15_Built_J10i Xr a0 a1 a2 r0 r1 y2 (decide ((250 : Int) ≤ y2.Kind))))
def law15_Built_Bi (Xr : (List T_law15_Part) → Int → Int → T_ref15_Expr → Int → Prop) (a0 : (List T_law15_Part)) (a1 : Int) (a2 : Int) (r0 : T_ref15_Expr) (r1 : Int) : Prop :=
  (a0.length ≤ maxLen → cnd (decide ((a0.length : Int) ≤ a1)) (law15_Built_J1i Xr a0 a1 a2 r0 r1 true) (law15_Built_J1i Xr a0 a1 a2 r0 r1 (decide ((24 : Int) < a2))))
theorem law15_Built_L6_m (Xr : (List T_law15_Part) → Int → Int → T_ref15_Expr → Int → Prop) (a0 : (List T_law15_Part)) (a2 : Int) (r0 : T_ref15_Expr) (r1 : Int) (x3 : Int) (x4 : Int) (x5 : Str) (x9 : Int) (x10 : Str) (x11 : Str) (x12 : Int) (y2 : T_law15_Part) {X6 : Int → Int → (List T_ref15_Expr) → Prop} {x13 : Int} {x14 : Int} {x15 : (List T_ref15_Expr)} (h : law15_Built_L6i Xr a0 a2 r0 r1 x3 x4 x5 x9 x10 x11 x12 y2 X6 x13 x14 x15) : law15_Built_L6 x12 Xr a0 a2 y2 x9 x3 x4 x5 x10 x11 r0 r1 X6 x13 x14 x15 := by
  unfold law15_Built_L6
  unfold law15_Built_L6i at h
  exact h
theorem law15_Built_J5_m (Xr : (List T_law15_Part) → Int → Int → T_ref15_Expr → Int → Prop) (a0 : (List T_law15_Part)) (a1 : Int) (a2 : Int) (r0 : T_ref15_Expr) (r1 : Int) (x3 : Int) (x4 : Int) (x5 : Str) (x9 : Int) (x10 : Str) (x11 : Str) (y2 : T_law15_Part) {x12 : Int} (h : law15_Built_J5i Xr a0 a1 a2 r0 r1 x3 x4 x5 x9 x10 x11 y2 x12) : law15_Built_J5 Xr a0 a2 y2 x9 x3 x4 x5 x10 x11 r0 r1 a1 x12 := by
  unfold law15_Built_J5
  unfold law15_Built_J5i at h
  intro X6 k
  exact h X6 (fun x13 x14 x15 q => k x13 x14 x15 (law15_Built_L6_m Xr a0 a2 r0 r1 x3 x4 x5 x9 x10 x11 x12 y2 q))
theorem law15_Built_J4_m (Xr : (List T_law15_Part) → Int → Int → T_ref15_Expr → Int → Prop) (a0 : (List T_law15_Part)) (a1 : Int) (a2 : Int) (r0 : T_ref15_Expr) (r1 : Int) (x3 : Int) (x4 : Int) (x5 : Str) (y2 : T_law15_Part) {x8 : Int} {x9 : Int} {x10 : Str} {x11 : Str} (h : law15_Built_J4i Xr a0 a1 a2 r0 r1 x3 x4 x5 y2 x8 x9 x10 x11) : law15_Built_J4 Xr a0 a2 y2 x3 x4 x5 r0 r1 a1 x8 x9 x10 x11 := by
  unfold law15_Built_J4
  unfold law15_Built_J4i at h
  intro J5 kJ5
  have hJ5 : ∀ (x12 : Int), law15_Built_J5i Xr a0 a1 a2 r0 r1 x3 x4 x5 x9 x10 x11 y2 x12 → J5 x12 := fun x12 q => kJ5 x12 (law15_Built_J5_m Xr a0 a1 a2 r0 r1 x3 x4 x5 x9 x10 x11 y2 q)
  refine cnd_mono h (fun h => ?_) (fun h => ?_)
  · exact hJ5 _ h
  · exact hJ5 _ h
theorem law15_Built_J8_m (J4 : Int → Int → Str → Str → Prop) (Xr : (List T_law15_Part) → Int → Int → T_ref15_Expr → Int → Prop) (a0 : (List T_law15_Part)) (a1 : Int) (a2 : Int) (r0 : T_ref15_Expr) (r1 : Int) (x3 : Int) (x4 : Int) (x5 : Str) (x6 : Str) (x7 : Str) (y2 : T_law15_Part) (hJ4 : ∀ (x8 : Int) (x9 : Int) (x10 : Str) (x11 : Str), law15_Built_J4i Xr a0 a1 a2 r0 r1 x3 x4 x5 y2 x8 x9 x10 x11 → J4 x8 x9 x10 x11) {x19 : Bool} (h : law15_Built_J8i Xr a0 a1 a2 r0 r1 x3 x4 x5 x6 x7 y2 x19) : law15_Built_J8 J4 x6 x7 y2 x19 := by
  unfold law15_Built_J8
  unfold law15_Built_J8i at h
  refine cnd_mono h (fun h => ?_) (fun h => ?_)
  · exact hJ4 _ _ _ _ h
  · exact hJ4 _ _ _ _ h
theorem law15_Built_J7_m (J4 : Int → Int → Str → Str → Prop) (Xr : (List T_law15_Part) → Int → Int → T_ref15_Expr → Int → Prop) (a0 : (List T_law15_Part)) (a1 : Int) (a2 : Int) (r0 : T_ref15_Expr) (r1 : Int) (x3 : Int) (x4 : Int) (x5 : Str) (x6 : Str) (x7 : Str) (y2 : T_law15_Part) (hJ4 : ∀ (x8 : Int) (x9 : Int) (x10 : Str) (x11 : Str), law15_Built_J4i Xr a0 a1 a2 r0 r1 x3 x4 x5 y2 x8 x9 x10 x11 → J4 x8 x9 x10 x11) {x18 : Bool} (h : law15_Built_J7i Xr a0 a1 a2 r0 r1 x3 x4 x5 x6 x7 y2 x18) : law15_Built_J7 J4 x6 x7 y2 x18 := by
  unfold law15_Built_J7
  unfold law15_Built_J7i at h
  refine cnd_mono h (fun h => ?_) (fun h => ?_)
  · exact hJ4 _ _ _ _ h
  · refine cnd_mono h (fun h => ?_) (fun h => ?_)
    · exact hJ4 _ _ _ _ h
    · intro J8 kJ8
      have hJ8 : ∀ (x19 : Bool), law15_Built_J8i Xr a0 a1 a2 r0 r1 x3 x4 x5 x6 x7 y2 x19 → J8 x19 := fun x19 q => kJ8 x19 (law15_Built_J8_m J4 Xr a0 a1 a2 r0 r1 x3 x4 x5 x6 x7 y2 hJ4 q)
      refine cnd_mono h (fun h => ?_) (fun h => ?_)
      · exact hJ8 _ h
      · exact hJ8 _ h
theorem law15_Built_J3_m (Xr : (List T_law15_Part) → Int → Int → T_ref15_Expr → Int → Prop) (a0 : (List T_law15_Part)) (a1 : Int) (a2 : Int) (r0 : T_ref15_Expr) (r1 : Int) (x3 : Int) (x4 : Int) (x5 : Str) (y2 : T_law15_Part) {x6 : Str} {x7 : Str} (h : law15_Built_J3i Xr a0 a1 a2 r0 r1 x3 x4 x5 y2 x6 x7) : law15_Built_J3 Xr a0 a2 y2 x3 x4 x5 r0 r1 a1 x6 x7 := by
  unfold law15_Built_J3
  unfold law15_Built_J3i at h
  intro J4 kJ4
  have hJ4 : ∀ (x8 : Int) (x9 : Int) (x10 : Str) (x11 : Str), law15_Built_J4i Xr a0 a1 a2 r0 r1 x3 x4 x5 y2 x8 x9 x10 x11 → J4 x8 x9 x10 x11 := fun x8 x9 x10 x11 q => kJ4 x8 x9 x10 x11 (law15_Built_J4_m Xr a0 a1 a2 r0 r1 x3 x4 x5 y2 q)
  refine cnd_mono h (fun h => ?_) (fun h => ?_)
  · exact hJ4 _ _ _ _ h
  · intro J7 kJ7
    have hJ7 : ∀ (x18 : Bool), law15_Built_J7i Xr a0 a1 a2 r0 r1 x3 x4 x5 x6 x7 y2 x18 → J7 x18 := fun x18 q => kJ7 x18 (law15_Built_J7_m J4 Xr a0 a1 a2 r0 r1 x3 x4 x5 x6 x7 y2 hJ4 q)
    refine cnd_mono h (fun h => ?_) (fun h => ?_)
    · exact hJ7 _ h
    · refine cnd_mono h (fun h => ?_) (fun h => ?_)
      · exact hJ7 _ h
      · refine cnd_mono h (fun h => ?_) (fun h => ?_)
        · exact hJ7 _ h
        · exact hJ7 _ h
theorem law15_Built_J9_m (J3 : Str → Str → Prop) (Xr : (List T_law15_Part) → Int → Int → T_ref15_Expr → Int → Prop) (a0 : (List T_law15_Part)) (a1 : Int) (a2 : Int) (r0 : T_ref15_Expr) (r1 : Int) (x3 : Int) (x4 : Int) (x5 : Str) (y2 : T_law15_Part) (hJ3 : ∀ (x6 : Str) (x7 : Str), law15_Built_J3i Xr a0 a1 a2 r0 r1 x3 x4 x5 y2 x6 x7 → J3 x6 x7) {x20 : Bool} (h : law15_Built_J9i Xr a0 a1 a2 r0 r1 x3 x4 x5 y2 x20) : law15_Built_J9 y2 J3 x20 := by
  unfold law15_Built_J9
  unfold law15_Built_J9i at h
  refine cnd_mono h (fun h => ?_) (fun h => ?_)
  · obtain ⟨h0, h⟩ := h
    refine ⟨h0, ?_⟩
    obtain ⟨h0, h⟩ := h
    refine ⟨h0, ?_⟩
    exact hJ3 _ _ h
  · exact hJ3 _ _ h
theorem law15_Built_J2_m (Xr : (List T_law15_Part) → Int → Int → T_ref15_Expr → Int → Prop) (a0 : (List T_law15_Part)) (a1 : Int) (a2 : Int) (r0 : T_ref15_Expr) (r1 : Int) (y2 : T_law15_Part) {x3 : Int} {x4 : Int} {x5 : Str} (h : law15_Built_J2i Xr a0 a1 a2 r0 r1 y2 x3 x4 x5) : law15_Built_J2 Xr a0 a2 y2 r0 r1 a1 x3 x4 x5 := by
  unfold law15_Built_J2
  unfold law15_Built_J2i at h
  intro J3 kJ3
  have hJ3 : ∀ (x6 : Str) (x7 : Str), law15_Built_J3i Xr a0 a1 a2 r0 r1 x3 x4 x5 y2 x6 x7 → J3 x6 x7 := fun x6 x7 q => kJ3 x6 x7 (law15_Built_J3_m Xr a0 a1 a2 r0 r1 x3 x4 x5 y2 q)
  intro J9 kJ9
  have hJ9 : ∀ (x20 : Bool), law15_Built_J9i Xr a0 a1 a2 r0 r1 x3 x4 x5 y2 x20 → J9 x20 := fun x20 q => kJ9 x20 (law15_Built_J9_m J3 Xr a0 a1 a2 r0 r1 x3 x4 x5 y2 hJ3 q)
  refine cnd_mono h (fun h => ?_) (fun h => ?_)
  · exact hJ9 _ h
  · exact hJ9 _ h
theorem law15_Built_J10_m (J2 : Int → Int → Str → Prop) (Xr : (List T_law15_Part) → Int → Int → T_ref15_Expr → Int → Prop) (a0 : (List T_law15_Part)) (a1 : Int) (a2 : Int) (r0 : T_ref15_Expr) (r1 : Int) (y2 : T_law15_Part) (hJ2 : ∀ (x3 : Int) (x4 : Int) (x5 : Str), law15_Built_J2i Xr a0 a1 a2 r0 r1 y2 x3 x4 x5 → J2 x3 x4 x5) {x21 : Bool} (h : law15_Built_J10i Xr a0 a1 a2 r0 r1 y2 x21) : law15_Built_J10 y2 J2 x21 := by
  unfold law15_Built_J10
  unfold law15_Built_J10i at h
  refine cnd_mono h (fun h => ?_) (fun h => ?_)
  · refine cnd_mono h (fun h => ?_) (fun h => ?_)
    · exact hJ2 _ _ _ h
    · refine cnd_mono h (fun h => ?_) (fun h => ?_)
      · exact hJ2 _ _ _ h
      · refine cnd_mono h (fun h => ?_) (fun h => ?_)
        · obtain ⟨h0, h⟩ := h
          refine ⟨h0, ?_⟩
          exact hJ2 _ _ _ h
        · exact hJ2 _ _ _ h
  · exact hJ2 _ _ _ h
theorem law15_Built_J1_m (Xr : (List T_law15_Part) → Int → Int → T_ref15_Expr → Int → Prop) (a0 : (List T_law15_Part)) (a1 : Int) (a2 : Int) (r0 : T_ref15_Expr) (r1 : Int) {x1 : Bool} (h : law15_Built_J1i Xr a0 a1 a2 r0 r1 x1) : law15_Built_J1 r0 a1 r1 a0 Xr a2 x1 := by
  unfold law15_Built_J1
  unfold law15_Built_J1i at h
  refine cnd_mono h (fun h => ?_) (fun h => ?_)
  · exact h
  · obtain ⟨h0, h⟩ := h
    refine ⟨h0, ?_⟩
    obtain ⟨h0, h⟩ := h
    refine ⟨h0, ?_⟩
    obtain ⟨y2, h⟩ := h
    refine ⟨y2, ?_⟩
    obtain ⟨h0, h⟩ := h
    refine ⟨h0, ?_⟩
    intro J2 kJ2
    have hJ2 : ∀ (x3 : Int) (x4 : Int) (x5 : Str), law15_Built_J2i Xr a0 a1 a2 r0 r1 y2 x3 x4 x5 → J2 x3 x4 x5 := fun x3 x4 x5 q => kJ2 x3 x4 x5 (law15_Built_J2_m Xr a0 a1 a2 r0 r1 y2 q)
    intro J10 kJ10
    have hJ10 : ∀ (x21 : Bool), law15_Built_J10i Xr a0 a1 a2 r0 r1 y2 x21 → J10 x21 := fun x21 q => kJ10 x21 (law15_Built_J10_m J2 Xr a0 a1 a2 r0 r1 y2 hJ2 q)
    refine cnd_mono h (fun h => ?_) (fun h => ?_)
    · exact hJ10 _ h
    · exact hJ10 _ h
theorem law15_Built_Bm (Xr : (List T_law15_Part) → Int → Int → T_ref15_Expr → Int → Prop) (a0 : (List T_law15_Part)) (a1 : Int) (a2 : Int) (r0 : T_ref15_Expr) (r1 : Int) (h : law15_Built_Bi Xr a0 a1 a2 r0 r1) : law15_Built_B Xr a0 a1 a2 r0 r1 := by
  unfold law15_Built_B
  unfold law15_Built_Bi at h
  intro J1 kJ1
  have hJ1 : ∀ (x1 : Bool), law15_Built_J1i Xr a0 a1 a2 r0 r1 x1 → J1 x1 := fun x1 q => kJ1 x1 (law15_Built_J1_m Xr a0 a1 a2 r0 r1 q)
  intro c
  replace h := h c
  refine cnd_mono h (fun h => ?_) (fun h => ?_)
  · exact hJ1 _ h
  · exact hJ1 _ h
theorem law15_Built_i (a0 : (List T_law15_Part)) (a1 : Int) (a2 : Int) (r0 : T_ref15_Expr) (r1 : Int) (h : ∀ Xr : (List T_law15_Part) → Int → Int → T_ref15_Expr → Int → Prop, (∀ (a0 : (List T_law15_Part)) (a1 : Int) (a2 : Int) (r0 : T_ref15_Expr) (r1 : Int), law15_Built_Bi Xr a0 a1 a2 r0 r1 → Xr a0 a1 a2 r0 r1) → Xr a0 a1 a2 r0 r1) : law15_Built_o a0 a1 a2 r0 r1 := fun Xr k => h Xr fun a0 a1 a2 r0 r1 q => k a0 a1 a2 r0 r1 (law15_Built_Bm Xr a0 a1 a2 r0 r1 q)
noncomputable def law15_Built_sp : Sp KK := ⟨7, [.v 22, .v 3, .v 3], [29, 3], appW (K := KK) [29, 3] [.v 22, .v 3, .v 3] law15_Built_o⟩
noncomputable def law15_Built_an : An KK := (.s .o (.s (.j ⟨[(0, .kp 12), (1, .kp 13), (2, .kp 14), (6, .px 6 0), (21, .bl)], [(6, 29, [.kp 15, .kp 16, .kp 17, .kp 18, .kp 19, .kp 20, .kp 21, .kp 22])], []⟩ .o (fun _ => (.c (.s .o .o) .o))) (.s .o (.s .o (.s .o (.j ⟨[(0, .kp 12), (2, .kp 14), (6, .px 6 0), (8, .px 8 0), (9, .px 9 0), (10, .kp 23)], [(6, 29, [.kp 15, .kp 16, .kp 17, .kp 18, .kp 19, .kp 20, .kp 21, .kp 22]), (8, 109, [.kp 24, .kp 25, .kp 26, .kp 27, .kp 28, .kp 29, .kp 30]), (9, 29, [.kp 31, .kp 32, .it .i64, .it .i64, .st, .kp 36, .kp 37, .kp 38])], []⟩ (.j ⟨[(0, .kp 12), (2, .kp 14), (6, .px 6 0), (8, .px 8 0), (9, .px 9 0), (10, .kp 23), (44, .bl)], [(6, 29, [.kp 15, .kp 16, .kp 17, .kp 18, .kp 19, .kp 20, .kp 21, .kp 22]), (8, 109, [.kp 24, .kp 25, .kp 26, .kp 27, .kp 28, .kp 29, .kp 30]), (9, 29, [.kp 31, .kp 32, .kp 64, .kp 65, .kp 66, .kp 36, .kp 37, .kp 38])], []⟩ .o (fun _ => (.c (.s .o (.s .o (.b (.s .o (.c .o (.s .o (.c .o (.s .o (.c .o .o))))))))) .o))) (fun _ => (.j ⟨[(0, .kp 12), (2, .kp 14), (6, .px 6 0), (8, .px 8 0), (9, .px 9 0), (10, .kp 23)], [(6, 29, [.kp 15, .kp 16, .kp 17, .kp 18, .kp 19, .kp 20, .kp 21, .kp 22]), (8, 109, [.kp 24, .kp 25, .kp 26, .kp 27, .kp 28, .kp 29, .kp 30]), (9, 29, [.kp 31, .kp 32, .kp 42, .kp 43, .kp 44, .st, .st, .kp 38])], []⟩ (.j ⟨[(0, .kp 12), (2, .kp 14), (6, .px 6 0), (8, .px 8 0), (9, .px 9 0), (10, .kp 23), (86, .bl)], [(6, 29, [.kp 15, .kp 16, .kp 17, .kp 18, .kp 19, .kp 20, .kp 21, .kp 22]), (8, 109, [.kp 24, .kp 25, .kp 26, .kp 27, .kp 28, .kp 29, .kp 30]), (9, 29, [.kp 31, .kp 32, .kp 42, .kp 43, .kp 44, .kp 36, .kp 37, .kp 38])], []⟩ .o (fun _ => (.c .o .o))) (fun _ => (.s .o (.j ⟨[(0, .kp 12), (2, .kp 14), (6, .px 6 0), (8, .px 8 0), (9, .px 9 0), (10, .kp 23), (11, .it .i64)], [(6, 29, [.kp 15, .kp 16, .kp 17, .kp 18, .kp 19, .kp 20, .kp 21, .kp 22]), (8, 109, [.kp 24, .kp 25, .kp 26, .kp 27, .kp 28, .kp 29, .kp 30]), (9, 29, [.kp 31, .it .i64, .kp 42, .kp 43, .kp 44, .st, .st, .kp 38])], []⟩ (.s .o (.b (.s .o (.c .o (.j ⟨[(0, .kp 12), (2, .kp 14), (6, .px 6 0), (8, .px 8 0), (9, .px 9 0), (10, .kp 23), (11, .kp 60), (109, .kp 61), (117, .bl)], [(6, 29, [.kp 15, .kp 16, .kp 17, .kp 18, .kp 19, .kp 20, .kp 21, .kp 22]), (8, 109, [.kp 24, .kp 25, .kp 26, .kp 27, .kp 28, .kp 29, .kp 30]), (9, 29, [.kp 31, .kp 32, .kp 42, .kp 43, .kp 44, .kp 62, .kp 63, .kp 38])], []⟩ (.s .o (.c .o (.s .o (.c .o (.s .o (.c .o .o)))))) (fun _ => (.c .o (.s .o (.c (.s .o .o) (.j ⟨[(0, .kp 12), (2, .kp 14), (6, .px 6 0), (8, .px 8 0), (9, .px 9 0), (10, .kp 23), (11, .kp 60), (133, .bl)], [(6, 29, [.kp 15, .kp 16, .kp 17, .kp 18, .kp 19, .kp 20, .kp 21, .kp 22]), (8, 109, [.kp 24, .kp 25, .kp 26, .kp 27, .kp 28, .kp 29, .kp 30]), (9, 29, [.kp 31, .kp 32, .kp 42, .kp 43, .kp 44, .kp 62, .kp 63, .kp 38])], []⟩ (.s .o (.c .o .o)) (fun _ => (.c .o .o)))))))))))) (fun _ => (.j ⟨[(0, .kp 12), (2, .kp 14), (6, .px 6 0), (9, .px 9 0), (10, .kp 23), (11, .it .i64)], [(6, 29, [.kp 15, .kp 16, .kp 17, .kp 18, .kp 19, .kp 20, .kp 21, .kp 22]), (9, 29, [.kp 31, .kp 53, .kp 42, .kp 43, .kp 44, .kp 54, .kp 55, .kp 38])], []⟩ (.s .o (.c .o .o)) (fun _ => (.s (.s .o (.b (.l ⟨[(0, .kp 12), (2, .kp 14), (6, .px 6 0), (9, .px 9 0), (10, .it .i64), (11, .kp 58), (12, .it .i64)], [(6, 29, [.kp 15, .kp 16, .kp 17, .kp 18, .kp 19, .kp 20, .kp 21, .kp 22]), (9, 29, [.kp 31, .kp 53, .kp 42, .kp 43, .kp 44, .kp 54, .kp 55, .row 160])], [(160, 29)]⟩ (fun _ => (.s (.s .o (.c .o .o)) (.s (.b (.s .o (.s .o .o))) .o)))))) (.s .o .o))))))))))))))))
noncomputable def law15_Built_cf (Xr : WTy KK [29, 3] [.v 22, .v 3, .v 3]) : Cf KK := ⟨CC, [⟨7, [.v 22, .v 3, .v 3], [29, 3], appW (K := KK) [29, 3] [.v 22, .v 3, .v 3] Xr⟩], 164⟩

set_option maxRecDepth 100000 in
theorem law15_Built_okB (Xr : (List T_law15_Part) → Int → Int → T_ref15_Expr → Int → Prop) (hX : ∀ (a0 : (List T_law15_Part)) (a1 : Int) (a2 : Int) (r0 : T_ref15_Expr) (r1 : Int), Xr a0 a1 a2 r0 r1 → Pure Try.prog 7 (pencs CC [.v 22, .v 3, .v 3] ([.d (.v 22 a0), .d (.v 3 a1), .d (.v 3 a2)] : List (AD KK))) (tresA (([.v 29 r0, .v 3 r1] : List (DV KK)).map (dvA CC)))) : ∀ (a0 : (List T_law15_Part)) (a1 : Int) (a2 : Int) (r0 : T_ref15_Expr) (r1 : Int), law15_Built_B Xr a0 a1 a2 r0 r1 → Pure Try.prog 7 (pencs CC [.v 22, .v 3, .v 3] ([.d (.v 22 a0), .d (.v 3 a1), .d (.v 3 a2)] : List (AD KK))) (tresA (([.v 29 r0, .v 3 r1] : List (DV KK)).map (dvA CC))) := by
  intro a0 a1 a2 r0 r1 h
  refine DnF_by (F := law15_Built_cf Xr) CC_ok (SsOk_c ?_ SsOk_n) t7 (A := law15_Built_an) (ps := [.v 22, .v 3, .v 3]) (rs := [29, 3]) (env := [.d (.v 22 a0), .d (.v 3 a1), .d (.v 3 a2)]) (r := [.v 29 r0, .v 3 r1]) (X := law15_Built_B Xr a0 a1 a2 r0 r1) rfl (Nat.le_of_ble_eq_true rfl) rfl (fun G hG => by simp at hG) h ?_
  · clear h r0 r1
    intro env r hF h
    obtain ⟨a0, env0, rfl, h1⟩ := appW_v h
    obtain ⟨a1, env1, rfl, h2⟩ := appW_v h1
    obtain ⟨a2, env2, rfl, h3⟩ := appW_v h2
    obtain ⟨rfl, h4⟩ := appW_n h3
    obtain ⟨r0, rr0, rfl, h5⟩ := apR_v h4
    obtain ⟨r1, rr1, rfl, h6⟩ := apR_v h5
    obtain ⟨rfl, h7⟩ := apR_n h6
    exact ⟨rfl, hX a0 a1 a2 r0 r1 h7⟩
  · kernel_rfl
set_option maxRecDepth 100000 in
theorem law15_Built_ok : SpOk Try.prog CC law15_Built_sp := by
  intro env r hF h
  obtain ⟨a0, env0, rfl, h1⟩ := appW_v h
  obtain ⟨a1, env1, rfl, h2⟩ := appW_v h1
  obtain ⟨a2, env2, rfl, h3⟩ := appW_v h2
  obtain ⟨rfl, h4⟩ := appW_n h3
  obtain ⟨r0, rr0, rfl, h5⟩ := apR_v h4
  obtain ⟨r1, rr1, rfl, h6⟩ := apR_v h5
  obtain ⟨rfl, h7⟩ := apR_n h6
  exact ⟨rfl, h7 (fun a0 a1 a2 r0 r1 =>  Pure Try.prog 7 (pencs CC [.v 22, .v 3, .v 3] ([.d (.v 22 a0), .d (.v 3 a1), .d (.v 3 a2)] : List (AD KK))) (tresA (([.v 29 r0, .v 3 r1] : List (DV KK)).map (dvA CC)))) (fun a0 a1 a2 r0 r1 h => law15_Built_okB _ (fun a0 a1 a2 r0 r1 h => h) a0 a1 a2 r0 r1 h)⟩

def ref15_Depth_L1 (a0 : T_ref15_Expr) (Xr : T_ref15_Expr → Int → Prop) (r0 : Int) (X1 : Int → Int → Prop) (x1 : Int) (x2 : Int) : Prop :=
  (a0.L.length ≤ maxLen → cnd (decide (x2 < (a0.L.length : Int))) ((0 ≤ x2) ∧ (x2 < (a0.L.length : Int)) ∧ ∃ y3 : T_ref15_Expr, (a0.L[x2.toNat]? = some y3) ∧ ∃ z4 : Int, (Xr (T_ref15_Expr.mk y3.Kind y3.Op (⟨y3.V.Kind, y3.V.N, y3.V.S⟩ : T_ref06_Value) y3.Table y3.Name y3.L) z4) ∧ cnd (decide (x1 ≤ z4)) (X1 (IntKind.i64.wrap (z4 + (1 : Int))) (IntKind.i64.wrap (x2 + (1 : Int)))) (X1 x1 (IntKind.i64.wrap (x2 + (1 : Int))))) (x1 = r0))
def ref15_Depth_B (Xr : T_ref15_Expr → Int → Prop) (a0 : T_ref15_Expr) (r0 : Int) : Prop :=
  ∀ X1 : Int → Int → Prop, (∀ (x1 : Int) (x2 : Int), ref15_Depth_L1 a0 Xr r0 X1 x1 x2 → X1 x1 x2) → X1 (1 : Int) (0 : Int)
def ref15_Depth_o (a0 : T_ref15_Expr) (r0 : Int) : Prop := ∀ Xr : T_ref15_Expr → Int → Prop, (∀ (a0 : T_ref15_Expr) (r0 : Int), ref15_Depth_B Xr a0 r0 → Xr a0 r0) → Xr a0 r0
def ref15_Depth_L1i (Xr : T_ref15_Expr → Int → Prop) (a0 : T_ref15_Expr) (r0 : Int) (X1 : Int → Int → Prop) (x1 : Int) (x2 : Int) : Prop :=
  (a0.L.length ≤ maxLen → cnd (decide (x2 < (a0.L.length : Int))) ((0 ≤ x2) ∧ (x2 < (a0.L.length : Int)) ∧ ∃ y3 : T_ref15_Expr, (a0.L[x2.toNat]? = some y3) ∧ ∃ z4 : Int, (Xr (T_ref15_Expr.mk y3.Kind y3.Op (⟨y3.V.Kind, y3.V.N, y3.V.S⟩ : T_ref06_Value) y3.Table y3.Name y3.L) z4) ∧ cnd (decide (x1 ≤ z4)) (X1 (IntKind.i64.wrap (z4 + (1 : Int))) (IntKind.i64.wrap (x2 + (1 : Int)))) (X1 x1 (IntKind.i64.wrap (x2 + (1 : Int))))) (x1 = r0))
def ref15_Depth_Bi (Xr : T_ref15_Expr → Int → Prop) (a0 : T_ref15_Expr) (r0 : Int) : Prop :=
  ∀ X1 : Int → Int → Prop, (∀ (x1 : Int) (x2 : Int), ref15_Depth_L1i Xr a0 r0 X1 x1 x2 → X1 x1 x2) → X1 (1 : Int) (0 : Int)
theorem ref15_Depth_L1_m (Xr : T_ref15_Expr → Int → Prop) (a0 : T_ref15_Expr) (r0 : Int) {X1 : Int → Int → Prop} {x1 : Int} {x2 : Int} (h : ref15_Depth_L1i Xr a0 r0 X1 x1 x2) : ref15_Depth_L1 a0 Xr r0 X1 x1 x2 := by
  unfold ref15_Depth_L1
  unfold ref15_Depth_L1i at h
  exact h
theorem ref15_Depth_Bm (Xr : T_ref15_Expr → Int → Prop) (a0 : T_ref15_Expr) (r0 : Int) (h : ref15_Depth_Bi Xr a0 r0) : ref15_Depth_B Xr a0 r0 := by
  unfold ref15_Depth_B
  unfold ref15_Depth_Bi at h
  intro X1 k
  exact h X1 (fun x1 x2 q => k x1 x2 (ref15_Depth_L1_m Xr a0 r0 q))
theorem ref15_Depth_i (a0 : T_ref15_Expr) (r0 : Int) (h : ∀ Xr : T_ref15_Expr → Int → Prop, (∀ (a0 : T_ref15_Expr) (r0 : Int), ref15_Depth_Bi Xr a0 r0 → Xr a0 r0) → Xr a0 r0) : ref15_Depth_o a0 r0 := fun Xr k => h Xr fun a0 r0 q => k a0 r0 (ref15_Depth_Bm Xr a0 r0 q)
noncomputable def ref15_Depth_sp : Sp KK := ⟨9, [.v 29], [3], appW (K := KK) [3] [.v 29] ref15_Depth_o⟩
noncomputable def ref15_Depth_an : An KK := (.s .o (.s .o (.s (.s .o (.b (.l ⟨[(1, .px 1 0), (3, .it .i64), (4, .it .i64)], [(1, 29, [.kp 13, .kp 14, .kp 15, .kp 16, .kp 17, .kp 18, .kp 19, .kp 20])], []⟩ (fun _ => (.s (.s .o (.c .o .o)) (.s (.b (.s .o (.s .o (.c .o .o)))) .o)))))) (.s .o .o))))
noncomputable def ref15_Depth_cf (Xr : WTy KK [3] [.v 29]) : Cf KK := ⟨CC, [⟨9, [.v 29], [3], appW (K := KK) [3] [.v 29] Xr⟩], 25⟩

set_option maxRecDepth 100000 in
theorem ref15_Depth_okB (Xr : T_ref15_Expr → Int → Prop) (hX : ∀ (a0 : T_ref15_Expr) (r0 : Int), Xr a0 r0 → Pure Try.prog 9 (pencs CC [.v 29] ([.d (.v 29 a0)] : List (AD KK))) (tresA (([.v 3 r0] : List (DV KK)).map (dvA CC)))) : ∀ (a0 : T_ref15_Expr) (r0 : Int), ref15_Depth_B Xr a0 r0 → Pure Try.prog 9 (pencs CC [.v 29] ([.d (.v 29 a0)] : List (AD KK))) (tresA (([.v 3 r0] : List (DV KK)).map (dvA CC))) := by
  intro a0 r0 h
  refine DnF_by (F := ref15_Depth_cf Xr) CC_ok (SsOk_c ?_ SsOk_n) t9 (A := ref15_Depth_an) (ps := [.v 29]) (rs := [3]) (env := [.d (.v 29 a0)]) (r := [.v 3 r0]) (X := ref15_Depth_B Xr a0 r0) rfl (Nat.le_of_ble_eq_true rfl) rfl (fun G hG => by simp at hG) h ?_
  · clear h r0
    intro env r hF h
    obtain ⟨a0, env0, rfl, h1⟩ := appW_v h
    obtain ⟨rfl, h2⟩ := appW_n h1
    obtain ⟨r0, rr0, rfl, h3⟩ := apR_v h2
    obtain ⟨rfl, h4⟩ := apR_n h3
    exact ⟨rfl, hX a0 r0 h4⟩
  · kernel_rfl
set_option maxRecDepth 100000 in
theorem ref15_Depth_ok : SpOk Try.prog CC ref15_Depth_sp := by
  intro env r hF h
  obtain ⟨a0, env0, rfl, h1⟩ := appW_v h
  obtain ⟨rfl, h2⟩ := appW_n h1
  obtain ⟨r0, rr0, rfl, h3⟩ := apR_v h2
  obtain ⟨rfl, h4⟩ := apR_n h3
  exact ⟨rfl, h4 (fun a0 r0 =>  Pure Try.prog 9 (pencs CC [.v 29] ([.d (.v 29 a0)] : List (AD KK))) (tresA (([.v 3 r0] : List (DV KK)).map (dvA CC)))) (fun a0 r0 h => ref15_Depth_okB _ (fun a0 r0 h => h) a0 r0 h)⟩

def ref06_Good_o (a0 : T_ref06_Value) (r0 : Bool) : Prop :=
  cnd (a0.Kind == (0 : Int)) (cnd (a0.N == (0 : Int)) ((a0.S == ([] : Str)) = r0) (false = r0)) (cnd (a0.Kind == (1 : Int)) (cnd (a0.N == (0 : Int)) ((a0.S == ([] : Str)) = r0) (cnd (a0.N == (1 : Int)) ((a0.S == ([] : Str)) = r0) (false = r0))) (cnd (a0.Kind == (2 : Int)) ((a0.S == ([] : Str)) = r0) (cnd (a0.Kind == (3 : Int)) (cnd (a0.N == (0 : Int)) ((decide ((a0.S.length : Int) ≤ (64 : Int))) = r0) (false = r0)) (false = r0))))
noncomputable def ref06_Good_sp : Sp KK := ⟨55, [.v 26], [4], appW (K := KK) [4] [.v 26] ref06_Good_o⟩
noncomputable def ref06_Good_an : An KK := (.s .o (.s (.s .o (.c (.s .o .o) .o)) (.s (.s .o (.c (.s .o .o) .o)) (.s (.s .o (.c (.s .o .o) .o)) (.s .o .o)))))
noncomputable def ref06_Good_cf : Cf KK := ⟨CC, [], 50⟩

set_option maxRecDepth 100000 in
theorem ref06_Good_ok : SpOk Try.prog CC ref06_Good_sp := by
  intro env r hF h
  obtain ⟨a0, env0, rfl, h1⟩ := appW_v h
  obtain ⟨rfl, h2⟩ := appW_n h1
  obtain ⟨r0, rr0, rfl, h3⟩ := apR_v h2
  obtain ⟨rfl, h4⟩ := apR_n h3
  refine ⟨rfl, DnF_by (F := ref06_Good_cf) CC_ok SsOk_n t55 (A := ref06_Good_an) (ps := [.v 26]) (rs := [4]) (env := [.d (.v 26 a0)]) (r := [.v 4 r0]) (X := ref06_Good_o a0 r0) rfl (Nat.le_of_ble_eq_true rfl) rfl hF h4 ?_⟩
  kernel_rfl

def ref14_class_J4 (r0 : Int) (x4 : Bool) : Prop :=
  cnd x4 ((6 : Int) = r0) ((0 : Int) = r0)
def ref14_class_J3 (r0 : Int) (a0 : Int) (x3 : Bool) : Prop :=
  cnd x3 ((3 : Int) = r0) (cnd (a0 == (95 : Int)) ((4 : Int) = r0) (cnd (a0 == (39 : Int)) ((5 : Int) = r0) (∀ J4 : Bool → Prop, (∀ (x4 : Bool), ref14_class_J4 r0 x4 → J4 x4) → cnd (a0 == (32 : Int)) (J4 true) (J4 (a0 == (10 : Int))))))
def ref14_class_J2 (r0 : Int) (a0 : Int) (x2 : Bool) : Prop :=
  cnd x2 ((2 : Int) = r0) (∀ J3 : Bool → Prop, (∀ (x3 : Bool), ref14_class_J3 r0 a0 x3 → J3 x3) → cnd (decide ((48 : Int) ≤ a0)) (J3 (decide (a0 ≤ (57 : Int)))) (J3 false))
def ref14_class_J1 (r0 : Int) (a0 : Int) (x1 : Bool) : Prop :=
  cnd x1 ((1 : Int) = r0) (∀ J2 : Bool → Prop, (∀ (x2 : Bool), ref14_class_J2 r0 a0 x2 → J2 x2) → cnd (decide ((65 : Int) ≤ a0)) (J2 (decide (a0 ≤ (90 : Int)))) (J2 false))
def ref14_class_o (a0 : Int) (r0 : Int) : Prop :=
  ∀ J1 : Bool → Prop, (∀ (x1 : Bool), ref14_class_J1 r0 a0 x1 → J1 x1) → cnd (decide ((97 : Int) ≤ a0)) (J1 (decide (a0 ≤ (122 : Int)))) (J1 false)
def ref14_class_J4i (r0 : Int) (x4 : Bool) : Prop :=
  cnd x4 ((6 : Int) = r0) ((0 : Int) = r0)
def ref14_class_J3i (a0 : Int) (r0 : Int) (x3 : Bool) : Prop :=
  cnd x3 ((3 : Int) = r0) (cnd (a0 == (95 : Int)) ((4 : Int) = r0) (cnd (a0 == (39 : Int)) ((5 : Int) = r0) (cnd (a0 == (32 : Int)) (ref14_class_J4i r0 true) (ref14_class_J4i r0 (a0 == (10 : Int))))))
def ref14_class_J2i (a0 : Int) (r0 : Int) (x2 : Bool) : Prop :=
  cnd x2 ((2 : Int) = r0) (cnd (decide ((48 : Int) ≤ a0)) (ref14_class_J3i a0 r0 (decide (a0 ≤ (57 : Int)))) (ref14_class_J3i a0 r0 false))
def ref14_class_J1i (a0 : Int) (r0 : Int) (x1 : Bool) : Prop :=
  cnd x1 ((1 : Int) = r0) (cnd (decide ((65 : Int) ≤ a0)) (ref14_class_J2i a0 r0 (decide (a0 ≤ (90 : Int)))) (ref14_class_J2i a0 r0 false))
def ref14_class_oi (a0 : Int) (r0 : Int) : Prop :=
  cnd (decide ((97 : Int) ≤ a0)) (ref14_class_J1i a0 r0 (decide (a0 ≤ (122 : Int)))) (ref14_class_J1i a0 r0 false)
theorem ref14_class_J4_m (r0 : Int) {x4 : Bool} (h : ref14_class_J4i r0 x4) : ref14_class_J4 r0 x4 := by
  unfold ref14_class_J4
  unfold ref14_class_J4i at h
  exact h
theorem ref14_class_J3_m (a0 : Int) (r0 : Int) {x3 : Bool} (h : ref14_class_J3i a0 r0 x3) : ref14_class_J3 r0 a0 x3 := by
  unfold ref14_class_J3
  unfold ref14_class_J3i at h
  refine cnd_mono h (fun h => ?_) (fun h => ?_)
  · exact h
  · refine cnd_mono h (fun h => ?_) (fun h => ?_)
    · exact h
    · refine cnd_mono h (fun h => ?_) (fun h => ?_)
      · exact h
      · intro J4 kJ4
        have hJ4 : ∀ (x4 : Bool), ref14_class_J4i r0 x4 → J4 x4 := fun x4 q => kJ4 x4 (ref14_class_J4_m r0 q)
        refine cnd_mono h (fun h => ?_) (fun h => ?_)
        · exact hJ4 _ h
        · exact hJ4 _ h
theorem ref14_class_J2_m (a0 : Int) (r0 : Int) {x2 : Bool} (h : ref14_class_J2i a0 r0 x2) : ref14_class_J2 r0 a0 x2 := by
  unfold ref14_class_J2
  unfold ref14_class_J2i at h
  refine cnd_mono h (fun h => ?_) (fun h => ?_)
  · exact h
  · intro J3 kJ3
    have hJ3 : ∀ (x3 : Bool), ref14_class_J3i a0 r0 x3 → J3 x3 := fun x3 q => kJ3 x3 (ref14_class_J3_m a0 r0 q)
    refine cnd_mono h (fun h => ?_) (fun h => ?_)
    · exact hJ3 _ h
    · exact hJ3 _ h
theorem ref14_class_J1_m (a0 : Int) (r0 : Int) {x1 : Bool} (h : ref14_class_J1i a0 r0 x1) : ref14_class_J1 r0 a0 x1 := by
  unfold ref14_class_J1
  unfold ref14_class_J1i at h
  refine cnd_mono h (fun h => ?_) (fun h => ?_)
  · exact h
  · intro J2 kJ2
    have hJ2 : ∀ (x2 : Bool), ref14_class_J2i a0 r0 x2 → J2 x2 := fun x2 q => kJ2 x2 (ref14_class_J2_m a0 r0 q)
    refine cnd_mono h (fun h => ?_) (fun h => ?_)
    · exact hJ2 _ h
    · exact hJ2 _ h
theorem ref14_class_i (a0 : Int) (r0 : Int) (h : ref14_class_oi a0 r0) : ref14_class_o a0 r0 := by
  unfold ref14_class_o
  unfold ref14_class_oi at h
  intro J1 kJ1
  have hJ1 : ∀ (x1 : Bool), ref14_class_J1i a0 r0 x1 → J1 x1 := fun x1 q => kJ1 x1 (ref14_class_J1_m a0 r0 q)
  refine cnd_mono h (fun h => ?_) (fun h => ?_)
  · exact hJ1 _ h
  · exact hJ1 _ h
noncomputable def ref14_class_sp : Sp KK := ⟨88, [.v 5], [3], appW (K := KK) [3] [.v 5] ref14_class_o⟩
noncomputable def ref14_class_an : An KK := (.s .o (.s (.b (.j ⟨[(0, .kp 2), (3, .bl)], [], []⟩ .o (fun _ => (.c (.s .o .o) (.j ⟨[(0, .kp 2), (10, .bl)], [], []⟩ .o (fun _ => (.c (.s .o .o) (.j ⟨[(0, .kp 2), (17, .bl)], [], []⟩ .o (fun _ => (.c (.s .o .o) (.s .o (.c (.s .o .o) (.s .o (.c (.s .o .o) (.j ⟨[(30, .bl)], [], []⟩ .o (fun _ => (.c (.s .o .o) .o))))))))))))))))) (.s .o .o)))
noncomputable def ref14_class_cf : Cf KK := ⟨CC, [], 37⟩

set_option maxRecDepth 100000 in
theorem ref14_class_ok : SpOk Try.prog CC ref14_class_sp := by
  intro env r hF h
  obtain ⟨a0, env0, rfl, h1⟩ := appW_v h
  obtain ⟨rfl, h2⟩ := appW_n h1
  obtain ⟨r0, rr0, rfl, h3⟩ := apR_v h2
  obtain ⟨rfl, h4⟩ := apR_n h3
  refine ⟨rfl, DnF_by (F := ref14_class_cf) CC_ok SsOk_n t88 (A := ref14_class_an) (ps := [.v 5]) (rs := [3]) (env := [.d (.v 5 a0)]) (r := [.v 3 r0]) (X := ref14_class_o a0 r0) rfl (Nat.le_of_ble_eq_true rfl) rfl hF h4 ?_⟩
  kernel_rfl

def ref14_Good_J3 (r0 : Bool) (X2 : Int → Prop) (x2 : Int) (x4 : Bool) : Prop :=
  cnd x4 (false = r0) (X2 (IntKind.i64.wrap (x2 + (1 : Int))))
def ref14_Good_L2 (a0 : Str) (r0 : Bool) (X2 : Int → Prop) (x2 : Int) : Prop :=
  cnd (decide (x2 < (a0.length : Int))) ((0 ≤ x2 ∧ x2 < (a0.length : Int)) ∧ ∃ z3 : Int, (ref14_class_o (bAt a0 x2) z3) ∧ ∀ J3 : Bool → Prop, (∀ (x4 : Bool), ref14_Good_J3 r0 X2 x2 x4 → J3 x4) → cnd (!(z3 == (1 : Int))) (cnd (!(z3 == (3 : Int))) (J3 (!(z3 == (4 : Int)))) (J3 false)) (J3 false)) (true = r0)
def ref14_Good_J1 (r0 : Bool) (a0 : Str) (x1 : Bool) : Prop :=
  cnd x1 (false = r0) (∀ X2 : Int → Prop, (∀ (x2 : Int), ref14_Good_L2 a0 r0 X2 x2 → X2 x2) → X2 (0 : Int))
def ref14_Good_o (a0 : Str) (r0 : Bool) : Prop :=
  ∀ J1 : Bool → Prop, (∀ (x1 : Bool), ref14_Good_J1 r0 a0 x1 → J1 x1) → cnd (decide ((a0.length : Int) < (1 : Int))) (J1 true) (cnd (decide ((16 : Int) < (a0.length : Int))) (J1 true) ((0 ≤ (0 : Int) ∧ (0 : Int) < (a0.length : Int)) ∧ ∃ z5 : Int, (ref14_class_o (bAt a0 (0 : Int)) z5) ∧ J1 (!(z5 == (1 : Int)))))
def ref14_Good_J3i (X2 : Int → Prop) (r0 : Bool) (x2 : Int) (x4 : Bool) : Prop :=
  cnd x4 (false = r0) (X2 (IntKind.i64.wrap (x2 + (1 : Int))))
def ref14_Good_L2i (a0 : Str) (r0 : Bool) (X2 : Int → Prop) (x2 : Int) : Prop :=
  cnd (decide (x2 < (a0.length : Int))) ((0 ≤ x2 ∧ x2 < (a0.length : Int)) ∧ ∃ z3 : Int, (ref14_class_o (bAt a0 x2) z3) ∧ cnd (!(z3 == (1 : Int))) (cnd (!(z3 == (3 : Int))) (ref14_Good_J3i X2 r0 x2 (!(z3 == (4 : Int)))) (ref14_Good_J3i X2 r0 x2 false)) (ref14_Good_J3i X2 r0 x2 false)) (true = r0)
def ref14_Good_J1i (a0 : Str) (r0 : Bool) (x1 : Bool) : Prop :=
  cnd x1 (false = r0) (∀ X2 : Int → Prop, (∀ (x2 : Int), ref14_Good_L2i a0 r0 X2 x2 → X2 x2) → X2 (0 : Int))
def ref14_Good_oi (a0 : Str) (r0 : Bool) : Prop :=
  cnd (decide ((a0.length : Int) < (1 : Int))) (ref14_Good_J1i a0 r0 true) (cnd (decide ((16 : Int) < (a0.length : Int))) (ref14_Good_J1i a0 r0 true) ((0 ≤ (0 : Int) ∧ (0 : Int) < (a0.length : Int)) ∧ ∃ z5 : Int, (ref14_class_o (bAt a0 (0 : Int)) z5) ∧ ref14_Good_J1i a0 r0 (!(z5 == (1 : Int)))))
theorem ref14_Good_J3_m (X2 : Int → Prop) (r0 : Bool) (x2 : Int) {x4 : Bool} (h : ref14_Good_J3i X2 r0 x2 x4) : ref14_Good_J3 r0 X2 x2 x4 := by
  unfold ref14_Good_J3
  unfold ref14_Good_J3i at h
  exact h
theorem ref14_Good_L2_m (a0 : Str) (r0 : Bool) {X2 : Int → Prop} {x2 : Int} (h : ref14_Good_L2i a0 r0 X2 x2) : ref14_Good_L2 a0 r0 X2 x2 := by
  unfold ref14_Good_L2
  unfold ref14_Good_L2i at h
  refine cnd_mono h (fun h => ?_) (fun h => ?_)
  · obtain ⟨h0, h⟩ := h
    refine ⟨h0, ?_⟩
    obtain ⟨z3, h⟩ := h
    refine ⟨z3, ?_⟩
    obtain ⟨h0, h⟩ := h
    refine ⟨h0, ?_⟩
    intro J3 kJ3
    have hJ3 : ∀ (x4 : Bool), ref14_Good_J3i X2 r0 x2 x4 → J3 x4 := fun x4 q => kJ3 x4 (ref14_Good_J3_m X2 r0 x2 q)
    refine cnd_mono h (fun h => ?_) (fun h => ?_)
    · refine cnd_mono h (fun h => ?_) (fun h => ?_)
      · exact hJ3 _ h
      · exact hJ3 _ h
    · exact hJ3 _ h
  · exact h
theorem ref14_Good_J1_m (a0 : Str) (r0 : Bool) {x1 : Bool} (h : ref14_Good_J1i a0 r0 x1) : ref14_Good_J1 r0 a0 x1 := by
  unfold ref14_Good_J1
  unfold ref14_Good_J1i at h
  refine cnd_mono h (fun h => ?_) (fun h => ?_)
  · exact h
  · intro X2 k
    exact h X2 (fun x2 q => k x2 (ref14_Good_L2_m a0 r0 q))
theorem ref14_Good_i (a0 : Str) (r0 : Bool) (h : ref14_Good_oi a0 r0) : ref14_Good_o a0 r0 := by
  unfold ref14_Good_o
  unfold ref14_Good_oi at h
  intro J1 kJ1
  have hJ1 : ∀ (x1 : Bool), ref14_Good_J1i a0 r0 x1 → J1 x1 := fun x1 q => kJ1 x1 (ref14_Good_J1_m a0 r0 q)
  refine cnd_mono h (fun h => ?_) (fun h => ?_)
  · exact hJ1 _ h
  · refine cnd_mono h (fun h => ?_) (fun h => ?_)
    · exact hJ1 _ h
    · obtain ⟨h0, h⟩ := h
      refine ⟨h0, ?_⟩
      obtain ⟨z5, h⟩ := h
      refine ⟨z5, ?_⟩
      obtain ⟨h0, h⟩ := h
      refine ⟨h0, ?_⟩
      exact hJ1 _ h
noncomputable def ref14_Good_sp : Sp KK := ⟨56, [.v 9], [4], appW (K := KK) [4] [.v 9] ref14_Good_o⟩
noncomputable def ref14_Good_an : An KK := (.s .o (.s (.j ⟨[(0, .kp 2), (18, .bl)], [], []⟩ .o (fun _ => (.c (.s .o .o) .o))) (.s (.s .o (.b (.l ⟨[(0, .kp 2), (3, .it .i64)], [], []⟩ (fun _ => (.s (.s .o (.c .o .o)) (.s (.b (.s .o (.j ⟨[(0, .kp 2), (3, .kp 12), (38, .bl)], [], []⟩ .o (fun _ => (.c (.s .o .o) .o))))) .o)))))) (.s .o .o))))
noncomputable def ref14_Good_cf : Cf KK := ⟨CC, [ref14_class_sp], 39⟩

set_option maxRecDepth 100000 in
theorem ref14_Good_ok : SpOk Try.prog CC ref14_Good_sp := by
  intro env r hF h
  obtain ⟨a0, env0, rfl, h1⟩ := appW_v h
  obtain ⟨rfl, h2⟩ := appW_n h1
  obtain ⟨r0, rr0, rfl, h3⟩ := apR_v h2
  obtain ⟨rfl, h4⟩ := apR_n h3
  refine ⟨rfl, DnF_by (F := ref14_Good_cf) CC_ok (SsOk_c ref14_class_ok SsOk_n) t56 (A := ref14_Good_an) (ps := [.v 9]) (rs := [4]) (env := [.d (.v 9 a0)]) (r := [.v 4 r0]) (X := ref14_Good_o a0 r0) rfl (Nat.le_of_ble_eq_true rfl) rfl hF h4 ?_⟩
  kernel_rfl

def ref15_may_J2 (r0 : Bool) (X1 : Int → Prop) (x1 : Int) (x2 : Bool) : Prop :=
  cnd x2 (false = r0) (X1 (IntKind.i64.wrap (x1 + (1 : Int))))
def ref15_may_J3 (r0 : Bool) (x6 : Bool) : Prop :=
  x6 = r0
def ref15_may_J4 (r0 : Bool) (x8 : Bool) : Prop :=
  x8 = r0
def ref15_may_J7 (r0 : Bool) (x13 : Bool) : Prop :=
  x13 = r0
def ref15_may_J6 (a0 : T_ref15_Expr) (r0 : Bool) (a1 : Bool) (x12 : Bool) : Prop :=
  cnd x12 ((a0.L.length ≤ maxLen → cnd ((a0.L.length : Int) == (1 : Int)) ((a0.Op == (0 : Int)) = r0) (false = r0))) (cnd (a0.Kind == (8 : Int)) (∀ J7 : Bool → Prop, (∀ (x13 : Bool), ref15_may_J7 r0 x13 → J7 x13) → cnd (!a1) (cnd (decide ((1 : Int) ≤ a0.Op)) (cnd (decide (a0.Op ≤ (4 : Int))) ((a0.L.length ≤ maxLen → cnd ((a0.L.length : Int) == (1 : Int)) (J7 true) ((a0.L.length ≤ maxLen → cnd ((a0.L.length : Int) == (0 : Int)) (J7 (a0.Op == (1 : Int))) (J7 false))))) (J7 false)) (J7 false)) (J7 false)) (false = r0))
def ref15_may_J5 (r0 : Bool) (a0 : T_ref15_Expr) (a1 : Bool) (x11 : Bool) : Prop :=
  cnd x11 (false = r0) (cnd (a0.Kind == (3 : Int)) ((a0.L.length ≤ maxLen → cnd ((a0.L.length : Int) == (2 : Int)) (cnd (decide ((1 : Int) ≤ a0.Op)) ((decide (a0.Op ≤ (14 : Int))) = r0) (false = r0)) (false = r0))) (∀ J6 : Bool → Prop, (∀ (x12 : Bool), ref15_may_J6 a0 r0 a1 x12 → J6 x12) → cnd (a0.Kind == (4 : Int)) (J6 (a0.Kind == (4 : Int))) (cnd (a0.Kind == (5 : Int)) (J6 (a0.Kind == (5 : Int))) (cnd (a0.Kind == (6 : Int)) (J6 (a0.Kind == (6 : Int))) (J6 (a0.Kind == (7 : Int)))))))
def ref15_may_L1 (a0 : T_ref15_Expr) (r0 : Bool) (a1 : Bool) (Xr : T_ref15_Expr → Bool → Bool → Prop) (X1 : Int → Prop) (x1 : Int) : Prop :=
  (a0.L.length ≤ maxLen → cnd (decide (x1 < (a0.L.length : Int))) (∀ J2 : Bool → Prop, (∀ (x2 : Bool), ref15_may_J2 r0 X1 x1 x2 → J2 x2) → (0 ≤ x1) ∧ (x1 < (a0.L.length : Int)) ∧ ∃ y3 : T_ref15_Expr, (a0.L[x1.toNat]? = some y3) ∧ cnd a1 (∃ z4 : Bool, (Xr (T_ref15_Expr.mk y3.Kind y3.Op (⟨y3.V.Kind, y3.V.N, y3.V.S⟩ : T_ref06_Value) y3.Table y3.Name y3.L) true z4) ∧ J2 (!z4)) (∃ z5 : Bool, (Xr (T_ref15_Expr.mk y3.Kind y3.Op (⟨y3.V.Kind, y3.V.N, y3.V.S⟩ : T_ref06_Value) y3.Table y3.Name y3.L) (a0.Kind == (8 : Int)) z5) ∧ J2 (!z5))) (cnd (a0.Kind == (1 : Int)) (∀ J3 : Bool → Prop, (∀ (x6 : Bool), ref15_may_J3 r0 x6 → J3 x6) → (a0.L.length ≤ maxLen → cnd ((a0.L.length : Int) == (0 : Int)) (cnd (a0.Op == (0 : Int)) (cnd (a0.Table == ([] : Str)) (cnd (a0.Name == ([] : Str)) (∃ z7 : Bool, (ref06_Good_o (⟨a0.V.Kind, a0.V.N, a0.V.S⟩ : T_ref06_Value) z7) ∧ cnd z7 (cnd (!(a0.V.Kind == (2 : Int))) (J3 true) (J3 (decide ((0 : Int) ≤ a0.V.N)))) (J3 false)) (J3 false)) (J3 false)) (J3 false)) (J3 false))) (cnd (a0.Kind == (2 : Int)) (∀ J4 : Bool → Prop, (∀ (x8 : Bool), ref15_may_J4 r0 x8 → J4 x8) → (a0.L.length ≤ maxLen → cnd ((a0.L.length : Int) == (0 : Int)) (cnd (a0.Op == (0 : Int)) (cnd ((a0.V.Kind == (0 : Int)) && ((a0.V.N == (0 : Int)) && ((a0.V.S == ([] : Str)) && true))) (∃ z9 : Bool, (ref14_Good_o a0.Name z9) ∧ cnd z9 (cnd (a0.Table == ([] : Str)) (J4 true) (∃ z10 : Bool, (ref14_Good_o a0.Table z10) ∧ J4 z10)) (J4 false)) (J4 false)) (J4 false)) (J4 false))) (∀ J5 : Bool → Prop, (∀ (x11 : Bool), ref15_may_J5 r0 a0 a1 x11 → J5 x11) → cnd (!((a0.V.Kind == (0 : Int)) && ((a0.V.N == (0 : Int)) && ((a0.V.S == ([] : Str)) && true)))) (J5 true) (cnd (!(a0.Table == ([] : Str))) (J5 true) (J5 (!(a0.Name == ([] : Str)))))))))
def ref15_may_B (Xr : T_ref15_Expr → Bool → Bool → Prop) (a0 : T_ref15_Expr) (a1 : Bool) (r0 : Bool) : Prop :=
  ∀ X1 : Int → Prop, (∀ (x1 : Int), ref15_may_L1 a0 r0 a1 Xr X1 x1 → X1 x1) → X1 (0 : Int)
def ref15_may_o (a0 : T_ref15_Expr) (a1 : Bool) (r0 : Bool) : Prop := ∀ Xr : T_ref15_Expr → Bool → Bool → Prop, (∀ (a0 : T_ref15_Expr) (a1 : Bool) (r0 : Bool), ref15_may_B Xr a0 a1 r0 → Xr a0 a1 r0) → Xr a0 a1 r0
def ref15_may_J2i (X1 : Int → Prop) (r0 : Bool) (x1 : Int) (x2 : Bool) : Prop :=
  cnd x2 (false = r0) (X1 (IntKind.i64.wrap (x1 + (1 : Int))))
def ref15_may_J3i (r0 : Bool) (x6 : Bool) : Prop :=
  x6 = r0
def ref15_may_J4i (r0 : Bool) (x8 : Bool) : Prop :=
  x8 = r0
def ref15_may_J7i (r0 : Bool) (x13 : Bool) : Prop :=
  x13 = r0
def ref15_may_J6i (a0 : T_ref15_Expr) (a1 : Bool) (r0 : Bool) (x12 : Bool) : Prop :=
  cnd x12 ((a0.L.length ≤ maxLen → cnd ((a0.L.length : Int) == (1 : Int)) ((a0.Op == (0 : Int)) = r0) (false = r0))) (cnd (a0.Kind == (8 : Int)) (cnd (!a1) (cnd (decide ((1 : Int) ≤ a0.Op)) (cnd (decide (a0.Op ≤ (4 : Int))) ((a0.L.length ≤ maxLen → cnd ((a0.L.length : Int) == (1 : Int)) (ref15_may_J7i r0 true) ((a0.L.length ≤ maxLen → cnd ((a0.L.length : Int) == (0 : Int)) (ref15_may_J7i r0 (a0.Op == (1 : Int))) (ref15_may_J7i r0 false))))) (ref15_may_J7i r0 false)) (ref15_may_J7i r0 false)) (ref15_may_J7i r0 false)) (false = r0))
def ref15_may_J5i (a0 : T_ref15_Expr) (a1 : Bool) (r0 : Bool) (x11 : Bool) : Prop :=
  cnd x11 (false = r0) (cnd (a0.Kind == (3 : Int)) ((a0.L.length ≤ maxLen → cnd ((a0.L.length : Int) == (2 : Int)) (cnd (decide ((1 : Int) ≤ a0.Op)) ((decide (a0.Op ≤ (14 : Int))) = r0) (false = r0)) (false = r0))) (cnd (a0.Kind == (4 : Int)) (ref15_may_J6i a0 a1 r0 (a0.Kind == (4 : Int))) (cnd (a0.Kind == (5 : Int)) (ref15_may_J6i a0 a1 r0 (a0.Kind == (5 : Int))) (cnd (a0.Kind == (6 : Int)) (ref15_may_J6i a0 a1 r0 (a0.Kind == (6 : Int))) (ref15_may_J6i a0 a1 r0 (a0.Kind == (7 : Int)))))))
def ref15_may_L1i (Xr : T_ref15_Expr → Bool → Bool → Prop) (a0 : T_ref15_Expr) (a1 : Bool) (r0 : Bool) (X1 : Int → Prop) (x1 : Int) : Prop :=
  (a0.L.length ≤ maxLen → cnd (decide (x1 < (a0.L.length : Int))) ((0 ≤ x1) ∧ (x1 < (a0.L.length : Int)) ∧ ∃ y3 : T_ref15_Expr, (a0.L[x1.toNat]? = some y3) ∧ cnd a1 (∃ z4 : Bool, (Xr (T_ref15_Expr.mk y3.Kind y3.Op (⟨y3.V.Kind, y3.V.N, y3.V.S⟩ : T_ref06_Value) y3.Table y3.Name y3.L) true z4) ∧ ref15_may_J2i X1 r0 x1 (!z4)) (∃ z5 : Bool, (Xr (T_ref15_Expr.mk y3.Kind y3.Op (⟨y3.V.Kind, y3.V.N, y3.V.S⟩ : T_ref06_Value) y3.Table y3.Name y3.L) (a0.Kind == (8 : Int)) z5) ∧ ref15_may_J2i X1 r0 x1 (!z5))) (cnd (a0.Kind == (1 : Int)) ((a0.L.length ≤ maxLen → cnd ((a0.L.length : Int) == (0 : Int)) (cnd (a0.Op == (0 : Int)) (cnd (a0.Table == ([] : Str)) (cnd (a0.Name == ([] : Str)) (∃ z7 : Bool, (ref06_Good_o (⟨a0.V.Kind, a0.V.N, a0.V.S⟩ : T_ref06_Value) z7) ∧ cnd z7 (cnd (!(a0.V.Kind == (2 : Int))) (ref15_may_J3i r0 true) (ref15_may_J3i r0 (decide ((0 : Int) ≤ a0.V.N)))) (ref15_may_J3i r0 false)) (ref15_may_J3i r0 false)) (ref15_may_J3i r0 false)) (ref15_may_J3i r0 false)) (ref15_may_J3i r0 false))) (cnd (a0.Kind == (2 : Int)) ((a0.L.length ≤ maxLen → cnd ((a0.L.length : Int) == (0 : Int)) (cnd (a0.Op == (0 : Int)) (cnd ((a0.V.Kind == (0 : Int)) && ((a0.V.N == (0 : Int)) && ((a0.V.S == ([] : Str)) && true))) (∃ z9 : Bool, (ref14_Good_o a0.Name z9) ∧ cnd z9 (cnd (a0.Table == ([] : Str)) (ref15_may_J4i r0 true) (∃ z10 : Bool, (ref14_Good_o a0.Table z10) ∧ ref15_may_J4i r0 z10)) (ref15_may_J4i r0 false)) (ref15_may_J4i r0 false)) (ref15_may_J4i r0 false)) (ref15_may_J4i r0 false))) (cnd (!((a0.V.Kind == (0 : Int)) && ((a0.V.N == (0 : Int)) && ((a0.V.S == ([] : Str)) && true)))) (ref15_may_J5i a0 a1 r0 true) (cnd (!(a0.Table == ([] : Str))) (ref15_may_J5i a0 a1 r0 true) (ref15_may_J5i a0 a1 r0 (!(a0.Name == ([] : Str)))))))))
def ref15_may_Bi (Xr : T_ref15_Expr → Bool → Bool → Prop) (a0 : T_ref15_Expr) (a1 : Bool) (r0 : Bool) : Prop :=
  ∀ X1 : Int → Prop, (∀ (x1 : Int), ref15_may_L1i Xr a0 a1 r0 X1 x1 → X1 x1) → X1 (0 : Int)
theorem ref15_may_J2_m (X1 : Int → Prop) (r0 : Bool) (x1 : Int) {x2 : Bool} (h : ref15_may_J2i X1 r0 x1 x2) : ref15_may_J2 r0 X1 x1 x2 := by
  unfold ref15_may_J2
  unfold ref15_may_J2i at h
  exact h
theorem ref15_may_J3_m (r0 : Bool) {x6 : Bool} (h : ref15_may_J3i r0 x6) : ref15_may_J3 r0 x6 := by
  unfold ref15_may_J3
  unfold ref15_may_J3i at h
  exact h
theorem ref15_may_J4_m (r0 : Bool) {x8 : Bool} (h : ref15_may_J4i r0 x8) : ref15_may_J4 r0 x8 := by
  unfold ref15_may_J4
  unfold ref15_may_J4i at h
  exact h
theorem ref15_may_J7_m (r0 : Bool) {x13 : Bool} (h : ref15_may_J7i r0 x13) : ref15_may_J7 r0 x13 := by
  unfold ref15_may_J7
  unfold ref15_may_J7i at h
  exact h
theorem ref15_may_J6_m (a0 : T_ref15_Expr) (a1 : Bool) (r0 : Bool) {x12 : Bool} (h : ref15_may_J6i a0 a1 r0 x12) : ref15_may_J6 a0 r0 a1 x12 := by
  unfold ref15_may_J6
  unfold ref15_may_J6i at h
  refine cnd_mono h (fun h => ?_) (fun h => ?_)
  · exact h
  · refine cnd_mono h (fun h => ?_) (fun h => ?_)
    · intro J7 kJ7
      have hJ7 : ∀ (x13 : Bool), ref15_may_J7i r0 x13 → J7 x13 := fun x13 q => kJ7 x13 (ref15_may_J7_m r0 q)
      refine cnd_mono h (fun h => ?_) (fun h => ?_)
      · refine cnd_mono h (fun h => ?_) (fun h => ?_)
        · refine cnd_mono h (fun h => ?_) (fun h => ?_)
          · intro c
            replace h := h c
            refine cnd_mono h (fun h => ?_) (fun h => ?_)
            · exact hJ7 _ h
            · intro c
              replace h := h c
              refine cnd_mono h (fun h => ?_) (fun h => ?_)
              · exact hJ7 _ h
              · exact hJ7 _ h
          · exact hJ7 _ h
        · exact hJ7 _ h
      · exact hJ7 _ h
    · exact h
theorem ref15_may_J5_m (a0 : T_ref15_Expr) (a1 : Bool) (r0 : Bool) {x11 : Bool} (h : ref15_may_J5i a0 a1 r0 x11) : ref15_may_J5 r0 a0 a1 x11 := by
  unfold ref15_may_J5
  unfold ref15_may_J5i at h
  refine cnd_mono h (fun h => ?_) (fun h => ?_)
  · exact h
  · refine cnd_mono h (fun h => ?_) (fun h => ?_)
    · exact h
    · intro J6 kJ6
      have hJ6 : ∀ (x12 : Bool), ref15_may_J6i a0 a1 r0 x12 → J6 x12 := fun x12 q => kJ6 x12 (ref15_may_J6_m a0 a1 r0 q)
      refine cnd_mono h (fun h => ?_) (fun h => ?_)
      · exact hJ6 _ h
      · refine cnd_mono h (fun h => ?_) (fun h => ?_)
        · exact hJ6 _ h
        · refine cnd_mono h (fun h => ?_) (fun h => ?_)
          · exact hJ6 _ h
          · exact hJ6 _ h
theorem ref15_may_L1_m (Xr : T_ref15_Expr → Bool → Bool → Prop) (a0 : T_ref15_Expr) (a1 : Bool) (r0 : Bool) {X1 : Int → Prop} {x1 : Int} (h : ref15_may_L1i Xr a0 a1 r0 X1 x1) : ref15_may_L1 a0 r0 a1 Xr X1 x1 := by
  unfold ref15_may_L1
  unfold ref15_may_L1i at h
  intro c
  replace h := h c
  refine cnd_mono h (fun h => ?_) (fun h => ?_)
  · intro J2 kJ2
    have hJ2 : ∀ (x2 : Bool), ref15_may_J2i X1 r0 x1 x2 → J2 x2 := fun x2 q => kJ2 x2 (ref15_may_J2_m X1 r0 x1 q)
    obtain ⟨h0, h⟩ := h
    refine ⟨h0, ?_⟩
    obtain ⟨h0, h⟩ := h
    refine ⟨h0, ?_⟩
    obtain ⟨y3, h⟩ := h
    refine ⟨y3, ?_⟩
    obtain ⟨h0, h⟩ := h
    refine ⟨h0, ?_⟩
    refine cnd_mono h (fun h => ?_) (fun h => ?_)
    · obtain ⟨z4, h⟩ := h
      refine ⟨z4, ?_⟩
      obtain ⟨h0, h⟩ := h
      refine ⟨h0, ?_⟩
      exact hJ2 _ h
    · obtain ⟨z5, h⟩ := h
      refine ⟨z5, ?_⟩
      obtain ⟨h0, h⟩ := h
      refine ⟨h0, ?_⟩
      exact hJ2 _ h
  · refine cnd_mono h (fun h => ?_) (fun h => ?_)
    · intro J3 kJ3
      have hJ3 : ∀ (x6 : Bool), ref15_may_J3i r0 x6 → J3 x6 := fun x6 q => kJ3 x6 (ref15_may_J3_m r0 q)
      intro c
      replace h := h c
      refine cnd_mono h (fun h => ?_) (fun h => ?_)
      · refine cnd_mono h (fun h => ?_) (fun h => ?_)
        · refine cnd_mono h (fun h => ?_) (fun h => ?_)
          · refine cnd_mono h (fun h => ?_) (fun h => ?_)
            · obtain ⟨z7, h⟩ := h
              refine ⟨z7, ?_⟩
              obtain ⟨h0, h⟩ := h
              refine ⟨h0, ?_⟩
              refine cnd_mono h (fun h => ?_) (fun h => ?_)
              · refine cnd_mono h (fun h => ?_) (fun h => ?_)
                · exact hJ3 _ h
                · exact hJ3 _ h
              · exact hJ3 _ h
            · exact hJ3 _ h
          · exact hJ3 _ h
        · exact hJ3 _ h
      · exact hJ3 _ h
    · refine cnd_mono h (fun h => ?_) (fun h => ?_)
      · intro J4 kJ4
        have hJ4 : ∀ (x8 : Bool), ref15_may_J4i r0 x8 → J4 x8 := fun x8 q => kJ4 x8 (ref15_may_J4_m r0 q)
        intro c
        replace h := h c
        refine cnd_mono h (fun h => ?_) (fun h => ?_)
        · refine cnd_mono h (fun h => ?_) (fun h => ?_)
          · refine cnd_mono h (fun h => ?_) (fun h => ?_)
            · obtain ⟨z9, h⟩ := h
              refine ⟨z9, ?_⟩
              obtain ⟨h0, h⟩ := h
              refine ⟨h0, ?_⟩
              refine cnd_mono h (fun h => ?_) (fun h => ?_)
              · refine cnd_mono h (fun h => ?_) (fun h => ?_)
                · exact hJ4 _ h
                · obtain ⟨z10, h⟩ := h
                  refine ⟨z10, ?_⟩
                  obtain ⟨h0, h⟩ := h
                  refine ⟨h0, ?_⟩
                  exact hJ4 _ h
              · exact hJ4 _ h
            · exact hJ4 _ h
          · exact hJ4 _ h
        · exact hJ4 _ h
      · intro J5 kJ5
        have hJ5 : ∀ (x11 : Bool), ref15_may_J5i a0 a1 r0 x11 → J5 x11 := fun x11 q => kJ5 x11 (ref15_may_J5_m a0 a1 r0 q)
        refine cnd_mono h (fun h => ?_) (fun h => ?_)
        · exact hJ5 _ h
        · refine cnd_mono h (fun h => ?_) (fun h => ?_)
          · exact hJ5 _ h
          · exact hJ5 _ h
theorem ref15_may_Bm (Xr : T_ref15_Expr → Bool → Bool → Prop) (a0 : T_ref15_Expr) (a1 : Bool) (r0 : Bool) (h : ref15_may_Bi Xr a0 a1 r0) : ref15_may_B Xr a0 a1 r0 := by
  unfold ref15_may_B
  unfold ref15_may_Bi at h
  intro X1 k
  exact h X1 (fun x1 q => k x1 (ref15_may_L1_m Xr a0 a1 r0 q))
theorem ref15_may_i (a0 : T_ref15_Expr) (a1 : Bool) (r0 : Bool) (h : ∀ Xr : T_ref15_Expr → Bool → Bool → Prop, (∀ (a0 : T_ref15_Expr) (a1 : Bool) (r0 : Bool), ref15_may_Bi Xr a0 a1 r0 → Xr a0 a1 r0) → Xr a0 a1 r0) : ref15_may_o a0 a1 r0 := fun Xr k => h Xr fun a0 a1 r0 q => k a0 a1 r0 (ref15_may_Bm Xr a0 a1 r0 q)
noncomputable def ref15_may_sp : Sp KK := ⟨29, [.v 29, .v 4], [4], appW (K := KK) [4] [.v 29, .v 4] ref15_may_o⟩
noncomputable def ref15_may_an : An KK := (.s .o (.s .o (.s (.s .o (.b (.l ⟨[(1, .kp 18), (2, .px 2 0), (5, .px 5 0), (6, .it .i64)], [(2, 29, [.kp 20, .kp 21, .kp 22, .kp 23, .kp 24, .kp 25, .kp 26, .kp 27]), (5, 26, [.kp 28, .kp 29, .kp 30])], []⟩ (fun _ => (.s (.s .o (.c .o .o)) (.s (.b (.j ⟨[(1, .kp 18), (2, .px 2 0), (5, .px 5 0), (6, .kp 34), (27, .bl)], [(2, 29, [.kp 20, .kp 21, .kp 22, .kp 23, .kp 24, .kp 25, .kp 26, .kp 27]), (5, 26, [.kp 28, .kp 29, .kp 30])], []⟩ .o (fun _ => (.c (.s .o .o) .o)))) .o)))))) (.s (.s .o (.b (.s .o (.c (.j ⟨[(4, .bl)], [], []⟩ .o (fun _ => .o)) (.s .o (.c (.j ⟨[(4, .bl)], [], []⟩ .o (fun _ => .o)) .o)))))) (.s (.j ⟨[(1, .kp 18), (2, .px 2 0), (113, .bl)], [(2, 29, [.kp 20, .kp 21, .kp 22, .kp 23, .kp 24, .kp 25, .kp 26, .kp 27])], []⟩ .o (fun _ => (.c (.s .o .o) .o))) (.s (.s .o (.b (.s .o (.c (.s .o .o) (.j ⟨[(1, .kp 18), (2, .px 2 0), (115, .kp 20), (132, .bl)], [(2, 29, [.kp 20, .kp 21, .kp 22, .kp 23, .kp 24, .kp 25, .kp 26, .kp 27])], []⟩ (.s .o (.c .o (.s .o (.c .o (.s .o (.c .o .o)))))) (fun _ => (.c (.s .o .o) (.s .o (.c (.j ⟨[(4, .bl)], [], []⟩ .o (fun _ => .o)) .o))))))))) (.s .o .o)))))))
noncomputable def ref15_may_cf (Xr : WTy KK [4] [.v 29, .v 4]) : Cf KK := ⟨CC, [⟨29, [.v 29, .v 4], [4], appW (K := KK) [4] [.v 29, .v 4] Xr⟩, ref06_Good_sp, ref14_Good_sp], 177⟩

set_option maxRecDepth 100000 in
theorem ref15_may_okB (Xr : T_ref15_Expr → Bool → Bool → Prop) (hX : ∀ (a0 : T_ref15_Expr) (a1 : Bool) (r0 : Bool), Xr a0 a1 r0 → Pure Try.prog 29 (pencs CC [.v 29, .v 4] ([.d (.v 29 a0), .d (.v 4 a1)] : List (AD KK))) (tresA (([.v 4 r0] : List (DV KK)).map (dvA CC)))) : ∀ (a0 : T_ref15_Expr) (a1 : Bool) (r0 : Bool), ref15_may_B Xr a0 a1 r0 → Pure Try.prog 29 (pencs CC [.v 29, .v 4] ([.d (.v 29 a0), .d (.v 4 a1)] : List (AD KK))) (tresA (([.v 4 r0] : List (DV KK)).map (dvA CC))) := by
  intro a0 a1 r0 h
  refine DnF_by (F := ref15_may_cf Xr) CC_ok (SsOk_c ?_ (SsOk_c ref06_Good_ok (SsOk_c ref14_Good_ok SsOk_n))) t29 (A := ref15_may_an) (ps := [.v 29, .v 4]) (rs := [4]) (env := [.d (.v 29 a0), .d (.v 4 a1)]) (r := [.v 4 r0]) (X := ref15_may_B Xr a0 a1 r0) rfl (Nat.le_of_ble_eq_true rfl) rfl (fun G hG => by simp at hG) h ?_
  · clear h r0
    intro env r hF h
    obtain ⟨a0, env0, rfl, h1⟩ := appW_v h
    obtain ⟨a1, env1, rfl, h2⟩ := appW_v h1
    obtain ⟨rfl, h3⟩ := appW_n h2
    obtain ⟨r0, rr0, rfl, h4⟩ := apR_v h3
    obtain ⟨rfl, h5⟩ := apR_n h4
    exact ⟨rfl, hX a0 a1 r0 h5⟩
  · kernel_rfl
set_option maxRecDepth 100000 in
theorem ref15_may_ok : SpOk Try.prog CC ref15_may_sp := by
  intro env r hF h
  obtain ⟨a0, env0, rfl, h1⟩ := appW_v h
  obtain ⟨a1, env1, rfl, h2⟩ := appW_v h1
  obtain ⟨rfl, h3⟩ := appW_n h2
  obtain ⟨r0, rr0, rfl, h4⟩ := apR_v h3
  obtain ⟨rfl, h5⟩ := apR_n h4
  exact ⟨rfl, h5 (fun a0 a1 r0 =>  Pure Try.prog 29 (pencs CC [.v 29, .v 4] ([.d (.v 29 a0), .d (.v 4 a1)] : List (AD KK))) (tresA (([.v 4 r0] : List (DV KK)).map (dvA CC)))) (fun a0 a1 r0 h => ref15_may_okB _ (fun a0 a1 r0 h => h) a0 a1 r0 h)⟩

def ref15_Good_o (a0 : T_ref15_Expr) (r0 : Bool) : Prop :=
  ∃ z1 : Int, (ref15_Depth_o (T_ref15_Expr.mk a0.Kind a0.Op (⟨a0.V.Kind, a0.V.N, a0.V.S⟩ : T_ref06_Value) a0.Table a0.Name a0.L) z1) ∧ cnd (decide (z1 ≤ (20 : Int))) (∃ z2 : Bool, (ref15_may_o (T_ref15_Expr.mk a0.Kind a0.Op (⟨a0.V.Kind, a0.V.N, a0.V.S⟩ : T_ref06_Value) a0.Table a0.Name a0.L) false z2) ∧ z2 = r0) (false = r0)
noncomputable def ref15_Good_sp : Sp KK := ⟨8, [.v 29], [4], appW (K := KK) [4] [.v 29] ref15_Good_o⟩
noncomputable def ref15_Good_an : An KK := (.s .o (.s .o .o))
noncomputable def ref15_Good_cf : Cf KK := ⟨CC, [ref15_Depth_sp, ref15_may_sp], 10⟩

set_option maxRecDepth 100000 in
theorem ref15_Good_ok : SpOk Try.prog CC ref15_Good_sp := by
  intro env r hF h
  obtain ⟨a0, env0, rfl, h1⟩ := appW_v h
  obtain ⟨rfl, h2⟩ := appW_n h1
  obtain ⟨r0, rr0, rfl, h3⟩ := apR_v h2
  obtain ⟨rfl, h4⟩ := apR_n h3
  refine ⟨rfl, DnF_by (F := ref15_Good_cf) CC_ok (SsOk_c ref15_Depth_ok (SsOk_c ref15_may_ok SsOk_n)) t8 (A := ref15_Good_an) (ps := [.v 29]) (rs := [4]) (env := [.d (.v 29 a0)]) (r := [.v 4 r0]) (X := ref15_Good_o a0 r0) rfl (Nat.le_of_ble_eq_true rfl) rfl hF h4 ?_⟩
  kernel_rfl

def ref20_Aggregates_L2 (a0 : T_ref15_Expr) (Xr : T_ref15_Expr → (List T_ref15_Expr) → Prop) (r0 : (List T_ref15_Expr)) (X2 : Int → (List T_ref15_Expr) → Prop) (x2 : Int) (x3 : (List T_ref15_Expr)) : Prop :=
  (a0.L.length ≤ maxLen → cnd (decide (x2 < (a0.L.length : Int))) ((0 ≤ x2) ∧ (x2 < (a0.L.length : Int)) ∧ ∃ y4 : T_ref15_Expr, (a0.L[x2.toNat]? = some y4) ∧ ∃ z5 : (List T_ref15_Expr), (Xr (T_ref15_Expr.mk y4.Kind y4.Op (⟨y4.V.Kind, y4.V.N, y4.V.S⟩ : T_ref06_Value) y4.Table y4.Name y4.L) z5) ∧ (x3.length ≤ 1000000000) ∧ (z5.length ≤ 400000000) ∧ X2 (IntKind.i64.wrap (x2 + (1 : Int))) (x3 ++ z5)) (x3 = r0))
def ref20_Aggregates_J1 (a0 : T_ref15_Expr) (Xr : T_ref15_Expr → (List T_ref15_Expr) → Prop) (r0 : (List T_ref15_Expr)) (x1 : (List T_ref15_Expr)) : Prop :=
  ∀ X2 : Int → (List T_ref15_Expr) → Prop, (∀ (x2 : Int) (x3 : (List T_ref15_Expr)), ref20_Aggregates_L2 a0 Xr r0 X2 x2 x3 → X2 x2 x3) → X2 (0 : Int) x1
def ref20_Aggregates_B (Xr : T_ref15_Expr → (List T_ref15_Expr) → Prop) (a0 : T_ref15_Expr) (r0 : (List T_ref15_Expr)) : Prop :=
  ∀ J1 : (List T_ref15_Expr) → Prop, (∀ (x1 : (List T_ref15_Expr)), ref20_Aggregates_J1 a0 Xr r0 x1 → J1 x1) → cnd (a0.Kind == (8 : Int)) (J1 ([(T_ref15_Expr.mk a0.Kind a0.Op (⟨a0.V.Kind, a0.V.N, a0.V.S⟩ : T_ref06_Value) a0.Table a0.Name a0.L)] : List T_ref15_Expr)) (J1 ([] : List T_ref15_Expr))
def ref20_Aggregates_o (a0 : T_ref15_Expr) (r0 : (List T_ref15_Expr)) : Prop := ∀ Xr : T_ref15_Expr → (List T_ref15_Expr) → Prop, (∀ (a0 : T_ref15_Expr) (r0 : (List T_ref15_Expr)), ref20_Aggregates_B Xr a0 r0 → Xr a0 r0) → Xr a0 r0
def ref20_Aggregates_L2i (Xr : T_ref15_Expr → (List T_ref15_Expr) → Prop) (a0 : T_ref15_Expr) (r0 : (List T_ref15_Expr)) (X2 : Int → (List T_ref15_Expr) → Prop) (x2 : Int) (x3 : (List T_ref15_Expr)) : Prop :=
  (a0.L.length ≤ maxLen → cnd (decide (x2 < (a0.L.length : Int))) ((0 ≤ x2) ∧ (x2 < (a0.L.length : Int)) ∧ ∃ y4 : T_ref15_Expr, (a0.L[x2.toNat]? = some y4) ∧ ∃ z5 : (List T_ref15_Expr), (Xr (T_ref15_Expr.mk y4.Kind y4.Op (⟨y4.V.Kind, y4.V.N, y4.V.S⟩ : T_ref06_Value) y4.Table y4.Name y4.L) z5) ∧ (x3.length ≤ 1000000000) ∧ (z5.length ≤ 400000000) ∧ X2 (IntKind.i64.wrap (x2 + (1 : Int))) (x3 ++ z5)) (x3 = r0))
def ref20_Aggregates_J1i (Xr : T_ref15_Expr → (List T_ref15_Expr) → Prop) (a0 : T_ref15_Expr) (r0 : (List T_ref15_Expr)) (x1 : (List T_ref15_Expr)) : Prop :=
  ∀ X2 : Int → (List T_ref15_Expr) → Prop, (∀ (x2 : Int) (x3 : (List T_ref15_Expr)), ref20_Aggregates_L2i Xr a0 r0 X2 x2 x3 → X2 x2 x3) → X2 (0 : Int) x1
def ref20_Aggregates_Bi (Xr : T_ref15_Expr → (List T_ref15_Expr) → Prop) (a0 : T_ref15_Expr) (r0 : (List T_ref15_Expr)) : Prop :=
  cnd (a0.Kind == (8 : Int)) (ref20_Aggregates_J1i Xr a0 r0 ([(T_ref15_Expr.mk a0.Kind a0.Op (⟨a0.V.Kind, a0.V.N, a0.V.S⟩ : T_ref06_Value) a0.Table a0.Name a0.L)] : List T_ref15_Expr)) (ref20_Aggregates_J1i Xr a0 r0 ([] : List T_ref15_Expr))
theorem ref20_Aggregates_L2_m (Xr : T_ref15_Expr → (List T_ref15_Expr) → Prop) (a0 : T_ref15_Expr) (r0 : (List T_ref15_Expr)) {X2 : Int → (List T_ref15_Expr) → Prop} {x2 : Int} {x3 : (List T_ref15_Expr)} (h : ref20_Aggregates_L2i Xr a0 r0 X2 x2 x3) : ref20_Aggregates_L2 a0 Xr r0 X2 x2 x3 := by
  unfold ref20_Aggregates_L2
  unfold ref20_Aggregates_L2i at h
  exact h
theorem ref20_Aggregates_J1_m (Xr : T_ref15_Expr → (List T_ref15_Expr) → Prop) (a0 : T_ref15_Expr) (r0 : (List T_ref15_Expr)) {x1 : (List T_ref15_Expr)} (h : ref20_Aggregates_J1i Xr a0 r0 x1) : ref20_Aggregates_J1 a0 Xr r0 x1 := by
  unfold ref20_Aggregates_J1
  unfold ref20_Aggregates_J1i at h
  intro X2 k
  exact h X2 (fun x2 x3 q => k x2 x3 (ref20_Aggregates_L2_m Xr a0 r0 q))
theorem ref20_Aggregates_Bm (Xr : T_ref15_Expr → (List T_ref15_Expr) → Prop) (a0 : T_ref15_Expr) (r0 : (List T_ref15_Expr)) (h : ref20_Aggregates_Bi Xr a0 r0) : ref20_Aggregates_B Xr a0 r0 := by
  unfold ref20_Aggregates_B
  unfold ref20_Aggregates_Bi at h
  intro J1 kJ1
  have hJ1 : ∀ (x1 : (List T_ref15_Expr)), ref20_Aggregates_J1i Xr a0 r0 x1 → J1 x1 := fun x1 q => kJ1 x1 (ref20_Aggregates_J1_m Xr a0 r0 q)
  refine cnd_mono h (fun h => ?_) (fun h => ?_)
  · exact hJ1 _ h
  · exact hJ1 _ h
theorem ref20_Aggregates_i (a0 : T_ref15_Expr) (r0 : (List T_ref15_Expr)) (h : ∀ Xr : T_ref15_Expr → (List T_ref15_Expr) → Prop, (∀ (a0 : T_ref15_Expr) (r0 : (List T_ref15_Expr)), ref20_Aggregates_Bi Xr a0 r0 → Xr a0 r0) → Xr a0 r0) : ref20_Aggregates_o a0 r0 := fun Xr k => h Xr fun a0 r0 q => k a0 r0 (ref20_Aggregates_Bm Xr a0 r0 q)
noncomputable def ref20_Aggregates_sp : Sp KK := ⟨10, [.v 29], [27], appW (K := KK) [27] [.v 29] ref20_Aggregates_o⟩
noncomputable def ref20_Aggregates_an : An KK := (.s .o (.s .o (.j ⟨[(1, .px 1 0), (3, .row 11)], [(1, 29, [.kp 1, .kp 2, .kp 3, .kp 4, .kp 5, .kp 6, .kp 7, .kp 8])], [(11, 29)]⟩ (.s .o (.c .o .o)) (fun _ => (.s (.s .o (.b (.l ⟨[(1, .px 1 0), (3, .row 11), (4, .it .i64)], [(1, 29, [.kp 1, .kp 2, .kp 3, .kp 4, .kp 5, .kp 6, .kp 7, .kp 8])], [(11, 29)]⟩ (fun _ => (.s (.s .o (.c .o .o)) (.s (.b .o) .o)))))) (.s .o .o))))))
noncomputable def ref20_Aggregates_cf (Xr : WTy KK [27] [.v 29]) : Cf KK := ⟨CC, [⟨10, [.v 29], [27], appW (K := KK) [27] [.v 29] Xr⟩], 28⟩

set_option maxRecDepth 100000 in
theorem ref20_Aggregates_okB (Xr : T_ref15_Expr → (List T_ref15_Expr) → Prop) (hX : ∀ (a0 : T_ref15_Expr) (r0 : (List T_ref15_Expr)), Xr a0 r0 → Pure Try.prog 10 (pencs CC [.v 29] ([.d (.v 29 a0)] : List (AD KK))) (tresA (([.v 27 r0] : List (DV KK)).map (dvA CC)))) : ∀ (a0 : T_ref15_Expr) (r0 : (List T_ref15_Expr)), ref20_Aggregates_B Xr a0 r0 → Pure Try.prog 10 (pencs CC [.v 29] ([.d (.v 29 a0)] : List (AD KK))) (tresA (([.v 27 r0] : List (DV KK)).map (dvA CC))) := by
  intro a0 r0 h
  refine DnF_by (F := ref20_Aggregates_cf Xr) CC_ok (SsOk_c ?_ SsOk_n) t10 (A := ref20_Aggregates_an) (ps := [.v 29]) (rs := [27]) (env := [.d (.v 29 a0)]) (r := [.v 27 r0]) (X := ref20_Aggregates_B Xr a0 r0) rfl (Nat.le_of_ble_eq_true rfl) rfl (fun G hG => by simp at hG) h ?_
  · clear h r0
    intro env r hF h
    obtain ⟨a0, env0, rfl, h1⟩ := appW_v h
    obtain ⟨rfl, h2⟩ := appW_n h1
    obtain ⟨r0, rr0, rfl, h3⟩ := apR_v h2
    obtain ⟨rfl, h4⟩ := apR_n h3
    exact ⟨rfl, hX a0 r0 h4⟩
  · kernel_rfl
set_option maxRecDepth 100000 in
theorem ref20_Aggregates_ok : SpOk Try.prog CC ref20_Aggregates_sp := by
  intro env r hF h
  obtain ⟨a0, env0, rfl, h1⟩ := appW_v h
  obtain ⟨rfl, h2⟩ := appW_n h1
  obtain ⟨r0, rr0, rfl, h3⟩ := apR_v h2
  obtain ⟨rfl, h4⟩ := apR_n h3
  exact ⟨rfl, h4 (fun a0 r0 =>  Pure Try.prog 10 (pencs CC [.v 29] ([.d (.v 29 a0)] : List (AD KK))) (tresA (([.v 27 r0] : List (DV KK)).map (dvA CC)))) (fun a0 r0 h => ref20_Aggregates_okB _ (fun a0 r0 h => h) a0 r0 h)⟩

def law17_Told_L1 (a0 : T_ref15_Expr) (Xr : T_ref15_Expr → T_expr_Expr → Prop) (r0 : T_expr_Expr) (X1 : Int → (List T_expr_Expr) → Prop) (x1 : Int) (x2 : (List T_expr_Expr)) : Prop :=
  (a0.L.length ≤ maxLen → cnd (decide (x1 < (a0.L.length : Int))) ((0 ≤ x1) ∧ (x1 < (a0.L.length : Int)) ∧ ∃ y3 : T_ref15_Expr, (a0.L[x1.toNat]? = some y3) ∧ ∃ z4 : T_expr_Expr, (Xr (T_ref15_Expr.mk y3.Kind y3.Op (⟨y3.V.Kind, y3.V.N, y3.V.S⟩ : T_ref06_Value) y3.Table y3.Name y3.L) z4) ∧ (x2.length ≤ 1000000000) ∧ X1 (IntKind.i64.wrap (x1 + (1 : Int))) (x2 ++ ([(T_expr_Expr.mk z4.Kind z4.Op (⟨z4.V.Kind, z4.V.N, z4.V.S⟩ : T_value_Value) z4.Table z4.Name z4.L)] : List T_expr_Expr))) ((T_expr_Expr.mk a0.Kind a0.Op (⟨a0.V.Kind, a0.V.N, a0.V.S⟩ : T_value_Value) a0.Table a0.Name x2) = r0))
def law17_Told_B (Xr : T_ref15_Expr → T_expr_Expr → Prop) (a0 : T_ref15_Expr) (r0 : T_expr_Expr) : Prop :=
  ∀ X1 : Int → (List T_expr_Expr) → Prop, (∀ (x1 : Int) (x2 : (List T_expr_Expr)), law17_Told_L1 a0 Xr r0 X1 x1 x2 → X1 x1 x2) → X1 (0 : Int) ([] : List T_expr_Expr)
def law17_Told_o (a0 : T_ref15_Expr) (r0 : T_expr_Expr) : Prop := ∀ Xr : T_ref15_Expr → T_expr_Expr → Prop, (∀ (a0 : T_ref15_Expr) (r0 : T_expr_Expr), law17_Told_B Xr a0 r0 → Xr a0 r0) → Xr a0 r0
def law17_Told_L1i (Xr : T_ref15_Expr → T_expr_Expr → Prop) (a0 : T_ref15_Expr) (r0 : T_expr_Expr) (X1 : Int → (List T_expr_Expr) → Prop) (x1 : Int) (x2 : (List T_expr_Expr)) : Prop :=
  (a0.L.length ≤ maxLen → cnd (decide (x1 < (a0.L.length : Int))) ((0 ≤ x1) ∧ (x1 < (a0.L.length : Int)) ∧ ∃ y3 : T_ref15_Expr, (a0.L[x1.toNat]? = some y3) ∧ ∃ z4 : T_expr_Expr, (Xr (T_ref15_Expr.mk y3.Kind y3.Op (⟨y3.V.Kind, y3.V.N, y3.V.S⟩ : T_ref06_Value) y3.Table y3.Name y3.L) z4) ∧ (x2.length ≤ 1000000000) ∧ X1 (IntKind.i64.wrap (x1 + (1 : Int))) (x2 ++ ([(T_expr_Expr.mk z4.Kind z4.Op (⟨z4.V.Kind, z4.V.N, z4.V.S⟩ : T_value_Value) z4.Table z4.Name z4.L)] : List T_expr_Expr))) ((T_expr_Expr.mk a0.Kind a0.Op (⟨a0.V.Kind, a0.V.N, a0.V.S⟩ : T_value_Value) a0.Table a0.Name x2) = r0))
def law17_Told_Bi (Xr : T_ref15_Expr → T_expr_Expr → Prop) (a0 : T_ref15_Expr) (r0 : T_expr_Expr) : Prop :=
  ∀ X1 : Int → (List T_expr_Expr) → Prop, (∀ (x1 : Int) (x2 : (List T_expr_Expr)), law17_Told_L1i Xr a0 r0 X1 x1 x2 → X1 x1 x2) → X1 (0 : Int) ([] : List T_expr_Expr)
theorem law17_Told_L1_m (Xr : T_ref15_Expr → T_expr_Expr → Prop) (a0 : T_ref15_Expr) (r0 : T_expr_Expr) {X1 : Int → (List T_expr_Expr) → Prop} {x1 : Int} {x2 : (List T_expr_Expr)} (h : law17_Told_L1i Xr a0 r0 X1 x1 x2) : law17_Told_L1 a0 Xr r0 X1 x1 x2 := by
  unfold law17_Told_L1
  unfold law17_Told_L1i at h
  exact h
theorem law17_Told_Bm (Xr : T_ref15_Expr → T_expr_Expr → Prop) (a0 : T_ref15_Expr) (r0 : T_expr_Expr) (h : law17_Told_Bi Xr a0 r0) : law17_Told_B Xr a0 r0 := by
  unfold law17_Told_B
  unfold law17_Told_Bi at h
  intro X1 k
  exact h X1 (fun x1 x2 q => k x1 x2 (law17_Told_L1_m Xr a0 r0 q))
theorem law17_Told_i (a0 : T_ref15_Expr) (r0 : T_expr_Expr) (h : ∀ Xr : T_ref15_Expr → T_expr_Expr → Prop, (∀ (a0 : T_ref15_Expr) (r0 : T_expr_Expr), law17_Told_Bi Xr a0 r0 → Xr a0 r0) → Xr a0 r0) : law17_Told_o a0 r0 := fun Xr k => h Xr fun a0 r0 q => k a0 r0 (law17_Told_Bm Xr a0 r0 q)
noncomputable def law17_Told_sp : Sp KK := ⟨11, [.v 29], [38], appW (K := KK) [38] [.v 29] law17_Told_o⟩
noncomputable def law17_Told_an : An KK := (.s .o (.s .o (.s (.s .o (.b (.l ⟨[(1, .px 1 0), (2, .px 2 0), (3, .px 3 0), (4, .it .i64)], [(1, 29, [.kp 27, .kp 28, .kp 29, .kp 30, .kp 31, .kp 32, .kp 33, .kp 34]), (2, 38, [.kp 35, .kp 36, .kp 37, .kp 38, .kp 39, .kp 40, .kp 41, .kp 42]), (3, 38, [.kp 43, .kp 44, .kp 45, .kp 46, .kp 47, .kp 48, .kp 49, .row 32])], [(32, 38)]⟩ (fun _ => (.s (.s .o (.c .o .o)) (.s (.b .o) .o)))))) (.s .o .o))))
noncomputable def law17_Told_cf (Xr : WTy KK [38] [.v 29]) : Cf KK := ⟨CC, [⟨11, [.v 29], [38], appW (K := KK) [38] [.v 29] Xr⟩], 35⟩

set_option maxRecDepth 100000 in
theorem law17_Told_okB (Xr : T_ref15_Expr → T_expr_Expr → Prop) (hX : ∀ (a0 : T_ref15_Expr) (r0 : T_expr_Expr), Xr a0 r0 → Pure Try.prog 11 (pencs CC [.v 29] ([.d (.v 29 a0)] : List (AD KK))) (tresA (([.v 38 r0] : List (DV KK)).map (dvA CC)))) : ∀ (a0 : T_ref15_Expr) (r0 : T_expr_Expr), law17_Told_B Xr a0 r0 → Pure Try.prog 11 (pencs CC [.v 29] ([.d (.v 29 a0)] : List (AD KK))) (tresA (([.v 38 r0] : List (DV KK)).map (dvA CC))) := by
  intro a0 r0 h
  refine DnF_by (F := law17_Told_cf Xr) CC_ok (SsOk_c ?_ SsOk_n) t11 (A := law17_Told_an) (ps := [.v 29]) (rs := [38]) (env := [.d (.v 29 a0)]) (r := [.v 38 r0]) (X := law17_Told_B Xr a0 r0) rfl (Nat.le_of_ble_eq_true rfl) rfl (fun G hG => by simp at hG) h ?_
  · clear h r0
    intro env r hF h
    obtain ⟨a0, env0, rfl, h1⟩ := appW_v h
    obtain ⟨rfl, h2⟩ := appW_n h1
    obtain ⟨r0, rr0, rfl, h3⟩ := apR_v h2
    obtain ⟨rfl, h4⟩ := apR_n h3
    exact ⟨rfl, hX a0 r0 h4⟩
  · kernel_rfl
set_option maxRecDepth 100000 in
theorem law17_Told_ok : SpOk Try.prog CC law17_Told_sp := by
  intro env r hF h
  obtain ⟨a0, env0, rfl, h1⟩ := appW_v h
  obtain ⟨rfl, h2⟩ := appW_n h1
  obtain ⟨r0, rr0, rfl, h3⟩ := apR_v h2
  obtain ⟨rfl, h4⟩ := apR_n h3
  exact ⟨rfl, h4 (fun a0 r0 =>  Pure Try.prog 11 (pencs CC [.v 29] ([.d (.v 29 a0)] : List (AD KK))) (tresA (([.v 38 r0] : List (DV KK)).map (dvA CC)))) (fun a0 r0 h => law17_Told_okB _ (fun a0 r0 h => h) a0 r0 h)⟩

def law20_row_J4 (X1 : Int → (List T_check_Field) → (List T_ref20_Field) → (List T_value_Value) → (List T_ref06_Value) → Prop) (x1 : Int) (y11 : T_law20_Cell) (x18 : Int) (x19 : Int) (x20 : Str) (x21 : (List T_check_Field)) (x22 : (List T_ref20_Field)) (x23 : (List T_value_Value)) (x24 : (List T_ref06_Value)) : Prop :=
  (x21.length ≤ 1000000000) ∧ (x22.length ≤ 1000000000) ∧ (x23.length ≤ 1000000000) ∧ (x24.length ≤ 1000000000) ∧ X1 (IntKind.i64.wrap (x1 + (1 : Int))) (x21 ++ ([(⟨((([([116] : Str), ([117] : Str)] : List Str)[(y11.Table.tmod (2 : Int)).toNat]?).getD []), ((([([97] : Str), ([98] : Str), ([99, 49] : Str), ([110] : Str)] : List Str)[(y11.Name.tmod (4 : Int)).toNat]?).getD []), IntKind.i64.wrap ((1 : Int) + (IntKind.i64.wrap (y11.Kind.tmod (3 : Int))))⟩ : T_check_Field)] : List T_check_Field)) (x22 ++ ([(⟨((([([116] : Str), ([117] : Str)] : List Str)[(y11.Table.tmod (2 : Int)).toNat]?).getD []), ((([([97] : Str), ([98] : Str), ([99, 49] : Str), ([110] : Str)] : List Str)[(y11.Name.tmod (4 : Int)).toNat]?).getD []), IntKind.i64.wrap ((1 : Int) + (IntKind.i64.wrap (y11.Kind.tmod (3 : Int))))⟩ : T_ref20_Field)] : List T_ref20_Field)) (x23 ++ ([(⟨x18, x19, x20⟩ : T_value_Value)] : List T_value_Value)) (x24 ++ ([(⟨x18, x19, x20⟩ : T_ref06_Value)] : List T_ref06_Value))
def law20_row_J3 (X1 : Int → (List T_check_Field) → (List T_ref20_Field) → (List T_value_Value) → (List T_ref06_Value) → Prop) (x1 : Int) (y11 : T_law20_Cell) (x12 : Int) (x13 : Str) (x14 : (List T_check_Field)) (x15 : (List T_ref20_Field)) (x16 : (List T_value_Value)) (x17 : (List T_ref06_Value)) : Prop :=
  ∀ J4 : Int → Int → Str → (List T_check_Field) → (List T_ref20_Field) → (List T_value_Value) → (List T_ref06_Value) → Prop, (∀ (x18 : Int) (x19 : Int) (x20 : Str) (x21 : (List T_check_Field)) (x22 : (List T_ref20_Field)) (x23 : (List T_value_Value)) (x24 : (List T_ref06_Value)), law20_row_J4 X1 x1 y11 x18 x19 x20 x21 x22 x23 x24 → J4 x18 x19 x20 x21 x22 x23 x24) → cnd y11.Null (J4 (0 : Int) (0 : Int) ([] : Str) x14 x15 x16 x17) (J4 (IntKind.i64.wrap ((1 : Int) + (IntKind.i64.wrap (y11.Kind.tmod (3 : Int))))) x12 x13 x14 x15 x16 x17)
def law20_row_J2 (x1 : Int) (a0 : (List T_law20_Cell)) (X1 : Int → (List T_check_Field) → (List T_ref20_Field) → (List T_value_Value) → (List T_ref06_Value) → Prop) (r0 : (List T_check_Field)) (r1 : (List T_ref20_Field)) (r2 : (List T_value_Value)) (r3 : (List T_ref06_Value)) (x6 : Bool) (x7 : (List T_check_Field)) (x8 : (List T_ref20_Field)) (x9 : (List T_value_Value)) (x10 : (List T_ref06_Value)) : Prop :=
  cnd x6 ((0 ≤ x1) ∧ (x1 < (a0.length : Int)) ∧ ∃ y11 : T_law20_Cell, (a0[x1.toNat]? = some y11) ∧ (0 ≤ (y11.Table.tmod (2 : Int)) ∧ (y11.Table.tmod (2 : Int)) < (2 : Nat)) ∧ (0 ≤ (y11.Name.tmod (4 : Int)) ∧ (y11.Name.tmod (4 : Int)) < (4 : Nat)) ∧ ∀ J3 : Int → Str → (List T_check_Field) → (List T_ref20_Field) → (List T_value_Value) → (List T_ref06_Value) → Prop, (∀ (x12 : Int) (x13 : Str) (x14 : (List T_check_Field)) (x15 : (List T_ref20_Field)) (x16 : (List T_value_Value)) (x17 : (List T_ref06_Value)), law20_row_J3 X1 x1 y11 x12 x13 x14 x15 x16 x17 → J3 x12 x13 x14 x15 x16 x17) → cnd ((IntKind.i64.wrap ((1 : Int) + (IntKind.i64.wrap (y11.Kind.tmod (3 : Int))))) == (1 : Int)) (J3 (bits .and .i64 y11.N (1 : Int)) ([] : Str) x7 x8 x9 x10) (cnd ((IntKind.i64.wrap ((1 : Int) + (IntKind.i64.wrap (y11.Kind.tmod (3 : Int))))) == (2 : Int)) (J3 y11.N ([] : Str) x7 x8 x9 x10) (cnd ((IntKind.i64.wrap ((1 : Int) + (IntKind.i64.wrap (y11.Kind.tmod (3 : Int))))) == (3 : Int)) ((0 ≤ (0 : Int) ∧ (0 : Int) ≤ (if (64 : Int) < (y11.S.length : Int) then (64 : Int) else (y11.S.length : Int)) ∧ (if (64 : Int) < (y11.S.length : Int) then (64 : Int) else (y11.S.length : Int)) ≤ (y11.S.length : Int)) ∧ J3 (0 : Int) ((y11.S.drop (0 : Int).toNat).take ((if (64 : Int) < (y11.S.length : Int) then (64 : Int) else (y11.S.length : Int)).toNat - (0 : Int).toNat)) x7 x8 x9 x10) (J3 (0 : Int) ([] : Str) x7 x8 x9 x10)))) (x7 = r0 ∧ x8 = r1 ∧ x9 = r2 ∧ x10 = r3)
def law20_row_L1 (a0 : (List T_law20_Cell)) (r0 : (List T_check_Field)) (r1 : (List T_ref20_Field)) (r2 : (List T_value_Value)) (r3 : (List T_ref06_Value)) (X1 : Int → (List T_check_Field) → (List T_ref20_Field) → (List T_value_Value) → (List T_ref06_Value) → Prop) (x1 : Int) (x2 : (List T_check_Field)) (x3 : (List T_ref20_Field)) (x4 : (List T_value_Value)) (x5 : (List T_ref06_Value)) : Prop :=
  ∀ J2 : Bool → (List T_check_Field) → (List T_ref20_Field) → (List T_value_Value) → (List T_ref06_Value) → Prop, (∀ (x6 : Bool) (x7 : (List T_check_Field)) (x8 : (List T_ref20_Field)) (x9 : (List T_value_Value)) (x10 : (List T_ref06_Value)), law20_row_J2 x1 a0 X1 r0 r1 r2 r3 x6 x7 x8 x9 x10 → J2 x6 x7 x8 x9 x10) → (a0.length ≤ maxLen → cnd (decide (x1 < (a0.length : Int))) (J2 (decide (x1 < (6 : Int))) x2 x3 x4 x5) (J2 false x2 x3 x4 x5))
def law20_row_o (a0 : (List T_law20_Cell)) (r0 : (List T_check_Field)) (r1 : (List T_ref20_Field)) (r2 : (List T_value_Value)) (r3 : (List T_ref06_Value)) : Prop :=
  ∀ X1 : Int → (List T_check_Field) → (List T_ref20_Field) → (List T_value_Value) → (List T_ref06_Value) → Prop, (∀ (x1 : Int) (x2 : (List T_check_Field)) (x3 : (List T_ref20_Field)) (x4 : (List T_value_Value)) (x5 : (List T_ref06_Value)), law20_row_L1 a0 r0 r1 r2 r3 X1 x1 x2 x3 x4 x5 → X1 x1 x2 x3 x4 x5) → X1 (0 : Int) ([] : List T_check_Field) ([] : List T_ref20_Field) ([] : List T_value_Value) ([] : List T_ref06_Value)
def law20_row_J4i (X1 : Int → (List T_check_Field) → (List T_ref20_Field) → (List T_value_Value) → (List T_ref06_Value) → Prop) (x1 : Int) (y11 : T_law20_Cell) (x18 : Int) (x19 : Int) (x20 : Str) (x21 : (List T_check_Field)) (x22 : (List T_ref20_Field)) (x23 : (List T_value_Value)) (x24 : (List T_ref06_Value)) : Prop :=
  (x21.length ≤ 1000000000) ∧ (x22.length ≤ 1000000000) ∧ (x23.length ≤ 1000000000) ∧ (x24.length ≤ 1000000000) ∧ X1 (IntKind.i64.wrap (x1 + (1 : Int))) (x21 ++ ([(⟨((([([116] : Str), ([117] : Str)] : List Str)[(y11.Table.tmod (2 : Int)).toNat]?).getD []), ((([([97] : Str), ([98] : Str), ([99, 49] : Str), ([110] : Str)] : List Str)[(y11.Name.tmod (4 : Int)).toNat]?).getD []), IntKind.i64.wrap ((1 : Int) + (IntKind.i64.wrap (y11.Kind.tmod (3 : Int))))⟩ : T_check_Field)] : List T_check_Field)) (x22 ++ ([(⟨((([([116] : Str), ([117] : Str)] : List Str)[(y11.Table.tmod (2 : Int)).toNat]?).getD []), ((([([97] : Str), ([98] : Str), ([99, 49] : Str), ([110] : Str)] : List Str)[(y11.Name.tmod (4 : Int)).toNat]?).getD []), IntKind.i64.wrap ((1 : Int) + (IntKind.i64.wrap (y11.Kind.tmod (3 : Int))))⟩ : T_ref20_Field)] : List T_ref20_Field)) (x23 ++ ([(⟨x18, x19, x20⟩ : T_value_Value)] : List T_value_Value)) (x24 ++ ([(⟨x18, x19, x20⟩ : T_ref06_Value)] : List T_ref06_Value))
def law20_row_J3i (X1 : Int → (List T_check_Field) → (List T_ref20_Field) → (List T_value_Value) → (List T_ref06_Value) → Prop) (x1 : Int) (y11 : T_law20_Cell) (x12 : Int) (x13 : Str) (x14 : (List T_check_Field)) (x15 : (List T_ref20_Field)) (x16 : (List T_value_Value)) (x17 : (List T_ref06_Value)) : Prop :=
  cnd y11.Null (law20_row_J4i X1 x1 y11 (0 : Int) (0 : Int) ([] : Str) x14 x15 x16 x17) (law20_row_J4i X1 x1 y11 (IntKind.i64.wrap ((1 : Int) + (IntKind.i64.wrap (y11.Kind.tmod (3 : Int))))) x12 x13 x14 x15 x16 x17)
def law20_row_J2i (X1 : Int → (List T_check_Field) → (List T_ref20_Field) → (List T_value_Value) → (List T_ref06_Value) → Prop) (a0 : (List T_law20_Cell)) (r0 : (List T_check_Field)) (r1 : (List T_ref20_Field)) (r2 : (List T_value_Value)) (r3 : (List T_ref06_Value)) (x1 : Int) (x6 : Bool) (x7 : (List T_check_Field)) (x8 : (List T_ref20_Field)) (x9 : (List T_value_Value)) (x10 : (List T_ref06_Value)) : Prop :=
  cnd x6 ((0 ≤ x1) ∧ (x1 < (a0.length : Int)) ∧ ∃ y11 : T_law20_Cell, (a0[x1.toNat]? = some y11) ∧ (0 ≤ (y11.Table.tmod (2 : Int)) ∧ (y11.Table.tmod (2 : Int)) < (2 : Nat)) ∧ (0 ≤ (y11.Name.tmod (4 : Int)) ∧ (y11.Name.tmod (4 : Int)) < (4 : Nat)) ∧ cnd ((IntKind.i64.wrap ((1 : Int) + (IntKind.i64.wrap (y11.Kind.tmod (3 : Int))))) == (1 : Int)) (law20_row_J3i X1 x1 y11 (bits .and .i64 y11.N (1 : Int)) ([] : Str) x7 x8 x9 x10) (cnd ((IntKind.i64.wrap ((1 : Int) + (IntKind.i64.wrap (y11.Kind.tmod (3 : Int))))) == (2 : Int)) (law20_row_J3i X1 x1 y11 y11.N ([] : Str) x7 x8 x9 x10) (cnd ((IntKind.i64.wrap ((1 : Int) + (IntKind.i64.wrap (y11.Kind.tmod (3 : Int))))) == (3 : Int)) ((0 ≤ (0 : Int) ∧ (0 : Int) ≤ (if (64 : Int) < (y11.S.length : Int) then (64 : Int) else (y11.S.length : Int)) ∧ (if (64 : Int) < (y11.S.length : Int) then (64 : Int) else (y11.S.length : Int)) ≤ (y11.S.length : Int)) ∧ law20_row_J3i X1 x1 y11 (0 : Int) ((y11.S.drop (0 : Int).toNat).take ((if (64 : Int) < (y11.S.length : Int) then (64 : Int) else (y11.S.length : Int)).toNat - (0 : Int).toNat)) x7 x8 x9 x10) (law20_row_J3i X1 x1 y11 (0 : Int) ([] : Str) x7 x8 x9 x10)))) (x7 = r0 ∧ x8 = r1 ∧ x9 = r2 ∧ x10 = r3)
def law20_row_L1i (a0 : (List T_law20_Cell)) (r0 : (List T_check_Field)) (r1 : (List T_ref20_Field)) (r2 : (List T_value_Value)) (r3 : (List T_ref06_Value)) (X1 : Int → (List T_check_Field) → (List T_ref20_Field) → (List T_value_Value) → (List T_ref06_Value) → Prop) (x1 : Int) (x2 : (List T_check_Field)) (x3 : (List T_ref20_Field)) (x4 : (List T_value_Value)) (x5 : (List T_ref06_Value)) : Prop :=
  (a0.length ≤ maxLen → cnd (decide (x1 < (a0.length : Int))) (law20_row_J2i X1 a0 r0 r1 r2 r3 x1 (decide (x1 < (6 : Int))) x2 x3 x4 x5) (law20_row_J2i X1 a0 r0 r1 r2 r3 x1 false x2 x3 x4 x5))
def law20_row_oi (a0 : (List T_law20_Cell)) (r0 : (List T_check_Field)) (r1 : (List T_ref20_Field)) (r2 : (List T_value_Value)) (r3 : (List T_ref06_Value)) : Prop :=
  ∀ X1 : Int → (List T_check_Field) → (List T_ref20_Field) → (List T_value_Value) → (List T_ref06_Value) → Prop, (∀ (x1 : Int) (x2 : (List T_check_Field)) (x3 : (List T_ref20_Field)) (x4 : (List T_value_Value)) (x5 : (List T_ref06_Value)), law20_row_L1i a0 r0 r1 r2 r3 X1 x1 x2 x3 x4 x5 → X1 x1 x2 x3 x4 x5) → X1 (0 : Int) ([] : List T_check_Field) ([] : List T_ref20_Field) ([] : List T_value_Value) ([] : List T_ref06_Value)
theorem law20_row_J4_m (X1 : Int → (List T_check_Field) → (List T_ref20_Field) → (List T_value_Value) → (List T_ref06_Value) → Prop) (x1 : Int) (y11 : T_law20_Cell) {x18 : Int} {x19 : Int} {x20 : Str} {x21 : (List T_check_Field)} {x22 : (List T_ref20_Field)} {x23 : (List T_value_Value)} {x24 : (List T_ref06_Value)} (h : law20_row_J4i X1 x1 y11 x18 x19 x20 x21 x22 x23 x24) : law20_row_J4 X1 x1 y11 x18 x19 x20 x21 x22 x23 x24 := by
  unfold law20_row_J4
  unfold law20_row_J4i at h
  exact h
theorem law20_row_J3_m (X1 : Int → (List T_check_Field) → (List T_ref20_Field) → (List T_value_Value) → (List T_ref06_Value) → Prop) (x1 : Int) (y11 : T_law20_Cell) {x12 : Int} {x13 : Str} {x14 : (List T_check_Field)} {x15 : (List T_ref20_Field)} {x16 : (List T_value_Value)} {x17 : (List T_ref06_Value)} (h : law20_row_J3i X1 x1 y11 x12 x13 x14 x15 x16 x17) : law20_row_J3 X1 x1 y11 x12 x13 x14 x15 x16 x17 := by
  unfold law20_row_J3
  unfold law20_row_J3i at h
  intro J4 kJ4
  have hJ4 : ∀ (x18 : Int) (x19 : Int) (x20 : Str) (x21 : (List T_check_Field)) (x22 : (List T_ref20_Field)) (x23 : (List T_value_Value)) (x24 : (List T_ref06_Value)), law20_row_J4i X1 x1 y11 x18 x19 x20 x21 x22 x23 x24 → J4 x18 x19 x20 x21 x22 x23 x24 := fun x18 x19 x20 x21 x22 x23 x24 q => kJ4 x18 x19 x20 x21 x22 x23 x24 (law20_row_J4_m X1 x1 y11 q)
  refine cnd_mono h (fun h => ?_) (fun h => ?_)
  · exact hJ4 _ _ _ _ _ _ _ h
  · exact hJ4 _ _ _ _ _ _ _ h
theorem law20_row_J2_m (X1 : Int → (List T_check_Field) → (List T_ref20_Field) → (List T_value_Value) → (List T_ref06_Value) → Prop) (a0 : (List T_law20_Cell)) (r0 : (List T_check_Field)) (r1 : (List T_ref20_Field)) (r2 : (List T_value_Value)) (r3 : (List T_ref06_Value)) (x1 : Int) {x6 : Bool} {x7 : (List T_check_Field)} {x8 : (List T_ref20_Field)} {x9 : (List T_value_Value)} {x10 : (List T_ref06_Value)} (h : law20_row_J2i X1 a0 r0 r1 r2 r3 x1 x6 x7 x8 x9 x10) : law20_row_J2 x1 a0 X1 r0 r1 r2 r3 x6 x7 x8 x9 x10 := by
  unfold law20_row_J2
  unfold law20_row_J2i at h
  refine cnd_mono h (fun h => ?_) (fun h => ?_)
  · obtain ⟨h0, h⟩ := h
    refine ⟨h0, ?_⟩
    obtain ⟨h0, h⟩ := h
    refine ⟨h0, ?_⟩
    obtain ⟨y11, h⟩ := h
    refine ⟨y11, ?_⟩
    obtain ⟨h0, h⟩ := h
    refine ⟨h0, ?_⟩
    obtain ⟨h0, h⟩ := h
    refine ⟨h0, ?_⟩
    obtain ⟨h0, h⟩ := h
    refine ⟨h0, ?_⟩
    intro J3 kJ3
    have hJ3 : ∀ (x12 : Int) (x13 : Str) (x14 : (List T_check_Field)) (x15 : (List T_ref20_Field)) (x16 : (List T_value_Value)) (x17 : (List T_ref06_Value)), law20_row_J3i X1 x1 y11 x12 x13 x14 x15 x16 x17 → J3 x12 x13 x14 x15 x16 x17 := fun x12 x13 x14 x15 x16 x17 q => kJ3 x12 x13 x14 x15 x16 x17 (law20_row_J3_m X1 x1 y11 q)
    refine cnd_mono h (fun h => ?_) (fun h => ?_)
    · exact hJ3 _ _ _ _ _ _ h
    · refine cnd_mono h (fun h => ?_) (fun h => ?_)
      · exact hJ3 _ _ _ _ _ _ h
      · refine cnd_mono h (fun h => ?_) (fun h => ?_)
        · obtain ⟨h0, h⟩ := h
          refine ⟨h0, ?_⟩
          exact hJ3 _ _ _ _ _ _ h
        · exact hJ3 _ _ _ _ _ _ h
  · exact h
theorem law20_row_L1_m (a0 : (List T_law20_Cell)) (r0 : (List T_check_Field)) (r1 : (List T_ref20_Field)) (r2 : (List T_value_Value)) (r3 : (List T_ref06_Value)) {X1 : Int → (List T_check_Field) → (List T_ref20_Field) → (List T_value_Value) → (List T_ref06_Value) → Prop} {x1 : Int} {x2 : (List T_check_Field)} {x3 : (List T_ref20_Field)} {x4 : (List T_value_Value)} {x5 : (List T_ref06_Value)} (h : law20_row_L1i a0 r0 r1 r2 r3 X1 x1 x2 x3 x4 x5) : law20_row_L1 a0 r0 r1 r2 r3 X1 x1 x2 x3 x4 x5 := by
  unfold law20_row_L1
  unfold law20_row_L1i at h
  intro J2 kJ2
  have hJ2 : ∀ (x6 : Bool) (x7 : (List T_check_Field)) (x8 : (List T_ref20_Field)) (x9 : (List T_value_Value)) (x10 : (List T_ref06_Value)), law20_row_J2i X1 a0 r0 r1 r2 r3 x1 x6 x7 x8 x9 x10 → J2 x6 x7 x8 x9 x10 := fun x6 x7 x8 x9 x10 q => kJ2 x6 x7 x8 x9 x10 (law20_row_J2_m X1 a0 r0 r1 r2 r3 x1 q)
  intro c
  replace h := h c
  refine cnd_mono h (fun h => ?_) (fun h => ?_)
  · exact hJ2 _ _ _ _ _ h
  · exact hJ2 _ _ _ _ _ h
theorem law20_row_i (a0 : (List T_law20_Cell)) (r0 : (List T_check_Field)) (r1 : (List T_ref20_Field)) (r2 : (List T_value_Value)) (r3 : (List T_ref06_Value)) (h : law20_row_oi a0 r0 r1 r2 r3) : law20_row_o a0 r0 r1 r2 r3 := by
  unfold law20_row_o
  unfold law20_row_oi at h
  intro X1 k
  exact h X1 (fun x1 x2 x3 x4 x5 q => k x1 x2 x3 x4 x5 (law20_row_L1_m a0 r0 r1 r2 r3 q))
noncomputable def law20_row_sp : Sp KK := ⟨12, [.v 23], [40, 41, 42, 43], appW (K := KK) [40, 41, 42, 43] [.v 23] law20_row_o⟩
noncomputable def law20_row_an : An KK := (.s .o (.s .o (.s .o (.s .o (.s .o (.s (.s .o (.b (.l ⟨[(0, .kp 71), (6, .row 76), (7, .row 80), (8, .row 84), (9, .row 88), (10, .it .i64)], [], [(76, 105), (80, 115), (84, 35), (88, 26)]⟩ (fun _ => (.s (.j ⟨[(0, .kp 71), (6, .row 76), (7, .row 80), (8, .row 84), (9, .row 88), (10, .kp 120), (21, .bl)], [], [(76, 105), (80, 115), (84, 35), (88, 26)]⟩ .o (fun _ => (.c .o .o))) (.s (.b (.s .o (.s .o (.s .o (.j ⟨[(0, .kp 71), (6, .row 76), (7, .row 80), (8, .row 84), (9, .row 88), (10, .kp 120), (11, .px 11 0), (12, .px 12 0), (13, .px 13 0)], [(11, 112, [.kp 131, .kp 132, .kp 133, .kp 134, .kp 135, .kp 136]), (12, 115, [.kp 137, .kp 138, .kp 139]), (13, 26, [.kp 140, .it .i64, .st])], [(76, 105), (80, 115), (84, 35), (88, 26)]⟩ (.s .o (.b (.s .o (.c .o (.s .o (.c .o (.s .o (.c .o .o)))))))) (fun _ => (.j ⟨[(0, .kp 71), (6, .row 76), (7, .row 80), (8, .row 84), (9, .row 88), (10, .kp 120), (12, .px 12 0), (13, .px 13 0)], [(12, 115, [.kp 137, .kp 138, .kp 139]), (13, 26, [.it .i64, .it .i64, .st])], [(76, 105), (80, 115), (84, 35), (88, 26)]⟩ (.s .o (.c .o .o)) (fun _ => .o)))))))) .o)))))) (.s .o .o)))))))
noncomputable def law20_row_cf : Cf KK := ⟨CC, [], 93⟩

set_option maxRecDepth 100000 in
theorem law20_row_ok : SpOk Try.prog CC law20_row_sp := by
  intro env r hF h
  obtain ⟨a0, env0, rfl, h1⟩ := appW_v h
  obtain ⟨rfl, h2⟩ := appW_n h1
  obtain ⟨r0, rr0, rfl, h3⟩ := apR_v h2
  obtain ⟨r1, rr1, rfl, h4⟩ := apR_v h3
  obtain ⟨r2, rr2, rfl, h5⟩ := apR_v h4
  obtain ⟨r3, rr3, rfl, h6⟩ := apR_v h5
  obtain ⟨rfl, h7⟩ := apR_n h6
  refine ⟨rfl, DnF_by (F := law20_row_cf) CC_ok SsOk_n t12 (A := law20_row_an) (ps := [.v 23]) (rs := [40, 41, 42, 43]) (env := [.d (.v 23 a0)]) (r := [.v 40 r0, .v 41 r1, .v 42 r2, .v 43 r3]) (X := law20_row_o a0 r0 r1 r2 r3) rfl (Nat.le_of_ble_eq_true rfl) rfl hF h7 ?_⟩
  kernel_rfl

def law20_CheckParts_J5 (r0 : Bool) (X2 : Int → Prop) (x12 : Int) (x23 : Bool) : Prop :=
  cnd x23 (false = r0) (X2 (IntKind.i64.wrap (x12 + (1 : Int))))
def law20_CheckParts_J4 (r0 : Bool) (z14 : Int) (X2 : Int → Prop) (x12 : Int) (z5 : T_expr_Expr) (z6 : (List T_check_Field)) (z8 : (List T_value_Value)) (x17 : Bool) (x18 : (List T_expr_Expr)) : Prop :=
  cnd x17 (false = r0) (cnd (!(z14 == (0 : Int))) (X2 (IntKind.i64.wrap (x12 + (1 : Int)))) (∃ z19 : T_value_Value, ∃ z20 : Int, (check_Eval_o (T_expr_Expr.mk z5.Kind z5.Op (⟨z5.V.Kind, z5.V.N, z5.V.S⟩ : T_value_Value) z5.Table z5.Name z5.L) z6 z8 z19 z20) ∧ ∃ z21 : T_value_Value, ∃ z22 : Int, (check_Eval_o (T_expr_Expr.mk ((([(4 : Int), (5 : Int)] : List Int)[x12.toNat]?).getD 0) (0 : Int) (⟨(0 : Int), (0 : Int), ([] : Str)⟩ : T_value_Value) ([] : Str) ([] : Str) x18) z6 z8 z21 z22) ∧ ∀ J5 : Bool → Prop, (∀ (x23 : Bool), law20_CheckParts_J5 r0 X2 x12 x23 → J5 x23) → cnd (!(z20 == z22)) (cnd (!(z22 == (8 : Int))) (J5 true) (cnd (z20 == (0 : Int)) (cnd (z22 == (0 : Int)) (J5 (!((z19.Kind == z21.Kind) && ((z19.N == z21.N) && ((z19.S == z21.S) && true))))) (J5 false)) (J5 false))) (cnd (z20 == (0 : Int)) (cnd (z22 == (0 : Int)) (J5 (!((z19.Kind == z21.Kind) && ((z19.N == z21.N) && ((z19.S == z21.S) && true))))) (J5 false)) (J5 false))))
def law20_CheckParts_J3 (r0 : Bool) (z14 : Int) (X2 : Int → Prop) (x12 : Int) (z5 : T_expr_Expr) (z6 : (List T_check_Field)) (z8 : (List T_value_Value)) (z10 : Int) (z13 : Int) (x15 : Bool) (x16 : (List T_expr_Expr)) : Prop :=
  ∀ J4 : Bool → (List T_expr_Expr) → Prop, (∀ (x17 : Bool) (x18 : (List T_expr_Expr)), law20_CheckParts_J4 r0 z14 X2 x12 z5 z6 z8 x17 x18 → J4 x17 x18) → cnd (!(x15 == (z14 == (0 : Int)))) (J4 true x16) (cnd (z14 == (0 : Int)) (cnd (!(z10 == (0 : Int))) (J4 (!(z13 == z10)) x16) (J4 false x16)) (J4 false x16))
def law20_CheckParts_L2 (z5 : T_expr_Expr) (z6 : (List T_check_Field)) (r0 : Bool) (z8 : (List T_value_Value)) (z10 : Int) (X2 : Int → Prop) (x12 : Int) : Prop :=
  cnd (decide (x12 < (2 : Int))) ((0 ≤ x12 ∧ x12 < (2 : Nat)) ∧ ∃ z13 : Int, ∃ z14 : Int, (check_Type_o (T_expr_Expr.mk ((([(4 : Int), (5 : Int)] : List Int)[x12.toNat]?).getD 0) (0 : Int) (⟨(0 : Int), (0 : Int), ([] : Str)⟩ : T_value_Value) ([] : Str) ([] : Str) ([(T_expr_Expr.mk ((([(4 : Int), (5 : Int)] : List Int)[x12.toNat]?).getD 0) (0 : Int) (⟨(0 : Int), (0 : Int), ([] : Str)⟩ : T_value_Value) ([] : Str) ([] : Str) ([(T_expr_Expr.mk z5.Kind z5.Op (⟨z5.V.Kind, z5.V.N, z5.V.S⟩ : T_value_Value) z5.Table z5.Name z5.L)] : List T_expr_Expr))] : List T_expr_Expr)) z6 false z13 z14) ∧ ∀ J3 : Bool → (List T_expr_Expr) → Prop, (∀ (x15 : Bool) (x16 : (List T_expr_Expr)), law20_CheckParts_J3 r0 z14 X2 x12 z5 z6 z8 z10 z13 x15 x16 → J3 x15 x16) → cnd (z10 == (0 : Int)) (J3 true ([(T_expr_Expr.mk ((([(4 : Int), (5 : Int)] : List Int)[x12.toNat]?).getD 0) (0 : Int) (⟨(0 : Int), (0 : Int), ([] : Str)⟩ : T_value_Value) ([] : Str) ([] : Str) ([(T_expr_Expr.mk z5.Kind z5.Op (⟨z5.V.Kind, z5.V.N, z5.V.S⟩ : T_value_Value) z5.Table z5.Name z5.L)] : List T_expr_Expr))] : List T_expr_Expr)) (cnd (((([(4 : Int), (5 : Int)] : List Int)[x12.toNat]?).getD 0) == (4 : Int)) (cnd (z10 == (1 : Int)) (J3 true ([(T_expr_Expr.mk ((([(4 : Int), (5 : Int)] : List Int)[x12.toNat]?).getD 0) (0 : Int) (⟨(0 : Int), (0 : Int), ([] : Str)⟩ : T_value_Value) ([] : Str) ([] : Str) ([(T_expr_Expr.mk z5.Kind z5.Op (⟨z5.V.Kind, z5.V.N, z5.V.S⟩ : T_value_Value) z5.Table z5.Name z5.L)] : List T_expr_Expr))] : List T_expr_Expr)) (cnd (((([(4 : Int), (5 : Int)] : List Int)[x12.toNat]?).getD 0) == (5 : Int)) (J3 (z10 == (2 : Int)) ([(T_expr_Expr.mk ((([(4 : Int), (5 : Int)] : List Int)[x12.toNat]?).getD 0) (0 : Int) (⟨(0 : Int), (0 : Int), ([] : Str)⟩ : T_value_Value) ([] : Str) ([] : Str) ([(T_expr_Expr.mk z5.Kind z5.Op (⟨z5.V.Kind, z5.V.N, z5.V.S⟩ : T_value_Value) z5.Table z5.Name z5.L)] : List T_expr_Expr))] : List T_expr_Expr)) (J3 false ([(T_expr_Expr.mk ((([(4 : Int), (5 : Int)] : List Int)[x12.toNat]?).getD 0) (0 : Int) (⟨(0 : Int), (0 : Int), ([] : Str)⟩ : T_value_Value) ([] : Str) ([] : Str) ([(T_expr_Expr.mk z5.Kind z5.Op (⟨z5.V.Kind, z5.V.N, z5.V.S⟩ : T_value_Value) z5.Table z5.Name z5.L)] : List T_expr_Expr))] : List T_expr_Expr)))) (cnd (((([(4 : Int), (5 : Int)] : List Int)[x12.toNat]?).getD 0) == (5 : Int)) (J3 (z10 == (2 : Int)) ([(T_expr_Expr.mk ((([(4 : Int), (5 : Int)] : List Int)[x12.toNat]?).getD 0) (0 : Int) (⟨(0 : Int), (0 : Int), ([] : Str)⟩ : T_value_Value) ([] : Str) ([] : Str) ([(T_expr_Expr.mk z5.Kind z5.Op (⟨z5.V.Kind, z5.V.N, z5.V.S⟩ : T_value_Value) z5.Table z5.Name z5.L)] : List T_expr_Expr))] : List T_expr_Expr)) (J3 false ([(T_expr_Expr.mk ((([(4 : Int), (5 : Int)] : List Int)[x12.toNat]?).getD 0) (0 : Int) (⟨(0 : Int), (0 : Int), ([] : Str)⟩ : T_value_Value) ([] : Str) ([] : Str) ([(T_expr_Expr.mk z5.Kind z5.Op (⟨z5.V.Kind, z5.V.N, z5.V.S⟩ : T_value_Value) z5.Table z5.Name z5.L)] : List T_expr_Expr))] : List T_expr_Expr))))) (true = r0)
def law20_CheckParts_J1 (r0 : Bool) (z2 : T_ref15_Expr) (a1 : (List T_law20_Cell)) (x4 : Bool) : Prop :=
  cnd x4 (true = r0) (∃ z5 : T_expr_Expr, (law17_Told_o (T_ref15_Expr.mk z2.Kind z2.Op (⟨z2.V.Kind, z2.V.N, z2.V.S⟩ : T_ref06_Value) z2.Table z2.Name z2.L) z5) ∧ ∃ z6 : (List T_check_Field), ∃ z7 : (List T_ref20_Field), ∃ z8 : (List T_value_Value), ∃ z9 : (List T_ref06_Value), (law20_row_o a1 z6 z7 z8 z9) ∧ ∃ z10 : Int, ∃ z11 : Int, (check_Type_o (T_expr_Expr.mk z5.Kind z5.Op (⟨z5.V.Kind, z5.V.N, z5.V.S⟩ : T_value_Value) z5.Table z5.Name z5.L) z6 false z10 z11) ∧ cnd (!(z11 == (0 : Int))) ((z10 == (0 : Int)) = r0) (∀ X2 : Int → Prop, (∀ (x12 : Int), law20_CheckParts_L2 z5 z6 r0 z8 z10 X2 x12 → X2 x12) → X2 (0 : Int)))
def law20_CheckParts_o (a0 : (List T_law15_Part)) (a1 : (List T_law20_Cell)) (r0 : Bool) : Prop :=
  ∃ z1 : Bool, (law20_speaks_o z1) ∧ cnd (!z1) (false = r0) ((a0.length ≤ maxLen → (0 ≤ (0 : Int) ∧ (0 : Int) ≤ (if (20 : Int) < (a0.length : Int) then (20 : Int) else (a0.length : Int)) ∧ (if (20 : Int) < (a0.length : Int) then (20 : Int) else (a0.length : Int)) ≤ (a0.length : Int)) ∧ ∃ z2 : T_ref15_Expr, ∃ z3 : Int, (law15_Built_o (tslice a0 (0 : Int) (if (20 : Int) < (a0.length : Int) then (20 : Int) else (a0.length : Int))) (0 : Int) (0 : Int) z2 z3) ∧ ∀ J1 : Bool → Prop, (∀ (x4 : Bool), law20_CheckParts_J1 r0 z2 a1 x4 → J1 x4) → ∃ z24 : Bool, (ref15_Good_o (T_ref15_Expr.mk z2.Kind z2.Op (⟨z2.V.Kind, z2.V.N, z2.V.S⟩ : T_ref06_Value) z2.Table z2.Name z2.L) z24) ∧ cnd (!z24) (J1 true) (∃ z25 : Int, (ref15_Depth_o (T_ref15_Expr.mk z2.Kind z2.Op (⟨z2.V.Kind, z2.V.N, z2.V.S⟩ : T_ref06_Value) z2.Table z2.Name z2.L) z25) ∧ cnd (decide ((17 : Int) < z25)) (J1 true) (∃ z26 : (List T_ref15_Expr), (ref20_Aggregates_o (T_ref15_Expr.mk z2.Kind z2.Op (⟨z2.V.Kind, z2.V.N, z2.V.S⟩ : T_ref06_Value) z2.Table z2.Name z2.L) z26) ∧ (z26.length ≤ maxLen → J1 (decide ((0 : Int) < (z26.length : Int))))))))
def law20_CheckParts_J5i (X2 : Int → Prop) (r0 : Bool) (x12 : Int) (x23 : Bool) : Prop :=
  cnd x23 (false = r0) (X2 (IntKind.i64.wrap (x12 + (1 : Int))))
def law20_CheckParts_J4i (X2 : Int → Prop) (r0 : Bool) (x12 : Int) (z5 : T_expr_Expr) (z6 : (List T_check_Field)) (z8 : (List T_value_Value)) (z14 : Int) (x17 : Bool) (x18 : (List T_expr_Expr)) : Prop :=
  cnd x17 (false = r0) (cnd (!(z14 == (0 : Int))) (X2 (IntKind.i64.wrap (x12 + (1 : Int)))) (∃ z19 : T_value_Value, ∃ z20 : Int, (check_Eval_o (T_expr_Expr.mk z5.Kind z5.Op (⟨z5.V.Kind, z5.V.N, z5.V.S⟩ : T_value_Value) z5.Table z5.Name z5.L) z6 z8 z19 z20) ∧ ∃ z21 : T_value_Value, ∃ z22 : Int, (check_Eval_o (T_expr_Expr.mk ((([(4 : Int), (5 : Int)] : List Int)[x12.toNat]?).getD 0) (0 : Int) (⟨(0 : Int), (0 : Int), ([] : Str)⟩ : T_value_Value) ([] : Str) ([] : Str) x18) z6 z8 z21 z22) ∧ cnd (!(z20 == z22)) (cnd (!(z22 == (8 : Int))) (law20_CheckParts_J5i X2 r0 x12 true) (cnd (z20 == (0 : Int)) (cnd (z22 == (0 : Int)) (law20_CheckParts_J5i X2 r0 x12 (!((z19.Kind == z21.Kind) && ((z19.N == z21.N) && ((z19.S == z21.S) && true))))) (law20_CheckParts_J5i X2 r0 x12 false)) (law20_CheckParts_J5i X2 r0 x12 false))) (cnd (z20 == (0 : Int)) (cnd (z22 == (0 : Int)) (law20_CheckParts_J5i X2 r0 x12 (!((z19.Kind == z21.Kind) && ((z19.N == z21.N) && ((z19.S == z21.S) && true))))) (law20_CheckParts_J5i X2 r0 x12 false)) (law20_CheckParts_J5i X2 r0 x12 false))))
def law20_CheckParts_J3i (X2 : Int → Prop) (r0 : Bool) (x12 : Int) (z5 : T_expr_Expr) (z6 : (List T_check_Field)) (z8 : (List T_value_Value)) (z10 : Int) (z13 : Int) (z14 : Int) (x15 : Bool) (x16 : (List T_expr_Expr)) : Prop :=
  cnd (!(x15 == (z14 == (0 : Int)))) (law20_CheckParts_J4i X2 r0 x12 z5 z6 z8 z14 true x16) (cnd (z14 == (0 : Int)) (cnd (!(z10 == (0 : Int))) (law20_CheckParts_J4i X2 r0 x12 z5 z6 z8 z14 (!(z13 == z10)) x16) (law20_CheckParts_J4i X2 r0 x12 z5 z6 z8 z14 false x16)) (law20_CheckParts_J4i X2 r0 x12 z5 z6 z8 z14 false x16))
def law20_CheckParts_L2i (r0 : Bool) (z5 : T_expr_Expr) (z6 : (List T_check_Field)) (z8 : (List T_value_Value)) (z10 : Int) (X2 : Int → Prop) (x12 : Int) : Prop :=
  cnd (decide (x12 < (2 : Int))) ((0 ≤ x12 ∧ x12 < (2 : Nat)) ∧ ∃ z13 : Int, ∃ z14 : Int, (check_Type_o (T_expr_Expr.mk ((([(4 : Int), (5 : Int)] : List Int)[x12.toNat]?).getD 0) (0 : Int) (⟨(0 : Int), (0 : Int), ([] : Str)⟩ : T_value_Value) ([] : Str) ([] : Str) ([(T_expr_Expr.mk ((([(4 : Int), (5 : Int)] : List Int)[x12.toNat]?).getD 0) (0 : Int) (⟨(0 : Int), (0 : Int), ([] : Str)⟩ : T_value_Value) ([] : Str) ([] : Str) ([(T_expr_Expr.mk z5.Kind z5.Op (⟨z5.V.Kind, z5.V.N, z5.V.S⟩ : T_value_Value) z5.Table z5.Name z5.L)] : List T_expr_Expr))] : List T_expr_Expr)) z6 false z13 z14) ∧ cnd (z10 == (0 : Int)) (law20_CheckParts_J3i X2 r0 x12 z5 z6 z8 z10 z13 z14 true ([(T_expr_Expr.mk ((([(4 : Int), (5 : Int)] : List Int)[x12.toNat]?).getD 0) (0 : Int) (⟨(0 : Int), (0 : Int), ([] : Str)⟩ : T_value_Value) ([] : Str) ([] : Str) ([(T_expr_Expr.mk z5.Kind z5.Op (⟨z5.V.Kind, z5.V.N, z5.V.S⟩ : T_value_Value) z5.Table z5.Name z5.L)] : List T_expr_Expr))] : List T_expr_Expr)) (cnd (((([(4 : Int), (5 : Int)] : List Int)[x12.toNat]?).getD 0) == (4 : Int)) (cnd (z10 == (1 : Int)) (law20_CheckParts_J3i X2 r0 x12 z5 z6 z8 z10 z13 z14 true ([(T_expr_Expr.mk ((([(4 : Int), (5 : Int)] : List Int)[x12.toNat]?).getD 0) (0 : Int) (⟨(0 : Int), (0 : Int), ([] : Str)⟩ : T_value_Value) ([] : Str) ([] : Str) ([(T_expr_Expr.mk z5.Kind z5.Op (⟨z5.V.Kind, z5.V.N, z5.V.S⟩ : T_value_Value) z5.Table z5.Name z5.L)] : List T_expr_Expr))] : List T_expr_Expr)) (cnd (((([(4 : Int), (5 : Int)] : List Int)[x12.toNat]?).getD 0) == (5 : Int)) (law20_CheckParts_J3i X2 r0 x12 z5 z6 z8 z10 z13 z14 (z10 == (2 : Int)) ([(T_expr_Expr.mk ((([(4 : Int), (5 : Int)] : List Int)[x12.toNat]?).getD 0) (0 : Int) (⟨(0 : Int), (0 : Int), ([] : Str)⟩ : T_value_Value) ([] : Str) ([] : Str) ([(T_expr_Expr.mk z5.Kind z5.Op (⟨z5.V.Kind, z5.V.N, z5.V.S⟩ : T_value_Value) z5.Table z5.Name z5.L)] : List T_expr_Expr))] : List T_expr_Expr)) (law20_CheckParts_J3i X2 r0 x12 z5 z6 z8 z10 z13 z14 false ([(T_expr_Expr.mk ((([(4 : Int), (5 : Int)] : List Int)[x12.toNat]?).getD 0) (0 : Int) (⟨(0 : Int), (0 : Int), ([] : Str)⟩ : T_value_Value) ([] : Str) ([] : Str) ([(T_expr_Expr.mk z5.Kind z5.Op (⟨z5.V.Kind, z5.V.N, z5.V.S⟩ : T_value_Value) z5.Table z5.Name z5.L)] : List T_expr_Expr))] : List T_expr_Expr)))) (cnd (((([(4 : Int), (5 : Int)] : List Int)[x12.toNat]?).getD 0) == (5 : Int)) (law20_CheckParts_J3i X2 r0 x12 z5 z6 z8 z10 z13 z14 (z10 == (2 : Int)) ([(T_expr_Expr.mk ((([(4 : Int), (5 : Int)] : List Int)[x12.toNat]?).getD 0) (0 : Int) (⟨(0 : Int), (0 : Int), ([] : Str)⟩ : T_value_Value) ([] : Str) ([] : Str) ([(T_expr_Expr.mk z5.Kind z5.Op (⟨z5.V.Kind, z5.V.N, z5.V.S⟩ : T_value_Value) z5.Table z5.Name z5.L)] : List T_expr_Expr))] : List T_expr_Expr)) (law20_CheckParts_J3i X2 r0 x12 z5 z6 z8 z10 z13 z14 false ([(T_expr_Expr.mk ((([(4 : Int), (5 : Int)] : List Int)[x12.toNat]?).getD 0) (0 : Int) (⟨(0 : Int), (0 : Int), ([] : Str)⟩ : T_value_Value) ([] : Str) ([] : Str) ([(T_expr_Expr.mk z5.Kind z5.Op (⟨z5.V.Kind, z5.V.N, z5.V.S⟩ : T_value_Value) z5.Table z5.Name z5.L)] : List T_expr_Expr))] : List T_expr_Expr))))) (true = r0)
def law20_CheckParts_J1i (a1 : (List T_law20_Cell)) (r0 : Bool) (z2 : T_ref15_Expr) (x4 : Bool) : Prop :=
  cnd x4 (true = r0) (∃ z5 : T_expr_Expr, (law17_Told_o (T_ref15_Expr.mk z2.Kind z2.Op (⟨z2.V.Kind, z2.V.N, z2.V.S⟩ : T_ref06_Value) z2.Table z2.Name z2.L) z5) ∧ ∃ z6 : (List T_check_Field), ∃ z7 : (List T_ref20_Field), ∃ z8 : (List T_value_Value), ∃ z9 : (List T_ref06_Value), (law20_row_o a1 z6 z7 z8 z9) ∧ ∃ z10 : Int, ∃ z11 : Int, (check_Type_o (T_expr_Expr.mk z5.Kind z5.Op (⟨z5.V.Kind, z5.V.N, z5.V.S⟩ : T_value_Value) z5.Table z5.Name z5.L) z6 false z10 z11) ∧ cnd (!(z11 == (0 : Int))) ((z10 == (0 : Int)) = r0) (∀ X2 : Int → Prop, (∀ (x12 : Int), law20_CheckParts_L2i r0 z5 z6 z8 z10 X2 x12 → X2 x12) → X2 (0 : Int)))
def law20_CheckParts_oi (a0 : (List T_law15_Part)) (a1 : (List T_law20_Cell)) (r0 : Bool) : Prop :=
  ∃ z1 : Bool, (law20_speaks_o z1) ∧ cnd (!z1) (false = r0) ((a0.length ≤ maxLen → (0 ≤ (0 : Int) ∧ (0 : Int) ≤ (if (20 : Int) < (a0.length : Int) then (20 : Int) else (a0.length : Int)) ∧ (if (20 : Int) < (a0.length : Int) then (20 : Int) else (a0.length : Int)) ≤ (a0.length : Int)) ∧ ∃ z2 : T_ref15_Expr, ∃ z3 : Int, (law15_Built_o (tslice a0 (0 : Int) (if (20 : Int) < (a0.length : Int) then (20 : Int) else (a0.length : Int))) (0 : Int) (0 : Int) z2 z3) ∧ ∃ z24 : Bool, (ref15_Good_o (T_ref15_Expr.mk z2.Kind z2.Op (⟨z2.V.Kind, z2.V.N, z2.V.S⟩ : T_ref06_Value) z2.Table z2.Name z2.L) z24) ∧ cnd (!z24) (law20_CheckParts_J1i a1 r0 z2 true) (∃ z25 : Int, (ref15_Depth_o (T_ref15_Expr.mk z2.Kind z2.Op (⟨z2.V.Kind, z2.V.N, z2.V.S⟩ : T_ref06_Value) z2.Table z2.Name z2.L) z25) ∧ cnd (decide ((17 : Int) < z25)) (law20_CheckParts_J1i a1 r0 z2 true) (∃ z26 : (List T_ref15_Expr), (ref20_Aggregates_o (T_ref15_Expr.mk z2.Kind z2.Op (⟨z2.V.Kind, z2.V.N, z2.V.S⟩ : T_ref06_Value) z2.Table z2.Name z2.L) z26) ∧ (z26.length ≤ maxLen → law20_CheckParts_J1i a1 r0 z2 (decide ((0 : Int) < (z26.length : Int))))))))
theorem law20_CheckParts_J5_m (X2 : Int → Prop) (r0 : Bool) (x12 : Int) {x23 : Bool} (h : law20_CheckParts_J5i X2 r0 x12 x23) : law20_CheckParts_J5 r0 X2 x12 x23 := by
  unfold law20_CheckParts_J5
  unfold law20_CheckParts_J5i at h
  exact h
theorem law20_CheckParts_J4_m (X2 : Int → Prop) (r0 : Bool) (x12 : Int) (z5 : T_expr_Expr) (z6 : (List T_check_Field)) (z8 : (List T_value_Value)) (z14 : Int) {x17 : Bool} {x18 : (List T_expr_Expr)} (h : law20_CheckParts_J4i X2 r0 x12 z5 z6 z8 z14 x17 x18) : law20_CheckParts_J4 r0 z14 X2 x12 z5 z6 z8 x17 x18 := by
  unfold law20_CheckParts_J4
  unfold law20_CheckParts_J4i at h
  refine cnd_mono h (fun h => ?_) (fun h => ?_)
  · exact h
  · refine cnd_mono h (fun h => ?_) (fun h => ?_)
    · exact h
    · obtain ⟨z19, h⟩ := h
      refine ⟨z19, ?_⟩
      obtain ⟨z20, h⟩ := h
      refine ⟨z20, ?_⟩
      obtain ⟨h0, h⟩ := h
      refine ⟨h0, ?_⟩
      obtain ⟨z21, h⟩ := h
      refine ⟨z21, ?_⟩
      obtain ⟨z22, h⟩ := h
      refine ⟨z22, ?_⟩
      obtain ⟨h0, h⟩ := h
      refine ⟨h0, ?_⟩
      intro J5 kJ5
      have hJ5 : ∀ (x23 : Bool), law20_CheckParts_J5i X2 r0 x12 x23 → J5 x23 := fun x23 q => kJ5 x23 (law20_CheckParts_J5_m X2 r0 x12 q)
      refine cnd_mono h (fun h => ?_) (fun h => ?_)
      · refine cnd_mono h (fun h => ?_) (fun h => ?_)
        · exact hJ5 _ h
        · refine cnd_mono h (fun h => ?_) (fun h => ?_)
          · refine cnd_mono h (fun h => ?_) (fun h => ?_)
            · exact hJ5 _ h
            · exact hJ5 _ h
          · exact hJ5 _ h
      · refine cnd_mono h (fun h => ?_) (fun h => ?_)
        · refine cnd_mono h (fun h => ?_) (fun h => ?_)
          · exact hJ5 _ h
          · exact hJ5 _ h
        · exact hJ5 _ h
theorem law20_CheckParts_J3_m (X2 : Int → Prop) (r0 : Bool) (x12 : Int) (z5 : T_expr_Expr) (z6 : (List T_check_Field)) (z8 : (List T_value_Value)) (z10 : Int) (z13 : Int) (z14 : Int) {x15 : Bool} {x16 : (List T_expr_Expr)} (h : law20_CheckParts_J3i X2 r0 x12 z5 z6 z8 z10 z13 z14 x15 x16) : law20_CheckParts_J3 r0 z14 X2 x12 z5 z6 z8 z10 z13 x15 x16 := by
  unfold law20_CheckParts_J3
  unfold law20_CheckParts_J3i at h
  intro J4 kJ4
  have hJ4 : ∀ (x17 : Bool) (x18 : (List T_expr_Expr)), law20_CheckParts_J4i X2 r0 x12 z5 z6 z8 z14 x17 x18 → J4 x17 x18 := fun x17 x18 q => kJ4 x17 x18 (law20_CheckParts_J4_m X2 r0 x12 z5 z6 z8 z14 q)
  refine cnd_mono h (fun h => ?_) (fun h => ?_)
  · exact hJ4 _ _ h
  · refine cnd_mono h (fun h => ?_) (fun h => ?_)
    · refine cnd_mono h (fun h => ?_) (fun h => ?_)
      · exact hJ4 _ _ h
      · exact hJ4 _ _ h
    · exact hJ4 _ _ h
theorem law20_CheckParts_L2_m (r0 : Bool) (z5 : T_expr_Expr) (z6 : (List T_check_Field)) (z8 : (List T_value_Value)) (z10 : Int) {X2 : Int → Prop} {x12 : Int} (h : law20_CheckParts_L2i r0 z5 z6 z8 z10 X2 x12) : law20_CheckParts_L2 z5 z6 r0 z8 z10 X2 x12 := by
  unfold law20_CheckParts_L2
  unfold law20_CheckParts_L2i at h
  refine cnd_mono h (fun h => ?_) (fun h => ?_)
  · obtain ⟨h0, h⟩ := h
    refine ⟨h0, ?_⟩
    obtain ⟨z13, h⟩ := h
    refine ⟨z13, ?_⟩
    obtain ⟨z14, h⟩ := h
    refine ⟨z14, ?_⟩
    obtain ⟨h0, h⟩ := h
    refine ⟨h0, ?_⟩
    intro J3 kJ3
    have hJ3 : ∀ (x15 : Bool) (x16 : (List T_expr_Expr)), law20_CheckParts_J3i X2 r0 x12 z5 z6 z8 z10 z13 z14 x15 x16 → J3 x15 x16 := fun x15 x16 q => kJ3 x15 x16 (law20_CheckParts_J3_m X2 r0 x12 z5 z6 z8 z10 z13 z14 q)
    refine cnd_mono h (fun h => ?_) (fun h => ?_)
    · exact hJ3 _ _ h
    · refine cnd_mono h (fun h => ?_) (fun h => ?_)
      · refine cnd_mono h (fun h => ?_) (fun h => ?_)
        · exact hJ3 _ _ h
        · refine cnd_mono h (fun h => ?_) (fun h => ?_)
          · exact hJ3 _ _ h
          · exact hJ3 _ _ h
      · refine cnd_mono h (fun h => ?_) (fun h => ?_)
        · exact hJ3 _ _ h
        · exact hJ3 _ _ h
  · exact h
theorem law20_CheckParts_J1_m (a1 : (List T_law20_Cell)) (r0 : Bool) (z2 : T_ref15_Expr) {x4 : Bool} (h : law20_CheckParts_J1i a1 r0 z2 x4) : law20_CheckParts_J1 r0 z2 a1 x4 := by
  unfold law20_CheckParts_J1
  unfold law20_CheckParts_J1i at h
  refine cnd_mono h (fun h => ?_) (fun h => ?_)
  · exact h
  · obtain ⟨z5, h⟩ := h
    refine ⟨z5, ?_⟩
    obtain ⟨h0, h⟩ := h
    refine ⟨h0, ?_⟩
    obtain ⟨z6, h⟩ := h
    refine ⟨z6, ?_⟩
    obtain ⟨z7, h⟩ := h
    refine ⟨z7, ?_⟩
    obtain ⟨z8, h⟩ := h
    refine ⟨z8, ?_⟩
    obtain ⟨z9, h⟩ := h
    refine ⟨z9, ?_⟩
    obtain ⟨h0, h⟩ := h
    refine ⟨h0, ?_⟩
    obtain ⟨z10, h⟩ := h
    refine ⟨z10, ?_⟩
    obtain ⟨z11, h⟩ := h
    refine ⟨z11, ?_⟩
    obtain ⟨h0, h⟩ := h
    refine ⟨h0, ?_⟩
    refine cnd_mono h (fun h => ?_) (fun h => ?_)
    · exact h
    · intro X2 k
      exact h X2 (fun x12 q => k x12 (law20_CheckParts_L2_m r0 z5 z6 z8 z10 q))
theorem law20_CheckParts_i (a0 : (List T_law15_Part)) (a1 : (List T_law20_Cell)) (r0 : Bool) (h : law20_CheckParts_oi a0 a1 r0) : law20_CheckParts_o a0 a1 r0 := by
  unfold law20_CheckParts_o
  unfold law20_CheckParts_oi at h
  obtain ⟨z1, h⟩ := h
  refine ⟨z1, ?_⟩
  obtain ⟨h0, h⟩ := h
  refine ⟨h0, ?_⟩
  refine cnd_mono h (fun h => ?_) (fun h => ?_)
  · exact h
  · intro c
    replace h := h c
    obtain ⟨h0, h⟩ := h
    refine ⟨h0, ?_⟩
    obtain ⟨z2, h⟩ := h
    refine ⟨z2, ?_⟩
    obtain ⟨z3, h⟩ := h
    refine ⟨z3, ?_⟩
    obtain ⟨h0, h⟩ := h
    refine ⟨h0, ?_⟩
    intro J1 kJ1
    have hJ1 : ∀ (x4 : Bool), law20_CheckParts_J1i a1 r0 z2 x4 → J1 x4 := fun x4 q => kJ1 x4 (law20_CheckParts_J1_m a1 r0 z2 q)
    obtain ⟨z24, h⟩ := h
    refine ⟨z24, ?_⟩
    obtain ⟨h0, h⟩ := h
    refine ⟨h0, ?_⟩
    refine cnd_mono h (fun h => ?_) (fun h => ?_)
    · exact hJ1 _ h
    · obtain ⟨z25, h⟩ := h
      refine ⟨z25, ?_⟩
      obtain ⟨h0, h⟩ := h
      refine ⟨h0, ?_⟩
      refine cnd_mono h (fun h => ?_) (fun h => ?_)
      · exact hJ1 _ h
      · obtain ⟨z26, h⟩ := h
        refine ⟨z26, ?_⟩
        obtain ⟨h0, h⟩ := h
        refine ⟨h0, ?_⟩
        intro c
        replace h := h c
        exact hJ1 _ h
noncomputable def law20_CheckParts_sp : Sp KK := ⟨3, [.v 22, .v 23], [4], appW (K := KK) [4] [.v 22, .v 23] law20_CheckParts_o⟩
noncomputable def law20_CheckParts_an : An KK := (.s .o (.s (.s .o (.c (.s .o .o) .o)) (.s .o (.s (.j ⟨[(1, .kp 10), (5, .px 5 0), (48, .bl)], [(5, 29, [.kp 11, .kp 12, .kp 13, .kp 14, .kp 15, .kp 16, .kp 17, .kp 18])], []⟩ .o (fun _ => (.c (.s .o .o) .o))) (.s .o (.s .o (.s .o (.s (.s .o (.c (.s .o .o) .o)) (.s (.s .o (.b (.l ⟨[(7, .px 7 0), (8, .kp 90), (10, .kp 91), (12, .kp 92), (68, .kp 93), (69, .it .i64)], [(7, 38, [.kp 95, .kp 96, .kp 97, .kp 98, .kp 99, .kp 100, .kp 101, .kp 102])], []⟩ (fun _ => (.s .o (.s (.c .o .o) (.s (.b (.s .o (.s .o (.s .o (.j ⟨[(7, .px 7 0), (8, .kp 90), (10, .kp 91), (12, .kp 92), (16, .px 16 0), (17, .kp 151), (18, .kp 152), (19, .bl), (68, .kp 93), (69, .kp 153)], [(7, 38, [.kp 95, .kp 96, .kp 97, .kp 98, .kp 99, .kp 100, .kp 101, .kp 102]), (16, 38, [.kp 154, .kp 155, .kp 156, .kp 157, .kp 158, .kp 159, .kp 160, .row 77])], [(77, 38)]⟩ .o (fun _ => (.s (.j ⟨[(7, .px 7 0), (8, .kp 90), (10, .kp 91), (12, .kp 92), (16, .px 16 0), (18, .kp 152), (68, .kp 93), (69, .kp 153), (119, .bl)], [(7, 38, [.kp 95, .kp 96, .kp 97, .kp 98, .kp 99, .kp 100, .kp 101, .kp 102]), (16, 38, [.kp 154, .kp 155, .kp 156, .kp 157, .kp 158, .kp 159, .kp 160, .row 77])], [(77, 38)]⟩ .o (fun _ => (.c (.s .o .o) .o))) (.s (.s .o (.c .o .o)) (.s .o (.s .o (.j ⟨[(7, .px 7 0), (8, .kp 90), (10, .kp 91), (12, .kp 92), (68, .kp 93), (69, .kp 153), (155, .bl)], [(7, 38, [.kp 95, .kp 96, .kp 97, .kp 98, .kp 99, .kp 100, .kp 101, .kp 102])], []⟩ .o (fun _ => (.c (.s .o .o) .o))))))))))))) .o))))))) (.s .o .o))))))))))
noncomputable def law20_CheckParts_cf : Cf KK := ⟨CC, [law20_speaks_sp, law15_Built_sp, ref15_Good_sp, ref15_Depth_sp, ref20_Aggregates_sp, law17_Told_sp, law20_row_sp, check_Type_sp, check_Eval_sp], 157⟩

set_option maxRecDepth 100000 in
theorem law20_CheckParts_ok : SpOk Try.prog CC law20_CheckParts_sp := by
  intro env r hF h
  obtain ⟨a0, env0, rfl, h1⟩ := appW_v h
  obtain ⟨a1, env1, rfl, h2⟩ := appW_v h1
  obtain ⟨rfl, h3⟩ := appW_n h2
  obtain ⟨r0, rr0, rfl, h4⟩ := apR_v h3
  obtain ⟨rfl, h5⟩ := apR_n h4
  refine ⟨rfl, DnF_by (F := law20_CheckParts_cf) CC_ok (SsOk_c law20_speaks_ok (SsOk_c law15_Built_ok (SsOk_c ref15_Good_ok (SsOk_c ref15_Depth_ok (SsOk_c ref20_Aggregates_ok (SsOk_c law17_Told_ok (SsOk_c law20_row_ok (SsOk_c check_Type_ok (SsOk_c check_Eval_ok SsOk_n))))))))) t3 (A := law20_CheckParts_an) (ps := [.v 22, .v 23]) (rs := [4]) (env := [.d (.v 22 a0), .d (.v 23 a1)]) (r := [.v 4 r0]) (X := law20_CheckParts_o a0 a1 r0) rfl (Nat.le_of_ble_eq_true rfl) rfl hF h5 ?_⟩
  kernel_rfl

end Go.Proofs.Yteoohihaibgplaa
