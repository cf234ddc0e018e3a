/-
  What the functions come to, as relations of plain data, and that the program does so. (Written by a program of mine, wip/gen2.py.)
-/
import Derived.Test.YteoohihaibgplaaDoorCode
import Derived.Test.YteoohihaibgplaaDoorDnG
import Derived.KernelRfl
import Derived.Test.YteoohihaibgplaaDoorSh
import Derived.Test.YteoohihaibgplaaDoorShelf
namespace Go.Proofs.YteoohihaibgplaaDoor
open Go.AV Go.RowKit

structure T_law15_Part where
  Kind : Int
  Op : Int
  Value : Int
  Parts : Int
  N : Int
  Name : Str
  Table : Str

structure T_ref06_Value where
  Kind : Int
  N : Int
  S : Str

inductive T_ref15_Expr where
  | mk (Kind : Int) (Op : Int) (V : T_ref06_Value) (Table : Str) (Name : Str) (L : (List T_ref15_Expr))
def T_ref15_Expr.Kind : T_ref15_Expr → Int
  | .mk y _ _ _ _ _ => y
def T_ref15_Expr.Op : T_ref15_Expr → Int
  | .mk _ y _ _ _ _ => y
def T_ref15_Expr.V : T_ref15_Expr → T_ref06_Value
  | .mk _ _ y _ _ _ => y
def T_ref15_Expr.Table : T_ref15_Expr → Str
  | .mk _ _ _ y _ _ => y
def T_ref15_Expr.Name : T_ref15_Expr → Str
  | .mk _ _ _ _ y _ => y
def T_ref15_Expr.L : T_ref15_Expr → (List T_ref15_Expr)
  | .mk _ _ _ _ _ y => y

structure T_value_Value where
  Kind : Int
  N : Int
  S : Str

inductive T_expr_Expr where
  | mk (Kind : Int) (Op : Int) (V : T_value_Value) (Table : Str) (Name : Str) (L : (List T_expr_Expr))
def T_expr_Expr.Kind : T_expr_Expr → Int
  | .mk y _ _ _ _ _ => y
def T_expr_Expr.Op : T_expr_Expr → Int
  | .mk _ y _ _ _ _ => y
def T_expr_Expr.V : T_expr_Expr → T_value_Value
  | .mk _ _ y _ _ _ => y
def T_expr_Expr.Table : T_expr_Expr → Str
  | .mk _ _ _ y _ _ => y
def T_expr_Expr.Name : T_expr_Expr → Str
  | .mk _ _ _ _ y _ => y
def T_expr_Expr.L : T_expr_Expr → (List T_expr_Expr)
  | .mk _ _ _ _ _ y => y

inductive TC where
  | c0
  | c2
  | c3
  | c4
  | c5
  | c9
  | c22
  | c25
  | c26
  | c28
  | c31
  | c32
  | c34
  | c65
def KF : TC → Type
  | .c0 => Unit
  | .c2 => Int
  | .c3 => Int
  | .c4 => Bool
  | .c5 => Int
  | .c9 => Str
  | .c22 => (List T_law15_Part)
  | .c25 => T_ref06_Value
  | .c26 => (List T_ref15_Expr)
  | .c28 => T_ref15_Expr
  | .c31 => T_value_Value
  | .c32 => (List T_expr_Expr)
  | .c34 => T_expr_Expr
  | .c65 => T_law15_Part
def codes : List (Nat × TC) := [(2, .c2), (3, .c3), (4, .c4), (5, .c5), (9, .c9), (22, .c22), (25, .c25), (26, .c26), (28, .c28), (31, .c31), (32, .c32), (34, .c34), (65, .c65)]
def code (t : Nat) : TC := lkC .c0 codes t
abbrev KK (t : Nat) : Type := KF (code t)
noncomputable def e_law15_Part : Enc T_law15_Part := encIso ((tbCat (tbI .u8) (tbCat (tbI .u8) (tbCat (tbI .u8) (tbCat (tbI .u8) (tbCat (tbI .i64) (tbCat tbS tbS)))))) : Tb KK _).E (fun x : T_law15_Part => (x.Kind, x.Op, x.Value, x.Parts, x.N, x.Name, x.Table))
noncomputable def b65 : Tb KK T_law15_Part := tbIso (tbCat (tbI .u8) (tbCat (tbI .u8) (tbCat (tbI .u8) (tbCat (tbI .u8) (tbCat (tbI .i64) (tbCat tbS tbS)))))) (fun x : T_law15_Part => (x.Kind, x.Op, x.Value, x.Parts, x.N, x.Name, x.Table)) (fun y => (⟨y.1, y.2.1, y.2.2.1, y.2.2.2.1, y.2.2.2.2.1, y.2.2.2.2.2.1, y.2.2.2.2.2.2⟩ : T_law15_Part)) e_law15_Part
noncomputable def e_ref06_Value : Enc T_ref06_Value := encIso ((tbCat (tbI .i64) (tbCat (tbI .i64) tbS)) : Tb KK _).E (fun x : T_ref06_Value => (x.Kind, x.N, x.S))
noncomputable def b25 : Tb KK T_ref06_Value := tbIso (tbCat (tbI .i64) (tbCat (tbI .i64) tbS)) (fun x : T_ref06_Value => (x.Kind, x.N, x.S)) (fun y => (⟨y.1, y.2.1, y.2.2⟩ : T_ref06_Value)) e_ref06_Value
mutual
noncomputable def c_ref15_Expr : T_ref15_Expr → List AV
  | .mk v_Kind v_Op v_V v_Table v_Name v_L => ([.it .i64 v_Kind]) ++ ([.it .i64 v_Op]) ++ (e_ref06_Value.c v_V) ++ ([.st v_Table]) ++ ([.st v_Name]) ++ ([.sl false v_L.length (cs_ref15_Expr v_L)])
noncomputable def cs_ref15_Expr : List T_ref15_Expr → List AV
  | [] => []
  | x :: r => c_ref15_Expr x ++ cs_ref15_Expr r
end
theorem cs_ref15_Expr_eq : ∀ l, cs_ref15_Expr l = l.flatMap c_ref15_Expr
  | [] => rfl
  | x :: r => by simp only [cs_ref15_Expr, List.flatMap_cons, cs_ref15_Expr_eq r]
mutual
theorem c_ref15_Expr_len : ∀ x, (c_ref15_Expr x).length = 8
  | .mk v_Kind v_Op v_V v_Table v_Name v_L => by first | (simp [c_ref15_Expr, e_ref06_Value.len]; done) | (simp [c_ref15_Expr, e_ref06_Value.len]; rfl)
end
mutual
theorem c_ref15_Expr_no : ∀ x, noLs (c_ref15_Expr x) = true
  | .mk v_Kind v_Op v_V v_Table v_Name v_L => by simp [c_ref15_Expr, noLs_app, noLs, AV.noL, slA, e_ref06_Value.no]
end
mutual
theorem c_ref15_Expr_one : ∀ x, (c_ref15_Expr x).all AV.one = true
  | .mk v_Kind v_Op v_V v_Table v_Name v_L => by simp only [c_ref15_Expr, List.all_append, List.all_cons, List.all_nil, AV.one, slA, Bool.and_true, Bool.true_and, e_ref06_Value.one]
end
noncomputable def e_ref15_Expr : Enc T_ref15_Expr := ⟨c_ref15_Expr, 8, by omega, c_ref15_Expr_len, c_ref15_Expr_no, c_ref15_Expr_one⟩
noncomputable def b28 : Tb KK T_ref15_Expr := tbIso (tbCat (tbI .i64) (tbCat (tbI .i64) (tbCat b25 (tbCat tbS (tbCat tbS (tbL 28 e_ref15_Expr : Tb KK (List T_ref15_Expr))))))) (fun x : T_ref15_Expr => (x.Kind, x.Op, x.V, x.Table, x.Name, x.L)) (fun y => (T_ref15_Expr.mk y.1 y.2.1 y.2.2.1 y.2.2.2.1 y.2.2.2.2.1 y.2.2.2.2.2)) e_ref15_Expr
noncomputable def e_value_Value : Enc T_value_Value := encIso ((tbCat (tbI .i64) (tbCat (tbI .i64) tbS)) : Tb KK _).E (fun x : T_value_Value => (x.Kind, x.N, x.S))
noncomputable def b31 : Tb KK T_value_Value := tbIso (tbCat (tbI .i64) (tbCat (tbI .i64) tbS)) (fun x : T_value_Value => (x.Kind, x.N, x.S)) (fun y => (⟨y.1, y.2.1, y.2.2⟩ : T_value_Value)) e_value_Value
mutual
noncomputable def c_expr_Expr : T_expr_Expr → List AV
  | .mk v_Kind v_Op v_V v_Table v_Name v_L => ([.it .i64 v_Kind]) ++ ([.it .i64 v_Op]) ++ (e_value_Value.c v_V) ++ ([.st v_Table]) ++ ([.st v_Name]) ++ ([.sl false v_L.length (cs_expr_Expr v_L)])
noncomputable def cs_expr_Expr : List T_expr_Expr → List AV
  | [] => []
  | x :: r => c_expr_Expr x ++ cs_expr_Expr r
end
theorem cs_expr_Expr_eq : ∀ l, cs_expr_Expr l = l.flatMap c_expr_Expr
  | [] => rfl
  | x :: r => by simp only [cs_expr_Expr, List.flatMap_cons, cs_expr_Expr_eq r]
mutual
theorem c_expr_Expr_len : ∀ x, (c_expr_Expr x).length = 8
  | .mk v_Kind v_Op v_V v_Table v_Name v_L => by first | (simp [c_expr_Expr, e_value_Value.len]; done) | (simp [c_expr_Expr, e_value_Value.len]; rfl)
end
mutual
theorem c_expr_Expr_no : ∀ x, noLs (c_expr_Expr x) = true
  | .mk v_Kind v_Op v_V v_Table v_Name v_L => by simp [c_expr_Expr, noLs_app, noLs, AV.noL, slA, e_value_Value.no]
end
mutual
theorem c_expr_Expr_one : ∀ x, (c_expr_Expr x).all AV.one = true
  | .mk v_Kind v_Op v_V v_Table v_Name v_L => by simp only [c_expr_Expr, List.all_append, List.all_cons, List.all_nil, AV.one, slA, Bool.and_true, Bool.true_and, e_value_Value.one]
end
noncomputable def e_expr_Expr : Enc T_expr_Expr := ⟨c_expr_Expr, 8, by omega, c_expr_Expr_len, c_expr_Expr_no, c_expr_Expr_one⟩
noncomputable def b34 : Tb KK T_expr_Expr := tbIso (tbCat (tbI .i64) (tbCat (tbI .i64) (tbCat b31 (tbCat tbS (tbCat tbS (tbL 34 e_expr_Expr : Tb KK (List T_expr_Expr))))))) (fun x : T_expr_Expr => (x.Kind, x.Op, x.V, x.Table, x.Name, x.L)) (fun y => (T_expr_Expr.mk y.1 y.2.1 y.2.2.1 y.2.2.2.1 y.2.2.2.2.1 y.2.2.2.2.2)) e_expr_Expr
noncomputable def TF : (c : TC) → Tb KK (KF c)
  | .c0 => tbU
  | .c2 => (tbI .i64)
  | .c3 => (tbI .i64)
  | .c4 => tbB
  | .c5 => (tbI .u8)
  | .c9 => tbS
  | .c22 => (tbL 65 e_law15_Part : Tb KK (List T_law15_Part))
  | .c25 => b25
  | .c26 => (tbL 28 e_ref15_Expr : Tb KK (List T_ref15_Expr))
  | .c28 => b28
  | .c31 => b31
  | .c32 => (tbL 34 e_expr_Expr : Tb KK (List T_expr_Expr))
  | .c34 => b34
  | .c65 => b65
noncomputable def CC : Cx KK := @cxOf TC KF code TF
theorem b65_ok : TbOk Tryd.prog CC b65 := tbIso_ok (tbCat_ok (tbI_ok _) (tbCat_ok (tbI_ok _) (tbCat_ok (tbI_ok _) (tbCat_ok (tbI_ok _) (tbCat_ok (tbI_ok _) (tbCat_ok tbS_ok tbS_ok)))))) (fun y => rfl) (fun x => rfl)
theorem dw_law15_Part : ∀ x, dwks (e_law15_Part.c x) = e_law15_Part.c x := b65_ok.dw
theorem b25_ok : TbOk Tryd.prog CC b25 := tbIso_ok (tbCat_ok (tbI_ok _) (tbCat_ok (tbI_ok _) tbS_ok)) (fun y => rfl) (fun x => rfl)
theorem dw_ref06_Value : ∀ x, dwks (e_ref06_Value.c x) = e_ref06_Value.c x := b25_ok.dw
mutual
theorem c_ref15_Expr_dw : ∀ x, dwks (c_ref15_Expr x) = c_ref15_Expr x
  | .mk v_Kind v_Op v_V v_Table v_Name v_L => by simp only [c_ref15_Expr, dwks_app, dwks, dwk, slA, cs_ref15_Expr_dw v_L, dw_ref06_Value]
theorem cs_ref15_Expr_dw : ∀ l, dwks (cs_ref15_Expr l) = cs_ref15_Expr l
  | [] => rfl
  | x :: r => by simp only [cs_ref15_Expr, dwks_app, c_ref15_Expr_dw x, cs_ref15_Expr_dw r]
end
theorem dw_ref15_Expr : ∀ x, dwks (e_ref15_Expr.c x) = e_ref15_Expr.c x := c_ref15_Expr_dw
theorem b28_ok : TbOk Tryd.prog CC b28 := tbIso_ok (tbCat_ok (tbI_ok _) (tbCat_ok (tbI_ok _) (tbCat_ok b25_ok (tbCat_ok tbS_ok (tbCat_ok tbS_ok (tbL_ok _ rfl dw_ref15_Expr)))))) (fun y => rfl) (fun x => by cases x; simp only [e_ref15_Expr, c_ref15_Expr, cs_ref15_Expr_eq]; rfl)
theorem b31_ok : TbOk Tryd.prog CC b31 := tbIso_ok (tbCat_ok (tbI_ok _) (tbCat_ok (tbI_ok _) tbS_ok)) (fun y => rfl) (fun x => rfl)
theorem dw_value_Value : ∀ x, dwks (e_value_Value.c x) = e_value_Value.c x := b31_ok.dw
mutual
theorem c_expr_Expr_dw : ∀ x, dwks (c_expr_Expr x) = c_expr_Expr x
  | .mk v_Kind v_Op v_V v_Table v_Name v_L => by simp only [c_expr_Expr, dwks_app, dwks, dwk, slA, cs_expr_Expr_dw v_L, dw_value_Value]
theorem cs_expr_Expr_dw : ∀ l, dwks (cs_expr_Expr l) = cs_expr_Expr l
  | [] => rfl
  | x :: r => by simp only [cs_expr_Expr, dwks_app, c_expr_Expr_dw x, cs_expr_Expr_dw r]
end
theorem dw_expr_Expr : ∀ x, dwks (e_expr_Expr.c x) = e_expr_Expr.c x := c_expr_Expr_dw
theorem b34_ok : TbOk Tryd.prog CC b34 := tbIso_ok (tbCat_ok (tbI_ok _) (tbCat_ok (tbI_ok _) (tbCat_ok b31_ok (tbCat_ok tbS_ok (tbCat_ok tbS_ok (tbL_ok _ rfl dw_expr_Expr)))))) (fun y => rfl) (fun x => by cases x; simp only [e_expr_Expr, c_expr_Expr, cs_expr_Expr_eq]; rfl)
theorem CC_ok : CxOk Tryd.prog CC := @cxOf_ok TC KF code _ TF fun c => match c with
  | .c0 => tbU_ok
  | .c2 => (tbI_ok _)
  | .c3 => (tbI_ok _)
  | .c4 => tbB_ok
  | .c5 => (tbI_ok _)
  | .c9 => tbS_ok
  | .c22 => (tbL_ok _ rfl dw_law15_Part)
  | .c25 => b25_ok
  | .c26 => (tbL_ok _ rfl dw_ref15_Expr)
  | .c28 => b28_ok
  | .c31 => b31_ok
  | .c32 => (tbL_ok _ rfl dw_expr_Expr)
  | .c34 => b34_ok
  | .c65 => b65_ok

def value_OfInt_o (a0 : Int) (r0 : T_value_Value) : Prop :=
  (⟨(2 : Int), a0, ([] : Str)⟩ : T_value_Value) = r0
noncomputable def value_OfInt_sp : Sp KK := ⟨26, [.v 2], [31], appW (K := KK) [31] [.v 2] value_OfInt_o⟩
noncomputable def value_OfInt_an : An KK := (.s .o (.s .o .o))
noncomputable def value_OfInt_cf : Cf KK := ⟨CC, [], 5⟩

set_option maxRecDepth 100000 in
theorem value_OfInt_ok : SpOk Tryd.prog CC value_OfInt_sp := by
  intro env r hF h
  obtain ⟨a0, env0, rfl, h1⟩ := appW_v h
  obtain ⟨rfl, h2⟩ := appW_n h1
  obtain ⟨r0, rr0, rfl, h3⟩ := apR_v h2
  obtain ⟨rfl, h4⟩ := apR_n h3
  refine ⟨rfl, DnF_by (F := value_OfInt_cf) CC_ok SsOk_n t26 (A := value_OfInt_an) (ps := [.v 2]) (rs := [31]) (env := [.d (.v 2 a0)]) (r := [.v 31 r0]) (X := value_OfInt_o a0 r0) rfl (Nat.le_of_ble_eq_true rfl) rfl hF h4 ?_⟩
  kernel_rfl

def expr_Depth_L1 (a0 : T_expr_Expr) (Xr : T_expr_Expr → Int → Prop) (r0 : Int) (X1 : Int → Int → Prop) (x1 : Int) (x2 : Int) : Prop :=
  cnd (decide (x2 < (a0.L.length : Int))) ((0 ≤ x2) ∧ (x2 < (a0.L.length : Int)) ∧ ∃ y3 : T_expr_Expr, (a0.L[x2.toNat]? = some y3) ∧ ∃ z4 : Int, (Xr (T_expr_Expr.mk y3.Kind y3.Op (⟨y3.V.Kind, y3.V.N, y3.V.S⟩ : T_value_Value) y3.Table y3.Name y3.L) z4) ∧ X1 (if z4 > x1 then z4 else x1) (IntKind.i64.wrap (x2 + (1 : Int)))) ((IntKind.i64.wrap (x1 + (1 : Int))) = r0)
def expr_Depth_B (Xr : T_expr_Expr → Int → Prop) (a0 : T_expr_Expr) (r0 : Int) : Prop :=
  (a0.L.length ≤ maxLen → ∀ X1 : Int → Int → Prop, (∀ (x1 : Int) (x2 : Int), expr_Depth_L1 a0 Xr r0 X1 x1 x2 → X1 x1 x2) → X1 (0 : Int) (0 : Int))
def expr_Depth_o (a0 : T_expr_Expr) (r0 : Int) : Prop := ∀ Xr : T_expr_Expr → Int → Prop, (∀ (a0 : T_expr_Expr) (r0 : Int), expr_Depth_B Xr a0 r0 → Xr a0 r0) → Xr a0 r0
def expr_Depth_L1i (Xr : T_expr_Expr → Int → Prop) (a0 : T_expr_Expr) (r0 : Int) (X1 : Int → Int → Prop) (x1 : Int) (x2 : Int) : Prop :=
  cnd (decide (x2 < (a0.L.length : Int))) ((0 ≤ x2) ∧ (x2 < (a0.L.length : Int)) ∧ ∃ y3 : T_expr_Expr, (a0.L[x2.toNat]? = some y3) ∧ ∃ z4 : Int, (Xr (T_expr_Expr.mk y3.Kind y3.Op (⟨y3.V.Kind, y3.V.N, y3.V.S⟩ : T_value_Value) y3.Table y3.Name y3.L) z4) ∧ X1 (if z4 > x1 then z4 else x1) (IntKind.i64.wrap (x2 + (1 : Int)))) ((IntKind.i64.wrap (x1 + (1 : Int))) = r0)
def expr_Depth_Bi (Xr : T_expr_Expr → Int → Prop) (a0 : T_expr_Expr) (r0 : Int) : Prop :=
  (a0.L.length ≤ maxLen → ∀ X1 : Int → Int → Prop, (∀ (x1 : Int) (x2 : Int), expr_Depth_L1i Xr a0 r0 X1 x1 x2 → X1 x1 x2) → X1 (0 : Int) (0 : Int))
theorem expr_Depth_L1_m (Xr : T_expr_Expr → Int → Prop) (a0 : T_expr_Expr) (r0 : Int) {X1 : Int → Int → Prop} {x1 : Int} {x2 : Int} (h : expr_Depth_L1i Xr a0 r0 X1 x1 x2) : expr_Depth_L1 a0 Xr r0 X1 x1 x2 := by
  unfold expr_Depth_L1
  unfold expr_Depth_L1i at h
  exact h
theorem expr_Depth_Bm (Xr : T_expr_Expr → Int → Prop) (a0 : T_expr_Expr) (r0 : Int) (h : expr_Depth_Bi Xr a0 r0) : expr_Depth_B Xr a0 r0 := by
  unfold expr_Depth_B
  unfold expr_Depth_Bi at h
  intro c
  replace h := h c
  intro X1 k
  exact h X1 (fun x1 x2 q => k x1 x2 (expr_Depth_L1_m Xr a0 r0 q))
theorem expr_Depth_i (a0 : T_expr_Expr) (r0 : Int) (h : ∀ Xr : T_expr_Expr → Int → Prop, (∀ (a0 : T_expr_Expr) (r0 : Int), expr_Depth_Bi Xr a0 r0 → Xr a0 r0) → Xr a0 r0) : expr_Depth_o a0 r0 := fun Xr k => h Xr fun a0 r0 q => k a0 r0 (expr_Depth_Bm Xr a0 r0 q)
noncomputable def expr_Depth_sp : Sp KK := ⟨15, [.v 34], [3], appW (K := KK) [3] [.v 34] expr_Depth_o⟩
noncomputable def expr_Depth_an : An KK := (.s .o (.s .o (.s (.s .o (.b (.l ⟨[(3, .it .i64), (7, .kp 6), (8, .kp 7), (9, .it .i64)], [], []⟩ (fun _ => (.s .o (.s (.c .o .o) (.s (.b (.s .o .o)) .o))))))) (.s .o .o))))
noncomputable def expr_Depth_cf (Xr : WTy KK [3] [.v 34]) : Cf KK := ⟨CC, [⟨15, [.v 34], [3], appW (K := KK) [3] [.v 34] Xr⟩], 20⟩

set_option maxRecDepth 100000 in
theorem expr_Depth_okB (Xr : T_expr_Expr → Int → Prop) (hX : ∀ (a0 : T_expr_Expr) (r0 : Int), Xr a0 r0 → Pure Tryd.prog 15 (pencs CC [.v 34] ([.d (.v 34 a0)] : List (AD KK))) (tresA (([.v 3 r0] : List (DV KK)).map (dvA CC)))) : ∀ (a0 : T_expr_Expr) (r0 : Int), expr_Depth_B Xr a0 r0 → Pure Tryd.prog 15 (pencs CC [.v 34] ([.d (.v 34 a0)] : List (AD KK))) (tresA (([.v 3 r0] : List (DV KK)).map (dvA CC))) := by
  intro a0 r0 h
  refine DnF_by (F := expr_Depth_cf Xr) CC_ok (SsOk_c ?_ SsOk_n) t15 (A := expr_Depth_an) (ps := [.v 34]) (rs := [3]) (env := [.d (.v 34 a0)]) (r := [.v 3 r0]) (X := expr_Depth_B Xr a0 r0) rfl (Nat.le_of_ble_eq_true rfl) rfl (fun G hG => by simp at hG) h ?_
  · clear h r0
    intro env r hF h
    obtain ⟨a0, env0, rfl, h1⟩ := appW_v h
    obtain ⟨rfl, h2⟩ := appW_n h1
    obtain ⟨r0, rr0, rfl, h3⟩ := apR_v h2
    obtain ⟨rfl, h4⟩ := apR_n h3
    exact ⟨rfl, hX a0 r0 h4⟩
  · kernel_rfl
set_option maxRecDepth 100000 in
theorem expr_Depth_ok : SpOk Tryd.prog CC expr_Depth_sp := by
  intro env r hF h
  obtain ⟨a0, env0, rfl, h1⟩ := appW_v h
  obtain ⟨rfl, h2⟩ := appW_n h1
  obtain ⟨r0, rr0, rfl, h3⟩ := apR_v h2
  obtain ⟨rfl, h4⟩ := apR_n h3
  exact ⟨rfl, h4 (fun a0 r0 =>  Pure Tryd.prog 15 (pencs CC [.v 34] ([.d (.v 34 a0)] : List (AD KK))) (tresA (([.v 3 r0] : List (DV KK)).map (dvA CC)))) (fun a0 r0 h => expr_Depth_okB _ (fun a0 r0 h => h) a0 r0 h)⟩

def expr_Expr_parts_J1 (a0 : T_expr_Expr) (r0 : Bool) (x1 : Bool) : Prop :=
  cnd x1 ((a0.L.length ≤ maxLen → ((a0.L.length : Int) == (0 : Int)) = r0)) (cnd (a0.Kind == (3 : Int)) ((a0.L.length ≤ maxLen → ((a0.L.length : Int) == (2 : Int)) = r0)) (cnd (a0.Kind == (8 : Int)) ((a0.L.length ≤ maxLen → cnd ((a0.L.length : Int) == (1 : Int)) (true = r0) (cnd (a0.Op == (1 : Int)) ((a0.L.length ≤ maxLen → ((a0.L.length : Int) == (0 : Int)) = r0)) (false = r0)))) (cnd (decide ((4 : Int) ≤ a0.Kind)) (cnd (decide (a0.Kind ≤ (7 : Int))) ((a0.L.length ≤ maxLen → ((a0.L.length : Int) == (1 : Int)) = r0)) (false = r0)) (false = r0))))
def expr_Expr_parts_o (a0 : T_expr_Expr) (r0 : Bool) : Prop :=
  ∀ J1 : Bool → Prop, (∀ (x1 : Bool), expr_Expr_parts_J1 a0 r0 x1 → J1 x1) → cnd (a0.Kind == (1 : Int)) (J1 (a0.Kind == (1 : Int))) (J1 (a0.Kind == (2 : Int)))
def expr_Expr_parts_J1i (a0 : T_expr_Expr) (r0 : Bool) (x1 : Bool) : Prop :=
  cnd x1 ((a0.L.length ≤ maxLen → ((a0.L.length : Int) == (0 : Int)) = r0)) (cnd (a0.Kind == (3 : Int)) ((a0.L.length ≤ maxLen → ((a0.L.length : Int) == (2 : Int)) = r0)) (cnd (a0.Kind == (8 : Int)) ((a0.L.length ≤ maxLen → cnd ((a0.L.length : Int) == (1 : Int)) (true = r0) (cnd (a0.Op == (1 : Int)) ((a0.L.length ≤ maxLen → ((a0.L.length : Int) == (0 : Int)) = r0)) (false = r0)))) (cnd (decide ((4 : Int) ≤ a0.Kind)) (cnd (decide (a0.Kind ≤ (7 : Int))) ((a0.L.length ≤ maxLen → ((a0.L.length : Int) == (1 : Int)) = r0)) (false = r0)) (false = r0))))
def expr_Expr_parts_oi (a0 : T_expr_Expr) (r0 : Bool) : Prop :=
  cnd (a0.Kind == (1 : Int)) (expr_Expr_parts_J1i a0 r0 (a0.Kind == (1 : Int))) (expr_Expr_parts_J1i a0 r0 (a0.Kind == (2 : Int)))
theorem expr_Expr_parts_J1_m (a0 : T_expr_Expr) (r0 : Bool) {x1 : Bool} (h : expr_Expr_parts_J1i a0 r0 x1) : expr_Expr_parts_J1 a0 r0 x1 := by
  unfold expr_Expr_parts_J1
  unfold expr_Expr_parts_J1i at h
  exact h
theorem expr_Expr_parts_i (a0 : T_expr_Expr) (r0 : Bool) (h : expr_Expr_parts_oi a0 r0) : expr_Expr_parts_o a0 r0 := by
  unfold expr_Expr_parts_o
  unfold expr_Expr_parts_oi at h
  intro J1 kJ1
  have hJ1 : ∀ (x1 : Bool), expr_Expr_parts_J1i a0 r0 x1 → J1 x1 := fun x1 q => kJ1 x1 (expr_Expr_parts_J1_m a0 r0 q)
  refine cnd_mono h (fun h => ?_) (fun h => ?_)
  · exact hJ1 _ h
  · exact hJ1 _ h
noncomputable def expr_Expr_parts_sp : Sp KK := ⟨45, [.v 34], [4], appW (K := KK) [4] [.v 34] expr_Expr_parts_o⟩
noncomputable def expr_Expr_parts_an : An KK := (.s .o (.s (.s .o (.b (.j ⟨[(1, .px 1 0), (4, .kp 10), (5, .bl)], [(1, 34, [.kp 11, .kp 12, .kp 13, .kp 14, .kp 15, .kp 16, .kp 17, .kp 18])], []⟩ (.s .o (.c .o .o)) (fun _ => (.c (.s .o .o) (.s .o (.c (.s .o .o) (.s .o (.c (.s .o .o) .o))))))))) (.s .o .o)))
noncomputable def expr_Expr_parts_cf : Cf KK := ⟨CC, [], 49⟩

set_option maxRecDepth 100000 in
theorem expr_Expr_parts_ok : SpOk Tryd.prog CC expr_Expr_parts_sp := by
  intro env r hF h
  obtain ⟨a0, env0, rfl, h1⟩ := appW_v h
  obtain ⟨rfl, h2⟩ := appW_n h1
  obtain ⟨r0, rr0, rfl, h3⟩ := apR_v h2
  obtain ⟨rfl, h4⟩ := apR_n h3
  refine ⟨rfl, DnF_by (F := expr_Expr_parts_cf) CC_ok SsOk_n t45 (A := expr_Expr_parts_an) (ps := [.v 34]) (rs := [4]) (env := [.d (.v 34 a0)]) (r := [.v 4 r0]) (X := expr_Expr_parts_o a0 r0) rfl (Nat.le_of_ble_eq_true rfl) rfl hF h4 ?_⟩
  kernel_rfl

def expr_Expr_bare_J1 (r0 : Bool) (x1 : Int) (x2 : Int) (x3 : Int) (x4 : Int) (x5 : Str) (x6 : Str) (x7 : Str) (x8 : (List T_expr_Expr)) (x9 : Int) (x10 : Int) (x11 : Int) (x12 : Int) (x13 : Str) (x14 : Str) (x15 : Str) (x16 : (List T_expr_Expr)) : Prop :=
  cnd (x10 == x2) (cnd ((x11 == x3) && ((x12 == x4) && ((x13 == x5) && true))) (cnd (x14 == x6) ((x15 == x7) = r0) (false = r0)) (false = r0)) (false = r0)
def expr_Expr_bare_J2 (J1 : Int → Int → Int → Int → Str → Str → Str → (List T_expr_Expr) → Int → Int → Int → Int → Str → Str → Str → (List T_expr_Expr) → Prop) (a0 : T_expr_Expr) (x17 : Bool) : Prop :=
  cnd x17 (J1 a0.Kind a0.Op a0.V.Kind a0.V.N a0.V.S a0.Table a0.Name a0.L a0.Kind a0.Op (0 : Int) (0 : Int) ([] : Str) ([] : Str) ([] : Str) a0.L) (J1 a0.Kind a0.Op a0.V.Kind a0.V.N a0.V.S a0.Table a0.Name a0.L a0.Kind (0 : Int) (0 : Int) (0 : Int) ([] : Str) ([] : Str) ([] : Str) a0.L)
def expr_Expr_bare_o (a0 : T_expr_Expr) (r0 : Bool) : Prop :=
  ∀ J1 : Int → Int → Int → Int → Str → Str → Str → (List T_expr_Expr) → Int → Int → Int → Int → Str → Str → Str → (List T_expr_Expr) → Prop, (∀ (x1 : Int) (x2 : Int) (x3 : Int) (x4 : Int) (x5 : Str) (x6 : Str) (x7 : Str) (x8 : (List T_expr_Expr)) (x9 : Int) (x10 : Int) (x11 : Int) (x12 : Int) (x13 : Str) (x14 : Str) (x15 : Str) (x16 : (List T_expr_Expr)), expr_Expr_bare_J1 r0 x1 x2 x3 x4 x5 x6 x7 x8 x9 x10 x11 x12 x13 x14 x15 x16 → J1 x1 x2 x3 x4 x5 x6 x7 x8 x9 x10 x11 x12 x13 x14 x15 x16) → cnd (a0.Kind == (1 : Int)) (J1 a0.Kind a0.Op a0.V.Kind a0.V.N a0.V.S a0.Table a0.Name a0.L a0.Kind (0 : Int) a0.V.Kind a0.V.N a0.V.S ([] : Str) ([] : Str) a0.L) (cnd (a0.Kind == (2 : Int)) (J1 a0.Kind a0.Op a0.V.Kind a0.V.N a0.V.S a0.Table a0.Name a0.L a0.Kind (0 : Int) (0 : Int) (0 : Int) ([] : Str) a0.Table a0.Name a0.L) (∀ J2 : Bool → Prop, (∀ (x17 : Bool), expr_Expr_bare_J2 J1 a0 x17 → J2 x17) → cnd (a0.Kind == (3 : Int)) (J2 (a0.Kind == (3 : Int))) (J2 (a0.Kind == (8 : Int)))))
def expr_Expr_bare_J1i (r0 : Bool) (x1 : Int) (x2 : Int) (x3 : Int) (x4 : Int) (x5 : Str) (x6 : Str) (x7 : Str) (x8 : (List T_expr_Expr)) (x9 : Int) (x10 : Int) (x11 : Int) (x12 : Int) (x13 : Str) (x14 : Str) (x15 : Str) (x16 : (List T_expr_Expr)) : Prop :=
  cnd (x10 == x2) (cnd ((x11 == x3) && ((x12 == x4) && ((x13 == x5) && true))) (cnd (x14 == x6) ((x15 == x7) = r0) (false = r0)) (false = r0)) (false = r0)
def expr_Expr_bare_J2i (a0 : T_expr_Expr) (r0 : Bool) (x17 : Bool) : Prop :=
  cnd x17 (expr_Expr_bare_J1i r0 a0.Kind a0.Op a0.V.Kind a0.V.N a0.V.S a0.Table a0.Name a0.L a0.Kind a0.Op (0 : Int) (0 : Int) ([] : Str) ([] : Str) ([] : Str) a0.L) (expr_Expr_bare_J1i r0 a0.Kind a0.Op a0.V.Kind a0.V.N a0.V.S a0.Table a0.Name a0.L a0.Kind (0 : Int) (0 : Int) (0 : Int) ([] : Str) ([] : Str) ([] : Str) a0.L)
def expr_Expr_bare_oi (a0 : T_expr_Expr) (r0 : Bool) : Prop :=
  cnd (a0.Kind == (1 : Int)) (expr_Expr_bare_J1i r0 a0.Kind a0.Op a0.V.Kind a0.V.N a0.V.S a0.Table a0.Name a0.L a0.Kind (0 : Int) a0.V.Kind a0.V.N a0.V.S ([] : Str) ([] : Str) a0.L) (cnd (a0.Kind == (2 : Int)) (expr_Expr_bare_J1i r0 a0.Kind a0.Op a0.V.Kind a0.V.N a0.V.S a0.Table a0.Name a0.L a0.Kind (0 : Int) (0 : Int) (0 : Int) ([] : Str) a0.Table a0.Name a0.L) (cnd (a0.Kind == (3 : Int)) (expr_Expr_bare_J2i a0 r0 (a0.Kind == (3 : Int))) (expr_Expr_bare_J2i a0 r0 (a0.Kind == (8 : Int)))))
theorem expr_Expr_bare_J1_m (r0 : Bool) {x1 : Int} {x2 : Int} {x3 : Int} {x4 : Int} {x5 : Str} {x6 : Str} {x7 : Str} {x8 : (List T_expr_Expr)} {x9 : Int} {x10 : Int} {x11 : Int} {x12 : Int} {x13 : Str} {x14 : Str} {x15 : Str} {x16 : (List T_expr_Expr)} (h : expr_Expr_bare_J1i r0 x1 x2 x3 x4 x5 x6 x7 x8 x9 x10 x11 x12 x13 x14 x15 x16) : expr_Expr_bare_J1 r0 x1 x2 x3 x4 x5 x6 x7 x8 x9 x10 x11 x12 x13 x14 x15 x16 := by
  unfold expr_Expr_bare_J1
  unfold expr_Expr_bare_J1i at h
  exact h
theorem expr_Expr_bare_J2_m (J1 : Int → Int → Int → Int → Str → Str → Str → (List T_expr_Expr) → Int → Int → Int → Int → Str → Str → Str → (List T_expr_Expr) → Prop) (a0 : T_expr_Expr) (r0 : Bool) (hJ1 : ∀ (x1 : Int) (x2 : Int) (x3 : Int) (x4 : Int) (x5 : Str) (x6 : Str) (x7 : Str) (x8 : (List T_expr_Expr)) (x9 : Int) (x10 : Int) (x11 : Int) (x12 : Int) (x13 : Str) (x14 : Str) (x15 : Str) (x16 : (List T_expr_Expr)), expr_Expr_bare_J1i r0 x1 x2 x3 x4 x5 x6 x7 x8 x9 x10 x11 x12 x13 x14 x15 x16 → J1 x1 x2 x3 x4 x5 x6 x7 x8 x9 x10 x11 x12 x13 x14 x15 x16) {x17 : Bool} (h : expr_Expr_bare_J2i a0 r0 x17) : expr_Expr_bare_J2 J1 a0 x17 := by
  unfold expr_Expr_bare_J2
  unfold expr_Expr_bare_J2i at h
  refine cnd_mono h (fun h => ?_) (fun h => ?_)
  · exact hJ1 _ _ _ _ _ _ _ _ _ _ _ _ _ _ _ _ h
  · exact hJ1 _ _ _ _ _ _ _ _ _ _ _ _ _ _ _ _ h
theorem expr_Expr_bare_i (a0 : T_expr_Expr) (r0 : Bool) (h : expr_Expr_bare_oi a0 r0) : expr_Expr_bare_o a0 r0 := by
  unfold expr_Expr_bare_o
  unfold expr_Expr_bare_oi at h
  intro J1 kJ1
  have hJ1 : ∀ (x1 : Int) (x2 : Int) (x3 : Int) (x4 : Int) (x5 : Str) (x6 : Str) (x7 : Str) (x8 : (List T_expr_Expr)) (x9 : Int) (x10 : Int) (x11 : Int) (x12 : Int) (x13 : Str) (x14 : Str) (x15 : Str) (x16 : (List T_expr_Expr)), expr_Expr_bare_J1i r0 x1 x2 x3 x4 x5 x6 x7 x8 x9 x10 x11 x12 x13 x14 x15 x16 → J1 x1 x2 x3 x4 x5 x6 x7 x8 x9 x10 x11 x12 x13 x14 x15 x16 := fun x1 x2 x3 x4 x5 x6 x7 x8 x9 x10 x11 x12 x13 x14 x15 x16 q => kJ1 x1 x2 x3 x4 x5 x6 x7 x8 x9 x10 x11 x12 x13 x14 x15 x16 (expr_Expr_bare_J1_m r0 q)
  refine cnd_mono h (fun h => ?_) (fun h => ?_)
  · exact hJ1 _ _ _ _ _ _ _ _ _ _ _ _ _ _ _ _ h
  · refine cnd_mono h (fun h => ?_) (fun h => ?_)
    · exact hJ1 _ _ _ _ _ _ _ _ _ _ _ _ _ _ _ _ h
    · intro J2 kJ2
      have hJ2 : ∀ (x17 : Bool), expr_Expr_bare_J2i a0 r0 x17 → J2 x17 := fun x17 q => kJ2 x17 (expr_Expr_bare_J2_m J1 a0 r0 hJ1 q)
      refine cnd_mono h (fun h => ?_) (fun h => ?_)
      · exact hJ2 _ h
      · exact hJ2 _ h
noncomputable def expr_Expr_bare_sp : Sp KK := ⟨46, [.v 34], [4], appW (K := KK) [4] [.v 34] expr_Expr_bare_o⟩
noncomputable def expr_Expr_bare_an : An KK := (.s .o (.s .o (.j ⟨[(1, .px 1 0), (3, .px 3 0)], [(1, 34, [.it .i64, .it .i64, .it .i64, .it .i64, .st, .st, .st, .sl 34]), (3, 34, [.it .i64, .it .i64, .it .i64, .it .i64, .st, .st, .st, .sl 34])], []⟩ (.s .o (.b (.s .o (.c .o (.s .o (.c .o (.j ⟨[(1, .px 1 0), (3, .px 3 0), (24, .bl)], [(1, 34, [.kp 33, .kp 34, .kp 35, .kp 36, .kp 37, .kp 38, .kp 39, .kp 40]), (3, 34, [.kp 41, .kp 42, .kp 43, .kp 44, .kp 45, .kp 46, .kp 47, .kp 48])], []⟩ (.s .o (.c .o .o)) (fun _ => (.c .o .o))))))))) (fun _ => (.s .o .o)))))
noncomputable def expr_Expr_bare_cf : Cf KK := ⟨CC, [], 56⟩

set_option maxRecDepth 100000 in
theorem expr_Expr_bare_ok : SpOk Tryd.prog CC expr_Expr_bare_sp := by
  intro env r hF h
  obtain ⟨a0, env0, rfl, h1⟩ := appW_v h
  obtain ⟨rfl, h2⟩ := appW_n h1
  obtain ⟨r0, rr0, rfl, h3⟩ := apR_v h2
  obtain ⟨rfl, h4⟩ := apR_n h3
  refine ⟨rfl, DnF_by (F := expr_Expr_bare_cf) CC_ok SsOk_n t46 (A := expr_Expr_bare_an) (ps := [.v 34]) (rs := [4]) (env := [.d (.v 34 a0)]) (r := [.v 4 r0]) (X := expr_Expr_bare_o a0 r0) rfl (Nat.le_of_ble_eq_true rfl) rfl hF h4 ?_⟩
  kernel_rfl

def value_Value_Good_o (a0 : T_value_Value) (r0 : Bool) : Prop :=
  cnd (a0.Kind == (0 : Int)) (((a0.Kind == (0 : Int)) && ((a0.N == (0 : Int)) && ((a0.S == ([] : Str)) && true))) = r0) (cnd (a0.Kind == (1 : Int)) (cnd (a0.N == (0 : Int)) ((a0.S == ([] : Str)) = r0) (cnd (a0.N == (1 : Int)) ((a0.S == ([] : Str)) = r0) (false = r0))) (cnd (a0.Kind == (2 : Int)) ((a0.S == ([] : Str)) = r0) (cnd (a0.Kind == (3 : Int)) (cnd (a0.N == (0 : Int)) ((decide ((a0.S.length : Int) ≤ (64 : Int))) = r0) (false = r0)) (false = r0))))
noncomputable def value_Value_Good_sp : Sp KK := ⟨62, [.v 31], [4], appW (K := KK) [4] [.v 31] value_Value_Good_o⟩
noncomputable def value_Value_Good_an : An KK := (.s .o (.s (.s .o (.b (.s .o (.c (.s .o .o) (.s .o (.c (.s .o .o) (.s .o (.c (.s .o .o) (.s .o (.c (.s .o .o) .o)))))))))) (.s .o .o)))
noncomputable def value_Value_Good_cf : Cf KK := ⟨CC, [], 41⟩

set_option maxRecDepth 100000 in
theorem value_Value_Good_ok : SpOk Tryd.prog CC value_Value_Good_sp := by
  intro env r hF h
  obtain ⟨a0, env0, rfl, h1⟩ := appW_v h
  obtain ⟨rfl, h2⟩ := appW_n h1
  obtain ⟨r0, rr0, rfl, h3⟩ := apR_v h2
  obtain ⟨rfl, h4⟩ := apR_n h3
  refine ⟨rfl, DnF_by (F := value_Value_Good_cf) CC_ok SsOk_n t62 (A := value_Value_Good_an) (ps := [.v 31]) (rs := [4]) (env := [.d (.v 31 a0)]) (r := [.v 4 r0]) (X := value_Value_Good_o a0 r0) rfl (Nat.le_of_ble_eq_true rfl) rfl hF h4 ?_⟩
  kernel_rfl

def lex_small_o (a0 : Int) (r0 : Bool) : Prop :=
  cnd (decide ((97 : Int) ≤ a0)) ((decide (a0 ≤ (122 : Int))) = r0) (false = r0)
noncomputable def lex_small_sp : Sp KK := ⟨35, [.v 5], [4], appW (K := KK) [4] [.v 5] lex_small_o⟩
noncomputable def lex_small_an : An KK := (.s .o (.s .o .o))
noncomputable def lex_small_cf : Cf KK := ⟨CC, [], 9⟩

set_option maxRecDepth 100000 in
theorem lex_small_ok : SpOk Tryd.prog CC lex_small_sp := by
  intro env r hF h
  obtain ⟨a0, env0, rfl, h1⟩ := appW_v h
  obtain ⟨rfl, h2⟩ := appW_n h1
  obtain ⟨r0, rr0, rfl, h3⟩ := apR_v h2
  obtain ⟨rfl, h4⟩ := apR_n h3
  refine ⟨rfl, DnF_by (F := lex_small_cf) CC_ok SsOk_n t35 (A := lex_small_an) (ps := [.v 5]) (rs := [4]) (env := [.d (.v 5 a0)]) (r := [.v 4 r0]) (X := lex_small_o a0 r0) rfl (Nat.le_of_ble_eq_true rfl) rfl hF h4 ?_⟩
  kernel_rfl

def lex_digit_o (a0 : Int) (r0 : Bool) : Prop :=
  cnd (decide ((48 : Int) ≤ a0)) ((decide (a0 ≤ (57 : Int))) = r0) (false = r0)
noncomputable def lex_digit_sp : Sp KK := ⟨51, [.v 5], [4], appW (K := KK) [4] [.v 5] lex_digit_o⟩
noncomputable def lex_digit_an : An KK := (.s .o (.s .o .o))
noncomputable def lex_digit_cf : Cf KK := ⟨CC, [], 9⟩

set_option maxRecDepth 100000 in
theorem lex_digit_ok : SpOk Tryd.prog CC lex_digit_sp := by
  intro env r hF h
  obtain ⟨a0, env0, rfl, h1⟩ := appW_v h
  obtain ⟨rfl, h2⟩ := appW_n h1
  obtain ⟨r0, rr0, rfl, h3⟩ := apR_v h2
  obtain ⟨rfl, h4⟩ := apR_n h3
  refine ⟨rfl, DnF_by (F := lex_digit_cf) CC_ok SsOk_n t51 (A := lex_digit_an) (ps := [.v 5]) (rs := [4]) (env := [.d (.v 5 a0)]) (r := [.v 4 r0]) (X := lex_digit_o a0 r0) rfl (Nat.le_of_ble_eq_true rfl) rfl hF h4 ?_⟩
  kernel_rfl

def lex_rest_o (a0 : Int) (r0 : Bool) : Prop :=
  ∃ z1 : Bool, (lex_small_o a0 z1) ∧ cnd z1 (true = r0) (∃ z2 : Bool, (lex_digit_o a0 z2) ∧ cnd z2 (true = r0) ((a0 == (95 : Int)) = r0))
noncomputable def lex_rest_sp : Sp KK := ⟨37, [.v 5], [4], appW (K := KK) [4] [.v 5] lex_rest_o⟩
noncomputable def lex_rest_an : An KK := (.s .o (.s .o .o))
noncomputable def lex_rest_cf : Cf KK := ⟨CC, [lex_small_sp, lex_digit_sp], 13⟩

set_option maxRecDepth 100000 in
theorem lex_rest_ok : SpOk Tryd.prog CC lex_rest_sp := by
  intro env r hF h
  obtain ⟨a0, env0, rfl, h1⟩ := appW_v h
  obtain ⟨rfl, h2⟩ := appW_n h1
  obtain ⟨r0, rr0, rfl, h3⟩ := apR_v h2
  obtain ⟨rfl, h4⟩ := apR_n h3
  refine ⟨rfl, DnF_by (F := lex_rest_cf) CC_ok (SsOk_c lex_small_ok (SsOk_c lex_digit_ok SsOk_n)) t37 (A := lex_rest_an) (ps := [.v 5]) (rs := [4]) (env := [.d (.v 5 a0)]) (r := [.v 4 r0]) (X := lex_rest_o a0 r0) rfl (Nat.le_of_ble_eq_true rfl) rfl hF h4 ?_⟩
  kernel_rfl

def lex_span_J2 (X1 : Int → Prop) (x1 : Int) (a0 : Str) (r0 : Str) (x2 : Bool) : Prop :=
  cnd x2 (X1 (IntKind.i64.wrap (x1 + (1 : Int)))) ((0 ≤ (0 : Int) ∧ (0 : Int) ≤ x1 ∧ x1 ≤ (a0.length : Int)) ∧ ((a0.drop (0 : Int).toNat).take (x1.toNat - (0 : Int).toNat)) = r0)
def lex_span_L1 (a0 : Str) (r0 : Str) (g1 : Int → Bool → Prop) (X1 : Int → Prop) (x1 : Int) : Prop :=
  ∀ J2 : Bool → Prop, (∀ (x2 : Bool), lex_span_J2 X1 x1 a0 r0 x2 → J2 x2) → cnd (decide (x1 < (a0.length : Int))) ((0 ≤ x1 ∧ x1 < (a0.length : Int)) ∧ ∃ z3 : Bool, (g1 (bAt a0 x1) z3) ∧ J2 z3) (J2 false)
def lex_span_o (a0 : Str) (g1 : Int → Bool → Prop) (r0 : Str) : Prop :=
  ∀ X1 : Int → Prop, (∀ (x1 : Int), lex_span_L1 a0 r0 g1 X1 x1 → X1 x1) → X1 (0 : Int)
def lex_span_J2i (X1 : Int → Prop) (a0 : Str) (r0 : Str) (x1 : Int) (x2 : Bool) : Prop :=
  cnd x2 (X1 (IntKind.i64.wrap (x1 + (1 : Int)))) ((0 ≤ (0 : Int) ∧ (0 : Int) ≤ x1 ∧ x1 ≤ (a0.length : Int)) ∧ ((a0.drop (0 : Int).toNat).take (x1.toNat - (0 : Int).toNat)) = r0)
def lex_span_L1i (a0 : Str) (g1 : Int → Bool → Prop) (r0 : Str) (X1 : Int → Prop) (x1 : Int) : Prop :=
  cnd (decide (x1 < (a0.length : Int))) ((0 ≤ x1 ∧ x1 < (a0.length : Int)) ∧ ∃ z3 : Bool, (g1 (bAt a0 x1) z3) ∧ lex_span_J2i X1 a0 r0 x1 z3) (lex_span_J2i X1 a0 r0 x1 false)
def lex_span_oi (a0 : Str) (g1 : Int → Bool → Prop) (r0 : Str) : Prop :=
  ∀ X1 : Int → Prop, (∀ (x1 : Int), lex_span_L1i a0 g1 r0 X1 x1 → X1 x1) → X1 (0 : Int)
theorem lex_span_J2_m (X1 : Int → Prop) (a0 : Str) (r0 : Str) (x1 : Int) {x2 : Bool} (h : lex_span_J2i X1 a0 r0 x1 x2) : lex_span_J2 X1 x1 a0 r0 x2 := by
  unfold lex_span_J2
  unfold lex_span_J2i at h
  exact h
theorem lex_span_L1_m (a0 : Str) (g1 : Int → Bool → Prop) (r0 : Str) {X1 : Int → Prop} {x1 : Int} (h : lex_span_L1i a0 g1 r0 X1 x1) : lex_span_L1 a0 r0 g1 X1 x1 := by
  unfold lex_span_L1
  unfold lex_span_L1i at h
  intro J2 kJ2
  have hJ2 : ∀ (x2 : Bool), lex_span_J2i X1 a0 r0 x1 x2 → J2 x2 := fun x2 q => kJ2 x2 (lex_span_J2_m X1 a0 r0 x1 q)
  refine cnd_mono h (fun h => ?_) (fun h => ?_)
  · obtain ⟨h0, h⟩ := h
    refine ⟨h0, ?_⟩
    obtain ⟨z3, h⟩ := h
    refine ⟨z3, ?_⟩
    obtain ⟨h0, h⟩ := h
    refine ⟨h0, ?_⟩
    exact hJ2 _ h
  · exact hJ2 _ h
theorem lex_span_i (a0 : Str) (g1 : Int → Bool → Prop) (r0 : Str) (h : lex_span_oi a0 g1 r0) : lex_span_o a0 g1 r0 := by
  unfold lex_span_o
  unfold lex_span_oi at h
  intro X1 k
  exact h X1 (fun x1 q => k x1 (lex_span_L1_m a0 g1 r0 q))
noncomputable def lex_span_sp : Sp KK := ⟨36, [.v 9, .f [5] [4]], [9], appW (K := KK) [9] [.v 9, .f [5] [4]] lex_span_o⟩
noncomputable def lex_span_an : An KK := (.s .o (.s .o (.s (.b (.l ⟨[(0, .kp 8), (1, .kp 9), (5, .it .i64)], [], []⟩ (fun _ => (.s (.j ⟨[(0, .kp 8), (1, .kp 9), (5, .kp 14), (16, .bl)], [], []⟩ .o (fun _ => (.c .o .o))) (.b .o))))) (.s .o .o))))
noncomputable def lex_span_cf : Cf KK := ⟨CC, [], 22⟩

set_option maxRecDepth 100000 in
theorem lex_span_ok : SpOk Tryd.prog CC lex_span_sp := by
  intro env r hF h
  obtain ⟨a0, env0, rfl, h1⟩ := appW_v h
  obtain ⟨F1, env1, rfl, h2⟩ := appW_f h1
  obtain ⟨rfl, h3⟩ := appW_n h2
  obtain ⟨r0, rr0, rfl, h4⟩ := apR_v h3
  obtain ⟨rfl, h5⟩ := apR_n h4
  refine ⟨rfl, DnF_by (F := lex_span_cf) CC_ok SsOk_n t36 (A := lex_span_an) (ps := [.v 9, .f [5] [4]]) (rs := [9]) (env := [.d (.v 9 a0), .f F1]) (r := [.v 9 r0]) (X := lex_span_o a0 (curF [4] [5] F1.W) r0) rfl (Nat.le_of_ble_eq_true rfl) rfl hF h5 ?_⟩
  kernel_rfl

def lex_Good_o (a0 : Str) (r0 : Bool) : Prop :=
  cnd (!(a0 == ([] : Str))) (cnd (decide ((a0.length : Int) ≤ (16 : Int))) ((0 ≤ (0 : Int) ∧ (0 : Int) < (a0.length : Int)) ∧ ∃ z1 : Bool, (lex_small_o (bAt a0 (0 : Int)) z1) ∧ cnd z1 (∃ z2 : Str, (lex_span_o a0 lex_rest_o z2) ∧ (z2 == a0) = r0) (false = r0)) (false = r0)) (false = r0)
noncomputable def lex_Good_sp : Sp KK := ⟨21, [.v 9], [4], appW (K := KK) [4] [.v 9] lex_Good_o⟩
noncomputable def lex_Good_an : An KK := (.s .o (.s .o .o))
noncomputable def lex_Good_cf : Cf KK := ⟨CC, [lex_small_sp, lex_rest_sp, lex_span_sp], 21⟩

set_option maxRecDepth 100000 in
theorem lex_Good_ok : SpOk Tryd.prog CC lex_Good_sp := by
  intro env r hF h
  obtain ⟨a0, env0, rfl, h1⟩ := appW_v h
  obtain ⟨rfl, h2⟩ := appW_n h1
  obtain ⟨r0, rr0, rfl, h3⟩ := apR_v h2
  obtain ⟨rfl, h4⟩ := apR_n h3
  refine ⟨rfl, DnF_by (F := lex_Good_cf) CC_ok (SsOk_c lex_small_ok (SsOk_c lex_rest_ok (SsOk_c lex_span_ok SsOk_n))) t21 (A := lex_Good_an) (ps := [.v 9]) (rs := [4]) (env := [.d (.v 9 a0)]) (r := [.v 4 r0]) (X := lex_Good_o a0 r0) rfl (Nat.le_of_ble_eq_true rfl) rfl hF h4 ?_⟩
  kernel_rfl

def expr_Expr_field_o (a0 : T_expr_Expr) (r0 : Bool) : Prop :=
  cnd (a0.Kind == (1 : Int)) (∃ z1 : Bool, (value_Value_Good_o (⟨a0.V.Kind, a0.V.N, a0.V.S⟩ : T_value_Value) z1) ∧ cnd z1 (cnd (!(a0.V.Kind == (2 : Int))) (true = r0) ((decide ((0 : Int) ≤ a0.V.N)) = r0)) (false = r0)) (cnd (a0.Kind == (2 : Int)) (∃ z2 : Bool, (lex_Good_o a0.Name z2) ∧ cnd z2 (cnd (a0.Table == ([] : Str)) (true = r0) (∃ z3 : Bool, (lex_Good_o a0.Table z3) ∧ z3 = r0)) (false = r0)) (cnd (a0.Kind == (3 : Int)) (cnd (decide ((1 : Int) ≤ a0.Op)) ((decide (a0.Op ≤ (14 : Int))) = r0) (false = r0)) (cnd (a0.Kind == (8 : Int)) (cnd (decide ((1 : Int) ≤ a0.Op)) ((decide (a0.Op ≤ (4 : Int))) = r0) (false = r0)) (true = r0))))
noncomputable def expr_Expr_field_sp : Sp KK := ⟨47, [.v 34], [4], appW (K := KK) [4] [.v 34] expr_Expr_field_o⟩
noncomputable def expr_Expr_field_an : An KK := (.s .o (.s (.s .o (.b (.s .o (.c (.s .o .o) (.s .o (.c (.s .o .o) (.s .o (.c (.s .o .o) (.s .o (.c (.s .o .o) .o)))))))))) (.s .o .o)))
noncomputable def expr_Expr_field_cf : Cf KK := ⟨CC, [value_Value_Good_sp, lex_Good_sp], 57⟩

set_option maxRecDepth 100000 in
theorem expr_Expr_field_ok : SpOk Tryd.prog CC expr_Expr_field_sp := by
  intro env r hF h
  obtain ⟨a0, env0, rfl, h1⟩ := appW_v h
  obtain ⟨rfl, h2⟩ := appW_n h1
  obtain ⟨r0, rr0, rfl, h3⟩ := apR_v h2
  obtain ⟨rfl, h4⟩ := apR_n h3
  refine ⟨rfl, DnF_by (F := expr_Expr_field_cf) CC_ok (SsOk_c value_Value_Good_ok (SsOk_c lex_Good_ok SsOk_n)) t47 (A := expr_Expr_field_an) (ps := [.v 34]) (rs := [4]) (env := [.d (.v 34 a0)]) (r := [.v 4 r0]) (X := expr_Expr_field_o a0 r0) rfl (Nat.le_of_ble_eq_true rfl) rfl hF h4 ?_⟩
  kernel_rfl

def expr_Expr_good_J3 (r0 : Bool) (X2 : Int → Prop) (x2 : Int) (x4 : Bool) : Prop :=
  cnd x4 (false = r0) (X2 (IntKind.i64.wrap (x2 + (1 : Int))))
def expr_Expr_good_L2 (a0 : T_expr_Expr) (r0 : Bool) (a1 : Bool) (Xr : T_expr_Expr → Bool → Bool → Prop) (X2 : Int → Prop) (x2 : Int) : Prop :=
  cnd (decide (x2 < (a0.L.length : Int))) ((0 ≤ x2) ∧ (x2 < (a0.L.length : Int)) ∧ ∃ y3 : T_expr_Expr, (a0.L[x2.toNat]? = some y3) ∧ ∀ J3 : Bool → Prop, (∀ (x4 : Bool), expr_Expr_good_J3 r0 X2 x2 x4 → J3 x4) → cnd a1 (∃ z5 : Bool, (Xr (T_expr_Expr.mk y3.Kind y3.Op (⟨y3.V.Kind, y3.V.N, y3.V.S⟩ : T_value_Value) y3.Table y3.Name y3.L) true z5) ∧ J3 (!z5)) (∃ z6 : Bool, (Xr (T_expr_Expr.mk y3.Kind y3.Op (⟨y3.V.Kind, y3.V.N, y3.V.S⟩ : T_value_Value) y3.Table y3.Name y3.L) (a0.Kind == (8 : Int)) z6) ∧ J3 (!z6))) (true = r0)
def expr_Expr_good_J1 (r0 : Bool) (a0 : T_expr_Expr) (a1 : Bool) (Xr : T_expr_Expr → Bool → Bool → Prop) (x1 : Bool) : Prop :=
  cnd x1 (false = r0) ((a0.L.length ≤ maxLen → ∀ X2 : Int → Prop, (∀ (x2 : Int), expr_Expr_good_L2 a0 r0 a1 Xr X2 x2 → X2 x2) → X2 (0 : Int)))
def expr_Expr_good_B (Xr : T_expr_Expr → Bool → Bool → Prop) (a0 : T_expr_Expr) (a1 : Bool) (r0 : Bool) : Prop :=
  ∀ J1 : Bool → Prop, (∀ (x1 : Bool), expr_Expr_good_J1 r0 a0 a1 Xr x1 → J1 x1) → ∃ z7 : Bool, (expr_Expr_parts_o (T_expr_Expr.mk a0.Kind a0.Op (⟨a0.V.Kind, a0.V.N, a0.V.S⟩ : T_value_Value) a0.Table a0.Name a0.L) z7) ∧ cnd (!z7) (J1 true) (∃ z8 : Bool, (expr_Expr_bare_o (T_expr_Expr.mk a0.Kind a0.Op (⟨a0.V.Kind, a0.V.N, a0.V.S⟩ : T_value_Value) a0.Table a0.Name a0.L) z8) ∧ cnd (!z8) (J1 true) (∃ z9 : Bool, (expr_Expr_field_o (T_expr_Expr.mk a0.Kind a0.Op (⟨a0.V.Kind, a0.V.N, a0.V.S⟩ : T_value_Value) a0.Table a0.Name a0.L) z9) ∧ cnd (!z9) (J1 true) (cnd a1 (J1 (a0.Kind == (8 : Int))) (J1 false))))
def expr_Expr_good_o (a0 : T_expr_Expr) (a1 : Bool) (r0 : Bool) : Prop := ∀ Xr : T_expr_Expr → Bool → Bool → Prop, (∀ (a0 : T_expr_Expr) (a1 : Bool) (r0 : Bool), expr_Expr_good_B Xr a0 a1 r0 → Xr a0 a1 r0) → Xr a0 a1 r0
def expr_Expr_good_J3i (X2 : Int → Prop) (r0 : Bool) (x2 : Int) (x4 : Bool) : Prop :=
  cnd x4 (false = r0) (X2 (IntKind.i64.wrap (x2 + (1 : Int))))
def expr_Expr_good_L2i (Xr : T_expr_Expr → Bool → Bool → Prop) (a0 : T_expr_Expr) (a1 : Bool) (r0 : Bool) (X2 : Int → Prop) (x2 : Int) : Prop :=
  cnd (decide (x2 < (a0.L.length : Int))) ((0 ≤ x2) ∧ (x2 < (a0.L.length : Int)) ∧ ∃ y3 : T_expr_Expr, (a0.L[x2.toNat]? = some y3) ∧ cnd a1 (∃ z5 : Bool, (Xr (T_expr_Expr.mk y3.Kind y3.Op (⟨y3.V.Kind, y3.V.N, y3.V.S⟩ : T_value_Value) y3.Table y3.Name y3.L) true z5) ∧ expr_Expr_good_J3i X2 r0 x2 (!z5)) (∃ z6 : Bool, (Xr (T_expr_Expr.mk y3.Kind y3.Op (⟨y3.V.Kind, y3.V.N, y3.V.S⟩ : T_value_Value) y3.Table y3.Name y3.L) (a0.Kind == (8 : Int)) z6) ∧ expr_Expr_good_J3i X2 r0 x2 (!z6))) (true = r0)
def expr_Expr_good_J1i (Xr : T_expr_Expr → Bool → Bool → Prop) (a0 : T_expr_Expr) (a1 : Bool) (r0 : Bool) (x1 : Bool) : Prop :=
  cnd x1 (false = r0) ((a0.L.length ≤ maxLen → ∀ X2 : Int → Prop, (∀ (x2 : Int), expr_Expr_good_L2i Xr a0 a1 r0 X2 x2 → X2 x2) → X2 (0 : Int)))
def expr_Expr_good_Bi (Xr : T_expr_Expr → Bool → Bool → Prop) (a0 : T_expr_Expr) (a1 : Bool) (r0 : Bool) : Prop :=
  ∃ z7 : Bool, (expr_Expr_parts_o (T_expr_Expr.mk a0.Kind a0.Op (⟨a0.V.Kind, a0.V.N, a0.V.S⟩ : T_value_Value) a0.Table a0.Name a0.L) z7) ∧ cnd (!z7) (expr_Expr_good_J1i Xr a0 a1 r0 true) (∃ z8 : Bool, (expr_Expr_bare_o (T_expr_Expr.mk a0.Kind a0.Op (⟨a0.V.Kind, a0.V.N, a0.V.S⟩ : T_value_Value) a0.Table a0.Name a0.L) z8) ∧ cnd (!z8) (expr_Expr_good_J1i Xr a0 a1 r0 true) (∃ z9 : Bool, (expr_Expr_field_o (T_expr_Expr.mk a0.Kind a0.Op (⟨a0.V.Kind, a0.V.N, a0.V.S⟩ : T_value_Value) a0.Table a0.Name a0.L) z9) ∧ cnd (!z9) (expr_Expr_good_J1i Xr a0 a1 r0 true) (cnd a1 (expr_Expr_good_J1i Xr a0 a1 r0 (a0.Kind == (8 : Int))) (expr_Expr_good_J1i Xr a0 a1 r0 false))))
theorem expr_Expr_good_J3_m (X2 : Int → Prop) (r0 : Bool) (x2 : Int) {x4 : Bool} (h : expr_Expr_good_J3i X2 r0 x2 x4) : expr_Expr_good_J3 r0 X2 x2 x4 := by
  unfold expr_Expr_good_J3
  unfold expr_Expr_good_J3i at h
  exact h
theorem expr_Expr_good_L2_m (Xr : T_expr_Expr → Bool → Bool → Prop) (a0 : T_expr_Expr) (a1 : Bool) (r0 : Bool) {X2 : Int → Prop} {x2 : Int} (h : expr_Expr_good_L2i Xr a0 a1 r0 X2 x2) : expr_Expr_good_L2 a0 r0 a1 Xr X2 x2 := by
  unfold expr_Expr_good_L2
  unfold expr_Expr_good_L2i at h
  refine cnd_mono h (fun h => ?_) (fun h => ?_)
  · obtain ⟨h0, h⟩ := h
    refine ⟨h0, ?_⟩
    obtain ⟨h0, h⟩ := h
    refine ⟨h0, ?_⟩
    obtain ⟨y3, h⟩ := h
    refine ⟨y3, ?_⟩
    obtain ⟨h0, h⟩ := h
    refine ⟨h0, ?_⟩
    intro J3 kJ3
    have hJ3 : ∀ (x4 : Bool), expr_Expr_good_J3i X2 r0 x2 x4 → J3 x4 := fun x4 q => kJ3 x4 (expr_Expr_good_J3_m X2 r0 x2 q)
    refine cnd_mono h (fun h => ?_) (fun h => ?_)
    · obtain ⟨z5, h⟩ := h
      refine ⟨z5, ?_⟩
      obtain ⟨h0, h⟩ := h
      refine ⟨h0, ?_⟩
      exact hJ3 _ h
    · obtain ⟨z6, h⟩ := h
      refine ⟨z6, ?_⟩
      obtain ⟨h0, h⟩ := h
      refine ⟨h0, ?_⟩
      exact hJ3 _ h
  · exact h
theorem expr_Expr_good_J1_m (Xr : T_expr_Expr → Bool → Bool → Prop) (a0 : T_expr_Expr) (a1 : Bool) (r0 : Bool) {x1 : Bool} (h : expr_Expr_good_J1i Xr a0 a1 r0 x1) : expr_Expr_good_J1 r0 a0 a1 Xr x1 := by
  unfold expr_Expr_good_J1
  unfold expr_Expr_good_J1i at h
  refine cnd_mono h (fun h => ?_) (fun h => ?_)
  · exact h
  · intro c
    replace h := h c
    intro X2 k
    exact h X2 (fun x2 q => k x2 (expr_Expr_good_L2_m Xr a0 a1 r0 q))
theorem expr_Expr_good_Bm (Xr : T_expr_Expr → Bool → Bool → Prop) (a0 : T_expr_Expr) (a1 : Bool) (r0 : Bool) (h : expr_Expr_good_Bi Xr a0 a1 r0) : expr_Expr_good_B Xr a0 a1 r0 := by
  unfold expr_Expr_good_B
  unfold expr_Expr_good_Bi at h
  intro J1 kJ1
  have hJ1 : ∀ (x1 : Bool), expr_Expr_good_J1i Xr a0 a1 r0 x1 → J1 x1 := fun x1 q => kJ1 x1 (expr_Expr_good_J1_m Xr a0 a1 r0 q)
  obtain ⟨z7, h⟩ := h
  refine ⟨z7, ?_⟩
  obtain ⟨h0, h⟩ := h
  refine ⟨h0, ?_⟩
  refine cnd_mono h (fun h => ?_) (fun h => ?_)
  · exact hJ1 _ h
  · obtain ⟨z8, h⟩ := h
    refine ⟨z8, ?_⟩
    obtain ⟨h0, h⟩ := h
    refine ⟨h0, ?_⟩
    refine cnd_mono h (fun h => ?_) (fun h => ?_)
    · exact hJ1 _ h
    · obtain ⟨z9, h⟩ := h
      refine ⟨z9, ?_⟩
      obtain ⟨h0, h⟩ := h
      refine ⟨h0, ?_⟩
      refine cnd_mono h (fun h => ?_) (fun h => ?_)
      · exact hJ1 _ h
      · refine cnd_mono h (fun h => ?_) (fun h => ?_)
        · exact hJ1 _ h
        · exact hJ1 _ h
theorem expr_Expr_good_i (a0 : T_expr_Expr) (a1 : Bool) (r0 : Bool) (h : ∀ Xr : T_expr_Expr → Bool → Bool → Prop, (∀ (a0 : T_expr_Expr) (a1 : Bool) (r0 : Bool), expr_Expr_good_Bi Xr a0 a1 r0 → Xr a0 a1 r0) → Xr a0 a1 r0) : expr_Expr_good_o a0 a1 r0 := fun Xr k => h Xr fun a0 a1 r0 q => k a0 a1 r0 (expr_Expr_good_Bm Xr a0 a1 r0 q)
noncomputable def expr_Expr_good_sp : Sp KK := ⟨27, [.v 34, .v 4], [4], appW (K := KK) [4] [.v 34, .v 4] expr_Expr_good_o⟩
noncomputable def expr_Expr_good_an : An KK := (.s .o (.s (.j ⟨[(1, .kp 10), (2, .px 2 0), (27, .bl)], [(2, 34, [.kp 11, .kp 12, .kp 13, .kp 14, .kp 15, .kp 16, .kp 17, .kp 18])], []⟩ .o (fun _ => (.c (.s .o .o) .o))) (.s (.s .o (.b (.l ⟨[(1, .kp 10), (2, .px 2 0), (29, .kp 18), (30, .kp 25), (31, .it .i64)], [(2, 34, [.kp 11, .kp 12, .kp 13, .kp 14, .kp 15, .kp 16, .kp 17, .kp 18])], []⟩ (fun _ => (.s .o (.s (.c .o .o) (.s (.b (.s .o (.j ⟨[(1, .kp 10), (2, .px 2 0), (29, .kp 18), (30, .kp 25), (31, .kp 30), (43, .bl)], [(2, 34, [.kp 11, .kp 12, .kp 13, .kp 14, .kp 15, .kp 16, .kp 17, .kp 18])], []⟩ .o (fun _ => (.c (.s .o .o) .o))))) .o))))))) (.s .o .o))))
noncomputable def expr_Expr_good_cf (Xr : WTy KK [4] [.v 34, .v 4]) : Cf KK := ⟨CC, [⟨27, [.v 34, .v 4], [4], appW (K := KK) [4] [.v 34, .v 4] Xr⟩, expr_Expr_parts_sp, expr_Expr_bare_sp, expr_Expr_field_sp], 45⟩

set_option maxRecDepth 100000 in
theorem expr_Expr_good_okB (Xr : T_expr_Expr → Bool → Bool → Prop) (hX : ∀ (a0 : T_expr_Expr) (a1 : Bool) (r0 : Bool), Xr a0 a1 r0 → Pure Tryd.prog 27 (pencs CC [.v 34, .v 4] ([.d (.v 34 a0), .d (.v 4 a1)] : List (AD KK))) (tresA (([.v 4 r0] : List (DV KK)).map (dvA CC)))) : ∀ (a0 : T_expr_Expr) (a1 : Bool) (r0 : Bool), expr_Expr_good_B Xr a0 a1 r0 → Pure Tryd.prog 27 (pencs CC [.v 34, .v 4] ([.d (.v 34 a0), .d (.v 4 a1)] : List (AD KK))) (tresA (([.v 4 r0] : List (DV KK)).map (dvA CC))) := by
  intro a0 a1 r0 h
  refine DnF_by (F := expr_Expr_good_cf Xr) CC_ok (SsOk_c ?_ (SsOk_c expr_Expr_parts_ok (SsOk_c expr_Expr_bare_ok (SsOk_c expr_Expr_field_ok SsOk_n)))) t27 (A := expr_Expr_good_an) (ps := [.v 34, .v 4]) (rs := [4]) (env := [.d (.v 34 a0), .d (.v 4 a1)]) (r := [.v 4 r0]) (X := expr_Expr_good_B Xr a0 a1 r0) rfl (Nat.le_of_ble_eq_true rfl) rfl (fun G hG => by simp at hG) h ?_
  · clear h r0
    intro env r hF h
    obtain ⟨a0, env0, rfl, h1⟩ := appW_v h
    obtain ⟨a1, env1, rfl, h2⟩ := appW_v h1
    obtain ⟨rfl, h3⟩ := appW_n h2
    obtain ⟨r0, rr0, rfl, h4⟩ := apR_v h3
    obtain ⟨rfl, h5⟩ := apR_n h4
    exact ⟨rfl, hX a0 a1 r0 h5⟩
  · kernel_rfl
set_option maxRecDepth 100000 in
theorem expr_Expr_good_ok : SpOk Tryd.prog CC expr_Expr_good_sp := by
  intro env r hF h
  obtain ⟨a0, env0, rfl, h1⟩ := appW_v h
  obtain ⟨a1, env1, rfl, h2⟩ := appW_v h1
  obtain ⟨rfl, h3⟩ := appW_n h2
  obtain ⟨r0, rr0, rfl, h4⟩ := apR_v h3
  obtain ⟨rfl, h5⟩ := apR_n h4
  exact ⟨rfl, h5 (fun a0 a1 r0 =>  Pure Tryd.prog 27 (pencs CC [.v 34, .v 4] ([.d (.v 34 a0), .d (.v 4 a1)] : List (AD KK))) (tresA (([.v 4 r0] : List (DV KK)).map (dvA CC)))) (fun a0 a1 r0 h => expr_Expr_good_okB _ (fun a0 a1 r0 h => h) a0 a1 r0 h)⟩

def expr_Good_o (a0 : T_expr_Expr) (r0 : Bool) : Prop :=
  ∃ z1 : Int, (expr_Depth_o (T_expr_Expr.mk a0.Kind a0.Op (⟨a0.V.Kind, a0.V.N, a0.V.S⟩ : T_value_Value) a0.Table a0.Name a0.L) z1) ∧ cnd (decide (z1 ≤ (20 : Int))) (∃ z2 : Bool, (expr_Expr_good_o (T_expr_Expr.mk a0.Kind a0.Op (⟨a0.V.Kind, a0.V.N, a0.V.S⟩ : T_value_Value) a0.Table a0.Name a0.L) false z2) ∧ z2 = r0) (false = r0)
noncomputable def expr_Good_sp : Sp KK := ⟨10, [.v 34], [4], appW (K := KK) [4] [.v 34] expr_Good_o⟩
noncomputable def expr_Good_an : An KK := (.s .o (.s .o .o))
noncomputable def expr_Good_cf : Cf KK := ⟨CC, [expr_Depth_sp, expr_Expr_good_sp], 10⟩

set_option maxRecDepth 100000 in
theorem expr_Good_ok : SpOk Tryd.prog CC expr_Good_sp := by
  intro env r hF h
  obtain ⟨a0, env0, rfl, h1⟩ := appW_v h
  obtain ⟨rfl, h2⟩ := appW_n h1
  obtain ⟨r0, rr0, rfl, h3⟩ := apR_v h2
  obtain ⟨rfl, h4⟩ := apR_n h3
  refine ⟨rfl, DnF_by (F := expr_Good_cf) CC_ok (SsOk_c expr_Depth_ok (SsOk_c expr_Expr_good_ok SsOk_n)) t10 (A := expr_Good_an) (ps := [.v 34]) (rs := [4]) (env := [.d (.v 34 a0)]) (r := [.v 4 r0]) (X := expr_Good_o a0 r0) rfl (Nat.le_of_ble_eq_true rfl) rfl hF h4 ?_⟩
  kernel_rfl

def value_Value_none_o (a0 : T_value_Value) (r0 : Bool) : Prop :=
  (a0.Kind == (0 : Int)) = r0
noncomputable def value_Value_none_sp : Sp KK := ⟨63, [.v 31], [4], appW (K := KK) [4] [.v 31] value_Value_none_o⟩
noncomputable def value_Value_none_an : An KK := (.s .o (.s .o .o))
noncomputable def value_Value_none_cf : Cf KK := ⟨CC, [], 6⟩

set_option maxRecDepth 100000 in
theorem value_Value_none_ok : SpOk Tryd.prog CC value_Value_none_sp := by
  intro env r hF h
  obtain ⟨a0, env0, rfl, h1⟩ := appW_v h
  obtain ⟨rfl, h2⟩ := appW_n h1
  obtain ⟨r0, rr0, rfl, h3⟩ := apR_v h2
  obtain ⟨rfl, h4⟩ := apR_n h3
  refine ⟨rfl, DnF_by (F := value_Value_none_cf) CC_ok SsOk_n t63 (A := value_Value_none_an) (ps := [.v 31]) (rs := [4]) (env := [.d (.v 31 a0)]) (r := [.v 4 r0]) (X := value_Value_none_o a0 r0) rfl (Nat.le_of_ble_eq_true rfl) rfl hF h4 ?_⟩
  kernel_rfl

def value_OfBool_o (a0 : Bool) (r0 : T_value_Value) : Prop :=
  cnd a0 ((⟨(1 : Int), (1 : Int), ([] : Str)⟩ : T_value_Value) = r0) ((⟨(1 : Int), (0 : Int), ([] : Str)⟩ : T_value_Value) = r0)
noncomputable def value_OfBool_sp : Sp KK := ⟨71, [.v 4], [31], appW (K := KK) [31] [.v 4] value_OfBool_o⟩
noncomputable def value_OfBool_an : An KK := (.s .o (.s (.s .o (.c (.s .o .o) .o)) (.s .o .o)))
noncomputable def value_OfBool_cf : Cf KK := ⟨CC, [], 6⟩

set_option maxRecDepth 100000 in
theorem value_OfBool_ok : SpOk Tryd.prog CC value_OfBool_sp := by
  intro env r hF h
  obtain ⟨a0, env0, rfl, h1⟩ := appW_v h
  obtain ⟨rfl, h2⟩ := appW_n h1
  obtain ⟨r0, rr0, rfl, h3⟩ := apR_v h2
  obtain ⟨rfl, h4⟩ := apR_n h3
  refine ⟨rfl, DnF_by (F := value_OfBool_cf) CC_ok SsOk_n t71 (A := value_OfBool_an) (ps := [.v 4]) (rs := [31]) (env := [.d (.v 4 a0)]) (r := [.v 31 r0]) (X := value_OfBool_o a0 r0) rfl (Nat.le_of_ble_eq_true rfl) rfl hF h4 ?_⟩
  kernel_rfl

def value_Value_True_o (a0 : T_value_Value) (r0 : Bool) : Prop :=
  ∃ z1 : T_value_Value, (value_OfBool_o true z1) ∧ ((a0.Kind == z1.Kind) && ((a0.N == z1.N) && ((a0.S == z1.S) && true))) = r0
noncomputable def value_Value_True_sp : Sp KK := ⟨64, [.v 31], [4], appW (K := KK) [4] [.v 31] value_Value_True_o⟩
noncomputable def value_Value_True_an : An KK := (.s .o (.s .o .o))
noncomputable def value_Value_True_cf : Cf KK := ⟨CC, [value_OfBool_sp], 6⟩

set_option maxRecDepth 100000 in
theorem value_Value_True_ok : SpOk Tryd.prog CC value_Value_True_sp := by
  intro env r hF h
  obtain ⟨a0, env0, rfl, h1⟩ := appW_v h
  obtain ⟨rfl, h2⟩ := appW_n h1
  obtain ⟨r0, rr0, rfl, h3⟩ := apR_v h2
  obtain ⟨rfl, h4⟩ := apR_n h3
  refine ⟨rfl, DnF_by (F := value_Value_True_cf) CC_ok (SsOk_c value_OfBool_ok SsOk_n) t64 (A := value_Value_True_an) (ps := [.v 31]) (rs := [4]) (env := [.d (.v 31 a0)]) (r := [.v 4 r0]) (X := value_Value_True_o a0 r0) rfl (Nat.le_of_ble_eq_true rfl) rfl hF h4 ?_⟩
  kernel_rfl

def strconv_FormatInt_o (a0 : Int) (a1 : Int) (r0 : Str) : Prop := a1 = 10 ∧ -9223372036854775808 ≤ a0 ∧ a0 ≤ 9223372036854775807 ∧ r0 = Go.Lib.itoa a0
noncomputable def strconv_FormatInt_sp : Sp KK := ⟨57, [.v 2, .v 3], [9], appW (K := KK) [9] [.v 2, .v 3] strconv_FormatInt_o⟩

set_option maxRecDepth 100000 in
theorem strconv_FormatInt_p {a0 : Int} {a1 : Int} {r0 : Str} (h : strconv_FormatInt_o a0 a1 r0) : AV.Pure Tryd.prog 57 [.it .i64 a0, .it .i64 a1] (.st r0) := by
  obtain ⟨rfl, q0, q1, rfl⟩ := h
  exact sh_FormatInt Tryd.func57 (by kernel_rfl) (by kernel_rfl) Tryd.strconv_FormatInt_10 q0 q1
set_option maxRecDepth 100000 in
theorem strconv_FormatInt_ok : SpOk Tryd.prog CC strconv_FormatInt_sp := by
  intro env r hF h
  obtain ⟨a0, env0, rfl, h1⟩ := appW_v h
  obtain ⟨a1, env1, rfl, h2⟩ := appW_v h1
  obtain ⟨rfl, h3⟩ := appW_n h2
  obtain ⟨r0, rr0, rfl, h4⟩ := apR_v h3
  obtain ⟨rfl, h5⟩ := apR_n h4
  exact ⟨rfl, (strconv_FormatInt_p h5).congr (by kernel_rfl) (by kernel_rfl)⟩

def strings_ReplaceAll_o (a0 : Str) (a1 : Str) (a2 : Str) (r0 : Str) : Prop := a0.length ≤ 100000 ∧ 1 ≤ a1.length ∧ a2.length ≤ 100000 ∧ r0 = Go.Lib.replaceAll a0 a1 a2
noncomputable def strings_ReplaceAll_sp : Sp KK := ⟨58, [.v 9, .v 9, .v 9], [9], appW (K := KK) [9] [.v 9, .v 9, .v 9] strings_ReplaceAll_o⟩

set_option maxRecDepth 100000 in
theorem strings_ReplaceAll_p {a0 : Str} {a1 : Str} {a2 : Str} {r0 : Str} (h : strings_ReplaceAll_o a0 a1 a2 r0) : AV.Pure Tryd.prog 58 [.st a0, .st a1, .st a2] (.st r0) := by
  obtain ⟨q0, q1, q2, rfl⟩ := h
  exact sh_ReplaceAll Tryd.func58 (by kernel_rfl) (by kernel_rfl) Tryd.strings_ReplaceAll q0 q1 q2
set_option maxRecDepth 100000 in
theorem strings_ReplaceAll_ok : SpOk Tryd.prog CC strings_ReplaceAll_sp := by
  intro env r hF h
  obtain ⟨a0, env0, rfl, h1⟩ := appW_v h
  obtain ⟨a1, env1, rfl, h2⟩ := appW_v h1
  obtain ⟨a2, env2, rfl, h3⟩ := appW_v h2
  obtain ⟨rfl, h4⟩ := appW_n h3
  obtain ⟨r0, rr0, rfl, h5⟩ := apR_v h4
  obtain ⟨rfl, h6⟩ := apR_n h5
  exact ⟨rfl, (strings_ReplaceAll_p h6).congr (by kernel_rfl) (by kernel_rfl)⟩

def value_Value_Show_J1 (r0 : Str) (a0 : T_value_Value) (x1 : Bool) : Prop :=
  cnd x1 (([78, 85, 76, 76] : Str) = r0) (∃ z2 : Bool, (value_Value_True_o a0 z2) ∧ cnd z2 (([84, 82, 85, 69] : Str) = r0) (cnd (a0.Kind == (1 : Int)) (([70, 65, 76, 83, 69] : Str) = r0) (cnd (a0.Kind == (2 : Int)) (∃ z3 : Str, (strconv_FormatInt_o a0.N (10 : Int) z3) ∧ z3 = r0) (∃ z4 : Str, (strings_ReplaceAll_o a0.S ([39] : Str) ([39, 39] : Str) z4) ∧ (([39] : Str).length + z4.length ≤ 9223372036854775807) ∧ ((([39] : Str) ++ z4).length + ([39] : Str).length ≤ 9223372036854775807) ∧ ((([39] : Str) ++ z4) ++ ([39] : Str)) = r0))))
def value_Value_Show_o (a0 : T_value_Value) (r0 : Str) : Prop :=
  ∀ J1 : Bool → Prop, (∀ (x1 : Bool), value_Value_Show_J1 r0 a0 x1 → J1 x1) → ∃ z5 : Bool, (value_Value_Good_o a0 z5) ∧ cnd (!z5) (J1 true) (∃ z6 : Bool, (value_Value_none_o a0 z6) ∧ J1 z6)
def value_Value_Show_J1i (a0 : T_value_Value) (r0 : Str) (x1 : Bool) : Prop :=
  cnd x1 (([78, 85, 76, 76] : Str) = r0) (∃ z2 : Bool, (value_Value_True_o a0 z2) ∧ cnd z2 (([84, 82, 85, 69] : Str) = r0) (cnd (a0.Kind == (1 : Int)) (([70, 65, 76, 83, 69] : Str) = r0) (cnd (a0.Kind == (2 : Int)) (∃ z3 : Str, (strconv_FormatInt_o a0.N (10 : Int) z3) ∧ z3 = r0) (∃ z4 : Str, (strings_ReplaceAll_o a0.S ([39] : Str) ([39, 39] : Str) z4) ∧ (([39] : Str).length + z4.length ≤ 9223372036854775807) ∧ ((([39] : Str) ++ z4).length + ([39] : Str).length ≤ 9223372036854775807) ∧ ((([39] : Str) ++ z4) ++ ([39] : Str)) = r0))))
def value_Value_Show_oi (a0 : T_value_Value) (r0 : Str) : Prop :=
  ∃ z5 : Bool, (value_Value_Good_o a0 z5) ∧ cnd (!z5) (value_Value_Show_J1i a0 r0 true) (∃ z6 : Bool, (value_Value_none_o a0 z6) ∧ value_Value_Show_J1i a0 r0 z6)
theorem value_Value_Show_J1_m (a0 : T_value_Value) (r0 : Str) {x1 : Bool} (h : value_Value_Show_J1i a0 r0 x1) : value_Value_Show_J1 r0 a0 x1 := by
  unfold value_Value_Show_J1
  unfold value_Value_Show_J1i at h
  exact h
theorem value_Value_Show_i (a0 : T_value_Value) (r0 : Str) (h : value_Value_Show_oi a0 r0) : value_Value_Show_o a0 r0 := by
  unfold value_Value_Show_o
  unfold value_Value_Show_oi at h
  intro J1 kJ1
  have hJ1 : ∀ (x1 : Bool), value_Value_Show_J1i a0 r0 x1 → J1 x1 := fun x1 q => kJ1 x1 (value_Value_Show_J1_m a0 r0 q)
  obtain ⟨z5, h⟩ := h
  refine ⟨z5, ?_⟩
  obtain ⟨h0, h⟩ := h
  refine ⟨h0, ?_⟩
  refine cnd_mono h (fun h => ?_) (fun h => ?_)
  · exact hJ1 _ h
  · obtain ⟨z6, h⟩ := h
    refine ⟨z6, ?_⟩
    obtain ⟨h0, h⟩ := h
    refine ⟨h0, ?_⟩
    exact hJ1 _ h
noncomputable def value_Value_Show_sp : Sp KK := ⟨48, [.v 31], [9], appW (K := KK) [9] [.v 31] value_Value_Show_o⟩
noncomputable def value_Value_Show_an : An KK := (.s .o (.s (.b (.j ⟨[(1, .px 1 0), (3, .bl)], [(1, 31, [.kp 4, .kp 5, .kp 6])], []⟩ .o (fun _ => (.c (.s .o .o) (.s .o (.c (.s .o .o) (.s .o (.c (.s .o .o) (.s .o (.c (.s .o .o) .o)))))))))) (.s .o .o)))
noncomputable def value_Value_Show_cf : Cf KK := ⟨CC, [value_Value_Good_sp, value_Value_none_sp, value_Value_True_sp, strconv_FormatInt_sp, strings_ReplaceAll_sp], 30⟩

set_option maxRecDepth 100000 in
theorem value_Value_Show_ok : SpOk Tryd.prog CC value_Value_Show_sp := by
  intro env r hF h
  obtain ⟨a0, env0, rfl, h1⟩ := appW_v h
  obtain ⟨rfl, h2⟩ := appW_n h1
  obtain ⟨r0, rr0, rfl, h3⟩ := apR_v h2
  obtain ⟨rfl, h4⟩ := apR_n h3
  refine ⟨rfl, DnF_by (F := value_Value_Show_cf) CC_ok (SsOk_c value_Value_Good_ok (SsOk_c value_Value_none_ok (SsOk_c value_Value_True_ok (SsOk_c strconv_FormatInt_ok (SsOk_c strings_ReplaceAll_ok SsOk_n))))) t48 (A := value_Value_Show_an) (ps := [.v 31]) (rs := [9]) (env := [.d (.v 31 a0)]) (r := [.v 9 r0]) (X := value_Value_Show_o a0 r0) rfl (Nat.le_of_ble_eq_true rfl) rfl hF h4 ?_⟩
  kernel_rfl

def expr_Expr_show_B (Xr : T_expr_Expr → Str → Prop) (a0 : T_expr_Expr) (r0 : Str) : Prop :=
  cnd (a0.Kind == (1 : Int)) (∃ z1 : Str, (value_Value_Show_o (⟨a0.V.Kind, a0.V.N, a0.V.S⟩ : T_value_Value) z1) ∧ z1 = r0) (cnd (a0.Kind == (2 : Int)) (cnd (!(a0.Table == ([] : Str))) ((a0.Table.length + ([46] : Str).length ≤ 9223372036854775807) ∧ ((a0.Table ++ ([46] : Str)).length + a0.Name.length ≤ 9223372036854775807) ∧ ((a0.Table ++ ([46] : Str)) ++ a0.Name) = r0) (a0.Name = r0)) (cnd (a0.Kind == (3 : Int)) ((0 ≤ (0 : Int)) ∧ ((0 : Int) < (a0.L.length : Int)) ∧ ∃ y2 : T_expr_Expr, (a0.L[(0 : Int).toNat]? = some y2) ∧ ∃ z3 : Str, (Xr (T_expr_Expr.mk y2.Kind y2.Op (⟨y2.V.Kind, y2.V.N, y2.V.S⟩ : T_value_Value) y2.Table y2.Name y2.L) z3) ∧ (([40] : Str).length + z3.length ≤ 9223372036854775807) ∧ ((([40] : Str) ++ z3).length + ([32] : Str).length ≤ 9223372036854775807) ∧ (0 ≤ a0.Op ∧ a0.Op < (15 : Nat)) ∧ ∃ y4 : Str, (([[], [61], [60, 62], [60], [60, 61], [62], [62, 61], [43], [45], [42], [47], [37], [124, 124], [65, 78, 68], [79, 82]] : List Str)[(0 : Nat) + a0.Op.toNat * 1]? = some y4) ∧ (((([40] : Str) ++ z3) ++ ([32] : Str)).length + y4.length ≤ 9223372036854775807) ∧ ((((([40] : Str) ++ z3) ++ ([32] : Str)) ++ y4).length + ([32] : Str).length ≤ 9223372036854775807) ∧ (0 ≤ (1 : Int)) ∧ ((1 : Int) < (a0.L.length : Int)) ∧ ∃ y5 : T_expr_Expr, (a0.L[(1 : Int).toNat]? = some y5) ∧ ∃ z6 : Str, (Xr (T_expr_Expr.mk y5.Kind y5.Op (⟨y5.V.Kind, y5.V.N, y5.V.S⟩ : T_value_Value) y5.Table y5.Name y5.L) z6) ∧ (((((([40] : Str) ++ z3) ++ ([32] : Str)) ++ y4) ++ ([32] : Str)).length + z6.length ≤ 9223372036854775807) ∧ ((((((([40] : Str) ++ z3) ++ ([32] : Str)) ++ y4) ++ ([32] : Str)) ++ z6).length + ([41] : Str).length ≤ 9223372036854775807) ∧ ((((((([40] : Str) ++ z3) ++ ([32] : Str)) ++ y4) ++ ([32] : Str)) ++ z6) ++ ([41] : Str)) = r0) (cnd (a0.Kind == (4 : Int)) ((0 ≤ (0 : Int)) ∧ ((0 : Int) < (a0.L.length : Int)) ∧ ∃ y7 : T_expr_Expr, (a0.L[(0 : Int).toNat]? = some y7) ∧ ∃ z8 : Str, (Xr (T_expr_Expr.mk y7.Kind y7.Op (⟨y7.V.Kind, y7.V.N, y7.V.S⟩ : T_value_Value) y7.Table y7.Name y7.L) z8) ∧ (([40, 78, 79, 84, 32] : Str).length + z8.length ≤ 9223372036854775807) ∧ ((([40, 78, 79, 84, 32] : Str) ++ z8).length + ([41] : Str).length ≤ 9223372036854775807) ∧ ((([40, 78, 79, 84, 32] : Str) ++ z8) ++ ([41] : Str)) = r0) (cnd (a0.Kind == (5 : Int)) ((0 ≤ (0 : Int)) ∧ ((0 : Int) < (a0.L.length : Int)) ∧ ∃ y9 : T_expr_Expr, (a0.L[(0 : Int).toNat]? = some y9) ∧ ∃ z10 : Str, (Xr (T_expr_Expr.mk y9.Kind y9.Op (⟨y9.V.Kind, y9.V.N, y9.V.S⟩ : T_value_Value) y9.Table y9.Name y9.L) z10) ∧ (([40, 45, 32] : Str).length + z10.length ≤ 9223372036854775807) ∧ ((([40, 45, 32] : Str) ++ z10).length + ([41] : Str).length ≤ 9223372036854775807) ∧ ((([40, 45, 32] : Str) ++ z10) ++ ([41] : Str)) = r0) (cnd (a0.Kind == (6 : Int)) ((0 ≤ (0 : Int)) ∧ ((0 : Int) < (a0.L.length : Int)) ∧ ∃ y11 : T_expr_Expr, (a0.L[(0 : Int).toNat]? = some y11) ∧ ∃ z12 : Str, (Xr (T_expr_Expr.mk y11.Kind y11.Op (⟨y11.V.Kind, y11.V.N, y11.V.S⟩ : T_value_Value) y11.Table y11.Name y11.L) z12) ∧ (([40] : Str).length + z12.length ≤ 9223372036854775807) ∧ ((([40] : Str) ++ z12).length + ([32, 73, 83, 32, 78, 85, 76, 76, 41] : Str).length ≤ 9223372036854775807) ∧ ((([40] : Str) ++ z12) ++ ([32, 73, 83, 32, 78, 85, 76, 76, 41] : Str)) = r0) (cnd (a0.Kind == (7 : Int)) ((0 ≤ (0 : Int)) ∧ ((0 : Int) < (a0.L.length : Int)) ∧ ∃ y13 : T_expr_Expr, (a0.L[(0 : Int).toNat]? = some y13) ∧ ∃ z14 : Str, (Xr (T_expr_Expr.mk y13.Kind y13.Op (⟨y13.V.Kind, y13.V.N, y13.V.S⟩ : T_value_Value) y13.Table y13.Name y13.L) z14) ∧ (([40] : Str).length + z14.length ≤ 9223372036854775807) ∧ ((([40] : Str) ++ z14).length + ([32, 73, 83, 32, 78, 79, 84, 32, 78, 85, 76, 76, 41] : Str).length ≤ 9223372036854775807) ∧ ((([40] : Str) ++ z14) ++ ([32, 73, 83, 32, 78, 79, 84, 32, 78, 85, 76, 76, 41] : Str)) = r0) ((a0.L.length ≤ maxLen → cnd ((a0.L.length : Int) == (0 : Int)) ((0 ≤ a0.Op ∧ a0.Op < (5 : Nat)) ∧ ∃ y15 : Str, (([[], [67, 79, 85, 78, 84], [83, 85, 77], [77, 73, 78], [77, 65, 88]] : List Str)[(0 : Nat) + a0.Op.toNat * 1]? = some y15) ∧ (y15.length + ([40, 42, 41] : Str).length ≤ 9223372036854775807) ∧ (y15 ++ ([40, 42, 41] : Str)) = r0) ((0 ≤ a0.Op ∧ a0.Op < (5 : Nat)) ∧ ∃ y16 : Str, (([[], [67, 79, 85, 78, 84], [83, 85, 77], [77, 73, 78], [77, 65, 88]] : List Str)[(0 : Nat) + a0.Op.toNat * 1]? = some y16) ∧ (y16.length + ([40] : Str).length ≤ 9223372036854775807) ∧ (0 ≤ (0 : Int)) ∧ ((0 : Int) < (a0.L.length : Int)) ∧ ∃ y17 : T_expr_Expr, (a0.L[(0 : Int).toNat]? = some y17) ∧ ∃ z18 : Str, (Xr (T_expr_Expr.mk y17.Kind y17.Op (⟨y17.V.Kind, y17.V.N, y17.V.S⟩ : T_value_Value) y17.Table y17.Name y17.L) z18) ∧ ((y16 ++ ([40] : Str)).length + z18.length ≤ 9223372036854775807) ∧ (((y16 ++ ([40] : Str)) ++ z18).length + ([41] : Str).length ≤ 9223372036854775807) ∧ (((y16 ++ ([40] : Str)) ++ z18) ++ ([41] : Str)) = r0)))))))))
def expr_Expr_show_o (a0 : T_expr_Expr) (r0 : Str) : Prop := ∀ Xr : T_expr_Expr → Str → Prop, (∀ (a0 : T_expr_Expr) (r0 : Str), expr_Expr_show_B Xr a0 r0 → Xr a0 r0) → Xr a0 r0
noncomputable def expr_Expr_show_sp : Sp KK := ⟨28, [.v 34], [9], appW (K := KK) [9] [.v 34] expr_Expr_show_o⟩
noncomputable def expr_Expr_show_an : An KK := (.s .o (.s (.s .o (.b (.s .o (.c (.s .o .o) (.s .o (.c (.s (.s .o (.c (.s .o .o) .o)) (.s .o .o)) (.s .o (.c (.s .o .o) (.s .o (.c (.s .o .o) (.s .o (.c (.s .o .o) (.s .o (.c (.s .o .o) (.s .o (.c (.s .o .o) .o)))))))))))))))) (.s (.s .o (.c (.s .o .o) .o)) (.s .o .o))))
noncomputable def expr_Expr_show_cf (Xr : WTy KK [9] [.v 34]) : Cf KK := ⟨CC, [⟨28, [.v 34], [9], appW (K := KK) [9] [.v 34] Xr⟩, value_Value_Show_sp], 102⟩

set_option maxRecDepth 100000 in
theorem expr_Expr_show_okB (Xr : T_expr_Expr → Str → Prop) (hX : ∀ (a0 : T_expr_Expr) (r0 : Str), Xr a0 r0 → Pure Tryd.prog 28 (pencs CC [.v 34] ([.d (.v 34 a0)] : List (AD KK))) (tresA (([.v 9 r0] : List (DV KK)).map (dvA CC)))) : ∀ (a0 : T_expr_Expr) (r0 : Str), expr_Expr_show_B Xr a0 r0 → Pure Tryd.prog 28 (pencs CC [.v 34] ([.d (.v 34 a0)] : List (AD KK))) (tresA (([.v 9 r0] : List (DV KK)).map (dvA CC))) := by
  intro a0 r0 h
  refine DnF_by (F := expr_Expr_show_cf Xr) CC_ok (SsOk_c ?_ (SsOk_c value_Value_Show_ok SsOk_n)) t28 (A := expr_Expr_show_an) (ps := [.v 34]) (rs := [9]) (env := [.d (.v 34 a0)]) (r := [.v 9 r0]) (X := expr_Expr_show_B Xr a0 r0) rfl (Nat.le_of_ble_eq_true rfl) rfl (fun G hG => by simp at hG) h ?_
  · clear h r0
    intro env r hF h
    obtain ⟨a0, env0, rfl, h1⟩ := appW_v h
    obtain ⟨rfl, h2⟩ := appW_n h1
    obtain ⟨r0, rr0, rfl, h3⟩ := apR_v h2
    obtain ⟨rfl, h4⟩ := apR_n h3
    exact ⟨rfl, hX a0 r0 h4⟩
  · kernel_rfl
set_option maxRecDepth 100000 in
theorem expr_Expr_show_ok : SpOk Tryd.prog CC expr_Expr_show_sp := by
  intro env r hF h
  obtain ⟨a0, env0, rfl, h1⟩ := appW_v h
  obtain ⟨rfl, h2⟩ := appW_n h1
  obtain ⟨r0, rr0, rfl, h3⟩ := apR_v h2
  obtain ⟨rfl, h4⟩ := apR_n h3
  exact ⟨rfl, h4 (fun a0 r0 =>  Pure Tryd.prog 28 (pencs CC [.v 34] ([.d (.v 34 a0)] : List (AD KK))) (tresA (([.v 9 r0] : List (DV KK)).map (dvA CC)))) (fun a0 r0 h => expr_Expr_show_okB _ (fun a0 r0 h => h) a0 r0 h)⟩

def expr_Show_o (a0 : T_expr_Expr) (r0 : Str) : Prop :=
  ∃ z1 : Bool, (expr_Good_o (T_expr_Expr.mk a0.Kind a0.Op (⟨a0.V.Kind, a0.V.N, a0.V.S⟩ : T_value_Value) a0.Table a0.Name a0.L) z1) ∧ cnd (!z1) (([] : Str) = r0) (∃ z2 : Str, (expr_Expr_show_o (T_expr_Expr.mk a0.Kind a0.Op (⟨a0.V.Kind, a0.V.N, a0.V.S⟩ : T_value_Value) a0.Table a0.Name a0.L) z2) ∧ z2 = r0)
noncomputable def expr_Show_sp : Sp KK := ⟨11, [.v 34], [9], appW (K := KK) [9] [.v 34] expr_Show_o⟩
noncomputable def expr_Show_an : An KK := (.s .o (.s (.s .o (.c (.s .o .o) .o)) (.s .o .o)))
noncomputable def expr_Show_cf : Cf KK := ⟨CC, [expr_Good_sp, expr_Expr_show_sp], 8⟩

set_option maxRecDepth 100000 in
theorem expr_Show_ok : SpOk Tryd.prog CC expr_Show_sp := by
  intro env r hF h
  obtain ⟨a0, env0, rfl, h1⟩ := appW_v h
  obtain ⟨rfl, h2⟩ := appW_n h1
  obtain ⟨r0, rr0, rfl, h3⟩ := apR_v h2
  obtain ⟨rfl, h4⟩ := apR_n h3
  refine ⟨rfl, DnF_by (F := expr_Show_cf) CC_ok (SsOk_c expr_Good_ok (SsOk_c expr_Expr_show_ok SsOk_n)) t11 (A := expr_Show_an) (ps := [.v 34]) (rs := [9]) (env := [.d (.v 34 a0)]) (r := [.v 9 r0]) (X := expr_Show_o a0 r0) rfl (Nat.le_of_ble_eq_true rfl) rfl hF h4 ?_⟩
  kernel_rfl

def slices_EqualFunc_Expr_L1 (a0 : (List T_expr_Expr)) (a1 : (List T_expr_Expr)) (g2 : T_expr_Expr → T_expr_Expr → Bool → Prop) (r0 : Bool) (X1 : Int → Prop) (x1 : Int) : Prop :=
  cnd (decide (x1 < (a0.length : Int))) ((0 ≤ x1) ∧ (x1 < (a0.length : Int)) ∧ ∃ y2 : T_expr_Expr, (a0[x1.toNat]? = some y2) ∧ (0 ≤ x1) ∧ (x1 < (a1.length : Int)) ∧ ∃ y3 : T_expr_Expr, (a1[x1.toNat]? = some y3) ∧ ∃ z4 : Bool, (g2 (T_expr_Expr.mk y2.Kind y2.Op (⟨y2.V.Kind, y2.V.N, y2.V.S⟩ : T_value_Value) y2.Table y2.Name y2.L) (T_expr_Expr.mk y3.Kind y3.Op (⟨y3.V.Kind, y3.V.N, y3.V.S⟩ : T_value_Value) y3.Table y3.Name y3.L) z4) ∧ cnd (!z4) (false = r0) (X1 (IntKind.i64.wrap (x1 + (1 : Int))))) (true = r0)
def slices_EqualFunc_Expr_o (a0 : (List T_expr_Expr)) (a1 : (List T_expr_Expr)) (g2 : T_expr_Expr → T_expr_Expr → Bool → Prop) (r0 : Bool) : Prop :=
  (a0.length ≤ maxLen → (a1.length ≤ maxLen → cnd (!((a0.length : Int) == (a1.length : Int))) (false = r0) ((a0.length ≤ maxLen → ∀ X1 : Int → Prop, (∀ (x1 : Int), slices_EqualFunc_Expr_L1 a0 a1 g2 r0 X1 x1 → X1 x1) → X1 (0 : Int)))))
def slices_EqualFunc_Expr_L1i (a0 : (List T_expr_Expr)) (a1 : (List T_expr_Expr)) (g2 : T_expr_Expr → T_expr_Expr → Bool → Prop) (r0 : Bool) (X1 : Int → Prop) (x1 : Int) : Prop :=
  cnd (decide (x1 < (a0.length : Int))) ((0 ≤ x1) ∧ (x1 < (a0.length : Int)) ∧ ∃ y2 : T_expr_Expr, (a0[x1.toNat]? = some y2) ∧ (0 ≤ x1) ∧ (x1 < (a1.length : Int)) ∧ ∃ y3 : T_expr_Expr, (a1[x1.toNat]? = some y3) ∧ ∃ z4 : Bool, (g2 (T_expr_Expr.mk y2.Kind y2.Op (⟨y2.V.Kind, y2.V.N, y2.V.S⟩ : T_value_Value) y2.Table y2.Name y2.L) (T_expr_Expr.mk y3.Kind y3.Op (⟨y3.V.Kind, y3.V.N, y3.V.S⟩ : T_value_Value) y3.Table y3.Name y3.L) z4) ∧ cnd (!z4) (false = r0) (X1 (IntKind.i64.wrap (x1 + (1 : Int))))) (true = r0)
def slices_EqualFunc_Expr_oi (a0 : (List T_expr_Expr)) (a1 : (List T_expr_Expr)) (g2 : T_expr_Expr → T_expr_Expr → Bool → Prop) (r0 : Bool) : Prop :=
  (a0.length ≤ maxLen → (a1.length ≤ maxLen → cnd (!((a0.length : Int) == (a1.length : Int))) (false = r0) ((a0.length ≤ maxLen → ∀ X1 : Int → Prop, (∀ (x1 : Int), slices_EqualFunc_Expr_L1i a0 a1 g2 r0 X1 x1 → X1 x1) → X1 (0 : Int)))))
theorem slices_EqualFunc_Expr_L1_m (a0 : (List T_expr_Expr)) (a1 : (List T_expr_Expr)) (g2 : T_expr_Expr → T_expr_Expr → Bool → Prop) (r0 : Bool) {X1 : Int → Prop} {x1 : Int} (h : slices_EqualFunc_Expr_L1i a0 a1 g2 r0 X1 x1) : slices_EqualFunc_Expr_L1 a0 a1 g2 r0 X1 x1 := by
  unfold slices_EqualFunc_Expr_L1
  unfold slices_EqualFunc_Expr_L1i at h
  exact h
theorem slices_EqualFunc_Expr_i (a0 : (List T_expr_Expr)) (a1 : (List T_expr_Expr)) (g2 : T_expr_Expr → T_expr_Expr → Bool → Prop) (r0 : Bool) (h : slices_EqualFunc_Expr_oi a0 a1 g2 r0) : slices_EqualFunc_Expr_o a0 a1 g2 r0 := by
  unfold slices_EqualFunc_Expr_o
  unfold slices_EqualFunc_Expr_oi at h
  intro c
  replace h := h c
  intro c
  replace h := h c
  refine cnd_mono h (fun h => ?_) (fun h => ?_)
  · exact h
  · intro c
    replace h := h c
    intro X1 k
    exact h X1 (fun x1 q => k x1 (slices_EqualFunc_Expr_L1_m a0 a1 g2 r0 q))
noncomputable def slices_EqualFunc_Expr_sp : Sp KK := ⟨29, [.v 32, .v 32, .f [34, 34] [4]], [4], appW (K := KK) [4] [.v 32, .v 32, .f [34, 34] [4]] slices_EqualFunc_Expr_o⟩
noncomputable def slices_EqualFunc_Expr_an : An KK := (.s .o (.s (.s .o (.c (.s .o .o) .o)) (.s (.s .o (.b (.l ⟨[(1, .kp 6), (2, .kp 7), (15, .kp 8), (16, .kp 9), (17, .it .i64)], [], []⟩ (fun _ => (.s .o (.s (.c .o .o) (.s (.b (.s .o (.s .o (.s .o (.c (.s .o .o) .o))))) .o))))))) (.s .o .o))))
noncomputable def slices_EqualFunc_Expr_cf : Cf KK := ⟨CC, [], 32⟩

set_option maxRecDepth 100000 in
theorem slices_EqualFunc_Expr_ok : SpOk Tryd.prog CC slices_EqualFunc_Expr_sp := by
  intro env r hF h
  obtain ⟨a0, env0, rfl, h1⟩ := appW_v h
  obtain ⟨a1, env1, rfl, h2⟩ := appW_v h1
  obtain ⟨F2, env2, rfl, h3⟩ := appW_f h2
  obtain ⟨rfl, h4⟩ := appW_n h3
  obtain ⟨r0, rr0, rfl, h5⟩ := apR_v h4
  obtain ⟨rfl, h6⟩ := apR_n h5
  refine ⟨rfl, DnF_by (F := slices_EqualFunc_Expr_cf) CC_ok SsOk_n t29 (A := slices_EqualFunc_Expr_an) (ps := [.v 32, .v 32, .f [34, 34] [4]]) (rs := [4]) (env := [.d (.v 32 a0), .d (.v 32 a1), .f F2]) (r := [.v 4 r0]) (X := slices_EqualFunc_Expr_o a0 a1 (curF [4] [34, 34] F2.W) r0) rfl (Nat.le_of_ble_eq_true rfl) rfl hF h6 ?_⟩
  kernel_rfl

def expr_Same_J1 (r0 : Bool) (x1 : Bool) : Prop :=
  x1 = r0
def expr_Same_B (Xr : T_expr_Expr → T_expr_Expr → Bool → Prop) (a0 : T_expr_Expr) (a1 : T_expr_Expr) (r0 : Bool) : Prop :=
  ∀ J1 : Bool → Prop, (∀ (x1 : Bool), expr_Same_J1 r0 x1 → J1 x1) → cnd (a0.Kind == a1.Kind) (cnd (a0.Op == a1.Op) (cnd ((a0.V.Kind == a1.V.Kind) && ((a0.V.N == a1.V.N) && ((a0.V.S == a1.V.S) && true))) (cnd (a0.Table == a1.Table) (cnd (a0.Name == a1.Name) (∃ z2 : Bool, (slices_EqualFunc_Expr_o a0.L a1.L Xr z2) ∧ J1 z2) (J1 false)) (J1 false)) (J1 false)) (J1 false)) (J1 false)
def expr_Same_o (a0 : T_expr_Expr) (a1 : T_expr_Expr) (r0 : Bool) : Prop := ∀ Xr : T_expr_Expr → T_expr_Expr → Bool → Prop, (∀ (a0 : T_expr_Expr) (a1 : T_expr_Expr) (r0 : Bool), expr_Same_B Xr a0 a1 r0 → Xr a0 a1 r0) → Xr a0 a1 r0
def expr_Same_J1i (r0 : Bool) (x1 : Bool) : Prop :=
  x1 = r0
def expr_Same_Bi (Xr : T_expr_Expr → T_expr_Expr → Bool → Prop) (a0 : T_expr_Expr) (a1 : T_expr_Expr) (r0 : Bool) : Prop :=
  cnd (a0.Kind == a1.Kind) (cnd (a0.Op == a1.Op) (cnd ((a0.V.Kind == a1.V.Kind) && ((a0.V.N == a1.V.N) && ((a0.V.S == a1.V.S) && true))) (cnd (a0.Table == a1.Table) (cnd (a0.Name == a1.Name) (∃ z2 : Bool, (slices_EqualFunc_Expr_o a0.L a1.L Xr z2) ∧ expr_Same_J1i r0 z2) (expr_Same_J1i r0 false)) (expr_Same_J1i r0 false)) (expr_Same_J1i r0 false)) (expr_Same_J1i r0 false)) (expr_Same_J1i r0 false)
theorem expr_Same_J1_m (r0 : Bool) {x1 : Bool} (h : expr_Same_J1i r0 x1) : expr_Same_J1 r0 x1 := by
  unfold expr_Same_J1
  unfold expr_Same_J1i at h
  exact h
theorem expr_Same_Bm (Xr : T_expr_Expr → T_expr_Expr → Bool → Prop) (a0 : T_expr_Expr) (a1 : T_expr_Expr) (r0 : Bool) (h : expr_Same_Bi Xr a0 a1 r0) : expr_Same_B Xr a0 a1 r0 := by
  unfold expr_Same_B
  unfold expr_Same_Bi at h
  intro J1 kJ1
  have hJ1 : ∀ (x1 : Bool), expr_Same_J1i r0 x1 → J1 x1 := fun x1 q => kJ1 x1 (expr_Same_J1_m r0 q)
  refine cnd_mono h (fun h => ?_) (fun h => ?_)
  · refine cnd_mono h (fun h => ?_) (fun h => ?_)
    · refine cnd_mono h (fun h => ?_) (fun h => ?_)
      · refine cnd_mono h (fun h => ?_) (fun h => ?_)
        · refine cnd_mono h (fun h => ?_) (fun h => ?_)
          · obtain ⟨z2, h⟩ := h
            refine ⟨z2, ?_⟩
            obtain ⟨h0, h⟩ := h
            refine ⟨h0, ?_⟩
            exact hJ1 _ h
          · exact hJ1 _ h
        · exact hJ1 _ h
      · exact hJ1 _ h
    · exact hJ1 _ h
  · exact hJ1 _ h
theorem expr_Same_i (a0 : T_expr_Expr) (a1 : T_expr_Expr) (r0 : Bool) (h : ∀ Xr : T_expr_Expr → T_expr_Expr → Bool → Prop, (∀ (a0 : T_expr_Expr) (a1 : T_expr_Expr) (r0 : Bool), expr_Same_Bi Xr a0 a1 r0 → Xr a0 a1 r0) → Xr a0 a1 r0) : expr_Same_o a0 a1 r0 := fun Xr k => h Xr fun a0 a1 r0 q => k a0 a1 r0 (expr_Same_Bm Xr a0 a1 r0 q)
noncomputable def expr_Same_sp : Sp KK := ⟨12, [.v 34, .v 34], [4], appW (K := KK) [4] [.v 34, .v 34] expr_Same_o⟩
noncomputable def expr_Same_an : An KK := (.s .o (.j ⟨[(4, .bl)], [], []⟩ .o (fun _ => .o)))
noncomputable def expr_Same_cf (Xr : WTy KK [4] [.v 34, .v 34]) : Cf KK := ⟨CC, [⟨12, [.v 34, .v 34], [4], appW (K := KK) [4] [.v 34, .v 34] Xr⟩, slices_EqualFunc_Expr_sp], 45⟩

set_option maxRecDepth 100000 in
theorem expr_Same_okB (Xr : T_expr_Expr → T_expr_Expr → Bool → Prop) (hX : ∀ (a0 : T_expr_Expr) (a1 : T_expr_Expr) (r0 : Bool), Xr a0 a1 r0 → Pure Tryd.prog 12 (pencs CC [.v 34, .v 34] ([.d (.v 34 a0), .d (.v 34 a1)] : List (AD KK))) (tresA (([.v 4 r0] : List (DV KK)).map (dvA CC)))) : ∀ (a0 : T_expr_Expr) (a1 : T_expr_Expr) (r0 : Bool), expr_Same_B Xr a0 a1 r0 → Pure Tryd.prog 12 (pencs CC [.v 34, .v 34] ([.d (.v 34 a0), .d (.v 34 a1)] : List (AD KK))) (tresA (([.v 4 r0] : List (DV KK)).map (dvA CC))) := by
  intro a0 a1 r0 h
  refine DnF_by (F := expr_Same_cf Xr) CC_ok (SsOk_c ?_ (SsOk_c slices_EqualFunc_Expr_ok SsOk_n)) t12 (A := expr_Same_an) (ps := [.v 34, .v 34]) (rs := [4]) (env := [.d (.v 34 a0), .d (.v 34 a1)]) (r := [.v 4 r0]) (X := expr_Same_B Xr a0 a1 r0) rfl (Nat.le_of_ble_eq_true rfl) rfl (fun G hG => by simp at hG) h ?_
  · clear h r0
    intro env r hF h
    obtain ⟨a0, env0, rfl, h1⟩ := appW_v h
    obtain ⟨a1, env1, rfl, h2⟩ := appW_v h1
    obtain ⟨rfl, h3⟩ := appW_n h2
    obtain ⟨r0, rr0, rfl, h4⟩ := apR_v h3
    obtain ⟨rfl, h5⟩ := apR_n h4
    exact ⟨rfl, hX a0 a1 r0 h5⟩
  · kernel_rfl
set_option maxRecDepth 100000 in
theorem expr_Same_ok : SpOk Tryd.prog CC expr_Same_sp := by
  intro env r hF h
  obtain ⟨a0, env0, rfl, h1⟩ := appW_v h
  obtain ⟨a1, env1, rfl, h2⟩ := appW_v h1
  obtain ⟨rfl, h3⟩ := appW_n h2
  obtain ⟨r0, rr0, rfl, h4⟩ := apR_v h3
  obtain ⟨rfl, h5⟩ := apR_n h4
  exact ⟨rfl, h5 (fun a0 a1 r0 =>  Pure Tryd.prog 12 (pencs CC [.v 34, .v 34] ([.d (.v 34 a0), .d (.v 34 a1)] : List (AD KK))) (tresA (([.v 4 r0] : List (DV KK)).map (dvA CC)))) (fun a0 a1 r0 h => expr_Same_okB _ (fun a0 a1 r0 h => h) a0 a1 r0 h)⟩

def law15_speaks_J1 (r0 : Bool) (x2 : Bool) : Prop :=
  x2 = r0
def law15_speaks_o (r0 : Bool) : Prop :=
  ∃ z1 : T_value_Value, (value_OfInt_o (1 : Int) z1) ∧ ∀ J1 : Bool → Prop, (∀ (x2 : Bool), law15_speaks_J1 r0 x2 → J1 x2) → ∃ z3 : Bool, (expr_Good_o (T_expr_Expr.mk (3 : Int) (7 : Int) (⟨(0 : Int), (0 : Int), ([] : Str)⟩ : T_value_Value) ([] : Str) ([] : Str) ([(T_expr_Expr.mk (1 : Int) (0 : Int) z1 ([] : Str) ([] : Str) ([] : List T_expr_Expr)), (T_expr_Expr.mk (2 : Int) (0 : Int) (⟨(0 : Int), (0 : Int), ([] : Str)⟩ : T_value_Value) ([97] : Str) ([98] : Str) ([] : List T_expr_Expr))] : List T_expr_Expr)) z3) ∧ cnd z3 (∃ z4 : Str, (expr_Show_o (T_expr_Expr.mk (3 : Int) (7 : Int) (⟨(0 : Int), (0 : Int), ([] : Str)⟩ : T_value_Value) ([] : Str) ([] : Str) ([(T_expr_Expr.mk (1 : Int) (0 : Int) z1 ([] : Str) ([] : Str) ([] : List T_expr_Expr)), (T_expr_Expr.mk (2 : Int) (0 : Int) (⟨(0 : Int), (0 : Int), ([] : Str)⟩ : T_value_Value) ([97] : Str) ([98] : Str) ([] : List T_expr_Expr))] : List T_expr_Expr)) z4) ∧ cnd (z4 == ([40, 49, 32, 43, 32, 97, 46, 98, 41] : Str)) (∃ z5 : Int, (expr_Depth_o (T_expr_Expr.mk (3 : Int) (7 : Int) (⟨(0 : Int), (0 : Int), ([] : Str)⟩ : T_value_Value) ([] : Str) ([] : Str) ([(T_expr_Expr.mk (1 : Int) (0 : Int) z1 ([] : Str) ([] : Str) ([] : List T_expr_Expr)), (T_expr_Expr.mk (2 : Int) (0 : Int) (⟨(0 : Int), (0 : Int), ([] : Str)⟩ : T_value_Value) ([97] : Str) ([98] : Str) ([] : List T_expr_Expr))] : List T_expr_Expr)) z5) ∧ cnd (z5 == (2 : Int)) (∃ z6 : Bool, (expr_Same_o (T_expr_Expr.mk (3 : Int) (7 : Int) (⟨(0 : Int), (0 : Int), ([] : Str)⟩ : T_value_Value) ([] : Str) ([] : Str) ([(T_expr_Expr.mk (1 : Int) (0 : Int) z1 ([] : Str) ([] : Str) ([] : List T_expr_Expr)), (T_expr_Expr.mk (2 : Int) (0 : Int) (⟨(0 : Int), (0 : Int), ([] : Str)⟩ : T_value_Value) ([97] : Str) ([98] : Str) ([] : List T_expr_Expr))] : List T_expr_Expr)) (T_expr_Expr.mk (3 : Int) (7 : Int) (⟨(0 : Int), (0 : Int), ([] : Str)⟩ : T_value_Value) ([] : Str) ([] : Str) ([(T_expr_Expr.mk (1 : Int) (0 : Int) z1 ([] : Str) ([] : Str) ([] : List T_expr_Expr)), (T_expr_Expr.mk (2 : Int) (0 : Int) (⟨(0 : Int), (0 : Int), ([] : Str)⟩ : T_value_Value) ([97] : Str) ([98] : Str) ([] : List T_expr_Expr))] : List T_expr_Expr)) z6) ∧ cnd z6 ((0 ≤ (0 : Int)) ∧ ((0 : Int) < (([(T_expr_Expr.mk (1 : Int) (0 : Int) z1 ([] : Str) ([] : Str) ([] : List T_expr_Expr)), (T_expr_Expr.mk (2 : Int) (0 : Int) (⟨(0 : Int), (0 : Int), ([] : Str)⟩ : T_value_Value) ([97] : Str) ([98] : Str) ([] : List T_expr_Expr))] : List T_expr_Expr).length : Int)) ∧ ∃ y7 : T_expr_Expr, (([(T_expr_Expr.mk (1 : Int) (0 : Int) z1 ([] : Str) ([] : Str) ([] : List T_expr_Expr)), (T_expr_Expr.mk (2 : Int) (0 : Int) (⟨(0 : Int), (0 : Int), ([] : Str)⟩ : T_value_Value) ([97] : Str) ([98] : Str) ([] : List T_expr_Expr))] : List T_expr_Expr)[(0 : Int).toNat]? = some y7) ∧ ∃ z8 : Bool, (expr_Same_o (T_expr_Expr.mk (3 : Int) (7 : Int) (⟨(0 : Int), (0 : Int), ([] : Str)⟩ : T_value_Value) ([] : Str) ([] : Str) ([(T_expr_Expr.mk (1 : Int) (0 : Int) z1 ([] : Str) ([] : Str) ([] : List T_expr_Expr)), (T_expr_Expr.mk (2 : Int) (0 : Int) (⟨(0 : Int), (0 : Int), ([] : Str)⟩ : T_value_Value) ([97] : Str) ([98] : Str) ([] : List T_expr_Expr))] : List T_expr_Expr)) (T_expr_Expr.mk y7.Kind y7.Op (⟨y7.V.Kind, y7.V.N, y7.V.S⟩ : T_value_Value) y7.Table y7.Name y7.L) z8) ∧ J1 (!z8)) (J1 false)) (J1 false)) (J1 false)) (J1 false)
def law15_speaks_J1i (r0 : Bool) (x2 : Bool) : Prop :=
  x2 = r0
def law15_speaks_oi (r0 : Bool) : Prop :=
  ∃ z1 : T_value_Value, (value_OfInt_o (1 : Int) z1) ∧ ∃ z3 : Bool, (expr_Good_o (T_expr_Expr.mk (3 : Int) (7 : Int) (⟨(0 : Int), (0 : Int), ([] : Str)⟩ : T_value_Value) ([] : Str) ([] : Str) ([(T_expr_Expr.mk (1 : Int) (0 : Int) z1 ([] : Str) ([] : Str) ([] : List T_expr_Expr)), (T_expr_Expr.mk (2 : Int) (0 : Int) (⟨(0 : Int), (0 : Int), ([] : Str)⟩ : T_value_Value) ([97] : Str) ([98] : Str) ([] : List T_expr_Expr))] : List T_expr_Expr)) z3) ∧ cnd z3 (∃ z4 : Str, (expr_Show_o (T_expr_Expr.mk (3 : Int) (7 : Int) (⟨(0 : Int), (0 : Int), ([] : Str)⟩ : T_value_Value) ([] : Str) ([] : Str) ([(T_expr_Expr.mk (1 : Int) (0 : Int) z1 ([] : Str) ([] : Str) ([] : List T_expr_Expr)), (T_expr_Expr.mk (2 : Int) (0 : Int) (⟨(0 : Int), (0 : Int), ([] : Str)⟩ : T_value_Value) ([97] : Str) ([98] : Str) ([] : List T_expr_Expr))] : List T_expr_Expr)) z4) ∧ cnd (z4 == ([40, 49, 32, 43, 32, 97, 46, 98, 41] : Str)) (∃ z5 : Int, (expr_Depth_o (T_expr_Expr.mk (3 : Int) (7 : Int) (⟨(0 : Int), (0 : Int), ([] : Str)⟩ : T_value_Value) ([] : Str) ([] : Str) ([(T_expr_Expr.mk (1 : Int) (0 : Int) z1 ([] : Str) ([] : Str) ([] : List T_expr_Expr)), (T_expr_Expr.mk (2 : Int) (0 : Int) (⟨(0 : Int), (0 : Int), ([] : Str)⟩ : T_value_Value) ([97] : Str) ([98] : Str) ([] : List T_expr_Expr))] : List T_expr_Expr)) z5) ∧ cnd (z5 == (2 : Int)) (∃ z6 : Bool, (expr_Same_o (T_expr_Expr.mk (3 : Int) (7 : Int) (⟨(0 : Int), (0 : Int), ([] : Str)⟩ : T_value_Value) ([] : Str) ([] : Str) ([(T_expr_Expr.mk (1 : Int) (0 : Int) z1 ([] : Str) ([] : Str) ([] : List T_expr_Expr)), (T_expr_Expr.mk (2 : Int) (0 : Int) (⟨(0 : Int), (0 : Int), ([] : Str)⟩ : T_value_Value) ([97] : Str) ([98] : Str) ([] : List T_expr_Expr))] : List T_expr_Expr)) (T_expr_Expr.mk (3 : Int) (7 : Int) (⟨(0 : Int), (0 : Int), ([] : Str)⟩ : T_value_Value) ([] : Str) ([] : Str) ([(T_expr_Expr.mk (1 : Int) (0 : Int) z1 ([] : Str) ([] : Str) ([] : List T_expr_Expr)), (T_expr_Expr.mk (2 : Int) (0 : Int) (⟨(0 : Int), (0 : Int), ([] : Str)⟩ : T_value_Value) ([97] : Str) ([98] : Str) ([] : List T_expr_Expr))] : List T_expr_Expr)) z6) ∧ cnd z6 ((0 ≤ (0 : Int)) ∧ ((0 : Int) < (([(T_expr_Expr.mk (1 : Int) (0 : Int) z1 ([] : Str) ([] : Str) ([] : List T_expr_Expr)), (T_expr_Expr.mk (2 : Int) (0 : Int) (⟨(0 : Int), (0 : Int), ([] : Str)⟩ : T_value_Value) ([97] : Str) ([98] : Str) ([] : List T_expr_Expr))] : List T_expr_Expr).length : Int)) ∧ ∃ y7 : T_expr_Expr, (([(T_expr_Expr.mk (1 : Int) (0 : Int) z1 ([] : Str) ([] : Str) ([] : List T_expr_Expr)), (T_expr_Expr.mk (2 : Int) (0 : Int) (⟨(0 : Int), (0 : Int), ([] : Str)⟩ : T_value_Value) ([97] : Str) ([98] : Str) ([] : List T_expr_Expr))] : List T_expr_Expr)[(0 : Int).toNat]? = some y7) ∧ ∃ z8 : Bool, (expr_Same_o (T_expr_Expr.mk (3 : Int) (7 : Int) (⟨(0 : Int), (0 : Int), ([] : Str)⟩ : T_value_Value) ([] : Str) ([] : Str) ([(T_expr_Expr.mk (1 : Int) (0 : Int) z1 ([] : Str) ([] : Str) ([] : List T_expr_Expr)), (T_expr_Expr.mk (2 : Int) (0 : Int) (⟨(0 : Int), (0 : Int), ([] : Str)⟩ : T_value_Value) ([97] : Str) ([98] : Str) ([] : List T_expr_Expr))] : List T_expr_Expr)) (T_expr_Expr.mk y7.Kind y7.Op (⟨y7.V.Kind, y7.V.N, y7.V.S⟩ : T_value_Value) y7.Table y7.Name y7.L) z8) ∧ law15_speaks_J1i r0 (!z8)) (law15_speaks_J1i r0 false)) (law15_speaks_J1i r0 false)) (law15_speaks_J1i r0 false)) (law15_speaks_J1i r0 false)
theorem law15_speaks_J1_m (r0 : Bool) {x2 : Bool} (h : law15_speaks_J1i r0 x2) : law15_speaks_J1 r0 x2 := by
  unfold law15_speaks_J1
  unfold law15_speaks_J1i at h
  exact h
theorem law15_speaks_i (r0 : Bool) (h : law15_speaks_oi r0) : law15_speaks_o r0 := by
  unfold law15_speaks_o
  unfold law15_speaks_oi at h
  obtain ⟨z1, h⟩ := h
  refine ⟨z1, ?_⟩
  obtain ⟨h0, h⟩ := h
  refine ⟨h0, ?_⟩
  intro J1 kJ1
  have hJ1 : ∀ (x2 : Bool), law15_speaks_J1i r0 x2 → J1 x2 := fun x2 q => kJ1 x2 (law15_speaks_J1_m r0 q)
  obtain ⟨z3, h⟩ := h
  refine ⟨z3, ?_⟩
  obtain ⟨h0, h⟩ := h
  refine ⟨h0, ?_⟩
  refine cnd_mono h (fun h => ?_) (fun h => ?_)
  · obtain ⟨z4, h⟩ := h
    refine ⟨z4, ?_⟩
    obtain ⟨h0, h⟩ := h
    refine ⟨h0, ?_⟩
    refine cnd_mono h (fun h => ?_) (fun h => ?_)
    · obtain ⟨z5, h⟩ := h
      refine ⟨z5, ?_⟩
      obtain ⟨h0, h⟩ := h
      refine ⟨h0, ?_⟩
      refine cnd_mono h (fun h => ?_) (fun h => ?_)
      · obtain ⟨z6, h⟩ := h
        refine ⟨z6, ?_⟩
        obtain ⟨h0, h⟩ := h
        refine ⟨h0, ?_⟩
        refine cnd_mono h (fun h => ?_) (fun h => ?_)
        · obtain ⟨h0, h⟩ := h
          refine ⟨h0, ?_⟩
          obtain ⟨h0, h⟩ := h
          refine ⟨h0, ?_⟩
          obtain ⟨y7, h⟩ := h
          refine ⟨y7, ?_⟩
          obtain ⟨h0, h⟩ := h
          refine ⟨h0, ?_⟩
          obtain ⟨z8, h⟩ := h
          refine ⟨z8, ?_⟩
          obtain ⟨h0, h⟩ := h
          refine ⟨h0, ?_⟩
          exact hJ1 _ h
        · exact hJ1 _ h
      · exact hJ1 _ h
    · exact hJ1 _ h
  · exact hJ1 _ h
noncomputable def law15_speaks_sp : Sp KK := ⟨7, [], [4], appW (K := KK) [4] [] law15_speaks_o⟩
noncomputable def law15_speaks_an : An KK := (.s .o (.s .o (.j ⟨[(0, .bl)], [], []⟩ .o (fun _ => .o))))
noncomputable def law15_speaks_cf : Cf KK := ⟨CC, [value_OfInt_sp, expr_Good_sp, expr_Show_sp, expr_Depth_sp, expr_Same_sp], 33⟩

set_option maxRecDepth 100000 in
theorem law15_speaks_ok : SpOk Tryd.prog CC law15_speaks_sp := by
  intro env r hF h
  obtain ⟨rfl, h1⟩ := appW_n h
  obtain ⟨r0, rr0, rfl, h2⟩ := apR_v h1
  obtain ⟨rfl, h3⟩ := apR_n h2
  refine ⟨rfl, DnF_by (F := law15_speaks_cf) CC_ok (SsOk_c value_OfInt_ok (SsOk_c expr_Good_ok (SsOk_c expr_Show_ok (SsOk_c expr_Depth_ok (SsOk_c expr_Same_ok SsOk_n))))) t7 (A := law15_speaks_an) (ps := []) (rs := [4]) (env := []) (r := [.v 4 r0]) (X := law15_speaks_o  r0) rfl (Nat.le_of_ble_eq_true rfl) rfl hF h3 ?_⟩
  kernel_rfl

def law15_Built_L6 (x12 : Int) (Xr : (List T_law15_Part) → Int → Int → T_ref15_Expr → Int → Prop) (a0 : (List T_law15_Part)) (a2 : Int) (y2 : T_law15_Part) (x9 : Int) (x3 : Int) (x4 : Int) (x5 : Str) (x10 : Str) (x11 : Str) (r0 : T_ref15_Expr) (r1 : Int) (X6 : Int → Int → (List T_ref15_Expr) → Prop) (x13 : Int) (x14 : Int) (x15 : (List T_ref15_Expr)) : Prop :=
  cnd (decide (x14 < x12)) (∃ z16 : T_ref15_Expr, ∃ z17 : Int, (Xr a0 x13 (IntKind.i64.wrap (a2 + (1 : Int))) z16 z17) ∧ (x15.length ≤ 1000000000) ∧ X6 z17 (IntKind.i64.wrap (x14 + (1 : Int))) (x15 ++ ([(T_ref15_Expr.mk z16.Kind z16.Op (⟨z16.V.Kind, z16.V.N, z16.V.S⟩ : T_ref06_Value) z16.Table z16.Name z16.L)] : List T_ref15_Expr))) ((T_ref15_Expr.mk (IntKind.i64.wrap (y2.Kind.tmod (10 : Int))) x9 (⟨x3, x4, x5⟩ : T_ref06_Value) x10 x11 x15) = r0 ∧ x13 = r1)
def law15_Built_J5 (Xr : (List T_law15_Part) → Int → Int → T_ref15_Expr → Int → Prop) (a0 : (List T_law15_Part)) (a2 : Int) (y2 : T_law15_Part) (x9 : Int) (x3 : Int) (x4 : Int) (x5 : Str) (x10 : Str) (x11 : Str) (r0 : T_ref15_Expr) (r1 : Int) (a1 : Int) (x12 : Int) : Prop :=
  ∀ X6 : Int → Int → (List T_ref15_Expr) → Prop, (∀ (x13 : Int) (x14 : Int) (x15 : (List T_ref15_Expr)), law15_Built_L6 x12 Xr a0 a2 y2 x9 x3 x4 x5 x10 x11 r0 r1 X6 x13 x14 x15 → X6 x13 x14 x15) → X6 (IntKind.i64.wrap (a1 + (1 : Int))) (0 : Int) ([] : List T_ref15_Expr)
def law15_Built_J4 (Xr : (List T_law15_Part) → Int → Int → T_ref15_Expr → Int → Prop) (a0 : (List T_law15_Part)) (a2 : Int) (y2 : T_law15_Part) (x3 : Int) (x4 : Int) (x5 : Str) (r0 : T_ref15_Expr) (r1 : Int) (a1 : Int) (x8 : Int) (x9 : Int) (x10 : Str) (x11 : Str) : Prop :=
  ∀ J5 : Int → Prop, (∀ (x12 : Int), law15_Built_J5 Xr a0 a2 y2 x9 x3 x4 x5 x10 x11 r0 r1 a1 x12 → J5 x12) → cnd (decide ((240 : Int) ≤ y2.Kind)) (J5 (IntKind.i64.wrap (y2.Parts.tmod (4 : Int)))) (J5 x8)
def law15_Built_J8 (J4 : Int → Int → Str → Str → Prop) (x6 : Str) (x7 : Str) (y2 : T_law15_Part) (x19 : Bool) : Prop :=
  cnd x19 (J4 (0 : Int) (0 : Int) x6 x7) (J4 (IntKind.i64.wrap (y2.Parts.tmod (3 : Int))) (0 : Int) x6 x7)
def law15_Built_J7 (J4 : Int → Int → Str → Str → Prop) (x6 : Str) (x7 : Str) (y2 : T_law15_Part) (x18 : Bool) : Prop :=
  cnd x18 (J4 (1 : Int) (0 : Int) x6 x7) (cnd ((y2.Kind.tmod (10 : Int)) == (8 : Int)) (J4 (IntKind.i64.wrap (y2.Parts.tmod (2 : Int))) (IntKind.i64.wrap (y2.Op.tmod (6 : Int))) x6 x7) (∀ J8 : Bool → Prop, (∀ (x19 : Bool), law15_Built_J8 J4 x6 x7 y2 x19 → J8 x19) → cnd ((y2.Kind.tmod (10 : Int)) == (1 : Int)) (J8 ((y2.Kind.tmod (10 : Int)) == (1 : Int))) (J8 ((y2.Kind.tmod (10 : Int)) == (2 : Int)))))
def law15_Built_J3 (Xr : (List T_law15_Part) → Int → Int → T_ref15_Expr → Int → Prop) (a0 : (List T_law15_Part)) (a2 : Int) (y2 : T_law15_Part) (x3 : Int) (x4 : Int) (x5 : Str) (r0 : T_ref15_Expr) (r1 : Int) (a1 : Int) (x6 : Str) (x7 : Str) : Prop :=
  ∀ J4 : Int → Int → Str → Str → Prop, (∀ (x8 : Int) (x9 : Int) (x10 : Str) (x11 : Str), law15_Built_J4 Xr a0 a2 y2 x3 x4 x5 r0 r1 a1 x8 x9 x10 x11 → J4 x8 x9 x10 x11) → cnd ((y2.Kind.tmod (10 : Int)) == (3 : Int)) (J4 (2 : Int) (IntKind.i64.wrap (y2.Op.tmod (16 : Int))) x6 x7) (∀ J7 : Bool → Prop, (∀ (x18 : Bool), law15_Built_J7 J4 x6 x7 y2 x18 → J7 x18) → cnd ((y2.Kind.tmod (10 : Int)) == (4 : Int)) (J7 ((y2.Kind.tmod (10 : Int)) == (4 : Int))) (cnd ((y2.Kind.tmod (10 : Int)) == (5 : Int)) (J7 ((y2.Kind.tmod (10 : Int)) == (5 : Int))) (cnd ((y2.Kind.tmod (10 : Int)) == (6 : Int)) (J7 ((y2.Kind.tmod (10 : Int)) == (6 : Int))) (J7 ((y2.Kind.tmod (10 : Int)) == (7 : Int))))))
def law15_Built_J9 (y2 : T_law15_Part) (J3 : Str → Str → Prop) (x20 : Bool) : Prop :=
  cnd x20 ((0 ≤ (0 : Int) ∧ (0 : Int) ≤ (if (20 : Int) < (y2.Name.length : Int) then (20 : Int) else (y2.Name.length : Int)) ∧ (if (20 : Int) < (y2.Name.length : Int) then (20 : Int) else (y2.Name.length : Int)) ≤ (y2.Name.length : Int)) ∧ (0 ≤ (0 : Int) ∧ (0 : Int) ≤ (if (20 : Int) < (y2.Table.length : Int) then (20 : Int) else (y2.Table.length : Int)) ∧ (if (20 : Int) < (y2.Table.length : Int) then (20 : Int) else (y2.Table.length : Int)) ≤ (y2.Table.length : Int)) ∧ J3 ((y2.Table.drop (0 : Int).toNat).take ((if (20 : Int) < (y2.Table.length : Int) then (20 : Int) else (y2.Table.length : Int)).toNat - (0 : Int).toNat)) ((y2.Name.drop (0 : Int).toNat).take ((if (20 : Int) < (y2.Name.length : Int) then (20 : Int) else (y2.Name.length : Int)).toNat - (0 : Int).toNat))) (J3 ([] : Str) ([] : Str))
def law15_Built_J2 (Xr : (List T_law15_Part) → Int → Int → T_ref15_Expr → Int → Prop) (a0 : (List T_law15_Part)) (a2 : Int) (y2 : T_law15_Part) (r0 : T_ref15_Expr) (r1 : Int) (a1 : Int) (x3 : Int) (x4 : Int) (x5 : Str) : Prop :=
  ∀ J3 : Str → Str → Prop, (∀ (x6 : Str) (x7 : Str), law15_Built_J3 Xr a0 a2 y2 x3 x4 x5 r0 r1 a1 x6 x7 → J3 x6 x7) → ∀ J9 : Bool → Prop, (∀ (x20 : Bool), law15_Built_J9 y2 J3 x20 → J9 x20) → cnd ((y2.Kind.tmod (10 : Int)) == (2 : Int)) (J9 true) (J9 (decide ((250 : Int) ≤ y2.Kind)))
def law15_Built_J10 (y2 : T_law15_Part) (J2 : Int → Int → Str → Prop) (x21 : Bool) : Prop :=
  cnd x21 (cnd ((IntKind.i64.wrap (y2.Value.tmod (5 : Int))) == (1 : Int)) (J2 (IntKind.i64.wrap (y2.Value.tmod (5 : Int))) (bits .and .i64 y2.N (1 : Int)) ([] : Str)) (cnd ((IntKind.i64.wrap (y2.Value.tmod (5 : Int))) == (2 : Int)) (J2 (IntKind.i64.wrap (y2.Value.tmod (5 : Int))) y2.N ([] : Str)) (cnd ((IntKind.i64.wrap (y2.Value.tmod (5 : Int))) == (3 : Int)) ((0 ≤ (0 : Int) ∧ (0 : Int) ≤ (if (70 : Int) < (y2.Name.length : Int) then (70 : Int) else (y2.Name.length : Int)) ∧ (if (70 : Int) < (y2.Name.length : Int) then (70 : Int) else (y2.Name.length : Int)) ≤ (y2.Name.length : Int)) ∧ J2 (IntKind.i64.wrap (y2.Value.tmod (5 : Int))) (0 : Int) ((y2.Name.drop (0 : Int).toNat).take ((if (70 : Int) < (y2.Name.length : Int) then (70 : Int) else (y2.Name.length : Int)).toNat - (0 : Int).toNat))) (J2 (IntKind.i64.wrap (y2.Value.tmod (5 : Int))) (0 : Int) ([] : Str))))) (J2 (0 : Int) (0 : Int) ([] : Str))
def law15_Built_J1 (r0 : T_ref15_Expr) (a1 : Int) (r1 : Int) (a0 : (List T_law15_Part)) (Xr : (List T_law15_Part) → Int → Int → T_ref15_Expr → Int → Prop) (a2 : Int) (x1 : Bool) : Prop :=
  cnd x1 ((T_ref15_Expr.mk (1 : Int) (0 : Int) (⟨(0 : Int), (0 : Int), ([] : Str)⟩ : T_ref06_Value) ([] : Str) ([] : Str) ([] : List T_ref15_Expr)) = r0 ∧ (IntKind.i64.wrap (a1 + (1 : Int))) = r1) ((0 ≤ a1) ∧ (a1 < (a0.length : Int)) ∧ ∃ y2 : T_law15_Part, (a0[a1.toNat]? = some y2) ∧ ∀ J2 : Int → Int → Str → Prop, (∀ (x3 : Int) (x4 : Int) (x5 : Str), law15_Built_J2 Xr a0 a2 y2 r0 r1 a1 x3 x4 x5 → J2 x3 x4 x5) → ∀ J10 : Bool → Prop, (∀ (x21 : Bool), law15_Built_J10 y2 J2 x21 → J10 x21) → cnd ((y2.Kind.tmod (10 : Int)) == (1 : Int)) (J10 true) (J10 (decide ((250 : Int) ≤ y2.Kind))))
def law15_Built_B (Xr : (List T_law15_Part) → Int → Int → T_ref15_Expr → Int → Prop) (a0 : (List T_law15_Part)) (a1 : Int) (a2 : Int) (r0 : T_ref15_Expr) (r1 : Int) : Prop :=
  ∀ J1 : Bool → Prop, (∀ (x1 : Bool), law15_Built_J1 r0 a1 r1 a0 Xr a2 x1 → J1 x1) → (a0.length ≤ maxLen → cnd (decide ((a0.length : Int) ≤ a1)) (J1 true) (J1 (decide ((24 : Int) < a2))))
def law15_Built_o (a0 : (List T_law15_Part)) (a1 : Int) (a2 : Int) (r0 : T_ref15_Expr) (r1 : Int) : Prop := ∀ Xr : (List T_law15_Part) → Int → Int → T_ref15_Expr → Int → Prop, (∀ (a0 : (List T_law15_Part)) (a1 : Int) (a2 : Int) (r0 : T_ref15_Expr) (r1 : Int), law15_Built_B Xr a0 a1 a2 r0 r1 → Xr a0 a1 a2 r0 r1) → Xr a0 a1 a2 r0 r1
def law15_Built_L6i (Xr : (List T_law15_Part) → Int → Int → T_ref15_Expr → Int → Prop) (a0 : (List T_law15_Part)) (a2 : Int) (r0 : T_ref15_Expr) (r1 : Int) (x3 : Int) (x4 : Int) (x5 : Str) (x9 : Int) (x10 : Str) (x11 : Str) (x12 : Int) (y2 : T_law15_Part) (X6 : Int → Int → (List T_ref15_Expr) → Prop) (x13 : Int) (x14 : Int) (x15 : (List T_ref15_Expr)) : Prop :=
  cnd (decide (x14 < x12)) (∃ z16 : T_ref15_Expr, ∃ z17 : Int, (Xr a0 x13 (IntKind.i64.wrap (a2 + (1 : Int))) z16 z17) ∧ (x15.length ≤ 1000000000) ∧ X6 z17 (IntKind.i64.wrap (x14 + (1 : Int))) (x15 ++ ([(T_ref15_Expr.mk z16.Kind z16.Op (⟨z16.V.Kind, z16.V.N, z16.V.S⟩ : T_ref06_Value) z16.Table z16.Name z16.L)] : List T_ref15_Expr))) ((T_ref15_Expr.mk (IntKind.i64.wrap (y2.Kind.tmod (10 : Int))) x9 (⟨x3, x4, x5⟩ : T_ref06_Value) x10 x11 x15) = r0 ∧ x13 = r1)
def law15_Built_J5i (Xr : (List T_law15_Part) → Int → Int → T_ref15_Expr → Int → Prop) (a0 : (List T_law15_Part)) (a1 : Int) (a2 : Int) (r0 : T_ref15_Expr) (r1 : Int) (x3 : Int) (x4 : Int) (x5 : Str) (x9 : Int) (x10 : Str) (x11 : Str) (y2 : T_law15_Part) (x12 : Int) : Prop :=
  ∀ X6 : Int → Int → (List T_ref15_Expr) → Prop, (∀ (x13 : Int) (x14 : Int) (x15 : (List T_ref15_Expr)), law15_Built_L6i Xr a0 a2 r0 r1 x3 x4 x5 x9 x10 x11 x12 y2 X6 x13 x14 x15 → X6 x13 x14 x15) → X6 (IntKind.i64.wrap (a1 + (1 : Int))) (0 : Int) ([] : List T_ref15_Expr)
def law15_Built_J4i (Xr : (List T_law15_Part) → Int → Int → T_ref15_Expr → Int → Prop) (a0 : (List T_law15_Part)) (a1 : Int) (a2 : Int) (r0 : T_ref15_Expr) (r1 : Int) (x3 : Int) (x4 : Int) (x5 : Str) (y2 : T_law15_Part) (x8 : Int) (x9 : Int) (x10 : Str) (x11 : Str) : Prop :=
  cnd (decide ((240 : Int) ≤ y2.Kind)) (law15_Built_J5i Xr a0 a1 a2 r0 r1 x3 x4 x5 x9 x10 x11 y2 (IntKind.i64.wrap (y2.Parts.tmod (4 : Int)))) (law15_Built_J5i Xr a0 a1 a2 r0 r1 x3 x4 x5 x9 x10 x11 y2 x8)
def law15_Built_J8i (Xr : (List T_law15_Part) → Int → Int → T_ref15_Expr → Int → Prop) (a0 : (List T_law15_Part)) (a1 : Int) (a2 : Int) (r0 : T_ref15_Expr) (r1 : Int) (x3 : Int) (x4 : Int) (x5 : Str) (x6 : Str) (x7 : Str) (y2 : T_law15_Part) (x19 : Bool) : Prop :=
  cnd x19 (law15_Built_J4i Xr a0 a1 a2 r0 r1 x3 x4 x5 y2 (0 : Int) (0 : Int) x6 x7) (law15_Built_J4i Xr a0 a1 a2 r0 r1 x3 x4 x5 y2 (IntKind.i64.wrap (y2.Parts.tmod (3 : Int))) (0 : Int) x6 x7)
def law15_Built_J7i (Xr : (List T_law15_Part) → Int → Int → T_ref15_Expr → Int → Prop) (a0 : (List T_law15_Part)) (a1 : Int) (a2 : Int) (r0 : T_ref15_Expr) (r1 : Int) (x3 : Int) (x4 : Int) (x5 : Str) (x6 : Str) (x7 : Str) (y2 : T_law15_Part) (x18 : Bool) : Prop :=
  cnd x18 (law15_Built_J4i Xr a0 a1 a2 r0 r1 x3 x4 x5 y2 (1 : Int) (0 : Int) x6 x7) (cnd ((y2.Kind.tmod (10 : Int)) == (8 : Int)) (law15_Built_J4i Xr a0 a1 a2 r0 r1 x3 x4 x5 y2 (IntKind.i64.wrap (y2.Parts.tmod (2 : Int))) (IntKind.i64.wrap (y2.Op.tmod (6 : Int))) x6 x7) (cnd ((y2.Kind.tmod (10 : Int)) == (1 : Int)) (law15_Built_J8i Xr a0 a1 a2 r0 r1 x3 x4 x5 x6 x7 y2 ((y2.Kind.tmod (10 : Int)) == (1 : Int))) (law15_Built_J8i Xr a0 a1 a2 r0 r1 x3 x4 x5 x6 x7 y2 ((y2.Kind.tmod (10 : Int)) == (2 : Int)))))
def law15_Built_J3i (Xr : (List T_law15_Part) → Int → Int → T_ref15_Expr → Int → Prop) (a0 : (List T_law15_Part)) (a1 : Int) (a2 : Int) (r0 : T_ref15_Expr) (r1 : Int) (x3 : Int) (x4 : Int) (x5 : Str) (y2 : T_law15_Part) (x6 : Str) (x7 : Str) : Prop :=
  cnd ((y2.Kind.tmod (10 : Int)) == (3 : Int)) (law15_Built_J4i Xr a0 a1 a2 r0 r1 x3 x4 x5 y2 (2 : Int) (IntKind.i64.wrap (y2.Op.tmod (16 : Int))) x6 x7) (cnd ((y2.Kind.tmod (10 : Int)) == (4 : Int)) (law15_Built_J7i Xr a0 a1 a2 r0 r1 x3 x4 x5 x6 x7 y2 ((y2.Kind.tmod (10 : Int)) == (4 : Int))) (cnd ((y2.Kind.tmod (10 : Int)) == (5 : Int)) (law15_Built_J7i Xr a0 a1 a2 r0 r1 x3 x4 x5 x6 x7 y2 ((y2.Kind.tmod (10 : Int)) == (5 : Int))) (cnd ((y2.Kind.tmod (10 : Int)) == (6 : Int)) (law15_Built_J7i Xr a0 a1 a2 r0 r1 x3 x4 x5 x6 x7 y2 ((y2.Kind.tmod (10 : Int)) == (6 : Int))) (law15_Built_J7i Xr a0 a1 a2 r0 r1 x3 x4 x5 x6 x7 y2 ((y2.Kind.tmod (10 : Int)) == (7 : Int))))))
def law15_Built_J9i (Xr : (List T_law15_Part) → Int → Int → T_ref15_Expr → Int → Prop) (a0 : (List T_law15_Part)) (a1 : Int) (a2 : Int) (r0 : T_ref15_Expr) (r1 : Int) (x3 : Int) (x4 : Int) (x5 : Str) (y2 : T_law15_Part) (x20 : Bool) : Prop :=
  cnd x20 ((0 ≤ (0 : Int) ∧ (0 : Int) ≤ (if (20 : Int) < (y2.Name.length : Int) then (20 : Int) else (y2.Name.length : Int)) ∧ (if (20 : Int) < (y2.Name.length : Int) then (20 : Int) else (y2.Name.length : Int)) ≤ (y2.Name.length : Int)) ∧ (0 ≤ (0 : Int) ∧ (0 : Int) ≤ (if (20 : Int) < (y2.Table.length : Int) then (20 : Int) else (y2.Table.length : Int)) ∧ (if (20 : Int) < (y2.Table.length : Int) then (20 : Int) else (y2.Table.length : Int)) ≤ (y2.Table.length : Int)) ∧ law15_Built_J3i Xr a0 a1 a2 r0 r1 x3 x4 x5 y2 ((y2.Table.drop (0 : Int).toNat).take ((if (20 : Int) < (y2.Table.length : Int) then (20 : Int) else (y2.Table.length : Int)).toNat - (0 : Int).toNat)) ((y2.Name.drop (0 : Int).toNat).take ((if (20 : Int) < (y2.Name.length : Int) then (20 : Int) else (y2.Name.length : Int)).toNat - (0 : Int).toNat))) (law15_Built_J3i Xr a0 a1 a2 r0 r1 x3 x4 x5 y2 ([] : Str) ([] : Str))
def law15_Built_J2i (Xr : (List T_law15_Part) → Int → Int → T_ref15_Expr → Int → Prop) (a0 : (List T_law15_Part)) (a1 : Int) (a2 : Int) (r0 : T_ref15_Expr) (r1 : Int) (y2 : T_law15_Part) (x3 : Int) (x4 : Int) (x5 : Str) : Prop :=
  cnd ((y2.Kind.tmod (10 : Int)) == (2 : Int)) (law15_Built_J9i Xr a0 a1 a2 r0 r1 x3 x4 x5 y2 true) (law15_Built_J9i Xr a0 a1 a2 r0 r1 x3 x4 x5 y2 (decide ((250 : Int) ≤ y2.Kind)))
def law15_Built_J10i (Xr : (List T_law15_Part) → Int → Int → T_ref15_Expr → Int → Prop) (a0 : (List T_law15_Part)) (a1 : Int) (a2 : Int) (r0 : T_ref15_Expr) (r1 : Int) (y2 : T_law15_Part) (x21 : Bool) : Prop :=
  cnd x21 (cnd ((IntKind.i64.wrap (y2.Value.tmod (5 : Int))) == (1 : Int)) (law15_Built_J2i Xr a0 a1 a2 r0 r1 y2 (IntKind.i64.wrap (y2.Value.tmod (5 : Int))) (bits .and .i64 y2.N (1 : Int)) ([] : Str)) (cnd ((IntKind.i64.wrap (y2.Value.tmod (5 : Int))) == (2 : Int)) (law15_Built_J2i Xr a0 a1 a2 r0 r1 y2 (IntKind.i64.wrap (y2.Value.tmod (5 : Int))) y2.N ([] : Str)) (cnd ((IntKind.i64.wrap (y2.Value.tmod (5 : Int))) == (3 : Int)) ((0 ≤ (0 : Int) ∧ (0 : Int) ≤ (if (70 : Int) < (y2.Name.length : Int) then (70 : Int) else (y2.Name.length : Int)) ∧ (if (70 : Int) < (y2.Name.length : Int) then (70 : Int) else (y2.Name.length : Int)) ≤ (y2.Name.length : Int)) ∧ law15_Built_J2i Xr a0 a1 a2 r0 r1 y2 (IntKind.i64.wrap (y2.Value.tmod (5 : Int))) (0 : Int) ((y2.Name.drop (0 : Int).toNat).take ((if (70 : Int) < (y2.Name.length : Int) then (70 : Int) else (y2.Name.length : Int)).toNat - (0 : Int).toNat))) (law15_Built_J2i Xr a0 a1 a2 r0 r1 y2 (IntKind.i64.wrap (y2.Value.tmod (5 : Int))) (0 : Int) ([] : Str))))) (law15_Built_J2i Xr a0 a1 a2 r0 r1 y2 (0 : Int) (0 : Int) ([] : Str))
def law15_Built_J1i (Xr : (List T_law15_Part) → Int → Int → T_ref15_Expr → Int → Prop) (a0 : (List T_law15_Part)) (a1 : Int) (a2 : Int) (r0 : T_ref15_Expr) (r1 : Int) (x1 : Bool) : Prop :=
  cnd x1 ((T_ref15_Expr.mk (1 : Int) (0 : Int) (⟨(0 : Int), (0 : Int), ([] : Str)⟩ : T_ref06_Value) ([] : Str) ([] : Str) ([] : List T_ref15_Expr)) = r0 ∧ (IntKind.i64.wrap (a1 + (1 : Int))) = r1) ((0 ≤ a1) ∧ (a1 < (a0.length : Int)) ∧ ∃ y2 : T_law15_Part, (a0[a1.toNat]? = some y2) ∧ cnd ((y2.Kind.tmod (10 : Int)) == (1 : Int)) (law15_Built_J10i Xr a0 a1 a2 r0 r1 y2 true) (law15_Built_J10i Xr a0 a1 a2 r0 r1 y2 (decide ((250 : Int) ≤ y2.Kind))))
def law15_Built_Bi (Xr : (List T_law15_Part) → Int → Int → T_ref15_Expr → Int → Prop) (a0 : (List T_law15_Part)) (a1 : Int) (a2 : Int) (r0 : T_ref15_Expr) (r1 : Int) : Prop :=
  (a0.length ≤ maxLen → cnd (decide ((a0.length : Int) ≤ a1)) (law15_Built_J1i Xr a0 a1 a2 r0 r1 true) (law15_Built_J1i Xr a0 a1 a2 r0 r1 (decide ((24 : Int) < a2))))
theorem law15_Built_L6_m (Xr : (List T_law15_Part) → Int → Int → T_ref15_Expr → Int → Prop) (a0 : (List T_law15_Part)) (a2 : Int) (r0 : T_ref15_Expr) (r1 : Int) (x3 : Int) (x4 : Int) (x5 : Str) (x9 : Int) (x10 : Str) (x11 : Str) (x12 : Int) (y2 : T_law15_Part) {X6 : Int → Int → (List T_ref15_Expr) → Prop} {x13 : Int} {x14 : Int} {x15 : (List T_ref15_Expr)} (h : law15_Built_L6i Xr a0 a2 r0 r1 x3 x4 x5 x9 x10 x11 x12 y2 X6 x13 x14 x15) : law15_Built_L6 x12 Xr a0 a2 y2 x9 x3 x4 x5 x10 x11 r0 r1 X6 x13 x14 x15 := by
  unfold law15_Built_L6
  unfold law15_Built_L6i at h
  exact h
theorem law15_Built_J5_m (Xr : (List T_law15_Part) → Int → Int → T_ref15_Expr → Int → Prop) (a0 : (List T_law15_Part)) (a1 : Int) (a2 : Int) (r0 : T_ref15_Expr) (r1 : Int) (x3 : Int) (x4 : Int) (x5 : Str) (x9 : Int) (x10 : Str) (x11 : Str) (y2 : T_law15_Part) {x12 : Int} (h : law15_Built_J5i Xr a0 a1 a2 r0 r1 x3 x4 x5 x9 x10 x11 y2 x12) : law15_Built_J5 Xr a0 a2 y2 x9 x3 x4 x5 x10 x11 r0 r1 a1 x12 := by
  unfold law15_Built_J5
  unfold law15_Built_J5i at h
  intro X6 k
  exact h X6 (fun x13 x14 x15 q => k x13 x14 x15 (law15_Built_L6_m Xr a0 a2 r0 r1 x3 x4 x5 x9 x10 x11 x12 y2 q))
theorem law15_Built_J4_m (Xr : (List T_law15_Part) → Int → Int → T_ref15_Expr → Int → Prop) (a0 : (List T_law15_Part)) (a1 : Int) (a2 : Int) (r0 : T_ref15_Expr) (r1 : Int) (x3 : Int) (x4 : Int) (x5 : Str) (y2 : T_law15_Part) {x8 : Int} {x9 : Int} {x10 : Str} {x11 : Str} (h : law15_Built_J4i Xr a0 a1 a2 r0 r1 x3 x4 x5 y2 x8 x9 x10 x11) : law15_Built_J4 Xr a0 a2 y2 x3 x4 x5 r0 r1 a1 x8 x9 x10 x11 := by
  unfold law15_Built_J4
  unfold law15_Built_J4i at h
  intro J5 kJ5
  have hJ5 : ∀ (x12 : Int), law15_Built_J5i Xr a0 a1 a2 r0 r1 x3 x4 x5 x9 x10 x11 y2 x12 → J5 x12 := fun x12 q => kJ5 x12 (law15_Built_J5_m Xr a0 a1 a2 r0 r1 x3 x4 x5 x9 x10 x11 y2 q)
  refine cnd_mono h (fun h => ?_) (fun h => ?_)
  · exact hJ5 _ h
  · exact hJ5 _ h
theorem law15_Built_J8_m (J4 : Int → Int → Str → Str → Prop) (Xr : (List T_law15_Part) → Int → Int → T_ref15_Expr → Int → Prop) (a0 : (List T_law15_Part)) (a1 : Int) (a2 : Int) (r0 : T_ref15_Expr) (r1 : Int) (x3 : Int) (x4 : Int) (x5 : Str) (x6 : Str) (x7 : Str) (y2 : T_law15_Part) (hJ4 : ∀ (x8 : Int) (x9 : Int) (x10 : Str) (x11 : Str), law15_Built_J4i Xr a0 a1 a2 r0 r1 x3 x4 x5 y2 x8 x9 x10 x11 → J4 x8 x9 x10 x11) {x19 : Bool} (h : law15_Built_J8i Xr a0 a1 a2 r0 r1 x3 x4 x5 x6 x7 y2 x19) : law15_Built_J8 J4 x6 x7 y2 x19 := by
  unfold law15_Built_J8
  unfold law15_Built_J8i at h
  refine cnd_mono h (fun h => ?_) (fun h => ?_)
  · exact hJ4 _ _ _ _ h
  · exact hJ4 _ _ _ _ h
theorem law15_Built_J7_m (J4 : Int → Int → Str → Str → Prop) (Xr : (List T_law15_Part) → Int → Int → T_ref15_Expr → Int → Prop) (a0 : (List T_law15_Part)) (a1 : Int) (a2 : Int) (r0 : T_ref15_Expr) (r1 : Int) (x3 : Int) (x4 : Int) (x5 : Str) (x6 : Str) (x7 : Str) (y2 : T_law15_Part) (hJ4 : ∀ (x8 : Int) (x9 : Int) (x10 : Str) (x11 : Str), law15_Built_J4i Xr a0 a1 a2 r0 r1 x3 x4 x5 y2 x8 x9 x10 x11 → J4 x8 x9 x10 x11) {x18 : Bool} (h : law15_Built_J7i Xr a0 a1 a2 r0 r1 x3 x4 x5 x6 x7 y2 x18) : law15_Built_J7 J4 x6 x7 y2 x18 := by
  unfold law15_Built_J7
  unfold law15_Built_J7i at h
  refine cnd_mono h (fun h => ?_) (fun h => ?_)
  · exact hJ4 _ _ _ _ h
  · refine cnd_mono h (fun h => ?_) (fun h => ?_)
    · exact hJ4 _ _ _ _ h
    · intro J8 kJ8
      have hJ8 : ∀ (x19 : Bool), law15_Built_J8i Xr a0 a1 a2 r0 r1 x3 x4 x5 x6 x7 y2 x19 → J8 x19 := fun x19 q => kJ8 x19 (law15_Built_J8_m J4 Xr a0 a1 a2 r0 r1 x3 x4 x5 x6 x7 y2 hJ4 q)
      refine cnd_mono h (fun h => ?_) (fun h => ?_)
      · exact hJ8 _ h
      · exact hJ8 _ h
theorem law15_Built_J3_m (Xr : (List T_law15_Part) → Int → Int → T_ref15_Expr → Int → Prop) (a0 : (List T_law15_Part)) (a1 : Int) (a2 : Int) (r0 : T_ref15_Expr) (r1 : Int) (x3 : Int) (x4 : Int) (x5 : Str) (y2 : T_law15_Part) {x6 : Str} {x7 : Str} (h : law15_Built_J3i Xr a0 a1 a2 r0 r1 x3 x4 x5 y2 x6 x7) : law15_Built_J3 Xr a0 a2 y2 x3 x4 x5 r0 r1 a1 x6 x7 := by
  unfold law15_Built_J3
  unfold law15_Built_J3i at h
  intro J4 kJ4
  have hJ4 : ∀ (x8 : Int) (x9 : Int) (x10 : Str) (x11 : Str), law15_Built_J4i Xr a0 a1 a2 r0 r1 x3 x4 x5 y2 x8 x9 x10 x11 → J4 x8 x9 x10 x11 := fun x8 x9 x10 x11 q => kJ4 x8 x9 x10 x11 (law15_Built_J4_m Xr a0 a1 a2 r0 r1 x3 x4 x5 y2 q)
  refine cnd_mono h (fun h => ?_) (fun h => ?_)
  · exact hJ4 _ _ _ _ h
  · intro J7 kJ7
    have hJ7 : ∀ (x18 : Bool), law15_Built_J7i Xr a0 a1 a2 r0 r1 x3 x4 x5 x6 x7 y2 x18 → J7 x18 := fun x18 q => kJ7 x18 (law15_Built_J7_m J4 Xr a0 a1 a2 r0 r1 x3 x4 x5 x6 x7 y2 hJ4 q)
    refine cnd_mono h (fun h => ?_) (fun h => ?_)
    · exact hJ7 _ h
    · refine cnd_mono h (fun h => ?_) (fun h => ?_)
      · exact hJ7 _ h
      · refine cnd_mono h (fun h => ?_) (fun h => ?_)
        · exact hJ7 _ h
        · exact hJ7 _ h
theorem law15_Built_J9_m (J3 : Str → Str → Prop) (Xr : (List T_law15_Part) → Int → Int → T_ref15_Expr → Int → Prop) (a0 : (List T_law15_Part)) (a1 : Int) (a2 : Int) (r0 : T_ref15_Expr) (r1 : Int) (x3 : Int) (x4 : Int) (x5 : Str) (y2 : T_law15_Part) (hJ3 : ∀ (x6 : Str) (x7 : Str), law15_Built_J3i Xr a0 a1 a2 r0 r1 x3 x4 x5 y2 x6 x7 → J3 x6 x7) {x20 : Bool} (h : law15_Built_J9i Xr a0 a1 a2 r0 r1 x3 x4 x5 y2 x20) : law15_Built_J9 y2 J3 x20 := by
  unfold law15_Built_J9
  unfold law15_Built_J9i at h
  refine cnd_mono h (fun h => ?_) (fun h => ?_)
  · obtain ⟨h0, h⟩ := h
    refine ⟨h0, ?_⟩
    obtain ⟨h0, h⟩ := h
    refine ⟨h0, ?_⟩
    exact hJ3 _ _ h
  · exact hJ3 _ _ h
theorem law15_Built_J2_m (Xr : (List T_law15_Part) → Int → Int → T_ref15_Expr → Int → Prop) (a0 : (List T_law15_Part)) (a1 : Int) (a2 : Int) (r0 : T_ref15_Expr) (r1 : Int) (y2 : T_law15_Part) {x3 : Int} {x4 : Int} {x5 : Str} (h : law15_Built_J2i Xr a0 a1 a2 r0 r1 y2 x3 x4 x5) : law15_Built_J2 Xr a0 a2 y2 r0 r1 a1 x3 x4 x5 := by
  unfold law15_Built_J2
  unfold law15_Built_J2i at h
  intro J3 kJ3
  have hJ3 : ∀ (x6 : Str) (x7 : Str), law15_Built_J3i Xr a0 a1 a2 r0 r1 x3 x4 x5 y2 x6 x7 → J3 x6 x7 := fun x6 x7 q => kJ3 x6 x7 (law15_Built_J3_m Xr a0 a1 a2 r0 r1 x3 x4 x5 y2 q)
  intro J9 kJ9
  have hJ9 : ∀ (x20 : Bool), law15_Built_J9i Xr a0 a1 a2 r0 r1 x3 x4 x5 y2 x20 → J9 x20 := fun x20 q => kJ9 x20 (law15_Built_J9_m J3 Xr a0 a1 a2 r0 r1 x3 x4 x5 y2 hJ3 q)
  refine cnd_mono h (fun h => ?_) (fun h => ?_)
  · exact hJ9 _ h
  · exact hJ9 _ h
theorem law15_Built_J10_m (J2 : Int → Int → Str → Prop) (Xr : (List T_law15_Part) → Int → Int → T_ref15_Expr → Int → Prop) (a0 : (List T_law15_Part)) (a1 : Int) (a2 : Int) (r0 : T_ref15_Expr) (r1 : Int) (y2 : T_law15_Part) (hJ2 : ∀ (x3 : Int) (x4 : Int) (x5 : Str), law15_Built_J2i Xr a0 a1 a2 r0 r1 y2 x3 x4 x5 → J2 x3 x4 x5) {x21 : Bool} (h : law15_Built_J10i Xr a0 a1 a2 r0 r1 y2 x21) : law15_Built_J10 y2 J2 x21 := by
  unfold law15_Built_J10
  unfold law15_Built_J10i at h
  refine cnd_mono h (fun h => ?_) (fun h => ?_)
  · refine cnd_mono h (fun h => ?_) (fun h => ?_)
    · exact hJ2 _ _ _ h
    · refine cnd_mono h (fun h => ?_) (fun h => ?_)
      · exact hJ2 _ _ _ h
      · refine cnd_mono h (fun h => ?_) (fun h => ?_)
        · obtain ⟨h0, h⟩ := h
          refine ⟨h0, ?_⟩
          exact hJ2 _ _ _ h
        · exact hJ2 _ _ _ h
  · exact hJ2 _ _ _ h
theorem law15_Built_J1_m (Xr : (List T_law15_Part) → Int → Int → T_ref15_Expr → Int → Prop) (a0 : (List T_law15_Part)) (a1 : Int) (a2 : Int) (r0 : T_ref15_Expr) (r1 : Int) {x1 : Bool} (h : law15_Built_J1i Xr a0 a1 a2 r0 r1 x1) : law15_Built_J1 r0 a1 r1 a0 Xr a2 x1 := by
  unfold law15_Built_J1
  unfold law15_Built_J1i at h
  refine cnd_mono h (fun h => ?_) (fun h => ?_)
  · exact h
  · obtain ⟨h0, h⟩ := h
    refine ⟨h0, ?_⟩
    obtain ⟨h0, h⟩ := h
    refine ⟨h0, ?_⟩
    obtain ⟨y2, h⟩ := h
    refine ⟨y2, ?_⟩
    obtain ⟨h0, h⟩ := h
    refine ⟨h0, ?_⟩
    intro J2 kJ2
    have hJ2 : ∀ (x3 : Int) (x4 : Int) (x5 : Str), law15_Built_J2i Xr a0 a1 a2 r0 r1 y2 x3 x4 x5 → J2 x3 x4 x5 := fun x3 x4 x5 q => kJ2 x3 x4 x5 (law15_Built_J2_m Xr a0 a1 a2 r0 r1 y2 q)
    intro J10 kJ10
    have hJ10 : ∀ (x21 : Bool), law15_Built_J10i Xr a0 a1 a2 r0 r1 y2 x21 → J10 x21 := fun x21 q => kJ10 x21 (law15_Built_J10_m J2 Xr a0 a1 a2 r0 r1 y2 hJ2 q)
    refine cnd_mono h (fun h => ?_) (fun h => ?_)
    · exact hJ10 _ h
    · exact hJ10 _ h
theorem law15_Built_Bm (Xr : (List T_law15_Part) → Int → Int → T_ref15_Expr → Int → Prop) (a0 : (List T_law15_Part)) (a1 : Int) (a2 : Int) (r0 : T_ref15_Expr) (r1 : Int) (h : law15_Built_Bi Xr a0 a1 a2 r0 r1) : law15_Built_B Xr a0 a1 a2 r0 r1 := by
  unfold law15_Built_B
  unfold law15_Built_Bi at h
  intro J1 kJ1
  have hJ1 : ∀ (x1 : Bool), law15_Built_J1i Xr a0 a1 a2 r0 r1 x1 → J1 x1 := fun x1 q => kJ1 x1 (law15_Built_J1_m Xr a0 a1 a2 r0 r1 q)
  intro c
  replace h := h c
  refine cnd_mono h (fun h => ?_) (fun h => ?_)
  · exact hJ1 _ h
  · exact hJ1 _ h
theorem law15_Built_i (a0 : (List T_law15_Part)) (a1 : Int) (a2 : Int) (r0 : T_ref15_Expr) (r1 : Int) (h : ∀ Xr : (List T_law15_Part) → Int → Int → T_ref15_Expr → Int → Prop, (∀ (a0 : (List T_law15_Part)) (a1 : Int) (a2 : Int) (r0 : T_ref15_Expr) (r1 : Int), law15_Built_Bi Xr a0 a1 a2 r0 r1 → Xr a0 a1 a2 r0 r1) → Xr a0 a1 a2 r0 r1) : law15_Built_o a0 a1 a2 r0 r1 := fun Xr k => h Xr fun a0 a1 a2 r0 r1 q => k a0 a1 a2 r0 r1 (law15_Built_Bm Xr a0 a1 a2 r0 r1 q)
noncomputable def law15_Built_sp : Sp KK := ⟨8, [.v 22, .v 3, .v 3], [28, 3], appW (K := KK) [28, 3] [.v 22, .v 3, .v 3] law15_Built_o⟩
noncomputable def law15_Built_an : An KK := (.s .o (.s (.j ⟨[(0, .kp 12), (1, .kp 13), (2, .kp 14), (6, .px 6 0), (21, .bl)], [(6, 28, [.kp 15, .kp 16, .kp 17, .kp 18, .kp 19, .kp 20, .kp 21, .kp 22])], []⟩ .o (fun _ => (.c (.s .o .o) .o))) (.s .o (.s .o (.s .o (.j ⟨[(0, .kp 12), (2, .kp 14), (6, .px 6 0), (8, .px 8 0), (9, .px 9 0), (10, .kp 23)], [(6, 28, [.kp 15, .kp 16, .kp 17, .kp 18, .kp 19, .kp 20, .kp 21, .kp 22]), (8, 65, [.kp 24, .kp 25, .kp 26, .kp 27, .kp 28, .kp 29, .kp 30]), (9, 28, [.kp 31, .kp 32, .it .i64, .it .i64, .st, .kp 36, .kp 37, .kp 38])], []⟩ (.j ⟨[(0, .kp 12), (2, .kp 14), (6, .px 6 0), (8, .px 8 0), (9, .px 9 0), (10, .kp 23), (44, .bl)], [(6, 28, [.kp 15, .kp 16, .kp 17, .kp 18, .kp 19, .kp 20, .kp 21, .kp 22]), (8, 65, [.kp 24, .kp 25, .kp 26, .kp 27, .kp 28, .kp 29, .kp 30]), (9, 28, [.kp 31, .kp 32, .kp 64, .kp 65, .kp 66, .kp 36, .kp 37, .kp 38])], []⟩ .o (fun _ => (.c (.s .o (.s .o (.b (.s .o (.c .o (.s .o (.c .o (.s .o (.c .o .o))))))))) .o))) (fun _ => (.j ⟨[(0, .kp 12), (2, .kp 14), (6, .px 6 0), (8, .px 8 0), (9, .px 9 0), (10, .kp 23)], [(6, 28, [.kp 15, .kp 16, .kp 17, .kp 18, .kp 19, .kp 20, .kp 21, .kp 22]), (8, 65, [.kp 24, .kp 25, .kp 26, .kp 27, .kp 28, .kp 29, .kp 30]), (9, 28, [.kp 31, .kp 32, .kp 42, .kp 43, .kp 44, .st, .st, .kp 38])], []⟩ (.j ⟨[(0, .kp 12), (2, .kp 14), (6, .px 6 0), (8, .px 8 0), (9, .px 9 0), (10, .kp 23), (86, .bl)], [(6, 28, [.kp 15, .kp 16, .kp 17, .kp 18, .kp 19, .kp 20, .kp 21, .kp 22]), (8, 65, [.kp 24, .kp 25, .kp 26, .kp 27, .kp 28, .kp 29, .kp 30]), (9, 28, [.kp 31, .kp 32, .kp 42, .kp 43, .kp 44, .kp 36, .kp 37, .kp 38])], []⟩ .o (fun _ => (.c .o .o))) (fun _ => (.s .o (.j ⟨[(0, .kp 12), (2, .kp 14), (6, .px 6 0), (8, .px 8 0), (9, .px 9 0), (10, .kp 23), (11, .it .i64)], [(6, 28, [.kp 15, .kp 16, .kp 17, .kp 18, .kp 19, .kp 20, .kp 21, .kp 22]), (8, 65, [.kp 24, .kp 25, .kp 26, .kp 27, .kp 28, .kp 29, .kp 30]), (9, 28, [.kp 31, .it .i64, .kp 42, .kp 43, .kp 44, .st, .st, .kp 38])], []⟩ (.s .o (.b (.s .o (.c .o (.j ⟨[(0, .kp 12), (2, .kp 14), (6, .px 6 0), (8, .px 8 0), (9, .px 9 0), (10, .kp 23), (11, .kp 60), (109, .kp 61), (117, .bl)], [(6, 28, [.kp 15, .kp 16, .kp 17, .kp 18, .kp 19, .kp 20, .kp 21, .kp 22]), (8, 65, [.kp 24, .kp 25, .kp 26, .kp 27, .kp 28, .kp 29, .kp 30]), (9, 28, [.kp 31, .kp 32, .kp 42, .kp 43, .kp 44, .kp 62, .kp 63, .kp 38])], []⟩ (.s .o (.c .o (.s .o (.c .o (.s .o (.c .o .o)))))) (fun _ => (.c .o (.s .o (.c (.s .o .o) (.j ⟨[(0, .kp 12), (2, .kp 14), (6, .px 6 0), (8, .px 8 0), (9, .px 9 0), (10, .kp 23), (11, .kp 60), (133, .bl)], [(6, 28, [.kp 15, .kp 16, .kp 17, .kp 18, .kp 19, .kp 20, .kp 21, .kp 22]), (8, 65, [.kp 24, .kp 25, .kp 26, .kp 27, .kp 28, .kp 29, .kp 30]), (9, 28, [.kp 31, .kp 32, .kp 42, .kp 43, .kp 44, .kp 62, .kp 63, .kp 38])], []⟩ (.s .o (.c .o .o)) (fun _ => (.c .o .o)))))))))))) (fun _ => (.j ⟨[(0, .kp 12), (2, .kp 14), (6, .px 6 0), (9, .px 9 0), (10, .kp 23), (11, .it .i64)], [(6, 28, [.kp 15, .kp 16, .kp 17, .kp 18, .kp 19, .kp 20, .kp 21, .kp 22]), (9, 28, [.kp 31, .kp 53, .kp 42, .kp 43, .kp 44, .kp 54, .kp 55, .kp 38])], []⟩ (.s .o (.c .o .o)) (fun _ => (.s (.s .o (.b (.l ⟨[(0, .kp 12), (2, .kp 14), (6, .px 6 0), (9, .px 9 0), (10, .it .i64), (11, .kp 58), (12, .it .i64)], [(6, 28, [.kp 15, .kp 16, .kp 17, .kp 18, .kp 19, .kp 20, .kp 21, .kp 22]), (9, 28, [.kp 31, .kp 53, .kp 42, .kp 43, .kp 44, .kp 54, .kp 55, .row 160])], [(160, 28)]⟩ (fun _ => (.s (.s .o (.c .o .o)) (.s (.b (.s .o (.s .o .o))) .o)))))) (.s .o .o))))))))))))))))
noncomputable def law15_Built_cf (Xr : WTy KK [28, 3] [.v 22, .v 3, .v 3]) : Cf KK := ⟨CC, [⟨8, [.v 22, .v 3, .v 3], [28, 3], appW (K := KK) [28, 3] [.v 22, .v 3, .v 3] Xr⟩], 164⟩

set_option maxRecDepth 100000 in
theorem law15_Built_okB (Xr : (List T_law15_Part) → Int → Int → T_ref15_Expr → Int → Prop) (hX : ∀ (a0 : (List T_law15_Part)) (a1 : Int) (a2 : Int) (r0 : T_ref15_Expr) (r1 : Int), Xr a0 a1 a2 r0 r1 → Pure Tryd.prog 8 (pencs CC [.v 22, .v 3, .v 3] ([.d (.v 22 a0), .d (.v 3 a1), .d (.v 3 a2)] : List (AD KK))) (tresA (([.v 28 r0, .v 3 r1] : List (DV KK)).map (dvA CC)))) : ∀ (a0 : (List T_law15_Part)) (a1 : Int) (a2 : Int) (r0 : T_ref15_Expr) (r1 : Int), law15_Built_B Xr a0 a1 a2 r0 r1 → Pure Tryd.prog 8 (pencs CC [.v 22, .v 3, .v 3] ([.d (.v 22 a0), .d (.v 3 a1), .d (.v 3 a2)] : List (AD KK))) (tresA (([.v 28 r0, .v 3 r1] : List (DV KK)).map (dvA CC))) := by
  intro a0 a1 a2 r0 r1 h
  refine DnF_by (F := law15_Built_cf Xr) CC_ok (SsOk_c ?_ SsOk_n) t8 (A := law15_Built_an) (ps := [.v 22, .v 3, .v 3]) (rs := [28, 3]) (env := [.d (.v 22 a0), .d (.v 3 a1), .d (.v 3 a2)]) (r := [.v 28 r0, .v 3 r1]) (X := law15_Built_B Xr a0 a1 a2 r0 r1) rfl (Nat.le_of_ble_eq_true rfl) rfl (fun G hG => by simp at hG) h ?_
  · clear h r0 r1
    intro env r hF h
    obtain ⟨a0, env0, rfl, h1⟩ := appW_v h
    obtain ⟨a1, env1, rfl, h2⟩ := appW_v h1
    obtain ⟨a2, env2, rfl, h3⟩ := appW_v h2
    obtain ⟨rfl, h4⟩ := appW_n h3
    obtain ⟨r0, rr0, rfl, h5⟩ := apR_v h4
    obtain ⟨r1, rr1, rfl, h6⟩ := apR_v h5
    obtain ⟨rfl, h7⟩ := apR_n h6
    exact ⟨rfl, hX a0 a1 a2 r0 r1 h7⟩
  · kernel_rfl
set_option maxRecDepth 100000 in
theorem law15_Built_ok : SpOk Tryd.prog CC law15_Built_sp := by
  intro env r hF h
  obtain ⟨a0, env0, rfl, h1⟩ := appW_v h
  obtain ⟨a1, env1, rfl, h2⟩ := appW_v h1
  obtain ⟨a2, env2, rfl, h3⟩ := appW_v h2
  obtain ⟨rfl, h4⟩ := appW_n h3
  obtain ⟨r0, rr0, rfl, h5⟩ := apR_v h4
  obtain ⟨r1, rr1, rfl, h6⟩ := apR_v h5
  obtain ⟨rfl, h7⟩ := apR_n h6
  exact ⟨rfl, h7 (fun a0 a1 a2 r0 r1 =>  Pure Tryd.prog 8 (pencs CC [.v 22, .v 3, .v 3] ([.d (.v 22 a0), .d (.v 3 a1), .d (.v 3 a2)] : List (AD KK))) (tresA (([.v 28 r0, .v 3 r1] : List (DV KK)).map (dvA CC)))) (fun a0 a1 a2 r0 r1 h => law15_Built_okB _ (fun a0 a1 a2 r0 r1 h => h) a0 a1 a2 r0 r1 h)⟩

def law15_told_L1 (a0 : T_ref15_Expr) (Xr : T_ref15_Expr → T_expr_Expr → Prop) (r0 : T_expr_Expr) (X1 : Int → (List T_expr_Expr) → Prop) (x1 : Int) (x2 : (List T_expr_Expr)) : Prop :=
  (a0.L.length ≤ maxLen → cnd (decide (x1 < (a0.L.length : Int))) ((0 ≤ x1) ∧ (x1 < (a0.L.length : Int)) ∧ ∃ y3 : T_ref15_Expr, (a0.L[x1.toNat]? = some y3) ∧ ∃ z4 : T_expr_Expr, (Xr (T_ref15_Expr.mk y3.Kind y3.Op (⟨y3.V.Kind, y3.V.N, y3.V.S⟩ : T_ref06_Value) y3.Table y3.Name y3.L) z4) ∧ (x2.length ≤ 1000000000) ∧ X1 (IntKind.i64.wrap (x1 + (1 : Int))) (x2 ++ ([(T_expr_Expr.mk z4.Kind z4.Op (⟨z4.V.Kind, z4.V.N, z4.V.S⟩ : T_value_Value) z4.Table z4.Name z4.L)] : List T_expr_Expr))) ((T_expr_Expr.mk a0.Kind a0.Op (⟨a0.V.Kind, a0.V.N, a0.V.S⟩ : T_value_Value) a0.Table a0.Name x2) = r0))
def law15_told_B (Xr : T_ref15_Expr → T_expr_Expr → Prop) (a0 : T_ref15_Expr) (r0 : T_expr_Expr) : Prop :=
  ∀ X1 : Int → (List T_expr_Expr) → Prop, (∀ (x1 : Int) (x2 : (List T_expr_Expr)), law15_told_L1 a0 Xr r0 X1 x1 x2 → X1 x1 x2) → X1 (0 : Int) ([] : List T_expr_Expr)
def law15_told_o (a0 : T_ref15_Expr) (r0 : T_expr_Expr) : Prop := ∀ Xr : T_ref15_Expr → T_expr_Expr → Prop, (∀ (a0 : T_ref15_Expr) (r0 : T_expr_Expr), law15_told_B Xr a0 r0 → Xr a0 r0) → Xr a0 r0
def law15_told_L1i (Xr : T_ref15_Expr → T_expr_Expr → Prop) (a0 : T_ref15_Expr) (r0 : T_expr_Expr) (X1 : Int → (List T_expr_Expr) → Prop) (x1 : Int) (x2 : (List T_expr_Expr)) : Prop :=
  (a0.L.length ≤ maxLen → cnd (decide (x1 < (a0.L.length : Int))) ((0 ≤ x1) ∧ (x1 < (a0.L.length : Int)) ∧ ∃ y3 : T_ref15_Expr, (a0.L[x1.toNat]? = some y3) ∧ ∃ z4 : T_expr_Expr, (Xr (T_ref15_Expr.mk y3.Kind y3.Op (⟨y3.V.Kind, y3.V.N, y3.V.S⟩ : T_ref06_Value) y3.Table y3.Name y3.L) z4) ∧ (x2.length ≤ 1000000000) ∧ X1 (IntKind.i64.wrap (x1 + (1 : Int))) (x2 ++ ([(T_expr_Expr.mk z4.Kind z4.Op (⟨z4.V.Kind, z4.V.N, z4.V.S⟩ : T_value_Value) z4.Table z4.Name z4.L)] : List T_expr_Expr))) ((T_expr_Expr.mk a0.Kind a0.Op (⟨a0.V.Kind, a0.V.N, a0.V.S⟩ : T_value_Value) a0.Table a0.Name x2) = r0))
def law15_told_Bi (Xr : T_ref15_Expr → T_expr_Expr → Prop) (a0 : T_ref15_Expr) (r0 : T_expr_Expr) : Prop :=
  ∀ X1 : Int → (List T_expr_Expr) → Prop, (∀ (x1 : Int) (x2 : (List T_expr_Expr)), law15_told_L1i Xr a0 r0 X1 x1 x2 → X1 x1 x2) → X1 (0 : Int) ([] : List T_expr_Expr)
theorem law15_told_L1_m (Xr : T_ref15_Expr → T_expr_Expr → Prop) (a0 : T_ref15_Expr) (r0 : T_expr_Expr) {X1 : Int → (List T_expr_Expr) → Prop} {x1 : Int} {x2 : (List T_expr_Expr)} (h : law15_told_L1i Xr a0 r0 X1 x1 x2) : law15_told_L1 a0 Xr r0 X1 x1 x2 := by
  unfold law15_told_L1
  unfold law15_told_L1i at h
  exact h
theorem law15_told_Bm (Xr : T_ref15_Expr → T_expr_Expr → Prop) (a0 : T_ref15_Expr) (r0 : T_expr_Expr) (h : law15_told_Bi Xr a0 r0) : law15_told_B Xr a0 r0 := by
  unfold law15_told_B
  unfold law15_told_Bi at h
  intro X1 k
  exact h X1 (fun x1 x2 q => k x1 x2 (law15_told_L1_m Xr a0 r0 q))
theorem law15_told_i (a0 : T_ref15_Expr) (r0 : T_expr_Expr) (h : ∀ Xr : T_ref15_Expr → T_expr_Expr → Prop, (∀ (a0 : T_ref15_Expr) (r0 : T_expr_Expr), law15_told_Bi Xr a0 r0 → Xr a0 r0) → Xr a0 r0) : law15_told_o a0 r0 := fun Xr k => h Xr fun a0 r0 q => k a0 r0 (law15_told_Bm Xr a0 r0 q)
noncomputable def law15_told_sp : Sp KK := ⟨9, [.v 28], [34], appW (K := KK) [34] [.v 28] law15_told_o⟩
noncomputable def law15_told_an : An KK := (.s .o (.s .o (.s (.s .o (.b (.l ⟨[(1, .px 1 0), (2, .px 2 0), (3, .px 3 0), (4, .it .i64)], [(1, 28, [.kp 27, .kp 28, .kp 29, .kp 30, .kp 31, .kp 32, .kp 33, .kp 34]), (2, 34, [.kp 35, .kp 36, .kp 37, .kp 38, .kp 39, .kp 40, .kp 41, .kp 42]), (3, 34, [.kp 43, .kp 44, .kp 45, .kp 46, .kp 47, .kp 48, .kp 49, .row 32])], [(32, 34)]⟩ (fun _ => (.s (.s .o (.c .o .o)) (.s (.b .o) .o)))))) (.s .o .o))))
noncomputable def law15_told_cf (Xr : WTy KK [34] [.v 28]) : Cf KK := ⟨CC, [⟨9, [.v 28], [34], appW (K := KK) [34] [.v 28] Xr⟩], 35⟩

set_option maxRecDepth 100000 in
theorem law15_told_okB (Xr : T_ref15_Expr → T_expr_Expr → Prop) (hX : ∀ (a0 : T_ref15_Expr) (r0 : T_expr_Expr), Xr a0 r0 → Pure Tryd.prog 9 (pencs CC [.v 28] ([.d (.v 28 a0)] : List (AD KK))) (tresA (([.v 34 r0] : List (DV KK)).map (dvA CC)))) : ∀ (a0 : T_ref15_Expr) (r0 : T_expr_Expr), law15_told_B Xr a0 r0 → Pure Tryd.prog 9 (pencs CC [.v 28] ([.d (.v 28 a0)] : List (AD KK))) (tresA (([.v 34 r0] : List (DV KK)).map (dvA CC))) := by
  intro a0 r0 h
  refine DnF_by (F := law15_told_cf Xr) CC_ok (SsOk_c ?_ SsOk_n) t9 (A := law15_told_an) (ps := [.v 28]) (rs := [34]) (env := [.d (.v 28 a0)]) (r := [.v 34 r0]) (X := law15_told_B Xr a0 r0) rfl (Nat.le_of_ble_eq_true rfl) rfl (fun G hG => by simp at hG) h ?_
  · clear h r0
    intro env r hF h
    obtain ⟨a0, env0, rfl, h1⟩ := appW_v h
    obtain ⟨rfl, h2⟩ := appW_n h1
    obtain ⟨r0, rr0, rfl, h3⟩ := apR_v h2
    obtain ⟨rfl, h4⟩ := apR_n h3
    exact ⟨rfl, hX a0 r0 h4⟩
  · kernel_rfl
set_option maxRecDepth 100000 in
theorem law15_told_ok : SpOk Tryd.prog CC law15_told_sp := by
  intro env r hF h
  obtain ⟨a0, env0, rfl, h1⟩ := appW_v h
  obtain ⟨rfl, h2⟩ := appW_n h1
  obtain ⟨r0, rr0, rfl, h3⟩ := apR_v h2
  obtain ⟨rfl, h4⟩ := apR_n h3
  exact ⟨rfl, h4 (fun a0 r0 =>  Pure Tryd.prog 9 (pencs CC [.v 28] ([.d (.v 28 a0)] : List (AD KK))) (tresA (([.v 34 r0] : List (DV KK)).map (dvA CC)))) (fun a0 r0 h => law15_told_okB _ (fun a0 r0 h => h) a0 r0 h)⟩

def law15_ExprShown_J1 (r0 : Bool) (z6 : T_expr_Expr) (z7 : T_expr_Expr) (x8 : Bool) : Prop :=
  cnd x8 (true = r0) (∃ z9 : Str, (expr_Show_o (T_expr_Expr.mk z6.Kind z6.Op (⟨z6.V.Kind, z6.V.N, z6.V.S⟩ : T_value_Value) z6.Table z6.Name z6.L) z9) ∧ ∃ z10 : Str, (expr_Show_o (T_expr_Expr.mk z7.Kind z7.Op (⟨z7.V.Kind, z7.V.N, z7.V.S⟩ : T_value_Value) z7.Table z7.Name z7.L) z10) ∧ ∃ z11 : Bool, (expr_Same_o (T_expr_Expr.mk z6.Kind z6.Op (⟨z6.V.Kind, z6.V.N, z6.V.S⟩ : T_value_Value) z6.Table z6.Name z6.L) (T_expr_Expr.mk z7.Kind z7.Op (⟨z7.V.Kind, z7.V.N, z7.V.S⟩ : T_value_Value) z7.Table z7.Name z7.L) z11) ∧ cnd ((z9 == z10) == z11) (∃ z12 : Str, (expr_Show_o (T_expr_Expr.mk z6.Kind z6.Op (⟨z6.V.Kind, z6.V.N, z6.V.S⟩ : T_value_Value) z6.Table z6.Name z6.L) z12) ∧ (!(z12 == ([] : Str))) = r0) (false = r0))
def law15_ExprShown_o (a0 : (List T_law15_Part)) (a1 : (List T_law15_Part)) (r0 : Bool) : Prop :=
  ∃ z1 : Bool, (law15_speaks_o z1) ∧ cnd (!z1) (false = r0) ((a0.length ≤ maxLen → (0 ≤ (0 : Int) ∧ (0 : Int) ≤ (if (30 : Int) < (a0.length : Int) then (30 : Int) else (a0.length : Int)) ∧ (if (30 : Int) < (a0.length : Int) then (30 : Int) else (a0.length : Int)) ≤ (a0.length : Int)) ∧ ∃ z2 : T_ref15_Expr, ∃ z3 : Int, (law15_Built_o (tslice a0 (0 : Int) (if (30 : Int) < (a0.length : Int) then (30 : Int) else (a0.length : Int))) (0 : Int) (0 : Int) z2 z3) ∧ (a1.length ≤ maxLen → (0 ≤ (0 : Int) ∧ (0 : Int) ≤ (if (30 : Int) < (a1.length : Int) then (30 : Int) else (a1.length : Int)) ∧ (if (30 : Int) < (a1.length : Int) then (30 : Int) else (a1.length : Int)) ≤ (a1.length : Int)) ∧ ∃ z4 : T_ref15_Expr, ∃ z5 : Int, (law15_Built_o (tslice a1 (0 : Int) (if (30 : Int) < (a1.length : Int) then (30 : Int) else (a1.length : Int))) (0 : Int) (0 : Int) z4 z5) ∧ ∃ z6 : T_expr_Expr, (law15_told_o (T_ref15_Expr.mk z2.Kind z2.Op (⟨z2.V.Kind, z2.V.N, z2.V.S⟩ : T_ref06_Value) z2.Table z2.Name z2.L) z6) ∧ ∃ z7 : T_expr_Expr, (law15_told_o (T_ref15_Expr.mk z4.Kind z4.Op (⟨z4.V.Kind, z4.V.N, z4.V.S⟩ : T_ref06_Value) z4.Table z4.Name z4.L) z7) ∧ ∀ J1 : Bool → Prop, (∀ (x8 : Bool), law15_ExprShown_J1 r0 z6 z7 x8 → J1 x8) → ∃ z13 : Bool, (expr_Good_o (T_expr_Expr.mk z6.Kind z6.Op (⟨z6.V.Kind, z6.V.N, z6.V.S⟩ : T_value_Value) z6.Table z6.Name z6.L) z13) ∧ cnd (!z13) (J1 true) (∃ z14 : Bool, (expr_Good_o (T_expr_Expr.mk z7.Kind z7.Op (⟨z7.V.Kind, z7.V.N, z7.V.S⟩ : T_value_Value) z7.Table z7.Name z7.L) z14) ∧ J1 (!z14)))))
def law15_ExprShown_J1i (r0 : Bool) (z6 : T_expr_Expr) (z7 : T_expr_Expr) (x8 : Bool) : Prop :=
  cnd x8 (true = r0) (∃ z9 : Str, (expr_Show_o (T_expr_Expr.mk z6.Kind z6.Op (⟨z6.V.Kind, z6.V.N, z6.V.S⟩ : T_value_Value) z6.Table z6.Name z6.L) z9) ∧ ∃ z10 : Str, (expr_Show_o (T_expr_Expr.mk z7.Kind z7.Op (⟨z7.V.Kind, z7.V.N, z7.V.S⟩ : T_value_Value) z7.Table z7.Name z7.L) z10) ∧ ∃ z11 : Bool, (expr_Same_o (T_expr_Expr.mk z6.Kind z6.Op (⟨z6.V.Kind, z6.V.N, z6.V.S⟩ : T_value_Value) z6.Table z6.Name z6.L) (T_expr_Expr.mk z7.Kind z7.Op (⟨z7.V.Kind, z7.V.N, z7.V.S⟩ : T_value_Value) z7.Table z7.Name z7.L) z11) ∧ cnd ((z9 == z10) == z11) (∃ z12 : Str, (expr_Show_o (T_expr_Expr.mk z6.Kind z6.Op (⟨z6.V.Kind, z6.V.N, z6.V.S⟩ : T_value_Value) z6.Table z6.Name z6.L) z12) ∧ (!(z12 == ([] : Str))) = r0) (false = r0))
def law15_ExprShown_oi (a0 : (List T_law15_Part)) (a1 : (List T_law15_Part)) (r0 : Bool) : Prop :=
  ∃ z1 : Bool, (law15_speaks_o z1) ∧ cnd (!z1) (false = r0) ((a0.length ≤ maxLen → (0 ≤ (0 : Int) ∧ (0 : Int) ≤ (if (30 : Int) < (a0.length : Int) then (30 : Int) else (a0.length : Int)) ∧ (if (30 : Int) < (a0.length : Int) then (30 : Int) else (a0.length : Int)) ≤ (a0.length : Int)) ∧ ∃ z2 : T_ref15_Expr, ∃ z3 : Int, (law15_Built_o (tslice a0 (0 : Int) (if (30 : Int) < (a0.length : Int) then (30 : Int) else (a0.length : Int))) (0 : Int) (0 : Int) z2 z3) ∧ (a1.length ≤ maxLen → (0 ≤ (0 : Int) ∧ (0 : Int) ≤ (if (30 : Int) < (a1.length : Int) then (30 : Int) else (a1.length : Int)) ∧ (if (30 : Int) < (a1.length : Int) then (30 : Int) else (a1.length : Int)) ≤ (a1.length : Int)) ∧ ∃ z4 : T_ref15_Expr, ∃ z5 : Int, (law15_Built_o (tslice a1 (0 : Int) (if (30 : Int) < (a1.length : Int) then (30 : Int) else (a1.length : Int))) (0 : Int) (0 : Int) z4 z5) ∧ ∃ z6 : T_expr_Expr, (law15_told_o (T_ref15_Expr.mk z2.Kind z2.Op (⟨z2.V.Kind, z2.V.N, z2.V.S⟩ : T_ref06_Value) z2.Table z2.Name z2.L) z6) ∧ ∃ z7 : T_expr_Expr, (law15_told_o (T_ref15_Expr.mk z4.Kind z4.Op (⟨z4.V.Kind, z4.V.N, z4.V.S⟩ : T_ref06_Value) z4.Table z4.Name z4.L) z7) ∧ ∃ z13 : Bool, (expr_Good_o (T_expr_Expr.mk z6.Kind z6.Op (⟨z6.V.Kind, z6.V.N, z6.V.S⟩ : T_value_Value) z6.Table z6.Name z6.L) z13) ∧ cnd (!z13) (law15_ExprShown_J1i r0 z6 z7 true) (∃ z14 : Bool, (expr_Good_o (T_expr_Expr.mk z7.Kind z7.Op (⟨z7.V.Kind, z7.V.N, z7.V.S⟩ : T_value_Value) z7.Table z7.Name z7.L) z14) ∧ law15_ExprShown_J1i r0 z6 z7 (!z14)))))
theorem law15_ExprShown_J1_m (r0 : Bool) (z6 : T_expr_Expr) (z7 : T_expr_Expr) {x8 : Bool} (h : law15_ExprShown_J1i r0 z6 z7 x8) : law15_ExprShown_J1 r0 z6 z7 x8 := by
  unfold law15_ExprShown_J1
  unfold law15_ExprShown_J1i at h
  exact h
theorem law15_ExprShown_i (a0 : (List T_law15_Part)) (a1 : (List T_law15_Part)) (r0 : Bool) (h : law15_ExprShown_oi a0 a1 r0) : law15_ExprShown_o a0 a1 r0 := by
  unfold law15_ExprShown_o
  unfold law15_ExprShown_oi at h
  obtain ⟨z1, h⟩ := h
  refine ⟨z1, ?_⟩
  obtain ⟨h0, h⟩ := h
  refine ⟨h0, ?_⟩
  refine cnd_mono h (fun h => ?_) (fun h => ?_)
  · exact h
  · intro c
    replace h := h c
    obtain ⟨h0, h⟩ := h
    refine ⟨h0, ?_⟩
    obtain ⟨z2, h⟩ := h
    refine ⟨z2, ?_⟩
    obtain ⟨z3, h⟩ := h
    refine ⟨z3, ?_⟩
    obtain ⟨h0, h⟩ := h
    refine ⟨h0, ?_⟩
    intro c
    replace h := h c
    obtain ⟨h0, h⟩ := h
    refine ⟨h0, ?_⟩
    obtain ⟨z4, h⟩ := h
    refine ⟨z4, ?_⟩
    obtain ⟨z5, h⟩ := h
    refine ⟨z5, ?_⟩
    obtain ⟨h0, h⟩ := h
    refine ⟨h0, ?_⟩
    obtain ⟨z6, h⟩ := h
    refine ⟨z6, ?_⟩
    obtain ⟨h0, h⟩ := h
    refine ⟨h0, ?_⟩
    obtain ⟨z7, h⟩ := h
    refine ⟨z7, ?_⟩
    obtain ⟨h0, h⟩ := h
    refine ⟨h0, ?_⟩
    intro J1 kJ1
    have hJ1 : ∀ (x8 : Bool), law15_ExprShown_J1i r0 z6 z7 x8 → J1 x8 := fun x8 q => kJ1 x8 (law15_ExprShown_J1_m r0 z6 z7 q)
    obtain ⟨z13, h⟩ := h
    refine ⟨z13, ?_⟩
    obtain ⟨h0, h⟩ := h
    refine ⟨h0, ?_⟩
    refine cnd_mono h (fun h => ?_) (fun h => ?_)
    · exact hJ1 _ h
    · obtain ⟨z14, h⟩ := h
      refine ⟨z14, ?_⟩
      obtain ⟨h0, h⟩ := h
      refine ⟨h0, ?_⟩
      exact hJ1 _ h
noncomputable def law15_ExprShown_sp : Sp KK := ⟨3, [.v 22, .v 22], [4], appW (K := KK) [4] [.v 22, .v 22] law15_ExprShown_o⟩
noncomputable def law15_ExprShown_an : An KK := (.s .o (.s (.s .o (.c (.s .o .o) .o)) (.s .o (.s .o (.s .o (.s (.j ⟨[(9, .px 9 0), (10, .px 10 0), (42, .bl)], [(9, 34, [.kp 17, .kp 18, .kp 19, .kp 20, .kp 21, .kp 22, .kp 23, .kp 24]), (10, 34, [.kp 25, .kp 26, .kp 27, .kp 28, .kp 29, .kp 30, .kp 31, .kp 32])], []⟩ .o (fun _ => (.c (.s .o .o) .o))) (.s .o .o)))))))
noncomputable def law15_ExprShown_cf : Cf KK := ⟨CC, [law15_speaks_sp, law15_Built_sp, law15_told_sp, expr_Good_sp, expr_Show_sp, expr_Same_sp], 57⟩

set_option maxRecDepth 100000 in
theorem law15_ExprShown_ok : SpOk Tryd.prog CC law15_ExprShown_sp := by
  intro env r hF h
  obtain ⟨a0, env0, rfl, h1⟩ := appW_v h
  obtain ⟨a1, env1, rfl, h2⟩ := appW_v h1
  obtain ⟨rfl, h3⟩ := appW_n h2
  obtain ⟨r0, rr0, rfl, h4⟩ := apR_v h3
  obtain ⟨rfl, h5⟩ := apR_n h4
  refine ⟨rfl, DnF_by (F := law15_ExprShown_cf) CC_ok (SsOk_c law15_speaks_ok (SsOk_c law15_Built_ok (SsOk_c law15_told_ok (SsOk_c expr_Good_ok (SsOk_c expr_Show_ok (SsOk_c expr_Same_ok SsOk_n)))))) t3 (A := law15_ExprShown_an) (ps := [.v 22, .v 22]) (rs := [4]) (env := [.d (.v 22 a0), .d (.v 22 a1)]) (r := [.v 4 r0]) (X := law15_ExprShown_o a0 a1 r0) rfl (Nat.le_of_ble_eq_true rfl) rfl hF h5 ?_⟩
  kernel_rfl

end Go.Proofs.YteoohihaibgplaaDoor
