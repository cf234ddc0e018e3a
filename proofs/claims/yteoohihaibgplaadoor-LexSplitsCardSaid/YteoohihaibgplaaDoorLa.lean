/-
  What the functions come to, as relations of plain data, and that the program does so. (Written by a program of mine, wip/gen2.py.)
-/
import Derived.Test.YteoohihaibgplaaDoorCode
import Derived.Test.YteoohihaibgplaaDoorDnG
import Derived.KernelRfl
import Derived.Test.YteoohihaibgplaaDoorSh
import Derived.Test.YteoohihaibgplaaDoorShelf
import Derived.Test.YteoohihaibgplaaDoorNumP
namespace Go.Proofs.YteoohihaibgplaaDoor
open Go.AV Go.RowKit

structure T_lex_Token where
  Kind : Int
  S : Str
  N : Int
  At : Int

structure T_ref14_Token where
  Kind : Int
  S : Str
  N : Int
  At : Int

inductive TC where
  | c0
  | c2
  | c3
  | c4
  | c5
  | c9
  | c48
  | c50
  | c51
  | c55
  | c58
  | c61
  | c72
def KF : TC → Type
  | .c0 => Unit
  | .c2 => Int
  | .c3 => Int
  | .c4 => Bool
  | .c5 => Int
  | .c9 => Str
  | .c48 => Int
  | .c50 => (List T_lex_Token)
  | .c51 => Int
  | .c55 => T_lex_Token
  | .c58 => (List T_ref14_Token)
  | .c61 => T_ref14_Token
  | .c72 => (List Str)
def codes : List (Nat × TC) := [(2, .c2), (3, .c3), (4, .c4), (5, .c5), (9, .c9), (48, .c48), (50, .c50), (51, .c51), (55, .c55), (58, .c58), (61, .c61), (72, .c72)]
def code (t : Nat) : TC := lkC .c0 codes t
abbrev KK (t : Nat) : Type := KF (code t)
noncomputable def e_lex_Token : Enc T_lex_Token := encIso ((tbCat (tbI .i64) (tbCat tbS (tbCat (tbI .i64) (tbI .i64)))) : Tb KK _).E (fun x : T_lex_Token => (x.Kind, x.S, x.N, x.At))
noncomputable def b55 : Tb KK T_lex_Token := tbIso (tbCat (tbI .i64) (tbCat tbS (tbCat (tbI .i64) (tbI .i64)))) (fun x : T_lex_Token => (x.Kind, x.S, x.N, x.At)) (fun y => (⟨y.1, y.2.1, y.2.2.1, y.2.2.2⟩ : T_lex_Token)) e_lex_Token
noncomputable def e_ref14_Token : Enc T_ref14_Token := encIso ((tbCat (tbI .i64) (tbCat tbS (tbCat (tbI .i64) (tbI .i64)))) : Tb KK _).E (fun x : T_ref14_Token => (x.Kind, x.S, x.N, x.At))
noncomputable def b61 : Tb KK T_ref14_Token := tbIso (tbCat (tbI .i64) (tbCat tbS (tbCat (tbI .i64) (tbI .i64)))) (fun x : T_ref14_Token => (x.Kind, x.S, x.N, x.At)) (fun y => (⟨y.1, y.2.1, y.2.2.1, y.2.2.2⟩ : T_ref14_Token)) e_ref14_Token
noncomputable def TF : (c : TC) → Tb KK (KF c)
  | .c0 => tbU
  | .c2 => (tbI .i64)
  | .c3 => (tbI .i64)
  | .c4 => tbB
  | .c5 => (tbI .u8)
  | .c9 => tbS
  | .c48 => (tbI .u16)
  | .c50 => (tbL 55 e_lex_Token : Tb KK (List T_lex_Token))
  | .c51 => (tbI .i64)
  | .c55 => b55
  | .c58 => (tbL 61 e_ref14_Token : Tb KK (List T_ref14_Token))
  | .c61 => b61
  | .c72 => (tbL 9 eS : Tb KK (List Str))
noncomputable def CC : Cx KK := @cxOf TC KF code TF
theorem b55_ok : TbOk Tryd.prog CC b55 := tbIso_ok (tbCat_ok (tbI_ok _) (tbCat_ok tbS_ok (tbCat_ok (tbI_ok _) (tbI_ok _)))) (fun y => rfl) (fun x => rfl)
theorem dw_lex_Token : ∀ x, dwks (e_lex_Token.c x) = e_lex_Token.c x := b55_ok.dw
theorem b61_ok : TbOk Tryd.prog CC b61 := tbIso_ok (tbCat_ok (tbI_ok _) (tbCat_ok tbS_ok (tbCat_ok (tbI_ok _) (tbI_ok _)))) (fun y => rfl) (fun x => rfl)
theorem dw_ref14_Token : ∀ x, dwks (e_ref14_Token.c x) = e_ref14_Token.c x := b61_ok.dw
theorem CC_ok : CxOk Tryd.prog CC := @cxOf_ok TC KF code _ TF fun c => match c with
  | .c0 => tbU_ok
  | .c2 => (tbI_ok _)
  | .c3 => (tbI_ok _)
  | .c4 => tbB_ok
  | .c5 => (tbI_ok _)
  | .c9 => tbS_ok
  | .c48 => (tbI_ok _)
  | .c50 => (tbL_ok _ rfl dw_lex_Token)
  | .c51 => (tbI_ok _)
  | .c55 => b55_ok
  | .c58 => (tbL_ok _ rfl dw_ref14_Token)
  | .c61 => b61_ok
  | .c72 => (tbL_ok _ rfl (fun _ => rfl))

def lex_blank_o (a0 : Int) (r0 : Bool) : Prop :=
  cnd (a0 == (32 : Int)) (true = r0) ((a0 == (10 : Int)) = r0)
noncomputable def lex_blank_sp : Sp KK := ⟨38, [.v 5], [4], appW (K := KK) [4] [.v 5] lex_blank_o⟩
noncomputable def lex_blank_an : An KK := (.s .o (.s .o .o))
noncomputable def lex_blank_cf : Cf KK := ⟨CC, [], 9⟩

set_option maxRecDepth 100000 in
theorem lex_blank_ok : SpOk Tryd.prog CC lex_blank_sp := by
  intro env r hF h
  obtain ⟨a0, env0, rfl, h1⟩ := appW_v h
  obtain ⟨rfl, h2⟩ := appW_n h1
  obtain ⟨r0, rr0, rfl, h3⟩ := apR_v h2
  obtain ⟨rfl, h4⟩ := apR_n h3
  refine ⟨rfl, DnF_by (F := lex_blank_cf) CC_ok SsOk_n t38 (A := lex_blank_an) (ps := [.v 5]) (rs := [4]) (env := [.d (.v 5 a0)]) (r := [.v 4 r0]) (X := lex_blank_o a0 r0) rfl (Nat.le_of_ble_eq_true rfl) rfl hF h4 ?_⟩
  kernel_rfl

def lex_span_J2 (X1 : Int → Prop) (x1 : Int) (a0 : Str) (r0 : Str) (x2 : Bool) : Prop :=
  cnd x2 (X1 (IntKind.i64.wrap (x1 + (1 : Int)))) ((0 ≤ (0 : Int) ∧ (0 : Int) ≤ x1 ∧ x1 ≤ (a0.length : Int)) ∧ ((a0.drop (0 : Int).toNat).take (x1.toNat - (0 : Int).toNat)) = r0)
def lex_span_L1 (a0 : Str) (r0 : Str) (g1 : Int → Bool → Prop) (X1 : Int → Prop) (x1 : Int) : Prop :=
  ∀ J2 : Bool → Prop, (∀ (x2 : Bool), lex_span_J2 X1 x1 a0 r0 x2 → J2 x2) → cnd (decide (x1 < (a0.length : Int))) ((0 ≤ x1 ∧ x1 < (a0.length : Int)) ∧ ∃ z3 : Bool, (g1 (bAt a0 x1) z3) ∧ J2 z3) (J2 false)
def lex_span_o (a0 : Str) (g1 : Int → Bool → Prop) (r0 : Str) : Prop :=
  ∀ X1 : Int → Prop, (∀ (x1 : Int), lex_span_L1 a0 r0 g1 X1 x1 → X1 x1) → X1 (0 : Int)
def lex_span_J2i (X1 : Int → Prop) (a0 : Str) (r0 : Str) (x1 : Int) (x2 : Bool) : Prop :=
  cnd x2 (X1 (IntKind.i64.wrap (x1 + (1 : Int)))) ((0 ≤ (0 : Int) ∧ (0 : Int) ≤ x1 ∧ x1 ≤ (a0.length : Int)) ∧ ((a0.drop (0 : Int).toNat).take (x1.toNat - (0 : Int).toNat)) = r0)
def lex_span_L1i (a0 : Str) (g1 : Int → Bool → Prop) (r0 : Str) (X1 : Int → Prop) (x1 : Int) : Prop :=
  cnd (decide (x1 < (a0.length : Int))) ((0 ≤ x1 ∧ x1 < (a0.length : Int)) ∧ ∃ z3 : Bool, (g1 (bAt a0 x1) z3) ∧ lex_span_J2i X1 a0 r0 x1 z3) (lex_span_J2i X1 a0 r0 x1 false)
def lex_span_oi (a0 : Str) (g1 : Int → Bool → Prop) (r0 : Str) : Prop :=
  ∀ X1 : Int → Prop, (∀ (x1 : Int), lex_span_L1i a0 g1 r0 X1 x1 → X1 x1) → X1 (0 : Int)
theorem lex_span_J2_m (X1 : Int → Prop) (a0 : Str) (r0 : Str) (x1 : Int) {x2 : Bool} (h : lex_span_J2i X1 a0 r0 x1 x2) : lex_span_J2 X1 x1 a0 r0 x2 := by
  unfold lex_span_J2
  unfold lex_span_J2i at h
  exact h
theorem lex_span_L1_m (a0 : Str) (g1 : Int → Bool → Prop) (r0 : Str) {X1 : Int → Prop} {x1 : Int} (h : lex_span_L1i a0 g1 r0 X1 x1) : lex_span_L1 a0 r0 g1 X1 x1 := by
  unfold lex_span_L1
  unfold lex_span_L1i at h
  intro J2 kJ2
  have hJ2 : ∀ (x2 : Bool), lex_span_J2i X1 a0 r0 x1 x2 → J2 x2 := fun x2 q => kJ2 x2 (lex_span_J2_m X1 a0 r0 x1 q)
  refine cnd_mono h (fun h => ?_) (fun h => ?_)
  · obtain ⟨h0, h⟩ := h
    refine ⟨h0, ?_⟩
    obtain ⟨z3, h⟩ := h
    refine ⟨z3, ?_⟩
    obtain ⟨h0, h⟩ := h
    refine ⟨h0, ?_⟩
    exact hJ2 _ h
  · exact hJ2 _ h
theorem lex_span_i (a0 : Str) (g1 : Int → Bool → Prop) (r0 : Str) (h : lex_span_oi a0 g1 r0) : lex_span_o a0 g1 r0 := by
  unfold lex_span_o
  unfold lex_span_oi at h
  intro X1 k
  exact h X1 (fun x1 q => k x1 (lex_span_L1_m a0 g1 r0 q))
noncomputable def lex_span_sp : Sp KK := ⟨36, [.v 9, .f [5] [4]], [9], appW (K := KK) [9] [.v 9, .f [5] [4]] lex_span_o⟩
noncomputable def lex_span_an : An KK := (.s .o (.s .o (.s (.b (.l ⟨[(0, .kp 8), (1, .kp 9), (5, .it .i64)], [], []⟩ (fun _ => (.s (.j ⟨[(0, .kp 8), (1, .kp 9), (5, .kp 14), (16, .bl)], [], []⟩ .o (fun _ => (.c .o .o))) (.b .o))))) (.s .o .o))))
noncomputable def lex_span_cf : Cf KK := ⟨CC, [], 22⟩

set_option maxRecDepth 100000 in
theorem lex_span_ok : SpOk Tryd.prog CC lex_span_sp := by
  intro env r hF h
  obtain ⟨a0, env0, rfl, h1⟩ := appW_v h
  obtain ⟨F1, env1, rfl, h2⟩ := appW_f h1
  obtain ⟨rfl, h3⟩ := appW_n h2
  obtain ⟨r0, rr0, rfl, h4⟩ := apR_v h3
  obtain ⟨rfl, h5⟩ := apR_n h4
  refine ⟨rfl, DnF_by (F := lex_span_cf) CC_ok SsOk_n t36 (A := lex_span_an) (ps := [.v 9, .f [5] [4]]) (rs := [9]) (env := [.d (.v 9 a0), .f F1]) (r := [.v 9 r0]) (X := lex_span_o a0 (curF [4] [5] F1.W) r0) rfl (Nat.le_of_ble_eq_true rfl) rfl hF h5 ?_⟩
  kernel_rfl

def lex_small_o (a0 : Int) (r0 : Bool) : Prop :=
  cnd (decide ((97 : Int) ≤ a0)) ((decide (a0 ≤ (122 : Int))) = r0) (false = r0)
noncomputable def lex_small_sp : Sp KK := ⟨35, [.v 5], [4], appW (K := KK) [4] [.v 5] lex_small_o⟩
noncomputable def lex_small_an : An KK := (.s .o (.s .o .o))
noncomputable def lex_small_cf : Cf KK := ⟨CC, [], 9⟩

set_option maxRecDepth 100000 in
theorem lex_small_ok : SpOk Tryd.prog CC lex_small_sp := by
  intro env r hF h
  obtain ⟨a0, env0, rfl, h1⟩ := appW_v h
  obtain ⟨rfl, h2⟩ := appW_n h1
  obtain ⟨r0, rr0, rfl, h3⟩ := apR_v h2
  obtain ⟨rfl, h4⟩ := apR_n h3
  refine ⟨rfl, DnF_by (F := lex_small_cf) CC_ok SsOk_n t35 (A := lex_small_an) (ps := [.v 5]) (rs := [4]) (env := [.d (.v 5 a0)]) (r := [.v 4 r0]) (X := lex_small_o a0 r0) rfl (Nat.le_of_ble_eq_true rfl) rfl hF h4 ?_⟩
  kernel_rfl

def lex_digit_o (a0 : Int) (r0 : Bool) : Prop :=
  cnd (decide ((48 : Int) ≤ a0)) ((decide (a0 ≤ (57 : Int))) = r0) (false = r0)
noncomputable def lex_digit_sp : Sp KK := ⟨51, [.v 5], [4], appW (K := KK) [4] [.v 5] lex_digit_o⟩
noncomputable def lex_digit_an : An KK := (.s .o (.s .o .o))
noncomputable def lex_digit_cf : Cf KK := ⟨CC, [], 9⟩

set_option maxRecDepth 100000 in
theorem lex_digit_ok : SpOk Tryd.prog CC lex_digit_sp := by
  intro env r hF h
  obtain ⟨a0, env0, rfl, h1⟩ := appW_v h
  obtain ⟨rfl, h2⟩ := appW_n h1
  obtain ⟨r0, rr0, rfl, h3⟩ := apR_v h2
  obtain ⟨rfl, h4⟩ := apR_n h3
  refine ⟨rfl, DnF_by (F := lex_digit_cf) CC_ok SsOk_n t51 (A := lex_digit_an) (ps := [.v 5]) (rs := [4]) (env := [.d (.v 5 a0)]) (r := [.v 4 r0]) (X := lex_digit_o a0 r0) rfl (Nat.le_of_ble_eq_true rfl) rfl hF h4 ?_⟩
  kernel_rfl

def lex_rest_o (a0 : Int) (r0 : Bool) : Prop :=
  ∃ z1 : Bool, (lex_small_o a0 z1) ∧ cnd z1 (true = r0) (∃ z2 : Bool, (lex_digit_o a0 z2) ∧ cnd z2 (true = r0) ((a0 == (95 : Int)) = r0))
noncomputable def lex_rest_sp : Sp KK := ⟨37, [.v 5], [4], appW (K := KK) [4] [.v 5] lex_rest_o⟩
noncomputable def lex_rest_an : An KK := (.s .o (.s .o .o))
noncomputable def lex_rest_cf : Cf KK := ⟨CC, [lex_small_sp, lex_digit_sp], 13⟩

set_option maxRecDepth 100000 in
theorem lex_rest_ok : SpOk Tryd.prog CC lex_rest_sp := by
  intro env r hF h
  obtain ⟨a0, env0, rfl, h1⟩ := appW_v h
  obtain ⟨rfl, h2⟩ := appW_n h1
  obtain ⟨r0, rr0, rfl, h3⟩ := apR_v h2
  obtain ⟨rfl, h4⟩ := apR_n h3
  refine ⟨rfl, DnF_by (F := lex_rest_cf) CC_ok (SsOk_c lex_small_ok (SsOk_c lex_digit_ok SsOk_n)) t37 (A := lex_rest_an) (ps := [.v 5]) (rs := [4]) (env := [.d (.v 5 a0)]) (r := [.v 4 r0]) (X := lex_rest_o a0 r0) rfl (Nat.le_of_ble_eq_true rfl) rfl hF h4 ?_⟩
  kernel_rfl

def lex_word_o (a0 : Int) (a1 : Str) (r0 : T_lex_Token) (r1 : Int) (r2 : Int) : Prop :=
  cnd (decide ((16 : Int) < (a1.length : Int))) ((⟨(0 : Int), ([] : Str), (0 : Int), (0 : Int)⟩ : T_lex_Token) = r0 ∧ (0 : Int) = r1 ∧ (8 : Int) = r2) ((⟨a0, a1, (0 : Int), (0 : Int)⟩ : T_lex_Token) = r0 ∧ (a1.length : Int) = r1 ∧ (0 : Int) = r2)
noncomputable def lex_word_sp : Sp KK := ⟨52, [.v 3, .v 9], [55, 3, 51], appW (K := KK) [55, 3, 51] [.v 3, .v 9] lex_word_o⟩
noncomputable def lex_word_an : An KK := (.s .o (.s (.s .o (.c (.s .o .o) .o)) (.s .o .o)))
noncomputable def lex_word_cf : Cf KK := ⟨CC, [], 16⟩

set_option maxRecDepth 100000 in
theorem lex_word_ok : SpOk Tryd.prog CC lex_word_sp := by
  intro env r hF h
  obtain ⟨a0, env0, rfl, h1⟩ := appW_v h
  obtain ⟨a1, env1, rfl, h2⟩ := appW_v h1
  obtain ⟨rfl, h3⟩ := appW_n h2
  obtain ⟨r0, rr0, rfl, h4⟩ := apR_v h3
  obtain ⟨r1, rr1, rfl, h5⟩ := apR_v h4
  obtain ⟨r2, rr2, rfl, h6⟩ := apR_v h5
  obtain ⟨rfl, h7⟩ := apR_n h6
  refine ⟨rfl, DnF_by (F := lex_word_cf) CC_ok SsOk_n t52 (A := lex_word_an) (ps := [.v 3, .v 9]) (rs := [55, 3, 51]) (env := [.d (.v 3 a0), .d (.v 9 a1)]) (r := [.v 55 r0, .v 3 r1, .v 51 r2]) (X := lex_word_o a0 a1 r0 r1 r2) rfl (Nat.le_of_ble_eq_true rfl) rfl hF h7 ?_⟩
  kernel_rfl

def lex_great_o (a0 : Int) (r0 : Bool) : Prop :=
  cnd (decide ((65 : Int) ≤ a0)) ((decide (a0 ≤ (90 : Int))) = r0) (false = r0)
noncomputable def lex_great_sp : Sp KK := ⟨53, [.v 5], [4], appW (K := KK) [4] [.v 5] lex_great_o⟩
noncomputable def lex_great_an : An KK := (.s .o (.s .o .o))
noncomputable def lex_great_cf : Cf KK := ⟨CC, [], 9⟩

set_option maxRecDepth 100000 in
theorem lex_great_ok : SpOk Tryd.prog CC lex_great_sp := by
  intro env r hF h
  obtain ⟨a0, env0, rfl, h1⟩ := appW_v h
  obtain ⟨rfl, h2⟩ := appW_n h1
  obtain ⟨r0, rr0, rfl, h3⟩ := apR_v h2
  obtain ⟨rfl, h4⟩ := apR_n h3
  refine ⟨rfl, DnF_by (F := lex_great_cf) CC_ok SsOk_n t53 (A := lex_great_an) (ps := [.v 5]) (rs := [4]) (env := [.d (.v 5 a0)]) (r := [.v 4 r0]) (X := lex_great_o a0 r0) rfl (Nat.le_of_ble_eq_true rfl) rfl hF h4 ?_⟩
  kernel_rfl

def lex_number_o (a0 : Str) (r0 : T_lex_Token) (r1 : Int) (r2 : Int) : Prop := NumRel a0 r0.Kind r0.S r0.N r0.At r1 r2
noncomputable def lex_number_sp : Sp KK := ⟨54, [.v 9], [55, 3, 51], appW (K := KK) [55, 3, 51] [.v 9] lex_number_o⟩

set_option maxRecDepth 100000 in
theorem lex_number_p {a0 : Str} {r0 : T_lex_Token} {r1 : Int} {r2 : Int} (h : lex_number_o a0 r0 r1 r2) : AV.Pure Tryd.prog 54 [.st a0] (.tup [.agg [.it .i64 r0.Kind, .st r0.S, .it .i64 r0.N, .it .i64 r0.At], .it .i64 r1, .it .i64 r2]) := by
  obtain ⟨q0, q1⟩ := h
  exact number_pure ⟨q0, q1⟩
set_option maxRecDepth 100000 in
theorem lex_number_ok : SpOk Tryd.prog CC lex_number_sp := by
  intro env r hF h
  obtain ⟨a0, env0, rfl, h1⟩ := appW_v h
  obtain ⟨rfl, h2⟩ := appW_n h1
  obtain ⟨r0, rr0, rfl, h3⟩ := apR_v h2
  obtain ⟨r1, rr1, rfl, h4⟩ := apR_v h3
  obtain ⟨r2, rr2, rfl, h5⟩ := apR_v h4
  obtain ⟨rfl, h6⟩ := apR_n h5
  exact ⟨rfl, (lex_number_p h6).congr (by kernel_rfl) (by kernel_rfl)⟩

def lex_text_J2 (x1 : Int) (a0 : Str) (X1 : Int → (List Int) → Prop) (r0 : Str) (r1 : Int) (r2 : Int) (x3 : Bool) (x4 : (List Int)) : Prop :=
  cnd x3 ((0 ≤ x1 ∧ x1 < (a0.length : Int)) ∧ (x4.length ≤ 1000000000) ∧ X1 (IntKind.i64.wrap ((IntKind.i64.wrap (x1 + (1 : Int))) + (1 : Int))) (x4 ++ ([bAt a0 x1] : List Int))) (cnd (decide ((64 : Int) < (x4.length : Int))) (([] : Str) = r0 ∧ (0 : Int) = r1 ∧ (8 : Int) = r2) ((x4.map toB) = r0 ∧ (IntKind.i64.wrap (x1 + (1 : Int))) = r1 ∧ (0 : Int) = r2))
def lex_text_L1 (a0 : Str) (r0 : Str) (r1 : Int) (r2 : Int) (X1 : Int → (List Int) → Prop) (x1 : Int) (x2 : (List Int)) : Prop :=
  cnd (decide (x1 < (a0.length : Int))) ((0 ≤ x1 ∧ x1 < (a0.length : Int)) ∧ (0 ≤ (0 : Int) ∧ (0 : Int) < (([39] : Str).length : Int)) ∧ cnd (!((bAt a0 x1) == (bAt ([39] : Str) (0 : Int)))) ((0 ≤ x1 ∧ x1 < (a0.length : Int)) ∧ (x2.length ≤ 1000000000) ∧ X1 (IntKind.i64.wrap (x1 + (1 : Int))) (x2 ++ ([bAt a0 x1] : List Int))) (∀ J2 : Bool → (List Int) → Prop, (∀ (x3 : Bool) (x4 : (List Int)), lex_text_J2 x1 a0 X1 r0 r1 r2 x3 x4 → J2 x3 x4) → cnd (decide ((IntKind.i64.wrap (x1 + (1 : Int))) < (a0.length : Int))) ((0 ≤ (IntKind.i64.wrap (x1 + (1 : Int))) ∧ (IntKind.i64.wrap (x1 + (1 : Int))) < (a0.length : Int)) ∧ (0 ≤ (0 : Int) ∧ (0 : Int) < (([39] : Str).length : Int)) ∧ J2 ((bAt a0 (IntKind.i64.wrap (x1 + (1 : Int)))) == (bAt ([39] : Str) (0 : Int))) x2) (J2 false x2))) (([] : Str) = r0 ∧ (0 : Int) = r1 ∧ (4 : Int) = r2)
def lex_text_o (a0 : Str) (r0 : Str) (r1 : Int) (r2 : Int) : Prop :=
  ∀ X1 : Int → (List Int) → Prop, (∀ (x1 : Int) (x2 : (List Int)), lex_text_L1 a0 r0 r1 r2 X1 x1 x2 → X1 x1 x2) → X1 (1 : Int) ([] : List Int)
def lex_text_J2i (X1 : Int → (List Int) → Prop) (a0 : Str) (r0 : Str) (r1 : Int) (r2 : Int) (x1 : Int) (x3 : Bool) (x4 : (List Int)) : Prop :=
  cnd x3 ((0 ≤ x1 ∧ x1 < (a0.length : Int)) ∧ (x4.length ≤ 1000000000) ∧ X1 (IntKind.i64.wrap ((IntKind.i64.wrap (x1 + (1 : Int))) + (1 : Int))) (x4 ++ ([bAt a0 x1] : List Int))) (cnd (decide ((64 : Int) < (x4.length : Int))) (([] : Str) = r0 ∧ (0 : Int) = r1 ∧ (8 : Int) = r2) ((x4.map toB) = r0 ∧ (IntKind.i64.wrap (x1 + (1 : Int))) = r1 ∧ (0 : Int) = r2))
def lex_text_L1i (a0 : Str) (r0 : Str) (r1 : Int) (r2 : Int) (X1 : Int → (List Int) → Prop) (x1 : Int) (x2 : (List Int)) : Prop :=
  cnd (decide (x1 < (a0.length : Int))) ((0 ≤ x1 ∧ x1 < (a0.length : Int)) ∧ (0 ≤ (0 : Int) ∧ (0 : Int) < (([39] : Str).length : Int)) ∧ cnd (!((bAt a0 x1) == (bAt ([39] : Str) (0 : Int)))) ((0 ≤ x1 ∧ x1 < (a0.length : Int)) ∧ (x2.length ≤ 1000000000) ∧ X1 (IntKind.i64.wrap (x1 + (1 : Int))) (x2 ++ ([bAt a0 x1] : List Int))) (cnd (decide ((IntKind.i64.wrap (x1 + (1 : Int))) < (a0.length : Int))) ((0 ≤ (IntKind.i64.wrap (x1 + (1 : Int))) ∧ (IntKind.i64.wrap (x1 + (1 : Int))) < (a0.length : Int)) ∧ (0 ≤ (0 : Int) ∧ (0 : Int) < (([39] : Str).length : Int)) ∧ lex_text_J2i X1 a0 r0 r1 r2 x1 ((bAt a0 (IntKind.i64.wrap (x1 + (1 : Int)))) == (bAt ([39] : Str) (0 : Int))) x2) (lex_text_J2i X1 a0 r0 r1 r2 x1 false x2))) (([] : Str) = r0 ∧ (0 : Int) = r1 ∧ (4 : Int) = r2)
def lex_text_oi (a0 : Str) (r0 : Str) (r1 : Int) (r2 : Int) : Prop :=
  ∀ X1 : Int → (List Int) → Prop, (∀ (x1 : Int) (x2 : (List Int)), lex_text_L1i a0 r0 r1 r2 X1 x1 x2 → X1 x1 x2) → X1 (1 : Int) ([] : List Int)
theorem lex_text_J2_m (X1 : Int → (List Int) → Prop) (a0 : Str) (r0 : Str) (r1 : Int) (r2 : Int) (x1 : Int) {x3 : Bool} {x4 : (List Int)} (h : lex_text_J2i X1 a0 r0 r1 r2 x1 x3 x4) : lex_text_J2 x1 a0 X1 r0 r1 r2 x3 x4 := by
  unfold lex_text_J2
  unfold lex_text_J2i at h
  exact h
theorem lex_text_L1_m (a0 : Str) (r0 : Str) (r1 : Int) (r2 : Int) {X1 : Int → (List Int) → Prop} {x1 : Int} {x2 : (List Int)} (h : lex_text_L1i a0 r0 r1 r2 X1 x1 x2) : lex_text_L1 a0 r0 r1 r2 X1 x1 x2 := by
  unfold lex_text_L1
  unfold lex_text_L1i at h
  refine cnd_mono h (fun h => ?_) (fun h => ?_)
  · obtain ⟨h0, h⟩ := h
    refine ⟨h0, ?_⟩
    obtain ⟨h0, h⟩ := h
    refine ⟨h0, ?_⟩
    refine cnd_mono h (fun h => ?_) (fun h => ?_)
    · exact h
    · intro J2 kJ2
      have hJ2 : ∀ (x3 : Bool) (x4 : (List Int)), lex_text_J2i X1 a0 r0 r1 r2 x1 x3 x4 → J2 x3 x4 := fun x3 x4 q => kJ2 x3 x4 (lex_text_J2_m X1 a0 r0 r1 r2 x1 q)
      refine cnd_mono h (fun h => ?_) (fun h => ?_)
      · obtain ⟨h0, h⟩ := h
        refine ⟨h0, ?_⟩
        obtain ⟨h0, h⟩ := h
        refine ⟨h0, ?_⟩
        exact hJ2 _ _ h
      · exact hJ2 _ _ h
  · exact h
theorem lex_text_i (a0 : Str) (r0 : Str) (r1 : Int) (r2 : Int) (h : lex_text_oi a0 r0 r1 r2) : lex_text_o a0 r0 r1 r2 := by
  unfold lex_text_o
  unfold lex_text_oi at h
  intro X1 k
  exact h X1 (fun x1 x2 q => k x1 x2 (lex_text_L1_m a0 r0 r1 r2 q))
noncomputable def lex_text_sp : Sp KK := ⟨55, [.v 9], [9, 3, 51], appW (K := KK) [9, 3, 51] [.v 9] lex_text_o⟩
noncomputable def lex_text_an : An KK := (.s .o (.s .o (.s (.s .o (.b (.l ⟨[(0, .kp 12), (5, .row 23), (6, .it .i64)], [], [(23, 5)]⟩ (fun _ => (.s (.s .o (.c .o .o)) (.s (.b (.s (.s .o (.c (.s .o .o) .o)) (.s (.j ⟨[(0, .kp 12), (5, .row 23), (6, .kp 22), (36, .bl)], [], [(23, 5)]⟩ .o (fun _ => (.c (.s .o (.s .o .o)) .o))) (.s (.s .o (.c (.s .o .o) .o)) (.s .o .o))))) .o)))))) (.s .o .o))))
noncomputable def lex_text_cf : Cf KK := ⟨CC, [], 52⟩

set_option maxRecDepth 100000 in
theorem lex_text_ok : SpOk Tryd.prog CC lex_text_sp := by
  intro env r hF h
  obtain ⟨a0, env0, rfl, h1⟩ := appW_v h
  obtain ⟨rfl, h2⟩ := appW_n h1
  obtain ⟨r0, rr0, rfl, h3⟩ := apR_v h2
  obtain ⟨r1, rr1, rfl, h4⟩ := apR_v h3
  obtain ⟨r2, rr2, rfl, h5⟩ := apR_v h4
  obtain ⟨rfl, h6⟩ := apR_n h5
  refine ⟨rfl, DnF_by (F := lex_text_cf) CC_ok SsOk_n t55 (A := lex_text_an) (ps := [.v 9]) (rs := [9, 3, 51]) (env := [.d (.v 9 a0)]) (r := [.v 9 r0, .v 3 r1, .v 51 r2]) (X := lex_text_o a0 r0 r1 r2) rfl (Nat.le_of_ble_eq_true rfl) rfl hF h6 ?_⟩
  kernel_rfl

def internal_stringslite_HasPrefix_o (a0 : Str) (a1 : Str) (r0 : Bool) : Prop :=
  cnd (decide ((a1.length : Int) ≤ (a0.length : Int))) ((0 ≤ (0 : Int) ∧ (0 : Int) ≤ (a1.length : Int) ∧ (a1.length : Int) ≤ (a0.length : Int)) ∧ (((a0.drop (0 : Int).toNat).take ((a1.length : Int).toNat - (0 : Int).toNat)) == a1) = r0) (false = r0)
noncomputable def internal_stringslite_HasPrefix_sp : Sp KK := ⟨66, [.v 9, .v 9], [4], appW (K := KK) [4] [.v 9, .v 9] internal_stringslite_HasPrefix_o⟩
noncomputable def internal_stringslite_HasPrefix_an : An KK := (.s .o (.s .o .o))
noncomputable def internal_stringslite_HasPrefix_cf : Cf KK := ⟨CC, [], 18⟩

set_option maxRecDepth 100000 in
theorem internal_stringslite_HasPrefix_ok : SpOk Tryd.prog CC internal_stringslite_HasPrefix_sp := by
  intro env r hF h
  obtain ⟨a0, env0, rfl, h1⟩ := appW_v h
  obtain ⟨a1, env1, rfl, h2⟩ := appW_v h1
  obtain ⟨rfl, h3⟩ := appW_n h2
  obtain ⟨r0, rr0, rfl, h4⟩ := apR_v h3
  obtain ⟨rfl, h5⟩ := apR_n h4
  refine ⟨rfl, DnF_by (F := internal_stringslite_HasPrefix_cf) CC_ok SsOk_n t66 (A := internal_stringslite_HasPrefix_an) (ps := [.v 9, .v 9]) (rs := [4]) (env := [.d (.v 9 a0), .d (.v 9 a1)]) (r := [.v 4 r0]) (X := internal_stringslite_HasPrefix_o a0 a1 r0) rfl (Nat.le_of_ble_eq_true rfl) rfl hF h5 ?_⟩
  kernel_rfl

def strings_HasPrefix_o (a0 : Str) (a1 : Str) (r0 : Bool) : Prop :=
  ∃ z1 : Bool, (internal_stringslite_HasPrefix_o a0 a1 z1) ∧ z1 = r0
noncomputable def strings_HasPrefix_sp : Sp KK := ⟨56, [.v 9, .v 9], [4], appW (K := KK) [4] [.v 9, .v 9] strings_HasPrefix_o⟩
noncomputable def strings_HasPrefix_an : An KK := (.s .o (.s .o .o))
noncomputable def strings_HasPrefix_cf : Cf KK := ⟨CC, [internal_stringslite_HasPrefix_sp], 8⟩

set_option maxRecDepth 100000 in
theorem strings_HasPrefix_ok : SpOk Tryd.prog CC strings_HasPrefix_sp := by
  intro env r hF h
  obtain ⟨a0, env0, rfl, h1⟩ := appW_v h
  obtain ⟨a1, env1, rfl, h2⟩ := appW_v h1
  obtain ⟨rfl, h3⟩ := appW_n h2
  obtain ⟨r0, rr0, rfl, h4⟩ := apR_v h3
  obtain ⟨rfl, h5⟩ := apR_n h4
  refine ⟨rfl, DnF_by (F := strings_HasPrefix_cf) CC_ok (SsOk_c internal_stringslite_HasPrefix_ok SsOk_n) t56 (A := strings_HasPrefix_an) (ps := [.v 9, .v 9]) (rs := [4]) (env := [.d (.v 9 a0), .d (.v 9 a1)]) (r := [.v 4 r0]) (X := strings_HasPrefix_o a0 a1 r0) rfl (Nat.le_of_ble_eq_true rfl) rfl hF h5 ?_⟩
  kernel_rfl

def lex_first_L1 (a0 : Str) (r0 : T_lex_Token) (r1 : Int) (r2 : Int) (X1 : Int → Prop) (x19 : Int) : Prop :=
  cnd (decide (x19 < (16 : Int))) ((0 ≤ x19 ∧ x19 < (16 : Nat)) ∧ ∃ z20 : Bool, (strings_HasPrefix_o a0 ((([([60, 62] : Str), ([60, 61] : Str), ([62, 61] : Str), ([124, 124] : Str), ([40] : Str), ([41] : Str), ([44] : Str), ([46] : Str), ([42] : Str), ([43] : Str), ([45] : Str), ([47] : Str), ([37] : Str), ([61] : Str), ([60] : Str), ([62] : Str)] : List Str)[x19.toNat]?).getD []) z20) ∧ cnd z20 ((⟨(5 : Int), ((([([60, 62] : Str), ([60, 61] : Str), ([62, 61] : Str), ([124, 124] : Str), ([40] : Str), ([41] : Str), ([44] : Str), ([46] : Str), ([42] : Str), ([43] : Str), ([45] : Str), ([47] : Str), ([37] : Str), ([61] : Str), ([60] : Str), ([62] : Str)] : List Str)[x19.toNat]?).getD []), (0 : Int), (0 : Int)⟩ : T_lex_Token) = r0 ∧ (((([([60, 62] : Str), ([60, 61] : Str), ([62, 61] : Str), ([124, 124] : Str), ([40] : Str), ([41] : Str), ([44] : Str), ([46] : Str), ([42] : Str), ([43] : Str), ([45] : Str), ([47] : Str), ([37] : Str), ([61] : Str), ([60] : Str), ([62] : Str)] : List Str)[x19.toNat]?).getD []).length : Int) = r1 ∧ (0 : Int) = r2) (X1 (IntKind.i64.wrap (x19 + (1 : Int))))) ((⟨(0 : Int), ([] : Str), (0 : Int), (0 : Int)⟩ : T_lex_Token) = r0 ∧ (0 : Int) = r1 ∧ (4 : Int) = r2)
def lex_first_o (a0 : Str) (r0 : T_lex_Token) (r1 : Int) (r2 : Int) : Prop :=
  (0 ≤ (0 : Int) ∧ (0 : Int) < (a0.length : Int)) ∧ ∃ z1 : Bool, (lex_small_o (bAt a0 (0 : Int)) z1) ∧ cnd z1 (∃ z2 : Str, (lex_span_o a0 lex_rest_o z2) ∧ ∃ z3 : T_lex_Token, ∃ z4 : Int, ∃ z5 : Int, (lex_word_o (1 : Int) z2 z3 z4 z5) ∧ z3 = r0 ∧ z4 = r1 ∧ z5 = r2) (∃ z6 : Bool, (lex_great_o (bAt a0 (0 : Int)) z6) ∧ cnd z6 (∃ z7 : Str, (lex_span_o a0 lex_great_o z7) ∧ ∃ z8 : T_lex_Token, ∃ z9 : Int, ∃ z10 : Int, (lex_word_o (2 : Int) z7 z8 z9 z10) ∧ z8 = r0 ∧ z9 = r1 ∧ z10 = r2) (∃ z11 : Bool, (lex_digit_o (bAt a0 (0 : Int)) z11) ∧ cnd z11 (∃ z12 : Str, (lex_span_o a0 lex_digit_o z12) ∧ ∃ z13 : T_lex_Token, ∃ z14 : Int, ∃ z15 : Int, (lex_number_o z12 z13 z14 z15) ∧ z13 = r0 ∧ z14 = r1 ∧ z15 = r2) ((0 ≤ (0 : Int) ∧ (0 : Int) < (([39] : Str).length : Int)) ∧ cnd ((bAt a0 (0 : Int)) == (bAt ([39] : Str) (0 : Int))) (∃ z16 : Str, ∃ z17 : Int, ∃ z18 : Int, (lex_text_o a0 z16 z17 z18) ∧ (⟨(4 : Int), z16, (0 : Int), (0 : Int)⟩ : T_lex_Token) = r0 ∧ z17 = r1 ∧ z18 = r2) (∀ X1 : Int → Prop, (∀ (x19 : Int), lex_first_L1 a0 r0 r1 r2 X1 x19 → X1 x19) → X1 (0 : Int)))))
def lex_first_L1i (a0 : Str) (r0 : T_lex_Token) (r1 : Int) (r2 : Int) (X1 : Int → Prop) (x19 : Int) : Prop :=
  cnd (decide (x19 < (16 : Int))) ((0 ≤ x19 ∧ x19 < (16 : Nat)) ∧ ∃ z20 : Bool, (strings_HasPrefix_o a0 ((([([60, 62] : Str), ([60, 61] : Str), ([62, 61] : Str), ([124, 124] : Str), ([40] : Str), ([41] : Str), ([44] : Str), ([46] : Str), ([42] : Str), ([43] : Str), ([45] : Str), ([47] : Str), ([37] : Str), ([61] : Str), ([60] : Str), ([62] : Str)] : List Str)[x19.toNat]?).getD []) z20) ∧ cnd z20 ((⟨(5 : Int), ((([([60, 62] : Str), ([60, 61] : Str), ([62, 61] : Str), ([124, 124] : Str), ([40] : Str), ([41] : Str), ([44] : Str), ([46] : Str), ([42] : Str), ([43] : Str), ([45] : Str), ([47] : Str), ([37] : Str), ([61] : Str), ([60] : Str), ([62] : Str)] : List Str)[x19.toNat]?).getD []), (0 : Int), (0 : Int)⟩ : T_lex_Token) = r0 ∧ (((([([60, 62] : Str), ([60, 61] : Str), ([62, 61] : Str), ([124, 124] : Str), ([40] : Str), ([41] : Str), ([44] : Str), ([46] : Str), ([42] : Str), ([43] : Str), ([45] : Str), ([47] : Str), ([37] : Str), ([61] : Str), ([60] : Str), ([62] : Str)] : List Str)[x19.toNat]?).getD []).length : Int) = r1 ∧ (0 : Int) = r2) (X1 (IntKind.i64.wrap (x19 + (1 : Int))))) ((⟨(0 : Int), ([] : Str), (0 : Int), (0 : Int)⟩ : T_lex_Token) = r0 ∧ (0 : Int) = r1 ∧ (4 : Int) = r2)
def lex_first_oi (a0 : Str) (r0 : T_lex_Token) (r1 : Int) (r2 : Int) : Prop :=
  (0 ≤ (0 : Int) ∧ (0 : Int) < (a0.length : Int)) ∧ ∃ z1 : Bool, (lex_small_o (bAt a0 (0 : Int)) z1) ∧ cnd z1 (∃ z2 : Str, (lex_span_o a0 lex_rest_o z2) ∧ ∃ z3 : T_lex_Token, ∃ z4 : Int, ∃ z5 : Int, (lex_word_o (1 : Int) z2 z3 z4 z5) ∧ z3 = r0 ∧ z4 = r1 ∧ z5 = r2) (∃ z6 : Bool, (lex_great_o (bAt a0 (0 : Int)) z6) ∧ cnd z6 (∃ z7 : Str, (lex_span_o a0 lex_great_o z7) ∧ ∃ z8 : T_lex_Token, ∃ z9 : Int, ∃ z10 : Int, (lex_word_o (2 : Int) z7 z8 z9 z10) ∧ z8 = r0 ∧ z9 = r1 ∧ z10 = r2) (∃ z11 : Bool, (lex_digit_o (bAt a0 (0 : Int)) z11) ∧ cnd z11 (∃ z12 : Str, (lex_span_o a0 lex_digit_o z12) ∧ ∃ z13 : T_lex_Token, ∃ z14 : Int, ∃ z15 : Int, (lex_number_o z12 z13 z14 z15) ∧ z13 = r0 ∧ z14 = r1 ∧ z15 = r2) ((0 ≤ (0 : Int) ∧ (0 : Int) < (([39] : Str).length : Int)) ∧ cnd ((bAt a0 (0 : Int)) == (bAt ([39] : Str) (0 : Int))) (∃ z16 : Str, ∃ z17 : Int, ∃ z18 : Int, (lex_text_o a0 z16 z17 z18) ∧ (⟨(4 : Int), z16, (0 : Int), (0 : Int)⟩ : T_lex_Token) = r0 ∧ z17 = r1 ∧ z18 = r2) (∀ X1 : Int → Prop, (∀ (x19 : Int), lex_first_L1i a0 r0 r1 r2 X1 x19 → X1 x19) → X1 (0 : Int)))))
theorem lex_first_L1_m (a0 : Str) (r0 : T_lex_Token) (r1 : Int) (r2 : Int) {X1 : Int → Prop} {x19 : Int} (h : lex_first_L1i a0 r0 r1 r2 X1 x19) : lex_first_L1 a0 r0 r1 r2 X1 x19 := by
  unfold lex_first_L1
  unfold lex_first_L1i at h
  exact h
theorem lex_first_i (a0 : Str) (r0 : T_lex_Token) (r1 : Int) (r2 : Int) (h : lex_first_oi a0 r0 r1 r2) : lex_first_o a0 r0 r1 r2 := by
  unfold lex_first_o
  unfold lex_first_oi at h
  obtain ⟨h0, h⟩ := h
  refine ⟨h0, ?_⟩
  obtain ⟨z1, h⟩ := h
  refine ⟨z1, ?_⟩
  obtain ⟨h0, h⟩ := h
  refine ⟨h0, ?_⟩
  refine cnd_mono h (fun h => ?_) (fun h => ?_)
  · exact h
  · obtain ⟨z6, h⟩ := h
    refine ⟨z6, ?_⟩
    obtain ⟨h0, h⟩ := h
    refine ⟨h0, ?_⟩
    refine cnd_mono h (fun h => ?_) (fun h => ?_)
    · exact h
    · obtain ⟨z11, h⟩ := h
      refine ⟨z11, ?_⟩
      obtain ⟨h0, h⟩ := h
      refine ⟨h0, ?_⟩
      refine cnd_mono h (fun h => ?_) (fun h => ?_)
      · exact h
      · obtain ⟨h0, h⟩ := h
        refine ⟨h0, ?_⟩
        refine cnd_mono h (fun h => ?_) (fun h => ?_)
        · exact h
        · intro X1 k
          exact h X1 (fun x19 q => k x19 (lex_first_L1_m a0 r0 r1 r2 q))
noncomputable def lex_first_sp : Sp KK := ⟨39, [.v 9], [55, 3, 51], appW (K := KK) [55, 3, 51] [.v 9] lex_first_o⟩
noncomputable def lex_first_an : An KK := (.s .o (.s (.s .o (.b (.s .o (.c (.s .o .o) (.s .o (.c (.s .o .o) (.s .o (.c (.s .o .o) (.s .o (.c (.s .o (.s .o .o)) .o)))))))))) (.s (.s .o (.b (.l ⟨[(0, .kp 8), (2, .px 2 0), (54, .kp 9), (55, .it .i64)], [(2, 55, [.kp 11, .kp 12, .kp 13, .kp 14])], []⟩ (fun _ => (.s .o (.s (.c .o .o) (.s (.b (.s .o (.s .o (.c (.s .o .o) .o)))) .o))))))) (.s .o .o))))
noncomputable def lex_first_cf : Cf KK := ⟨CC, [lex_small_sp, lex_rest_sp, lex_span_sp, lex_word_sp, lex_great_sp, lex_digit_sp, lex_number_sp, lex_text_sp, strings_HasPrefix_sp], 67⟩

set_option maxRecDepth 100000 in
theorem lex_first_ok : SpOk Tryd.prog CC lex_first_sp := by
  intro env r hF h
  obtain ⟨a0, env0, rfl, h1⟩ := appW_v h
  obtain ⟨rfl, h2⟩ := appW_n h1
  obtain ⟨r0, rr0, rfl, h3⟩ := apR_v h2
  obtain ⟨r1, rr1, rfl, h4⟩ := apR_v h3
  obtain ⟨r2, rr2, rfl, h5⟩ := apR_v h4
  obtain ⟨rfl, h6⟩ := apR_n h5
  refine ⟨rfl, DnF_by (F := lex_first_cf) CC_ok (SsOk_c lex_small_ok (SsOk_c lex_rest_ok (SsOk_c lex_span_ok (SsOk_c lex_word_ok (SsOk_c lex_great_ok (SsOk_c lex_digit_ok (SsOk_c lex_number_ok (SsOk_c lex_text_ok (SsOk_c strings_HasPrefix_ok SsOk_n))))))))) t39 (A := lex_first_an) (ps := [.v 9]) (rs := [55, 3, 51]) (env := [.d (.v 9 a0)]) (r := [.v 55 r0, .v 3 r1, .v 51 r2]) (X := lex_first_o a0 r0 r1 r2) rfl (Nat.le_of_ble_eq_true rfl) rfl hF h6 ?_⟩
  kernel_rfl

def lex_Split_L1 (a0 : Str) (r0 : (List T_lex_Token)) (r1 : Int) (r2 : Int) (X1 : Int → (List T_lex_Token) → Prop) (x2 : Int) (x3 : (List T_lex_Token)) : Prop :=
  cnd (decide (x2 < (a0.length : Int))) ((0 ≤ x2 ∧ x2 ≤ (a0.length : Int) ∧ (a0.length : Int) ≤ (a0.length : Int)) ∧ ∃ z4 : T_lex_Token, ∃ z5 : Int, ∃ z6 : Int, (lex_first_o ((a0.drop x2.toNat).take ((a0.length : Int).toNat - x2.toNat)) z4 z5 z6) ∧ cnd (!(z6 == (0 : Int))) (([] : List T_lex_Token) = r0 ∧ x2 = r1 ∧ z6 = r2) ((x3.length ≤ 1000000000) ∧ (0 ≤ (IntKind.i64.wrap (x2 + z5)) ∧ (IntKind.i64.wrap (x2 + z5)) ≤ (a0.length : Int) ∧ (a0.length : Int) ≤ (a0.length : Int)) ∧ ∃ z7 : Str, (lex_span_o ((a0.drop (IntKind.i64.wrap (x2 + z5)).toNat).take ((a0.length : Int).toNat - (IntKind.i64.wrap (x2 + z5)).toNat)) lex_blank_o z7) ∧ X1 (IntKind.i64.wrap ((IntKind.i64.wrap (x2 + z5)) + (z7.length : Int))) (x3 ++ ([(⟨z4.Kind, z4.S, z4.N, x2⟩ : T_lex_Token)] : List T_lex_Token)))) (x3 = r0 ∧ (0 : Int) = r1 ∧ (0 : Int) = r2)
def lex_Split_o (a0 : Str) (r0 : (List T_lex_Token)) (r1 : Int) (r2 : Int) : Prop :=
  cnd (decide ((2000 : Int) < (a0.length : Int))) (([] : List T_lex_Token) = r0 ∧ (0 : Int) = r1 ∧ (3 : Int) = r2) (∃ z1 : Str, (lex_span_o a0 lex_blank_o z1) ∧ ∀ X1 : Int → (List T_lex_Token) → Prop, (∀ (x2 : Int) (x3 : (List T_lex_Token)), lex_Split_L1 a0 r0 r1 r2 X1 x2 x3 → X1 x2 x3) → X1 (z1.length : Int) ([] : List T_lex_Token))
def lex_Split_L1i (a0 : Str) (r0 : (List T_lex_Token)) (r1 : Int) (r2 : Int) (X1 : Int → (List T_lex_Token) → Prop) (x2 : Int) (x3 : (List T_lex_Token)) : Prop :=
  cnd (decide (x2 < (a0.length : Int))) ((0 ≤ x2 ∧ x2 ≤ (a0.length : Int) ∧ (a0.length : Int) ≤ (a0.length : Int)) ∧ ∃ z4 : T_lex_Token, ∃ z5 : Int, ∃ z6 : Int, (lex_first_o ((a0.drop x2.toNat).take ((a0.length : Int).toNat - x2.toNat)) z4 z5 z6) ∧ cnd (!(z6 == (0 : Int))) (([] : List T_lex_Token) = r0 ∧ x2 = r1 ∧ z6 = r2) ((x3.length ≤ 1000000000) ∧ (0 ≤ (IntKind.i64.wrap (x2 + z5)) ∧ (IntKind.i64.wrap (x2 + z5)) ≤ (a0.length : Int) ∧ (a0.length : Int) ≤ (a0.length : Int)) ∧ ∃ z7 : Str, (lex_span_o ((a0.drop (IntKind.i64.wrap (x2 + z5)).toNat).take ((a0.length : Int).toNat - (IntKind.i64.wrap (x2 + z5)).toNat)) lex_blank_o z7) ∧ X1 (IntKind.i64.wrap ((IntKind.i64.wrap (x2 + z5)) + (z7.length : Int))) (x3 ++ ([(⟨z4.Kind, z4.S, z4.N, x2⟩ : T_lex_Token)] : List T_lex_Token)))) (x3 = r0 ∧ (0 : Int) = r1 ∧ (0 : Int) = r2)
def lex_Split_oi (a0 : Str) (r0 : (List T_lex_Token)) (r1 : Int) (r2 : Int) : Prop :=
  cnd (decide ((2000 : Int) < (a0.length : Int))) (([] : List T_lex_Token) = r0 ∧ (0 : Int) = r1 ∧ (3 : Int) = r2) (∃ z1 : Str, (lex_span_o a0 lex_blank_o z1) ∧ ∀ X1 : Int → (List T_lex_Token) → Prop, (∀ (x2 : Int) (x3 : (List T_lex_Token)), lex_Split_L1i a0 r0 r1 r2 X1 x2 x3 → X1 x2 x3) → X1 (z1.length : Int) ([] : List T_lex_Token))
theorem lex_Split_L1_m (a0 : Str) (r0 : (List T_lex_Token)) (r1 : Int) (r2 : Int) {X1 : Int → (List T_lex_Token) → Prop} {x2 : Int} {x3 : (List T_lex_Token)} (h : lex_Split_L1i a0 r0 r1 r2 X1 x2 x3) : lex_Split_L1 a0 r0 r1 r2 X1 x2 x3 := by
  unfold lex_Split_L1
  unfold lex_Split_L1i at h
  exact h
theorem lex_Split_i (a0 : Str) (r0 : (List T_lex_Token)) (r1 : Int) (r2 : Int) (h : lex_Split_oi a0 r0 r1 r2) : lex_Split_o a0 r0 r1 r2 := by
  unfold lex_Split_o
  unfold lex_Split_oi at h
  refine cnd_mono h (fun h => ?_) (fun h => ?_)
  · exact h
  · obtain ⟨z1, h⟩ := h
    refine ⟨z1, ?_⟩
    obtain ⟨h0, h⟩ := h
    refine ⟨h0, ?_⟩
    intro X1 k
    exact h X1 (fun x2 x3 q => k x2 x3 (lex_Split_L1_m a0 r0 r1 r2 q))
noncomputable def lex_Split_sp : Sp KK := ⟨22, [.v 9], [50, 3, 51], appW (K := KK) [50, 3, 51] [.v 9] lex_Split_o⟩
noncomputable def lex_Split_an : An KK := (.s .o (.s (.s .o (.c (.s .o .o) .o)) (.s .o (.s (.s .o (.b (.l ⟨[(0, .kp 4), (5, .row 44), (6, .it .i64)], [], [(44, 55)]⟩ (fun _ => (.s (.s .o (.c .o .o)) (.s (.b (.s .o (.s (.s .o (.c (.s .o .o) .o)) (.s .o (.s .o .o))))) .o)))))) (.s .o .o)))))
noncomputable def lex_Split_cf : Cf KK := ⟨CC, [lex_blank_sp, lex_span_sp, lex_first_sp], 49⟩

set_option maxRecDepth 100000 in
theorem lex_Split_ok : SpOk Tryd.prog CC lex_Split_sp := by
  intro env r hF h
  obtain ⟨a0, env0, rfl, h1⟩ := appW_v h
  obtain ⟨rfl, h2⟩ := appW_n h1
  obtain ⟨r0, rr0, rfl, h3⟩ := apR_v h2
  obtain ⟨r1, rr1, rfl, h4⟩ := apR_v h3
  obtain ⟨r2, rr2, rfl, h5⟩ := apR_v h4
  obtain ⟨rfl, h6⟩ := apR_n h5
  refine ⟨rfl, DnF_by (F := lex_Split_cf) CC_ok (SsOk_c lex_blank_ok (SsOk_c lex_span_ok (SsOk_c lex_first_ok SsOk_n))) t22 (A := lex_Split_an) (ps := [.v 9]) (rs := [50, 3, 51]) (env := [.d (.v 9 a0)]) (r := [.v 50 r0, .v 3 r1, .v 51 r2]) (X := lex_Split_o a0 r0 r1 r2) rfl (Nat.le_of_ble_eq_true rfl) rfl hF h6 ?_⟩
  kernel_rfl

def lex_Good_o (a0 : Str) (r0 : Bool) : Prop :=
  cnd (!(a0 == ([] : Str))) (cnd (decide ((a0.length : Int) ≤ (16 : Int))) ((0 ≤ (0 : Int) ∧ (0 : Int) < (a0.length : Int)) ∧ ∃ z1 : Bool, (lex_small_o (bAt a0 (0 : Int)) z1) ∧ cnd z1 (∃ z2 : Str, (lex_span_o a0 lex_rest_o z2) ∧ (z2 == a0) = r0) (false = r0)) (false = r0)) (false = r0)
noncomputable def lex_Good_sp : Sp KK := ⟨21, [.v 9], [4], appW (K := KK) [4] [.v 9] lex_Good_o⟩
noncomputable def lex_Good_an : An KK := (.s .o (.s .o .o))
noncomputable def lex_Good_cf : Cf KK := ⟨CC, [lex_small_sp, lex_rest_sp, lex_span_sp], 21⟩

set_option maxRecDepth 100000 in
theorem lex_Good_ok : SpOk Tryd.prog CC lex_Good_sp := by
  intro env r hF h
  obtain ⟨a0, env0, rfl, h1⟩ := appW_v h
  obtain ⟨rfl, h2⟩ := appW_n h1
  obtain ⟨r0, rr0, rfl, h3⟩ := apR_v h2
  obtain ⟨rfl, h4⟩ := apR_n h3
  refine ⟨rfl, DnF_by (F := lex_Good_cf) CC_ok (SsOk_c lex_small_ok (SsOk_c lex_rest_ok (SsOk_c lex_span_ok SsOk_n))) t21 (A := lex_Good_an) (ps := [.v 9]) (rs := [4]) (env := [.d (.v 9 a0)]) (r := [.v 4 r0]) (X := lex_Good_o a0 r0) rfl (Nat.le_of_ble_eq_true rfl) rfl hF h4 ?_⟩
  kernel_rfl

def law14_speaks_J1 (r0 : Bool) (x4 : Bool) : Prop :=
  x4 = r0
def law14_speaks_o (r0 : Bool) : Prop :=
  ∃ z1 : (List T_lex_Token), ∃ z2 : Int, ∃ z3 : Int, (lex_Split_o ([97, 60, 61, 49] : Str) z1 z2 z3) ∧ ∀ J1 : Bool → Prop, (∀ (x4 : Bool), law14_speaks_J1 r0 x4 → J1 x4) → cnd (z3 == (0 : Int)) ((z1.length ≤ maxLen → cnd ((z1.length : Int) == (3 : Int)) ((0 ≤ (0 : Int)) ∧ ((0 : Int) < (z1.length : Int)) ∧ ∃ y5 : T_lex_Token, (z1[(0 : Int).toNat]? = some y5) ∧ cnd ((y5.Kind == (1 : Int)) && ((y5.S == ([97] : Str)) && ((y5.N == (0 : Int)) && ((y5.At == (0 : Int)) && true)))) ((0 ≤ (1 : Int)) ∧ ((1 : Int) < (z1.length : Int)) ∧ ∃ y6 : T_lex_Token, (z1[(1 : Int).toNat]? = some y6) ∧ cnd (y6.S == ([60, 61] : Str)) ((0 ≤ (2 : Int)) ∧ ((2 : Int) < (z1.length : Int)) ∧ ∃ y7 : T_lex_Token, (z1[(2 : Int).toNat]? = some y7) ∧ cnd (y7.N == (1 : Int)) ((0 ≤ (2 : Int)) ∧ ((2 : Int) < (z1.length : Int)) ∧ ∃ y8 : T_lex_Token, (z1[(2 : Int).toNat]? = some y8) ∧ cnd (y8.At == (3 : Int)) (∃ z9 : Bool, (lex_Good_o ([97, 95, 49] : Str) z9) ∧ J1 z9) (J1 false)) (J1 false)) (J1 false)) (J1 false)) (J1 false))) (J1 false)
def law14_speaks_J1i (r0 : Bool) (x4 : Bool) : Prop :=
  x4 = r0
def law14_speaks_oi (r0 : Bool) : Prop :=
  ∃ z1 : (List T_lex_Token), ∃ z2 : Int, ∃ z3 : Int, (lex_Split_o ([97, 60, 61, 49] : Str) z1 z2 z3) ∧ cnd (z3 == (0 : Int)) ((z1.length ≤ maxLen → cnd ((z1.length : Int) == (3 : Int)) ((0 ≤ (0 : Int)) ∧ ((0 : Int) < (z1.length : Int)) ∧ ∃ y5 : T_lex_Token, (z1[(0 : Int).toNat]? = some y5) ∧ cnd ((y5.Kind == (1 : Int)) && ((y5.S == ([97] : Str)) && ((y5.N == (0 : Int)) && ((y5.At == (0 : Int)) && true)))) ((0 ≤ (1 : Int)) ∧ ((1 : Int) < (z1.length : Int)) ∧ ∃ y6 : T_lex_Token, (z1[(1 : Int).toNat]? = some y6) ∧ cnd (y6.S == ([60, 61] : Str)) ((0 ≤ (2 : Int)) ∧ ((2 : Int) < (z1.length : Int)) ∧ ∃ y7 : T_lex_Token, (z1[(2 : Int).toNat]? = some y7) ∧ cnd (y7.N == (1 : Int)) ((0 ≤ (2 : Int)) ∧ ((2 : Int) < (z1.length : Int)) ∧ ∃ y8 : T_lex_Token, (z1[(2 : Int).toNat]? = some y8) ∧ cnd (y8.At == (3 : Int)) (∃ z9 : Bool, (lex_Good_o ([97, 95, 49] : Str) z9) ∧ law14_speaks_J1i r0 z9) (law14_speaks_J1i r0 false)) (law14_speaks_J1i r0 false)) (law14_speaks_J1i r0 false)) (law14_speaks_J1i r0 false)) (law14_speaks_J1i r0 false))) (law14_speaks_J1i r0 false)
theorem law14_speaks_J1_m (r0 : Bool) {x4 : Bool} (h : law14_speaks_J1i r0 x4) : law14_speaks_J1 r0 x4 := by
  unfold law14_speaks_J1
  unfold law14_speaks_J1i at h
  exact h
theorem law14_speaks_i (r0 : Bool) (h : law14_speaks_oi r0) : law14_speaks_o r0 := by
  unfold law14_speaks_o
  unfold law14_speaks_oi at h
  obtain ⟨z1, h⟩ := h
  refine ⟨z1, ?_⟩
  obtain ⟨z2, h⟩ := h
  refine ⟨z2, ?_⟩
  obtain ⟨z3, h⟩ := h
  refine ⟨z3, ?_⟩
  obtain ⟨h0, h⟩ := h
  refine ⟨h0, ?_⟩
  intro J1 kJ1
  have hJ1 : ∀ (x4 : Bool), law14_speaks_J1i r0 x4 → J1 x4 := fun x4 q => kJ1 x4 (law14_speaks_J1_m r0 q)
  refine cnd_mono h (fun h => ?_) (fun h => ?_)
  · intro c
    replace h := h c
    refine cnd_mono h (fun h => ?_) (fun h => ?_)
    · obtain ⟨h0, h⟩ := h
      refine ⟨h0, ?_⟩
      obtain ⟨h0, h⟩ := h
      refine ⟨h0, ?_⟩
      obtain ⟨y5, h⟩ := h
      refine ⟨y5, ?_⟩
      obtain ⟨h0, h⟩ := h
      refine ⟨h0, ?_⟩
      refine cnd_mono h (fun h => ?_) (fun h => ?_)
      · obtain ⟨h0, h⟩ := h
        refine ⟨h0, ?_⟩
        obtain ⟨h0, h⟩ := h
        refine ⟨h0, ?_⟩
        obtain ⟨y6, h⟩ := h
        refine ⟨y6, ?_⟩
        obtain ⟨h0, h⟩ := h
        refine ⟨h0, ?_⟩
        refine cnd_mono h (fun h => ?_) (fun h => ?_)
        · obtain ⟨h0, h⟩ := h
          refine ⟨h0, ?_⟩
          obtain ⟨h0, h⟩ := h
          refine ⟨h0, ?_⟩
          obtain ⟨y7, h⟩ := h
          refine ⟨y7, ?_⟩
          obtain ⟨h0, h⟩ := h
          refine ⟨h0, ?_⟩
          refine cnd_mono h (fun h => ?_) (fun h => ?_)
          · obtain ⟨h0, h⟩ := h
            refine ⟨h0, ?_⟩
            obtain ⟨h0, h⟩ := h
            refine ⟨h0, ?_⟩
            obtain ⟨y8, h⟩ := h
            refine ⟨y8, ?_⟩
            obtain ⟨h0, h⟩ := h
            refine ⟨h0, ?_⟩
            refine cnd_mono h (fun h => ?_) (fun h => ?_)
            · obtain ⟨z9, h⟩ := h
              refine ⟨z9, ?_⟩
              obtain ⟨h0, h⟩ := h
              refine ⟨h0, ?_⟩
              exact hJ1 _ h
            · exact hJ1 _ h
          · exact hJ1 _ h
        · exact hJ1 _ h
      · exact hJ1 _ h
    · exact hJ1 _ h
  · exact hJ1 _ h
noncomputable def law14_speaks_sp : Sp KK := ⟨20, [], [4], appW (K := KK) [4] [] law14_speaks_o⟩
noncomputable def law14_speaks_an : An KK := (.s .o (.s .o (.j ⟨[(0, .bl)], [], []⟩ .o (fun _ => .o))))
noncomputable def law14_speaks_cf : Cf KK := ⟨CC, [lex_Split_sp, lex_Good_sp], 47⟩

set_option maxRecDepth 100000 in
theorem law14_speaks_ok : SpOk Tryd.prog CC law14_speaks_sp := by
  intro env r hF h
  obtain ⟨rfl, h1⟩ := appW_n h
  obtain ⟨r0, rr0, rfl, h2⟩ := apR_v h1
  obtain ⟨rfl, h3⟩ := apR_n h2
  refine ⟨rfl, DnF_by (F := law14_speaks_cf) CC_ok (SsOk_c lex_Split_ok (SsOk_c lex_Good_ok SsOk_n)) t20 (A := law14_speaks_an) (ps := []) (rs := [4]) (env := []) (r := [.v 4 r0]) (X := law14_speaks_o  r0) rfl (Nat.le_of_ble_eq_true rfl) rfl hF h3 ?_⟩
  kernel_rfl

def ref14_class_J4 (r0 : Int) (x4 : Bool) : Prop :=
  cnd x4 ((6 : Int) = r0) ((0 : Int) = r0)
def ref14_class_J3 (r0 : Int) (a0 : Int) (x3 : Bool) : Prop :=
  cnd x3 ((3 : Int) = r0) (cnd (a0 == (95 : Int)) ((4 : Int) = r0) (cnd (a0 == (39 : Int)) ((5 : Int) = r0) (∀ J4 : Bool → Prop, (∀ (x4 : Bool), ref14_class_J4 r0 x4 → J4 x4) → cnd (a0 == (32 : Int)) (J4 true) (J4 (a0 == (10 : Int))))))
def ref14_class_J2 (r0 : Int) (a0 : Int) (x2 : Bool) : Prop :=
  cnd x2 ((2 : Int) = r0) (∀ J3 : Bool → Prop, (∀ (x3 : Bool), ref14_class_J3 r0 a0 x3 → J3 x3) → cnd (decide ((48 : Int) ≤ a0)) (J3 (decide (a0 ≤ (57 : Int)))) (J3 false))
def ref14_class_J1 (r0 : Int) (a0 : Int) (x1 : Bool) : Prop :=
  cnd x1 ((1 : Int) = r0) (∀ J2 : Bool → Prop, (∀ (x2 : Bool), ref14_class_J2 r0 a0 x2 → J2 x2) → cnd (decide ((65 : Int) ≤ a0)) (J2 (decide (a0 ≤ (90 : Int)))) (J2 false))
def ref14_class_o (a0 : Int) (r0 : Int) : Prop :=
  ∀ J1 : Bool → Prop, (∀ (x1 : Bool), ref14_class_J1 r0 a0 x1 → J1 x1) → cnd (decide ((97 : Int) ≤ a0)) (J1 (decide (a0 ≤ (122 : Int)))) (J1 false)
def ref14_class_J4i (r0 : Int) (x4 : Bool) : Prop :=
  cnd x4 ((6 : Int) = r0) ((0 : Int) = r0)
def ref14_class_J3i (a0 : Int) (r0 : Int) (x3 : Bool) : Prop :=
  cnd x3 ((3 : Int) = r0) (cnd (a0 == (95 : Int)) ((4 : Int) = r0) (cnd (a0 == (39 : Int)) ((5 : Int) = r0) (cnd (a0 == (32 : Int)) (ref14_class_J4i r0 true) (ref14_class_J4i r0 (a0 == (10 : Int))))))
def ref14_class_J2i (a0 : Int) (r0 : Int) (x2 : Bool) : Prop :=
  cnd x2 ((2 : Int) = r0) (cnd (decide ((48 : Int) ≤ a0)) (ref14_class_J3i a0 r0 (decide (a0 ≤ (57 : Int)))) (ref14_class_J3i a0 r0 false))
def ref14_class_J1i (a0 : Int) (r0 : Int) (x1 : Bool) : Prop :=
  cnd x1 ((1 : Int) = r0) (cnd (decide ((65 : Int) ≤ a0)) (ref14_class_J2i a0 r0 (decide (a0 ≤ (90 : Int)))) (ref14_class_J2i a0 r0 false))
def ref14_class_oi (a0 : Int) (r0 : Int) : Prop :=
  cnd (decide ((97 : Int) ≤ a0)) (ref14_class_J1i a0 r0 (decide (a0 ≤ (122 : Int)))) (ref14_class_J1i a0 r0 false)
theorem ref14_class_J4_m (r0 : Int) {x4 : Bool} (h : ref14_class_J4i r0 x4) : ref14_class_J4 r0 x4 := by
  unfold ref14_class_J4
  unfold ref14_class_J4i at h
  exact h
theorem ref14_class_J3_m (a0 : Int) (r0 : Int) {x3 : Bool} (h : ref14_class_J3i a0 r0 x3) : ref14_class_J3 r0 a0 x3 := by
  unfold ref14_class_J3
  unfold ref14_class_J3i at h
  refine cnd_mono h (fun h => ?_) (fun h => ?_)
  · exact h
  · refine cnd_mono h (fun h => ?_) (fun h => ?_)
    · exact h
    · refine cnd_mono h (fun h => ?_) (fun h => ?_)
      · exact h
      · intro J4 kJ4
        have hJ4 : ∀ (x4 : Bool), ref14_class_J4i r0 x4 → J4 x4 := fun x4 q => kJ4 x4 (ref14_class_J4_m r0 q)
        refine cnd_mono h (fun h => ?_) (fun h => ?_)
        · exact hJ4 _ h
        · exact hJ4 _ h
theorem ref14_class_J2_m (a0 : Int) (r0 : Int) {x2 : Bool} (h : ref14_class_J2i a0 r0 x2) : ref14_class_J2 r0 a0 x2 := by
  unfold ref14_class_J2
  unfold ref14_class_J2i at h
  refine cnd_mono h (fun h => ?_) (fun h => ?_)
  · exact h
  · intro J3 kJ3
    have hJ3 : ∀ (x3 : Bool), ref14_class_J3i a0 r0 x3 → J3 x3 := fun x3 q => kJ3 x3 (ref14_class_J3_m a0 r0 q)
    refine cnd_mono h (fun h => ?_) (fun h => ?_)
    · exact hJ3 _ h
    · exact hJ3 _ h
theorem ref14_class_J1_m (a0 : Int) (r0 : Int) {x1 : Bool} (h : ref14_class_J1i a0 r0 x1) : ref14_class_J1 r0 a0 x1 := by
  unfold ref14_class_J1
  unfold ref14_class_J1i at h
  refine cnd_mono h (fun h => ?_) (fun h => ?_)
  · exact h
  · intro J2 kJ2
    have hJ2 : ∀ (x2 : Bool), ref14_class_J2i a0 r0 x2 → J2 x2 := fun x2 q => kJ2 x2 (ref14_class_J2_m a0 r0 q)
    refine cnd_mono h (fun h => ?_) (fun h => ?_)
    · exact hJ2 _ h
    · exact hJ2 _ h
theorem ref14_class_i (a0 : Int) (r0 : Int) (h : ref14_class_oi a0 r0) : ref14_class_o a0 r0 := by
  unfold ref14_class_o
  unfold ref14_class_oi at h
  intro J1 kJ1
  have hJ1 : ∀ (x1 : Bool), ref14_class_J1i a0 r0 x1 → J1 x1 := fun x1 q => kJ1 x1 (ref14_class_J1_m a0 r0 q)
  refine cnd_mono h (fun h => ?_) (fun h => ?_)
  · exact hJ1 _ h
  · exact hJ1 _ h
noncomputable def ref14_class_sp : Sp KK := ⟨40, [.v 5], [3], appW (K := KK) [3] [.v 5] ref14_class_o⟩
noncomputable def ref14_class_an : An KK := (.s .o (.s (.b (.j ⟨[(0, .kp 2), (3, .bl)], [], []⟩ .o (fun _ => (.c (.s .o .o) (.j ⟨[(0, .kp 2), (10, .bl)], [], []⟩ .o (fun _ => (.c (.s .o .o) (.j ⟨[(0, .kp 2), (17, .bl)], [], []⟩ .o (fun _ => (.c (.s .o .o) (.s .o (.c (.s .o .o) (.s .o (.c (.s .o .o) (.j ⟨[(30, .bl)], [], []⟩ .o (fun _ => (.c (.s .o .o) .o))))))))))))))))) (.s .o .o)))
noncomputable def ref14_class_cf : Cf KK := ⟨CC, [], 37⟩

set_option maxRecDepth 100000 in
theorem ref14_class_ok : SpOk Tryd.prog CC ref14_class_sp := by
  intro env r hF h
  obtain ⟨a0, env0, rfl, h1⟩ := appW_v h
  obtain ⟨rfl, h2⟩ := appW_n h1
  obtain ⟨r0, rr0, rfl, h3⟩ := apR_v h2
  obtain ⟨rfl, h4⟩ := apR_n h3
  refine ⟨rfl, DnF_by (F := ref14_class_cf) CC_ok SsOk_n t40 (A := ref14_class_an) (ps := [.v 5]) (rs := [3]) (env := [.d (.v 5 a0)]) (r := [.v 3 r0]) (X := ref14_class_o a0 r0) rfl (Nat.le_of_ble_eq_true rfl) rfl hF h4 ?_⟩
  kernel_rfl

def ref14_Good_J3 (r0 : Bool) (X2 : Int → Prop) (x2 : Int) (x4 : Bool) : Prop :=
  cnd x4 (false = r0) (X2 (IntKind.i64.wrap (x2 + (1 : Int))))
def ref14_Good_L2 (a0 : Str) (r0 : Bool) (X2 : Int → Prop) (x2 : Int) : Prop :=
  cnd (decide (x2 < (a0.length : Int))) ((0 ≤ x2 ∧ x2 < (a0.length : Int)) ∧ ∃ z3 : Int, (ref14_class_o (bAt a0 x2) z3) ∧ ∀ J3 : Bool → Prop, (∀ (x4 : Bool), ref14_Good_J3 r0 X2 x2 x4 → J3 x4) → cnd (!(z3 == (1 : Int))) (cnd (!(z3 == (3 : Int))) (J3 (!(z3 == (4 : Int)))) (J3 false)) (J3 false)) (true = r0)
def ref14_Good_J1 (r0 : Bool) (a0 : Str) (x1 : Bool) : Prop :=
  cnd x1 (false = r0) (∀ X2 : Int → Prop, (∀ (x2 : Int), ref14_Good_L2 a0 r0 X2 x2 → X2 x2) → X2 (0 : Int))
def ref14_Good_o (a0 : Str) (r0 : Bool) : Prop :=
  ∀ J1 : Bool → Prop, (∀ (x1 : Bool), ref14_Good_J1 r0 a0 x1 → J1 x1) → cnd (decide ((a0.length : Int) < (1 : Int))) (J1 true) (cnd (decide ((16 : Int) < (a0.length : Int))) (J1 true) ((0 ≤ (0 : Int) ∧ (0 : Int) < (a0.length : Int)) ∧ ∃ z5 : Int, (ref14_class_o (bAt a0 (0 : Int)) z5) ∧ J1 (!(z5 == (1 : Int)))))
def ref14_Good_J3i (X2 : Int → Prop) (r0 : Bool) (x2 : Int) (x4 : Bool) : Prop :=
  cnd x4 (false = r0) (X2 (IntKind.i64.wrap (x2 + (1 : Int))))
def ref14_Good_L2i (a0 : Str) (r0 : Bool) (X2 : Int → Prop) (x2 : Int) : Prop :=
  cnd (decide (x2 < (a0.length : Int))) ((0 ≤ x2 ∧ x2 < (a0.length : Int)) ∧ ∃ z3 : Int, (ref14_class_o (bAt a0 x2) z3) ∧ cnd (!(z3 == (1 : Int))) (cnd (!(z3 == (3 : Int))) (ref14_Good_J3i X2 r0 x2 (!(z3 == (4 : Int)))) (ref14_Good_J3i X2 r0 x2 false)) (ref14_Good_J3i X2 r0 x2 false)) (true = r0)
def ref14_Good_J1i (a0 : Str) (r0 : Bool) (x1 : Bool) : Prop :=
  cnd x1 (false = r0) (∀ X2 : Int → Prop, (∀ (x2 : Int), ref14_Good_L2i a0 r0 X2 x2 → X2 x2) → X2 (0 : Int))
def ref14_Good_oi (a0 : Str) (r0 : Bool) : Prop :=
  cnd (decide ((a0.length : Int) < (1 : Int))) (ref14_Good_J1i a0 r0 true) (cnd (decide ((16 : Int) < (a0.length : Int))) (ref14_Good_J1i a0 r0 true) ((0 ≤ (0 : Int) ∧ (0 : Int) < (a0.length : Int)) ∧ ∃ z5 : Int, (ref14_class_o (bAt a0 (0 : Int)) z5) ∧ ref14_Good_J1i a0 r0 (!(z5 == (1 : Int)))))
theorem ref14_Good_J3_m (X2 : Int → Prop) (r0 : Bool) (x2 : Int) {x4 : Bool} (h : ref14_Good_J3i X2 r0 x2 x4) : ref14_Good_J3 r0 X2 x2 x4 := by
  unfold ref14_Good_J3
  unfold ref14_Good_J3i at h
  exact h
theorem ref14_Good_L2_m (a0 : Str) (r0 : Bool) {X2 : Int → Prop} {x2 : Int} (h : ref14_Good_L2i a0 r0 X2 x2) : ref14_Good_L2 a0 r0 X2 x2 := by
  unfold ref14_Good_L2
  unfold ref14_Good_L2i at h
  refine cnd_mono h (fun h => ?_) (fun h => ?_)
  · obtain ⟨h0, h⟩ := h
    refine ⟨h0, ?_⟩
    obtain ⟨z3, h⟩ := h
    refine ⟨z3, ?_⟩
    obtain ⟨h0, h⟩ := h
    refine ⟨h0, ?_⟩
    intro J3 kJ3
    have hJ3 : ∀ (x4 : Bool), ref14_Good_J3i X2 r0 x2 x4 → J3 x4 := fun x4 q => kJ3 x4 (ref14_Good_J3_m X2 r0 x2 q)
    refine cnd_mono h (fun h => ?_) (fun h => ?_)
    · refine cnd_mono h (fun h => ?_) (fun h => ?_)
      · exact hJ3 _ h
      · exact hJ3 _ h
    · exact hJ3 _ h
  · exact h
theorem ref14_Good_J1_m (a0 : Str) (r0 : Bool) {x1 : Bool} (h : ref14_Good_J1i a0 r0 x1) : ref14_Good_J1 r0 a0 x1 := by
  unfold ref14_Good_J1
  unfold ref14_Good_J1i at h
  refine cnd_mono h (fun h => ?_) (fun h => ?_)
  · exact h
  · intro X2 k
    exact h X2 (fun x2 q => k x2 (ref14_Good_L2_m a0 r0 q))
theorem ref14_Good_i (a0 : Str) (r0 : Bool) (h : ref14_Good_oi a0 r0) : ref14_Good_o a0 r0 := by
  unfold ref14_Good_o
  unfold ref14_Good_oi at h
  intro J1 kJ1
  have hJ1 : ∀ (x1 : Bool), ref14_Good_J1i a0 r0 x1 → J1 x1 := fun x1 q => kJ1 x1 (ref14_Good_J1_m a0 r0 q)
  refine cnd_mono h (fun h => ?_) (fun h => ?_)
  · exact hJ1 _ h
  · refine cnd_mono h (fun h => ?_) (fun h => ?_)
    · exact hJ1 _ h
    · obtain ⟨h0, h⟩ := h
      refine ⟨h0, ?_⟩
      obtain ⟨z5, h⟩ := h
      refine ⟨z5, ?_⟩
      obtain ⟨h0, h⟩ := h
      refine ⟨h0, ?_⟩
      exact hJ1 _ h
noncomputable def ref14_Good_sp : Sp KK := ⟨23, [.v 9], [4], appW (K := KK) [4] [.v 9] ref14_Good_o⟩
noncomputable def ref14_Good_an : An KK := (.s .o (.s (.j ⟨[(0, .kp 2), (18, .bl)], [], []⟩ .o (fun _ => (.c (.s .o .o) .o))) (.s (.s .o (.b (.l ⟨[(0, .kp 2), (3, .it .i64)], [], []⟩ (fun _ => (.s (.s .o (.c .o .o)) (.s (.b (.s .o (.j ⟨[(0, .kp 2), (3, .kp 12), (38, .bl)], [], []⟩ .o (fun _ => (.c (.s .o .o) .o))))) .o)))))) (.s .o .o))))
noncomputable def ref14_Good_cf : Cf KK := ⟨CC, [ref14_class_sp], 39⟩

set_option maxRecDepth 100000 in
theorem ref14_Good_ok : SpOk Tryd.prog CC ref14_Good_sp := by
  intro env r hF h
  obtain ⟨a0, env0, rfl, h1⟩ := appW_v h
  obtain ⟨rfl, h2⟩ := appW_n h1
  obtain ⟨r0, rr0, rfl, h3⟩ := apR_v h2
  obtain ⟨rfl, h4⟩ := apR_n h3
  refine ⟨rfl, DnF_by (F := ref14_Good_cf) CC_ok (SsOk_c ref14_class_ok SsOk_n) t23 (A := ref14_Good_an) (ps := [.v 9]) (rs := [4]) (env := [.d (.v 9 a0)]) (r := [.v 4 r0]) (X := ref14_Good_o a0 r0) rfl (Nat.le_of_ble_eq_true rfl) rfl hF h4 ?_⟩
  kernel_rfl

def law14_LexNames_J3 (r0 : Bool) (x13 : Bool) : Prop :=
  x13 = r0
def law14_LexNames_L2 (r0 : Bool) (a0 : Str) (z2 : Bool) (x6 : Bool) (X2 : Int → (List Int) → Prop) (x7 : Int) (x8 : (List Int)) : Prop :=
  cnd (decide (x7 < (x8.length : Int))) ((0 ≤ x7) ∧ (x7 < (x8.length : Int)) ∧ ∃ y9 : Int, (x8[x7.toNat]? = some y9) ∧ X2 (IntKind.i64.wrap (x7 + (1 : Int))) (x8.set x7.toNat (40 : Int))) (∃ z10 : (List T_lex_Token), ∃ z11 : Int, ∃ z12 : Int, (lex_Split_o (x8.map toB) z10 z11 z12) ∧ cnd (decide ((2000 : Int) < (x8.length : Int))) (∀ J3 : Bool → Prop, (∀ (x13 : Bool), law14_LexNames_J3 r0 x13 → J3 x13) → ∃ z14 : Bool, (ref14_Good_o ((a0.drop (0 : Int).toNat).take ((if (30 : Int) < (a0.length : Int) then (30 : Int) else (a0.length : Int)).toNat - (0 : Int).toNat)) z14) ∧ cnd (z2 == z14) (cnd (x6 == z2) (cnd (z12 == (3 : Int)) (cnd (z11 == (0 : Int)) ((z10.length ≤ maxLen → J3 ((z10.length : Int) == (0 : Int)))) (J3 false)) (J3 false)) (J3 false)) (J3 false)) (∃ z15 : Bool, (ref14_Good_o ((a0.drop (0 : Int).toNat).take ((if (30 : Int) < (a0.length : Int) then (30 : Int) else (a0.length : Int)).toNat - (0 : Int).toNat)) z15) ∧ cnd (z2 == z15) (cnd (x6 == z2) (cnd (z12 == (0 : Int)) ((z10.length ≤ maxLen → ((z10.length : Int) == (x8.length : Int)) = r0)) (false = r0)) (false = r0)) (false = r0)))
def law14_LexNames_J1 (a1 : Int) (r0 : Bool) (a0 : Str) (z2 : Bool) (x6 : Bool) : Prop :=
  (0 ≤ ((IntKind.i64.wrap a1).tmod (4000 : Int))) ∧ (1 * ((IntKind.i64.wrap a1).tmod (4000 : Int)).toNat ≤ 281474976710656) ∧ (((IntKind.i64.wrap a1).tmod (4000 : Int)) ≤ 1000000000) ∧ ∀ X2 : Int → (List Int) → Prop, (∀ (x7 : Int) (x8 : (List Int)), law14_LexNames_L2 r0 a0 z2 x6 X2 x7 x8 → X2 x7 x8) → X2 (0 : Int) (List.replicate ((IntKind.i64.wrap a1).tmod (4000 : Int)).toNat (0 : Int))
def law14_LexNames_o (a0 : Str) (a1 : Int) (r0 : Bool) : Prop :=
  ∃ z1 : Bool, (law14_speaks_o z1) ∧ cnd (!z1) (false = r0) ((0 ≤ (0 : Int) ∧ (0 : Int) ≤ (if (30 : Int) < (a0.length : Int) then (30 : Int) else (a0.length : Int)) ∧ (if (30 : Int) < (a0.length : Int) then (30 : Int) else (a0.length : Int)) ≤ (a0.length : Int)) ∧ ∃ z2 : Bool, (lex_Good_o ((a0.drop (0 : Int).toNat).take ((if (30 : Int) < (a0.length : Int) then (30 : Int) else (a0.length : Int)).toNat - (0 : Int).toNat)) z2) ∧ ∃ z3 : (List T_lex_Token), ∃ z4 : Int, ∃ z5 : Int, (lex_Split_o ((a0.drop (0 : Int).toNat).take ((if (30 : Int) < (a0.length : Int) then (30 : Int) else (a0.length : Int)).toNat - (0 : Int).toNat)) z3 z4 z5) ∧ ∀ J1 : Bool → Prop, (∀ (x6 : Bool), law14_LexNames_J1 a1 r0 a0 z2 x6 → J1 x6) → cnd (z5 == (0 : Int)) ((z3.length ≤ maxLen → cnd ((z3.length : Int) == (1 : Int)) ((0 ≤ (0 : Int)) ∧ ((0 : Int) < (z3.length : Int)) ∧ ∃ y16 : T_lex_Token, (z3[(0 : Int).toNat]? = some y16) ∧ cnd (y16.Kind == (1 : Int)) ((0 ≤ (0 : Int)) ∧ ((0 : Int) < (z3.length : Int)) ∧ ∃ y17 : T_lex_Token, (z3[(0 : Int).toNat]? = some y17) ∧ J1 (y17.S == ((a0.drop (0 : Int).toNat).take ((if (30 : Int) < (a0.length : Int) then (30 : Int) else (a0.length : Int)).toNat - (0 : Int).toNat)))) (J1 false)) (J1 false))) (J1 false))
def law14_LexNames_J3i (r0 : Bool) (x13 : Bool) : Prop :=
  x13 = r0
def law14_LexNames_L2i (a0 : Str) (r0 : Bool) (x6 : Bool) (z2 : Bool) (X2 : Int → (List Int) → Prop) (x7 : Int) (x8 : (List Int)) : Prop :=
  cnd (decide (x7 < (x8.length : Int))) ((0 ≤ x7) ∧ (x7 < (x8.length : Int)) ∧ ∃ y9 : Int, (x8[x7.toNat]? = some y9) ∧ X2 (IntKind.i64.wrap (x7 + (1 : Int))) (x8.set x7.toNat (40 : Int))) (∃ z10 : (List T_lex_Token), ∃ z11 : Int, ∃ z12 : Int, (lex_Split_o (x8.map toB) z10 z11 z12) ∧ cnd (decide ((2000 : Int) < (x8.length : Int))) (∃ z14 : Bool, (ref14_Good_o ((a0.drop (0 : Int).toNat).take ((if (30 : Int) < (a0.length : Int) then (30 : Int) else (a0.length : Int)).toNat - (0 : Int).toNat)) z14) ∧ cnd (z2 == z14) (cnd (x6 == z2) (cnd (z12 == (3 : Int)) (cnd (z11 == (0 : Int)) ((z10.length ≤ maxLen → law14_LexNames_J3i r0 ((z10.length : Int) == (0 : Int)))) (law14_LexNames_J3i r0 false)) (law14_LexNames_J3i r0 false)) (law14_LexNames_J3i r0 false)) (law14_LexNames_J3i r0 false)) (∃ z15 : Bool, (ref14_Good_o ((a0.drop (0 : Int).toNat).take ((if (30 : Int) < (a0.length : Int) then (30 : Int) else (a0.length : Int)).toNat - (0 : Int).toNat)) z15) ∧ cnd (z2 == z15) (cnd (x6 == z2) (cnd (z12 == (0 : Int)) ((z10.length ≤ maxLen → ((z10.length : Int) == (x8.length : Int)) = r0)) (false = r0)) (false = r0)) (false = r0)))
def law14_LexNames_J1i (a0 : Str) (a1 : Int) (r0 : Bool) (z2 : Bool) (x6 : Bool) : Prop :=
  (0 ≤ ((IntKind.i64.wrap a1).tmod (4000 : Int))) ∧ (1 * ((IntKind.i64.wrap a1).tmod (4000 : Int)).toNat ≤ 281474976710656) ∧ (((IntKind.i64.wrap a1).tmod (4000 : Int)) ≤ 1000000000) ∧ ∀ X2 : Int → (List Int) → Prop, (∀ (x7 : Int) (x8 : (List Int)), law14_LexNames_L2i a0 r0 x6 z2 X2 x7 x8 → X2 x7 x8) → X2 (0 : Int) (List.replicate ((IntKind.i64.wrap a1).tmod (4000 : Int)).toNat (0 : Int))
def law14_LexNames_oi (a0 : Str) (a1 : Int) (r0 : Bool) : Prop :=
  ∃ z1 : Bool, (law14_speaks_o z1) ∧ cnd (!z1) (false = r0) ((0 ≤ (0 : Int) ∧ (0 : Int) ≤ (if (30 : Int) < (a0.length : Int) then (30 : Int) else (a0.length : Int)) ∧ (if (30 : Int) < (a0.length : Int) then (30 : Int) else (a0.length : Int)) ≤ (a0.length : Int)) ∧ ∃ z2 : Bool, (lex_Good_o ((a0.drop (0 : Int).toNat).take ((if (30 : Int) < (a0.length : Int) then (30 : Int) else (a0.length : Int)).toNat - (0 : Int).toNat)) z2) ∧ ∃ z3 : (List T_lex_Token), ∃ z4 : Int, ∃ z5 : Int, (lex_Split_o ((a0.drop (0 : Int).toNat).take ((if (30 : Int) < (a0.length : Int) then (30 : Int) else (a0.length : Int)).toNat - (0 : Int).toNat)) z3 z4 z5) ∧ cnd (z5 == (0 : Int)) ((z3.length ≤ maxLen → cnd ((z3.length : Int) == (1 : Int)) ((0 ≤ (0 : Int)) ∧ ((0 : Int) < (z3.length : Int)) ∧ ∃ y16 : T_lex_Token, (z3[(0 : Int).toNat]? = some y16) ∧ cnd (y16.Kind == (1 : Int)) ((0 ≤ (0 : Int)) ∧ ((0 : Int) < (z3.length : Int)) ∧ ∃ y17 : T_lex_Token, (z3[(0 : Int).toNat]? = some y17) ∧ law14_LexNames_J1i a0 a1 r0 z2 (y17.S == ((a0.drop (0 : Int).toNat).take ((if (30 : Int) < (a0.length : Int) then (30 : Int) else (a0.length : Int)).toNat - (0 : Int).toNat)))) (law14_LexNames_J1i a0 a1 r0 z2 false)) (law14_LexNames_J1i a0 a1 r0 z2 false))) (law14_LexNames_J1i a0 a1 r0 z2 false))
theorem law14_LexNames_J3_m (r0 : Bool) {x13 : Bool} (h : law14_LexNames_J3i r0 x13) : law14_LexNames_J3 r0 x13 := by
  unfold law14_LexNames_J3
  unfold law14_LexNames_J3i at h
  exact h
theorem law14_LexNames_L2_m (a0 : Str) (r0 : Bool) (x6 : Bool) (z2 : Bool) {X2 : Int → (List Int) → Prop} {x7 : Int} {x8 : (List Int)} (h : law14_LexNames_L2i a0 r0 x6 z2 X2 x7 x8) : law14_LexNames_L2 r0 a0 z2 x6 X2 x7 x8 := by
  unfold law14_LexNames_L2
  unfold law14_LexNames_L2i at h
  refine cnd_mono h (fun h => ?_) (fun h => ?_)
  · exact h
  · obtain ⟨z10, h⟩ := h
    refine ⟨z10, ?_⟩
    obtain ⟨z11, h⟩ := h
    refine ⟨z11, ?_⟩
    obtain ⟨z12, h⟩ := h
    refine ⟨z12, ?_⟩
    obtain ⟨h0, h⟩ := h
    refine ⟨h0, ?_⟩
    refine cnd_mono h (fun h => ?_) (fun h => ?_)
    · intro J3 kJ3
      have hJ3 : ∀ (x13 : Bool), law14_LexNames_J3i r0 x13 → J3 x13 := fun x13 q => kJ3 x13 (law14_LexNames_J3_m r0 q)
      obtain ⟨z14, h⟩ := h
      refine ⟨z14, ?_⟩
      obtain ⟨h0, h⟩ := h
      refine ⟨h0, ?_⟩
      refine cnd_mono h (fun h => ?_) (fun h => ?_)
      · refine cnd_mono h (fun h => ?_) (fun h => ?_)
        · refine cnd_mono h (fun h => ?_) (fun h => ?_)
          · refine cnd_mono h (fun h => ?_) (fun h => ?_)
            · intro c
              replace h := h c
              exact hJ3 _ h
            · exact hJ3 _ h
          · exact hJ3 _ h
        · exact hJ3 _ h
      · exact hJ3 _ h
    · exact h
theorem law14_LexNames_J1_m (a0 : Str) (a1 : Int) (r0 : Bool) (z2 : Bool) {x6 : Bool} (h : law14_LexNames_J1i a0 a1 r0 z2 x6) : law14_LexNames_J1 a1 r0 a0 z2 x6 := by
  unfold law14_LexNames_J1
  unfold law14_LexNames_J1i at h
  obtain ⟨h0, h⟩ := h
  refine ⟨h0, ?_⟩
  obtain ⟨h0, h⟩ := h
  refine ⟨h0, ?_⟩
  obtain ⟨h0, h⟩ := h
  refine ⟨h0, ?_⟩
  intro X2 k
  exact h X2 (fun x7 x8 q => k x7 x8 (law14_LexNames_L2_m a0 r0 x6 z2 q))
theorem law14_LexNames_i (a0 : Str) (a1 : Int) (r0 : Bool) (h : law14_LexNames_oi a0 a1 r0) : law14_LexNames_o a0 a1 r0 := by
  unfold law14_LexNames_o
  unfold law14_LexNames_oi at h
  obtain ⟨z1, h⟩ := h
  refine ⟨z1, ?_⟩
  obtain ⟨h0, h⟩ := h
  refine ⟨h0, ?_⟩
  refine cnd_mono h (fun h => ?_) (fun h => ?_)
  · exact h
  · obtain ⟨h0, h⟩ := h
    refine ⟨h0, ?_⟩
    obtain ⟨z2, h⟩ := h
    refine ⟨z2, ?_⟩
    obtain ⟨h0, h⟩ := h
    refine ⟨h0, ?_⟩
    obtain ⟨z3, h⟩ := h
    refine ⟨z3, ?_⟩
    obtain ⟨z4, h⟩ := h
    refine ⟨z4, ?_⟩
    obtain ⟨z5, h⟩ := h
    refine ⟨z5, ?_⟩
    obtain ⟨h0, h⟩ := h
    refine ⟨h0, ?_⟩
    intro J1 kJ1
    have hJ1 : ∀ (x6 : Bool), law14_LexNames_J1i a0 a1 r0 z2 x6 → J1 x6 := fun x6 q => kJ1 x6 (law14_LexNames_J1_m a0 a1 r0 z2 q)
    refine cnd_mono h (fun h => ?_) (fun h => ?_)
    · intro c
      replace h := h c
      refine cnd_mono h (fun h => ?_) (fun h => ?_)
      · obtain ⟨h0, h⟩ := h
        refine ⟨h0, ?_⟩
        obtain ⟨h0, h⟩ := h
        refine ⟨h0, ?_⟩
        obtain ⟨y16, h⟩ := h
        refine ⟨y16, ?_⟩
        obtain ⟨h0, h⟩ := h
        refine ⟨h0, ?_⟩
        refine cnd_mono h (fun h => ?_) (fun h => ?_)
        · obtain ⟨h0, h⟩ := h
          refine ⟨h0, ?_⟩
          obtain ⟨h0, h⟩ := h
          refine ⟨h0, ?_⟩
          obtain ⟨y17, h⟩ := h
          refine ⟨y17, ?_⟩
          obtain ⟨h0, h⟩ := h
          refine ⟨h0, ?_⟩
          exact hJ1 _ h
        · exact hJ1 _ h
      · exact hJ1 _ h
    · exact hJ1 _ h
noncomputable def law14_LexNames_sp : Sp KK := ⟨5, [.v 9, .v 48], [4], appW (K := KK) [4] [.v 9, .v 48] law14_LexNames_o⟩
noncomputable def law14_LexNames_an : An KK := (.s .o (.s (.s .o (.c (.s .o .o) .o)) (.s .o (.s .o (.s .o (.j ⟨[(0, .kp 1), (1, .kp 2), (5, .kp 3), (9, .bl)], [], []⟩ .o (fun _ => (.s .o (.s (.s .o (.b (.l ⟨[(0, .kp 1), (5, .kp 3), (9, .kp 6), (10, .row 55), (11, .it .i64)], [], [(55, 5)]⟩ (fun _ => (.s (.s .o (.c .o .o)) (.s (.b .o) .o)))))) (.s .o (.s (.s .o (.c (.j ⟨[(4, .bl)], [], []⟩ .o (fun _ => .o)) .o)) (.s .o .o))))))))))))
noncomputable def law14_LexNames_cf : Cf KK := ⟨CC, [law14_speaks_sp, lex_Good_sp, lex_Split_sp, ref14_Good_sp], 117⟩

set_option maxRecDepth 100000 in
theorem law14_LexNames_ok : SpOk Tryd.prog CC law14_LexNames_sp := by
  intro env r hF h
  obtain ⟨a0, env0, rfl, h1⟩ := appW_v h
  obtain ⟨a1, env1, rfl, h2⟩ := appW_v h1
  obtain ⟨rfl, h3⟩ := appW_n h2
  obtain ⟨r0, rr0, rfl, h4⟩ := apR_v h3
  obtain ⟨rfl, h5⟩ := apR_n h4
  refine ⟨rfl, DnF_by (F := law14_LexNames_cf) CC_ok (SsOk_c law14_speaks_ok (SsOk_c lex_Good_ok (SsOk_c lex_Split_ok (SsOk_c ref14_Good_ok SsOk_n)))) t5 (A := law14_LexNames_an) (ps := [.v 9, .v 48]) (rs := [4]) (env := [.d (.v 9 a0), .d (.v 48 a1)]) (r := [.v 4 r0]) (X := law14_LexNames_o a0 a1 r0) rfl (Nat.le_of_ble_eq_true rfl) rfl hF h5 ?_⟩
  kernel_rfl

def ref14_run_J2 (x1 : Int) (r0 : Int) (X1 : Int → Prop) (x3 : Bool) : Prop :=
  cnd x3 (x1 = r0) (X1 (IntKind.i64.wrap (x1 + (1 : Int))))
def ref14_run_L1 (a1 : Int) (a0 : Str) (r0 : Int) (a2 : Int) (a3 : Int) (a4 : Int) (X1 : Int → Prop) (x1 : Int) : Prop :=
  cnd (decide ((IntKind.i64.wrap (a1 + x1)) < (a0.length : Int))) ((0 ≤ (IntKind.i64.wrap (a1 + x1)) ∧ (IntKind.i64.wrap (a1 + x1)) < (a0.length : Int)) ∧ ∃ z2 : Int, (ref14_class_o (bAt a0 (IntKind.i64.wrap (a1 + x1))) z2) ∧ ∀ J2 : Bool → Prop, (∀ (x3 : Bool), ref14_run_J2 x1 r0 X1 x3 → J2 x3) → cnd (!(z2 == a2)) (cnd (!(z2 == a3)) (J2 (!(z2 == a4))) (J2 false)) (J2 false)) (x1 = r0)
def ref14_run_o (a0 : Str) (a1 : Int) (a2 : Int) (a3 : Int) (a4 : Int) (r0 : Int) : Prop :=
  ∀ X1 : Int → Prop, (∀ (x1 : Int), ref14_run_L1 a1 a0 r0 a2 a3 a4 X1 x1 → X1 x1) → X1 (0 : Int)
def ref14_run_J2i (X1 : Int → Prop) (r0 : Int) (x1 : Int) (x3 : Bool) : Prop :=
  cnd x3 (x1 = r0) (X1 (IntKind.i64.wrap (x1 + (1 : Int))))
def ref14_run_L1i (a0 : Str) (a1 : Int) (a2 : Int) (a3 : Int) (a4 : Int) (r0 : Int) (X1 : Int → Prop) (x1 : Int) : Prop :=
  cnd (decide ((IntKind.i64.wrap (a1 + x1)) < (a0.length : Int))) ((0 ≤ (IntKind.i64.wrap (a1 + x1)) ∧ (IntKind.i64.wrap (a1 + x1)) < (a0.length : Int)) ∧ ∃ z2 : Int, (ref14_class_o (bAt a0 (IntKind.i64.wrap (a1 + x1))) z2) ∧ cnd (!(z2 == a2)) (cnd (!(z2 == a3)) (ref14_run_J2i X1 r0 x1 (!(z2 == a4))) (ref14_run_J2i X1 r0 x1 false)) (ref14_run_J2i X1 r0 x1 false)) (x1 = r0)
def ref14_run_oi (a0 : Str) (a1 : Int) (a2 : Int) (a3 : Int) (a4 : Int) (r0 : Int) : Prop :=
  ∀ X1 : Int → Prop, (∀ (x1 : Int), ref14_run_L1i a0 a1 a2 a3 a4 r0 X1 x1 → X1 x1) → X1 (0 : Int)
theorem ref14_run_J2_m (X1 : Int → Prop) (r0 : Int) (x1 : Int) {x3 : Bool} (h : ref14_run_J2i X1 r0 x1 x3) : ref14_run_J2 x1 r0 X1 x3 := by
  unfold ref14_run_J2
  unfold ref14_run_J2i at h
  exact h
theorem ref14_run_L1_m (a0 : Str) (a1 : Int) (a2 : Int) (a3 : Int) (a4 : Int) (r0 : Int) {X1 : Int → Prop} {x1 : Int} (h : ref14_run_L1i a0 a1 a2 a3 a4 r0 X1 x1) : ref14_run_L1 a1 a0 r0 a2 a3 a4 X1 x1 := by
  unfold ref14_run_L1
  unfold ref14_run_L1i at h
  refine cnd_mono h (fun h => ?_) (fun h => ?_)
  · obtain ⟨h0, h⟩ := h
    refine ⟨h0, ?_⟩
    obtain ⟨z2, h⟩ := h
    refine ⟨z2, ?_⟩
    obtain ⟨h0, h⟩ := h
    refine ⟨h0, ?_⟩
    intro J2 kJ2
    have hJ2 : ∀ (x3 : Bool), ref14_run_J2i X1 r0 x1 x3 → J2 x3 := fun x3 q => kJ2 x3 (ref14_run_J2_m X1 r0 x1 q)
    refine cnd_mono h (fun h => ?_) (fun h => ?_)
    · refine cnd_mono h (fun h => ?_) (fun h => ?_)
      · exact hJ2 _ h
      · exact hJ2 _ h
    · exact hJ2 _ h
  · exact h
theorem ref14_run_i (a0 : Str) (a1 : Int) (a2 : Int) (a3 : Int) (a4 : Int) (r0 : Int) (h : ref14_run_oi a0 a1 a2 a3 a4 r0) : ref14_run_o a0 a1 a2 a3 a4 r0 := by
  unfold ref14_run_o
  unfold ref14_run_oi at h
  intro X1 k
  exact h X1 (fun x1 q => k x1 (ref14_run_L1_m a0 a1 a2 a3 a4 r0 q))
noncomputable def ref14_run_sp : Sp KK := ⟨41, [.v 9, .v 3, .v 3, .v 3, .v 3], [3], appW (K := KK) [3] [.v 9, .v 3, .v 3, .v 3, .v 3] ref14_run_o⟩
noncomputable def ref14_run_an : An KK := (.s .o (.s .o (.s (.b (.l ⟨[(0, .kp 11), (1, .kp 12), (2, .kp 13), (3, .kp 14), (4, .kp 15), (11, .it .i64)], [], []⟩ (fun _ => (.s (.s .o (.c .o .o)) (.b (.s .o (.s (.j ⟨[(0, .kp 11), (1, .kp 12), (2, .kp 13), (3, .kp 14), (4, .kp 15), (11, .kp 20), (37, .bl)], [], []⟩ .o (fun _ => (.c .o .o))) .o))))))) (.s .o .o))))
noncomputable def ref14_run_cf : Cf KK := ⟨CC, [ref14_class_sp], 41⟩

set_option maxRecDepth 100000 in
theorem ref14_run_ok : SpOk Tryd.prog CC ref14_run_sp := by
  intro env r hF h
  obtain ⟨a0, env0, rfl, h1⟩ := appW_v h
  obtain ⟨a1, env1, rfl, h2⟩ := appW_v h1
  obtain ⟨a2, env2, rfl, h3⟩ := appW_v h2
  obtain ⟨a3, env3, rfl, h4⟩ := appW_v h3
  obtain ⟨a4, env4, rfl, h5⟩ := appW_v h4
  obtain ⟨rfl, h6⟩ := appW_n h5
  obtain ⟨r0, rr0, rfl, h7⟩ := apR_v h6
  obtain ⟨rfl, h8⟩ := apR_n h7
  refine ⟨rfl, DnF_by (F := ref14_run_cf) CC_ok (SsOk_c ref14_class_ok SsOk_n) t41 (A := ref14_run_an) (ps := [.v 9, .v 3, .v 3, .v 3, .v 3]) (rs := [3]) (env := [.d (.v 9 a0), .d (.v 3 a1), .d (.v 3 a2), .d (.v 3 a3), .d (.v 3 a4)]) (r := [.v 3 r0]) (X := ref14_run_o a0 a1 a2 a3 a4 r0) rfl (Nat.le_of_ble_eq_true rfl) rfl hF h8 ?_⟩
  kernel_rfl

def ref14_sign_J2 (x1 : Str) (r0 : Str) (x2 : Bool) : Prop :=
  cnd x2 ((0 ≤ (0 : Int) ∧ (0 : Int) ≤ (1 : Int) ∧ (1 : Int) ≤ (x1.length : Int)) ∧ ((x1.drop (0 : Int).toNat).take ((1 : Int).toNat - (0 : Int).toNat)) = r0) (([] : Str) = r0)
def ref14_sign_J1 (r0 : Str) (x1 : Str) : Prop :=
  (0 ≤ (0 : Int) ∧ (0 : Int) < (x1.length : Int)) ∧ ∀ J2 : Bool → Prop, (∀ (x2 : Bool), ref14_sign_J2 x1 r0 x2 → J2 x2) → cnd ((bAt x1 (0 : Int)) == (40 : Int)) (J2 ((bAt x1 (0 : Int)) == (40 : Int))) (cnd ((bAt x1 (0 : Int)) == (41 : Int)) (J2 ((bAt x1 (0 : Int)) == (41 : Int))) (cnd ((bAt x1 (0 : Int)) == (44 : Int)) (J2 ((bAt x1 (0 : Int)) == (44 : Int))) (cnd ((bAt x1 (0 : Int)) == (46 : Int)) (J2 ((bAt x1 (0 : Int)) == (46 : Int))) (cnd ((bAt x1 (0 : Int)) == (42 : Int)) (J2 ((bAt x1 (0 : Int)) == (42 : Int))) (cnd ((bAt x1 (0 : Int)) == (43 : Int)) (J2 ((bAt x1 (0 : Int)) == (43 : Int))) (cnd ((bAt x1 (0 : Int)) == (45 : Int)) (J2 ((bAt x1 (0 : Int)) == (45 : Int))) (cnd ((bAt x1 (0 : Int)) == (47 : Int)) (J2 ((bAt x1 (0 : Int)) == (47 : Int))) (cnd ((bAt x1 (0 : Int)) == (37 : Int)) (J2 ((bAt x1 (0 : Int)) == (37 : Int))) (cnd ((bAt x1 (0 : Int)) == (61 : Int)) (J2 ((bAt x1 (0 : Int)) == (61 : Int))) (cnd ((bAt x1 (0 : Int)) == (60 : Int)) (J2 ((bAt x1 (0 : Int)) == (60 : Int))) (J2 ((bAt x1 (0 : Int)) == (62 : Int)))))))))))))
def ref14_sign_J3 (a0 : Str) (r0 : Str) (J1 : Str → Prop) (x3 : Bool) : Prop :=
  cnd x3 ((0 ≤ (0 : Int) ∧ (0 : Int) ≤ (2 : Int) ∧ (2 : Int) ≤ (a0.length : Int)) ∧ ((a0.drop (0 : Int).toNat).take ((2 : Int).toNat - (0 : Int).toNat)) = r0) (J1 a0)
def ref14_sign_o (a0 : Str) (r0 : Str) : Prop :=
  ∀ J1 : Str → Prop, (∀ (x1 : Str), ref14_sign_J1 r0 x1 → J1 x1) → cnd (decide ((2 : Int) ≤ (a0.length : Int))) ((0 ≤ (0 : Int) ∧ (0 : Int) ≤ (2 : Int) ∧ (2 : Int) ≤ (a0.length : Int)) ∧ ∀ J3 : Bool → Prop, (∀ (x3 : Bool), ref14_sign_J3 a0 r0 J1 x3 → J3 x3) → cnd (((a0.drop (0 : Int).toNat).take ((2 : Int).toNat - (0 : Int).toNat)) == ([60, 62] : Str)) (J3 (((a0.drop (0 : Int).toNat).take ((2 : Int).toNat - (0 : Int).toNat)) == ([60, 62] : Str))) (cnd (((a0.drop (0 : Int).toNat).take ((2 : Int).toNat - (0 : Int).toNat)) == ([60, 61] : Str)) (J3 (((a0.drop (0 : Int).toNat).take ((2 : Int).toNat - (0 : Int).toNat)) == ([60, 61] : Str))) (cnd (((a0.drop (0 : Int).toNat).take ((2 : Int).toNat - (0 : Int).toNat)) == ([62, 61] : Str)) (J3 (((a0.drop (0 : Int).toNat).take ((2 : Int).toNat - (0 : Int).toNat)) == ([62, 61] : Str))) (J3 (((a0.drop (0 : Int).toNat).take ((2 : Int).toNat - (0 : Int).toNat)) == ([124, 124] : Str)))))) (J1 a0)
def ref14_sign_J2i (r0 : Str) (x1 : Str) (x2 : Bool) : Prop :=
  cnd x2 ((0 ≤ (0 : Int) ∧ (0 : Int) ≤ (1 : Int) ∧ (1 : Int) ≤ (x1.length : Int)) ∧ ((x1.drop (0 : Int).toNat).take ((1 : Int).toNat - (0 : Int).toNat)) = r0) (([] : Str) = r0)
def ref14_sign_J1i (r0 : Str) (x1 : Str) : Prop :=
  (0 ≤ (0 : Int) ∧ (0 : Int) < (x1.length : Int)) ∧ cnd ((bAt x1 (0 : Int)) == (40 : Int)) (ref14_sign_J2i r0 x1 ((bAt x1 (0 : Int)) == (40 : Int))) (cnd ((bAt x1 (0 : Int)) == (41 : Int)) (ref14_sign_J2i r0 x1 ((bAt x1 (0 : Int)) == (41 : Int))) (cnd ((bAt x1 (0 : Int)) == (44 : Int)) (ref14_sign_J2i r0 x1 ((bAt x1 (0 : Int)) == (44 : Int))) (cnd ((bAt x1 (0 : Int)) == (46 : Int)) (ref14_sign_J2i r0 x1 ((bAt x1 (0 : Int)) == (46 : Int))) (cnd ((bAt x1 (0 : Int)) == (42 : Int)) (ref14_sign_J2i r0 x1 ((bAt x1 (0 : Int)) == (42 : Int))) (cnd ((bAt x1 (0 : Int)) == (43 : Int)) (ref14_sign_J2i r0 x1 ((bAt x1 (0 : Int)) == (43 : Int))) (cnd ((bAt x1 (0 : Int)) == (45 : Int)) (ref14_sign_J2i r0 x1 ((bAt x1 (0 : Int)) == (45 : Int))) (cnd ((bAt x1 (0 : Int)) == (47 : Int)) (ref14_sign_J2i r0 x1 ((bAt x1 (0 : Int)) == (47 : Int))) (cnd ((bAt x1 (0 : Int)) == (37 : Int)) (ref14_sign_J2i r0 x1 ((bAt x1 (0 : Int)) == (37 : Int))) (cnd ((bAt x1 (0 : Int)) == (61 : Int)) (ref14_sign_J2i r0 x1 ((bAt x1 (0 : Int)) == (61 : Int))) (cnd ((bAt x1 (0 : Int)) == (60 : Int)) (ref14_sign_J2i r0 x1 ((bAt x1 (0 : Int)) == (60 : Int))) (ref14_sign_J2i r0 x1 ((bAt x1 (0 : Int)) == (62 : Int)))))))))))))
def ref14_sign_J3i (a0 : Str) (r0 : Str) (x3 : Bool) : Prop :=
  cnd x3 ((0 ≤ (0 : Int) ∧ (0 : Int) ≤ (2 : Int) ∧ (2 : Int) ≤ (a0.length : Int)) ∧ ((a0.drop (0 : Int).toNat).take ((2 : Int).toNat - (0 : Int).toNat)) = r0) (ref14_sign_J1i r0 a0)
def ref14_sign_oi (a0 : Str) (r0 : Str) : Prop :=
  cnd (decide ((2 : Int) ≤ (a0.length : Int))) ((0 ≤ (0 : Int) ∧ (0 : Int) ≤ (2 : Int) ∧ (2 : Int) ≤ (a0.length : Int)) ∧ cnd (((a0.drop (0 : Int).toNat).take ((2 : Int).toNat - (0 : Int).toNat)) == ([60, 62] : Str)) (ref14_sign_J3i a0 r0 (((a0.drop (0 : Int).toNat).take ((2 : Int).toNat - (0 : Int).toNat)) == ([60, 62] : Str))) (cnd (((a0.drop (0 : Int).toNat).take ((2 : Int).toNat - (0 : Int).toNat)) == ([60, 61] : Str)) (ref14_sign_J3i a0 r0 (((a0.drop (0 : Int).toNat).take ((2 : Int).toNat - (0 : Int).toNat)) == ([60, 61] : Str))) (cnd (((a0.drop (0 : Int).toNat).take ((2 : Int).toNat - (0 : Int).toNat)) == ([62, 61] : Str)) (ref14_sign_J3i a0 r0 (((a0.drop (0 : Int).toNat).take ((2 : Int).toNat - (0 : Int).toNat)) == ([62, 61] : Str))) (ref14_sign_J3i a0 r0 (((a0.drop (0 : Int).toNat).take ((2 : Int).toNat - (0 : Int).toNat)) == ([124, 124] : Str)))))) (ref14_sign_J1i r0 a0)
theorem ref14_sign_J2_m (r0 : Str) (x1 : Str) {x2 : Bool} (h : ref14_sign_J2i r0 x1 x2) : ref14_sign_J2 x1 r0 x2 := by
  unfold ref14_sign_J2
  unfold ref14_sign_J2i at h
  exact h
theorem ref14_sign_J1_m (r0 : Str) {x1 : Str} (h : ref14_sign_J1i r0 x1) : ref14_sign_J1 r0 x1 := by
  unfold ref14_sign_J1
  unfold ref14_sign_J1i at h
  obtain ⟨h0, h⟩ := h
  refine ⟨h0, ?_⟩
  intro J2 kJ2
  have hJ2 : ∀ (x2 : Bool), ref14_sign_J2i r0 x1 x2 → J2 x2 := fun x2 q => kJ2 x2 (ref14_sign_J2_m r0 x1 q)
  refine cnd_mono h (fun h => ?_) (fun h => ?_)
  · exact hJ2 _ h
  · refine cnd_mono h (fun h => ?_) (fun h => ?_)
    · exact hJ2 _ h
    · refine cnd_mono h (fun h => ?_) (fun h => ?_)
      · exact hJ2 _ h
      · refine cnd_mono h (fun h => ?_) (fun h => ?_)
        · exact hJ2 _ h
        · refine cnd_mono h (fun h => ?_) (fun h => ?_)
          · exact hJ2 _ h
          · refine cnd_mono h (fun h => ?_) (fun h => ?_)
            · exact hJ2 _ h
            · refine cnd_mono h (fun h => ?_) (fun h => ?_)
              · exact hJ2 _ h
              · refine cnd_mono h (fun h => ?_) (fun h => ?_)
                · exact hJ2 _ h
                · refine cnd_mono h (fun h => ?_) (fun h => ?_)
                  · exact hJ2 _ h
                  · refine cnd_mono h (fun h => ?_) (fun h => ?_)
                    · exact hJ2 _ h
                    · refine cnd_mono h (fun h => ?_) (fun h => ?_)
                      · exact hJ2 _ h
                      · exact hJ2 _ h
theorem ref14_sign_J3_m (J1 : Str → Prop) (a0 : Str) (r0 : Str) (hJ1 : ∀ (x1 : Str), ref14_sign_J1i r0 x1 → J1 x1) {x3 : Bool} (h : ref14_sign_J3i a0 r0 x3) : ref14_sign_J3 a0 r0 J1 x3 := by
  unfold ref14_sign_J3
  unfold ref14_sign_J3i at h
  refine cnd_mono h (fun h => ?_) (fun h => ?_)
  · exact h
  · exact hJ1 _ h
theorem ref14_sign_i (a0 : Str) (r0 : Str) (h : ref14_sign_oi a0 r0) : ref14_sign_o a0 r0 := by
  unfold ref14_sign_o
  unfold ref14_sign_oi at h
  intro J1 kJ1
  have hJ1 : ∀ (x1 : Str), ref14_sign_J1i r0 x1 → J1 x1 := fun x1 q => kJ1 x1 (ref14_sign_J1_m r0 q)
  refine cnd_mono h (fun h => ?_) (fun h => ?_)
  · obtain ⟨h0, h⟩ := h
    refine ⟨h0, ?_⟩
    intro J3 kJ3
    have hJ3 : ∀ (x3 : Bool), ref14_sign_J3i a0 r0 x3 → J3 x3 := fun x3 q => kJ3 x3 (ref14_sign_J3_m J1 a0 r0 hJ1 q)
    refine cnd_mono h (fun h => ?_) (fun h => ?_)
    · exact hJ3 _ h
    · refine cnd_mono h (fun h => ?_) (fun h => ?_)
      · exact hJ3 _ h
      · refine cnd_mono h (fun h => ?_) (fun h => ?_)
        · exact hJ3 _ h
        · exact hJ3 _ h
  · exact hJ1 _ h
noncomputable def ref14_sign_sp : Sp KK := ⟨42, [.v 9], [9], appW (K := KK) [9] [.v 9] ref14_sign_o⟩
noncomputable def ref14_sign_an : An KK := (.s .o (.j ⟨[(0, .st)], [], []⟩ (.s .o (.c (.s .o (.b (.j ⟨[(0, .kp 5), (8, .bl)], [], []⟩ (.s .o (.c .o (.s .o (.c .o (.s .o (.c .o .o)))))) (fun _ => (.c (.s .o .o) .o))))) .o)) (fun _ => (.s (.s .o (.b (.j ⟨[(0, .kp 4), (17, .bl)], [], []⟩ (.s .o (.c .o (.s .o (.c .o (.s .o (.c .o (.s .o (.c .o (.s .o (.c .o (.s .o (.c .o (.s .o (.c .o (.s .o (.c .o (.s .o (.c .o (.s .o (.c .o (.s .o (.c .o .o)))))))))))))))))))))) (fun _ => (.c (.s .o .o) .o))))) (.s .o .o)))))
noncomputable def ref14_sign_cf : Cf KK := ⟨CC, [], 32⟩

set_option maxRecDepth 100000 in
theorem ref14_sign_ok : SpOk Tryd.prog CC ref14_sign_sp := by
  intro env r hF h
  obtain ⟨a0, env0, rfl, h1⟩ := appW_v h
  obtain ⟨rfl, h2⟩ := appW_n h1
  obtain ⟨r0, rr0, rfl, h3⟩ := apR_v h2
  obtain ⟨rfl, h4⟩ := apR_n h3
  refine ⟨rfl, DnF_by (F := ref14_sign_cf) CC_ok SsOk_n t42 (A := ref14_sign_an) (ps := [.v 9]) (rs := [9]) (env := [.d (.v 9 a0)]) (r := [.v 9 r0]) (X := ref14_sign_o a0 r0) rfl (Nat.le_of_ble_eq_true rfl) rfl hF h4 ?_⟩
  kernel_rfl

def ref14_Split_J2 (X1 : Int → (List T_ref14_Token) → Prop) (x3 : Int) (x4 : Int) (x5 : Int) (x6 : Str) (x7 : Int) (x8 : Int) (x9 : (List T_ref14_Token)) : Prop :=
  (x9.length ≤ 1000000000) ∧ X1 (IntKind.i64.wrap (x3 + x4)) (x9 ++ ([(⟨x5, x6, x7, x8⟩ : T_ref14_Token)] : List T_ref14_Token))
def ref14_Split_L3 (z13 : Int) (x1 : Int) (a0 : Str) (r0 : (List T_ref14_Token)) (r1 : Int) (r2 : Int) (J2 : Int → Int → Int → Str → Int → Int → (List T_ref14_Token) → Prop) (X3 : Int → Int → (List T_ref14_Token) → Prop) (x14 : Int) (x15 : Int) (x16 : (List T_ref14_Token)) : Prop :=
  cnd (decide (x15 < z13)) ((0 ≤ (IntKind.i64.wrap (x1 + x15)) ∧ (IntKind.i64.wrap (x1 + x15)) < (a0.length : Int)) ∧ X3 (IntKind.u64.wrap ((IntKind.u64.wrap ((10 : Int) * x14)) + (IntKind.u64.wrap (IntKind.u8.wrap ((bAt a0 (IntKind.i64.wrap (x1 + x15))) - (48 : Int)))))) (IntKind.i64.wrap (x15 + (1 : Int))) x16) (cnd (decide ((9223372036854775807 : Int) < x14)) (([] : List T_ref14_Token) = r0 ∧ x1 = r1 ∧ (8 : Int) = r2) (J2 x1 z13 (3 : Int) ((a0.drop x1.toNat).take ((IntKind.i64.wrap (x1 + z13)).toNat - x1.toNat)) (IntKind.i64.wrap x14) x1 x16))
def ref14_Split_J5 (a0 : Str) (X4 : Int → Str → (List T_ref14_Token) → Prop) (x20 : Int) (x21 : Str) (x22 : (List T_ref14_Token)) : Prop :=
  (0 ≤ x20 ∧ x20 ≤ (IntKind.i64.wrap (x20 + (1 : Int))) ∧ (IntKind.i64.wrap (x20 + (1 : Int))) ≤ (a0.length : Int)) ∧ (x21.length + ((a0.drop x20.toNat).take ((IntKind.i64.wrap (x20 + (1 : Int))).toNat - x20.toNat)).length ≤ 9223372036854775807) ∧ X4 (IntKind.i64.wrap (x20 + (1 : Int))) (x21 ++ ((a0.drop x20.toNat).take ((IntKind.i64.wrap (x20 + (1 : Int))).toNat - x20.toNat))) x22
def ref14_Split_J6 (x18 : Str) (r0 : (List T_ref14_Token)) (x1 : Int) (r1 : Int) (r2 : Int) (J2 : Int → Int → Int → Str → Int → Int → (List T_ref14_Token) → Prop) (x17 : Int) (J5 : Int → Str → (List T_ref14_Token) → Prop) (x23 : Bool) (x24 : (List T_ref14_Token)) : Prop :=
  cnd x23 (cnd (decide ((64 : Int) < (x18.length : Int))) (([] : List T_ref14_Token) = r0 ∧ x1 = r1 ∧ (8 : Int) = r2) (J2 x1 (IntKind.i64.wrap ((IntKind.i64.wrap (x17 + (1 : Int))) - x1)) (4 : Int) x18 (0 : Int) x1 x24)) (J5 (IntKind.i64.wrap (x17 + (1 : Int))) x18 x24)
def ref14_Split_L4 (a0 : Str) (r0 : (List T_ref14_Token)) (x1 : Int) (r1 : Int) (r2 : Int) (J2 : Int → Int → Int → Str → Int → Int → (List T_ref14_Token) → Prop) (X4 : Int → Str → (List T_ref14_Token) → Prop) (x17 : Int) (x18 : Str) (x19 : (List T_ref14_Token)) : Prop :=
  cnd (decide ((a0.length : Int) ≤ x17)) (([] : List T_ref14_Token) = r0 ∧ x1 = r1 ∧ (4 : Int) = r2) (∀ J5 : Int → Str → (List T_ref14_Token) → Prop, (∀ (x20 : Int) (x21 : Str) (x22 : (List T_ref14_Token)), ref14_Split_J5 a0 X4 x20 x21 x22 → J5 x20 x21 x22) → (0 ≤ x17 ∧ x17 < (a0.length : Int)) ∧ cnd ((bAt a0 x17) == (39 : Int)) (∀ J6 : Bool → (List T_ref14_Token) → Prop, (∀ (x23 : Bool) (x24 : (List T_ref14_Token)), ref14_Split_J6 x18 r0 x1 r1 r2 J2 x17 J5 x23 x24 → J6 x23 x24) → cnd (decide ((a0.length : Int) ≤ (IntKind.i64.wrap (x17 + (1 : Int))))) (J6 true x19) ((0 ≤ (IntKind.i64.wrap (x17 + (1 : Int))) ∧ (IntKind.i64.wrap (x17 + (1 : Int))) < (a0.length : Int)) ∧ J6 (!((bAt a0 (IntKind.i64.wrap (x17 + (1 : Int)))) == (39 : Int))) x19)) (J5 x17 x18 x19))
def ref14_Split_L1 (a0 : Str) (r0 : (List T_ref14_Token)) (r1 : Int) (r2 : Int) (X1 : Int → (List T_ref14_Token) → Prop) (x1 : Int) (x2 : (List T_ref14_Token)) : Prop :=
  cnd (decide (x1 < (a0.length : Int))) (∀ J2 : Int → Int → Int → Str → Int → Int → (List T_ref14_Token) → Prop, (∀ (x3 : Int) (x4 : Int) (x5 : Int) (x6 : Str) (x7 : Int) (x8 : Int) (x9 : (List T_ref14_Token)), ref14_Split_J2 X1 x3 x4 x5 x6 x7 x8 x9 → J2 x3 x4 x5 x6 x7 x8 x9) → (0 ≤ x1 ∧ x1 < (a0.length : Int)) ∧ ∃ z10 : Int, (ref14_class_o (bAt a0 x1) z10) ∧ cnd (z10 == (6 : Int)) (X1 (IntKind.i64.wrap (x1 + (1 : Int))) x2) (cnd (z10 == (1 : Int)) (∃ z11 : Int, (ref14_run_o a0 x1 (1 : Int) (3 : Int) (4 : Int) z11) ∧ (0 ≤ x1 ∧ x1 ≤ (IntKind.i64.wrap (x1 + z11)) ∧ (IntKind.i64.wrap (x1 + z11)) ≤ (a0.length : Int)) ∧ cnd (decide ((16 : Int) < z11)) (([] : List T_ref14_Token) = r0 ∧ x1 = r1 ∧ (8 : Int) = r2) (J2 x1 z11 (1 : Int) ((a0.drop x1.toNat).take ((IntKind.i64.wrap (x1 + z11)).toNat - x1.toNat)) (0 : Int) x1 x2)) (cnd (z10 == (2 : Int)) (∃ z12 : Int, (ref14_run_o a0 x1 (2 : Int) (2 : Int) (2 : Int) z12) ∧ (0 ≤ x1 ∧ x1 ≤ (IntKind.i64.wrap (x1 + z12)) ∧ (IntKind.i64.wrap (x1 + z12)) ≤ (a0.length : Int)) ∧ cnd (decide ((16 : Int) < z12)) (([] : List T_ref14_Token) = r0 ∧ x1 = r1 ∧ (8 : Int) = r2) (J2 x1 z12 (2 : Int) ((a0.drop x1.toNat).take ((IntKind.i64.wrap (x1 + z12)).toNat - x1.toNat)) (0 : Int) x1 x2)) (cnd (z10 == (3 : Int)) (∃ z13 : Int, (ref14_run_o a0 x1 (3 : Int) (3 : Int) (3 : Int) z13) ∧ (0 ≤ x1 ∧ x1 ≤ (IntKind.i64.wrap (x1 + z13)) ∧ (IntKind.i64.wrap (x1 + z13)) ≤ (a0.length : Int)) ∧ cnd (decide ((19 : Int) < z13)) (([] : List T_ref14_Token) = r0 ∧ x1 = r1 ∧ (8 : Int) = r2) (∀ X3 : Int → Int → (List T_ref14_Token) → Prop, (∀ (x14 : Int) (x15 : Int) (x16 : (List T_ref14_Token)), ref14_Split_L3 z13 x1 a0 r0 r1 r2 J2 X3 x14 x15 x16 → X3 x14 x15 x16) → X3 (0 : Int) (0 : Int) x2)) (cnd (z10 == (5 : Int)) (∀ X4 : Int → Str → (List T_ref14_Token) → Prop, (∀ (x17 : Int) (x18 : Str) (x19 : (List T_ref14_Token)), ref14_Split_L4 a0 r0 x1 r1 r2 J2 X4 x17 x18 x19 → X4 x17 x18 x19) → X4 (IntKind.i64.wrap (x1 + (1 : Int))) ([] : Str) x2) ((0 ≤ x1 ∧ x1 ≤ (a0.length : Int) ∧ (a0.length : Int) ≤ (a0.length : Int)) ∧ ∃ z25 : Str, (ref14_sign_o ((a0.drop x1.toNat).take ((a0.length : Int).toNat - x1.toNat)) z25) ∧ cnd (z25 == ([] : Str)) (([] : List T_ref14_Token) = r0 ∧ x1 = r1 ∧ (4 : Int) = r2) (J2 x1 (z25.length : Int) (5 : Int) z25 (0 : Int) x1 x2))))))) (x2 = r0 ∧ (0 : Int) = r1 ∧ (0 : Int) = r2)
def ref14_Split_o (a0 : Str) (r0 : (List T_ref14_Token)) (r1 : Int) (r2 : Int) : Prop :=
  cnd (decide ((2000 : Int) < (a0.length : Int))) (([] : List T_ref14_Token) = r0 ∧ (0 : Int) = r1 ∧ (3 : Int) = r2) (∀ X1 : Int → (List T_ref14_Token) → Prop, (∀ (x1 : Int) (x2 : (List T_ref14_Token)), ref14_Split_L1 a0 r0 r1 r2 X1 x1 x2 → X1 x1 x2) → X1 (0 : Int) ([] : List T_ref14_Token))
def ref14_Split_J2i (X1 : Int → (List T_ref14_Token) → Prop) (x3 : Int) (x4 : Int) (x5 : Int) (x6 : Str) (x7 : Int) (x8 : Int) (x9 : (List T_ref14_Token)) : Prop :=
  (x9.length ≤ 1000000000) ∧ X1 (IntKind.i64.wrap (x3 + x4)) (x9 ++ ([(⟨x5, x6, x7, x8⟩ : T_ref14_Token)] : List T_ref14_Token))
def ref14_Split_L3i (X1 : Int → (List T_ref14_Token) → Prop) (a0 : Str) (r0 : (List T_ref14_Token)) (r1 : Int) (r2 : Int) (x1 : Int) (z13 : Int) (X3 : Int → Int → (List T_ref14_Token) → Prop) (x14 : Int) (x15 : Int) (x16 : (List T_ref14_Token)) : Prop :=
  cnd (decide (x15 < z13)) ((0 ≤ (IntKind.i64.wrap (x1 + x15)) ∧ (IntKind.i64.wrap (x1 + x15)) < (a0.length : Int)) ∧ X3 (IntKind.u64.wrap ((IntKind.u64.wrap ((10 : Int) * x14)) + (IntKind.u64.wrap (IntKind.u8.wrap ((bAt a0 (IntKind.i64.wrap (x1 + x15))) - (48 : Int)))))) (IntKind.i64.wrap (x15 + (1 : Int))) x16) (cnd (decide ((9223372036854775807 : Int) < x14)) (([] : List T_ref14_Token) = r0 ∧ x1 = r1 ∧ (8 : Int) = r2) (ref14_Split_J2i X1 x1 z13 (3 : Int) ((a0.drop x1.toNat).take ((IntKind.i64.wrap (x1 + z13)).toNat - x1.toNat)) (IntKind.i64.wrap x14) x1 x16))
def ref14_Split_J5i (X4 : Int → Str → (List T_ref14_Token) → Prop) (a0 : Str) (x20 : Int) (x21 : Str) (x22 : (List T_ref14_Token)) : Prop :=
  (0 ≤ x20 ∧ x20 ≤ (IntKind.i64.wrap (x20 + (1 : Int))) ∧ (IntKind.i64.wrap (x20 + (1 : Int))) ≤ (a0.length : Int)) ∧ (x21.length + ((a0.drop x20.toNat).take ((IntKind.i64.wrap (x20 + (1 : Int))).toNat - x20.toNat)).length ≤ 9223372036854775807) ∧ X4 (IntKind.i64.wrap (x20 + (1 : Int))) (x21 ++ ((a0.drop x20.toNat).take ((IntKind.i64.wrap (x20 + (1 : Int))).toNat - x20.toNat))) x22
def ref14_Split_J6i (X1 : Int → (List T_ref14_Token) → Prop) (X4 : Int → Str → (List T_ref14_Token) → Prop) (a0 : Str) (r0 : (List T_ref14_Token)) (r1 : Int) (r2 : Int) (x1 : Int) (x17 : Int) (x18 : Str) (x23 : Bool) (x24 : (List T_ref14_Token)) : Prop :=
  cnd x23 (cnd (decide ((64 : Int) < (x18.length : Int))) (([] : List T_ref14_Token) = r0 ∧ x1 = r1 ∧ (8 : Int) = r2) (ref14_Split_J2i X1 x1 (IntKind.i64.wrap ((IntKind.i64.wrap (x17 + (1 : Int))) - x1)) (4 : Int) x18 (0 : Int) x1 x24)) (ref14_Split_J5i X4 a0 (IntKind.i64.wrap (x17 + (1 : Int))) x18 x24)
def ref14_Split_L4i (X1 : Int → (List T_ref14_Token) → Prop) (a0 : Str) (r0 : (List T_ref14_Token)) (r1 : Int) (r2 : Int) (x1 : Int) (X4 : Int → Str → (List T_ref14_Token) → Prop) (x17 : Int) (x18 : Str) (x19 : (List T_ref14_Token)) : Prop :=
  cnd (decide ((a0.length : Int) ≤ x17)) (([] : List T_ref14_Token) = r0 ∧ x1 = r1 ∧ (4 : Int) = r2) ((0 ≤ x17 ∧ x17 < (a0.length : Int)) ∧ cnd ((bAt a0 x17) == (39 : Int)) (cnd (decide ((a0.length : Int) ≤ (IntKind.i64.wrap (x17 + (1 : Int))))) (ref14_Split_J6i X1 X4 a0 r0 r1 r2 x1 x17 x18 true x19) ((0 ≤ (IntKind.i64.wrap (x17 + (1 : Int))) ∧ (IntKind.i64.wrap (x17 + (1 : Int))) < (a0.length : Int)) ∧ ref14_Split_J6i X1 X4 a0 r0 r1 r2 x1 x17 x18 (!((bAt a0 (IntKind.i64.wrap (x17 + (1 : Int)))) == (39 : Int))) x19)) (ref14_Split_J5i X4 a0 x17 x18 x19))
def ref14_Split_L1i (a0 : Str) (r0 : (List T_ref14_Token)) (r1 : Int) (r2 : Int) (X1 : Int → (List T_ref14_Token) → Prop) (x1 : Int) (x2 : (List T_ref14_Token)) : Prop :=
  cnd (decide (x1 < (a0.length : Int))) ((0 ≤ x1 ∧ x1 < (a0.length : Int)) ∧ ∃ z10 : Int, (ref14_class_o (bAt a0 x1) z10) ∧ cnd (z10 == (6 : Int)) (X1 (IntKind.i64.wrap (x1 + (1 : Int))) x2) (cnd (z10 == (1 : Int)) (∃ z11 : Int, (ref14_run_o a0 x1 (1 : Int) (3 : Int) (4 : Int) z11) ∧ (0 ≤ x1 ∧ x1 ≤ (IntKind.i64.wrap (x1 + z11)) ∧ (IntKind.i64.wrap (x1 + z11)) ≤ (a0.length : Int)) ∧ cnd (decide ((16 : Int) < z11)) (([] : List T_ref14_Token) = r0 ∧ x1 = r1 ∧ (8 : Int) = r2) (ref14_Split_J2i X1 x1 z11 (1 : Int) ((a0.drop x1.toNat).take ((IntKind.i64.wrap (x1 + z11)).toNat - x1.toNat)) (0 : Int) x1 x2)) (cnd (z10 == (2 : Int)) (∃ z12 : Int, (ref14_run_o a0 x1 (2 : Int) (2 : Int) (2 : Int) z12) ∧ (0 ≤ x1 ∧ x1 ≤ (IntKind.i64.wrap (x1 + z12)) ∧ (IntKind.i64.wrap (x1 + z12)) ≤ (a0.length : Int)) ∧ cnd (decide ((16 : Int) < z12)) (([] : List T_ref14_Token) = r0 ∧ x1 = r1 ∧ (8 : Int) = r2) (ref14_Split_J2i X1 x1 z12 (2 : Int) ((a0.drop x1.toNat).take ((IntKind.i64.wrap (x1 + z12)).toNat - x1.toNat)) (0 : Int) x1 x2)) (cnd (z10 == (3 : Int)) (∃ z13 : Int, (ref14_run_o a0 x1 (3 : Int) (3 : Int) (3 : Int) z13) ∧ (0 ≤ x1 ∧ x1 ≤ (IntKind.i64.wrap (x1 + z13)) ∧ (IntKind.i64.wrap (x1 + z13)) ≤ (a0.length : Int)) ∧ cnd (decide ((19 : Int) < z13)) (([] : List T_ref14_Token) = r0 ∧ x1 = r1 ∧ (8 : Int) = r2) (∀ X3 : Int → Int → (List T_ref14_Token) → Prop, (∀ (x14 : Int) (x15 : Int) (x16 : (List T_ref14_Token)), ref14_Split_L3i X1 a0 r0 r1 r2 x1 z13 X3 x14 x15 x16 → X3 x14 x15 x16) → X3 (0 : Int) (0 : Int) x2)) (cnd (z10 == (5 : Int)) (∀ X4 : Int → Str → (List T_ref14_Token) → Prop, (∀ (x17 : Int) (x18 : Str) (x19 : (List T_ref14_Token)), ref14_Split_L4i X1 a0 r0 r1 r2 x1 X4 x17 x18 x19 → X4 x17 x18 x19) → X4 (IntKind.i64.wrap (x1 + (1 : Int))) ([] : Str) x2) ((0 ≤ x1 ∧ x1 ≤ (a0.length : Int) ∧ (a0.length : Int) ≤ (a0.length : Int)) ∧ ∃ z25 : Str, (ref14_sign_o ((a0.drop x1.toNat).take ((a0.length : Int).toNat - x1.toNat)) z25) ∧ cnd (z25 == ([] : Str)) (([] : List T_ref14_Token) = r0 ∧ x1 = r1 ∧ (4 : Int) = r2) (ref14_Split_J2i X1 x1 (z25.length : Int) (5 : Int) z25 (0 : Int) x1 x2))))))) (x2 = r0 ∧ (0 : Int) = r1 ∧ (0 : Int) = r2)
def ref14_Split_oi (a0 : Str) (r0 : (List T_ref14_Token)) (r1 : Int) (r2 : Int) : Prop :=
  cnd (decide ((2000 : Int) < (a0.length : Int))) (([] : List T_ref14_Token) = r0 ∧ (0 : Int) = r1 ∧ (3 : Int) = r2) (∀ X1 : Int → (List T_ref14_Token) → Prop, (∀ (x1 : Int) (x2 : (List T_ref14_Token)), ref14_Split_L1i a0 r0 r1 r2 X1 x1 x2 → X1 x1 x2) → X1 (0 : Int) ([] : List T_ref14_Token))
theorem ref14_Split_J2_m (X1 : Int → (List T_ref14_Token) → Prop) {x3 : Int} {x4 : Int} {x5 : Int} {x6 : Str} {x7 : Int} {x8 : Int} {x9 : (List T_ref14_Token)} (h : ref14_Split_J2i X1 x3 x4 x5 x6 x7 x8 x9) : ref14_Split_J2 X1 x3 x4 x5 x6 x7 x8 x9 := by
  unfold ref14_Split_J2
  unfold ref14_Split_J2i at h
  exact h
theorem ref14_Split_L3_m (J2 : Int → Int → Int → Str → Int → Int → (List T_ref14_Token) → Prop) (X1 : Int → (List T_ref14_Token) → Prop) (a0 : Str) (r0 : (List T_ref14_Token)) (r1 : Int) (r2 : Int) (x1 : Int) (z13 : Int) (hJ2 : ∀ (x3 : Int) (x4 : Int) (x5 : Int) (x6 : Str) (x7 : Int) (x8 : Int) (x9 : (List T_ref14_Token)), ref14_Split_J2i X1 x3 x4 x5 x6 x7 x8 x9 → J2 x3 x4 x5 x6 x7 x8 x9) {X3 : Int → Int → (List T_ref14_Token) → Prop} {x14 : Int} {x15 : Int} {x16 : (List T_ref14_Token)} (h : ref14_Split_L3i X1 a0 r0 r1 r2 x1 z13 X3 x14 x15 x16) : ref14_Split_L3 z13 x1 a0 r0 r1 r2 J2 X3 x14 x15 x16 := by
  unfold ref14_Split_L3
  unfold ref14_Split_L3i at h
  refine cnd_mono h (fun h => ?_) (fun h => ?_)
  · exact h
  · refine cnd_mono h (fun h => ?_) (fun h => ?_)
    · exact h
    · exact hJ2 _ _ _ _ _ _ _ h
theorem ref14_Split_J5_m (X4 : Int → Str → (List T_ref14_Token) → Prop) (a0 : Str) {x20 : Int} {x21 : Str} {x22 : (List T_ref14_Token)} (h : ref14_Split_J5i X4 a0 x20 x21 x22) : ref14_Split_J5 a0 X4 x20 x21 x22 := by
  unfold ref14_Split_J5
  unfold ref14_Split_J5i at h
  exact h
theorem ref14_Split_J6_m (J2 : Int → Int → Int → Str → Int → Int → (List T_ref14_Token) → Prop) (J5 : Int → Str → (List T_ref14_Token) → Prop) (X1 : Int → (List T_ref14_Token) → Prop) (X4 : Int → Str → (List T_ref14_Token) → Prop) (a0 : Str) (r0 : (List T_ref14_Token)) (r1 : Int) (r2 : Int) (x1 : Int) (x17 : Int) (x18 : Str) (hJ2 : ∀ (x3 : Int) (x4 : Int) (x5 : Int) (x6 : Str) (x7 : Int) (x8 : Int) (x9 : (List T_ref14_Token)), ref14_Split_J2i X1 x3 x4 x5 x6 x7 x8 x9 → J2 x3 x4 x5 x6 x7 x8 x9) (hJ5 : ∀ (x20 : Int) (x21 : Str) (x22 : (List T_ref14_Token)), ref14_Split_J5i X4 a0 x20 x21 x22 → J5 x20 x21 x22) {x23 : Bool} {x24 : (List T_ref14_Token)} (h : ref14_Split_J6i X1 X4 a0 r0 r1 r2 x1 x17 x18 x23 x24) : ref14_Split_J6 x18 r0 x1 r1 r2 J2 x17 J5 x23 x24 := by
  unfold ref14_Split_J6
  unfold ref14_Split_J6i at h
  refine cnd_mono h (fun h => ?_) (fun h => ?_)
  · refine cnd_mono h (fun h => ?_) (fun h => ?_)
    · exact h
    · exact hJ2 _ _ _ _ _ _ _ h
  · exact hJ5 _ _ _ h
theorem ref14_Split_L4_m (J2 : Int → Int → Int → Str → Int → Int → (List T_ref14_Token) → Prop) (X1 : Int → (List T_ref14_Token) → Prop) (a0 : Str) (r0 : (List T_ref14_Token)) (r1 : Int) (r2 : Int) (x1 : Int) (hJ2 : ∀ (x3 : Int) (x4 : Int) (x5 : Int) (x6 : Str) (x7 : Int) (x8 : Int) (x9 : (List T_ref14_Token)), ref14_Split_J2i X1 x3 x4 x5 x6 x7 x8 x9 → J2 x3 x4 x5 x6 x7 x8 x9) {X4 : Int → Str → (List T_ref14_Token) → Prop} {x17 : Int} {x18 : Str} {x19 : (List T_ref14_Token)} (h : ref14_Split_L4i X1 a0 r0 r1 r2 x1 X4 x17 x18 x19) : ref14_Split_L4 a0 r0 x1 r1 r2 J2 X4 x17 x18 x19 := by
  unfold ref14_Split_L4
  unfold ref14_Split_L4i at h
  refine cnd_mono h (fun h => ?_) (fun h => ?_)
  · exact h
  · intro J5 kJ5
    have hJ5 : ∀ (x20 : Int) (x21 : Str) (x22 : (List T_ref14_Token)), ref14_Split_J5i X4 a0 x20 x21 x22 → J5 x20 x21 x22 := fun x20 x21 x22 q => kJ5 x20 x21 x22 (ref14_Split_J5_m X4 a0 q)
    obtain ⟨h0, h⟩ := h
    refine ⟨h0, ?_⟩
    refine cnd_mono h (fun h => ?_) (fun h => ?_)
    · intro J6 kJ6
      have hJ6 : ∀ (x23 : Bool) (x24 : (List T_ref14_Token)), ref14_Split_J6i X1 X4 a0 r0 r1 r2 x1 x17 x18 x23 x24 → J6 x23 x24 := fun x23 x24 q => kJ6 x23 x24 (ref14_Split_J6_m J2 J5 X1 X4 a0 r0 r1 r2 x1 x17 x18 hJ2 hJ5 q)
      refine cnd_mono h (fun h => ?_) (fun h => ?_)
      · exact hJ6 _ _ h
      · obtain ⟨h0, h⟩ := h
        refine ⟨h0, ?_⟩
        exact hJ6 _ _ h
    · exact hJ5 _ _ _ h
theorem ref14_Split_L1_m (a0 : Str) (r0 : (List T_ref14_Token)) (r1 : Int) (r2 : Int) {X1 : Int → (List T_ref14_Token) → Prop} {x1 : Int} {x2 : (List T_ref14_Token)} (h : ref14_Split_L1i a0 r0 r1 r2 X1 x1 x2) : ref14_Split_L1 a0 r0 r1 r2 X1 x1 x2 := by
  unfold ref14_Split_L1
  unfold ref14_Split_L1i at h
  refine cnd_mono h (fun h => ?_) (fun h => ?_)
  · intro J2 kJ2
    have hJ2 : ∀ (x3 : Int) (x4 : Int) (x5 : Int) (x6 : Str) (x7 : Int) (x8 : Int) (x9 : (List T_ref14_Token)), ref14_Split_J2i X1 x3 x4 x5 x6 x7 x8 x9 → J2 x3 x4 x5 x6 x7 x8 x9 := fun x3 x4 x5 x6 x7 x8 x9 q => kJ2 x3 x4 x5 x6 x7 x8 x9 (ref14_Split_J2_m X1 q)
    obtain ⟨h0, h⟩ := h
    refine ⟨h0, ?_⟩
    obtain ⟨z10, h⟩ := h
    refine ⟨z10, ?_⟩
    obtain ⟨h0, h⟩ := h
    refine ⟨h0, ?_⟩
    refine cnd_mono h (fun h => ?_) (fun h => ?_)
    · exact h
    · refine cnd_mono h (fun h => ?_) (fun h => ?_)
      · obtain ⟨z11, h⟩ := h
        refine ⟨z11, ?_⟩
        obtain ⟨h0, h⟩ := h
        refine ⟨h0, ?_⟩
        obtain ⟨h0, h⟩ := h
        refine ⟨h0, ?_⟩
        refine cnd_mono h (fun h => ?_) (fun h => ?_)
        · exact h
        · exact hJ2 _ _ _ _ _ _ _ h
      · refine cnd_mono h (fun h => ?_) (fun h => ?_)
        · obtain ⟨z12, h⟩ := h
          refine ⟨z12, ?_⟩
          obtain ⟨h0, h⟩ := h
          refine ⟨h0, ?_⟩
          obtain ⟨h0, h⟩ := h
          refine ⟨h0, ?_⟩
          refine cnd_mono h (fun h => ?_) (fun h => ?_)
          · exact h
          · exact hJ2 _ _ _ _ _ _ _ h
        · refine cnd_mono h (fun h => ?_) (fun h => ?_)
          · obtain ⟨z13, h⟩ := h
            refine ⟨z13, ?_⟩
            obtain ⟨h0, h⟩ := h
            refine ⟨h0, ?_⟩
            obtain ⟨h0, h⟩ := h
            refine ⟨h0, ?_⟩
            refine cnd_mono h (fun h => ?_) (fun h => ?_)
            · exact h
            · intro X3 k
              exact h X3 (fun x14 x15 x16 q => k x14 x15 x16 (ref14_Split_L3_m J2 X1 a0 r0 r1 r2 x1 z13 hJ2 q))
          · refine cnd_mono h (fun h => ?_) (fun h => ?_)
            · intro X4 k
              exact h X4 (fun x17 x18 x19 q => k x17 x18 x19 (ref14_Split_L4_m J2 X1 a0 r0 r1 r2 x1 hJ2 q))
            · obtain ⟨h0, h⟩ := h
              refine ⟨h0, ?_⟩
              obtain ⟨z25, h⟩ := h
              refine ⟨z25, ?_⟩
              obtain ⟨h0, h⟩ := h
              refine ⟨h0, ?_⟩
              refine cnd_mono h (fun h => ?_) (fun h => ?_)
              · exact h
              · exact hJ2 _ _ _ _ _ _ _ h
  · exact h
theorem ref14_Split_i (a0 : Str) (r0 : (List T_ref14_Token)) (r1 : Int) (r2 : Int) (h : ref14_Split_oi a0 r0 r1 r2) : ref14_Split_o a0 r0 r1 r2 := by
  unfold ref14_Split_o
  unfold ref14_Split_oi at h
  refine cnd_mono h (fun h => ?_) (fun h => ?_)
  · exact h
  · intro X1 k
    exact h X1 (fun x1 x2 q => k x1 x2 (ref14_Split_L1_m a0 r0 r1 r2 q))
noncomputable def ref14_Split_sp : Sp KK := ⟨24, [.v 9], [58, 3, 3], appW (K := KK) [58, 3, 3] [.v 9] ref14_Split_o⟩
noncomputable def ref14_Split_an : An KK := (.s .o (.s (.s .o (.c (.s .o .o) .o)) (.s .o (.s .o (.s (.b (.l ⟨[(0, .kp 676), (5, .row 162), (6, .it .i64)], [], [(162, 61)]⟩ (fun _ => (.s (.s .o (.c .o .o)) (.b (.s .o (.s .o (.j ⟨[(0, .kp 676), (5, .row 162), (6, .it .i64), (7, .px 7 0), (8, .it .i64)], [(7, 61, [.it .i64, .st, .it .i64, .it .i64])], [(162, 61)]⟩ (.s .o (.b (.s .o (.c (.s .o .o) (.s .o (.c (.s .o (.s .o (.s .o (.c (.s .o .o) .o)))) (.s .o (.c (.s .o (.s .o (.s .o (.c (.s .o .o) .o)))) (.s .o (.c (.s .o (.s .o (.s (.s .o (.c (.s .o .o) .o)) (.s .o (.s (.s .o (.b (.l ⟨[(0, .kp 676), (5, .row 162), (6, .kp 1283), (7, .px 7 0), (8, .kp 1284), (9, .it .u64), (10, .it .i64)], [(7, 61, [.kp 1287, .kp 1288, .kp 1289, .kp 1290])], [(162, 61)]⟩ (fun _ => (.s (.s .o (.c .o .o)) (.s (.b .o) .o)))))) (.s (.s .o (.c (.s .o .o) .o)) .o)))))) (.s .o (.c (.s .o (.s .o (.s (.b (.l ⟨[(0, .kp 676), (5, .row 162), (6, .kp 1321), (7, .px 7 0), (11, .it .i64)], [(7, 61, [.kp 1323, .st, .kp 1325, .kp 1326])], [(162, 61)]⟩ (fun _ => (.b (.s (.s .o (.c (.s .o .o) .o)) (.j ⟨[(0, .kp 676), (5, .row 162), (6, .kp 1321), (7, .px 7 0), (11, .it .i64)], [(7, 61, [.kp 1323, .st, .kp 1325, .kp 1326])], [(162, 61)]⟩ (.s .o (.c (.s (.j ⟨[(0, .kp 676), (5, .row 162), (6, .kp 1321), (7, .px 7 0), (11, .kp 1349), (136, .bl)], [(7, 61, [.kp 1323, .kp 1350, .kp 1325, .kp 1326])], [(162, 61)]⟩ .o (fun _ => (.c .o .o))) .o) .o)) (fun _ => (.s .o .o)))))))) (.s .o (.s .o (.c (.s .o .o) .o)))))) (.s .o (.s (.s .o (.c (.s .o .o) .o)) (.s .o .o))))))))))))))) (fun _ => (.s .o .o)))))))))) (.s .o .o))))))
noncomputable def ref14_Split_cf : Cf KK := ⟨CC, [ref14_class_sp, ref14_run_sp, ref14_sign_sp], 167⟩

set_option maxRecDepth 100000 in
theorem ref14_Split_ok : SpOk Tryd.prog CC ref14_Split_sp := by
  intro env r hF h
  obtain ⟨a0, env0, rfl, h1⟩ := appW_v h
  obtain ⟨rfl, h2⟩ := appW_n h1
  obtain ⟨r0, rr0, rfl, h3⟩ := apR_v h2
  obtain ⟨r1, rr1, rfl, h4⟩ := apR_v h3
  obtain ⟨r2, rr2, rfl, h5⟩ := apR_v h4
  obtain ⟨rfl, h6⟩ := apR_n h5
  refine ⟨rfl, DnF_by (F := ref14_Split_cf) CC_ok (SsOk_c ref14_class_ok (SsOk_c ref14_run_ok (SsOk_c ref14_sign_ok SsOk_n))) t24 (A := ref14_Split_an) (ps := [.v 9]) (rs := [58, 3, 3]) (env := [.d (.v 9 a0)]) (r := [.v 58 r0, .v 3 r1, .v 3 r2]) (X := ref14_Split_o a0 r0 r1 r2) rfl (Nat.le_of_ble_eq_true rfl) rfl hF h6 ?_⟩
  kernel_rfl

def strconv_FormatInt_o (a0 : Int) (a1 : Int) (r0 : Str) : Prop := a1 = 10 ∧ -9223372036854775808 ≤ a0 ∧ a0 ≤ 9223372036854775807 ∧ r0 = Go.Lib.itoa a0
noncomputable def strconv_FormatInt_sp : Sp KK := ⟨57, [.v 2, .v 3], [9], appW (K := KK) [9] [.v 2, .v 3] strconv_FormatInt_o⟩

set_option maxRecDepth 100000 in
theorem strconv_FormatInt_p {a0 : Int} {a1 : Int} {r0 : Str} (h : strconv_FormatInt_o a0 a1 r0) : AV.Pure Tryd.prog 57 [.it .i64 a0, .it .i64 a1] (.st r0) := by
  obtain ⟨rfl, q0, q1, rfl⟩ := h
  exact sh_FormatInt Tryd.func57 (by kernel_rfl) (by kernel_rfl) Tryd.strconv_FormatInt_10 q0 q1
set_option maxRecDepth 100000 in
theorem strconv_FormatInt_ok : SpOk Tryd.prog CC strconv_FormatInt_sp := by
  intro env r hF h
  obtain ⟨a0, env0, rfl, h1⟩ := appW_v h
  obtain ⟨a1, env1, rfl, h2⟩ := appW_v h1
  obtain ⟨rfl, h3⟩ := appW_n h2
  obtain ⟨r0, rr0, rfl, h4⟩ := apR_v h3
  obtain ⟨rfl, h5⟩ := apR_n h4
  exact ⟨rfl, (strconv_FormatInt_p h5).congr (by kernel_rfl) (by kernel_rfl)⟩

def strings_ReplaceAll_o (a0 : Str) (a1 : Str) (a2 : Str) (r0 : Str) : Prop := a0.length ≤ 100000 ∧ 1 ≤ a1.length ∧ a2.length ≤ 100000 ∧ r0 = Go.Lib.replaceAll a0 a1 a2
noncomputable def strings_ReplaceAll_sp : Sp KK := ⟨58, [.v 9, .v 9, .v 9], [9], appW (K := KK) [9] [.v 9, .v 9, .v 9] strings_ReplaceAll_o⟩

set_option maxRecDepth 100000 in
theorem strings_ReplaceAll_p {a0 : Str} {a1 : Str} {a2 : Str} {r0 : Str} (h : strings_ReplaceAll_o a0 a1 a2 r0) : AV.Pure Tryd.prog 58 [.st a0, .st a1, .st a2] (.st r0) := by
  obtain ⟨q0, q1, q2, rfl⟩ := h
  exact sh_ReplaceAll Tryd.func58 (by kernel_rfl) (by kernel_rfl) Tryd.strings_ReplaceAll q0 q1 q2
set_option maxRecDepth 100000 in
theorem strings_ReplaceAll_ok : SpOk Tryd.prog CC strings_ReplaceAll_sp := by
  intro env r hF h
  obtain ⟨a0, env0, rfl, h1⟩ := appW_v h
  obtain ⟨a1, env1, rfl, h2⟩ := appW_v h1
  obtain ⟨a2, env2, rfl, h3⟩ := appW_v h2
  obtain ⟨rfl, h4⟩ := appW_n h3
  obtain ⟨r0, rr0, rfl, h5⟩ := apR_v h4
  obtain ⟨rfl, h6⟩ := apR_n h5
  exact ⟨rfl, (strings_ReplaceAll_p h6).congr (by kernel_rfl) (by kernel_rfl)⟩

def lex_Token_written_o (a0 : T_lex_Token) (r0 : Str) : Prop :=
  cnd (a0.Kind == (3 : Int)) (∃ z1 : Str, (strconv_FormatInt_o a0.N (10 : Int) z1) ∧ z1 = r0) (cnd (a0.Kind == (4 : Int)) (∃ z2 : Str, (strings_ReplaceAll_o a0.S ([39] : Str) ([39, 39] : Str) z2) ∧ (([39] : Str).length + z2.length ≤ 9223372036854775807) ∧ ((([39] : Str) ++ z2).length + ([39] : Str).length ≤ 9223372036854775807) ∧ ((([39] : Str) ++ z2) ++ ([39] : Str)) = r0) (a0.S = r0))
noncomputable def lex_Token_written_sp : Sp KK := ⟨43, [.v 55], [9], appW (K := KK) [9] [.v 55] lex_Token_written_o⟩
noncomputable def lex_Token_written_an : An KK := (.s .o (.s (.s .o (.b (.s .o (.c (.s .o .o) (.s .o (.c (.s .o .o) .o)))))) (.s .o .o)))
noncomputable def lex_Token_written_cf : Cf KK := ⟨CC, [strconv_FormatInt_sp, strings_ReplaceAll_sp], 19⟩

set_option maxRecDepth 100000 in
theorem lex_Token_written_ok : SpOk Tryd.prog CC lex_Token_written_sp := by
  intro env r hF h
  obtain ⟨a0, env0, rfl, h1⟩ := appW_v h
  obtain ⟨rfl, h2⟩ := appW_n h1
  obtain ⟨r0, rr0, rfl, h3⟩ := apR_v h2
  obtain ⟨rfl, h4⟩ := apR_n h3
  refine ⟨rfl, DnF_by (F := lex_Token_written_cf) CC_ok (SsOk_c strconv_FormatInt_ok (SsOk_c strings_ReplaceAll_ok SsOk_n)) t43 (A := lex_Token_written_an) (ps := [.v 55]) (rs := [9]) (env := [.d (.v 55 a0)]) (r := [.v 9 r0]) (X := lex_Token_written_o a0 r0) rfl (Nat.le_of_ble_eq_true rfl) rfl hF h4 ?_⟩
  kernel_rfl

def strings_Join_o (a0 : (List Str)) (a1 : Str) (r0 : Str) : Prop := a0.length ≤ 100000 ∧ (Go.Lib.join a0 a1).length ≤ 140737488355328 ∧ r0 = Go.Lib.join a0 a1
noncomputable def strings_Join_sp : Sp KK := ⟨44, [.v 72, .v 9], [9], appW (K := KK) [9] [.v 72, .v 9] strings_Join_o⟩

set_option maxRecDepth 100000 in
theorem strings_Join_p {a0 : (List Str)} {a1 : Str} {r0 : Str} (h : strings_Join_o a0 a1 r0) : AV.Pure Tryd.prog 44 [slA eS a0, .st a1] (.st r0) := by
  obtain ⟨q0, q1, rfl⟩ := h
  exact sh_Join Tryd.func44 (by kernel_rfl) Tryd.strings_Join_none Tryd.strings_Join q0 q1
set_option maxRecDepth 100000 in
theorem strings_Join_ok : SpOk Tryd.prog CC strings_Join_sp := by
  intro env r hF h
  obtain ⟨a0, env0, rfl, h1⟩ := appW_v h
  obtain ⟨a1, env1, rfl, h2⟩ := appW_v h1
  obtain ⟨rfl, h3⟩ := appW_n h2
  obtain ⟨r0, rr0, rfl, h4⟩ := apR_v h3
  obtain ⟨rfl, h5⟩ := apR_n h4
  exact ⟨rfl, (strings_Join_p h5).congr (by kernel_rfl) (by kernel_rfl)⟩

def lex_Join_L1 (a0 : (List T_lex_Token)) (r0 : Str) (X1 : Int → (List Str) → Prop) (x1 : Int) (x2 : (List Str)) : Prop :=
  cnd (decide (x1 < (a0.length : Int))) ((0 ≤ x1) ∧ (x1 < (a0.length : Int)) ∧ ∃ y3 : T_lex_Token, (a0[x1.toNat]? = some y3) ∧ ∃ z4 : Str, (lex_Token_written_o y3 z4) ∧ (x2.length ≤ 1000000000) ∧ X1 (IntKind.i64.wrap (x1 + (1 : Int))) (x2 ++ ([z4] : List Str))) (∃ z5 : Str, (strings_Join_o x2 ([32] : Str) z5) ∧ z5 = r0)
def lex_Join_o (a0 : (List T_lex_Token)) (r0 : Str) : Prop :=
  (a0.length ≤ maxLen → ∀ X1 : Int → (List Str) → Prop, (∀ (x1 : Int) (x2 : (List Str)), lex_Join_L1 a0 r0 X1 x1 x2 → X1 x1 x2) → X1 (0 : Int) ([] : List Str))
def lex_Join_L1i (a0 : (List T_lex_Token)) (r0 : Str) (X1 : Int → (List Str) → Prop) (x1 : Int) (x2 : (List Str)) : Prop :=
  cnd (decide (x1 < (a0.length : Int))) ((0 ≤ x1) ∧ (x1 < (a0.length : Int)) ∧ ∃ y3 : T_lex_Token, (a0[x1.toNat]? = some y3) ∧ ∃ z4 : Str, (lex_Token_written_o y3 z4) ∧ (x2.length ≤ 1000000000) ∧ X1 (IntKind.i64.wrap (x1 + (1 : Int))) (x2 ++ ([z4] : List Str))) (∃ z5 : Str, (strings_Join_o x2 ([32] : Str) z5) ∧ z5 = r0)
def lex_Join_oi (a0 : (List T_lex_Token)) (r0 : Str) : Prop :=
  (a0.length ≤ maxLen → ∀ X1 : Int → (List Str) → Prop, (∀ (x1 : Int) (x2 : (List Str)), lex_Join_L1i a0 r0 X1 x1 x2 → X1 x1 x2) → X1 (0 : Int) ([] : List Str))
theorem lex_Join_L1_m (a0 : (List T_lex_Token)) (r0 : Str) {X1 : Int → (List Str) → Prop} {x1 : Int} {x2 : (List Str)} (h : lex_Join_L1i a0 r0 X1 x1 x2) : lex_Join_L1 a0 r0 X1 x1 x2 := by
  unfold lex_Join_L1
  unfold lex_Join_L1i at h
  exact h
theorem lex_Join_i (a0 : (List T_lex_Token)) (r0 : Str) (h : lex_Join_oi a0 r0) : lex_Join_o a0 r0 := by
  unfold lex_Join_o
  unfold lex_Join_oi at h
  intro c
  replace h := h c
  intro X1 k
  exact h X1 (fun x1 x2 q => k x1 x2 (lex_Join_L1_m a0 r0 q))
noncomputable def lex_Join_sp : Sp KK := ⟨25, [.v 50], [9], appW (K := KK) [9] [.v 50] lex_Join_o⟩
noncomputable def lex_Join_an : An KK := (.s .o (.s .o (.s (.s .o (.b (.l ⟨[(3, .row 16), (6, .kp 6), (7, .kp 7), (8, .it .i64)], [], [(16, 9)]⟩ (fun _ => (.s .o (.s (.c .o .o) (.s (.b (.s .o .o)) .o))))))) (.s .o .o))))
noncomputable def lex_Join_cf : Cf KK := ⟨CC, [lex_Token_written_sp, strings_Join_sp], 20⟩

set_option maxRecDepth 100000 in
theorem lex_Join_ok : SpOk Tryd.prog CC lex_Join_sp := by
  intro env r hF h
  obtain ⟨a0, env0, rfl, h1⟩ := appW_v h
  obtain ⟨rfl, h2⟩ := appW_n h1
  obtain ⟨r0, rr0, rfl, h3⟩ := apR_v h2
  obtain ⟨rfl, h4⟩ := apR_n h3
  refine ⟨rfl, DnF_by (F := lex_Join_cf) CC_ok (SsOk_c lex_Token_written_ok (SsOk_c strings_Join_ok SsOk_n)) t25 (A := lex_Join_an) (ps := [.v 50]) (rs := [9]) (env := [.d (.v 50 a0)]) (r := [.v 9 r0]) (X := lex_Join_o a0 r0) rfl (Nat.le_of_ble_eq_true rfl) rfl hF h4 ?_⟩
  kernel_rfl

def law14_LexSplits_J5 (r0 : Bool) (X4 : Int → Prop) (x18 : Int) (x19 : Bool) : Prop :=
  cnd x19 (false = r0) (X4 (IntKind.i64.wrap (x18 + (1 : Int))))
def law14_LexSplits_L4 (z2 : (List T_lex_Token)) (r0 : Bool) (z13 : (List T_lex_Token)) (X4 : Int → Prop) (x18 : Int) : Prop :=
  (z2.length ≤ maxLen → cnd (decide (x18 < (z2.length : Int))) (∀ J5 : Bool → Prop, (∀ (x19 : Bool), law14_LexSplits_J5 r0 X4 x18 x19 → J5 x19) → (0 ≤ x18) ∧ (x18 < (z13.length : Int)) ∧ ∃ y20 : T_lex_Token, (z13[x18.toNat]? = some y20) ∧ (0 ≤ x18) ∧ (x18 < (z2.length : Int)) ∧ ∃ y21 : T_lex_Token, (z2[x18.toNat]? = some y21) ∧ cnd (!(y20.Kind == y21.Kind)) (J5 true) ((0 ≤ x18) ∧ (x18 < (z13.length : Int)) ∧ ∃ y22 : T_lex_Token, (z13[x18.toNat]? = some y22) ∧ (0 ≤ x18) ∧ (x18 < (z2.length : Int)) ∧ ∃ y23 : T_lex_Token, (z2[x18.toNat]? = some y23) ∧ cnd (!(y22.N == y23.N)) (J5 true) ((0 ≤ x18) ∧ (x18 < (z2.length : Int)) ∧ ∃ y24 : T_lex_Token, (z2[x18.toNat]? = some y24) ∧ cnd (!(y24.Kind == (3 : Int))) ((0 ≤ x18) ∧ (x18 < (z13.length : Int)) ∧ ∃ y25 : T_lex_Token, (z13[x18.toNat]? = some y25) ∧ (0 ≤ x18) ∧ (x18 < (z2.length : Int)) ∧ ∃ y26 : T_lex_Token, (z2[x18.toNat]? = some y26) ∧ J5 (!(y25.S == y26.S))) (J5 false)))) (true = r0))
def law14_LexSplits_J3 (r0 : Bool) (z2 : (List T_lex_Token)) (z13 : (List T_lex_Token)) (x17 : Bool) : Prop :=
  cnd x17 (false = r0) (∀ X4 : Int → Prop, (∀ (x18 : Int), law14_LexSplits_L4 z2 r0 z13 X4 x18 → X4 x18) → X4 (0 : Int))
def law14_LexSplits_L2 (z2 : (List T_lex_Token)) (z5 : (List T_ref14_Token)) (r0 : Bool) (z4 : Int) (X2 : Int → Prop) (x9 : Int) : Prop :=
  (z2.length ≤ maxLen → cnd (decide (x9 < (z2.length : Int))) ((0 ≤ x9) ∧ (x9 < (z2.length : Int)) ∧ ∃ y10 : T_lex_Token, (z2[x9.toNat]? = some y10) ∧ (0 ≤ x9) ∧ (x9 < (z5.length : Int)) ∧ ∃ y11 : T_ref14_Token, (z5[x9.toNat]? = some y11) ∧ cnd (!((y10.Kind == y11.Kind) && ((y10.S == y11.S) && ((y10.N == y11.N) && ((y10.At == y11.At) && true))))) (false = r0) (X2 (IntKind.i64.wrap (x9 + (1 : Int))))) (cnd (!(z4 == (0 : Int))) (true = r0) (∃ z12 : Str, (lex_Join_o z2 z12) ∧ ∃ z13 : (List T_lex_Token), ∃ z14 : Int, ∃ z15 : Int, (lex_Split_o z12 z13 z14 z15) ∧ ∃ z16 : Str, (lex_Join_o z2 z16) ∧ cnd (decide ((2000 : Int) < (z16.length : Int))) ((z15 == (3 : Int)) = r0) (∀ J3 : Bool → Prop, (∀ (x17 : Bool), law14_LexSplits_J3 r0 z2 z13 x17 → J3 x17) → cnd (!(z15 == (0 : Int))) (J3 true) ((z13.length ≤ maxLen → (z2.length ≤ maxLen → J3 (!((z13.length : Int) == (z2.length : Int))))))))))
def law14_LexSplits_J1 (r0 : Bool) (z2 : (List T_lex_Token)) (z5 : (List T_ref14_Token)) (z4 : Int) (x8 : Bool) : Prop :=
  cnd x8 (false = r0) (∀ X2 : Int → Prop, (∀ (x9 : Int), law14_LexSplits_L2 z2 z5 r0 z4 X2 x9 → X2 x9) → X2 (0 : Int))
def law14_LexSplits_o (a0 : Str) (r0 : Bool) : Prop :=
  ∃ z1 : Bool, (law14_speaks_o z1) ∧ cnd (!z1) (false = r0) ((0 ≤ (0 : Int) ∧ (0 : Int) ≤ (if (300 : Int) < (a0.length : Int) then (300 : Int) else (a0.length : Int)) ∧ (if (300 : Int) < (a0.length : Int) then (300 : Int) else (a0.length : Int)) ≤ (a0.length : Int)) ∧ ∃ z2 : (List T_lex_Token), ∃ z3 : Int, ∃ z4 : Int, (lex_Split_o ((a0.drop (0 : Int).toNat).take ((if (300 : Int) < (a0.length : Int) then (300 : Int) else (a0.length : Int)).toNat - (0 : Int).toNat)) z2 z3 z4) ∧ ∃ z5 : (List T_ref14_Token), ∃ z6 : Int, ∃ z7 : Int, (ref14_Split_o ((a0.drop (0 : Int).toNat).take ((if (300 : Int) < (a0.length : Int) then (300 : Int) else (a0.length : Int)).toNat - (0 : Int).toNat)) z5 z6 z7) ∧ ∀ J1 : Bool → Prop, (∀ (x8 : Bool), law14_LexSplits_J1 r0 z2 z5 z4 x8 → J1 x8) → cnd (!(z4 == z7)) (J1 true) (cnd (!(z3 == z6)) (J1 true) ((z2.length ≤ maxLen → (z5.length ≤ maxLen → J1 (!((z2.length : Int) == (z5.length : Int))))))))
def law14_LexSplits_J5i (X4 : Int → Prop) (r0 : Bool) (x18 : Int) (x19 : Bool) : Prop :=
  cnd x19 (false = r0) (X4 (IntKind.i64.wrap (x18 + (1 : Int))))
def law14_LexSplits_L4i (r0 : Bool) (z2 : (List T_lex_Token)) (z13 : (List T_lex_Token)) (X4 : Int → Prop) (x18 : Int) : Prop :=
  (z2.length ≤ maxLen → cnd (decide (x18 < (z2.length : Int))) ((0 ≤ x18) ∧ (x18 < (z13.length : Int)) ∧ ∃ y20 : T_lex_Token, (z13[x18.toNat]? = some y20) ∧ (0 ≤ x18) ∧ (x18 < (z2.length : Int)) ∧ ∃ y21 : T_lex_Token, (z2[x18.toNat]? = some y21) ∧ cnd (!(y20.Kind == y21.Kind)) (law14_LexSplits_J5i X4 r0 x18 true) ((0 ≤ x18) ∧ (x18 < (z13.length : Int)) ∧ ∃ y22 : T_lex_Token, (z13[x18.toNat]? = some y22) ∧ (0 ≤ x18) ∧ (x18 < (z2.length : Int)) ∧ ∃ y23 : T_lex_Token, (z2[x18.toNat]? = some y23) ∧ cnd (!(y22.N == y23.N)) (law14_LexSplits_J5i X4 r0 x18 true) ((0 ≤ x18) ∧ (x18 < (z2.length : Int)) ∧ ∃ y24 : T_lex_Token, (z2[x18.toNat]? = some y24) ∧ cnd (!(y24.Kind == (3 : Int))) ((0 ≤ x18) ∧ (x18 < (z13.length : Int)) ∧ ∃ y25 : T_lex_Token, (z13[x18.toNat]? = some y25) ∧ (0 ≤ x18) ∧ (x18 < (z2.length : Int)) ∧ ∃ y26 : T_lex_Token, (z2[x18.toNat]? = some y26) ∧ law14_LexSplits_J5i X4 r0 x18 (!(y25.S == y26.S))) (law14_LexSplits_J5i X4 r0 x18 false)))) (true = r0))
def law14_LexSplits_J3i (r0 : Bool) (z2 : (List T_lex_Token)) (z13 : (List T_lex_Token)) (x17 : Bool) : Prop :=
  cnd x17 (false = r0) (∀ X4 : Int → Prop, (∀ (x18 : Int), law14_LexSplits_L4i r0 z2 z13 X4 x18 → X4 x18) → X4 (0 : Int))
def law14_LexSplits_L2i (r0 : Bool) (z2 : (List T_lex_Token)) (z4 : Int) (z5 : (List T_ref14_Token)) (X2 : Int → Prop) (x9 : Int) : Prop :=
  (z2.length ≤ maxLen → cnd (decide (x9 < (z2.length : Int))) ((0 ≤ x9) ∧ (x9 < (z2.length : Int)) ∧ ∃ y10 : T_lex_Token, (z2[x9.toNat]? = some y10) ∧ (0 ≤ x9) ∧ (x9 < (z5.length : Int)) ∧ ∃ y11 : T_ref14_Token, (z5[x9.toNat]? = some y11) ∧ cnd (!((y10.Kind == y11.Kind) && ((y10.S == y11.S) && ((y10.N == y11.N) && ((y10.At == y11.At) && true))))) (false = r0) (X2 (IntKind.i64.wrap (x9 + (1 : Int))))) (cnd (!(z4 == (0 : Int))) (true = r0) (∃ z12 : Str, (lex_Join_o z2 z12) ∧ ∃ z13 : (List T_lex_Token), ∃ z14 : Int, ∃ z15 : Int, (lex_Split_o z12 z13 z14 z15) ∧ ∃ z16 : Str, (lex_Join_o z2 z16) ∧ cnd (decide ((2000 : Int) < (z16.length : Int))) ((z15 == (3 : Int)) = r0) (cnd (!(z15 == (0 : Int))) (law14_LexSplits_J3i r0 z2 z13 true) ((z13.length ≤ maxLen → (z2.length ≤ maxLen → law14_LexSplits_J3i r0 z2 z13 (!((z13.length : Int) == (z2.length : Int))))))))))
def law14_LexSplits_J1i (r0 : Bool) (z2 : (List T_lex_Token)) (z4 : Int) (z5 : (List T_ref14_Token)) (x8 : Bool) : Prop :=
  cnd x8 (false = r0) (∀ X2 : Int → Prop, (∀ (x9 : Int), law14_LexSplits_L2i r0 z2 z4 z5 X2 x9 → X2 x9) → X2 (0 : Int))
def law14_LexSplits_oi (a0 : Str) (r0 : Bool) : Prop :=
  ∃ z1 : Bool, (law14_speaks_o z1) ∧ cnd (!z1) (false = r0) ((0 ≤ (0 : Int) ∧ (0 : Int) ≤ (if (300 : Int) < (a0.length : Int) then (300 : Int) else (a0.length : Int)) ∧ (if (300 : Int) < (a0.length : Int) then (300 : Int) else (a0.length : Int)) ≤ (a0.length : Int)) ∧ ∃ z2 : (List T_lex_Token), ∃ z3 : Int, ∃ z4 : Int, (lex_Split_o ((a0.drop (0 : Int).toNat).take ((if (300 : Int) < (a0.length : Int) then (300 : Int) else (a0.length : Int)).toNat - (0 : Int).toNat)) z2 z3 z4) ∧ ∃ z5 : (List T_ref14_Token), ∃ z6 : Int, ∃ z7 : Int, (ref14_Split_o ((a0.drop (0 : Int).toNat).take ((if (300 : Int) < (a0.length : Int) then (300 : Int) else (a0.length : Int)).toNat - (0 : Int).toNat)) z5 z6 z7) ∧ cnd (!(z4 == z7)) (law14_LexSplits_J1i r0 z2 z4 z5 true) (cnd (!(z3 == z6)) (law14_LexSplits_J1i r0 z2 z4 z5 true) ((z2.length ≤ maxLen → (z5.length ≤ maxLen → law14_LexSplits_J1i r0 z2 z4 z5 (!((z2.length : Int) == (z5.length : Int))))))))
theorem law14_LexSplits_J5_m (X4 : Int → Prop) (r0 : Bool) (x18 : Int) {x19 : Bool} (h : law14_LexSplits_J5i X4 r0 x18 x19) : law14_LexSplits_J5 r0 X4 x18 x19 := by
  unfold law14_LexSplits_J5
  unfold law14_LexSplits_J5i at h
  exact h
theorem law14_LexSplits_L4_m (r0 : Bool) (z2 : (List T_lex_Token)) (z13 : (List T_lex_Token)) {X4 : Int → Prop} {x18 : Int} (h : law14_LexSplits_L4i r0 z2 z13 X4 x18) : law14_LexSplits_L4 z2 r0 z13 X4 x18 := by
  unfold law14_LexSplits_L4
  unfold law14_LexSplits_L4i at h
  intro c
  replace h := h c
  refine cnd_mono h (fun h => ?_) (fun h => ?_)
  · intro J5 kJ5
    have hJ5 : ∀ (x19 : Bool), law14_LexSplits_J5i X4 r0 x18 x19 → J5 x19 := fun x19 q => kJ5 x19 (law14_LexSplits_J5_m X4 r0 x18 q)
    obtain ⟨h0, h⟩ := h
    refine ⟨h0, ?_⟩
    obtain ⟨h0, h⟩ := h
    refine ⟨h0, ?_⟩
    obtain ⟨y20, h⟩ := h
    refine ⟨y20, ?_⟩
    obtain ⟨h0, h⟩ := h
    refine ⟨h0, ?_⟩
    obtain ⟨h0, h⟩ := h
    refine ⟨h0, ?_⟩
    obtain ⟨h0, h⟩ := h
    refine ⟨h0, ?_⟩
    obtain ⟨y21, h⟩ := h
    refine ⟨y21, ?_⟩
    obtain ⟨h0, h⟩ := h
    refine ⟨h0, ?_⟩
    refine cnd_mono h (fun h => ?_) (fun h => ?_)
    · exact hJ5 _ h
    · obtain ⟨h0, h⟩ := h
      refine ⟨h0, ?_⟩
      obtain ⟨h0, h⟩ := h
      refine ⟨h0, ?_⟩
      obtain ⟨y22, h⟩ := h
      refine ⟨y22, ?_⟩
      obtain ⟨h0, h⟩ := h
      refine ⟨h0, ?_⟩
      obtain ⟨h0, h⟩ := h
      refine ⟨h0, ?_⟩
      obtain ⟨h0, h⟩ := h
      refine ⟨h0, ?_⟩
      obtain ⟨y23, h⟩ := h
      refine ⟨y23, ?_⟩
      obtain ⟨h0, h⟩ := h
      refine ⟨h0, ?_⟩
      refine cnd_mono h (fun h => ?_) (fun h => ?_)
      · exact hJ5 _ h
      · obtain ⟨h0, h⟩ := h
        refine ⟨h0, ?_⟩
        obtain ⟨h0, h⟩ := h
        refine ⟨h0, ?_⟩
        obtain ⟨y24, h⟩ := h
        refine ⟨y24, ?_⟩
        obtain ⟨h0, h⟩ := h
        refine ⟨h0, ?_⟩
        refine cnd_mono h (fun h => ?_) (fun h => ?_)
        · obtain ⟨h0, h⟩ := h
          refine ⟨h0, ?_⟩
          obtain ⟨h0, h⟩ := h
          refine ⟨h0, ?_⟩
          obtain ⟨y25, h⟩ := h
          refine ⟨y25, ?_⟩
          obtain ⟨h0, h⟩ := h
          refine ⟨h0, ?_⟩
          obtain ⟨h0, h⟩ := h
          refine ⟨h0, ?_⟩
          obtain ⟨h0, h⟩ := h
          refine ⟨h0, ?_⟩
          obtain ⟨y26, h⟩ := h
          refine ⟨y26, ?_⟩
          obtain ⟨h0, h⟩ := h
          refine ⟨h0, ?_⟩
          exact hJ5 _ h
        · exact hJ5 _ h
  · exact h
theorem law14_LexSplits_J3_m (r0 : Bool) (z2 : (List T_lex_Token)) (z13 : (List T_lex_Token)) {x17 : Bool} (h : law14_LexSplits_J3i r0 z2 z13 x17) : law14_LexSplits_J3 r0 z2 z13 x17 := by
  unfold law14_LexSplits_J3
  unfold law14_LexSplits_J3i at h
  refine cnd_mono h (fun h => ?_) (fun h => ?_)
  · exact h
  · intro X4 k
    exact h X4 (fun x18 q => k x18 (law14_LexSplits_L4_m r0 z2 z13 q))
theorem law14_LexSplits_L2_m (r0 : Bool) (z2 : (List T_lex_Token)) (z4 : Int) (z5 : (List T_ref14_Token)) {X2 : Int → Prop} {x9 : Int} (h : law14_LexSplits_L2i r0 z2 z4 z5 X2 x9) : law14_LexSplits_L2 z2 z5 r0 z4 X2 x9 := by
  unfold law14_LexSplits_L2
  unfold law14_LexSplits_L2i at h
  intro c
  replace h := h c
  refine cnd_mono h (fun h => ?_) (fun h => ?_)
  · exact h
  · refine cnd_mono h (fun h => ?_) (fun h => ?_)
    · exact h
    · obtain ⟨z12, h⟩ := h
      refine ⟨z12, ?_⟩
      obtain ⟨h0, h⟩ := h
      refine ⟨h0, ?_⟩
      obtain ⟨z13, h⟩ := h
      refine ⟨z13, ?_⟩
      obtain ⟨z14, h⟩ := h
      refine ⟨z14, ?_⟩
      obtain ⟨z15, h⟩ := h
      refine ⟨z15, ?_⟩
      obtain ⟨h0, h⟩ := h
      refine ⟨h0, ?_⟩
      obtain ⟨z16, h⟩ := h
      refine ⟨z16, ?_⟩
      obtain ⟨h0, h⟩ := h
      refine ⟨h0, ?_⟩
      refine cnd_mono h (fun h => ?_) (fun h => ?_)
      · exact h
      · intro J3 kJ3
        have hJ3 : ∀ (x17 : Bool), law14_LexSplits_J3i r0 z2 z13 x17 → J3 x17 := fun x17 q => kJ3 x17 (law14_LexSplits_J3_m r0 z2 z13 q)
        refine cnd_mono h (fun h => ?_) (fun h => ?_)
        · exact hJ3 _ h
        · intro c
          replace h := h c
          intro c
          replace h := h c
          exact hJ3 _ h
theorem law14_LexSplits_J1_m (r0 : Bool) (z2 : (List T_lex_Token)) (z4 : Int) (z5 : (List T_ref14_Token)) {x8 : Bool} (h : law14_LexSplits_J1i r0 z2 z4 z5 x8) : law14_LexSplits_J1 r0 z2 z5 z4 x8 := by
  unfold law14_LexSplits_J1
  unfold law14_LexSplits_J1i at h
  refine cnd_mono h (fun h => ?_) (fun h => ?_)
  · exact h
  · intro X2 k
    exact h X2 (fun x9 q => k x9 (law14_LexSplits_L2_m r0 z2 z4 z5 q))
theorem law14_LexSplits_i (a0 : Str) (r0 : Bool) (h : law14_LexSplits_oi a0 r0) : law14_LexSplits_o a0 r0 := by
  unfold law14_LexSplits_o
  unfold law14_LexSplits_oi at h
  obtain ⟨z1, h⟩ := h
  refine ⟨z1, ?_⟩
  obtain ⟨h0, h⟩ := h
  refine ⟨h0, ?_⟩
  refine cnd_mono h (fun h => ?_) (fun h => ?_)
  · exact h
  · obtain ⟨h0, h⟩ := h
    refine ⟨h0, ?_⟩
    obtain ⟨z2, h⟩ := h
    refine ⟨z2, ?_⟩
    obtain ⟨z3, h⟩ := h
    refine ⟨z3, ?_⟩
    obtain ⟨z4, h⟩ := h
    refine ⟨z4, ?_⟩
    obtain ⟨h0, h⟩ := h
    refine ⟨h0, ?_⟩
    obtain ⟨z5, h⟩ := h
    refine ⟨z5, ?_⟩
    obtain ⟨z6, h⟩ := h
    refine ⟨z6, ?_⟩
    obtain ⟨z7, h⟩ := h
    refine ⟨z7, ?_⟩
    obtain ⟨h0, h⟩ := h
    refine ⟨h0, ?_⟩
    intro J1 kJ1
    have hJ1 : ∀ (x8 : Bool), law14_LexSplits_J1i r0 z2 z4 z5 x8 → J1 x8 := fun x8 q => kJ1 x8 (law14_LexSplits_J1_m r0 z2 z4 z5 q)
    refine cnd_mono h (fun h => ?_) (fun h => ?_)
    · exact hJ1 _ h
    · refine cnd_mono h (fun h => ?_) (fun h => ?_)
      · exact hJ1 _ h
      · intro c
        replace h := h c
        intro c
        replace h := h c
        exact hJ1 _ h
noncomputable def law14_LexSplits_sp : Sp KK := ⟨6, [.v 9], [4], appW (K := KK) [4] [.v 9] law14_LexSplits_o⟩
noncomputable def law14_LexSplits_an : An KK := (.s .o (.s (.s .o (.c (.s .o .o) .o)) (.s .o (.s .o (.s .o (.s (.j ⟨[(3, .kp 4), (5, .kp 5), (6, .kp 6), (47, .bl)], [], []⟩ .o (fun _ => (.c (.s .o .o) .o))) (.s (.s .o (.b (.l ⟨[(3, .kp 4), (5, .kp 5), (6, .kp 6), (9, .it .i64)], [], []⟩ (fun _ => (.s (.s .o (.c .o .o)) (.s (.b (.s .o (.c (.s .o .o) .o))) .o)))))) (.s (.s .o (.c (.s .o .o) .o)) (.s .o (.s (.s .o (.c (.s .o .o) .o)) (.s (.j ⟨[(3, .kp 4), (10, .kp 10), (86, .bl)], [], []⟩ .o (fun _ => (.c (.s .o .o) .o))) (.s (.s .o (.b (.l ⟨[(3, .kp 4), (10, .kp 10), (13, .it .i64)], [], []⟩ (fun _ => (.s (.s .o (.c .o .o)) (.s (.b (.j ⟨[(3, .kp 4), (10, .kp 10), (13, .kp 20), (137, .bl)], [], []⟩ .o (fun _ => (.c (.s .o .o) .o)))) .o)))))) (.s .o .o)))))))))))))
noncomputable def law14_LexSplits_cf : Cf KK := ⟨CC, [law14_speaks_sp, lex_Split_sp, ref14_Split_sp, lex_Join_sp], 138⟩

set_option maxRecDepth 100000 in
theorem law14_LexSplits_ok : SpOk Tryd.prog CC law14_LexSplits_sp := by
  intro env r hF h
  obtain ⟨a0, env0, rfl, h1⟩ := appW_v h
  obtain ⟨rfl, h2⟩ := appW_n h1
  obtain ⟨r0, rr0, rfl, h3⟩ := apR_v h2
  obtain ⟨rfl, h4⟩ := apR_n h3
  refine ⟨rfl, DnF_by (F := law14_LexSplits_cf) CC_ok (SsOk_c law14_speaks_ok (SsOk_c lex_Split_ok (SsOk_c ref14_Split_ok (SsOk_c lex_Join_ok SsOk_n)))) t6 (A := law14_LexSplits_an) (ps := [.v 9]) (rs := [4]) (env := [.d (.v 9 a0)]) (r := [.v 4 r0]) (X := law14_LexSplits_o a0 r0) rfl (Nat.le_of_ble_eq_true rfl) rfl hF h4 ?_⟩
  kernel_rfl

end Go.Proofs.YteoohihaibgplaaDoor
