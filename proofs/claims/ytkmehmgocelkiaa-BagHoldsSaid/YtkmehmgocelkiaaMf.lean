/- General texts and own ones, joined: what the program computes, told of abstract states, and the laws of plain data. No condition. -/
import Derived.Test.YtkmehmgocelkiaaMe
import Derived.Test.YtkmehmgocelkiaaMb
noncomputable section
namespace Go.Proofs.Ytkmehmgocelkiaa
open Go.AV Go.RowKit
set_option maxRecDepth 100000
def yeu (a0 a1 : List yab) (r0 : Bool) : Prop :=
 ∃ z1, (ybA a0 a1 z1) /\ cnd (!z1) (∃ z2, (ybA a1 a0 z2) /\ (!z2) = r0) (false = r0)
def yiN : Sp KK := ⟨20, [.v 50, .v 50], [4], appW (K := KK) [4] [.v 50, .v 50] yeu⟩
def ym5 : An KK := (.s .o (.s .o .o))
def ymA : Cf KK := ⟨CC, [yfa], [], 15, [], none, false⟩
theorem ymN : SpOk Try.prog CC yiN := yat (F := ymA) (ps := [.v 50, .v 50]) (rs := [4]) (w := yeu) ybd (yar yhm yav) yaw t20 (A := ym5) (by kernel_rfl) (by kernel_rfl) (fun a0 a1 r0 => show _ = _ by kernel_rfl)
def yjW (r0 : Str) (X1 : Int → Str → Int → Prop) (x1 : Int) (x2 : Str) (x3 : Int) : Prop :=
 cnd (decide (x3 < (8 : Int))) (((([IntKind.u8.wrap (x1.tmod (256 : Int))] : List Int).map toB).length + x2.length <= 9223372036854775807) /\ X1 (IntKind.u64.wrap (x1.tdiv (256 : Int))) ((([IntKind.u8.wrap (x1.tmod (256 : Int))] : List Int).map toB) ++ x2) (IntKind.i64.wrap (x3 + (1 : Int)))) (x2 = r0)
def yd0 (a0 : Int) (r0 : Str) : Prop :=
 ∀ X1 : Int -> Str -> Int -> Prop, (∀ x1 x2 x3, yjW r0 X1 x1 x2 x3 -> X1 x1 x2 x3) -> X1 (IntKind.u64.wrap ((IntKind.u64.wrap a0) + (9223372036854775808 : Int))) ([] : Str) (0 : Int)
def yjS : Sp KK := ⟨59, [.v 2], [9], appW (K := KK) [9] [.v 2] yd0⟩
def yok : An KK := (.s .o (.s .o (.s .o (.s (.s .o (.b (.l ⟨[(3, .it .u64), (4, .st), (5, .it .i64)], [], []⟩ (fun _ => (.s (.s .o (.c .o .o)) (.s (.b (.s .o .o)) .o)))))) (.s .o .o)))))
def yow : Cf KK := ⟨CC, [], [], 23, [], none, false⟩
theorem yof : SpOk Try.prog CC yjS := yat (F := yow) (ps := [.v 2]) (rs := [9]) (w := yd0) ybd yav yaw t59 (A := yok) (by kernel_rfl) (by kernel_rfl) (fun a0 r0 => show _ = _ by kernel_rfl)
def yg9 (x1 : Int) (a0 : List yab) (X1 : Int → (List Str) → Prop) (x6 : Str) (x7 : List Str) : Prop :=
 (0 <= x1) /\ (x1 < (a0.length : Int)) /\ ∃ y8 : yab, (a0[x1.toNat]? = some y8) /\ (x6.length + y8.S.length <= 9223372036854775807) /\ (x7.length <= 1000000000) /\ X1 (IntKind.i64.wrap (x1 + (1 : Int))) (x7 ++ ([x6 ++ y8.S] : List Str))
def yg3 (x1 : Int) (a0 : List yab) (X1 : Int → (List Str) → Prop) (x4 : Str) (x5 : List Str) : Prop :=
 ∀ J3 : Str -> (List Str) -> Prop, (∀ x6 x7, yg9 x1 a0 X1 x6 x7 -> J3 x6 x7) -> (0 <= x1) /\ (x1 < (a0.length : Int)) /\ ∃ y9 : yab, (a0[x1.toNat]? = some y9) /\ cnd (y9.Kind == (2 : Int)) ((0 <= x1) /\ (x1 < (a0.length : Int)) /\ ∃ y10 : yab, (a0[x1.toNat]? = some y10) /\ ∃ z11, (yd0 y10.N z11) /\ (x4.length + z11.length <= 9223372036854775807) /\ J3 (x4 ++ z11) x5) (J3 x4 x5)
def yho (a0 : List yab) (r0 : Str) (X1 : Int → (List Str) → Prop) (x1 : Int) (x2 : List Str) : Prop :=
 (a0.length <= maxLen -> cnd (decide (x1 < (a0.length : Int))) ((0 <= x1) /\ (x1 < (a0.length : Int)) /\ ∃ y3 : yab, (a0[x1.toNat]? = some y3) /\ ∀ J2 : Str -> (List Str) -> Prop, (∀ x4 x5, yg3 x1 a0 X1 x4 x5 -> J2 x4 x5) -> (0 <= x1) /\ (x1 < (a0.length : Int)) /\ ∃ y12 : yab, (a0[x1.toNat]? = some y12) /\ cnd (y12.Kind == (1 : Int)) ((0 <= x1) /\ (x1 < (a0.length : Int)) /\ ∃ y13 : yab, (a0[x1.toNat]? = some y13) /\ ((([IntKind.u8.wrap y3.Kind] : List Int).map toB).length + (([IntKind.u8.wrap y13.N] : List Int).map toB).length <= 9223372036854775807) /\ J2 ((([IntKind.u8.wrap y3.Kind] : List Int).map toB) ++ (([IntKind.u8.wrap y13.N] : List Int).map toB)) x2) (J2 (([IntKind.u8.wrap y3.Kind] : List Int).map toB) x2)) (∃ z14, (yck x2 z14) /\ z14 = r0))
def ybx (a0 : List yab) (r0 : Str) : Prop :=
 ∀ X1 : Int -> (List Str) -> Prop, (∀ x1 x2, yho a0 r0 X1 x1 x2 -> X1 x1 x2) -> X1 (0 : Int) ([] : List Str)
def ycW (X1 : Int → (List Str) → Prop) (a0 : List yab) (x1 : Int) (x6 : Str) (x7 : List Str) : Prop :=
 (0 <= x1) /\ (x1 < (a0.length : Int)) /\ ∃ y8 : yab, (a0[x1.toNat]? = some y8) /\ (x6.length + y8.S.length <= 9223372036854775807) /\ (x7.length <= 1000000000) /\ X1 (IntKind.i64.wrap (x1 + (1 : Int))) (x7 ++ ([x6 ++ y8.S] : List Str))
def ycV (X1 : Int → (List Str) → Prop) (a0 : List yab) (x1 : Int) (x4 : Str) (x5 : List Str) : Prop :=
 (0 <= x1) /\ (x1 < (a0.length : Int)) /\ ∃ y9 : yab, (a0[x1.toNat]? = some y9) /\ cnd (y9.Kind == (2 : Int)) ((0 <= x1) /\ (x1 < (a0.length : Int)) /\ ∃ y10 : yab, (a0[x1.toNat]? = some y10) /\ ∃ z11, (yd0 y10.N z11) /\ (x4.length + z11.length <= 9223372036854775807) /\ ycW X1 a0 x1 (x4 ++ z11) x5) (ycW X1 a0 x1 x4 x5)
def yeS (a0 : List yab) (r0 : Str) (X1 : Int → (List Str) → Prop) (x1 : Int) (x2 : List Str) : Prop :=
 (a0.length <= maxLen -> cnd (decide (x1 < (a0.length : Int))) ((0 <= x1) /\ (x1 < (a0.length : Int)) /\ ∃ y3 : yab, (a0[x1.toNat]? = some y3) /\ (0 <= x1) /\ (x1 < (a0.length : Int)) /\ ∃ y12 : yab, (a0[x1.toNat]? = some y12) /\ cnd (y12.Kind == (1 : Int)) ((0 <= x1) /\ (x1 < (a0.length : Int)) /\ ∃ y13 : yab, (a0[x1.toNat]? = some y13) /\ ((([IntKind.u8.wrap y3.Kind] : List Int).map toB).length + (([IntKind.u8.wrap y13.N] : List Int).map toB).length <= 9223372036854775807) /\ ycV X1 a0 x1 ((([IntKind.u8.wrap y3.Kind] : List Int).map toB) ++ (([IntKind.u8.wrap y13.N] : List Int).map toB)) x2) (ycV X1 a0 x1 (([IntKind.u8.wrap y3.Kind] : List Int).map toB) x2)) (∃ z14, (yck x2 z14) /\ z14 = r0))
def yjQ (a0 : List yab) (r0 : Str) : Prop :=
 ∀ X1 : Int -> (List Str) -> Prop, (∀ x1 x2, yeS a0 r0 X1 x1 x2 -> X1 x1 x2) -> X1 (0 : Int) ([] : List Str)
theorem ylN (X1 : Int → (List Str) → Prop) (a0 : List yab) (x1 : Int) {x6 : Str} {x7 : List Str} (h : ycW X1 a0 x1 x6 x7) : yg9 x1 a0 X1 x6 x7 := by
 unfold yg9
 unfold ycW at h
 exact h
theorem ylC (X1 : Int → (List Str) → Prop) (a0 : List yab) (x1 : Int) {x4 : Str} {x5 : List Str} (h : ycV X1 a0 x1 x4 x5) : yg3 x1 a0 X1 x4 x5 := by
 unfold yg3
 unfold ycV at h
 intro J3 kJ3
 have hJ3 : ∀ x6 x7, ycW X1 a0 x1 x6 x7 -> J3 x6 x7 := fun x6 x7 q => kJ3 x6 x7 (ylN X1 a0 x1 q)
 obtain ⟨h0, h⟩ := h
 refine ⟨h0, ?_⟩
 obtain ⟨h0, h⟩ := h
 refine ⟨h0, ?_⟩
 obtain ⟨y9, h⟩ := h
 refine ⟨y9, ?_⟩
 obtain ⟨h0, h⟩ := h
 refine ⟨h0, ?_⟩
 refine yag h (fun h => ?_) (fun h => ?_)
 ·obtain ⟨h0, h⟩ := h
  refine ⟨h0, ?_⟩
  obtain ⟨h0, h⟩ := h
  refine ⟨h0, ?_⟩
  obtain ⟨y10, h⟩ := h
  refine ⟨y10, ?_⟩
  obtain ⟨h0, h⟩ := h
  refine ⟨h0, ?_⟩
  obtain ⟨z11, h⟩ := h
  refine ⟨z11, ?_⟩
  obtain ⟨h0, h⟩ := h
  refine ⟨h0, ?_⟩
  obtain ⟨h0, h⟩ := h
  refine ⟨h0, ?_⟩
  exact hJ3 _ _ h
 ·exact hJ3 _ _ h
theorem ylx (a0 : List yab) (r0 : Str) {X1 : Int → (List Str) → Prop} {x1 : Int} {x2 : List Str} (h : yeS a0 r0 X1 x1 x2) : yho a0 r0 X1 x1 x2 := by
 unfold yho
 unfold yeS at h
 intro c
 replace h := h c
 refine yag h (fun h => ?_) (fun h => ?_)
 ·obtain ⟨h0, h⟩ := h
  refine ⟨h0, ?_⟩
  obtain ⟨h0, h⟩ := h
  refine ⟨h0, ?_⟩
  obtain ⟨y3, h⟩ := h
  refine ⟨y3, ?_⟩
  obtain ⟨h0, h⟩ := h
  refine ⟨h0, ?_⟩
  intro J2 kJ2
  have hJ2 : ∀ x4 x5, ycV X1 a0 x1 x4 x5 -> J2 x4 x5 := fun x4 x5 q => kJ2 x4 x5 (ylC X1 a0 x1 q)
  obtain ⟨h0, h⟩ := h
  refine ⟨h0, ?_⟩
  obtain ⟨h0, h⟩ := h
  refine ⟨h0, ?_⟩
  obtain ⟨y12, h⟩ := h
  refine ⟨y12, ?_⟩
  obtain ⟨h0, h⟩ := h
  refine ⟨h0, ?_⟩
  refine yag h (fun h => ?_) (fun h => ?_)
  ·obtain ⟨h0, h⟩ := h
   refine ⟨h0, ?_⟩
   obtain ⟨h0, h⟩ := h
   refine ⟨h0, ?_⟩
   obtain ⟨y13, h⟩ := h
   refine ⟨y13, ?_⟩
   obtain ⟨h0, h⟩ := h
   refine ⟨h0, ?_⟩
   obtain ⟨h0, h⟩ := h
   refine ⟨h0, ?_⟩
   exact hJ2 _ _ h
  ·exact hJ2 _ _ h
 ·exact h
theorem ypd (a0 : List yab) (r0 : Str) (h : yjQ a0 r0) : ybx a0 r0 := by
 unfold ybx
 unfold yjQ at h
 intro X1 k
 exact h X1 (fun x1 x2 q => k x1 x2 (ylx a0 r0 q))
def yhe : Sp KK := ⟨33, [.v 50], [9], appW (K := KK) [9] [.v 50] ybx⟩
def yoq : An KK := (.s .o (.s .o (.s (.s .o (.b (.l ⟨[(0, .kp 8), (3, .row 59), (4, .it .i64)], [], [(59, 9)]⟩ (fun _ => (.s (.s .o (.c .o .o)) (.s (.b (.s .o (.j ⟨[(0, .kp 8), (3, .row 59), (4, .kp 14), (5, .st)], [], [(59, 9)]⟩ (.s .o (.c .o .o)) (fun _ => (.j ⟨[(0, .kp 8), (3, .row 59), (4, .kp 14), (5, .st)], [], [(59, 9)]⟩ (.s .o (.c .o .o)) (fun _ => .o)))))) .o)))))) (.s .o .o))))
def yoi : Cf KK := ⟨CC, [yjS, ygs], [], 62, [], none, false⟩
theorem yjL : SpOk Try.prog CC yhe := yat (F := yoi) (ps := [.v 50]) (rs := [9]) (w := ybx) ybd (yar yof (yar yiz yav)) yaw t33 (A := yoq) (by kernel_rfl) (by kernel_rfl) (fun a0 r0 => show _ = _ by kernel_rfl)
def yjR (z1 : List (List yab)) (r0 : Str) (X1 : Int → (List Str) → Prop) (x2 : Int) (x3 : List Str) : Prop :=
 (z1.length <= maxLen -> cnd (decide (x2 < (z1.length : Int))) ((0 <= x2) /\ (x2 < (z1.length : Int)) /\ ∃ y4 : (List yab), (z1[x2.toNat]? = some y4) /\ ∃ z5, (ybx y4 z5) /\ (x3.length <= 1000000000) /\ X1 (IntKind.i64.wrap (x2 + (1 : Int))) (x3 ++ ([z5] : List Str))) (∃ z6, (yck x3 z6) /\ z6 = r0))
def yb8 (a0 : List (List yab)) (r0 : Str) : Prop :=
 ∃ z1, (ybN a0 z1) /\ ∀ X1 : Int -> (List Str) -> Prop, (∀ x2 x3, yjR z1 r0 X1 x2 x3 -> X1 x2 x3) -> X1 (0 : Int) ([] : List Str)
def yhk : Sp KK := ⟨23, [.v 25], [9], appW (K := KK) [9] [.v 25] yb8⟩
def ynR : An KK := (.s .o (.s .o (.s .o (.s (.s .o (.b (.l ⟨[(3, .row 21), (4, .kp 5), (5, .it .i64)], [], [(21, 9)]⟩ (fun _ => (.s (.s .o (.c .o .o)) (.s (.b .o) .o)))))) (.s .o .o)))))
def yog : Cf KK := ⟨CC, [yeR, yhe, ygs], [], 24, [], none, false⟩
theorem yjX : SpOk Try.prog CC yhk := yat (F := yog) (ps := [.v 25]) (rs := [9]) (w := yb8) ybd (yar yfU (yar yjL (yar yiz yav))) yaw t23 (A := ynR) (by kernel_rfl) (by kernel_rfl) (fun a0 r0 => show _ = _ by kernel_rfl)
def ygu (r0 : Bool) (X3 : Int → Int → Prop) (x10 x12 x11 : Int) (x21 : Bool) : Prop :=
 cnd x21 (false = r0) (X3 (IntKind.i64.wrap (x10 + x12)) (IntKind.i64.wrap (x11 + x12)))
def ygr (x12 : Int) (z15 : List yaa) (x11 : Int) (z1 : List (List yab)) (r0 : Bool) (X3 : Int → Int → Prop) (x10 : Int) (X7 : Int → Prop) (x17 : Int) : Prop :=
 cnd (decide (x17 < x12)) (∃ z18, (yci z15 z18) /\ (0 <= (IntKind.i64.wrap (x11 + x17))) /\ ((IntKind.i64.wrap (x11 + x17)) < (z1.length : Int)) /\ ∃ y19 : (List yab), (z1[(IntKind.i64.wrap (x11 + x17)).toNat]? = some y19) /\ ∃ z20, (ybx y19 z20) /\ cnd (!(z18 == z20)) (false = r0) (X7 (IntKind.i64.wrap (x17 + (1 : Int))))) (∀ J8 : Bool -> Prop, (∀ x21, ygu r0 X3 x10 x12 x11 x21 -> J8 x21) -> cnd (decide ((IntKind.i64.wrap (x11 + x12)) < (z1.length : Int))) (∃ z22, (yci z15 z22) /\ (0 <= (IntKind.i64.wrap (x11 + x12))) /\ ((IntKind.i64.wrap (x11 + x12)) < (z1.length : Int)) /\ ∃ y23 : (List yab), (z1[(IntKind.i64.wrap (x11 + x12)).toNat]? = some y23) /\ ∃ z24, (ybx y23 z24) /\ J8 (z22 == z24)) (J8 false))
def ygl (r0 : Bool) (x12 : Int) (z15 : List yaa) (x11 : Int) (z1 : List (List yab)) (X3 : Int → Int → Prop) (x10 : Int) (x16 : Bool) : Prop :=
 cnd x16 (false = r0) (∀ X7 : Int -> Prop, (∀ x17, ygr x12 z15 x11 z1 r0 X3 x10 X7 x17 -> X7 x17) -> X7 (0 : Int))
def ygt (X4 : Int → Prop) (x12 x10 : Int) (z9 : List (List yaa)) (r0 : Bool) (x11 : Int) (z1 : List (List yab)) (X3 : Int → Int → Prop) (x13 : Bool) : Prop :=
 cnd x13 (X4 (IntKind.i64.wrap (x12 + (1 : Int)))) ((0 <= x10) /\ (x10 < (z9.length : Int)) /\ ∃ y14 : (List yaa), (z9[x10.toNat]? = some y14) /\ ∃ z15, (yaM y14 z15) /\ ∀ J6 : Bool -> Prop, (∀ x16, ygl r0 x12 z15 x11 z1 X3 x10 x16 -> J6 x16) -> cnd (decide (x12 < (1 : Int))) (J6 true) ((z1.length <= maxLen -> J6 (decide ((z1.length : Int) < (IntKind.i64.wrap (x11 + x12)))))))
def ygq (x10 : Int) (z9 : List (List yaa)) (r0 : Bool) (x11 : Int) (z1 : List (List yab)) (X3 : Int → Int → Prop) (X4 : Int → Prop) (x12 : Int) : Prop :=
 ∀ J5 : Bool -> Prop, (∀ x13, ygt X4 x12 x10 z9 r0 x11 z1 X3 x13 -> J5 x13) -> cnd (decide ((IntKind.i64.wrap (x10 + x12)) < (z9.length : Int))) ((0 <= x10) /\ (x10 < (z9.length : Int)) /\ ∃ y25 : (List yaa), (z9[x10.toNat]? = some y25) /\ (0 <= (IntKind.i64.wrap (x10 + x12))) /\ ((IntKind.i64.wrap (x10 + x12)) < (z9.length : Int)) /\ ∃ y26 : (List yaa), (z9[(IntKind.i64.wrap (x10 + x12)).toNat]? = some y26) /\ ∃ z27, (ya9 y25 y26 z27) /\ J5 (z27 == (0 : Int))) (J5 false)
def yf5 (z9 : List (List yaa)) (r0 : Bool) (z1 : List (List yab)) (X3 : Int → Int → Prop) (x10 x11 : Int) : Prop :=
 (z9.length <= maxLen -> cnd (decide (x10 < (z9.length : Int))) (∀ X4 : Int -> Prop, (∀ x12, ygq x10 z9 r0 x11 z1 X3 X4 x12 -> X4 x12) -> X4 (1 : Int)) ((z1.length <= maxLen -> (x11 == (z1.length : Int)) = r0)))
def yga (z1 : List (List yab)) (z2 : List (List yaa)) (r0 : Bool) (a0 : yaf) (X2 : Int → Prop) (x4 : Int) : Prop :=
 (z1.length <= maxLen -> cnd (decide (x4 < (z1.length : Int))) ((0 <= x4) /\ (x4 < (z2.length : Int)) /\ ∃ y5 : (List yaa), (z2[x4.toNat]? = some y5) /\ ∃ z6, (yci y5 z6) /\ (0 <= x4) /\ (x4 < (z1.length : Int)) /\ ∃ y7 : (List yab), (z1[x4.toNat]? = some y7) /\ ∃ z8, (ybx y7 z8) /\ cnd (!(z6 == z8)) (false = r0) (X2 (IntKind.i64.wrap (x4 + (1 : Int))))) (∃ z9, (ybU a0 z9) /\ (Nat -> ∀ X3 : Int -> Int -> Prop, (∀ x10 x11, yf5 z9 r0 z1 X3 x10 x11 -> X3 x10 x11) -> X3 (0 : Int) (0 : Int))))
def ygk (r0 : Bool) (z1 : List (List yab)) (z2 : List (List yaa)) (a0 : yaf) (x3 : Bool) : Prop :=
 cnd x3 (false = r0) (∀ X2 : Int -> Prop, (∀ x4, yga z1 z2 r0 a0 X2 x4 -> X2 x4) -> X2 (0 : Int))
def yaG (a0 : yaf) (a1 : List (List yab)) (r0 : Bool) : Prop :=
 ∃ z1, (ybN a1 z1) /\ ∃ z2, (yb9 a0 z2) /\ ∀ J1 : Bool -> Prop, (∀ x3, ygk r0 z1 z2 a0 x3 -> J1 x3) -> ∃ z28, (ycp a0 z28) /\ cnd (!(z28 == (z1.length : Int))) (J1 true) (cnd (!((z2.length : Int) == (z1.length : Int))) (J1 true) (∃ z29, (ybZ a0 z29) /\ ∃ z30, (yb8 a1 z30) /\ J1 (!(z29 == z30))))
def ycx (X3 : Int → Int → Prop) (r0 : Bool) (x10 x11 x12 : Int) (x21 : Bool) : Prop :=
 cnd x21 (false = r0) (X3 (IntKind.i64.wrap (x10 + x12)) (IntKind.i64.wrap (x11 + x12)))
def yeq (X3 : Int → Int → Prop) (r0 : Bool) (x10 x11 x12 : Int) (z1 : List (List yab)) (z15 : List yaa) (X7 : Int → Prop) (x17 : Int) : Prop :=
 cnd (decide (x17 < x12)) (∃ z18, (yci z15 z18) /\ (0 <= (IntKind.i64.wrap (x11 + x17))) /\ ((IntKind.i64.wrap (x11 + x17)) < (z1.length : Int)) /\ ∃ y19 : (List yab), (z1[(IntKind.i64.wrap (x11 + x17)).toNat]? = some y19) /\ ∃ z20, (ybx y19 z20) /\ cnd (!(z18 == z20)) (false = r0) (X7 (IntKind.i64.wrap (x17 + (1 : Int))))) (cnd (decide ((IntKind.i64.wrap (x11 + x12)) < (z1.length : Int))) (∃ z22, (yci z15 z22) /\ (0 <= (IntKind.i64.wrap (x11 + x12))) /\ ((IntKind.i64.wrap (x11 + x12)) < (z1.length : Int)) /\ ∃ y23 : (List yab), (z1[(IntKind.i64.wrap (x11 + x12)).toNat]? = some y23) /\ ∃ z24, (ybx y23 z24) /\ ycx X3 r0 x10 x11 x12 (z22 == z24)) (ycx X3 r0 x10 x11 x12 false))
def ydd (X3 : Int → Int → Prop) (r0 : Bool) (x10 x11 x12 : Int) (z1 : List (List yab)) (z15 : List yaa) (x16 : Bool) : Prop :=
 cnd x16 (false = r0) (∀ X7 : Int -> Prop, (∀ x17, yeq X3 r0 x10 x11 x12 z1 z15 X7 x17 -> X7 x17) -> X7 (0 : Int))
def yct (X3 : Int → Int → Prop) (X4 : Int → Prop) (r0 : Bool) (x10 x11 x12 : Int) (z1 : List (List yab)) (z9 : List (List yaa)) (x13 : Bool) : Prop :=
 cnd x13 (X4 (IntKind.i64.wrap (x12 + (1 : Int)))) ((0 <= x10) /\ (x10 < (z9.length : Int)) /\ ∃ y14 : (List yaa), (z9[x10.toNat]? = some y14) /\ ∃ z15, (yaM y14 z15) /\ cnd (decide (x12 < (1 : Int))) (ydd X3 r0 x10 x11 x12 z1 z15 true) ((z1.length <= maxLen -> ydd X3 r0 x10 x11 x12 z1 z15 (decide ((z1.length : Int) < (IntKind.i64.wrap (x11 + x12)))))))
def yeh (X3 : Int → Int → Prop) (r0 : Bool) (x10 x11 : Int) (z1 : List (List yab)) (z9 : List (List yaa)) (X4 : Int → Prop) (x12 : Int) : Prop :=
 cnd (decide ((IntKind.i64.wrap (x10 + x12)) < (z9.length : Int))) ((0 <= x10) /\ (x10 < (z9.length : Int)) /\ ∃ y25 : (List yaa), (z9[x10.toNat]? = some y25) /\ (0 <= (IntKind.i64.wrap (x10 + x12))) /\ ((IntKind.i64.wrap (x10 + x12)) < (z9.length : Int)) /\ ∃ y26 : (List yaa), (z9[(IntKind.i64.wrap (x10 + x12)).toNat]? = some y26) /\ ∃ z27, (ya9 y25 y26 z27) /\ yct X3 X4 r0 x10 x11 x12 z1 z9 (z27 == (0 : Int))) (yct X3 X4 r0 x10 x11 x12 z1 z9 false)
def yef (r0 : Bool) (z1 : List (List yab)) (z9 : List (List yaa)) (X3 : Int → Int → Prop) (x10 x11 : Int) : Prop :=
 (z9.length <= maxLen -> cnd (decide (x10 < (z9.length : Int))) (∀ X4 : Int -> Prop, (∀ x12, yeh X3 r0 x10 x11 z1 z9 X4 x12 -> X4 x12) -> X4 (1 : Int)) ((z1.length <= maxLen -> (x11 == (z1.length : Int)) = r0)))
def yem (a0 : yaf) (r0 : Bool) (z1 : List (List yab)) (z2 : List (List yaa)) (X2 : Int → Prop) (x4 : Int) : Prop :=
 (z1.length <= maxLen -> cnd (decide (x4 < (z1.length : Int))) ((0 <= x4) /\ (x4 < (z2.length : Int)) /\ ∃ y5 : (List yaa), (z2[x4.toNat]? = some y5) /\ ∃ z6, (yci y5 z6) /\ (0 <= x4) /\ (x4 < (z1.length : Int)) /\ ∃ y7 : (List yab), (z1[x4.toNat]? = some y7) /\ ∃ z8, (ybx y7 z8) /\ cnd (!(z6 == z8)) (false = r0) (X2 (IntKind.i64.wrap (x4 + (1 : Int))))) (∃ z9, (ybU a0 z9) /\ (Nat -> ∀ X3 : Int -> Int -> Prop, (∀ x10 x11, yef r0 z1 z9 X3 x10 x11 -> X3 x10 x11) -> X3 (0 : Int) (0 : Int))))
def ycy (a0 : yaf) (r0 : Bool) (z1 : List (List yab)) (z2 : List (List yaa)) (x3 : Bool) : Prop :=
 cnd x3 (false = r0) (∀ X2 : Int -> Prop, (∀ x4, yem a0 r0 z1 z2 X2 x4 -> X2 x4) -> X2 (0 : Int))
def yi4 (a0 : yaf) (a1 : List (List yab)) (r0 : Bool) : Prop :=
 ∃ z1, (ybN a1 z1) /\ ∃ z2, (yb9 a0 z2) /\ ∃ z28, (ycp a0 z28) /\ cnd (!(z28 == (z1.length : Int))) (ycy a0 r0 z1 z2 true) (cnd (!((z2.length : Int) == (z1.length : Int))) (ycy a0 r0 z1 z2 true) (∃ z29, (ybZ a0 z29) /\ ∃ z30, (yb8 a1 z30) /\ ycy a0 r0 z1 z2 (!(z29 == z30))))
theorem ykw (X3 : Int → Int → Prop) (r0 : Bool) (x10 x11 x12 : Int) {x21 : Bool} (h : ycx X3 r0 x10 x11 x12 x21) : ygu r0 X3 x10 x12 x11 x21 := by
 unfold ygu
 unfold ycx at h
 exact h
theorem yk7 (X3 : Int → Int → Prop) (r0 : Bool) (x10 x11 x12 : Int) (z1 : List (List yab)) (z15 : List yaa) {X7 : Int → Prop} {x17 : Int} (h : yeq X3 r0 x10 x11 x12 z1 z15 X7 x17) : ygr x12 z15 x11 z1 r0 X3 x10 X7 x17 := by
 unfold ygr
 unfold yeq at h
 refine yag h (fun h => ?_) (fun h => ?_)
 ·exact h
 ·intro J8 kJ8
  have hJ8 : ∀ x21, ycx X3 r0 x10 x11 x12 x21 -> J8 x21 := fun x21 q => kJ8 x21 (ykw X3 r0 x10 x11 x12 q)
  refine yag h (fun h => ?_) (fun h => ?_)
  ·obtain ⟨z22, h⟩ := h
   refine ⟨z22, ?_⟩
   obtain ⟨h0, h⟩ := h
   refine ⟨h0, ?_⟩
   obtain ⟨h0, h⟩ := h
   refine ⟨h0, ?_⟩
   obtain ⟨h0, h⟩ := h
   refine ⟨h0, ?_⟩
   obtain ⟨y23, h⟩ := h
   refine ⟨y23, ?_⟩
   obtain ⟨h0, h⟩ := h
   refine ⟨h0, ?_⟩
   obtain ⟨z24, h⟩ := h
   refine ⟨z24, ?_⟩
   obtain ⟨h0, h⟩ := h
   refine ⟨h0, ?_⟩
   exact hJ8 _ h
  ·exact hJ8 _ h
theorem ykJ (X3 : Int → Int → Prop) (r0 : Bool) (x10 x11 x12 : Int) (z1 : List (List yab)) (z15 : List yaa) {x16 : Bool} (h : ydd X3 r0 x10 x11 x12 z1 z15 x16) : ygl r0 x12 z15 x11 z1 X3 x10 x16 := by
 unfold ygl
 unfold ydd at h
 refine yag h (fun h => ?_) (fun h => ?_)
 ·exact h
 ·intro X7 k
  exact h X7 (fun x17 q => k x17 (yk7 X3 r0 x10 x11 x12 z1 z15 q))
theorem yk3 (X3 : Int → Int → Prop) (X4 : Int → Prop) (r0 : Bool) (x10 x11 x12 : Int) (z1 : List (List yab)) (z9 : List (List yaa)) {x13 : Bool} (h : yct X3 X4 r0 x10 x11 x12 z1 z9 x13) : ygt X4 x12 x10 z9 r0 x11 z1 X3 x13 := by
 unfold ygt
 unfold yct at h
 refine yag h (fun h => ?_) (fun h => ?_)
 ·exact h
 ·obtain ⟨h0, h⟩ := h
  refine ⟨h0, ?_⟩
  obtain ⟨h0, h⟩ := h
  refine ⟨h0, ?_⟩
  obtain ⟨y14, h⟩ := h
  refine ⟨y14, ?_⟩
  obtain ⟨h0, h⟩ := h
  refine ⟨h0, ?_⟩
  obtain ⟨z15, h⟩ := h
  refine ⟨z15, ?_⟩
  obtain ⟨h0, h⟩ := h
  refine ⟨h0, ?_⟩
  intro J6 kJ6
  have hJ6 : ∀ x16, ydd X3 r0 x10 x11 x12 z1 z15 x16 -> J6 x16 := fun x16 q => kJ6 x16 (ykJ X3 r0 x10 x11 x12 z1 z15 q)
  refine yag h (fun h => ?_) (fun h => ?_)
  ·exact hJ6 _ h
  ·intro c
   replace h := h c
   exact hJ6 _ h
theorem ykW (X3 : Int → Int → Prop) (r0 : Bool) (x10 x11 : Int) (z1 : List (List yab)) (z9 : List (List yaa)) {X4 : Int → Prop} {x12 : Int} (h : yeh X3 r0 x10 x11 z1 z9 X4 x12) : ygq x10 z9 r0 x11 z1 X3 X4 x12 := by
 unfold ygq
 unfold yeh at h
 intro J5 kJ5
 have hJ5 : ∀ x13, yct X3 X4 r0 x10 x11 x12 z1 z9 x13 -> J5 x13 := fun x13 q => kJ5 x13 (yk3 X3 X4 r0 x10 x11 x12 z1 z9 q)
 refine yag h (fun h => ?_) (fun h => ?_)
 ·obtain ⟨h0, h⟩ := h
  refine ⟨h0, ?_⟩
  obtain ⟨h0, h⟩ := h
  refine ⟨h0, ?_⟩
  obtain ⟨y25, h⟩ := h
  refine ⟨y25, ?_⟩
  obtain ⟨h0, h⟩ := h
  refine ⟨h0, ?_⟩
  obtain ⟨h0, h⟩ := h
  refine ⟨h0, ?_⟩
  obtain ⟨h0, h⟩ := h
  refine ⟨h0, ?_⟩
  obtain ⟨y26, h⟩ := h
  refine ⟨y26, ?_⟩
  obtain ⟨h0, h⟩ := h
  refine ⟨h0, ?_⟩
  obtain ⟨z27, h⟩ := h
  refine ⟨z27, ?_⟩
  obtain ⟨h0, h⟩ := h
  refine ⟨h0, ?_⟩
  exact hJ5 _ h
 ·exact hJ5 _ h
theorem yll (r0 : Bool) (z1 : List (List yab)) (z9 : List (List yaa)) {X3 : Int → Int → Prop} {x10 x11 : Int} (h : yef r0 z1 z9 X3 x10 x11) : yf5 z9 r0 z1 X3 x10 x11 := by
 unfold yf5
 unfold yef at h
 intro c
 replace h := h c
 refine yag h (fun h => ?_) (fun h => ?_)
 ·intro X4 k
  exact h X4 (fun x12 q => k x12 (ykW X3 r0 x10 x11 z1 z9 q))
 ·exact h
theorem ykv (a0 : yaf) (r0 : Bool) (z1 : List (List yab)) (z2 : List (List yaa)) {X2 : Int → Prop} {x4 : Int} (h : yem a0 r0 z1 z2 X2 x4) : yga z1 z2 r0 a0 X2 x4 := by
 unfold yga
 unfold yem at h
 intro c
 replace h := h c
 refine yag h (fun h => ?_) (fun h => ?_)
 ·exact h
 ·obtain ⟨z9, h⟩ := h
  refine ⟨z9, ?_⟩
  obtain ⟨h0, h⟩ := h
  refine ⟨h0, ?_⟩
  intro c
  replace h := h c
  intro X3 k
  exact h X3 (fun x10 x11 q => k x10 x11 (yll r0 z1 z9 q))
theorem ylv (a0 : yaf) (r0 : Bool) (z1 : List (List yab)) (z2 : List (List yaa)) {x3 : Bool} (h : ycy a0 r0 z1 z2 x3) : ygk r0 z1 z2 a0 x3 := by
 unfold ygk
 unfold ycy at h
 refine yag h (fun h => ?_) (fun h => ?_)
 ·exact h
 ·intro X2 k
  exact h X2 (fun x4 q => k x4 (ykv a0 r0 z1 z2 q))
theorem yoM (a0 : yaf) (a1 : List (List yab)) (r0 : Bool) (h : yi4 a0 a1 r0) : yaG a0 a1 r0 := by
 unfold yaG
 unfold yi4 at h
 obtain ⟨z1, h⟩ := h
 refine ⟨z1, ?_⟩
 obtain ⟨h0, h⟩ := h
 refine ⟨h0, ?_⟩
 obtain ⟨z2, h⟩ := h
 refine ⟨z2, ?_⟩
 obtain ⟨h0, h⟩ := h
 refine ⟨h0, ?_⟩
 intro J1 kJ1
 have hJ1 : ∀ x3, ycy a0 r0 z1 z2 x3 -> J1 x3 := fun x3 q => kJ1 x3 (ylv a0 r0 z1 z2 q)
 obtain ⟨z28, h⟩ := h
 refine ⟨z28, ?_⟩
 obtain ⟨h0, h⟩ := h
 refine ⟨h0, ?_⟩
 refine yag h (fun h => ?_) (fun h => ?_)
 ·exact hJ1 _ h
 ·refine yag h (fun h => ?_) (fun h => ?_)
  ·exact hJ1 _ h
  ·obtain ⟨z29, h⟩ := h
   refine ⟨z29, ?_⟩
   obtain ⟨h0, h⟩ := h
   refine ⟨h0, ?_⟩
   obtain ⟨z30, h⟩ := h
   refine ⟨z30, ?_⟩
   obtain ⟨h0, h⟩ := h
   refine ⟨h0, ?_⟩
   exact hJ1 _ h
def yiI : Sp KK := ⟨21, [.v 31, .v 25], [4], appW (K := KK) [4] [.v 31, .v 25] yaG⟩
def ym0 : An KK := (.s .o (.s .o (.s .o (.s (.j ⟨[(2, .px 2 0), (4, .px 4 0), (5, .px 5 0), (6, .kp 5), (34, .bl)], [(2, 31, [.kp 6]), (4, 4, [.kp 7]), (5, 25, [.kp 8])], []⟩ .o (fun _ => (.c (.s .o .o) .o))) (.s (.s .o (.b (.l ⟨[(2, .px 2 0), (4, .px 4 0), (5, .px 5 0), (6, .kp 5), (7, .it .i64)], [(2, 31, [.kp 6]), (4, 4, [.kp 7]), (5, 25, [.kp 8])], []⟩ (fun _ => (.s (.s .o (.c .o .o)) (.s (.b (.s .o (.c (.s .o .o) .o))) .o)))))) (.s .o (.s (.s .o (.b (.g 11 ⟨[(4, .px 100004 0), (5, .px 100005 0), (8, .px 100008 0), (53, .fn 74 [] [.px 103392 0])], [(100004, 4, [.kp 7]), (100005, 25, [.kp 8]), (100008, 3, [.it .i64]), (103392, 31, [.sl 29])], []⟩ ⟨[(0, .kp 11), (1, .px 203392 0), (3, .kp 137), (4, .kp 143), (35, .kp 11), (41, .sl 88), (42, .kp 143), (48, .kp 11), (53, .px 200004 0), (54, .px 200005 0), (57, .px 200008 0)], [(203392, 31, [.kp 84]), (200004, 4, [.kp 7]), (200005, 25, [.kp 8]), (200008, 3, [.kp 139])], []⟩ (.s .o (.b (.l ⟨[(0, .kp 11), (1, .px 103392 0), (3, .it .i64), (48, .kp 11), (53, .px 100004 0), (54, .px 100005 0), (57, .px 100008 0)], [(103392, 31, [.kp 84]), (100004, 4, [.kp 7]), (100005, 25, [.kp 8]), (100008, 3, [.it .i64])], []⟩ (fun _ => (.s (.s .o (.c .o .o)) (.b (.s .o (.s (.b (.l ⟨[(0, .kp 11), (1, .px 103392 0), (3, .kp 137), (4, .it .i64), (48, .kp 11), (53, .px 100004 0), (54, .px 100005 0), (57, .px 100008 0)], [(103392, 31, [.kp 84]), (100004, 4, [.kp 7]), (100005, 25, [.kp 8]), (100008, 3, [.kp 139])], []⟩ (fun _ => (.s (.j ⟨[(0, .kp 11), (1, .px 103392 0), (3, .kp 137), (4, .kp 143), (32, .bl), (48, .kp 11), (53, .px 100004 0), (54, .px 100005 0), (57, .px 100008 0)], [(103392, 31, [.kp 84]), (100004, 4, [.kp 7]), (100005, 25, [.kp 8]), (100008, 3, [.kp 139])], []⟩ .o (fun _ => (.c .o .o))) (.b .o))))) (.s (.s .o (.c .o .o)) .o))))))))) (.s .o .o) (.b (.s (.j ⟨[(4, .px 200004 0), (5, .px 200005 0), (8, .px 200008 0), (9, .kp 150), (10, .kp 143), (65, .bl), (102, .kp 11), (103, .px 203392 0), (105, .kp 137), (106, .kp 143), (150, .kp 11), (155, .px 200004 0), (156, .px 200005 0), (159, .px 200008 0)], [(200004, 4, [.kp 7]), (200005, 25, [.kp 8]), (200008, 3, [.kp 139]), (203392, 31, [.kp 84])], []⟩ .o (fun _ => (.c (.s .o .o) .o))) (.s (.s .o (.b (.l ⟨[(4, .px 200004 0), (5, .px 200005 0), (8, .px 200008 0), (9, .kp 150), (10, .kp 143), (11, .it .i64), (102, .kp 11), (103, .px 203392 0), (105, .kp 137), (106, .kp 143), (150, .kp 11), (155, .px 200004 0), (156, .px 200005 0), (159, .px 200008 0)], [(200004, 4, [.kp 7]), (200005, 25, [.kp 8]), (200008, 3, [.kp 139]), (203392, 31, [.kp 84])], []⟩ (fun _ => (.s (.s .o (.c .o .o)) (.s (.b (.s .o (.c (.s .o .o) .o))) .o)))))) (.s .o (.j ⟨[(4, .px 200004 0), (97, .bl), (102, .kp 11), (103, .px 203392 0), (105, .kp 137), (106, .kp 143), (150, .kp 11), (155, .px 200004 0), (156, .px 200005 0), (159, .px 200008 0)], [(200004, 4, [.kp 7]), (203392, 31, [.kp 84]), (200005, 25, [.kp 8]), (200008, 3, [.kp 153])], []⟩ .o (fun _ => (.c (.s .o .o) .o)))))))))) (.s .o .o))))))))
def ynt : Cf KK := ⟨CC, [yeR, yeV, yfv, yfz, yhk, yjl, yhe, ycu, yb1], [ych], 102, [(74, c74)], none, false⟩
theorem ymu : SpOk Try.prog CC yiI := yat (F := ynt) (ps := [.v 31, .v 25]) (rs := [4]) (w := yaG) ybd (yar yfU (yar ygK (yar yhU (yar yhX (yar yjX (yar yl5 (yar yjL (yar yc5 (yar ycH yav))))))))) (yfH yfC yaw) t21 (A := ym0) (by kernel_rfl) (by kernel_rfl) (fun a0 a1 r0 => show _ = _ by kernel_rfl) (hI := (ywM t74 yuj))
def ydY (x10 : Int) (z8 : List (List yab)) (X1 : (List (List yab)) → Int → (List (List yab)) → Prop) (x9 : List (List yab)) (x12 : Bool) (x13 : List (List yab)) : Prop :=
 cnd x12 ((0 <= x10) /\ (x10 < (z8.length : Int)) /\ ∃ y14 : (List yab), (z8[x10.toNat]? = some y14) /\ (x13.length <= 1000000000) /\ X1 x9 (IntKind.i64.wrap (x10 + (1 : Int))) (x13 ++ ([y14] : List (List yab)))) (X1 x9 (IntKind.i64.wrap (x10 + (1 : Int))) x13)
def yd7 (r0 x21 : Bool) : Prop :=
 x21 = r0
def ydZ (z8 : List (List yab)) (z6 : yaf) (r0 : Bool) (z3 : List (List yab)) (z7 : yaf) (z5 : List (List yab)) (X1 : (List (List yab)) → Int → (List (List yab)) → Prop) (x9 : List (List yab)) (x10 : Int) (x11 : List (List yab)) : Prop :=
 (z8.length <= maxLen -> cnd (decide (x10 < (z8.length : Int))) (∀ J2 : Bool -> (List (List yab)) -> Prop, (∀ x12 x13, ydY x10 z8 X1 x9 x12 x13 -> J2 x12 x13) -> cnd (x10 == (0 : Int)) (J2 true x11) ((0 <= x10) /\ (x10 < (z8.length : Int)) /\ ∃ y15 : (List yab), (z8[x10.toNat]? = some y15) /\ (0 <= (IntKind.i64.wrap (x10 - (1 : Int)))) /\ ((IntKind.i64.wrap (x10 - (1 : Int))) < (z8.length : Int)) /\ ∃ y16 : (List yab), (z8[(IntKind.i64.wrap (x10 - (1 : Int))).toNat]? = some y16) /\ ∃ z17, (yeu y15 y16 z17) /\ J2 (!z17) x11)) (∃ z18, (ybZ z6 z18) /\ ∃ z19 z20, (yeW z18 z19 z20) /\ ∀ J3 : Bool -> Prop, (∀ x21, yd7 r0 x21 -> J3 x21) -> ∃ z22, (yaG z6 z3 z22) /\ cnd z22 (∃ z23, (ycw ([z6, z7] : List yaf) z23) /\ ∃ z24, (yaG z23 x9 z24) /\ cnd z24 (∃ z25, (ycw ([] : List yaf) z25) /\ ∃ z26, (yaG z25 ([] : List (List yab)) z26) /\ cnd z26 (∃ z27, (ya2 z6 z27) /\ ∃ z28, (yaG z27 x11 z28) /\ cnd z28 (cnd (z20 == (0 : Int)) (∃ z29, (yds z19 z6 z29) /\ cnd z29 (∃ z30, (yds z6 z7 z30) /\ ∃ z31, (yb8 z3 z31) /\ ∃ z32, (yb8 z5 z32) /\ cnd (z30 == (z31 == z32)) (∃ z33, (yaG z6 z3 z33) /\ J3 z33) (J3 false)) (J3 false)) (J3 false)) (J3 false)) (J3 false)) (J3 false)) (J3 false)))
def ybi (a0 a1 : List (List yac)) (r0 : Bool) : Prop :=
 ∃ z1, (yc9 z1) /\ cnd (!z1) (false = r0) (∃ z2 z3, (ybX a0 z2 z3) /\ ∃ z4 z5, (ybX a1 z4 z5) /\ ∃ z6, (yeQ z2 z6) /\ ∃ z7, (yeQ z4 z7) /\ (z3.length <= 400000000) /\ ((([] : List (List yab)) ++ z3).length <= 1000000000) /\ (z5.length <= 400000000) /\ ∃ z8, (ybN z3 z8) /\ ∀ X1 : (List (List yab)) -> Int -> (List (List yab)) -> Prop, (∀ x9 x10 x11, ydZ z8 z6 r0 z3 z7 z5 X1 x9 x10 x11 -> X1 x9 x10 x11) -> X1 ((([] : List (List yab)) ++ z3) ++ z5) (0 : Int) ([] : List (List yab)))
def ybD (X1 : (List (List yab)) → Int → (List (List yab)) → Prop) (x9 : List (List yab)) (x10 : Int) (z8 : List (List yab)) (x12 : Bool) (x13 : List (List yab)) : Prop :=
 cnd x12 ((0 <= x10) /\ (x10 < (z8.length : Int)) /\ ∃ y14 : (List yab), (z8[x10.toNat]? = some y14) /\ (x13.length <= 1000000000) /\ X1 x9 (IntKind.i64.wrap (x10 + (1 : Int))) (x13 ++ ([y14] : List (List yab)))) (X1 x9 (IntKind.i64.wrap (x10 + (1 : Int))) x13)
def yaA (r0 x21 : Bool) : Prop :=
 x21 = r0
def ycB (r0 : Bool) (z3 z5 : List (List yab)) (z6 z7 : yaf) (z8 : List (List yab)) (X1 : (List (List yab)) → Int → (List (List yab)) → Prop) (x9 : List (List yab)) (x10 : Int) (x11 : List (List yab)) : Prop :=
 (z8.length <= maxLen -> cnd (decide (x10 < (z8.length : Int))) (cnd (x10 == (0 : Int)) (ybD X1 x9 x10 z8 true x11) ((0 <= x10) /\ (x10 < (z8.length : Int)) /\ ∃ y15 : (List yab), (z8[x10.toNat]? = some y15) /\ (0 <= (IntKind.i64.wrap (x10 - (1 : Int)))) /\ ((IntKind.i64.wrap (x10 - (1 : Int))) < (z8.length : Int)) /\ ∃ y16 : (List yab), (z8[(IntKind.i64.wrap (x10 - (1 : Int))).toNat]? = some y16) /\ ∃ z17, (yeu y15 y16 z17) /\ ybD X1 x9 x10 z8 (!z17) x11)) (∃ z18, (ybZ z6 z18) /\ ∃ z19 z20, (yeW z18 z19 z20) /\ ∃ z22, (yaG z6 z3 z22) /\ cnd z22 (∃ z23, (ycw ([z6, z7] : List yaf) z23) /\ ∃ z24, (yaG z23 x9 z24) /\ cnd z24 (∃ z25, (ycw ([] : List yaf) z25) /\ ∃ z26, (yaG z25 ([] : List (List yab)) z26) /\ cnd z26 (∃ z27, (ya2 z6 z27) /\ ∃ z28, (yaG z27 x11 z28) /\ cnd z28 (cnd (z20 == (0 : Int)) (∃ z29, (yds z19 z6 z29) /\ cnd z29 (∃ z30, (yds z6 z7 z30) /\ ∃ z31, (yb8 z3 z31) /\ ∃ z32, (yb8 z5 z32) /\ cnd (z30 == (z31 == z32)) (∃ z33, (yaG z6 z3 z33) /\ yaA r0 z33) (yaA r0 false)) (yaA r0 false)) (yaA r0 false)) (yaA r0 false)) (yaA r0 false)) (yaA r0 false)) (yaA r0 false)))
def yfK (a0 a1 : List (List yac)) (r0 : Bool) : Prop :=
 ∃ z1, (yc9 z1) /\ cnd (!z1) (false = r0) (∃ z2 z3, (ybX a0 z2 z3) /\ ∃ z4 z5, (ybX a1 z4 z5) /\ ∃ z6, (yeQ z2 z6) /\ ∃ z7, (yeQ z4 z7) /\ (z3.length <= 400000000) /\ ((([] : List (List yab)) ++ z3).length <= 1000000000) /\ (z5.length <= 400000000) /\ ∃ z8, (ybN z3 z8) /\ ∀ X1 : (List (List yab)) -> Int -> (List (List yab)) -> Prop, (∀ x9 x10 x11, ycB r0 z3 z5 z6 z7 z8 X1 x9 x10 x11 -> X1 x9 x10 x11) -> X1 ((([] : List (List yab)) ++ z3) ++ z5) (0 : Int) ([] : List (List yab)))
theorem yir (X1 : (List (List yab)) → Int → (List (List yab)) → Prop) (x9 : List (List yab)) (x10 : Int) (z8 : List (List yab)) {x12 : Bool} {x13 : List (List yab)} (h : ybD X1 x9 x10 z8 x12 x13) : ydY x10 z8 X1 x9 x12 x13 := by
 unfold ydY
 unfold ybD at h
 exact h
theorem yh8 (r0 : Bool) {x21 : Bool} (h : yaA r0 x21) : yd7 r0 x21 := by
 unfold yd7
 unfold yaA at h
 exact h
theorem yia (r0 : Bool) (z3 z5 : List (List yab)) (z6 z7 : yaf) (z8 : List (List yab)) {X1 : (List (List yab)) → Int → (List (List yab)) → Prop} {x9 : List (List yab)} {x10 : Int} {x11 : List (List yab)} (h : ycB r0 z3 z5 z6 z7 z8 X1 x9 x10 x11) : ydZ z8 z6 r0 z3 z7 z5 X1 x9 x10 x11 := by
 unfold ydZ
 unfold ycB at h
 intro c
 replace h := h c
 refine yag h (fun h => ?_) (fun h => ?_)
 ·intro J2 kJ2
  have hJ2 : ∀ x12 x13, ybD X1 x9 x10 z8 x12 x13 -> J2 x12 x13 := fun x12 x13 q => kJ2 x12 x13 (yir X1 x9 x10 z8 q)
  refine yag h (fun h => ?_) (fun h => ?_)
  ·exact hJ2 _ _ h
  ·obtain ⟨h0, h⟩ := h
   refine ⟨h0, ?_⟩
   obtain ⟨h0, h⟩ := h
   refine ⟨h0, ?_⟩
   obtain ⟨y15, h⟩ := h
   refine ⟨y15, ?_⟩
   obtain ⟨h0, h⟩ := h
   refine ⟨h0, ?_⟩
   obtain ⟨h0, h⟩ := h
   refine ⟨h0, ?_⟩
   obtain ⟨h0, h⟩ := h
   refine ⟨h0, ?_⟩
   obtain ⟨y16, h⟩ := h
   refine ⟨y16, ?_⟩
   obtain ⟨h0, h⟩ := h
   refine ⟨h0, ?_⟩
   obtain ⟨z17, h⟩ := h
   refine ⟨z17, ?_⟩
   obtain ⟨h0, h⟩ := h
   refine ⟨h0, ?_⟩
   exact hJ2 _ _ h
 ·obtain ⟨z18, h⟩ := h
  refine ⟨z18, ?_⟩
  obtain ⟨h0, h⟩ := h
  refine ⟨h0, ?_⟩
  obtain ⟨z19, h⟩ := h
  refine ⟨z19, ?_⟩
  obtain ⟨z20, h⟩ := h
  refine ⟨z20, ?_⟩
  obtain ⟨h0, h⟩ := h
  refine ⟨h0, ?_⟩
  intro J3 kJ3
  have hJ3 : ∀ x21, yaA r0 x21 -> J3 x21 := fun x21 q => kJ3 x21 (yh8 r0 q)
  obtain ⟨z22, h⟩ := h
  refine ⟨z22, ?_⟩
  obtain ⟨h0, h⟩ := h
  refine ⟨h0, ?_⟩
  refine yag h (fun h => ?_) (fun h => ?_)
  ·obtain ⟨z23, h⟩ := h
   refine ⟨z23, ?_⟩
   obtain ⟨h0, h⟩ := h
   refine ⟨h0, ?_⟩
   obtain ⟨z24, h⟩ := h
   refine ⟨z24, ?_⟩
   obtain ⟨h0, h⟩ := h
   refine ⟨h0, ?_⟩
   refine yag h (fun h => ?_) (fun h => ?_)
   ·obtain ⟨z25, h⟩ := h
    refine ⟨z25, ?_⟩
    obtain ⟨h0, h⟩ := h
    refine ⟨h0, ?_⟩
    obtain ⟨z26, h⟩ := h
    refine ⟨z26, ?_⟩
    obtain ⟨h0, h⟩ := h
    refine ⟨h0, ?_⟩
    refine yag h (fun h => ?_) (fun h => ?_)
    ·obtain ⟨z27, h⟩ := h
     refine ⟨z27, ?_⟩
     obtain ⟨h0, h⟩ := h
     refine ⟨h0, ?_⟩
     obtain ⟨z28, h⟩ := h
     refine ⟨z28, ?_⟩
     obtain ⟨h0, h⟩ := h
     refine ⟨h0, ?_⟩
     refine yag h (fun h => ?_) (fun h => ?_)
     ·refine yag h (fun h => ?_) (fun h => ?_)
      ·obtain ⟨z29, h⟩ := h
       refine ⟨z29, ?_⟩
       obtain ⟨h0, h⟩ := h
       refine ⟨h0, ?_⟩
       refine yag h (fun h => ?_) (fun h => ?_)
       ·obtain ⟨z30, h⟩ := h
        refine ⟨z30, ?_⟩
        obtain ⟨h0, h⟩ := h
        refine ⟨h0, ?_⟩
        obtain ⟨z31, h⟩ := h
        refine ⟨z31, ?_⟩
        obtain ⟨h0, h⟩ := h
        refine ⟨h0, ?_⟩
        obtain ⟨z32, h⟩ := h
        refine ⟨z32, ?_⟩
        obtain ⟨h0, h⟩ := h
        refine ⟨h0, ?_⟩
        refine yag h (fun h => ?_) (fun h => ?_)
        ·obtain ⟨z33, h⟩ := h
         refine ⟨z33, ?_⟩
         obtain ⟨h0, h⟩ := h
         refine ⟨h0, ?_⟩
         exact hJ3 _ h
        ·exact hJ3 _ h
       ·exact hJ3 _ h
      ·exact hJ3 _ h
     ·exact hJ3 _ h
    ·exact hJ3 _ h
   ·exact hJ3 _ h
  ·exact hJ3 _ h
theorem yj8 (a0 a1 : List (List yac)) (r0 : Bool) (h : yfK a0 a1 r0) : ybi a0 a1 r0 := by
 unfold ybi
 unfold yfK at h
 obtain ⟨z1, h⟩ := h
 refine ⟨z1, ?_⟩
 obtain ⟨h0, h⟩ := h
 refine ⟨h0, ?_⟩
 refine yag h (fun h => ?_) (fun h => ?_)
 ·exact h
 ·obtain ⟨z2, h⟩ := h
  refine ⟨z2, ?_⟩
  obtain ⟨z3, h⟩ := h
  refine ⟨z3, ?_⟩
  obtain ⟨h0, h⟩ := h
  refine ⟨h0, ?_⟩
  obtain ⟨z4, h⟩ := h
  refine ⟨z4, ?_⟩
  obtain ⟨z5, h⟩ := h
  refine ⟨z5, ?_⟩
  obtain ⟨h0, h⟩ := h
  refine ⟨h0, ?_⟩
  obtain ⟨z6, h⟩ := h
  refine ⟨z6, ?_⟩
  obtain ⟨h0, h⟩ := h
  refine ⟨h0, ?_⟩
  obtain ⟨z7, h⟩ := h
  refine ⟨z7, ?_⟩
  obtain ⟨h0, h⟩ := h
  refine ⟨h0, ?_⟩
  obtain ⟨h0, h⟩ := h
  refine ⟨h0, ?_⟩
  obtain ⟨h0, h⟩ := h
  refine ⟨h0, ?_⟩
  obtain ⟨h0, h⟩ := h
  refine ⟨h0, ?_⟩
  obtain ⟨z8, h⟩ := h
  refine ⟨z8, ?_⟩
  obtain ⟨h0, h⟩ := h
  refine ⟨h0, ?_⟩
  intro X1 k
  exact h X1 (fun x9 x10 x11 q => k x9 x10 x11 (yia r0 z3 z5 z6 z7 z8 q))
def ycQ : Sp KK := ⟨5, [.v 22, .v 22], [4], appW (K := KK) [4] [.v 22, .v 22] ybi⟩
def yjB : An KK := (.s .o (.s (.s .o (.c (.s .o .o) .o)) (.s .o (.s .o (.s .o (.s .o (.s .o (.s .o (.s (.s .o (.b (.l ⟨[(6, .kp 18), (8, .kp 19), (9, .px 9 0), (10, .px 10 0), (11, .sl 50), (12, .row 67), (13, .kp 21), (14, .it .i64)], [(9, 31, [.kp 23]), (10, 31, [.kp 24])], [(67, 50)]⟩ (fun _ => (.s (.s .o (.c .o .o)) (.s (.b (.j ⟨[(6, .kp 18), (8, .kp 19), (9, .px 9 0), (10, .px 10 0), (11, .kp 33), (12, .row 67), (13, .kp 21), (14, .kp 34), (60, .bl)], [(9, 31, [.kp 23]), (10, 31, [.kp 24])], [(67, 50)]⟩ .o (fun _ => (.c .o .o)))) .o)))))) (.s .o (.j ⟨[(4, .bl)], [], []⟩ .o (fun _ => .o))))))))))))
def yji : Cf KK := ⟨CC, [ygP, yiX, yiO, yeR, yiN, yfz, yl8, yiI, ykZ, ydj, ylc, yhk], [], 120, [], none, false⟩
theorem yjt : SpOk Try.prog CC ycQ := yat (F := yji) (ps := [.v 22, .v 22]) (rs := [4]) (w := ybi) ybd (yar ykN (yar ymz (yar ylt (yar yfU (yar ymN (yar yhX (yar yrn (yar ymu (yar ypc (yar yeY (yar ypy (yar yjX yav)))))))))))) yaw t5 (A := yjB) (by kernel_rfl) (by kernel_rfl) (fun a0 a1 r0 => show _ = _ by kernel_rfl)
end Go.Proofs.Ytkmehmgocelkiaa
end
noncomputable section
namespace Go.Proofs.Ytkmehmgocelkiaa
open Go.AV Go.RowKit
abbrev V := yaa
abbrev V6 := yab
def Rg (n : Int) : Prop := -9223372036854775808 <= n /\ n <= 9223372036854775807
def good (v : V) : Prop := (v.Kind = 0 /\ v.N = 0 /\ v.S = []) ∨ (v.Kind = 1 /\ (v.N = 0 ∨ v.N = 1) /\ v.S = []) ∨ (v.Kind = 2 /\ Rg v.N /\ v.S = []) ∨ (v.Kind = 3 /\ v.N = 0 /\ v.S.length <= 64)
def v6 (a : V) : V6 := ⟨a.Kind, a.N, a.S⟩
def D0 : V := ⟨0, 0, []⟩
def eqV (a b : V) : Bool := (a.Kind == b.Kind) && ((a.N == b.N) && ((a.S == b.S) && true))
theorem ymy {a b : V} : eqV a b = true ↔ a = b := by
 cases a; cases b; simp [eqV]
theorem ypW (n : Int) : yb0 n ⟨2, n, []⟩ := by unfold yb0; rfl
def cI (a b : Int) : Int := if a < b then -1 else if b < a then 1 else 0
def cS (a b : Str) : Int := if Op.bytesLess a b then -1 else if !(Op.bytesLess a b || a == b) then 1 else 0
theorem yzj (a b : Int) : ycY a b (cI a b) := by
 refine ⟨_, rfl, _, rfl, ?_⟩
 grind [cnd, cI]
theorem yzo (a b : Int) : ycr a b (cI a b) := by
 refine ⟨_, rfl, _, rfl, ?_⟩
 grind [cnd, cI]
theorem yzD (a b : Str) : yce a b (cS a b) := by
 refine ⟨_, rfl, _, rfl, ?_⟩
 grind [cnd, cS]
def sOr (a b c : Int) : Int := if a ≠ 0 then a else if b ≠ 0 then b else c
theorem pOr (a b c : Int) : yet [a, b, c] (sOr a b c) := by
 unfold yet
 intro _ X hX
 apply hX
 refine ⟨fun _ => ⟨by omega, by simp, a, rfl, ?_⟩, fun h => by simp at h⟩
 refine ⟨fun h => by grind [sOr], fun h => ?_⟩
 rw [wrap64 (by omega) (by omega)]
 apply hX
 refine ⟨fun _ => ⟨by omega, by simp, b, rfl, ?_⟩, fun h => by simp at h⟩
 refine ⟨fun h => by grind [sOr], fun h => ?_⟩
 rw [wrap64 (by omega) (by omega)]
 apply hX
 refine ⟨fun _ => ⟨by omega, by simp, c, rfl, ?_⟩, fun h => by simp at h⟩
 refine ⟨fun h => by grind [sOr], fun h => ?_⟩
 rw [wrap64 (by omega) (by omega)]
 apply hX
 refine ⟨fun h => by simp at h, fun _ => by grind [sOr]⟩
def sCmp (a b : V) : Int := sOr (cI a.Kind b.Kind) (cI a.N b.N) (cS a.S b.S)
theorem yur (a b : V) : ydR a b (sCmp a b) :=
 ⟨_, yzj a.Kind b.Kind, _, yzo a.N b.N, _, yzD a.S b.S, _, pOr _ _ _, rfl⟩
def yeT (a b : V6) : Bool := if a.Kind ≠ b.Kind then decide (a.Kind < b.Kind) else if a.Kind = 3 then Op.bytesLess a.S b.S else decide (a.N < b.N)
theorem yr7 {a b : Str} {i : Nat} (h1 : i < a.length) (h2 : i < b.length) : Op.bytesLess (a.drop i) (b.drop i) = (decide (a[i] < b[i]) || (a[i] == b[i] && Op.bytesLess (a.drop (i + 1)) (b.drop (i + 1)))) := by
 rw [jbk h1, jbk h2]
 simp only [Op.bytesLess]
theorem yvR {a b : Str} {i : Nat} (h1 : a.length ≤ i) (h2 : i ≤ b.length) : Op.bytesLess (a.drop i) (b.drop i) = decide (i < b.length) := by
 rw [jbB h1]
 by_cases h : i < b.length
 ·rw [jbk h]; simp [Op.bytesLess, h]
 ·rw [jbB (by omega)]; simp [Op.bytesLess, h]
theorem yxj {a b : Str} {i : Nat} (h2 : b.length ≤ i) : Op.bytesLess (a.drop i) (b.drop i) = false := by
 rw [jbB h2]
 cases a.drop i <;> rfl
theorem ymX {s : Str} {i : Nat} (h : i < s.length) : bAt s (i : Int) = (s[i].toNat : Int) := by
 unfold bAt
 rw [jaH, jad h]; rfl
theorem ywu (a b : V6) (h1 : a.S.length ≤ 1000) (h2 : b.S.length ≤ 1000) : yb6 a b (yeT a b) := by
 apply ylQ
 refine ⟨fun c => ?_, fun c => ⟨fun c3 => ?_, fun c3 => ?_⟩⟩
 ·have c : a.Kind ≠ b.Kind := by simpa using c
  simp [yeT, c]
 ·have c : a.Kind = b.Kind := by simpa using c
  have c3 : a.Kind = 3 := by simpa using c3
  have hs : yeT a b = Op.bytesLess a.S b.S := by simp [yeT, <- c, c3]
  rw [hs]
  refine lp1 (fun (x : Int) => ∃ i : Nat, x = (i : Int) /\ i <= a.S.length /\ i <= b.S.length /\ Op.bytesLess a.S b.S = Op.bytesLess (a.S.drop i) (b.S.drop i)) (fun (x : Int) => a.S.length - x.toNat) ?_ ⟨0, rfl, by omega, by omega, rfl⟩
  rintro X x ⟨i, rfl, hi1, hi2, he⟩ hX
  rw [he]
  simp only [ydi, ybV]
  by_cases l1 : i < a.S.length
  ·by_cases l2 : i < b.S.length
   ·have t1 : ((i : Int) < a.S.length) := by omega
    have t2 : ((i : Int) < b.S.length) := by omega
    simp only [t1, t2, decide_true]
    refine ⟨fun _ => ⟨fun _ => ⟨(by refine ⟨?_, ?_⟩ <;> first | trivial | omega), (by refine ⟨?_, ?_⟩ <;> first | trivial | omega), ?_⟩, fun q => (by cases q)⟩, fun q => (by cases q)⟩
    rw [ymX l1, ymX l2, yr7 l1 l2]
    refine ⟨fun d => ⟨(by refine ⟨?_, ?_⟩ <;> first | trivial | omega), (by refine ⟨?_, ?_⟩ <;> first | trivial | omega), ?_⟩, fun d => ?_⟩
    ·have d0 : ¬ (a.S[i].toNat : Int) = b.S[i].toNat := by simpa using d
     have d : ¬ a.S[i].toNat = b.S[i].toNat := by omega
     have d' : ¬ a.S[i] = b.S[i] := fun e => d (by rw [e])
     rw [Bool.eq_iff_iff]
     simp [d', UInt8.lt_iff_toNat_lt]
    ·have d : a.S[i] = b.S[i] := by
      have d0 : (a.S[i].toNat : Int) = b.S[i].toNat := by simpa using d
      have : a.S[i].toNat = b.S[i].toNat := by omega
      exact UInt8.toNat_inj.1 this
     rw [wrap64 (by omega) (by omega)]
     refine hX _ ⟨i + 1, by omega, by omega, by omega, ?_⟩ (by omega)
     rw [he, yr7 l1 l2]
     have hlt : ¬ b.S[i] < b.S[i] := jbM _
     simp [d, hlt]
   ·have t1 : ((i : Int) < a.S.length) := by omega
    have t2 : ¬ ((i : Int) < b.S.length) := by omega
    simp only [t1, t2, decide_true, decide_false]
    refine ⟨fun _ => ⟨fun q => (by cases q), fun _ => ?_⟩, fun q => (by cases q)⟩
    rw [yxj (by omega)]
    simp; omega
  ·have t1 : ¬ ((i : Int) < a.S.length) := by omega
   simp only [t1, decide_false]
   refine ⟨fun q => (by cases q), fun _ => ⟨fun q => (by cases q), fun _ => ?_⟩⟩
   rw [yvR (by omega) hi2]
   rw [Bool.eq_iff_iff]; simp; omega
 ·have c : a.Kind = b.Kind := by simpa using c
  have c3 : ¬ a.Kind = 3 := by simpa using c3
  simp [yeT, <- c, c3]
theorem cS_0 {a b : Str} : cS a b = 0 ↔ a = b := by
 unfold cS
 have := ye9 b
 rcases ykh a b with h | rfl | h
 ·rw [if_pos h]; refine ⟨fun q => (by cases q), ?_⟩; rintro rfl; rw [h] at this; cases this
 ·simp [this]
 ·have hn : ¬ Op.bytesLess a b = true := fun q => by have := yi8 _ _ _ q h; rw [ye9] at this; cases this
  have he : ¬ a = b := fun e => by subst e; rw [h] at this; cases this
  simp [hn, he]
theorem yu1 {a b : Str} : cS a b < 0 ↔ Op.bytesLess a b = true := by
 unfold cS; split
 ·rename_i h; simp [h]
 ·rename_i h; split <;> simp [h]
theorem yye {a b : Str} : 0 < cS a b ↔ Op.bytesLess b a = true := by
 have hi := ye9 b
 unfold cS
 rcases ykh a b with h | rfl | h
 ·have hn : ¬ Op.bytesLess b a = true := fun q => by have := yi8 _ _ _ h q; rw [ye9] at this; cases this
  simp [h, hn]
 ·simp [hi]
 ·have hn : ¬ Op.bytesLess a b = true := fun q => by have := yi8 _ _ _ q h; rw [ye9] at this; cases this
  have he : ¬ a = b := fun e => by subst e; rw [h] at hi; cases hi
  simp [hn, he, h]
theorem yma {a b : Int} : (cI a b = 0 ↔ a = b) ∧ (cI a b < 0 ↔ a < b) ∧ (0 < cI a b ↔ b < a) := by
 unfold cI
 split
 ·refine ⟨by omega, by omega, by omega⟩
 ·split <;> refine ⟨by omega, by omega, by omega⟩
theorem yl6 {a b : V} : sCmp a b = 0 ↔ a = b := by
 unfold sCmp sOr
 have h1 := (yma (a := a.Kind) (b := b.Kind)).1
 have h2 := (yma (a := a.N) (b := b.N)).1
 have h3 := cS_0 (a := a.S) (b := b.S)
 cases a; cases b
 simp only [yaa.mk.injEq]
 simp only at h1 h2 h3
 split
 ·rename_i c; exact ⟨fun q => absurd q c, fun q => absurd (h1.2 q.1) c⟩
 ·rename_i c
  have c := Decidable.not_not.1 c
  split
  ·rename_i d; exact ⟨fun q => absurd q d, fun q => absurd (h2.2 q.2.1) d⟩
  ·rename_i d
   have d := Decidable.not_not.1 d
   rw [h3]; exact ⟨fun q => ⟨h1.1 c, h2.1 d, q⟩, fun q => q.2.2⟩
theorem yt6 {a b : V} (ha : good a) (hb : good b) : (sCmp a b < 0 ↔ yeT (v6 a) (v6 b) = true) ∧ (0 < sCmp a b ↔ yeT (v6 b) (v6 a) = true) := by
 have h1 := yma (a := a.Kind) (b := b.Kind)
 have h2 := yma (a := a.N) (b := b.N)
 have h3 := yu1 (a := a.S) (b := b.S)
 have h4 := yye (a := a.S) (b := b.S)
 have hs : ∀ {u v : V}, good u → good v → u.Kind = v.Kind → (u.Kind = 3 → u.N = v.N) ∧ (¬ u.Kind = 3 → u.S = v.S) := by
  intro u v hu hv e
  unfold good at hu hv
  refine ⟨fun k => ?_, fun k => ?_⟩
  ·rcases hu with h | h | h | h <;> rcases hv with h' | h' | h' | h' <;> omega
  ·rcases hu with h | h | h | h <;> rcases hv with h' | h' | h' | h' <;> first | (rw [h.2.2, h'.2.2]; done) | omega
 unfold sCmp sOr yeT v6
 simp only
 by_cases hk : a.Kind = b.Kind
 ·have hk0 := h1.1.2 hk
  obtain ⟨e3, e4⟩ := hs ha hb hk
  rw [hk0]
  simp only [ne_eq, not_true_eq_false, if_false, hk]
  by_cases k3 : b.Kind = 3
  ·have hn0 := h2.1.2 (e3 (by omega))
   rw [hn0]
   simp only [not_true_eq_false, if_false, k3, if_true]
   exact ⟨h3, h4⟩
  ·have es := e4 (by omega)
   simp only [k3, if_false]
   have hc : cS a.S b.S = 0 := cS_0.2 es
   rw [hc]
   by_cases hn : cI a.N b.N = 0
   ·have e1 := h2.2.1
    have e2 := h2.2.2
    simp only [hn, not_true_eq_false, if_false, decide_eq_true_eq] at *
    exact ⟨by omega, by omega⟩
   ·simp only [hn, not_false_eq_true, if_true]
    exact ⟨by rw [h2.2.1]; simp, by rw [h2.2.2]; simp⟩
 ·have hn : ¬ cI a.Kind b.Kind = 0 := fun q => hk (h1.1.1 q)
  have hk' : ¬ b.Kind = a.Kind := fun q => hk q.symm
  simp only [ne_eq, hn, not_false_eq_true, if_true, hk, hk']
  exact ⟨by rw [h1.2.1]; simp, by rw [h1.2.2]; simp⟩
theorem yxq {a : V} (h : good a) : Rg a.N := by
 unfold good at h; unfold Rg at *
 rcases h with h | h | h | h <;> omega
theorem ytf {a : V} (h : good a) : a.S.length ≤ 64 := by
 unfold good at h
 rcases h with h | h | h | h
 ·rw [h.2.2]; simp
 ·rw [h.2.2]; simp
 ·rw [h.2.2]; simp
 ·exact h.2.2
theorem yzS {a b : V} : (((v6 a).Kind == (v6 b).Kind) && (((v6 a).N == (v6 b).N) && (((v6 a).S == (v6 b).S) && true))) = eqV a b := rfl
def yrs (v : V) : Bool := if v.Kind = 0 then eqV v D0 else if v.Kind = 1 then (v.N == 0 || v.N == 1) && v.S == [] else if v.Kind = 2 then v.S == [] else if v.Kind = 3 then v.N == 0 && decide ((v.S.length : Int) <= 64) else false
theorem ys1 (v : V) : ybF v (yrs v) := by
 unfold ybF
 have e : ((v.Kind == 0) && ((v.N == 0) && ((v.S == ([] : Str)) && true))) = eqV v D0 := rfl
 rw [e]
 unfold yrs
 generalize eqV v D0 = z
 refine ⟨fun c => ?_, fun c => ⟨fun c1 => ?_, fun c1 => ⟨fun c2 => ?_, fun c2 => ⟨fun c3 => ?_, fun c3 => ?_⟩⟩⟩⟩ <;> simp only [beq_iff_eq, beq_eq_false_iff_ne, ne_eq] at * <;> grind [cnd]
end Go.Proofs.Ytkmehmgocelkiaa
end
noncomputable section
namespace Go.Proofs.Ytkmehmgocelkiaa
open Go.AV Go.RowKit
theorem ytb (s : Str) : (s.map ofB).map toB = s := by
 induction s with
 | nil => rfl
 | cons c s ih =>
   simp only [jav, ih]
   congr 1
   show UInt8.ofNat ((c.toNat : Int).toNat) = c
   rw [jaH]; exact UInt8.ofNat_toNat
def num : Str → Nat
 | [] => 0
 | c :: s => c.toNat * 256 ^ s.length + num s
theorem ylU (s : Str) : num s < 256 ^ s.length := by
 induction s with
 | nil => simp [num]
 | cons c s ih =>
   have hc : c.toNat < 256 := c.toNat_lt
   have e : (256 : Nat) ^ (c :: s).length = 256 * 256 ^ s.length := by simp [Nat.pow_succ, Nat.mul_comm]
   rw [e]
   have : c.toNat * 256 ^ s.length <= 255 * 256 ^ s.length := jbi _ (by omega)
   simp only [num]; omega
theorem yuk (s : Str) (c : UInt8) : num (s ++ [c]) = num s * 256 + c.toNat := by
 induction s with
 | nil => simp [num]
 | cons d s ih =>
   have : d.toNat * 256 ^ (s.length + 1) = d.toNat * 256 ^ s.length * 256 := by rw [Nat.pow_succ, Nat.mul_assoc]
   simp only [jaN, num, ih, jaj, jaG, jbb]
   simp only [jaZ, this]; omega
theorem ywe : ∀ {s t : Str}, s.length = t.length → num s = num t → s = t := by
 intro s
 induction s with
 | nil => intro t h _; exact (jal h.symm).symm
 | cons c s ih =>
   intro t h e
   cases t with
   | nil => simp at h
   | cons d t =>
     have hl : s.length = t.length := by simpa using h
     have h1 := ylU s
     have h2 := ylU t
     simp only [num] at e
     rw [<- hl] at e h2
     have hB : 0 < 256 ^ s.length := Nat.pow_pos (by omega)
     have hcd : c.toNat = d.toNat := by
      have e1 : (c.toNat * 256 ^ s.length + num s) / 256 ^ s.length = c.toNat := by
       rw [jbR, Nat.add_mul_div_right _ _ hB, Nat.div_eq_of_lt h1]; omega
      have e2 : (d.toNat * 256 ^ s.length + num t) / 256 ^ s.length = d.toNat := by
       rw [jbR, Nat.add_mul_div_right _ _ hB, Nat.div_eq_of_lt h2]; omega
      rw [<- e1, <- e2, e]
     have hcd' : c = d := UInt8.toNat_inj.1 hcd
     subst hcd'
     rw [ih hl (by omega)]
def be : Nat → Nat → Str
 | 0, _ => []
 | i + 1, u => UInt8.ofNat (u / 256 ^ i) :: be i u
theorem ygB (k u : Nat) : (be k u).length = k := by
 induction k with
 | zero => rfl
 | succ k ih => simp [be, ih]
theorem ytJ (k u : Nat) : num (be k u) = u % 256 ^ k := by
 induction k with
 | zero => simp [be, num, Nat.mod_one]
 | succ k ih =>
   simp only [be, num, ygB, ih]
   rw [Nat.mod_pow_succ, UInt8.toNat_ofNat', Nat.mul_comm]
   show 256 ^ k * (u / 256 ^ k % 2 ^ 8) + _ = _
   rw [jbR]
theorem yxJ (s : Str) : be s.length (num s) = s := by
 refine ywe (ygB _ _) ?_
 rw [ytJ, Nat.mod_eq_of_lt (ylU s)]
def tl (a : Nat) : Nat → List Int
 | 0 => []
 | i + 1 => ofB (UInt8.ofNat (a / 256 ^ i)) :: tl a i
theorem yxi (a k : Nat) : tl a k = (be k a).map ofB := by
 induction k with
 | zero => rfl
 | succ k ih => simp [tl, be, ih]
theorem yvl (a k : Nat) : (tl a k).length = k := by rw [yxi]; simp [ygB]
theorem pow8 (i : Nat) : (2 : Nat) ^ (8 * i) = 256 ^ i := by
 rw [Nat.pow_mul]
theorem yxh (n : Nat) : ofB (UInt8.ofNat n) = ((n % 256 : Nat) : Int) := by
 show (((UInt8.ofNat n).toNat : Nat) : Int) = _
 rw [UInt8.toNat_ofNat']
theorem yyB {a k : Nat} (hk : k ≤ 8) : yd4 (a : Int) (k : Int) (tl a k) := by
 unfold yd4
 refine ⟨by omega, by omega, by omega, ?_⟩
 refine lp2 (fun (x : Int) (y : List Int) => ∃ i : Nat, x = i /\ i <= k /\ y = List.replicate (k - i) (0 : Int) ++ tl a i) (fun (x : Int) (_ : List Int) => k - x.toNat) ?_ ⟨0, rfl, by omega, by simp [tl]⟩
 rintro X x y ⟨i, rfl, hi, rfl⟩ hX
 simp only [yjY]
 have ek : (k : Int).toNat = k := jaH k
 refine ⟨fun c => ?_, fun c => ?_⟩
 ·have c : (i : Int) < ((List.replicate (k : Int).toNat (0 : Int)).length : Int) := by simpa using c
  rw [ek, List.length_replicate] at c
  have w1 : IntKind.i64.wrap (8 * (i : Int)) = 8 * (i : Int) := wrap64 (by omega) (by omega)
  have w2 : IntKind.i64.wrap ((k : Int) - 1) = (k : Int) - 1 := wrap64 (by omega) (by omega)
  have w3 : IntKind.i64.wrap ((k : Int) - 1 - (i : Int)) = ((k - 1 - i : Nat) : Int) := by rw [wrap64 (by omega) (by omega)]; omega
  have w4 : IntKind.i64.wrap ((i : Int) + 1) = ((i + 1 : Nat) : Int) := by rw [wrap64 (by omega) (by omega)]; omega
  rw [w1, w2, w3, w4, jaH]
  have hm : k - i = (k - 1 - i) + 1 := by omega
  have er : List.replicate (k - i) (0 : Int) ++ tl a i = List.replicate (k - 1 - i) 0 ++ (0 :: tl a i) := by
   rw [hm, List.replicate_succ', jai]; rfl
  have hmin : min (8 * (i : Int)).toNat IntKind.u64.bits = 8 * i := by
   show min _ 64 = _
   omega
  have hsh : IntKind.u8.wrap ((a : Int).fdiv (2 ^ (min (8 * (i : Int)).toNat IntKind.u64.bits))) = ofB (UInt8.ofNat (a / 256 ^ i)) := by
   rw [hmin, yxh, ynB]
   have : (2 : Int) ^ (8 * i) = ((256 ^ i : Nat) : Int) := by rw [<- pow8]; norm_cast
   rw [this, Int.fdiv_eq_ediv_of_nonneg _ (Int.natCast_nonneg _), <- Int.natCast_ediv]
   generalize a / 256 ^ i = q
   omega
  rw [hsh, er]
  refine ⟨by omega, by omega, by simp; omega, 0, ?_, ?_⟩
  ·rw [jam (by simp)]; simp
  ·refine hX _ _ ⟨i + 1, rfl, by omega, ?_⟩ (by omega)
   have e2 : k - (i + 1) = k - 1 - i := by omega
   rw [List.set_append_right _ _ (by simp), e2]; simp [tl]
 ·have c : ¬ (i : Int) < ((List.replicate (k : Int).toNat (0 : Int)).length : Int) := by simpa using c
  rw [ek, List.length_replicate] at c
  have : k - i = 0 := by omega
  have e : i = k := by omega
  rw [this, e]; rfl
end Go.Proofs.Ytkmehmgocelkiaa
end
noncomputable section
namespace Go.Proofs.Ytkmehmgocelkiaa
open Go.AV Go.RowKit
theorem ytS {u : Nat} (h : u < 2 ^ 64) : u ^^^ 2 ^ 63 = (u + 2 ^ 63) % 2 ^ 64 := by
 have h1 : (u ^^^ 2 ^ 63) % 2 ^ 63 = u % 2 ^ 63 := by
  rw [Nat.xor_mod_two_pow]; simp
 have h2 : (u ^^^ 2 ^ 63) / 2 ^ 63 = (u / 2 ^ 63) ^^^ 1 := by
  rw [Nat.xor_div_two_pow]
 have h3 : u / 2 ^ 63 = 0 ∨ u / 2 ^ 63 = 1 := by omega
 have h4 := Nat.div_add_mod (u ^^^ 2 ^ 63) (2 ^ 63)
 rw [h1, h2] at h4
 rcases h3 with h3 | h3
 ·rw [h3] at h4
  have : (0 ^^^ 1 : Nat) = 1 := rfl
  rw [this] at h4; omega
 ·rw [h3] at h4
  have : (1 ^^^ 1 : Nat) = 0 := rfl
  rw [this] at h4; omega
theorem yyA (n : Int) : bits .xor .u64 n 9223372036854775808 = ((((n % 18446744073709551616).toNat + 9223372036854775808) % 18446744073709551616 : Nat) : Int) := by
 have key : (BitVec.ofInt 64 n ^^^ BitVec.ofInt 64 9223372036854775808).toNat = ((n % 18446744073709551616).toNat + 9223372036854775808) % 18446744073709551616 := by
  rw [BitVec.toNat_xor, jbP, jbP]
  have e : (9223372036854775808 % ((2 ^ 64 : Nat) : Int)).toNat = 2 ^ 63 := by decide
  rw [e]
  have : (n % ((2 ^ 64 : Nat) : Int)).toNat < 2 ^ 64 := by omega
  rw [ytS this]; rfl
 show IntKind.u64.wrap ((BitVec.ofInt 64 n ^^^ BitVec.ofInt 64 9223372036854775808).toNat : Nat) = _
 rw [key]; exact ygM (by omega) (by omega)
theorem or8 {x c : Nat} (hx : x < 72057594037927936) (hc : c < 256) : bits .or .u64 (IntKind.u64.wrap ((x : Int) * 2 ^ (min (8 : Int).toNat IntKind.u64.bits))) (IntKind.u64.wrap (c : Int)) = ((x * 256 + c : Nat) : Int) := by
 have e1 : IntKind.u64.wrap ((x : Int) * 2 ^ (min (8 : Int).toNat IntKind.u64.bits)) = ((2 ^ 8 * x : Nat) : Int) := by
  have : (2 : Int) ^ (min (8 : Int).toNat IntKind.u64.bits) = 256 := by decide
  rw [this, ygM (by omega) (by omega)]; omega
 have e2 : IntKind.u64.wrap (c : Int) = (c : Int) := ygM (by omega) (by omega)
 rw [e1, e2]
 have key : (BitVec.ofInt 64 ((2 ^ 8 * x : Nat) : Int) ||| BitVec.ofInt 64 (c : Int)).toNat = x * 256 + c := by
  rw [BitVec.toNat_or, jbP, jbP]
  have a1 : (((2 ^ 8 * x : Nat) : Int) % ((2 ^ 64 : Nat) : Int)).toNat = 2 ^ 8 * x := by omega
  have a2 : ((c : Int) % ((2 ^ 64 : Nat) : Int)).toNat = c := by omega
  rw [a1, a2, <- Nat.two_pow_add_eq_or_of_lt (by omega : c < 2 ^ 8)]; omega
 show IntKind.u64.wrap ((BitVec.ofInt 64 ((2 ^ 8 * x : Nat) : Int) ||| BitVec.ofInt 64 (c : Int)).toNat : Nat) = _
 rw [key]; exact ygM (by omega) (by omega)
def sInt (n : Int) : Str := be 8 (n + 9223372036854775808).toNat
theorem yix (n : Int) : (sInt n).length = 8 := ygB _ _
theorem pInt {n : Int} (h : Rg n) : yhx n (sInt n) := by
 unfold Rg at h
 refine ⟨(sInt n).map ofB, ?_, ytb _⟩
 ·rw [yyA]
  have e : ((((IntKind.u64.wrap n) % 18446744073709551616).toNat + 9223372036854775808) % 18446744073709551616 : Nat) = (n + 9223372036854775808).toNat := by
   rw [yje]; omega
  rw [e]
  have := yyB (a := (n + 9223372036854775808).toNat) (k := 8) (by omega)
  rw [yxi] at this; exact this
theorem ytD {s : Str} (h : s.length ≤ 8) : ycT s (num s) := by
 unfold ycT
 refine lp2 (fun (x y : Int) => ∃ i : Nat, y = i /\ i <= s.length /\ x = (num (s.take i) : Int)) (fun (_ y : Int) => s.length - y.toNat) ?_ ⟨0, rfl, by omega, by simp [num]⟩
 rintro X x y ⟨i, rfl, hi, rfl⟩ hX
 simp only [yh2]
 refine ⟨fun c => ?_, fun c => ?_⟩
 ·have c : (i : Int) < s.length := by simpa using c
  have hlt : i < s.length := by omega
  refine ⟨⟨by omega, c⟩, ?_⟩
  have w4 : IntKind.i64.wrap ((i : Int) + 1) = ((i + 1 : Nat) : Int) := by rw [wrap64 (by omega) (by omega)]; omega
  have hn := ylU (s.take i)
  have hle : (s.take i).length <= 7 := by rw [jaR]; omega
  have hp : 256 ^ (s.take i).length <= 256 ^ 7 := Nat.pow_le_pow_right (by omega) hle
  rw [ymX hlt, or8 (by omega) (s[i].toNat_lt), w4]
  refine hX _ _ ⟨i + 1, rfl, by omega, ?_⟩ (by omega)
  rw [jaE hlt, yuk]
 ·have c : ¬ (i : Int) < s.length := by simpa using c
  rw [jay (by omega)]
theorem yrK {s : Str} (h : s.length = 8) : IntKind.i64.wrap (bits .xor .u64 (num s : Int) 9223372036854775808) = (num s : Int) - 9223372036854775808 := by
 have hn := ylU s
 rw [h] at hn
 rw [yyA, ysF]
 split <;> omega
theorem ywo (s : Str) : ydO s (if s.length = 8 then (num s : Int) - 9223372036854775808 else 0) (decide (s.length = 8)) := by
 refine ⟨fun c => ?_, fun c => ?_⟩
 ·have c : ¬ s.length = 8 := by
   have : ¬ (s.length : Int) = 8 := by simpa using c
   omega
  rw [if_neg c, decide_eq_false c]; exact ⟨rfl, rfl⟩
 ·have c : s.length = 8 := by
   have : (s.length : Int) = 8 := by simpa using c
   omega
  rw [if_pos c, decide_eq_true c]
  exact ⟨_, ytD (by omega), yrK c, rfl⟩
def ynA (s : Str) : Str × Str × Bool := if s.length < 4 then ([], s, false) else if s.length - 4 < num (s.take 4) then ([], s, false) else ((s.drop 4).take (num (s.take 4)), s.drop (4 + num (s.take 4)), true)
theorem yya {s : Str} (h : s.length ≤ 1000000000) : yfs s (ynA s).1 (ynA s).2.1 (ynA s).2.2 := by
 unfold ynA
 refine ⟨fun c => ?_, fun c => ?_⟩
 ·have c : (s.length : Int) < 4 := of_decide_eq_true c
  rw [if_pos (by omega)]; exact ⟨rfl, rfl, rfl⟩
 ·have c : ¬ (s.length : Int) < 4 := of_decide_eq_false c
  rw [if_neg (by omega)]
  have e0 : (s.drop (0 : Int).toNat).take ((4 : Int).toNat - (0 : Int).toNat) = s.take 4 := by simp
  have hl : (s.take 4).length = 4 := by rw [jaR]; omega
  have hn := ylU (s.take 4)
  rw [hl] at hn
  rw [e0]
  refine ⟨⟨by omega, by omega, by omega⟩, _, ytD (by omega), ?_⟩
  generalize num (s.take 4) = n at *
  have w1 : IntKind.u64.wrap (IntKind.i64.wrap ((s.length : Int) - 4)) = (s.length : Int) - 4 := by rw [wrap64 (by omega) (by omega), ygM (by omega) (by omega)]
  have w2 : IntKind.i64.wrap (4 + IntKind.i64.wrap (n : Int)) = ((4 + n : Nat) : Int) := by rw [wrap64 (n := (n : Int)) (by omega) (by omega), wrap64 (by omega) (by omega)]; omega
  rw [w1, w2]
  refine ⟨fun d => ?_, fun d => ?_⟩
  ·have d : (s.length : Int) - 4 < n := of_decide_eq_true d
   rw [if_pos (by omega)]; exact ⟨rfl, rfl, rfl⟩
  ·have d : ¬ (s.length : Int) - 4 < n := of_decide_eq_false d
   rw [if_neg (by omega)]
   refine ⟨⟨by omega, by omega, by omega⟩, ⟨by omega, by omega, by omega⟩, ?_, ?_, rfl⟩
   ·rw [jaH]
    have : 4 + n - (4 : Int).toNat = n := by omega
    rw [this]; rfl
   ·rw [jaH, jaH, jay (by rw [ja4]; omega)]
def spl : Nat → Str → Option (List Str)
 | 0, s => if s = [] then some [] else none
 | n + 1, s => if s = [] then some [] else if s.length < 4 then none else if s.length - 4 < num (s.take 4) then none else
    (spl n (s.drop (4 + num (s.take 4)))).map ((s.drop 4).take (num (s.take 4)) :: ·)
def yeP (s : Str) : Option (List Str) := spl s.length s
theorem yvB {s : Str} (h : s.length ≤ 100000000) : ydq s ((yeP s).getD []) (if (yeP s).isSome then 0 else 2) := by
 unfold ydq
 intro X hX
 have key : ∀ n, ∀ (x : Str) (y : List Str), x.length ≤ n → x.length ≤ 100000000 → y.length + x.length ≤ 100000000 →
   ((spl n x).map (y ++ ·) = yeP s) -> X x y := by
  intro n
  induction n with
  | zero =>
    intro x y hx _ _ he
    have : x = [] := jal (by omega)
    subst this
    apply hX
    refine ⟨fun c => (by simp at c), fun _ => ?_⟩
    rw [<- he]; simp [spl]
  | succ n ih =>
    intro x y hx hb hyx he
    apply hX
    simp only [spl] at he
    refine ⟨fun c => ?_, fun c => ?_⟩
    ·have c : ¬ x = [] := by simpa using c
     rw [if_neg c] at he
     refine ⟨_, _, _, yya (by omega), ?_⟩
     unfold ynA
     by_cases h4 : x.length < 4
     ·rw [if_pos h4] at he ⊢
      refine ⟨fun _ => ?_, fun q => (by cases q)⟩
      rw [<- he]; exact ⟨rfl, rfl⟩
     ·rw [if_neg h4] at he ⊢
      by_cases hn : x.length - 4 < num (x.take 4)
      ·rw [if_pos hn] at he ⊢
       refine ⟨fun _ => ?_, fun q => (by cases q)⟩
       rw [<- he]; exact ⟨rfl, rfl⟩
      ·rw [if_neg hn] at he ⊢
       refine ⟨fun q => (by cases q), fun _ => ⟨by omega, ?_⟩⟩
       have hd : (x.drop (4 + num (x.take 4))).length = x.length - (4 + num (x.take 4)) := ja4
       refine ih _ _ (by show (x.drop _).length <= n; rw [hd]; omega) (by show (x.drop _).length <= _; rw [hd]; omega) (by show _ + (x.drop _).length <= _; rw [hd]; simp; omega) ?_
       rw [<- he]
       show ((spl n (x.drop _)).map _) = _
       cases spl n (x.drop (4 + num (x.take 4))) with
       | none => rfl
       | some l => simp
    ·have c : x = [] := by simpa using c
     rw [if_pos c] at he
     rw [<- he]; simp
 refine key s.length s [] (jaP _) (by omega) (by simp; omega) ?_
 show (yeP s).map _ = _
 cases yeP s <;> simp
end Go.Proofs.Ytkmehmgocelkiaa
end
noncomputable section
namespace Go.Proofs.Ytkmehmgocelkiaa
open Go.AV Go.RowKit
def yco (l : List Str) : Str := l.flatMap fun s => be 4 s.length ++ s
theorem yjc (a b : List Str) : yco (a ++ b) = yco a ++ yco b := by simp [yco]
theorem yi5 {l : List Str} {m : Nat} (h : ∀ s ∈ l, s.length ≤ m) : (yco l).length ≤ l.length * (m + 4) := by
 induction l with
 | nil => simp [yco]
 | cons s l ih =>
   have e : yco (s :: l) = (be 4 s.length ++ s) ++ yco l := rfl
   have h1 := h s (jaz ..)
   have h2 := ih fun t ht => h t (jag _ ht)
   rw [e, jaj, jaj, ygB, jaG, Nat.succ_mul]; omega
theorem yjA (l : List Str) (i : Nat) : (yco (l.take i)).length ≤ (yco l).length := by
 have : yco l = yco (l.take i) ++ yco (l.drop i) := by rw [<- yjc, ja7]
 rw [this, jaj]; omega
theorem ypT {l : List Str} {i : Nat} (h : i < l.length) : l[i].length + 4 ≤ (yco l).length := by
 have h1 := yjA l (i + 1)
 rw [jaE h, yjc, jaj] at h1
 have e : yco [l[i]] = be 4 l[i].length ++ l[i] := by simp [yco]
 rw [e, jaj, ygB] at h1
 omega
theorem ylk (l : List Str) : 4 * l.length ≤ (yco l).length := by
 induction l with
 | nil => simp
 | cons s l ih =>
   have e : yco (s :: l) = (be 4 s.length ++ s) ++ yco l := rfl
   rw [e, jaj, jaj, ygB, jaG]; omega
theorem yvo {l : List Str} (hb : (yco l).length ≤ 100000000) : yd8 l (yco l) := by
 unfold yd8
 intro _
 have hn := ylk l
 refine lp2 (fun (x : Int) (y : List Int) => ∃ i : Nat, x = i /\ i <= l.length /\ y = (yco (l.take i)).map ofB) (fun (x : Int) (_ : List Int) => l.length - x.toNat) ?_ ⟨0, rfl, by omega, by simp [yco]⟩
 rintro X x y ⟨i, rfl, hi, rfl⟩ hX
 have hb2 := yjA l i
 simp only [yjO]
 refine ⟨fun c => ?_, fun c => ?_⟩
 ·have c : (i : Int) < l.length := by simpa using c
  have hlt : i < l.length := by omega
  have hs := ypT hlt
  have w4 : IntKind.i64.wrap ((i : Int) + 1) = ((i + 1 : Nat) : Int) := by rw [wrap64 (by omega) (by omega)]; omega
  have w5 : IntKind.u64.wrap ((l[i].length : Nat) : Int) = ((l[i].length : Nat) : Int) := ygM (by omega) (by omega)
  refine ⟨by omega, c, l[i], by rw [jaH]; exact jad hlt, tl l[i].length 4, ?_, ?_, ?_, ?_, ?_, ?_⟩
  ·rw [w5]; exact yyB (k := 4) (by decide)
  ·rw [jaM]; omega
  ·rw [yvl]; omega
  ·rw [jaj, jaM, yvl]; omega
  ·omega
  ·rw [w4]
   refine hX _ _ ⟨i + 1, rfl, by omega, ?_⟩ (by omega)
   rw [jaE hlt, yjc, jaO, yxi, jai]
   simp [yco]
 ·have c : ¬ (i : Int) < l.length := by simpa using c
  rw [jay (by omega), ytb]
theorem yuc : ∀ {n : Nat} {s : Str} {m : Nat}, s.length ≤ n → n ≤ m → spl m s = spl n s := by
 intro n
 induction n with
 | zero =>
   intro s m hs _
   have : s = [] := jal (by omega)
   subst this
   cases m <;> simp [spl]
 | succ n ih =>
   intro s m hs hm
   cases m with
   | zero => omega
   | succ m =>
     simp only [spl]
     split
     ·rfl
     ·split
      ·rfl
      ·split
       ·rfl
       ·rename_i h1 h2 h3
        rw [ih (s := s.drop (4 + num (s.take 4))) (m := m) (by rw [ja4]; omega) (by omega)]
theorem ypb {t u : Str} (h : t.length < 4294967296) : yeP ((be 4 t.length ++ t) ++ u) = (yeP u).map (t :: ·) := by
 have hb : (be 4 t.length).length = 4 := ygB _ _
 have e1 : ((be 4 t.length ++ t) ++ u).take 4 = be 4 t.length := by rw [jai, List.take_append_of_le_length (by omega), jay (by omega)]
 have e2 : num (be 4 t.length) = t.length := by rw [ytJ]; exact Nat.mod_eq_of_lt h
 have e3 : ((be 4 t.length ++ t) ++ u).drop 4 = t ++ u := by rw [jai, List.drop_append_of_le_length (by omega), jbB (by omega)]; rfl
 have e4 : ((be 4 t.length ++ t) ++ u).drop (4 + t.length) = u := by rw [<- jbu, e3]; simp
 have hl : ((be 4 t.length ++ t) ++ u).length = (t.length + u.length + 3) + 1 := by rw [jaj, jaj, hb]; omega
 have hne : ¬ (be 4 t.length ++ t) ++ u = [] := fun q => by rw [q] at hl; simp at hl
 have es : yeP ((be 4 t.length ++ t) ++ u) = spl ((t.length + u.length + 3) + 1) ((be 4 t.length ++ t) ++ u) := by rw [<- hl]; rfl
 rw [es, spl.eq_2, if_neg hne, if_neg (by rw [hl]; omega), e1, e2, if_neg (by rw [hl]; omega), e4, e3, yuc (n := u.length) (jaP _) (by omega)]
 simp [yeP]
theorem yk9 {l : List Str} (h : ∀ s ∈ l, s.length < 4294967296) : yeP (yco l) = some l := by
 induction l with
 | nil => rfl
 | cons s l ih =>
   have e : yco (s :: l) = (be 4 s.length ++ s) ++ yco l := rfl
   rw [e, ypb (h s (jaz ..)), ih fun t ht => h t (jag _ ht)]; rfl
theorem ynv : ∀ {n : Nat} {s : Str} {l : List Str}, spl n s = some l → yco l = s ∧ ∀ t ∈ l, t.length ≤ s.length := by
 intro n
 induction n with
 | zero =>
   intro s l h
   simp only [spl] at h
   split at h
   ·rename_i e; cases h; subst e; exact ⟨rfl, fun t ht => by cases ht⟩
   ·cases h
 | succ n ih =>
   intro s l h
   simp only [spl] at h
   split at h
   ·rename_i e; cases h; subst e; exact ⟨rfl, fun t ht => by cases ht⟩
   ·split at h
    ·cases h
    ·split at h
     ·cases h
     ·rename_i h1 h2 h3
      rw [jac] at h
      obtain ⟨l', hl', rfl⟩ := h
      obtain ⟨i1, i2⟩ := ih hl'
      have hk : (s.take 4).length = 4 := by rw [jaR]; omega
      have ht : ((s.drop 4).take (num (s.take 4))).length = num (s.take 4) := by rw [jaR, ja4]; omega
      refine ⟨?_, ?_⟩
      ·show (be 4 ((s.drop 4).take (num (s.take 4))).length ++ (s.drop 4).take (num (s.take 4))) ++ yco l' = s
       rw [ht, i1]
       have := yxJ (s.take 4)
       rw [hk] at this
       rw [this, <- jbu, jai, ja7, ja7]
      ·intro t ht'
       rcases jaq.1 ht' with rfl | hm
       ·rw [ht]; omega
       ·have := i2 t hm
        rw [ja4] at this; omega
theorem yjq {s : Str} {l : List Str} (h : yeP s = some l) : l.length ≤ s.length := by
 have h1 := (ynv h).1
 rw [<- h1]
 clear h h1
 induction l with
 | nil => simp
 | cons t l ih =>
   have e : yco (t :: l) = (be 4 t.length ++ t) ++ yco l := rfl
   rw [e, jaj, jaj, ygB, jaG]; omega
end Go.Proofs.Ytkmehmgocelkiaa
end
noncomputable section
namespace Go.Proofs.Ytkmehmgocelkiaa
open Go.AV Go.RowKit
def b1 (n : Int) : Str := [UInt8.ofNat n.toNat]
theorem yoY {n : Int} (h : 0 ≤ n) (k : n < 256) : ([IntKind.u8.wrap n] : List Int).map toB = b1 n := by
 rw [yva h k]; rfl
def yfG (v : V) : Str := if v.Kind = 1 then b1 1 ++ b1 v.N else if v.Kind = 2 then b1 2 ++ sInt v.N else if v.Kind = 3 then b1 3 ++ v.S else b1 v.Kind
theorem yn2 {v : V} (h : good v) : 0 ≤ v.Kind ∧ v.Kind ≤ 3 := by
 unfold good at h; rcases h with h | h | h | h <;> omega
theorem pTxt {v : V} (h : good v) : yfP v (yfG v) := by
 have hk := yn2 h
 have hN := yxq h
 have hS := ytf h
 rw [yfP]
 refine ⟨fun c => ?_, fun c => ⟨fun c2 => ?_, fun c2 => ⟨fun c3 => ?_, fun c3 => ?_⟩⟩⟩
 ·have c : v.Kind = 1 := by simpa using c
  have hn : v.N = 0 ∨ v.N = 1 := by unfold good at h; rcases h with h | h | h | h <;> omega
  refine ⟨by simp, ?_⟩
  rw [yoY (by omega) (by omega), yoY (by omega) (by omega), yfG, if_pos c, c]
 ·have c : ¬ v.Kind = 1 := by simpa using c
  have c2 : v.Kind = 2 := by simpa using c2
  refine ⟨_, pInt hN, by rw [yix]; simp, ?_⟩
  rw [yoY (by omega) (by omega), yfG, if_neg c, if_pos c2, c2]
 ·have c : ¬ v.Kind = 1 := by simpa using c
  have c2 : ¬ v.Kind = 2 := by simpa using c2
  have c3 : v.Kind = 3 := by simpa using c3
  refine ⟨by simp; omega, ?_⟩
  rw [yoY (by omega) (by omega), yfG, if_neg c, if_neg c2, if_pos c3, c3]
 ·have c : ¬ v.Kind = 1 := by simpa using c
  have c2 : ¬ v.Kind = 2 := by simpa using c2
  have c3 : ¬ v.Kind = 3 := by simpa using c3
  rw [yoY (by omega) (by omega), yfG, if_neg c, if_neg c2, if_neg c3]
theorem yoK {v : V} (h : good v) : (yfG v).length ≤ 65 := by
 have hS := ytf h
 unfold yfG
 split
 ·simp [b1]
 ·split
  ·rw [jaj, yix]; simp [b1]
  ·split
   ·rw [jaj]; simp [b1]; omega
   ·simp [b1]
def sRd1 (c : UInt8) (r : Str) : V × Bool := if c.toNat = 0 then (⟨0, 0, []⟩, r == []) else if c.toNat = 1 then (if r.length = 1 then (⟨1, bAt r 0, []⟩, yrs ⟨1, bAt r 0, []⟩) else (⟨1, 0, []⟩, false)) else
   if c.toNat = 2 then (if r.length = 8 then (⟨2, (num r : Int) - 9223372036854775808, []⟩, true) else (⟨2, 0, []⟩, false)) else (⟨c.toNat, 0, r⟩, yrs ⟨c.toNat, 0, r⟩)
def yiq : Str → V × Bool
 | [] => (D0, false)
 | c :: r => sRd1 c r
theorem ypo (c : UInt8) (r : Str) : yiq (c :: r) = sRd1 c r := rfl
theorem yzJ {s : Str} (h : s.length ≤ 1000000000) : yeU s (yiq s).1 (yiq s).2 := by
 apply yrp
 cases s with
 | nil => exact ⟨fun _ => ⟨rfl, rfl⟩, fun q => (by simp at q)⟩
 | cons c r =>
   refine ⟨fun q => (by simp at q), fun _ => ⟨⟨by omega, by rw [jaG]; omega, by omega⟩, ⟨by omega, by rw [jaG]; omega⟩, ?_⟩⟩
   have e0 : bAt (c :: r) 0 = (c.toNat : Int) := rfl
   have hc : c.toNat < 256 := c.toNat_lt
   have w : IntKind.i64.wrap (c.toNat : Int) = (c.toNat : Int) := wrap64 (by omega) (by omega)
   have er : (((c :: r).drop (1 : Int).toNat).take (((c :: r).length : Int).toNat - (1 : Int).toNat)) = r := by
    rw [jaH]
    show r.take ((c :: r).length - 1) = r
    exact jay (by simp)
   rw [er]
   simp only [ycP, e0, w]
   rw [ypo]
   unfold sRd1
   refine ⟨fun k => ?_, fun k => ⟨fun k1 => ⟨fun l => ?_, fun l => ⟨?_, ?_⟩⟩, fun k1 => ⟨fun k2 => ⟨_, _, ywo r, fun l => ?_, fun l => ?_⟩, fun k2 => ?_⟩⟩⟩
   ·have k : c.toNat = 0 := by simpa using k
    rw [if_pos k, k]; exact ⟨rfl, rfl⟩
   ·have k : ¬ c.toNat = 0 := by simpa using k
    have k1 : c.toNat = 1 := by have : (c.toNat : Int) = 1 := by simpa using k1
                                omega
    have l : ¬ r.length = 1 := by have : ¬ (r.length : Int) = 1 := by simpa using l
                                  omega
    rw [if_neg k, if_pos k1, if_neg l, k1]; exact ⟨rfl, rfl⟩
   ·have l : r.length = 1 := by have : (r.length : Int) = 1 := by simpa using l
                                omega
    omega
   ·have k : ¬ c.toNat = 0 := by simpa using k
    have k1 : c.toNat = 1 := by have : (c.toNat : Int) = 1 := by simpa using k1
                                omega
    have l : r.length = 1 := by have : (r.length : Int) = 1 := by simpa using l
                                omega
    have hb : IntKind.i64.wrap (bAt r 0) = bAt r 0 := by
     have := ymX (s := r) (i := 0) (by omega)
     have h2 : r[0].toNat < 256 := r[0].toNat_lt
     show IntKind.i64.wrap (bAt r ((0 : Nat) : Int)) = bAt r ((0 : Nat) : Int)
     rw [this]; exact wrap64 (by omega) (by omega)
    rw [if_neg k, if_pos k1, if_pos l, k1, hb]
    exact ⟨_, ys1 _, rfl, rfl⟩
   ·have k : ¬ c.toNat = 0 := by simpa using k
    have k1 : ¬ c.toNat = 1 := by have : ¬ (c.toNat : Int) = 1 := by simpa using k1
                                  omega
    have k2 : c.toNat = 2 := by have : (c.toNat : Int) = 2 := by simpa using k2
                                omega
    have l : ¬ r.length = 8 := by simpa using l
    rw [if_neg k, if_neg k1, if_pos k2, if_neg l, k2]; exact ⟨rfl, rfl⟩
   ·have k : ¬ c.toNat = 0 := by simpa using k
    have k1 : ¬ c.toNat = 1 := by have : ¬ (c.toNat : Int) = 1 := by simpa using k1
                                  omega
    have k2 : c.toNat = 2 := by have : (c.toNat : Int) = 2 := by simpa using k2
                                omega
    have l : r.length = 8 := by simpa using l
    rw [if_neg k, if_neg k1, if_pos k2, if_pos l, if_pos l, k2]
    refine ⟨_, ys1 _, rfl, ?_⟩
    simp [yrs]
   ·have k : ¬ c.toNat = 0 := by simpa using k
    have k1 : ¬ c.toNat = 1 := by have : ¬ (c.toNat : Int) = 1 := by simpa using k1
                                  omega
    have k2 : ¬ c.toNat = 2 := by have : ¬ (c.toNat : Int) = 2 := by simpa using k2
                                  omega
    rw [if_neg k, if_neg k1, if_neg k2]
    exact ⟨_, ys1 _, rfl, rfl⟩
theorem yol {v : V} (h : good v) : yiq (yfG v) = (v, true) := by
 have hN := yxq h
 unfold good at h
 obtain ⟨k, n, s⟩ := v
 simp only at h hN
 rcases h with ⟨rfl, rfl, rfl⟩ | ⟨rfl, h, rfl⟩ | ⟨rfl, h, rfl⟩ | ⟨rfl, rfl, h⟩
 ·rfl
 ·rcases h with rfl | rfl <;> rfl
 ·show yiq (UInt8.ofNat 2 :: sInt n) = _
  rw [ypo]
  unfold sRd1
  have k : (UInt8.ofNat 2).toNat = 2 := rfl
  rw [k, if_neg (by omega), if_neg (by omega), if_pos rfl, if_pos (yix n)]
  unfold sInt
  unfold Rg at h
  rw [ytJ, Nat.mod_eq_of_lt (by omega)]
  congr 2; omega
 ·show yiq (UInt8.ofNat 3 :: s) = _
  rw [ypo]
  unfold sRd1
  have k : (UInt8.ofNat 3).toNat = 3 := rfl
  rw [k, if_neg (by omega), if_neg (by omega), if_neg (by omega)]
  simp [yrs]; omega
end Go.Proofs.Ytkmehmgocelkiaa
end
noncomputable section
namespace Go.Proofs.Ytkmehmgocelkiaa
open Go.AV Go.RowKit
def sKey (l : List V) : Str := yco (l.map yfG)
theorem w1 {i : Nat} (h : i < 1000000000) : IntKind.i64.wrap ((i : Int) + 1) = ((i + 1 : Nat) : Int) := by rw [wrap64 (by omega) (by omega)]; omega
theorem gAt {α : Type} {l : List α} {i : Nat} (h : i < l.length) : l[((i : Nat) : Int).toNat]? = some l[i] := by rw [jaH]; exact jad h
theorem yjd {l : List V} (h : ∀ v ∈ l, good v) : ∀ s ∈ l.map yfG, s.length ≤ 65 := by
 intro s hs
 obtain ⟨v, hv, rfl⟩ := jaf.1 hs
 exact yoK (h v hv)
theorem yyC {l : List V} (hl : l.length ≤ 1000000) (h : ∀ v ∈ l, good v) : yci l (sKey l) := by
 unfold yci
 intro _
 refine lp2 (fun (x : Int) (y : List Str) => ∃ i : Nat, x = i /\ i <= l.length /\ y = (l.take i).map yfG) (fun (x : Int) (_ : List Str) => l.length - x.toNat) ?_ ⟨0, rfl, by omega, by simp⟩
 rintro X x y ⟨i, rfl, hi, rfl⟩ hX
 simp only [yl1]
 refine ⟨fun c => ?_, fun c => ?_⟩
 ·have c : (i : Int) < l.length := by simpa using c
  have hlt : i < l.length := by omega
  refine ⟨by omega, c, _, gAt hlt, _, pTxt (h _ (jbs hlt)), by simp; omega, ?_⟩
  rw [w1 (by omega)]
  refine hX _ _ ⟨i + 1, rfl, by omega, ?_⟩ (by omega)
  rw [jaE hlt, jaO]; rfl
 ·have c : ¬ (i : Int) < l.length := by simpa using c
  rw [jay (by omega)]
  exact ⟨_, yvo (by have := yi5 (yjd h); rw [jaM] at this; have h2 : l.length * (65 + 4) <= 1000000 * (65 + 4) := jbi _ hl; omega), rfl⟩
theorem pKey {l : List V} (hl : l.length <= 1000) (h : ∀ v ∈ l, good v) : yci l (sKey l) := yyC (by omega) h
def sGet (s : Str) : List V × Int := match yeP s with
 | none => ([], 2)
 | some l => if l.all (fun t => (yiq t).2) then (l.map (fun t => (yiq t).1), 0) else ([], 4)
theorem pGet {s : Str} (h : s.length ≤ 100000000) : yhn s (sGet s).1 (sGet s).2 := by
 unfold yhn
 refine ⟨_, _, yvB (by omega), ?_⟩
 unfold sGet
 cases hs : yeP s with
 | none => exact ⟨fun _ => ⟨rfl, rfl⟩, fun q => (by simp at q)⟩
 | some l =>
   refine ⟨fun q => (by simp at q), fun _ _ => ?_⟩
   have hlen := yjq hs
   have hb := (ynv hs).2
   show ∀ X1 : Int -> List V -> Prop, (∀ x3 x4, yjh l _ _ X1 x3 x4 -> X1 x3 x4) -> X1 0 []
   refine lp2 (fun (x : Int) (y : List V) => ∃ i : Nat, x = i /\ i <= l.length /\ y = (l.take i).map (fun t => (yiq t).1) /\ ((l.take i).all (fun t => (yiq t).2)) = true) (fun (x : Int) (_ : List V) => l.length - x.toNat) ?_ ⟨0, rfl, by omega, by simp, by simp⟩
   rintro X x y ⟨i, rfl, hi, rfl, ha⟩ hX
   simp only [yjh]
   refine ⟨fun c => ?_, fun c => ?_⟩
   ·have c : (i : Int) < l.length := by simpa using c
    have hlt : i < l.length := by omega
    refine ⟨by omega, c, _, gAt hlt, _, _, yzJ (by have := hb l[i] (jbs hlt); omega), fun d => ?_, fun d => ⟨by simp; omega, ?_⟩⟩
    ·have d : (yiq l[i]).2 = false := by simpa using d
     have : ¬ (l.all (fun t => (yiq t).2)) = true := fun q => by
      have := jaD.1 q l[i] (jbs hlt)
      rw [d] at this; cases this
     rw [if_neg this]; exact ⟨rfl, rfl⟩
    ·have d : (yiq l[i]).2 = true := by simpa using d
     rw [w1 (by omega)]
     refine hX _ _ ⟨i + 1, rfl, by omega, ?_, ?_⟩ (by omega)
     ·rw [jaE hlt, jaO]; rfl
     ·rw [jaE hlt, List.all_append, ha]; simp [d]
   ·have c : ¬ (i : Int) < l.length := by simpa using c
    rw [jay (by omega)] at ha ⊢
    rw [if_pos ha]; exact ⟨rfl, rfl⟩
theorem ynj {l : List V} (h : ∀ v ∈ l, good v) : sGet (sKey l) = (l, 0) := by
 unfold sGet sKey
 rw [yk9 fun s hs => by have := yjd h s hs; omega]
 simp only
 have ha : ((l.map yfG).all fun t => (yiq t).2) = true := by
  rw [jaD]
  intro t ht
  obtain ⟨v, hv, rfl⟩ := jaf.1 ht
  rw [yol (h v hv)]
 rw [if_pos ha, jbq]
 congr 1
 conv => rhs; rw [<- List.map_id l]
 refine jaS fun v hv => ?_
 show (yiq (yfG v)).1 = v
 rw [yol (h v hv)]
theorem yvJ {l k : List V} (hl : ∀ v ∈ l, good v) (hk : ∀ v ∈ k, good v) (h : sKey l = sKey k) : l = k := by
 have h1 := ynj hl
 have h2 := ynj hk
 rw [h, h2] at h1
 exact (congrArg Prod.fst h1).symm
end Go.Proofs.Ytkmehmgocelkiaa
end
noncomputable section
namespace Go.Proofs.Ytkmehmgocelkiaa
open Go.AV Go.RowKit
theorem yor {n : Nat} : ([IntKind.u8.wrap ((n : Int).tmod 256)] : List Int).map toB = [UInt8.ofNat n] := by
 have h : ((n : Int).tmod 256) = ((n % 256 : Nat) : Int) := by
  rw [Int.tmod_eq_emod_of_nonneg (by omega)]; omega
 rw [h, yva (by omega) (by omega)]
 show [UInt8.ofNat (n % 256 : Nat)] = _
 congr 1
 exact UInt8.toNat_inj.1 (by rw [UInt8.toNat_ofNat', UInt8.toNat_ofNat']; show n % 256 % 256 = n % 256; omega)
theorem yzH {n : Int} (h : Rg n) : yd0 n (sInt n) := by
 unfold Rg at h
 unfold yd0
 have hu : IntKind.u64.wrap (IntKind.u64.wrap n + 9223372036854775808) = (((n + 9223372036854775808).toNat : Nat) : Int) := by
  rw [yje, yje]; omega
 rw [hu]
 unfold sInt
 have hU : (n + 9223372036854775808).toNat < 18446744073709551616 := by omega
 generalize (n + 9223372036854775808).toNat = u at *
 refine lp3 (fun (x : Int) (y : Str) (z : Int) => ∃ i : Nat, z = i /\ i <= 8 /\ y = be i u /\ x = ((u / 256 ^ i : Nat) : Int)) (fun (_ : Int) (_ : Str) (z : Int) => 8 - z.toNat) ?_ ⟨0, rfl, by omega, rfl, by simp⟩
 rintro X x y z ⟨i, rfl, hi, rfl, rfl⟩ hX
 simp only [yjW]
 refine ⟨fun c => ?_, fun c => ?_⟩
 ·have c : (i : Int) < 8 := of_decide_eq_true c
  have hle : u / 256 ^ i <= u := Nat.div_le_self _ _
  have hd : IntKind.u64.wrap (((u / 256 ^ i : Nat) : Int).tdiv 256) = ((u / 256 ^ (i + 1) : Nat) : Int) := by
   have : (((u / 256 ^ i : Nat) : Int).tdiv 256) = ((u / 256 ^ i / 256 : Nat) : Int) := by
    rw [Int.tdiv_eq_ediv_of_nonneg (Int.natCast_nonneg _)]; rfl
   rw [this, Nat.div_div_eq_div_mul, <- Nat.pow_succ]
   have hq : u / 256 ^ (i + 1) <= u := Nat.div_le_self _ _
   show IntKind.u64.wrap ((u / 256 ^ (i + 1) : Nat) : Int) = _
   generalize u / 256 ^ (i + 1) = q at *
   exact ygM (by omega) (by omega)
  rw [yor, hd, w1 (by omega)]
  refine ⟨by rw [ygB]; simp; omega, hX _ _ _ ⟨i + 1, rfl, by omega, rfl, rfl⟩ (by omega)⟩
 ·have c : ¬ (i : Int) < 8 := of_decide_eq_false c
  have : i = 8 := by omega
  rw [this]
theorem ytm {l : List Str} (hb : (yco l).length ≤ 100000000) : yck l (yco l) := by
 unfold yck
 have hn := ylk l
 refine lp2 (fun (x : Str) (y : Int) => ∃ i : Nat, y = i /\ i <= l.length /\ x = yco (l.take i)) (fun (_ : Str) (y : Int) => l.length - y.toNat) ?_ ⟨0, rfl, by omega, by simp [yco]⟩
 rintro X x y ⟨i, rfl, hi, rfl⟩ hX
 have hb2 := yjA l i
 simp only [yi2]
 intro _
 refine ⟨fun c => ?_, fun c => ?_⟩
 ·have c : (i : Int) < l.length := of_decide_eq_true c
  have hlt : i < l.length := by omega
  have hs := ypT hlt
  have dv : ∀ k : Nat, 0 < k → IntKind.i64.wrap ((l[i].length : Int).tdiv (k : Int)) = ((l[i].length / k : Nat) : Int) := by
   intro k hk
   have : ((l[i].length : Int).tdiv (k : Int)) = ((l[i].length / k : Nat) : Int) := by
    rw [Int.tdiv_eq_ediv_of_nonneg (Int.natCast_nonneg _)]; rfl
   rw [this]
   have hq : l[i].length / k <= l[i].length := Nat.div_le_self _ _
   generalize l[i].length / k = q at *
   exact wrap64 (by omega) (by omega)
  have bytes : ([IntKind.u8.wrap ((IntKind.i64.wrap ((l[i].length : Int).tdiv (16777216 : Int))).tmod (256 : Int)), IntKind.u8.wrap ((IntKind.i64.wrap ((l[i].length : Int).tdiv (65536 : Int))).tmod (256 : Int)), IntKind.u8.wrap ((IntKind.i64.wrap ((l[i].length : Int).tdiv (256 : Int))).tmod (256 : Int)), IntKind.u8.wrap ((l[i].length : Int).tmod (256 : Int))] : List Int).map toB = be 4 l[i].length := by
   have d1 := dv 16777216 (by omega)
   have d2 := dv 65536 (by omega)
   have d3 := dv 256 (by omega)
   rw [show ((16777216 : Nat) : Int) = 16777216 from rfl] at d1
   rw [show ((65536 : Nat) : Int) = 65536 from rfl] at d2
   rw [show ((256 : Nat) : Int) = 256 from rfl] at d3
   rw [d1, d2, d3]
   have m1 := yor (n := l[i].length / 16777216)
   have m2 := yor (n := l[i].length / 65536)
   have m3 := yor (n := l[i].length / 256)
   have m4 := yor (n := l[i].length)
   simp only [jav, jbK, ja6, and_true] at m1 m2 m3 m4 ⊢
   rw [m1, m2, m3, m4]
   show _ = [UInt8.ofNat (l[i].length / 256 ^ 3), UInt8.ofNat (l[i].length / 256 ^ 2), UInt8.ofNat (l[i].length / 256 ^ 1), UInt8.ofNat (l[i].length / 256 ^ 0)]
   simp
  refine ⟨by omega, c, _, gAt hlt, by omega, c, _, gAt hlt, ?_, ?_, ?_⟩
  ·rw [bytes, ygB]; omega
  ·rw [bytes, jaj, ygB]; omega
  ·rw [bytes, w1 (by omega)]
   refine hX _ _ ⟨i + 1, rfl, by omega, ?_⟩ (by omega)
   rw [jaE hlt, yjc]; simp [yco]
 ·have c : ¬ (i : Int) < l.length := of_decide_eq_false c
  rw [jay (by omega)]
theorem yzb {l : List Str} (hl : l.length ≤ 1000) (h : ∀ s ∈ l, s.length ≤ 10000) : yck l (yco l) := by
 have := yi5 h
 have h2 : l.length * (10000 + 4) <= 1000 * (10000 + 4) := jbi _ hl
 exact ytm (by omega)
theorem yyP {l : List V} (hl : l.length ≤ 1000) (h : ∀ v ∈ l, good v) : ybx (l.map v6) (sKey l) := by
 apply ypd
 refine lp2 (fun (x : Int) (y : List Str) => ∃ i : Nat, x = i /\ i <= l.length /\ y = (l.take i).map yfG) (fun (x : Int) (_ : List Str) => l.length - x.toNat) ?_ ⟨0, rfl, by omega, by simp⟩
 rintro X x y ⟨i, rfl, hi, rfl⟩ hX
 simp only [yeS]
 intro _
 have hll : (l.map v6).length = l.length := jaM ..
 refine ⟨fun c => ?_, fun c => ?_⟩
 ·have c0 : (i : Int) < (l.map v6).length := of_decide_eq_true c
  have c : (i : Int) < l.length := by rw [hll] at c0; exact c0
  have hlt : i < l.length := by omega
  have hlt' : i < (l.map v6).length := by omega
  have eg : (l.map v6)[((i : Nat) : Int).toNat]? = some (v6 l[i]) := by
   rw [gAt hlt']; simp
  have hg := h _ (jbs hlt)
  have hk := yn2 hg
  have hN := yxq hg
  have hS := ytf hg
  have ht := yoK hg
  have fin : ∀ s : Str, s.length ≤ 100 → s ++ l[i].S = yfG l[i] → ycW X (l.map v6) i s ((l.take i).map yfG) := by
   intro s hs e
   refine ⟨by omega, c0, _, eg, by show s.length + l[i].S.length <= _; omega, by simp; omega, ?_⟩
   have e' : s ++ (v6 l[i]).S = yfG l[i] := e
   rw [w1 (by omega), e']
   refine hX _ _ ⟨i + 1, rfl, by omega, ?_⟩ (by omega)
   rw [jaE hlt, jaO]; rfl
  have kk : (v6 l[i]).Kind = l[i].Kind := rfl
  have nn : (v6 l[i]).N = l[i].N := rfl
  simp only [ycV]
  refine ⟨by omega, c0, _, eg, by omega, c0, _, eg, ?_⟩
  rw [kk, yoY (by omega) (by omega)]
  refine ⟨fun k => ⟨by omega, c0, _, eg, by simp [b1], by omega, c0, _, eg, ?_⟩, fun k => ⟨by omega, c0, _, eg, ?_⟩⟩
  ·have k : l[i].Kind = 1 := by simpa using k
   rw [kk]
   refine ⟨fun q => (by rw [k] at q; cases q), fun _ => ?_⟩
   rw [nn]
   have hn : l[i].N = 0 ∨ l[i].N = 1 := by unfold good at hg; rcases hg with h | h | h | h <;> omega
   have hs : l[i].S = [] := by
    unfold good at hg
    rcases hg with h | h | h | h
    ·exact h.2.2
    ·exact h.2.2
    ·exact h.2.2
    ·omega
   rw [yoY (by omega) (by omega)]
   refine fin _ (by simp [b1]) ?_
   rw [yfG, if_pos k, k, hs]; simp
  ·have k : ¬ l[i].Kind = 1 := by simpa using k
   rw [kk]
   refine ⟨fun q => ?_, fun q => ?_⟩
   ·have q : l[i].Kind = 2 := by simpa using q
    have hs : l[i].S = [] := by
     unfold good at hg
     rcases hg with h | h | h | h
     ·exact h.2.2
     ·exact h.2.2
     ·exact h.2.2
     ·omega
    refine ⟨by omega, c0, _, eg, _, yzH hN, by rw [yix]; simp [b1], fin _ ?_ ?_⟩
    ·rw [jaj]
     have : (sInt (v6 l[i]).N).length = 8 := yix _
     rw [this]; simp [b1]
    ·rw [yfG, if_neg k, if_pos q, q, hs]; simp; rfl
   ·have q : ¬ l[i].Kind = 2 := by simpa using q
    refine fin _ (by simp [b1]) ?_
    rw [yfG, if_neg k, if_neg q]
    split
    ·rename_i k3; rw [k3]
    ·have hs : l[i].S = [] := by
      unfold good at hg
      rcases hg with h | h | h | h
      ·exact h.2.2
      ·exact h.2.2
      ·exact h.2.2
      ·omega
     rw [hs]; simp
 ·have c : ¬ (i : Int) < (l.map v6).length := of_decide_eq_false c
  rw [hll] at c
  rw [jay (by omega)]
  exact ⟨_, yzb (by simpa using hl) (fun s hs => by have := yjd h s hs; omega), rfl⟩
end Go.Proofs.Ytkmehmgocelkiaa
end
noncomputable section
namespace Go.Proofs.Ytkmehmgocelkiaa
open Go.AV Go.RowKit
section
variable {α : Type}
def rins (lt : α → α → Bool) (x : α) : List α → List α
 | [] => [x]
 | y :: r => if lt x y then y :: rins lt x r else x :: y :: r
def ins (lt : α -> α -> Bool) (x : α) (l : List α) : List α := (rins lt x l.reverse).reverse
def srt (lt : α → α → Bool) : List α → List α → List α
 | out, [] => out
 | out, x :: r => srt lt (ins lt x out) r
structure Ord (lt : α → α → Bool) : Prop where
 irr : ∀ a, lt a a = false
 tr : ∀ a b c, lt a b = true -> lt b c = true -> lt a c = true
 tot : ∀ a b, lt a b = true ∨ a = b ∨ lt b a = true
variable {lt : α -> α -> Bool}
theorem Ord.le_trans (o : Ord lt) {a b c : α} (h : lt b a = false) (k : lt c b = false) : lt c a = false := by
 cases hc : lt c a with
 | false => rfl
 | true =>
   rcases o.tot a b with e | e | e
   ·have := o.tr _ _ _ hc e; rw [k] at this; cases this
   ·subst e; rw [k] at hc; cases hc
   ·rw [h] at e; cases e
theorem Ord.anti (o : Ord lt) {a b : α} (h : lt b a = false) (k : lt a b = false) : a = b := by
 rcases o.tot a b with e | e | e
 ·rw [k] at e; cases e
 ·exact e
 ·rw [h] at e; cases e
theorem Ord.asym (o : Ord lt) {a b : α} (h : lt a b = true) : lt b a = false := by
 cases hc : lt b a with
 | false => rfl
 | true => have := o.tr _ _ _ h hc; rw [o.irr] at this; cases this
def Sd (lt : α -> α -> Bool) (l : List α) : Prop := l.Pairwise fun a b => lt b a = false
theorem Sd.app {l m : List α} : Sd lt (l ++ m) ↔ Sd lt l /\ Sd lt m /\ ∀ a ∈ l, ∀ b ∈ m, lt b a = false := List.pairwise_append
theorem Sd.uniq (o : Ord lt) {l m : List α} (h : Sd lt l) (k : Sd lt m) (p : l.Perm m) : l = m :=
 List.Perm.eq_of_pairwise (fun _ _ _ _ h k => o.anti h k) h k p
theorem yle (x : α) : ∀ l : List α, (rins lt x l).Perm (x :: l)
 | [] => .refl _
 | y :: r => by
   unfold rins
   split
   ·exact ((yle x r).cons y).trans (.swap ..)
   ·exact .refl _
theorem yuM (x : α) (l : List α) : (ins lt x l).Perm (x :: l) := by
 unfold ins
 refine (List.reverse_perm _).trans ((yle x _).trans ?_)
 exact (List.reverse_perm l).cons x
theorem yp3 : ∀ (l out : List α), (srt lt out l).Perm (out ++ l)
 | [], out => by simp [srt]
 | x :: r, out => by
   unfold srt
   refine (yp3 r _).trans (((yuM x out).append_right r).trans ?_)
   exact List.perm_middle.symm
theorem ysp (o : Ord lt) (x : α) : ∀ {l : List α}, (l.Pairwise fun a b => lt a b = false) → (rins lt x l).Pairwise fun a b => lt a b = false
 | [], _ => by simp [rins]
 | y :: r, h => by
   obtain ⟨h1, h2⟩ := jbC.1 h
   unfold rins
   split
   ·rename_i c
    refine jbC.2 ⟨fun z hz => ?_, ysp o x h2⟩
    rcases jaq.1 ((yle x r).subset hz) with rfl | hz
    ·exact o.asym c
    ·exact h1 z hz
   ·rename_i c
    have c : lt x y = false := by simpa using c
    refine jbC.2 ⟨fun z hz => ?_, h⟩
    rcases jaq.1 hz with rfl | hz
    ·exact c
    ·exact o.le_trans (h1 z hz) c
theorem yyf (o : Ord lt) (x : α) {l : List α} (h : Sd lt l) : Sd lt (ins lt x l) := by
 unfold ins Sd
 rw [List.pairwise_reverse]
 exact ysp o x (List.pairwise_reverse.2 h)
theorem yvz (o : Ord lt) : ∀ (l : List α) {out : List α}, Sd lt out → Sd lt (srt lt out l)
 | [], _, h => h
 | x :: r, _, h => by unfold srt; exact yvz o r (yyf o x h)
theorem ygc (o : Ord lt) (l : List α) : Sd lt (srt lt [] l) := yvz o l List.Pairwise.nil
theorem ybQ (l : List α) : (srt lt [] l).Perm l := yp3 l []
theorem yqi (o : Ord lt) {l m : List α} (h : Sd lt m) (p : m.Perm l) : srt lt [] l = m :=
 (ygc o l).uniq o h ((ybQ l).trans p.symm)
theorem yrz (o : Ord lt) {l m : List α} (p : m.Perm l) : srt lt [] l = srt lt [] m :=
 yqi o (ygc o m) ((ybQ m).trans p)
theorem ycU (lt : α -> α -> Bool) (l : List α) : (srt lt [] l).length = l.length := (ybQ l).length_eq
theorem Sd.last {l : List α} {p x : α} (o : Ord lt) (h : Sd lt (l ++ [p])) (k : lt x p = false) : ∀ a ∈ l ++ [p], lt x a = false := by
 intro a ha
 rcases jar.1 ha with ha | ha
 ·exact o.le_trans ((Sd.app.1 h).2.2 a ha p (by simp)) k
 ·rw [jaJ.1 ha]; exact k
theorem Sd.head {l : List α} {p x : α} (o : Ord lt) (h : Sd lt (p :: l)) (k : lt p x = false) : ∀ a ∈ p :: l, lt a x = false := by
 intro a ha
 rcases jaq.1 ha with rfl | ha
 ·exact k
 ·exact o.le_trans k ((jbC.1 h).1 a ha)
theorem yyF (o : Ord lt) {A B A1 A2 B1 B2 : List α} (hA : Sd lt A) (hB : Sd lt B) (eA : A = A1 ++ A2) (eB : B = B1 ++ B2)
  (h1 : ∀ x y, A1.getLast? = some x -> B2.head? = some y -> lt y x = false) (h2 : ∀ x y, B1.getLast? = some x -> A2.head? = some y -> lt y x = false) :
  srt lt [] (A ++ B) = srt lt [] (A1 ++ B1) ++ srt lt [] (A2 ++ B2) := by
 subst eA; subst eB
 obtain ⟨a1, a2, a3⟩ := Sd.app.1 hA
 obtain ⟨b1, b2, b3⟩ := Sd.app.1 hB
 have cross : ∀ {U W : List α}, Sd lt U → Sd lt W → (∀ x y, U.getLast? = some x → W.head? = some y → lt y x = false) → ∀ u ∈ U, ∀ w ∈ W, lt w u = false := by
  intro U W hU hW h u hu w hw
  cases W with
  | nil => cases hw
  | cons y W =>
    have hne : U ≠ [] := fun e => by subst e; cases hu
    have hx : U.getLast? = some (U.getLast hne) := List.getLast?_eq_some_getLast hne
    have eU : U = U.dropLast ++ [U.getLast hne] := (List.dropLast_concat_getLast hne).symm
    have k := h _ y hx rfl
    have := Sd.last o (l := U.dropLast) (p := U.getLast hne) (x := y) (by rw [<- eU]; exact hU) k u (by rw [<- eU]; exact hu)
    exact Sd.head o hW this w hw
 refine yqi o ?_ ?_
 ·refine Sd.app.2 ⟨ygc o _, ygc o _, fun u hu w hw => ?_⟩
  have hu := (ybQ _).subset hu
  have hw := (ybQ _).subset hw
  rcases jar.1 hu with hu | hu <;> rcases jar.1 hw with hw | hw
  ·exact a3 u hu w hw
  ·exact cross a1 b2 h1 u hu w hw
  ·exact cross b1 a2 h2 u hu w hw
  ·exact b3 u hu w hw
 ·refine (((ybQ _).append_right _).trans ((ybQ _).append_left _)).trans ?_
  simp only [jai]
  refine List.Perm.append_left A1 ?_
  rw [<- jai, <- jai]
  exact List.perm_append_comm.append_right B2
theorem ytH (o : Ord lt) {l : List α} (h : Sd lt l) : srt lt [] l = l := yqi o h (.refl _)
theorem ysV (o : Ord lt) {x : α} {B1 B2 : List α} (h : Sd lt (B1 ++ B2)) (h1 : ∀ b ∈ B1, lt x b = false) (h2 : ∀ b ∈ B2, lt b x = false) : srt lt [] (x :: (B1 ++ B2)) = B1 ++ x :: B2 := by
 obtain ⟨b1, b2, b3⟩ := Sd.app.1 h
 refine yqi o ?_ List.perm_middle
 exact Sd.app.2 ⟨b1, jbC.2 ⟨h2, b2⟩, fun a ha b hb => by
  rcases jaq.1 hb with rfl | hb
  ·exact h1 a ha
  ·exact b3 a ha b hb⟩
end
theorem yhB {α : Type} : ∀ l : List α, l = [] ∨ ∃ l' b, l = l' ++ [b]
 | [] => .inl rfl
 | a :: l => .inr (match yhB l with
   | .inl e => ⟨[], a, by rw [e]; rfl⟩
   | .inr ⟨l', b, e⟩ => ⟨a :: l', b, by rw [e]; rfl⟩)
def rc : List V → List V → Int
 | [], [] => 0
 | [], _ :: _ => -1
 | _ :: _, [] => 1
 | a :: r, b :: q => if sCmp a b ≠ 0 then sCmp a b else rc r q
theorem ysO (b : List V) : rc [] b = if 0 < b.length then -1 else 0 := by cases b <;> simp [rc]
theorem ytr (a b : V) (r q : List V) : rc (a :: r) (b :: q) = if sCmp a b ≠ 0 then sCmp a b else rc r q := rfl
theorem yvS (a : V) (r : List V) : rc (a :: r) [] = 1 := rfl
theorem yfq {α : Type} {l : List α} {i : Nat} {y : α} (h : l[i]? = some y) : l.drop i = y :: l.drop (i + 1) := by
 obtain ⟨hi, rfl⟩ := jae.1 h
 exact jbk hi
theorem ybz {α : Type} {l : List α} {n : Nat} (h : n < l.length) : ∃ t, l[n]? = some t := ⟨_, jad h⟩
theorem ym3 {a b : V} : sCmp a b < 0 ↔ a.Kind < b.Kind ∨ a.Kind = b.Kind ∧ (a.N < b.N ∨ a.N = b.N ∧ Op.bytesLess a.S b.S = true) := by
 have h1 := yma (a := a.Kind) (b := b.Kind)
 have h2 := yma (a := a.N) (b := b.N)
 have h3 := yu1 (a := a.S) (b := b.S)
 unfold sCmp sOr
 rw [<- h3]
 split
 ·omega
 ·split <;> omega
theorem yuW (a : V) : ¬ sCmp a a < 0 := by
 rw [ym3]
 have := ye9 a.S
 rintro (h | ⟨_, h | ⟨_, h⟩⟩)
 ·omega
 ·omega
 ·rw [this] at h; cases h
theorem ywb {a b c : V} (h : sCmp a b < 0) (k : sCmp b c < 0) : sCmp a c < 0 := by
 rw [ym3] at *
 rcases h with h | ⟨h, h'⟩ <;> rcases k with k | ⟨k, k'⟩
 ·exact .inl (by omega)
 ·exact .inl (by omega)
 ·exact .inl (by omega)
 ·refine .inr ⟨by omega, ?_⟩
  rcases h' with h' | ⟨h', h2⟩ <;> rcases k' with k' | ⟨k', k2⟩
  ·exact .inl (by omega)
  ·exact .inl (by omega)
  ·exact .inl (by omega)
  ·exact .inr ⟨by omega, yi8 _ _ _ h2 k2⟩
theorem yuL (a b : V) : sCmp a b < 0 ∨ a = b ∨ sCmp b a < 0 := by
 rw [ym3, ym3]
 rcases Int.lt_trichotomy a.Kind b.Kind with h | h | h
 ·exact .inl (.inl h)
 ·rcases Int.lt_trichotomy a.N b.N with k | k | k
  ·exact .inl (.inr ⟨h, .inl k⟩)
  ·rcases ykh a.S b.S with q | q | q
   ·exact .inl (.inr ⟨h, .inr ⟨k, q⟩⟩)
   ·refine .inr (.inl ?_)
    cases a; cases b
    simp only at h k q
    rw [h, k, q]
   ·exact .inr (.inr (.inr ⟨h.symm, .inr ⟨k.symm, q⟩⟩))
  ·exact .inr (.inr (.inr ⟨h.symm, .inl k⟩))
 ·exact .inr (.inr (.inl h))
def lt7 (a b : List V) : Bool := decide (rc a b < 0)
theorem ypX (x y : V) (r q : List V) : lt7 (x :: r) (y :: q) = true ↔ sCmp x y < 0 ∨ x = y ∧ lt7 r q = true := by
 unfold lt7
 rw [decide_eq_true_eq, decide_eq_true_eq, ytr]
 by_cases h : sCmp x y = 0
 ·rw [if_neg (by simpa using h)]
  have e := yl6.1 h
  constructor
  ·exact fun k => .inr ⟨e, k⟩
  ·rintro (k | ⟨_, k⟩)
   ·omega
   ·exact k
 ·rw [if_pos h]
  constructor
  ·exact fun k => .inl k
  ·rintro (k | ⟨e, k⟩)
   ·exact k
   ·exact absurd (yl6.2 e) h
theorem ybH : Ord lt7 := by
 refine ⟨fun a => ?_, fun a b c => ?_, fun a b => ?_⟩
 ·induction a with
  | nil => rfl
  | cons x r ih =>
    cases h : lt7 (x :: r) (x :: r) with
    | false => rfl
    | true =>
      rcases (ypX x x r r).1 h with k | ⟨_, k⟩
      ·exact absurd k (yuW x)
      ·rw [ih] at k; cases k
 ·induction a generalizing b c with
  | nil =>
    intro h k
    cases c with
    | nil => cases b <;> simp [lt7, rc] at h k
    | cons z t => rfl
  | cons x r ih =>
    intro h k
    cases b with
    | nil => simp [lt7, rc] at h
    | cons y q =>
      cases c with
      | nil => simp [lt7, rc] at k
      | cons z t =>
        rw [ypX] at *
        rcases h with h | ⟨h, h'⟩ <;> rcases k with k | ⟨k, k'⟩
        ·exact .inl (ywb h k)
        ·subst k; exact .inl h
        ·subst h; exact .inl k
        ·exact .inr ⟨h.trans k, ih _ _ h' k'⟩
 ·induction a generalizing b with
  | nil => cases b with
    | nil => exact .inr (.inl rfl)
    | cons y q => exact .inl rfl
  | cons x r ih =>
    cases b with
    | nil => exact .inr (.inr rfl)
    | cons y q =>
      rw [ypX, ypX]
      rcases yuL x y with h | h | h
      ·exact .inl (.inl h)
      ·rcases ih q with k | k | k
       ·exact .inl (.inr ⟨h, k⟩)
       ·exact .inr (.inl (by rw [h, k]))
       ·exact .inr (.inr (.inr ⟨h.symm, k⟩))
      ·exact .inr (.inr (.inl h))
theorem rc_0 {a b : List V} : rc a b = 0 ↔ a = b := by
 constructor
 ·intro h
  rcases ybH.tot a b with k | k | k
  ·have := of_decide_eq_true k; omega
  ·exact k
  ·have k := of_decide_eq_true k
   exfalso
   have key : ∀ a b : List V, rc a b = 0 → ¬ rc b a < 0 := by
    intro a
    induction a with
    | nil => intro b h; cases b with
      | nil => simp [rc]
      | cons y q => simp [rc] at h
    | cons x r ih =>
      intro b h
      cases b with
      | nil => simp [rc] at h
      | cons y q =>
        rw [ytr] at h ⊢
        split at h
        ·rename_i e; exact absurd h e
        ·rename_i e
         have e := yl6.1 (Decidable.not_not.1 e)
         subst e
         rw [if_neg (by simp [yl6])]
         exact ih q h
   exact key a b h k
 ·rintro rfl
  induction a with
  | nil => rfl
  | cons x r ih => rw [ytr, if_neg (by simp [yl6])]; exact ih
theorem yyE {a b : List V} : 0 < rc a b ↔ lt7 b a = true := by
 constructor
 ·intro h
  rcases ybH.tot a b with k | k | k
  ·have := of_decide_eq_true k; omega
  ·have := rc_0.2 k; omega
  ·exact k
 ·intro k
  have n0 : ¬ rc a b = 0 := fun e => by rw [rc_0.1 e, ybH.irr] at k; cases k
  have n1 : ¬ rc a b < 0 := fun e => by
   have := ybH.asym (decide_eq_true e : lt7 a b = true)
   rw [this] at k; cases k
  omega
end Go.Proofs.Ytkmehmgocelkiaa
end
noncomputable section
namespace Go.Proofs.Ytkmehmgocelkiaa
open Go.AV Go.RowKit
abbrev Rw := List yaa
section
variable {α : Type}
theorem ycL (U T : List α) (x : α) : (U ++ x :: T)[U.length]? = some x := by simp
theorem yjk (U T : List α) (x y : α) : (U ++ x :: T).set U.length y = U ++ y :: T := by
 rw [List.set_append_right _ _ (jaP _)]; simp
theorem ymU {U M T : List α} {x z : α} {i j : Nat} (hi : i = U.length) (hj : j = U.length + 1 + M.length) :
  (U ++ x :: (M ++ z :: T))[i]? = some x /\ (U ++ x :: (M ++ z :: T))[j]? = some z /\ ((U ++ x :: (M ++ z :: T)).set i z)[j]? = some z /\ ((U ++ x :: (M ++ z :: T)).set j x)[i]? = some x /\ ((U ++ x :: (M ++ z :: T)).set i z).set j x = U ++ z :: (M ++ x :: T) /\ ((U ++ x :: (M ++ z :: T)).set j x).set i z = U ++ z :: (M ++ x :: T) /\ j < (U ++ x :: (M ++ z :: T)).length := by
 subst hi; subst hj
 have e : ∀ w : α, U ++ w :: (M ++ z :: T) = (U ++ w :: M) ++ z :: T := fun w => by simp
 have l : ∀ w : α, (U ++ w :: M).length = U.length + 1 + M.length := fun w => by simp; omega
 refine ⟨ycL _ _ _, ?_, ?_, ?_, ?_, ?_, ?_⟩
 ·rw [e, <- l x]; exact ycL _ _ _
 ·rw [yjk, e, <- l z]; exact ycL _ _ _
 ·rw [e, <- l x, yjk, jai]; exact ycL _ _ _
 ·rw [yjk, e, <- l z, yjk, jai]; rfl
 ·rw [e, <- l x, yjk, jai]; exact yjk _ _ _ _
 ·simp; omega
end
theorem ymw (x y : Nat) (h : x + y < 4000000000) : IntKind.i64.wrap ((IntKind.u64.wrap (IntKind.i64.wrap ((x : Int) + (y : Int)))).fdiv (2 ^ (min (1 : Int).toNat IntKind.u64.bits))) = (((x + y) / 2 : Nat) : Int) := by
 have e : (2 : Int) ^ (min (1 : Int).toNat IntKind.u64.bits) = 2 := by decide
 rw [e, wrap64 (n := (x : Int) + y) (by omega) (by omega), ygM (by omega) (by omega), Int.fdiv_eq_ediv_of_nonneg _ (by omega), wrap64 (by omega) (by omega)]
 omega
theorem ywU {g : Rw → Rw → Int → Prop} {P X Y Z S : List Rw} {a b n : Int} (h : X.length = Z.length) (hb : P.length + X.length + Y.length + Z.length ≤ 1000) (ha : a = P.length) (hbb : b = P.length + X.length + Y.length) (hn : n = X.length) :
  yao g a b n (P ++ (X ++ (Y ++ (Z ++ S)))) (P ++ (Z ++ (Y ++ (X ++ S)))) := by
 unfold yao
 refine lp2 (fun (i : Int) (d : List Rw) => ∃ X1 X2 Z1 Z2, X = X1 ++ X2 /\ Z = Z1 ++ Z2 /\ i = X1.length /\ X1.length = Z1.length /\ d = P ++ (Z1 ++ (X2 ++ (Y ++ (X1 ++ (Z2 ++ S)))))) (fun i _ => (X.length - i).toNat) ?_ ⟨[], X, [], Z, rfl, rfl, rfl, rfl, rfl⟩
 rintro J i d ⟨X1, X2, Z1, Z2, e1, e2, rfl, e3, rfl⟩ ih
 have l1 : X.length = X1.length + X2.length := by rw [e1]; simp
 have l2 : Z.length = Z1.length + Z2.length := by rw [e2]; simp
 unfold yb2
 cases X2 with
 | nil =>
   simp only [jbb] at l1
   have : Z2 = [] := jal (by omega)
   subst this
   refine yak (by simp; omega) ?_
   rw [e1, e2]; simp
 | cons x X2 =>
   cases Z2 with
   | nil => simp only [jbb, jaG] at l1 l2; omega
   | cons z Z2 =>
     simp only [jaG] at l1 l2
     have w1 : IntKind.i64.wrap (a + (X1.length : Int)) = (((P ++ Z1).length : Nat) : Int) := by rw [wrap64 (by omega) (by omega)]; simp; omega
     have w2 : IntKind.i64.wrap (b + (X1.length : Int)) = (((P ++ Z1).length + 1 + (X2 ++ (Y ++ X1)).length : Nat) : Int) := by rw [wrap64 (by omega) (by omega)]; simp; omega
     have w3 : IntKind.i64.wrap ((X1.length : Int) + 1) = ((X1.length + 1 : Nat) : Int) := by rw [wrap64 (by omega) (by omega)]; omega
     have ed : P ++ (Z1 ++ (x :: X2 ++ (Y ++ (X1 ++ (z :: Z2 ++ S))))) = (P ++ Z1) ++ x :: ((X2 ++ (Y ++ X1)) ++ z :: (Z2 ++ S)) := by simp
     obtain ⟨g1, g2, g3, g4, g5, g6, g7⟩ := ymU (U := P ++ Z1) (M := X2 ++ (Y ++ X1)) (T := Z2 ++ S) (x := x) (z := z) rfl rfl
     rw [ed, w1, w2, w3]
     simp only [jaH]
     refine yaC (by simp; omega) ⟨by omega, by omega, z, g2, by omega, by omega, x, g1, by omega, by omega, x, g1, by omega, by rw [List.length_set]; omega, z, g3, ?_⟩
     rw [g5]
     refine ih _ _ ⟨X1 ++ [x], X2, Z1 ++ [z], Z2, by rw [e1]; simp, by rw [e2]; simp, by simp, by simp [e3], by simp⟩ (by omega)
theorem yko {α : Type} {l : List α} {n : Nat} (h : n <= l.length) : ∃ a b, l = a ++ b /\ a.length = n /\ b.length = l.length - n := ⟨l.take n, l.drop n, by simp, by simp; omega, by simp⟩
theorem ywa {g : Rw → Rw → Int → Prop} {P L R S : List Rw} {a m b : Int} (hb : P.length + L.length + R.length ≤ 1000) (hL : 0 < L.length) (hR : 0 < R.length) (ha : a = P.length) (hm : m = P.length + L.length) (hbb : b = P.length + L.length + R.length) :
  yax g a m b (P ++ (L ++ (R ++ S))) (P ++ (R ++ (L ++ S))) := by
 unfold yax
 have s1 : IntKind.i64.wrap (m - a) = (L.length : Int) := by rw [wrap64 (by omega) (by omega)]; omega
 have s2 : IntKind.i64.wrap (b - m) = (R.length : Int) := by rw [wrap64 (by omega) (by omega)]; omega
 rw [s1, s2]
 refine lp3 (fun (i j : Int) (d : List Rw) => ∃ P' L' R' S', i = L'.length /\ j = R'.length /\ 0 < L'.length /\ 0 < R'.length /\ m = P'.length + L'.length /\ P'.length + L'.length + R'.length <= 1000 /\ d = P' ++ (L' ++ (R' ++ S')) /\ P' ++ (R' ++ (L' ++ S')) = P ++ (R ++ (L ++ S))) (fun i j _ => (i + j).toNat) ?_ ⟨P, L, R, S, rfl, rfl, hL, hR, hm, hb, rfl, rfl⟩
 rintro X i j d ⟨P', L', R', S', rfl, rfl, hl, hr, hm', hb', rfl, he⟩ ih
 unfold ycl
 have w0 : IntKind.i64.wrap (m - (L'.length : Int)) = (P'.length : Int) := by rw [wrap64 (by omega) (by omega)]; omega
 rw [w0]
 refine ⟨fun c => ⟨fun c2 => ?_, fun c2 => ?_⟩, fun c => ?_⟩
 ·have c2 : (R'.length : Int) < L'.length := by simpa using c2
  obtain ⟨A, B, rfl, hA, hB⟩ := yko (l := L') (n := R'.length) (by omega)
  simp only [jaj] at *
  have w1 : IntKind.i64.wrap (((A.length + B.length : Nat) : Int) - (R'.length : Int)) = (B.length : Int) := by rw [wrap64 (by omega) (by omega)]; omega
  rw [w1]
  refine ⟨P' ++ (R' ++ (B ++ (A ++ S'))), ?_, by simp; omega, ih _ _ _ ⟨P' ++ R', B, A, S', rfl, by omega, by omega, by omega, by simp; omega, by simp; omega, by simp, by rw [<- he]; simp⟩ (by omega)⟩
  have := ywU (g := g) (P := P') (X := A) (Y := B) (Z := R') (S := S') (a := P'.length) (b := m) (n := R'.length) hA (by omega) rfl (by omega) (by omega)
  simpa using this
 ·have c2 : ¬ (R'.length : Int) < L'.length := by simpa using c2
  have c : ¬ (L'.length : Int) = R'.length := by simpa using c
  obtain ⟨U, W, rfl, hU, hW⟩ := yko (l := R') (n := R'.length - L'.length) (by omega)
  simp only [jaj] at *
  have w1 : IntKind.i64.wrap (((U.length + W.length : Nat) : Int) - (L'.length : Int)) = (U.length : Int) := by rw [wrap64 (by omega) (by omega)]; omega
  have w2 : IntKind.i64.wrap (IntKind.i64.wrap (m + ((U.length + W.length : Nat) : Int)) - (L'.length : Int)) = ((P'.length + L'.length + U.length : Nat) : Int) := by rw [wrap64 (n := m + _) (by omega) (by omega), wrap64 (by omega) (by omega)]; omega
  rw [w1, w2]
  refine ⟨P' ++ (W ++ (U ++ (L' ++ S'))), ?_, by simp; omega, ih _ _ _ ⟨P', W, U, L' ++ S', by omega, rfl, by omega, by omega, by omega, by omega, rfl, by rw [<- he]; simp⟩ (by omega)⟩
  have := ywU (g := g) (P := P') (X := L') (Y := U) (Z := W) (S := S') (a := P'.length) (b := ((P'.length + L'.length + U.length : Nat) : Int)) (n := L'.length) (by omega) (by omega) rfl (by omega) rfl
  simpa using this
 ·have c : (L'.length : Int) = R'.length := by simpa using c
  refine ⟨_, ?_, ?_, he⟩
  ·have := ywU (g := g) (P := P') (X := L') (Y := []) (Z := R') (S := S') (a := P'.length) (b := m) (n := L'.length) (by omega) (by simp; omega) rfl (by simp; omega) rfl
   simpa using this
  ·simp; omega
end Go.Proofs.Ytkmehmgocelkiaa
end
noncomputable section
namespace Go.Proofs.Ytkmehmgocelkiaa
open Go.AV Go.RowKit
def Cmp (g : Rw -> Rw -> Int -> Prop) (Q : Rw -> Prop) : Prop := ∀ a b, Q a -> Q b -> g a b (rc a b)
theorem yvj {α : Type} {l : List α} {x : α} (h : l.getLast? = some x) : ∃ l', l = l' ++ [x] := by
 have hne : l ≠ [] := fun e => by subst e; cases h
 rw [List.getLast?_eq_some_getLast hne] at h
 exact ⟨l.dropLast, by rw [<- jaF h]; exact (List.dropLast_concat_getLast hne).symm⟩
theorem yzn {g : Rw → Rw → Int → Prop} {Q : Rw → Prop} (hg : Cmp g Q) {P B S : List Rw} {x : Rw} (hb : P.length + 1 + B.length ≤ 1000) (hq : ∀ y ∈ x :: B, Q y) (hB : Sd lt7 B) :
  ∀ X1 : Int -> Int -> List Rw -> Prop, (∀ x1 x2 x3, yay (P.length : Int) g (P ++ (srt lt7 [] (x :: B) ++ S)) X1 x1 x2 x3 -> X1 x1 x2 x3) -> X1 ((P.length + 1 : Nat) : Int) ((P.length + 1 + B.length : Nat) : Int) (P ++ (x :: (B ++ S))) := by
 refine lp3 (fun (i j : Int) (d : List Rw) => ∃ p q : Nat, i = ((P.length + 1 + p : Nat) : Int) /\ j = ((P.length + 1 + q : Nat) : Int) /\ p <= q /\ q <= B.length /\ d = P ++ (x :: (B ++ S)) /\ (∀ y, 0 < p -> B[p - 1]? = some y -> lt7 y x = true) /\ (∀ y, B[q]? = some y -> lt7 y x = false)) (fun i j _ => (j - i).toNat) ?_ ⟨0, B.length, rfl, rfl, by omega, by omega, rfl, fun y h => by omega, fun y h => by rw [jbt (by omega)] at h; cases h⟩
 rintro X i j d ⟨p, q, rfl, rfl, hpq, hqB, rfl, h1, h2⟩ ih
 have hl : (P ++ (x :: (B ++ S))).length = P.length + 1 + B.length + S.length := by simp; omega
 unfold yay
 rw [ymw _ _ (by omega)]
 obtain ⟨r, hr⟩ : ∃ r, (P.length + 1 + p + (P.length + 1 + q)) / 2 = P.length + 1 + r := ⟨(P.length + 1 + p + (P.length + 1 + q)) / 2 - (P.length + 1), by omega⟩
 rw [hr]
 refine ⟨fun c => ?_, fun c => ?_⟩
 ·have c : p < q := by have := of_decide_eq_true c; omega
  obtain ⟨y, hy⟩ := ybz (l := B) (n := r) (by omega)
  have gy : (P ++ (x :: (B ++ S)))[P.length + 1 + r]? = some y := by
   rw [jam (by omega), show P.length + 1 + r - P.length = r + 1 by omega, ja9, jan (by omega)]
   exact hy
  have w1 : IntKind.i64.wrap (((P.length + 1 + r : Nat) : Int) + 1) = ((P.length + 1 + (r + 1) : Nat) : Int) := by rw [wrap64 (by omega) (by omega)]; omega
  rw [w1]
  simp only [jaH]
  refine ⟨by omega, by omega, y, gy, by omega, by omega, x, ycL _ _ _, rc y x, hg y x (hq y (by simp [jaB hy])) (hq x (by simp)), fun c2 => ?_, fun c2 => ?_⟩
  ·exact ih _ _ _ ⟨r + 1, q, rfl, rfl, by omega, hqB, rfl, fun z _ hz => by rw [show r + 1 - 1 = r by omega, hy] at hz; cases hz; exact c2, h2⟩ (by omega)
  ·exact ih _ _ _ ⟨p, r, rfl, rfl, by omega, by omega, rfl, h1, fun z hz => by rw [hy] at hz; cases hz; exact c2⟩ (by omega)
 ·have c : ¬ p < q := by have := of_decide_eq_false c; omega
  have e : q = p := by omega
  subst e
  have w1 : IntKind.i64.wrap (((P.length + 1 + q : Nat) : Int) - 1) = ((P.length + q : Nat) : Int) := by rw [wrap64 (by omega) (by omega)]; omega
  refine lp2 (fun (k : Int) (d : List Rw) => ∃ r : Nat, k = ((P.length + r : Nat) : Int) /\ r <= q /\ d = P ++ (B.take r ++ x :: (B.drop r ++ S))) (fun k _ => (P.length + q - k).toNat) ?_ ⟨0, by omega, by omega, by simp⟩
  rintro X2 k d ⟨r, rfl, hrq, rfl⟩ ih2
  unfold yaR
  rw [w1]
  refine ⟨fun c => ?_, fun c => ?_⟩
  ·have c : r < q := by have := of_decide_eq_true c; omega
   obtain ⟨y, hy⟩ := ybz (l := B) (n := r) (by omega)
   have hd := yfq hy
   have ht : (B.take r).length = r := by rw [jaR]; omega
   have ed : P ++ (B.take r ++ x :: (B.drop r ++ S)) = (P ++ B.take r) ++ x :: ([] ++ y :: (B.drop (r + 1) ++ S)) := by rw [hd]; simp
   obtain ⟨g1, g2, g3, g4, g5, g6, g7⟩ := ymU (U := P ++ B.take r) (M := []) (T := B.drop (r + 1) ++ S) (x := x) (z := y) (i := P.length + r) (j := P.length + r + 1) (by simp; omega) (by simp; omega)
   have w2 : IntKind.i64.wrap (((P.length + r : Nat) : Int) + 1) = ((P.length + r + 1 : Nat) : Int) := by rw [wrap64 (by omega) (by omega)]; omega
   rw [ed, w2]
   simp only [jaH]
   refine ⟨by omega, by omega, y, g2, by omega, by omega, x, g1, by omega, by omega, x, g1, by omega, by rw [List.length_set]; omega, y, g3, ?_⟩
   rw [g5]
   refine ih2 _ _ ⟨r + 1, by omega, by omega, ?_⟩ (by omega)
   rw [jbj, hy]; simp
  ·have c : ¬ r < q := by have := of_decide_eq_false c; omega
   have e : r = q := by omega
   subst e
   have eB : B.take r ++ B.drop r = B := ja7 r B
   have := ysV ybH (x := x) (B1 := B.take r) (B2 := B.drop r) (by rw [eB]; exact hB) (fun b hb => ?_) (fun b hb => ?_)
   ·rw [eB] at this; rw [this]; simp
   ·by_cases hr0 : r = 0
    ·subst hr0; cases hb
    obtain ⟨y, hy⟩ := ybz (l := B) (n := r - 1) (by omega)
    have et : B.take r = B.take (r - 1) ++ [y] := by
     have := jbj (l := B) (i := r - 1)
     rw [hy, show r - 1 + 1 = r by omega] at this
     exact this
    have hs := (Sd.app.1 (show Sd lt7 (B.take r ++ B.drop r) by rw [eB]; exact hB)).1
    rw [et] at hs hb
    exact Sd.last ybH hs (ybH.asym (h1 y (by omega) hy)) b hb
   ·cases hdr : B.drop r with
    | nil => rw [hdr] at hb; cases hb
    | cons y T =>
      have hs := (Sd.app.1 (show Sd lt7 (B.take r ++ B.drop r) by rw [eB]; exact hB)).2.1
      rw [hdr] at hs hb
      have hy : B[r]? = some y := by
       have : (B.drop r)[0]? = some y := by rw [hdr]; rfl
       rw [ja5] at this; exact this
      exact Sd.head ybH hs (h2 y hy) b hb
theorem yzC {g : Rw → Rw → Int → Prop} {Q : Rw → Prop} (hg : Cmp g Q) {P A S : List Rw} {x : Rw} (hb : P.length + A.length + 1 ≤ 1000) (hq : ∀ y ∈ A ++ [x], Q y) (hA : Sd lt7 A) :
  ∀ X3 : Int -> Int -> List Rw -> Prop, (∀ x13 x14 x15, yaB ((P.length + A.length : Nat) : Int) g (P ++ (srt lt7 [] (A ++ [x]) ++ S)) X3 x13 x14 x15 -> X3 x13 x14 x15) -> X3 (P.length : Int) ((P.length + A.length : Nat) : Int) (P ++ (A ++ (x :: S))) := by
 refine lp3 (fun (i j : Int) (d : List Rw) => ∃ p q : Nat, i = ((P.length + p : Nat) : Int) /\ j = ((P.length + q : Nat) : Int) /\ p <= q /\ q <= A.length /\ d = P ++ (A ++ (x :: S)) /\ (∀ y, 0 < p -> A[p - 1]? = some y -> lt7 x y = false) /\ (∀ y, A[q]? = some y -> lt7 x y = true)) (fun i j _ => (j - i).toNat) ?_ ⟨0, A.length, rfl, rfl, by omega, by omega, rfl, fun y h => by omega, fun y h => by rw [jbt (by omega)] at h; cases h⟩
 rintro X i j d ⟨p, q, rfl, rfl, hpq, hqA, rfl, h1, h2⟩ ih
 have hl : (P ++ (A ++ (x :: S))).length = P.length + A.length + 1 + S.length := by simp; omega
 have gx : (P ++ (A ++ (x :: S)))[P.length + A.length]? = some x := by
  rw [<- jai, <- jaj]; exact ycL _ _ _
 unfold yaB
 rw [ymw _ _ (by omega)]
 obtain ⟨r, hr⟩ : ∃ r, (P.length + p + (P.length + q)) / 2 = P.length + r := ⟨(P.length + p + (P.length + q)) / 2 - P.length, by omega⟩
 rw [hr]
 refine ⟨fun c => ?_, fun c => ?_⟩
 ·have c : p < q := by have := of_decide_eq_true c; omega
  obtain ⟨y, hy⟩ := ybz (l := A) (n := r) (by omega)
  have gy : (P ++ (A ++ (x :: S)))[P.length + r]? = some y := by
   rw [jam (by omega), show P.length + r - P.length = r by omega, jan (by omega)]
   exact hy
  have w1 : IntKind.i64.wrap (((P.length + r : Nat) : Int) + 1) = ((P.length + (r + 1) : Nat) : Int) := by rw [wrap64 (by omega) (by omega)]; omega
  rw [w1]
  simp only [jaH]
  refine ⟨by omega, by omega, x, gx, by omega, by omega, y, gy, rc x y, hg x y (hq x (by simp)) (hq y (by simp [jaB hy])), fun c2 => ?_, fun c2 => ?_⟩
  ·have c2 : lt7 x y = false := by simpa [lt7] using c2
   exact ih _ _ _ ⟨r + 1, q, rfl, rfl, by omega, hqA, rfl, fun z _ hz => by rw [show r + 1 - 1 = r by omega, hy] at hz; cases hz; exact c2, h2⟩ (by omega)
  ·have c2 : lt7 x y = true := by simpa [lt7] using c2
   exact ih _ _ _ ⟨p, r, rfl, rfl, by omega, by omega, rfl, h1, fun z hz => by rw [hy] at hz; cases hz; exact c2⟩ (by omega)
 ·have c : ¬ p < q := by have := of_decide_eq_false c; omega
  have e : q = p := by omega
  subst e
  refine lp2 (fun (k : Int) (d : List Rw) => ∃ r : Nat, k = ((P.length + r : Nat) : Int) /\ q <= r /\ r <= A.length /\ d = P ++ (A.take r ++ x :: (A.drop r ++ S))) (fun k _ => k.toNat) ?_ ⟨A.length, rfl, by omega, by omega, by simp⟩
  rintro X2 k d ⟨r, rfl, hrq, hrA, rfl⟩ ih2
  unfold yaP
  refine ⟨fun c => ?_, fun c => ?_⟩
  ·have c : q < r := by have := of_decide_eq_true c; omega
   obtain ⟨y, hy⟩ := ybz (l := A) (n := r - 1) (by omega)
   have et : A.take r = A.take (r - 1) ++ [y] := by
    have := jbj (l := A) (i := r - 1)
    rw [hy, show r - 1 + 1 = r by omega] at this
    exact this
   have ht : (A.take (r - 1)).length = r - 1 := by rw [jaR]; omega
   have ed : P ++ (A.take r ++ x :: (A.drop r ++ S)) = (P ++ A.take (r - 1)) ++ y :: ([] ++ x :: (A.drop r ++ S)) := by rw [et]; simp
   obtain ⟨g1, g2, g3, g4, g5, g6, g7⟩ := ymU (U := P ++ A.take (r - 1)) (M := []) (T := A.drop r ++ S) (x := y) (z := x) (i := P.length + (r - 1)) (j := P.length + r) (by simp; omega) (by simp; omega)
   have w2 : IntKind.i64.wrap (((P.length + r : Nat) : Int) - 1) = ((P.length + (r - 1) : Nat) : Int) := by rw [wrap64 (by omega) (by omega)]; omega
   rw [ed, w2]
   simp only [jaH]
   refine ⟨by omega, by omega, y, g1, by omega, by omega, x, g2, by omega, by omega, x, g2, by omega, by rw [List.length_set]; omega, y, g4, ?_⟩
   rw [g6]
   refine ih2 _ _ ⟨r - 1, by omega, by omega, by omega, ?_⟩ (by omega)
   have hd := yfq hy
   rw [show r - 1 + 1 = r by omega] at hd
   rw [hd]; simp
  ·have c : ¬ q < r := by have := of_decide_eq_false c; omega
   have e : r = q := by omega
   subst e
   have eA : A.take r ++ A.drop r = A := ja7 r A
   have pp : srt lt7 [] (A ++ [x]) = srt lt7 [] (x :: A) := yrz ybH (List.perm_append_comm (l₁ := [x]) (l₂ := A))
   have := ysV ybH (x := x) (B1 := A.take r) (B2 := A.drop r) (by rw [eA]; exact hA) (fun b hb => ?_) (fun b hb => ?_)
   ·rw [eA] at this; rw [pp, this]; simp
   ·by_cases hr0 : r = 0
    ·subst hr0; cases hb
    obtain ⟨y, hy⟩ := ybz (l := A) (n := r - 1) (by omega)
    have et : A.take r = A.take (r - 1) ++ [y] := by
     have := jbj (l := A) (i := r - 1)
     rw [hy, show r - 1 + 1 = r by omega] at this
     exact this
    have hs := (Sd.app.1 (show Sd lt7 (A.take r ++ A.drop r) by rw [eA]; exact hA)).1
    rw [et] at hs hb
    exact Sd.last ybH hs (h1 y (by omega) hy) b hb
   ·cases hdr : A.drop r with
    | nil => rw [hdr] at hb; cases hb
    | cons y T =>
      have hs := (Sd.app.1 (show Sd lt7 (A.take r ++ A.drop r) by rw [eA]; exact hA)).2.1
      rw [hdr] at hs hb
      have hy : A[r]? = some y := by
       have : (A.drop r)[0]? = some y := by rw [hdr]; rfl
       rw [ja5] at this; exact this
      exact Sd.head ybH hs (ybH.asym (h2 y hy)) b hb
end Go.Proofs.Ytkmehmgocelkiaa
end
noncomputable section
namespace Go.Proofs.Ytkmehmgocelkiaa
open Go.AV Go.RowKit
def Clo (Xr : (Rw -> Rw -> Int -> Prop) -> Int -> Int -> Int -> List Rw -> List Rw -> Prop) : Prop := ∀ (g4 : Rw -> Rw -> Int -> Prop) (a0 a1 a2 : Int) (a3 r0 : List Rw), yaF Xr g4 a0 a1 a2 a3 r0 -> Xr g4 a0 a1 a2 a3 r0
theorem yqN {A : List Rw} (h : Sd lt7 A) : srt lt7 [] ([] ++ A) = A := ytH ybH h
theorem yqV {A : List Rw} (h : Sd lt7 A) : srt lt7 [] (A ++ []) = A := by rw [jbl]; exact ytH ybH h
set_option maxHeartbeats 4000000 in
theorem pSym {g : Rw → Rw → Int → Prop} {Q : Rw → Prop} (hg : Cmp g Q) (Xr : (Rw → Rw → Int → Prop) → Int → Int → Int → List Rw → List Rw → Prop) (hX : Clo Xr) : ∀ (n : Nat) (P A B S : List Rw), A.length + B.length ≤ n → 0 < A.length → 0 < B.length → P.length + A.length + B.length ≤ 1000 → (∀ y ∈ A ++ B, Q y) → Sd lt7 A → Sd lt7 B →
  Xr g (P.length : Int) ((P.length + A.length : Nat) : Int) ((P.length + A.length + B.length : Nat) : Int) (P ++ (A ++ (B ++ S))) (P ++ (srt lt7 [] (A ++ B) ++ S)) := by
 intro n
 induction n with
 | zero => intro P A B S h hA hB; omega
 | succ n ih =>
   intro P A B S hn hA hB hb hq sA sB
   apply hX
   have w1 : IntKind.i64.wrap (((P.length + A.length : Nat) : Int) - (P.length : Int)) = (A.length : Int) := by rw [wrap64 (by omega) (by omega)]; omega
   have w2 : IntKind.i64.wrap (((P.length + A.length + B.length : Nat) : Int) - ((P.length + A.length : Nat) : Int)) = (B.length : Int) := by rw [wrap64 (by omega) (by omega)]; omega
   unfold yaF
   rw [w1, w2]
   refine ⟨fun c => ?_, fun c => ⟨fun c2 => ?_, fun c2 => ?_⟩⟩
   ·have c : A.length = 1 := by have : (A.length : Int) = 1 := by simpa using c
                                omega
    obtain ⟨x, rfl⟩ := jbz.1 c
    exact yzn hg (by simpa using hb) (by simpa using hq) sB
   ·have c : B.length = 1 := by have : (B.length : Int) = 1 := by simpa using c2
                                omega
    obtain ⟨x, rfl⟩ := jbz.1 c
    exact yzC hg (by simpa using hb) (by simpa using hq) sA
   ·have cA : A.length ≠ 1 := by intro e; rw [e] at c; simp at c
    have cB : B.length ≠ 1 := by intro e; rw [e] at c2; simp at c2
    clear w1 w2 c c2
    have hmid := ymw P.length (P.length + A.length + B.length) (by omega)
    obtain ⟨mid, hmd⟩ : ∃ mid, mid = (P.length + (P.length + A.length + B.length)) / 2 := ⟨_, rfl⟩
    rw [<- hmd] at hmid
    have wn : IntKind.i64.wrap ((mid : Int) + ((P.length + A.length : Nat) : Int)) = ((mid + (P.length + A.length) : Nat) : Int) := by rw [wrap64 (by omega) (by omega)]; omega
    have dA : ∀ k, k < A.length → (P ++ (A ++ (B ++ S)))[P.length + k]? = A[k]? := by
     intro k hk
     rw [jam (by omega), show P.length + k - P.length = k by omega, jan hk]
    have dB : ∀ k, k < B.length → (P ++ (A ++ (B ++ S)))[P.length + A.length + k]? = B[k]? := by
     intro k hk
     rw [<- jai, jam (by simp), show P.length + A.length + k - (P ++ A).length = k by simp, jan hk]
    have hl : (P ++ (A ++ (B ++ S))).length = P.length + A.length + B.length + S.length := by simp; omega
    have core : ∀ lo hi : Nat, (mid < P.length + A.length ∧ lo + (P.length + A.length + B.length) = mid + (P.length + A.length) ∧ hi = mid) ∨ (P.length + A.length ≤ mid ∧ lo = P.length ∧ hi = P.length + A.length) →
      yan Xr (P.length : Int) ((P.length + A.length : Nat) : Int) ((P.length + A.length + B.length : Nat) : Int) g (P ++ (srt lt7 [] (A ++ B) ++ S)) (lo : Int) (hi : Int) (P ++ (A ++ (B ++ S))) := by
     intro lo hi hlh
     have hlo : P.length <= lo := by omega
     have hhi : hi <= P.length + A.length := by omega
     have hhm : hi <= mid := by omega
     unfold yan
     refine lp3 (fun (i j : Int) (d : List Rw) => ∃ s r : Nat, i = (s : Int) /\ j = (r : Int) /\ lo <= s /\ s <= r /\ r <= hi /\ d = P ++ (A ++ (B ++ S)) /\ (lo < s -> ∀ x y, (P ++ (A ++ (B ++ S)))[s - 1]? = some x -> (P ++ (A ++ (B ++ S)))[mid + (P.length + A.length) - s]? = some y -> lt7 y x = false) /\ (r < hi -> ∀ x y, (P ++ (A ++ (B ++ S)))[r]? = some x -> (P ++ (A ++ (B ++ S)))[mid + (P.length + A.length) - 1 - r]? = some y -> lt7 y x = true)) (fun i j _ => (j - i).toNat) ?_ ⟨lo, hi, rfl, rfl, by omega, by omega, by omega, rfl, fun h => by omega, fun h => by omega⟩
     rintro X i j d ⟨s, r, rfl, rfl, k1, k2, k3, rfl, h1, h2⟩ ih2
     unfold yaO
     rw [hmid, wn, ymw s r (by omega)]
     refine ⟨fun c => ?_, fun c => ?_⟩
     ·have c : s < r := by have := of_decide_eq_true c; omega
      obtain ⟨q, hq'⟩ : ∃ q, q = (s + r) / 2 := ⟨_, rfl⟩
      rw [<- hq']
      have wp : IntKind.i64.wrap (((mid + (P.length + A.length) : Nat) : Int) - 1) = ((mid + (P.length + A.length) - 1 : Nat) : Int) := by rw [wrap64 (by omega) (by omega)]; omega
      have wq : IntKind.i64.wrap (((mid + (P.length + A.length) - 1 : Nat) : Int) - (q : Int)) = ((mid + (P.length + A.length) - 1 - q : Nat) : Int) := by rw [wrap64 (by omega) (by omega)]; omega
      have wc : IntKind.i64.wrap ((q : Int) + 1) = ((q + 1 : Nat) : Int) := by rw [wrap64 (by omega) (by omega)]; omega
      rw [wp, wq, wc]
      simp only [jaH]
      obtain ⟨kx, hkx⟩ : ∃ k, q = P.length + k := ⟨q - P.length, by omega⟩
      obtain ⟨ky, hky⟩ : ∃ k, mid + (P.length + A.length) - 1 - q = P.length + A.length + k := ⟨mid - 1 - q, by omega⟩
      obtain ⟨x, hx⟩ := ybz (l := A) (n := kx) (by omega)
      obtain ⟨y, hy⟩ := ybz (l := B) (n := ky) (by omega)
      have gx : (P ++ (A ++ (B ++ S)))[q]? = some x := by rw [hkx, dA kx (by omega)]; exact hx
      have gy : (P ++ (A ++ (B ++ S)))[mid + (P.length + A.length) - 1 - q]? = some y := by rw [hky, dB ky (by omega)]; exact hy
      refine ⟨by omega, by omega, y, gy, by omega, by omega, x, gx, rc y x, hg y x (hq y (by simp [jaB hy])) (hq x (by simp [jaB hx])), fun c2 => ?_, fun c2 => ?_⟩
      ·have c2 : lt7 y x = false := by simpa [lt7] using c2
       refine ih2 _ _ _ ⟨q + 1, r, rfl, rfl, by omega, by omega, by omega, rfl, fun _ u v hu hv => ?_, h2⟩ (by omega)
       rw [show q + 1 - 1 = q by omega, gx] at hu
       rw [show mid + (P.length + A.length) - (q + 1) = mid + (P.length + A.length) - 1 - q by omega, gy] at hv
       cases hu; cases hv; exact c2
      ·have c2 : lt7 y x = true := by simpa [lt7] using c2
       refine ih2 _ _ _ ⟨s, q, rfl, rfl, by omega, by omega, by omega, rfl, h1, fun _ u v hu hv => ?_⟩ (by omega)
       rw [gx] at hu; rw [gy] at hv
       cases hu; cases hv; exact c2
     ·have c : ¬ s < r := by have := of_decide_eq_false c; omega
      have e : r = s := by omega
      subst e
      clear ih2
      obtain ⟨A1, A2, eA, lA1, lA2⟩ := yko (l := A) (n := r - P.length) (by omega)
      obtain ⟨B1, B2, eB, lB1, lB2⟩ := yko (l := B) (n := mid - r) (by omega)
      have sA' := sA; have sB' := sB
      rw [eA] at sA'; rw [eB] at sB'
      obtain ⟨sA1, sA2, _⟩ := Sd.app.1 sA'
      obtain ⟨sB1, sB2, _⟩ := Sd.app.1 sB'
      have hcut : srt lt7 [] (A ++ B) = srt lt7 [] (A1 ++ B1) ++ srt lt7 [] (A2 ++ B2) := by
       refine yyF ybH sA sB eA eB (fun x y hx hy => ?_) (fun x y hx hy => ?_)
       ·obtain ⟨A0, e0⟩ := yvj hx
        cases hB2 : B2 with
        | nil => rw [hB2] at hy; cases hy
        | cons y' T =>
          rw [hB2] at hy; cases hy
          have l0 : A1.length = A0.length + 1 := by rw [e0]; simp
          have l2 : B2.length = T.length + 1 := by rw [hB2]; simp
          refine h1 (by omega) x y ?_ ?_
          ·rw [show r - 1 = P.length + A0.length by omega, dA _ (by omega), eA, e0, jai]; exact ycL _ _ _
          ·rw [show mid + (P.length + A.length) - r = P.length + A.length + B1.length by omega, dB _ (by omega), eB, hB2]; exact ycL _ _ _
       ·obtain ⟨B0, e0⟩ := yvj hx
        cases hA2 : A2 with
        | nil => rw [hA2] at hy; cases hy
        | cons y' T =>
          rw [hA2] at hy; cases hy
          have l0 : B1.length = B0.length + 1 := by rw [e0]; simp
          have l2 : A2.length = T.length + 1 := by rw [hA2]; simp
          refine ybH.asym (h2 (by omega) y x ?_ ?_)
          ·rw [show r = P.length + A1.length by omega, dA _ (by omega), eA, hA2]; exact ycL _ _ _
          ·rw [show mid + (P.length + A.length) - 1 - r = P.length + A.length + B0.length by omega, dB _ (by omega), eB, e0, jai]; exact ycL _ _ _
      have we : IntKind.i64.wrap (((mid + (P.length + A.length) : Nat) : Int) - (r : Int)) = ((mid + (P.length + A.length) - r : Nat) : Int) := by rw [wrap64 (by omega) (by omega)]; omega
      have lsrt : (srt lt7 [] (A1 ++ B1)).length = A1.length + B1.length := by rw [ycU]; simp
      have t8 : yah Xr (P.length : Int) ((P.length + A.length + B.length : Nat) : Int) g (P ++ (srt lt7 [] (A ++ B) ++ S)) ((mid + (P.length + A.length) - r : Nat) : Int) (P ++ (srt lt7 [] (A1 ++ B1) ++ (A2 ++ (B2 ++ S)))) := by
       have stay : (A2 = [] ∨ B2 = []) → P ++ (srt lt7 [] (A1 ++ B1) ++ (A2 ++ (B2 ++ S))) = P ++ (srt lt7 [] (A ++ B) ++ S) := by
        rw [hcut]
        rintro (h | h)
        ·rw [h] at *; rw [yqN sB2]; simp
        ·rw [h] at *; rw [yqV sA2]; simp
       unfold yah yas
       rw [hmid]
       refine ⟨fun d => ⟨fun d2 => ?_, fun d2 => ?_⟩, fun d => yak rfl ?_⟩
       ·have d := of_decide_eq_true d
        have d2 := of_decide_eq_true d2
        refine ⟨_, ?_, ?_, rfl⟩
        ·have := ih (P ++ srt lt7 [] (A1 ++ B1)) A2 B2 S (by omega) (by omega) (by omega) (by rw [jaj]; omega) (fun y hy => hq y (by rw [eA, eB]; simp only [jar] at *; rcases hy with h | h <;> simp [h])) sA2 sB2
         rw [hcut]
         simp only [jai, jaj, lsrt] at this ⊢
         rw [show P.length + (A1.length + B1.length) = mid by omega] at this
         rw [show mid + A2.length = mid + (P.length + A.length) - r by omega] at this
         rw [show mid + (P.length + A.length) - r + B2.length = P.length + A.length + B.length by omega] at this
         exact this
        ·rw [hcut]; simp only [jaj, ycU]; omega
       ·have d2 := of_decide_eq_false d2
        exact stay (.inr (jal (by omega)))
       ·have d := of_decide_eq_false d
        exact stay (.inl (jal (by omega)))
      have t7 : yai Xr (P.length : Int) ((P.length + A.length + B.length : Nat) : Int) g (P ++ (srt lt7 [] (A ++ B) ++ S)) (r : Int) ((mid + (P.length + A.length) - r : Nat) : Int) (P ++ (A1 ++ (B1 ++ (A2 ++ (B2 ++ S))))) := by
       have stay : (A1 = [] ∨ B1 = []) → P ++ (A1 ++ (B1 ++ (A2 ++ (B2 ++ S)))) = P ++ (srt lt7 [] (A1 ++ B1) ++ (A2 ++ (B2 ++ S))) := by
        rintro (h | h)
        ·rw [h] at *; rw [yqN sB1]; simp
        ·rw [h] at *; rw [yqV sA1]; simp
       unfold yai yaq
       rw [hmid]
       refine ⟨fun d => ⟨fun d2 => ?_, fun d2 => ?_⟩, fun d => yak rfl ?_⟩
       ·have d := of_decide_eq_true d
        have d2 := of_decide_eq_true d2
        refine ⟨_, ?_, ?_, t8⟩
        ·have := ih P A1 B1 (A2 ++ (B2 ++ S)) (by omega) (by omega) (by omega) (by omega) (fun y hy => hq y (by rw [eA, eB]; simp only [jar] at *; rcases hy with h | h <;> simp [h])) sA1 sB1
         rw [show P.length + A1.length = r by omega] at this
         rw [show r + B1.length = mid by omega] at this
         exact this
        ·simp only [jaj, ycU]; omega
       ·have d2 := of_decide_eq_false d2
        rw [stay (.inr (jal (by omega)))]; exact t8
       ·have d := of_decide_eq_false d
        rw [stay (.inl (jal (by omega)))]; exact t8
      have stay : (A2 = [] ∨ B1 = []) → P ++ (A ++ (B ++ S)) = P ++ (A1 ++ (B1 ++ (A2 ++ (B2 ++ S)))) := by
       rw [eA, eB]
       rintro (h | h)
       ·rw [h]; simp
       ·rw [h]; simp
      unfold yap
      rw [hmid, wn, we]
      refine ⟨fun d => ⟨fun d2 => ?_, fun d2 => ?_⟩, fun d => yak rfl ?_⟩
      ·have d := of_decide_eq_true d
       have d2 := of_decide_eq_true d2
       refine ⟨_, ?_, ?_, t7⟩
       ·have := ywa (g := g) (P := P ++ A1) (L := A2) (R := B1) (S := B2 ++ S) (a := (r : Int)) (m := ((P.length + A.length : Nat) : Int)) (b := ((mid + (P.length + A.length) - r : Nat) : Int)) (by rw [jaj]; omega) (by omega) (by omega) (by rw [jaj]; omega) (by rw [jaj]; omega) (by rw [jaj]; omega)
        rw [eA, eB]
        rw [eA] at this
        simpa using this
       ·rw [hl]; simp only [jaj]; omega
      ·have d2 := of_decide_eq_false d2
       rw [stay (.inr (jal (by omega)))]; exact t7
      ·have d := of_decide_eq_false d
       rw [stay (.inl (jal (by omega)))]; exact t7
    rw [hmid, wn]
    refine ⟨fun d => ?_, fun d => ?_⟩
    ·have d := of_decide_eq_true d
     have wl : IntKind.i64.wrap (((mid + (P.length + A.length) : Nat) : Int) - ((P.length + A.length + B.length : Nat) : Int)) = ((mid + (P.length + A.length) - (P.length + A.length + B.length) : Nat) : Int) := by rw [wrap64 (by omega) (by omega)]; omega
     rw [wl]
     exact core _ _ (.inl ⟨by omega, by omega, rfl⟩)
    ·have d := of_decide_eq_false d
     exact core _ _ (.inr ⟨by omega, rfl, rfl⟩)
theorem ysI {g : Rw → Rw → Int → Prop} {Q : Rw → Prop} (hg : Cmp g Q) {A B : List Rw} (hA : 0 < A.length) (hB : 0 < B.length) (hb : A.length + B.length ≤ 1000) (hq : ∀ y ∈ A ++ B, Q y) (sA : Sd lt7 A) (sB : Sd lt7 B) {a m b : Int} (ha : a = 0) (hm : m = A.length) (hbb : b = A.length + B.length) :
  yaJ g a m b (A ++ B) (srt lt7 [] (A ++ B)) := by
 refine yd5 _ _ _ _ _ _ fun Xr hX => ?_
 have := pSym hg Xr hX _ [] A B [] (jaP _) hA hB (by simpa using hb) hq sA sB
 subst ha; subst hm; subst hbb
 simpa using this
end Go.Proofs.Ytkmehmgocelkiaa
end
noncomputable section
namespace Go.Proofs.Ytkmehmgocelkiaa
open Go.AV Go.RowKit
section
variable {α : Type}
theorem yqq (lt : α → α → Bool) (x p : α) (l : List α) : ins lt x (l ++ [p]) = if lt x p then ins lt x l ++ [p] else (l ++ [p]) ++ [x] := by
 unfold ins
 rw [List.reverse_append]
 show (if lt x p = true then p :: rins lt x l.reverse else x :: p :: l.reverse).reverse = _
 split
 ·rw [List.reverse_cons]
 ·simp
theorem ywr (lt : α → α → Bool) (x : α) (l : List α) : (ins lt x l).length = l.length + 1 := by
 have : ∀ m : List α, (rins lt x m).length = m.length + 1 := by
  intro m
  induction m with
  | nil => rfl
  | cons y r ih => unfold rins; split <;> simp [ih]
 unfold ins; simp [this]
theorem yr1 (lt : α → α → Bool) : ∀ (l out : List α), (srt lt out l).length = out.length + l.length
 | [], out => rfl
 | x :: r, out => by unfold srt; rw [yr1 lt r, ywr]; simp; omega
theorem yw1 {lt : α → α → Bool} {x y : α} {l : List α} (h : y ∈ ins lt x l) : y = x ∨ y ∈ l := by
 have : ∀ m : List α, y ∈ rins lt x m → y = x ∨ y ∈ m := by
  intro m
  induction m with
  | nil => intro h; simpa [rins] using h
  | cons z r ih =>
    intro h
    unfold rins at h
    split at h
    ·rcases jaq.1 h with rfl | h
     ·exact .inr (by simp)
     ·rcases ih h with e | e
      ·exact .inl e
      ·exact .inr (by simp [e])
    ·simpa using h
 unfold ins at h
 rcases this _ (by simpa using h) with e | e
 ·exact .inl e
 ·exact .inr (by simpa using e)
theorem ysH {lt : α → α → Bool} {y : α} : ∀ {l out : List α}, y ∈ srt lt out l → y ∈ out ∨ y ∈ l
 | [], out, h => .inl h
 | x :: r, out, h => by
   unfold srt at h
   rcases ysH h with e | e
   ·rcases yw1 e with rfl | e
    ·exact .inr (by simp)
    ·exact .inl e
   ·exact .inr (by simp [e])
theorem yoQ (lt : α → α → Bool) (b : α) : ∀ (a out : List α), srt lt out (a ++ [b]) = ins lt b (srt lt out a)
 | [], out => rfl
 | x :: r, out => by show srt lt (ins lt x out) (r ++ [b]) = _; rw [yoQ lt b r]; rfl
end
theorem yms {g : Rw → Rw → Int → Prop} {Q : Rw → Prop} (hg : Cmp g Q) {P L S : List Rw} {a b : Int} (hl : P.length + L.length ≤ 1000) (hq : ∀ y ∈ L, Q y) (ha : a = P.length) (hb : b = P.length + L.length) : yaj g a b (P ++ (L ++ S)) (P ++ (srt lt7 [] L ++ S)) := by
 refine yda _ _ _ _ _ ?_
 have e01 : IntKind.i64.wrap (a + (1 : Int)) = ((P.length + 1 : Nat) : Int) := by rw [wrap64 (by omega) (by omega)]; omega
 unfold ya1
 rw [e01]
 refine lp2 (fun (i : Int) (d : List Rw) => (L = [] /\ d = P ++ S /\ i = ((P.length + 1 : Nat) : Int)) ∨ ∃ A B, L = A ++ B /\ i = ((P.length + A.length : Nat) : Int) /\ 1 <= A.length /\ d = P ++ (srt lt7 [] A ++ (B ++ S))) (fun i _ => (b - i).toNat) ?_ ?_
 ·rintro X i d inv ih
  unfold yaE
  rcases inv with ⟨e, rfl, rfl⟩ | ⟨A, B, e, rfl, hA, rfl⟩
  ·subst e
   exact yak (by simp at hb ⊢; omega) rfl
  ·have hll : L.length = A.length + B.length := by rw [e]; simp
   refine ⟨fun c => ?_, fun c => ?_⟩
   ·have c := of_decide_eq_true c
    cases B with
    | nil => exfalso; simp only [jbb] at hll; omega
    | cons x B =>
      have hsl := ycU lt7 A
      have qA : ∀ y ∈ srt lt7 [] A, Q y := fun y hy => hq y (by rw [e]; exact jas _ ((ybQ A).subset hy))
      have qx : Q x := hq x (by rw [e]; simp)
      simp only [jaG] at hll
      have nx : ∀ d, d = P ++ (srt lt7 [] (A ++ [x]) ++ (B ++ S)) → X (IntKind.i64.wrap (((P.length + A.length : Nat) : Int) + 1)) d := by
       intro d hd
       rw [wrap64 (by omega) (by omega)]
       exact ih _ _ (.inr ⟨A ++ [x], B, by rw [e]; simp, by simp; omega, by simp, hd⟩) (by omega)
      refine lp2 (fun (j : Int) (d : List Rw) => ∃ P1 P2, j = ((P.length + P1.length : Nat) : Int) /\ d = P ++ (P1 ++ x :: (P2 ++ (B ++ S))) /\ ins lt7 x (srt lt7 [] A) = ins lt7 x P1 ++ P2 /\ P1.length <= A.length /\ ∀ y ∈ P1, Q y) (fun j _ => j.toNat) ?_ ⟨srt lt7 [] A, [], by rw [hsl], by simp, by simp, by omega, qA⟩
      rintro X2 j d ⟨P1, P2, rfl, rfl, hins, hP, hQ⟩ ih2
      have stop : ins lt7 x P1 = P1 ++ [x] -> X (IntKind.i64.wrap (((P.length + A.length : Nat) : Int) + 1)) (P ++ (P1 ++ x :: (P2 ++ (B ++ S)))) := fun h => nx _ (by rw [yoQ, hins, h]; simp)
      unfold yaD
      rcases yhB P1 with rfl | ⟨P0, p, rfl⟩
      ·exact yak (by simp; omega) (yak rfl (stop rfl))
      ·have hlen : (P0 ++ [p]).length = P0.length + 1 := by simp
       rw [hlen] at hP
       have e1 : IntKind.i64.wrap (((P.length + (P0 ++ [p]).length : Nat) : Int) - 1) = ((P.length + P0.length : Nat) : Int) := by rw [wrap64 (by omega) (by omega)]; omega
       have qp : Q p := hQ p (by simp)
       have hs : ins lt7 x (P0 ++ [p]) = if lt7 x p then ins lt7 x P0 ++ [p] else (P0 ++ [p]) ++ [x] := yqq lt7 x p P0
       have ed : P ++ ((P0 ++ [p]) ++ x :: (P2 ++ (B ++ S))) = (P ++ P0) ++ p :: ([] ++ x :: (P2 ++ (B ++ S))) := by simp
       obtain ⟨g1, g2, g3, g4, g5, g6, g7⟩ := ymU (U := P ++ P0) (M := []) (T := P2 ++ (B ++ S)) (x := p) (z := x) (i := P.length + P0.length) (j := P.length + (P0 ++ [p]).length) (by simp) (by simp; omega)
       rw [ed] at stop ⊢
       rw [e1]
       refine yaC (by simp <;> omega) ⟨by omega, by omega, x, by simpa only [jaH] using g2, by omega, by omega, p, by simpa only [jaH] using g1, rc x p, hg x p qx qp, ?_⟩
       rw [show decide (rc x p < 0) = lt7 x p from rfl]
       unfold yam
       rw [e1]
       simp only [jaH]
       refine ⟨fun hx => ?_, fun hx => stop (by rw [hs, hx]; rfl)⟩
       refine ⟨by omega, by omega, p, g1, by omega, by omega, x, g2, by omega, by omega, x, g2, by omega, by rw [List.length_set]; omega, p, g4, ?_⟩
       rw [g6]
       exact ih2 _ _ ⟨P0, p :: P2, rfl, by simp, by rw [hins, hs, hx]; simp, by omega, fun y hy => hQ y (by simp [hy])⟩ (by omega)
   ·have c := of_decide_eq_false c
    have : B = [] := ja2.1 (by omega)
    subst this
    rw [e]; simp
 ·cases L with
  | nil => exact .inl ⟨rfl, rfl, rfl⟩
  | cons x r => exact .inr ⟨[x], r, rfl, rfl, by simp, rfl⟩
theorem ywP {g : Rw → Rw → Int → Prop} {Q : Rw → Prop} (hg : Cmp g Q) {l : List Rw} (hl : l.length ≤ 39) (hq : ∀ y ∈ l, Q y) : yaL g (l.length : Int) l (srt lt7 [] l) := by
 unfold yaL
 intro X hX
 by_cases h20 : 20 <= l.length
 ·obtain ⟨L, R, rfl, hL, hR⟩ := yko h20
  have hlen : (L ++ R).length = 20 + R.length := by simp [hL]
  have sl := ycU lt7 L
  have sr := ycU lt7 R
  refine hX _ _ _ (yaC (by simp; omega) ⟨srt lt7 [] L ++ R, ?_, by simp [sl], ?_⟩)
  ·exact yms (P := []) (L := L) (S := R) hg (by simp; omega) (fun y hy => hq y (by simp [hy])) rfl (by simp; omega)
  ·refine hX _ _ _ (yak (by rw [wrap64 (by omega) (by omega)]; simp; omega) ⟨srt lt7 [] L ++ srt lt7 [] R, ?_, by simp [sl, sr], fun X2 hX2 => ?_⟩)
   ·have := yms (P := srt lt7 [] L) (L := R) (S := []) (a := 20) (b := ((L ++ R).length : Int)) hg (by omega) (fun y hy => hq y (by simp [hy])) (by omega) (by omega)
    simpa using this
   ·refine hX2 _ _ ⟨fun c => ?_, fun c => ?_⟩
    ·have c := of_decide_eq_true c
     intro X3 hX3
     have e40 : IntKind.i64.wrap ((2 : Int) * 20) = 40 := by decide
     have e20 : IntKind.i64.wrap ((0 : Int) + 20) = 20 := by decide
     have e42 : IntKind.i64.wrap ((20 : Int) * 2) = 40 := by decide
     have h := hX3 0 40 (srt lt7 [] L ++ srt lt7 [] R)
     rw [e40]
     refine h ?_
     unfold ycm
     rw [e20, e42]
     have pp : srt lt7 [] (srt lt7 [] L ++ srt lt7 [] R) = srt lt7 [] (L ++ R) := yrz ybH (((ybQ L).append_right R).symm.trans (((ybQ R).append_left _).symm))
     refine yak (by simp; omega) (yaC (by simp; omega) ⟨srt lt7 [] (L ++ R), ?_, by rw [ycU]; simp [sl, sr], hX2 _ _ (yak (by simp; omega) rfl)⟩)
     rw [<- pp]
     exact ysI hg (by omega) (by omega) (by omega) (fun y hy => hq y (by
      rcases jar.1 hy with h | h
      ·exact jas _ ((ybQ L).subset h)
      ·exact jax _ ((ybQ R).subset h))) (ygc ybH L) (ygc ybH R) rfl (by omega) (by omega)
    ·have c := of_decide_eq_false c
     have : R = [] := ja2.1 (by omega)
     subst this
     rw [jbl]
     show srt lt7 [] L ++ [] = srt lt7 [] L
     simp
 ·refine hX _ _ _ (yak (by simp; omega) ⟨srt lt7 [] l, ?_, by rw [ycU], fun X2 hX2 => hX2 _ _ (yak (by simp; omega) rfl)⟩)
  have := yms (P := []) (L := l) (S := []) (a := 0) (b := (l.length : Int)) hg (by simp; omega) hq rfl (by simp)
  simpa using this
theorem ye6 {a b : List V} (ha : a.length ≤ 100000000) : ya9 a b (rc a b) := by
 refine ⟨_, ?_, rfl⟩
 refine fun _ => ?_
 refine lp1 (fun i : Int => 0 <= i /\ i <= a.length /\ i <= b.length /\ rc (a.drop i.toNat) (b.drop i.toNat) = rc a b) (fun i => (a.length - i).toNat) ?_ ⟨by omega, by omega, by omega, by simp⟩
 rintro X i ⟨i0, i1, i2, hr⟩ ih
 refine ⟨fun c => ?_, fun c => ?_⟩
 ·have c : i < (a.length : Int) := by simpa using c
  obtain ⟨y, hy⟩ := ybz (l := a) (n := i.toNat) (by omega)
  refine ⟨i0, c, y, hy, fun _ => ⟨fun c2 => ?_, fun c2 => ?_⟩⟩
  ·have c2 : (b.length : Int) ≤ i := by simpa using c2
   rw [yfq hy, jbA (show b.length <= i.toNat by omega)] at hr
   exact hr
  ·have c2 : ¬ (b.length : Int) ≤ i := by simpa using c2
   obtain ⟨z, hz⟩ := ybz (l := b) (n := i.toNat) (by omega)
   rw [yfq hy, yfq hz] at hr
   rw [ytr] at hr
   refine ⟨i0, by omega, z, hz, _, yur y z, fun h => ?_, fun h => ?_⟩
   ·have h : sCmp y z ≠ 0 := by simpa using h
    rw [if_pos h] at hr; exact hr
   ·have h : sCmp y z = 0 := by simpa using h
    rw [if_neg (by simpa using h)] at hr
    rw [wrap64 (by omega) (by omega)]
    exact ih _ ⟨by omega, by omega, by omega, by rw [show (i + 1).toNat = i.toNat + 1 by omega]; exact hr⟩ (by omega)
 ·have c : ¬ i < (a.length : Int) := by simpa using c
  have hd : a.drop i.toNat = [] := jbA (by omega)
  rw [hd, ysO, ja4] at hr
  refine fun _ _ => ⟨fun c2 => ?_, fun c2 => ?_⟩
  ·have c2 : (a.length : Int) < b.length := by simpa using c2
   rw [if_pos (by omega)] at hr; exact hr
  ·have c2 : ¬ (a.length : Int) < b.length := by simpa using c2
   rw [if_neg (by omega)] at hr; exact hr
def gd (l : List V) : Prop := l.length <= 9 /\ ∀ v ∈ l, good v
def Sh (l : Rw) : Prop := l.length <= 100000000
theorem yxy : Cmp ya9 Sh := fun _ _ h _ => ye6 h
theorem yuS {l : List Rw} (hl : l.length ≤ 39) (hq : ∀ y ∈ l, Sh y) : yhy l (srt lt7 [] l) := by
 have hlen := ycU lt7 l
 have col : ybJ l l := by
  refine ⟨l, fun _ _ => ?_, rfl, rfl⟩
  refine lp2 (fun (i : Int) (d : List (List V)) => 0 <= i /\ i <= l.length /\ d = l.take i.toNat) (fun i _ => (l.length - i).toNat) ?_ ⟨by omega, by omega, by simp⟩
  rintro X i d ⟨i0, i1, rfl⟩ ih
  refine ⟨fun c => ?_, fun c => ?_⟩
  ·have c : i < (l.length : Int) := by simpa using c
   obtain ⟨y, hy⟩ := ybz (l := l) (n := i.toNat) (by omega)
   refine ⟨i0, c, y, hy, by simp; omega, ?_⟩
   rw [wrap64 (by omega) (by omega)]
   refine ih _ _ ⟨by omega, by omega, ?_⟩ (by omega)
   rw [show (i + 1).toNat = i.toNat + 1 by omega, jbj, hy]; rfl
  ·have c : ¬ i < (l.length : Int) := by simpa using c
   exact ⟨rfl, jay (by omega)⟩
 exact ⟨l, rfl, _, ⟨l, col, _, ⟨_, ywP yxy hl hq, hlen, rfl⟩, hlen, rfl, rfl⟩, rfl⟩
theorem ys9 {a b : V} : sCmp a b ≠ 0 ↔ a ≠ b := by
 rw [ne_eq, yl6]
theorem pBf7 {a b : List V} (ha : gd a) (hb : gd b) : ybA (a.map v6) (b.map v6) (decide (rc a b < 0)) := by
 have la := ha.1
 have lb := hb.1
 refine ylG _ _ _ ?_
 have hla : (a.map v6).length = a.length := by simp
 have hlb : (b.map v6).length = b.length := by simp
 refine lp1 (fun i : Int => 0 <= i /\ i <= a.length /\ i <= b.length /\ rc (a.drop i.toNat) (b.drop i.toNat) = rc a b) (fun i => (a.length - i).toNat) ?_ ⟨by omega, by omega, by omega, by simp⟩
 rintro X i ⟨i0, i1, i2, hr⟩ ih
 have fin : (¬ i < (a.length : Int) ∨ ¬ i < (b.length : Int)) → ((a.map v6).length ≤ maxLen → ((b.map v6).length ≤ maxLen → (decide (((a.map v6).length : Int) < ((b.map v6).length : Int))) = decide (rc a b < 0))) := by
  intro hc _ _
  rw [hla, hlb, <- hr]
  rcases Nat.lt_or_ge i.toNat a.length with h1 | h1
  ·have h2 : b.drop i.toNat = [] := jbA (by omega)
   obtain ⟨y, hy⟩ := ybz (l := a) h1
   rw [h2, yfq hy, yvS]
   simp; omega
  ·rw [jbA h1, ysO, ja4]
   by_cases h3 : 0 < b.length - i.toNat
   ·rw [if_pos h3]; simp; omega
   ·rw [if_neg h3]; simp; omega
 have J : ∀ x2, x2 = (decide (i < (a.length : Int)) && decide (i < (b.length : Int))) → ybW X (a.map v6) (b.map v6) (decide (rc a b < 0)) i x2 := by
  rintro x2 rfl
  refine ⟨fun h => ?_, fun h => fin ?_⟩
  ·simp only [jab, decide_eq_true_eq] at h
   obtain ⟨y, hy⟩ := ybz (l := a) (n := i.toNat) (by omega)
   obtain ⟨z, hz⟩ := ybz (l := b) (n := i.toNat) (by omega)
   have gy := ha.2 y (jaB hy)
   have gz := hb.2 z (jaB hz)
   have my : (a.map v6)[i.toNat]? = some (v6 y) := by rw [jap, hy]; rfl
   have mz : (b.map v6)[i.toNat]? = some (v6 z) := by rw [jap, hz]; rfl
   rw [yfq hy, yfq hz] at hr
   rw [ytr] at hr
   refine ⟨i0, by rw [hla]; omega, _, my, i0, by rw [hlb]; omega, _, mz, ?_⟩
   rw [yzS]
   refine ⟨fun h => ?_, fun h => ?_⟩
   ·have hne : y ≠ z := fun e => by rw [e] at h; have := ymy.2 (rfl : z = z); rw [this] at h; cases h
    rw [if_pos (ys9.2 hne)] at hr
    refine ⟨i0, by rw [hla]; omega, _, my, i0, by rw [hlb]; omega, _, mz, _, ywu (v6 y) (v6 z) (by have := ytf gy; show y.S.length <= 1000; omega) (by have := ytf gz; show z.S.length <= 1000; omega), ?_⟩
    rw [<- hr]
    have := (yt6 gy gz).1
    cases hq : yeT (v6 y) (v6 z) with
    | true => rw [hq] at this; simp [this.2 rfl]
    | false =>
      have hn : ¬ sCmp y z < 0 := fun q => by rw [this.1 q] at hq; cases hq
      simp [hn]
   ·have he : eqV y z = true := by simpa using h
    have he := ymy.1 he
    rw [if_neg (by rw [ys9]; simp [he])] at hr
    rw [wrap64 (by omega) (by omega)]
    exact ih _ ⟨by omega, by omega, by omega, by rw [show (i + 1).toNat = i.toNat + 1 by omega]; exact hr⟩ (by omega)
  ·simp only [Bool.and_eq_false_iff, decide_eq_false_iff_not] at h; exact h
 unfold ydf
 rw [hla, hlb]
 refine fun _ => ⟨fun c => fun _ => J _ (by rw [c]; rfl), fun c => J _ (by rw [c]; rfl)⟩
def m7 (l : List (List V)) : List (List V6) := l.map (List.map v6)
theorem ycn (l : List (List V)) : (m7 l).length = l.length := by simp [m7]
theorem yh3 {l : List (List V)} {k : Nat} {y : List V} (h : l[k]? = some y) : (m7 l)[k]? = some (y.map v6) := by unfold m7; rw [jap, h]; rfl
theorem yox (a b : List (List V)) : m7 (a ++ b) = m7 a ++ m7 b := by simp [m7]
theorem tsl0 {α : Type} (A B : List α) : ydb (A ++ B) 0 (A.length : Int) = A := by unfold ydb; simp
theorem tsl1 {α : Type} (A B : List α) (n : Int) (hn : n = ((A ++ B).length : Int)) : ydb (A ++ B) (A.length : Int) n = B := by
 unfold ydb
 rw [hn, jaj]
 have e : (((A.length + B.length : Nat) : Int)).toNat - ((A.length : Nat) : Int).toNat = B.length := by omega
 rw [e]
 simp
theorem ytd {l : List (List V)} (hl : l.length ≤ 1000) (hq : ∀ y ∈ l, gd y) : ybN (m7 l) (m7 (srt lt7 [] l)) := by
 refine yn9 _ _ ?_
 refine lp2 (fun (o : List (List V6)) (i : Int) => 0 <= i /\ i <= l.length /\ o = m7 (srt lt7 [] (l.take i.toNat))) (fun _ i => (l.length - i).toNat) ?_ ⟨by omega, by omega, rfl⟩
 rintro X o i ⟨i0, i1, rfl⟩ ih
 unfold yed
 rw [ycn]
 refine fun _ => ⟨fun c => fun _ => ?_, fun c => ?_⟩
 ·have c : i < (l.length : Int) := by simpa using c
  obtain ⟨x, hx⟩ := ybz (l := l) (n := i.toNat) (by omega)
  have hp := yr1 lt7 (l.take i.toNat) []
  have hP : (srt lt7 [] (l.take i.toNat)).length = i.toNat := by rw [hp]; simp; omega
  have qP : ∀ y ∈ srt lt7 [] (l.take i.toNat), gd y := fun y hy => by
   rcases ysH hy with h | h
   ·cases h
   ·exact hq y (jbv h)
  have qx := hq x (jaB hx)
  have e1 : srt lt7 [] (l.take (i.toNat + 1)) = ins lt7 x (srt lt7 [] (l.take i.toNat)) := by
   rw [jbj, hx]
   exact yoQ lt7 x _ _
  generalize srt lt7 [] (l.take i.toNat) = P at *
  refine lp1 (fun k : Int => ∃ P1 P2, P = P1 ++ P2 /\ k = P1.length /\ ins lt7 x P = ins lt7 x P1 ++ P2) (fun k => k.toNat) ?_ ⟨P, [], by simp, by rw [ycn], by simp⟩
  rintro X2 k ⟨P1, P2, hPP, rfl, hins⟩ ih2
  have hL : P.length = P1.length + P2.length := by rw [hPP]; simp
  have stop : ins lt7 x P1 = P1 ++ [x] → ycv X X2 (m7 l) (m7 P) i (P1.length : Int) false := by
   intro h
   have s0 : ydb (m7 P) 0 (P1.length : Int) = m7 P1 := by rw [hPP, yox, <- ycn P1]; exact tsl0 _ _
   have s1 : ydb (m7 P) (P1.length : Int) ((m7 P).length : Int) = m7 P2 := by rw [hPP, yox, <- ycn P1]; exact tsl1 _ _ _ rfl
   refine yak rfl ⟨⟨by omega, by omega, by rw [ycn]; omega⟩, by rw [s0, ycn]; omega, i0, by rw [ycn]; omega, _, yh3 hx, by rw [s0, ja1, ycn]; omega, ⟨by omega, by rw [ycn]; omega, by omega⟩, ?_, by rw [s1, ycn]; omega, ?_⟩
   ·rw [s0]; simp [ycn]; omega
   ·rw [s0, s1, wrap64 (by omega) (by omega)]
    refine ih _ _ ⟨by omega, by omega, ?_⟩ (by omega)
    rw [show (i + 1).toNat = i.toNat + 1 by omega, e1, hins, h]
    simp [m7]
  rcases yhB P1 with rfl | ⟨P0, p, rfl⟩
  ·exact yak (by simp) (stop rfl)
  ·have hlen : ((P0 ++ [p]).length : Int) = (P0.length : Int) + 1 := by simp
   have hlenN : (P0 ++ [p]).length = P0.length + 1 := by simp
   have e2 : IntKind.i64.wrap (((P0 ++ [p]).length : Int) - 1) = (P0.length : Int) := by rw [hlen, wrap64 (by omega) (by omega)]; omega
   have hs := yqq lt7 x p P0
   have gp : P[P0.length]? = some p := by rw [hPP]; simp
   have qp := qP p (jaB gp)
   unfold yea
   rw [e2]
   refine yaC (by simp <;> omega) ⟨i0, by rw [ycn]; omega, _, yh3 hx, by omega, by rw [ycn]; omega, _, yh3 (k := P0.length) gp, lt7 x p, pBf7 qx qp, ?_⟩
   cases hx2 : lt7 x p with
   | false => exact stop (by rw [hs, hx2]; rfl)
   | true =>
     refine yaC rfl ?_
     rw [e2]
     exact ih2 _ ⟨P0, p :: P2, by rw [hPP]; simp, rfl, by rw [hins, hs, hx2]; simp⟩ (by omega)
 ·have c : ¬ i < (l.length : Int) := by simpa using c
  rw [jay (by omega)]
end Go.Proofs.Ytkmehmgocelkiaa
end
noncomputable section
namespace Go.Proofs.Ytkmehmgocelkiaa
open Go.AV Go.RowKit
abbrev Bg := yaf
noncomputable instance : DecidableEq yaa := fun a b => if h : eqV a b = true then isTrue (ymy.1 h) else isFalse fun e => h (ymy.2 e)
theorem ytl {l : Rw} (h : l.length ≤ 400000000) : yaM l l := by
 intro u hu
 exact ⟨fun c => (hu c).symm, fun _ => ⟨h, by simp⟩⟩
theorem pOf {l : List Rw} (hl : l.length <= 39) (hq : ∀ y ∈ l, Sh y) : yeQ l ⟨srt lt7 [] l⟩ := ⟨_, yuS hl hq, rfl⟩
theorem pLen (b : Bg) : ycp b b.rows.length := fun _ => rfl
theorem yyM {b : Bg} (hl : b.rows.length ≤ 1000) (hq : ∀ y ∈ b.rows, Sh y) : yb9 b b.rows := by
 unfold yb9
 intro _
 refine lp2 (fun (i : Int) (d : List Rw) => ∃ k : Nat, i = k /\ k <= b.rows.length /\ d = b.rows.take k) (fun i _ => (b.rows.length - i).toNat) ?_ ⟨0, rfl, by omega, by simp⟩
 rintro X i d ⟨k, rfl, hk, rfl⟩ ih
 unfold yg1
 refine ⟨fun c => ?_, fun c => ?_⟩
 ·have c : (k : Int) < b.rows.length := of_decide_eq_true c
  obtain ⟨y, hy⟩ := ybz (l := b.rows) (n := k) (by omega)
  have hs := hq y (jaB hy)
  refine ⟨by omega, c, y, hy, y, ytl (by have : y.length <= 100000000 := hs; omega), by simp; omega, ?_⟩
  rw [w1 (by omega)]
  exact ih _ _ ⟨k + 1, rfl, by omega, by rw [jbj, hy]; rfl⟩ (by omega)
 ·have c : ¬ (k : Int) < b.rows.length := of_decide_eq_false c
  rw [jay (by omega)]
theorem yxE {a b : Rw} (ha : Sh a) : yeH a b (rc a b == 0) := ⟨_, ye6 ha, rfl⟩
theorem yv9 {a b : List Rw} (ha : a.length ≤ 1000) (hq : ∀ y ∈ a, Sh y) : ybw a b yeH (decide (a = b)) := by
 unfold ybw
 intro _ _
 refine ⟨fun c => ?_, fun c _ => ?_⟩
 ·have c : ¬ (a.length : Int) = b.length := by simpa using c
  have : ¬ a = b := fun e => c (by rw [e])
  simp [this]
 ·have c : (a.length : Int) = b.length := by simpa using c
  refine lp1 (fun (i : Int) => ∃ k : Nat, i = k /\ k <= a.length /\ a.take k = b.take k) (fun i => (a.length - i).toNat) ?_ ⟨0, rfl, by omega, by simp⟩
  rintro X i ⟨k, rfl, hk, he⟩ ih
  unfold ydH
  refine ⟨fun c2 => ?_, fun c2 => ?_⟩
  ·have c2 : (k : Int) < a.length := of_decide_eq_true c2
   obtain ⟨x, hx⟩ := ybz (l := a) (n := k) (by omega)
   obtain ⟨y, hy⟩ := ybz (l := b) (n := k) (by omega)
   refine ⟨by omega, c2, x, hx, by omega, by omega, y, hy, _, yxE (hq x (jaB hx)), fun d => ?_, fun d => ?_⟩
   ·have d : ¬ rc x y = 0 := by simpa using d
    have : ¬ a = b := fun e => by rw [e, hy] at hx; cases hx; exact d (rc_0.2 rfl)
    simp [this]
   ·have d : rc x y = 0 := by simpa using d
    have d := rc_0.1 d
    subst d
    rw [w1 (by omega)]
    exact ih _ ⟨k + 1, rfl, by omega, by rw [jbj, jbj, hx, hy, he]⟩ (by omega)
  ·have c2 : ¬ (k : Int) < a.length := of_decide_eq_false c2
   rw [jay (by omega), jay (by omega)] at he
   simp [he]
theorem yyN {a b : Bg} (ha : a.rows.length <= 1000) (hq : ∀ y ∈ a.rows, Sh y) : yds a b (decide (a.rows = b.rows)) := ⟨_, yv9 ha hq, rfl⟩
theorem yx7 {l : List Bg} (hl : l.length ≤ 1000) (hb : (l.flatMap (·.rows)).length ≤ 39) (hq : ∀ y ∈ l.flatMap (·.rows), Sh y) : ycw l ⟨srt lt7 [] (l.flatMap (·.rows))⟩ := by
 unfold ycw
 intro _
 refine lp2 (fun (i : Int) (d : List Rw) => ∃ A B, l = A ++ B /\ i = (A.length : Int) /\ d = A.flatMap (·.rows)) (fun i _ => (l.length - i).toNat) ?_ ⟨[], l, rfl, rfl, rfl⟩
 rintro X i d ⟨A, B, e, rfl, rfl⟩ ih
 have hll : l.length = A.length + B.length := by rw [e]; simp
 have hfl : (l.flatMap (·.rows)).length = (A.flatMap (·.rows)).length + (B.flatMap (·.rows)).length := by rw [e]; simp only [List.flatMap_append, jaj]
 unfold yky
 refine ⟨fun c => ?_, fun c => ?_⟩
 ·have c : (A.length : Int) < l.length := of_decide_eq_true c
  cases B with
  | nil => simp only [jbb] at hll; omega
  | cons x B =>
    have hx : ((x :: B).flatMap (·.rows)).length = x.rows.length + (B.flatMap (·.rows)).length := by rw [jbF, jaj]
    refine ⟨by omega, c, x, by rw [jaH, e]; simp, by omega, by omega, ?_⟩
    rw [w1 (by omega)]
    refine ih _ _ ⟨A ++ [x], B, by rw [e]; simp, by simp, by simp⟩ (by omega)
 ·have c : ¬ (A.length : Int) < l.length := of_decide_eq_false c
  have : B = [] := ja2.1 (by omega)
  subst this
  have e' : l = A := by rw [e]; simp
  subst e'
  exact ⟨_, pOf hb hq, rfl⟩
def uqf : Option Rw → List Rw → List Rw
 | _, [] => []
 | none, x :: r => x :: uqf (some x) r
 | some p, x :: r => if rc p x = 0 then uqf (some x) r else x :: uqf (some x) r
def yi1 (p : Option Rw) : List Rw → Option Rw
 | [] => p
 | x :: r => yi1 (some x) r
theorem yoo (A B : List Rw) : ∀ p, yi1 p (A ++ B) = yi1 (yi1 p A) B := by
 induction A with
 | nil => intro p; rfl
 | cons x A ih => intro p; exact ih (some x)
theorem ysl (x : Rw) (k : Nat) : yi1 (some x) (List.replicate k x) = some x := by
 induction k with
 | zero => rfl
 | succ k ih => exact ih
theorem yrV (A B : List Rw) : ∀ p, uqf p (A ++ B) = uqf p A ++ uqf (yi1 p A) B := by
 induction A with
 | nil => intro p; cases p <;> rfl
 | cons x A ih =>
   intro p
   cases p with
   | none => simp only [jaN, uqf, yi1]; rw [ih]
   | some q =>
     simp only [jaN, uqf, yi1]
     rw [ih]
     split <;> rfl
theorem yrE (x : Rw) (k : Nat) : uqf (some x) (List.replicate k x) = [] := by
 induction k with
 | zero => rfl
 | succ k ih => rw [ja8]; simp only [uqf]; rw [if_pos (rc_0.2 rfl)]; exact ih
def uq (l : List Rw) : List Rw := uqf none l
theorem yyi {A : List Rw} {x : Rw} {k : Nat} (h : ∀ p, yi1 none A = some p → p ≠ x) : uq (A ++ List.replicate (k + 1) x) = uq A ++ [x] := by
 unfold uq
 rw [yrV, ja8]
 congr 1
 have key : ∀ q : Option Rw, (∀ p, q = some p → p ≠ x) → uqf q (x :: List.replicate k x) = [x] := by
  intro q hq
  cases q with
  | none => simp only [uqf]; rw [yrE]
  | some p => simp only [uqf]; rw [if_neg (fun e => hq p rfl (rc_0.1 e)), yrE]
 exact key _ h
theorem ysd (l : List Rw) : ∀ p, (uqf p l).length ≤ l.length := by
 induction l with
 | nil => intro p; simp [uqf]
 | cons x l ih =>
   intro p
   have := ih (some x)
   cases p with
   | none => simp only [uqf, jaG]; omega
   | some q => simp only [uqf]; split <;> simp only [jaG] <;> omega
theorem ynV {l : List Rw} (hl : l.length ≤ 1000) (hq : ∀ y ∈ l, Sh y) : ya2 ⟨l⟩ ⟨uq l⟩ := by
 apply yiv
 refine ⟨l, rfl, fun _ => ?_⟩
 refine lp2 (fun (i : Int) (d : List Rw) => ∃ A B, l = A ++ B /\ i = (A.length : Int) /\ d = uq A /\ ∀ p x, yi1 none A = some p -> B.head? = some x -> p ≠ x) (fun i _ => (l.length - i).toNat) ?_ ⟨[], l, rfl, rfl, rfl, fun p x h => by cases h⟩
 rintro X i d ⟨A, B, e, rfl, rfl, hne⟩ ih
 have hll : l.length = A.length + B.length := by rw [e]; simp
 unfold ycf
 intro _
 refine ⟨fun c => ?_, fun c => ?_⟩
 ·have c : (A.length : Int) < l.length := of_decide_eq_true c
  obtain ⟨x, B, rfl⟩ : ∃ x T, B = x :: T := by
   cases B with
   | nil => exfalso; simp only [jbb] at hll; omega
   | cons x T => exact ⟨x, T, rfl⟩
  ·skip
   have gx : l[A.length]? = some x := by rw [e]; exact ycL _ _ _
   have sx := hq x (jaB gx)
   refine lp2 (fun (n : Int) (d : List Rw) => ∃ k C, n = ((k + 1 : Nat) : Int) /\ x :: B = List.replicate (k + 1) x ++ C /\ d = uq A) (fun n _ => (l.length - n).toNat) ?_ ⟨0, B, rfl, rfl, rfl⟩
   rintro X2 n d ⟨k, C, rfl, he, rfl⟩ ih2
   have hlC : l.length = A.length + (k + 1) + C.length := by rw [e, he]; simp; omega
   have wk : IntKind.i64.wrap ((A.length : Int) + ((k + 1 : Nat) : Int)) = ((A.length + (k + 1) : Nat) : Int) := by rw [wrap64 (by omega) (by omega)]; omega
   have wk1 : IntKind.i64.wrap (((k + 1 : Nat) : Int) + 1) = ((k + 1 + 1 : Nat) : Int) := by rw [wrap64 (by omega) (by omega)]; omega
   have gC : ∀ y T, C = y :: T → l[A.length + (k + 1)]? = some y := by
    intro y T hC
    have hA2 : (A ++ List.replicate (k + 1) x).length = A.length + (k + 1) := by simp
    rw [e, he, hC, <- jai, <- hA2]; exact ycL _ _ _
   have stop : (∀ y, C.head? = some y → y ≠ x) → ybh X X2 (A.length : Int) ((k + 1 : Nat) : Int) l false (uq A) := by
    intro hy
    refine yak rfl ⟨by omega, c, x, gx, x, ytl (by have : x.length <= 100000000 := sx; omega), by have := ysd A none; unfold uq; omega, ?_⟩
    rw [wk]
    refine ih _ _ ⟨A ++ List.replicate (k + 1) x, C, by rw [e, he]; simp, by simp, ?_, fun p y hp hC => ?_⟩ (by omega)
    ·exact (yyi fun p hp => hne p x hp rfl).symm
    ·rw [yoo, ja8, yi1, ysl] at hp
     cases hp
     exact fun q => hy y hC q.symm
   unfold ycc
   rw [wk]
   refine ⟨fun c2 => ?_, fun c2 => ?_⟩
   ·have c2 := of_decide_eq_true c2
    cases hC : C with
    | nil => rw [hC] at hlC; simp only [jbb] at hlC; omega
    | cons y T =>
      refine ⟨by omega, c, x, gx, by omega, by omega, y, gC y T hC, _, ye6 sx, ?_⟩
      by_cases h0 : rc x y = 0
      ·have hxy := rc_0.1 h0
       rw [h0]
       refine yaC rfl ?_
       rw [wk1]
       exact ih2 _ _ ⟨k + 1, T, rfl, by rw [he, hC, <- hxy, List.replicate_succ' (n := k + 1)]; simp, rfl⟩ (by omega)
      ·rw [show (rc x y == 0) = false by simpa using h0]
       refine stop fun z hz => ?_
       rw [hC] at hz; cases hz
       exact fun q => h0 (rc_0.2 q.symm)
   ·have c2 := of_decide_eq_false c2
    have : C = [] := ja2.1 (by omega)
    exact stop fun y hy => by rw [this] at hy; cases hy
 ·have c : ¬ (A.length : Int) < l.length := of_decide_eq_false c
  have : B = [] := ja2.1 (by omega)
  subst this
  rw [e, jbl]
end Go.Proofs.Ytkmehmgocelkiaa
end
noncomputable section
namespace Go.Proofs.Ytkmehmgocelkiaa
open Go.AV Go.RowKit
abbrev LV := yac
def told (x : LV) : V := if x.Kind % 4 = 1 then ⟨1, x.N % 2, []⟩ else if x.Kind % 4 = 2 then ⟨2, x.N, []⟩ else if x.Kind % 4 = 3 then ⟨3, 0, x.S.take 64⟩ else ⟨0, 0, []⟩
def LOk (x : LV) : Prop := 0 <= x.Kind /\ x.Kind <= 255 /\ 0 <= x.N /\ x.N <= 255
theorem ysi {x : LV} (h : LOk x) : good (told x) := by
 obtain ⟨h1, h2, h3, h4⟩ := h
 unfold told good
 have : x.N % 2 = 0 ∨ x.N % 2 = 1 := by omega
 split
 ·exact .inr (.inl ⟨rfl, this, rfl⟩)
 ·split
  ·exact .inr (.inr (.inl ⟨rfl, by unfold Rg; simp only; omega, rfl⟩))
  ·split
   ·exact .inr (.inr (.inr ⟨rfl, rfl, by simp; omega⟩))
   ·exact .inl ⟨rfl, rfl, rfl⟩
theorem ywT {n : Int} (h : 0 ≤ n) (k : n ≤ 255) : bits .and .u8 n 1 = n % 2 := by
 have h1 : (BitVec.ofInt 8 1).toNat = 2 ^ 1 - 1 := by decide
 have key : (BitVec.ofInt 8 n &&& BitVec.ofInt 8 1).toNat = (n % ((2 ^ 8 : Nat) : Int)).toNat % 2 ^ 1 := by
  rw [BitVec.toNat_and, jbP, h1, Nat.and_two_pow_sub_one_eq_mod]
 show IntKind.u8.wrap ((BitVec.ofInt 8 n &&& BitVec.ofInt 8 1).toNat : Nat) = n % 2
 rw [key, ynB]
 omega
def yj9 (l : List LV) : Rw := (l.take 4).map told
theorem yrf {l : List LV} (h : ∀ x ∈ l, LOk x) : gd (yj9 l) := by
 refine ⟨by simp [yj9]; omega, fun v hv => ?_⟩
 obtain ⟨x, hx, rfl⟩ := jaf.1 hv
 exact ysi (h x (jbv hx))
theorem yyw {l : List LV} (h : ∀ x ∈ l, LOk x) : ycD l (yj9 l) ((yj9 l).map v6) := by
 apply ynK
 refine lp3 (fun (x : Int) (y : List V) (z : List V6) => ∃ i : Nat, x = i /\ i <= l.length /\ i <= 4 /\ y = (l.take i).map told /\ z = ((l.take i).map told).map v6) (fun (x : Int) (_ : List V) (_ : List V6) => l.length - x.toNat) ?_ ⟨0, rfl, by omega, by omega, by simp, by simp⟩
 rintro X x y z ⟨i, rfl, hi, hi9, rfl, rfl⟩ hX
 have done : ¬ (i < l.length ∧ i < 4) → yb5 X l (yj9 l) ((yj9 l).map v6) i false ((l.take i).map told) (((l.take i).map told).map v6) := by
  intro hd
  have e : l.take i = l.take 4 := by
   by_cases h9 : i = 4
   ·rw [h9]
   ·rw [jay (show l.length <= i by omega), jay (show l.length <= 4 by omega)]
  rw [e]
  exact ⟨fun q => (by cases q), fun _ => ⟨rfl, rfl⟩⟩
 simp only [yei]
 intro _
 refine ⟨fun c => ?_, fun c => ?_⟩
 ·have c : (i : Int) < l.length := of_decide_eq_true c
  have hlt : i < l.length := by omega
  by_cases h9 : i < 4
  ·have e9 : decide ((i : Int) < 4) = true := decide_eq_true (by omega)
   rw [e9]
   obtain ⟨h1, h2, h3, h4⟩ := h _ (jbs hlt)
   have hk : IntKind.i64.wrap (l[i].Kind.tmod 4) = l[i].Kind % 4 := by
    rw [Int.tmod_eq_emod_of_nonneg h1]; exact wrap64 (by omega) (by omega)
   have fin : ∀ n s, (⟨l[i].Kind % 4, n, s⟩ : V) = told l[i] → ybO X i l[i] n s ((l.take i).map told) (((l.take i).map told).map v6) := by
    intro n s e
    have hl1 : ((l.take i).map told).length <= 1000000000 := by simp; omega
    refine ⟨hl1, by rw [jaM]; exact hl1, ?_⟩
    rw [w1 (by omega), hk]
    refine hX _ _ _ ⟨i + 1, rfl, by omega, by omega, ?_, ?_⟩ (by omega)
    ·rw [jaE hlt, jaO, e]; rfl
    ·rw [jaE hlt, jaO, jaO, jav, jbK, <- e]; rfl
   simp only [yb5]
   refine ⟨fun _ => ⟨by omega, c, _, gAt hlt, ?_⟩, fun q => (by cases q)⟩
   rw [hk]
   refine ⟨fun k => ⟨by omega, c, _, gAt hlt, fin _ _ ?_⟩, fun k1 => ⟨fun k => ⟨by omega, c, _, gAt hlt, fin _ _ ?_⟩, fun k2 => ⟨fun k => ⟨by omega, c, _, gAt hlt, by omega, c, _, gAt hlt, ?_, fin _ _ ?_⟩, fun k3 => fin _ _ ?_⟩⟩⟩
   ·have k : l[i].Kind % 4 = 1 := by simpa using k
    rw [ywT h3 h4, wrap64 (by omega) (by omega)]; simp [told, k]
   ·have k : l[i].Kind % 4 = 2 := by simpa using k
    rw [wrap64 (by omega) (by omega)]; simp [told, k]
   ·split <;> omega
   ·have k : l[i].Kind % 4 = 3 := by simpa using k
    have e : (List.take ((if (64 : Int) < (l[i].S.length : Int) then (64 : Int) else (l[i].S.length : Int)).toNat - (0 : Int).toNat) (List.drop (0 : Int).toNat l[i].S)) = l[i].S.take 64 := by
     split
     ·simp
     ·have : l[i].S.length ≤ 64 := by omega
      simp [jay this]
    rw [e]; simp [told, k]
   ·have k1 : ¬ l[i].Kind % 4 = 1 := by simpa using k1
    have k2 : ¬ l[i].Kind % 4 = 2 := by simpa using k2
    have k3 : ¬ l[i].Kind % 4 = 3 := by simpa using k3
    have : l[i].Kind % 4 = 0 := by omega
    simp [told, this]
  ·have e9 : decide ((i : Int) < 4) = false := decide_eq_false (by omega)
   rw [e9]; exact done (fun q => h9 q.2)
 ·have c : ¬ (i : Int) < l.length := of_decide_eq_false c
  exact done (fun q => by omega)
def ynx (l : List (List LV)) : List Rw := (l.take 12).map yj9
def LLOk (l : List (List LV)) : Prop := ∀ r ∈ l, ∀ x ∈ r, LOk x
def Gd (l : List Rw) : Prop := ∀ y ∈ l, gd y
theorem Gd.sh {l : List Rw} (h : Gd l) : ∀ y ∈ l, Sh y := fun y hy => by have := (h y hy).1; unfold Sh; omega
theorem yqt {l : List (List LV)} (h : LLOk l) : Gd (ynx l) := by
 intro y hy
 obtain ⟨x, hx, rfl⟩ := jaf.1 hy
 exact yrf (h x (jbv hx))
theorem ynQ (l : List (List LV)) : (ynx l).length <= 12 := by simp [ynx]; omega
theorem yvh {l : List (List LV)} (h : LLOk l) : ybX l (ynx l) (m7 (ynx l)) := by
 apply yoI
 refine lp3 (fun (x : Int) (y : List Rw) (z : List (List V6)) => ∃ i : Nat, x = i /\ i <= l.length /\ i <= 12 /\ y = (l.take i).map yj9 /\ z = m7 ((l.take i).map yj9)) (fun (x : Int) (_ : List Rw) (_ : List (List V6)) => l.length - x.toNat) ?_ ⟨0, rfl, by omega, by omega, by simp, by simp [m7]⟩
 rintro X x y z ⟨i, rfl, hi, hi9, rfl, rfl⟩ hX
 have done : ¬ (i < l.length ∧ i < 12) → ycs X l (ynx l) (m7 (ynx l)) i false ((l.take i).map yj9) (m7 ((l.take i).map yj9)) := by
  intro hd
  have e : l.take i = l.take 12 := by
   by_cases h9 : i = 12
   ·rw [h9]
   ·rw [jay (show l.length <= i by omega), jay (show l.length <= 12 by omega)]
  rw [e]
  exact ⟨fun q => (by cases q), fun _ => ⟨rfl, rfl⟩⟩
 simp only [yeo]
 intro _
 refine ⟨fun c => ?_, fun c => ?_⟩
 ·have c : (i : Int) < l.length := of_decide_eq_true c
  have hlt : i < l.length := by omega
  by_cases h9 : i < 12
  ·have e9 : decide ((i : Int) < 12) = true := decide_eq_true (by omega)
   rw [e9]
   have hl1 : ((l.take i).map yj9).length <= 1000000000 := by simp; omega
   refine ⟨fun _ => ⟨by omega, c, _, gAt hlt, _, _, yyw (h _ (jbs hlt)), hl1, by rw [ycn]; exact hl1, ?_⟩, fun q => (by cases q)⟩
   rw [w1 (by omega)]
   refine hX _ _ _ ⟨i + 1, rfl, by omega, by omega, ?_, ?_⟩ (by omega)
   ·rw [jaE hlt, jaO]; rfl
   ·rw [jaE hlt, jaO, yox]; rfl
  ·have e9 : decide ((i : Int) < 12) = false := decide_eq_false (by omega)
   rw [e9]; exact done (fun q => h9 q.2)
 ·have c : ¬ (i : Int) < l.length := of_decide_eq_false c
  exact done (fun q => by omega)
def vI (n : Int) : V := ⟨2, n, []⟩
theorem yy6 : srt lt7 [] [[vI 1], [vI 0], [vI 1]] = [[vI 0], [vI 1], [vI 1]] := by decide
theorem yzB : uq [[vI 0], [vI 1], [vI 1]] = [[vI 0], [vI 1]] := by decide
theorem ywt : yc9 true := by
 have sh : ∀ l : List Rw, (∀ y ∈ l, y.length <= 1) -> ∀ y ∈ l, Sh y := fun l h y hy => by have := h y hy; unfold Sh; omega
 have ho := pOf (l := [[vI 1], [vI 0], [vI 1]]) (by simp) (sh _ (by simp))
 rw [yy6] at ho
 have hr := yyM (b := ⟨[[vI 0], [vI 1], [vI 1]]⟩) (by simp) (sh _ (by simp))
 have hd := ynV (l := [[vI 0], [vI 1], [vI 1]]) (by simp) (sh _ (by simp))
 rw [yzB] at hd
 refine ⟨_, ypW 1, _, ypW 0, _, ho, _, hr, fun J hJ => ⟨_, pLen _, yaC (by rfl) ⟨_, hd, _, pLen _, yaC (by rfl) (yaC (by rfl) ⟨by omega, by simp, _, rfl, by omega, by simp, _, rfl, _, ypW 0, yaC (by rfl) ⟨by omega, by simp, _, rfl, by omega, by simp, _, rfl, _, ypW 1, ?_⟩⟩)⟩⟩⟩
 exact hJ _ rfl
end Go.Proofs.Ytkmehmgocelkiaa
end
noncomputable section
namespace Go.Proofs.Ytkmehmgocelkiaa
open Go.AV Go.RowKit
def sBag (l : List Rw) : Str := yco (l.map sKey)
def Vd (y : Rw) : Prop := y.length <= 1000000 /\ ∀ v ∈ y, good v
theorem gd.vd {y : Rw} (h : gd y) : Vd y := ⟨by have := h.1; omega, h.2⟩
theorem yrW {b : Bg} (hq : ∀ y ∈ b.rows, Vd y) (hb : (sBag b.rows).length ≤ 100000000) : ybZ b (sBag b.rows) := by
 unfold ybZ
 intro _
 have hn := ylk (b.rows.map sKey)
 rw [jaM] at hn
 have hn : 4 * b.rows.length <= (sBag b.rows).length := hn
 refine lp2 (fun (x : Int) (y : List Str) => ∃ i : Nat, x = i /\ i <= b.rows.length /\ y = (b.rows.take i).map sKey) (fun (x : Int) (_ : List Str) => b.rows.length - x.toNat) ?_ ⟨0, rfl, by omega, by simp⟩
 rintro X x y ⟨i, rfl, hi, rfl⟩ hX
 unfold yhR
 refine ⟨fun c => ?_, fun c => ?_⟩
 ·have c : (i : Int) < b.rows.length := of_decide_eq_true c
  have hlt : i < b.rows.length := by omega
  have hv := hq _ (jbs hlt)
  refine ⟨by omega, c, _, gAt hlt, _, yyC hv.1 hv.2, by simp; omega, ?_⟩
  rw [w1 (by omega)]
  refine hX _ _ ⟨i + 1, rfl, by omega, ?_⟩ (by omega)
  rw [jaE hlt, jaO]; rfl
 ·have c : ¬ (i : Int) < b.rows.length := of_decide_eq_false c
  rw [jay (by omega)]
  exact ⟨_, yvo hb, rfl⟩
theorem Sd.at {l : List Rw} (h : Sd lt7 l) {i : Nat} {x y : Rw} (hx : l[i]? = some x) (hy : l[i + 1]? = some y) : lt7 y x = false := by
 obtain ⟨h1, rfl⟩ := jae.1 hx
 obtain ⟨h2, rfl⟩ := jae.1 hy
 exact List.pairwise_iff_getElem.1 h i (i + 1) h1 h2 (by omega)
theorem yt2 {l : List Rw} {r : Bool} (hl : l.length ≤ 100000000) (hq : ∀ y ∈ l, Sh y) (h : (r = true ∧ Sd lt7 l) ∨ (r = false ∧ ∃ i x y, l[i]? = some x ∧ l[i + 1]? = some y ∧ lt7 y x = true)) : ya7 l ya9 r := by
 unfold ya7
 intro _
 rw [show IntKind.i64.wrap ((l.length : Int) - (1 : Int)) = (l.length : Int) - 1 from wrap64 (by omega) (by omega)]
 refine lp1 (fun (i : Int) => i + 1 <= l.length /\ (r = false -> ∃ (k : Nat) (x y : Rw), l[k]? = some x /\ l[k + 1]? = some y /\ lt7 y x = true /\ (k : Int) + 1 <= i)) (fun i => i.toNat) ?_ ⟨by omega, fun hr => ?_⟩
 ·rintro X i ⟨hi, hd⟩ ih
  unfold yc1
  refine ⟨fun c => ?_, fun c => ?_⟩
  ·have c : 0 < i := of_decide_eq_true c
   obtain ⟨k, rfl⟩ : ∃ k : Nat, i = ((k + 1 : Nat) : Int) := ⟨i.toNat - 1, by omega⟩
   obtain ⟨x, hx⟩ := ybz (l := l) (n := k) (by omega)
   obtain ⟨y, hy⟩ := ybz (l := l) (n := k + 1) (by omega)
   rw [show IntKind.i64.wrap (((k + 1 : Nat) : Int) - 1) = (k : Int) by rw [wrap64 (by omega) (by omega)]; omega]
   refine ⟨by omega, by omega, y, hy, by omega, by omega, x, hx, _, ye6 (hq y (jaB hy)), fun c2 => ?_, fun c2 => ?_⟩
   ·have c2 : lt7 y x = true := c2
    rcases h with ⟨rfl, hs⟩ | ⟨rfl, _⟩
    ·rw [hs.at hx hy] at c2; cases c2
    ·rfl
   ·have c2 : lt7 y x = false := c2
    refine ih _ ⟨by omega, fun hr => ?_⟩ (by omega)
    obtain ⟨j, a, b, h1, h2, h3, h4⟩ := hd hr
    by_cases hjk : j = k
    ·subst hjk
     rw [hx] at h1; rw [hy] at h2; cases h1; cases h2
     rw [c2] at h3; cases h3
    ·exact ⟨j, a, b, h1, h2, h3, by omega⟩
  ·have c : ¬ 0 < i := of_decide_eq_false c
   cases r with
   | true => rfl
   | false => obtain ⟨j, a, b, h1, h2, h3, h4⟩ := hd rfl; omega
 ·rcases h with ⟨rfl, _⟩ | ⟨_, k, x, y, h1, h2, h3⟩
  ·cases hr
  ·have := (jae.1 h2).1
   exact ⟨k, x, y, h1, h2, h3, by omega⟩
theorem yuA (s : Str) : (sGet s).1.length ≤ s.length := by
 unfold sGet
 cases hs : yeP s with
 | none => simp
 | some l =>
   simp only
   have := yjq hs
   split <;> simp <;> omega
def gErr : List Str → Int
 | [] => 0
 | t :: r => if (sGet t).2 ≠ 0 then (sGet t).2 else gErr r
def ygE (l : List Str) : List Rw := l.map fun t => (sGet t).1
theorem ywN {s : Str} {l : List Str} {b : Bg} {e : Int} (hl : s.length ≤ 100000000) (h : yeP s = some l)
  (hr : (gErr l ≠ 0 /\ b = ⟨[]⟩ /\ e = gErr l) ∨ (gErr l = 0 /\ Sd lt7 (ygE l) /\ b = ⟨ygE l⟩ /\ e = 0) ∨ (gErr l = 0 /\ (∃ i x y, (ygE l)[i]? = some x /\ (ygE l)[i + 1]? = some y /\ lt7 y x = true) /\ b = ⟨[]⟩ /\ e = 4)) : yeW s b e := by
 unfold yeW
 have hsp := yvB hl
 rw [h] at hsp
 have hlen := yjq h
 have hparts := (ynv h).2
 refine ⟨_, _, hsp, yak rfl fun _ => ?_⟩
 show ∀ X1 : Int -> List Rw -> Prop, (∀ x3 x4, yjI l b e X1 x3 x4 -> X1 x3 x4) -> X1 0 []
 refine lp2 (fun (i : Int) (d : List Rw) => ∃ A B, l = A ++ B /\ i = (A.length : Int) /\ d = ygE A /\ gErr l = gErr B) (fun i _ => (l.length - i).toNat) ?_ ⟨[], l, rfl, rfl, rfl, rfl⟩
 rintro X i d ⟨A, B, eAB, rfl, rfl, hB⟩ ih
 have hll : l.length = A.length + B.length := by rw [eAB]; simp
 unfold yjI
 refine ⟨fun c => ?_, fun c => ?_⟩
 ·have c : (A.length : Int) < l.length := of_decide_eq_true c
  obtain ⟨t, B, rfl⟩ : ∃ x T, B = x :: T := by
   cases B with
   | nil => exfalso; simp only [jbb] at hll; omega
   | cons x T => exact ⟨x, T, rfl⟩
  have gt : l[A.length]? = some t := by rw [eAB]; exact ycL _ _ _
  have ht := hparts t (jaB gt)
  refine ⟨by omega, c, t, gt, _, _, pGet (by omega), fun c2 => ?_, fun c2 => ⟨by simp [ygE]; omega, ?_⟩⟩
  ·have c2 : ¬ (sGet t).2 = 0 := by simpa using c2
   have hg : gErr l = (sGet t).2 := by rw [hB]; unfold gErr; rw [if_pos c2]
   rcases hr with ⟨_, rfl, rfl⟩ | ⟨h0, _⟩ | ⟨h0, _⟩
   ·exact ⟨rfl, hg.symm⟩
   ·rw [hg] at h0; exact absurd h0 c2
   ·rw [hg] at h0; exact absurd h0 c2
  ·have c2 : (sGet t).2 = 0 := by simpa using c2
   rw [w1 (by omega)]
   refine ih _ _ ⟨A ++ [t], B, by rw [eAB]; simp, by simp, by simp [ygE], by rw [hB]; unfold gErr; rw [if_neg (by simpa using c2)]; cases B <;> rfl⟩ (by omega)
 ·have c : ¬ (A.length : Int) < l.length := of_decide_eq_false c
  have : B = [] := ja2.1 (by omega)
  subst this
  have e' : l = A := by rw [eAB]; simp
  rw [<- e']
  have h0 : gErr l = 0 := by rw [hB]; rfl
  have hrl : (ygE l).length = l.length := by simp [ygE]
  have hsh : ∀ y ∈ ygE l, Sh y := by
   intro y hy
   obtain ⟨t, ht, rfl⟩ := jaf.1 hy
   have a := yuA t
   have b := hparts t ht
   unfold Sh; omega
  rcases hr with ⟨hn, _⟩ | ⟨_, hs, rfl, rfl⟩ | ⟨_, hd, rfl, rfl⟩
  ·exact absurd h0 hn
  ·exact ⟨true, yt2 (by omega) hsh (.inl ⟨rfl, hs⟩), yak rfl ⟨rfl, rfl⟩⟩
  ·exact ⟨false, yt2 (by omega) hsh (.inr ⟨rfl, hd⟩), yaC rfl ⟨rfl, rfl⟩⟩
end Go.Proofs.Ytkmehmgocelkiaa
end
noncomputable section
namespace Go.Proofs.Ytkmehmgocelkiaa
open Go.AV Go.RowKit
theorem Gd.srt {l : List Rw} (h : Gd l) : Gd (srt lt7 [] l) := fun y hy => h y ((ybQ l).subset hy)
theorem Gd.app {a b : List Rw} (h : Gd a) (k : Gd b) : Gd (a ++ b) := fun y hy => (jar.1 hy).elim (h y) (k y)
theorem gd.key {y : Rw} (h : gd y) : (sKey y).length ≤ 700 := by
 have h2 := yi5 (yjd h.2)
 rw [jaM] at h2
 have h3 : y.length * (65 + 4) <= 9 * (65 + 4) := jbi _ h.1
 unfold sKey; omega
theorem Gd.keys {l : List Rw} (h : Gd l) : ∀ s ∈ l.map sKey, s.length ≤ 700 := by
 intro s hs
 obtain ⟨y, hy, rfl⟩ := jaf.1 hs
 exact (h y hy).key
theorem Gd.bag {l : List Rw} (h : Gd l) (hl : l.length ≤ 1000) : (sBag l).length ≤ 1000000 := by
 have := yi5 h.keys
 rw [jaM] at this
 have h3 : l.length * (700 + 4) <= 1000 * (700 + 4) := jbi _ hl
 unfold sBag; omega
theorem Gd.split {l : List Rw} (h : Gd l) : yeP (sBag l) = some (l.map sKey) := yk9 fun s hs => by have := h.keys s hs; omega
theorem ysM {l : List Rw} (h : Gd l) : gErr (l.map sKey) = 0 := by
 induction l with
 | nil => rfl
 | cons y l ih =>
   rw [jav]
   unfold gErr
   rw [ynj (h y (by simp)).2, if_neg (by simp)]
   exact ih fun z hz => h z (by simp [hz])
theorem yfW {l : List Rw} (h : Gd l) : ygE (l.map sKey) = l := by
 unfold ygE
 rw [jbq]
 conv => rhs; rw [<- List.map_id l]
 refine jaS fun y hy => ?_
 show (sGet (sKey y)).1 = y
 rw [ynj (h y hy).2]
theorem yvG {l : List Rw} (h : Gd l) (hl : l.length ≤ 1000) (hs : Sd lt7 l) : yeW (sBag l) ⟨l⟩ 0 :=
 ywN (by have := h.bag hl; omega) h.split (.inr (.inl ⟨ysM h, by rw [yfW h]; exact hs, by rw [yfW h], rfl⟩))
theorem yuF {a b : List Rw} (ha : Gd a) (hb : Gd b) (h : sBag a = sBag b) : a = b := by
 have h1 := ha.split
 rw [h, hb.split] at h1
 have h2 := yfW ha
 rw [<- jaF h1, yfW hb] at h2
 exact h2.symm
theorem ywh {p : List Rw} (hl : p.length ≤ 1000) (h : Gd p) : yb8 (m7 p) (sBag (srt lt7 [] p)) := by
 unfold yb8
 refine ⟨_, ytd hl h, ?_⟩
 have hs := h.srt
 have hln := ycU lt7 p
 generalize srt lt7 [] p = z at *
 refine lp2 (fun (x : Int) (y : List Str) => ∃ i : Nat, x = i /\ i <= z.length /\ y = (z.take i).map sKey) (fun (x : Int) (_ : List Str) => z.length - x.toNat) ?_ ⟨0, rfl, by omega, by simp⟩
 rintro X x y ⟨i, rfl, hi, rfl⟩ hX
 unfold yjR
 rw [ycn]
 intro _
 refine ⟨fun c => ?_, fun c => ?_⟩
 ·have c : (i : Int) < z.length := of_decide_eq_true c
  have hlt : i < z.length := by omega
  have hv := hs _ (jbs hlt)
  refine ⟨by omega, c, _, yh3 (gAt hlt), _, yyP (by have := hv.1; omega) hv.2, by simp; omega, ?_⟩
  rw [w1 (by omega)]
  refine hX _ _ ⟨i + 1, rfl, by omega, ?_⟩ (by omega)
  rw [jaE hlt, jaO]; rfl
 ·have c : ¬ (i : Int) < z.length := of_decide_eq_false c
  rw [jay (by omega)]
  exact ⟨_, ytm (by have := hs.bag (by omega); unfold sBag at this; omega), rfl⟩
theorem yq0 {p : List Rw} (hl : p.length ≤ 1000) (h : Gd p) : yaG ⟨srt lt7 [] p⟩ (m7 p) true := by
 apply yoM
 have hs := h.srt
 have hln := ycU lt7 p
 have key := ywh hl h
 have st := ygc ybH p
 refine ⟨_, ytd hl h, ?_⟩
 generalize srt lt7 [] p = z at *
 have hzl : z.length <= 1000 := by omega
 have hbk := yrW (b := ⟨z⟩) (fun y hy => (hs y hy).vd) (by have := hs.bag hzl; show (sBag z).length <= _; omega)
 have e1 : ((z.length : Int) == ((m7 z).length : Int)) = true := by rw [ycn]; simp
 refine ⟨_, yyM (b := ⟨z⟩) hzl hs.sh, _, pLen _, yak (by show (!((z.length : Int) == ((m7 z).length : Int))) = false; rw [e1]; rfl) (yak (by show (!((z.length : Int) == ((m7 z).length : Int))) = false; rw [e1]; rfl) ⟨_, hbk, _, key, yak (by simp) ?_⟩)⟩
 have ky : ∀ (i : Nat) (y : Rw), z[i]? = some y → yci y (sKey y) ∧ ybx (y.map v6) (sKey y) := by
  intro i y hy
  have hv := hs y (jaB hy)
  exact ⟨pKey (by have := hv.1; omega) hv.2, yyP (by have := hv.1; omega) hv.2⟩
 refine lp1 (fun (i : Int) => ∃ k : Nat, i = k /\ k <= z.length) (fun i => (z.length - i).toNat) ?_ ⟨0, rfl, by omega⟩
 rintro X i ⟨k, rfl, hk⟩ ih
 unfold yem
 rw [ycn]
 intro _
 refine ⟨fun c => ?_, fun c => ⟨z, rfl, fun _ => ?_⟩⟩
 ·have c : (k : Int) < z.length := of_decide_eq_true c
  obtain ⟨y, hy⟩ := ybz (l := z) (n := k) (by omega)
  refine ⟨by omega, c, y, hy, _, (ky k y hy).1, by omega, c, _, yh3 hy, _, (ky k y hy).2, yak (by simp) ?_⟩
  rw [w1 (by omega)]
  exact ih _ ⟨k + 1, rfl, by omega⟩ (by omega)
 ·clear ih
  refine lp2 (fun (i j : Int) => ∃ A B, z = A ++ B /\ i = (A.length : Int) /\ j = (A.length : Int)) (fun i _ => (z.length - i).toNat) ?_ ⟨[], z, rfl, rfl, rfl⟩
  rintro X3 i j ⟨A, B, eAB, rfl, rfl⟩ ih
  have hll : z.length = A.length + B.length := by rw [eAB]; simp
  unfold yef
  rw [ycn]
  intro _
  refine ⟨fun c => ?_, fun c _ => ?_⟩
  ·have c : (A.length : Int) < z.length := of_decide_eq_true c
   obtain ⟨x, B, rfl⟩ : ∃ x T, B = x :: T := by
    cases B with
    | nil => exfalso; simp only [jbb] at hll; omega
    | cons x T => exact ⟨x, T, rfl⟩
   have gx : z[A.length]? = some x := by rw [eAB]; exact ycL _ _ _
   have sx := hs x (jaB gx)
   refine lp1 (fun (n : Int) => ∃ k C, n = ((k + 1 : Nat) : Int) /\ x :: B = List.replicate (k + 1) x ++ C) (fun n => (z.length - n).toNat) ?_ ⟨0, B, rfl, rfl⟩
   rintro X4 n ⟨k, C, rfl, he⟩ ih2
   have hlC : z.length = A.length + (k + 1) + C.length := by rw [eAB, he]; simp; omega
   have wk : IntKind.i64.wrap ((A.length : Int) + ((k + 1 : Nat) : Int)) = ((A.length + (k + 1) : Nat) : Int) := by rw [wrap64 (by omega) (by omega)]; omega
   have wk1 : IntKind.i64.wrap (((k + 1 : Nat) : Int) + 1) = ((k + 1 + 1 : Nat) : Int) := by rw [wrap64 (by omega) (by omega)]; omega
   have gC : ∀ y T, C = y :: T → z[A.length + (k + 1)]? = some y := by
    intro y T hC
    have hA2 : (A ++ List.replicate (k + 1) x).length = A.length + (k + 1) := by simp
    rw [eAB, he, hC, <- jai, <- hA2]; exact ycL _ _ _
   have gR : ∀ q, q < k + 1 → z[A.length + q]? = some x := by
    intro q hq
    rw [eAB, he, jam (by omega), show A.length + q - A.length = q by omega, jan (by simpa using hq), List.getElem?_replicate, if_pos hq]
   have stop : (∀ y, C.head? = some y → y ≠ x) → yct X3 X4 true (A.length : Int) (A.length : Int) ((k + 1 : Nat) : Int) (m7 z) z false := by
    intro hy
    refine yak rfl ⟨by omega, c, x, gx, x, ytl (by have := sx.1; omega), yak (by simp; omega) fun _ => ?_⟩
    rw [ycn, wk]
    refine yak (by simp; omega) ?_
    have next : ∀ b : Bool, b = false → ycx X3 true (A.length : Int) (A.length : Int) ((k + 1 : Nat) : Int) b := by
     intro b hb
     refine yak hb ?_
     rw [wk]
     exact ih _ _ ⟨A ++ List.replicate (k + 1) x, C, by rw [eAB, he]; simp, by simp, by simp⟩ (by omega)
    refine lp1 (fun (q : Int) => ∃ m : Nat, q = m /\ m <= k + 1) (fun q => (k + 1 - q).toNat) ?_ ⟨0, rfl, by omega⟩
    rintro X7 q ⟨m, rfl, hm⟩ ih3
    unfold yeq
    rw [wk, ycn]
    refine ⟨fun c2 => ?_, fun c2 => ⟨fun c3 => ?_, fun c3 => next false rfl⟩⟩
    ·have c2 := of_decide_eq_true c2
     have wm : IntKind.i64.wrap ((A.length : Int) + (m : Int)) = ((A.length + m : Nat) : Int) := by rw [wrap64 (by omega) (by omega)]; omega
     rw [wm]
     refine ⟨_, (ky _ x gx).1, by omega, by omega, _, yh3 (gR m (by omega)), _, (ky _ x gx).2, yak (by simp) ?_⟩
     rw [w1 (by omega)]
     exact ih3 _ ⟨m + 1, rfl, by omega⟩ (by omega)
    ·have c3 := of_decide_eq_true c3
     obtain ⟨y, T, hC⟩ : ∃ y T, C = y :: T := by
      cases hC : C with
      | nil => exfalso; rw [hC] at hlC; simp only [jbb] at hlC; omega
      | cons y T => exact ⟨y, T, rfl⟩
     have gy := gC y T hC
     refine ⟨_, (ky _ x gx).1, by omega, c3, _, yh3 gy, _, (ky _ y gy).2, next _ ?_⟩
     have hne := hy y (by rw [hC]; rfl)
     have : ¬ sKey x = sKey y := fun e => hne (yvJ sx.2 (hs y (jaB gy)).2 e).symm
     simpa using this
   unfold yeh
   rw [wk]
   refine ⟨fun c2 => ?_, fun c2 => ?_⟩
   ·have c2 := of_decide_eq_true c2
    obtain ⟨y, T, hC⟩ : ∃ y T, C = y :: T := by
     cases hC : C with
     | nil => exfalso; rw [hC] at hlC; simp only [jbb] at hlC; omega
     | cons y T => exact ⟨y, T, rfl⟩
    refine ⟨by omega, c, x, gx, by omega, by omega, y, gC y T hC, _, ye6 (by have := sx.1; omega), ?_⟩
    by_cases h0 : rc x y = 0
    ·have hxy := rc_0.1 h0
     rw [h0]
     refine yaC rfl ?_
     rw [wk1]
     exact ih2 _ ⟨k + 1, T, rfl, by rw [he, hC, <- hxy, List.replicate_succ' (n := k + 1)]; simp⟩ (by omega)
    ·rw [show (rc x y == 0) = false by simpa using h0]
     refine stop fun w hw => ?_
     rw [hC] at hw; cases hw
     exact fun q => h0 (rc_0.2 q.symm)
   ·have c2 := of_decide_eq_false c2
    have : C = [] := ja2.1 (by omega)
    exact stop fun y hy => by rw [this] at hy; cases hy
  ·have c : ¬ (A.length : Int) < z.length := of_decide_eq_false c
   simp; omega
theorem yr3 (l : List Rw) : ∀ p, (uqf p l).Sublist l := by
 induction l with
 | nil => intro p; cases p <;> exact List.Sublist.slnil
 | cons x l ih =>
   intro p
   cases p with
   | none => simp only [uqf]; exact (ih _).cons_cons x
   | some q =>
     simp only [uqf]
     split
     ·exact (ih _).cons x
     ·exact (ih _).cons_cons x
theorem yzq {l : List Rw} (h : Sd lt7 l) : Sd lt7 (uq l) := List.Pairwise.sublist (yr3 l none) h
theorem Gd.uq {l : List Rw} (h : Gd l) : Gd (uq l) := fun y hy => h y ((yr3 l none).subset hy)
theorem ywE (A : List Rw) (x : Rw) : Go.Proofs.Ytkmehmgocelkiaa.uq (A ++ [x]) = Go.Proofs.Ytkmehmgocelkiaa.uq A ++ (match yi1 none A with | some p => if rc p x = 0 then [] else [x] | none => [x]) := by
 unfold Go.Proofs.Ytkmehmgocelkiaa.uq
 rw [yrV]
 congr 1
 cases yi1 none A with
 | none => rfl
 | some p => simp only [uqf]
theorem yq8 (A : List Rw) (x : Rw) : yi1 none (A ++ [x]) = some x := by rw [yoo]; rfl
theorem yy0 {a b : Rw} (ha : gd a) (hb : gd b) : yeu (a.map v6) (b.map v6) (rc a b == 0) := by
 have e : (rc a b == 0) = (!decide (rc a b < 0) && !decide (rc b a < 0)) := by
  by_cases h : rc a b = 0
  ·have h2 : rc b a = 0 := rc_0.2 (rc_0.1 h).symm
   rw [h, h2]; rfl
  ·have h1 : (rc a b == 0) = false := by simpa using h
   rw [h1]
   by_cases h2 : rc a b < 0
   ·simp [h2]
   ·have h3 : rc b a < 0 := of_decide_eq_true (yyE.1 (show 0 < rc a b by omega))
    simp [h3]
 rw [e]
 refine ⟨_, pBf7 ha hb, fun c => ⟨_, pBf7 hb ha, ?_⟩, fun c => ?_⟩
 ·rw [c]; rfl
 ·rw [c]; rfl
end Go.Proofs.Ytkmehmgocelkiaa
end
noncomputable section
namespace Go.Proofs.Ytkmehmgocelkiaa
open Go.AV Go.RowKit
def ybb (v : yac) : Prop := (fun n : Int => (Lit.int .u8 n).wf = true) v.Kind /\ (fun n : Int => (Lit.int .u8 n).wf = true) v.N /\ (fun s : Str => s.length <= maxLen) v.S
theorem yeO : ypE Try.prog 130 yaz.c ybb := by
 intro us h
 have r := h.fields Try.underlying130
 obtain ⟨v0, q0, rfl, h0, r⟩ := r.first (ypZ Try.underlying5)
 obtain ⟨v1, q1, rfl, h1, r⟩ := r.first (ypZ Try.underlying5)
 obtain ⟨v2, q2, rfl, h2, r⟩ := r.first (yuQ Try.underlying9)
 obtain rfl := r.last
 exact ⟨⟨v0, v1, v2⟩, rfl, h0, h1, h2⟩
def yn3 : Prop := ∀ (a0 : (List (List yac))) (a1 : (List (List yac))), (fun l : List (List yac) => l.length <= maxLen /\ ∀ v ∈ l, (fun l : List yac => l.length <= maxLen /\ ∀ v ∈ l, ybb v) v) a0 -> (fun l : List (List yac) => l.length <= maxLen /\ ∀ v ∈ l, (fun l : List yac => l.length <= maxLen /\ ∀ v ∈ l, ybb v) v) a1 -> ybi a0 a1 true
set_option maxRecDepth 100000 in
theorem ynf {a0 : (List (List yac))} {a1 : (List (List yac))} (h : ybi a0 a1 true) : Pure Try.prog 5 [slA (eSl yaz) a0, slA (eSl yaz) a1] (.bl true) := by
 have e : Pure Try.prog ycQ.f (yeG CC ycQ.ps [.d (.v 22 a0), .d (.v 22 a1)]) (ydp (([.v 4 true] : List (DV KK)).map (dvA CC))) = Pure Try.prog 5 [slA (eSl yaz) a0, slA (eSl yaz) a1] (.bl true) := by kernel_rfl
 have w : ycQ.W [.d (.v 22 a0), .d (.v 22 a1)] [.v 4 true] = ybi a0 a1 true := by kernel_rfl
 exact e.mp (yjt _ _ (fun F h => by simp at h) (w.mpr h)).2
end Go.Proofs.Ytkmehmgocelkiaa
end
noncomputable section
namespace Go.Proofs.Ytkmehmgocelkiaa
open Go.AV Go.RowKit
theorem ylA {a0 a1 : List (List LV)} (h0 : LLOk a0) (h1 : LLOk a1) : ybi a0 a1 true := by
 apply yj8
 have gx := yqt h0
 have gy := yqt h1
 have lx := ynQ a0
 have ly := ynQ a1
 refine ⟨_, ywt, yak rfl ⟨_, _, yvh h0, _, _, yvh h1, ?_⟩⟩
 generalize ynx a0 = x at *
 generalize ynx a1 = y at *
 have sx := ycU lt7 x
 have sy := ycU lt7 y
 refine ⟨_, pOf (by omega) gx.sh, _, pOf (by omega) gy.sh, by rw [ycn]; omega, by rw [ja1, ycn]; omega, by rw [ycn]; omega, _, ytd (by omega) gx, ?_⟩
 have gX := gx.srt
 have gY := gy.srt
 have tX := ygc ybH x
 have tY := ygc ybH y
 have fin : yaG ⟨srt lt7 [] x⟩ (m7 x) true := yq0 (by omega) gx
 have once : yaG ⟨uq (srt lt7 [] x)⟩ (m7 (uq (srt lt7 [] x))) true := by
  have hu := ysd (srt lt7 [] x) none
  have := yq0 (p := uq (srt lt7 [] x)) (by unfold uq; omega) gX.uq
  rw [ytH ybH (yzq tX)] at this
  exact this
 have plus : ycw [⟨srt lt7 [] x⟩, ⟨srt lt7 [] y⟩] ⟨srt lt7 [] (x ++ y)⟩ := by
  have := yx7 (l := [⟨srt lt7 [] x⟩, ⟨srt lt7 [] y⟩]) (by simp) (by simp [sx, sy]; omega) (by simpa using (gX.app gY).sh)
  have e : srt lt7 [] (srt lt7 [] x ++ srt lt7 [] y) = srt lt7 [] (x ++ y) := (yrz ybH (((ybQ x).append_right _).trans ((ybQ y).append_left _))).symm
  simpa [e] using this
 have plus0 : ycw [] ⟨[]⟩ := yx7 (l := []) (by simp) (by simp) (by simp)
 have same0 : yaG ⟨[]⟩ [] true := yq0 (p := []) (by simp) (fun y h => by cases h)
 have sameB : ∀ (a b : List Rw), a.length <= 1000 -> Gd a -> yds ⟨a⟩ ⟨b⟩ (decide (a = b)) := fun a b h g => yyN (a := ⟨a⟩) (b := ⟨b⟩) h g.sh
 have both := yq0 (p := x ++ y) (by simp; omega) (gx.app gy)
 have eall : ([] ++ m7 x) ++ m7 y = m7 (x ++ y) := by rw [ja1, yox]
 refine lp3 (fun (u : List (List V6)) (i : Int) (d : List (List V6)) => u = m7 (x ++ y) /\ ∃ A B, srt lt7 [] x = A ++ B /\ i = (A.length : Int) /\ d = m7 (uq A)) (fun _ i _ => (x.length - i).toNat) ?_ ⟨eall, [], _, rfl, rfl, rfl⟩
 rintro X u i d ⟨rfl, A, B, eAB, rfl, rfl⟩ ih
 have hll : x.length = A.length + B.length := by rw [<- sx, eAB]; simp
 unfold ycB
 rw [ycn, sx]
 intro _
 refine ⟨fun c => ?_, fun c => ?_⟩
 ·have c : (A.length : Int) < x.length := of_decide_eq_true c
  obtain ⟨w, B, rfl⟩ : ∃ x T, B = x :: T := by
   cases B with
   | nil => exfalso; simp only [jbb] at hll; omega
   | cons x T => exact ⟨x, T, rfl⟩
  have gw : (srt lt7 [] x)[A.length]? = some w := by rw [eAB]; exact ycL _ _ _
  have hu := ysd A none
  have hu : (uq A).length <= A.length := hu
  have step : ∀ b : Bool, uq (A ++ [w]) = uq A ++ (if b = true then [w] else []) → ybD X (m7 (x ++ y)) (A.length : Int) (m7 (srt lt7 [] x)) b (m7 (uq A)) := by
   intro b hb
   refine ⟨fun e => ⟨by omega, by rw [ycn]; omega, _, yh3 gw, by rw [ycn]; omega, ?_⟩, fun e => ?_⟩
   ·subst e
    rw [w1 (by omega)]
    exact ih _ _ _ ⟨rfl, A ++ [w], B, by rw [eAB]; simp, by simp, by rw [hb, if_pos rfl, yox]; rfl⟩ (by omega)
   ·subst e
    rw [w1 (by omega)]
    exact ih _ _ _ ⟨rfl, A ++ [w], B, by rw [eAB]; simp, by simp, by rw [hb, if_neg (by simp), jbl]⟩ (by omega)
  rcases yhB A with rfl | ⟨A0, p, rfl⟩
  ·exact yaC (by simp) (step true rfl)
  ·have hlA : (A0 ++ [p]).length = A0.length + 1 := by simp
   have gp : (srt lt7 [] x)[A0.length]? = some p := by rw [eAB, jai]; exact ycL _ _ _
   have dw := gX w (jaB gw)
   have dp := gX p (jaB gp)
   refine yak (by simp; omega) ⟨by omega, by omega, _, yh3 (by rw [jaH]; exact gw), ?_⟩
   rw [show IntKind.i64.wrap (((A0 ++ [p]).length : Int) - 1) = (A0.length : Int) by rw [wrap64 (by omega) (by omega)]; omega]
   refine ⟨by omega, by omega, _, yh3 (by rw [jaH]; exact gp), _, yy0 dw dp, step _ ?_⟩
   rw [ywE, yq8]
   by_cases h0 : rc p w = 0
   ·have := rc_0.1 h0
    subst this
    simp [h0]
   ·have h1 : ¬ rc w p = 0 := fun e => h0 (rc_0.2 (rc_0.1 e).symm)
    simp [h0, h1]
 ·have c : ¬ (A.length : Int) < x.length := of_decide_eq_false c
  have : B = [] := ja2.1 (by omega)
  subst this
  rw [jbl] at eAB
  rw [<- eAB]
  have hbk := yrW (b := ⟨srt lt7 [] x⟩) (fun y hy => (gX y hy).vd) (by have := gX.bag (by omega); show (sBag (srt lt7 [] x)).length <= _; omega)
  have dst := ynV (l := srt lt7 [] x) (by omega) gX.sh
  have ekey : (decide (srt lt7 [] x = srt lt7 [] y) == (sBag (srt lt7 [] x) == sBag (srt lt7 [] y))) = true := by
   rw [beq_iff_eq, Bool.eq_iff_iff, decide_eq_true_eq, beq_iff_eq]
   exact ⟨fun e => by rw [e], fun e => yuF gX gY e⟩
  have back := sameB (srt lt7 [] x) (srt lt7 [] x) (by omega) gX
  rw [decide_eq_true rfl] at back
  have hX1000 : (srt lt7 [] x).length <= 1000 := by omega
  exact ⟨_, hbk, _, _, yvG gX hX1000 tX, _, fin, yaC rfl ⟨_, plus, _, both, yaC rfl ⟨_, plus0, _, same0, yaC rfl ⟨_, dst, _, once, yaC rfl (yaC rfl ⟨_, back, yaC rfl ⟨_, sameB (srt lt7 [] x) (srt lt7 [] y) hX1000 gX, _, ywh (by omega) gx, _, ywh (by omega) gy, yaC ekey ⟨_, fin, rfl⟩⟩⟩)⟩⟩⟩⟩
theorem okL {l : List LV} (h : l.length ≤ maxLen ∧ ∀ v ∈ l, ybb v) : ∀ x ∈ l, LOk x := by
 intro x hx
 have := h.2 x hx
 unfold ybb at this
 have a := wfu8.1 this.1
 have b := wfu8.1 this.2.1
 exact ⟨a.1, a.2, b.1, b.2⟩
theorem okLL {l : List (List LV)} (h : l.length <= maxLen /\ ∀ r ∈ l, r.length <= maxLen /\ ∀ v ∈ r, ybb v) : LLOk l := fun r hr => okL (h.2 r hr)
theorem ymo : yn3 := fun _ _ h0 h1 => ylA (okLL h0) (okLL h1)
end Go.Proofs.Ytkmehmgocelkiaa
end
