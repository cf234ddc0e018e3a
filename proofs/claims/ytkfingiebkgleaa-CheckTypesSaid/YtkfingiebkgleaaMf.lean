/- General texts and own ones, joined: what the program computes, told of abstract states, and the laws of plain data. No condition. -/
import Derived.Test.YtkfingiebkgleaaMe
import Derived.Test.YtkfingiebkgleaaMb
noncomputable section
namespace Go.Proofs.Ytkfingiebkgleaa
open Go.AV Go.RowKit
def yf7 (r0 : Int) (r1 : Int) (a0 : yab) (x16 : Bool) : Prop :=
 cnd x16 ((1 : Int) = r0 /\ (0 : Int) = r1) (cnd (a0.Op == (12 : Int)) ((3 : Int) = r0 /\ (0 : Int) = r1) ((2 : Int) = r0 /\ (0 : Int) = r1))
def yfA (r0 : Int) (r1 : Int) (x18 : Bool) : Prop :=
 cnd x18 ((0 : Int) = r0 /\ (5 : Int) = r1) ((2 : Int) = r0 /\ (0 : Int) = r1)
def yfF (r0 : Int) (r1 : Int) (x23 : Bool) : Prop :=
 cnd x23 ((0 : Int) = r0 /\ (5 : Int) = r1) ((2 : Int) = r0 /\ (0 : Int) = r1)
def yfS (r0 : Int) (r1 : Int) (a0 : yab) (x21 : (List Int)) (x22 : Bool) : Prop :=
 cnd x22 ((1 : Int) = r0 /\ (0 : Int) = r1) (cnd (a0.Op == (1 : Int)) ((2 : Int) = r0 /\ (0 : Int) = r1) (cnd (a0.Op == (2 : Int)) (∀ J6 : Bool -> Prop, (∀ (x23 : Bool), yfF r0 r1 x23 -> J6 x23) -> (0 <= (0 : Int)) /\ ((0 : Int) < (x21.length : Int)) /\ ∃ y24 : Int, (x21[(0 : Int).toNat]? = some y24) /\ cnd (y24 == (1 : Int)) (J6 true) ((0 <= (0 : Int)) /\ ((0 : Int) < (x21.length : Int)) /\ ∃ y25 : Int, (x21[(0 : Int).toNat]? = some y25) /\ J6 (y25 == (3 : Int)))) ((0 <= (0 : Int)) /\ ((0 : Int) < (x21.length : Int)) /\ ∃ y26 : Int, (x21[(0 : Int).toNat]? = some y26) /\ y26 = r0 /\ (0 : Int) = r1)))
def yga (a0 : yab) (Xr : yab → (List yaf) → Bool → Int → Int → Prop) (a1 : (List yaf)) (a2 : Bool) (r0 : Int) (r1 : Int) (X2 : Int → (List Int) → Prop) (x2 : Int) (x3 : (List Int)) : Prop :=
 (a0.L.length <= maxLen -> cnd (decide (x2 < (a0.L.length : Int))) ((0 <= x2) /\ (x2 < (a0.L.length : Int)) /\ ∃ y4 : yab, (a0.L[x2.toNat]? = some y4) /\ ∃ z5 : Int, ∃ z6 : Int, (Xr (yab.mk y4.Kind y4.Op (⟨y4.V.Kind, y4.V.N, y4.V.S⟩ : yaa) y4.Table y4.Name y4.L) a1 a2 z5 z6) /\ cnd (!(z6 == (0 : Int))) ((0 : Int) = r0 /\ z6 = r1) ((x3.length <= 1000000000) /\ X2 (IntKind.i64.wrap (x2 + (1 : Int))) (x3 ++ ([z5] : List Int)))) (cnd (a0.Kind == (1 : Int)) (a0.V.Kind = r0 /\ (0 : Int) = r1) (cnd (a0.Kind == (2 : Int)) (∃ z7 : Int, ∃ z8 : Int, (ybK a1 (yab.mk a0.Kind a0.Op (⟨a0.V.Kind, a0.V.N, a0.V.S⟩ : yaa) a0.Table a0.Name a0.L) z7 z8) /\ cnd (!(z8 == (0 : Int))) ((0 : Int) = r0 /\ z8 = r1) ((0 <= z7) /\ (z7 < (a1.length : Int)) /\ ∃ y9 : yaf, (a1[z7.toNat]? = some y9) /\ y9.Kind = r0 /\ (0 : Int) = r1)) (cnd (a0.Kind == (3 : Int)) ((0 <= (0 : Int)) /\ ((0 : Int) < (x3.length : Int)) /\ ∃ y10 : Int, (x3[(0 : Int).toNat]? = some y10) /\ ∃ z11 : yaa, (ycA y10 z11) /\ (0 <= (1 : Int)) /\ ((1 : Int) < (x3.length : Int)) /\ ∃ y12 : Int, (x3[(1 : Int).toNat]? = some y12) /\ ∃ z13 : yaa, (ycA y12 z13) /\ ∃ z14 : yaa, ∃ z15 : Int, (ybF a0.Op z11 z13 z14 z15) /\ cnd (z15 == (5 : Int)) ((0 : Int) = r0 /\ (5 : Int) = r1) (∀ J3 : Bool -> Prop, (∀ (x16 : Bool), yf7 r0 r1 a0 x16 -> J3 x16) -> cnd (decide (a0.Op <= (6 : Int))) (J3 true) (J3 (decide ((13 : Int) <= a0.Op))))) (cnd (a0.Kind == (4 : Int)) ((0 <= (0 : Int)) /\ ((0 : Int) < (x3.length : Int)) /\ ∃ y17 : Int, (x3[(0 : Int).toNat]? = some y17) /\ cnd (decide ((2 : Int) <= y17)) ((0 : Int) = r0 /\ (5 : Int) = r1) ((1 : Int) = r0 /\ (0 : Int) = r1)) (cnd (a0.Kind == (5 : Int)) (∀ J4 : Bool -> Prop, (∀ (x18 : Bool), yfA r0 r1 x18 -> J4 x18) -> (0 <= (0 : Int)) /\ ((0 : Int) < (x3.length : Int)) /\ ∃ y19 : Int, (x3[(0 : Int).toNat]? = some y19) /\ cnd (y19 == (1 : Int)) (J4 true) ((0 <= (0 : Int)) /\ ((0 : Int) < (x3.length : Int)) /\ ∃ y20 : Int, (x3[(0 : Int).toNat]? = some y20) /\ J4 (y20 == (3 : Int)))) (∀ J5 : (List Int) -> Bool -> Prop, (∀ (x21 : (List Int)) (x22 : Bool), yfS r0 r1 a0 x21 x22 -> J5 x21 x22) -> cnd (a0.Kind == (6 : Int)) (J5 x3 (a0.Kind == (6 : Int))) (J5 x3 (a0.Kind == (7 : Int))))))))))
def yf9 (r0 : Int) (r1 : Int) (a0 : yab) (Xr : yab → (List yaf) → Bool → Int → Int → Prop) (a1 : (List yaf)) (a2 : Bool) (x1 : Bool) : Prop :=
 cnd x1 ((0 : Int) = r0 /\ (4 : Int) = r1) (∀ X2 : Int -> (List Int) -> Prop, (∀ (x2 : Int) (x3 : (List Int)), yga a0 Xr a1 a2 r0 r1 X2 x2 x3 -> X2 x2 x3) -> X2 (0 : Int) ([] : List Int))
def yd1 (Xr : yab → (List yaf) → Bool → Int → Int → Prop) (a0 : yab) (a1 : (List yaf)) (a2 : Bool) (r0 : Int) (r1 : Int) : Prop :=
 ∀ J1 : Bool -> Prop, (∀ (x1 : Bool), yf9 r0 r1 a0 Xr a1 a2 x1 -> J1 x1) -> cnd (a0.Kind == (8 : Int)) (J1 (!a2)) (J1 false)
def yau (a0 : yab) (a1 : (List yaf)) (a2 : Bool) (r0 : Int) (r1 : Int) : Prop := ∀ Xr : yab -> (List yaf) -> Bool -> Int -> Int -> Prop, (∀ (a0 : yab) (a1 : (List yaf)) (a2 : Bool) (r0 : Int) (r1 : Int), yd1 Xr a0 a1 a2 r0 r1 -> Xr a0 a1 a2 r0 r1) -> Xr a0 a1 a2 r0 r1
def ycE (a0 : yab) (r0 : Int) (r1 : Int) (x16 : Bool) : Prop :=
 cnd x16 ((1 : Int) = r0 /\ (0 : Int) = r1) (cnd (a0.Op == (12 : Int)) ((3 : Int) = r0 /\ (0 : Int) = r1) ((2 : Int) = r0 /\ (0 : Int) = r1))
def ycC (r0 : Int) (r1 : Int) (x18 : Bool) : Prop :=
 cnd x18 ((0 : Int) = r0 /\ (5 : Int) = r1) ((2 : Int) = r0 /\ (0 : Int) = r1)
def ycD (r0 : Int) (r1 : Int) (x23 : Bool) : Prop :=
 cnd x23 ((0 : Int) = r0 /\ (5 : Int) = r1) ((2 : Int) = r0 /\ (0 : Int) = r1)
def yaW (a0 : yab) (r0 : Int) (r1 : Int) (x21 : (List Int)) (x22 : Bool) : Prop :=
 cnd x22 ((1 : Int) = r0 /\ (0 : Int) = r1) (cnd (a0.Op == (1 : Int)) ((2 : Int) = r0 /\ (0 : Int) = r1) (cnd (a0.Op == (2 : Int)) ((0 <= (0 : Int)) /\ ((0 : Int) < (x21.length : Int)) /\ ∃ y24 : Int, (x21[(0 : Int).toNat]? = some y24) /\ cnd (y24 == (1 : Int)) (ycD r0 r1 true) ((0 <= (0 : Int)) /\ ((0 : Int) < (x21.length : Int)) /\ ∃ y25 : Int, (x21[(0 : Int).toNat]? = some y25) /\ ycD r0 r1 (y25 == (3 : Int)))) ((0 <= (0 : Int)) /\ ((0 : Int) < (x21.length : Int)) /\ ∃ y26 : Int, (x21[(0 : Int).toNat]? = some y26) /\ y26 = r0 /\ (0 : Int) = r1)))
def ydO (Xr : yab → (List yaf) → Bool → Int → Int → Prop) (a0 : yab) (a1 : (List yaf)) (a2 : Bool) (r0 : Int) (r1 : Int) (X2 : Int → (List Int) → Prop) (x2 : Int) (x3 : (List Int)) : Prop :=
 (a0.L.length <= maxLen -> cnd (decide (x2 < (a0.L.length : Int))) ((0 <= x2) /\ (x2 < (a0.L.length : Int)) /\ ∃ y4 : yab, (a0.L[x2.toNat]? = some y4) /\ ∃ z5 : Int, ∃ z6 : Int, (Xr (yab.mk y4.Kind y4.Op (⟨y4.V.Kind, y4.V.N, y4.V.S⟩ : yaa) y4.Table y4.Name y4.L) a1 a2 z5 z6) /\ cnd (!(z6 == (0 : Int))) ((0 : Int) = r0 /\ z6 = r1) ((x3.length <= 1000000000) /\ X2 (IntKind.i64.wrap (x2 + (1 : Int))) (x3 ++ ([z5] : List Int)))) (cnd (a0.Kind == (1 : Int)) (a0.V.Kind = r0 /\ (0 : Int) = r1) (cnd (a0.Kind == (2 : Int)) (∃ z7 : Int, ∃ z8 : Int, (ybK a1 (yab.mk a0.Kind a0.Op (⟨a0.V.Kind, a0.V.N, a0.V.S⟩ : yaa) a0.Table a0.Name a0.L) z7 z8) /\ cnd (!(z8 == (0 : Int))) ((0 : Int) = r0 /\ z8 = r1) ((0 <= z7) /\ (z7 < (a1.length : Int)) /\ ∃ y9 : yaf, (a1[z7.toNat]? = some y9) /\ y9.Kind = r0 /\ (0 : Int) = r1)) (cnd (a0.Kind == (3 : Int)) ((0 <= (0 : Int)) /\ ((0 : Int) < (x3.length : Int)) /\ ∃ y10 : Int, (x3[(0 : Int).toNat]? = some y10) /\ ∃ z11 : yaa, (ycA y10 z11) /\ (0 <= (1 : Int)) /\ ((1 : Int) < (x3.length : Int)) /\ ∃ y12 : Int, (x3[(1 : Int).toNat]? = some y12) /\ ∃ z13 : yaa, (ycA y12 z13) /\ ∃ z14 : yaa, ∃ z15 : Int, (ybF a0.Op z11 z13 z14 z15) /\ cnd (z15 == (5 : Int)) ((0 : Int) = r0 /\ (5 : Int) = r1) (cnd (decide (a0.Op <= (6 : Int))) (ycE a0 r0 r1 true) (ycE a0 r0 r1 (decide ((13 : Int) <= a0.Op))))) (cnd (a0.Kind == (4 : Int)) ((0 <= (0 : Int)) /\ ((0 : Int) < (x3.length : Int)) /\ ∃ y17 : Int, (x3[(0 : Int).toNat]? = some y17) /\ cnd (decide ((2 : Int) <= y17)) ((0 : Int) = r0 /\ (5 : Int) = r1) ((1 : Int) = r0 /\ (0 : Int) = r1)) (cnd (a0.Kind == (5 : Int)) ((0 <= (0 : Int)) /\ ((0 : Int) < (x3.length : Int)) /\ ∃ y19 : Int, (x3[(0 : Int).toNat]? = some y19) /\ cnd (y19 == (1 : Int)) (ycC r0 r1 true) ((0 <= (0 : Int)) /\ ((0 : Int) < (x3.length : Int)) /\ ∃ y20 : Int, (x3[(0 : Int).toNat]? = some y20) /\ ycC r0 r1 (y20 == (3 : Int)))) (cnd (a0.Kind == (6 : Int)) (yaW a0 r0 r1 x3 (a0.Kind == (6 : Int))) (yaW a0 r0 r1 x3 (a0.Kind == (7 : Int))))))))))
def ybZ (Xr : yab → (List yaf) → Bool → Int → Int → Prop) (a0 : yab) (a1 : (List yaf)) (a2 : Bool) (r0 : Int) (r1 : Int) (x1 : Bool) : Prop :=
 cnd x1 ((0 : Int) = r0 /\ (4 : Int) = r1) (∀ X2 : Int -> (List Int) -> Prop, (∀ (x2 : Int) (x3 : (List Int)), ydO Xr a0 a1 a2 r0 r1 X2 x2 x3 -> X2 x2 x3) -> X2 (0 : Int) ([] : List Int))
def yee (Xr : yab → (List yaf) → Bool → Int → Int → Prop) (a0 : yab) (a1 : (List yaf)) (a2 : Bool) (r0 : Int) (r1 : Int) : Prop :=
 cnd (a0.Kind == (8 : Int)) (ybZ Xr a0 a1 a2 r0 r1 (!a2)) (ybZ Xr a0 a1 a2 r0 r1 false)
theorem ykR (a0 : yab) (r0 : Int) (r1 : Int) {x16 : Bool} (h : ycE a0 r0 r1 x16) : yf7 r0 r1 a0 x16 := by
 unfold yf7
 unfold ycE at h
 exact h
theorem ylD (r0 : Int) (r1 : Int) {x18 : Bool} (h : ycC r0 r1 x18) : yfA r0 r1 x18 := by
 unfold yfA
 unfold ycC at h
 exact h
theorem ylS (r0 : Int) (r1 : Int) {x23 : Bool} (h : ycD r0 r1 x23) : yfF r0 r1 x23 := by
 unfold yfF
 unfold ycD at h
 exact h
theorem ykT (a0 : yab) (r0 : Int) (r1 : Int) {x21 : (List Int)} {x22 : Bool} (h : yaW a0 r0 r1 x21 x22) : yfS r0 r1 a0 x21 x22 := by
 unfold yfS
 unfold yaW at h
 refine yag h (fun h => ?_) (fun h => ?_)
 ·exact h
 ·refine yag h (fun h => ?_) (fun h => ?_)
  ·exact h
  ·refine yag h (fun h => ?_) (fun h => ?_)
   ·intro J6 kJ6
    have hJ6 : ∀ (x23 : Bool), ycD r0 r1 x23 -> J6 x23 := fun x23 q => kJ6 x23 (ylS r0 r1 q)
    obtain ⟨h0, h⟩ := h
    refine ⟨h0, ?_⟩
    obtain ⟨h0, h⟩ := h
    refine ⟨h0, ?_⟩
    obtain ⟨y24, h⟩ := h
    refine ⟨y24, ?_⟩
    obtain ⟨h0, h⟩ := h
    refine ⟨h0, ?_⟩
    refine yag h (fun h => ?_) (fun h => ?_)
    ·exact hJ6 _ h
    ·obtain ⟨h0, h⟩ := h
     refine ⟨h0, ?_⟩
     obtain ⟨h0, h⟩ := h
     refine ⟨h0, ?_⟩
     obtain ⟨y25, h⟩ := h
     refine ⟨y25, ?_⟩
     obtain ⟨h0, h⟩ := h
     refine ⟨h0, ?_⟩
     exact hJ6 _ h
   ·exact h
theorem ylk (Xr : yab → (List yaf) → Bool → Int → Int → Prop) (a0 : yab) (a1 : (List yaf)) (a2 : Bool) (r0 : Int) (r1 : Int) {X2 : Int → (List Int) → Prop} {x2 : Int} {x3 : (List Int)} (h : ydO Xr a0 a1 a2 r0 r1 X2 x2 x3) : yga a0 Xr a1 a2 r0 r1 X2 x2 x3 := by
 unfold yga
 unfold ydO at h
 intro c
 replace h := h c
 refine yag h (fun h => ?_) (fun h => ?_)
 ·exact h
 ·refine yag h (fun h => ?_) (fun h => ?_)
  ·exact h
  ·refine yag h (fun h => ?_) (fun h => ?_)
   ·exact h
   ·refine yag h (fun h => ?_) (fun h => ?_)
    ·obtain ⟨h0, h⟩ := h
     refine ⟨h0, ?_⟩
     obtain ⟨h0, h⟩ := h
     refine ⟨h0, ?_⟩
     obtain ⟨y10, h⟩ := h
     refine ⟨y10, ?_⟩
     obtain ⟨h0, h⟩ := h
     refine ⟨h0, ?_⟩
     obtain ⟨z11, h⟩ := h
     refine ⟨z11, ?_⟩
     obtain ⟨h0, h⟩ := h
     refine ⟨h0, ?_⟩
     obtain ⟨h0, h⟩ := h
     refine ⟨h0, ?_⟩
     obtain ⟨h0, h⟩ := h
     refine ⟨h0, ?_⟩
     obtain ⟨y12, h⟩ := h
     refine ⟨y12, ?_⟩
     obtain ⟨h0, h⟩ := h
     refine ⟨h0, ?_⟩
     obtain ⟨z13, h⟩ := h
     refine ⟨z13, ?_⟩
     obtain ⟨h0, h⟩ := h
     refine ⟨h0, ?_⟩
     obtain ⟨z14, h⟩ := h
     refine ⟨z14, ?_⟩
     obtain ⟨z15, h⟩ := h
     refine ⟨z15, ?_⟩
     obtain ⟨h0, h⟩ := h
     refine ⟨h0, ?_⟩
     refine yag h (fun h => ?_) (fun h => ?_)
     ·exact h
     ·intro J3 kJ3
      have hJ3 : ∀ (x16 : Bool), ycE a0 r0 r1 x16 -> J3 x16 := fun x16 q => kJ3 x16 (ykR a0 r0 r1 q)
      refine yag h (fun h => ?_) (fun h => ?_)
      ·exact hJ3 _ h
      ·exact hJ3 _ h
    ·refine yag h (fun h => ?_) (fun h => ?_)
     ·exact h
     ·refine yag h (fun h => ?_) (fun h => ?_)
      ·intro J4 kJ4
       have hJ4 : ∀ (x18 : Bool), ycC r0 r1 x18 -> J4 x18 := fun x18 q => kJ4 x18 (ylD r0 r1 q)
       obtain ⟨h0, h⟩ := h
       refine ⟨h0, ?_⟩
       obtain ⟨h0, h⟩ := h
       refine ⟨h0, ?_⟩
       obtain ⟨y19, h⟩ := h
       refine ⟨y19, ?_⟩
       obtain ⟨h0, h⟩ := h
       refine ⟨h0, ?_⟩
       refine yag h (fun h => ?_) (fun h => ?_)
       ·exact hJ4 _ h
       ·obtain ⟨h0, h⟩ := h
        refine ⟨h0, ?_⟩
        obtain ⟨h0, h⟩ := h
        refine ⟨h0, ?_⟩
        obtain ⟨y20, h⟩ := h
        refine ⟨y20, ?_⟩
        obtain ⟨h0, h⟩ := h
        refine ⟨h0, ?_⟩
        exact hJ4 _ h
      ·intro J5 kJ5
       have hJ5 : ∀ (x21 : (List Int)) (x22 : Bool), yaW a0 r0 r1 x21 x22 -> J5 x21 x22 := fun x21 x22 q => kJ5 x21 x22 (ykT a0 r0 r1 q)
       refine yag h (fun h => ?_) (fun h => ?_)
       ·exact hJ5 _ _ h
       ·exact hJ5 _ _ h
theorem ylt (Xr : yab → (List yaf) → Bool → Int → Int → Prop) (a0 : yab) (a1 : (List yaf)) (a2 : Bool) (r0 : Int) (r1 : Int) {x1 : Bool} (h : ybZ Xr a0 a1 a2 r0 r1 x1) : yf9 r0 r1 a0 Xr a1 a2 x1 := by
 unfold yf9
 unfold ybZ at h
 refine yag h (fun h => ?_) (fun h => ?_)
 ·exact h
 ·intro X2 k
  exact h X2 (fun x2 x3 q => k x2 x3 (ylk Xr a0 a1 a2 r0 r1 q))
theorem yfZ (Xr : yab → (List yaf) → Bool → Int → Int → Prop) (a0 : yab) (a1 : (List yaf)) (a2 : Bool) (r0 : Int) (r1 : Int) (h : yee Xr a0 a1 a2 r0 r1) : yd1 Xr a0 a1 a2 r0 r1 := by
 unfold yd1
 unfold yee at h
 intro J1 kJ1
 have hJ1 : ∀ (x1 : Bool), ybZ Xr a0 a1 a2 r0 r1 x1 -> J1 x1 := fun x1 q => kJ1 x1 (ylt Xr a0 a1 a2 r0 r1 q)
 refine yag h (fun h => ?_) (fun h => ?_)
 ·exact hJ1 _ h
 ·exact hJ1 _ h
def yi6 : Sp KK := ⟨10, [.v 29, .v 39, .v 4], [3, 3], appW (K := KK) [3, 3] [.v 29, .v 39, .v 4] yau⟩
def ynS : An KK := (.s .o (.s (.j ⟨[(1, .kp 11), (2, .kp 12), (3, .px 3 0), (22, .bl)], [(3, 29, [.kp 13, .kp 14, .kp 15, .kp 16, .kp 17, .kp 18, .kp 19, .kp 20])], []⟩ .o (fun _ => (.c (.s .o .o) .o))) (.s .o (.s (.s .o (.b (.l ⟨[(1, .kp 11), (2, .kp 12), (3, .px 3 0), (8, .row 47), (9, .it .i64)], [(3, 29, [.kp 13, .kp 14, .kp 15, .kp 16, .kp 17, .kp 18, .kp 19, .kp 20])], [(47, 3)]⟩ (fun _ => (.s (.s .o (.c .o .o)) (.s (.b (.s .o (.s (.s .o (.c (.s .o .o) .o)) .o))) .o)))))) (.s (.s .o (.b (.s .o (.c (.s .o .o) (.s .o (.c (.s .o (.s (.s .o (.c (.s .o .o) .o)) (.s .o .o))) (.s .o (.c (.s (.s .o (.s .o (.c (.s .o .o) .o))) (.s (.j ⟨[(3, .px 3 0), (96, .bl)], [(3, 29, [.kp 13, .kp 14, .kp 15, .kp 16, .kp 17, .kp 18, .kp 19, .kp 20])], []⟩ .o (fun _ => (.c (.s .o .o) .o))) (.s (.s .o (.c (.s .o .o) .o)) (.s .o .o)))) (.s .o (.c (.s (.s .o (.c (.s .o .o) .o)) (.s .o .o)) (.s .o (.c (.s (.j ⟨[(117, .bl)], [], []⟩ .o (fun _ => (.c (.s .o .o) .o))) (.s .o .o)) (.j ⟨[(3, .px 3 0), (8, .sl 3), (118, .bl)], [(3, 29, [.kp 13, .kp 14, .kp 15, .kp 16, .kp 17, .kp 18, .kp 19, .kp 20])], []⟩ (.s .o (.c .o .o)) (fun _ => (.c (.s .o .o) .o))))))))))))))) (.s (.s .o (.c (.s .o .o) .o)) (.s (.s .o (.c (.s (.j ⟨[(136, .bl)], [], []⟩ .o (fun _ => (.c (.s .o .o) .o))) (.s .o .o)) .o)) (.s .o .o))))))))
def yok (Xr : WTy KK [3, 3] [.v 29, .v 39, .v 4]) : Cf KK := ⟨CC, [⟨10, [.v 29, .v 39, .v 4], [3, 3], appW (K := KK) [3, 3] [.v 29, .v 39, .v 4] Xr⟩, yfM, ygC, yit], 140⟩
set_option maxRecDepth 100000 in
theorem ymG (Xr : yab → (List yaf) → Bool → Int → Int → Prop) (hX : ∀ (a0 : yab) (a1 : (List yaf)) (a2 : Bool) (r0 : Int) (r1 : Int), Xr a0 a1 a2 r0 r1 → Pure Try.prog 10 (ya7 CC [.v 29, .v 39, .v 4] ([.d (.v 29 a0), .d (.v 39 a1), .d (.v 4 a2)] : List (AD KK))) (ybX (([.v 3 r0, .v 3 r1] : List (DV KK)).map (dvA CC)))) : ∀ (a0 : yab) (a1 : (List yaf)) (a2 : Bool) (r0 : Int) (r1 : Int), yd1 Xr a0 a1 a2 r0 r1 → Pure Try.prog 10 (ya7 CC [.v 29, .v 39, .v 4] ([.d (.v 29 a0), .d (.v 39 a1), .d (.v 4 a2)] : List (AD KK))) (ybX (([.v 3 r0, .v 3 r1] : List (DV KK)).map (dvA CC))) := by
 intro a0 a1 a2 r0 r1 h
 refine yaE (F := yok Xr) ybe (yas ?_ (yas yiy (yas ylW (yas yll yaF)))) t10 (A := ynS) (ps := [.v 29, .v 39, .v 4]) (rs := [3, 3]) (env := [.d (.v 29 a0), .d (.v 39 a1), .d (.v 4 a2)]) (r := [.v 3 r0, .v 3 r1]) (X := yd1 Xr a0 a1 a2 r0 r1) (by kernel_rfl) (Nat.le_of_ble_eq_true (by kernel_rfl)) rfl (fun G hG => by simp at hG) h ?_
 ·clear h r0 r1
  intro env r hF h
  obtain ⟨a0, env0, rfl, h1⟩ := yam h
  obtain ⟨a1, env1, rfl, h2⟩ := yam h1
  obtain ⟨a2, env2, rfl, h3⟩ := yam h2
  obtain ⟨rfl, h4⟩ := yaw h3
  obtain ⟨r0, rr0, rfl, h5⟩ := yaz h4
  obtain ⟨r1, rr1, rfl, h6⟩ := yaz h5
  obtain ⟨rfl, h7⟩ := yaR h6
  exact ⟨rfl, hX a0 a1 a2 r0 r1 h7⟩
 ·kernel_rfl
set_option maxRecDepth 100000 in
theorem ynN : SpOk Try.prog CC yi6 := by
 intro env r hF h
 obtain ⟨a0, env0, rfl, h1⟩ := yam h
 obtain ⟨a1, env1, rfl, h2⟩ := yam h1
 obtain ⟨a2, env2, rfl, h3⟩ := yam h2
 obtain ⟨rfl, h4⟩ := yaw h3
 obtain ⟨r0, rr0, rfl, h5⟩ := yaz h4
 obtain ⟨r1, rr1, rfl, h6⟩ := yaz h5
 obtain ⟨rfl, h7⟩ := yaR h6
 exact ⟨rfl, h7 (fun a0 a1 a2 r0 r1 =>  Pure Try.prog 10 (ya7 CC [.v 29, .v 39, .v 4] ([.d (.v 29 a0), .d (.v 39 a1), .d (.v 4 a2)] : List (AD KK))) (ybX (([.v 3 r0, .v 3 r1] : List (DV KK)).map (dvA CC)))) (fun a0 a1 a2 r0 r1 h => ymG _ (fun a0 a1 a2 r0 r1 h => h) a0 a1 a2 r0 r1 h)⟩
def ycJ (a0 : yad) (r0 : (List yad)) : Prop := (wl a0).length <= 1000000000 /\ r0 = aggs a0
def yen : Sp KK := ⟨11, [.v 36], [34], appW (K := KK) [34] [.v 36] ycJ⟩
set_option maxRecDepth 100000 in
theorem yix {a0 : yad} {r0 : (List yad)} (h : ycJ a0 r0) : AV.Pure Try.prog 11 [.agg (yaV.c a0)] (slA yaV r0) := by
 obtain ⟨q0, rfl⟩ := h
 exact ysC q0
set_option maxRecDepth 100000 in
theorem yif : SpOk Try.prog CC yen := by
 intro env r hF h
 obtain ⟨a0, env0, rfl, h1⟩ := yam h
 obtain ⟨rfl, h2⟩ := yaw h1
 obtain ⟨r0, rr0, rfl, h3⟩ := yaz h2
 obtain ⟨rfl, h4⟩ := yaR h3
 exact ⟨rfl, (yix h4).congr (by kernel_rfl) (by kernel_rfl)⟩
def yde (a0 : yab) (Xr : yab → (List yab) → Prop) (r0 : (List yab)) (X2 : Int → (List yab) → Prop) (x2 : Int) (x3 : (List yab)) : Prop :=
 (a0.L.length <= maxLen -> cnd (decide (x2 < (a0.L.length : Int))) ((0 <= x2) /\ (x2 < (a0.L.length : Int)) /\ ∃ y4 : yab, (a0.L[x2.toNat]? = some y4) /\ ∃ z5 : (List yab), (Xr (yab.mk y4.Kind y4.Op (⟨y4.V.Kind, y4.V.N, y4.V.S⟩ : yaa) y4.Table y4.Name y4.L) z5) /\ (x3.length <= 1000000000) /\ (z5.length <= 400000000) /\ X2 (IntKind.i64.wrap (x2 + (1 : Int))) (x3 ++ z5)) (x3 = r0))
def yc7 (a0 : yab) (Xr : yab → (List yab) → Prop) (r0 : (List yab)) (x1 : (List yab)) : Prop :=
 ∀ X2 : Int -> (List yab) -> Prop, (∀ (x2 : Int) (x3 : (List yab)), yde a0 Xr r0 X2 x2 x3 -> X2 x2 x3) -> X2 (0 : Int) x1
def ybH (Xr : yab → (List yab) → Prop) (a0 : yab) (r0 : (List yab)) : Prop :=
 ∀ J1 : (List yab) -> Prop, (∀ (x1 : (List yab)), yc7 a0 Xr r0 x1 -> J1 x1) -> cnd (a0.Kind == (8 : Int)) (J1 ([(yab.mk a0.Kind a0.Op (⟨a0.V.Kind, a0.V.N, a0.V.S⟩ : yaa) a0.Table a0.Name a0.L)] : List yab)) (J1 ([] : List yab))
def ybi (a0 : yab) (r0 : (List yab)) : Prop := ∀ Xr : yab -> (List yab) -> Prop, (∀ (a0 : yab) (r0 : (List yab)), ybH Xr a0 r0 -> Xr a0 r0) -> Xr a0 r0
def ycZ (Xr : yab → (List yab) → Prop) (a0 : yab) (r0 : (List yab)) (X2 : Int → (List yab) → Prop) (x2 : Int) (x3 : (List yab)) : Prop :=
 (a0.L.length <= maxLen -> cnd (decide (x2 < (a0.L.length : Int))) ((0 <= x2) /\ (x2 < (a0.L.length : Int)) /\ ∃ y4 : yab, (a0.L[x2.toNat]? = some y4) /\ ∃ z5 : (List yab), (Xr (yab.mk y4.Kind y4.Op (⟨y4.V.Kind, y4.V.N, y4.V.S⟩ : yaa) y4.Table y4.Name y4.L) z5) /\ (x3.length <= 1000000000) /\ (z5.length <= 400000000) /\ X2 (IntKind.i64.wrap (x2 + (1 : Int))) (x3 ++ z5)) (x3 = r0))
def ya2 (Xr : yab → (List yab) → Prop) (a0 : yab) (r0 : (List yab)) (x1 : (List yab)) : Prop :=
 ∀ X2 : Int -> (List yab) -> Prop, (∀ (x2 : Int) (x3 : (List yab)), ycZ Xr a0 r0 X2 x2 x3 -> X2 x2 x3) -> X2 (0 : Int) x1
def yeo (Xr : yab → (List yab) → Prop) (a0 : yab) (r0 : (List yab)) : Prop :=
 cnd (a0.Kind == (8 : Int)) (ya2 Xr a0 r0 ([(yab.mk a0.Kind a0.Op (⟨a0.V.Kind, a0.V.N, a0.V.S⟩ : yaa) a0.Table a0.Name a0.L)] : List yab)) (ya2 Xr a0 r0 ([] : List yab))
theorem ygS (Xr : yab → (List yab) → Prop) (a0 : yab) (r0 : (List yab)) {X2 : Int → (List yab) → Prop} {x2 : Int} {x3 : (List yab)} (h : ycZ Xr a0 r0 X2 x2 x3) : yde a0 Xr r0 X2 x2 x3 := by
 unfold yde
 unfold ycZ at h
 exact h
theorem ygQ (Xr : yab → (List yab) → Prop) (a0 : yab) (r0 : (List yab)) {x1 : (List yab)} (h : ya2 Xr a0 r0 x1) : yc7 a0 Xr r0 x1 := by
 unfold yc7
 unfold ya2 at h
 intro X2 k
 exact h X2 (fun x2 x3 q => k x2 x3 (ygS Xr a0 r0 q))
theorem yh0 (Xr : yab → (List yab) → Prop) (a0 : yab) (r0 : (List yab)) (h : yeo Xr a0 r0) : ybH Xr a0 r0 := by
 unfold ybH
 unfold yeo at h
 intro J1 kJ1
 have hJ1 : ∀ (x1 : (List yab)), ya2 Xr a0 r0 x1 -> J1 x1 := fun x1 q => kJ1 x1 (ygQ Xr a0 r0 q)
 refine yag h (fun h => ?_) (fun h => ?_)
 ·exact hJ1 _ h
 ·exact hJ1 _ h
def yet : Sp KK := ⟨12, [.v 29], [27], appW (K := KK) [27] [.v 29] ybi⟩
def yh2 : An KK := (.s .o (.s .o (.j ⟨[(1, .px 1 0), (3, .row 11)], [(1, 29, [.kp 1, .kp 2, .kp 3, .kp 4, .kp 5, .kp 6, .kp 7, .kp 8])], [(11, 29)]⟩ (.s .o (.c .o .o)) (fun _ => (.s (.s .o (.b (.l ⟨[(1, .px 1 0), (3, .row 11), (4, .it .i64)], [(1, 29, [.kp 1, .kp 2, .kp 3, .kp 4, .kp 5, .kp 6, .kp 7, .kp 8])], [(11, 29)]⟩ (fun _ => (.s (.s .o (.c .o .o)) (.s (.b .o) .o)))))) (.s .o .o))))))
def yhR (Xr : WTy KK [27] [.v 29]) : Cf KK := ⟨CC, [⟨12, [.v 29], [27], appW (K := KK) [27] [.v 29] Xr⟩], 28⟩
set_option maxRecDepth 100000 in
theorem yhp (Xr : yab → (List yab) → Prop) (hX : ∀ (a0 : yab) (r0 : (List yab)), Xr a0 r0 → Pure Try.prog 12 (ya7 CC [.v 29] ([.d (.v 29 a0)] : List (AD KK))) (ybX (([.v 27 r0] : List (DV KK)).map (dvA CC)))) : ∀ (a0 : yab) (r0 : (List yab)), ybH Xr a0 r0 → Pure Try.prog 12 (ya7 CC [.v 29] ([.d (.v 29 a0)] : List (AD KK))) (ybX (([.v 27 r0] : List (DV KK)).map (dvA CC))) := by
 intro a0 r0 h
 refine yaE (F := yhR Xr) ybe (yas ?_ yaF) t12 (A := yh2) (ps := [.v 29]) (rs := [27]) (env := [.d (.v 29 a0)]) (r := [.v 27 r0]) (X := ybH Xr a0 r0) (by kernel_rfl) (Nat.le_of_ble_eq_true (by kernel_rfl)) rfl (fun G hG => by simp at hG) h ?_
 ·clear h r0
  intro env r hF h
  obtain ⟨a0, env0, rfl, h1⟩ := yam h
  obtain ⟨rfl, h2⟩ := yaw h1
  obtain ⟨r0, rr0, rfl, h3⟩ := yaz h2
  obtain ⟨rfl, h4⟩ := yaR h3
  exact ⟨rfl, hX a0 r0 h4⟩
 ·kernel_rfl
set_option maxRecDepth 100000 in
theorem yhQ : SpOk Try.prog CC yet := by
 intro env r hF h
 obtain ⟨a0, env0, rfl, h1⟩ := yam h
 obtain ⟨rfl, h2⟩ := yaw h1
 obtain ⟨r0, rr0, rfl, h3⟩ := yaz h2
 obtain ⟨rfl, h4⟩ := yaR h3
 exact ⟨rfl, h4 (fun a0 r0 =>  Pure Try.prog 12 (ya7 CC [.v 29] ([.d (.v 29 a0)] : List (AD KK))) (ybX (([.v 27 r0] : List (DV KK)).map (dvA CC)))) (fun a0 r0 h => yhp _ (fun a0 r0 h => h) a0 r0 h)⟩
def ych (a0 : (List yad)) (a1 : (List yad)) (g2 : yad → yad → Bool → Prop) (r0 : Bool) (X1 : Int → Prop) (x1 : Int) : Prop :=
 cnd (decide (x1 < (a0.length : Int))) ((0 <= x1) /\ (x1 < (a0.length : Int)) /\ ∃ y2 : yad, (a0[x1.toNat]? = some y2) /\ (0 <= x1) /\ (x1 < (a1.length : Int)) /\ ∃ y3 : yad, (a1[x1.toNat]? = some y3) /\ ∃ z4 : Bool, (g2 (yad.mk y2.Kind y2.Op (⟨y2.V.Kind, y2.V.N, y2.V.S⟩ : yac) y2.Table y2.Name y2.L) (yad.mk y3.Kind y3.Op (⟨y3.V.Kind, y3.V.N, y3.V.S⟩ : yac) y3.Table y3.Name y3.L) z4) /\ cnd (!z4) (false = r0) (X1 (IntKind.i64.wrap (x1 + (1 : Int))))) (true = r0)
def yaG (a0 : (List yad)) (a1 : (List yad)) (g2 : yad → yad → Bool → Prop) (r0 : Bool) : Prop :=
 (a0.length <= maxLen -> (a1.length <= maxLen -> cnd (!((a0.length : Int) == (a1.length : Int))) (false = r0) ((a0.length <= maxLen -> ∀ X1 : Int -> Prop, (∀ (x1 : Int), ych a0 a1 g2 r0 X1 x1 -> X1 x1) -> X1 (0 : Int)))))
def yb0 (a0 : (List yad)) (a1 : (List yad)) (g2 : yad → yad → Bool → Prop) (r0 : Bool) (X1 : Int → Prop) (x1 : Int) : Prop :=
 cnd (decide (x1 < (a0.length : Int))) ((0 <= x1) /\ (x1 < (a0.length : Int)) /\ ∃ y2 : yad, (a0[x1.toNat]? = some y2) /\ (0 <= x1) /\ (x1 < (a1.length : Int)) /\ ∃ y3 : yad, (a1[x1.toNat]? = some y3) /\ ∃ z4 : Bool, (g2 (yad.mk y2.Kind y2.Op (⟨y2.V.Kind, y2.V.N, y2.V.S⟩ : yac) y2.Table y2.Name y2.L) (yad.mk y3.Kind y3.Op (⟨y3.V.Kind, y3.V.N, y3.V.S⟩ : yac) y3.Table y3.Name y3.L) z4) /\ cnd (!z4) (false = r0) (X1 (IntKind.i64.wrap (x1 + (1 : Int))))) (true = r0)
def ydj (a0 : (List yad)) (a1 : (List yad)) (g2 : yad → yad → Bool → Prop) (r0 : Bool) : Prop :=
 (a0.length <= maxLen -> (a1.length <= maxLen -> cnd (!((a0.length : Int) == (a1.length : Int))) (false = r0) ((a0.length <= maxLen -> ∀ X1 : Int -> Prop, (∀ (x1 : Int), yb0 a0 a1 g2 r0 X1 x1 -> X1 x1) -> X1 (0 : Int)))))
theorem yeI (a0 : (List yad)) (a1 : (List yad)) (g2 : yad → yad → Bool → Prop) (r0 : Bool) {X1 : Int → Prop} {x1 : Int} (h : yb0 a0 a1 g2 r0 X1 x1) : ych a0 a1 g2 r0 X1 x1 := by
 unfold ych
 unfold yb0 at h
 exact h
theorem yfL (a0 : (List yad)) (a1 : (List yad)) (g2 : yad → yad → Bool → Prop) (r0 : Bool) (h : ydj a0 a1 g2 r0) : yaG a0 a1 g2 r0 := by
 unfold yaG
 unfold ydj at h
 intro c
 replace h := h c
 intro c
 replace h := h c
 refine yag h (fun h => ?_) (fun h => ?_)
 ·exact h
 ·intro c
  replace h := h c
  intro X1 k
  exact h X1 (fun x1 q => k x1 (yeI a0 a1 g2 r0 q))
def ydk : Sp KK := ⟨26, [.v 34, .v 34, .f [36, 36] [4]], [4], appW (K := KK) [4] [.v 34, .v 34, .f [36, 36] [4]] yaG⟩
def yfw : An KK := (.s .o (.s (.s .o (.c (.s .o .o) .o)) (.s (.s .o (.b (.l ⟨[(1, .kp 6), (2, .kp 7), (15, .kp 8), (16, .kp 9), (17, .it .i64)], [], []⟩ (fun _ => (.s .o (.s (.c .o .o) (.s (.b (.s .o (.s .o (.s .o (.c (.s .o .o) .o))))) .o))))))) (.s .o .o))))
def yfp : Cf KK := ⟨CC, [], 32⟩
set_option maxRecDepth 100000 in
theorem yfz : SpOk Try.prog CC ydk := by
 intro env r hF h
 obtain ⟨a0, env0, rfl, h1⟩ := yam h
 obtain ⟨a1, env1, rfl, h2⟩ := yam h1
 obtain ⟨F2, env2, rfl, h3⟩ := yxK h2
 obtain ⟨rfl, h4⟩ := yaw h3
 obtain ⟨r0, rr0, rfl, h5⟩ := yaz h4
 obtain ⟨rfl, h6⟩ := yaR h5
 refine ⟨rfl, yaE (F := yfp) ybe yaF t26 (A := yfw) (ps := [.v 34, .v 34, .f [36, 36] [4]]) (rs := [4]) (env := [.d (.v 34 a0), .d (.v 34 a1), .f F2]) (r := [.v 4 r0]) (X := yaG a0 a1 (curF [4] [36, 36] F2.W) r0) (by kernel_rfl) (Nat.le_of_ble_eq_true (by kernel_rfl)) rfl hF h6 ?_⟩
 kernel_rfl
def ygt (r0 : Bool) (x1 : Bool) : Prop :=
 x1 = r0
def yey (Xr : yad → yad → Bool → Prop) (a0 : yad) (a1 : yad) (r0 : Bool) : Prop :=
 ∀ J1 : Bool -> Prop, (∀ (x1 : Bool), ygt r0 x1 -> J1 x1) -> cnd (a0.Kind == a1.Kind) (cnd (a0.Op == a1.Op) (cnd ((a0.V.Kind == a1.V.Kind) && ((a0.V.N == a1.V.N) && ((a0.V.S == a1.V.S) && true))) (cnd (a0.Table == a1.Table) (cnd (a0.Name == a1.Name) (∃ z2 : Bool, (yaG a0.L a1.L Xr z2) /\ J1 z2) (J1 false)) (J1 false)) (J1 false)) (J1 false)) (J1 false)
def yfP (a0 : yad) (a1 : yad) (r0 : Bool) : Prop := ∀ Xr : yad -> yad -> Bool -> Prop, (∀ (a0 : yad) (a1 : yad) (r0 : Bool), yey Xr a0 a1 r0 -> Xr a0 a1 r0) -> Xr a0 a1 r0
def ybp (r0 : Bool) (x1 : Bool) : Prop :=
 x1 = r0
def yjS (Xr : yad → yad → Bool → Prop) (a0 : yad) (a1 : yad) (r0 : Bool) : Prop :=
 cnd (a0.Kind == a1.Kind) (cnd (a0.Op == a1.Op) (cnd ((a0.V.Kind == a1.V.Kind) && ((a0.V.N == a1.V.N) && ((a0.V.S == a1.V.S) && true))) (cnd (a0.Table == a1.Table) (cnd (a0.Name == a1.Name) (∃ z2 : Bool, (yaG a0.L a1.L Xr z2) /\ ybp r0 z2) (ybp r0 false)) (ybp r0 false)) (ybp r0 false)) (ybp r0 false)) (ybp r0 false)
theorem ymk (r0 : Bool) {x1 : Bool} (h : ybp r0 x1) : ygt r0 x1 := by
 unfold ygt
 unfold ybp at h
 exact h
theorem yoU (Xr : yad → yad → Bool → Prop) (a0 : yad) (a1 : yad) (r0 : Bool) (h : yjS Xr a0 a1 r0) : yey Xr a0 a1 r0 := by
 unfold yey
 unfold yjS at h
 intro J1 kJ1
 have hJ1 : ∀ (x1 : Bool), ybp r0 x1 -> J1 x1 := fun x1 q => kJ1 x1 (ymk r0 q)
 refine yag h (fun h => ?_) (fun h => ?_)
 ·refine yag h (fun h => ?_) (fun h => ?_)
  ·refine yag h (fun h => ?_) (fun h => ?_)
   ·refine yag h (fun h => ?_) (fun h => ?_)
    ·refine yag h (fun h => ?_) (fun h => ?_)
     ·obtain ⟨z2, h⟩ := h
      refine ⟨z2, ?_⟩
      obtain ⟨h0, h⟩ := h
      refine ⟨h0, ?_⟩
      exact hJ1 _ h
     ·exact hJ1 _ h
    ·exact hJ1 _ h
   ·exact hJ1 _ h
  ·exact hJ1 _ h
 ·exact hJ1 _ h
def yjM : Sp KK := ⟨13, [.v 36, .v 36], [4], appW (K := KK) [4] [.v 36, .v 36] yfP⟩
def ypz : An KK := (.s .o (.j ⟨[(4, .bl)], [], []⟩ .o (fun _ => .o)))
def yo4 (Xr : WTy KK [4] [.v 36, .v 36]) : Cf KK := ⟨CC, [⟨13, [.v 36, .v 36], [4], appW (K := KK) [4] [.v 36, .v 36] Xr⟩, ydk], 45⟩
set_option maxRecDepth 100000 in
theorem ynJ (Xr : yad → yad → Bool → Prop) (hX : ∀ (a0 : yad) (a1 : yad) (r0 : Bool), Xr a0 a1 r0 → Pure Try.prog 13 (ya7 CC [.v 36, .v 36] ([.d (.v 36 a0), .d (.v 36 a1)] : List (AD KK))) (ybX (([.v 4 r0] : List (DV KK)).map (dvA CC)))) : ∀ (a0 : yad) (a1 : yad) (r0 : Bool), yey Xr a0 a1 r0 → Pure Try.prog 13 (ya7 CC [.v 36, .v 36] ([.d (.v 36 a0), .d (.v 36 a1)] : List (AD KK))) (ybX (([.v 4 r0] : List (DV KK)).map (dvA CC))) := by
 intro a0 a1 r0 h
 refine yaE (F := yo4 Xr) ybe (yas ?_ (yas yfz yaF)) t13 (A := ypz) (ps := [.v 36, .v 36]) (rs := [4]) (env := [.d (.v 36 a0), .d (.v 36 a1)]) (r := [.v 4 r0]) (X := yey Xr a0 a1 r0) (by kernel_rfl) (Nat.le_of_ble_eq_true (by kernel_rfl)) rfl (fun G hG => by simp at hG) h ?_
 ·clear h r0
  intro env r hF h
  obtain ⟨a0, env0, rfl, h1⟩ := yam h
  obtain ⟨a1, env1, rfl, h2⟩ := yam h1
  obtain ⟨rfl, h3⟩ := yaw h2
  obtain ⟨r0, rr0, rfl, h4⟩ := yaz h3
  obtain ⟨rfl, h5⟩ := yaR h4
  exact ⟨rfl, hX a0 a1 r0 h5⟩
 ·kernel_rfl
set_option maxRecDepth 100000 in
theorem ype : SpOk Try.prog CC yjM := by
 intro env r hF h
 obtain ⟨a0, env0, rfl, h1⟩ := yam h
 obtain ⟨a1, env1, rfl, h2⟩ := yam h1
 obtain ⟨rfl, h3⟩ := yaw h2
 obtain ⟨r0, rr0, rfl, h4⟩ := yaz h3
 obtain ⟨rfl, h5⟩ := yaR h4
 exact ⟨rfl, h5 (fun a0 a1 r0 =>  Pure Try.prog 13 (ya7 CC [.v 36, .v 36] ([.d (.v 36 a0), .d (.v 36 a1)] : List (AD KK))) (ybX (([.v 4 r0] : List (DV KK)).map (dvA CC)))) (fun a0 a1 r0 h => ynJ _ (fun a0 a1 r0 h => h) a0 a1 r0 h)⟩
def yfD (a0 : yab) (Xr : yab → (List yaf) → (List yaa) → yaa → Int → Prop) (a1 : (List yaf)) (a2 : (List yaa)) (r0 : yaa) (r1 : Int) (X1 : Int → (List yaa) → Prop) (x1 : Int) (x2 : (List yaa)) : Prop :=
 (a0.L.length <= maxLen -> cnd (decide (x1 < (a0.L.length : Int))) ((0 <= x1) /\ (x1 < (a0.L.length : Int)) /\ ∃ y3 : yab, (a0.L[x1.toNat]? = some y3) /\ ∃ z4 : yaa, ∃ z5 : Int, (Xr (yab.mk y3.Kind y3.Op (⟨y3.V.Kind, y3.V.N, y3.V.S⟩ : yaa) y3.Table y3.Name y3.L) a1 a2 z4 z5) /\ cnd (!(z5 == (0 : Int))) ((⟨(0 : Int), (0 : Int), ([] : Str)⟩ : yaa) = r0 /\ z5 = r1) ((x2.length <= 1000000000) /\ X1 (IntKind.i64.wrap (x1 + (1 : Int))) (x2 ++ ([z4] : List yaa)))) (cnd (a0.Kind == (1 : Int)) ((⟨a0.V.Kind, a0.V.N, a0.V.S⟩ : yaa) = r0 /\ (0 : Int) = r1) (cnd (a0.Kind == (2 : Int)) (∃ z6 : Int, ∃ z7 : Int, (ybK a1 (yab.mk a0.Kind a0.Op (⟨a0.V.Kind, a0.V.N, a0.V.S⟩ : yaa) a0.Table a0.Name a0.L) z6 z7) /\ cnd (!(z7 == (0 : Int))) ((⟨(0 : Int), (0 : Int), ([] : Str)⟩ : yaa) = r0 /\ z7 = r1) ((0 <= z6) /\ (z6 < (a2.length : Int)) /\ ∃ y8 : yaa, (a2[z6.toNat]? = some y8) /\ y8 = r0 /\ (0 : Int) = r1)) (cnd (a0.Kind == (3 : Int)) ((0 <= (0 : Int)) /\ ((0 : Int) < (x2.length : Int)) /\ ∃ y9 : yaa, (x2[(0 : Int).toNat]? = some y9) /\ (0 <= (1 : Int)) /\ ((1 : Int) < (x2.length : Int)) /\ ∃ y10 : yaa, (x2[(1 : Int).toNat]? = some y10) /\ ∃ z11 : yaa, ∃ z12 : Int, (ybF a0.Op y9 y10 z11 z12) /\ z11 = r0 /\ z12 = r1) (cnd (a0.Kind == (4 : Int)) ((0 <= (0 : Int)) /\ ((0 : Int) < (x2.length : Int)) /\ ∃ y13 : yaa, (x2[(0 : Int).toNat]? = some y13) /\ cnd (y13.Kind == (1 : Int)) ((0 <= (0 : Int)) /\ ((0 : Int) < (x2.length : Int)) /\ ∃ y14 : yaa, (x2[(0 : Int).toNat]? = some y14) /\ (⟨(1 : Int), IntKind.i64.wrap ((1 : Int) - y14.N), ([] : Str)⟩ : yaa) = r0 /\ (0 : Int) = r1) ((⟨(0 : Int), (0 : Int), ([] : Str)⟩ : yaa) = r0 /\ (0 : Int) = r1)) (cnd (a0.Kind == (5 : Int)) ((0 <= (0 : Int)) /\ ((0 : Int) < (x2.length : Int)) /\ ∃ y15 : yaa, (x2[(0 : Int).toNat]? = some y15) /\ cnd (y15.Kind == (0 : Int)) ((⟨(0 : Int), (0 : Int), ([] : Str)⟩ : yaa) = r0 /\ (0 : Int) = r1) ((0 <= (0 : Int)) /\ ((0 : Int) < (x2.length : Int)) /\ ∃ y16 : yaa, (x2[(0 : Int).toNat]? = some y16) /\ ∃ z17 : yaa, ∃ z18 : Int, (ybF (8 : Int) (⟨(2 : Int), (0 : Int), ([] : Str)⟩ : yaa) y16 z17 z18) /\ z17 = r0 /\ z18 = r1)) (cnd (a0.Kind == (6 : Int)) ((0 <= (0 : Int)) /\ ((0 : Int) < (x2.length : Int)) /\ ∃ y19 : yaa, (x2[(0 : Int).toNat]? = some y19) /\ cnd (y19.Kind == (0 : Int)) ((⟨(1 : Int), (1 : Int), ([] : Str)⟩ : yaa) = r0 /\ (0 : Int) = r1) ((⟨(1 : Int), (0 : Int), ([] : Str)⟩ : yaa) = r0 /\ (0 : Int) = r1)) ((0 <= (0 : Int)) /\ ((0 : Int) < (x2.length : Int)) /\ ∃ y20 : yaa, (x2[(0 : Int).toNat]? = some y20) /\ cnd (!(y20.Kind == (0 : Int))) ((⟨(1 : Int), (1 : Int), ([] : Str)⟩ : yaa) = r0 /\ (0 : Int) = r1) ((⟨(1 : Int), (0 : Int), ([] : Str)⟩ : yaa) = r0 /\ (0 : Int) = r1)))))))))
def ydW (Xr : yab → (List yaf) → (List yaa) → yaa → Int → Prop) (a0 : yab) (a1 : (List yaf)) (a2 : (List yaa)) (r0 : yaa) (r1 : Int) : Prop :=
 ∀ X1 : Int -> (List yaa) -> Prop, (∀ (x1 : Int) (x2 : (List yaa)), yfD a0 Xr a1 a2 r0 r1 X1 x1 x2 -> X1 x1 x2) -> X1 (0 : Int) ([] : List yaa)
def yav (a0 : yab) (a1 : (List yaf)) (a2 : (List yaa)) (r0 : yaa) (r1 : Int) : Prop := ∀ Xr : yab -> (List yaf) -> (List yaa) -> yaa -> Int -> Prop, (∀ (a0 : yab) (a1 : (List yaf)) (a2 : (List yaa)) (r0 : yaa) (r1 : Int), ydW Xr a0 a1 a2 r0 r1 -> Xr a0 a1 a2 r0 r1) -> Xr a0 a1 a2 r0 r1
def ydR (Xr : yab → (List yaf) → (List yaa) → yaa → Int → Prop) (a0 : yab) (a1 : (List yaf)) (a2 : (List yaa)) (r0 : yaa) (r1 : Int) (X1 : Int → (List yaa) → Prop) (x1 : Int) (x2 : (List yaa)) : Prop :=
 (a0.L.length <= maxLen -> cnd (decide (x1 < (a0.L.length : Int))) ((0 <= x1) /\ (x1 < (a0.L.length : Int)) /\ ∃ y3 : yab, (a0.L[x1.toNat]? = some y3) /\ ∃ z4 : yaa, ∃ z5 : Int, (Xr (yab.mk y3.Kind y3.Op (⟨y3.V.Kind, y3.V.N, y3.V.S⟩ : yaa) y3.Table y3.Name y3.L) a1 a2 z4 z5) /\ cnd (!(z5 == (0 : Int))) ((⟨(0 : Int), (0 : Int), ([] : Str)⟩ : yaa) = r0 /\ z5 = r1) ((x2.length <= 1000000000) /\ X1 (IntKind.i64.wrap (x1 + (1 : Int))) (x2 ++ ([z4] : List yaa)))) (cnd (a0.Kind == (1 : Int)) ((⟨a0.V.Kind, a0.V.N, a0.V.S⟩ : yaa) = r0 /\ (0 : Int) = r1) (cnd (a0.Kind == (2 : Int)) (∃ z6 : Int, ∃ z7 : Int, (ybK a1 (yab.mk a0.Kind a0.Op (⟨a0.V.Kind, a0.V.N, a0.V.S⟩ : yaa) a0.Table a0.Name a0.L) z6 z7) /\ cnd (!(z7 == (0 : Int))) ((⟨(0 : Int), (0 : Int), ([] : Str)⟩ : yaa) = r0 /\ z7 = r1) ((0 <= z6) /\ (z6 < (a2.length : Int)) /\ ∃ y8 : yaa, (a2[z6.toNat]? = some y8) /\ y8 = r0 /\ (0 : Int) = r1)) (cnd (a0.Kind == (3 : Int)) ((0 <= (0 : Int)) /\ ((0 : Int) < (x2.length : Int)) /\ ∃ y9 : yaa, (x2[(0 : Int).toNat]? = some y9) /\ (0 <= (1 : Int)) /\ ((1 : Int) < (x2.length : Int)) /\ ∃ y10 : yaa, (x2[(1 : Int).toNat]? = some y10) /\ ∃ z11 : yaa, ∃ z12 : Int, (ybF a0.Op y9 y10 z11 z12) /\ z11 = r0 /\ z12 = r1) (cnd (a0.Kind == (4 : Int)) ((0 <= (0 : Int)) /\ ((0 : Int) < (x2.length : Int)) /\ ∃ y13 : yaa, (x2[(0 : Int).toNat]? = some y13) /\ cnd (y13.Kind == (1 : Int)) ((0 <= (0 : Int)) /\ ((0 : Int) < (x2.length : Int)) /\ ∃ y14 : yaa, (x2[(0 : Int).toNat]? = some y14) /\ (⟨(1 : Int), IntKind.i64.wrap ((1 : Int) - y14.N), ([] : Str)⟩ : yaa) = r0 /\ (0 : Int) = r1) ((⟨(0 : Int), (0 : Int), ([] : Str)⟩ : yaa) = r0 /\ (0 : Int) = r1)) (cnd (a0.Kind == (5 : Int)) ((0 <= (0 : Int)) /\ ((0 : Int) < (x2.length : Int)) /\ ∃ y15 : yaa, (x2[(0 : Int).toNat]? = some y15) /\ cnd (y15.Kind == (0 : Int)) ((⟨(0 : Int), (0 : Int), ([] : Str)⟩ : yaa) = r0 /\ (0 : Int) = r1) ((0 <= (0 : Int)) /\ ((0 : Int) < (x2.length : Int)) /\ ∃ y16 : yaa, (x2[(0 : Int).toNat]? = some y16) /\ ∃ z17 : yaa, ∃ z18 : Int, (ybF (8 : Int) (⟨(2 : Int), (0 : Int), ([] : Str)⟩ : yaa) y16 z17 z18) /\ z17 = r0 /\ z18 = r1)) (cnd (a0.Kind == (6 : Int)) ((0 <= (0 : Int)) /\ ((0 : Int) < (x2.length : Int)) /\ ∃ y19 : yaa, (x2[(0 : Int).toNat]? = some y19) /\ cnd (y19.Kind == (0 : Int)) ((⟨(1 : Int), (1 : Int), ([] : Str)⟩ : yaa) = r0 /\ (0 : Int) = r1) ((⟨(1 : Int), (0 : Int), ([] : Str)⟩ : yaa) = r0 /\ (0 : Int) = r1)) ((0 <= (0 : Int)) /\ ((0 : Int) < (x2.length : Int)) /\ ∃ y20 : yaa, (x2[(0 : Int).toNat]? = some y20) /\ cnd (!(y20.Kind == (0 : Int))) ((⟨(1 : Int), (1 : Int), ([] : Str)⟩ : yaa) = r0 /\ (0 : Int) = r1) ((⟨(1 : Int), (0 : Int), ([] : Str)⟩ : yaa) = r0 /\ (0 : Int) = r1)))))))))
def yiC (Xr : yab → (List yaf) → (List yaa) → yaa → Int → Prop) (a0 : yab) (a1 : (List yaf)) (a2 : (List yaa)) (r0 : yaa) (r1 : Int) : Prop :=
 ∀ X1 : Int -> (List yaa) -> Prop, (∀ (x1 : Int) (x2 : (List yaa)), ydR Xr a0 a1 a2 r0 r1 X1 x1 x2 -> X1 x1 x2) -> X1 (0 : Int) ([] : List yaa)
theorem ykV (Xr : yab → (List yaf) → (List yaa) → yaa → Int → Prop) (a0 : yab) (a1 : (List yaf)) (a2 : (List yaa)) (r0 : yaa) (r1 : Int) {X1 : Int → (List yaa) → Prop} {x1 : Int} {x2 : (List yaa)} (h : ydR Xr a0 a1 a2 r0 r1 X1 x1 x2) : yfD a0 Xr a1 a2 r0 r1 X1 x1 x2 := by
 unfold yfD
 unfold ydR at h
 exact h
theorem yiX (Xr : yab → (List yaf) → (List yaa) → yaa → Int → Prop) (a0 : yab) (a1 : (List yaf)) (a2 : (List yaa)) (r0 : yaa) (r1 : Int) (h : yiC Xr a0 a1 a2 r0 r1) : ydW Xr a0 a1 a2 r0 r1 := by
 unfold ydW
 unfold yiC at h
 intro X1 k
 exact h X1 (fun x1 x2 q => k x1 x2 (ykV Xr a0 a1 a2 r0 r1 q))
def yjh : Sp KK := ⟨15, [.v 29, .v 39, .v 41], [26, 3], appW (K := KK) [26, 3] [.v 29, .v 39, .v 41] yav⟩
def ynx : An KK := (.s .o (.s .o (.s .o (.s (.s .o (.b (.l ⟨[(1, .kp 19), (2, .kp 20), (3, .px 3 0), (6, .px 6 0), (8, .px 8 0), (9, .row 41), (10, .it .i64)], [(3, 29, [.kp 23, .kp 24, .kp 25, .kp 26, .kp 27, .kp 28, .kp 29, .kp 30]), (6, 26, [.kp 31, .kp 32, .kp 33]), (8, 26, [.kp 34, .kp 35, .kp 36])], [(41, 26)]⟩ (fun _ => (.s (.s .o (.c .o .o)) (.s (.b (.s .o (.s (.s .o (.c (.s .o .o) .o)) .o))) .o)))))) (.s (.s .o (.b (.s .o (.c (.s .o .o) (.s .o (.c (.s .o (.s (.s .o (.c (.s .o .o) .o)) (.s .o .o))) (.s .o (.c (.s .o .o) (.s .o (.c (.s (.s .o (.c (.s .o .o) .o)) (.s .o .o)) (.s .o (.c (.s (.s .o (.c (.s .o .o) .o)) (.s .o .o)) (.s .o (.c (.s (.s .o (.c (.s .o .o) .o)) (.s .o .o)) .o)))))))))))))) (.s (.s .o (.c (.s .o .o) .o)) (.s .o .o)))))))
def yox (Xr : WTy KK [26, 3] [.v 29, .v 39, .v 41]) : Cf KK := ⟨CC, [⟨15, [.v 29, .v 39, .v 41], [26, 3], appW (K := KK) [26, 3] [.v 29, .v 39, .v 41] Xr⟩, yfM, yit], 122⟩
set_option maxRecDepth 100000 in
theorem ymF (Xr : yab → (List yaf) → (List yaa) → yaa → Int → Prop) (hX : ∀ (a0 : yab) (a1 : (List yaf)) (a2 : (List yaa)) (r0 : yaa) (r1 : Int), Xr a0 a1 a2 r0 r1 → Pure Try.prog 15 (ya7 CC [.v 29, .v 39, .v 41] ([.d (.v 29 a0), .d (.v 39 a1), .d (.v 41 a2)] : List (AD KK))) (ybX (([.v 26 r0, .v 3 r1] : List (DV KK)).map (dvA CC)))) : ∀ (a0 : yab) (a1 : (List yaf)) (a2 : (List yaa)) (r0 : yaa) (r1 : Int), ydW Xr a0 a1 a2 r0 r1 → Pure Try.prog 15 (ya7 CC [.v 29, .v 39, .v 41] ([.d (.v 29 a0), .d (.v 39 a1), .d (.v 41 a2)] : List (AD KK))) (ybX (([.v 26 r0, .v 3 r1] : List (DV KK)).map (dvA CC))) := by
 intro a0 a1 a2 r0 r1 h
 refine yaE (F := yox Xr) ybe (yas ?_ (yas yiy (yas yll yaF))) t15 (A := ynx) (ps := [.v 29, .v 39, .v 41]) (rs := [26, 3]) (env := [.d (.v 29 a0), .d (.v 39 a1), .d (.v 41 a2)]) (r := [.v 26 r0, .v 3 r1]) (X := ydW Xr a0 a1 a2 r0 r1) (by kernel_rfl) (Nat.le_of_ble_eq_true (by kernel_rfl)) rfl (fun G hG => by simp at hG) h ?_
 ·clear h r0 r1
  intro env r hF h
  obtain ⟨a0, env0, rfl, h1⟩ := yam h
  obtain ⟨a1, env1, rfl, h2⟩ := yam h1
  obtain ⟨a2, env2, rfl, h3⟩ := yam h2
  obtain ⟨rfl, h4⟩ := yaw h3
  obtain ⟨r0, rr0, rfl, h5⟩ := yaz h4
  obtain ⟨r1, rr1, rfl, h6⟩ := yaz h5
  obtain ⟨rfl, h7⟩ := yaR h6
  exact ⟨rfl, hX a0 a1 a2 r0 r1 h7⟩
 ·kernel_rfl
set_option maxRecDepth 100000 in
theorem yoy : SpOk Try.prog CC yjh := by
 intro env r hF h
 obtain ⟨a0, env0, rfl, h1⟩ := yam h
 obtain ⟨a1, env1, rfl, h2⟩ := yam h1
 obtain ⟨a2, env2, rfl, h3⟩ := yam h2
 obtain ⟨rfl, h4⟩ := yaw h3
 obtain ⟨r0, rr0, rfl, h5⟩ := yaz h4
 obtain ⟨r1, rr1, rfl, h6⟩ := yaz h5
 obtain ⟨rfl, h7⟩ := yaR h6
 exact ⟨rfl, h7 (fun a0 a1 a2 r0 r1 =>  Pure Try.prog 15 (ya7 CC [.v 29, .v 39, .v 41] ([.d (.v 29 a0), .d (.v 39 a1), .d (.v 41 a2)] : List (AD KK))) (ybX (([.v 26 r0, .v 3 r1] : List (DV KK)).map (dvA CC)))) (fun a0 a1 a2 r0 r1 h => ymF _ (fun a0 a1 a2 r0 r1 h => h) a0 a1 a2 r0 r1 h)⟩
def yap (a0 : yac) (r0 : Bool) : Prop :=
 cnd (a0.Kind == (0 : Int)) (((a0.Kind == (0 : Int)) && ((a0.N == (0 : Int)) && ((a0.S == ([] : Str)) && true))) = r0) (cnd (a0.Kind == (1 : Int)) (cnd (a0.N == (0 : Int)) ((a0.S == ([] : Str)) = r0) (cnd (a0.N == (1 : Int)) ((a0.S == ([] : Str)) = r0) (false = r0))) (cnd (a0.Kind == (2 : Int)) ((a0.S == ([] : Str)) = r0) (cnd (a0.Kind == (3 : Int)) (cnd (a0.N == (0 : Int)) ((decide ((a0.S.length : Int) <= (64 : Int))) = r0) (false = r0)) (false = r0))))
def yel : Sp KK := ⟨16, [.v 33], [4], appW (K := KK) [4] [.v 33] yap⟩
def yih : An KK := (.s .o (.s (.s .o (.b (.s .o (.c (.s .o .o) (.s .o (.c (.s .o .o) (.s .o (.c (.s .o .o) (.s .o (.c (.s .o .o) .o)))))))))) (.s .o .o)))
def yic : Cf KK := ⟨CC, [], 41⟩
set_option maxRecDepth 100000 in
theorem yh1 : SpOk Try.prog CC yel := by
 intro env r hF h
 obtain ⟨a0, env0, rfl, h1⟩ := yam h
 obtain ⟨rfl, h2⟩ := yaw h1
 obtain ⟨r0, rr0, rfl, h3⟩ := yaz h2
 obtain ⟨rfl, h4⟩ := yaR h3
 refine ⟨rfl, yaE (F := yic) ybe yaF t16 (A := yih) (ps := [.v 33]) (rs := [4]) (env := [.d (.v 33 a0)]) (r := [.v 4 r0]) (X := yap a0 r0) (by kernel_rfl) (Nat.le_of_ble_eq_true (by kernel_rfl)) rfl hF h4 ?_⟩
 kernel_rfl
def ydd (r0 : Bool) (x28 : Bool) : Prop :=
 x28 = r0
def yda (r0 : Bool) (z24 : Int) (z23 : yac) (z10 : Int) (x27 : Bool) : Prop :=
 cnd x27 (false = r0) (∀ J5 : Bool -> Prop, (∀ (x28 : Bool), ydd r0 x28 -> J5 x28) -> cnd (!(z24 == (0 : Int))) (cnd (z24 == (8 : Int)) (J5 true) (cnd (z24 == (9 : Int)) (J5 true) (cnd (z24 == (0 : Int)) (cnd (z23.Kind == (0 : Int)) (∃ z29 : Bool, (yap z23 z29) /\ J5 z29) (cnd (z23.Kind == z10) (∃ z30 : Bool, (yap z23 z30) /\ J5 z30) (cnd (z10 == (0 : Int)) (∃ z31 : Bool, (yap z23 z31) /\ J5 z31) (J5 false)))) (J5 false)))) (cnd (z24 == (0 : Int)) (cnd (z23.Kind == (0 : Int)) (∃ z32 : Bool, (yap z23 z32) /\ J5 z32) (cnd (z23.Kind == z10) (∃ z33 : Bool, (yap z23 z33) /\ J5 z33) (cnd (z10 == (0 : Int)) (∃ z34 : Bool, (yap z23 z34) /\ J5 z34) (J5 false)))) (J5 false)))
def yc8 (r0 : Bool) (z5 : yad) (z6 : (List yae)) (z8 : (List yac)) (z2 : yab) (z7 : (List yaf)) (z9 : (List yaa)) (z10 : Int) (x22 : Bool) : Prop :=
 cnd x22 (true = r0) (∃ z23 : yac, ∃ z24 : Int, (yar (yad.mk z5.Kind z5.Op (⟨z5.V.Kind, z5.V.N, z5.V.S⟩ : yac) z5.Table z5.Name z5.L) z6 z8 z23 z24) /\ ∃ z25 : yaa, ∃ z26 : Int, (yav (yab.mk z2.Kind z2.Op (⟨z2.V.Kind, z2.V.N, z2.V.S⟩ : yaa) z2.Table z2.Name z2.L) z7 z9 z25 z26) /\ ∀ J4 : Bool -> Prop, (∀ (x27 : Bool), yda r0 z24 z23 z10 x27 -> J4 x27) -> cnd (!(z24 == z26)) (J4 true) (J4 (!((z23.Kind == z25.Kind) && ((z23.N == z25.N) && ((z23.S == z25.S) && true))))))
def ydb (z15 : (List yad)) (z16 : (List yab)) (r0 : Bool) (z5 : yad) (z6 : (List yae)) (z8 : (List yac)) (z2 : yab) (z7 : (List yaf)) (z9 : (List yaa)) (z10 : Int) (z11 : Int) (X2 : Int → Prop) (x17 : Int) : Prop :=
 (z15.length <= maxLen -> cnd (decide (x17 < (z15.length : Int))) ((0 <= x17) /\ (x17 < (z15.length : Int)) /\ ∃ y18 : yad, (z15[x17.toNat]? = some y18) /\ (0 <= x17) /\ (x17 < (z16.length : Int)) /\ ∃ y19 : yab, (z16[x17.toNat]? = some y19) /\ ∃ z20 : yad, (ydi (yab.mk y19.Kind y19.Op (⟨y19.V.Kind, y19.V.N, y19.V.S⟩ : yaa) y19.Table y19.Name y19.L) z20) /\ ∃ z21 : Bool, (yfP (yad.mk y18.Kind y18.Op (⟨y18.V.Kind, y18.V.N, y18.V.S⟩ : yac) y18.Table y18.Name y18.L) (yad.mk z20.Kind z20.Op (⟨z20.V.Kind, z20.V.N, z20.V.S⟩ : yac) z20.Table z20.Name z20.L) z21) /\ cnd (!z21) (false = r0) (X2 (IntKind.i64.wrap (x17 + (1 : Int))))) (∀ J3 : Bool -> Prop, (∀ (x22 : Bool), yc8 r0 z5 z6 z8 z2 z7 z9 z10 x22 -> J3 x22) -> cnd (!(z11 == (0 : Int))) (J3 true) ((z15.length <= maxLen -> J3 (decide ((0 : Int) < (z15.length : Int)))))))
def yc9 (r0 : Bool) (z5 : yad) (z2 : yab) (z6 : (List yae)) (z8 : (List yac)) (z7 : (List yaf)) (z9 : (List yaa)) (z10 : Int) (z11 : Int) (x14 : Bool) : Prop :=
 cnd x14 (false = r0) (∃ z15 : (List yad), (ycJ (yad.mk z5.Kind z5.Op (⟨z5.V.Kind, z5.V.N, z5.V.S⟩ : yac) z5.Table z5.Name z5.L) z15) /\ ∃ z16 : (List yab), (ybi (yab.mk z2.Kind z2.Op (⟨z2.V.Kind, z2.V.N, z2.V.S⟩ : yaa) z2.Table z2.Name z2.L) z16) /\ (z15.length <= maxLen -> (z16.length <= maxLen -> cnd (!((z15.length : Int) == (z16.length : Int))) (false = r0) (∀ X2 : Int -> Prop, (∀ (x17 : Int), ydb z15 z16 r0 z5 z6 z8 z2 z7 z9 z10 z11 X2 x17 -> X2 x17) -> X2 (0 : Int)))))
def yaO (a0 : (List yah)) (a1 : (List yan)) (a2 : Bool) (r0 : Bool) : Prop :=
 ∃ z1 : Bool, (yb1 z1) /\ cnd (!z1) (false = r0) ((a0.length <= maxLen -> (0 <= (0 : Int) /\ (0 : Int) <= (if (30 : Int) < (a0.length : Int) then (30 : Int) else (a0.length : Int)) /\ (if (30 : Int) < (a0.length : Int) then (30 : Int) else (a0.length : Int)) <= (a0.length : Int)) /\ ∃ z2 : yab, ∃ z3 : Int, (ydz (ym1 a0 (0 : Int) (if (30 : Int) < (a0.length : Int) then (30 : Int) else (a0.length : Int))) (0 : Int) (0 : Int) z2 z3) /\ ∃ z4 : Bool, (ydX (yab.mk z2.Kind z2.Op (⟨z2.V.Kind, z2.V.N, z2.V.S⟩ : yaa) z2.Table z2.Name z2.L) z4) /\ cnd (!z4) (true = r0) (∃ z5 : yad, (ydi (yab.mk z2.Kind z2.Op (⟨z2.V.Kind, z2.V.N, z2.V.S⟩ : yaa) z2.Table z2.Name z2.L) z5) /\ ∃ z6 : (List yae), ∃ z7 : (List yaf), ∃ z8 : (List yac), ∃ z9 : (List yaa), (ydc a1 z6 z7 z8 z9) /\ ∃ z10 : Int, ∃ z11 : Int, (yao (yad.mk z5.Kind z5.Op (⟨z5.V.Kind, z5.V.N, z5.V.S⟩ : yac) z5.Table z5.Name z5.L) z6 a2 z10 z11) /\ ∃ z12 : Int, ∃ z13 : Int, (yau (yab.mk z2.Kind z2.Op (⟨z2.V.Kind, z2.V.N, z2.V.S⟩ : yaa) z2.Table z2.Name z2.L) z7 a2 z12 z13) /\ ∀ J1 : Bool -> Prop, (∀ (x14 : Bool), yc9 r0 z5 z2 z6 z8 z7 z9 z10 z11 x14 -> J1 x14) -> cnd (!(z10 == z12)) (J1 true) (J1 (!(z11 == z13))))))
def yak (r0 : Bool) (x28 : Bool) : Prop :=
 x28 = r0
def ybl (r0 : Bool) (z10 : Int) (z23 : yac) (z24 : Int) (x27 : Bool) : Prop :=
 cnd x27 (false = r0) (cnd (!(z24 == (0 : Int))) (cnd (z24 == (8 : Int)) (yak r0 true) (cnd (z24 == (9 : Int)) (yak r0 true) (cnd (z24 == (0 : Int)) (cnd (z23.Kind == (0 : Int)) (∃ z29 : Bool, (yap z23 z29) /\ yak r0 z29) (cnd (z23.Kind == z10) (∃ z30 : Bool, (yap z23 z30) /\ yak r0 z30) (cnd (z10 == (0 : Int)) (∃ z31 : Bool, (yap z23 z31) /\ yak r0 z31) (yak r0 false)))) (yak r0 false)))) (cnd (z24 == (0 : Int)) (cnd (z23.Kind == (0 : Int)) (∃ z32 : Bool, (yap z23 z32) /\ yak r0 z32) (cnd (z23.Kind == z10) (∃ z33 : Bool, (yap z23 z33) /\ yak r0 z33) (cnd (z10 == (0 : Int)) (∃ z34 : Bool, (yap z23 z34) /\ yak r0 z34) (yak r0 false)))) (yak r0 false)))
def ybk (r0 : Bool) (z2 : yab) (z5 : yad) (z6 : (List yae)) (z7 : (List yaf)) (z8 : (List yac)) (z9 : (List yaa)) (z10 : Int) (x22 : Bool) : Prop :=
 cnd x22 (true = r0) (∃ z23 : yac, ∃ z24 : Int, (yar (yad.mk z5.Kind z5.Op (⟨z5.V.Kind, z5.V.N, z5.V.S⟩ : yac) z5.Table z5.Name z5.L) z6 z8 z23 z24) /\ ∃ z25 : yaa, ∃ z26 : Int, (yav (yab.mk z2.Kind z2.Op (⟨z2.V.Kind, z2.V.N, z2.V.S⟩ : yaa) z2.Table z2.Name z2.L) z7 z9 z25 z26) /\ cnd (!(z24 == z26)) (ybl r0 z10 z23 z24 true) (ybl r0 z10 z23 z24 (!((z23.Kind == z25.Kind) && ((z23.N == z25.N) && ((z23.S == z25.S) && true))))))
def yc0 (r0 : Bool) (z2 : yab) (z5 : yad) (z6 : (List yae)) (z7 : (List yaf)) (z8 : (List yac)) (z9 : (List yaa)) (z10 : Int) (z11 : Int) (z15 : (List yad)) (z16 : (List yab)) (X2 : Int → Prop) (x17 : Int) : Prop :=
 (z15.length <= maxLen -> cnd (decide (x17 < (z15.length : Int))) ((0 <= x17) /\ (x17 < (z15.length : Int)) /\ ∃ y18 : yad, (z15[x17.toNat]? = some y18) /\ (0 <= x17) /\ (x17 < (z16.length : Int)) /\ ∃ y19 : yab, (z16[x17.toNat]? = some y19) /\ ∃ z20 : yad, (ydi (yab.mk y19.Kind y19.Op (⟨y19.V.Kind, y19.V.N, y19.V.S⟩ : yaa) y19.Table y19.Name y19.L) z20) /\ ∃ z21 : Bool, (yfP (yad.mk y18.Kind y18.Op (⟨y18.V.Kind, y18.V.N, y18.V.S⟩ : yac) y18.Table y18.Name y18.L) (yad.mk z20.Kind z20.Op (⟨z20.V.Kind, z20.V.N, z20.V.S⟩ : yac) z20.Table z20.Name z20.L) z21) /\ cnd (!z21) (false = r0) (X2 (IntKind.i64.wrap (x17 + (1 : Int))))) (cnd (!(z11 == (0 : Int))) (ybk r0 z2 z5 z6 z7 z8 z9 z10 true) ((z15.length <= maxLen -> ybk r0 z2 z5 z6 z7 z8 z9 z10 (decide ((0 : Int) < (z15.length : Int)))))))
def ya3 (r0 : Bool) (z2 : yab) (z5 : yad) (z6 : (List yae)) (z7 : (List yaf)) (z8 : (List yac)) (z9 : (List yaa)) (z10 : Int) (z11 : Int) (x14 : Bool) : Prop :=
 cnd x14 (false = r0) (∃ z15 : (List yad), (ycJ (yad.mk z5.Kind z5.Op (⟨z5.V.Kind, z5.V.N, z5.V.S⟩ : yac) z5.Table z5.Name z5.L) z15) /\ ∃ z16 : (List yab), (ybi (yab.mk z2.Kind z2.Op (⟨z2.V.Kind, z2.V.N, z2.V.S⟩ : yaa) z2.Table z2.Name z2.L) z16) /\ (z15.length <= maxLen -> (z16.length <= maxLen -> cnd (!((z15.length : Int) == (z16.length : Int))) (false = r0) (∀ X2 : Int -> Prop, (∀ (x17 : Int), yc0 r0 z2 z5 z6 z7 z8 z9 z10 z11 z15 z16 X2 x17 -> X2 x17) -> X2 (0 : Int)))))
def yev (a0 : (List yah)) (a1 : (List yan)) (a2 : Bool) (r0 : Bool) : Prop :=
 ∃ z1 : Bool, (yb1 z1) /\ cnd (!z1) (false = r0) ((a0.length <= maxLen -> (0 <= (0 : Int) /\ (0 : Int) <= (if (30 : Int) < (a0.length : Int) then (30 : Int) else (a0.length : Int)) /\ (if (30 : Int) < (a0.length : Int) then (30 : Int) else (a0.length : Int)) <= (a0.length : Int)) /\ ∃ z2 : yab, ∃ z3 : Int, (ydz (ym1 a0 (0 : Int) (if (30 : Int) < (a0.length : Int) then (30 : Int) else (a0.length : Int))) (0 : Int) (0 : Int) z2 z3) /\ ∃ z4 : Bool, (ydX (yab.mk z2.Kind z2.Op (⟨z2.V.Kind, z2.V.N, z2.V.S⟩ : yaa) z2.Table z2.Name z2.L) z4) /\ cnd (!z4) (true = r0) (∃ z5 : yad, (ydi (yab.mk z2.Kind z2.Op (⟨z2.V.Kind, z2.V.N, z2.V.S⟩ : yaa) z2.Table z2.Name z2.L) z5) /\ ∃ z6 : (List yae), ∃ z7 : (List yaf), ∃ z8 : (List yac), ∃ z9 : (List yaa), (ydc a1 z6 z7 z8 z9) /\ ∃ z10 : Int, ∃ z11 : Int, (yao (yad.mk z5.Kind z5.Op (⟨z5.V.Kind, z5.V.N, z5.V.S⟩ : yac) z5.Table z5.Name z5.L) z6 a2 z10 z11) /\ ∃ z12 : Int, ∃ z13 : Int, (yau (yab.mk z2.Kind z2.Op (⟨z2.V.Kind, z2.V.N, z2.V.S⟩ : yaa) z2.Table z2.Name z2.L) z7 a2 z12 z13) /\ cnd (!(z10 == z12)) (ya3 r0 z2 z5 z6 z7 z8 z9 z10 z11 true) (ya3 r0 z2 z5 z6 z7 z8 z9 z10 z11 (!(z11 == z13))))))
theorem yg2 (r0 : Bool) {x28 : Bool} (h : yak r0 x28) : ydd r0 x28 := by
 unfold ydd
 unfold yak at h
 exact h
theorem ygx (r0 : Bool) (z10 : Int) (z23 : yac) (z24 : Int) {x27 : Bool} (h : ybl r0 z10 z23 z24 x27) : yda r0 z24 z23 z10 x27 := by
 unfold yda
 unfold ybl at h
 refine yag h (fun h => ?_) (fun h => ?_)
 ·exact h
 ·intro J5 kJ5
  have hJ5 : ∀ (x28 : Bool), yak r0 x28 -> J5 x28 := fun x28 q => kJ5 x28 (yg2 r0 q)
  refine yag h (fun h => ?_) (fun h => ?_)
  ·refine yag h (fun h => ?_) (fun h => ?_)
   ·exact hJ5 _ h
   ·refine yag h (fun h => ?_) (fun h => ?_)
    ·exact hJ5 _ h
    ·refine yag h (fun h => ?_) (fun h => ?_)
     ·refine yag h (fun h => ?_) (fun h => ?_)
      ·obtain ⟨z29, h⟩ := h
       refine ⟨z29, ?_⟩
       obtain ⟨h0, h⟩ := h
       refine ⟨h0, ?_⟩
       exact hJ5 _ h
      ·refine yag h (fun h => ?_) (fun h => ?_)
       ·obtain ⟨z30, h⟩ := h
        refine ⟨z30, ?_⟩
        obtain ⟨h0, h⟩ := h
        refine ⟨h0, ?_⟩
        exact hJ5 _ h
       ·refine yag h (fun h => ?_) (fun h => ?_)
        ·obtain ⟨z31, h⟩ := h
         refine ⟨z31, ?_⟩
         obtain ⟨h0, h⟩ := h
         refine ⟨h0, ?_⟩
         exact hJ5 _ h
        ·exact hJ5 _ h
     ·exact hJ5 _ h
  ·refine yag h (fun h => ?_) (fun h => ?_)
   ·refine yag h (fun h => ?_) (fun h => ?_)
    ·obtain ⟨z32, h⟩ := h
     refine ⟨z32, ?_⟩
     obtain ⟨h0, h⟩ := h
     refine ⟨h0, ?_⟩
     exact hJ5 _ h
    ·refine yag h (fun h => ?_) (fun h => ?_)
     ·obtain ⟨z33, h⟩ := h
      refine ⟨z33, ?_⟩
      obtain ⟨h0, h⟩ := h
      refine ⟨h0, ?_⟩
      exact hJ5 _ h
     ·refine yag h (fun h => ?_) (fun h => ?_)
      ·obtain ⟨z34, h⟩ := h
       refine ⟨z34, ?_⟩
       obtain ⟨h0, h⟩ := h
       refine ⟨h0, ?_⟩
       exact hJ5 _ h
      ·exact hJ5 _ h
   ·exact hJ5 _ h
theorem ygr (r0 : Bool) (z2 : yab) (z5 : yad) (z6 : (List yae)) (z7 : (List yaf)) (z8 : (List yac)) (z9 : (List yaa)) (z10 : Int) {x22 : Bool} (h : ybk r0 z2 z5 z6 z7 z8 z9 z10 x22) : yc8 r0 z5 z6 z8 z2 z7 z9 z10 x22 := by
 unfold yc8
 unfold ybk at h
 refine yag h (fun h => ?_) (fun h => ?_)
 ·exact h
 ·obtain ⟨z23, h⟩ := h
  refine ⟨z23, ?_⟩
  obtain ⟨z24, h⟩ := h
  refine ⟨z24, ?_⟩
  obtain ⟨h0, h⟩ := h
  refine ⟨h0, ?_⟩
  obtain ⟨z25, h⟩ := h
  refine ⟨z25, ?_⟩
  obtain ⟨z26, h⟩ := h
  refine ⟨z26, ?_⟩
  obtain ⟨h0, h⟩ := h
  refine ⟨h0, ?_⟩
  intro J4 kJ4
  have hJ4 : ∀ (x27 : Bool), ybl r0 z10 z23 z24 x27 -> J4 x27 := fun x27 q => kJ4 x27 (ygx r0 z10 z23 z24 q)
  refine yag h (fun h => ?_) (fun h => ?_)
  ·exact hJ4 _ h
  ·exact hJ4 _ h
theorem ygV (r0 : Bool) (z2 : yab) (z5 : yad) (z6 : (List yae)) (z7 : (List yaf)) (z8 : (List yac)) (z9 : (List yaa)) (z10 : Int) (z11 : Int) (z15 : (List yad)) (z16 : (List yab)) {X2 : Int → Prop} {x17 : Int} (h : yc0 r0 z2 z5 z6 z7 z8 z9 z10 z11 z15 z16 X2 x17) : ydb z15 z16 r0 z5 z6 z8 z2 z7 z9 z10 z11 X2 x17 := by
 unfold ydb
 unfold yc0 at h
 intro c
 replace h := h c
 refine yag h (fun h => ?_) (fun h => ?_)
 ·exact h
 ·intro J3 kJ3
  have hJ3 : ∀ (x22 : Bool), ybk r0 z2 z5 z6 z7 z8 z9 z10 x22 -> J3 x22 := fun x22 q => kJ3 x22 (ygr r0 z2 z5 z6 z7 z8 z9 z10 q)
  refine yag h (fun h => ?_) (fun h => ?_)
  ·exact hJ3 _ h
  ·intro c
   replace h := h c
   exact hJ3 _ h
theorem yg7 (r0 : Bool) (z2 : yab) (z5 : yad) (z6 : (List yae)) (z7 : (List yaf)) (z8 : (List yac)) (z9 : (List yaa)) (z10 : Int) (z11 : Int) {x14 : Bool} (h : ya3 r0 z2 z5 z6 z7 z8 z9 z10 z11 x14) : yc9 r0 z5 z2 z6 z8 z7 z9 z10 z11 x14 := by
 unfold yc9
 unfold ya3 at h
 refine yag h (fun h => ?_) (fun h => ?_)
 ·exact h
 ·obtain ⟨z15, h⟩ := h
  refine ⟨z15, ?_⟩
  obtain ⟨h0, h⟩ := h
  refine ⟨h0, ?_⟩
  obtain ⟨z16, h⟩ := h
  refine ⟨z16, ?_⟩
  obtain ⟨h0, h⟩ := h
  refine ⟨h0, ?_⟩
  intro c
  replace h := h c
  intro c
  replace h := h c
  refine yag h (fun h => ?_) (fun h => ?_)
  ·exact h
  ·intro X2 k
   exact h X2 (fun x17 q => k x17 (ygV r0 z2 z5 z6 z7 z8 z9 z10 z11 z15 z16 q))
theorem yiD (a0 : (List yah)) (a1 : (List yan)) (a2 : Bool) (r0 : Bool) (h : yev a0 a1 a2 r0) : yaO a0 a1 a2 r0 := by
 unfold yaO
 unfold yev at h
 obtain ⟨z1, h⟩ := h
 refine ⟨z1, ?_⟩
 obtain ⟨h0, h⟩ := h
 refine ⟨h0, ?_⟩
 refine yag h (fun h => ?_) (fun h => ?_)
 ·exact h
 ·intro c
  replace h := h c
  obtain ⟨h0, h⟩ := h
  refine ⟨h0, ?_⟩
  obtain ⟨z2, h⟩ := h
  refine ⟨z2, ?_⟩
  obtain ⟨z3, h⟩ := h
  refine ⟨z3, ?_⟩
  obtain ⟨h0, h⟩ := h
  refine ⟨h0, ?_⟩
  obtain ⟨z4, h⟩ := h
  refine ⟨z4, ?_⟩
  obtain ⟨h0, h⟩ := h
  refine ⟨h0, ?_⟩
  refine yag h (fun h => ?_) (fun h => ?_)
  ·exact h
  ·obtain ⟨z5, h⟩ := h
   refine ⟨z5, ?_⟩
   obtain ⟨h0, h⟩ := h
   refine ⟨h0, ?_⟩
   obtain ⟨z6, h⟩ := h
   refine ⟨z6, ?_⟩
   obtain ⟨z7, h⟩ := h
   refine ⟨z7, ?_⟩
   obtain ⟨z8, h⟩ := h
   refine ⟨z8, ?_⟩
   obtain ⟨z9, h⟩ := h
   refine ⟨z9, ?_⟩
   obtain ⟨h0, h⟩ := h
   refine ⟨h0, ?_⟩
   obtain ⟨z10, h⟩ := h
   refine ⟨z10, ?_⟩
   obtain ⟨z11, h⟩ := h
   refine ⟨z11, ?_⟩
   obtain ⟨h0, h⟩ := h
   refine ⟨h0, ?_⟩
   obtain ⟨z12, h⟩ := h
   refine ⟨z12, ?_⟩
   obtain ⟨z13, h⟩ := h
   refine ⟨z13, ?_⟩
   obtain ⟨h0, h⟩ := h
   refine ⟨h0, ?_⟩
   intro J1 kJ1
   have hJ1 : ∀ (x14 : Bool), ya3 r0 z2 z5 z6 z7 z8 z9 z10 z11 x14 -> J1 x14 := fun x14 q => kJ1 x14 (yg7 r0 z2 z5 z6 z7 z8 z9 z10 z11 q)
   refine yag h (fun h => ?_) (fun h => ?_)
   ·exact hJ1 _ h
   ·exact hJ1 _ h
def ycw : Sp KK := ⟨3, [.v 22, .v 23, .v 4], [4], appW (K := KK) [4] [.v 22, .v 23, .v 4] yaO⟩
def yid : An KK := (.s .o (.s (.s .o (.c (.s .o .o) .o)) (.s .o (.s (.s .o (.c (.s .o .o) .o)) (.s .o (.s .o (.s .o (.s .o (.s (.j ⟨[(7, .px 7 0), (9, .px 9 0), (10, .kp 23), (11, .kp 24), (12, .kp 25), (13, .kp 26), (14, .kp 27), (15, .kp 28), (69, .bl)], [(7, 29, [.kp 29, .kp 30, .kp 31, .kp 32, .kp 33, .kp 34, .kp 35, .kp 36]), (9, 36, [.kp 37, .kp 38, .kp 39, .kp 40, .kp 41, .kp 42, .kp 43, .kp 44])], []⟩ .o (fun _ => (.c (.s .o .o) .o))) (.s .o (.s (.s .o (.c (.s .o .o) .o)) (.s (.s .o (.b (.l ⟨[(7, .px 7 0), (9, .px 9 0), (10, .kp 23), (11, .kp 24), (12, .kp 25), (13, .kp 26), (14, .kp 27), (15, .kp 28), (18, .kp 48), (19, .kp 49), (20, .it .i64)], [(7, 29, [.kp 29, .kp 30, .kp 31, .kp 32, .kp 33, .kp 34, .kp 35, .kp 36]), (9, 36, [.kp 37, .kp 38, .kp 39, .kp 40, .kp 41, .kp 42, .kp 43, .kp 44])], []⟩ (fun _ => (.s (.s .o (.c .o .o)) (.s (.b (.s .o (.c (.s .o .o) .o))) .o)))))) (.s (.j ⟨[(7, .px 7 0), (9, .px 9 0), (10, .kp 23), (11, .kp 24), (12, .kp 25), (13, .kp 26), (14, .kp 27), (102, .bl)], [(7, 29, [.kp 29, .kp 30, .kp 31, .kp 32, .kp 33, .kp 34, .kp 35, .kp 36]), (9, 36, [.kp 37, .kp 38, .kp 39, .kp 40, .kp 41, .kp 42, .kp 43, .kp 44])], []⟩ .o (fun _ => (.c (.s .o .o) .o))) (.s .o (.s .o (.s (.j ⟨[(14, .kp 27), (21, .px 21 0), (22, .kp 55), (124, .bl)], [(21, 33, [.kp 56, .kp 57, .kp 58])], []⟩ .o (fun _ => (.c (.s .o .o) .o))) (.j ⟨[(6, .bl)], [], []⟩ .o (fun _ => .o))))))))))))))))))
def yhN : Cf KK := ⟨CC, [ygL, yhA, yiO, yiI, yjV, yfX, yi6, yen, yet, yjM, yfO, yjh, yel], 158⟩
set_option maxRecDepth 100000 in
theorem yio : SpOk Try.prog CC ycw := by
 intro env r hF h
 obtain ⟨a0, env0, rfl, h1⟩ := yam h
 obtain ⟨a1, env1, rfl, h2⟩ := yam h1
 obtain ⟨a2, env2, rfl, h3⟩ := yam h2
 obtain ⟨rfl, h4⟩ := yaw h3
 obtain ⟨r0, rr0, rfl, h5⟩ := yaz h4
 obtain ⟨rfl, h6⟩ := yaR h5
 refine ⟨rfl, yaE (F := yhN) ybe (yas ykO (yas ymm (yas ynz (yas yom (yas yoR (yas yiP (yas ynN (yas yif (yas yhQ (yas ype (yas yiW (yas yoy (yas yh1 yaF))))))))))))) t3 (A := yid) (ps := [.v 22, .v 23, .v 4]) (rs := [4]) (env := [.d (.v 22 a0), .d (.v 23 a1), .d (.v 4 a2)]) (r := [.v 4 r0]) (X := yaO a0 a1 a2 r0) (by kernel_rfl) (Nat.le_of_ble_eq_true (by kernel_rfl)) rfl hF h6 ?_⟩
 kernel_rfl
end Go.Proofs.Ytkfingiebkgleaa
end
noncomputable section
namespace Go.Proofs.Ytkfingiebkgleaa
open Go.AV Go.RowKit
def ydw (v : yah) : Prop := (fun n : Int => (Lit.int .u8 n).wf = true) v.Kind /\ (fun n : Int => (Lit.int .u8 n).wf = true) v.Op /\ (fun n : Int => (Lit.int .u8 n).wf = true) v.Value /\ (fun n : Int => (Lit.int .u8 n).wf = true) v.Parts /\ (fun n : Int => (Lit.int .i64 n).wf = true) v.N /\ (fun s : Str => s.length <= maxLen) v.Name /\ (fun s : Str => s.length <= maxLen) v.Table
theorem yi0 : yoh Try.prog 62 ybP.c ydw := by
 intro us h
 have r := h.fields Try.underlying62
 obtain ⟨v0, q0, rfl, h0, r⟩ := r.first (yd9 Try.underlying5)
 obtain ⟨v1, q1, rfl, h1, r⟩ := r.first (yd9 Try.underlying5)
 obtain ⟨v2, q2, rfl, h2, r⟩ := r.first (yd9 Try.underlying5)
 obtain ⟨v3, q3, rfl, h3, r⟩ := r.first (yd9 Try.underlying5)
 obtain ⟨v4, q4, rfl, h4, r⟩ := r.first (yd9 Try.underlying2)
 obtain ⟨v5, q5, rfl, h5, r⟩ := r.first (ynn Try.underlying9)
 obtain ⟨v6, q6, rfl, h6, r⟩ := r.first (ynn Try.underlying9)
 obtain rfl := r.last
 exact ⟨⟨v0, v1, v2, v3, v4, v5, v6⟩, rfl, h0, h1, h2, h3, h4, h5, h6⟩
def ydD (v : yan) : Prop := (fun n : Int => (Lit.int .u8 n).wf = true) v.Table /\ (fun n : Int => (Lit.int .u8 n).wf = true) v.Name /\ (fun n : Int => (Lit.int .u8 n).wf = true) v.Kind /\ (fun _ : Bool => True) v.Null /\ (fun n : Int => (Lit.int .i64 n).wf = true) v.N /\ (fun s : Str => s.length <= maxLen) v.S
theorem yi9 : yoh Try.prog 66 ybM.c ydD := by
 intro us h
 have r := h.fields Try.underlying66
 obtain ⟨v0, q0, rfl, h0, r⟩ := r.first (yd9 Try.underlying5)
 obtain ⟨v1, q1, rfl, h1, r⟩ := r.first (yd9 Try.underlying5)
 obtain ⟨v2, q2, rfl, h2, r⟩ := r.first (yd9 Try.underlying5)
 obtain ⟨v3, q3, rfl, h3, r⟩ := r.first (ypk Try.underlying4)
 obtain ⟨v4, q4, rfl, h4, r⟩ := r.first (yd9 Try.underlying2)
 obtain ⟨v5, q5, rfl, h5, r⟩ := r.first (ynn Try.underlying9)
 obtain rfl := r.last
 exact ⟨⟨v0, v1, v2, v3, v4, v5⟩, rfl, h0, h1, h2, h3, h4, h5⟩
def yl1 : Prop := ∀ (a0 : (List yah)) (a1 : (List yan)) (a2 : Bool), (fun l : List yah => l.length <= maxLen /\ ∀ v ∈ l, ydw v) a0 -> (fun l : List yan => l.length <= maxLen /\ ∀ v ∈ l, ydD v) a1 -> (fun _ : Bool => True) a2 -> yaO a0 a1 a2 true
set_option maxRecDepth 100000 in
theorem ykP {a0 : (List yah)} {a1 : (List yan)} {a2 : Bool} (h : yaO a0 a1 a2 true) : Pure Try.prog 3 [slA ybP a0, slA ybM a1, .bl a2] (.bl true) := by
 have e : Pure Try.prog ycw.f (ya7 CC ycw.ps [.d (.v 22 a0), .d (.v 23 a1), .d (.v 4 a2)]) (ybX (([.v 4 true] : List (DV KK)).map (dvA CC))) = Pure Try.prog 3 [slA ybP a0, slA ybM a1, .bl a2] (.bl true) := by kernel_rfl
 have w : ycw.W [.d (.v 22 a0), .d (.v 23 a1), .d (.v 4 a2)] [.v 4 true] = yaO a0 a1 a2 true := by kernel_rfl
 exact e.mp (yio _ _ (fun F h => by simp at h) (w.mpr h)).2
end Go.Proofs.Ytkfingiebkgleaa
end
noncomputable section
namespace Go.Proofs.Ytkfingiebkgleaa
open Go.AV Go.RowKit
abbrev V := yac
abbrev V6 := yaa
def Rg (n : Int) : Prop := -9223372036854775808 <= n /\ n <= 9223372036854775807
def inR (n : Int) : Bool := decide (-9223372036854775808 <= n) && decide (n <= 9223372036854775807)
theorem yeg (n : Int) : inR n = true ↔ Rg n := by simp [inR, Rg]
def good (v : V) : Prop := (v.Kind = 0 /\ v.N = 0 /\ v.S = []) ∨ (v.Kind = 1 /\ (v.N = 0 ∨ v.N = 1) /\ v.S = []) ∨ (v.Kind = 2 /\ Rg v.N /\ v.S = []) ∨ (v.Kind = 3 /\ v.N = 0 /\ v.S.length <= 64)
def v6 (a : V) : V6 := ⟨a.Kind, a.N, a.S⟩
def D0 : V := ⟨0, 0, []⟩
def bV (b : Bool) : V := ⟨1, if b then 1 else 0, []⟩
def eqV (a b : V) : Bool := (a.Kind == b.Kind) && ((a.N == b.N) && ((a.S == b.S) && true))
theorem ysI {a b : V} : eqV a b = true ↔ a = b := by
 cases a; cases b; simp [eqV]
theorem yvw (n : Int) : Rg (IntKind.i64.wrap n) := by
 have := yo1 n; unfold Rg; omega
theorem ynU (v : V) : yal v (v.Kind == 0) := by
 unfold yal; grind [cnd]
theorem yhP (b : Bool) : yay b (bV b) := by
 unfold yay; cases b <;> simp [cnd, bV]
theorem ysn (n : Int) : yaZ n ⟨2, n, []⟩ := by unfold yaZ; rfl
theorem ylc (s : Str) : yaD s ⟨3, 0, s⟩ := by unfold yaD; rfl
def ycf (op : Int) : Int := if 7 <= op /\ op <= 11 then 2 else if op = 12 then 3 else if op = 13 ∨ op = 14 then 1 else 0
theorem yxJ (op : Int) : ycy op (ycf op) := by
 apply yoi
 simp only [yeS, yca, ycb]
 grind [ycf, cnd]
def sFit (op : Int) (a b : V) : Bool := if ycf op = 0 then a.Kind == 0 || b.Kind == 0 || a.Kind == b.Kind else (a.Kind == 0 || a.Kind == ycf op) && (b.Kind == 0 || b.Kind == ycf op)
theorem pFit (op : Int) (a b : V) : yct op a b (sFit op a b) := by
 apply ypL
 simp only [ygE, ybo]
 refine ⟨_, yxJ op, ?_⟩
 have h1 := ynU a
 have h2 := ynU b
 refine ⟨fun h => ⟨_, h1, ?_⟩, fun h => ⟨_, h1, ?_⟩⟩ <;> grind [sFit, cnd]
def ylX (d : Bool) (a b : V) : V := if eqV a (bV d) || eqV b (bV d) then bV d else if a.Kind == 0 || b.Kind == 0 then D0 else bV (!d)
theorem ywQ (d : Bool) (a b : V) : ybL d a b (ylX d a b) := by
 have ha := ynU a
 have hb := ynU b
 have hd := yhP d
 have hn := yhP (!d)
 have e1 : ((a.Kind == (bV d).Kind) && ((a.N == (bV d).N) && ((a.S == (bV d).S) && true))) = eqV a (bV d) := rfl
 have e2 : ((b.Kind == (bV d).Kind) && ((b.N == (bV d).N) && ((b.S == (bV d).S) && true))) = eqV b (bV d) := rfl
 apply ynV
 simp only [yeZ, ycl, yci]
 refine ⟨_, hd, ?_⟩
 rw [e1, e2]
 generalize hx : eqV a (bV d) = x
 generalize hy : eqV b (bV d) = y
 unfold ylX
 rw [hx, hy]
 have hD : (⟨0, 0, []⟩ : V) = D0 := rfl
 rw [hD]
 grind [cnd]
def cI (a b : Int) : Int := if a < b then -1 else if b < a then 1 else 0
def cS (a b : Str) : Int := if Op.bytesLess a b then -1 else if !(Op.bytesLess a b || a == b) then 1 else 0
theorem yxZ (a b : Int) : ycT a b (cI a b) := by
 refine ⟨_, rfl, _, rfl, ?_⟩
 grind [cnd, cI]
theorem yyV (a b : Int) : ycp a b (cI a b) := by
 refine ⟨_, rfl, _, rfl, ?_⟩
 grind [cnd, cI]
theorem yyf (a b : Str) : yb4 a b (cS a b) := by
 refine ⟨_, rfl, _, rfl, ?_⟩
 grind [cnd, cS]
def sOr (a b c : Int) : Int := if a ≠ 0 then a else if b ≠ 0 then b else c
theorem pOr (a b c : Int) : yds [a, b, c] (sOr a b c) := by
 apply yoI
 intro _ X hX
 apply hX
 refine ⟨fun _ => ⟨by omega, by simp, a, rfl, ?_⟩, fun h => by simp at h⟩
 refine ⟨fun h => by grind [sOr], fun h => ?_⟩
 rw [wrap64 (by omega) (by omega)]
 apply hX
 refine ⟨fun _ => ⟨by omega, by simp, b, rfl, ?_⟩, fun h => by simp at h⟩
 refine ⟨fun h => by grind [sOr], fun h => ?_⟩
 rw [wrap64 (by omega) (by omega)]
 apply hX
 refine ⟨fun _ => ⟨by omega, by simp, c, rfl, ?_⟩, fun h => by simp at h⟩
 refine ⟨fun h => by grind [sOr], fun h => ?_⟩
 rw [wrap64 (by omega) (by omega)]
 apply hX
 refine ⟨fun h => by simp at h, fun _ => by grind [sOr]⟩
def sCmp (a b : V) : Int := sOr (cI a.Kind b.Kind) (cI a.N b.N) (cS a.S b.S)
theorem ytu (a b : V) : yby a b (sCmp a b) :=
 ⟨_, yxZ a.Kind b.Kind, _, yyV a.N b.N, _, yyf a.S b.S, _, pOr _ _ _, rfl⟩
def ygf (op n : Int) : Bool := if op = 1 then n == 0 else if op = 2 then !(n == 0) else if op = 3 then decide (n < 0) else if op = 4 then decide (n <= 0) else if op = 5 then decide (0 < n) else decide (0 <= n)
theorem ywy (op n : Int) : ybQ op n (ygf op n) := by
 unfold ybQ
 grind [cnd, ygf]
theorem absw {a : Int} (h : Rg a) : (if IntKind.i64.wrap (0 - a) > a then IntKind.i64.wrap (0 - a) else a) = (if a = -9223372036854775808 then a else (a.natAbs : Int)) := by
 unfold Rg at h
 by_cases h1 : a = -9223372036854775808
 ·subst h1; rfl
 ·rw [if_neg h1, wrap64 (by omega) (by omega)]; split <;> omega
theorem absu {a : Int} (h : Rg a) : IntKind.u64.wrap (if IntKind.i64.wrap (0 - a) > a then IntKind.i64.wrap (0 - a) else a) = (a.natAbs : Int) := by
 rw [absw h]
 unfold Rg at h
 split
 ·rename_i e; subst e; rfl
 ·exact yvE (by omega) (by omega)
theorem ylr {a b : Int} (h : (decide (a < 0) == decide (b < 0)) = true) : a * b = (a.natAbs : Int) * b.natAbs := by
 rcases Int.lt_or_le a 0 with h1 | h1 <;> rcases Int.lt_or_le b 0 with h2 | h2
 ·have e1 : (a.natAbs : Int) = -a := by omega
  have e2 : (b.natAbs : Int) = -b := by omega
  rw [e1, e2, Int.neg_mul_neg]
 ·simp [h1, Int.not_lt.2 h2] at h
 ·simp [h2, Int.not_lt.2 h1] at h
 ·have e1 : (a.natAbs : Int) = a := by omega
  have e2 : (b.natAbs : Int) = b := by omega
  rw [e1, e2]
theorem yke {a b : Int} (h : (decide (a < 0) == decide (b < 0)) = false) : a * b = -((a.natAbs : Int) * b.natAbs) := by
 rcases Int.lt_or_le a 0 with h1 | h1 <;> rcases Int.lt_or_le b 0 with h2 | h2
 ·simp [h1, h2] at h
 ·have e1 : (a.natAbs : Int) = -a := by omega
  have e2 : (b.natAbs : Int) = b := by omega
  rw [e1, e2, Int.neg_mul, Int.neg_neg]
 ·have e1 : (a.natAbs : Int) = a := by omega
  have e2 : (b.natAbs : Int) = -b := by omega
  rw [e1, e2, Int.mul_neg, Int.neg_neg]
 ·simp [Int.not_lt.2 h1, Int.not_lt.2 h2] at h
theorem ytX {a b : Int} (ha : Rg a) (hb : Rg b) : ∃ n, ycN a b n (inR (a * b)) ∧ (Rg (a * b) → n = a * b) := by
 have h := fun z1 z2 => (show yce (IntKind.u64.wrap (if (IntKind.i64.wrap (0 - a)) > a then (IntKind.i64.wrap (0 - a)) else a)) (IntKind.u64.wrap (if (IntKind.i64.wrap (0 - b)) > b then (IntKind.i64.wrap (0 - b)) else b)) z1 z2 ↔ z1 = (a.natAbs : Int) * b.natAbs / 18446744073709551616 ∧ z2 = (a.natAbs : Int) * b.natAbs % 18446744073709551616 by
  rw [absu ha, absu hb]
  unfold Rg at ha hb
  unfold yce
  constructor
  ·rintro ⟨_, _, _, _, h1, h2⟩; exact ⟨h1, h2⟩
  ·rintro ⟨h1, h2⟩; exact ⟨by omega, by omega, by omega, by omega, h1, h2⟩)
 have hp0 : 0 <= (a.natAbs : Int) * b.natAbs := Int.mul_nonneg (by omega) (by omega)
 by_cases hs : (decide (a < 0) == decide (b < 0)) = true
 ·have e := ylr hs
  generalize hp : (a.natAbs : Int) * b.natAbs = p at *
  refine ⟨IntKind.i64.wrap (p % 18446744073709551616), ⟨_, _, (h _ _).2 ⟨rfl, rfl⟩, ?_⟩, ?_⟩
  ·rw [hs]
   refine ⟨fun c => (by simp at c), fun _ => ⟨fun c => ⟨rfl, ?_⟩, fun c => ⟨rfl, ?_⟩⟩⟩
   ·have c : p / 18446744073709551616 = 0 := by simpa using c
    rw [e]; unfold inR
    rw [Bool.eq_iff_iff]; simp; omega
   ·have c : ¬ p / 18446744073709551616 = 0 := by simpa using c
    rw [e]; unfold inR
    rw [Bool.eq_iff_iff]; simp; omega
  ·intro hr
   rw [e] at hr ⊢
   unfold Rg at hr
   rw [wrap64 (by omega) (by omega)]; omega
 ·have hs : (decide (a < 0) == decide (b < 0)) = false := by simpa using hs
  have e := yke hs
  generalize hp : (a.natAbs : Int) * b.natAbs = p at *
  refine ⟨IntKind.i64.wrap (0 - IntKind.i64.wrap (p % 18446744073709551616)), ⟨_, _, (h _ _).2 ⟨rfl, rfl⟩, ?_⟩, ?_⟩
  ·rw [hs]
   refine ⟨fun _ => ⟨fun c => ⟨rfl, ?_⟩, fun c => ⟨rfl, ?_⟩⟩, fun c => (by simp at c)⟩
   ·have c : p / 18446744073709551616 = 0 := by simpa using c
    rw [e]; unfold inR
    rw [Bool.eq_iff_iff]; simp; omega
   ·have c : ¬ p / 18446744073709551616 = 0 := by simpa using c
    rw [e]; unfold inR
    rw [Bool.eq_iff_iff]; simp; omega
  ·intro hr
   rw [e] at hr ⊢
   unfold Rg at hr
   rw [yeE, yeE]
   split <;> split <;> omega
def sRk (op a b : Int) : Int × Int := if op = 7 then (if inR (a + b) then (a + b, 0) else (0, 8)) else if op = 8 then (if inR (a - b) then (a - b, 0) else (0, 8)) else if op = 9 then (if inR (a * b) then (a * b, 0) else (0, 8)) else
 if b = 0 then (0, 9) else if op = 11 then (a.tmod b, 0) else if a = -9223372036854775808 /\ b = -1 then (0, 8) else (a.tdiv b, 0)
theorem ylg {a b : Int} (ha : Rg a) (h : ¬ (a = -9223372036854775808 ∧ b = -1)) : Rg (a.tdiv b) := by
 unfold Rg at *
 have h1 : (a.tdiv b).natAbs = a.natAbs / b.natAbs := Int.natAbs_tdiv a b
 by_cases hb : b.natAbs <= 1
 ·have : b = 0 ∨ b = 1 ∨ b = -1 := by omega
  rcases this with rfl | rfl | rfl
  ·simp
  ·simp; omega
  ·have : a.tdiv (-1) = -a := by rw [Int.tdiv_neg, Int.tdiv_one]
   rw [this]; omega
 ·have h2 : a.natAbs / b.natAbs ≤ a.natAbs / 2 := Nat.div_le_div_left (by omega) (by omega)
  omega
theorem yuY {op a b : Int} (ha : Rg a) (hb : Rg b) : ya9 op a b (sRk op a b).1 (sRk op a b).2 := by
 apply ymx
 simp only [yep, yaH]
 have ha' := ha
 have hb' := hb
 unfold Rg at ha' hb'
 refine ⟨fun c => ?_, fun c => ⟨fun c' => ?_, fun c' => ⟨fun c2 => ?_, fun c2 => ⟨fun c3 => ?_, fun c3 => ⟨fun c4 => ?_, fun c4 => ?_⟩⟩⟩⟩⟩
 ·have c : op = 7 := by simpa using c
  subst c
  have hw := yeE (a + b)
  have hi := yeg (a + b)
  unfold Rg at hi
  simp only [sRk, if_true]
  by_cases hr : inR (a + b) = true
  ·have hr' := hi.1 hr
   rw [if_pos hr, wrap64 (n := a + b) (by omega) (by omega)]
   refine ⟨fun d => ⟨fun e => (by simp at e), fun _ => ⟨rfl, rfl⟩⟩, fun d => ⟨fun e => ?_, fun e => ⟨rfl, rfl⟩⟩⟩
   have d : ¬ ((a < a + b) ↔ (0 < b)) := by simpa using d
   omega
  ·have hr' : ¬ _ := fun q => hr (hi.2 q)
   rw [if_neg hr]
   refine ⟨fun d => ?_, fun d => ⟨fun e => ⟨rfl, rfl⟩, fun e => ?_⟩⟩
   ·have d : (a < IntKind.i64.wrap (a + b)) ↔ (0 < b) := by simpa using d
    rw [hw] at d
    split at d <;> omega
   ·have e : b = 0 := by simpa using e
    omega
 ·have c' : op = 8 := by simpa using c'
  subst c'
  have hw := yeE (a - b)
  have hi := yeg (a - b)
  unfold Rg at hi
  simp only [sRk, if_true, show (8 : Int) ≠ 7 by decide, if_false]
  by_cases hr : inR (a - b) = true
  ·have hr' := hi.1 hr
   rw [if_pos hr, wrap64 (n := a - b) (by omega) (by omega)]
   refine ⟨fun d => ⟨fun e => (by simp at e), fun _ => ⟨rfl, rfl⟩⟩, fun d => ⟨fun e => ?_, fun e => ⟨rfl, rfl⟩⟩⟩
   have d : ¬ ((a - b < a) ↔ (0 < b)) := by simpa using d
   omega
  ·have hr' : ¬ _ := fun q => hr (hi.2 q)
   rw [if_neg hr]
   refine ⟨fun d => ?_, fun d => ⟨fun e => ⟨rfl, rfl⟩, fun e => ?_⟩⟩
   ·have d : (IntKind.i64.wrap (a - b) < a) ↔ (0 < b) := by simpa using d
    rw [hw] at d
    split at d <;> omega
   ·have e : b = 0 := by simpa using e
    omega
 ·have c2 : op = 9 := by simpa using c2
  subst c2
  obtain ⟨n, h1, h2⟩ := ytX ha hb
  refine ⟨n, _, h1, ?_⟩
  simp only [sRk, show (9 : Int) ≠ 7 by decide, show (9 : Int) ≠ 8 by decide, if_false, if_true]
  have hi := yeg (a * b)
  refine ⟨fun d => ?_, fun d => ?_⟩
  ·have d : inR (a * b) = false := by simpa using d
   rw [d]; exact ⟨rfl, rfl⟩
  ·have d : inR (a * b) = true := by simpa using d
   rw [d, if_pos rfl]; exact ⟨h2 (hi.1 d), rfl⟩
 ·have c3 : b = 0 := by simpa using c3
  have c1 : ¬ op = 7 := by simpa using c
  have c4 : ¬ op = 8 := by simpa using c'
  have c5 : ¬ op = 9 := by simpa using c2
  simp [sRk, c1, c4, c5, c3]
 ·have c3 : ¬ b = 0 := by simpa using c3
  have c1 : ¬ op = 7 := by simpa using c
  have c5 : ¬ op = 8 := by simpa using c'
  have c6 : ¬ op = 9 := by simpa using c2
  have c4 : op = 11 := by simpa using c4
  refine ⟨c3, ?_⟩
  simp [sRk, c3, c4]
 ·have c3 : ¬ b = 0 := by simpa using c3
  have c1 : ¬ op = 7 := by simpa using c
  have c5 : ¬ op = 8 := by simpa using c'
  have c6 : ¬ op = 9 := by simpa using c2
  have c4 : ¬ op = 11 := by simpa using c4
  refine ⟨c3, ?_⟩
  simp only [sRk, c1, c5, c6, c3, c4, if_false]
  by_cases hm : a = -9223372036854775808 /\ b = -1
  ·rw [if_pos hm]
   obtain ⟨rfl, rfl⟩ := hm
   refine ⟨fun d => (by simp at d), fun _ => ⟨fun _ => ⟨rfl, rfl⟩, fun d => (by simp at d)⟩⟩
  ·have := ylg (b := b) ha hm
   unfold Rg at this
   rw [if_neg hm, wrap64 (by omega) (by omega)]
   refine ⟨fun d => ⟨fun e => (by simp at e), fun _ => ⟨rfl, rfl⟩⟩, fun d => ⟨fun e => ?_, fun _ => ⟨rfl, rfl⟩⟩⟩
   exfalso; apply hm
   exact ⟨by simpa using d, by simpa using e⟩
def sDo (op : Int) (a b : V) : V × Int :=
 if op < 1 ∨ 14 < op then (D0, 1) else if sFit op a b = false then (D0, 5) else if 13 <= op then (ylX (op == 14) a b, 0) else if a.Kind = 0 ∨ b.Kind = 0 then (D0, 0) else
 if op <= 6 then (bV (ygf op (sCmp a b)), 0) else if op = 12 then (if 64 < a.S.length + b.S.length then (D0, 8) else (⟨3, 0, a.S ++ b.S⟩, 0)) else
 if (sRk op a.N b.N).2 ≠ 0 then (D0, (sRk op a.N b.N).2) else (⟨2, (sRk op a.N b.N).1, []⟩, 0)
theorem pDo {op : Int} {a b : V} (ha : Rg a.N) (hb : Rg b.N) (h1 : a.S.length ≤ 1000) (h2 : b.S.length ≤ 1000) : ycV op a b (sDo op a b).1 (sDo op a b).2 := by
 apply ym3
 simp only [yis, ydm, ydq]
 have f := pFit op a b
 have lg := ywQ (op == 14) a b
 have n1 := ynU a
 have n2 := ynU b
 have cp := ytu a b
 have hd := ywy op (sCmp a b)
 have ob := yhP (ygf op (sCmp a b))
 have tx := ylc (a.S ++ b.S)
 have rk := yuY (op := op) ha hb
 have oi := ysn (sRk op a.N b.N).1
 have hw : IntKind.i64.wrap ((a.S.length : Int) + (b.S.length : Int)) = (a.S.length : Int) + b.S.length := wrap64 (by omega) (by omega)
 rw [hw]
 have h0 : (⟨0, 0, []⟩ : V) = D0 := rfl
 rw [h0]
 have tail : ¬ (op < 1 ∨ 14 < op) → cnd false (D0 = (sDo op a b).1 ∧ (1 : Int) = (sDo op a b).2) (∃ z2, yct op a b z2 ∧ cnd (!z2) (D0 = (sDo op a b).1 ∧ (5 : Int) = (sDo op a b).2) (cnd (decide ((13 : Int) ≤ op)) (∃ z3, (ybL (op == 14) a b z3) ∧ z3 = (sDo op a b).1 ∧ (0 : Int) = (sDo op a b).2) (∃ z12, (yal a z12) ∧ cnd z12 (cnd true (D0 = (sDo op a b).1 ∧ (0 : Int) = (sDo op a b).2) (cnd (decide (op ≤ (6 : Int))) (∃ z5, (yby a b z5) ∧ ∃ z6, (ybQ op z5 z6) ∧ ∃ z7, (yay z6 z7) ∧ z7 = (sDo op a b).1 ∧ (0 : Int) = (sDo op a b).2) (cnd (op == (12 : Int)) (cnd (decide ((64 : Int) < ((a.S.length : Int) + (b.S.length : Int)))) (D0 = (sDo op a b).1 ∧ (8 : Int) = (sDo op a b).2) ((a.S.length + b.S.length ≤ 9223372036854775807) ∧ ∃ z8, (yaD (a.S ++ b.S) z8) ∧ z8 = (sDo op a b).1 ∧ (0 : Int) = (sDo op a b).2)) (∃ z9, ∃ z10, (ya9 op a.N b.N z9 z10) ∧ cnd (!(z10 == (0 : Int))) (D0 = (sDo op a b).1 ∧ z10 = (sDo op a b).2) (∃ z11, (yaZ z9 z11) ∧ z11 = (sDo op a b).1 ∧ (0 : Int) = (sDo op a b).2))))) (∃ z13, (yal b z13) ∧ cnd z13 (D0 = (sDo op a b).1 ∧ (0 : Int) = (sDo op a b).2) (cnd (decide (op ≤ (6 : Int))) (∃ z5, (yby a b z5) ∧ ∃ z6, (ybQ op z5 z6) ∧ ∃ z7, (yay z6 z7) ∧ z7 = (sDo op a b).1 ∧ (0 : Int) = (sDo op a b).2) (cnd (op == (12 : Int)) (cnd (decide ((64 : Int) < ((a.S.length : Int) + (b.S.length : Int)))) (D0 = (sDo op a b).1 ∧ (8 : Int) = (sDo op a b).2) ((a.S.length + b.S.length ≤ 9223372036854775807) ∧ ∃ z8, (yaD (a.S ++ b.S) z8) ∧ z8 = (sDo op a b).1 ∧ (0 : Int) = (sDo op a b).2)) (∃ z9, ∃ z10, (ya9 op a.N b.N z9 z10) ∧ cnd (!(z10 == (0 : Int))) (D0 = (sDo op a b).1 ∧ z10 = (sDo op a b).2) (∃ z11, (yaZ z9 z11) ∧ z11 = (sDo op a b).1 ∧ (0 : Int) = (sDo op a b).2)))))))) := by
  intro hop
  refine ⟨fun c => (by cases c), fun _ => ⟨_, f, ?_⟩⟩
  refine ⟨fun c => ?_, fun c => ⟨fun c1 => ⟨_, lg, ?_⟩, fun c1 => ⟨_, n1, ?_⟩⟩⟩
  ·have c : sFit op a b = false := by simpa using c
   simp [sDo, hop, c]
  ·have c : ¬ sFit op a b = false := by simpa using c
   have c1 : 13 <= op := by simpa using c1
   simp [sDo, hop, c, c1]
  ·have c : ¬ sFit op a b = false := by simpa using c
   have c1 : ¬ 13 <= op := by simpa using c1
   refine ⟨fun c2 => ?_, fun c2 => ⟨_, n2, fun c3 => ?_, fun c3 => ?_⟩⟩
   ·have c2 : a.Kind = 0 := by simpa using c2
    refine ⟨fun _ => ?_, fun q => (by cases q)⟩
    simp [sDo, hop, c, c1, c2]
   ·have c3 : b.Kind = 0 := by simpa using c3
    simp [sDo, hop, c, c1, c3]
   ·have c2 : ¬ a.Kind = 0 := by simpa using c2
    have c3 : ¬ b.Kind = 0 := by simpa using c3
    refine ⟨fun c4 => ⟨_, cp, _, hd, _, ob, ?_⟩, fun c4 => ⟨fun c5 => ⟨fun c6 => ?_, fun c6 => ⟨by omega, _, tx, ?_⟩⟩, fun c5 => ⟨_, _, rk, fun c6 => ?_, fun c6 => ⟨_, oi, ?_⟩⟩⟩⟩
    ·have c4 : op ≤ 6 := by simpa using c4
     simp [sDo, hop, c, c1, c2, c3, c4]
    ·have c4 : ¬ op ≤ 6 := by simpa using c4
     have c5 : op = 12 := by simpa using c5
     subst c5
     have c6' : (64 : Int) < a.S.length + b.S.length := by simpa using c6
     have c6 : 64 < a.S.length + b.S.length := by omega
     simp [sDo, c, c2, c3, c6]
    ·have c4 : ¬ op ≤ 6 := by simpa using c4
     have c5 : op = 12 := by simpa using c5
     subst c5
     have c6' : ¬ (64 : Int) < a.S.length + b.S.length := by simpa using c6
     have c6 : ¬ 64 < a.S.length + b.S.length := by omega
     simp [sDo, c, c2, c3, c6]
    ·have c4 : ¬ op ≤ 6 := by simpa using c4
     have c5 : ¬ op = 12 := by simpa using c5
     have c6 : ¬ (sRk op a.N b.N).2 = 0 := by simpa using c6
     simp [sDo, hop, c, c1, c2, c3, c4, c5, c6]
    ·have c4 : ¬ op ≤ 6 := by simpa using c4
     have c5 : ¬ op = 12 := by simpa using c5
     have c6 : (sRk op a.N b.N).2 = 0 := by simpa using c6
     simp [sDo, hop, c, c1, c2, c3, c4, c5, c6]
 refine ⟨fun c => ⟨fun _ => ?_, fun q => (by cases q)⟩, fun c => ?_⟩
 ·have c : op < 1 := by simpa using c
  simp [sDo, c]
 ·have c : ¬ op < 1 := by simpa using c
  by_cases c' : 14 < op
  ·simp only [c', decide_true]
   refine ⟨fun _ => ?_, fun q => (by cases q)⟩
   simp [sDo, c']
  ·simp only [c', decide_false]
   exact tail (by omega)
end Go.Proofs.Ytkfingiebkgleaa
end
noncomputable section
namespace Go.Proofs.Ytkfingiebkgleaa
open Go.AV Go.RowKit
def ydN (a b : V6) : Bool := if a.Kind ≠ b.Kind then decide (a.Kind < b.Kind) else if a.Kind = 3 then Op.bytesLess a.S b.S else decide (a.N < b.N)
theorem ysW {a b : Str} {i : Nat} (h1 : i < a.length) (h2 : i < b.length) : Op.bytesLess (a.drop i) (b.drop i) = (decide (a[i] < b[i]) || (a[i] == b[i] && Op.bytesLess (a.drop (i + 1)) (b.drop (i + 1)))) := by
 rw [List.drop_eq_getElem_cons h1, List.drop_eq_getElem_cons h2]
 simp only [Op.bytesLess]
theorem yvA {a b : Str} {i : Nat} (h1 : a.length ≤ i) (h2 : i ≤ b.length) : Op.bytesLess (a.drop i) (b.drop i) = decide (i < b.length) := by
 rw [List.drop_of_length_le h1]
 by_cases h : i < b.length
 ·rw [List.drop_eq_getElem_cons h]; simp [Op.bytesLess, h]
 ·rw [List.drop_of_length_le (by omega)]; simp [Op.bytesLess, h]
theorem yvl {a b : Str} {i : Nat} (h2 : b.length ≤ i) : Op.bytesLess (a.drop i) (b.drop i) = false := by
 rw [List.drop_of_length_le h2]
 cases a.drop i <;> rfl
theorem ysi {s : Str} {i : Nat} (h : i < s.length) : bAt s (i : Int) = (s[i].toNat : Int) := by
 unfold bAt
 rw [Int.toNat_natCast, List.getElem?_eq_getElem h]; rfl
theorem ysm (a b : V6) (h1 : a.S.length ≤ 1000) (h2 : b.S.length ≤ 1000) : yaI a b (ydN a b) := by
 apply yms
 refine ⟨fun c => ?_, fun c => ⟨fun c3 => ?_, fun c3 => ?_⟩⟩
 ·have c : a.Kind ≠ b.Kind := by simpa using c
  simp [ydN, c]
 ·have c : a.Kind = b.Kind := by simpa using c
  have c3 : a.Kind = 3 := by simpa using c3
  have hs : ydN a b = Op.bytesLess a.S b.S := by simp [ydN, <- c, c3]
  rw [hs]
  refine lp1 (fun (x : Int) => ∃ i : Nat, x = (i : Int) /\ i <= a.S.length /\ i <= b.S.length /\ Op.bytesLess a.S b.S = Op.bytesLess (a.S.drop i) (b.S.drop i)) (fun (x : Int) => a.S.length - x.toNat) ?_ ⟨0, rfl, by omega, by omega, rfl⟩
  rintro X x ⟨i, rfl, hi1, hi2, he⟩ hX
  rw [he]
  simp only [yc6, ybD]
  by_cases l1 : i < a.S.length
  ·by_cases l2 : i < b.S.length
   ·have t1 : ((i : Int) < a.S.length) := by omega
    have t2 : ((i : Int) < b.S.length) := by omega
    simp only [t1, t2, decide_true]
    refine ⟨fun _ => ⟨fun _ => ⟨(by refine ⟨?_, ?_⟩ <;> first | trivial | omega), (by refine ⟨?_, ?_⟩ <;> first | trivial | omega), ?_⟩, fun q => (by cases q)⟩, fun q => (by cases q)⟩
    rw [ysi l1, ysi l2, ysW l1 l2]
    refine ⟨fun d => ⟨(by refine ⟨?_, ?_⟩ <;> first | trivial | omega), (by refine ⟨?_, ?_⟩ <;> first | trivial | omega), ?_⟩, fun d => ?_⟩
    ·have d0 : ¬ (a.S[i].toNat : Int) = b.S[i].toNat := by simpa using d
     have d : ¬ a.S[i].toNat = b.S[i].toNat := by omega
     have d' : ¬ a.S[i] = b.S[i] := fun e => d (by rw [e])
     rw [Bool.eq_iff_iff]
     simp [d', UInt8.lt_iff_toNat_lt]
    ·have d : a.S[i] = b.S[i] := by
      have d0 : (a.S[i].toNat : Int) = b.S[i].toNat := by simpa using d
      have : a.S[i].toNat = b.S[i].toNat := by omega
      exact UInt8.toNat_inj.1 this
     rw [wrap64 (by omega) (by omega)]
     refine hX _ ⟨i + 1, by omega, by omega, by omega, ?_⟩ (by omega)
     rw [he, ysW l1 l2]
     have hlt : ¬ b.S[i] < b.S[i] := Nat.lt_irrefl _
     simp [d, hlt]
   ·have t1 : ((i : Int) < a.S.length) := by omega
    have t2 : ¬ ((i : Int) < b.S.length) := by omega
    simp only [t1, t2, decide_true, decide_false]
    refine ⟨fun _ => ⟨fun q => (by cases q), fun _ => ?_⟩, fun q => (by cases q)⟩
    rw [yvl (by omega)]
    simp; omega
  ·have t1 : ¬ ((i : Int) < a.S.length) := by omega
   simp only [t1, decide_false]
   refine ⟨fun q => (by cases q), fun _ => ⟨fun q => (by cases q), fun _ => ?_⟩⟩
   rw [yvA (by omega) hi2]
   rw [Bool.eq_iff_iff]; simp; omega
 ·have c : a.Kind = b.Kind := by simpa using c
  have c3 : ¬ a.Kind = 3 := by simpa using c3
  simp [ydN, <- c, c3]
theorem yrM (b : Bool) : yaq b (v6 (bV b)) := by
 unfold yaq; cases b <;> simp [cnd, bV, v6]
theorem ywl {a b : Int} (ha : Rg a) (hb : Rg b) : ycq a b (if inR (a + b) then a + b else 0) (inR (a + b)) := by
 apply ypM
 simp only [ygI, ybs]
 have hi := yeg (a + b)
 unfold Rg at ha hb hi
 have w1 : 0 < b -> IntKind.i64.wrap (9223372036854775807 - b) = 9223372036854775807 - b := fun h => wrap64 (by omega) (by omega)
 have w2 : b < 0 -> IntKind.i64.wrap (-9223372036854775808 - b) = -9223372036854775808 - b := fun h => wrap64 (by omega) (by omega)
 have w3 : Rg (a + b) -> IntKind.i64.wrap (a + b) = a + b := fun h => by unfold Rg at h; exact wrap64 (by omega) (by omega)
 unfold Rg at w3
 have yes : Rg (a + b) → cnd false ((0 : Int) = (if inR (a + b) then a + b else 0) ∧ false = inR (a + b)) (IntKind.i64.wrap (a + b) = (if inR (a + b) then a + b else 0) ∧ true = inR (a + b)) := fun h => by
  unfold Rg at h
  refine ⟨fun q => (by cases q), fun _ => ?_⟩
  rw [if_pos (hi.2 h), w3 h, hi.2 h]; exact ⟨rfl, rfl⟩
 have no : ¬ Rg (a + b) → cnd true ((0 : Int) = (if inR (a + b) then a + b else 0) ∧ false = inR (a + b)) (IntKind.i64.wrap (a + b) = (if inR (a + b) then a + b else 0) ∧ true = inR (a + b)) := fun h => by
  unfold Rg at h
  refine ⟨fun _ => ?_, fun q => (by cases q)⟩
  have : inR (a + b) = false := by rw [<- Bool.not_eq_true]; exact fun q => h (hi.1 q)
  rw [this]; exact ⟨rfl, rfl⟩
 unfold Rg at yes no
 refine ⟨fun c => ?_, fun c => ?_⟩
 ·have c : 0 < b := by simpa using c
  rw [w1 c]
  refine ⟨fun d => no ?_, fun d => ⟨fun e => ?_, fun e => yes ?_⟩⟩
  ·have d : 9223372036854775807 - b < a := by simpa using d
   omega
  ·have e : b < 0 := by simpa using e
   omega
  ·have d : ¬ 9223372036854775807 - b < a := by simpa using d
   omega
 ·have c : ¬ 0 < b := by simpa using c
  refine ⟨fun e => ?_, fun e => yes ?_⟩
  ·have e : b < 0 := by simpa using e
   rw [w2 e]
   by_cases d : a < -9223372036854775808 - b
   ·simp only [d, decide_true]; exact no (by omega)
   ·simp only [d, decide_false]; exact yes (by omega)
  ·have e : ¬ b < 0 := by simpa using e
   omega
theorem ytY {a b : Int} (ha : Rg a) (hb : Rg b) (h0 : b ≠ 0) (h1 : ¬ (b = -1 ∧ a = -9223372036854775808)) (h2 : ¬ (a = -1 ∧ b = -9223372036854775808)) : (IntKind.i64.wrap ((IntKind.i64.wrap (a * b)).tdiv b) == a) = inR (a * b) := by
 have hr := yvw (a * b)
 by_cases hi : inR (a * b) = true
 ·have hi' := (yeg _).1 hi
  have : IntKind.i64.wrap (a * b) = a * b := by unfold Rg at hi'; exact wrap64 (by omega) (by omega)
  rw [this, Int.mul_tdiv_cancel _ h0, hi]
  have : IntKind.i64.wrap a = a := by unfold Rg at ha; exact wrap64 (by omega) (by omega)
  rw [this]; simp
 ·have hi' : ¬ Rg (a * b) := fun q => hi ((yeg _).2 q)
  have hf : inR (a * b) = false := by simpa using hi
  rw [hf]
  simp only [beq_eq_false_iff_ne, ne_eq]
  intro he
  obtain ⟨k, hk⟩ : ∃ k : Int, IntKind.i64.wrap (a * b) = a * b - k * 18446744073709551616 := by
   rw [yeE]
   have := Int.emod_add_mul_ediv (a * b) 18446744073709551616
   split
   ·exact ⟨a * b / 18446744073709551616 + 1, by omega⟩
   ·exact ⟨a * b / 18446744073709551616, by omega⟩
  generalize hn : IntKind.i64.wrap (a * b) = n at *
  have hnb : ¬ (n = -9223372036854775808 ∧ b = -1) := by
   rintro ⟨e1, e2⟩
   subst e2
   unfold Rg at ha hi'
   omega
  have hd := ylg (b := b) hr hnb
  have hw : IntKind.i64.wrap (n.tdiv b) = n.tdiv b := by unfold Rg at hd; exact wrap64 (by omega) (by omega)
  rw [hw] at he
  have e1 := Int.mul_tdiv_add_tmod n b
  rw [he] at e1
  have e2 : (n.tmod b).natAbs < b.natAbs := by
   rw [Int.natAbs_tmod]; exact Nat.mod_lt _ (by omega)
  have e3 : b * a = a * b := Int.mul_comm b a
  unfold Rg at hb
  have hk0 : k = 0 := by omega
  subst hk0
  unfold Rg at hr hi'
  omega
theorem yvj {a b : Int} (ha : Rg a) (hb : Rg b) : ∃ n, ycr a b n (inR (a * b)) ∧ (inR (a * b) = true → n = a * b) := by
 by_cases z : a = 0 ∨ b = 0
 ·refine ⟨0, ?_, fun _ => ?_⟩
  ·have e : inR (a * b) = true := by rcases z with rfl | rfl <;> simp [inR]
   rw [e]
   apply yf2
   simp only [yc1, ybf]
   rcases z with rfl | rfl
   ·simp [cnd]
   ·simp [cnd]
  ·rcases z with rfl | rfl <;> simp
 ·have za : a ≠ 0 := fun e => z (.inl e)
  have zb : b ≠ 0 := fun e => z (.inr e)
  by_cases m : (b = -1 /\ a = -9223372036854775808) ∨ (a = -1 /\ b = -9223372036854775808)
  ·have e : inR (a * b) = false := by rcases m with ⟨rfl, rfl⟩ | ⟨rfl, rfl⟩ <;> decide
   refine ⟨0, ?_, fun q => (by rw [e] at q; cases q)⟩
   rw [e]
   apply yf2
   simp only [yc1, ybf, yaQ]
   rcases m with ⟨rfl, rfl⟩ | ⟨rfl, rfl⟩ <;> simp [cnd]
  ·refine ⟨IntKind.i64.wrap (a * b), ?_, fun q => ?_⟩
   ·have t := ytY ha hb zb (fun q => m (.inl q)) (fun q => m (.inr q))
    apply yf2
    simp only [yc1, ybf, yaQ]
    have fin : zb = zb := rfl
    have leaf : cnd false ((0 : Int) = IntKind.i64.wrap (a * b) /\ false = inR (a * b)) (b ≠ 0 /\ True /\ (IntKind.i64.wrap ((IntKind.i64.wrap (a * b)).tdiv b) == a) = inR (a * b)) := ⟨fun q => (by cases q), fun _ => ⟨zb, trivial, t⟩⟩
    have b1 : (b == -1) = true → (a == -9223372036854775808) = false := fun q => by
     have : b = -1 := by simpa using q
     simp only [beq_eq_false_iff_ne, ne_eq]
     exact fun e => m (.inl ⟨this, e⟩)
    have b2 : (a == -1) = true → (b == -9223372036854775808) = false := fun q => by
     have : a = -1 := by simpa using q
     simp only [beq_eq_false_iff_ne, ne_eq]
     exact fun e => m (.inr ⟨this, e⟩)
    have z1 : (a == 0) = false := by simpa using za
    have z2 : (b == 0) = false := by simpa using zb
    rw [z1, z2]
    refine ⟨fun q => (by cases q), fun _ => ⟨fun q => (by cases q), fun _ => ⟨fun c => ?_, fun c => ⟨fun d => ?_, fun _ => leaf⟩⟩⟩⟩
    ·rw [b2 c]
     exact ⟨fun q => (by cases q), fun _ => ⟨fun d => (by rw [b1 d]; exact leaf), fun _ => leaf⟩⟩
    ·rw [b1 d]; exact leaf
   ·have := (yeg _).1 q
    unfold Rg at this; exact wrap64 (by omega) (by omega)
theorem cS_0 {a b : Str} : cS a b = 0 ↔ a = b := by
 unfold cS
 have := yfr b
 rcases ynZ a b with h | rfl | h
 ·rw [if_pos h]; refine ⟨fun q => (by cases q), ?_⟩; rintro rfl; rw [h] at this; cases this
 ·simp [this]
 ·have hn : ¬ Op.bytesLess a b = true := fun q => by have := ykJ _ _ _ q h; rw [yfr] at this; cases this
  have he : ¬ a = b := fun e => by subst e; rw [h] at this; cases this
  simp [hn, he]
theorem yxf {a b : Str} : cS a b < 0 ↔ Op.bytesLess a b = true := by
 unfold cS; split
 ·rename_i h; simp [h]
 ·rename_i h; split <;> simp [h]
theorem yxh {a b : Str} : 0 < cS a b ↔ Op.bytesLess b a = true := by
 have hi := yfr b
 unfold cS
 rcases ynZ a b with h | rfl | h
 ·have hn : ¬ Op.bytesLess b a = true := fun q => by have := ykJ _ _ _ h q; rw [yfr] at this; cases this
  simp [h, hn]
 ·simp [hi]
 ·have hn : ¬ Op.bytesLess a b = true := fun q => by have := ykJ _ _ _ q h; rw [yfr] at this; cases this
  have he : ¬ a = b := fun e => by subst e; rw [h] at hi; cases hi
  simp [hn, he, h]
theorem yqK {a b : Int} : (cI a b = 0 ↔ a = b) ∧ (cI a b < 0 ↔ a < b) ∧ (0 < cI a b ↔ b < a) := by
 unfold cI
 split
 ·refine ⟨by omega, by omega, by omega⟩
 ·split <;> refine ⟨by omega, by omega, by omega⟩
theorem yxM {a b : V} : sCmp a b = 0 ↔ a = b := by
 unfold sCmp sOr
 have h1 := (yqK (a := a.Kind) (b := b.Kind)).1
 have h2 := (yqK (a := a.N) (b := b.N)).1
 have h3 := cS_0 (a := a.S) (b := b.S)
 cases a; cases b
 simp only [yac.mk.injEq]
 simp only at h1 h2 h3
 split
 ·rename_i c; exact ⟨fun q => absurd q c, fun q => absurd (h1.2 q.1) c⟩
 ·rename_i c
  have c := Decidable.not_not.1 c
  split
  ·rename_i d; exact ⟨fun q => absurd q d, fun q => absurd (h2.2 q.2.1) d⟩
  ·rename_i d
   have d := Decidable.not_not.1 d
   rw [h3]; exact ⟨fun q => ⟨h1.1 c, h2.1 d, q⟩, fun q => q.2.2⟩
theorem ytG {a b : V} (ha : good a) (hb : good b) : (sCmp a b < 0 ↔ ydN (v6 a) (v6 b) = true) ∧ (0 < sCmp a b ↔ ydN (v6 b) (v6 a) = true) := by
 have h1 := yqK (a := a.Kind) (b := b.Kind)
 have h2 := yqK (a := a.N) (b := b.N)
 have h3 := yxf (a := a.S) (b := b.S)
 have h4 := yxh (a := a.S) (b := b.S)
 have hs : ∀ {u v : V}, good u → good v → u.Kind = v.Kind → (u.Kind = 3 → u.N = v.N) ∧ (¬ u.Kind = 3 → u.S = v.S) := by
  intro u v hu hv e
  unfold good at hu hv
  refine ⟨fun k => ?_, fun k => ?_⟩
  ·rcases hu with h | h | h | h <;> rcases hv with h' | h' | h' | h' <;> omega
  ·rcases hu with h | h | h | h <;> rcases hv with h' | h' | h' | h' <;> first | (rw [h.2.2, h'.2.2]; done) | omega
 unfold sCmp sOr ydN v6
 simp only
 by_cases hk : a.Kind = b.Kind
 ·have hk0 := h1.1.2 hk
  obtain ⟨e3, e4⟩ := hs ha hb hk
  rw [hk0]
  simp only [ne_eq, not_true_eq_false, if_false, hk]
  by_cases k3 : b.Kind = 3
  ·have hn0 := h2.1.2 (e3 (by omega))
   rw [hn0]
   simp only [not_true_eq_false, if_false, k3, if_true]
   exact ⟨h3, h4⟩
  ·have es := e4 (by omega)
   simp only [k3, if_false]
   have hc : cS a.S b.S = 0 := cS_0.2 es
   rw [hc]
   by_cases hn : cI a.N b.N = 0
   ·have e1 := h2.2.1
    have e2 := h2.2.2
    simp only [hn, not_true_eq_false, if_false, decide_eq_true_eq] at *
    exact ⟨by omega, by omega⟩
   ·simp only [hn, not_false_eq_true, if_true]
    exact ⟨by rw [h2.2.1]; simp, by rw [h2.2.2]; simp⟩
 ·have hn : ¬ cI a.Kind b.Kind = 0 := fun q => hk (h1.1.1 q)
  have hk' : ¬ b.Kind = a.Kind := fun q => hk q.symm
  simp only [ne_eq, hn, not_false_eq_true, if_true, hk, hk']
  exact ⟨by rw [h1.2.1]; simp, by rw [h1.2.2]; simp⟩
end Go.Proofs.Ytkfingiebkgleaa
end
noncomputable section
namespace Go.Proofs.Ytkfingiebkgleaa
open Go.AV Go.RowKit
theorem yrj {a : V} (h : good a) : Rg a.N := by
 unfold good at h; unfold Rg at *
 rcases h with h | h | h | h <;> omega
theorem yoH {a : V} (h : good a) : a.S.length ≤ 64 := by
 unfold good at h
 rcases h with h | h | h | h
 ·rw [h.2.2]; simp
 ·rw [h.2.2]; simp
 ·rw [h.2.2]; simp
 ·exact h.2.2
theorem ytk {a b : V} : (((v6 a).Kind == (v6 b).Kind) && (((v6 a).N == (v6 b).N) && (((v6 a).S == (v6 b).S) && true))) = eqV a b := rfl
theorem yrn : (⟨0, 0, []⟩ : V6) = v6 D0 := rfl
theorem d8 {op : Int} {a b : V} (ha : good a) (hb : good b) (h1 : ¬ op < 1) (h14 : ¬ 14 < op) (hf : ¬ sFit op a b = false) :
  ycO op (v6 a) (v6 b) (v6 (sDo op a b).1) (sDo op a b).2 (a.Kind == 0 || b.Kind == 0) (op == 13 || op == 14) := by
 have hop : ¬ (op < 1 ∨ 14 < op) := by omega
 simp only [ycO, ydo, yrn]
 refine ⟨fun c => ⟨_, yrM (op == 14), ?_⟩, fun c => ⟨fun n => ?_, fun n => ?_⟩⟩
 ·have c : op = 13 ∨ op = 14 := by simpa using c
  have c1 : 13 <= op := by omega
  have e13 : (op == 13) = !(op == 14) := by rcases c with rfl | rfl <;> rfl
  rw [ytk, ytk, e13]
  have ob := yrM (!(op == 14))
  have hs : sDo op a b = (ylX (op == 14) a b, 0) := by simp [sDo, hop, hf, c1]
  rw [hs]
  unfold ylX
  generalize (eqV a (bV (op == 14))) = x
  generalize (eqV b (bV (op == 14))) = y
  generalize (a.Kind == 0) = p
  generalize (b.Kind == 0) = q
  cases x <;> cases y <;> cases p <;> cases q <;> simp [cnd] <;> first | exact ob | exact ⟨_, ob, rfl⟩ | rfl
 ·have c : ¬ op = 13 ∧ ¬ op = 14 := by simpa using c
  have c1 : ¬ 13 <= op := by omega
  have n : a.Kind = 0 ∨ b.Kind = 0 := by simpa using n
  simp [sDo, hop, hf, c1, n]
 ·have c : ¬ op = 13 ∧ ¬ op = 14 := by simpa using c
  have c1 : ¬ 13 <= op := by omega
  have n : ¬ (a.Kind = 0 ∨ b.Kind = 0) := by
   have : ¬ a.Kind = 0 /\ ¬ b.Kind = 0 := by simpa using n
   rintro (h | h)
   ·exact this.1 h
   ·exact this.2 h
  have hs : sDo op a b = if op ≤ 6 then (bV (ygf op (sCmp a b)), 0) else if op = 12 then (if 64 < a.S.length + b.S.length then (D0, 8) else (⟨3, 0, a.S ++ b.S⟩, 0)) else
    if (sRk op a.N b.N).2 ≠ 0 then (D0, (sRk op a.N b.N).2) else (⟨2, (sRk op a.N b.N).1, []⟩, 0) := by
   simp only [sDo]
   rw [if_neg hop, if_neg hf, if_neg c1, if_neg n]
  obtain ⟨g1, g2⟩ := ytG ha hb
  have g0 := yxM (a := a) (b := b)
  have bf1 := ysm (v6 a) (v6 b) (by have := yoH ha; show a.S.length <= 1000; omega) (by have := yoH hb; show b.S.length <= 1000; omega)
  have bf2 := ysm (v6 b) (v6 a) (by have := yoH hb; show b.S.length <= 1000; omega) (by have := yoH ha; show a.S.length <= 1000; omega)
  generalize hx : ydN (v6 a) (v6 b) = x at *
  generalize hy : ydN (v6 b) (v6 a) = y at *
  have cmp : ∀ k : Int, op = k → 1 ≤ k → k ≤ 6 → ∀ t : Bool, t = ygf k (sCmp a b) → ∃ z, yaq t z ∧ z = v6 (sDo op a b).1 ∧ 0 = (sDo op a b).2 := by
   intro k e k1 k6 t ht
   refine ⟨_, yrM t, ?_⟩
   rw [hs, if_pos (by omega), e, ht]; exact ⟨rfl, rfl⟩
  refine ⟨fun c => ?_, fun k1 => ⟨fun c => ?_, fun k2 => ⟨fun c => ⟨_, bf1, ?_⟩, fun k3 => ⟨fun c => ⟨_, bf2, ?_⟩, fun k4 => ⟨fun c => ⟨_, bf2, ?_⟩, fun k5 => ⟨fun c => ⟨_, bf1, ?_⟩, fun k6 => ?_⟩⟩⟩⟩⟩⟩
  ·refine cmp 1 (by simpa using c) (by omega) (by omega) _ ?_
   rw [ytk, Bool.eq_iff_iff, ysI, <- g0]; simp [ygf]
  ·refine cmp 2 (by simpa using c) (by omega) (by omega) _ ?_
   rw [ytk, Bool.eq_iff_iff]
   have := ysI (a := a) (b := b)
   rw [<- g0] at this
   simp [ygf, <- this]
  ·refine cmp 3 (by simpa using c) (by omega) (by omega) _ ?_
   rw [Bool.eq_iff_iff, <- g1]; simp [ygf]
  ·refine cmp 4 (by simpa using c) (by omega) (by omega) _ ?_
   rw [Bool.eq_iff_iff]; simp only [Bool.not_eq_true', <- Bool.not_eq_true, <- g2]; simp [ygf]
  ·refine cmp 5 (by simpa using c) (by omega) (by omega) _ ?_
   rw [Bool.eq_iff_iff, <- g2]; simp [ygf]
  ·refine cmp 6 (by simpa using c) (by omega) (by omega) _ ?_
   rw [Bool.eq_iff_iff]; simp only [Bool.not_eq_true', <- Bool.not_eq_true, <- g1]; simp [ygf]
  ·simp only [beq_eq_false_iff_ne, ne_eq] at k1 k2 k3 k4 k5 k6
   have h6 : ¬ op <= 6 := by omega
   have rN := yrj ha
   have rM := yrj hb
   rw [if_neg h6] at hs
   have sa := yoH ha
   have sb := yoH hb
   refine ⟨fun c => ?_, fun k12 => ?_⟩
   ·have c : op = 12 := by simpa using c
    rw [if_pos c] at hs
    refine ⟨by show a.S.length + b.S.length <= _; omega, fun d => ?_, fun d => ⟨by show a.S.length + b.S.length <= _; omega, ?_⟩⟩
    ·have d : (64 : Int) < (a.S ++ b.S).length := of_decide_eq_true d
     rw [List.length_append] at d
     rw [hs, if_pos (by omega)]; exact ⟨rfl, rfl⟩
    ·have d : ¬ (64 : Int) < (a.S ++ b.S).length := of_decide_eq_false d
     rw [List.length_append] at d
     rw [hs, if_neg (by omega)]; exact ⟨rfl, rfl⟩
   ·simp only [beq_eq_false_iff_ne, ne_eq] at k12
    rw [if_neg k12] at hs
    have j10 : ∀ (n : Int) (ok : Bool), (ok = true → sRk op a.N b.N = (n, 0)) → (ok = false → sRk op a.N b.N = (0, 8)) → yaN (v6 (sDo op a b).1) (sDo op a b).2 n ok := by
     intro n ok h1 h2
     simp only [yaN, yrn]
     cases ok with
     | true => rw [hs, h1 rfl]; exact ⟨fun q => (by cases q), fun _ => ⟨rfl, rfl⟩⟩
     | false => rw [hs, h2 rfl]; exact ⟨fun _ => ⟨rfl, rfl⟩, fun q => (by cases q)⟩
    refine ⟨fun c => ?_, fun k7 => ⟨fun c => ?_, fun k8 => ⟨fun c => ?_, fun k9 => ⟨fun c => ?_, fun kz => ?_⟩⟩⟩⟩
    ·have c : op = 7 := by simpa using c
     refine ⟨_, _, ywl rN rM, j10 _ _ (fun q => ?_) (fun q => ?_)⟩
     ·have q : inR (a.N + b.N) = true := q
      simp [sRk, c, q, v6]
     ·have q : inR (a.N + b.N) = false := q
      simp [sRk, c, q]
    ·have c : op = 8 := by simpa using c
     refine ⟨fun d => ?_, fun d => ?_⟩
     ·have d : b.N = -9223372036854775808 := by simpa [v6] using d
      have hi := yeg (a.N - b.N)
      show yaN _ _ (IntKind.i64.wrap (a.N - b.N)) (decide (a.N < 0))
      unfold Rg at hi rN
      refine j10 _ _ (fun q => ?_) (fun q => ?_)
      ·have q : a.N < 0 := by simpa using q
       have : inR (a.N - b.N) = true := hi.2 (by omega)
       simp [sRk, c, this]
       exact (wrap64 (by omega) (by omega)).symm
      ·have q : ¬ a.N < 0 := by simpa using q
       have : ¬ inR (a.N - b.N) = true := fun h => by have := hi.1 h; omega
       simp [sRk, c, this]
     ·have d : ¬ b.N = -9223372036854775808 := by simpa [v6] using d
      unfold Rg at rM
      have hw : IntKind.i64.wrap (0 - (v6 b).N) = -b.N := by
       show IntKind.i64.wrap (0 - b.N) = _
       rw [wrap64 (by omega) (by omega)]; omega
      rw [hw]
      have hR : Rg (-b.N) := by unfold Rg; omega
      refine ⟨_, _, ywl rN hR, ?_⟩
      have e : (v6 a).N + -b.N = a.N - b.N := by show a.N + -b.N = _; omega
      rw [e]
      refine j10 _ _ (fun q => ?_) (fun q => ?_)
      ·simp [sRk, c, q]
      ·simp [sRk, c, q]
    ·have c : op = 9 := by simpa using c
     obtain ⟨n, t1, t2⟩ := yvj rN rM
     refine ⟨_, _, t1, j10 _ _ (fun q => ?_) (fun q => ?_)⟩
     ·have q' : inR (a.N * b.N) = true := q
      have t3 : n = a.N * b.N := t2 q
      simp [sRk, c, q', t3]
     ·have q : inR (a.N * b.N) = false := q
      simp [sRk, c, q]
    ·have c : b.N = 0 := by simpa [v6] using c
     simp only [beq_eq_false_iff_ne, ne_eq] at k7 k8 k9
     rw [hs]
     simp [sRk, k7, k8, k9, c]
    ·have kz : ¬ b.N = 0 := by simpa [v6] using kz
     simp only [beq_eq_false_iff_ne, ne_eq] at k7 k8 k9
     have hrk : sRk op a.N b.N = if op = 11 then (a.N.tmod b.N, 0) else if a.N = -9223372036854775808 ∧ b.N = -1 then (0, 8) else (a.N.tdiv b.N, 0) := by
      simp only [sRk, k7, k8, k9, kz, if_false]
     refine ⟨fun c => ⟨fun d => ?_, fun d => ?_⟩, fun c => ⟨fun d => ⟨kz, ?_⟩, fun d => ⟨kz, ?_⟩⟩⟩
     ·have c : b.N = -1 := by simpa [v6] using c
      have d : op = 11 := by simpa using d
      rw [hs, hrk, if_pos d, c]
      have : a.N.tmod (-1) = 0 := by rw [Int.tmod_neg, Int.tmod_one]
      rw [this]; exact ⟨rfl, rfl⟩
     ·have c : b.N = -1 := by simpa [v6] using c
      have d : ¬ op = 11 := by simpa using d
      refine j10 _ _ (fun q => ?_) (fun q => ?_)
      ·have q : ¬ a.N = -9223372036854775808 := by simpa [v6] using q
       rw [hrk, if_neg d, if_neg (fun h => q h.1), c]
       have : a.N.tdiv (-1) = -a.N := by rw [Int.tdiv_neg, Int.tdiv_one]
       unfold Rg at rN
       rw [this]
       show _ = (IntKind.i64.wrap (0 - a.N), 0)
       rw [wrap64 (by omega) (by omega)]; simp
      ·have q : a.N = -9223372036854775808 := by simpa [v6] using q
       rw [hrk, if_neg d, if_pos ⟨q, c⟩]
     ·have c : ¬ b.N = -1 := by simpa [v6] using c
      have d : op = 10 := by simpa using d
      refine j10 _ _ (fun q => ?_) (fun q => (by cases q))
      have := ylg (b := b.N) rN (fun h => c h.2)
      unfold Rg at this
      rw [hrk, if_neg (by omega), if_neg (fun h => c h.2)]
      show _ = (IntKind.i64.wrap (a.N.tdiv b.N), 0)
      rw [wrap64 (by omega) (by omega)]
     ·have c : ¬ b.N = -1 := by simpa [v6] using c
      have d : ¬ op = 10 := by simpa using d
      have hr := ylg (b := b.N) rN (fun h => c h.2)
      refine j10 _ _ (fun q => ?_) (fun q => (by cases q))
      rw [hrk, if_pos (by omega)]
      show _ = (IntKind.i64.wrap (a.N - IntKind.i64.wrap (IntKind.i64.wrap (a.N.tdiv b.N) * b.N)), 0)
      have e1 : IntKind.i64.wrap (a.N.tdiv b.N) = a.N.tdiv b.N := by unfold Rg at hr; exact wrap64 (by omega) (by omega)
      have e2 := Int.mul_tdiv_add_tmod a.N b.N
      have e3 : b.N * a.N.tdiv b.N = a.N.tdiv b.N * b.N := Int.mul_comm _ _
      have e4 : (a.N.tmod b.N).natAbs < b.N.natAbs := by rw [Int.natAbs_tmod]; exact Nat.mod_lt _ (by omega)
      have e5 : (a.N.tmod b.N).natAbs <= a.N.natAbs := by rw [Int.natAbs_tmod]; exact Nat.mod_le _ _
      have e6 : 0 <= a.N -> 0 <= a.N.tmod b.N := fun h => Int.tmod_nonneg b.N h
      have e7 : a.N ≤ 0 → a.N.tmod b.N ≤ 0 := fun h => by
       have := Int.tmod_nonneg b.N (show 0 <= -a.N by omega)
       rw [Int.neg_tmod] at this; omega
      rw [e1]
      unfold Rg at rN
      rw [e3] at e2
      generalize a.N.tdiv b.N * b.N = p at *
      generalize a.N.tmod b.N = r at *
      rw [wrap64 (n := p) (by omega) (by omega), wrap64 (by omega) (by omega)]
      congr 1; omega
theorem pDo6 {op : Int} {a b : V} (ha : good a) (hb : good b) : ybF op (v6 a) (v6 b) (v6 (sDo op a b).1) (sDo op a b).2 := by
 apply yrf
 have null : ybO op (v6 a) (v6 b) (v6 (sDo op a b).1) (sDo op a b).2 (a.Kind == 0 || b.Kind == 0) → yf5 op (v6 a) (v6 b) (v6 (sDo op a b).1) (sDo op a b).2 := by
  intro h
  simp only [yf5]
  refine ⟨fun c => ?_, fun c => ?_⟩
  ·have c : (a.Kind == 0) = true := c
   rw [c] at h; exact h
  ·have c : (a.Kind == 0) = false := c
   rw [c] at h; exact h
 apply null
 by_cases h1 : op < 1
 ·simp only [ybO, ycm, yrn]
  simp only [h1, decide_true]
  exact ⟨fun _ => ⟨fun _ => (by simp [sDo, h1]), fun q => (by cases q)⟩, fun q => (by cases q)⟩
 by_cases h14 : 14 < op
 ·simp only [ybO, ycm, yrn]
  simp only [h1, h14, decide_true, decide_false]
  exact ⟨fun q => (by cases q), fun _ => ⟨fun _ => (by simp [sDo, h14]), fun q => (by cases q)⟩⟩
 have hop : ¬ (op < 1 ∨ 14 < op) := by omega
 have j7 : ybh op (v6 a) (v6 b) (v6 (sDo op a b).1) (sDo op a b).2 (a.Kind == 0 || b.Kind == 0) (!sFit op a b) := by
  simp only [ybh, yrn]
  refine ⟨fun c => ?_, fun c => ?_⟩
  ·have c : sFit op a b = false := by simpa using c
   simp [sDo, hop, c]
  ·have c : ¬ sFit op a b = false := by simpa using c
   have h8 := d8 ha hb h1 h14 c
   refine ⟨fun d => ?_, fun d => ?_⟩
   ·rw [d] at h8; simpa using h8
   ·rw [d] at h8; simpa using h8
 simp only [ybO, ycm]
 simp only [h1, h14, decide_false]
 refine ⟨fun q => (by cases q), fun _ => ⟨fun q => (by cases q), fun _ => ?_⟩⟩
 have j6 : (ycf op ≠ 0 ∨ sFit op a b = true) → ybI op (v6 a) (v6 b) (v6 (sDo op a b).1) (sDo op a b).2 (a.Kind == 0 || b.Kind == 0) false := by
  intro hx
  have core : ycn op (v6 a) (v6 b) (v6 (sDo op a b).1) (sDo op a b).2 (a.Kind == 0 || b.Kind == 0) (ycf op) := by
   by_cases t0 : ycf op = 0
   ·cases hf : sFit op a b with
    | false => rcases hx with hx | hx; exact absurd t0 hx; rw [hf] at hx; cases hx
    | true =>
      rw [hf] at j7
      simp only [ycn, t0]
      exact ⟨fun q => (by cases q), fun _ => j7⟩
   ·have tp : 0 < ycf op := by unfold ycf at *; split <;> (try split) <;> (try split) <;> omega
    simp only [ycn, tp, decide_true]
    have k1 : (v6 a).Kind = a.Kind := rfl
    have k2 : (v6 b).Kind = b.Kind := rfl
    rw [k1, k2]
    unfold sFit at j7
    rw [if_neg t0] at j7
    refine ⟨fun _ => ⟨fun c => ⟨fun d => ?_, fun d => ⟨fun e => ?_, fun e => ?_⟩⟩, fun c => ⟨fun e => ?_, fun e => ?_⟩⟩, fun q => (by cases q)⟩
    ·have c : (a.Kind == 0) = false := by simpa using c
     have d : (a.Kind == ycf op) = false := by simpa using d
     rw [c, d] at j7; rw [c]; exact j7
    ·have c : (a.Kind == 0) = false := by simpa using c
     have d : (a.Kind == ycf op) = true := by simpa using d
     have e : (b.Kind == 0) = false := by simpa using e
     rw [c, d, e] at j7; rw [c, e]; exact j7
    ·have c : (a.Kind == 0) = false := by simpa using c
     have d : (a.Kind == ycf op) = true := by simpa using d
     have e : (b.Kind == 0) = true := by simpa using e
     rw [c, d, e] at j7; rw [c, e]; exact j7
    ·have c : (a.Kind == 0) = true := by simpa using c
     have e : (b.Kind == 0) = false := by simpa using e
     rw [c, e] at j7 ⊢; exact j7
    ·have c : (a.Kind == 0) = true := by simpa using c
     have e : (b.Kind == 0) = true := by simpa using e
     rw [c, e] at j7 ⊢; exact j7
  simp only [ybI, ydh, ydn]
  refine ⟨fun q => (by cases q), fun _ => ⟨fun c => ⟨fun d => ⟨fun e => ?_, fun e => ?_⟩, fun d => ⟨fun e => ?_, fun e => ?_⟩⟩, fun c => ⟨fun d => ⟨fun e => ?_, fun e => ?_⟩, fun d => ⟨fun e => ?_, fun e => ?_⟩⟩⟩⟩ <;>
   (simp only [decide_eq_true_eq, decide_eq_false_iff_not, beq_iff_eq, beq_eq_false_iff_ne, ne_eq] at c d e
    first
    | omega
    | (have ht : ycf op = 1 := by unfold ycf; rw [if_neg (by omega), if_neg (by omega), if_pos (by omega)]
       rw [ht] at core; exact core)
    | (have ht : ycf op = 3 := by unfold ycf; rw [if_neg (by omega), if_pos (by omega)]
       rw [ht] at core; exact core)
    | (have ht : ycf op = 2 := by unfold ycf; rw [if_pos (by omega)]
       rw [ht] at core; exact core)
    | (have ht : ycf op = 0 := by unfold ycf; rw [if_neg (by omega), if_neg (by omega), if_neg (by omega)]
       rw [ht] at core; exact core))
 have k1 : (v6 a).Kind = a.Kind := rfl
 have k2 : (v6 b).Kind = b.Kind := rfl
 by_cases h6 : op <= 6
 ·have t0 : ycf op = 0 := by unfold ycf; rw [if_neg (by omega), if_neg (by omega), if_neg (by omega)]
  have hfit : sFit op a b = (a.Kind == 0 || b.Kind == 0 || a.Kind == b.Kind) := by unfold sFit; rw [if_pos t0]
  rw [hfit] at j6
  simp only [h6, decide_true]
  refine ⟨fun _ => ⟨fun c => ?_, fun c => j6 (.inr ?_)⟩, fun q => (by cases q)⟩
  ·have c : (a.Kind == 0 || b.Kind == 0) = false := by revert c; cases (a.Kind == 0 || b.Kind == 0) <;> simp
   rw [k1, k2]
   rw [c] at j6 hfit ⊢
   cases hk : (a.Kind == b.Kind) with
   | true => rw [c] at *; exact j6 (.inr (by rw [hk]; rfl))
   | false =>
     simp only [ybI, yrn]
     refine ⟨fun _ => ?_, fun q => (by cases q)⟩
     have hfit' : sFit op a b = false := by rw [hfit, hk]; rfl
     simp [sDo, hop, hfit']
  ·have c : (a.Kind == 0 || b.Kind == 0) = true := by revert c; cases (a.Kind == 0 || b.Kind == 0) <;> simp
   rw [c]; rfl
 ·simp only [h6, decide_false]
  refine ⟨fun q => (by cases q), fun _ => j6 (.inl ?_)⟩
  unfold ycf; split <;> (try split) <;> (try split) <;> omega
def yst (v : V) : Bool := if v.Kind = 0 then eqV v D0 else if v.Kind = 1 then (v.N == 0 || v.N == 1) && v.S == [] else if v.Kind = 2 then v.S == [] else if v.Kind = 3 then v.N == 0 && decide ((v.S.length : Int) <= 64) else false
theorem yxT (v : V) : yap v (yst v) := by
 unfold yap
 have e : ((v.Kind == 0) && ((v.N == 0) && ((v.S == ([] : Str)) && true))) = eqV v D0 := rfl
 rw [e]
 unfold yst
 generalize eqV v D0 = z
 refine ⟨fun c => ?_, fun c => ⟨fun c1 => ?_, fun c1 => ⟨fun c2 => ?_, fun c2 => ⟨fun c3 => ?_, fun c3 => ?_⟩⟩⟩⟩ <;> simp only [beq_iff_eq, beq_eq_false_iff_ne, ne_eq] at * <;> grind [cnd]
end Go.Proofs.Ytkfingiebkgleaa
end
noncomputable section
namespace Go.Proofs.Ytkfingiebkgleaa
open Go.AV Go.RowKit
abbrev E6 := yab
abbrev Fd := yae
@[simp] theorem e_ref (x : E6) : yab.mk x.Kind x.Op (⟨x.V.Kind, x.V.N, x.V.S⟩ : yaa) x.Table x.Name x.L = x := by cases x; rfl
@[simp] theorem e_expr (x : X) : yad.mk x.Kind x.Op (⟨x.V.Kind, x.V.N, x.V.S⟩ : yac) x.Table x.Name x.L = x := by cases x; rfl
theorem lp1 {α : Type} {L : (α → Prop) → α → Prop} (I : α → Prop) (m : α → Nat) (step : ∀ X a, I a → (∀ b, I b → m b < m a → X b) → L X a) {a : α} (ha : I a) : ∀ X : α → Prop, (∀ x, L X x → X x) → X a := by
 intro X hX
 have key : ∀ n a, I a → m a = n → X a := by
  intro n
  induction n using Nat.strongRecOn with
  | _ n ih => intro a ha hm; exact hX a (step X a ha fun b hb hlt => ih (m b) (by omega) b hb rfl)
 exact key _ a ha rfl
theorem lp2 {α β : Type} {L : (α → β → Prop) → α → β → Prop} (I : α → β → Prop) (m : α → β → Nat) (step : ∀ X a b, I a b → (∀ a' b', I a' b' → m a' b' < m a b → X a' b') → L X a b) {a : α} {b : β} (ha : I a b) : ∀ X : α → β → Prop, (∀ x y, L X x y → X x y) → X a b := by
 intro X hX
 have key : ∀ n a b, I a b → m a b = n → X a b := by
  intro n
  induction n using Nat.strongRecOn with
  | _ n ih => intro a b ha hm; exact hX a b (step X a b ha fun a' b' hb hlt => ih (m a' b') (by omega) a' b' hb rfl)
 exact key _ a b ha rfl
theorem lp3 {α β γ : Type} {L : (α → β → γ → Prop) → α → β → γ → Prop} (I : α → β → γ → Prop) (m : α → β → γ → Nat) (step : ∀ X a b c, I a b c → (∀ a' b' c', I a' b' c' → m a' b' c' < m a b c → X a' b' c') → L X a b c) {a : α} {b : β} {c : γ} (ha : I a b c) : ∀ X : α → β → γ → Prop, (∀ x y z, L X x y z → X x y z) → X a b c := by
 intro X hX
 have key : ∀ n a b c, I a b c → m a b c = n → X a b c := by
  intro n
  induction n using Nat.strongRecOn with
  | _ n ih => intro a b c ha hm; exact hX a b c (step X a b c ha fun a' b' c' hb hlt => ih (m a' b' c') (by omega) a' b' c' hb rfl)
 exact key _ a b c ha rfl
def has (v : V) (t : Int) : Prop := good v /\ (v.Kind = t ∨ v.Kind = 0)
theorem yu6 {a b : Int} (h : Rg a) : Rg (a.tmod b) := by
 unfold Rg at *
 have h1 := Int.natAbs_tmod a b
 have h2 : (a.tmod b).natAbs <= a.natAbs := by rw [h1]; exact Nat.mod_le _ _
 have h3 : 0 <= a -> 0 <= a.tmod b := fun h => Int.tmod_nonneg b h
 have h4 : 0 <= -a -> 0 <= (-a).tmod b := fun h => Int.tmod_nonneg b h
 rw [Int.neg_tmod] at h4
 omega
def ya0 (op a b : Int) : Int × Int := if op ≤ 6 then (if a ≠ b ∧ a ≠ 0 ∧ b ≠ 0 then (0, 5) else (1, 0)) else
 let w := if op = 13 ∨ op = 14 then 1 else if op = 12 then 3 else 2
 if (a = 0 ∨ a = w) /\ (b = 0 ∨ b = w) then (w, 0) else (0, 5)
theorem pIs (a b : Int) : ycF a b (a = 0 ∨ a = b) := by
 unfold ycF
 grind [cnd]
theorem yv4 (op a b : Int) : ybU op a b (ya0 op a b).1 (ya0 op a b).2 := by
 apply ymh
 have key : ∀ w r0 r1, (if (a = 0 ∨ a = w) ∧ (b = 0 ∨ b = w) then ((w, 0) : Int × Int) else (0, 5)) = (r0, r1) → yaT a b r0 r1 w w := by
  intro w r0 r1 h
  simp only [yaT, ybG]
  refine ⟨_, pIs a w, fun _ => ?_, fun _ => ⟨_, pIs b w, ?_⟩⟩ <;> grind [cnd]
 simp only [yeD, ybj, ybE]
 grind [ya0, cnd]
def yd5 (k w o : Int) : Int × Int := if w ≠ 0 /\ ¬ (k = 0 ∨ k = w) then (0, 5) else (o, 0)
theorem yr9 (k w o : Int) : yaY k w o (yd5 k w o).1 (yd5 k w o).2 := by
 apply ynh
 unfold yfb ycj
 grind [yd5, cnd, pIs]
def fmt (c : X) (f : Fd) : Bool := f.Name == c.Name && (c.Table == [] || c.Table == f.Table)
def fgo (c : X) : List Fd → Int → Int → Int → Int × Int
 | [], _, p, n => (p, n)
 | f :: r, i, p, n => if fmt c f then fgo c r (i + 1) i (n + 1) else fgo c r (i + 1) p n
def ycM (l : List Fd) (c : X) : Int × Int := let q := fgo c l 0 0 0; if q.2 = 0 then (0, 6) else if q.2 = 1 then (q.1, 0) else (0, 7)
theorem yrV (c : X) : ∀ (l : List Fd) (i p n : Int), n ≤ (fgo c l i p n).2
 | [], i, p, n => by simp [fgo]
 | f :: r, i, p, n => by
   simp only [fgo]
   split
   ·have := yrV c r (i + 1) i (n + 1); omega
   ·exact yrV c r (i + 1) p n
theorem ywd (c : X) : ∀ (l : List Fd) (i p n : Int), (fgo c l i p n).2 = n → (fgo c l i p n).1 = p
 | [], i, p, n, _ => rfl
 | f :: r, i, p, n, h => by
   simp only [fgo] at h ⊢
   split
   ·rename_i hm
    rw [if_pos hm] at h
    have := yrV c r (i + 1) i (n + 1); omega
   ·rename_i hm
    rw [if_neg hm] at h
    exact ywd c r _ _ _ h
theorem yvq (c : X) : ∀ (l : List Fd) (i p n : Int), (n < (fgo c l i p n).2 → i ≤ (fgo c l i p n).1 ∧ (fgo c l i p n).1 < i + l.length)
 | [], i, p, n => by simp [fgo]
 | f :: r, i, p, n => by
   simp only [fgo]
   split
   ·have := yvq c r (i + 1) i (n + 1)
    have h2 := ywd c r (i + 1) i (n + 1)
    have h3 := yrV c r (i + 1) i (n + 1)
    simp only [List.length_cons]
    omega
   ·have := yvq c r (i + 1) p n
    simp only [List.length_cons]
    omega
theorem yhg {l : List Fd} {c : X} (h : (ycM l c).2 = 0) : 0 ≤ (ycM l c).1 ∧ (ycM l c).1 < l.length := by
 have := yvq c l 0 0 0
 unfold ycM at *
 simp only at *
 split at h
 ·simp at h
 ·split at h
  ·rename_i h1 h2; rw [if_neg h1, if_pos h2]; simp only; omega
  ·simp at h
theorem ykY {α : Type} {l : List α} {i : Nat} (h : i < l.length) : l.drop i = l[i] :: l.drop (i + 1) := List.drop_eq_getElem_cons h
theorem ywM (l : List Fd) (c : X) : ybS l c (ycM l c).1 (ycM l c).2 := by
 apply yoQ
 intro hlen
 have hl : (l.length : Int) <= 9223372036854775807 := by have hm : maxLen = 9223372036854775807 := rfl; omega
 refine lp3 (fun (p n i : Int) => 0 <= i /\ i <= l.length /\ 0 <= n /\ n <= i /\ fgo c (l.drop i.toNat) i p n = fgo c l 0 0 0) (fun _ _ (i : Int) => (l.length - i.toNat)) ?_ ⟨by omega, by omega, by omega, by omega, rfl⟩
 intro X p n i ⟨h0, h1, h2, h3, h4⟩ hX
 simp only [ydS, ybW]
 refine ⟨fun hlt => ?_, fun hge => ?_⟩
 ·have hlt : i < l.length := by simpa using hlt
  have hi : i.toNat < l.length := by omega
  refine ⟨h0, hlt, l[i.toNat], by simp [hi], ?_⟩
  rw [ykY hi] at h4
  have e1 : i.toNat + 1 = (i + 1).toNat := by omega
  simp only [fgo, e1] at h4
  rw [wrap64 (n := i + 1) (by omega) (by omega), wrap64 (n := n + 1) (by omega) (by omega)]
  have yes : fmt c l[i.toNat] = true -> X i (n + 1) (i + 1) := fun hm => hX _ _ _ ⟨by omega, by omega, by omega, by omega, by rw [if_pos hm] at h4; exact h4⟩ (by omega)
  have no : fmt c l[i.toNat] = false -> X p n (i + 1) := fun hm => hX _ _ _ ⟨by omega, by omega, by omega, by omega, by rw [if_neg (by rw [hm]; simp)] at h4; exact h4⟩ (by omega)
  unfold fmt at yes no
  refine ⟨fun a => ⟨fun b => ⟨fun _ => yes (by simp [a, b]), fun h => (by cases h)⟩, fun b => ⟨fun d => yes (by simp [a, b, d]), fun d => no (by simp [a, b, d])⟩⟩, fun a => ⟨fun h => (by cases h), fun _ => no (by simp [a])⟩⟩
 ·have hge : ¬ i < l.length := by simpa using hge
  have : l.drop i.toNat = [] := List.drop_eq_nil_of_le (by omega)
  rw [this] at h4
  simp only [fgo] at h4
  unfold ycM
  rw [<- h4]
  simp only
  grind [cnd]
theorem yhj {x : X} {l : List Fd} {ag : Bool} {ks : List Int} {k f : Int} (h8 : x.Kind ≠ 8 ∨ ag = true) (hL : x.L.length ≤ 1000000000) (hk : ks.length = x.L.length) (hs : ∀ (i : Nat) (y : X) (q : Int), x.L[i]? = some y → ks[i]? = some q → yao y l ag q 0) (hkind : ybV x l ks k f) : yao x l ag k f := by
 intro Xr hXr
 apply hXr
 apply yfK
 have main : yb2 Xr x l ag k f false := by
  refine ⟨fun h => (by cases h), fun _ hlen => ?_⟩
  refine lp2 (fun (i : Int) out => 0 <= i /\ i <= x.L.length /\ out = ks.take i.toNat) (fun (i : Int) _ => x.L.length - i.toNat) ?_ ⟨by omega, by omega, rfl⟩
  intro X2 i out ⟨h0, h1, h2⟩ hX
  subst h2
  refine ⟨fun hlt => ?_, fun hge => ?_⟩
  ·have hlt : i < x.L.length := by simpa using hlt
   have hi : i.toNat < x.L.length := by omega
   have hi' : i.toNat < ks.length := by omega
   refine ⟨h0, hlt, x.L[i.toNat], by simp [hi], ks[i.toNat], 0, ?_, fun h => by simp at h, fun _ => ⟨by simp; omega, ?_⟩⟩
   ·rw [e_expr]
    exact hs i.toNat _ _ (List.getElem?_eq_getElem hi) (List.getElem?_eq_getElem hi') Xr hXr
   ·rw [wrap64 (by omega) (by omega)]
    refine hX _ _ ⟨by omega, by omega, ?_⟩ (by omega)
    have e1 : (i + 1).toNat = i.toNat + 1 := by omega
    rw [e1, List.take_succ_eq_append_getElem hi']
  ·have hge : ¬ i < x.L.length := by simpa using hge
   have : ks.take i.toNat = ks := List.take_of_length_le (by omega)
   rw [this]
   exact ⟨k, f, by rw [e_expr]; exact hkind, rfl, rfl⟩
 unfold yd8
 refine ⟨fun h => ?_, fun _ => main⟩
 have : ag = true := by rcases h8 with h8 | h8; exact absurd (by simpa using h) h8; exact h8
 rw [this] at main ⊢
 exact main
theorem yhh {x : X} {l : List Fd} {ag : Bool} {ks : List Int} {k f : Int} (h8 : x.Kind ≠ 8 ∨ ag = true) (hL : x.L.length ≤ 1000000000) (hk : ks.length < x.L.length) (hs : ∀ (i : Nat) (y : X) (q : Int), x.L[i]? = some y → ks[i]? = some q → yao y l ag q 0) (hf : f ≠ 0) (hy : ∀ y, x.L[ks.length]? = some y → yao y l ag k f) : yao x l ag 0 f := by
 intro Xr hXr
 apply hXr
 apply yfK
 have main : yb2 Xr x l ag 0 f false := by
  refine ⟨fun h => (by cases h), fun _ hlen => ?_⟩
  refine lp2 (fun (i : Int) out => 0 <= i /\ i <= ks.length /\ out = ks.take i.toNat) (fun (i : Int) _ => x.L.length - i.toNat) ?_ ⟨by omega, by omega, rfl⟩
  intro X2 i out ⟨h0, h1, h2⟩ hX
  subst h2
  refine ⟨fun _ => ?_, fun hge => ?_⟩
  ·have hi : i.toNat < x.L.length := by omega
   refine ⟨h0, by omega, x.L[i.toNat], by simp [hi], ?_⟩
   by_cases hlt : i < ks.length
   ·have hi' : i.toNat < ks.length := by omega
    refine ⟨ks[i.toNat], 0, ?_, fun h => by simp at h, fun _ => ⟨by simp; omega, ?_⟩⟩
    ·rw [e_expr]
     exact hs i.toNat _ _ (List.getElem?_eq_getElem hi) (List.getElem?_eq_getElem hi') Xr hXr
    ·rw [wrap64 (by omega) (by omega)]
     refine hX _ _ ⟨by omega, by omega, ?_⟩ (by omega)
     have e1 : (i + 1).toNat = i.toNat + 1 := by omega
     rw [e1, List.take_succ_eq_append_getElem hi']
   ·have e2 : ks.length = i.toNat := by omega
    refine ⟨k, f, ?_, fun _ => ⟨rfl, rfl⟩, fun h => absurd (by simpa using h) hf⟩
    rw [e_expr]
    exact hy _ (by rw [e2]; exact List.getElem?_eq_getElem hi) Xr hXr
  ·have : ¬ i < x.L.length := by simpa using hge
   omega
 unfold yd8
 refine ⟨fun h => ?_, fun _ => main⟩
 have : ag = true := by rcases h8 with h8 | h8; exact absurd (by simpa using h) h8; exact h8
 rw [this] at main ⊢
 exact main
theorem ykM {x : X} {l : List Fd} {row vs : List V} {v : V} {e : Int} (hL : x.L.length ≤ 1000000000) (hk : vs.length = x.L.length) (hs : ∀ (i : Nat) (y : X) (q : V), x.L[i]? = some y → vs[i]? = some q → yar y l row q 0) (ht : ∀ Xr X1, ybt Xr x l row v e X1 (x.L.length : Int) vs) : yar x l row v e := by
 intro Xr hXr
 apply hXr
 apply yji
 intro hlen
 refine lp2 (fun (i : Int) out => 0 <= i /\ i <= x.L.length /\ out = vs.take i.toNat) (fun (i : Int) _ => x.L.length - i.toNat) ?_ ⟨by omega, by omega, rfl⟩
 intro X2 i out ⟨h0, h1, h2⟩ hX
 subst h2
 by_cases hlt : i < x.L.length
 ·have hi : i.toNat < x.L.length := by omega
  have hi' : i.toNat < vs.length := by omega
  refine ⟨fun _ => ⟨h0, hlt, x.L[i.toNat], by simp [hi], vs[i.toNat], 0, ?_, fun h => by simp at h, fun _ => ⟨by simp; omega, ?_⟩⟩, fun h => absurd hlt (by simpa using h)⟩
  ·rw [e_expr]
   exact hs i.toNat _ _ (List.getElem?_eq_getElem hi) (List.getElem?_eq_getElem hi') Xr hXr
  ·rw [wrap64 (by omega) (by omega)]
   refine hX _ _ ⟨by omega, by omega, ?_⟩ (by omega)
   have e1 : (i + 1).toNat = i.toNat + 1 := by omega
   rw [e1, List.take_succ_eq_append_getElem hi']
 ·have e1 : i = x.L.length := by omega
  subst e1
  have : vs.take ((x.L.length : Int)).toNat = vs := List.take_of_length_le (by simp; omega)
  rw [this]
  exact ht _ _
theorem yjs {x : X} {l : List Fd} {row vs : List V} {v : V} {f : Int} (hL : x.L.length ≤ 1000000000) (hk : vs.length < x.L.length) (hs : ∀ (i : Nat) (y : X) (q : V), x.L[i]? = some y → vs[i]? = some q → yar y l row q 0) (hf : f ≠ 0) (hy : ∀ y, x.L[vs.length]? = some y → yar y l row v f) : yar x l row ⟨0, 0, []⟩ f := by
 intro Xr hXr
 apply hXr
 apply yji
 intro hlen
 refine lp2 (fun (i : Int) out => 0 <= i /\ i <= vs.length /\ out = vs.take i.toNat) (fun (i : Int) _ => x.L.length - i.toNat) ?_ ⟨by omega, by omega, rfl⟩
 intro X2 i out ⟨h0, h1, h2⟩ hX
 subst h2
 have hi : i.toNat < x.L.length := by omega
 refine ⟨fun _ => ⟨h0, by omega, x.L[i.toNat], by simp [hi], ?_⟩, fun h => absurd (by omega : i < x.L.length) (by simpa using h)⟩
 by_cases hlt : i < vs.length
 ·have hi' : i.toNat < vs.length := by omega
  refine ⟨vs[i.toNat], 0, ?_, fun h => by simp at h, fun _ => ⟨by simp; omega, ?_⟩⟩
  ·rw [e_expr]
   exact hs i.toNat _ _ (List.getElem?_eq_getElem hi) (List.getElem?_eq_getElem hi') Xr hXr
  ·rw [wrap64 (by omega) (by omega)]
   refine hX _ _ ⟨by omega, by omega, ?_⟩ (by omega)
   have e1 : (i + 1).toNat = i.toNat + 1 := by omega
   rw [e1, List.take_succ_eq_append_getElem hi']
 ·have e2 : vs.length = i.toNat := by omega
  refine ⟨v, f, ?_, fun _ => ⟨rfl, rfl⟩, fun h => absurd (by simpa using h) hf⟩
  rw [e_expr]
  exact hy _ (by rw [e2]; exact List.getElem?_eq_getElem hi) Xr hXr
def sUn (kd k : Int) : Int × Int := if kd = 4 then yd5 k 1 1 else if kd = 5 then yd5 k 2 2 else (1, 0)
theorem tUn {x a : X} {l : List Fd} {ag : Bool} {k : Int} (h : 4 ≤ x.Kind) (h' : x.Kind ≤ 7) (hl : x.L = [a]) (ha : yao a l ag k 0) : yao x l ag (sUn x.Kind k).1 (sUn x.Kind k).2 := by
 refine yhj (ks := [k]) (.inl (by omega)) (by simp [hl]) (by simp [hl]) (fun i y q h1 h2 => ?_) ?_
 ·rw [hl] at h1
  cases i with
  | zero => simp at h1 h2; subst h1; subst h2; exact ha
  | succ i => simp at h1
 ·apply ycG
  have u1 := yr9 k 1 1
  have u2 := yr9 k 2 2
  simp only [ybd, ya6]
  have hk : x.Kind = 4 ∨ x.Kind = 5 ∨ x.Kind = 6 ∨ x.Kind = 7 := by omega
  rcases hk with hk | hk | hk | hk <;> simp [hk, cnd, sUn]
  ·exact u1
  ·exact u2
theorem tUnF {x a : X} {l : List Fd} {ag : Bool} {k f : Int} (h : 4 ≤ x.Kind) (h' : x.Kind ≤ 7) (hl : x.L = [a]) (hf : f ≠ 0) (ha : yao a l ag k f) : yao x l ag 0 f := by
 refine yhh (ks := []) (k := k) (.inl (by omega)) (by simp [hl]) (by simp [hl]) (fun i y q h1 h2 => by simp at h2) hf (fun y hy => ?_)
 rw [hl] at hy; simp at hy; subst hy; exact ha
theorem tBin {x a b : X} {l : List Fd} {ag : Bool} {ka kb : Int} (h : x.Kind = 3) (hl : x.L = [a, b]) (ha : yao a l ag ka 0) (hb : yao b l ag kb 0) : yao x l ag (ya0 x.Op ka kb).1 (ya0 x.Op ka kb).2 := by
 refine yhj (ks := [ka, kb]) (.inl (by omega)) (by simp [hl]) (by simp [hl]) (fun i y q h1 h2 => ?_) ?_
 ·rw [hl] at h1
  match i with
  | 0 => simp at h1 h2; subst h1; subst h2; exact ha
  | 1 => simp at h1 h2; subst h1; subst h2; exact hb
  | i + 2 => simp at h1
 ·apply ycG
  have u1 := yv4 x.Op ka kb
  simp only [ybd]
  simp [h, cnd]
  exact u1
theorem yw3 {x a b : X} {l : List Fd} {ag : Bool} {k f : Int} (h : x.Kind = 3) (hl : x.L = [a, b]) (hf : f ≠ 0) (ha : yao a l ag k f) : yao x l ag 0 f := by
 refine yhh (ks := []) (k := k) (.inl (by omega)) (by simp [hl]) (by simp [hl]) (fun i y q h1 h2 => by simp at h2) hf (fun y hy => ?_)
 rw [hl] at hy; simp at hy; subst hy; exact ha
theorem ywv {x a b : X} {l : List Fd} {ag : Bool} {ka k f : Int} (h : x.Kind = 3) (hl : x.L = [a, b]) (ha : yao a l ag ka 0) (hf : f ≠ 0) (hb : yao b l ag k f) : yao x l ag 0 f := by
 refine yhh (ks := [ka]) (k := k) (.inl (by omega)) (by simp [hl]) (by simp [hl]) (fun i y q h1 h2 => ?_) hf (fun y hy => ?_)
 ·rw [hl] at h1
  cases i with
  | zero => simp at h1 h2; subst h1; subst h2; exact ha
  | succ i => simp at h2
 ·rw [hl] at hy; simp at hy; subst hy; exact hb
theorem tLit {x : X} {l : List Fd} {ag : Bool} (h : x.Kind = 1) (hl : x.L = []) : yao x l ag x.V.Kind 0 := by
 refine yhj (ks := []) (.inl (by omega)) (by simp [hl]) (by simp [hl]) (fun i y q h1 h2 => by simp at h2) ?_
 apply ycG
 simp [ybd, h, cnd]
def sCol (l : List Fd) (x : X) : Int × Int := if (ycM l x).2 = 0 then (((l[(ycM l x).1.toNat]?).map (·.Kind)).getD 0, 0) else (0, (ycM l x).2)
theorem tCol {x : X} {l : List Fd} {ag : Bool} (h : x.Kind = 2) (hl : x.L = []) : yao x l ag (sCol l x).1 (sCol l x).2 := by
 refine yhj (ks := []) (.inl (by omega)) (by simp [hl]) (by simp [hl]) (fun i y q h1 h2 => by simp at h2) ?_
 apply ycG
 have hF := ywM l x
 simp only [ybd]
 refine ⟨fun c => (by simp [h] at c), fun _ => ⟨fun _ => ⟨_, _, by rw [e_expr]; exact hF, fun c => ?_, fun c => ?_⟩, fun c => (by simp [h] at c)⟩⟩
 ·have c : (ycM l x).2 ≠ 0 := by simpa using c
  simp [sCol, c]
 ·have c : (ycM l x).2 = 0 := by simpa using c
  obtain ⟨q1, q2⟩ := yhg c
  have hi : (ycM l x).1.toNat < l.length := by omega
  refine ⟨q1, q2, l[(ycM l x).1.toNat], by simp [hi], ?_, ?_⟩ <;> simp [sCol, c, hi]
def sNot (v : V) : V × Int := if v.Kind = 0 then (v, 0) else if v.Kind = 1 then (⟨1, if v.N = 1 /\ v.S = [] then 0 else 1, []⟩, 0) else (⟨0, 0, []⟩, 5)
theorem pNot (v : V) : ydK v (sNot v).1 (sNot v).2 := by
 unfold ydK
 refine ⟨fun h => ?_, fun h => ⟨fun h' => ?_, fun h' => ?_⟩⟩
 ·have : v.Kind = 0 := by simpa using h
  simp [sNot, this]
 ·have h1 : v.Kind = 1 := by simpa using h'
  refine ⟨_, ⟨_, yhP true, rfl⟩, _, yhP _, ?_⟩
  have e1 : sNot v = (⟨1, if v.N = 1 /\ v.S = [] then 0 else 1, []⟩, 0) := by simp [sNot, h1]
  rw [e1]
  by_cases q : v.N = 1 <;> by_cases q2 : v.S = [] <;> simp [h1, q, q2, bV]
 ·have h0 : v.Kind ≠ 0 := by simpa using h
  have h1 : v.Kind ≠ 1 := by simpa using h'
  simp [sNot, h0, h1]
def sNeg (v : V) : V × Int := if v.Kind = 0 then (v, 0) else if v.Kind ≠ 2 then (⟨0, 0, []⟩, 5) else if v.N = -9223372036854775808 then (⟨0, 0, []⟩, 8) else (⟨2, IntKind.i64.wrap (0 - v.N), []⟩, 0)
theorem pNeg (v : V) : ydJ v (sNeg v).1 (sNeg v).2 := by
 have h1 := ynU v
 have h2 := ysn (IntKind.i64.wrap (0 - v.N))
 unfold ydJ
 refine ⟨_, h1, ?_⟩
 grind [sNeg, cnd]
def sEU (kd : Int) (v : V) : V × Int := if kd = 4 then sNot v else if kd = 5 then sNeg v else (⟨1, if ((v.Kind == 0) == (kd == 6)) then 1 else 0, []⟩, 0)
theorem eUn {x a : X} {l : List Fd} {row : List V} {v : V} (h : 4 ≤ x.Kind) (h' : x.Kind ≤ 7) (hl : x.L = [a]) (ha : yar a l row v 0) : yar x l row (sEU x.Kind v).1 (sEU x.Kind v).2 := by
 refine ykM (vs := [v]) (by simp [hl]) (by simp [hl]) (fun i y q h1 h2 => ?_) (fun Xr X1 => ?_)
 ·rw [hl] at h1
  cases i with
  | zero => simp at h1 h2; subst h1; subst h2; exact ha
  | succ i => simp at h1
 ·have u1 := pNot v
  have u2 := pNeg v
  simp only [ybt]
  have hk : x.Kind = 4 ∨ x.Kind = 5 ∨ x.Kind = 6 ∨ x.Kind = 7 := by omega
  rcases hk with hk | hk | hk | hk <;> simp [hk, hl, cnd, sEU]
  ·exact u1
  ·exact u2
  ·have := yhP (v.Kind == 0); simpa [bV] using this
  ·have := yhP (!(v.Kind == 0)); simpa [bV] using this
theorem eUnF {x a : X} {l : List Fd} {row : List V} {v : V} {f : Int} (hl : x.L = [a]) (hf : f ≠ 0) (ha : yar a l row v f) : yar x l row ⟨0, 0, []⟩ f := by
 refine yjs (vs := []) (v := v) (by simp [hl]) (by simp [hl]) (fun i y q h1 h2 => by simp at h2) hf (fun y hy => ?_)
 rw [hl] at hy; simp at hy; subst hy; exact ha
theorem eBin {x a b : X} {l : List Fd} {row : List V} {u v w : V} {e : Int} (h : x.Kind = 3) (hl : x.L = [a, b]) (ha : yar a l row u 0) (hb : yar b l row v 0) (hd : ycV x.Op u v w e) : yar x l row w e := by
 refine ykM (vs := [u, v]) (by simp [hl]) (by simp [hl]) (fun i y q h1 h2 => ?_) (fun Xr X1 => ?_)
 ·rw [hl] at h1
  match i with
  | 0 => simp at h1 h2; subst h1; subst h2; exact ha
  | 1 => simp at h1 h2; subst h1; subst h2; exact hb
  | i + 2 => simp at h1
 ·simp only [ybt]
  simp [h, hl, cnd]
  exact hd
theorem yxc {x a b : X} {l : List Fd} {row : List V} {v : V} {f : Int} (hl : x.L = [a, b]) (hf : f ≠ 0) (ha : yar a l row v f) : yar x l row ⟨0, 0, []⟩ f := by
 refine yjs (vs := []) (v := v) (by simp [hl]) (by simp [hl]) (fun i y q h1 h2 => by simp at h2) hf (fun y hy => ?_)
 rw [hl] at hy; simp at hy; subst hy; exact ha
theorem yxv {x a b : X} {l : List Fd} {row : List V} {u v : V} {f : Int} (hl : x.L = [a, b]) (ha : yar a l row u 0) (hf : f ≠ 0) (hb : yar b l row v f) : yar x l row ⟨0, 0, []⟩ f := by
 refine yjs (vs := [u]) (v := v) (by simp [hl]) (by simp [hl]) (fun i y q h1 h2 => ?_) hf (fun y hy => ?_)
 ·rw [hl] at h1
  cases i with
  | zero => simp at h1 h2; subst h1; subst h2; exact ha
  | succ i => simp at h2
 ·rw [hl] at hy; simp at hy; subst hy; exact hb
theorem eLit {x : X} {l : List Fd} {row : List V} (h : x.Kind = 1) (hl : x.L = []) : yar x l row x.V 0 := by
 refine ykM (vs := []) (by simp [hl]) (by simp [hl]) (fun i y q h1 h2 => by simp at h2) (fun Xr X1 => ?_)
 simp [ybt, h, hl, cnd]
theorem eCol {x : X} {l : List Fd} {row : List V} {v : V} (h : x.Kind = 2) (hl : x.L = []) (hf : (ycM l x).2 = 0) (hv : row[(ycM l x).1.toNat]? = some v) : yar x l row v 0 := by
 refine ykM (vs := []) (by simp [hl]) (by simp [hl]) (fun i y q h1 h2 => by simp at h2) (fun Xr X1 => ?_)
 have hF := ywM l x
 have hlt := (List.getElem?_eq_some_iff.1 hv).1
 obtain ⟨q1, q2⟩ := yhg hf
 simp only [ybt]
 refine ⟨fun c => (by simp at c), fun _ => ⟨fun c => (by simp [h] at c), fun _ => ⟨fun _ => ⟨_, _, by rw [e_expr]; exact hF, fun c => (by simp [hf] at c), fun c => ⟨q1, by omega, v, hv, by simp⟩⟩, fun c => (by simp [h] at c)⟩⟩⟩
def Row (l : List Fd) (row : List V) : Prop := row.length = l.length /\ ∀ (i : Nat) f v, l[i]? = some f -> row[i]? = some v -> has v f.Kind
theorem yts {v : V} {k : Int} (h : has v k) (hk : k = 0 ∨ k = 1) : (sNot v).2 = 0 ∧ has (sNot v).1 1 ∧ (k = 0 → has (sNot v).1 0) ∧ sNot (sNot v).1 = (v, 0) := by
 obtain ⟨g, e⟩ := h
 cases v with
 | mk K N S =>
   simp only [good] at g
   rcases g with ⟨rfl, rfl, rfl⟩ | ⟨rfl, h1 | h1, rfl⟩ | ⟨rfl, _, rfl⟩ | ⟨rfl, _, _⟩
   ·simp [sNot, has, good]
   ·subst h1; rcases hk with rfl | rfl <;> simp at e <;> simp [sNot, has, good]
   ·subst h1; rcases hk with rfl | rfl <;> simp at e <;> simp [sNot, has, good]
   ·rcases hk with rfl | rfl <;> simp at e
   ·rcases hk with rfl | rfl <;> simp at e
theorem ytj {v : V} {k : Int} (h : has v k) (hk : k = 0 ∨ k = 2) : ((sNeg v).2 = 8 ∨ ((sNeg v).2 = 0 ∧ has (sNeg v).1 2 ∧ (k = 0 → has (sNeg v).1 0) ∧ sNeg (sNeg v).1 = (v, 0))) := by
 obtain ⟨g, e⟩ := h
 cases v with
 | mk K N S =>
   simp only [good] at g
   rcases g with ⟨rfl, rfl, rfl⟩ | ⟨rfl, h1, rfl⟩ | ⟨rfl, hr, rfl⟩ | ⟨rfl, _, _⟩
   ·right; simp [sNeg, has, good]
   ·rcases hk with rfl | rfl <;> simp at e
   ·unfold Rg at hr
    by_cases hm : N = -9223372036854775808
    ·left; simp [sNeg, hm]
    ·right
     have hw : IntKind.i64.wrap (-N) = -N := wrap64 (by omega) (by omega)
     have hw2 : IntKind.i64.wrap N = N := wrap64 (by omega) (by omega)
     have hk2 : k = 2 := by rcases hk with rfl | rfl; simp at e; rfl
     subst hk2
     have e1 : sNeg ⟨2, N, []⟩ = (⟨2, -N, []⟩, 0) := by simp [sNeg, hm, hw]
     have hm2 : ¬ -N = -9223372036854775808 := by omega
     have e2 : sNeg ⟨2, -N, []⟩ = (⟨2, N, []⟩, 0) := by simp [sNeg, hm2, hw2]
     rw [e1]
     exact ⟨rfl, by simp [has, good, Rg]; omega, fun c => by simp at c, e2⟩
   ·rcases hk with rfl | rfl <;> simp at e
theorem hasB (b : Bool) : has ⟨1, if b then 1 else 0, []⟩ 1 := by cases b <;> simp [has, good]
end Go.Proofs.Ytkfingiebkgleaa
end
noncomputable section
namespace Go.Proofs.Ytkfingiebkgleaa
open Go.AV Go.RowKit
abbrev Fr := yaf
theorem ykL {x : E6} {l : List Fr} {row vs : List V6} {v : V6} {e : Int} (hL : x.L.length ≤ 1000000000) (hk : vs.length = x.L.length) (hs : ∀ (i : Nat) (y : E6) (q : V6), x.L[i]? = some y → vs[i]? = some q → yav y l row q 0) (ht : ∀ Xr X1, ydR Xr x l row v e X1 (x.L.length : Int) vs) : yav x l row v e := by
 intro Xr hXr
 apply hXr
 apply yiX
 refine lp2 (fun (i : Int) out => 0 <= i /\ i <= x.L.length /\ out = vs.take i.toNat) (fun (i : Int) _ => x.L.length - i.toNat) ?_ ⟨by omega, by omega, rfl⟩
 intro X2 i out ⟨h0, h1, h2⟩ hX hlen
 subst h2
 by_cases hlt : i < x.L.length
 ·have hi : i.toNat < x.L.length := by omega
  have hi' : i.toNat < vs.length := by omega
  refine ⟨fun _ => ⟨h0, hlt, x.L[i.toNat], by simp [hi], vs[i.toNat], 0, ?_, fun h => by simp at h, fun _ => ⟨by simp; omega, ?_⟩⟩, fun h => absurd hlt (by simpa using h)⟩
  ·rw [e_ref]
   exact hs i.toNat _ _ (List.getElem?_eq_getElem hi) (List.getElem?_eq_getElem hi') Xr hXr
  ·rw [wrap64 (by omega) (by omega)]
   refine hX _ _ ⟨by omega, by omega, ?_⟩ (by omega)
   have e1 : (i + 1).toNat = i.toNat + 1 := by omega
   rw [e1, List.take_succ_eq_append_getElem hi']
 ·have e1 : i = x.L.length := by omega
  subst e1
  have : vs.take ((x.L.length : Int)).toNat = vs := List.take_of_length_le (by simp; omega)
  rw [this]
  exact ht _ _ hlen
theorem ync {x : E6} {l : List Fr} {row vs : List V6} {v : V6} {f : Int} (hL : x.L.length ≤ 1000000000) (hk : vs.length < x.L.length) (hs : ∀ (i : Nat) (y : E6) (q : V6), x.L[i]? = some y → vs[i]? = some q → yav y l row q 0) (hf : f ≠ 0) (hy : ∀ y, x.L[vs.length]? = some y → yav y l row v f) : yav x l row ⟨0, 0, []⟩ f := by
 intro Xr hXr
 apply hXr
 apply yiX
 refine lp2 (fun (i : Int) out => 0 <= i /\ i <= vs.length /\ out = vs.take i.toNat) (fun (i : Int) _ => x.L.length - i.toNat) ?_ ⟨by omega, by omega, rfl⟩
 intro X2 i out ⟨h0, h1, h2⟩ hX hlen
 subst h2
 have hi : i.toNat < x.L.length := by omega
 refine ⟨fun _ => ⟨h0, by omega, x.L[i.toNat], by simp [hi], ?_⟩, fun h => absurd (by omega : i < x.L.length) (by simpa using h)⟩
 by_cases hlt : i < vs.length
 ·have hi' : i.toNat < vs.length := by omega
  refine ⟨vs[i.toNat], 0, ?_, fun h => by simp at h, fun _ => ⟨by simp; omega, ?_⟩⟩
  ·rw [e_ref]
   exact hs i.toNat _ _ (List.getElem?_eq_getElem hi) (List.getElem?_eq_getElem hi') Xr hXr
  ·rw [wrap64 (by omega) (by omega)]
   refine hX _ _ ⟨by omega, by omega, ?_⟩ (by omega)
   have e1 : (i + 1).toNat = i.toNat + 1 := by omega
   rw [e1, List.take_succ_eq_append_getElem hi']
 ·have e2 : vs.length = i.toNat := by omega
  refine ⟨v, f, ?_, fun _ => ⟨rfl, rfl⟩, fun h => absurd (by simpa using h) hf⟩
  rw [e_ref]
  exact hy _ (by rw [e2]; exact List.getElem?_eq_getElem hi) Xr hXr
theorem yhe {x : E6} {l : List Fr} {ag : Bool} {ks : List Int} {k f : Int} (h8 : x.Kind ≠ 8 ∨ ag = true) (hL : x.L.length ≤ 1000000000) (hk : ks.length = x.L.length) (hs : ∀ (i : Nat) (y : E6) (q : Int), x.L[i]? = some y → ks[i]? = some q → yau y l ag q 0) (ht : ∀ Xr X2, ydO Xr x l ag k f X2 (x.L.length : Int) ks) : yau x l ag k f := by
 intro Xr hXr
 apply hXr
 apply yfZ
 have main : ybZ Xr x l ag k f false := by
  refine ⟨fun h => (by cases h), fun _ => ?_⟩
  refine lp2 (fun (i : Int) out => 0 <= i /\ i <= x.L.length /\ out = ks.take i.toNat) (fun (i : Int) _ => x.L.length - i.toNat) ?_ ⟨by omega, by omega, rfl⟩
  intro X2 i out ⟨h0, h1, h2⟩ hX hlen
  subst h2
  refine ⟨fun hlt => ?_, fun hge => ?_⟩
  ·have hlt : i < x.L.length := by simpa using hlt
   have hi : i.toNat < x.L.length := by omega
   have hi' : i.toNat < ks.length := by omega
   refine ⟨h0, hlt, x.L[i.toNat], by simp [hi], ks[i.toNat], 0, ?_, fun h => by simp at h, fun _ => ⟨by simp; omega, ?_⟩⟩
   ·rw [e_ref]
    exact hs i.toNat _ _ (List.getElem?_eq_getElem hi) (List.getElem?_eq_getElem hi') Xr hXr
   ·rw [wrap64 (by omega) (by omega)]
    refine hX _ _ ⟨by omega, by omega, ?_⟩ (by omega)
    have e1 : (i + 1).toNat = i.toNat + 1 := by omega
    rw [e1, List.take_succ_eq_append_getElem hi']
  ·have hge : ¬ i < x.L.length := by simpa using hge
   have : ks.take i.toNat = ks := List.take_of_length_le (by omega)
   rw [this]
   have e1 : i = x.L.length := by omega
   have := ht Xr X2 hlen
   rw [<- e1] at this
   exact this.2 (by simp)
 unfold yee
 refine ⟨fun h => ?_, fun _ => main⟩
 have : ag = true := by rcases h8 with h8 | h8; exact absurd (by simpa using h) h8; exact h8
 rw [this] at main ⊢
 exact main
theorem ymZ {x : E6} {l : List Fr} {ag : Bool} {ks : List Int} {k f : Int} (h8 : x.Kind ≠ 8 ∨ ag = true) (hL : x.L.length ≤ 1000000000) (hk : ks.length < x.L.length) (hs : ∀ (i : Nat) (y : E6) (q : Int), x.L[i]? = some y → ks[i]? = some q → yau y l ag q 0) (hf : f ≠ 0) (hy : ∀ y, x.L[ks.length]? = some y → yau y l ag k f) : yau x l ag 0 f := by
 intro Xr hXr
 apply hXr
 apply yfZ
 have main : ybZ Xr x l ag 0 f false := by
  refine ⟨fun h => (by cases h), fun _ => ?_⟩
  refine lp2 (fun (i : Int) out => 0 <= i /\ i <= ks.length /\ out = ks.take i.toNat) (fun (i : Int) _ => x.L.length - i.toNat) ?_ ⟨by omega, by omega, rfl⟩
  intro X2 i out ⟨h0, h1, h2⟩ hX hlen
  subst h2
  refine ⟨fun _ => ?_, fun hge => ?_⟩
  ·have hi : i.toNat < x.L.length := by omega
   refine ⟨h0, by omega, x.L[i.toNat], by simp [hi], ?_⟩
   by_cases hlt : i < ks.length
   ·have hi' : i.toNat < ks.length := by omega
    refine ⟨ks[i.toNat], 0, ?_, fun h => by simp at h, fun _ => ⟨by simp; omega, ?_⟩⟩
    ·rw [e_ref]
     exact hs i.toNat _ _ (List.getElem?_eq_getElem hi) (List.getElem?_eq_getElem hi') Xr hXr
    ·rw [wrap64 (by omega) (by omega)]
     refine hX _ _ ⟨by omega, by omega, ?_⟩ (by omega)
     have e1 : (i + 1).toNat = i.toNat + 1 := by omega
     rw [e1, List.take_succ_eq_append_getElem hi']
   ·have e2 : ks.length = i.toNat := by omega
    refine ⟨k, f, ?_, fun _ => ⟨rfl, rfl⟩, fun h => absurd (by simpa using h) hf⟩
    rw [e_ref]
    exact hy _ (by rw [e2]; exact List.getElem?_eq_getElem hi) Xr hXr
  ·have : ¬ i < x.L.length := by simpa using hge
   omega
 unfold yee
 refine ⟨fun h => ?_, fun _ => main⟩
 have : ag = true := by rcases h8 with h8 | h8; exact absurd (by simpa using h) h8; exact h8
 rw [this] at main ⊢
 exact main
end Go.Proofs.Ytkfingiebkgleaa
end
noncomputable section
namespace Go.Proofs.Ytkfingiebkgleaa
open Go.AV Go.RowKit
mutual
def dep : E6 → Nat
 | .mk _ _ _ _ _ L => 1 + deps L
def deps : List E6 → Nat
 | [] => 0
 | x :: r => max (dep x) (deps r)
end
theorem ynp (x : E6) : ∀ (l : List E6), deps (l ++ [x]) = max (deps l) (dep x)
 | [] => by simp [deps]
 | y :: l => by simp only [List.cons_append, deps, ynp x l]; omega
theorem yfv (m : E6) : dep m = 1 + deps m.L := by cases m; simp [dep, yab.L]
theorem ynE {x : E6} : ∀ {l : List E6}, x ∈ l → dep x ≤ deps l
 | y :: l, h => by
   simp only [deps]
   rcases List.mem_cons.1 h with rfl | h
   ·omega
   ·have := ynE h; omega
inductive WF : E6 → Prop
 | mk (m : E6) (h : m.L.length <= 3) (hn : Rg m.V.N) (hs : ∀ y ∈ m.L, WF y) : WF m
theorem ywP {m : E6} (h : WF m) : dep m ≤ 1000 → yfN m (dep m) := by
 induction h with
 | mk m h hn hs ih =>
   intro hd
   intro Xr hXr
   apply hXr
   apply yl2
   refine lp2 (fun (d i : Int) => 0 <= i /\ i <= m.L.length /\ d = 1 + (deps (m.L.take i.toNat) : Nat)) (fun _ (i : Int) => m.L.length - i.toNat) ?_ ⟨by omega, by omega, by simp [deps]⟩
   intro X d i ⟨h0, h1, h2⟩ hX hlen
   rw [yfv] at hd
   refine ⟨fun hlt => ?_, fun hge => ?_⟩
   ·have hlt : i < m.L.length := by simpa using hlt
    have hi : i.toNat < m.L.length := by omega
    have hm : m.L[i.toNat] ∈ m.L := List.getElem_mem hi
    have hdm := ynE hm
    have e1 : m.L.take (i + 1).toNat = m.L.take i.toNat ++ [m.L[i.toNat]] := by
     have : (i + 1).toNat = i.toNat + 1 := by omega
     rw [this, List.take_succ_eq_append_getElem hi]
    refine ⟨h0, hlt, m.L[i.toNat], by simp [hi], dep m.L[i.toNat], ?_, ?_⟩
    ·rw [e_ref]
     exact ih _ hm (by omega) Xr hXr
    ·rw [wrap64 (n := i + 1) (by omega) (by omega), wrap64 (n := (dep m.L[i.toNat] : Int) + 1) (by omega) (by omega)]
     refine ⟨fun c => ?_, fun c => ?_⟩
     ·have c : d ≤ dep m.L[i.toNat] := by simpa using c
      exact hX _ _ ⟨by omega, by omega, by rw [e1, ynp]; omega⟩ (by omega)
     ·have c : ¬ d ≤ dep m.L[i.toNat] := by simpa using c
      exact hX _ _ ⟨by omega, by omega, by rw [e1, ynp]; omega⟩ (by omega)
   ·have hge : ¬ i < m.L.length := by simpa using hge
    have : m.L.take i.toNat = m.L := List.take_of_length_le (by omega)
    rw [this] at h2
    rw [h2, yfv]; omega
def ym2 (c : Int) : Int := if 97 <= c /\ c <= 122 then 1 else if 65 <= c /\ c <= 90 then 2 else if 48 <= c /\ c <= 57 then 3 else if c = 95 then 4 else if c = 39 then 5 else if c = 32 ∨ c = 10 then 6 else 0
theorem yqx (c : Int) : ybr c (ym2 c) := by
 apply yop
 simp only [yfh, ycc, yb6, ycg, yb5]
 grind [ym2, cnd]
theorem yxV (s : Str) : ∃ b, ybN s b := by
 by_cases h1 : (s.length : Int) < 1
 ·refine ⟨false, ?_⟩
  apply yeN
  exact ⟨fun _ => ⟨fun _ => rfl, fun c => (by cases c)⟩, fun c => absurd h1 (by simpa using c)⟩
 by_cases h2 : 16 < (s.length : Int)
 ·refine ⟨false, ?_⟩
  apply yeN
  exact ⟨fun c => absurd (by simpa using c) h1, fun _ => ⟨fun _ => ⟨fun _ => rfl, fun c => (by cases c)⟩, fun c => absurd h2 (by simpa using c)⟩⟩
 by_cases h3 : ym2 (bAt s 0) = 1
 ·have key : ∀ n i : Nat, i + n = s.length → ∃ b, ∀ X2 : Int → Prop, (∀ x2, ydP s b X2 x2 → X2 x2) → X2 (i : Int) := by
   intro n
   induction n with
   | zero =>
     intro i hi
     refine ⟨true, fun X2 hX => hX _ ⟨fun c => ?_, fun _ => rfl⟩⟩
     simp at c; omega
   | succ n ih =>
     intro i hi
     by_cases hc : ym2 (bAt s i) = 1 ∨ ym2 (bAt s i) = 3 ∨ ym2 (bAt s i) = 4
     ·obtain ⟨b, hb⟩ := ih (i + 1) (by omega)
      refine ⟨b, fun X2 hX => hX _ ⟨fun _ => ⟨⟨by omega, by omega⟩, _, yqx _, ?_⟩, fun c => (by simp at c; omega)⟩⟩
      have hn : X2 (IntKind.i64.wrap ((i : Int) + 1)) := by
       rw [wrap64 (by omega) (by omega)]
       exact_mod_cast hb X2 hX
      simp only [ybu]
      grind [cnd]
     ·refine ⟨false, fun X2 hX => hX _ ⟨fun _ => ⟨⟨by omega, by omega⟩, _, yqx _, ?_⟩, fun c => (by simp at c; omega)⟩⟩
      simp only [ybu]
      grind [cnd]
  obtain ⟨b, hb⟩ := key s.length 0 (by omega)
  refine ⟨b, ?_⟩
  apply yeN
  exact ⟨fun c => absurd (by simpa using c) h1, fun _ => ⟨fun c => absurd (by simpa using c) h2, fun _ => ⟨⟨by omega, by omega⟩, _, yqx _, ⟨fun c => (by simp [h3] at c), fun _ => hb⟩⟩⟩⟩
 ·refine ⟨false, ?_⟩
  apply yeN
  exact ⟨fun c => absurd (by simpa using c) h1, fun _ => ⟨fun c => absurd (by simpa using c) h2, fun _ => ⟨⟨by omega, by omega⟩, _, yqx _, ⟨fun _ => rfl, fun c => absurd (by simpa using c) h3⟩⟩⟩⟩
def sG6 (v : yaa) : Bool := if v.Kind = 0 then v.N == 0 && v.S == [] else if v.Kind = 1 then (v.N == 0 || v.N == 1) && v.S == [] else if v.Kind = 2 then v.S == [] else if v.Kind = 3 then v.N == 0 && decide ((v.S.length : Int) <= 64) else false
theorem pG6 (v : yaa) : ycQ v (sG6 v) := by
 unfold ycQ
 grind [sG6, cnd]
theorem yty {v : yaa} (h : sG6 v = true) (hr : Rg v.N) : good ⟨v.Kind, v.N, v.S⟩ := by
 unfold sG6 at h
 split at h
 ·rename_i k; simp only [Bool.and_eq_true, beq_iff_eq] at h; exact .inl ⟨k, h.1, h.2⟩
 ·split at h
  ·rename_i k; simp only [Bool.and_eq_true, Bool.or_eq_true, beq_iff_eq] at h; exact .inr (.inl ⟨k, h.1, h.2⟩)
  ·split at h
   ·rename_i k; simp only [beq_iff_eq] at h; exact .inr (.inr (.inl ⟨k, hr, h⟩))
   ·split at h
    ·rename_i k; simp only [Bool.and_eq_true, beq_iff_eq, decide_eq_true_eq] at h; exact .inr (.inr (.inr ⟨k, h.1, by simp; omega⟩))
    ·cases h
inductive OkE : E6 → Prop
 | lit (m : E6) (h : m.Kind = 1) (hl : m.L = []) (hv : good ⟨m.V.Kind, m.V.N, m.V.S⟩) : OkE m
 | col (m : E6) (h : m.Kind = 2) (hl : m.L = []) : OkE m
 | bin (m a b : E6) (h : m.Kind = 3) (hl : m.L = [a, b]) (h1 : 1 <= m.Op) (h14 : m.Op <= 14) (ha : OkE a) (hb : OkE b) : OkE m
 | un (m a : E6) (h : 4 <= m.Kind) (h' : m.Kind <= 7) (hl : m.L = [a]) (ha : OkE a) : OkE m
 | agg0 (m : E6) (h : m.Kind = 8) (ho : m.Op = 1) (hl : m.L = []) : OkE m
 | agg1 (m a : E6) (h : m.Kind = 8) (hl : m.L = [a]) (ha : OkE a) : OkE m
theorem yu4 (m : E6) (w : Bool) (hr : Rg m.V.N) (h3 : m.L.length ≤ 3) (hs : ∀ y ∈ m.L, OkE y) : ∃ b, (b = true → OkE m) ∧ ∀ Xr X1, ydu Xr m w b X1 (m.L.length : Int) := by
 obtain ⟨zn, hzn⟩ := yxV m.Name
 obtain ⟨zt, hzt⟩ := yxV m.Table
 have hg : ycQ (⟨m.V.Kind, m.V.N, m.V.S⟩ : yaa) (sG6 m.V) := pG6 m.V
 let none' : Bool := m.V.Kind == 0 && m.V.N == 0 && m.V.S == []
 let r : Bool := if m.Kind = 1 then m.L.length == 0 && m.Op == 0 && m.Table == [] && m.Name == [] && sG6 m.V && (m.V.Kind != 2 || decide (0 ≤ m.V.N))
  else if m.Kind = 2 then m.L.length == 0 && m.Op == 0 && none' && zn && (m.Table == [] || zt)
  else if !none' || m.Table != [] || m.Name != [] then false
  else if m.Kind = 3 then m.L.length == 2 && decide (1 <= m.Op) && decide (m.Op <= 14)
  else if m.Kind = 4 ∨ m.Kind = 5 ∨ m.Kind = 6 ∨ m.Kind = 7 then m.L.length == 1 && m.Op == 0
  else if m.Kind = 8 then !w && decide (1 <= m.Op) && decide (m.Op <= 4) && (m.L.length == 1 || m.L.length == 0 && m.Op == 1)
  else false
 refine ⟨r, fun hb => ?_, fun Xr X1 => ?_⟩
 ·have c0 : m.L.length = 0 → m.L = [] := fun h => List.eq_nil_of_length_eq_zero h
  have c1 : m.L.length = 1 -> ∃ a, m.L = [a] := fun h => List.length_eq_one_iff.1 h
  have c2 : m.L.length = 2 → ∃ a b, m.L = [a, b] := fun h => by
   match hq : m.L, h with
   | [a, b], _ => exact ⟨a, b, rfl⟩
  simp only [r] at hb
  split at hb
  ·rename_i k1
   simp only [Bool.and_eq_true] at hb
   refine .lit m k1 (c0 (by simpa using hb.1.1.1.1.1)) ?_
   exact yty hb.1.2 hr
  ·split at hb
   ·rename_i k1
    simp only [Bool.and_eq_true] at hb
    exact .col m k1 (c0 (by simpa using hb.1.1.1.1))
   ·split at hb
    ·cases hb
    ·split at hb
     ·rename_i k1
      simp only [Bool.and_eq_true] at hb
      obtain ⟨a, b, e⟩ := c2 (by simpa using hb.1.1)
      exact .bin m a b k1 e (by simpa using hb.1.2) (by simpa using hb.2) (hs a (by simp [e])) (hs b (by simp [e]))
     ·split at hb
      ·rename_i k1
       simp only [Bool.and_eq_true] at hb
       obtain ⟨a, e⟩ := c1 (by simpa using hb.1)
       exact .un m a (by omega) (by omega) e (hs a (by simp [e]))
      ·split at hb
       ·rename_i k1
        simp only [Bool.and_eq_true, Bool.or_eq_true] at hb
        rcases hb.2 with q | q
        ·obtain ⟨a, e⟩ := c1 (by simpa using q)
         exact .agg1 m a k1 e (hs a (by simp [e]))
        ·exact .agg0 m k1 (by simpa using q.2) (c0 (by simpa using q.1))
       ·cases hb
 ·intro hlen
  refine ⟨fun c => (by simp at c), fun _ => ?_⟩
  simp only [yaX, yba, ycu, ybT, ybc]
  generalize hL : m.L.length = n at *
  simp only [r, none', hL]
  refine ⟨fun k => ?_, fun k => ⟨fun k2 => ?_, fun k2 => ?_⟩⟩
  ·grind [cnd]
  ·refine fun _ => ⟨fun a => ⟨fun b => ⟨fun c => ⟨_, hzn, ⟨fun d => ⟨fun e => ?_, fun e => ⟨_, hzt, ?_⟩⟩, fun d => ?_⟩⟩, fun c => ?_⟩, fun b => ?_⟩, fun a => ?_⟩ <;> simp_all
  ·have k1 : m.Kind ≠ 1 := by simpa using k
   have k2 : m.Kind ≠ 2 := by simpa using k2
   rw [if_neg k1, if_neg k2]
   by_cases hv : m.V.Kind = 0 /\ m.V.N = 0 /\ m.V.S = []
   ·by_cases ht : m.Table = []
    ·by_cases hq : m.Name = []
     ·simp only [hv.1, hv.2.1, hv.2.2, ht, hq]
      by_cases k3 : m.Kind = 3
      ·simp only [k3]; clear hzn hzt hg hs; grind [cnd]
      ·by_cases k4 : m.Kind = 4 ∨ m.Kind = 5 ∨ m.Kind = 6 ∨ m.Kind = 7
       ·rcases k4 with k4 | k4 | k4 | k4 <;> simp only [k4] <;> clear hzn hzt hg hs <;> grind [cnd]
       ·have k41 : m.Kind ≠ 4 := fun e => k4 (.inl e)
        have k42 : m.Kind ≠ 5 := fun e => k4 (.inr (.inl e))
        have k43 : m.Kind ≠ 6 := fun e => k4 (.inr (.inr (.inl e)))
        have k44 : m.Kind ≠ 7 := fun e => k4 (.inr (.inr (.inr e)))
        by_cases k8 : m.Kind = 8
        ·simp only [k8]; clear hzn hzt hg hs
         clear hL hlen hr r none' hv ht hq k41 k42 k43 k44 k4 k3 k1 k2 k
         generalize m.Op = op
         cases w <;> simp [cnd] <;> grind
        ·clear hzn hzt hg hs; grind [cnd]
     ·clear hzn hzt hg hs; simp_all [cnd]
    ·clear hzn hzt hg hs; simp_all [cnd]
   ·have e : ((m.V.Kind == 0) && ((m.V.N == 0) && ((m.V.S == []) && true))) = false := by
     cases hx : ((m.V.Kind == 0) && ((m.V.N == 0) && ((m.V.S == []) && true))) with
     | false => rfl
     | true => simp at hx; exact absurd hx hv
    have e' : (m.V.Kind == 0 && m.V.N == 0 && m.V.S == []) = false := by
     cases hx : (m.V.Kind == 0 && m.V.N == 0 && m.V.S == []) with
     | false => rfl
     | true => simp at hx; exact absurd ⟨hx.1.1, hx.1.2, hx.2⟩ hv
    rw [e, e']
    simp [cnd]
theorem pMay {m : E6} (h : WF m) : ∀ w, ∃ b, yik m w b ∧ (b = true → OkE m) := by
 induction h with
 | mk m h hn hs ih =>
   intro w
   have key : ∀ n i : Nat, i + n = m.L.length → (∀ j y, j < i → m.L[j]? = some y → OkE y) → ∃ b, (b = true → OkE m) ∧ ∀ Xr : E6 → Bool → Bool → Prop, (∀ a0 a1 r0, ydf Xr a0 a1 r0 → Xr a0 a1 r0) → ∀ X1 : Int → Prop, (∀ x1, ydu Xr m w b X1 x1 → X1 x1) → X1 (i : Int) := by
    intro n
    induction n with
    | zero =>
      intro i hi hall
      have hi : i = m.L.length := by omega
      subst hi
      obtain ⟨b, h1, h2⟩ := yu4 m w hn h (fun y hy => by
       obtain ⟨j, hj, e⟩ := List.mem_iff_getElem.1 hy
       exact hall j y hj (by rw [List.getElem?_eq_getElem hj, e]))
      exact ⟨b, h1, fun Xr _ X1 hX => hX _ (h2 Xr X1)⟩
    | succ n ihn =>
      intro i hi hall
      have hlt : i < m.L.length := by omega
      have hm : m.L[i] ∈ m.L := List.getElem_mem hlt
      obtain ⟨bt, t1, t2⟩ := ih _ hm (w || m.Kind == 8)
      have hw : ∀ Xr : E6 → Bool → Bool → Prop, (∀ a0 a1 r0, ydf Xr a0 a1 r0 → Xr a0 a1 r0) → (w = true → Xr m.L[i] true bt) ∧ (w = false → Xr m.L[i] (m.Kind == 8) bt) := by
       intro Xr hXr
       have := t1 Xr hXr
       cases w <;> simpa using this
      cases hbt : bt with
      | false =>
        subst hbt
        refine ⟨false, fun c => (by cases c), fun Xr hXr X1 hX => hX _ fun _ => ⟨fun _ => ⟨by omega, by omega, m.L[i], by simp [hlt], ?_⟩, fun c => (by simp at c; omega)⟩⟩
        rw [e_ref]
        exact ⟨fun c => ⟨_, (hw Xr hXr).1 c, ⟨fun _ => rfl, fun c => (by cases c)⟩⟩, fun c => ⟨_, (hw Xr hXr).2 c, ⟨fun _ => rfl, fun c => (by cases c)⟩⟩⟩
      | true =>
        subst hbt
        obtain ⟨b, b1, b2⟩ := ihn (i + 1) (by omega) (fun j y hj hy => by
         by_cases e : j = i
         ·subst e; rw [List.getElem?_eq_getElem hlt] at hy; cases hy; exact t2 rfl
         ·exact hall j y (by omega) hy)
        refine ⟨b, b1, fun Xr hXr X1 hX => hX _ fun _ => ⟨fun _ => ⟨by omega, by omega, m.L[i], by simp [hlt], ?_⟩, fun c => (by simp at c; omega)⟩⟩
        have nx : X1 (IntKind.i64.wrap ((i : Int) + 1)) := by
         rw [wrap64 (by omega) (by omega)]
         exact_mod_cast b2 Xr hXr X1 hX
        rw [e_ref]
        exact ⟨fun c => ⟨_, (hw Xr hXr).1 c, ⟨fun c => (by cases c), fun _ => nx⟩⟩, fun c => ⟨_, (hw Xr hXr).2 c, ⟨fun c => (by cases c), fun _ => nx⟩⟩⟩
   obtain ⟨b, b1, b2⟩ := key m.L.length 0 (by omega) (fun j y hj => by omega)
   refine ⟨b, fun Xr hXr => hXr _ _ _ (ypx _ _ _ _ ?_), b1⟩
   intro X1 hX
   exact b2 Xr hXr X1 hX
theorem yx8 {m : E6} (h : WF m) (hd : dep m ≤ 1000) : ∃ b, ydX m b ∧ (b = true → OkE m ∧ dep m ≤ 20) := by
 have h1 := ywP h hd
 by_cases h20 : (dep m : Int) <= 20
 ·obtain ⟨b, b1, b2⟩ := pMay h false
  refine ⟨b, ⟨_, by rw [e_ref]; exact h1, fun _ => ⟨b, by rw [e_ref]; exact b1, rfl⟩, fun c => absurd h20 (by simpa using c)⟩, fun c => ⟨b2 c, by omega⟩⟩
 ·exact ⟨false, ⟨_, by rw [e_ref]; exact h1, fun c => absurd (by simpa using c) h20, fun _ => rfl⟩, fun c => (by cases c)⟩
mutual
def told : E6 → X
 | .mk k o v t n L => .mk k o ⟨v.Kind, v.N, v.S⟩ t n (yiJ L)
def yiJ : List E6 → List X
 | [] => []
 | x :: r => told x :: yiJ r
end
theorem ypf : ∀ l : List E6, yiJ l = l.map told
 | [] => rfl
 | x :: r => by simp [yiJ, ypf r]
theorem yp3 (m : E6) : told m = .mk m.Kind m.Op ⟨m.V.Kind, m.V.N, m.V.S⟩ m.Table m.Name (m.L.map told) := by
 cases m; simp only [told, ypf]; rfl
theorem ywb {m : E6} (h : WF m) : ydi m (told m) := by
 induction h with
 | mk m h hn hs ih =>
   intro Xr hXr
   apply hXr
   apply ynr
   refine lp2 (fun (i : Int) out => 0 <= i /\ i <= m.L.length /\ out = (m.L.map told).take i.toNat) (fun (i : Int) _ => m.L.length - i.toNat) ?_ ⟨by omega, by omega, rfl⟩
   intro X1 i out ⟨h0, h1, h2⟩ hX hlen
   subst h2
   refine ⟨fun hlt => ?_, fun hge => ?_⟩
   ·have hlt : i < m.L.length := by simpa using hlt
    have hi : i.toNat < m.L.length := by omega
    have hi' : i.toNat < (m.L.map told).length := by simpa using hi
    refine ⟨h0, hlt, m.L[i.toNat], by simp [hi], told m.L[i.toNat], ?_, by simp; omega, ?_⟩
    ·rw [e_ref]; exact ih _ (List.getElem_mem hi) Xr hXr
    ·rw [wrap64 (by omega) (by omega), e_expr]
     refine hX _ _ ⟨by omega, by omega, ?_⟩ (by omega)
     have e1 : (i + 1).toNat = i.toNat + 1 := by omega
     rw [e1, List.take_succ_eq_append_getElem hi', List.getElem_map]
   ·have hge : ¬ i < m.L.length := by simpa using hge
    have : (m.L.map told).take i.toNat = m.L.map told := List.take_of_length_le (by simp; omega)
    rw [this, yp3]
theorem yss {m : E6} {ls : List (List E6)} (h3 : m.L.length ≤ 2) (hk : ls.length = m.L.length) (hs : ∀ (i : Nat) y l, m.L[i]? = some y → ls[i]? = some l → ybi y l ∧ l.length ≤ 300000000) : ybi m ((if m.Kind = 8 then [m] else []) ++ ls.flatten) := by
 intro Xr hXr
 apply hXr
 apply yh0
 have main : ∀ own : List E6, own.length ≤ 1 → ya2 Xr m (own ++ ls.flatten) own := by
  intro own ho
  refine lp2 (fun (i : Int) out => 0 <= i /\ i <= m.L.length /\ out = own ++ (ls.take i.toNat).flatten /\ out.length <= 1 + i.toNat * 300000000) (fun (i : Int) _ => m.L.length - i.toNat) ?_ ⟨by omega, by omega, by simp, by simp; omega⟩
  intro X1 i out ⟨h0, h1, h2, h4⟩ hX hlen
  refine ⟨fun hlt => ?_, fun hge => ?_⟩
  ·have hlt : i < m.L.length := by simpa using hlt
   have hi : i.toNat < m.L.length := by omega
   have hi' : i.toNat < ls.length := by omega
   obtain ⟨q1, q2⟩ := hs i.toNat _ _ (List.getElem?_eq_getElem hi) (List.getElem?_eq_getElem hi')
   refine ⟨h0, hlt, m.L[i.toNat], by simp [hi], ls[i.toNat], ?_, by omega, by omega, ?_⟩
   ·rw [e_ref]; exact q1 Xr hXr
   ·rw [wrap64 (by omega) (by omega)]
    have e1 : (i + 1).toNat = i.toNat + 1 := by omega
    refine hX _ _ ⟨by omega, by omega, ?_, ?_⟩ (by omega)
    ·rw [e1, List.take_succ_eq_append_getElem hi', List.flatten_append, h2]; simp
    ·rw [List.length_append]; omega
  ·have hge : ¬ i < m.L.length := by simpa using hge
   have : ls.take i.toNat = ls := List.take_of_length_le (by omega)
   rw [h2, this]
 refine ⟨fun c => ?_, fun c => ?_⟩
 ·have c : m.Kind = 8 := by simpa using c
  rw [if_pos c, e_ref]; exact main [m] (by simp)
 ·have c : m.Kind ≠ 8 := by simpa using c
  rw [if_neg c]; exact main [] (by simp)
end Go.Proofs.Ytkfingiebkgleaa
end
noncomputable section
namespace Go.Proofs.Ytkfingiebkgleaa
open Go.AV Go.RowKit
abbrev Pt := yah
def PtOk (p : Pt) : Prop := 0 <= p.Kind /\ p.Kind <= 255 /\ 0 <= p.Op /\ p.Op <= 255 /\ 0 <= p.Value /\ p.Value <= 255 /\ 0 <= p.Parts /\ p.Parts <= 255 /\ Rg p.N
theorem tm {a b : Int} (h : 0 <= a) : a.tmod b = a % b := Int.tmod_eq_emod_of_nonneg h
theorem bc10 (y : Pt) (hy : PtOk y) : ∃ x3 x4 x5, Rg x4 ∧ ∀ Xr l a d r0 r1, yaB Xr l a d r0 r1 y x3 x4 x5 → cnd (y.Kind.tmod 10 == 1) (yaL Xr l a d r0 r1 y true) (yaL Xr l a d r0 r1 y (decide (250 ≤ y.Kind))) := by
 have hn : Rg y.N := hy.2.2.2.2.2.2.2.2
 have h0 : Rg 0 := by unfold Rg; omega
 have h1 : Rg (bits .and .i64 y.N 1) := by rw [yqI]; unfold Rg; omega
 by_cases c : y.Kind.tmod 10 = 1 ∨ 250 <= y.Kind
 ·have go : ∀ x3 x4 x5, (∀ Xr l a d r0 r1, yaB Xr l a d r0 r1 y x3 x4 x5 → yaL Xr l a d r0 r1 y true) → Rg x4 → ∃ x3 x4 x5, Rg x4 ∧ ∀ Xr l a d r0 r1, yaB Xr l a d r0 r1 y x3 x4 x5 → cnd (y.Kind.tmod 10 == 1) (yaL Xr l a d r0 r1 y true) (yaL Xr l a d r0 r1 y (decide (250 ≤ y.Kind))) := by
   intro x3 x4 x5 h hr
   refine ⟨x3, x4, x5, hr, fun Xr l a d r0 r1 q => ?_⟩
   have := h Xr l a d r0 r1 q
   grind [cnd]
  by_cases k1 : IntKind.i64.wrap (y.Value.tmod 5) = 1
  ·refine go _ _ _ (fun Xr l a d r0 r1 q => ⟨fun _ => ⟨fun _ => q, fun e => absurd k1 (by simpa using e)⟩, fun e => (by cases e)⟩) h1
  by_cases k2 : IntKind.i64.wrap (y.Value.tmod 5) = 2
  ·refine go _ _ _ (fun Xr l a d r0 r1 q => ⟨fun _ => ⟨fun e => absurd (by simpa using e) k1, fun _ => ⟨fun _ => q, fun e => absurd k2 (by simpa using e)⟩⟩, fun e => (by cases e)⟩) hn
  by_cases k3 : IntKind.i64.wrap (y.Value.tmod 5) = 3
  ·refine go _ _ _ (fun Xr l a d r0 r1 q => ⟨fun _ => ⟨fun e => absurd (by simpa using e) k1, fun _ => ⟨fun e => absurd (by simpa using e) k2, fun _ => ⟨fun _ => ⟨?_, q⟩, fun e => absurd k3 (by simpa using e)⟩⟩⟩, fun e => (by cases e)⟩) h0
   split <;> omega
  ·refine go _ _ _ (fun Xr l a d r0 r1 q => ⟨fun _ => ⟨fun e => absurd (by simpa using e) k1, fun _ => ⟨fun e => absurd (by simpa using e) k2, fun _ => ⟨fun e => absurd (by simpa using e) k3, fun _ => q⟩⟩⟩, fun e => (by cases e)⟩) h0
 ·refine ⟨0, 0, [], h0, fun Xr l a d r0 r1 q => ⟨fun e => absurd (.inl (by simpa using e)) c, fun _ => ⟨fun e => absurd (.inr (by simpa using e)) c, fun _ => q⟩⟩⟩
theorem bc9 (y : Pt) : ∃ x6 x7, ∀ Xr l a d r0 r1 x3 x4 x5, ya1 Xr l a d r0 r1 x3 x4 x5 y x6 x7 → yaB Xr l a d r0 r1 y x3 x4 x5 := by
 by_cases c : y.Kind.tmod 10 = 2 ∨ 250 <= y.Kind
 ·refine ⟨((y.Table.drop (0 : Int).toNat).take ((if (20 : Int) < (y.Table.length : Int) then (20 : Int) else (y.Table.length : Int)).toNat - (0 : Int).toNat)), ((y.Name.drop (0 : Int).toNat).take ((if (20 : Int) < (y.Name.length : Int) then (20 : Int) else (y.Name.length : Int)).toNat - (0 : Int).toNat)), fun Xr l a d r0 r1 x3 x4 x5 q => ?_⟩
  have h : yb7 Xr l a d r0 r1 x3 x4 x5 y true := ⟨fun _ => ⟨by split <;> omega, by split <;> omega, q⟩, fun e => (by cases e)⟩
  simp only [yaB]
  grind [cnd]
 ·refine ⟨[], [], fun Xr l a d r0 r1 x3 x4 x5 q => ⟨fun e => absurd (.inl (by simpa using e)) c, fun _ => ⟨fun e => absurd (.inr (by simpa using e)) c, fun _ => q⟩⟩⟩
theorem bc3 (y : Pt) (hy : PtOk y) : ∃ x8 x9, 0 ≤ x8 ∧ x8 ≤ 3 ∧ ∀ Xr l a d r0 r1 x3 x4 x5 x6 x7, yaC Xr l a d r0 r1 x3 x4 x5 y x8 x9 x6 x7 → ya1 Xr l a d r0 r1 x3 x4 x5 y x6 x7 := by
 obtain ⟨y1, y2, y3, y4, y5, y6, y7, y8, _⟩ := hy
 have w2 : IntKind.i64.wrap (y.Parts.tmod 2) = y.Parts % 2 := by rw [tm y7, wrap64 (by omega) (by omega)]
 have w3 : IntKind.i64.wrap (y.Parts.tmod 3) = y.Parts % 3 := by rw [tm y7, wrap64 (by omega) (by omega)]
 simp only [ya1, ybg, yck, w2, w3]
 generalize y.Kind.tmod 10 = k
 by_cases k3 : k = 3
 ·exact ⟨2, IntKind.i64.wrap (y.Op.tmod 16), by omega, by omega, fun Xr l a d r0 r1 x3 x4 x5 x6 x7 q => by grind [cnd]⟩
 by_cases k4 : k = 4 ∨ k = 5 ∨ k = 6 ∨ k = 7
 ·exact ⟨1, 0, by omega, by omega, fun Xr l a d r0 r1 x3 x4 x5 x6 x7 q => by grind [cnd]⟩
 by_cases k8 : k = 8
 ·exact ⟨y.Parts % 2, IntKind.i64.wrap (y.Op.tmod 6), by omega, by omega, fun Xr l a d r0 r1 x3 x4 x5 x6 x7 q => by grind [cnd]⟩
 by_cases k1 : k = 1 ∨ k = 2
 ·exact ⟨0, 0, by omega, by omega, fun Xr l a d r0 r1 x3 x4 x5 x6 x7 q => by grind [cnd]⟩
 ·exact ⟨y.Parts % 3, 0, by omega, by omega, fun Xr l a d r0 r1 x3 x4 x5 x6 x7 q => by grind [cnd]⟩
theorem bc4 (y : Pt) (hy : PtOk y) {x8 : Int} (h0 : 0 ≤ x8) (h3 : x8 ≤ 3) : ∃ x12, 0 ≤ x12 ∧ x12 ≤ 3 ∧ ∀ Xr l a d r0 r1 x3 x4 x5 x9 x10 x11, yb9 Xr l a d r0 r1 x3 x4 x5 x9 x10 x11 y x12 → yaC Xr l a d r0 r1 x3 x4 x5 y x8 x9 x10 x11 := by
 obtain ⟨y1, y2, y3, y4, y5, y6, y7, y8, _⟩ := hy
 have w4 : IntKind.i64.wrap (y.Parts.tmod 4) = y.Parts % 4 := by rw [tm y7, wrap64 (by omega) (by omega)]
 simp only [yaC, w4]
 by_cases k : 240 <= y.Kind
 ·exact ⟨y.Parts % 4, by omega, by omega, fun Xr l a d r0 r1 x3 x4 x5 x9 x10 x11 q => ⟨fun _ => q, fun e => absurd k (by simpa using e)⟩⟩
 ·exact ⟨x8, h0, h3, fun Xr l a d r0 r1 x3 x4 x5 x9 x10 x11 q => ⟨fun e => absurd (by simpa using e) k, fun _ => q⟩⟩
def BI (l : List Pt) (n : Nat) (d : Int) : Prop := ∀ a : Int, 0 <= a -> a + 4 ^ (n + 1) <= 1152921504606846976 -> ∃ e nx, ydz l a d e nx /\ WF e /\ dep e <= n + 1 /\ a <= nx /\ nx <= a + 4 ^ (n + 1)
theorem yyl {l : List Pt} {n : Nat} {d : Int} (hd : IntKind.i64.wrap (d + 1) = d + 1) (ih : BI l n (d + 1)) {x3 x4 : Int} {x5 : Str} {x9 : Int} {x10 x11 : Str} {y : Pt} (h4 : Rg x4) {cnt : Int} (hc0 : 0 ≤ cnt) (hc : cnt ≤ 3) :
  ∀ (k : Nat) (i : Int) (nx : Int) (ps : List E6), 0 <= i -> i + k = cnt -> 0 <= nx -> nx + k * 4 ^ (n + 1) <= 1152921504606846976 -> ps.length = i.toNat -> (∀ q ∈ ps, WF q /\ dep q <= n + 1) ->
  ∃ r0 r1, WF r0 /\ dep r0 <= n + 2 /\ nx <= r1 /\ r1 <= nx + k * 4 ^ (n + 1) /\ ∀ Xr : List Pt -> Int -> Int -> E6 -> Int -> Prop, (∀ a0 a1 a2 r0 r1, ycW Xr a0 a1 a2 r0 r1 -> Xr a0 a1 a2 r0 r1) -> ∀ X6 : Int -> Int -> List E6 -> Prop, (∀ x13 x14 x15, ydv Xr l d r0 r1 x3 x4 x5 x9 x10 x11 cnt y X6 x13 x14 x15 -> X6 x13 x14 x15) -> X6 nx i ps := by
 intro k
 induction k with
 | zero =>
   intro i nx ps h0 hi hn hb hl hw
   refine ⟨.mk (IntKind.i64.wrap (y.Kind.tmod 10)) x9 ⟨x3, x4, x5⟩ x10 x11 ps, nx, .mk _ ?_ h4 (fun q hq => (hw q hq).1), ?_, by omega, by omega, fun Xr hXr X6 hX => hX _ _ _ ⟨fun c => ?_, fun _ => ⟨rfl, rfl⟩⟩⟩
   ·show ps.length <= 3; omega
   ·rw [yfv]
    show 1 + deps ps <= n + 2
    have : deps ps ≤ n + 1 := by
     clear hl
     induction ps with
     | nil => simp [deps]
     | cons a ps ih2 =>
       simp only [deps]
       have := (hw a (by simp)).2
       have := ih2 (fun q hq => hw q (by simp [hq]))
       omega
    omega
   ·have : i < cnt := by simpa using c
    omega
 | succ k ihk =>
   intro i nx ps h0 hi hn hb hl hw
   have hp : (0 : Int) < 4 ^ (n + 1) := Int.pow_pos (by omega)
   have hexp : ((k + 1 : Nat) : Int) * 4 ^ (n + 1) = k * 4 ^ (n + 1) + 4 ^ (n + 1) := by push_cast; rw [Int.add_mul]; omega
   rw [hexp] at hb
   have hk0 : (0 : Int) <= k * 4 ^ (n + 1) := Int.mul_nonneg (by omega) (by omega)
   obtain ⟨e, nx', e1, e2, e3, e4, e5⟩ := ih nx hn (by omega)
   obtain ⟨r0, r1, q1, q2, q3, q4, q5⟩ := ihk (i + 1) nx' (ps ++ [e]) (by omega) (by push_cast at hi; omega) (by omega) (by omega) (by simp; omega) (fun q hq => by
    rcases List.mem_append.1 hq with hq | hq
    ·exact hw q hq
    ·simp at hq; subst hq; exact ⟨e2, e3⟩)
   refine ⟨r0, r1, q1, q2, by omega, by rw [hexp]; omega, fun Xr hXr X6 hX => hX _ _ _ ⟨fun _ => ⟨e, nx', ?_, by omega, ?_⟩, fun c => ?_⟩⟩
   ·rw [hd]; exact e1 Xr hXr
   ·rw [wrap64 (by push_cast at hi; omega) (by push_cast at hi; omega), e_ref]; exact q5 Xr hXr X6 hX
   ·have : ¬ i < cnt := by simpa using c
    push_cast at hi; omega
theorem yws {l : List Pt} {a d : Int} (h0 : 0 ≤ a) (h1 : a ≤ 1152921504606846976) (h : l.length ≤ a ∨ 24 < d) : ydz l a d (.mk 1 0 ⟨0, 0, []⟩ [] [] []) (a + 1) := by
 intro Xr hXr
 refine hXr _ _ _ _ _ (yhu _ _ _ _ _ _ fun _ => ?_)
 have hw : IntKind.i64.wrap (a + 1) = a + 1 := wrap64 (by omega) (by omega)
 have m : ybx Xr l a d (.mk 1 0 ⟨0, 0, []⟩ [] [] []) (a + 1) true := ⟨fun _ => ⟨rfl, hw⟩, fun e => (by cases e)⟩
 refine ⟨fun _ => m, fun c => ?_⟩
 have c : ¬ (l.length : Int) <= a := by simpa using c
 have : decide (24 < d) = true := by simp; omega
 rw [this]; exact m
theorem yqv : WF (.mk 1 0 ⟨0, 0, []⟩ [] [] []) /\ dep (.mk 1 0 ⟨0, 0, []⟩ [] [] []) <= 1 := ⟨.mk _ (by show 0 <= 3; omega) (by show Rg 0; unfold Rg; omega) (fun y hy => by cases hy), by rw [yfv]; show 1 + deps [] <= 1; simp [deps]⟩
theorem ywg {l : List Pt} (hl : ∀ p ∈ l, PtOk p) : ∀ (n : Nat) (d : Int), d + n = 25 → 0 ≤ d → BI l n d := by
 intro n
 induction n with
 | zero =>
   intro d hd h0 a ha hb
   have hb : a + 4 <= 1152921504606846976 := by simpa using hb
   exact ⟨_, _, yws ha (by omega) (.inr (by omega)), yqv.1, yqv.2, by omega, by simp⟩
 | succ n ih =>
   intro d hd h0 a ha hb
   have hp : (0 : Int) < 4 ^ (n + 1) := Int.pow_pos (by omega)
   have hexp : (4 : Int) ^ (n + 1 + 1) = 4 * 4 ^ (n + 1) := by rw [Int.pow_succ]; omega
   rw [hexp] at hb
   by_cases hle : (l.length : Int) <= a
   ·exact ⟨_, _, yws ha (by omega) (.inl hle), yqv.1, by have := yqv.2; omega, by omega, by rw [hexp]; omega⟩
   ·have hi : a.toNat < l.length := by omega
    have hy := hl _ (List.getElem_mem hi)
    obtain ⟨x3, x4, x5, hx4, f10⟩ := bc10 _ hy
    obtain ⟨x6, x7, f9⟩ := bc9 l[a.toNat]
    obtain ⟨x8, x9, h8, h8', f3⟩ := bc3 _ hy
    obtain ⟨x12, h12, h12', f4⟩ := bc4 _ hy h8 h8'
    have hd1 : IntKind.i64.wrap (d + 1) = d + 1 := wrap64 (by omega) (by omega)
    have hk : (x12.toNat : Int) <= 3 := by omega
    have hm : (x12.toNat : Int) * 4 ^ (n + 1) <= 3 * 4 ^ (n + 1) := Int.mul_le_mul_of_nonneg_right hk (by omega)
    obtain ⟨r0, r1, q1, q2, q3, q4, q5⟩ := yyl (x3 := x3) (x5 := x5) (x9 := x9) (x10 := x6) (x11 := x7) (y := l[a.toNat]) hd1 (ih (d + 1) (by push_cast at hd; omega) (by omega)) hx4 h12 h12' x12.toNat 0 (a + 1) [] (by omega) (by omega) (by omega) (by omega) rfl (fun q hq => by cases hq)
    refine ⟨r0, r1, fun Xr hXr => hXr _ _ _ _ _ (yhu _ _ _ _ _ _ fun _ => ?_), q1, by omega, by omega, by rw [hexp]; omega⟩
    have m : ybx Xr l a d r0 r1 false := by
     refine ⟨fun e => (by cases e), fun _ => ⟨ha, by omega, l[a.toNat], by simp [hi], f10 _ _ _ _ _ _ (f9 _ _ _ _ _ _ _ _ _ (f3 _ _ _ _ _ _ _ _ _ _ _ (f4 _ _ _ _ _ _ _ _ _ _ _ _ ?_)))⟩⟩
     intro X6 hX
     rw [wrap64 (by omega) (by omega)]
     exact q5 Xr hXr X6 hX
    refine ⟨fun c => absurd (by simpa using c) hle, fun _ => ?_⟩
    have : decide (24 < d) = false := by simp; push_cast at hd; omega
    rw [this]; exact m
end Go.Proofs.Ytkfingiebkgleaa
end
noncomputable section
namespace Go.Proofs.Ytkfingiebkgleaa
open Go.AV Go.RowKit
abbrev Cl := yan
def ClOk (p : Cl) : Prop := 0 <= p.Table /\ p.Table <= 255 /\ 0 <= p.Name /\ p.Name <= 255 /\ 0 <= p.Kind /\ p.Kind <= 255 /\ Rg p.N
theorem ytO {a : List Fd} {c : List V} {f : Fd} {v : V} (h : Row a c) (hv : has v f.Kind) : Row (a ++ [f]) (c ++ [v]) := by
 refine ⟨by simp [h.1], fun i g w hg hw => ?_⟩
 by_cases hi : i < a.length
 ·rw [List.getElem?_append_left hi] at hg
  rw [List.getElem?_append_left (by rw [h.1]; exact hi)] at hw
  exact h.2 i g w hg hw
 ·rw [List.getElem?_append_right (by omega)] at hg
  rw [List.getElem?_append_right (by rw [h.1]; omega)] at hw
  rw [h.1] at hw
  cases hk : i - a.length with
  | zero => rw [hk] at hg hw; simp at hg hw; subst hg; subst hw; exact hv
  | succ k => rw [hk] at hg; simp at hg
theorem yu8 {y : Cl} (hy : ClOk y) : ∃ x18 x19 x20, has ⟨x18, x19, x20⟩ (IntKind.i64.wrap (1 + IntKind.i64.wrap (y.Kind.tmod 3))) ∧ ∀ (X1 : Int → List Fd → List yaf → List V → List yaa → Prop) (i : Int) a b c d, yco X1 i y x18 x19 x20 a b c d →
  cnd (IntKind.i64.wrap (1 + IntKind.i64.wrap (y.Kind.tmod 3)) == 1) (yaU X1 i y (bits .and .i64 y.N 1) [] a b c d) (cnd (IntKind.i64.wrap (1 + IntKind.i64.wrap (y.Kind.tmod 3)) == 2) (yaU X1 i y y.N [] a b c d) (cnd (IntKind.i64.wrap (1 + IntKind.i64.wrap (y.Kind.tmod 3)) == 3) ((0 <= (0 : Int) /\ (0 : Int) <= (if (64 : Int) < (y.S.length : Int) then (64 : Int) else (y.S.length : Int)) /\ (if (64 : Int) < (y.S.length : Int) then (64 : Int) else (y.S.length : Int)) <= (y.S.length : Int)) /\ yaU X1 i y 0 ((y.S.drop (0 : Int).toNat).take ((if (64 : Int) < (y.S.length : Int) then (64 : Int) else (y.S.length : Int)).toNat - (0 : Int).toNat)) a b c d) (yaU X1 i y 0 [] a b c d))) := by
 obtain ⟨_, _, _, _, k0, k1, hn⟩ := hy
 have w : IntKind.i64.wrap (1 + IntKind.i64.wrap (y.Kind.tmod 3)) = 1 + y.Kind % 3 := by rw [tm k0, wrap64 (n := y.Kind % 3) (by omega) (by omega), wrap64 (by omega) (by omega)]
 rw [w]
 simp only [yaU, w]
 by_cases hnull : y.Null = true
 ·refine ⟨0, 0, [], ⟨by simp [good], .inr rfl⟩, fun X1 i a b c d q => ?_⟩
  rw [hnull]
  have q' : ∀ z, cnd true (yco X1 i y 0 0 [] a b c d) z := fun z => ⟨fun _ => q, fun e => (by cases e)⟩
  exact ⟨fun _ => q' _, fun _ => ⟨fun _ => q' _, fun _ => ⟨fun _ => ⟨by split <;> omega, q' _⟩, fun _ => q' _⟩⟩⟩
 ·have hnull : y.Null = false := by simpa using hnull
  rw [hnull]
  have q' : ∀ {z z' : Prop}, z' -> cnd false z z' := fun h => ⟨fun e => (by cases e), fun _ => h⟩
  have hk : y.Kind % 3 = 0 ∨ y.Kind % 3 = 1 ∨ y.Kind % 3 = 2 := by omega
  rcases hk with hk | hk | hk <;> simp only [hk]
  ·refine ⟨1, bits .and .i64 y.N 1, [], ⟨.inr (.inl ⟨rfl, ?_, rfl⟩), .inl rfl⟩, fun X1 i a b c d q => ⟨fun _ => q' q, fun e => (by simp at e)⟩⟩
   show bits .and .i64 y.N 1 = 0 ∨ bits .and .i64 y.N 1 = 1
   rw [yqI]; omega
  ·exact ⟨2, y.N, [], ⟨.inr (.inr (.inl ⟨rfl, hn, rfl⟩)), .inl rfl⟩, fun X1 i a b c d q => ⟨fun e => (by simp at e), fun _ => ⟨fun _ => q' q, fun e => (by simp at e)⟩⟩⟩
  ·refine ⟨3, 0, _, ⟨.inr (.inr (.inr ⟨rfl, rfl, ?_⟩)), .inl rfl⟩, fun X1 i a b c d q => ⟨fun e => (by simp at e), fun _ => ⟨fun e => (by simp at e), fun _ => ⟨fun _ => ⟨by split <;> omega, q' q⟩, fun e => (by simp at e)⟩⟩⟩⟩
   show List.length _ <= 64
   rw [List.length_take]
   split <;> omega
def rf (f : Fd) : Fr := ⟨f.Table, f.Name, f.Kind⟩
def FOk (l : List Fd) : Prop := ∀ f ∈ l, 1 <= f.Kind /\ f.Kind <= 3
theorem pRow {l : List Cl} (hl : ∀ p ∈ l, ClOk p) : ∃ r0 r2, ydc l r0 (r0.map rf) r2 (r2.map v6) ∧ Row r0 r2 ∧ FOk r0 ∧ r0.length ≤ 6 := by
 have key : ∀ (k : Nat) (i : Int) (a : List Fd) (c : List V), 0 ≤ i → i + k = 6 → Row a c → FOk a → (a.length : Int) = i → ∃ r0 r2, (Row r0 r2 ∧ FOk r0 ∧ r0.length ≤ 6) ∧ ∀ X1 : Int → List Fd → List yaf → List V → List yaa → Prop, (∀ x1 x2 x3 x4 x5, yec l r0 (r0.map rf) r2 (r2.map v6) X1 x1 x2 x3 x4 x5 → X1 x1 x2 x3 x4 x5) → X1 i a (a.map rf) c (c.map v6) := by
  intro k
  induction k with
  | zero =>
    intro i a c h0 hi hr hf ha
    have hi : i = 6 := by omega
    subst hi
    refine ⟨a, c, ⟨hr, hf, by omega⟩, fun X1 hX => hX _ _ _ _ _ fun _ => ?_⟩
    have m : ycX X1 l a (a.map rf) c (c.map v6) 6 false a (a.map rf) c (c.map v6) := ⟨fun e => (by cases e), fun _ => ⟨rfl, rfl, rfl, rfl⟩⟩
    exact ⟨fun _ => m, fun _ => m⟩
  | succ k ih =>
    intro i a c h0 hi hr hf ha
    by_cases hlt : i < l.length
    ·have hi' : i.toNat < l.length := by omega
     have hy := hl _ (List.getElem_mem hi')
     obtain ⟨x18, x19, x20, hv, f⟩ := yu8 hy
     obtain ⟨t0, t1, n0, n1, k0, k1, _⟩ := hy
     have w : IntKind.i64.wrap (1 + IntKind.i64.wrap (l[i.toNat].Kind.tmod 3)) = 1 + l[i.toNat].Kind % 3 := by rw [tm k0, wrap64 (n := l[i.toNat].Kind % 3) (by omega) (by omega), wrap64 (by omega) (by omega)]
     have h6 : decide (i < 6) = true := by simp; push_cast at hi; omega
     obtain ⟨r0, r2, q1, q2⟩ := ih (i + 1) (a ++ [⟨((([([116] : Str), ([117] : Str)] : List Str)[(l[i.toNat].Table.tmod (2 : Int)).toNat]?).getD []), ((([([97] : Str), ([98] : Str), ([99, 49] : Str), ([110] : Str)] : List Str)[(l[i.toNat].Name.tmod (4 : Int)).toNat]?).getD []), IntKind.i64.wrap ((1 : Int) + (IntKind.i64.wrap (l[i.toNat].Kind.tmod (3 : Int))))⟩]) (c ++ [⟨x18, x19, x20⟩]) (by omega) (by push_cast at hi; omega) (ytO hr hv) (fun g hg => by
      rcases List.mem_append.1 hg with hg | hg
      ·exact hf g hg
      ·simp only [List.mem_singleton] at hg
       subst hg
       simp only [w]; omega) (by simp; omega)
     refine ⟨r0, r2, q1, fun X1 hX => hX _ _ _ _ _ fun _ => ?_⟩
     rw [h6]
     refine ⟨fun _ => ⟨fun _ => ⟨h0, hlt, l[i.toNat], by simp [hi'], by rw [tm t0]; omega, by rw [tm n0]; omega, f _ _ _ _ _ _ ⟨by push_cast at hi; omega, by rw [List.length_map]; push_cast at hi; omega, by rw [hr.1]; push_cast at hi; omega, by rw [List.length_map, hr.1]; push_cast at hi; omega, ?_⟩⟩, fun e => (by cases e)⟩, fun e => absurd hlt (by simpa using e)⟩
     rw [wrap64 (by push_cast at hi; omega) (by push_cast at hi; omega)]
     have := q2 X1 hX
     simp only [List.map_append, List.map_cons, List.map_nil] at this
     exact this
    ·refine ⟨a, c, ⟨hr, hf, by push_cast at hi; omega⟩, fun X1 hX => hX _ _ _ _ _ fun _ => ⟨fun e => absurd (by simpa using e) hlt, fun _ => ⟨fun e => (by cases e), fun _ => ⟨rfl, rfl, rfl, rfl⟩⟩⟩⟩
 obtain ⟨r0, r2, q1, q2⟩ := key 6 0 [] [] (by omega) (by omega) ⟨rfl, fun i f v h => by simp at h⟩ (fun f hf => by cases hf) rfl
 exact ⟨r0, r2, yp0 _ _ _ _ _ q2, q1⟩
theorem ywZ (a b : Str) (h : a.length + b.length ≤ 64) : ycV 12 ⟨3, 0, a⟩ ⟨3, 0, b⟩ ⟨3, 0, a ++ b⟩ 0 := by
 apply ym3
 have hf : yct 12 (⟨3, 0, a⟩ : V) ⟨3, 0, b⟩ true := by
  have := pFit 12 (⟨3, 0, a⟩ : V) ⟨3, 0, b⟩
  exact this
 have hw : IntKind.i64.wrap ((a.length : Int) + (b.length : Int)) = (a.length : Int) + (b.length : Int) := wrap64 (by omega) (by omega)
 have na := ynU (⟨3, 0, a⟩ : V)
 have nb := ynU (⟨3, 0, b⟩ : V)
 refine ⟨fun e => (by simp at e), fun _ => ⟨fun e => (by simp at e), fun _ => ⟨_, hf, ⟨fun e => (by cases e), fun _ => ⟨fun e => (by simp at e), fun _ => ⟨_, na, ⟨fun e => (by simp at e), fun _ => ⟨_, nb, ⟨fun e => (by simp at e), fun _ => ⟨fun e => (by simp at e), fun _ => ⟨fun _ => ⟨fun e => ?_, fun _ => ⟨by show a.length + b.length <= _; omega, _, ylc _, rfl, rfl⟩⟩, fun e => (by simp at e)⟩⟩⟩⟩⟩⟩⟩⟩⟩⟩⟩
 have e : 64 < IntKind.i64.wrap ((a.length : Int) + (b.length : Int)) := by simpa using e
 rw [hw] at e; omega
theorem yuS : yb1 true := by
 apply yma
 let l : List Fd := [⟨[116], [97], 3⟩]
 let ca : X := .mk 2 0 ⟨0, 0, []⟩ [] [97] []
 have hcol : ∀ ag, yao ca l ag 3 0 := fun ag => tCol (x := ca) (l := l) rfl rfl
 have hfind : ycM l ca = (0, 0) := rfl
 have hlit : ∀ v : V, ∀ ag, yao (.mk 1 0 v [] [] []) l ag v.Kind 0 := fun v ag => tLit (x := .mk 1 0 v [] [] []) rfl rfl
 have he1 : yar ca l [⟨3, 0, [121]⟩] ⟨3, 0, [121]⟩ 0 := eCol (x := ca) rfl rfl rfl rfl
 have he2 : yar (.mk 1 0 ⟨3, 0, [120]⟩ [] [] []) l [⟨3, 0, [121]⟩] ⟨3, 0, [120]⟩ 0 := eLit (x := .mk 1 0 ⟨3, 0, [120]⟩ [] [] []) rfl rfl
 refine ⟨_, ysn 1, 0, 5, tBin (x := .mk 3 7 ⟨0, 0, []⟩ [] [] [ca, .mk 1 0 ⟨2, 1, []⟩ [] [] []]) rfl rfl (hcol false) (hlit ⟨2, 1, []⟩ false), _, ylc _, by omega, by simp, _, rfl, 3, 0, tBin (x := .mk 3 12 ⟨0, 0, []⟩ [] [] [ca, .mk 1 0 ⟨3, 0, [120]⟩ [] [] []]) rfl rfl (hcol false) (hlit ⟨3, 0, [120]⟩ false), _, ylc _, _, 0, eBin (x := .mk 3 12 ⟨0, 0, []⟩ [] [] [ca, .mk 1 0 ⟨3, 0, [120]⟩ [] [] []]) rfl rfl he1 he2 (ywZ _ _ (by decide)), ?_⟩
 refine ⟨fun _ => ⟨fun _ => ⟨fun _ => ⟨fun _ => ⟨_, ylc _, rfl⟩, fun e => (by simp at e)⟩, fun e => (by simp at e)⟩, fun e => (by simp at e)⟩, fun e => (by simp at e)⟩
end Go.Proofs.Ytkfingiebkgleaa
end
noncomputable section
namespace Go.Proofs.Ytkfingiebkgleaa
open Go.AV Go.RowKit
theorem yrx (l : List Fd) (m : E6) (hl : l.length ≤ 1000) : ybK (l.map rf) m (ycM l (told m)).1 (ycM l (told m)).2 := by
 apply yoO
 refine lp2 (fun (p i : Int) => 0 <= i /\ i <= l.length /\ ((p = -1 /\ fgo (told m) (l.drop i.toNat) i 0 0 = fgo (told m) l 0 0 0) ∨ (0 <= p /\ fgo (told m) (l.drop i.toNat) i p 1 = fgo (told m) l 0 0 0))) (fun _ (i : Int) => (l.length - i.toNat)) ?_ ⟨by omega, by omega, .inl ⟨rfl, rfl⟩⟩
 intro X p i ⟨h0, h1, h2⟩ hX hlen
 rw [List.length_map]
 refine ⟨fun hlt => ?_, fun hge => ?_⟩
 ·have hlt : i < l.length := by simpa using hlt
  have hi : i.toNat < l.length := by omega
  have e1 : i.toNat + 1 = (i + 1).toNat := by omega
  have hw : IntKind.i64.wrap (i + 1) = i + 1 := wrap64 (by omega) (by omega)
  rw [ykY hi] at h2
  simp only [fgo, e1] at h2
  have nm : (told m).Name = m.Name := by rw [yp3]; rfl
  have tb : (told m).Table = m.Table := by rw [yp3]; rfl
  have no : fmt (told m) l[i.toNat] = false → ybb X (ycM l (told m)).1 (ycM l (told m)).2 p i true := fun hm => ⟨fun _ => by
   rw [hw]
   rw [if_neg (by rw [hm]; simp), if_neg (by rw [hm]; simp)] at h2
   exact hX _ _ ⟨by omega, by omega, h2⟩ (by omega), fun c => (by cases c)⟩
  have yes : fmt (told m) l[i.toNat] = true → ybb X (ycM l (told m)).1 (ycM l (told m)).2 p i false := fun hm => ⟨fun c => (by cases c), fun _ => ⟨fun hp => by
   have hp : 0 <= p := by simpa using hp
   rw [if_pos hm, if_pos hm] at h2
   rcases h2 with ⟨h, _⟩ | ⟨_, h⟩
   ·omega
   ·have := yrV (told m) (l.drop (i + 1).toNat) (i + 1) i (1 + 1)
    rw [h] at this
    unfold ycM
    simp only
    rw [if_neg (by omega), if_neg (by omega)]
    exact ⟨rfl, rfl⟩, fun hp => by
   have hp : ¬ 0 <= p := by simpa using hp
   rw [hw]
   rw [if_pos hm, if_pos hm] at h2
   rcases h2 with ⟨_, h⟩ | ⟨h, _⟩
   ·exact hX _ _ ⟨by omega, by omega, .inr ⟨h0, h⟩⟩ (by omega)
   ·omega⟩⟩
  unfold fmt at no yes
  rw [nm, tb] at no yes
  refine ⟨h0, hlt, rf l[i.toNat], by simp [hi], fun a => ?_, fun a => ⟨fun b => ⟨h0, hlt, rf l[i.toNat], by simp [hi], ?_⟩, fun b => ?_⟩⟩
  ·have a : ¬ l[i.toNat].Name = m.Name := by simpa [rf] using a
   exact no (by simp [a])
  ·have a : l[i.toNat].Name = m.Name := by simpa [rf] using a
   have b : ¬ m.Table = [] := by simpa using b
   show ybb _ _ _ _ _ (!(l[i.toNat].Table == m.Table))
   by_cases c : l[i.toNat].Table = m.Table
   ·have : (!(l[i.toNat].Table == m.Table)) = false := by simp [c]
    rw [this]
    exact yes (by simp [a, c])
   ·have : (!(l[i.toNat].Table == m.Table)) = true := by simp [c]
    rw [this]
    exact no (by simp [b]; intro _ h; exact c h.symm)
  ·have a : l[i.toNat].Name = m.Name := by simpa [rf] using a
   have b : m.Table = [] := by simpa using b
   exact yes (by simp [a, b])
 ·have hge : ¬ i < l.length := by simpa using hge
  have : l.drop i.toNat = [] := List.drop_eq_nil_of_le (by omega)
  rw [this] at h2
  simp only [fgo] at h2
  unfold ycM
  simp only
  refine ⟨fun c => ?_, fun c => ?_⟩
  ·have c : p < 0 := by simpa using c
   rcases h2 with ⟨_, h⟩ | ⟨h, _⟩
   ·rw [<- h]; exact ⟨rfl, rfl⟩
   ·omega
  ·have c : ¬ p < 0 := by simpa using c
   rcases h2 with ⟨h, _⟩ | ⟨_, h⟩
   ·omega
   ·rw [<- h]; exact ⟨rfl, rfl⟩
mutual
def ra : E6 → List E6
 | .mk k o v t n L => (if k = 8 then [.mk k o v t n L] else []) ++ ras L
def ras : List E6 → List E6
 | [] => []
 | x :: r => ra x ++ ras r
end
mutual
theorem yp9 : ∀ m : E6, (wl (told m)).filter (fun x => x.Kind == 8) = (ra m).map told
 | .mk k o v t n L => by
   have e : told (.mk k o v t n L) = .mk k o ⟨v.Kind, v.N, v.S⟩ t n (yiJ L) := rfl
   rw [e]
   simp only [wl, ra, List.filter_cons, yql L, List.map_append]
   by_cases h : k = 8
   ·subst h
    simp [yad.Kind, e]
   ·simp [yad.Kind, h]
theorem yql : ∀ L : List E6, (wls (yiJ L)).filter (fun x => x.Kind == 8) = (ras L).map told
 | [] => rfl
 | x :: r => by simp only [yiJ, wls, ras, List.filter_append, List.map_append, yp9 x, yql r]
end
theorem ysd (m : E6) : aggs (told m) = (ra m).map told := yp9 m
theorem yrd (m : E6) : ra m = (if m.Kind = 8 then [m] else []) ++ ras m.L := by cases m; rfl
theorem yob : ∀ L : List E6, ras L = (L.map ra).flatten
 | [] => rfl
 | x :: r => by simp [ras, yob r]
theorem yrw (x : X) : wl x = x :: wls x.L := by cases x; rfl
theorem ygd (m : E6) : (told m).L = yiJ m.L := by cases m; rfl
theorem ywF (m : E6) : (ra m).length ≤ (wl (told m)).length := by
 have := congrArg List.length (yp9 m)
 rw [List.length_map] at this
 rw [<- this]; exact List.length_filter_le _ _
theorem p20 {n : Nat} (hn : n ≤ 20) : 2 ^ n ≤ 1048576 := by
 have : 2 ^ n <= 2 ^ 20 := Nat.pow_le_pow_right (by omega) hn
 simpa using this
theorem two {a b : Nat} (h : a < b) : 2 * 2 ^ a ≤ 2 ^ b := by
 have := Nat.pow_le_pow_right (show 0 < 2 by omega) (show a + 1 <= b by omega)
 rw [Nat.pow_succ] at this; omega
theorem yuc {m : E6} (h : OkE m) : (wl (told m)).length < 2 ^ dep m := by
 induction h with
 | lit m h hl hv => rw [yrw, ygd, hl, yfv, hl]; simp [yiJ, wls, deps]
 | col m h hl => rw [yrw, ygd, hl, yfv, hl]; simp [yiJ, wls, deps]
 | agg0 m h ho hl => rw [yrw, ygd, hl, yfv, hl]; simp [yiJ, wls, deps]
 | bin m a b h hl _ _ _ _ iha ihb =>
   rw [yrw, ygd, hl]
   simp only [yiJ, wls, List.length_cons, List.length_append, List.length_nil]
   have ha := two (show dep a < dep m by rw [yfv m, hl]; simp only [deps]; omega)
   have hb := two (show dep b < dep m by rw [yfv m, hl]; simp only [deps]; omega)
   omega
 | un m a h h' hl _ iha =>
   rw [yrw, ygd, hl]
   simp only [yiJ, wls, List.length_cons, List.length_append, List.length_nil]
   have ha := two (show dep a < dep m by rw [yfv m, hl]; simp only [deps]; omega)
   omega
 | agg1 m a h hl _ iha =>
   rw [yrw, ygd, hl]
   simp only [yiJ, wls, List.length_cons, List.length_append, List.length_nil]
   have ha := two (show dep a < dep m by rw [yfv m, hl]; simp only [deps]; omega)
   omega
theorem OkE.kids {m : E6} (h : OkE m) : m.L.length ≤ 2 ∧ ∀ y ∈ m.L, OkE y := by
 cases h with
 | lit m h hl hv => rw [hl]; simp
 | col m h hl => rw [hl]; simp
 | agg0 m h ho hl => rw [hl]; simp
 | bin m a b h hl _ _ ha hb => rw [hl]; simp [ha, hb]
 | un m a h h' hl ha => rw [hl]; simp [ha]
 | agg1 m a h hl ha => rw [hl]; simp [ha]
theorem pAgg : ∀ (n : Nat) {m : E6}, OkE m → dep m ≤ n → n ≤ 20 → ybi m (ra m) := by
 intro n
 induction n with
 | zero => intro m h hd; rw [yfv] at hd; omega
 | succ n ih =>
   intro m h hd hn
   obtain ⟨k1, k2⟩ := h.kids
   rw [yrd, yob]
   refine yss (ls := m.L.map ra) k1 (by simp) (fun i y l p q => ?_)
   rw [List.getElem?_map, p] at q
   simp only [Option.map_some, Option.some.injEq] at q
   subst q
   have hy := List.mem_of_getElem? p
   have hdy := ynE hy
   rw [yfv] at hd
   refine ⟨ih (k2 y hy) (by omega) (by omega), ?_⟩
   have a1 := ywF y
   have a2 := yuc (k2 y hy)
   have a3 := p20 (n := dep y) (by omega)
   omega
theorem yyY : ∀ (n : Nat) (x : X), SizeOf.sizeOf x ≤ n → yfP x x true := by
 intro n
 induction n with
 | zero => intro x h; cases x; simp at h
 | succ n ih =>
   intro x hn
   intro Xr hXr
   apply hXr
   apply yoU
   have main : yaG x.L x.L Xr true := by
    apply yfL
    intro h1 _
    have hm : maxLen = 9223372036854775807 := rfl
    refine ⟨fun c => (by simp at c), fun _ _ => ?_⟩
    refine lp1 (fun (i : Int) => 0 <= i /\ i <= x.L.length) (fun (i : Int) => x.L.length - i.toNat) ?_ ⟨by omega, by omega⟩
    intro X1 i ⟨h0, h1⟩ hX
    refine ⟨fun hlt => ?_, fun _ => rfl⟩
    have hlt : i < x.L.length := by simpa using hlt
    have hi : i.toNat < x.L.length := by omega
    refine ⟨h0, hlt, x.L[i.toNat], by simp [hi], h0, hlt, x.L[i.toNat], by simp [hi], true, ?_, fun c => (by cases c), fun _ => ?_⟩
    ·rw [e_expr]
     refine ih _ ?_ Xr hXr
     have h2 := List.sizeOf_lt_of_mem (List.getElem_mem hi)
     have h3 : SizeOf.sizeOf x.L < SizeOf.sizeOf x := by cases x; simp [yad.L]; omega
     omega
    ·rw [wrap64 (by omega) (by omega)]
     exact hX _ ⟨by omega, by omega⟩ (by omega)
   have r : ∀ b : Bool, b = true -> ∀ {p q : Prop}, p -> cnd b p q := fun b hb p q h => ⟨fun _ => h, fun c => (by rw [hb] at c; cases c)⟩
   exact r _ (by simp) (r _ (by simp) (r _ (by simp) (r _ (by simp) (r _ (by simp) ⟨true, main, rfl⟩))))
theorem yxd {x : X} {l : List Fd} (h : x.Kind = 8) : yao x l false 0 4 := by
 intro Xr hXr
 apply hXr
 apply yfK
 refine ⟨fun _ => ⟨fun _ => ⟨rfl, rfl⟩, fun c => (by cases c)⟩, fun c => (by simp [h] at c)⟩
theorem yxQ {m : E6} {l : List Fr} (h : m.Kind = 8) : yau m l false 0 4 := by
 intro Xr hXr
 apply hXr
 apply yfZ
 refine ⟨fun _ => ⟨fun _ => ⟨rfl, rfl⟩, fun c => (by cases c)⟩, fun c => (by simp [h] at c)⟩
theorem rUn {m a : E6} {l : List Fr} {ag : Bool} {k : Int} (h : 4 ≤ m.Kind) (h' : m.Kind ≤ 7) (hl : m.L = [a]) (k0 : 0 ≤ k) (k3 : k ≤ 3) (ha : yau a l ag k 0) : yau m l ag (sUn m.Kind k).1 (sUn m.Kind k).2 := by
 refine yhe (ks := [k]) (.inl (by omega)) (by simp [hl]) (by simp [hl]) (fun i y q h1 h2 => ?_) (fun Xr X2 hlen => ?_)
 ·rw [hl] at h1
  cases i with
  | zero => simp at h1 h2; subst h1; subst h2; exact ha
  | succ i => simp at h1
 ·have hk : m.Kind = 4 ∨ m.Kind = 5 ∨ m.Kind = 6 ∨ m.Kind = 7 := by omega
  have hq : k = 0 ∨ k = 1 ∨ k = 2 ∨ k = 3 := by omega
  rcases hk with hk | hk | hk | hk <;> rcases hq with rfl | rfl | rfl | rfl <;> simp [hk, hl, cnd, sUn, yd5, ycC, yaW]
theorem rLit {m : E6} {l : List Fr} {ag : Bool} (h : m.Kind = 1) (hl : m.L = []) : yau m l ag m.V.Kind 0 := by
 refine yhe (ks := []) (.inl (by omega)) (by simp [hl]) (by simp [hl]) (fun i y q h1 h2 => by simp at h2) (fun Xr X2 hlen => ?_)
 simp [hl, h, cnd]
theorem rCol {m : E6} {l : List Fd} {ag : Bool} (h : m.Kind = 2) (hl : m.L = []) (hlen : l.length ≤ 1000) : yau m (l.map rf) ag (sCol l (told m)).1 (sCol l (told m)).2 := by
 refine yhe (ks := []) (.inl (by omega)) (by simp [hl]) (by simp [hl]) (fun i y q h1 h2 => by simp at h2) (fun Xr X2 _ => ?_)
 have hF := yrx l m hlen
 refine ⟨fun c => (by simp [hl] at c), fun _ => ⟨fun c => (by simp [h] at c), fun _ => ⟨fun _ => ⟨_, _, by rw [e_ref]; exact hF, fun c => ?_, fun c => ?_⟩, fun c => (by simp [h] at c)⟩⟩⟩
 ·have c : (ycM l (told m)).2 ≠ 0 := by simpa using c
  simp [sCol, c]
 ·have c : (ycM l (told m)).2 = 0 := by simpa using c
  obtain ⟨q1, q2⟩ := yhg c
  have hi : (ycM l (told m)).1.toNat < l.length := by omega
  refine ⟨q1, by rw [List.length_map]; exact q2, rf l[(ycM l (told m)).1.toNat], by simp [hi], ?_, ?_⟩ <;> simp [sCol, c, hi, rf]
def smp (k : Int) : V := ⟨k, 0, []⟩
theorem yoj {k : Int} (h0 : 0 ≤ k) (h3 : k ≤ 3) : good (smp k) := by
 have : k = 0 ∨ k = 1 ∨ k = 2 ∨ k = 3 := by omega
 rcases this with rfl | rfl | rfl | rfl <;> simp [smp, good, Rg]
theorem rk_e (op a b : Int) : (sRk op a b).2 = 0 ∨ (sRk op a b).2 = 8 ∨ (sRk op a b).2 = 9 := by
 unfold sRk; grind
theorem do_e {op : Int} {a b : V} (h1 : 1 ≤ op) (h14 : op ≤ 14) : ((sDo op a b).2 = 5 ↔ sFit op a b = false) ∧ ((sDo op a b).2 ≠ 5 → (sDo op a b).2 = 0 ∨ (sDo op a b).2 = 8 ∨ (sDo op a b).2 = 9) ∧ ((sDo op a b).2 ≠ 0 → (sDo op a b).1 = D0) := by
 have hr := rk_e op a.N b.N
 unfold sDo
 rw [if_neg (by omega)]
 cases hf : sFit op a b with
 | false => simp
 | true => grind
theorem yx9 {op a b : Int} (h1 : 1 ≤ op) (h14 : op ≤ 14) : sFit op (smp a) (smp b) = false ↔ (ya0 op a b).2 ≠ 0 := by
 simp only [sFit, ycf, ya0, smp]
 grind
theorem yuh (op a b : Int) : (ya0 op a b).2 = 0 ∨ ya0 op a b = (0, 5) := by unfold ya0; grind
theorem rBin {m a b : E6} {l : List Fr} {ag : Bool} {ka kb : Int} (h : m.Kind = 3) (h1 : 1 ≤ m.Op) (h14 : m.Op ≤ 14) (hl : m.L = [a, b]) (a0 : 0 ≤ ka) (a3 : ka ≤ 3) (b0 : 0 ≤ kb) (b3 : kb ≤ 3) (ha : yau a l ag ka 0) (hb : yau b l ag kb 0) : yau m l ag (ya0 m.Op ka kb).1 (ya0 m.Op ka kb).2 := by
 refine yhe (ks := [ka, kb]) (.inl (by omega)) (by simp [hl]) (by simp [hl]) (fun i y q h1 h2 => ?_) (fun Xr X2 hlen => ?_)
 ·rw [hl] at h1
  match i with
  | 0 => simp at h1 h2; subst h1; subst h2; exact ha
  | 1 => simp at h1 h2; subst h1; subst h2; exact hb
  | i + 2 => simp at h1
 ·have hd := pDo6 (op := m.Op) (yoj a0 a3) (yoj b0 b3)
  obtain ⟨d1, d2, d3⟩ := do_e (a := smp ka) (b := smp kb) h1 h14
  have hfb := yx9 (a := ka) (b := kb) h1 h14
  refine ⟨fun c => (by simp [hl] at c), fun _ => ⟨fun c => (by simp [h] at c), fun _ => ⟨fun c => (by simp [h] at c), fun _ => ⟨fun _ => ⟨by omega, by simp, ka, rfl, _, rfl, by omega, by simp, kb, rfl, _, rfl, _, _, hd, fun c => ?_, fun c => ?_⟩, fun c => (by simp [h] at c)⟩⟩⟩⟩
  ·have c : (sDo m.Op (smp ka) (smp kb)).2 = 5 := by simpa using c
   have := hfb.1 (d1.1 c)
   rcases yuh m.Op ka kb with e | e
   ·exact absurd e this
   ·rw [e]; exact ⟨rfl, rfl⟩
  ·have c : (sDo m.Op (smp ka) (smp kb)).2 ≠ 5 := by simpa using c
   have e0 : (ya0 m.Op ka kb).2 = 0 := by
    rcases yuh m.Op ka kb with e | e
    ·exact e
    ·exact absurd (d1.2 (hfb.2 (by rw [e]; simp))) c
   rw [e0]
   clear hd d1 d2 d3 hfb
   revert e0
   simp only [ycE, cnd, ya0]
   generalize m.Op = op at *
   intro e0
   by_cases c6 : op <= 6
   ·simp [c6] at e0 ⊢; grind
   ·by_cases c13 : 13 ≤ op
    ·have : op = 13 ∨ op = 14 := by omega
     simp [c6, c13, this] at e0 ⊢; grind
    ·have : ¬ (op = 13 ∨ op = 14) := by omega
     simp [c6, c13, this] at e0 ⊢; grind
end Go.Proofs.Ytkfingiebkgleaa
end
noncomputable section
namespace Go.Proofs.Ytkfingiebkgleaa
open Go.AV Go.RowKit
theorem yhB (m : E6) : (told m).Kind = m.Kind := by cases m; rfl
theorem yq3 (m : E6) : (told m).Op = m.Op := by cases m; rfl
theorem yuA (m : E6) : (told m).V = ⟨m.V.Kind, m.V.N, m.V.S⟩ := by cases m; rfl
def sAg (op k : Int) : Int × Int := if op = 1 then (2, 0) else if op = 2 then yd5 k 2 2 else (k, 0)
theorem tAg {x a : X} {l : List Fd} {k : Int} (h : x.Kind = 8) (hl : x.L = [a]) (ha : yao a l true k 0) : yao x l true (sAg x.Op k).1 (sAg x.Op k).2 := by
 refine yhj (ks := [k]) (.inr rfl) (by simp [hl]) (by simp [hl]) (fun i y q h1 h2 => ?_) ?_
 ·rw [hl] at h1
  cases i with
  | zero => simp at h1 h2; subst h1; subst h2; exact ha
  | succ i => simp at h1
 ·apply ycG
  have u2 := yr9 k 2 2
  simp only [ybd, ya6]
  by_cases o1 : x.Op = 1
  ·simp [h, o1, cnd, sAg]
  ·by_cases o2 : x.Op = 2
   ·simp [h, o2, cnd, sAg]; exact u2
   ·simp [h, o1, o2, cnd, sAg]
theorem rAg {m a : E6} {l : List Fr} {k : Int} (h : m.Kind = 8) (hl : m.L = [a]) (k0 : 0 ≤ k) (k3 : k ≤ 3) (ha : yau a l true k 0) : yau m l true (sAg m.Op k).1 (sAg m.Op k).2 := by
 refine yhe (ks := [k]) (.inr rfl) (by simp [hl]) (by simp [hl]) (fun i y q h1 h2 => ?_) (fun Xr X2 hlen => ?_)
 ·rw [hl] at h1
  cases i with
  | zero => simp at h1 h2; subst h1; subst h2; exact ha
  | succ i => simp at h1
 ·have hq : k = 0 ∨ k = 1 ∨ k = 2 ∨ k = 3 := by omega
  by_cases o1 : m.Op = 1
  ·simp [h, hl, o1, cnd, sAg, yaW]
  ·by_cases o2 : m.Op = 2
   ·rcases hq with rfl | rfl | rfl | rfl <;> simp [h, hl, o2, cnd, sAg, yd5, yaW, ycD]
   ·simp [h, hl, o1, o2, cnd, sAg, yaW]
theorem tAg0 {x : X} {l : List Fd} (h : x.Kind = 8) (ho : x.Op = 1) (hl : x.L = []) : yao x l true 2 0 := by
 refine yhj (ks := []) (.inr rfl) (by simp [hl]) (by simp [hl]) (fun i y q h1 h2 => by simp at h2) ?_
 apply ycG
 simp [ybd, ya6, h, ho, cnd]
theorem rAg0 {m : E6} {l : List Fr} (h : m.Kind = 8) (ho : m.Op = 1) (hl : m.L = []) : yau m l true 2 0 := by
 refine yhe (ks := []) (.inr rfl) (by simp [hl]) (by simp [hl]) (fun i y q h1 h2 => by simp at h2) (fun Xr X2 hlen => ?_)
 simp [h, ho, hl, cnd, yaW]
theorem yxp {v : V} (h : good v) : 0 ≤ v.Kind ∧ v.Kind ≤ 3 := by
 unfold good at h
 rcases h with h | h | h | h <;> omega
theorem yyT {op a b : Int} (ha : Rg a) (h : (sRk op a b).2 = 0) : Rg (sRk op a b).1 := by
 have t1 := yu6 (a := a) (b := b) ha
 have t2 : ¬ (a = -9223372036854775808 /\ b = -1) -> Rg (a.tdiv b) := ylg ha
 have i1 := yeg (a + b)
 have i2 := yeg (a - b)
 have i3 := yeg (a * b)
 unfold sRk at h ⊢
 have e : ∀ {n : Int}, (inR n = true ↔ Rg n) → (if inR n then (n, (0 : Int)) else (0, 8)).2 = 0 → Rg (if inR n then (n, (0 : Int)) else (0, 8)).1 := by
  intro n i h
  by_cases c : inR n = true
  ·rw [if_pos c]; exact i.1 c
  ·rw [if_neg c] at h; simp at h
 by_cases h7 : op = 7
 ·rw [if_pos h7] at h ⊢; exact e i1 h
 rw [if_neg h7] at h ⊢
 by_cases h8 : op = 8
 ·rw [if_pos h8] at h ⊢; exact e i2 h
 rw [if_neg h8] at h ⊢
 by_cases h9 : op = 9
 ·rw [if_pos h9] at h ⊢; exact e i3 h
 rw [if_neg h9] at h ⊢
 by_cases hb : b = 0
 ·rw [if_pos hb] at h; simp at h
 rw [if_neg hb] at h ⊢
 by_cases h11 : op = 11
 ·rw [if_pos h11]; exact t1
 rw [if_neg h11] at h ⊢
 by_cases hm : a = -9223372036854775808 /\ b = -1
 ·rw [if_pos hm] at h; simp at h
 ·rw [if_neg hm]; exact t2 hm
theorem yw1 (d : Bool) (a b : V) : has (ylX d a b) 1 := by
 unfold ylX
 split
 ·exact hasB d
 ·split
  ·exact ⟨.inl ⟨rfl, rfl, rfl⟩, .inr rfl⟩
  ·exact hasB (!d)
theorem ysp {op ta tb : Int} {a b : V} (h1 : 1 ≤ op) (h14 : op ≤ 14) (ha : has a ta) (hb : has b tb) (ht : (ya0 op ta tb).2 = 0) : sFit op a b = true := by
 obtain ⟨_, ea⟩ := ha
 obtain ⟨_, eb⟩ := hb
 revert ht
 simp only [sFit, ycf, ya0]
 grind
theorem ywf {op ta tb : Int} {a b : V} (h1 : 1 ≤ op) (h14 : op ≤ 14) (ha : has a ta) (hb : has b tb) (ht : (ya0 op ta tb).2 = 0) (he : (sDo op a b).2 = 0) : has (sDo op a b).1 (ya0 op ta tb).1 := by
 have hf := ysp h1 h14 ha hb ht
 have z0 : ∀ t, has D0 t := fun t => ⟨.inl ⟨rfl, rfl, rfl⟩, .inr rfl⟩
 unfold sDo at he ⊢
 rw [if_neg (by omega), hf] at he ⊢
 simp only [Bool.true_eq_false, if_false] at he ⊢
 by_cases h13 : 13 <= op
 ·rw [if_pos h13]
  have : (ya0 op ta tb).1 = 1 := by revert ht; grind [ya0]
  rw [this]; exact yw1 _ _ _
 rw [if_neg h13] at he ⊢
 by_cases hn : a.Kind = 0 ∨ b.Kind = 0
 ·rw [if_pos hn]; exact z0 _
 rw [if_neg hn] at he ⊢
 by_cases h6 : op <= 6
 ·rw [if_pos h6]
  have : (ya0 op ta tb).1 = 1 := by revert ht; grind [ya0]
  rw [this]; exact hasB _
 rw [if_neg h6] at he ⊢
 by_cases h12 : op = 12
 ·rw [if_pos h12] at he ⊢
  have : (ya0 op ta tb).1 = 3 := by revert ht; grind [ya0]
  rw [this]
  split
  ·exact z0 _
  ·rename_i hl
   refine ⟨.inr (.inr (.inr ⟨rfl, rfl, ?_⟩)), .inl rfl⟩
   show (a.S ++ b.S).length <= 64
   rw [List.length_append]; omega
 rw [if_neg h12] at he ⊢
 have : (ya0 op ta tb).1 = 2 := by revert ht; grind [ya0]
 rw [this]
 by_cases hr : (sRk op a.N b.N).2 ≠ 0
 ·rw [if_pos hr]; exact z0 _
 ·rw [if_neg hr]
  exact ⟨.inr (.inr (.inl ⟨rfl, yyT (yrj ha.1) (by omega), rfl⟩)), .inl rfl⟩
theorem yyr {row : List V} {i : Nat} {v : V} (h : row[i]? = some v) : (row.map v6)[i]? = some (v6 v) := by rw [List.getElem?_map, h]; rfl
theorem yyE {m : E6} {l : List Fr} {row : List V6} (h : m.Kind = 1) (hl : m.L = []) : yav m l row ⟨m.V.Kind, m.V.N, m.V.S⟩ 0 := by
 refine ykL (vs := []) (by simp [hl]) (by simp [hl]) (fun i y q h1 h2 => by simp at h2) (fun Xr X1 hlen => ?_)
 simp [h, hl, cnd]
theorem yyj {m : E6} {l : List Fd} {row : List V} {v : V} (h : m.Kind = 2) (hl : m.L = []) (hlen : l.length ≤ 1000) (hf : (ycM l (told m)).2 = 0) (hv : row[(ycM l (told m)).1.toNat]? = some v) : yav m (l.map rf) (row.map v6) (v6 v) 0 := by
 refine ykL (vs := []) (by simp [hl]) (by simp [hl]) (fun i y q h1 h2 => by simp at h2) (fun Xr X1 _ => ?_)
 have hF := yrx l m hlen
 have hlt := (List.getElem?_eq_some_iff.1 hv).1
 obtain ⟨q1, q2⟩ := yhg hf
 refine ⟨fun c => (by simp [hl] at c), fun _ => ⟨fun c => (by simp [h] at c), fun _ => ⟨fun _ => ⟨_, _, by rw [e_ref]; exact hF, fun c => (by simp [hf] at c), fun c => ⟨q1, by rw [List.length_map]; omega, _, yyr hv, rfl, rfl⟩⟩, fun c => (by simp [h] at c)⟩⟩⟩
theorem yyJ {m a b : E6} {l : List Fr} {row : List V6} {u v w : V6} {e : Int} (h : m.Kind = 3) (hl : m.L = [a, b]) (ha : yav a l row u 0) (hb : yav b l row v 0) (hd : ybF m.Op u v w e) : yav m l row w e := by
 refine ykL (vs := [u, v]) (by simp [hl]) (by simp [hl]) (fun i y q h1 h2 => ?_) (fun Xr X1 hlen => ?_)
 ·rw [hl] at h1
  match i with
  | 0 => simp at h1 h2; subst h1; subst h2; exact ha
  | 1 => simp at h1 h2; subst h1; subst h2; exact hb
  | i + 2 => simp at h1
 ·simp [h, hl, cnd]; exact hd
theorem rvF1 {m a : E6} {r : List E6} {l : List Fr} {row : List V6} {v : V6} {f : Int} (hlen : r.length ≤ 10) (hl : m.L = a :: r) (hf : f ≠ 0) (ha : yav a l row v f) : yav m l row ⟨0, 0, []⟩ f := by
 refine ync (vs := []) (v := v) (by simp [hl]; omega) (by simp [hl]) (fun i y q h1 h2 => by simp at h2) hf (fun y hy => ?_)
 rw [hl] at hy; simp at hy; subst hy; exact ha
theorem rvF2 {m a b : E6} {l : List Fr} {row : List V6} {u v : V6} {f : Int} (hl : m.L = [a, b]) (ha : yav a l row u 0) (hf : f ≠ 0) (hb : yav b l row v f) : yav m l row ⟨0, 0, []⟩ f := by
 refine ync (vs := [u]) (v := v) (by simp [hl]) (by simp [hl]) (fun i y q h1 h2 => ?_) hf (fun y hy => ?_)
 ·rw [hl] at h1
  cases i with
  | zero => simp at h1 h2; subst h1; subst h2; exact ha
  | succ i => simp at h2
 ·rw [hl] at hy; simp at hy; subst hy; exact hb
theorem rTF1 {m a : E6} {r : List E6} {l : List Fr} {ag : Bool} {k f : Int} (h8 : m.Kind ≠ 8 ∨ ag = true) (hlen : r.length ≤ 10) (hl : m.L = a :: r) (hf : f ≠ 0) (ha : yau a l ag k f) : yau m l ag 0 f := by
 refine ymZ (ks := []) (k := k) h8 (by simp [hl]; omega) (by simp [hl]) (fun i y q h1 h2 => by simp at h2) hf (fun y hy => ?_)
 rw [hl] at hy; simp at hy; subst hy; exact ha
theorem rTF2 {m a b : E6} {l : List Fr} {ag : Bool} {ka k f : Int} (h8 : m.Kind ≠ 8 ∨ ag = true) (hl : m.L = [a, b]) (ha : yau a l ag ka 0) (hf : f ≠ 0) (hb : yau b l ag k f) : yau m l ag 0 f := by
 refine ymZ (ks := [ka]) (k := k) h8 (by simp [hl]) (by simp [hl]) (fun i y q h1 h2 => ?_) hf (fun y hy => ?_)
 ·rw [hl] at h1
  cases i with
  | zero => simp at h1 h2; subst h1; subst h2; exact ha
  | succ i => simp at h2
 ·rw [hl] at hy; simp at hy; subst hy; exact hb
theorem tAgF {x a : X} {l : List Fd} {k f : Int} (hl : x.L = [a]) (hf : f ≠ 0) (ha : yao a l true k f) : yao x l true 0 f := by
 refine yhh (ks := []) (k := k) (.inr rfl) (by simp [hl]) (by simp [hl]) (fun i y q h1 h2 => by simp at h2) hf (fun y hy => ?_)
 rw [hl] at hy; simp at hy; subst hy; exact ha
theorem yxA {v : V} (hg : good v) (h2 : v.Kind = 2) : sDo 8 (smp 2) v = sNeg v := by
 have hr := yrj hg
 have hS : v.S = [] := by unfold good at hg; grind
 have hf : sFit 8 (smp 2) v = true := by simp [sFit, ycf, smp, h2]
 unfold sDo sNeg
 rw [if_neg (by omega), hf]
 simp only [smp, h2, Rg] at *
 have e : inR (0 - v.N) = decide (v.N ≠ -9223372036854775808) := by
  unfold inR; grind
 by_cases hm : v.N = -9223372036854775808
 ·simp [sRk, hm, inR, D0]
 ·have hw : IntKind.i64.wrap (0 - v.N) = 0 - v.N := wrap64 (by omega) (by omega)
  rw [Int.zero_sub] at e hw
  simp [sRk, e, hm, hw]
theorem rvUn {m a : E6} {l : List Fr} {row : List V6} {v : V} {k : Int} (h : 4 ≤ m.Kind) (h' : m.Kind ≤ 7) (hl : m.L = [a]) (hv : has v k) (ht : (sUn m.Kind k).2 = 0) (ha : yav a l row (v6 v) 0) : yav m l row (v6 (sEU m.Kind v).1) (sEU m.Kind v).2 := by
 refine ykL (vs := [v6 v]) (by simp [hl]) (by simp [hl]) (fun i y q h1 h2 => ?_) (fun Xr X1 hlen => ?_)
 ·rw [hl] at h1
  cases i with
  | zero => simp at h1 h2; subst h1; subst h2; exact ha
  | succ i => simp at h1
 ·have hk : m.Kind = 4 ∨ m.Kind = 5 ∨ m.Kind = 6 ∨ m.Kind = 7 := by omega
  obtain ⟨hg, he⟩ := hv
  have z0 : v.Kind = 0 → v = D0 := fun e => by
   obtain ⟨vk, vn, vs⟩ := v
   simp only [good] at hg
   simp only [D0, yac.mk.injEq]
   grind
  rcases hk with hk | hk | hk | hk
  ·have hka : k = 0 ∨ k = 1 := by revert ht; simp only [sUn, hk, yd5]; grind
   by_cases q0 : v.Kind = 0
   ·have := z0 q0
    subst this
    simp [hk, hl, cnd, sEU, sNot, v6, D0]
   ·have q1 : v.Kind = 1 := by rcases hka with rfl | rfl <;> omega
    have hN : (v.N = 0 ∨ v.N = 1) /\ v.S = [] := by unfold good at hg; grind
    obtain ⟨vk, vn, vs⟩ := v
    simp only at q1 hN
    obtain ⟨hN, rfl⟩ := hN
    subst q1
    rcases hN with rfl | rfl
    ·simp [hk, hl, cnd, sEU, sNot, v6]; rfl
    ·simp [hk, hl, cnd, sEU, sNot, v6]; rfl
  ·have hka : k = 0 ∨ k = 2 := by revert ht; simp only [sUn, hk, yd5]; grind
   by_cases q0 : v.Kind = 0
   ·have := z0 q0
    subst this
    simp [hk, hl, cnd, sEU, sNeg, v6, D0]
   ·have q2 : v.Kind = 2 := by rcases hka with rfl | rfl <;> omega
    have hd := pDo6 (op := 8) (yoj (k := 2) (by omega) (by omega)) hg
    rw [yxA hg q2] at hd
    have hk0 : (v6 v).Kind ≠ 0 := q0
    simp [hk, hl, cnd, sEU, hk0]
    exact hd
  ·have e : (v6 v).Kind = v.Kind := rfl
   by_cases q0 : v.Kind = 0
   ·simp [hk, hl, cnd, sEU, e, q0, v6]
   ·simp [hk, hl, cnd, sEU, e, q0, v6]
  ·have e : (v6 v).Kind = v.Kind := rfl
   by_cases q0 : v.Kind = 0
   ·simp [hk, hl, cnd, sEU, e, q0, v6]
   ·simp [hk, hl, cnd, sEU, e, q0, v6]
end Go.Proofs.Ytkfingiebkgleaa
end
noncomputable section
namespace Go.Proofs.Ytkfingiebkgleaa
open Go.AV Go.RowKit
def Snd (m : E6) (l : List Fd) (ag : Bool) : Prop := ∃ k f, yao (told m) l ag k f /\ yau m (l.map rf) ag k f /\ (0 <= k /\ k <= 3) /\ (f = 0 -> ra m = [] -> ∀ row, Row l row -> ∃ v e, yar (told m) l row v e /\ yav m (l.map rf) (row.map v6) (v6 v) e /\ (e = 0 -> has v k) /\ (e ≠ 0 -> (e = 8 ∨ e = 9) /\ v = D0))
theorem yyC {kd k : Int} (h : kd = 4 ∨ kd = 5 ∨ kd = 6 ∨ kd = 7) : 0 ≤ (sUn kd k).1 ∧ (sUn kd k).1 ≤ 3 := by
 unfold sUn yd5; grind
theorem yrW (op a b : Int) : 0 ≤ (ya0 op a b).1 ∧ (ya0 op a b).1 ≤ 3 := by
 unfold ya0; grind
theorem yx1 {op k : Int} (h : 0 ≤ k ∧ k ≤ 3) : 0 ≤ (sAg op k).1 ∧ (sAg op k).1 ≤ 3 := by
 unfold sAg yd5; grind
theorem ywA {kd k : Int} {v : V} (h : kd = 4 ∨ kd = 5 ∨ kd = 6 ∨ kd = 7) (hv : has v k) (ht : (sUn kd k).2 = 0) : ((sEU kd v).2 = 0 → has (sEU kd v).1 (sUn kd k).1) ∧ ((sEU kd v).2 ≠ 0 → ((sEU kd v).2 = 8 ∨ (sEU kd v).2 = 9) ∧ (sEU kd v).1 = D0) := by
 rcases h with rfl | rfl | rfl | rfl
 ·have hka : k = 0 ∨ k = 1 := by revert ht; simp only [sUn, yd5]; grind
  have e1 : (sUn 4 k).1 = 1 := by simp only [sUn, yd5]; grind
  obtain ⟨a1, a2, _⟩ := yts hv hka
  rw [e1]
  exact ⟨fun _ => a2, fun c => absurd a1 c⟩
 ·have hka : k = 0 ∨ k = 2 := by revert ht; simp only [sUn, yd5]; grind
  have e1 : (sUn 5 k).1 = 2 := by simp only [sUn, yd5]; grind
  rw [e1]
  show ((sNeg v).2 = 0 -> has (sNeg v).1 2) /\ ((sNeg v).2 ≠ 0 -> ((sNeg v).2 = 8 ∨ (sNeg v).2 = 9) /\ (sNeg v).1 = D0)
  rcases ytj hv hka with r | r
  ·refine ⟨fun c => by omega, fun _ => ⟨.inl r, ?_⟩⟩
   revert r
   unfold sNeg D0
   grind
  ·exact ⟨fun _ => r.2.1, fun c => absurd r.1 c⟩
 ·exact ⟨fun _ => hasB _, fun c => absurd rfl c⟩
 ·exact ⟨fun _ => hasB _, fun c => absurd rfl c⟩
theorem OkE.snd {m : E6} (h : OkE m) {l : List Fd} (hf : FOk l) (hl' : l.length ≤ 1000) (ag : Bool) : Snd m l ag := by
 have D0' : ∀ {k : Int}, has D0 k := ⟨.inl ⟨rfl, rfl, rfl⟩, .inr rfl⟩
 induction h with
 | lit m h hl hv =>
   have tl : (told m).L = [] := by rw [ygd, hl]; rfl
   have t := tLit (x := told m) (l := l) (ag := ag) (by rw [yhB]; exact h) tl
   rw [yuA] at t
   refine ⟨_, 0, t, rLit h hl, yxp hv, fun _ _ row _ => ?_⟩
   have e := eLit (x := told m) (l := l) (row := row) (by rw [yhB]; exact h) tl
   rw [yuA] at e
   exact ⟨_, 0, e, yyE h hl, fun _ => ⟨hv, .inl rfl⟩, fun c => absurd rfl c⟩
 | col m h hl =>
   have tl : (told m).L = [] := by rw [ygd, hl]; rfl
   have tk : (told m).Kind = 2 := by rw [yhB]; exact h
   refine ⟨_, _, tCol tk tl, rCol h hl hl', ?_, fun c _ row hr => ?_⟩
   ·unfold sCol
    split
    ·rename_i c
     obtain ⟨q1, q2⟩ := yhg c
     have hi : (ycM l (told m)).1.toNat < l.length := by omega
     have := hf _ (List.getElem_mem hi)
     simp only [List.getElem?_eq_getElem hi, Option.map_some, Option.getD_some]
     omega
    ·simp
   ·have hff : (ycM l (told m)).2 = 0 := by unfold sCol at c; split at c; assumption; exact c
    obtain ⟨q1, q2⟩ := yhg hff
    have hi : (ycM l (told m)).1.toNat < l.length := by omega
    have hj : (ycM l (told m)).1.toNat < row.length := by rw [hr.1]; exact hi
    have hv := List.getElem?_eq_getElem hj
    refine ⟨_, 0, eCol tk tl hff hv, yyj h hl hl' hff hv, fun _ => ?_, fun c => absurd rfl c⟩
    have := hr.2 _ _ _ (List.getElem?_eq_getElem hi) hv
    have e1 : (sCol l (told m)).1 = l[(ycM l (told m)).1.toNat].Kind := by simp [sCol, hff, hi]
    rw [e1]; exact this
 | bin m a b h hl h1 h14 _ _ iha ihb =>
   obtain ⟨ka, fa, a1, a2, a3, a4⟩ := iha
   obtain ⟨kb, fb, b1, b2, b3, b4⟩ := ihb
   have tl : (told m).L = [told a, told b] := by rw [ygd, hl]; rfl
   have tk : (told m).Kind = 3 := by rw [yhB]; exact h
   by_cases hfa : fa = 0
   ·subst hfa
    by_cases hfb : fb = 0
    ·subst hfb
     have t := tBin tk tl a1 b1
     rw [yq3] at t
     refine ⟨_, _, t, rBin h h1 h14 hl a3.1 a3.2 b3.1 b3.2 a2 b2, yrW _ _ _, fun c hra row hr => ?_⟩
     rw [yrd, hl, if_neg (by omega)] at hra
     simp only [ras, List.nil_append, List.append_nil, List.append_eq_nil_iff] at hra
     obtain ⟨u, e, u1, u2, u3, u4⟩ := a4 rfl hra.1 row hr
     by_cases he : e = 0
     ·subst he
      obtain ⟨w, e', w1, w2, w3, w4⟩ := b4 rfl hra.2 row hr
      by_cases he' : e' = 0
      ·subst he'
       have hu := u3 rfl
       have hw := w3 rfl
       have d := pDo (op := m.Op) (yrj hu.1) (yrj hw.1) (Nat.le_trans (yoH hu.1) (by omega)) (Nat.le_trans (yoH hw.1) (by omega))
       have d6 := pDo6 (op := m.Op) hu.1 hw.1
       obtain ⟨x1, x2, x3⟩ := do_e (a := u) (b := w) h1 h14
       have hfit := ysp h1 h14 hu hw c
       have n5 : (sDo m.Op u w).2 ≠ 5 := fun q => by rw [x1.1 q] at hfit; cases hfit
       refine ⟨_, _, eBin tk tl u1 w1 (by rw [yq3]; exact d), yyJ h hl u2 w2 d6, fun q => ywf h1 h14 hu hw c q, fun q => ⟨?_, x3 q⟩⟩
       rcases x2 n5 with r | r
       ·exact absurd r q
       ·exact r
      ·obtain ⟨y1, rfl⟩ := w4 he'
       exact ⟨D0, e', yxv tl u1 he' w1, rvF2 hl u2 he' w2, fun q => absurd q he', fun _ => ⟨y1, rfl⟩⟩
     ·obtain ⟨y1, rfl⟩ := u4 he
      exact ⟨D0, e, yxc tl he u1, rvF1 (by simp) hl he u2, fun q => absurd q he, fun _ => ⟨y1, rfl⟩⟩
    ·exact ⟨0, fb, ywv tk tl a1 hfb b1, rTF2 (.inl (by omega)) hl a2 hfb b2, by omega, fun c => absurd c hfb⟩
   ·exact ⟨0, fa, yw3 tk tl hfa a1, rTF1 (.inl (by omega)) (by simp) hl hfa a2, by omega, fun c => absurd c hfa⟩
 | un m a h h' hl _ iha =>
   obtain ⟨ka, fa, a1, a2, a3, a4⟩ := iha
   have tl : (told m).L = [told a] := by rw [ygd, hl]; rfl
   have t4 : 4 <= (told m).Kind := by rw [yhB]; exact h
   have t7 : (told m).Kind <= 7 := by rw [yhB]; exact h'
   have hk : m.Kind = 4 ∨ m.Kind = 5 ∨ m.Kind = 6 ∨ m.Kind = 7 := by omega
   by_cases hfa : fa = 0
   ·subst hfa
    have t := tUn t4 t7 tl a1
    rw [yhB] at t
    refine ⟨_, _, t, rUn h h' hl a3.1 a3.2 a2, yyC hk, fun c hra row hr => ?_⟩
    rw [yrd, hl, if_neg (by omega)] at hra
    simp only [ras, List.nil_append, List.append_nil] at hra
    obtain ⟨u, e, u1, u2, u3, u4⟩ := a4 rfl hra row hr
    by_cases he : e = 0
    ·subst he
     have hu := u3 rfl
     have ev := eUn t4 t7 tl u1
     rw [yhB] at ev
     obtain ⟨z1, z2⟩ := ywA hk hu c
     exact ⟨_, _, ev, rvUn h h' hl hu c u2, z1, z2⟩
    ·obtain ⟨y1, rfl⟩ := u4 he
     exact ⟨D0, e, eUnF tl he u1, rvF1 (by simp) hl he u2, fun q => absurd q he, fun _ => ⟨y1, rfl⟩⟩
   ·exact ⟨0, fa, tUnF t4 t7 tl hfa a1, rTF1 (.inl (by omega)) (by simp) hl hfa a2, by omega, fun c => absurd c hfa⟩
 | agg0 m h ho hl =>
   have tl : (told m).L = [] := by rw [ygd, hl]; rfl
   have tk : (told m).Kind = 8 := by rw [yhB]; exact h
   have nr : ra m = [] -> False := fun c => by rw [yrd, if_pos h] at c; simp at c
   cases ag with
   | false => exact ⟨0, 4, yxd tk, yxQ h, by omega, fun c => by omega⟩
   | true => exact ⟨2, 0, tAg0 tk (by rw [yq3]; exact ho) tl, rAg0 h ho hl, by omega, fun _ c => (nr c).elim⟩
 | agg1 m a h hl _ iha =>
   have tl : (told m).L = [told a] := by rw [ygd, hl]; rfl
   have tk : (told m).Kind = 8 := by rw [yhB]; exact h
   have nr : ra m = [] -> False := fun c => by rw [yrd, if_pos h] at c; simp at c
   cases ag with
   | false => exact ⟨0, 4, yxd tk, yxQ h, by omega, fun c => by omega⟩
   | true =>
     obtain ⟨ka, fa, a1, a2, a3, a4⟩ := iha
     by_cases hfa : fa = 0
     ·subst hfa
      have t := tAg tk tl a1
      rw [yq3] at t
      exact ⟨_, _, t, rAg h hl a3.1 a3.2 a2, yx1 a3, fun _ c => (nr c).elim⟩
     ·exact ⟨0, fa, tAgF tl hfa a1, rTF1 (.inr rfl) (by simp) hl hfa a2, by omega, fun c => absurd c hfa⟩
end Go.Proofs.Ytkfingiebkgleaa
end
noncomputable section
namespace Go.Proofs.Ytkfingiebkgleaa
open Go.AV Go.RowKit
theorem yyL {m : E6} (h : WF m) : ∀ y ∈ ra m, WF y := by
 induction h with
 | mk m h hn hs ih =>
   intro y hy
   rw [yrd, yob] at hy
   rcases List.mem_append.1 hy with hy | hy
   ·split at hy
    ·simp only [List.mem_singleton] at hy
     subst hy; exact .mk _ h hn hs
    ·cases hy
   ·obtain ⟨l, h1, h2⟩ := List.mem_flatten.1 hy
    obtain ⟨z, h3, rfl⟩ := List.mem_map.1 h1
    exact ih z h3 y h2
theorem yrq {v : V} (h : good v) : yst v = true := by
 obtain ⟨k, n, s⟩ := v
 unfold good at h
 simp only at h
 rcases h with ⟨rfl, rfl, rfl⟩ | ⟨rfl, h, rfl⟩ | ⟨rfl, _, rfl⟩ | ⟨rfl, rfl, h⟩
 ·rfl
 ·rcases h with rfl | rfl <;> rfl
 ·rfl
 ·simp [yst]; omega
theorem ykw {a0 : List Pt} {a1 : List Cl} {a2 : Bool} (h0 : ∀ p ∈ a0, PtOk p) (h1 : ∀ p ∈ a1, ClOk p) : yaO a0 a1 a2 true := by
 apply yiD
 refine ⟨true, yuS, fun e => (by cases e), fun _ hlen => ⟨by split <;> omega, ?_⟩⟩
 have hs : ∀ p ∈ ym1 a0 0 (if (30 : Int) < (a0.length : Int) then 30 else (a0.length : Int)), PtOk p := fun p hp => h0 p (List.mem_of_mem_drop (List.mem_of_mem_take hp))
 obtain ⟨m, nx, b1, b2, b3, _⟩ := ywg hs 25 0 (by omega) (by omega) 0 (by omega) (by omega)
 refine ⟨m, nx, b1, ?_⟩
 rw [e_ref]
 obtain ⟨g, g1, g2⟩ := yx8 b2 (by omega)
 refine ⟨g, g1, fun _ => rfl, fun hg => ?_⟩
 obtain ⟨ok, d20⟩ := g2 (by simpa using hg)
 obtain ⟨r0, r2, q1, q2, q3, q4⟩ := pRow h1
 obtain ⟨k, f, t1, t2, t3, t4⟩ := ok.snd q3 (by omega) a2
 have w1 := yuc ok
 have w2 := p20 d20
 have main : ya3 true m (told m) r0 (r0.map rf) r2 (r2.map v6) k f false := by
  refine ⟨fun c => (by cases c), fun _ => ⟨(ra m).map told, ?_, ra m, by rw [e_ref]; exact pAgg (dep m) ok (Nat.le_refl _) d20, fun hl _ => ⟨fun c => (by simp at c), fun _ => ?_⟩⟩⟩
  ·rw [e_expr]
   exact ⟨by omega, (ysd m).symm⟩
  refine lp1 (fun (i : Int) => 0 <= i /\ i <= (ra m).length) (fun (i : Int) => (ra m).length - i.toNat) ?_ ⟨by omega, by omega⟩
  intro X2 i ⟨i0, i1⟩ hX
  have hm : maxLen = 9223372036854775807 := rfl
  rw [List.length_map] at hl
  refine fun _ => ⟨fun hlt => ?_, fun hge => ?_⟩
  ·have hlt : i < (ra m).length := by simpa using hlt
   have hi : i.toNat < (ra m).length := by omega
   refine ⟨i0, by rw [List.length_map]; exact hlt, told (ra m)[i.toNat], by simp [hi], i0, hlt, (ra m)[i.toNat], by simp [hi], told (ra m)[i.toNat], ?_, true, ?_, fun c => (by cases c), fun _ => ?_⟩
   ·rw [e_ref]; exact ywb (yyL b2 _ (List.getElem_mem hi))
   ·rw [e_expr]; exact yyY _ _ (Nat.le_refl _)
   ·rw [wrap64 (by omega) (by omega)]
    exact hX _ ⟨by omega, by omega⟩ (by omega)
  ·refine ⟨fun c => ⟨fun _ => rfl, fun c => (by cases c)⟩, fun c _ => ?_⟩
   have hf : f = 0 := by simpa using c
   refine ⟨fun _ => rfl, fun hz => ?_⟩
   have hz : ra m = [] := by
    have : ¬ (0 : Int) < ((ra m).map told).length := by simpa using hz
    rw [List.length_map] at this
    exact List.eq_nil_of_length_eq_zero (by omega)
   obtain ⟨v, e, e1, e2, e3, e4⟩ := t4 hf hz r2 q2
   have j5 : yak true true := rfl
   have hne : (!((v.Kind == (v6 v).Kind) && ((v.N == (v6 v).N) && ((v.S == (v6 v).S) && true)))) = false := by simp [v6]
   refine ⟨v, e, by rw [e_expr]; exact e1, v6 v, e, by rw [e_ref]; exact e2, fun c => (by simp at c), fun _ => ?_⟩
   rw [hne]
   have tail : e = 0 → cnd (e == 0) (cnd (v.Kind == 0) (∃ z, yap v z ∧ yak true z) (cnd (v.Kind == k) (∃ z, yap v z ∧ yak true z) (cnd (k == 0) (∃ z, yap v z ∧ yak true z) (yak true false)))) (yak true false) := by
    intro he
    obtain ⟨hg, hk⟩ := e3 he
    have gg : ∃ z, yap v z /\ yak true z := ⟨yst v, yxT v, yrq hg⟩
    refine ⟨fun _ => ⟨fun _ => gg, fun c1 => ⟨fun _ => gg, fun c2 => ?_⟩⟩, fun c => absurd he (by simpa using c)⟩
    have c1 : v.Kind ≠ 0 := by simpa using c1
    have c2 : v.Kind ≠ k := by simpa using c2
    rcases hk with hk | hk
    ·exact absurd hk c2
    ·exact absurd hk c1
   refine ⟨fun c => (by cases c), fun _ => ⟨fun he => ?_, fun he => tail (by simpa using he)⟩⟩
   have he : e ≠ 0 := by simpa using he
   refine ⟨fun _ => j5, fun c8 => ⟨fun _ => j5, fun c9 => ?_⟩⟩
   have c8 : e ≠ 8 := by simpa using c8
   have c9 : e ≠ 9 := by simpa using c9
   rcases (e4 he).1 with r | r
   ·exact absurd r c8
   ·exact absurd r c9
 refine ⟨told m, ywb b2, r0, r0.map rf, r2, r2.map v6, q1, k, f, by rw [e_expr]; exact t1, k, f, t2, fun c => (by simp at c), fun _ => ?_⟩
 have : (!(f == f)) = false := by simp
 rw [this]; exact main
theorem yk1 : yl1 := by
 intro a0 a1 a2 h0 h1 _
 refine ykw (fun p hp => ?_) (fun p hp => ?_)
 ·have := h0.2 p hp
  simp only [ydw, wfu8, wf64] at this
  unfold PtOk Rg
  omega
 ·have := h1.2 p hp
  simp only [ydD, wfu8, wf64] at this
  unfold ClOk Rg
  omega
end Go.Proofs.Ytkfingiebkgleaa
end
