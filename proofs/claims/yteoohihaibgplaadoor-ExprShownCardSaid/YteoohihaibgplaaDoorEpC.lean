import Derived.Test.YteoohihaibgplaaDoorEpB
namespace Go.Proofs.YteoohihaibgplaaDoor
open Go.AV Go.RowKit

/-! ### the program's expressions -/
inductive WX : X → Prop
  | mk (e : X) (h : e.L.length ≤ 3) (hn : Rg e.V.N) (hs : ∀ y ∈ e.L, WX y) : WX e
mutual
def dX : X → Nat
  | .mk _ _ _ _ _ L => 1 + dXs L
def dXs : List X → Nat
  | [] => 0
  | x :: r => max (dX x) (dXs r)
end
theorem dXs_app (x : X) : ∀ (l : List X), dXs (l ++ [x]) = max (dXs l) (dX x)
  | [] => by simp [dXs]
  | y :: l => by simp only [List.cons_append, dXs, dXs_app x l]; omega
theorem dX_eq (m : X) : dX m = 1 + dXs m.L := by cases m; simp [dX, T_expr_Expr.L]
theorem dXs_mem {x : X} : ∀ {l : List X}, x ∈ l → dX x ≤ dXs l
  | y :: l, h => by
    simp only [dXs]
    rcases List.mem_cons.1 h with rfl | h
    · omega
    · have := dXs_mem h; omega
theorem pDepthX {e : X} (h : WX e) : dX e ≤ 1000 → expr_Depth_o e (dX e) := by
  induction h with
  | mk e h hn hs ih =>
    intro hd Xr hXr
    apply hXr
    apply expr_Depth_Bm
    intro _
    refine lp2 (fun (d i : Int) => ∃ k : Nat, i = k ∧ k ≤ e.L.length ∧ d = (dXs (e.L.take k) : Nat)) (fun _ (i : Int) => e.L.length - i.toNat) ?_ ⟨0, rfl, by omega, by simp [dXs]⟩
    rintro X0 d i ⟨k, rfl, h1, rfl⟩ hX
    rw [dX_eq] at hd
    refine ⟨fun c => ?_, fun c => ?_⟩
    · have c : (k : Int) < e.L.length := of_decide_eq_true c
      have hk : k < e.L.length := by omega
      have hm : e.L[k] ∈ e.L := List.getElem_mem hk
      have hdm := dXs_mem hm
      refine ⟨by omega, c, _, gAt hk, dX e.L[k], ?_, ?_⟩
      · rw [e_expr]; exact ih _ hm (by omega) Xr hXr
      · rw [w1 (by omega)]
        refine hX _ _ ⟨k + 1, rfl, by omega, ?_⟩ (by omega)
        rw [List.take_succ_eq_append_getElem hk, dXs_app]
        split <;> omega
    · have c : ¬ (k : Int) < e.L.length := of_decide_eq_false c
      rw [List.take_of_length_le (by omega), dX_eq, wrap64 (by omega) (by omega)]; omega
/-! ### names -/
def isS (c : UInt8) : Bool := decide (97 ≤ c.toNat) && decide (c.toNat ≤ 122)
def isD (c : UInt8) : Bool := decide (48 ≤ c.toNat) && decide (c.toNat ≤ 57)
def isR (c : UInt8) : Bool := isS c || (isD c || c.toNat == 95)
theorem pSmall (c : UInt8) : lex_small_o (c.toNat : Int) (isS c) := by
  unfold lex_small_o isS
  refine ⟨fun h => ?_, fun h => ?_⟩
  · have h : (97 : Int) ≤ c.toNat := of_decide_eq_true h
    rw [decide_eq_true (show 97 ≤ c.toNat by omega), Bool.true_and, decide_eq_decide]; omega
  · have h : ¬ (97 : Int) ≤ c.toNat := of_decide_eq_false h
    rw [decide_eq_false (show ¬ 97 ≤ c.toNat by omega)]; rfl
theorem pDigit (c : UInt8) : lex_digit_o (c.toNat : Int) (isD c) := by
  unfold lex_digit_o isD
  refine ⟨fun h => ?_, fun h => ?_⟩
  · have h : (48 : Int) ≤ c.toNat := of_decide_eq_true h
    rw [decide_eq_true (show 48 ≤ c.toNat by omega), Bool.true_and, decide_eq_decide]; omega
  · have h : ¬ (48 : Int) ≤ c.toNat := of_decide_eq_false h
    rw [decide_eq_false (show ¬ 48 ≤ c.toNat by omega)]; rfl
theorem pRest (c : UInt8) : lex_rest_o (c.toNat : Int) (isR c) := by
  refine ⟨_, pSmall c, fun h => ?_, fun h => ⟨_, pDigit c, fun k => ?_, fun k => ?_⟩⟩
  · simp [isR, h]
  · simp [isR, k]
  · unfold isR
    rw [h, k, Bool.eq_iff_iff]; simp; omega
theorem pSpan (s : Str) (h : s.length ≤ 100000) : lex_span_o s lex_rest_o (s.takeWhile isR) := by
  apply lex_span_i
  refine lp1 (fun (x : Int) => ∃ k : Nat, x = k ∧ k ≤ s.length ∧ s.takeWhile isR = s.take k ++ (s.drop k).takeWhile isR) (fun (x : Int) => s.length - x.toNat) ?_ ⟨0, rfl, by omega, by simp⟩
  rintro X0 x ⟨k, rfl, h1, he⟩ hX
  have stop : (s.drop k).takeWhile isR = [] → lex_span_J2i X0 s (s.takeWhile isR) k false := by
    intro hw
    refine ⟨fun q => (by cases q), fun _ => ⟨⟨by omega, by omega, by omega⟩, ?_⟩⟩
    rw [he, hw, Int.toNat_natCast]; simp
  simp only [lex_span_L1i]
  refine ⟨fun c => ?_, fun c => ?_⟩
  · have c : (k : Int) < s.length := of_decide_eq_true c
    have hk : k < s.length := by omega
    refine ⟨⟨by omega, c⟩, isR s[k], by rw [bAt_nat hk]; exact pRest _, ?_⟩
    cases hr : isR s[k] with
    | true =>
      refine ⟨fun _ => ?_, fun q => (by cases q)⟩
      rw [w1 (by omega)]
      refine hX _ ⟨k + 1, rfl, by omega, ?_⟩ (by omega)
      rw [he, List.drop_eq_getElem_cons hk, List.takeWhile_cons, hr, List.take_succ_eq_append_getElem hk, List.append_assoc]
      rfl
    | false =>
      refine stop ?_
      rw [List.drop_eq_getElem_cons hk, List.takeWhile_cons, hr]; rfl
  · have c : ¬ (k : Int) < s.length := of_decide_eq_false c
    refine stop ?_
    rw [List.drop_of_length_le (by omega)]; rfl
def sLex (s : Str) : Bool := match s with
  | [] => false
  | c :: r => decide ((c :: r).length ≤ 16) && (isS c && (c :: r).all isR)
theorem tw_all {s : Str} : (s.takeWhile isR == s) = s.all isR := by
  induction s with
  | nil => rfl
  | cons c s ih =>
    rw [List.takeWhile_cons]
    cases h : isR c with
    | true => simp [h, ← ih]
    | false => simp [h]
theorem pLex (s : Str) : lex_Good_o s (sLex s) := by
  cases s with
  | nil => exact ⟨fun q => (by simp at q), fun _ => rfl⟩
  | cons c r =>
    refine ⟨fun _ => ⟨fun h => ⟨⟨by omega, by simp⟩, _, pSmall c, fun k => ⟨_, pSpan (c :: r) ?_, ?_⟩, fun k => ?_⟩, fun h => ?_⟩, fun q => (by simp at q)⟩
    · have h : ((c :: r).length : Int) ≤ 16 := of_decide_eq_true h
      omega
    · have h : ((c :: r).length : Int) ≤ 16 := of_decide_eq_true h
      rw [tw_all]
      simp only [sLex, k, Bool.true_and]
      rw [decide_eq_true (show (c :: r).length ≤ 16 by omega), Bool.true_and]
    · simp only [sLex, k, Bool.false_and, Bool.and_false]
    · have h : ¬ ((c :: r).length : Int) ≤ 16 := of_decide_eq_false h
      simp only [sLex]
      rw [decide_eq_false (show ¬ (c :: r).length ≤ 16 by omega)]; rfl
/-! ### which expressions may be -/
def sParts (e : X) : Bool := if e.Kind = 1 ∨ e.Kind = 2 then e.L.length == 0 else if e.Kind = 3 then e.L.length == 2 else if e.Kind = 8 then e.L.length == 1 || (e.Op == 1 && e.L.length == 0) else decide (4 ≤ e.Kind) && (decide (e.Kind ≤ 7) && e.L.length == 1)
theorem nat_beq (n : Nat) (k : Nat) : (((n : Int) == (k : Int)) = (n == k)) := by
  rw [Bool.eq_iff_iff]; simp; omega
theorem pParts (e : X) : expr_Expr_parts_o e (sParts e) := by
  apply expr_Expr_parts_i
  have n0 : ((e.L.length : Int) == 0) = (e.L.length == 0) := nat_beq e.L.length 0
  have n1 : ((e.L.length : Int) == 1) = (e.L.length == 1) := nat_beq e.L.length 1
  have n2 : ((e.L.length : Int) == 2) = (e.L.length == 2) := nat_beq e.L.length 2
  simp only [expr_Expr_parts_oi, expr_Expr_parts_J1i, n0, n1, n2]
  unfold sParts
  clear n0 n1 n2
  generalize e.L.length = n
  grind [cnd]
def sBare (e : X) : Bool := if e.Kind = 1 then e.Op == 0 && (e.Table == [] && e.Name == []) else if e.Kind = 2 then e.Op == 0 && eqV e.V D0 else if e.Kind = 3 ∨ e.Kind = 8 then eqV e.V D0 && (e.Table == [] && e.Name == []) else
  e.Op == 0 && (eqV e.V D0 && (e.Table == [] && e.Name == []))
theorem J1b {x1 x2 x3 x4 : Int} {x5 x6 x7 : Str} {x8 : List X} {x9 x10 x11 x12 : Int} {x13 x14 x15 : Str} {x16 : List X} {r : Bool} (h : r = ((x10 == x2) && (((x11 == x3) && ((x12 == x4) && ((x13 == x5) && true))) && ((x14 == x6) && (x15 == x7))))) : expr_Expr_bare_J1i r x1 x2 x3 x4 x5 x6 x7 x8 x9 x10 x11 x12 x13 x14 x15 x16 := by
  unfold expr_Expr_bare_J1i
  subst h
  generalize (x10 == x2) = a
  generalize ((x11 == x3) && ((x12 == x4) && ((x13 == x5) && true))) = b
  generalize (x14 == x6) = c
  cases a <;> cases b <;> cases c <;> simp [cnd]
theorem c1 {a b : Int} : (a == b) = (b == a) := by rw [Bool.eq_iff_iff]; simp; exact eq_comm
theorem c2 {a b : Str} : (a == b) = (b == a) := by rw [Bool.eq_iff_iff]; simp; exact eq_comm
theorem pBare (e : X) : expr_Expr_bare_o e (sBare e) := by
  apply expr_Expr_bare_i
  simp only [expr_Expr_bare_oi, expr_Expr_bare_J2i]
  have ev : ∀ v : V, ((0 : Int) == v.Kind && ((0 : Int) == v.N && (([] : Str) == v.S && true))) = eqV v D0 := fun v => by
    unfold eqV D0
    rw [c1 (a := 0), c1 (a := 0) (b := v.N), c2 (a := [])]
  have s0 : ∀ v : V, (v.Kind == v.Kind && (v.N == v.N && (v.S == v.S && true))) = true := fun v => by simp
  refine ⟨fun k => J1b ?_, fun k1 => ⟨fun k => J1b ?_, fun k2 => ⟨fun k => ⟨fun _ => J1b ?_, fun q => ?_⟩, fun k3 => ⟨fun k => J1b ?_, fun k => J1b ?_⟩⟩⟩⟩
  · have k : e.Kind = 1 := by simpa using k
    rw [s0, sBare, if_pos k, c1 (a := 0), c2 (a := []) (b := e.Table), c2 (a := []) (b := e.Name)]; simp
  · have k : e.Kind = 2 := by simpa using k
    rw [ev, sBare, if_neg (by omega), if_pos k, c1 (a := 0)]; simp
  · have k : e.Kind = 3 := by simpa using k
    rw [ev, sBare, if_neg (by omega), if_neg (by omega), if_pos (.inl k), c2 (a := []) (b := e.Table), c2 (a := []) (b := e.Name)]; simp
  · rw [k] at q; cases q
  · have k : e.Kind = 8 := by simpa using k
    rw [ev, sBare, if_neg (by omega), if_neg (by omega), if_pos (.inr k), c2 (a := []) (b := e.Table), c2 (a := []) (b := e.Name)]; simp
  · have k : ¬ e.Kind = 8 := by simpa using k
    have k1 : ¬ e.Kind = 1 := by simpa using k1
    have k2 : ¬ e.Kind = 2 := by simpa using k2
    have k3 : ¬ e.Kind = 3 := by simpa using k3
    rw [ev, sBare, if_neg k1, if_neg k2, if_neg (fun q => by rcases q with q | q; exact k3 q; exact k q), c1 (a := 0), c2 (a := []) (b := e.Table), c2 (a := []) (b := e.Name)]
def sField (e : X) : Bool := if e.Kind = 1 then sGood e.V && (!(e.V.Kind == 2) || decide (0 ≤ e.V.N)) else if e.Kind = 2 then sLex e.Name && (e.Table == [] || sLex e.Table) else if e.Kind = 3 then decide (1 ≤ e.Op) && decide (e.Op ≤ 14) else if e.Kind = 8 then decide (1 ≤ e.Op) && decide (e.Op ≤ 4) else true
theorem pField (e : X) : expr_Expr_field_o e (sField e) := by
  unfold expr_Expr_field_o sField
  have g := pGoodV ⟨e.V.Kind, e.V.N, e.V.S⟩
  have l1 := pLex e.Name
  have l2 := pLex e.Table
  have gg : sGood ⟨e.V.Kind, e.V.N, e.V.S⟩ = sGood e.V := rfl
  rw [gg] at g
  generalize sGood e.V = z1 at *
  generalize sLex e.Name = z2 at *
  generalize sLex e.Table = z3 at *
  refine ⟨fun k => ⟨_, g, fun a => ⟨fun b => ?_, fun b => ?_⟩, fun a => ?_⟩, fun k1 => ⟨fun k => ⟨_, l1, fun a => ⟨fun b => ?_, fun b => ⟨_, l2, ?_⟩⟩, fun a => ?_⟩, fun k2 => ⟨fun k => ⟨fun a => ?_, fun a => ?_⟩, fun k3 => ⟨fun k => ⟨fun a => ?_, fun a => ?_⟩, fun k8 => ?_⟩⟩⟩⟩ <;> simp only [beq_iff_eq, beq_eq_false_iff_ne, ne_eq] at * <;> simp_all <;> (intros; omega)
mutual
def gX : Bool → X → Bool
  | w, .mk k o v t n L => sParts (.mk k o v t n L) && (sBare (.mk k o v t n L) && (sField (.mk k o v t n L) && (!(w && k == 8) && gXs (w || k == 8) L)))
def gXs : Bool → List X → Bool
  | _, [] => true
  | w, x :: r => gX w x && gXs w r
end
theorem gX_eq (w : Bool) (e : X) : gX w e = (sParts e && (sBare e && (sField e && (!(w && e.Kind == 8) && gXs (w || e.Kind == 8) e.L)))) := by cases e; rfl
theorem gXs_all (w : Bool) : ∀ l : List X, gXs w l = l.all (gX w)
  | [] => rfl
  | x :: r => by simp only [gXs, List.all_cons, gXs_all w r]
theorem pGoodE {e : X} (h : WX e) : ∀ w, expr_Expr_good_o e w (gX w e) := by
  induction h with
  | mk e h hn hs ih =>
    intro w Xr hXr
    apply hXr
    apply expr_Expr_good_Bm
    have no : gX w e = false → expr_Expr_good_J1i Xr e w (gX w e) true := fun q => ⟨fun _ => q.symm, fun q => (by cases q)⟩
    refine ⟨sParts e, by rw [e_expr]; exact pParts e, fun a => no ?_, fun a => ⟨sBare e, by rw [e_expr]; exact pBare e, fun b => no ?_, fun b => ⟨sField e, by rw [e_expr]; exact pField e, fun c => no ?_, fun c => ?_⟩⟩⟩
    · have a : sParts e = false := by simpa using a
      rw [gX_eq, a]; rfl
    · have b : sBare e = false := by simpa using b
      rw [gX_eq, b]; simp
    · have c : sField e = false := by simpa using c
      rw [gX_eq, c]; simp
    · have a : sParts e = true := by simpa using a
      have b : sBare e = true := by simpa using b
      have c : sField e = true := by simpa using c
      have ge : gX w e = (!(w && e.Kind == 8) && gXs (w || e.Kind == 8) e.L) := by rw [gX_eq, a, b, c]; simp
      have main : (w && e.Kind == 8) = false → expr_Expr_good_J1i Xr e w (gX w e) false := by
        intro hw
        have ge : gX w e = e.L.all (gX (w || e.Kind == 8)) := by rw [ge, hw, gXs_all]; rfl
        refine ⟨fun q => (by cases q), fun _ _ => ?_⟩
        refine lp1 (fun (x : Int) => ∃ k : Nat, x = k ∧ k ≤ e.L.length ∧ (e.L.take k).all (gX (w || e.Kind == 8)) = true) (fun (x : Int) => e.L.length - x.toNat) ?_ ⟨0, rfl, by omega, rfl⟩
        rintro X0 x ⟨k, rfl, h1, he⟩ hX
        simp only [expr_Expr_good_L2i]
        refine ⟨fun d => ?_, fun d => ?_⟩
        · have d : (k : Int) < e.L.length := of_decide_eq_true d
          have hk : k < e.L.length := by omega
          have hm : e.L[k] ∈ e.L := List.getElem_mem hk
          have fin : ∀ z, z = gX (w || e.Kind == 8) e.L[k] → expr_Expr_good_J3i X0 (gX w e) k (!z) := by
            intro z hz
            refine ⟨fun q => ?_, fun q => ?_⟩
            · have q : z = false := by simpa using q
              rw [ge]
              symm
              rw [← Bool.not_eq_true]
              intro hall
              have := List.all_eq_true.1 hall _ hm
              rw [← hz, q] at this; cases this
            · have q : z = true := by simpa using q
              rw [w1 (by omega)]
              refine hX _ ⟨k + 1, rfl, by omega, ?_⟩ (by omega)
              rw [List.take_succ_eq_append_getElem hk, List.all_append, he]
              simp [← hz, q]
          refine ⟨by omega, d, _, gAt hk, fun q => ⟨gX true e.L[k], ?_, fin _ ?_⟩, fun q => ⟨gX (e.Kind == 8) e.L[k], ?_, fin _ ?_⟩⟩
          · rw [e_expr]; exact ih _ hm true Xr hXr
          · rw [q]; rfl
          · rw [e_expr]; exact ih _ hm (e.Kind == 8) Xr hXr
          · rw [q]; rfl
        · have d : ¬ (k : Int) < e.L.length := of_decide_eq_false d
          rw [List.take_of_length_le (by omega)] at he
          rw [ge, he]
      refine ⟨fun q => ?_, fun q => main (by rw [q]; rfl)⟩
      cases k8 : (e.Kind == 8) with
      | true => exact no (by rw [ge, q, k8]; rfl)
      | false => exact main (by rw [q, k8]; rfl)
theorem pGoodX {e : X} (h : WX e) (hd : dX e ≤ 1000) : expr_Good_o e (decide (dX e ≤ 20) && gX false e) := by
  refine ⟨dX e, by rw [e_expr]; exact pDepthX h hd, fun c => ⟨gX false e, by rw [e_expr]; exact pGoodE h false, ?_⟩, fun c => ?_⟩
  · have c : (dX e : Int) ≤ 20 := of_decide_eq_true c
    rw [decide_eq_true (show dX e ≤ 20 by omega)]; rfl
  · have c : ¬ (dX e : Int) ≤ 20 := of_decide_eq_false c
    rw [decide_eq_false (show ¬ dX e ≤ 20 by omega)]; rfl
end Go.Proofs.YteoohihaibgplaaDoor
