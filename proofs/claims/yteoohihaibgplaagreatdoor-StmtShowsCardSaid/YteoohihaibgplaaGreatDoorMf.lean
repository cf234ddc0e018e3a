/- General texts and own ones, joined: what the program computes, told of abstract states, and the laws of plain data. No condition. -/
import Derived.Test.YteoohihaibgplaaGreatDoorMe
import Derived.Test.YteoohihaibgplaaGreatDoorMb
noncomputable section
namespace Go.Proofs.YteoohihaibgplaaGreatDoor
open Go.AV Go.RowKit
inductive WX : X → Prop
 | mk (e : X) (h : e.L.length ≤ 3) (hn : Rg e.V.N) (hs : ∀ y ∈ e.L, WX y) : WX e
mutual
noncomputable def dX : X → Nat
 | .mk _ _ _ _ _ L => 1 + dXs L
noncomputable def dXs : List X → Nat
 | [] => 0
 | x :: r => max (dX x) (dXs r)
end
theorem ytF (x : X) : ∀ (l : List X), dXs (l ++ [x]) = max (dXs l) (dX x)
 | [] => by simp [dXs]
 | y :: l => by simp only [List.cons_append, dXs, ytF x l]; omega
theorem yo8 (m : X) : dX m = 1 + dXs m.L := by cases m; simp [dX, yab.L]
theorem ytg {x : X} : ∀ {l : List X}, x ∈ l → dX x ≤ dXs l
 | y :: l, h => by
   simp only [dXs]
   rcases List.mem_cons.1 h with rfl | h
   ·omega
   ·have := ytg h; omega
theorem yxr {e : X} (h : WX e) : dX e ≤ 1000 → ygI e (dX e) := by
 induction h with
 | mk e h hn hs ih =>
   intro hd Xr hXr
   apply hXr
   intro _
   refine lp2 (fun (d i : Int) => ∃ k : Nat, i = k ∧ k ≤ e.L.length ∧ d = (dXs (e.L.take k) : Nat)) (fun _ (i : Int) => e.L.length - i.toNat) ?_ ⟨0, rfl, by omega, by simp [dXs]⟩
   rintro X0 d i ⟨k, rfl, h1, rfl⟩ hX
   rw [yo8] at hd
   refine ⟨fun c => ?_, fun c => ?_⟩
   ·have c : (k : Int) < e.L.length := of_decide_eq_true c
    have hk : k < e.L.length := by omega
    have hm : e.L[k] ∈ e.L := List.getElem_mem hk
    have hdm := ytg hm
    refine ⟨by omega, c, _, gAt hk, dX e.L[k], ?_, ?_⟩
    ·rw [ybw]; exact ih _ hm (by omega) Xr hXr
    ·rw [w1 (by omega)]
     refine hX _ _ ⟨k + 1, rfl, by omega, ?_⟩ (by omega)
     rw [List.take_succ_eq_append_getElem hk, ytF]
     split <;> omega
   ·have c : ¬ (k : Int) < e.L.length := of_decide_eq_false c
    rw [List.take_of_length_le (by omega), yo8, wrap64 (by omega) (by omega)]; omega
noncomputable def isS (c : UInt8) : Bool := decide (97 ≤ c.toNat) && decide (c.toNat ≤ 122)
noncomputable def isD (c : UInt8) : Bool := decide (48 ≤ c.toNat) && decide (c.toNat ≤ 57)
noncomputable def isR (c : UInt8) : Bool := isS c || (isD c || c.toNat == 95)
theorem yv5 (c : UInt8) : ydm (c.toNat : Int) (isS c) := by
 unfold ydm isS
 refine ⟨fun h => ?_, fun h => ?_⟩
 ·have h : (97 : Int) ≤ c.toNat := of_decide_eq_true h
  rw [decide_eq_true (show 97 ≤ c.toNat by omega), Bool.true_and, decide_eq_decide]; omega
 ·have h : ¬ (97 : Int) ≤ c.toNat := of_decide_eq_false h
  rw [decide_eq_false (show ¬ 97 ≤ c.toNat by omega)]; rfl
theorem yyw (c : UInt8) : yem (c.toNat : Int) (isD c) := by
 unfold yem isD
 refine ⟨fun h => ?_, fun h => ?_⟩
 ·have h : (48 : Int) ≤ c.toNat := of_decide_eq_true h
  rw [decide_eq_true (show 48 ≤ c.toNat by omega), Bool.true_and, decide_eq_decide]; omega
 ·have h : ¬ (48 : Int) ≤ c.toNat := of_decide_eq_false h
  rw [decide_eq_false (show ¬ 48 ≤ c.toNat by omega)]; rfl
theorem yzE (c : UInt8) : ye6 (c.toNat : Int) (isR c) := by
 refine ⟨_, yv5 c, fun h => ?_, fun h => ⟨_, yyw c, fun k => ?_, fun k => ?_⟩⟩
 ·simp [isR, h]
 ·simp [isR, k]
 ·unfold isR
  rw [h, k, Bool.eq_iff_iff]; simp; omega
theorem yz8 (s : Str) (h : s.length ≤ 100000) : yg0 s ye6 (s.takeWhile isR) := by
 refine lp1 (fun (x : Int) => ∃ k : Nat, x = k ∧ k ≤ s.length ∧ s.takeWhile isR = s.take k ++ (s.drop k).takeWhile isR) (fun (x : Int) => s.length - x.toNat) ?_ ⟨0, rfl, by omega, by simp⟩
 rintro X0 x ⟨k, rfl, h1, he⟩ hX J2 hJ2
 have stop : (s.drop k).takeWhile isR = [] → J2 false := by
  intro hw
  refine hJ2 _ ⟨fun q => (by cases q), fun _ => ⟨⟨by omega, by omega, by omega⟩, ?_⟩⟩
  rw [he, hw, Int.toNat_natCast]; simp
 refine ⟨fun c => ?_, fun c => ?_⟩
 ·have c : (k : Int) < s.length := of_decide_eq_true c
  have hk : k < s.length := by omega
  refine ⟨⟨by omega, c⟩, isR s[k], by rw [yqv hk]; exact yzE _, ?_⟩
  cases hr : isR s[k] with
  | true =>
    refine hJ2 _ ⟨fun _ => ?_, fun q => (by cases q)⟩
    rw [w1 (by omega)]
    refine hX _ ⟨k + 1, rfl, by omega, ?_⟩ (by omega)
    rw [he, List.drop_eq_getElem_cons hk, List.takeWhile_cons, hr, List.take_succ_eq_append_getElem hk, List.append_assoc]
    rfl
  | false =>
    refine stop ?_
    rw [List.drop_eq_getElem_cons hk, List.takeWhile_cons, hr]; rfl
 ·have c : ¬ (k : Int) < s.length := of_decide_eq_false c
  refine stop ?_
  rw [List.drop_of_length_le (by omega)]; rfl
noncomputable def sLex (s : Str) : Bool := match s with
 | [] => false
 | c :: r => decide ((c :: r).length ≤ 16) && (isS c && (c :: r).all isR)
theorem yzf {s : Str} : (s.takeWhile isR == s) = s.all isR := by
 induction s with
 | nil => rfl
 | cons c s ih =>
   rw [List.takeWhile_cons]
   cases h : isR c with
   | true => simp [h, ← ih]
   | false => simp [h]
theorem pLex (s : Str) : yfl s (sLex s) := by
 cases s with
 | nil => exact ⟨fun q => (by simp at q), fun _ => rfl⟩
 | cons c r =>
   refine ⟨fun _ => ⟨fun h => ⟨⟨by omega, by simp⟩, _, yv5 c, fun k => ⟨_, yz8 (c :: r) ?_, ?_⟩, fun k => ?_⟩, fun h => ?_⟩, fun q => (by simp at q)⟩
   ·have h : ((c :: r).length : Int) ≤ 16 := of_decide_eq_true h
    omega
   ·have h : ((c :: r).length : Int) ≤ 16 := of_decide_eq_true h
    rw [yzf]
    simp only [sLex, k, Bool.true_and]
    rw [decide_eq_true (show (c :: r).length ≤ 16 by omega), Bool.true_and]
   ·simp only [sLex, k, Bool.false_and, Bool.and_false]
   ·have h : ¬ ((c :: r).length : Int) ≤ 16 := of_decide_eq_false h
    simp only [sLex]
    rw [decide_eq_false (show ¬ (c :: r).length ≤ 16 by omega)]; rfl
noncomputable def yie (e : X) : Bool := if e.Kind = 1 ∨ e.Kind = 2 then e.L.length == 0 else if e.Kind = 3 then e.L.length == 2 else if e.Kind = 8 then e.L.length == 1 || (e.Op == 1 && e.L.length == 0) else decide (4 ≤ e.Kind) && (decide (e.Kind ≤ 7) && e.L.length == 1)
theorem yj3 (n : Nat) (k : Nat) : (((n : Int) == (k : Int)) = (n == k)) := by
 rw [Bool.eq_iff_iff]; simp; omega
theorem yzd (e : X) : ycF e (yie e) := by
 intro J1 hJ1
 have n0 : ((e.L.length : Int) == 0) = (e.L.length == 0) := yj3 e.L.length 0
 have n1 : ((e.L.length : Int) == 1) = (e.L.length == 1) := yj3 e.L.length 1
 have n2 : ((e.L.length : Int) == 2) = (e.L.length == 2) := yj3 e.L.length 2
 have key : ∀ b, b = decide (e.Kind = 1 ∨ e.Kind = 2) → J1 b := by
  intro b hb
  apply hJ1
  simp only [yeH, n0, n1, n2]
  unfold yie
  clear n0 n1 n2 hJ1
  generalize e.L.length = n
  grind [cnd]
 refine ⟨fun k => key _ ?_, fun k => key _ ?_⟩ <;> grind
noncomputable def yjm (e : X) : Bool := if e.Kind = 1 then e.Op == 0 && (e.Table == [] && e.Name == []) else if e.Kind = 2 then e.Op == 0 && eqV e.V D0 else if e.Kind = 3 ∨ e.Kind = 8 then eqV e.V D0 && (e.Table == [] && e.Name == []) else
 e.Op == 0 && (eqV e.V D0 && (e.Table == [] && e.Name == []))
theorem J1b {x1 x2 x3 x4 : Int} {x5 x6 x7 : Str} {x8 : List X} {x9 x10 x11 x12 : Int} {x13 x14 x15 : Str} {x16 : List X} {r : Bool} (h : r = ((x10 == x2) && (((x11 == x3) && ((x12 == x4) && ((x13 == x5) && true))) && ((x14 == x6) && (x15 == x7))))) : ydr r x1 x2 x3 x4 x5 x6 x7 x8 x9 x10 x11 x12 x13 x14 x15 x16 := by
 unfold ydr
 subst h
 generalize (x10 == x2) = a
 generalize ((x11 == x3) && ((x12 == x4) && ((x13 == x5) && true))) = b
 generalize (x14 == x6) = c
 cases a <;> cases b <;> cases c <;> simp [cnd]
theorem c1 {a b : Int} : (a == b) = (b == a) := by rw [Bool.eq_iff_iff]; simp; exact eq_comm
theorem c2 {a b : Str} : (a == b) = (b == a) := by rw [Bool.eq_iff_iff]; simp; exact eq_comm
theorem yzD (e : X) : ycN e (yjm e) := by
 intro J1 hJ1
 have ev : ∀ v : V, ((0 : Int) == v.Kind && ((0 : Int) == v.N && (([] : Str) == v.S && true))) = eqV v D0 := fun v => by
  unfold eqV D0
  rw [c1 (a := 0), c1 (a := 0) (b := v.N), c2 (a := [])]
 have s0 : ∀ v : V, (v.Kind == v.Kind && (v.N == v.N && (v.S == v.S && true))) = true := fun v => by simp
 have j : ∀ {x1 x2 x3 x4 x5 x6 x7 x8 x9 x10 x11 x12 x13 x14 x15 x16}, yjm e = ((x10 == x2) && (((x11 == x3) && ((x12 == x4) && ((x13 == x5) && true))) && ((x14 == x6) && (x15 == x7)))) → J1 x1 x2 x3 x4 x5 x6 x7 x8 x9 x10 x11 x12 x13 x14 x15 x16 := fun h => hJ1 _ _ _ _ _ _ _ _ _ _ _ _ _ _ _ _ (J1b h)
 refine ⟨fun k => j ?_, fun k1 => ⟨fun k => j ?_, fun k2 J2 hJ2 => ⟨fun k => hJ2 _ ⟨fun _ => j ?_, fun q => ?_⟩, fun k3 => hJ2 _ ⟨fun k => j ?_, fun k => j ?_⟩⟩⟩⟩
 ·have k : e.Kind = 1 := by simpa using k
  rw [s0, yjm, if_pos k, c1 (a := 0), c2 (a := []) (b := e.Table), c2 (a := []) (b := e.Name)]; simp
 ·have k : e.Kind = 2 := by simpa using k
  rw [ev, yjm, if_neg (by omega), if_pos k, c1 (a := 0)]; simp
 ·have k : e.Kind = 3 := by simpa using k
  rw [ev, yjm, if_neg (by omega), if_neg (by omega), if_pos (.inl k), c2 (a := []) (b := e.Table), c2 (a := []) (b := e.Name)]; simp
 ·rw [k] at q; cases q
 ·have k : e.Kind = 8 := by simpa using k
  rw [ev, yjm, if_neg (by omega), if_neg (by omega), if_pos (.inr k), c2 (a := []) (b := e.Table), c2 (a := []) (b := e.Name)]; simp
 ·have k : ¬ e.Kind = 8 := by simpa using k
  have k1 : ¬ e.Kind = 1 := by simpa using k1
  have k2 : ¬ e.Kind = 2 := by simpa using k2
  have k3 : ¬ e.Kind = 3 := by simpa using k3
  rw [ev, yjm, if_neg k1, if_neg k2, if_neg (fun q => by rcases q with q | q; exact k3 q; exact k q), c1 (a := 0), c2 (a := []) (b := e.Table), c2 (a := []) (b := e.Name)]
noncomputable def yip (e : X) : Bool := if e.Kind = 1 then yfG e.V && (!(e.V.Kind == 2) || decide (0 ≤ e.V.N)) else if e.Kind = 2 then sLex e.Name && (e.Table == [] || sLex e.Table) else if e.Kind = 3 then decide (1 ≤ e.Op) && decide (e.Op ≤ 14) else if e.Kind = 8 then decide (1 ≤ e.Op) && decide (e.Op ≤ 4) else true
theorem yzs (e : X) : yb1 e (yip e) := by
 unfold yb1 yip
 have g := yvH ⟨e.V.Kind, e.V.N, e.V.S⟩
 have l1 := pLex e.Name
 have l2 := pLex e.Table
 have gg : yfG ⟨e.V.Kind, e.V.N, e.V.S⟩ = yfG e.V := rfl
 rw [gg] at g
 generalize yfG e.V = z1 at *
 generalize sLex e.Name = z2 at *
 generalize sLex e.Table = z3 at *
 refine ⟨fun k => ⟨_, g, fun a => ⟨fun b => ?_, fun b => ?_⟩, fun a => ?_⟩, fun k1 => ⟨fun k => ⟨_, l1, fun a => ⟨fun b => ?_, fun b => ⟨_, l2, ?_⟩⟩, fun a => ?_⟩, fun k2 => ⟨fun k => ⟨fun a => ?_, fun a => ?_⟩, fun k3 => ⟨fun k => ⟨fun a => ?_, fun a => ?_⟩, fun k8 => ?_⟩⟩⟩⟩ <;> simp only [beq_iff_eq, beq_eq_false_iff_ne, ne_eq] at * <;> simp_all <;> (intros; omega)
mutual
noncomputable def gX : Bool → X → Bool
 | w, .mk k o v t n L => yie (.mk k o v t n L) && (yjm (.mk k o v t n L) && (yip (.mk k o v t n L) && (!(w && k == 8) && gXs (w || k == 8) L)))
noncomputable def gXs : Bool → List X → Bool
 | _, [] => true
 | w, x :: r => gX w x && gXs w r
end
theorem ypv (w : Bool) (e : X) : gX w e = (yie e && (yjm e && (yip e && (!(w && e.Kind == 8) && gXs (w || e.Kind == 8) e.L)))) := by cases e; rfl
theorem yjS (w : Bool) : ∀ l : List X, gXs w l = l.all (gX w)
 | [] => rfl
 | x :: r => by simp only [gXs, List.all_cons, yjS w r]
theorem yyh {e : X} (h : WX e) : ∀ w, ydQ e w (gX w e) := by
 induction h with
 | mk e h hn hs ih =>
   intro w Xr hXr
   apply hXr
   intro J1 hJ1
   have no : gX w e = false → J1 true := fun q => hJ1 _ ⟨fun _ => q.symm, fun q => (by cases q)⟩
   refine ⟨yie e, by rw [ybw]; exact yzd e, fun a => no ?_, fun a => ⟨yjm e, by rw [ybw]; exact yzD e, fun b => no ?_, fun b => ⟨yip e, by rw [ybw]; exact yzs e, fun c => no ?_, fun c => ?_⟩⟩⟩
   ·have a : yie e = false := by simpa using a
    rw [ypv, a]; rfl
   ·have b : yjm e = false := by simpa using b
    rw [ypv, b]; simp
   ·have c : yip e = false := by simpa using c
    rw [ypv, c]; simp
   ·have a : yie e = true := by simpa using a
    have b : yjm e = true := by simpa using b
    have c : yip e = true := by simpa using c
    have ge : gX w e = (!(w && e.Kind == 8) && gXs (w || e.Kind == 8) e.L) := by rw [ypv, a, b, c]; simp
    have main : (w && e.Kind == 8) = false → J1 false := by
     intro hw
     apply hJ1
     have ge : gX w e = e.L.all (gX (w || e.Kind == 8)) := by rw [ge, hw, yjS]; rfl
     refine ⟨fun q => (by cases q), fun _ _ => ?_⟩
     refine lp1 (fun (x : Int) => ∃ k : Nat, x = k ∧ k ≤ e.L.length ∧ (e.L.take k).all (gX (w || e.Kind == 8)) = true) (fun (x : Int) => e.L.length - x.toNat) ?_ ⟨0, rfl, by omega, rfl⟩
     rintro X0 x ⟨k, rfl, h1, he⟩ hX
     refine ⟨fun d => ?_, fun d => ?_⟩
     ·have d : (k : Int) < e.L.length := of_decide_eq_true d
      have hk : k < e.L.length := by omega
      have hm : e.L[k] ∈ e.L := List.getElem_mem hk
      refine ⟨by omega, d, _, gAt hk, fun J3 hJ3 => ?_⟩
      have fin : ∀ z, z = gX (w || e.Kind == 8) e.L[k] → J3 (!z) := by
       intro z hz
       refine hJ3 _ ⟨fun q => ?_, fun q => ?_⟩
       ·have q : z = false := by simpa using q
        rw [ge]
        symm
        rw [← Bool.not_eq_true]
        intro hall
        have := List.all_eq_true.1 hall _ hm
        rw [← hz, q] at this; cases this
       ·have q : z = true := by simpa using q
        rw [w1 (by omega)]
        refine hX _ ⟨k + 1, rfl, by omega, ?_⟩ (by omega)
        rw [List.take_succ_eq_append_getElem hk, List.all_append, he]
        simp [← hz, q]
      refine ⟨fun q => ⟨gX true e.L[k], ?_, fin _ ?_⟩, fun q => ⟨gX (e.Kind == 8) e.L[k], ?_, fin _ ?_⟩⟩
      ·rw [ybw]; exact ih _ hm true Xr hXr
      ·rw [q]; rfl
      ·rw [ybw]; exact ih _ hm (e.Kind == 8) Xr hXr
      ·rw [q]; rfl
     ·have d : ¬ (k : Int) < e.L.length := of_decide_eq_false d
      rw [List.take_of_length_le (by omega)] at he
      rw [ge, he]
    refine ⟨fun q => ?_, fun q => main (by rw [q]; rfl)⟩
    cases k8 : (e.Kind == 8) with
    | true => exact no (by rw [ge, q, k8]; rfl)
    | false => exact main (by rw [q, k8]; rfl)
theorem yyF {e : X} (h : WX e) (hd : dX e ≤ 1000) : yf4 e (decide (dX e ≤ 20) && gX false e) := by
 refine ⟨dX e, by rw [ybw]; exact yxr h hd, fun c => ⟨gX false e, by rw [ybw]; exact yyh h false, ?_⟩, fun c => ?_⟩
 ·have c : (dX e : Int) ≤ 20 := of_decide_eq_true c
  rw [decide_eq_true (show dX e ≤ 20 by omega)]; rfl
 ·have c : ¬ (dX e : Int) ≤ 20 := of_decide_eq_false c
  rw [decide_eq_false (show ¬ dX e ≤ 20 by omega)]; rfl
end Go.Proofs.YteoohihaibgplaaGreatDoor
end
noncomputable section
namespace Go.Proofs.YteoohihaibgplaaGreatDoor
open Go.AV Go.RowKit
noncomputable def ops : List Str := [[], [61], [60, 62], [60], [60, 61], [62], [62, 61], [43], [45], [42], [47], [37], [124, 124], [65, 78, 68], [79, 82]]
noncomputable def ags : List Str := [[], [67, 79, 85, 78, 84], [83, 85, 77], [77, 73, 78], [77, 65, 88]]
inductive Sh : X → Str → Prop
 | lit (v : V) (hv : good v) (hn : v.Kind = 2 → 0 ≤ v.N) : Sh (.mk 1 0 v [] [] []) (yer v)
 | col1 (n : Str) (hn : sLex n = true) : Sh (.mk 2 0 D0 [] n []) n
 | col2 (t n : Str) (hn : sLex n = true) (ht : sLex t = true) : Sh (.mk 2 0 D0 t n []) (t ++ [46] ++ n)
 | bin (op : Int) (o : Str) (a b : X) (s t : Str) (h1 : 1 ≤ op) (h2 : op ≤ 14) (ho : ops[op.toNat]? = some o) (ha : Sh a s) (hb : Sh b t) : Sh (.mk 3 op D0 [] [] [a, b]) ([40] ++ s ++ [32] ++ o ++ [32] ++ t ++ [41])
 | no (a : X) (s : Str) (ha : Sh a s) : Sh (.mk 4 0 D0 [] [] [a]) ([40, 78, 79, 84, 32] ++ s ++ [41])
 | neg (a : X) (s : Str) (ha : Sh a s) : Sh (.mk 5 0 D0 [] [] [a]) ([40, 45, 32] ++ s ++ [41])
 | isn (a : X) (s : Str) (ha : Sh a s) : Sh (.mk 6 0 D0 [] [] [a]) ([40] ++ s ++ [32, 73, 83, 32, 78, 85, 76, 76, 41])
 | ntn (a : X) (s : Str) (ha : Sh a s) : Sh (.mk 7 0 D0 [] [] [a]) ([40] ++ s ++ [32, 73, 83, 32, 78, 79, 84, 32, 78, 85, 76, 76, 41])
 | cnt : Sh (.mk 8 1 D0 [] [] []) [67, 79, 85, 78, 84, 40, 42, 41]
 | agg (op : Int) (o : Str) (a : X) (s : Str) (h1 : 1 ≤ op) (h2 : op ≤ 4) (ho : ags[op.toNat]? = some o) (ha : Sh a s) : Sh (.mk 8 op D0 [] [] [a]) (o ++ [40] ++ s ++ [41])
theorem ysl {v : V} (h : good v) : yfG v = true := by
 unfold good at h
 obtain ⟨k, n, s⟩ := v
 simp only at h
 rcases h with ⟨rfl, rfl, rfl⟩ | ⟨rfl, h, rfl⟩ | ⟨rfl, h, rfl⟩ | ⟨rfl, rfl, h⟩
 ·rfl
 ·rcases h with rfl | rfl <;> rfl
 ·rfl
 ·simp [yfG]; omega
theorem ymX : yer D0 = [78, 85, 76, 76] := rfl
theorem ymW : yer (bV true) = [84, 82, 85, 69] := rfl
theorem ylD : yer (bV false) = [70, 65, 76, 83, 69] := rfl
theorem yll (n : Int) : yer ⟨2, n, []⟩ = Go.Lib.itoa n := by
 unfold yer
 have g : yfG ⟨2, n, []⟩ = true := rfl
 have e : eqV ⟨2, n, []⟩ (bV true) = false := rfl
 rw [g, e]; rfl
theorem ymJ {s : Str} (h : s.length ≤ 64) : yer ⟨3, 0, s⟩ = [39] ++ dq s ++ [39] := by
 unfold yer
 have g : yfG ⟨3, 0, s⟩ = true := by simp [yfG]; omega
 have e : eqV ⟨3, 0, s⟩ (bV true) = false := rfl
 rw [g, e]
 show [39] ++ Go.Lib.replaceAll s [39] [39, 39] ++ [39] = _
 rw [ysO]
theorem ym0 {v : V} (h : good v) : v = D0 ∨ v = bV true ∨ v = bV false ∨ (∃ n, Rg n ∧ v = ⟨2, n, []⟩) ∨ ∃ s, s.length ≤ 64 ∧ v = ⟨3, 0, s⟩ := by
 unfold good at h
 obtain ⟨k, n, s⟩ := v
 simp only at h
 rcases h with ⟨rfl, rfl, rfl⟩ | ⟨rfl, h, rfl⟩ | ⟨rfl, h, rfl⟩ | ⟨rfl, rfl, h⟩
 ·exact .inl rfl
 ·rcases h with rfl | rfl
  ·exact .inr (.inr (.inl rfl))
  ·exact .inr (.inl rfl)
 ·exact .inr (.inr (.inr (.inl ⟨n, h, rfl⟩)))
 ·exact .inr (.inr (.inr (.inr ⟨s, h, rfl⟩)))
theorem yut {v : V} (h : good v) : (yer v).length ≤ 130 := by
 rcases ym0 h with rfl | rfl | rfl | ⟨n, hn, rfl⟩ | ⟨s, hs, rfl⟩
 ·rw [ymX]; simp
 ·rw [ymW]; simp
 ·rw [ylD]; simp
 ·rw [yll]; have := Go.Lib.itoa_length_le n hn.1 hn.2; omega
 ·rw [ymJ hs]; have := yrN s; simp; omega
theorem yx6 {v : V} (h : good v) : ybR v (yer v) := by
 refine yzS (yz5 h) ?_ (by have := yys h; omega)
 have := yys h
 have := yrN v.S
 rw [ysO]; omega
theorem yfX {s : Str} (h : sLex s = true) : s.length ≤ 16 := by
 cases s with
 | nil => cases h
 | cons c r =>
   simp only [sLex, Bool.and_eq_true, decide_eq_true_eq] at h
   exact h.1
theorem yqw {k : Nat} {o : Str} (h : ops[k]? = some o) : o.length ≤ 3 := by
 have hm := List.mem_of_getElem? h
 simp only [ops, List.mem_cons, List.not_mem_nil, or_false] at hm
 rcases hm with rfl | rfl | rfl | rfl | rfl | rfl | rfl | rfl | rfl | rfl | rfl | rfl | rfl | rfl | rfl <;> decide
theorem yq3 {k : Nat} {o : Str} (h : ags[k]? = some o) : o.length ≤ 5 := by
 have hm := List.mem_of_getElem? h
 simp only [ags, List.mem_cons, List.not_mem_nil, or_false] at hm
 rcases hm with rfl | rfl | rfl | rfl | rfl <;> decide
theorem pw {n : Nat} : 0 < 2 ^ n := Nat.pow_pos (by omega)
theorem Sh.len {e : X} {s : Str} (h : Sh e s) : s.length + 20 ≤ 150 * 2 ^ dX e := by
 have up : ∀ (a : X) (k op : Int) (v : V) (t n : Str), dX (.mk k op v t n [a]) = dX a + 1 := fun a k op v t n => by
  rw [yo8]; show 1 + dXs [a] = _; simp [dXs]; omega
 have sm : ∀ (k op : Int) (v : V) (t n : Str), dX (.mk k op v t n []) = 1 := fun k op v t n => by
  rw [yo8]; show 1 + dXs [] = _; simp [dXs]
 induction h with
 | lit v hv hn => rw [sm]; have := yut hv; omega
 | col1 n hn => rw [sm]; have := yfX hn; omega
 | col2 t n hn ht => rw [sm]; have := yfX hn; have := yfX ht; simp; omega
 | bin op o a b s t h1 h2 ho ha hb i1 i2 =>
   have hd : dX (.mk 3 op D0 [] [] [a, b]) = max (dX a) (dX b) + 1 := by rw [yo8]; show 1 + dXs [a, b] = _; simp [dXs]; omega
   rw [hd, Nat.pow_succ]
   have := yqw ho
   have p1 : 2 ^ dX a ≤ 2 ^ (max (dX a) (dX b)) := Nat.pow_le_pow_right (by omega) (by omega)
   have p2 : 2 ^ dX b ≤ 2 ^ (max (dX a) (dX b)) := Nat.pow_le_pow_right (by omega) (by omega)
   simp; omega
 | no a s ha ih => rw [up, Nat.pow_succ]; simp; have := pw (n := dX a); omega
 | neg a s ha ih => rw [up, Nat.pow_succ]; simp; have := pw (n := dX a); omega
 | isn a s ha ih => rw [up, Nat.pow_succ]; simp; have := pw (n := dX a); omega
 | ntn a s ha ih => rw [up, Nat.pow_succ]; simp; have := pw (n := dX a); omega
 | cnt => rw [sm]; simp
 | agg op o a s h1 h2 ho ha ih => rw [up, Nat.pow_succ]; have := yq3 ho; have := pw (n := dX a); simp; omega
theorem Sh.of {e : X} (h : WX e) : ∀ w, gX w e = true → ∃ s, Sh e s := by
 induction h with
 | mk e h hn hs ih =>
   intro w hg
   rw [ypv, yjS] at hg
   simp only [Bool.and_eq_true] at hg
   obtain ⟨h1, h2, h3, _, h5⟩ := hg
   have kids : ∀ y ∈ e.L, ∃ s, Sh y s := fun y hy => ih y hy _ (List.all_eq_true.1 h5 y hy)
   clear ih h5 hs
   obtain ⟨k, op, v, t, n, l⟩ := e
   replace h1 : (if k = 1 ∨ k = 2 then l.length == 0 else if k = 3 then l.length == 2 else if k = 8 then l.length == 1 || (op == 1 && l.length == 0) else decide (4 ≤ k) && (decide (k ≤ 7) && l.length == 1)) = true := h1
   replace h2 : (if k = 1 then op == 0 && (t == [] && n == []) else if k = 2 then op == 0 && eqV v D0 else if k = 3 ∨ k = 8 then eqV v D0 && (t == [] && n == []) else op == 0 && (eqV v D0 && (t == [] && n == []))) = true := h2
   replace h3 : (if k = 1 then yfG v && (!(v.Kind == 2) || decide (0 ≤ v.N)) else if k = 2 then sLex n && (t == [] || sLex t) else if k = 3 then decide (1 ≤ op) && decide (op ≤ 14) else if k = 8 then decide (1 ≤ op) && decide (op ≤ 4) else true) = true := h3
   replace hn : Rg v.N := hn
   replace kids : ∀ y ∈ l, ∃ s, Sh y s := kids
   clear h
   by_cases k1 : k = 1
   ·subst k1
    rw [if_pos (.inl rfl)] at h1
    rw [if_pos rfl] at h2 h3
    simp only [beq_iff_eq, Bool.and_eq_true, Bool.or_eq_true, Bool.not_eq_true', beq_eq_false_iff_ne, ne_eq, decide_eq_true_eq] at h1 h2 h3
    obtain rfl := List.eq_nil_of_length_eq_zero h1
    obtain ⟨rfl, rfl, rfl⟩ := h2
    exact ⟨_, .lit v (yst hn h3.1) (fun q => by rcases h3.2 with x | x; exact absurd q x; exact x)⟩
   by_cases k2 : k = 2
   ·subst k2
    rw [if_pos (.inr rfl)] at h1
    rw [if_neg (by decide), if_pos rfl] at h2 h3
    simp only [beq_iff_eq, Bool.and_eq_true, Bool.or_eq_true] at h1 h2 h3
    obtain rfl := List.eq_nil_of_length_eq_zero h1
    obtain ⟨rfl, hv⟩ := h2
    obtain rfl := ylM.1 hv
    rcases h3.2 with rfl | ht
    ·exact ⟨_, .col1 n h3.1⟩
    ·exact ⟨_, .col2 t n h3.1 ht⟩
   rw [if_neg (fun q => by rcases q with q | q; exact k1 q; exact k2 q)] at h1
   rw [if_neg k1, if_neg k2] at h2 h3
   by_cases k3 : k = 3
   ·subst k3
    rw [if_pos rfl] at h1 h3
    rw [if_pos (.inl rfl)] at h2
    simp only [beq_iff_eq, Bool.and_eq_true, decide_eq_true_eq] at h1 h2 h3
    obtain ⟨hv, rfl, rfl⟩ := h2
    obtain rfl := ylM.1 hv
    match l, h1 with
    | [a, b], _ =>
      obtain ⟨s, hs⟩ := kids a (by simp)
      obtain ⟨t, ht⟩ := kids b (by simp)
      have hlt : op.toNat < ops.length := by show _ < 15; omega
      exact ⟨_, .bin op _ a b s t h3.1 h3.2 (List.getElem?_eq_getElem hlt) hs ht⟩
   rw [if_neg k3] at h1 h3
   by_cases k8 : k = 8
   ·subst k8
    rw [if_pos rfl] at h1 h3
    rw [if_pos (.inr rfl)] at h2
    simp only [beq_iff_eq, Bool.and_eq_true, Bool.or_eq_true, decide_eq_true_eq] at h1 h2 h3
    obtain ⟨hv, rfl, rfl⟩ := h2
    obtain rfl := ylM.1 hv
    rcases h1 with h1 | ⟨rfl, h1⟩
    ·match l, h1 with
     | [a], _ =>
       obtain ⟨s, hs⟩ := kids a (by simp)
       have hlt : op.toNat < ags.length := by show _ < 5; omega
       exact ⟨_, .agg op _ a s h3.1 h3.2 (List.getElem?_eq_getElem hlt) hs⟩
    ·obtain rfl := List.eq_nil_of_length_eq_zero h1
     exact ⟨_, .cnt⟩
   rw [if_neg k8] at h1
   rw [if_neg (fun q => by rcases q with q | q; exact k3 q; exact k8 q)] at h2
   simp only [beq_iff_eq, Bool.and_eq_true, decide_eq_true_eq] at h1 h2
   obtain ⟨rfl, hv, rfl, rfl⟩ := h2
   obtain rfl := ylM.1 hv
   obtain ⟨h4, h7, h1⟩ := h1
   match l, h1 with
   | [a], _ =>
     obtain ⟨s, hs⟩ := kids a (by simp)
     have : k = 4 ∨ k = 5 ∨ k = 6 ∨ k = 7 := by omega
     rcases this with rfl | rfl | rfl | rfl
     ·exact ⟨_, .no a s hs⟩
     ·exact ⟨_, .neg a s hs⟩
     ·exact ⟨_, .isn a s hs⟩
     ·exact ⟨_, .ntn a s hs⟩
end Go.Proofs.YteoohihaibgplaaGreatDoor
end
noncomputable section
namespace Go.Proofs.YteoohihaibgplaaGreatDoor
open Go.AV Go.RowKit
theorem cT {p q : Prop} (h : p) : cnd true p q := ⟨fun _ => h, fun e => by cases e⟩
theorem cF {p q : Prop} (h : q) : cnd false p q := ⟨fun e => (by cases e), fun _ => h⟩
theorem d1 (a : X) (k op : Int) (v : V) (t n : Str) : dX (.mk k op v t n [a]) = dX a + 1 := by
 rw [yo8]; show 1 + dXs [a] = _; simp [dXs]; omega
theorem d2 (a b : X) (k op : Int) (v : V) (t n : Str) : dX (.mk k op v t n [a, b]) = max (dX a) (dX b) + 1 := by
 rw [yo8]; show 1 + dXs [a, b] = _; simp [dXs]; omega
theorem Sh.short {e : X} {s : Str} (h : Sh e s) (hd : dX e ≤ 40) : s.length ≤ 164926744166400 := by
 have := h.len
 have : 2 ^ dX e ≤ 2 ^ 40 := Nat.pow_le_pow_right (by omega) hd
 omega
theorem yyc {e : X} {s : Str} (h : Sh e s) : dX e ≤ 40 → ydP e s := by
 induction h with
 | lit v hv hn =>
   intro _ Xr hXr
   exact hXr _ _ (cT ⟨_, yx6 hv, rfl⟩)
 | col1 n hn =>
   intro _ Xr hXr
   exact hXr _ _ (cF (cT (cF rfl)))
 | col2 t n hn ht =>
   intro _ Xr hXr
   have l1 := yfX hn
   have l2 := yfX ht
   refine hXr _ _ (cF (cT ⟨fun _ => ⟨?_, ?_, rfl⟩, fun q => ?_⟩))
   ·show t.length + 1 ≤ _; omega
   ·show (t ++ [46]).length + n.length ≤ _; rw [List.length_append]; show t.length + 1 + _ ≤ _; omega
   ·cases t with
    | nil => cases ht
    | cons c r => cases (show true = false from q)
 | bin op o a b s t h1 h2 ho ha hb i1 i2 =>
   intro hd Xr hXr
   rw [d2] at hd
   have la := ha.short (by omega)
   have lb := hb.short (by omega)
   have lo := yqw ho
   refine hXr _ _ (cF (cF (cT ⟨by omega, by show (0 : Int) < 2; omega, a, rfl, s, by rw [ybw]; exact i1 (by omega) Xr hXr, ?_, ?_, ⟨by show 0 ≤ op; omega, by show op < 15; omega⟩, o, ?_, ?_, ?_, by omega, by show (1 : Int) < 2; omega, b, rfl, t, by rw [ybw]; exact i2 (by omega) Xr hXr, ?_, ?_, rfl⟩)))
   ·simp; omega
   ·simp; omega
   ·show ops[0 + op.toNat * 1]? = some o
    rw [Nat.zero_add, Nat.mul_one]; exact ho
   ·simp; omega
   ·simp; omega
   ·simp; omega
   ·simp; omega
 | no a s ha ih =>
   intro hd Xr hXr
   rw [d1] at hd
   have la := ha.short (by omega)
   refine hXr _ _ (cF (cF (cF (cT ⟨by omega, by show (0 : Int) < 1; omega, a, rfl, s, by rw [ybw]; exact ih (by omega) Xr hXr, ?_, ?_, rfl⟩)))) <;> simp <;> omega
 | neg a s ha ih =>
   intro hd Xr hXr
   rw [d1] at hd
   have la := ha.short (by omega)
   refine hXr _ _ (cF (cF (cF (cF (cT ⟨by omega, by show (0 : Int) < 1; omega, a, rfl, s, by rw [ybw]; exact ih (by omega) Xr hXr, ?_, ?_, rfl⟩))))) <;> simp <;> omega
 | isn a s ha ih =>
   intro hd Xr hXr
   rw [d1] at hd
   have la := ha.short (by omega)
   refine hXr _ _ (cF (cF (cF (cF (cF (cT ⟨by omega, by show (0 : Int) < 1; omega, a, rfl, s, by rw [ybw]; exact ih (by omega) Xr hXr, ?_, ?_, rfl⟩)))))) <;> simp <;> omega
 | ntn a s ha ih =>
   intro hd Xr hXr
   rw [d1] at hd
   have la := ha.short (by omega)
   refine hXr _ _ (cF (cF (cF (cF (cF (cF (cT ⟨by omega, by show (0 : Int) < 1; omega, a, rfl, s, by rw [ybw]; exact ih (by omega) Xr hXr, ?_, ?_, rfl⟩))))))) <;> simp <;> omega
 | cnt =>
   intro _ Xr hXr
   exact hXr _ _ (cF (cF (cF (cF (cF (cF (cF (fun _ => cT ⟨⟨by show (0 : Int) ≤ 1; omega, by show (1 : Int) < 5; omega⟩, [67, 79, 85, 78, 84], rfl, by simp, rfl⟩))))))))
 | agg op o a s h1 h2 ho ha ih =>
   intro hd Xr hXr
   rw [d1] at hd
   have la := ha.short (by omega)
   have lo := yq3 ho
   refine hXr _ _ (cF (cF (cF (cF (cF (cF (cF (fun _ => cF ⟨⟨by show 0 ≤ op; omega, by show op < 5; omega⟩, o, ?_, ?_, by omega, by show (0 : Int) < 1; omega, a, rfl, s, by rw [ybw]; exact ih (by omega) Xr hXr, ?_, ?_, rfl⟩))))))))
   ·show ags[0 + op.toNat * 1]? = some o
    rw [Nat.zero_add, Nat.mul_one]; exact ho
   ·simp; omega
   ·simp; omega
   ·simp; omega
end Go.Proofs.YteoohihaibgplaaGreatDoor
end
noncomputable section
namespace Go.Proofs.YteoohihaibgplaaGreatDoor
open Go.AV Go.RowKit
theorem yrI : ∀ l : List E6, (∀ y ∈ l, dX (told y) = dep y) → dXs (l.map told) = deps l
 | [], _ => rfl
 | x :: r, h => by
   simp only [List.map_cons, dXs, deps]
   rw [h x (by simp), yrI r fun y hy => h y (by simp [hy])]
theorem ylf {m : E6} (h : WF m) : WX (told m) ∧ dX (told m) = dep m := by
 induction h with
 | mk m h hn hs ih =>
   rw [ygS]
   refine ⟨.mk _ (by show (m.L.map told).length ≤ 3; rw [List.length_map]; exact h) hn fun y hy => ?_, ?_⟩
   ·have hy : y ∈ m.L.map told := hy
    obtain ⟨z, hz, rfl⟩ := List.mem_map.1 hy
    exact (ih z hz).1
   ·rw [yo8, ym3]
    show 1 + dXs (m.L.map told) = _
    rw [yrI _ fun y hy => (ih y hy).2]
theorem Sh.fn {e : X} {s : Str} (h : Sh e s) : ∀ {t : Str}, Sh e t → s = t := by
 induction h with
 | lit v hv hn => intro t k; cases k; rfl
 | col1 n hn => intro t k; cases k with
   | col1 _ _ => rfl
   | col2 _ _ _ ht => cases ht
 | col2 t0 n hn ht => intro t k; cases k with
   | col1 _ _ => cases ht
   | col2 _ _ _ _ => rfl
 | bin op o a b s t h1 h2 ho ha hb i1 i2 => intro t k; cases k with
   | bin _ o' _ _ s' t' _ _ ho' ha' hb' =>
     rw [ho] at ho'; cases ho'
     rw [i1 ha', i2 hb']
 | no a s ha ih => intro t k; cases k with
   | no _ s' ha' => rw [ih ha']
 | neg a s ha ih => intro t k; cases k with
   | neg _ s' ha' => rw [ih ha']
 | isn a s ha ih => intro t k; cases k with
   | isn _ s' ha' => rw [ih ha']
 | ntn a s ha ih => intro t k; cases k with
   | ntn _ s' ha' => rw [ih ha']
 | cnt => intro t k; cases k; rfl
 | agg op o a s h1 h2 ho ha ih => intro t k; cases k with
   | agg _ o' _ s' _ _ ho' ha' =>
     rw [ho] at ho'; cases ho'
     rw [ih ha']
theorem yvW {e : X} {s : Str} (h : WX e) (hd : dX e ≤ 20) (hg : gX false e = true) (hs : Sh e s) : ya6 e s := by
 refine ⟨true, ?_, fun q => (by cases q), fun _ => ⟨s, ?_, rfl⟩⟩
 ·rw [ybw]
  have := yyF h (by omega)
  rw [hg, decide_eq_true hd] at this; exact this
 ·rw [ybw]; exact yyc hs (by omega)
noncomputable def yd1 (c : Int) : Int := if 97 ≤ c ∧ c ≤ 122 then 1 else if 65 ≤ c ∧ c ≤ 90 then 2 else if 48 ≤ c ∧ c ≤ 57 then 3 else if c = 95 then 4 else if c = 39 then 5 else if c = 32 ∨ c = 10 then 6 else 0
theorem yvz (c : Int) : ycd c (yd1 c) := by
 intro J1 h1
 have k1 : ∀ b, b = decide (97 ≤ c ∧ c ≤ 122) → J1 b := by
  intro b hb
  refine h1 _ ⟨fun t => by grind [yd1], fun t J2 h2 => ?_⟩
  have k2 : ∀ b, b = decide (65 ≤ c ∧ c ≤ 90) → J2 b := by
   intro b hb
   refine h2 _ ⟨fun t => by grind [yd1], fun t J3 h3 => ?_⟩
   have k3 : ∀ b, b = decide (48 ≤ c ∧ c ≤ 57) → J3 b := by
    intro b hb
    refine h3 _ ⟨fun t => by grind [yd1], fun t => ⟨fun t => by grind [yd1], fun t => ⟨fun t => by grind [yd1], fun t J4 h4 => ?_⟩⟩⟩
    have k4 : ∀ b, b = decide (c = 32 ∨ c = 10) → J4 b := by
     intro b hb
     refine h4 _ ⟨fun t => by grind [yd1], fun t => by grind [yd1]⟩
    refine ⟨fun t => k4 _ ?_, fun t => k4 _ ?_⟩ <;> grind
   refine ⟨fun t => k3 _ ?_, fun t => k3 _ ?_⟩ <;> grind
  refine ⟨fun t => k2 _ ?_, fun t => k2 _ ?_⟩ <;> grind
 refine ⟨fun t => k1 _ ?_, fun t => k1 _ ?_⟩ <;> grind
theorem hb0 {c : UInt8} {r : Str} : (0 : Int) ≤ 0 ∧ (0 : Int) < ((c :: r).length : Int) := ⟨by omega, by simp⟩
theorem cls {c : UInt8} : (yd1 (c.toNat : Int) = 1 ↔ isS c = true) ∧ ((yd1 (c.toNat : Int) = 1 ∨ yd1 (c.toNat : Int) = 3 ∨ yd1 (c.toNat : Int) = 4) ↔ isR c = true) := by
 simp only [isR, isS, isD, Bool.or_eq_true, Bool.and_eq_true, decide_eq_true_eq, beq_iff_eq]
 unfold yd1
 constructor
 ·split <;> (try split) <;> (try split) <;> (try split) <;> (try split) <;> (try split) <;> omega
 ·split <;> (try split) <;> (try split) <;> (try split) <;> (try split) <;> (try split) <;> omega
theorem ytz (s : Str) : ycp s (sLex s) := by
 apply ypS
 have no : sLex s = false → ybU s (sLex s) true := fun q => cT q.symm
 cases s with
 | nil => exact cT (no rfl)
 | cons c r =>
   unfold yfP
   rw [decide_eq_false (show ¬ ((c :: r).length : Int) < 1 by rw [List.length_cons]; omega)]
   refine cF ⟨fun h => no ?_, fun h => ⟨hb0, _, yvz _, ?_⟩⟩
   ·have h : (16 : Int) < (c :: r).length := of_decide_eq_true h
    simp only [sLex]
    rw [decide_eq_false (show ¬ (c :: r).length ≤ 16 by omega)]; rfl
   ·have h : ¬ (16 : Int) < (c :: r).length := of_decide_eq_false h
    have e0 : bAt (c :: r) 0 = (c.toNat : Int) := rfl
    rw [e0]
    have hs : sLex (c :: r) = (isS c && (c :: r).all isR) := by
     simp only [sLex]
     rw [decide_eq_true (show (c :: r).length ≤ 16 by omega)]; rfl
    cases hS : isS c with
    | false =>
      have : ¬ yd1 (c.toNat : Int) = 1 := fun q => by rw [cls.1.1 q] at hS; cases hS
      have e : (!(yd1 (c.toNat : Int) == 1)) = true := by simpa using this
      rw [e]
      exact no (by rw [hs, hS]; rfl)
    | true =>
      have := cls.1.2 hS
      rw [this]
      rw [hS] at hs
      refine cF ?_
      refine lp1 (fun (x : Int) => ∃ k : Nat, x = k ∧ k ≤ (c :: r).length ∧ ((c :: r).take k).all isR = true) (fun (x : Int) => (c :: r).length - x.toNat) ?_ ⟨0, rfl, by omega, rfl⟩
      rintro X x ⟨k, rfl, hk, ha⟩ hX
      unfold ydD
      by_cases hlt : k < (c :: r).length
      ·rw [decide_eq_true (show (k : Int) < (c :: r).length by omega)]
       refine cT ⟨⟨by omega, by omega⟩, _, yvz _, ?_⟩
       rw [yqv hlt]
       have hc := cls (c := (c :: r)[k])
       have stop : isR (c :: r)[k] = false → ybx X (sLex (c :: r)) k true := fun q => cT (by
        rw [hs]
        symm
        rw [Bool.true_and, ← Bool.not_eq_true]
        intro hall
        have := List.all_eq_true.1 hall _ (List.getElem_mem hlt)
        rw [q] at this; cases this)
       have go : isR (c :: r)[k] = true → ybx X (sLex (c :: r)) k false := fun q => cF (by
        rw [w1 (by omega)]
        refine hX _ ⟨k + 1, rfl, by omega, ?_⟩ (by omega)
        rw [List.take_succ_eq_append_getElem hlt, List.all_append, ha]; simp [q])
       generalize hz : yd1 ((c :: r)[k].toNat : Int) = z at *
       refine ⟨fun a => ⟨fun b => ?_, fun b => go ?_⟩, fun a => go ?_⟩
       ·have a : ¬ z = 1 := by simpa using a
        have b : ¬ z = 3 := by simpa using b
        by_cases d : z = 4
        ·subst d; exact go (hc.2.1 (by omega))
        ·have e : (!(z == 4)) = true := by simpa using d
         rw [e]
         refine stop ?_
         rw [← Bool.not_eq_true]
         intro q
         have := hc.2.2 q
         omega
       ·have b : z = 3 := by simpa using b
        exact hc.2.1 (by omega)
       ·have a : z = 1 := by simpa using a
        exact hc.2.1 (by omega)
      ·rw [decide_eq_false (show ¬ (k : Int) < (c :: r).length by omega)]
       rw [List.take_of_length_le (by omega)] at ha
       exact cF (by rw [hs, ha]; rfl)
theorem yzb {m : E6} (h : WF m) : dep m ≤ 1000 → yfu m (dep m) := by
 induction h with
 | mk m h hn hs ih =>
   intro hd
   intro Xr hXr
   apply hXr
   refine lp2 (fun (d i : Int) => 0 ≤ i ∧ i ≤ m.L.length ∧ d = 1 + (deps (m.L.take i.toNat) : Nat)) (fun _ (i : Int) => m.L.length - i.toNat) ?_ ⟨by omega, by omega, by simp [deps]⟩
   intro X d i ⟨h0, h1, h2⟩ hX hlen
   rw [ym3] at hd
   refine ⟨fun hlt => ?_, fun hge => ?_⟩
   ·have hlt : i < m.L.length := by simpa using hlt
    have hi : i.toNat < m.L.length := by omega
    have hm : m.L[i.toNat] ∈ m.L := List.getElem_mem hi
    have hdm := yrB hm
    have e1 : m.L.take (i + 1).toNat = m.L.take i.toNat ++ [m.L[i.toNat]] := by
     have : (i + 1).toNat = i.toNat + 1 := by omega
     rw [this, List.take_succ_eq_append_getElem hi]
    refine ⟨h0, hlt, m.L[i.toNat], by simp [hi], dep m.L[i.toNat], ?_, ?_⟩
    ·rw [ybZ]
     exact ih _ hm (by omega) Xr hXr
    ·rw [wrap64 (n := i + 1) (by omega) (by omega), wrap64 (n := (dep m.L[i.toNat] : Int) + 1) (by omega) (by omega)]
     refine ⟨fun c => ?_, fun c => ?_⟩
     ·have c : d ≤ dep m.L[i.toNat] := by simpa using c
      exact hX _ _ ⟨by omega, by omega, by rw [e1, yoP]; omega⟩ (by omega)
     ·have c : ¬ d ≤ dep m.L[i.toNat] := by simpa using c
      exact hX _ _ ⟨by omega, by omega, by rw [e1, yoP]; omega⟩ (by omega)
   ·have hge : ¬ i < m.L.length := by simpa using hge
    have : m.L.take i.toNat = m.L := List.take_of_length_le (by omega)
    rw [this] at h2
    rw [h2, ym3]; omega
theorem pG6 (v : yad) : ycU v (yfG ⟨v.Kind, v.N, v.S⟩) := by
 unfold ycU
 grind [yfG, cnd, eqV, D0]
end Go.Proofs.YteoohihaibgplaaGreatDoor
end
noncomputable section
namespace Go.Proofs.YteoohihaibgplaaGreatDoor
open Go.AV Go.RowKit
theorem ywl {m : E6} {w : Bool} (ha : ∀ y ∈ m.L, gX (w || m.Kind == 8) (told y) = true) (Xr : E6 → Bool → Bool → Prop) (X : Int → Prop) : ykz m (gX w (told m)) w Xr X (m.L.length : Int) := by
 intro hl
 rw [decide_eq_false (by omega)]
 refine cF ?_
 have hr : gX w (told m) = (yie (told m) && (yjm (told m) && (yip (told m) && !(w && m.Kind == 8)))) := by
  rw [ypv, yjS]
  have : (told m).L.all (gX (w || (told m).Kind == 8)) = true := by
   rw [ygS]
   show (m.L.map told).all (gX (w || m.Kind == 8)) = true
   rw [List.all_eq_true]
   intro y hy
   obtain ⟨z, hz, rfl⟩ := List.mem_map.1 hy
   exact ha z hz
  rw [this, Bool.and_true, ygS]; rfl
 obtain ⟨r, er⟩ : ∃ r, r = gX w (told m) := ⟨_, rfl⟩
 rw [← er] at hr ⊢
 rw [ygS] at hr
 clear ha er
 obtain ⟨k, op, v, t, n, L⟩ := m
 simp only [yie, yjm, yip, yaa.Kind, yaa.Op, yaa.V, yaa.Table, yaa.Name, yaa.L, yab.Kind, yab.Op, yab.V, yab.Table, yab.Name, yab.L, List.length_map] at hr hl ⊢
 have eV : ((v.Kind == (0 : Int)) && ((v.N == (0 : Int)) && ((v.S == ([] : Str)) && true))) = eqV ⟨v.Kind, v.N, v.S⟩ D0 := rfl
 rw [eV]
 generalize hv0 : eqV ⟨v.Kind, v.N, v.S⟩ D0 = v0 at *
 have e0 : ((L.length : Int) == 0) = (L.length == 0) := yj3 _ 0
 have e1 : ((L.length : Int) == 1) = (L.length == 1) := yj3 _ 1
 have e2 : ((L.length : Int) == 2) = (L.length == 2) := yj3 _ 2
 rw [e0]
 clear eV hv0 hl
 by_cases k1 : k = 1
 ·subst k1
  refine cT fun J3 hJ3 _ => ?_
  have fin : ∀ x, x = r → J3 x := fun x hx => hJ3 x hx
  have hg := pG6 v
  refine ⟨fun c1 => ⟨fun c2 => ⟨fun c3 => ⟨fun c4 => ⟨_, hg, ⟨fun c5 => ⟨fun c6 => fin _ ?_, fun c6 => fin _ ?_⟩, fun c5 => fin _ ?_⟩⟩, fun c4 => fin _ ?_⟩, fun c3 => fin _ ?_⟩, fun c2 => fin _ ?_⟩, fun c1 => fin _ ?_⟩ <;> simp_all <;> rfl
 by_cases k2 : k = 2
 ·subst k2
  refine cF (cT fun J3 hJ3 _ => ?_)
  have fin : ∀ x, x = r → J3 x := fun x hx => hJ3 x hx
  have hn := ytz n
  have ht := ytz t
  refine ⟨fun c1 => ⟨fun c2 => ⟨fun c3 => ⟨_, hn, ⟨fun c4 => ⟨fun c5 => fin _ ?_, fun c5 => ⟨_, ht, fin _ ?_⟩⟩, fun c4 => fin _ ?_⟩⟩, fun c3 => fin _ ?_⟩, fun c2 => fin _ ?_⟩, fun c1 => fin _ ?_⟩ <;> simp_all
 have b1 : (k == (1 : Int)) = false := by simpa using k1
 have b2 : (k == (2 : Int)) = false := by simpa using k2
 rw [b1, b2]
 refine cF (cF fun J5 hJ5 => ?_)
 have five : ∀ x, x = (!v0 || (!(t == []) || !(n == []))) → J5 x := by
  intro x hx
  apply hJ5
  unfold ykE
  simp only [yaa.Kind, yaa.Op, yaa.V, yaa.Table, yaa.Name, yaa.L]
  refine ⟨fun c => ?_, fun c => ?_⟩
  ·show false = r
   subst hx; grind
  ·have hx' : v0 = true ∧ t = [] ∧ n = [] := by
    subst hx
    simp only [Bool.or_eq_false_iff, Bool.not_eq_false', beq_iff_eq] at c
    exact c
   obtain ⟨rfl, rfl, rfl⟩ := hx'
   clear hx c
   refine ⟨fun c3 _ => ?_, fun c3 J6 hJ6 => ?_⟩
   ·have c3 : k = 3 := by simpa using c3
    subst c3
    refine ⟨fun c1 => ⟨fun c2 => ?_, fun c2 => ?_⟩, fun c1 => ?_⟩ <;> grind
   ·have c3 : k ≠ 3 := by simpa using c3
    have six : ∀ x, x = decide (k = 4 ∨ k = 5 ∨ k = 6 ∨ k = 7) → J6 x := by
     intro x hx
     apply hJ6
     unfold yko
     simp only [yaa.Kind, yaa.Op, yaa.V, yaa.Table, yaa.Name, yaa.L]
     refine ⟨fun c => ?_, fun c => ⟨fun c8 J7 hJ7 => ?_, fun c8 => ?_⟩⟩
     ·intro _
      refine ⟨fun c1 => ?_, fun c1 => ?_⟩ <;> grind
     ·have c8 : k = 8 := by simpa using c8
      have fin : ∀ x, x = r → J7 x := fun x hx => hJ7 x hx
      refine ⟨fun d1 => ⟨fun d2 => ⟨fun d3 _ => ⟨fun d4 => fin _ ?_, fun d4 _ => ⟨fun d5 => fin _ ?_, fun d5 => fin _ ?_⟩⟩, fun d3 => fin _ ?_⟩, fun d2 => fin _ ?_⟩, fun d1 => fin _ ?_⟩ <;> grind
     ·show false = r
      grind
    refine ⟨fun d4 => six _ ?_, fun d4 => ⟨fun d5 => six _ ?_, fun d5 => ⟨fun d6 => six _ ?_, fun d6 => six _ ?_⟩⟩⟩ <;> grind
 refine ⟨fun c1 => five _ ?_, fun c1 => ⟨fun c2 => five _ ?_, fun c2 => five _ ?_⟩⟩ <;> grind
theorem yzG {m : E6} (h : WF m) : ∀ w, yhL m w (gX w (told m)) := by
 induction h with
 | mk m h hn hs ih =>
   intro w Xr hXr
   refine hXr _ _ _ ?_
   refine lp1 (fun (x : Int) => ∃ k : Nat, x = k ∧ k ≤ m.L.length ∧ ∀ y ∈ m.L.take k, gX (w || m.Kind == 8) (told y) = true) (fun (x : Int) => m.L.length - x.toNat) ?_ ⟨0, rfl, by omega, by simp⟩
   rintro X x ⟨k, rfl, hk, ha⟩ hX
   by_cases hlt : k < m.L.length
   ·intro hlen
    rw [decide_eq_true (show (k : Int) < m.L.length by omega)]
    refine cT fun J2 hJ2 => ⟨by omega, by omega, m.L[k], gAt hlt, ?_⟩
    have hm := List.getElem_mem hlt
    rw [ybZ]
    have key : ∀ b, b = gX (w || m.Kind == 8) (told m.L[k]) → J2 (!b) := by
     intro b hb
     apply hJ2
     cases b with
     | true =>
       refine cF ?_
       rw [w1 (by omega)]
       refine hX _ ⟨k + 1, rfl, by omega, fun y hy => ?_⟩ (by omega)
       rw [List.take_succ_eq_append_getElem hlt, List.mem_append] at hy
       rcases hy with hy | hy
       ·exact ha y hy
       ·rw [List.mem_singleton.1 hy]; exact hb.symm
     | false =>
       refine cT ?_
       rw [ypv, yjS]
       have : (told m).L.all (gX (w || (told m).Kind == 8)) = false := by
        rw [ygS]
        show (m.L.map told).all (gX (w || m.Kind == 8)) = false
        rw [← Bool.not_eq_true, List.all_eq_true]
        intro hall
        have := hall _ (List.mem_map.2 ⟨_, hm, rfl⟩)
        rw [← hb] at this; cases this
       rw [this]; simp
    cases w with
    | true => exact cT ⟨_, ih _ hm true Xr hXr, key _ (by simp)⟩
    | false => exact cF ⟨_, ih _ hm _ Xr hXr, key _ (by simp)⟩
   ·have : k = m.L.length := by omega
    subst this
    rw [List.take_length] at ha
    exact ywl ha Xr X
theorem ytH {m : E6} (h : WF m) (hd : dep m ≤ 1000) : ydF m (decide (dep m ≤ 20) && gX false (told m)) := by
 have h1 := yzb h hd
 by_cases h20 : dep m ≤ 20
 ·refine ⟨_, by rw [ybZ]; exact h1, ?_⟩
  rw [decide_eq_true (show (dep m : Int) ≤ 20 by omega), decide_eq_true h20]
  exact cT ⟨_, by rw [ybZ]; exact yzG h false, rfl⟩
 ·refine ⟨_, by rw [ybZ]; exact h1, ?_⟩
  rw [decide_eq_false (show ¬ (dep m : Int) ≤ 20 by omega), decide_eq_false h20]
  exact cF rfl
theorem td10 (x : Int) : (0 ≤ x ∧ x.tdiv 10 = x / 10 ∧ x.tmod 10 = x % 10) ∨ (x < 0 ∧ x.tdiv 10 = -((-x) / 10) ∧ x.tmod 10 = -((-x) % 10)) := by
 by_cases h : 0 ≤ x
 ·exact .inl ⟨h, Int.tdiv_eq_ediv_of_nonneg h, Int.tmod_eq_emod_of_nonneg h⟩
 ·refine .inr ⟨by omega, ?_, ?_⟩
  ·rw [← Int.tdiv_eq_ediv_of_nonneg (by omega), Int.neg_tdiv, Int.neg_neg]
  ·rw [← Int.tmod_eq_emod_of_nonneg (by omega), Int.neg_tmod, Int.neg_neg]
theorem digC {d : Nat} (h : d < 10) : (([IntKind.u8.wrap (IntKind.i64.wrap ((48 : Int) + (d : Int)))] : List Int).map toB) = [UInt8.ofNat (48 + d)] := by
 rw [Go.AV.wrap64 (by omega) (by omega), yyU (by omega) (by omega)]
 simp only [List.map_cons, List.map_nil, toB]
 congr 2
theorem yqR {n : Int} (hr : Rg n) : yck n (Go.Lib.itoa n) := by
 unfold Rg at hr
 have hlen := Go.Lib.itoa_length_le n hr.1 hr.2
 have main : ∀ sg : Str, Go.Lib.itoa n = sg ++ Go.Lib.decDigits n.natAbs → ygH (Go.Lib.itoa n) n sg := by
  intro sg hsg
  rw [hsg, List.length_append] at hlen
  refine lp2 (fun (x : Int) (s : Str) => -9223372036854775808 ≤ x ∧ x ≤ 9223372036854775807 ∧ Go.Lib.decDigits n.natAbs = Go.Lib.decDigits x.natAbs ++ s) (fun (x : Int) (_ : Str) => x.natAbs) ?_ ⟨hr.1, hr.2, by simp⟩
  rintro X x s ⟨h1, h2, h3⟩ hX J hJ
  have hs : s.length ≤ 21 := by rw [h3, List.length_append] at hlen; omega
  have ht := td10 x
  have key : ∀ d : Int, d = ((x.natAbs % 10 : Nat) : Int) → J d := by
   intro d hd
   subst hd
   apply hJ
   unfold ygx
   rw [digC (Nat.mod_lt _ (by omega))]
   refine ⟨by simp; omega, ?_⟩
   have hq : IntKind.i64.wrap (x.tdiv 10) = x.tdiv 10 := by
    apply Go.AV.wrap64 <;> omega
   rw [hq]
   by_cases h10 : x.natAbs < 10
   ·have : x.tdiv 10 = 0 := by omega
    rw [this]
    have e : Go.Lib.decDigits x.natAbs = [UInt8.ofNat (48 + x.natAbs % 10)] := by
     rw [Go.Lib.decDigits.eq_1, dif_pos h10, Nat.mod_eq_of_lt h10]
    refine cT ⟨by simp; omega, ?_⟩
    rw [hsg, h3, e]
   ·have hne : ¬ x.tdiv 10 = 0 := by omega
    have : (x.tdiv 10 == 0) = false := by simpa using hne
    rw [this]
    refine cF (hX _ _ ⟨by omega, by omega, ?_⟩ (by omega))
    rw [h3, Go.Lib.decDigits.eq_1 x.natAbs, dif_neg h10, List.append_assoc]
    have : (x.tdiv 10).natAbs = x.natAbs / 10 := by omega
    rw [this]
  by_cases hn : x.tmod 10 < 0
  ·rw [decide_eq_true hn]
   refine cT (key _ ?_)
   rw [Go.AV.wrap64 (by omega) (by omega)]; omega
  ·rw [decide_eq_false hn]
   exact cF (key _ (by omega))
 intro J1 hJ1
 by_cases h0 : n < 0
 ·rw [decide_eq_true h0]
  refine cT (hJ1 _ (main _ ?_))
  unfold Go.Lib.itoa; rw [if_pos h0]; rfl
 ·rw [decide_eq_false h0]
  refine cF (hJ1 _ (main _ ?_))
  unfold Go.Lib.itoa; rw [if_neg h0]
  have : n.natAbs = n.toNat := by omega
  rw [this]; rfl
theorem yxW {v : yad} (h : good ⟨v.Kind, v.N, v.S⟩) : yeG v (yer ⟨v.Kind, v.N, v.S⟩) := by
 intro J1 hJ1
 refine ⟨_, pG6 v, ?_⟩
 rw [ysl h]
 refine cF (hJ1 _ ?_)
 obtain ⟨k, n, s⟩ := v
 simp only at h ⊢
 rcases ym0 h with e | e | e | ⟨x, hx, e⟩ | ⟨x, hx, e⟩
 ·cases e; exact cT ymX
 ·cases e
  refine cF fun J2 hJ2 => cT (hJ2 _ (cT ?_))
  exact ymW
 ·cases e
  refine cF fun J2 hJ2 => cT (hJ2 _ (cF (cT ?_)))
  exact ylD
 ·cases e
  refine cF fun J2 hJ2 => cF (hJ2 _ (cF (cF (cT ⟨_, yqR hx, ?_⟩))))
  rw [yll]
 ·cases e
  refine cF fun J2 hJ2 => cF (hJ2 _ (cF (cF (cF ?_))))
  rw [ymJ hx]
  refine lp2 (fun (o : Str) (i : Int) => ∃ k : Nat, i = k ∧ k ≤ s.length ∧ o = [39] ++ dq (s.take k)) (fun (_ : Str) (i : Int) => s.length - i.toNat) ?_ ⟨0, rfl, by omega, rfl⟩
  rintro X o i ⟨k, rfl, hk, rfl⟩ hX
  have hl := yrN (s.take k)
  rw [List.length_take] at hl
  unfold yir
  simp only
  by_cases hlt : k < s.length
  ·rw [decide_eq_true (show (k : Int) < s.length by omega), w1 (by omega)]
   have e1 : (s.drop ((k : Nat) : Int).toNat).take (((k + 1 : Nat) : Int).toNat - ((k : Nat) : Int).toNat) = [s[k]] := by
    rw [Int.toNat_natCast, Int.toNat_natCast, List.drop_eq_getElem_cons hlt]
    have : k + 1 - k = 1 := by omega
    rw [this]; rfl
   rw [e1, yqv hlt]
   have e2 : dq (s.take (k + 1)) = dq (s.take k) ++ (if s[k] = 39 then [39, 39] else [s[k]]) := by
    rw [List.take_succ_eq_append_getElem hlt, ys6]; simp [dq]
   refine cT ⟨⟨by omega, by omega, by omega⟩, by simp; omega, ⟨by omega, by omega⟩, ⟨fun c => ⟨by simp; omega, hX _ _ ⟨k + 1, rfl, by omega, ?_⟩ (by omega)⟩, fun c => hX _ _ ⟨k + 1, rfl, by omega, ?_⟩ (by omega)⟩⟩
   ·have c : s[k] = 39 := UInt8.toNat_inj.1 (by have : (s[k].toNat : Int) = 39 := by simpa using c
                                                show s[k].toNat = 39; omega)
    rw [e2, if_pos c, c]; simp
   ·have c : s[k] ≠ 39 := fun q => by rw [q] at c; cases c
    rw [e2, if_neg c]; simp
  ·rw [decide_eq_false (show ¬ (k : Int) < s.length by omega)]
   have : k = s.length := by omega
   subst this
   rw [List.take_length]
   refine cF ⟨by simp; have := yrN s; omega, rfl⟩
end Go.Proofs.YteoohihaibgplaaGreatDoor
end
noncomputable section
namespace Go.Proofs.YteoohihaibgplaaGreatDoor
open Go.AV Go.RowKit
theorem ydz {m : E6} {k op : Int} {v : V} {t n : Str} {l : List X} (h : told m = .mk k op v t n l) : ∃ v' L', m = .mk k op v' t n L' ∧ (⟨v'.Kind, v'.N, v'.S⟩ : V) = v ∧ L'.map told = l := by
 rw [ygS] at h
 obtain ⟨k', op', v', t', n', L'⟩ := m
 injection h with h1 h2 h3 h4 h5 h6
 refine ⟨v', L', ?_, h3, h6⟩
 show yaa.mk k' op' v' t' n' L' = _
 have h1 : k' = k := h1
 have h2 : op' = op := h2
 have h4 : t' = t := h4
 have h5 : n' = n := h5
 subst h1 h2 h4 h5; rfl
theorem map1 {l : List E6} {a : X} (h : l.map told = [a]) : ∃ b, l = [b] ∧ told b = a := by
 match l, h with
 | [b], h => exact ⟨b, rfl, by simpa using h⟩
theorem map2 {l : List E6} {a b : X} (h : l.map told = [a, b]) : ∃ c d, l = [c, d] ∧ told c = a ∧ told d = b := by
 match l, h with
 | [c, d], h => exact ⟨c, d, rfl, by simpa using h⟩
theorem ywK {e : X} {s : Str} (h : Sh e s) : ∀ m : E6, told m = e → dX e ≤ 40 → ygq m s := by
 induction h with
 | lit v hv hn =>
   intro m hm _ Xr hXr
   obtain ⟨v', L', rfl, rfl, _⟩ := ydz hm
   exact hXr _ _ (cT ⟨_, yxW hv, rfl⟩)
 | col1 n hn =>
   intro m hm _ Xr hXr
   obtain ⟨v', L', rfl, _, _⟩ := ydz hm
   exact hXr _ _ (cF (cT (cT rfl)))
 | col2 t n hn ht =>
   intro m hm _ Xr hXr
   obtain ⟨v', L', rfl, _, _⟩ := ydz hm
   have l1 := yfX hn
   have l2 := yfX ht
   refine hXr _ _ (cF (cT ⟨fun q => ?_, fun _ => ⟨?_, ?_, rfl⟩⟩))
   ·cases t with
    | nil => cases ht
    | cons c r => cases (show false = true from q)
   ·show t.length + 1 ≤ _; omega
   ·show (t ++ [46]).length + n.length ≤ _; rw [List.length_append]; show t.length + 1 + _ ≤ _; omega
 | bin op o a b s t h1 h2 ho ha hb i1 i2 =>
   intro m hm hd Xr hXr
   obtain ⟨v', L', rfl, _, hL⟩ := ydz hm
   obtain ⟨c, d, rfl, hc, hd'⟩ := map2 hL
   rw [d2] at hd
   have la := ha.short (by omega)
   have lb := hb.short (by omega)
   have lo := yqw ho
   refine hXr _ _ (cF (cF (cT ⟨by omega, by show (0 : Int) < 2; omega, c, rfl, s, by rw [ybZ]; exact i1 c hc (by omega) Xr hXr, ?_, ?_, o, ⟨by show 0 ≤ op; omega, by show op < 15; omega, o, ho, rfl⟩, ?_, ?_, by omega, by show (1 : Int) < 2; omega, d, rfl, t, by rw [ybZ]; exact i2 d hd' (by omega) Xr hXr, ?_, ?_, rfl⟩))) <;> simp <;> omega
 | no a s ha ih =>
   intro m hm hd Xr hXr
   obtain ⟨v', L', rfl, _, hL⟩ := ydz hm
   obtain ⟨c, rfl, hc⟩ := map1 hL
   rw [d1] at hd
   have la := ha.short (by omega)
   refine hXr _ _ (cF (cF (cF (cT ⟨by omega, by show (0 : Int) < 1; omega, c, rfl, s, by rw [ybZ]; exact ih c hc (by omega) Xr hXr, ?_, ?_, rfl⟩)))) <;> simp <;> omega
 | neg a s ha ih =>
   intro m hm hd Xr hXr
   obtain ⟨v', L', rfl, _, hL⟩ := ydz hm
   obtain ⟨c, rfl, hc⟩ := map1 hL
   rw [d1] at hd
   have la := ha.short (by omega)
   refine hXr _ _ (cF (cF (cF (cF (cT ⟨by omega, by show (0 : Int) < 1; omega, c, rfl, s, by rw [ybZ]; exact ih c hc (by omega) Xr hXr, ?_, ?_, rfl⟩))))) <;> simp <;> omega
 | isn a s ha ih =>
   intro m hm hd Xr hXr
   obtain ⟨v', L', rfl, _, hL⟩ := ydz hm
   obtain ⟨c, rfl, hc⟩ := map1 hL
   rw [d1] at hd
   have la := ha.short (by omega)
   refine hXr _ _ (cF (cF (cF (cF (cF (cT ⟨by omega, by show (0 : Int) < 1; omega, c, rfl, s, by rw [ybZ]; exact ih c hc (by omega) Xr hXr, ?_, ?_, rfl⟩)))))) <;> simp <;> omega
 | ntn a s ha ih =>
   intro m hm hd Xr hXr
   obtain ⟨v', L', rfl, _, hL⟩ := ydz hm
   obtain ⟨c, rfl, hc⟩ := map1 hL
   rw [d1] at hd
   have la := ha.short (by omega)
   refine hXr _ _ (cF (cF (cF (cF (cF (cF (cT ⟨by omega, by show (0 : Int) < 1; omega, c, rfl, s, by rw [ybZ]; exact ih c hc (by omega) Xr hXr, ?_, ?_, rfl⟩))))))) <;> simp <;> omega
 | cnt =>
   intro m hm _ Xr hXr
   obtain ⟨v', L', rfl, _, hL⟩ := ydz hm
   have hL : L' = [] := by simpa using hL
   subst hL
   exact hXr _ _ (cF (cF (cF (cF (cF (cF (cF (fun _ => cT ⟨by show (0 : Int) ≤ 1; omega, by show (1 : Int) < 5; omega, [67, 79, 85, 78, 84], rfl, by simp, rfl⟩))))))))
 | agg op o a s h1 h2 ho ha ih =>
   intro m hm hd Xr hXr
   obtain ⟨v', L', rfl, _, hL⟩ := ydz hm
   obtain ⟨c, rfl, hc⟩ := map1 hL
   rw [d1] at hd
   have la := ha.short (by omega)
   have lo := yq3 ho
   refine hXr _ _ (cF (cF (cF (cF (cF (cF (cF (fun _ => cF ⟨by show 0 ≤ op; omega, by show op < 5; omega, o, ho, ?_, by omega, by show (0 : Int) < 1; omega, c, rfl, s, by rw [ybZ]; exact ih c hc (by omega) Xr hXr, ?_, ?_, rfl⟩)))))))) <;> simp <;> omega
structure GE (m : E6) (s : Str) : Prop where
 wf : WF m
 d : dep m ≤ 20
 g : gX false (told m) = true
 sh : Sh (told m) s
theorem GE.len {m : E6} {s : Str} (h : GE m s) : s.length ≤ 160000000 := by
 have := h.sh.len
 rw [(ylf h.wf).2] at this
 have : 2 ^ dep m ≤ 2 ^ 20 := Nat.pow_le_pow_right (by omega) h.d
 omega
theorem GE.prog {m : E6} {s : Str} (h : GE m s) : ya6 (told m) s := yvW (ylf h.wf).1 (by rw [(ylf h.wf).2]; exact h.d) h.g h.sh
theorem GE.doc {m : E6} {s : Str} (h : GE m s) : ybM m s := by
 refine ⟨_, by rw [ybZ]; exact ytH h.wf (by have := h.d; omega), ?_⟩
 rw [decide_eq_true h.d, h.g]
 exact cF ⟨s, by rw [ybZ]; exact ywK h.sh m rfl (by rw [(ylf h.wf).2]; have := h.d; omega), rfl⟩
open Classical in
noncomputable def tx (m : E6) : Str := if h : ∃ s, Sh (told m) s then h.choose else []
theorem GE.of {m : E6} (wf : WF m) (d : dep m ≤ 20) (g : gX false (told m) = true) : GE m (tx m) := by
 have h := Sh.of (ylf wf).1 false g
 refine ⟨wf, d, g, ?_⟩
 unfold tx
 rw [dif_pos h]; exact h.choose_spec
noncomputable def jn (a b : Str) : Str := if a = [] ∨ b = [] then a ++ b else a ++ [32] ++ b
noncomputable def wds (l : List Str) : Str := l.foldl jn []
theorem yci (a b : Str) : (jn a b).length ≤ a.length + b.length + 1 := by
 unfold jn; split <;> simp <;> omega
theorem yeo (a : Str) : jn a [] = a := by simp [jn]
theorem ydj (a : Str) : jn [] a = a := by simp [jn]
theorem yet {a b : Str} (h : a ≠ []) : jn a b ≠ [] := by unfold jn; split <;> simp [h]
theorem ycO {a b : Str} (h : a ≠ []) (k : b ≠ []) : jn a b = a ++ [32] ++ b := by simp [jn, h, k]
theorem yc2 {a b : Str} (h : a.length + b.length ≤ 1000000000000000000) : yar a [32] b (jn a b) := by
 intro J1 hJ1
 have key : ∀ x, x = (decide (a = [] ∨ b = [])) → J1 x := by
  rintro x rfl
  apply hJ1
  by_cases hx : a = [] ∨ b = []
  ·rw [decide_eq_true hx]
   exact cT ⟨by omega, by rw [jn, if_pos hx]⟩
  ·rw [decide_eq_false hx]
   exact cF ⟨by simp; omega, by simp; omega, by rw [jn, if_neg hx]⟩
 refine ⟨fun c => key _ ?_, fun c => key _ ?_⟩
 ·have c : a = [] := by simpa using c
  simp [c]
 ·have c : ¬ a = [] := by simpa using c
  simp [c]
  cases b <;> rfl
theorem yif (A : List Str) (x sep : Str) : Go.Lib.join (A ++ [x]) sep = if A = [] then x else Go.Lib.join A sep ++ sep ++ x := by
 cases A with
 | nil => exact Go.Lib.join_one x sep
 | cons y r =>
   rw [if_neg (by simp), List.cons_append, Go.Lib.join_cons, Go.Lib.join_cons]
   simp [Go.Lib.joinTail]
theorem yrk {α : Type} {P : List α → Prop} (h0 : P []) (h1 : ∀ l x, P l → P (l ++ [x])) : ∀ l, P l := by
 have : ∀ l : List α, P l.reverse := by
  intro l
  induction l with
  | nil => exact h0
  | cons x l ih => rw [List.reverse_cons]; exact h1 _ _ ih
 intro l
 have := this l.reverse
 rwa [List.reverse_reverse] at this
theorem yu4 (l : List Str) (x : Str) : wds (l ++ [x]) = jn (wds l) x := by simp [wds]
noncomputable def ne (w : Str) : Bool := !(w == ([] : Str))
theorem yna : ∀ l : List Str, Go.Lib.join (l.filter ne) [32] = wds l ∧ (wds l = [] ↔ l.filter ne = []) := by
 apply yrk
 ·exact ⟨rfl, by simp [wds]⟩
 ·rintro l x ⟨h1, h2⟩
  rw [yu4, List.filter_append]
  by_cases hx : x = []
  ·subst hx
   simp only [yeo]
   have : List.filter ne [[]] = [] := rfl
   rw [this, List.append_nil]; exact ⟨h1, h2⟩
  ·have : List.filter ne [x] = [x] := by simp [ne, hx]
   rw [this, yif]
   refine ⟨?_, by simp [yet, hx]; unfold jn; split <;> simp [hx]⟩
   by_cases hl : l.filter ne = []
   ·rw [if_pos hl, h2.2 hl, ydj]
   ·rw [if_neg hl, h1, ycO (fun q => hl (h2.1 q)) hx]
theorem join_le {L : List Str} {sep : Str} {B : Nat} (h : ∀ x ∈ L, x.length ≤ B) : (Go.Lib.join L sep).length ≤ L.length * (B + sep.length) := by
 revert h
 apply yrk (P := fun L => (∀ x ∈ L, x.length ≤ B) → (Go.Lib.join L sep).length ≤ L.length * (B + sep.length))
 ·intro _; simp [Go.Lib.join_nil]
 ·intro l x ih h
  rw [yif]
  have hx := h x (by simp)
  have := ih fun y hy => h y (by simp [hy])
  rw [List.length_append, List.length_singleton, Nat.succ_mul]
  split
  ·omega
  ·simp; omega
theorem ylA {L : List Str} {B : Nat} (h : ∀ x ∈ L, x.length ≤ B) : (wds L).length ≤ L.length * (B + 1) := by
 rw [← (yna L).1]
 have := join_le (L := L.filter ne) (sep := [32]) (B := B) fun x hx => h x (List.mem_filter.1 hx).1
 have k := List.length_filter_le ne L
 refine Nat.le_trans this ?_
 exact Nat.mul_le_mul k (by simp)
theorem yei {l : List Str} {B : Nat} (h : ∀ x ∈ l, x.length ≤ B) (hB : B ≤ 1000000000000) (hl : l.length ≤ 20) : yaK l (wds l) := by
 intro _
 refine lp2 (fun (i : Int) (o : List Str) => ∃ k : Nat, i = k ∧ k ≤ l.length ∧ o = (l.take k).filter ne) (fun (i : Int) _ => l.length - i.toNat) ?_ ⟨0, rfl, by omega, rfl⟩
 rintro X i o ⟨k, rfl, hk, rfl⟩ hX
 have hol := List.length_filter_le ne (l.take k)
 rw [List.length_take] at hol
 by_cases hlt : k < l.length
 ·unfold yfY
  rw [decide_eq_true (show (k : Int) < l.length by omega), w1 (by omega)]
  have e : (l.take (k + 1)).filter ne = (l.take k).filter ne ++ List.filter ne [l[k]] := by
   rw [List.take_succ_eq_append_getElem hlt, List.filter_append]
  refine cT ⟨by omega, by omega, l[k], gAt hlt, ⟨fun c => ⟨by omega, hX _ _ ⟨k + 1, rfl, by omega, ?_⟩ (by omega)⟩, fun c => hX _ _ ⟨k + 1, rfl, by omega, ?_⟩ (by omega)⟩⟩
  ·have c : ne l[k] = true := c
   rw [e]; simp only [List.filter_cons, c, List.filter_nil, if_true]
  ·have c : ne l[k] = false := c
   rw [e]; simp only [List.filter_cons, c, List.filter_nil]; simp
 ·unfold yfY
  rw [decide_eq_false (show ¬ (k : Int) < l.length by omega)]
  have : k = l.length := by omega
  subst this
  rw [List.take_length] at hol ⊢
  have hw := ylA h
  rw [(yna l).1.symm] at hw
  refine cF ⟨_, ⟨by omega, ?_, rfl⟩, (yna l).1⟩
  refine Nat.le_trans hw (Nat.le_trans (Nat.mul_le_mul hl (Nat.add_le_add_right hB 1)) (by omega))
noncomputable def LG {α : Type} (l : List α) (g : α → Str → Prop) (r : Str) (X : Int → List Str → Prop) (x1 : Int) (x2 : List Str) : Prop :=
 cnd (decide (x1 < (l.length : Int))) ((0 ≤ x1) ∧ (x1 < (l.length : Int)) ∧ ∃ y3 : α, (l[x1.toNat]? = some y3) ∧ ∃ z4, (g y3 z4) ∧ (x2.length ≤ 1000000000) ∧ X (IntKind.i64.wrap (x1 + (1 : Int))) (x2 ++ ([z4] : List Str))) (∃ z5, (yaX x2 ([44, 32] : Str) z5) ∧ z5 = r)
theorem ymM {α : Type} {l : List α} {g : α → Str → Prop} {f : α → Str} {B : Nat} (h : ∀ y ∈ l, g y (f y) ∧ (f y).length ≤ B) (hB : B ≤ 1000000000000) (hl : l.length ≤ 20) : ∀ X : Int → List Str → Prop, (∀ x1 x2, LG l g (Go.Lib.join (l.map f) [44, 32]) X x1 x2 → X x1 x2) → X 0 [] := by
 refine lp2 (fun (i : Int) (o : List Str) => ∃ k : Nat, i = k ∧ k ≤ l.length ∧ o = (l.take k).map f) (fun (i : Int) _ => l.length - i.toNat) ?_ ⟨0, rfl, by omega, rfl⟩
 rintro X i o ⟨k, rfl, hk, rfl⟩ hX
 unfold LG
 by_cases hlt : k < l.length
 ·rw [decide_eq_true (show (k : Int) < l.length by omega), w1 (by omega)]
  refine cT ⟨by omega, by omega, l[k], gAt hlt, _, (h _ (List.getElem_mem hlt)).1, by simp; omega, hX _ _ ⟨k + 1, rfl, by omega, ?_⟩ (by omega)⟩
  rw [List.take_succ_eq_append_getElem hlt, List.map_append]; rfl
 ·rw [decide_eq_false (show ¬ (k : Int) < l.length by omega)]
  have : k = l.length := by omega
  subst this
  rw [List.take_length]
  have hj := join_le (L := l.map f) (sep := [44, 32]) (B := B) (fun x hx => by
   obtain ⟨y, hy, rfl⟩ := List.mem_map.1 hx
   exact (h y hy).2)
  refine cF ⟨_, ⟨by simp; omega, ?_, rfl⟩, rfl⟩
  rw [List.length_map] at hj
  refine Nat.le_trans hj (Nat.le_trans (Nat.mul_le_mul hl (Nat.add_le_add_right hB _)) (by simp))
theorem yqC {α : Type} (f : α → Str) (l : List α) (sep base : Str) {k : Nat} (h : k < l.length) : (if 0 < k then (base ++ Go.Lib.join ((l.take k).map f) sep) ++ sep else base ++ Go.Lib.join ((l.take k).map f) sep) ++ f l[k] = base ++ Go.Lib.join ((l.take (k + 1)).map f) sep := by
 rw [List.take_succ_eq_append_getElem h, List.map_append]
 show _ = base ++ Go.Lib.join (List.map f (List.take k l) ++ [f l[k]]) sep
 rw [yif]
 by_cases hk : 0 < k
 ·rw [if_pos hk, if_neg (by cases k with
   | zero => omega
   | succ k => cases l with
     | nil => simp at h
     | cons a l => simp)]
  simp
 ·have : k = 0 := by omega
  subst this
  simp [Go.Lib.join_nil]
theorem jle {α : Type} {f : α → Str} {l : List α} {sep : Str} {B : Nat} (h : ∀ y ∈ l, (f y).length ≤ B) (k : Nat) : (Go.Lib.join ((l.take k).map f) sep).length ≤ l.length * (B + sep.length) := by
 refine Nat.le_trans (join_le (B := B) fun x hx => ?_) (Nat.mul_le_mul_right _ (by simp; omega))
 obtain ⟨y, hy, rfl⟩ := List.mem_map.1 hx
 exact h y (List.mem_of_mem_take hy)
end Go.Proofs.YteoohihaibgplaaGreatDoor
end
noncomputable section
namespace Go.Proofs.YteoohihaibgplaaGreatDoor
open Go.AV Go.RowKit
theorem yvt (a b c : Str) : jn (jn a b) c = jn a (jn b c) := by
 by_cases ha : a = []
 ·subst ha; rw [ydj, ydj]
 by_cases hc : c = []
 ·subst hc; rw [yeo, yeo]
 by_cases hb : b = []
 ·subst hb; rw [yeo, ydj]
 rw [ycO ha hb, ycO hb hc, ycO (by simp) hc, ycO ha (by simp)]
 simp
theorem ylK : ∀ (l : List Str) (a : Str), l.foldl jn a = jn a (wds l)
 | [], a => (yeo a).symm
 | x :: l, a => by
   have h1 := ylK l (jn a x)
   have h2 := ylK l (jn [] x)
   show l.foldl jn (jn a x) = jn a (l.foldl jn (jn [] x))
   rw [h1, h2, ydj, yvt]
open Classical in
noncomputable def txX (e : X) : Str := if h : ∃ s, Sh e s then h.choose else []
theorem yAb (m : E6) : tx m = txX (told m) := rfl
noncomputable def whn (b : Bool) (s : Str) : Str := if b then s else []
noncomputable def yi5 (i : yax) : Str := wds [txX i.E, whn (!(i.As == ([] : Str))) [65, 83], i.As]
noncomputable def yn6 (k : Int) : Str := if k = 1 then [66, 79, 79, 76] else if k = 2 then [73, 78, 84] else if k = 3 then [84, 69, 88, 84] else []
noncomputable def tCol (c : yak) : Str := wds [c.Name, yn6 c.Kind, whn c.Key [80, 82, 73, 77, 65, 82, 89, 32, 75, 69, 89]]
noncomputable def tOrd (o : yal) : Str := wds [o.Name, whn o.Desc [68, 69, 83, 67]]
noncomputable def tSet (s : yay) : Str := s.Name ++ [32, 61, 32] ++ txX s.E
noncomputable def yq2 (l : List X) : Str := Go.Lib.join (l.map txX) [44, 32]
noncomputable def tRow (l : List X) : Str := [40] ++ yq2 l ++ [41]
noncomputable def ycY (w : Str) : List X → Str
 | [] => []
 | e :: _ => w ++ [32] ++ txX e
noncomputable def ydd (l : List yax) : Str := if l.length = 0 then [42] else Go.Lib.join (l.map yi5) [44, 32]
noncomputable def yfA (c : yan) : Str := if c.Join then wds [whn c.Left [76, 69, 70, 84], [74, 79, 73, 78], c.Other, c.Named, [79, 78], txX c.On.x0, [61], txX c.On.x1] else []
noncomputable def ydG (l : List X) : Str := if l.length = 0 then [] else [71, 82, 79, 85, 80, 32, 66, 89, 32] ++ yq2 l
noncomputable def yfF (c : yan) : Str := wds [[83, 69, 76, 69, 67, 84], whn c.Distinct [68, 73, 83, 84, 73, 78, 67, 84], ydd c.Items, [70, 82, 79, 77], c.From, c.Alias, yfA c, ycY [87, 72, 69, 82, 69] c.Where, ydG c.Group, ycY [72, 65, 86, 73, 78, 71] c.Having]
noncomputable def yd0 (l : List yal) : Str := if l.length = 0 then [] else [79, 82, 68, 69, 82, 32, 66, 89, 32] ++ Go.Lib.join (l.map tOrd) [44, 32]
noncomputable def yjh : List Int → Str
 | [] => []
 | n :: _ => [76, 73, 77, 73, 84, 32] ++ Go.Lib.itoa n
noncomputable def yiz (q : yaw) : Str := wds [Go.Lib.join (q.Cores.map yfF) [32, 85, 78, 73, 79, 78, 32, 65, 76, 76, 32], yd0 q.Order, yjh q.Limit]
noncomputable def ymd (s : yaO) : Str :=
 if s.Kind = 1 then wds [[67, 82, 69, 65, 84, 69, 32, 84, 65, 66, 76, 69], s.Name, [40] ++ Go.Lib.join (s.Columns.map tCol) [44, 32] ++ [41]]
 else if s.Kind = 2 then wds [[68, 82, 79, 80, 32, 84, 65, 66, 76, 69], s.Name]
 else if s.Kind = 3 then wds [[73, 78, 83, 69, 82, 84, 32, 73, 78, 84, 79], s.Name, [86, 65, 76, 85, 69, 83], Go.Lib.join (s.Rows.map tRow) [44, 32]]
 else if s.Kind = 4 then wds [[68, 69, 76, 69, 84, 69, 32, 70, 82, 79, 77], s.Name, ycY [87, 72, 69, 82, 69] s.Where]
 else if s.Kind = 5 then wds [[85, 80, 68, 65, 84, 69], s.Name, [83, 69, 84], Go.Lib.join (s.Sets.map tSet) [44, 32], ycY [87, 72, 69, 82, 69] s.Where]
 else if s.Kind = 6 then wds [[67, 82, 69, 65, 84, 69, 32, 86, 73, 69, 87], s.Name, [65, 83], yiz s.Query]
 else if s.Kind = 7 then wds [[68, 82, 79, 80, 32, 86, 73, 69, 87], s.Name]
 else if s.Kind = 8 then yiz s.Query
 else if s.Kind = 9 then wds [[82, 69, 65, 68], s.Name]
 else if s.Kind = 10 then wds [[80, 82, 79, 80, 65, 71, 65, 84, 69], Go.Lib.itoa s.N]
 else []
structure XK (e : X) : Prop where
 sh : ya6 e (txX e)
 len : (txX e).length ≤ 160000000
structure ylZ (c : yan) : Prop where
 items : ∀ x ∈ c.Items, XK x.E ∧ x.As.length ≤ 9
 nI : c.Items.length ≤ 3
 fr : c.From.length ≤ 9
 al : c.Alias.length ≤ 9
 ot : c.Other.length ≤ 9
 nm : c.Named.length ≤ 9
 on : c.Join = true → XK c.On.x0 ∧ XK c.On.x1
 wh : ∀ x ∈ c.Where, XK x
 gr : ∀ x ∈ c.Group, XK x
 nG : c.Group.length ≤ 2
 hv : ∀ x ∈ c.Having, XK x
structure yiT (q : yaw) : Prop where
 cores : ∀ c ∈ q.Cores, ylZ c
 nC : q.Cores.length ≤ 2
 ord : ∀ o ∈ q.Order, o.Name.length ≤ 9
 nO : q.Order.length ≤ 2
 lim : ∀ n ∈ q.Limit, Rg n
structure yxt (s : yaO) : Prop where
 nm : s.Name.length ≤ 9
 cols : ∀ c ∈ s.Columns, c.Name.length ≤ 9 ∧ 1 ≤ c.Kind ∧ c.Kind ≤ 3
 nC : s.Columns.length ≤ 4
 rows : ∀ l ∈ s.Rows, l.length ≤ 3 ∧ ∀ x ∈ l, XK x
 nR : s.Rows.length ≤ 3
 sets : ∀ x ∈ s.Sets, x.Name.length ≤ 9 ∧ XK x.E
 nS : s.Sets.length ≤ 3
 wh : ∀ x ∈ s.Where, XK x
 q : yiT s.Query
 n : Rg s.N
theorem yhs (b : Bool) (s : Str) : (whn b s).length ≤ s.length := by unfold whn; split <;> simp
theorem ytT (b : Bool) (s : Str) : ycy b s (whn b s) := by
 cases b with
 | true => exact cT rfl
 | false => exact cF rfl
theorem all3 {a b c : Str} {B : Nat} (ha : a.length ≤ B) (hb : b.length ≤ B) (hc : c.length ≤ B) : ∀ x ∈ [a, b, c], x.length ≤ B := by
 simp; omega
theorem all2 {a b : Str} {B : Nat} (ha : a.length ≤ B) (hb : b.length ≤ B) : ∀ x ∈ [a, b], x.length ≤ B := by
 simp; omega
theorem yk7 {i : yax} (h : XK i.E) (k : i.As.length ≤ 9) : (yi5 i).length ≤ 480000003 := by
 have := ylA (all3 (B := 160000000) h.len (Nat.le_trans (yhs (!(i.As == ([] : Str))) [65, 83]) (by simp)) (by omega : i.As.length ≤ 160000000))
 exact Nat.le_trans this (by simp)
theorem yy7 {i : yax} (h : XK i.E) (k : i.As.length ≤ 9) : ych i (yi5 i) :=
 ⟨_, by rw [ybw]; exact h.sh, _, ytT _ _, _, yei (B := 160000000) (all3 h.len (Nat.le_trans (yhs _ _) (by simp)) (by omega)) (by omega) (by simp), rfl⟩
theorem yrg {o : yal} (k : o.Name.length ≤ 9) : (tOrd o).length ≤ 20 :=
 Nat.le_trans (ylA (all2 (B := 9) k (Nat.le_trans (yhs o.Desc [68, 69, 83, 67]) (by simp)))) (by simp)
theorem yzQ {o : yal} (k : o.Name.length ≤ 9) : yb4 o (tOrd o) :=
 ⟨_, ytT _ _, _, yei (B := 9) (all2 k (Nat.le_trans (yhs _ _) (by simp))) (by omega) (by simp), rfl⟩
theorem ynO (k : Int) : (yn6 k).length ≤ 4 := by unfold yn6; split <;> (try split) <;> (try split) <;> simp
theorem yoj {c : yak} (k : c.Name.length ≤ 9) : (tCol c).length ≤ 36 :=
 Nat.le_trans (ylA (all3 (B := 11) (by omega) (Nat.le_trans (ynO c.Kind) (by omega)) (Nat.le_trans (yhs c.Key [80, 82, 73, 77, 65, 82, 89, 32, 75, 69, 89]) (by simp)))) (by simp)
theorem yz7 {c : yak} (k : c.Name.length ≤ 9) (h1 : 1 ≤ c.Kind) (h3 : c.Kind ≤ 3) : ybS c (tCol c) := by
 intro J1 hJ1 J2 hJ2
 rw [decide_eq_true (show (0 : Int) < c.Kind by omega), decide_eq_true (show c.Kind < 4 by omega)]
 refine cT (hJ2 _ (cT ⟨⟨by omega, by show c.Kind < 4; omega⟩, yn6 c.Kind, ?_, hJ1 _ ⟨_, ytT _ _, _, yei (B := 11) (all3 (by omega) (Nat.le_trans (ynO c.Kind) (by omega)) (Nat.le_trans (yhs _ _) (by simp))) (by omega) (by simp), rfl⟩⟩))
 rw [Nat.zero_add, Nat.mul_one]
 have : c.Kind = 1 ∨ c.Kind = 2 ∨ c.Kind = 3 := by omega
 rcases this with e | e | e <;> rw [e] <;> rfl
theorem yrc {s : yay} (k : s.Name.length ≤ 9) (h : XK s.E) : (tSet s).length ≤ 160000020 := by
 have := h.len
 unfold tSet; simp; omega
theorem yzT {s : yay} (k : s.Name.length ≤ 9) (h : XK s.E) : ycw s (tSet s) := by
 have := h.len
 exact ⟨by simp; omega, _, by rw [ybw]; exact h.sh, by simp; omega, rfl⟩
theorem yvO {l : List X} (h : ∀ x ∈ l, XK x) (hl : l.length ≤ 20) : ybJ l ya6 (yq2 l) := fun _ =>
 ymM (g := fun (y : X) (z : Str) => ya6 (yab.mk y.Kind y.Op (⟨y.V.Kind, y.V.N, y.V.S⟩ : yae) y.Table y.Name y.L) z) (f := txX) (B := 160000000) (fun y hy => ⟨by rw [ybw]; exact (h y hy).sh, (h y hy).len⟩) (by omega) hl
theorem yg6 {l : List X} (h : ∀ x ∈ l, XK x) : (yq2 l).length ≤ l.length * 160000002 := by
 have := join_le (L := l.map txX) (sep := [44, 32]) (B := 160000000) (fun x hx => by
  obtain ⟨y, hy, rfl⟩ := List.mem_map.1 hx
  exact (h y hy).len)
 rw [List.length_map] at this
 exact this
theorem yzP {l : List X} (h : ∀ x ∈ l, XK x) (hl : l.length ≤ 3) : yfd l (tRow l) := by
 have := yg6 h
 exact ⟨_, yvO h (by omega), by simp; omega, by simp; omega, rfl⟩
theorem yqj {l : List X} (h : ∀ x ∈ l, XK x) (hl : l.length ≤ 3) : (tRow l).length ≤ 480000010 := by
 have := yg6 h
 unfold tRow; simp; omega
theorem yeh {w : Str} {l : List X} (h : ∀ x ∈ l, XK x) (hw : w.length ≤ 10) : (ycY w l).length ≤ 160000020 := by
 cases l with
 | nil => simp [ycY]
 | cons e r =>
   have := (h e (by simp)).len
   simp [ycY]; omega
theorem yqS {w : Str} {l : List X} (h : ∀ x ∈ l, XK x) (hw : w.length ≤ 10) : ycX w l (ycY w l) := by
 intro _
 cases l with
 | nil => exact cT rfl
 | cons e r =>
   have := (h e (by simp)).len
   have e0 : (((e :: r).length : Int) == 0) = false := by simp; omega
   rw [e0]
   exact cF ⟨by simp; omega, by omega, by simp, e, rfl, _, by rw [ybw]; exact (h e (by simp)).sh, by simp; omega, rfl⟩
theorem yo2 {l : List yax} (h : ∀ x ∈ l, XK x.E ∧ x.As.length ≤ 9) (hl : l.length ≤ 3) : (ydd l).length ≤ 1500000000 := by
 unfold ydd
 split
 ·simp
 ·have := join_le (L := l.map yi5) (sep := [44, 32]) (B := 480000003) (fun x hx => by
   obtain ⟨y, hy, rfl⟩ := List.mem_map.1 hx
   exact yk7 (h y hy).1 (h y hy).2)
  rw [List.length_map] at this
  have e2 : ([44, 32] : Str).length = 2 := rfl
  rw [e2] at this
  omega
theorem yqb {l : List X} (h : ∀ x ∈ l, XK x) (hl : l.length ≤ 2) : (ydG l).length ≤ 400000000 := by
 have := yg6 h
 unfold ydG
 split
 ·simp
 ·simp; omega
theorem all8 {a b c d e f g i : Str} {B : Nat} (h1 : a.length ≤ B) (h2 : b.length ≤ B) (h3 : c.length ≤ B) (h4 : d.length ≤ B) (h5 : e.length ≤ B) (h6 : f.length ≤ B) (h7 : g.length ≤ B) (h8 : i.length ≤ B) : ∀ x ∈ [a, b, c, d, e, f, g, i], x.length ≤ B := by
 intro x hx
 simp only [List.mem_cons, List.not_mem_nil, or_false] at hx
 rcases hx with rfl | rfl | rfl | rfl | rfl | rfl | rfl | rfl <;> assumption
theorem yAm {a b c d e f g i j k : Str} {B : Nat} (h1 : a.length ≤ B) (h2 : b.length ≤ B) (h3 : c.length ≤ B) (h4 : d.length ≤ B) (h5 : e.length ≤ B) (h6 : f.length ≤ B) (h7 : g.length ≤ B) (h8 : i.length ≤ B) (h9 : j.length ≤ B) (h10 : k.length ≤ B) : ∀ x ∈ [a, b, c, d, e, f, g, i, j, k], x.length ≤ B := by
 intro x hx
 simp only [List.mem_cons, List.not_mem_nil, or_false] at hx
 rcases hx with rfl | rfl | rfl | rfl | rfl | rfl | rfl | rfl | rfl | rfl <;> assumption
theorem ylZ.jn8 {c : yan} (h : ylZ c) (hj : c.Join = true) : ∀ x ∈ [whn c.Left [76, 69, 70, 84], ([74, 79, 73, 78] : Str), c.Other, c.Named, [79, 78], txX c.On.x0, [61], txX c.On.x1], x.length ≤ 160000000 :=
 all8 (Nat.le_trans (yhs _ _) (by simp)) (by simp) (Nat.le_trans h.ot (by omega)) (Nat.le_trans h.nm (by omega)) (by simp) (h.on hj).1.len (by simp) (h.on hj).2.len
theorem ylZ.join_le {c : yan} (h : ylZ c) : (yfA c).length ≤ 1500000000 := by
 unfold yfA
 split
 ·rename_i hj
  exact Nat.le_trans (ylA (h.jn8 hj)) (by simp)
 ·simp
theorem ylZ.all {c : yan} (h : ylZ c) : ∀ x ∈ [([83, 69, 76, 69, 67, 84] : Str), whn c.Distinct [68, 73, 83, 84, 73, 78, 67, 84], ydd c.Items, [70, 82, 79, 77], c.From, c.Alias, yfA c, ycY [87, 72, 69, 82, 69] c.Where, ydG c.Group, ycY [72, 65, 86, 73, 78, 71] c.Having], x.length ≤ 1500000000 :=
 yAm (by simp) (Nat.le_trans (yhs _ _) (by simp)) (yo2 h.items h.nI) (by simp) (Nat.le_trans h.fr (by omega)) (Nat.le_trans h.al (by omega)) h.join_le (Nat.le_trans (yeh h.wh (by simp)) (by omega)) (Nat.le_trans (yqb h.gr h.nG) (by omega)) (Nat.le_trans (yeh h.hv (by simp)) (by omega))
theorem ylZ.len {c : yan} (h : ylZ c) : (yfF c).length ≤ 15000000010 := Nat.le_trans (ylA h.all) (by simp)
theorem yzg {c : yan} (h : ylZ c) : ycL c (yfF c) := by
 intro J1 hJ1 _
 have k1 : J1 (ydd c.Items) := by
  apply hJ1
  intro J2 hJ2
  have k2 : J2 (yfA c) := by
   apply hJ2
   intro J3 hJ3 _
   have k3 : J3 (ydG c.Group) := by
    apply hJ3
    exact ⟨_, ytT _ _, _, yqS h.wh (by simp), _, yqS h.hv (by simp), _, yei h.all (by omega) (by simp), rfl⟩
   have hg := yg6 h.gr
   have hn := h.nG
   refine ⟨fun q => ⟨_, yvO h.gr (by omega), by simp; omega, ?_⟩, fun q => ?_⟩
   ·have q : 0 < (c.Group.length : Int) := by simpa using q
    have e : ydG c.Group = [71, 82, 79, 85, 80, 32, 66, 89, 32] ++ yq2 c.Group := by unfold ydG; rw [if_neg (by omega)]
    rw [← e]; exact k3
   ·have q : ¬ 0 < (c.Group.length : Int) := by simpa using q
    have e : ydG c.Group = [] := by unfold ydG; rw [if_pos (by omega)]
    rw [← e]; exact k3
  refine ⟨fun hj => ⟨_, ytT _ _, _, by rw [ybw]; exact (h.on hj).1.sh, _, by rw [ybw]; exact (h.on hj).2.sh, _, yei (h.jn8 hj) (by omega) (by simp), ?_⟩, fun hj => ?_⟩
  ·have e : yfA c = wds [whn c.Left [76, 69, 70, 84], [74, 79, 73, 78], c.Other, c.Named, [79, 78], txX c.On.x0, [61], txX c.On.x1] := by unfold yfA; rw [if_pos hj]
   rw [← e]; exact k2
  ·have e : yfA c = [] := by unfold yfA; rw [if_neg (by rw [hj]; simp)]
   rw [← e]; exact k2
 have hn := h.nI
 refine ⟨fun q => ⟨_, fun _ => ymM (g := ych) (f := yi5) (B := 480000003) (fun y hy => ⟨yy7 (h.items y hy).1 (h.items y hy).2, yk7 (h.items y hy).1 (h.items y hy).2⟩) (by omega) (by omega), ?_⟩, fun q => ?_⟩
 ·have q : 0 < (c.Items.length : Int) := by simpa using q
  have e : ydd c.Items = Go.Lib.join (c.Items.map yi5) [44, 32] := by unfold ydd; rw [if_neg (by omega)]
  rw [← e]; exact k1
 ·have q : ¬ 0 < (c.Items.length : Int) := by simpa using q
  have e : ydd c.Items = [42] := by unfold ydd; rw [if_pos (by omega)]
  rw [← e]; exact k1
end Go.Proofs.YteoohihaibgplaaGreatDoor
end
noncomputable section
namespace Go.Proofs.YteoohihaibgplaaGreatDoor
open Go.AV Go.RowKit
theorem yxm (y : yan) : (⟨y.Distinct, y.Items, y.From, y.Alias, y.Join, y.Left, y.Other, y.Named, (⟨(yab.mk y.On.x0.Kind y.On.x0.Op (⟨y.On.x0.V.Kind, y.On.x0.V.N, y.On.x0.V.S⟩ : yae) y.On.x0.Table y.On.x0.Name y.On.x0.L), (yab.mk y.On.x1.Kind y.On.x1.Op (⟨y.On.x1.V.Kind, y.On.x1.V.N, y.On.x1.V.S⟩ : yae) y.On.x1.Table y.On.x1.Name y.On.x1.L)⟩ : yaG), y.Where, y.Group, y.Having⟩ : yan) = y := by
 rw [ybw, ybw]
theorem yiT.cores_le {q : yaw} (h : yiT q) : (Go.Lib.join (q.Cores.map yfF) [32, 85, 78, 73, 79, 78, 32, 65, 76, 76, 32]).length ≤ 31000000000 := by
 have := join_le (L := q.Cores.map yfF) (sep := [32, 85, 78, 73, 79, 78, 32, 65, 76, 76, 32]) (B := 15000000010) (fun x hx => by
  obtain ⟨y, hy, rfl⟩ := List.mem_map.1 hx
  exact (h.cores y hy).len)
 rw [List.length_map] at this
 have hn := h.nC
 refine Nat.le_trans this (Nat.le_trans (Nat.mul_le_mul_right _ hn) (by simp))
theorem ylL {l : List yal} (h : ∀ o ∈ l, o.Name.length ≤ 9) (hn : l.length ≤ 2) : (Go.Lib.join (l.map tOrd) [44, 32]).length ≤ 44 ∧ (yd0 l).length ≤ 60 := by
 have := join_le (L := l.map tOrd) (sep := [44, 32]) (B := 20) (fun x hx => by
  obtain ⟨y, hy, rfl⟩ := List.mem_map.1 hx
  exact yrg (h y hy))
 rw [List.length_map] at this
 have e2 : ([44, 32] : Str).length = 2 := rfl
 rw [e2] at this
 have k : (Go.Lib.join (l.map tOrd) [44, 32]).length ≤ 44 := by omega
 refine ⟨k, ?_⟩
 unfold yd0
 split
 ·simp
 ·rw [List.length_append]
  show 9 + _ ≤ _
  omega
theorem yl2 {n : Int} (h : Rg n) : (Go.Lib.itoa n).length ≤ 21 := Go.Lib.itoa_length_le n h.1 h.2
theorem yuk {l : List Int} (h : ∀ n ∈ l, Rg n) : (yjh l).length ≤ 27 := by
 cases l with
 | nil => simp [yjh]
 | cons n r => have := yl2 (h n (by simp)); simp [yjh]; omega
theorem yiT.all {q : yaw} (h : yiT q) : ∀ x ∈ [Go.Lib.join (q.Cores.map yfF) [32, 85, 78, 73, 79, 78, 32, 65, 76, 76, 32], yd0 q.Order, yjh q.Limit], x.length ≤ 31000000000 :=
 all3 h.cores_le (Nat.le_trans (ylL h.ord h.nO).2 (by omega)) (Nat.le_trans (yuk h.lim) (by omega))
theorem yiT.len {q : yaw} (h : yiT q) : (yiz q).length ≤ 93000000003 := Nat.le_trans (ylA h.all) (by simp)
theorem yq8 {q : yaw} (h : yiT q) : yby q (yiz q) := by
 intro _
 have hn := h.nC
 refine lp2 (fun (i : Int) (o : List Str) => ∃ k : Nat, i = k ∧ k ≤ q.Cores.length ∧ o = (q.Cores.take k).map yfF) (fun (i : Int) _ => q.Cores.length - i.toNat) ?_ ⟨0, rfl, by omega, rfl⟩
 rintro X i o ⟨k, rfl, hk, rfl⟩ hX
 unfold yeL
 by_cases hlt : k < q.Cores.length
 ·rw [decide_eq_true (show (k : Int) < q.Cores.length by omega), w1 (by omega)]
  refine cT ⟨by omega, by omega, q.Cores[k], gAt hlt, _, by rw [yxm]; exact yzg (h.cores _ (List.getElem_mem hlt)), by simp; omega, hX _ _ ⟨k + 1, rfl, by omega, ?_⟩ (by omega)⟩
  rw [List.take_succ_eq_append_getElem hlt, List.map_append]; rfl
 ·rw [decide_eq_false (show ¬ (k : Int) < q.Cores.length by omega)]
  have : k = q.Cores.length := by omega
  subst this
  rw [List.take_length]
  refine cF fun J2 hJ2 _ => ?_
  have hc := h.cores_le
  have k2 : J2 (q.Cores.map yfF) (yd0 q.Order) := by
   apply hJ2
   intro J3 hJ3 _
   have k3 : J3 (yjh q.Limit) := by
    apply hJ3
    exact ⟨_, ⟨by simp; omega, by omega, rfl⟩, _, yei h.all (by omega) (by simp), rfl⟩
   cases hL : q.Limit with
   | nil => rw [hL] at k3; exact cF k3
   | cons n r =>
     rw [hL] at k3
     have hr := h.lim n (by rw [hL]; simp)
     have := yl2 hr
     rw [decide_eq_true (show (0 : Int) < ((n :: r).length : Int) by simp)]
     exact cT ⟨by omega, by simp, n, rfl, _, ⟨rfl, hr.1, hr.2, rfl⟩, by simp; omega, k3⟩
  have ho := ylL h.ord h.nO
  have hO := h.nO
  refine ⟨fun c => ⟨_, fun _ => ymM (g := yb4) (f := tOrd) (B := 20) (fun y hy => ⟨yzQ (h.ord y hy), yrg (h.ord y hy)⟩) (by omega) (by omega), by simp; omega, ?_⟩, fun c => ?_⟩
  ·have c : 0 < (q.Order.length : Int) := by simpa using c
   have e : yd0 q.Order = [79, 82, 68, 69, 82, 32, 66, 89, 32] ++ Go.Lib.join (q.Order.map tOrd) [44, 32] := by unfold yd0; rw [if_neg (by omega)]
   rw [← e]; exact k2
  ·have c : ¬ 0 < (q.Order.length : Int) := by simpa using c
   have e : yd0 q.Order = [] := by unfold yd0; rw [if_pos (by omega)]
   rw [← e]; exact k2
theorem bq {k n : Int} : (k == n) = decide (k = n) := by
 rw [Bool.eq_iff_iff]; simp
theorem cI {p : Prop} [Decidable p] {x y : Prop} (h : p → x) (k : ¬ p → y) : cnd (decide p) x y := ⟨fun c => h (of_decide_eq_true c), fun c => k (of_decide_eq_false c)⟩
theorem all4 {a b c d : Str} {B : Nat} (h1 : a.length ≤ B) (h2 : b.length ≤ B) (h3 : c.length ≤ B) (h4 : d.length ≤ B) : ∀ x ∈ [a, b, c, d], x.length ≤ B := by
 simp; omega
theorem all5 {a b c d e : Str} {B : Nat} (h1 : a.length ≤ B) (h2 : b.length ≤ B) (h3 : c.length ≤ B) (h4 : d.length ≤ B) (h5 : e.length ≤ B) : ∀ x ∈ [a, b, c, d, e], x.length ≤ B := by
 simp; omega
theorem yvl {l : List yak} (h : ∀ c ∈ l, c.Name.length ≤ 9 ∧ 1 ≤ c.Kind ∧ c.Kind ≤ 3) (hn : l.length ≤ 4) : (Go.Lib.join (l.map tCol) [44, 32]).length ≤ 200 := by
 have := join_le (L := l.map tCol) (sep := [44, 32]) (B := 36) (fun x hx => by
  obtain ⟨y, hy, rfl⟩ := List.mem_map.1 hx
  exact yoj (h y hy).1)
 rw [List.length_map] at this
 exact Nat.le_trans this (Nat.le_trans (Nat.mul_le_mul_right _ hn) (by simp))
theorem yuM {l : List (List X)} (h : ∀ r ∈ l, r.length ≤ 3 ∧ ∀ x ∈ r, XK x) (hn : l.length ≤ 3) : (Go.Lib.join (l.map tRow) [44, 32]).length ≤ 2000000000 := by
 have := join_le (L := l.map tRow) (sep := [44, 32]) (B := 480000010) (fun x hx => by
  obtain ⟨y, hy, rfl⟩ := List.mem_map.1 hx
  exact yqj (h y hy).2 (h y hy).1)
 rw [List.length_map] at this
 exact Nat.le_trans this (Nat.le_trans (Nat.mul_le_mul_right _ hn) (by simp))
theorem yvm {l : List yay} (h : ∀ x ∈ l, x.Name.length ≤ 9 ∧ XK x.E) (hn : l.length ≤ 3) : (Go.Lib.join (l.map tSet) [44, 32]).length ≤ 2000000000 := by
 have := join_le (L := l.map tSet) (sep := [44, 32]) (B := 160000020) (fun x hx => by
  obtain ⟨y, hy, rfl⟩ := List.mem_map.1 hx
  exact yrc (h y hy).1 (h y hy).2)
 rw [List.length_map] at this
 exact Nat.le_trans this (Nat.le_trans (Nat.mul_le_mul_right _ hn) (by simp))
theorem ytt {s : yaO} (h : yxt s) : yds s (ymd s) := by
 have hnm := h.nm
 have hc := yvl h.cols h.nC
 have hr := yuM h.rows h.nR
 have hs := yvm h.sets h.nS
 have hw := yeh (w := [87, 72, 69, 82, 69]) h.wh (by simp)
 have hq := h.q.len
 have hi := yl2 h.n
 have nC := h.nC
 have nR := h.nR
 have nS := h.nS
 refine ⟨_, yqS h.wh (by simp), ?_⟩
 simp only [bq]
 unfold ymd
 refine cI (fun k => ?_) fun k1 => ?_
 ·rw [if_pos k]
  exact ⟨_, fun _ => ymM (g := ybS) (f := tCol) (B := 36) (fun y hy => ⟨yz7 (h.cols y hy).1 (h.cols y hy).2.1 (h.cols y hy).2.2, yoj (h.cols y hy).1⟩) (by omega) (by omega), by simp; omega, by simp; omega, _, yei (B := 300) (all3 (by simp) (by omega) (by simp; omega)) (by omega) (by simp), rfl⟩
 rw [if_neg k1]
 refine cI (fun k => ?_) fun k2 => ?_
 ·rw [if_pos k]
  exact ⟨_, yei (B := 20) (all2 (by simp) (by omega)) (by omega) (by simp), rfl⟩
 rw [if_neg k2]
 refine cI (fun k => ?_) fun k3 => ?_
 ·rw [if_pos k]
  exact ⟨_, fun _ => ymM (g := yfd) (f := tRow) (B := 480000010) (fun y hy => ⟨yzP (h.rows y hy).2 (h.rows y hy).1, yqj (h.rows y hy).2 (h.rows y hy).1⟩) (by omega) (by omega), _, yei (B := 2000000000) (all4 (by simp) (by omega) (by simp) hr) (by omega) (by simp), rfl⟩
 rw [if_neg k3]
 refine cI (fun k => ?_) fun k4 => ?_
 ·rw [if_pos k]
  exact ⟨_, yei (B := 160000020) (all3 (by simp) (by omega) hw) (by omega) (by simp), rfl⟩
 rw [if_neg k4]
 refine cI (fun k => ?_) fun k5 => ?_
 ·rw [if_pos k]
  exact ⟨_, fun _ => ymM (g := fun (y : yay) (z : Str) => ycw (⟨y.Name, (yab.mk y.E.Kind y.E.Op (⟨y.E.V.Kind, y.E.V.N, y.E.V.S⟩ : yae) y.E.Table y.E.Name y.E.L)⟩ : yay) z) (f := tSet) (B := 160000020) (fun y hy => ⟨by rw [ybw]; exact yzT (h.sets y hy).1 (h.sets y hy).2, yrc (h.sets y hy).1 (h.sets y hy).2⟩) (by omega) (by omega), _, yei (B := 2000000000) (all5 (by simp) (by omega) (by simp) hs (by omega)) (by omega) (by simp), rfl⟩
 rw [if_neg k5]
 refine cI (fun k => ?_) fun k6 => ?_
 ·rw [if_pos k]
  exact ⟨_, yq8 h.q, _, yei (B := 93000000003) (all4 (by simp) (by omega) (by simp) hq) (by omega) (by simp), rfl⟩
 rw [if_neg k6]
 refine cI (fun k => ?_) fun k7 => ?_
 ·rw [if_pos k]
  exact ⟨_, yei (B := 20) (all2 (by simp) (by omega)) (by omega) (by simp), rfl⟩
 rw [if_neg k7]
 refine cI (fun k => ?_) fun k8 => ?_
 ·rw [if_pos k]
  exact ⟨_, yq8 h.q, rfl⟩
 rw [if_neg k8]
 refine cI (fun k => ?_) fun k9 => ?_
 ·rw [if_pos k]
  exact ⟨_, yei (B := 20) (all2 (by simp) (by omega)) (by omega) (by simp), rfl⟩
 rw [if_neg k9]
 refine cI (fun k => ?_) fun k10 => ?_
 ·rw [if_pos k]
  exact ⟨_, ⟨rfl, h.n.1, h.n.2, rfl⟩, _, yei (B := 30) (all2 (by simp) (by omega)) (by omega) (by simp), rfl⟩
 rw [if_neg k10]
end Go.Proofs.YteoohihaibgplaaGreatDoor
end
noncomputable section
namespace Go.Proofs.YteoohihaibgplaaGreatDoor
open Go.AV Go.RowKit
noncomputable def ycG (x : yai) : yax := ⟨told x.E, x.As⟩
noncomputable def yf2 (c : yah) : yak := ⟨c.Name, c.Kind, c.Key⟩
noncomputable def yfj (o : yaj) : yal := ⟨o.Name, o.Desc⟩
noncomputable def yj1 (s : yaq) : yay := ⟨s.Name, told s.E⟩
noncomputable def X0 : X := .mk 0 0 ⟨0, 0, []⟩ [] [] []
noncomputable def ybQ (c : yaf) : yan := ⟨c.Distinct, c.Items.map ycG, c.From, c.Alias, c.Join, c.Left, c.Other, c.Named, if c.Join then ⟨told c.On.x0, told c.On.x1⟩ else ⟨X0, X0⟩, c.Where.map told, c.Group.map told, c.Having.map told⟩
noncomputable def yel (q : yav) : yaw := ⟨q.Cores.map ybQ, q.Order.map yfj, q.Limit⟩
noncomputable def ygO (m : yas) : yaO := ⟨m.Kind, m.Name, m.Columns.map yf2, m.Rows.map (·.map told), m.Sets.map yj1, m.Where.map told, yel m.Query, m.N⟩
noncomputable def DK (e : E6) : Prop := GE e (tx e)
theorem DK.x {e : E6} (h : DK e) : XK (told e) := ⟨h.prog, h.len⟩
theorem DK.xs {l : List E6} (h : ∀ e ∈ l, DK e) : ∀ x ∈ l.map told, XK x := fun x hx => by
 obtain ⟨y, hy, rfl⟩ := List.mem_map.1 hx
 exact (h y hy).x
structure yjN (c : yaf) : Prop where
 items : ∀ x ∈ c.Items, DK x.E ∧ x.As.length ≤ 9
 nI : c.Items.length ≤ 3
 fr : c.From.length ≤ 9
 al : c.Alias.length ≤ 9
 ot : c.Other.length ≤ 9
 nm : c.Named.length ≤ 9
 w0 : WF c.On.x0
 w1 : WF c.On.x1
 on : c.Join = true → DK c.On.x0 ∧ DK c.On.x1
 wh : ∀ x ∈ c.Where, DK x
 nW : c.Where.length ≤ 9
 gr : ∀ x ∈ c.Group, DK x
 nG : c.Group.length ≤ 2
 hv : ∀ x ∈ c.Having, DK x
 nH : c.Having.length ≤ 9
theorem yjN.x {c : yaf} (h : yjN c) : ylZ (ybQ c) := by
 refine ⟨fun x hx => ?_, by show (c.Items.map ycG).length ≤ 3; rw [List.length_map]; exact h.nI, h.fr, h.al, h.ot, h.nm, fun hj => ?_, DK.xs h.wh, DK.xs h.gr, by show (c.Group.map told).length ≤ 2; rw [List.length_map]; exact h.nG, DK.xs h.hv⟩
 ·have hx : x ∈ c.Items.map ycG := hx
  obtain ⟨y, hy, rfl⟩ := List.mem_map.1 hx
  exact ⟨(h.items y hy).1.x, (h.items y hy).2⟩
 ·have hj : c.Join = true := hj
  show XK (if c.Join then (⟨told c.On.x0, told c.On.x1⟩ : yaG) else ⟨X0, X0⟩).x0 ∧ XK (if c.Join then (⟨told c.On.x0, told c.On.x1⟩ : yaG) else ⟨X0, X0⟩).x1
  rw [if_pos hj]
  exact ⟨(h.on hj).1.x, (h.on hj).2.x⟩
theorem ysu {α : Type} {f : α → Str} {l : List α} {sep : Str} {B : Nat} (h : ∀ y ∈ l, (f y).length ≤ B) (hl : l.length ≤ 20) (hB : B ≤ 100000000000) (hs : sep.length ≤ 20) (k : Nat) : (Go.Lib.join ((l.take k).map f) sep).length ≤ 2000000000400 := by
 have := jle (sep := sep) h k
 exact Nat.le_trans this (Nat.le_trans (Nat.mul_le_mul hl (Nat.add_le_add hB hs)) (by omega))
theorem yth {l : List E6} (h : ∀ x ∈ l, DK x) (hl : l.length ≤ 20) : yc8 l (yq2 (l.map told)) := by
 refine lp2 (fun (o : Str) (i : Int) => ∃ k : Nat, i = k ∧ k ≤ l.length ∧ o = [] ++ Go.Lib.join ((l.take k).map tx) [44, 32]) (fun _ (i : Int) => l.length - i.toNat) ?_ ⟨0, rfl, by omega, rfl⟩
 rintro X o i ⟨k, rfl, hk, rfl⟩ hX _
 have hb := ysu (f := tx) (l := l) (sep := [44, 32]) (B := 160000000) (fun y hy => (h y hy).len) hl (by omega) (by simp) k
 by_cases hlt : k < l.length
 ·rw [decide_eq_true (show (k : Int) < l.length by omega)]
  refine cT fun J2 hJ2 => ?_
  have key : ∀ x, x = (if 0 < k then ([] ++ Go.Lib.join ((l.take k).map tx) [44, 32]) ++ [44, 32] else [] ++ Go.Lib.join ((l.take k).map tx) [44, 32]) → J2 x := by
   intro x hx
   apply hJ2
   have hy := h _ (List.getElem_mem hlt)
   have hlx : x.length ≤ 2000000000500 := by rw [hx]; split <;> simp only [List.length_append, List.length_cons, List.length_nil] <;> omega
   refine ⟨by omega, by omega, l[k], gAt hlt, _, by rw [ybZ]; exact hy.doc, by have := hy.len; omega, ?_⟩
   rw [w1 (by omega)]
   refine hX _ _ ⟨k + 1, rfl, by omega, ?_⟩ (by omega)
   rw [hx]; exact yqC tx l [44, 32] [] hlt
  refine ⟨fun c => ⟨by simp only [List.length_append, List.length_cons, List.length_nil]; omega, key _ ?_⟩, fun c => key _ ?_⟩
  ·have c : (0 : Int) < k := by simpa using c
   rw [if_pos (by omega)]
  ·have c : ¬ (0 : Int) < k := by simpa using c
   rw [if_neg (by omega)]
 ·rw [decide_eq_false (show ¬ (k : Int) < l.length by omega)]
  have : k = l.length := by omega
  subst this
  rw [List.take_length]
  refine cF ?_
  show [] ++ Go.Lib.join (l.map tx) [44, 32] = Go.Lib.join ((l.map told).map txX) [44, 32]
  rw [List.map_map]; rfl
theorem yoH {w : Str} {l : List E6} (h : ∀ x ∈ l, DK x) (hw : w.length ≤ 10) : ycz w l (ycY w (l.map told)) := by
 intro _
 cases l with
 | nil => exact cT rfl
 | cons e r =>
   have := (h e (by simp)).len
   rw [yAb] at this
   have e0 : (((e :: r).length : Int) == 0) = false := by simp; omega
   rw [e0]
   exact cF ⟨by simp; omega, by omega, by simp, e, rfl, _, by rw [ybZ]; exact (h e (by simp)).doc, by simp; omega, rfl⟩
theorem yu7 (x : yai) : yi5 (ycG x) = if x.As = [] then tx x.E else jn (jn (tx x.E) [65, 83]) x.As := by
 show jn (jn (jn [] (tx x.E)) (whn (!(x.As == ([] : Str))) [65, 83])) x.As = _
 rw [ydj]
 by_cases h : x.As = []
 ·rw [if_pos h, h]; show jn (jn (tx x.E) []) [] = _; rw [yeo, yeo]
 ·rw [if_neg h]
  have : (!(x.As == ([] : Str))) = true := by simpa using h
  rw [this]; rfl
theorem ysD {c : yaf} : ydd (c.Items.map ycG) = if c.Items.length = 0 then [42] else Go.Lib.join (c.Items.map (yi5 ∘ ycG)) [44, 32] := by
 unfold ydd
 rw [List.length_map, List.map_map]
theorem yve (c : yan) : yfF c ≠ [] := by
 show [whn c.Distinct [68, 73, 83, 84, 73, 78, 67, 84], ydd c.Items, [70, 82, 79, 77], c.From, c.Alias, yfA c, ycY [87, 72, 69, 82, 69] c.Where, ydG c.Group, ycY [72, 65, 86, 73, 78, 71] c.Having].foldl jn (jn [] [83, 69, 76, 69, 67, 84]) ≠ []
 rw [ylK]
 exact yet (by decide)
theorem yyd {c : yaf} (h : yjN c) : yey c (yfF (ybQ c)) := by
 have hx := h.x
 have hit := yo2 hx.items hx.nI
 have hJ := hx.join_le
 have hG := yqb hx.gr hx.nG
 have hW := yeh (w := [87, 72, 69, 82, 69]) hx.wh (by simp)
 have hH := yeh (w := [72, 65, 86, 73, 78, 71]) hx.hv (by simp)
 have hfr := h.fr
 have hal := h.al
 have hot := h.ot
 have hnm := h.nm
 have nI := h.nI
 intro J1 hJ1
 have main : J1 (jn [83, 69, 76, 69, 67, 84] (whn c.Distinct [68, 73, 83, 84, 73, 78, 67, 84])) := by
  apply hJ1
  generalize hhd : jn [83, 69, 76, 69, 67, 84] (whn c.Distinct [68, 73, 83, 84, 73, 78, 67, 84]) = hd
  have hdn : hd ≠ [] := by rw [← hhd]; exact yet (by decide)
  have hdl : hd.length ≤ 20 := by rw [← hhd]; have := yci [83, 69, 76, 69, 67, 84] (whn c.Distinct [68, 73, 83, 84, 73, 78, 67, 84]); have k := yhs c.Distinct [68, 73, 83, 84, 73, 78, 67, 84]; simp at this k; omega
  refine lp2 (fun (o : Str) (i : Int) => ∃ k : Nat, i = k ∧ k ≤ c.Items.length ∧ o = [] ++ Go.Lib.join ((c.Items.take k).map (yi5 ∘ ycG)) [44, 32]) (fun _ (i : Int) => c.Items.length - i.toNat) ?_ ⟨0, rfl, by omega, rfl⟩
  rintro X o i ⟨k, rfl, hk, rfl⟩ hX _
  have hb := ysu (f := yi5 ∘ ycG) (l := c.Items) (sep := [44, 32]) (B := 480000003) (fun y hy => yk7 (i := ycG y) (h.items y hy).1.x (h.items y hy).2) (by omega) (by omega) (by simp) k
  by_cases hlt : k < c.Items.length
  ·rw [decide_eq_true (show (k : Int) < c.Items.length by omega)]
   refine cT fun J3 hJ3 => ?_
   have key : ∀ x, x = (if 0 < k then ([] ++ Go.Lib.join ((c.Items.take k).map (yi5 ∘ ycG)) [44, 32]) ++ [44, 32] else [] ++ Go.Lib.join ((c.Items.take k).map (yi5 ∘ ycG)) [44, 32]) → J3 x := by
    intro x hx'
    apply hJ3
    have hy := h.items _ (List.getElem_mem hlt)
    have hlx : x.length ≤ 2000000000500 := by rw [hx']; split <;> simp only [List.length_append, List.length_cons, List.length_nil] <;> omega
    have hyl := hy.1.len
    have hti := yk7 (i := ycG c.Items[k]) hy.1.x hy.2
    refine ⟨by omega, by omega, c.Items[k], gAt hlt, _, by rw [ybZ]; exact hy.1.doc, fun J4 hJ4 => ⟨by omega, by omega, c.Items[k], gAt hlt, ?_⟩⟩
    have k4 : J4 (yi5 (ycG c.Items[k])) := by
     apply hJ4
     refine ⟨by omega, ?_⟩
     rw [w1 (by omega)]
     refine hX _ _ ⟨k + 1, rfl, by omega, ?_⟩ (by omega)
     rw [hx']; exact yqC (yi5 ∘ ycG) c.Items [44, 32] [] hlt
    rw [yu7] at k4
    refine ⟨fun q => ?_, fun q => ?_⟩
    ·have q : ¬ c.Items[k].As = [] := by simpa using q
     rw [if_neg q] at k4
     have l1 := yci (tx c.Items[k].E) [65, 83]
     simp at l1
     exact ⟨_, yc2 (by simp; omega), by omega, by omega, c.Items[k], gAt hlt, _, yc2 (by omega), k4⟩
    ·have q : c.Items[k].As = [] := by simpa using q
     rw [if_pos q] at k4; exact k4
   refine ⟨fun q => ⟨by simp only [List.length_append, List.length_cons, List.length_nil]; omega, key _ ?_⟩, fun q => key _ ?_⟩
   ·have q : (0 : Int) < k := by simpa using q
    rw [if_pos (by omega)]
   ·have q : ¬ (0 : Int) < k := by simpa using q
    rw [if_neg (by omega)]
  ·rw [decide_eq_false (show ¬ (k : Int) < c.Items.length by omega)]
   have : k = c.Items.length := by omega
   subst this
   rw [List.take_length]
   refine cF fun J5 hJ5 _ => ?_
   have k5 : J5 (ydd (c.Items.map ycG)) := by
    apply hJ5
    have a1 := yci hd (ydd (c.Items.map ycG))
    have hit : (ydd (c.Items.map ycG)).length ≤ 1500000000 := hit
    have a2 := yci (jn hd (ydd (c.Items.map ycG))) [70, 82, 79, 77]
    have a3 := yci (jn (jn hd (ydd (c.Items.map ycG))) [70, 82, 79, 77]) c.From
    have a4 := yci (jn (jn (jn hd (ydd (c.Items.map ycG))) [70, 82, 79, 77]) c.From) c.Alias
    have e4 : ([70, 82, 79, 77] : Str).length = 4 := rfl
    refine ⟨_, yc2 (by omega), _, yc2 (by omega), _, yc2 (by omega), _, yc2 (by omega), fun J6 hJ6 => ?_⟩
    generalize hz : jn (jn (jn (jn hd (ydd (c.Items.map ycG))) [70, 82, 79, 77]) c.From) c.Alias = z at a4
    have hzn : z ≠ [] := by rw [← hz]; exact yet (yet (yet (yet hdn)))
    have k6 : J6 (jn z (yfA (ybQ c))) := by
     apply hJ6
     have b1 := yci z (yfA (ybQ c))
     have hW : (ycY [87, 72, 69, 82, 69] (c.Where.map told)).length ≤ 160000020 := hW
     have hH : (ycY [72, 65, 86, 73, 78, 71] (c.Having.map told)).length ≤ 160000020 := hH
     have hG : (ydG (c.Group.map told)).length ≤ 400000000 := hG
     have b2 := yci (jn z (yfA (ybQ c))) (ycY [87, 72, 69, 82, 69] (c.Where.map told))
     refine ⟨_, yoH h.wh (by simp), _, yc2 (by omega), fun J7 hJ7 _ => ?_⟩
     have k7 : J7 (jn (jn (jn z (yfA (ybQ c))) (ycY [87, 72, 69, 82, 69] (c.Where.map told))) (ydG (c.Group.map told))) := by
      apply hJ7
      have b3 := yci (jn (jn z (yfA (ybQ c))) (ycY [87, 72, 69, 82, 69] (c.Where.map told))) (ydG (c.Group.map told))
      refine ⟨_, yoH h.hv (by simp), _, yc2 (by omega), ?_⟩
      rw [← hz, ← hhd]
      rfl
     have hn := h.nG
     have hgl := yg6 (DK.xs h.gr)
     rw [List.length_map] at hgl
     refine ⟨fun q => ⟨_, yth h.gr (by omega), by simp; omega, by simp; omega, ?_⟩, fun q => ?_⟩
     ·have q : 0 < (c.Group.length : Int) := by simpa using q
      have e : ydG (c.Group.map told) = [71, 82, 79, 85, 80, 32, 66, 89, 32] ++ yq2 (c.Group.map told) := by unfold ydG; rw [List.length_map, if_neg (by omega)]
      rw [e, ycO (yet (yet hzn)) (by simp)] at k7
      simpa using k7
     ·have q : ¬ 0 < (c.Group.length : Int) := by simpa using q
      have e : ydG (c.Group.map told) = [] := by unfold ydG; rw [List.length_map, if_pos (by omega)]
      rw [e, yeo] at k7; exact k7
    refine ⟨fun hj => fun J8 hJ8 => ?_, fun hj => ?_⟩
    ·have k8 : J8 (jn z (whn c.Left [76, 69, 70, 84])) := by
      apply hJ8
      have o0 := (h.on hj).1.len
      have o1 := (h.on hj).2.len
      have b1 := yci z (whn c.Left [76, 69, 70, 84])
      have b0 := yhs c.Left [76, 69, 70, 84]
      simp at b0
      have ez : jn z (whn c.Left [76, 69, 70, 84]) ++ [32, 74, 79, 73, 78] = jn (jn z (whn c.Left [76, 69, 70, 84])) [74, 79, 73, 78] := by
       rw [ycO (yet hzn) (by decide)]; simp
      rw [yis, ez]
      generalize hy : jn z (whn c.Left [76, 69, 70, 84]) = y at *
      have hyn : y ≠ [] := by rw [← hy]; exact yet hzn
      have c1 := yci y [74, 79, 73, 78]
      have c2 := yci (jn y [74, 79, 73, 78]) c.Other
      have c3 := yci (jn (jn y [74, 79, 73, 78]) c.Other) c.Named
      have c4 := yci (jn (jn (jn y [74, 79, 73, 78]) c.Other) c.Named) [79, 78]
      have c5 := yci (jn (jn (jn (jn y [74, 79, 73, 78]) c.Other) c.Named) [79, 78]) (tx c.On.x0)
      have c6 := yci (jn (jn (jn (jn (jn y [74, 79, 73, 78]) c.Other) c.Named) [79, 78]) (tx c.On.x0)) [61]
      simp only [List.length_cons, List.length_nil] at c1 c4 c6
      have ey : jn (jn (jn y [74, 79, 73, 78]) c.Other) c.Named ++ [32, 79, 78] = jn (jn (jn (jn y [74, 79, 73, 78]) c.Other) c.Named) [79, 78] := by
       rw [ycO (yet (yet (yet hyn))) (by decide)]; simp
      refine ⟨by simp; omega, _, yc2 (by omega), _, yc2 (by omega), by simp; omega, _, by rw [ybZ]; exact (h.on hj).1.doc, _, by rw [ey]; exact yc2 (by omega), _, yc2 (by simp; omega), _, by rw [ybZ]; exact (h.on hj).2.doc, _, yc2 (by omega), ?_⟩
      have ej : yfA (ybQ c) = wds [whn c.Left [76, 69, 70, 84], [74, 79, 73, 78], c.Other, c.Named, [79, 78], tx c.On.x0, [61], tx c.On.x1] := by
       unfold yfA ybQ
       simp only [hj, if_true]
       rfl
      rw [ej, ← ylK] at k6
      simp only [List.foldl_cons, List.foldl_nil, hy] at k6
      exact k6
     refine ⟨fun hl => ⟨by simp; omega, ?_⟩, fun hl => ?_⟩
     ·rw [hl] at k8
      have : jn z (whn true [76, 69, 70, 84]) = z ++ [32, 76, 69, 70, 84] := by
       show jn z [76, 69, 70, 84] = _
       rw [ycO hzn (by decide)]; simp
      rw [this] at k8; exact k8
     ·rw [hl] at k8
      have : jn z (whn false [76, 69, 70, 84]) = z := yeo z
      rw [this] at k8; exact k8
    ·have ej : yfA (ybQ c) = [] := by
      unfold yfA ybQ
      simp [hj]
     rw [ej, yeo] at k6; exact k6
   rw [ysD] at k5
   refine ⟨fun q => ?_, fun q => ?_⟩
   ·have q : (c.Items.length : Int) = 0 := by simpa using q
    rw [if_pos (by omega)] at k5; exact k5
   ·have q : ¬ (c.Items.length : Int) = 0 := by simpa using q
    rw [if_neg (by omega)] at k5; exact k5
 refine ⟨fun q => ⟨by simp, ?_⟩, fun q => ?_⟩
 ·rw [q] at main; exact main
 ·rw [q] at main; exact main
end Go.Proofs.YteoohihaibgplaaGreatDoor
end
noncomputable section
namespace Go.Proofs.YteoohihaibgplaaGreatDoor
open Go.AV Go.RowKit
theorem ytp (y : yaf) : (⟨y.Distinct, y.Items, y.From, y.Alias, y.Join, y.Left, y.Other, y.Named, (⟨(yaa.mk y.On.x0.Kind y.On.x0.Op (⟨y.On.x0.V.Kind, y.On.x0.V.N, y.On.x0.V.S⟩ : yad) y.On.x0.Table y.On.x0.Name y.On.x0.L), (yaa.mk y.On.x1.Kind y.On.x1.Op (⟨y.On.x1.V.Kind, y.On.x1.V.N, y.On.x1.V.S⟩ : yad) y.On.x1.Table y.On.x1.Name y.On.x1.L)⟩ : yaL), y.Where, y.Group, y.Having⟩ : yaf) = y := by
 rw [ybZ, ybZ]
structure ykp (q : yav) : Prop where
 cores : ∀ c ∈ q.Cores, yjN c
 nC : q.Cores.length ≤ 2
 ord : ∀ o ∈ q.Order, o.Name.length ≤ 9
 nO : q.Order.length ≤ 2
 lim : ∀ n ∈ q.Limit, Rg n
 nL : q.Limit.length ≤ 9
theorem ykp.x {q : yav} (h : ykp q) : yiT (yel q) := by
 refine ⟨fun c hc => ?_, by show (q.Cores.map ybQ).length ≤ 2; rw [List.length_map]; exact h.nC, fun o ho => ?_, by show (q.Order.map yfj).length ≤ 2; rw [List.length_map]; exact h.nO, h.lim⟩
 ·have hc : c ∈ q.Cores.map ybQ := hc
  obtain ⟨y, hy, rfl⟩ := List.mem_map.1 hc
  exact (h.cores y hy).x
 ·have ho : o ∈ q.Order.map yfj := ho
  obtain ⟨y, hy, rfl⟩ := List.mem_map.1 ho
  exact h.ord y hy
theorem yw1 (o : yaj) : tOrd (yfj o) = if o.Desc then jn o.Name [68, 69, 83, 67] else o.Name := by
 show jn (jn [] o.Name) (whn o.Desc [68, 69, 83, 67]) = _
 rw [ydj]
 cases o.Desc with
 | true => rfl
 | false => exact yeo _
theorem yqs (l : List yaj) {k : Nat} (h : k < l.length) : yd0 ((l.take (k + 1)).map yfj) = if k = 0 then [79, 82, 68, 69, 82, 32, 66, 89, 32] ++ tOrd (yfj l[k]) else yd0 ((l.take k).map yfj) ++ ([44, 32] ++ tOrd (yfj l[k])) := by
 unfold yd0
 rw [if_neg (by rw [List.length_map, List.length_take]; omega), List.map_map, ← yqC (tOrd ∘ yfj) l [44, 32] _ h]
 by_cases hk : k = 0
 ·subst hk
  rw [if_pos rfl, if_neg (by omega)]
  simp [Go.Lib.join_nil]
 ·rw [if_neg hk, if_pos (by omega), if_neg (by rw [List.length_map, List.length_take]; omega), List.map_map]
  simp [Function.comp]
theorem yri {q : yav} (h : ykp q) : ybz q (yiz (yel q)) := by
 have nC := h.nC
 have nO := h.nO
 have hcl := h.x.cores_le
 refine lp2 (fun (o : Str) (i : Int) => ∃ k : Nat, i = k ∧ k ≤ q.Cores.length ∧ o = [] ++ Go.Lib.join ((q.Cores.take k).map (yfF ∘ ybQ)) [32, 85, 78, 73, 79, 78, 32, 65, 76, 76, 32]) (fun _ (i : Int) => q.Cores.length - i.toNat) ?_ ⟨0, rfl, by omega, rfl⟩
 rintro X o i ⟨k, rfl, hk, rfl⟩ hX _
 have hb := ysu (f := yfF ∘ ybQ) (l := q.Cores) (sep := [32, 85, 78, 73, 79, 78, 32, 65, 76, 76, 32]) (B := 15000000010) (fun y hy => (h.cores y hy).x.len) (by omega) (by omega) (by simp) k
 by_cases hlt : k < q.Cores.length
 ·rw [decide_eq_true (show (k : Int) < q.Cores.length by omega)]
  refine cT fun J2 hJ2 => ?_
  have key : ∀ x, x = (if 0 < k then ([] ++ Go.Lib.join ((q.Cores.take k).map (yfF ∘ ybQ)) [32, 85, 78, 73, 79, 78, 32, 65, 76, 76, 32]) ++ [32, 85, 78, 73, 79, 78, 32, 65, 76, 76, 32] else [] ++ Go.Lib.join ((q.Cores.take k).map (yfF ∘ ybQ)) [32, 85, 78, 73, 79, 78, 32, 65, 76, 76, 32]) → J2 x := by
   intro x hx
   apply hJ2
   have hy := h.cores _ (List.getElem_mem hlt)
   have hlx : x.length ≤ 2000000000500 := by rw [hx]; split <;> simp only [List.length_append, List.length_cons, List.length_nil] <;> omega
   have := hy.x.len
   refine ⟨by omega, by omega, q.Cores[k], gAt hlt, _, by rw [ytp]; exact yyd hy, by omega, ?_⟩
   rw [w1 (by omega)]
   refine hX _ _ ⟨k + 1, rfl, by omega, ?_⟩ (by omega)
   rw [hx]; exact yqC (yfF ∘ ybQ) q.Cores [32, 85, 78, 73, 79, 78, 32, 65, 76, 76, 32] [] hlt
  refine ⟨fun c => ⟨by simp only [List.length_append, List.length_cons, List.length_nil]; omega, key _ ?_⟩, fun c => key _ ?_⟩
  ·have c : (0 : Int) < k := by simpa using c
   rw [if_pos (by omega)]
  ·have c : ¬ (0 : Int) < k := by simpa using c
   rw [if_neg (by omega)]
 ·rw [decide_eq_false (show ¬ (k : Int) < q.Cores.length by omega)]
  have : k = q.Cores.length := by omega
  subst this
  rw [List.take_length] at hb ⊢
  rw [List.nil_append]
  refine cF ?_
  clear hX X hlt hk
  refine lp2 (fun (o : Str) (i : Int) => ∃ k : Nat, i = k ∧ k ≤ q.Order.length ∧ o = yd0 ((q.Order.take k).map yfj)) (fun _ (i : Int) => q.Order.length - i.toNat) ?_ ⟨0, rfl, by omega, rfl⟩
  rintro X o i ⟨k, rfl, hk, rfl⟩ hX _
  have ho := ylL (l := (q.Order.take k).map yfj) (fun o ho => by
   obtain ⟨y, hy, rfl⟩ := List.mem_map.1 ho
   exact h.ord y (List.mem_of_mem_take hy)) (by simp; omega)
  by_cases hlt : k < q.Order.length
  ·rw [decide_eq_true (show (k : Int) < q.Order.length by omega)]
   refine cT ⟨by omega, by omega, q.Order[k], gAt hlt, fun J4 hJ4 => ⟨by omega, by omega, q.Order[k], gAt hlt, ?_⟩⟩
   have hy := h.ord _ (List.getElem_mem hlt)
   have hyl := yrg (o := yfj q.Order[k]) hy
   have k4 : J4 (tOrd (yfj q.Order[k])) := by
    apply hJ4
    have es := yqs q.Order hlt
    unfold yeK
    rw [w1 (by omega)]
    refine ⟨fun c => ?_, fun c => ?_⟩
    ·have c : (k : Int) = 0 := by simpa using c
     rw [if_pos (by omega)] at es
     refine ⟨by simp; omega, ?_⟩
     rw [← es]
     exact hX _ _ ⟨k + 1, rfl, by omega, rfl⟩ (by omega)
    ·have c : ¬ (k : Int) = 0 := by simpa using c
     rw [if_neg (by omega)] at es
     refine ⟨by simp; omega, by simp only [List.length_append, List.length_cons, List.length_nil]; omega, ?_⟩
     rw [← es]
     exact hX _ _ ⟨k + 1, rfl, by omega, rfl⟩ (by omega)
   rw [yw1] at k4
   refine ⟨fun c => ?_, fun c => ?_⟩
   ·rw [c] at k4; exact ⟨_, yc2 (by simp; omega), k4⟩
   ·rw [c] at k4; exact k4
  ·rw [decide_eq_false (show ¬ (k : Int) < q.Order.length by omega)]
   have : k = q.Order.length := by omega
   subst this
   rw [List.take_length] at ho ⊢
   have a1 := yci (Go.Lib.join (q.Cores.map (yfF ∘ ybQ)) [32, 85, 78, 73, 79, 78, 32, 65, 76, 76, 32]) (yd0 (q.Order.map yfj))
   have fin : jn (jn (Go.Lib.join (q.Cores.map (yfF ∘ ybQ)) [32, 85, 78, 73, 79, 78, 32, 65, 76, 76, 32]) (yd0 (q.Order.map yfj))) (yjh q.Limit) = yiz (yel q) := by
    show _ = jn (jn (jn [] (Go.Lib.join ((q.Cores.map ybQ).map yfF) [32, 85, 78, 73, 79, 78, 32, 65, 76, 76, 32])) (yd0 (q.Order.map yfj))) (yjh q.Limit)
    rw [ydj, List.map_map]
   refine cF ⟨_, yc2 (by omega), fun _ => ?_⟩
   cases hL : q.Limit with
   | nil =>
     rw [hL, show yjh [] = [] from rfl, yeo] at fin
     exact cF fin
   | cons n r =>
     rw [hL] at fin
     have hr := h.lim n (by rw [hL]; simp)
     have := yl2 hr
     rw [decide_eq_true (show (0 : Int) < ((n :: r).length : Int) by simp)]
     exact cT ⟨by omega, by simp, n, rfl, _, yqR hr, by simp; omega, _, yc2 (by simp; omega), fin⟩
theorem yuO {a b : Str} (h : a ≠ []) (hb : b.length ≤ 1000000000000) : ∃ s, yc6 b s ∧ a ++ s = jn a b ∧ s.length ≤ b.length + 1 := by
 by_cases hb0 : b = []
 ·subst hb0
  exact ⟨[], cT rfl, by rw [yeo, List.append_nil], by simp⟩
 ·have e : (b == ([] : Str)) = false := by simpa using hb0
  refine ⟨[32] ++ b, ?_, by rw [ycO h hb0, List.append_assoc], by simp⟩
  unfold yc6
  rw [e]
  exact cF ⟨by simp; omega, rfl⟩
theorem yw9 : ∀ l : List Str, l ≠ [] → Go.Lib.join (l.map ([32] ++ ·)) [44] = [32] ++ Go.Lib.join l [44, 32] := by
 apply yrk
 ·intro h; exact absurd rfl h
 ·intro l x ih _
  rw [List.map_append]
  show Go.Lib.join (l.map ([32] ++ ·) ++ [[32] ++ x]) [44] = _
  rw [yif, yif]
  by_cases hl : l = []
  ·subst hl; rfl
  ·rw [if_neg (by simpa using hl), if_neg hl, ih hl]; simp
end Go.Proofs.YteoohihaibgplaaGreatDoor
end
noncomputable section
namespace Go.Proofs.YteoohihaibgplaaGreatDoor
open Go.AV Go.RowKit
structure yo5 (m : yas) : Prop where
 nm : m.Name.length ≤ 9
 cols : ∀ c ∈ m.Columns, c.Name.length ≤ 9 ∧ 1 ≤ c.Kind ∧ c.Kind ≤ 3
 nC : m.Columns.length ≤ 4
 rows : ∀ l ∈ m.Rows, l.length ≤ 3 ∧ ∀ x ∈ l, DK x
 nR : m.Rows.length ≤ 3
 sets : ∀ x ∈ m.Sets, x.Name.length ≤ 9 ∧ DK x.E
 nS : m.Sets.length ≤ 3
 wh : ∀ x ∈ m.Where, DK x
 nW : m.Where.length ≤ 9
 q : ykp m.Query
 n : Rg m.N
theorem yo5.x {m : yas} (h : yo5 m) : yxt (ygO m) := by
 refine ⟨h.nm, fun c hc => ?_, by show (m.Columns.map yf2).length ≤ 4; rw [List.length_map]; exact h.nC, fun l hl => ?_, by show (m.Rows.map (·.map told)).length ≤ 3; rw [List.length_map]; exact h.nR, fun x hx => ?_, by show (m.Sets.map yj1).length ≤ 3; rw [List.length_map]; exact h.nS, DK.xs h.wh, h.q.x, h.n⟩
 ·have hc : c ∈ m.Columns.map yf2 := hc
  obtain ⟨y, hy, rfl⟩ := List.mem_map.1 hc
  exact h.cols y hy
 ·have hl : l ∈ m.Rows.map (·.map told) := hl
  obtain ⟨y, hy, rfl⟩ := List.mem_map.1 hl
  exact ⟨by rw [List.length_map]; exact (h.rows y hy).1, DK.xs (h.rows y hy).2⟩
 ·have hx : x ∈ m.Sets.map yj1 := hx
  obtain ⟨y, hy, rfl⟩ := List.mem_map.1 hx
  exact ⟨(h.sets y hy).1, (h.sets y hy).2.x⟩
theorem yyO (k : Int) : ydL k (yn6 k) := by
 unfold ydL yn6
 simp only [bq]
 refine cI (fun h => by rw [if_pos h]) fun h => ?_
 rw [if_neg h]
 refine cI (fun h => by rw [if_pos h]) fun h => ?_
 rw [if_neg h]
 refine cI (fun h => by rw [if_pos h]) fun h => ?_
 rw [if_neg h]
theorem yzl {m : yas} (h : yo5 m) {base r : Str} (hb : base.length ≤ 100) (hr : base ++ Go.Lib.join (m.Columns.map (tCol ∘ yf2)) [44, 32] ++ [41] = r) : ∀ X : Str → Int → Prop, (∀ x2 x3, yij m r X x2 x3 → X x2 x3) → X base 0 := by
 have nC := h.nC
 refine lp2 (fun (o : Str) (i : Int) => ∃ k : Nat, i = k ∧ k ≤ m.Columns.length ∧ o = base ++ Go.Lib.join ((m.Columns.take k).map (tCol ∘ yf2)) [44, 32]) (fun _ (i : Int) => m.Columns.length - i.toNat) ?_ ⟨0, rfl, by omega, by simp [Go.Lib.join_nil]⟩
 rintro X o i ⟨k, rfl, hk, rfl⟩ hX _
 have hj := ysu (f := tCol ∘ yf2) (l := m.Columns) (sep := [44, 32]) (B := 36) (fun y hy => yoj (c := yf2 y) (h.cols y hy).1) (by omega) (by omega) (by simp) k
 by_cases hlt : k < m.Columns.length
 ·rw [decide_eq_true (show (k : Int) < m.Columns.length by omega)]
  refine cT ⟨by omega, by omega, m.Columns[k], gAt hlt, fun J2 hJ2 => ?_⟩
  have key : ∀ x, x = (if 0 < k then (base ++ Go.Lib.join ((m.Columns.take k).map (tCol ∘ yf2)) [44, 32]) ++ [44, 32] else base ++ Go.Lib.join ((m.Columns.take k).map (tCol ∘ yf2)) [44, 32]) → J2 x := by
   intro x hx
   apply hJ2
   have hy := h.cols _ (List.getElem_mem hlt)
   have hlx : x.length ≤ 2000000001000 := by rw [hx]; split <;> simp only [List.length_append, List.length_cons, List.length_nil] <;> omega
   have hyl := yoj (c := yf2 m.Columns[k]) hy.1
   have kl := ynO m.Columns[k].Kind
   have a1 := yci m.Columns[k].Name (yn6 m.Columns[k].Kind)
   refine ⟨_, yyO _, _, yc2 (by omega), fun J3 hJ3 => ?_⟩
   have k3 : J3 (tCol (yf2 m.Columns[k])) := by
    apply hJ3
    refine ⟨by omega, ?_⟩
    rw [w1 (by omega)]
    refine hX _ _ ⟨k + 1, rfl, by omega, ?_⟩ (by omega)
    rw [hx]; exact yqC (tCol ∘ yf2) m.Columns [44, 32] base hlt
   have e : tCol (yf2 m.Columns[k]) = jn (jn m.Columns[k].Name (yn6 m.Columns[k].Kind)) (whn m.Columns[k].Key [80, 82, 73, 77, 65, 82, 89, 32, 75, 69, 89]) := by
    show jn (jn (jn [] m.Columns[k].Name) (yn6 m.Columns[k].Kind)) (whn m.Columns[k].Key [80, 82, 73, 77, 65, 82, 89, 32, 75, 69, 89]) = _
    rw [ydj]
   rw [e] at k3
   refine ⟨fun q => ?_, fun q => ?_⟩
   ·rw [q] at k3; exact ⟨_, yc2 (by simp; omega), k3⟩
   ·rw [q, show whn false [80, 82, 73, 77, 65, 82, 89, 32, 75, 69, 89] = [] from rfl, yeo] at k3; exact k3
  refine ⟨fun c => ⟨by simp only [List.length_append, List.length_cons, List.length_nil]; omega, key _ ?_⟩, fun c => key _ ?_⟩
  ·have c : (0 : Int) < k := by simpa using c
   rw [if_pos (by omega)]
  ·have c : ¬ (0 : Int) < k := by simpa using c
   rw [if_neg (by omega)]
 ·rw [decide_eq_false (show ¬ (k : Int) < m.Columns.length by omega)]
  have : k = m.Columns.length := by omega
  subst this
  rw [List.take_length] at hj ⊢
  exact cF ⟨by simp only [List.length_append, List.length_cons, List.length_nil]; omega, hr⟩
theorem yyu {m : yas} (h : yo5 m) {base r : Str} (hb : base.length ≤ 100) (hr : base ++ Go.Lib.join (m.Rows.map fun l => [32] ++ tRow (l.map told)) [44] = r) : ∀ X : Str → Int → Prop, (∀ x2 x3, yiy m r X x2 x3 → X x2 x3) → X base 0 := by
 have nR := h.nR
 refine lp2 (fun (o : Str) (i : Int) => ∃ k : Nat, i = k ∧ k ≤ m.Rows.length ∧ o = base ++ Go.Lib.join ((m.Rows.take k).map fun l => [32] ++ tRow (l.map told)) [44]) (fun _ (i : Int) => m.Rows.length - i.toNat) ?_ ⟨0, rfl, by omega, by simp [Go.Lib.join_nil]⟩
 rintro X o i ⟨k, rfl, hk, rfl⟩ hX _
 have hj := ysu (f := fun l => [32] ++ tRow (l.map told)) (l := m.Rows) (sep := [44]) (B := 480000011) (fun y hy => by
  have := yqj (l := y.map told) (DK.xs (h.rows y hy).2) (by rw [List.length_map]; exact (h.rows y hy).1)
  show ([32] ++ tRow (y.map told)).length ≤ _
  rw [List.length_append]
  show 1 + _ ≤ _
  omega) (by omega) (by omega) (by simp) k
 by_cases hlt : k < m.Rows.length
 ·rw [decide_eq_true (show (k : Int) < m.Rows.length by omega)]
  refine cT fun J5 hJ5 => ?_
  have key : ∀ x, x = (if 0 < k then (base ++ Go.Lib.join ((m.Rows.take k).map fun l => [32] ++ tRow (l.map told)) [44]) ++ [44] else base ++ Go.Lib.join ((m.Rows.take k).map fun l => [32] ++ tRow (l.map told)) [44]) → J5 x := by
   intro x hx
   apply hJ5
   have hy := h.rows _ (List.getElem_mem hlt)
   have hlx : x.length ≤ 2000000001000 := by rw [hx]; split <;> simp only [List.length_append, List.length_cons, List.length_nil] <;> omega
   have hyl := yg6 (DK.xs hy.2)
   rw [List.length_map] at hyl
   refine ⟨by omega, by omega, m.Rows[k], gAt hlt, _, yth hy.2 (by omega), by simp; omega, by simp; omega, by simp; omega, ?_⟩
   rw [w1 (by omega)]
   refine hX _ _ ⟨k + 1, rfl, by omega, ?_⟩ (by omega)
   have := yqC (fun l => [32] ++ tRow (l.map told)) m.Rows [44] base hlt
   rw [← this, hx]
   unfold tRow
   simp
  refine ⟨fun c => ⟨by simp only [List.length_append, List.length_cons, List.length_nil]; omega, key _ ?_⟩, fun c => key _ ?_⟩
  ·have c : (0 : Int) < k := by simpa using c
   rw [if_pos (by omega)]
  ·have c : ¬ (0 : Int) < k := by simpa using c
   rw [if_neg (by omega)]
 ·rw [decide_eq_false (show ¬ (k : Int) < m.Rows.length by omega)]
  have : k = m.Rows.length := by omega
  subst this
  rw [List.take_length]
  exact cF hr
theorem yzw {m : yas} (h : yo5 m) {z20 r : Str} (hz : z20.length ≤ 100) (hr : jn (jn (z20 ++ [32, 83, 69, 84]) (Go.Lib.join (m.Sets.map (tSet ∘ yj1)) [44, 32])) (ycY [87, 72, 69, 82, 69] (m.Where.map told)) = r) : ∀ X : Str → Int → Prop, (∀ x2 x3, yiD m z20 r X x2 x3 → X x2 x3) → X [] 0 := by
 have nS := h.nS
 refine lp2 (fun (o : Str) (i : Int) => ∃ k : Nat, i = k ∧ k ≤ m.Sets.length ∧ o = [] ++ Go.Lib.join ((m.Sets.take k).map (tSet ∘ yj1)) [44, 32]) (fun _ (i : Int) => m.Sets.length - i.toNat) ?_ ⟨0, rfl, by omega, by simp [Go.Lib.join_nil]⟩
 rintro X o i ⟨k, rfl, hk, rfl⟩ hX _
 have hj := ysu (f := tSet ∘ yj1) (l := m.Sets) (sep := [44, 32]) (B := 160000020) (fun y hy => yrc (s := yj1 y) (h.sets y hy).1 (h.sets y hy).2.x) (by omega) (by omega) (by simp) k
 by_cases hlt : k < m.Sets.length
 ·rw [decide_eq_true (show (k : Int) < m.Sets.length by omega)]
  refine cT fun J7 hJ7 => ?_
  have key : ∀ x, x = (if 0 < k then ([] ++ Go.Lib.join ((m.Sets.take k).map (tSet ∘ yj1)) [44, 32]) ++ [44, 32] else [] ++ Go.Lib.join ((m.Sets.take k).map (tSet ∘ yj1)) [44, 32]) → J7 x := by
   intro x hx
   apply hJ7
   have hy := h.sets _ (List.getElem_mem hlt)
   have hlx : x.length ≤ 2000000001000 := by rw [hx]; split <;> simp only [List.length_append, List.length_cons, List.length_nil] <;> omega
   have hyl := hy.2.len
   have hnl := hy.1
   refine ⟨by omega, by omega, m.Sets[k], gAt hlt, by simp; omega, by omega, by omega, m.Sets[k], gAt hlt, _, by rw [ybZ]; exact hy.2.doc, by simp; omega, by simp; omega, ?_⟩
   rw [w1 (by omega)]
   refine hX _ _ ⟨k + 1, rfl, by omega, ?_⟩ (by omega)
   have := yqC (tSet ∘ yj1) m.Sets [44, 32] [] hlt
   rw [← this, hx]
   rfl
  refine ⟨fun c => ⟨by simp only [List.length_append, List.length_cons, List.length_nil]; omega, key _ ?_⟩, fun c => key _ ?_⟩
  ·have c : (0 : Int) < k := by simpa using c
   rw [if_pos (by omega)]
  ·have c : ¬ (0 : Int) < k := by simpa using c
   rw [if_neg (by omega)]
 ·rw [decide_eq_false (show ¬ (k : Int) < m.Sets.length by omega)]
  have : k = m.Sets.length := by omega
  subst this
  rw [List.take_length] at hj ⊢
  rw [List.nil_append]
  have hw := yeh (w := [87, 72, 69, 82, 69]) (DK.xs h.wh) (by simp)
  have a1 := yci (z20 ++ [32, 83, 69, 84]) (Go.Lib.join (m.Sets.map (tSet ∘ yj1)) [44, 32])
  rw [List.length_append] at a1
  have e4 : ([32, 83, 69, 84] : Str).length = 4 := rfl
  exact cF ⟨_, yc2 (by rw [List.length_append]; omega), _, yoH h.wh (by simp), _, yc2 (by omega), hr⟩
theorem yy2 {m : yas} (h : yo5 m) : ydM m (ymd (ygO m)) := by
 have hnm := h.nm
 have hw := yeh (w := [87, 72, 69, 82, 69]) (DK.xs h.wh) (by simp)
 have hq := h.q.x.len
 have hi := yl2 h.n
 unfold ydM
 simp only [bq]
 have hk : (ygO m).Kind = m.Kind := rfl
 unfold ymd
 rw [hk]
 refine cI (fun k => ?_) fun k1 => ?_
 ·rw [if_pos k]
  have a := yci [67, 82, 69, 65, 84, 69, 32, 84, 65, 66, 76, 69] m.Name
  simp only [List.length_cons, List.length_nil] at a
  refine ⟨_, yc2 (by simp; omega), by simp; omega, yzl h (by simp; omega) ?_⟩
  show _ = jn (jn (jn [] [67, 82, 69, 65, 84, 69, 32, 84, 65, 66, 76, 69]) m.Name) ([40] ++ Go.Lib.join ((m.Columns.map yf2).map tCol) [44, 32] ++ [41])
  rw [ydj, List.map_map, ycO (yet (by decide)) (by simp)]
  simp
 rw [if_neg k1]
 refine cI (fun k => ?_) fun k2 => ?_
 ·rw [if_pos k]
  refine ⟨_, yc2 (by simp; omega), ?_⟩
  show _ = jn (jn [] _) m.Name
  rw [ydj]
 rw [if_neg k2]
 refine cI (fun k => ?_) fun k3 => ?_
 ·rw [if_pos k]
  have a := yci [73, 78, 83, 69, 82, 84, 32, 73, 78, 84, 79] m.Name
  simp only [List.length_cons, List.length_nil] at a
  refine ⟨_, yc2 (by simp; omega), by simp; omega, yyu h (by simp; omega) ?_⟩
  show _ = jn (jn (jn (jn [] [73, 78, 83, 69, 82, 84, 32, 73, 78, 84, 79]) m.Name) [86, 65, 76, 85, 69, 83]) (Go.Lib.join ((m.Rows.map (·.map told)).map tRow) [44, 32])
  rw [ydj]
  have e : jn [73, 78, 83, 69, 82, 84, 32, 73, 78, 84, 79] m.Name ++ [32, 86, 65, 76, 85, 69, 83] = jn (jn [73, 78, 83, 69, 82, 84, 32, 73, 78, 84, 79] m.Name) [86, 65, 76, 85, 69, 83] := by
   rw [ycO (yet (by decide)) (by decide)]; simp
  rw [e]
  by_cases hR : m.Rows = []
  ·rw [hR]
   show _ ++ Go.Lib.join [] _ = jn _ (Go.Lib.join [] _)
   rw [Go.Lib.join_nil, Go.Lib.join_nil, yeo, List.append_nil]
  ·have e2 : (m.Rows.map fun l => [32] ++ tRow (l.map told)) = ((m.Rows.map (·.map told)).map tRow).map ([32] ++ ·) := by
    rw [List.map_map, List.map_map]; rfl
   rw [e2, yw9 _ (by simpa using hR), ycO (yet (yet (by decide)))]
   ·simp
   ·cases hr : m.Rows with
    | nil => exact absurd hr hR
    | cons y r =>
      rw [List.map_cons, List.map_cons, Go.Lib.join_cons]
      simp [tRow]
 rw [if_neg k3]
 refine cI (fun k => ?_) fun k4 => ?_
 ·rw [if_pos k]
  have a := yci [68, 69, 76, 69, 84, 69, 32, 70, 82, 79, 77] m.Name
  simp only [List.length_cons, List.length_nil] at a
  refine ⟨_, yc2 (by simp; omega), _, yoH h.wh (by simp), _, yc2 (by omega), ?_⟩
  show _ = jn (jn (jn [] _) m.Name) _
  rw [ydj]; rfl
 rw [if_neg k4]
 refine cI (fun k => ?_) fun k5 => ?_
 ·rw [if_pos k]
  have a := yci [85, 80, 68, 65, 84, 69] m.Name
  simp only [List.length_cons, List.length_nil] at a
  refine ⟨_, yc2 (by simp; omega), by simp; omega, yzw h (by omega) ?_⟩
  show _ = jn (jn (jn (jn (jn [] [85, 80, 68, 65, 84, 69]) m.Name) [83, 69, 84]) (Go.Lib.join ((m.Sets.map yj1).map tSet) [44, 32])) (ycY [87, 72, 69, 82, 69] (m.Where.map told))
  rw [ydj, List.map_map, ycO (a := jn [85, 80, 68, 65, 84, 69] m.Name) (yet (by decide)) (by decide), List.append_assoc]
  rfl
 rw [if_neg k5]
 refine cI (fun k => ?_) fun k6 => ?_
 ·rw [if_pos k]
  have a := yci [67, 82, 69, 65, 84, 69, 32, 86, 73, 69, 87] m.Name
  have a2 := yci (jn [67, 82, 69, 65, 84, 69, 32, 86, 73, 69, 87] m.Name) [65, 83]
  simp only [List.length_cons, List.length_nil] at a a2
  obtain ⟨s, s1, s2, s3⟩ := yuO (a := jn (jn [67, 82, 69, 65, 84, 69, 32, 86, 73, 69, 87] m.Name) [65, 83]) (b := yiz (yel m.Query)) (yet (yet (by decide))) (by omega)
  refine ⟨_, yc2 (by simp; omega), _, yc2 (by simp; omega), _, yri h.q, s, s1, by omega, ?_⟩
  rw [s2]
  show _ = jn (jn (jn (jn [] _) m.Name) _) _
  rw [ydj]; rfl
 rw [if_neg k6]
 refine cI (fun k => ?_) fun k7 => ?_
 ·rw [if_pos k]
  refine ⟨_, yc2 (by simp; omega), ?_⟩
  show _ = jn (jn [] _) m.Name
  rw [ydj]
 rw [if_neg k7]
 refine cI (fun k => ?_) fun k8 => ?_
 ·rw [if_pos k]
  exact ⟨_, yri h.q, rfl⟩
 rw [if_neg k8]
 refine cI (fun k => ?_) fun k9 => ?_
 ·rw [if_pos k]
  refine ⟨_, yc2 (by simp; omega), ?_⟩
  show _ = jn (jn [] _) m.Name
  rw [ydj]
 rw [if_neg k9]
 refine cI (fun k => ?_) fun k10 => ?_
 ·rw [if_pos k]
  refine ⟨_, yqR h.n, by simp; omega, ?_⟩
  show _ = jn (jn [] [80, 82, 79, 80, 65, 71, 65, 84, 69]) (Go.Lib.itoa m.N)
  have hne : Go.Lib.itoa m.N ≠ [] := by
   unfold Go.Lib.itoa
   split
   ·simp
   ·rw [Go.Lib.decDigits.eq_1]; split <;> simp
  rw [ydj, ycO (by decide) hne]
  simp
 rw [if_neg k10]
end Go.Proofs.YteoohihaibgplaaGreatDoor
end
noncomputable section
namespace Go.Proofs.YteoohihaibgplaaGreatDoor
open Go.AV Go.RowKit
theorem yo6 {l : List E6} (h : ∀ x ∈ l, WF x) (hl : l.length ≤ 1000) : yb7 l (l.map told) := by
 refine lp2 (fun (i : Int) (o : List X) => ∃ k : Nat, i = k ∧ k ≤ l.length ∧ o = (l.take k).map told) (fun (i : Int) _ => l.length - i.toNat) ?_ ⟨0, rfl, by omega, rfl⟩
 rintro X i o ⟨k, rfl, hk, rfl⟩ hX _
 by_cases hlt : k < l.length
 ·rw [decide_eq_true (show (k : Int) < l.length by omega), w1 (by omega)]
  refine cT ⟨by omega, by omega, l[k], gAt hlt, told l[k], by rw [ybZ]; exact yt6 (h _ (List.getElem_mem hlt)), by simp; omega, hX _ _ ⟨k + 1, rfl, by omega, ?_⟩ (by omega)⟩
  rw [List.take_succ_eq_append_getElem hlt, List.map_append, ybw]; rfl
 ·rw [decide_eq_false (show ¬ (k : Int) < l.length by omega)]
  have : k = l.length := by omega
  subst this
  rw [List.take_length]
  exact cF rfl
theorem DK.w {l : List E6} (h : ∀ x ∈ l, DK x) : ∀ x ∈ l, WF x := fun x hx => (h x hx).wf
theorem ytA {y : yaf} (h : yjN y) {X2 : Int → List yan → List yal → List Int → Prop} {i : Int} {e0 e1 : X} {cs : List yan} {os : List yal} {ls : List Int} (hcs : cs.length ≤ 1000) (hon : (⟨e0, e1⟩ : yaG) = if y.Join then ⟨told y.On.x0, told y.On.x1⟩ else ⟨X0, X0⟩)
  (hX2 : X2 (IntKind.i64.wrap (i + 1)) (cs ++ [ybQ y]) os ls) : yho y X2 i (y.Where.map told) (y.Group.map told) (y.Having.map told) e0.Kind e0.Op e0.V.Kind e0.V.N e0.V.S e0.Table e0.Name e0.L e1.Kind e1.Op e1.V.Kind e1.V.N e1.V.S e1.Table e1.Name e1.L cs os ls := by
 intro X4 hX4
 have nI := h.nI
 have key : ∀ n k : Nat, k + n = y.Items.length → X4 (k : Int) cs os ls ((y.Items.take k).map ycG) := by
  intro n
  induction n with
  | zero =>
    intro k hk
    have : k = y.Items.length := by omega
    subst this
    apply hX4
    intro _
    rw [decide_eq_false (by omega), List.take_length]
    refine cF ⟨by omega, ?_⟩
    rw [ybw, ybw, hon]
    exact hX2
  | succ n ih =>
    intro k hk
    have hlt : k < y.Items.length := by omega
    apply hX4
    intro _
    rw [decide_eq_true (show (k : Int) < y.Items.length by omega), w1 (by omega)]
    refine cT ⟨by omega, by omega, y.Items[k], gAt hlt, told y.Items[k].E, by rw [ybZ]; exact yt6 (h.items _ (List.getElem_mem hlt)).1.wf, by omega, by omega, y.Items[k], gAt hlt, by simp; omega, ?_⟩
    have := ih (k + 1) (by omega)
    rw [List.take_succ_eq_append_getElem hlt, List.map_append] at this
    rw [ybw]; exact this
 exact key y.Items.length 0 (by omega)
theorem ywq {q : yav} (h : ykp q) : yd3 q (yel q) := by
 have nC := h.nC
 have nO := h.nO
 have nL := h.nL
 refine ⟨by omega, fun X1 hX1 => ?_⟩
 have two : ∀ X2 : Int → List yan → List yal → List Int → Prop, (∀ x5 x6 x7 x8, yhe q (q.Order.length : Int) (yel q) X2 x5 x6 x7 x8 → X2 x5 x6 x7 x8) → X2 0 [] (q.Order.map yfj) ([] ++ q.Limit) := by
  intro X2 hX2
  have key : ∀ n k : Nat, k + n = q.Cores.length → X2 (k : Int) ((q.Cores.take k).map ybQ) (q.Order.map yfj) ([] ++ q.Limit) := by
   intro n
   induction n with
   | zero =>
     intro k hk
     have : k = q.Cores.length := by omega
     subst this
     apply hX2
     intro _
     rw [decide_eq_false (by omega), List.take_length]
     exact cF rfl
   | succ n ih =>
     intro k hk
     have hlt : k < q.Cores.length := by omega
     have hc := h.cores _ (List.getElem_mem hlt)
     apply hX2
     intro _
     rw [decide_eq_true (show (k : Int) < q.Cores.length by omega)]
     refine cT ⟨by omega, by omega, q.Cores[k], gAt hlt, told q.Cores[k].On.x0, by rw [ybZ]; exact yt6 hc.w0, told q.Cores[k].On.x1, by rw [ybZ]; exact yt6 hc.w1, _, yo6 (DK.w hc.wh) (by have := hc.nW; omega), _, yo6 (DK.w hc.gr) (by have := hc.nG; omega), _, yo6 (DK.w hc.hv) (by have := hc.nH; omega), fun J3 hJ3 => ?_⟩
     have nx : X2 (IntKind.i64.wrap ((k : Int) + 1)) ((q.Cores.take k).map ybQ ++ [ybQ q.Cores[k]]) (q.Order.map yfj) ([] ++ q.Limit) := by
      have := ih (k + 1) (by omega)
      rw [List.take_succ_eq_append_getElem hlt, List.map_append] at this
      rw [w1 (by omega)]; exact this
     have hcl : ((q.Cores.take k).map ybQ).length ≤ 1000 := by rw [List.length_map, List.length_take]; omega
     refine ⟨fun c => ?_, fun c => ?_⟩
     ·have c : q.Cores[k].Join = false := by simpa using c
      exact hJ3 _ _ _ _ _ _ _ _ _ _ _ _ _ _ _ _ _ _ _ (ytA hc (e0 := X0) (e1 := X0) hcl (by rw [c]; rfl) nx)
     ·have c : q.Cores[k].Join = true := by simpa using c
      exact hJ3 _ _ _ _ _ _ _ _ _ _ _ _ _ _ _ _ _ _ _ (ytA hc hcl (by rw [c]; rfl) nx)
  exact key q.Cores.length 0 (by omega)
 have key : ∀ n k : Nat, k + n = q.Order.length → X1 (k : Int) ((q.Order.take k).map yfj) ([] ++ q.Limit) := by
  intro n
  induction n with
  | zero =>
    intro k hk
    have : k = q.Order.length := by omega
    subst this
    apply hX1
    intro _
    rw [decide_eq_false (by omega), List.take_length]
    exact cF two
  | succ n ih =>
    intro k hk
    have hlt : k < q.Order.length := by omega
    apply hX1
    intro _
    rw [decide_eq_true (show (k : Int) < q.Order.length by omega), w1 (by omega)]
    refine cT ⟨by omega, by omega, q.Order[k], gAt hlt, by simp; omega, ?_⟩
    have := ih (k + 1) (by omega)
    rw [List.take_succ_eq_append_getElem hlt, List.map_append] at this
    exact this
 exact key q.Order.length 0 (by omega)
theorem yx1 {m : yas} (h : yo5 m) : yeC m (ygO m) := by
 have nC := h.nC
 have nR := h.nR
 have nS := h.nS
 refine ⟨_, yo6 (DK.w h.wh) (by have := h.nW; omega), _, ywq h.q, fun X1 hX1 => ?_⟩
 have three : ∀ X3 : Int → List yak → List (List X) → List yay → Prop, (∀ x11 x12 x13 x14, yiL m (m.Where.map told) (yel m.Query) (ygO m) X3 x11 x12 x13 x14 → X3 x11 x12 x13 x14) → X3 0 (m.Columns.map yf2) (m.Rows.map (·.map told)) [] := by
  intro X3 hX3
  have key : ∀ n k : Nat, k + n = m.Sets.length → X3 (k : Int) (m.Columns.map yf2) (m.Rows.map (·.map told)) ((m.Sets.take k).map yj1) := by
   intro n
   induction n with
   | zero =>
     intro k hk
     have : k = m.Sets.length := by omega
     subst this
     apply hX3
     intro _
     rw [decide_eq_false (by omega), List.take_length]
     exact cF rfl
   | succ n ih =>
     intro k hk
     have hlt : k < m.Sets.length := by omega
     apply hX3
     intro _
     rw [decide_eq_true (show (k : Int) < m.Sets.length by omega), w1 (by omega)]
     refine cT ⟨by omega, by omega, m.Sets[k], gAt hlt, by omega, by omega, m.Sets[k], gAt hlt, told m.Sets[k].E, by rw [ybZ]; exact yt6 (h.sets _ (List.getElem_mem hlt)).2.wf, by simp; omega, ?_⟩
     have := ih (k + 1) (by omega)
     rw [List.take_succ_eq_append_getElem hlt, List.map_append] at this
     rw [ybw]; exact this
  exact key m.Sets.length 0 (by omega)
 have two : ∀ X2 : Int → List yak → List (List X) → Prop, (∀ x6 x7 x8, yiw m (m.Where.map told) (yel m.Query) (ygO m) X2 x6 x7 x8 → X2 x6 x7 x8) → X2 0 (m.Columns.map yf2) [] := by
  intro X2 hX2
  have key : ∀ n k : Nat, k + n = m.Rows.length → X2 (k : Int) (m.Columns.map yf2) ((m.Rows.take k).map (·.map told)) := by
   intro n
   induction n with
   | zero =>
     intro k hk
     have : k = m.Rows.length := by omega
     subst this
     apply hX2
     intro _
     rw [decide_eq_false (by omega), List.take_length]
     exact cF three
   | succ n ih =>
     intro k hk
     have hlt : k < m.Rows.length := by omega
     have hr := h.rows _ (List.getElem_mem hlt)
     apply hX2
     intro _
     rw [decide_eq_true (show (k : Int) < m.Rows.length by omega), w1 (by omega)]
     refine cT ⟨by omega, by omega, m.Rows[k], gAt hlt, _, yo6 (DK.w hr.2) (by omega), by simp; omega, ?_⟩
     have := ih (k + 1) (by omega)
     rw [List.take_succ_eq_append_getElem hlt, List.map_append] at this
     exact this
  exact key m.Rows.length 0 (by omega)
 have key : ∀ n k : Nat, k + n = m.Columns.length → X1 (k : Int) ((m.Columns.take k).map yf2) := by
  intro n
  induction n with
  | zero =>
    intro k hk
    have : k = m.Columns.length := by omega
    subst this
    apply hX1
    intro _
    rw [decide_eq_false (by omega), List.take_length]
    exact cF two
  | succ n ih =>
    intro k hk
    have hlt : k < m.Columns.length := by omega
    apply hX1
    intro _
    rw [decide_eq_true (show (k : Int) < m.Columns.length by omega), w1 (by omega)]
    refine cT ⟨by omega, by omega, m.Columns[k], gAt hlt, by simp; omega, ?_⟩
    have := ih (k + 1) (by omega)
    rw [List.take_succ_eq_append_getElem hlt, List.map_append] at this
    exact this
 exact key m.Columns.length 0 (by omega)
end Go.Proofs.YteoohihaibgplaaGreatDoor
end
noncomputable section
namespace Go.Proofs.YteoohihaibgplaaGreatDoor
open Go.AV Go.RowKit
noncomputable def Nn (b : Nat) (a e : Int) : Prop := 0 ≤ a ∧ a ≤ b ∧ 0 ≤ e ∧ e ≤ b
theorem Nn.mono {b c : Nat} {a e : Int} (h : Nn b a e) (k : b ≤ c) : Nn c a e := by unfold Nn at *; omega
structure Src (ns : List Int) (xs : List (List Pt)) : Prop where
 n : ∀ y ∈ ns, 0 ≤ y ∧ y ≤ 255
 x : ∀ l ∈ xs, ∀ p ∈ l, PtOk p
section
variable {k N : Int} {ns : List Int} {xs : List (List Pt)}
theorem pNum (hs : Src ns xs) {n : Int} (h0 : 0 < n) (hn : n ≤ 100) {b : Nat} (hb : b ≤ 1000000) {a e : Int} (h : Nn b a e) : ∃ z a', 0 ≤ z ∧ z < n ∧ yag n k ns xs N a e z k ns xs N a' e ∧ Nn (b + 1) a' e := by
 obtain ⟨h1, h2, h3, h4⟩ := h
 by_cases hz : ns.length = 0
 ·refine ⟨0, a, by omega, h0, fun _ => ?_, by unfold Nn; omega⟩
  have : ((ns.length : Int) == 0) = true := by simp [hz]
  rw [this]
  exact cT ⟨rfl, rfl, rfl, rfl, rfl, rfl, rfl⟩
 ·have hm : a.tmod (ns.length : Int) = a % (ns.length : Int) := Int.tmod_eq_emod_of_nonneg h1
  have m0 := Int.emod_nonneg a (show (ns.length : Int) ≠ 0 by omega)
  have m1 := Int.emod_lt_of_pos a (show (0 : Int) < ns.length by omega)
  have hlt : (a % (ns.length : Int)).toNat < ns.length := by omega
  have hy := hs.n _ (List.getElem_mem hlt)
  have ht : (IntKind.i64.wrap ns[(a % (ns.length : Int)).toNat]).tmod n = ns[(a % (ns.length : Int)).toNat] % n := by
   rw [Go.AV.wrap64 (by omega) (by omega), Int.tmod_eq_emod_of_nonneg hy.1]
  refine ⟨ns[(a % (ns.length : Int)).toNat] % n, a + 1, Int.emod_nonneg _ (by omega), Int.emod_lt_of_pos _ h0, fun _ => ?_, by unfold Nn; omega⟩
  have : ((ns.length : Int) == 0) = false := by simp; intro q; exact hz (by rw [q]; rfl)
  rw [this, hm]
  exact cF ⟨by omega, m0, m1, _, List.getElem?_eq_getElem hlt, by omega, ht, rfl, rfl, rfl, rfl, by rw [Go.AV.wrap64 (by omega) (by omega)], rfl⟩
noncomputable def Nam (s : Str) : Prop := s.length ≤ 9 ∧ sLex s = true
theorem pNam (hs : Src ns xs) {b : Nat} (hb : b ≤ 1000000) {a e : Int} (h : Nn b a e) : ∃ s a', Nam s ∧ yau k ns xs N a e s k ns xs N a' e ∧ Nn (b + 1) a' e := by
 obtain ⟨z, a', z0, z1, z2, z3⟩ := pNum (k := k) (N := N) hs (n := 8) (by omega) (by omega) hb h
 refine ⟨_, a', ?_, ⟨z, k, ns, xs, N, a', e, z2, ⟨z0, z1⟩, rfl, rfl, rfl, rfl, rfl, rfl, rfl⟩, z3⟩
 have : z = 0 ∨ z = 1 ∨ z = 2 ∨ z = 3 ∨ z = 4 ∨ z = 5 ∨ z = 6 ∨ z = 7 := by omega
 rcases this with rfl | rfl | rfl | rfl | rfl | rfl | rfl | rfl <;> exact ⟨by decide, by decide⟩
theorem yz3 : DK (.mk 1 0 ⟨0, 0, []⟩ [] [] []) := GE.of ym2.1 (by have := ym2.2; omega) (by decide)
theorem ywD {t n : Str} (ht : t = [] ∨ sLex t = true) (hn : sLex n = true) : DK (.mk 2 0 ⟨0, 0, []⟩ t n []) := by
 refine GE.of (.mk _ (by show 0 ≤ 3; omega) (by show Rg 0; unfold Rg; omega) (fun y hy => by cases hy)) (by rw [ym3]; show 1 + deps [] ≤ 20; simp [deps]) ?_
 rw [ygS, ypv, yjS]
 show ((0 : Nat) == 0 && ((0 : Int) == 0 && eqV ⟨0, 0, []⟩ D0 && ((sLex n && (t == [] || sLex t)) && (!(false && false) && true)))) = true
 rcases ht with rfl | ht
 ·simp [hn]; decide
 ·simp [hn, ht]; decide
theorem ysK {l : List Pt} (h : ∀ p ∈ l, PtOk p) (a b : Int) : ∀ p ∈ ypZ l a b, PtOk p := fun p hp => h p (List.mem_of_mem_drop (List.mem_of_mem_take hp))
theorem pEx (hs : Src ns xs) {b : Nat} (hb : b ≤ 1000000) {a e : Int} (h : Nn b a e) : ∃ m e', DK m ∧ yaJ k ns xs N a e k ns xs N a e' m ∧ Nn (b + 1) a e' := by
 obtain ⟨h1, h2, h3, h4⟩ := h
 by_cases hz : xs.length = 0
 ·refine ⟨_, e, yz3, fun _ => ?_, by unfold Nn; omega⟩
  have : ((xs.length : Int) == 0) = true := by simp [hz]
  rw [this]
  exact cT ⟨rfl, rfl, rfl, rfl, rfl, rfl, rfl⟩
 ·have hm : e.tmod (xs.length : Int) = e % (xs.length : Int) := Int.tmod_eq_emod_of_nonneg h3
  have m0 := Int.emod_nonneg e (show (xs.length : Int) ≠ 0 by omega)
  have m1 := Int.emod_lt_of_pos e (show (0 : Int) < xs.length by omega)
  have hlt : (e % (xs.length : Int)).toNat < xs.length := by omega
  have hy := hs.x _ (List.getElem_mem hlt)
  generalize hl : xs[(e % (xs.length : Int)).toNat] = l at hy
  obtain ⟨m, x, q1, q2, q3, _⟩ := yzk (ysK hy 0 (if (12 : Int) < (l.length : Int) then (12 : Int) else (l.length : Int))) 25 0 rfl (by omega) 0 (by omega) (by decide)
  have this : ((xs.length : Int) == 0) = false := by simp; intro q; exact hz (by rw [q]; rfl)
  have hg := ytH q2 (by omega)
  have fin : ∀ r, (∀ b, b = (decide (dep m ≤ 20) && gX false (told m)) → cnd (!b) (k = k ∧ ns = ns ∧ xs = xs ∧ N = N ∧ a = a ∧ (IntKind.i64.wrap (e + (1 : Int))) = e + 1 ∧ (yaa.mk (2 : Int) (0 : Int) (⟨(0 : Int), (0 : Int), ([] : Str)⟩ : yad) ([] : Str) ([97] : Str) ([] : List yaa)) = r) (k = k ∧ ns = ns ∧ xs = xs ∧ N = N ∧ a = a ∧ (IntKind.i64.wrap (e + (1 : Int))) = e + 1 ∧ (yaa.mk m.Kind m.Op (⟨m.V.Kind, m.V.N, m.V.S⟩ : yad) m.Table m.Name m.L) = r)) → yaJ k ns xs N a e k ns xs N a (e + 1) r := by
   intro r hr _
   rw [this, hm]
   refine cF ⟨by omega, m0, m1, l, by rw [List.getElem?_eq_getElem hlt, hl], fun _ => ⟨⟨by omega, by split <;> omega, by split <;> omega⟩, m, x, q1, _, by rw [ybZ]; exact hg, hr _ rfl⟩⟩
  have we : IntKind.i64.wrap (e + 1) = e + 1 := by rw [Go.AV.wrap64 (by omega) (by omega)]
  cases hb : (decide (dep m ≤ 20) && gX false (told m)) with
  | false =>
    refine ⟨_, e + 1, ywD (t := []) (n := [97]) (.inl rfl) (by decide), fin _ ?_, by unfold Nn; omega⟩
    rintro b rfl
    rw [hb]
    exact cT ⟨rfl, rfl, rfl, rfl, rfl, we, rfl⟩
  | true =>
    have hb' := hb
    simp only [Bool.and_eq_true, decide_eq_true_eq] at hb'
    refine ⟨m, e + 1, GE.of q2 hb'.1 hb'.2, fin _ ?_, by unfold Nn; omega⟩
    rintro b rfl
    rw [hb]
    exact cF ⟨rfl, rfl, rfl, rfl, rfl, we, ybZ m⟩
theorem pMb (hs : Src ns xs) {b : Nat} (hb : b ≤ 1000000 - 5) {a e : Int} (h : Nn b a e) : ∃ l a' e', (∀ x ∈ l, DK x) ∧ l.length ≤ 1 ∧ yaP k ns xs N a e l k ns xs N a' e' ∧ Nn (b + 2) a' e' := by
 obtain ⟨z, a1, z0, z1, z2, z3⟩ := pNum (k := k) (N := N) hs (n := 2) (by omega) (by omega) (by omega) h
 by_cases hz : z = 0
 ·refine ⟨[], a1, e, by simp, by simp, ⟨z, k, ns, xs, N, a1, e, z2, ?_⟩, z3.mono (by omega)⟩
  have : (z == 0) = true := by simpa using hz
  rw [this]
  exact cT ⟨rfl, rfl, rfl, rfl, rfl, rfl, rfl⟩
 ·obtain ⟨m, e', m1, m2, m3⟩ := pEx (k := k) (N := N) hs (b := b + 1) (by omega) z3
  refine ⟨[m], a1, e', by simpa using m1, by simp, ⟨z, k, ns, xs, N, a1, e, z2, ?_⟩, m3⟩
  have : (z == 0) = false := by simpa using hz
  rw [this]
  exact cF ⟨k, ns, xs, N, a1, e', m, m2, by rw [ybZ], rfl, rfl, rfl, rfl, rfl, rfl⟩
theorem pCl (hs : Src ns xs) {b : Nat} (hb : b ≤ 1000000 - 5) {a e : Int} (h : Nn b a e) : ∃ m a', DK m ∧ ya2 k ns xs N a e k ns xs N a' e m ∧ Nn (b + 3) a' e := by
 obtain ⟨s, a1, s1, s2, s3⟩ := pNam (k := k) (N := N) hs (by omega) h
 obtain ⟨z, a2, z0, z1, z2, z3⟩ := pNum (k := k) (N := N) hs (n := 2) (by omega) (by omega) (b := b + 1) (by omega) s3
 by_cases hz : z = 1
 ·obtain ⟨t, a3, t1, t2, t3⟩ := pNam (k := k) (N := N) hs (b := b + 2) (by omega) z3
  refine ⟨_, a3, ywD (.inr t1.2) s1.2, ⟨s, k, ns, xs, N, a1, e, s2, fun J1 hJ1 => ⟨z, k, ns, xs, N, a2, e, z2, ?_⟩⟩, t3⟩
  have : (z == 1) = true := by simpa using hz
  rw [this]
  exact cT ⟨t, k, ns, xs, N, a3, e, t2, hJ1 _ _ _ _ _ _ _ ⟨rfl, rfl, rfl, rfl, rfl, rfl, rfl⟩⟩
 ·refine ⟨_, a2, ywD (.inl rfl) s1.2, ⟨s, k, ns, xs, N, a1, e, s2, fun J1 hJ1 => ⟨z, k, ns, xs, N, a2, e, z2, ?_⟩⟩, z3.mono (by omega)⟩
  have : (z == 1) = false := by simpa using hz
  rw [this]
  exact cF (hJ1 _ _ _ _ _ _ _ ⟨rfl, rfl, rfl, rfl, rfl, rfl, rfl⟩)
end
end Go.Proofs.YteoohihaibgplaaGreatDoor
end
noncomputable section
namespace Go.Proofs.YteoohihaibgplaaGreatDoor
open Go.AV Go.RowKit
section
variable {k N : Int} {ns : List Int} {xs : List (List Pt)}
structure Fore (fr' al' : Str) (j : Bool) (ot' nm' : Str) (e0 e1 : E6) (its : List yai) : Prop where
 items : ∀ x ∈ its, DK x.E ∧ x.As.length ≤ 9
 nI : its.length ≤ 3
 fr : fr'.length ≤ 9
 al : al'.length ≤ 9
 ot : ot'.length ≤ 9
 nm : nm'.length ≤ 9
 w0 : WF e0
 w1 : WF e1
 on : j = true → DK e0 ∧ DK e1
theorem dec1 {n : Nat} (h : n ≤ 1000) : IntKind.i64.wrap (((n + 1 : Nat) : Int) - 1) = (n : Int) := by
 rw [Go.AV.wrap64 (by omega) (by omega)]; omega
theorem ysP (hs : Src ns xs) {fr al ot nm : Str} {j l : Bool} {z1 : Int} {e0 e1 : E6} {items : List yai} (hf : Fore fr al j ot nm e0 e1 items) {wh : List E6} (hw : ∀ x ∈ wh, DK x) (hw1 : wh.length ≤ 1) :
  ∀ (n : Nat) (gr : List E6) (b : Nat) (a e : Int), gr.length + n ≤ 2 → (∀ x ∈ gr, DK x) → b + 3 * n ≤ 900000 → Nn b a e → ∃ a' e' c, yjN c ∧ Nn (b + 3 * n + 2) a' e' ∧
   ∀ X5 : Int → Int → List Int → List (List Pt) → Int → Int → Int → List yai → List E6 → Prop, (∀ x109 x110 x111 x112 x113 x114 x115 x116 x117, ycg k ns xs N a' e' z1 fr al j l ot nm e0.Kind e0.Op e0.V.Kind e0.V.N e0.V.S e0.Table e0.Name e0.L e1.Kind e1.Op e1.V.Kind e1.V.N e1.V.S e1.Table e1.Name e1.L wh c X5 x109 x110 x111 x112 x113 x114 x115 x116 x117 → X5 x109 x110 x111 x112 x113 x114 x115 x116 x117) → X5 (n : Int) k ns xs N a e items gr := by
 intro n
 induction n with
 | zero =>
   intro gr b a e hl hg hb h
   have core : ∀ hv : List E6, (∀ x ∈ hv, DK x) → hv.length ≤ 1 → yjN ⟨z1 == (0 : Int), items, fr, al, j, l, ot, nm, ⟨e0, e1⟩, wh, gr, hv⟩ := fun hv h1 h2 =>
    ⟨hf.items, hf.nI, hf.fr, hf.al, hf.ot, hf.nm, hf.w0, hf.w1, hf.on, hw, by show wh.length ≤ 9; omega, hg, by show gr.length ≤ 2; omega, h1, by show hv.length ≤ 9; omega⟩
   by_cases hg0 : gr.length = 0
   ·refine ⟨a, e, _, core [] (by simp) (by simp), h.mono (by omega), fun X5 hX5 => hX5 _ _ _ _ _ _ _ _ _ ?_⟩
    refine cF fun J6 hJ6 => ?_
    rw [decide_eq_false (by omega)]
    exact cF (hJ6 _ _ _ _ _ _ _ _ _ ⟨rfl, rfl, rfl, rfl, rfl, rfl, by rw [ybZ, ybZ]⟩)
   ·obtain ⟨hv, a', e', v1, v2, v3, v4⟩ := pMb (k := k) (N := N) hs (b := b) (by omega) h
    refine ⟨a', e', _, core hv v1 v2, v4.mono (by omega), fun X5 hX5 => hX5 _ _ _ _ _ _ _ _ _ ?_⟩
    refine cF fun J6 hJ6 => ?_
    rw [decide_eq_true (by omega)]
    exact cT ⟨hv, k, ns, xs, N, a', e', v3, hJ6 _ _ _ _ _ _ _ _ _ ⟨rfl, rfl, rfl, rfl, rfl, rfl, by rw [ybZ, ybZ]⟩⟩
 | succ n ih =>
   intro gr b a e hl hg hb h
   obtain ⟨m, a1, m1, m2, m3⟩ := pCl (k := k) (N := N) hs (b := b) (by omega) h
   obtain ⟨a', e', c, c1, c2, c3⟩ := ih (gr ++ [m]) (b + 3) a1 e (by simp; omega) (fun x hx => by
    rcases List.mem_append.1 hx with hx | hx
    ·exact hg x hx
    ·rw [List.mem_singleton.1 hx]; exact m1) (by omega) m3
   refine ⟨a', e', c, c1, c2.mono (by omega), fun X5 hX5 => hX5 _ _ _ _ _ _ _ _ _ ?_⟩
   unfold ycg
   rw [decide_eq_true (by omega), dec1 (by omega)]
   exact cT ⟨k, ns, xs, N, a1, e, m, m2, by omega, by rw [ybZ]; exact c3 X5 hX5⟩
theorem yvQ (hs : Src ns xs) {fr al ot nm : Str} {j l : Bool} {z1 : Int} {e0 e1 : E6} {items : List yai} (hf : Fore fr al j ot nm e0 e1 items) {b : Nat} {a e : Int} (hb : b ≤ 800000) (h : Nn b a e) : ∃ a' e' c, yjN c ∧ Nn (b + 20) a' e' ∧
  yca k ns xs N a' e' z1 fr c k ns xs N a e al j l ot nm e0.Kind e0.Op e0.V.Kind e0.V.N e0.V.S e0.Table e0.Name e0.L e1.Kind e1.Op e1.V.Kind e1.V.N e1.V.S e1.Table e1.Name e1.L items := by
 obtain ⟨wh, a1, e1', w1, w2, w3, w4⟩ := pMb (k := k) (N := N) hs (b := b) (by omega) h
 obtain ⟨z, a2, z0, zl, z2, z3⟩ := pNum (k := k) (N := N) hs (n := 3) (by omega) (by omega) (b := b + 2) (by omega) w4
 obtain ⟨n, rfl⟩ : ∃ n : Nat, z = n := ⟨z.toNat, by omega⟩
 obtain ⟨a', e', c, c1, c2, c3⟩ := ysP (k := k) (N := N) (l := l) (z1 := z1) hs hf w1 w2 n [] (b + 3) a2 e1' (by simp; omega) (by simp) (by omega) z3
 exact ⟨a', e', c, c1, c2.mono (by omega), wh, k, ns, xs, N, a1, e1', w3, n, k, ns, xs, N, a2, e1', z2, c3⟩
noncomputable def Z6 : E6 := .mk 0 0 ⟨0, 0, []⟩ [] [] []
theorem z6WF : WF Z6 := .mk _ (by show 0 ≤ 3; omega) (by show Rg 0; unfold Rg; omega) (fun y hy => by cases hy)
theorem yvP (hs : Src ns xs) {fr al : Str} {z1 : Int} {items : List yai} (hi : ∀ x ∈ items, DK x.E ∧ x.As.length ≤ 9) (nI : items.length ≤ 3) (hfr : fr.length ≤ 9) (hal : al.length ≤ 9) {b : Nat} {a e : Int} (hb : b ≤ 700000) (h : Nn b a e) : ∃ a' e' c, yjN c ∧ Nn (b + 40) a' e' ∧
  ydc k ns xs N a' e' z1 fr c k ns xs N a e al items := by
 obtain ⟨z, a1, z0, zl, z2, z3⟩ := pNum (k := k) (N := N) hs (n := 3) (by omega) (by omega) (b := b) (by omega) h
 by_cases hz : z = 0
 ·have hz' : (z == 0) = true := by simpa using hz
  obtain ⟨y, a2, y0, yl, y2, y3⟩ := pNum (k := k) (N := N) hs (n := 2) (by omega) (by omega) (b := b + 1) (by omega) z3
  obtain ⟨ot, a3, o1, o2, o3⟩ := pNam (k := k) (N := N) hs (b := b + 2) (by omega) y3
  obtain ⟨x, a4, x0, xl, x2, x3⟩ := pNum (k := k) (N := N) hs (n := 2) (by omega) (by omega) (b := b + 3) (by omega) o3
  have rest : ∀ nm : Str, nm.length ≤ 9 → ∀ a5, Nn (b + 5) a5 e → ∃ a' e' c, yjN c ∧ Nn (b + 40) a' e' ∧ ∀ J4 : Int → (List Int) → (List (List yac)) → Int → Int → Int → Str → Bool → Bool → Str → Str → Int → Int → Int → Int → Str → Str → Str → (List yaa) → Int → Int → Int → Int → Str → Str → Str → (List yaa) → (List yai) → Prop, (∀ x67 x68 x69 x70 x71 x72 x73 x74 x75 x76 x77 x78 x79 x80 x81 x82 x83 x84 x85 x86 x87 x88 x89 x90 x91 x92 x93 x94, yca k ns xs N a' e' z1 fr c x67 x68 x69 x70 x71 x72 x73 x74 x75 x76 x77 x78 x79 x80 x81 x82 x83 x84 x85 x86 x87 x88 x89 x90 x91 x92 x93 x94 → J4 x67 x68 x69 x70 x71 x72 x73 x74 x75 x76 x77 x78 x79 x80 x81 x82 x83 x84 x85 x86 x87 x88 x89 x90 x91 x92 x93 x94) → ydg J4 al y ot k ns xs N a5 e nm items := by
   intro nm hnm a5 h5
   obtain ⟨m, a6, m1, m2, m3⟩ := pCl (k := k) (N := N) hs (b := b + 5) (by omega) h5
   obtain ⟨m', a7, n1, n2, n3⟩ := pCl (k := k) (N := N) hs (b := b + 8) (by omega) m3
   obtain ⟨a', e', c, c1, c2, c3⟩ := yvQ (k := k) (N := N) (z1 := z1) (l := y == 0) (b := b + 11) hs (⟨hi, nI, hfr, hal, o1.1, hnm, m1.wf, n1.wf, fun _ => ⟨m1, n1⟩⟩ : Fore fr al true ot nm m m' items) (by omega) n3
   exact ⟨a', e', c, c1, c2.mono (by omega), fun J4 hJ4 => ⟨k, ns, xs, N, a6, e, m, m2, k, ns, xs, N, a7, e, m', n2, hJ4 _ _ _ _ _ _ _ _ _ _ _ _ _ _ _ _ _ _ _ _ _ _ _ _ _ _ _ _ c3⟩⟩
  by_cases hx : x = 0
  ·have hx' : (x == 0) = true := by simpa using hx
   obtain ⟨nm, a5, m1, m2, m3⟩ := pNam (k := k) (N := N) hs (b := b + 4) (by omega) x3
   obtain ⟨a', e', c, c1, c2, c3⟩ := rest nm m1.1 a5 m3
   refine ⟨a', e', c, c1, c2, fun J4 hJ4 => ⟨z, k, ns, xs, N, a1, e, z2, ?_⟩⟩
   rw [hz']
   refine cT ⟨y, k, ns, xs, N, a2, e, y2, ot, k, ns, xs, N, a3, e, o2, fun J7 hJ7 => ⟨x, k, ns, xs, N, a4, e, x2, ?_⟩⟩
   rw [hx']
   exact cT ⟨nm, k, ns, xs, N, a5, e, m2, hJ7 _ _ _ _ _ _ _ _ (c3 J4 hJ4)⟩
  ·have hx' : (x == 0) = false := by simpa using hx
   obtain ⟨a', e', c, c1, c2, c3⟩ := rest [] (by simp) a4 (x3.mono (by omega))
   refine ⟨a', e', c, c1, c2, fun J4 hJ4 => ⟨z, k, ns, xs, N, a1, e, z2, ?_⟩⟩
   rw [hz']
   refine cT ⟨y, k, ns, xs, N, a2, e, y2, ot, k, ns, xs, N, a3, e, o2, fun J7 hJ7 => ⟨x, k, ns, xs, N, a4, e, x2, ?_⟩⟩
   rw [hx']
   exact cF (hJ7 _ _ _ _ _ _ _ _ (c3 J4 hJ4))
 ·have hz' : (z == 0) = false := by simpa using hz
  obtain ⟨a', e', c, c1, c2, c3⟩ := yvQ (k := k) (N := N) (z1 := z1) (l := false) (b := b + 1) hs (⟨hi, nI, hfr, hal, by simp, by simp, z6WF, z6WF, fun q => (by cases q)⟩ : Fore fr al false [] [] Z6 Z6 items) (by omega) z3
  refine ⟨a', e', c, c1, c2.mono (by omega), fun J4 hJ4 => ⟨z, k, ns, xs, N, a1, e, z2, ?_⟩⟩
  rw [hz']
  exact cF (hJ4 _ _ _ _ _ _ _ _ _ _ _ _ _ _ _ _ _ _ _ _ _ _ _ _ _ _ _ _ c3)
theorem ysB (hs : Src ns xs) {fr : Str} {z1 : Int} (hfr : fr.length ≤ 9) : ∀ (n : Nat) (items : List yai) (b : Nat) (a e : Int), items.length + n ≤ 3 → (∀ x ∈ items, DK x.E ∧ x.As.length ≤ 9) → b + 3 * n ≤ 600000 → Nn b a e → ∃ a' e' c, yjN c ∧ Nn (b + 3 * n + 50) a' e' ∧
  ∀ X1 : Int → Int → List Int → List (List Pt) → Int → Int → Int → List yai → Prop, (∀ x22 x23 x24 x25 x26 x27 x28 x29, ybo k ns xs N a' e' z1 fr c X1 x22 x23 x24 x25 x26 x27 x28 x29 → X1 x22 x23 x24 x25 x26 x27 x28 x29) → X1 (n : Int) k ns xs N a e items := by
 intro n
 induction n with
 | zero =>
   intro items b a e hl hi hb h
   obtain ⟨z, a1, z0, zl, z2, z3⟩ := pNum (k := k) (N := N) hs (n := 2) (by omega) (by omega) (b := b) (by omega) h
   by_cases hz : z = 0
   ·have hz' : (z == 0) = true := by simpa using hz
    obtain ⟨al, a2, l1, l2, l3⟩ := pNam (k := k) (N := N) hs (b := b + 1) (by omega) z3
    obtain ⟨a', e', c, c1, c2, c3⟩ := yvP (k := k) (N := N) (z1 := z1) (b := b + 2) hs hi (by omega) hfr l1.1 (by omega) l3
    refine ⟨a', e', c, c1, c2.mono (by omega), fun X1 hX1 => hX1 _ _ _ _ _ _ _ _ (cF fun J3 hJ3 => ⟨z, k, ns, xs, N, a1, e, z2, ?_⟩)⟩
    rw [hz']
    exact cT ⟨al, k, ns, xs, N, a2, e, l2, hJ3 _ _ _ _ _ _ _ _ c3⟩
   ·have hz' : (z == 0) = false := by simpa using hz
    obtain ⟨a', e', c, c1, c2, c3⟩ := yvP (k := k) (N := N) (z1 := z1) (al := []) (b := b + 1) hs hi (by omega) hfr (by simp) (by omega) z3
    refine ⟨a', e', c, c1, c2.mono (by omega), fun X1 hX1 => hX1 _ _ _ _ _ _ _ _ (cF fun J3 hJ3 => ⟨z, k, ns, xs, N, a1, e, z2, ?_⟩)⟩
    rw [hz']
    exact cF (hJ3 _ _ _ _ _ _ _ _ c3)
 | succ n ih =>
   intro items b a e hl hi hb h
   obtain ⟨m, e1, m1, m2, m3⟩ := pEx (k := k) (N := N) hs (b := b) (by omega) h
   obtain ⟨z, a1, z0, zl, z2, z3⟩ := pNum (k := k) (N := N) hs (n := 2) (by omega) (by omega) (b := b + 1) (by omega) m3
   have more : ∀ s : Str, s.length ≤ 9 → ∀ x ∈ items ++ [(⟨m, s⟩ : yai)], DK x.E ∧ x.As.length ≤ 9 := fun s hs x hx => by
    rcases List.mem_append.1 hx with hx | hx
    ·exact hi x hx
    ·rw [List.mem_singleton.1 hx]; exact ⟨m1, hs⟩
   by_cases hz : z = 0
   ·have hz' : (z == 0) = true := by simpa using hz
    obtain ⟨s, a2, l1, l2, l3⟩ := pNam (k := k) (N := N) hs (b := b + 2) (by omega) z3
    obtain ⟨a', e', c, c1, c2, c3⟩ := ih (items ++ [⟨m, s⟩]) (b + 3) a2 e1 (by simp; omega) (more s l1.1) (by omega) l3
    refine ⟨a', e', c, c1, c2.mono (by omega), fun X1 hX1 => hX1 _ _ _ _ _ _ _ _ ?_⟩
    unfold ybo
    rw [decide_eq_true (by omega)]
    refine cT ⟨k, ns, xs, N, a, e1, m, m2, fun J2 hJ2 => ⟨z, k, ns, xs, N, a1, e1, z2, ?_⟩⟩
    rw [hz']
    refine cT ⟨s, k, ns, xs, N, a2, e1, l2, hJ2 _ _ _ _ _ _ _ _ ⟨by omega, ?_⟩⟩
    rw [dec1 (by omega), ybZ]; exact c3 X1 hX1
   ·have hz' : (z == 0) = false := by simpa using hz
    obtain ⟨a', e', c, c1, c2, c3⟩ := ih (items ++ [⟨m, []⟩]) (b + 3) a1 e1 (by simp; omega) (more [] (by simp)) (by omega) (z3.mono (by omega))
    refine ⟨a', e', c, c1, c2.mono (by omega), fun X1 hX1 => hX1 _ _ _ _ _ _ _ _ ?_⟩
    unfold ybo
    rw [decide_eq_true (by omega)]
    refine cT ⟨k, ns, xs, N, a, e1, m, m2, fun J2 hJ2 => ⟨z, k, ns, xs, N, a1, e1, z2, ?_⟩⟩
    rw [hz']
    refine cF (hJ2 _ _ _ _ _ _ _ _ ⟨by omega, ?_⟩)
    rw [dec1 (by omega), ybZ]; exact c3 X1 hX1
theorem yz4 (hs : Src ns xs) {b : Nat} {a e : Int} (hb : b ≤ 500000) (h : Nn b a e) : ∃ a' e' c, yjN c ∧ Nn (b + 70) a' e' ∧ ybD k ns xs N a e k ns xs N a' e' c := by
 obtain ⟨z, a1, z0, zl, z2, z3⟩ := pNum (k := k) (N := N) hs (n := 3) (by omega) (by omega) (b := b) (by omega) h
 obtain ⟨fr, a2, f1, f2, f3⟩ := pNam (k := k) (N := N) hs (b := b + 1) (by omega) z3
 obtain ⟨y, a3, y0, yl, y2, y3⟩ := pNum (k := k) (N := N) hs (n := 4) (by omega) (by omega) (b := b + 2) (by omega) f3
 obtain ⟨n, rfl⟩ : ∃ n : Nat, y = n := ⟨y.toNat, by omega⟩
 obtain ⟨a', e', c, c1, c2, c3⟩ := ysB (k := k) (N := N) (z1 := z) hs f1.1 n [] (b + 3) a3 e (by simp; omega) (by simp) (by omega) y3
 exact ⟨a', e', c, c1, c2.mono (by omega), z, k, ns, xs, N, a1, e, z2, fr, k, ns, xs, N, a2, e, f2, n, k, ns, xs, N, a3, e, y2, c3⟩
end
end Go.Proofs.YteoohihaibgplaaGreatDoor
end
noncomputable section
namespace Go.Proofs.YteoohihaibgplaaGreatDoor
open Go.AV Go.RowKit
abbrev J2T := Str → List E6 → Int → List yah → List (List E6) → List yaq → List yaf → List yaj → List Int → Prop
section
variable {k N : Int} {ns : List Int} {xs : List (List Pt)}
theorem yvk (hs : Src ns xs) {nm : Str} : ∀ (n : Nat) (cols : List yah) (b : Nat) (a e : Int), cols.length + n ≤ 4 → (∀ c ∈ cols, c.Name.length ≤ 9 ∧ 1 ≤ c.Kind ∧ c.Kind ≤ 3) → b + 10 * n ≤ 300000 → Nn b a e → ∃ cs : List yah, cs.length ≤ 4 ∧ (∀ c ∈ cs, c.Name.length ≤ 9 ∧ 1 ≤ c.Kind ∧ c.Kind ≤ 3) ∧
  ∀ (J2 : J2T) (X3 : Int → Int → List Int → List (List Pt) → Int → Int → Int → List yah → Prop), (∀ x24 x25 x26 x27 x28 x29 x30 x31, yfS J2 nm X3 x24 x25 x26 x27 x28 x29 x30 x31 → X3 x24 x25 x26 x27 x28 x29 x30 x31) → J2 nm [] 0 cs [] [] [] [] [] → X3 (n : Int) k ns xs N a e cols := by
 intro n
 induction n with
 | zero =>
   intro cols b a e hl hc hb h
   exact ⟨cols, by omega, hc, fun J2 X3 hX3 hJ => hX3 _ _ _ _ _ _ _ _ (cF hJ)⟩
 | succ n ih =>
   intro cols b a e hl hc hb h
   obtain ⟨s, a1, s1, s2, s3⟩ := pNam (k := k) (N := N) hs (b := b) (by omega) h
   obtain ⟨z, a2, z0, zl, z2, z3⟩ := pNum (k := k) (N := N) hs (n := 3) (by omega) (by omega) (b := b + 1) (by omega) s3
   obtain ⟨y, a3, y0, yl, y2, y3⟩ := pNum (k := k) (N := N) hs (n := 3) (by omega) (by omega) (b := b + 2) (by omega) z3
   have hw : IntKind.i64.wrap ((1 : Int) + z) = 1 + z := Go.AV.wrap64 (by omega) (by omega)
   obtain ⟨cs, c1, c2, c3⟩ := ih (cols ++ [⟨s, 1 + z, y == 0⟩]) (b + 3) a3 e (by simp; omega) (fun c hc' => by
    rcases List.mem_append.1 hc' with hx | hx
    ·exact hc c hx
    ·rw [List.mem_singleton.1 hx]; exact ⟨s1.1, by show 1 ≤ 1 + z; omega, by show 1 + z ≤ 3; omega⟩) (by omega) y3
   refine ⟨cs, c1, c2, fun J2 X3 hX3 hJ => hX3 _ _ _ _ _ _ _ _ ?_⟩
   unfold yfS
   rw [decide_eq_true (by omega), dec1 (by omega)]
   refine cT ⟨s, k, ns, xs, N, a1, e, s2, z, k, ns, xs, N, a2, e, z2, y, k, ns, xs, N, a3, e, y2, by omega, ?_⟩
   rw [hw]; exact c3 J2 X3 hX3 hJ
theorem ywp (hs : Src ns xs) : ∀ (n : Nat) (row : List E6) (b : Nat) (a e : Int), row.length + n ≤ 3 → (∀ x ∈ row, DK x) → b + 10 * n ≤ 300000 → Nn b a e → ∃ (r : List E6) (e' : Int), r.length ≤ 3 ∧ (∀ x ∈ r, DK x) ∧ Nn (b + n) a e' ∧
  ∀ (X4 : Int → Int → List Int → List (List Pt) → Int → Int → Int → List (List E6) → Prop) (i : Int) (rows : List (List E6)) (X5 : Int → Int → List Int → List (List Pt) → Int → Int → Int → List E6 → List (List E6) → Prop), (∀ x75 x76 x77 x78 x79 x80 x81 x82 x83, yfp X4 i X5 x75 x76 x77 x78 x79 x80 x81 x82 x83 → X5 x75 x76 x77 x78 x79 x80 x81 x82 x83) → rows.length ≤ 1000 → X4 (IntKind.i64.wrap (i - 1)) k ns xs N a e' (rows ++ [r]) → X5 (n : Int) k ns xs N a e row rows := by
 intro n
 induction n with
 | zero =>
   intro row b a e hl hr hb h
   exact ⟨row, e, by omega, hr, h, fun X4 i rows X5 hX5 hn hJ => hX5 _ _ _ _ _ _ _ _ _ (cF ⟨by omega, hJ⟩)⟩
 | succ n ih =>
   intro row b a e hl hr hb h
   obtain ⟨m, e1, m1, m2, m3⟩ := pEx (k := k) (N := N) hs (b := b) (by omega) h
   obtain ⟨r, e', r1, r2, r3, r4⟩ := ih (row ++ [m]) (b + 1) a e1 (by simp; omega) (fun x hx => by
    rcases List.mem_append.1 hx with hx | hx
    ·exact hr x hx
    ·rw [List.mem_singleton.1 hx]; exact m1) (by omega) m3
   refine ⟨r, e', r1, r2, r3.mono (by omega), fun X4 i rows X5 hX5 hn hJ => hX5 _ _ _ _ _ _ _ _ _ ?_⟩
   unfold yfp
   rw [decide_eq_true (by omega), dec1 (by omega)]
   refine cT ⟨k, ns, xs, N, a, e1, m, m2, by omega, ?_⟩
   rw [ybZ]; exact r4 X4 i rows X5 hX5 hn hJ
theorem yu8 (hs : Src ns xs) {nm : Str} : ∀ (n : Nat) (rows : List (List E6)) (b : Nat) (a e : Int), rows.length + n ≤ 3 → (∀ l ∈ rows, l.length ≤ 3 ∧ ∀ x ∈ l, DK x) → b + 100 * n ≤ 300000 → Nn b a e → ∃ rs : List (List E6), rs.length ≤ 3 ∧ (∀ l ∈ rs, l.length ≤ 3 ∧ ∀ x ∈ l, DK x) ∧
  ∀ (J2 : J2T) (X4 : Int → Int → List Int → List (List Pt) → Int → Int → Int → List (List E6) → Prop), (∀ x60 x61 x62 x63 x64 x65 x66 x67, yfr J2 nm X4 x60 x61 x62 x63 x64 x65 x66 x67 → X4 x60 x61 x62 x63 x64 x65 x66 x67) → J2 nm [] 0 [] rs [] [] [] [] → X4 (n : Int) k ns xs N a e rows := by
 intro n
 induction n with
 | zero =>
   intro rows b a e hl hr hb h
   exact ⟨rows, by omega, hr, fun J2 X4 hX4 hJ => hX4 _ _ _ _ _ _ _ _ (cF hJ)⟩
 | succ n ih =>
   intro rows b a e hl hr hb h
   obtain ⟨z, a1, z0, zl, z2, z3⟩ := pNum (k := k) (N := N) hs (n := 3) (by omega) (by omega) (b := b) (by omega) h
   obtain ⟨j, rfl⟩ : ∃ j : Nat, z = j := ⟨z.toNat, by omega⟩
   have hw : IntKind.i64.wrap ((1 : Int) + (j : Int)) = ((1 + j : Nat) : Int) := by rw [Go.AV.wrap64 (by omega) (by omega)]; omega
   obtain ⟨r, e1, r1, r2, r3, r4⟩ := ywp (k := k) (N := N) hs (1 + j) [] (b + 1) a1 e (by simp; omega) (by simp) (by omega) z3
   obtain ⟨rs, c1, c2, c3⟩ := ih (rows ++ [r]) (b + 5) a1 e1 (by simp; omega) (fun l hl' => by
    rcases List.mem_append.1 hl' with hx | hx
    ·exact hr l hx
    ·rw [List.mem_singleton.1 hx]; exact ⟨r1, r2⟩) (by omega) (r3.mono (by omega))
   refine ⟨rs, c1, c2, fun J2 X4 hX4 hJ => hX4 _ _ _ _ _ _ _ _ ?_⟩
   unfold yfr
   rw [decide_eq_true (by omega)]
   refine cT ⟨(j : Int), k, ns, xs, N, a1, e, z2, fun X5 hX5 => ?_⟩
   rw [hw]
   refine r4 X4 _ rows X5 hX5 (by omega) ?_
   rw [dec1 (by omega)]; exact c3 J2 X4 hX4 hJ
theorem yvc (hs : Src ns xs) {nm : Str} : ∀ (n : Nat) (sets : List yaq) (b : Nat) (a e : Int), sets.length + n ≤ 3 → (∀ x ∈ sets, x.Name.length ≤ 9 ∧ DK x.E) → b + 10 * n ≤ 300000 → Nn b a e → ∃ (ss : List yaq) (wh : List E6), ss.length ≤ 3 ∧ (∀ x ∈ ss, x.Name.length ≤ 9 ∧ DK x.E) ∧ wh.length ≤ 1 ∧ (∀ x ∈ wh, DK x) ∧
  ∀ (J2 : J2T) (X6 : Int → Int → List Int → List (List Pt) → Int → Int → Int → List yaq → Prop), (∀ x105 x106 x107 x108 x109 x110 x111 x112, yfz J2 nm X6 x105 x106 x107 x108 x109 x110 x111 x112 → X6 x105 x106 x107 x108 x109 x110 x111 x112) → J2 nm wh 0 [] [] ss [] [] [] → X6 (n : Int) k ns xs N a e sets := by
 intro n
 induction n with
 | zero =>
   intro sets b a e hl hr hb h
   obtain ⟨wh, a', e', v1, v2, v3, v4⟩ := pMb (k := k) (N := N) hs (b := b) (by omega) h
   exact ⟨sets, wh, by omega, hr, v2, v1, fun J2 X6 hX6 hJ => hX6 _ _ _ _ _ _ _ _ (cF ⟨wh, k, ns, xs, N, a', e', v3, hJ⟩)⟩
 | succ n ih =>
   intro sets b a e hl hr hb h
   obtain ⟨s, a1, s1, s2, s3⟩ := pNam (k := k) (N := N) hs (b := b) (by omega) h
   obtain ⟨m, e1, m1, m2, m3⟩ := pEx (k := k) (N := N) hs (b := b + 1) (by omega) s3
   obtain ⟨ss, wh, c1, c2, c3, c4, c5⟩ := ih (sets ++ [⟨s, m⟩]) (b + 2) a1 e1 (by simp; omega) (fun x hx => by
    rcases List.mem_append.1 hx with hx | hx
    ·exact hr x hx
    ·rw [List.mem_singleton.1 hx]; exact ⟨s1.1, m1⟩) (by omega) m3
   refine ⟨ss, wh, c1, c2, c3, c4, fun J2 X6 hX6 hJ => hX6 _ _ _ _ _ _ _ _ ?_⟩
   unfold yfz
   rw [decide_eq_true (by omega), dec1 (by omega)]
   refine cT ⟨s, k, ns, xs, N, a1, e, s2, k, ns, xs, N, a1, e1, m, m2, by omega, ?_⟩
   rw [ybZ]; exact c5 J2 X6 hX6 hJ
theorem ytv (hs : Src ns xs) {nm : Str} {x : yaE} {cores : List yaf} : ∀ (n : Nat) (ord : List yaj) (b : Nat) (a e : Int), ord.length + n ≤ 2 → (∀ o ∈ ord, o.Name.length ≤ 9) → b + 10 * n ≤ 300000 → Nn b a e → ∃ (os : List yaj) (ls : List Int), os.length ≤ 2 ∧ (∀ o ∈ os, o.Name.length ≤ 9) ∧ ls.length ≤ 1 ∧ (∀ n ∈ ls, Rg n) ∧
  ∀ (J2 : J2T) (X9 : Int → Int → List Int → List (List Pt) → Int → Int → Int → List yaf → List yaj → Prop), (∀ x164 x165 x166 x167 x168 x169 x170 x171 x172, yfv J2 nm x X9 x164 x165 x166 x167 x168 x169 x170 x171 x172 → X9 x164 x165 x166 x167 x168 x169 x170 x171 x172) → J2 nm [] 0 [] [] [] cores os ls → X9 (n : Int) k ns xs N a e cores ord := by
 intro n
 induction n with
 | zero =>
   intro ord b a e hl hr hb h
   obtain ⟨z, a1, z0, zl, z2, z3⟩ := pNum (k := k) (N := N) hs (n := 2) (by omega) (by omega) (b := b) (by omega) h
   by_cases hz : z = 0
   ·have hz' : (z == 0) = true := by simpa using hz
    refine ⟨ord, [bits .and .i64 x.N 1023], by omega, hr, by simp, ?_, fun J2 X9 hX9 hJ => hX9 _ _ _ _ _ _ _ _ _ (cF ⟨z, k, ns, xs, N, a1, e, z2, by rw [hz']; exact cT hJ⟩)⟩
    intro n hn
    rw [List.mem_singleton.1 hn]
    have := ykr .and x.N 1023
    unfold Rg; omega
   ·have hz' : (z == 0) = false := by simpa using hz
    exact ⟨ord, [], by omega, hr, by simp, by simp, fun J2 X9 hX9 hJ => hX9 _ _ _ _ _ _ _ _ _ (cF ⟨z, k, ns, xs, N, a1, e, z2, by rw [hz']; exact cF hJ⟩)⟩
 | succ n ih =>
   intro ord b a e hl hr hb h
   obtain ⟨s, a1, s1, s2, s3⟩ := pNam (k := k) (N := N) hs (b := b) (by omega) h
   obtain ⟨z, a2, z0, zl, z2, z3⟩ := pNum (k := k) (N := N) hs (n := 2) (by omega) (by omega) (b := b + 1) (by omega) s3
   obtain ⟨os, ls, c1, c2, c3, c4, c5⟩ := ih (ord ++ [⟨s, z == 0⟩]) (b + 2) a2 e (by simp; omega) (fun x hx => by
    rcases List.mem_append.1 hx with hx | hx
    ·exact hr x hx
    ·rw [List.mem_singleton.1 hx]; exact s1.1) (by omega) z3
   refine ⟨os, ls, c1, c2, c3, c4, fun J2 X9 hX9 hJ => hX9 _ _ _ _ _ _ _ _ _ ?_⟩
   unfold yfv
   rw [decide_eq_true (by omega), dec1 (by omega)]
   exact cT ⟨s, k, ns, xs, N, a1, e, s2, z, k, ns, xs, N, a2, e, z2, by omega, c5 J2 X9 hX9 hJ⟩
theorem yt1 (hs : Src ns xs) {nm : Str} {x : yaE} {x1 : Int} : ∀ (n : Nat) (cores : List yaf) (b : Nat) (a e : Int), cores.length + n ≤ 2 → 1 ≤ cores.length + n → (∀ c ∈ cores, yjN c) → b + 100 * n ≤ 200000 → Nn b a e → ∃ (cs : List yaf) (os : List yaj) (ls : List Int), cs ≠ [] ∧ ykp ⟨cs, os, ls⟩ ∧
  ∀ (J2 : J2T) (X8 : Int → Int → List Int → List (List Pt) → Int → Int → Int → List yaf → Prop), (∀ x142 x143 x144 x145 x146 x147 x148 x149, yfD x1 J2 nm x X8 x142 x143 x144 x145 x146 x147 x148 x149 → X8 x142 x143 x144 x145 x146 x147 x148 x149) → J2 nm [] 0 [] [] [] cs os ls → X8 (n : Int) k ns xs N a e cores := by
 intro n
 induction n with
 | zero =>
   intro cores b a e hl h1 hr hb h
   obtain ⟨z, a1, z0, zl, z2, z3⟩ := pNum (k := k) (N := N) hs (n := 3) (by omega) (by omega) (b := b) (by omega) h
   obtain ⟨j, rfl⟩ : ∃ j : Nat, z = j := ⟨z.toNat, by omega⟩
   obtain ⟨os, ls, c1, c2, c3, c4, c5⟩ := ytv (k := k) (N := N) hs (nm := nm) (x := x) (cores := cores) j [] (b + 1) a1 e (by simp; omega) (by simp) (by omega) z3
   exact ⟨cores, os, ls, fun q => (by rw [q] at h1; simp at h1), ⟨hr, by show cores.length ≤ 2; omega, c2, c1, c4, by show ls.length ≤ 9; omega⟩, fun J2 X8 hX8 hJ => hX8 _ _ _ _ _ _ _ _ (cF ⟨(j : Int), k, ns, xs, N, a1, e, z2, fun X9 hX9 => c5 J2 X9 hX9 hJ⟩)⟩
 | succ n ih =>
   intro cores b a e hl h1 hr hb h
   obtain ⟨a1, e1, c, d1, d2, d3⟩ := yz4 (k := k) (N := N) hs (b := b) (by omega) h
   obtain ⟨cs, os, ls, c1, c2, c3⟩ := ih (cores ++ [c]) (b + 70) a1 e1 (by simp; omega) (by simp; omega) (fun x hx => by
    rcases List.mem_append.1 hx with hx | hx
    ·exact hr x hx
    ·rw [List.mem_singleton.1 hx]; exact d1) (by omega) d2
   refine ⟨cs, os, ls, c1, c2, fun J2 X8 hX8 hJ => hX8 _ _ _ _ _ _ _ _ ?_⟩
   unfold yfD
   rw [decide_eq_true (by omega), dec1 (by omega)]
   refine cT ⟨k, ns, xs, N, a1, e1, c, d3, by omega, ?_⟩
   rw [ytp]; exact c3 J2 X8 hX8 hJ
end
theorem ymO : ykp ⟨[], [], []⟩ := ⟨by simp, by simp, by simp, by simp, by simp, by simp⟩
noncomputable def yvx (m : yas) : Prop := yo5 m ∧ 1 ≤ m.Kind ∧ m.Kind ≤ 10 ∧ (m.Kind = 8 → m.Query.Cores ≠ [])
theorem ywf {x : yaE} (hk : 0 ≤ x.Kind ∧ x.Kind ≤ 255) (hs : Src x.Numbers x.Exprs) {nm : Str} (hn : nm.length ≤ 9) {a e : Int} {b : Nat} (hb : b ≤ 100) (h : Nn b a e) : ∃ m, yvx m ∧ yfE x m x.Kind x.Numbers x.Exprs x.N a e nm := by
 have hm : x.Kind.tmod 10 = x.Kind % 10 := Int.tmod_eq_emod_of_nonneg hk.1
 have w0 : IntKind.i64.wrap (1 + IntKind.i64.wrap (x.Kind.tmod 10)) = 1 + x.Kind % 10 := by
  rw [hm, Go.AV.wrap64 (n := x.Kind % 10) (by omega) (by omega), Go.AV.wrap64 (by omega) (by omega)]
 have r0 : Rg 0 := by unfold Rg; omega
 unfold yfE yiR
 simp only [w0]
 generalize hK : 1 + x.Kind % 10 = K
 have hK1 : 1 ≤ K ∧ K ≤ 10 := by omega
 have sd : ∀ {cols : List yah} {rows : List (List E6)} {sets : List yaq} {wh : List E6} {q : yav} {n : Int}, (∀ c ∈ cols, c.Name.length ≤ 9 ∧ 1 ≤ c.Kind ∧ c.Kind ≤ 3) → cols.length ≤ 4 → (∀ l ∈ rows, l.length ≤ 3 ∧ ∀ x ∈ l, DK x) → rows.length ≤ 3 → (∀ x ∈ sets, x.Name.length ≤ 9 ∧ DK x.E) → sets.length ≤ 3 → (∀ x ∈ wh, DK x) → wh.length ≤ 1 → ykp q → Rg n → (K = 8 → q.Cores ≠ []) → yvx ⟨K, nm, cols, rows, sets, wh, q, n⟩ :=
  fun c1 c2 r1 r2 s1 s2 v1 v2 q n h8 => ⟨⟨hn, c1, c2, r1, r2, s1, s2, v1, Nat.le_trans v2 (by omega), q, n⟩, hK1.1, hK1.2, h8⟩
 by_cases k1 : K = 1
 ·subst k1
  obtain ⟨z, a1, z0, zl, z2, z3⟩ := pNum (k := x.Kind) (N := x.N) hs (n := 4) (by omega) (by omega) (b := b) (by omega) h
  obtain ⟨j, rfl⟩ : ∃ j : Nat, z = j := ⟨z.toNat, by omega⟩
  have hw : IntKind.i64.wrap ((1 : Int) + (j : Int)) = ((1 + j : Nat) : Int) := by rw [Go.AV.wrap64 (by omega) (by omega)]; omega
  obtain ⟨cs, c1, c2, c3⟩ := yvk (k := x.Kind) (N := x.N) hs (nm := nm) (1 + j) [] (b + 1) a1 e (by simp; omega) (by simp) (by omega) z3
  refine ⟨_, sd c2 c1 (rows := []) (by simp) (by simp) (sets := []) (by simp) (by simp) (wh := []) (by simp) (by simp) ymO r0 (fun q => by omega), fun J2 hJ2 => cT ⟨(j : Int), x.Kind, x.Numbers, x.Exprs, x.N, a1, e, z2, fun X3 hX3 => ?_⟩⟩
  rw [hw]; exact c3 J2 X3 hX3 (hJ2 _ _ _ _ _ _ _ _ _ rfl)
 by_cases k3 : K = 3
 ·subst k3
  obtain ⟨z, a1, z0, zl, z2, z3⟩ := pNum (k := x.Kind) (N := x.N) hs (n := 3) (by omega) (by omega) (b := b) (by omega) h
  obtain ⟨j, rfl⟩ : ∃ j : Nat, z = j := ⟨z.toNat, by omega⟩
  have hw : IntKind.i64.wrap ((1 : Int) + (j : Int)) = ((1 + j : Nat) : Int) := by rw [Go.AV.wrap64 (by omega) (by omega)]; omega
  obtain ⟨cs, c1, c2, c3⟩ := yu8 (k := x.Kind) (N := x.N) hs (nm := nm) (1 + j) [] (b + 1) a1 e (by simp; omega) (by simp) (by omega) z3
  refine ⟨_, sd (cols := []) (by simp) (by simp) c2 c1 (sets := []) (by simp) (by simp) (wh := []) (by simp) (by simp) ymO r0 (fun q => by omega), fun J2 hJ2 => cF (cT ⟨(j : Int), x.Kind, x.Numbers, x.Exprs, x.N, a1, e, z2, fun X4 hX4 => ?_⟩)⟩
  rw [hw]; exact c3 J2 X4 hX4 (hJ2 _ _ _ _ _ _ _ _ _ rfl)
 by_cases k4 : K = 4
 ·subst k4
  obtain ⟨wh, a', e', v1, v2, v3, v4⟩ := pMb (k := x.Kind) (N := x.N) hs (b := b) (by omega) h
  exact ⟨_, sd (cols := []) (by simp) (by simp) (rows := []) (by simp) (by simp) (sets := []) (by simp) (by simp) v1 v2 ymO r0 (fun q => by omega), fun J2 hJ2 => cF (cF (cT ⟨wh, x.Kind, x.Numbers, x.Exprs, x.N, a', e', v3, hJ2 _ _ _ _ _ _ _ _ _ rfl⟩))⟩
 by_cases k5 : K = 5
 ·subst k5
  obtain ⟨z, a1, z0, zl, z2, z3⟩ := pNum (k := x.Kind) (N := x.N) hs (n := 3) (by omega) (by omega) (b := b) (by omega) h
  obtain ⟨j, rfl⟩ : ∃ j : Nat, z = j := ⟨z.toNat, by omega⟩
  have hw : IntKind.i64.wrap ((1 : Int) + (j : Int)) = ((1 + j : Nat) : Int) := by rw [Go.AV.wrap64 (by omega) (by omega)]; omega
  obtain ⟨ss, wh, c1, c2, c3, c4, c5⟩ := yvc (k := x.Kind) (N := x.N) hs (nm := nm) (1 + j) [] (b + 1) a1 e (by simp; omega) (by simp) (by omega) z3
  refine ⟨_, sd (cols := []) (by simp) (by simp) (rows := []) (by simp) (by simp) c2 c1 c4 c3 ymO r0 (fun q => by omega), fun J2 hJ2 => cF (cF (cF (cT ⟨(j : Int), x.Kind, x.Numbers, x.Exprs, x.N, a1, e, z2, fun X6 hX6 => ?_⟩)))⟩
  rw [hw]; exact c5 J2 X6 hX6 (hJ2 _ _ _ _ _ _ _ _ _ rfl)
 have b1 : (K == 1) = false := by simpa using k1
 have b3 : (K == 3) = false := by simpa using k3
 have b4 : (K == 4) = false := by simpa using k4
 have b5 : (K == 5) = false := by simpa using k5
 rw [b1, b3, b4, b5]
 by_cases k68 : K = 6 ∨ K = 8
 ·obtain ⟨z, a1, z0, zl, z2, z3⟩ := pNum (k := x.Kind) (N := x.N) hs (n := 2) (by omega) (by omega) (b := b) (by omega) h
  obtain ⟨j, rfl⟩ : ∃ j : Nat, z = j := ⟨z.toNat, by omega⟩
  have hw : IntKind.i64.wrap ((1 : Int) + (j : Int)) = ((1 + j : Nat) : Int) := by rw [Go.AV.wrap64 (by omega) (by omega)]; omega
  obtain ⟨cs, os, ls, c1, c2, c3⟩ := yt1 (k := x.Kind) (N := x.N) hs (nm := nm) (x := x) (x1 := x.Kind) (1 + j) [] (b + 1) a1 e (by simp; omega) (by simp) (by simp) (by omega) z3
  refine ⟨_, sd (cols := []) (by simp) (by simp) (rows := []) (by simp) (by simp) (sets := []) (by simp) (by simp) (wh := []) (by simp) (by simp) c2 r0 (fun _ => c1), fun J2 hJ2 => cF (cF (cF (cF fun J7 hJ7 => ?_)))⟩
  have k7 : J7 true := by
   apply hJ7
   refine cT ⟨(j : Int), x.Kind, x.Numbers, x.Exprs, x.N, a1, e, z2, fun X8 hX8 => ?_⟩
   rw [hw]; exact c3 J2 X8 hX8 (hJ2 _ _ _ _ _ _ _ _ _ rfl)
  refine ⟨fun q => by rw [q]; exact k7, fun q => ?_⟩
  have q : ¬ K = 6 := by simpa using q
  have : (K == 8) = true := by simpa using (by omega : K = 8)
  rw [this]; exact k7
 ·have n8 : ¬ K = 8 := by omega
  have b6 : (K == 6) = false := by simpa using (by omega : ¬ K = 6)
  have b8 : (K == 8) = false := by simpa using n8
  rw [b6, b8]
  by_cases k10 : K = 10
  ·have rb : Rg (bits .and .i64 x.N 65535) := by
    have := ykr .and x.N 65535
    unfold Rg; omega
   refine ⟨_, sd (cols := []) (by simp) (by simp) (rows := []) (by simp) (by simp) (sets := []) (by simp) (by simp) (wh := []) (by simp) (by simp) ymO rb (fun q => absurd q n8), fun J2 hJ2 => cF (cF (cF (cF fun J7 hJ7 => cF (hJ7 _ (cF ?_)))))⟩
   rw [w0, hK]
   have : (K == 10) = true := by simpa using k10
   rw [this]
   exact cT (hJ2 _ _ _ _ _ _ _ _ _ rfl)
  ·refine ⟨_, sd (cols := []) (by simp) (by simp) (rows := []) (by simp) (by simp) (sets := []) (by simp) (by simp) (wh := []) (by simp) (by simp) ymO r0 (fun q => absurd q n8), fun J2 hJ2 => cF (cF (cF (cF fun J7 hJ7 => cF (hJ7 _ (cF ?_)))))⟩
   rw [w0, hK]
   have : (K == 10) = false := by simpa using k10
   rw [this]
   exact cF (hJ2 _ _ _ _ _ _ _ _ _ rfl)
theorem yzF {x : yaE} (hk : 0 ≤ x.Kind ∧ x.Kind ≤ 255) (hs : Src x.Numbers x.Exprs) : ∃ m, yvx m ∧ yez x m := by
 have h0 : Nn 0 0 0 := by unfold Nn; omega
 generalize hq : (!((IntKind.i64.wrap ((1 : Int) + (IntKind.i64.wrap (x.Kind.tmod (10 : Int))))) == (8 : Int))) = q8
 generalize hq' : (!((IntKind.i64.wrap ((1 : Int) + (IntKind.i64.wrap (x.Kind.tmod (10 : Int))))) == (10 : Int))) = q10
 cases hb : q8 && q10 with
 | true =>
   obtain ⟨s, a1, s1, s2, s3⟩ := pNam (k := x.Kind) (N := x.N) hs (b := 0) (by omega) h0
   obtain ⟨m, m1, m2⟩ := ywf hk hs s1.1 (by omega) s3
   refine ⟨m, m1, fun J1 hJ1 J10 hJ10 => ?_⟩
   rw [hq, hq']
   have : J10 true := hJ10 _ (cT ⟨s, x.Kind, x.Numbers, x.Exprs, x.N, a1, 0, s2, hJ1 _ _ _ _ _ _ _ m2⟩)
   simp only [Bool.and_eq_true] at hb
   rw [hb.1, hb.2]; exact cT this
 | false =>
   obtain ⟨m, m1, m2⟩ := ywf hk hs (nm := []) (by simp) (by omega) h0
   refine ⟨m, m1, fun J1 hJ1 J10 hJ10 => ?_⟩
   rw [hq, hq']
   have : J10 false := hJ10 _ (cF (hJ1 _ _ _ _ _ _ _ m2))
   cases q8 with
   | true => simp only [Bool.true_and] at hb; rw [hb]; exact cT this
   | false => exact cF this
theorem yyz {e : X} {s : Str} (h : Sh e s) : txX e = s := by
 have k : ∃ s, Sh e s := ⟨s, h⟩
 unfold txX
 rw [dif_pos k]
 exact Sh.fn k.choose_spec h
noncomputable def spA : X := .mk 2 0 D0 [] [97] []
noncomputable def spB : X := .mk 1 0 ⟨2, 1, []⟩ [] [] []
noncomputable def spE : X := .mk 3 1 D0 [] [] [spA, spB]
theorem spW : WX spE := .mk _ (by show 2 ≤ 3; omega) (by show Rg 0; unfold Rg; omega) (fun y hy => by
 have hy : y ∈ [spA, spB] := hy
 simp only [List.mem_cons, List.not_mem_nil, or_false] at hy
 rcases hy with rfl | rfl
 ·exact .mk _ (by show 0 ≤ 3; omega) (by show Rg 0; unfold Rg; omega) (fun y hy => by cases hy)
 ·exact .mk _ (by show 0 ≤ 3; omega) (by show Rg 1; unfold Rg; omega) (fun y hy => by cases hy))
theorem spSh : Sh spE [40, 97, 32, 61, 32, 49, 41] := by
 have h := Sh.bin 1 [61] spA spB [97] (yer ⟨2, 1, []⟩) (by omega) (by omega) rfl (.col1 [97] (by decide)) (.lit ⟨2, 1, []⟩ (.inr (.inr (.inl ⟨rfl, by show Rg 1; unfold Rg; omega, rfl⟩))) (fun _ => by show (0 : Int) ≤ 1; omega))
 rw [yll] at h
 have e : Go.Lib.itoa 1 = [49] := by simp [Go.Lib.itoa, Go.Lib.decDigits]
 rw [e] at h
 exact h
theorem ytW : ydC true := by
 have hx := yyz spSh
 have xk : XK spE := ⟨by rw [hx]; exact yvW spW (by decide) (by decide) spSh, by rw [hx]; simp⟩
 have hs : yxt ⟨4, [116], [], [], [], [spE], ⟨[], [], []⟩, 0⟩ := ⟨by simp, by simp, by simp, by simp, by simp, by simp, by simp, by simpa using xk, ⟨by simp, by simp, by simp, by simp, by simp⟩, by unfold Rg; simp⟩
 refine ⟨_, yyq 1, _, ytt hs, ?_⟩
 have e : ymd ⟨4, [116], [], [], [], [spE], ⟨[], [], []⟩, 0⟩ = wds [[68, 69, 76, 69, 84, 69, 32, 70, 82, 79, 77], [116], [87, 72, 69, 82, 69] ++ [32] ++ txX spE] := rfl
 show (ymd ⟨4, [116], [], [], [], [spE], ⟨[], [], []⟩, 0⟩ == ([68, 69, 76, 69, 84, 69, 32, 70, 82, 79, 77, 32, 116, 32, 87, 72, 69, 82, 69, 32, 40, 97, 32, 61, 32, 49, 41] : Str)) = true
 rw [e, hx]
 decide
theorem ybV {a : Str} {l : List Str} (h : a ≠ []) : wds (a :: l) ≠ [] := by
 show l.foldl jn (jn [] a) ≠ []
 rw [ylK, ydj]
 exact yet h
theorem yvj {m : yas} (h : yvx m) : ymd (ygO m) ≠ [] := by
 obtain ⟨_, h1, h2, h8⟩ := h
 unfold ymd
 have hk : (ygO m).Kind = m.Kind := rfl
 rw [hk]
 split
 ·exact ybV (by decide)
 split
 ·exact ybV (by decide)
 split
 ·exact ybV (by decide)
 split
 ·exact ybV (by decide)
 split
 ·exact ybV (by decide)
 split
 ·exact ybV (by decide)
 split
 ·exact ybV (by decide)
 split
 ·rename_i k8
  refine ybV ?_
  have := h8 k8
  show Go.Lib.join ((m.Query.Cores.map ybQ).map yfF) _ ≠ []
  cases hc : m.Query.Cores with
  | nil => exact absurd hc this
  | cons c r =>
    rw [List.map_cons, List.map_cons, Go.Lib.join_cons]
    have := yve (ybQ c)
    simp [this]
 split
 ·exact ybV (by decide)
 split
 ·exact ybV (by decide)
 ·omega
theorem ylt {x : yaE} (hk : 0 ≤ x.Kind ∧ x.Kind ≤ 255) (hs : Src x.Numbers x.Exprs) : ybA x true := by
 obtain ⟨m, hm, hr⟩ := yzF hk hs
 have hd := hm.1
 refine ⟨true, ytW, cF ⟨m, hr, ygO m, yx1 hd, ymd (ygO m), ytt hd.x, ymd (ygO m), yy2 hd, ?_⟩⟩
 rw [beq_self_eq_true]
 refine cT ⟨yiz (yel m.Query), yq8 hd.q.x, yiz (yel m.Query), yri hd.q, ?_⟩
 rw [beq_self_eq_true]
 refine cT ⟨_, ytt hd.x, ?_⟩
 have := yvj hm
 simpa using this
end Go.Proofs.YteoohihaibgplaaGreatDoor
end
noncomputable section
namespace Go.Proofs.YteoohihaibgplaaGreatDoor
open Go.AV Go.RowKit
noncomputable def ydX (v : yac) : Prop := (fun n : Int => (Lit.int .u8 n).wf = true) v.Kind ∧ (fun n : Int => (Lit.int .u8 n).wf = true) v.Op ∧ (fun n : Int => (Lit.int .u8 n).wf = true) v.Value ∧ (fun n : Int => (Lit.int .u8 n).wf = true) v.Parts ∧ (fun n : Int => (Lit.int .i64 n).wf = true) v.N ∧ (fun s : Str => s.length ≤ maxLen) v.Name ∧ (fun s : Str => s.length ≤ maxLen) v.Table
theorem yh4 : yp3 Tryz.prog 136 ybu.c ydX := by
 intro us h
 have r := h.fields Tryz.underlying136
 obtain ⟨v0, q0, rfl, h0, r⟩ := r.first (yeA Tryz.underlying5)
 obtain ⟨v1, q1, rfl, h1, r⟩ := r.first (yeA Tryz.underlying5)
 obtain ⟨v2, q2, rfl, h2, r⟩ := r.first (yeA Tryz.underlying5)
 obtain ⟨v3, q3, rfl, h3, r⟩ := r.first (yeA Tryz.underlying5)
 obtain ⟨v4, q4, rfl, h4, r⟩ := r.first (yeA Tryz.underlying2)
 obtain ⟨v5, q5, rfl, h5, r⟩ := r.first (yrO Tryz.underlying9)
 obtain ⟨v6, q6, rfl, h6, r⟩ := r.first (yrO Tryz.underlying9)
 obtain rfl := r.last
 exact ⟨⟨v0, v1, v2, v3, v4, v5, v6⟩, rfl, h0, h1, h2, h3, h4, h5, h6⟩
noncomputable def yeS (v : yaE) : Prop := (fun n : Int => (Lit.int .u8 n).wf = true) v.Kind ∧ (fun l : List Int => l.length ≤ maxLen ∧ ∀ v ∈ l, (fun n : Int => (Lit.int .u8 n).wf = true) v) v.Numbers ∧ (fun l : List (List yac) => l.length ≤ maxLen ∧ ∀ v ∈ l, (fun l : List yac => l.length ≤ maxLen ∧ ∀ v ∈ l, ydX v) v) v.Exprs ∧ (fun n : Int => (Lit.int .i64 n).wf = true) v.N
theorem yjs : yp3 Tryz.prog 25 yeq.c yeS := by
 intro us h
 have r := h.fields Tryz.underlying25
 obtain ⟨v0, q0, rfl, h0, r⟩ := r.first (yeA Tryz.underlying5)
 obtain ⟨v1, q1, rfl, h1, r⟩ := r.first (yjV (eI .u8) Tryz.underlying22 (yeA Tryz.underlying5))
 obtain ⟨v2, q2, rfl, h2, r⟩ := r.first (yjV (eSl ybu) Tryz.underlying23 (yjV ybu Tryz.underlying113 yh4))
 obtain ⟨v3, q3, rfl, h3, r⟩ := r.first (yeA Tryz.underlying2)
 obtain rfl := r.last
 exact ⟨⟨v0, v1, v2, v3⟩, rfl, h0, h1, h2, h3⟩
noncomputable def yns : Prop := ∀ (a0 : yaE), yeS a0 → ybA a0 true
set_option maxRecDepth 100000 in
theorem ymu {a0 : yaE} (h : ybA a0 true) : Pure Tryz.prog 3 [.agg (yeq.c a0)] (.bl true) := by
 have e : Pure Tryz.prog yco.f (ybj CC yco.ps [.d (.v 25 a0)]) (ybk (([.v 4 true] : List (DV KK)).map (dvA CC))) = Pure Tryz.prog 3 [.agg (yeq.c a0)] (.bl true) := by kernel_rfl
 have w : yco.W [.d (.v 25 a0)] [.v 4 true] = ybA a0 true := by kernel_rfl
 exact e.mp (yih _ _ (fun F h => by simp at h) (w.mpr h)).2
end Go.Proofs.YteoohihaibgplaaGreatDoor
end
noncomputable section
namespace Go.Proofs.YteoohihaibgplaaGreatDoor
open Go.AV
theorem ptok {p : Pt} (h : ydX p) : PtOk p := by
 obtain ⟨h1, h2, h3, h4, h5, _⟩ := h
 have a := wfu8.1 h1
 have b := wfu8.1 h2
 have c := wfu8.1 h3
 have d := wfu8.1 h4
 have e := wf64.1 h5
 exact ⟨a.1, a.2, b.1, b.2, c.1, c.2, d.1, d.2, e⟩
theorem ymt : yns := fun _ h => ylt (wfu8.1 h.1) ⟨fun y hy => wfu8.1 (h.2.1.2 y hy), fun l hl p hp => ptok ((h.2.2.1.2 l hl).2 p hp)⟩
end Go.Proofs.YteoohihaibgplaaGreatDoor
end
