/- General texts and own ones, joined: what the program computes, told of abstract states, and the laws of plain data. No condition. -/
import Derived.Test.YtkmehmgocelkiaaDoorMf
import Derived.Lib.ItoaLen
import Derived.Lib.ReplaceLaws
import Derived.Test.YtkmehmgocelkiaaDoorMb
noncomputable section
namespace Go.Proofs.YtkmehmgocelkiaaDoor
open Go.AV Go.RowKit
theorem ywc {a b : Int} (ha : Rg a) (h : ¬ (a = -9223372036854775808 ∧ b = -1)) : Rg (a.tdiv b) := by
 unfold Rg at *
 have h1 : (a.tdiv b).natAbs = a.natAbs / b.natAbs := Int.natAbs_tdiv a b
 by_cases hb : b.natAbs <= 1
 ·have : b = 0 ∨ b = 1 ∨ b = -1 := by omega
  rcases this with rfl | rfl | rfl
  ·simp
  ·simp; omega
  ·have : a.tdiv (-1) = -a := by rw [Int.tdiv_neg, Int.tdiv_one]
   rw [this]; omega
 ·have h2 : a.natAbs / b.natAbs ≤ a.natAbs / 2 := Nat.div_le_div_left (by omega) (by omega)
  omega
def dq (s : Str) : Str := s.flatMap fun c => if c = 39 then [39, 39] else [c]
theorem yr5 (s : Str) : (dq s).length ≤ 2 * s.length := by
 induction s with
 | nil => simp [dq]
 | cons c s ih =>
   have : (dq (c :: s)).length = (if c = 39 then [39, 39] else [c]).length + (dq s).length := by simp [dq]
   rw [this]; split <;> simp <;> omega
theorem yqm (a b : Str) : dq (a ++ b) = dq a ++ dq b := by simp [dq]
theorem yyv {s : Str} (h : ∀ c ∈ s, c ≠ 39) : dq s = s := by
 induction s with
 | nil => rfl
 | cons c s ih =>
   have e : dq (c :: s) = (if c = 39 then [39, 39] else [c]) ++ dq s := rfl
   rw [e, if_neg (h c (by simp)), ih fun d hd => h d (List.mem_cons_of_mem _ hd)]; rfl
theorem ywh (s : Str) (j : Nat) : Go.Lib.occAt s [39] j = true ↔ s[j]? = some 39 := by
 unfold Go.Lib.occAt
 by_cases h : j < s.length
 ·rw [List.drop_eq_getElem_cons h, List.getElem?_eq_getElem h]
  simp [List.isPrefixOf]
  exact eq_comm
 ·rw [List.drop_of_length_le (by omega), List.getElem?_eq_none (by omega)]; simp
theorem yyc : ∀ (n : Nat) (s : Str), s.length ≤ n → Go.Lib.replaceK [39] [39, 39] (Go.Lib.count s [39]) s = dq s := by
 intro n
 induction n with
 | zero =>
   intro s hs
   have : s = [] := List.eq_nil_of_length_eq_zero (by omega)
   subst this; rfl
 | succ n ih =>
   intro s hs
   rcases Go.Lib.index_spec s [39] with ⟨h1, h2⟩ | ⟨i, h1, h2, h3, h4⟩
   ·have hc : Go.Lib.count s [39] = 0 := by
     unfold Go.Lib.count Go.Lib.countFrom
     rw [h1]; rfl
    rw [hc]
    have : ∀ c ∈ s, c ≠ 39 := by
     intro c hm e
     subst e
     obtain ⟨j, hj⟩ := List.getElem?_of_mem hm
     have hlt : j < s.length := (List.getElem?_eq_some_iff.1 hj).1
     have := h2 j (by omega)
     rw [(ywh s j).2 hj] at this; cases this
    rw [yyv this]; rfl
   ·have hi := (ywh s i).1 h3
    have hlt : i < s.length := (List.getElem?_eq_some_iff.1 hi).1
    have hc : Go.Lib.count s [39] = Go.Lib.count (s.drop (i + 1)) [39] + 1 := by
     rw [Go.Lib.count_hit (by simp) h1, Nat.add_comm]; rfl
    rw [hc, Go.Lib.replaceK_hit _ _ _ _ i h1]
    show s.take i ++ [39, 39] ++ Go.Lib.replaceK [39] [39, 39] (Go.Lib.count (s.drop (i + 1)) [39]) (s.drop (i + 1)) = dq s
    rw [ih (s.drop (i + 1)) (by rw [List.length_drop]; omega)]
    have hs' : s = s.take i ++ ([39] ++ s.drop (i + 1)) := by
     have e1 : s[i] = 39 := by rw [List.getElem?_eq_getElem hlt] at hi; exact Option.some.inj hi
     have := List.drop_eq_getElem_cons hlt
     rw [e1] at this
     conv => lhs; rw [<- List.take_append_drop i s, this]
     rfl
    have hd : dq s = dq (s.take i) ++ ([39, 39] ++ dq (s.drop (i + 1))) := by
     conv => lhs; rw [hs', yqm, yqm]
     rfl
    have ht : dq (s.take i) = s.take i := by
     refine yyv fun c hm e => ?_
     subst e
     obtain ⟨j, hj⟩ := List.getElem?_of_mem hm
     have hlt' : j < (s.take i).length := (List.getElem?_eq_some_iff.1 hj).1
     rw [List.length_take] at hlt'
     rw [List.getElem?_take, if_pos (by omega)] at hj
     have := h4 j (by omega)
     rw [(ywh s j).2 hj] at this; cases this
    rw [hd, ht, List.append_assoc]
theorem ypr (s : Str) : Go.Lib.replaceAll s [39] [39, 39] = dq s := by
 unfold Go.Lib.replaceAll Go.Lib.replace Go.Lib.replaceNum
 rw [if_neg (by decide), if_pos (.inl (by omega))]
 exact yyc _ _ (Nat.le_refl _)
theorem yyl (v : V) : yc5 (v6 v) (ygi v) := by
 unfold yc5
 have e : eqV v D0 = ((v.Kind == 0) && ((v.N == 0) && ((v.S == ([] : Str)) && true))) := rfl
 unfold ygi v6
 rw [e]
 refine ⟨fun c => ⟨fun d => ?_, fun d => ?_⟩, fun c => ⟨fun c1 => ?_, fun c1 => ⟨fun c2 => ?_, fun c2 => ⟨fun c3 => ?_, fun c3 => ?_⟩⟩⟩⟩ <;> simp only [beq_iff_eq, beq_eq_false_iff_ne, ne_eq] at * <;> grind [cnd]
theorem ypf (n : Int) : (n.tdiv 10).natAbs = n.natAbs / 10 /\ (n.tmod 10).natAbs = n.natAbs % 10 := ⟨by rw [Int.natAbs_tdiv]; rfl, by rw [Int.natAbs_tmod]; rfl⟩
theorem ywI {n : Int} (hn : Rg n) : ybO n (Go.Lib.itoa n) := by
 have hlen := Go.Lib.itoa_length_le n hn.1 hn.2
 apply ylq
 have main : ∀ x1 : Str, x1.length ≤ 1 → Go.Lib.itoa n = x1 ++ Go.Lib.decDigits n.natAbs → ybs n (Go.Lib.itoa n) x1 := by
  intro x1 hx1 he
  rw [he, List.length_append] at hlen
  simp only [ybs]
  refine lp2 (fun (x : Int) (y : Str) => Rg x /\ Go.Lib.decDigits n.natAbs = Go.Lib.decDigits x.natAbs ++ y) (fun (x : Int) (_ : Str) => x.natAbs) ?_ ⟨hn, by simp⟩
  rintro X x y ⟨hx, hy⟩ hX
  obtain ⟨s1, s2⟩ := ypf x
  have hl2 : (Go.Lib.decDigits n.natAbs).length = (Go.Lib.decDigits x.natAbs).length + y.length := by rw [hy, List.length_append]
  have hr10 : Rg (x.tdiv 10) := ywc hx (by omega)
  have w10 : IntKind.i64.wrap (x.tdiv 10) = x.tdiv 10 := by unfold Rg at hr10; exact wrap64 (by omega) (by omega)
  have hdd := Go.Lib.decDigits.eq_1 x.natAbs
  have core : ybq X (Go.Lib.itoa n) x1 x y ((x.natAbs % 10 : Nat) : Int) := by
   simp only [ybq]
   have e48 : IntKind.u8.wrap (IntKind.i64.wrap ((48 : Int) + ((x.natAbs % 10 : Nat) : Int))) = ((48 + x.natAbs % 10 : Nat) : Int) := by
    rw [wrap64 (by omega) (by omega), yrZ (by omega) (by omega)]; omega
   have eb : ([IntKind.u8.wrap (IntKind.i64.wrap ((48 : Int) + ((x.natAbs % 10 : Nat) : Int)))] : List Int).map toB = [UInt8.ofNat (48 + x.natAbs % 10)] := by
    rw [e48]; rfl
   rw [eb, w10]
   refine ⟨by simp; omega, fun c => ?_, fun c => ?_⟩
   ·have c : x.tdiv 10 = 0 := by simpa using c
    have h10 : x.natAbs < 10 := by rw [c] at s1; omega
    rw [dif_pos h10] at hdd
    have hm : x.natAbs % 10 = x.natAbs := Nat.mod_eq_of_lt h10
    refine ⟨by simp; omega, ?_⟩
    rw [he, hy, hdd, hm]
   ·have c : ¬ x.tdiv 10 = 0 := by simpa using c
    have h10 : ¬ x.natAbs < 10 := fun h => by
     apply c
     have : (x.tdiv 10).natAbs = 0 := by rw [s1]; omega
     omega
    rw [dif_neg h10] at hdd
    refine hX _ _ ⟨hr10, ?_⟩ (by rw [s1]; omega)
    rw [hy, hdd, s1, List.append_assoc]
  simp only [ycT]
  refine ⟨fun c => ?_, fun c => ?_⟩
  ·have c : x.tmod 10 < 0 := by simpa using c
   have : IntKind.i64.wrap (0 - x.tmod 10) = ((x.natAbs % 10 : Nat) : Int) := by
    rw [wrap64 (by omega) (by omega)]; omega
   rw [this]; exact core
  ·have c : ¬ x.tmod 10 < 0 := by simpa using c
   have : x.tmod 10 = ((x.natAbs % 10 : Nat) : Int) := by omega
   rw [this]; exact core
 simp only [ye0]
 refine ⟨fun c => main [45] (by simp) ?_, fun c => main [] (by simp) ?_⟩
 ·have c : n < 0 := by simpa using c
  unfold Go.Lib.itoa; rw [if_pos c]; rfl
 ·have c : ¬ n < 0 := by simpa using c
  unfold Go.Lib.itoa; rw [if_neg c]
  have : n.toNat = n.natAbs := by omega
  rw [this]; rfl
theorem yyi {v : V} (hr : Rg v.N) (hs : v.S.length ≤ 1000) : yci (v6 v) (ybR v) := by
 apply yn1
 simp only [yfM, yb3]
 have g := yyl v
 have dg := ywI hr
 have txt : ybR v = [39] ++ dq v.S ++ [39] → ∀ X3 : Str → Int → Prop, (∀ (x4 : Str) (x5 : Int), ycF (v6 v) (ybR v) X3 x4 x5 → X3 x4 x5) → X3 [39] 0 := by
  intro hsh
  refine lp2 (fun (x : Str) (y : Int) => ∃ i : Nat, y = i /\ i <= v.S.length /\ x = [39] ++ dq (v.S.take i)) (fun (_ : Str) (y : Int) => v.S.length - y.toNat) ?_ ⟨0, rfl, by omega, by simp [dq]⟩
  rintro X x y ⟨i, rfl, hi, rfl⟩ hX
  have hq := yr5 (v.S.take i)
  rw [List.length_take] at hq
  simp only [ycF]
  have kS : (v6 v).S = v.S := rfl
  rw [kS]
  refine ⟨fun c => ?_, fun c => ?_⟩
  ·have c' : (i : Int) < v.S.length := by simpa using c
   have hlt : i < v.S.length := by omega
   have w1 : IntKind.i64.wrap ((i : Int) + 1) = (i : Int) + 1 := wrap64 (by omega) (by omega)
   have e1 : List.take (((i : Int) + 1).toNat - (i : Int).toNat) (List.drop (i : Int).toNat v.S) = [v.S[i]] := by
    have : ((i : Int) + 1).toNat - (i : Int).toNat = 1 := by omega
    rw [this, Int.toNat_natCast, List.drop_eq_getElem_cons hlt]; rfl
   rw [w1, e1]
   have e2 : v.S.take (i + 1) = v.S.take i ++ [v.S[i]] := List.take_succ_eq_append_getElem hlt
   have hb : bAt v.S (i : Int) = (v.S[i].toNat : Int) := ykc hlt
   refine ⟨⟨by omega, by omega, by omega⟩, by simp; omega, ⟨by omega, c'⟩, fun d => ⟨by simp; omega, ?_⟩, fun d => ?_⟩
   ·have d : v.S[i] = 39 := by
     have d0 : (v.S[i].toNat : Int) = 39 := by rw [<- hb]; simpa using d
     have : v.S[i].toNat = (39 : UInt8).toNat := by show _ = 39; omega
     exact UInt8.toNat_inj.1 this
    refine hX _ _ ⟨i + 1, by omega, by omega, ?_⟩ (by omega)
    rw [e2, yqm, d]; simp [dq]
   ·have d : ¬ v.S[i] = 39 := by
     intro e
     have d0 : ¬ (v.S[i].toNat : Int) = 39 := by rw [<- hb]; simpa using d
     rw [e] at d0; exact d0 rfl
    refine hX _ _ ⟨i + 1, by omega, by omega, ?_⟩ (by omega)
    rw [e2, yqm]; simp [dq, d]
  ·have c : ¬ (i : Int) < v.S.length := by simpa using c
   refine ⟨by simp; omega, ?_⟩
   rw [hsh, List.take_of_length_le (by omega)]
 have fin : ∀ b : Bool, (b = true → (v.Kind == 1 && v.N == 1) = true) → (b = false → (v.Kind == 1 && v.N == 1) = false) → (!ygi v || v.Kind == 0) = false → ybg (v6 v) (ybR v) b := by
  intro b h1 h2 hk
  simp only [ybg]
  have hg : ygi v = true := by
   cases h : ygi v with
   | true => rfl
   | false => rw [h] at hk; simp at hk
  have hq : (v.Kind == 1 && v.N == 1) = eqV v (bV true) := by
   rw [Bool.eq_iff_iff, ypy]
   unfold ygi at hg
   constructor
   ·intro h
    have h : v.Kind = 1 /\ v.N = 1 := by simpa using h
    rw [if_neg (by omega), if_pos h.1] at hg
    have : v.S = [] := by simp at hg; exact hg.2
    cases v; simp only at h this; obtain ⟨rfl, rfl⟩ := h; subst this; rfl
   ·rintro rfl; rfl
  refine ⟨fun e => ?_, fun e => ⟨fun c1 => ?_, fun c1 => ⟨fun c2 => ⟨_, dg, ?_⟩, fun c2 => txt ?_⟩⟩⟩
  ·unfold ybR; rw [hk, if_neg (by simp), <- hq, if_pos (h1 e)]
  ·have c1 : v.Kind = 1 := by simpa [v6] using c1
   unfold ybR; rw [hk, if_neg (by simp), <- hq, h2 e, if_neg (by simp), if_pos c1]
  ·have c1 : ¬ v.Kind = 1 := by simpa [v6] using c1
   have c2 : v.Kind = 2 := by simpa [v6] using c2
   unfold ybR; rw [hk, if_neg (by simp), <- hq, h2 e, if_neg (by simp), if_neg c1, if_pos c2]
  ·have c1 : ¬ v.Kind = 1 := by simpa [v6] using c1
   have c2 : ¬ v.Kind = 2 := by simpa [v6] using c2
   unfold ybR; rw [hk, if_neg (by simp), <- hq, h2 e, if_neg (by simp), if_neg c1, if_neg c2, ypr]
 have null : (!ygi v || v.Kind == 0) = true -> ([78, 85, 76, 76] : Str) = ybR v := fun h => by unfold ybR; rw [if_pos h]
 have tail : ∀ b : Bool, b = (!ygi v || v.Kind == 0) → cnd b (([78, 85, 76, 76] : Str) = ybR v) (cnd ((v6 v).Kind == (1 : Int)) (ybg (v6 v) (ybR v) ((v6 v).N == (1 : Int))) (ybg (v6 v) (ybR v) false)) := by
  intro b hb
  refine ⟨fun e => null (by rw [<- hb, e]), fun e => ⟨fun c => ?_, fun c => ?_⟩⟩
  ·have c : (v.Kind == 1) = true := c
   exact fin _ (fun q => by rw [c]; exact q) (fun q => by rw [c]; exact q) (by rw [<- hb, e])
  ·have c : (v.Kind == 1) = false := c
   exact fin false (fun q => (by cases q)) (fun _ => by rw [c]; rfl) (by rw [<- hb, e])
 refine ⟨_, g, fun c => ?_, fun c => ?_⟩
 ·exact tail true (by rw [c]; rfl)
 ·refine tail _ ?_
  have : ygi v = true := by simpa using c
  rw [this]; rfl
end Go.Proofs.YtkmehmgocelkiaaDoor
end
noncomputable section
namespace Go.Proofs.YtkmehmgocelkiaaDoor
open Go.AV Go.RowKit
theorem ykj (xs : List Str) (y sep : Str) : Go.Lib.join (xs ++ [y]) sep = if xs.length = 0 then y else (Go.Lib.join xs sep ++ sep) ++ y := by
 cases xs with
 | nil => exact Go.Lib.join_one y sep
 | cons a r =>
   rw [List.cons_append, Go.Lib.join_cons, Go.Lib.join_cons, if_neg (by simp)]
   simp [Go.Lib.joinTail]
theorem ypq (m : Nat) (sep : Str) : ∀ (n : Nat) (xs : List Str), xs.length = n → (∀ x ∈ xs, x.length ≤ m) → (Go.Lib.join xs sep).length ≤ n * (m + sep.length)
 | 0, xs, h, _ => by rw [List.length_eq_zero_iff.1 h, Go.Lib.join_nil]; simp
 | n + 1, xs, h, hm => by
   rcases yg2 xs with rfl | ⟨ys, y, rfl⟩
   ·simp at h
   ·have hl : ys.length = n := by simp at h; exact h
    have := ypq m sep n ys hl (fun x hx => hm x (by simp [hx]))
    have hy := hm y (by simp)
    rw [ykj, Nat.succ_mul]
    split
    ·omega
    ·simp only [List.length_append]; omega
theorem yku {v : V} (h : good v) : (ybR v).length ≤ 200 := by
 have hn := yqT h
 have hs := ynQ h
 have hi := Go.Lib.itoa_length_le v.N hn.1 hn.2
 have hd := yr5 v.S
 unfold ybR
 rw [ypr]
 split
 ·simp
 ·split
  ·simp
  ·split
   ·simp
   ·split
    ·omega
    ·simp only [List.length_append, List.length_singleton]; omega
def yu0 (l : List V) : Str := ([40] ++ Go.Lib.join (l.map ybR) [44, 32]) ++ [41]
theorem yxH {v : V} (h : good v) : yaS v (ybR v) := by
 have hs := ynQ h
 refine yvV (yqT h) ?_ (by omega)
 rw [ypr]
 have := yr5 v.S
 omega
theorem yxg {l : List V} (h : gd l) : yb4 l (yu0 l) := by
 have hl := h.1
 have hj := ypq 200 [44, 32] _ (l.map ybR) rfl (fun x hx => by obtain ⟨v, hv, rfl⟩ := List.mem_map.1 hx; exact yku (h.2 v hv))
 simp only [List.length_map, List.length_cons, List.length_nil] at hj
 have hj2 : (Go.Lib.join (l.map ybR) [44, 32]).length <= 9 * 202 := by omega
 refine ylU _ _ fun _ => ?_
 refine lp2 (fun (i : Int) (x : List Str) => 0 <= i /\ i <= l.length /\ x = (l.take i.toNat).map ybR) (fun i _ => (l.length - i).toNat) ?_ ⟨by omega, by omega, by simp⟩
 rintro X i x ⟨i0, i1, rfl⟩ ih
 refine ⟨fun c => ?_, fun c => ?_⟩
 ·have c : i < (l.length : Int) := by simpa using c
  obtain ⟨y, hy⟩ := ycQ (l := l) (n := i.toNat) (by omega)
  refine ⟨i0, c, y, hy, _, yxH (h.2 y (List.mem_of_getElem? hy)), by simp; omega, ?_⟩
  rw [wrap64 (by omega) (by omega)]
  refine ih _ _ ⟨by omega, by omega, ?_⟩ (by omega)
  rw [show (i + 1).toNat = i.toNat + 1 by omega, List.take_add_one, hy]; simp
 ·have c : ¬ i < (l.length : Int) := by simpa using c
  rw [List.take_of_length_le (by omega)]
  refine ⟨_, ⟨by simp; omega, by omega, rfl⟩, ?_, ?_, rfl⟩
  ·simp only [List.length_cons, List.length_nil]; omega
  ·simp only [List.length_append, List.length_cons, List.length_nil]; omega
theorem yvy {l : List V} (h : gd l) : ycf (l.map v6) (yu0 l) := by
 have hl := h.1
 have hml : (l.map v6).length = l.length := by simp
 have hj : ∀ k, (Go.Lib.join ((l.take k).map ybR) [44, 32]).length ≤ 9 * 202 := by
  intro k
  have := ypq 200 [44, 32] _ ((l.take k).map ybR) rfl (fun x hx => by obtain ⟨v, hv, rfl⟩ := List.mem_map.1 hx; exact yku (h.2 v (List.mem_of_mem_take hv)))
  simp only [List.length_map, List.length_cons, List.length_nil, List.length_take] at this
  have h2 : min k l.length <= 9 := by omega
  have := Nat.mul_le_mul_right 202 h2
  omega
 refine yol _ _ ?_
 refine lp2 (fun (x : Str) (i : Int) => 0 <= i /\ i <= l.length /\ x = [40] ++ Go.Lib.join ((l.take i.toNat).map ybR) [44, 32]) (fun _ i => (l.length - i).toNat) ?_ ⟨by omega, by omega, by simp [Go.Lib.join_nil]⟩
 rintro X x i ⟨i0, i1, rfl⟩ ih
 unfold yd8
 rw [hml]
 have hji := hj i.toNat
 refine fun _ => ⟨fun c => ?_, fun c => ?_⟩
 ·have c : i < (l.length : Int) := by simpa using c
  obtain ⟨y, hy⟩ := ycQ (l := l) (n := i.toNat) (by omega)
  have gy := h.2 y (List.mem_of_getElem? hy)
  have my : (l.map v6)[i.toNat]? = some (v6 y) := by rw [List.getElem?_map, hy]; rfl
  have sh := yku gy
  have s6 := yyi (yqT gy) (by have := ynQ gy; omega)
  have htk : (l.take (i + 1).toNat).map ybR = (l.take i.toNat).map ybR ++ [ybR y] := by
   rw [show (i + 1).toNat = i.toNat + 1 by omega, List.take_add_one, hy]; simp
  have hln : ((l.take i.toNat).map ybR).length = i.toNat := by simp; omega
  have e1 : IntKind.i64.wrap (i + 1) = i + 1 := wrap64 (by omega) (by omega)
  refine ⟨fun c2 => ⟨by simp only [List.length_append, List.length_cons, List.length_nil]; omega, i0, by rw [hml]; exact c, _, my, _, s6, by simp only [List.length_append, List.length_cons, List.length_nil]; omega, ?_⟩, fun c2 => ⟨i0, by rw [hml]; exact c, _, my, _, s6, by simp only [List.length_append, List.length_cons, List.length_nil]; omega, ?_⟩⟩
  ·have c2 : 0 < i := by simpa using c2
   rw [e1]
   refine ih _ _ ⟨by omega, by omega, ?_⟩ (by omega)
   rw [htk, ykj, if_neg (by rw [hln]; omega)]
   simp
  ·have c2 : ¬ 0 < i := by simpa using c2
   obtain rfl : i = 0 := by omega
   rw [e1]
   refine ih _ _ ⟨by omega, by omega, ?_⟩ (by omega)
   rw [htk, ykj, if_pos (by rw [hln]; rfl)]
   simp [Go.Lib.join_nil]
 ·have c : ¬ i < (l.length : Int) := by simpa using c
  refine ⟨by simp only [List.length_append, List.length_cons, List.length_nil]; omega, ?_⟩
  rw [List.take_of_length_le (by omega)]; rfl
end Go.Proofs.YtkmehmgocelkiaaDoor
end
noncomputable section
namespace Go.Proofs.YtkmehmgocelkiaaDoor
open Go.AV Go.RowKit
theorem yuF (a b : Int) : cI a b = -1 ∨ cI a b = 0 ∨ cI a b = 1 := by unfold cI; split <;> (try split) <;> simp
theorem yxf (a b : Str) : cS a b = -1 ∨ cS a b = 0 ∨ cS a b = 1 := by unfold cS; split <;> (try split) <;> simp
theorem ymG (a b : V) : sCmp a b = -1 ∨ sCmp a b = 0 ∨ sCmp a b = 1 := by
 unfold sCmp sOr
 split
 ·exact yuF _ _
 ·split
  ·exact yuF _ _
  ·exact yxf _ _
theorem yrq {a b : V} (ha : good a) (hb : good b) : sCmp b a = - sCmp a b := by
 have g1 := ymH ha hb
 have g2 := ymH hb ha
 have r1 := ymG a b
 have r2 := ymG b a
 have p : 0 < sCmp a b ↔ sCmp b a < 0 := by rw [g1.2, g2.1]
 have q : 0 < sCmp b a ↔ sCmp a b < 0 := by rw [g2.2, g1.1]
 omega
theorem yvb : ∀ a b : List V, rc a b = -1 ∨ rc a b = 0 ∨ rc a b = 1
 | [], [] => .inr (.inl rfl)
 | [], _ :: _ => .inl rfl
 | _ :: _, [] => .inr (.inr rfl)
 | a :: r, b :: q => by
   rw [yry]
   split
   ·exact ymG a b
   ·exact yvb r q
theorem ysm : ∀ {a b : List V}, (∀ v ∈ a, good v) → (∀ v ∈ b, good v) → rc b a = - rc a b
 | [], [], _, _ => rfl
 | [], _ :: _, _, _ => rfl
 | _ :: _, [], _, _ => rfl
 | a :: r, b :: q, ha, hb => by
   have h := yrq (ha a (by simp)) (hb b (by simp))
   rw [yry, yry]
   by_cases e : sCmp a b = 0
   ·rw [if_neg (by omega), if_neg (by omega)]
    exact ysm (fun v hv => ha v (by simp [hv])) (fun v hv => hb v (by simp [hv]))
   ·rw [if_pos (by omega), if_pos e]; exact h
theorem ys7 {l : List LV} (h : ∀ x ∈ l, LOk x) : gd (yfw l) := ⟨ysE l, yq7 h⟩
theorem ykm {l : List (List LV)} (hL : ∀ r ∈ l, ∀ v ∈ r, LOk v) : yaZ l true := by
 refine yjA _ _ ⟨true, yuh, yaL rfl ?_⟩
 refine lp3 (fun (i : Int) (a : List Rw) (b : List (List V6)) => 0 <= i /\ i <= l.length /\ i <= 8 /\ a = (l.take i.toNat).map yfw /\ b = m7 a) (fun i _ _ => (8 - i).toNat) ?_ ⟨by omega, by omega, by omega, by simp, rfl⟩
 rintro X i a b ⟨i0, i1, i2, ha, rfl⟩ ih hml
 have hla : a.length = i.toNat := by rw [ha]; simp; omega
 have ga : ∀ y ∈ a, gd y := by
  intro y hy
  rw [ha] at hy
  obtain ⟨r, hr, rfl⟩ := List.mem_map.1 hy
  exact ys7 (hL r (List.mem_of_mem_take hr))
 have fin : ∃ z37 : List Rw, (yeF a z37) ∧ ∃ z38 : (List (List yab)), (ybV (m7 a) z38) ∧ (z37.length ≤ maxLen → (z38.length ≤ maxLen → cnd (!((z37.length : Int) == (z38.length : Int))) (false = true) (∀ X7 : Int → Prop, (∀ (x39 : Int), yb1 true z37 z38 X7 x39 → X7 x39) → X7 (0 : Int)))) := by
  refine ⟨srt lt7 [] a, ytP (by omega) ga, m7 (srt lt7 [] a), yx7 (by omega) ga, fun _ _ => yaL (by rw [yc4]; simp) ?_⟩
  have hs := ykI lt7 a []
  simp only [List.length_nil, Nat.zero_add] at hs
  refine lp1 (fun k : Int => 0 <= k /\ k <= (srt lt7 [] a).length) (fun k => ((srt lt7 [] a).length - k).toNat) ?_ ⟨by omega, by omega⟩
  rintro X7 k ⟨k0, k1⟩ ih7 _
  refine ⟨fun c => ?_, fun _ => rfl⟩
  have c : k < ((srt lt7 [] a).length : Int) := by simpa using c
  obtain ⟨y, hy⟩ := ycQ (l := srt lt7 [] a) (n := k.toNat) (by omega)
  have gy : gd y := by
   rcases yl8 (List.mem_of_getElem? hy) with h | h
   ·cases h
   ·exact ga y h
  have l9 := gy.1
  refine ⟨k0, c, y, hy, _, pKey (by omega) gy.2, k0, by rw [yc4]; omega, _, yjP hy, _, yzl (by omega) gy.2, yaL (by simp) ?_⟩
  rw [wrap64 (by omega) (by omega)]
  exact ih7 _ ⟨by omega, by omega⟩ (by omega)
 refine ⟨fun c => ?_, fun c => yaL rfl fin⟩
 have c : i < (l.length : Int) := by simpa using c
 refine ⟨fun c2 => ?_, fun _ => fin⟩
 have c2 : i < 8 := by simpa using c2
 obtain ⟨x, hx⟩ := ycQ (l := l) (n := i.toNat) (by omega)
 have hxo := hL x (List.mem_of_getElem? hx)
 have gx := ys7 hxo
 refine ⟨i0, c, x, hx, _, _, yyk hxo, by omega, by rw [yc4]; omega, _, yxg gx, _, yvy gx, yaL (by simp) ?_⟩
 have eb : m7 a ++ [(yfw x).map v6] = m7 (a ++ [yfw x]) := by rw [yrP]; rfl
 rw [eb]
 generalize hA : a ++ [yfw x] = A at *
 have hlA : A.length = i.toNat + 1 := by rw [<- hA]; simp [hla]
 have gA : ∀ y ∈ A, gd y := by
  intro y hy
  rw [<- hA] at hy
  rcases List.mem_append.1 hy with h | h
  ·exact ga y h
  ·simp at h; rw [h]; exact gx
 have gi : A[i.toNat]? = some (yfw x) := by rw [<- hA, List.getElem?_append_right (by omega), hla]; simp
 refine lp3 (fun (k : Int) (a' : List Rw) (b' : List (List V6)) => 0 <= k /\ k <= i /\ a' = A /\ b' = m7 A) (fun k _ _ => (i - k).toNat) ?_ ⟨by omega, by omega, rfl, rfl⟩
 rintro X3 k a' b' ⟨k0, k1, rfl, rfl⟩ ih3
 refine ⟨fun c3 => ?_, fun c3 => ?_⟩
 ·have c3 : k < i := by simpa using c3
  obtain ⟨y, hy⟩ := ycQ (l := a') (n := k.toNat) (by omega)
  have gy := gA y (List.mem_of_getElem? hy)
  have l9x := gx.1
  have l9y := gy.1
  have an := ysm gx.2 gy.2
  have rg := yvb (yfw x) y
  have j5 : ∀ w, w = rc (yfw x) y → ybf X3 true i k w a' (m7 a') := by
   rintro w rfl
   refine ⟨i0, by omega, _, gi, k0, by omega, _, hy, _, yij (by omega), yaL (by simp) ⟨k0, by omega, _, hy, i0, by omega, _, gi, _, yij (by omega), ?_⟩⟩
   refine yaL ?_ ?_
   ·rw [an, wrap64 (by omega) (by omega)]; simp
   ·rw [wrap64 (by omega) (by omega)]
    exact ih3 _ _ _ ⟨by omega, by omega, rfl, rfl⟩ (by omega)
  have j4 : ∀ w, w = (if rc (yfw x) y < 0 then (-1 : Int) else 0) → yba X3 true i k w a' (m7 a') := by
   rintro w rfl
   refine ⟨k0, by rw [yc4]; omega, _, yjP hy, i0, by rw [yc4]; omega, _, yjP gi, _, pBf7 gy gx, fun h => j5 _ ?_, fun h => j5 _ ?_⟩
   ·have h : rc y (yfw x) < 0 := by simpa using h
    omega
   ·have h : ¬ rc y (yfw x) < 0 := by simpa using h
    split <;> omega
  refine ⟨i0, by rw [yc4]; omega, _, yjP gi, k0, by rw [yc4]; omega, _, yjP hy, _, pBf7 gx gy, fun h => j4 _ ?_, fun h => j4 _ ?_⟩
  ·have h : rc (yfw x) y < 0 := by simpa using h
   rw [if_pos h]
  ·have h : ¬ rc (yfw x) y < 0 := by simpa using h
   rw [if_neg h]
 ·rw [wrap64 (by omega) (by omega)]
  refine ih _ _ _ ⟨by omega, by omega, by omega, ?_, rfl⟩ (by omega)
  rw [<- hA, ha, show (i + 1).toNat = i.toNat + 1 by omega, List.take_add_one, hx]
  simp
end Go.Proofs.YtkmehmgocelkiaaDoor
end
noncomputable section
namespace Go.Proofs.YtkmehmgocelkiaaDoor
open Go.AV Go.RowKit
def ycS (v : yac) : Prop := (fun n : Int => (Lit.int .u8 n).wf = true) v.Kind /\ (fun n : Int => (Lit.int .i64 n).wf = true) v.N /\ (fun s : Str => s.length <= maxLen) v.S
theorem yim : yoQ Tryd.prog 90 yaV.c ycS := by
 intro us h
 have r := h.fields Tryd.underlying90
 obtain ⟨v0, q0, rfl, h0, r⟩ := r.first (yp7 Tryd.underlying5)
 obtain ⟨v1, q1, rfl, h1, r⟩ := r.first (yp7 Tryd.underlying2)
 obtain ⟨v2, q2, rfl, h2, r⟩ := r.first (yub Tryd.underlying9)
 obtain rfl := r.last
 exact ⟨⟨v0, v1, v2⟩, rfl, h0, h1, h2⟩
def yl6 : Prop := ∀ (a0 : (List (List yac))), (fun l : List (List yac) => l.length <= maxLen /\ ∀ v ∈ l, (fun l : List yac => l.length <= maxLen /\ ∀ v ∈ l, ycS v) v) a0 -> yaZ a0 true
set_option maxRecDepth 100000 in
theorem ylK {a0 : (List (List yac))} (h : yaZ a0 true) : Pure Tryd.prog 9 [slA (eSl yaV) a0] (.bl true) := by
 have e : Pure Tryd.prog yb8.f (yej CC yb8.ps [.d (.v 69 a0)]) (ycX (([.v 4 true] : List (DV KK)).map (dvA CC))) = Pure Tryd.prog 9 [slA (eSl yaV) a0] (.bl true) := by kernel_rfl
 have w : yb8.W [.d (.v 69 a0)] [.v 4 true] = yaZ a0 true := by kernel_rfl
 exact e.mp (yiR _ _ (fun F h => by simp at h) (w.mpr h)).2
end Go.Proofs.YtkmehmgocelkiaaDoor
end
noncomputable section
namespace Go.Proofs.YtkmehmgocelkiaaDoor
open Go.AV
theorem lok7 {x : LV} (h : ycS x) : LOk x := by
 obtain ⟨h1, h2, _⟩ := h
 have a := wfu8.1 h1
 have b := wf64.1 h2
 exact ⟨a.1, a.2, b⟩
theorem ylz : yl6 := fun _ h => ykm fun r hr v hv => lok7 ((h.2 r hr).2 v hv)
end Go.Proofs.YtkmehmgocelkiaaDoor
end
