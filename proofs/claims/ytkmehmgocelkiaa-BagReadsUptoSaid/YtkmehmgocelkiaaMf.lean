/- General texts and own ones, joined: what the program computes, told of abstract states, and the laws of plain data. No condition. -/
import Derived.Test.YtkmehmgocelkiaaMe
import Derived.Test.YtkmehmgocelkiaaRows
import Derived.Test.YtkmehmgocelkiaaMb
noncomputable section
namespace Go.Proofs.Ytkmehmgocelkiaa
open Go.AV Go.RowKit
theorem yrz {u : Nat} (h : u < 2 ^ 64) : u ^^^ 2 ^ 63 = (u + 2 ^ 63) % 2 ^ 64 := by
 have h1 : (u ^^^ 2 ^ 63) % 2 ^ 63 = u % 2 ^ 63 := by
  rw [Nat.xor_mod_two_pow]; simp
 have h2 : (u ^^^ 2 ^ 63) / 2 ^ 63 = (u / 2 ^ 63) ^^^ 1 := by
  rw [Nat.xor_div_two_pow]
 have h3 : u / 2 ^ 63 = 0 ∨ u / 2 ^ 63 = 1 := by omega
 have h4 := Nat.div_add_mod (u ^^^ 2 ^ 63) (2 ^ 63)
 rw [h1, h2] at h4
 rcases h3 with h3 | h3
 ·rw [h3] at h4
  have : (0 ^^^ 1 : Nat) = 1 := rfl
  rw [this] at h4; omega
 ·rw [h3] at h4
  have : (1 ^^^ 1 : Nat) = 0 := rfl
  rw [this] at h4; omega
theorem ywe (n : Int) : bits .xor .u64 n 9223372036854775808 = ((((n % 18446744073709551616).toNat + 9223372036854775808) % 18446744073709551616 : Nat) : Int) := by
 have key : (BitVec.ofInt 64 n ^^^ BitVec.ofInt 64 9223372036854775808).toNat = ((n % 18446744073709551616).toNat + 9223372036854775808) % 18446744073709551616 := by
  rw [BitVec.toNat_xor, BitVec.toNat_ofInt, BitVec.toNat_ofInt]
  have e : (9223372036854775808 % ((2 ^ 64 : Nat) : Int)).toNat = 2 ^ 63 := by decide
  rw [e]
  have : (n % ((2 ^ 64 : Nat) : Int)).toNat < 2 ^ 64 := by omega
  rw [yrz this]; rfl
 show IntKind.u64.wrap ((BitVec.ofInt 64 n ^^^ BitVec.ofInt 64 9223372036854775808).toNat : Nat) = _
 rw [key]; exact ygW (by omega) (by omega)
theorem or8 {x c : Nat} (hx : x < 72057594037927936) (hc : c < 256) : bits .or .u64 (IntKind.u64.wrap ((x : Int) * 2 ^ (min (8 : Int).toNat IntKind.u64.bits))) (IntKind.u64.wrap (c : Int)) = ((x * 256 + c : Nat) : Int) := by
 have e1 : IntKind.u64.wrap ((x : Int) * 2 ^ (min (8 : Int).toNat IntKind.u64.bits)) = ((2 ^ 8 * x : Nat) : Int) := by
  have : (2 : Int) ^ (min (8 : Int).toNat IntKind.u64.bits) = 256 := by decide
  rw [this, ygW (by omega) (by omega)]; omega
 have e2 : IntKind.u64.wrap (c : Int) = (c : Int) := ygW (by omega) (by omega)
 rw [e1, e2]
 have key : (BitVec.ofInt 64 ((2 ^ 8 * x : Nat) : Int) ||| BitVec.ofInt 64 (c : Int)).toNat = x * 256 + c := by
  rw [BitVec.toNat_or, BitVec.toNat_ofInt, BitVec.toNat_ofInt]
  have a1 : (((2 ^ 8 * x : Nat) : Int) % ((2 ^ 64 : Nat) : Int)).toNat = 2 ^ 8 * x := by omega
  have a2 : ((c : Int) % ((2 ^ 64 : Nat) : Int)).toNat = c := by omega
  rw [a1, a2, <- Nat.two_pow_add_eq_or_of_lt (by omega : c < 2 ^ 8)]; omega
 show IntKind.u64.wrap ((BitVec.ofInt 64 ((2 ^ 8 * x : Nat) : Int) ||| BitVec.ofInt 64 (c : Int)).toNat : Nat) = _
 rw [key]; exact ygW (by omega) (by omega)
def sInt (n : Int) : Str := be 8 (n + 9223372036854775808).toNat
theorem ynA (n : Int) : (sInt n).length = 8 := yeZ _ _
theorem pInt {n : Int} (h : Rg n) : ygi n (sInt n) := by
 unfold Rg at h
 refine ⟨(sInt n).map ofB, ?_, ypi _⟩
 ·rw [ywe]
  have e : ((((IntKind.u64.wrap n) % 18446744073709551616).toNat + 9223372036854775808) % 18446744073709551616 : Nat) = (n + 9223372036854775808).toNat := by
   rw [yo1]; omega
  rw [e]
  have := yvy (a := (n + 9223372036854775808).toNat) (k := 8) (by omega)
  rw [yuh] at this; exact this
theorem yro {s : Str} (h : s.length ≤ 8) : ycy s (num s) := by
 unfold ycy
 refine lp2 (fun (x y : Int) => ∃ i : Nat, y = i /\ i <= s.length /\ x = (num (s.take i) : Int)) (fun (_ y : Int) => s.length - y.toNat) ?_ ⟨0, rfl, by omega, by simp [num]⟩
 rintro X x y ⟨i, rfl, hi, rfl⟩ hX
 simp only [ygG]
 refine ⟨fun c => ?_, fun c => ?_⟩
 ·have c : (i : Int) < s.length := by simpa using c
  have hlt : i < s.length := by omega
  refine ⟨⟨by omega, c⟩, ?_⟩
  have w4 : IntKind.i64.wrap ((i : Int) + 1) = ((i + 1 : Nat) : Int) := by rw [wrap64 (by omega) (by omega)]; omega
  have hn := yjc (s.take i)
  have hle : (s.take i).length <= 7 := by rw [List.length_take]; omega
  have hp : 256 ^ (s.take i).length <= 256 ^ 7 := Nat.pow_le_pow_right (by omega) hle
  rw [yrv hlt, or8 (by omega) (s[i].toNat_lt), w4]
  refine hX _ _ ⟨i + 1, rfl, by omega, ?_⟩ (by omega)
  rw [List.take_succ_eq_append_getElem hlt, ysn]
 ·have c : ¬ (i : Int) < s.length := by simpa using c
  rw [List.take_of_length_le (by omega)]
theorem yqL {s : Str} (h : s.length = 8) : IntKind.i64.wrap (bits .xor .u64 (num s : Int) 9223372036854775808) = (num s : Int) - 9223372036854775808 := by
 have hn := yjc s
 rw [h] at hn
 rw [ywe, yrn]
 split <;> omega
theorem yux (s : Str) : ydt s (if s.length = 8 then (num s : Int) - 9223372036854775808 else 0) (decide (s.length = 8)) := by
 refine ⟨fun c => ?_, fun c => ?_⟩
 ·have c : ¬ s.length = 8 := by
   have : ¬ (s.length : Int) = 8 := by simpa using c
   omega
  rw [if_neg c, decide_eq_false c]; exact ⟨rfl, rfl⟩
 ·have c : s.length = 8 := by
   have : (s.length : Int) = 8 := by simpa using c
   omega
  rw [if_pos c, decide_eq_true c]
  exact ⟨_, yro (by omega), yqL c, rfl⟩
def ylQ (s : Str) : Str × Str × Bool := if s.length < 4 then ([], s, false) else if s.length - 4 < num (s.take 4) then ([], s, false) else ((s.drop 4).take (num (s.take 4)), s.drop (4 + num (s.take 4)), true)
theorem yvw {s : Str} (h : s.length ≤ 1000000000) : yeL s (ylQ s).1 (ylQ s).2.1 (ylQ s).2.2 := by
 unfold ylQ
 refine ⟨fun c => ?_, fun c => ?_⟩
 ·have c : (s.length : Int) < 4 := of_decide_eq_true c
  rw [if_pos (by omega)]; exact ⟨rfl, rfl, rfl⟩
 ·have c : ¬ (s.length : Int) < 4 := of_decide_eq_false c
  rw [if_neg (by omega)]
  have e0 : (s.drop (0 : Int).toNat).take ((4 : Int).toNat - (0 : Int).toNat) = s.take 4 := by simp
  have hl : (s.take 4).length = 4 := by rw [List.length_take]; omega
  have hn := yjc (s.take 4)
  rw [hl] at hn
  rw [e0]
  refine ⟨⟨by omega, by omega, by omega⟩, _, yro (by omega), ?_⟩
  generalize num (s.take 4) = n at *
  have w1 : IntKind.u64.wrap (IntKind.i64.wrap ((s.length : Int) - 4)) = (s.length : Int) - 4 := by rw [wrap64 (by omega) (by omega), ygW (by omega) (by omega)]
  have w2 : IntKind.i64.wrap (4 + IntKind.i64.wrap (n : Int)) = ((4 + n : Nat) : Int) := by rw [wrap64 (n := (n : Int)) (by omega) (by omega), wrap64 (by omega) (by omega)]; omega
  rw [w1, w2]
  refine ⟨fun d => ?_, fun d => ?_⟩
  ·have d : (s.length : Int) - 4 < n := of_decide_eq_true d
   rw [if_pos (by omega)]; exact ⟨rfl, rfl, rfl⟩
  ·have d : ¬ (s.length : Int) - 4 < n := of_decide_eq_false d
   rw [if_neg (by omega)]
   refine ⟨⟨by omega, by omega, by omega⟩, ⟨by omega, by omega, by omega⟩, ?_, ?_, rfl⟩
   ·rw [Int.toNat_natCast]
    have : 4 + n - (4 : Int).toNat = n := by omega
    rw [this]; rfl
   ·rw [Int.toNat_natCast, Int.toNat_natCast, List.take_of_length_le (by rw [List.length_drop]; omega)]
def spl : Nat → Str → Option (List Str)
 | 0, s => if s = [] then some [] else none
 | n + 1, s => if s = [] then some [] else if s.length < 4 then none else if s.length - 4 < num (s.take 4) then none else
    (spl n (s.drop (4 + num (s.take 4)))).map ((s.drop 4).take (num (s.take 4)) :: ·)
def ycg (s : Str) : Option (List Str) := spl s.length s
theorem yql {s : Str} (h : s.length ≤ 100000000) : yc2 s ((ycg s).getD []) (if (ycg s).isSome then 0 else 2) := by
 unfold yc2
 intro X hX
 have key : ∀ n, ∀ (x : Str) (y : List Str), x.length ≤ n → x.length ≤ 100000000 → y.length + x.length ≤ 100000000 →
   ((spl n x).map (y ++ ·) = ycg s) -> X x y := by
  intro n
  induction n with
  | zero =>
    intro x y hx _ _ he
    have : x = [] := List.eq_nil_of_length_eq_zero (by omega)
    subst this
    apply hX
    refine ⟨fun c => (by simp at c), fun _ => ?_⟩
    rw [<- he]; simp [spl]
  | succ n ih =>
    intro x y hx hb hyx he
    apply hX
    simp only [spl] at he
    refine ⟨fun c => ?_, fun c => ?_⟩
    ·have c : ¬ x = [] := by simpa using c
     rw [if_neg c] at he
     refine ⟨_, _, _, yvw (by omega), ?_⟩
     unfold ylQ
     by_cases h4 : x.length < 4
     ·rw [if_pos h4] at he ⊢
      refine ⟨fun _ => ?_, fun q => (by cases q)⟩
      rw [<- he]; exact ⟨rfl, rfl⟩
     ·rw [if_neg h4] at he ⊢
      by_cases hn : x.length - 4 < num (x.take 4)
      ·rw [if_pos hn] at he ⊢
       refine ⟨fun _ => ?_, fun q => (by cases q)⟩
       rw [<- he]; exact ⟨rfl, rfl⟩
      ·rw [if_neg hn] at he ⊢
       refine ⟨fun q => (by cases q), fun _ => ⟨by omega, ?_⟩⟩
       have hd : (x.drop (4 + num (x.take 4))).length = x.length - (4 + num (x.take 4)) := List.length_drop
       refine ih _ _ (by show (x.drop _).length <= n; rw [hd]; omega) (by show (x.drop _).length <= _; rw [hd]; omega) (by show _ + (x.drop _).length <= _; rw [hd]; simp; omega) ?_
       rw [<- he]
       show ((spl n (x.drop _)).map _) = _
       cases spl n (x.drop (4 + num (x.take 4))) with
       | none => rfl
       | some l => simp
    ·have c : x = [] := by simpa using c
     rw [if_pos c] at he
     rw [<- he]; simp
 refine key s.length s [] (Nat.le_refl _) (by omega) (by simp; omega) ?_
 show (ycg s).map _ = _
 cases ycg s <;> simp
end Go.Proofs.Ytkmehmgocelkiaa
end
noncomputable section
namespace Go.Proofs.Ytkmehmgocelkiaa
open Go.AV Go.RowKit
def ybb (l : List Str) : Str := l.flatMap fun s => be 4 s.length ++ s
theorem yhx (a b : List Str) : ybb (a ++ b) = ybb a ++ ybb b := by simp [ybb]
theorem yrf {l : List Str} {m : Nat} (h : ∀ s ∈ l, s.length ≤ m) : (ybb l).length ≤ l.length * (m + 4) := by
 induction l with
 | nil => simp [ybb]
 | cons s l ih =>
   have e : ybb (s :: l) = (be 4 s.length ++ s) ++ ybb l := rfl
   have h1 := h s (List.mem_cons_self ..)
   have h2 := ih fun t ht => h t (List.mem_cons_of_mem _ ht)
   rw [e, List.length_append, List.length_append, yeZ, List.length_cons, Nat.succ_mul]; omega
theorem ygr (l : List Str) (i : Nat) : (ybb (l.take i)).length ≤ (ybb l).length := by
 have : ybb l = ybb (l.take i) ++ ybb (l.drop i) := by rw [<- yhx, List.take_append_drop]
 rw [this, List.length_append]; omega
theorem yiQ {l : List Str} {i : Nat} (h : i < l.length) : l[i].length + 4 ≤ (ybb l).length := by
 have h1 := ygr l (i + 1)
 rw [List.take_succ_eq_append_getElem h, yhx, List.length_append] at h1
 have e : ybb [l[i]] = be 4 l[i].length ++ l[i] := by simp [ybb]
 rw [e, List.length_append, yeZ] at h1
 omega
theorem yhW (l : List Str) : 4 * l.length ≤ (ybb l).length := by
 induction l with
 | nil => simp
 | cons s l ih =>
   have e : ybb (s :: l) = (be 4 s.length ++ s) ++ ybb l := rfl
   rw [e, List.length_append, List.length_append, yeZ, List.length_cons]; omega
theorem yte {l : List Str} (hb : (ybb l).length ≤ 100000000) : ydA l (ybb l) := by
 unfold ydA
 intro _
 have hn := yhW l
 refine lp2 (fun (x : Int) (y : List Int) => ∃ i : Nat, x = i /\ i <= l.length /\ y = (ybb (l.take i)).map ofB) (fun (x : Int) (_ : List Int) => l.length - x.toNat) ?_ ⟨0, rfl, by omega, by simp [ybb]⟩
 rintro X x y ⟨i, rfl, hi, rfl⟩ hX
 have hb2 := ygr l i
 simp only [yir]
 refine ⟨fun c => ?_, fun c => ?_⟩
 ·have c : (i : Int) < l.length := by simpa using c
  have hlt : i < l.length := by omega
  have hs := yiQ hlt
  have w4 : IntKind.i64.wrap ((i : Int) + 1) = ((i + 1 : Nat) : Int) := by rw [wrap64 (by omega) (by omega)]; omega
  have w5 : IntKind.u64.wrap ((l[i].length : Nat) : Int) = ((l[i].length : Nat) : Int) := ygW (by omega) (by omega)
  refine ⟨by omega, c, l[i], by rw [Int.toNat_natCast]; exact List.getElem?_eq_getElem hlt, tl l[i].length 4, ?_, ?_, ?_, ?_, ?_, ?_⟩
  ·rw [w5]; exact yvy (k := 4) (by decide)
  ·rw [List.length_map]; omega
  ·rw [ysJ]; omega
  ·rw [List.length_append, List.length_map, ysJ]; omega
  ·omega
  ·rw [w4]
   refine hX _ _ ⟨i + 1, rfl, by omega, ?_⟩ (by omega)
   rw [List.take_succ_eq_append_getElem hlt, yhx, List.map_append, yuh, List.append_assoc]
   simp [ybb]
 ·have c : ¬ (i : Int) < l.length := by simpa using c
  rw [List.take_of_length_le (by omega), ypi]
theorem yrU : ∀ {n : Nat} {s : Str} {m : Nat}, s.length ≤ n → n ≤ m → spl m s = spl n s := by
 intro n
 induction n with
 | zero =>
   intro s m hs _
   have : s = [] := List.eq_nil_of_length_eq_zero (by omega)
   subst this
   cases m <;> simp [spl]
 | succ n ih =>
   intro s m hs hm
   cases m with
   | zero => omega
   | succ m =>
     simp only [spl]
     split
     ·rfl
     ·split
      ·rfl
      ·split
       ·rfl
       ·rename_i h1 h2 h3
        rw [ih (s := s.drop (4 + num (s.take 4))) (m := m) (by rw [List.length_drop]; omega) (by omega)]
theorem yi8 {t u : Str} (h : t.length < 4294967296) : ycg ((be 4 t.length ++ t) ++ u) = (ycg u).map (t :: ·) := by
 have hb : (be 4 t.length).length = 4 := yeZ _ _
 have e1 : ((be 4 t.length ++ t) ++ u).take 4 = be 4 t.length := by rw [List.append_assoc, List.take_append_of_le_length (by omega), List.take_of_length_le (by omega)]
 have e2 : num (be 4 t.length) = t.length := by rw [ys1]; exact Nat.mod_eq_of_lt h
 have e3 : ((be 4 t.length ++ t) ++ u).drop 4 = t ++ u := by rw [List.append_assoc, List.drop_append_of_le_length (by omega), List.drop_of_length_le (by omega)]; rfl
 have e4 : ((be 4 t.length ++ t) ++ u).drop (4 + t.length) = u := by rw [<- List.drop_drop, e3]; simp
 have hl : ((be 4 t.length ++ t) ++ u).length = (t.length + u.length + 3) + 1 := by rw [List.length_append, List.length_append, hb]; omega
 have hne : ¬ (be 4 t.length ++ t) ++ u = [] := fun q => by rw [q] at hl; simp at hl
 have es : ycg ((be 4 t.length ++ t) ++ u) = spl ((t.length + u.length + 3) + 1) ((be 4 t.length ++ t) ++ u) := by rw [<- hl]; rfl
 rw [es, spl.eq_2, if_neg hne, if_neg (by rw [hl]; omega), e1, e2, if_neg (by rw [hl]; omega), e4, e3, yrU (n := u.length) (Nat.le_refl _) (by omega)]
 simp [ycg]
theorem ymU {l : List Str} (h : ∀ s ∈ l, s.length < 4294967296) : ycg (ybb l) = some l := by
 induction l with
 | nil => rfl
 | cons s l ih =>
   have e : ybb (s :: l) = (be 4 s.length ++ s) ++ ybb l := rfl
   rw [e, yi8 (h s (List.mem_cons_self ..)), ih fun t ht => h t (List.mem_cons_of_mem _ ht)]; rfl
theorem yiL : ∀ {n : Nat} {s : Str} {l : List Str}, spl n s = some l → ybb l = s ∧ ∀ t ∈ l, t.length ≤ s.length := by
 intro n
 induction n with
 | zero =>
   intro s l h
   simp only [spl] at h
   split at h
   ·rename_i e; cases h; subst e; exact ⟨rfl, fun t ht => by cases ht⟩
   ·cases h
 | succ n ih =>
   intro s l h
   simp only [spl] at h
   split at h
   ·rename_i e; cases h; subst e; exact ⟨rfl, fun t ht => by cases ht⟩
   ·split at h
    ·cases h
    ·split at h
     ·cases h
     ·rename_i h1 h2 h3
      rw [Option.map_eq_some_iff] at h
      obtain ⟨l', hl', rfl⟩ := h
      obtain ⟨i1, i2⟩ := ih hl'
      have hk : (s.take 4).length = 4 := by rw [List.length_take]; omega
      have ht : ((s.drop 4).take (num (s.take 4))).length = num (s.take 4) := by rw [List.length_take, List.length_drop]; omega
      refine ⟨?_, ?_⟩
      ·show (be 4 ((s.drop 4).take (num (s.take 4))).length ++ (s.drop 4).take (num (s.take 4))) ++ ybb l' = s
       rw [ht, i1]
       have := ytb (s.take 4)
       rw [hk] at this
       rw [this, <- List.drop_drop, List.append_assoc, List.take_append_drop, List.take_append_drop]
      ·intro t ht'
       rcases List.mem_cons.1 ht' with rfl | hm
       ·rw [ht]; omega
       ·have := i2 t hm
        rw [List.length_drop] at this; omega
theorem ygh {s : Str} {l : List Str} (h : ycg s = some l) : l.length ≤ s.length := by
 have h1 := (yiL h).1
 rw [<- h1]
 clear h h1
 induction l with
 | nil => simp
 | cons t l ih =>
   have e : ybb (t :: l) = (be 4 t.length ++ t) ++ ybb l := rfl
   rw [e, List.length_append, List.length_append, yeZ, List.length_cons]; omega
end Go.Proofs.Ytkmehmgocelkiaa
end
noncomputable section
namespace Go.Proofs.Ytkmehmgocelkiaa
open Go.AV Go.RowKit
def b1 (n : Int) : Str := [UInt8.ofNat n.toNat]
theorem yqk {n : Int} (h : 0 ≤ n) (k : n < 256) : ([IntKind.u8.wrap n] : List Int).map toB = b1 n := by
 rw [ysG h k]; rfl
def yd8 (v : V) : Str := if v.Kind = 1 then b1 1 ++ b1 v.N else if v.Kind = 2 then b1 2 ++ sInt v.N else if v.Kind = 3 then b1 3 ++ v.S else b1 v.Kind
theorem ymt {v : V} (h : good v) : 0 ≤ v.Kind ∧ v.Kind ≤ 3 := by
 unfold good at h; rcases h with h | h | h | h <;> omega
theorem pTxt {v : V} (h : good v) : ye8 v (yd8 v) := by
 have hk := ymt h
 have hN := ywV h
 have hS := yvp h
 rw [ye8]
 refine ⟨fun c => ?_, fun c => ⟨fun c2 => ?_, fun c2 => ⟨fun c3 => ?_, fun c3 => ?_⟩⟩⟩
 ·have c : v.Kind = 1 := by simpa using c
  have hn : v.N = 0 ∨ v.N = 1 := by unfold good at h; rcases h with h | h | h | h <;> omega
  refine ⟨by simp, ?_⟩
  rw [yqk (by omega) (by omega), yqk (by omega) (by omega), yd8, if_pos c, c]
 ·have c : ¬ v.Kind = 1 := by simpa using c
  have c2 : v.Kind = 2 := by simpa using c2
  refine ⟨_, pInt hN, by rw [ynA]; simp, ?_⟩
  rw [yqk (by omega) (by omega), yd8, if_neg c, if_pos c2, c2]
 ·have c : ¬ v.Kind = 1 := by simpa using c
  have c2 : ¬ v.Kind = 2 := by simpa using c2
  have c3 : v.Kind = 3 := by simpa using c3
  refine ⟨by simp; omega, ?_⟩
  rw [yqk (by omega) (by omega), yd8, if_neg c, if_neg c2, if_pos c3, c3]
 ·have c : ¬ v.Kind = 1 := by simpa using c
  have c2 : ¬ v.Kind = 2 := by simpa using c2
  have c3 : ¬ v.Kind = 3 := by simpa using c3
  rw [yqk (by omega) (by omega), yd8, if_neg c, if_neg c2, if_neg c3]
theorem ypN {v : V} (h : good v) : (yd8 v).length ≤ 65 := by
 have hS := yvp h
 unfold yd8
 split
 ·simp [b1]
 ·split
  ·rw [List.length_append, ynA]; simp [b1]
  ·split
   ·rw [List.length_append]; simp [b1]; omega
   ·simp [b1]
def sRd1 (c : UInt8) (r : Str) : V × Bool := if c.toNat = 0 then (⟨0, 0, []⟩, r == []) else if c.toNat = 1 then (if r.length = 1 then (⟨1, bAt r 0, []⟩, ynd ⟨1, bAt r 0, []⟩) else (⟨1, 0, []⟩, false)) else
   if c.toNat = 2 then (if r.length = 8 then (⟨2, (num r : Int) - 9223372036854775808, []⟩, true) else (⟨2, 0, []⟩, false)) else (⟨c.toNat, 0, r⟩, ynd ⟨c.toNat, 0, r⟩)
def ygX : Str → V × Bool
 | [] => (D0, false)
 | c :: r => sRd1 c r
theorem yqD (c : UInt8) (r : Str) : ygX (c :: r) = sRd1 c r := rfl
theorem ywF {s : Str} (h : s.length ≤ 1000000000) : yen s (ygX s).1 (ygX s).2 := by
 apply yoR
 cases s with
 | nil => exact ⟨fun _ => ⟨rfl, rfl⟩, fun q => (by simp at q)⟩
 | cons c r =>
   refine ⟨fun q => (by simp at q), fun _ => ⟨⟨by omega, by rw [List.length_cons]; omega, by omega⟩, ⟨by omega, by rw [List.length_cons]; omega⟩, ?_⟩⟩
   have e0 : bAt (c :: r) 0 = (c.toNat : Int) := rfl
   have hc : c.toNat < 256 := c.toNat_lt
   have w : IntKind.i64.wrap (c.toNat : Int) = (c.toNat : Int) := wrap64 (by omega) (by omega)
   have er : (((c :: r).drop (1 : Int).toNat).take (((c :: r).length : Int).toNat - (1 : Int).toNat)) = r := by
    rw [Int.toNat_natCast]
    show r.take ((c :: r).length - 1) = r
    exact List.take_of_length_le (by simp)
   rw [er]
   simp only [ycn, e0, w]
   rw [yqD]
   unfold sRd1
   refine ⟨fun k => ?_, fun k => ⟨fun k1 => ⟨fun l => ?_, fun l => ⟨?_, ?_⟩⟩, fun k1 => ⟨fun k2 => ⟨_, _, yux r, fun l => ?_, fun l => ?_⟩, fun k2 => ?_⟩⟩⟩
   ·have k : c.toNat = 0 := by simpa using k
    rw [if_pos k, k]; exact ⟨rfl, rfl⟩
   ·have k : ¬ c.toNat = 0 := by simpa using k
    have k1 : c.toNat = 1 := by have : (c.toNat : Int) = 1 := by simpa using k1
                                omega
    have l : ¬ r.length = 1 := by have : ¬ (r.length : Int) = 1 := by simpa using l
                                  omega
    rw [if_neg k, if_pos k1, if_neg l, k1]; exact ⟨rfl, rfl⟩
   ·have l : r.length = 1 := by have : (r.length : Int) = 1 := by simpa using l
                                omega
    omega
   ·have k : ¬ c.toNat = 0 := by simpa using k
    have k1 : c.toNat = 1 := by have : (c.toNat : Int) = 1 := by simpa using k1
                                omega
    have l : r.length = 1 := by have : (r.length : Int) = 1 := by simpa using l
                                omega
    have hb : IntKind.i64.wrap (bAt r 0) = bAt r 0 := by
     have := yrv (s := r) (i := 0) (by omega)
     have h2 : r[0].toNat < 256 := r[0].toNat_lt
     show IntKind.i64.wrap (bAt r ((0 : Nat) : Int)) = bAt r ((0 : Nat) : Int)
     rw [this]; exact wrap64 (by omega) (by omega)
    rw [if_neg k, if_pos k1, if_pos l, k1, hb]
    exact ⟨_, yq3 _, rfl, rfl⟩
   ·have k : ¬ c.toNat = 0 := by simpa using k
    have k1 : ¬ c.toNat = 1 := by have : ¬ (c.toNat : Int) = 1 := by simpa using k1
                                  omega
    have k2 : c.toNat = 2 := by have : (c.toNat : Int) = 2 := by simpa using k2
                                omega
    have l : ¬ r.length = 8 := by simpa using l
    rw [if_neg k, if_neg k1, if_pos k2, if_neg l, k2]; exact ⟨rfl, rfl⟩
   ·have k : ¬ c.toNat = 0 := by simpa using k
    have k1 : ¬ c.toNat = 1 := by have : ¬ (c.toNat : Int) = 1 := by simpa using k1
                                  omega
    have k2 : c.toNat = 2 := by have : (c.toNat : Int) = 2 := by simpa using k2
                                omega
    have l : r.length = 8 := by simpa using l
    rw [if_neg k, if_neg k1, if_pos k2, if_pos l, if_pos l, k2]
    refine ⟨_, yq3 _, rfl, ?_⟩
    simp [ynd]
   ·have k : ¬ c.toNat = 0 := by simpa using k
    have k1 : ¬ c.toNat = 1 := by have : ¬ (c.toNat : Int) = 1 := by simpa using k1
                                  omega
    have k2 : ¬ c.toNat = 2 := by have : ¬ (c.toNat : Int) = 2 := by simpa using k2
                                  omega
    rw [if_neg k, if_neg k1, if_neg k2]
    exact ⟨_, yq3 _, rfl, rfl⟩
theorem c_eq {c : UInt8} {k : Nat} (h : c.toNat = k) : [c] = b1 (k : Int) := by
 have : c = UInt8.ofNat k := by rw [<- h]; exact (UInt8.ofNat_toNat).symm
 rw [this]; rfl
theorem ykf {v : V} (hr : Rg v.N) (h : ynd v = true) : good v := by
 unfold ynd at h
 unfold good
 split at h
 ·rename_i k
  have := yna.1 h
  rw [this]; exact .inl ⟨rfl, rfl, rfl⟩
 ·split at h
  ·rename_i k
   simp at h; exact .inr (.inl ⟨k, h.1, h.2⟩)
  ·split at h
   ·rename_i k; simp at h; exact .inr (.inr (.inl ⟨k, hr, h⟩))
   ·split at h
    ·rename_i k; simp at h; exact .inr (.inr (.inr ⟨k, h.1, by omega⟩))
    ·cases h
theorem ylA {s : Str} (h : (ygX s).2 = true) : good (ygX s).1 ∧ yd8 (ygX s).1 = s := by
 cases s with
 | nil => cases h
 | cons c r =>
   have hc : c.toNat < 256 := c.toNat_lt
   have split1 : c :: r = [c] ++ r := rfl
   rw [yqD] at h ⊢
   unfold sRd1 at h ⊢
   by_cases k : c.toNat = 0
   ·rw [if_pos k] at h ⊢
    have h : r = [] := by simpa using h
    subst h
    refine ⟨.inl ⟨rfl, rfl, rfl⟩, ?_⟩
    rw [c_eq k]; rfl
   ·rw [if_neg k] at h ⊢
    by_cases k1 : c.toNat = 1
    ·rw [if_pos k1] at h ⊢
     by_cases l : r.length = 1
     ·rw [if_pos l] at h ⊢
      match r, l with
      | [d], _ =>
        have hd : d.toNat < 256 := d.toNat_lt
        have eb : bAt [d] 0 = (d.toNat : Int) := rfl
        refine ⟨ykf (by unfold Rg; show _ <= bAt [d] 0 /\ bAt [d] 0 <= _; rw [eb]; omega) h, ?_⟩
        have ed : [d] = b1 (d.toNat : Int) := c_eq (c := d) rfl
        have e2 : yd8 ⟨1, bAt [d] 0, []⟩ = b1 1 ++ b1 (bAt [d] 0) := rfl
        show yd8 ⟨1, bAt [d] 0, []⟩ = _
        rw [e2, split1, c_eq k1, eb, ed]; rfl
     ·rw [if_neg l] at h; cases h
    ·rw [if_neg k1] at h ⊢
     by_cases k2 : c.toNat = 2
     ·rw [if_pos k2] at h ⊢
      by_cases l : r.length = 8
      ·rw [if_pos l]
       have hn := yjc r
       rw [l] at hn
       refine ⟨.inr (.inr (.inl ⟨rfl, by unfold Rg; show _ <= (num r : Int) - _ /\ (num r : Int) - _ <= _; omega, rfl⟩)), ?_⟩
       rw [split1, c_eq k2]
       show b1 2 ++ sInt ((num r : Int) - 9223372036854775808) = b1 2 ++ r
       unfold sInt
       have e : ((num r : Int) - 9223372036854775808 + 9223372036854775808).toNat = num r := by omega
       have := ytb r
       rw [l] at this
       rw [e, this]
      ·rw [if_neg l] at h; cases h
     ·rw [if_neg k2] at h ⊢
      have g := ykf (by unfold Rg; simp) h
      refine ⟨g, ?_⟩
      have hk := ymt g
      have k3 : c.toNat = 3 := by have : (c.toNat : Int) ≤ 3 := hk.2
                                  omega
      rw [split1, c_eq k3]
      show yd8 ⟨(c.toNat : Int), 0, r⟩ = _
      rw [k3]; rfl
end Go.Proofs.Ytkmehmgocelkiaa
end
noncomputable section
namespace Go.Proofs.Ytkmehmgocelkiaa
open Go.AV Go.RowKit
def sKey (l : List V) : Str := ybb (l.map yd8)
theorem w1 {i : Nat} (h : i < 1000000000) : IntKind.i64.wrap ((i : Int) + 1) = ((i + 1 : Nat) : Int) := by rw [wrap64 (by omega) (by omega)]; omega
theorem gAt {α : Type} {l : List α} {i : Nat} (h : i < l.length) : l[((i : Nat) : Int).toNat]? = some l[i] := by rw [Int.toNat_natCast]; exact List.getElem?_eq_getElem h
theorem yru {l : List V} (h : ∀ v ∈ l, good v) : ∀ s ∈ l.map yd8, s.length ≤ 65 := by
 intro s hs
 obtain ⟨v, hv, rfl⟩ := List.mem_map.1 hs
 exact ypN (h v hv)
theorem yxe {l : List V} (hl : l.length ≤ 1000000) (h : ∀ v ∈ l, good v) : yfH l (sKey l) := by
 unfold yfH
 intro _
 refine lp2 (fun (x : Int) (y : List Str) => ∃ i : Nat, x = i /\ i <= l.length /\ y = (l.take i).map yd8) (fun (x : Int) (_ : List Str) => l.length - x.toNat) ?_ ⟨0, rfl, by omega, by simp⟩
 rintro X x y ⟨i, rfl, hi, rfl⟩ hX
 simp only [yj6]
 refine ⟨fun c => ?_, fun c => ?_⟩
 ·have c : (i : Int) < l.length := by simpa using c
  have hlt : i < l.length := by omega
  refine ⟨by omega, c, _, gAt hlt, _, pTxt (h _ (List.getElem_mem hlt)), by simp; omega, ?_⟩
  rw [w1 (by omega)]
  refine hX _ _ ⟨i + 1, rfl, by omega, ?_⟩ (by omega)
  rw [List.take_succ_eq_append_getElem hlt, List.map_append]; rfl
 ·have c : ¬ (i : Int) < l.length := by simpa using c
  rw [List.take_of_length_le (by omega)]
  exact ⟨_, yte (by have := yrf (yru h); rw [List.length_map] at this; have h2 : l.length * (65 + 4) <= 1000000 * (65 + 4) := Nat.mul_le_mul_right _ hl; omega), rfl⟩
def sGet (s : Str) : List V × Int := match ycg s with
 | none => ([], 2)
 | some l => if l.all (fun t => (ygX t).2) then (l.map (fun t => (ygX t).1), 0) else ([], 4)
theorem pGet {s : Str} (h : s.length ≤ 100000000) : yes s (sGet s).1 (sGet s).2 := by
 unfold yes
 refine ⟨_, _, yql (by omega), ?_⟩
 unfold sGet
 cases hs : ycg s with
 | none => exact ⟨fun _ => ⟨rfl, rfl⟩, fun q => (by simp at q)⟩
 | some l =>
   refine ⟨fun q => (by simp at q), fun _ _ => ?_⟩
   have hlen := ygh hs
   have hb := (yiL hs).2
   show ∀ X1 : Int -> List V -> Prop, (∀ x3 x4, yh5 l _ _ X1 x3 x4 -> X1 x3 x4) -> X1 0 []
   refine lp2 (fun (x : Int) (y : List V) => ∃ i : Nat, x = i /\ i <= l.length /\ y = (l.take i).map (fun t => (ygX t).1) /\ ((l.take i).all (fun t => (ygX t).2)) = true) (fun (x : Int) (_ : List V) => l.length - x.toNat) ?_ ⟨0, rfl, by omega, by simp, by simp⟩
   rintro X x y ⟨i, rfl, hi, rfl, ha⟩ hX
   simp only [yh5]
   refine ⟨fun c => ?_, fun c => ?_⟩
   ·have c : (i : Int) < l.length := by simpa using c
    have hlt : i < l.length := by omega
    refine ⟨by omega, c, _, gAt hlt, _, _, ywF (by have := hb l[i] (List.getElem_mem hlt); omega), fun d => ?_, fun d => ⟨by simp; omega, ?_⟩⟩
    ·have d : (ygX l[i]).2 = false := by simpa using d
     have : ¬ (l.all (fun t => (ygX t).2)) = true := fun q => by
      have := List.all_eq_true.1 q l[i] (List.getElem_mem hlt)
      rw [d] at this; cases this
     rw [if_neg this]; exact ⟨rfl, rfl⟩
    ·have d : (ygX l[i]).2 = true := by simpa using d
     rw [w1 (by omega)]
     refine hX _ _ ⟨i + 1, rfl, by omega, ?_, ?_⟩ (by omega)
     ·rw [List.take_succ_eq_append_getElem hlt, List.map_append]; rfl
     ·rw [List.take_succ_eq_append_getElem hlt, List.all_append, ha]; simp [d]
   ·have c : ¬ (i : Int) < l.length := by simpa using c
    rw [List.take_of_length_le (by omega)] at ha ⊢
    rw [if_pos ha]; exact ⟨rfl, rfl⟩
end Go.Proofs.Ytkmehmgocelkiaa
end
noncomputable section
namespace Go.Proofs.Ytkmehmgocelkiaa
open Go.AV Go.RowKit
theorem yn7 {n : Nat} : ([IntKind.u8.wrap ((n : Int).tmod 256)] : List Int).map toB = [UInt8.ofNat n] := by
 have h : ((n : Int).tmod 256) = ((n % 256 : Nat) : Int) := by
  rw [Int.tmod_eq_emod_of_nonneg (by omega)]; omega
 rw [h, ysG (by omega) (by omega)]
 show [UInt8.ofNat (n % 256 : Nat)] = _
 congr 1
 exact UInt8.toNat_inj.1 (by rw [UInt8.toNat_ofNat', UInt8.toNat_ofNat']; show n % 256 % 256 = n % 256; omega)
theorem yuC {l : List Str} (hb : (ybb l).length ≤ 100000000) : yc1 l (ybb l) := by
 unfold yc1
 have hn := yhW l
 refine lp2 (fun (x : Str) (y : Int) => ∃ i : Nat, y = i /\ i <= l.length /\ x = ybb (l.take i)) (fun (_ : Str) (y : Int) => l.length - y.toNat) ?_ ⟨0, rfl, by omega, by simp [ybb]⟩
 rintro X x y ⟨i, rfl, hi, rfl⟩ hX
 have hb2 := ygr l i
 simp only [yhV]
 intro _
 refine ⟨fun c => ?_, fun c => ?_⟩
 ·have c : (i : Int) < l.length := of_decide_eq_true c
  have hlt : i < l.length := by omega
  have hs := yiQ hlt
  have dv : ∀ k : Nat, 0 < k → IntKind.i64.wrap ((l[i].length : Int).tdiv (k : Int)) = ((l[i].length / k : Nat) : Int) := by
   intro k hk
   have : ((l[i].length : Int).tdiv (k : Int)) = ((l[i].length / k : Nat) : Int) := by
    rw [Int.tdiv_eq_ediv_of_nonneg (Int.natCast_nonneg _)]; rfl
   rw [this]
   have hq : l[i].length / k <= l[i].length := Nat.div_le_self _ _
   generalize l[i].length / k = q at *
   exact wrap64 (by omega) (by omega)
  have bytes : ([IntKind.u8.wrap ((IntKind.i64.wrap ((l[i].length : Int).tdiv (16777216 : Int))).tmod (256 : Int)), IntKind.u8.wrap ((IntKind.i64.wrap ((l[i].length : Int).tdiv (65536 : Int))).tmod (256 : Int)), IntKind.u8.wrap ((IntKind.i64.wrap ((l[i].length : Int).tdiv (256 : Int))).tmod (256 : Int)), IntKind.u8.wrap ((l[i].length : Int).tmod (256 : Int))] : List Int).map toB = be 4 l[i].length := by
   have d1 := dv 16777216 (by omega)
   have d2 := dv 65536 (by omega)
   have d3 := dv 256 (by omega)
   rw [show ((16777216 : Nat) : Int) = 16777216 from rfl] at d1
   rw [show ((65536 : Nat) : Int) = 65536 from rfl] at d2
   rw [show ((256 : Nat) : Int) = 256 from rfl] at d3
   rw [d1, d2, d3]
   have m1 := yn7 (n := l[i].length / 16777216)
   have m2 := yn7 (n := l[i].length / 65536)
   have m3 := yn7 (n := l[i].length / 256)
   have m4 := yn7 (n := l[i].length)
   simp only [List.map_cons, List.map_nil, List.cons.injEq, and_true] at m1 m2 m3 m4 ⊢
   rw [m1, m2, m3, m4]
   show _ = [UInt8.ofNat (l[i].length / 256 ^ 3), UInt8.ofNat (l[i].length / 256 ^ 2), UInt8.ofNat (l[i].length / 256 ^ 1), UInt8.ofNat (l[i].length / 256 ^ 0)]
   simp
  refine ⟨by omega, c, _, gAt hlt, by omega, c, _, gAt hlt, ?_, ?_, ?_⟩
  ·rw [bytes, yeZ]; omega
  ·rw [bytes, List.length_append, yeZ]; omega
  ·rw [bytes, w1 (by omega)]
   refine hX _ _ ⟨i + 1, rfl, by omega, ?_⟩ (by omega)
   rw [List.take_succ_eq_append_getElem hlt, yhx]; simp [ybb]
 ·have c : ¬ (i : Int) < l.length := of_decide_eq_false c
  rw [List.take_of_length_le (by omega)]
end Go.Proofs.Ytkmehmgocelkiaa
end
noncomputable section
namespace Go.Proofs.Ytkmehmgocelkiaa
open Go.AV Go.RowKit
section
variable {α : Type}
def rins (lt : α → α → Bool) (x : α) : List α → List α
 | [] => [x]
 | y :: r => if lt x y then y :: rins lt x r else x :: y :: r
def ins (lt : α -> α -> Bool) (x : α) (l : List α) : List α := (rins lt x l.reverse).reverse
def srt (lt : α → α → Bool) : List α → List α → List α
 | out, [] => out
 | out, x :: r => srt lt (ins lt x out) r
structure Ord (lt : α → α → Bool) : Prop where
 irr : ∀ a, lt a a = false
 tr : ∀ a b c, lt a b = true -> lt b c = true -> lt a c = true
 tot : ∀ a b, lt a b = true ∨ a = b ∨ lt b a = true
variable {lt : α -> α -> Bool}
theorem Ord.le_trans (o : Ord lt) {a b c : α} (h : lt b a = false) (k : lt c b = false) : lt c a = false := by
 cases hc : lt c a with
 | false => rfl
 | true =>
   rcases o.tot a b with e | e | e
   ·have := o.tr _ _ _ hc e; rw [k] at this; cases this
   ·subst e; rw [k] at hc; cases hc
   ·rw [h] at e; cases e
theorem Ord.anti (o : Ord lt) {a b : α} (h : lt b a = false) (k : lt a b = false) : a = b := by
 rcases o.tot a b with e | e | e
 ·rw [k] at e; cases e
 ·exact e
 ·rw [h] at e; cases e
theorem Ord.asym (o : Ord lt) {a b : α} (h : lt a b = true) : lt b a = false := by
 cases hc : lt b a with
 | false => rfl
 | true => have := o.tr _ _ _ h hc; rw [o.irr] at this; cases this
def Sd (lt : α -> α -> Bool) (l : List α) : Prop := l.Pairwise fun a b => lt b a = false
theorem Sd.app {l m : List α} : Sd lt (l ++ m) ↔ Sd lt l /\ Sd lt m /\ ∀ a ∈ l, ∀ b ∈ m, lt b a = false := List.pairwise_append
theorem Sd.uniq (o : Ord lt) {l m : List α} (h : Sd lt l) (k : Sd lt m) (p : l.Perm m) : l = m :=
 List.Perm.eq_of_pairwise (fun _ _ _ _ h k => o.anti h k) h k p
theorem yiX (x : α) : ∀ l : List α, (rins lt x l).Perm (x :: l)
 | [] => .refl _
 | y :: r => by
   unfold rins
   split
   ·exact ((yiX x r).cons y).trans (.swap ..)
   ·exact .refl _
theorem yrA (x : α) (l : List α) : (ins lt x l).Perm (x :: l) := by
 unfold ins
 refine (List.reverse_perm _).trans ((yiX x _).trans ?_)
 exact (List.reverse_perm l).cons x
theorem yoo : ∀ (l out : List α), (srt lt out l).Perm (out ++ l)
 | [], out => by simp [srt]
 | x :: r, out => by
   unfold srt
   refine (yoo r _).trans (((yrA x out).append_right r).trans ?_)
   exact List.perm_middle.symm
theorem yq0 (o : Ord lt) (x : α) : ∀ {l : List α}, (l.Pairwise fun a b => lt a b = false) → (rins lt x l).Pairwise fun a b => lt a b = false
 | [], _ => by simp [rins]
 | y :: r, h => by
   obtain ⟨h1, h2⟩ := List.pairwise_cons.1 h
   unfold rins
   split
   ·rename_i c
    refine List.pairwise_cons.2 ⟨fun z hz => ?_, yq0 o x h2⟩
    rcases List.mem_cons.1 ((yiX x r).subset hz) with rfl | hz
    ·exact o.asym c
    ·exact h1 z hz
   ·rename_i c
    have c : lt x y = false := by simpa using c
    refine List.pairwise_cons.2 ⟨fun z hz => ?_, h⟩
    rcases List.mem_cons.1 hz with rfl | hz
    ·exact c
    ·exact o.le_trans (h1 z hz) c
theorem yvx (o : Ord lt) (x : α) {l : List α} (h : Sd lt l) : Sd lt (ins lt x l) := by
 unfold ins Sd
 rw [List.pairwise_reverse]
 exact yq0 o x (List.pairwise_reverse.2 h)
theorem ys4 (o : Ord lt) : ∀ (l : List α) {out : List α}, Sd lt out → Sd lt (srt lt out l)
 | [], _, h => h
 | x :: r, _, h => by unfold srt; exact ys4 o r (yvx o x h)
theorem yih (o : Ord lt) (l : List α) : Sd lt (srt lt [] l) := ys4 o l List.Pairwise.nil
theorem yb8 (l : List α) : (srt lt [] l).Perm l := yoo l []
theorem yoh (o : Ord lt) {l m : List α} (h : Sd lt m) (p : m.Perm l) : srt lt [] l = m :=
 (yih o l).uniq o h ((yb8 l).trans p.symm)
theorem ys5 (o : Ord lt) {l m : List α} (p : m.Perm l) : srt lt [] l = srt lt [] m :=
 yoh o (yih o m) ((yb8 m).trans p)
theorem yem (lt : α -> α -> Bool) (l : List α) : (srt lt [] l).length = l.length := (yb8 l).length_eq
theorem Sd.last {l : List α} {p x : α} (o : Ord lt) (h : Sd lt (l ++ [p])) (k : lt x p = false) : ∀ a ∈ l ++ [p], lt x a = false := by
 intro a ha
 rcases List.mem_append.1 ha with ha | ha
 ·exact o.le_trans ((Sd.app.1 h).2.2 a ha p (by simp)) k
 ·rw [List.mem_singleton.1 ha]; exact k
theorem Sd.head {l : List α} {p x : α} (o : Ord lt) (h : Sd lt (p :: l)) (k : lt p x = false) : ∀ a ∈ p :: l, lt a x = false := by
 intro a ha
 rcases List.mem_cons.1 ha with rfl | ha
 ·exact k
 ·exact o.le_trans k ((List.pairwise_cons.1 h).1 a ha)
theorem ywt (o : Ord lt) {A B A1 A2 B1 B2 : List α} (hA : Sd lt A) (hB : Sd lt B) (eA : A = A1 ++ A2) (eB : B = B1 ++ B2)
  (h1 : ∀ x y, A1.getLast? = some x -> B2.head? = some y -> lt y x = false) (h2 : ∀ x y, B1.getLast? = some x -> A2.head? = some y -> lt y x = false) :
  srt lt [] (A ++ B) = srt lt [] (A1 ++ B1) ++ srt lt [] (A2 ++ B2) := by
 subst eA; subst eB
 obtain ⟨a1, a2, a3⟩ := Sd.app.1 hA
 obtain ⟨b1, b2, b3⟩ := Sd.app.1 hB
 have cross : ∀ {U W : List α}, Sd lt U → Sd lt W → (∀ x y, U.getLast? = some x → W.head? = some y → lt y x = false) → ∀ u ∈ U, ∀ w ∈ W, lt w u = false := by
  intro U W hU hW h u hu w hw
  cases W with
  | nil => cases hw
  | cons y W =>
    have hne : U ≠ [] := fun e => by subst e; cases hu
    have hx : U.getLast? = some (U.getLast hne) := List.getLast?_eq_some_getLast hne
    have eU : U = U.dropLast ++ [U.getLast hne] := (List.dropLast_concat_getLast hne).symm
    have k := h _ y hx rfl
    have := Sd.last o (l := U.dropLast) (p := U.getLast hne) (x := y) (by rw [<- eU]; exact hU) k u (by rw [<- eU]; exact hu)
    exact Sd.head o hW this w hw
 refine yoh o ?_ ?_
 ·refine Sd.app.2 ⟨yih o _, yih o _, fun u hu w hw => ?_⟩
  have hu := (yb8 _).subset hu
  have hw := (yb8 _).subset hw
  rcases List.mem_append.1 hu with hu | hu <;> rcases List.mem_append.1 hw with hw | hw
  ·exact a3 u hu w hw
  ·exact cross a1 b2 h1 u hu w hw
  ·exact cross b1 a2 h2 u hu w hw
  ·exact b3 u hu w hw
 ·refine (((yb8 _).append_right _).trans ((yb8 _).append_left _)).trans ?_
  simp only [List.append_assoc]
  refine List.Perm.append_left A1 ?_
  rw [<- List.append_assoc, <- List.append_assoc]
  exact List.perm_append_comm.append_right B2
theorem yqW (o : Ord lt) {l : List α} (h : Sd lt l) : srt lt [] l = l := yoh o h (.refl _)
theorem yp0 (o : Ord lt) {x : α} {B1 B2 : List α} (h : Sd lt (B1 ++ B2)) (h1 : ∀ b ∈ B1, lt x b = false) (h2 : ∀ b ∈ B2, lt b x = false) : srt lt [] (x :: (B1 ++ B2)) = B1 ++ x :: B2 := by
 obtain ⟨b1, b2, b3⟩ := Sd.app.1 h
 refine yoh o ?_ List.perm_middle
 exact Sd.app.2 ⟨b1, List.pairwise_cons.2 ⟨h2, b2⟩, fun a ha b hb => by
  rcases List.mem_cons.1 hb with rfl | hb
  ·exact h1 a ha
  ·exact b3 a ha b hb⟩
end
theorem yj9 {α : Type} : ∀ l : List α, l = [] ∨ ∃ l' b, l = l' ++ [b]
 | [] => .inl rfl
 | a :: l => .inr (match yj9 l with
   | .inl e => ⟨[], a, by rw [e]; rfl⟩
   | .inr ⟨l', b, e⟩ => ⟨a :: l', b, by rw [e]; rfl⟩)
def rc : List V → List V → Int
 | [], [] => 0
 | [], _ :: _ => -1
 | _ :: _, [] => 1
 | a :: r, b :: q => if sCmp a b ≠ 0 then sCmp a b else rc r q
theorem yt6 (b : List V) : rc [] b = if 0 < b.length then -1 else 0 := by cases b <;> simp [rc]
theorem yr5 (a b : V) (r q : List V) : rc (a :: r) (b :: q) = if sCmp a b ≠ 0 then sCmp a b else rc r q := rfl
theorem yhL {α : Type} {l : List α} {i : Nat} {y : α} (h : l[i]? = some y) : l.drop i = y :: l.drop (i + 1) := by
 obtain ⟨hi, rfl⟩ := List.getElem?_eq_some_iff.1 h
 exact List.drop_eq_getElem_cons hi
theorem ybL {α : Type} {l : List α} {n : Nat} (h : n < l.length) : ∃ t, l[n]? = some t := ⟨_, List.getElem?_eq_getElem h⟩
theorem yli {a b : V} : sCmp a b < 0 ↔ a.Kind < b.Kind ∨ a.Kind = b.Kind ∧ (a.N < b.N ∨ a.N = b.N ∧ Op.bytesLess a.S b.S = true) := by
 have h1 := yon (a := a.Kind) (b := b.Kind)
 have h2 := yon (a := a.N) (b := b.N)
 have h3 := yvt (a := a.S) (b := b.S)
 unfold sCmp sOr
 rw [<- h3]
 split
 ·omega
 ·split <;> omega
theorem yso (a : V) : ¬ sCmp a a < 0 := by
 rw [yli]
 have := yhP a.S
 rintro (h | ⟨_, h | ⟨_, h⟩⟩)
 ·omega
 ·omega
 ·rw [this] at h; cases h
theorem ytH {a b c : V} (h : sCmp a b < 0) (k : sCmp b c < 0) : sCmp a c < 0 := by
 rw [yli] at *
 rcases h with h | ⟨h, h'⟩ <;> rcases k with k | ⟨k, k'⟩
 ·exact .inl (by omega)
 ·exact .inl (by omega)
 ·exact .inl (by omega)
 ·refine .inr ⟨by omega, ?_⟩
  rcases h' with h' | ⟨h', h2⟩ <;> rcases k' with k' | ⟨k', k2⟩
  ·exact .inl (by omega)
  ·exact .inl (by omega)
  ·exact .inl (by omega)
  ·exact .inr ⟨by omega, yky _ _ _ h2 k2⟩
theorem yrH (a b : V) : sCmp a b < 0 ∨ a = b ∨ sCmp b a < 0 := by
 rw [yli, yli]
 rcases Int.lt_trichotomy a.Kind b.Kind with h | h | h
 ·exact .inl (.inl h)
 ·rcases Int.lt_trichotomy a.N b.N with k | k | k
  ·exact .inl (.inr ⟨h, .inl k⟩)
  ·rcases yko a.S b.S with q | q | q
   ·exact .inl (.inr ⟨h, .inr ⟨k, q⟩⟩)
   ·refine .inr (.inl ?_)
    cases a; cases b
    simp only at h k q
    rw [h, k, q]
   ·exact .inr (.inr (.inr ⟨h.symm, .inr ⟨k.symm, q⟩⟩))
  ·exact .inr (.inr (.inr ⟨h.symm, .inl k⟩))
 ·exact .inr (.inr (.inl h))
def lt7 (a b : List V) : Bool := decide (rc a b < 0)
theorem ynM (x y : V) (r q : List V) : lt7 (x :: r) (y :: q) = true ↔ sCmp x y < 0 ∨ x = y ∧ lt7 r q = true := by
 unfold lt7
 rw [decide_eq_true_eq, decide_eq_true_eq, yr5]
 by_cases h : sCmp x y = 0
 ·rw [if_neg (by simpa using h)]
  have e := ylz.1 h
  constructor
  ·exact fun k => .inr ⟨e, k⟩
  ·rintro (k | ⟨_, k⟩)
   ·omega
   ·exact k
 ·rw [if_pos h]
  constructor
  ·exact fun k => .inl k
  ·rintro (k | ⟨e, k⟩)
   ·exact k
   ·exact absurd (ylz.2 e) h
theorem ybO : Ord lt7 := by
 refine ⟨fun a => ?_, fun a b c => ?_, fun a b => ?_⟩
 ·induction a with
  | nil => rfl
  | cons x r ih =>
    cases h : lt7 (x :: r) (x :: r) with
    | false => rfl
    | true =>
      rcases (ynM x x r r).1 h with k | ⟨_, k⟩
      ·exact absurd k (yso x)
      ·rw [ih] at k; cases k
 ·induction a generalizing b c with
  | nil =>
    intro h k
    cases c with
    | nil => cases b <;> simp [lt7, rc] at h k
    | cons z t => rfl
  | cons x r ih =>
    intro h k
    cases b with
    | nil => simp [lt7, rc] at h
    | cons y q =>
      cases c with
      | nil => simp [lt7, rc] at k
      | cons z t =>
        rw [ynM] at *
        rcases h with h | ⟨h, h'⟩ <;> rcases k with k | ⟨k, k'⟩
        ·exact .inl (ytH h k)
        ·subst k; exact .inl h
        ·subst h; exact .inl k
        ·exact .inr ⟨h.trans k, ih _ _ h' k'⟩
 ·induction a generalizing b with
  | nil => cases b with
    | nil => exact .inr (.inl rfl)
    | cons y q => exact .inl rfl
  | cons x r ih =>
    cases b with
    | nil => exact .inr (.inr rfl)
    | cons y q =>
      rw [ynM, ynM]
      rcases yrH x y with h | h | h
      ·exact .inl (.inl h)
      ·rcases ih q with k | k | k
       ·exact .inl (.inr ⟨h, k⟩)
       ·exact .inr (.inl (by rw [h, k]))
       ·exact .inr (.inr (.inr ⟨h.symm, k⟩))
      ·exact .inr (.inr (.inl h))
theorem rc_0 {a b : List V} : rc a b = 0 ↔ a = b := by
 constructor
 ·intro h
  rcases ybO.tot a b with k | k | k
  ·have := of_decide_eq_true k; omega
  ·exact k
  ·have k := of_decide_eq_true k
   exfalso
   have key : ∀ a b : List V, rc a b = 0 → ¬ rc b a < 0 := by
    intro a
    induction a with
    | nil => intro b h; cases b with
      | nil => simp [rc]
      | cons y q => simp [rc] at h
    | cons x r ih =>
      intro b h
      cases b with
      | nil => simp [rc] at h
      | cons y q =>
        rw [yr5] at h ⊢
        split at h
        ·rename_i e; exact absurd h e
        ·rename_i e
         have e := ylz.1 (Decidable.not_not.1 e)
         subst e
         rw [if_neg (by simp [ylz])]
         exact ih q h
   exact key a b h k
 ·rintro rfl
  induction a with
  | nil => rfl
  | cons x r ih => rw [yr5, if_neg (by simp [ylz])]; exact ih
theorem ys6 {a b : List V} : 0 < rc a b ↔ lt7 b a = true := by
 constructor
 ·intro h
  rcases ybO.tot a b with k | k | k
  ·have := of_decide_eq_true k; omega
  ·have := rc_0.2 k; omega
  ·exact k
 ·intro k
  have n0 : ¬ rc a b = 0 := fun e => by rw [rc_0.1 e, ybO.irr] at k; cases k
  have n1 : ¬ rc a b < 0 := fun e => by
   have := ybO.asym (decide_eq_true e : lt7 a b = true)
   rw [this] at k; cases k
  omega
end Go.Proofs.Ytkmehmgocelkiaa
end
noncomputable section
namespace Go.Proofs.Ytkmehmgocelkiaa
open Go.AV Go.RowKit
abbrev Rw := List yaa
section
variable {α : Type}
theorem ydq (U T : List α) (x : α) : (U ++ x :: T)[U.length]? = some x := by simp
theorem yif (U T : List α) (x y : α) : (U ++ x :: T).set U.length y = U ++ y :: T := by
 rw [List.set_append_right _ _ (Nat.le_refl _)]; simp
theorem yi0 {U M T : List α} {x z : α} {i j : Nat} (hi : i = U.length) (hj : j = U.length + 1 + M.length) :
  (U ++ x :: (M ++ z :: T))[i]? = some x /\ (U ++ x :: (M ++ z :: T))[j]? = some z /\ ((U ++ x :: (M ++ z :: T)).set i z)[j]? = some z /\ ((U ++ x :: (M ++ z :: T)).set j x)[i]? = some x /\ ((U ++ x :: (M ++ z :: T)).set i z).set j x = U ++ z :: (M ++ x :: T) /\ ((U ++ x :: (M ++ z :: T)).set j x).set i z = U ++ z :: (M ++ x :: T) /\ j < (U ++ x :: (M ++ z :: T)).length := by
 subst hi; subst hj
 have e : ∀ w : α, U ++ w :: (M ++ z :: T) = (U ++ w :: M) ++ z :: T := fun w => by simp
 have l : ∀ w : α, (U ++ w :: M).length = U.length + 1 + M.length := fun w => by simp; omega
 refine ⟨ydq _ _ _, ?_, ?_, ?_, ?_, ?_, ?_⟩
 ·rw [e, <- l x]; exact ydq _ _ _
 ·rw [yif, e, <- l z]; exact ydq _ _ _
 ·rw [e, <- l x, yif, List.append_assoc]; exact ydq _ _ _
 ·rw [yif, e, <- l z, yif, List.append_assoc]; rfl
 ·rw [e, <- l x, yif, List.append_assoc]; exact yif _ _ _ _
 ·simp; omega
end
theorem yk9 (x y : Nat) (h : x + y < 4000000000) : IntKind.i64.wrap ((IntKind.u64.wrap (IntKind.i64.wrap ((x : Int) + (y : Int)))).fdiv (2 ^ (min (1 : Int).toNat IntKind.u64.bits))) = (((x + y) / 2 : Nat) : Int) := by
 have e : (2 : Int) ^ (min (1 : Int).toNat IntKind.u64.bits) = 2 := by decide
 rw [e, wrap64 (n := (x : Int) + y) (by omega) (by omega), ygW (by omega) (by omega), Int.fdiv_eq_ediv_of_nonneg _ (by omega), wrap64 (by omega) (by omega)]
 omega
theorem ytI {g : Rw → Rw → Int → Prop} {P X Y Z S : List Rw} {a b n : Int} (h : X.length = Z.length) (hb : P.length + X.length + Y.length + Z.length ≤ 1000) (ha : a = P.length) (hbb : b = P.length + X.length + Y.length) (hn : n = X.length) :
  yak g a b n (P ++ (X ++ (Y ++ (Z ++ S)))) (P ++ (Z ++ (Y ++ (X ++ S)))) := by
 unfold yak
 refine lp2 (fun (i : Int) (d : List Rw) => ∃ X1 X2 Z1 Z2, X = X1 ++ X2 /\ Z = Z1 ++ Z2 /\ i = X1.length /\ X1.length = Z1.length /\ d = P ++ (Z1 ++ (X2 ++ (Y ++ (X1 ++ (Z2 ++ S)))))) (fun i _ => (X.length - i).toNat) ?_ ⟨[], X, [], Z, rfl, rfl, rfl, rfl, rfl⟩
 rintro J i d ⟨X1, X2, Z1, Z2, e1, e2, rfl, e3, rfl⟩ ih
 have l1 : X.length = X1.length + X2.length := by rw [e1]; simp
 have l2 : Z.length = Z1.length + Z2.length := by rw [e2]; simp
 unfold ybQ
 cases X2 with
 | nil =>
   simp only [List.length_nil] at l1
   have : Z2 = [] := List.eq_nil_of_length_eq_zero (by omega)
   subst this
   refine yaz (by simp; omega) ?_
   rw [e1, e2]; simp
 | cons x X2 =>
   cases Z2 with
   | nil => simp only [List.length_nil, List.length_cons] at l1 l2; omega
   | cons z Z2 =>
     simp only [List.length_cons] at l1 l2
     have w1 : IntKind.i64.wrap (a + (X1.length : Int)) = (((P ++ Z1).length : Nat) : Int) := by rw [wrap64 (by omega) (by omega)]; simp; omega
     have w2 : IntKind.i64.wrap (b + (X1.length : Int)) = (((P ++ Z1).length + 1 + (X2 ++ (Y ++ X1)).length : Nat) : Int) := by rw [wrap64 (by omega) (by omega)]; simp; omega
     have w3 : IntKind.i64.wrap ((X1.length : Int) + 1) = ((X1.length + 1 : Nat) : Int) := by rw [wrap64 (by omega) (by omega)]; omega
     have ed : P ++ (Z1 ++ (x :: X2 ++ (Y ++ (X1 ++ (z :: Z2 ++ S))))) = (P ++ Z1) ++ x :: ((X2 ++ (Y ++ X1)) ++ z :: (Z2 ++ S)) := by simp
     obtain ⟨g1, g2, g3, g4, g5, g6, g7⟩ := yi0 (U := P ++ Z1) (M := X2 ++ (Y ++ X1)) (T := Z2 ++ S) (x := x) (z := z) rfl rfl
     rw [ed, w1, w2, w3]
     simp only [Int.toNat_natCast]
     refine yaD (by simp; omega) ⟨by omega, by omega, z, g2, by omega, by omega, x, g1, by omega, by omega, x, g1, by omega, by rw [List.length_set]; omega, z, g3, ?_⟩
     rw [g5]
     refine ih _ _ ⟨X1 ++ [x], X2, Z1 ++ [z], Z2, by rw [e1]; simp, by rw [e2]; simp, by simp, by simp [e3], by simp⟩ (by omega)
theorem yi3 {α : Type} {l : List α} {n : Nat} (h : n <= l.length) : ∃ a b, l = a ++ b /\ a.length = n /\ b.length = l.length - n := ⟨l.take n, l.drop n, by simp, by simp; omega, by simp⟩
theorem yuD {g : Rw → Rw → Int → Prop} {P L R S : List Rw} {a m b : Int} (hb : P.length + L.length + R.length ≤ 1000) (hL : 0 < L.length) (hR : 0 < R.length) (ha : a = P.length) (hm : m = P.length + L.length) (hbb : b = P.length + L.length + R.length) :
  yap g a m b (P ++ (L ++ (R ++ S))) (P ++ (R ++ (L ++ S))) := by
 unfold yap
 have s1 : IntKind.i64.wrap (m - a) = (L.length : Int) := by rw [wrap64 (by omega) (by omega)]; omega
 have s2 : IntKind.i64.wrap (b - m) = (R.length : Int) := by rw [wrap64 (by omega) (by omega)]; omega
 rw [s1, s2]
 refine lp3 (fun (i j : Int) (d : List Rw) => ∃ P' L' R' S', i = L'.length /\ j = R'.length /\ 0 < L'.length /\ 0 < R'.length /\ m = P'.length + L'.length /\ P'.length + L'.length + R'.length <= 1000 /\ d = P' ++ (L' ++ (R' ++ S')) /\ P' ++ (R' ++ (L' ++ S')) = P ++ (R ++ (L ++ S))) (fun i j _ => (i + j).toNat) ?_ ⟨P, L, R, S, rfl, rfl, hL, hR, hm, hb, rfl, rfl⟩
 rintro X i j d ⟨P', L', R', S', rfl, rfl, hl, hr, hm', hb', rfl, he⟩ ih
 unfold yb3
 have w0 : IntKind.i64.wrap (m - (L'.length : Int)) = (P'.length : Int) := by rw [wrap64 (by omega) (by omega)]; omega
 rw [w0]
 refine ⟨fun c => ⟨fun c2 => ?_, fun c2 => ?_⟩, fun c => ?_⟩
 ·have c2 : (R'.length : Int) < L'.length := by simpa using c2
  obtain ⟨A, B, rfl, hA, hB⟩ := yi3 (l := L') (n := R'.length) (by omega)
  simp only [List.length_append] at *
  have w1 : IntKind.i64.wrap (((A.length + B.length : Nat) : Int) - (R'.length : Int)) = (B.length : Int) := by rw [wrap64 (by omega) (by omega)]; omega
  rw [w1]
  refine ⟨P' ++ (R' ++ (B ++ (A ++ S'))), ?_, by simp; omega, ih _ _ _ ⟨P' ++ R', B, A, S', rfl, by omega, by omega, by omega, by simp; omega, by simp; omega, by simp, by rw [<- he]; simp⟩ (by omega)⟩
  have := ytI (g := g) (P := P') (X := A) (Y := B) (Z := R') (S := S') (a := P'.length) (b := m) (n := R'.length) hA (by omega) rfl (by omega) (by omega)
  simpa using this
 ·have c2 : ¬ (R'.length : Int) < L'.length := by simpa using c2
  have c : ¬ (L'.length : Int) = R'.length := by simpa using c
  obtain ⟨U, W, rfl, hU, hW⟩ := yi3 (l := R') (n := R'.length - L'.length) (by omega)
  simp only [List.length_append] at *
  have w1 : IntKind.i64.wrap (((U.length + W.length : Nat) : Int) - (L'.length : Int)) = (U.length : Int) := by rw [wrap64 (by omega) (by omega)]; omega
  have w2 : IntKind.i64.wrap (IntKind.i64.wrap (m + ((U.length + W.length : Nat) : Int)) - (L'.length : Int)) = ((P'.length + L'.length + U.length : Nat) : Int) := by rw [wrap64 (n := m + _) (by omega) (by omega), wrap64 (by omega) (by omega)]; omega
  rw [w1, w2]
  refine ⟨P' ++ (W ++ (U ++ (L' ++ S'))), ?_, by simp; omega, ih _ _ _ ⟨P', W, U, L' ++ S', by omega, rfl, by omega, by omega, by omega, by omega, rfl, by rw [<- he]; simp⟩ (by omega)⟩
  have := ytI (g := g) (P := P') (X := L') (Y := U) (Z := W) (S := S') (a := P'.length) (b := ((P'.length + L'.length + U.length : Nat) : Int)) (n := L'.length) (by omega) (by omega) rfl (by omega) rfl
  simpa using this
 ·have c : (L'.length : Int) = R'.length := by simpa using c
  refine ⟨_, ?_, ?_, he⟩
  ·have := ytI (g := g) (P := P') (X := L') (Y := []) (Z := R') (S := S') (a := P'.length) (b := m) (n := L'.length) (by omega) (by simp; omega) rfl (by simp; omega) rfl
   simpa using this
  ·simp; omega
end Go.Proofs.Ytkmehmgocelkiaa
end
noncomputable section
namespace Go.Proofs.Ytkmehmgocelkiaa
open Go.AV Go.RowKit
def Cmp (g : Rw -> Rw -> Int -> Prop) (Q : Rw -> Prop) : Prop := ∀ a b, Q a -> Q b -> g a b (rc a b)
theorem ysM {α : Type} {l : List α} {x : α} (h : l.getLast? = some x) : ∃ l', l = l' ++ [x] := by
 have hne : l ≠ [] := fun e => by subst e; cases h
 rw [List.getLast?_eq_some_getLast hne] at h
 exact ⟨l.dropLast, by rw [<- Option.some.inj h]; exact (List.dropLast_concat_getLast hne).symm⟩
theorem yw1 {g : Rw → Rw → Int → Prop} {Q : Rw → Prop} (hg : Cmp g Q) {P B S : List Rw} {x : Rw} (hb : P.length + 1 + B.length ≤ 1000) (hq : ∀ y ∈ x :: B, Q y) (hB : Sd lt7 B) :
  ∀ X1 : Int -> Int -> List Rw -> Prop, (∀ x1 x2 x3, yar (P.length : Int) g (P ++ (srt lt7 [] (x :: B) ++ S)) X1 x1 x2 x3 -> X1 x1 x2 x3) -> X1 ((P.length + 1 : Nat) : Int) ((P.length + 1 + B.length : Nat) : Int) (P ++ (x :: (B ++ S))) := by
 refine lp3 (fun (i j : Int) (d : List Rw) => ∃ p q : Nat, i = ((P.length + 1 + p : Nat) : Int) /\ j = ((P.length + 1 + q : Nat) : Int) /\ p <= q /\ q <= B.length /\ d = P ++ (x :: (B ++ S)) /\ (∀ y, 0 < p -> B[p - 1]? = some y -> lt7 y x = true) /\ (∀ y, B[q]? = some y -> lt7 y x = false)) (fun i j _ => (j - i).toNat) ?_ ⟨0, B.length, rfl, rfl, by omega, by omega, rfl, fun y h => by omega, fun y h => by rw [List.getElem?_eq_none (by omega)] at h; cases h⟩
 rintro X i j d ⟨p, q, rfl, rfl, hpq, hqB, rfl, h1, h2⟩ ih
 have hl : (P ++ (x :: (B ++ S))).length = P.length + 1 + B.length + S.length := by simp; omega
 unfold yar
 rw [yk9 _ _ (by omega)]
 obtain ⟨r, hr⟩ : ∃ r, (P.length + 1 + p + (P.length + 1 + q)) / 2 = P.length + 1 + r := ⟨(P.length + 1 + p + (P.length + 1 + q)) / 2 - (P.length + 1), by omega⟩
 rw [hr]
 refine ⟨fun c => ?_, fun c => ?_⟩
 ·have c : p < q := by have := of_decide_eq_true c; omega
  obtain ⟨y, hy⟩ := ybL (l := B) (n := r) (by omega)
  have gy : (P ++ (x :: (B ++ S)))[P.length + 1 + r]? = some y := by
   rw [List.getElem?_append_right (by omega), show P.length + 1 + r - P.length = r + 1 by omega, List.getElem?_cons_succ, List.getElem?_append_left (by omega)]
   exact hy
  have w1 : IntKind.i64.wrap (((P.length + 1 + r : Nat) : Int) + 1) = ((P.length + 1 + (r + 1) : Nat) : Int) := by rw [wrap64 (by omega) (by omega)]; omega
  rw [w1]
  simp only [Int.toNat_natCast]
  refine ⟨by omega, by omega, y, gy, by omega, by omega, x, ydq _ _ _, rc y x, hg y x (hq y (by simp [List.mem_of_getElem? hy])) (hq x (by simp)), fun c2 => ?_, fun c2 => ?_⟩
  ·exact ih _ _ _ ⟨r + 1, q, rfl, rfl, by omega, hqB, rfl, fun z _ hz => by rw [show r + 1 - 1 = r by omega, hy] at hz; cases hz; exact c2, h2⟩ (by omega)
  ·exact ih _ _ _ ⟨p, r, rfl, rfl, by omega, by omega, rfl, h1, fun z hz => by rw [hy] at hz; cases hz; exact c2⟩ (by omega)
 ·have c : ¬ p < q := by have := of_decide_eq_false c; omega
  have e : q = p := by omega
  subst e
  have w1 : IntKind.i64.wrap (((P.length + 1 + q : Nat) : Int) - 1) = ((P.length + q : Nat) : Int) := by rw [wrap64 (by omega) (by omega)]; omega
  refine lp2 (fun (k : Int) (d : List Rw) => ∃ r : Nat, k = ((P.length + r : Nat) : Int) /\ r <= q /\ d = P ++ (B.take r ++ x :: (B.drop r ++ S))) (fun k _ => (P.length + q - k).toNat) ?_ ⟨0, by omega, by omega, by simp⟩
  rintro X2 k d ⟨r, rfl, hrq, rfl⟩ ih2
  unfold yaG
  rw [w1]
  refine ⟨fun c => ?_, fun c => ?_⟩
  ·have c : r < q := by have := of_decide_eq_true c; omega
   obtain ⟨y, hy⟩ := ybL (l := B) (n := r) (by omega)
   have hd := yhL hy
   have ht : (B.take r).length = r := by rw [List.length_take]; omega
   have ed : P ++ (B.take r ++ x :: (B.drop r ++ S)) = (P ++ B.take r) ++ x :: ([] ++ y :: (B.drop (r + 1) ++ S)) := by rw [hd]; simp
   obtain ⟨g1, g2, g3, g4, g5, g6, g7⟩ := yi0 (U := P ++ B.take r) (M := []) (T := B.drop (r + 1) ++ S) (x := x) (z := y) (i := P.length + r) (j := P.length + r + 1) (by simp; omega) (by simp; omega)
   have w2 : IntKind.i64.wrap (((P.length + r : Nat) : Int) + 1) = ((P.length + r + 1 : Nat) : Int) := by rw [wrap64 (by omega) (by omega)]; omega
   rw [ed, w2]
   simp only [Int.toNat_natCast]
   refine ⟨by omega, by omega, y, g2, by omega, by omega, x, g1, by omega, by omega, x, g1, by omega, by rw [List.length_set]; omega, y, g3, ?_⟩
   rw [g5]
   refine ih2 _ _ ⟨r + 1, by omega, by omega, ?_⟩ (by omega)
   rw [List.take_add_one, hy]; simp
  ·have c : ¬ r < q := by have := of_decide_eq_false c; omega
   have e : r = q := by omega
   subst e
   have eB : B.take r ++ B.drop r = B := List.take_append_drop r B
   have := yp0 ybO (x := x) (B1 := B.take r) (B2 := B.drop r) (by rw [eB]; exact hB) (fun b hb => ?_) (fun b hb => ?_)
   ·rw [eB] at this; rw [this]; simp
   ·by_cases hr0 : r = 0
    ·subst hr0; cases hb
    obtain ⟨y, hy⟩ := ybL (l := B) (n := r - 1) (by omega)
    have et : B.take r = B.take (r - 1) ++ [y] := by
     have := List.take_add_one (l := B) (i := r - 1)
     rw [hy, show r - 1 + 1 = r by omega] at this
     exact this
    have hs := (Sd.app.1 (show Sd lt7 (B.take r ++ B.drop r) by rw [eB]; exact hB)).1
    rw [et] at hs hb
    exact Sd.last ybO hs (ybO.asym (h1 y (by omega) hy)) b hb
   ·cases hdr : B.drop r with
    | nil => rw [hdr] at hb; cases hb
    | cons y T =>
      have hs := (Sd.app.1 (show Sd lt7 (B.take r ++ B.drop r) by rw [eB]; exact hB)).2.1
      rw [hdr] at hs hb
      have hy : B[r]? = some y := by
       have : (B.drop r)[0]? = some y := by rw [hdr]; rfl
       rw [List.getElem?_drop] at this; exact this
      exact Sd.head ybO hs (h2 y hy) b hb
theorem yw3 {g : Rw → Rw → Int → Prop} {Q : Rw → Prop} (hg : Cmp g Q) {P A S : List Rw} {x : Rw} (hb : P.length + A.length + 1 ≤ 1000) (hq : ∀ y ∈ A ++ [x], Q y) (hA : Sd lt7 A) :
  ∀ X3 : Int -> Int -> List Rw -> Prop, (∀ x13 x14 x15, yaq ((P.length + A.length : Nat) : Int) g (P ++ (srt lt7 [] (A ++ [x]) ++ S)) X3 x13 x14 x15 -> X3 x13 x14 x15) -> X3 (P.length : Int) ((P.length + A.length : Nat) : Int) (P ++ (A ++ (x :: S))) := by
 refine lp3 (fun (i j : Int) (d : List Rw) => ∃ p q : Nat, i = ((P.length + p : Nat) : Int) /\ j = ((P.length + q : Nat) : Int) /\ p <= q /\ q <= A.length /\ d = P ++ (A ++ (x :: S)) /\ (∀ y, 0 < p -> A[p - 1]? = some y -> lt7 x y = false) /\ (∀ y, A[q]? = some y -> lt7 x y = true)) (fun i j _ => (j - i).toNat) ?_ ⟨0, A.length, rfl, rfl, by omega, by omega, rfl, fun y h => by omega, fun y h => by rw [List.getElem?_eq_none (by omega)] at h; cases h⟩
 rintro X i j d ⟨p, q, rfl, rfl, hpq, hqA, rfl, h1, h2⟩ ih
 have hl : (P ++ (A ++ (x :: S))).length = P.length + A.length + 1 + S.length := by simp; omega
 have gx : (P ++ (A ++ (x :: S)))[P.length + A.length]? = some x := by
  rw [<- List.append_assoc, <- List.length_append]; exact ydq _ _ _
 unfold yaq
 rw [yk9 _ _ (by omega)]
 obtain ⟨r, hr⟩ : ∃ r, (P.length + p + (P.length + q)) / 2 = P.length + r := ⟨(P.length + p + (P.length + q)) / 2 - P.length, by omega⟩
 rw [hr]
 refine ⟨fun c => ?_, fun c => ?_⟩
 ·have c : p < q := by have := of_decide_eq_true c; omega
  obtain ⟨y, hy⟩ := ybL (l := A) (n := r) (by omega)
  have gy : (P ++ (A ++ (x :: S)))[P.length + r]? = some y := by
   rw [List.getElem?_append_right (by omega), show P.length + r - P.length = r by omega, List.getElem?_append_left (by omega)]
   exact hy
  have w1 : IntKind.i64.wrap (((P.length + r : Nat) : Int) + 1) = ((P.length + (r + 1) : Nat) : Int) := by rw [wrap64 (by omega) (by omega)]; omega
  rw [w1]
  simp only [Int.toNat_natCast]
  refine ⟨by omega, by omega, x, gx, by omega, by omega, y, gy, rc x y, hg x y (hq x (by simp)) (hq y (by simp [List.mem_of_getElem? hy])), fun c2 => ?_, fun c2 => ?_⟩
  ·have c2 : lt7 x y = false := by simpa [lt7] using c2
   exact ih _ _ _ ⟨r + 1, q, rfl, rfl, by omega, hqA, rfl, fun z _ hz => by rw [show r + 1 - 1 = r by omega, hy] at hz; cases hz; exact c2, h2⟩ (by omega)
  ·have c2 : lt7 x y = true := by simpa [lt7] using c2
   exact ih _ _ _ ⟨p, r, rfl, rfl, by omega, by omega, rfl, h1, fun z hz => by rw [hy] at hz; cases hz; exact c2⟩ (by omega)
 ·have c : ¬ p < q := by have := of_decide_eq_false c; omega
  have e : q = p := by omega
  subst e
  refine lp2 (fun (k : Int) (d : List Rw) => ∃ r : Nat, k = ((P.length + r : Nat) : Int) /\ q <= r /\ r <= A.length /\ d = P ++ (A.take r ++ x :: (A.drop r ++ S))) (fun k _ => k.toNat) ?_ ⟨A.length, rfl, by omega, by omega, by simp⟩
  rintro X2 k d ⟨r, rfl, hrq, hrA, rfl⟩ ih2
  unfold yaF
  refine ⟨fun c => ?_, fun c => ?_⟩
  ·have c : q < r := by have := of_decide_eq_true c; omega
   obtain ⟨y, hy⟩ := ybL (l := A) (n := r - 1) (by omega)
   have et : A.take r = A.take (r - 1) ++ [y] := by
    have := List.take_add_one (l := A) (i := r - 1)
    rw [hy, show r - 1 + 1 = r by omega] at this
    exact this
   have ht : (A.take (r - 1)).length = r - 1 := by rw [List.length_take]; omega
   have ed : P ++ (A.take r ++ x :: (A.drop r ++ S)) = (P ++ A.take (r - 1)) ++ y :: ([] ++ x :: (A.drop r ++ S)) := by rw [et]; simp
   obtain ⟨g1, g2, g3, g4, g5, g6, g7⟩ := yi0 (U := P ++ A.take (r - 1)) (M := []) (T := A.drop r ++ S) (x := y) (z := x) (i := P.length + (r - 1)) (j := P.length + r) (by simp; omega) (by simp; omega)
   have w2 : IntKind.i64.wrap (((P.length + r : Nat) : Int) - 1) = ((P.length + (r - 1) : Nat) : Int) := by rw [wrap64 (by omega) (by omega)]; omega
   rw [ed, w2]
   simp only [Int.toNat_natCast]
   refine ⟨by omega, by omega, y, g1, by omega, by omega, x, g2, by omega, by omega, x, g2, by omega, by rw [List.length_set]; omega, y, g4, ?_⟩
   rw [g6]
   refine ih2 _ _ ⟨r - 1, by omega, by omega, by omega, ?_⟩ (by omega)
   have hd := yhL hy
   rw [show r - 1 + 1 = r by omega] at hd
   rw [hd]; simp
  ·have c : ¬ q < r := by have := of_decide_eq_false c; omega
   have e : r = q := by omega
   subst e
   have eA : A.take r ++ A.drop r = A := List.take_append_drop r A
   have pp : srt lt7 [] (A ++ [x]) = srt lt7 [] (x :: A) := ys5 ybO (List.perm_append_comm (l₁ := [x]) (l₂ := A))
   have := yp0 ybO (x := x) (B1 := A.take r) (B2 := A.drop r) (by rw [eA]; exact hA) (fun b hb => ?_) (fun b hb => ?_)
   ·rw [eA] at this; rw [pp, this]; simp
   ·by_cases hr0 : r = 0
    ·subst hr0; cases hb
    obtain ⟨y, hy⟩ := ybL (l := A) (n := r - 1) (by omega)
    have et : A.take r = A.take (r - 1) ++ [y] := by
     have := List.take_add_one (l := A) (i := r - 1)
     rw [hy, show r - 1 + 1 = r by omega] at this
     exact this
    have hs := (Sd.app.1 (show Sd lt7 (A.take r ++ A.drop r) by rw [eA]; exact hA)).1
    rw [et] at hs hb
    exact Sd.last ybO hs (h1 y (by omega) hy) b hb
   ·cases hdr : A.drop r with
    | nil => rw [hdr] at hb; cases hb
    | cons y T =>
      have hs := (Sd.app.1 (show Sd lt7 (A.take r ++ A.drop r) by rw [eA]; exact hA)).2.1
      rw [hdr] at hs hb
      have hy : A[r]? = some y := by
       have : (A.drop r)[0]? = some y := by rw [hdr]; rfl
       rw [List.getElem?_drop] at this; exact this
      exact Sd.head ybO hs (ybO.asym (h2 y hy)) b hb
end Go.Proofs.Ytkmehmgocelkiaa
end
noncomputable section
namespace Go.Proofs.Ytkmehmgocelkiaa
open Go.AV Go.RowKit
def Clo (Xr : (Rw -> Rw -> Int -> Prop) -> Int -> Int -> Int -> List Rw -> List Rw -> Prop) : Prop := ∀ (g4 : Rw -> Rw -> Int -> Prop) (a0 a1 a2 : Int) (a3 r0 : List Rw), yau Xr g4 a0 a1 a2 a3 r0 -> Xr g4 a0 a1 a2 a3 r0
theorem yn1 {A : List Rw} (h : Sd lt7 A) : srt lt7 [] ([] ++ A) = A := yqW ybO h
theorem ynw {A : List Rw} (h : Sd lt7 A) : srt lt7 [] (A ++ []) = A := by rw [List.append_nil]; exact yqW ybO h
set_option maxHeartbeats 4000000 in
theorem pSym {g : Rw → Rw → Int → Prop} {Q : Rw → Prop} (hg : Cmp g Q) (Xr : (Rw → Rw → Int → Prop) → Int → Int → Int → List Rw → List Rw → Prop) (hX : Clo Xr) : ∀ (n : Nat) (P A B S : List Rw), A.length + B.length ≤ n → 0 < A.length → 0 < B.length → P.length + A.length + B.length ≤ 1000 → (∀ y ∈ A ++ B, Q y) → Sd lt7 A → Sd lt7 B →
  Xr g (P.length : Int) ((P.length + A.length : Nat) : Int) ((P.length + A.length + B.length : Nat) : Int) (P ++ (A ++ (B ++ S))) (P ++ (srt lt7 [] (A ++ B) ++ S)) := by
 intro n
 induction n with
 | zero => intro P A B S h hA hB; omega
 | succ n ih =>
   intro P A B S hn hA hB hb hq sA sB
   apply hX
   have w1 : IntKind.i64.wrap (((P.length + A.length : Nat) : Int) - (P.length : Int)) = (A.length : Int) := by rw [wrap64 (by omega) (by omega)]; omega
   have w2 : IntKind.i64.wrap (((P.length + A.length + B.length : Nat) : Int) - ((P.length + A.length : Nat) : Int)) = (B.length : Int) := by rw [wrap64 (by omega) (by omega)]; omega
   unfold yau
   rw [w1, w2]
   refine ⟨fun c => ?_, fun c => ⟨fun c2 => ?_, fun c2 => ?_⟩⟩
   ·have c : A.length = 1 := by have : (A.length : Int) = 1 := by simpa using c
                                omega
    obtain ⟨x, rfl⟩ := List.length_eq_one_iff.1 c
    exact yw1 hg (by simpa using hb) (by simpa using hq) sB
   ·have c : B.length = 1 := by have : (B.length : Int) = 1 := by simpa using c2
                                omega
    obtain ⟨x, rfl⟩ := List.length_eq_one_iff.1 c
    exact yw3 hg (by simpa using hb) (by simpa using hq) sA
   ·have cA : A.length ≠ 1 := by intro e; rw [e] at c; simp at c
    have cB : B.length ≠ 1 := by intro e; rw [e] at c2; simp at c2
    clear w1 w2 c c2
    have hmid := yk9 P.length (P.length + A.length + B.length) (by omega)
    obtain ⟨mid, hmd⟩ : ∃ mid, mid = (P.length + (P.length + A.length + B.length)) / 2 := ⟨_, rfl⟩
    rw [<- hmd] at hmid
    have wn : IntKind.i64.wrap ((mid : Int) + ((P.length + A.length : Nat) : Int)) = ((mid + (P.length + A.length) : Nat) : Int) := by rw [wrap64 (by omega) (by omega)]; omega
    have dA : ∀ k, k < A.length → (P ++ (A ++ (B ++ S)))[P.length + k]? = A[k]? := by
     intro k hk
     rw [List.getElem?_append_right (by omega), show P.length + k - P.length = k by omega, List.getElem?_append_left hk]
    have dB : ∀ k, k < B.length → (P ++ (A ++ (B ++ S)))[P.length + A.length + k]? = B[k]? := by
     intro k hk
     rw [<- List.append_assoc, List.getElem?_append_right (by simp), show P.length + A.length + k - (P ++ A).length = k by simp, List.getElem?_append_left hk]
    have hl : (P ++ (A ++ (B ++ S))).length = P.length + A.length + B.length + S.length := by simp; omega
    have core : ∀ lo hi : Nat, (mid < P.length + A.length ∧ lo + (P.length + A.length + B.length) = mid + (P.length + A.length) ∧ hi = mid) ∨ (P.length + A.length ≤ mid ∧ lo = P.length ∧ hi = P.length + A.length) →
      yai Xr (P.length : Int) ((P.length + A.length : Nat) : Int) ((P.length + A.length + B.length : Nat) : Int) g (P ++ (srt lt7 [] (A ++ B) ++ S)) (lo : Int) (hi : Int) (P ++ (A ++ (B ++ S))) := by
     intro lo hi hlh
     have hlo : P.length <= lo := by omega
     have hhi : hi <= P.length + A.length := by omega
     have hhm : hi <= mid := by omega
     unfold yai
     refine lp3 (fun (i j : Int) (d : List Rw) => ∃ s r : Nat, i = (s : Int) /\ j = (r : Int) /\ lo <= s /\ s <= r /\ r <= hi /\ d = P ++ (A ++ (B ++ S)) /\ (lo < s -> ∀ x y, (P ++ (A ++ (B ++ S)))[s - 1]? = some x -> (P ++ (A ++ (B ++ S)))[mid + (P.length + A.length) - s]? = some y -> lt7 y x = false) /\ (r < hi -> ∀ x y, (P ++ (A ++ (B ++ S)))[r]? = some x -> (P ++ (A ++ (B ++ S)))[mid + (P.length + A.length) - 1 - r]? = some y -> lt7 y x = true)) (fun i j _ => (j - i).toNat) ?_ ⟨lo, hi, rfl, rfl, by omega, by omega, by omega, rfl, fun h => by omega, fun h => by omega⟩
     rintro X i j d ⟨s, r, rfl, rfl, k1, k2, k3, rfl, h1, h2⟩ ih2
     unfold yaE
     rw [hmid, wn, yk9 s r (by omega)]
     refine ⟨fun c => ?_, fun c => ?_⟩
     ·have c : s < r := by have := of_decide_eq_true c; omega
      obtain ⟨q, hq'⟩ : ∃ q, q = (s + r) / 2 := ⟨_, rfl⟩
      rw [<- hq']
      have wp : IntKind.i64.wrap (((mid + (P.length + A.length) : Nat) : Int) - 1) = ((mid + (P.length + A.length) - 1 : Nat) : Int) := by rw [wrap64 (by omega) (by omega)]; omega
      have wq : IntKind.i64.wrap (((mid + (P.length + A.length) - 1 : Nat) : Int) - (q : Int)) = ((mid + (P.length + A.length) - 1 - q : Nat) : Int) := by rw [wrap64 (by omega) (by omega)]; omega
      have wc : IntKind.i64.wrap ((q : Int) + 1) = ((q + 1 : Nat) : Int) := by rw [wrap64 (by omega) (by omega)]; omega
      rw [wp, wq, wc]
      simp only [Int.toNat_natCast]
      obtain ⟨kx, hkx⟩ : ∃ k, q = P.length + k := ⟨q - P.length, by omega⟩
      obtain ⟨ky, hky⟩ : ∃ k, mid + (P.length + A.length) - 1 - q = P.length + A.length + k := ⟨mid - 1 - q, by omega⟩
      obtain ⟨x, hx⟩ := ybL (l := A) (n := kx) (by omega)
      obtain ⟨y, hy⟩ := ybL (l := B) (n := ky) (by omega)
      have gx : (P ++ (A ++ (B ++ S)))[q]? = some x := by rw [hkx, dA kx (by omega)]; exact hx
      have gy : (P ++ (A ++ (B ++ S)))[mid + (P.length + A.length) - 1 - q]? = some y := by rw [hky, dB ky (by omega)]; exact hy
      refine ⟨by omega, by omega, y, gy, by omega, by omega, x, gx, rc y x, hg y x (hq y (by simp [List.mem_of_getElem? hy])) (hq x (by simp [List.mem_of_getElem? hx])), fun c2 => ?_, fun c2 => ?_⟩
      ·have c2 : lt7 y x = false := by simpa [lt7] using c2
       refine ih2 _ _ _ ⟨q + 1, r, rfl, rfl, by omega, by omega, by omega, rfl, fun _ u v hu hv => ?_, h2⟩ (by omega)
       rw [show q + 1 - 1 = q by omega, gx] at hu
       rw [show mid + (P.length + A.length) - (q + 1) = mid + (P.length + A.length) - 1 - q by omega, gy] at hv
       cases hu; cases hv; exact c2
      ·have c2 : lt7 y x = true := by simpa [lt7] using c2
       refine ih2 _ _ _ ⟨s, q, rfl, rfl, by omega, by omega, by omega, rfl, h1, fun _ u v hu hv => ?_⟩ (by omega)
       rw [gx] at hu; rw [gy] at hv
       cases hu; cases hv; exact c2
     ·have c : ¬ s < r := by have := of_decide_eq_false c; omega
      have e : r = s := by omega
      subst e
      clear ih2
      obtain ⟨A1, A2, eA, lA1, lA2⟩ := yi3 (l := A) (n := r - P.length) (by omega)
      obtain ⟨B1, B2, eB, lB1, lB2⟩ := yi3 (l := B) (n := mid - r) (by omega)
      have sA' := sA; have sB' := sB
      rw [eA] at sA'; rw [eB] at sB'
      obtain ⟨sA1, sA2, _⟩ := Sd.app.1 sA'
      obtain ⟨sB1, sB2, _⟩ := Sd.app.1 sB'
      have hcut : srt lt7 [] (A ++ B) = srt lt7 [] (A1 ++ B1) ++ srt lt7 [] (A2 ++ B2) := by
       refine ywt ybO sA sB eA eB (fun x y hx hy => ?_) (fun x y hx hy => ?_)
       ·obtain ⟨A0, e0⟩ := ysM hx
        cases hB2 : B2 with
        | nil => rw [hB2] at hy; cases hy
        | cons y' T =>
          rw [hB2] at hy; cases hy
          have l0 : A1.length = A0.length + 1 := by rw [e0]; simp
          have l2 : B2.length = T.length + 1 := by rw [hB2]; simp
          refine h1 (by omega) x y ?_ ?_
          ·rw [show r - 1 = P.length + A0.length by omega, dA _ (by omega), eA, e0, List.append_assoc]; exact ydq _ _ _
          ·rw [show mid + (P.length + A.length) - r = P.length + A.length + B1.length by omega, dB _ (by omega), eB, hB2]; exact ydq _ _ _
       ·obtain ⟨B0, e0⟩ := ysM hx
        cases hA2 : A2 with
        | nil => rw [hA2] at hy; cases hy
        | cons y' T =>
          rw [hA2] at hy; cases hy
          have l0 : B1.length = B0.length + 1 := by rw [e0]; simp
          have l2 : A2.length = T.length + 1 := by rw [hA2]; simp
          refine ybO.asym (h2 (by omega) y x ?_ ?_)
          ·rw [show r = P.length + A1.length by omega, dA _ (by omega), eA, hA2]; exact ydq _ _ _
          ·rw [show mid + (P.length + A.length) - 1 - r = P.length + A.length + B0.length by omega, dB _ (by omega), eB, e0, List.append_assoc]; exact ydq _ _ _
      have we : IntKind.i64.wrap (((mid + (P.length + A.length) : Nat) : Int) - (r : Int)) = ((mid + (P.length + A.length) - r : Nat) : Int) := by rw [wrap64 (by omega) (by omega)]; omega
      have lsrt : (srt lt7 [] (A1 ++ B1)).length = A1.length + B1.length := by rw [yem]; simp
      have t8 : yae Xr (P.length : Int) ((P.length + A.length + B.length : Nat) : Int) g (P ++ (srt lt7 [] (A ++ B) ++ S)) ((mid + (P.length + A.length) - r : Nat) : Int) (P ++ (srt lt7 [] (A1 ++ B1) ++ (A2 ++ (B2 ++ S)))) := by
       have stay : (A2 = [] ∨ B2 = []) → P ++ (srt lt7 [] (A1 ++ B1) ++ (A2 ++ (B2 ++ S))) = P ++ (srt lt7 [] (A ++ B) ++ S) := by
        rw [hcut]
        rintro (h | h)
        ·rw [h] at *; rw [yn1 sB2]; simp
        ·rw [h] at *; rw [ynw sA2]; simp
       unfold yae yan
       rw [hmid]
       refine ⟨fun d => ⟨fun d2 => ?_, fun d2 => ?_⟩, fun d => yaz rfl ?_⟩
       ·have d := of_decide_eq_true d
        have d2 := of_decide_eq_true d2
        refine ⟨_, ?_, ?_, rfl⟩
        ·have := ih (P ++ srt lt7 [] (A1 ++ B1)) A2 B2 S (by omega) (by omega) (by omega) (by rw [List.length_append]; omega) (fun y hy => hq y (by rw [eA, eB]; simp only [List.mem_append] at *; rcases hy with h | h <;> simp [h])) sA2 sB2
         rw [hcut]
         simp only [List.append_assoc, List.length_append, lsrt] at this ⊢
         rw [show P.length + (A1.length + B1.length) = mid by omega] at this
         rw [show mid + A2.length = mid + (P.length + A.length) - r by omega] at this
         rw [show mid + (P.length + A.length) - r + B2.length = P.length + A.length + B.length by omega] at this
         exact this
        ·rw [hcut]; simp only [List.length_append, yem]; omega
       ·have d2 := of_decide_eq_false d2
        exact stay (.inr (List.eq_nil_of_length_eq_zero (by omega)))
       ·have d := of_decide_eq_false d
        exact stay (.inl (List.eq_nil_of_length_eq_zero (by omega)))
      have t7 : yad Xr (P.length : Int) ((P.length + A.length + B.length : Nat) : Int) g (P ++ (srt lt7 [] (A ++ B) ++ S)) (r : Int) ((mid + (P.length + A.length) - r : Nat) : Int) (P ++ (A1 ++ (B1 ++ (A2 ++ (B2 ++ S))))) := by
       have stay : (A1 = [] ∨ B1 = []) → P ++ (A1 ++ (B1 ++ (A2 ++ (B2 ++ S)))) = P ++ (srt lt7 [] (A1 ++ B1) ++ (A2 ++ (B2 ++ S))) := by
        rintro (h | h)
        ·rw [h] at *; rw [yn1 sB1]; simp
        ·rw [h] at *; rw [ynw sA1]; simp
       unfold yad yal
       rw [hmid]
       refine ⟨fun d => ⟨fun d2 => ?_, fun d2 => ?_⟩, fun d => yaz rfl ?_⟩
       ·have d := of_decide_eq_true d
        have d2 := of_decide_eq_true d2
        refine ⟨_, ?_, ?_, t8⟩
        ·have := ih P A1 B1 (A2 ++ (B2 ++ S)) (by omega) (by omega) (by omega) (by omega) (fun y hy => hq y (by rw [eA, eB]; simp only [List.mem_append] at *; rcases hy with h | h <;> simp [h])) sA1 sB1
         rw [show P.length + A1.length = r by omega] at this
         rw [show r + B1.length = mid by omega] at this
         exact this
        ·simp only [List.length_append, yem]; omega
       ·have d2 := of_decide_eq_false d2
        rw [stay (.inr (List.eq_nil_of_length_eq_zero (by omega)))]; exact t8
       ·have d := of_decide_eq_false d
        rw [stay (.inl (List.eq_nil_of_length_eq_zero (by omega)))]; exact t8
      have stay : (A2 = [] ∨ B1 = []) → P ++ (A ++ (B ++ S)) = P ++ (A1 ++ (B1 ++ (A2 ++ (B2 ++ S)))) := by
       rw [eA, eB]
       rintro (h | h)
       ·rw [h]; simp
       ·rw [h]; simp
      unfold yam
      rw [hmid, wn, we]
      refine ⟨fun d => ⟨fun d2 => ?_, fun d2 => ?_⟩, fun d => yaz rfl ?_⟩
      ·have d := of_decide_eq_true d
       have d2 := of_decide_eq_true d2
       refine ⟨_, ?_, ?_, t7⟩
       ·have := yuD (g := g) (P := P ++ A1) (L := A2) (R := B1) (S := B2 ++ S) (a := (r : Int)) (m := ((P.length + A.length : Nat) : Int)) (b := ((mid + (P.length + A.length) - r : Nat) : Int)) (by rw [List.length_append]; omega) (by omega) (by omega) (by rw [List.length_append]; omega) (by rw [List.length_append]; omega) (by rw [List.length_append]; omega)
        rw [eA, eB]
        rw [eA] at this
        simpa using this
       ·rw [hl]; simp only [List.length_append]; omega
      ·have d2 := of_decide_eq_false d2
       rw [stay (.inr (List.eq_nil_of_length_eq_zero (by omega)))]; exact t7
      ·have d := of_decide_eq_false d
       rw [stay (.inl (List.eq_nil_of_length_eq_zero (by omega)))]; exact t7
    rw [hmid, wn]
    refine ⟨fun d => ?_, fun d => ?_⟩
    ·have d := of_decide_eq_true d
     have wl : IntKind.i64.wrap (((mid + (P.length + A.length) : Nat) : Int) - ((P.length + A.length + B.length : Nat) : Int)) = ((mid + (P.length + A.length) - (P.length + A.length + B.length) : Nat) : Int) := by rw [wrap64 (by omega) (by omega)]; omega
     rw [wl]
     exact core _ _ (.inl ⟨by omega, by omega, rfl⟩)
    ·have d := of_decide_eq_false d
     exact core _ _ (.inr ⟨by omega, rfl, rfl⟩)
theorem ypy {g : Rw → Rw → Int → Prop} {Q : Rw → Prop} (hg : Cmp g Q) {A B : List Rw} (hA : 0 < A.length) (hB : 0 < B.length) (hb : A.length + B.length ≤ 1000) (hq : ∀ y ∈ A ++ B, Q y) (sA : Sd lt7 A) (sB : Sd lt7 B) {a m b : Int} (ha : a = 0) (hm : m = A.length) (hbb : b = A.length + B.length) :
  yax g a m b (A ++ B) (srt lt7 [] (A ++ B)) := by
 refine ydJ _ _ _ _ _ _ fun Xr hX => ?_
 have := pSym hg Xr hX _ [] A B [] (Nat.le_refl _) hA hB (by simpa using hb) hq sA sB
 subst ha; subst hm; subst hbb
 simpa using this
end Go.Proofs.Ytkmehmgocelkiaa
end
noncomputable section
namespace Go.Proofs.Ytkmehmgocelkiaa
open Go.AV Go.RowKit
section
variable {α : Type}
theorem ysp (lt : α → α → Bool) (x p : α) (l : List α) : ins lt x (l ++ [p]) = if lt x p then ins lt x l ++ [p] else (l ++ [p]) ++ [x] := by
 unfold ins
 rw [List.reverse_append]
 show (if lt x p = true then p :: rins lt x l.reverse else x :: p :: l.reverse).reverse = _
 split
 ·rw [List.reverse_cons]
 ·simp
theorem yt4 (lt : α → α → Bool) (x : α) (l : List α) : (ins lt x l).length = l.length + 1 := by
 have : ∀ m : List α, (rins lt x m).length = m.length + 1 := by
  intro m
  induction m with
  | nil => rfl
  | cons y r ih => unfold rins; split <;> simp [ih]
 unfold ins; simp [this]
theorem ytJ (lt : α → α → Bool) : ∀ (l out : List α), (srt lt out l).length = out.length + l.length
 | [], out => rfl
 | x :: r, out => by unfold srt; rw [ytJ lt r, yt4]; simp; omega
theorem ypK (lt : α → α → Bool) (b : α) : ∀ (a out : List α), srt lt out (a ++ [b]) = ins lt b (srt lt out a)
 | [], out => rfl
 | x :: r, out => by show srt lt (ins lt x out) (r ++ [b]) = _; rw [ypK lt b r]; rfl
end
theorem yk4 {g : Rw → Rw → Int → Prop} {Q : Rw → Prop} (hg : Cmp g Q) {P L S : List Rw} {a b : Int} (hl : P.length + L.length ≤ 1000) (hq : ∀ y ∈ L, Q y) (ha : a = P.length) (hb : b = P.length + L.length) : yaf g a b (P ++ (L ++ S)) (P ++ (srt lt7 [] L ++ S)) := by
 refine ycK _ _ _ _ _ ?_
 have e01 : IntKind.i64.wrap (a + (1 : Int)) = ((P.length + 1 : Nat) : Int) := by rw [wrap64 (by omega) (by omega)]; omega
 unfold yaV
 rw [e01]
 refine lp2 (fun (i : Int) (d : List Rw) => (L = [] /\ d = P ++ S /\ i = ((P.length + 1 : Nat) : Int)) ∨ ∃ A B, L = A ++ B /\ i = ((P.length + A.length : Nat) : Int) /\ 1 <= A.length /\ d = P ++ (srt lt7 [] A ++ (B ++ S))) (fun i _ => (b - i).toNat) ?_ ?_
 ·rintro X i d inv ih
  unfold yat
  rcases inv with ⟨e, rfl, rfl⟩ | ⟨A, B, e, rfl, hA, rfl⟩
  ·subst e
   exact yaz (by simp at hb ⊢; omega) rfl
  ·have hll : L.length = A.length + B.length := by rw [e]; simp
   refine ⟨fun c => ?_, fun c => ?_⟩
   ·have c := of_decide_eq_true c
    cases B with
    | nil => exfalso; simp only [List.length_nil] at hll; omega
    | cons x B =>
      have hsl := yem lt7 A
      have qA : ∀ y ∈ srt lt7 [] A, Q y := fun y hy => hq y (by rw [e]; exact List.mem_append_left _ ((yb8 A).subset hy))
      have qx : Q x := hq x (by rw [e]; simp)
      simp only [List.length_cons] at hll
      have nx : ∀ d, d = P ++ (srt lt7 [] (A ++ [x]) ++ (B ++ S)) → X (IntKind.i64.wrap (((P.length + A.length : Nat) : Int) + 1)) d := by
       intro d hd
       rw [wrap64 (by omega) (by omega)]
       exact ih _ _ (.inr ⟨A ++ [x], B, by rw [e]; simp, by simp; omega, by simp, hd⟩) (by omega)
      refine lp2 (fun (j : Int) (d : List Rw) => ∃ P1 P2, j = ((P.length + P1.length : Nat) : Int) /\ d = P ++ (P1 ++ x :: (P2 ++ (B ++ S))) /\ ins lt7 x (srt lt7 [] A) = ins lt7 x P1 ++ P2 /\ P1.length <= A.length /\ ∀ y ∈ P1, Q y) (fun j _ => j.toNat) ?_ ⟨srt lt7 [] A, [], by rw [hsl], by simp, by simp, by omega, qA⟩
      rintro X2 j d ⟨P1, P2, rfl, rfl, hins, hP, hQ⟩ ih2
      have stop : ins lt7 x P1 = P1 ++ [x] -> X (IntKind.i64.wrap (((P.length + A.length : Nat) : Int) + 1)) (P ++ (P1 ++ x :: (P2 ++ (B ++ S)))) := fun h => nx _ (by rw [ypK, hins, h]; simp)
      unfold yas
      rcases yj9 P1 with rfl | ⟨P0, p, rfl⟩
      ·exact yaz (by simp; omega) (yaz rfl (stop rfl))
      ·have hlen : (P0 ++ [p]).length = P0.length + 1 := by simp
       rw [hlen] at hP
       have e1 : IntKind.i64.wrap (((P.length + (P0 ++ [p]).length : Nat) : Int) - 1) = ((P.length + P0.length : Nat) : Int) := by rw [wrap64 (by omega) (by omega)]; omega
       have qp : Q p := hQ p (by simp)
       have hs : ins lt7 x (P0 ++ [p]) = if lt7 x p then ins lt7 x P0 ++ [p] else (P0 ++ [p]) ++ [x] := ysp lt7 x p P0
       have ed : P ++ ((P0 ++ [p]) ++ x :: (P2 ++ (B ++ S))) = (P ++ P0) ++ p :: ([] ++ x :: (P2 ++ (B ++ S))) := by simp
       obtain ⟨g1, g2, g3, g4, g5, g6, g7⟩ := yi0 (U := P ++ P0) (M := []) (T := P2 ++ (B ++ S)) (x := p) (z := x) (i := P.length + P0.length) (j := P.length + (P0 ++ [p]).length) (by simp) (by simp; omega)
       rw [ed] at stop ⊢
       rw [e1]
       refine yaD (by simp <;> omega) ⟨by omega, by omega, x, by simpa only [Int.toNat_natCast] using g2, by omega, by omega, p, by simpa only [Int.toNat_natCast] using g1, rc x p, hg x p qx qp, ?_⟩
       rw [show decide (rc x p < 0) = lt7 x p from rfl]
       unfold yah
       rw [e1]
       simp only [Int.toNat_natCast]
       refine ⟨fun hx => ?_, fun hx => stop (by rw [hs, hx]; rfl)⟩
       refine ⟨by omega, by omega, p, g1, by omega, by omega, x, g2, by omega, by omega, x, g2, by omega, by rw [List.length_set]; omega, p, g4, ?_⟩
       rw [g6]
       exact ih2 _ _ ⟨P0, p :: P2, rfl, by simp, by rw [hins, hs, hx]; simp, by omega, fun y hy => hQ y (by simp [hy])⟩ (by omega)
   ·have c := of_decide_eq_false c
    have : B = [] := List.length_eq_zero_iff.1 (by omega)
    subst this
    rw [e]; simp
 ·cases L with
  | nil => exact .inl ⟨rfl, rfl, rfl⟩
  | cons x r => exact .inr ⟨[x], r, rfl, rfl, by simp, rfl⟩
theorem ytm {g : Rw → Rw → Int → Prop} {Q : Rw → Prop} (hg : Cmp g Q) {l : List Rw} (hl : l.length ≤ 39) (hq : ∀ y ∈ l, Q y) : yaB g (l.length : Int) l (srt lt7 [] l) := by
 unfold yaB
 intro X hX
 by_cases h20 : 20 <= l.length
 ·obtain ⟨L, R, rfl, hL, hR⟩ := yi3 h20
  have hlen : (L ++ R).length = 20 + R.length := by simp [hL]
  have sl := yem lt7 L
  have sr := yem lt7 R
  refine hX _ _ _ (yaD (by simp; omega) ⟨srt lt7 [] L ++ R, ?_, by simp [sl], ?_⟩)
  ·exact yk4 (P := []) (L := L) (S := R) hg (by simp; omega) (fun y hy => hq y (by simp [hy])) rfl (by simp; omega)
  ·refine hX _ _ _ (yaz (by rw [wrap64 (by omega) (by omega)]; simp; omega) ⟨srt lt7 [] L ++ srt lt7 [] R, ?_, by simp [sl, sr], fun X2 hX2 => ?_⟩)
   ·have := yk4 (P := srt lt7 [] L) (L := R) (S := []) (a := 20) (b := ((L ++ R).length : Int)) hg (by omega) (fun y hy => hq y (by simp [hy])) (by omega) (by omega)
    simpa using this
   ·refine hX2 _ _ ⟨fun c => ?_, fun c => ?_⟩
    ·have c := of_decide_eq_true c
     intro X3 hX3
     have e40 : IntKind.i64.wrap ((2 : Int) * 20) = 40 := by decide
     have e20 : IntKind.i64.wrap ((0 : Int) + 20) = 20 := by decide
     have e42 : IntKind.i64.wrap ((20 : Int) * 2) = 40 := by decide
     have h := hX3 0 40 (srt lt7 [] L ++ srt lt7 [] R)
     rw [e40]
     refine h ?_
     unfold yb5
     rw [e20, e42]
     have pp : srt lt7 [] (srt lt7 [] L ++ srt lt7 [] R) = srt lt7 [] (L ++ R) := ys5 ybO (((yb8 L).append_right R).symm.trans (((yb8 R).append_left _).symm))
     refine yaz (by simp; omega) (yaD (by simp; omega) ⟨srt lt7 [] (L ++ R), ?_, by rw [yem]; simp [sl, sr], hX2 _ _ (yaz (by simp; omega) rfl)⟩)
     rw [<- pp]
     exact ypy hg (by omega) (by omega) (by omega) (fun y hy => hq y (by
      rcases List.mem_append.1 hy with h | h
      ·exact List.mem_append_left _ ((yb8 L).subset h)
      ·exact List.mem_append_right _ ((yb8 R).subset h))) (yih ybO L) (yih ybO R) rfl (by omega) (by omega)
    ·have c := of_decide_eq_false c
     have : R = [] := List.length_eq_zero_iff.1 (by omega)
     subst this
     rw [List.append_nil]
     show srt lt7 [] L ++ [] = srt lt7 [] L
     simp
 ·refine hX _ _ _ (yaz (by simp; omega) ⟨srt lt7 [] l, ?_, by rw [yem], fun X2 hX2 => hX2 _ _ (yaz (by simp; omega) rfl)⟩)
  have := yk4 (P := []) (L := l) (S := []) (a := 0) (b := (l.length : Int)) hg (by simp; omega) hq rfl (by simp)
  simpa using this
theorem yev {a b : List V} (ha : a.length ≤ 100000000) : ya4 a b (rc a b) := by
 refine ⟨_, ?_, rfl⟩
 refine fun _ => ?_
 refine lp1 (fun i : Int => 0 <= i /\ i <= a.length /\ i <= b.length /\ rc (a.drop i.toNat) (b.drop i.toNat) = rc a b) (fun i => (a.length - i).toNat) ?_ ⟨by omega, by omega, by omega, by simp⟩
 rintro X i ⟨i0, i1, i2, hr⟩ ih
 refine ⟨fun c => ?_, fun c => ?_⟩
 ·have c : i < (a.length : Int) := by simpa using c
  obtain ⟨y, hy⟩ := ybL (l := a) (n := i.toNat) (by omega)
  refine ⟨i0, c, y, hy, fun _ => ⟨fun c2 => ?_, fun c2 => ?_⟩⟩
  ·have c2 : (b.length : Int) ≤ i := by simpa using c2
   rw [yhL hy, List.drop_eq_nil_of_le (show b.length <= i.toNat by omega)] at hr
   exact hr
  ·have c2 : ¬ (b.length : Int) ≤ i := by simpa using c2
   obtain ⟨z, hz⟩ := ybL (l := b) (n := i.toNat) (by omega)
   rw [yhL hy, yhL hz] at hr
   rw [yr5] at hr
   refine ⟨i0, by omega, z, hz, _, ysi y z, fun h => ?_, fun h => ?_⟩
   ·have h : sCmp y z ≠ 0 := by simpa using h
    rw [if_pos h] at hr; exact hr
   ·have h : sCmp y z = 0 := by simpa using h
    rw [if_neg (by simpa using h)] at hr
    rw [wrap64 (by omega) (by omega)]
    exact ih _ ⟨by omega, by omega, by omega, by rw [show (i + 1).toNat = i.toNat + 1 by omega]; exact hr⟩ (by omega)
 ·have c : ¬ i < (a.length : Int) := by simpa using c
  have hd : a.drop i.toNat = [] := List.drop_eq_nil_of_le (by omega)
  rw [hd, yt6, List.length_drop] at hr
  refine fun _ _ => ⟨fun c2 => ?_, fun c2 => ?_⟩
  ·have c2 : (a.length : Int) < b.length := by simpa using c2
   rw [if_pos (by omega)] at hr; exact hr
  ·have c2 : ¬ (a.length : Int) < b.length := by simpa using c2
   rw [if_neg (by omega)] at hr; exact hr
def Sh (l : Rw) : Prop := l.length <= 100000000
theorem yvM : Cmp ya4 Sh := fun _ _ h _ => yev h
theorem yrS {l : List Rw} (hl : l.length ≤ 39) (hq : ∀ y ∈ l, Sh y) : ygg l (srt lt7 [] l) := by
 have hlen := yem lt7 l
 have col : ybI l l := by
  refine ⟨l, fun _ _ => ?_, rfl, rfl⟩
  refine lp2 (fun (i : Int) (d : List (List V)) => 0 <= i /\ i <= l.length /\ d = l.take i.toNat) (fun i _ => (l.length - i).toNat) ?_ ⟨by omega, by omega, by simp⟩
  rintro X i d ⟨i0, i1, rfl⟩ ih
  refine ⟨fun c => ?_, fun c => ?_⟩
  ·have c : i < (l.length : Int) := by simpa using c
   obtain ⟨y, hy⟩ := ybL (l := l) (n := i.toNat) (by omega)
   refine ⟨i0, c, y, hy, by simp; omega, ?_⟩
   rw [wrap64 (by omega) (by omega)]
   refine ih _ _ ⟨by omega, by omega, ?_⟩ (by omega)
   rw [show (i + 1).toNat = i.toNat + 1 by omega, List.take_add_one, hy]; rfl
  ·have c : ¬ i < (l.length : Int) := by simpa using c
   exact ⟨rfl, List.take_of_length_le (by omega)⟩
 exact ⟨l, rfl, _, ⟨l, col, _, ⟨_, ytm yvM hl hq, hlen, rfl⟩, hlen, rfl, rfl⟩, rfl⟩
end Go.Proofs.Ytkmehmgocelkiaa
end
noncomputable section
namespace Go.Proofs.Ytkmehmgocelkiaa
open Go.AV Go.RowKit
abbrev Bg := yaj
noncomputable instance : DecidableEq yaa := fun a b => if h : eqV a b = true then isTrue (yna.1 h) else isFalse fun e => h (yna.2 e)
theorem ysZ {l : Rw} (h : l.length ≤ 400000000) : ybc l l := by
 intro u hu
 exact ⟨fun c => (hu c).symm, fun _ => ⟨h, by simp⟩⟩
theorem pOf {l : List Rw} (hl : l.length <= 39) (hq : ∀ y ∈ l, Sh y) : ygn l ⟨srt lt7 [] l⟩ := ⟨_, yrS hl hq, rfl⟩
theorem pLen (b : Bg) : yba b b.rows.length := fun _ => rfl
theorem yxg {b : Bg} (hl : b.rows.length ≤ 1000) (hq : ∀ y ∈ b.rows, Sh y) : ycP b b.rows := by
 unfold ycP
 intro _
 refine lp2 (fun (i : Int) (d : List Rw) => ∃ k : Nat, i = k /\ k <= b.rows.length /\ d = b.rows.take k) (fun i _ => (b.rows.length - i).toNat) ?_ ⟨0, rfl, by omega, by simp⟩
 rintro X i d ⟨k, rfl, hk, rfl⟩ ih
 unfold yfT
 refine ⟨fun c => ?_, fun c => ?_⟩
 ·have c : (k : Int) < b.rows.length := of_decide_eq_true c
  obtain ⟨y, hy⟩ := ybL (l := b.rows) (n := k) (by omega)
  have hs := hq y (List.mem_of_getElem? hy)
  refine ⟨by omega, c, y, hy, y, ysZ (by have : y.length <= 100000000 := hs; omega), by simp; omega, ?_⟩
  rw [w1 (by omega)]
  exact ih _ _ ⟨k + 1, rfl, by omega, by rw [List.take_add_one, hy]; rfl⟩ (by omega)
 ·have c : ¬ (k : Int) < b.rows.length := of_decide_eq_false c
  rw [List.take_of_length_le (by omega)]
theorem ywB {a b : Rw} (ha : Sh a) : yef a b (rc a b == 0) := ⟨_, yev ha, rfl⟩
theorem ytT {a b : List Rw} (ha : a.length ≤ 1000) (hq : ∀ y ∈ a, Sh y) : ybt a b yef (decide (a = b)) := by
 unfold ybt
 intro _ _
 refine ⟨fun c => ?_, fun c _ => ?_⟩
 ·have c : ¬ (a.length : Int) = b.length := by simpa using c
  have : ¬ a = b := fun e => c (by rw [e])
  simp [this]
 ·have c : (a.length : Int) = b.length := by simpa using c
  refine lp1 (fun (i : Int) => ∃ k : Nat, i = k /\ k <= a.length /\ a.take k = b.take k) (fun i => (a.length - i).toNat) ?_ ⟨0, rfl, by omega, by simp⟩
  rintro X i ⟨k, rfl, hk, he⟩ ih
  unfold ydp
  refine ⟨fun c2 => ?_, fun c2 => ?_⟩
  ·have c2 : (k : Int) < a.length := of_decide_eq_true c2
   obtain ⟨x, hx⟩ := ybL (l := a) (n := k) (by omega)
   obtain ⟨y, hy⟩ := ybL (l := b) (n := k) (by omega)
   refine ⟨by omega, c2, x, hx, by omega, by omega, y, hy, _, ywB (hq x (List.mem_of_getElem? hx)), fun d => ?_, fun d => ?_⟩
   ·have d : ¬ rc x y = 0 := by simpa using d
    have : ¬ a = b := fun e => by rw [e, hy] at hx; cases hx; exact d (rc_0.2 rfl)
    simp [this]
   ·have d : rc x y = 0 := by simpa using d
    have d := rc_0.1 d
    subst d
    rw [w1 (by omega)]
    exact ih _ ⟨k + 1, rfl, by omega, by rw [List.take_add_one, List.take_add_one, hx, hy, he]⟩ (by omega)
  ·have c2 : ¬ (k : Int) < a.length := of_decide_eq_false c2
   rw [List.take_of_length_le (by omega), List.take_of_length_le (by omega)] at he
   simp [he]
theorem ywy {a b : Bg} (ha : a.rows.length <= 1000) (hq : ∀ y ∈ a.rows, Sh y) : ye2 a b (decide (a.rows = b.rows)) := ⟨_, ytT ha hq, rfl⟩
def uqf : Option Rw → List Rw → List Rw
 | _, [] => []
 | none, x :: r => x :: uqf (some x) r
 | some p, x :: r => if rc p x = 0 then uqf (some x) r else x :: uqf (some x) r
def yjt (p : Option Rw) : List Rw → Option Rw
 | [] => p
 | x :: r => yjt (some x) r
theorem ypj (A B : List Rw) : ∀ p, yjt p (A ++ B) = yjt (yjt p A) B := by
 induction A with
 | nil => intro p; rfl
 | cons x A ih => intro p; exact ih (some x)
theorem yq8 (x : Rw) (k : Nat) : yjt (some x) (List.replicate k x) = some x := by
 induction k with
 | zero => rfl
 | succ k ih => exact ih
theorem ytL (A B : List Rw) : ∀ p, uqf p (A ++ B) = uqf p A ++ uqf (yjt p A) B := by
 induction A with
 | nil => intro p; cases p <;> rfl
 | cons x A ih =>
   intro p
   cases p with
   | none => simp only [List.cons_append, uqf, yjt]; rw [ih]
   | some q =>
     simp only [List.cons_append, uqf, yjt]
     rw [ih]
     split <;> rfl
theorem yp6 (x : Rw) (k : Nat) : uqf (some x) (List.replicate k x) = [] := by
 induction k with
 | zero => rfl
 | succ k ih => rw [List.replicate_succ]; simp only [uqf]; rw [if_pos (rc_0.2 rfl)]; exact ih
def uq (l : List Rw) : List Rw := uqf none l
theorem yuW {A : List Rw} {x : Rw} {k : Nat} (h : ∀ p, yjt none A = some p → p ≠ x) : uq (A ++ List.replicate (k + 1) x) = uq A ++ [x] := by
 unfold uq
 rw [ytL, List.replicate_succ]
 congr 1
 have key : ∀ q : Option Rw, (∀ p, q = some p → p ≠ x) → uqf q (x :: List.replicate k x) = [x] := by
  intro q hq
  cases q with
  | none => simp only [uqf]; rw [yp6]
  | some p => simp only [uqf]; rw [if_neg (fun e => hq p rfl (rc_0.1 e)), yp6]
 exact key _ h
theorem ywC (l : List Rw) : ∀ p, (uqf p l).length ≤ l.length := by
 induction l with
 | nil => intro p; simp [uqf]
 | cons x l ih =>
   intro p
   have := ih (some x)
   cases p with
   | none => simp only [uqf, List.length_cons]; omega
   | some q => simp only [uqf]; split <;> simp only [List.length_cons] <;> omega
theorem yrw {l : List Rw} (hl : l.length ≤ 1000) (hq : ∀ y ∈ l, Sh y) : ybB ⟨l⟩ ⟨uq l⟩ := by
 apply yhS
 refine ⟨l, rfl, fun _ => ?_⟩
 refine lp2 (fun (i : Int) (d : List Rw) => ∃ A B, l = A ++ B /\ i = (A.length : Int) /\ d = uq A /\ ∀ p x, yjt none A = some p -> B.head? = some x -> p ≠ x) (fun i _ => (l.length - i).toNat) ?_ ⟨[], l, rfl, rfl, rfl, fun p x h => by cases h⟩
 rintro X i d ⟨A, B, e, rfl, rfl, hne⟩ ih
 have hll : l.length = A.length + B.length := by rw [e]; simp
 unfold yb1
 intro _
 refine ⟨fun c => ?_, fun c => ?_⟩
 ·have c : (A.length : Int) < l.length := of_decide_eq_true c
  obtain ⟨x, B, rfl⟩ : ∃ x T, B = x :: T := by
   cases B with
   | nil => exfalso; simp only [List.length_nil] at hll; omega
   | cons x T => exact ⟨x, T, rfl⟩
  ·skip
   have gx : l[A.length]? = some x := by rw [e]; exact ydq _ _ _
   have sx := hq x (List.mem_of_getElem? gx)
   refine lp2 (fun (n : Int) (d : List Rw) => ∃ k C, n = ((k + 1 : Nat) : Int) /\ x :: B = List.replicate (k + 1) x ++ C /\ d = uq A) (fun n _ => (l.length - n).toNat) ?_ ⟨0, B, rfl, rfl, rfl⟩
   rintro X2 n d ⟨k, C, rfl, he, rfl⟩ ih2
   have hlC : l.length = A.length + (k + 1) + C.length := by rw [e, he]; simp; omega
   have wk : IntKind.i64.wrap ((A.length : Int) + ((k + 1 : Nat) : Int)) = ((A.length + (k + 1) : Nat) : Int) := by rw [wrap64 (by omega) (by omega)]; omega
   have wk1 : IntKind.i64.wrap (((k + 1 : Nat) : Int) + 1) = ((k + 1 + 1 : Nat) : Int) := by rw [wrap64 (by omega) (by omega)]; omega
   have gC : ∀ y T, C = y :: T → l[A.length + (k + 1)]? = some y := by
    intro y T hC
    have hA2 : (A ++ List.replicate (k + 1) x).length = A.length + (k + 1) := by simp
    rw [e, he, hC, <- List.append_assoc, <- hA2]; exact ydq _ _ _
   have stop : (∀ y, C.head? = some y → y ≠ x) → ybd X X2 (A.length : Int) ((k + 1 : Nat) : Int) l false (uq A) := by
    intro hy
    refine yaz rfl ⟨by omega, c, x, gx, x, ysZ (by have : x.length <= 100000000 := sx; omega), by have := ywC A none; unfold uq; omega, ?_⟩
    rw [wk]
    refine ih _ _ ⟨A ++ List.replicate (k + 1) x, C, by rw [e, he]; simp, by simp, ?_, fun p y hp hC => ?_⟩ (by omega)
    ·exact (yuW fun p hp => hne p x hp rfl).symm
    ·rw [ypj, List.replicate_succ, yjt, yq8] at hp
     cases hp
     exact fun q => hy y hC q.symm
   unfold ybZ
   rw [wk]
   refine ⟨fun c2 => ?_, fun c2 => ?_⟩
   ·have c2 := of_decide_eq_true c2
    cases hC : C with
    | nil => rw [hC] at hlC; simp only [List.length_nil] at hlC; omega
    | cons y T =>
      refine ⟨by omega, c, x, gx, by omega, by omega, y, gC y T hC, _, yev sx, ?_⟩
      by_cases h0 : rc x y = 0
      ·have hxy := rc_0.1 h0
       rw [h0]
       refine yaD rfl ?_
       rw [wk1]
       exact ih2 _ _ ⟨k + 1, T, rfl, by rw [he, hC, <- hxy, List.replicate_succ' (n := k + 1)]; simp, rfl⟩ (by omega)
      ·rw [show (rc x y == 0) = false by simpa using h0]
       refine stop fun z hz => ?_
       rw [hC] at hz; cases hz
       exact fun q => h0 (rc_0.2 q.symm)
   ·have c2 := of_decide_eq_false c2
    have : C = [] := List.length_eq_zero_iff.1 (by omega)
    exact stop fun y hy => by rw [this] at hy; cases hy
 ·have c : ¬ (A.length : Int) < l.length := of_decide_eq_false c
  have : B = [] := List.length_eq_zero_iff.1 (by omega)
  subst this
  rw [e, List.append_nil]
end Go.Proofs.Ytkmehmgocelkiaa
end
noncomputable section
namespace Go.Proofs.Ytkmehmgocelkiaa
open Go.AV Go.RowKit
def vI (n : Int) : V := ⟨2, n, []⟩
theorem yvN : srt lt7 [] [[vI 1], [vI 0], [vI 1]] = [[vI 0], [vI 1], [vI 1]] := by decide
theorem ywS : uq [[vI 0], [vI 1], [vI 1]] = [[vI 0], [vI 1]] := by decide
theorem yuq : ycO true := by
 have sh : ∀ l : List Rw, (∀ y ∈ l, y.length <= 1) -> ∀ y ∈ l, Sh y := fun l h y hy => by have := h y hy; unfold Sh; omega
 have ho := pOf (l := [[vI 1], [vI 0], [vI 1]]) (by simp) (sh _ (by simp))
 rw [yvN] at ho
 have hr := yxg (b := ⟨[[vI 0], [vI 1], [vI 1]]⟩) (by simp) (sh _ (by simp))
 have hd := yrw (l := [[vI 0], [vI 1], [vI 1]]) (by simp) (sh _ (by simp))
 rw [ywS] at hd
 refine ⟨_, ynG 1, _, ynG 0, _, ho, _, hr, fun J hJ => ⟨_, pLen _, yaD (by rfl) ⟨_, hd, _, pLen _, yaD (by rfl) (yaD (by rfl) ⟨by omega, by simp, _, rfl, by omega, by simp, _, rfl, _, ynG 0, yaD (by rfl) ⟨by omega, by simp, _, rfl, by omega, by simp, _, rfl, _, ynG 1, ?_⟩⟩)⟩⟩⟩
 exact hJ _ rfl
end Go.Proofs.Ytkmehmgocelkiaa
end
noncomputable section
namespace Go.Proofs.Ytkmehmgocelkiaa
open Go.AV Go.RowKit
def sBag (l : List Rw) : Str := ybb (l.map sKey)
def Vd (y : Rw) : Prop := y.length <= 1000000 /\ ∀ v ∈ y, good v
theorem yuj {b : Bg} (hq : ∀ y ∈ b.rows, Vd y) (hb : (sBag b.rows).length ≤ 100000000) : ycv b (sBag b.rows) := by
 unfold ycv
 intro _
 have hn := yhW (b.rows.map sKey)
 rw [List.length_map] at hn
 have hn : 4 * b.rows.length <= (sBag b.rows).length := hn
 refine lp2 (fun (x : Int) (y : List Str) => ∃ i : Nat, x = i /\ i <= b.rows.length /\ y = (b.rows.take i).map sKey) (fun (x : Int) (_ : List Str) => b.rows.length - x.toNat) ?_ ⟨0, rfl, by omega, by simp⟩
 rintro X x y ⟨i, rfl, hi, rfl⟩ hX
 unfold ygF
 refine ⟨fun c => ?_, fun c => ?_⟩
 ·have c : (i : Int) < b.rows.length := of_decide_eq_true c
  have hlt : i < b.rows.length := by omega
  have hv := hq _ (List.getElem_mem hlt)
  refine ⟨by omega, c, _, gAt hlt, _, yxe hv.1 hv.2, by simp; omega, ?_⟩
  rw [w1 (by omega)]
  refine hX _ _ ⟨i + 1, rfl, by omega, ?_⟩ (by omega)
  rw [List.take_succ_eq_append_getElem hlt, List.map_append]; rfl
 ·have c : ¬ (i : Int) < b.rows.length := of_decide_eq_false c
  rw [List.take_of_length_le (by omega)]
  exact ⟨_, yte hb, rfl⟩
theorem ywQ (l : List Rw) : Sd lt7 l ∨ ∃ i x y, l[i]? = some x ∧ l[i + 1]? = some y ∧ lt7 y x = true := by
 induction l with
 | nil => exact .inl List.Pairwise.nil
 | cons x l ih =>
   rcases ih with h | ⟨i, a, b, h1, h2, h3⟩
   ·cases l with
    | nil => exact .inl (List.pairwise_cons.2 ⟨fun a h => (by cases h), List.Pairwise.nil⟩)
    | cons y l =>
      cases hxy : lt7 y x with
      | true => exact .inr ⟨0, x, y, rfl, rfl, hxy⟩
      | false => exact .inl (List.pairwise_cons.2 ⟨fun b hb => by
         rcases List.mem_cons.1 hb with rfl | hb
         ·exact hxy
         ·exact ybO.le_trans hxy ((List.pairwise_cons.1 h).1 b hb), h⟩)
   ·exact .inr ⟨i + 1, a, b, by simpa using h1, by simpa using h2, h3⟩
theorem Sd.at {l : List Rw} (h : Sd lt7 l) {i : Nat} {x y : Rw} (hx : l[i]? = some x) (hy : l[i + 1]? = some y) : lt7 y x = false := by
 obtain ⟨h1, rfl⟩ := List.getElem?_eq_some_iff.1 hx
 obtain ⟨h2, rfl⟩ := List.getElem?_eq_some_iff.1 hy
 exact List.pairwise_iff_getElem.1 h i (i + 1) h1 h2 (by omega)
theorem ypU {l : List Rw} {r : Bool} (hl : l.length ≤ 100000000) (hq : ∀ y ∈ l, Sh y) (h : (r = true ∧ Sd lt7 l) ∨ (r = false ∧ ∃ i x y, l[i]? = some x ∧ l[i + 1]? = some y ∧ lt7 y x = true)) : ya2 l ya4 r := by
 unfold ya2
 intro _
 rw [show IntKind.i64.wrap ((l.length : Int) - (1 : Int)) = (l.length : Int) - 1 from wrap64 (by omega) (by omega)]
 refine lp1 (fun (i : Int) => i + 1 <= l.length /\ (r = false -> ∃ (k : Nat) (x y : Rw), l[k]? = some x /\ l[k + 1]? = some y /\ lt7 y x = true /\ (k : Int) + 1 <= i)) (fun i => i.toNat) ?_ ⟨by omega, fun hr => ?_⟩
 ·rintro X i ⟨hi, hd⟩ ih
  unfold ycE
  refine ⟨fun c => ?_, fun c => ?_⟩
  ·have c : 0 < i := of_decide_eq_true c
   obtain ⟨k, rfl⟩ : ∃ k : Nat, i = ((k + 1 : Nat) : Int) := ⟨i.toNat - 1, by omega⟩
   obtain ⟨x, hx⟩ := ybL (l := l) (n := k) (by omega)
   obtain ⟨y, hy⟩ := ybL (l := l) (n := k + 1) (by omega)
   rw [show IntKind.i64.wrap (((k + 1 : Nat) : Int) - 1) = (k : Int) by rw [wrap64 (by omega) (by omega)]; omega]
   refine ⟨by omega, by omega, y, hy, by omega, by omega, x, hx, _, yev (hq y (List.mem_of_getElem? hy)), fun c2 => ?_, fun c2 => ?_⟩
   ·have c2 : lt7 y x = true := c2
    rcases h with ⟨rfl, hs⟩ | ⟨rfl, _⟩
    ·rw [hs.at hx hy] at c2; cases c2
    ·rfl
   ·have c2 : lt7 y x = false := c2
    refine ih _ ⟨by omega, fun hr => ?_⟩ (by omega)
    obtain ⟨j, a, b, h1, h2, h3, h4⟩ := hd hr
    by_cases hjk : j = k
    ·subst hjk
     rw [hx] at h1; rw [hy] at h2; cases h1; cases h2
     rw [c2] at h3; cases h3
    ·exact ⟨j, a, b, h1, h2, h3, by omega⟩
  ·have c : ¬ 0 < i := of_decide_eq_false c
   cases r with
   | true => rfl
   | false => obtain ⟨j, a, b, h1, h2, h3, h4⟩ := hd rfl; omega
 ·rcases h with ⟨rfl, _⟩ | ⟨_, k, x, y, h1, h2, h3⟩
  ·cases hr
  ·have := (List.getElem?_eq_some_iff.1 h2).1
   exact ⟨k, x, y, h1, h2, h3, by omega⟩
theorem yhv {s : Str} (h : (sGet s).2 = 0) : (∀ v ∈ (sGet s).1, good v) ∧ sKey (sGet s).1 = s ∧ (sGet s).1.length ≤ s.length := by
 unfold sGet at *
 cases hs : ycg s with
 | none => rw [hs] at h; cases h
 | some l =>
   rw [hs] at h
   simp only at h ⊢
   by_cases e : (l.all fun t => (ygX t).2) = true
   ·rw [if_pos e]
    refine ⟨?_, ?_, ?_⟩
    ·intro v hv
     obtain ⟨t, ht, rfl⟩ := List.mem_map.1 hv
     exact (ylA (List.all_eq_true.1 e t ht)).1
    ·unfold sKey
     rw [List.map_map]
     have : l.map (yd8 ∘ fun t => (ygX t).1) = l := by
      conv => rhs; rw [<- List.map_id l]
      exact List.map_congr_left fun t ht => (ylA (List.all_eq_true.1 e t ht)).2
     rw [this]; exact (yiL hs).1
    ·rw [List.length_map]; exact ygh hs
   ·rw [if_neg e] at h; cases h
theorem yrZ (s : Str) : (sGet s).1.length ≤ s.length := by
 unfold sGet
 cases hs : ycg s with
 | none => simp
 | some l =>
   simp only
   have := ygh hs
   split <;> simp <;> omega
def gErr : List Str → Int
 | [] => 0
 | t :: r => if (sGet t).2 ≠ 0 then (sGet t).2 else gErr r
def ybe (l : List Str) : List Rw := l.map fun t => (sGet t).1
theorem yqp {s : Str} (hl : s.length ≤ 100000000) (h : ycg s = none) : ycL s ⟨[]⟩ 2 := by
 unfold ycL
 have := yql hl
 rw [h] at this
 exact ⟨_, _, this, yaD rfl ⟨rfl, rfl⟩⟩
theorem yuf {s : Str} {l : List Str} {b : Bg} {e : Int} (hl : s.length ≤ 100000000) (h : ycg s = some l)
  (hr : (gErr l ≠ 0 /\ b = ⟨[]⟩ /\ e = gErr l) ∨ (gErr l = 0 /\ Sd lt7 (ybe l) /\ b = ⟨ybe l⟩ /\ e = 0) ∨ (gErr l = 0 /\ (∃ i x y, (ybe l)[i]? = some x /\ (ybe l)[i + 1]? = some y /\ lt7 y x = true) /\ b = ⟨[]⟩ /\ e = 4)) : ycL s b e := by
 unfold ycL
 have hsp := yql hl
 rw [h] at hsp
 have hlen := ygh h
 have hparts := (yiL h).2
 refine ⟨_, _, hsp, yaz rfl fun _ => ?_⟩
 show ∀ X1 : Int -> List Rw -> Prop, (∀ x3 x4, yig l b e X1 x3 x4 -> X1 x3 x4) -> X1 0 []
 refine lp2 (fun (i : Int) (d : List Rw) => ∃ A B, l = A ++ B /\ i = (A.length : Int) /\ d = ybe A /\ gErr l = gErr B) (fun i _ => (l.length - i).toNat) ?_ ⟨[], l, rfl, rfl, rfl, rfl⟩
 rintro X i d ⟨A, B, eAB, rfl, rfl, hB⟩ ih
 have hll : l.length = A.length + B.length := by rw [eAB]; simp
 unfold yig
 refine ⟨fun c => ?_, fun c => ?_⟩
 ·have c : (A.length : Int) < l.length := of_decide_eq_true c
  obtain ⟨t, B, rfl⟩ : ∃ x T, B = x :: T := by
   cases B with
   | nil => exfalso; simp only [List.length_nil] at hll; omega
   | cons x T => exact ⟨x, T, rfl⟩
  have gt : l[A.length]? = some t := by rw [eAB]; exact ydq _ _ _
  have ht := hparts t (List.mem_of_getElem? gt)
  refine ⟨by omega, c, t, gt, _, _, pGet (by omega), fun c2 => ?_, fun c2 => ⟨by simp [ybe]; omega, ?_⟩⟩
  ·have c2 : ¬ (sGet t).2 = 0 := by simpa using c2
   have hg : gErr l = (sGet t).2 := by rw [hB]; unfold gErr; rw [if_pos c2]
   rcases hr with ⟨_, rfl, rfl⟩ | ⟨h0, _⟩ | ⟨h0, _⟩
   ·exact ⟨rfl, hg.symm⟩
   ·rw [hg] at h0; exact absurd h0 c2
   ·rw [hg] at h0; exact absurd h0 c2
  ·have c2 : (sGet t).2 = 0 := by simpa using c2
   rw [w1 (by omega)]
   refine ih _ _ ⟨A ++ [t], B, by rw [eAB]; simp, by simp, by simp [ybe], by rw [hB]; unfold gErr; rw [if_neg (by simpa using c2)]; cases B <;> rfl⟩ (by omega)
 ·have c : ¬ (A.length : Int) < l.length := of_decide_eq_false c
  have : B = [] := List.length_eq_zero_iff.1 (by omega)
  subst this
  have e' : l = A := by rw [eAB]; simp
  rw [<- e']
  have h0 : gErr l = 0 := by rw [hB]; rfl
  have hrl : (ybe l).length = l.length := by simp [ybe]
  have hsh : ∀ y ∈ ybe l, Sh y := by
   intro y hy
   obtain ⟨t, ht, rfl⟩ := List.mem_map.1 hy
   have a := yrZ t
   have b := hparts t ht
   unfold Sh; omega
  rcases hr with ⟨hn, _⟩ | ⟨_, hs, rfl, rfl⟩ | ⟨_, hd, rfl, rfl⟩
  ·exact absurd h0 hn
  ·exact ⟨true, ypU (by omega) hsh (.inl ⟨rfl, hs⟩), yaz rfl ⟨rfl, rfl⟩⟩
  ·exact ⟨false, ypU (by omega) hsh (.inr ⟨rfl, hd⟩), yaD rfl ⟨rfl, rfl⟩⟩
end Go.Proofs.Ytkmehmgocelkiaa
end
noncomputable section
namespace Go.Proofs.Ytkmehmgocelkiaa
open Go.AV Go.RowKit
end Go.Proofs.Ytkmehmgocelkiaa
end
noncomputable section
namespace Go.Proofs.Ytkmehmgocelkiaa
open Go.AV Go.RowKit Go.WideShapes Go.ChangeShapes
theorem yqR : ∀ (l : List Str) (j : Nat), (cl eS l)[j]? = (l[j]?).map AV.st
 | [], j => by simp [cl]
 | s :: r, j => by
   have e : cl eS (s :: r) = AV.st s :: cl eS r := rfl
   rw [e]
   cases j with
   | zero => rfl
   | succ j => rw [List.getElem?_cons_succ, List.getElem?_cons_succ]; exact yqR r j
theorem ylC {H : Type} : ∀ l : List Str, Rows.uptoBulkAll (l.map fun s => (DataW.lit (H := H) (.string s))) = (l.map fun s => s.length + 1).sum
 | [] => rfl
 | s :: r => by
   rw [List.map_cons, List.map_cons, List.sum_cons, <- ylC (H := H) r]
   simp only [Rows.uptoBulkAll, Rows.uptoBulk]
theorem ypg {H : Type} {enc : TypeId × Value → H} {P : Program} {w : World} {held : Bool} {t e : TypeId} {l : List Str} {v : Value} {d : DataW H} {p : List MemPlace} (ht : P.underlying t = some (.slice e)) (he : P.underlying e = some .string) (hc1 : P.cellsOf e = 1)
  (hv : VR (G0 w) (slA eS l) v) (h : DataW.Trod enc P w 0 (fun _ => true) held t v d p) : (l.map fun s => s.length + 1).sum <= Rows.uptoBulk d := by
 obtain ⟨fuel, h⟩ := h
 rcases hv.sl_inv with ⟨_, hn, _⟩ | ⟨_, hn, _⟩ | ⟨_, b, off, cap, f, rfl, _, hcl, hf, _⟩
 ·have : l = [] := List.eq_nil_of_length_eq_zero hn
  subst this; exact Nat.zero_le _
 ·have : l = [] := List.eq_nil_of_length_eq_zero hn
  subst this; exact Nat.zero_le _
 ·have h' : DataW.trod enc P w 0 (fun _ => true) held fuel t [.slice (some ⟨b, off, none⟩) l.length cap] = some (d, p) := h
  rcases DataW.trod_slice ht h' with ⟨e1, _⟩ | ⟨a, len, cap', elems, rest, n, _, e1, e2, _, _, _, hel, hg, _⟩
  ·cases e1
  ·simp only [List.cons.injEq, Value.slice.injEq, Option.some.injEq, and_true] at e1
   obtain ⟨rfl, rfl, rfl⟩ := e1
   simp only [Prod.mk.injEq] at e2
   obtain ⟨rfl, _⟩ := e2
   have key : elems.map (·.1) = l.map fun s => (DataW.lit (H := H) (.string s)) := by
    refine List.ext_getElem? fun i => ?_
    by_cases hi : i < l.length
    ·have h1 := hg i hi
     rw [List.getElem?_eq_getElem (by rw [hel]; exact hi)] at h1
     obtain ⟨csi, h2, h3⟩ := Option.bind_eq_some_iff.1 h1
     obtain ⟨s, rfl, hs, _⟩ := DataW.trod_string he h3
     have hq := (World.cells?_some h2).2.2 0 (by omega)
     rw [hc1, Nat.mul_one, Addr.add_lit] at hq
     have hu : (cl eS l)[i]? = some (.st l[i]) := by rw [yqR, List.getElem?_eq_getElem hi]; rfl
     have hz := hcl i _ hu
     have hw := hf i _ hu
     obtain ⟨s', q1, q2⟩ := hw.st_inv
     rw [show ((⟨b, off + i, none⟩ : Addr).add 0) = ⟨b, off + i, none⟩ from rfl] at hq
     have : w.cell? ⟨b, off + i, none⟩ = some (f i) := hz
     rw [this, q1] at hq
     simp only [List.getElem?_cons_zero, Option.some.injEq, Value.string.injEq] at hq
     subst hq
     rw [List.getElem?_map, List.getElem?_map, List.getElem?_eq_getElem (by rw [hel]; exact hi), List.getElem?_eq_getElem hi, hs]
     simp [<- q2, ByteArray.toList_eq]
    ·rw [List.getElem?_eq_none (by simp; omega), List.getElem?_eq_none (by simp; omega)]
   simp only [Rows.uptoBulk]
   rw [key, ylC]
   omega
end Go.Proofs.Ytkmehmgocelkiaa
end
noncomputable section
namespace Go.Proofs.Ytkmehmgocelkiaa
open Go.AV Go.RowKit
set_option maxRecDepth 100000 in
theorem ylk {a0 : (List Str)} {a1 : Bool} (h : ybf a0 a1 true) : Pure Try.prog 4 [slA eS a0, .bl a1] (.bl true) := by
 have e : Pure Try.prog ycB.f (yd4 CC ycB.ps [.d (.v 37 a0), .d (.v 4 a1)]) (ycW (([.v 4 true] : List (DV KK)).map (dvA CC))) = Pure Try.prog 4 [slA eS a0, .bl a1] (.bl true) := by kernel_rfl
 have w : ycB.W [.d (.v 37 a0), .d (.v 4 a1)] [.v 4 true] = ybf a0 a1 true := by kernel_rfl
 exact e.mp (yhZ _ _ (fun F h => by simp at h) (w.mpr h)).2
end Go.Proofs.Ytkmehmgocelkiaa
end
noncomputable section
namespace Go.Proofs.Ytkmehmgocelkiaa
open Go.AV Go.RowKit
theorem yrK {l : List Str} (h : gErr l = 0) : ∀ t ∈ l, (sGet t).2 = 0 := by
 induction l with
 | nil => intro t ht; cases ht
 | cons s l ih =>
   unfold gErr at h
   intro t ht
   by_cases h0 : (sGet s).2 = 0
   ·rw [if_neg (by simpa using h0)] at h
    rcases List.mem_cons.1 ht with rfl | ht
    ·exact h0
    ·exact ih h t ht
   ·rw [if_pos h0] at h; exact absurd h h0
theorem yjL {l : List Str} (h : ∀ s ∈ l, s.length < 4294967296) (u : Str) : ycg (ybb l ++ u) = (ycg u).map (l ++ ·) := by
 induction l with
 | nil => show ycg u = _; cases ycg u <;> rfl
 | cons s l ih =>
   have e : ybb (s :: l) ++ u = (be 4 s.length ++ s) ++ (ybb l ++ u) := by
    show ((be 4 s.length ++ s) ++ ybb l) ++ u = _
    rw [List.append_assoc]
   rw [e, yi8 (h s (by simp)), ih fun t ht => h t (by simp [ht])]
   cases ycg u <;> rfl
theorem ykd {l : List Str} (hl : l.length ≤ 8) (hb : (ybb l).length ≤ 5000000) : ya0 true l := by
 have hlt : ∀ s ∈ l, s.length < 4294967296 := by
  intro s hs
  obtain ⟨i, hi, rfl⟩ := List.mem_iff_getElem.1 hs
  have := yiQ hi
  omega
 have hlen5 : ∀ s ∈ l, s.length ≤ 5000000 := by
  intro s hs
  obtain ⟨i, hi, rfl⟩ := List.mem_iff_getElem.1 hs
  have := yiQ hi
  omega
 have hsp : ycg (ybb l) = some l := ymU hlt
 have hrl : (ybe l).length = l.length := by simp [ybe]
 have main : ∀ (b : Bg) (e : Int), ((gErr l ≠ 0 ∧ b = ⟨[]⟩ ∧ e = gErr l) ∨ (gErr l = 0 ∧ Sd lt7 (ybe l) ∧ b = ⟨ybe l⟩ ∧ e = 0) ∨ (gErr l = 0 ∧ (∃ i x y, (ybe l)[i]? = some x ∧ (ybe l)[i + 1]? = some y ∧ lt7 y x = true) ∧ b = ⟨[]⟩ ∧ e = 4)) → ya0 true l := by
  intro b e hr
  refine ⟨_, yuC (by omega), b, e, yuf (by omega) hsp hr, ?_⟩
  refine lp2 (fun (i : Int) (d : List Rw) => ∃ A B, l = A ++ B /\ i = (A.length : Int) /\ d = ybe A /\ gErr l = gErr B) (fun i _ => (l.length - i).toNat) ?_ ⟨[], l, rfl, rfl, rfl, rfl⟩
  rintro X i d ⟨A, B, eAB, rfl, rfl, hB⟩ ih
  have hll : l.length = A.length + B.length := by rw [eAB]; simp
  unfold ycd
  intro _
  refine ⟨fun c => ?_, fun c => ?_⟩
  ·have c : (A.length : Int) < l.length := of_decide_eq_true c
   obtain ⟨t, B, rfl⟩ : ∃ x T, B = x :: T := by
    cases B with
    | nil => exfalso; simp only [List.length_nil] at hll; omega
    | cons x T => exact ⟨x, T, rfl⟩
   have gt : l[A.length]? = some t := by rw [eAB]; exact ydq _ _ _
   have ht := hlen5 t (List.mem_of_getElem? gt)
   refine ⟨by omega, c, t, gt, _, _, pGet (by omega), fun c2 => ?_, fun c2 => ⟨by simp [ybe]; omega, ?_⟩⟩
   ·have c2 : ¬ (sGet t).2 = 0 := by simpa using c2
    have hg : gErr l = (sGet t).2 := by rw [hB]; unfold gErr; rw [if_pos c2]
    rcases hr with ⟨_, rfl, rfl⟩ | ⟨h0, _⟩ | ⟨h0, _⟩
    ·exact yaD (by rw [hg]; simp) ⟨_, pLen _, rfl⟩
    ·rw [hg] at h0; exact absurd h0 c2
    ·rw [hg] at h0; exact absurd h0 c2
   ·have c2 : (sGet t).2 = 0 := by simpa using c2
    rw [w1 (by omega)]
    refine ih _ _ ⟨A ++ [t], B, by rw [eAB]; simp, by simp, by simp [ybe], by rw [hB]; unfold gErr; rw [if_neg (by simpa using c2)]; cases B <;> rfl⟩ (by omega)
  ·have c : ¬ (A.length : Int) < l.length := of_decide_eq_false c
   have : B = [] := List.length_eq_zero_iff.1 (by omega)
   subst this
   have e' : l = A := by rw [eAB]; simp
   have h0 : gErr l = 0 := by rw [hB]; rfl
   rw [<- e']
   clear ih
   have hz := yrK h0
   have hvd : ∀ y ∈ ybe l, Vd y ∨ y.length ≤ 5000000 := by
    intro y hy
    obtain ⟨t, ht, rfl⟩ := List.mem_map.1 hy
    have := (yhv (hz t ht)).2.2
    have := hlen5 t ht
    exact .inr (by omega)
   have hsh : ∀ y ∈ ybe l, Sh y := by
    intro y hy
    obtain ⟨t, ht, rfl⟩ := List.mem_map.1 hy
    have := (yhv (hz t ht)).2.2
    have := hlen5 t ht
    unfold Sh; omega
   refine lp2 (fun (d : List Rw) (i : Int) => d = ybe l /\ ∃ k : Nat, i = ((k + 1 : Nat) : Int) /\ k <= l.length /\ ∀ (j : Nat) (x y : Rw), j < k -> (ybe l)[j]? = some x -> (ybe l)[j + 1]? = some y -> lt7 y x = false) (fun _ i => (l.length + 1 - i).toNat) ?_ ⟨rfl, 0, rfl, by omega, fun j x y h => by omega⟩
   rintro X3 d i ⟨rfl, k, rfl, hk, hadj⟩ ih
   unfold yce
   rw [hrl]
   intro _
   refine ⟨fun c2 => ?_, fun c2 => ?_⟩
   ·have c2 := of_decide_eq_true c2
    obtain ⟨x, hx⟩ := ybL (l := ybe l) (n := k) (by omega)
    obtain ⟨y, hy⟩ := ybL (l := ybe l) (n := k + 1) (by omega)
    rw [show IntKind.i64.wrap (((k + 1 : Nat) : Int) - 1) = (k : Int) by rw [wrap64 (by omega) (by omega)]; omega]
    refine ⟨by omega, by omega, x, hx, by omega, by omega, y, hy, _, yev (hsh x (List.mem_of_getElem? hx)), fun c3 => ?_, fun c3 => ?_⟩
    ·have c3 : lt7 y x = true := ys6.1 (of_decide_eq_true c3)
     rcases hr with ⟨hn, _⟩ | ⟨_, hs, _⟩ | ⟨_, _, rfl, rfl⟩
     ·exact absurd h0 hn
     ·rw [hs.at hx hy] at c3; cases c3
     ·exact yaD rfl ⟨_, pLen _, rfl⟩
    ·have c3 : lt7 y x = false := by
      have c3 := of_decide_eq_false c3
      cases hc : lt7 y x with
      | false => rfl
      | true => exact absurd (ys6.2 hc) c3
     rw [w1 (by omega)]
     refine ih _ _ ⟨rfl, k + 1, rfl, by omega, fun j u v hj hu hv => ?_⟩ (by omega)
     by_cases hjk : j = k
     ·subst hjk
      rw [hx] at hu; rw [hy] at hv; cases hu; cases hv; exact c3
     ·exact hadj j u v (by omega) hu hv
   ·have c2 := of_decide_eq_false c2
    rcases hr with ⟨hn, _⟩ | ⟨_, hs, rfl, rfl⟩ | ⟨_, ⟨j, u, v, hu, hv, huv⟩, _⟩
    ·exact absurd h0 hn
    ·have ekey : (ybe l).map sKey = l := by
      unfold ybe
      rw [List.map_map]
      conv => rhs; rw [<- List.map_id l]
      exact List.map_congr_left fun t ht => (yhv (hz t ht)).2.1
     have eb : sBag (ybe l) = ybb l := by unfold sBag; rw [ekey]
     have hrows : ∀ y ∈ ybe l, Vd y := by
      intro y hy
      obtain ⟨t, ht, rfl⟩ := List.mem_map.1 hy
      obtain ⟨g1, g2, g3⟩ := yhv (hz t ht)
      refine ⟨?_, g1⟩
      have h4 := yhW ((sGet t).1.map yd8)
      have h5 : (ybb ((sGet t).1.map yd8)).length = t.length := by
       have : ybb ((sGet t).1.map yd8) = t := g2
       rw [this]
      rw [List.length_map] at h4
      have := hlen5 t ht
      have h6 : ∀ v ∈ (sGet t).1, 1 ≤ (yd8 v).length := by
       intro v hv
       unfold yd8
       split
       ·simp [b1]
       ·split
        ·simp [b1]
        ·split <;> simp [b1]
      have h7 : ∀ r : List V, (∀ v ∈ r, 1 ≤ (yd8 v).length) → 5 * r.length ≤ (ybb (r.map yd8)).length := by
       intro r
       induction r with
       | nil => intro _; simp
       | cons v r ihr =>
         intro h
         have e2 : ybb ((v :: r).map yd8) = (be 4 (yd8 v).length ++ yd8 v) ++ ybb (r.map yd8) := rfl
         have i1 := ihr fun w hw => h w (by simp [hw])
         have i2 := h v (by simp)
         rw [e2, List.length_append, List.length_append, yeZ, List.length_cons]; omega
      have := h7 _ h6
      omega
     have hk1 := yuj (b := ⟨ybe l⟩) hrows (by show (sBag (ybe l)).length <= _; rw [eb]; omega)
     have ho := pOf (l := ybe l) (by omega) hsh
     rw [yqW ybO hs] at ho
     have hsame := ywy (a := ⟨ybe l⟩) (b := ⟨ybe l⟩) (by show (ybe l).length <= _; omega) hsh
     rw [decide_eq_true rfl] at hsame
     have hno : ycg (ybb l ++ [0]) = none := by
      rw [yjL hlt]
      rfl
     refine ⟨by simp; omega, _, _, yqp (by simp; omega) hno, yaD rfl ⟨_, hk1, yaD (by show (sBag (ybe l) == ybb l) = true; rw [eb]; simp) ⟨_, ho, _, hsame, yaD rfl (yaD rfl ⟨_, pLen _, rfl⟩)⟩⟩⟩
    ·have := (List.getElem?_eq_some_iff.1 hv).1
     rw [hadj j u v (by omega) hu hv] at huv; cases huv
 by_cases h0 : gErr l = 0
 ·rcases ywQ (ybe l) with h | h
  ·exact main _ _ (.inr (.inl ⟨h0, h, rfl, rfl⟩))
  ·exact main _ _ (.inr (.inr ⟨h0, h, rfl, rfl⟩))
 ·exact main _ _ (.inl ⟨h0, rfl, rfl⟩)
theorem yrq {a b : List Str} (h : a.Perm b) : (ybb a).length = (ybb b).length := (h.flatMap_right _).length_eq
theorem yrW (l : List Str) : (ybb l).length ≤ 4 * (l.map fun s => s.length + 1).sum := by
 induction l with
 | nil => simp [ybb]
 | cons s l ih =>
   have e : ybb (s :: l) = (be 4 s.length ++ s) ++ ybb l := rfl
   rw [e, List.length_append, List.length_append, yeZ, List.map_cons, List.sum_cons]; omega
theorem yjN {a0 : List Str} (hs : (a0.map fun s => s.length + 1).sum ≤ 1048576) (a1 : Bool) : ybf a0 a1 true := by
 apply yiH
 refine ⟨_, yuq, yaz rfl fun _ => ?_⟩
 have et : ygb a0 (0 : Int) (if (8 : Int) < (a0.length : Int) then (8 : Int) else (a0.length : Int)) = a0.take 8 := by
  unfold ygb
  split
  ·simp
  ·simp only [Int.toNat_zero, List.drop_zero, Int.toNat_natCast, Nat.sub_zero]
   rw [List.take_of_length_le (Nat.le_refl _), List.take_of_length_le (by omega)]
 rw [et, List.nil_append]
 have h8 : (a0.take 8).length <= 8 := by rw [List.length_take]; omega
 have hb : (ybb (a0.take 8)).length ≤ 5000000 := by
  have h1 := ygr a0 8
  have h2 := yrW a0
  omega
 refine ⟨⟨by omega, by split <;> omega, by split <;> omega⟩, by omega, fun c => ?_, fun c => ykd h8 hb⟩
 generalize a0.take 8 = l at *
 refine lp2 (fun (i : Int) (d : List Str) => d.Perm l /\ 0 <= i /\ i <= l.length) (fun i _ => (l.length - i).toNat) ?_ ⟨.refl _, by omega, by omega⟩
 rintro X i d ⟨hp, i0, i1⟩ ih
 have hd := hp.length_eq
 unfold ycc
 rw [hd]
 refine ⟨fun c => ?_, fun c => ykd (by omega) (by rw [yrq hp]; exact hb)⟩
 have c : i < (l.length : Int) := of_decide_eq_true c
 refine lp2 (fun (k : Int) (d : List Str) => d.Perm l /\ 0 <= k /\ k < l.length) (fun k _ => k.toNat) ?_ ⟨hp, i0, c⟩
 rintro X2 k d ⟨hp2, k0, k1⟩ ih2
 have hd2 := hp2.length_eq
 have stop : ybz X X2 i k false d := by
  refine yaz rfl ?_
  rw [wrap64 (by omega) (by omega)]
  exact ih _ _ ⟨hp2, by omega, by omega⟩ (by omega)
 unfold ycf
 refine ⟨fun c2 => ?_, fun c2 => stop⟩
 have c2 : 0 < k := of_decide_eq_true c2
 obtain ⟨q, rfl⟩ : ∃ q : Nat, k = ((q + 1 : Nat) : Int) := ⟨k.toNat - 1, by omega⟩
 have hx : ∃ U p x T, d = U ++ p :: ([] ++ x :: T) ∧ U.length = q := by
  refine ⟨d.take q, d[q], d[q + 1], d.drop (q + 2), ?_, by rw [List.length_take]; omega⟩
  conv => lhs; rw [<- List.take_append_drop q d, List.drop_eq_getElem_cons (show q < d.length by omega), List.drop_eq_getElem_cons (show q + 1 < d.length by omega)]
  rfl
 obtain ⟨U, p, x, T, rfl, hU⟩ := hx
 obtain ⟨g1, g2, g3, g4, g5, g6, g7⟩ := yi0 (U := U) (M := []) (T := T) (x := p) (z := x) (i := q) (j := q + 1) hU.symm (by simp; omega)
 rw [show IntKind.i64.wrap (((q + 1 : Nat) : Int) - 1) = (q : Int) by rw [wrap64 (by omega) (by omega)]; omega]
 refine ⟨by omega, by omega, x, by simpa only [Int.toNat_natCast] using g2, by omega, by omega, p, by simpa only [Int.toNat_natCast] using g1, ?_⟩
 cases hb2 : Op.bytesLess x p with
 | false => exact stop
 | true =>
   refine yaD rfl ?_
   rw [show IntKind.i64.wrap (((q + 1 : Nat) : Int) - 1) = (q : Int) by rw [wrap64 (by omega) (by omega)]; omega]
   simp only [Int.toNat_natCast]
   refine ⟨by omega, by omega, p, g1, by omega, by omega, x, g2, by omega, by omega, x, g2, by omega, by rw [List.length_set]; omega, p, g4, ?_⟩
   rw [g6]
   refine ih2 _ _ ⟨.trans (List.Perm.append_left U (.swap p x T)) hp2, by omega, by omega⟩ (by omega)
theorem ykY (a0 : List Str) (a1 : Bool) (h : (a0.map fun s => s.length + 1).sum <= 1048576) (_ : True) : ybf a0 a1 true := yjN h a1
end Go.Proofs.Ytkmehmgocelkiaa
end
