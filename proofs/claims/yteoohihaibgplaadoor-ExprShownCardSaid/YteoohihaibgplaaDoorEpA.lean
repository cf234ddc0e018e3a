import Derived.Test.YteoohihaibgplaaDoorEa
import Derived.Test.YteoohihaibgplaaDoorPl
import Derived.Lib.ItoaLen
import Derived.Lib.ReplaceLaws
namespace Go.Proofs.YteoohihaibgplaaDoor
open Go.AV Go.RowKit

abbrev V := T_value_Value
def Rg (n : Int) : Prop := -9223372036854775808 ≤ n ∧ n ≤ 9223372036854775807
def good (v : V) : Prop := (v.Kind = 0 ∧ v.N = 0 ∧ v.S = []) ∨ (v.Kind = 1 ∧ (v.N = 0 ∨ v.N = 1) ∧ v.S = []) ∨ (v.Kind = 2 ∧ Rg v.N ∧ v.S = []) ∨ (v.Kind = 3 ∧ v.N = 0 ∧ v.S.length ≤ 64)
def D0 : V := ⟨0, 0, []⟩
def bV (b : Bool) : V := ⟨1, if b then 1 else 0, []⟩
def eqV (a b : V) : Bool := (a.Kind == b.Kind) && ((a.N == b.N) && ((a.S == b.S) && true))
theorem eqV_iff {a b : V} : eqV a b = true ↔ a = b := by
  cases a; cases b; simp [eqV]
theorem rg_wrap (n : Int) : Rg (IntKind.i64.wrap n) := by
  have := wrap64_range n; unfold Rg; omega
theorem pNone (v : V) : value_Value_none_o v (v.Kind == 0) := by
  unfold value_Value_none_o; grind [cnd]
theorem pOfBool (b : Bool) : value_OfBool_o b (bV b) := by
  unfold value_OfBool_o; cases b <;> simp [cnd, bV]
theorem pOfInt (n : Int) : value_OfInt_o n ⟨2, n, []⟩ := by unfold value_OfInt_o; rfl
theorem pTrue (v : V) : value_Value_True_o v (eqV v (bV true)) := ⟨_, pOfBool true, rfl⟩
theorem bAt_nat {s : Str} {i : Nat} (h : i < s.length) : bAt s (i : Int) = (s[i].toNat : Int) := by
  unfold bAt
  rw [Int.toNat_natCast, List.getElem?_eq_getElem h]; rfl
theorem goodN {a : V} (h : good a) : Rg a.N := by
  unfold good at h; unfold Rg at *
  rcases h with h | h | h | h <;> omega
theorem goodS {a : V} (h : good a) : a.S.length ≤ 64 := by
  unfold good at h
  rcases h with h | h | h | h
  · rw [h.2.2]; simp
  · rw [h.2.2]; simp
  · rw [h.2.2]; simp
  · exact h.2.2
def sGood (v : V) : Bool := if v.Kind = 0 then eqV v D0 else if v.Kind = 1 then (v.N == 0 || v.N == 1) && v.S == [] else if v.Kind = 2 then v.S == [] else if v.Kind = 3 then v.N == 0 && decide ((v.S.length : Int) ≤ 64) else false
theorem pGoodV (v : V) : value_Value_Good_o v (sGood v) := by
  unfold value_Value_Good_o
  have e : ((v.Kind == 0) && ((v.N == 0) && ((v.S == ([] : Str)) && true))) = eqV v D0 := rfl
  rw [e]
  unfold sGood
  generalize eqV v D0 = z
  refine ⟨fun c => ?_, fun c => ⟨fun c1 => ?_, fun c1 => ⟨fun c2 => ?_, fun c2 => ⟨fun c3 => ?_, fun c3 => ?_⟩⟩⟩⟩ <;> simp only [beq_iff_eq, beq_eq_false_iff_ne, ne_eq] at * <;> grind [cnd]
def sShow (v : V) : Str := if !sGood v || v.Kind == 0 then [78, 85, 76, 76] else if eqV v (bV true) then [84, 82, 85, 69] else if v.Kind = 1 then [70, 65, 76, 83, 69] else if v.Kind = 2 then Go.Lib.itoa v.N else [39] ++ Go.Lib.replaceAll v.S [39] [39, 39] ++ [39]
theorem pShow {v : V} (hr : Rg v.N) (hl : (Go.Lib.replaceAll v.S [39] [39, 39]).length ≤ 100000) (hs : v.S.length ≤ 1000) : value_Value_Show_o v (sShow v) := by
  apply value_Value_Show_i
  simp only [value_Value_Show_oi, value_Value_Show_J1i]
  have g := pGoodV v
  have n := pNone v
  have t := pTrue v
  unfold Rg at hr
  have f : strconv_FormatInt_o v.N 10 (Go.Lib.itoa v.N) := ⟨rfl, hr.1, hr.2, rfl⟩
  have r : strings_ReplaceAll_o v.S [39] [39, 39] (Go.Lib.replaceAll v.S [39] [39, 39]) := ⟨by omega, by simp, by simp, rfl⟩
  have tail : ∀ b : Bool, (b = true → (!sGood v || v.Kind == 0) = true) → (b = false → (!sGood v || v.Kind == 0) = false) → cnd b (([78, 85, 76, 76] : Str) = sShow v) (∃ z2 : Bool, (value_Value_True_o v z2) ∧ cnd z2 (([84, 82, 85, 69] : Str) = sShow v) (cnd (v.Kind == (1 : Int)) (([70, 65, 76, 83, 69] : Str) = sShow v) (cnd (v.Kind == (2 : Int)) (∃ z3 : Str, (strconv_FormatInt_o v.N (10 : Int) z3) ∧ z3 = sShow v) (∃ z4 : Str, (strings_ReplaceAll_o v.S ([39] : Str) ([39, 39] : Str) z4) ∧ (([39] : Str).length + z4.length ≤ 9223372036854775807) ∧ ((([39] : Str) ++ z4).length + ([39] : Str).length ≤ 9223372036854775807) ∧ ((([39] : Str) ++ z4) ++ ([39] : Str)) = sShow v)))) := by
    intro b h1 h2
    refine ⟨fun e => ?_, fun e => ⟨_, t, fun c => ?_, fun c => ⟨fun c1 => ?_, fun c1 => ⟨fun c2 => ⟨_, f, ?_⟩, fun c2 => ⟨_, r, ?_, ?_, ?_⟩⟩⟩⟩⟩
    · unfold sShow; rw [if_pos (h1 e)]
    · unfold sShow; rw [h2 e, if_neg (by simp), if_pos c]
    · have c1 : v.Kind = 1 := by simpa using c1
      unfold sShow; rw [h2 e, if_neg (by simp), c, if_neg (by simp), if_pos c1]
    · have c1 : ¬ v.Kind = 1 := by simpa using c1
      have c2 : v.Kind = 2 := by simpa using c2
      unfold sShow; rw [h2 e, if_neg (by simp), c, if_neg (by simp), if_neg c1, if_pos c2]
    · simp; omega
    · simp; omega
    · have c1 : ¬ v.Kind = 1 := by simpa using c1
      have c2 : ¬ v.Kind = 2 := by simpa using c2
      unfold sShow; rw [h2 e, if_neg (by simp), c, if_neg (by simp), if_neg c1, if_neg c2]
  refine ⟨_, g, fun c => ?_, fun c => ⟨_, n, ?_⟩⟩
  · exact tail true (fun _ => by rw [c]; rfl) (fun q => (by cases q))
  · exact tail _ (fun q => by rw [q]; simp) (fun q => by rw [q, c]; rfl)
def dq (s : Str) : Str := s.flatMap fun c => if c = 39 then [39, 39] else [c]
theorem dq_len (s : Str) : (dq s).length ≤ 2 * s.length := by
  induction s with
  | nil => simp [dq]
  | cons c s ih =>
    have : (dq (c :: s)).length = (if c = 39 then [39, 39] else [c]).length + (dq s).length := by simp [dq]
    rw [this]; split <;> simp <;> omega
theorem dq_app (a b : Str) : dq (a ++ b) = dq a ++ dq b := by simp [dq]
theorem dq_id {s : Str} (h : ∀ c ∈ s, c ≠ 39) : dq s = s := by
  induction s with
  | nil => rfl
  | cons c s ih =>
    have e : dq (c :: s) = (if c = 39 then [39, 39] else [c]) ++ dq s := rfl
    rw [e, if_neg (h c (by simp)), ih fun d hd => h d (List.mem_cons_of_mem _ hd)]; rfl
theorem occ39 (s : Str) (j : Nat) : Go.Lib.occAt s [39] j = true ↔ s[j]? = some 39 := by
  unfold Go.Lib.occAt
  by_cases h : j < s.length
  · rw [List.drop_eq_getElem_cons h, List.getElem?_eq_getElem h]
    simp [List.isPrefixOf]
    exact eq_comm
  · rw [List.drop_of_length_le (by omega), List.getElem?_eq_none (by omega)]; simp
theorem repl39 : ∀ (n : Nat) (s : Str), s.length ≤ n → Go.Lib.replaceK [39] [39, 39] (Go.Lib.count s [39]) s = dq s := by
  intro n
  induction n with
  | zero =>
    intro s hs
    have : s = [] := List.eq_nil_of_length_eq_zero (by omega)
    subst this; rfl
  | succ n ih =>
    intro s hs
    rcases Go.Lib.index_spec s [39] with ⟨h1, h2⟩ | ⟨i, h1, h2, h3, h4⟩
    · have hc : Go.Lib.count s [39] = 0 := by
        unfold Go.Lib.count Go.Lib.countFrom
        rw [h1]; rfl
      rw [hc]
      have : ∀ c ∈ s, c ≠ 39 := by
        intro c hm e
        subst e
        obtain ⟨j, hj⟩ := List.getElem?_of_mem hm
        have hlt : j < s.length := (List.getElem?_eq_some_iff.1 hj).1
        have := h2 j (by omega)
        rw [(occ39 s j).2 hj] at this; cases this
      rw [dq_id this]; rfl
    · have hi := (occ39 s i).1 h3
      have hlt : i < s.length := (List.getElem?_eq_some_iff.1 hi).1
      have hc : Go.Lib.count s [39] = Go.Lib.count (s.drop (i + 1)) [39] + 1 := by
        rw [Go.Lib.count_hit (by simp) h1, Nat.add_comm]; rfl
      rw [hc, Go.Lib.replaceK_hit _ _ _ _ i h1]
      show s.take i ++ [39, 39] ++ Go.Lib.replaceK [39] [39, 39] (Go.Lib.count (s.drop (i + 1)) [39]) (s.drop (i + 1)) = dq s
      rw [ih (s.drop (i + 1)) (by rw [List.length_drop]; omega)]
      have hs' : s = s.take i ++ ([39] ++ s.drop (i + 1)) := by
        have e1 : s[i] = 39 := by rw [List.getElem?_eq_getElem hlt] at hi; exact Option.some.inj hi
        have := List.drop_eq_getElem_cons hlt
        rw [e1] at this
        conv => lhs; rw [← List.take_append_drop i s, this]
        rfl
      have hd : dq s = dq (s.take i) ++ ([39, 39] ++ dq (s.drop (i + 1))) := by
        conv => lhs; rw [hs', dq_app, dq_app]
        rfl
      have ht : dq (s.take i) = s.take i := by
        refine dq_id fun c hm e => ?_
        subst e
        obtain ⟨j, hj⟩ := List.getElem?_of_mem hm
        have hlt' : j < (s.take i).length := (List.getElem?_eq_some_iff.1 hj).1
        rw [List.length_take] at hlt'
        rw [List.getElem?_take, if_pos (by omega)] at hj
        have := h4 j (by omega)
        rw [(occ39 s j).2 hj] at this; cases this
      rw [hd, ht, List.append_assoc]
theorem replAll (s : Str) : Go.Lib.replaceAll s [39] [39, 39] = dq s := by
  unfold Go.Lib.replaceAll Go.Lib.replace Go.Lib.replaceNum
  rw [if_neg (by decide), if_pos (.inl (by omega))]
  exact repl39 _ _ (Nat.le_refl _)
theorem w1 {i : Nat} (h : i < 1000000000) : IntKind.i64.wrap ((i : Int) + 1) = ((i + 1 : Nat) : Int) := by rw [wrap64 (by omega) (by omega)]; omega
theorem gAt {α : Type} {l : List α} {i : Nat} (h : i < l.length) : l[((i : Nat) : Int).toNat]? = some l[i] := by rw [Int.toNat_natCast]; exact List.getElem?_eq_getElem h
theorem sGood_good {v : V} (hr : Rg v.N) (h : sGood v = true) : good v := by
  unfold sGood at h
  unfold good
  split at h
  · rename_i k
    have := eqV_iff.1 h
    rw [this]; exact .inl ⟨rfl, rfl, rfl⟩
  · split at h
    · rename_i k
      simp at h; exact .inr (.inl ⟨k, h.1, h.2⟩)
    · split at h
      · rename_i k; simp at h; exact .inr (.inr (.inl ⟨k, hr, h⟩))
      · split at h
        · rename_i k; simp at h; exact .inr (.inr (.inr ⟨k, h.1, by omega⟩))
        · cases h
end Go.Proofs.YteoohihaibgplaaDoor
