import Derived.Test.YtkmehmgocelkiaaDoorVpD
import Derived.Lib.ItoaLen
import Derived.Lib.ReplaceLaws
namespace Go.Proofs.YtkmehmgocelkiaaDoor
open Go.AV Go.RowKit

/-! ### quotes, twice -/
def dq (s : Str) : Str := s.flatMap fun c => if c = 39 then [39, 39] else [c]
theorem dq_len (s : Str) : (dq s).length ≤ 2 * s.length := by
  induction s with
  | nil => simp [dq]
  | cons c s ih =>
    have : (dq (c :: s)).length = (if c = 39 then [39, 39] else [c]).length + (dq s).length := by simp [dq]
    rw [this]; split <;> simp <;> omega
theorem dq_app (a b : Str) : dq (a ++ b) = dq a ++ dq b := by simp [dq]
theorem dq_id {s : Str} (h : ∀ c ∈ s, c ≠ 39) : dq s = s := by
  induction s with
  | nil => rfl
  | cons c s ih =>
    have e : dq (c :: s) = (if c = 39 then [39, 39] else [c]) ++ dq s := rfl
    rw [e, if_neg (h c (by simp)), ih fun d hd => h d (List.mem_cons_of_mem _ hd)]; rfl
theorem occ39 (s : Str) (j : Nat) : Go.Lib.occAt s [39] j = true ↔ s[j]? = some 39 := by
  unfold Go.Lib.occAt
  by_cases h : j < s.length
  · rw [List.drop_eq_getElem_cons h, List.getElem?_eq_getElem h]
    simp [List.isPrefixOf]
    exact eq_comm
  · rw [List.drop_of_length_le (by omega), List.getElem?_eq_none (by omega)]; simp
theorem repl39 : ∀ (n : Nat) (s : Str), s.length ≤ n → Go.Lib.replaceK [39] [39, 39] (Go.Lib.count s [39]) s = dq s := by
  intro n
  induction n with
  | zero =>
    intro s hs
    have : s = [] := List.eq_nil_of_length_eq_zero (by omega)
    subst this; rfl
  | succ n ih =>
    intro s hs
    rcases Go.Lib.index_spec s [39] with ⟨h1, h2⟩ | ⟨i, h1, h2, h3, h4⟩
    · have hc : Go.Lib.count s [39] = 0 := by
        unfold Go.Lib.count Go.Lib.countFrom
        rw [h1]; rfl
      rw [hc]
      have : ∀ c ∈ s, c ≠ 39 := by
        intro c hm e
        subst e
        obtain ⟨j, hj⟩ := List.getElem?_of_mem hm
        have hlt : j < s.length := (List.getElem?_eq_some_iff.1 hj).1
        have := h2 j (by omega)
        rw [(occ39 s j).2 hj] at this; cases this
      rw [dq_id this]; rfl
    · have hi := (occ39 s i).1 h3
      have hlt : i < s.length := (List.getElem?_eq_some_iff.1 hi).1
      have hc : Go.Lib.count s [39] = Go.Lib.count (s.drop (i + 1)) [39] + 1 := by
        rw [Go.Lib.count_hit (by simp) h1, Nat.add_comm]; rfl
      rw [hc, Go.Lib.replaceK_hit _ _ _ _ i h1]
      show s.take i ++ [39, 39] ++ Go.Lib.replaceK [39] [39, 39] (Go.Lib.count (s.drop (i + 1)) [39]) (s.drop (i + 1)) = dq s
      rw [ih (s.drop (i + 1)) (by rw [List.length_drop]; omega)]
      have hs' : s = s.take i ++ ([39] ++ s.drop (i + 1)) := by
        have e1 : s[i] = 39 := by rw [List.getElem?_eq_getElem hlt] at hi; exact Option.some.inj hi
        have := List.drop_eq_getElem_cons hlt
        rw [e1] at this
        conv => lhs; rw [← List.take_append_drop i s, this]
        rfl
      have hd : dq s = dq (s.take i) ++ ([39, 39] ++ dq (s.drop (i + 1))) := by
        conv => lhs; rw [hs', dq_app, dq_app]
        rfl
      have ht : dq (s.take i) = s.take i := by
        refine dq_id fun c hm e => ?_
        subst e
        obtain ⟨j, hj⟩ := List.getElem?_of_mem hm
        have hlt' : j < (s.take i).length := (List.getElem?_eq_some_iff.1 hj).1
        rw [List.length_take] at hlt'
        rw [List.getElem?_take, if_pos (by omega)] at hj
        have := h4 j (by omega)
        rw [(occ39 s j).2 hj] at this; cases this
      rw [hd, ht, List.append_assoc]
theorem replAll (s : Str) : Go.Lib.replaceAll s [39] [39, 39] = dq s := by
  unfold Go.Lib.replaceAll Go.Lib.replace Go.Lib.replaceNum
  rw [if_neg (by decide), if_pos (.inl (by omega))]
  exact repl39 _ _ (Nat.le_refl _)
/-! ### the document's show -/
theorem pGood6 (v : V) : ref06_Good_o (v6 v) (sGood v) := by
  unfold ref06_Good_o
  have e : eqV v D0 = ((v.Kind == 0) && ((v.N == 0) && ((v.S == ([] : Str)) && true))) := rfl
  unfold sGood v6
  rw [e]
  refine ⟨fun c => ⟨fun d => ?_, fun d => ?_⟩, fun c => ⟨fun c1 => ?_, fun c1 => ⟨fun c2 => ?_, fun c2 => ⟨fun c3 => ?_, fun c3 => ?_⟩⟩⟩⟩ <;> simp only [beq_iff_eq, beq_eq_false_iff_ne, ne_eq] at * <;> grind [cnd]
theorem natAbs_step (n : Int) : (n.tdiv 10).natAbs = n.natAbs / 10 ∧ (n.tmod 10).natAbs = n.natAbs % 10 := ⟨by rw [Int.natAbs_tdiv]; rfl, by rw [Int.natAbs_tmod]; rfl⟩
theorem pDigits {n : Int} (hn : Rg n) : ref06_Digits_o n (Go.Lib.itoa n) := by
  have hlen := Go.Lib.itoa_length_le n hn.1 hn.2
  apply ref06_Digits_i
  have main : ∀ x1 : Str, x1.length ≤ 1 → Go.Lib.itoa n = x1 ++ Go.Lib.decDigits n.natAbs → ref06_Digits_J1i n (Go.Lib.itoa n) x1 := by
    intro x1 hx1 he
    rw [he, List.length_append] at hlen
    simp only [ref06_Digits_J1i]
    refine lp2 (fun (x : Int) (y : Str) => Rg x ∧ Go.Lib.decDigits n.natAbs = Go.Lib.decDigits x.natAbs ++ y) (fun (x : Int) (_ : Str) => x.natAbs) ?_ ⟨hn, by simp⟩
    rintro X x y ⟨hx, hy⟩ hX
    obtain ⟨s1, s2⟩ := natAbs_step x
    have hl2 : (Go.Lib.decDigits n.natAbs).length = (Go.Lib.decDigits x.natAbs).length + y.length := by rw [hy, List.length_append]
    have hr10 : Rg (x.tdiv 10) := tdiv_rg hx (by omega)
    have w10 : IntKind.i64.wrap (x.tdiv 10) = x.tdiv 10 := by unfold Rg at hr10; exact wrap64 (by omega) (by omega)
    have hdd := Go.Lib.decDigits.eq_1 x.natAbs
    have core : ref06_Digits_J3i X (Go.Lib.itoa n) x1 x y ((x.natAbs % 10 : Nat) : Int) := by
      simp only [ref06_Digits_J3i]
      have e48 : IntKind.u8.wrap (IntKind.i64.wrap ((48 : Int) + ((x.natAbs % 10 : Nat) : Int))) = ((48 + x.natAbs % 10 : Nat) : Int) := by
        rw [wrap64 (by omega) (by omega), wrapu8 (by omega) (by omega)]; omega
      have eb : ([IntKind.u8.wrap (IntKind.i64.wrap ((48 : Int) + ((x.natAbs % 10 : Nat) : Int)))] : List Int).map toB = [UInt8.ofNat (48 + x.natAbs % 10)] := by
        rw [e48]; rfl
      rw [eb, w10]
      refine ⟨by simp; omega, fun c => ?_, fun c => ?_⟩
      · have c : x.tdiv 10 = 0 := by simpa using c
        have h10 : x.natAbs < 10 := by rw [c] at s1; omega
        rw [dif_pos h10] at hdd
        have hm : x.natAbs % 10 = x.natAbs := Nat.mod_eq_of_lt h10
        refine ⟨by simp; omega, ?_⟩
        rw [he, hy, hdd, hm]
      · have c : ¬ x.tdiv 10 = 0 := by simpa using c
        have h10 : ¬ x.natAbs < 10 := fun h => by
          apply c
          have : (x.tdiv 10).natAbs = 0 := by rw [s1]; omega
          omega
        rw [dif_neg h10] at hdd
        refine hX _ _ ⟨hr10, ?_⟩ (by rw [s1]; omega)
        rw [hy, hdd, s1, List.append_assoc]
    simp only [ref06_Digits_L2i]
    refine ⟨fun c => ?_, fun c => ?_⟩
    · have c : x.tmod 10 < 0 := by simpa using c
      have : IntKind.i64.wrap (0 - x.tmod 10) = ((x.natAbs % 10 : Nat) : Int) := by
        rw [wrap64 (by omega) (by omega)]; omega
      rw [this]; exact core
    · have c : ¬ x.tmod 10 < 0 := by simpa using c
      have : x.tmod 10 = ((x.natAbs % 10 : Nat) : Int) := by omega
      rw [this]; exact core
  simp only [ref06_Digits_oi]
  refine ⟨fun c => main [45] (by simp) ?_, fun c => main [] (by simp) ?_⟩
  · have c : n < 0 := by simpa using c
    unfold Go.Lib.itoa; rw [if_pos c]; rfl
  · have c : ¬ n < 0 := by simpa using c
    unfold Go.Lib.itoa; rw [if_neg c]
    have : n.toNat = n.natAbs := by omega
    rw [this]; rfl
theorem pShow6 {v : V} (hr : Rg v.N) (hs : v.S.length ≤ 1000) : ref06_Show_o (v6 v) (sShow v) := by
  apply ref06_Show_i
  simp only [ref06_Show_oi, ref06_Show_J1i]
  have g := pGood6 v
  have dg := pDigits hr
  -- the texts
  have txt : sShow v = [39] ++ dq v.S ++ [39] → ∀ X3 : Str → Int → Prop, (∀ (x4 : Str) (x5 : Int), ref06_Show_L3i (v6 v) (sShow v) X3 x4 x5 → X3 x4 x5) → X3 [39] 0 := by
    intro hsh
    refine lp2 (fun (x : Str) (y : Int) => ∃ i : Nat, y = i ∧ i ≤ v.S.length ∧ x = [39] ++ dq (v.S.take i)) (fun (_ : Str) (y : Int) => v.S.length - y.toNat) ?_ ⟨0, rfl, by omega, by simp [dq]⟩
    rintro X x y ⟨i, rfl, hi, rfl⟩ hX
    have hq := dq_len (v.S.take i)
    rw [List.length_take] at hq
    simp only [ref06_Show_L3i]
    have kS : (v6 v).S = v.S := rfl
    rw [kS]
    refine ⟨fun c => ?_, fun c => ?_⟩
    · have c' : (i : Int) < v.S.length := by simpa using c
      have hlt : i < v.S.length := by omega
      have w1 : IntKind.i64.wrap ((i : Int) + 1) = (i : Int) + 1 := wrap64 (by omega) (by omega)
      have e1 : List.take (((i : Int) + 1).toNat - (i : Int).toNat) (List.drop (i : Int).toNat v.S) = [v.S[i]] := by
        have : ((i : Int) + 1).toNat - (i : Int).toNat = 1 := by omega
        rw [this, Int.toNat_natCast, List.drop_eq_getElem_cons hlt]; rfl
      rw [w1, e1]
      have e2 : v.S.take (i + 1) = v.S.take i ++ [v.S[i]] := List.take_succ_eq_append_getElem hlt
      have hb : bAt v.S (i : Int) = (v.S[i].toNat : Int) := bAt_nat hlt
      refine ⟨⟨by omega, by omega, by omega⟩, by simp; omega, ⟨by omega, c'⟩, fun d => ⟨by simp; omega, ?_⟩, fun d => ?_⟩
      · have d : v.S[i] = 39 := by
          have d0 : (v.S[i].toNat : Int) = 39 := by rw [← hb]; simpa using d
          have : v.S[i].toNat = (39 : UInt8).toNat := by show _ = 39; omega
          exact UInt8.toNat_inj.1 this
        refine hX _ _ ⟨i + 1, by omega, by omega, ?_⟩ (by omega)
        rw [e2, dq_app, d]; simp [dq]
      · have d : ¬ v.S[i] = 39 := by
          intro e
          have d0 : ¬ (v.S[i].toNat : Int) = 39 := by rw [← hb]; simpa using d
          rw [e] at d0; exact d0 rfl
        refine hX _ _ ⟨i + 1, by omega, by omega, ?_⟩ (by omega)
        rw [e2, dq_app]; simp [dq, d]
    · have c : ¬ (i : Int) < v.S.length := by simpa using c
      refine ⟨by simp; omega, ?_⟩
      rw [hsh, List.take_of_length_le (by omega)]
  have fin : ∀ b : Bool, (b = true → (v.Kind == 1 && v.N == 1) = true) → (b = false → (v.Kind == 1 && v.N == 1) = false) → (!sGood v || v.Kind == 0) = false → ref06_Show_J2i (v6 v) (sShow v) b := by
    intro b h1 h2 hk
    simp only [ref06_Show_J2i]
    have hg : sGood v = true := by
      cases h : sGood v with
      | true => rfl
      | false => rw [h] at hk; simp at hk
    have hq : (v.Kind == 1 && v.N == 1) = eqV v (bV true) := by
      rw [Bool.eq_iff_iff, eqV_iff]
      unfold sGood at hg
      constructor
      · intro h
        have h : v.Kind = 1 ∧ v.N = 1 := by simpa using h
        rw [if_neg (by omega), if_pos h.1] at hg
        have : v.S = [] := by simp at hg; exact hg.2
        cases v; simp only at h this; obtain ⟨rfl, rfl⟩ := h; subst this; rfl
      · rintro rfl; rfl
    refine ⟨fun e => ?_, fun e => ⟨fun c1 => ?_, fun c1 => ⟨fun c2 => ⟨_, dg, ?_⟩, fun c2 => txt ?_⟩⟩⟩
    · unfold sShow; rw [hk, if_neg (by simp), ← hq, if_pos (h1 e)]
    · have c1 : v.Kind = 1 := by simpa [v6] using c1
      unfold sShow; rw [hk, if_neg (by simp), ← hq, h2 e, if_neg (by simp), if_pos c1]
    · have c1 : ¬ v.Kind = 1 := by simpa [v6] using c1
      have c2 : v.Kind = 2 := by simpa [v6] using c2
      unfold sShow; rw [hk, if_neg (by simp), ← hq, h2 e, if_neg (by simp), if_neg c1, if_pos c2]
    · have c1 : ¬ v.Kind = 1 := by simpa [v6] using c1
      have c2 : ¬ v.Kind = 2 := by simpa [v6] using c2
      unfold sShow; rw [hk, if_neg (by simp), ← hq, h2 e, if_neg (by simp), if_neg c1, if_neg c2, replAll]
  have null : (!sGood v || v.Kind == 0) = true → ([78, 85, 76, 76] : Str) = sShow v := fun h => by unfold sShow; rw [if_pos h]
  have tail : ∀ b : Bool, b = (!sGood v || v.Kind == 0) → cnd b (([78, 85, 76, 76] : Str) = sShow v) (cnd ((v6 v).Kind == (1 : Int)) (ref06_Show_J2i (v6 v) (sShow v) ((v6 v).N == (1 : Int))) (ref06_Show_J2i (v6 v) (sShow v) false)) := by
    intro b hb
    refine ⟨fun e => null (by rw [← hb, e]), fun e => ⟨fun c => ?_, fun c => ?_⟩⟩
    · have c : (v.Kind == 1) = true := c
      exact fin _ (fun q => by rw [c]; exact q) (fun q => by rw [c]; exact q) (by rw [← hb, e])
    · have c : (v.Kind == 1) = false := c
      exact fin false (fun q => (by cases q)) (fun _ => by rw [c]; rfl) (by rw [← hb, e])
  refine ⟨_, g, fun c => ?_, fun c => ?_⟩
  · exact tail true (by rw [c]; rfl)
  · refine tail _ ?_
    have : sGood v = true := by simpa using c
    rw [this]; rfl
end Go.Proofs.YtkmehmgocelkiaaDoor
