import Derived.Test.YteoohihaibgplaaDoorEpC
namespace Go.Proofs.YteoohihaibgplaaDoor
open Go.AV Go.RowKit

/-! ### how they are shown -/
def ops : List Str := [[], [61], [60, 62], [60], [60, 61], [62], [62, 61], [43], [45], [42], [47], [37], [124, 124], [65, 78, 68], [79, 82]]
def ags : List Str := [[], [67, 79, 85, 78, 84], [83, 85, 77], [77, 73, 78], [77, 65, 88]]
inductive Sh : X → Str → Prop
  | lit (v : V) (hv : good v) (hn : v.Kind = 2 → 0 ≤ v.N) : Sh (.mk 1 0 v [] [] []) (sShow v)
  | col1 (n : Str) (hn : sLex n = true) : Sh (.mk 2 0 D0 [] n []) n
  | col2 (t n : Str) (hn : sLex n = true) (ht : sLex t = true) : Sh (.mk 2 0 D0 t n []) (t ++ [46] ++ n)
  | bin (op : Int) (o : Str) (a b : X) (s t : Str) (h1 : 1 ≤ op) (h2 : op ≤ 14) (ho : ops[op.toNat]? = some o) (ha : Sh a s) (hb : Sh b t) : Sh (.mk 3 op D0 [] [] [a, b]) ([40] ++ s ++ [32] ++ o ++ [32] ++ t ++ [41])
  | no (a : X) (s : Str) (ha : Sh a s) : Sh (.mk 4 0 D0 [] [] [a]) ([40, 78, 79, 84, 32] ++ s ++ [41])
  | neg (a : X) (s : Str) (ha : Sh a s) : Sh (.mk 5 0 D0 [] [] [a]) ([40, 45, 32] ++ s ++ [41])
  | isn (a : X) (s : Str) (ha : Sh a s) : Sh (.mk 6 0 D0 [] [] [a]) ([40] ++ s ++ [32, 73, 83, 32, 78, 85, 76, 76, 41])
  | ntn (a : X) (s : Str) (ha : Sh a s) : Sh (.mk 7 0 D0 [] [] [a]) ([40] ++ s ++ [32, 73, 83, 32, 78, 79, 84, 32, 78, 85, 76, 76, 41])
  | cnt : Sh (.mk 8 1 D0 [] [] []) [67, 79, 85, 78, 84, 40, 42, 41]
  | agg (op : Int) (o : Str) (a : X) (s : Str) (h1 : 1 ≤ op) (h2 : op ≤ 4) (ho : ags[op.toNat]? = some o) (ha : Sh a s) : Sh (.mk 8 op D0 [] [] [a]) (o ++ [40] ++ s ++ [41])
theorem good_sGood {v : V} (h : good v) : sGood v = true := by
  unfold good at h
  obtain ⟨k, n, s⟩ := v
  simp only at h
  rcases h with ⟨rfl, rfl, rfl⟩ | ⟨rfl, h, rfl⟩ | ⟨rfl, h, rfl⟩ | ⟨rfl, rfl, h⟩
  · rfl
  · rcases h with rfl | rfl <;> rfl
  · rfl
  · simp [sGood]; omega
theorem sShow_null : sShow D0 = [78, 85, 76, 76] := rfl
theorem sShow_true : sShow (bV true) = [84, 82, 85, 69] := rfl
theorem sShow_false : sShow (bV false) = [70, 65, 76, 83, 69] := rfl
theorem sShow_int (n : Int) : sShow ⟨2, n, []⟩ = Go.Lib.itoa n := by
  unfold sShow
  have g : sGood ⟨2, n, []⟩ = true := rfl
  have e : eqV ⟨2, n, []⟩ (bV true) = false := rfl
  rw [g, e]; rfl
theorem sShow_text {s : Str} (h : s.length ≤ 64) : sShow ⟨3, 0, s⟩ = [39] ++ dq s ++ [39] := by
  unfold sShow
  have g : sGood ⟨3, 0, s⟩ = true := by simp [sGood]; omega
  have e : eqV ⟨3, 0, s⟩ (bV true) = false := rfl
  rw [g, e]
  show [39] ++ Go.Lib.replaceAll s [39] [39, 39] ++ [39] = _
  rw [replAll]
theorem good_cases {v : V} (h : good v) : v = D0 ∨ v = bV true ∨ v = bV false ∨ (∃ n, Rg n ∧ v = ⟨2, n, []⟩) ∨ ∃ s, s.length ≤ 64 ∧ v = ⟨3, 0, s⟩ := by
  unfold good at h
  obtain ⟨k, n, s⟩ := v
  simp only at h
  rcases h with ⟨rfl, rfl, rfl⟩ | ⟨rfl, h, rfl⟩ | ⟨rfl, h, rfl⟩ | ⟨rfl, rfl, h⟩
  · exact .inl rfl
  · rcases h with rfl | rfl
    · exact .inr (.inr (.inl rfl))
    · exact .inr (.inl rfl)
  · exact .inr (.inr (.inr (.inl ⟨n, h, rfl⟩)))
  · exact .inr (.inr (.inr (.inr ⟨s, h, rfl⟩)))
theorem sShow_len {v : V} (h : good v) : (sShow v).length ≤ 130 := by
  rcases good_cases h with rfl | rfl | rfl | ⟨n, hn, rfl⟩ | ⟨s, hs, rfl⟩
  · rw [sShow_null]; simp
  · rw [sShow_true]; simp
  · rw [sShow_false]; simp
  · rw [sShow_int]; have := Go.Lib.itoa_length_le n hn.1 hn.2; omega
  · rw [sShow_text hs]; have := dq_len s; simp; omega
theorem pShowV {v : V} (h : good v) : value_Value_Show_o v (sShow v) := by
  refine pShow (goodN h) ?_ (by have := goodS h; omega)
  have := goodS h
  have := dq_len v.S
  rw [replAll]; omega
theorem sLex_len {s : Str} (h : sLex s = true) : s.length ≤ 16 := by
  cases s with
  | nil => cases h
  | cons c r =>
    simp only [sLex, Bool.and_eq_true, decide_eq_true_eq] at h
    exact h.1
theorem ops_len {k : Nat} {o : Str} (h : ops[k]? = some o) : o.length ≤ 3 := by
  have hm := List.mem_of_getElem? h
  simp only [ops, List.mem_cons, List.not_mem_nil, or_false] at hm
  rcases hm with rfl | rfl | rfl | rfl | rfl | rfl | rfl | rfl | rfl | rfl | rfl | rfl | rfl | rfl | rfl <;> decide
theorem ags_len {k : Nat} {o : Str} (h : ags[k]? = some o) : o.length ≤ 5 := by
  have hm := List.mem_of_getElem? h
  simp only [ags, List.mem_cons, List.not_mem_nil, or_false] at hm
  rcases hm with rfl | rfl | rfl | rfl | rfl <;> decide
theorem pw {n : Nat} : 0 < 2 ^ n := Nat.pow_pos (by omega)
theorem Sh.len {e : X} {s : Str} (h : Sh e s) : s.length + 20 ≤ 150 * 2 ^ dX e := by
  have up : ∀ (a : X) (k op : Int) (v : V) (t n : Str), dX (.mk k op v t n [a]) = dX a + 1 := fun a k op v t n => by
    rw [dX_eq]; show 1 + dXs [a] = _; simp [dXs]; omega
  have sm : ∀ (k op : Int) (v : V) (t n : Str), dX (.mk k op v t n []) = 1 := fun k op v t n => by
    rw [dX_eq]; show 1 + dXs [] = _; simp [dXs]
  induction h with
  | lit v hv hn => rw [sm]; have := sShow_len hv; omega
  | col1 n hn => rw [sm]; have := sLex_len hn; omega
  | col2 t n hn ht => rw [sm]; have := sLex_len hn; have := sLex_len ht; simp; omega
  | bin op o a b s t h1 h2 ho ha hb i1 i2 =>
    have hd : dX (.mk 3 op D0 [] [] [a, b]) = max (dX a) (dX b) + 1 := by rw [dX_eq]; show 1 + dXs [a, b] = _; simp [dXs]; omega
    rw [hd, Nat.pow_succ]
    have := ops_len ho
    have p1 : 2 ^ dX a ≤ 2 ^ (max (dX a) (dX b)) := Nat.pow_le_pow_right (by omega) (by omega)
    have p2 : 2 ^ dX b ≤ 2 ^ (max (dX a) (dX b)) := Nat.pow_le_pow_right (by omega) (by omega)
    simp; omega
  | no a s ha ih => rw [up, Nat.pow_succ]; simp; have := pw (n := dX a); omega
  | neg a s ha ih => rw [up, Nat.pow_succ]; simp; have := pw (n := dX a); omega
  | isn a s ha ih => rw [up, Nat.pow_succ]; simp; have := pw (n := dX a); omega
  | ntn a s ha ih => rw [up, Nat.pow_succ]; simp; have := pw (n := dX a); omega
  | cnt => rw [sm]; simp
  | agg op o a s h1 h2 ho ha ih => rw [up, Nat.pow_succ]; have := ags_len ho; have := pw (n := dX a); simp; omega
theorem Sh.of {e : X} (h : WX e) : ∀ w, gX w e = true → ∃ s, Sh e s := by
  induction h with
  | mk e h hn hs ih =>
    intro w hg
    rw [gX_eq, gXs_all] at hg
    simp only [Bool.and_eq_true] at hg
    obtain ⟨h1, h2, h3, _, h5⟩ := hg
    have kids : ∀ y ∈ e.L, ∃ s, Sh y s := fun y hy => ih y hy _ (List.all_eq_true.1 h5 y hy)
    clear ih h5 hs
    obtain ⟨k, op, v, t, n, l⟩ := e
    replace h1 : (if k = 1 ∨ k = 2 then l.length == 0 else if k = 3 then l.length == 2 else if k = 8 then l.length == 1 || (op == 1 && l.length == 0) else decide (4 ≤ k) && (decide (k ≤ 7) && l.length == 1)) = true := h1
    replace h2 : (if k = 1 then op == 0 && (t == [] && n == []) else if k = 2 then op == 0 && eqV v D0 else if k = 3 ∨ k = 8 then eqV v D0 && (t == [] && n == []) else op == 0 && (eqV v D0 && (t == [] && n == []))) = true := h2
    replace h3 : (if k = 1 then sGood v && (!(v.Kind == 2) || decide (0 ≤ v.N)) else if k = 2 then sLex n && (t == [] || sLex t) else if k = 3 then decide (1 ≤ op) && decide (op ≤ 14) else if k = 8 then decide (1 ≤ op) && decide (op ≤ 4) else true) = true := h3
    replace hn : Rg v.N := hn
    replace kids : ∀ y ∈ l, ∃ s, Sh y s := kids
    clear h
    by_cases k1 : k = 1
    · subst k1
      rw [if_pos (.inl rfl)] at h1
      rw [if_pos rfl] at h2 h3
      simp only [beq_iff_eq, Bool.and_eq_true, Bool.or_eq_true, Bool.not_eq_true', beq_eq_false_iff_ne, ne_eq, decide_eq_true_eq] at h1 h2 h3
      obtain rfl := List.eq_nil_of_length_eq_zero h1
      obtain ⟨rfl, rfl, rfl⟩ := h2
      exact ⟨_, .lit v (sGood_good hn h3.1) (fun q => by rcases h3.2 with x | x; exact absurd q x; exact x)⟩
    by_cases k2 : k = 2
    · subst k2
      rw [if_pos (.inr rfl)] at h1
      rw [if_neg (by decide), if_pos rfl] at h2 h3
      simp only [beq_iff_eq, Bool.and_eq_true, Bool.or_eq_true] at h1 h2 h3
      obtain rfl := List.eq_nil_of_length_eq_zero h1
      obtain ⟨rfl, hv⟩ := h2
      obtain rfl := eqV_iff.1 hv
      rcases h3.2 with rfl | ht
      · exact ⟨_, .col1 n h3.1⟩
      · exact ⟨_, .col2 t n h3.1 ht⟩
    rw [if_neg (fun q => by rcases q with q | q; exact k1 q; exact k2 q)] at h1
    rw [if_neg k1, if_neg k2] at h2 h3
    by_cases k3 : k = 3
    · subst k3
      rw [if_pos rfl] at h1 h3
      rw [if_pos (.inl rfl)] at h2
      simp only [beq_iff_eq, Bool.and_eq_true, decide_eq_true_eq] at h1 h2 h3
      obtain ⟨hv, rfl, rfl⟩ := h2
      obtain rfl := eqV_iff.1 hv
      match l, h1 with
      | [a, b], _ =>
        obtain ⟨s, hs⟩ := kids a (by simp)
        obtain ⟨t, ht⟩ := kids b (by simp)
        have hlt : op.toNat < ops.length := by show _ < 15; omega
        exact ⟨_, .bin op _ a b s t h3.1 h3.2 (List.getElem?_eq_getElem hlt) hs ht⟩
    rw [if_neg k3] at h1 h3
    by_cases k8 : k = 8
    · subst k8
      rw [if_pos rfl] at h1 h3
      rw [if_pos (.inr rfl)] at h2
      simp only [beq_iff_eq, Bool.and_eq_true, Bool.or_eq_true, decide_eq_true_eq] at h1 h2 h3
      obtain ⟨hv, rfl, rfl⟩ := h2
      obtain rfl := eqV_iff.1 hv
      rcases h1 with h1 | ⟨rfl, h1⟩
      · match l, h1 with
        | [a], _ =>
          obtain ⟨s, hs⟩ := kids a (by simp)
          have hlt : op.toNat < ags.length := by show _ < 5; omega
          exact ⟨_, .agg op _ a s h3.1 h3.2 (List.getElem?_eq_getElem hlt) hs⟩
      · obtain rfl := List.eq_nil_of_length_eq_zero h1
        exact ⟨_, .cnt⟩
    rw [if_neg k8] at h1
    rw [if_neg (fun q => by rcases q with q | q; exact k3 q; exact k8 q)] at h2
    simp only [beq_iff_eq, Bool.and_eq_true, decide_eq_true_eq] at h1 h2
    obtain ⟨rfl, hv, rfl, rfl⟩ := h2
    obtain rfl := eqV_iff.1 hv
    obtain ⟨h4, h7, h1⟩ := h1
    match l, h1 with
    | [a], _ =>
      obtain ⟨s, hs⟩ := kids a (by simp)
      have : k = 4 ∨ k = 5 ∨ k = 6 ∨ k = 7 := by omega
      rcases this with rfl | rfl | rfl | rfl
      · exact ⟨_, .no a s hs⟩
      · exact ⟨_, .neg a s hs⟩
      · exact ⟨_, .isn a s hs⟩
      · exact ⟨_, .ntn a s hs⟩
end Go.Proofs.YteoohihaibgplaaDoor
