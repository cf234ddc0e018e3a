import Derived.Test.YteoohihaibgplaaChQb
namespace Go.Proofs.Yteoohihaibgplaa
open Go.AV Go.RowKit

theorem pMay {m : E6} (h : WF m) : ∀ w, ∃ b, ref15_may_o m w b ∧ (b = true → OkE m) := by
  induction h with
  | mk m h hn hs ih =>
    intro w
    have key : ∀ n i : Nat, i + n = m.L.length → (∀ j y, j < i → m.L[j]? = some y → OkE y) → ∃ b, (b = true → OkE m) ∧ ∀ Xr : E6 → Bool → Bool → Prop, (∀ a0 a1 r0, ref15_may_B Xr a0 a1 r0 → Xr a0 a1 r0) → ∀ X1 : Int → Prop, (∀ x1, ref15_may_L1i Xr m w b X1 x1 → X1 x1) → X1 (i : Int) := by
      intro n
      induction n with
      | zero =>
        intro i hi hall
        have hi : i = m.L.length := by omega
        subst hi
        obtain ⟨b, h1, h2⟩ := tailMay m w hn h (fun y hy => by
          obtain ⟨j, hj, e⟩ := List.mem_iff_getElem.1 hy
          exact hall j y hj (by rw [List.getElem?_eq_getElem hj, e]))
        exact ⟨b, h1, fun Xr _ X1 hX => hX _ (h2 Xr X1)⟩
      | succ n ihn =>
        intro i hi hall
        have hlt : i < m.L.length := by omega
        have hm : m.L[i] ∈ m.L := List.getElem_mem hlt
        obtain ⟨bt, t1, t2⟩ := ih _ hm (w || m.Kind == 8)
        have hw : ∀ Xr : E6 → Bool → Bool → Prop, (∀ a0 a1 r0, ref15_may_B Xr a0 a1 r0 → Xr a0 a1 r0) → (w = true → Xr m.L[i] true bt) ∧ (w = false → Xr m.L[i] (m.Kind == 8) bt) := by
          intro Xr hXr
          have := t1 Xr hXr
          cases w <;> simpa using this
        cases hbt : bt with
        | false =>
          subst hbt
          refine ⟨false, fun c => (by cases c), fun Xr hXr X1 hX => hX _ fun _ => ⟨fun _ => ⟨by omega, by omega, m.L[i], by simp [hlt], ?_⟩, fun c => (by simp at c; omega)⟩⟩
          rw [e_ref]
          exact ⟨fun c => ⟨_, (hw Xr hXr).1 c, ⟨fun _ => rfl, fun c => (by cases c)⟩⟩, fun c => ⟨_, (hw Xr hXr).2 c, ⟨fun _ => rfl, fun c => (by cases c)⟩⟩⟩
        | true =>
          subst hbt
          obtain ⟨b, b1, b2⟩ := ihn (i + 1) (by omega) (fun j y hj hy => by
            by_cases e : j = i
            · subst e; rw [List.getElem?_eq_getElem hlt] at hy; cases hy; exact t2 rfl
            · exact hall j y (by omega) hy)
          refine ⟨b, b1, fun Xr hXr X1 hX => hX _ fun _ => ⟨fun _ => ⟨by omega, by omega, m.L[i], by simp [hlt], ?_⟩, fun c => (by simp at c; omega)⟩⟩
          have nx : X1 (IntKind.i64.wrap ((i : Int) + 1)) := by
            rw [wrap64 (by omega) (by omega)]
            exact_mod_cast b2 Xr hXr X1 hX
          rw [e_ref]
          exact ⟨fun c => ⟨_, (hw Xr hXr).1 c, ⟨fun c => (by cases c), fun _ => nx⟩⟩, fun c => ⟨_, (hw Xr hXr).2 c, ⟨fun c => (by cases c), fun _ => nx⟩⟩⟩
    obtain ⟨b, b1, b2⟩ := key m.L.length 0 (by omega) (fun j y hj => by omega)
    refine ⟨b, fun Xr hXr => hXr _ _ _ (ref15_may_Bm _ _ _ _ ?_), b1⟩
    intro X1 hX
    exact b2 Xr hXr X1 hX
theorem pGood {m : E6} (h : WF m) (hd : dep m ≤ 1000) : ∃ b, ref15_Good_o m b ∧ (b = true → OkE m ∧ dep m ≤ 20) := by
  have h1 := pDepth h hd
  by_cases h20 : (dep m : Int) ≤ 20
  · obtain ⟨b, b1, b2⟩ := pMay h false
    refine ⟨b, ⟨_, by rw [e_ref]; exact h1, fun _ => ⟨b, by rw [e_ref]; exact b1, rfl⟩, fun c => absurd h20 (by simpa using c)⟩, fun c => ⟨b2 c, by omega⟩⟩
  · exact ⟨false, ⟨_, by rw [e_ref]; exact h1, fun c => absurd (by simpa using c) h20, fun _ => rfl⟩, fun c => (by cases c)⟩
mutual
def told : E6 → X
  | .mk k o v t n L => .mk k o ⟨v.Kind, v.N, v.S⟩ t n (tolds L)
def tolds : List E6 → List X
  | [] => []
  | x :: r => told x :: tolds r
end
theorem tolds_map : ∀ l : List E6, tolds l = l.map told
  | [] => rfl
  | x :: r => by simp [tolds, tolds_map r]
theorem told_eq (m : E6) : told m = .mk m.Kind m.Op ⟨m.V.Kind, m.V.N, m.V.S⟩ m.Table m.Name (m.L.map told) := by
  cases m; simp only [told, tolds_map]; rfl
theorem pTold {m : E6} (h : WF m) : law17_Told_o m (told m) := by
  induction h with
  | mk m h hn hs ih =>
    intro Xr hXr
    apply hXr
    apply law17_Told_Bm
    refine lp2 (fun (i : Int) out => 0 ≤ i ∧ i ≤ m.L.length ∧ out = (m.L.map told).take i.toNat) (fun (i : Int) _ => m.L.length - i.toNat) ?_ ⟨by omega, by omega, rfl⟩
    intro X1 i out ⟨h0, h1, h2⟩ hX hlen
    subst h2
    refine ⟨fun hlt => ?_, fun hge => ?_⟩
    · have hlt : i < m.L.length := by simpa using hlt
      have hi : i.toNat < m.L.length := by omega
      have hi' : i.toNat < (m.L.map told).length := by simpa using hi
      refine ⟨h0, hlt, m.L[i.toNat], by simp [hi], told m.L[i.toNat], ?_, by simp; omega, ?_⟩
      · rw [e_ref]; exact ih _ (List.getElem_mem hi) Xr hXr
      · rw [wrap64 (by omega) (by omega), e_expr]
        refine hX _ _ ⟨by omega, by omega, ?_⟩ (by omega)
        have e1 : (i + 1).toNat = i.toNat + 1 := by omega
        rw [e1, List.take_succ_eq_append_getElem hi', List.getElem_map]
    · have hge : ¬ i < m.L.length := by simpa using hge
      have : (m.L.map told).take i.toNat = m.L.map told := List.take_of_length_le (by simp; omega)
      rw [this, told_eq]
/-- aggregates of an expression, out of those of its parts -/
theorem pAgg_step {m : E6} {ls : List (List E6)} (h3 : m.L.length ≤ 2) (hk : ls.length = m.L.length) (hs : ∀ (i : Nat) y l, m.L[i]? = some y → ls[i]? = some l → ref20_Aggregates_o y l ∧ l.length ≤ 300000000) : ref20_Aggregates_o m ((if m.Kind = 8 then [m] else []) ++ ls.flatten) := by
  intro Xr hXr
  apply hXr
  apply ref20_Aggregates_Bm
  have main : ∀ own : List E6, own.length ≤ 1 → ref20_Aggregates_J1i Xr m (own ++ ls.flatten) own := by
    intro own ho
    refine lp2 (fun (i : Int) out => 0 ≤ i ∧ i ≤ m.L.length ∧ out = own ++ (ls.take i.toNat).flatten ∧ out.length ≤ 1 + i.toNat * 300000000) (fun (i : Int) _ => m.L.length - i.toNat) ?_ ⟨by omega, by omega, by simp, by simp; omega⟩
    intro X1 i out ⟨h0, h1, h2, h4⟩ hX hlen
    refine ⟨fun hlt => ?_, fun hge => ?_⟩
    · have hlt : i < m.L.length := by simpa using hlt
      have hi : i.toNat < m.L.length := by omega
      have hi' : i.toNat < ls.length := by omega
      obtain ⟨q1, q2⟩ := hs i.toNat _ _ (List.getElem?_eq_getElem hi) (List.getElem?_eq_getElem hi')
      refine ⟨h0, hlt, m.L[i.toNat], by simp [hi], ls[i.toNat], ?_, by omega, by omega, ?_⟩
      · rw [e_ref]; exact q1 Xr hXr
      · rw [wrap64 (by omega) (by omega)]
        have e1 : (i + 1).toNat = i.toNat + 1 := by omega
        refine hX _ _ ⟨by omega, by omega, ?_, ?_⟩ (by omega)
        · rw [e1, List.take_succ_eq_append_getElem hi', List.flatten_append, h2]; simp
        · rw [List.length_append]; omega
    · have hge : ¬ i < m.L.length := by simpa using hge
      have : ls.take i.toNat = ls := List.take_of_length_le (by omega)
      rw [h2, this]
  refine ⟨fun c => ?_, fun c => ?_⟩
  · have c : m.Kind = 8 := by simpa using c
    rw [if_pos c, e_ref]; exact main [m] (by simp)
  · have c : m.Kind ≠ 8 := by simpa using c
    rw [if_neg c]; exact main [] (by simp)
theorem pAgg {m : E6} (h : OkE m) : dep m ≤ 20 → ∃ l, ref20_Aggregates_o m l ∧ l.length < 2 ^ dep m ∧ (l = [] → Ok (told m)) := by
  have p20 : ∀ n, n ≤ 20 → 2 ^ n ≤ 1048576 := fun n hn => by
    have : 2 ^ n ≤ 2 ^ 20 := Nat.pow_le_pow_right (by omega) hn
    simpa using this
  induction h with
  | lit m h hl hv =>
    intro hd
    refine ⟨_, pAgg_step (ls := []) (by simp [hl]) (by simp [hl]) (fun i y l a b => by simp at b), by simp [h]; exact Nat.pos_of_ne_zero (by simp), fun _ => .lit _ (by rw [told_eq]; exact h) (by rw [told_eq, hl]; rfl) (by rw [told_eq]; exact hv)⟩
  | col m h hl =>
    intro hd
    refine ⟨_, pAgg_step (ls := []) (by simp [hl]) (by simp [hl]) (fun i y l a b => by simp at b), by simp [h]; exact Nat.pos_of_ne_zero (by simp), fun _ => .col _ (by rw [told_eq]; exact h) (by rw [told_eq, hl]; rfl)⟩
  | bin m a b h hl h1 h14 _ _ iha ihb =>
    intro hd
    have ea : dep a < dep m := by rw [dep_eq m, hl]; simp only [deps]; omega
    have eb : dep b < dep m := by rw [dep_eq m, hl]; simp only [deps]; omega
    obtain ⟨la, a1, a2, a3⟩ := iha (by omega)
    obtain ⟨lb, b1, b2, b3⟩ := ihb (by omega)
    have pa := p20 (dep a) (by omega)
    have pb := p20 (dep b) (by omega)
    refine ⟨_, pAgg_step (ls := [la, lb]) (by simp [hl]) (by simp [hl]) (fun i y l p q => ?_), ?_, fun c => ?_⟩
    · rw [hl] at p
      match i with
      | 0 => simp at p q; subst p; subst q; exact ⟨a1, by omega⟩
      | 1 => simp at p q; subst p; subst q; exact ⟨b1, by omega⟩
      | i + 2 => simp at p
    · have q1 : 2 ^ dep a ≤ 2 ^ (dep m - 1) := Nat.pow_le_pow_right (by omega) (by omega)
      have q2 : 2 ^ dep b ≤ 2 ^ (dep m - 1) := Nat.pow_le_pow_right (by omega) (by omega)
      have q3 : 2 ^ dep m = 2 * 2 ^ (dep m - 1) := by
        have : dep m = (dep m - 1) + 1 := by omega
        rw [this, Nat.pow_succ]; simp; omega
      simp [h]; omega
    · simp [h] at c
      exact .bin _ (told a) (told b) (by rw [told_eq]; exact h) (by rw [told_eq, hl]; rfl) (by rw [told_eq]; exact h1) (by rw [told_eq]; exact h14) (a3 c.1) (b3 c.2)
  | un m a h h' hl _ iha =>
    intro hd
    have ea : dep a < dep m := by rw [dep_eq m, hl]; simp only [deps]; omega
    obtain ⟨la, a1, a2, a3⟩ := iha (by omega)
    have pa := p20 (dep a) (by omega)
    have k8 : m.Kind ≠ 8 := by omega
    refine ⟨_, pAgg_step (ls := [la]) (by simp [hl]) (by simp [hl]) (fun i y l p q => ?_), ?_, fun c => ?_⟩
    · rw [hl] at p
      match i with
      | 0 => simp at p q; subst p; subst q; exact ⟨a1, by omega⟩
      | i + 1 => simp at p
    · have q1 : 2 ^ dep a ≤ 2 ^ dep m := Nat.pow_le_pow_right (by omega) (by omega)
      simp [k8]; omega
    · simp [k8] at c
      exact .un _ (told a) (by rw [told_eq]; exact h) (by rw [told_eq]; exact h') (by rw [told_eq, hl]; rfl) (a3 c)
  | agg0 m h hl =>
    intro hd
    refine ⟨_, pAgg_step (ls := []) (by simp [hl]) (by simp [hl]) (fun i y l a b => by simp at b), ?_, fun c => by simp [h] at c⟩
    have : 1 < 2 ^ dep m := Nat.one_lt_two_pow (by rw [dep_eq]; omega)
    simp [h]; rw [dep_eq]; omega
  | agg1 m a h hl _ iha =>
    intro hd
    have ea : dep a < dep m := by rw [dep_eq m, hl]; simp only [deps]; omega
    obtain ⟨la, a1, a2, a3⟩ := iha (by omega)
    have pa := p20 (dep a) (by omega)
    refine ⟨_, pAgg_step (ls := [la]) (by simp [hl]) (by simp [hl]) (fun i y l p q => ?_), ?_, fun c => by simp [h] at c⟩
    · rw [hl] at p
      match i with
      | 0 => simp at p q; subst p; subst q; exact ⟨a1, by omega⟩
      | i + 1 => simp at p
    · have q1 : 2 ^ dep a ≤ 2 ^ (dep m - 1) := Nat.pow_le_pow_right (by omega) (by omega)
      have q3 : 2 ^ dep m = 2 * 2 ^ (dep m - 1) := by
        have : dep m = (dep m - 1) + 1 := by omega
        rw [this, Nat.pow_succ]; simp; omega
      have q4 : 0 < 2 ^ (dep m - 1) := Nat.pos_of_ne_zero (by simp)
      simp [h]; omega
end Go.Proofs.Yteoohihaibgplaa
