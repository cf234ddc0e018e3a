import Derived.Test.YteoohihaibgplaaChQe
namespace Go.Proofs.Yteoohihaibgplaa
open Go.AV Go.RowKit
theorem doText (a b : Str) (h : a.length + b.length ≤ 64) : value_Do_o 12 ⟨3, 0, a⟩ ⟨3, 0, b⟩ ⟨3, 0, a ++ b⟩ 0 := by
  apply value_Do_i
  have hf : value_fit_o 12 (⟨3, 0, a⟩ : V) ⟨3, 0, b⟩ true := by
    have := pFit 12 (⟨3, 0, a⟩ : V) ⟨3, 0, b⟩
    exact this
  have hw : IntKind.i64.wrap ((a.length : Int) + (b.length : Int)) = (a.length : Int) + (b.length : Int) := wrap64 (by omega) (by omega)
  have na := pNone (⟨3, 0, a⟩ : V)
  have nb := pNone (⟨3, 0, b⟩ : V)
  refine ⟨fun e => (by simp at e), fun _ => ⟨fun e => (by simp at e), fun _ => ⟨_, hf, ⟨fun e => (by cases e), fun _ => ⟨fun e => (by simp at e), fun _ => ⟨_, na, ⟨fun e => (by simp at e), fun _ => ⟨_, nb, ⟨fun e => (by simp at e), fun _ => ⟨fun e => (by simp at e), fun _ => ⟨fun _ => ⟨fun e => ?_, fun _ => ⟨by show a.length + b.length ≤ _; omega, _, pOfText _, rfl, rfl⟩⟩, fun e => (by simp at e)⟩⟩⟩⟩⟩⟩⟩⟩⟩⟩⟩
  have e : 64 < IntKind.i64.wrap ((a.length : Int) + (b.length : Int)) := by simpa using e
  rw [hw] at e; omega
theorem pSpeaks : law20_speaks_o true := by
  apply law20_speaks_i
  let l : List Fd := [⟨[116], [97], 3⟩]
  let ca : X := .mk 2 0 ⟨0, 0, []⟩ [] [97] []
  have hcol : ∀ ag, check_Type_o ca l ag 3 0 := fun ag => tCol (x := ca) (l := l) rfl rfl
  have hfind : sFind l ca = (0, 0) := rfl
  have hlit : ∀ v : V, ∀ ag, check_Type_o (.mk 1 0 v [] [] []) l ag v.Kind 0 := fun v ag => tLit (x := .mk 1 0 v [] [] []) rfl rfl
  have he1 : check_Eval_o ca l [⟨3, 0, [121]⟩] ⟨3, 0, [121]⟩ 0 := eCol (x := ca) rfl rfl rfl rfl
  have he2 : check_Eval_o (.mk 1 0 ⟨3, 0, [120]⟩ [] [] []) l [⟨3, 0, [121]⟩] ⟨3, 0, [120]⟩ 0 := eLit (x := .mk 1 0 ⟨3, 0, [120]⟩ [] [] []) rfl rfl
  refine ⟨_, pOfInt 1, 0, 5, tBin (x := .mk 3 7 ⟨0, 0, []⟩ [] [] [ca, .mk 1 0 ⟨2, 1, []⟩ [] [] []]) rfl rfl (hcol false) (hlit ⟨2, 1, []⟩ false), _, pOfText _, by omega, by simp, _, rfl, 3, 0, tBin (x := .mk 3 12 ⟨0, 0, []⟩ [] [] [ca, .mk 1 0 ⟨3, 0, [120]⟩ [] [] []]) rfl rfl (hcol false) (hlit ⟨3, 0, [120]⟩ false), _, pOfText _, _, 0, eBin (x := .mk 3 12 ⟨0, 0, []⟩ [] [] [ca, .mk 1 0 ⟨3, 0, [120]⟩ [] [] []]) rfl rfl he1 he2 (doText _ _ (by decide)), ?_⟩
  refine ⟨fun _ => ⟨fun _ => ⟨fun _ => ⟨fun _ => ⟨_, pOfText _, rfl⟩, fun e => (by simp at e)⟩, fun e => (by simp at e)⟩, fun e => (by simp at e)⟩, fun e => (by simp at e)⟩
theorem tw (t : Int) (e : X) (h : t = 4 ∨ t = 5) {l : List Fd} {k : Int} (he : check_Type_o e l false k 0) :
    ∃ k' g, check_Type_o (.mk t 0 ⟨0, 0, []⟩ [] [] [.mk t 0 ⟨0, 0, []⟩ [] [] [e]]) l false k' g ∧ (g = 0 ↔ k = 0 ∨ t = 4 ∧ k = 1 ∨ t = 5 ∧ k = 2) ∧ (g = 0 → k ≠ 0 → k' = k) := by
  have h1 := tUn (x := .mk t 0 ⟨0, 0, []⟩ [] [] [e]) (ag := false) (by show 4 ≤ t; omega) (by show t ≤ 7; omega) rfl he
  have e1 : (T_ref15_Expr.Kind (.mk t 0 ⟨0, 0, []⟩ [] [] [])) = t := rfl
  by_cases hf : (sUn t k).2 = 0
  · have h1' : check_Type_o (.mk t 0 ⟨0, 0, []⟩ [] [] [e]) l false (sUn t k).1 0 := by
      have := h1
      rw [show (sUn (T_expr_Expr.Kind (.mk t 0 ⟨0, 0, []⟩ [] [] [e])) k) = sUn t k from rfl, hf] at this
      exact this
    have h2 := tUn (x := .mk t 0 ⟨0, 0, []⟩ [] [] [.mk t 0 ⟨0, 0, []⟩ [] [] [e]]) (ag := false) (by show 4 ≤ t; omega) (by show t ≤ 7; omega) rfl h1'
    refine ⟨(sUn t (sUn t k).1).1, (sUn t (sUn t k).1).2, h2, ?_, ?_⟩
    · rcases h with rfl | rfl <;> simp [sUn, sUnary] at hf ⊢ <;> grind
    · rcases h with rfl | rfl <;> simp [sUn, sUnary] at hf ⊢ <;> grind
  · have h2 := tUnF (x := .mk t 0 ⟨0, 0, []⟩ [] [] [.mk t 0 ⟨0, 0, []⟩ [] [] [e]]) (ag := false) (by show 4 ≤ t; omega) (by show t ≤ 7; omega) rfl hf h1
    refine ⟨0, (sUn t k).2, h2, ?_, fun c => absurd c hf⟩
    rcases h with rfl | rfl <;> simp [sUn, sUnary] at hf ⊢ <;> grind
theorem tv (t : Int) (e : X) (h : t = 4 ∨ t = 5) {l : List Fd} {row : List V} {k : Int} {v : V} {p : Int} (he : check_Eval_o e l row v p) (hp : p = 0 → has v k) (hk : k = 0 ∨ t = 4 ∧ k = 1 ∨ t = 5 ∧ k = 2) :
    ∃ w q, check_Eval_o (.mk t 0 ⟨0, 0, []⟩ [] [] [.mk t 0 ⟨0, 0, []⟩ [] [] [e]]) l row w q ∧ (p = q ∨ q = 8) ∧ (p = 0 → q = 0 → v = w) := by
  by_cases h0 : p = 0
  · subst h0
    have h1 := eUn (x := .mk t 0 ⟨0, 0, []⟩ [] [] [e]) (by show 4 ≤ t; omega) (by show t ≤ 7; omega) rfl he
    have hv := hp rfl
    rcases h with rfl | rfl
    · obtain ⟨a1, a2, a3, a4⟩ := sNot_has hv (by omega)
      have h1' : check_Eval_o (.mk 4 0 ⟨0, 0, []⟩ [] [] [e]) l row (sNot v).1 0 := by
        have := h1
        rw [show (sEU (T_expr_Expr.Kind (.mk 4 0 ⟨0, 0, []⟩ [] [] [e])) v) = sNot v from rfl, a1] at this
        exact this
      have h2 := eUn (x := .mk 4 0 ⟨0, 0, []⟩ [] [] [.mk 4 0 ⟨0, 0, []⟩ [] [] [e]]) (by show (4 : Int) ≤ 4; omega) (by show (4 : Int) ≤ 7; omega) rfl h1'
      rw [show (sEU (T_expr_Expr.Kind (.mk 4 0 ⟨0, 0, []⟩ [] [] [.mk 4 0 ⟨0, 0, []⟩ [] [] [e]])) (sNot v).1) = sNot (sNot v).1 from rfl, a4] at h2
      exact ⟨v, 0, h2, .inl rfl, fun _ _ => rfl⟩
    · rcases sNeg_has hv (by omega) with a1 | ⟨a1, a2, a3, a4⟩
      · have h1' : check_Eval_o (.mk 5 0 ⟨0, 0, []⟩ [] [] [e]) l row (sNeg v).1 8 := by
          have := h1
          rw [show (sEU (T_expr_Expr.Kind (.mk 5 0 ⟨0, 0, []⟩ [] [] [e])) v) = sNeg v from rfl, a1] at this
          exact this
        exact ⟨_, 8, eUnF (x := .mk 5 0 ⟨0, 0, []⟩ [] [] [.mk 5 0 ⟨0, 0, []⟩ [] [] [e]]) rfl (by omega) h1', .inr rfl, fun _ c => by omega⟩
      · have h1' : check_Eval_o (.mk 5 0 ⟨0, 0, []⟩ [] [] [e]) l row (sNeg v).1 0 := by
          have := h1
          rw [show (sEU (T_expr_Expr.Kind (.mk 5 0 ⟨0, 0, []⟩ [] [] [e])) v) = sNeg v from rfl, a1] at this
          exact this
        have h2 := eUn (x := .mk 5 0 ⟨0, 0, []⟩ [] [] [.mk 5 0 ⟨0, 0, []⟩ [] [] [e]]) (by show (4 : Int) ≤ 5; omega) (by show (5 : Int) ≤ 7; omega) rfl h1'
        rw [show (sEU (T_expr_Expr.Kind (.mk 5 0 ⟨0, 0, []⟩ [] [] [.mk 5 0 ⟨0, 0, []⟩ [] [] [e]])) (sNeg v).1) = sNeg (sNeg v).1 from rfl, a4] at h2
        exact ⟨v, 0, h2, .inl rfl, fun _ _ => rfl⟩
  · have h1 := eUnF (x := .mk t 0 ⟨0, 0, []⟩ [] [] [e]) rfl h0 he
    have h2 := eUnF (x := .mk t 0 ⟨0, 0, []⟩ [] [] [.mk t 0 ⟨0, 0, []⟩ [] [] [e]]) rfl h0 h1
    exact ⟨_, p, h2, .inl rfl, fun c => absurd c h0⟩
theorem CheckParts_plain {a0 : List Pt} {a1 : List Cl} (h0 : ∀ p ∈ a0, PtOk p) (h1 : ∀ p ∈ a1, ClOk p) : law20_CheckParts_o a0 a1 true := by
  apply law20_CheckParts_i
  refine ⟨true, pSpeaks, fun e => (by cases e), fun _ hlen => ⟨by split <;> omega, ?_⟩⟩
  have hs : ∀ p ∈ tslice a0 0 (if (20 : Int) < (a0.length : Int) then 20 else (a0.length : Int)), PtOk p := fun p hp => h0 p (List.mem_of_mem_drop (List.mem_of_mem_take hp))
  obtain ⟨m, nx, b1, b2, b3, _⟩ := pBuilt hs 25 0 (by omega) (by omega) 0 (by omega) (by omega)
  refine ⟨m, nx, b1, ?_⟩
  rw [e_ref]
  have hT : ∀ r, law20_CheckParts_J1i a1 true m r → law20_CheckParts_J1i a1 true m r := fun _ h => h
  have jt : law20_CheckParts_J1i a1 true m true := ⟨fun _ => rfl, fun e => (by cases e)⟩
  obtain ⟨g, g1, g2⟩ := pGood b2 (by omega)
  refine ⟨g, g1, fun _ => jt, fun hg => ?_⟩
  obtain ⟨ok, d20⟩ := g2 (by simpa using hg)
  refine ⟨dep m, pDepth b2 (by omega), fun _ => jt, fun _ => ?_⟩
  obtain ⟨al, al1, al2, al3⟩ := pAgg ok d20
  refine ⟨al, al1, fun _ => ?_⟩
  by_cases hal : (0 : Int) < al.length
  · have : decide ((0 : Int) < al.length) = true := by simpa using hal
    rw [this]; exact jt
  have : decide ((0 : Int) < al.length) = false := by simpa using hal
  rw [this]
  have hok := al3 (List.eq_nil_of_length_eq_zero (by omega))
  refine ⟨fun e => (by cases e), fun _ => ⟨told m, by rw [e_ref]; exact pTold b2, ?_⟩⟩
  obtain ⟨z6, z7, z8, z9, r1, r2⟩ := pRow h1
  obtain ⟨k, f, t1, t2, t3⟩ := hok.sound z6
  refine ⟨z6, z7, z8, z9, r1, k, f, by rw [e_expr]; exact t1, fun c => ?_, fun c => ?_⟩
  · have := t2 (by simpa using c)
    simp [this]
  · have hf : f = 0 := by simpa using c
    subst hf
    obtain ⟨v, p, v1, v2⟩ := t3 rfl z8 r2
    have round : ∀ (X2 : Int → Prop) (i : Int) (t : Int), (t = 4 ∨ t = 5) → 0 ≤ i → i < 2 → ((([(4 : Int), (5 : Int)] : List Int)[i.toNat]?).getD 0) = t → X2 (i + 1) → law20_CheckParts_L2i true (told m) z6 z8 k X2 i := by
      intro X2 i t ht i0 i2 hget hX
      have hw : IntKind.i64.wrap (i + 1) = i + 1 := wrap64 (by omega) (by omega)
      obtain ⟨k', g, q1, q2, q3⟩ := tw t (told m) ht t1
      simp only [law20_CheckParts_L2i, hget, e_expr]
      refine ⟨fun _ => ⟨⟨i0, by omega⟩, k', g, q1, ?_⟩, fun e => absurd i2 (by simpa using e)⟩
      generalize hE : ([T_expr_Expr.mk t 0 ⟨0, 0, []⟩ [] [] [told m]] : List X) = L
      have m5 : law20_CheckParts_J5i X2 true i false := ⟨fun e => (by cases e), fun _ => by rw [hw]; exact hX⟩
      have m4 : law20_CheckParts_J4i X2 true i (told m) z6 z8 g false L := by
        refine ⟨fun e => (by cases e), fun _ => ⟨fun _ => by rw [hw]; exact hX, fun hg0 => ?_⟩⟩
        have hg0 : g = 0 := by simpa using hg0
        obtain ⟨w, q, w1, w2, w3⟩ := tv t (told m) ht v1 v2 (q2.1 hg0)
        refine ⟨v, p, by rw [e_expr]; exact v1, w, q, by rw [hget, ← hE]; exact w1, ?_⟩
        have last : cnd (p == 0) (cnd (q == 0) (law20_CheckParts_J5i X2 true i (!((v.Kind == w.Kind) && ((v.N == w.N) && ((v.S == w.S) && true))))) (law20_CheckParts_J5i X2 true i false)) (law20_CheckParts_J5i X2 true i false) := by
          refine ⟨fun hp => ⟨fun hq => ?_, fun _ => m5⟩, fun _ => m5⟩
          have := w3 (by simpa using hp) (by simpa using hq)
          subst this
          simpa using m5
        refine ⟨fun hne => ⟨fun h8 => ?_, fun _ => last⟩, fun _ => last⟩
        have hne : p ≠ q := by simpa using hne
        have h8 : q ≠ 8 := by simpa using h8
        rcases w2 with w2 | w2
        · exact absurd w2 hne
        · exact absurd w2 h8
      have m3 : ∀ x, (x = true ↔ g = 0) → law20_CheckParts_J3i X2 true i (told m) z6 z8 k k' g x L := by
        intro x hx
        have hxe : x = (g == 0) := by
          cases x
          · have := mt hx.2 (by simp); simp [this]
          · have := hx.1 rfl; simp [this]
        refine ⟨fun e => ?_, fun _ => ⟨fun hg => ⟨fun hk => ?_, fun _ => m4⟩, fun _ => m4⟩⟩
        · rw [hxe] at e; simp at e
        · have := q3 (by simpa using hg) (by simpa using hk)
          have : (!(k' == k)) = false := by simp [this]
          rw [this]; exact m4
      refine ⟨fun hk => m3 true ?_, fun hk => ⟨fun h4 => ⟨fun k1 => m3 true ?_, fun k1 => ⟨fun h5 => m3 _ ?_, fun h5 => m3 false ?_⟩⟩, fun h4 => ⟨fun h5 => m3 _ ?_, fun h5 => m3 false ?_⟩⟩⟩
      all_goals (simp at *; grind)
    intro X2 hX
    have h2 : X2 2 := hX 2 ⟨fun e => (by simp at e), fun _ => rfl⟩
    have h1' : X2 1 := hX 1 (round X2 1 5 (.inr rfl) (by omega) (by omega) rfl h2)
    exact hX 0 (round X2 0 4 (.inl rfl) (by omega) (by omega) rfl h1')
end Go.Proofs.Yteoohihaibgplaa
