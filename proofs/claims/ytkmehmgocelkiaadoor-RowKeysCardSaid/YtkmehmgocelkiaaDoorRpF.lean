import Derived.Test.YtkmehmgocelkiaaDoorRpE
namespace Go.Proofs.YtkmehmgocelkiaaDoor
open Go.AV Go.RowKit

/-! ### the document's bytes -/
theorem b1_mod {n : Nat} : ([IntKind.u8.wrap ((n : Int).tmod 256)] : List Int).map toB = [UInt8.ofNat n] := by
  have h : ((n : Int).tmod 256) = ((n % 256 : Nat) : Int) := by
    rw [Int.tmod_eq_emod_of_nonneg (by omega)]; omega
  rw [h, wrapu8 (by omega) (by omega)]
  show [UInt8.ofNat (n % 256 : Nat)] = _
  congr 1
  exact UInt8.toNat_inj.1 (by rw [UInt8.toNat_ofNat', UInt8.toNat_ofNat']; show n % 256 % 256 = n % 256; omega)
theorem pInt4 {n : Int} (h : Rg n) : ref04_Int_o n (sInt n) := by
  unfold Rg at h
  apply ref04_Int_i
  have hu : IntKind.u64.wrap (IntKind.u64.wrap n + 9223372036854775808) = (((n + 9223372036854775808).toNat : Nat) : Int) := by
    rw [wrapu64_eq, wrapu64_eq]; omega
  simp only [ref04_Int_oi]
  rw [hu]
  unfold sInt
  have hU : (n + 9223372036854775808).toNat < 18446744073709551616 := by omega
  generalize (n + 9223372036854775808).toNat = u at *
  refine lp3 (fun (x : Int) (y : Str) (z : Int) => ∃ i : Nat, z = i ∧ i ≤ 8 ∧ y = be i u ∧ x = ((u / 256 ^ i : Nat) : Int)) (fun (_ : Int) (_ : Str) (z : Int) => 8 - z.toNat) ?_ ⟨0, rfl, by omega, rfl, by simp⟩
  rintro X x y z ⟨i, rfl, hi, rfl, rfl⟩ hX
  simp only [ref04_Int_L1i]
  refine ⟨fun c => ?_, fun c => ?_⟩
  · have c : (i : Int) < 8 := of_decide_eq_true c
    have hle : u / 256 ^ i ≤ u := Nat.div_le_self _ _
    have hd : IntKind.u64.wrap (((u / 256 ^ i : Nat) : Int).tdiv 256) = ((u / 256 ^ (i + 1) : Nat) : Int) := by
      have : (((u / 256 ^ i : Nat) : Int).tdiv 256) = ((u / 256 ^ i / 256 : Nat) : Int) := by
        rw [Int.tdiv_eq_ediv_of_nonneg (Int.natCast_nonneg _)]; rfl
      rw [this, Nat.div_div_eq_div_mul, ← Nat.pow_succ]
      have hq : u / 256 ^ (i + 1) ≤ u := Nat.div_le_self _ _
      show IntKind.u64.wrap ((u / 256 ^ (i + 1) : Nat) : Int) = _
      generalize u / 256 ^ (i + 1) = q at *
      exact wrapu64 (by omega) (by omega)
    rw [b1_mod, hd, w1 (by omega)]
    refine ⟨by rw [be_len]; simp; omega, hX _ _ _ ⟨i + 1, rfl, by omega, rfl, rfl⟩ (by omega)⟩
  · have c : ¬ (i : Int) < 8 := of_decide_eq_false c
    have : i = 8 := by omega
    rw [this]
theorem pPack4 {l : List Str} (hl : l.length ≤ 1000) (h : ∀ s ∈ l, s.length ≤ 10000) : ref04_Pack_o l (sPack l) := by
  apply ref04_Pack_i
  refine lp2 (fun (x : Str) (y : Int) => ∃ i : Nat, y = i ∧ i ≤ l.length ∧ x = sPack (l.take i)) (fun (_ : Str) (y : Int) => l.length - y.toNat) ?_ ⟨0, rfl, by omega, by simp [sPack]⟩
  rintro X x y ⟨i, rfl, hi, rfl⟩ hX
  have hb := sPack_len (l := l.take i) (m := 10000) fun s hs => h s (List.mem_of_mem_take hs)
  rw [List.length_take] at hb
  have hb2 : (sPack (l.take i)).length ≤ 100000000 := by
    have : min i l.length * (10000 + 4) ≤ 1000 * (10000 + 4) := Nat.mul_le_mul_right _ (by omega)
    omega
  simp only [ref04_Pack_L1i]
  intro _
  refine ⟨fun c => ?_, fun c => ?_⟩
  · have c : (i : Int) < l.length := of_decide_eq_true c
    have hlt : i < l.length := by omega
    have hs := h l[i] (List.getElem_mem hlt)
    have dv : ∀ k : Nat, 0 < k → IntKind.i64.wrap ((l[i].length : Int).tdiv (k : Int)) = ((l[i].length / k : Nat) : Int) := by
      intro k hk
      have : ((l[i].length : Int).tdiv (k : Int)) = ((l[i].length / k : Nat) : Int) := by
        rw [Int.tdiv_eq_ediv_of_nonneg (Int.natCast_nonneg _)]; rfl
      rw [this]
      have hq : l[i].length / k ≤ l[i].length := Nat.div_le_self _ _
      generalize l[i].length / k = q at *
      exact wrap64 (by omega) (by omega)
    have bytes : ([IntKind.u8.wrap ((IntKind.i64.wrap ((l[i].length : Int).tdiv (16777216 : Int))).tmod (256 : Int)), IntKind.u8.wrap ((IntKind.i64.wrap ((l[i].length : Int).tdiv (65536 : Int))).tmod (256 : Int)), IntKind.u8.wrap ((IntKind.i64.wrap ((l[i].length : Int).tdiv (256 : Int))).tmod (256 : Int)), IntKind.u8.wrap ((l[i].length : Int).tmod (256 : Int))] : List Int).map toB = be 4 l[i].length := by
      have d1 := dv 16777216 (by omega)
      have d2 := dv 65536 (by omega)
      have d3 := dv 256 (by omega)
      rw [show ((16777216 : Nat) : Int) = 16777216 from rfl] at d1
      rw [show ((65536 : Nat) : Int) = 65536 from rfl] at d2
      rw [show ((256 : Nat) : Int) = 256 from rfl] at d3
      rw [d1, d2, d3]
      have m1 := b1_mod (n := l[i].length / 16777216)
      have m2 := b1_mod (n := l[i].length / 65536)
      have m3 := b1_mod (n := l[i].length / 256)
      have m4 := b1_mod (n := l[i].length)
      simp only [List.map_cons, List.map_nil, List.cons.injEq, and_true] at m1 m2 m3 m4 ⊢
      rw [m1, m2, m3, m4]
      show _ = [UInt8.ofNat (l[i].length / 256 ^ 3), UInt8.ofNat (l[i].length / 256 ^ 2), UInt8.ofNat (l[i].length / 256 ^ 1), UInt8.ofNat (l[i].length / 256 ^ 0)]
      simp
    refine ⟨by omega, c, _, gAt hlt, by omega, c, _, gAt hlt, ?_, ?_, ?_⟩
    · rw [bytes, be_len]; omega
    · rw [bytes, List.length_append, be_len]; omega
    · rw [bytes, w1 (by omega)]
      refine hX _ _ ⟨i + 1, rfl, by omega, ?_⟩ (by omega)
      rw [List.take_succ_eq_append_getElem hlt, sPack_app]; simp [sPack]
  · have c : ¬ (i : Int) < l.length := of_decide_eq_false c
    rw [List.take_of_length_le (by omega)]
theorem pKey7 {l : List V} (hl : l.length ≤ 1000) (h : ∀ v ∈ l, good v) : ref07_Key_o (l.map v6) (sKey l) := by
  apply ref07_Key_i
  refine lp2 (fun (x : Int) (y : List Str) => ∃ i : Nat, x = i ∧ i ≤ l.length ∧ y = (l.take i).map sText) (fun (x : Int) (_ : List Str) => l.length - x.toNat) ?_ ⟨0, rfl, by omega, by simp⟩
  rintro X x y ⟨i, rfl, hi, rfl⟩ hX
  simp only [ref07_Key_L1i]
  intro _
  have hll : (l.map v6).length = l.length := List.length_map ..
  refine ⟨fun c => ?_, fun c => ?_⟩
  · have c0 : (i : Int) < (l.map v6).length := of_decide_eq_true c
    have c : (i : Int) < l.length := by rw [hll] at c0; exact c0
    have hlt : i < l.length := by omega
    have hlt' : i < (l.map v6).length := by omega
    have eg : (l.map v6)[((i : Nat) : Int).toNat]? = some (v6 l[i]) := by
      rw [gAt hlt']; simp
    have hg := h _ (List.getElem_mem hlt)
    have hk := good_kind hg
    have hN := goodN hg
    have hS := goodS hg
    have ht := sText_len hg
    have fin : ∀ s : Str, s.length ≤ 100 → s ++ l[i].S = sText l[i] → ref07_Key_J3i X (l.map v6) i s ((l.take i).map sText) := by
      intro s hs e
      refine ⟨by omega, c0, _, eg, by show s.length + l[i].S.length ≤ _; omega, by simp; omega, ?_⟩
      have e' : s ++ (v6 l[i]).S = sText l[i] := e
      rw [w1 (by omega), e']
      refine hX _ _ ⟨i + 1, rfl, by omega, ?_⟩ (by omega)
      rw [List.take_succ_eq_append_getElem hlt, List.map_append]; rfl
    have kk : (v6 l[i]).Kind = l[i].Kind := rfl
    have nn : (v6 l[i]).N = l[i].N := rfl
    simp only [ref07_Key_J2i]
    refine ⟨by omega, c0, _, eg, by omega, c0, _, eg, ?_⟩
    rw [kk, b1_eq (by omega) (by omega)]
    refine ⟨fun k => ⟨by omega, c0, _, eg, by simp [b1], by omega, c0, _, eg, ?_⟩, fun k => ⟨by omega, c0, _, eg, ?_⟩⟩
    · have k : l[i].Kind = 1 := by simpa using k
      rw [kk]
      refine ⟨fun q => (by rw [k] at q; cases q), fun _ => ?_⟩
      rw [nn]
      have hn : l[i].N = 0 ∨ l[i].N = 1 := by unfold good at hg; rcases hg with h | h | h | h <;> omega
      have hs : l[i].S = [] := by
        unfold good at hg
        rcases hg with h | h | h | h
        · exact h.2.2
        · exact h.2.2
        · exact h.2.2
        · omega
      rw [b1_eq (by omega) (by omega)]
      refine fin _ (by simp [b1]) ?_
      rw [sText, if_pos k, k, hs]; simp
    · have k : ¬ l[i].Kind = 1 := by simpa using k
      rw [kk]
      refine ⟨fun q => ?_, fun q => ?_⟩
      · have q : l[i].Kind = 2 := by simpa using q
        have hs : l[i].S = [] := by
          unfold good at hg
          rcases hg with h | h | h | h
          · exact h.2.2
          · exact h.2.2
          · exact h.2.2
          · omega
        refine ⟨by omega, c0, _, eg, _, pInt4 hN, by rw [sInt_len]; simp [b1], fin _ ?_ ?_⟩
        · rw [List.length_append]
          have : (sInt (v6 l[i]).N).length = 8 := sInt_len _
          rw [this]; simp [b1]
        · rw [sText, if_neg k, if_pos q, q, hs]; simp; rfl
      · have q : ¬ l[i].Kind = 2 := by simpa using q
        refine fin _ (by simp [b1]) ?_
        rw [sText, if_neg k, if_neg q]
        split
        · rename_i k3; rw [k3]
        · have hs : l[i].S = [] := by
            unfold good at hg
            rcases hg with h | h | h | h
            · exact h.2.2
            · exact h.2.2
            · exact h.2.2
            · omega
          rw [hs]; simp
  · have c : ¬ (i : Int) < (l.map v6).length := of_decide_eq_false c
    rw [hll] at c
    rw [List.take_of_length_le (by omega)]
    exact ⟨_, pPack4 (by simpa using hl) (fun s hs => by have := texts_len h s hs; omega), rfl⟩
/-! ### the document's order -/
def s7 : List V → List V → Bool
  | a :: l, b :: k => if eqV a b then s7 l k else s6Before (v6 a) (v6 b)
  | [], b => decide (0 < b.length)
  | _ :: _, [] => false
theorem s7_end {a b : List V} (h : a = [] ∨ b = []) : s7 a b = decide (a.length < b.length) := by
  rcases h with rfl | rfl
  · cases b <;> rfl
  · cases a <;> simp [s7]
theorem pBefore7 {a b : List V} (ha : a.length ≤ 1000) (hb : b.length ≤ 1000) (ga : ∀ v ∈ a, good v) (gb : ∀ v ∈ b, good v) : ref07_Before_o (a.map v6) (b.map v6) (s7 a b) := by
  apply ref07_Before_i
  have la : (a.map v6).length = a.length := List.length_map ..
  have lb : (b.map v6).length = b.length := List.length_map ..
  refine lp1 (fun (x : Int) => ∃ i : Nat, x = i ∧ i ≤ a.length ∧ i ≤ b.length ∧ s7 a b = s7 (a.drop i) (b.drop i)) (fun (x : Int) => a.length - x.toNat) ?_ ⟨0, rfl, by omega, by omega, rfl⟩
  rintro X x ⟨i, rfl, hi, hj, he⟩ hX
  have done : ¬ (i < a.length ∧ i < b.length) → ref07_Before_J2i X (a.map v6) (b.map v6) (s7 a b) i false := by
    intro hd
    refine ⟨fun q => (by cases q), fun _ _ _ => ?_⟩
    rw [he, s7_end, la, lb, List.length_drop, List.length_drop, Bool.eq_iff_iff, decide_eq_true_eq, decide_eq_true_eq]
    · omega
    · by_cases h1 : i < a.length
      · exact .inr (List.drop_of_length_le (by omega))
      · exact .inl (List.drop_of_length_le (by omega))
  simp only [ref07_Before_L1i]
  intro _
  refine ⟨fun c _ => ?_, fun c => ?_⟩
  · have ca : (i : Int) < (a.map v6).length := of_decide_eq_true c
    have h1 : i < a.length := by rw [la] at ca; omega
    by_cases h2 : i < b.length
    · have cb : (i : Int) < (b.map v6).length := by rw [lb]; omega
      rw [decide_eq_true cb]
      have h1' : i < (a.map v6).length := by omega
      have h2' : i < (b.map v6).length := by omega
      have eg1 : (a.map v6)[((i : Nat) : Int).toNat]? = some (v6 a[i]) := by rw [gAt h1']; simp
      have eg2 : (b.map v6)[((i : Nat) : Int).toNat]? = some (v6 b[i]) := by rw [gAt h2']; simp
      have es : s7 (a.drop i) (b.drop i) = if eqV a[i] b[i] = true then s7 (a.drop (i + 1)) (b.drop (i + 1)) else s6Before (v6 a[i]) (v6 b[i]) := by
        rw [List.drop_eq_getElem_cons h1, List.drop_eq_getElem_cons h2]; rfl
      refine ⟨fun _ => ⟨by omega, ca, _, eg1, by omega, cb, _, eg2, ?_⟩, fun q => (by cases q)⟩
      rw [v6_eq]
      refine ⟨fun d => ?_, fun d => ?_⟩
      · have d : ¬ eqV a[i] b[i] = true := by simpa using d
        have g1 := goodS (ga _ (List.getElem_mem h1))
        have g2 := goodS (gb _ (List.getElem_mem h2))
        refine ⟨by omega, ca, _, eg1, by omega, cb, _, eg2, _, pBefore _ _ (by show a[i].S.length ≤ _; omega) (by show b[i].S.length ≤ _; omega), ?_⟩
        rw [he, es, if_neg d]
      · have d : eqV a[i] b[i] = true := by simpa using d
        rw [w1 (by omega)]
        refine hX _ ⟨i + 1, rfl, by omega, by omega, ?_⟩ (by omega)
        rw [he, es, if_pos d]
    · have cb : ¬ (i : Int) < (b.map v6).length := by rw [lb]; omega
      rw [decide_eq_false cb]
      exact done (fun q => h2 q.2)
  · have ca : ¬ (i : Int) < (a.map v6).length := of_decide_eq_false c
    exact done (fun q => by rw [la] at ca; omega)
theorem s7_self (a : List V) : s7 a a = false := by
  induction a with
  | nil => rfl
  | cons v a ih => simp [s7, ih, eqV_iff.2 (rfl : v = v)]
theorem s7_tot : ∀ {a b : List V}, (∀ v ∈ a, good v) → (∀ v ∈ b, good v) → s7 a b = false → s7 b a = false → a = b := by
  intro a
  induction a with
  | nil =>
    intro b _ _ h _
    cases b with
    | nil => rfl
    | cons w b => simp [s7] at h
  | cons v a ih =>
    intro b ga gb h k
    cases b with
    | nil => simp [s7] at k
    | cons w b =>
      by_cases e : v = w
      · subst e
        simp only [s7, eqV_iff.2 (rfl : v = v), if_true] at h k
        rw [ih (fun x hx => ga x (List.mem_cons_of_mem _ hx)) (fun x hx => gb x (List.mem_cons_of_mem _ hx)) h k]
      · have e' : ¬ w = v := fun q => e q.symm
        have f1 : ¬ eqV v w = true := fun q => e (eqV_iff.1 q)
        have f2 : ¬ eqV w v = true := fun q => e' (eqV_iff.1 q)
        simp only [s7, if_neg f1, if_neg f2] at h k
        obtain ⟨g1, g2⟩ := good_cmp (ga v (List.mem_cons_self ..)) (gb w (List.mem_cons_self ..))
        have hz : ¬ sCmp v w = 0 := fun q => e (sCmp_0.1 q)
        rw [h] at g1; rw [k] at g2
        have n1 : ¬ sCmp v w < 0 := fun q => by have := g1.1 q; cases this
        have n2 : ¬ 0 < sCmp v w := fun q => by have := g2.1 q; cases this
        omega
theorem pSame {a b : List V} (ha : a.length ≤ 1000) (hb : b.length ≤ 1000) (ga : ∀ v ∈ a, good v) (gb : ∀ v ∈ b, good v) : ref07_Same_o (a.map v6) (b.map v6) (!s7 a b && !s7 b a) := by
  refine ⟨_, pBefore7 ha hb ga gb, fun c => ⟨_, pBefore7 hb ha gb ga, ?_⟩, fun c => ?_⟩
  · rw [c]; rfl
  · rw [c]; rfl
theorem same_iff {a b : List V} (ga : ∀ v ∈ a, good v) (gb : ∀ v ∈ b, good v) : (!s7 a b && !s7 b a) = true ↔ a = b := by
  constructor
  · intro h
    have h : s7 a b = false ∧ s7 b a = false := by simpa using h
    exact s7_tot ga gb h.1 h.2
  · rintro rfl; simp [s7_self]
theorem RowKeys_plain {x y : List LV} (hx : ∀ v ∈ x, LOk v) (hy : ∀ v ∈ y, LOk v) : law07_RowKeys_o x y true := by
  have gx := told9_good hx
  have gy := told9_good hy
  have lx := told9_len x
  have ly := told9_len y
  have kx := pKey (l := told9 x) (by omega) gx
  have g := pGet (s := sKey (told9 x)) (key_len (by omega) gx)
  rw [get_key gx] at g
  apply law07_RowKeys_i
  refine ⟨_, pSpeaks7, fun q => (by cases q), fun _ => ⟨_, _, pTold9 hx, _, _, pTold9 hy, _, kx, _, _, g, _, pKey7 (l := told9 x) (by omega) gx, fun _ => ⟨fun _ => ⟨_, pRowSelf (l := told9 x) (by omega), fun _ _ _ => ⟨fun _ => ⟨_, pKey (l := told9 y) (by omega) gy, _, pSame (by omega) (by omega) gx gy, ?_⟩, fun q => (by simp at q)⟩, fun q => (by simp at q)⟩, fun q => (by simp at q)⟩, fun q => (by simp at q)⟩⟩
  show ((sKey (told9 x) == sKey (told9 y)) == (!s7 (told9 x) (told9 y) && !s7 (told9 y) (told9 x))) = true
  rw [beq_iff_eq, Bool.eq_iff_iff, same_iff gx gy, beq_iff_eq]
  exact ⟨fun q => key_inj gx gy q, fun q => by rw [q]⟩
end Go.Proofs.YtkmehmgocelkiaaDoor
