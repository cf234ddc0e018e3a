import Derived.Test.YtkmehmgocelkiaaDoorRpC
namespace Go.Proofs.YtkmehmgocelkiaaDoor
open Go.AV Go.RowKit

/-! ### a value's text -/
def b1 (n : Int) : Str := [UInt8.ofNat n.toNat]
theorem b1_eq {n : Int} (h : 0 ≤ n) (k : n < 256) : ([IntKind.u8.wrap n] : List Int).map toB = b1 n := by
  rw [wrapu8 h k]; rfl
def sText (v : V) : Str := if v.Kind = 1 then b1 1 ++ b1 v.N else if v.Kind = 2 then b1 2 ++ sInt v.N else if v.Kind = 3 then b1 3 ++ v.S else b1 v.Kind
theorem good_kind {v : V} (h : good v) : 0 ≤ v.Kind ∧ v.Kind ≤ 3 := by
  unfold good at h; rcases h with h | h | h | h <;> omega
theorem pTxt {v : V} (h : good v) : row_text_o v (sText v) := by
  have hk := good_kind h
  have hN := goodN h
  have hS := goodS h
  rw [row_text_o]
  refine ⟨fun c => ?_, fun c => ⟨fun c2 => ?_, fun c2 => ⟨fun c3 => ?_, fun c3 => ?_⟩⟩⟩
  · have c : v.Kind = 1 := by simpa using c
    have hn : v.N = 0 ∨ v.N = 1 := by unfold good at h; rcases h with h | h | h | h <;> omega
    refine ⟨by simp, ?_⟩
    rw [b1_eq (by omega) (by omega), b1_eq (by omega) (by omega), sText, if_pos c, c]
  · have c : ¬ v.Kind = 1 := by simpa using c
    have c2 : v.Kind = 2 := by simpa using c2
    refine ⟨_, pInt hN, by rw [sInt_len]; simp, ?_⟩
    rw [b1_eq (by omega) (by omega), sText, if_neg c, if_pos c2, c2]
  · have c : ¬ v.Kind = 1 := by simpa using c
    have c2 : ¬ v.Kind = 2 := by simpa using c2
    have c3 : v.Kind = 3 := by simpa using c3
    refine ⟨by simp; omega, ?_⟩
    rw [b1_eq (by omega) (by omega), sText, if_neg c, if_neg c2, if_pos c3, c3]
  · have c : ¬ v.Kind = 1 := by simpa using c
    have c2 : ¬ v.Kind = 2 := by simpa using c2
    have c3 : ¬ v.Kind = 3 := by simpa using c3
    rw [b1_eq (by omega) (by omega), sText, if_neg c, if_neg c2, if_neg c3]
theorem sText_len {v : V} (h : good v) : (sText v).length ≤ 65 := by
  have hS := goodS h
  unfold sText
  split
  · simp [b1]
  · split
    · rw [List.length_append, sInt_len]; simp [b1]
    · split
      · rw [List.length_append]; simp [b1]; omega
      · simp [b1]
/-! ### reading it -/
def sRd1 (c : UInt8) (r : Str) : V × Bool := if c.toNat = 0 then (⟨0, 0, []⟩, r == []) else if c.toNat = 1 then (if r.length = 1 then (⟨1, bAt r 0, []⟩, sGood ⟨1, bAt r 0, []⟩) else (⟨1, 0, []⟩, false)) else
      if c.toNat = 2 then (if r.length = 8 then (⟨2, (num r : Int) - 9223372036854775808, []⟩, true) else (⟨2, 0, []⟩, false)) else (⟨c.toNat, 0, r⟩, sGood ⟨c.toNat, 0, r⟩)
def sRead : Str → V × Bool
  | [] => (D0, false)
  | c :: r => sRd1 c r
theorem sRead_c (c : UInt8) (r : Str) : sRead (c :: r) = sRd1 c r := rfl
theorem pRead {s : Str} (h : s.length ≤ 1000000000) : row_read_o s (sRead s).1 (sRead s).2 := by
  apply row_read_i
  cases s with
  | nil => exact ⟨fun _ => ⟨rfl, rfl⟩, fun q => (by simp at q)⟩
  | cons c r =>
    refine ⟨fun q => (by simp at q), fun _ => ⟨⟨by omega, by rw [List.length_cons]; omega, by omega⟩, ⟨by omega, by rw [List.length_cons]; omega⟩, ?_⟩⟩
    have e0 : bAt (c :: r) 0 = (c.toNat : Int) := rfl
    have hc : c.toNat < 256 := c.toNat_lt
    have w : IntKind.i64.wrap (c.toNat : Int) = (c.toNat : Int) := wrap64 (by omega) (by omega)
    have er : (((c :: r).drop (1 : Int).toNat).take (((c :: r).length : Int).toNat - (1 : Int).toNat)) = r := by
      rw [Int.toNat_natCast]
      show r.take ((c :: r).length - 1) = r
      exact List.take_of_length_le (by simp)
    rw [er]
    simp only [row_read_J1i, e0, w]
    rw [sRead_c]
    unfold sRd1
    refine ⟨fun k => ?_, fun k => ⟨fun k1 => ⟨fun l => ?_, fun l => ⟨?_, ?_⟩⟩, fun k1 => ⟨fun k2 => ⟨_, _, pGetInt r, fun l => ?_, fun l => ?_⟩, fun k2 => ?_⟩⟩⟩
    · have k : c.toNat = 0 := by simpa using k
      rw [if_pos k, k]; exact ⟨rfl, rfl⟩
    · have k : ¬ c.toNat = 0 := by simpa using k
      have k1 : c.toNat = 1 := by have : (c.toNat : Int) = 1 := by simpa using k1
                                  omega
      have l : ¬ r.length = 1 := by have : ¬ (r.length : Int) = 1 := by simpa using l
                                    omega
      rw [if_neg k, if_pos k1, if_neg l, k1]; exact ⟨rfl, rfl⟩
    · have l : r.length = 1 := by have : (r.length : Int) = 1 := by simpa using l
                                  omega
      omega
    · have k : ¬ c.toNat = 0 := by simpa using k
      have k1 : c.toNat = 1 := by have : (c.toNat : Int) = 1 := by simpa using k1
                                  omega
      have l : r.length = 1 := by have : (r.length : Int) = 1 := by simpa using l
                                  omega
      have hb : IntKind.i64.wrap (bAt r 0) = bAt r 0 := by
        have := bAt_nat (s := r) (i := 0) (by omega)
        have h2 : r[0].toNat < 256 := r[0].toNat_lt
        show IntKind.i64.wrap (bAt r ((0 : Nat) : Int)) = bAt r ((0 : Nat) : Int)
        rw [this]; exact wrap64 (by omega) (by omega)
      rw [if_neg k, if_pos k1, if_pos l, k1, hb]
      exact ⟨_, pGoodV _, rfl, rfl⟩
    · have k : ¬ c.toNat = 0 := by simpa using k
      have k1 : ¬ c.toNat = 1 := by have : ¬ (c.toNat : Int) = 1 := by simpa using k1
                                    omega
      have k2 : c.toNat = 2 := by have : (c.toNat : Int) = 2 := by simpa using k2
                                  omega
      have l : ¬ r.length = 8 := by simpa using l
      rw [if_neg k, if_neg k1, if_pos k2, if_neg l, k2]; exact ⟨rfl, rfl⟩
    · have k : ¬ c.toNat = 0 := by simpa using k
      have k1 : ¬ c.toNat = 1 := by have : ¬ (c.toNat : Int) = 1 := by simpa using k1
                                    omega
      have k2 : c.toNat = 2 := by have : (c.toNat : Int) = 2 := by simpa using k2
                                  omega
      have l : r.length = 8 := by simpa using l
      rw [if_neg k, if_neg k1, if_pos k2, if_pos l, if_pos l, k2]
      refine ⟨_, pGoodV _, rfl, ?_⟩
      simp [sGood]
    · have k : ¬ c.toNat = 0 := by simpa using k
      have k1 : ¬ c.toNat = 1 := by have : ¬ (c.toNat : Int) = 1 := by simpa using k1
                                    omega
      have k2 : ¬ c.toNat = 2 := by have : ¬ (c.toNat : Int) = 2 := by simpa using k2
                                    omega
      rw [if_neg k, if_neg k1, if_neg k2]
      exact ⟨_, pGoodV _, rfl, rfl⟩
theorem c_eq {c : UInt8} {k : Nat} (h : c.toNat = k) : [c] = b1 (k : Int) := by
  have : c = UInt8.ofNat k := by rw [← h]; exact (UInt8.ofNat_toNat).symm
  rw [this]; rfl
theorem sGood_good {v : V} (hr : Rg v.N) (h : sGood v = true) : good v := by
  unfold sGood at h
  unfold good
  split at h
  · rename_i k
    have := eqV_iff.1 h
    rw [this]; exact .inl ⟨rfl, rfl, rfl⟩
  · split at h
    · rename_i k
      simp at h; exact .inr (.inl ⟨k, h.1, h.2⟩)
    · split at h
      · rename_i k; simp at h; exact .inr (.inr (.inl ⟨k, hr, h⟩))
      · split at h
        · rename_i k; simp at h; exact .inr (.inr (.inr ⟨k, h.1, by omega⟩))
        · cases h
theorem read_text {s : Str} (h : (sRead s).2 = true) : good (sRead s).1 ∧ sText (sRead s).1 = s := by
  cases s with
  | nil => cases h
  | cons c r =>
    have hc : c.toNat < 256 := c.toNat_lt
    have split1 : c :: r = [c] ++ r := rfl
    rw [sRead_c] at h ⊢
    unfold sRd1 at h ⊢
    by_cases k : c.toNat = 0
    · rw [if_pos k] at h ⊢
      have h : r = [] := by simpa using h
      subst h
      refine ⟨.inl ⟨rfl, rfl, rfl⟩, ?_⟩
      rw [c_eq k]; rfl
    · rw [if_neg k] at h ⊢
      by_cases k1 : c.toNat = 1
      · rw [if_pos k1] at h ⊢
        by_cases l : r.length = 1
        · rw [if_pos l] at h ⊢
          match r, l with
          | [d], _ =>
            have hd : d.toNat < 256 := d.toNat_lt
            have eb : bAt [d] 0 = (d.toNat : Int) := rfl
            refine ⟨sGood_good (by unfold Rg; show _ ≤ bAt [d] 0 ∧ bAt [d] 0 ≤ _; rw [eb]; omega) h, ?_⟩
            have ed : [d] = b1 (d.toNat : Int) := c_eq (c := d) rfl
            have e2 : sText ⟨1, bAt [d] 0, []⟩ = b1 1 ++ b1 (bAt [d] 0) := rfl
            show sText ⟨1, bAt [d] 0, []⟩ = _
            rw [e2, split1, c_eq k1, eb, ed]; rfl
        · rw [if_neg l] at h; cases h
      · rw [if_neg k1] at h ⊢
        by_cases k2 : c.toNat = 2
        · rw [if_pos k2] at h ⊢
          by_cases l : r.length = 8
          · rw [if_pos l]
            have hn := num_lt r
            rw [l] at hn
            refine ⟨.inr (.inr (.inl ⟨rfl, by unfold Rg; show _ ≤ (num r : Int) - _ ∧ (num r : Int) - _ ≤ _; omega, rfl⟩)), ?_⟩
            rw [split1, c_eq k2]
            show b1 2 ++ sInt ((num r : Int) - 9223372036854775808) = b1 2 ++ r
            unfold sInt
            have e : ((num r : Int) - 9223372036854775808 + 9223372036854775808).toNat = num r := by omega
            have := be_num r
            rw [l] at this
            rw [e, this]
          · rw [if_neg l] at h; cases h
        · rw [if_neg k2] at h ⊢
          have g := sGood_good (by unfold Rg; simp) h
          refine ⟨g, ?_⟩
          have hk := good_kind g
          have k3 : c.toNat = 3 := by have : (c.toNat : Int) ≤ 3 := hk.2
                                      omega
          rw [split1, c_eq k3]
          show sText ⟨(c.toNat : Int), 0, r⟩ = _
          rw [k3]; rfl
theorem b1_nat {n : Nat} (h : n < 256) : (UInt8.ofNat n).toNat = n := by
  rw [UInt8.toNat_ofNat']; exact Nat.mod_eq_of_lt h
theorem text_read {v : V} (h : good v) : sRead (sText v) = (v, true) := by
  have hN := goodN h
  unfold good at h
  obtain ⟨k, n, s⟩ := v
  simp only at h hN
  rcases h with ⟨rfl, rfl, rfl⟩ | ⟨rfl, h, rfl⟩ | ⟨rfl, h, rfl⟩ | ⟨rfl, rfl, h⟩
  · rfl
  · rcases h with rfl | rfl <;> rfl
  · show sRead (UInt8.ofNat 2 :: sInt n) = _
    rw [sRead_c]
    unfold sRd1
    have k : (UInt8.ofNat 2).toNat = 2 := rfl
    rw [k, if_neg (by omega), if_neg (by omega), if_pos rfl, if_pos (sInt_len n)]
    unfold sInt
    unfold Rg at h
    rw [num_be, Nat.mod_eq_of_lt (by omega)]
    congr 2; omega
  · show sRead (UInt8.ofNat 3 :: s) = _
    rw [sRead_c]
    unfold sRd1
    have k : (UInt8.ofNat 3).toNat = 3 := rfl
    rw [k, if_neg (by omega), if_neg (by omega), if_neg (by omega)]
    simp [sGood]; omega
end Go.Proofs.YtkmehmgocelkiaaDoor
