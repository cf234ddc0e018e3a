/-
  regraterlaw21.WideSums returns true for every slice of wide numbers, and it reads afterwards as before. No condition.
-/
import Derived.Test.YtdekhoopbcihaaaRows
import Derived.Test.YtdekhoopbcihaaaWSums
import Derived.WalkKit
import Derived.ProofKit
import Derived.OpenShut
import Derived.ShutString
import Derived.ChangeOld
import Derived.Below
import Derived.Deep.SlicePairs
namespace Go.Proofs.Ytdekhoopbcihaaa.wideSums
open Go.ChangeShapes Go.WideShapes Go.ChangeAt Go.RowKit Go.RG
set_option linter.unusedVariables false

theorem own : ownKnob Try.prog.godebug = none := by kernel_rfl
theorem laidOut : laidOutB Try.prog = true := by kernel_rfl

theorem wide_back (h l : Int) (hh : -9223372036854775808 ≤ h ∧ h ≤ 9223372036854775807) (hl : 0 ≤ l ∧ l ≤ 18446744073709551615) : whi (h * 18446744073709551616 + l) = h ∧ wlo (h * 18446744073709551616 + l) = l := by
  unfold whi wlo wrap64
  omega

set_option maxRecDepth 100000 in
theorem lifted (os : Os) (started : os.Started) (H : Type) (enc : TypeId × Value → H) :
    ReturnsInHanded {} Try.checked os 3 .any (Rows.wideSumsSpec.pre6 enc Try.prog Try.f3 Rows.wideSumsRow.domain false) (Rows.wideSumsSpec.post enc Try.prog Try.f3 false true false false) := by
  refine returnsInHanded_of_change (C := Try.checked) own started (by kernel_rfl) Try.func3
    (ChangeSpec.witness6 (enc := enc) (C := Try.checked) false ⟨#[], #[.slice none 0 0], []⟩ 8 (by kernel_rfl) (by kernel_rfl) (by kernel_rfl) (by kernel_rfl)) ?_
  intro W base args ds gs before hval0 hW hcnd _
  have hval : ∀ (j : Nat) t v, Try.f3.params[j]? = some t → args[j]? = some v → Value.okWide Try.prog W .any base t v := hval0
  have hW' := hW
  obtain ⟨p, q, hA0, hV, rfl, hfz, hnd⟩ := hW
  have hA : DataW.TrodAll enc Try.prog W 0 (fun _ => true) true Try.f3.params.toList args.toList ds p := hA0
  rw [Try.params3] at hA hval
  obtain ⟨v0, vs0, d0, ds0, p0, q0, hargs, rfl, rfl, h0, r0⟩ := trodAll_cons hA
  obtain ⟨rfl, rfl, rfl⟩ := trodAll_nil r0
  obtain rfl : args = #[v0] := by cases args; simp_all
  obtain ⟨rfl, rfl⟩ := trodVars_none hV
  obtain ⟨a0, len0, cap0, rfl⟩ := okWide_slice Try.underlying22 (hval 0 22 v0 rfl rfl)
  have k0 := h0
  have lt0 : ∀ x ∈ p0, x.block < W.heap.size := by obtain ⟨m, hm⟩ := k0; exact DataW.trod_lt m _ _ _ hm
  obtain ⟨zs, hm0, hz0, hs0⟩ : ∃ zs : List Int, len0 ≤ 9223372036854775807 ∧ len0 ≤ zs.length ∧ SlW W len0 zs a0 := by
    obtain ⟨fuel, hf⟩ := h0
    rcases Deep.open_slice_pairs Try.underlying22 Try.underlying30 (by kernel_rfl) rfl rfl (by kernel_rfl) (by kernel_rfl) hf with ⟨hcs, _⟩ | ⟨x, l, c, m, n, V0, V1, D0, D1, P0, P1, hcs, _, hl, hm, hmm, _, hcell⟩
    · simp [Value.cells] at hcs
      obtain ⟨rfl, rfl, rfl⟩ := hcs
      exact ⟨[], by omega, by simp, fun h => absurd h (by omega)⟩
    · simp [Value.cells] at hcs
      obtain ⟨rfl, rfl, rfl⟩ := hcs
      have hlm : len0 ≤ m := by rw [hmm]; split <;> omega
      have hnum : ∀ i, i < m → ∃ h l : Int, V0 i = .int .i64 h ∧ V1 i = .int .u64 l ∧ whi (h * 18446744073709551616 + l) = h ∧ wlo (h * 18446744073709551616 + l) = l := by
        intro i hi
        obtain ⟨_, _, t0, t1⟩ := hcell i hi
        obtain ⟨h, e0, _, b0⟩ := DataW.trod_int (k := .i64) (by first | exact Try.underlying2 | kernel_rfl) t0
        obtain ⟨l, e1, _, b1⟩ := DataW.trod_int (k := .u64) (by kernel_rfl) t1
        simp only [List.cons.injEq, and_true] at e0 e1
        simp [Lit.wf, IntKind.min, IntKind.max, IntKind.signed, IntKind.bits] at b0 b1
        exact ⟨h, l, e0, e1, wide_back h l b0 b1⟩
      have hch : ∃ Z : Nat → Int, ∀ i, i < m → V0 i = .int .i64 (whi (Z i)) ∧ V1 i = .int .u64 (wlo (Z i)) := by
        refine ⟨fun i => if hi : i < m then (Classical.choose (hnum i hi)) * 18446744073709551616 + Classical.choose (Classical.choose_spec (hnum i hi)) else 0, fun i hi => ?_⟩
        have h := Classical.choose_spec (Classical.choose_spec (hnum i hi))
        simp only [hi, dif_pos]
        exact ⟨by rw [h.2.2.1]; exact h.1, by rw [h.2.2.2]; exact h.2.1⟩
      obtain ⟨Z, hZ⟩ := hch
      refine ⟨(List.range m).map Z, by simp [maxLen] at hm; omega, by simpa using hlm, fun hpos => ?_⟩
      have hq := (hcell 0 (by omega)).1
      have hx : x.add (0 * 2) = x := by simp [Addr.add]
      rw [hx] at hq
      have hsp : x.spot = none := by
        cases hs : x.spot with
        | none => rfl
        | some q =>
          unfold World.cell? at hq
          split at hq
          · rw [hs] at hq; simp at hq
          · cases hq
      obtain ⟨b, o, sp⟩ := x
      simp only at hsp
      subst hsp
      refine ⟨b, o, rfl, World.block_lt_of_cell? W _ hq, fun i hi => ?_⟩
      have h2 := hcell i (by omega)
      obtain ⟨z0, z1⟩ := hZ i (by omega)
      have e : ((List.range m).map Z)[i]?.getD 0 = Z i := by rw [List.getElem?_map, List.getElem?_range (by omega)]; rfl
      rw [e, ← z0, ← z1]
      have h3 := h2.1
      have h4 := h2.2.1
      rw [Addr.add_lit] at h3 h4
      exact ⟨h3, by simpa [Nat.add_assoc] using h4⟩
  clear hA0 hval0
  refine (sums_any a0 len0 cap0 zs W hm0 hz0 hs0).mono fun e W' ⟨he, bel⟩ => ?_
  subst he
  exact ⟨_, rfl, _, _, _, [], _, [], hW', trodAll_mk1 (shut_bool Try.underlying4 _), (trodAll_cons_mk (Below.trod laidOut (by kernel_rfl) (of_decide_eq_true (by kernel_rfl)) k0 bel lt0) trodAll_mk0), rfl, bel.frame _, fun h => by cases h⟩

theorem over : Rows.wideSumsRow.holds Try.pinned (OpenSpec.ofChange Rows.wideSumsSpec) :=
  OpenClaim.holds_of_wide 3 Try.f3 rfl rfl rfl rfl rfl rfl rfl ⟨rfl, rfl, rfl, rfl, rfl⟩ rfl rfl rfl rfl rfl (by kernel_rfl) Try.func3 (by kernel_rfl)
    (of_decide_eq_true (by kernel_rfl)) (by unfold Func.isWrapper; first | (rw [if_pos (by decide +kernel)]; kernel_rfl) | (rw [if_neg (by decide +kernel)]; exact ⟨rfl, rfl⟩))
    (fun os started H enc _ => lifted os started H enc)

/-- THE STATEMENT -/
theorem proved : Rows.WideSumsSaid := over
#print axioms proved
end Go.Proofs.Ytdekhoopbcihaaa.wideSums
