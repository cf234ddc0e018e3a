/-
  Functions without a Go body.
-/
import Derived.Test.YtkmehmgocelkiaaCode
import Derived.Test.YtkmehmgocelkiaaAvG
namespace Go.Proofs.Ytkmehmgocelkiaa
open Go.AV Go.RowKit

theorem VRs_its {G : Gh} : ∀ (l : List (IntKind × Int)) (vs : List Value), VRs G (l.map fun p => .it p.1 p.2) vs → vs = l.map fun p => .int p.1 p.2
  | [], vs, h => List.eq_nil_of_length_eq_zero (by simpa using h.1)
  | p :: l, [], h => by have := h.1; simp at this
  | p :: l, v :: vs, h => by
    have h1 := h.head
    have h2 := VRs_its l vs h.tail
    rw [h2, h1.it_inv]; rfl
def math_bits_Add64_o (a b c : Int) (r : Int × Int) : Prop := 0 ≤ a ∧ 0 ≤ b ∧ 0 ≤ c ∧ c ≤ 1 ∧ ((a + b + c) % 18446744073709551616, (a + b + c) / 18446744073709551616) = r
theorem math_bits_Add64_ok {a0 a1 a2 : Int} {r : Int × Int} (h : math_bits_Add64_o a0 a1 a2 r) : Pure Try.prog 93 [.it .u64 a0, .it .u64 a1, .it .u64 a2] (.tup [.it .u64 r.1, .it .u64 r.2]) := by
  obtain ⟨h0, h1, h2, h3, rfl⟩ := h
  intro H n G vs hM hV
  have hvs := VRs_its [(.u64, a0), (.u64, a1), (.u64, a2)] vs.toList hV
  have hv2 : vs = #[.int .u64 a0, .int .u64 a1, .int .u64 a2] := by
    rw [← Array.toArray_toList (xs := vs), hvs]; rfl
  subst hv2
  have hc : (callFunc 93 #[.int .u64 a0, .int .u64 a1, .int .u64 a2]).run Try.prog G.w = .ok (.value (.tuple #[.int .u64 ((a0 + a1 + a2) % 18446744073709551616), .int .u64 ((a0 + a1 + a2) / 18446744073709551616)])) G.w := by
    rw [run_callFunc_extern Try.func93 (by kernel_rfl) (by kernel_rfl) (by kernel_rfl) (e := add64Entry) (by kernel_rfl), run_add64 a0 a1 a2 h0 h1 h2 h3]
    simp only [Result.andThen]
  unfold CallW
  rw [hc]
  refine ⟨_, .tup [.it .u64 ((a0 + a1 + a2) % 18446744073709551616), .it .u64 ((a0 + a1 + a2) / 18446744073709551616)], H, n, G, rfl, ⟨rfl, rfl, rfl⟩, hM, rfl, ?_, rfl⟩
  refine .tup _ _ rfl fun j u x hu hx => ?_
  match j with
  | 0 => simp at hu hx; subst hu; subst hx; exact .it _ _
  | 1 => simp at hu hx; subst hu; subst hx; exact .it _ _
  | j + 2 => simp at hu
end Go.Proofs.Ytkmehmgocelkiaa
