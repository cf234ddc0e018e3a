import Derived.Test.YteoohihaibgplaaDoorNum
import Derived.Test.YteoohihaibgplaaDoorSh
namespace Go.Proofs.YteoohihaibgplaaDoor
open Go.AV Go.RowKit Go.RG
def NumRel (a0 : Str) (k : Int) (s : Str) (n p r1 r2 : Int) : Prop := a0.length ≤ 1000000 ∧ ((∃ v, Go.Lib.parseIntB 64 a0 = .ok v ∧ a0.length ≤ 19 ∧ k = 3 ∧ s = a0 ∧ n = v ∧ p = 0 ∧ r1 = a0.length ∧ r2 = 0) ∨
  (((∃ v, Go.Lib.parseIntB 64 a0 = .ok v ∧ 19 < a0.length) ∨ Go.Lib.parseIntB 64 a0 = .range) ∧ k = 0 ∧ s = [] ∧ n = 0 ∧ p = 0 ∧ r1 = 0 ∧ r2 = 8))
theorem vs1 {G : Gh} {a : AV} {vs : List Value} (h : VRs G [a] vs) : ∃ x, vs = [x] ∧ VR G a x := by
  match vs, h with
  | [x], h => exact ⟨x, rfl, h.head⟩
  | [], h => have := h.1; simp at this
  | _ :: _ :: _, h => have := h.1; simp at this
theorem VR_tok (G : Gh) (k n p r1 r2 : Int) {s : Str} {b : ByteArray} (hb : b.data.toList = s) : VR G (.tup [.agg [.it .i64 k, .st s, .it .i64 n, .it .i64 p], .it .i64 r1, .it .i64 r2]) (.tuple #[.agg #[.int .i64 k, .string b, .int .i64 n, .int .i64 p], .int .i64 r1, .int .i64 r2]) := by
  have h1 : VR G (.agg [.it .i64 k, .st s, .it .i64 n, .it .i64 p]) (.agg #[.int .i64 k, .string b, .int .i64 n, .int .i64 p]) := by
    refine .agg _ _ rfl (fun j u x hu hx => ?_) (fun j u hu => ?_)
    · match j with
      | 0 => simp at hu hx; subst hu; subst hx; exact .it _ _
      | 1 => simp at hu hx; subst hu; subst hx; exact .st _ _ hb
      | 2 => simp at hu hx; subst hu; subst hx; exact .it _ _
      | 3 => simp at hu hx; subst hu; subst hx; exact .it _ _
      | j + 4 => simp at hu
    · match j with
      | 0 => simp at hu; subst hu; rfl
      | 1 => simp at hu; subst hu; rfl
      | 2 => simp at hu; subst hu; rfl
      | 3 => simp at hu; subst hu; rfl
      | j + 4 => simp at hu
  refine .tup _ _ rfl (fun j u x hu hx => ?_)
  match j with
  | 0 => simp at hu hx; subst hu; subst hx; exact h1
  | 1 => simp at hu hx; subst hu; subst hx; exact .it _ _
  | 2 => simp at hu hx; subst hu; subst hx; exact .it _ _
  | j + 3 => simp at hu
theorem GOK.errRange {P : Program} {w : World} {I : Nat → Prop} (h : GOK P w I) {g : Nat} (hg : P.globalNamed "strconv.ErrRange" = some g) : ∃ tp p, w.cell? ⟨g, 0, .none⟩ = some (.iface tp p) := by
  obtain ⟨_, tp, p, t, fr, c⟩ := h.2.2 "strconv.ErrRange" (by simp [gErrs]) g hg
  exact ⟨tp, p, by simp [World.cell?, c]⟩
set_option maxRecDepth 100000 in
theorem number_pure {a0 : Str} {k n p r1 r2 : Int} {s : Str} (h : NumRel a0 k s n p r1 r2) : Pure Tryd.prog 54 [.st a0] (.tup [.agg [.it .i64 k, .st s, .it .i64 n, .it .i64 p], .it .i64 r1, .it .i64 r2]) := by
  refine pure_shelf Tryd.func54 (by kernel_rfl) rfl fun G vs hG hI hV => ?_
  obtain ⟨x, rfl, hx⟩ := vs1 hV
  obtain ⟨b, rfl, hb⟩ := hx.stv
  obtain ⟨hl, h⟩ := h
  have hz : b.size = a0.length := by rw [← hb]; simp
  rcases h with ⟨v, h1, h2, rfl, rfl, rfl, rfl, rfl, rfl⟩ | ⟨h1, rfl, rfl, rfl, rfl, rfl, rfl⟩
  · refine Calls.mono (number_ok b n (by rw [hb]; exact h1) (by omega) G.w) ?_
    rintro e w' ⟨rfl, hw⟩
    refine ⟨_, rfl, fun G' => ?_, hw⟩
    rw [hz]
    exact VR_tok G' _ _ _ _ _ hb
  · have fin : ∀ {e : Ending} {w' : World}, (e = .returned (.tuple #[.agg #[.int .i64 0, .string ⟨#[]⟩, .int .i64 0, .int .i64 0], .int .i64 0, .int .i64 8]) ∧ Below G.w.heap.size G.w w') → ∃ x, e = .returned x ∧ (∀ G', VR G' (.tup [.agg [.it .i64 0, .st [], .it .i64 0, .it .i64 0], .it .i64 0, .it .i64 8]) x) ∧ Below G.w.heap.size G.w w' := by
      rintro e w' ⟨rfl, hw⟩
      exact ⟨_, rfl, fun G' => VR_tok G' _ _ _ _ _ rfl, hw⟩
    rcases h1 with ⟨v, h1, h2⟩ | h1
    · exact Calls.mono (number_long b v (by rw [hb]; exact h1) (by omega) (by omega) G.w) fun e w' => fin
    · obtain ⟨tp, q, hq⟩ := GOK.errRange hG (g := 6) (by kernel_rfl)
      exact Calls.mono (number_range b (by rw [hb]; exact h1) (by omega) G.w tp q hq) fun e w' => fin
end Go.Proofs.YteoohihaibgplaaDoor
