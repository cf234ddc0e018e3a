/-
  regraterlaw14.LexSplits returns true for whatever input, and the input reads afterwards as before. The package-level variables that it lists hold what their text lays, tied by the card.
-/
import Derived.Test.YteoohihaibgplaaDoorCards
import Derived.Test.YteoohihaibgplaaDoorTie
import Derived.LaidMore
import Derived.Lay
import Derived.SevenTiedAt
import Derived.Stop.Joined
import Derived.HandedShaped
import Derived.Lib.LaidTab
import Derived.Test.YteoohihaibgplaaDoorCd
import Derived.Test.YteoohihaibgplaaDoorLexSplitsP
import Derived.WalkKit
import Derived.ProofKit
import Derived.OpenShut
import Derived.ShutString
import Derived.ChangeOld
import Derived.ChangeSlices
import Derived.Below
namespace Go.Proofs.YteoohihaibgplaaDoor.lexSplits
open Go.ChangeShapes Go.WideShapes Go.ChangeAt Go.RowKit Go.AV
set_option linter.unusedVariables false

theorem own : ownKnob Tryd.prog.godebug = none := by kernel_rfl
theorem laidOut : laidOutB Tryd.prog = true := by kernel_rfl

def LD : List (String × DataW Unit) := Rows.lexSplitsRow.laid
theorem gok {W : World} (hL : laidMetH Tryd.prog LD W) (hs : W.ShapedOpen Tryd.prog) : GOK Tryd.prog W fun b => b < W.heap.size := by
  rw [MakeChecks.laidMetH_plain _ _ _ (by kernel_rfl)] at hL
  refine ⟨fun name avs hm g hg => ?_, fun g hg => ?_, fun name hm g hg => ?_⟩
  · simp only [gTabs, List.mem_cons, List.not_mem_nil, or_false, Prod.mk.injEq] at hm
    rcases hm with ⟨rfl, rfl⟩ | ⟨rfl, rfl⟩
    · have ht : Go.Lib.TabIs Tryd.prog W "internal/strconv.uint64pow10" .u64 Go.Lib.pow10Tab := Go.Lib.tabIs_of_head (P := Tryd.prog) (g := 3) (t := 128) (e := 80) (n := 20) (rest := (Rows.lexSplitsRow.laid).drop 3) (by kernel_rfl) (by kernel_rfl) (by kernel_rfl) (by kernel_rfl) (by kernel_rfl) (by kernel_rfl) (show laidMet Tryd.prog (("internal/strconv.uint64pow10", Go.Lib.tabData .u64 Go.Lib.pow10Tab) :: (Rows.lexSplitsRow.laid).drop 3) W from hL.tail.tail)
      obtain ⟨a, t, fr, e⟩ := gok_tab ht hg
      exact ⟨a, t, fr, by rw [e]; rfl⟩
    · obtain rfl := Option.some.inj ((show Tryd.prog.globalNamed "regrater/lex.signs" = some 2 by kernel_rfl).symm.trans hg)
      obtain ⟨a, t, fr, e⟩ := strs_of_head (P := Tryd.prog) (g := 2) (t := 90) (e := 9) (n := 16) (l := [[60, 62], [60, 61], [62, 61], [124, 124], [40], [41], [44], [46], [42], [43], [45], [47], [37], [61], [60], [62]]) (rest := (Rows.lexSplitsRow.laid).drop 7) (by kernel_rfl) (by kernel_rfl) (by kernel_rfl) (by kernel_rfl) (by kernel_rfl) (by kernel_rfl) (show laidMet Tryd.prog (("regrater/lex.signs", strData [[60, 62], [60, 61], [62, 61], [124, 124], [40], [41], [44], [46], [42], [43], [45], [47], [37], [61], [60], [62]]) :: (Rows.lexSplitsRow.laid).drop 7) W from hL.tail.tail.tail.tail.tail.tail)
      exact ⟨a, t, fr, by rw [e]; rfl⟩
  · obtain rfl := Option.some.inj ((show Tryd.prog.globalNamed "internal/bytealg.MaxLen" = some 4 by kernel_rfl).symm.trans hg)
    exact gok_max (zero := #[.int .i64 0]) (t := 3) hs (of_decide_eq_true (by kernel_rfl)) (by kernel_rfl) rfl (by kernel_rfl) (by kernel_rfl) (by kernel_rfl)
  · obtain rfl : name = "strconv.ErrRange" := by simpa [gErrs] using hm
    obtain rfl := Option.some.inj ((show Tryd.prog.globalNamed "strconv.ErrRange" = some 6 by kernel_rfl).symm.trans hg)
    have hrow : ∀ u, Tryd.prog.typeName? 3 u = some "*errors.errorString" → u = 144 := fun u h => typeName_ptr_named (nm := "errors.errorString") (by rw [show "*" ++ "errors.errorString" = "*errors.errorString" by decide]; kernel_rfl) (by kernel_rfl) (by decide) u (by rw [show "*" ++ "errors.errorString" = "*errors.errorString" by decide]; exact h)
    obtain ⟨a, s, hv, _⟩ := laid_sentinel (P := Tryd.prog) (n := "strconv.ErrRange") (r := (Rows.lexSplitsRow.laid).drop 5) (g := 6) (ti := 99) (tp := 144) (te := 146) (ts := 9) (show laidMet Tryd.prog (("strconv.ErrRange", .iface "*errors.errorString" (.ptr (.agg [.lit (.string [118, 97, 108, 117, 101, 32, 111, 117, 116, 32, 111, 102, 32, 114, 97, 110, 103, 101])]))) :: (Rows.lexSplitsRow.laid).drop 5) W from hL.tail.tail.tail.tail) (by kernel_rfl) (by kernel_rfl) Tryd.underlying99 hrow (by kernel_rfl) Tryd.underlying146 rfl rfl (by kernel_rfl) (by kernel_rfl) (by kernel_rfl)
    unfold World.var? at hv
    rw [show Tryd.prog.globalNamed "strconv.ErrRange" = some 6 by kernel_rfl] at hv
    simp only [Option.bind_some] at hv
    split at hv
    · rename_i cs t fr e
      cases hv
      exact ⟨(Array.getElem?_eq_some_iff.1 e).1, _, _, t, fr, e⟩
    · cases hv

set_option maxRecDepth 100000 in
theorem lifted (os : Os) (started : os.Started) (H : Type) (enc : TypeId × Value → H) :
    ReturnsInHanded {} Tryd.checked os 6 .any (fun w args => (Rows.lexSplitsSpec.pre enc Tryd.prog Tryd.f6 Rows.lexSplitsRow.domain false w args ∧ laidMetH Tryd.prog LD w) ∧ sizedMet enc Tryd.prog Tryd.f6 (OpenSpec.ofChange Rows.lexSplitsSpec) false w args)
      (Rows.lexSplitsSpec.post enc Tryd.prog Tryd.f6 false true false false) := by
  refine returnsInHanded_and_shaped (C := Tryd.checked) (X := fun w _ => laidMetH Tryd.prog LD w) (fun _ _ _ hh h => h.of_heap hh) own started (by kernel_rfl) Tryd.func6
    (ChangeSpec.witness_shaped (enc := enc) (C := Tryd.checked) (os := os) (X := fun w _ => laidMetH Tryd.prog LD w) false (World.laidAll Tryd.prog os LD) #[.string ByteArray.empty] 8 (World.laidAll_os _ _ _)
      (World.shaped_of_ZipB (by kernel_rfl) (by kernel_rfl)) (by kernel_rfl) (by kernel_rfl) (by kernel_rfl)
      (by rw [MakeChecks.laidMetH_plain _ _ _ (by kernel_rfl)]; exact laidMet_laidAll _ (by kernel_rfl) (by kernel_rfl))) ?_
  intro W base args ds gs before hval0 hW hL hsh
  have hgok := gok hL hsh
  have hval : ∀ (j : Nat) t v, Tryd.f6.params[j]? = some t → args[j]? = some v → Value.okWide Tryd.prog W .any base t v := hval0
  have hW' := hW
  obtain ⟨p, q, hA0, hV, rfl, hfz, hnd⟩ := hW
  have hA : DataW.TrodAll enc Tryd.prog W 0 (fun _ => true) true Tryd.f6.params.toList args.toList ds p := hA0
  rw [Tryd.params6] at hA hval
  obtain ⟨v0, vs0, d0, ds0, p0, q0, hargs, rfl, rfl, h0, r0⟩ := trodAll_cons hA
  obtain ⟨rfl, rfl, rfl⟩ := trodAll_nil r0
  obtain rfl : args = #[v0] := by cases args; simp_all
  obtain ⟨rfl, rfl⟩ := trodVars_none hV
  have lt0 : ∀ x ∈ p0, x.block < W.heap.size := by obtain ⟨m, hm⟩ := h0; exact DataW.trod_lt m _ _ _ hm
  obtain ⟨a0, w0, c0⟩ : ∃ x : Str, VR (G0 W) (.st x) v0 ∧ (fun s : Str => s.length ≤ maxLen) x := told_cell 20 (by kernel_rfl) (by kernel_rfl) (told_str Tryd.underlying9) (hval 0 9 v0 rfl rfl) h0
  clear hA0 hval0
  refine (calls_of_callW t6 (run_of_pure hgok (LexSplits_pure (LexSplits_true a0 c0)) (VRs.cons w0 (VRs.nil _)))).mono fun e W' ⟨he, bel⟩ => ?_
  subst he
  exact ⟨_, rfl, _, _, _, [], _, [], hW', trodAll_mk1 (shut_bool Tryd.underlying4 _), (trodAll_cons_mk (Below.trod laidOut (by kernel_rfl) (of_decide_eq_true (by kernel_rfl)) h0 bel lt0) trodAll_mk0), rfl, bel.frame _, fun h => by cases h⟩

theorem over : Rows.lexSplitsRow.holds Tryd.pinned (OpenSpec.ofChange Rows.lexSplitsSpec) :=
  OpenClaim.holds_of_wide 6 Tryd.f6 rfl rfl rfl rfl rfl rfl rfl ⟨rfl, rfl, rfl, rfl, rfl⟩ rfl rfl rfl rfl rfl (by kernel_rfl) Tryd.func6 (by kernel_rfl)
    (of_decide_eq_true (by kernel_rfl)) (by unfold Func.isWrapper; first | (rw [if_pos (by decide +kernel)]; kernel_rfl) | (rw [if_neg (by decide +kernel)]; exact ⟨rfl, rfl⟩))
    (fun os started H enc _ => lifted os started H enc)

/-- the statement -/
theorem proved : Rows.LexSplitsCardSaid :=
  Claim7.holds_tied_plain_at .later [] [.data, .data, .data, .data, .sentinel, .sentinel, .data, .pinned] true (true, "972a9915d35c8b4cf885d2105397b399ad5163eca2ce6d115d2fdd0a82efb032") true over (fun _ h => by cases h) (by kernel_rfl) (fun _ h => by cases h) lexSplits_row_tie rfl ⟨rfl, rfl⟩ (by kernel_rfl) rfl
    (fun f fn hf hfn => by
      obtain rfl : f = 6 := Option.some.inj ((show Tryd.prog.funcNamed "regrater/regraterlaw14.LexSplits" = some 6 by kernel_rfl).symm.trans hf) |>.symm
      obtain rfl : fn = Tryd.f6 := (Option.some.inj (Tryd.func6.symm.trans hfn)).symm
      exact ⟨by kernel_rfl, fun j t ht => by
        rw [Tryd.params6] at ht
        have hm : t ∈ [9] := by simpa using Array.mem_of_getElem? ht
        have hall : ([9].all fun u => !Tryd.prog.wantsStandIn u) = true := by kernel_rfl
        exact (show Tryd.prog.wantsStandIn t = false by simpa using List.all_eq_true.1 hall t hm)⟩)
    (by kernel_rfl)
#print axioms proved
end Go.Proofs.YteoohihaibgplaaDoor.lexSplits
