/- regraterlaw15.ExprTells returns true for whatever input, and the input reads afterwards as before. The package-level variables that it lists hold what their text lays, tied by the card. -/
import Derived.Test.YtoiojmpkifgimaaDoorCards
import Derived.Test.YtoiojmpkifgimaaDoorTie
import Derived.LaidMore
import Derived.Lay
import Derived.SevenTiedAt
import Derived.Stop.Joined
import Derived.HandedShaped
import Derived.Lib.LaidTab
import Derived.Test.YtoiojmpkifgimaaDoorMe
import Derived.Test.YtoiojmpkifgimaaDoorMf
import Derived.WalkKit
import Derived.ProofKit
import Derived.OpenShut
import Derived.ShutString
import Derived.ChangeOld
import Derived.ChangeSlices
import Derived.Below
namespace Go.Proofs.YtoiojmpkifgimaaDoor.exprTells
open Go.ChangeShapes Go.WideShapes Go.ChangeAt Go.RowKit Go.AV
set_option linter.unusedVariables false
theorem own : ownKnob Tryd.prog.godebug = none := by kernel_rfl
theorem laidOut : laidOutB Tryd.prog = true := by kernel_rfl
def LD : List (String × DataW Unit) := Rows.exprTellsRow.laid
theorem gok {W : World} (hL : laidMetH Tryd.prog LD W) (hs : W.ShapedOpen Tryd.prog) : GOK Tryd.prog W fun b => b < W.heap.size := by
 rw [MakeChecks.laidMetH_plain _ _ _ (by kernel_rfl)] at hL
 refine ⟨fun name avs hm g hg => ?_, fun g hg => ?_, fun name hm g hg => ?_⟩
 ·simp only [ynb, List.mem_cons, List.not_mem_nil, or_false, Prod.mk.injEq] at hm
  rcases hm with ⟨rfl, rfl⟩ | ⟨rfl, rfl⟩ | ⟨rfl, rfl⟩
  ·have ht : Go.Lib.TabIs Tryd.prog W "internal/strconv.uint64pow10" .u64 Go.Lib.pow10Tab := Go.Lib.tabIs_of_head (P := Tryd.prog) (g := 2) (t := 91) (e := 73) (n := 20) (rest := (Rows.exprTellsRow.laid).drop 3) (by kernel_rfl) (by kernel_rfl) (by kernel_rfl) (by kernel_rfl) (by kernel_rfl) (by kernel_rfl) (show laidMet Tryd.prog (("internal/strconv.uint64pow10", Go.Lib.tabData .u64 Go.Lib.pow10Tab) :: (Rows.exprTellsRow.laid).drop 3) W from hL.tail.tail)
   obtain ⟨a, t, fr, e⟩ := yqx ht hg
   exact ⟨a, t, fr, by rw [e]; rfl⟩
  ·obtain rfl := Option.some.inj ((show Tryd.prog.globalNamed "regrater/expr.operators" = some 0 by kernel_rfl).symm.trans hg)
   obtain ⟨a, t, fr, e⟩ := yg8 (P := Tryd.prog) (g := 0) (t := 62) (e := 9) (n := 15) (l := [[], [61], [60, 62], [60], [60, 61], [62], [62, 61], [43], [45], [42], [47], [37], [124, 124], [65, 78, 68], [79, 82]]) (rest := (Rows.exprTellsRow.laid).drop 5) (by kernel_rfl) (by kernel_rfl) (by kernel_rfl) (by kernel_rfl) (by kernel_rfl) (by kernel_rfl) (show laidMet Tryd.prog (("regrater/expr.operators", yh5 [[], [61], [60, 62], [60], [60, 61], [62], [62, 61], [43], [45], [42], [47], [37], [124, 124], [65, 78, 68], [79, 82]]) :: (Rows.exprTellsRow.laid).drop 5) W from hL.tail.tail.tail.tail)
   exact ⟨a, t, fr, by rw [e]; rfl⟩
  ·obtain rfl := Option.some.inj ((show Tryd.prog.globalNamed "regrater/expr.aggregates" = some 1 by kernel_rfl).symm.trans hg)
   obtain ⟨a, t, fr, e⟩ := yg8 (P := Tryd.prog) (g := 1) (t := 63) (e := 9) (n := 5) (l := [[], [67, 79, 85, 78, 84], [83, 85, 77], [77, 73, 78], [77, 65, 88]]) (rest := (Rows.exprTellsRow.laid).drop 6) (by kernel_rfl) (by kernel_rfl) (by kernel_rfl) (by kernel_rfl) (by kernel_rfl) (by kernel_rfl) (show laidMet Tryd.prog (("regrater/expr.aggregates", yh5 [[], [67, 79, 85, 78, 84], [83, 85, 77], [77, 73, 78], [77, 65, 88]]) :: (Rows.exprTellsRow.laid).drop 6) W from hL.tail.tail.tail.tail.tail)
   exact ⟨a, t, fr, by rw [e]; rfl⟩
 ·obtain rfl := Option.some.inj ((show Tryd.prog.globalNamed "internal/bytealg.MaxLen" = some 3 by kernel_rfl).symm.trans hg)
  exact yqL (zero := #[.int .i64 0]) (t := 3) hs (of_decide_eq_true (by kernel_rfl)) (by kernel_rfl) rfl (by kernel_rfl) (by kernel_rfl) (by kernel_rfl)
 ·simp [yqJ] at hm
set_option maxRecDepth 100000 in
theorem lifted (os : Os) (started : os.Started) (H : Type) (enc : TypeId × Value → H) :
  ReturnsInHanded {} Tryd.checked os 3 .any (fun w args => (Rows.exprTellsSpec.pre enc Tryd.prog Tryd.f3 Rows.exprTellsRow.domain false w args ∧ laidMetH Tryd.prog LD w) ∧ sizedMet enc Tryd.prog Tryd.f3 (OpenSpec.ofChange Rows.exprTellsSpec) false w args)
   (Rows.exprTellsSpec.post enc Tryd.prog Tryd.f3 false true false false) := by
 refine yda (C := Tryd.checked) (X := fun w _ => laidMetH Tryd.prog LD w) (fun _ _ _ hh h => h.of_heap hh) own started (by kernel_rfl) Tryd.func3
  (ChangeSpec.witness_shaped (enc := enc) (C := Tryd.checked) (os := os) (X := fun w _ => laidMetH Tryd.prog LD w) false (World.laidAll Tryd.prog os LD) #[.slice none 0 0, .slice none 0 0] 8 (World.laidAll_os _ _ _)
    (World.shaped_of_ZipB (by kernel_rfl) (by kernel_rfl)) (by kernel_rfl) (by kernel_rfl) (by kernel_rfl)
    (by rw [MakeChecks.laidMetH_plain _ _ _ (by kernel_rfl)]; exact laidMet_laidAll _ (by kernel_rfl) (by kernel_rfl))) ?_
 intro W base args ds gs before hval0 hW hL hsh
 have hgok := gok hL hsh
 have hval : ∀ (j : Nat) t v, Tryd.f3.params[j]? = some t -> args[j]? = some v -> Value.okWide Tryd.prog W .any base t v := hval0
 have hW' := hW
 obtain ⟨p, q, hA0, hV, rfl, hfz, hnd⟩ := hW
 have hA : DataW.TrodAll enc Tryd.prog W 0 (fun _ => true) true Tryd.f3.params.toList args.toList ds p := hA0
 rw [Tryd.params3] at hA hval
 obtain ⟨v0, vs0, d0, ds0, p0, q0, hargs, rfl, rfl, h0, r0⟩ := trodAll_cons hA
 obtain ⟨v1, vs1, d1, ds1, p1, q1, rfl, rfl, rfl, h1, r1⟩ := trodAll_cons r0
 obtain ⟨rfl, rfl, rfl⟩ := trodAll_nil r1
 obtain rfl : args = #[v0, v1] := by cases args; simp_all
 obtain ⟨rfl, rfl⟩ := trodVars_none hV
 have lt0 : ∀ x ∈ p0, x.block < W.heap.size := by obtain ⟨m, hm⟩ := h0; exact DataW.trod_lt m _ _ _ hm
 obtain ⟨a0, w0, c0⟩ : ∃ x : (List yac), VR (G0 W) (slA yaj x) v0 /\ (fun l : List yac => l.length <= maxLen /\ ∀ v ∈ l, ybl v) x := ykv 20 (by kernel_rfl) (by kernel_rfl) (yiV yaj Tryd.underlying22 ydf) (hval 0 22 v0 rfl rfl) h0
 have lt1 : ∀ x ∈ p1, x.block < W.heap.size := by obtain ⟨m, hm⟩ := h1; exact DataW.trod_lt m _ _ _ hm
 obtain ⟨a1, w1, c1⟩ : ∃ x : (List yac), VR (G0 W) (slA yaj x) v1 /\ (fun l : List yac => l.length <= maxLen /\ ∀ v ∈ l, ybl v) x := ykv 20 (by kernel_rfl) (by kernel_rfl) (yiV yaj Tryd.underlying22 ydf) (hval 1 22 v1 rfl rfl) h1
 clear hA0 hval0
 refine (yix t3 (ylr hgok (yip (yil a0 a1 c0 c1)) (VRs.cons w0 (VRs.cons w1 (VRs.nil _))))).mono fun e W' ⟨he, bel⟩ => ?_
 subst he
 exact ⟨_, rfl, _, _, _, [], _, [], hW', trodAll_mk1 (shut_bool Tryd.underlying4 _), (trodAll_cons_mk (Below.trod laidOut (by kernel_rfl) (of_decide_eq_true (by kernel_rfl)) h0 bel lt0) (trodAll_cons_mk (Below.trod laidOut (by kernel_rfl) (of_decide_eq_true (by kernel_rfl)) h1 bel lt1) trodAll_mk0)), rfl, bel.frame _, fun h => by cases h⟩
theorem over : Rows.exprTellsRow.holds Tryd.pinned (OpenSpec.ofChange Rows.exprTellsSpec) :=
 OpenClaim.holds_of_wide 3 Tryd.f3 rfl rfl rfl rfl rfl rfl rfl ⟨rfl, rfl, rfl, rfl, rfl⟩ rfl rfl rfl rfl rfl (by kernel_rfl) Tryd.func3 (by kernel_rfl)
  (of_decide_eq_true (by kernel_rfl)) (by unfold Func.isWrapper; first | (rw [if_pos (by decide +kernel)]; kernel_rfl) | (rw [if_neg (by decide +kernel)]; exact ⟨rfl, rfl⟩))
  (fun os started H enc _ => lifted os started H enc)
theorem proved : Rows.ExprTellsCardSaid :=
 Claim7.holds_tied_plain_at .later [] [.data, .data, .data, .data, .data, .data, .pinned] true (true, "206610930db63aec45f3b0224811d4fc51d33b02f0acdac704bb224735a260cf") false over (fun _ h => by cases h) (by kernel_rfl) (fun _ h => by cases h) exprTells_row_tie rfl ⟨rfl, rfl⟩ (by kernel_rfl) rfl
  (fun f fn hf hfn => by
    obtain rfl : f = 3 := Option.some.inj ((show Tryd.prog.funcNamed "regrater/regraterlaw15.ExprTells" = some 3 by kernel_rfl).symm.trans hf) |>.symm
    obtain rfl : fn = Tryd.f3 := (Option.some.inj (Tryd.func3.symm.trans hfn)).symm
    exact ⟨by kernel_rfl, fun j t ht => by
     rw [Tryd.params3] at ht
     have hm : t ∈ [22, 22] := by simpa using Array.mem_of_getElem? ht
     have hall : ([22, 22].all fun u => !Tryd.prog.wantsStandIn u) = true := by kernel_rfl
     exact (show Tryd.prog.wantsStandIn t = false by simpa using List.all_eq_true.1 hall t hm)⟩)
  (by kernel_rfl)
#print axioms proved
end Go.Proofs.YtoiojmpkifgimaaDoor.exprTells
