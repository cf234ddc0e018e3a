/- regraterlaw17.StmtShows returns true for whatever input, and the input reads afterwards as before. The package-level variables that it lists hold what their text lays, tied by the card. -/
import Derived.Test.YteoohihaibgplaaGreatDoorCards
import Derived.Test.YteoohihaibgplaaGreatDoorTie
import Derived.LaidMore
import Derived.Lay
import Derived.SevenTiedAt
import Derived.Stop.Joined
import Derived.HandedShaped
import Derived.Lib.LaidTab
import Derived.Test.YteoohihaibgplaaGreatDoorMe
import Derived.Test.YteoohihaibgplaaGreatDoorMf
import Derived.WalkKit
import Derived.ProofKit
import Derived.OpenShut
import Derived.ShutString
import Derived.ChangeOld
import Derived.ChangeSlices
import Derived.Below
namespace Go.Proofs.YteoohihaibgplaaGreatDoor.stmtShows
open Go.ChangeShapes Go.WideShapes Go.ChangeAt Go.RowKit Go.AV
set_option linter.unusedVariables false
theorem own : ownKnob Tryz.prog.godebug = none := by kernel_rfl
theorem laidOut : laidOutB Tryz.prog = true := by kernel_rfl
def LD : List (String × DataW Unit) := Rows.stmtShowsRow.laid
theorem gok {W : World} (hL : laidMetH Tryz.prog LD W) (hs : W.ShapedOpen Tryz.prog) : GOK Tryz.prog W fun b => b < W.heap.size := by
 rw [MakeChecks.laidMetH_plain _ _ _ (by kernel_rfl)] at hL
 refine ⟨fun name avs hm g hg => ?_, fun g hg => ?_, fun name hm g hg => ?_⟩
 ·simp only [ytO, List.mem_cons, List.not_mem_nil, or_false, Prod.mk.injEq] at hm
  rcases hm with ⟨rfl, rfl⟩ | ⟨rfl, rfl⟩ | ⟨rfl, rfl⟩ | ⟨rfl, rfl⟩
  ·have ht : Go.Lib.TabIs Tryz.prog W "internal/strconv.uint64pow10" .u64 Go.Lib.pow10Tab := Go.Lib.tabIs_of_head (P := Tryz.prog) (g := 3) (t := 155) (e := 141) (n := 20) (rest := (Rows.stmtShowsRow.laid).drop 3) (by kernel_rfl) (by kernel_rfl) (by kernel_rfl) (by kernel_rfl) (by kernel_rfl) (by kernel_rfl) (show laidMet Tryz.prog (("internal/strconv.uint64pow10", Go.Lib.tabData .u64 Go.Lib.pow10Tab) :: (Rows.stmtShowsRow.laid).drop 3) W from hL.tail.tail)
   obtain ⟨a, t, fr, e⟩ := ywr ht hg
   exact ⟨a, t, fr, by rw [e]; rfl⟩
  ·obtain rfl := Option.some.inj ((show Tryz.prog.globalNamed "regrater/expr.operators" = some 1 by kernel_rfl).symm.trans hg)
   obtain ⟨a, t, fr, e⟩ := ygF (P := Tryz.prog) (g := 1) (t := 152) (e := 9) (n := 15) (l := [[], [61], [60, 62], [60], [60, 61], [62], [62, 61], [43], [45], [42], [47], [37], [124, 124], [65, 78, 68], [79, 82]]) (rest := (Rows.stmtShowsRow.laid).drop 5) (by kernel_rfl) (by kernel_rfl) (by kernel_rfl) (by kernel_rfl) (by kernel_rfl) (by kernel_rfl) (show laidMet Tryz.prog (("regrater/expr.operators", yjW [[], [61], [60, 62], [60], [60, 61], [62], [62, 61], [43], [45], [42], [47], [37], [124, 124], [65, 78, 68], [79, 82]]) :: (Rows.stmtShowsRow.laid).drop 5) W from hL.tail.tail.tail.tail)
   exact ⟨a, t, fr, by rw [e]; rfl⟩
  ·obtain rfl := Option.some.inj ((show Tryz.prog.globalNamed "regrater/expr.aggregates" = some 2 by kernel_rfl).symm.trans hg)
   obtain ⟨a, t, fr, e⟩ := ygF (P := Tryz.prog) (g := 2) (t := 153) (e := 9) (n := 5) (l := [[], [67, 79, 85, 78, 84], [83, 85, 77], [77, 73, 78], [77, 65, 88]]) (rest := (Rows.stmtShowsRow.laid).drop 6) (by kernel_rfl) (by kernel_rfl) (by kernel_rfl) (by kernel_rfl) (by kernel_rfl) (by kernel_rfl) (show laidMet Tryz.prog (("regrater/expr.aggregates", yjW [[], [67, 79, 85, 78, 84], [83, 85, 77], [77, 73, 78], [77, 65, 88]]) :: (Rows.stmtShowsRow.laid).drop 6) W from hL.tail.tail.tail.tail.tail)
   exact ⟨a, t, fr, by rw [e]; rfl⟩
  ·obtain rfl := Option.some.inj ((show Tryz.prog.globalNamed "regrater/stmt.kinds" = some 0 by kernel_rfl).symm.trans hg)
   obtain ⟨a, t, fr, e⟩ := ygF (P := Tryz.prog) (g := 0) (t := 122) (e := 9) (n := 4) (l := [[], [66, 79, 79, 76], [73, 78, 84], [84, 69, 88, 84]]) (rest := (Rows.stmtShowsRow.laid).drop 7) (by kernel_rfl) (by kernel_rfl) (by kernel_rfl) (by kernel_rfl) (by kernel_rfl) (by kernel_rfl) (show laidMet Tryz.prog (("regrater/stmt.kinds", yjW [[], [66, 79, 79, 76], [73, 78, 84], [84, 69, 88, 84]]) :: (Rows.stmtShowsRow.laid).drop 7) W from hL.tail.tail.tail.tail.tail.tail)
   exact ⟨a, t, fr, by rw [e]; rfl⟩
 ·obtain rfl := Option.some.inj ((show Tryz.prog.globalNamed "internal/bytealg.MaxLen" = some 4 by kernel_rfl).symm.trans hg)
  exact yxB (zero := #[.int .i64 0]) (t := 3) hs (of_decide_eq_true (by kernel_rfl)) (by kernel_rfl) rfl (by kernel_rfl) (by kernel_rfl) (by kernel_rfl)
 ·simp [yyJ] at hm
set_option maxRecDepth 100000 in
theorem lifted (os : Os) (started : os.Started) (H : Type) (enc : TypeId × Value → H) :
  ReturnsInHanded {} Tryz.checked os 3 .any (fun w args => (Rows.stmtShowsSpec.pre enc Tryz.prog Tryz.f3 Rows.stmtShowsRow.domain false w args ∧ laidMetH Tryz.prog LD w) ∧ sizedMet enc Tryz.prog Tryz.f3 (OpenSpec.ofChange Rows.stmtShowsSpec) false w args)
   (Rows.stmtShowsSpec.post enc Tryz.prog Tryz.f3 false true false false) := by
 refine yeu (C := Tryz.checked) (X := fun w _ => laidMetH Tryz.prog LD w) (fun _ _ _ hh h => h.of_heap hh) own started (by kernel_rfl) Tryz.func3
  (ChangeSpec.witness_shaped (enc := enc) (C := Tryz.checked) (os := os) (X := fun w _ => laidMetH Tryz.prog LD w) false (World.laidAll Tryz.prog os LD) #[.agg #[.int .u8 0, .slice none 0 0, .slice none 0 0, .int .i64 0]] 8 (World.laidAll_os _ _ _)
    (World.shaped_of_ZipB (by kernel_rfl) (by kernel_rfl)) (by kernel_rfl) (by kernel_rfl) (by kernel_rfl)
    (by rw [MakeChecks.laidMetH_plain _ _ _ (by kernel_rfl)]; exact laidMet_laidAll _ (by kernel_rfl) (by kernel_rfl))) ?_
 intro W base args ds gs before hval0 hW hL hsh
 have hgok := gok hL hsh
 have hval : ∀ (j : Nat) t v, Tryz.f3.params[j]? = some t → args[j]? = some v → Value.okWide Tryz.prog W .any base t v := hval0
 have hW' := hW
 obtain ⟨p, q, hA0, hV, rfl, hfz, hnd⟩ := hW
 have hA : DataW.TrodAll enc Tryz.prog W 0 (fun _ => true) true Tryz.f3.params.toList args.toList ds p := hA0
 rw [Tryz.params3] at hA hval
 obtain ⟨v0, vs0, d0, ds0, p0, q0, hargs, rfl, rfl, h0, r0⟩ := trodAll_cons hA
 obtain ⟨rfl, rfl, rfl⟩ := trodAll_nil r0
 obtain rfl : args = #[v0] := by cases args; simp_all
 obtain ⟨rfl, rfl⟩ := trodVars_none hV
 have lt0 : ∀ x ∈ p0, x.block < W.heap.size := by obtain ⟨m, hm⟩ := h0; exact DataW.trod_lt m _ _ _ hm
 obtain ⟨a0, w0, c0⟩ : ∃ x : yaE, VR (G0 W) (.agg (yeq.c x)) v0 ∧ yeS x := yuW 20 (by kernel_rfl) Tryz.underlying25 yjs (hval 0 25 v0 rfl rfl) h0
 clear hA0 hval0
 refine (ymi t3 (yqt hgok (ymu (ymt a0 c0)) (VRs.cons w0 (VRs.nil _)))).mono fun e W' ⟨he, bel⟩ => ?_
 subst he
 exact ⟨_, rfl, _, _, _, [], _, [], hW', trodAll_mk1 (shut_bool Tryz.underlying4 _), (trodAll_cons_mk (Below.trod laidOut (by kernel_rfl) (of_decide_eq_true (by kernel_rfl)) h0 bel lt0) trodAll_mk0), rfl, bel.frame _, fun h => by cases h⟩
theorem over : Rows.stmtShowsRow.holds Tryz.pinned (OpenSpec.ofChange Rows.stmtShowsSpec) :=
 OpenClaim.holds_of_wide 3 Tryz.f3 rfl rfl rfl rfl rfl rfl rfl ⟨rfl, rfl, rfl, rfl, rfl⟩ rfl rfl rfl rfl rfl (by kernel_rfl) Tryz.func3 (by kernel_rfl)
  (of_decide_eq_true (by kernel_rfl)) (by unfold Func.isWrapper; first | (rw [if_pos (by decide +kernel)]; kernel_rfl) | (rw [if_neg (by decide +kernel)]; exact ⟨rfl, rfl⟩))
  (fun os started H enc _ => lifted os started H enc)
theorem proved : Rows.StmtShowsCardSaid :=
 Claim7.holds_tied_plain_at .later [] [.data, .data, .data, .data, .data, .data, .data, .pinned] true (true, "22c5cefc29a5466d2be709355034d707b35a2d46b5445640e8f939e1ee1cdd04") false over (fun _ h => by cases h) (by kernel_rfl) (fun _ h => by cases h) stmtShows_row_tie rfl ⟨rfl, rfl⟩ (by kernel_rfl) rfl
  (fun f fn hf hfn => by
    obtain rfl : f = 3 := Option.some.inj ((show Tryz.prog.funcNamed "regrater/regraterlaw17.StmtShows" = some 3 by kernel_rfl).symm.trans hf) |>.symm
    obtain rfl : fn = Tryz.f3 := (Option.some.inj (Tryz.func3.symm.trans hfn)).symm
    exact ⟨by kernel_rfl, fun j t ht => by
     rw [Tryz.params3] at ht
     have hm : t ∈ [25] := by simpa using Array.mem_of_getElem? ht
     have hall : ([25].all fun u => !Tryz.prog.wantsStandIn u) = true := by kernel_rfl
     exact (show Tryz.prog.wantsStandIn t = false by simpa using List.all_eq_true.1 hall t hm)⟩)
  (by kernel_rfl)
#print axioms proved
end Go.Proofs.YteoohihaibgplaaGreatDoor.stmtShows
