/- regraterlaw07.RowOrders returns true for whatever input, and the input reads afterwards as before. The package-level variables that it lists hold what their text lays, tied by the card. -/
import Derived.Test.YtkmehmgocelkiaaDoorCards
import Derived.Test.YtkmehmgocelkiaaDoorTie
import Derived.LaidMore
import Derived.Lay
import Derived.SevenTiedAt
import Derived.Stop.Joined
import Derived.HandedShaped
import Derived.Lib.LaidTab
import Derived.Test.YtkmehmgocelkiaaDoorMf
import Derived.Test.YtkmehmgocelkiaaDoorMg
import Derived.WalkKit
import Derived.ProofKit
import Derived.OpenShut
import Derived.ShutString
import Derived.ChangeOld
import Derived.ChangeSlices
import Derived.Below
namespace Go.Proofs.YtkmehmgocelkiaaDoor.rowOrders
open Go.ChangeShapes Go.WideShapes Go.ChangeAt Go.RowKit Go.AV
set_option linter.unusedVariables false
theorem own : ownKnob Tryd.prog.godebug = none := by kernel_rfl
theorem laidOut : laidOutB Tryd.prog = true := by kernel_rfl
def LD : List (String × DataW Unit) := Rows.rowOrdersRow.laid
theorem gok {W : World} (hL : laidMetH Tryd.prog LD W) (hs : W.ShapedOpen Tryd.prog) : GOK Tryd.prog W fun b => b < W.heap.size := by
 rw [MakeChecks.laidMetH_plain _ _ _ (by kernel_rfl)] at hL
 refine ⟨fun name avs hm g hg => ?_, fun g hg => ?_, fun name hm g hg => ?_⟩
 ·simp only [yr0, List.mem_cons, List.not_mem_nil, or_false, Prod.mk.injEq] at hm
  obtain ⟨rfl, rfl⟩ := hm
  have ht : Go.Lib.TabIs Tryd.prog W "internal/strconv.uint64pow10" .u64 Go.Lib.pow10Tab := Go.Lib.tabIs_of_head (P := Tryd.prog) (g := 0) (t := 142) (e := 100) (n := 20) (rest := (Rows.rowOrdersRow.laid).drop 3) (by kernel_rfl) (by kernel_rfl) (by kernel_rfl) (by kernel_rfl) (by kernel_rfl) (by kernel_rfl) (show laidMet Tryd.prog (("internal/strconv.uint64pow10", Go.Lib.tabData .u64 Go.Lib.pow10Tab) :: (Rows.rowOrdersRow.laid).drop 3) W from hL.tail.tail)
  obtain ⟨a, t, fr, e⟩ := ywO ht hg
  exact ⟨a, t, fr, by rw [e]; rfl⟩
 ·obtain rfl := Option.some.inj ((show Tryd.prog.globalNamed "internal/bytealg.MaxLen" = some 1 by kernel_rfl).symm.trans hg)
  exact ywR (zero := #[.int .i64 0]) (t := 3) hs (of_decide_eq_true (by kernel_rfl)) (by kernel_rfl) rfl (by kernel_rfl) (by kernel_rfl) (by kernel_rfl)
 ·simp [yyj] at hm
set_option maxRecDepth 100000 in
theorem lifted (os : Os) (started : os.Started) (H : Type) (enc : TypeId × Value → H) :
  ReturnsInHanded {} Tryd.checked os 9 .any (fun w args => (Rows.rowOrdersSpec.pre enc Tryd.prog Tryd.f9 Rows.rowOrdersRow.domain false w args ∧ laidMetH Tryd.prog LD w) ∧ sizedMet enc Tryd.prog Tryd.f9 (OpenSpec.ofChange Rows.rowOrdersSpec) false w args)
   (Rows.rowOrdersSpec.post enc Tryd.prog Tryd.f9 false true false false) := by
 refine ye8 (C := Tryd.checked) (X := fun w _ => laidMetH Tryd.prog LD w) (fun _ _ _ hh h => h.of_heap hh) own started (by kernel_rfl) Tryd.func9
  (ChangeSpec.witness_shaped (enc := enc) (C := Tryd.checked) (os := os) (X := fun w _ => laidMetH Tryd.prog LD w) false (World.laidAll Tryd.prog os LD) #[.slice none 0 0] 8 (World.laidAll_os _ _ _)
    (World.shaped_of_ZipB (by kernel_rfl) (by kernel_rfl)) (by kernel_rfl) (by kernel_rfl) (by kernel_rfl)
    (by rw [MakeChecks.laidMetH_plain _ _ _ (by kernel_rfl)]; exact laidMet_laidAll _ (by kernel_rfl) (by kernel_rfl))) ?_
 intro W base args ds gs before hval0 hW hL hsh
 have hgok := gok hL hsh
 have hval : ∀ (j : Nat) t v, Tryd.f9.params[j]? = some t -> args[j]? = some v -> Value.okWide Tryd.prog W .any base t v := hval0
 have hW' := hW
 obtain ⟨p, q, hA0, hV, rfl, hfz, hnd⟩ := hW
 have hA : DataW.TrodAll enc Tryd.prog W 0 (fun _ => true) true Tryd.f9.params.toList args.toList ds p := hA0
 rw [Tryd.params9] at hA hval
 obtain ⟨v0, vs0, d0, ds0, p0, q0, hargs, rfl, rfl, h0, r0⟩ := trodAll_cons hA
 obtain ⟨rfl, rfl, rfl⟩ := trodAll_nil r0
 obtain rfl : args = #[v0] := by cases args; simp_all
 obtain ⟨rfl, rfl⟩ := trodVars_none hV
 have lt0 : ∀ x ∈ p0, x.block < W.heap.size := by obtain ⟨m, hm⟩ := h0; exact DataW.trod_lt m _ _ _ hm
 obtain ⟨a0, w0, c0⟩ : ∃ x : (List (List yac)), VR (G0 W) (slA (eSl yaV) x) v0 /\ (fun l : List (List yac) => l.length <= maxLen /\ ∀ v ∈ l, (fun l : List yac => l.length <= maxLen /\ ∀ v ∈ l, ycS v) v) x := yrI 20 (by kernel_rfl) (by kernel_rfl) (yl3 (eSl yaV) Tryd.underlying69 (yl3 yaV Tryd.underlying50 yim)) (hval 0 69 v0 rfl rfl) h0
 clear hA0 hval0
 refine (ylJ t9 (yoL hgok (ylK (ylz a0 c0)) (VRs.cons w0 (VRs.nil _)))).mono fun e W' ⟨he, bel⟩ => ?_
 subst he
 exact ⟨_, rfl, _, _, _, [], _, [], hW', trodAll_mk1 (shut_bool Tryd.underlying4 _), (trodAll_cons_mk (Below.trod laidOut (by kernel_rfl) (of_decide_eq_true (by kernel_rfl)) h0 bel lt0) trodAll_mk0), rfl, bel.frame _, fun h => by cases h⟩
theorem over : Rows.rowOrdersRow.holds Tryd.pinned (OpenSpec.ofChange Rows.rowOrdersSpec) :=
 OpenClaim.holds_of_wide 9 Tryd.f9 rfl rfl rfl rfl rfl rfl rfl ⟨rfl, rfl, rfl, rfl, rfl⟩ rfl rfl rfl rfl rfl (by kernel_rfl) Tryd.func9 (by kernel_rfl)
  (of_decide_eq_true (by kernel_rfl)) (by unfold Func.isWrapper; first | (rw [if_pos (by decide +kernel)]; kernel_rfl) | (rw [if_neg (by decide +kernel)]; exact ⟨rfl, rfl⟩))
  (fun os started H enc _ => lifted os started H enc)
theorem proved : Rows.RowOrdersCardSaid :=
 Claim7.holds_tied_plain_at .later [] [.data, .data, .data, .data, .pinned] true (true, "47a6693efed7b260f8b2d9328edd444d01aec7d71f88fd7fd44a1d785472f1c2") false over (fun _ h => by cases h) (by kernel_rfl) (fun _ h => by cases h) rowOrders_row_tie rfl ⟨rfl, rfl⟩ (by kernel_rfl) rfl
  (fun f fn hf hfn => by
    obtain rfl : f = 9 := Option.some.inj ((show Tryd.prog.funcNamed "regrater/regraterlaw07.RowOrders" = some 9 by kernel_rfl).symm.trans hf) |>.symm
    obtain rfl : fn = Tryd.f9 := (Option.some.inj (Tryd.func9.symm.trans hfn)).symm
    exact ⟨by kernel_rfl, fun j t ht => by
     rw [Tryd.params9] at ht
     have hm : t ∈ [69] := by simpa using Array.mem_of_getElem? ht
     have hall : ([69].all fun u => !Tryd.prog.wantsStandIn u) = true := by kernel_rfl
     exact (show Tryd.prog.wantsStandIn t = false by simpa using List.all_eq_true.1 hall t hm)⟩)
  (by kernel_rfl)
#print axioms proved
end Go.Proofs.YtkmehmgocelkiaaDoor.rowOrders
