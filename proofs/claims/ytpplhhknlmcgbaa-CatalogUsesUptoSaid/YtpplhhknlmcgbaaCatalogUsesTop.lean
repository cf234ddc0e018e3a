/- regraterlaw19.CatalogUses returns true for whatever input, and the input reads afterwards as before. No condition. -/
import Derived.Test.YtpplhhknlmcgbaaRows
import Derived.Test.YtpplhhknlmcgbaaMf
import Derived.WalkKit
import Derived.ProofKit
import Derived.OpenShut
import Derived.ShutString
import Derived.ChangeOld
import Derived.ChangeSlices
import Derived.Below
import Derived.JoinedCond
namespace Go.Proofs.Ytpplhhknlmcgbaa.catalogUses
open Go.ChangeShapes Go.WideShapes Go.ChangeAt Go.RowKit Go.AV
set_option linter.unusedVariables false
theorem own:ownKnob Try.prog.godebug=none:=by kernel_rfl
theorem laidOut:laidOutB Try.prog=true:=by kernel_rfl
set_option maxRecDepth 100000 in
theorem lifted (os:Os) (started:os.Started) (H:Type) (enc:TypeId×Value→H) (F:Stop.Interp):
  ReturnsInHanded {} Try.checked os 4 .any ((Rows.OpenSpec.upto Rows.catalogUsesSpec).pre6 enc Try.prog Try.f4 Rows.catalogUsesUptoRow.domain false) (((Rows.OpenSpec.upto Rows.catalogUsesSpec).at F).post enc Try.prog Try.f4 false true false false):=by
 refine returnsInHanded_of_cond (C:=Try.checked) (s:=Rows.OpenSpec.upto Rows.catalogUsesSpec) (k:=Rows.uptoSmall) rfl own started (by kernel_rfl) Try.func4
  (OpenSpec.witness (enc:=enc) (C:=Try.checked) (s:=Rows.OpenSpec.upto Rows.catalogUsesSpec) (k:=Rows.uptoSmall) rfl false ⟨#[],#[.slice none 0 0, .int .u8 0],[]⟩ 8 (by kernel_rfl) (by kernel_rfl) (by kernel_rfl)
    (x:=([.nil, .lit (.int .u8 0)],[],[])) (by kernel_rfl) rfl (by kernel_rfl)) ?_
 intro W base args ds gs before hval0 hW hcnd hk _
 have hval:∀(j:Nat) t v,Try.f4.params[j]? =some t->args[j]? =some v->Value.okWide Try.prog W .any base t v:=hval0
 have hW':=hW
 obtain ⟨p,q,hA0,hV,rfl,hfz,hnd⟩:=hW
 have hA:DataW.TrodAll enc Try.prog W 0 (fun _=>true) true Try.f4.params.toList args.toList ds p:=hA0
 rw[Try.params4] at hA hval
 obtain ⟨v0,vs0,d0,ds0,p0,q0,hargs,rfl,rfl,h0,r0⟩:=trodAll_cons hA
 obtain ⟨v1,vs1,d1,ds1,p1,q1,rfl,rfl,rfl,h1,r1⟩:=trodAll_cons r0
 obtain ⟨rfl,rfl,rfl⟩:=trodAll_nil r1
 obtain rfl:args= #[v0,v1]:=by cases args;simp_all
 obtain ⟨rfl,rfl⟩:=trodVars_none hV
 have lt0:∀x∈p0,x.block<W.heap.size:=by obtain ⟨m,hm⟩:=h0;exact DataW.trod_lt m _ _ _ hm
 obtain ⟨a0,w0,c0⟩:∃x:(List Str),VR (G0 W) (slA eS x) v0/\(fun l:List Str=>l.length<=maxLen/\∀v∈l,(fun s:Str=>s.length<=maxLen) v) x:=yiF 20 (by kernel_rfl) (by kernel_rfl) (yk4 eS Try.underlying31 (ynN Try.underlying9)) (hval 0 31 v0 rfl rfl) h0
 have lt1:∀x∈p1,x.block<W.heap.size:=by obtain ⟨m,hm⟩:=h1;exact DataW.trod_lt m _ _ _ hm
 obtain ⟨a1,w1,c1⟩:∃x:Int,VR (G0 W) (.it .u8 x) v1/\(fun n:Int=>(Lit.int .u8 n).wf=true) x:=yiF 20 (by kernel_rfl) (by kernel_rfl) (yoy Try.underlying5) (hval 1 5 v1 rfl rfl) h1
 clear hA0 hval0
 have hk0:=of_decide_eq_true hk
 simp only[List.cons_append,List.append_nil,List.nil_append,Rows.uptoBulkAll] at hk0
 have hs0:=ym4 Try.underlying31 Try.underlying9 (by kernel_rfl) w0 h0
 have hb0:(a0.map fun s=>s.length+1).sum<=1048576:=by omega
 refine (ygK t4 (yjs (GOK.none (by kernel_rfl) (by kernel_rfl)) (yfF (yfE a0 a1 hb0 c1)) (VRs.cons w0 (VRs.cons w1 (VRs.nil _))))).mono fun e W' ⟨he,bel⟩=> ?_
 subst he
 exact ⟨_,rfl,_,_,_,[],_,[],hW',trodAll_mk1 (shut_bool Try.underlying4 _),(trodAll_cons_mk (Below.trod laidOut (by kernel_rfl) (of_decide_eq_true (by kernel_rfl)) h0 bel lt0) (trodAll_cons_mk (Below.trod laidOut (by kernel_rfl) (of_decide_eq_true (by kernel_rfl)) h1 bel lt1) trodAll_mk0)),rfl,bel.frame _,fun h=>by cases h⟩
theorem over:Rows.catalogUsesUptoRow.holds Try.pinned (Rows.OpenSpec.upto Rows.catalogUsesSpec):=
 OpenClaim.holds_of_cond 4 Try.f4 rfl rfl rfl rfl rfl rfl rfl ⟨rfl,rfl,rfl,rfl,rfl⟩ rfl rfl rfl rfl rfl (by kernel_rfl) Try.func4 (by kernel_rfl)
  (of_decide_eq_true (by kernel_rfl)) (by unfold Func.isWrapper;first|(rw[if_pos (by decide+kernel)];kernel_rfl)|(rw[if_neg (by decide+kernel)];exact ⟨rfl,rfl⟩))
  (fun os started H enc _ F=>lifted os started H enc F)
theorem proved:Rows.CatalogUsesUptoSaid:=over
#print axioms proved
end Go.Proofs.Ytpplhhknlmcgbaa.catalogUses
