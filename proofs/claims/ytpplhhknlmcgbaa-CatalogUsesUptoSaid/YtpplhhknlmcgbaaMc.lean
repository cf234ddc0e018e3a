/- General texts and own ones, joined: what the program computes, told of abstract states, and the laws of plain data. No condition. -/
import Derived.Test.YtpplhhknlmcgbaaMb
import Derived.WalkKit
import Derived.ProofKit
import Derived.OpenShut
import Derived.ShutString
import Derived.ChangeOld
import Derived.ChangeSlices
import Derived.Below
import Derived.WideShapes
noncomputable section
namespace Go.AV
open Go.RowKit Go.RG Go.Lib
def Base.put (B:Base) (xs:List Value) (df:List Deferred):Base:=⟨B.w,B.κ,B.I,B.nx,xs,df,B.ft⟩
theorem ybR.put {B:Base} (h:ybR B) {xs:List Value} {df:List Deferred}:ybR (B.put xs df):=h
theorem GB.put {P:Program} {B:Base} (h:GB P B) (xs:List Value) (df:List Deferred):GB P (B.put xs df):=⟨h.ok,h.ap⟩
theorem MRel.put {B:Base} {S:St} {G:Gh} (h:MRel B S G) (xs:List Value) (df:List Deferred):MRel (B.put xs df) S G:=
 ⟨h.blk,h.inj,h.dead,h.live,h.apart,h.lt,h.loc,h.keep,h.heap,h.nx,h.gone,h.I0,h.I1,h.os,h.tape,h.output,h.size,h.same,h.hno,⟨h.fo.dj1,h.fo.dj2,h.fo.ap,h.fo.nd,h.fo.lo,h.fo.rep,h.fo.hh⟩⟩
theorem MRel.unput {B:Base} {S:St} {G:Gh} {xs:List Value} {df:List Deferred} (h:MRel (B.put xs df) S G):MRel B S G:=
 ⟨h.blk,h.inj,h.dead,h.live,h.apart,h.lt,h.loc,h.keep,h.heap,h.nx,h.gone,h.I0,h.I1,h.os,h.tape,h.output,h.size,h.same,h.hno,⟨h.fo.dj1,h.fo.dj2,h.fo.ap,h.fo.nd,h.fo.lo,h.fo.rep,h.fo.hh⟩⟩
def reix {α:Type} (g:Nat→Option Nat):List (Nat×α)→List (Nat×α)
 | []=> []
 | p::r=>match g p.1 with
   |some t=>(t,p.2)::reix g r
   |none=>reix g r
def upx (n t:Nat):Option Nat:=some (t+n)
def dnx (n t:Nat):Option Nat:=match Nat.ble n t with
 |true=>some (t-n)
 |false=>none
def acx (n m t:Nat):Option Nat:=match Nat.ble n t&&Nat.ble (t+1) (n+m) with
 |true=>some (t-n)
 |false=>none
def injx (g:Nat->Option Nat):Prop:=∀a b c,g a=some c->g b=some c->a=b
theorem yfs (n:Nat):injx (upx n):=fun a b c h h'=>by
 simp only[upx,Option.some.injEq] at h h';omega
theorem yfJ {n t c:Nat}:dnx n t=some c↔t=c+n:=by
 unfold dnx
 cases h:Nat.ble n t with
 | true=>
   have:=Nat.le_of_ble_eq_true h
   simp only[Option.some.injEq];omega
 | false=>
   have:¬n<=t:=fun q=>by rw[Nat.ble_eq_true_of_le q] at h;cases h
   simp only[reduceCtorEq,false_iff];omega
theorem yhm (n:Nat):injx (dnx n):=fun a b c h h'=>by
 rw[yfJ] at h h';omega
theorem ye8 {n m t c:Nat}:acx n m t=some c↔t=c+n∧c<m:=by
 unfold acx
 cases h:(Nat.ble n t&&Nat.ble (t+1) (n+m)) with
 | true=>
   simp only[Bool.and_eq_true] at h
   have h1:=Nat.le_of_ble_eq_true h.1
   have h2:=Nat.le_of_ble_eq_true h.2
   simp only[Option.some.injEq];omega
 | false=>
   have:¬(n<=t/\t+1<=n+m):=fun q=>by rw[Nat.ble_eq_true_of_le q.1,Nat.ble_eq_true_of_le q.2] at h;cases h
   simp only[reduceCtorEq,false_iff];omega
theorem yfe (n m:Nat):injx (acx n m):=fun a b c h h'=>by
 rw[ye8] at h h';omega
theorem ycf {g:Nat→Option Nat} (hg:injx g) {s t:Nat} (h:g s=some t):∀l:List (Nat×AV),lkF (reix g l) t=lkF l s
 | []=>rfl
 | p ::r=>by
   have ih:=ycf hg h r
   simp only[reix]
   rw[yaJ]
   by_cases e:p.1=s
   ·rw[if_pos e,e,h];rw[yaJ,if_pos rfl]
   ·rw[if_neg e]
    split
    ·rename_i u hu
     rw[yaJ,if_neg (fun q=>e (hg _ _ _ hu (by rw[show u=t from q];exact h)))];exact ih
    ·exact ih
theorem ycL {g:Nat→Option Nat} {t:Nat} (h:∀s,g s≠some t):∀l:List (Nat×AV),lkF (reix g l) t= .un
 | []=>rfl
 | p::r=>by
   simp only[reix]
   split
   ·rename_i u hu
    rw[yaJ,if_neg (fun q=>h p.1 (by rw[hu,show u=t from q]))];exact ycL h r
   ·exact ycL h r
def memI:List (Nat×AV)→Nat→Bool
 | [],_=>false
 |p::r,t=>Nat.beq p.1 t||memI r t
theorem ygv (a b:List (Nat×AV)) (t:Nat):lkF (a++b) t=if memI a t=true then lkF a t else lkF b t:=by
 induction a with
 |nil=>rfl
 | cons p a ih=>
   have hm:memI (p::a) t=(Nat.beq p.1 t||memI a t):=rfl
   rw[List.cons_append,yaJ,yaJ,ih,hm]
   by_cases e:p.1=t
   ·rw[if_pos e,if_pos e,nbeq.2 e];rfl
   ·rw[if_neg e,if_neg e]
    have:Nat.beq p.1 t=false:=by
     cases h:Nat.beq p.1 t with
     |false=>rfl
     |true=>exact absurd (nbeq.1 h) e
    rw[this,Bool.false_or]
theorem ye3 {g:Nat→Option Nat} {t:Nat} (h:∀s,g s≠some t):∀l:List (Nat×AV),memI (reix g l) t=false
 | []=>rfl
 | p ::r=>by
   simp only[reix]
   split
   ·rename_i u hu
    have hb:Nat.beq u t=false:=by
     cases q:Nat.beq u t with
     |false=>rfl
     |true=>exact absurd (hu.trans (congrArg some (nbeq.1 q))) (h p.1)
    show (Nat.beq u t||memI (reix g r) t)=false
    rw[hb,ye3 h r];rfl
   ·exact ye3 h r
theorem ycW {g:Nat→Option Nat} (hg:injx g) {s t:Nat} (h:g s=some t):∀l:List (Nat×AV),memI (reix g l) t=false→lkF l s= .un
 | [],_=>rfl
 | p::r,hm=>by
   simp only[reix] at hm
   rw[yaJ]
   by_cases e:p.1=s
   ·rw[e,h] at hm
    simp[memI,nbeq.2] at hm
   ·rw[if_neg e]
    split at hm
    ·simp only[memI,Bool.or_eq_false_iff] at hm;exact ycW hg h r hm.2
    ·exact ycW hg h r hm
theorem yhS:∀(args:List AV) (i t:Nat),memI (entF args i) t=decide (i≤t∧t<i+args.length)
 | [],i,t=>by simp[entF,memI]
 | u ::r,i,t=>by
   simp only[entF,memI,yhS r (i+1) t,List.length_cons]
   by_cases h:i=t
   ·subst h;simp[nbeq.2]
   ·have hb:Nat.beq i t=false:=by
     cases q:Nat.beq i t with
     |false=>rfl
     |true=>exact absurd (nbeq.1 q) h
    rw[hb,Bool.false_or]
    simp only[decide_eq_decide];omega
def rcdB (tm:Array Value) (ps:Array Tmp) (asg body:Code) (j:LS):Blk:=⟨0,0,[.rcd tm ps asg body j]⟩
theorem yoM {o:Option Blk} {j:LS} (h:lsOf o=some j):∃e tm ps asg body,o=some ⟨e,0,[.rcd tm ps asg body j]⟩:=by
 unfold lsOf at h
 split at h
 ·cases h;exact ⟨_,_,_,_,_,rfl⟩
 ·cases h
def rngK (N2:Nat) (args:List AV) (b:Blk) (ks:KS):KS:=⟨entF args 0++(N2, .yld ks.nx)::reix (upx (N2+1)) ks.fr,ks.mem,fun o=>if o=ks.nx then some b else ks.H o,ks.nx+1⟩
def dnK (o N2:Nat) (ks:KS):KS:=⟨reix (dnx (N2+1)) ks.fr,ks.mem,fun q=>if q=o then none else ks.H q,ks.nx⟩
def rngQ (o N2:Nat) (Q:AEx→KS→Prop):AEx→KS→Prop:=fun e ks=>match e with
 | .x _=>False
 | _=>lkF ks.fr N2= .yld o∧∃j,lsOf (ks.H o)=some j∧match j with
   | .busy=>False
   | .ready=>Q .n (dnK o N2 ks)
   | .ret=>Q .r (dnK o N2 ks)
   | .exit id=>Q (.x id) (dnK o N2 ks)
section
variable {P:Program} {B:Base} [GB P B] {N:Nat} {ks:KS}
theorem MRel.lay {S:St} {G:Gh} (h:MRel B S G) {lp:Loop} (hs:lp.state= .ready) (hp:lp.pending=none):∃G',G'.w=G.w.alloc (.loop lp)∧G'.κ (.h S.nx)=some (G.w.heap.size,0)∧
  MRel B ⟨S.fr,updK S.M (.h S.nx) (some (rcdB lp.tmps lp.params lp.assign lp.body .ready)),S.cnt,S.nx+1⟩ G'/\LE G G':=by
 have hnew:∀o,(G.w.alloc o).heap[G.w.heap.size]? =some o:=World.alloc_heap_new G.w
 have hold:∀o q,q<G.w.heap.size→(G.w.alloc o).heap[q]? =G.w.heap[q]? :=fun o q hq=>by
  show (G.w.heap.push o)[q]? =_
  rw[Array.getElem?_push,if_neg (by omega)]
 exact h.addG (fun _=>False) (fun _ f=>f.elim) (S':=⟨S.fr,updK S.M (.h S.nx) (some (rcdB lp.tmps lp.params lp.assign lp.body .ready)),S.cnt,S.nx+1⟩) (k0:= .h S.nx) (b:=rcdB lp.tmps lp.params lp.assign lp.body .ready) (g:=G.w.heap.size) (cap:=0)
  (w1 :=G.w.alloc (.loop lp)) rfl (fun hk=>Nat.lt_irrefl _ hk) rfl (fun k=>by
    cases k with
    |l d c=>exact ⟨fun hk=> .inl hk,fun hk=>hk.elim id fun e=>by cases e⟩
    | h o=>
      show o<S.nx+1↔o<S.nx∨Key.h o=Key.h S.nx
      rw[Key.h.injEq];omega) (Nat.le_succ _) (fun hI=>absurd (h.lt _ hI) (Nat.lt_irrefl _)) (h.freeN (Nat.le_refl _)) (fun q=>by simp[rcdB,isRc] at q) (.inl h.size) rfl rfl rfl (by rw[World.size_alloc];omega) (fun q hq _ _=>hold _ q hq)
  (by rw[World.size_alloc];omega) (fun q hq ds=>by rcases hq with rfl|hq;simp;exact hq.elim) (fun G' hle hw=>(yac.loop rfl).2<| .inr ⟨lp, .ready,rfl,by rw[hw];exact hnew _,hs,hp⟩)
theorem MRel.recAt {S:St} {G:Gh} (h:MRel B S G) {o:Nat} {j:LS} (hj:lsOf (S.M (.h o))=some j):∃(l cap e:Nat) (q:Loop),G.κ (.h o)=some (l,cap)∧S.M (.h o)=some ⟨e,0,[.rcd q.tmps q.params q.assign q.body j]⟩∧G.w.heap[l]? =some (.loop q)∧lsOk j q.state q.pending:=by
 obtain ⟨e,tm,ps,asg,body,hb⟩:=yoM hj
 obtain ⟨r,hr,hq⟩:=h.κsome hb
 rcases (yac.loop rfl).1 hq with ⟨_,hc,_⟩|⟨q,j',h1,h2,h3⟩
 ·simp[isRc] at hc
 simp only[List.cons.injEq,AV.rcd.injEq,and_true] at h1
 obtain ⟨rfl,rfl,rfl,rfl,rfl⟩:=h1
 exact ⟨r.1,r.2,e,q,hr,hb,h2,h3⟩
theorem Rel.setLs {S:St} {a:Act} {G:Gh} (h:Rel B N S a G) {o l cap e:Nat} {j j':LS} {q:Loop} {st:LoopState} {pd:Option Code} (hb:S.M (.h o)=some ⟨e,0,[.rcd q.tmps q.params q.assign q.body j]⟩) (hk:G.κ (.h o)=some (l,cap)) (hok:lsOk j' st pd):
  ∃G',G'.w=G.w.putObj l (.loop {q with state:=st,pending:=pd})/\Rel B N {S with M:=updK S.M (.h o) (some ⟨e,0,[.rcd q.tmps q.params q.assign q.body j']⟩)} a G':=by
 have hlt:l<G.w.heap.size:=(h.toMRel.apart _ _ hk).2
 obtain ⟨G',e1,e2,e3⟩:=h.toMRel.setG (k0:= .h o) (b':=⟨e,0,[.rcd q.tmps q.params q.assign q.body j']⟩) (g:=l) (cap:=cap) (S':={S with M:=updK S.M (.h o) (some ⟨e,0,[.rcd q.tmps q.params q.assign q.body j']⟩)}) (w1:=G.w.putObj l (.loop {q with state:=st,pending:=pd})) rfl (fun q=>by simp[isRc] at q) hk hb rfl rfl rfl rfl World.putObj_size (fun r hr=>World.putObj_heap_other hr)
  (fun G' hle hw=>(yac.loop rfl).2<| .inr ⟨{q with state:=st,pending:=pd},j',rfl,by rw[hw];exact World.putObj_heap_same hlt,hok⟩)
 exact ⟨G',e1,h.lift e2 e3 rfl⟩
theorem Rel.shut {S:St} {a:Act} {G:Gh} (h:Rel B N S a G) {o l cap:Nat} {q:Loop} {ob:Obj} (hk:G.κ (.h o)=some (l,cap)) (hl:G.w.heap[l]? =some (.loop q)) (hB:B.w.heap.size≤l):∃G',G'.w=G.w.putObj l ob∧Rel B N (S.kill (.h o)) a G':=by
 obtain ⟨G1,a1,_,a3,a4,a5⟩:=h.toMRel.kill false (S':=S.kill (.h o)) hk rfl
 obtain ⟨a3,a3'⟩:=a3 rfl
 obtain ⟨G2,b1,b2,b3,b4⟩:=a4.take (r:=l) (o:=ob) (fun k r hr=>a3' k r hr) (by rw[a3];exact (h.toMRel.apart _ _ hk).1) hB
 refine ⟨G2,by rw[b1,a1],{b3 with defers:= ?_,tsize:=h.tsize,slot:=fun t v hv=>((h.slot t v hv).le a5).le0 b4,ext:=fun j v hv=>((h.ext j v hv).le a5).le0 b4}⟩
 refine (h.defers.le a5).put (l:=l) (q:=q) (by rw[a1];exact hl) b2 (fun r hr=> ?_)
 rw[b1];exact World.putObj_heap_other hr
theorem ysO {c:Code} {u:AOpd} {ps:Array Tmp} {aA aB:ycl} (h:trC P N c=some (.rng u ps aA aB)):∃x asg body,c= .rangeFunc x ps asg body∧yaf P N x=some u∧trC P N asg=some aA∧trC P N body=some aB∧∀p∈ps,p<N:=by
 cases c with
 | rangeFunc x ps' asg body=>
   simp only[trC] at h
   split at h<;>first|(cases h;done)|skip
   rename_i g a b h1 h2 h3
   split at h
   ·rename_i hp
    cases h
    refine ⟨x,asg,body,rfl,h1,h2,h3,fun p hp'=> ?_⟩
    obtain ⟨i,hi,rfl⟩:=Array.mem_iff_getElem.1 hp'
    simpa using Array.all_eq_true.1 hp i hi
   ·cases h
 |region id ops dr=>rcases ybQ h with ⟨_,e,_⟩|⟨_,e,_⟩<;>cases e
 |block id c=>simp only[trC] at h;obtain ⟨_,_,e⟩:=Option.map_eq_some_iff.1 h;cases e
 |loop c=>simp only[trC] at h;obtain ⟨_,_,e⟩:=Option.map_eq_some_iff.1 h;cases e
 |seq a b=>simp only[trC] at h;split at h<;>cases h
 |cond o a b=>simp only[trC] at h;split at h<;>cases h
 |_=>simp[trC] at h
theorem yrT {f:FuncId} {F2:AFn} (hF:trF P f=some F2) (hres:F2.res= []) {ug:AOpd} {ps:Array Tmp} {aA aB:ycl} {Q:AEx→KS→Prop} {first cap:List AV} (he:ev (lkF ks.fr) ug= .fn (.func f) first cap) (hl:(first++ .yld ks.nx::cap).length≤F2.N) (hLB:ybR B)
  (h:∀(B2:Base) [GB P B2] (tm:Array Value) (asg body:Code) (yv:Value) (rest:List Value),ybR B2→ks.H ks.nx=none→tm.size=N→B2.xs=yv::(tm.toList++rest)→trC P N asg=some aA→trC P N body=some aB→(∀p∈ps,p<N)→
    WK P B2 F2.N none F2.body (rngQ ks.nx F2.N Q) (rngK F2.N (first++ .yld ks.nx::cap) (rcdB tm ps asg body .ready) ks)):WK P B N none (.rng ug ps aA aB) Q ks:=by
 intro c hc a G hR
 obtain ⟨x,asg,body,rfl,hx,hA,hB,hps⟩:=ysO hc
 have hent:∀vs w,(callFunc f vs).run P w= .ok (.enter f vs) w:=enters_of hF
 unfold trF at hF
 split at hF<;>first|(cases hF;done)|skip
 rename_i fn hfn
 obtain ⟨hf6,hfn⟩:=yjw hfn
 split at hF<;>first|(cases hF;done)|skip
 rename_i b hb
 split at hF<;>first|(cases hF;done)|skip
 rename_i rr cc hrr hcc
 cases hF
 simp only at hres hl h
 subst hres
 have hb:fn.body=some b:=by
  split at hb
  ·cases hb
  ·exact hb
 refine wpIn_rangeFunc fun fn0 _=> ?_
 have hrun:=run_enterLoop_outer (P:=P) (w:=G.w) fn0 a.tmps ps asg body
 obtain ⟨G0,a1,a2,a3,a4⟩:=hR.1.toMRel.grownI (w1:=G.w.alloc (.deferred (some []))) (World.grownBy_alloc G.w _ none)
 have hG0s:G0.w.heap.size=G.w.heap.size+1:=by rw[a1,World.size_alloc]
 have hN:ks.H ks.nx=none:=by
  cases hq:ks.H ks.nx with
  |none=>rfl
  |some b=>exact absurd (hR.1.live (.h ks.nx) b hq) (Nat.lt_irrefl _)
 let lp:Loop:={state:= .ready,pending:=none,fn:=fn0,tmps:=a.tmps,params:=ps,assign:=asg,body,defers:=G.w.heap.size}
 let mark:List Deferred:= [{target:= .collected G.w.heap.size,args:= #[]}]
 let yv:Value:= .func (.yield G0.w.heap.size) #[] #[]
 obtain ⟨G1,s1,s2,s3,s4⟩:=a2.lay (lp:=lp) rfl rfl
 let B2:Base:=B.put (yv::(a.tmps.toList++B.xs)) (mark++a.defers++B.df)
 haveI:GB P B2:=GB.put inferInstance _ _
 have rx:=(yaM hR.1 hx)
 rw[show (toS ks).fr=lkF ks.fr from rfl,he] at rx
 obtain ⟨vp,vc,q0,q1,q2,q3,q4⟩:=(rx.le (a3.trans s4)).fn_inv
 have hyv:VR G1 (.yld ks.nx) yv:= .yld _ _ _ s2
 have hv:VRs G1 (first++ .yld ks.nx::cap) (vp++ #[yv]++vc).toList:=by
  have r1:VRs G1 first vp.toList:=⟨by simpa using q1,fun j u x a b=>q3 j u x a (by simpa using b)⟩
  have r2:VRs G1 cap vc.toList:=⟨by simpa using q2,fun j u x a b=>q4 j u x a (by simpa using b)⟩
  simpa using r1.append (VRs.cons hyv r2)
 obtain ⟨vs,hvs⟩:∃vs,vs=vp++ #[yv]++vc:=⟨_,rfl⟩
 rw[<-hvs] at hv
 have hvl:vs.size=(first++ .yld ks.nx::cap).length:=by simpa only[Array.length_toList] using hv.1
 have hS:toS (rngK fn.ntmps (first++ .yld ks.nx::cap) (rcdB a.tmps ps asg body .ready) ks)={(⟨(toS ks).fr,updK (toS ks).M (.h ks.nx) (some (rcdB lp.tmps lp.params lp.assign lp.body .ready)),(toS ks).cnt,ks.nx+1⟩:St) with fr:=lkF (rngK fn.ntmps (first++ .yld ks.nx::cap) (rcdB a.tmps ps asg body .ready) ks).fr}:=by
  unfold toS
  simp only[St.mk.injEq,true_and,rngK,and_true]
  funext k
  unfold updK
  cases k with
  | h o=>
    show (if o=ks.nx then _ else _)=_
    by_cases e:o=ks.nx
    ·simp[e,lp]
    ·simp[e];rfl
  |l d c=>simp;rfl
 have hfr:∀t,lkF (rngK fn.ntmps (first++ .yld ks.nx::cap) (rcdB a.tmps ps asg body .ready) ks).fr t=if t<(first++ .yld ks.nx::cap).length then ((first++ .yld ks.nx::cap)[t]?).getD .un else if t=fn.ntmps then .yld ks.nx else if fn.ntmps<t then lkF ks.fr (t-(fn.ntmps+1)) else .un:=by
  intro t
  show lkF (entF _ 0++(fn.ntmps, .yld ks.nx)::reix (upx (fn.ntmps+1)) ks.fr) t=_
  rw[ygv,yhS,yhs,yaJ]
  by_cases h1:t<(first++ .yld ks.nx::cap).length
  ·rw[if_pos (by simp only[Nat.zero_le,true_and,Nat.zero_add,decide_eq_true_eq];exact h1),if_pos h1,if_pos (Nat.zero_le _),Nat.sub_zero]
  ·rw[if_neg (by simp only[Nat.zero_le,true_and,Nat.zero_add,decide_eq_true_eq];exact h1),if_neg h1]
   by_cases h2:t=fn.ntmps
   ·rw[if_pos h2.symm,if_pos h2]
   ·rw[if_neg (fun e=>h2 e.symm),if_neg h2]
    by_cases h3:fn.ntmps<t
    ·rw[if_pos h3]
     exact ycf (yfs _) (by simp only[upx,Option.some.injEq];omega) _
    ·rw[if_neg h3]
     exact ycL (fun s e=>by simp only[upx,Option.some.injEq] at e;omega) _
 have hrel:RelK B2 fn.ntmps (rngK fn.ntmps (first++ .yld ks.nx::cap) (rcdB a.tmps ps asg body .ready) ks) {tmps:=vs++Array.replicate (fn.ntmps-vs.size) undef,defers:= []} G1:=by
  refine ⟨?_,hR.2⟩
  rw[hS]
  refine {((s3.fr _).put (yv::(a.tmps.toList++B.xs)) (mark++a.defers++B.df)) with defers:= ?_,tsize:=by simp only[Array.size_append,Array.size_replicate];omega,slot:= ?_,ext:= ?_}
  ·obtain ⟨rs,d1,d2,d3⟩:=hR.1.defers.le a3
   have hnew:G1.w.heap[G.w.heap.size]? =some (.deferred (some [])):=by
    rw[s1]
    show (G0.w.heap.push _)[_]? =_
    rw[Array.getElem?_push,if_neg (by omega),a1]
    exact World.alloc_heap_new G.w _
   have hI:¬G0.I G.w.heap.size:=fun hI=>by rw[a4] at hI;exact absurd (hR.1.lt _ hI) (Nat.lt_irrefl _)
   have h0:DfOk B G0 (mark++a.defers++B.df):=by
    refine ⟨G.w.heap.size::rs,?_,?_,?_⟩
    ·rw[List.map_cons,<-d1];simp[mark]
    ·refine List.nodup_cons.2 ⟨fun hm=> ?_,d2⟩
     obtain ⟨rs',c1,c2,c3⟩:=hR.1.defers
     have hinj:∀(l l':List Nat),l.map (fun r=>({target:= .collected r,args:= #[]}:Deferred))=l'.map (fun r=>{target:= .collected r,args:= #[]})→l=l':=by
      intro l
      induction l with
      | nil=>intro l' hh;cases l' with
        |nil=>rfl
        |cons _ _=>cases hh
      | cons x l ih=>intro l' hh;cases l' with
        |nil=>cases hh
        | cons y l'=>
          simp only[List.map_cons,List.cons.injEq,Deferred.mk.injEq,Target.collected.injEq,and_true] at hh
          rw[hh.1,ih l' hh.2]
     have:=hinj _ _ (d1.symm.trans c1)
     subst this
     have:=(Array.getElem?_eq_some_iff.1 (c3 _ hm).1).1
     omega
    ·intro r hr
     rcases List.mem_cons.1 hr with rfl|hr
     ·exact ⟨by rw[a1];exact World.alloc_heap_new G.w _,hI,hR.1.size⟩
     ·exact d3 r hr
   have h1:=h0.le s4
   exact h1
  ·intro t v hv'
   show VR G1 (lkF (rngK fn.ntmps (first++ .yld ks.nx::cap) (rcdB a.tmps ps asg body .ready) ks).fr t) v
   rw[hfr]
   by_cases ht:t<vs.size
   ·rw[Array.getElem?_append_left ht] at hv'
    have hta:t<(first++ .yld ks.nx::cap).length:=by omega
    rw[if_pos hta,List.getElem?_eq_getElem hta]
    exact hv.2 t _ v (List.getElem?_eq_getElem hta) (by simpa using hv')
   ·have ht2:t<fn.ntmps:=by
     have:=(Array.getElem?_eq_some_iff.1 hv').1
     simp only[Array.size_append,Array.size_replicate] at this
     omega
    rw[if_neg (by omega),if_neg (by omega),if_neg (by omega)]
    exact .un v
  ·intro j v hv'
   show VR G1 (lkF (rngK fn.ntmps (first++ .yld ks.nx::cap) (rcdB a.tmps ps asg body .ready) ks).fr (fn.ntmps+j)) v
   have hj:(yv::(a.tmps.toList++B.xs))[j]? =some v:=hv'
   rw[hfr,if_neg (by omega)]
   cases j with
   | zero=>
     rw[if_pos (by omega)]
     simp at hj;subst hj;exact hyv
   | succ j=>
     rw[if_neg (by omega),if_pos (by omega),show fn.ntmps+(j+1)-(fn.ntmps+1)=j from by omega]
     simp only[List.getElem?_cons_succ] at hj
     have hN:a.tmps.toList.length=N:=by simpa using hR.1.tsize
     by_cases hjN:j<N
     ·rw[List.getElem?_append_left (by omega)] at hj
      exact (hR.1.slot j v (by simpa using hj)).le (a3.trans s4)
     ·rw[List.getElem?_append_right (by omega),hN] at hj
      have:=hR.1.ext (j-N) v hj
      rw[show N+(j-N)=j from by omega] at this
      exact this.le (a3.trans s4)
 have hrun':(Instr.enterLoop fn0 a.tmps ps asg body (FR none).round).run P G.w= .ok (G0.w.heap.size,mark) G1.w:=by rw[s1,hG0s,a1];exact hrun
 refine ⟨G0.w.heap.size,mark,G1.w,{target:= .fn (.func f) vc,args:=vp++ #[yv]},G1.w,f,vs,G1.w,hrun',?_,fun _ _=>trivial,by rw[hvs];exact hent _ _,fun h=>(by cases h),ygW ((callsIn_wide (n:=0)).1 (callsIn_of_wp_marks hfn hb trivial ?_))⟩
 ·simp only[resolve,rangeCall]
  rw[q0]
  simp[Act.eval,Deferred.ofValue,yv]
 ·refine wpIn_mono (h B2 a.tmps asg body yv B.xs hLB.put hN hR.1.tsize rfl hA hB hps b hcc _ G1 hrel) ?_
  rintro e a' w' ⟨k',G',hR',rfl,hq⟩
  have fin:rngQ ks.nx fn.ntmps Q .r k'→LeavesInM Fence.wide 0 P fn a'.tmps (rangePost (FR none) 0 P G0.w.heap.size (yfG B N Q) {a with defers:=mark++a.defers}) a'.defers .returning G'.w:=by
   rintro ⟨hy,j,hj,hq⟩
   obtain ⟨rs,G2,d1,d2,d3,d4,d5⟩:=hR'.1.leave
   rw[d1]
   refine yil rs _ d2 d3 ?_
   obtain ⟨v,hrun2,_⟩:=ylG d5 hrr (u:= .tup []) rfl
   rw[d4] at hrun2
   refine ⟨v,hrun2,?_⟩
   rw[<-d4]
   obtain ⟨l,cap2,e2,q,k1,k2,k3,k4⟩:=d5.toMRel.recAt (o:=ks.nx) hj
   have hl2:l=G0.w.heap.size:=by
    have:VR G2 (.yld ks.nx) (.func (.yield G0.w.heap.size) #[] #[]):=by
     have:=d5.ext 0 yv rfl
     rw[show (toS k').fr (fn.ntmps+0)= .yld ks.nx from hy] at this
     exact this
    cases this with
    |yld _ l' cap' hk=>rw[k1] at hk;cases hk;rfl
    |yldd _ _ hd=>have:=((d5.toMRel.dead _).1 hd).1;rw[k2] at this;cases this
   subst hl2
   have fin2:∀ob,∃G3,G3.w=G2.w.putObj G0.w.heap.size ob∧RelK B N (dnK ks.nx fn.ntmps k') {a with defers:=mark++a.defers} G3:=by
    intro ob
    obtain ⟨G3,f1,f2⟩:=d5.shut (ob:=ob) k1 k3 (a2.size)
    refine ⟨G3,f1,?_,hR'.2⟩
    have hS3:toS (dnK ks.nx fn.ntmps k')={(toS k').kill (.h ks.nx) with fr:=lkF (dnK ks.nx fn.ntmps k').fr}:=by
     unfold toS St.kill
     simp only[St.mk.injEq,true_and,dnK,and_true]
     funext k
     unfold updK
     cases k with
     | h o=>
       show (if o=ks.nx then _ else _)=_
       by_cases e:o=ks.nx
       ·simp[e]
       ·simp[e];rfl
     |l d c=>simp;rfl
    rw[hS3]
    have hfr3:∀t,lkF (dnK ks.nx fn.ntmps k').fr t=lkF k'.fr (t+(fn.ntmps+1)):=fun t=>ycf (yhm _) (by rw[yfJ]) _
    refine {(f2.toMRel.unput.fr _) with defers:=by rw[List.append_assoc];have:=f2.defers;exact this,tsize:=hR.1.tsize,slot:= ?_,ext:= ?_}
    ·intro t v hv
     show VR G3 (lkF (dnK ks.nx fn.ntmps k').fr t) v
     rw[hfr3]
     have:=f2.ext (1+t) v (by
      show (yv::(a.tmps.toList++B.xs))[1+t]? =some v
      rw[Nat.add_comm 1 t,List.getElem?_cons_succ,List.getElem?_append_left (by simpa using (Array.getElem?_eq_some_iff.1 hv).1)]
      simpa using hv)
     rw[show fn.ntmps+(1+t)=t+(fn.ntmps+1) from by omega] at this
     exact this
    ·intro j v hv
     show VR G3 (lkF (dnK ks.nx fn.ntmps k').fr (N+j)) v
     rw[hfr3]
     have hN:a.tmps.toList.length=N:=by simpa using hR.1.tsize
     have:=f2.ext (1+(N+j)) v (by
      show (yv::(a.tmps.toList++B.xs))[1+(N+j)]? =some v
      rw[Nat.add_comm 1 (N+j),List.getElem?_cons_succ,List.getElem?_append_right (by omega),hN,show N+j-N=j from by omega]
      exact hv)
     rw[show fn.ntmps+(1+(N+j))=N+j+(fn.ntmps+1) from by omega] at this
     exact this
   cases j with
   |busy=>exact hq.elim
   | ready=>
     obtain ⟨G3,f1,f2⟩:=fin2 (.loop {q with state:= .exhausted})
     refine ⟨none,_,by rw[run_endLoop k3 (by rw[k4.1];simp)];exact congrArg (fun p=>Result.ok p _) k4.2,?_⟩
     exact ⟨_,G3,f2,f1,hq⟩
   | ret=>
     obtain ⟨G3,f1,f2⟩:=fin2 (.loop {q with state:= .exhausted})
     refine ⟨some .ret,_,by rw[run_endLoop k3 (by rw[k4.1];simp)];exact congrArg (fun p=>Result.ok p _) k4.2,?_⟩
     exact wpIn_ret ⟨_,G3,f2,f1,hq⟩
   | exit id=>
     obtain ⟨G3,f1,f2⟩:=fin2 (.loop {q with state:= .exhausted})
     refine ⟨some (.exit id),_,by rw[run_endLoop k3 (by rw[k4.1];simp)];exact congrArg (fun p=>Result.ok p _) k4.2,?_⟩
     exact wpIn_exit ⟨_,G3,f2,f1,hq⟩
  cases e with
  |normal=>exact fin hq
  |ret=>exact fin hq
  |exit id=>exact hq.elim
  |goto l=>exact hq.elim
  |panic ch=>exact hq.elim
  |outgrown=>exact hq.elim
def yc7 (o:Nat) (b:Blk) (ks:KS):KS:=⟨ks.fr,ks.mem,fun q=>if q=o then some b else ks.H q,ks.nx⟩
def yldK (N Nr:Nat) (pv:List (Nat×AV)) (ks:KS):KS:=⟨pv.foldl (fun l p=>p::l) (reix (acx (N+1) Nr) ks.fr++reix (upx Nr) ks.fr),ks.mem,ks.H,ks.nx⟩
def bkK (Nr:Nat) (ks:KS):KS:=⟨reix (dnx Nr) ks.fr,ks.mem,ks.H,ks.nx⟩
def rndQ (r N Nr:Nat) (f:LS→Blk) (K:Bool→KS→Prop):AEx→KS→Prop:=fun e ks=>ks.H r=some (f .busy)∧lkF ks.fr (Nr+N)= .yld r∧match e with
 | .n=>K true (bkK Nr (yc7 r (f .ready) ks))
 | .r=>K false (bkK Nr (yc7 r (f .ret) ks))
 | .x id=>K false (bkK Nr (yc7 r (f (.exit id)) ks))
def asgQ (r N Nr:Nat) (f:LS→Blk) (X:KS→Prop):AEx→KS→Prop:=fun e ks=>match e with
 | .n=>ks.H r=some (f .ready)/\lkF ks.fr (Nr+N)= .yld r/\X (yc7 r (f .busy) ks)
 |_=>False
theorem ynf (o:Nat) (b:Blk) (ks:KS):toS (yc7 o b ks)={toS ks with M:=updK (toS ks).M (.h o) (some b)}:=by
 unfold toS
 simp only[St.mk.injEq,true_and,yc7,and_true]
 funext k
 unfold updK
 cases k with
 | h q=>
   show (if q=o then _ else _)=_
   by_cases e:q=o
   ·simp[e]
   ·simp[e];rfl
 |l d c=>simp;rfl
theorem RelK.setLs {a:Act} {G:Gh} (h:RelK B N ks a G) {o l cap:Nat} {tm:Array Value} {ps:Array Tmp} {asg body:Code} {j j':LS} {q:Loop} {st:LoopState} {pd:Option Code} (hb:ks.H o=some (rcdB tm ps asg body j)) (hk:G.κ (.h o)=some (l,cap)) (hl:G.w.heap[l]? =some (.loop q)) (hok:lsOk j' st pd):
  ∃G',G'.w=G.w.putObj l (.loop {q with state:=st,pending:=pd})/\RelK B N (yc7 o (rcdB tm ps asg body j') ks) a G':=by
 obtain ⟨l',cap',e,q',k1,k2,k3,k4⟩:=h.1.toMRel.recAt (o:=o) (j:=j) (by rw[show (toS ks).M (.h o)=_ from hb];rfl)
 rw[hk] at k1;cases k1
 rw[hl] at k3;cases k3
 rw[show (toS ks).M (.h o)=_ from hb] at k2
 simp only[rcdB,Option.some.injEq,Blk.mk.injEq,List.cons.injEq,AV.rcd.injEq,and_true,true_and] at k2
 obtain ⟨rfl,rfl,rfl,rfl,rfl⟩:=k2
 obtain ⟨G',e1,e2⟩:=h.1.setLs (j':=j') (e:=0) (q:=q) (j:=j) hb hk hok
 exact ⟨G',e1,by rw[ynf];exact e2,h.2⟩
theorem RelK.rec {a:Act} {G:Gh} (h:RelK B N ks a G) {o l:Nat} {tm:Array Value} {ps:Array Tmp} {asg body:Code} {j:LS} (hb:ks.H o=some (rcdB tm ps asg body j)) (hy:VR G (.yld o) (.func (.yield l) #[] #[])):
  ∃(cap:Nat) (q:Loop),G.κ (.h o)=some (l,cap)/\G.w.heap[l]? =some (.loop q)/\lsOk j q.state q.pending/\q.tmps=tm/\q.params=ps/\q.assign=asg/\q.body=body:=by
 obtain ⟨l',cap',e,q,k1,k2,k3,k4⟩:=h.1.toMRel.recAt (o:=o) (j:=j) (by rw[show (toS ks).M (.h o)=_ from hb];rfl)
 rw[show (toS ks).M (.h o)=_ from hb] at k2
 simp only[rcdB,Option.some.injEq,Blk.mk.injEq,List.cons.injEq,AV.rcd.injEq,and_true,true_and] at k2
 obtain ⟨rfl,rfl,rfl,rfl,rfl⟩:=k2
 cases hy with
 |yld _ l2 cap2 hk=>rw[k1] at hk;cases hk;exact ⟨cap',q,k1,k3,k4,rfl,rfl,rfl,rfl⟩
 |yldd _ _ hd=>have:=((h.1.toMRel.dead _).1 hd).1;rw[show (toS ks).M (.h o)=_ from hb] at this;cases this
theorem ytL {G:Gh}:∀(ps:List Nat) (args:List AV) (vs:List Value) (tm:Array Value) (l:List (Nat×AV)),VRs G args vs→(∀t v,tm[t]? =some v→VR G (lkF l t) v)→
  ((ps.zip vs).foldl (fun tm p=>tm.setIfInBounds p.1 p.2) tm).size=tm.size/\∀t v,((ps.zip vs).foldl (fun tm p=>tm.setIfInBounds p.1 p.2) tm)[t]? =some v->VR G (lkF ((ps.zip args).foldl (fun l p=>p::l) l) t) v:=by
 intro ps
 induction ps with
 |nil=>intro args vs tm f _ h;exact ⟨rfl,h⟩
 | cons p ps ih=>
   intro args vs tm f hv h
   cases args with
   | nil=>cases vs with
     |nil=>exact ⟨rfl,h⟩
     |cons v vs=>cases hv.1
   | cons u us=>cases vs with
     |nil=>cases hv.1
     | cons v vs=>
       simp only[List.zip_cons_cons,List.foldl_cons]
       obtain ⟨a1,a2⟩:=ih us vs (tm.setIfInBounds p v) ((p,u)::f) hv.tail (fun t x hx=>by
        rw[yaJ]
        by_cases e:p=t
        ·subst e
         have:x=v:=by
          rw[Array.getElem?_setIfInBounds_self] at hx
          split at hx
          ·exact (Option.some.inj hx).symm
          ·cases hx
         rw[this,if_pos rfl];exact hv.head
        ·rw[if_neg e]
         rw[Array.getElem?_setIfInBounds_ne e] at hx
         exact h t x hx)
       exact ⟨by rw[a1];simp,a2⟩
theorem ykW {t:Nat}:∀(pv:List (Nat×AV)) (l:List (Nat×AV)),(∀p∈pv,p.1≠t)→lkF (pv.foldl (fun l p=>p::l) l) t=lkF l t
 | [],_,_=>rfl
 | p::pv,l,h=>by
   rw[List.foldl_cons,ykW pv (p::l) (fun q hq=>h q (List.mem_cons_of_mem _ hq)),yaJ,if_neg (h p (by simp))]
theorem DfOk.tail {G:Gh} {ds ds':List Deferred} (h:DfOk B G (ds++ds')):DfOk B G ds':=by
 obtain ⟨rs0,h1,h2,h3⟩:=h
 obtain ⟨rs,rs2,rfl,e1,e2⟩:=List.map_eq_append_iff.1 h1.symm
 exact ⟨rs2,e2.symm,(List.nodup_append.1 h2).2.1,fun q hq=>h3 q (List.mem_append_right _ hq)⟩
theorem ys1 {ro:Option Nat} {L:List AO} {i:Nat} {Q:KS→Prop} {o:AO} {x:AOpd} {args:List AOpd} {r Nr:Nat} {tm:Array Value} {ps:Array Tmp} {asg body:Code} {yv:Value} {rest:List Value} {aA aB:ycl}
  (hLB:ybR B) (e0:L[i]? =some o) (hg:gok o.guard ks.fr=true) (ho:o.op= .calv x args) (hx:ev (lkF ks.fr) x= .yld r) (hy:lkF ks.fr N= .yld r) (hH:ks.H r=some (rcdB tm ps asg body .ready)) (htm:tm.size=Nr) (hxs:B.xs=yv::(tm.toList++rest)) (hps:ps.size=args.length) (hpN:∀p∈ps,p<Nr) (hA:trC P Nr asg=some aA) (hB:trC P Nr body=some aB)
  (h:∀(B3:Base) [GB P B3] (l:Nat),ybR B3->WK P B3 Nr (some l) aA (asgQ r N Nr (rcdB tm ps asg body) (WK P B3 Nr (some l) aB (rndQ r N Nr (rcdB tm ps asg body) fun b ks'=>WD P B N ro L (i+1) Q ((ofK ks').put o.dst (.bl b))))) (yldK N Nr (ps.toList.zip (args.map (ev (lkF ks.fr)))) ks)):WD P B N ro L i Q (ofK ks):=by
 intro ops pre suf he ht a G hR
 have hR0:Rel B N (toS ks) a G:=by have:=hR.1;rw[ydl] at this;exact this
 have hko:KOk ks:=fun d b hb=>hR.2 d 1 b (by show lkO (ylm ks.mem) d=some b;rw[yf0];exact hb)
 rw[yhL e0] at ht
 cases suf with
 |nil=>simp[ybT] at ht
 | cons xo suf=>
   have hat:ops[pre.length]? =some xo:=by rw[<-Array.getElem?_toList,he];simp
   rcases ydd ht with ⟨u,g,h1,_,h2,h3,h4,h5⟩|⟨m,xs,_,_,_,_,_,_,h5,_⟩
   rotate_left
   ·subst h5;cases ho
   subst h5
   simp only at ho hg h
   rw[List.length_cons,List.range'_succ]
   simp only[wpOpsIn,hat]
   have hwant:Region.wanted xo (yielded ops a.tmps)=true:=by
    cases hx:xo.guard with
    |none=>simp[Region.wanted,hx]
    | some jb=>
      obtain ⟨j,want⟩:=jb
      rw[hx] at h2
      simp only[ycE] at h2
      split at h2<;>first|(cases h2;done)|skip
      rename_i d' hd
      split at h2<;>first|(cases h2;done)|skip
      rename_i hdN
      cases h2
      simp only[gok] at hg
      split at hg
      ·rename_i c hc
       have hdt:d'<a.tmps.size:=by rw[hR0.tsize];exact hdN
       have hslot:=hR0.slot d' a.tmps[d'] (Array.getElem?_eq_getElem hdt)
       rw[show (toS ks).fr d'= .bl c from hc] at hslot
       have hb:a.tmps[d']? =some (.bool c):=by rw[Array.getElem?_eq_getElem hdt,hslot.bl_inv]
       simp[Region.wanted,hx,yielded,hd,hb];simpa using hg
      ·cases hg
   rw[if_pos hwant]
   have hnd:∀c,xo.op≠ .defer c:=by
    intro c e
    simp[trOp,e] at h1
   obtain ⟨v,vargs,ats,hop,t1,t2⟩:=yik (TrO.plain (v:= .calv x args) ⟨u,_,h1,ho.symm⟩ rfl)
   have rx:=yaM hR0 t1
   rw[show (toS ks).fr=lkF ks.fr from rfl,hx] at rx
   have hRK:RelK B N ks a G:=⟨hR0,hko⟩
   generalize hvv:a.eval v=vv at rx
   obtain ⟨l,hl⟩:∃l,vv= .func (.yield l) #[] #[]:=by
    cases rx with
    |yld _ l cap hk=>exact ⟨l,rfl⟩
    |yldd _ _ hd=>have:=((hR0.toMRel.dead _).1 hd).1;rw[show (toS ks).M (.h r)=_ from hH] at this;cases this
   subst hl
   obtain ⟨cap,q,k1,k2,k3,k4,k5,k6,k7⟩:=hRK.rec hH rx
   have hyv:yv= .func (.yield l) #[] #[]:=by
    have:=hR0.ext 0 yv (by rw[hxs];rfl)
    rw[show (toS ks).fr (N+0)= .yld r from hy] at this
    cases this with
    |yld _ l' cap' hk=>rw[k1] at hk;cases hk;rfl
    |yldd _ _ hd=>have:=((hR0.toMRel.dead _).1 hd).1;rw[show (toS ks).M (.h r)=_ from hH] at this;cases this
   have hvs:VRs G (args.map (ev (lkF ks.fr))) (vargs.map a.eval).toList:=by
    show VRs G (args.map (ev (toS ks).fr)) _
    simpa using ykY hR0 t2
   have hvl:(vargs.map a.eval).size=q.params.size:=by rw[k5,hps];simpa using hvs.1
   refine ⟨fun _ _=>trivial,?_⟩
   rw[Oper.semAt_eq _ _ _ hnd]
   have hx':=run_yield (P:=P) k2 hvl
   rw[k4,k5,k6,k7] at hx'
   have hx'':(execOp a.eval xo).run P G.w= .ok (.round l q.fn ((ps.zip (vargs.map a.eval)).foldl (fun tmps (t,a)=>tmps.setIfInBounds t a) tm) asg body) G.w:=by
    have hv:∀f,v≠ .func f:=by
     intro f e;subst e
     simp only[yaf,Option.some.injEq] at t1;subst t1
     cases hx
    simp[execOp,hop,resolve,Deferred.ofValue,hvv,invoke,hx']
   rw[hx'',Oper.uponIn_round]
   refine ⟨fun h=>(by cases h),?_⟩
   have hfold:(ps.zip (vargs.map a.eval)).foldl (fun tmps (t,a)=>tmps.setIfInBounds t a) tm=(ps.toList.zip (vargs.map a.eval).toList).foldl (fun tm p=>tm.setIfInBounds p.1 p.2) tm:=by
    rw[<-Array.toList_zip,<-Array.foldl_toList]
   have hN:a.tmps.toList.length=N:=by simpa using hR0.tsize
   have hact:∀t,t<Nr→lkF (reix (acx (N+1) Nr) ks.fr++reix (upx Nr) ks.fr) t=lkF ks.fr (N+(1+t)):=by
    intro t ht
    have hg1:acx (N+1) Nr (N+(1+t))=some t:=ye8.2 ⟨by omega,ht⟩
    rw[ygv]
    split
    ·exact ycf (yfe _ _) hg1 _
    ·rename_i hm
     rw[ycL (fun s e=>by simp only[upx,Option.some.injEq] at e;omega)]
     exact (ycW (yfe _ _) hg1 _ (by simpa using hm)).symm
   have hup:∀j,lkF (reix (acx (N+1) Nr) ks.fr++reix (upx Nr) ks.fr) (Nr+j)=lkF ks.fr j:=by
    intro j
    rw[ygv,ye3 (fun s e=>by have:=(ye8.1 e).2;omega),if_neg (by simp)]
    exact ycf (yfs _) (by simp only[upx,Option.some.injEq];omega) _
   have htmx:∀t v,tm[t]? =some v→VR G (lkF (reix (acx (N+1) Nr) ks.fr++reix (upx Nr) ks.fr) t) v:=by
    intro t v hv
    have ht:=(Array.getElem?_eq_some_iff.1 hv).1
    rw[hact t (by omega)]
    refine hR0.ext (1+t) v ?_
    rw[hxs,Nat.add_comm 1 t,List.getElem?_cons_succ,List.getElem?_append_left (by simpa using ht)]
    simpa using hv
   obtain ⟨d1,d2⟩:=ytL ps.toList (args.map (ev (lkF ks.fr))) (vargs.map a.eval).toList tm _ hvs htmx
   let B3:Base:=B.put (a.tmps.toList++B.xs) (a.defers++B.df)
   haveI:GB P B3:=GB.put inferInstance _ _
   have hrel:RelK B3 Nr (yldK N Nr (ps.toList.zip (args.map (ev (lkF ks.fr)))) ks) {tmps:=(ps.zip (vargs.map a.eval)).foldl (fun tmps (t,a)=>tmps.setIfInBounds t a) tm,defers:= []} G:=by
    refine ⟨{((hR0.toMRel.fr (lkF (yldK N Nr (ps.toList.zip (args.map (ev (lkF ks.fr)))) ks).fr)).put (a.tmps.toList++B.xs) (a.defers++B.df)) with defers:=hR0.defers,tsize:=by rw[hfold,d1,htm],slot:=fun t v hv=> ?_,ext:=fun j v hv=> ?_},hko⟩
    ·rw[hfold] at hv
     exact d2 t v hv
    ·show VR G (lkF ((ps.toList.zip (args.map (ev (lkF ks.fr)))).foldl (fun l p=>p::l) (reix (acx (N+1) Nr) ks.fr++reix (upx Nr) ks.fr)) (Nr+j)) v
     rw[ykW _ _ (fun p hp e=>absurd (show (p.1:Nat)<Nr from hpN p.1 (by have:=(List.of_mem_zip hp).1;simpa using this)) (by rw[e];omega)),hup]
     have hv':(a.tmps.toList++B.xs)[j]? =some v:=hv
     by_cases hj:j<N
     ·rw[List.getElem?_append_left (by omega)] at hv'
      exact hR0.slot j v (by simpa using hv')
     ·rw[List.getElem?_append_right (by omega),hN] at hv'
      have:=hR0.ext (j-N) v hv'
      rw[show N+(j-N)=j from by omega] at this
      exact this
   have hyx:(a.tmps.toList++B.xs)[N]? =some (.func (.yield l) #[] #[]):=by
    rw[List.getElem?_append_right (by omega),hN,Nat.sub_self,hxs,<-hyv];rfl
   refine roundIn_of_wpIn trivial (wpIn_mono (h B3 l hLB asg hA _ G hrel) ?_)
   rintro e1 a1 w1 ⟨g1,G1,hR1,rfl,hq⟩
   cases e1 with
   |exit id=>exact hq.elim
   |ret=>exact hq.elim
   |goto l=>exact hq.elim
   |panic c=>exact hq.elim
   |outgrown=>exact hq.elim
   | normal=>
     obtain ⟨m1,m2,m3⟩:=hq
     have yv1:VR G1 (.yld r) (.func (.yield l) #[] #[]):=by
      have:=hR1.1.ext N _ hyx
      rw[show (toS g1).fr (Nr+N)= .yld r from m2] at this
      exact this
     obtain ⟨cap1,q1,c1,c2,c3,_⟩:=hR1.rec m1 yv1
     obtain ⟨G2,e1,e2⟩:=hR1.setLs (j':= .busy) (st:= .busy) (pd:=q1.pending) m1 c1 c2 rfl
     refine ⟨_,run_beginRound c2 c3.1,?_⟩
     have e1':G2.w=G1.w.putObj l (.loop {q1 with state:= .busy}):=e1
     rw[<-e1']
     refine wpIn_mono (m3 body hB _ G2 e2) ?_
     rintro e3 a3 w3 ⟨g3,G3,hR3,rfl,hq3⟩
     have fin:∀(j':LS) (jump:Option Code) (b:Bool),jump.isNone=b→lsOk j' (if jump.isNone then .ready else .done) jump→g3.H r=some (rcdB tm ps asg body .busy)→lkF g3.fr (Nr+N)= .yld r→WD P B N ro L (i+1) Q ((ofK (bkK Nr (yc7 r (rcdB tm ps asg body j') g3))).put xo.dst (.bl b))→
       ∃v w',(Instr.endRound l jump).run P G3.w= .ok v w'/\wpOpsIn (FR ro) 0 P ops (yfG B N (nQ Q)) (List.range' (pre.length+1) suf.length) (a.put xo.dst v) w':=by
      intro j' jump b hb hok n1 n2 n3
      have yv3:VR G3 (.yld r) (.func (.yield l) #[] #[]):=by
       have:=hR3.1.ext N _ hyx
       rw[show (toS g3).fr (Nr+N)= .yld r from n2] at this
       exact this
      obtain ⟨cap3,q3,p1,p2,p3,_⟩:=hR3.rec n1 yv3
      obtain ⟨G4,f1,f2⟩:=hR3.setLs (j':=j') (st:=if jump.isNone then .ready else .done) (pd:=jump) n1 p1 p2 hok
      refine ⟨_,_,run_endRound jump p2,?_⟩
      rw[<-f1,hb]
      have hfr4:∀t,lkF (bkK Nr (yc7 r (rcdB tm ps asg body j') g3)).fr t=lkF g3.fr (t+Nr):=fun t=>ycf (yhm _) (by rw[yfJ]) _
      have hS4:toS (bkK Nr (yc7 r (rcdB tm ps asg body j') g3))={toS (yc7 r (rcdB tm ps asg body j') g3) with fr:=lkF (bkK Nr (yc7 r (rcdB tm ps asg body j') g3)).fr}:=rfl
      have hrel4:Rel B N (toS (bkK Nr (yc7 r (rcdB tm ps asg body j') g3))) a G4:=by
       rw[hS4]
       refine {(f2.1.toMRel.unput.fr _) with defers:= ?_,tsize:=hR0.tsize,slot:=fun t v hv=> ?_,ext:=fun j v hv=> ?_}
       ·exact f2.1.defers.tail
       ·show VR G4 (lkF (bkK Nr (yc7 r (rcdB tm ps asg body j') g3)).fr t) v
        rw[hfr4]
        have:=f2.1.ext t v (by
         show (a.tmps.toList++B.xs)[t]? =some v
         rw[List.getElem?_append_left (by simpa using (Array.getElem?_eq_some_iff.1 hv).1)]
         simpa using hv)
        rw[Nat.add_comm Nr t] at this
        exact this
       ·show VR G4 (lkF (bkK Nr (yc7 r (rcdB tm ps asg body j') g3)).fr (N+j)) v
        rw[hfr4]
        have:=f2.1.ext (N+j) v (by
         show (a.tmps.toList++B.xs)[N+j]? =some v
         rw[List.getElem?_append_right (by omega),hN,show N+j-N=j from by omega]
         exact hv)
        rw[show Nr+(N+j)=N+j+Nr from by omega] at this
        exact this
      have:=n3 ops (pre++ [xo]) suf (by rw[he];simp) h4 (a.put xo.dst (.bool b)) G4 ⟨by rw[<-yaZ,ydl];exact hrel4.put h3 (.bl b),(ydr (show KOk (bkK Nr (yc7 r (rcdB tm ps asg body j') g3)) from hR3.2)).put⟩
      simpa using this
     cases e3 with
     |normal=>obtain ⟨n1,n2,n3⟩:=hq3;exact fin .ready none true rfl ⟨rfl,rfl⟩ n1 n2 n3
     |ret=>obtain ⟨n1,n2,n3⟩:=hq3;exact fin .ret (some .ret) false rfl ⟨rfl,rfl⟩ n1 n2 n3
     |exit id=>obtain ⟨n1,n2,n3⟩:=hq3;exact fin (.exit id) (some (.exit id)) false rfl ⟨rfl,rfl⟩ n1 n2 n3
     |goto l=>exact hq3.elim
     |panic c=>exact hq3.elim
     |outgrown=>exact hq3.elim
end
mutual
def hlt (n:Nat):AV→Bool
 | .agg cs=>hlts n cs
 | .tup cs=>hlts n cs
 | .gs (.h o) _=>decide (o<n)
 | .pt (.h o) _=>decide (o<n)
 | .yld o=>decide (o<n)
 | .fn _ a c=>hlts n a&&hlts n c
 | .sl _ _ xs=>hlts n xs
 | .ep xs _=>hlts n xs
 |_=>true
def hlts (n:Nat):List AV→Bool
 | []=>true
 |u::r=>hlt n u&&hlts n r
end
theorem yg9 {n:Nat}:∀ {l:List AV},(∀(j:Nat) (u:AV),l[j]? =some u→hlt n u=true)→hlts n l=true
 | [],_=>rfl
 | u::r,h=>by
   simp only[hlts,Bool.and_eq_true]
   exact ⟨h 0 u rfl,yg9 fun j u hu=>h (j+1) u (by simpa using hu)⟩
theorem yeH {n:Nat}:∀ {l:List AV},hlts n l=true→∀(j:Nat) (u:AV),l[j]? =some u→hlt n u=true
 | [],_,j,u,hu=>by simp at hu
 | x::r,h,j,u,hu=>by
   simp only[hlts,Bool.and_eq_true] at h
   cases j with
   |zero=>simp at hu;subst hu;exact h.1
   |succ j=>exact yeH h.2 j u (by simpa using hu)
theorem VR.hlt {B:Base} {S:St} {G:Gh} (h0:MRel B S G) {n:Nat} (hn:∀o,yaT S (.h o)→o<n):∀ {u:AV} {x:Value},VR G u x→AV.hlt n u=true:=by
 have ko:∀ {o:Nat} {r:Nat×Nat},G.κ (.h o)=some r→o<n:=fun hk=>by
  obtain ⟨b,hb,_⟩:=h0.Msome hk
  exact hn _ (h0.live _ b hb)
 have kd:∀ {o:Nat},G.dead (.h o)->o<n:=fun hd=>hn _ ((h0.dead _).1 hd).2
 have arr:∀ {us:List AV} {vs:Array Value},vs.size=us.length→(∀(j:Nat) (u:AV) (x:Value),us[j]? =some u→vs[j]? =some x→AV.hlt n u=true)→hlts n us=true:=fun {us vs} hl h=>yg9 fun j u hu=>by
  have hj:j<vs.size:=by rw[hl];exact (List.getElem?_eq_some_iff.1 hu).1
  exact h j u vs[j] hu (Array.getElem?_eq_getElem hj)
 intro u x h
 induction h with
 |agg cs vs hl h h1 ih=>simp only[AV.hlt];exact arr hl ih
 |tup cs vs hl h ih=>simp only[AV.hlt];exact arr hl ih
 |nsl z n' xs hn hx=>subst hx;rfl
 |esl n' xs hn hx a cap=>subst hx;rfl
 |sl n' xs b off cap f hI hc h h1 hn hm hq ih=>simp only[AV.hlt];exact yg9 fun j u hu=>ih j u hu
 |gs k n' b cap hk=>cases k with|l d c=>rfl|h o=>simp only[AV.hlt,decide_eq_true_eq];exact ko hk
 |gsd k n' v hk h1=>cases k with|l d c=>rfl|h o=>simp only[AV.hlt,decide_eq_true_eq];exact kd hk
 |pt k off b cap hk=>cases k with|l d c=>rfl|h o=>simp only[AV.hlt,decide_eq_true_eq];exact ko hk
 |ptd k off v hk h1=>cases k with|l d c=>rfl|h o=>simp only[AV.hlt,decide_eq_true_eq];exact kd hk
 |ep xs off b base f hI hc h h1 hq ih=>simp only[AV.hlt];exact yg9 fun j u hu=>ih j u hu
 |fn f a c va vc ha hc h h' ih ih'=>simp only[AV.hlt,Bool.and_eq_true];exact ⟨arr ha ih,arr hc ih'⟩
 |yld o l cap hk=>simp only[AV.hlt,decide_eq_true_eq];exact ko hk
 |yldd o v hk h1=>simp only[AV.hlt,decide_eq_true_eq];exact kd hk
 |_=>rfl
theorem VR.shr {G G':Gh} {n:Nat} (hκ:∀o r,o<n→G.κ (.h o)=some r→G'.κ (.h o)=some r) (hd:∀o,o<n→G.dead (.h o)→G'.dead (.h o)) (hI:∀b,G.I b→G'.I b) (hw:G'.w=G.w):∀ {u:AV} {x:Value},VR G u x→u.noL=true→AV.hlt n u=true→VR G' u x:=by
 intro u x h
 induction h with
 |bl b=>exact fun _ _=> .bl b
 |it k n=>exact fun _ _=> .it k n
 |st l s h=>exact fun _ _=> .st l s h
 |agg cs vs hl h h1 ih=>intro hn hh;simp only[AV.noL] at hn;simp only[AV.hlt] at hh;exact .agg cs vs hl (fun j u x a b=>ih j u x a b (yaK hn j u a) (yeH hh j u a)) h1
 |tup cs vs hl h ih=>intro hn hh;simp only[AV.noL] at hn;simp only[AV.hlt] at hh;exact .tup cs vs hl (fun j u x a b=>ih j u x a b (yaK hn j u a) (yeH hh j u a))
 |nsl z n xs hn hx=>exact fun _ _=> .nsl z n xs hn hx
 |esl n xs hn hx a cap=>exact fun _ _=> .esl n xs hn hx a cap
 |sl n xs b off cap f hIb hc h h1 hn hm hq ih=>intro _ hh;simp only[AV.hlt] at hh;exact .sl n xs b off cap f (hI b hIb) (fun j u a=>by rw[hw];exact hc j u a) (fun j u a=>ih j u a (yaK hq j u a) (yeH hh j u a)) h1 hn hm hq
 | gs k n b cap hk=>cases k with
   |l d c=>intro hn;simp[AV.noL] at hn
   |h o=>intro _ hh;simp only[AV.hlt,decide_eq_true_eq] at hh;exact .gs _ n b cap (hκ o _ hh hk)
 | gsd k n v hk h1=>cases k with
   |l d c=>intro hn;simp[AV.noL] at hn
   |h o=>intro _ hh;simp only[AV.hlt,decide_eq_true_eq] at hh;exact .gsd _ n v (hd o hh hk) h1
 |nptr=>exact fun _ _=> .nptr
 | pt k off b cap hk=>cases k with
   |l d c=>intro hn;simp[AV.noL] at hn
   |h o=>intro _ hh;simp only[AV.hlt,decide_eq_true_eq] at hh;exact .pt _ off b cap (hκ o _ hh hk)
 | ptd k off v hk h1=>cases k with
   |l d c=>intro hn;simp[AV.noL] at hn
   |h o=>intro _ hh;simp only[AV.hlt,decide_eq_true_eq] at hh;exact .ptd _ off v (hd o hh hk) h1
 |ep xs off b base f hIb hc h h1 hq ih=>intro _ hh;simp only[AV.hlt] at hh;exact .ep xs off b base f (hI b hIb) (fun j u a=>by rw[hw];exact hc j u a) (fun j u a=>ih j u a (yaK hq j u a) (yeH hh j u a)) h1 hq
 | fn f a c va vc ha hc h h' ih ih'=>
   intro hn hh
   simp only[AV.noL,Bool.and_eq_true] at hn
   simp only[AV.hlt,Bool.and_eq_true] at hh
   exact .fn f a c va vc ha hc (fun j u x p q=>ih j u x p q (yaK hn.1 j u p) (yeH hh.1 j u p)) (fun j u x p q=>ih' j u x p q (yaK hn.2 j u p) (yeH hh.2 j u p))
 |nfn=>exact fun _ _=> .nfn
 |yld o l cap hk=>intro _ hh;simp only[AV.hlt,decide_eq_true_eq] at hh;exact .yld o l cap (hκ o _ hh hk)
 |yldd o v hk h1=>intro _ hh;simp only[AV.hlt,decide_eq_true_eq] at hh;exact .yldd o v (hd o hh hk) h1
 |un v=>exact fun _ _=> .un v
theorem yay.shr {P:Program} {f:FuncId} {args:List AV} {H:Hp} {n:Nat} {Post:AV→Prop} (h:yay P f args H n fun av H' n'=>Post av∧H'=H∧n≤n') (hp:∀av,Post av→∀m,hlt m av=true):yay P f args H n fun av H' n'=>Post av∧H'=H∧n'=n:=by
 intro G vs hg hM hV
 refine (h G vs hg hM hV).mono ?_
 rintro e w' ⟨v,av,H',n',G',rfl,⟨hP,rfl,hn⟩,hM',rfl,hv,hno⟩
 let G2:Gh:=⟨fun k=>match k with| .h o=>if o<n then G'.κ (.h o) else none| .l _ _=>none,ybt (hSt H' n),G'.I,G'.w,fun _ _=>False⟩
 have hκ:∀o r,o<n->G'.κ (.h o)=some r->G2.κ (.h o)=some r:=fun o r ho hr=>(if_pos ho).trans hr
 have hd:∀o,o<n->G'.dead (.h o)->G2.dead (.h o):=fun o ho hq=>⟨((hM'.dead _).1 hq).1,ho⟩
 have hsh:∀ {u:AV} {x:Value},VR G' u x->u.noL=true->hlt n u=true->VR G2 u x:=VR.shr hκ hd (fun _ q=>q) rfl
 have hl0:∀d c,G'.κ (.l d c)=none:=fun d c=>hM'.κnone rfl
 have hinv:∀k r,G2.κ k=some r→G'.κ k=some r∧∃o,k= .h o∧o<n:=by
  intro k r hr
  cases k with
  |l d c=>cases hr
  | h o=>
    have hr':(if o<n then G'.κ (.h o) else none)=some r:=hr
    split at hr'
    ·rename_i ho;exact ⟨hr',o,rfl,ho⟩
    ·cases hr'
 refine ⟨v,av,H',n,G2,rfl,⟨hP,rfl,rfl⟩,⟨?_,?_,fun k=>Iff.rfl,?_,?_,hM'.lt,?_,?_,?_,Nat.le_refl _,?_,hM'.I0,hM'.I1,hM'.os,hM'.tape,hM'.output,hM'.size,hM'.same,hM.hno,⟨fun _ _ _ _ q=>q.2.elim,fun _ _ _ q=>q.2.elim,fun _ _ q=>q.2.elim,fun _ _ q=>q.2.elim,fun _ _ q=>q.2.elim,fun k b r hb hk ho hc=> ?_,fun o r hk=>⟨fun _ q=>q,fun b hb=>(hM'.fo.hh o r (hinv _ r hk).1).2 b hb⟩⟩⟩,rfl,hsh hv hno (hp av hP n),hno⟩
 ·intro k
  cases k with
  |l d c=>trivial
  | h o=>
    show yac G2 (H' o) (if o<n then G'.κ (.h o) else none)
    cases hb:H' o with
    | none=>
      have:G'.κ (.h o)=none:=hM'.κnone (k:= .h o) hb
      rw[this];split<;>trivial
    | some b=>
      have ho:o<n:=hM.live (.h o) b hb
      rw[if_pos ho]
      obtain ⟨r,hr,hB⟩:=hM'.κsome (k:= .h o) hb
      obtain ⟨r0,hr0,hB0⟩:=hM.κsome (k:= .h o) hb
      rw[hr]
      by_cases hz:b.sz=0
      ·exact (yac.loop hz).2 (show ycF G2 b r.1 from (yac.loop (G:=G') hz).1 hB)
      ·obtain ⟨cur,c1,c2,c3,c4,c5,c6,c7⟩:=(yac.cell hz).1 hB
       obtain ⟨cur0,d1,d2,d3,d4,d5,d6,d7⟩:=(yac.cell hz).1 hB0
       refine (yac.cell hz).2 ⟨cur,c1,c2,c3,c4,c5,fun j u x p q=> ?_,c7⟩
       have hj:j<cur0.size:=Nat.lt_of_lt_of_le (List.getElem?_eq_some_iff.1 p).1 d5
       exact hsh (c6 j u x p q) (yaK (hM.hno (.h o) b hb) j u p) ((d6 j u cur0[j] p (Array.getElem?_eq_getElem hj)).hlt hM fun o h=>h)
 ·intro k k' r r' hr hr' e
  exact hM'.inj k k' r r' (hinv k r hr).1 (hinv k' r' hr').1 e
 ·intro k b hb
  cases k with
  |l d c=>cases hb
  |h o=>exact hM.live (.h o) b hb
 ·intro k r hr;exact hM'.apart k r (hinv k r hr).1
 ·intro d c r hr;cases hr
 ·intro k r hr
  cases k with
  | l d c => have:(yaD G n).κ (.l d c)=none:=hM.κnone (k:= .l d c) rfl
             rw[this] at hr;cases hr
  | h o=>
    obtain ⟨b,hb,_⟩:=hM.Msome (k:= .h o) hr
    have ho:o<n:=hM.live (.h o) b hb
    rcases hM'.keep (.h o) r hr with hq|hq
    ·exact .inl (hκ o r ho hq)
    ·exact .inr (hd o ho hq)
 ·intro o r hr;exact hM'.heap o r (hinv _ r hr).1
 ·intro o ho hb
  show (if o<n then G'.κ (.h o) else none)=none
  rw[hM'.gone o ho hb];split<;>rfl
 ·obtain ⟨h1,o,rfl,_⟩:=hinv k r hk
  exact absurd ⟨ho,hc⟩ ((hM'.fo.hh o r h1).2 b hb)
end Go.AV
end
noncomputable section
namespace Go.AV
open Go.RowKit Go.RG Go.Lib
structure Enc (T:Type) where
 c:T->List AV
 sz:Nat
 pos:0<sz
 len:∀x,(c x).length=sz
 no:∀x,noLs (c x)=true
 one:∀x,(c x).all AV.one=true
def cl {T:Type} (E:Enc T) (l:List T):List AV:=l.flatMap E.c
def slA {T:Type} (E:Enc T) (l:List T):AV:= .sl false l.length (cl E l)
section
variable {T:Type} (E:Enc T)
theorem ydp (l:List T):(cl E l).length=l.length*E.sz:=by
 induction l with
 |nil=>simp[cl]
 |cons x l ih=>simp only[cl,List.flatMap_cons,List.length_append,List.length_cons,E.len] at ih⊢;rw[ih,Nat.add_mul];omega
theorem ytC (l:List T):noLs (cl E l)=true:=by
 induction l with
 |nil=>rfl
 |cons x l ih=>rw[show cl E (x::l)=E.c x++cl E l from by simp[cl],ygy,E.no,ih];rfl
theorem yo6 (l k:List T):cl E (l++k)=cl E l++cl E k:=by simp[cl]
theorem ys0 {l:List T} {m:Nat} {y:T} (h:l[m]? =some y) (o w:Nat) (hw:o+w≤E.sz):((cl E l).drop (m*E.sz+o)).take w=((E.c y).drop o).take w:=by
 induction l generalizing m with
 |nil=>simp at h
 | cons x l ih=>
   have e:cl E (x::l)=E.c x++cl E l:=by simp[cl]
   rw[e]
   cases m with
   | zero=>
     simp at h;subst h
     rw[Nat.zero_mul,Nat.zero_add,List.drop_append_of_le_length (by rw[E.len];omega),List.take_append_of_le_length (by simp[E.len];omega)]
   | succ m=>
     have:=ih (m:=m) (by simpa using h)
     rw[<-this]
     congr 1
     rw[show (m+1)*E.sz+o=E.sz+(m*E.sz+o) by rw[Nat.add_mul];omega]
     have h2:E.sz=(E.c x).length:=(E.len x).symm
     rw[h2,<-List.drop_drop,List.drop_left]
theorem yr3 {l:List T} {m:Nat} {y y':T} (h:l[m]? =some y) (o w:Nat) (hw:o+w≤E.sz) {vs:List AV} (hy:(E.c y).take o++vs++(E.c y).drop (o+w)=E.c y'):
  (cl E l).take (m*E.sz+o)++vs++(cl E l).drop (m*E.sz+o+w)=cl E (l.set m y'):=by
 induction l generalizing m with
 |nil=>simp at h
 | cons x l ih=>
   have e:cl E (x::l)=E.c x++cl E l:=by simp[cl]
   rw[e]
   cases m with
   | zero=>
     simp at h;subst h
     rw[List.set_cons_zero,show cl E (y'::l)=E.c y'++cl E l by simp[cl],<-hy]
     rw[Nat.zero_mul,Nat.zero_add,List.take_append_of_le_length (by rw[E.len];omega),List.drop_append_of_le_length (by rw[E.len];omega)]
     simp
   | succ m=>
     rw[List.set_cons_succ,show cl E (x::l.set m y')=E.c x++cl E (l.set m y') by simp[cl],<-ih (m:=m) (by simpa using h)]
     have h2:E.sz=(E.c x).length:=(E.len x).symm
     rw[show (m+1)*E.sz+o=(E.c x).length+(m*E.sz+o) by rw[<-h2,Nat.add_mul];omega,show (E.c x).length+(m*E.sz+o)+w=(E.c x).length+(m*E.sz+o+w) by omega]
     rw[List.take_length_add_append,List.drop_length_add_append]
     simp
theorem ypt (l:List T) (a b:Nat):((cl E l).drop (a*E.sz)).take (b*E.sz)=cl E ((l.drop a).take b):=by
 induction l generalizing a with
 |nil=>simp[cl]
 | cons x l ih=>
   have e:cl E (x::l)=E.c x++cl E l:=by simp[cl]
   have h2:E.sz=(E.c x).length:=(E.len x).symm
   cases a with
   | zero =>
     simp only[Nat.zero_mul,List.drop_zero]
     clear ih
     have key:∀(k:List T) (b:Nat),(cl E k).take (b*E.sz)=cl E (k.take b):=by
      intro k
      induction k with
      |nil=>intro b;simp[cl]
      | cons z k ihk=>
        intro b
        have h3:E.sz=(E.c z).length:=(E.len z).symm
        cases b with
        |zero=>simp[cl]
        | succ b=>
          rw[List.take_succ_cons,show cl E (z::k)=E.c z++cl E k by simp[cl],show cl E (z::k.take b)=E.c z++cl E (k.take b) by simp[cl],<-ihk b,show (b+1)*E.sz=(E.c z).length+b*E.sz by rw[<-h3,Nat.add_mul];omega,List.take_length_add_append]
     exact key _ b
   | succ a=>
     rw[e,List.drop_succ_cons,<-ih a,show (a+1)*E.sz=(E.c x).length+a*E.sz by rw[<-h2,Nat.add_mul];omega,List.drop_length_add_append]
end
section
variable {P:Program} {B:Base} [GB P B] {N:Nat} {ro:Option Nat} {L:List AO} {Q:KS->Prop} {ds:DS} {i:Nat} {o:AO} {T:Type} {d:Option Nat}
def toB (n:Int):UInt8:=UInt8.ofNat n.toNat
def ofB (b:UInt8):Int:=(b.toNat:Int)
end
abbrev Str:=List UInt8
def eB:Enc Bool:=⟨fun b=> [.bl b],1,by omega,fun _=>rfl,fun _=>rfl,fun _=>rfl⟩
def eI (k:IntKind):Enc Int:=⟨fun n=> [.it k n],1,by omega,fun _=>rfl,fun _=>rfl,fun _=>rfl⟩
def eS:Enc Str:=⟨fun s=> [.st s],1,by omega,fun _=>rfl,fun _=>rfl,fun _=>rfl⟩
def eSl {T:Type} (E:Enc T):Enc (List T):=⟨fun l=> [slA E l],1,by omega,fun _=>rfl,fun _=>rfl,fun _=>rfl⟩
def bAt (s:Str) (i:Int):Int:=((s[i.toNat]?.getD 0).toNat:Int)
def cnd (b:Bool) (x y:Prop):Prop:=(b=true->x)/\(b=false->y)
end Go.AV
end
noncomputable section
namespace Go.AV
open Go.RowKit Go.RG Go.Lib Go.WideShapes Go.ChangeShapes
def yfD (P:Program) (pl:TypeId→Bool):List Field→Nat→Option Nat
 | [],o=>some o
 |f::r,o=>if f.offset=o/\pl f.type=true then yfD P pl r (o+P.cellsOf f.type) else none
def yfC (P:Program):Nat→TypeId→Bool
 |0,_=>false
 | k+1,t=>match P.underlying t with
   |some .bool=>P.cellsOf t==1
   |some (.int _)=>P.cellsOf t==1
   |some .string=>P.cellsOf t==1
   |some (.slice e)=>P.cellsOf t==1&&yfC P k e&&decide (0<P.cellsOf e)
   |some (.struct fs)=>yfD P (yfC P k) fs.toList 0==some (P.cellsOf t)
   |_=>false
mutual
inductive ycg (P:Program):TypeId→List AV→Prop
 |bl (t:TypeId) (b:Bool) (h:P.underlying t=some .bool):ycg P t [.bl b]
 |it (t:TypeId) (k:IntKind) (n:Int) (h:P.underlying t=some (.int k)) (hw:(Lit.int k n).wf=true):ycg P t [.it k n]
 |st (t:TypeId) (l:List UInt8) (h:P.underlying t=some .string) (hw:l.length<=maxLen):ycg P t [.st l]
 |sl (t e:TypeId) (h:P.underlying t=some (.slice e)) (rows:List (List AV)) (hr:∀r∈rows,ycg P e r) (hm:rows.length<=maxLen):ycg P t [.sl false rows.length rows.flatten]
 |stc (t:TypeId) (fs:Array Field) (h:P.underlying t=some (.struct fs)) (us:List AV) (hf:yie P fs.toList us):ycg P t us
inductive yie (P:Program):List Field→List AV→Prop
 |nil:yie P [] []
 |cons (f:Field) (r:List Field) (p q:List AV) (hp:ycg P f.type p) (hq:yie P r q):yie P (f::r) (p++q)
end
theorem ygc {α:Type} {Q:Nat→α→Prop}:∀(n:Nat),(∀i,i<n→∃x,Q i x)→∃l:List α,l.length=n∧∀(i:Nat) (x:α),l[i]? =some x→Q i x
 |0,_=>⟨[],rfl,fun i x h=>by simp at h⟩
 | n +1,h=>by
   obtain ⟨l,h1,h2⟩:=ygc n fun i hi=>h i (by omega)
   obtain ⟨x,hx⟩:=h n (by omega)
   refine ⟨l++ [x],by simp[h1],fun i y hy=> ?_⟩
   by_cases hi:i<l.length
   ·rw[List.getElem?_append_left hi] at hy;exact h2 i y hy
   ·rw[List.getElem?_append_right (by omega)] at hy
    have:i-l.length=0:=by
     have:=(List.getElem?_eq_some_iff.1 hy).1
     simp at this;omega
    rw[this] at hy
    simp at hy;subst hy
    have:i=n:=by omega
    rw[this];exact hx
theorem ygk {sz:Nat} (h0:0<sz):∀(rows:List (List AV)),(∀r∈rows,r.length=sz)→∀(j:Nat) (u:AV),rows.flatten[j]? =some u→∃r,rows[j/sz]? =some r∧r[j % sz]? =some u
 | [],_,j,u,h=>by simp at h
 | r::rows,hr,j,u,h=>by
   have hl:r.length=sz:=hr r (by simp)
   rw[List.flatten_cons] at h
   by_cases hj:j<sz
   ·rw[List.getElem?_append_left (by omega)] at h
    rw[Nat.div_eq_of_lt hj,Nat.mod_eq_of_lt hj]
    exact ⟨r,rfl,h⟩
   ·rw[List.getElem?_append_right (by omega),hl] at h
    obtain ⟨q,h1,h2⟩:=ygk h0 rows (fun r hq=>hr r (by simp[hq])) (j-sz) u h
    have e1:j/sz=(j-sz)/sz+1:=Nat.div_eq_sub_div h0 (by omega)
    have e2:j % sz=(j-sz) % sz:=(Nat.mod_eq_sub_mod (by omega))
    rw[e1,e2]
    exact ⟨q,by simpa using h1,h2⟩
section
variable {H:Type} {enc:TypeId×Value->H} {P:Program} {G:Gh} {base:Nat} {held:Bool}
def TC (G:Gh) (us:List AV) (cs:List Value):Prop:=us.length=cs.length/\(∀(j:Nat) (u:AV) (x:Value),us[j]? =some u->cs[j]? =some x->VR G u x)/\noLs us=true/\∀u∈us,u.one=true
theorem TC.one1 {u:AV} {x:Value} (h:VR G u x) (hn:u.noL=true) (ho:u.one=true):TC G [u] [x]:=by
 refine ⟨rfl,fun j u' x' hu hx=> ?_,by simp[noLs,hn],by simp[ho]⟩
 cases j with
 |zero=>simp at hu hx;subst hu;subst hx;exact h
 |succ j=>simp at hu
theorem TC.append {us vs:List AV} {cs ds:List Value} (h:TC G us cs) (k:TC G vs ds):TC G (us++vs) (cs++ds):=by
 refine ⟨by simp[h.1,k.1],fun j u x hu hx=> ?_,by rw[ygy,h.2.2.1,k.2.2.1];rfl,fun u hu=> ?_⟩
 ·by_cases hj:j<us.length
  ·rw[List.getElem?_append_left hj] at hu
   rw[List.getElem?_append_left (by rw[<-h.1];exact hj)] at hx
   exact h.2.1 j u x hu hx
  ·rw[List.getElem?_append_right (by omega)] at hu
   rw[List.getElem?_append_right (by rw[<-h.1];omega)] at hx
   rw[<-h.1] at hx
   exact k.2.1 _ u x hu hx
 ·rcases List.mem_append.1 hu with q|q
  ·exact h.2.2.2 u q
  ·exact k.2.2.2 u q
theorem ypP (hI:∀b,b<G.w.heap.size→G.I b):∀(fuel k:Nat) (t:TypeId) (cs:List Value) (x:DataW H×List MemPlace),yfC P k t=true→DataW.trod enc P G.w base (fun _=>true) held fuel t cs=some x→cs.length=P.cellsOf t→∃us,TC G us cs∧ycg P t us:=by
 intro fuel
 induction fuel with
 |zero=>intro k t cs x _ h;simp[DataW.trod] at h
 | succ fuel ih=>
   intro k t cs x hp h hlen
   cases k with
   |zero=>cases hp
   | succ k =>
     simp only[yfC] at hp
     split at hp
     ·rename_i ht
      obtain ⟨b,rfl,_⟩:=DataW.trod_bool ht h
      exact ⟨_,TC.one1 (.bl b) rfl rfl, .bl t b ht⟩
     ·rename_i kk ht
      obtain ⟨n,rfl,_,hw⟩:=DataW.trod_int ht h
      exact ⟨_,TC.one1 (.it kk n) rfl rfl, .it t kk n ht hw⟩
     ·rename_i ht
      obtain ⟨s,rfl,_,hw⟩:=DataW.trod_string ht h
      exact ⟨_,TC.one1 (.st _ s rfl) rfl rfl, .st t _ ht (by simpa using hw)⟩
     ·rename_i e ht
      simp only[Bool.and_eq_true,decide_eq_true_eq] at hp
      obtain ⟨⟨hp1,hp2⟩,hp3⟩:=hp
      rcases DataW.trod_slice ht h with ⟨rfl,_⟩|⟨a,len,cap,elems,rest,n,hfu,rfl,_,hb,hl,hm,hel,hg,hsp,_⟩
      ·exact ⟨_,TC.one1 (.nsl false 0 [] rfl rfl) rfl rfl, .sl t e ht [] (fun r hr=>by cases hr) (by simp)⟩
      ·cases hfu
       by_cases hl0:len=0
       ·subst hl0
        exact ⟨_,TC.one1 (.esl 0 [] rfl rfl a cap) rfl rfl, .sl t e ht [] (fun r hr=>by cases hr) (by simp)⟩
       ·have hone:∀i,i<len→∃us:List AV,ycg P e us∧∃csi,G.w.cells? base (a.add (i*P.cellsOf e)) (P.cellsOf e)=some csi∧csi.length=P.cellsOf e∧TC G us csi:=by
         intro i hi
         have h1:=hg i hi
         rw[List.getElem?_eq_getElem (by rw[hel];exact hi)] at h1
         obtain ⟨csi,h2,h3⟩:=Option.bind_eq_some_iff.1 h1
         have hcl:csi.length=P.cellsOf e:=(World.cells?_some h2).2.1
         obtain ⟨us,u1,u2⟩:=ih k e csi _ hp2 h3 hcl
         exact ⟨us,u2,csi,h2,hcl,u1⟩
        obtain ⟨rows,r1,r2⟩:=ygc len hone
        have hrl:∀r∈rows,r.length=P.cellsOf e:=by
         intro r hr
         obtain ⟨i,hi⟩:=List.getElem?_of_mem hr
         obtain ⟨_,csi,_,q2,q3⟩:=r2 i r hi
         rw[q3.1,q2]
        have hcell:∀(j:Nat) (u:AV),rows.flatten[j]? =some u→∃y,G.w.cell? (a.add j)=some y∧VR G u y∧u.one=true∧u.noL=true:=by
         intro j u hu
         obtain ⟨r,q1,q2⟩:=ygk hp3 rows hrl j u hu
         obtain ⟨_,csi,s1,s2,s3⟩:=r2 _ r q1
         have hq:j % P.cellsOf e<P.cellsOf e:=Nat.mod_lt _ hp3
         have hcs:=(World.cells?_some s1).2.2 (j % P.cellsOf e) hq
         have e1:(a.add (j/P.cellsOf e*P.cellsOf e)).add (j % P.cellsOf e)=a.add j:=by
          rw[Addr.add_add]
          congr 1
          rw[Nat.mul_comm];exact Nat.div_add_mod j _
         rw[e1] at hcs
         have hx:csi[j % P.cellsOf e]? =some csi[j % P.cellsOf e]:=List.getElem?_eq_getElem (by rw[s2];exact hq)
         refine ⟨csi[j % P.cellsOf e],?_,s3.2.1 _ u _ q2 hx,s3.2.2.2 u (List.mem_of_getElem? q2),yaK s3.2.2.1 _ u q2⟩
         rw[hcs,hx]
        have hne:0<rows.flatten.length:=by
         match rows,r1,hrl with
         | r::rows,_,hrl=>
           rw[List.flatten_cons,List.length_append,hrl r (by simp)];omega
         | [],r1,_=>simp at r1;omega
        obtain ⟨y0,c0,_⟩:=hcell 0 _ (List.getElem?_eq_getElem hne)
        have ha0:a.add 0=a:=by cases a;simp[Addr.add]
        rw[ha0] at c0
        obtain ⟨ab,ao,asp⟩:=a
        have hspot:asp=none:=by
         cases asp with
         |none=>rfl
         | some q=>
           unfold World.cell? at c0
           split at c0
           ·simp at c0
           ·cases c0
        subst hspot
        have hblk:ab<G.w.heap.size:=World.block_lt_of_cell? G.w _ c0
        have hxs:∀(j:Nat) (u:AV),rows.flatten[j]? =some u→∃y,G.w.cell? ⟨ab,ao+j,none⟩=some y∧VR G u y∧u.one=true∧u.noL=true:=by
         intro j u hu
         have:=hcell j u hu
         rwa[Addr.add_lit] at this
        have hno:noLs rows.flatten=true:=yd3.2 fun u hu=>by
         obtain ⟨j,hj⟩:=List.getElem?_of_mem hu
         obtain ⟨y,_,_,_,q⟩:=hxs j u hj
         exact q
        have hty:ycg P t [.sl false rows.length rows.flatten]:= .sl t e ht rows (fun r hr=>by
         obtain ⟨i,hi⟩:=List.getElem?_of_mem hr
         exact (r2 i r hi).1) (by rw[r1];omega)
        rw[r1] at hty
        refine ⟨[.sl false len rows.flatten],TC.one1 (.sl len rows.flatten ab ao cap (fun j=>(G.w.cell? ⟨ab,ao+j,none⟩).getD undef) (hI ab hblk) ?_ ?_ ?_ hl (by omega) hno) rfl rfl,hty⟩
        ·intro j u hu
         obtain ⟨y,q1,_⟩:=hxs j u hu
         rw[q1];rfl
        ·intro j u hu
         obtain ⟨y,q1,q2,_⟩:=hxs j u hu
         simp only[q1,Option.getD_some];exact q2
        ·intro j u hu
         obtain ⟨y,q1,q2,q3,_⟩:=hxs j u hu
         simp only[q1,Option.getD_some];exact q2.one q3
     ·rename_i fs ht
      obtain ⟨xs,n,hfu,_,hcl,hxl,hf⟩:=DataW.trod_struct ht h
      cases hfu
      have key:∀(l:List Field) (i o:Nat) (tot:Nat),fs.toList.drop i=l→yfD P (yfC P k) l o=some tot→o≤cs.length→tot=cs.length→∃us,TC G us (cs.drop o)∧yie P l us:=by
       intro l
       induction l with
       | nil=>
         intro i o tot _ hc ho htot
         simp only[yfD,Option.some.injEq] at hc
         subst hc
         rw[List.drop_eq_nil_of_le (by omega)]
         exact ⟨[],⟨rfl,fun j u x hu=>by simp at hu,rfl,fun u hu=>by cases hu⟩, .nil⟩
       | cons f l ihl=>
         intro i o tot hd hc ho htot
         simp only[yfD] at hc
         split at hc
         ·rename_i hcnd
          have hfi:fs[i]? =some f:=by
           have:fs.toList[i]? =some f:=by
            have:=congrArg (·[0]?) hd
            simpa using this
           simpa using this
          have hi:i<fs.size:=(Array.getElem?_eq_some_iff.1 hfi).1
          have h1:=hf i f hfi
          rw[List.getElem?_eq_getElem (by rw[hxl];exact hi),hcnd.1] at h1
          have hmono:∀(l:List Field) (o tot:Nat),yfD P (yfC P k) l o=some tot→o≤tot:=by
           intro l
           induction l with
           |nil=>intro o tot h;simp only[yfD,Option.some.injEq] at h;omega
           | cons g l ihm=>
             intro o tot h
             simp only[yfD] at h
             split at h
             ·have:=ihm _ _ h;omega
             ·cases h
          have hle:=hmono _ _ _ hc
          obtain ⟨us,u1,u2⟩:=ih k f.type _ _ hcnd.2 h1 (by simp;omega)
          obtain ⟨vs,v1,v2⟩:=ihl (i+1) _ tot (by rw[<-List.drop_drop,hd];rfl) hc (by omega) htot
          refine ⟨us++vs,?_, .cons f l us vs u2 v2⟩
          have:=u1.append v1
          rw[<-List.drop_drop,List.take_append_drop] at this
          exact this
         ·cases hc
      obtain ⟨us,u1,u2⟩:=key fs.toList 0 0 _ rfl (by simpa using hp) (Nat.zero_le _) hlen.symm
      exact ⟨us,by simpa using u1, .stc t fs ht us u2⟩
     ·cases hp
def G0 (w:World):Gh:=⟨fun _=>none,ybt (hSt (fun _=>none) 0),fun b=>b<w.heap.size,w,fun _ _=>False⟩
theorem ys8 (w:World):MRel (yaD (G0 w) 0) (hSt (fun _=>none) 0) (G0 w):=by
 refine {blk:= ?_,inj:=fun k k' r r' h=>(by cases h),dead:=fun k=>Iff.rfl,live:= ?_,apart:=fun k r h=>(by cases h),lt:=fun b h=>h,loc:=fun d c r h=>(by cases h),keep:=fun k r h=>(by cases h),heap:=fun o r h=>(by cases h),nx:=Nat.le_refl _,gone:=fun o _ h=>h,I0:=fun b h=>h,I1:=fun b h=> .inl h,os:=rfl,tape:=rfl,output:=rfl,size:=Nat.le_refl _,same:=fun b _ _=>rfl,hno:= ?_,fo:=⟨fun _ _ _ _ q=>q.2.elim,fun _ _ _ q=>q.2.elim,fun _ _ q=>q.2.elim,fun _ _ q=>q.2.elim,fun _ _ q=>q.2.elim,fun k b r hb hk=>(by cases hk),fun o r hk=>(by cases hk)⟩}
 ·intro k;cases k<;>trivial
 ·intro k b h;cases k<;>cases h
 ·intro k b h;cases k<;>cases h
theorem GOK.none {P:Program} {w:World} {I:Nat→Prop} (h:yn1.all (fun p=>(P.globalNamed p.1).isNone)=true) (h':P.globalNamed "internal/bytealg.MaxLen" = .none) (h2:yrZ.all (fun n=>(P.globalNamed n).isNone)=true:=by kernel_rfl):GOK P w I:=
 ⟨fun name avs hm g hg=>(by have:=List.all_eq_true.1 h _ hm;rw[hg] at this;cases this),fun g hg=>(by rw[h'] at hg;cases hg),fun name hm g hg=>(by have:=List.all_eq_true.1 h2 _ hm;rw[hg] at this;cases this)⟩
theorem yjs {f:FuncId} {args:List AV} {vs:Array Value} {w:World} (hg:GOK P w fun b=>b<w.heap.size) (hp:Pure P f args (.bl true)) (hV:VRs (G0 w) args vs.toList):yeh P f vs w fun e w'=>e= .returned (.bool true)∧Below w.heap.size w w':=by
 refine (hp (fun _=>none) 0 (G0 w) vs hg (ys8 w) hV).mono ?_
 rintro e w' ⟨v,av,H',n',G',rfl,⟨rfl,rfl,rfl⟩,hM,rfl,hv,_⟩
 exact ⟨by rw[hv.bl_inv],hM.os,hM.tape,hM.output,hM.size,fun k hk=>hM.same k hk (fun ⟨k',r,hr,_⟩=>by cases hr)⟩
end
def ylO (P:Program) (t:TypeId) {T:Type} (c:T->List AV) (R:T->Prop):Prop:=∀us,ycg P t us->∃v:T,us=c v/\R v
theorem yoy {P:Program} {t:TypeId} {k:IntKind} (ht:P.underlying t=some (.int k)):ylO P t (eI k).c (fun n=>(Lit.int k n).wf=true):=by
 intro us h
 cases h with
 |bl _ b h=>rw[ht] at h;cases h
 |it _ k n h hw=>rw[ht] at h;cases h;exact ⟨n,rfl,hw⟩
 |st _ l h=>rw[ht] at h;cases h
 |sl _ e h=>rw[ht] at h;cases h
 |stc _ fs h=>rw[ht] at h;cases h
theorem ynN {P:Program} {t:TypeId} (ht:P.underlying t=some .string):ylO P t eS.c (fun s=>s.length≤maxLen):=by
 intro us h
 cases h with
 |bl _ b h=>rw[ht] at h;cases h
 |it _ k n h=>rw[ht] at h;cases h
 |st _ l h hw=>exact ⟨l,rfl,hw⟩
 |sl _ e h=>rw[ht] at h;cases h
 |stc _ fs h=>rw[ht] at h;cases h
theorem yk4 {P:Program} {t e:TypeId} {T:Type} (E:Enc T) {R:T→Prop} (ht:P.underlying t=some (.slice e)) (he:ylO P e E.c R):ylO P t (eSl E).c (fun l=>l.length≤maxLen∧∀v∈l,R v):=by
 intro us h
 cases h with
 |bl _ b h=>rw[ht] at h;cases h
 |it _ k n h=>rw[ht] at h;cases h
 |st _ l h=>rw[ht] at h;cases h
 | sl _ e h rows hr hm=>
   rw[ht] at h;cases h
   have key:∀rows:List (List AV),(∀r∈rows,ycg P e r)→∃l:List T,rows=l.map E.c∧∀v∈l,R v:=by
    intro rows
    induction rows with
    |nil=>exact fun _=>⟨[],rfl,fun v hv=>by cases hv⟩
    | cons r rows ih=>
      intro h
      obtain ⟨l,h1,h2⟩:=ih fun q hq=>h q (by simp[hq])
      obtain ⟨v,h3,h4⟩:=he r (h r (by simp))
      refine ⟨v::l,by rw[h1,h3];rfl,fun u hu=> ?_⟩
      rcases List.mem_cons.1 hu with rfl|hu
      ·exact h4
      ·exact h2 u hu
   obtain ⟨l,rfl,h2⟩:=key rows hr
   refine ⟨l,?_,by simpa using hm,h2⟩
   show [AV.sl false (l.map E.c).length (l.map E.c).flatten]= [slA E l]
   unfold slA cl
   rw[List.length_map,List.flatMap_def]
 |stc _ fs h=>rw[ht] at h;cases h
section
variable {H:Type} {enc:TypeId×Value->H} {P:Program} {w:World} {r:Reach} {v:Value} {d:DataW H} {p:List MemPlace} {held:Bool}
def ysa (P:Program) (t:TypeId):Bool:=match P.underlying t with
 |some .bool=>true
 |some (.int _)=>true
 |some .string=>true
 |some (.slice _)=>true
 |_=>false
theorem yiF {t:TypeId} (k:Nat) (hp:yfC P k t=true) (hc:ysa P t=true) {T:Type} {av:T→AV} {R:T→Prop} (ht:ylO P t (fun x=> [av x]) R) {b0:Nat} (ok:Value.okWide P w r b0 t v) (h:DataW.Trod enc P w 0 (fun _=>true) held t v d p):∃x,VR (G0 w) (av x) v∧R x:=by
 obtain ⟨fuel,h⟩:=h
 have h1:v.cells.toList= [v]∧P.cellsOf t=1:=by
  cases k with
  |zero=>cases hp
  | succ k=>
    unfold ysa at hc
    unfold yfC at hp
    revert hc
    revert hp
    cases hu:P.underlying t with
    |none=>intro _ hc;cases hc
    | some u=>
      cases u with
      |bool=>intro hp _;obtain ⟨b,rfl⟩:=okWide_bool hu ok;exact ⟨rfl,by simpa using hp⟩
      |int k=>intro hp _;obtain ⟨n,rfl⟩:=okWide_int hu ok;exact ⟨rfl,by simpa using hp⟩
      |string=>intro hp _;obtain ⟨b,rfl⟩:=okWide_string hu ok;exact ⟨rfl,by simpa using hp⟩
      |slice e=>intro hp _;obtain ⟨a,len,cap,rfl⟩:=okWide_slice hu ok;exact ⟨rfl,by simp at hp;exact hp.1.1⟩
      |_=>intro _ hc;cases hc
 rw[h1.1] at h
 obtain ⟨us,q1,q2⟩:=ypP (G:=G0 w) (fun b hb=>hb) fuel k t [v] _ hp h (by simp[h1.2])
 obtain ⟨x,rfl,hR⟩:=ht us q2
 exact ⟨x,q1.2.1 0 _ _ rfl rfl,hR⟩
theorem VRs.nil (G:Gh):VRs G [] []:=⟨rfl,fun j u x h=>by simp at h⟩
theorem ygK {f:FuncId} {F:AFn} (hF:trF P f=some F) {vs:Array Value} {Q:Ending→World→Prop} (h:yeh P f vs w Q):Calls P f vs w Q:=by
 unfold yeh at h
 rw[enters_of hF vs w] at h
 exact h
end
end Go.AV
end
noncomputable section
namespace Go.AV
open Go.RowKit
theorem ygp {b:Bool} {x y:Prop} (h:b=true->x) (k:b=false->y):cnd b x y:=⟨h,k⟩
theorem yb4 {b:Bool} {x y:Prop} (hb:b=true) (h:x):cnd b x y:=⟨fun _=>h,fun e=>(by rw[hb] at e;cases e)⟩
theorem ybd {b:Bool} {x y:Prop} (hb:b=false) (h:y):cnd b x y:=⟨fun e=>(by rw[hb] at e;cases e),fun _=>h⟩
theorem wrap64 {n:Int} (h: -9223372036854775808≤n) (k:n<9223372036854775808):IntKind.i64.wrap n=n:=by
 simp[IntKind.wrap,IntKind.bits,IntKind.signed];omega
theorem yeS:∀x:List UInt8,Op.bytesLess x x=false
 | []=>rfl
 |a::x=>by simp[Op.bytesLess,yeS x]
theorem ye4:∀x y z:List UInt8,Op.bytesLess x y=true→Op.bytesLess y z=true→Op.bytesLess x z=true
 |_,[],_,h,_=>by simp[Op.bytesLess] at h
 |_,_::_,[],_,k=>by simp[Op.bytesLess] at k
 | [],_::_,_::_,_,_=>rfl
 | a::x,b::y,c::z,h,k=>by
   simp only[Op.bytesLess,Bool.or_eq_true,Bool.and_eq_true,decide_eq_true_eq,beq_iff_eq,UInt8.lt_iff_toNat_lt,<-UInt8.toNat_inj] at*
   rcases h with h|⟨h,h'⟩<;>rcases k with k|⟨k,k'⟩
   ·exact .inl (by omega)
   ·exact .inl (by omega)
   ·exact .inl (by omega)
   ·exact .inr ⟨by omega,ye4 x y z h' k'⟩
theorem yfL:∀x y:List UInt8,Op.bytesLess x y=true∨x=y∨Op.bytesLess y x=true
 | [],[]=> .inr (.inl rfl)
 | [],_::_=> .inl rfl
 |_::_,[]=> .inr (.inr rfl)
 | a::x,b::y=>by
   simp only[Op.bytesLess,Bool.or_eq_true,Bool.and_eq_true,decide_eq_true_eq,beq_iff_eq,UInt8.lt_iff_toNat_lt,List.cons.injEq,<-UInt8.toNat_inj]
   rcases Nat.lt_trichotomy a.toNat b.toNat with h|h|h
   ·exact .inl (.inl h)
   ·rcases yfL x y with k|k|k
    ·exact .inl (.inr ⟨h,k⟩)
    ·exact .inr (.inl ⟨h,k⟩)
    ·exact .inr (.inr (.inr ⟨h.symm,k⟩))
   ·exact .inr (.inr (.inl h))
theorem lp2 {α β:Type} {L:(α→β→Prop)→α→β→Prop} (I:α→β→Prop) (m:α→β→Nat) (step:∀X a b,I a b→(∀a' b',I a' b'→m a' b'<m a b→X a' b')→L X a b) {a:α} {b:β} (ha:I a b):∀X:α→β→Prop,(∀x y,L X x y→X x y)→X a b:=by
 intro X hX
 have key:∀n a b,I a b→m a b=n→X a b:=by
  intro n
  induction n using Nat.strongRecOn with
  |_ n ih=>intro a b ha hm;exact hX a b (step X a b ha fun a' b' hb hlt=>ih (m a' b') (by omega) a' b' hb rfl)
 exact key _ a b ha rfl
end Go.AV
end
noncomputable section
namespace Go.AV
open Go.RowKit Go.RG Go.Lib
inductive RS where
 |rdy
 |busy
 |ret
 |ex (id:Nat)
inductive DV (K:Nat→Type) where
 |i (n:Int)
 |b (b:Bool)
 |s (s:Str)
 |l (e:Nat) (l:List (K e))
 |v (t:Nat) (x:K t)
structure FV (K:Nat→Type) where
 av:AV
 W:List (DV K)->List (DV K)->Prop
inductive AD (K:Nat→Type) where
 |d (x:DV K)
 |f (F:FV K)
inductive TV (K:Nat→Type) where
 |un
 |lb (b:Bool)
 |bl (b:Bool)
 |li (k:IntKind) (n:Int)
 |it (k:IntKind) (n:Int)
 |st (s:Str)
 |agg (cs:List (TV K))
 |tup (cs:List (TV K))
 |nil
 |em
 |sl (e:Nat) (l:List (K e))
 |rw (s c:Nat)
 |px (s c off:Nat)
 |pr (e s c i of:Nat)
 |ep (e:Nat) (l:List (K e)) (i of:Nat)
 |gs (l:List Str) (i:Nat)
 |nptr
 |fn (f:Nat) (a c:List (TV K))
 |fv (ps rs:List Nat) (F:FV K)
 |yl (r:Nat)
 |cn (id:Nat) (v:TV K)
inductive TB (K:Nat→Type) where
 |box (e:Nat) (cs:List (TV K))
 |row (e:Nat) (l:List (K e))
 |lrow (e n:Nat) (cs:List (TV K))
 |opq (e t:Nat) (x:K t)
structure Ty (K:Nat→Type) (t:Nat) where
 g:Bool
 c:K t->List (TV K)
 rd:List (TV K)->Option (K t)
 tb:Option (K t->UInt8)
 ob:Option (UInt8->K t)
 fl:Bool
structure Cx (K:Nat→Type) where
 T:∀t,Ty K t
 E:∀t,Enc (K t)
structure TS (K:Nat→Type) where
 fr:List (Nat×TV K)
 od:List (Nat×Option (TB K))
 nw:List (Nat×Option (TB K))
 rg:List (Nat×TV K)
 h:List RS
variable {K:Nat->Type}
def TV.s:TV K→TV K
 | .cn _ v=>v
 |v=>v
def lkT:List (Nat×TV K)→Nat→TV K
 | [],_=> .un
 | p::r,t=>match Nat.beq p.1 t with
   |true=>p.2
   |false=>lkT r t
def lkB:List (Nat×Option (TB K))→Nat→Option (TB K)
 | [],_=>none
 | p::r,t=>match Nat.beq p.1 t with
   |true=>p.2
   |false=>lkB r t
def memB:List (Nat×Option (TB K))→Nat→Bool
 | [],_=>false
 |p::r,t=>Nat.beq p.1 t||memB r t
def TS.tb (ts:TS K) (s c:Nat):Option (TB K):=match Nat.beq c 1 with
 |true=>lkB ts.od s
 | false=>match Nat.beq c 2 with
   |true=>lkB ts.nw s
   |false=>none
def TS.setb (ts:TS K) (s c:Nat) (b:Option (TB K)):TS K:=match Nat.beq c 1 with
 |true=>⟨ts.fr,(s,b)::ts.od,ts.nw,ts.rg,ts.h⟩
 |false=>⟨ts.fr,ts.od,(s,b)::ts.nw,ts.rg,ts.h⟩
def TS.put (ts:TS K) (d:Option Nat) (v:TV K):TS K:=match d with
 |some d=>⟨(d,v)::ts.fr,ts.od,ts.nw,ts.rg,ts.h⟩
 |none=>ts
def yh7:List AV→Option (List Str)
 | []=>some []
 | .st s::r=>match yh7 r with
   |some l=>some (s::l)
   |none=>none
 |_=>none
mutual
def cvA:AV→TV K
 | .bl b=> .lb b
 | .it k n=> .li k n
 | .st s=> .st s
 | .agg cs=> .agg (cvAs cs)
 | .tup cs=> .tup (cvAs cs)
 | .sl true 0 []=> .nil
 | .nptr=> .nptr
 | .fn (.func f) [] []=> .fn f [] []
 | .ep cs off=>match yh7 cs with
   |some l=> .gs l off
   |none=> .un
 |_=> .un
def cvAs:List AV→List (TV K)
 | []=> []
 |v::r=>cvA v::cvAs r
end
def tea (fr:List (Nat×TV K)):AOpd→TV K
 | .t n=>lkT fr n
 | .c v=>cvA v
def tev (fr:List (Nat×TV K)) (x:AOpd):TV K:=(tea fr x).s
def tcl (v:TV K):List (TV K):=match v.s with
 | .agg cs=>cs
 |_=> [v]
def ymn:TV K→Bool
 | .agg _| .tup _| .un| .cn _ _=>false
 |_=>true
def tone:TV K→Bool
 | .cn _ v=>ymn v
 |v=>ymn v
def twk (v:TV K):TV K:=match v.s with
 | .nil=> .em
 | .agg _=> .un
 | .tup _=> .un
 | .fn _ _ _=> .un
 | .rw _ _=> .un
 |w=>w
def tint:TV K→Option (IntKind×Int)
 | .it k n=>some (k,n)
 | .li k n=>some (k,n)
 |_=>none
def tlit:TV K→Bool
 | .li _ _=>true
 |_=>false
def tbo:TV K→Option Bool
 | .bl b=>some b
 | .lb b=>some b
 |_=>none
abbrev TR0 (K:Nat->Type):=Option (List Prop×TV K)
def tnum (op:BinOp) (k:IntKind) (a b:Int) (lit:Bool):TR0 K:=match op with
 | .add=>some ([], .it k (k.wrap (a+b)))
 | .sub=>some ([], .it k (k.wrap (a-b)))
 | .mul=>some ([], .it k (k.wrap (a*b)))
 | .quo=>match lit with
   |true=>if b=0 then none else some ([], .it k (k.wrap (a.tdiv b)))
   |false=>some ([b≠0], .it k (k.wrap (a.tdiv b)))
 | .rem=>match lit with
   |true=>if b=0 then none else some ([], .it k (a.tmod b))
   |false=>some ([b≠0], .it k (a.tmod b))
 | .and=>some ([], .it k (bits .and k a b))
 | .or=>some ([], .it k (bits .or k a b))
 | .xor=>some ([], .it k (bits .xor k a b))
 | .lss=>some ([], .bl (decide (a<b)))
 | .leq=>some ([], .bl (decide (a<=b)))
 | .gtr=>some ([], .bl (decide (b<a)))
 | .geq=>some ([], .bl (decide (b<=a)))
 |_=>none
def tsh (op:BinOp) (k:IntKind) (a b:Int):Option (TV K):=match op with
 | .shl=>some (.it k (k.wrap (a*2^(min b.toNat k.bits))))
 | .shr=>some (.it k (a.fdiv (2^(min b.toNat k.bits))))
 |_=>none
def tshi (op:BinOp) (k:IntKind) (a b:Int) (lit:Bool):TR0 K:=match tsh op k a b with
 | some v=>match lit with
   |true=>if b<0 then none else some ([],v)
   |false=>some ([¬b<0],v)
 |none=>none
def tstr (op:BinOp) (a b:Str):TR0 K:=match op with
 | .add=>some ([a.length+b.length<=9223372036854775807], .st (a++b))
 | .lss=>some ([], .bl (Op.bytesLess a b))
 | .leq=>some ([], .bl (Op.bytesLess a b||a==b))
 | .gtr=>some ([], .bl (!(Op.bytesLess a b||a==b)))
 | .geq=>some ([], .bl (!Op.bytesLess a b))
 |_=>none
def yss:BinOp→Bool
 | .shl| .shr=>true
 |_=>false
def tbin (op:BinOp) (x y:TV K):TR0 K:=match x,y with
 | .st a, .st b=>tstr op a b
 | x,y=>match tint x,tint y with
   | some (k,a),some (k',b)=>match yss op with
     |true=>tshi op k a b (tlit y)
     |false=>if k=k' then tnum op k a b (tlit y) else none
   |_,_=>none
def teq1:Nat→TV K→TV K→Option Bool
 | 0,x,y=>match tbo x,tbo y with
   |some a,some b=>some (a==b)
   |_,_=>none
 | 1,x,y=>match tint x,tint y with
   |some (k,a),some (k',b)=>if k=k' then some (a==b) else none
   |_,_=>none
 |2, .st a, .st b=>some (a==b)
 |_,_,_=>none
def teq (g:Bool) (kind:Nat) (x y:TV K):TR0 K:=match kind with
 | 4=>match x,y with
   | .nil, .nil=>some ([], .lb (!g))
   |_,_=>none
 | 3=>match x,y with
   | .nptr, .nptr=>some ([], .lb (!g))
   |_,_=>none
 | k=>match teq1 k x y with
   |some b=>some ([], .bl (ngB g b))
   |none=>none
def teqL:List Nat→List (TV K)→List (TV K)→Option Bool
 | [],[],[]=>some true
 | k::ks,a::r,b::q=>match teq1 k a.s b.s,teqL ks r q with
   |some x,some y=>some (x&&y)
   |_,_=>none
 |_,_,_=>none
def yiT (cells:List (TV K)):List (Nat×Nat×TV K)→Option (List (TV K))
 | []=>some cells
 | (off,sz,v)::r=>match Nat.beq (tcl v).length sz&&Nat.ble (off+sz) cells.length&&(tcl v).all tone with
   |true=>yiT (cells.take off++tcl v++cells.drop (off+sz)) r
   |false=>none
def tbnd (fr:List (Nat×TV K)) (d:Int):Option AOpd→Option Int
 |none=>some d
 | some x=>match tint (tev fr x) with
   |some (_,n)=>some n
   |none=>none
def tmnL (mx:Bool) (k:IntKind) (a:Int):List (TV K)→Option (TV K)
 | []=>some (.it k a)
 | v::r=>match tint v with
   |some (k',b)=>if k'=k then tmnL mx k (match mx with|true=>if b>a then b else a|false=>if b<a then b else a) r else none
   |none=>none
def yom (ts:TS K) (s c:Nat) (v:TV K):TR0 K:=match ts.tb s c with
 |some _=>some ([],v)
 |none=>none
def tlvx (ts:TS K) (s c:Nat) (v:TV K):TR0 K:=match ts.tb s c with
 |some (.box _ _)=>some ([],v)
 |some (.opq _ _ _)=>some ([],v)
 |_=>none
def selI:List (TV K)→Option (IntKind×List Int)
 | []=>none
 | v ::r=>match tint v.s with
   | some (k,n)=>match r with
     | []=>some (k,[n])
     | _::_=>match selI r with
       |some (k',l)=>if k=k' then some (k,n::l) else none
       |none=>none
   |none=>none
def selS:List (TV K)→Option (List Str)
 | []=>some []
 | v::r=>match v.s,selS r with
   | .st s,some l=>some (s::l)
   |_,_=>none
def tsel (cs:List (TV K)) (len:Nat) (i:Int):TR0 K:=match selI cs with
 |some (k,l)=>some ([0<=i/\i<len], .it k ((l[i.toNat]?).getD 0))
 | none=>match selS cs with
   |some l=>some ([0<=i/\i<len], .st ((l[i.toNat]?).getD []))
   |none=>none
def tqv (ts:TS K) (u:AOp):TR0 K:=let fr:=ts.fr;match u with
 | .mv x=>some ([],tea fr x)
 | .bld z parts=>match yiT (cvAs z) (parts.map fun p=>(p.1,p.2.1,tea fr p.2.2)) with
   |some cs=>some ([], .agg cs)
   |none=>none
 | .nck x=>match tev fr x with
   | .px s c o=>tlvx ts s c (.px s c o)
   | .pr e s c i o=>yom ts s c (.pr e s c i o)
   | .ep e l i o=>some ([], .ep e l i o)
   | .gs l i=>some ([], .gs l i)
   | .fn f a c=>some ([], .fn f a c)
   | .fv ps rs F=>some ([], .fv ps rs F)
   |_=>none
 | .bin op x y=>tbin op (tev fr x) (tev fr y)
 | .eq g kind x y=>match tev fr x with
   | .px s c _=>match kind,tev fr y with
     |3, .nptr=>tlvx ts s c (.lb g)
     |_,_=>none
   |u=>teq g kind u (tev fr y)
 | .eqs g ks x y=>match tev fr x,tev fr y with
   | .agg a, .agg b=>match teqL ks a b with
     |some r=>some ([], .bl (ngB g r))
     |none=>none
   |_,_=>none
 | .un op x=>match op with
   | .neg=>match tint (tev fr x) with
     |some (k,n)=>some ([], .it k (k.wrap (0-n)))
     |none=>none
   | .not=>match tev fr x with
     | .lb b=>some ([], .lb (!b))
     | .bl b=>some ([], .bl (!b))
     |_=>none
   |_=>none
 | .cvi k x=>match tint (tev fr x) with
   |some (_,n)=>some ([], .it k (k.wrap n))
   |none=>none
 | .cvs x=>match tev fr x with
   | .st l=>some ([], .st l)
   |_=>none
 | .sls x lo hi=>match tev fr x with
   | .st l=>match tbnd fr 0 lo,tbnd fr l.length hi with
     |some a,some b=>some ([0<=a/\a<=b/\b<=l.length], .st ((l.drop a.toNat).take (b.toNat-a.toNat)))
     |_,_=>none
   |_=>none
 | .fad off x=>match tev fr x with
   | .px s c o=>tlvx ts s c (.px s c (o+off))
   | .pr e s c i o=>yom ts s c (.pr e s c i (o+off))
   | .ep e l i o=>some ([], .ep e l i (o+off))
   |_=>none
 | .fld g off sz x=>match tev fr x with
   | .agg cs=>match g with
     |true=>some ([], .agg ((cs.drop off).take sz))
     | false=>match cs[off]? with
       |some v=>some ([],v)
       |none=>none
   |_=>none
 | .iada len sz x i=>match tev fr x,tev fr i with
   | .px s c o, .li _ i=>if 0<=i/\i<len then tlvx ts s c (.px s c (o+i.toNat*sz)) else none
   | .gs l o,y=>match tint y with
     |some (_,i)=>some ([0<=i/\i<len], .gs l (o+i.toNat*sz))
     |none=>none
   |_,_=>none
 | .idxs x i=>match tev fr x,tint (tev fr i) with
   | .st l,some (_,i)=>some ([0<=i/\i<l.length], .it .u8 (bAt l i))
   |_,_=>none
 | .idxa g len sz x i=>match tev fr x,tev fr i with
   | .agg cs, .li _ i=>if 0≤i∧i<len then (match g with
     |true=>some ([], .agg ((cs.drop (i.toNat*sz)).take sz))
     | false=>match cs[i.toNat*sz]? with
       |some v=>some ([],v)
       |none=>none) else none
   | .agg cs, .it _ i=>match !g&&Nat.beq sz 1&&Nat.ble len cs.length with
     |true=>tsel cs len i
     |false=>none
   |_,_=>none
 | .ext x i=>match tev fr x with
   | .tup vs=>match vs[i]? with
     |some v=>some ([],v)
     |none=>none
   |_=>none
 | .lens x=>match tev fr x with
   | .st l=>some ([], .it .i64 (l.length:Int))
   |_=>none
 | .cpn x=>match tev fr x with
   | .nil=>some ([], .li .i64 0)
   |_=>none
 | .mnx mx xs=>match xs with
   | []=>none
   | x ::r=>match tint (tev fr x) with
     | some (k,a)=>match tmnL mx k a (r.map (tev fr)) with
       |some v=>some ([],v)
       |none=>none
     |none=>none
 | .mkf (.func f) a c=>some ([], .fn f (a.map (tea fr)) (c.map (tea fr)))
 |_=>none
def andL:List Prop→Prop→Prop
 | [],p=>p
 |c::r,p=>c/\andL r p
def ifL (b:Bool) (c:Prop):List Prop:=match b with
 |true=> []
 |false=> [c]
def yfH (e e':Nat) (l:List (K e)):Option (List (K e')):=if h:e=e' then some (h▸l) else none
def yk2 {T:Type} (mk:List (TV K)→Option T) (sz:Nat):Nat→List (TV K)→Option (List T)
 |0,_=>some []
 | n+1,cs=>match mk ((cs.take sz).map TV.s),yk2 mk sz n (cs.drop sz) with
   |some x,some r=>some (x::r)
   |_,_=>none
def trow (C:Cx K) (e:Nat) (b:Option (TB K)):Option (List (K e)):=match b with
 |some (.row e' l)=>yfH e' e l
 | some (.lrow e' n cs)=>match Nat.beq e' e with
   |true=>yk2 (C.T e).rd (C.E e).sz n cs
   |false=>none
 |_=>none
def tbe:Option (TB K)→Nat
 |some (.row e _)=>e
 |some (.lrow e _ _)=>e
 |_=>0
def tln:Option (TB K)→Option Nat
 |some (.row _ l)=>some l.length
 |some (.lrow _ n _)=>some n
 |_=>none
def tfew:Option (TB K)→Bool
 |some (.lrow _ n _)=>Nat.ble n 1000
 |_=>false
def tldc (g:Bool) (sz off:Nat) (cs:List (TV K)):Option (TV K):=match g with
 | true=>match Nat.ble (off+sz) cs.length with
   |true=>some (.agg ((cs.drop off).take sz))
   |false=>none
 |false=>cs[off]?
def wpo' {α:Type} (o:Option α) (X:α→Prop):Prop:=match o with
 |some x=>X x
 |none=>False
def tld (C:Cx K) (g:Bool) (sz:Nat) (ts:TS K) (X:TV K→Prop):TV K→Prop
 | .px s c off=>match ts.tb s c with
   |some (.box _ cs)=>wpo' (tldc g sz off cs) X
   |some (.lrow _ _ cs)=>wpo' (tldc g sz off cs) X
   |_=>False
 | .pr e s c i of=>wpo' (trow C e (ts.tb s c)) fun l=>∃y:K e,l[i]? =some y/\wpo' (tldc g sz of ((C.T e).c y)) X
 | .ep e l i of=>∃y:K e,l[i]? =some y/\wpo' (tldc g sz of ((C.T e).c y)) X
 | .gs l i=>match g with
   | true=>match Nat.beq i 0&&Nat.beq sz l.length with
     |true=>X (.agg (l.map .st))
     |false=>False
   |false=>∃y:Str,l[i]? =some y/\X (.st y)
 |_=>False
def yeE (cs:List (TV K)) (off:Nat) (vs:List (TV K)):List (TV K):=cs.take off++vs++cs.drop (off+vs.length)
def tsto (C:Cx K) (sz:Nat) (ts:TS K) (vs:List (TV K)) (X:TS K→Prop):TV K→Prop
 | .px s c off=>match ts.tb s c with
   | some (.box e cs)=>match Nat.beq vs.length sz&&vs.all tone&&Nat.ble (off+sz) cs.length with
     |true=>X (ts.setb s c (some (.box e (yeE cs off vs))))
     |false=>False
   |_=>False
 | .pr e s c i of=>match Nat.beq vs.length sz&&vs.all tone&&Nat.ble (of+sz) (C.E e).sz with
   |true=>wpo' (trow C e (ts.tb s c)) fun l=>∃y:K e,l[i]? =some y/\wpo' ((C.T e).rd ((yeE ((C.T e).c y) of vs).map TV.s)) fun y'=>X (ts.setb s c (some (.row e (l.set i y'))))
   |false=>False
 |_=>False
def ydG (ts:TS K) (d:Nat) (p:Prop):Prop:=match memB ts.nw d with
 |true=>False
 |false=>p
def tnew (ts:TS K) (d:Option Nat) (b:TB K) (v:Nat->TV K):TS K:=(ts.setb (site d) 2 (some b)).put d (v (site d))
def tiad (C:Cx K) (sz:Nat) (ts:TS K) (q:Int) (X:TV K→Prop):TV K→Prop
 | .sl e l=>match Nat.beq sz (C.E e).sz with
   |true=>0<=q/\q<l.length/\X (.ep e l q.toNat 0)
   |false=>False
 | .rw s c=>match Nat.beq sz (C.E (tbe (ts.tb s c))).sz with
   |true=>wpo' (trow C (tbe (ts.tb s c)) (ts.tb s c)) fun l=>0<=q/\q<l.length/\X (.pr (tbe (ts.tb s c)) s c q.toNat 0)
   |false=>False
 |_=>False
def tsrc (C:Cx K) (e:Nat) (ts:TS K):TV K→Option (List (K e))
 | .sl e' l=>yfH e' e l
 | .rw s c=>trow C e (ts.tb s c)
 | .nil=>some []
 | .em=>some []
 |_=>none
def yiu (ts:TS K):TV K→Bool
 | .rw s c=>tfew (ts.tb s c)
 | .nil=>true
 | .em=>true
 |_=>false
def trw (s:Nat):TV K:= .rw s 2
def tapp (C:Cx K) (e:Nat) (d:Option Nat) (ts:TS K) (l2:List (K e)) (c2:List Prop) (X:TS K→Prop):TV K→Prop
 | .nil=>ydG ts (site d) (andL c2 (X (tnew ts d (.row e l2) trw)))
 | .rw s c=>ydG ts (site d) (wpo' (trow C e (ts.tb s c)) fun l=>andL (ifL (tfew (ts.tb s c)) (l.length<=1000000000)) (andL c2 (X (tnew (ts.setb s c none) d (.row e (l++l2)) trw))))
 |_=>False
def tnwf (ts:TS K) (d:Option Nat) (v:TV K):TS K:=(ts.setb (site d) 2 none).put d v
def tapf (C:Cx K) (e:Nat) (d:Option Nat) (ts:TS K) (l2:List (K e)) (c2:List Prop) (X:TS K→Prop):TV K→Prop
 | .nil=>ydG ts (site d) (andL c2 (X (tnwf ts d (.sl e l2))))
 | .rw s c=>ydG ts (site d) (wpo' (trow C e (ts.tb s c)) fun l=>andL (ifL (tfew (ts.tb s c)) (l.length<=1000000000)) (andL c2 (X (tnwf (ts.setb s c none) d (.sl e (l++l2))))))
 |_=>False
mutual
def yed (s c:Nat):TV K→TV K
 | .agg cs=> .agg (ye2 s c cs)
 | .tup cs=> .tup (ye2 s c cs)
 | .rw s' c'=>match Nat.beq s s'&&Nat.beq c c' with
   |true=> .un
   |false=> .rw s' c'
 | .pr e s' c' i o=>match Nat.beq s s'&&Nat.beq c c' with
   |true=> .un
   |false=> .pr e s' c' i o
 | .fn _ _ _=> .un
 | .cn i v=> .cn i v
 |v=>v
def ye2 (s c:Nat):List (TV K)→List (TV K)
 | []=> []
 |v::r=>yed s c v::ye2 s c r
end
def ymv {T:Type} (l:List T) (a b:Int):List T:=(l.drop a.toNat).take (b.toNat-a.toNat)
def mapB (f:TV K→TV K):Option (TB K)→Option (TB K)
 |some (.box e cs)=>some (.box e (cs.map f))
 |some (.lrow e n cs)=>some (.lrow e n (cs.map f))
 |b=>b
def mapF (f:TV K→TV K):List (Nat×TV K)→List (Nat×TV K)
 | []=> []
 |p::r=>(p.1,f p.2)::mapF f r
def mapM (f:TV K→TV K):List (Nat×Option (TB K))→List (Nat×Option (TB K))
 | []=> []
 |p::r=>(p.1,mapB f p.2)::mapM f r
def TS.mapv (ts:TS K) (f:TV K->TV K):TS K:=⟨mapF f ts.fr,mapM f ts.od,mapM f ts.nw,ts.rg,ts.h⟩
inductive PD where
 |v (t:Nat)
 |p (t:Nat)
 |f (ps rs:List Nat)
structure Sp (K:Nat→Type) where
 f:Nat
 ps:List PD
 rs:List Nat
 W:List (AD K)->List (DV K)->Prop
def RTy (K:Nat→Type):List Nat→Type
 | []=>Prop
 |r::rs=>K r->RTy K rs
def FTy (K:Nat→Type) (rs:List Nat):List Nat→Type
 | []=>RTy K rs
 |p::ps=>K p->FTy K rs ps
def PTy (K:Nat→Type):PD→Type
 | .v t=>K t
 | .p t=>K t
 | .f az bs=>FTy K bs az
def WTy (K:Nat→Type) (rs:List Nat):List PD→Type
 | []=>RTy K rs
 |p::ps=>PTy K p->WTy K rs ps
def curR:(rs:List Nat)→(List (DV K)→Prop)→RTy K rs
 | [],W=>W []
 |r::rs,W=>fun x=>curR rs fun b=>W (.v r x::b)
def curF (rs:List Nat):(ps:List Nat)→(List (DV K)→List (DV K)→Prop)→FTy K rs ps
 | [],W=>curR rs (W [])
 |p::ps,W=>fun x=>curF rs ps fun a b=>W (.v p x::a) b
def apR:(rs:List Nat)→RTy K rs→List (DV K)→Prop
 | [],w,[]=>w
 |r::rs,w, .v t x::b=>if h:t=r then apR rs (w (h▸x)) b else False
 |_,_,_=>False
def outP:(p:PD)→AD K→Option (PTy K p)
 | .v p, .d (.v t x)=>if h:t=p then some (h▸x) else none
 | .p p, .d (.v t x)=>if h:t=p then some (h▸x) else none
 | .f az bs, .f F=>some (curF bs az F.W)
 |_,_=>none
def appW (rs:List Nat):(ps:List PD)→WTy K rs ps→List (AD K)→List (DV K)→Prop
 | [],w,[],b=>apR rs w b
 | p::ps,w,x::a,b=>match outP p x with
   |some y=>appW rs ps (w y) a b
   |none=>False
 |_,_,_,_=>False
def lkS:List (Sp K)→Nat→Option (Sp K)
 | [],_=>none
 | p::r,f=>match Nat.beq p.f f with
   |true=>some p
   |false=>lkS r f
def outV (C:Cx K) (t:Nat) (v:TV K):Option (K t):=match (C.T t).g,v.s with
 |true, .agg cs=>(C.T t).rd (cs.map TV.s)
 |true,_=>none
 |false, .agg _=>none
 |false,w=>(C.T t).rd [w]
def out1 (C:Cx K):PD→TV K→Option (AD K)
 | .v t,v=>match outV C t v with
   |some x=>some (.d (.v t x))
   |none=>none
 | .p t,v=>match v.s with
   | .ep e [x] 0 0=>if h:e=t then some (.d (.v t (h▸x))) else none
   |_=>none
 | .f _ _,_=>none
def outD (C:Cx K):List PD→List (TV K)→Option (List (AD K))
 | [],[]=>some []
 | p::ps,v::vs=>match out1 C p v,outD C ps vs with
   |some x,some r=>some (x::r)
   |_,_=>none
 |_,_=>none
def ysw (C:Cx K) (sp:Sp K) (np:Nat) (a c:List (TV K)):Option (List (AD K)×List (AD K)):=
 match outD C (sp.ps.take a.length) a,outD C (sp.ps.drop (a.length+np)) c with
 |some x,some y=>some (x,y)
 |_,_=>none
mutual
def tAV (C:Cx K):TV K→AV
 | .lb b=> .bl b
 | .bl b=> .bl b
 | .li k n=> .it k n
 | .it k n=> .it k n
 | .st s=> .st s
 | .agg cs=> .agg (tAVs C cs)
 | .tup cs=> .tup (tAVs C cs)
 | .nil=> .sl false 0 []
 | .em=> .sl false 0 []
 | .sl e l=>slA (C.E e) l
 | .ep e l i of=> .ep (cl (C.E e) l) (i*(C.E e).sz+of)
 | .gs l i=> .ep (l.map .st) i
 | .nptr=> .nptr
 | .fn f a c=> .fn (.func f) (tAVs C a) (tAVs C c)
 | .fv _ _ F=>F.av
 | .yl r=> .yld r
 | .cn _ v=>tAV C v
 |_=> .un
def tAVs (C:Cx K):List (TV K)→List AV
 | []=> []
 |v::r=>tAV C v::tAVs C r
end
def allV:List PD→Bool
 | []=>true
 | .v _::r=>allV r
 |_=>false
mutual
def yaE:TV K→Bool
 | .agg cs=>yaQ cs
 | .tup cs=>yaQ cs
 | .fn _ a c=>yaQ a&&yaQ c
 | .rw _ _| .px _ _ _| .pr _ _ _ _ _| .cn _ _| .un=>false
 |_=>true
def yaQ:List (TV K)→Bool
 | []=>true
 |v::r=>yaE v&&yaQ r
end
def ynM (C :Cx K) (Φ:List (Sp K)):PD→TV K→Option (AD K)
 | .f ps _,v=>match v.s with
   | .fv _ _ F=>some (.f F)
   | .fn f a c=>match lkS Φ f with
     | some sp=>match ysw C sp ps.length a c with
       | some (x,y)=>match allV ((sp.ps.drop a.length).take ps.length)&&yaQ a&&yaQ c with
         | true=>some (.f ⟨.fn (.func f) (tAVs C a) (tAVs C c),fun e r=>match Nat.beq e.length ps.length with
           |true=>sp.W (x++e.map .d++y) r
           |false=>False⟩)
         |false=>none
       |none=>none
     |none=>none
   |_=>none
 |p,v=>out1 C p v
def outA (C:Cx K) (Φ:List (Sp K)):List PD→List (TV K)→Option (List (AD K))
 | [],[]=>some []
 | p::ps,v::vs=>match ynM C Φ p v,outA C Φ ps vs with
   |some x,some r=>some (x::r)
   |_,_=>none
 |_,_=>none
def inV (C:Cx K) (t:Nat) (x:K t):TV K:=match (C.T t).g with
 |true=> .agg ((C.T t).c x)
 | false=>match (C.T t).c x with
   | [v]=>v
   |_=> .un
def exR (C:Cx K):List Nat→(List (DV K)→List (TV K)→Prop)→Prop
 | [],p=>p [] []
 |t::r,p=>∃z:K t,exR C r fun a b=>p (.v t z::a) (inV C t z::b)
def tres:List (TV K)→TV K
 | [v]=>v
 |vs=> .tup vs
def twf (C:Cx K) (sp:Sp K) (env:List (AD K)) (X:TV K->Prop):Prop:=exR C sp.rs fun rs vs=>sp.W env rs/\X (tres vs)
def yi3 (C:Cx K):TS K→List (TV K)→Option (List (TV K)×TS K)
 |ts,[]=>some ([],ts)
 | ts, v::r=>match v.s with
   | .rw s c=>match trow C (tbe (ts.tb s c)) (ts.tb s c) with
     | some l=>match yi3 C (ts.setb s c none) r with
       |some (ws,ts')=>some (.sl (tbe (ts.tb s c)) l::ws,ts')
       |none=>none
     |none=>none
   | _=>match yi3 C ts r with
     |some (ws,ts')=>some (v::ws,ts')
     |none=>none
def vt1 (C:Cx K) (ts:TS K) (v:TV K):TV K:=match v.s with
 | .rw s c=>match trow C (tbe (ts.tb s c)) (ts.tb s c) with
   |some l=> .sl (tbe (ts.tb s c)) l
   |none=> .un
 |_=>v
def vtV (C:Cx K) (ts:TS K) (v:TV K):TV K:=match v.s with
 | .agg cs=> .agg (cs.map (vt1 C ts))
 |_=>vt1 C ts v
def flR (C:Cx K) (sp:Sp K):Bool:=sp.rs.all fun t=>(C.T t).fl
def flS (C:Cx K) (Φ:List (Sp K)) (f:Nat):Bool:=match lkS Φ f with
 |some sp=>flR C sp
 |none=>false
def ymN (C:Cx K) (Φ:List (Sp K)) (ts:TS K) (d:Option Nat) (f:Nat) (vs:List (TV K)) (X:TS K→Prop):Prop:=
 match lkS Φ f with
 | some sp=>match flR C sp with
   | true=>match outA C Φ sp.ps (vs.map (vtV C ts)) with
     |some env=>twf C sp env fun v=>X (ts.put d v)
     |none=>False
   | false=>match yi3 C ts vs with
     | some (ws,ts')=>match outA C Φ sp.ps ws with
       |some env=>twf C sp env fun v=>X (ts'.put d v)
       |none=>False
     |none=>False
 |none=>False
def adD:AD K→Option (DV K)
 | .d y=>some y
 | .f _=>none
def yqs (C:Cx K) (ts:TS K) (d:Option Nat) (F:FV K) (ps rs:List Nat) (vs:List (TV K)) (X:TS K→Prop):Prop:=
 match yi3 C ts vs with
 | some (ws,ts')=>match outD C (ps.map .v) ws with
   |some env=>exR C rs fun r us=>F.W (env.filterMap adD) r/\X (ts'.put d (tres us))
   |none=>False
 |none=>False
mutual
def rnV (A:Nat→Nat→Option (TV K)) (B:Nat→Nat→Option Nat):TV K→TV K
 | .agg cs=> .agg (rnVs A B cs)
 | .tup cs=> .tup (rnVs A B cs)
 | .fn f a c=> .fn f (rnVs A B a) (rnVs A B c)
 | .rw s c=>match A s c with
   |some w=>w
   |none=> .un
 | .px s c o=>match B s c with
   |some s1=> .px s1 1 o
   |none=> .un
 | .pr e s c i o=>match A s c with
   |some (.rw s1 _)=> .pr e s1 1 i o
   |_=> .un
 |v=>v
def rnVs (A:Nat→Nat→Option (TV K)) (B:Nat→Nat→Option Nat):List (TV K)→List (TV K)
 | []=> []
 |v::r=>rnV A B v::rnVs A B r
end
def nwL:List (Nat×Option (TB K))→List (Nat×Option (TB K))
 | []=> []
 | p::r=>match Nat.ble 2000000 p.1 with
   |true=>nwL r
   |false=>p::nwL r
def erN (nw:List (Nat×Option (TB K))) (s c:Nat):Option Nat:=match memB nw s with
 | true=>match Nat.beq c 2 with
   |true=>some s
   |false=>none
 | false=>match Nat.beq c 1 with
   |true=>some s
   |false=>none
def erA (ts:TS K) (s c:Nat):Option (TV K):=match tln (ts.tb s c) with
 | some _=>match erN (nwL ts.nw) s c with
   |some s=>some (.rw s 1)
   |none=>none
 |none=>none
def erB (ts:TS K) (s c:Nat):Option Nat:=match ts.tb s c with
 |some (.box _ _)=>erN (nwL ts.nw) s c
 |some (.opq _ _ _)=>erN (nwL ts.nw) s c
 |_=>none
def er (ts:TS K):TS K:=⟨mapF (rnV (erA ts) (erB ts)) ts.fr,mapM (rnV (erA ts) (erB ts)) (nwL ts.nw++ts.od),[],ts.rg,ts.h⟩
def fzS (ts:TS K) (s0:Nat) (w:TV K) (s c:Nat):Option (TV K):=match Nat.beq c 1 with
 | true=>match Nat.beq s s0 with
   |true=>some w
   | false=>match tln (ts.tb s 1) with
     |some _=>some (.rw s 1)
     |none=>none
 |false=>none
def fzB (ts:TS K) (s c:Nat):Option Nat:=match Nat.beq c 1,ts.tb s 1 with
 |true,some (.box _ _)=>some s
 |true,some (.opq _ _ _)=>some s
 |_,_=>none
def fz (C:Cx K) (ts:TS K) (s:Nat):TS K:=match ts.nw,trow C (tbe (ts.tb s 1)) (ts.tb s 1) with
 | [],some l=>⟨mapF (rnV (fzS ts s (.sl (tbe (ts.tb s 1)) l)) (fzB ts)) ts.fr,(s,none)::mapM (rnV (fzS ts s (.sl (tbe (ts.tb s 1)) l)) (fzB ts)) ts.od,[],ts.rg,ts.h⟩
 |_,_=>ts
mutual
def rwsV:TV K→List Nat
 | .agg cs=>ylc cs
 | .tup cs=>ylc cs
 | .rw s _=> [s]
 |_=> []
def ylc:List (TV K)→List Nat
 | []=> []
 |v::r=>rwsV v++ylc r
end
def fzA (C:Cx K):Nat→List (TV K)→TS K→TS K
 |0,_,ts=>ts
 | n +1,vs,ts=>match ylc vs with
   | []=>ts
   | s::_=>match ts.tb s 1 with
     |some (.lrow _ _ cs)=>fz C (fzA C n cs ts) s
     |_=>fz C ts s
inductive CT where
 |i
 |b
 |s
 |l (e:Nat)
 |v (t:Nat)
inductive Kd where
 |it (k:IntKind)
 |bl
 |st
 |sl (e:Nat)
 |v (t:Nat)
 |agg (l:List Kd)
 |row (s:Nat)
 |px (s off:Nat)
 |kp (id:Nat)
 |nil
 |np
 |fn (f:Nat) (a c:List Kd)
 |un
structure Tm where
 ks:List (Nat×Kd)
 bx:List (Nat×Nat×List Kd)
 rw:List (Nat×Nat)
structure RM where
 r:List (Nat×Option (Nat×Nat))
 b:List (Nat×(Nat×Nat))
def lkA {α:Type}:List (Nat×α)→Nat→Option α
 | [],_=>none
 | p::r,s=>match Nat.beq p.1 s with
   |true=>some p.2
   |false=>lkA r s
def ygq (p q:Nat×Nat):Bool:=Nat.beq p.1 q.1&&Nat.beq p.2 q.2
def yrH:Option (Nat×Nat)→Option (Nat×Nat)→Bool
 |none,none=>true
 |some p,some q=>ygq p q
 |_,_=>false
def addA {α:Type} (eq:α→α→Bool) (m:List (Nat×α)) (s:Nat) (p:α):Option (List (Nat×α)):=match lkA m s with
 |none=>some ((s,p)::m)
 | some q=>match eq p q with
   |true=>some m
   |false=>none
def addR (m:RM) (s:Nat) (p:Option (Nat×Nat)):Option (List (DV K)×RM):=match addA yrH m.r s p with
 |some r=>some ([],⟨r,m.b⟩)
 |none=>none
def addB (m:RM) (s:Nat) (p:Nat×Nat):Option (List (DV K)×RM):=match addA ygq m.b s p with
 |some b=>some ([],⟨m.r,b⟩)
 |none=>none
mutual
def ctV:Kd→List CT
 | .it _=> [.i]
 | .bl=> [.b]
 | .st=> [.s]
 | .sl e=> [.l e]
 | .v t=> [.v t]
 | .agg l=>ctVs l
 | .fn _ a c=>ctVs a++ctVs c
 |_=> []
def ctVs:List Kd→List CT
 | []=> []
 |k::r=>ctV k++ctVs r
end
def ctT (τ:Tm):List CT:=(τ.ks.flatMap fun p=>ctV p.2)++(τ.bx.flatMap fun p=>ctVs p.2.2)++τ.rw.map fun p=> .l p.2
def rd1 (C:Cx K) (k:Kd) (v:TV K) (m:RM):Option (List (DV K)×RM):=match k with
 | .it k=>match tint v.s with
   |some (k',n)=>if k=k' then some ([.i n],m) else none
   |none=>none
 | .bl=>match tbo v.s with
   |some b=>some ([.b b],m)
   |none=>none
 | .st=>match v.s with
   | .st s=>some ([.s s],m)
   |_=>none
 | .sl e=>match v.s with
   | .sl e' l=>match yfH e' e l with
     |some l=>some ([.l e l],m)
     |none=>none
   | .nil=>some ([.l e []],m)
   | .em=>some ([.l e []],m)
   |_=>none
 | .v t=>match outV C t v with
   |some x=>some ([.v t x],m)
   |none=>none
 | .row s=>match v.s with
   | .rw s' c=>addR m s (some (s',c))
   | .nil=>addR m s none
   |_=>none
 | .px s off=>match v.s with
   | .px s' c off'=>match Nat.beq off off' with
     |true=>addB m s (s',c)
     |false=>none
   |_=>none
 | .kp id=>match v with
   | .cn id' _=>match Nat.beq id id' with
     |true=>some ([],m)
     |false=>none
   |_=>none
 | .nil=>match v.s with
   | .nil=>some ([],m)
   |_=>none
 | .np=>match v.s with
   | .nptr=>some ([],m)
   |_=>none
 | .un=>some ([],m)
 | .agg _=>none
 | .fn _ _ _=>none
mutual
def rdV (C:Cx K):Kd→TV K→RM→Option (List (DV K)×RM)
 | .agg l,v,m=>match v.s with
   | .agg vs=>rdVs C l vs m
   |_=>none
 | .fn f a c,v,m=>match v.s with
   | .fn f' a' c'=>match Nat.beq f f' with
     | true=>match rdVs C a a' m with
       | some (x,m)=>match rdVs C c c' m with
         |some (y,m)=>some (x++y,m)
         |none=>none
       |none=>none
     |false=>none
   |_=>none
 |k,v,m=>rd1 C k v m
def rdVs (C:Cx K):List Kd→List (TV K)→RM→Option (List (DV K)×RM)
 | [],[],m=>some ([],m)
 | k ::r,v::q,m=>match rdV C k v m with
   | some (a,m)=>match rdVs C r q m with
     |some (b,m)=>some (a++b,m)
     |none=>none
   |none=>none
 |_,_,_=>none
end
def rdS (C:Cx K) (fr:List (Nat×TV K)):List (Nat×Kd)→RM→Option (List (DV K)×RM)
 | [],m=>some ([],m)
 | p ::r,m=>match rdV C p.2 (lkT fr p.1) m with
   | some (a,m)=>match rdS C fr r m with
     |some (b,m)=>some (a++b,m)
     |none=>none
   |none=>none
def rdW (C:Cx K) (ks:List Kd) (cs:List (TV K)) (m:RM):Option (List (DV K)×RM):=match ks with
 | [.v t]=>match (C.T t).g with
   | true=>match outV C t (.agg cs) with
     |some x=>some ([.v t x],m)
     |none=>none
   |false=>rdVs C [.v t] cs m
 |ks=>rdVs C ks cs m
def opk:List Kd→Nat→Bool
 | [.v t'],t=>Nat.beq t' t
 |_,_=>false
def rdB (C :Cx K) (ts:TS K):List (Nat×Nat×List Kd)→RM→Option (List (DV K)×RM)
 | [],m=>some ([],m)
 | p :: r, m=>match lkA m.b p.1 with
   | some q=>match ts.tb q.1 q.2 with
     | some (.opq e t x)=>match Nat.beq e p.2.1&&(Nat.ble 1000000 e&&opk p.2.2 t) with
       | true=>match rdB C ts r m with
         |some (b,m)=>some (.v t x::b,m)
         |none=>none
       |false=>none
     | some (.box e cs)=>match Nat.beq e p.2.1&& !Nat.ble 1000000 e with
       | true=>match rdW C p.2.2 cs m with
         | some (a,m)=>match rdB C ts r m with
           |some (b,m)=>some (a++b,m)
           |none=>none
         |none=>none
       |false=>none
     |_=>none
   |_=>none
def rdR (C:Cx K) (ts:TS K) (m:RM):List (Nat×Nat)→Option (List (DV K))
 | []=>some []
 | p ::r=>match lkA m.r p.1 with
   |some none=>(rdR C ts m r).map fun b=> .l p.2 []::b
   | some (some q)=>match trow C p.2 (ts.tb q.1 q.2) with
     |some l=>(rdR C ts m r).map fun b=> .l p.2 l::b
     |none=>none
   |none=>none
def ynT:List (Nat×Nat)→Nat×Nat→Bool
 | [],_=>false
 |p::r,q=>ygq p q||ynT r q
def plsR:List (Nat×Option (Nat×Nat))→List (Nat×Nat)
 | []=> []
 |(_,some p)::r=>p::plsR r
 |(_,none)::r=>plsR r
def yno:List (Nat×Nat)→Bool
 | []=>true
 |p::r=> !ynT r p&&yno r
def ylW (m:RM) (τ:Tm):Bool:=(m.b.all fun p=>τ.bx.any fun q=>Nat.beq q.1 p.1)&&(m.r.all fun p=>τ.rw.any fun q=>Nat.beq q.1 p.1)&&τ.bx.all fun p=>τ.rw.all fun q=> !Nat.beq p.1 q.1
def fixM (m:RM):Bool:=(m.b.all fun p=> !Nat.ble 2000000 p.1||ygq p.2 (p.1,1))&&m.r.all fun p=> !Nat.ble 2000000 p.1||match p.2 with
 |some q=>ygq q (p.1,1)
 |none=>false
def yn3:List (Nat×Nat×List Kd)→List (Nat×(Nat×Nat))
 | []=> []
 | p::r=>match Nat.ble 2000000 p.1 with
   |true=>(p.1,(p.1,1))::yn3 r
   |false=>yn3 r
def yox:List (Nat×Nat)→List (Nat×Option (Nat×Nat))
 | []=> []
 | p::r=>match Nat.ble 2000000 p.1 with
   |true=>(p.1,some (p.1,1))::yox r
   |false=>yox r
def rdT (C:Cx K) (τ:Tm) (ts:TS K):Option (List (DV K)):=match rdS C ts.fr τ.ks ⟨yox τ.rw,yn3 τ.bx⟩ with
 | some (a,m)=>match rdB C ts τ.bx m with
   | some (b,m)=>match rdR C ts m τ.rw,yno (plsR m.r++m.b.map (·.2))&&ylW m τ&&fixM m with
     |some c,true=>some (a++b++c)
     |_,_=>none
   |none=>none
 |none=>none
def lkR:List (Nat×TV K)→Nat→Option (TV K)
 | [],_=>none
 | p::r,t=>match Nat.beq p.1 t with
   |true=>some p.2
   |false=>lkR r t
mutual
def bdV (C:Cx K) (rg:List (Nat×TV K)):Kd→List (DV K)→TV K×List (DV K)
 | .it k, .i n::r=>(.it k n,r)
 | .bl, .b b::r=>(.bl b,r)
 | .st, .s s::r=>(.st s,r)
 | .sl e, .l e' l::r=>(match yfH e' e l with|some l=> .sl e l|none=> .un,r)
 | .v t, .v t' x::r=>(if h:t'=t then inV C t (h▸x) else .un,r)
 | .agg l,r=>let p:=bdVs C rg l r;(.agg p.1,p.2)
 | .row s,r=>(.rw s 1,r)
 | .px s o,r=>(.px s 1 o,r)
 | .kp id,r=>(match lkR rg id with|some v=> .cn id v|none=> .un,r)
 | .nil,r=>(.nil,r)
 | .np,r=>(.nptr,r)
 | .fn f a c,r=>let p:=bdVs C rg a r;let q:=bdVs C rg c p.2;(.fn f p.1 q.1,q.2)
 |_,r=>(.un,r)
def bdVs (C:Cx K) (rg:List (Nat×TV K)):List Kd→List (DV K)→List (TV K)×List (DV K)
 | [],r=>([],r)
 |k::q,r=>let p:=bdV C rg k r;let p':=bdVs C rg q p.2;(p.1::p'.1,p'.2)
end
def bdS (C:Cx K) (rg:List (Nat×TV K)):List (Nat×Kd)→List (DV K)→List (Nat×TV K)×List (DV K)
 | [],r=>([],r)
 |k::q,r=>let p:=bdV C rg k.2 r;let p':=bdS C rg q p.2;((k.1,p.1)::p'.1,p'.2)
def bdW (C:Cx K) (rg:List (Nat×TV K)) (ks:List Kd) (env:List (DV K)):List (TV K)×List (DV K):=match ks with
 | [.v t]=>match (C.T t).g with
   | true=>match env with
     | .v t' x::r=>(if h:t'=t then (C.T t).c (h▸x) else [],r)
     |r=>([],r)
   |false=>bdVs C rg [.v t] env
 |ks=>bdVs C rg ks env
def mkBx (e:Nat) (ks:List Kd) (cs:List (TV K)) (env:List (DV K)):TB K:=match Nat.ble 1000000 e with
 |false=> .box e cs
 | true=>match ks,env with
   | [.v _], .v t x::_=> .opq e t x
   |_,_=> .box e cs
def bdB (C:Cx K) (rg:List (Nat×TV K)):List (Nat×Nat×List Kd)→List (DV K)→List (Nat×Option (TB K))×List (DV K)
 | [],r=>([],r)
 |k::q,r=>let p:=bdW C rg k.2.2 r;let p':=bdB C rg q p.2;((k.1,some (mkBx k.2.1 k.2.2 p.1 r))::p'.1,p'.2)
def bdR:List (Nat×Nat)→List (DV K)→List (Nat×Option (TB K))
 |k::q, .l e l::r=>(match yfH e k.2 l with|some l=>(k.1,some (.row k.2 l))|none=>(k.1,none))::bdR q r
 |_,_=> []
def bdT (C:Cx K) (τ:Tm) (rg:List (Nat×TV K)) (h:List RS) (env:List (DV K)):TS K:=
 let p:=bdS C rg τ.ks env;let q:=bdB C rg τ.bx p.2;⟨p.1,q.1++bdR τ.rw q.2,[],rg,h⟩
mutual
def tagV:Kd→TV K→List (Nat×TV K)→TV K×List (Nat×TV K)
 | .kp id,v,rg=>match yaE v,lkR rg id with
   |true,none=>(.cn id v,(id,v)::rg)
   |_,_=>(v,rg)
 | .agg l, .agg vs,rg=>let p:=ydz l vs rg;(.agg p.1,p.2)
 |_,v,rg=>(v,rg)
def ydz:List Kd→List (TV K)→List (Nat×TV K)→List (TV K)×List (Nat×TV K)
 |k::r,v::q,rg=>let p:=tagV k v rg;let p':=ydz r q p.2;(p.1::p'.1,p'.2)
 |_,vs,rg=>(vs,rg)
end
def tagS:List (Nat×Kd)→TS K→TS K
 | [],ts=>ts
 |p::r,ts=>let q:=tagV p.2 (lkT ts.fr p.1) ts.rg;tagS r ⟨(p.1,q.1)::ts.fr,ts.od,ts.nw,q.2,ts.h⟩
def tagB:List (Nat×Nat×List Kd)→TS K→TS K
 | [],ts=>ts
 | p::r,ts=>match lkB ts.od p.1 with
   |some (.box e cs)=>let q:=ydz p.2.2 cs ts.rg;tagB r ⟨ts.fr,(p.1,some (.box e q.1))::ts.od,ts.nw,q.2,ts.h⟩
   |_=>tagB r ts
def tagT (τ:Tm) (ts:TS K):TS K:=tagB τ.bx (tagS τ.ks ts)
def fzT (C:Cx K) (fr:List (Nat×TV K)):List (Nat×Kd)→TS K→TS K
 | [],ts=>ts
 |(t, .sl _)::r,ts=>fzT C fr r (match (lkT fr t).s with| .rw s 1=>fz C ts s|_=>ts)
 |_::r,ts=>fzT C fr r ts
def rdJ (C:Cx K) (τ:Tm) (ts:TS K) (J:List (DV K)→Prop):Prop:=match rdT C τ (fzT C ts.fr τ.ks ts) with
 |some env=>J env
 |none=>False
def CTy (K:Nat→Type):CT→Type
 | .i=>Int
 | .b=>Bool
 | .s=>Str
 | .l e=>List (K e)
 | .v t=>K t
def Cur (K:Nat→Type) (R:Type):List CT→Type
 | []=>R
 |c::r=>CTy K c->Cur K R r
def outI:DV K→Option Int
 | .i n=>some n
 |_=>none
def yqX:DV K→Option Bool
 | .b b=>some b
 |_=>none
def outS:DV K→Option Str
 | .s s=>some s
 |_=>none
def outL (e:Nat):DV K→Option (List (K e))
 | .l e' l=>yfH e' e l
 |_=>none
def outT (t:Nat):DV K→Option (K t)
 | .v t' x=>if h:t'=t then some (h▸x) else none
 |_=>none
def outC (c:CT):DV K→Option (CTy K c):=match c with
 | .i=>outI
 | .b=>yqX
 | .s=>outS
 | .l e=>outL e
 | .v t=>outT t
def inC:(c:CT)→CTy K c→DV K
 | .i,n=> .i n
 | .b,b=> .b b
 | .s,s=> .s s
 | .l e,l=> .l e l
 | .v t,x=> .v t x
def apC {R:Type} (d:R):(cs:List CT)→Cur K R cs→List (DV K)→R
 | [],f,[]=>f
 | [],_,_::_=>d
 | c::cs,f,x::env=>match outC c x with
   |some y=>apC d cs (f y) env
   |none=>d
 |_::_,_,[]=>d
def allC:(cs:List CT)→(List (DV K)→Prop)→Prop
 | [],p=>p []
 |c::cs,p=>∀x:CTy K c,allC cs fun env=>p (inC c x::env)
def resT (ts:TS K):Nat×Option Nat→Option (TV K)
 |(t,none)=>some (lkT ts.fr t)
 | (t,some 0)=>match (lkT ts.fr t).s with
   | .px s c o=>match ts.tb s c with
     |some (.box _ cs)=>cs[o]?
     |_=>none
   |_=>none
 | (t,some (sz+1))=>match (lkT ts.fr t).s with
   | .px s c o=>match ts.tb s c with
     |some (.box _ cs)=>tldc true (sz+1) o cs
     |_=>none
   |_=>none
def ycr (ts:TS K):List (Nat×Option Nat)→Option (List (TV K))
 | []=>some []
 | p::r=>match resT ts p,ycr ts r with
   |some v,some vs=>some (v::vs)
   |_,_=>none
structure Sl (K:Nat→Type) where
 f:Nat
 fs:List (Nat×List Nat×List Nat)
 ti:Tm
 te:Tm
 kp:List Nat
 res:List (Nat×Option Nat)
 fz:Bool
 W:List (FV K)->List (DV K)->List (DV K)->Prop
def yct:List Nat→Nat→Bool
 | [],_=>false
 |x::r,y=>Nat.beq x y||yct r y
def Sl.kbx (sp:Sl K):List (Nat×Nat×List Kd):=sp.ti.bx.filter fun p=>yct sp.kp p.1
def Sl.krw (sp:Sl K):List (Nat×Nat):=sp.ti.rw.filter fun p=>yct sp.kp p.1
def Sl.to (sp:Sl K):Tm:=⟨sp.te.ks,sp.te.bx++sp.kbx,sp.te.rw++sp.krw⟩
def ctB (l:List (Nat×Nat×List Kd)):List CT:=l.flatMap fun p=>ctVs p.2.2
def ctS (l:List (Nat×Kd)):List CT:=l.flatMap fun p=>ctV p.2
def zipT:List (TV K)→Nat→List (Nat×TV K)
 | [],_=> []
 |v::r,i=>(i,v)::zipT r (i+1)
def rdM (C:Cx K) (τ:Tm) (ts:TS K):Option (List (DV K)×RM):=match rdS C ts.fr τ.ks ⟨[],[]⟩ with
 | some (a,m)=>match rdB C ts τ.bx m with
   | some (b,m)=>match rdR C ts m τ.rw,yno (plsR m.r++m.b.map (·.2))&&ylW m τ with
     |some c,true=>some (a++b++c,m)
     |_,_=>none
   |none=>none
 |none=>none
def yip (C:Cx K) (Φ:List (Sp K)) (fr:List (Nat×TV K)):List (Nat×List Nat×List Nat)→Option (List (FV K))
 | []=>some []
 | p::r=>match ynM C Φ (.f p.2.1 p.2.2) (lkT fr p.1),yip C Φ fr r with
   |some (.f F),some l=>some (F::l)
   |_,_=>none
mutual
def plV (m:RM) (n:Nat→Nat):TV K→TV K
 | .agg cs=> .agg (plVs m n cs)
 | .fn f a c=> .fn f (plVs m n a) (plVs m n c)
 | .rw s _=>match Nat.ble 2000000 s with
   | true=>match lkA m.r s with
     |some (some q)=> .rw q.1 q.2
     |some none=> .nil
     |none=> .un
   |false=> .rw (n s) 2
 | .px s _ o=>match Nat.ble 2000000 s with
   | true=>match lkA m.b s with
     |some q=> .px q.1 q.2 o
     |none=> .un
   |false=> .px (n s) 2 o
 |v=>v
def plVs (m:RM) (n:Nat→Nat):List (TV K)→List (TV K)
 | []=> []
 |v::r=>plV m n v::plVs m n r
end
def plQ (m:RM) (n:Nat→Nat) (s:Nat):Option (Nat×Nat):=match Nat.ble 2000000 s with
 | true=>match lkA m.b s with
   |some q=>some q
   | none=>match lkA m.r s with
     |some (some q)=>some q
     |_=>none
 |false=>some (n s,2)
def plL (m:RM) (n:Nat→Nat) (c:Nat):List (Nat×Option (TB K))→List (Nat×Option (TB K))
 | []=> []
 | p ::r=>match plQ m n p.1 with
   | some q=>match Nat.beq q.2 c with
     |true=>(q.1,mapB (plV m n) p.2)::plL m n c r
     |false=>plL m n c r
   |none=>plL m n c r
def exC:(cs:List CT)→(List (DV K)→Prop)→Prop
 | [],p=>p []
 |c::cs,p=>∃x:CTy K c,exC cs fun env=>p (inC c x::env)
def yab (d:Option Nat) (s:Nat):Nat:=s+64*site d
def newL (sp:Sl K):List Nat:=(sp.te.bx.map (·.1)++sp.te.rw.map (·.1)).filter fun s=> !Nat.ble 2000000 s
def yj3 (ts:TS K) (d:Option Nat):List Nat→Bool
 | []=>true
 |s::r=>Nat.ble 1000000 s&&Nat.ble (s+1) 1000064&& !memB ts.nw (yab d s)&&Nat.ble (yab d s+1) 2000000&&yj3 ts d r
def npL (sp:Sl K):Nat:=sp.ti.ks.length+sp.fs.length
def zipF:List (Nat×List Nat×List Nat)→List (FV K)→List (Nat×TV K)
 |p::r,F::l=>(p.1, .fv p.2.1 p.2.2 F)::zipF r l
 |_,_=> []
def entL (C:Cx K) (sp:Sl K) (fs:List (FV K)) (env:List (DV K)):TS K:=let t:=bdT C sp.ti [] [] env;⟨zipF sp.fs fs++t.fr,t.od,t.nw,t.rg,t.h⟩
def isBx:Option (TB K)→Bool
 |some (.box _ _)=>true
 |some (.opq _ _ _)=>true
 |_=>false
def ymI:List Nat→Bool
 | []=>true
 |x::r=> !yct r x&&ymI r
def tiN (sp:Sl K):List Nat:=sp.ti.bx.map (·.1)++sp.ti.rw.map (·.1)
mutual
def okK (bx rw:List Nat):Kd→Bool
 | .row s=>yct rw s
 | .px s _=>yct bx s
 | .kp _=>false
 | .agg l=>okKs bx rw l
 | .fn _ a c=>okKs bx rw a&&okKs bx rw c
 |_=>true
def okKs (bx rw:List Nat):List Kd→Bool
 | []=>true
 |k::r=>okK bx rw k&&okKs bx rw r
end
def okTm (τ:Tm):Bool:=
 let bx:=τ.bx.map (·.1);let rw:=τ.rw.map (·.1)
 ymI (bx++rw)&&ymI (τ.ks.map (·.1))&&(τ.ks.all fun p=>okK bx rw p.2)&&τ.bx.all fun p=>okKs bx rw p.2.2&& !p.2.2.isEmpty
def subN (a b:List Nat):Bool:=a.all (yct b)
def bigN:Nat->Bool:=fun s=>Nat.ble 2000000 s
def okN (sp:Sl K):Bool:=
 okTm sp.ti&&okTm sp.to&&(tiN sp).all bigN&&subN ((sp.te.bx.map (·.1)).filter bigN) (sp.ti.bx.map (·.1))&&subN ((sp.te.rw.map (·.1)).filter bigN) (sp.ti.rw.map (·.1))&&(sp.fs.all fun p=>Nat.ble (p.1+1) (npL sp))&&sp.ti.ks.all fun p=>Nat.ble (p.1+1) (npL sp)
def wt:List CT→List (DV K)→Bool
 | [],[]=>true
 | c::cs,x::env=>(match c,x with
   | .i, .i _=>true
   | .b, .b _=>true
   | .s, .s _=>true
   | .l e, .l e' _=>Nat.beq e e'
   | .v t, .v t' _=>Nat.beq t t'
   |_,_=>false)&&wt cs env
 |_,_=>false
def endT (C:Cx K) (sp:Sl K) (ts0:TS K) (out:List (DV K)):TS K:=
 let p:=bdS C [] sp.te.ks out;let q:=bdB C [] sp.te.bx p.2
 ⟨p.1,q.1++(ts0.od.filter fun x=>yct sp.kp x.1&&isBx x.2)++bdR sp.te.rw q.2++ts0.od.filter fun x=>yct sp.kp x.1&& !isBx x.2,[],[],[]⟩
def lenL (ts0:TS K):List (Nat×Option (TB K))→Prop→Prop
 | [],p=>p
 | x ::r,p=>match Nat.ble 2000000 x.1 with
   | true=>match tln x.2,tln (ts0.tb x.1 1) with
     |some n,some m=>n=m/\lenL ts0 r p
     |_,_=>False
   |false=>lenL ts0 r p
def endR (C:Cx K) (sp:Sl K) (out:List (DV K)):List (Nat×Option (TB K)):=bdR sp.te.rw (bdB C [] sp.te.bx (bdS C [] sp.te.ks out).2).2
def yeK (sp:Sl K) (t:TS K):List (Nat×Option (TB K)):=t.od++(tiN sp).map fun s=>(s,none)
def aft0 (sp:Sl K) (n:Nat->Nat) (m:RM) (t ts:TS K):TS K:=⟨ts.fr,plL m n 1 (yeK sp t)++ts.od,plL m n 2 (yeK sp t)++ts.nw,ts.rg,ts.h⟩
def aftL (sp:Sl K) (d:Option Nat) (m:RM) (t ts:TS K):TS K:=(aft0 sp (yab d) m t ts).put d (tres (plVs m (yab d) ((ycr t sp.res).getD [])))
def yhQ (C:Cx K) (ts:TS K) (f:Nat) (vs:List (TV K)):List (Sl K)→Option (Sl K×List (DV K)×RM)
 | []=>none
 | sp::r=>match Nat.beq sp.f f&&Nat.beq vs.length (npL sp) with
   | true=>match rdM C sp.ti ⟨zipT vs 0,ts.od,ts.nw,ts.rg,ts.h⟩ with
     |some (env,m)=>some (sp,env,m)
     |none=>yhQ C ts f vs r
   |false=>yhQ C ts f vs r
def ygL (C:Cx K) (ts:TS K) (f:Nat) (vs:List (TV K)) (L:List (Sl K)):Option (Sl K×List (DV K)×RM):=match Nat.ble f 999999 with
 |true=>yhQ C ts f vs L
 |false=>none
def clrs (cl:List Nat) (ts:TS K):TS K:=cl.foldl (fun ts c=>ts.put (some c) .un) ts
def yek (C:Cx K) (Φ:List (Sp K)) (drw:Bool) (ts:TS K) (d:Option Nat) (sp:Sl K) (env:List (DV K)) (m:RM) (vs:List (TV K)) (X:TS K→Prop):Prop:=
 match yip C Φ (zipT vs 0) sp.fs,okN sp&&yj3 ts d (newL sp)&&(!drw||sp.te.rw.isEmpty) with
 |some fs,true=>exC (ctT sp.te) fun out=>sp.W fs env out/\lenL (entL C sp fs env) (endR C sp out) (X (aftL sp d m (endT C sp (entL C sp fs env) out) ts))
 |_,_=>False
def eqO:AOpd→AOpd→Bool
 | .t a, .t b=>Nat.beq a b
 | .c (.it _ a), .c (.it _ b)=>decide (a=b)
 |_,_=>false
structure Cf (K:Nat→Type) where
 C:Cx K
 S:List (Sp K)
 L:List (Sl K)
 N:Nat
 I:List (Nat×AFn):= []
 Y:Option (Nat×(Nat->Option (Nat×Bool)->AOpd->List AOpd->TS K->(Bool->TS K->Prop)->Prop)):=none
 rd:Bool:=false
def ysy (N:Nat):AOpd→Bool
 | .t n=>Nat.ble (n+1) N
 | .c _=>false
def tlen (C:Cx K) (nofact:Bool) (ts:TS K) (X:TV K→Prop):TV K→Prop
 | .sl _ l=>match nofact with
   |true=>X (.it .i64 (l.length:Int))
   |false=>l.length<=maxLen->X (.it .i64 (l.length:Int))
 | .nil=>X (.li .i64 0)
 | .em=>X (.li .i64 0)
 | .rw s c=>match ts.tb s c with
   |some (.row _ l)=>X (.it .i64 (l.length:Int))
   |some (.lrow _ n _)=>X (.li .i64 (n:Int))
   |_=>False
 |_=>False
def teqn (drw g:Bool) (kind:Nat) (x y:TV K) (X:TV K→Prop) (d:Prop):Prop:=match drw with
 |true=>d
 | false=>match Nat.beq kind 4 with
   |false=>d
   | true=>match x with
     | .sl _ l=>match y with
       | .nil=>∀b:Bool,(b=true->l= [])->X (.bl (ngB g b))
       |_=>d
     |_=>d
def step (F:Cf K) (drw:Bool) (o:AO) (ts:TS K) (X:TS K→Prop):Prop:=
 match o.op with
 | .eq g kind x y=>teqn drw g kind (tev ts.fr x) (tev ts.fr y) (fun v=>X (ts.put o.dst v)) (match tqv ts (.eq g kind x y) with
   |some (cs,v)=>andL cs (X (ts.put o.dst v))
   |none=>False)
 | .ld g sz a=>tld F.C g sz ts (fun v=>X (ts.put o.dst v)) (tev ts.fr a)
 | .sto sz a v=>tsto F.C sz ts (tcl (tea ts.fr v)) (fun t=>X (t.put o.dst .un)) (tev ts.fr a)
 | .pick c a b=>match tev ts.fr c with
   | .lb true=>X (ts.put o.dst (tea ts.fr a))
   | .lb false=>X (ts.put o.dst (tea ts.fr b))
   |_=>False
 | .box e sz x=>match Nat.beq (tcl (tea ts.fr x)).length sz&&(tcl (tea ts.fr x)).all tone&&Nat.ble 1 sz with
   |true=>ydG ts (site o.dst) (X (tnew ts o.dst (.box e (tcl (tea ts.fr x))) fun s=> .px s 2 0))
   |false=>False
 | .bsl e sz n z parts=>match Nat.beq z.length sz&&Nat.beq (F.C.E e).sz sz&&Nat.ble (n*sz) 16777216 with
   |true=>ydG ts (site o.dst) (wpo' (yiT (List.replicate n (cvAs z)).flatten (parts.map fun p=>(p.1,p.2.1,tea ts.fr p.2.2))) fun cs=>X (tnew ts o.dst (.lrow e n (cs.map twk)) trw))
   |false=>False
 | .mks e sz bytes z x y=>match tint (tev ts.fr x),tint (tev ts.fr y),(F.C.T e).rd ((cvAs z).map TV.s) with
   | some (_,q),some (_,_),some v=>match Nat.beq z.length sz&&Nat.beq (F.C.E e).sz sz&&eqO x y with
     |true=>ydG ts (site o.dst) (0<=q/\bytes*q.toNat<=281474976710656/\q<=1000000000/\X (tnew ts o.dst (.row e (List.replicate q.toNat v)) trw))
     |false=>False
   |_,_,_=>False
 | .apz e sz bytes z x y=>match tev ts.fr x,tint (tev ts.fr y),(F.C.T e).rd ((cvAs z).map TV.s) with
   | .nil,some (.i64,q),some v=>match Nat.beq z.length sz&&Nat.beq (F.C.E e).sz sz with
     |true=>ydG ts (site o.dst) (0<q/\bytes*q.toNat<=140737488355328/\q<=1000000000/\X (tnew ts o.dst (.row e (List.replicate q.toNat v)) trw))
     |false=>False
   |_,_,_=>False
 | .iad sz x i=>match tint (tev ts.fr i) with
   |some (_,q)=>tiad F.C sz ts q (fun v=>X (ts.put o.dst v)) (tev ts.fr x)
   |none=>False
 | .len x=>tlen F.C (drw|| !ysy F.N x) ts (fun v=>X (ts.put o.dst v)) (tev ts.fr x)
 | .app e sz bytes x y=>match Nat.beq (F.C.E e).sz sz&&Nat.ble bytes 100000 with
   |true=>wpo' (tsrc F.C e ts (tev ts.fr y)) fun l2=>tapp F.C e o.dst ts l2 (ifL (yiu ts (tev ts.fr y)) (l2.length<=400000000)) X (tev ts.fr x)
   |false=>False
 | .apf e sz bytes x y=>match Nat.beq (F.C.E e).sz sz&&Nat.ble bytes 100000 with
   |true=>wpo' (tsrc F.C e ts (tev ts.fr y)) fun l2=>tapf F.C e o.dst ts l2 (ifL (yiu ts (tev ts.fr y)) (l2.length<=400000000)) X (tev ts.fr x)
   |false=>False
 | .bsf e sz n z parts=>match Nat.beq z.length sz&&Nat.beq (F.C.E e).sz sz&&Nat.ble (n*sz) 16777216 with
   |true=>ydG ts (site o.dst) (wpo' (yiT (List.replicate n (cvAs z)).flatten (parts.map fun p=>(p.1,p.2.1,tea ts.fr p.2.2))) fun cs=>wpo' (yk2 (F.C.T e).rd (F.C.E e).sz n (cs.map twk)) fun l=>X (tnwf ts o.dst (.sl e l)))
   |false=>False
 | .apps e x y=>match tev ts.fr y,(F.C.T e).ob with
   | .st l,some f=>tapp F.C e o.dst ts (l.map f) [l.length<=400000000] X (tev ts.fr x)
   |_,_=>False
 | .b2s x=>match tev ts.fr x with
   | .sl e l=>match (F.C.T e).tb with
     |some f=>X (ts.put o.dst (.st (l.map f)))
     |none=>False
   | .rw s c=>match (F.C.T (tbe (ts.tb s c))).tb,trow F.C (tbe (ts.tb s c)) (ts.tb s c) with
     |some f,some l=>X (ts.put o.dst (.st (l.map f)))
     |_,_=>False
   | .nil=>X (ts.put o.dst (.st []))
   |_=>False
 | .sll sz x lo hi=>match tev ts.fr x with
   | .sl e l=>match Nat.beq sz (F.C.E e).sz,tbnd ts.fr 0 lo,tbnd ts.fr l.length hi with
     |true,some a,some b=>(0<=a/\a<=b/\b<=l.length)/\X (ts.put o.dst (.sl e (ymv l a b)))
     |_,_,_=>False
   | .rw s c=>match Nat.beq sz (F.C.E (tbe (ts.tb s c))).sz,lo,trow F.C (tbe (ts.tb s c)) (ts.tb s c) with
     | true,none,some l=>match tbnd ts.fr l.length hi with
       |some b=>(0<=b/\b<=l.length)/\X (((ts.mapv (yed s c)).setb s c (some (.row (tbe (ts.tb s c)) (l.take b.toNat)))).put o.dst (.rw s c))
       |none=>False
     |_,_,_=>False
   | .nil=>match tbnd ts.fr 0 lo,tbnd ts.fr 0 hi with
     |some a,some b=>(0<=a/\a<=b/\b<=0)/\X (ts.put o.dst .nil)
     |_,_=>False
   |_=>False
 | .call f args=>match ygL F.C ts f (args.map (tea ts.fr)) F.L with
   |some (sp,env,m)=>yek F.C F.S drw ts o.dst sp env m (args.map (tea ts.fr)) X
   |none=>ymN F.C F.S ts o.dst f (args.map (tea ts.fr)) X
 | .hk k _ xs cl=>match drw with
   |true=>False
   | false=>match yhQ F.C (clrs cl ts) (1000000+k) (xs.map (tea (clrs cl ts).fr)) F.L with
     |some (sp,env,m)=>yek F.C F.S false (clrs cl ts) o.dst sp env m (xs.map (tea (clrs cl ts).fr)) X
     |none=>False
 | .calv x args=>match tev ts.fr x with
   | .fn f a c=>match ygL F.C ts f (a++args.map (tea ts.fr)++c) F.L with
     |some (sp,env,m)=>yek F.C F.S drw ts o.dst sp env m (a++args.map (tea ts.fr)++c) X
     |none=>ymN F.C F.S ts o.dst f (a++args.map (tea ts.fr)++c) X
   | .fv ps rs V=>yqs F.C ts o.dst V ps rs (args.map (tea ts.fr)) X
   | .yl _=>match drw,tea ts.fr x,F.Y with
     | false, .cn id _,some y=>match Nat.beq id y.1 with
       |true=>y.2 F.N o.guard x args ts fun b t=>X (t.put o.dst (.lb b))
       |false=>False
     |_,_,_=>False
   |_=>False
 | u=>match tqv ts u with
   |some (cs,v)=>andL cs (X (ts.put o.dst v))
   |none=>False
mutual
def eqT:TV K→TV K→Prop
 | .it k n,w=>match w.s with
   | .it k' n'=>if k=k' then n=n' else False
   | .li k' n'=>if k=k' then n=n' else False
   |_=>False
 | .bl b,w=>match w.s with
   | .bl b'=>b=b'
   | .lb b'=>b=b'
   |_=>False
 | .st s,w=>match w.s with
   | .st s'=>s=s'
   |_=>False
 | .sl e l,w=>match w.s with
   | .sl e' l'=>(if h:e=e' then h▸l=l' else False)
   |_=>False
 | .agg l,w=>match w.s with
   | .agg l'=>eqTs l l'
   |_=>False
 | .rw s c,w=>match w.s with
   | .rw s' c'=>match Nat.beq s s'&&Nat.beq c c' with
     |true=>True
     |false=>False
   |_=>False
 | .px s c o,w=>match w.s with
   | .px s' c' o'=>match Nat.beq s s'&&Nat.beq c c'&&Nat.beq o o' with
     |true=>True
     |false=>False
   |_=>False
 | .nptr,w=>match w.s with
   | .nptr=>True
   |_=>False
 | .nil,w=>match w.s with
   | .nil=>True
   |_=>False
 | .un, .un=>True
 |_,_=>False
def eqTs:List (TV K)→List (TV K)→Prop
 | [],[]=>True
 | a ::r,b::q=>match r with
   | []=>match q with
     | []=>eqT a b
     |_=>False
   |r=>eqT a b/\eqTs r q
 |_,_=>False
end
def eqB:Option (TB K)→Option (TB K)→Prop
 | some (.box e l),some (.box e' l')=>match Nat.beq e e' with
   |true=>eqTs l l'
   |false=>False
 |some (.row e l),some (.row e' l')=>(if h:e=e' then h▸l=l' else False)
 | some (.opq e t x),some (.opq e' t' x')=>match Nat.beq e e' with
   |true=>(if h:t=t' then h▸x=x' else False)
   |false=>False
 |_,_=>False
def kpt (ts0 ts:TS K):List Nat→Prop→Prop
 | [],p=>p
 |s::r,p=>eqB (ts0.tb s 1) (ts.tb s 1)/\kpt ts0 ts r p
def selL (sp:Sl K) (env:List (DV K)):List (DV K):=
 let a:=(ctS sp.te.ks).length+(ctB sp.te.bx).length;let b:=(ctB sp.kbx).length
 env.take a++(env.drop (a+b)).take sp.te.rw.length
def eqD1:DV K→DV K→Prop
 | .i n, .i n'=>n=n'
 | .b b, .b b'=>b=b'
 | .s s, .s s'=>s=s'
 | .l e l, .l e' l'=>(if h:e=e' then h▸l=l' else False)
 | .v t x, .v t' x'=>(if h:t=t' then h▸x=x' else False)
 |_,_=>False
def eqDV:List (DV K)→List (DV K)→Prop
 | [],[]=>True
 | x ::r,y::q=>match r with
   | []=>match q with
     | []=>eqD1 x y
     |_=>False
   |r=>eqD1 x y/\eqDV r q
 |_,_=>False
def FsTy (K:Nat→Type) (R:Type):List (Nat×List Nat×List Nat)→Type
 | []=>R
 |p::r=>FTy K p.2.2 p.2.1->FsTy K R r
def yjI:(co:List CT)→Cur K Prop co→List (DV K)→Prop
 | [],f,[]=>f
 | c::co,f,x::out=>match outC c x with
   |some y=>yjI co (f y) out
   |none=>False
 |_,_,_=>False
def apIn (co:List CT):(ci:List CT)→Cur K (Cur K Prop co) ci→List (DV K)→List (DV K)→Prop
 | [],f,[],out=>yjI co f out
 | c::ci,f,x::env,out=>match outC c x with
   |some y=>apIn co ci (f y) env out
   |none=>False
 |_,_,_,_=>False
def apFs (ci co:List CT):(l:List (Nat×List Nat×List Nat))→FsTy K (Cur K (Cur K Prop co) ci) l→List (FV K)→List (DV K)→List (DV K)→Prop
 | [],f,[],env,out=>apIn co ci f env out
 |p::r,f,F::fs,env,out=>apFs ci co r (f (curF p.2.2 p.2.1 F.W)) fs env out
 |_,_,_,_,_=>False
inductive An (K:Nat→Type) where
 |o
 |s (a b:An K)
 |c (a b:An K)
 |b (a:An K)
 |l (τ:Tm) (a:List (DV K)->An K)
 |j (τ:Tm) (a:An K) (b:List (DV K)->An K)
 |g (id:Nat) (τ τY:Tm) (ai aa ab:An K)
def tgd (fr:List (Nat×TV K)) (g:Option (Nat×Bool)) (run skip:Prop) (both:Nat→Bool→Bool→Prop):Prop:=match g with
 |none=>run
 | some (d,b)=>match (lkT fr d).s with
   | .lb c=>match c==b with
     |true=>run
     |false=>skip
   | .bl c=>both d c b
   | .tup []=>skip
   |_=>False
def frzs (F:Cf K) (args:List AOpd) (ts:TS K):TS K:=match ylc (args.map (tea ts.fr)) with
 | []=>ts
 |_=>args.foldl (fun ts x=>fzA F.C 9 [tea ts.fr x] ts) (er ts)
def hasL:List (Sl K)→Nat→Bool
 | [],_=>false
 |sp::r,f=>Nat.beq sp.f f||hasL r f
def frzO (F:Cf K) (fr:List (Nat×TV K)):AOp→List AOpd
 | .call f args=>match hasL F.L f||flS F.C F.S f with
   |true=> []
   |false=>args
 | .calv x args=>match tev fr x with
   | .fn f _ _=>match hasL F.L f||flS F.C F.S f with
     |true=> []
     |false=>args
   |_=>args
 | .bsl _ _ _ _ parts| .bsf _ _ _ _ parts=>parts.map fun p=>p.2.2
 |_=> []
def frzA (F:Cf K) (o:AO) (ts:TS K):TS K:=frzs F (frzO F ts.fr o.op) ts
def topg (F:Cf K) (o:AO) (R:TS K→Prop) (ts:TS K):Prop:=
 tgd ts.fr o.guard (step F false o ts R) (R (ts.put o.dst (.tup [])))
  fun d c b=>cnd c (match b with
   |true=>step F false o (ts.put (some d) (.lb true)) R
   |false=>R ((ts.put (some d) (.lb true)).put o.dst (.tup []))) (match b with
   |true=>R ((ts.put (some d) (.lb false)).put o.dst (.tup []))
   |false=>step F false o (ts.put (some d) (.lb false)) R)
def tops (F:Cf K):List AO→TS K→(TS K→Prop)→Prop
 | [],ts,X=>X ts
 |o::r,ts,X=>topg F o (fun t=>tops F r t X) (frzA F o ts)
structure TFt where
 rk:List (Nat×Nat)
 wk:List (Nat×Nat)
def tky1 (ts:TS K) (v:TV K):Option (List (Nat×Nat)):=match v.s with
 | .un=>none
 | .rw s c=>match tln (ts.tb s c) with
   |some _=>some [(s,c)]
   |none=>none
 | .px s c _=>some [(s,c)]
 | .pr _ s c _ _=>some [(s,c)]
 |_=>some []
def tkys (ts:TS K) (f:TV K→Option (List (Nat×Nat))):List (TV K)→Option (List (Nat×Nat))
 | []=>some []
 | v::r=>match f v,tkys ts f r with
   |some a,some b=>some (a++b)
   |_,_=>none
def tky (ts:TS K) (v:TV K):Option (List (Nat×Nat)):=match v.s with
 | .agg cs=>tkys ts (tky1 ts) cs
 |_=>tky1 ts v
def yqy (ts:TS K) (v:TV K):Option (List (Nat×Nat)):=match v.s with
 | .fn _ a c=>tkys ts (tky ts) (a++c)
 | .fv _ _ _=>some []
 |_=>none
def trf:TV K→List (Nat×Nat)
 | .rw s c=> [(s,c)]
 | .px s c _=> [(s,c)]
 | .pr _ s c _ _=> [(s,c)]
 |_=> []
def twk' (ts:TS K) (o:AO):List (Nat×Nat):=match o.op with
 | .box .. | .bsl .. | .bsf .. | .mks .. | .apz .. => [(site o.dst,2)]
 | .apf _ _ _ x _=>(site o.dst,2)::trf (tev ts.fr x)
 | .app _ _ _ x _=>(site o.dst,2)::trf (tev ts.fr x)
 | .apps _ x _=>(site o.dst,2)::trf (tev ts.fr x)
 | .sto _ a _=>trf (tev ts.fr a)
 | .sll _ x _ _=>trf (tev ts.fr x)
 |_=> []
def yji:List (TV K)→List (Nat×Nat)
 | []=> []
 | v::r=>match v.s with
   | .rw s c=>(s,c)::yji r
   |_=>yji r
def plcs (sp:Sl K) (d:Option Nat) (m:RM):List (Nat×Nat):=m.b.map (·.2)++plsR m.r++(newL sp).map fun s=>(yab d s,2)
def tft (F:Cf K) (ts:TS K) (o:AO):Option TFt:=match o.op with
 | .call f args=>match tkys ts (tky ts) (args.map (tea ts.fr)) with
   | some l=>match ygL F.C ts f (args.map (tea ts.fr)) F.L with
     |some (sp,_,m)=>some ⟨l++plcs sp o.dst m,plcs sp o.dst m⟩
     | none=>some ⟨l,match flS F.C F.S f with
       |true=> []
       |false=>yji (args.map (tea ts.fr))⟩
   |none=>none
 | .calv x args=>match yqy ts (tea ts.fr x),tkys ts (tky ts) (args.map (tea ts.fr)) with
   | some ca,some l=>match tev ts.fr x with
     | .fn f a c=>match ygL F.C ts f (a++args.map (tea ts.fr)++c) F.L with
       |some (sp,_,m)=>some ⟨ca++l++plcs sp o.dst m,plcs sp o.dst m⟩
       |none=>some ⟨ca++l,yji (a++args.map (tea ts.fr)++c)⟩
     |_=>some ⟨ca++l,yji (args.map (tea ts.fr))⟩
   |_,_=>none
 | .mv _=>some ⟨[],[]⟩
 | u=>match tkys ts (tky ts) ((opds u).map (tea ts.fr)) with
   |some l=>some ⟨l,twk' ts o⟩
   |none=>none
def memQ:List (Nat×Nat)→Nat×Nat→Bool
 | [],_=>false
 |p::r,q=>(Nat.beq p.1 q.1&&Nat.beq p.2 q.2)||memQ r q
def okT (a b:TFt):Bool:=(a.wk.all fun p=> !memQ b.rk p&& !memQ b.wk p)&&b.wk.all fun p=> !memQ a.rk p
def okTs (t:TFt) (acc:List TFt):List Nat→Bool
 | []=>true
 | j::r=>(match acc[j]? with
   |some x=>okT t x
   |none=>true)&&okTs t acc r
def yll (F:Cf K) (o:AO) (fre:List Nat) (acc:List TFt) (R:List TFt→TS K→Prop) (ts:TS K):Prop:=match tft F ts o with
 | some t=>match okTs t acc fre with
   |true=>step F true o ts (R (acc++ [t]))
   |false=>False
 |none=>False
def tdg (F:Cf K) (o:AO) (fre:List Nat) (acc:List TFt) (R:List TFt→TS K→Prop) (ts:TS K):Prop:=
 tgd ts.fr o.guard (yll F o fre acc R ts) (R (acc++ [⟨[],[]⟩]) (ts.put o.dst (.tup [])))
  fun d c b=>cnd c (match b with
   |true=>yll F o fre acc R (ts.put (some d) (.lb true))
   |false=>R (acc++ [⟨[],[]⟩]) ((ts.put (some d) (.lb true)).put o.dst (.tup []))) (match b with
   |true=>R (acc++ [⟨[],[]⟩]) ((ts.put (some d) (.lb false)).put o.dst (.tup []))
   |false=>yll F o fre acc R (ts.put (some d) (.lb false)))
def tdrw (F:Cf K):List (AO×List Nat)→List TFt→TS K→(TS K→Prop)→Prop
 | [],_,ts,X=>X ts
 |(o,fre)::r,acc,ts,X=>tdg F o fre acc (fun acc t=>tdrw F r acc t X) ts
def srcD (L:List (AO×List Nat)):Nat→Nat→Nat
 |0,n=>n
 | k+1,n=>match L.find? (fun p=>match p.1.dst with|some d=>Nat.beq d n|none=>false) with
   |some (⟨_,_, .mv (.t m)⟩,_)=>srcD L k m
   |_=>n
def ysr (L:List (AO×List Nat)):Bool:=L.any fun p=>match p.1.op with
 | .sll _ _ (some _) _=>true
 |_=>false
def ldC (ts:TS K) (a:AOpd):List (TV K):=match tev ts.fr a with
 | .px s c off=>match ts.tb s c with
   | some (.box _ cs)=>match cs[off]? with
     |some v=> [v]
     |none=> []
   |_=> []
 |_=> []
def frzS (F:Cf K) (L:List (AO×List Nat)) (ts:TS K):TS K:=match ysr L with
 |true=>(L.flatMap fun p=>match p.1.op with| .ld _ _ a=> [a]|_=> []).foldl (fun ts a=>fzA F.C 9 (ldC ts a) ts) ts
 |false=>ts
def ynJ (F:Cf K) (L:List (AO×List Nat)) (ts:TS K):TS K:=
 (L.flatMap fun p=>(frzO F ts.fr p.1.op).flatMap fun x=>match x with| .t n=> [srcD L 9 n]| .c _=> []).foldl (fun ts n=>fzA F.C 9 [lkT ts.fr n] ts) ts
def frzD (F:Cf K) (L:List (AO×List Nat)) (ts:TS K):TS K:=frzS F L (ynJ F L ts)
def eqRS:RS→RS→Bool
 | .rdy, .rdy=>true
 | .busy, .busy=>true
 | .ret, .ret=>true
 | .ex i, .ex j=>Nat.beq i j
 |_,_=>false
def eqH:List RS→List RS→Bool
 | [],[]=>true
 |a::r,b::q=>eqRS a b&&eqH r q
 |_,_=>false
def rdH (C:Cx K) (τ:Tm) (h:List RS) (ts:TS K) (J:List (DV K)→Prop):Prop:=match eqH ts.h h with
 |true=>rdJ C τ ts J
 |false=>False
def lkI:List (Nat×AFn)→Nat→Option AFn
 | [],_=>none
 | p::r,f=>match Nat.beq p.1 f with
   |true=>some p.2
   |false=>lkI r f
def rngS (id r N2:Nat) (fa fc:List (TV K)) (ts:TS K):TS K:=⟨zipT (fa++ .cn id (.yl r)::fc) 0++(N2, .cn id (.yl r))::reix (upx (N2+1)) ts.fr,ts.od,ts.nw,(id, .yl r)::ts.rg, .rdy::ts.h⟩
def dnS (N2:Nat) (h:List RS) (ts:TS K):TS K:=⟨reix (dnx (N2+1)) ts.fr,ts.od,ts.nw,ts.rg,h⟩
def bkS (Nr:Nat) (h:List RS) (ts:TS K):TS K:=⟨reix (dnx Nr) ts.fr,ts.od,ts.nw,ts.rg,h⟩
def yldS (N2 Nr:Nat) (pv:List (Nat×TV K)) (ts:TS K):TS K:=⟨pv.foldl (fun l p=>p::l) (reix (acx (N2+1) Nr) ts.fr++reix (upx Nr) ts.fr),ts.od,ts.nw,ts.rg,ts.h⟩
def setS (h:List RS) (ts:TS K):TS K:=⟨ts.fr,ts.od,ts.nw,ts.rg,h⟩
def isY (id:Nat) (v:TV K):Bool:=match v with
 | .cn i _=>Nat.beq i id
 |_=>false
def okG (g:Option (Nat×Bool)) (fr:List (Nat×TV K)):Bool:=match g with
 |none=>true
 | some (d,b)=>match (lkT fr d).s with
   | .bl c=>c==b
   | .lb c=>c==b
   |_=>false
def rngT (id N2:Nat) (Q:AEx→TS K→Prop) (e:AEx) (ts:TS K):Prop:=match e with
 | .x _=>False
 | _=>match isY id (lkT ts.fr N2),ts.h with
   |true, .rdy::h=>Q .n (dnS N2 h ts)
   |true, .ret::h=>Q .r (dnS N2 h ts)
   |true, .ex i::h=>Q (.x i) (dnS N2 h ts)
   |_,_=>False
def rndT (id Nr N2:Nat) (X:Bool→TS K→Prop) (e:AEx) (ts:TS K):Prop:=match isY id (lkT ts.fr (Nr+N2)),ts.h with
 | true, .busy::h=>match e with
   | .n=>X true (bkS Nr (.rdy::h) ts)
   | .r=>X false (bkS Nr (.ret::h) ts)
   | .x i=>X false (bkS Nr (.ex i::h) ts)
 |_,_=>False
def asgT (id Nr N2:Nat) (X:TS K→Prop) (e:AEx) (ts:TS K):Prop:=match e with
 | .n=>match isY id (lkT ts.fr (Nr+N2)),ts.h with
   |true, .rdy::h=>X (setS (.busy::h) ts)
   |_,_=>False
 |_=>False
def isN:Option (TV K)→Bool
 |none=>true
 |some _=>false
def ytP {α:Type}:List α→Bool
 | []=>true
 |_=>false
def Dn (F : Cf K):An K→ycl→(AEx→TS K→Prop)→TS K→Prop
 | .o, .skip,Q,ts=>Q .n ts
 | .o, .ops L,Q,ts=>tops F L ts fun t=>Q .n (er t)
 | .o, .drw L,Q,ts=>tdrw F L [] (frzD F L ts) fun t=>Q .n (er t)
 | .o, .exit id,Q,ts=>Q (.x id) ts
 | .o, .ret,Q,ts=>Q .r ts
 | .s a b, .seq x y,Q,ts=>Dn F a x (fun e t=>match e with
   | .n=>Dn F b y Q t
   |e=>Q e t) ts
 | .c a b, .cond u x y,Q,ts=>match tev ts.fr u with
   | .lb true=>Dn F a x Q ts
   | .lb false=>Dn F b y Q ts
   | .bl c=>cnd c (Dn F a x Q ts) (Dn F b y Q ts)
   |_=>False
 | .b a, .block id x,Q,ts=>Dn F a x (fun e t=>match e with
   | .x i=>match Nat.beq i id with
     |true=>Q .n t
     |false=>Q (.x i) t
   |e=>Q e t) ts
 | .l τ a, .loop x,Q,ts=>∀X:Cur K Prop (ctT τ),(allC (ctT τ) fun env=>Dn F (a env) x (fun e t=>match e with
    | .n=>rdH F.C τ ts.h t (apC False (ctT τ) X)
    |e=>Q e t) (bdT F.C τ (tagT τ ts).rg ts.h env)->apC False (ctT τ) X env)->rdJ F.C τ (tagT τ ts) (apC False (ctT τ) X)
 | .j τ a b, .seq x y,Q,ts=>∀J:Cur K Prop (ctT τ),(allC (ctT τ) fun env=>Dn F (b env) y Q (bdT F.C τ (tagT τ ts).rg ts.h env)→apC False (ctT τ) J env)→
    Dn F a x (fun e t=>match e with
     | .n=>rdH F.C τ ts.h t (apC False (ctT τ) J)
     |e=>Q e t) (tagT τ ts)
 | .g id τ τY ai aa ab, .rng u ps aA aB,Q,ts=>match F.rd with
   |true=>False
   | false=>rdJ F.C τ (tagT τ ts) fun env=>match tev (bdT F.C τ (tagT τ ts).rg ts.h env).fr u with
     | .fn f fa fc=>match lkI F.I f with
       | some c2=>match isN (lkR (tagT τ ts).rg id)&&Nat.ble (fa.length+fc.length+1) c2.N&&ytP c2.res with
         |true=>∀r:Nat,Dn {F with N:=c2.N,rd:=false,Y:=some (id,fun N2 g x args t X=>rdJ F.C τY (tagT τY (er t)) fun env2=>match isY id (lkT (bdT F.C τY (tagT τY (er t)).rg t.h env2).fr N2)&&isY id (tea (bdT F.C τY (tagT τY (er t)).rg t.h env2).fr x)&&Nat.beq ps.size args.length&&okG g (bdT F.C τY (tagT τY (er t)).rg t.h env2).fr,t.h with
            |true, .rdy::_=>Dn {F with rd:=true,Y:=none} aa aA (asgT id F.N N2 fun t2=>Dn {F with rd:=true,Y:=none} ab aB (rndT id F.N N2 X) t2) (yldS N2 F.N (ps.toList.zip (args.map (tea (bdT F.C τY (tagT τY (er t)).rg t.h env2).fr))) (bdT F.C τY (tagT τY (er t)).rg t.h env2))
            |_,_=>False)} ai c2.body (rngT id c2.N Q) (rngS id r c2.N fa fc (bdT F.C τ (tagT τ ts).rg ts.h env))
         |false=>False
       |none=>False
     |_=>False
 |_,_,_,_=>False
def outR (C:Cx K):List Nat→List (TV K)→(List (DV K)→Prop)→Prop
 | [],[],p=>p []
 | t::r,v::q,p=>match outV C t v with
   |some x=>outR C r q fun env=>p (.v t x::env)
   |none=>False
 |_,_,_=>False
def retF (C:Cx K) (res:List (Nat×Option Nat)) (ts:TS K):Nat→TS K
 |0=>ts
 | n +1=>match ycr ts res with
   | some vs=>match ylc vs with
     | []=>ts
     |s::_=>retF C res (fzA C 9 [.rw s 1] ts) n
   |none=>ts
def retD (C:Cx K) (res:List (Nat×Option Nat)) (rs:List Nat) (p:List (DV K)→Prop):AEx→TS K→Prop
 | .x _,_=>False
 | _,ts=>match ycr (retF C res ts 9) res with
   |some vs=>outR C rs vs p
   |none=>False
def entT (C:Cx K):List PD→List (AD K)→Nat→List (Nat×TV K)
 | .v t::ps, .d (.v t' x)::env,i=>(i,if h:t'=t then inV C t (h▸x) else .un)::entT C ps env (i+1)
 | .p t::ps, .d (.v t' x)::env,i=>(i,if h:t'=t then .ep t [h▸x] 0 0 else .un)::entT C ps env (i+1)
 | .f az bs::ps, .f F::env,i=>(i, .fv az bs F)::entT C ps env (i+1)
 |_,_,_=> []
def eqR:List (DV K)→List (DV K)→Prop
 | [],[]=>True
 | [.v t x],[.v t' y]=>if h:t=t' then h▸x=y else False
 | .v t x::a, .v t' y::b=>(if h:t=t' then h▸x=y else False)/\eqR a b
 |_,_=>False
def DnF (F:Cf K) (A:An K) (c:AFn) (ps:List PD) (rs:List Nat) (env:List (AD K)) (r:List (DV K)):Prop:=
 Dn F A c.body (retD F.C c.res rs fun x=>eqR x r) ⟨entT F.C ps env 0,[],[],[],[]⟩
end Go.AV
end
noncomputable section
namespace Go.AV
open Go.RowKit Go.RG Go.Lib
mutual
theorem ydk:∀(u:AV),(dwk u).noL=u.noL
 | .agg cs=>by simp only[dwk,AV.noL];exact ybn cs
 | .tup cs=>by simp only[dwk,AV.noL];exact ybn cs
 | .fn f a c=>by simp only[dwk,AV.noL,ybn]
 | .sl z n xs=>rfl
 | .gs k n=>rfl
 | .pt k n=>rfl
 | .bl b=>rfl
 | .it k n=>rfl
 | .st s=>rfl
 | .nptr=>rfl
 | .ep xs off=>rfl
 | .nfn=>rfl
 | .un=>rfl
 | .yld o=>rfl
 | .rcd _ _ _ _ _=>rfl
theorem ybn:∀(l:List AV),noLs (dwks l)=noLs l
 | []=>rfl
 |x::l=>by simp only[dwks,noLs,ydk,ybn]
end
mutual
theorem yrc:∀(u:AV),dwk (dwk u)=dwk u
 | .agg cs=>by simp only[dwk,ybX cs]
 | .tup cs=>by simp only[dwk,ybX cs]
 | .fn f a c=>by simp only[dwk,ybX a,ybX c]
 | .sl z n xs=>by simp only[dwk,ybX xs]
 | .gs k n=>rfl
 | .pt k n=>rfl
 | .bl b=>rfl
 | .it k n=>rfl
 | .st s=>rfl
 | .nptr=>rfl
 | .ep xs off=>by simp only[dwk,ybX xs]
 | .nfn=>rfl
 | .un=>rfl
 | .yld o=>rfl
 | .rcd _ _ _ _ _=>rfl
theorem ybX:∀(l:List AV),dwks (dwks l)=dwks l
 | []=>rfl
 |x::l=>by simp only[dwks,yrc x,ybX l]
end
theorem yiJ (l:List AV):isRc (dwks l)=isRc l:=by
 rcases l with _|⟨u,_|⟨v,r⟩⟩
 ·rfl
 ·cases u<;>rfl
 ·cases u<;>rfl
theorem VR.dwk {G:Gh} {u:AV} {v:Value} (h:VR G u v):VR G (AV.dwk u) v:=by
 induction h with
 |agg cs vs hl h h1 ih=>exact .agg _ vs (by rw[yaL];exact hl) (fun j u x hu hx=>by obtain ⟨w,e1,rfl⟩:=ycs cs j u hu;exact ih j w x e1 hx) h1
 |tup cs vs hl h ih=>exact .tup _ vs (by rw[yaL];exact hl) (fun j u x hu hx=>by obtain ⟨w,e1,rfl⟩:=ycs cs j u hu;exact ih j w x e1 hx)
 |nsl z n xs hn hx=>exact .nsl false n _ hn (by rw[hx];rfl)
 |esl n xs hn hx a cap=>exact .esl n _ hn (by rw[hx];rfl) a cap
 |sl n xs b off cap f hI hc h h1 hn hm hq ih=>exact .sl n _ b off cap f hI (fun j u hu=>by obtain ⟨w,e1,rfl⟩:=ycs xs j u hu;exact hc j w e1) (fun j u hu=>by obtain ⟨w,e1,rfl⟩:=ycs xs j u hu;exact ih j w e1) (fun j u hu=>by obtain ⟨w,e1,rfl⟩:=ycs xs j u hu;exact h1 j w e1) hn hm (by rw[ybn];exact hq)
 |fn f a c va vc ha hc h h' ih ih'=>exact .fn f _ _ va vc (by rw[yaL];exact ha) (by rw[yaL];exact hc) (fun j u x hu hx=>by obtain ⟨w,e1,rfl⟩:=ycs a j u hu;exact ih j w x e1 hx) (fun j u x hu hx=>by obtain ⟨w,e1,rfl⟩:=ycs c j u hu;exact ih' j w x e1 hx)
 |bl b=>exact .bl b
 |it k n=>exact .it k n
 |st s b h=>exact .st s b h
 |gs k n b cap hk=>exact .gs k n b cap hk
 |gsd k n v hk h1=>exact .gsd k n v hk h1
 |nptr=>exact .nptr
 |pt k off b cap hk=>exact .pt k off b cap hk
 |ptd k off v hk h1=>exact .ptd k off v hk h1
 |ep xs off b base f hI hc h h1 hq ih=>exact .ep _ off b base f hI (fun j u hu=>by obtain ⟨w,e1,rfl⟩:=ycs xs j u hu;exact hc j w e1) (fun j u hu=>by obtain ⟨w,e1,rfl⟩:=ycs xs j u hu;exact ih j w e1) (fun j u hu=>by obtain ⟨w,e1,rfl⟩:=ycs xs j u hu;exact h1 j w e1) (by rw[ybn];exact hq)
 |nfn=>exact .nfn
 |yld o l cap hk=>exact .yld o l cap hk
 |yldd o v hk h1=>exact .yldd o v hk h1
 |un v=>exact .un v
theorem VRs.dwk {G:Gh} {us:List AV} {vs:List Value} (h:VRs G us vs):VRs G (dwks us) vs:=
 ⟨by rw[yaL];exact h.1,fun j u x hu hx=>by obtain ⟨w,e1,rfl⟩:=ycs us j u hu;exact (h.2 j w x e1 hx).dwk⟩
theorem yay.dwkA {P:Program} {f:FuncId} {args:List AV} {H:Hp} {n:Nat} {Post:AV->Hp->Nat->Prop} (h:yay P f (dwks args) H n Post):yay P f args H n Post:=fun G vs hg hM hV=>h G vs hg hM hV.dwk
theorem yay.dwkR {P:Program} {f:FuncId} {args:List AV} {H:Hp} {n:Nat} {Post:AV→Hp→Nat→Prop} (h:yay P f args H n fun av H' n'=>Post (AV.dwk av) H' n'):yay P f args H n Post:=fun G vs hg hM hV=>
 (h G vs hg hM hV).mono fun _ _ ⟨v,av,H',n',G',a1,a2,a3,a4,a5,a6⟩=>⟨v,AV.dwk av,H',n',G',a1,a2,a3,a4,a5.dwk,by rw[ydk];exact a6⟩
theorem yhP {u:AV}:(dwk u).one=u.one:=by cases u<;>rfl
variable {K:Nat->Type}
structure RR (K:Nat→Type) where
 R:List RS->Hp->Nat->Prop
 L:Nat->Bool
instance:CoeFun (RR K) fun _=>List RS->Hp->Nat->Prop:=⟨RR.R⟩
def eV (C:Cx K) (t:Nat) (x:K t):AV:=match (C.T t).g with
 |true=> .agg ((C.E t).c x)
 |false=>((C.E t).c x).headD .un
def dvA (C:Cx K):DV K→AV
 | .v t x=>eV C t x
 |_=> .un
def yb3:List AV→AV
 | [v]=>v
 |vs=> .tup vs
def FOk (P:Program) (C:Cx K) (F:FV K):Prop:=F.av.noL=true∧dwk F.av=F.av∧F.av.one=true∧
 ∃(f:Nat) (a c:List AV),F.av= .fn (.func f) a c/\∀(e r:List (DV K)),F.W e r->Pure P f (a++e.map (dvA C)++c) (yb3 (r.map (dvA C)))
def penc (C:Cx K):PD→AD K→AV
 | .p t, .d (.v t' x)=>if h:t'=t then .ep ((C.E t).c (h▸x)) 0 else .un
 |_, .d x=>dvA C x
 |_, .f F=>F.av
def yco (C:Cx K):List PD→List (AD K)→List AV
 |p::ps,x::xs=>penc C p x::yco C ps xs
 |_,_=> []
def SpOk (P:Program) (C:Cx K) (sp:Sp K):Prop:=∀(env:List (AD K)) (r:List (DV K)),(∀F,AD.f F∈env->FOk P C F)->sp.W env r->env.length=sp.ps.length/\Pure P sp.f (yco C sp.ps env) (yb3 (r.map (dvA C)))
def okr (ts:TS K) (s c:Nat):Prop:=c=1∨(c=2/\memB ts.nw s=true)
section
variable (P:Program) (C:Cx K) (ts:TS K) (χ:Nat->Nat->Bool)
inductive TR:TV K→AV→Prop
 |un (v:AV):TR .un v
 |lb (b:Bool):TR (.lb b) (.bl b)
 |bl (b:Bool):TR (.bl b) (.bl b)
 |li (k:IntKind) (n:Int):TR (.li k n) (.it k n)
 |it (k:IntKind) (n:Int):TR (.it k n) (.it k n)
 |st (s:Str):TR (.st s) (.st s)
 |agg (us:List (TV K)) (vs:List AV) (hl:vs.length=us.length) (h:∀(j:Nat) (u:TV K) (v:AV),us[j]? =some u->vs[j]? =some v->TR u v):TR (.agg us) (.agg vs)
 |tup (us:List (TV K)) (vs:List AV) (hl:vs.length=us.length) (h:∀(j:Nat) (u:TV K) (v:AV),us[j]? =some u->vs[j]? =some v->TR u v):TR (.tup us) (.tup vs)
 |nil:TR .nil (.sl true 0 [])
 |em (z:Bool):TR .em (.sl z 0 [])
 |sl (e:Nat) (l:List (K e)) (z:Bool) (n:Nat) (xs:List AV) (hn:n=l.length) (hx:dwks xs=cl (C.E e) l):TR (.sl e l) (.sl z n xs)
 |rwd (s c:Nat) (v:AV) (hr:okr ts s c) (h:tln (ts.tb s c)=none) (h1:v.one=true):TR (.rw s c) v
 |rw (s c n:Nat) (hr:okr ts s c) (h:tln (ts.tb s c)=some n) (hx:χ s c=false):TR (.rw s c) (.gs (.l s c) n)
 |rwn (s c:Nat) (hr:okr ts s c) (h:tln (ts.tb s c)=some 0) (hx:χ s c=true):TR (.rw s c) (.sl true 0 [])
 |px (s c off:Nat) (hr:okr ts s c):TR (.px s c off) (.pt (.l s c) off)
 |pr (e s c i of:Nat) (hr:okr ts s c) (hx:χ s c=false):TR (.pr e s c i of) (.pt (.l s c) (i*(C.E e).sz+of))
 |ep (e:Nat) (l:List (K e)) (i of:Nat) (xs:List AV) (hx:dwks xs=cl (C.E e) l):TR (.ep e l i of) (.ep xs (i*(C.E e).sz+of))
 |gs (l:List Str) (i:Nat) (xs:List AV) (hx:dwks xs=l.map .st):TR (.gs l i) (.ep xs i)
 |nptr:TR .nptr .nptr
 |fn (f:Nat) (a c:List (TV K)) (a' c':List AV) (ha:a'.length=a.length) (hc:c'.length=c.length) (h:∀(j:Nat) (u:TV K) (v:AV),a[j]? =some u→a'[j]? =some v→TR u v)
    (h':∀(j:Nat) (u:TV K) (v:AV),c[j]? =some u->c'[j]? =some v->TR u v):TR (.fn f a c) (.fn (.func f) a' c')
 |fv (ps rs:List Nat) (F:FV K) (v:AV) (h:FOk P C F) (hv:dwk v=F.av):TR (.fv ps rs F) v
 |yl (r:Nat):TR (.yl r) (.yld r)
 |cn (id:Nat) (u:TV K) (v:AV) (h:lkR ts.rg id=some u) (hn:yaE u=true) (hv:TR u v):TR (.cn id u) v
end
mutual
def noyV:TV K→Bool
 | .agg cs=>yfg cs
 | .tup cs=>yfg cs
 | .fn _ a c=>yfg a&&yfg c
 | .fv _ _ _=>false
 | .yl _=>false
 | .cn _ v=>noyV v
 |_=>true
def yfg:List (TV K)→Bool
 | []=>true
 |v::r=>noyV v&&yfg r
end
structure CxOk (P:Program) (C:Cx K):Prop where
 c:∀(t:Nat) (x:K t) ts χ,((C.E t).c x).length=((C.T t).c x).length/\∀(j:Nat) (u:TV K) (v:AV),((C.T t).c x)[j]? =some u->((C.E t).c x)[j]? =some v->TR P C ts χ u v
 rd:∀(t:Nat) (cs:List (TV K)) (x:K t) ts χ (vs:List AV),(C.T t).rd cs=some x->vs.length=cs.length->(∀(j:Nat) (u:TV K) (v:AV),cs[j]? =some u->vs[j]? =some v->TR P C ts χ u v)->dwks vs=(C.E t).c x
 g:∀t,(C.T t).g=false->(C.E t).sz=1
 dw:∀t (x:K t),dwks ((C.E t).c x)=(C.E t).c x
 tb:∀t f,(C.T t).tb=some f->∀x,∃n,(C.E t).c x= [.it .u8 n]/\f x=UInt8.ofNat n.toNat
 ob:∀t f,(C.T t).ob=some f->∀b:UInt8,(C.E t).c (f b)= [.it .u8 b.toNat]
 fl:∀t,(C.T t).fl=true->∀x,ydj ((C.E t).c x)=true
 nr:∀t x,yaQ ((C.T t).c x)=true
 hl:∀t x m,hlts m ((C.E t).c x)=true
 ny:∀t x,yfg ((C.T t).c x)=true
 rc:∀t x,isRc ((C.E t).c x)=false
section
variable {P:Program} {C:Cx K} {R:RR K} {ts ts':TS K} {χ χ':Nat->Nat->Bool}
theorem TR.s {u:TV K} {v:AV} (h:TR P C ts χ u v):TR P C ts χ u.s v:=by
 cases h with
 |cn id u v h hn hv=>exact hv
 |un v=>exact .un v
 |lb b=>exact .lb b
 |bl b=>exact .bl b
 |li k n=>exact .li k n
 |it k n=>exact .it k n
 |st s=>exact .st s
 |agg us vs hl h=>exact .agg us vs hl h
 |tup us vs hl h=>exact .tup us vs hl h
 |nil=>exact .nil
 |em z=>exact .em z
 |sl e l z n xs hn hx=>exact .sl e l z n xs hn hx
 |rwd s c v hr h h1=>exact .rwd s c v hr h h1
 |rw s c n hr h hx=>exact .rw s c n hr h hx
 |rwn s c hr h hx=>exact .rwn s c hr h hx
 |px s c off hr=>exact .px s c off hr
 |pr e s c i of hr hx=>exact .pr e s c i of hr hx
 |ep e l i of xs hx=>exact .ep e l i of xs hx
 |gs l i xs hx=>exact .gs l i xs hx
 |nptr=>exact .nptr
 |fn f a c a' c' ha hc h h'=>exact .fn f a c a' c' ha hc h h'
 |fv ps rs F v h hv=>exact .fv ps rs F v h hv
 |yl r=>exact .yl r
structure Mono (ts ts':TS K) (χ χ':Nat→Nat→Bool):Prop where
 rg:∀id u,lkR ts.rg id=some u->lkR ts'.rg id=some u
 ok:∀s c,okr ts s c->okr ts' s c
 pl:∀s c,okr ts s c->(tln (ts'.tb s c)=none/\χ' s c=false)∨(tln (ts'.tb s c)=tln (ts.tb s c)/\χ' s c=χ s c)
theorem TR.mono (hm:Mono ts ts' χ χ') {u:TV K} {v:AV} (h:TR P C ts χ u v):TR P C ts' χ' u v:=by
 induction h with
 |cn id u v h hn _ ih=>exact .cn id u v (hm.rg id u h) hn ih
 |un v=>exact .un v
 |lb b=>exact .lb b
 |bl b=>exact .bl b
 |li k n=>exact .li k n
 |it k n=>exact .it k n
 |st s=>exact .st s
 |agg us vs hl _ ih=>exact .agg us vs hl ih
 |tup us vs hl _ ih=>exact .tup us vs hl ih
 |nil=>exact .nil
 |em z=>exact .em z
 |sl e l z n xs hn hx=>exact .sl e l z n xs hn hx
 | rwd s c v hr h ho=>
   refine .rwd s c v (hm.ok s c hr) ?_ ho
   rcases hm.pl s c hr with h1|h1
   ·exact h1.1
   ·rw[h1.1];exact h
 | rw s c n hr h hx=>
   rcases hm.pl s c hr with h1|h1
   ·exact .rwd s c _ (hm.ok s c hr) h1.1 rfl
   ·exact .rw s c n (hm.ok s c hr) (by rw[h1.1];exact h) (by rw[h1.2];exact hx)
 | rwn s c hr h hx=>
   rcases hm.pl s c hr with h1|h1
   ·exact .rwd s c _ (hm.ok s c hr) h1.1 rfl
   ·exact .rwn s c (hm.ok s c hr) (by rw[h1.1];exact h) (by rw[h1.2];exact hx)
 |px s c off hr=>exact .px s c off (hm.ok s c hr)
 | pr e s c i of hr hx=>
   refine .pr e s c i of (hm.ok s c hr) ?_
   rcases hm.pl s c hr with h1|h1
   ·exact h1.2
   ·rw[h1.2];exact hx
 |ep e l i of xs hx=>exact .ep e l i of xs hx
 |gs l i xs hx=>exact .gs l i xs hx
 |nptr=>exact .nptr
 |fn f a c a' c' ha hc _ _ ih ih'=>exact .fn f a c a' c' ha hc ih ih'
 |fv ps rs F v h hv=>exact .fv ps rs F v h hv
 |yl r=>exact .yl r
theorem Mono.refl:Mono ts ts χ χ:=⟨fun _ _ h=>h,fun _ _ h=>h,fun _ _ _=> .inr ⟨rfl,rfl⟩⟩
theorem Mono.put {d:Option Nat} {u:TV K}:Mono ts (ts.put d u) χ χ:=by
 cases d with
 |none=>exact .refl
 |some d=>exact ⟨fun _ _ h=>h,fun _ _ h=>h,fun _ _ _=> .inr ⟨rfl,rfl⟩⟩
theorem Mono.trans {ts'':TS K} {χ'':Nat→Nat→Bool} (h:Mono ts ts' χ χ') (k:Mono ts' ts'' χ' χ'') (hv:∀s c,tln (ts'.tb s c)=none→χ' s c=false→tln (ts''.tb s c)=none∧χ'' s c=false):Mono ts ts'' χ χ'':=
 ⟨fun _ _ q=>k.rg _ _ (h.rg _ _ q),fun _ _ q=>k.ok _ _ (h.ok _ _ q),fun s c q=>by
   rcases h.pl s c q with h1|h1
   ·exact .inl (hv s c h1.1 h1.2)
   ·rcases k.pl s c (h.ok s c q) with h2|h2
    ·exact .inl h2
    ·exact .inr ⟨h2.1.trans h1.1,h2.2.trans h1.2⟩⟩
theorem TR.noref {u:TV K} {v:AV} (h:TR P C ts χ u v):yaE u=true→TR P C ts' χ' u v∧v.noL=true:=by
 have hL:∀ {us:List (TV K)} {vs:List AV},vs.length=us.length→yaQ us=true→(∀(j:Nat) (u:TV K) (v:AV),us[j]? =some u→vs[j]? =some v→yaE u=true→TR P C ts' χ' u v∧v.noL=true)→
   (∀(j:Nat) (u:TV K) (v:AV),us[j]? =some u->vs[j]? =some v->TR P C ts' χ' u v)/\noLs vs=true:=by
  intro us
  induction us with
  |nil=>intro vs hl _ _;exact ⟨fun j u v h=>by simp at h,by cases vs with|nil=>rfl|cons x r=>simp at hl⟩
  | cons x r ih=>
    intro vs hl hn hh
    cases vs with
    |nil=>simp at hl
    | cons y q=>
      simp only[yaQ,Bool.and_eq_true] at hn
      obtain ⟨a1,a2⟩:=ih (vs:=q) (by simpa using hl) hn.2 (fun j u v h1 h2=>hh (j+1) u v (by simpa using h1) (by simpa using h2))
      obtain ⟨b1,b2⟩:=hh 0 x y rfl rfl hn.1
      refine ⟨fun j u v h1 h2=> ?_,by simp[noLs,a2,b2]⟩
      cases j with
      |zero=>simp at h1 h2;subst h1;subst h2;exact b1
      |succ j=>exact a1 j u v (by simpa using h1) (by simpa using h2)
 induction h with
 |cn id u v h _ _ ih=>intro hn;simp[yaE] at hn
 |un v=>intro hn;simp[yaE] at hn
 |lb b=>exact fun _=>⟨.lb b,rfl⟩
 |bl b=>exact fun _=>⟨.bl b,rfl⟩
 |li k n=>exact fun _=>⟨.li k n,rfl⟩
 |it k n=>exact fun _=>⟨.it k n,rfl⟩
 |st s=>exact fun _=>⟨.st s,rfl⟩
 | agg us vs hl _ ih=>
   intro hn
   obtain ⟨a,b⟩:=hL hl (by simpa only[yaE] using hn) ih
   exact ⟨.agg us vs hl a,by simpa only[AV.noL] using b⟩
 | tup us vs hl _ ih=>
   intro hn
   obtain ⟨a,b⟩:=hL hl (by simpa only[yaE] using hn) ih
   exact ⟨.tup us vs hl a,by simpa only[AV.noL] using b⟩
 |nil=>exact fun _=>⟨.nil,rfl⟩
 |em z=>exact fun _=>⟨.em z,rfl⟩
 |sl e l z n xs hn hx=>exact fun _=>⟨.sl e l z n xs hn hx,rfl⟩
 |rwd s c v hr h h1=>intro hn;simp[yaE] at hn
 |rw s c n hr h hx=>intro hn;simp[yaE] at hn
 |rwn s c hr h hx=>intro hn;simp[yaE] at hn
 |px s c off hr=>intro hn;simp[yaE] at hn
 |pr e s c i of hr hx=>intro hn;simp[yaE] at hn
 |ep e l i of xs hx=>exact fun _=>⟨.ep e l i of xs hx,rfl⟩
 |gs l i xs hx=>exact fun _=>⟨.gs l i xs hx,rfl⟩
 |nptr=>exact fun _=>⟨.nptr,rfl⟩
 | fn f a c a' c' ha hc _ _ ih ih'=>
   intro hn
   simp only[yaE,Bool.and_eq_true] at hn
   obtain ⟨a1,a2⟩:=hL ha hn.1 ih
   obtain ⟨b1,b2⟩:=hL hc hn.2 ih'
   exact ⟨.fn f a c a' c' ha hc a1 b1,by simp[AV.noL,a2,b2]⟩
 |fv ps rs F v h hv=>exact fun _=>⟨.fv ps rs F v h hv,by rw[<-ydk,hv];exact h.1⟩
 |yl r=>exact fun _=>⟨.yl r,rfl⟩
variable (P C ts χ) in
def MR (b:TB K) (kb:KB):Prop:=match b with
 | .box e cs=>kb.e=e/\kb.sz=cs.length/\kb.cells.length=cs.length/\∀(j:Nat) (u:TV K) (v:AV),cs[j]? =some u->kb.cells[j]? =some v->TR P C ts χ u v
 | .row e l=>kb.e=e/\kb.sz=(C.E e).sz/\dwks kb.cells=cl (C.E e) l
 | .lrow e n cs=>kb.e=e/\kb.sz=(C.E e).sz/\kb.cells.length=cs.length/\cs.length=n*(C.E e).sz/\∀(j:Nat) (u:TV K) (v:AV),cs[j]? =some u->kb.cells[j]? =some v->TR P C ts χ u v
 | .opq e t x=>kb.e=e/\1000000<=e/\kb.sz=0/\isRc kb.cells=false/\noLs kb.cells=true/\dwks kb.cells=(C.E t).c x
theorem MR.mono (hm:Mono ts ts' χ χ') {b:TB K} {kb:KB} (h:MR P C ts χ b kb):MR P C ts' χ' b kb:=by
 cases b with
 |box e cs=>exact ⟨h.1,h.2.1,h.2.2.1,fun j u v a b=>(h.2.2.2 j u v a b).mono hm⟩
 |row e l=>exact h
 |lrow e n cs=>exact ⟨h.1,h.2.1,h.2.2.1,h.2.2.2.1,fun j u v a b=>(h.2.2.2.2 j u v a b).mono hm⟩
 |opq e t x=>exact h
theorem MR.nz {b:TB K} {kb:KB} (h:MR P C ts χ b kb) (hz:kb.okb) (hb:∀e t x,b≠ .opq e t x):kb.sz≠0:=by
 rcases hz with hz|⟨ho,hc⟩
 ·exact hz
 intro h0
 have hn:kb.cells.length=0→False:=fun q=>by
  have:kb.cells= []:=List.eq_nil_of_length_eq_zero q
  rw[this] at hc;cases hc
 cases b with
 |box e cs=>exact hn (h.2.2.1.trans (h.2.1.symm.trans h0))
 | row e l=>
   refine hn ?_
   rw[<-yaL,h.2.2]
   have hs:(C.E e).sz=0:=h.2.1.symm.trans h0
   have:cl (C.E e) l= []:=by
    unfold cl
    rw[List.flatMap_eq_nil_iff]
    exact fun x _=>List.eq_nil_of_length_eq_zero (((C.E e).len x).trans hs)
   rw[this];rfl
 |lrow e n cs=>exact hn (h.2.2.1.trans (by rw[h.2.2.2.1,<-h.2.1,h0];omega))
 |opq e t x=>exact hb e t x rfl
variable (P C R ts χ) in
structure GM (ds:DS):Prop where
 fr:∀t,TR P C ts χ (lkT ts.fr t) (lkF ds.fr t)
 mb:∀s c b,ts.tb s c=some b->χ s c=false->∃kb,ds.kb s c=some kb/\MR P C ts χ b kb
 vi:∀s c,χ s c=true->∃e,ts.tb s c=some (.row e [])
 nw:∀s,memB ts.nw s=false->memO ds.nw s=false
 hp:R ts.h ds.H ds.nx
 lv:∀s b,2000000<=s->ts.tb s 1=some b->R.L s=χ s 1
theorem yba (fr:List (Nat×TV K)) (d t:Nat) (u:TV K):lkT ((d,u)::fr) t=if d=t then u else lkT fr t:=by
 show (match Nat.beq d t with|true=>u|false=>lkT fr t)=_
 cases h:Nat.beq d t with
 |true=>simp[nbeq.1 h]
 |false=>simp only;rw[if_neg (fun e=>by rw[nbeq.2 e] at h;cases h)]
theorem GM.put {ds:DS} (h:GM P C R ts χ ds) {d:Option Nat} {u:TV K} {v:AV} (hv:TR P C ts χ u v):GM P C R (ts.put d u) χ (ds.put d v):=by
 cases d with
 |none=>exact h
 | some d=>
   refine ⟨fun t=>TR.mono Mono.put ?_,fun s c b hb hx=> ?_,h.vi,h.nw,h.hp,h.lv⟩
   ·show TR P C ts χ (lkT ((d,u)::ts.fr) t) (lkF ((d,v)::ds.fr) t)
    rw[yba,yaJ]
    simp only
    split
    ·exact hv
    ·exact h.fr t
   ·obtain ⟨kb,h1,h2⟩:=h.mb s c b hb hx
    exact ⟨kb,by rw[<-h1];rfl,h2.mono Mono.put⟩
theorem yoi:∀ {cs:List AV} {l:List Str},yh7 cs=some l→cs=l.map .st:=by
 intro cs
 induction cs with
 |nil=>intro l h;simp[yh7] at h;subst h;rfl
 | cons x cs ih=>
   intro l h
   cases x with
   | st s=>
     simp only[yh7] at h
     cases h':yh7 cs with
     |none=>rw[h'] at h;simp at h
     |some m=>rw[h'] at h;simp at h;subst h;rw[ih h'];rfl
   |_=>simp[yh7] at h
theorem ynA (l:List Str):dwks (l.map AV.st)=l.map AV.st:=by
 induction l with
 |nil=>rfl
 |cons s l ih=>simp only[List.map_cons,dwks,ih];rfl
mutual
theorem yo0:∀(v:AV),TR P C ts χ (cvA v) v
 | .bl b=> .lb b
 | .it k n=> .li k n
 | .st s=> .st s
 | .agg cs=>by rw[cvA];exact .agg _ _ (yfk cs).1 (yfk cs).2
 | .tup cs=>by rw[cvA];exact .tup _ _ (yfk cs).1 (yfk cs).2
 | .sl true 0 []=> .nil
 | .sl true (n+1) xs=> .un _
 | .sl true 0 (x::xs)=> .un _
 | .sl false n xs=> .un _
 | .nptr=> .nptr
 | .fn (.func f) [] []=> .fn f [] [] [] [] rfl rfl (fun j u v h=>by simp at h) (fun j u v h=>by simp at h)
 | .fn (.func f) (a::r) c=> .un _
 | .fn (.func f) [] (a::r)=> .un _
 | .fn (.method n) a c=> .un _
 | .fn (.methodOf t n) a c=> .un _
 | .fn (.via t a b p) _ _=> .un _
 | .fn (.yield l) a c=> .un _
 | .gs k n=> .un _
 | .pt k n=> .un _
 | .ep xs off=>by
   rw[cvA]
   cases h:yh7 xs with
   |none=>exact .un _
   |some l=>exact .gs l off xs (by rw[yoi h];exact ynA l)
 | .nfn=> .un _
 | .un=> .un _
 | .yld o=> .un _
 | .rcd _ _ _ _ _=> .un _
theorem yfk:∀(l:List AV),l.length=(cvAs (K:=K) l).length∧∀(j:Nat) (u:TV K) (v:AV),(cvAs l)[j]? =some u→l[j]? =some v→TR P C ts χ u v
 | []=>⟨rfl,fun j u v h=>by simp[cvAs] at h⟩
 | x::l=>by
   obtain ⟨a,b⟩:=yfk l
   refine ⟨by simp[cvAs,<-a],fun j u v h1 h2=> ?_⟩
   cases j with
   |zero=>simp[cvAs] at h1 h2;subst h1;subst h2;exact yo0 x
   |succ j=>exact b j u v (by simpa [cvAs] using h1) (by simpa using h2)
end
theorem GM.tea {ds:DS} (h:GM P C R ts χ ds) (x:AOpd):TR P C ts χ (Go.AV.tea ts.fr x) (ev (lkF ds.fr) x):=by
 cases x with
 |t n=>exact h.fr n
 |c v=>exact yo0 v
theorem GM.tev {ds:DS} (h:GM P C R ts χ ds) (x:AOpd):TR P C ts χ (Go.AV.tev ts.fr x) (ev (lkF ds.fr) x):=(h.tea x).s
theorem TR.int {u:TV K} {v:AV} {k:IntKind} {n:Int} (h:TR P C ts χ u v) (e:tint u=some (k,n)):v= .it k n:=by
 cases h<;>first|(simp[tint] at e;obtain ⟨rfl,rfl⟩:=e;rfl)|(simp[tint] at e;done)
theorem TR.bool {u:TV K} {v:AV} {b:Bool} (h:TR P C ts χ u v) (e:tbo u=some b):v= .bl b:=by
 cases h<;>first|(simp[tbo] at e;subst e;rfl)|(simp[tbo] at e;done)
end
end Go.AV
end
noncomputable section
namespace Go.AV
open Go.RowKit Go.RG Go.Lib
variable {K:Nat->Type}
def VW (u v:AV):Prop:=∀(G:Gh) (x:Value),VR G u x->VR G v x
theorem VW.refl (u:AV):VW u u:=fun _ _ h=>h
theorem VW.trans {u v w:AV} (h:VW u v) (k:VW v w):VW u w:=fun G x q=>k G x (h G x q)
theorem VW.un (u:AV):VW u .un:=fun _ x _=> .un x
theorem VW.dwk (u:AV):VW u (AV.dwk u):=fun _ _ h=>h.dwk
def VWs (us vs:List AV):Prop:=us.length=vs.length/\∀(j:Nat) (u v:AV),us[j]? =some u->vs[j]? =some v->VW u v
theorem VW.agg {us vs:List AV} (h:VWs us vs):VW (.agg us) (.agg vs):=fun G x hx=>by
 obtain ⟨xs,e,h1,h2,h3⟩:=hx.agg_inv
 rw[e]
 refine .agg vs xs (by rw[h1,h.1]) (fun j u x hu hx=> ?_) h3
 have hj:j<us.length:=by rw[h.1];exact (List.getElem?_eq_some_iff.1 hu).1
 exact h.2 j us[j] u (List.getElem?_eq_getElem hj) hu G x (h2 j _ x (List.getElem?_eq_getElem hj) hx)
theorem VW.tup {us vs:List AV} (h:VWs us vs):VW (.tup us) (.tup vs):=fun G x hx=>by
 obtain ⟨xs,e,h1,h2⟩:=hx.tup_inv
 rw[e]
 refine .tup vs xs (by rw[h1,h.1]) (fun j u x hu hx=> ?_)
 have hj:j<us.length:=by rw[h.1];exact (List.getElem?_eq_some_iff.1 hu).1
 exact h.2 j us[j] u (List.getElem?_eq_getElem hj) hu G x (h2 j _ x (List.getElem?_eq_getElem hj) hx)
theorem VW.fn {f:Fn} {us vs us' vs':List AV} (h:VWs us vs) (h':VWs us' vs'):VW (.fn f us us') (.fn f vs vs'):=fun G x hx=>by
 obtain ⟨xa,xc,e,h1,h2,h3,h4⟩:=hx.fn_inv
 rw[e]
 refine .fn f vs vs' xa xc (by rw[h1,h.1]) (by rw[h2,h'.1]) (fun j u x hu hx=> ?_) (fun j u x hu hx=> ?_)
 ·have hj:j<us.length:=by rw[h.1];exact (List.getElem?_eq_some_iff.1 hu).1
  exact h.2 j us[j] u (List.getElem?_eq_getElem hj) hu G x (h3 j _ x (List.getElem?_eq_getElem hj) hx)
 ·have hj:j<us'.length:=by rw[h'.1];exact (List.getElem?_eq_some_iff.1 hu).1
  exact h'.2 j us'[j] u (List.getElem?_eq_getElem hj) hu G x (h4 j _ x (List.getElem?_eq_getElem hj) hx)
mutual
def aT (C:Cx K) (ts:TS K) (χ:Nat→Nat→Bool):TV K→AV
 | .lb b=> .bl b
 | .bl b=> .bl b
 | .li k n=> .it k n
 | .it k n=> .it k n
 | .st s=> .st s
 | .agg cs=> .agg (aTs C ts χ cs)
 | .tup cs=> .tup (aTs C ts χ cs)
 | .nil=> .sl true 0 []
 | .em=> .sl false 0 []
 | .sl e l=>slA (C.E e) l
 | .rw s c=>match tln (ts.tb s c) with
   | some n=>match χ s c with
     |true=> .sl true 0 []
     |false=> .gs (.l s c) n
   |none=> .un
 | .px s c o=> .pt (.l s c) o
 | .pr e s c i of=> .pt (.l s c) (i*(C.E e).sz+of)
 | .ep e l i of=> .ep (cl (C.E e) l) (i*(C.E e).sz+of)
 | .gs l i=> .ep (l.map .st) i
 | .nptr=> .nptr
 | .fn f a c=> .fn (.func f) (aTs C ts χ a) (aTs C ts χ c)
 | .fv _ _ F=>F.av
 | .yl r=> .yld r
 | .cn _ v=>aT C ts χ v
 | .un=> .un
def aTs (C:Cx K) (ts:TS K) (χ:Nat→Nat→Bool):List (TV K)→List AV
 | []=> []
 |v::r=>aT C ts χ v::aTs C ts χ r
end
theorem ybW (C:Cx K) (ts:TS K) (χ:Nat→Nat→Bool):∀l:List (TV K),aTs C ts χ l=l.map (aT C ts χ)
 | []=>rfl
 |u::r=>by rw[aTs,ybW C ts χ r];rfl
section
variable {P:Program} {C:Cx K} {ts:TS K} {χ:Nat->Nat->Bool}
theorem TR.canon {u:TV K} {v:AV} (h:TR P C ts χ u v):VW v (aT C ts χ u):=by
 have hL:∀ {us:List (TV K)} {vs:List AV},vs.length=us.length→(∀(j:Nat) (u:TV K) (v:AV),us[j]? =some u→vs[j]? =some v→VW v (aT C ts χ u))→VWs vs (aTs C ts χ us):=by
  intro us vs hl ih
  refine ⟨by rw[ybW,List.length_map];exact hl,fun j v w hv hw=> ?_⟩
  rw[ybW,List.getElem?_map] at hw
  obtain ⟨u,h1,rfl⟩:=Option.map_eq_some_iff.1 hw
  exact ih j u v h1 hv
 induction h with
 |un v=>exact VW.un v
 |lb b=>exact .refl _
 |bl b=>exact .refl _
 |li k n=>exact .refl _
 |it k n=>exact .refl _
 |st s=>exact .refl _
 |agg us vs hl _ ih=>simp only[aT];exact VW.agg (hL hl ih)
 |tup us vs hl _ ih=>simp only[aT];exact VW.tup (hL hl ih)
 |nil=>exact .refl _
 |em z=>exact VW.dwk (.sl z 0 [])
 | sl e l z n xs hn hx=>
   subst hn
   have:=VW.dwk (.sl z l.length xs)
   simp only[AV.dwk] at this
   rw[hx] at this
   exact this
 |rwd s c v hr h h1=>simp only[aT,h];exact VW.un v
 |rw s c n hr h hx=>simp only[aT,h,hx];exact .refl _
 |rwn s c hr h hx=>simp only[aT,h,hx];exact .refl _
 |px s c off hr=>exact .refl _
 |pr e s c i of hr hx=>exact .refl _
 | ep e l i of xs hx=>
   have:=VW.dwk (.ep xs (i*(C.E e).sz+of))
   simp only[AV.dwk] at this
   rw[hx] at this
   exact this
 | gs l i xs hx=>
   have:=VW.dwk (.ep xs i)
   simp only[AV.dwk] at this
   rw[hx] at this
   exact this
 |nptr=>exact .refl _
 |fn f a c a' c' ha hc _ _ ih ih'=>simp only[aT];exact VW.fn (hL ha ih) (hL hc ih')
 |fv ps rs F v h hv=>simp only[aT];rw[<-hv];exact VW.dwk v
 |yl r=>exact .refl _
 |cn id u v h hn _ ih=>simp only[aT];exact ih
end
def BW:Option Blk→Option Blk→Prop
 |none,none=>True
 |some b,some b'=>(b.sz≠0/\b'.sz=b.sz/\b'.e=b.e/\VWs b.cells b'.cells)∨(opq b=true/\isRc b.cells=false/\b'.sz=b.sz/\b'.e=b.e/\isRc b'.cells=false/\dwks b'.cells=dwks b.cells)
 |_,_=>False
theorem MRel.canon {B:Base} {S S':St} {G:Gh} (h:MRel B S G) (hc:S'.cnt=S.cnt) (hn:S'.nx=S.nx) (hh:∀o,S'.M (.h o)=S.M (.h o)) (hl:∀d c,BW (S.M (.l d c)) (S'.M (.l d c))):MRel B S' G:=by
 have hold:∀k,yaT S' k↔yaT S k:=fun k=>by cases k<;>simp only[yaT,hc,hn]
 have hnone:∀k,S'.M k=none↔S.M k=none:=by
  intro k
  cases k with
  |h o=>rw[hh]
  | l d c=>
    have:=hl d c
    cases h1:S.M (.l d c)<;>cases h2:S'.M (.l d c)<;>rw[h1,h2] at this<;>first|exact this.elim|simp
 refine {h with blk:= ?_,dead:=fun k=>(h.dead k).trans ?_,live:=fun k b hb=> ?_,nx:=by rw[hn];exact h.nx,hno:=fun k b hb=> ?_,fo:=⟨h.fo.dj1,h.fo.dj2,h.fo.ap,h.fo.nd,h.fo.lo,fun k b' r hb' hk ho hc=> ?_,fun o r hk=>⟨(h.fo.hh o r hk).1,fun b hb=>(h.fo.hh o r hk).2 b (by rw[<-hh];exact hb)⟩⟩}
 ·intro k
  cases k with
  |h o=>rw[hh];exact h.blk _
  | l d c =>
    have h1:=h.blk (.l d c)
    have h2:=hl d c
    cases hb:S.M (.l d c) with
    | none=>
      cases hb':S'.M (.l d c) with
      |none=>rw[hb] at h1;exact h1
      |some b'=>rw[hb,hb'] at h2;exact h2.elim
    | some b=>
      cases hb':S'.M (.l d c) with
      |none=>rw[hb,hb'] at h2;exact h2.elim
      | some b'=>
        rw[hb] at h1;rw[hb,hb'] at h2
        cases hk:G.κ (.l d c) with
        |none=>rw[hk] at h1;exact h1.elim
        | some r=>
          rw[hk] at h1
          rcases h2 with ⟨z,e1,e2,e3,e4⟩|⟨z,z1,e1,e2,z2,_⟩
          ·obtain ⟨cur,c1,c2,c3,c4,c5,c6,c7⟩:=(yac.cell z).1 h1
           refine (yac.cell (by rw[e1];exact z)).2 ⟨cur,by rw[e2];exact c1,by rw[e1];exact c2,c3,by rw[e1];exact c4,by rw[<-e3];exact c5,fun j u x p q=> ?_,fun j x p q=>c7 j x (by rw[e3];exact p) q⟩
           have hj:j<b.cells.length:=by rw[e3];exact (List.getElem?_eq_some_iff.1 p).1
           exact e4 j _ u (List.getElem?_eq_getElem hj) p G x (c6 j _ x (List.getElem?_eq_getElem hj) q)
          ·have ho:opq b'=true:=by unfold opq at*;rw[e1,e2];exact z
           rcases (yac.loop (yef z)).1 h1 with ⟨_,_,h3⟩|⟨q,j,q1,_⟩
           ·exact (yac.loop (yef ho)).2 (.inl ⟨ho,z2,h3⟩)
           ·rw[q1] at z1;cases z1
 ·unfold ybt;rw[hold,hnone]
 ·refine (hold k).2 ?_
  cases hb0:S.M k with
  |none=>rw[(hnone k).2 hb0] at hb;cases hb
  |some b0=>exact h.live k b0 hb0
 ·cases k with
  |h o=>rw[hh] at hb;exact h.hno _ b hb
  |l d c=>rfl
 ·cases k with
  |h o=>exact absurd ⟨ho,hc⟩ ((h.fo.hh o r hk).2 b' (by rw[<-hh];exact hb'))
  | l d c=>
    have h2:=hl d c
    rw[hb'] at h2
    cases hb:S.M (.l d c) with
    |none=>rw[hb] at h2;exact h2.elim
    | some b=>
      rw[hb] at h2
      rcases h2 with ⟨z,e1,_⟩|⟨z,z1,e1,e2,z2,z3⟩
      ·exact absurd (e1.symm.trans (yef ho)) z
      ·obtain ⟨n1,n2⟩:=h.fo.rep _ b r hb hk z z1
       exact ⟨by rw[<-ybn,z3,ybn];exact n1,by rw[z3,e2];exact n2⟩
theorem yap.weak {P:Program} {f:FuncId} {args args':List AV} {mem mem':Nat→Option Blk} {H:Hp} {n:Nat} {Post:AV→St→Prop} (h:yap P f args' mem' H n Post) (ha:VWs args args') (hm:∀d,BW (mem d) (mem' d)):yap P f args mem H n Post:=by
 intro G vs hg hM hV
 refine h G vs hg (hM.canon rfl rfl (fun _=>rfl) fun d c=> ?_) ⟨hV.1.trans ha.1,fun j u x p q=> ?_⟩
 ·show BW (if c=1 then mem d else none) (if c=1 then mem' d else none)
  split
  ·exact hm d
  ·trivial
 ·have hj:j<args.length:=by rw[ha.1];exact (List.getElem?_eq_some_iff.1 p).1
  exact ha.2 j _ u (List.getElem?_eq_getElem hj) p G x (hV.2 j _ x (List.getElem?_eq_getElem hj) q)
def bT (C:Cx K) (ts:TS K) (χ:Nat→Nat→Bool):TB K→Blk
 | .box e cs=>⟨e,cs.length,aTs C ts χ cs⟩
 | .row e l=>⟨e,(C.E e).sz,cl (C.E e) l⟩
 | .lrow e _ cs=>⟨e,(C.E e).sz,aTs C ts χ cs⟩
 | .opq e t x=>⟨e,0,(C.E t).c x⟩
theorem MR.canon {P:Program} {C:Cx K} {ts:TS K} {χ:Nat→Nat→Bool} {b:TB K} {kb:KB} (h:MR P C ts χ b kb) (hz:kb.okb):BW (some kb.blk) (some (bT C ts χ b)):=by
 have hL:∀ {us:List (TV K)} {vs:List AV},vs.length=us.length→(∀(j:Nat) (u:TV K) (v:AV),us[j]? =some u→vs[j]? =some v→TR P C ts χ u v)→VWs vs (aTs C ts χ us):=by
  intro us vs hl ih
  refine ⟨by rw[ybW,List.length_map];exact hl,fun j v w hv hw=> ?_⟩
  rw[ybW,List.getElem?_map] at hw
  obtain ⟨u,h1,rfl⟩:=Option.map_eq_some_iff.1 hw
  exact (ih j u v h1 hv).canon
 have hN:∀ {us:List (TV K)},us.length=0→kb.cells.length=us.length→isRc kb.cells=false→(bT C ts χ b).e=kb.e→(bT C ts χ b).sz=kb.sz→(bT C ts χ b).cells=aTs C ts χ us→BW (some kb.blk) (some (bT C ts χ b)):=by
  intro us h0 h1 ho _ _ _
  have h5:kb.cells= []:=List.eq_nil_of_length_eq_zero (h1.trans h0)
  rw[h5] at ho;cases ho
 cases b with
 | opq e t x=>
   obtain ⟨h1,h2,h3,h4,h5,h6⟩:=h
   refine .inr ⟨by show (kb.sz==0&&decide (1000000<=kb.e))=true;rw[h3,h1];simpa using h2,h4,h3.symm,h1.symm,?_,?_⟩
   ·show isRc ((C.E t).c x)=false
    rw[<-h6,yiJ];exact h4
   ·show dwks ((C.E t).c x)=dwks kb.cells
    rw[<-h6,ybX]
 | box e cs=>
   rcases hz with hz|⟨hz,hc⟩
   ·exact .inl ⟨hz,h.2.1.symm,h.1.symm,hL h.2.2.1 h.2.2.2⟩
   ·exact hN (us:=cs) (h.2.1.symm.trans (yef hz)) h.2.2.1 hc h.1.symm h.2.1.symm rfl
 | row e l=>
   rcases hz with hz|⟨hz,hc⟩
   case inr=>
    refine .inr ⟨hz,hc,h.2.1.symm,h.1.symm,?_,?_⟩
    ·show isRc (cl (C.E e) l)=false
     rw[<-h.2.2,yiJ];exact hc
    ·show dwks (cl (C.E e) l)=dwks kb.cells
     rw[<-h.2.2,ybX]
   refine .inl ⟨hz,h.2.1.symm,h.1.symm,?_⟩
   show VWs kb.cells (cl (C.E e) l)
   rw[<-h.2.2]
   refine ⟨(yaL _).symm,fun j u v hu hv=> ?_⟩
   obtain ⟨w,e1,rfl⟩:=ycs _ j v hv
   rw[show kb.cells[j]? =some u from hu] at e1;cases e1
   exact VW.dwk u
 | lrow e n cs=>
   rcases hz with hz|⟨hz,hc⟩
   ·exact .inl ⟨hz,h.2.1.symm,h.1.symm,hL h.2.2.1 h.2.2.2.2⟩
   ·exact hN (us:=cs) (by rw[h.2.2.2.1,<-h.2.1,show kb.sz=0 from yef hz];omega) h.2.2.1 hc h.1.symm h.2.1.symm rfl
mutual
def alv (ts:TS K):TV K→Bool
 | .agg cs=>alvs ts cs
 | .tup cs=>alvs ts cs
 | .fn _ a c=>alvs ts a&&alvs ts c
 | .rw s c=>(tln (ts.tb s c)).isSome
 | .cn _ v=>alv ts v
 |_=>true
def alvs (ts:TS K):List (TV K)→Bool
 | []=>true
 |v::r=>alv ts v&&alvs ts r
end
section
variable {P:Program} {C:Cx K} {ts:TS K} {χ:Nat->Nat->Bool}
theorem yiM (hC:CxOk P C) (e:Nat) (l:List (K e)):dwks (cl (C.E e) l)=cl (C.E e) l:=by
 rw[ybY]
 unfold cl
 rw[List.map_flatMap]
 congr 1
 funext x
 rw[<-ybY]
 exact hC.dw e x
theorem yp7 {us:List (TV K)} (h:alvs ts us=true) {j:Nat} {u:TV K} (hu:us[j]? =some u):alv ts u=true:=by
 induction us generalizing j with
 |nil=>simp at hu
 | cons x us ih=>
   simp only[alvs,Bool.and_eq_true] at h
   cases j with
   |zero=>simp at hu;subst hu;exact h.1
   |succ j=>exact ih h.2 (by simpa using hu)
theorem TR.self (hC:CxOk P C) {u:TV K} {v:AV} (h:TR P C ts χ u v):alv ts u=true→TR P C ts χ u (aT C ts χ u):=by
 have hL:∀ {us:List (TV K)} {vs:List AV},vs.length=us.length→alvs ts us=true→(∀(j:Nat) (u:TV K) (v:AV),us[j]? =some u→vs[j]? =some v→alv ts u=true→TR P C ts χ u (aT C ts χ u))→∀(j:Nat) (u:TV K) (v:AV),us[j]? =some u→(aTs C ts χ us)[j]? =some v→TR P C ts χ u v:=by
  intro us vs hl ha ih j u v hu hv
  rw[ybW,List.getElem?_map,hu] at hv
  cases hv
  have hj:j<vs.length:=by rw[hl];exact (List.getElem?_eq_some_iff.1 hu).1
  exact ih j u _ hu (List.getElem?_eq_getElem hj) (yp7 ha hu)
 have hlen:∀us:List (TV K),(aTs C ts χ us).length=us.length:=fun us=>by rw[ybW,List.length_map]
 induction h with
 |un v=>exact fun _=> .un _
 |lb b=>exact fun _=> .lb b
 |bl b=>exact fun _=> .bl b
 |li k n=>exact fun _=> .li k n
 |it k n=>exact fun _=> .it k n
 |st s=>exact fun _=> .st s
 |agg us vs hl _ ih=>intro ha;simp only[aT];exact .agg us _ (hlen us) (hL hl (by simpa only[alv] using ha) ih)
 |tup us vs hl _ ih=>intro ha;simp only[aT];exact .tup us _ (hlen us) (hL hl (by simpa only[alv] using ha) ih)
 |nil=>exact fun _=> .nil
 |em z=>exact fun _=> .em false
 |sl e l z n xs hn hx=>exact fun _=> .sl e l false _ _ rfl (yiM hC e l)
 |rwd s c v hr h h1=>intro ha;simp[alv,h] at ha
 |rw s c n hr h hx=>intro _;simp only[aT,h,hx];exact .rw s c n hr h hx
 |rwn s c hr h hx=>intro _;simp only[aT,h,hx];exact .rwn s c hr h hx
 |px s c off hr=>exact fun _=> .px s c off hr
 |pr e s c i of hr hx=>exact fun _=> .pr e s c i of hr hx
 |ep e l i of xs hx=>exact fun _=> .ep e l i of _ (yiM hC e l)
 |gs l i xs hx=>exact fun _=> .gs l i _ (ynA l)
 |nptr=>exact fun _=> .nptr
 |fn f a c a' c' hla hlc _ _ ih ih'=>intro ha;simp only[alv,Bool.and_eq_true] at ha;simp only[aT];exact .fn f a c _ _ (hlen a) (hlen c) (hL hla ha.1 ih) (hL hlc ha.2 ih')
 |fv ps rs F v h hv=>exact fun _=> .fv ps rs F _ h h.2.1
 |yl r=>exact fun _=> .yl r
 |cn id u v h hn _ ih=>intro ha;simp only[aT];exact .cn id u _ h hn (ih (by simpa only[alv] using ha))
end
end Go.AV
end
noncomputable section
namespace Go.AV
open Go.RowKit Go.RG Go.Lib
variable {K:Nat->Type}
section
variable {P:Program} {C:Cx K} {R:RR K} {ts ts':TS K} {χ χ':Nat->Nat->Bool} {ds:DS}
theorem ycz:∀ {cs:List Prop} {p:Prop},andL cs p→AllP cs∧p
 | [],_,h=>⟨trivial,h⟩
 |_::r,_,h=>⟨⟨h.1,(ycz (cs:=r) h.2).1⟩,(ycz (cs:=r) h.2).2⟩
theorem ybm {α:Type} {o:Option α} {X:α→Prop} (h:wpo' o X):∃x,o=some x∧X x:=by
 cases o with
 |none=>exact h.elim
 |some x=>exact ⟨x,rfl,h⟩
theorem GM.live (h:GM P C R ts χ ds) {s c:Nat} {b:TB K} (hb:ts.tb s c=some b) (hx:χ s c=false):yav (toD ds) (.l s c)=true:=by
 obtain ⟨kb,h1,_⟩:=h.mb s c b hb hx
 show ((ds.kb s c).map KB.blk).isSome=true
 rw[h1];rfl
theorem GM.box (h:GM P C R ts χ ds) {s c e:Nat} {cs:List (TV K)} (hb:ts.tb s c=some (.box e cs)):χ s c=false:=by
 cases hx:χ s c with
 |false=>rfl
 |true=>obtain ⟨e',h1⟩:=h.vi s c hx;rw[hb] at h1;cases h1
theorem GM.bx (h:GM P C R ts χ ds) {s c:Nat} {b:TB K} (hb:ts.tb s c=some b) (hx:isBx (some b)=true):χ s c=false:=by
 cases hx':χ s c with
 |false=>rfl
 |true=>obtain ⟨e',h1⟩:=h.vi s c hx';rw[hb] at h1;cases h1;cases hx
theorem GM.opq (h:GM P C R ts χ ds) {s c e t:Nat} {x:K t} (hb:ts.tb s c=some (.opq e t x)):χ s c=false:=by
 cases hx:χ s c with
 |false=>rfl
 |true=>obtain ⟨e',h1⟩:=h.vi s c hx;rw[hb] at h1;cases h1
theorem GM.lrow (h:GM P C R ts χ ds) {s c e n:Nat} {cs:List (TV K)} (hb:ts.tb s c=some (.lrow e n cs)):χ s c=false:=by
 cases hx:χ s c with
 |false=>rfl
 |true=>obtain ⟨e',h1⟩:=h.vi s c hx;rw[hb] at h1;cases h1
theorem yqV {op:BinOp} {k:IntKind} {a b:Int} {lit:Bool} {cs:List Prop} {w:TV K} (h:tnum op k a b lit=some (cs,w)) (hc:AllP cs) (hs:yss op=false):
  ∃D v,kbin op k a b=some (D,v)/\AllP D/\TR P C ts χ w v:=by
 cases op<;>simp only[tnum] at h<;>simp only[kbin,binI,kok]<;>first
  |(cases h;done)
  |(cases h;exact ⟨_,_,rfl,trivial, .it _ _⟩)
  |(cases h;exact ⟨_,_,rfl,trivial, .bl _⟩)
  | (split at h
     ·split at h
      ·cases h
      ·rename_i h0;cases h;exact ⟨_,_,rfl,⟨h0,trivial⟩, .it _ _⟩
     ·cases h;exact ⟨_,_,rfl,hc, .it _ _⟩)
  |(cases hs;done)
theorem yre {op:BinOp} {k:IntKind} {a b:Int} {lit:Bool} {cs:List Prop} {w:TV K} (h:tshi op k a b lit=some (cs,w)) (hc:AllP cs):(op= .shl∨op= .shr)∧
  ∃D v,kshi op k a b=some (D,v)/\AllP D/\TR P C ts χ w v:=by
 cases op<;>simp only[tshi,tsh] at h<;>first|(cases h;done)|skip
 all_goals
  cases lit with
  | true=>
    simp only at h
    split at h
    ·cases h
    ·rename_i h0;cases h;exact ⟨by simp,_,_,rfl,⟨h0,trivial⟩, .it _ _⟩
  |false=>simp only at h;cases h;exact ⟨by simp,_,_,rfl,hc, .it _ _⟩
theorem ypL {op:BinOp} {a b:Str} {cs:List Prop} {w:TV K} (h:tstr op a b=some (cs,w)) (hc:AllP cs):∃D v,kstr op a b=some (D,v)∧AllP D∧TR P C ts χ w v:=by
 cases op<;>simp only[tstr] at h<;>simp only[kstr,binS,kok]<;>first
  |(cases h;done)
  |(cases h;exact ⟨_,_,rfl,hc, .st _⟩)
  |(cases h;exact ⟨_,_,rfl,trivial, .bl _⟩)
theorem TR.pxi {s c o:Nat} {v:AV} (h:TR P C ts χ (.px s c o) v):v= .pt (.l s c) o:=by cases h;rfl
theorem TR.lbi {b:Bool} {v:AV} (h:TR P C ts χ (.lb b) v):v= .bl b:=by cases h;rfl
theorem TR.bli {b:Bool} {v:AV} (h:TR P C ts χ (.bl b) v):v= .bl b:=by cases h;rfl
theorem TR.str {s:Str} {v:AV} (h:TR P C ts χ (.st s) v):v= .st s:=by cases h;rfl
theorem yqx {op:BinOp} {x y:TV K} {u v:AV} {cs:List Prop} {w:TV K} (hx:TR P C ts χ x u) (hy:TR P C ts χ y v) (h:tbin op x y=some (cs,w)) (hc:AllP cs):
  ∃D z,(match u,v with
   | .it k a, .it k' b=>if op= .shl∨op= .shr then kshi op k a b else if k=k' then kbin op k a b else none
   | .st a, .st b=>kstr op a b
   |_,_=>none)=some (D,z)/\AllP D/\TR P C ts χ w z:=by
 unfold tbin at h
 split at h
 ·rw[hx.str,hy.str];exact ypL h hc
 ·split at h
  ·rename_i k a k' b e1 e2
   rw[hx.int e1,hy.int e2]
   simp only
   split at h
   ·obtain ⟨q,r⟩:=yre (P:=P) (C:=C) (ts:=ts) (χ:=χ) h hc
    rw[if_pos q];exact r
   ·rename_i hs
    split at h
    ·rename_i e
     rw[if_neg (by rintro (rfl|rfl)<;>cases hs),if_pos e]
     exact yqV h hc hs
    ·cases h
  ·cases h
theorem ylC {k:Nat} {x y:TV K} {u v:AV} {b:Bool} (hx:TR P C ts χ x u) (hy:TR P C ts χ y v) (h:teq1 k x y=some b):k≤2∧eq1 k u v=some b:=by
 unfold teq1 at h
 split at h
 ·split at h
  ·rename_i e1 e2;cases h;rw[hx.bool e1,hy.bool e2];exact ⟨by omega,rfl⟩
  ·cases h
 ·split at h
  ·rename_i e1 e2
   split at h
   ·rename_i e;cases h;rw[hx.int e1,hy.int e2];exact ⟨by omega,by simp[eq1,e]⟩
   ·cases h
  ·cases h
 ·cases h;rw[hx.str,hy.str];exact ⟨by omega,rfl⟩
 ·cases h
theorem ymO:∀ {ks:List Nat} {xs ys:List (TV K)} {us vs:List AV} {b:Bool},us.length=xs.length→vs.length=ys.length→(∀(j:Nat) (u:TV K) (v:AV),xs[j]? =some u→us[j]? =some v→TR P C ts χ u v)→
  (∀(j:Nat) (u:TV K) (v:AV),ys[j]? =some u->vs[j]? =some v->TR P C ts χ u v)->teqL ks xs ys=some b->eqL ks us vs=some b
 | [],[],[],us,vs,b,h1,h2,_,_,h=>by
   cases us with
   |cons=>simp at h1
   | nil=>cases vs with
     |cons=>simp at h2
     |nil=>exact h
 | k :: ks,x::xs,y::ys,us,vs,b,h1,h2,hx,hy,h=>by
   cases us with
   |nil=>simp at h1
   | cons u us=>cases vs with
     |nil=>simp at h2
     | cons v vs=>
       simp only[teqL] at h
       split at h
       ·rename_i p q e1 e2
        cases h
        have a1:=(ylC (hx 0 x u rfl rfl).s (hy 0 y v rfl rfl).s e1).2
        have a2:=ymO (us:=us) (vs:=vs) (by simpa using h1) (by simpa using h2) (fun j u v a b=>hx (j+1) u v (by simpa using a) (by simpa using b)) (fun j u v a b=>hy (j+1) u v (by simpa using a) (by simpa using b)) e2
        simp only[eqL,a1,a2]
       ·cases h
 | [],_::_,_,_,_,_,_,_,_,_,h=>by simp[teqL] at h
 | [],[],_::_,_,_,_,_,_,_,_,h=>by simp[teqL] at h
 |_::_,[],_,_,_,_,_,_,_,_,h=>by simp[teqL] at h
 |_::_,_::_,[],_,_,_,_,_,_,_,h=>by simp[teqL] at h
theorem TR.agg' {us:List (TV K)} {v:AV} (h:TR P C ts χ (.agg us) v):∃vs,v= .agg vs∧vs.length=us.length∧∀(j:Nat) (u:TV K) (v:AV),us[j]? =some u→vs[j]? =some v→TR P C ts χ u v:=by
 cases h with
 |agg us vs hl h=>exact ⟨vs,rfl,hl,h⟩
theorem TR.tup' {us:List (TV K)} {v:AV} (h:TR P C ts χ (.tup us) v):∃vs,v= .tup vs∧vs.length=us.length∧∀(j:Nat) (u:TV K) (v:AV),us[j]? =some u→vs[j]? =some v→TR P C ts χ u v:=by
 cases h with
 |tup us vs hl h=>exact ⟨vs,rfl,hl,h⟩
theorem TR.one1 {u:TV K} {v:AV} (h:TR P C ts χ u v):ymn u=true→v.one=true:=by
 cases h with
 |rwd s c v hr h h1=>exact fun _=>h1
 |fv ps rs F v h hv=>intro _;rw[<-yhP,hv];exact h.2.2.1
 |_=>intro h;first|rfl|(cases h;done)
theorem TR.one {u:TV K} {v:AV} (h:TR P C ts χ u v) (ht:tone u=true):v.one=true:=by
 cases h with
 |cn id u v h hn hv=>exact hv.one1 ht
 |rwd s c v hr h h1=>exact h1
 |fv ps rs F v h hv=>rw[<-yhP,hv];exact h.2.2.1
 |_=>first|rfl|(cases ht;done)
theorem yh8 {v:AV} (h:v.one=true):v.cells= [v]:=by cases v<;>first|rfl|(cases h;done)
theorem TR.cells {u:TV K} {v:AV} (h:TR P C ts χ u v) (hu:u.s≠ .un):(v.cells).length=(tcl u).length∧∀(j:Nat) (w:TV K) (x:AV),(tcl u)[j]? =some w→v.cells[j]? =some x→TR P C ts χ w x:=by
 have one:v.cells= [v]→(v.cells).length= [u].length∧∀(j:Nat) (w:TV K) (x:AV),[u][j]? =some w→v.cells[j]? =some x→TR P C ts χ w x:=by
  intro e2
  rw[e2]
  refine ⟨rfl,fun j w x h1 h2=> ?_⟩
  cases j with
  |zero=>simp at h1 h2;subst h1;subst h2;exact h
  |succ j=>simp at h1
 have hs:=h.s
 unfold tcl
 split
 ·rename_i cs e
  rw[e] at hs
  obtain ⟨vs,rfl,a,b⟩:=hs.agg'
  exact ⟨a,b⟩
 ·rename_i hne
  refine one ?_
  have hnc:∀id w,u.s≠ .cn id w:=by
   intro id w e
   cases h with
   |cn id' u v h hn hv=>simp only[TV.s] at e;rw[e] at hn;cases hn
   |_=>cases e
  revert hs hne hu hnc
  generalize hw:u.s=w
  intro hu hs hne hnc
  cases hs with
  |agg us vs hl h=>exact (hne _ rfl).elim
  |un v=>exact (hu rfl).elim
  |rwd s c v hr h h1=>exact yh8 h1
  |fv ps rs F v h hv=>exact yh8 (by rw[<-yhP,hv];exact h.2.2.1)
  |cn id u' v h hn hv=>exact (hnc _ _ rfl).elim
  |_=>rfl
variable (P C ts χ) in
def TL (us:List (TV K)) (vs:List AV):Prop:=vs.length=us.length/\∀(j:Nat) (u:TV K) (v:AV),us[j]? =some u->vs[j]? =some v->TR P C ts χ u v
theorem TL.app {us us':List (TV K)} {vs vs':List AV} (h:TL P C ts χ us vs) (k:TL P C ts χ us' vs'):TL P C ts χ (us++us') (vs++vs'):=by
 refine ⟨by simp[h.1,k.1],fun j u v h1 h2=> ?_⟩
 by_cases hj:j<us.length
 ·rw[List.getElem?_append_left hj] at h1
  rw[List.getElem?_append_left (by rw[h.1];exact hj)] at h2
  exact h.2 j u v h1 h2
 ·rw[List.getElem?_append_right (by omega)] at h1
  rw[List.getElem?_append_right (by rw[h.1];omega),h.1] at h2
  exact k.2 _ u v h1 h2
theorem TL.take {us:List (TV K)} {vs:List AV} (h:TL P C ts χ us vs) (n:Nat):TL P C ts χ (us.take n) (vs.take n):=by
 refine ⟨by simp[h.1],fun j u v h1 h2=> ?_⟩
 rw[List.getElem?_take] at h1 h2
 split at h1
 ·rename_i hj;rw[if_pos hj] at h2;exact h.2 j u v h1 h2
 ·cases h1
theorem TL.drop {us:List (TV K)} {vs:List AV} (h:TL P C ts χ us vs) (n:Nat):TL P C ts χ (us.drop n) (vs.drop n):=by
 refine ⟨by simp[h.1],fun j u v h1 h2=> ?_⟩
 rw[List.getElem?_drop] at h1 h2
 exact h.2 _ u v h1 h2
theorem TL.at' {us:List (TV K)} {vs:List AV} (h:TL P C ts χ us vs) {j:Nat} {u:TV K} (hj:us[j]? =some u):∃v,vs[j]? =some v∧TR P C ts χ u v:=by
 have hlt:j<vs.length:=by rw[h.1];exact (List.getElem?_eq_some_iff.1 hj).1
 exact ⟨vs[j],List.getElem?_eq_getElem hlt,h.2 j u _ hj (List.getElem?_eq_getElem hlt)⟩
theorem TL.mono (hm:Mono ts ts' χ χ') {us:List (TV K)} {vs:List AV} (h:TL P C ts χ us vs):TL P C ts' χ' us vs:=⟨h.1,fun j u v a b=>(h.2 j u v a b).mono hm⟩
theorem TL.nil:TL P C ts χ [] []:=⟨rfl,fun j u v h=>by simp at h⟩
theorem TL.cons {u:TV K} {v:AV} {us:List (TV K)} {vs:List AV} (h:TR P C ts χ u v) (k:TL P C ts χ us vs):TL P C ts χ (u::us) (v::vs):=TL.app (us:= [u]) (vs:= [v]) ⟨rfl,fun j u' v' h1 h2=>by cases j with|zero=>simp at h1 h2;subst h1;subst h2;exact h|succ j=>simp at h1⟩ k
theorem TL.head {u:TV K} {v:AV} {us:List (TV K)} {vs:List AV} (h:TL P C ts χ (u::us) (v::vs)):TR P C ts χ u v∧TL P C ts χ us vs:=
 ⟨h.2 0 u v rfl rfl,by simpa using h.1,fun j u v a b=>h.2 (j+1) u v (by simpa using a) (by simpa using b)⟩
theorem TL.cvAs (z:List AV):TL P C ts χ (cvAs z) z:=yfk z
theorem TL.one:∀ {us:List (TV K)} {vs:List AV},TL P C ts χ us vs→us.all tone=true→vs.all AV.one=true
 | [],[],_,_=>rfl
 | [],_::_,h,_=>by simp[TL] at h
 |_::_,[],h,_=>by simp[TL] at h
 | u::us,v::vs,h,ht=>by
   simp only[List.all_cons,Bool.and_eq_true] at ht⊢
   exact ⟨h.head.1.one ht.1,TL.one h.head.2 ht.2⟩
theorem TL.mapS {us:List (TV K)} {vs:List AV} (h:TL P C ts χ us vs):TL P C ts χ (us.map TV.s) vs:=by
 refine ⟨by simp[h.1],fun j u v h1 h2=> ?_⟩
 rw[List.getElem?_map] at h1
 obtain ⟨w,e1,rfl⟩:=Option.map_eq_some_iff.1 h1
 exact (h.2 j w v e1 h2).s
theorem TL.tea (h:GM P C R ts χ ds):∀(l:List AOpd),TL P C ts χ (l.map (tea ts.fr)) (l.map (ev (lkF ds.fr)))
 | []=> .nil
 |x::l=> .cons (h.tea x) (TL.tea h l)
theorem TL.tev (h:GM P C R ts χ ds):∀(l:List AOpd),TL P C ts χ (l.map (tev ts.fr)) (l.map (ev (lkF ds.fr)))
 | []=> .nil
 |x::l=> .cons (h.tev x) (TL.tev h l)
theorem TR.tcl {u:TV K} {v:AV} (h:TR P C ts χ u v) (ht:(tcl u).all tone=true):TL P C ts χ (tcl u) v.cells∧v.cells.all AV.one=true:=by
 have hu:u.s≠ .un:=by
  intro e
  cases u with
  |un=>simp[Go.AV.tcl,TV.s,tone,ymn] at ht
  |cn id w=>simp only[TV.s] at e;subst e;simp[Go.AV.tcl,TV.s,tone,ymn] at ht
  |_=>cases e
 have:=h.cells hu
 exact ⟨this,TL.one this ht⟩
theorem yfY:∀(l:List (Nat×Nat×TV K)) (m:List (Nat×Nat×AV)) (cells:List (TV K)) (cells':List AV) (cs:List (TV K)),TL P C ts χ cells cells'→m.length=l.length→
  (∀(j:Nat) (p:Nat×Nat×TV K) (q:Nat×Nat×AV),l[j]? =some p->m[j]? =some q->q.1=p.1/\q.2.1=p.2.1/\TR P C ts χ p.2.2 q.2.2)->yiT cells l=some cs->∃cs',ydu cells' m=some cs'/\TL P C ts χ cs cs'
 | [],m,cells,cells',cs,h,hl,_,e=>by
   cases m with
   |cons=>simp at hl
   |nil=>cases e;exact ⟨cells',rfl,h⟩
 | (off,sz,v)::l,m,cells,cells',cs,h,hl,hh,e=>by
   cases m with
   |nil=>simp at hl
   | cons q m=>
     obtain ⟨off',sz',v'⟩:=q
     obtain ⟨e1,e2,e3⟩:=hh 0 _ _ rfl rfl
     simp only at e1 e2 e3
     subst e1;subst e2
     simp only[yiT] at e
     split at e
     ·rename_i hc
      simp only[Bool.and_eq_true] at hc
      obtain ⟨⟨c1,c2⟩,c3⟩:=hc
      obtain ⟨t1,t2⟩:=e3.tcl c3
      have c1':=nbeq.1 c1
      have hc':v'.cells.length=sz'/\off'+sz'<=cells'.length/\v'.cells.all AV.one=true:=⟨by rw[t1.1,c1'],by rw[h.1];exact Nat.le_of_ble_eq_true c2,t2⟩
      simp only[ydu]
      rw[if_pos hc']
      exact yfY l m _ _ cs (((h.take off').app t1).app (h.drop (off'+sz'))) (by simpa using hl) (fun j p q a b=>hh (j+1) p q (by simpa using a) (by simpa using b)) e
     ·cases e
theorem ynG {mx:Bool} {k:IntKind}:∀(r:List (TV K)) (r':List AV) (a:Int) (w:TV K),TL P C ts χ r r'→tmnL mx k a r=some w→∃v,mnL mx k a r'=some v∧TR P C ts χ w v
 | [],r',a,w,h,e=>by
   cases r' with
   |cons=>simp[TL] at h
   |nil=>cases e;exact ⟨_,rfl, .it _ _⟩
 | x ::r,r',a,w,h,e=>by
   cases r' with
   |nil=>simp[TL] at h
   | cons y r'=>
     simp only[tmnL] at e
     split at e
     ·rename_i k' b e1
      have hy:=h.head.1.int e1
      subst hy
      split at e
      ·rename_i ek
       obtain ⟨v,h1,h2⟩:=ynG r r' _ w h.head.2 e
       refine ⟨v,?_,h2⟩
       simp only[mnL]
       rw[if_pos ek,<-h1]
       cases mx<;>rfl
      ·cases e
     ·cases e
theorem ydO (h:GM P C R ts χ ds) {d a:Int} {x:Option AOpd} (e:tbnd ts.fr d x=some a):bnd (ev (lkF ds.fr)) d x=some a:=by
 cases x with
 |none=>exact e
 | some x=>
   simp only[tbnd] at e
   split at e
   ·rename_i k n e1
    cases e
    simp only[bnd,(h.tev x).int e1]
   ·cases e
theorem yr4 {g:Bool} {kind:Nat} {x y:TV K} {u v:AV} {live:Key→Bool} {cs:List Prop} {w:TV K} (hx:TR P C ts χ x u) (hy:TR P C ts χ y v) (h:teq g kind x y=some (cs,w)) (hc:AllP cs):
  ∃D z,keq live g kind u v=some (D,z)/\AllP D/\TR P C ts χ w z:=by
 unfold teq at h
 split at h
 ·split at h
  ·cases h;cases hx;cases hy;exact ⟨[], .bl (!g),rfl,trivial, .lb _⟩
  ·cases h
 ·split at h
  ·cases h;cases hx;cases hy;exact ⟨[], .bl (!g),by cases g<;>rfl,trivial, .lb _⟩
  ·cases h
 ·split at h
  ·rename_i b e1
   cases h
   obtain ⟨hk,e2⟩:=ylC hx hy e1
   refine ⟨[], .bl (ngB g b),?_,trivial, .bl _⟩
   have hk':kind=0∨kind=1∨kind=2:=by omega
   have:eqP live kind u v=some b:=by
    rcases hk' with rfl|rfl|rfl<;>exact e2
   have hns:∀z n xs,u≠ .sl z n xs:=by
    rintro z n xs rfl
    rcases hk' with rfl|rfl|rfl<;>simp[eq1] at e2
   unfold keq
   split
   ·exact absurd rfl (hns _ _ _)
   ·exact absurd rfl (hns _ _ _)
   ·exact absurd rfl (hns _ _ _)
   ·rw[this];rfl
  ·cases h
theorem ymB:∀ {cs:List (TV K)} {vs:List AV} {k:IntKind} {l:List Int},TL P C ts χ cs vs→selI cs=some (k,l)→l.length=cs.length∧∀(j:Nat) (n:Int),l[j]? =some n→vs[j]? =some (.it k n)
 | [],vs,k,l,t,h=>by simp[selI] at h
 |v::r,[],k,l,t,h=>by simp[TL] at t
 | v ::r,w::vs,k,l,t,h=>by
   simp only[selI] at h
   split at h
   ·rename_i k0 n0 h0
    have hw:w= .it k0 n0:=t.head.1.s.int h0
    split at h
    ·cases h
     refine ⟨rfl,fun j n hj=> ?_⟩
     cases j with
     |zero=>simp at hj;subst hj;simp[hw]
     |succ j=>simp at hj
    ·split at h
     ·rename_i k' l' h1
      split at h
      ·rename_i e
       cases h
       subst e
       obtain ⟨a,b⟩:=ymB t.head.2 h1
       refine ⟨by simp[a],fun j n hj=> ?_⟩
       cases j with
       |zero=>simp at hj;subst hj;simp[hw]
       |succ j=>simpa using b j n (by simpa using hj)
      ·cases h
     ·cases h
   ·cases h
theorem ynb:∀ {cs:List (TV K)} {vs:List AV} {l:List Str},TL P C ts χ cs vs→selS cs=some l→l.length=cs.length∧∀(j:Nat) (n:Str),l[j]? =some n→vs[j]? =some (.st n)
 | [],vs,l,t,h=>by simp only[selS] at h;cases h;exact ⟨rfl,fun j n hj=>by simp at hj⟩
 |v::r,[],l,t,h=>by simp[TL] at t
 | v::r,w::vs,l,t,h=>by
   simp only[selS] at h
   split at h
   ·rename_i s l' h0 h1
    cases h
    have hs:=t.head.1.s
    rw[h0] at hs
    have hw:w= .st s:=hs.str
    obtain ⟨a,b⟩:=ynb t.head.2 h1
    refine ⟨by simp[a],fun j n hj=> ?_⟩
    cases j with
    |zero=>simp at hj;subst hj;simp[hw]
    |succ j=>simpa using b j n (by simpa using hj)
   ·cases h
theorem yqH {us:List (TV K)} {vs:List AV} {len:Nat} {i:Int} {cs:List Prop} {w:TV K} (t:TL P C ts χ us vs) (h:tsel us len i=some (cs,w)) (hl:Nat.ble len us.length=true) (hc:AllP cs):cs= [0≤i∧i<len]∧TR P C ts χ w ((vs[i.toNat]?).getD .un):=by
 unfold tsel at h
 have hl':=Nat.le_of_ble_eq_true hl
 split at h
 ·rename_i k l h1
  cases h
  refine ⟨rfl,?_⟩
  obtain ⟨a,b⟩:=ymB t h1
  have h0:0<=i/\i<len:=hc.1
  have hlt:i.toNat<l.length:=by omega
  rw[b _ _ (List.getElem?_eq_getElem hlt),List.getElem?_eq_getElem hlt]
  exact .it _ _
 ·split at h
  ·rename_i l h1
   cases h
   refine ⟨rfl,?_⟩
   obtain ⟨a,b⟩:=ynb t h1
   have h0:0<=i/\i<len:=hc.1
   have hlt:i.toNat<l.length:=by omega
   rw[b _ _ (List.getElem?_eq_getElem hlt),List.getElem?_eq_getElem hlt]
   exact .st _
  ·cases h
theorem ysu (hγ:GM P C R ts χ ds) {u:AOp} {cs:List Prop} {w:TV K} (h:tqv ts u=some (cs,w)) (hc:AllP cs):
  ys6 u=false/\∃D v,kpv (yav (toD ds)) ds.fr u=some (D,v)/\AllP D/\TR P C ts χ w v:=by
 have lvx:∀ {s c:Nat} {v:TV K},tlvx ts s c v=some (cs,w)→cs= []∧w=v∧yav (toD ds) (.l s c)=true:=by
  intro s c v e
  unfold tlvx at e
  split at e
  ·rename_i e' cs' e1;cases e;exact ⟨rfl,rfl,hγ.live e1 (hγ.box e1)⟩
  ·rename_i e' t' x' e1;cases e;exact ⟨rfl,rfl,hγ.live e1 (hγ.opq e1)⟩
  ·cases e
 have lv:∀ {s c:Nat} {v:TV K},χ s c=false→yom ts s c v=some (cs,w)→cs= []∧w=v∧yav (toD ds) (.l s c)=true:=by
  intro s c v hx e
  unfold yom at e
  split at e
  ·rename_i b e1;cases e;exact ⟨rfl,rfl,hγ.live e1 hx⟩
  ·cases e
 unfold tqv at h
 simp only at h
 split at h
 case h_1 x=>
  cases h;exact ⟨rfl,[],_,rfl,trivial,hγ.tea x⟩
 case h_2 z parts=>
  split at h
  ·rename_i cs' e
   cases h
   obtain ⟨cs2,e2,t⟩:=yfY (P:=P) (C:=C) (ts:=ts) (χ:=χ) _ (parts.map fun p=>(p.1,p.2.1,ev (lkF ds.fr) p.2.2)) _ z _ (TL.cvAs z) (by simp) (fun j p q a b=>by
    rw[List.getElem?_map] at a b
    cases hp:parts[j]? with
    |none=>rw[hp] at a;cases a
    |some r=>rw[hp] at a b;cases a;cases b;exact ⟨rfl,rfl,hγ.tea _⟩) e
   refine ⟨rfl,[], .agg cs2,?_,trivial, .agg _ _ t.1 t.2⟩
   simp only[kpv,pval,e2,kok,Option.map_some]
  ·cases h
 case h_3 x=>
  have hx:=hγ.tev x
  split at h
  ·rename_i s c o e
   rw[e] at hx
   obtain ⟨rfl,rfl,hl⟩:=lvx h
   have ev':ev (lkF ds.fr) x= .pt (.l s c) o:=hx.pxi
   refine ⟨rfl,[],_,?_,trivial,ev'▸hx⟩
   simp only[kpv,pval,ev',hl,if_true,kok]
  ·rename_i e' s c i o e
   rw[e] at hx
   cases hx':(ev (lkF ds.fr) x) with
   | pt k off=>
     rw[hx'] at hx
     cases hx with
     | pr _ _ _ _ _ hr hxx=>
       obtain ⟨rfl,rfl,hl⟩:=lv hxx h
       refine ⟨rfl,[], .pt (.l s c) _,?_,trivial, .pr _ _ _ _ _ hr hxx⟩
       simp only[kpv,pval,hx',hl,if_true,kok]
   |_=>rw[hx'] at hx;cases hx
  ·rename_i e' l i o e
   rw[e] at hx
   cases h
   cases hx':(ev (lkF ds.fr) x) with
   | ep xs off=>
     rw[hx'] at hx
     refine ⟨rfl,[], .ep xs off,?_,trivial,hx⟩
     simp only[kpv,pval,hx',kok]
   |_=>rw[hx'] at hx;cases hx
  ·rename_i l i e
   rw[e] at hx
   cases h
   cases hx':(ev (lkF ds.fr) x) with
   | ep xs off=>
     rw[hx'] at hx
     refine ⟨rfl,[], .ep xs off,?_,trivial,hx⟩
     simp only[kpv,pval,hx',kok]
   |_=>rw[hx'] at hx;cases hx
  ·rename_i f a c e
   rw[e] at hx
   cases h
   cases hx':(ev (lkF ds.fr) x) with
   | fn f' a' c'=>
     rw[hx'] at hx
     have:f'= .func f:=by cases hx;rfl
     subst this
     refine ⟨rfl,[], .fn (.func f) a' c',?_,trivial,hx⟩
     simp only[kpv,pval,hx',kok]
   |_=>rw[hx'] at hx;cases hx
  ·rename_i ps rs V e
   rw[e] at hx
   cases h
   have hx2:=hx
   cases hx with
   | fv _ _ _ _ hF hv=>
     obtain ⟨_,_,_,f,a,c,e1,_⟩:=hF
     rw[e1] at hv
     cases hx':(ev (lkF ds.fr) x) with
     | fn f' a' c'=>
       rw[hx'] at hv hx2
       simp only[dwk,AV.fn.injEq] at hv
       obtain ⟨rfl,_,_⟩:=hv
       refine ⟨rfl,[], .fn (.func f) a' c',?_,trivial,hx2⟩
       simp only[kpv,pval,hx',kok]
     |_=>rw[hx'] at hv;simp[dwk] at hv
  ·cases h
 case h_4 op x y=>
  obtain ⟨D,z,h1,h2,h3⟩:=yqx (hγ.tev x) (hγ.tev y) h hc
  exact ⟨rfl,D,z,h1,h2,h3⟩
 case h_5 g k x y=>
  have hx:=hγ.tev x
  have hy:=hγ.tev y
  split at h
  ·rename_i s c o e1
   split at h
   ·rename_i e2
    obtain ⟨rfl,rfl,hl⟩:=lvx h
    rw[e1] at hx
    rw[e2] at hy
    have a:=hx.pxi
    have b:ev (lkF ds.fr) y= .nptr:=by
     generalize ev (lkF ds.fr) y=v at hy
     cases hy;rfl
    refine ⟨rfl,[], .bl g,?_,trivial, .lb _⟩
    simp only[kpv,a,b,keq,eqP,hl,if_true,Option.map_some,kok]
    cases g<;>rfl
   ·cases h
  ·obtain ⟨D,z,h1,h2,h3⟩:=yr4 (live:=yav (toD ds)) hx hy h hc
   exact ⟨rfl,D,z,h1,h2,h3⟩
 case h_6 g ks x y=>
  have hx:=hγ.tev x
  have hy:=hγ.tev y
  split at h
  ·rename_i a b e1 e2
   rw[e1] at hx;rw[e2] at hy
   obtain ⟨us,f1,t1,t2⟩:=hx.agg'
   obtain ⟨vs,f2,t3,t4⟩:=hy.agg'
   split at h
   ·rename_i r e3
    cases h
    have:=ymO t1 t3 t2 t4 e3
    refine ⟨rfl,[], .bl (ngB g r),?_,trivial, .bl _⟩
    simp only[kpv,f1,f2,this,kok,Option.map_some]
   ·cases h
  ·cases h
 case h_7 op x=>
  have hx:=hγ.tev x
  split at h
  ·split at h
   ·rename_i k n e
    cases h
    have:=hx.int e
    refine ⟨rfl,[], .it k _,?_,trivial, .it _ _⟩
    simp only[kpv,pval,this,kok]
   ·cases h
  ·split at h
   ·rename_i b e
    cases h
    rw[e] at hx
    have:ev (lkF ds.fr) x= .bl b:=hx.lbi
    refine ⟨rfl,[], .bl (!b),?_,trivial, .lb _⟩
    simp only[kpv,pval,this,kok]
   ·rename_i b e
    cases h
    rw[e] at hx
    have:ev (lkF ds.fr) x= .bl b:=hx.bli
    refine ⟨rfl,[], .bl (!b),?_,trivial, .bl _⟩
    simp only[kpv,pval,this,kok]
   ·cases h
  ·cases h
 case h_8 k x=>
  split at h
  ·rename_i k' n e
   cases h
   have:=(hγ.tev x).int e
   refine ⟨rfl,[], .it k _,?_,trivial, .it _ _⟩
   simp only[kpv,pval,this,kok]
  ·cases h
 case h_9 x=>
  have hx:=hγ.tev x
  split at h
  ·rename_i l e
   cases h
   rw[e] at hx
   refine ⟨rfl,[], .st l,?_,trivial, .st _⟩
   simp only[kpv,pval,hx.str,kok]
  ·cases h
 case h_10 x lo hi=>
  have hx:=hγ.tev x
  split at h
  ·rename_i l e
   rw[e] at hx
   split at h
   ·rename_i a b e1 e2
    cases h
    refine ⟨rfl,_, .st ((l.drop a.toNat).take (b.toNat-a.toNat)),?_,hc, .st _⟩
    simp only[kpv,hx.str,ydO hγ e1,ydO hγ e2,ksls]
   ·cases h
  ·cases h
 case h_11 off x=>
  have hx:=hγ.tev x
  split at h
  ·rename_i s c o e
   rw[e] at hx
   obtain ⟨rfl,rfl,hl⟩:=lvx h
   cases hx':(ev (lkF ds.fr) x) with
   | pt k off'=>
     rw[hx'] at hx
     cases hx with
     | px _ _ _ hr=>
       refine ⟨rfl,[], .pt (.l s c) (o+off),?_,trivial, .px _ _ _ hr⟩
       simp only[kpv,pval,hx',hl,if_true,kok]
   |_=>rw[hx'] at hx;cases hx
  ·rename_i e' s c i o e
   rw[e] at hx
   cases hx':(ev (lkF ds.fr) x) with
   | pt k off'=>
     rw[hx'] at hx
     cases hx with
     | pr _ _ _ _ _ hr hxx=>
       obtain ⟨rfl,rfl,hl⟩:=lv hxx h
       refine ⟨rfl,[], .pt (.l s c) (i*(C.E e').sz+o+off),?_,trivial,by rw[Nat.add_assoc];exact .pr _ _ _ _ _ hr hxx⟩
       simp only[kpv,pval,hx',hl,if_true,kok]
   |_=>rw[hx'] at hx;cases hx
  ·rename_i e' l i o e
   rw[e] at hx
   cases h
   cases hx':(ev (lkF ds.fr) x) with
   | ep xs off'=>
     rw[hx'] at hx
     cases hx with
     | ep _ _ _ _ _ hxx=>
       refine ⟨rfl,[], .ep xs (i*(C.E e').sz+o+off),?_,trivial,by rw[Nat.add_assoc];exact .ep _ _ _ _ _ hxx⟩
       simp only[kpv,pval,hx',kok]
   |_=>rw[hx'] at hx;cases hx
  ·cases h
 case h_12 g off sz x=>
  have hx:=hγ.tev x
  split at h
  ·rename_i us e
   rw[e] at hx
   obtain ⟨vs,f1,t⟩:=hx.agg'
   have t:TL P C ts χ us vs:=t
   split at h
   ·cases h
    refine ⟨rfl,[], .agg ((vs.drop off).take sz),?_,trivial, .agg _ _ ((t.drop off).take sz).1 ((t.drop off).take sz).2⟩
    simp only[kpv,pval,f1,kok,if_true]
   ·split at h
    ·rename_i v e1
     cases h
     obtain ⟨v',e2,e3⟩:=t.at' e1
     refine ⟨rfl,[],v',?_,trivial,e3⟩
     simp only[kpv,pval,f1,e2,kok,Bool.false_eq_true,if_false]
    ·cases h
  ·cases h
 case h_13 len sz x i=>
  have hx:=hγ.tev x
  have hi:=hγ.tev i
  split at h
  ·rename_i s c o k n e1 e2
   rw[e1] at hx;rw[e2] at hi
   split at h
   ·rename_i hb
    obtain ⟨rfl,rfl,hl⟩:=lvx h
    cases hx':(ev (lkF ds.fr) x) with
    | pt q off'=>
      rw[hx'] at hx
      cases hx with
      | px _ _ _ hr=>
        refine ⟨rfl,[0<=n/\n<len], .pt (.l s c) (o+n.toNat*sz),?_,⟨hb,trivial⟩, .px _ _ _ hr⟩
        simp only[kpv,hx',hi.int (k:=k) (n:=n) rfl,hl]
    |_=>rw[hx'] at hx;cases hx
   ·cases h
  ·rename_i l o e1
   rw[e1] at hx
   split at h
   ·rename_i k n e2
    cases h
    cases hx':(ev (lkF ds.fr) x) with
    | ep xs off'=>
      rw[hx'] at hx
      cases hx with
      | gs _ _ _ hxx=>
        refine ⟨rfl,[0<=n/\n<len], .ep xs (o+n.toNat*sz),?_,?_, .gs _ _ _ hxx⟩
        ·simp only[kpv,hx',hi.int e2]
        ·exact hc
    |_=>rw[hx'] at hx;cases hx
   ·cases h
  ·cases h
 case h_14 x i=>
  have hx:=hγ.tev x
  split at h
  ·rename_i l k n e1 e2
   rw[e1] at hx
   cases h
   refine ⟨rfl,_,_,?_,hc, .it _ _⟩
   simp only[kpv,hx.str,(hγ.tev i).int e2,bAt]
  ·cases h
 case h_15 g len sz x i=>
  have hx:=hγ.tev x
  have hi:=hγ.tev i
  split at h
  ·rename_i us k n e1 e2
   rw[e1] at hx;rw[e2] at hi
   obtain ⟨vs,f1,t⟩:=hx.agg'
   have t:TL P C ts χ us vs:=t
   split at h
   ·rename_i hb
    split at h
    ·cases h
     refine ⟨rfl,[], .agg ((vs.drop (n.toNat*sz)).take sz),?_,trivial, .agg _ _ ((t.drop _).take sz).1 ((t.drop _).take sz).2⟩
     simp only[kpv,pval,f1,hi.int (k:=k) (n:=n) rfl,kok,if_true,if_pos hb,Bool.not_true,Bool.false_and]
    ·split at h
     ·rename_i v e3
      cases h
      obtain ⟨v',e4,e5⟩:=t.at' e3
      cases hq:(!false&&Nat.beq sz 1&&Nat.ble len vs.length) with
      | false=>
        refine ⟨rfl,[],v',?_,trivial,e5⟩
        simp only[kpv,pval,f1,hi.int (k:=k) (n:=n) rfl,e4,kok,hq,Bool.false_eq_true,if_false,if_pos hb]
      | true=>
        refine ⟨rfl,[0<=n/\n<len],v',?_,⟨hb,trivial⟩,e5⟩
        have h1:sz=1:=by simp only[Bool.and_eq_true] at hq;exact nbeq.1 hq.1.2
        subst h1
        rw[Nat.mul_one] at e4
        simp only[kpv,f1,hi.int (k:=k) (n:=n) rfl,hq,e4,Option.getD_some]
     ·cases h
   ·cases h
  ·rename_i us k n e1 e2
   rw[e1] at hx;rw[e2] at hi
   obtain ⟨vs,f1,t⟩:=hx.agg'
   have t:TL P C ts χ us vs:=t
   split at h
   ·rename_i hq
    have hq0:=hq
    simp only[Bool.and_eq_true] at hq
    obtain ⟨e3,e4⟩:=yqH t h hq.2 hc
    refine ⟨rfl,[0<=n/\n<len],_,?_,by rw[<-e3];exact hc,e4⟩
    rw[<-t.1] at hq0
    simp only[kpv,f1,hi.int (k:=k) (n:=n) rfl,hq0]
   ·cases h
  ·cases h
 case h_16 x i=>
  have hx:=hγ.tev x
  split at h
  ·rename_i us e
   rw[e] at hx
   obtain ⟨vs,f1,t⟩:=hx.tup'
   have t:TL P C ts χ us vs:=t
   split at h
   ·rename_i v e1
    cases h
    obtain ⟨v',e2,e3⟩:=t.at' e1
    refine ⟨rfl,[],v',?_,trivial,e3⟩
    simp only[kpv,pval,f1,e2,kok]
   ·cases h
  ·cases h
 case h_17 x=>
  have hx:=hγ.tev x
  split at h
  ·rename_i l e
   cases h
   rw[e] at hx
   refine ⟨rfl,[], .it .i64 (l.length:Int),?_,trivial, .it _ _⟩
   simp only[kpv,pval,hx.str,kok]
  ·cases h
 case h_18 x=>
  have hx:=hγ.tev x
  split at h
  ·rename_i e
   cases h
   rw[e] at hx
   generalize hv:ev (lkF ds.fr) x=v at hx
   cases hx
   refine ⟨rfl,[], .it .i64 0,?_,trivial, .li _ _⟩
   simp only[kpv,pval,hv,kok]
  ·cases h
 case h_19 mx xs=>
  split at h
  ·cases h
  ·rename_i x r
   split at h
   ·rename_i k a e1
    split at h
    ·rename_i v e2
     cases h
     obtain ⟨v',e3,e4⟩:=ynG _ _ a w (TL.tev hγ r) e2
     refine ⟨rfl,[],v',?_,trivial,e4⟩
     simp only[kpv,pval,List.map_cons,(hγ.tev x).int e1,e3,kok]
    ·cases h
   ·cases h
 case h_20 f a c=>
  cases h
  refine ⟨rfl,[], .fn (.func f) (a.map (ev (lkF ds.fr))) (c.map (ev (lkF ds.fr))),?_,trivial, .fn _ _ _ _ _ (TL.tea hγ a).1 (TL.tea hγ c).1 (TL.tea hγ a).2 (TL.tea hγ c).2⟩
  simp only[kpv,pval,kok]
 case h_21=>cases h
end
end Go.AV
end
noncomputable section
namespace Go.AV
open Go.RowKit Go.RG Go.Lib
variable {K:Nat->Type}
mutual
theorem yhj:∀(u:AV),dwk (dwk u)=dwk u
 | .agg cs=>by simp only[dwk];rw[ybS cs]
 | .tup cs=>by simp only[dwk];rw[ybS cs]
 | .fn f a c=>by simp only[dwk];rw[ybS a,ybS c]
 | .sl z n xs=>by simp only[dwk];rw[ybS xs]
 | .ep xs off=>by simp only[dwk];rw[ybS xs]
 | .gs k n=>rfl
 | .pt k n=>rfl
 | .bl b=>rfl
 | .it k n=>rfl
 | .st s=>rfl
 | .nptr=>rfl
 | .nfn=>rfl
 | .un=>rfl
 | .yld o=>rfl
 | .rcd _ _ _ _ _=>rfl
theorem ybS:∀(l:List AV),dwks (dwks l)=dwks l
 | []=>rfl
 |x::l=>by simp only[dwks];rw[yhj x,ybS l]
end
theorem ybC (a b:List AV):dwks (a++b)=dwks a++dwks b:=by simp[ybY]
theorem ycZ (a:List AV) (n:Nat):dwks (a.take n)=(dwks a).take n:=by simp[ybY,List.map_take]
theorem ydN (a:List AV) (n:Nat):dwks (a.drop n)=(dwks a).drop n:=by simp[ybY,List.map_drop]
mutual
theorem yhr:∀(u:AV),dwk (weak u)=dwk u
 | .agg cs=>by simp only[weak,dwk];rw[yc8 cs]
 | .tup cs=>by simp only[weak,dwk];rw[yc8 cs]
 | .fn f a c=>by simp only[weak,dwk];rw[yc8 a,yc8 c]
 | .sl z n xs=>rfl
 | .ep xs off=>rfl
 | .gs k n=>rfl
 | .pt k n=>rfl
 | .bl b=>rfl
 | .it k n=>rfl
 | .st s=>rfl
 | .nptr=>rfl
 | .nfn=>rfl
 | .un=>rfl
 | .yld o=>rfl
 | .rcd _ _ _ _ _=>rfl
theorem yc8:∀(l:List AV),dwks (yeC l)=dwks l
 | []=>rfl
 |x::l=>by simp only[yeC,dwks];rw[yhr x,yc8 l]
end
theorem yaO {l:List AV} {T:Type} {E:Enc T} {k:List T} (h:dwks l=cl E k):noLs l=true:=by rw[<-ybn,h];exact ytC E k
section
variable {P:Program} {C:Cx K} {R:RR K} {ts ts':TS K} {χ χ':Nat->Nat->Bool} {ds:DS}
theorem TR.undwk {u:TV K} {w:AV} (h:TR P C ts χ u w):∀ {v:AV},w=dwk v→TR P C ts χ u v:=by
 have hL:∀ {us:List (TV K)} {ws:List AV},ws.length=us.length→(∀(j:Nat) (u:TV K) (w:AV),us[j]? =some u→ws[j]? =some w→∀ {v:AV},w=dwk v→TR P C ts χ u v)→∀ {vs:List AV},ws=dwks vs→vs.length=us.length∧∀(j:Nat) (u:TV K) (v:AV),us[j]? =some u→vs[j]? =some v→TR P C ts χ u v:=by
  intro us ws hl hh vs e
  subst e
  refine ⟨by rw[<-hl,yaL],fun j u v h1 h2=>hh j u (dwk v) h1 (by rw[ybY,List.getElem?_map,h2];rfl) rfl⟩
 induction h with
 |un w=>exact fun _=> .un _
 |lb b=>intro v e;cases v<;>simp[dwk] at e;subst e;exact .lb _
 |bl b=>intro v e;cases v<;>simp[dwk] at e;subst e;exact .bl _
 |li k n=>intro v e;cases v<;>simp[dwk] at e;obtain ⟨rfl,rfl⟩:=e;exact .li _ _
 |it k n=>intro v e;cases v<;>simp[dwk] at e;obtain ⟨rfl,rfl⟩:=e;exact .it _ _
 |st s=>intro v e;cases v<;>simp[dwk] at e;subst e;exact .st _
 | agg us ws hl _ ih=>
   intro v e
   cases v with
   |agg vs=>simp only[dwk,AV.agg.injEq] at e;obtain ⟨a,b⟩:=hL hl ih e;exact .agg us vs a b
   |_=>simp[dwk] at e
 | tup us ws hl _ ih=>
   intro v e
   cases v with
   |tup vs=>simp only[dwk,AV.tup.injEq] at e;obtain ⟨a,b⟩:=hL hl ih e;exact .tup us vs a b
   |_=>simp[dwk] at e
 |nil=>intro v e;cases v<;>simp[dwk] at e
 | em z=>
   intro v e
   cases v with
   | sl z' n xs=>
     simp only[dwk,AV.sl.injEq] at e
     obtain ⟨_,rfl,e⟩:=e
     have:xs= []:=by cases xs with|nil=>rfl|cons=>simp[dwks] at e
     subst this;exact .em _
   |_=>simp[dwk] at e
 | sl e0 l z n xs hn hx=>
   intro v e
   cases v with
   | sl z' n' xs'=>
     simp only[dwk,AV.sl.injEq] at e
     obtain ⟨_,rfl,rfl⟩:=e
     exact .sl e0 l _ _ _ hn (by rw[<-hx,ybS])
   |_=>simp[dwk] at e
 |rwd s c w hr h h1=>intro v e;subst e;exact .rwd s c v hr h (by rw[<-yhP];exact h1)
 |rw s c n hr h hx=>intro v e;cases v<;>simp[dwk] at e;obtain ⟨rfl,rfl⟩:=e;exact .rw _ _ _ hr h hx
 |rwn s c hr h hx=>intro v e;cases v<;>simp[dwk] at e
 |px s c off hr=>intro v e;cases v<;>simp[dwk] at e;obtain ⟨rfl,rfl⟩:=e;exact .px _ _ _ hr
 |pr e0 s c i of hr hx=>intro v e;cases v<;>simp[dwk] at e;obtain ⟨rfl,rfl⟩:=e;exact .pr _ _ _ _ _ hr hx
 | ep e0 l i of xs hx=>
   intro v e
   cases v with
   | ep xs' off=>
     simp only[dwk,AV.ep.injEq] at e
     obtain ⟨rfl,rfl⟩:=e
     exact .ep e0 l i of _ (by rw[<-hx,ybS])
   |_=>simp[dwk] at e
 | gs l i xs hx=>
   intro v e
   cases v with
   | ep xs' off=>
     simp only[dwk,AV.ep.injEq] at e
     obtain ⟨rfl,rfl⟩:=e
     exact .gs l _ _ (by rw[<-hx,ybS])
   |_=>simp[dwk] at e
 |nptr=>intro v e;cases v<;>simp[dwk] at e;exact .nptr
 | fn f a c a' c' ha hc _ _ ih ih'=>
   intro v e
   cases v with
   | fn f' a2 c2=>
     simp only[dwk,AV.fn.injEq] at e
     obtain ⟨rfl,e1,e2⟩:=e
     obtain ⟨p1,p2⟩:=hL ha ih e1
     obtain ⟨q1,q2⟩:=hL hc ih' e2
     exact .fn f a c a2 c2 p1 q1 p2 q2
   |_=>simp[dwk] at e
 |fv ps rs F w h hv=>intro v e;subst e;exact .fv ps rs F v h (by rw[<-hv,yhj])
 |yl r=>intro v e;cases v<;>simp[dwk] at e;subst e;exact .yl _
 |cn id u w h hn _ ih=>intro v e;exact .cn id u v h hn (ih e)
theorem TR.pri {e s c i of:Nat} {v:AV} (h:TR P C ts χ (.pr e s c i of) v):χ s c=false/\v= .pt (.l s c) (i*(C.E e).sz+of):=by cases h;exact ⟨by assumption,rfl⟩
theorem TR.epi {e i of:Nat} {l:List (K e)} {v:AV} (h:TR P C ts χ (.ep e l i of) v):∃xs,dwks xs=cl (C.E e) l/\v= .ep xs (i*(C.E e).sz+of):=by cases h;exact ⟨_,by assumption,rfl⟩
theorem ykr:∀(l:List Str) {xs:List AV},dwks xs=l.map .st→xs=l.map .st
 | [],xs,h=>by cases xs with|nil=>rfl|cons x xs=>simp[dwks] at h
 | s ::l,xs,h=>by
   cases xs with
   |nil=>simp[dwks] at h
   | cons x xs=>
     simp only[dwks,List.map_cons,List.cons.injEq] at h
     rw[ykr l h.2,List.map_cons]
     congr 1
     cases x<;>simp[dwk] at h
     rw[h.1]
theorem TR.gsi {i:Nat} {l:List Str} {v:AV} (h:TR P C ts χ (.gs l i) v):∃xs,dwks xs=l.map .st/\v= .ep xs i:=by cases h;exact ⟨_,by assumption,rfl⟩
theorem TR.sli {e:Nat} {l:List (K e)} {v:AV} (h:TR P C ts χ (.sl e l) v):∃z xs,dwks xs=cl (C.E e) l∧v= .sl z l.length xs:=by
 cases h with
 |sl _ _ z n xs hn hx=>subst hn;exact ⟨z,xs,hx,rfl⟩
theorem TR.rwi {s c:Nat} {n:Nat} {v:AV} (h:TR P C ts χ (.rw s c) v) (hn:tln (ts.tb s c)=some n):(χ s c=false∧v= .gs (.l s c) n)∨(χ s c=true∧n=0∧v= .sl true 0 []):=by
 cases h with
 |rwd _ _ _ _ h=>rw[hn] at h;cases h
 |rw _ _ n' _ h hx=>rw[hn] at h;cases h;exact .inl ⟨hx,rfl⟩
 |rwn _ _ _ h hx=>rw[hn] at h;cases h;exact .inr ⟨hx,rfl,rfl⟩
theorem TR.twk {u:TV K} {v:AV} (h:TR P C ts χ u v):TR P C ts χ (Go.AV.twk u) (weak v):=by
 have hs:=h.s
 unfold Go.AV.twk
 revert hs
 have hnc:∀id w,u.s≠ .cn id w:=by
  intro id w e
  cases h with
  |cn id' u v h hn hv=>simp only[TV.s] at e;rw[e] at hn;cases hn
  |_=>cases e
 revert hnc
 generalize u.s=w
 intro hnc hs
 cases hs with
 |un v=>exact .un _
 |lb b=>exact .lb b
 |bl b=>exact .bl b
 |li k n=>exact .li k n
 |it k n=>exact .it k n
 |st s=>exact .st s
 |agg us vs hl h=>exact .un _
 |tup us vs hl h=>exact .un _
 |nil=>exact .em _
 |em z=>exact .em _
 |sl e l z n xs hn hx=>exact .sl e l _ n xs hn hx
 |rwd s c v hr h h1=>exact .un _
 |rw s c n hr h hx=>exact .un _
 |rwn s c hr h hx=>exact .un _
 |px s c off hr=>exact .px s c off hr
 |pr e s c i of hr hx=>exact .pr e s c i of hr hx
 |ep e l i of xs hx=>exact .ep e l i of xs hx
 |gs l i xs hx=>exact .gs l i xs hx
 |nptr=>exact .nptr
 |fn f a c a' c' ha hc h h'=>exact .un _
 |fv ps rs F v h hv=>exact .fv ps rs F _ h (by rw[yhr];exact hv)
 |yl r=>exact .yl r
 |cn id u v h hn hv=>exact (hnc _ _ rfl).elim
theorem yck {e e':Nat} {l:List (K e)} {l':List (K e')} (h:yfH e e' l=some l'):∃he:e=e',he▸l=l':=by
 unfold yfH at h
 split at h
 ·rename_i he;exact ⟨he,Option.some.inj h⟩
 ·cases h
theorem yfN (hC:CxOk P C) {e:Nat}:∀(n:Nat) (cs:List (TV K)) (vs:List AV) (l:List (K e)),yk2 (C.T e).rd (C.E e).sz n cs=some l→TL P C ts χ cs vs→cs.length=n*(C.E e).sz→dwks vs=cl (C.E e) l∧l.length=n
 | 0,cs,vs,l,h,t,hl=>by
   cases h
   have:vs= []:=List.eq_nil_of_length_eq_zero (by rw[t.1,hl];simp)
   subst this;exact ⟨rfl,rfl⟩
 | n+1,cs,vs,l,h,t,hl=>by
   simp only[yk2] at h
   split at h
   ·rename_i x r h1 h2
    cases h
    obtain ⟨a1,a2⟩:=yfN hC n _ (vs.drop (C.E e).sz) r h2 (t.drop _) (by rw[List.length_drop,hl,Nat.add_mul];omega)
    have b1:=(t.take (C.E e).sz).mapS
    have b2:=hC.rd e _ x ts χ _ h1 (by rw[b1.1]) b1.2
    refine ⟨?_,by simp[a2]⟩
    rw[show cl (C.E e) (x::r)=(C.E e).c x++cl (C.E e) r by simp[cl],<-a1,<-b2,<-ybC,List.take_append_drop]
   ·cases h
theorem GM.trow (hC:CxOk P C) (h:GM P C R ts χ ds) {s c e:Nat} {l:List (K e)} (hr:trow C e (ts.tb s c)=some l):tln (ts.tb s c)=some l.length∧(χ s c=true→l= [])∧(χ s c=false→∃kb,ds.kb s c=some kb∧kb.e=e∧kb.sz=(C.E e).sz∧dwks kb.cells=cl (C.E e) l):=by
 unfold Go.AV.trow at hr
 split at hr
 ·rename_i e' l' hb
  obtain ⟨rfl,rfl⟩:=yck hr
  refine ⟨by rw[hb];rfl,fun hx=> ?_,fun hx=> ?_⟩
  ·obtain ⟨e2,h2⟩:=h.vi s c hx
   rw[hb] at h2
   cases h2;rfl
  ·obtain ⟨kb,h1,h2⟩:=h.mb s c _ hb hx
   exact ⟨kb,h1,h2⟩
 ·rename_i e' n cs hb
  split at hr
  ·rename_i he
   have:=nbeq.1 he;subst this
   have hx:=h.lrow hb
   obtain ⟨kb,h1,h2,h3,h4,h5,h6⟩:=h.mb s c _ hb hx
   obtain ⟨a1,a2⟩:=yfN hC n cs kb.cells l hr ⟨h4,h6⟩ h5
   exact ⟨by rw[hb,a2];rfl,fun q=>(by rw[hx] at q;cases q),fun _=>⟨kb,h1,h2,h3,a1⟩⟩
  ·cases hr
 ·cases hr
theorem ye5 (hC:CxOk P C) {e:Nat} {l:List (K e)} {cells:List AV} {i:Nat} {y:K e} (hc:dwks cells=cl (C.E e) l) (hy:l[i]? =some y):TL P C ts χ ((C.T e).c y) ((cells.drop (i*(C.E e).sz)).take (C.E e).sz):=by
 obtain ⟨c1,c2⟩:=hC.c e y ts χ
 have h1:dwks ((cells.drop (i*(C.E e).sz)).take (C.E e).sz)=(C.E e).c y:=by
  rw[ycZ,ydN,hc]
  have:=ys0 (C.E e) hy 0 (C.E e).sz (by omega)
  rw[Nat.add_zero] at this
  rw[this,List.drop_zero,List.take_of_length_le (by rw[(C.E e).len];exact Nat.le_refl _)]
 have hlen:((cells.drop (i*(C.E e).sz)).take (C.E e).sz).length=((C.T e).c y).length:=by
  rw[<-c1,<-h1,yaL]
 refine ⟨hlen,fun j u v h2 h3=> ?_⟩
 refine TR.undwk (c2 j u (dwk v) h2 ?_) rfl
 rw[<-h1,ybY,List.getElem?_map,h3];rfl
theorem yhX {g:Bool} {sz off:Nat} {cs:List (TV K)} {vs:List AV} {u:TV K} (t:TL P C ts χ cs vs) (h:tldc g sz off cs=some u):∃v,kld g sz vs off=some v∧TR P C ts χ u v:=by
 unfold tldc at h
 split at h
 ·split at h
  ·rename_i hb
   cases h
   have:=Nat.le_of_ble_eq_true hb
   refine ⟨.agg ((vs.drop off).take sz),?_, .agg _ _ ((t.drop off).take sz).1 ((t.drop off).take sz).2⟩
   simp only[kld]
   rw[if_pos (by rw[t.1];exact this)]
  ·cases h
 ·obtain ⟨v,h1,h2⟩:=t.at' h
  exact ⟨v,h1,h2⟩
theorem ypC {e:Nat} {l:List (K e)} {cells:List AV} {i:Nat} {y:K e} (hc:dwks cells=cl (C.E e) l) (hy:l[i]? =some y):i*(C.E e).sz≤cells.length:=by
 rw[<-yaL cells,hc,ydp]
 exact Nat.mul_le_mul_right _ (Nat.le_of_lt (List.getElem?_eq_some_iff.1 hy).1)
theorem ypr {g:Bool} {w of o sz:Nat} {cells:List AV} {v:AV} (hoo:o≤cells.length) (hw:(g=true→of+w≤sz)∧(g=false→of<sz)) (h:kld g w ((cells.drop o).take sz) of=some v):kld g w cells (o+of)=some v:=by
 cases g with
 | true=>
   simp only[kld] at h⊢
   split at h
   ·rename_i hle
    cases h
    have h1:=hw.1 rfl
    simp only[List.length_take,List.length_drop] at hle
    rw[if_pos (by omega)]
    congr 2
    rw[List.drop_take,List.drop_drop,List.take_take]
    congr 1
    omega
   ·cases h
 | false=>
   simp only[kld] at h⊢
   have h1:=hw.2 rfl
   rw[List.getElem?_take,if_pos h1,List.getElem?_drop] at h
   exact h
theorem ylA {g:Bool} {w of:Nat} {cs:List (TV K)} {u:TV K} (h:tldc g w of cs=some u):(g=true→of+w≤cs.length)∧(g=false→of<cs.length):=by
 unfold tldc at h
 split at h
 ·split at h
  ·rename_i hb;exact ⟨fun _=>Nat.le_of_ble_eq_true hb,fun e=>by cases e⟩
  ·cases h
 ·exact ⟨fun e=>by (cases e),fun _=>(List.getElem?_eq_some_iff.1 h).1⟩
variable (P C R) in
def SR (o:AO) (ts:TS K) (ds:DS) (X:TS K->Prop):Prop:=∃e ds' ts' χ',Eff o.op o.dst ds e ds'/\(∀p∈e.mem,p.1∈twk' ts o)/\e.H=none/\GM P C R ts' χ' ds'/\X ts'/\ts'.rg=ts.rg
theorem yaW (ts:TS K) (d:Option Nat) (u:TV K):(ts.put d u).rg=ts.rg:=by cases d<;>rfl
theorem yiw {g:Bool} {sz:Nat} {x:AOpd} {d:Option Nat} {v:AV} (hk:DOk ds) (h:(∃s c off b,ev (lkF ds.fr) x= .pt (.l s c) off∧ds.kb s c=some b∧b.sz≠0∧kld g sz b.cells off=some v)∨∃xs off,ev (lkF ds.fr) x= .ep xs off∧kld g sz xs off=some v):Eff (.ld g sz x) d ds (eff1 v) (ds.put d v):=by
 refine yi0 (C:= []) ?_ trivial hk
 rcases h with ⟨s,c,off,b,h1,h2,hz,h3⟩|⟨xs,off,h1,h2⟩
 ·simp only[kx,h1,h2]
  rw[if_pos hz,h3]
 ·simp only[kx,h1,h2]
theorem yds {o:AO} {X:TS K→Prop} {u:TV K} {v:AV} (hγ:GM P C R ts χ ds) (hv:TR P C ts χ u v) (he:Eff o.op o.dst ds (eff1 v) (ds.put o.dst v)) (hX:X (ts.put o.dst u)):SR P C R o ts ds X:=
 ⟨_,_,_,χ,he,fun p hp=>(by cases hp),rfl,hγ.put hv,hX,yaW _ _ _⟩
theorem ysR (hC:CxOk P C) (hγ:GM P C R ts χ ds) (hk:DOk ds) {o:AO} {g:Bool} {sz:Nat} {x:AOpd} {X:TS K→Prop} (ho:o.op= .ld g sz x) (h:tld C g sz ts (fun v=>X (ts.put o.dst v)) (tev ts.fr x)):SR P C R o ts ds X:=by
 have hx:=hγ.tev x
 have pxc:∀ {s c off:Nat} {cs:List (TV K)} {kb:KB},tev ts.fr x= .px s c off→ds.kb s c=some kb→kb.sz≠0→TL P C ts χ cs kb.cells→wpo' (tldc g sz off cs) (fun v=>X (ts.put o.dst v))→SR P C R o ts ds X:=by
  intro s c off cs kb e h1 hz t hw
  obtain ⟨u,h2,hX⟩:=ybm hw
  rw[e] at hx
  obtain ⟨v,h3,h4⟩:=yhX t h2
  exact yds hγ h4 (by rw[ho];exact yiw hk (.inl ⟨s,c,off,kb,hx.pxi,h1,hz,h3⟩)) hX
 unfold tld at h
 split at h
 ·rename_i s c off e
  split at h
  ·rename_i e' cs hb
   obtain ⟨kb,h1,hm⟩:=hγ.mb s c _ hb (hγ.box hb)
   exact pxc e h1 (hm.nz (hk s c kb h1).1 (by intro _ _ _ q;cases q)) ⟨hm.2.2.1,hm.2.2.2⟩ h
  ·rename_i e' n cs hb
   obtain ⟨kb,h1,hm⟩:=hγ.mb s c _ hb (hγ.lrow hb)
   exact pxc e h1 (hm.nz (hk s c kb h1).1 (by intro _ _ _ q;cases q)) ⟨hm.2.2.1,hm.2.2.2.2⟩ h
  ·exact h.elim
 ·rename_i e' s c i of e
  obtain ⟨l,hl,y,hy,hw⟩:=ybm h
  obtain ⟨u,h2,hX⟩:=ybm hw
  rw[e] at hx
  have hx':=hx.pri
  obtain ⟨kb,k1,k2,k3,k4⟩:=(hγ.trow hC hl).2.2 hx'.1
  have t:=ye5 (P:=P) (ts:=ts) (χ:=χ) hC k4 hy
  obtain ⟨v,h3,h4⟩:=yhX t h2
  have hin:=ylA h2
  rw[<-(hC.c e' y ts χ).1,(C.E e').len] at hin
  exact yds hγ h4 (by rw[ho];exact yiw hk (.inl ⟨s,c,_,kb,hx'.2,k1,(show MR P C ts χ (.row e' l) kb from ⟨k2,k3,k4⟩).nz (hk s c kb k1).1 (by intro _ _ _ q;cases q),ypr (ypC k4 hy) hin h3⟩)) hX
 ·rename_i e' l i of e
  obtain ⟨y,hy,hw⟩:=h
  obtain ⟨u,h2,hX⟩:=ybm hw
  rw[e] at hx
  obtain ⟨xs,hxs,hev⟩:=hx.epi
  have t:=ye5 (P:=P) (ts:=ts) (χ:=χ) hC hxs hy
  obtain ⟨v,h3,h4⟩:=yhX t h2
  have hin:=ylA h2
  rw[<-(hC.c e' y ts χ).1,(C.E e').len] at hin
  exact yds hγ h4 (by rw[ho];exact yiw hk (.inr ⟨xs,_,hev,ypr (ypC hxs hy) hin h3⟩)) hX
 ·rename_i l i e
  rw[e] at hx
  obtain ⟨xs,hxs,hev⟩:=hx.gsi
  obtain rfl:=ykr l hxs
  split at h
  ·split at h
   ·rename_i hb
    have hb:=Bool.and_eq_true_iff.1 hb
    have hi:i=0:=nbeq.1 hb.1
    have hs:sz=(l.map AV.st).length:=by rw[List.length_map];exact nbeq.1 hb.2
    have hkl:kld true sz (l.map AV.st) i=some (.agg (l.map .st)):=by
     simp only[kld,hi,hs,List.drop_zero,List.take_length]
     first|done|simp
    refine yds (v:= .agg (l.map .st)) hγ ?_ (by rw[ho];exact yiw hk (.inr ⟨_,_,hev,hkl⟩)) h
    refine .agg _ _ (by simp) fun j u v h1 h2=> ?_
    rw[List.getElem?_map] at h1 h2
    cases hj:l[j]? with
    |none=>rw[hj] at h1;cases h1
    |some s=>rw[hj] at h1 h2;cases h1;cases h2;exact .st s
   ·exact h.elim
  ·obtain ⟨y,hy,hX⟩:=h
   have hkl:kld false sz (l.map AV.st) i=some (.st y):=by
    simp only[kld,List.getElem?_map,hy,Option.map_some]
   exact yds (v:= .st y) hγ (.st y) (by rw[ho];exact yiw hk (.inr ⟨_,_,hev,hkl⟩)) hX
 ·exact h.elim
theorem yat (p:Nat×Option (TB K)) (r:List (Nat×Option (TB K))) (t:Nat):lkB (p::r) t=if p.1=t then p.2 else lkB r t:=by
 show (match Nat.beq p.1 t with|true=>p.2|false=>lkB r t)=_
 cases h:Nat.beq p.1 t with
 |true=>simp[nbeq.1 h]
 |false=>simp only;rw[if_neg (fun e=>by rw[nbeq.2 e] at h;cases h)]
theorem ybi (ts:TS K) (q c:Nat) (b:Option (TB K)) (hc:c=1∨c=2) (s c':Nat):(ts.setb q c b).tb s c'=if s=q∧c'=c then b else ts.tb s c':=by
 have h1:∀(ts:TS K) (s:Nat),ts.tb s 1=lkB ts.od s:=fun _ _=>rfl
 have h2:∀(ts:TS K) (s:Nat),ts.tb s 2=lkB ts.nw s:=fun _ _=>rfl
 have h3:∀(ts:TS K) (s:Nat) (c:Nat),c≠1→c≠2→ts.tb s c=none:=by
  intro ts s c n1 n2
  unfold TS.tb
  cases e1:Nat.beq c 1 with
  |true=>exact absurd (nbeq.1 e1) n1
  | false=>cases e2:Nat.beq c 2 with
    |true=>exact absurd (nbeq.1 e2) n2
    |false=>rfl
 by_cases k1:c'=1
 ·subst k1
  rw[h1,h1]
  rcases hc with rfl|rfl
  ·show lkB ((q,b)::ts.od) s=_
   rw[yat]
   by_cases e:q=s
   ·subst e;simp
   ·rw[if_neg e,if_neg (fun x=>e x.1.symm)]
  ·rw[if_neg (fun x=>by cases x.2)];rfl
 ·by_cases k2:c'=2
  ·subst k2
   rw[h2,h2]
   rcases hc with rfl|rfl
   ·rw[if_neg (fun x=>by cases x.2)];rfl
   ·show lkB ((q,b)::ts.nw) s=_
    rw[yat]
    by_cases e:q=s
    ·subst e;simp
    ·rw[if_neg e,if_neg (fun x=>e x.1.symm)]
  ·rw[h3 _ _ _ k1 k2,h3 _ _ _ k1 k2,if_neg]
   rintro ⟨_,rfl⟩
   rcases hc with rfl|rfl
   ·exact k1 rfl
   ·exact k2 rfl
def updχ (χ:Nat->Nat->Bool) (s c:Nat) (v:Bool):Nat->Nat->Bool:=fun s' c'=>if s'=s/\c'=c then v else χ s' c'
theorem ybc (ts:TS K) (q c:Nat) (b:Option (TB K)):(ts.setb q c b).rg=ts.rg:=by unfold TS.setb;split<;>rfl
theorem ykG (ts:TS K) (q c:Nat) (b:Option (TB K)):(ts.setb q c b).h=ts.h:=by unfold TS.setb;split<;>rfl
theorem yhd (ts:TS K) (q c:Nat) (b:Option (TB K)):(ts.setb q c b).fr=ts.fr:=by unfold TS.setb;split<;>rfl
theorem yfM (ts:TS K) (q c:Nat) (b:Option (TB K)) (hc:c=1∨c=2) {s c':Nat} (h:okr ts s c'):okr (ts.setb q c b) s c':=by
 rcases h with h|⟨h1,h2⟩
 ·exact .inl h
 ·refine .inr ⟨h1,?_⟩
  rcases hc with rfl|rfl
  ·exact h2
  ·show (Nat.beq q s||memB ts.nw s)=true
   rw[h2,Bool.or_true]
theorem Mono.setb {s c:Nat} {b:Option (TB K)} {v:Bool} (hc:c=1∨c=2) (h:okr ts s c→(tln b=none∧v=false)∨(tln b=tln (ts.tb s c)∧v=χ s c)):Mono ts (ts.setb s c b) χ (updχ χ s c v):=by
 refine ⟨fun id u q=>by rw[ybc];exact q,fun s' c' q=>yfM ts s c b hc q,fun s' c' q=> ?_⟩
 rw[ybi ts s c b hc]
 unfold updχ
 by_cases e:s'=s/\c'=c
 ·obtain ⟨rfl,rfl⟩:=e
  simpa using h q
 ·rw[if_neg e,if_neg e];exact .inr ⟨rfl,rfl⟩
theorem GM.setb {s c:Nat} {b:Option (TB K)} {kb:Option KB} (hγ:GM P C R ts χ ds) (hc:c=1∨c=2) (hm:Mono ts (ts.setb s c b) χ (updχ χ s c false)) (hb:∀b',b=some b'→∃k',kb=some k'∧MR P C ts χ b' k') (hl:∀b',b=some b'→c=1→2000000≤s→R.L s=false):GM P C R (ts.setb s c b) (updχ χ s c false) (ds.set s c kb):=by
 refine ⟨fun t=> ?_,fun s' c' b' h1 h2=> ?_,fun s' c' h1=> ?_,fun s' h1=> ?_,by rw[ykG,yq4,ygU];exact hγ.hp,fun s' b9 q9 e9=> ?_⟩
 rotate_right
 ·rw[ybi ts s c _ hc] at e9
  unfold updχ
  by_cases e:s'=s/\1=c
  ·rw[if_pos e] at e9⊢;obtain ⟨rfl,e2⟩:=e;exact hl b9 e9 e2.symm q9
  ·rw[if_neg e] at e9⊢;exact hγ.lv s' b9 q9 e9
 ·rw[yhd,yh4];exact (hγ.fr t).mono hm
 ·rw[ybi ts s c b hc] at h1
  rw[yh9 ds s c kb hc]
  unfold updχ at h2
  by_cases e:s'=s/\c'=c
  ·rw[if_pos e] at h1⊢
   obtain ⟨k',q1,q2⟩:=hb b' h1
   exact ⟨k',q1,q2.mono hm⟩
  ·rw[if_neg e] at h1 h2⊢
   obtain ⟨k',q1,q2⟩:=hγ.mb s' c' b' h1 h2
   exact ⟨k',q1,q2.mono hm⟩
 ·unfold updχ at h1
  rw[ybi ts s c b hc]
  by_cases e:s'=s/\c'=c
  ·rw[if_pos e] at h1;cases h1
  ·rw[if_neg e] at h1⊢;exact hγ.vi s' c' h1
 ·rcases hc with rfl|rfl
  ·exact hγ.nw s' h1
  ·have h1':(Nat.beq s s'||memB ts.nw s')=false:=h1
   simp only[Bool.or_eq_false_iff] at h1'
   show (Nat.beq s s'||memO ds.nw s')=false
   rw[h1'.1,hγ.nw s' h1'.2];rfl
theorem GM.setv {s e:Nat} (hγ:GM P C R ts χ ds) (hn:memB ts.nw s=false):GM P C R (ts.setb s 2 (some (.row e []))) (updχ χ s 2 true) ds:=by
 have hm:Mono ts (ts.setb s 2 (some (.row e []))) χ (updχ χ s 2 true):=Mono.setb (.inr rfl) (fun q=>by
  rcases q with q|⟨_,q⟩
  ·cases q
  ·rw[hn] at q;cases q)
 refine ⟨fun t=> ?_,fun s' c' b' h1 h2=> ?_,fun s' c' h1=> ?_,fun s' h1=> ?_,by rw[ykG];exact hγ.hp,fun s' b9 q9 e9=> ?_⟩
 rotate_right
 ·rw[ybi ts s 2 _ (.inr rfl)] at e9
  unfold updχ
  by_cases e:s'=s/\1=2
  ·cases e.2
  ·rw[if_neg e] at e9⊢;exact hγ.lv s' b9 q9 e9
 ·rw[yhd];exact (hγ.fr t).mono hm
 ·rw[ybi ts s 2 _ (.inr rfl)] at h1
  unfold updχ at h2
  by_cases e:s'=s/\c'=2
  ·rw[if_pos e] at h2;cases h2
  ·rw[if_neg e] at h1 h2
   obtain ⟨k',q1,q2⟩:=hγ.mb s' c' b' h1 h2
   exact ⟨k',q1,q2.mono hm⟩
 ·unfold updχ at h1
  rw[ybi ts s 2 _ (.inr rfl)]
  by_cases e:s'=s/\c'=2
  ·rw[if_pos e];exact ⟨_,rfl⟩
  ·rw[if_neg e] at h1⊢;exact hγ.vi s' c' h1
 ·have h1':(Nat.beq s s'||memB ts.nw s')=false:=h1
  simp only[Bool.or_eq_false_iff] at h1'
  exact hγ.nw s' h1'.2
theorem tb_c {s c:Nat} {b:TB K} (h:ts.tb s c=some b):c=1∨c=2:=by
 unfold TS.tb at h
 split at h
 ·rename_i e;exact .inl (nbeq.1 e)
 ·split at h
  ·rename_i e;exact .inr (nbeq.1 e)
  ·cases h
theorem ydH:∀ {l:List (Nat×Option (TB K))} {s:Nat} {b:TB K},lkB l s=some b→memB l s=true
 | [],_,_,h=>by cases h
 | p::r,s,b,h=>by
   rw[yat] at h
   show (Nat.beq p.1 s||memB r s)=true
   split at h
   ·rename_i e;rw[nbeq.2 e];rfl
   ·rw[ydH h,Bool.or_true]
theorem yrS {s c:Nat} {b:TB K} (h:ts.tb s c=some b):okr ts s c:=by
 rcases tb_c h with rfl|rfl
 ·exact .inl rfl
 ·exact .inr ⟨rfl,ydH h⟩
theorem ygP {cs vs:List (TV K)} {cs' vs':List AV} {off sz:Nat} (h:TL P C ts χ cs cs') (k:TL P C ts χ vs vs') (hs:vs.length=sz):TL P C ts χ (yeE cs off vs) (cs'.take off++vs'++cs'.drop (off+sz)):=by
 unfold yeE
 rw[hs]
 exact ((h.take off).app k).app (h.drop _)
theorem ylU {sz:Nat} {x y:AOpd} {d:Option Nat} {s c off:Nat} {b:KB} (hk:DOk ds) (h1:ev (lkF ds.fr) x= .pt (.l s c) off) (h2:ds.kb s c=some b) (hz:b.sz≠0) (h3:(ev (lkF ds.fr) y).cells.length=sz) (h4:(ev (lkF ds.fr) y).cells.all AV.one=true) (h5:off+sz≤b.cells.length):
  Eff (.sto sz x y) d ds ⟨.un,[((s,c),some ⟨b.e,b.sz,b.cells.take off++(ev (lkF ds.fr) y).cells++b.cells.drop (off+sz)⟩)],[],none⟩ ((ds.set s c (some ⟨b.e,b.sz,b.cells.take off++(ev (lkF ds.fr) y).cells++b.cells.drop (off+sz),false⟩)).put d .un):=by
 refine yi0 (C:= []) ?_ trivial hk
 simp only[kx,h1,h2]
 rw[if_pos ⟨hz,h3,h4,h5⟩]
theorem ypV (hC:CxOk P C) (hγ:GM P C R ts χ ds) (hk:DOk ds) {o:AO} {sz:Nat} {x y:AOpd} {X:TS K→Prop} (ho:o.op= .sto sz x y) (h:tsto C sz ts (tcl (tea ts.fr y)) (fun t=>X (t.put o.dst .un)) (tev ts.fr x)):SR P C R o ts ds X:=by
 have hx:=hγ.tev x
 unfold tsto at h
 split at h
 ·rename_i s c off e
  rw[e] at hx
  split at h
  ·rename_i e' cs hb
   split at h
   ·rename_i hc
    simp only[Bool.and_eq_true] at hc
    obtain ⟨⟨c1,c2⟩,c3⟩:=hc
    have c1:=nbeq.1 c1
    obtain ⟨t1,t2⟩:=(hγ.tea y).tcl c2
    have hχ:=hγ.box hb
    obtain ⟨kb,k1,k2,k3,k4,k5⟩:=hγ.mb s c _ hb hχ
    have hE:=ylU (sz:=sz) (d:=o.dst) hk hx.pxi k1 ((show MR P C ts χ (.box e' cs) kb from ⟨k2,k3,k4,k5⟩).nz (hk s c kb k1).1 (by intro _ _ _ q;cases q)) (by rw[t1.1,c1]) t2 (by rw[k4];exact Nat.le_of_ble_eq_true c3)
    have hm:Mono ts (ts.setb s c (some (.box e' (yeE cs off (tcl (tea ts.fr y)))))) χ (updχ χ s c false):=Mono.setb (tb_c hb) (fun _=> .inl ⟨rfl,rfl⟩)
    have hsp:=ygP (off:=off) (show TL P C ts χ cs kb.cells from ⟨k4,k5⟩) t1 c1
    have hlen:(yeE cs off (tcl (tea ts.fr y))).length=cs.length:=by
     have:=Nat.le_of_ble_eq_true c3
     unfold yeE
     simp only[List.length_append,List.length_take,List.length_drop,c1];omega
    refine ⟨_,_,_,_,by rw[ho];exact hE,fun p hp=> ?_,rfl,(hγ.setb (tb_c hb) hm (fun b' hb'=>⟨_,rfl,?_⟩) fun _ _ e9 q9=>by subst e9;exact (hγ.lv _ _ q9 hb).trans hχ).put (.un _),h,by rw[yaW,ybc]⟩
    ·simp only[List.mem_singleton] at hp;subst hp;simp only[twk',ho,e,trf,List.mem_singleton]
    ·cases hb'
     exact ⟨k2,by rw[hlen];exact k3,hsp.1,hsp.2⟩
   ·exact h.elim
  ·exact h.elim
 ·rename_i e' s c i of e
  rw[e] at hx
  split at h
  ·rename_i hc
   simp only[Bool.and_eq_true] at hc
   obtain ⟨⟨c1,c2⟩,c4⟩:=hc
   have c1:=nbeq.1 c1
   have c4:=Nat.le_of_ble_eq_true c4
   obtain ⟨t1,t2⟩:=(hγ.tea y).tcl c2
   obtain ⟨l,hl,y0,hy,hw⟩:=ybm h
   obtain ⟨y',hy',hX⟩:=ybm hw
   obtain ⟨hχ,hev⟩:=hx.pri
   obtain ⟨hln,_,hkb⟩:=hγ.trow hC hl
   obtain ⟨kb,k1,k2,k3,k4⟩:=hkb hχ
   have hil:i<l.length:=(List.getElem?_eq_some_iff.1 hy).1
   have hclen:kb.cells.length=l.length*(C.E e').sz:=by rw[<-yaL kb.cells,k4,ydp]
   have hoff:i*(C.E e').sz+of+sz≤kb.cells.length:=by
    rw[hclen]
    have:(i+1)*(C.E e').sz<=l.length*(C.E e').sz:=Nat.mul_le_mul_right _ hil
    rw[Nat.add_mul] at this
    omega
   have hE:=ylU (sz:=sz) (d:=o.dst) hk hev k1 ((show MR P C ts χ (.row e' l) kb from ⟨k2,k3,k4⟩).nz (hk s c kb k1).1 (by intro _ _ _ q;cases q)) (by rw[t1.1,c1]) t2 hoff
   have hbt:∃b0,ts.tb s c=some b0:=by
    cases hq:ts.tb s c with
    |none=>rw[hq] at hln;cases hln
    |some b0=>exact ⟨b0,rfl⟩
   obtain ⟨b0,hb0⟩:=hbt
   have hm:Mono ts (ts.setb s c (some (.row e' (l.set i y')))) χ (updχ χ s c false):=Mono.setb (tb_c hb0) (fun _=> .inr ⟨by rw[hln];simp[tln],hχ.symm⟩)
   have hcells:dwks (kb.cells.take (i*(C.E e').sz+of)++(ev (lkF ds.fr) y).cells++kb.cells.drop (i*(C.E e').sz+of+sz))=cl (C.E e') (l.set i y'):=by
    have tt:=ygP (off:=of) (ye5 (P:=P) (ts:=ts) (χ:=χ) hC k4 hy) t1 c1
    have hd:=hC.rd e' _ y' ts χ _ hy' (by rw[tt.mapS.1]) tt.mapS.2
    rw[ybC,ybC,ycZ,ydN] at hd
    rw[ybC,ybC,ycZ,ydN,k4]
    have hch:dwks ((kb.cells.drop (i*(C.E e').sz)).take (C.E e').sz)=(C.E e').c y0:=by
     rw[ycZ,ydN,k4]
     have:=ys0 (C.E e') hy 0 (C.E e').sz (by omega)
     rw[Nat.add_zero] at this
     rw[this,List.drop_zero,List.take_of_length_le (by rw[(C.E e').len];exact Nat.le_refl _)]
    rw[hch] at hd
    refine yr3 (C.E e') hy of sz c4 ?_
    exact hd
   refine ⟨_,_,_,_,by rw[ho];exact hE,fun p hp=> ?_,rfl,(hγ.setb (tb_c hb0) hm (fun b' hb'=>⟨_,rfl,?_⟩) fun _ _ e9 q9=>by subst e9;exact (hγ.lv _ _ q9 hb0).trans hχ).put (.un _),hX,by rw[yaW,ybc]⟩
   ·simp only[List.mem_singleton] at hp;subst hp;simp only[twk',ho,e,trf,List.mem_singleton]
   ·cases hb'
    exact ⟨k2,k3,hcells⟩
  ·exact h.elim
 ·exact h.elim
end
end Go.AV
end
noncomputable section
namespace Go.AV
open Go.RowKit Go.RG Go.Lib
variable {K:Nat->Type}
section
variable {P:Program} {C:Cx K} {R:RR K} {ts ts':TS K} {χ χ':Nat->Nat->Bool} {ds:DS}
theorem ybB {d:Nat} {p:Prop} (h:ydG ts d p):memB ts.nw d=false∧p:=by
 unfold ydG at h
 split at h
 ·exact h.elim
 ·rename_i e;exact ⟨e,h⟩
theorem yhK {s:Nat} (h:memB ts.nw s=false):¬okr ts s 2:=by
 rintro (q|⟨_,q⟩)
 ·cases q
 ·rw[h] at q;cases q
theorem Mono.new {s:Nat} {b:Option (TB K)} {v:Bool} (h:memB ts.nw s=false):Mono ts (ts.setb s 2 b) χ (updχ χ s 2 v):=Mono.setb (.inr rfl) (fun q=>(yhK h q).elim)
theorem yhn (ts:TS K) (s:Nat) (b:Option (TB K)):okr (ts.setb s 2 b) s 2:= .inr ⟨rfl,by show (Nat.beq s s||memB ts.nw s)=true;rw[nbeq.2 rfl];rfl⟩
theorem yky {o:AO} {X:TS K→Prop} {b:TB K} {kb:KB} {w:Nat→TV K} {v:AV} {e:REff} (hγ:GM P C R ts χ ds) (hn:memB ts.nw (site o.dst)=false) (hE:Eff o.op o.dst ds e ((ds.set (site o.dst) 2 (some kb)).put o.dst v))
  (he:∀p∈e.mem,p.1∈twk' ts o) (hH:e.H=none) (hM:MR P C ts χ b kb) (hv:okr (ts.setb (site o.dst) 2 (some b)) (site o.dst) 2->TR P C (ts.setb (site o.dst) 2 (some b)) (updχ χ (site o.dst) 2 false) (w (site o.dst)) v) (hX:X (tnew ts o.dst b w)):SR P C R o ts ds X:=by
 have hg:=hγ.setb (s:=site o.dst) (c:=2) (b:=some b) (kb:=some kb) (.inr rfl) (Mono.new hn) (fun b' hb'=>⟨kb,rfl,by cases hb';exact hM⟩) (fun _ _ e9 _=>by cases e9)
 exact ⟨e,_,_,_,hE,he,hH,hg.put (hv (yhn _ _ _)),hX,by rw[yaW,ybc]⟩
theorem ydE (χ:Nat->Nat->Bool) (s c:Nat) (v:Bool):updχ χ s c v s c=v:=by simp[updχ]
theorem ygR (ts:TS K) (s:Nat) (b:Option (TB K)):(ts.setb s 2 b).tb s 2=b:=by rw[ybi ts s 2 b (.inr rfl)];simp
theorem yqN (hγ:GM P C R ts χ ds) (hk:DOk ds) {F:Cf K} {o:AO} {e sz:Nat} {x:AOpd} {X:TS K→Prop} {dr:Bool} (ho:o.op= .box e sz x) (h:step F dr o ts X):SR P C R o ts ds X:=by
 unfold step at h
 rw[ho] at h
 simp only at h
 split at h
 ·rename_i hc
  simp only[Bool.and_eq_true] at hc
  obtain ⟨⟨c1,c2⟩,c3⟩:=hc
  obtain ⟨hn,hX⟩:=ybB h
  obtain ⟨t1,t2⟩:=(hγ.tea x).tcl c2
  have c1:=nbeq.1 c1
  have hE:Eff o.op o.dst ds ⟨.pt (.l (site o.dst) 2) 0,[((site o.dst,2),some ⟨e,sz,(ev (lkF ds.fr) x).cells⟩)],[site o.dst],none⟩ ((ds.set (site o.dst) 2 (some ⟨e,sz,(ev (lkF ds.fr) x).cells,false⟩)).put o.dst (.pt (.l (site o.dst) 2) 0)):=by
   rw[ho]
   refine yi0 (C:= []) ?_ trivial hk
   simp only[kx,hγ.nw _ hn]
   rw[if_pos ⟨by rw[t1.1,c1],t2,Nat.le_of_ble_eq_true c3⟩]
  refine yky (b:= .box e (Go.AV.tcl (Go.AV.tea ts.fr x))) (w:=fun s=> .px s 2 0) hγ hn hE (fun p hp=> ?_) rfl ⟨rfl,c1.symm,t1.1,t1.2⟩ (fun q=> .px _ _ _ q) hX
  simp only[List.mem_singleton] at hp;subst hp;simp[twk',ho]
 ·exact h.elim
theorem ygo:∀(l:List (Nat×Nat×TV K)) (cells cs:List (TV K)),yiT cells l=some cs→cs.length=cells.length
 | [],cells,cs,h=>by cases h;rfl
 | (off,sz,v)::l,cells,cs,h=>by
   simp only[yiT] at h
   split at h
   ·rename_i hc
    simp only[Bool.and_eq_true] at hc
    have c1:=nbeq.1 hc.1.1
    have c2:=Nat.le_of_ble_eq_true hc.1.2
    rw[ygo l _ cs h]
    simp only[List.length_append,List.length_take,List.length_drop,c1];omega
   ·cases h
theorem TL.rep {us:List (TV K)} {vs:List AV} (h:TL P C ts χ us vs):∀n,TL P C ts χ (List.replicate n us).flatten (List.replicate n vs).flatten
 |0=> .nil
 |n+1=>by rw[List.replicate_succ,List.replicate_succ,List.flatten_cons,List.flatten_cons];exact h.app (TL.rep h n)
theorem yi2 {α:Type} (z:List α):∀n,(List.replicate n z).flatten.length=n*z.length
 |0=>by simp
 |n+1=>by rw[List.replicate_succ,List.flatten_cons,List.length_append,yi2 z n,Nat.add_mul];omega
theorem TL.twk {us:List (TV K)} {vs:List AV} (h:TL P C ts χ us vs):TL P C ts χ (us.map Go.AV.twk) (vs.map weak):=by
 refine ⟨by simp[h.1],fun j u v h1 h2=> ?_⟩
 rw[List.getElem?_map] at h1 h2
 obtain ⟨u',e1,rfl⟩:=Option.map_eq_some_iff.1 h1
 obtain ⟨v',e2,rfl⟩:=Option.map_eq_some_iff.1 h2
 exact (h.2 j u' v' e1 e2).twk
theorem yqS (hγ:GM P C R ts χ ds) (hk:DOk ds) {F:Cf K} (hF:F.C=C) {o:AO} {e sz n:Nat} {z:List AV} {parts:List (Nat×Nat×AOpd)} {X:TS K→Prop} {dr:Bool} (ho:o.op= .bsl e sz n z parts) (h:step F dr o ts X):SR P C R o ts ds X:=by
 unfold step at h
 rw[ho,hF] at h
 simp only at h
 split at h
 ·rename_i hc
  simp only[Bool.and_eq_true] at hc
  obtain ⟨⟨c1,c2⟩,c3⟩:=hc
  have c1:=nbeq.1 c1
  have c2:=nbeq.1 c2
  have c3:=Nat.le_of_ble_eq_true c3
  obtain ⟨hn,h⟩:=ybB h
  obtain ⟨cs,hcs,hX⟩:=ybm h
  obtain ⟨cs',e2,t⟩:=yfY (P:=P) (C:=C) (ts:=ts) (χ:=χ) _ (parts.map fun p=>(p.1,p.2.1,ev (lkF ds.fr) p.2.2)) _ (yaG z n) _ (TL.rep (TL.cvAs z) n) (by simp) (fun j p q a b=>by
   rw[List.getElem?_map] at a b
   cases hp:parts[j]? with
   |none=>rw[hp] at a;cases a
   |some r=>rw[hp] at a b;cases a;cases b;exact ⟨rfl,rfl,hγ.tea _⟩) hcs
  have hz:0<sz:=by rw[<-c2];exact (C.E e).pos
  have hE:Eff o.op o.dst ds ⟨.gs (.l (site o.dst) 2) n,[((site o.dst,2),some ⟨e,sz,cs'.map weak⟩)],[site o.dst],none⟩ ((ds.set (site o.dst) 2 (some ⟨e,sz,cs'.map weak,false⟩)).put o.dst (.gs (.l (site o.dst) 2) n)):=by
   rw[ho]
   refine yi0 (C:= []) ?_ trivial hk
   simp only[kx,hγ.nw _ hn,e2]
   rw[if_pos ⟨c1,hz,c3⟩]
  have hcl:cs.length=n*sz:=by rw[ygo _ _ _ hcs,yi2];rw[<-(TL.cvAs (P:=P) (C:=C) (ts:=ts) (χ:=χ) z).1,c1]
  refine yky (b:= .lrow e n (cs.map Go.AV.twk)) (w:=trw) hγ hn hE (fun p hp=> ?_) rfl ⟨rfl,c2.symm,(TL.twk t).1,by simp[hcl,c2],(TL.twk t).2⟩ (fun q=> .rw _ _ n q (by rw[ygR];rfl) (ydE _ _ _ _)) hX
  simp only[List.mem_singleton] at hp;subst hp;simp[twk',ho]
 ·exact h.elim
theorem ysL {x y:AOpd} {k k':IntKind} {n m:Int} (h:eqO x y=true) (hx:ev (lkF ds.fr) x= .it k n) (hy:ev (lkF ds.fr) y= .it k' m):n=m:=by
 unfold eqO at h
 split at h
 ·have:=nbeq.1 h;subst this;rw[hx] at hy;cases hy;rfl
 ·have:=of_decide_eq_true h
  simp only[ev] at hx hy
  cases hx;cases hy;exact this
 ·cases h
theorem ymf {T:Type} (E:Enc T) (v:T):∀n,cl E (List.replicate n v)=(List.replicate n (E.c v)).flatten
 |0=>rfl
 |n+1=>by rw[List.replicate_succ,List.replicate_succ,List.flatten_cons,<-ymf E v n];simp[cl]
theorem yhp (z:List AV):∀n,dwks (List.replicate n z).flatten=(List.replicate n (dwks z)).flatten
 |0=>rfl
 |n+1=>by rw[List.replicate_succ,List.replicate_succ,List.flatten_cons,List.flatten_cons,ybC,yhp z n]
theorem yrb (hC:CxOk P C) (hγ:GM P C R ts χ ds) (hk:DOk ds) {F:Cf K} (hF:F.C=C) {o:AO} {e sz bytes:Nat} {z:List AV} {x y:AOpd} {X:TS K→Prop} {dr:Bool} (ho:o.op= .mks e sz bytes z x y) (h:step F dr o ts X):SR P C R o ts ds X:=by
 unfold step at h
 rw[ho,hF] at h
 simp only at h
 split at h
 ·rename_i k q k' q' v e1 e2 e3
  split at h
  ·rename_i hc
   simp only[Bool.and_eq_true] at hc
   obtain ⟨⟨c1,c2⟩,c3⟩:=hc
   have c1:=nbeq.1 c1
   have c2:=nbeq.1 c2
   obtain ⟨hn,h0,h1,h2,hX⟩:=ybB h
   have hx:=(hγ.tev x).int e1
   have hy:=(hγ.tev y).int e2
   have hqq:=ysL c3 hx hy
   have hz:0<sz:=by rw[<-c2];exact (C.E e).pos
   have hE:Eff o.op o.dst ds ⟨.gs (.l (site o.dst) 2) q.toNat,[((site o.dst,2),some ⟨e,sz,yaG z q.toNat⟩)],[site o.dst],none⟩ ((ds.set (site o.dst) 2 (some ⟨e,sz,yaG z q.toNat,false⟩)).put o.dst (.gs (.l (site o.dst) 2) q.toNat)):=by
    rw[ho]
    refine ⟨?_,ygF (b:=⟨e,sz,yaG z q.toNat,false⟩) (hγ.nw _ hn),DOk.put (hk.set (.inr rfl) fun x hx=>by cases hx;exact ⟨.inl (Nat.pos_iff_ne_zero.1 hz),fun q=>by cases q⟩)⟩
    simp only[effA]
    rw[ybk,hx,hy]
    simp only
    rw[if_pos ⟨hqq,h0,c1,hz,h1,h2⟩,yd9 (hγ.nw _ hn)]
    rfl
   have hcells:dwks (yaG z q.toNat)=cl (C.E e) (List.replicate q.toNat v):=by
    have t:=(TL.cvAs (P:=P) (C:=C) (ts:=ts) (χ:=χ) z).mapS
    have:=hC.rd e _ v ts χ z e3 t.1 t.2
    unfold yaG
    rw[yhp,this,ymf]
   refine yky (b:= .row e (List.replicate q.toNat v)) (w:=trw) hγ hn hE (fun p hp=> ?_) rfl ⟨rfl,c2.symm,hcells⟩ (fun q=> .rw _ _ _ q (by rw[ygR];simp[tln]) (ydE _ _ _ _)) hX
   simp only[List.mem_singleton] at hp;subst hp;simp[twk',ho]
  ·exact h.elim
 ·exact h.elim
theorem yq5 (hC:CxOk P C) (hγ:GM P C R ts χ ds) (hk:DOk ds) {F:Cf K} (hF:F.C=C) {o:AO} {e sz bytes:Nat} {z:List AV} {x y:AOpd} {X:TS K→Prop} {dr:Bool} (ho:o.op= .apz e sz bytes z x y) (h:step F dr o ts X):SR P C R o ts ds X:=by
 unfold step at h
 rw[ho,hF] at h
 simp only at h
 split at h
 ·rename_i q v e1 e2 e3
  split at h
  ·rename_i hc
   simp only[Bool.and_eq_true] at hc
   obtain ⟨c1,c2⟩:=hc
   have c1:=nbeq.1 c1
   have c2:=nbeq.1 c2
   obtain ⟨hn,h0,h1,h2,hX⟩:=ybB h
   have hx:=hγ.tev x
   rw[e1] at hx
   have hy:=(hγ.tev y).int e2
   have hz:0<sz:=by rw[<-c2];exact (C.E e).pos
   have hE:Eff o.op o.dst ds ⟨.gs (.l (site o.dst) 2) q.toNat,[((site o.dst,2),some ⟨e,sz,yaG z q.toNat⟩)],[site o.dst],none⟩ ((ds.set (site o.dst) 2 (some ⟨e,sz,yaG z q.toNat,false⟩)).put o.dst (.gs (.l (site o.dst) 2) q.toNat)):=by
    rw[ho]
    refine ⟨?_,ygF (b:=⟨e,sz,yaG z q.toNat,false⟩) (hγ.nw _ hn),DOk.put (hk.set (.inr rfl) fun x hx=>by cases hx;exact ⟨.inl (Nat.pos_iff_ne_zero.1 hz),fun q=>by cases q⟩)⟩
    simp only[effA]
    have hv:ev (lkF ds.fr) x= .sl true 0 []:=by generalize ev (lkF ds.fr) x=v at hx;cases hx;rfl
    rw[ybk,hy,hv]
    simp only
    rw[if_pos ⟨h0,c1,hz,h1,h2⟩,yd9 (hγ.nw _ hn)]
    rfl
   have hcells:dwks (yaG z q.toNat)=cl (C.E e) (List.replicate q.toNat v):=by
    have t:=(TL.cvAs (P:=P) (C:=C) (ts:=ts) (χ:=χ) z).mapS
    have:=hC.rd e _ v ts χ z e3 t.1 t.2
    unfold yaG
    rw[yhp,this,ymf]
   refine yky (b:= .row e (List.replicate q.toNat v)) (w:=trw) hγ hn hE (fun p hp=> ?_) rfl ⟨rfl,c2.symm,hcells⟩ (fun q=> .rw _ _ _ q (by rw[ygR];simp[tln]) (ydE _ _ _ _)) hX
   simp only[List.mem_singleton] at hp;subst hp;simp[twk',ho]
  ·exact h.elim
 ·exact h.elim
theorem yij {s c n:Nat} (h:tln (ts.tb s c)=some n):okr ts s c:=by
 cases hq:ts.tb s c with
 |none=>rw[hq] at h;cases h
 |some b0=>exact yrS hq
theorem yqb (hC:CxOk P C) (hγ:GM P C R ts χ ds) (hk:DOk ds) {F:Cf K} (hF:F.C=C) {o:AO} {sz:Nat} {x i:AOpd} {X:TS K→Prop} {dr:Bool} (ho:o.op= .iad sz x i) (h:step F dr o ts X):SR P C R o ts ds X:=by
 unfold step at h
 rw[ho,hF] at h
 simp only at h
 split at h
 ·rename_i k q e1
  have hi:=(hγ.tev i).int e1
  have hx:=hγ.tev x
  unfold tiad at h
  split at h
  ·rename_i e l ex
   split at h
   ·rename_i hz
    have hz:=nbeq.1 hz
    obtain ⟨h0,h1,hX⟩:=h
    rw[ex] at hx
    obtain ⟨z,xs,hxs,hv⟩:=hx.sli
    refine yds hγ (TR.ep e l q.toNat 0 xs hxs) ?_ hX
    rw[ho]
    refine yi0 (C:= [0<=q/\q<(l.length:Int)]) ?_ ⟨⟨h0,h1⟩,trivial⟩ hk
    simp only[kx,kpv,hv,hi,hz,Nat.add_zero]
   ·exact h.elim
  ·rename_i s c ex
   split at h
   ·rename_i hz
    have hz:=nbeq.1 hz
    obtain ⟨l,hl,h0,h1,hX⟩:=ybm h
    rw[ex] at hx
    obtain ⟨g1,g2,g3⟩:=hγ.trow hC hl
    rcases hx.rwi g1 with ⟨hχ,hv⟩|⟨hχ,hn,_⟩
    ·have hro:okr ts s c:=yij g1
     refine yds hγ (TR.pr _ s c q.toNat 0 hro hχ) ?_ hX
     rw[ho]
     refine yi0 (C:= [0<=q/\q<(l.length:Int)]) ?_ ⟨⟨h0,h1⟩,trivial⟩ hk
     obtain ⟨kb,k1,_⟩:=g3 hχ
     have hlv:yav (toD ds) (.l s c)=true:=by show ((ds.kb s c).map KB.blk).isSome=true;rw[k1];rfl
     simp only[kx,kpv,hv,hi,hlv,hz,Nat.add_zero]
    ·rw[hn] at h1;exact absurd h1 (by omega)
   ·exact h.elim
  ·exact h.elim
 ·exact h.elim
theorem yfr {u:AOp} {d:Option Nat} {D:List Prop} {v:AV} (hk:DOk ds) (hm:ys6 u=false) (h:kpv (yav (toD ds)) ds.fr u=some (D,v)) (hD:AllP D):Eff u d ds (eff1 v) (ds.put d v):=by
 refine yi0 (C:=D) ?_ hD hk
 unfold kx
 split<;>first|(cases hm;done)|(rw[h])
theorem yrq (hγ:GM P C R ts χ ds) (hk:DOk ds) {o:AO} {x:AOpd} {X:TS K→Prop} (ho:o.op= .len x) (h:tlen C true ts (fun v=>X (ts.put o.dst v)) (tev ts.fr x)):SR P C R o ts ds X:=by
 have hx:=hγ.tev x
 have fin:∀ {u:TV K} {v:AV},TR P C ts χ u v→pval (yav (toD ds)) (ev (lkF ds.fr)) (.len x)=some v→X (ts.put o.dst u)→SR P C R o ts ds X:=by
  intro u v hv hp hX
  refine yds hγ hv ?_ hX
  rw[ho]
  exact yfr hk rfl (show kok (pval (yav (toD ds)) (ev (lkF ds.fr)) (.len x))=some ([],v) by rw[hp];rfl) trivial
 unfold tlen at h
 split at h
 ·rename_i e l ex
  rw[ex] at hx
  obtain ⟨z,xs,hxs,hv⟩:=hx.sli
  exact fin (.it .i64 _) (by simp only[pval,hv]) h
 ·rename_i ex
  rw[ex] at hx
  have:ev (lkF ds.fr) x= .sl true 0 []:=by
   revert hx;generalize ev (lkF ds.fr) x=w;intro hx;cases hx;rfl
  exact fin (.li .i64 0) (by simp only[pval,this];rfl) h
 ·rename_i ex
  rw[ex] at hx
  have:∃z,ev (lkF ds.fr) x= .sl z 0 []:=by
   revert hx;generalize ev (lkF ds.fr) x=w;intro hx;cases hx;exact ⟨_,rfl⟩
  obtain ⟨z,this⟩:=this
  exact fin (.li .i64 0) (by simp only[pval,this];rfl) h
 ·rename_i s c ex
  rw[ex] at hx
  have go:∀ {n:Nat} {b:TB K} {u:TV K},ts.tb s c=some b→tln (some b)=some n→TR P C ts χ u (.it .i64 (n:Int))→X (ts.put o.dst u)→SR P C R o ts ds X:=by
   intro n b u hb hn hu hX
   rcases hx.rwi (n:=n) (by rw[hb];exact hn) with ⟨hχ,hv⟩|⟨hχ,h0,hv⟩
   ·exact fin hu (by simp only[pval,hv,hγ.live hb hχ,if_true]) hX
   ·subst h0;exact fin hu (by simp only[pval,hv]) hX
  split at h
  ·rename_i e l hb;exact go hb rfl (.it _ _) h
  ·rename_i e n cs hb;exact go hb rfl (.li _ _) h
  ·exact h.elim
 ·exact h.elim
end
end Go.AV
end
