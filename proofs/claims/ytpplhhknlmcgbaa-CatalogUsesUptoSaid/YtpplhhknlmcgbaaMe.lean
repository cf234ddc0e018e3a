/- General texts and own ones, joined: what the program computes, told of abstract states, and the laws of plain data. No condition. -/
import Derived.Test.YtpplhhknlmcgbaaMd
import Derived.Test.YtpplhhknlmcgbaaMa
import Derived.Shelf.SlIter.Nil
import Derived.Shelf.SlIterI.Nil
import Derived.Shelf.SortM.Plain
import Derived.Shelf.SortM.SortNone
import Derived.Ground.GgzProg
import Derived.Ground.SlgmProg
import Derived.Test.YtpplhhknlmcgbaaProg
import Derived.Maps.Views
import Derived.Sort.KeysCollected
import Derived.Sort.Walk0
import Derived.Test.YtpplhhknlmcgbaaRows
import Derived.Maps.OwnSet
import Derived.WalkKit
import Derived.StringKeys
import Derived.Lib.SliceRun
import Derived.Deep.RegionHeld3
import Derived.Deep.DrawnRows
import Derived.Maps.RangeWalk
import Derived.Maps.Ext
import Derived.Maps.AppendAt
import Derived.Test.YtpplhhknlmcgbaaMc
noncomputable section
namespace Go.AV
open Go.RowKit Go.RG Go.Lib
variable {K:Nat->Type}
def SLOk (P:Program) (C:Cx K) (L:List (Sl K)):Prop:=∀sp∈L,SlOk P C sp
theorem yhf {C:Cx K} {ts:TS K} {f:Nat} {vs:List (TV K)} {sp:Sl K} {env:List (DV K)} {m:RM}:∀ {L:List (Sl K)},yhQ C ts f vs L=some (sp,env,m)→sp∈L∧sp.f=f∧vs.length=npL sp∧rdM C sp.ti ⟨zipT vs 0,ts.od,ts.nw,ts.rg,ts.h⟩=some (env,m)
 | [],h=>by cases h
 | q ::L,h=>by
   simp only[yhQ] at h
   split at h
   ·rename_i hb
    simp only[Bool.and_eq_true] at hb
    split at h
    ·rename_i env' m' hr
     simp only[Option.some.injEq,Prod.mk.injEq] at h
     obtain ⟨rfl,rfl,rfl⟩:=h
     exact ⟨List.mem_cons_self,nbeq.1 hb.1,nbeq.1 hb.2,hr⟩
    ·obtain ⟨a,b⟩:=yhf h
     exact ⟨List.mem_cons_of_mem _ a,b⟩
   ·obtain ⟨a,b⟩:=yhf h
    exact ⟨List.mem_cons_of_mem _ a,b⟩
theorem yfQ {C:Cx K} {ts:TS K} {f:Nat} {vs:List (TV K)} {L:List (Sl K)} {r:Sl K×List (DV K)×RM} (h:ygL C ts f vs L=some r):Nat.ble f 999999=true∧yhQ C ts f vs L=some r:=by
 unfold ygL at h
 split at h
 ·rename_i q;exact ⟨q,h⟩
 ·cases h
theorem ymL:∀ {cs:List CT} {p:List (DV K)→Prop},exC cs p→∃env,wt cs env=true∧p env
 | [],p,h=>⟨[],rfl,h⟩
 | c::cs,p,h=>by
   obtain ⟨x,h⟩:=h
   obtain ⟨env,hw,h⟩:=ymL h
   refine ⟨_,?_,h⟩
   cases c<;>simp only[inC,wt,Bool.true_and,hw,Bool.and_true]<;>exact nbeq.2 rfl
theorem yhb {ts0:TS K} {p:Prop}:∀ {l:List (Nat×Option (TB K))},lenL ts0 l p→(∀x∈l,2000000≤x.1→∃n,tln x.2=some n∧tln (ts0.tb x.1 1)=some n)∧p
 | [],h=>⟨fun x hx=>(by cases hx),h⟩
 | x ::r,h=>by
   simp only[lenL] at h
   split at h
   ·rename_i hb
    split at h
    ·rename_i n m e1 e2
     obtain ⟨rfl,h⟩:=h
     obtain ⟨a,b⟩:=yhb h
     refine ⟨fun y hy hb=> ?_,b⟩
     rcases List.mem_cons.1 hy with rfl|hy
     ·exact ⟨_,e1,e2⟩
     ·exact a y hy hb
    ·exact h.elim
   ·rename_i hb
    obtain ⟨a,b⟩:=yhb h
    refine ⟨fun y hy hb'=> ?_,b⟩
    rcases List.mem_cons.1 hy with rfl|hy
    ·rw[Nat.ble_eq_true_of_le hb'] at hb;cases hb
    ·exact a y hy hb'
theorem yii {ts:TS K} {d:Option Nat}:∀ {l:List Nat},yj3 ts d l=true→∀s∈l,1000000≤s∧s<1000064∧memB ts.nw (yab d s)=false∧yab d s<2000000
 | [],_,s,hs=>by cases hs
 | x::l,h,s,hs=>by
   simp only[yj3,Bool.and_eq_true,Bool.not_eq_true'] at h
   obtain ⟨⟨⟨⟨h1,h2⟩,h3⟩,h4⟩,h5⟩:=h
   rcases List.mem_cons.1 hs with rfl|hs
   ·exact ⟨Nat.le_of_ble_eq_true h1,Nat.le_of_ble_eq_true h2,h3,Nat.le_of_ble_eq_true h4⟩
   ·exact yii h5 s hs
theorem yjk {a b:List Nat} (h:subN (a.filter bigN) b=true):∀s∈a,2000000≤s→s∈b:=fun s hs hb=>
 yd7.1 (List.all_eq_true.1 h s (List.mem_filter.2 ⟨hs,Nat.ble_eq_true_of_le hb⟩))
section
variable {P:Program} {C:Cx K} {R:RR K} {ts:TS K} {χ:Nat->Nat->Bool} {ds:DS} {B:Base} [GB P B] {N:Nat} {ro:Option Nat}
structure CL (P:Program) (C:Cx K) (R:RR K) (ts:TS K) (χ:Nat→Nat→Bool) (ds:DS) (sp:Sl K) (d:Option Nat) (M:RM) (fs:List (FV K)) (env out:List (DV K)) (f:FuncId) (vs:List AV):Prop where
 hE:okS sp env=true
 wo:wt (ctT sp.te) out=true
 n1:((entL C sp fs env).od.map (·.1)).Nodup
 lend:ygh (innM (rhoM χ M) (entL C sp fs env).od) (toD ds).M
 con:∀H n,yap P f (vs.map (reA (finL (innM (rhoM χ M) (entL C sp fs env).od)))) (memL (innM (rhoM χ M) (entL C sp fs env).od) (toD ds).M) H n (EndL C sp (entL C sp fs env) (χ1 (xiM χ M)) out H n)
 h00:∀s,s∈(entL C sp fs env).od.map (·.1)↔s∈tiN sp
 ce:∀χ',TT C sp (endT C sp (entL C sp fs env) out)→ViOk (endT C sp (entL C sp fs env) out) χ'→(∀s b,2000000≤s→(endT C sp (entL C sp fs env) out).tb s 1=some b→χ' s 1=xiM χ M s)→
  CE P C R ts (entL C sp fs env) (endT C sp (entL C sp fs env) out) χ χ' ds sp d M (innM (rhoM χ M) (entL C sp fs env).od)
 xi:∀s,xiM χ M s=true->∃e,lkB (entL C sp fs env).od s=some (.row e [])
theorem yg1 (hC:CxOk P C) {Φ:List (Sp K)} (hS:SsOk P C Φ) {L:List (Sl K)} (hL:SLOk P C L) (hγ:GM P C R ts χ ds) (hk:DOk ds) {d:Option Nat} {f:FuncId} {us:List (TV K)} {vs:List AV} (ht:TL P C ts χ us vs) {sp:Sl K} {env:List (DV K)} {M:RM} {dr:Bool} {X:TS K→Prop}
  (hp:yhQ C ts f us L=some (sp,env,M)) (h:yek C Φ dr ts d sp env M us X):∃fs out,CL P C R ts χ ds sp d M fs env out f vs/\X (aftL sp d M (endT C sp (entL C sp fs env) out) ts)/\(dr=true->sp.te.rw= [])/\∀p∈sp.te.ks,okK (sp.to.bx.map (·.1)) (sp.to.rw.map (·.1)) p.2=true:=by
 obtain ⟨h1,rfl,h3,h4⟩:=yhf hp
 unfold yek at h
 split at h
 rotate_left
 ·exact h.elim
 rename_i fs hf hck
 simp only[Bool.and_eq_true] at hck
 obtain ⟨⟨hok,hfr⟩,hdr⟩:=hck
 obtain ⟨out,hwo,hW,hlen⟩:=ymL h
 obtain ⟨hlen,hX⟩:=yhb hlen
 have hE:okS sp env=true:=by unfold okS;rw[hok,yo4 h4];rfl
 obtain ⟨o1,o2,o3,o4,o5,o6⟩:=yj0 hE
 obtain ⟨i1,i2⟩:=yf9 (C:=C) (rg:= []) (hh:= []) o6
 have hnm:(entL C sp fs env).od.map (·.1)=tiN sp:=i1
 have n1:((entL C sp fs env).od.map (·.1)).Nodup:=by rw[hnm];exact o1.nd
 have h2:∀s∈(entL C sp fs env).od.map (·.1),2000000<=s:=fun s hs=>o3 s (by rw[hnm] at hs;exact hs)
 obtain ⟨b1,b2⟩:=yjB hC hS hγ hk (hL sp h1) ht h4 hf h3 n1 h2 hW
 have hm:Mono ts ⟨zipT us 0,ts.od,ts.nw,ts.rg,ts.h⟩ χ χ:=⟨fun _ _ q=>q,fun _ _ q=>q,fun _ _ _=> .inr ⟨rfl,rfl⟩⟩
 have hA:GM P C R ⟨zipT us 0,ts.od,ts.nw,ts.rg,ts.h⟩ χ {ds with fr:=entF vs 0}:=
  ⟨fun t=>(yge 0 t ht).mono hm,fun s c b hb hx=>by obtain ⟨kb,a,b⟩:=hγ.mb s c b hb hx;exact ⟨kb,a,b.mono hm⟩,hγ.vi,hγ.nw,hγ.hp,hγ.lv⟩
 have hM0:=yq6 hC o1 h4 hA
 have hM:MOk ts (entL C sp fs env) M sp.ti:=⟨hM0.nod,hM0.b,hM0.r,hM0.rk,hM0.bx,hM0.rw⟩
 obtain ⟨r1,r2,r3,r4,r5⟩:=ypG hC (rg:= []) (fun id w q=>by cases q) h4 [] hA
 have hok':=hok
 simp only[okN,Bool.and_eq_true] at hok'
 obtain ⟨⟨⟨⟨⟨⟨_,_⟩,_⟩,hb⟩,hr⟩,_⟩,_⟩:=hok'
 refine ⟨fs,out,⟨hE,hwo,n1,b1,b2,fun s=>by rw[hnm],fun χ' htt hvi hlv=> ?_,fun s hs=>(r3 s hs).2⟩,hX,fun q=> ?_,fun p hp=>o2.ks p hp⟩
 ·refine ⟨hC,hγ,hk,hM,o1,fun s hs=>by rw[hnm];exact hs,fun s k=>ycb,yhR r4 n1,fun s hs=>o3 s hs,yjk hb,yjk hr,yii hfr,htt,hvi,hlv,fun s k hs hk=> ?_⟩
  cases hq:(endT C sp (entL C sp fs env) out).tb s 1 with
  |none=>rw[hq] at hk;cases hk
  | some b=>
    have hmem:=yes (show lkB (endT C sp (entL C sp fs env) out).od s=some b from hq)
    rw[hq] at hk
    have hod:(endT C sp (entL C sp fs env) out).od=(bdB C [] sp.te.bx (bdS C [] sp.te.ks out).2).1++((entL C sp fs env).od.filter fun x=>yct sp.kp x.1&&isBx x.2)++endR C sp out++(entL C sp fs env).od.filter fun x=>yct sp.kp x.1&& !isBx x.2:=rfl
    rw[hod] at hmem
    simp only[List.mem_append] at hmem
    rcases hmem with ((hmem|hmem)|hmem)|hmem
    ·obtain ⟨_,e,ex⟩:=yjD (C:=C) (rg:= []) sp.te.bx (bdS C [] sp.te.ks out).2 _ hmem
     have e:some b=_:=e
     rw[<-e] at ex
     cases b<;>first|(cases hk;done)|(cases ex;done)
    ·have:=(List.mem_filter.1 hmem).2
     simp only[Bool.and_eq_true] at this
     cases b<;>first|(cases hk;done)|(cases this.2;done)
    ·obtain ⟨n,e1,e2⟩:=hlen _ hmem hs
     have e1:tln (some b)=some n:=e1
     rw[hk] at e1;cases e1;exact e2
    ·have:=(List.mem_filter.1 hmem).1
     show tln (lkB (entL C sp fs env).od s)=_
     rw[ycx n1 this];exact hk
 ·rw[q] at hdr
  simp only[Bool.not_true,Bool.false_or] at hdr
  exact List.isEmpty_iff.1 hdr
theorem χ1_one (ξ:Nat->Bool) (s:Nat):χ1 ξ s 1=ξ s:=by simp[χ1]
variable {L:List AO} {Q:KS->Prop} {i:Nat}
theorem yh6 (hC:CxOk P C) {Φ:List (Sp K)} (hS:SsOk P C Φ) {Ls:List (Sl K)} (hL:SLOk P C Ls) (hγ:GM P C R ts χ ds) (hk:DOk ds) {f:FuncId} {us:List (TV K)} {vs:List AV} (ht:TL P C ts χ us vs) {sp:Sl K} {env:List (DV K)} {M:RM} {dr:Bool} {X:TS K→Prop} {d:Option Nat} {W:DS→Prop}
  (hp:yhQ C ts f us Ls=some (sp,env,M)) (h:yek C Φ dr ts d sp env M us X) (k:∀ts' χ' ds',GM P C R ts' χ' ds'->DOk ds'->X ts'->ts'.rg=ts.rg->W ds'):yf7 P (.f f) vs (toD ds) fun v S'=>∃ds',S'.put d v=toD ds'/\DOk ds'/\W ds':=by
 obtain ⟨fs,out,hcl,hX,_,hks⟩:=yg1 hC hS hL hγ hk ht hp h
 refine ⟨f,_,rfl,hcl.lend,(hcl.con (toD ds).hp (toD ds).nx).mono fun av S1 hend=> ?_⟩
 obtain ⟨htt,hend⟩:=ymT hcl.hE hend
 obtain ⟨χ',a1,a2,⟨us,a3,a3'⟩,a4,a5,a6⟩:=hend
 have hce:=hcl.ce χ' htt a1 fun s b hs hb=>by rw[a2 s b hs hb,χ1_one]
 refine ⟨gOut (endT C sp (entL C sp fs env) out) χ' M (yab d),gBs (endT C sp (entL C sp fs env) out) χ' M (yab d),hce.oko a6,_,?_,hce.dok.put (d:=d),k _ _ _ ((hce.gm fun s hs=>(hcl.h00 s).1 hs).put (hce.val hks a3)) hce.dok.put (by unfold aftL at hX;rw[a3] at hX;exact hX) ?_⟩
 ·rw[hce.bl (fun s hs=>(hcl.h00 s).1 hs) a6 a4 a5,yaZ,a3']
 ·show (TS.put _ _ _).rg=_
  rw[yaW];rfl
theorem yoG (hC:CxOk P C) {Φ:List (Sp K)} (hS:SsOk P C Φ) {Ls:List (Sl K)} (hL:SLOk P C Ls) {o:AO} (e0:L[i]? =some o) (hg:gok o.guard ds.fr=true) (hγ:GM P C R ts χ ds) {f:FuncId} {us:List (TV K)} {vs:List AV} (ht:TL P C ts χ us vs) (ho:CalO o ds f vs) {sp:Sl K} {env:List (DV K)} {M:RM} {dr:Bool} {X:TS K→Prop}
  (hp:ygL C ts f us Ls=some (sp,env,M)) (h:yek C Φ dr ts o.dst sp env M us X) (k:∀ts' χ' ds',GM P C R ts' χ' ds'->DOk ds'->X ts'->ts'.rg=ts.rg->WD P B N ro L (i+1) Q ds'):WD P B N ro L i Q ds:=by
 refine ylR (hs:=fun _=>false) e0 hg fun hk=> ?_
 have fin:ycO P (.f f) vs (toD ds) fun v S'=>∃ds',S'.put o.dst v=toD ds'∧DOk ds'∧WD P B N ro L (i+1) Q ds':=
  .inr (.inr ⟨(yfQ hp).1,yh6 hC hS hL hγ hk ht (yfQ hp).2 h k⟩)
 rcases ho with ⟨args,h1,h2⟩|⟨x,args,first,cap,h1,h2,h3⟩
 ·rw[h1];simp only[aop];rw[ybk,h2];exact fin
 ·rw[h1];simp only[aop];rw[ybk,h2];simp only;rw[h3];exact fin
end
section
variable {C:Cx K} {t:TS K}
theorem yrG {χ χ':Nat→Nat→Bool} (h:∀s c n,tln (t.tb s c)=some n→χ s c=χ' s c):∀u:TV K,aT C t χ u=aT C t χ' u
 |u=>(aT_chi2 h u)
where
 aT_chi2 {χ χ':Nat->Nat->Bool} (h:∀s c n,tln (t.tb s c)=some n->χ s c=χ' s c):∀u:TV K,aT C t χ u=aT C t χ' u
 | .rw s c=>by
   simp only[aT]
   cases hq:tln (t.tb s c) with
   |none=>rfl
   |some n=>simp only[h s c n hq]
 | .agg cs=>by simp only[aT,aTs_chi2 h cs]
 | .tup cs=>by simp only[aT,aTs_chi2 h cs]
 | .fn f a c=>by simp only[aT,aTs_chi2 h a,aTs_chi2 h c]
 | .cn _ v=>by simp only[aT,aT_chi2 h v]
 | .it _ _| .bl _| .st _| .sl _ _| .nil| .un| .px _ _ _| .lb _| .li _ _| .em| .pr _ _ _ _ _| .ep _ _ _ _| .gs _ _| .nptr| .fv _ _ _| .yl _=>by simp only[aT]
 aTs_chi2 {χ χ':Nat->Nat->Bool} (h:∀s c n,tln (t.tb s c)=some n->χ s c=χ' s c):∀us:List (TV K),aTs C t χ us=aTs C t χ' us
 | []=>rfl
 |u::us=>by simp only[aTs,aT_chi2 h u,aTs_chi2 h us]
theorem yl5 {χ χ':Nat→Nat→Bool} (h:∀s c n,tln (t.tb s c)=some n→χ s c=χ' s c) (us:List (TV K)):aTs C t χ us=aTs C t χ' us:=by
 rw[ybW,ybW]
 exact List.map_congr_left fun u _=>yrG h u
theorem ysU {χ χ':Nat→Nat→Bool} (h:∀s c n,tln (t.tb s c)=some n→χ s c=χ' s c) (b:TB K):bT C t χ b=bT C t χ' b:=by
 cases b<;>simp only[bT,yl5 h]
end
def chiD (t:TS K) (ξ:Nat->Bool) (s c:Nat):Bool:=decide (c=1)&&((lkB t.od s).isSome&&(Nat.ble 2000000 s&&ξ s))
section
variable {P:Program} {C:Cx K} {R:RR K} {ts:TS K} {χ:Nat->Nat->Bool} {ds:DS}
def effL (C:Cx K) (us:List (TV K)) (t:TS K) (χ':Nat→Nat→Bool) (M:RM) (d:Option Nat) (inn:List (Nat×K2)):REff:=
 let out:=gOut t χ' M (yab d);let f:=fun x c=>lkE out (x,c)
 ⟨reA f (yb3 (aTs C t χ' us)),inn.map (fun p=>(p.2,none))++(out.map fun p=>(p,Blk.re f (match lkB t.od p.1.1 with|some b=>bT C t χ' b|none=>⟨0,0,[]⟩))).map fun p=>(p.1.2,some p.2),gBs t χ' M (yab d),none⟩
theorem yoc (hC:CxOk P C) {Φ:List (Sp K)} (hS:SsOk P C Φ) {Ls:List (Sl K)} (hL:SLOk P C Ls) {LD:List (AO×List Nat)} {QD:St→Prop} {i:Nat} {acc:List Foot} {o:AO} {fre:List Nat} (e0:LD[i]? =some (o,fre)) (hg:gok o.guard ds.fr=true) (hγ:GM P C R ts χ ds) (hk:DOk ds)
  {f:FuncId} {us:List (TV K)} {vs:List AV} (ht:TL P C ts χ us vs) (ho:CalO o ds f vs) {sp:Sl K} {env:List (DV K)} {M:RM} {X:TS K->Prop} (hp:ygL C ts f us Ls=some (sp,env,M)) (h:yek C Φ true ts o.dst sp env M us X)
  (k:∀e ts' χ' ds',(∀q∈e.mem.map (·.1),q∈plcs sp o.dst M)->e.H=none->(∀s∈e.bump,(s,2)∈plcs sp o.dst M)->GM P C R ts' χ' ds'->DOk ds'->X ts'->ts'.rg=ts.rg->yfh (yby o.op (toD ds) e) acc fre/\DD P LD (i+1) (acc++ [yby o.op (toD ds) e]) QD ds'):DD P LD i acc QD ds:=by
 have hsm:=(yfQ hp).1
 obtain ⟨fs,out,hcl,hX,hrw,hks⟩:=yg1 hC hS hL hγ hk ht (yfQ hp).2 h
 have hrw:=hrw rfl
 obtain ⟨o1,o2,o3,o4,o5,o6⟩:=yj0 hcl.hE
 refine ynj e0 hg fun _=> ?_
 have htt:=ypf (C:=C) (fs:=fs) hcl.hE hcl.wo
 have hrn:∀s c m,tln ((endT C sp (entL C sp fs env) out).tb s c)=some m→c=1∧2000000≤s∧∃e l,lkB (endT C sp (entL C sp fs env) out).od s=some (.row e l)∧lkB (entL C sp fs env).od s=some (.row e l):=by
  intro s c m hm
  cases hq:(endT C sp (entL C sp fs env) out).tb s c with
  |none=>rw[hq] at hm;cases hm
  | some b=>
    have hc:c=1:=by
     rcases tb_c hq with e|e
     ·exact e
     ·subst e;cases hq
    subst hc
    have hmem:=yes (show lkB (endT C sp (entL C sp fs env) out).od s=some b from hq)
    have hl:=show lkB (endT C sp (entL C sp fs env) out).od s=some b from hq
    rw[hq] at hm
    have hod:(endT C sp (entL C sp fs env) out).od=(bdB C [] sp.te.bx (bdS C [] sp.te.ks out).2).1++((entL C sp fs env).od.filter fun x=>yct sp.kp x.1&&isBx x.2)++endR C sp out++(entL C sp fs env).od.filter fun x=>yct sp.kp x.1&& !isBx x.2:=rfl
    rw[hod] at hmem
    simp only[List.mem_append] at hmem
    rcases hmem with ((hmem|hmem)|hmem)|hmem
    ·obtain ⟨_,e,ex⟩:=yjD (C:=C) (rg:= []) sp.te.bx (bdS C [] sp.te.ks out).2 _ hmem
     have e:some b=_:=e
     rw[<-e] at ex
     cases b<;>first|(cases hm;done)|(cases ex;done)
    ·have:=(List.mem_filter.1 hmem).2
     simp only[Bool.and_eq_true] at this
     cases b<;>first|(cases hm;done)|(cases this.2;done)
    ·unfold endR at hmem
     rw[hrw] at hmem
     simp[bdR] at hmem
    ·have hm0:=(List.mem_filter.1 hmem).1
     have hn:s∈tiN sp:=(hcl.h00 s).1 (List.mem_map_of_mem (f:=(·.1)) hm0)
     have hl0:=ycx hcl.n1 hm0
     refine ⟨rfl,o3 s hn,?_⟩
     rcases htt.ent _ (yes hl) with ⟨⟨e,l,x,_,_,e3⟩,_⟩|⟨⟨e,l,e3⟩,_⟩
     ·have e3:some b=_:=e3
      rw[e3] at hm
      rcases yb5 e l (bdW C [] l x).1 x with q|⟨t,y,_,q⟩<;>rw[q] at hm<;>cases hm
     ·have e3:some b=_:=e3
      exact ⟨e,l,by rw[hl,e3],by rw[hl0,e3]⟩
 have hvi:ViOk (endT C sp (entL C sp fs env) out) (chiD (endT C sp (entL C sp fs env) out) (xiM χ M)):=by
  intro s c hx
  simp only[chiD,Bool.and_eq_true,decide_eq_true_eq] at hx
  obtain ⟨rfl,h1,h2,h3⟩:=hx
  obtain ⟨e,he⟩:=hcl.xi s h3
  obtain ⟨b,hb⟩:=Option.isSome_iff_exists.1 h1
  have h2:=Nat.le_of_ble_eq_true h2
  refine ⟨e,?_⟩
  show lkB (endT C sp (entL C sp fs env) out).od s=_
  rcases htt.ent _ (yes hb) with ⟨_,e4⟩|⟨⟨e',l,e3⟩,e4⟩
  ·
   exfalso
   have hti:s∈sp.ti.bx.map (·.1):=by
    obtain ⟨k',hk',e5⟩:=List.mem_map.1 e4
    have e5:k'.1=s:=e5
    rcases List.mem_append.1 (show k'∈sp.te.bx++sp.kbx from hk') with hk'|hk'
    ·have hok:=hcl.hE
     simp only[okS,okN,Bool.and_eq_true] at hok
     exact yjk hok.1.1.1.1.2 s (by rw[<-e5];exact List.mem_map_of_mem (f:=(·.1)) hk') h2
    ·rw[<-e5];exact List.mem_map_of_mem (f:=(·.1)) (List.mem_filter.1 hk').1
   obtain ⟨e6,e7,e8⟩:=yrs (C:=C) (rg:= []) (hh:= []) o6 o1 hti
   have he':lkB (bdT C sp.ti [] [] env).od s=_:=he
   rw[e7] at he';cases he';cases e8
  ·have e3:some b=_:=e3
   rw[hb,e3]
   obtain ⟨_,_,e8,l8,q1,q2⟩:=hrn s 1 l.length (by show tln (lkB (endT C sp (entL C sp fs env) out).od s)=_;rw[hb,e3];rfl)
   rw[he] at q2
   rw[hb,e3] at q1
   rw[q1,<-q2]
 have hlv:∀s b,2000000≤s→(endT C sp (entL C sp fs env) out).tb s 1=some b→chiD (endT C sp (entL C sp fs env) out) (xiM χ M) s 1=xiM χ M s:=by
  intro s b hs hb
  have hb':lkB (endT C sp (entL C sp fs env) out).od s=some b:=hb
  unfold chiD
  rw[hb',Nat.ble_eq_true_of_le hs]
  simp
 have hce:=hcl.ce _ htt hvi hlv
 have hend:∀av S1,EndL C sp (entL C sp fs env) (χ1 (xiM χ M)) out (toD ds).hp (toD ds).nx av S1→(∃us,ycr (endT C sp (entL C sp fs env) out) sp.res=some us∧av=yb3 (aTs C (endT C sp (entL C sp fs env) out) (chiD (endT C sp (entL C sp fs env) out) (xiM χ M)) us))∧S1.hp=(toD ds).hp∧S1.nx=(toD ds).nx∧
   ∀s b,lkB (endT C sp (entL C sp fs env) out).od s=some b->chiD (endT C sp (entL C sp fs env) out) (xiM χ M) s 1=false->S1.M (.l s 1)=some (bT C (endT C sp (entL C sp fs env) out) (chiD (endT C sp (entL C sp fs env) out) (xiM χ M)) b):=by
  intro av S1 hend
  obtain ⟨_,χ',a1,a2,⟨us,a3,a3'⟩,a4,a5,a6⟩:=ymT hcl.hE hend
  have agr:∀s c n,tln ((endT C sp (entL C sp fs env) out).tb s c)=some n→χ' s c=chiD (endT C sp (entL C sp fs env) out) (xiM χ M) s c:=by
   intro s c n hn
   obtain ⟨rfl,hs,e,l,q1,_⟩:=hrn s c n hn
   rw[a2 s _ hs (show (endT C sp (entL C sp fs env) out).tb s 1=some _ from q1),χ1_one,hlv s _ hs (show (endT C sp (entL C sp fs env) out).tb s 1=some _ from q1)]
  refine ⟨⟨us,a3,by rw[a3',yl5 agr]⟩,a4,a5,fun s b hb hx=> ?_⟩
  rw[<-ysU agr]
  refine a6 s b hb ?_
  rcases htt.ent _ (yes hb) with ⟨⟨e,l,x,_,_,e3⟩,_⟩|⟨⟨e,l,e3⟩,_⟩
  ·cases hq:χ' s 1 with
   |false=>rfl
   | true=>
     obtain ⟨e',he⟩:=a1 s 1 hq
     have he':lkB (endT C sp (entL C sp fs env) out).od s=_:=he
     have e3:some b=_:=e3
     rw[hb,e3] at he'
     rcases yb5 e l (bdW C [] l x).1 x with q|⟨t,y,_,q⟩<;>rw[q] at he'<;>cases he'
  ·have e3:some b=_:=e3
   rw[agr s 1 l.length (by show tln (lkB (endT C sp (entL C sp fs env) out).od s)=_;rw[hb,e3];rfl)]
   exact hx
 let t:=endT C sp (entL C sp fs env) out
 let χd:=chiD t (xiM χ M)
 let inn:=innM (rhoM χ M) (entL C sp fs env).od
 let e:REff:=effL C ((ycr t sp.res).getD []) t χd M o.dst inn
 let outB:List ((K2×K2)×Blk):=(gOut t χd M (yab o.dst)).map fun p=>(p,Blk.re (fun x c=>lkE (gOut t χd M (yab o.dst)) (x,c)) (match lkB t.od p.1.1 with|some b=>bT C t χd b|none=>⟨0,0,[]⟩))
 have hfst:outB.map (·.1)=gOut t χd M (yab o.dst):=by
  show ((gOut t χd M (yab o.dst)).map _).map _=_
  rw[List.map_map]
  exact (List.map_congr_left (fun _ _=>rfl)).trans (List.map_id _)
 have hblk:∀ {S1:St},(∀s b,lkB t.od s=some b→χd s 1=false→S1.M (.l s 1)=some (bT C t χd b))→∀p∈outB,(S1.M (.l p.1.1.1 p.1.1.2)).map (Blk.re fun d c=>lkE (outB.map (·.1)) (d,c))=some p.2:=by
  intro S1 hS p hp
  obtain ⟨q,hq,rfl⟩:=List.mem_map.1 hp
  have e1:=hce.out1 hq
  have hq':((q.1.1,1),q.2)∈gOut t χd M (yab o.dst):=by rw[<-e1];exact hq
  obtain ⟨a,b,_⟩:=hce.go.1 hq'
  obtain ⟨y,hy,ey⟩:=List.mem_map.1 a
  obtain ⟨b0,_,e3⟩:=hce.tsome hy
  rw[ey] at e3
  have:=hS _ b0 e3 b
  show (S1.M (.l q.1.1 q.1.2)).map _=some (Blk.re _ (match lkB t.od q.1.1 with|some b=>bT C t χd b|none=>⟨0,0,[]⟩))
  rw[show q.1.2=1 from e1,this,hfst,show lkB t.od q.1.1=some b0 from e3]
  rfl
 have hE:ygi P (.f f) vs (toD ds) e:=by
  refine .inr (.inr ⟨f,inn,outB,rfl,hsm,hcl.lend,rfl,rfl,(hcl.con (toD ds).hp (toD ds).nx).mono fun av S1 hrun=> ?_⟩)
  obtain ⟨⟨us,a0,a1⟩,a2,a3,a4⟩:=hend av S1 hrun
  refine ⟨by rw[hfst];exact hce.oko a4,by rw[hfst,a1];show _=reA _ (yb3 (aTs C t χd ((ycr t sp.res).getD [])));rw[show ycr t sp.res=some us from a0];rfl,a2,a3,hblk a4⟩
 let Sf:St:=⟨(toD ds).fr,fun k=>match k with| .h x=>(toD ds).M (.h x)| .l s c=>if c=1 then (lkB t.od s).map (bT C t χd) else none,(toD ds).cnt,(toD ds).nx⟩
 have hSf:∀s b,lkB t.od s=some b→χd s 1=false→Sf.M (.l s 1)=some (bT C t χd b):=by
  intro s b hb _
  show (if (1:Nat)=1 then (lkB t.od s).map (bT C t χd) else none)=_
  rw[if_pos rfl,hb];rfl
 have hmst:e.mst (toD ds)=toD (gDs C t χd inn (gOut t χd M (yab o.dst)) ds):=by
  have h1:=yis (S:=toD ds) (S1:=Sf) (inn:=inn) (out:=outB) (e:=e) rfl rfl rfl rfl (by rw[hfst];exact hce.on2) (hblk hSf)
  rw[hfst] at h1
  rw[<-h1]
  exact hce.bl (fun s hs=>(hcl.h00 s).1 hs) hSf rfl rfl
 have hpl:∀q∈e.mem.map (·.1),q∈plcs sp o.dst M:=by
  have lent:∀ {s:Nat} {q:Nat×Nat},2000000≤s→plQ M (yab o.dst) s=some q→q∈plcs sp o.dst M:=by
   intro s q hb hq
   rcases hce.big' hb hq with e|⟨_,e⟩
   ·exact List.mem_append_left _ (List.mem_append_left _ (yb9 e))
   ·exact List.mem_append_left _ (List.mem_append_right _ (ycc e))
  intro q hq
  obtain ⟨x,hx,rfl⟩:=List.mem_map.1 hq
  rcases List.mem_append.1 (show x∈inn.map (fun p=>(p.2,none))++outB.map (fun p=>(p.1.2,some p.2)) from hx) with hx|hx
  ·obtain ⟨p,hp,rfl⟩:=List.mem_map.1 hx
   obtain ⟨s,hs,_,hq⟩:=hce.innp (fun s hs=>(hcl.h00 s).1 hs) (List.mem_map_of_mem (f:=(·.2)) hp)
   exact lent (hce.big s hs) hq
  ·obtain ⟨p,hp,rfl⟩:=List.mem_map.1 hx
   obtain ⟨y,hy,rfl⟩:=List.mem_map.1 hp
   have e1:=hce.out1 hy
   have hy':((y.1.1,1),y.2)∈gOut t χd M (yab o.dst):=by rw[<-e1];exact hy
   obtain ⟨a,_,c⟩:=hce.go.1 hy'
   by_cases hb:2000000<=y.1.1
   ·exact lent hb c
   ·rw[ybb hb] at c
    have c:=Option.some.inj c
    show y.2∈_
    rw[<-c]
    refine List.mem_append_right _ (List.mem_map.2 ⟨y.1.1,?_,rfl⟩)
    exact hce.newm a hb
 have hbs:∀s∈e.bump,(s,2)∈plcs sp o.dst M:=by
  intro s hs
  obtain ⟨p,hp,rfl⟩:=List.mem_map.1 (show s∈((innM (goL t χd M (yab o.dst)) t.od).filter fun p=> !Nat.ble 2000000 p.1).map fun p=>p.2.1 from hs)
  obtain ⟨hp1,hp2⟩:=List.mem_filter.1 hp
  have hb:¬2000000<=p.1:=fun q=>by rw[Nat.ble_eq_true_of_le q] at hp2;cases hp2
  have hm:((p.1,1),p.2)∈gOut t χd M (yab o.dst):=List.mem_map.2 ⟨p,hp1,rfl⟩
  obtain ⟨a,_,c⟩:=hce.go.1 hm
  rw[ybb hb] at c
  have c:=Option.some.inj c
  rw[<-c]
  exact List.mem_append_right _ (List.mem_map.2 ⟨p.1,hce.newm a hb,rfl⟩)
 obtain ⟨k1,k2⟩:=k e _ _ _ hpl rfl hbs ((hce.gm fun s hs=>(hcl.h00 s).1 hs).put (hce.val' hks)) (hce.dok.put (d:=o.dst)) hX (by show (TS.put _ _ _).rg=_;rw[yaW];rfl)
 have fin:∀K:REff→Prop,K e→eop (fun _=>false) P o.op o.dst (toD ds) K:=by
  intro K hK
  rcases ho with ⟨args,h1,h2⟩|⟨x,args,first,cap,h1,h2,h3⟩
  ·rw[h1];simp only[eop];rw[ybk,h2];exact ⟨_,hE,hK⟩
  ·rw[h1];simp only[eop];rw[ybk,h2];simp only;rw[h3];exact ⟨_,hE,hK⟩
 apply fin
 refine And.intro k1 ?_
 rw[show e.app o.dst (toD ds)=toD ((gDs C t χd inn (gOut t χd M (yab o.dst)) ds).put o.dst e.v) by unfold REff.app;rw[hmst,yaZ]]
 exact k2 (hce.dok.put (d:=o.dst))
end
end Go.AV
end
noncomputable section
namespace Go.AV
open Go.RowKit Go.RG Go.Lib
variable {K:Nat->Type}
section
variable {P:Program} {C:Cx K} {R:RR K} {ts ts1:TS K} {χ:Nat->Nat->Bool} {ds:DS} {B:Base} [GB P B] {N:Nat} {ro:Option Nat}
theorem yd0 (p:Nat×TV K) (r:List (Nat×TV K)) (t:Nat):lkR (p::r) t=if p.1=t then some p.2 else lkR r t:=by
 show (match Nat.beq p.1 t with|true=>some p.2|false=>lkR r t)=_
 cases h:Nat.beq p.1 t with
 |true=>simp[nbeq.1 h]
 |false=>simp only;rw[if_neg (fun e=>by rw[nbeq.2 e] at h;cases h)]
theorem ExtR.refl {rg:List (Nat×TV K)}:ExtR rg rg:=fun _ _ h=>h
theorem ExtR.trans {a b c:List (Nat×TV K)} (h:ExtR a b) (k:ExtR b c):ExtR a c:=fun id w q=>k id w (h id w q)
def Same (ts ts':TS K):Prop:=ts'.od=ts.od/\ts'.nw=ts.nw
theorem ydZ:∀(k:Kd) (v:TV K) (rg:List (Nat×TV K)),ExtR rg (tagV k v rg).2
 | .kp id,v,rg=>by
   simp only[tagV]
   split
   ·rename_i h1 h2
    intro id' w h
    rw[yd0]
    split
    ·rename_i e;simp only at e;subst e;rw[h2] at h;cases h
    ·exact h
   ·exact .refl
 | .agg l,v,rg=>by
   cases v with
   | agg vs=>
     simp only[tagV]
     exact tagVs_ext l vs rg
   |_=>exact .refl
 | .it _,v,rg=> .refl
 | .bl,v,rg=> .refl
 | .st,v,rg=> .refl
 | .sl _,v,rg=> .refl
 | .v _,v,rg=> .refl
 | .row _,v,rg=> .refl
 | .px _ _,v,rg=> .refl
 | .nil,v,rg=> .refl
 | .np,v,rg=> .refl
 | .fn _ _ _,v,rg=> .refl
 | .un,v,rg=> .refl
where tagVs_ext:∀(l:List Kd) (vs:List (TV K)) (rg:List (Nat×TV K)),ExtR rg (ydz l vs rg).2
 | [],vs,rg=> .refl
 |k::l,[],rg=> .refl
 | k::l,v::vs,rg=>by
   simp only[ydz]
   exact (ydZ k v rg).trans (tagVs_ext l vs _)
theorem Mono.same {ts ts':TS K} (hs:Same ts ts') (hx:ExtR ts.rg ts'.rg):Mono ts ts' χ χ:=by
 have ht:∀s c,ts'.tb s c=ts.tb s c:=by intro s c;unfold TS.tb;rw[hs.1,hs.2]
 refine ⟨hx,fun s c h=> ?_,fun s c _=> .inr ⟨by rw[ht],rfl⟩⟩
 rcases h with h|⟨h1,h2⟩
 ·exact .inl h
 ·exact .inr ⟨h1,by rw[hs.2];exact h2⟩
mutual
theorem ylX:∀(k:Kd) (v:TV K) (rg:List (Nat×TV K)) (a:AV) (ts':TS K),TR P C ts χ v a→Mono ts ts' χ χ→ExtR (tagV k v rg).2 ts'.rg→TR P C ts' χ (tagV k v rg).1 a
 | .kp id,v,rg,a,ts',h,hm,hx=>by
   simp only[tagV] at hx⊢
   split
   ·rename_i h1 h2
    rw[h1,h2] at hx
    exact .cn id v a (hx id v (by rw[yd0];simp)) h1 (h.noref h1).1
   ·exact h.mono hm
 | .agg l, .agg vs,rg,a,ts',h,hm,hx=>by
   simp only[tagV] at hx⊢
   obtain ⟨az,rfl,t1,t2⟩:=h.agg'
   have:=yhB l vs rg az ts' ⟨t1,t2⟩ hm hx
   exact .agg _ _ this.1 this.2
 | .agg l, .un,rg,a,ts',h,hm,hx=>h.mono hm
 | .agg l, .lb b,rg,a,ts',h,hm,hx=>h.mono hm
 | .agg l, .bl b,rg,a,ts',h,hm,hx=>h.mono hm
 | .agg l, .li k n,rg,a,ts',h,hm,hx=>h.mono hm
 | .agg l, .it k n,rg,a,ts',h,hm,hx=>h.mono hm
 | .agg l, .st s,rg,a,ts',h,hm,hx=>h.mono hm
 | .agg l, .tup s,rg,a,ts',h,hm,hx=>h.mono hm
 | .agg l, .nil,rg,a,ts',h,hm,hx=>h.mono hm
 | .agg l, .em,rg,a,ts',h,hm,hx=>h.mono hm
 | .agg l, .sl _ _,rg,a,ts',h,hm,hx=>h.mono hm
 | .agg l, .rw _ _,rg,a,ts',h,hm,hx=>h.mono hm
 | .agg l, .px _ _ _,rg,a,ts',h,hm,hx=>h.mono hm
 | .agg l, .pr _ _ _ _ _,rg,a,ts',h,hm,hx=>h.mono hm
 | .agg l, .ep _ _ _ _,rg,a,ts',h,hm,hx=>h.mono hm
 | .agg l, .gs _ _,rg,a,ts',h,hm,hx=>h.mono hm
 | .agg l, .nptr,rg,a,ts',h,hm,hx=>h.mono hm
 | .agg l, .fn _ _ _,rg,a,ts',h,hm,hx=>h.mono hm
 | .agg l, .fv _ _ _,rg,a,ts',h,hm,hx=>h.mono hm
 | .agg l, .yl _,rg,a,ts',h,hm,hx=>h.mono hm
 | .agg l, .cn _ _,rg,a,ts',h,hm,hx=>h.mono hm
 | .it _,v,rg,a,ts',h,hm,hx=>h.mono hm
 | .bl,v,rg,a,ts',h,hm,hx=>h.mono hm
 | .st,v,rg,a,ts',h,hm,hx=>h.mono hm
 | .sl _,v,rg,a,ts',h,hm,hx=>h.mono hm
 | .v _,v,rg,a,ts',h,hm,hx=>h.mono hm
 | .row _,v,rg,a,ts',h,hm,hx=>h.mono hm
 | .px _ _,v,rg,a,ts',h,hm,hx=>h.mono hm
 | .nil,v,rg,a,ts',h,hm,hx=>h.mono hm
 | .np,v,rg,a,ts',h,hm,hx=>h.mono hm
 | .fn _ _ _,v,rg,a,ts',h,hm,hx=>h.mono hm
 | .un,v,rg,a,ts',h,hm,hx=>h.mono hm
theorem yhB:∀(l:List Kd) (vs:List (TV K)) (rg:List (Nat×TV K)) (az:List AV) (ts':TS K),TL P C ts χ vs az→Mono ts ts' χ χ→ExtR (ydz l vs rg).2 ts'.rg→TL P C ts' χ (ydz l vs rg).1 az
 | [],vs,rg,az,ts',h,hm,hx=>h.mono hm
 |k::l,[],rg,az,ts',h,hm,hx=>h.mono hm
 | k ::l,v::vs,rg,az,ts',h,hm,hx=>by
   cases az with
   |nil=>simp[TL] at h
   | cons a az=>
     simp only[ydz] at hx⊢
     exact .cons (ylX k v rg a ts' h.head.1 hm ((ydZ.tagVs_ext l vs _).trans hx)) (yhB l vs _ az ts' h.head.2 hm hx)
end
theorem yhC:∀(l:List (Nat×Kd)) (ts:TS K),ExtR ts.rg (tagS l ts).rg∧(tagS l ts).nw=ts.nw∧(tagS l ts).h=ts.h
 | [],ts=>⟨.refl,rfl,rfl⟩
 | p::l,ts=>by
   simp only[tagS]
   have:=yhC l ⟨(p.1,(tagV p.2 (lkT ts.fr p.1) ts.rg).1)::ts.fr,ts.od,ts.nw,(tagV p.2 (lkT ts.fr p.1) ts.rg).2,ts.h⟩
   exact ⟨(ydZ _ _ _).trans this.1,this.2.1,this.2.2⟩
theorem ynH:∀(l:List (Nat×Kd)) (ts:TS K),GM P C R ts χ ds→GM P C R (tagS l ts) χ ds
 | [],ts,h=>h
 | p::l,ts,h=>by
   simp only[tagS]
   refine ynH l _ ?_
   have hm:Mono ts ⟨(p.1,(tagV p.2 (lkT ts.fr p.1) ts.rg).1)::ts.fr,ts.od,ts.nw,(tagV p.2 (lkT ts.fr p.1) ts.rg).2,ts.h⟩ χ χ:=Mono.same ⟨rfl,rfl⟩ (ydZ _ _ _)
   refine ⟨fun t=> ?_,fun s c b hb hx=> ?_,h.vi,h.nw,h.hp,h.lv⟩
   ·show TR P C _ χ (lkT ((p.1,_)::ts.fr) t) _
    rw[yba]
    split
    ·rename_i e;rw[<-e];exact ylX p.2 _ ts.rg _ _ (h.fr p.1) hm .refl
    ·exact (h.fr t).mono hm
   ·obtain ⟨kb,h1,h2⟩:=h.mb s c b hb hx
    exact ⟨kb,h1,h2.mono hm⟩
theorem yiB:∀(l:List Kd) (vs:List (TV K)) (rg:List (Nat×TV K)),(ydz l vs rg).1.length=vs.length
 | [],vs,rg=>rfl
 |k::l,[],rg=>rfl
 |k::l,v::vs,rg=>by simp only[ydz,List.length_cons,yiB l vs]
theorem yfW:∀(l:List (Nat×Nat×List Kd)) (ts:TS K),ExtR ts.rg (tagB l ts).rg∧(tagB l ts).nw=ts.nw∧(tagB l ts).h=ts.h
 | [],ts=>⟨.refl,rfl,rfl⟩
 | p::l,ts=>by
   simp only[tagB]
   split
   ·rename_i e cs hb
    have:=yfW l ⟨ts.fr,(p.1,some (.box e (ydz p.2.2 cs ts.rg).1))::ts.od,ts.nw,(ydz p.2.2 cs ts.rg).2,ts.h⟩
    exact ⟨(ydZ.tagVs_ext _ _ _).trans this.1,this.2.1,this.2.2⟩
   ·exact yfW l ts
theorem yja:∀(l:List (Nat×Nat×List Kd)) (ts:TS K),GM P C R ts χ ds→GM P C R (tagB l ts) χ ds
 | [],ts,h=>h
 | p ::l,ts,h=>by
   simp only[tagB]
   split
   ·rename_i e cs hb
    refine yja l _ ?_
    have htb:∀s c,(⟨ts.fr,(p.1,some (.box e (ydz p.2.2 cs ts.rg).1))::ts.od,ts.nw,(ydz p.2.2 cs ts.rg).2,ts.h⟩:TS K).tb s c=if s=p.1/\c=1 then some (.box e (ydz p.2.2 cs ts.rg).1) else ts.tb s c:=fun s c=>ybi ts p.1 1 (some (.box e (ydz p.2.2 cs ts.rg).1)) (.inl rfl) s c
    have hbx:ts.tb p.1 1=some (.box e cs):=hb
    have hm:Mono ts ⟨ts.fr,(p.1,some (.box e (ydz p.2.2 cs ts.rg).1))::ts.od,ts.nw,(ydz p.2.2 cs ts.rg).2,ts.h⟩ χ χ:=by
     refine ⟨ydZ.tagVs_ext _ _ _,fun s c q=>q,fun s c _=> .inr ⟨?_,rfl⟩⟩
     rw[htb]
     split
     ·rename_i q;obtain ⟨rfl,rfl⟩:=q;rw[hbx];rfl
     ·rfl
    refine ⟨fun t=>(h.fr t).mono hm,fun s c b hb' hx=> ?_,fun s c hx=> ?_,h.nw,h.hp,fun s b q e=> ?_⟩
    rotate_right
    ·rw[htb] at e
     split at e
     ·rename_i q';obtain ⟨rfl,_⟩:=q';exact h.lv _ _ q hbx
     ·exact h.lv s b q e
    ·rw[htb] at hb'
     split at hb'
     ·rename_i q
      obtain ⟨rfl,rfl⟩:=q
      cases hb'
      obtain ⟨kb,h1,h2⟩:=h.mb _ _ _ hbx hx
      refine ⟨kb,h1,?_⟩
      have t:=yhB (P:=P) (C:=C) (ts:=ts) (χ:=χ) p.2.2 cs ts.rg kb.cells _ ⟨h2.2.2.1,h2.2.2.2⟩ hm .refl
      exact ⟨h2.1,by rw[yiB];exact h2.2.1,t.1,t.2⟩
     ·obtain ⟨kb,h1,h2⟩:=h.mb s c b hb' hx
      exact ⟨kb,h1,h2.mono hm⟩
    ·obtain ⟨e',h1⟩:=h.vi s c hx
     refine ⟨e',?_⟩
     rw[htb]
     split
     ·rename_i q;obtain ⟨rfl,rfl⟩:=q;rw[hbx] at h1;cases h1
     ·exact h1
   ·exact yja l ts h
theorem yhA {τ:Tm} (h:GM P C R ts χ ds):GM P C R (tagT τ ts) χ ds:=yja _ _ (ynH _ _ h)
theorem yca (τ:Tm) (ts:TS K):ExtR ts.rg (tagT τ ts).rg:=(yhC τ.ks ts).1.trans (yfW τ.bx _).1
def curC:(cs:List CT)→(List (DV K)→Prop)→Cur K Prop cs
 | [],p=>p []
 |_::cs,p=>fun x=>curC cs fun env=>p (inC _ x::env)
theorem yrj (c:CT) (x:CTy K c):outC c (inC c x)=some x:=by
 cases c with
 |l e=>exact dif_pos rfl
 |v t=>exact dif_pos rfl
 |i=>rfl
 |b=>rfl
 |s=>rfl
theorem yqd {x:DV K} {n:Int} (h:outI x=some n): .i n=x:=by
 cases x<;>first|(cases h;rfl)|(cases h;done)
theorem yoa {x:DV K} {n:Bool} (h:yqX x=some n): .b n=x:=by
 cases x<;>first|(cases h;rfl)|(cases h;done)
theorem yqk {x:DV K} {n:Str} (h:outS x=some n): .s n=x:=by
 cases x<;>first|(cases h;rfl)|(cases h;done)
theorem ypT {e:Nat} {x:DV K} {l:List (K e)} (h:outL e x=some l): .l e l=x:=by
 cases x with
 |l e' l'=>obtain ⟨rfl,rfl⟩:=yck h;rfl
 |_=>cases h
theorem ypM {t:Nat} {x:DV K} {y:K t} (h:outT t x=some y): .v t y=x:=by
 cases x with
 | v t' y'=>
   simp only[outT] at h
   split at h
   ·rename_i e;subst e;cases h;rfl
   ·cases h
 |_=>cases h
theorem yq7 {c:CT} {x:DV K} {y:CTy K c} (h:outC c x=some y):inC c y=x:=by
 cases c with
 |l e=>exact ypT h
 |v t=>exact ypM h
 |i=>exact yqd h
 |b=>exact yoa h
 |s=>exact yqk h
theorem yjf:∀(cs:List CT) (p:List (DV K)→Prop) (env:List (DV K)),apC False cs (curC cs p) env→p env
 | [],p,[],h=>h
 | [],p,_::_,h=>h.elim
 |c::cs,p,[],h=>h.elim
 | c::cs,p,x::env,h=>by
   simp only[apC] at h
   split at h
   ·rename_i y hy
    have:=yjf cs _ env h
    rw[yq7 hy] at this;exact this
   ·exact h.elim
theorem yg5:∀(cs:List CT) (p:List (DV K)→Prop) (q:List (DV K)→Prop),(∀env,q env→p env)→allC cs fun env=>q env→apC False cs (curC cs p) env
 | [],p,q,h=>fun hq=>h [] hq
 | c::cs,p,q,h=>fun x=>by
   have:=yg5 cs (fun env=>p (inC c x::env)) (fun env=>q (inC c x::env)) (fun env=>h _)
   show allC cs fun env=>q (inC c x::env)->(match outC c (inC c x) with|some y=>apC False cs (curC (c::cs) p y) env|none=>False)
   rw[yrj]
   exact this
variable (P C R) in
def Kq (rg:List (Nat×TV K)) (Q:AEx->TS K->Prop) (e:AEx) (ks:KS):Prop:=KOk ks/\∃ts χ,GM P C R ts χ (ofK ks)/\ExtR rg ts.rg/\Q e ts
theorem Kq.mono {rg rg':List (Nat×TV K)} {Q:AEx→TS K→Prop} {e:AEx} {ks:KS} (h:Kq P C R rg Q e ks) (hx:ExtR rg' rg):Kq P C R rg' Q e ks:=by
 obtain ⟨a,ts,χ,b,c,d⟩:=h
 exact ⟨a,ts,χ,b,hx.trans c,d⟩
theorem yqv (C:Cx K) (ts:TS K) (s:Nat):(fz C ts s).rg=ts.rg:=by unfold fz;split<;>rfl
theorem fz_h (C:Cx K) (ts:TS K) (s:Nat):(fz C ts s).h=ts.h:=by unfold fz;split<;>rfl
theorem ExtR.eq {a b:List (Nat×TV K)} (h:b=a):ExtR a b:=h▸ .refl
theorem ykM (C:Cx K):∀(n:Nat) (vs:List (TV K)) (ts:TS K),(fzA C n vs ts).rg=ts.rg
 |0,_,_=>rfl
 | n+1,vs,ts=>by
   simp only[fzA]
   split
   ·rfl
   ·split
    ·rw[yqv,ykM C n]
    ·rw[yqv]
theorem ymE (C:Cx K) (fr:List (Nat×TV K)):∀(l:List (Nat×Kd)) (ts:TS K),(fzT C fr l ts).rg=ts.rg
 | [],_=>rfl
 | (t,k)::r,ts=>by
   cases k with
   | sl e=>
     simp only[fzT]
     rw[ymE C fr r]
     split
     ·rw[yqv]
     ·rfl
   |_=>simp only[fzT];exact ymE C fr r ts
theorem yo3 (hB:ybR B) (hC:CxOk P C) (f:TS K→List (TV K)):∀(l:List AOpd) (ts:TS K),REk P C R B N ts (l.foldl (fun ts x=>fzA C 9 [tea ts.fr x] ts) ts)∧(l.foldl (fun ts x=>fzA C 9 [tea ts.fr x] ts) ts).rg=ts.rg
 | [],ts=>⟨.refl,rfl⟩
 | x::l,ts=>by
   have _:=(inferInstance:GB P B)
   obtain ⟨a,b⟩:=yo3 hB hC f l (fzA C 9 [tea ts.fr x] ts)
   exact ⟨(yim hB hC _ _ _).trans a,by rw[List.foldl_cons,b,ykM]⟩
theorem yp6 (hB:ybR B) (hC:CxOk P C) {F:Cf K} (hF:F.C=C) {o:AO}:(frzA F o ts=ts∨REt P C R B N ts (frzA F o ts))∧(frzA F o ts).rg=ts.rg:=by
 have go:∀(args:List AOpd),REt P C R B N ts (args.foldl (fun ts x=>fzA F.C 9 [tea ts.fr x] ts) (er ts))∧(args.foldl (fun ts x=>fzA F.C 9 [tea ts.fr x] ts) (er ts)).rg=ts.rg:=by
  intro args
  rw[hF]
  obtain ⟨a,b⟩:=yo3 (N:=N) hB hC (fun _=> []) args (er ts)
  exact ⟨(ypN hB hC).thenk a,b⟩
 unfold frzA frzs
 split
 ·exact ⟨.inl rfl,rfl⟩
 ·exact ⟨.inr (go _).1,(go _).2⟩
section
variable {L:List AO} {i:Nat}
theorem ysY (hB:ybR B) {Q:KS→Prop} (h:REt P C R B N ts ts1) (hk:DOk ds) (hγ:GM P C R ts χ ds) (k:∀ks ξ,KOk ks→GM P C R ts1 ξ (ofK ks)→WD P B N ro L i Q (ofK ks)):WD P B N ro L i Q ds:=
 ysz fun _=>(h χ ds hk hγ).mono fun ks ⟨h1,ξ,h2⟩=>k ks ξ h1 h2
theorem yrU {Q:KS→Prop} (e:L.drop i= []) (h:DOk ds→RE B N (toD ds) Q):WD P B N ro L i Q ds:=by
 have _:=(inferInstance:GB P B)
 intro ops pre suf he ht a G hR
 rw[e] at ht
 cases suf with
 |cons x suf=>exact absurd ht yli
 | nil=>
   obtain ⟨ks1,G1,h1,h2,h3⟩:=h hR.2 a G hR.1
   simp only[List.length_nil,List.range'_zero,wpOpsIn]
   rw[<-h1]
   exact ⟨ks1,G1,h2,rfl,h3⟩
theorem ygX {g:Option (Nat×Bool)} {fr:List (Nat×AV)} {d:Nat} {b:Bool} (e:g=some (d,b)) (h:lkF fr d= .bl b):gok g fr=true:=by
 subst e;simp only[gok,h];cases b<;>rfl
theorem yg3 {g:Option (Nat×Bool)} {fr:List (Nat×AV)} {d:Nat} {b c:Bool} (e:g=some (d,b)) (h:lkF fr d= .bl c) (hn:c≠b):gno g fr=true:=by
 subst e;simp only[gno,h];cases b<;>cases c<;>first|rfl|exact absurd rfl hn
theorem ypS {cl:List Nat}:∀ {ts:TS K} {ds:DS},GM P C R ts χ ds→GM P C R (clrs cl ts) χ (clrD cl ds):=by
 induction cl with
 |nil=>exact fun h=>h
 |cons c cl ih=>exact fun h=>ih (h.put (.un _))
theorem yqh {cl:List Nat}:∀ {ts:TS K},(clrs cl ts).rg=ts.rg:=by
 induction cl with
 |nil=>intro ts;rfl
 |cons c cl ih=>intro ts;exact ih.trans (yaW _ _ _)
variable (P C R B N ro) in
def YOk (rY:Nat) (Y:Option (Nat×(Nat→Option (Nat×Bool)→AOpd→List AOpd→TS K→(Bool→TS K→Prop)→Prop))):Prop:=∀y,Y=some y→∀(L:List AO) (i:Nat) (o:AO) (x:AOpd) (args:List AOpd) (ts:TS K) (χ:Nat→Nat→Bool) (ds:DS) (X:Bool→TS K→Prop) (Q:KS→Prop),
 L[i]? =some o->gok o.guard ds.fr=true->o.op= .calv x args->GM P C R ts χ ds->DOk ds->lkR ts.rg y.1=some (.yl rY)->y.2 N o.guard x args ts X->
 (∀b ts' χ' ks',GM P C R ts' χ' (ofK ks')->KOk ks'->ExtR ts.rg ts'.rg->X b ts'->WD P B N ro L (i+1) Q ((ofK ks').put o.dst (.bl b)))->WD P B N ro L i Q ds
theorem yqB (hB:ybR B) (hC:CxOk P C) {F:Cf K} (hF:F.C=C) (hS:SsOk P C F.S) (hL:SLOk P C F.L) (hN:F.N=N) {rY:Nat} (hY:YOk P C R B N ro rY F.Y) {o:AO} {X:TS K→Prop} {Q:KS→Prop} (e0:L[i]? =some o) (hγ:GM P C R ts χ ds) (hk:DOk ds) (hg:gok o.guard ds.fr=true) (hYI:∀y,F.Y=some y→lkR ts.rg y.1=some (.yl rY)) (h:step F false o ts X)
  (k:∀ts' χ' ds',GM P C R ts' χ' ds'->DOk ds'->X ts'->ExtR ts.rg ts'.rg->WD P B N ro L (i+1) Q ds'):WD P B N ro L i Q ds:=by
 have calls:∀ {f:FuncId} {us:List (TV K)} {vs:List AV},TL P C ts χ us vs→CalO o ds f vs→ymN F.C F.S ts o.dst f us X→WD P B N ro L i Q ds:=by
  intro f us vs ht ho h
  rw[hF] at h
  obtain ⟨vs',kl,d1,v,ts',χ',c1,c2,c3,c4,c5,_,_⟩:=yhI hC hS hγ hk ht ho h
  exact yj4 e0 hg c1 (k ts' χ' _ c2 c3.put c4 (.eq c5))
 have callL:∀ {f:FuncId} {us:List (TV K)} {vs:List AV} {sp:Sl K} {env:List (DV K)} {M:RM},TL P C ts χ us vs→CalO o ds f vs→ygL F.C ts f us F.L=some (sp,env,M)→yek F.C F.S false ts o.dst sp env M us X→WD P B N ro L i Q ds:=by
  intro f us vs sp env M ht ho hp h
  rw[hF] at h hp
  exact yoG hC hS hL e0 hg hγ ht ho hp h fun a b c d e f g=>k a b c d e f (.eq g)
 have rest:yjK o.op=true→step F true o ts X→WD P B N ro L i Q ds:=by
  intro hn h
  obtain ⟨e,ds',ts',χ',h1,h2,h3,h4,h5,h6⟩:=ykJ hC hγ hk hF hn h
  have hc:isMC o.op=false:=by cases hop:o.op<;>rw[hop] at hn<;>first|rfl|(cases hn;done)
  exact WD_e e0 hg (fun _=>h1) hc (k ts' χ' ds' h4 h1.ok h5 (.eq h6))
 cases ho:o.op with
 | call f args=>
   unfold step at h;rw[ho] at h
   simp only at h
   split at h
   ·rename_i sp env M hp
    exact callL (TL.tea hγ args) (.inl ⟨args,ho,rfl⟩) hp h
   ·exact calls (TL.tea hγ args) (.inl ⟨args,ho,rfl⟩) h
 | hk kk n xs cl=>
   unfold step at h;rw[ho] at h
   simp only at h
   split at h
   ·rename_i sp env M hp
    have hγ':GM P C R (clrs cl ts) χ (clrD cl ds):=ypS hγ
    rw[hF] at h hp
    exact ytK e0 ho fun hk'=>yh6 hC hS hL hγ' (yqP hk) (TL.tea hγ' xs) hp h fun a b c d e f g=>k a b c d e f (.eq (g.trans yqh))
   ·exact h.elim
 | calv x args=>
   unfold step at h;rw[ho] at h
   simp only at h
   have hx:=hγ.tev x
   split at h
   ·rename_i f a c ex
    rw[ex] at hx
    generalize hv:ev (lkF ds.fr) x=v at hx
    cases hx with
    | fn _ _ _ a' c' ha hc h1 h2=>
      split at h
      ·rename_i sp env M hp
       exact callL (((show TL P C ts χ a a' from ⟨ha,h1⟩).app (TL.tea hγ args)).app ⟨hc,h2⟩) (.inr ⟨x,args,a',c',ho,hv,rfl⟩) hp h
      ·exact calls (((show TL P C ts χ a a' from ⟨ha,h1⟩).app (TL.tea hγ args)).app ⟨hc,h2⟩) (.inr ⟨x,args,a',c',ho,hv,rfl⟩) h
   ·rename_i ps rs V ex
    rw[ex] at hx
    cases hx with
    | fv _ _ _ _ hV hv=>
      rw[hF] at h
      obtain ⟨f,vs,vs',kl,d1,w,ts',χ',c1,c2,c3,c4,c5,_⟩:=yjU hC hγ hk hV ho rfl hv (TL.tea hγ args) h
      exact yj4 e0 hg c1 (k ts' χ' _ c2 c3.put c4 (.eq c5))
   ·split at h
    ·rename_i id u y _ hu hy
     split at h
     ·rename_i hid
      rw[hN] at h
      refine hY y hy L i o x args ts χ ds _ Q e0 hg ho hγ hk (hYI y hy) h fun b ts' χ' ks' a1 a2 a3 a4=> ?_
      exact k _ χ' _ (a1.put (d:=o.dst) (TR.lb b)) (ydr a2).put a4 (by rw[yaW];exact a3)
     ·exact h.elim
    ·exact h.elim
   ·exact h.elim
 | len x=>
   cases hs:ysy F.N x with
   | false=>
     refine rest (by rw[ho];rfl) ?_
     unfold step at h⊢;rw[ho] at h⊢
     simp only[hs] at h⊢
     exact h
   | true=>
     unfold step at h;rw[ho] at h
     simp only[hs,Bool.not_true,Bool.or_false] at h
     unfold tlen at h
     split at h
     ·rename_i e l ex
      have hx:=hγ.tev x
      rw[ex] at hx
      cases x with
      |c v=>cases hs
      | t n=>
        obtain ⟨z,xs,hxs,hv⟩:=hx.sli
        refine yrK (t:=n) (by rw[<-hN];exact Nat.le_of_ble_eq_true hs) hv fun hm=> ?_
        refine rest (by rw[ho];rfl) ?_
        unfold step;rw[ho]
        simp only[Bool.true_or]
        unfold tlen
        rw[ex]
        exact h hm
     ·rename_i ex
      refine rest (by rw[ho];rfl) ?_
      unfold step;rw[ho];simp only[Bool.true_or];unfold tlen;rw[ex];exact h
     ·rename_i ex
      refine rest (by rw[ho];rfl) ?_
      unfold step;rw[ho];simp only[Bool.true_or];unfold tlen;rw[ex];exact h
     ·rename_i s c ex
      refine rest (by rw[ho];rfl) ?_
      unfold step;rw[ho];simp only[Bool.true_or];unfold tlen;rw[ex];exact h
     ·exact h.elim
 | eq g kind x y=>
   have other:(match tqv ts (.eq g kind x y) with|some (cs,v)=>andL cs (X (ts.put o.dst v))|none=>False)→WD P B N ro L i Q ds:=by
    intro h
    refine rest (by rw[ho];rfl) ?_
    unfold step;rw[ho];simp only[teqn];exact h
   unfold step at h;rw[ho] at h
   simp only[teqn] at h
   split at h
   ·exact other h
   ·rename_i hk4
    have hk4:=Nat.eq_of_beq_eq_true hk4
    subst hk4
    have hx:=hγ.tev x
    have hy:=hγ.tev y
    split at h
    ·rename_i e l ex
     rw[ex] at hx
     split at h
     ·rename_i ey
      rw[ey] at hy
      obtain ⟨z,xs,hxs,hv⟩:=hx.sli
      generalize hw:ev (lkF ds.fr) y=w at hy
      cases hy
      refine yr6 e0 hg ho hv hw fun b hb=> ?_
      exact k _ χ _ (hγ.put (TR.bl _)) hk.put (h b fun q=>List.length_eq_zero_iff.1 (hb q)) (.eq (yaW _ _ _))
     ·exact other h
    ·exact other h
 | _=>
   refine rest (by rw[ho];rfl) ?_
   unfold step at h⊢;rw[ho] at h⊢;exact h
theorem yna (hB:ybR B) (hC:CxOk P C) {F:Cf K} (hF:F.C=C) (hS:SsOk P C F.S) (hL:SLOk P C F.L) (hN:F.N=N) {rY:Nat} (hY:YOk P C R B N ro rY F.Y) {X:TS K→Prop} {Q:KS→Prop}:∀(L':List AO) (i:Nat) (ts:TS K) (χ:Nat→Nat→Bool) (ds:DS),L.drop i=L'→GM P C R ts χ ds→DOk ds→(∀y,F.Y=some y→lkR ts.rg y.1=some (.yl rY))→tops F L' ts X→
  (∀ts' χ' ds',GM P C R ts' χ' ds'->DOk ds'->X ts'->ExtR ts.rg ts'.rg->RE B N (toD ds') Q)->WD P B N ro L i Q ds
 | [],i,ts,χ,ds,e,hγ,hk,_,h,fin=>yrU e fun _=>fin ts χ ds hγ hk h .refl
 | o ::r,i,ts,χ,ds,e,hγ,hk,hYI,h,fin=>by
   have e0:L[i]? =some o:=by
    have:=congrArg (·[0]?) e
    simpa using this
   have e1:L.drop (i+1)=r:=by rw[<-List.drop_drop,e];rfl
   have next:∀ {ts ts2:TS K} {χ2:Nat→Nat→Bool} {ds2:DS},(∀ts' χ' ds',GM P C R ts' χ' ds'→DOk ds'→X ts'→ExtR ts.rg ts'.rg→RE B N (toD ds') Q)→(∀y,F.Y=some y→lkR ts.rg y.1=some (.yl rY))→GM P C R ts2 χ2 ds2→DOk ds2→tops F r ts2 X→ExtR ts.rg ts2.rg→WD P B N ro L (i+1) Q ds2:=by
    intro ts ts2 χ2 ds2 fin hYI a b c d
    exact yna hB hC hF hS hL hN hY r (i+1) ts2 χ2 ds2 e1 a b (fun y e=>d _ _ (hYI y e)) c fun ts3 χ3 ds3 p q s t=>fin ts3 χ3 ds3 p q s (d.trans t)
   have main:∀ {ts:TS K} {χ:Nat→Nat→Bool} {ds:DS},GM P C R ts χ ds→DOk ds→(∀y,F.Y=some y→lkR ts.rg y.1=some (.yl rY))→topg F o (fun t=>tops F r t X) ts→(∀ts' χ' ds',GM P C R ts' χ' ds'→DOk ds'→X ts'→ExtR ts.rg ts'.rg→RE B N (toD ds') Q)→WD P B N ro L i Q ds:=by
    intro ts χ ds hγ hk hYI h fin
    have run:∀ {ts0:TS K} {ds0:DS},GM P C R ts0 χ ds0→DOk ds0→ts0.rg=ts.rg→gok o.guard ds0.fr=true→step F false o ts0 (fun t=>tops F r t X)→WD P B N ro L i Q ds0:=by
     intro ts0 ds0 hγ0 hk0 hr hg hst
     exact yqB hB hC hF hS hL hN hY e0 hγ0 hk0 hg (by rw[hr];exact hYI) hst fun ts2 χ2 ds2 a b c d=>next fin hYI a b c ((ExtR.eq hr).trans d)
    have skip:∀ {ts0:TS K} {ds0:DS},GM P C R ts0 χ ds0→DOk ds0→ts0.rg=ts.rg→gno o.guard ds0.fr=true→tops F r (ts0.put o.dst (.tup [])) X→WD P B N ro L i Q ds0:=by
     intro ts0 ds0 hγ0 hk0 hr hg hst
     exact yrL e0 hg (next fin hYI (hγ0.put (.tup [] [] rfl (fun j u v h=>by simp at h))) hk0.put hst (.eq ((yaW _ _ _).trans hr)))
    unfold topg tgd at h
    split at h
    ·rename_i hg
     exact run hγ hk rfl (by rw[hg];rfl) h
    ·rename_i d b hg
     have hd:=(hγ.fr d).s
     split at h
     ·rename_i c hc
      rw[hc] at hd
      have hv:=hd.lbi
      split at h
      ·rename_i hcb
       have:c=b:=by cases c<;>cases b<;>first|rfl|cases hcb
       subst this
       exact run hγ hk rfl (ygX hg hv) h
      ·rename_i hcb
       exact skip hγ hk rfl (yg3 hg hv (by intro q;subst q;cases c<;>cases hcb)) h
     ·rename_i c hc
      rw[hc] at hd
      have hv:=hd.bli
      obtain ⟨h1,h2⟩:=h
      refine yqT hv (fun hb=> ?_) (fun hb=> ?_)
      ·have hh:=h1 hb
       have g1:=hγ.put (d:=some d) (TR.lb (P:=P) (C:=C) (ts:=ts) (χ:=χ) true)
       have v1:lkF (ds.put (some d) (.bl true)).fr d= .bl true:=by show lkF ((d, .bl true)::ds.fr) d=_;rw[yaJ];simp
       cases b with
       |true=>exact run g1 hk.put (yaW _ _ _) (ygX hg v1) hh
       |false=>exact skip g1 hk.put (yaW _ _ _) (yg3 hg v1 (by simp)) hh
      ·have hh:=h2 hb
       have g1:=hγ.put (d:=some d) (TR.lb (P:=P) (C:=C) (ts:=ts) (χ:=χ) false)
       have v1:lkF (ds.put (some d) (.bl false)).fr d= .bl false:=by show lkF ((d, .bl false)::ds.fr) d=_;rw[yaJ];simp
       cases b with
       |true=>exact skip g1 hk.put (yaW _ _ _) (yg3 hg v1 (by simp)) hh
       |false=>exact run g1 hk.put (yaW _ _ _) (ygX hg v1) hh
     ·rename_i hc
      rw[hc] at hd
      obtain ⟨vs,hv,hl,_⟩:=hd.tup'
      have:vs= []:=List.eq_nil_of_length_eq_zero hl
      subst this
      exact skip hγ hk rfl (by rw[hg];simp only[gno,hv]) h
     ·exact h.elim
   obtain ⟨hfr,hrg⟩:=yp6 (N:=N) (ts:=ts) hB hC hF (o:=o)
   rcases hfr with hq|hq
   ·rw[tops,hq] at h;exact main hγ hk hYI h fin
   ·rw[tops] at h
    exact ysY hB hq hk hγ fun ks ξ a b=>main b (ydr a) (by rw[hrg];exact hYI) h fun ts' χ' ds' p q s t=>fin ts' χ' ds' p q s (by rw[<-hrg];exact t)
end
section
structure LeF (f:Foot) (t:TFt):Prop where
 rk:∀k∈f.rk,(∃o,k= .h o)∨∃q∈t.rk,k= .l q.1 q.2
 wk:∀q∈f.wk,q∈t.wk
 wh:f.wh=false
 bs:∀s∈f.bs,(s,2)∈t.wk
theorem yfS:∀ {l:List (Nat×Nat)} {q:Nat×Nat},q∈l→memQ l q=true
 | p::r,q,h=>by
   show ((Nat.beq p.1 q.1&&Nat.beq p.2 q.2)||memQ r q)=true
   rcases List.mem_cons.1 h with rfl|h
   ·rw[nbeq.2 rfl,nbeq.2 rfl];rfl
   ·rw[yfS h,Bool.or_true]
theorem ysF {a b:Foot} {s t:TFt} (ha:LeF a s) (hb:LeF b t) (h:okT s t=true):okF a b:=by
 simp only[okT,Bool.and_eq_true,List.all_eq_true,Bool.not_eq_true'] at h
 obtain ⟨h1,h2⟩:=h
 have nk:∀ {q:Nat×Nat} {k:Key} {l:List (Nat×Nat)},memQ l q=false→((∃o,k= .h o)∨∃r∈l,k= .l r.1 r.2)→Key.l q.1 q.2≠k:=by
  rintro q k l hq (⟨o,rfl⟩|⟨r,hr,rfl⟩) e
  ·cases e
  ·simp only[Key.l.injEq] at e
   have:q=r:=Prod.ext e.1 e.2
   subst this
   rw[yfS hr] at hq;cases hq
 refine ⟨yaX.2 fun q hq=>⟨yaX.2 fun k hk=>nk (h1 q (ha.wk q hq)).1 (hb.rk k hk),yaX.2 fun r hr e=> ?_⟩,yaX.2 fun q hq=>yaX.2 fun k hk=>nk (h2 q (hb.wk q hq)) (ha.rk k hk),fun e=>(by rw[ha.wh] at e;cases e),fun e=>(by rw[hb.wh] at e;cases e),yaX.2 fun q hq=>yaX.2 fun r hr e=> ?_⟩
 ·subst e
  have:=(h1 q (ha.wk q hq)).2
  rw[yfS (hb.wk q hr)] at this;cases this
 ·subst e
  have:=(h1 (q,2) (ha.bs q hq)).2
  rw[yfS (hb.bs q hr)] at this;cases this
def LeA (acc:List Foot) (tacc:List TFt):Prop:=acc.length=tacc.length/\∀(j:Nat) (f:Foot) (t:TFt),acc[j]? =some f->tacc[j]? =some t->LeF f t
theorem LeA.snoc {acc:List Foot} {tacc:List TFt} {f:Foot} {t:TFt} (h:LeA acc tacc) (k:LeF f t):LeA (acc++ [f]) (tacc++ [t]):=by
 refine ⟨by simp[h.1],fun j g s a b=> ?_⟩
 by_cases hj:j<acc.length
 ·rw[List.getElem?_append_left hj] at a
  rw[List.getElem?_append_left (by rw[<-h.1];exact hj)] at b
  exact h.2 j g s a b
 ·rw[List.getElem?_append_right (by omega)] at a
  rw[List.getElem?_append_right (by rw[<-h.1];omega),<-h.1] at b
  cases hq:j-acc.length with
  |zero=>rw[hq] at a b;simp at a b;subst a;subst b;exact k
  |succ m=>rw[hq] at a;simp at a
theorem yhv {f:Foot} {t:TFt} {acc:List Foot} {tacc:List TFt} (hf:LeF f t) (ha:LeA acc tacc):∀(fre:List Nat),okTs t tacc fre=true→yfh f acc fre
 | [],_=>trivial
 | j ::r,h=>by
   simp only[okTs,Bool.and_eq_true] at h
   refine ⟨?_,yhv hf ha r h.2⟩
   show wpo acc[j]? (okF f)
   cases hj:acc[j]? with
   |none=>trivial
   | some g=>
     have hlt:j<tacc.length:=by rw[<-ha.1];exact (List.getElem?_eq_some_iff.1 hj).1
     have ht:tacc[j]? =some tacc[j]:=List.getElem?_eq_getElem hlt
     rw[ht] at h
     exact ysF hf (ha.2 j g _ hj ht) h.1
def LeK (l:List Key) (t:List (Nat×Nat)):Prop:=∀k∈l,(∃o,k= .h o)∨∃q∈t,k= .l q.1 q.2
theorem LeK.app {a b:List Key} {s t:List (Nat×Nat)} (h:LeK a s) (k:LeK b t):LeK (a++b) (s++t):=by
 intro x hx
 rcases List.mem_append.1 hx with hx|hx
 ·rcases h x hx with q|⟨r,hr,e⟩
  ·exact .inl q
  ·exact .inr ⟨r,List.mem_append_left _ hr,e⟩
 ·rcases k x hx with q|⟨r,hr,e⟩
  ·exact .inl q
  ·exact .inr ⟨r,List.mem_append_right _ hr,e⟩
theorem LeK.nil {t:List (Nat×Nat)}:LeK [] t:=fun k h=>by cases h
theorem TR.hascn {u:TV K} {v:AV} (h:TR P C ts χ u v):∀id w,u.s≠ .cn id w:=by
 intro id w e
 cases h with
 |cn id' u v h hn hv=>simp only[TV.s] at e;rw[e] at hn;cases hn
 |_=>cases e
theorem yhk {v:AV} (h:v.noL=true):LeK (keyOf v) []∧LeK (key1 v) []:=by
 cases v with
 | gs k n=>cases k with
   |h o=>exact ⟨fun k hk=>by simp[keyOf] at hk;exact .inl ⟨o,hk⟩,fun k hk=>by simp[key1] at hk;exact .inl ⟨o,hk⟩⟩
   |l d c=>cases h
 | pt k n=>cases k with
   |h o=>exact ⟨fun k hk=>by simp[keyOf] at hk;exact .inl ⟨o,hk⟩,fun k hk=>by simp[key1] at hk;exact .inl ⟨o,hk⟩⟩
   |l d c=>cases h
 | agg cs=>
   refine ⟨fun k hk=> ?_, .nil⟩
   simp only[keyOf,List.mem_flatMap] at hk
   obtain ⟨x,hx,hk⟩:=hk
   have hn:x.noL=true:=yd3.1 (show noLs cs=true from h) x hx
   cases x with
   | gs q n=>cases q with
     |h o=>simp[key1] at hk;exact .inl ⟨o,hk⟩
     |l d c=>cases hn
   | pt q n=>cases q with
     |h o=>simp[key1] at hk;exact .inl ⟨o,hk⟩
     |l d c=>cases hn
   |_=>simp[key1] at hk
 |_=>exact ⟨.nil, .nil⟩
theorem ylZ {u:TV K} {v:AV} {l:List (Nat×Nat)} (h:TR P C ts χ u v) (hl:tky1 ts u=some l):LeK (key1 v) l∧((∀vs,v≠ .agg vs)→LeK (keyOf v) l):=by
 have hs:=h.s
 have hc:=h.hascn
 unfold tky1 at hl
 revert hs hc hl
 generalize u.s=w
 intro hl hs hc
 have no:∀ {v:AV} {l:List (Nat×Nat)},v.noL=true→LeK (key1 v) l∧((∀vs,v≠ .agg vs)→LeK (keyOf v) l):=by
  intro v l hv
  obtain ⟨a,b⟩:=yhk hv
  have up:∀ {x:List Key},LeK x []->LeK x l:=fun hx k hk=>(hx k hk).imp id (fun ⟨q,hq,_⟩=>by cases hq)
  exact ⟨up b,fun _=>up a⟩
 cases hs with
 |un v=>cases hl
 |lb b=>exact no rfl
 |bl b=>exact no rfl
 |li k n=>exact no rfl
 |it k n=>exact no rfl
 |st s=>exact no rfl
 |agg us vs _ _=>exact ⟨.nil,fun hn=>absurd rfl (hn vs)⟩
 |tup us vs _ _=>exact ⟨.nil,fun _=> .nil⟩
 |nil=>exact no rfl
 |em z=>exact no rfl
 |sl e l z n xs hn hx=>exact no rfl
 |rwd s c v hr hn ho=>simp only[hn] at hl;cases hl
 | rw s c n hr hn hx=>
   simp only[hn,Option.some.injEq] at hl;subst hl
   exact ⟨fun k hk=>by simp[key1] at hk;exact .inr ⟨_,List.mem_singleton.2 rfl,hk⟩,fun _ k hk=>by simp[keyOf] at hk;exact .inr ⟨_,List.mem_singleton.2 rfl,hk⟩⟩
 |rwn s c hr h hx=>exact no rfl
 | px s c off hr=>
   cases hl
   exact ⟨fun k hk=>by simp[key1] at hk;exact .inr ⟨_,List.mem_singleton.2 rfl,hk⟩,fun _ k hk=>by simp[keyOf] at hk;exact .inr ⟨_,List.mem_singleton.2 rfl,hk⟩⟩
 | pr e s c i of hr hx=>
   cases hl
   exact ⟨fun k hk=>by simp[key1] at hk;exact .inr ⟨_,List.mem_singleton.2 rfl,hk⟩,fun _ k hk=>by simp[keyOf] at hk;exact .inr ⟨_,List.mem_singleton.2 rfl,hk⟩⟩
 |ep e l i of xs hx=>exact no rfl
 |gs l i xs hx=>exact no rfl
 |nptr=>exact no rfl
 |fn f a c a' c' _ _ _ _=>exact ⟨.nil,fun _=> .nil⟩
 |fv ps rs F v h hv=>exact no (by rw[<-ydk,hv];exact h.1)
 |yl r=>exact no rfl
 |cn id u v h hn hv=>exact absurd rfl (hc id u)
theorem yex {f:TV K→Option (List (Nat×Nat))} {g:AV→List Key} (hf:∀u v l,TR P C ts χ u v→f u=some l→LeK (g v) l):∀(us:List (TV K)) (vs:List AV) (l:List (Nat×Nat)),TL P C ts χ us vs→tkys ts f us=some l→LeK (vs.flatMap g) l
 | [],vs,l,t,h=>by
   have:vs= []:=List.eq_nil_of_length_eq_zero t.1
   subst this;exact .nil
 | u ::us,vs,l,t,h=>by
   cases vs with
   |nil=>simp[TL] at t
   | cons v vs=>
     simp only[tkys] at h
     split at h
     ·rename_i a b h1 h2
      cases h
      rw[List.flatMap_cons]
      exact (hf u v a t.head.1 h1).app (yex hf us vs b t.head.2 h2)
     ·cases h
theorem yiv {u:TV K} {v:AV} {l:List (Nat×Nat)} (h:TR P C ts χ u v) (hl:tky ts u=some l):LeK (keyOf v) l:=by
 unfold tky at hl
 split at hl
 ·rename_i cs e
  have hs:=h.s
  rw[e] at hs
  obtain ⟨vs,rfl,a,b⟩:=hs.agg'
  exact yex (g:=key1) (fun u v l h hl=>(ylZ h hl).1) cs vs l ⟨a,b⟩ hl
 ·rename_i hne
  refine (ylZ h hl).2 ?_
  rintro vs rfl
  have hs:=h.s
  have hc:=h.hascn
  have hdead:u.s≠ .un:=by
   intro e;unfold tky1 at hl;rw[e] at hl;cases hl
  revert hs hc hne hdead
  generalize u.s=w
  intro hne hs hc hdead
  cases hs with
  |un v=>exact hdead rfl
  |agg us vs _ _=>exact hne _ rfl
  |rwd s c v hr h ho=>cases ho
  |fv ps rs F v h hv=>obtain ⟨_,_,h1,_⟩:=h;rw[<-hv] at h1;cases h1
  |cn id u v h hn hv=>exact hc _ _ rfl
theorem ynx {u:AOp} (hγ:GM P C R ts χ ds) {l:List (Nat×Nat)} (h:tkys ts (tky ts) ((opds u).map (tea ts.fr))=some l):LeK ((opds u).flatMap fun x=>keyOf (ev (lkF ds.fr) x)) l:=by
 have:=yex (g:=keyOf) (fun u v l h hl=>yiv h hl) _ _ l (TL.tea hγ (opds u)) h
 rw[List.flatMap_map] at this
 exact this
theorem LeF.skip:LeF yda ⟨[],[]⟩:=⟨fun k h=>(by cases h),fun q h=>(by cases h),rfl,fun s h=>(by cases h)⟩
variable {LD:List (AO×List Nat)} {QD:St->Prop} {i:Nat} {acc:List Foot}
theorem yod {o:AO} {fre:List Nat} {f:FuncId} {vs vs':List AV} {kl:List (Nat×Nat)} {d1:DS} {v:AV} (e0:LD[i]? =some (o,fre)) (hg:gok o.guard ds.fr=true) (hc:ynq P o ds f vs vs' kl d1 v)
  (hf:yfh (yby o.op (toD ds) ⟨v,kl.map (fun k=>(k,none)),[],none⟩) acc fre) (k:DD P LD (i+1) (acc++ [yby o.op (toD ds) ⟨v,kl.map (fun k=>(k,none)),[],none⟩]) QD (d1.put o.dst v)):DD P LD i acc QD ds:=by
 refine ynj e0 hg fun hk=> ?_
 have hmst:REff.mst ⟨v,kl.map (fun k=>(k,none)),[],none⟩ (toD ds)=toD d1∧ygi P (.f f) vs (toD ds) ⟨v,kl.map (fun k=>(k,none)),[],none⟩∧DOk d1:=by
  rcases hc.way with hw|⟨rfl,rfl,rfl,hfl⟩
  ·obtain ⟨a1,a2,a3,_⟩:=yfV vs ds vs' kl d1 hk hw
   have hmst:REff.mst ⟨v,kl.map (fun k=>(k,none)),[],none⟩ (toD ds)=toD d1:=by
    have h1:(pubL vs (toD ds)).2=(toD ds).kills (pkL vs (toD ds)):=yl8 vs (toD ds)
    rw[a1,a2] at h1
    simp only at h1
    rw[h1]
    unfold REff.mst St.kills REff.cntF
    simp only[St.mk.injEq,ydY,true_and,and_true]
    funext q
    have:∀(l:List (Nat×Nat)) (M:Key→Option Blk),List.foldl (fun M (p:Key×Option Blk)=>updK M p.1 p.2) M ((l.map fun k=>(k,(none:Option Blk))).map fun p=>(Key.l p.1.1 p.1.2,p.2))=l.foldl (fun M k=>updK M (.l k.1 k.2) none) M:=by
     intro l
     induction l with
     |nil=>intro M;rfl
     |cons a l ih=>intro M;simp only[List.map_cons,List.foldl_cons];exact ih _
    show (List.foldl (fun M (p:Key×Option Blk)=>updK M p.1 p.2) (toD ds).M ((kl.map fun k=>(k,(none:Option Blk))).map fun p=>(Key.l p.1.1 p.1.2,p.2))) q=_
    rw[this]
   exact ⟨hmst, .inl ⟨rfl,by rw[a2],yfy a1 hc.nl hc.pure ⟨rfl,hmst.symm⟩⟩,a3⟩
  ·exact ⟨ybZ v _, .inr (.inl ⟨rfl,f,v,rfl,hc.nl,fun H n=>yay.dwkA (hc.pure H n),hfl,rfl⟩),hk⟩
 obtain ⟨hmst,hE,a3⟩:=hmst
 have fin:∀K:REff→Prop,K ⟨v,kl.map (fun k=>(k,none)),[],none⟩→eop (fun _=>false) P o.op o.dst (toD ds) K:=by
  intro K hK
  rcases hc.ho with ⟨args,h1,h2⟩|⟨x,args,first,cap,h1,h2,h3⟩
  ·rw[h1];simp only[eop];rw[ybk,h2];exact ⟨_,hE,hK⟩
  ·rw[h1];simp only[eop];rw[ybk,h2];simp only;rw[h3];exact ⟨_,hE,hK⟩
 refine fin _ ⟨hf,?_⟩
 rw[show REff.app ⟨v,kl.map (fun k=>(k,none)),[],none⟩ o.dst (toD ds)=toD (d1.put o.dst v) by unfold REff.app;rw[hmst,yaZ]]
 exact k a3.put
theorem ysb {o:AO} {fre:List Nat} {e:REff} {ds':DS} (e0:LD[i]? =some (o,fre)) (hg:gok o.guard ds.fr=true) (h:Eff o.op o.dst ds e ds') (hc:isMC o.op=false) (hf:yfh (yby o.op (toD ds) e) acc fre) (k:DD P LD (i+1) (acc++ [yby o.op (toD ds) e]) QD ds'):DD P LD i acc QD ds:=by
 refine ynj e0 hg fun hk=> ?_
 obtain ⟨h1,h2,h3⟩:=h
 have hE:∀K:REff→Prop,K e→eop (fun _=>false) P o.op o.dst (toD ds) K:=by
  intro K hK
  cases hop:o.op<;>rw[hop] at h1 hc<;>first|(cases hc;done)|(simp only[eop];rw[h1];exact hK)
 refine hE _ ⟨hf,?_⟩
 rw[h2]
 exact k h3
theorem yfa:∀ {us:List (TV K)} {q:Nat×Nat},(∃u∈us,u.s= .rw q.1 q.2)→q∈yji us
 | [],_,⟨u,h,_⟩=>by cases h
 | v::us,q,⟨u,h,e⟩=>by
   simp only[yji]
   rcases List.mem_cons.1 h with rfl|h
   ·rw[e];simp
   ·have:=yfa ⟨u,h,e⟩
    split
    ·exact List.mem_cons_of_mem _ this
    ·exact this
theorem yfc {q:Nat×Nat}:∀ {us:List (TV K)} {l:List (Nat×Nat)},tkys ts (tky ts) us=some l→(∃u∈us,u.s= .rw q.1 q.2)→q∈l
 | [],_,_,⟨u,h,_⟩=>by cases h
 | v ::us,l,h,⟨u,hu,e⟩=>by
   simp only[tkys] at h
   split at h
   ·rename_i a b h1 h2
    cases h
    rcases List.mem_cons.1 hu with rfl|hu
    ·refine List.mem_append_left _ ?_
     unfold tky at h1
     rw[e] at h1
     simp only at h1
     unfold tky1 at h1
     rw[e] at h1
     simp only at h1
     split at h1
     ·cases h1;simp
     ·cases h1
    ·exact List.mem_append_right _ (yfc h2 ⟨u,hu,e⟩)
   ·cases h
theorem yrp (hC:CxOk P C) {F:Cf K} (hF:F.C=C) (hS:SsOk P C F.S) (hL:SLOk P C F.L) {o:AO} {fre:List Nat} {tacc:List TFt} {Rn:List TFt→TS K→Prop} (e0:LD[i]? =some (o,fre)) (hγ:GM P C R ts χ ds) (hk:DOk ds) (hg:gok o.guard ds.fr=true) (ha:LeA acc tacc) (h:yll F o fre tacc Rn ts)
  (k:∀acc' tacc' ts' χ' ds',LeA acc' tacc'->GM P C R ts' χ' ds'->DOk ds'->Rn tacc' ts'->ts'.rg=ts.rg->DD P LD (i+1) acc' QD ds'):DD P LD i acc QD ds:=by
 unfold yll at h
 split at h
 rotate_left
 ·exact h.elim
 rename_i t ht
 split at h
 rotate_left
 ·exact h.elim
 rename_i hok
 have calls:∀ {f:FuncId} {vs vs':List AV} {kl:List (Nat×Nat)} {d1:DS} {v:AV} {ts':TS K} {χ':Nat→Nat→Bool},ynq P o ds f vs vs' kl d1 v→GM P C R ts' χ' (d1.put o.dst v)→DOk d1→Rn (tacc++ [t]) ts'→ts'.rg=ts.rg→LeK (rkOf o.op (toD ds)) t.rk→(∀q∈kl,q∈t.wk)→(∀q∈kl,q∈t.rk)→DD P LD i acc QD ds:=by
  intro f vs vs' kl d1 v ts' χ' c1 c2 c3 c4 c5 hrk hwk hwr
  have hle:LeF (yby o.op (toD ds) ⟨v,kl.map (fun k=>(k,none)),[],none⟩) t:=by
   refine ⟨fun k hk'=> ?_,fun q hq=>hwk q ?_,rfl,fun s hs=>by cases hs⟩
   ·rcases List.mem_append.1 hk' with hq|hq
    ·exact hrk k hq
    ·have hic:yfv o.op=true:=by rcases c1.ho with ⟨args,h1,_⟩|⟨x,args,first,cap,h1,_⟩<;>rw[h1]<;>rfl
     rw[hic] at hq
     obtain ⟨p,hp,rfl⟩:=List.mem_map.1 hq
     obtain ⟨q,hq',rfl⟩:=List.mem_map.1 hp
     exact .inr ⟨q,hwr q hq',rfl⟩
   have hq':q∈(kl.map fun k=>(k,(none:Option Blk))).map (·.1):=hq
   simpa using hq'
  exact yod e0 hg c1 (yhv hle ha fre hok) (k _ _ ts' χ' _ (ha.snoc hle) c2 c3.put c4 c5)
 have callL:∀ {f:FuncId} {us:List (TV K)} {vs:List AV} {sp:Sl K} {env:List (DV K)} {M:RM} {l:List (Nat×Nat)},TL P C ts χ us vs→CalO o ds f vs→ygL C ts f us F.L=some (sp,env,M)→yek C F.S true ts o.dst sp env M us (Rn (tacc++ [t]))→LeK (rkOf o.op (toD ds)) l→t=⟨l++plcs sp o.dst M,plcs sp o.dst M⟩→DD P LD i acc QD ds:=by
  intro f us vs sp env M l ht ho hp h hrk het
  refine yoc hC hS hL e0 hg hγ hk ht ho hp h fun e ts' χ' ds' a1 a2 a3 a4 a5 a6 a7=> ?_
  have hle:LeF (yby o.op (toD ds) e) t:=by
   rw[het]
   refine ⟨fun k hk'=> ?_,fun q hq=>a1 q hq,by show e.H.isSome=false;rw[a2];rfl,fun s hs=>a3 s hs⟩
   rcases List.mem_append.1 hk' with hq|hq
   ·rcases hrk k hq with r|⟨r,hr,e⟩
    ·exact .inl r
    ·exact .inr ⟨r,List.mem_append_left _ hr,e⟩
   ·have hic:yfv o.op=true:=by rcases ho with ⟨args,h1,_⟩|⟨x,args,first,cap,h1,_⟩<;>rw[h1]<;>rfl
    rw[hic] at hq
    obtain ⟨p,hp,rfl⟩:=List.mem_map.1 hq
    exact .inr ⟨p.1,List.mem_append_right _ (a1 p.1 (List.mem_map_of_mem (f:=(·.1)) hp)),rfl⟩
  exact ⟨yhv hle ha fre hok,k _ _ ts' χ' ds' (ha.snoc hle) a4 a5 a6 a7⟩
 have rest:yjK o.op=true→DD P LD i acc QD ds:=by
  intro hn
  obtain ⟨e,ds',ts',χ',h1,h2,h3,h4,h5,h6⟩:=ykJ hC hγ hk hF hn h
  have hc:isMC o.op=false:=by cases hop:o.op<;>rw[hop] at hn<;>first|rfl|(cases hn;done)
  have hle:LeF (yby o.op (toD ds) e) t:=by
   by_cases hmv:∃x,o.op= .mv x
   ·obtain ⟨x,hop⟩:=hmv
    unfold tft at ht
    rw[hop] at ht
    cases ht
    have hE:effA (fun _=>false) o.op o.dst (toD ds)=some e:=h1.1
    rw[hop] at hE
    simp only[effA,pval,effP,Option.map_some,Option.some.injEq] at hE
    subst hE
    rw[hop]
    exact ⟨fun k h=>(by cases h),fun q h=>(by cases h),rfl,fun s h=>(by cases h)⟩
   have ht':∃l,tkys ts (tky ts) ((opds o.op).map (tea ts.fr))=some l∧t=⟨l,twk' ts o⟩:=by
    unfold tft at ht
    cases hop:o.op<;>rw[hop] at ht hn<;>first|(cases hn;done)|skip
    case mv x=>exact absurd ⟨x,hop⟩ hmv
    all_goals
     simp only at ht
     split at ht
     ·rename_i l hl;cases ht;exact ⟨l,hl,rfl⟩
     ·cases ht
   obtain ⟨l,hl,rfl⟩:=ht'
   have hrk:=ynx hγ hl
   have hnc:yfv o.op=false:=by cases hop:o.op<;>rw[hop] at hn<;>first|rfl|(cases hn;done)
   refine ⟨?_,fun q hq=> ?_,by show e.H.isSome=false;rw[h3];rfl,fun s hs=> ?_⟩
   rotate_right
   ·have hE:effA (fun _=>false) o.op o.dst (toD ds)=some e:=by cases hop:o.op<;>rw[hop] at hn<;>first|(cases hn;done)|(rw[← hop];exact h1.1)
    obtain ⟨al,rfl⟩:=yoq hE hs
    show _∈twk' ts o
    unfold twk'
    cases hop:o.op<;>rw[hop] at al hn<;>first|(cases al;done)|(cases hn;done)|simp
   ·show LeK (rkOf o.op (toD ds)++_) l
    rw[hnc]
    simp only[List.append_nil]
    have:rkOf o.op (toD ds)=(opds o.op).flatMap fun x=>keyOf (ev (lkF ds.fr) x):=by
     cases hop:o.op<;>rw[hop] at hn<;>first|rfl|(cases hn;done)|skip
     case mv x=>exact absurd ⟨x,hop⟩ hmv
    rw[this];exact hrk
   ·have hq':q∈e.mem.map (·.1):=hq
    obtain ⟨x,hx,rfl⟩:=List.mem_map.1 hq'
    exact h2 x hx
  exact ysb e0 hg h1 hc (yhv hle ha fre hok) (k _ _ ts' χ' ds' (ha.snoc hle) h4 h1.ok h5 h6)
 cases ho:o.op with
 | call f args=>
   have h0:=h
   unfold step at h;rw[ho] at h
   simp only at h
   unfold tft at ht;rw[ho] at ht
   simp only at ht
   split at ht
   ·rename_i l hl
    split at h
    ·rename_i sp env M hp
     rw[hp] at ht
     cases ht
     rw[hF] at h hp
     have hrk:=yex (g:=keyOf) (fun u v l h hl=>yiv h hl) _ _ l (TL.tea hγ args) hl
     rw[List.flatMap_map] at hrk
     exact callL (TL.tea hγ args) (.inl ⟨args,ho,rfl⟩) hp h (by rw[ho];exact hrk) rfl
    rename_i hp
    rw[hp] at ht
    rw[hF] at h ht
    cases ht
    obtain ⟨vs',kl,d1,v,ts',χ',c1,c2,c3,c4,c5,c7,c6⟩:=yhI hC hS hγ hk (TL.tea hγ args) (.inl ⟨args,ho,rfl⟩) h
    have hrk:=yex (g:=keyOf) (fun u v l h hl=>yiv h hl) _ _ l (TL.tea hγ args) hl
    rw[List.flatMap_map] at hrk
    refine calls c1 c2 c3 c4 c5 (by rw[ho];exact hrk) (fun q hq=> ?_) ?_
    cases hfl:flS C F.S f with
    |true=>rw[c7 hfl] at hq;cases hq
    |false=>exact yfa (c6 q hq)
    ·exact fun q hq=>yfc hl (c6 q hq)
   ·cases ht
 | calv x args=>
   unfold step at h;rw[ho] at h
   simp only at h
   unfold tft at ht;rw[ho] at ht
   simp only at ht
   split at ht
   rotate_left
   ·cases ht
   rename_i ca l hca hl
   have hrk:=yex (g:=keyOf) (fun u v l h hl=>yiv h hl) _ _ l (TL.tea hγ args) hl
   rw[List.flatMap_map] at hrk
   have hx:=hγ.tev x
   split at h
   ·rename_i f a c ex
    rw[ex] at hx
    rw[ex] at ht
    simp only at ht
    generalize hv:ev (lkF ds.fr) x=w at hx
    cases hx with
    | fn _ _ _ a' c' ha' hc' h1 h2=>
      have ta:TL P C ts χ a a':=⟨ha',h1⟩
      have tc:TL P C ts χ c c':=⟨hc',h2⟩
      have hrk':LeK (rkOf o.op (toD ds)) (ca++l):=by
       rw[ho]
       show LeK (yle (ev (lkF ds.fr) x)++args.flatMap fun y=>keyOf (ev (lkF ds.fr) y)) _
       rw[hv]
       refine LeK.app ?_ hrk
       unfold yqy at hca
       have ex':(tea ts.fr x).s= .fn f a c:=ex
       rw[ex'] at hca
       have:=yex (g:=keyOf) (fun u v l h hl=>yiv h hl) _ _ ca (ta.app tc) hca
       rw[List.flatMap_append] at this
       exact this
      split at h
      ·rename_i sp env M hp
       rw[hp] at ht
       cases ht
       rw[hF] at h hp
       exact callL ((ta.app (TL.tea hγ args)).app tc) (.inr ⟨x,args,a',c',ho,hv,rfl⟩) hp h hrk' rfl
      rename_i hp
      rw[hp] at ht
      cases ht
      rw[hF] at h
      obtain ⟨vs',kl,d1,v,ts',χ',c1,c2,c3,c4,c5,_,c6⟩:=yhI hC hS hγ hk ((ta.app (TL.tea hγ args)).app tc) (.inr ⟨x,args,a',c',ho,hv,rfl⟩) h
      refine calls c1 c2 c3 c4 c5 hrk' (fun q hq=>yfa (c6 q hq)) (fun q hq=>by
       obtain ⟨u,hu,e⟩:=c6 q hq
       have hca':tkys ts (tky ts) (a++c)=some ca:=by
        unfold yqy at hca
        rw[show (tea ts.fr x).s= .fn f a c from ex] at hca
        exact hca
       rcases List.mem_append.1 hu with hu|hu
       ·rcases List.mem_append.1 hu with hu|hu
        ·exact List.mem_append_left _ (yfc hca' ⟨u,List.mem_append_left _ hu,e⟩)
        ·exact List.mem_append_right _ (yfc hl ⟨u,hu,e⟩)
       ·exact List.mem_append_left _ (yfc hca' ⟨u,List.mem_append_right _ hu,e⟩))
   ·rename_i ps rs V ex
    rw[ex] at hx
    rw[ex] at ht
    cases ht
    generalize hv:ev (lkF ds.fr) x=w at hx
    cases hx with
    | fv _ _ _ _ hV hv'=>
      rw[hF] at h
      obtain ⟨f,vs,vs',kl,d1,v,ts',χ',c1,c2,c3,c4,c5,c6⟩:=yjU hC hγ hk hV ho hv hv' (TL.tea hγ args) h
      refine calls c1 c2 c3 c4 c5 ?_ (fun q hq=>yfa (c6 q hq)) (fun q hq=>List.mem_append_right _ (yfc hl (c6 q hq)))
      rw[ho]
      show LeK (yle (ev (lkF ds.fr) x)++args.flatMap fun y=>keyOf (ev (lkF ds.fr) y)) _
      rw[hv]
      refine LeK.app ?_ hrk
      obtain ⟨g1,_,_,f',a,c,g4,_⟩:=hV
      rw[<-hv',ydk] at g1
      cases w with
      | fn f0 a0 c0=>
        simp only[AV.noL,Bool.and_eq_true] at g1
        intro q hq
        simp only[yle,List.mem_append,List.mem_flatMap] at hq
        rcases hq with ⟨y,hy,hq⟩|⟨y,hy,hq⟩
        ·rcases (yhk (yd3.1 g1.1 y hy)).1 q hq with r|⟨r,hr,_⟩
         ·exact .inl r
         ·cases hr
        ·rcases (yhk (yd3.1 g1.2 y hy)).1 q hq with r|⟨r,hr,_⟩
         ·exact .inl r
         ·cases hr
      |_=>exact .nil
   ·exact absurd h (by simp)
   ·exact h.elim
 |_=>exact rest (by rw[ho];rfl)
theorem ylD (hC:CxOk P C) {F:Cf K} (hF:F.C=C) (hS:SsOk P C F.S) (hL:SLOk P C F.L) {X:TS K→Prop} {Q:KS→Prop}:∀(L':List (AO×List Nat)) (i:Nat) (acc:List Foot) (tacc:List TFt) (ts:TS K) (χ:Nat→Nat→Bool) (ds:DS),LD.drop i=L'→LeA acc tacc→GM P C R ts χ ds→DOk ds→tdrw F L' tacc ts X→
  (∀ts' χ' ds',GM P C R ts' χ' ds'->DOk ds'->X ts'->ExtR ts.rg ts'.rg->RE B N (toD ds') Q)->DD P LD i acc (fun S=>RE B N S Q) ds
 | [],i,acc,tacc,ts,χ,ds,e,ha,hγ,hk,h,fin=>by
   have _:=(inferInstance:GB P B)
   intro _
   rw[e]
   exact fin ts χ ds hγ hk h .refl
 | (o,fre)::r,i,acc,tacc,ts,χ,ds,e,ha,hγ,hk,h,fin=>by
   have e0:LD[i]? =some (o,fre):=by
    have:=congrArg (·[0]?) e
    simpa using this
   have e1:LD.drop (i+1)=r:=by rw[<-List.drop_drop,e];rfl
   have next:∀ {ts2:TS K} {χ2:Nat→Nat→Bool} {ds2:DS} {acc2:List Foot} {tacc2:List TFt},LeA acc2 tacc2→GM P C R ts2 χ2 ds2→DOk ds2→tdrw F r tacc2 ts2 X→ts2.rg=ts.rg→DD P LD (i+1) acc2 (fun S=>RE B N S Q) ds2:=by
    intro ts2 χ2 ds2 acc2 tacc2 la a b c d
    exact ylD hC hF hS hL r (i+1) acc2 tacc2 ts2 χ2 ds2 e1 la a b c fun ts3 χ3 ds3 p q s t=>fin ts3 χ3 ds3 p q s (by rw[<-d];exact t)
   have run:∀ {ts0:TS K} {ds0:DS},GM P C R ts0 χ ds0→DOk ds0→ts0.rg=ts.rg→gok o.guard ds0.fr=true→yll F o fre tacc (fun acc t=>tdrw F r acc t X) ts0→DD P LD i acc (fun S=>RE B N S Q) ds0:=by
    intro ts0 ds0 hγ0 hk0 hr hg hst
    exact yrp hC hF hS hL e0 hγ0 hk0 hg ha hst fun acc2 tacc2 ts2 χ2 ds2 la a b c d=>next la a b c (d.trans hr)
   have skip:∀ {ts0:TS K} {ds0:DS},GM P C R ts0 χ ds0→DOk ds0→ts0.rg=ts.rg→gno o.guard ds0.fr=true→tdrw F r (tacc++ [⟨[],[]⟩]) (ts0.put o.dst (.tup [])) X→DD P LD i acc (fun S=>RE B N S Q) ds0:=by
    intro ts0 ds0 hγ0 hk0 hr hg hst
    exact yr2 e0 hg (next (ha.snoc LeF.skip) (hγ0.put (.tup [] [] rfl (fun j u v h=>by simp at h))) hk0.put hst ((yaW _ _ _).trans hr))
   rw[tdrw] at h
   unfold tdg tgd at h
   split at h
   ·rename_i hg
    exact run hγ hk rfl (by rw[hg];rfl) h
   ·rename_i d b hg
    have hd:=(hγ.fr d).s
    split at h
    ·rename_i c hc
     rw[hc] at hd
     have hv:=hd.lbi
     split at h
     ·rename_i hcb
      have:c=b:=by cases c<;>cases b<;>first|rfl|cases hcb
      subst this
      exact run hγ hk rfl (ygX hg hv) h
     ·rename_i hcb
      exact skip hγ hk rfl (yg3 hg hv (by intro q;subst q;cases c<;>cases hcb)) h
    ·rename_i c hc
     rw[hc] at hd
     have hv:=hd.bli
     obtain ⟨h1,h2⟩:=h
     refine yqu hv (fun hb=> ?_) (fun hb=> ?_)
     ·have hh:=h1 hb
      have g1:=hγ.put (d:=some d) (TR.lb (P:=P) (C:=C) (ts:=ts) (χ:=χ) true)
      have v1:lkF (ds.put (some d) (.bl true)).fr d= .bl true:=by show lkF ((d, .bl true)::ds.fr) d=_;rw[yaJ];simp
      cases b with
      |true=>exact run g1 hk.put (yaW _ _ _) (ygX hg v1) hh
      |false=>exact skip g1 hk.put (yaW _ _ _) (yg3 hg v1 (by simp)) hh
     ·have hh:=h2 hb
      have g1:=hγ.put (d:=some d) (TR.lb (P:=P) (C:=C) (ts:=ts) (χ:=χ) false)
      have v1:lkF (ds.put (some d) (.bl false)).fr d= .bl false:=by show lkF ((d, .bl false)::ds.fr) d=_;rw[yaJ];simp
      cases b with
      |true=>exact skip g1 hk.put (yaW _ _ _) (yg3 hg v1 (by simp)) hh
      |false=>exact run g1 hk.put (yaW _ _ _) (ygX hg v1) hh
    ·rename_i hc
     rw[hc] at hd
     obtain ⟨vs,hv,hl,_⟩:=hd.tup'
     have:vs= []:=List.eq_nil_of_length_eq_zero hl
     subst this
     exact skip hγ hk rfl (by rw[hg];simp only[gno,hv]) h
    ·exact h.elim
theorem yos (hB:ybR B) (hC:CxOk P C) {F:Cf K} (hF:F.C=C) (L:List (AO×List Nat)):REk P C R B N ts (ynJ F L ts)∧(ynJ F L ts).rg=ts.rg:=by
 have _:=(inferInstance:GB P B)
 unfold ynJ
 rw[hF]
 generalize (L.flatMap fun p=>(frzO F ts.fr p.1.op).flatMap fun x=>match x with| .t n=> [srcD L 9 n]| .c _=> [])=l
 induction l generalizing ts with
 |nil=>exact ⟨.refl,rfl⟩
 | cons n l ih=>
   obtain ⟨a,b⟩:=ih (ts:=fzA C 9 [lkT ts.fr n] ts)
   exact ⟨(yim hB hC _ _ _).trans a,by rw[List.foldl_cons,b,ykM]⟩
theorem yqQ (hB:ybR B) (hC:CxOk P C) {F:Cf K} (hF:F.C=C) (L:List (AO×List Nat)):REk P C R B N ts (frzS F L ts)∧(frzS F L ts).rg=ts.rg:=by
 have _:=(inferInstance:GB P B)
 unfold frzS
 rw[hF]
 split
 ·generalize (L.flatMap fun p=>match p.1.op with| .ld _ _ a=> [a]|_=> [])=l
  induction l generalizing ts with
  |nil=>exact ⟨.refl,rfl⟩
  | cons n l ih=>
    obtain ⟨a,b⟩:=ih (ts:=fzA C 9 (ldC ts n) ts)
    exact ⟨(yim hB hC _ _ _).trans a,by rw[List.foldl_cons,b,ykM]⟩
 ·exact ⟨.refl,rfl⟩
theorem ypK (hB:ybR B) (hC:CxOk P C) {F:Cf K} (hF:F.C=C) (L:List (AO×List Nat)):REk P C R B N ts (frzD F L ts)∧(frzD F L ts).rg=ts.rg:=by
 obtain ⟨a,b⟩:=yos (R:=R) (N:=N) (ts:=ts) hB hC hF L
 obtain ⟨c,d⟩:=yqQ (R:=R) (N:=N) (ts:=ynJ F L ts) hB hC hF L
 exact ⟨a.trans c,d.trans b⟩
end
section
theorem yrJ {Q:AEx→TS K→Prop} {e:AEx} {rg:List (Nat×TV K)} (hB:ybR B) (hC:CxOk P C) (hγ:GM P C R ts χ ds) (hk:DOk ds) (hx:ExtR rg ts.rg) (h:Q e (er ts)):RE B N (toD ds) (Kq P C R rg Q e):=
 have _:=(inferInstance:GB P B)
 (ypN (N:=N) hB hC χ ds hk hγ).mono fun ks ⟨h1,ξ,h2⟩=>⟨h1,er ts,ξ,h2,hx,h⟩
theorem yrh (C:Cx K) (fr:List (Nat×TV K)):∀(l:List (Nat×Kd)) (ts:TS K),(fzT C fr l ts).h=ts.h
 | [],_=>rfl
 | (t,k)::r,ts=>by
   cases k with
   | sl e=>
     simp only[fzT]
     rw[yrh C fr r]
     split
     ·exact fz_h C ts _
     ·rfl
   |_=>simp only[fzT];exact yrh C fr r ts
theorem yjV {hh:List RS} (hR:∀H n,R ts.h H n→R hh H n) (hB:ybR B) (hC:CxOk P C) {τ:Tm} {rg:List (Nat×TV K)} {J:List (DV K)→Prop} {ks:KS} (hk:KOk ks) (hγ:GM P C R ts χ (ofK ks)) (hx:ExtR rg ts.rg) (h:rdJ C τ ts J):
  RE B N (toS ks) fun ks'=>∃env,J env/\KOk ks'/\∃ξ,GM P C R (bdT C τ rg hh env) ξ (ofK ks'):=by
 have _:=(inferInstance:GB P B)
 unfold rdJ at h
 split at h
 ·rename_i env he
  have h1:=ymk (R:=R) (N:=N) hB hC ts.fr τ.ks ts
  have h2:=(ysV (R:=R) (N:=N) (rg:=rg) hB hC (by rw[ymE];exact hx) he hh (by rw[yrh];exact hR)).k
  exact ((h1.trans h2) χ ks hk hγ).mono fun ks' ⟨a,b⟩=>⟨env,h,a,b⟩
 ·exact h.elim
theorem yqE {a b:RS} (h:eqRS a b=true):a=b:=by
 cases a<;>cases b<;>first|rfl|(cases h;done)|(rw[nbeq.1 h])
theorem ypz:∀ {a b:List RS},eqH a b=true→a=b
 | [],[],_=>rfl
 | [],_::_,h=>by cases h
 |_::_,[],h=>by cases h
 | x::a,y::b,h=>by
   simp only[eqH,Bool.and_eq_true] at h
   rw[yqE h.1,ypz h.2]
theorem ymm {C:Cx K} {τ:Tm} {h:List RS} {ts:TS K} {J:List (DV K)→Prop} (q:rdH C τ h ts J):ts.h=h∧rdJ C τ ts J:=by
 unfold rdH at q
 split at q
 ·rename_i e;exact ⟨ypz e,q⟩
 ·exact q.elim
theorem ydm {c:ycl} {Q Q':AEx->KS->Prop} {ks:KS} (h:WK P B N ro c Q ks) (hq:∀e ks,Q e ks->Q' e ks):WK P B N ro c Q' ks:=have _:=(inferInstance:GB P B);fun x hx a G hR=>wpIn_mono (h x hx a G hR) fun _ _ _ hp=>yfG.mono hq hp
theorem ysG (C:Cx K) (τ:Tm) (rg:List (Nat×TV K)) (hh:List RS) (env:List (DV K)):(bdT C τ rg hh env).rg=rg:=rfl
def IOk (P:Program) (I:List (Nat×AFn)):Prop:=∀f c,lkI I f=some c->trF P f=some c
theorem ync (τ:Tm) (ts:TS K):(tagT τ ts).h=ts.h:=(yfW τ.bx _).2.2.trans (yhC τ.ks ts).2.2
theorem YOk.none {B:Base} {N:Nat} {ro:Option Nat} {R:RR K} {rY:Nat}:YOk P C R B N ro rY none:=fun y h=>by cases h
theorem yeV {g:Nat→Option Nat} (hg:injx g) {s t:Nat} (h:g s=some t):∀l:List (Nat×TV K),lkT (reix g l) t=lkT l s
 | []=>rfl
 | p ::r=>by
   have ih:=yeV hg h r
   show lkT (match g p.1 with|some t=>(t,p.2)::reix g r|none=>reix g r) t=lkT ((p.1,p.2)::r) s
   rw[yba]
   by_cases e:p.1=s
   ·rw[if_pos e,e,h];simp only;rw[yba,if_pos rfl]
   ·rw[if_neg e]
    split
    ·rename_i u hu
     rw[yba,if_neg (fun q=>e (hg _ _ _ hu (by rw[q];exact h)))];exact ih
    ·exact ih
theorem yc9 {g:Nat→Option Nat} {t:Nat} (h:∀s,g s≠some t):∀l:List (Nat×TV K),lkT (reix g l) t= .un
 | []=>rfl
 | p::r=>by
   show lkT (match g p.1 with|some t=>(t,p.2)::reix g r|none=>reix g r) t=_
   split
   ·rename_i u hu
    rw[yba,if_neg (fun q=>h p.1 (by rw[hu,q]))];exact yc9 h r
   ·exact yc9 h r
def memV:List (Nat×TV K)→Nat→Bool
 | [],_=>false
 |p::r,t=>Nat.beq p.1 t||memV r t
theorem yl4 (a b:List (Nat×TV K)) (t:Nat):lkT (a++b) t=if memV a t=true then lkT a t else lkT b t:=by
 induction a with
 |nil=>rfl
 | cons p a ih=>
   have hm:memV (p::a) t=(Nat.beq p.1 t||memV a t):=rfl
   show lkT ((p.1,p.2)::(a++b)) t=if _ then lkT ((p.1,p.2)::a) t else _
   rw[yba,yba,ih,hm]
   by_cases e:p.1=t
   ·rw[if_pos e,if_pos e,nbeq.2 e];rfl
   ·rw[if_neg e,if_neg e]
    have:Nat.beq p.1 t=false:=by
     cases h:Nat.beq p.1 t with
     |false=>rfl
     |true=>exact absurd (nbeq.1 h) e
    rw[this,Bool.false_or]
theorem ygm {g:Nat→Option Nat} {t:Nat} (h:∀s,g s≠some t):∀l:List (Nat×TV K),memV (reix g l) t=false
 | []=>rfl
 | p ::r=>by
   simp only[reix]
   split
   ·rename_i u hu
    have hb:Nat.beq u t=false:=by
     cases q:Nat.beq u t with
     |false=>rfl
     |true=>exact absurd (hu.trans (congrArg some (nbeq.1 q))) (h p.1)
    show (Nat.beq u t||memV (reix g r) t)=false
    rw[hb,ygm h r];rfl
   ·exact ygm h r
theorem ydR {g:Nat→Option Nat} (hg:injx g) {s t:Nat} (h:g s=some t):∀l:List (Nat×TV K),memV (reix g l) t=false→lkT l s= .un
 | [],_=>rfl
 | p::r,hm=>by
   simp only[reix] at hm
   show lkT ((p.1,p.2)::r) s=_
   rw[yba]
   by_cases e:p.1=s
   ·rw[e,h] at hm
    simp[memV,nbeq.2] at hm
   ·rw[if_neg e]
    split at hm
    ·simp only[memV,Bool.or_eq_false_iff] at hm;exact ydR hg h r hm.2
    ·exact ydR hg h r hm
theorem ynE:∀(us:List (TV K)) (i t:Nat),lkT (zipT us i) t=if i≤t then (us[t-i]?).getD .un else .un
 | [],i,t=>by simp[zipT,lkT]
 | u ::r,i,t=>by
   simp only[zipT]
   rw[yba,ynE r (i+1) t]
   by_cases h:i=t
   ·subst h;simp
   ·rw[if_neg h]
    by_cases h2:i<=t
    ·have h3:i+1≤t:=by omega
     rw[if_pos h2,if_pos h3,show t-i=(t-(i+1))+1 from by omega,List.getElem?_cons_succ]
    ·have h3:¬i+1≤t:=by omega
     rw[if_neg h2,if_neg h3]
theorem ykl:∀(us:List (TV K)) (i t:Nat),memV (zipT us i) t=decide (i≤t∧t<i+us.length)
 | [],i,t=>by simp[zipT,memV]
 | u ::r,i,t=>by
   simp only[zipT,memV,ykl r (i+1) t,List.length_cons]
   by_cases h:i=t
   ·subst h;simp[nbeq.2]
   ·have hb:Nat.beq i t=false:=by
     cases q:Nat.beq i t with
     |false=>rfl
     |true=>exact absurd (nbeq.1 q) h
    rw[hb,Bool.false_or]
    simp only[decide_eq_decide];omega
theorem GM.frame {ks:KS} (h:GM P C R ts χ (ofK ks)) {R':RR K} {fr':List (Nat×TV K)} {rg':List (Nat×TV K)} {h':List RS} {frk':List (Nat×AV)} {H':Hp} {n':Nat} (hx:ExtR ts.rg rg') (hL:R'.L=R.L)
  (hfr:∀t,TR P C ⟨fr',ts.od,ts.nw,rg',h'⟩ χ (lkT fr' t) (lkF frk' t)) (hp:R' h' H' n'):GM P C R' ⟨fr',ts.od,ts.nw,rg',h'⟩ χ (ofK ⟨frk',ks.mem,H',n'⟩):=by
 have hm:Mono ts ⟨fr',ts.od,ts.nw,rg',h'⟩ χ χ:=⟨hx,fun _ _ q=>q,fun _ _ _=> .inr ⟨rfl,rfl⟩⟩
 refine ⟨hfr,fun s c b hb hx=> ?_,h.vi,h.nw,hp,fun s b q e=>by rw[hL];exact h.lv s b q e⟩
 obtain ⟨kb,h1,h2⟩:=h.mb s c b hb hx
 exact ⟨kb,h1,h2.mono hm⟩
theorem ygs {id r:Nat} {u:TV K} {v:AV} (h:isY id u=true) (ht:TR P C ts χ u v) (hr:lkR ts.rg id=some (.yl r)):v= .yld r:=by
 unfold isY at h
 split at h
 ·rename_i i w
  have:=nbeq.1 h;subst this
  cases ht with
  |cn _ _ _ h1 _ h2=>rw[hr] at h1;cases h1;cases h2;rfl
 ·cases h
def lsR:RS→LS
 | .rdy=> .ready
 | .busy=> .busy
 | .ret=> .ret
 | .ex i=> .exit i
def RR.push (R:RR K) (r:Nat) (f:LS->Blk):RR K:=⟨fun h H n=>∃st h',h=st::h'/\H r=some (f (lsR st))/\R.R h' (fun o=>if o=r then none else H o) n,R.L⟩
theorem RR.push_out {R:RR K} {r:Nat} {f:LS→Blk} {st:RS} {h:List RS} {H:Hp} {n:Nat} (q:R.push r f (st::h) H n):H r=some (f (lsR st))∧R.R h (fun o=>if o=r then none else H o) n:=by
 obtain ⟨st',h',e,a,b⟩:=q
 cases e;exact ⟨a,b⟩
theorem RR.push_set {R:RR K} {r:Nat} {f:LS→Blk} {st st':RS} {h:List RS} {H:Hp} {n:Nat} (q:R.push r f (st::h) H n):R.push r f (st'::h) (fun o=>if o=r then some (f (lsR st')) else H o) n:=by
 refine ⟨st',h,rfl,if_pos rfl,?_⟩
 have:(fun o=>if o=r then none else (if o=r then some (f (lsR st')) else H o))=fun o=>if o=r then none else H o:=by
  funext o
  by_cases e:o=r
  ·simp[e]
  ·simp[e]
 rw[this];exact (RR.push_out q).2
theorem ysJ {g:Option (Nat×Bool)} {ds:DS} (hγ:GM P C R ts χ ds) (h:okG g ts.fr=true):gok g ds.fr=true:=by
 unfold okG at h
 split at h
 ·rfl
 ·rename_i d b
  have hd:=(hγ.fr d).s
  split at h
  ·rename_i c e;rw[e] at hd;simp only[gok,hd.bli];exact h
  ·rename_i c e;rw[e] at hd;simp only[gok,hd.lbi];exact h
  ·cases h
theorem TL.at2 {us:List (TV K)} {vs:List AV} (t:TL P C ts χ us vs) (j:Nat):TR P C ts χ ((us[j]?).getD .un) ((vs[j]?).getD .un):=by
 cases hu:us[j]? with
 |none=>exact .un _
 | some u=>
   have hj:j<vs.length:=by rw[t.1];exact (List.getElem?_eq_some_iff.1 hu).1
   rw[List.getElem?_eq_getElem hj]
   exact t.2 j u _ hu (List.getElem?_eq_getElem hj)
theorem ysn:∀(ps:List Nat) (us:List (TV K)) (vs:List AV) (a:List (Nat×TV K)) (b:List (Nat×AV)),TL P C ts χ us vs→(∀t,TR P C ts χ (lkT a t) (lkF b t))→∀t,TR P C ts χ (lkT ((ps.zip us).foldl (fun l p=>p::l) a) t) (lkF ((ps.zip vs).foldl (fun l p=>p::l) b) t)
 | [],us,vs,a,b,_,h=>h
 | p::ps,[],vs,a,b,t,h=>by
   have:vs= []:=List.eq_nil_of_length_eq_zero t.1
   subst this;exact h
 |p::ps,u::us,[],a,b,t,h=>by simp[TL] at t
 | p::ps,u::us,v::vs,a,b,t,h=>by
   simp only[List.zip_cons_cons,List.foldl_cons]
   refine ysn ps us vs _ _ t.head.2 fun q=> ?_
   rw[yba,yaJ]
   simp only
   split
   ·exact t.head.1
   ·exact h q
theorem ys7 (hC:CxOk P C):∀(A:An K) {B:Base} [GB P B] {N:Nat} {ro:Option Nat} {R:RR K} {F:Cf K} {rY:Nat},ybR B→F.C=C→SsOk P C F.S→SLOk P C F.L→F.N=N→IOk P F.I→(F.rd=false→ro=none)→(F.I= []∨∀h H n m,R h H n→n≤m→R h H m)→YOk P C R B N ro rY F.Y→
  ∀(c:ycl) (Q:AEx->TS K->Prop) (ts:TS K) (χ:Nat->Nat->Bool) (ks:KS),KOk ks->GM P C R ts χ (ofK ks)->(∀y,F.Y=some y->lkR ts.rg y.1=some (.yl rY))->Dn F A c Q ts->WK P B N ro c (Kq P C R ts.rg Q) ks:=by
 intro A
 induction A with
 | o =>
   intro B _ N ro R F rY hB hF hS hL hN hI hr hRm hY c Q ts χ ks hk hγ hYI h
   have at':∀ {e:AEx},Q e ts->Kq P C R ts.rg Q e ks:=fun h=>⟨hk,ts,χ,hγ, .refl,h⟩
   cases c with
   |skip=>exact yru (at' h)
   |exit id=>exact yrm (at' h)
   |ret=>exact ysA (at' h)
   | ops L=>
     refine ysi ?_
     exact yna (L:=L) hB hC hF hS hL hN hY L 0 ts χ (ofK ks) rfl hγ (ydr hk) hYI h fun ts' χ' ds' a b d e=>yrJ hB hC a b e d
   | drw L=>
     obtain ⟨f1,f2⟩:=ypK (R:=R) (N:=N) (ts:=ts) hB hC hF L
     refine ynV fun _=>(f1 χ ks hk hγ).mono fun ks' ⟨hk',ξ,hγ'⟩=>ysj ?_
     exact ylD (LD:=L) hC hF hS hL L 0 [] [] _ ξ (ofK ks') rfl ⟨rfl,fun j f t h=>by simp at h⟩ hγ' (ydr hk') h fun ts' χ' ds' a b d e=>yrJ hB hC a b (by rw[<-f2];exact e) d
   |_=>exact h.elim
 | s a b iha ihb=>
   intro B _ N ro R F rY hB hF hS hL hN hI hr hRm hY c Q ts χ ks hk hγ hYI h
   cases c with
   | seq x y=>
     refine ypJ (ydm (iha hB hF hS hL hN hI hr hRm hY x _ ts χ ks hk hγ hYI h) fun e ks' hq=> ?_)
     obtain ⟨h1,ts',χ',h2,h3,h4⟩:=hq
     cases e with
     |n=>exact ydm (ihb hB hF hS hL hN hI hr hRm hY y Q ts' χ' ks' h1 h2 (fun y e=>h3 _ _ (hYI y e)) h4) fun e ks2 hq=>hq.mono h3
     |x id=>exact ⟨h1,ts',χ',h2,h3,h4⟩
     |r=>exact ⟨h1,ts',χ',h2,h3,h4⟩
   |_=>exact h.elim
 | c a b iha ihb=>
   intro B _ N ro R F rY hB hF hS hL hN hI hr hRm hY c Q ts χ ks hk hγ hYI h
   cases c with
   | cond u x y=>
     have hu:=hγ.tev u
     unfold Dn at h
     split at h
     ·rename_i e
      rw[e] at hu
      exact yjr (b:=true) hu.lbi (fun _=>iha hB hF hS hL hN hI hr hRm hY x Q ts χ ks hk hγ hYI h) (fun q=>by cases q)
     ·rename_i e
      rw[e] at hu
      exact yjr (b:=false) hu.lbi (fun q=>by cases q) (fun _=>ihb hB hF hS hL hN hI hr hRm hY y Q ts χ ks hk hγ hYI h)
     ·rename_i q e
      rw[e] at hu
      exact yjr (b:=q) hu.bli (fun hq=>iha hB hF hS hL hN hI hr hRm hY x Q ts χ ks hk hγ hYI (h.1 hq)) (fun hq=>ihb hB hF hS hL hN hI hr hRm hY y Q ts χ ks hk hγ hYI (h.2 hq))
     ·exact h.elim
   |_=>exact h.elim
 | b a iha=>
   intro B _ N ro R F rY hB hF hS hL hN hI hr hRm hY c Q ts χ ks hk hγ hYI h
   cases c with
   | block id x=>
     refine yoH (ydm (iha hB hF hS hL hN hI hr hRm hY x _ ts χ ks hk hγ hYI h) fun e ks' hq=> ?_)
     obtain ⟨h1,ts',χ',h2,h3,h4⟩:=hq
     cases e with
     |n=>exact ⟨h1,ts',χ',h2,h3,h4⟩
     |r=>exact ⟨h1,ts',χ',h2,h3,h4⟩
     | x i=>
       show bkQ id _ (.x i) ks'
       simp only at h4
       unfold bkQ
       simp only
       split at h4
       ·rename_i e;try rw[e]
        exact ⟨h1,ts',χ',h2,h3,h4⟩
       ·rename_i e;try rw[e]
        exact ⟨h1,ts',χ',h2,h3,h4⟩
   |_=>exact h.elim
 | l τ a iha=>
   intro B _ N ro R F rY hB hF hS hL hN hI hr hRm hY c Q ts χ ks hk hγ hYI h
   cases c with
   | loop x=>
     refine yqU fun Y hYl=> ?_
     let Sem:List (DV K)->Prop:=fun env=>∀ks',KOk ks'->(∃ξ,GM P C R (bdT F.C τ (tagT τ ts).rg ts.h env) ξ (ofK ks'))->WK P B N ro x (sqQ (Kq P C R ts.rg Q) Y) ks'
     have go:∀ {ts':TS K} {χ':Nat→Nat→Bool} {ks':KS},KOk ks'→GM P C R ts' χ' (ofK ks')→ExtR (tagT τ ts).rg ts'.rg→ts'.h=ts.h→rdJ F.C τ ts' (apC False (ctT τ) (curC (ctT τ) Sem))→Y ks':=by
      intro ts' χ' ks' hk' hγ' hx' hh hj
      refine hYl ks' (ynV fun _=> ?_)
      rw[hF] at hj
      refine (yjV (hh:=ts.h) (fun H n q=>by rw[hh] at q;exact q) hB hC hk' hγ' hx' hj).mono fun ks2 ⟨env,e1,e2,ξ,e3⟩=> ?_
      exact yjf _ _ _ e1 ks2 e2 ⟨ξ,by rw[hF];exact e3⟩
     refine go hk (yhA hγ) .refl (ync τ ts) (h (curC (ctT τ) Sem) (yg5 _ _ _ fun env hd=> ?_))
     rintro ks' hk' ⟨ξ,hγ'⟩
     refine ydm (iha env hB hF hS hL hN hI hr hRm hY x _ _ ξ ks' hk' hγ' (fun y e=>yca τ ts _ _ (hYI y e)) hd) fun e ks2 hq=> ?_
     obtain ⟨h1,ts',χ',h2,h3,h4⟩:=hq
     rw[ysG] at h3
     cases e with
     |n=>obtain ⟨g1,g2⟩:=ymm h4;exact go h1 h2 h3 g1 g2
     |x id=>exact ⟨h1,ts',χ',h2,(yca τ ts).trans h3,h4⟩
     |r=>exact ⟨h1,ts',χ',h2,(yca τ ts).trans h3,h4⟩
   |_=>exact h.elim
 | j τ a b iha ihb=>
   intro B _ N ro R F rY hB hF hS hL hN hI hr hRm hY c Q ts χ ks hk hγ hYI h
   cases c with
   | seq x y=>
     let Sem:List (DV K)->Prop:=fun env=>∀ks',KOk ks'->(∃ξ,GM P C R (bdT F.C τ (tagT τ ts).rg ts.h env) ξ (ofK ks'))->WK P B N ro y (Kq P C R ts.rg Q) ks'
     have hd:=h (curC (ctT τ) Sem) (yg5 _ _ _ fun env hd=>by
      rintro ks' hk' ⟨ξ,hγ'⟩
      exact ydm (ihb env hB hF hS hL hN hI hr hRm hY y Q _ ξ ks' hk' hγ' (fun y e=>yca τ ts _ _ (hYI y e)) hd) fun e ks2 hq=>hq.mono (yca τ ts))
     refine ypJ (ydm (iha hB hF hS hL hN hI hr hRm hY x _ (tagT τ ts) χ ks hk (yhA hγ) (fun y e=>yca τ ts _ _ (hYI y e)) hd) fun e ks' hq=> ?_)
     obtain ⟨h1,ts',χ',h2,h3,h4⟩:=hq
     cases e with
     | n=>
       refine ynV fun _=> ?_
       simp only at h4
       rw[hF] at h4
       obtain ⟨g1,g2⟩:=ymm h4
       refine (yjV (hh:=ts.h) (fun H n q=>by rw[g1] at q;exact q) hB hC h1 h2 h3 g2).mono fun ks2 ⟨env,e1,e2,ξ,e3⟩=> ?_
       exact yjf _ _ _ e1 ks2 e2 ⟨ξ,by rw[hF];exact e3⟩
     |x id=>exact ⟨h1,ts',χ',h2,(yca τ ts).trans h3,h4⟩
     |r=>exact ⟨h1,ts',χ',h2,(yca τ ts).trans h3,h4⟩
   |_=>exact h.elim
 | g id τ τY ai aa ab ih1 ih2 ih3=>
   intro B _ N ro R F rY hB hF hS hL hN hI hr hRm hY c Q ts χ ks hk hγ hYI h
   cases c with
   | rng u ps aA aB=>
     subst hF
     unfold Dn at h
     split at h
     ·exact h.elim
     rename_i hrd
     have hro:=hr hrd
     subst hro
     refine ynV fun _=>(yjV (hh:=ts.h) (fun H n q=>by rw[ync] at q;exact q) hB hC hk (yhA hγ) .refl h).mono fun ks1 ⟨env,h1,hk1,ξ1,hγ1⟩=> ?_
     have hrg:(bdT F.C τ (tagT τ ts).rg ts.h env).rg=(tagT τ ts).rg:=rfl
     have hnw:(bdT F.C τ (tagT τ ts).rg ts.h env).nw= []:=rfl
     have hh1:(bdT F.C τ (tagT τ ts).rg ts.h env).h=ts.h:=rfl
     generalize bdT F.C τ (tagT τ ts).rg ts.h env=ts1 at h1 hγ1 hrg hnw hh1
     split at h1
     case h_2=>exact h1.elim
     rename_i f fa fc hu
     split at h1
     case h_2=>exact h1.elim
     rename_i c2 hc2
     replace hRm:=hRm.resolve_left (fun e=>by rw[e] at hc2;cases hc2)
     split at h1
     case h_2=>exact h1.elim
     rename_i hcond
     simp only[Bool.and_eq_true] at hcond
     obtain ⟨⟨hid,hlen⟩,hnil⟩:=hcond
     rw[<-hrg] at hid
     have hid:lkR ts1.rg id=none:=by
      cases hq:lkR ts1.rg id with
      |none=>rfl
      |some w=>rw[hq] at hid;cases hid
     have hlen:=Nat.le_of_ble_eq_true hlen
     have hres:c2.res= []:=by
      cases hq:c2.res with
      |nil=>rfl
      |cons a b=>rw[hq] at hnil;cases hnil
     have hu':=hγ1.tev u
     rw[hu] at hu'
     generalize hv:ev (lkF (ofK ks1).fr) u=v at hu'
     cases hu' with
     | fn _ _ _ a' c' ha hc hta htc=>
       refine yrT (hI f c2 hc2) hres hv (by simp;omega) hB fun B2 _ tm asg body yv rest hB2 hH htm hxs hA hBd hps=> ?_
       subst hN
       let f0:LS->Blk:=rcdB tm ps asg body
       have h2:=h1 ks1.nx
       have hx1:ExtR ts1.rg ((id, .yl ks1.nx)::ts1.rg):=fun id' w hw=>by
        rw[yd0]
        split
        ·rename_i e;simp only at e;subst e;rw[hid] at hw;cases hw
        ·exact hw
       have hRm2:∀h H n m,R.push ks1.nx f0 h H n->n<=m->R.push ks1.nx f0 h H m:=fun h H n m ⟨st,h',a1,a2,a3⟩ hm=>⟨st,h',a1,a2,hRm _ _ _ _ a3 hm⟩
       have hγ2:GM P F.C (R.push ks1.nx f0) (rngS id ks1.nx c2.N fa fc ts1) ξ1 (ofK (rngK c2.N (a'++ .yld ks1.nx::c') (f0 .ready) ks1)):=by
        refine GM.frame hγ1 hx1 rfl (fun t=> ?_) ⟨.rdy,ts1.h,rfl,if_pos rfl,?_⟩
        ·have hm:Mono ts1 (rngS id ks1.nx c2.N fa fc ts1) ξ1 ξ1:=⟨hx1,fun _ _ q=>q,fun _ _ _=> .inr ⟨rfl,rfl⟩⟩
         have hyT:TR P F.C (rngS id ks1.nx c2.N fa fc ts1) ξ1 (.cn id (.yl ks1.nx)) (.yld ks1.nx):= .cn id (.yl ks1.nx) _ (by show lkR ((id, .yl ks1.nx)::ts1.rg) id=_;rw[yd0,if_pos rfl]) rfl (.yl _)
         have hTL:TL P F.C (rngS id ks1.nx c2.N fa fc ts1) ξ1 (fa++ .cn id (.yl ks1.nx)::fc) (a'++ .yld ks1.nx::c'):=((show TL P F.C ts1 ξ1 fa a' from ⟨ha,hta⟩).mono hm).app (.cons hyT ((show TL P F.C ts1 ξ1 fc c' from ⟨hc,htc⟩).mono hm))
         show TR P F.C (rngS id ks1.nx c2.N fa fc ts1) ξ1 (lkT (zipT (fa++ .cn id (.yl ks1.nx)::fc) 0++(c2.N, .cn id (.yl ks1.nx))::reix (upx (c2.N+1)) ts1.fr) t) (lkF (entF (a'++ .yld ks1.nx::c') 0++(c2.N, .yld ks1.nx)::reix (upx (c2.N+1)) ks1.fr) t)
         rw[yl4,ykl,ygv,yhS,hTL.1]
         by_cases ht:0<=t/\t<0+(fa++ .cn id (.yl ks1.nx)::fc).length
         ·rw[if_pos (decide_eq_true ht),if_pos (decide_eq_true ht),ynE,yhs,if_pos (Nat.zero_le _),if_pos (Nat.zero_le _)]
          exact hTL.at2 _
         ·rw[if_neg (by simpa using ht),if_neg (by simpa using ht),yba,yaJ]
          simp only
          by_cases h3:c2.N=t
          ·rw[if_pos h3,if_pos h3];exact hyT
          ·rw[if_neg h3,if_neg h3]
           by_cases h4:c2.N<t
           ·have hg:upx (c2.N+1) (t-(c2.N+1))=some t:=by simp only[upx,Option.some.injEq];omega
            rw[yeV (yfs _) hg,ycf (yfs _) hg]
            exact (hγ1.fr _).mono hm
           ·rw[yc9 (fun s e=>by simp only[upx,Option.some.injEq] at e;omega)]
            exact .un _
        ·have:(fun o=>if o=ks1.nx then none else (if o=ks1.nx then some (f0 .ready) else ks1.H o))=ks1.H:=by
          funext o
          by_cases e:o=ks1.nx
          ·rw[if_pos e,e,hH]
          ·simp[e]
         rw[this];exact hRm _ _ _ _ hγ1.hp (Nat.le_succ _)
       have hbk:∀ {t8:TS K} {χ8:Nat→Nat→Bool} {ks8:KS} {h8:List RS} {R':RR K} {H':Hp} (m:Nat),GM P F.C (R.push ks1.nx f0) t8 χ8 (ofK ks8)→R'.L=R.L→R' h8 H' ks8.nx→GM P F.C R' ⟨reix (dnx m) t8.fr,t8.od,t8.nw,t8.rg,h8⟩ χ8 (ofK ⟨reix (dnx m) ks8.fr,ks8.mem,H',ks8.nx⟩):=by
        intro t8 χ8 ks8 h8 R' H' m hg hL hp
        refine GM.frame hg .refl hL (fun t=> ?_) hp
        have hm:Mono t8 ⟨reix (dnx m) t8.fr,t8.od,t8.nw,t8.rg,h8⟩ χ8 χ8:=⟨fun _ _ q=>q,fun _ _ q=>q,fun _ _ _=> .inr ⟨rfl,rfl⟩⟩
        have hd:dnx m (t+m)=some t:=yfJ.2 rfl
        rw[yeV (yhm _) hd,ycf (yhm _) hd]
        exact (hg.fr _).mono hm
       refine ydm (ih1 (rY:=ks1.nx) (F:={C:=F.C,S:=F.S,L:=F.L,N:=c2.N,I:=F.I,Y:=some (id,_),rd:=false}) hB2 rfl hS hL rfl hI (fun _=>rfl) (.inr hRm2) ?_ c2.body _ _ ξ1 _ (show KOk (rngK c2.N (a'++ .yld ks1.nx::c') (f0 .ready) ks1) from hk1) hγ2 (fun y hy=>by cases hy;show lkR ((id, .yl ks1.nx)::ts1.rg) id=_;rw[yd0,if_pos rfl]) h2) ?_
       ·intro y hy L i o x args t χt ds X Qd e0 hg ho hγt hkt hlk hrun k
        cases hy
        simp only at hlk hrun
        refine ysz fun _=>RE.bind (ypN (N:=c2.N) hB2 hC χt ds hkt hγt) fun ks3 _ ⟨hk3,ξ3,hγ3⟩=>(yjV (hh:=t.h) (R:=R.push ks1.nx f0) (N:=c2.N) (fun H n q=>by rw[ync] at q;exact q) hB2 hC hk3 (yhA hγ3) .refl hrun).mono fun ks4 ⟨env2,h4,hk4,ξ4,hγ4⟩=> ?_
        have hrg4:(bdT F.C τY (tagT τY (er t)).rg t.h env2).rg=(tagT τY (er t)).rg:=rfl
        have hh4:(bdT F.C τY (tagT τY (er t)).rg t.h env2).h=t.h:=rfl
        generalize bdT F.C τY (tagT τY (er t)).rg t.h env2=t4 at h4 hγ4 hrg4 hh4
        split at h4
        case h_2=>exact h4.elim
        rename_i _ _ tl hcond4 hth
        simp only[Bool.and_eq_true] at hcond4
        obtain ⟨⟨⟨q1,q2⟩,q3⟩,q4⟩:=hcond4
        have hext4:ExtR t.rg t4.rg:=by rw[hrg4];exact yca τY (er t)
        have hlk4:=hext4 _ _ hlk
        have hx4:=ygs q2 (hγ4.tea x) hlk4
        have hy4:=ygs q1 (hγ4.fr c2.N) hlk4
        have hp4:=hγ4.hp
        rw[hh4,hth] at hp4
        have hH4:=(RR.push_out hp4).1
        refine ys1 hB2 e0 (ysJ hγ4 q4) ho hx4 hy4 hH4 htm hxs (nbeq.1 q3) hps hA hBd fun B3 _ l hB3=> ?_
        have hγ5:GM P F.C (R.push ks1.nx f0) (yldS c2.N F.N (ps.toList.zip (args.map (tea t4.fr))) t4) ξ4 (ofK (yldK c2.N F.N (ps.toList.zip (args.map (ev (lkF ks4.fr)))) ks4)):=by
         refine GM.frame hγ4 .refl rfl (fun t'=> ?_) hγ4.hp
         have hm:Mono t4 (yldS c2.N F.N (ps.toList.zip (args.map (tea t4.fr))) t4) ξ4 ξ4:=⟨fun _ _ q=>q,fun _ _ q=>q,fun _ _ _=> .inr ⟨rfl,rfl⟩⟩
         refine ysn ps.toList (args.map (tea t4.fr)) (args.map (ev (lkF ks4.fr))) _ _ ((TL.tea hγ4 args).mono hm) (fun t'=> ?_) t'
         rw[yl4,ygv]
         have hbase:∀ {b1 b2:Bool},(b1=false->lkT (reix (acx (c2.N+1) F.N) t4.fr) t'= .un)->(b2=false->lkF (reix (acx (c2.N+1) F.N) ks4.fr) t'= .un)->True:=fun _ _=>trivial
         by_cases ht:t'<F.N
         ·have hg1:acx (c2.N+1) F.N (t'+(c2.N+1))=some t':=ye8.2 ⟨rfl,ht⟩
          have hno:∀s,upx F.N s≠some t':=fun s e=>by simp only[upx,Option.some.injEq] at e;omega
          have e1:(if memV (reix (acx (c2.N+1) F.N) t4.fr) t'=true then lkT (reix (acx (c2.N+1) F.N) t4.fr) t' else lkT (reix (upx F.N) t4.fr) t')=lkT t4.fr (t'+(c2.N+1)):=by
           split
           ·exact yeV (yfe _ _) hg1 _
           ·rename_i hm'
            rw[yc9 hno]
            exact (ydR (yfe _ _) hg1 _ (by simpa using hm')).symm
          have e2:(if memI (reix (acx (c2.N+1) F.N) ks4.fr) t'=true then lkF (reix (acx (c2.N+1) F.N) ks4.fr) t' else lkF (reix (upx F.N) ks4.fr) t')=lkF ks4.fr (t'+(c2.N+1)):=by
           split
           ·exact ycf (yfe _ _) hg1 _
           ·rename_i hm'
            rw[ycL hno]
            exact (ycW (yfe _ _) hg1 _ (by simpa using hm')).symm
          rw[e1,e2]
          exact (hγ4.fr _).mono hm
         ·have hno:∀s,acx (c2.N+1) F.N s≠some t':=fun s e=>ht (ye8.1 e).2
          have hg1:upx F.N (t'-F.N)=some t':=by simp only[upx,Option.some.injEq];omega
          rw[ygm hno,ye3 hno,if_neg (by simp),if_neg (by simp),yeV (yfs _) hg1,ycf (yfs _) hg1]
          exact (hγ4.fr _).mono hm
        refine ydm (ih2 (rY:=0) (F:={C:=F.C,S:=F.S,L:=F.L,N:=F.N,I:=F.I,Y:=none,rd:=true}) hB3 rfl hS hL rfl hI (fun e=>by cases e) (.inr hRm2) YOk.none aA _ _ ξ4 _ (show KOk (yldK c2.N F.N (ps.toList.zip (args.map (ev (lkF ks4.fr)))) ks4) from hk4) hγ5 (fun y e=>by cases e) h4) fun e ks6 hq6=> ?_
        obtain ⟨hk6,t6,χ6,hγ6,hx6,hq6⟩:=hq6
        cases e with
        |x id'=>exact hq6.elim
        |r=>exact hq6.elim
        | n=>
          simp only[asgT] at hq6
          split at hq6
          case h_2=>exact hq6.elim
          rename_i _ _ h6 hy6 hh6
          have hp6:=hγ6.hp
          rw[hh6] at hp6
          have hlk6:=hx6 _ _ hlk4
          refine ⟨(RR.push_out hp6).1,ygs hy6 (hγ6.fr _) hlk6,?_⟩
          have hγ7:GM P F.C (R.push ks1.nx f0) (setS (.busy::h6) t6) χ6 (ofK (yc7 ks1.nx (f0 .busy) ks6)):=
           GM.frame hγ6 .refl rfl (fun t'=>TR.mono (ts:=t6) (ts':=⟨t6.fr,t6.od,t6.nw,t6.rg, .busy::h6⟩) (χ:=χ6) (χ':=χ6) ⟨fun _ _ q=>q,fun _ _ q=>q,fun _ _ _=> .inr ⟨rfl,rfl⟩⟩ (hγ6.fr t')) (RR.push_set (st':= .busy) hp6)
          refine ydm (ih3 (rY:=0) (F:={C:=F.C,S:=F.S,L:=F.L,N:=F.N,I:=F.I,Y:=none,rd:=true}) hB3 rfl hS hL rfl hI (fun e=>by cases e) (.inr hRm2) YOk.none aB _ _ χ6 _ (show KOk (yc7 ks1.nx (f0 .busy) ks6) from hk6) hγ7 (fun y e=>by cases e) hq6) fun e ks8 hq8=> ?_
          obtain ⟨hk8,t8,χ8,hγ8,hx8,hq8⟩:=hq8
          simp only[rndT] at hq8
          split at hq8
          case h_2=>exact hq8.elim
          rename_i _ _ h8 hy8 hh8
          have hp8:=hγ8.hp
          rw[hh8] at hp8
          have hlk8:=hx8 _ _ hlk6
          refine ⟨(RR.push_out hp8).1,ygs hy8 (hγ8.fr _) hlk8,?_⟩
          have hext8:ExtR t.rg t8.rg:=(hext4.trans hx6).trans hx8
          have key:∀(st:RS) (b:Bool),X b (bkS F.N (st::h8) t8)→WD P B2 c2.N none L (i+1) Qd ((ofK (bkK F.N (yc7 ks1.nx (f0 (lsR st)) ks8))).put o.dst (.bl b)):=fun st b hX=>
           k b (bkS F.N (st::h8) t8) χ8 (bkK F.N (yc7 ks1.nx (f0 (lsR st)) ks8)) (show GM P F.C (R.push ks1.nx f0) (bkS F.N (st::h8) t8) χ8 (ofK ⟨reix (dnx F.N) ks8.fr,ks8.mem,fun o=>if o=ks1.nx then some (f0 (lsR st)) else ks8.H o,ks8.nx⟩) from hbk F.N hγ8 rfl (RR.push_set (st':=st) hp8)) hk8 hext8 hX
          cases e with
          |n=>exact key .rdy true hq8
          |r=>exact key .ret false hq8
          |x i'=>exact key (.ex i') false hq8
       ·rintro e ks9 ⟨hk9,t9,χ9,hγ9,hx9,hq9⟩
        have hlk9:lkR t9.rg id=some (.yl ks1.nx):=hx9 _ _ (by show lkR ((id, .yl ks1.nx)::ts1.rg) id=_;rw[yd0,if_pos rfl])
        have hext9:ExtR ts.rg t9.rg:=((yca τ ts).trans (by rw[<-hrg];exact hx1)).trans hx9
        have fin:∀e,(∀i,e≠ .x i)→rngT id c2.N Q e t9→rngQ ks1.nx c2.N (Kq P F.C R ts.rg Q) e ks9:=by
         intro e he hq9
         have hq9:(match isY id (lkT t9.fr c2.N),t9.h with
          |true, .rdy::h=>Q .n (dnS c2.N h t9)
          |true, .ret::h=>Q .r (dnS c2.N h t9)
          |true, .ex i::h=>Q (.x i) (dnS c2.N h t9)
          |_,_=>False):=by
          cases e with
          |x i=>exact absurd rfl (he i)
          |n=>exact hq9
          |r=>exact hq9
         have goal:lkF ks9.fr c2.N= .yld ks1.nx∧∃j,lsOf (ks9.H ks1.nx)=some j∧(match j with
          | .busy=>False
          | .ready=>Kq P F.C R ts.rg Q .n (dnK ks1.nx c2.N ks9)
          | .ret=>Kq P F.C R ts.rg Q .r (dnK ks1.nx c2.N ks9)
          | .exit id=>Kq P F.C R ts.rg Q (.x id) (dnK ks1.nx c2.N ks9)):=by
          have hp9:=hγ9.hp
          have key:∀ {st:RS} {h:List RS} {e':AEx},t9.h=st::h→Q e' (dnS c2.N h t9)→lsOf (ks9.H ks1.nx)=some (lsR st)∧Kq P F.C R ts.rg Q e' (dnK ks1.nx c2.N ks9):=by
           intro st h e' hh hQ
           rw[hh] at hp9
           obtain ⟨a1,a2⟩:=RR.push_out hp9
           refine ⟨by rw[show ks9.H ks1.nx=_ from a1];rfl,hk9,dnS c2.N h t9,χ9,hbk (c2.N+1) hγ9 rfl a2,hext9,hQ⟩
          split at hq9
          ·rename_i h hy hh
           obtain ⟨a1,a2⟩:=key hh hq9
           exact ⟨ygs hy (hγ9.fr _) hlk9,_,a1,a2⟩
          ·rename_i h hy hh
           obtain ⟨a1,a2⟩:=key hh hq9
           exact ⟨ygs hy (hγ9.fr _) hlk9,_,a1,a2⟩
          ·rename_i i h hy hh
           obtain ⟨a1,a2⟩:=key hh hq9
           exact ⟨ygs hy (hγ9.fr _) hlk9,_,a1,a2⟩
          ·exact hq9.elim
         cases e with
         |x i=>exact absurd rfl (he i)
         |n=>exact goal
         |r=>exact goal
        cases e with
        |x i=>exact hq9.elim
        |n=>exact fin .n (fun i e=>by cases e) hq9
        |r=>exact fin .r (fun i e=>by cases e) hq9
   |_=>exact h.elim
end
theorem yqK {c:ycl} {Q Q':AEx→KS→Prop} {ks:KS} (h:WK P B N ro c Q ks) (hq:∀e ks,KOk ks→Q e ks→RE B N (toS ks) (Q' e)):WK P B N ro c Q' ks:=by
 have _:=(inferInstance:GB P B)
 intro x hx a G hR
 refine wpIn_mono (h x hx a G hR) ?_
 rintro e a' w' ⟨ks1,G1,h1,h2,h3⟩
 have go:∀e',Q e' ks1→∃ks2 G2,RelK B N ks2 a' G2∧G2.w=w'∧Q' e' ks2:=by
  intro e' h3
  obtain ⟨ks2,G2,k1,k2,k3⟩:=hq e' ks1 h1.2 h3 a' G1 h1.1
  exact ⟨ks2,G2,k2,by rw[k1,h2],k3⟩
 cases e with
 |normal=>exact go .n h3
 |exit id=>exact go (.x id) h3
 |ret=>exact go .r h3
 |goto l=>exact h3.elim
 |panic ch=>exact h3.elim
 |outgrown=>exact h3.elim
theorem yp4 {ks:KS} (hk:KOk ks) (hγ:GM P C R ts χ (ofK ks)) {q:Nat×Option Nat} {u:TV K} (h:resT ts q=some u):∃v,res1 (toS ks) q=some v∧TR P C ts χ u v:=by
 have box:∀ {t s c o e:Nat} {cs:List (TV K)},(lkT ts.fr t).s= .px s c o→ts.tb s c=some (.box e cs)→∃kb:KB,(toS ks).fr t= .pt (.l s c) o∧tgt (toS ks) (.pt (.l s c) o)=some (kb.cells,o)∧TL P C ts χ cs kb.cells:=by
  intro t s c o e cs e1 e2
  have ht:=(hγ.fr t).s
  rw[e1] at ht
  obtain ⟨kb,h1,h2⟩:=hγ.mb s c _ e2 (hγ.box e2)
  refine ⟨kb,ht.pxi,?_,h2.2.2.1,h2.2.2.2⟩
  have hz:=h2.nz (ydr hk s c kb h1).1 (by intro _ _ _ q;cases q)
  show ((toS ks).M (.l s c)).bind _=_
  rw[<-ydl]
  show (((ofK ks).kb s c).map KB.blk).bind _=_
  rw[h1]
  exact if_neg hz
 unfold resT at h
 split at h
 ·cases h;exact ⟨_,rfl,hγ.fr _⟩
 ·split at h
  ·rename_i s c o e1
   split at h
   ·rename_i e cs e2
    obtain ⟨kb,b1,b2,b3⟩:=box e1 e2
    obtain ⟨v,h1,h2⟩:=b3.at' h
    exact ⟨v,by simp only[res1,b1,b2,Option.bind_some];exact h1,h2⟩
   ·cases h
  ·cases h
 ·rename_i t sz
  split at h
  ·rename_i s c o e1
   split at h
   ·rename_i e cs e2
    obtain ⟨kb,b1,b2,b3⟩:=box e1 e2
    obtain ⟨v,h1,h2⟩:=yhX b3 h
    refine ⟨v,?_,h2⟩
    simp only[res1,b1,b2,Option.bind_some]
    simp only[kld] at h1
    exact h1
   ·cases h
  ·cases h
theorem ykv {ks:KS} (hk:KOk ks) (hγ:GM P C R ts χ (ofK ks)):∀(l:List (Nat×Option Nat)) (us:List (TV K)),ycr ts l=some us→∃vs,resL (toS ks) l=some vs∧TL P C ts χ us vs
 | [],us,h=>by cases h;exact ⟨[],rfl, .nil⟩
 | q::l,us,h=>by
   simp only[ycr] at h
   split at h
   ·rename_i v vs h1 h2
    cases h
    obtain ⟨a,a1,a2⟩:=yp4 hk hγ h1
    obtain ⟨az,b1,b2⟩:=ykv hk hγ l vs h2
    exact ⟨a::az,by simp only[resL,a1,b1], .cons a2 b2⟩
   ·cases h
theorem ynk (hC:CxOk P C):∀(rs:List Nat) (us:List (TV K)) (vs:List AV) (p:List (DV K)→Prop),outR C rs us p→TL P C ts χ us vs→∃xs,p xs∧noLs vs=true∧dwks vs=xs.map (dvA C)
 | [],[],vs,p,h,t=>by
   have:vs= []:=List.eq_nil_of_length_eq_zero t.1
   subst this;exact ⟨[],h,rfl,rfl⟩
 | r ::rs,u::us,vs,p,h,t=>by
   cases vs with
   |nil=>simp[TL] at t
   | cons v vs=>
     simp only[outR] at h
     split at h
     ·rename_i x e
      obtain ⟨xs,a1,a2,a3⟩:=ynk hC rs us vs _ h t.head.2
      obtain ⟨b1,b2,_⟩:=yg7 hC e t.head.1
      exact ⟨.v r x::xs,a1,by simp[noLs,b2,a2],by simp only[dwks,List.map_cons,a3,b1];rfl⟩
     ·exact h.elim
 | [],_::_,_,_,h,_=>h.elim
 |_::_,[],_,_,h,_=>h.elim
theorem ysm:∀ {x r:List (DV K)},eqR x r→x=r:=by
 have one:∀ {t t':Nat} {x:K t} {y:K t'},(if h:t=t' then h▸x=y else False)→(DV.v t x:DV K)= .v t' y:=by
  intro t t' x y h
  split at h
  ·rename_i e;subst e;subst h;rfl
  ·exact h.elim
 intro x
 induction x with
 |nil=>intro r h;cases r with|nil=>rfl|cons=>exact h.elim
 | cons a x ih=>
   intro r h
   cases r with
   |nil=>cases a<;>first|exact h.elim|(cases x<;>exact h.elim)
   | cons b r=>
     cases a with
     | v t y=>
       cases b with
       | v t' z=>
         cases x with
         | nil=>
           cases r with
           |nil=>rw[one h]
           |cons=>cases ih h.2
         | cons c x=>
           have h':(if h:t=t' then h▸y=z else False)/\eqR (c::x) r:=h
           rw[one h'.1,ih h'.2]
       |_=>cases x<;>cases r<;>exact h.elim
     |_=>cases b<;>cases x<;>cases r<;>exact h.elim
theorem ymG (hB:ybR B) (hC:CxOk P C) (res:List (Nat×Option Nat)):∀(n:Nat) (ts:TS K),REk P C R B N ts (retF C res ts n)
 |0,ts=> .refl
 | n+1,ts=>by
   have _:=(inferInstance:GB P B)
   simp only[retF]
   split
   ·split
    ·exact .refl
    ·exact (yim hB hC 9 _ ts).trans (ymG hB hC res n _)
   ·exact .refl
theorem ylw (hC:CxOk P C):∀(ps:List PD) (env:List (AD K)) (i:Nat),env.length=ps.length→(∀F,AD.f F∈env→FOk P C F)→∀t,TR P C ts χ (lkT (entT C ps env i) t) (lkF (entF (yco C ps env) i) t)
 | [],[],i,_,_,t=> .un _
 | [],_::_,i,h,_,t=>by simp at h
 |_::_,[],i,h,_,t=>by simp at h
 | p ::ps,x::env,i,h,hF,t=>by
   have ih:=ylw hC ps env (i+1) (by simpa using h) (fun F hf=>hF F (List.mem_cons_of_mem _ hf)) t
   have bad:TR P C ts χ (lkT ([]:List (Nat×TV K)) t) (lkF (entF (yco C (p::ps) (x::env)) i) t):= .un _
   have cons:∀ {u:TV K},TR P C ts χ u (penc C p x)→TR P C ts χ (lkT ((i,u)::entT C ps env (i+1)) t) (lkF (entF (yco C (p::ps) (x::env)) i) t):=by
    intro u hu
    show TR P C ts χ _ (lkF ((i,penc C p x)::entF (yco C ps env) (i+1)) t)
    rw[yba,yaJ]
    simp only
    split
    ·exact hu
    ·exact ih
   cases p with
   | v t'=>
     cases x with
     | d y=>
       cases y with
       | v t2 z=>
         simp only[entT]
         refine cons ?_
         split
         ·rename_i e;subst e;exact (ygu hC t2 z).1
         ·exact .un _
       |_=>exact bad
     |f F=>exact bad
   | p t' =>
     cases x with
     | d y=>
       cases y with
       | v t2 z=>
         simp only[entT]
         refine cons ?_
         split
         ·rename_i e;subst e
          have:penc C (.p t2) (.d (.v t2 z))= .ep ((C.E t2).c z) (0*(C.E t2).sz+0):=by simp[penc]
          rw[this]
          exact .ep t2 [z] 0 0 _ (by simp[cl,hC.dw])
         ·exact .un _
       |_=>exact bad
     |f F=>exact bad
   | f az bs=>
     cases x with
     |d y=>exact bad
     | f F=>
       simp only[entT]
       exact cons (.fv az bs F _ (hF F List.mem_cons_self) (hF F List.mem_cons_self).2.1)
theorem yin (hC:CxOk P C):∀(ps:List PD) (env:List (AD K)),(∀F,AD.f F∈env→FOk P C F)→noLs (yco C ps env)=true
 | [],_,_=>by simp[yco,noLs]
 |_::_,[],_=>by simp[yco,noLs]
 | p ::ps,x::env,hF=>by
   have ih:=yin hC ps env (fun F hf=>hF F (List.mem_cons_of_mem _ hf))
   have dv:∀y:DV K,(dvA C y).noL=true:=by
    intro y
    cases y with
    |v t z=>exact (ygu (P:=P) (ts:=⟨[],[],[],[],[]⟩) (χ:=fun _ _=>false) hC t z).2.1
    |_=>rfl
   simp only[yco,noLs,ih,Bool.and_true]
   cases x with
   |f F=>cases p<;>exact (hF F List.mem_cons_self).1
   | d y =>
     cases p with
     | p t'=>
       cases y with
       | v t2 z=>
         simp only[penc]
         split<;>rfl
       |_=>rfl
     |_=>exact dv y
theorem yiR (C:Cx K):∀(ps:List PD) (env:List (AD K)),env.length=ps.length→(yco C ps env).length=ps.length
 | [],[],_=>rfl
 | [],_::_,h=>by simp at h
 |_::_,[],h=>by simp at h
 |p::ps,x::env,h=>by simp only[yco,List.length_cons];rw[yiR C ps env (by simpa using h)]
end
mutual
theorem ynC (m:Nat):∀u:AV,hlt m (dwk u)=hlt m u
 | .agg cs=>by simp only[dwk,hlt];exact ydh m cs
 | .tup cs=>by simp only[dwk,hlt];exact ydh m cs
 | .fn f a c=>by simp only[dwk,hlt,ydh m a,ydh m c]
 | .sl z n xs=>by simp only[dwk,hlt];exact ydh m xs
 | .ep xs off=>by simp only[dwk,hlt];exact ydh m xs
 | .gs k n=>rfl
 | .pt k n=>rfl
 | .bl b=>rfl
 | .it k n=>rfl
 | .st s=>rfl
 | .nptr=>rfl
 | .nfn=>rfl
 | .un=>rfl
 | .yld o=>rfl
 | .rcd _ _ _ _ _=>rfl
theorem ydh (m:Nat):∀l:List AV,hlts m (dwks l)=hlts m l
 | []=>rfl
 |u::r=>by simp only[dwks,hlts,ynC m u,ydh m r]
end
theorem yoz {P:Program} {C:Cx K} (hC:CxOk P C) (r:List (DV K)) (m:Nat):hlt m (yb3 (r.map (dvA C)))=true:=by
 have one:∀x:DV K,hlt m (dvA C x)=true:=by
  intro x
  cases x with
  | v t y=>
    have h:=hC.hl t y m
    show hlt m (match (C.T t).g with|true=> .agg ((C.E t).c y)|false=>((C.E t).c y).headD .un)=true
    split
    ·simpa only[hlt] using h
    ·cases hq:(C.E t).c y with
     |nil=>rfl
     |cons a b=>rw[hq] at h;simp only[hlts,Bool.and_eq_true] at h;exact h.1
  |_=>rfl
 have all:∀l:List (DV K),hlts m (l.map (dvA C))=true:=by
  intro l
  induction l with
  |nil=>rfl
  |cons x l ih=>simp only[List.map_cons,hlts,one x,ih,Bool.and_self]
 match r with
 | []=>rfl
 | [x]=>exact one x
 |x::y::l=>have:=all (x::y::l);simpa only[List.map_cons,yb3,hlt] using this
theorem ysP {P:Program} {F:Cf K} (hC:CxOk P F.C) (hS:SsOk P F.C F.S) (hL:SLOk P F.C F.L) {f:FuncId} {c:AFn} (hF:trF P f=some c) {A:An K} {ps:List PD} {rs:List Nat} (hN:F.N=c.N) (hps:ps.length≤c.N) {env:List (AD K)} {r:List (DV K)} (hlen:env.length=ps.length) (hFs:∀G,AD.f G∈env→FOk P F.C G)
  (h:DnF F A c ps rs env r) (hI:IOk P F.I) (hY:F.Y=none):Pure P f (yco F.C ps env) (yb3 (r.map (dvA F.C))):=by
 intro H n
 refine yay.dwkR (yay.shr (Post:=fun av=>dwk av=yb3 (r.map (dvA F.C))) ?_ fun av hP m=>by rw[<-ynC,hP];exact yoz hC r m)
 refine ymj hF (by rw[yiR _ _ _ hlen];exact hps) (yin hC ps env hFs) fun B _ hB=> ?_
 let R:RR K:=⟨fun _ H' n'=>H'=H/\n<=n',fun _=>false⟩
 let ks0:KS:=entK (yco F.C ps env) H n
 let ts0:TS K:=⟨entT F.C ps env 0,[],[],[],[]⟩
 have hk0:KOk ks0:=fun d b hb=>by cases hb
 have hg0:GM P F.C R ts0 (fun _ _=>false) (ofK ks0):=by
  refine ⟨fun t=>ylw hC ps env 0 hlen hFs t,fun s c b hb _=> ?_,fun s c h=>by (cases h),fun s _=>rfl,⟨rfl,Nat.le_refl _⟩,fun s b _ hb=>(by cases hb)⟩
  rcases tb_c hb with rfl|rfl<;>cases hb
 have hmain:=ys7 hC A (ro:=none) (R:=R) (rY:=0) hB rfl hS hL hN hI (fun _=>rfl) (.inr fun _ _ _ _ q hm=>⟨q.1,Nat.le_trans q.2 hm⟩) (by rw[hY];exact YOk.none) c.body _ ts0 _ ks0 hk0 hg0 (fun y e=>by rw[hY] at e;cases e) h
 refine yqK hmain fun e ks hk hq=> ?_
 obtain ⟨_,ts,χ,hγ,_,hq⟩:=hq
 have fin:retD F.C c.res rs (fun x=>eqR x r) .r ts→RE B c.N (toS ks) (retK c.res (fun av H' n'=>dwk av=yb3 (r.map (dvA F.C))∧H'=H∧n≤n') .r):=by
  intro hq
  simp only[retD] at hq
  refine (ymG hB hC c.res 9 ts χ ks hk hγ).mono fun ks' ⟨hk',ξ,hγ'⟩=> ?_
  split at hq
  ·rename_i us hus
   obtain ⟨vs,h1,h2⟩:=ykv hk' hγ' c.res us hus
   obtain ⟨xs,h3,h4,h5⟩:=ynk hC rs us vs _ hq h2
   have:=ysm h3
   subst this
   show wpv (resA (toS ks') c.res) _
   unfold resA
   rw[h1]
   have hA:∀(vs:List AV) (xs:List AV),noLs vs=true→dwks vs=xs→(match vs with| [u]=>u|us=>AV.tup us).noL=true∧dwk (match vs with| [u]=>u|us=>AV.tup us)=yb3 xs:=by
    intro vs xs hn hd
    match vs,hn,hd with
    | [],_,hd=>subst hd;exact ⟨rfl,rfl⟩
    | [v],hn,hd=>subst hd;exact ⟨by simpa [noLs] using hn,rfl⟩
    |v::v'::vs,hn,hd=>subst hd;exact ⟨hn,rfl⟩
   obtain ⟨a1,a2⟩:=hA vs _ h4 h5
   exact ⟨a1,by rw[yhr];exact a2,hγ'.hp.1,hγ'.hp.2⟩
  ·exact hq.elim
 cases e with
 |x id=>exact hq.elim
 |r=>exact fin hq
 |n=>exact fin hq
end Go.AV
end
noncomputable section
namespace Go.AV
open Go.RowKit Go.RG Go.Lib
variable {K:Nat->Type}
section
variable {P:Program} {C:Cx K} {ts:TS K} {χ:Nat->Nat->Bool}
end
section
variable {P:Program} {C:Cx K} {ts:TS K} {χ:Nat->Nat->Bool} {m:Nat}
end
section
variable {P:Program} {C:Cx K}
end
theorem ykR {c:CT} {x:DV K} {y:CTy K c} (h:outC c x=some y):x=inC c y:=by
 cases c with
 |i=>cases x<;>simp only[outC,outI] at h<;>cases h;rfl
 |b=>cases x<;>simp only[outC,yqX] at h<;>cases h;rfl
 |s=>cases x<;>simp only[outC,outS] at h<;>cases h;rfl
 | l e=>
   cases x with
   | l e' l=>
     simp only[outC,outL] at h
     obtain ⟨rfl,rfl⟩:=yck h
     rfl
   |_=>simp only[outC,outL] at h;cases h
 | v t=>
   cases x with
   | v t' x=>
     simp only[outC,outT] at h
     split at h
     ·rename_i e;subst e;cases h;rfl
     ·cases h
   |_=>simp only[outC,outT] at h;cases h
theorem ydT {f:Cur K Prop []} {out:List (DV K)} (h:yjI [] f out):out= []∧f:=by
 cases out with
 |nil=>exact ⟨rfl,h⟩
 |cons x r=>exact h.elim
theorem yb1 {c:CT} {co:List CT} {f:Cur K Prop (c::co)} {out:List (DV K)} (h:yjI (c::co) f out):∃(y:CTy K c) (r:List (DV K)),out=inC c y::r∧yjI co (f y) r:=by
 cases out with
 |nil=>exact h.elim
 | cons x r=>
   have h:(match outC c x with|some y=>yjI co (f y) r|none=>False):=h
   revert h
   cases e:outC c x with
   |none=>exact fun h=>h.elim
   |some y=>exact fun h=>⟨y,r,by rw[ykR e],h⟩
theorem yfx {co:List CT} {f:Cur K (Cur K Prop co) []} {env out:List (DV K)} (h:apIn co [] f env out):env= []∧yjI co f out:=by
 cases env with
 |nil=>exact ⟨rfl,h⟩
 |cons x r=>exact h.elim
theorem ych {co:List CT} {c:CT} {ci:List CT} {f:Cur K (Cur K Prop co) (c::ci)} {env out:List (DV K)} (h:apIn co (c::ci) f env out):∃(y:CTy K c) (r:List (DV K)),env=inC c y::r∧apIn co ci (f y) r out:=by
 cases env with
 |nil=>exact h.elim
 | cons x r=>
   have h:(match outC c x with|some y=>apIn co ci (f y) r out|none=>False):=h
   revert h
   cases e:outC c x with
   |none=>exact fun h=>h.elim
   |some y=>exact fun h=>⟨y,r,by rw[ykR e],h⟩
theorem yfz {ci co:List CT} {f:FsTy K (Cur K (Cur K Prop co) ci) []} {fs:List (FV K)} {env out:List (DV K)} (h:apFs ci co [] f fs env out):fs= []∧apIn co ci f env out:=by
 cases fs with
 |nil=>exact ⟨rfl,h⟩
 |cons x r=>exact h.elim
def SlC (P:Program) (C:Cx K) (sp:Sl K) (fs:List (FV K)) (env out:List (DV K)):Prop:=∀χ,ViOk (entL C sp fs env) χ->∀H n,yap P sp.f (argT C sp (entL C sp fs env) χ) (memT C (entL C sp fs env) χ) H n (EndL C sp (entL C sp fs env) χ out H n)
theorem yo7 {P:Program} {C:Cx K}:SLOk P C []:=fun sp h=>by cases h
theorem ydo {P:Program} {C:Cx K} {sp:Sl K} {l:List (Sl K)} (h:SlOk P C sp) (k:SLOk P C l):SLOk P C (sp::l):=fun q hq=>by
 rcases List.mem_cons.1 hq with rfl|hq
 ·exact h
 ·exact k q hq
end Go.AV
end
noncomputable section
namespace Go.AV
open Go.RowKit Go.RG Go.Lib
variable {K:Nat->Type}
theorem ybA {c:Bool} {a b a' b':Prop} (h:cnd c a b) (ha:a->a') (hb:b->b'):cnd c a' b':=⟨fun e=>ha (h.1 e),fun e=>hb (h.2 e)⟩
structure Tb (K:Nat→Type) (X:Type) where
 g:Bool
 c:X->List (TV K)
 rd:List (TV K)->Option X
 tb:Option (X->UInt8)
 ob:Option (UInt8->X)
 fl:Bool
 E:Enc X
structure TbOk (P:Program) (C:Cx K) {X:Type} (b:Tb K X):Prop where
 c:∀(x:X) ts χ,((b.E).c x).length=(b.c x).length/\∀(j:Nat) (u:TV K) (v:AV),(b.c x)[j]? =some u->(b.E.c x)[j]? =some v->TR P C ts χ u v
 rd:∀(cs:List (TV K)) (x:X) ts χ (vs:List AV),b.rd cs=some x->vs.length=cs.length->(∀(j:Nat) (u:TV K) (v:AV),cs[j]? =some u->vs[j]? =some v->TR P C ts χ u v)->dwks vs=b.E.c x
 g:b.g=false->b.E.sz=1
 dw:∀x:X,dwks (b.E.c x)=b.E.c x
 tb:∀f,b.tb=some f->∀x,∃n,b.E.c x= [.it .u8 n]/\f x=UInt8.ofNat n.toNat
 ob:∀f,b.ob=some f->∀y:UInt8,b.E.c (f y)= [.it .u8 y.toNat]
 fl:b.fl=true->∀x:X,ydj (b.E.c x)=true
 nr:∀x,yaQ (b.c x)=true
 hl:∀x m,hlts m (b.E.c x)=true
 ny:∀x,yfg (b.c x)=true
 rc:∀x,isRc (b.E.c x)=false
def tbI (k:IntKind):Tb K Int:=⟨false,fun n=> [.it k n],fun cs=>match cs with
 | [u]=>match tint u with
   |some (k',n)=>if k'=k then some n else none
   |none=>none
 |_=>none,(match k with| .u8=>some toB|_=>none),(match k with| .u8=>some ofB|_=>none),true,eI k⟩
def tbB:Tb K Bool:=⟨false,fun b=> [.bl b],fun cs=>match cs with
 | [u]=>tbo u
 |_=>none,none,none,true,eB⟩
def tbS:Tb K Str:=⟨false,fun s=> [.st s],fun cs=>match cs with
 | [.st s]=>some s
 |_=>none,none,none,true,eS⟩
def tbL (e:Nat) (E:Enc (K e)):Tb K (List (K e)):=⟨false,fun l=> [.sl e l],fun cs=>match cs with
 | [.sl e' l]=>yfH e' e l
 | [.nil]=>some []
 | [.em]=>some []
 |_=>none,none,none,false,eSl E⟩
def ybq {A B:Type} (a:Tb K A) (b:Tb K B):Tb K (A×B):=⟨true,fun x=>a.c x.1++b.c x.2,fun cs=>match a.rd (cs.take a.E.sz),b.rd (cs.drop a.E.sz) with
 |some x,some y=>some (x,y)
 |_,_=>none,none,none,a.fl&&b.fl,⟨fun x=>a.E.c x.1++b.E.c x.2,a.E.sz+b.E.sz,by have:=a.E.pos;omega,fun x=>by rw[List.length_append,a.E.len,b.E.len],fun x=>by rw[yjO,a.E.no,b.E.no];rfl,fun x=>by rw[List.all_append,a.E.one,b.E.one];rfl⟩⟩
def yfq {A X:Type} (a:Tb K A) (f:X→A) (g:A→X) (E:Enc X):Tb K X:=⟨true,fun x=>a.c (f x),fun cs=>match a.rd cs with
 |some y=>some (g y)
 |none=>none,none,none,a.fl,E⟩
def yen {A X:Type} (a:Enc A) (f:X->A):Enc X:=⟨fun x=>a.c (f x),a.sz,a.pos,fun x=>a.len _,fun x=>a.no _,fun x=>a.one _⟩
def tbU:Tb K Unit:=⟨false,fun _=> [.lb true],fun _=>none,none,none,false,⟨fun _=> [.bl true],1,by omega,fun _=>rfl,fun _=>rfl,fun _=>rfl⟩⟩
theorem ykH (m:Nat) (a b:List AV):hlts m (a++b)=(hlts m a&&hlts m b):=by
 induction a with
 |nil=>simp[hlts]
 |cons x a ih=>simp[hlts,ih,Bool.and_assoc]
theorem ytI {T:Type} {E:Enc T} (h:∀x m,hlts m (E.c x)=true) (l:List T) (m:Nat):hlts m (cl E l)=true:=by
 induction l with
 |nil=>rfl
 |cons x l ih=>show hlts m (E.c x++cl E l)=true;rw[ykH,h,ih];rfl
theorem yr8 {T:Type} {E:Enc T} (h:∀x m,hlts m (E.c x)=true):∀l m,hlts m ((eSl E).c l)=true:=fun l m=>by
 show hlts m [slA E l]=true
 simp only[hlts,slA,hlt,ytI h,Bool.and_true]
section
variable {P:Program} {C:Cx K}
theorem at1 {α:Type} {x u:α} {j:Nat} (h: [x][j]? =some u):j=0∧u=x:=by
 cases j with
 |zero=>simp at h;exact ⟨rfl,h.symm⟩
 |succ j=>simp at h
theorem len1 {α:Type} {l:List α} (h:l.length=1):∃x,l= [x]:=by
 match l,h with
 | [x],_=>exact ⟨x,rfl⟩
theorem yfA (k:IntKind):TbOk P C (tbI k:Tb K Int):=by
 refine ⟨fun x ts χ=>⟨rfl,fun j u v hu hv=> ?_⟩,fun cs x ts χ vs h hl ht=> ?_,fun _=>rfl,fun _=>rfl,fun f hf x=> ?_,fun f hf x=> ?_,fun _ _=>rfl,fun _=>rfl,fun _ _=>rfl,fun _=>rfl,fun _=>rfl⟩
 ·obtain ⟨rfl,rfl⟩:=at1 hu;obtain ⟨_,rfl⟩:=at1 hv;exact .it k x
 ·simp only[tbI] at h
  split at h
  ·rename_i u
   obtain ⟨v,rfl⟩:=len1 hl
   split at h
   ·rename_i k' n hn
    split at h
    ·rename_i e;cases h;subst e;rw[TR.int (ht 0 _ _ rfl rfl) hn];rfl
    ·cases h
   ·cases h
  ·cases h
 ·cases k<;>simp[tbI] at hf;subst hf;exact ⟨x,rfl,rfl⟩
 ·cases k<;>simp[tbI] at hf;subst hf;rfl
theorem ykP:TbOk P C (tbB:Tb K Bool):=by
 refine ⟨fun x ts χ=>⟨rfl,fun j u v hu hv=> ?_⟩,fun cs x ts χ vs h hl ht=> ?_,fun _=>rfl,fun _=>rfl,fun f hf x=>(by cases hf),fun f hf x=>(by cases hf),fun _ _=>rfl,fun _=>rfl,fun _ _=>rfl,fun _=>rfl,fun _=>rfl⟩
 ·obtain ⟨rfl,rfl⟩:=at1 hu;obtain ⟨_,rfl⟩:=at1 hv;exact .bl x
 ·simp only[tbB] at h
  split at h
  ·obtain ⟨v,rfl⟩:=len1 hl;rw[TR.bool (ht 0 _ _ rfl rfl) h];rfl
  ·cases h
theorem yeZ:TbOk P C (tbS:Tb K Str):=by
 refine ⟨fun x ts χ=>⟨rfl,fun j u v hu hv=> ?_⟩,fun cs x ts χ vs h hl ht=> ?_,fun _=>rfl,fun _=>rfl,fun f hf x=>(by cases hf),fun f hf x=>(by cases hf),fun _ _=>rfl,fun _=>rfl,fun _ _=>rfl,fun _=>rfl,fun _=>rfl⟩
 ·obtain ⟨rfl,rfl⟩:=at1 hu;obtain ⟨_,rfl⟩:=at1 hv;exact .st x
 ·simp only[tbS] at h
  split at h
  ·obtain ⟨v,rfl⟩:=len1 hl;cases h;rw[TR.str (ht 0 _ _ rfl rfl)];rfl
  ·cases h
theorem yse {T:Type} {E:Enc T} (h:∀x,dwks (E.c x)=E.c x) (l:List T):dwks (cl E l)=cl E l:=by
 induction l with
 |nil=>rfl
 |cons x l ih=>show dwks (E.c x++cl E l)=E.c x++cl E l;rw[ybC,h,ih]
theorem yb0 (e:Nat) {E:Enc (K e)} (hE:C.E e=E) (hd:∀x,dwks (E.c x)=E.c x) (hh:∀x m,hlts m (E.c x)=true):TbOk P C (tbL e E):=by
 refine ⟨fun x ts χ=>⟨rfl,fun j u v hu hv=> ?_⟩,fun cs x ts χ vs h hl ht=> ?_,fun _=>rfl,fun x=> ?_,fun f hf x=>(by cases hf),fun f hf x=>(by cases hf),fun h=>(by cases h),fun _=>rfl,fun x m=>yr8 hh x m,fun _=>rfl,fun _=>rfl⟩
 ·obtain ⟨rfl,rfl⟩:=at1 hu;obtain ⟨_,rfl⟩:=at1 hv;exact .sl e x false _ _ rfl (by rw[hE];exact yse hd x)
 ·simp only[tbL] at h
  split at h
  ·obtain ⟨v,rfl⟩:=len1 hl
   obtain ⟨rfl,h⟩:=yck h
   obtain ⟨z,xs,h1,rfl⟩:=(ht 0 _ _ rfl rfl).sli
   subst h
   show [dwk (AV.sl z _ xs)]=_
   simp only[dwk,h1,hE];rfl
  ·obtain ⟨v,rfl⟩:=len1 hl;cases h
   have:=ht 0 _ _ rfl rfl
   cases this;rfl
  ·obtain ⟨v,rfl⟩:=len1 hl;cases h
   have:=ht 0 _ _ rfl rfl
   cases this;rfl
  ·cases h
 ·show [dwk (slA E x)]= [slA E x]
  simp only[slA,dwk,yse hd]
theorem ymr (a b:List AV):ydj (a++b)=(ydj a&&ydj b):=by
 induction a with
 |nil=>simp[ydj]
 |cons x a ih=>simp[ydj,ih,Bool.and_assoc]
theorem yjy (a b:List (TV K)):yaQ (a++b)=(yaQ a&&yaQ b):=by
 induction a with
 |nil=>simp[yaQ]
 |cons x a ih=>simp[yaQ,ih,Bool.and_assoc]
theorem ymV (a b:List (TV K)):yfg (a++b)=(yfg a&&yfg b):=by
 induction a with
 |nil=>simp[yfg]
 |cons x a ih=>simp[yfg,ih,Bool.and_assoc]
theorem yoo {u v:List AV} (hu:isRc u=false) (hv:isRc v=false):isRc (u++v)=false:=by
 cases u with
 |nil=>cases hu
 | cons x u=>
   cases v with
   |nil=>cases hv
   | cons y v=>
     cases u with
     |nil=>cases x<;>rfl
     |cons z u=>cases x<;>rfl
theorem ya1 {A B:Type} {a:Tb K A} {b:Tb K B} (ha:TbOk P C a) (hb:TbOk P C b):TbOk P C (ybq a b):=by
 refine ⟨fun x ts χ=> ?_,fun cs x ts χ vs h hl ht=> ?_,fun h=>(by cases h),fun x=> ?_,fun f hf x=>(by cases hf),fun f hf x=>(by cases hf),fun h x=> ?_,fun x=> ?_,fun x m=>by show hlts m (a.E.c x.1++b.E.c x.2)=true;rw[ykH,ha.hl,hb.hl];rfl,fun x=>by show yfg (a.c x.1++b.c x.2)=true;rw[ymV,ha.ny,hb.ny];rfl,fun x=>yoo (ha.rc x.1) (hb.rc x.2)⟩
 ·exact TL.app (ts:=ts) (χ:=χ) (P:=P) (C:=C) (us:=a.c x.1) (us':=b.c x.2) (vs:=a.E.c x.1) (vs':=b.E.c x.2) (ha.c x.1 ts χ) (hb.c x.2 ts χ)
 ·simp only[ybq] at h
  split at h
  ·rename_i x1 y1 h1 h2
   cases h
   have t:TL P C ts χ cs vs:=⟨hl,ht⟩
   have e1:=ha.rd _ _ ts χ _ h1 (t.take a.E.sz).1 (t.take a.E.sz).2
   have e2:=hb.rd _ _ ts χ _ h2 (t.drop a.E.sz).1 (t.drop a.E.sz).2
   show dwks vs=a.E.c x1++b.E.c y1
   rw[<-e1,<-e2,<-ybC,List.take_append_drop]
  ·cases h
 ·show dwks (a.E.c x.1++b.E.c x.2)=_;rw[ybC,ha.dw,hb.dw];rfl
 ·have h':(a.fl&&b.fl)=true:=h
  rw[Bool.and_eq_true] at h'
  show ydj (a.E.c x.1++b.E.c x.2)=true
  rw[ymr,ha.fl h'.1,hb.fl h'.2];rfl
 ·show yaQ (a.c x.1++b.c x.2)=true;rw[yjy,ha.nr,hb.nr];rfl
theorem yb8 {A X:Type} {a:Tb K A} {f:X→A} {g:A→X} {E:Enc X} (ha:TbOk P C a) (hfg:∀y,f (g y)=y) (hE:∀x,E.c x=a.E.c (f x)):TbOk P C (yfq a f g E):=by
 refine ⟨fun x ts χ=> ?_,fun cs x ts χ vs h hl ht=> ?_,fun h=>(by cases h),fun x=> ?_,fun f hf x=>(by cases hf),fun f hf x=>(by cases hf),fun h x=> ?_,fun x=>ha.nr (f x),fun x m=>by show hlts m (E.c x)=true;rw[hE];exact ha.hl _ m,fun x=>ha.ny (f x),fun x=>by rw[show (yfq a f g E).E.c x=E.c x from rfl,hE];exact ha.rc _⟩
 ·have:=ha.c (f x) ts χ;rw[<-hE] at this;exact this
 ·simp only[yfq] at h
  split at h
  ·rename_i y hy;cases h;show dwks vs=E.c (g y);rw[hE,hfg];exact ha.rd _ _ ts χ _ hy hl ht
  ·cases h
 ·show dwks (E.c x)=E.c x;rw[hE];exact ha.dw _
 ·show ydj (E.c x)=true;rw[hE];exact ha.fl h _
theorem ysQ:TbOk P C (tbU:Tb K Unit):=by
 refine ⟨fun x ts χ=>⟨rfl,fun j u v hu hv=> ?_⟩,fun cs x ts χ vs h hl ht=>(by cases h),fun _=>rfl,fun _=>rfl,fun f hf x=>(by cases hf),fun f hf x=>(by cases hf),fun h=>(by cases h),fun _=>rfl,fun _ _=>rfl,fun _=>rfl,fun _=>rfl⟩
 obtain ⟨rfl,rfl⟩:=at1 hu;obtain ⟨_,rfl⟩:=at1 hv;exact .lb true
end
section
variable {TC:Type} {KF:TC->Type} {code:Nat->TC}
def cxOf (TF:(c:TC)→Tb (fun t=>KF (code t)) (KF c)):Cx (fun t=>KF (code t)):=
 ⟨fun t=>⟨(TF (code t)).g,(TF (code t)).c,(TF (code t)).rd,(TF (code t)).tb,(TF (code t)).ob,(TF (code t)).fl⟩,fun t=>(TF (code t)).E⟩
theorem yqA {P:Program} {TF:(c:TC)→Tb (fun t=>KF (code t)) (KF c)} (h:∀c,TbOk P (cxOf TF) (TF c)):CxOk P (cxOf TF):=
 ⟨fun t x ts χ=>(h (code t)).c x ts χ,fun t cs x ts χ vs a b c=>(h (code t)).rd cs x ts χ vs a b c,fun t e=>(h (code t)).g e,fun t x=>(h (code t)).dw x,fun t f e=>(h (code t)).tb f e,fun t f e=>(h (code t)).ob f e,fun t e=>(h (code t)).fl e,fun t x=>(h (code t)).nr x,fun t=>(h _).hl,fun t=>(h _).ny,fun t x=>(h _).rc x⟩
def lkC (d:TC):List (Nat×TC)→Nat→TC
 | [],_=>d
 | p::r,t=>match Nat.beq p.1 t with
   |true=>p.2
   |false=>lkC d r t
end
theorem ysH {rs:List Nat} {p:Nat} {ps:List PD} {w:WTy K rs (.v p::ps)} {a:List (AD K)} {b:List (DV K)} (h:appW rs (.v p::ps) w a b):∃(x:K p) (a':List (AD K)),a= .d (.v p x)::a'∧appW rs ps (w x) a' b:=by
 cases a with
 |nil=>exact h.elim
 | cons u a'=>
   simp only[appW] at h
   split at h
   ·rename_i y hy
    cases u with
    |f F=>simp[outP] at hy
    | d x=>
      cases x with
      | v t x=>
        simp only[outP] at hy
        split at hy
        ·rename_i e;subst e;cases hy;exact ⟨x,a',rfl,h⟩
        ·cases hy
      |_=>simp[outP] at hy
   ·exact h.elim
theorem ysS {rs:List Nat} {p:Nat} {ps:List PD} {w:WTy K rs (.p p::ps)} {a:List (AD K)} {b:List (DV K)} (h:appW rs (.p p::ps) w a b):∃(x:K p) (a':List (AD K)),a= .d (.v p x)::a'∧appW rs ps (w x) a' b:=by
 cases a with
 |nil=>exact h.elim
 | cons u a'=>
   simp only[appW] at h
   split at h
   ·rename_i y hy
    cases u with
    |f F=>simp[outP] at hy
    | d x=>
      cases x with
      | v t x=>
        simp only[outP] at hy
        split at hy
        ·rename_i e;subst e;cases hy;exact ⟨x,a',rfl,h⟩
        ·cases hy
      |_=>simp[outP] at hy
   ·exact h.elim
theorem yrQ {rs az bs:List Nat} {ps:List PD} {w:WTy K rs (.f az bs::ps)} {a:List (AD K)} {b:List (DV K)} (h:appW rs (.f az bs::ps) w a b):∃(F:FV K) (a':List (AD K)),a= .f F::a'∧appW rs ps (w (curF bs az F.W)) a' b:=by
 cases a with
 |nil=>exact h.elim
 | cons u a'=>
   simp only[appW] at h
   split at h
   ·rename_i y hy
    cases u with
    |f F=>simp only[outP] at hy;cases hy;exact ⟨F,a',rfl,h⟩
    |d x=>cases x<;>simp[outP] at hy
   ·exact h.elim
theorem yrz {rs:List Nat} {w:WTy K rs []} {a:List (AD K)} {b:List (DV K)} (h:appW rs [] w a b):a= []∧apR rs w b:=by
 cases a with
 |nil=>exact ⟨rfl,h⟩
 |cons u a'=>exact h.elim
theorem ytA {r:Nat} {rs:List Nat} {w:RTy K (r::rs)} {b:List (DV K)} (h:apR (r::rs) w b):∃(x:K r) (b':List (DV K)),b= .v r x::b'∧apR rs (w x) b':=by
 cases b with
 |nil=>exact h.elim
 | cons u b'=>
   cases u with
   | v t x=>
     have h':(if e:t=r then apR rs (w (e▸x)) b' else False):=h
     by_cases e:t=r
     ·subst e;rw[dif_pos rfl] at h';exact ⟨x,b',rfl,h'⟩
     ·rw[dif_neg e] at h';exact h'.elim
   |_=>exact h.elim
theorem ytf {w:RTy K []} {b:List (DV K)} (h:apR [] w b):b= []∧w:=by
 cases b with
 |nil=>exact ⟨rfl,h⟩
 |cons u b'=>exact h.elim
theorem ytw {P:Program}:IOk P []:=fun f c h=>by cases h
def huR:(rs:List Nat)→RTy K rs→(List (DV K)→Prop)→Prop
 | [],w,D=> @Eq Prop w (D [])
 |r::rs,w,D=>∀x:K r,huR rs (w x) fun b=>D (.v r x::b)
def huW (rs:List Nat):(ps:List PD)→WTy K rs ps→(List (AD K)→List (DV K)→Prop)→Prop
 | [],w,D=>huR rs w (D [])
 | .v p::ps,w,D=>∀x:K p,huW rs ps (w x) fun a=>D (.d (.v p x)::a)
 | .p p::ps,w,D=>∀x:K p,huW rs ps (w x) fun a=>D (.d (.v p x)::a)
 | .f az bs::ps,w,D=>∀F:FV K,huW rs ps (w (curF bs az F.W)) fun a=>D (.f F::a)
theorem ypb:∀ {rs:List Nat} {w:RTy K rs} {D:List (DV K)→Prop} {b:List (DV K)},huR rs w D→apR rs w b→D b
 | [],w,D,b,e,h=>by
   obtain ⟨rfl,h⟩:=ytf h
   have e: @Eq Prop w (D []):=e
   exact e▸h
 | r::rs,w,D,b,e,h=>by
   obtain ⟨x,b',rfl,k⟩:=ytA h
   exact ypb (rs:=rs) (w:=w x) (D:=fun b=>D (.v r x::b)) (e x) k
theorem yks {rs:List Nat}:∀ {ps:List PD} {w:WTy K rs ps} {D:List (AD K)→List (DV K)→Prop} {a:List (AD K)} {b:List (DV K)},huW rs ps w D→appW rs ps w a b→a.length=ps.length∧D a b
 | [],w,D,a,b,e,h=>by
   obtain ⟨rfl,h⟩:=yrz h
   exact ⟨rfl,ypb (w:=w) e h⟩
 | .v p::ps,w,D,a,b,e,h=>by
   obtain ⟨x,a',rfl,k⟩:=ysH h
   obtain ⟨h1,h2⟩:=yks (ps:=ps) (w:=w x) (D:=fun a=>D (.d (.v p x)::a)) (e x) k
   exact ⟨by simp[h1],h2⟩
 | .p p::ps,w,D,a,b,e,h=>by
   obtain ⟨x,a',rfl,k⟩:=ysS h
   obtain ⟨h1,h2⟩:=yks (ps:=ps) (w:=w x) (D:=fun a=>D (.d (.v p x)::a)) (e x) k
   exact ⟨by simp[h1],h2⟩
 | .f az bs::ps,w,D,a,b,e,h=>by
   obtain ⟨F,a',rfl,k⟩:=yrQ h
   obtain ⟨h1,h2⟩:=yks (ps:=ps) (w:=w (curF bs az F.W)) (D:=fun a=>D (.f F::a)) (e F) k
   exact ⟨by simp[h1],h2⟩
theorem yms {P:Program} {F:Cf K} (hC:CxOk P F.C) (hS:SsOk P F.C F.S) (hL:SLOk P F.C F.L) {f:FuncId} {c:AFn} (hF:trF P f=some c) {A:An K} {ps:List PD} {rs:List Nat} {w:WTy K rs ps} (hN:F.N=c.N) (hps:Nat.ble ps.length c.N=true) (e:huW rs ps w (DnF F A c ps rs)) (hI:IOk P F.I:=by exact ytw) (hY:F.Y=none:=by rfl):SpOk P F.C ⟨f,ps,rs,appW rs ps w⟩:=fun env r hFs h=>by
 obtain ⟨h1,h2⟩:=yks e h
 exact ⟨h1,ysP hC hS hL hF hN (Nat.le_of_ble_eq_true hps) h1 hFs h2 hI hY⟩
theorem ypF {P:Program} {C:Cx K}:SsOk P C []:=fun sp h=>by cases h
theorem yrX {P:Program} {C:Cx K} {sp:Sp K} {l:List (Sp K)} (h:SpOk P C sp) (k:SsOk P C l):SsOk P C (sp::l):=fun q hq=>by
 rcases List.mem_cons.1 hq with rfl|hq
 ·exact h
 ·exact k q hq
end Go.AV
end
noncomputable section
namespace Go.AV
open Go.RowKit Go.RG
section
variable {B:Base} {S:St} {G:Gh}
theorem MRel.turn (h:MRel B S G) {d c:Nat} {b0:Blk} {r0:Nat×Nat} (hM:S.M (.l d c)=some b0) (hk:G.κ (.l d c)=some r0) (ho:opq b0=true) {us:List AV} (hrc:isRc us=false) (hnl:noLs us=true) {w1:World} {F:Nat→Prop}
  (hs:∀x,x<G.w.heap.size->x≠r0.1->¬G.ft (.l d c) x->w1.heap[x]? =G.w.heap[x]?) (hF:∀x,F x->x≠r0.1/\x<w1.heap.size/\(G.ft (.l d c) x∨G.w.heap.size<=x)) (hnd:∀x,F x->∀ds,w1.heap[x]?≠some (.deferred ds))
  (hh:∃o,w1.heap[r0.1]? =some o/\∀ds,o≠ .deferred ds) (hrep:opqR b0.e (dwks us) w1 r0.1 F) (hsz:G.w.heap.size<=w1.heap.size) (hos:w1.os=G.w.os) (htape:w1.tape=G.w.tape) (hout:w1.output=G.w.output):
  ∃G',G'.w=w1/\G'.κ=G.κ/\(∀k x,G'.fp k x->F x∨G.fp k x)/\MRel B {S with M:=updK S.M (.l d c) (some ⟨b0.e,b0.sz,us⟩)} G'/\LE G G':=by
 have hMk:∀k,k≠ .l d c->updK S.M (.l d c) (some ⟨b0.e,b0.sz,us⟩) k=S.M k:=fun k e=>by simp[updK,e]
 have hM0:updK S.M (.l d c) (some ⟨b0.e,b0.sz,us⟩) (.l d c)=some ⟨b0.e,b0.sz,us⟩:=by simp[updK]
 let S1:St:={S with M:=updK S.M (.l d c) (some ⟨b0.e,b0.sz,us⟩)}
 have hdd:∀k,ybt S k↔ybt S1 k:=by
  intro k
  by_cases e:k= .l d c
  ·constructor
   ·rintro ⟨a,_⟩;rw[e,hM] at a;cases a
   ·rintro ⟨a,_⟩;rw[e,show S1.M (.l d c)=_ from hM0] at a;cases a
  ·have ho:yaT S1 k↔yaT S k:=by cases k<;>rfl
   exact ⟨fun ⟨a,q⟩=>⟨(hMk k e).trans a,ho.2 q⟩,fun ⟨a,q⟩=>⟨(hMk k e).symm.trans a,ho.1 q⟩⟩
 let G':Gh:=⟨G.κ,G.dead,G.I,w1,fun k x=>if k= .l d c then F x else G.ft k x⟩
 have hfp0:∀x,G.ft (.l d c) x->G.fp (.l d c) x:=fun x q=>⟨⟨r0,hk⟩,q⟩
 have hle:LE G G':=⟨fun _ _ hr=> .inl hr,fun _ hd=>hd,fun _ hb=>hb,fun q hq=>hs q (h.lt q hq) (fun e=>(h.apart _ _ hk).1 (e▸hq)) (fun e=>(h.fo.ap _ q (hfp0 q e)).1 hq),
  fun q ds hq=>⟨hs q (Array.getElem?_eq_some_iff.1 hq).1 (fun e=>h.notDfr hk ds (e▸hq)) (fun e=>h.fo.nd _ q (hfp0 q e) ds hq),fun q=>q⟩⟩
 have hoth:∀k r,k≠ .l d c->G.κ k=some r->w1.heap[r.1]? =G.w.heap[r.1]? :=fun k r e hr=>hs r.1 (h.apart k r hr).2 (fun q=>e (h.inj k _ r r0 hr hk q)) (fun q=>h.fo.dj1 _ r.1 k r (hfp0 _ q) hr rfl)
 have hothF:∀k x,k≠ .l d c->G.fp k x->w1.heap[x]? =G.w.heap[x]? :=fun k x e hx=>hs x (h.fo.ap k x hx).2 (fun q=>h.fo.dj1 k x _ r0 hx hk q.symm) (fun q=>e (h.fo.dj2 k _ x hx (hfp0 x q)))
 have hft:∀k x,G'.fp k x→(k= .l d c∧F x)∨(k≠ .l d c∧G.fp k x):=by
  rintro k x ⟨hr,hx⟩
  by_cases e:k= .l d c
  ·left;refine ⟨e,?_⟩
   have hx':(if k= .l d c then F x else G.ft k x):=hx
   rw[if_pos e] at hx';exact hx'
  ·right;refine ⟨e,hr,?_⟩
   have hx':(if k= .l d c then F x else G.ft k x):=hx
   rw[if_neg e] at hx';exact hx'
 refine ⟨G',rfl,rfl,fun k x q=>(hft k x q).imp (·.2) (·.2),⟨?_,h.inj,fun k=>(h.dead k).trans (hdd k),?_,fun k r hr=>⟨(h.apart k r hr).1,Nat.lt_of_lt_of_le (h.apart k r hr).2 hsz⟩,fun b hb=>Nat.lt_of_lt_of_le (h.lt b hb) hsz,h.loc,h.keep,h.heap,h.nx,h.gone,h.I0,h.I1,hos.trans h.os,htape.trans h.tape,hout.trans h.output,Nat.le_trans h.size hsz,?_,?_,?_⟩,hle⟩
 ·intro k
  by_cases e:k= .l d c
  ·rw[e,show S1.M (.l d c)=_ from hM0,show G'.κ (.l d c)=some r0 from hk]
   refine (yac.loop (show (⟨b0.e,b0.sz,us⟩:Blk).sz=0 from yef ho)).2 (.inl ⟨ho,hrc,hh⟩)
  ·rw[show S1.M k=S.M k from hMk k e]
   exact (h.blk k).le hle fun q hq=>hoth k q e hq
 ·intro k b hb
  by_cases e:k= .l d c
  ·rw[e];exact h.live _ _ hM
  ·rw[show S1.M k=S.M k from hMk k e] at hb;exact h.live k b hb
 ·intro x hx hn
  refine (hs x (Nat.lt_of_lt_of_le hx h.size) (fun e=> ?_) (fun e=> ?_)).trans (h.same x hx hn)
  ·rcases h.loc d c r0 hk with q|⟨k,r',e1,e2⟩
   ·omega
   ·exact hn ⟨k,r',e1, .inl (e2.trans e.symm)⟩
  ·rcases h.fo.lo _ x (hfp0 x e) with q|q
   ·omega
   ·exact hn q
 ·intro k b hb
  by_cases e:k= .l d c
  ·rw[e];rfl
  ·rw[show S1.M k=S.M k from hMk k e] at hb;exact h.hno k b hb
 ·refine ⟨fun k x k' r hx hr e=> ?_,fun k k' x hx hx'=> ?_,fun k x hx=> ?_,fun k x hx ds=> ?_,fun k x hx=> ?_,fun k b r hb hr hop hc=> ?_,fun o r hr=> ?_⟩
  ·rcases hft k x hx with ⟨rfl,q⟩|⟨hne,q⟩
   ·obtain ⟨q1,q2,q3⟩:=hF x q
    by_cases e2:k'= .l d c
    ·rw[e2,show G'.κ (.l d c)=some r0 from hk] at hr;cases hr;exact q1 e.symm
    ·rcases q3 with q3|q3
     ·exact h.fo.dj1 _ x k' r (hfp0 x q3) hr e
     ·have:=(h.apart k' r hr).2;omega
   ·exact h.fo.dj1 k x k' r q hr e
  ·rcases hft k x hx with ⟨rfl,q⟩|⟨hne,q⟩
   ·rcases hft k' x hx' with ⟨rfl,_⟩|⟨hne',q'⟩
    ·rfl
    ·rcases (hF x q).2.2 with q3|q3
     ·exact h.fo.dj2 _ _ x (hfp0 x q3) q'
     ·have:=(h.fo.ap k' x q').2;omega
   ·rcases hft k' x hx' with ⟨rfl,q'⟩|⟨hne',q'⟩
    ·rcases (hF x q').2.2 with q3|q3
     ·exact h.fo.dj2 _ _ x q (hfp0 x q3)
     ·have:=(h.fo.ap k x q).2;omega
    ·exact h.fo.dj2 _ _ x q q'
  ·rcases hft k x hx with ⟨rfl,q⟩|⟨hne,q⟩
   ·obtain ⟨q1,q2,q3⟩:=hF x q
    refine ⟨fun hI=> ?_,q2⟩
    rcases q3 with q3|q3
    ·exact (h.fo.ap _ x (hfp0 x q3)).1 hI
    ·have:=h.lt x hI;omega
   ·exact ⟨(h.fo.ap k x q).1,Nat.lt_of_lt_of_le (h.fo.ap k x q).2 hsz⟩
  ·rcases hft k x hx with ⟨rfl,q⟩|⟨hne,q⟩
   ·exact hnd x q ds
   ·show w1.heap[x]?≠_
    rw[hothF k x hne q];exact h.fo.nd k x q ds
  ·rcases hft k x hx with ⟨rfl,q⟩|⟨hne,q⟩
   ·rcases (hF x q).2.2 with q3|q3
    ·exact h.fo.lo _ x (hfp0 x q3)
    ·exact .inl (Nat.le_trans h.size q3)
   ·exact h.fo.lo k x q
  ·by_cases e:k= .l d c
   ·subst e
    rw[show S1.M (.l d c)=_ from hM0] at hb;cases hb
    rw[show G'.κ (.l d c)=some r0 from hk] at hr;cases hr
    refine ⟨hnl,?_⟩
    have:G'.ft (.l d c)=F:=by funext x;simp[G']
    rw[this];exact hrep
   ·rw[show S1.M k=S.M k from hMk k e] at hb
    obtain ⟨n1,n2⟩:=h.fo.rep k b r hb hr hop hc
    refine ⟨n1,?_⟩
    have:G'.ft k=G.ft k:=by funext x;simp[G',e]
    rw[this]
    refine yeY n2 fun x hx=> ?_
    rcases hx with rfl|hx
    ·exact hoth k r e hr
    ·exact hothF k x e ⟨⟨r,hr⟩,hx⟩
  ·obtain ⟨h1,h2⟩:=h.fo.hh o r hr
   exact ⟨fun x q=>h1 x (by simpa [G'] using q),fun b hb=>h2 b ((hMk (.h o) (by intro q;cases q)).symm.trans hb)⟩
theorem MRel.make (h:MRel B S G) (hl:∀d c,S.M (.l d c)=none) (hB:∀d c,B.κ (.l d c)=none) {d c:Nat} (hold:yaT S (.l d c)) {e g:Nat} {us:List AV} (hbig:1000000≤e) (hrc:isRc us=false) (hnl:noLs us=true) {w1:World} {F:Nat→Prop}
  (hg:G.w.heap.size<=g/\g<w1.heap.size) (hs:∀x,x<G.w.heap.size->w1.heap[x]? =G.w.heap[x]?) (hF:∀x,F x->x≠g/\x<w1.heap.size/\G.w.heap.size<=x) (hnd:∀x,F x->∀ds,w1.heap[x]?≠some (.deferred ds))
  (hh:∃o,w1.heap[g]? =some o/\∀ds,o≠ .deferred ds) (hrep:opqR e (dwks us) w1 g F) (hsz:G.w.heap.size<=w1.heap.size) (hos:w1.os=G.w.os) (htape:w1.tape=G.w.tape) (hout:w1.output=G.w.output):
  ∃G',G'.w=w1/\G'.κ (.l d c)=some (g,0)/\MRel B {S with M:=updK S.M (.l d c) (some ⟨e,0,us⟩)} G'/\∀ {u:AV} {v:Value},VR G u v->u.noL=true->VR G' u v:=by
 have ho:opq ⟨e,0,us⟩=true:=by simp[opq,hbig]
 have hMk:∀k,k≠ .l d c->updK S.M (.l d c) (some ⟨e,0,us⟩) k=S.M k:=fun k q=>by simp[updK,q]
 have hM0:updK S.M (.l d c) (some ⟨e,0,us⟩) (.l d c)=some ⟨e,0,us⟩:=by simp[updK]
 let S1:St:={S with M:=updK S.M (.l d c) (some ⟨e,0,us⟩)}
 let G':Gh:=⟨fun k=>if k= .l d c then some (g,0) else G.κ k,ybt S1,G.I,w1,fun k x=>if k= .l d c then F x else G.ft k x⟩
 have hκl:∀d c,G.κ (.l d c)=none:=fun d c=>h.κnone (hl d c)
 have hG0:G'.κ (.l d c)=some (g,0):=by simp[G']
 have hGk:∀k,k≠ .l d c->G'.κ k=G.κ k:=fun k q=>by simp[G',q]
 have hin:∀k r,G'.κ k=some r→(k= .l d c∧r=(g,0))∨∃o,k= .h o∧G.κ (.h o)=some r:=by
  intro k r hr
  by_cases q:k= .l d c
  ·left;rw[q,hG0] at hr;cases hr;exact ⟨q,rfl⟩
  ·right
   rw[hGk k q] at hr
   cases k with
   |l x y=>rw[hκl] at hr;cases hr
   |h o=>exact ⟨o,rfl,hr⟩
 have hfp:∀k x,G'.fp k x→k= .l d c∧F x:=by
  rintro k x ⟨⟨r,hr⟩,hx⟩
  have hx':(if k= .l d c then F x else G.ft k x):=hx
  rcases hin k r hr with ⟨q,_⟩|⟨o,rfl,q⟩
  ·rw[if_pos q] at hx';exact ⟨q,hx'⟩
  ·rw[if_neg (by intro q;cases q)] at hx'
   exact ((h.fo.hh o r q).1 x hx').elim
 have hdd:∀o,G.dead (.h o)→G'.dead (.h o):=by
  intro o hq
  obtain ⟨a,b⟩:=(h.dead _).1 hq
  exact ⟨(hMk (.h o) (by intro q;cases q)).trans a,b⟩
 have hw:∀ {u:AV} {v:Value},VR G u v->u.noL=true->VR ⟨G'.κ,G'.dead,G'.I,G.w,G'.ft⟩ u v:=VR.noL (G:=G) (G':=⟨G'.κ,G'.dead,G'.I,G.w,G'.ft⟩) (fun o r q=>by show G'.κ (.h o)=_;rw[hGk _ (by intro q;cases q)];exact q) hdd (fun b q=>q) rfl
 have hle:LE0 ⟨G'.κ,G'.dead,G'.I,G.w,G'.ft⟩ G':=⟨fun _ _ q=> .inl q,fun _ q=>q,fun _ q=>q,fun b hb=>hs b (h.lt b hb)⟩
 have hno:∀ {u:AV} {v:Value},VR G u v->u.noL=true->VR G' u v:=fun hv hn=>(hw hv hn).le0 hle
 refine ⟨G',rfl,hG0,⟨?_,?_,fun k=>Iff.rfl,?_,?_,fun b hb=>Nat.lt_of_lt_of_le (h.lt b hb) hsz,?_,?_,?_,h.nx,?_,h.I0,h.I1,hos.trans h.os,htape.trans h.tape,hout.trans h.output,Nat.le_trans h.size hsz,?_,?_,?_⟩,hno⟩
 ·intro k
  by_cases q:k= .l d c
  ·rw[q,show S1.M (.l d c)=_ from hM0,hG0]
   exact (yac.loop (show (⟨e,0,us⟩:Blk).sz=0 from rfl)).2 (.inl ⟨ho,hrc,hh⟩)
  ·rw [show S1.M k=S.M k from hMk k q,hGk k q]
   cases k with
   |l x y=>rw[hl,hκl];trivial
   | h o =>
     have hb:=h.blk (.h o)
     have hn:=h.hno (.h o)
     have hap:=h.apart (.h o)
     revert hb hn hap
     cases S.M (.h o) with
     |none=>cases G.κ (.h o)<;>exact fun x _ _=>x
     | some b=>cases G.κ (.h o) with
       |none=>exact fun x _ _=>x
       | some r=>
         intro hb hn hap
         have hr:=hs r.1 (hap r rfl).2
         by_cases hz:b.sz=0
         ·exact (yac.loop hz).2 (ycF.le0 (G:=G) (G':=G') hr ((yac.loop (G:=G) hz).1 hb))
         ·obtain ⟨cur,c1,c2,c3,c4,c5,c6,c7⟩:=(yac.cell hz).1 hb
          exact (yac.cell hz).2 ⟨cur,hr.trans c1,c2,c3,c4,c5,fun j u x p q=>hno (c6 j u x p q) (yaK (hn b rfl) j u p),c7⟩
 ·intro k k' r r' hr hr' q
  rcases hin k r hr with ⟨rfl,rfl⟩|⟨o,rfl,a⟩
  ·rcases hin k' r' hr' with ⟨rfl,_⟩|⟨o',rfl,a'⟩
   ·rfl
   ·have:=(h.apart _ r' a').2;simp only at q;omega
  ·rcases hin k' r' hr' with ⟨rfl,rfl⟩|⟨o',rfl,a'⟩
   ·have:=(h.apart _ r a).2;simp only at q;omega
   ·exact h.inj _ _ r r' a a' q
 ·intro k b hb
  by_cases q:k= .l d c
  ·rw[q];exact hold
  ·rw[show S1.M k=S.M k from hMk k q] at hb;exact h.live k b hb
 ·intro k r hr
  rcases hin k r hr with ⟨rfl,rfl⟩|⟨o,rfl,a⟩
  ·exact ⟨fun hI=>by have:=h.lt g hI;omega,hg.2⟩
  ·exact ⟨(h.apart _ r a).1,Nat.lt_of_lt_of_le (h.apart _ r a).2 hsz⟩
 ·intro x y r hr
  rcases hin _ r hr with ⟨_,rfl⟩|⟨o,q,_⟩
  ·exact .inl (Nat.le_trans h.size hg.1)
  ·cases q
 ·intro k r hr
  cases k with
  |l x y=>rw[hB] at hr;cases hr
  | h o=>
    rcases h.keep _ r hr with q|q
    ·left;rw[hGk _ (by intro q;cases q)];exact q
    ·exact .inr (hdd o q)
 ·intro o r hr
  rcases hin _ r hr with ⟨q,_⟩|⟨o',q,a⟩
  ·cases q
  ·cases q;exact h.heap o r a
 ·intro o ho' hb
  rw[hGk _ (by intro q;cases q)];exact h.gone o ho' hb
 ·intro x hx hn
  exact (hs x (Nat.lt_of_lt_of_le hx h.size)).trans (h.same x hx hn)
 ·intro k b hb
  by_cases q:k= .l d c
  ·rw[q];rfl
  ·rw[show S1.M k=S.M k from hMk k q] at hb;exact h.hno k b hb
 ·refine ⟨fun k x k' r hx hr q=> ?_,fun k k' x hx hx'=>(hfp k x hx).1.trans (hfp k' x hx').1.symm,fun k x hx=> ?_,fun k x hx ds=>hnd x (hfp k x hx).2 ds,fun k x hx=> ?_,fun k b r hb hr hop hc=> ?_,fun o r hr=> ?_⟩
  ·obtain ⟨q1,q2,q3⟩:=hF x (hfp k x hx).2
   rcases hin k' r hr with ⟨_,rfl⟩|⟨o,rfl,a⟩
   ·exact q1 q.symm
   ·have:=(h.apart _ r a).2;omega
  ·obtain ⟨q1,q2,q3⟩:=hF x (hfp k x hx).2
   exact ⟨fun hI=>by have:=h.lt x hI;omega,q2⟩
  ·exact .inl (Nat.le_trans h.size (hF x (hfp k x hx).2).2.2)
  ·rcases hin k r hr with ⟨rfl,rfl⟩|⟨o,rfl,a⟩
   ·rw[show S1.M (.l d c)=_ from hM0] at hb;cases hb
    refine ⟨hnl,?_⟩
    have:G'.ft (.l d c)=F:=by funext x;simp[G']
    rw[this];exact hrep
   ·exact absurd ⟨hop,hc⟩ ((h.fo.hh o r a).2 b ((hMk (.h o) (by intro q;cases q)).symm.trans hb))
  ·rcases hin _ r hr with ⟨q,_⟩|⟨o',q,a⟩
   ·cases q
   ·cases q
    exact ⟨fun x q=>(h.fo.hh o r a).1 x (by simpa [G'] using q),fun b hb=>(h.fo.hh o r a).2 b ((hMk (.h o) (by intro q;cases q)).symm.trans hb)⟩
theorem MRel.more (h:MRel B S G) {J:Nat→Prop} (hJ:∀x,J x→B.w.heap.size≤x∧x<G.w.heap.size∧(∀k r,G.κ k=some r→r.1≠x∧¬G.ft k x)∧∀ds,G.w.heap[x]?≠some (.deferred ds)):
  ∃G',G'.w=G.w/\G'.κ=G.κ/\(∀x,J x->G'.I x)/\MRel B S G'/\LE G G':=by
 let G':Gh:=⟨G.κ,G.dead,fun x=>G.I x∨J x,G.w,G.ft⟩
 have hle:LE G G':=⟨fun _ _ q=> .inl q,fun _ q=>q,fun _ q=> .inl q,fun _ _=>rfl,fun x ds hx=>⟨rfl,fun q=>q.elim id fun q=>absurd hx ((hJ x q).2.2.2 ds)⟩⟩
 refine ⟨G',rfl,rfl,fun x q=> .inr q,⟨fun k=>(h.blk k).le hle fun _ _=>rfl,h.inj,h.dead,h.live,fun k r hr=>⟨fun q=> ?_,(h.apart k r hr).2⟩,fun b q=> ?_,h.loc,h.keep,h.heap,h.nx,h.gone,fun b q=> .inl (h.I0 b q),fun b q=> ?_,h.os,h.tape,h.output,h.size,h.same,h.hno,
  h.fo.on (fun k r hr=> .inl ⟨hr,rfl,fun _ q _ _=>q⟩) (fun x q=> ?_) (Nat.le_refl _) (fun _ _ _=>rfl) (fun _ _ _ _ _ _ _=>rfl)⟩,hle⟩
 ·rcases q with q|q
  ·exact (h.apart k r hr).1 q
  ·exact ((hJ _ q).2.2.1 k r hr).1 rfl
 ·rcases q with q|q
  ·exact h.lt b q
  ·exact (hJ b q).2.1
 ·rcases q with q|q
  ·exact h.I1 b q
  ·exact .inr (.inl (hJ b q).1)
 ·rcases q with q|q
  ·exact .inl q
  ·exact .inr fun k ⟨⟨r,hr⟩,hx⟩=>((hJ x q).2.2.1 k r hr).2 hx
structure ykc (e:Nat) (us':List AV) (av:AV) (w:World) (b:Nat) (F:Nat→Prop) (v:Value) (w':World) (F' J:Nat→Prop):Prop where
 v:∀G':Gh,G'.w=w'->(∀x,J x->G'.I x)->VR G' av v
 rep:opqR e (dwks us') w' b F'
 fF:∀x,F' x->x≠b/\x<w'.heap.size/\(F x∨w.heap.size<=x)
 nd:∀x,F' x->∀ds,w'.heap[x]?≠some (.deferred ds)
 hd:∃o,w'.heap[b]? =some o/\∀ds,o≠ .deferred ds
 jJ:∀x,J x->w.heap.size<=x/\x<w'.heap.size/\¬F' x/\∀ds,w'.heap[x]?≠some (.deferred ds)
 same:∀x,x<w.heap.size->x≠b->¬F x->w'.heap[x]? =w.heap[x]?
 size:w.heap.size<=w'.heap.size
 os:w'.os=w.os
 tape:w'.tape=w.tape
 output:w'.output=w.output
def mem1 (e:Nat) (us:List AV):Nat->Option Blk:=fun d=>if d=2000000 then some ⟨e,0,us⟩ else none
theorem ymw {P:Program} {f:FuncId} {e:Nat} {us us' rest:List AV} {av:AV} (he:1000000≤e) (hrc:isRc us=false) (hrc':isRc us'=false) (hnl':noLs us'=true)
  (h:∀(G:Gh) (b:Nat) (F:Nat→Prop) (vs:List Value),GOK P G.w G.I→opqR e (dwks us) G.w b F→b<G.w.heap.size→(∀x,F x→x<G.w.heap.size)→VRs G rest vs→
    XW P f (Value.pointer (some ⟨b,0,none⟩)::vs).toArray G.w fun en w'=>∃v F' J,en= .returned v/\ykc e us' av G.w b F v w' F' J):
  ∀H n,yap P f (.pt (.l 2000000 1) 0::rest) (mem1 e us) H n fun av' S1=>av'=av/\S1={lSt (mem1 e us) H n with M:=updK (lSt (mem1 e us) H n).M (.l 2000000 1) (some ⟨e,0,us'⟩)}:=by
 intro H n G vs hg hM hV
 have hb0:(lSt (mem1 e us) H n).M (.l 2000000 1)=some ⟨e,0,us⟩:=rfl
 have ho:opq ⟨e,0,us⟩=true:=by simp[opq,he]
 obtain ⟨r,hr,_⟩:=hM.κsome hb0
 obtain ⟨_,hrep⟩:=hM.fo.rep _ _ r hb0 hr ho hrc
 obtain ⟨hl,hV'⟩:=hV
 cases hvs:vs.toList with
 |nil=>rw[hvs] at hl;simp at hl
 | cons v0 vr=>
   rw[hvs] at hl hV'
   have h0:=hV' 0 _ v0 rfl rfl
   obtain ⟨g,cap,hk,rfl⟩:=VR.pt_inv hM (show yav (lSt (mem1 e us) H n) (.l 2000000 1)=true from rfl) h0
   rw[hr] at hk;cases hk
   have hcall:=h G g (G.ft (.l 2000000 1)) vr hg hrep (hM.apart _ _ hr).2 (fun x q=>(hM.fo.ap _ x ⟨⟨_,hr⟩,q⟩).2) ⟨by simpa using hl,fun j u x p q=>hV' (j+1) u x (by simpa using p) (by simpa using q)⟩
   have hva:(Value.pointer (some ⟨g,0,none⟩)::vr).toArray=vs:=by rw[<-hvs]
   rw[hva] at hcall
   refine hcall.mono ?_
   rintro en w' ⟨v,F',J,rfl,q⟩
   obtain ⟨G1,a1,a2,a2',a3,a4⟩:=hM.turn hb0 hr ho hrc' hnl' q.same q.fF q.nd q.hd q.rep q.size q.os q.tape q.output
   obtain ⟨G2,b1,b2,b3,b4,b5⟩:=a3.more (J:=J) fun x hx=>by
    obtain ⟨j1,j2,j3,j4⟩:=q.jJ x hx
    refine ⟨j1,by rw[a1];exact j2,fun k r' hk'=>⟨fun e'=> ?_,fun e'=> ?_⟩,by rw[a1];exact j4⟩
    ·rw[a2] at hk'
     have:=(hM.apart k r' hk').2;omega
    ·rcases a2' k x ⟨⟨r',hk'⟩,e'⟩ with z|z
     ·exact j3 z
     ·have:=(hM.fo.ap k x z).2;omega
   exact ⟨v,av,_,G2,rfl,⟨rfl,rfl⟩,b4,b1.trans a1,q.v G2 (b1.trans a1) b3⟩
structure yrN (e:Nat) (us:List AV) (w:World) (g:Nat) (w':World) (F:Nat→Prop):Prop where
 gg:w.heap.size<=g/\g<w'.heap.size
 rep:opqR e (dwks us) w' g F
 fF:∀x,F x->x≠g/\x<w'.heap.size/\w.heap.size<=x
 nd:∀x,F x->∀ds,w'.heap[x]?≠some (.deferred ds)
 hd:∃o,w'.heap[g]? =some o/\∀ds,o≠ .deferred ds
 same:∀x,x<w.heap.size->w'.heap[x]? =w.heap[x]?
 size:w.heap.size<=w'.heap.size
 os:w'.os=w.os
 tape:w'.tape=w.tape
 output:w'.output=w.output
theorem ytH {P:Program} {f:FuncId} {e:Nat} {us args:List AV} (he:1000000≤e) (hrc:isRc us=false) (hnl:noLs us=true)
  (h:∀(G:Gh) (vs:Array Value),GOK P G.w G.I->VRs G args vs.toList->XW P f vs G.w fun en w'=>∃g F,en= .returned (.pointer (some ⟨g,0,none⟩))/\yrN e us G.w g w' F):
  ∀H n,yap P f args (fun _=>none) H n fun av S1=>av= .pt (.l 1000000 1) 0/\S1={lSt (fun _=>none) H n with M:=updK (lSt (fun _=>none) H n).M (.l 1000000 1) (some ⟨e,0,us⟩)}:=by
 intro H n G vs hg hM hV
 have hl:∀d c,(lSt (fun _=>none) H n).M (.l d c)=none:=fun d c=>by
  show (if c=1 then none else none)=none
  split<;>rfl
 refine (h G vs hg hV).mono ?_
 rintro en w' ⟨g,F,rfl,q⟩
 obtain ⟨G1,a1,a2,a3,_⟩:=hM.make hl (fun d c=>hM.κnone (hl d c)) (d:=1000000) (c:=1) ⟨Nat.le_refl 1,Nat.le_refl 1⟩ he hrc hnl q.gg q.same q.fF q.nd q.hd q.rep q.size q.os q.tape q.output
 exact ⟨_,_,_,G1,rfl,⟨rfl,rfl⟩,a3,a1, .pt _ _ _ _ a2⟩
end
end Go.AV
end
noncomputable section
namespace Go.AV
open Go.RowKit Go.RG
section
variable {K:Nat->Type} {P:Program} {C:Cx K}
theorem ye0 {sp:Sl K} {env out env':List (DV K)} {e t:Nat} {x x':K t} {rest:List AV} {av:AV} {us:List (TV K)}
  (hL:∀H n,yap P sp.f (.pt (.l 2000000 1) 0::rest) (mem1 e ((C.E t).c x)) H n fun av' S1=>av'=av/\S1={lSt (mem1 e ((C.E t).c x)) H n with M:=updK (lSt (mem1 e ((C.E t).c x)) H n).M (.l 2000000 1) (some ⟨e,0,(C.E t).c x'⟩)})
  (hod0:(entL C sp [] env).od= [(2000000,some (.opq e t x))]) (hnw0:(entL C sp [] env).nw= []) (hargs:∀χ,argT C sp (entL C sp [] env) χ= .pt (.l 2000000 1) 0::rest)
  (hwt:wt (ctT sp.to) env'=true) (hkp:kpt (entL C sp [] env) (bdT C sp.to [] [] env') sp.kp (eqDV (selL sp env') out)) (hod:(bdT C sp.to [] [] env').od= [(2000000,some (.opq e t x'))])
  (hres:ycr (bdT C sp.to [] [] env') sp.res=some us) (hav:av=yb3 (aTs C (bdT C sp.to [] [] env') (fun _ _=>false) us)):SlC P C sp [] env out:=by
 intro χ hv H n
 have hx:χ 2000000 1=false:=by
  cases hq:χ 2000000 1 with
  |false=>rfl
  | true=>
    obtain ⟨e',h1⟩:=hv 2000000 1 hq
    have h1:lkB (entL C sp [] env).od 2000000=_:=h1
    rw[hod0] at h1
    simp[lkB] at h1
 rw[hargs]
 have hm:memT C (entL C sp [] env) χ=mem1 e ((C.E t).c x):=by
  funext d
  unfold memT mem1
  rw[hod0]
  by_cases hd:d=2000000
  ·subst hd
   rw[hx];simp[lkB,bT]
  ·have hb:Nat.beq 2000000 d=false:=by
    cases h:Nat.beq 2000000 d with
    |false=>rfl
    |true=>exact absurd (nbeq.1 h).symm hd
   simp only[lkB,hb,hd,if_false]
   cases χ d 1<;>rfl
 rw[hm]
 refine (hL H n).mono ?_
 rintro _ S1 ⟨rfl,rfl⟩
 refine ⟨env',fun _ _=>false,hwt,hkp,fun s c h=>(by cases h),fun s b hs hb=> ?_,⟨us,hres,hav⟩,rfl,rfl,fun _=>rfl,fun s b hb _=> ?_⟩
 ·have hb:lkB (bdT C sp.to [] [] env').od s=some b:=hb
  rw[hod,yat] at hb
  split at hb
  ·rename_i q;rw[<-q];exact hx.symm
  ·cases hb
 ·rw[hod,yat] at hb
  split at hb
  ·rename_i q;cases hb;subst q
   simp[updK,bT]
  ·cases hb
theorem yiL {sp:Sl K} {env out env':List (DV K)} {e t et:Nat} {x x':K t} {l:List (K et)} {args:AV→List AV} {av:AV} {us:List (TV K)}
  (hL:∀mem u,mem 2000000=some ⟨e,0,(C.E t).c x⟩->((u= .sl true 0 []/\l= [])∨(u= .gs (.l 2000001 1) l.length/\mem 2000001=some ⟨et,(C.E et).sz,cl (C.E et) l⟩))->∀H n,yap P sp.f (args u) mem H n fun av' S1=>av'=av/\S1={lSt mem H n with M:=updK (lSt mem H n).M (.l 2000000 1) (some ⟨e,0,(C.E t).c x'⟩)})
  (hod0:(entL C sp [] env).od= [(2000000,some (.opq e t x)),(2000001,some (.row et l))]) (hargs:∀χ,argT C sp (entL C sp [] env) χ=args (aT C (entL C sp [] env) χ (.rw 2000001 1)))
  (hwt:wt (ctT sp.to) env'=true) (hkp:kpt (entL C sp [] env) (bdT C sp.to [] [] env') sp.kp (eqDV (selL sp env') out)) (hod:(bdT C sp.to [] [] env').od= [(2000000,some (.opq e t x')),(2000001,some (.row et l))])
  (hres:ycr (bdT C sp.to [] [] env') sp.res=some us) (hav:∀χ,av=yb3 (aTs C (bdT C sp.to [] [] env') χ us)):SlC P C sp [] env out:=by
 intro χ hv H n
 have ht0:(entL C sp [] env).tb 2000000 1=some (.opq e t x):=by
  show lkB (entL C sp [] env).od 2000000=_
  rw[hod0];simp[lkB]
 have ht1:(entL C sp [] env).tb 2000001 1=some (.row et l):=by
  show lkB (entL C sp [] env).od 2000001=_
  rw[hod0,yat,if_neg (by simp),yat,if_pos rfl]
 have hx:χ 2000000 1=false:=by
  cases hq:χ 2000000 1 with
  |false=>rfl
  | true=>
    obtain ⟨e',h1⟩:=hv 2000000 1 hq
    rw[ht0] at h1;cases h1
 have hm0:memT C (entL C sp [] env) χ 2000000=some ⟨e,0,(C.E t).c x⟩:=by
  unfold memT
  rw[hx,hod0];simp[lkB,bT]
 have hm1:χ 2000001 1=false→memT C (entL C sp [] env) χ 2000001=some ⟨et,(C.E et).sz,cl (C.E et) l⟩:=fun hq=>by
  unfold memT
  rw[hq,hod0,yat,if_neg (by simp),yat,if_pos rfl];rfl
 have hu:(aT C (entL C sp [] env) χ (.rw 2000001 1)= .sl true 0 []∧l= [])∨(aT C (entL C sp [] env) χ (.rw 2000001 1)= .gs (.l 2000001 1) l.length∧memT C (entL C sp [] env) χ 2000001=some ⟨et,(C.E et).sz,cl (C.E et) l⟩):=by
  cases hq:χ 2000001 1 with
  | true=>
    obtain ⟨e1,h1⟩:=hv _ _ hq
    rw[ht1] at h1
    refine .inl ⟨?_,by cases h1;rfl⟩
    unfold aT;rw[ht1];simp only[tln,hq]
  | false=>
    refine .inr ⟨?_,hm1 hq⟩
    unfold aT;rw[ht1];simp only[tln,hq]
 rw[hargs]
 refine (hL _ _ hm0 hu H n).mono ?_
 rintro _ S1 ⟨rfl,rfl⟩
 have ho0:∀s b,lkB (bdT C sp.to [] [] env').od s=some b→(s=2000000∧b= .opq e t x')∨(s=2000001∧b= .row et l):=fun s b hb=>by
  rw[hod,yat] at hb
  split at hb
  ·rename_i q;cases hb;exact .inl ⟨q.symm,rfl⟩
  ·rw[yat] at hb
   split at hb
   ·rename_i q;cases hb;exact .inr ⟨q.symm,rfl⟩
   ·cases hb
 refine ⟨env',fun s c=>Nat.beq s 2000001&&(Nat.beq c 1&&χ 2000001 1),hwt,hkp,fun s c h=> ?_,fun s b hs hb=> ?_,⟨us,hres,hav _⟩,rfl,rfl,fun _=>rfl,fun s b hb hq=> ?_⟩
 ·simp only[Bool.and_eq_true,nbeq] at h
  obtain ⟨rfl,rfl,h⟩:=h
  obtain ⟨e1,h1⟩:=hv _ _ h
  refine ⟨e1,?_⟩
  rw[<-h1,ht1]
  show lkB (bdT C sp.to [] [] env').od 2000001=_
  rw[hod,yat,if_neg (by simp),yat,if_pos rfl]
 ·rcases ho0 s b hb with ⟨rfl,_⟩|⟨rfl,_⟩
  ·rw[hx];rfl
  ·show (true&&(true&&χ 2000001 1))=_
   simp
 ·rcases ho0 s b hb with ⟨rfl,rfl⟩|⟨rfl,rfl⟩
  ·simp[updK,bT]
  ·have hq:χ 2000001 1=false:=by
    have hq:(true&&(true&&χ 2000001 1))=false:=hq
    simpa using hq
   have:=hm1 hq
   simp only[updK]
   rw[if_neg (by simp)]
   show (if (1:Nat)=1 then memT C (entL C sp [] env) χ 2000001 else none)=_
   rw[if_pos rfl,this];rfl
theorem yri {sp:Sl K} {env out env':List (DV K)} {e t:Nat} {x:K t} {args:List AV} {us:List (TV K)}
  (hL:∀H n,yap P sp.f args (fun _=>none) H n fun av S1=>av= .pt (.l 1000000 1) 0/\S1={lSt (fun _=>none) H n with M:=updK (lSt (fun _=>none) H n).M (.l 1000000 1) (some ⟨e,0,(C.E t).c x⟩)})
  (hod0:(entL C sp [] env).od= []) (hargs:∀χ,argT C sp (entL C sp [] env) χ=args)
  (hwt:wt (ctT sp.to) env'=true) (hkp:kpt (entL C sp [] env) (bdT C sp.to [] [] env') sp.kp (eqDV (selL sp env') out)) (hod:(bdT C sp.to [] [] env').od= [(1000000,some (.opq e t x))])
  (hres:ycr (bdT C sp.to [] [] env') sp.res=some us) (hav:AV.pt (.l 1000000 1) 0=yb3 (aTs C (bdT C sp.to [] [] env') (fun _ _=>false) us)):SlC P C sp [] env out:=by
 intro χ hv H n
 rw[hargs]
 have hm:memT C (entL C sp [] env) χ=fun _=>none:=by
  funext d
  unfold memT
  rw[hod0]
  simp only[lkB]
  cases χ d 1<;>rfl
 rw[hm]
 refine (hL H n).mono ?_
 rintro _ S1 ⟨rfl,rfl⟩
 refine ⟨env',fun _ _=>false,hwt,hkp,fun s c h=>(by cases h),fun s b hs hb=> ?_,⟨us,hres,hav⟩,rfl,rfl,fun _=>rfl,fun s b hb _=> ?_⟩
 ·have hb:lkB (bdT C sp.to [] [] env').od s=some b:=hb
  rw[hod,yat] at hb
  split at hb
  ·rename_i q;simp only at q;omega
  ·cases hb
 ·rw[hod,yat] at hb
  split at hb
  ·rename_i q;cases hb;subst q
   simp[updK,bT]
  ·cases hb
end
end Go.AV
end
noncomputable section
namespace Go.Proofs
open Go.Shelf
def Try.keys33_ren:Go.Shelf.Ren:=⟨fun|7=>33|10=>42|n=>n,fun|23=>65|26=>9|3=>47|28=>83|0=>0|27=>82|33=>71|4=>4|n=>n,fun|n=>n⟩
theorem Try.keys33:Go.Proofs.SlLaysZ.n7 Try.prog Try.keys33_ren:={
 mixed:=by kernel_rfl
 f7:=⟨Try.f33.name,by decide,Try.func33.trans (congrArg some (by kernel_rfl))⟩
 f10:=⟨Try.f42.name,by decide,Try.func42.trans (congrArg some (by kernel_rfl))⟩
 t0:=Try.underlying0
 a0:=Try.isAgg0
 z0:=Try.sizeOf0
 v0:=Try.zeroValue0
 t4:=Try.underlying4
 a4:=Try.isAgg4
 z4:=Try.sizeOf4
 v4:=Try.zeroValue4
 t23:=Try.underlying65
 a23:=Try.isAgg65
 z23:=Try.sizeOf65
 v23:=Try.zeroValue65
 t26:=Try.underlying9
 a26:=Try.isAgg9
 z26:=Try.sizeOf9
 v26:=Try.zeroValue9
 t27:=Try.underlying82
 a27:=Try.isAgg82
 z27:=Try.sizeOf82
 v27:=Try.zeroValue82
 t28:=Try.underlying83
 a28:=Try.isAgg83
 z28:=Try.sizeOf83
 v28:=Try.zeroValue83
 t33:=Try.underlying71
 a33:=Try.isAgg71
 z33:=Try.sizeOf71
 v33:=Try.zeroValue71}
def Try.keys34_ren:Go.Shelf.Ren:=⟨fun|7=>34|10=>43|n=>n,fun|23=>66|26=>9|3=>31|28=>83|0=>0|27=>82|33=>71|4=>4|n=>n,fun|n=>n⟩
theorem Try.keys34:Go.Proofs.SlLaysZ.n7 Try.prog Try.keys34_ren:={
 mixed:=by kernel_rfl
 f7:=⟨Try.f34.name,by decide,Try.func34.trans (congrArg some (by kernel_rfl))⟩
 f10:=⟨Try.f43.name,by decide,Try.func43.trans (congrArg some (by kernel_rfl))⟩
 t0:=Try.underlying0
 a0:=Try.isAgg0
 z0:=Try.sizeOf0
 v0:=Try.zeroValue0
 t4:=Try.underlying4
 a4:=Try.isAgg4
 z4:=Try.sizeOf4
 v4:=Try.zeroValue4
 t23:=Try.underlying66
 a23:=Try.isAgg66
 z23:=Try.sizeOf66
 v23:=Try.zeroValue66
 t26:=Try.underlying9
 a26:=Try.isAgg9
 z26:=Try.sizeOf9
 v26:=Try.zeroValue9
 t27:=Try.underlying82
 a27:=Try.isAgg82
 z27:=Try.sizeOf82
 v27:=Try.zeroValue82
 t28:=Try.underlying83
 a28:=Try.isAgg83
 z28:=Try.sizeOf83
 v28:=Try.zeroValue83
 t33:=Try.underlying71
 a33:=Try.isAgg71
 z33:=Try.sizeOf71
 v33:=Try.zeroValue71}
def Try.sorted32_ren:Go.Shelf.Ren:=⟨fun|6=>32|8=>41|9=>36|11=>47|13=>46|12=>45|23=>57|24=>58|14=>48|15=>49|16=>50|17=>51|18=>52|19=>53|20=>54|21=>55|22=>56|25=>59|26=>60|27=>61|28=>62|29=>63|30=>64|31=>65|n=>n,fun|26=>9|28=>83|24=>31|0=>0|3=>3|37=>95|48=>106|50=>108|4=>4|40=>99|39=>98|45=>50|5=>5|9=>9|51=>109|55=>113|57=>115|58=>116|33=>71|n=>n,fun|n=>n⟩
theorem Try.sorted32:Go.Proofs.SlLaysZ.n6 Try.prog Try.sorted32_ren:={
 mixed:=by kernel_rfl
 f6:=⟨Try.f32.name,by decide,Try.func32.trans (congrArg some (by kernel_rfl))⟩
 f8:=⟨Try.f41.name,by decide,Try.func41.trans (congrArg some (by kernel_rfl))⟩
 f11:=⟨Try.f47.name,by decide,Try.func47.trans (congrArg some (by kernel_rfl))⟩
 t0:=Try.underlying0
 a0:=Try.isAgg0
 z0:=Try.sizeOf0
 v0:=Try.zeroValue0
 t24:=Try.underlying31
 a24:=Try.isAgg31
 z24:=Try.sizeOf31
 v24:=Try.zeroValue31
 t26:=Try.underlying9
 a26:=Try.isAgg9
 z26:=Try.sizeOf9
 v26:=Try.zeroValue9
 t28:=Try.underlying83
 a28:=Try.isAgg83
 z28:=Try.sizeOf83
 v28:=Try.zeroValue83
 i26:=by kernel_rfl}
def Try.sort36_ren:Go.Shelf.Ren:=⟨fun|6=>36|8=>46|9=>45|19=>57|20=>58|21=>48|22=>49|23=>50|24=>51|25=>52|26=>53|27=>54|28=>55|29=>56|36=>59|31=>60|32=>61|37=>62|38=>63|39=>64|41=>65|n=>n,fun|27=>31|29=>9|3=>3|32=>95|26=>31|0=>0|44=>106|46=>108|4=>4|36=>99|35=>98|41=>50|5=>5|9=>9|53=>109|57=>113|63=>115|64=>116|n=>n,fun|n=>n⟩
theorem Try.sort36:Go.Proofs.SlLaysM.n6 Try.prog Try.sort36_ren:={
 mixed:=by kernel_rfl
 f6:=⟨Try.f36.name,by decide,Try.func36.trans (congrArg some (by kernel_rfl))⟩
 f8:=Try.func46.trans (congrArg some (by kernel_rfl))
 f9:=⟨Try.f45.name,by decide,Try.func45.trans (congrArg some (by kernel_rfl))⟩
 f19:=Try.func57.trans (congrArg some (by kernel_rfl))
 f20:=Try.func58.trans (congrArg some (by kernel_rfl))
 f21:=⟨Try.f48.name,by decide,Try.func48.trans (congrArg some (by kernel_rfl))⟩
 f22:=⟨Try.f49.name,by decide,Try.func49.trans (congrArg some (by kernel_rfl))⟩
 f23:=⟨Try.f50.name,by decide,Try.func50.trans (congrArg some (by kernel_rfl))⟩
 f24:=⟨Try.f51.name,by decide,Try.func51.trans (congrArg some (by kernel_rfl))⟩
 f25:=⟨Try.f52.name,by decide,Try.func52.trans (congrArg some (by kernel_rfl))⟩
 f26:=⟨Try.f53.name,by decide,Try.func53.trans (congrArg some (by kernel_rfl))⟩
 f27:=⟨Try.f54.name,by decide,Try.func54.trans (congrArg some (by kernel_rfl))⟩
 f28:=⟨Try.f55.name,by decide,Try.func55.trans (congrArg some (by kernel_rfl))⟩
 f29:=⟨Try.f56.name,by decide,Try.func56.trans (congrArg some (by kernel_rfl))⟩
 f31:=Try.func60.trans (congrArg some (by kernel_rfl))
 f32:=Try.func61.trans (congrArg some (by kernel_rfl))
 f36:=⟨Try.f59.name,by decide,Try.func59.trans (congrArg some (by kernel_rfl))⟩
 f37:=⟨Try.f62.name,by decide,Try.func62.trans (congrArg some (by kernel_rfl))⟩
 f38:=⟨Try.f63.name,by decide,Try.func63.trans (congrArg some (by kernel_rfl))⟩
 f39:=⟨Try.f64.name,by decide,Try.func64.trans (congrArg some (by kernel_rfl))⟩
 f41:=⟨Try.f65.name,by decide,Try.func65.trans (congrArg some (by kernel_rfl))⟩
 t0:=Try.underlying0
 a0:=Try.isAgg0
 z0:=Try.sizeOf0
 v0:=Try.zeroValue0
 t3:=Try.underlying3
 a3:=Try.isAgg3
 z3:=Try.sizeOf3
 v3:=Try.zeroValue3
 t4:=Try.underlying4
 a4:=Try.isAgg4
 z4:=Try.sizeOf4
 v4:=Try.zeroValue4
 t5:=Try.underlying5
 a5:=Try.isAgg5
 z5:=Try.sizeOf5
 v5:=Try.zeroValue5
 t9:=Try.underlying9
 a9:=Try.isAgg9
 z9:=Try.sizeOf9
 v9:=Try.zeroValue9
 t26:=Try.underlying31
 a26:=Try.isAgg31
 z26:=Try.sizeOf31
 v26:=Try.zeroValue31
 t27:=Try.underlying31
 a27:=Try.isAgg31
 z27:=Try.sizeOf31
 v27:=Try.zeroValue31
 t29:=Try.underlying9
 a29:=Try.isAgg9
 z29:=Try.sizeOf9
 v29:=Try.zeroValue9
 t32:=Try.underlying95
 a32:=Try.isAgg95
 z32:=Try.sizeOf95
 v32:=Try.zeroValue95
 t35:=Try.underlying98
 a35:=Try.isAgg98
 z35:=Try.sizeOf98
 v35:=Try.zeroValue98
 t36:=Try.underlying99
 a36:=Try.isAgg99
 z36:=Try.sizeOf99
 v36:=Try.zeroValue99
 t41:=Try.underlying50
 a41:=Try.isAgg50
 z41:=Try.sizeOf50
 v41:=Try.zeroValue50
 t44:=Try.underlying106
 a44:=Try.isAgg106
 z44:=Try.sizeOf106
 v44:=Try.zeroValue106
 t46:=Try.underlying108
 a46:=Try.isAgg108
 z46:=Try.sizeOf108
 v46:=Try.zeroValue108
 t53:=Try.underlying109
 a53:=Try.isAgg109
 z53:=Try.sizeOf109
 v53:=Try.zeroValue109
 t57:=Try.underlying113
 a57:=Try.isAgg113
 z57:=Try.sizeOf113
 v57:=Try.zeroValue113
 t63:=Try.underlying115
 a63:=Try.isAgg115
 z63:=Try.sizeOf115
 v63:=Try.zeroValue115
 t64:=Try.underlying116
 a64:=Try.isAgg116
 z64:=Try.sizeOf116
 v64:=Try.zeroValue116}
end Go.Proofs
end
noncomputable section
namespace Go.AV
open Go.RowKit Go.RG Go.Proofs Go.Maps Go.Sort
theorem ygg:∀x y:List UInt8,bytesBefore x y=Op.bytesLess x y
 | [],[]=>rfl
 | [],_::_=>rfl
 |_::_,[]=>rfl
 | a::x,b::y=>by
   simp only[bytesBefore,Op.bytesLess,ygg x y]
section
variable {H α β:Type}
abbrev GL (α:Type):=List (List UInt8×α)
def gAt (L:GL α) (n:List UInt8):Option α:=(L.find? fun p=>p.1==n).map (·.2)
def gIns (p:List UInt8×α):GL α→GL α
 | []=> [p]
 | q::r=>match Op.bytesLess p.1 q.1 with
   |true=>p::q::r
   |false=>q::gIns p r
def gDel (L:GL α) (n:List UInt8):GL α:=L.filter fun p=> !(p.1==n)
def gPut (L:GL α) (n:List UInt8) (a:α):GL α:=gIns (n,a) (gDel L n)
def GS (L:GL α):Prop:=L.Pairwise fun a b=>Op.bytesLess a.1 b.1=true
theorem yhO {p q:List UInt8×α}:∀ {L:GL α},q∈gIns p L↔q=p∨q∈L
 | []=>by simp[gIns]
 | r ::L=>by
   unfold gIns
   split
   ·simp
   ·simp only[List.mem_cons,yhO (L:=L)]
    constructor
    ·rintro (h|h|h)
     ·exact .inr (.inl h)
     ·exact .inl h
     ·exact .inr (.inr h)
    ·rintro (h|h|h)
     ·exact .inr (.inl h)
     ·exact .inl h
     ·exact .inr (.inr h)
theorem yd5 {q:List UInt8×α} {L:GL α} {n:List UInt8}:q∈gDel L n↔q∈L∧q.1≠n:=by
 unfold gDel;rw[List.mem_filter];simp
theorem yeR {q:List UInt8×α} {L:GL α} {n:List UInt8} {a:α}:q∈gPut L n a↔q=(n,a)∨(q∈L∧q.1≠n):=by
 unfold gPut;rw[yhO,yd5]
theorem yhh {L:GL α} {n:List UInt8} (h:GS L):GS (gDel L n):=List.Pairwise.filter _ h
theorem ykp {f:α→β} {p:List UInt8×α}:∀ {L:GL α},(gIns p L).map (fun q=>(q.1,f q.2))=gIns (p.1,f p.2) (L.map fun q=>(q.1,f q.2))
 | []=>rfl
 | r::L=>by
   simp only[gIns,List.map_cons]
   cases hb:Op.bytesLess p.1 r.1 with
   |true=>simp
   |false=>simp[ykp (L:=L)]
theorem ykz {f:α→β} {L:GL α} {n:List UInt8}:(gDel L n).map (fun q=>(q.1,f q.2))=gDel (L.map fun q=>(q.1,f q.2)) n:=by
 unfold gDel;rw[List.filter_map];rfl
theorem yn9 {f:α→β} {L:GL α} {n:List UInt8} {a:α}:(gPut L n a).map (fun q=>(q.1,f q.2))=gPut (L.map fun q=>(q.1,f q.2)) n (f a):=by
 unfold gPut;rw[ykp,ykz]
theorem yqq {f:α→β} {L:GL α} {n:List UInt8}:gAt (L.map fun q=>(q.1,f q.2)) n=(gAt L n).map f:=by
 unfold gAt;rw[List.find?_map]
 simp[Function.comp_def]
theorem yfO {L:GL α} {n:List UInt8} {a:α} (h:gAt L n=some a):(n,a)∈L:=by
 unfold gAt at h
 obtain ⟨p,h1,h2⟩:=Option.map_eq_some_iff.1 h
 have:=List.find?_some h1
 have e:p.1=n:=by simpa using this
 have:=List.mem_of_find?_eq_some h1
 rw[<-e,<-h2];exact this
theorem yfT {L:GL α} {n:List UInt8} (h:gAt L n=none):∀q∈L,q.1≠n:=by
 unfold gAt at h
 have:=Option.map_eq_none_iff.1 h
 rw[List.find?_eq_none] at this
 intro q hq e
 exact this q hq (by simp[e])
theorem yjL {L:GL α} {n:List UInt8} (h:∀q∈L,q.1≠n):gDel L n=L:=by
 unfold gDel
 rw[List.filter_eq_self]
 intro q hq;simp[h q hq]
theorem yhu {L:GL α} {n:List UInt8}:(gDel L n).length<=L.length:=List.length_filter_le _ _
theorem ykO {p:List UInt8×α}:∀ {L:GL α},(gIns p L).length=L.length+1
 | []=>rfl
 | r::L=>by
   unfold gIns
   split
   ·rfl
   ·simp[ykO (L:=L)]
theorem yhT {L:GL α} {n:List UInt8} {a:α}:(gPut L n a).length≤L.length+1:=by
 unfold gPut;rw[ykO];exact Nat.succ_le_succ yhu
theorem ylz {f:α→DataW H} {L:GL α} {n:List UInt8}:(gD f L).del (.string n)=gD f (gDel L n):=by
 unfold gD DataW.del gDel
 simp only[List.filter_map]
 rfl
theorem ypI {f:α→DataW H} {p:List UInt8×α}:∀ {L:GL α},DataW.insert (.string p.1,f p.2) (L.map fun q=>(Lit.string q.1,f q.2))=(gIns p L).map fun q=>(Lit.string q.1,f q.2)
 | []=>rfl
 | r::L=>by
   simp only[List.map_cons,DataW.insert,Lit.before,ygg,gIns]
   cases hb:Op.bytesLess p.1 r.1 with
   |true=>simp
   |false=>simp[ypI (L:=L)]
theorem ykS {f:α→DataW H} {L:GL α} {n:List UInt8} {a:α}:(gD f L).put (.string n) (f a)=gD f (gPut L n a):=by
 have h:=ylz (f:=f) (L:=L) (n:=n)
 unfold gD DataW.del at h
 unfold gD DataW.put gPut
 simp only[DataW.map.injEq] at h⊢
 rw[h]
 exact ypI (p:=(n,a))
theorem yml {f:α→DataW H} {L:GL α} {n:List UInt8} {z:DataW H}:(gD f L).atKey (.string n) z=match gAt L n with
  |some a=>f a
  |none=>z:=by
 unfold gD DataW.atKey gAt
 induction L with
 |nil=>rfl
 | cons p L ih=>
   have e:(Lit.string p.1).sameKey (Lit.string n)=(p.1==n):=by simp[Lit.sameKey]
   simp only[List.map_cons,List.find?_cons,e]
   cases p.1==n with
   |true=>rfl
   |false=>exact ih
theorem ycN {f:α->DataW H} {L:GL α}:Maps.size (gD f L)=L.length:=by simp[gD,Maps.size]
end
theorem yeO {H:Type} {P:Program} {k:TypeId} {R:Value→Option (DataW H×List MemPlace)} {w:World} {b n:Nat} {D:DataW H} (h:w.ownsMap P k R b n D):w.ownsMap P k R b (Maps.size D) D:=by
 obtain ⟨es,clock,h1,h2,h3,h4⟩:=h
 refine ⟨es,clock,h1,h2,?_,h4⟩
 rw[h4]
 show es.size<=((es.toList.map (Go.WideElems.rg P k R)).foldr DataW.insert []).length
 rw[length_sorted];simp
end Go.AV
end
noncomputable section
namespace Go.Proofs.Ytpplhhknlmcgbaa
open Go.RowKit Go.Maps Go.WideMaps Go.RG Go.AV
theorem keyS:Keyed Try.prog 9:=string_keyed Try.underlying9
theorem ytD:(Try.prog.info? 54).map (fun i=>(i.zero,i.size,i.bytes))=some (some (.agg #[.string ⟨#[]⟩, .int .i64 0, .bool false]),3,32):=by kernel_rfl
theorem yq2:(Try.prog.info? 9).map (fun i=>(i.zero,i.size,i.bytes))=some (some (.string ⟨#[]⟩),1,16):=by kernel_rfl
set_option maxHeartbeats 2000000 in
set_option maxRecDepth 100000 in
theorem yk8 (b off n c:Nat) (xs:List Value) (w:World) (hl:xs.length=n*3) (hbig:n≤1000000) (hc:∀j u,xs[j]? =some u→w.cell? ⟨b,off+j,none⟩=some u) (h1:∀u∈xs,u.oneCell'=true):
  Calls Try.prog 25 #[.slice (some ⟨b,off,none⟩) n c] w fun e w'=>∃v',e= .returned v'/\w'.ownsRow w.heap.size 54 3 v' n xs/\v'≠ .slice none 0 0/\Below w.heap.size w w':=by
 obtain ⟨i0,hi,hz0,hz1,hz2⟩:=info_parts ytD
 have q:∀(w:World) (a:Option Addr) (n c n' c':Nat),(binOp .eql 45 (.slice a n c) (.slice none n' c')).run Try.prog w= .ok (.bool a.isNone) w:=fun w a n c n' c'=>Lib.run_eql_slice_nil w _ _ a n c n' c' Try.underlying45
 have A:Aside (∀j u,xs[j]? =some u->w.cell? ⟨b,off+j,none⟩=some u):=hc
 clear hc
 go_enter Try.func25,Try.ntmps25
 go_wp2_with (at_builtin;refine wpList_append_own _ rfl _ _ 45 rfl w.heap.size 54 i0 (.agg #[.string ⟨#[]⟩, .int .i64 0, .bool false]) 3 32 Try.underlying45 hi hz0 hz1 hz2 rfl (by decide) _ _ _ rfl (World.ownsRow_made w #[] 0 (Nat.le_refl _) (Nat.zero_le _) rfl) ⟨b,off,none⟩ n c xs rfl ?qc1 ?qc2 ?qc3 ?qc4 ?qc5 ?qc6 ?_)
 case qc1=>first|exact hl|(simp;omega)
 case qc2=>
  intro j u hj
  rw[Addr.add_lit]
  refine Lib.cell?_alloc_some _ ?_
  exact A.out j u hj
 case qc3=>exact h1
 case qc4=>unfold maxLen;omega
 case qc5=>omega
 case qc6=>simp
 intro v' w1 hown hgrow hnil
 go_wp2
 go_ret
 refine ⟨v',rfl,by simpa using hown,?_,?_⟩
 ·exact hnil
 ·exact ((Below.refl _ w).alloc (Nat.le_refl _) _).grown hgrow (by simp) (by intro k hk;simp[Value.ownBlock] at hk;omega)
theorem yla (n c:Nat) (w:World):Calls Try.prog 25 #[.slice none n c] w fun e w'=>e= .returned (.slice none 0 0)∧w'=w:=by
 have q:∀(w:World) (a:Option Addr) (n c n' c':Nat),(binOp .eql 45 (.slice a n c) (.slice none n' c')).run Try.prog w= .ok (.bool a.isNone) w:=fun w a n c n' c'=>Lib.run_eql_slice_nil w _ _ a n c n' c' Try.underlying45
 go_enter Try.func25,Try.ntmps25
 go_wp2
 go_ret
 exact ⟨rfl,rfl⟩
set_option maxHeartbeats 2000000 in
set_option maxRecDepth 100000 in
theorem yln (b off n c:Nat) (xs:List Value) (w:World) (hl:xs.length=n) (hbig:n≤1000000) (hc:∀j u,xs[j]? =some u→w.cell? ⟨b,off+j,none⟩=some u) (h1:∀u∈xs,u.oneCell'=true):
  Calls Try.prog 23 #[.slice (some ⟨b,off,none⟩) n c] w fun e w'=>∃v',e= .returned v'/\w'.ownsRow w.heap.size 9 1 v' n xs/\v'≠ .slice none 0 0/\Below w.heap.size w w':=by
 obtain ⟨i0,hi,hz0,hz1,hz2⟩:=info_parts yq2
 have q:∀(w:World) (a:Option Addr) (n c n' c':Nat),(binOp .eql 31 (.slice a n c) (.slice none n' c')).run Try.prog w= .ok (.bool a.isNone) w:=fun w a n c n' c'=>Lib.run_eql_slice_nil w _ _ a n c n' c' Try.underlying31
 have A:Aside (∀j u,xs[j]? =some u->w.cell? ⟨b,off+j,none⟩=some u):=hc
 clear hc
 go_enter Try.func23,Try.ntmps23
 go_wp2_with (at_builtin;refine wpList_append_own _ rfl _ _ 31 rfl w.heap.size 9 i0 (.string ⟨#[]⟩) 1 16 Try.underlying31 hi hz0 hz1 hz2 rfl (by decide) _ _ _ rfl (World.ownsRow_made w #[] 0 (Nat.le_refl _) (Nat.zero_le _) rfl) ⟨b,off,none⟩ n c xs rfl ?qc1 ?qc2 ?qc3 ?qc4 ?qc5 ?qc6 ?_)
 case qc1=>first|exact hl|(simp;omega)
 case qc2=>
  intro j u hj
  rw[Addr.add_lit]
  refine Lib.cell?_alloc_some _ ?_
  exact A.out j u hj
 case qc3=>exact h1
 case qc4=>unfold maxLen;omega
 case qc5=>omega
 case qc6=>simp
 intro v' w1 hown hgrow hnil
 go_wp2
 go_ret
 refine ⟨v',rfl,by simpa using hown,?_,?_⟩
 ·exact hnil
 ·exact ((Below.refl _ w).alloc (Nat.le_refl _) _).grown hgrow (by simp) (by intro k hk;simp[Value.ownBlock] at hk;omega)
theorem yk6 (n c:Nat) (w:World):Calls Try.prog 23 #[.slice none n c] w fun e w'=>e= .returned (.slice none 0 0)∧w'=w:=by
 have q:∀(w:World) (a:Option Addr) (n c n' c':Nat),(binOp .eql 31 (.slice a n c) (.slice none n' c')).run Try.prog w= .ok (.bool a.isNone) w:=fun w a n c n' c'=>Lib.run_eql_slice_nil w _ _ a n c n' c' Try.underlying31
 go_enter Try.func23,Try.ntmps23
 go_wp2
 go_ret
 exact ⟨rfl,rfl⟩
theorem yoX {H α:Type} {f:α→DataW H} {L:GL α} {n:List UInt8}:Maps.has (gD f L) (.string n)=(gAt L n).isSome:=by
 cases hq:gAt L n with
 | some a=>
   refine Maps.has_true_of_atKey (y:=f a) fun z=> ?_
   rw[yml,hq]
 | none=>
   refine Maps.has_false_of_atKey fun z=> ?_
   rw[yml,hq]
def mzV {α:Type} (Z:MZ α) (n:List UInt8) (z:Value):Value:=((gAt Z n).map (·.2)).getD z
theorem yqJ {α:Type} {Z:MZ α} {n:List UInt8} {z v:Value} {ps:List MemPlace} (h:ybo v=some ((mzD Z).atKey (.string n) (.held z),ps)):v=mzV Z n z:=by
 unfold ybo mzD at h
 rw[yml] at h
 unfold mzV
 cases hq:gAt Z n with
 |none=>rw[hq] at h;simp at h;exact h.1
 |some a=>rw[hq] at h;simp at h;exact h.1
theorem ya8 {α:Type} {P:Program} (w:World) {ops:Array Oper} {rest:List Oper} {o:Oper} {a:Act} {Q:Exit→Act→World→Prop} (hg:o.guard=none) (m x:Operand) (t:TypeId) (hop:o.op=Op.lookup t m x true)
  (k e:TypeId) (K:Keyed P k) (ht:P.underlying t=some (.map k e)) {z:Value} (hz:(zeroValue e).run P w= .ok z w) (b n:Nat) (Z:MZ α)
  (hm:a.eval m= .map (some b)) (hown:w.ownsMap P k ybo b n (mzD Z)) (s:ByteArray) (hx:a.eval x= .string s) (hkey:keyOf P k (.string s)=some (.string s.data.toList)) (V:Value) (B:Bool) (hV:mzV Z s.data.toList z=V) (hB:(gAt Z s.data.toList).isSome=B)
  (hK:wpList P ops Q rest (a.put o.dst (.tuple #[V, .bool B])) w):wpList P ops Q (o::rest) a w:=by
 refine wpList_lookup_own_ok w hg m x t hop k e K ht ybo hz (.held z) [] rfl b n _ hm hown _ _ hx hkey fun v ps hv=> ?_
 rw[yqJ hv,hV]
 unfold mzD
 rw[yoX,hB]
 exact hK
theorem ygl (w:World):(zeroValue 47).run Try.prog w= .ok (.agg #[.string ⟨#[]⟩, .slice none 0 0, .int .i64 0]) w:=by kernel_rfl
theorem ykI (w:World):(zeroValue 31).run Try.prog w= .ok (.slice none 0 0) w:=by kernel_rfl
set_option maxRecDepth 20000 in
set_option maxHeartbeats 1000000 in
theorem yf2 {α β:Type} (sb tb vb nt nv:Nat) (ZT:MZ α) (ZV:MZ β) (name:ByteArray) (w:World) (c0:w.cell? ⟨sb,0,none⟩=some (.map (some tb))) (c1:w.cell? ⟨sb,1,none⟩=some (.map (some vb))) (ht:w.ownsMap Try.prog 9 ybo tb nt (mzD ZT)) (hv:w.ownsMap Try.prog 9 ybo vb nv (mzD ZV)) (hsz:name.size≤maxLen)
  (s0:ByteArray) (a:Option Addr) (m c:Nat) (k:Int) (hsh:mzV ZT name.data.toList (.agg #[.string ⟨#[]⟩, .slice none 0 0, .int .i64 0])= .agg #[.string s0, .slice a m c, .int .i64 k]) (a':Option Addr) (m' c':Nat) (hsv:mzV ZV name.data.toList (.slice none 0 0)= .slice a' m' c'):
  Calls Try.prog 22 #[.pointer (some ⟨sb,0,none⟩), .string name] w fun e w'=>e= .returned (.bool ((gAt ZT name.data.toList).isSome||(gAt ZV name.data.toList).isSome))/\Below w.heap.size w w':=by
 have hk:=keyOf_string_mk Try.underlying9 hsz
 have d1:∀o,(w.alloc o).cell? ⟨sb,1,none⟩=some (.map (some vb)):=fun o=>Lib.cell?_alloc_some _ c1
 generalize hp:(gAt ZT name.data.toList).isSome=p at*
 generalize hq:(gAt ZV name.data.toList).isSome=q at*
 go_enter Try.func22,Try.ntmps22
 go_wp2_with (first
  |(at_lookup;first|refine ya8 _ rfl _ _ 65 rfl 9 47 keyS Try.underlying65 (ygl _) tb nt ZT rfl (by first|exact ht|exact ht.alloc _) name rfl hk _ _ hsh hp ?_|refine ya8 _ rfl _ _ 66 rfl 9 31 keyS Try.underlying66 (ykI _) vb nv ZV rfl (by first|exact hv|exact hv.alloc _|exact (hv.alloc _).alloc _) name rfl hk _ _ hsv hq ?_)
  |go_in)
 ·go_ret
  exact ⟨by simp_all,(Below.refl _ w).alloc (Nat.le_refl _) _⟩
 ·go_ret
  exact ⟨by simp_all,(Below.refl _ w).alloc (Nat.le_refl _) _⟩
end Go.Proofs.Ytpplhhknlmcgbaa
end
noncomputable section
namespace Go.Proofs.Ytpplhhknlmcgbaa
open Go.RowKit Go.Maps Go.WideMaps Go.RG Go.AV
structure yc3 (w:World) (b off:Nat) (cs:List Cl):Prop where
 nm:∀j c,cs[j]? =some c->w.cell? ⟨b,off+j*3,none⟩=some (bStr c.1)
 kd:∀j c,cs[j]? =some c->w.cell? ⟨b,off+j*3+1,none⟩=some (.int .i64 c.2.1)
 ky:∀j c,cs[j]? =some c->w.cell? ⟨b,off+j*3+2,none⟩=some (.bool c.2.2)
 lt:b<w.heap.size
theorem yc3.below {w w':World} {b off:Nat} {cs:List Cl} (h:yc3 w b off cs) (hb:Below w.heap.size w w'):yc3 w' b off cs:=
 ⟨fun j c q=>(hb.cell h.lt).trans (h.nm j c q),fun j c q=>(hb.cell h.lt).trans (h.kd j c q),fun j c q=>(hb.cell h.lt).trans (h.ky j c q),Nat.lt_of_lt_of_le h.lt hb.size⟩
def kSt (cs:List Cl):Nat→Nat×Nat
 |0=>(0,0)
 | k+1=>match cs[k]? with
   |some c=>if c.2.2=true then (k,(kSt cs k).2+1) else kSt cs k
   |none=>kSt cs k
theorem ypH (cs:List Cl):∀k,(kSt cs k).1≤k∧(kSt cs k).2≤k
 |0=>⟨Nat.le_refl _,Nat.le_refl _⟩
 | k+1=>by
   obtain ⟨h1,h2⟩:=ypH cs k
   unfold kSt
   split
   ·split
    ·exact ⟨Nat.le_succ _,Nat.succ_le_succ h2⟩
    ·exact ⟨Nat.le_succ_of_le h1,Nat.le_succ_of_le h2⟩
   ·exact ⟨Nat.le_succ_of_le h1,Nat.le_succ_of_le h2⟩
set_option maxHeartbeats 1000000 in
set_option maxRecDepth 100000 in
theorem ynd (b off cap:Nat) (cs:List Cl) (w:World) (hc:yc3 w b off cs) (hl:cs.length≤1000000):
  Calls Try.prog 29 #[.slice (some ⟨b,off,none⟩) cs.length cap] w fun e w'=>e= .returned (.tuple #[.int .i64 (kSt cs cs.length).1, .bool (decide ((kSt cs cs.length).2=1))])/\Below w.heap.size w w':=by
 go_enter Try.func29,Try.ntmps29
 go_wp2
 go_loopw [4,5,10] (fun p n i wr=>∃k:Nat,k≤cs.length∧i= .int .i64 k∧p= .int .i64 (kSt cs k).1∧n= .int .i64 (kSt cs k).2∧Below w.heap.size w wr)
  (fun _ _ i _=>cs.length-(intOf i).toNat)
 case atStart=>exact ⟨0,Nat.zero_le _,rfl,rfl,rfl,Below.refl _ _⟩
 case round=>
  obtain ⟨k,hk,rfl,rfl,rfl,hb⟩:=hrel
  obtain ⟨k1,k2⟩:=ypH cs k
  by_cases hlt:k<cs.length
  ·obtain ⟨c,hcc⟩:∃c,cs[k]? =some c:=⟨cs[k],List.getElem?_eq_getElem hlt⟩
   have hd:=hc.below hb
   have n0:=hd.nm k c hcc
   unfold bStr at n0
   have n1:=hd.kd k c hcc
   have n2:=hd.ky k c hcc
   have hs:kSt cs (k+1)=if c.2.2=true then (k,(kSt cs k).2+1) else kSt cs k:=by rw[kSt,hcc]
   go_wp2
   ·rename_i hk1
    have hs':kSt cs (k+1)=(k,(kSt cs k).2+1):=by rw[hs,if_pos hk1]
    refine ⟨⟨k+1,by omega,by push_cast;rfl,by rw[hs'],by rw[hs'];push_cast;rfl,hb.alloc hb.size _⟩,by simp[intOf];omega⟩
   ·rename_i hk1
    have hs':kSt cs (k+1)=kSt cs k:=by rw[hs,if_neg (by simp[hk1])]
    refine ⟨⟨k+1,by omega,by push_cast;rfl,by rw[hs'],by rw[hs'],hb.alloc hb.size _⟩,by simp[intOf];omega⟩
  ·have:k=cs.length:=by omega
   subst this
   go_wp2
   go_ret2
   refine ⟨?_,hb⟩
   have e:((((kSt cs cs.length).2:Nat):Int)==1)=decide ((kSt cs cs.length).2=1):=by
    rw[Bool.eq_iff_iff];simp;omega
   rw[e];rfl
end Go.Proofs.Ytpplhhknlmcgbaa
end
noncomputable section
namespace Go.Proofs.Ytpplhhknlmcgbaa
open Go.RowKit Go.Maps Go.WideMaps Go.RG Go.AV
def badK (c:Cl):Bool:=decide (c.2.1<1)||decide (3<c.2.1)
set_option maxRecDepth 100000 in
theorem yrn (c:Cl) (w:World):Calls Try.prog 40 #[.agg #[bStr c.1, .int .i64 c.2.1, .bool c.2.2]] w fun e w'=>e= .returned (.bool (badK c))∧Below w.heap.size w w':=by
 unfold bStr
 go_enter Try.func40,Try.ntmps40
 go_wp2
 all_goals (go_ret;refine ⟨?_,(Below.refl _ w).alloc (Nat.le_refl _) _⟩;simp_all[badK])
set_option maxHeartbeats 1000000 in
set_option maxRecDepth 100000 in
theorem ypU (b off cap:Nat) (cs:List Cl) (w:World) (hc:yc3 w b off cs) (hl:cs.length≤1000000):
  Calls Try.prog 26 #[.slice (some ⟨b,off,none⟩) cs.length cap, .func (.func 40) #[] #[]] w fun e w'=>(∃n:Int,e= .returned (.int .i64 n)/\(decide (0<=n)=cs.any badK))/\Below w.heap.size w w':=by
 go_enter Try.func26,Try.ntmps26
 go_wp2
 go_loopw [8] (fun i wr=>∃k:Nat,k≤cs.length∧i= .int .i64 k∧(cs.take k).any badK=false∧Below w.heap.size w wr)
  (fun i _=>cs.length-(intOf i).toNat)
 case atStart=>exact ⟨0,Nat.zero_le _,rfl,rfl,Below.refl _ _⟩
 case round=>
  obtain ⟨k,hk,rfl,hno,hb⟩:=hrel
  by_cases hlt:k<cs.length
  ·obtain ⟨c,hcc⟩:∃c,cs[k]? =some c:=⟨cs[k],List.getElem?_eq_getElem hlt⟩
   have hd:=hc.below hb
   have n0:=hd.nm k c hcc
   have n1:=hd.kd k c hcc
   have n2:=hd.ky k c hcc
   have ht:cs.take (k+1)=cs.take k++ [c]:=by
    rw[List.take_add_one,hcc];rfl
   go_wp2_with (first
    |(go_at_call 40;refine (yrn c _).mono ?_;rintro e w' ⟨rfl,hb2⟩)
    |go_in)
   ·rename_i hbad
    go_ret
    refine ⟨⟨k,rfl,?_⟩,hb.trans (hb2.mono hb.size)⟩
    have h1:cs.any badK=true:=List.any_eq_true.2 ⟨c,List.mem_of_getElem? hcc,hbad⟩
    rw[h1];simp
   ·rename_i hbad
    refine ⟨⟨k+1,by omega,by push_cast;rfl,?_,hb.trans (hb2.mono hb.size)⟩,by simp[intOf];omega⟩
    rw[ht,List.any_append,hno]
    simp[hbad]
  ·have:k=cs.length:=by omega
   subst this
   go_wp2
   go_ret
   refine ⟨⟨_,rfl,?_⟩,hb⟩
   rw[List.take_length] at hno
   rw[hno];rfl
set_option maxRecDepth 100000 in
theorem yq1 (b off cap:Nat) (cs:List Cl) (w:World) (hc:yc3 w b off cs) (hl:cs.length≤1000000):
  Calls Try.prog 39 #[.slice (some ⟨b,off,none⟩) cs.length cap, .func (.func 40) #[] #[]] w fun e w'=>e= .returned (.bool (cs.any badK))/\Below w.heap.size w w':=by
 go_enter Try.func39,Try.ntmps39
 go_wp2_with (first
  |(go_at_call 26;refine (ypU b off cap cs _ hc hl).mono ?_;rintro e w' ⟨⟨n,rfl,hn⟩,hb⟩)
  |go_in)
 go_ret
 exact ⟨by rw[<-hn];simp,hb⟩
end Go.Proofs.Ytpplhhknlmcgbaa
end
noncomputable section
namespace Go.Proofs.Ytpplhhknlmcgbaa
open Go.RowKit Go.Maps Go.WideMaps Go.RG Go.AV
theorem _root_.Go.World.ownsMap.below {H:Type} {P:Program} {k:TypeId} {R:Value→Option (DataW H×List MemPlace)} {w w':World} {b n:Nat} {D:DataW H} (h:w.ownsMap P k R b n D) (hb:Below w.heap.size w w'):w'.ownsMap P k R b n D:=
 yaS h (hb.block b h.lt)
def nmL (cs:List Cl):Nat→GL Unit
 |0=> []
 | k+1=>match cs[k]? with
   |some c=>gPut (nmL cs k) c.1 ()
   |none=>nmL cs k
def nmD (L:GL Unit):DataW Unit:=gD (fun _=> .lit (.bool true)) L
def ycU (cs:List Cl):Int:=
 if cs.length=0∨8<cs.length∨¬(kSt cs cs.length).2=1 then 17 else if cs.any badK=true then 5 else if (nmL cs cs.length).length<cs.length then 7 else 0
theorem yfX {cs:List Cl} (h:cs= []∨8<cs.length∨¬(kSt cs cs.length).2=1):ycU cs=17:=by
 unfold ycU
 rw[if_pos]
 rcases h with h|h
 ·exact .inl (by rw[h];rfl)
 ·exact .inr h
theorem yhc {cs:List Cl} (h0:¬cs= []) (h1:cs.length≤8) (h2:(kSt cs cs.length).2=1):ycU cs=if cs.any badK=true then 5 else if (nmL cs cs.length).length<cs.length then 7 else 0:=by
 unfold ycU
 rw[if_neg]
 rintro (q|q|q)
 ·exact h0 (List.eq_nil_of_length_eq_zero q)
 ·omega
 ·exact q h2
set_option maxHeartbeats 2000000 in
set_option maxRecDepth 100000 in
theorem ynL (b off cap:Nat) (cs:List Cl) (w:World) (hc:yc3 w b off cs) (hl:cs.length≤1000000) (hn:∀c∈cs,c.1.length≤9223372036854775807):
  Calls Try.prog 28 #[.slice (some ⟨b,off,none⟩) cs.length cap] w fun e w'=>e= .returned (.int .i64 (ycU cs))/\Below w.heap.size w w':=by
 have hmm:= @run_makeMap Try.prog
 go_enter Try.func28,Try.ntmps28
 go_wp2
 go_loopw [11] (fun i wr=>∃k:Nat,k≤cs.length∧i= .int .i64 k∧wr.ownsMap Try.prog 9 (plainElem Try.prog 4) w.heap.size k (nmD (nmL cs k))∧Below w.heap.size w wr)
  (fun i _=>cs.length-(intOf i).toNat)
 case atStart=>exact ⟨0,Nat.zero_le _,rfl,World.ownsMap_made _ _ _ _,(Below.refl _ _).alloc (Nat.le_refl _) _⟩
 case round=>
  obtain ⟨k,hk,rfl,hown,hb⟩:=hrel
  by_cases hlt:k<cs.length
  ·obtain ⟨c,hcc⟩:∃c,cs[k]? =some c:=⟨cs[k],List.getElem?_eq_getElem hlt⟩
   have hd:=hc.below hb
   have n0:=hd.nm k c hcc
   unfold bStr at n0
   have n1:=hd.kd k c hcc
   have n2:=hd.ky k c hcc
   have hsz:(ByteArray.mk c.1.toArray).size≤maxLen:=by
    have:=hn c (List.mem_of_getElem? hcc)
    show c.1.toArray.size<=maxLen
    simp[maxLen];omega
   have hkey:keyOf Try.prog 9 (.string ⟨c.1.toArray⟩)=some (.string c.1):=by
    have:=keyOf_string_mk Try.underlying9 hsz
    simpa using this
   go_wp2_with (first
    |(at_mapUpdate;refine wpList_mapUpdate_in _ rfl _ _ _ 90 rfl 9 4 keyS Try.underlying90 (plainElem Try.prog 4) w.heap.size k _ rfl (hown.alloc _) (by unfold maxLen;omega) _ _ _ rfl rfl hkey _ [] (plainElem_bool Try.underlying4 _) ?_;intro w1 hown1 hturn1)
    |go_in)
   have hput:(nmD (nmL cs k)).put (.string c.1) (.lit (.bool true))=nmD (nmL cs (k+1)):=by
    have:nmL cs (k+1)=gPut (nmL cs k) c.1 ():=by rw[nmL,hcc]
    rw[this]
    exact ykS (f:=fun _=>DataW.lit (.bool true)) (a:=())
   rw[hput] at hown1
   refine ⟨⟨k+1,by omega,by push_cast;rfl,hown1,(hb.alloc hb.size _).grown hturn1.grown (by simp;have:=hb.size;omega) (by intro j hj;cases hj;exact Nat.le_refl _)⟩,by simp[intOf];omega⟩
  ·have:k=cs.length:=by omega
   subst this
   have hd:=hc.below hb
   go_wp2_with (first
    |(go_at_call 29;refine (ynd b off cap cs _ hd hl).mono ?_;rintro e w' ⟨rfl,hb2⟩)
    |(go_at_call 39;refine (yq1 b off cap cs _ (hd.below hb2) hl).mono ?_;rintro e w'' ⟨rfl,hb3⟩)
    |(at_len;refine wpList_len_own _ rfl _ 90 rfl 9 4 Try.underlying90 _ w.heap.size cs.length _ rfl ((hown.below hb2).below hb3) ?_)
    |go_in)
   ·rename_i h0
    go_ret
    exact ⟨by rw[yfX (.inl h0)];rfl,hb.trans (hb2.mono hb.size)⟩
   ·rename_i h0 h1 h2
    go_ret
    refine ⟨?_,hb.trans (hb2.mono hb.size)⟩
    simp at h2
    rw[yfX (by rcases h2 with (q|q)|q;exact .inl q;exact .inr (.inl (by omega));exact .inr (.inr q))];rfl
   ·rename_i h0 h1 h2 h3
    go_ret
    refine ⟨?_,(hb.trans (hb2.mono hb.size)).trans (hb3.mono (Nat.le_trans hb.size hb2.size))⟩
    simp at h2
    rw[yhc h2.1.1 (by omega) h2.2,if_pos h3];rfl
   ·rename_i h0 h1 h2 h3 h4
    go_ret
    refine ⟨?_,(hb.trans (hb2.mono hb.size)).trans (hb3.mono (Nat.le_trans hb.size hb2.size))⟩
    simp at h2
    unfold nmD at h4
    rw[ycN] at h4
    rw[yhc h2.1.1 (by omega) h2.2,if_neg (by rw[h3];decide),if_pos h4];rfl
   ·rename_i h0 h1 h2 h3 h4
    go_ret
    refine ⟨?_,(hb.trans (hb2.mono hb.size)).trans (hb3.mono (Nat.le_trans hb.size hb2.size))⟩
    simp at h2
    unfold nmD at h4
    rw[ycN] at h4
    rw[yhc h2.1.1 (by omega) h2.2,if_neg (by rw[h3];decide),if_neg h4];rfl
   ·rename_i h0 h1
    go_ret
    exact ⟨by rw[yfX (.inr (.inl (by omega)))];rfl,hb.trans (hb2.mono hb.size)⟩
end Go.Proofs.Ytpplhhknlmcgbaa
end
noncomputable section
namespace Go.Proofs.Ytpplhhknlmcgbaa
open Go.RowKit Go.Maps Go.WideMaps Go.RG Go.AV
def ycR (w:World) (v:Value) (cs:List Cl):Prop:=(cs= []/\∃a cap,v= .slice a 0 cap)∨∃b off cap,v= .slice (some ⟨b,off,none⟩) cs.length cap/\yc3 w b off cs
theorem ycR.below {w w':World} {v:Value} {cs:List Cl} (h:ycR w v cs) (hb:Below w.heap.size w w'):ycR w' v cs:=by
 rcases h with h|⟨b,off,cap,e,h⟩
 ·exact .inl h
 ·exact .inr ⟨b,off,cap,e,h.below hb⟩
theorem ycR.drew {w:World} {v:Value} {cs:List Cl} (h:ycR w v cs):ycR w.drew v cs:=by
 rcases h with h|⟨b,off,cap,e,h⟩
 ·exact .inl h
 ·exact .inr ⟨b,off,cap,e,h.nm,h.kd,h.ky,h.lt⟩
theorem yok (a:Option Addr) (cap:Nat) (w:World):Calls Try.prog 29 #[.slice a 0 cap] w fun e w'=>e= .returned (.tuple #[.int .i64 0, .bool false])∧w'=w:=by
 go_enter Try.func29,Try.ntmps29
 go_wp2
 refine wp_loop_rounds 1 ?_
 rw[rounds_succ]
 go_wp2
 go_ret2
 exact ⟨rfl,rfl⟩
set_option maxRecDepth 100000 in
theorem ylf (a:Option Addr) (cap:Nat) (w:World):Calls Try.prog 28 #[.slice a 0 cap] w fun e w'=>e= .returned (.int .i64 17)∧Below w.heap.size w w':=by
 have hmm:= @run_makeMap Try.prog
 go_enter Try.func28,Try.ntmps28
 go_wp2
 refine wp_loop_rounds 1 ?_
 rw[rounds_succ]
 go_wp2_with (first
  |(go_at_call 29;refine (yok _ _ _).mono ?_;rintro e w' ⟨rfl,rfl⟩)
  |go_in)
 go_ret
 exact ⟨rfl,(Below.refl _ w).alloc (Nat.le_refl _) _⟩
theorem yog (v:Value) (cs:List Cl) (w:World) (hc:ycR w v cs) (hl:cs.length≤1000000) (hn:∀c∈cs,c.1.length≤9223372036854775807):
  Calls Try.prog 28 #[v] w fun e w'=>e= .returned (.int .i64 (ycU cs))/\Below w.heap.size w w':=by
 rcases hc with ⟨rfl,a,cap,rfl⟩|⟨b,off,cap,rfl,hc⟩
 ·exact ylf a cap w
 ·exact ynL b off cap cs w hc hl hn
theorem yea {cs:List Cl} (h:ycU cs=0):cs≠ []∧cs.length≤8:=by
 constructor
 ·rintro rfl;cases h
 ·apply Decidable.byContradiction
  intro q
  rw[yfX (.inr (.inl (by omega)))] at h
  cases h
theorem ysx (v:Value) (cs:List Cl) (w:World) (hc:ycR w v cs) (h0:cs≠ []) (hl:cs.length≤1000000):
  Calls Try.prog 29 #[v] w fun e w'=>e= .returned (.tuple #[.int .i64 (kSt cs cs.length).1, .bool (decide ((kSt cs cs.length).2=1))])/\Below w.heap.size w w':=by
 rcases hc with ⟨rfl,a,cap,rfl⟩|⟨b,off,cap,rfl,hc⟩
 ·exact absurd rfl h0
 ·exact ynd b off cap cs w hc hl
theorem yoY:∀(cs:List Cl) (j:Nat) (u:Value),(cs.flatMap clV)[j]? =some u→∃k c i,cs[k]? =some c∧j=k*3+i∧i<3∧(clV c)[i]? =some u
 | [],j,u,h=>by simp at h
 | c::cs,j,u,h=>by
   rw[List.flatMap_cons] at h
   by_cases hj:j<3
   ·refine ⟨0,c,j,rfl,by omega,hj,?_⟩
    rw[List.getElem?_append_left (by simpa [clV] using hj)] at h
    exact h
   ·rw[List.getElem?_append_right (by simp[clV];omega)] at h
    obtain ⟨k,d,i,h1,h2,h3,h4⟩:=yoY cs _ u h
    refine ⟨k+1,d,i,by simpa using h1,?_,h3,h4⟩
    have:(clV c).length=3:=rfl
    omega
theorem ym5:∀cs:List Cl,(cs.flatMap clV).length=cs.length*3
 | []=>rfl
 |c::cs=>by rw[List.flatMap_cons,List.length_append,ym5 cs,List.length_cons,show (clV c).length=3 from rfl];omega
theorem yc3.cell {w:World} {b off:Nat} {cs:List Cl} (h:yc3 w b off cs) {j:Nat} {u:Value} (hj:(cs.flatMap clV)[j]? =some u):w.cell? ⟨b,off+j,none⟩=some u:=by
 obtain ⟨k,c,i,h1,rfl,h3,h4⟩:=yoY cs j u hj
 rw[<-Nat.add_assoc]
 match i,h3,h4 with
 |0,_,h4=>cases h4;exact h.nm k c h1
 |1,_,h4=>cases h4;exact h.kd k c h1
 |2,_,h4=>cases h4;exact h.ky k c h1
theorem yrl (cs:List Cl):∀u∈cs.flatMap clV,u.oneCell'=true:=by
 intro u hu
 obtain ⟨c,_,hc⟩:=List.mem_flatMap.1 hu
 simp only[clV,List.mem_cons,List.not_mem_nil,or_false] at hc
 rcases hc with rfl|rfl|rfl<;>rfl
theorem ykK (v:Value) (cs:List Cl) (w:World) (hc:ycR w v cs) (h0:cs≠ []) (hl:cs.length≤1000000):
  Calls Try.prog 25 #[v] w fun e w'=>∃v',e= .returned v'/\w'.ownsRow w.heap.size 54 3 v' cs.length (cs.flatMap clV)/\v'≠ .slice none 0 0/\Below w.heap.size w w':=by
 rcases hc with ⟨rfl,a,cap,rfl⟩|⟨b,off,cap,rfl,hc⟩
 ·exact absurd rfl h0
 ·exact yk8 b off cs.length cap _ w (ym5 cs) hl (fun j u q=>hc.cell q) (yrl cs)
theorem ygB {w w1:World} {tb sb j:Nat} {v:Value} (h:w.mapTurned w1 tb) (hne:sb≠tb) (c:w.cell? ⟨sb,j,none⟩=some v):w1.cell? ⟨sb,j,none⟩=some v:=
 (World.cell?_of_block (h.grown.block sb (World.block_lt_of_cell? w _ c) (by simpa using hne))).trans c
theorem ycS {w:World} {base base' t s n:Nat} {v:Value} {xs:List Value} (h:w.ownsRow base t s v n xs) (hb:base'≤base):w.ownsRow base' t s v n xs:=
 ⟨h.1,h.2.imp id fun ⟨g,cap,cur,h1,h2,h3⟩=>⟨g,cap,cur,h1,Nat.le_trans hb h2,h3⟩⟩
theorem ypx {w:World} {base t s n:Nat} {v:Value} {xs:List Value} (h:w.ownsRow base t s v n xs) (h0:v≠ .slice none 0 0):∃g cap,v= .slice (some ⟨g,0,none⟩) n cap:=by
 rcases h.2 with ⟨q,_⟩|⟨g,cap,cur,q,_⟩
 ·exact absurd q h0
 ·exact ⟨g,cap,q⟩
def yfp {α β:Type} (ZT:MZ α) (ZV:MZ β) (n:List UInt8) (cs:List Cl):Int:=
 if ((gAt ZT n).isSome||(gAt ZV n).isSome)=true then 7 else if 8<=ZT.length then 14 else ycU cs
attribute [local go_sem ↓] Go.wp_at_zero Go.wp_at_succ
set_option maxHeartbeats 2000000 in
set_option maxRecDepth 100000 in
theorem yj2 {β:Type} (sb tb vb nv:Nat) (ZT:MZ (List Cl×Int)) (ZV:MZ β) (name:ByteArray) (v:Value) (cs:List Cl) (w:World) (c0:w.cell? ⟨sb,0,none⟩=some (.map (some tb))) (c1:w.cell? ⟨sb,1,none⟩=some (.map (some vb))) (ht:w.ownsMap Try.prog 9 ybo tb ZT.length (mzD ZT)) (hv:w.ownsMap Try.prog 9 ybo vb nv (mzD ZV)) (hsz:name.size≤maxLen)
  (s0:ByteArray) (a:Option Addr) (m c:Nat) (k:Int) (hsh:mzV ZT name.data.toList (.agg #[.string ⟨#[]⟩, .slice none 0 0, .int .i64 0])= .agg #[.string s0, .slice a m c, .int .i64 k]) (a':Option Addr) (m' c':Nat) (hsv:mzV ZV name.data.toList (.slice none 0 0)= .slice a' m' c')
  (hlen:ZT.length<maxLen) (hne:sb≠tb) (hc:ycR w v cs) (hl:cs.length<=1000000) (hn:∀c∈cs,c.1.length<=9223372036854775807):
  Calls Try.prog 15 #[.pointer (some ⟨sb,0,none⟩), .string name,v] w fun e w'=>e= .returned (.int .i64 (yfp ZT ZV name.data.toList cs))∧((¬yfp ZT ZV name.data.toList cs=0∧Below w.heap.size w w')∨
   (yfp ZT ZV name.data.toList cs=0∧∃w1 sv,Below w.heap.size w w1∧w1.ownsRow w.heap.size 54 3 sv cs.length (cs.flatMap clV)∧w1.mapTurned w' tb∧
     w'.ownsMap Try.prog 9 ybo tb (ZT.length+1) (mzD (gPut ZT name.data.toList ((cs,((kSt cs cs.length).1:Int)), .agg #[.string name,sv, .int .i64 (kSt cs cs.length).1]))))):=by
 have hk:=keyOf_string_mk Try.underlying9 hsz
 have htk:=yf2 sb tb vb ZT.length nv ZT ZV name w c0 c1 ht hv hsz s0 a m c k hsh a' m' c' hsv
 have hbs:sb<w.heap.size:=World.block_lt_of_cell? w _ c0
 go_enter Try.func15,Try.ntmps15
 go_wp2_with (first
  |(go_at_call 22;refine htk.mono ?_;rintro e w1 ⟨rfl,hb1⟩;have d0:=(hb1.cell hbs).trans c0;have hm1:=ht.below hb1;have hc1:=hc.below hb1)
  |(at_len;refine wpList_len_own _ rfl _ 65 rfl 9 47 Try.underlying65 _ tb ZT.length _ rfl hm1 ?_)
  |(go_at_call 28;refine (yog v cs _ hc1 hl hn).mono ?_;rintro e w2 ⟨rfl,hb2⟩;have hc2:=hc1.below hb2;have hm2:=hm1.below hb2)
  |(go_at_call 29;have hr0:ycU cs=0:=(by have q:(ycU cs !=0)=false:=(by assumption);simpa using q);refine (ysx v cs _ hc2 (yea hr0).1 hl).mono ?_;rintro e w3 ⟨rfl,hb3⟩;have hc3:=hc2.below hb3;have hm3:=hm2.below hb3;have d3:=(hb3.cell (Nat.lt_of_lt_of_le (Nat.lt_of_lt_of_le hbs hb1.size) hb2.size)).trans ((hb2.cell (Nat.lt_of_lt_of_le hbs hb1.size)).trans d0))
  |go_in)
 ·rename_i q
  have e7:yfp ZT ZV name.data.toList cs=7:=by unfold yfp;rw[if_pos (by simpa using q)]
  go_ret
  rw[e7]
  exact ⟨rfl, .inl ⟨by decide,hb1⟩⟩
 ·rename_i q1 q2
  have e14:yfp ZT ZV name.data.toList cs=14:=by
   unfold mzD at q2
   rw[ycN] at q2
   unfold yfp;rw[if_neg (by simp[q1.1,q1.2]),if_pos (by omega)]
  go_ret
  rw[e14]
  exact ⟨rfl, .inl ⟨by decide,hb1⟩⟩
 ·have q1:(gAt ZT name.data.toList).isSome=false∧(gAt ZV name.data.toList).isSome=false:=by assumption
  have q2:((Maps.size (mzD ZT):Nat):Int)<8:=by assumption
  have q3:(ycU cs !=0)=true:=by assumption
  have er:yfp ZT ZV name.data.toList cs=ycU cs:=by
   unfold mzD at q2
   rw[ycN] at q2
   unfold yfp;rw[if_neg (by simp[q1.1,q1.2]),if_neg (by omega)]
  go_ret
  rw[er]
  exact ⟨rfl, .inl ⟨by simpa using q3,hb1.trans (hb2.mono hb1.size)⟩⟩
 ·have hbs3:sb<w3.heap.size:=Nat.lt_of_lt_of_le (Nat.lt_of_lt_of_le (Nat.lt_of_lt_of_le hbs hb1.size) hb2.size) hb3.size
  clear hm1 hm2 hc1 hc2 ht hv c0 c1 hsh hsv htk
  go_region_held3 (fun w'=>w'.cell? ⟨sb,0,none⟩=some (.map (some tb))) (first|exact d3|exact d4|exact d5|go_keep)
   ((go_at_call 25;refine (ykK v cs _ hc3.drew (yea hr0).1 hl).mono ?_;rintro e w4 ⟨sv,rfl,hrow,hnn,hb4⟩;obtain ⟨g,gc,rfl⟩:=ypx hrow hnn;have hm4:=hm3.drew.below hb4;have d4:=(hb4.cell hbs3).trans d3;obtain ⟨w5,hrun5,hown5,hturn5⟩:=hm4.store keyS Try.underlying65 hlen hk (val:= .agg #[.string name, .slice (some ⟨g,0,none⟩) cs.length gc, .int .i64 (kSt cs cs.length).1]) (d:= .held (.agg #[.string name, .slice (some ⟨g,0,none⟩) cs.length gc, .int .i64 (kSt cs cs.length).1])) (ps:= []) rfl;have d5:=ygB hturn5 hne d4))
  have q1:(gAt ZT name.data.toList).isSome=false/\(gAt ZV name.data.toList).isSome=false:=by assumption
  have q2:((Maps.size (mzD ZT):Nat):Int)<8:=by assumption
  have er:yfp ZT ZV name.data.toList cs=0:=by
   unfold mzD at q2
   rw[ycN] at q2
   unfold yfp;rw[if_neg (by simp[q1.1,q1.2]),if_neg (by omega),hr0]
  have hput:(mzD ZT).put (.string name.data.toList) (.held (.agg #[.string name, .slice (some ⟨g,0,none⟩) cs.length gc, .int .i64 (kSt cs cs.length).1]))=mzD (gPut ZT name.data.toList ((cs,((kSt cs cs.length).1:Int)), .agg #[.string name, .slice (some ⟨g,0,none⟩) cs.length gc, .int .i64 (kSt cs cs.length).1])):=
   ykS (f:=fun z:(List Cl×Int)×Value=>DataW.held z.2) (a:=((cs,((kSt cs cs.length).1:Int)), .agg #[.string name, .slice (some ⟨g,0,none⟩) cs.length gc, .int .i64 (kSt cs cs.length).1]))
  rw[hput] at hown5
  have hb4':Below w.heap.size w w4:=(((hb1.trans (hb2.mono hb1.size)).trans (hb3.mono (Nat.le_trans hb1.size hb2.size))).drew).trans (hb4.mono (Nat.le_trans (Nat.le_trans hb1.size hb2.size) hb3.size))
  go_wp2
  go_ret
  rw[er]
  exact ⟨rfl, .inr ⟨rfl,w4,_,hb4',ycS hrow (Nat.le_trans (Nat.le_trans hb1.size hb2.size) hb3.size),hturn5,hown5⟩⟩
end Go.Proofs.Ytpplhhknlmcgbaa
end
noncomputable section
namespace Go.Proofs.Ytpplhhknlmcgbaa
open Go.RowKit Go.Maps Go.WideMaps Go.RG Go.AV
structure yg0 (w:World) (b off:Nat) (us:List (List UInt8)):Prop where
 at':∀j u,us[j]? =some u->w.cell? ⟨b,off+j,none⟩=some (bStr u)
 lt:b<w.heap.size
theorem yg0.below {w w':World} {b off:Nat} {us:List (List UInt8)} (h:yg0 w b off us) (hb:Below w.heap.size w w'):yg0 w' b off us:=
 ⟨fun j u q=>(hb.cell h.lt).trans (h.at' j u q),Nat.lt_of_lt_of_le h.lt hb.size⟩
def ycv (w:World) (v:Value) (us:List (List UInt8)):Prop:=(us= []/\∃a cap,v= .slice a 0 cap)∨∃b off cap,v= .slice (some ⟨b,off,none⟩) us.length cap/\yg0 w b off us
theorem ycv.below {w w':World} {v:Value} {us:List (List UInt8)} (h:ycv w v us) (hb:Below w.heap.size w w'):ycv w' v us:=by
 rcases h with h|⟨b,off,cap,e,h⟩
 ·exact .inl h
 ·exact .inr ⟨b,off,cap,e,h.below hb⟩
theorem yf8 (s:ByteArray):Value.string s=bStr s.data.toList:=by
 unfold bStr
 rw[Array.toArray_toList]
set_option maxHeartbeats 1000000 in
set_option maxRecDepth 100000 in
theorem yon (b off cap:Nat) (us:List (List UInt8)) (t:ByteArray) (w:World) (hc:yg0 w b off us) (hl:us.length≤1000000):
  Calls Try.prog 44 #[.slice (some ⟨b,off,none⟩) us.length cap, .string t] w fun e w'=>(∃n:Int,e= .returned (.int .i64 n)/\(decide (0<=n)=decide (t.data.toList∈us)))/\w'=w:=by
 go_enter Try.func44,Try.ntmps44
 go_wp2
 go_loop [8] (fun i=>∃k:Nat,k≤us.length∧i= .int .i64 k∧t.data.toList∉us.take k)
  (fun i=>us.length-(intOf i).toNat)
 case atStart=>exact ⟨0,Nat.zero_le _,rfl,by simp⟩
 case round=>
  obtain ⟨k,hk,rfl,hno⟩:=hrel
  by_cases hlt:k<us.length
  ·obtain ⟨c,hcc⟩:∃c,us[k]? =some c:=⟨us[k],List.getElem?_eq_getElem hlt⟩
   have n0:=hc.at' k c hcc
   unfold bStr at n0
   have ht:us.take (k+1)=us.take k++ [c]:=by
    rw[List.take_add_one,hcc];rfl
   go_wp2
   ·have q:(t.toList==c)=true:=by assumption
    rw[Go.ByteArray.toList_eq] at q
    go_ret
    refine ⟨⟨k,rfl,?_⟩,rfl⟩
    have:t.data.toList∈us:=by rw[show t.data.toList=c by simpa using q];exact List.mem_of_getElem? hcc
    simp[this]
   ·have q:(t.toList==c)=false:=by assumption
    rw[Go.ByteArray.toList_eq] at q
    refine ⟨⟨k+1,by omega,by push_cast;rfl,?_⟩,by simp[intOf];omega⟩
    rw[ht,List.mem_append]
    rintro (h|h)
    ·exact hno h
    ·rw[List.mem_singleton] at h
     simp[h] at q
  ·have:k=us.length:=by omega
   subst this
   go_wp2
   go_ret
   refine ⟨⟨_,rfl,?_⟩,rfl⟩
   rw[List.take_length] at hno
   simp[hno]
theorem ynh (a:Option Addr) (c:Nat) (t:ByteArray) (w:World):Calls Try.prog 44 #[.slice a 0 c, .string t] w fun e w'=>e= .returned (.int .i64 (-1))∧w'=w:=by
 go_enter Try.func44,Try.ntmps44
 go_wp2
 refine wp_loop_rounds 1 ?_
 rw[rounds_succ]
 go_wp2
 go_ret
 exact ⟨rfl,rfl⟩
theorem yqI (v:Value) (us:List (List UInt8)) (t:ByteArray) (w:World) (hc:ycv w v us) (hl:us.length≤1000000):
  Calls Try.prog 35 #[v, .string t] w fun e w'=>e= .returned (.bool (decide (t.data.toList∈us)))/\w'=w:=by
 have hi:Calls Try.prog 44 #[v, .string t] w fun e w'=>(∃n:Int,e= .returned (.int .i64 n)∧(decide (0≤n)=decide (t.data.toList∈us)))∧w'=w:=by
  rcases hc with ⟨rfl,a,cap,rfl⟩|⟨b,off,cap,rfl,hc⟩
  ·refine (ynh a cap t w).mono ?_
   rintro e w' ⟨rfl,rfl⟩
   exact ⟨⟨_,rfl,by simp⟩,rfl⟩
  ·exact yon b off cap us t w hc hl
 go_enter Try.func35,Try.ntmps35
 go_wp2_with (first
  |(go_at_call 44;refine hi.mono ?_;rintro e w' ⟨⟨n,rfl,hn⟩,rfl⟩)
  |go_in)
 go_ret
 exact ⟨by rw[<-hn];rfl,rfl⟩
set_option maxHeartbeats 2000000 in
set_option maxRecDepth 100000 in
theorem yjA (ad:Addr) (c:Nat) (w:World):
  Calls Try.prog 23 #[.slice (some ad) 0 c] w fun e w'=>∃v',e= .returned v'/\w'.ownsRow w.heap.size 9 1 v' 0 []/\Below w.heap.size w w':=by
 obtain ⟨i0,hi,hz0,hz1,hz2⟩:=info_parts yq2
 have q:∀(w:World) (a:Option Addr) (n c n' c':Nat),(binOp .eql 31 (.slice a n c) (.slice none n' c')).run Try.prog w= .ok (.bool a.isNone) w:=fun w a n c n' c'=>Lib.run_eql_slice_nil w _ _ a n c n' c' Try.underlying31
 go_enter Try.func23,Try.ntmps23
 go_wp2_with (at_builtin;refine wpList_append_own _ rfl _ _ 31 rfl w.heap.size 9 i0 (.string ⟨#[]⟩) 1 16 Try.underlying31 hi hz0 hz1 hz2 rfl (by decide) _ _ _ rfl (World.ownsRow_made w #[] 0 (Nat.le_refl _) (Nat.zero_le _) rfl) ad 0 c [] rfl rfl (fun j u q=>by cases j<;>cases q) (fun u q=>by cases q) (by decide) (by decide) (by simp) ?_)
 intro v' w1 hown hgrow hnil
 go_wp2
 go_ret
 exact ⟨v',rfl,by simpa using hown,((Below.refl _ w).alloc (Nat.le_refl _) _).grown hgrow (by simp) (by intro k hk;simp[Value.ownBlock] at hk;omega)⟩
theorem yiP (v:Value) (us:List (List UInt8)) (w:World) (hc:ycv w v us) (hl:us.length≤1000000):
  Calls Try.prog 23 #[v] w fun e w'=>∃v',e= .returned v'/\w'.ownsRow w.heap.size 9 1 v' us.length (us.map bStr)/\Below w.heap.size w w':=by
 rcases hc with ⟨rfl,a,cap,rfl⟩|⟨b,off,cap,rfl,hc⟩
 ·cases a with
  | none=>
    refine (yk6 0 cap w).mono ?_
    rintro e w' ⟨rfl,rfl⟩
    exact ⟨_,rfl,World.ownsRow_nil _ _ _ _,Below.refl _ _⟩
  | some a=>
    refine (yjA a cap w).mono ?_
    rintro e w' ⟨v',rfl,h1,h2⟩
    exact ⟨v',rfl,h1,h2⟩
 ·refine (yln b off us.length cap (us.map bStr) w (List.length_map ..) hl (fun j u q=> ?_) (fun u q=> ?_)).mono ?_
  ·rw[List.getElem?_map] at q
   obtain ⟨x,hx,rfl⟩:=Option.map_eq_some_iff.1 q
   exact hc.at' j x hx
  ·obtain ⟨x,_,rfl⟩:=List.mem_map.1 q;rfl
  ·rintro e w' ⟨v',rfl,h1,_,h2⟩
   exact ⟨v',rfl,h1,h2⟩
end Go.Proofs.Ytpplhhknlmcgbaa
end
noncomputable section
namespace Go.Proofs.Ytpplhhknlmcgbaa
open Go.RowKit Go.Maps Go.WideMaps Go.RG Go.AV
theorem yhV:∀(cs:List Cl) (k i:Nat) (c:Cl),cs[k]? =some c→i<3→(cs.flatMap clV)[k*3+i]? =(clV c)[i]?
 | [],k,i,c,h,_=>by simp at h
 | d::cs,0,i,c,h,hi=>by
   cases h
   rw[List.flatMap_cons,List.getElem?_append_left (by simpa [clV] using hi)]
   simp
 | d::cs,k+1,i,c,h,hi=>by
   rw[List.flatMap_cons,List.getElem?_append_right (by simp[clV];omega)]
   have:=yhV cs k i c (by simpa using h) hi
   rw[<-this]
   congr 1
   simp[clV];omega
theorem yob {w:World} {base:Nat} {s:Value} {cs:List Cl} (h:w.ownsRow base 54 3 s cs.length (cs.flatMap clV)) (h0:cs≠ []):∃g cap,s= .slice (some ⟨g,0,none⟩) cs.length cap∧yc3 w g 0 cs:=by
 have hlen:0<cs.length:=List.length_pos_iff.2 h0
 have h2:=h.2
 rcases h2 with ⟨_,q⟩|⟨g,cap,cur,rfl,h1,h2,h3⟩
 ·omega
 ·refine ⟨g,cap,rfl,fun j c q=> ?_,fun j c q=> ?_,fun j c q=> ?_,(Array.getElem?_eq_some_iff.1 h2).1⟩
  ·have hj:=(List.getElem?_eq_some_iff.1 q).1
   rw[Nat.zero_add,h.cellAt (j*3) (by omega),<-Nat.add_zero (j*3),yhV cs j 0 c q (by decide)];rfl
  ·have hj:=(List.getElem?_eq_some_iff.1 q).1
   rw[Nat.zero_add,h.cellAt (j*3+1) (by omega),yhV cs j 1 c q (by decide)];rfl
  ·have hj:=(List.getElem?_eq_some_iff.1 q).1
   rw[Nat.zero_add,h.cellAt (j*3+2) (by omega),yhV cs j 2 c q (by decide)];rfl
theorem yoF {w:World} {base:Nat} {s:Value} {us:List (List UInt8)} (h:w.ownsRow base 9 1 s us.length (us.map bStr)):ycv w s us:=by
 have h2:=h.2
 rcases h2 with ⟨rfl,q⟩|⟨g,cap,cur,rfl,h1,h2,h3⟩
 ·exact .inl ⟨List.eq_nil_of_length_eq_zero q,_,_,rfl⟩
 ·refine .inr ⟨g,0,cap,rfl,fun j c q=> ?_,(Array.getElem?_eq_some_iff.1 h2).1⟩
  have hj:=(List.getElem?_eq_some_iff.1 q).1
  rw[Nat.zero_add,h.cellAt j (by omega),List.getElem?_map,q];rfl
theorem ydL (w:World) (o:Obj) {x:Nat} (h:x<w.heap.size):(w.alloc o).heap[x]? =w.heap[x]? :=by
 show (w.heap.push o)[x]? =_
 rw[Array.getElem?_push,if_neg (by omega)]
theorem yfi (w:World) (o:Obj):(w.alloc o).heap[w.heap.size]? =some o:=by
 show (w.heap.push o)[w.heap.size]? =_
 simp
theorem ybs (w:World) (o:Obj):(w.alloc o).heap.size=w.heap.size+1:=Array.size_push ..
theorem ytq (w:World) (o o':Obj):((w.alloc o).alloc o').heap[w.heap.size]? =some o:=(ydL _ _ (by simp)).trans (yfi w o)
theorem ytm (w:World) (o o':Obj):((w.alloc o).alloc o').heap[w.heap.size+1]? =some o':=by
 have:=yfi (w.alloc o) o'
 simpa using this
theorem yeq {w:World} {b:Nat} {cs:Array Value} {t:TypeId} (h:w.heap[b]? =some (.cells cs t (0,0))) (i:Nat):w.cell? ⟨b,i,none⟩=cs[i]? :=by simp[World.cell?,h]
theorem ygS {w:World} {b:Nat} {cs:Array Value} {t:TypeId} (h:w.heap[b]? =some (.cells cs t (0,0))) (i:Nat):w.frozen? ⟨b,i,none⟩=false:=by simp[World.frozen?,h]
set_option maxHeartbeats 2000000 in
set_option maxRecDepth 100000 in
theorem ylo (sb tb nt:Nat) (ZT:MZ (List Cl×Int)) (name:ByteArray) (w:World) (c0:w.cell? ⟨sb,0,none⟩=some (.map (some tb))) (ht:w.ownsMap Try.prog 9 ybo tb nt (mzD ZT)) (hsz:name.size≤maxLen)
  (cs:List Cl) (k:Int) (v:Value) (hat:gAt ZT name.data.toList=some ((cs,k),v)) (hv:yk9 w name.data.toList (cs,k) v) (h0:cs≠ []) (hl:cs.length<=1000000):
  Calls Try.prog 13 #[.pointer (some ⟨sb,0,none⟩), .string name] w fun e w'=>∃sv,e= .returned (.tuple #[.agg #[bStr name.data.toList,sv, .int .i64 k], .bool true])/\w'.ownsRow w.heap.size 54 3 sv cs.length (cs.flatMap clV)/\Below w.heap.size w w':=by
 obtain ⟨s,rfl,hrow⟩:=hv
 obtain ⟨g,cap,rfl,hca⟩:=yob hrow h0
 have hk:=keyOf_string_mk Try.underlying9 hsz
 have hV:mzV ZT name.data.toList (.agg #[.string ⟨#[]⟩, .slice none 0 0, .int .i64 0])= .agg #[bStr name.data.toList, .slice (some ⟨g,0,none⟩) cs.length cap, .int .i64 k]:=by unfold mzV;rw[hat];rfl
 have hB:(gAt ZT name.data.toList).isSome=true:=by rw[hat];rfl
 have hgl:=hca.lt
 have d0:∀o,(w.alloc o).cell? ⟨sb,0,none⟩=some (.map (some tb)):=fun o=>Lib.cell?_alloc_some _ c0
 unfold bStr at hV⊢
 have HC:Hid (yc3 w g 0 cs):=hca
 clear hca hrow
 go_enter Try.func13,Try.ntmps13
 go_wp2_with (first
  |(at_lookup;refine ya8 _ rfl _ _ 65 rfl 9 47 keyS Try.underlying65 (ygl _) tb nt ZT rfl (by first|exact ht|exact ht.alloc _) name rfl hk _ _ hV hB ?_)
  |(go_at_call 25;refine (ykK _ cs _ (.inr ⟨g,0,cap,rfl,(yc3.below HC.out (((Below.refl _ w).alloc (Nat.le_refl _) _).alloc (by simp) _))⟩) h0 hl).mono ?_;rintro e w2 ⟨sv,rfl,hrow,hnn,hb2⟩;obtain ⟨g2,gc,rfl⟩:=ypx hrow hnn;have hA:=(hb2.block w.heap.size (by simp;omega)).trans (ytq w _ _);have hB:=(hb2.block (w.heap.size+1) (by simp)).trans (ytm w _ _);have kA0:=yeq hA 0;have fA0:=ygS hA 0;have kA1:=yeq hA 1;have fA1:=ygS hA 1;have kA2:=yeq hA 2;have fA2:=ygS hA 2;have kB0:=yeq hB 0;have fB0:=ygS hB 0;have kB1:=yeq hB 1;have fB1:=ygS hB 1;have kB2:=yeq hB 2;have fB2:=ygS hB 2;clear hA hB)
  |go_in)
 refine bodyPost_ret (v:= .tuple #[.agg #[.string name, .slice (some ⟨g2,0,none⟩) cs.length gc, .int .i64 k], .bool true]) ?_ rfl ?_
 ·rw[results_cell_tmp rfl]
  go_simp
 have hgb:=(hrow.lt g2 rfl).1
 simp only[ybs] at hgb
 refine ⟨_,?_,yaN (ycS hrow (by simp only[ybs];omega)) fun x hx=> ?_,?_⟩
 ·have:=yf8 name
  unfold bStr at this
  rw[<-this]
 ·simp only[ybp,List.mem_singleton] at hx
  subst hx
  rw[yjP,if_neg (by omega),yjP,if_neg (by omega),yjP,if_neg (by omega),yjP,if_neg (by omega)]
 ·exact (((((((Below.refl _ w).alloc (Nat.le_refl _) _).alloc (by simp) _).trans (hb2.mono (by simp only[ybs];omega))).setCell (Nat.le_succ _) _).setCell (Nat.le_refl _) _).setCell (Nat.le_refl _) _).setCell (Nat.le_refl _) _
set_option maxHeartbeats 2000000 in
set_option maxRecDepth 100000 in
theorem ylr (sb tb nt:Nat) (ZT:MZ (List Cl×Int)) (name:ByteArray) (w:World) (c0:w.cell? ⟨sb,0,none⟩=some (.map (some tb))) (ht:w.ownsMap Try.prog 9 ybo tb nt (mzD ZT)) (hsz:name.size≤maxLen) (hat:gAt ZT name.data.toList=none):
  Calls Try.prog 13 #[.pointer (some ⟨sb,0,none⟩), .string name] w fun e w'=>e= .returned (.tuple #[.agg #[.string ⟨#[]⟩, .slice none 0 0, .int .i64 0], .bool false])/\Below w.heap.size w w':=by
 have hk:=keyOf_string_mk Try.underlying9 hsz
 have hV:mzV ZT name.data.toList (.agg #[.string ⟨#[]⟩, .slice none 0 0, .int .i64 0])= .agg #[.string ⟨#[]⟩, .slice none 0 0, .int .i64 0]:=by unfold mzV;rw[hat];rfl
 have hB:(gAt ZT name.data.toList).isSome=false:=by rw[hat];rfl
 have d0:∀o,(w.alloc o).cell? ⟨sb,0,none⟩=some (.map (some tb)):=fun o=>Lib.cell?_alloc_some _ c0
 go_enter Try.func13,Try.ntmps13
 go_wp2_with (first
  |(at_lookup;refine ya8 _ rfl _ _ 65 rfl 9 47 keyS Try.underlying65 (ygl _) tb nt ZT rfl (by first|exact ht|exact ht.alloc _) name rfl hk _ _ hV hB ?_)
  |(go_at_call 25;refine (yla 0 0 _).mono ?_;rintro e w2 ⟨rfl,rfl⟩)
  |go_in)
 refine bodyPost_ret (v:= .tuple #[.agg #[.string ⟨#[]⟩, .slice none 0 0, .int .i64 0], .bool false]) ?_ rfl ?_
 ·rw[results_cell_tmp rfl]
  go_simp
 exact ⟨rfl,((Below.refl _ w).alloc (Nat.le_refl _) _).alloc (by simp) _⟩
end Go.Proofs.Ytpplhhknlmcgbaa
end
noncomputable section
namespace Go.Proofs.Ytpplhhknlmcgbaa
open Go.RowKit Go.Maps Go.WideMaps Go.RG Go.AV
theorem ycv.drew {w:World} {v:Value} {us:List (List UInt8)} (h:ycv w v us):ycv w.drew v us:=by
 rcases h with h|⟨b,off,cap,e,h⟩
 ·exact .inl h
 ·exact .inr ⟨b,off,cap,e,h.at',h.lt⟩
def yi9 {α:Type} (ZT:MZ α):Prop:=∀n,∃(s0:ByteArray) (a:Option Addr) (m c:Nat) (k:Int),mzV ZT n (.agg #[.string ⟨#[]⟩, .slice none 0 0, .int .i64 0])= .agg #[.string s0, .slice a m c, .int .i64 k]
def VwSh {α:Type} (ZV:MZ α):Prop:=∀n,∃(a:Option Addr) (m c:Nat),mzV ZV n (.slice none 0 0)= .slice a m c
def yb2 {α β:Type} (ZT:MZ α) (ZV:MZ β) (n:List UInt8) (us:List (List UInt8)):Int:=
 if ((gAt ZT n).isSome||(gAt ZV n).isSome)=true then 7 else if 8<=ZV.length then 14 else if us.all (fun u=>(gAt ZT u).isSome)=true then 0 else 6
attribute [local go_sem ↓] Go.wp_at_zero Go.wp_at_succ
set_option maxHeartbeats 2000000 in
set_option maxRecDepth 100000 in
theorem yn6 {α:Type} (sb tb vb nt:Nat) (ZT:MZ α) (ZV:MZ (List (List UInt8))) (name:ByteArray) (b off cap:Nat) (us:List (List UInt8)) (w:World) (c0:w.cell? ⟨sb,0,none⟩=some (.map (some tb))) (c1:w.cell? ⟨sb,1,none⟩=some (.map (some vb))) (ht:w.ownsMap Try.prog 9 ybo tb nt (mzD ZT)) (hv:w.ownsMap Try.prog 9 ybo vb ZV.length (mzD ZV)) (hsz:name.size≤maxLen)
  (hT:yi9 ZT) (hVw:VwSh ZV) (hlen:ZV.length<maxLen) (hne:sb≠vb) (hc:yg0 w b off us) (hl:us.length<=1000000) (hn:∀u∈us,u.length<=9223372036854775807):
  Calls Try.prog 9 #[.pointer (some ⟨sb,0,none⟩), .string name, .slice (some ⟨b,off,none⟩) us.length cap] w fun e w'=>e= .returned (.int .i64 (yb2 ZT ZV name.data.toList us))∧((¬yb2 ZT ZV name.data.toList us=0∧Below w.heap.size w w')∨
   (yb2 ZT ZV name.data.toList us=0/\∃w1 sv,Below w.heap.size w w1/\w1.ownsRow w.heap.size 9 1 sv us.length (us.map bStr)/\w1.mapTurned w' vb/\w'.ownsMap Try.prog 9 ybo vb (ZV.length+1) (mzD (gPut ZV name.data.toList (us,sv))))):=by
 have hk:=keyOf_string_mk Try.underlying9 hsz
 obtain ⟨s0,a,m,c,k0,hsh⟩:=hT name.data.toList
 obtain ⟨a',m',c',hsv⟩:=hVw name.data.toList
 have htk:=yf2 sb tb vb nt ZV.length ZT ZV name w c0 c1 ht hv hsz s0 a m c k0 hsh a' m' c' hsv
 have hbs:sb<w.heap.size:=World.block_lt_of_cell? w _ c0
 have HT:Hid (yi9 ZT):=hT
 clear hT hVw hsh hsv
 go_enter Try.func9,Try.ntmps9
 go_wp2_with (first
  |(go_at_call 22;refine htk.mono ?_;rintro e w1 ⟨rfl,hb1⟩;have d0:=(hb1.cell hbs).trans c0;have d1:=(hb1.cell hbs).trans c1;have hm0:=ht.below hb1;have hm1:=hv.below hb1;have hc1:=hc.below hb1)
  |(at_len;refine wpList_len_own _ rfl _ 66 rfl 9 31 Try.underlying66 _ vb ZV.length _ rfl hm1 ?_)
  |go_in)
 ·have q:(gAt ZT name.data.toList).isSome=true∨(gAt ZV name.data.toList).isSome=true:=by assumption
  have e7:yb2 ZT ZV name.data.toList us=7:=by unfold yb2;rw[if_pos (by simpa using q)]
  go_ret
  rw[e7]
  exact ⟨rfl, .inl ⟨by decide,hb1⟩⟩
 ·have q1:(gAt ZT name.data.toList).isSome=false∧(gAt ZV name.data.toList).isSome=false:=by assumption
  have q2:8<=((Maps.size (mzD ZV):Nat):Int):=by assumption
  have e14:yb2 ZT ZV name.data.toList us=14:=by
   unfold mzD at q2
   rw[ycN] at q2
   unfold yb2;rw[if_neg (by simp[q1.1,q1.2]),if_pos (by omega)]
  go_ret
  rw[e14]
  exact ⟨rfl, .inl ⟨by decide,hb1⟩⟩
 ·have q1:(gAt ZT name.data.toList).isSome=false∧(gAt ZV name.data.toList).isSome=false:=by assumption
  have q2:((Maps.size (mzD ZV):Nat):Int)<8:=by assumption
  have eE:Hid (yb2 ZT ZV name.data.toList us=if us.all (fun u=>(gAt ZT u).isSome)=true then 0 else 6):=by
   unfold mzD at q2
   rw[ycN] at q2
   show yb2 ZT ZV name.data.toList us=_;unfold yb2;rw[if_neg (by simp[q1.1,q1.2]),if_neg (by omega)]
  have hbs1:sb<w1.heap.size:=Nat.lt_of_lt_of_le hbs hb1.size
  go_loopw [27] (fun i wr=>∃k:Nat,k≤us.length∧i= .int .i64 k∧(us.take k).all (fun u=>(gAt ZT u).isSome)=true∧Below w1.heap.size w1 wr)
   (fun i _=>us.length-(intOf i).toNat)
  case atStart=>exact ⟨0,Nat.zero_le _,rfl,rfl,Below.refl _ _⟩
  case round=>
   obtain ⟨k,hk',rfl,hall,hb⟩:=hrel
   by_cases hlt:k<us.length
   ·obtain ⟨u,hcc⟩:∃u,us[k]? =some u:=⟨us[k],List.getElem?_eq_getElem hlt⟩
    have n0:=(hc1.below hb).at' k u hcc
    unfold bStr at n0
    have e0:=(hb.cell hbs1).trans d0
    have e1:∀o,(wr.alloc o).cell? ⟨sb,0,none⟩=some (.map (some tb)):=fun o=>Lib.cell?_alloc_some _ e0
    have hmr:=hm0.below hb
    obtain ⟨s1,a1,m1,c1',k1,hsh1⟩:=HT.out u
    have hus:(ByteArray.mk u.toArray).size≤maxLen:=by
     have:=hn u (List.mem_of_getElem? hcc)
     show u.toArray.size<=maxLen
     simp[maxLen];omega
    have hku:keyOf Try.prog 9 (.string ⟨u.toArray⟩)=some (.string (ByteArray.mk u.toArray).data.toList):=keyOf_string_mk Try.underlying9 hus
    have hsh2:mzV ZT (ByteArray.mk u.toArray).data.toList (.agg #[.string ⟨#[]⟩, .slice none 0 0, .int .i64 0])= .agg #[.string s1, .slice a1 m1 c1', .int .i64 k1]:=hsh1
    have ht':us.take (k+1)=us.take k++ [u]:=by
     rw[List.take_add_one,hcc];rfl
    obtain ⟨q,hq⟩:∃q,(gAt ZT u).isSome=q:=⟨_,rfl⟩
    have hq2:(gAt ZT (ByteArray.mk u.toArray).data.toList).isSome=q:=hq
    go_wp2_with (first
     |(at_lookup;refine ya8 _ rfl _ _ 65 rfl 9 47 keyS Try.underlying65 (ygl _) tb nt ZT rfl (by first|exact hmr|exact hmr.alloc _) _ rfl hku _ _ hsh2 hq2 ?_)
     |go_in)
    ·have hqf:q=false:=by have z:(!q)=true:=(by assumption);simpa using z
     have e6:yb2 ZT ZV name.data.toList us=6:=by
      rw[eE.out,if_neg]
      intro h
      have:=List.all_eq_true.1 h u (List.mem_of_getElem? hcc)
      rw[hq,hqf] at this
      cases this
     go_ret
     rw[e6]
     exact ⟨rfl, .inl ⟨by decide,(hb1.trans (hb.mono hb1.size)).alloc (Nat.le_trans hb1.size hb.size) _⟩⟩
    ·have hqt:q=true:=by have z:(!q)=false:=(by assumption);simpa using z
     refine ⟨⟨k+1,by omega,by push_cast;rfl,?_,hb.alloc hb.size _⟩,by simp[intOf];omega⟩
     rw[ht',List.all_append,hall]
     simp[hq,hqt]
   ·have:k=us.length:=by omega
    subst this
    rw[List.take_length] at hall
    have hcr:=hc1.below hb
    have hmr:=hm1.below hb
    have e1:=(hb.cell hbs1).trans d1
    have hbr:sb<wr.heap.size:=Nat.lt_of_lt_of_le hbs1 hb.size
    go_wp2
    clear hm0 hm1 hc1 ht hv c0 c1 htk
    go_region_held3 (fun w'=>w'.cell? ⟨sb,1,none⟩=some (.map (some vb))) (first|exact e1|exact e4|exact e5|go_keep)
     ((go_at_call 23;refine (yiP _ us _ (ycv.drew (.inr ⟨b,off,cap,rfl,hcr⟩)) hl).mono ?_;rintro e w4 ⟨sv,rfl,hrow,hb4⟩;have hm4:=hmr.drew.below hb4;have e4:=(hb4.cell hbr).trans e1;obtain ⟨w5,hrun5,hown5,hturn5⟩:=hm4.store keyS Try.underlying66 hlen hk (val:=sv) (d:= .held sv) (ps:= []) rfl;have e5:=ygB hturn5 hne e4))
    have er:yb2 ZT ZV name.data.toList us=0:=by rw[eE.out,if_pos hall]
    have hput:(mzD ZV).put (.string name.data.toList) (.held sv)=mzD (gPut ZV name.data.toList (us,sv)):=
     ykS (f:=fun z:List (List UInt8)×Value=>DataW.held z.2) (a:=(us,sv))
    rw[hput] at hown5
    have hb4':Below w.heap.size w w4:=((hb1.trans (hb.mono hb1.size)).drew).trans (hb4.mono (Nat.le_trans hb1.size hb.size))
    go_wp2
    go_ret
    rw[er]
    exact ⟨rfl, .inr ⟨rfl,w4,_,hb4',ycS hrow (Nat.le_trans hb1.size hb.size),hturn5,hown5⟩⟩
end Go.Proofs.Ytpplhhknlmcgbaa
end
noncomputable section
namespace Go.Proofs.Ytpplhhknlmcgbaa
open Go.RowKit Go.Maps Go.WideMaps Go.RG Go.AV
attribute [local go_sem ↓] Go.wp_at_zero Go.wp_at_succ
set_option maxHeartbeats 2000000 in
set_option maxRecDepth 100000 in
theorem ymD {α:Type} (sb tb vb nt:Nat) (ZT:MZ α) (ZV:MZ (List (List UInt8))) (name:ByteArray) (sa:Option Addr) (cap:Nat) (w:World) (c0:w.cell? ⟨sb,0,none⟩=some (.map (some tb))) (c1:w.cell? ⟨sb,1,none⟩=some (.map (some vb))) (ht:w.ownsMap Try.prog 9 ybo tb nt (mzD ZT)) (hv:w.ownsMap Try.prog 9 ybo vb ZV.length (mzD ZV)) (hsz:name.size≤maxLen)
  (hT:yi9 ZT) (hVw:VwSh ZV) (hlen:ZV.length<maxLen) (hne:sb≠vb):
  Calls Try.prog 9 #[.pointer (some ⟨sb,0,none⟩), .string name, .slice sa 0 cap] w fun e w'=>e= .returned (.int .i64 (yb2 ZT ZV name.data.toList []))∧((¬yb2 ZT ZV name.data.toList []=0∧Below w.heap.size w w')∨
   (yb2 ZT ZV name.data.toList []=0/\∃w1 sv,Below w.heap.size w w1/\w1.ownsRow w.heap.size 9 1 sv 0 []/\w1.mapTurned w' vb/\w'.ownsMap Try.prog 9 ybo vb (ZV.length+1) (mzD (gPut ZV name.data.toList ([],sv))))):=by
 have hk:=keyOf_string_mk Try.underlying9 hsz
 obtain ⟨s0,a,m,c,k0,hsh⟩:=hT name.data.toList
 obtain ⟨a',m',c',hsv⟩:=hVw name.data.toList
 have htk:=yf2 sb tb vb nt ZV.length ZT ZV name w c0 c1 ht hv hsz s0 a m c k0 hsh a' m' c' hsv
 have hbs:sb<w.heap.size:=World.block_lt_of_cell? w _ c0
 have HT:Hid (yi9 ZT):=hT
 clear hT hVw hsh hsv
 go_enter Try.func9,Try.ntmps9
 go_wp2_with (first
  |(go_at_call 22;refine htk.mono ?_;rintro e w1 ⟨rfl,hb1⟩;have d0:=(hb1.cell hbs).trans c0;have d1:=(hb1.cell hbs).trans c1;have hm0:=ht.below hb1;have hm1:=hv.below hb1)
  |(at_len;refine wpList_len_own _ rfl _ 66 rfl 9 31 Try.underlying66 _ vb ZV.length _ rfl hm1 ?_)
  |go_in)
 ·have q:(gAt ZT name.data.toList).isSome=true∨(gAt ZV name.data.toList).isSome=true:=by assumption
  have e7:yb2 ZT ZV name.data.toList []=7:=by unfold yb2;rw[if_pos (by simpa using q)]
  go_ret
  rw[e7]
  exact ⟨rfl, .inl ⟨by decide,hb1⟩⟩
 ·have q1:(gAt ZT name.data.toList).isSome=false∧(gAt ZV name.data.toList).isSome=false:=by assumption
  have q2:8<=((Maps.size (mzD ZV):Nat):Int):=by assumption
  have e14:yb2 ZT ZV name.data.toList []=14:=by
   unfold mzD at q2
   rw[ycN] at q2
   unfold yb2;rw[if_neg (by simp[q1.1,q1.2]),if_pos (by omega)]
  go_ret
  rw[e14]
  exact ⟨rfl, .inl ⟨by decide,hb1⟩⟩
 ·have q1:(gAt ZT name.data.toList).isSome=false∧(gAt ZV name.data.toList).isSome=false:=by assumption
  have q2:((Maps.size (mzD ZV):Nat):Int)<8:=by assumption
  have eE:Hid (yb2 ZT ZV name.data.toList []=if ([]:List (List UInt8)).all (fun u=>(gAt ZT u).isSome)=true then 0 else 6):=by
   unfold mzD at q2
   rw[ycN] at q2
   show yb2 ZT ZV name.data.toList []=_;unfold yb2;rw[if_neg (by simp[q1.1,q1.2]),if_neg (by omega)]
  have hbs1:sb<w1.heap.size:=Nat.lt_of_lt_of_le hbs hb1.size
  refine wp_loop_rounds 1 ?_
  rw[rounds_succ]
  have hmr:=hm1
  have e1:=d1
  go_wp2
  clear hm0 hm1 ht hv c0 c1 htk
  go_region_held3 (fun w'=>w'.cell? ⟨sb,1,none⟩=some (.map (some vb))) (first|exact e1|exact e4|exact e5|go_keep)
   ((go_at_call 23;refine (yiP _ [] _ (.inl ⟨rfl,_,_,rfl⟩) (Nat.zero_le _)).mono ?_;rintro e w4 ⟨sv,rfl,hrow,hb4⟩;have hm4:=hmr.drew.below hb4;have e4:=(hb4.cell hbs1).trans e1;obtain ⟨w5,hrun5,hown5,hturn5⟩:=hm4.store keyS Try.underlying66 hlen hk (val:=sv) (d:= .held sv) (ps:= []) rfl;have e5:=ygB hturn5 hne e4))
  have er:yb2 ZT ZV name.data.toList []=0:=by rw[eE.out];rfl
  have hput:(mzD ZV).put (.string name.data.toList) (.held sv)=mzD (gPut ZV name.data.toList ([],sv)):=
   ykS (f:=fun z:List (List UInt8)×Value=>DataW.held z.2) (a:=([],sv))
  rw[hput] at hown5
  have hb4':Below w.heap.size w w4:=hb1.drew.trans (hb4.mono hb1.size)
  go_wp2
  go_ret
  rw[er]
  exact ⟨rfl, .inr ⟨rfl,w4,_,hb4',ycS hrow hb1.size,hturn5,hown5⟩⟩
set_option maxRecDepth 100000 in
theorem ylS {α:Type} (sb vb nv:Nat) (ZV:MZ α) (name:ByteArray) (w:World) (c1:w.cell? ⟨sb,1,none⟩=some (.map (some vb))) (hv:w.ownsMap Try.prog 9 ybo vb nv (mzD ZV)) (hsz:name.size≤maxLen) (hVw:VwSh ZV) (hne:sb≠vb):
  Calls Try.prog 11 #[.pointer (some ⟨sb,0,none⟩), .string name] w fun e w'=>((gAt ZV name.data.toList).isSome=false∧e= .returned (.int .i64 6)∧Below w.heap.size w w')∨
   ((gAt ZV name.data.toList).isSome=true/\e= .returned (.int .i64 0)/\∃w1,Below w.heap.size w w1/\w1.mapTurned w' vb/\w'.ownsMap Try.prog 9 ybo vb nv (mzD (gDel ZV name.data.toList))):=by
 have hk:=keyOf_string_mk Try.underlying9 hsz
 obtain ⟨a',m',c',hsv⟩:=hVw name.data.toList
 obtain ⟨q,hq⟩:∃q,(gAt ZV name.data.toList).isSome=q:=⟨_,rfl⟩
 have HQ:Hid ((gAt ZV name.data.toList).isSome=q):=hq
 have HD:Hid ((mzD ZV).del (.string name.data.toList)=mzD (gDel ZV name.data.toList)):=ylz
 rw[hq]
 clear hVw
 go_enter Try.func11,Try.ntmps11
 go_wp2_with (first
  |(at_lookup;refine ya8 _ rfl _ _ 66 rfl 9 31 keyS Try.underlying66 (ykI _) vb nv ZV rfl (by first|exact hv|exact hv.alloc _) name rfl hk _ _ hsv hq ?_)
  |(at_delete;refine wpList_delete_own _ rfl _ _ 66 9 rfl 31 keyS Try.underlying66 _ vb nv _ rfl hv _ _ rfl hk ?_;intro w2 hown2 hturn2)
  |go_in)
 ·have z:(!q)=true:=by assumption
  go_ret
  exact .inl ⟨by simpa using z,rfl,Below.refl _ _⟩
 ·have z:(!q)=false:=by assumption
  go_ret
  exact .inr ⟨by simpa using z,rfl,w,Below.refl _ _,hturn2,HD.out▸hown2⟩
end Go.Proofs.Ytpplhhknlmcgbaa
end
noncomputable section
namespace Go.Proofs.Ytpplhhknlmcgbaa
open Go.RowKit Go.Maps Go.WideMaps Go.RG Go.AV Go.Sort Go.Shelf
def ybf (ZV:MZ (List (List UInt8))) (t:List UInt8) (left:Lit->Bool):List (List UInt8):=(ZV.filter fun z=>decide (t∈z.2.1)&& !left (.string z.1)).map (·.1)
theorem ynB (v:Value) (y:DataW Value×List MemPlace) (_:ybo v=some y):∃c,v=id c:=⟨v,rfl⟩
theorem ylq {k:TypeId} (hk:Try.prog.underlying k=some .string) (key:Value) (kl:Lit) (h:keyOf Try.prog k key=some kl):∃x,key=Value.string x:=by
 cases key<;>simp[keyOf,hk,mapKey] at h
 exact ⟨_,rfl⟩
theorem yiq (t x:List UInt8) (u:List (List UInt8)) (v:Value) (left:Lit→Bool) (hl:left (.string x)=true):∀(Z:MZ (List (List UInt8))),(Z.map (·.1)).Nodup→(x,u,v)∈Z→
  (ybf Z t fun z=>left z&& !z.sameKey (.string x)).Perm (if t∈u then x::ybf Z t left else ybf Z t left)
 | [],_,h=>by cases h
 | z ::Z,hn,h=>by
   rw[List.map_cons,List.nodup_cons] at hn
   obtain ⟨hn1,hn2⟩:=hn
   have hcons:∀l':Lit→Bool,ybf (z::Z) t l'=if (decide (t∈z.2.1)&& !l' (.string z.1))=true then z.1::ybf Z t l' else ybf Z t l':=fun l'=>by
    unfold ybf
    rw[List.filter_cons]
    split<;>rfl
   by_cases hz:z.1=x
   ·have hnot:∀y∈Z,y.1≠x:=fun y hy e=>hn1 (by rw[hz,← e];exact List.mem_map_of_mem (f:=fun y:List UInt8×List (List UInt8)×Value=>y.1) hy)
    have hz2:z=(x,u,v):=by
     rcases List.mem_cons.1 h with e|e
     ·exact e.symm
     ·exact absurd rfl (hnot _ e)
    have hrest:(ybf Z t fun z=>left z&& !z.sameKey (.string x))=ybf Z t left:=by
     unfold ybf
     congr 1
     refine List.filter_congr fun y hy=> ?_
     have:(Lit.string y.1).sameKey (.string x)=false:=by simp[Lit.sameKey,hnot y hy]
     simp[this]
    rw[hcons,hcons,hrest,hz2]
    have hs:(Lit.string x).sameKey (.string x)=true:=by simp[Lit.sameKey]
    simp only[hs,hl,Bool.not_true,Bool.and_false,Bool.not_false,Bool.and_true,decide_eq_true_eq,Bool.false_eq_true,if_false]
    exact .refl _
   ·have hm:(x,u,v)∈Z:=by
     rcases List.mem_cons.1 h with e|e
     ·exact absurd (by rw[<-e]) hz
     ·exact e
    have ih:=yiq t x u v left hl Z hn2 hm
    have hs:(Lit.string z.1).sameKey (.string x)=false:=by simp[Lit.sameKey,hz]
    rw[hcons,hcons]
    simp only[hs,Bool.not_false,Bool.and_true]
    split
    ·split
     ·rename_i hu;rw[if_pos hu] at ih;exact (List.Perm.cons _ ih).trans (.swap _ _ _)
     ·rename_i hu;rw[if_neg hu] at ih;exact List.Perm.cons _ ih
    ·exact ih
theorem yoN (Z:MZ (List (List UInt8))) (t:List UInt8) (left:Lit→Bool):(ybf Z t left).length≤Z.length:=by
 unfold ybf
 rw[List.length_map]
 exact List.length_filter_le _ _
theorem yol (v:Value) (ks:List (List UInt8)) (wr:World) (base:Nat) (h:wr.ownsRow base 9 1 v ks.length (ks.map encStr)) (hl:ks.length≤1000000) (hbs:base≤wr.heap.size):
  Calls Try.prog 36 #[v] wr fun e w'=>e= .returned (.tuple #[])/\w'.ownsRow base 9 1 v ks.length ((ks.mergeSort fun x y=>decide (x<=y)).map encStr)/\Below base wr w':=by
 have hl2:(ks.mergeSort fun x y=>decide (x<=y)).length=ks.length:=List.length_mergeSort ks
 rcases h.2 with ⟨rfl,hk0⟩|⟨g,cap,cur,rfl,hbase,hb,h1,h2,h3,h4⟩
 ·obtain rfl:ks= []:=List.eq_nil_of_length_eq_zero hk0
  refine (AnyM.slices_Sort_string_none Try.sort36 none 0 wr).mono ?_
  rintro e w' ⟨rfl,rfl⟩
  exact ⟨rfl,by simpa using h,Below.refl _ _⟩
 ·have hH:Holds encStr wr g 0 ks.toArray:=holds_of_block hb (by simpa using h4)
  refine (AnyM.slices_Sort_string Try.sort36 g 0 cap ks wr hH (Array.getElem?_eq_some_iff.1 hb).1 (by omega)).mono ?_
  rintro e w' ⟨rfl,nn,os,rfl⟩
  have hro:=ownsRow_sorted (n:=nn) (os:=os) (ts:=ks.mergeSort fun x y=>decide (x<=y)) hl2 hbase hb h1 h2 h3
  exact ⟨rfl,hro,(Below.refl base wr).grown (grownBy_sorted _) hbs (fun j hj=>by cases hj;exact hbase)⟩
set_option maxHeartbeats 4000000 in
set_option maxRecDepth 100000 in
theorem yiK (sb vb nv:Nat) (ZV:MZ (List (List UInt8))) (t:ByteArray) (w:World) (c1:w.cell? ⟨sb,1,none⟩=some (.map (some vb))) (hv:w.ownsMap Try.prog 9 ybo vb nv (mzD ZV)) (hel:∀z∈ZV,cvwV w z.1 z.2.1 z.2.2) (hlen:ZV.length≤8) (hvn:∀z∈ZV,z.2.1.length≤1000000) (hnd:(ZV.map (·.1)).Nodup):
  Calls Try.prog 19 #[.pointer (some ⟨sb,0,none⟩), .string t] w fun e w'=>∃(v:Value) (ks:List (List UInt8)),e= .returned v/\ks.Perm (ybf ZV t.data.toList fun _=>false)/\w'.ownsRow w.heap.size 9 1 v ks.length ((ks.mergeSort fun x y=>decide (x<=y)).map encStr)/\Below w.heap.size w w':=by
 obtain ⟨i0,hi,hz0,hz1,hz2⟩:=info_parts yq2
 go_enter Try.func19,Try.ntmps19
 go_wp2_with (first
  |(at_range;refine wpList_range_own _ rfl _ 66 rfl 9 31 keyS Try.underlying66 _ vb nv _ rfl hv ?_;intro w0 hrg0 hg0 hs0)
  |go_in)
 go_frame
 go_loopw [5] (fun v wr=>∃(left:Lit→Bool) (cnt:Nat) (ks:List (List UInt8)),wr.ranges Try.prog 9 ybo vb w.heap.size nv (mzD ZV) left cnt∧
   wr.ownsRow (w.heap.size+1) 9 1 v ks.length (ks.map encStr)/\Hid (ks.Perm (ybf ZV t.data.toList left))/\w.heap.size+1<=wr.heap.size/\Below w.heap.size w wr)
  (fun _ wr=>wr.rangeLeft vb w.heap.size)
 case atStart=>
  refine ⟨_,_,[],hrg0,World.ownsRow_nil _ _ _ _,?_,by omega,(Below.refl _ w).grown hg0 (Nat.le_refl _) (fun j hj=>by cases hj)⟩
  show List.Perm [] _
  have:ybf ZV t.data.toList (Maps.has (mzD ZV))= []:=by
   unfold ybf
   rw[List.map_eq_nil_iff,List.filter_eq_nil_iff]
   intro z hz
   have:Maps.has (mzD ZV) (.string z.1)=true:=by
    unfold mzD
    rw[yoX]
    cases hq:gAt ZV z.1 with
    |none=>exact absurd rfl (yfT hq z hz)
    |some a=>rfl
   simp[this]
  rw[this]
 case round=>
  obtain ⟨left,cnt,ks,hrg,hrow,HP,hnx,hb⟩:=hrel
  have hkl:ks.length<=8:=Nat.le_trans (by rw[HP.out.length_eq];exact yoN _ _ _) hlen
  go_wp2_with (first
   |(at_next;refine wpList_next_ranges _ rfl _ rfl 9 keyS ybo Value.string id (ylq Try.underlying9) ynB vb w.heap.size nv _ _ _ rfl hrg ?_ ?_)
   |go_in)
  ·intro hc0 hl0
   have el:left=fun _=>false:=funext hl0
   subst el
   go_wp2_with (first
    |(go_at_call 36;refine (yol _ ks wr (w.heap.size+1) hrow (by omega) hnx).mono ?_;rintro e w' ⟨rfl,hro,hb2⟩)
    |go_in)
   go_ret
   exact ⟨_,ks,rfl,HP.out,ycS hro (Nat.le_succ _),hb.trans (hb2.mono (Nat.le_succ _))⟩
  ·intro x c kl y1 y2 w1 cnt1 hkx hlx hR hat hrg1 hlt hg1 hs1 hen
   have hkx2:kl= .string x.data.toList:=by
    have h:=hkx
    simp[keyOf,Try.underlying9,mapKey] at h
    exact h.2.symm
   subst hkx2
   have hz:∃u,gAt ZV x.data.toList=some (u,c):=by
    cases hq:gAt ZV x.data.toList with
    | none=>
      have h1:=hat (.held c)
      have h2:=hat .nil
      unfold mzD at h1 h2
      rw[yml,hq] at h1 h2
      rw[<-h1] at h2;cases h2
    | some a=>
      have h1:=hat (.held c)
      unfold mzD at h1
      rw[yml,hq] at h1
      simp[ybo] at hR
      rw[<-hR.1] at h1
      obtain ⟨u,v⟩:=a
      simp at h1
      exact ⟨u,by rw[h1]⟩
   obtain ⟨u,hu⟩:=hz
   have hm:=yfO hu
   have hbw:Below w.heap.size w w1:=hb.grown hg1 hb.size (fun j hj=>by cases hj;exact Nat.le_refl _)
   have hin:ycv w1 c u:=(yoF (hel _ hm)).below hbw
   have hul:=hvn _ hm
   have hrow1:w1.ownsRow (w.heap.size+1) 9 1 u5 ks.length (ks.map encStr):=hrow.kept hg1 (by
    cases hob:u5.ownBlock with
    |none=>exact .inl rfl
    |some g=>exact .inr (fun e=>by cases e;have:=(hrow.lt _ hob).1;omega))
   have hst:=yiq t.data.toList x.data.toList u c left hlx ZV hnd hm
   have HS:Hid ((ybf ZV t.data.toList fun z=>left z&& !z.sameKey (.string x.data.toList)).Perm (if t.data.toList∈u then x.data.toList::ybf ZV t.data.toList left else ybf ZV t.data.toList left)):=hst
   have hm0:wr.rangeLeft vb w.heap.size=cnt:=hrg.left_eq
   obtain ⟨q,hq⟩:∃q,decide (t.data.toList∈u)=q:=⟨_,rfl⟩
   have HI:Hid (ycv w1 c u):=hin
   have HQ:Hid (decide (t.data.toList∈u)=q):=hq
   have hcall:=yqI c u t w1 hin hul
   rw[hq] at hcall
   have hvb:=hv.lt
   have HR:Hid (∀g,u5.ownBlock=some g->w.heap.size+1<=g):=fun g h=>(hrow1.lt g h).1
   have HN:w.heap.size+1<=w1.heap.size:=by omega
   have H1:Hid (w1.heap.size=wr.heap.size):=hs1
   clear hs1
   clear hst hR hat hel hvn hrow hrg hin hu hm hq hv hlen hnd
   go_wp2_with (first
    |(go_at_call 35;refine hcall.mono ?_;rintro e w2 ⟨rfl,rfl⟩)
    |(at_builtin;refine wpList_append_own _ rfl _ _ 31 rfl (w.heap.size+1) 9 i0 (.string ⟨#[]⟩) 1 16 Try.underlying31 hi hz0 hz1 hz2 rfl (by decide) _ _ _ rfl (hrow1.alloc _) ⟨w2.heap.size,0,none⟩ 1 1 [.string x] rfl rfl (cell_one_new _ _ _) (fun u hu=>by rw[List.mem_singleton.1 hu];rfl) (by unfold maxLen;omega) (by omega) (by simp;omega) ?_;intro v' w3 hown' hgrow2 hnil2)
    |go_in)
   ·have hqt:q=true:=by assumption
    have hp:=HS.out
    rw[if_pos (by have:=HQ.out;rw[hqt] at this;simpa using this)] at hp
    have n1:some vb≠u5.ownBlock:=fun e=>by have:=HR.out vb e.symm;omega
    have n2:some w.heap.size≠u5.ownBlock:=fun e=>by have:=HR.out _ e.symm;omega
    have hrg3:=(hrg1.alloc (.cells #[.string x] 9)).kept hgrow2 n1 n2
    refine ⟨⟨_,cnt1,ks++ [x.data.toList],hrg3,?_,(List.perm_append_comm.trans ((List.Perm.cons _ HP.out).trans hp.symm)),?_,?_⟩,by rw[hrg3.left_eq,hm0];exact hlt⟩
    ·rw[List.length_append,List.map_append]
     have:=yf8 x
     rw[this] at hown'
     exact hown'
    ·have:=hgrow2.size
     rw[ybs] at this
     omega
    ·exact (hbw.alloc hbw.size _).grown hgrow2 (by rw[ybs];omega) (fun j hj=>Nat.le_of_succ_le (HR.out j hj))
   ·have hqf:q=false:=by assumption
    have hp:=HS.out
    rw[if_neg (by have:=HQ.out;rw[hqf] at this;simpa using this)] at hp
    exact ⟨⟨_,cnt1,ks,hrg1,hrow1,HP.out.trans hp.symm,HN,hbw⟩,by rw[hrg1.left_eq,hm0];exact hlt⟩
end Go.Proofs.Ytpplhhknlmcgbaa
end
noncomputable section
namespace Go.Proofs.Ytpplhhknlmcgbaa
open Go.RowKit Go.Maps Go.WideMaps Go.RG Go.AV Go.Sort Go.Shelf
theorem yra (w:World):Calls Try.prog 6 #[] w fun e w'=>e= .returned (.pointer (some ⟨w.heap.size+2,0,none⟩))∧w'=((w.alloc (.map #[] 0)).alloc (.map #[] 0)).alloc (.cells #[.map (some w.heap.size), .map (some (w.heap.size+1))] 68 (0,0)):=by
 have hmm:= @run_makeMap Try.prog
 go_enter Try.func6,Try.ntmps6
 go_wp2
 go_ret
 exact ⟨rfl,rfl⟩
def yhD {α:Type} (ZT:MZ α) (ZV:MZ (List (List UInt8))) (n:List UInt8):Int:=
 if (gAt ZT n).isSome=false then 6 else if 0<(ybf ZV n fun _=>false).length then 15 else 0
set_option maxHeartbeats 2000000 in
set_option maxRecDepth 100000 in
theorem yoI {α:Type} (sb tb vb nt nv:Nat) (ZT:MZ α) (ZV:MZ (List (List UInt8))) (name:ByteArray) (w:World) (c0:w.cell? ⟨sb,0,none⟩=some (.map (some tb))) (c1:w.cell? ⟨sb,1,none⟩=some (.map (some vb))) (ht:w.ownsMap Try.prog 9 ybo tb nt (mzD ZT)) (hv:w.ownsMap Try.prog 9 ybo vb nv (mzD ZV)) (hsz:name.size≤maxLen) (hT:yi9 ZT)
  (hel:∀z∈ZV,cvwV w z.1 z.2.1 z.2.2) (hlen:ZV.length<=8) (hvn:∀z∈ZV,z.2.1.length<=1000000) (hnd:(ZV.map (·.1)).Nodup) (hwo:∀z∈ZV,∀x∈ybp z.2.2,x<w.heap.size) (hne:sb≠tb):
  Calls Try.prog 7 #[.pointer (some ⟨sb,0,none⟩), .string name] w fun e w'=>e= .returned (.int .i64 (yhD ZT ZV name.data.toList))∧((¬yhD ZT ZV name.data.toList=0∧Below w.heap.size w w')∨
   (yhD ZT ZV name.data.toList=0/\∃w1,Below w.heap.size w w1/\w1.mapTurned w' tb/\w'.ownsMap Try.prog 9 ybo tb nt (mzD (gDel ZT name.data.toList)))):=by
 have hk:=keyOf_string_mk Try.underlying9 hsz
 obtain ⟨s0,a,m,c,k0,hsh⟩:=hT name.data.toList
 have hbs:sb<w.heap.size:=World.block_lt_of_cell? w _ c0
 have HD:Hid ((mzD ZT).del (.string name.data.toList)=mzD (gDel ZT name.data.toList)):=ylz
 have d0:∀o,(w.alloc o).cell? ⟨sb,0,none⟩=some (.map (some tb)):=fun o=>Lib.cell?_alloc_some _ c0
 obtain ⟨q,hq⟩:∃q,(gAt ZT name.data.toList).isSome=q:=⟨_,rfl⟩
 have hus:∀o,Calls Try.prog 19 #[.pointer (some ⟨sb,0,none⟩), .string name] (w.alloc o) fun e w'=>(∃(a:Option Addr) (cap:Nat),e= .returned (.slice a (ybf ZV name.data.toList fun _=>false).length cap))∧Below w.heap.size w w':=fun o=>by
  refine (yiK sb vb nv ZV name (w.alloc o) (Lib.cell?_alloc_some _ c1) (hv.alloc o) (fun z hz=>yaN (hel z hz) fun x hx=>ydL _ _ (hwo z hz x hx)) hlen hvn hnd).mono ?_
  rintro e w' ⟨v,ks,rfl,hp,hrow,hb⟩
  refine ⟨?_,((Below.refl _ w).alloc (Nat.le_refl _) o).trans (hb.mono (by rw[ybs];omega))⟩
  rw[<-hp.length_eq]
  rcases hrow.2 with ⟨rfl,h0⟩|⟨g,cap,cur,rfl,_⟩
  ·rw[h0];exact ⟨_,_,rfl⟩
  ·exact ⟨_,_,rfl⟩
 have HU:Hid (∀o,Calls Try.prog 19 #[.pointer (some ⟨sb,0,none⟩), .string name] (w.alloc o) fun e w'=>(∃(a:Option Addr) (cap:Nat),e= .returned (.slice a (ybf ZV name.data.toList fun _=>false).length cap))/\Below w.heap.size w w'):=hus
 have HE:Hid (yhD ZT ZV name.data.toList=if q=false then 6 else if 0<(ybf ZV name.data.toList fun _=>false).length then 15 else 0):=by
  show yhD ZT ZV name.data.toList=_
  unfold yhD;rw[hq]
 clear hus hel hvn hnd hT hwo
 generalize yhD ZT ZV name.data.toList=DE at*
 generalize (ybf ZV name.data.toList fun _=>false).length=UN at*
 go_enter Try.func7,Try.ntmps7
 go_wp2_with (first
  |(at_lookup;refine ya8 _ rfl _ _ 65 rfl 9 47 keyS Try.underlying65 (ygl _) tb nt ZT rfl (by first|exact ht|exact ht.alloc _) name rfl hk _ _ hsh hq ?_)
  |(go_at_call 19;refine (HU.out _).mono ?_;rintro e w2 ⟨⟨ua,uc,rfl⟩,hb2⟩;have hm2:=yaS ht (hb2.block tb ht.lt);have d2:=(hb2.cell hbs).trans c0)
  |(at_delete;refine wpList_delete_own _ rfl _ _ 65 9 rfl 47 keyS Try.underlying65 _ tb nt _ rfl hm2 _ _ rfl hk ?_;intro w3 hown3 hturn3)
  |go_in)
 ·have z:(!q)=true:=by assumption
  have e:=HE.out
  rw[if_pos (by simpa using z)] at e
  go_ret
  exact ⟨by rw[e];rfl, .inl ⟨by omega,(Below.refl _ w).alloc (Nat.le_refl _) _⟩⟩
 ·have z:(!q)=false:=by assumption
  have z2:0<UN:=by assumption
  have e:=HE.out
  rw[if_neg (by simp at z;simp[z]),if_pos z2] at e
  go_ret
  exact ⟨by rw[e];rfl, .inl ⟨by omega,hb2⟩⟩
 ·have z:(!q)=false:=by assumption
  have z2:¬0<UN:=by assumption
  have e:=HE.out
  rw[if_neg (by simp at z;simp[z]),if_neg z2] at e
  go_ret
  exact ⟨by rw[e];rfl, .inr ⟨e,_,hb2,hturn3,HD.out▸hown3⟩⟩
end Go.Proofs.Ytpplhhknlmcgbaa
end
noncomputable section
namespace Go.Proofs.Ytpplhhknlmcgbaa
open Go.RowKit Go.Maps Go.WideMaps Go.RG Go.AV Go.Sort Go.Shelf
set_option maxHeartbeats 1000000 in
attribute [local go_sem ↓] Go.wp_at_zero Go.wp_at_succ
end Go.Proofs.Ytpplhhknlmcgbaa
end
noncomputable section
namespace Go.AV
open Go.RowKit Go.RG Go.Proofs Go.Maps Go.Sort
section
variable {H α β:Type}
theorem yko {p:List UInt8×α}:∀ {L:GL α},GS L→(∀q∈L,q.1≠p.1)→GS (gIns p L)
 | [],_,_=>List.pairwise_singleton _ _
 | r ::L,h,hn=>by
   obtain ⟨h1,h2⟩:=List.pairwise_cons.1 h
   unfold gIns
   cases hb:Op.bytesLess p.1 r.1 with
   |true=>exact List.pairwise_cons.2 ⟨fun q hq=>by
      rcases List.mem_cons.1 hq with rfl|hq
      ·exact hb
      ·exact ye4 _ _ _ hb (h1 q hq),h⟩
   | false=>
     refine List.pairwise_cons.2 ⟨fun q hq=> ?_,yko h2 fun q hq=>hn q (List.mem_cons_of_mem _ hq)⟩
     rcases yhO.1 hq with rfl|hq
     ·rcases yfL r.1 q.1 with k|k|k
      ·exact k
      ·exact absurd k (hn r List.mem_cons_self)
      ·rw[hb] at k;cases k
     ·exact h1 q hq
theorem yhy {L:GL α} {n:List UInt8} {a:α} (h:GS L):GS (gPut L n a):=yko (yhh h) fun q hq=>(yd5.1 hq).2
theorem yrO {L:GL α} (h:GS L):(L.map (·.1)).Nodup:=by
 rw[List.Nodup,List.pairwise_map]
 refine h.imp fun {a b} hab e=> ?_
 rw[e,yeS] at hab;cases hab
theorem yoj {l ss:List (List UInt8)} (h:l.Pairwise fun a b=>Op.bytesLess a b=true) (hp:ss.Perm l):(ss.mergeSort fun x y=>decide (x≤y))=l:=by
 have tot:∀a b:List UInt8,decide (a≤b)= !Op.bytesLess b a:=fun a b=>by
  rw[bytesLess_eq]
  by_cases q:b<a
  ·simp[q]
  ·simp[q];first|exact q|exact List.not_lt.1 q
 have s1:(ss.mergeSort fun x y=>decide (x≤y)).Pairwise (fun a b=>decide (a≤b)=true):=List.pairwise_mergeSort (le:=fun x y:List UInt8=>decide (x≤y)) (fun a b c h1 h2=>by
   rw[tot] at*
   cases hq:Op.bytesLess c a with
   |false=>rfl
   | true=>
     rcases yfL a b with k|k|k
     ·have:=ye4 _ _ _ hq k
      rw[this] at h2;cases h2
     ·subst k;rw[hq] at h2;cases h2
     ·rw[k] at h1;cases h1) (fun a b=>by
   rw[tot,tot]
   cases h1:Op.bytesLess b a with
   |false=>rfl
   | true=>
     cases h2:Op.bytesLess a b with
     |false=>rfl
     |true=>have:=ye4 _ _ _ h1 h2;rw[yeS] at this;cases this) ss
 refine (List.mergeSort_perm ss _|>.trans hp).eq_of_pairwise (le:=fun a b=>decide (a<=b)=true) ?_ s1 (h.imp fun {a b} q=> ?_)
 ·intro a b _ _ h1 h2
  rw[tot] at h1 h2
  rcases yfL a b with k|k|k
  ·rw[k] at h2;cases h2
  ·exact k
  ·rw[k] at h1;cases h1
 ·rw[tot]
  cases h2:Op.bytesLess b a with
  |false=>rfl
  |true=>have:=ye4 _ _ _ q h2;rw[yeS] at this;cases this
end
end Go.AV
end
noncomputable section
namespace Go.AV
open Go.RowKit Go.RG Go.Proofs Go.Maps Go.Sort Go.Proofs.Ytpplhhknlmcgbaa
def kWh (T:CTb) (V:CVw):List AV:= [ctbA T,cvwA V]
theorem ypA:∀ {c d:List Cl},c.flatMap clA=d.flatMap clA→c=d
 | [],[],_=>rfl
 | [],_::_,h=>by simp[clA] at h
 |_::_,[],h=>by simp[clA] at h
 | p::c,q::d,h=>by
   simp only[List.flatMap_cons,clA,List.cons_append,List.nil_append,List.cons.injEq,AV.st.injEq,AV.it.injEq,AV.bl.injEq,true_and] at h
   obtain ⟨h1,h2,h3,h4⟩:=h
   have e:c=d:=ypA h4
   rw[e,Prod.ext h1 (Prod.ext h2 h3)]
theorem yoV:∀ {c d:List (List UInt8)},(c.flatMap fun s=> [AV.st s])=(d.flatMap fun s=> [AV.st s])→c=d
 | [],[],_=>rfl
 | [],_::_,h=>by simp at h
 |_::_,[],h=>by simp at h
 | p::c,q::d,h=>by
   simp only[List.flatMap_cons,List.cons_append,List.nil_append,List.cons.injEq,AV.st.injEq] at h
   rw[yoV h.2,h.1]
theorem ym9:∀ {T T':CTb},(T.flatMap fun t=> [AV.st t.1, .sl false t.2.1.length (t.2.1.flatMap clA), .it .i64 t.2.2])=(T'.flatMap fun t=> [AV.st t.1, .sl false t.2.1.length (t.2.1.flatMap clA), .it .i64 t.2.2])→T=T'
 | [],[],_=>rfl
 | [],_::_,h=>by simp at h
 |_::_,[],h=>by simp at h
 | p::T,q::T',h=>by
   simp only[List.flatMap_cons,List.cons_append,List.nil_append,List.cons.injEq,AV.st.injEq,AV.sl.injEq,AV.it.injEq,true_and] at h
   obtain ⟨h1,h2,h3,h4⟩:=h
   rw[ym9 h4,Prod.ext h1 (Prod.ext (ypA h2.2) h3)]
theorem ym6:∀ {V V':CVw},(V.flatMap fun v=> [AV.st v.1, .sl false v.2.length (v.2.flatMap fun s=> [.st s])])=(V'.flatMap fun v=> [AV.st v.1, .sl false v.2.length (v.2.flatMap fun s=> [.st s])])→V=V'
 | [],[],_=>rfl
 | [],_::_,h=>by simp at h
 |_::_,[],h=>by simp at h
 | p::T,q::T',h=>by
   simp only[List.flatMap_cons,List.cons_append,List.nil_append,List.cons.injEq,AV.st.injEq,AV.sl.injEq,true_and] at h
   obtain ⟨h1,h2,h3⟩:=h
   rw[ym6 h3,Prod.ext h1 (yoV h2.2)]
theorem yo5:∀c:List Cl,dwks (c.flatMap clA)=c.flatMap clA
 | []=>rfl
 |n::l=>by simp only[List.flatMap_cons,clA,List.cons_append,List.nil_append,dwks,dwk];rw[yo5 l]
theorem yrx:∀c:List (List UInt8),dwks (c.flatMap fun s=> [AV.st s])=c.flatMap fun s=> [AV.st s]
 | []=>rfl
 |n::l=>by simp only[List.flatMap_cons,List.cons_append,List.nil_append,dwks,dwk,yrx l]
theorem ypc:∀T:CTb,dwks (T.flatMap fun t=> [AV.st t.1, .sl false t.2.1.length (t.2.1.flatMap clA), .it .i64 t.2.2])=T.flatMap fun t=> [AV.st t.1, .sl false t.2.1.length (t.2.1.flatMap clA), .it .i64 t.2.2]
 | []=>rfl
 |n::l=>by simp only[List.flatMap_cons,List.cons_append,List.nil_append,dwks,dwk,ypc l,yo5]
theorem yo1:∀V:CVw,dwks (V.flatMap fun v=> [AV.st v.1, .sl false v.2.length (v.2.flatMap fun s=> [.st s])])=V.flatMap fun v=> [AV.st v.1, .sl false v.2.length (v.2.flatMap fun s=> [.st s])]
 | []=>rfl
 |n::l=>by simp only[List.flatMap_cons,List.cons_append,List.nil_append,dwks,dwk,yo1 l,yrx]
theorem ypg (T:CTb) (V:CVw):dwks (kWh T V)=kWh T V:=by simp only[kWh,ctbA,cvwA,dwks,dwk,ypc,yo1]
theorem yma:∀c:List Cl,noLs (c.flatMap clA)=true
 | []=>rfl
 |n::l=>by simp only[List.flatMap_cons,clA,List.cons_append,List.nil_append,noLs,AV.noL,Bool.true_and];exact yma l
theorem ypQ:∀c:List (List UInt8),noLs (c.flatMap fun s=> [AV.st s])=true
 | []=>rfl
 |n::l=>by simp only[List.flatMap_cons,List.cons_append,List.nil_append,noLs,AV.noL,ypQ l,Bool.and_true]
theorem ypi:∀T:CTb,noLs (T.flatMap fun t=> [AV.st t.1, .sl false t.2.1.length (t.2.1.flatMap clA), .it .i64 t.2.2])=true
 | []=>rfl
 |n::l=>by simp only[List.flatMap_cons,List.cons_append,List.nil_append,noLs,AV.noL,ypi l,yma,Bool.and_true]
theorem ypw:∀V:CVw,noLs (V.flatMap fun v=> [AV.st v.1, .sl false v.2.length (v.2.flatMap fun s=> [.st s])])=true
 | []=>rfl
 |n::l=>by simp only[List.flatMap_cons,List.cons_append,List.nil_append,noLs,AV.noL,ypw l,ypQ,Bool.and_true]
theorem yfB (T:CTb) (V:CVw):noLs (kWh T V)=true:=by simp only[kWh,ctbA,cvwA,noLs,AV.noL,ypi,ypw,Bool.and_true]
theorem ydi {T:CTb} {V:CVw} {w:World} {b:Nat} {F:Nat→Prop} (h:opqR 1000002 (dwks (kWh T V)) w b F):CatR w b F T V:=by
 rw[ypg] at h
 obtain ⟨_,T',V',hu,hr⟩:=h
 simp only[kWh,ctbA,cvwA,List.cons.injEq,AV.sl.injEq,and_true,true_and] at hu
 obtain ⟨⟨_,e1⟩,_,e2⟩:=hu
 rw[ym9 e1,ym6 e2];exact hr
theorem yi8 {T:CTb} {V:CVw} {w:World} {b:Nat} {F:Nat→Prop} (h:CatR w b F T V):opqR 1000002 (dwks (kWh T V)) w b F:=by
 rw[ypg];exact ⟨rfl,T,V,rfl,h⟩
theorem ybv {w:World} {base t s n:Nat} {v:Value} {xs:List Value} (h:w.ownsRow base t s v n xs):∀x∈ybp v,base≤x∧∃cs ty,w.heap[x]? =some (.cells cs ty (0,0)):=fun x hx=>by
 rcases h.2 with ⟨rfl,_⟩|⟨g,cap,cur,rfl,h1,h2,_⟩
 ·cases hx
 ·simp only[ybp,List.mem_singleton] at hx
  subst hx
  exact ⟨h1,_,_,h2⟩
theorem ymS {w:World} {n:List UInt8} {t:List Cl×Int} {v:Value} (h:yk9 w n t v):∀x∈ycj v,∃cs ty,w.heap[x]? =some (.cells cs ty (0,0)):=fun x hx=>by
 obtain ⟨s,rfl,h2⟩:=h
 exact (ybv h2 x (by simpa [ycj] using hx)).2
theorem CatP.blk {w:World} {g tb vb nt nv:Nat} {ZT:MZ (List Cl×Int)} {ZV:MZ (List (List UInt8))} (h:CatP w g tb vb nt nv ZT ZV):∀x∈catB g tb vb ZT ZV,x<w.heap.size∧∀ds,w.heap[x]?≠some (.deferred ds):=by
 have hc:∀x:Nat,(∃o,w.heap[x]? =some o/\∀ds,o≠ .deferred ds)->x<w.heap.size/\∀ds,w.heap[x]?≠some (.deferred ds):=fun x ⟨o,h1,h2⟩=>⟨(Array.getElem?_eq_some_iff.1 h1).1,fun ds q=>by rw[h1] at q;exact h2 ds (Option.some.inj q)⟩
 intro x hx
 simp only[catB,List.mem_cons,List.mem_append,List.mem_flatMap] at hx
 rcases hx with rfl|rfl|rfl|⟨z,hz,hx⟩|⟨z,hz,hx⟩
 ·exact hc _ ⟨_,h.hd,fun ds q=>by cases q⟩
 ·obtain ⟨es,c,q,_⟩:=h.tm.own;exact hc _ ⟨_,q,fun ds q=>by cases q⟩
 ·obtain ⟨es,c,q,_⟩:=h.vm.own;exact hc _ ⟨_,q,fun ds q=>by cases q⟩
 ·obtain ⟨cs,ty,q⟩:=ymS (h.tm.el z hz) x hx;exact hc _ ⟨_,q,fun ds q=>by cases q⟩
 ·obtain ⟨_,cs,ty,q⟩:=ybv (h.vm.el z hz) x hx;exact hc _ ⟨_,q,fun ds q=>by cases q⟩
theorem ycm {T:CTb} {V:CVw} {av:AV} {w w':World} {b:Nat} {F:Nat→Prop} {v:Value} {J:Nat→Prop} (h:CatR w b F T V) (hbl:Below w.heap.size w w') (hJ:∀x,J x→w.heap.size≤x∧x<w'.heap.size∧∀ds,w'.heap[x]?≠some (.deferred ds)) (hv:∀G':Gh,G'.w=w'→(∀x,J x→G'.I x)→VR G' av v):ykc 1000002 (kWh T V) av w b F v w' F J:=by
 obtain ⟨hok,tb,vb,nt,nv,ZT,ZV,h1,h2,h3,h4⟩:=h
 have hs:∀x,x<w.heap.size->w'.heap[x]? =w.heap[x]? :=fun x hx=>hbl.block x hx
 have hF:∀x,F x->x∈catB b tb vb ZT ZV:=fun x hx=>List.mem_of_mem_tail ((h4 x).1 hx)
 have hnd:=h1.nd
 have hne:∀x,F x→x≠b:=fun x hx e=>by
  subst e
  unfold catB at hnd
  rw[List.nodup_cons] at hnd
  exact hnd.1 ((h4 x).1 hx)
 refine ⟨hv,yi8 ⟨hok,tb,vb,nt,nv,ZT,ZV,h1.same fun x hx=>hs x (h1.blk x hx).1,h2,h3,h4⟩,fun x hx=>⟨hne x hx,Nat.lt_of_lt_of_le (h1.blk x (hF x hx)).1 hbl.size, .inl hx⟩,fun x hx ds=>by rw[hs x (h1.blk x (hF x hx)).1];exact (h1.blk x (hF x hx)).2 ds,⟨_,(hs b (h1.blk b (by simp[catB])).1).trans h1.hd,fun ds q=>by cases q⟩,fun x hx=> ?_,fun x hx _ _=>hs x hx,hbl.size,hbl.os,hbl.tape,hbl.output⟩
 obtain ⟨j1,j2,j3⟩:=hJ x hx
 exact ⟨j1,j2,fun q=>by have:=(h1.blk x (hF x q)).1;omega,j3⟩
end Go.AV
end
noncomputable section
namespace Go.AV
open Go.RowKit Go.RG Go.Proofs Go.Maps Go.Sort Go.Proofs.Ytpplhhknlmcgbaa
theorem vs1 {G:Gh} {u:AV} {vs:List Value} (h:VRs G [u] vs):∃x,vs= [x]∧VR G u x:=by
 obtain ⟨h1,h2⟩:=h
 match vs,h1 with
 | [x],_=>exact ⟨x,rfl,h2 0 u x rfl rfl⟩
theorem vs2 {G:Gh} {u v:AV} {vs:List Value} (h:VRs G [u,v] vs):∃x y,vs= [x,y]∧VR G u x∧VR G v y:=by
 obtain ⟨h1,h2⟩:=h
 match vs,h1 with
 | [x,y],_=>exact ⟨x,y,rfl,h2 0 u x rfl rfl,h2 1 v y rfl rfl⟩
theorem vrSt {G:Gh} {l:List UInt8} {v:Value} (h:VR G (.st l) v):∃s:ByteArray,v= .string s∧s.data.toList=l:=by
 cases h with
 |st l s h=>exact ⟨s,rfl,h⟩
theorem bsz {s:ByteArray} {l:List UInt8} (h:s.data.toList=l) (hl:l.length≤9223372036854775807):s.size≤maxLen:=by
 have:s.size=l.length:=by rw[<-h];rfl
 rw[this];exact hl
theorem vrB {G:Gh} {l:List UInt8} {v:Value} (h:VR G (.st l) v):v=bStr l:=by
 obtain ⟨s,rfl,rfl⟩:=vrSt h
 exact yf8 s
theorem yjl:∀(cs:List Cl) (k i:Nat) (c:Cl),cs[k]? =some c→i<3→(cs.flatMap clA)[k*3+i]? =(clA c)[i]?
 | [],k,i,c,h,_=>by simp at h
 | d::cs,0,i,c,h,hi=>by
   cases h
   rw[List.flatMap_cons,List.getElem?_append_left (by simpa [clA] using hi)]
   simp
 | d::cs,k+1,i,c,h,hi=>by
   rw[List.flatMap_cons,List.getElem?_append_right (by simp[clA];omega)]
   have:=yjl cs k i c (by simpa using h) hi
   rw[<-this]
   congr 1
   simp[clA];omega
theorem yp8 {G:Gh} {cs:List Cl} {v:Value} (h:VR G (.sl false cs.length (cs.flatMap clA)) v):ycR G.w v cs:=by
 cases hcs:cs with
 | nil=>
   subst hcs
   cases h with
   |nsl=>exact .inl ⟨rfl,_,_,rfl⟩
   |sl _ _ b off cap f hI hc hv h1 hn hm hq=>exact .inl ⟨rfl,_,_,rfl⟩
   |esl=>exact .inl ⟨rfl,_,_,rfl⟩
 | cons d r=>
   have h0:0<cs.length:=by rw[hcs];simp
   rw[<-hcs]
   generalize hn':cs.length=n at h
   cases h with
   |nsl _ _ _ e=>omega
   |esl _ _ e=>omega
   | sl _ _ b off cap f hI hc hv h1 hn hm hq=>
     have key:∀k c,cs[k]? =some c→∀i u,i<3→(clA c)[i]? =some u→G.w.cell? ⟨b,off+(k*3+i),none⟩=some (f (k*3+i))∧VR G u (f (k*3+i)):=fun k c hk i u hi hu=>by
      have e:(cs.flatMap clA)[k*3+i]? =some u:=(yjl cs k i c hk hi).trans hu
      exact ⟨hc _ _ e,hv _ _ e⟩
     refine .inr ⟨b,off,cap,by rw[hn'],?_,?_,?_,?_⟩
     ·intro k c hk
      obtain ⟨a1,a2⟩:=key k c hk 0 _ (by decide) rfl
      rw[show off+k*3=off+(k*3+0) from rfl,a1,vrB a2]
     ·intro k c hk
      obtain ⟨a1,a2⟩:=key k c hk 1 _ (by decide) rfl
      rw[Nat.add_assoc,a1]
      cases hf:f (k*3+1) with
      |int q x=>rw[hf] at a2;cases a2;rfl
      |_=>rw[hf] at a2;cases a2
     ·intro k c hk
      obtain ⟨a1,a2⟩:=key k c hk 2 _ (by decide) rfl
      rw[Nat.add_assoc,a1]
      cases hf:f (k*3+2) with
      |bool x=>rw[hf] at a2;cases a2;rfl
      |_=>rw[hf] at a2;cases a2
     ·obtain ⟨a1,_⟩:=key 0 d (by rw[hcs];rfl) 0 _ (by decide) rfl
      exact World.block_lt_of_cell? G.w _ a1
theorem ykB:∀c:List (List UInt8),(c.flatMap fun s=> [AV.st s])=c.map AV.st
 | []=>rfl
 |n::l=>by simp only[List.flatMap_cons,List.map_cons,List.cons_append,List.nil_append,ykB l]
end Go.AV
end
noncomputable section
namespace Go.AV
open Go.RowKit Go.RG Go.Proofs Go.Maps Go.Sort Go.Proofs.Ytpplhhknlmcgbaa
theorem yjQ {w:World} {base t sz:Nat} {v:Value} {n:Nat} {us:List AV} {xs:List Value} (h:w.ownsRow base t sz v n xs) (hu:∀(G:Gh) (j:Nat) (u:AV) (x:Value),us[j]? =some u→xs[j]? =some x→VR G u x∧x.oneCell'=true) (hl:us.length=n*sz) (hq:noLs us=true):
  ∃J:Nat->Prop,(∀x,J x->x∈ybp v/\base<=x/\x<w.heap.size/\∀ds,w.heap[x]?≠some (.deferred ds))/\∀G':Gh,G'.w=w->(∀x,J x->G'.I x)->VR G' (.sl false n us) v:=by
 obtain ⟨h0,h⟩:=h
 rcases h with ⟨rfl,rfl⟩|⟨g,cap,cur,rfl,hg,hh,hn,hm,hc,ht⟩
 ·exact ⟨fun _=>False,fun x hx=>hx.elim,fun G' _ _=> .nsl _ _ _ rfl (List.eq_nil_of_length_eq_zero (by omega))⟩
 ·refine ⟨fun x=>x=g,fun x hx=> ?_,fun G' hw hJ=> ?_⟩
  ·subst hx
   exact ⟨by simp[ybp],hg,(Array.getElem?_eq_some_iff.1 hh).1,fun ds q=>by rw[hh] at q;cases q⟩
  ·have cell:∀(j:Nat) (u:AV),us[j]? =some u→∃x,xs[j]? =some x∧cur[j]? =some x:=fun j u q=>by
    have hj:j<n*sz:=by rw[<-hl];exact (List.getElem?_eq_some_iff.1 q).1
    have hj':j<xs.length:=by rw[h0];exact hj
    refine ⟨xs[j],List.getElem?_eq_getElem hj',?_⟩
    have:(cur.toList.take (n*sz))[j]? =some xs[j]:=by rw[ht];exact List.getElem?_eq_getElem hj'
    rw[List.getElem?_take_of_lt hj] at this
    simpa using this
   refine .sl n us g 0 cap (fun j=>(cur[j]?).getD undef) (hJ g rfl) (fun j u q=> ?_) (fun j u q=> ?_) (fun j u q=> ?_) hn (Nat.le_trans hn hm) hq
   ·obtain ⟨x,a,b⟩:=cell j u q
    rw[hw]
    simp[World.cell?,hh,b]
   ·obtain ⟨x,a,b⟩:=cell j u q
    rw[b];exact (hu G' j u x q a).1
   ·obtain ⟨x,a,b⟩:=cell j u q
    rw[b];exact (hu G' j u x q a).2
theorem ymi (G:Gh):∀(cs:List Cl) (j:Nat) (u:AV) (x:Value),(cs.flatMap clA)[j]? =some u→(cs.flatMap clV)[j]? =some x→VR G u x∧x.oneCell'=true
 | [],j,u,x,h,_=>by simp at h
 | c::cs,0,u,x,h,k=>by
   simp[clA] at h;simp[clV] at k
   subst h;subst k
   exact ⟨.st _ _ (by simp),rfl⟩
 | c::cs,1,u,x,h,k=>by
   simp[clA] at h;simp[clV] at k
   subst h;subst k
   exact ⟨.it _ _,rfl⟩
 | c::cs,2,u,x,h,k=>by
   simp[clA] at h;simp[clV] at k
   subst h;subst k
   exact ⟨.bl _,rfl⟩
 | c::cs,j+3,u,x,h,k=>by
   rw[List.flatMap_cons] at h k
   rw[List.getElem?_append_right (by simp[clA])] at h
   rw[List.getElem?_append_right (by simp[clV])] at k
   exact ymi G cs j u x (by simpa [clA] using h) (by simpa [clV] using k)
theorem yjt:∀cs:List Cl,(cs.flatMap clA).length=cs.length*3
 | []=>rfl
 |c::cs=>by rw[List.flatMap_cons,List.length_append,yjt cs,List.length_cons,show (clA c).length=3 from rfl];omega
theorem yly (G:Gh) (l:List UInt8):VR G (.st l) (bStr l):= .st _ _ (by simp)
theorem ytj (G:Gh) (us:List (List UInt8)) (j:Nat) (u:AV) (x:Value) (h:(us.flatMap fun s=> [AV.st s])[j]? =some u) (k:(us.map bStr)[j]? =some x):VR G u x∧x.oneCell'=true:=by
 rw[ykB,List.getElem?_map] at h
 rw[List.getElem?_map] at k
 obtain ⟨s,hs,rfl⟩:=Option.map_eq_some_iff.1 h
 rw[hs] at k
 cases k
 exact ⟨yly G s,rfl⟩
theorem ydC {w w':World} {b tb vb:Nat} {F:Nat→Prop} {T':CTb} {V':CVw} {ZT ZT':MZ (List Cl×Int)} {ZV ZV':MZ (List (List UInt8))} {nt nv nt' nv':Nat} {av:AV} {v:Value} (h0:CatP w b tb vb nt nv ZT ZV) (hF:∀x,F x↔x∈(catB b tb vb ZT ZV).tail) (h1:CatP w' b tb vb nt' nv' ZT' ZV') (ok:ysg T' V') (hT:T'=mzT ZT') (hV:V'=mzT ZV')
  (hz:∀x∈catB b tb vb ZT' ZV',x∈catB b tb vb ZT ZV∨w.heap.size<=x) (hs:∀x,x<w.heap.size->x∉catB b tb vb ZT ZV->w'.heap[x]? =w.heap[x]?) (h2:w.heap.size<=w'.heap.size) (h3:w'.os=w.os) (h4:w'.tape=w.tape) (h5:w'.output=w.output)
  (hv:∀G':Gh,G'.w=w'->VR G' av v):ykc 1000002 (kWh T' V') av w b F v w' (fun x=>x∈(catB b tb vb ZT' ZV').tail) (fun _=>False):=by
 have hnd:=h1.nd
 unfold catB at hnd
 rw[List.nodup_cons] at hnd
 have hb:b<w.heap.size:=(h0.blk b (by simp[catB])).1
 have hcons:∀x,x∈catB b tb vb ZT ZV↔x=b∨F x:=fun x=>by rw[hF];unfold catB;rw[List.mem_cons];rfl
 refine ⟨fun G' e _=>hv G' e,yi8 ⟨ok,tb,vb,nt',nv',ZT',ZV',h1,hT,hV,fun x=>Iff.rfl⟩,fun x hx=> ?_,fun x hx=>(h1.blk x (List.mem_of_mem_tail hx)).2,⟨_,h1.hd,fun ds q=>by cases q⟩,fun x hx=>hx.elim,fun x hx hb hf=>hs x hx fun q=>((hcons x).1 q).elim hb hf,h2,h3,h4,h5⟩
 have hxb:x≠b:=fun e=>by subst e;exact hnd.1 hx
 refine ⟨hxb,(h1.blk x (List.mem_of_mem_tail hx)).1,?_⟩
 rcases hz x (List.mem_of_mem_tail hx) with q|q
 ·exact .inl (((hcons x).1 q).resolve_left hxb)
 ·exact .inr q
end Go.AV
end
