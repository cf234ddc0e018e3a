/- General texts and own ones, joined: what the program computes, told of abstract states, and the laws of plain data. No condition. -/
import Derived.Test.YtpplhhknlmcgbaaMe
import Derived.Test.YtpplhhknlmcgbaaMa
import Derived.Test.YtpplhhknlmcgbaaRows
import Derived.KernelRfl
import Derived.Test.YtpplhhknlmcgbaaMc
noncomputable section
namespace Go.AV
open Go.RowKit Go.RG Go.Proofs Go.Maps Go.Sort Go.Proofs.Ytpplhhknlmcgbaa
theorem yht {P:Program} {f:FuncId} {fn:Func} {c:Code} {vs:Array Value} {w:World} {R:Ending→World→Prop} (hf:P.funcs[f]? =some fn) (hname:(fn.name== "runtime.NumGoroutine")=false) (hb:fn.body=some c) (hs:f<1000000) (h:Calls P f vs w R):XW P f vs w R:=by
 rw[XW_f hs]
 unfold yeh
 have h1:fn.name≠ "runtime.NumGoroutine" :=by simpa using hname
 have:(callFunc f vs).run P w= .ok (.enter f vs) w:=by simp[callFunc,hf,h1,hb,mark]
 rw[this]
 exact h
theorem ydP {w w':World} {b:Nat} (h:w.mapTurned w' b):w'.heap.size=w.heap.size∧w'.os=w.os∧w'.tape=w.tape∧w'.output=w.output∧∀x,x≠b→w'.heap[x]? =w.heap[x]? :=by
 obtain ⟨es,clock,es',clock',hb,rfl⟩:=h
 refine ⟨Array.size_setIfInBounds ..,rfl,rfl,rfl,fun x hx=> ?_⟩
 show (w.heap.setIfInBounds b _)[x]? =_
 simp[Array.getElem?_setIfInBounds,hx.symm]
theorem yih {α:Type} {p:List UInt8×α}:∀ {L:GL α},(gIns p L).Perm (p::L)
 | []=> .refl _
 | q::L=>by
   unfold gIns
   split
   ·exact .refl _
   ·exact (List.Perm.cons q yih).trans (List.Perm.swap p q L)
theorem yia {α:Type} {L:GL α} {n:List UInt8} {a:α}:(gPut L n a).Perm ((n,a)::gDel L n):=yih
def KEnd (us us':List AV) (av:AV) (H:Hp) (m:Nat) (av':AV) (S1:St):Prop:=av'=av/\S1={lSt (mem1 1000002 us) H m with M:=updK (lSt (mem1 1000002 us) H m).M (.l 2000000 1) (some ⟨1000002,0,us'⟩)}
theorem ygQ {α:Type} {Z:MZ α} {n:List UInt8}:gAt (mzT Z) n=(gAt Z n).map (·.1):=yqq (f:=fun z:α×Value=>z.1)
theorem yi6 {α:Type} {Z:MZ α} {n:List UInt8} {z:α×Value}:mzT (gPut Z n z)=gPut (mzT Z) n z.1:=yn9 (f:=fun z:α×Value=>z.1)
theorem ynF {α:Type} {Z:MZ α} {n:List UInt8}:mzT (gDel Z n)=gDel (mzT Z) n:=ykz (f:=fun z:α×Value=>z.1)
theorem ygZ {α:Type} {Z:MZ α} {n:List UInt8}:(gAt (mzT Z) n).isSome=(gAt Z n).isSome:=by rw[ygQ];cases gAt Z n<;>rfl
theorem ycp {α:Type} {Z:MZ α}:(mzT Z).length=Z.length:=List.length_map ..
theorem yrt {α:Type} {Z:MZ α} (h:GS (mzT Z)):GS Z:=by
 unfold GS mzT at h
 rw[List.pairwise_map] at h
 exact h
theorem yi1 {α:Type} {Z:MZ α} {n:List UInt8} {a:α} {v:Value} (h:(n,a,v)∈Z):(n,a)∈mzT Z:=List.mem_map_of_mem (f:=fun z:List UInt8×α×Value=>(z.1,z.2.1)) h
theorem CatP.tight {w:World} {g tb vb nt nv:Nat} {ZT:MZ (List Cl×Int)} {ZV:MZ (List (List UInt8))} (h:CatP w g tb vb nt nv ZT ZV):CatP w g tb vb ZT.length ZV.length ZT ZV:=
 ⟨h.hd,⟨by have:=yeO h.tm.own;rwa[show Maps.size (mzD ZT)=ZT.length from ycN] at this,h.tm.el⟩,⟨by have:=yeO h.vm.own;rwa[show Maps.size (mzD ZV)=ZV.length from ycN] at this,h.vm.el⟩,h.nd⟩
theorem ygA {w:World} {base t s n:Nat} {v:Value} {xs:List Value} (h:w.ownsRow base t s v n xs):∃(a:Option Addr) (m c:Nat),v= .slice a m c:=by
 rcases h.2 with ⟨rfl,_⟩|⟨g,cap,cur,rfl,_⟩
 ·exact ⟨_,_,_,rfl⟩
 ·exact ⟨_,_,_,rfl⟩
theorem CatP.tsh {w:World} {g tb vb nt nv:Nat} {ZT:MZ (List Cl×Int)} {ZV:MZ (List (List UInt8))} (h:CatP w g tb vb nt nv ZT ZV):yi9 ZT:=fun n=>by
 unfold mzV
 cases hq:gAt ZT n with
 |none=>exact ⟨_,_,_,_,_,rfl⟩
 | some a=>
   obtain ⟨s,e,hr⟩:=h.tm.el _ (yfO hq)
   obtain ⟨ad,m,c,rfl⟩:=ygA hr
   exact ⟨_,_,_,_,_,e⟩
theorem CatP.vsh {w:World} {g tb vb nt nv:Nat} {ZT:MZ (List Cl×Int)} {ZV:MZ (List (List UInt8))} (h:CatP w g tb vb nt nv ZT ZV):VwSh ZV:=fun n=>by
 unfold mzV
 cases hq:gAt ZV n with
 |none=>exact ⟨_,_,_,rfl⟩
 |some a=>exact ygA (h.vm.el _ (yfO hq))
theorem CatP.ne {w:World} {g tb vb nt nv:Nat} {ZT:MZ (List Cl×Int)} {ZV:MZ (List (List UInt8))} (h:CatP w g tb vb nt nv ZT ZV):g≠tb∧g≠vb∧tb≠vb:=by
 have:=h.nd
 unfold catB at this
 simp only[List.nodup_cons,List.mem_cons,not_or] at this
 exact ⟨this.1.1,this.1.2.1,this.2.1.1⟩
def mkE (T:CTb) (V:CVw) (n:List UInt8) (cs:List Cl):Int:=
 if ((gAt T n).isSome||(gAt V n).isSome)=true then 7 else if 8<=T.length then 14 else ycU cs
def mkT (T:CTb) (V:CVw) (n:List UInt8) (cs:List Cl):CTb:=if mkE T V n cs=0 then gPut T n (cs,((kSt cs cs.length).1:Int)) else T
theorem yj1 {ZT:MZ (List Cl×Int)} {ZV:MZ (List (List UInt8))} {n:List UInt8} {cs:List Cl}:yfp ZT ZV n cs=mkE (mzT ZT) (mzT ZV) n cs:=by
 unfold yfp mkE
 rw[ygZ,ygZ,ycp]
theorem ykU {T:CTb} {V:CVw} {n:List UInt8} {cs:List Cl} (h:mkE T V n cs=0):gAt T n=none∧gAt V n=none∧T.length<8∧ycU cs=0:=by
 unfold mkE at h
 split at h
 ·cases h
 ·rename_i h1
  split at h
  ·cases h
  ·rename_i h2
   simp at h1
   exact ⟨by cases hq:gAt T n with|none=>rfl|some a=>rw[hq] at h1;simp at h1,by cases hq:gAt V n with|none=>rfl|some a=>rw[hq] at h1;simp at h1,by omega,h⟩
theorem yhe {g tb vb:Nat} {ZT:MZ (List Cl×Int)} {ZV:MZ (List (List UInt8))} (h:(catB g tb vb ZT ZV).Nodup) {x:Nat} (hx:x∈(ZT.flatMap fun z=>ycj z.2.2)++ZV.flatMap fun z=>ybp z.2.2):x≠g∧x≠tb∧x≠vb:=by
 unfold catB at h
 rw[List.nodup_cons,List.nodup_cons,List.nodup_cons] at h
 obtain ⟨q1,q2,q3,_⟩:=h
 refine ⟨fun e=> ?_,fun e=> ?_,fun e=> ?_⟩
 ·subst e;exact q1 (List.mem_cons_of_mem _ (List.mem_cons_of_mem _ hx))
 ·subst e;exact q2 (List.mem_cons_of_mem _ hx)
 ·subst e;exact q3 hx
theorem yfb {g tb vb:Nat} {ZT:MZ (List Cl×Int)} {ZV:MZ (List (List UInt8))} {x:Nat} (hx:x∈(ZT.flatMap fun z=>ycj z.2.2)++ZV.flatMap fun z=>ybp z.2.2):x∈catB g tb vb ZT ZV:=by
 unfold catB
 exact List.mem_cons_of_mem _ (List.mem_cons_of_mem _ (List.mem_cons_of_mem _ hx))
theorem CatP.addT {w w':World} {g tb vb nt nv nt':Nat} {ZT:MZ (List Cl×Int)} {ZV:MZ (List (List UInt8))} (h:CatP w g tb vb nt nv ZT ZV) {n:List UInt8} {z:(List Cl×Int)×Value} (hs:∀x,x<w.heap.size→x≠tb→w'.heap[x]? =w.heap[x]?) (hown:w'.ownsMap Try.prog 9 ybo tb nt' (mzD (gPut ZT n z))) (hno:gAt ZT n=none)
  (hz:yk9 w' n z.1 z.2) (hf:∀x∈ycj z.2,w.heap.size<=x) (hnd:(ycj z.2).Nodup):CatP w' g tb vb nt' nv (gPut ZT n z) ZV/\∀x∈catB g tb vb (gPut ZT n z) ZV,x∈catB g tb vb ZT ZV∨w.heap.size<=x:=by
 have hlt:∀x∈catB g tb vb ZT ZV,x<w.heap.size:=fun x hx=>(h.blk x hx).1
 have hne:=h.ne
 have hin:∀x,x∈((ZT.flatMap fun z=>ycj z.2.2)++ZV.flatMap fun z=>ybp z.2.2)->w'.heap[x]? =w.heap[x]? :=fun x hx=>hs x (hlt x (yfb hx)) (yhe h.nd hx).2.1
 have hpz:(gPut ZT n z).Perm ((n,z)::ZT):=by
  have:=yia (L:=ZT) (n:=n) (a:=z)
  rwa[yjL (yfT hno)] at this
 have hpf:((gPut ZT n z).flatMap fun z=>ycj z.2.2).Perm (ycj z.2++ZT.flatMap fun z=>ycj z.2.2):=by
  have:=hpz.flatMap_right (fun z:List UInt8×(List Cl×Int)×Value=>ycj z.2.2)
  simpa using this
 have hmem:∀x,x∈catB g tb vb (gPut ZT n z) ZV↔x∈ycj z.2∨x∈catB g tb vb ZT ZV:=fun x=>by
  unfold catB
  simp only[List.mem_cons,List.mem_append,hpf.mem_iff]
  constructor
  ·rintro (q|q|q|(q|q)|q)<;>simp[q]
  ·rintro (q|q|q|q|q|q)<;>simp[q]
 refine ⟨⟨(hs g (hlt g (by simp[catB])) hne.1).trans h.hd,⟨hown,fun q hq=> ?_⟩,⟨yaS h.vm.own (hs vb (hlt vb (by simp[catB])) (fun e=>hne.2.2 e.symm)),fun q hq=>yaN (h.vm.el q hq) fun x hx=>hin x (List.mem_append_right _ (List.mem_flatMap.2 ⟨q,hq,hx⟩))⟩,?_⟩,fun x hx=>((hmem x).1 hx).elim (fun q=> .inr (hf x q)) .inl⟩
 ·rcases yeR.1 hq with rfl|⟨hq,_⟩
  ·exact hz
  ·exact yc2 (h.tm.el q hq) fun x hx=>hin x (List.mem_append_left _ (List.mem_flatMap.2 ⟨q,hq,hx⟩))
 ·have hp:(catB g tb vb (gPut ZT n z) ZV).Perm (ycj z.2++catB g tb vb ZT ZV):=by
   unfold catB
   have e1:=(((hpf.append_right (ZV.flatMap fun z=>ybp z.2.2)).cons vb).cons tb).cons g
   refine e1.trans ?_
   rw[List.append_assoc]
   exact ((List.perm_middle.symm.cons tb).cons g|>.trans ((List.perm_middle.symm).cons g)).trans List.perm_middle.symm
  rw[hp.nodup_iff,List.nodup_append]
  exact ⟨hnd,h.nd,fun x hx y hy e=>by have:=hf x hx;have:=hlt y hy;omega⟩
theorem yso (T:CTb) (V:CVw) (n:List UInt8) (cs:List Cl) (hn:n.length≤9223372036854775807) (hl:cs.length≤1000000) (hc:∀c∈cs,c.1.length≤9223372036854775807):
  ∀H m,yap Try.prog 15 [.pt (.l 2000000 1) 0, .st n, .sl false cs.length (cs.flatMap clA)] (mem1 1000002 (kWh T V)) H m (KEnd (kWh T V) (kWh (mkT T V n cs) V) (.it .i64 (mkE T V n cs)) H m):=by
 refine ymw (by decide) rfl rfl (yfB _ _) fun G b F vs hg hrep hb hF hV=> ?_
 obtain ⟨x,y,rfl,hx,hy⟩:=vs2 hV
 obtain ⟨s,rfl,hs⟩:=vrSt hx
 subst hs
 have hcin:=yp8 hy
 have hr:=ydi hrep
 obtain ⟨hok,tb,vb,nt,nv,ZT,ZV,h1,h2,h3,h4⟩:=hr
 subst h2;subst h3
 have hP:=h1.tight
 have c0:G.w.cell? ⟨b,0,none⟩=some (.map (some tb)):=by simp[World.cell?,h1.hd]
 have c1:G.w.cell? ⟨b,1,none⟩=some (.map (some vb)):=by simp[World.cell?,h1.hd]
 have hln:=hok.ln
 rw[ycp,ycp] at hln
 obtain ⟨s0,a,m,c,k,hsh⟩:=h1.tsh s.data.toList
 obtain ⟨a',m',c',hsv⟩:=h1.vsh s.data.toList
 refine (yht Try.func15 (by kernel_rfl) rfl (by decide) (yj2 b tb vb ZV.length ZT ZV s y cs G.w c0 c1 hP.tm.own hP.vm.own (bsz rfl hn) s0 a m c k hsh a' m' c' hsv (by unfold maxLen;omega) h1.ne.1 hcin hl hc)).mono ?_
 rw[yj1]
 rintro e w' ⟨rfl,⟨hE,hbl⟩|⟨hE,w1,sv,hbl,hrow,hturn,hown⟩⟩
 ·refine ⟨_,F,fun _=>False,rfl,?_⟩
  rw[show mkT (mzT ZT) (mzT ZV) s.data.toList cs=mzT ZT from if_neg hE]
  exact ycm ⟨hok,tb,vb,nt,nv,ZT,ZV,h1,rfl,rfl,h4⟩ hbl (fun x hx=>hx.elim) fun G' _ _=> .it _ _
 ·obtain ⟨t1,t2,t3,t4,t5⟩:=ydP hturn
  obtain ⟨hno,hnv,hlt,hre⟩:=ykU hE
  have hnoZ:gAt ZT s.data.toList=none:=by rw[ygQ] at hno;simpa using hno
  have hsame:∀x,x<G.w.heap.size->x≠tb->w'.heap[x]? =G.w.heap[x]? :=fun x hx hne=>(t5 x hne).trans (hbl.block x hx)
  have hrow':w'.ownsRow G.w.heap.size 54 3 sv cs.length (cs.flatMap clV):=yaN hrow fun x hx=>t5 x (fun e=>by
   have:=(ybv hrow x hx).1
   have:=(h1.blk tb (by simp[catB])).1
   omega)
  obtain ⟨hP',hsub⟩:=h1.addT (z:=((cs,((kSt cs cs.length).1:Int)), .agg #[.string s,sv, .int .i64 (kSt cs cs.length).1])) hsame hown hnoZ ⟨sv,by rw[yf8],ycS hrow' (Nat.zero_le _)⟩ (fun x hx=>(ybv hrow' x (by simpa [ycj] using hx)).1) (by
   simp only[ycj]
   show (ybp sv).Nodup
   rcases hrow.2 with ⟨rfl,_⟩|⟨g,cap,cur,rfl,_⟩<;>simp[ybp])
  have hput:mkT (mzT ZT) (mzT ZV) s.data.toList cs=mzT (gPut ZT s.data.toList ((cs,((kSt cs cs.length).1:Int)), .agg #[.string s,sv, .int .i64 (kSt cs cs.length).1])):=by
   rw[yi6];exact if_pos hE
  have hsz:G.w.heap.size<=w'.heap.size:=by rw[t1];exact hbl.size
  refine ⟨_,_,fun _=>False,rfl,ydC h1 h4 hP' ?_ hput rfl hsub (fun x hx hq=>hsame x hx fun e=>hq (by subst e;simp[catB])) hsz (t2.trans hbl.os) (t3.trans hbl.tape) (t4.trans hbl.output) fun G' _=> .it _ _⟩
  rw[show mkT (mzT ZT) (mzT ZV) s.data.toList cs=gPut (mzT ZT) s.data.toList (cs,((kSt cs cs.length).1:Int)) from if_pos hE]
  refine ⟨yhy hok.tb,hok.vw,fun q hq=> ?_,hok.vn,⟨?_,hok.ln.2⟩⟩
  ·rcases yeR.1 hq with rfl|⟨hq,_⟩
   ·exact ⟨hn,hl,(yea hre).1⟩
   ·exact hok.tn q hq
  ·have:=yhT (L:=mzT ZT) (n:=s.data.toList) (a:=(cs,((kSt cs cs.length).1:Int)))
   omega
end Go.AV
end
noncomputable section
namespace Go.AV
open Go.RowKit Go.RG Go.Proofs Go.Maps Go.Sort Go.Proofs.Ytpplhhknlmcgbaa
theorem CatP.addV {w w':World} {g tb vb nt nv nv':Nat} {ZT:MZ (List Cl×Int)} {ZV:MZ (List (List UInt8))} (h:CatP w g tb vb nt nv ZT ZV) {n:List UInt8} {z:List (List UInt8)×Value} (hs:∀x,x<w.heap.size→x≠vb→w'.heap[x]? =w.heap[x]?) (hown:w'.ownsMap Try.prog 9 ybo vb nv' (mzD (gPut ZV n z))) (hno:gAt ZV n=none)
  (hz:cvwV w' n z.1 z.2) (hf:∀x∈ybp z.2,w.heap.size<=x) (hnd:(ybp z.2).Nodup):CatP w' g tb vb nt nv' ZT (gPut ZV n z)/\∀x∈catB g tb vb ZT (gPut ZV n z),x∈catB g tb vb ZT ZV∨w.heap.size<=x:=by
 have hlt:∀x∈catB g tb vb ZT ZV,x<w.heap.size:=fun x hx=>(h.blk x hx).1
 have hne:=h.ne
 have hin:∀x,x∈((ZT.flatMap fun z=>ycj z.2.2)++ZV.flatMap fun z=>ybp z.2.2)->w'.heap[x]? =w.heap[x]? :=fun x hx=>hs x (hlt x (yfb hx)) (yhe h.nd hx).2.2
 have hpz:(gPut ZV n z).Perm ((n,z)::ZV):=by
  have:=yia (L:=ZV) (n:=n) (a:=z)
  rwa[yjL (yfT hno)] at this
 have hpf:((gPut ZV n z).flatMap fun z=>ybp z.2.2).Perm (ybp z.2++ZV.flatMap fun z=>ybp z.2.2):=by
  have:=hpz.flatMap_right (fun z:List UInt8×List (List UInt8)×Value=>ybp z.2.2)
  simpa using this
 have hmem:∀x,x∈catB g tb vb ZT (gPut ZV n z)↔x∈ybp z.2∨x∈catB g tb vb ZT ZV:=fun x=>by
  unfold catB
  simp only[List.mem_cons,List.mem_append,hpf.mem_iff]
  constructor
  ·rintro (q|q|q|q|(q|q))<;>simp[q]
  ·rintro (q|q|q|q|q|q)<;>simp[q]
 refine ⟨⟨(hs g (hlt g (by simp[catB])) hne.2.1).trans h.hd,⟨yaS h.tm.own (hs tb (hlt tb (by simp[catB])) hne.2.2),fun q hq=>yc2 (h.tm.el q hq) fun x hx=>hin x (List.mem_append_left _ (List.mem_flatMap.2 ⟨q,hq,hx⟩))⟩,⟨hown,fun q hq=> ?_⟩,?_⟩,fun x hx=>((hmem x).1 hx).elim (fun q=> .inr (hf x q)) .inl⟩
 ·rcases yeR.1 hq with rfl|⟨hq,_⟩
  ·exact hz
  ·exact yaN (h.vm.el q hq) fun x hx=>hin x (List.mem_append_right _ (List.mem_flatMap.2 ⟨q,hq,hx⟩))
 ·have hp:(catB g tb vb ZT (gPut ZV n z)).Perm (ybp z.2++catB g tb vb ZT ZV):=by
   unfold catB
   have e0:((ZT.flatMap fun z=>ycj z.2.2)++(gPut ZV n z).flatMap fun z=>ybp z.2.2).Perm (ybp z.2++((ZT.flatMap fun z=>ycj z.2.2)++ZV.flatMap fun z=>ybp z.2.2)):=by
    refine (hpf.append_left _).trans ?_
    rw[<-List.append_assoc,<-List.append_assoc]
    exact List.perm_append_comm.append_right _
   have e1:=((e0.cons vb).cons tb).cons g
   refine e1.trans ?_
   exact ((List.perm_middle.symm.cons tb).cons g|>.trans ((List.perm_middle.symm).cons g)).trans List.perm_middle.symm
  rw[hp.nodup_iff,List.nodup_append]
  exact ⟨hnd,h.nd,fun x hx y hy e=>by have:=hf x hx;have:=hlt y hy;omega⟩
theorem ykw {α:Type} {L:GL α} {n:List UInt8}:(gDel L n).Sublist L:=List.filter_sublist
theorem yfZ {α β:Type} (f:α→List β):∀ {l m:List α},l.Sublist m→(l.flatMap f).Sublist (m.flatMap f)
 |_,_, .slnil=> .slnil
 |_,_, .cons a h=>by rw[List.flatMap_cons];exact (yfZ f h).trans (List.sublist_append_right _ _)
 |_,_, .cons_cons a h=>by rw[List.flatMap_cons,List.flatMap_cons];exact (yfZ f h).append_left _
theorem CatP.delT {w w':World} {g tb vb nt nv nt':Nat} {ZT:MZ (List Cl×Int)} {ZV:MZ (List (List UInt8))} (h:CatP w g tb vb nt nv ZT ZV) {n:List UInt8} (hs:∀x,x<w.heap.size→x≠tb→w'.heap[x]? =w.heap[x]?) (hown:w'.ownsMap Try.prog 9 ybo tb nt' (mzD (gDel ZT n))):CatP w' g tb vb nt' nv (gDel ZT n) ZV∧∀x∈catB g tb vb (gDel ZT n) ZV,x∈catB g tb vb ZT ZV∨w.heap.size≤x:=by
 have hlt:∀x∈catB g tb vb ZT ZV,x<w.heap.size:=fun x hx=>(h.blk x hx).1
 have hne:=h.ne
 have hin:∀x,x∈((ZT.flatMap fun z=>ycj z.2.2)++ZV.flatMap fun z=>ybp z.2.2)->w'.heap[x]? =w.heap[x]? :=fun x hx=>hs x (hlt x (yfb hx)) (yhe h.nd hx).2.1
 have hsub:(catB g tb vb (gDel ZT n) ZV).Sublist (catB g tb vb ZT ZV):=by
  unfold catB
  exact ((((yfZ _ ykw).append_right _).cons_cons vb).cons_cons tb).cons_cons g
 refine ⟨⟨(hs g (hlt g (by simp[catB])) hne.1).trans h.hd,⟨hown,fun q hq=> ?_⟩,⟨yaS h.vm.own (hs vb (hlt vb (by simp[catB])) (fun e=>hne.2.2 e.symm)),fun q hq=>yaN (h.vm.el q hq) fun x hx=>hin x (List.mem_append_right _ (List.mem_flatMap.2 ⟨q,hq,hx⟩))⟩,hsub.nodup h.nd⟩,fun x hx=> .inl (hsub.subset hx)⟩
 have hq':=(yd5.1 hq).1
 exact yc2 (h.tm.el q hq') fun x hx=>hin x (List.mem_append_left _ (List.mem_flatMap.2 ⟨q,hq',hx⟩))
theorem CatP.delV {w w':World} {g tb vb nt nv nv':Nat} {ZT:MZ (List Cl×Int)} {ZV:MZ (List (List UInt8))} (h:CatP w g tb vb nt nv ZT ZV) {n:List UInt8} (hs:∀x,x<w.heap.size→x≠vb→w'.heap[x]? =w.heap[x]?) (hown:w'.ownsMap Try.prog 9 ybo vb nv' (mzD (gDel ZV n))):CatP w' g tb vb nt nv' ZT (gDel ZV n)∧∀x∈catB g tb vb ZT (gDel ZV n),x∈catB g tb vb ZT ZV∨w.heap.size≤x:=by
 have hlt:∀x∈catB g tb vb ZT ZV,x<w.heap.size:=fun x hx=>(h.blk x hx).1
 have hne:=h.ne
 have hin:∀x,x∈((ZT.flatMap fun z=>ycj z.2.2)++ZV.flatMap fun z=>ybp z.2.2)->w'.heap[x]? =w.heap[x]? :=fun x hx=>hs x (hlt x (yfb hx)) (yhe h.nd hx).2.2
 have hsub:(catB g tb vb ZT (gDel ZV n)).Sublist (catB g tb vb ZT ZV):=by
  unfold catB
  exact ((((yfZ _ ykw).append_left _).cons_cons vb).cons_cons tb).cons_cons g
 refine ⟨⟨(hs g (hlt g (by simp[catB])) hne.2.1).trans h.hd,⟨yaS h.tm.own (hs tb (hlt tb (by simp[catB])) hne.2.2),fun q hq=>yc2 (h.tm.el q hq) fun x hx=>hin x (List.mem_append_left _ (List.mem_flatMap.2 ⟨q,hq,hx⟩))⟩,⟨hown,fun q hq=> ?_⟩,hsub.nodup h.nd⟩,fun x hx=> .inl (hsub.subset hx)⟩
 have hq':=(yd5.1 hq).1
 exact yaN (h.vm.el q hq') fun x hx=>hin x (List.mem_append_right _ (List.mem_flatMap.2 ⟨q,hq',hx⟩))
end Go.AV
end
noncomputable section
namespace Go.AV
open Go.RowKit Go.RG Go.Proofs Go.Maps Go.Sort Go.Proofs.Ytpplhhknlmcgbaa
def ssA (l:List (List UInt8)):AV:= .sl false l.length (l.flatMap fun s=> [.st s])
def vwE (T:CTb) (V:CVw) (n:List UInt8) (us:List (List UInt8)):Int:=
 if ((gAt T n).isSome||(gAt V n).isSome)=true then 7 else if 8<=V.length then 14 else if us.all (fun u=>(gAt T u).isSome)=true then 0 else 6
def vwT (T:CTb) (V:CVw) (n:List UInt8) (us:List (List UInt8)):CVw:=if vwE T V n us=0 then gPut V n us else V
theorem yov {ZT:MZ (List Cl×Int)} {ZV:MZ (List (List UInt8))} {n:List UInt8} {us:List (List UInt8)}:yb2 ZT ZV n us=vwE (mzT ZT) (mzT ZV) n us:=by
 unfold yb2 vwE
 simp only[ygZ,ycp]
theorem yoS {T:CTb} {V:CVw} {n:List UInt8} {us:List (List UInt8)} (h:vwE T V n us=0):gAt V n=none∧V.length<8:=by
 unfold vwE at h
 split at h
 ·cases h
 ·rename_i h1
  split at h
  ·cases h
  ·rename_i h2
   simp at h1
   exact ⟨by cases hq:gAt V n with|none=>rfl|some a=>rw[hq] at h1;simp at h1,by omega⟩
theorem ypZ {ZT:MZ (List Cl×Int)} (sb tb vb nt:Nat) (ZV:MZ (List (List UInt8))) (name:ByteArray) (v:Value) (us:List (List UInt8)) (w:World) (c0:w.cell? ⟨sb,0,none⟩=some (.map (some tb))) (c1:w.cell? ⟨sb,1,none⟩=some (.map (some vb))) (ht:w.ownsMap Try.prog 9 ybo tb nt (mzD ZT)) (hv:w.ownsMap Try.prog 9 ybo vb ZV.length (mzD ZV)) (hsz:name.size≤maxLen)
  (hT:yi9 ZT) (hVw:VwSh ZV) (hlen:ZV.length<maxLen) (hne:sb≠vb) (hc:ycv w v us) (hl:us.length<=1000000) (hn:∀u∈us,u.length<=9223372036854775807):
  Calls Try.prog 9 #[.pointer (some ⟨sb,0,none⟩), .string name,v] w fun e w'=>e= .returned (.int .i64 (yb2 ZT ZV name.data.toList us))∧((¬yb2 ZT ZV name.data.toList us=0∧Below w.heap.size w w')∨
   (yb2 ZT ZV name.data.toList us=0/\∃w1 sv,Below w.heap.size w w1/\w1.ownsRow w.heap.size 9 1 sv us.length (us.map bStr)/\w1.mapTurned w' vb/\w'.ownsMap Try.prog 9 ybo vb (ZV.length+1) (mzD (gPut ZV name.data.toList (us,sv))))):=by
 rcases hc with ⟨rfl,a,cap,rfl⟩|⟨b,off,cap,rfl,hc⟩
 ·exact ymD sb tb vb nt ZT ZV name a cap w c0 c1 ht hv hsz hT hVw hlen hne
 ·exact yn6 sb tb vb nt ZT ZV name b off cap us w c0 c1 ht hv hsz hT hVw hlen hne hc hl hn
theorem yrI {w:World} {base t s n:Nat} {v:Value} {xs:List Value} (h:w.ownsRow base t s v n xs):(ybp v).Nodup:=by
 rcases h.2 with ⟨rfl,_⟩|⟨g,cap,cur,rfl,_⟩<;>simp[ybp]
def dvE (V:CVw) (n:List UInt8):Int:=if (gAt V n).isSome=true then 0 else 6
theorem yqg (T:CTb) (V:CVw) (n:List UInt8) (hn:n.length≤9223372036854775807):
  ∀H m,yap Try.prog 11 [.pt (.l 2000000 1) 0, .st n] (mem1 1000002 (kWh T V)) H m (KEnd (kWh T V) (kWh T (gDel V n)) (.it .i64 (dvE V n)) H m):=by
 refine ymw (by decide) rfl rfl (yfB _ _) fun G b F vs hg hrep hb hF hV=> ?_
 obtain ⟨x,rfl,hx⟩:=vs1 hV
 obtain ⟨s,rfl,hs⟩:=vrSt hx
 subst hs
 have hr:=ydi hrep
 obtain ⟨hok,tb,vb,nt,nv,ZT,ZV,h1,h2,h3,h4⟩:=hr
 subst h2;subst h3
 have c1:G.w.cell? ⟨b,1,none⟩=some (.map (some vb)):=by simp[World.cell?,h1.hd]
 refine (yht Try.func11 (by kernel_rfl) rfl (by decide) (ylS b vb nv ZV s G.w c1 h1.vm.own (bsz rfl hn) h1.vsh h1.ne.2.1)).mono ?_
 rintro e w' (⟨hE,rfl,hbl⟩|⟨hE,rfl,w1,hbl,hturn,hown⟩)
 ·refine ⟨_,F,fun _=>False,rfl,?_⟩
  have hno:gAt (mzT ZV) s.data.toList=none:=by
   have:(gAt (mzT ZV) s.data.toList).isSome=false:=by rw[ygZ];exact hE
   cases hq:gAt (mzT ZV) s.data.toList with|none=>rfl|some a=>rw[hq] at this;cases this
  rw[yjL (yfT hno),show dvE (mzT ZV) s.data.toList=6 from if_neg (by rw[hno];decide)]
  exact ycm ⟨hok,tb,vb,nt,nv,ZT,ZV,h1,rfl,rfl,h4⟩ hbl (fun x hx=>hx.elim) fun G' _ _=> .it _ _
 ·obtain ⟨t1,t2,t3,t4,t5⟩:=ydP hturn
  have hsame:∀x,x<G.w.heap.size->x≠vb->w'.heap[x]? =G.w.heap[x]? :=fun x hx hne=>(t5 x hne).trans (hbl.block x hx)
  obtain ⟨hP',hsub⟩:=h1.delV hsame hown
  have hsz:G.w.heap.size<=w'.heap.size:=by rw[t1];exact hbl.size
  rw[show dvE (mzT ZV) s.data.toList=0 from if_pos (by rw[ygZ];exact hE)]
  refine ⟨_,_,fun _=>False,rfl,ydC h1 h4 hP' ?_ rfl ynF.symm hsub (fun x hx hq=>hsame x hx fun e=>hq (by subst e;simp[catB])) hsz (t2.trans hbl.os) (t3.trans hbl.tape) (t4.trans hbl.output) fun G' _=> .it _ _⟩
  exact ⟨hok.tb,yhh hok.vw,hok.tn,fun q hq=>hok.vn q (yd5.1 hq).1,⟨hok.ln.1,Nat.le_trans yhu hok.ln.2⟩⟩
end Go.AV
end
noncomputable section
namespace Go.AV
open Go.RowKit Go.RG Go.Proofs Go.Maps Go.Sort Go.Proofs.Ytpplhhknlmcgbaa
def usr (V:CVw) (t:List UInt8):List (List UInt8):=(V.filter fun v=>decide (t∈v.2)).map (·.1)
theorem yg2 {ZV:MZ (List (List UInt8))} {t:List UInt8}:(ybf ZV t fun _=>false)=usr (mzT ZV) t:=by
 unfold ybf usr mzT
 rw[List.filter_map,List.map_map]
 congr 1
 refine List.filter_congr fun z _=> ?_
 simp
theorem yp2 {V:CVw} (h:GS V) (t:List UInt8):(usr V t).Pairwise fun a b=>Op.bytesLess a b=true:=by
 unfold usr
 rw[List.pairwise_map]
 exact List.Pairwise.filter _ h
theorem yoW {α:Type} {Z:MZ α} (h:GS (mzT Z)):(Z.map (·.1)).Nodup:=yrO (yrt h)
theorem ysK (l:List (List UInt8)):(l.flatMap fun s=> [AV.st s]).length=l.length*1:=by rw[ykB];simp
theorem yk1 {w:World} {base:Nat} {v:Value} {ks l:List (List UInt8)} (hl:l.Pairwise fun a b=>Op.bytesLess a b=true) (hp:ks.Perm l) (h:w.ownsRow base 9 1 v ks.length ((ks.mergeSort fun x y=>decide (x≤y)).map encStr)):
  ∃J:Nat->Prop,(∀x,J x->x∈ybp v/\base<=x/\x<w.heap.size/\∀ds,w.heap[x]?≠some (.deferred ds))/\∀G':Gh,G'.w=w->(∀x,J x->G'.I x)->VR G' (ssA l) v:=by
 rw[yoj hl hp,hp.length_eq] at h
 exact yjQ h (fun G j u x p q=>ytj G l j u x p q) (ysK l) (ypQ l)
theorem yqG (T:CTb) (V:CVw) (n:List UInt8) (hn:n.length≤9223372036854775807):
  ∀H m,yap Try.prog 19 [.pt (.l 2000000 1) 0, .st n] (mem1 1000002 (kWh T V)) H m (KEnd (kWh T V) (kWh T V) (ssA (usr V n)) H m):=by
 refine ymw (by decide) rfl rfl (yfB _ _) fun G b F vs hg hrep hb hF hV=> ?_
 obtain ⟨x,rfl,hx⟩:=vs1 hV
 obtain ⟨s,rfl,hs⟩:=vrSt hx
 subst hs
 have hr:=ydi hrep
 obtain ⟨hok,tb,vb,nt,nv,ZT,ZV,h1,h2,h3,h4⟩:=hr
 subst h2;subst h3
 have c1:G.w.cell? ⟨b,1,none⟩=some (.map (some vb)):=by simp[World.cell?,h1.hd]
 have hln:=hok.ln
 rw[ycp,ycp] at hln
 refine (yht Try.func19 (by kernel_rfl) rfl (by decide) (yiK b vb nv ZV s G.w c1 h1.vm.own h1.vm.el hln.2 (fun z hz=>(hok.vn _ (yi1 hz)).2) (yoW hok.vw))).mono ?_
 rintro e w' ⟨v,ks,rfl,hp,hrow,hbl⟩
 rw[yg2] at hp
 obtain ⟨J,j1,j2⟩:=yk1 (yp2 hok.vw _) hp hrow
 exact ⟨v,F,J,rfl,ycm ⟨hok,tb,vb,nt,nv,ZT,ZV,h1,rfl,rfl,h4⟩ hbl (fun x hx=>(j1 x hx).2) j2⟩
def dpE (T:CTb) (V:CVw) (n:List UInt8):Int:=if (gAt T n).isSome=false then 6 else if 0<(usr V n).length then 15 else 0
def dpT (T:CTb) (V:CVw) (n:List UInt8):CTb:=if dpE T V n=0 then gDel T n else T
theorem yry (T:CTb) (V:CVw) (n:List UInt8) (hn:n.length≤9223372036854775807):
  ∀H m,yap Try.prog 7 [.pt (.l 2000000 1) 0, .st n] (mem1 1000002 (kWh T V)) H m (KEnd (kWh T V) (kWh (dpT T V n) V) (.it .i64 (dpE T V n)) H m):=by
 refine ymw (by decide) rfl rfl (yfB _ _) fun G b F vs hg hrep hb hF hV=> ?_
 obtain ⟨x,rfl,hx⟩:=vs1 hV
 obtain ⟨s,rfl,hs⟩:=vrSt hx
 subst hs
 have hr:=ydi hrep
 obtain ⟨hok,tb,vb,nt,nv,ZT,ZV,h1,h2,h3,h4⟩:=hr
 subst h2;subst h3
 have c0:G.w.cell? ⟨b,0,none⟩=some (.map (some tb)):=by simp[World.cell?,h1.hd]
 have c1:G.w.cell? ⟨b,1,none⟩=some (.map (some vb)):=by simp[World.cell?,h1.hd]
 have hln:=hok.ln
 rw[ycp,ycp] at hln
 have eD:yhD ZT ZV s.data.toList=dpE (mzT ZT) (mzT ZV) s.data.toList:=by unfold yhD dpE;rw[ygZ,yg2]
 refine (yht Try.func7 (by kernel_rfl) rfl (by decide) (yoI b tb vb nt nv ZT ZV s G.w c0 c1 h1.tm.own h1.vm.own (bsz rfl hn) h1.tsh h1.vm.el hln.2 (fun z hz=>(hok.vn _ (yi1 hz)).2) (yoW hok.vw) (fun z hz x hx=>(h1.blk x (ypy hz hx)).1) h1.ne.1)).mono ?_
 rw[eD]
 rintro e w' ⟨rfl,⟨hE,hbl⟩|⟨hE,w1,hbl,hturn,hown⟩⟩
 ·refine ⟨_,F,fun _=>False,rfl,?_⟩
  rw[show dpT (mzT ZT) (mzT ZV) s.data.toList=mzT ZT from if_neg hE]
  exact ycm ⟨hok,tb,vb,nt,nv,ZT,ZV,h1,rfl,rfl,h4⟩ hbl (fun x hx=>hx.elim) fun G' _ _=> .it _ _
 ·obtain ⟨t1,t2,t3,t4,t5⟩:=ydP hturn
  have hsame:∀x,x<G.w.heap.size->x≠tb->w'.heap[x]? =G.w.heap[x]? :=fun x hx hne=>(t5 x hne).trans (hbl.block x hx)
  obtain ⟨hP',hsub⟩:=h1.delT hsame hown
  have hsz:G.w.heap.size<=w'.heap.size:=by rw[t1];exact hbl.size
  rw[show dpT (mzT ZT) (mzT ZV) s.data.toList=gDel (mzT ZT) s.data.toList from if_pos hE]
  refine ⟨_,_,fun _=>False,rfl,ydC h1 h4 hP' ?_ ynF.symm rfl hsub (fun x hx hq=>hsame x hx fun e=>hq (by subst e;simp[catB])) hsz (t2.trans hbl.os) (t3.trans hbl.tape) (t4.trans hbl.output) fun G' _=> .it _ _⟩
  exact ⟨yhh hok.tb,hok.vw,fun q hq=>hok.tn q (yd5.1 hq).1,hok.vn,⟨Nat.le_trans yhu hok.ln.1,hok.ln.2⟩⟩
end Go.AV
end
noncomputable section
namespace Go.AV
open Go.RowKit Go.RG Go.Proofs Go.Maps Go.Sort Go.Proofs.Ytpplhhknlmcgbaa
def tbOf (T:CTb) (n:List UInt8):List UInt8×List Cl×Int:=match gAt T n with
 |some t=>(n,t)
 |none=>([],[],0)
def tbA (t:List UInt8×List Cl×Int):AV:= .agg [.st t.1, .sl false t.2.1.length (t.2.1.flatMap clA), .it .i64 t.2.2]
theorem yqn (T:CTb) (V:CVw) (n:List UInt8) (hn:n.length≤9223372036854775807):
  ∀H m,yap Try.prog 13 [.pt (.l 2000000 1) 0, .st n] (mem1 1000002 (kWh T V)) H m (KEnd (kWh T V) (kWh T V) (.tup [tbA (tbOf T n), .bl (gAt T n).isSome]) H m):=by
 refine ymw (by decide) rfl rfl (yfB _ _) fun G b F vs hg hrep hb hF hV=> ?_
 obtain ⟨x,rfl,hx⟩:=vs1 hV
 obtain ⟨s,rfl,hs⟩:=vrSt hx
 subst hs
 have hr:=ydi hrep
 obtain ⟨hok,tb,vb,nt,nv,ZT,ZV,h1,h2,h3,h4⟩:=hr
 subst h2;subst h3
 have c0:G.w.cell? ⟨b,0,none⟩=some (.map (some tb)):=by simp[World.cell?,h1.hd]
 cases hq:gAt ZT s.data.toList with
 | none=>
   refine (yht Try.func13 (by kernel_rfl) rfl (by decide) (ylr b tb nt ZT s G.w c0 h1.tm.own (bsz rfl hn) hq)).mono ?_
   rintro e w' ⟨rfl,hbl⟩
   refine ⟨_,F,fun _=>False,rfl,ycm ⟨hok,tb,vb,nt,nv,ZT,ZV,h1,rfl,rfl,h4⟩ hbl (fun x hx=>hx.elim) fun G' _ _=> ?_⟩
   have e1:gAt (mzT ZT) s.data.toList=none:=by rw[ygQ,hq];rfl
   rw[show tbOf (mzT ZT) s.data.toList=([],[],0) from by unfold tbOf;rw[e1],e1]
   refine .tup _ _ rfl fun j u x p q=> ?_
   match j,p,q with
   | 0,p,q=>
     cases p;simp at q;subst q
     refine .agg _ _ rfl (fun i u x p q=> ?_) (fun i x q=> ?_)
     ·match i,p,q with
      |0,p,q=>cases p;simp at q;subst q;exact .st _ _ rfl
      |1,p,q=>cases p;simp at q;subst q;exact .nsl _ _ _ rfl rfl
      |2,p,q=>cases p;simp at q;subst q;exact .it _ _
     ·match i,q with
      |0,q=>simp at q;subst q;rfl
      |1,q=>simp at q;subst q;rfl
      |2,q=>simp at q;subst q;rfl
   |1,p,q=>cases p;simp at q;subst q;exact .bl _
 | some z=>
   obtain ⟨⟨cs,k⟩,v⟩:=z
   have hm:=yfO hq
   have ht:=hok.tn _ (yi1 hm)
   refine (yht Try.func13 (by kernel_rfl) rfl (by decide) (ylo b tb nt ZT s G.w c0 h1.tm.own (bsz rfl hn) cs k v hq (h1.tm.el _ hm) ht.2.2 ht.2.1)).mono ?_
   rintro e w' ⟨sv,rfl,hrow,hbl⟩
   obtain ⟨J,j1,j2⟩:=yjQ hrow (fun G j u x p q=>ymi G cs j u x p q) (yjt cs) (yma cs)
   refine ⟨_,F,J,rfl,ycm ⟨hok,tb,vb,nt,nv,ZT,ZV,h1,rfl,rfl,h4⟩ hbl (fun x hx=>(j1 x hx).2) fun G' hw hJ=> ?_⟩
   have e1:gAt (mzT ZT) s.data.toList=some (cs,k):=by rw[ygQ,hq];rfl
   rw[show tbOf (mzT ZT) s.data.toList=(s.data.toList,cs,k) from by unfold tbOf;rw[e1],e1]
   obtain ⟨ad,m,c,hsv⟩:=ygA hrow
   refine .tup _ _ rfl fun j u x p q=> ?_
   match j,p,q with
   | 0,p,q=>
     cases p;simp at q;subst q
     refine .agg _ _ rfl (fun i u x p q=> ?_) (fun i x q=> ?_)
     ·match i,p,q with
      |0,p,q=>cases p;simp at q;subst q;exact yly G' _
      |1,p,q=>cases p;simp at q;subst q;exact j2 G' hw hJ
      |2,p,q=>cases p;simp at q;subst q;exact .it _ _
     ·match i,q with
      |0,q=>simp at q;subst q;rfl
      |1,q=>simp at q;subst q;rw[hsv];rfl
      |2,q=>simp at q;subst q;rfl
   |1,p,q=>cases p;simp at q;subst q;exact .bl _
end Go.AV
end
noncomputable section
namespace Go.Proofs.Ytpplhhknlmcgbaa
open Go.RowKit Go.Maps Go.WideMaps Go.RG
end Go.Proofs.Ytpplhhknlmcgbaa
namespace Go.AV
open Go.RowKit Go.RG Go.Proofs Go.Maps Go.Sort Go.Proofs.Ytpplhhknlmcgbaa
def yk5 (w:World):World:=((w.alloc (.map #[] 0)).alloc (.map #[] 0)).alloc (.cells #[.map (some w.heap.size), .map (some (w.heap.size+1))] 68 (0,0))
theorem yoP (w:World):CatR (yk5 w) (w.heap.size+2) (fun x=>x=w.heap.size∨x=w.heap.size+1) [] []:=by
 have s1:=ybs w (.map #[] 0)
 have s2:=ybs (w.alloc (.map #[] 0)) (.map #[] 0)
 refine ⟨⟨.nil, .nil,fun p h=>(by cases h),fun p h=>(by cases h),by decide⟩,w.heap.size,w.heap.size+1,0,0,[],[],⟨?_,⟨?_,fun z h=>(by cases h)⟩,⟨?_,fun z h=>(by cases h)⟩,by simp[catB]⟩,rfl,rfl,fun x=>by simp[catB]⟩
 ·have:=yfi ((w.alloc (.map #[] 0)).alloc (.map #[] 0)) (.cells #[.map (some w.heap.size), .map (some (w.heap.size+1))] 68 (0,0))
  rw[s2,s1] at this
  exact this
 ·exact yaS (World.ownsMap_made w _ _ _) ((ydL _ _ (by rw[s2,s1];omega)).trans (ydL _ _ (by rw[s1];omega)))
 ·have:=World.ownsMap_made (H:=Value) (w.alloc (.map #[] 0)) Try.prog 9 ybo
  rw[s1] at this
  exact yaS this (ydL _ _ (by rw[s2,s1];omega))
theorem ysX:∀H m,yap Try.prog 6 [] (fun _=>none) H m fun av S1=>av= .pt (.l 1000000 1) 0∧S1={lSt (fun _=>none) H m with M:=updK (lSt (fun _=>none) H m).M (.l 1000000 1) (some ⟨1000002,0,kWh [] []⟩)}:=by
 refine ytH (by decide) rfl (yfB _ _) fun G vs hg hV=> ?_
 have hvs:vs= #[]:=by
  have:=hV.1
  simpa using this
 subst hvs
 refine (yht Try.func6 (by kernel_rfl) rfl (by decide) (yra G.w)).mono ?_
 rintro e w' ⟨rfl,rfl⟩
 have s1:=ybs G.w (.map #[] 0)
 have s2:=ybs (G.w.alloc (.map #[] 0)) (.map #[] 0)
 have s3:=ybs ((G.w.alloc (.map #[] 0)).alloc (.map #[] 0)) (.cells #[.map (some G.w.heap.size), .map (some (G.w.heap.size+1))] 68 (0,0))
 have hr':=yoP G.w
 have hsz:(yk5 G.w).heap.size=G.w.heap.size+3:=by unfold yk5;rw[s3,s2,s1]
 have hb:Below G.w.heap.size G.w (yk5 G.w):=by
  unfold yk5
  exact (((Below.refl _ G.w).alloc (Nat.le_refl _) _).alloc (by rw[s1];omega) _).alloc (by rw[s2,s1];omega) _
 obtain ⟨_,tb,vb,nt,nv,ZT,ZV,h1,h2,h3,h4⟩:=id hr'
 have hm:∀x,x=G.w.heap.size∨x=G.w.heap.size+1->x∈catB (G.w.heap.size+2) tb vb ZT ZV:=fun x hx=>List.mem_of_mem_tail ((h4 x).1 hx)
 refine ⟨G.w.heap.size+2,fun x=>x=G.w.heap.size∨x=G.w.heap.size+1,rfl,⟨by omega,by show _<(yk5 G.w).heap.size;rw[hsz];omega⟩,yi8 hr',fun x hx=>⟨by omega,(h1.blk x (hm x hx)).1,by omega⟩,fun x hx=>(h1.blk x (hm x hx)).2,⟨_,h1.hd,fun ds q=>by cases q⟩,fun x hx=>hb.block x hx,hb.size,hb.os,hb.tape,hb.output⟩
end Go.AV
end
noncomputable section
namespace Go.AV
open Go.RowKit Go.RG Go.Proofs Go.Proofs.Ytpplhhknlmcgbaa
end Go.AV
end
noncomputable section
namespace Go.AV
open Go.RowKit Go.RG Go.Proofs.Ytpplhhknlmcgbaa
theorem ypE {P:Program} {f:FuncId} {e:Nat} {us us' rest:List AV} {av:AV} {mem:Nat→Option Blk} (hmem:mem 2000000=some ⟨e,0,us⟩) (he:1000000≤e) (hrc:isRc us=false) (hrc':isRc us'=false) (hnl':noLs us'=true)
  (h:∀(G:Gh) (b:Nat) (F:Nat→Prop) (vs:List Value) (H:Hp) (n:Nat),GOK P G.w G.I→MRel (yaD G n) (lSt mem H n) G→opqR e (dwks us) G.w b F→b<G.w.heap.size→(∀x,F x→x<G.w.heap.size)→VRs G rest vs→
    XW P f (Value.pointer (some ⟨b,0,none⟩)::vs).toArray G.w fun en w'=>∃v F' J,en= .returned v/\ykc e us' av G.w b F v w' F' J):
  ∀H n,yap P f (.pt (.l 2000000 1) 0::rest) mem H n fun av' S1=>av'=av/\S1={lSt mem H n with M:=updK (lSt mem H n).M (.l 2000000 1) (some ⟨e,0,us'⟩)}:=by
 intro H n G vs hg hM hV
 have hb0:(lSt mem H n).M (.l 2000000 1)=some ⟨e,0,us⟩:=by show (if 1=1 then mem 2000000 else none)=_;exact hmem
 have ho:opq ⟨e,0,us⟩=true:=by simp[opq,he]
 obtain ⟨r,hr,_⟩:=hM.κsome hb0
 obtain ⟨_,hrep⟩:=hM.fo.rep _ _ r hb0 hr ho hrc
 obtain ⟨hl,hV'⟩:=hV
 cases hvs:vs.toList with
 |nil=>rw[hvs] at hl;simp at hl
 | cons v0 vr=>
   rw[hvs] at hl hV'
   have h0:=hV' 0 _ v0 rfl rfl
   obtain ⟨g,cap,hk,rfl⟩:=VR.pt_inv hM (show yav (lSt mem H n) (.l 2000000 1)=true by unfold yav;rw[hb0];rfl) h0
   rw[hr] at hk;cases hk
   have hcall:=h G g (G.ft (.l 2000000 1)) vr H n hg hM hrep (hM.apart _ _ hr).2 (fun x q=>(hM.fo.ap _ x ⟨⟨_,hr⟩,q⟩).2) ⟨by simpa using hl,fun j u x p q=>hV' (j+1) u x (by simpa using p) (by simpa using q)⟩
   have hva:(Value.pointer (some ⟨g,0,none⟩)::vr).toArray=vs:=by rw[<-hvs]
   rw[hva] at hcall
   refine hcall.mono ?_
   rintro en w' ⟨v,F',J,rfl,q⟩
   obtain ⟨G1,a1,a2,a2',a3,a4⟩:=hM.turn hb0 hr ho hrc' hnl' q.same q.fF q.nd q.hd q.rep q.size q.os q.tape q.output
   obtain ⟨G2,b1,b2,b3,b4,b5⟩:=a3.more (J:=J) fun x hx=>by
    obtain ⟨j1,j2,j3,j4⟩:=q.jJ x hx
    refine ⟨j1,by rw[a1];exact j2,fun k r' hk'=>⟨fun e'=> ?_,fun e'=> ?_⟩,by rw[a1];exact j4⟩
    ·rw[a2] at hk'
     have:=(hM.apart k r' hk').2;omega
    ·rcases a2' k x ⟨⟨r',hk'⟩,e'⟩ with z|z
     ·exact j3 z
     ·have:=(hM.fo.ap k x z).2;omega
   exact ⟨v,av,_,G2,rfl,⟨rfl,rfl⟩,b4,b1.trans a1,q.v G2 (b1.trans a1) b3⟩
theorem yqC {G:Gh} {H:Hp} {n ct:Nat} {mem:Nat→Option Blk} {cs:List Cl} {v:Value} (hM:MRel (yaD G n) (lSt mem H n) G) (hmem:mem 2000001=some ⟨ct,3,cs.flatMap clA⟩) (hv:VR G (.gs (.l 2000001 1) cs.length) v):ycR G.w v cs:=by
 have hb0:(lSt mem H n).M (.l 2000001 1)=some ⟨ct,3,cs.flatMap clA⟩:=by show (if 1=1 then mem 2000001 else none)=_;exact hmem
 obtain ⟨g,cap,hk,rfl⟩:=VR.gs_inv hM (show yav (lSt mem H n) (.l 2000001 1)=true by unfold yav;rw[hb0];rfl) hv
 have hblk:=hM.blk (.l 2000001 1)
 rw[hb0,hk] at hblk
 obtain ⟨cur,c1,c2,c3,c4,c5,c6,c7⟩:ygz G ⟨ct,3,cs.flatMap clA⟩ g cap:=by simpa [yac] using hblk
 have hlen:=yjt cs
 have key:∀k c,cs[k]? =some c→∀i u,i<3→(clA c)[i]? =some u→∃x,cur[k*3+i]? =some x∧VR G u x:=fun k c hk' i u hi hu=>by
  have e:(cs.flatMap clA)[k*3+i]? =some u:=(yjl cs k i c hk' hi).trans hu
  have hj:k*3+i<cur.size:=Nat.lt_of_lt_of_le (List.getElem?_eq_some_iff.1 e).1 c5
  exact ⟨cur[k*3+i],Array.getElem?_eq_getElem hj,c6 _ _ _ e (Array.getElem?_eq_getElem hj)⟩
 refine .inr ⟨g,0,cap,rfl,?_,?_,?_,(Array.getElem?_eq_some_iff.1 c1).1⟩
 ·intro k c hk'
  obtain ⟨x,a1,a2⟩:=key k c hk' 0 _ (by decide) rfl
  rw[Nat.zero_add,yeq c1,show k*3=k*3+0 from rfl,a1,vrB a2]
 ·intro k c hk'
  obtain ⟨x,a1,a2⟩:=key k c hk' 1 _ (by decide) rfl
  rw[Nat.zero_add,yeq c1,a1,VR.it_inv a2]
 ·intro k c hk'
  obtain ⟨x,a1,a2⟩:=key k c hk' 2 _ (by decide) rfl
  rw[Nat.zero_add,yeq c1,a1,VR.bl_inv a2]
end Go.AV
end
noncomputable section
namespace Go.AV
open Go.RowKit Go.RG Go.Proofs Go.Maps Go.Sort Go.Proofs.Ytpplhhknlmcgbaa
theorem ypW {mem:Nat→Option Blk} {u:AV} (T:CTb) (V:CVw) (n:List UInt8) (cs:List Cl) (hn:n.length≤9223372036854775807) (hl:cs.length≤1000000) (hc:∀c∈cs,c.1.length≤9223372036854775807) (hmem:mem 2000000=some ⟨1000002,0,kWh T V⟩) (hu:∀(G:Gh) (H:Hp) (n:Nat) (v:Value),MRel (yaD G n) (lSt mem H n) G→VR G u v→ycR G.w v cs):
  ∀H m,yap Try.prog 15 [.pt (.l 2000000 1) 0, .st n,u] mem H m fun av' S1=>av'= .it .i64 (mkE T V n cs)/\S1={lSt mem H m with M:=updK (lSt mem H m).M (.l 2000000 1) (some ⟨1000002,0,kWh (mkT T V n cs) V⟩)}:=by
 refine ypE hmem (by decide) rfl rfl (yfB _ _) fun G b F vs H0 n0 hg hM hrep hb hF hV=> ?_
 obtain ⟨x,y,rfl,hx,hy⟩:=vs2 hV
 obtain ⟨s,rfl,hs⟩:=vrSt hx
 subst hs
 have hcin:=hu G H0 n0 y hM hy
 have hr:=ydi hrep
 obtain ⟨hok,tb,vb,nt,nv,ZT,ZV,h1,h2,h3,h4⟩:=hr
 subst h2;subst h3
 have hP:=h1.tight
 have c0:G.w.cell? ⟨b,0,none⟩=some (.map (some tb)):=by simp[World.cell?,h1.hd]
 have c1:G.w.cell? ⟨b,1,none⟩=some (.map (some vb)):=by simp[World.cell?,h1.hd]
 have hln:=hok.ln
 rw[ycp,ycp] at hln
 obtain ⟨s0,a,m,c,k,hsh⟩:=h1.tsh s.data.toList
 obtain ⟨a',m',c',hsv⟩:=h1.vsh s.data.toList
 refine (yht Try.func15 (by kernel_rfl) rfl (by decide) (yj2 b tb vb ZV.length ZT ZV s y cs G.w c0 c1 hP.tm.own hP.vm.own (bsz rfl hn) s0 a m c k hsh a' m' c' hsv (by unfold maxLen;omega) h1.ne.1 hcin hl hc)).mono ?_
 rw[yj1]
 rintro e w' ⟨rfl,⟨hE,hbl⟩|⟨hE,w1,sv,hbl,hrow,hturn,hown⟩⟩
 ·refine ⟨_,F,fun _=>False,rfl,?_⟩
  rw[show mkT (mzT ZT) (mzT ZV) s.data.toList cs=mzT ZT from if_neg hE]
  exact ycm ⟨hok,tb,vb,nt,nv,ZT,ZV,h1,rfl,rfl,h4⟩ hbl (fun x hx=>hx.elim) fun G' _ _=> .it _ _
 ·obtain ⟨t1,t2,t3,t4,t5⟩:=ydP hturn
  obtain ⟨hno,hnv,hlt,hre⟩:=ykU hE
  have hnoZ:gAt ZT s.data.toList=none:=by rw[ygQ] at hno;simpa using hno
  have hsame:∀x,x<G.w.heap.size->x≠tb->w'.heap[x]? =G.w.heap[x]? :=fun x hx hne=>(t5 x hne).trans (hbl.block x hx)
  have hrow':w'.ownsRow G.w.heap.size 54 3 sv cs.length (cs.flatMap clV):=yaN hrow fun x hx=>t5 x (fun e=>by
   have:=(ybv hrow x hx).1
   have:=(h1.blk tb (by simp[catB])).1
   omega)
  obtain ⟨hP',hsub⟩:=h1.addT (z:=((cs,((kSt cs cs.length).1:Int)), .agg #[.string s,sv, .int .i64 (kSt cs cs.length).1])) hsame hown hnoZ ⟨sv,by rw[yf8],ycS hrow' (Nat.zero_le _)⟩ (fun x hx=>(ybv hrow' x (by simpa [ycj] using hx)).1) (by
   simp only[ycj]
   show (ybp sv).Nodup
   rcases hrow.2 with ⟨rfl,_⟩|⟨g,cap,cur,rfl,_⟩<;>simp[ybp])
  have hput:mkT (mzT ZT) (mzT ZV) s.data.toList cs=mzT (gPut ZT s.data.toList ((cs,((kSt cs cs.length).1:Int)), .agg #[.string s,sv, .int .i64 (kSt cs cs.length).1])):=by
   rw[yi6];exact if_pos hE
  have hsz:G.w.heap.size<=w'.heap.size:=by rw[t1];exact hbl.size
  refine ⟨_,_,fun _=>False,rfl,ydC h1 h4 hP' ?_ hput rfl hsub (fun x hx hq=>hsame x hx fun e=>hq (by subst e;simp[catB])) hsz (t2.trans hbl.os) (t3.trans hbl.tape) (t4.trans hbl.output) fun G' _=> .it _ _⟩
  rw[show mkT (mzT ZT) (mzT ZV) s.data.toList cs=gPut (mzT ZT) s.data.toList (cs,((kSt cs cs.length).1:Int)) from if_pos hE]
  refine ⟨yhy hok.tb,hok.vw,fun q hq=> ?_,hok.vn,⟨?_,hok.ln.2⟩⟩
  ·rcases yeR.1 hq with rfl|⟨hq,_⟩
   ·exact ⟨hn,hl,(yea hre).1⟩
   ·exact hok.tn q hq
  ·have:=yhT (L:=mzT ZT) (n:=s.data.toList) (a:=(cs,((kSt cs cs.length).1:Int)))
   omega
theorem yqm {G:Gh} {H:Hp} {n ct:Nat} {mem:Nat→Option Blk} {us:List (List UInt8)} {v:Value} (hM:MRel (yaD G n) (lSt mem H n) G) (hmem:mem 2000001=some ⟨ct,1,us.flatMap fun s=> [.st s]⟩) (hv:VR G (.gs (.l 2000001 1) us.length) v):ycv G.w v us:=by
 rw[ykB] at hmem
 have hb0:(lSt mem H n).M (.l 2000001 1)=some ⟨ct,1,us.map AV.st⟩:=by show (if 1=1 then mem 2000001 else none)=_;exact hmem
 obtain ⟨g,cap,hk,rfl⟩:=VR.gs_inv hM (show yav (lSt mem H n) (.l 2000001 1)=true by unfold yav;rw[hb0];rfl) hv
 have hblk:=hM.blk (.l 2000001 1)
 rw[hb0,hk] at hblk
 obtain ⟨cur,c1,c2,c3,c4,c5,c6,c7⟩:ygz G ⟨ct,1,us.map AV.st⟩ g cap:=by simpa [yac] using hblk
 refine .inr ⟨g,0,cap,rfl,?_,(Array.getElem?_eq_some_iff.1 c1).1⟩
 intro k u hk'
 have e:(us.map AV.st)[k]? =some (.st u):=by rw[List.getElem?_map,hk'];rfl
 have hj:k<cur.size:=Nat.lt_of_lt_of_le (List.getElem?_eq_some_iff.1 e).1 c5
 rw[Nat.zero_add,yeq c1,Array.getElem?_eq_getElem hj,vrB (c6 _ _ _ e (Array.getElem?_eq_getElem hj))]
theorem yro {mem:Nat→Option Blk} {u:AV} (T:CTb) (V:CVw) (n:List UInt8) (us:List (List UInt8)) (hn:n.length≤9223372036854775807) (hl:us.length≤1000000) (hc:∀u∈us,u.length≤9223372036854775807) (hmem:mem 2000000=some ⟨1000002,0,kWh T V⟩) (hu:∀(G:Gh) (H:Hp) (n:Nat) (v:Value),MRel (yaD G n) (lSt mem H n) G→VR G u v→ycv G.w v us):
  ∀H m,yap Try.prog 9 [.pt (.l 2000000 1) 0, .st n,u] mem H m fun av' S1=>av'= .it .i64 (vwE T V n us)/\S1={lSt mem H m with M:=updK (lSt mem H m).M (.l 2000000 1) (some ⟨1000002,0,kWh T (vwT T V n us)⟩)}:=by
 refine ypE hmem (by decide) rfl rfl (yfB _ _) fun G b F vs H0 n0 hg hM hrep hb hF hV=> ?_
 obtain ⟨x,y,rfl,hx,hy⟩:=vs2 hV
 obtain ⟨s,rfl,hs⟩:=vrSt hx
 subst hs
 have hcin:=hu G H0 n0 y hM hy
 have hr:=ydi hrep
 obtain ⟨hok,tb,vb,nt,nv,ZT,ZV,h1,h2,h3,h4⟩:=hr
 subst h2;subst h3
 have hP:=h1.tight
 have c0:G.w.cell? ⟨b,0,none⟩=some (.map (some tb)):=by simp[World.cell?,h1.hd]
 have c1:G.w.cell? ⟨b,1,none⟩=some (.map (some vb)):=by simp[World.cell?,h1.hd]
 have hln:=hok.ln
 rw[ycp,ycp] at hln
 refine (yht Try.func9 (by kernel_rfl) rfl (by decide) (ypZ b tb vb ZT.length ZV s y us G.w c0 c1 hP.tm.own hP.vm.own (bsz rfl hn) h1.tsh h1.vsh (by unfold maxLen;omega) h1.ne.2.1 hcin hl hc)).mono ?_
 rw[yov]
 rintro e w' ⟨rfl,⟨hE,hbl⟩|⟨hE,w1,sv,hbl,hrow,hturn,hown⟩⟩
 ·refine ⟨_,F,fun _=>False,rfl,?_⟩
  rw[show vwT (mzT ZT) (mzT ZV) s.data.toList us=mzT ZV from if_neg hE]
  exact ycm ⟨hok,tb,vb,nt,nv,ZT,ZV,h1,rfl,rfl,h4⟩ hbl (fun x hx=>hx.elim) fun G' _ _=> .it _ _
 ·obtain ⟨t1,t2,t3,t4,t5⟩:=ydP hturn
  obtain ⟨hno,hlt⟩:=yoS hE
  have hnoZ:gAt ZV s.data.toList=none:=by rw[ygQ] at hno;simpa using hno
  have hsame:∀x,x<G.w.heap.size->x≠vb->w'.heap[x]? =G.w.heap[x]? :=fun x hx hne=>(t5 x hne).trans (hbl.block x hx)
  have hrow':w'.ownsRow G.w.heap.size 9 1 sv us.length (us.map bStr):=yaN hrow fun x hx=>t5 x (fun e=>by
   have:=(ybv hrow x hx).1
   have:=(h1.blk vb (by simp[catB])).1
   omega)
  obtain ⟨hP',hsub⟩:=h1.addV (z:=(us,sv)) hsame hown hnoZ (ycS hrow' (Nat.zero_le _)) (fun x hx=>(ybv hrow' x hx).1) (yrI hrow)
  have hput:vwT (mzT ZT) (mzT ZV) s.data.toList us=mzT (gPut ZV s.data.toList (us,sv)):=by
   rw[yi6];exact if_pos hE
  have hsz:G.w.heap.size<=w'.heap.size:=by rw[t1];exact hbl.size
  refine ⟨_,_,fun _=>False,rfl,ydC h1 h4 hP' ?_ rfl hput hsub (fun x hx hq=>hsame x hx fun e=>hq (by subst e;simp[catB])) hsz (t2.trans hbl.os) (t3.trans hbl.tape) (t4.trans hbl.output) fun G' _=> .it _ _⟩
  rw[show vwT (mzT ZT) (mzT ZV) s.data.toList us=gPut (mzT ZV) s.data.toList us from if_pos hE]
  refine ⟨hok.tb,yhy hok.vw,hok.tn,fun q hq=> ?_,⟨hok.ln.1,?_⟩⟩
  ·rcases yeR.1 hq with rfl|⟨hq,_⟩
   ·exact ⟨hn,hl⟩
   ·exact hok.vn q hq
  ·have:=yhT (L:=mzT ZV) (n:=s.data.toList) (a:=us)
   omega
end Go.AV
end
noncomputable section
namespace Go.AV
open Go.RowKit Go.RG Go.Proofs Go.Maps Go.Sort Go.Proofs.Ytpplhhknlmcgbaa
theorem yn4 {G:Gh} {v:Value} (h:VR G (.sl true 0 []) v):ycR G.w v []:=by
 cases h with
 |nsl=>exact .inl ⟨rfl,_,_,rfl⟩
theorem yoC {G:Gh} {v:Value} (h:VR G (.sl true 0 []) v):ycv G.w v []:=by
 cases h with
 |nsl=>exact .inl ⟨rfl,_,_,rfl⟩
theorem yrw (T:CTb) (V:CVw) (n:List UInt8) (cs:List Cl) (hn:n.length≤9223372036854775807) (hl:cs.length≤1000000) (hc:∀c∈cs,c.1.length≤9223372036854775807) {ct:Nat} {mem:Nat→Option Blk} {u:AV}
  (hmem:mem 2000000=some ⟨1000002,0,kWh T V⟩) (h:(u= .sl true 0 []/\cs= [])∨(u= .gs (.l 2000001 1) cs.length/\mem 2000001=some ⟨ct,3,cs.flatMap clA⟩)):
  ∀H m,yap Try.prog 15 [.pt (.l 2000000 1) 0, .st n,u] mem H m fun av' S1=>av'= .it .i64 (mkE T V n cs)/\S1={lSt mem H m with M:=updK (lSt mem H m).M (.l 2000000 1) (some ⟨1000002,0,kWh (mkT T V n cs) V⟩)}:=
 ypW T V n cs hn hl hc hmem fun G H m v hM hv=>by
  rcases h with ⟨rfl,rfl⟩|⟨rfl,h2⟩
  ·exact yn4 hv
  ·exact yqC hM h2 hv
theorem yqM (T:CTb) (V:CVw) (n:List UInt8) (us:List (List UInt8)) (hn:n.length≤9223372036854775807) (hl:us.length≤1000000) (hc:∀u∈us,u.length≤9223372036854775807) {ct:Nat} {mem:Nat→Option Blk} {u:AV}
  (hmem:mem 2000000=some ⟨1000002,0,kWh T V⟩) (h:(u= .sl true 0 []/\us= [])∨(u= .gs (.l 2000001 1) us.length/\mem 2000001=some ⟨ct,1,us.flatMap fun s=> [.st s]⟩)):
  ∀H m,yap Try.prog 9 [.pt (.l 2000000 1) 0, .st n,u] mem H m fun av' S1=>av'= .it .i64 (vwE T V n us)/\S1={lSt mem H m with M:=updK (lSt mem H m).M (.l 2000000 1) (some ⟨1000002,0,kWh T (vwT T V n us)⟩)}:=
 yro T V n us hn hl hc hmem fun G H m v hM hv=>by
  rcases h with ⟨rfl,rfl⟩|⟨rfl,h2⟩
  ·exact yoC hv
  ·exact yqm hM h2 hv
end Go.AV
end
noncomputable section
namespace Go.Proofs.Ytpplhhknlmcgbaa
open Go.AV
set_option maxRecDepth 1000000
def c4:AFn:=cF Try.prog 4
theorem t4:trF Try.prog 4=some c4:=tF (by kernel_rfl)
def c5:AFn:=cF Try.prog 5
theorem t5:trF Try.prog 5=some c5:=tF (by kernel_rfl)
end Go.Proofs.Ytpplhhknlmcgbaa
end
noncomputable section
namespace Go.Proofs.Ytpplhhknlmcgbaa
open Go.AV Go.RowKit
set_option maxRecDepth 100000
structure yaB where
 Name:Str
 Kind:Int
 Key:Bool
structure ybu where
 What:Int
 Name:Str
 Columns:(List yaB)
 Uses:(List Str)
structure yad where
 Name:Str
 Kind:Int
 Key:Bool
structure yam where
 Name:Str
 Columns:(List yad)
 Key:Int
structure yax where
 name:Str
 uses:(List Str)
structure yaa where
 tables:(List yam)
 views:(List yax)
structure yau where
 Name:Str
 Kind:Int
 Key:Bool
structure yaw where
 Name:Str
 Columns:(List yau)
 Key:Int
structure yaH where
 Name:Str
 Uses:(List Str)
structure yaA where
 Tables:(List yaw)
 Views:(List yaH)
inductive TC where
 |c0
 |c3
 |c4
 |c5
 |c9
 |c22
 |c26
 |c27
 |c29
 |c30
 |c31
 |c33
 |c41
 |c42
 |c44
 |c45
 |c47
 |c53
 |c54
 |c55
 |c134
 |c136
 |c137
 |c139
def KF:TC→Type
 | .c0=>Unit
 | .c3=>Int
 | .c4=>Bool
 | .c5=>Int
 | .c9=>Str
 | .c22=>(List ybu)
 | .c26=>(List yaw)
 | .c27=>(List yaH)
 | .c29=>yaA
 | .c30=>(List yaB)
 | .c31=>(List Str)
 | .c33=>ybu
 | .c41=>yaH
 | .c42=>(List yau)
 | .c44=>yaw
 | .c45=>(List yad)
 | .c47=>yam
 | .c53=>yau
 | .c54=>yad
 | .c55=>yaB
 | .c134=>(List yam)
 | .c136=>yax
 | .c137=>(List yax)
 | .c139=>yaa
def ytN:List (Nat×TC):= [(3, .c3),(4, .c4),(5, .c5),(9, .c9),(22, .c22),(26, .c26),(27, .c27),(29, .c29),(30, .c30),(31, .c31),(33, .c33),(41, .c41),(42, .c42),(44, .c44),(45, .c45),(47, .c47),(53, .c53),(54, .c54),(55, .c55),(134, .c134),(136, .c136),(137, .c137),(139, .c139)]
def code (t:Nat):TC:=lkC .c0 ytN t
abbrev KK (t:Nat):Type:=KF (code t)
def ya7:Enc yaB:=yen ((ybq tbS (ybq (tbI .i64) tbB)):Tb KK _).E (fun x:yaB=>(x.Name,x.Kind,x.Key))
def b55:Tb KK yaB:=yfq (ybq tbS (ybq (tbI .i64) tbB)) (fun x:yaB=>(x.Name,x.Kind,x.Key)) (fun y=>(⟨y.1,y.2.1,y.2.2⟩:yaB)) ya7
def ycG:Enc ybu:=yen ((ybq (tbI .u8) (ybq tbS (ybq (tbL 55 ya7:Tb KK (List yaB)) (tbL 9 eS:Tb KK (List Str))))):Tb KK _).E (fun x:ybu=>(x.What,x.Name,x.Columns,x.Uses))
def b33:Tb KK ybu:=yfq (ybq (tbI .u8) (ybq tbS (ybq (tbL 55 ya7:Tb KK (List yaB)) (tbL 9 eS:Tb KK (List Str))))) (fun x:ybu=>(x.What,x.Name,x.Columns,x.Uses)) (fun y=>(⟨y.1,y.2.1,y.2.2.1,y.2.2.2⟩:ybu)) ycG
def ya4:Enc yau:=yen ((ybq tbS (ybq (tbI .i64) tbB)):Tb KK _).E (fun x:yau=>(x.Name,x.Kind,x.Key))
def b53:Tb KK yau:=yfq (ybq tbS (ybq (tbI .i64) tbB)) (fun x:yau=>(x.Name,x.Kind,x.Key)) (fun y=>(⟨y.1,y.2.1,y.2.2⟩:yau)) ya4
def ybh:Enc yaw:=yen ((ybq tbS (ybq (tbL 53 ya4:Tb KK (List yau)) (tbI .i64))):Tb KK _).E (fun x:yaw=>(x.Name,x.Columns,x.Key))
def b44:Tb KK yaw:=yfq (ybq tbS (ybq (tbL 53 ya4:Tb KK (List yau)) (tbI .i64))) (fun x:yaw=>(x.Name,x.Columns,x.Key)) (fun y=>(⟨y.1,y.2.1,y.2.2⟩:yaw)) ybh
def ybw:Enc yaH:=yen ((ybq tbS (tbL 9 eS:Tb KK (List Str))):Tb KK _).E (fun x:yaH=>(x.Name,x.Uses))
def b41:Tb KK yaH:=yfq (ybq tbS (tbL 9 eS:Tb KK (List Str))) (fun x:yaH=>(x.Name,x.Uses)) (fun y=>(⟨y.1,y.2⟩:yaH)) ybw
def yf4:Enc yaA:=yen ((ybq (tbL 44 ybh:Tb KK (List yaw)) (tbL 41 ybw:Tb KK (List yaH))):Tb KK _).E (fun x:yaA=>(x.Tables,x.Views))
def b29:Tb KK yaA:=yfq (ybq (tbL 44 ybh:Tb KK (List yaw)) (tbL 41 ybw:Tb KK (List yaH))) (fun x:yaA=>(x.Tables,x.Views)) (fun y=>(⟨y.1,y.2⟩:yaA)) yf4
def ybg:Enc yad:=yen ((ybq tbS (ybq (tbI .i64) tbB)):Tb KK _).E (fun x:yad=>(x.Name,x.Kind,x.Key))
def b54:Tb KK yad:=yfq (ybq tbS (ybq (tbI .i64) tbB)) (fun x:yad=>(x.Name,x.Kind,x.Key)) (fun y=>(⟨y.1,y.2.1,y.2.2⟩:yad)) ybg
def yaV:Enc yam:=yen ((ybq tbS (ybq (tbL 54 ybg:Tb KK (List yad)) (tbI .i64))):Tb KK _).E (fun x:yam=>(x.Name,x.Columns,x.Key))
def b47:Tb KK yam:=yfq (ybq tbS (ybq (tbL 54 ybg:Tb KK (List yad)) (tbI .i64))) (fun x:yam=>(x.Name,x.Columns,x.Key)) (fun y=>(⟨y.1,y.2.1,y.2.2⟩:yam)) yaV
def ybj:Enc yax:=yen ((ybq tbS (tbL 9 eS:Tb KK (List Str))):Tb KK _).E (fun x:yax=>(x.name,x.uses))
def b136:Tb KK yax:=yfq (ybq tbS (tbL 9 eS:Tb KK (List Str))) (fun x:yax=>(x.name,x.uses)) (fun y=>(⟨y.1,y.2⟩:yax)) ybj
def ygM:Enc yaa:=yen ((ybq (tbL 47 yaV:Tb KK (List yam)) (tbL 136 ybj:Tb KK (List yax))):Tb KK _).E (fun x:yaa=>(x.tables,x.views))
def b139:Tb KK yaa:=yfq (ybq (tbL 47 yaV:Tb KK (List yam)) (tbL 136 ybj:Tb KK (List yax))) (fun x:yaa=>(x.tables,x.views)) (fun y=>(⟨y.1,y.2⟩:yaa)) ygM
def TF:(c:TC)→Tb KK (KF c)
 | .c0=>tbU
 | .c3=>(tbI .i64)
 | .c4=>tbB
 | .c5=>(tbI .u8)
 | .c9=>tbS
 | .c22=>(tbL 33 ycG:Tb KK (List ybu))
 | .c26=>(tbL 44 ybh:Tb KK (List yaw))
 | .c27=>(tbL 41 ybw:Tb KK (List yaH))
 | .c29=>b29
 | .c30=>(tbL 55 ya7:Tb KK (List yaB))
 | .c31=>(tbL 9 eS:Tb KK (List Str))
 | .c33=>b33
 | .c41=>b41
 | .c42=>(tbL 53 ya4:Tb KK (List yau))
 | .c44=>b44
 | .c45=>(tbL 54 ybg:Tb KK (List yad))
 | .c47=>b47
 | .c53=>b53
 | .c54=>b54
 | .c55=>b55
 | .c134=>(tbL 47 yaV:Tb KK (List yam))
 | .c136=>b136
 | .c137=>(tbL 136 ybj:Tb KK (List yax))
 | .c139=>b139
def CC:Cx KK:= @cxOf TC KF code TF
theorem yng:TbOk Try.prog CC b55:=yb8 (ya1 yeZ (ya1 (yfA _) ykP)) (fun y=>rfl) (fun x=>rfl)
theorem ydQ:∀x,dwks (ya7.c x)=ya7.c x:=yng.dw
theorem ydK:∀x m,hlts m (ya7.c x)=true:=yng.hl
theorem ymd:TbOk Try.prog CC b33:=yb8 (ya1 (yfA _) (ya1 yeZ (ya1 (yb0 _ rfl ydQ ydK) (yb0 _ rfl (fun _=>rfl) (fun _ _=>rfl))))) (fun y=>rfl) (fun x=>rfl)
theorem yh3:∀x,dwks (ycG.c x)=ycG.c x:=ymd.dw
theorem yiA:∀x m,hlts m (ycG.c x)=true:=ymd.hl
theorem ynv:TbOk Try.prog CC b53:=yb8 (ya1 yeZ (ya1 (yfA _) ykP)) (fun y=>rfl) (fun x=>rfl)
theorem ydM:∀x,dwks (ya4.c x)=ya4.c x:=ynv.dw
theorem ydI:∀x m,hlts m (ya4.c x)=true:=ynv.hl
theorem ymu:TbOk Try.prog CC b44:=yb8 (ya1 yeZ (ya1 (yb0 _ rfl ydM ydI) (yfA _))) (fun y=>rfl) (fun x=>rfl)
theorem yev:∀x,dwks (ybh.c x)=ybh.c x:=ymu.dw
theorem yep:∀x m,hlts m (ybh.c x)=true:=ymu.hl
theorem ymA:TbOk Try.prog CC b41:=yb8 (ya1 yeZ (yb0 _ rfl (fun _=>rfl) (fun _ _=>rfl))) (fun y=>rfl) (fun x=>rfl)
theorem yeN:∀x,dwks (ybw.c x)=ybw.c x:=ymA.dw
theorem yeL:∀x m,hlts m (ybw.c x)=true:=ymA.hl
theorem ysh:TbOk Try.prog CC b29:=yb8 (ya1 (yb0 _ rfl yev yep) (yb0 _ rfl yeN yeL)) (fun y=>rfl) (fun x=>rfl)
theorem ynt:TbOk Try.prog CC b54:=yb8 (ya1 yeZ (ya1 (yfA _) ykP)) (fun y=>rfl) (fun x=>rfl)
theorem yem:∀x,dwks (ybg.c x)=ybg.c x:=ynt.dw
theorem yet:∀x m,hlts m (ybg.c x)=true:=ynt.hl
theorem ylF:TbOk Try.prog CC b47:=yb8 (ya1 yeZ (ya1 (yb0 _ rfl yem yet) (yfA _))) (fun y=>rfl) (fun x=>rfl)
theorem ydq:∀x,dwks (yaV.c x)=yaV.c x:=ylF.dw
theorem ydn:∀x m,hlts m (yaV.c x)=true:=ylF.hl
theorem yjd:TbOk Try.prog CC b136:=yb8 (ya1 yeZ (yb0 _ rfl (fun _=>rfl) (fun _ _=>rfl))) (fun y=>rfl) (fun x=>rfl)
theorem yel:∀x,dwks (ybj.c x)=ybj.c x:=yjd.dw
theorem yeu:∀x m,hlts m (ybj.c x)=true:=yjd.hl
theorem yrr:TbOk Try.prog CC b139:=yb8 (ya1 (yb0 _ rfl ydq ydn) (yb0 _ rfl yel yeu)) (fun y=>rfl) (fun x=>rfl)
theorem yrA:CxOk Try.prog CC:= @yqA TC KF code _ TF fun c=>match c with
 | .c0=>ysQ
 | .c3=>(yfA _)
 | .c4=>ykP
 | .c5=>(yfA _)
 | .c9=>yeZ
 | .c22=>(yb0 _ rfl yh3 yiA)
 | .c26=>(yb0 _ rfl yev yep)
 | .c27=>(yb0 _ rfl yeN yeL)
 | .c29=>ysh
 | .c30=>(yb0 _ rfl ydQ ydK)
 | .c31=>(yb0 _ rfl (fun _=>rfl) (fun _ _=>rfl))
 | .c33=>ymd
 | .c41=>ymA
 | .c42=>(yb0 _ rfl ydM ydI)
 | .c44=>ymu
 | .c45=>(yb0 _ rfl yem yet)
 | .c47=>ylF
 | .c53=>ynv
 | .c54=>ynt
 | .c55=>yng
 | .c134=>(yb0 _ rfl ydq ydn)
 | .c136=>yjd
 | .c137=>(yb0 _ rfl yel yeu)
 | .c139=>yrr
def mkC (c:Cl):yad:=⟨c.1,c.2.1,c.2.2⟩
def unC (l:List yad):List Cl:=l.map fun y=>(y.Name,y.Kind,y.Key)
def mkTb (t:List UInt8×List Cl×Int):yam:=⟨t.1,t.2.1.map mkC,t.2.2⟩
def mkS (T:CTb) (W:CVw):yaa:=⟨T.map mkTb,W.map fun v=>⟨v.1,v.2⟩⟩
theorem encS (T:CTb) (W:CVw):(CC.E 139).c (mkS T W)=kWh T W:=by
 have:(CC.E 139).c (mkS T W)= [.sl false (T.map mkTb).length ((T.map mkTb).flatMap fun y=> [.st y.Name, .sl false y.Columns.length (y.Columns.flatMap fun z=> [.st z.Name, .it .i64 z.Kind, .bl z.Key]), .it .i64 y.Key]), .sl false (W.map fun v=>(⟨v.1,v.2⟩:yax)).length ((W.map fun v=>(⟨v.1,v.2⟩:yax)).flatMap fun y=> [.st y.name, .sl false y.uses.length (y.uses.flatMap fun n=> [.st n])])]:=by kernel_rfl
 rw[this]
 have e:∀l:List Cl,((l.map mkC).flatMap fun z=> [AV.st z.Name, .it .i64 z.Kind, .bl z.Key])=l.flatMap clA:=fun l=>by rw[List.flatMap_map];rfl
 simp[kWh,ctbA,cvwA,List.flatMap_map,mkTb,e]
theorem encC (l:List yad):(AV.sl false l.length (l.flatMap fun z=> [.st z.Name, .it .i64 z.Kind, .bl z.Key]))= .sl false (unC l).length ((unC l).flatMap clA):=by
 unfold unC
 rw[List.length_map,List.flatMap_map]
 rfl
theorem encT (x:List UInt8×List Cl×Int):AV.agg ((CC.E 47).c (mkTb x))=tbA x:=by
 have:(CC.E 47).c (mkTb x)= [.st x.1, .sl false (x.2.1.map mkC).length ((x.2.1.map mkC).flatMap fun z=> [.st z.Name, .it .i64 z.Kind, .bl z.Key]), .it .i64 x.2.2]:=by kernel_rfl
 rw[this,List.length_map,List.flatMap_map]
 rfl
theorem colR (l:List yad) {mem:Nat→Option Blk} {u:AV} (h:(u= .sl true 0 []∧l= [])∨(u= .gs (.l 2000001 1) l.length∧mem 2000001=some ⟨54,(CC.E 54).sz,cl (CC.E 54) l⟩)):(u= .sl true 0 []∧unC l= [])∨(u= .gs (.l 2000001 1) (unC l).length∧mem 2000001=some ⟨54,3,(unC l).flatMap clA⟩):=by
 rcases h with ⟨h1,h2⟩|⟨h1,h2⟩
 ·exact .inl ⟨h1,by rw[h2];rfl⟩
 ·refine .inr ⟨by rw[h1,unC,List.length_map],?_⟩
  have e:cl (CC.E 54) l=l.flatMap fun z=> [.st z.Name, .it .i64 z.Kind, .bl z.Key]:=by kernel_rfl
  rw[h2,e,unC,List.flatMap_map]
  rfl
theorem strR (l:List Str) {mem:Nat→Option Blk} {u:AV} (h:(u= .sl true 0 []∧l= [])∨(u= .gs (.l 2000001 1) l.length∧mem 2000001=some ⟨9,(CC.E 9).sz,cl (CC.E 9) l⟩)):(u= .sl true 0 []∧l= [])∨(u= .gs (.l 2000001 1) l.length∧mem 2000001=some ⟨9,1,l.flatMap fun s=> [.st s]⟩):=by
 rcases h with ⟨h1,h2⟩|⟨h1,h2⟩
 ·exact .inl ⟨h1,h2⟩
 ·exact .inr ⟨h1,h2⟩
def ybl (r0:yaa):Prop:=
 r0=mkS [] []
def yc4:Sl KK:=⟨6,[],⟨[],[],[]⟩,⟨[(0, .px 1000000 0)],[(1000000,1000002,[.v 139])],[]⟩,[],[(0,none)],true,fun _ _ _=>True⟩
def yaI:Sl KK:=⟨6,[],⟨[],[],[]⟩,⟨[(0, .px 1000000 0)],[(1000000,1000002,[.v 139])],[]⟩,[],[(0,none)],true,apFs (K:=KK) (ctT yc4.ti) (ctT yc4.te) [] ybl⟩
theorem yc0:SlOk Try.prog CC yaI:=by
 intro fs env out hl hF hW
 obtain ⟨rfl,h0⟩:=yfz hW
 obtain ⟨rfl,h1⟩:=yfx h0
 obtain ⟨r0,er0,rfl,h2⟩:=yb1 h1
 obtain ⟨rfl,hf⟩:=ydT h2
 obtain rfl:r0=mkS [] []:=hf
 exact yri (C:=CC) (sp:=yaI) (env:= []) (out:= [.v 139 (mkS [] [])]) (env':= [.v 139 (mkS [] [])]) (e:=1000002) (t:=139) (x:=mkS [] []) (args:= []) (us:= [.px 1000000 1 0]) (fun H n=>by rw[encS];exact ysX H n) (by kernel_rfl) (fun χ=>by kernel_rfl) (by kernel_rfl) (Eq.mpr (show kpt (entL CC yaI [] []) (bdT CC yaI.to [] [] [.v 139 (mkS [] [])]) yaI.kp (eqDV (selL yaI [.v 139 (mkS [] [])]) [.v 139 (mkS [] [])])=(mkS [] []=mkS [] []) by kernel_rfl) rfl) (by kernel_rfl) (by kernel_rfl) (by kernel_rfl)
def yaz (a0:Str) (a2:yaa) (a1:List yad) (r0:Int) (r1:yaa):Prop:=
 ∃T W,a2=mkS T W/\a0.length<=9223372036854775807/\(unC a1).length<=1000000/\(∀c∈unC a1,c.1.length<=9223372036854775807)/\r0=mkE T W a0 (unC a1)/\r1=mkS (mkT T W a0 (unC a1)) W
def ybI:Sl KK:=⟨15,[],⟨[(0, .px 2000000 0),(1, .st),(2, .row 2000001)],[(2000000,1000002,[.v 139])],[(2000001,54)]⟩,⟨[(6, .it .i64)],[(2000000,1000002,[.v 139])],[]⟩,[2000001],[(6,none)],true,fun _ _ _=>True⟩
def yag:Sl KK:=⟨15,[],⟨[(0, .px 2000000 0),(1, .st),(2, .row 2000001)],[(2000000,1000002,[.v 139])],[(2000001,54)]⟩,⟨[(6, .it .i64)],[(2000000,1000002,[.v 139])],[]⟩,[2000001],[(6,none)],true,apFs (K:=KK) (ctT ybI.ti) (ctT ybI.te) [] yaz⟩
theorem ybE:SlOk Try.prog CC yag:=by
 intro fs env out hl hF hW
 obtain ⟨rfl,h0⟩:=yfz hW
 obtain ⟨a0,ea0,rfl,h1⟩:=ych h0
 obtain ⟨a2,ea2,rfl,h2⟩:=ych h1
 obtain ⟨a1,ea1,rfl,h3⟩:=ych h2
 obtain ⟨rfl,h4⟩:=yfx h3
 obtain ⟨r0,er0,rfl,h5⟩:=yb1 h4
 obtain ⟨r1,er1,rfl,h6⟩:=yb1 h5
 obtain ⟨rfl,hf⟩:=ydT h6
 obtain ⟨T,W,rfl,c0,c1,c2,rfl,rfl⟩:=hf
 exact yiL (C:=CC) (sp:=yag) (env:= [.s a0, .v 139 (mkS T W), .l 54 a1]) (out:= [.i (mkE T W a0 (unC a1)), .v 139 (mkS (mkT T W a0 (unC a1)) W)]) (env':= [.i (mkE T W a0 (unC a1)), .v 139 (mkS (mkT T W a0 (unC a1)) W), .l 54 a1]) (e:=1000002) (t:=139) (et:=54) (x:=(mkS T W)) (x':=(mkS (mkT T W a0 (unC a1)) W)) (l:=a1) (args:=fun u=> .pt (.l 2000000 1) 0:: [.st a0,u]) (us:= [.it .i64 (mkE T W a0 (unC a1))]) (fun mem u h hu H n=>by simp only[encS] at h⊢;exact yrw T W a0 (unC a1) c0 c1 c2 h (colR a1 hu) H n) (by kernel_rfl) (fun χ=>by kernel_rfl) (by kernel_rfl) (Eq.mpr (show kpt (entL CC yag [] [.s a0, .v 139 (mkS T W), .l 54 a1]) (bdT CC yag.to [] [] [.i (mkE T W a0 (unC a1)), .v 139 (mkS (mkT T W a0 (unC a1)) W), .l 54 a1]) yag.kp (eqDV (selL yag [.i (mkE T W a0 (unC a1)), .v 139 (mkS (mkT T W a0 (unC a1)) W), .l 54 a1]) [.i (mkE T W a0 (unC a1)), .v 139 (mkS (mkT T W a0 (unC a1)) W)])=(a1=a1/\(mkE T W a0 (unC a1):Int)=mkE T W a0 (unC a1)/\(mkS (mkT T W a0 (unC a1)) W)=(mkS (mkT T W a0 (unC a1)) W)) by kernel_rfl) ⟨rfl,rfl,rfl⟩) (by kernel_rfl) (by kernel_rfl) (fun χ=>by kernel_rfl)
def yan (a0:Str) (a2:yaa) (a1:List Str) (r0:Int) (r1:yaa):Prop:=
 ∃T W,a2=mkS T W/\a0.length<=9223372036854775807/\a1.length<=1000000/\(∀u∈a1,u.length<=9223372036854775807)/\r0=vwE T W a0 a1/\r1=mkS T (vwT T W a0 a1)
def ybJ:Sl KK:=⟨9,[],⟨[(0, .px 2000000 0),(1, .st),(2, .row 2000001)],[(2000000,1000002,[.v 139])],[(2000001,9)]⟩,⟨[(6, .it .i64)],[(2000000,1000002,[.v 139])],[]⟩,[2000001],[(6,none)],true,fun _ _ _=>True⟩
def yai:Sl KK:=⟨9,[],⟨[(0, .px 2000000 0),(1, .st),(2, .row 2000001)],[(2000000,1000002,[.v 139])],[(2000001,9)]⟩,⟨[(6, .it .i64)],[(2000000,1000002,[.v 139])],[]⟩,[2000001],[(6,none)],true,apFs (K:=KK) (ctT ybJ.ti) (ctT ybJ.te) [] yan⟩
theorem ybG:SlOk Try.prog CC yai:=by
 intro fs env out hl hF hW
 obtain ⟨rfl,h0⟩:=yfz hW
 obtain ⟨a0,ea0,rfl,h1⟩:=ych h0
 obtain ⟨a2,ea2,rfl,h2⟩:=ych h1
 obtain ⟨a1,ea1,rfl,h3⟩:=ych h2
 obtain ⟨rfl,h4⟩:=yfx h3
 obtain ⟨r0,er0,rfl,h5⟩:=yb1 h4
 obtain ⟨r1,er1,rfl,h6⟩:=yb1 h5
 obtain ⟨rfl,hf⟩:=ydT h6
 obtain ⟨T,W,rfl,c0,c1,c2,rfl,rfl⟩:=hf
 exact yiL (C:=CC) (sp:=yai) (env:= [.s a0, .v 139 (mkS T W), .l 9 a1]) (out:= [.i (vwE T W a0 a1), .v 139 (mkS T (vwT T W a0 a1))]) (env':= [.i (vwE T W a0 a1), .v 139 (mkS T (vwT T W a0 a1)), .l 9 a1]) (e:=1000002) (t:=139) (et:=9) (x:=(mkS T W)) (x':=(mkS T (vwT T W a0 a1))) (l:=a1) (args:=fun u=> .pt (.l 2000000 1) 0:: [.st a0,u]) (us:= [.it .i64 (vwE T W a0 a1)]) (fun mem u h hu H n=>by simp only[encS] at h⊢;exact yqM T W a0 a1 c0 c1 c2 h (strR a1 hu) H n) (by kernel_rfl) (fun χ=>by kernel_rfl) (by kernel_rfl) (Eq.mpr (show kpt (entL CC yai [] [.s a0, .v 139 (mkS T W), .l 9 a1]) (bdT CC yai.to [] [] [.i (vwE T W a0 a1), .v 139 (mkS T (vwT T W a0 a1)), .l 9 a1]) yai.kp (eqDV (selL yai [.i (vwE T W a0 a1), .v 139 (mkS T (vwT T W a0 a1)), .l 9 a1]) [.i (vwE T W a0 a1), .v 139 (mkS T (vwT T W a0 a1))])=(a1=a1/\(vwE T W a0 a1:Int)=vwE T W a0 a1/\(mkS T (vwT T W a0 a1))=(mkS T (vwT T W a0 a1))) by kernel_rfl) ⟨rfl,rfl,rfl⟩) (by kernel_rfl) (by kernel_rfl) (fun χ=>by kernel_rfl)
def yaY (a0:Str) (a1:yaa) (r0:yam) (r1:Bool):Prop:=
 ∃T W,a1=mkS T W/\a0.length<=9223372036854775807/\r0=mkTb (tbOf T a0)/\r1=(gAt T a0).isSome
def ybx:Sl KK:=⟨13,[],⟨[(0, .px 2000000 0),(1, .st)],[(2000000,1000002,[.v 139])],[]⟩,⟨[(4, .v 47),(5, .bl)],[],[]⟩,[2000000],[(4,none),(5,none)],true,fun _ _ _=>True⟩
def yak:Sl KK:=⟨13,[],⟨[(0, .px 2000000 0),(1, .st)],[(2000000,1000002,[.v 139])],[]⟩,⟨[(4, .v 47),(5, .bl)],[],[]⟩,[2000000],[(4,none),(5,none)],true,apFs (K:=KK) (ctT ybx.ti) (ctT ybx.te) [] yaY⟩
theorem ycJ:SlOk Try.prog CC yak:=by
 intro fs env out hl hF hW
 obtain ⟨rfl,h0⟩:=yfz hW
 obtain ⟨a0,ea0,rfl,h1⟩:=ych h0
 obtain ⟨a1,ea1,rfl,h2⟩:=ych h1
 obtain ⟨rfl,h3⟩:=yfx h2
 obtain ⟨r0,er0,rfl,h4⟩:=yb1 h3
 obtain ⟨r1,er1,rfl,h5⟩:=yb1 h4
 obtain ⟨rfl,hf⟩:=ydT h5
 obtain ⟨T,W,rfl,c0,rfl,rfl⟩:=hf
 exact ye0 (C:=CC) (sp:=yak) (env:= [.s a0, .v 139 (mkS T W)]) (out:= [.v 47 (mkTb (tbOf T a0)), .b (gAt T a0).isSome]) (env':= [.v 47 (mkTb (tbOf T a0)), .b (gAt T a0).isSome, .v 139 (mkS T W)]) (e:=1000002) (t:=139) (x:=(mkS T W)) (x':=(mkS T W)) (rest:= [.st a0]) (av:= .tup [AV.agg ((CC.E 47).c (mkTb (tbOf T a0))), .bl (gAt T a0).isSome]) (us:= [inV CC 47 (mkTb (tbOf T a0)), .bl (gAt T a0).isSome]) (fun H n=>by simp only[encS,encT];exact yqn T W a0 c0 H n) (by kernel_rfl) (by kernel_rfl) (fun χ=>by kernel_rfl) (by kernel_rfl) (Eq.mpr (show kpt (entL CC yak [] [.s a0, .v 139 (mkS T W)]) (bdT CC yak.to [] [] [.v 47 (mkTb (tbOf T a0)), .b (gAt T a0).isSome, .v 139 (mkS T W)]) yak.kp (eqDV (selL yak [.v 47 (mkTb (tbOf T a0)), .b (gAt T a0).isSome, .v 139 (mkS T W)]) [.v 47 (mkTb (tbOf T a0)), .b (gAt T a0).isSome])=((mkS T W)=(mkS T W)/\(mkTb (tbOf T a0):yam)=mkTb (tbOf T a0)/\((gAt T a0).isSome:Bool)=(gAt T a0).isSome) by kernel_rfl) ⟨rfl,rfl,rfl⟩) (by kernel_rfl) (by kernel_rfl) (by kernel_rfl)
def yao (a0:Str) (a1:yaa) (r0:Int) (r1:yaa):Prop:=
 ∃T W,a1=mkS T W/\a0.length<=9223372036854775807/\r0=dpE T W a0/\r1=mkS (dpT T W a0) W
def ybF:Sl KK:=⟨7,[],⟨[(0, .px 2000000 0),(1, .st)],[(2000000,1000002,[.v 139])],[]⟩,⟨[(4, .it .i64)],[(2000000,1000002,[.v 139])],[]⟩,[],[(4,none)],true,fun _ _ _=>True⟩
def yah:Sl KK:=⟨7,[],⟨[(0, .px 2000000 0),(1, .st)],[(2000000,1000002,[.v 139])],[]⟩,⟨[(4, .it .i64)],[(2000000,1000002,[.v 139])],[]⟩,[],[(4,none)],true,apFs (K:=KK) (ctT ybF.ti) (ctT ybF.te) [] yao⟩
theorem ybH:SlOk Try.prog CC yah:=by
 intro fs env out hl hF hW
 obtain ⟨rfl,h0⟩:=yfz hW
 obtain ⟨a0,ea0,rfl,h1⟩:=ych h0
 obtain ⟨a1,ea1,rfl,h2⟩:=ych h1
 obtain ⟨rfl,h3⟩:=yfx h2
 obtain ⟨r0,er0,rfl,h4⟩:=yb1 h3
 obtain ⟨r1,er1,rfl,h5⟩:=yb1 h4
 obtain ⟨rfl,hf⟩:=ydT h5
 obtain ⟨T,W,rfl,c0,rfl,rfl⟩:=hf
 exact ye0 (C:=CC) (sp:=yah) (env:= [.s a0, .v 139 (mkS T W)]) (out:= [.i (dpE T W a0), .v 139 (mkS (dpT T W a0) W)]) (env':= [.i (dpE T W a0), .v 139 (mkS (dpT T W a0) W)]) (e:=1000002) (t:=139) (x:=(mkS T W)) (x':=(mkS (dpT T W a0) W)) (rest:= [.st a0]) (us:= [.it .i64 (dpE T W a0)]) (fun H n=>by simp only[encS];exact yry T W a0 c0 H n) (by kernel_rfl) (by kernel_rfl) (fun χ=>by kernel_rfl) (by kernel_rfl) (Eq.mpr (show kpt (entL CC yah [] [.s a0, .v 139 (mkS T W)]) (bdT CC yah.to [] [] [.i (dpE T W a0), .v 139 (mkS (dpT T W a0) W)]) yah.kp (eqDV (selL yah [.i (dpE T W a0), .v 139 (mkS (dpT T W a0) W)]) [.i (dpE T W a0), .v 139 (mkS (dpT T W a0) W)])=((dpE T W a0:Int)=dpE T W a0/\(mkS (dpT T W a0) W)=(mkS (dpT T W a0) W)) by kernel_rfl) ⟨rfl,rfl⟩) (by kernel_rfl) (by kernel_rfl) (by kernel_rfl)
def ycH (r0 x8:Bool):Prop:=
 x8=r0
def ya6 (r0:Bool):Prop:=
 ∃z1,(ybl z1)/\∃z2 z3,(yaz ([116]:Str) z1 ([(⟨([97]:Str),(2:Int),true⟩:yad)]:List yad) z2 z3)/\∃z4 z5,(yan ([118]:Str) z3 ([([116]:Str)]:List Str) z4 z5)/\∃z6 z7,(yaY ([116]:Str) z5 z6 z7)/\∀J1:Bool->Prop,(∀x8,ycH r0 x8->J1 x8)->cnd (z2==(0:Int)) (cnd (z4==(0:Int)) (cnd z7 ((z6.Columns.length<=maxLen->cnd ((z6.Columns.length:Int)==(1:Int)) (cnd (z6.Key==(0:Int)) (∃z9 z10,(yao ([116]:Str) z5 z9 z10)/\J1 (z9==(15:Int))) (J1 false)) (J1 false))) (J1 false)) (J1 false)) (J1 false)
def yaC (r0 x8:Bool):Prop:=
 x8=r0
def ycD (r0:Bool):Prop:=
 ∃z1,(ybl z1)/\∃z2 z3,(yaz ([116]:Str) z1 ([(⟨([97]:Str),(2:Int),true⟩:yad)]:List yad) z2 z3)/\∃z4 z5,(yan ([118]:Str) z3 ([([116]:Str)]:List Str) z4 z5)/\∃z6 z7,(yaY ([116]:Str) z5 z6 z7)/\cnd (z2==(0:Int)) (cnd (z4==(0:Int)) (cnd z7 ((z6.Columns.length<=maxLen->cnd ((z6.Columns.length:Int)==(1:Int)) (cnd (z6.Key==(0:Int)) (∃z9 z10,(yao ([116]:Str) z5 z9 z10)/\yaC r0 (z9==(15:Int))) (yaC r0 false)) (yaC r0 false))) (yaC r0 false)) (yaC r0 false)) (yaC r0 false)
theorem yfu (r0:Bool) {x8:Bool} (h:yaC r0 x8):ycH r0 x8:=by
 unfold ycH
 unfold yaC at h
 exact h
theorem ygJ (r0:Bool) (h:ycD r0):ya6 r0:=by
 unfold ya6
 unfold ycD at h
 obtain ⟨z1,h⟩:=h
 refine ⟨z1,?_⟩
 obtain ⟨h0,h⟩:=h
 refine ⟨h0,?_⟩
 obtain ⟨z2,h⟩:=h
 refine ⟨z2,?_⟩
 obtain ⟨z3,h⟩:=h
 refine ⟨z3,?_⟩
 obtain ⟨h0,h⟩:=h
 refine ⟨h0,?_⟩
 obtain ⟨z4,h⟩:=h
 refine ⟨z4,?_⟩
 obtain ⟨z5,h⟩:=h
 refine ⟨z5,?_⟩
 obtain ⟨h0,h⟩:=h
 refine ⟨h0,?_⟩
 obtain ⟨z6,h⟩:=h
 refine ⟨z6,?_⟩
 obtain ⟨z7,h⟩:=h
 refine ⟨z7,?_⟩
 obtain ⟨h0,h⟩:=h
 refine ⟨h0,?_⟩
 intro J1 kJ1
 have hJ1:∀x8,yaC r0 x8->J1 x8:=fun x8 q=>kJ1 x8 (yfu r0 q)
 refine ybA h (fun h=> ?_) (fun h=> ?_)
 ·refine ybA h (fun h=> ?_) (fun h=> ?_)
  ·refine ybA h (fun h=> ?_) (fun h=> ?_)
   ·intro c
    replace h:=h c
    refine ybA h (fun h=> ?_) (fun h=> ?_)
    ·refine ybA h (fun h=> ?_) (fun h=> ?_)
     ·obtain ⟨z9,h⟩:=h
      refine ⟨z9,?_⟩
      obtain ⟨z10,h⟩:=h
      refine ⟨z10,?_⟩
      obtain ⟨h0,h⟩:=h
      refine ⟨h0,?_⟩
      exact hJ1 _ h
     ·exact hJ1 _ h
    ·exact hJ1 _ h
   ·exact hJ1 _ h
  ·exact hJ1 _ h
 ·exact hJ1 _ h
def ydW:Sp KK:=⟨5,[],[4],appW (K:=KK) [4] [] ya6⟩
def ygb:An KK:=(.s .o (.s .o (.s .o (.s .o (.s .o (.j ⟨[(0, .bl)],[],[]⟩ .o (fun _=> .o)))))))
def ygG:Cf KK:=⟨CC,[],[yaI,yag,yai,yak,yah],44,[],none,false⟩
theorem yf3:SpOk Try.prog CC ydW:=yms (F:=ygG) (ps:= []) (rs:= [4]) (w:=ya6) yrA ypF (ydo yc0 (ydo ybE (ydo ybG (ydo ycJ (ydo ybH yo7))))) t5 (A:=ygb) (by kernel_rfl) (by kernel_rfl) (fun r0=>show _=_ by kernel_rfl)
def yaP (a0:Str) (a1:yaa) (r0:Int) (r1:yaa):Prop:=
 ∃T W,a1=mkS T W/\a0.length<=9223372036854775807/\r0=dvE W a0/\r1=mkS T (gDel W a0)
def ybe:Sl KK:=⟨11,[],⟨[(0, .px 2000000 0),(1, .st)],[(2000000,1000002,[.v 139])],[]⟩,⟨[(4, .it .i64)],[(2000000,1000002,[.v 139])],[]⟩,[],[(4,none)],true,fun _ _ _=>True⟩
def yae:Sl KK:=⟨11,[],⟨[(0, .px 2000000 0),(1, .st)],[(2000000,1000002,[.v 139])],[]⟩,⟨[(4, .it .i64)],[(2000000,1000002,[.v 139])],[]⟩,[],[(4,none)],true,apFs (K:=KK) (ctT ybe.ti) (ctT ybe.te) [] yaP⟩
theorem ycn:SlOk Try.prog CC yae:=by
 intro fs env out hl hF hW
 obtain ⟨rfl,h0⟩:=yfz hW
 obtain ⟨a0,ea0,rfl,h1⟩:=ych h0
 obtain ⟨a1,ea1,rfl,h2⟩:=ych h1
 obtain ⟨rfl,h3⟩:=yfx h2
 obtain ⟨r0,er0,rfl,h4⟩:=yb1 h3
 obtain ⟨r1,er1,rfl,h5⟩:=yb1 h4
 obtain ⟨rfl,hf⟩:=ydT h5
 obtain ⟨T,W,rfl,c0,rfl,rfl⟩:=hf
 exact ye0 (C:=CC) (sp:=yae) (env:= [.s a0, .v 139 (mkS T W)]) (out:= [.i (dvE W a0), .v 139 (mkS T (gDel W a0))]) (env':= [.i (dvE W a0), .v 139 (mkS T (gDel W a0))]) (e:=1000002) (t:=139) (x:=(mkS T W)) (x':=(mkS T (gDel W a0))) (rest:= [.st a0]) (us:= [.it .i64 (dvE W a0)]) (fun H n=>by simp only[encS];exact yqg T W a0 c0 H n) (by kernel_rfl) (by kernel_rfl) (fun χ=>by kernel_rfl) (by kernel_rfl) (Eq.mpr (show kpt (entL CC yae [] [.s a0, .v 139 (mkS T W)]) (bdT CC yae.to [] [] [.i (dvE W a0), .v 139 (mkS T (gDel W a0))]) yae.kp (eqDV (selL yae [.i (dvE W a0), .v 139 (mkS T (gDel W a0))]) [.i (dvE W a0), .v 139 (mkS T (gDel W a0))])=((dvE W a0:Int)=dvE W a0/\(mkS T (gDel W a0))=(mkS T (gDel W a0))) by kernel_rfl) ⟨rfl,rfl⟩) (by kernel_rfl) (by kernel_rfl) (by kernel_rfl)
def yas (a0:Str) (a1:yaa) (r0:List Str):Prop:=
 ∃T W,a1=mkS T W/\a0.length<=9223372036854775807/\r0=usr W a0
def ybr:Sl KK:=⟨19,[],⟨[(0, .px 2000000 0),(1, .st)],[(2000000,1000002,[.v 139])],[]⟩,⟨[(4, .sl 9)],[],[]⟩,[2000000],[(4,none)],true,fun _ _ _=>True⟩
def yaj:Sl KK:=⟨19,[],⟨[(0, .px 2000000 0),(1, .st)],[(2000000,1000002,[.v 139])],[]⟩,⟨[(4, .sl 9)],[],[]⟩,[2000000],[(4,none)],true,apFs (K:=KK) (ctT ybr.ti) (ctT ybr.te) [] yas⟩
theorem ycC:SlOk Try.prog CC yaj:=by
 intro fs env out hl hF hW
 obtain ⟨rfl,h0⟩:=yfz hW
 obtain ⟨a0,ea0,rfl,h1⟩:=ych h0
 obtain ⟨a1,ea1,rfl,h2⟩:=ych h1
 obtain ⟨rfl,h3⟩:=yfx h2
 obtain ⟨r0,er0,rfl,h4⟩:=yb1 h3
 obtain ⟨rfl,hf⟩:=ydT h4
 obtain ⟨T,W,rfl,c0,rfl⟩:=hf
 exact ye0 (C:=CC) (sp:=yaj) (env:= [.s a0, .v 139 (mkS T W)]) (out:= [.l 9 (usr W a0)]) (env':= [.l 9 (usr W a0), .v 139 (mkS T W)]) (e:=1000002) (t:=139) (x:=(mkS T W)) (x':=(mkS T W)) (rest:= [.st a0]) (us:= [.sl 9 (usr W a0)]) (fun H n=>by simp only[encS];exact yqG T W a0 c0 H n) (by kernel_rfl) (by kernel_rfl) (fun χ=>by kernel_rfl) (by kernel_rfl) (Eq.mpr (show kpt (entL CC yaj [] [.s a0, .v 139 (mkS T W)]) (bdT CC yaj.to [] [] [.l 9 (usr W a0), .v 139 (mkS T W)]) yaj.kp (eqDV (selL yaj [.l 9 (usr W a0), .v 139 (mkS T W)]) [.l 9 (usr W a0)])=((mkS T W)=(mkS T W)/\(usr W a0:(List Str))=usr W a0) by kernel_rfl) ⟨rfl,rfl⟩) (by kernel_rfl) (by kernel_rfl) (by kernel_rfl)
def ya5 (a0:Str) (a1:List yad) (a2:yaa) (r0:Int) (r1:yaa):Prop:=
 ∃T W,a2=mkS T W/\a0.length<=9223372036854775807/\(unC a1).length<=1000000/\(∀c∈unC a1,c.1.length<=9223372036854775807)/\r0=mkE T W a0 (unC a1)/\r1=mkS (mkT T W a0 (unC a1)) W
def ybD:Sl KK:=⟨15,[],⟨[(0, .px 2000000 0),(1, .st),(2, .sl 54)],[(2000000,1000002,[.v 139])],[]⟩,⟨[(6, .it .i64)],[(2000000,1000002,[.v 139])],[]⟩,[],[(6,none)],true,fun _ _ _=>True⟩
def yal:Sl KK:=⟨15,[],⟨[(0, .px 2000000 0),(1, .st),(2, .sl 54)],[(2000000,1000002,[.v 139])],[]⟩,⟨[(6, .it .i64)],[(2000000,1000002,[.v 139])],[]⟩,[],[(6,none)],true,apFs (K:=KK) (ctT ybD.ti) (ctT ybD.te) [] ya5⟩
theorem ycP:SlOk Try.prog CC yal:=by
 intro fs env out hl hF hW
 obtain ⟨rfl,h0⟩:=yfz hW
 obtain ⟨a0,ea0,rfl,h1⟩:=ych h0
 obtain ⟨a1,ea1,rfl,h2⟩:=ych h1
 obtain ⟨a2,ea2,rfl,h3⟩:=ych h2
 obtain ⟨rfl,h4⟩:=yfx h3
 obtain ⟨r0,er0,rfl,h5⟩:=yb1 h4
 obtain ⟨r1,er1,rfl,h6⟩:=yb1 h5
 obtain ⟨rfl,hf⟩:=ydT h6
 obtain ⟨T,W,rfl,c0,c1,c2,rfl,rfl⟩:=hf
 exact ye0 (C:=CC) (sp:=yal) (env:= [.s a0, .l 54 a1, .v 139 (mkS T W)]) (out:= [.i (mkE T W a0 (unC a1)), .v 139 (mkS (mkT T W a0 (unC a1)) W)]) (env':= [.i (mkE T W a0 (unC a1)), .v 139 (mkS (mkT T W a0 (unC a1)) W)]) (e:=1000002) (t:=139) (x:=(mkS T W)) (x':=(mkS (mkT T W a0 (unC a1)) W)) (rest:= [.st a0, .sl false a1.length (a1.flatMap fun z=> [.st z.Name, .it .i64 z.Kind, .bl z.Key])]) (us:= [.it .i64 (mkE T W a0 (unC a1))]) (fun H n=>by have hL:=yso T W a0 (unC a1) c0 c1 c2 H n;rw[<-encC a1] at hL;simp only[encS];exact hL) (by kernel_rfl) (by kernel_rfl) (fun χ=>by kernel_rfl) (by kernel_rfl) (Eq.mpr (show kpt (entL CC yal [] [.s a0, .l 54 a1, .v 139 (mkS T W)]) (bdT CC yal.to [] [] [.i (mkE T W a0 (unC a1)), .v 139 (mkS (mkT T W a0 (unC a1)) W)]) yal.kp (eqDV (selL yal [.i (mkE T W a0 (unC a1)), .v 139 (mkS (mkT T W a0 (unC a1)) W)]) [.i (mkE T W a0 (unC a1)), .v 139 (mkS (mkT T W a0 (unC a1)) W)])=((mkE T W a0 (unC a1):Int)=mkE T W a0 (unC a1)/\(mkS (mkT T W a0 (unC a1)) W)=(mkS (mkT T W a0 (unC a1)) W)) by kernel_rfl) ⟨rfl,rfl⟩) (by kernel_rfl) (by kernel_rfl) (by kernel_rfl)
def ybP (r0:Bool) (X2:Int→yaa→Prop) (x9:Int) (x11:Bool) (x12:yaa):Prop:=
 cnd x11 (false=r0) (X2 (IntKind.i64.wrap (x9+(1:Int))) x12)
def ybN (x20:Int) (a0:List Str) (X4:Int→yaa→Prop) (r0 x22:Bool) (x23:yaa):Prop:=
 cnd x22 ((0<=x20)/\(x20<(a0.length:Int))/\∃y24:Str,(a0[x20.toNat]? =some y24)/\(([119]:Str).length+y24.length<=9223372036854775807)/\(0<=x20)/\(x20<(a0.length:Int))/\∃y25:Str,(a0[x20.toNat]? =some y25)/\∃z26 z27,(yan (([119]:Str)++y24) x23 ([y25]:List Str) z26 z27)/\X4 (IntKind.i64.wrap (x20+(1:Int))) z27) (∃z28,(yas ([116]:Str) x23 z28)/\(z28.length<=maxLen->∃z29 z30,(yao ([116]:Str) x23 z29 z30)/\(((z28.length:Int)==(0:Int))==(z29==(0:Int)))=r0))
def ybL (a0:List Str) (r0:Bool) (X4:Int→yaa→Prop) (x20:Int) (x21:yaa):Prop:=
 ∀J5:Bool->yaa->Prop,(∀x22 x23,ybN x20 a0 X4 r0 x22 x23->J5 x22 x23)->(a0.length<=maxLen->cnd (decide (x20<(a0.length:Int))) (J5 (decide (x20<(9:Int))) x21) (J5 false x21))
def ybO (a1:Int) (r0:Bool) (a0:List Str) (X2:Int→yaa→Prop) (x9:Int) (x10:yaa):Prop:=
 cnd (decide (x9<((IntKind.i64.wrap a1).tmod (9:Int)))) (∀J3:Bool->yaa->Prop,(∀x11 x12,ybP r0 X2 x9 x11 x12->J3 x11 x12)->∃z13,(yas ([116]:Str) x10 z13)/\(z13.length<=maxLen->cnd (!((z13.length:Int)==(IntKind.i64.wrap (((IntKind.i64.wrap a1).tmod (9:Int))-x9)))) (J3 true x10) (∃z14 z15,(yao ([116]:Str) x10 z14 z15)/\cnd (!(z14==(15:Int))) (J3 true z15) ((([118]:Str).length+(([IntKind.u8.wrap (IntKind.i64.wrap ((48:Int)+x9))]:List Int).map toB).length<=9223372036854775807)/\∃z16 z17,(ya5 (([118]:Str)++(([IntKind.u8.wrap (IntKind.i64.wrap ((48:Int)+x9))]:List Int).map toB)) ([]:List yad) z15 z16 z17)/\cnd (!(z16==(7:Int))) (J3 true z17) ((([118]:Str).length+(([IntKind.u8.wrap (IntKind.i64.wrap ((48:Int)+x9))]:List Int).map toB).length<=9223372036854775807)/\∃z18 z19,(yaP (([118]:Str)++(([IntKind.u8.wrap (IntKind.i64.wrap ((48:Int)+x9))]:List Int).map toB)) z17 z18 z19)/\J3 (!(z18==(0:Int))) z19))))) (∀X4:Int->yaa->Prop,(∀x20 x21,ybL a0 r0 X4 x20 x21->X4 x20 x21)->X4 (0:Int) x10)
def ybM (a1:Int) (r0:Bool) (a0:List Str) (X1:Int→yaa→Prop) (x5:Int) (x6:yaa):Prop:=
 cnd (decide (x5<((IntKind.i64.wrap a1).tmod (9:Int)))) ((([118]:Str).length+(([IntKind.u8.wrap (IntKind.i64.wrap ((48:Int)+x5))]:List Int).map toB).length<=9223372036854775807)/\∃z7 z8,(yan (([118]:Str)++(([IntKind.u8.wrap (IntKind.i64.wrap ((48:Int)+x5))]:List Int).map toB)) x6 ([([116]:Str),([116]:Str)]:List Str) z7 z8)/\cnd (!(z7==(0:Int))) (false=r0) (X1 (IntKind.i64.wrap (x5+(1:Int))) z8)) (∀X2:Int->yaa->Prop,(∀x9 x10,ybO a1 r0 a0 X2 x9 x10->X2 x9 x10)->X2 (0:Int) x6)
def yaF (a0:List Str) (a1:Int) (r0:Bool):Prop:=
 ∃z1,(ya6 z1)/\cnd (!z1) (false=r0) (∃z2,(ybl z2)/\∃z3 z4,(yaz ([116]:Str) z2 ([(⟨([107]:Str),(1:Int),true⟩:yad)]:List yad) z3 z4)/\cnd (!(z3==(0:Int))) (false=r0) (∀X1:Int->yaa->Prop,(∀x5 x6,ybM a1 r0 a0 X1 x5 x6->X1 x5 x6)->X1 (0:Int) z4))
def yaq (X2:Int→yaa→Prop) (r0:Bool) (x9:Int) (x11:Bool) (x12:yaa):Prop:=
 cnd x11 (false=r0) (X2 (IntKind.i64.wrap (x9+(1:Int))) x12)
def yar (X4:Int→yaa→Prop) (a0:List Str) (r0:Bool) (x20:Int) (x22:Bool) (x23:yaa):Prop:=
 cnd x22 ((0<=x20)/\(x20<(a0.length:Int))/\∃y24:Str,(a0[x20.toNat]? =some y24)/\(([119]:Str).length+y24.length<=9223372036854775807)/\(0<=x20)/\(x20<(a0.length:Int))/\∃y25:Str,(a0[x20.toNat]? =some y25)/\∃z26 z27,(yan (([119]:Str)++y24) x23 ([y25]:List Str) z26 z27)/\X4 (IntKind.i64.wrap (x20+(1:Int))) z27) (∃z28,(yas ([116]:Str) x23 z28)/\(z28.length<=maxLen->∃z29 z30,(yao ([116]:Str) x23 z29 z30)/\(((z28.length:Int)==(0:Int))==(z29==(0:Int)))=r0))
def ya2 (a0:List Str) (r0:Bool) (X4:Int→yaa→Prop) (x20:Int) (x21:yaa):Prop:=
 (a0.length<=maxLen->cnd (decide (x20<(a0.length:Int))) (yar X4 a0 r0 x20 (decide (x20<(9:Int))) x21) (yar X4 a0 r0 x20 false x21))
def ya0 (a0:List Str) (a1:Int) (r0:Bool) (X2:Int→yaa→Prop) (x9:Int) (x10:yaa):Prop:=
 cnd (decide (x9<((IntKind.i64.wrap a1).tmod (9:Int)))) (∃z13,(yas ([116]:Str) x10 z13)/\(z13.length<=maxLen->cnd (!((z13.length:Int)==(IntKind.i64.wrap (((IntKind.i64.wrap a1).tmod (9:Int))-x9)))) (yaq X2 r0 x9 true x10) (∃z14 z15,(yao ([116]:Str) x10 z14 z15)/\cnd (!(z14==(15:Int))) (yaq X2 r0 x9 true z15) ((([118]:Str).length+(([IntKind.u8.wrap (IntKind.i64.wrap ((48:Int)+x9))]:List Int).map toB).length<=9223372036854775807)/\∃z16 z17,(ya5 (([118]:Str)++(([IntKind.u8.wrap (IntKind.i64.wrap ((48:Int)+x9))]:List Int).map toB)) ([]:List yad) z15 z16 z17)/\cnd (!(z16==(7:Int))) (yaq X2 r0 x9 true z17) ((([118]:Str).length+(([IntKind.u8.wrap (IntKind.i64.wrap ((48:Int)+x9))]:List Int).map toB).length<=9223372036854775807)/\∃z18 z19,(yaP (([118]:Str)++(([IntKind.u8.wrap (IntKind.i64.wrap ((48:Int)+x9))]:List Int).map toB)) z17 z18 z19)/\yaq X2 r0 x9 (!(z18==(0:Int))) z19))))) (∀X4:Int->yaa->Prop,(∀x20 x21,ya2 a0 r0 X4 x20 x21->X4 x20 x21)->X4 (0:Int) x10)
def ya3 (a0:List Str) (a1:Int) (r0:Bool) (X1:Int→yaa→Prop) (x5:Int) (x6:yaa):Prop:=
 cnd (decide (x5<((IntKind.i64.wrap a1).tmod (9:Int)))) ((([118]:Str).length+(([IntKind.u8.wrap (IntKind.i64.wrap ((48:Int)+x5))]:List Int).map toB).length<=9223372036854775807)/\∃z7 z8,(yan (([118]:Str)++(([IntKind.u8.wrap (IntKind.i64.wrap ((48:Int)+x5))]:List Int).map toB)) x6 ([([116]:Str),([116]:Str)]:List Str) z7 z8)/\cnd (!(z7==(0:Int))) (false=r0) (X1 (IntKind.i64.wrap (x5+(1:Int))) z8)) (∀X2:Int->yaa->Prop,(∀x9 x10,ya0 a0 a1 r0 X2 x9 x10->X2 x9 x10)->X2 (0:Int) x6)
def ybK (a0:List Str) (a1:Int) (r0:Bool):Prop:=
 ∃z1,(ya6 z1)/\cnd (!z1) (false=r0) (∃z2,(ybl z2)/\∃z3 z4,(yaz ([116]:Str) z2 ([(⟨([107]:Str),(1:Int),true⟩:yad)]:List yad) z3 z4)/\cnd (!(z3==(0:Int))) (false=r0) (∀X1:Int->yaa->Prop,(∀x5 x6,ya3 a0 a1 r0 X1 x5 x6->X1 x5 x6)->X1 (0:Int) z4))
theorem ydv (X2:Int→yaa→Prop) (r0:Bool) (x9:Int) {x11:Bool} {x12:yaa} (h:yaq X2 r0 x9 x11 x12):ybP r0 X2 x9 x11 x12:=by
 unfold ybP
 unfold yaq at h
 exact h
theorem ydt (X4:Int→yaa→Prop) (a0:List Str) (r0:Bool) (x20:Int) {x22:Bool} {x23:yaa} (h:yar X4 a0 r0 x20 x22 x23):ybN x20 a0 X4 r0 x22 x23:=by
 unfold ybN
 unfold yar at h
 exact h
theorem ydx (a0:List Str) (r0:Bool) {X4:Int→yaa→Prop} {x20:Int} {x21:yaa} (h:ya2 a0 r0 X4 x20 x21):ybL a0 r0 X4 x20 x21:=by
 unfold ybL
 unfold ya2 at h
 intro J5 kJ5
 have hJ5:∀x22 x23,yar X4 a0 r0 x20 x22 x23->J5 x22 x23:=fun x22 x23 q=>kJ5 x22 x23 (ydt X4 a0 r0 x20 q)
 intro c
 replace h:=h c
 refine ybA h (fun h=> ?_) (fun h=> ?_)
 ·exact hJ5 _ _ h
 ·exact hJ5 _ _ h
theorem ydy (a0:List Str) (a1:Int) (r0:Bool) {X2:Int→yaa→Prop} {x9:Int} {x10:yaa} (h:ya0 a0 a1 r0 X2 x9 x10):ybO a1 r0 a0 X2 x9 x10:=by
 unfold ybO
 unfold ya0 at h
 refine ybA h (fun h=> ?_) (fun h=> ?_)
 ·intro J3 kJ3
  have hJ3:∀x11 x12,yaq X2 r0 x9 x11 x12->J3 x11 x12:=fun x11 x12 q=>kJ3 x11 x12 (ydv X2 r0 x9 q)
  obtain ⟨z13,h⟩:=h
  refine ⟨z13,?_⟩
  obtain ⟨h0,h⟩:=h
  refine ⟨h0,?_⟩
  intro c
  replace h:=h c
  refine ybA h (fun h=> ?_) (fun h=> ?_)
  ·exact hJ3 _ _ h
  ·obtain ⟨z14,h⟩:=h
   refine ⟨z14,?_⟩
   obtain ⟨z15,h⟩:=h
   refine ⟨z15,?_⟩
   obtain ⟨h0,h⟩:=h
   refine ⟨h0,?_⟩
   refine ybA h (fun h=> ?_) (fun h=> ?_)
   ·exact hJ3 _ _ h
   ·obtain ⟨h0,h⟩:=h
    refine ⟨h0,?_⟩
    obtain ⟨z16,h⟩:=h
    refine ⟨z16,?_⟩
    obtain ⟨z17,h⟩:=h
    refine ⟨z17,?_⟩
    obtain ⟨h0,h⟩:=h
    refine ⟨h0,?_⟩
    refine ybA h (fun h=> ?_) (fun h=> ?_)
    ·exact hJ3 _ _ h
    ·obtain ⟨h0,h⟩:=h
     refine ⟨h0,?_⟩
     obtain ⟨z18,h⟩:=h
     refine ⟨z18,?_⟩
     obtain ⟨z19,h⟩:=h
     refine ⟨z19,?_⟩
     obtain ⟨h0,h⟩:=h
     refine ⟨h0,?_⟩
     exact hJ3 _ _ h
 ·intro X4 k
  exact h X4 (fun x20 x21 q=>k x20 x21 (ydx a0 r0 q))
theorem ydw (a0:List Str) (a1:Int) (r0:Bool) {X1:Int→yaa→Prop} {x5:Int} {x6:yaa} (h:ya3 a0 a1 r0 X1 x5 x6):ybM a1 r0 a0 X1 x5 x6:=by
 unfold ybM
 unfold ya3 at h
 refine ybA h (fun h=> ?_) (fun h=> ?_)
 ·exact h
 ·intro X2 k
  exact h X2 (fun x9 x10 q=>k x9 x10 (ydy a0 a1 r0 q))
theorem yez (a0:List Str) (a1:Int) (r0:Bool) (h:ybK a0 a1 r0):yaF a0 a1 r0:=by
 unfold yaF
 unfold ybK at h
 obtain ⟨z1,h⟩:=h
 refine ⟨z1,?_⟩
 obtain ⟨h0,h⟩:=h
 refine ⟨h0,?_⟩
 refine ybA h (fun h=> ?_) (fun h=> ?_)
 ·exact h
 ·obtain ⟨z2,h⟩:=h
  refine ⟨z2,?_⟩
  obtain ⟨h0,h⟩:=h
  refine ⟨h0,?_⟩
  obtain ⟨z3,h⟩:=h
  refine ⟨z3,?_⟩
  obtain ⟨z4,h⟩:=h
  refine ⟨z4,?_⟩
  obtain ⟨h0,h⟩:=h
  refine ⟨h0,?_⟩
  refine ybA h (fun h=> ?_) (fun h=> ?_)
  ·exact h
  ·intro X1 k
   exact h X1 (fun x5 x6 q=>k x5 x6 (ydw a0 a1 r0 q))
def ya9:Sp KK:=⟨4,[.v 31, .v 5],[4],appW (K:=KK) [4] [.v 31, .v 5] yaF⟩
def yei:An KK:=(.s .o (.s (.s .o (.c (.s .o .o) .o)) (.s .o (.s (.s .o (.c (.s .o .o) .o)) (.s .o (.s (.s .o (.b (.l ⟨[(0, .kp 4),(5, .px 1000768 0),(6, .kp 5),(7, .it .i64)],[(1000768,1000002,[.v 139])],[]⟩ (fun _=>(.s (.s .o (.c .o .o)) (.s (.b (.s .o (.c (.s .o .o) .o))) .o)))))) (.s (.s .o (.b (.l ⟨[(0, .kp 4),(5, .px 1000768 0),(6, .kp 5),(8, .it .i64)],[(1000768,1000002,[.v 139])],[]⟩ (fun _=>(.s (.s .o (.c .o .o)) (.s (.b (.j ⟨[(0, .kp 4),(5, .px 1000768 0),(6, .kp 5),(8, .kp 16),(74, .bl)],[(1000768,1000002,[.v 139])],[]⟩ .o (fun _=>(.c (.s .o .o) .o)))) .o)))))) (.s (.s .o (.b (.l ⟨[(0, .kp 4),(5, .px 1000768 0),(9, .it .i64)],[(1000768,1000002,[.v 139])],[]⟩ (fun _=>(.s (.j ⟨[(0, .kp 4),(5, .px 1000768 0),(9, .kp 26),(82, .bl)],[(1000768,1000002,[.v 139])],[]⟩ .o (fun _=>(.c .o .o))) (.s (.b .o) .o)))))) (.s .o .o)))))))))
def yee:Cf KK:=⟨CC,[ydW],[yaI,yag,yai,yaj,yah,yal,yae],105,[],none,false⟩
theorem yeg:SpOk Try.prog CC ya9:=yms (F:=yee) (ps:= [.v 31, .v 5]) (rs:= [4]) (w:=yaF) yrA (yrX yf3 ypF) (ydo yc0 (ydo ybE (ydo ybG (ydo ycC (ydo ybH (ydo ycP (ydo ycn yo7))))))) t4 (A:=yei) (by kernel_rfl) (by kernel_rfl) (fun a0 a1 r0=>show _=_ by kernel_rfl)
end Go.Proofs.Ytpplhhknlmcgbaa
end
noncomputable section
namespace Go.Proofs.Ytpplhhknlmcgbaa
open Go.AV Go.RowKit
end Go.Proofs.Ytpplhhknlmcgbaa
end
noncomputable section
namespace Go.Proofs.Ytpplhhknlmcgbaa
open Go.AV Go.RowKit
theorem w64s {k:Nat} (h:k<1000000000):IntKind.i64.wrap ((k:Int)+1)=((k+1:Nat):Int):=by
 rw[Go.AV.wrap64 (by omega) (by omega)];omega
end Go.Proofs.Ytpplhhknlmcgbaa
end
noncomputable section
namespace Go.Proofs.Ytpplhhknlmcgbaa
open Go.AV Go.RowKit
section
variable {α:Type} {T:GL α} {m:List (Str×α)} {n:Str} {a:α}
end
section
variable {m:yaA} {T:CTb} {V:CVw}
end
end Go.Proofs.Ytpplhhknlmcgbaa
end
noncomputable section
namespace Go.Proofs.Ytpplhhknlmcgbaa
open Go.AV Go.RowKit
section
variable {α:Type}
end
section
variable {m:yaA} {n:Str} {l:List yau} {r0:yaA} {r1 x3:Int}
end
end Go.Proofs.Ytpplhhknlmcgbaa
end
noncomputable section
namespace Go.Proofs.Ytpplhhknlmcgbaa
open Go.AV Go.RowKit
theorem ylN (T:CTb) (V:CVw) {n:Str} (hn:n.length<=9223372036854775807):yas n (mkS T V) (usr V n):=⟨T,V,rfl,hn,rfl⟩
section
variable {m:yaA} {T:CTb} {V:CVw}
end
section
variable {X1:Int->yaa->List yaw->List yaH->Prop} {i:Nat} {T:CTb} {V:CVw}
end
end Go.Proofs.Ytpplhhknlmcgbaa
end
noncomputable section
namespace Go.Proofs.Ytpplhhknlmcgbaa
open Go.AV Go.RowKit
abbrev T0:CTb:= [([116],[([97],2,true)],0)]
abbrev V0:CVw:= [([118],[[116]])]
theorem ynW:ya6 true:=by
 refine ygJ _ ?_
 unfold ycD
 have m1:mkE [] [] [116] [([97],2,true)]=0:=by decide
 have m2:mkT [] [] [116] [([97],2,true)]=T0:=by decide
 have v1:vwE T0 [] [118] [[116]]=0:=by decide
 have v2:vwT T0 [] [118] [[116]]=V0:=by decide
 have t1:tbOf T0 [116]=([116],[([97],2,true)],0):=by decide
 have t2:(gAt T0 [116]).isSome=true:=by decide
 have d1:dpE T0 V0 [116]=15:=by decide
 refine ⟨mkS [] [],rfl,0,mkS T0 [],⟨[],[],rfl,by decide,by decide,by decide,m1.symm,by rw[show unC [⟨[97],2,true⟩]= [([97],2,true)] from rfl,m2]⟩,0,mkS T0 V0,⟨T0,[],rfl,by decide,by decide,by decide,v1.symm,by rw[v2]⟩,mkTb (tbOf T0 [116]),(gAt T0 [116]).isSome,⟨T0,V0,rfl,by decide,rfl,rfl⟩,?_⟩
 rw[t1,t2]
 exact yb4 rfl (yb4 rfl (yb4 rfl fun _=>yb4 rfl (yb4 rfl ⟨15,mkS (dpT T0 V0 [116]) V0,⟨T0,V0,rfl,by decide,d1.symm,rfl⟩,rfl⟩)))
section
variable {X1:Int->yaa->List yaw->List yaH->Prop} {i:Nat} {T:CTb} {V:CVw}
end
end Go.Proofs.Ytpplhhknlmcgbaa
end
noncomputable section
namespace Go.Proofs.Ytpplhhknlmcgbaa
open Go.AV Go.RowKit
set_option maxRecDepth 100000 in
theorem yfF {a0:(List Str)} {a1:Int} (h:yaF a0 a1 true):Pure Try.prog 4 [slA eS a0, .it .u8 a1] (.bl true):=by
 have e:Pure Try.prog ya9.f (yco CC ya9.ps [.d (.v 31 a0), .d (.v 5 a1)]) (yb3 (([.v 4 true]:List (DV KK)).map (dvA CC)))=Pure Try.prog 4 [slA eS a0, .it .u8 a1] (.bl true):=by kernel_rfl
 have w:ya9.W [.d (.v 31 a0), .d (.v 5 a1)] [.v 4 true]=yaF a0 a1 true:=by kernel_rfl
 exact e.mp (yeg _ _ (fun F h=>by simp at h) (w.mpr h)).2
end Go.Proofs.Ytpplhhknlmcgbaa
end
noncomputable section
namespace Go.Proofs.Ytpplhhknlmcgbaa
open Go.AV Go.RowKit
abbrev TU:CTb:= [([116],[([107],1,true)],0)]
def nmv (i:Nat):List UInt8:= [118,UInt8.ofNat (48+i)]
def Vw (n:Nat):CVw:=(List.range n).map fun j=>(nmv j,[[116],[116]])
def Vd (n i:Nat):CVw:=(Vw n).drop i
def nmI (i:Nat):List UInt8:=([118]:Str)++(([IntKind.u8.wrap (IntKind.i64.wrap ((48:Int)+(i:Int)))]:List Int).map toB)
theorem ypu:∀i,i<9->nmI i=nmv i:=by decide
theorem ytJ:∀i,i<8->vwE TU (Vw i) (nmv i) [[116],[116]]=0/\vwT TU (Vw i) (nmv i) [[116],[116]]=Vw (i+1):=by decide
def okV (n i:Nat):Bool:=decide ((usr (Vd n i) [116]).length=n-i)&&(decide (dpE TU (Vd n i) [116]=15)&&(decide (dpT TU (Vd n i) [116]=TU)&&(decide (mkE TU (Vd n i) (nmv i) []=7)&&(decide (mkT TU (Vd n i) (nmv i) []=TU)&&(decide (dvE (Vd n i) (nmv i)=0)&&decide (gDel (Vd n i) (nmv i)=Vd n (i+1)))))))
theorem yqY:((List.range 9).all fun n=>(List.range n).all fun i=>okV n i)=true:=by decide+kernel
theorem ytz (n:Nat) (hn:n<9) (i:Nat) (hi:i<n):(usr (Vd n i) [116]).length=n-i∧dpE TU (Vd n i) [116]=15∧dpT TU (Vd n i) [116]=TU∧mkE TU (Vd n i) (nmv i) []=7∧mkT TU (Vd n i) (nmv i) []=TU∧dvE (Vd n i) (nmv i)=0∧gDel (Vd n i) (nmv i)=Vd n (i+1):=by
 have h:=List.all_eq_true.1 (List.all_eq_true.1 yqY n (List.mem_range.2 hn)) i (List.mem_range.2 hi)
 simpa only[okV,Bool.and_eq_true,decide_eq_true_eq] using h
theorem yp1 {l:List Nat} {x:Nat} (h:x∈l):x≤l.sum:=by
 induction l with
 |nil=>cases h
 | cons a l ih=>
   rw[List.sum_cons]
   rcases List.mem_cons.1 h with rfl|h
   ·omega
   ·have:=ih h;omega
theorem yfE (a0:List Str) (a1:Int) (h0:(a0.map fun s=>s.length+1).sum≤1048576) (h1:(fun n:Int=>(Lit.int .u8 n).wf=true) a1):yaF a0 a1 true:=by
 refine yez _ _ _ ?_
 unfold ybK
 have m1:mkE [] [] [116] [([107],1,true)]=0:=by decide
 have m2:mkT [] [] [116] [([107],1,true)]=TU:=by decide
 have hl:a0.length≤1048576:=by
  have:∀l:List Str,l.length≤(l.map fun s=>s.length+1).sum:=fun l=>by
   induction l with
   |nil=>exact Nat.le_refl _
   |cons a l ih=>rw[List.map_cons,List.sum_cons,List.length_cons];omega
  exact Nat.le_trans (this a0) h0
 refine ⟨true,ynW,ybd rfl ⟨mkS [] [],rfl,0,mkS TU [],⟨[],[],rfl,by decide,by decide,by decide,m1.symm,by rw[show unC [⟨[107],1,true⟩]= [([107],1,true)] from rfl,m2]⟩,ybd rfl ?_⟩⟩
 have hr:0≤a1∧a1≤255:=by
  have:(Lit.int .u8 a1).wf=true:=h1
  simp only[Lit.wf,IntKind.min,IntKind.max,Bool.and_eq_true,decide_eq_true_eq] at this
  exact ⟨by simpa [IntKind.signed] using this.1,by simpa [IntKind.signed,IntKind.bits] using this.2⟩
 obtain ⟨n,hn,hn9⟩:∃n:Nat,(IntKind.i64.wrap a1).tmod (9:Int)=(n:Int)∧n<9:=by
  rw[Go.AV.wrap64 (by omega) (by omega),Int.tmod_eq_emod_of_nonneg hr.1]
  exact ⟨(a1 % 9).toNat,by omega,by omega⟩
 refine lp2 (fun (x:Int) (s:yaa)=>∃i:Nat,x=i/\i<=n/\s=mkS TU (Vw i)) (fun (x:Int) _=>n-x.toNat) ?_ ⟨0,rfl,Nat.zero_le _,rfl⟩
 rintro X _ _ ⟨i,rfl,hi,rfl⟩ hX
 unfold ya3
 rw[hn,w64s (by omega)]
 refine ygp (fun hb=> ?_) (fun hb=> ?_)
 ·have hb:(i:Int)<n:=by simpa using hb
  obtain ⟨e1,e2⟩:=ytJ i (by omega)
  have eN:=ypu i (by omega)
  unfold nmI at eN
  rw[eN]
  refine ⟨by simp,0,mkS TU (Vw (i+1)),⟨TU,Vw i,rfl,by simp[nmv],by decide,by decide,e1.symm,by rw[e2]⟩,ybd rfl ?_⟩
  exact hX _ _ ⟨i+1,rfl,by omega,rfl⟩ (by simp;omega)
 ·have hb:¬(i:Int)<n:=by simpa using hb
  have ei:i=n:=by omega
  subst ei
  clear hX
  refine lp2 (fun (x:Int) (s:yaa)=>∃k:Nat,x=k/\k<=i/\s=mkS TU (Vd i k)) (fun (x:Int) _=>i-x.toNat) ?_ ⟨0,rfl,Nat.zero_le _,rfl⟩
  rintro Y _ _ ⟨k,rfl,hk,rfl⟩ hY
  unfold ya0
  rw[hn]
  refine ygp (fun hc=> ?_) (fun hc=> ?_)
  ·have hc:(k:Int)<i:=by simpa using hc
   obtain ⟨e1,e2,e3,e4,e5,e6,e7⟩:=ytz i hn9 k (by omega)
   have eN:=ypu k (by omega)
   unfold nmI at eN
   rw[eN]
   refine ⟨_,ylN TU _ (by decide),fun _=>ybd ?_ ⟨15,mkS TU (Vd i k),⟨TU,Vd i k,rfl,by decide,e2.symm,by rw[e3]⟩,ybd rfl ⟨by simp,7,mkS TU (Vd i k),⟨TU,Vd i k,rfl,by simp[nmv],by decide,by decide,e4.symm,by rw[show unC []= [] from rfl,e5]⟩,ybd rfl ⟨by simp,0,mkS TU (Vd i (k+1)),⟨TU,Vd i k,rfl,by simp[nmv],e6.symm,by rw[e7]⟩,?_⟩⟩⟩⟩
   ·rw[e1,Go.AV.wrap64 (by omega) (by omega)]
    simp;omega
   ·unfold yaq
    refine ybd rfl ?_
    rw[w64s (by omega)]
    exact hY _ _ ⟨k+1,rfl,by omega,rfl⟩ (by simp;omega)
  ·clear hY
   refine lp2 (fun (x:Int) (s:yaa)=>∃j:Nat,x=j/\j<=a0.length/\∃V,s=mkS TU V) (fun (x:Int) _=>a0.length-x.toNat) ?_ ⟨0,rfl,Nat.zero_le _,_,rfl⟩
   rintro Z _ _ ⟨j,rfl,hj,V,rfl⟩ hZ
   unfold ya2
   intro _
   have fin:yar Z a0 true j false (mkS TU V):=by
    unfold yar
    refine ybd rfl ⟨_,ylN TU V (by decide),fun _=>⟨_,_,⟨TU,V,rfl,by decide,rfl,rfl⟩,?_⟩⟩
    have hT:(gAt TU [116]).isSome=true:=by decide
    unfold dpE
    rw[hT]
    simp only[Bool.true_eq_false,if_false]
    by_cases h:0<(usr V [116]).length
    ·rw[if_pos h]
     have:¬((usr V [116]).length:Int)=0:=by omega
     rw[beq_eq_false_iff_ne.2 this];rfl
    ·rw[if_neg h]
     have:((usr V [116]).length:Int)=0:=by omega
     simp[this]
   refine ygp (fun hb=> ?_) (fun hb=>fin)
   have hb:(j:Int)<a0.length:=by simpa using hb
   have hj':j<a0.length:=by omega
   have hg:=List.getElem?_eq_getElem hj'
   have hlen:a0[j].length+1<=1048576:=Nat.le_trans (yp1 (List.mem_map.2 ⟨a0[j],List.getElem_mem hj',rfl⟩)) h0
   cases h9:decide ((j:Int)<9) with
   |false=>exact fin
   | true=>
     unfold yar
     refine yb4 rfl ⟨by omega,hb,a0[j],by simp[hg],by simp;omega,by omega,hb,a0[j],by simp[hg],_,_,⟨TU,V,rfl,by simp;omega,by simp,fun u hu=>by rw[List.mem_singleton] at hu;rw[hu];omega,rfl,rfl⟩,?_⟩
     rw[w64s (by omega)]
     exact hZ _ _ ⟨j+1,rfl,by omega,_,rfl⟩ (by simp;omega)
end Go.Proofs.Ytpplhhknlmcgbaa
end
noncomputable section
namespace Go.Proofs.Ytpplhhknlmcgbaa
open Go.AV Go.RowKit Go.WideShapes Go.ChangeShapes
theorem ymc:∀(l:List Str) (j:Nat),(cl eS l)[j]? =(l[j]?).map AV.st
 | [],j=>by simp[cl]
 | s::r,j=>by
   have e:cl eS (s::r)=AV.st s::cl eS r:=rfl
   rw[e]
   cases j with
   |zero=>rfl
   |succ j=>rw[List.getElem?_cons_succ,List.getElem?_cons_succ];exact ymc r j
theorem yiG {H:Type}:∀l:List Str,Rows.uptoBulkAll (l.map fun s=>(DataW.lit (H:=H) (.string s)))=(l.map fun s=>s.length+1).sum
 | []=>rfl
 | s::r=>by
   rw[List.map_cons,List.map_cons,List.sum_cons,<-yiG (H:=H) r]
   simp only[Rows.uptoBulkAll,Rows.uptoBulk]
theorem ym4 {H:Type} {enc:TypeId×Value→H} {P:Program} {w:World} {held:Bool} {t e:TypeId} {l:List Str} {v:Value} {d:DataW H} {p:List MemPlace} (ht:P.underlying t=some (.slice e)) (he:P.underlying e=some .string) (hc1:P.cellsOf e=1)
  (hv:VR (G0 w) (slA eS l) v) (h:DataW.Trod enc P w 0 (fun _=>true) held t v d p):(l.map fun s=>s.length+1).sum<=Rows.uptoBulk d:=by
 obtain ⟨fuel,h⟩:=h
 rcases hv.sl_inv with ⟨_,hn,_⟩|⟨_,hn,_⟩|⟨_,b,off,cap,f,rfl,_,hcl,hf,_⟩
 ·have:l= []:=List.eq_nil_of_length_eq_zero hn
  subst this;exact Nat.zero_le _
 ·have:l= []:=List.eq_nil_of_length_eq_zero hn
  subst this;exact Nat.zero_le _
 ·have h':DataW.trod enc P w 0 (fun _=>true) held fuel t [.slice (some ⟨b,off,none⟩) l.length cap]=some (d,p):=h
  rcases DataW.trod_slice ht h' with ⟨e1,_⟩|⟨a,len,cap',elems,rest,n,_,e1,e2,_,_,_,hel,hg,_⟩
  ·cases e1
  ·simp only[List.cons.injEq,Value.slice.injEq,Option.some.injEq,and_true] at e1
   obtain ⟨rfl,rfl,rfl⟩:=e1
   simp only[Prod.mk.injEq] at e2
   obtain ⟨rfl,_⟩:=e2
   have key:elems.map (·.1)=l.map fun s=>(DataW.lit (H:=H) (.string s)):=by
    refine List.ext_getElem? fun i=> ?_
    by_cases hi:i<l.length
    ·have h1:=hg i hi
     rw[List.getElem?_eq_getElem (by rw[hel];exact hi)] at h1
     obtain ⟨csi,h2,h3⟩:=Option.bind_eq_some_iff.1 h1
     obtain ⟨s,rfl,hs,_⟩:=DataW.trod_string he h3
     have hq:=(World.cells?_some h2).2.2 0 (by omega)
     rw[hc1,Nat.mul_one,Addr.add_lit] at hq
     have hu:(cl eS l)[i]? =some (.st l[i]):=by rw[ymc,List.getElem?_eq_getElem hi];rfl
     have hz:=hcl i _ hu
     have hw:=hf i _ hu
     obtain ⟨s',q1,q2⟩:=hw.st_inv
     rw[show ((⟨b,off+i,none⟩:Addr).add 0)=⟨b,off+i,none⟩ from rfl] at hq
     have:w.cell? ⟨b,off+i,none⟩=some (f i):=hz
     rw[this,q1] at hq
     simp only[List.getElem?_cons_zero,Option.some.injEq,Value.string.injEq] at hq
     subst hq
     rw[List.getElem?_map,List.getElem?_map,List.getElem?_eq_getElem (by rw[hel];exact hi),List.getElem?_eq_getElem hi,hs]
     simp[<-q2,ByteArray.toList_eq]
    ·rw[List.getElem?_eq_none (by simp;omega),List.getElem?_eq_none (by simp;omega)]
   simp only[Rows.uptoBulk]
   rw[key,yiG]
   omega
end Go.Proofs.Ytpplhhknlmcgbaa
end
