/- General texts and own ones, joined: what the program computes, told of abstract states, and the laws of plain data. No condition. -/
import Derived.Test.YtpplhhknlmcgbaaMf
noncomputable section
namespace Go.Proofs.Ytpplhhknlmcgbaa
open Go.AV Go.RowKit
structure Rp {α:Type} (T:GL α) (m:List (Str×α)):Prop where
 srt:GS T
 mem:∀q,q∈T↔q∈m
 nd:(m.map (·.1)).Nodup
section
variable {α:Type} {T:GL α} {m:List (Str×α)} {n:Str} {a:α}
theorem yxC {l:List (Str×α)} (h:(l.map (·.1)).Nodup):l.Nodup:=List.Pairwise.of_map (·.1) (fun a b q e=>q (by rw[e])) h
theorem Rp.len (h:Rp T m):T.length=m.length:=((List.perm_ext_iff_of_nodup (yxC (ytH h.srt)) (yxC h.nd)).2 h.mem).length_eq
theorem Rp.at_some (h:Rp T m) (hm:(n,a)∈m):gAt T n=some a:=yxx h.srt ((h.mem _).2 hm)
theorem Rp.at_none (h:Rp T m) (hm:∀q∈m,q.1≠n):gAt T n=none:=yxh fun q hq=>hm q ((h.mem q).1 hq)
theorem Rp.nil:Rp ([]:GL α) []:=⟨List.Pairwise.nil,fun q=>Iff.rfl,List.nodup_nil⟩
theorem Rp.add (h:Rp T m) (hn:∀q∈m,q.1≠n):Rp (gPut T n a) (m++ [(n,a)]):=by
 refine ⟨yi6 h.srt,fun q=> ?_,?_⟩
 ·rw[yfR,List.mem_append,List.mem_singleton,h.mem]
  constructor
  ·rintro (e|⟨h1,_⟩)
   ·exact .inr e
   ·exact .inl h1
  ·rintro (h1|e)
   ·exact .inr ⟨h1,hn q h1⟩
   ·exact .inl e
 ·rw[List.map_append,List.nodup_append]
  refine ⟨h.nd,by simp,fun x hx y hy e=> ?_⟩
  simp only[List.map_cons,List.map_nil,List.mem_singleton] at hy
  obtain ⟨q,hq,rfl⟩:=List.mem_map.1 hx
  exact hn q hq (e.trans hy)
theorem yoI {β:Type} {m:List β} {k:Nat} {x:β} (hk:m[k]? =some x):m=m.take k++x::m.drop (k+1):=by
 obtain ⟨h1,h2⟩:=List.getElem?_eq_some_iff.1 hk
 conv=>lhs;rw[<-List.take_append_drop k m,List.drop_eq_getElem_cons h1,h2]
theorem Rp.del (h:Rp T m) {k:Nat} (hk:m[k]? =some (n,a)):Rp (gDel T n) (m.take k++m.drop (k+1)):=by
 have hs:=yoI hk
 have hnd:=h.nd
 rw[hs,List.map_append,List.map_cons,List.nodup_append] at hnd
 obtain ⟨d1,d2,d3⟩:=hnd
 obtain ⟨d4,d5⟩:=List.nodup_cons.1 d2
 refine ⟨yjb h.srt,fun q=> ?_,?_⟩
 ·rw[yfH,h.mem]
  constructor
  ·rintro ⟨h1,h2⟩
   rw[hs] at h1
   rcases List.mem_append.1 h1 with h1|h1
   ·exact List.mem_append.2 (.inl h1)
   ·rcases List.mem_cons.1 h1 with e|h1
    ·exact absurd (by rw[e]) h2
    ·exact List.mem_append.2 (.inr h1)
  ·intro h1
   rcases List.mem_append.1 h1 with h1|h1
   ·exact ⟨by rw[hs];exact List.mem_append.2 (.inl h1),d3 q.1 (List.mem_map_of_mem h1) n List.mem_cons_self⟩
   ·exact ⟨by rw[hs];exact List.mem_append.2 (.inr (List.mem_cons_of_mem _ h1)),fun e=>d4 (List.mem_map.2 ⟨q,h1,e⟩)⟩
 ·rw[List.map_append,List.nodup_append]
  exact ⟨d1,d5,fun x hx y hy=>d3 x hx y (List.mem_cons_of_mem _ hy)⟩
end
def cO (c:yae):Cl:=(c.Name,c.Kind,c.Key)
def tO (t:yac):Str×(List Cl×Int):=(t.Name,t.Columns.map cO,t.Key)
def vO (v:yad):Str×List Str:=(v.Name,v.Uses)
structure Inv (m:yab) (T:CTb) (V:CVw):Prop where
 t:Rp T (m.Tables.map tO)
 v:Rp V (m.Views.map vO)
 lt:m.Tables.length<=8
 lv:m.Views.length<=8
 cl:∀t∈m.Tables,t.Columns.length<=10
 ul:∀v∈m.Views,v.Uses.length<=4
 nl:∀t∈m.Tables,t.Name.length<=9223372036854775807
section
variable {m:yab} {T:CTb} {V:CVw}
theorem Inv.find (h:Inv m T V) (n:Str):∃r,yaR m n r∧decide ((0:Int)≤r)=(gAt T n).isSome∧decide (r<(0:Int))= !(gAt T n).isSome∧((gAt T n).isSome=false→∀q∈m.Tables.map tO,q.1≠n)∧((gAt T n).isSome=true→∃k t,r=((k:Nat):Int)∧m.Tables[k]? =some t∧t.Name=n):=by
 obtain ⟨r,h1,h2⟩:=yxX m n (by have:=h.lt;omega)
 refine ⟨r,h1,?_⟩
 rcases h2 with ⟨rfl,h2⟩|⟨k,t,rfl,h2,rfl⟩
 ·have h3:∀q∈m.Tables.map tO,q.1≠n:=fun q hq=>by
   obtain ⟨t,ht,rfl⟩:=List.mem_map.1 hq
   exact h2 t ht
  rw[h.t.at_none h3]
  exact ⟨rfl,rfl,fun _=>h3,fun e=>(by cases e)⟩
 ·rw[h.t.at_some (a:=(t.Columns.map cO,t.Key)) (List.mem_map.2 ⟨t,List.mem_of_getElem? h2,rfl⟩)]
  exact ⟨by simp,by simp,fun e=>(by cases e),fun _=>⟨k,t,rfl,h2,rfl⟩⟩
theorem Inv.findV (h:Inv m T V) (n:Str):∃r,yaN m n r∧decide ((0:Int)≤r)=(gAt V n).isSome∧decide (r<(0:Int))= !(gAt V n).isSome∧((gAt V n).isSome=false→∀q∈m.Views.map vO,q.1≠n)∧((gAt V n).isSome=true→∃k t,r=((k:Nat):Int)∧m.Views[k]? =some t∧t.Name=n):=by
 obtain ⟨r,h1,h2⟩:=yvK m n (by have:=h.lv;omega)
 refine ⟨r,h1,?_⟩
 rcases h2 with ⟨rfl,h2⟩|⟨k,t,rfl,h2,rfl⟩
 ·have h3:∀q∈m.Views.map vO,q.1≠n:=fun q hq=>by
   obtain ⟨t,ht,rfl⟩:=List.mem_map.1 hq
   exact h2 t ht
  rw[h.v.at_none h3]
  exact ⟨rfl,rfl,fun _=>h3,fun e=>(by cases e)⟩
 ·rw[h.v.at_some (a:=t.Uses) (List.mem_map.2 ⟨t,List.mem_of_getElem? h2,rfl⟩)]
  exact ⟨by simp,by simp,fun e=>(by cases e),fun _=>⟨k,t,rfl,h2,rfl⟩⟩
theorem yyR (h:Inv m T V):(m.Tables.map (·.Name)).Nodup:=by
 have:=h.t.nd
 rwa[List.map_map] at this
theorem ywX (h:Inv m T V):(m.Views.map (·.Name)).Nodup:=by
 have:=h.v.nd
 rwa[List.map_map] at this
theorem yrH {β:Type} {f:β→Str} {l:List β} (h:(l.map f).Nodup) {k:Nat} {x y:β} (hk:l[k]? =some x) (hy:y∈l.take k):f y≠f x:=by
 have hs:=yoI hk
 rw[hs,List.map_append,List.map_cons,List.nodup_append] at h
 exact h.2.2 (f y) (List.mem_map_of_mem hy) (f x) List.mem_cons_self
theorem ygu {β:Type} {l:List β} {k:Nat} {x y:β} (hk:l[k]? =some x):y∈l.take (k+1)↔y∈l.take k∨y=x:=by
 rw[List.take_add_one,hk];simp
theorem yvY {n x:Str} (h:Inv m T V):x∈usr V n↔∃v∈m.Views,n∈v.Uses∧v.Name=x:=by
 unfold usr
 simp only[List.mem_map,List.mem_filter,decide_eq_true_eq]
 constructor
 ·rintro ⟨q,⟨hq,hu⟩,rfl⟩
  obtain ⟨v,hv,rfl⟩:=List.mem_map.1 ((h.v.mem q).1 hq)
  exact ⟨v,hv,hu,rfl⟩
 ·rintro ⟨v,hv,hu,rfl⟩
  exact ⟨vO v,⟨(h.v.mem _).2 (List.mem_map_of_mem hv),hu⟩,rfl⟩
theorem yr7 (h:Inv m T V) (n:Str):(usr V n).length≤8:=by
 unfold usr
 rw[List.length_map]
 refine Nat.le_trans (List.length_filter_le _ _) ?_
 have e:=h.v.len
 rw[List.length_map] at e
 have:=h.lv
 omega
theorem ynl (h:Inv m T V) (n:Str):ybP m n (usr V n):=by
 refine ylC _ _ _ ?_
 unfold yfa
 have hlv:=h.lv
 refine lp2 (fun (l:List Str) (x:Int)=>∃k:Nat,x=k/\k<=m.Views.length/\SS l/\l.length<=k/\∀x,x∈l↔∃v∈m.Views.take k,n∈v.Uses/\v.Name=x) (fun _ (x:Int)=>m.Views.length-x.toNat) ?_ ⟨0,rfl,Nat.zero_le _,List.Pairwise.nil,Nat.le_refl _,fun x=>by simp⟩
 rintro X l _ ⟨k,rfl,hk,hs,hlen,hm⟩ hX
 unfold ydA
 intro _
 refine yaq (fun hb=> ?_) (fun hb=> ?_)
 ·have hb:(k:Int)<m.Views.length:=by simpa using hb
  have hk':k<m.Views.length:=by omega
  have hg:=List.getElem?_eq_getElem hk'
  have hu:=h.ul _ (List.getElem_mem hk')
  refine ⟨by omega,hb,m.Views[k],by simp[hg],_,yyf _ n (by omega),?_⟩
  rw[w64s (by omega)]
  refine yaq (fun q=> ?_) (fun q=> ?_)
  ·have q:n∈m.Views[k].Uses:=by simpa using q
   have hno:m.Views[k].Name∉l:=fun hx=>by
    obtain ⟨v,hv,_,e⟩:=(hm _).1 hx
    exact yrH (ywX h) hg hv e
   obtain ⟨r,r1,r2,r3,r4⟩:=ylI hs hno (by omega)
   refine ⟨by omega,hb,m.Views[k],by simp[hg],r,r1,hX _ _ ⟨k+1,rfl,by omega,r2,by omega,fun x=> ?_⟩ (by simp;omega)⟩
   rw[r3,hm]
   constructor
   ·rintro (rfl|⟨v,hv,z⟩)
    ·exact ⟨_,(ygu hg).2 (.inr rfl),q,rfl⟩
    ·exact ⟨v,(ygu hg).2 (.inl hv),z⟩
   ·rintro ⟨v,hv,z1,z2⟩
    rcases (ygu hg).1 hv with hv|rfl
    ·exact .inr ⟨v,hv,z1,z2⟩
    ·exact .inl z2.symm
  ·have q:n∉m.Views[k].Uses:=by simpa using q
   refine hX _ _ ⟨k+1,rfl,by omega,hs,by omega,fun x=> ?_⟩ (by simp;omega)
   rw[hm]
   constructor
   ·rintro ⟨v,hv,z⟩
    exact ⟨v,(ygu hg).2 (.inl hv),z⟩
   ·rintro ⟨v,hv,z1,z2⟩
    rcases (ygu hg).1 hv with hv|rfl
    ·exact ⟨v,hv,z1,z2⟩
    ·exact absurd z1 q
 ·have hb:¬(k:Int)<m.Views.length:=by simpa using hb
  have e:k=m.Views.length:=by omega
  refine yor hs (ypY h.v.srt n) fun x=> ?_
  rw[hm,yvY h,e,List.take_length]
theorem yuy (h:Inv m T V):ycg m (T.map (·.1)) (V.map (·.1)):=by
 refine ylq _ _ _ ?_
 unfold ye4
 have hlv:=h.lv
 have hlt:=h.lt
 refine lp2 (fun (l:List Str) (x:Int)=>∃k:Nat,x=k/\k<=m.Tables.length/\SS l/\l.length<=k/\∀x,x∈l↔∃v∈m.Tables.take k,v.Name=x) (fun _ (x:Int)=>m.Tables.length-x.toNat) ?_ ⟨0,rfl,Nat.zero_le _,List.Pairwise.nil,Nat.le_refl _,fun x=>by simp⟩
 rintro X l _ ⟨k,rfl,hk,hs,hlen,hm⟩ hX
 unfold ydB
 intro _
 refine yaq (fun hb=> ?_) (fun hb=> ?_)
 ·have hb:(k:Int)<m.Tables.length:=by simpa using hb
  have hk':k<m.Tables.length:=by omega
  have hg:=List.getElem?_eq_getElem hk'
  have hno:m.Tables[k].Name∉l:=fun hx=>by
   obtain ⟨v,hv,e⟩:=(hm _).1 hx
   exact yrH (yyR h) hg hv e
  obtain ⟨r,r1,r2,r3,r4⟩:=ylI hs hno (by omega)
  rw[w64s (by omega)]
  refine ⟨by omega,hb,m.Tables[k],by simp[hg],r,r1,hX _ _ ⟨k+1,rfl,by omega,r2,by omega,fun x=> ?_⟩ (by simp;omega)⟩
  rw[r3,hm]
  constructor
  ·rintro (rfl|⟨v,hv,z⟩)
   ·exact ⟨_,(ygu hg).2 (.inr rfl),rfl⟩
   ·exact ⟨v,(ygu hg).2 (.inl hv),z⟩
  ·rintro ⟨v,hv,z2⟩
   rcases (ygu hg).1 hv with hv|rfl
   ·exact .inr ⟨v,hv,z2⟩
   ·exact .inl z2.symm
 ·have hb:¬(k:Int)<m.Tables.length:=by simpa using hb
  have e:k=m.Tables.length:=by omega
  have eT:l=T.map (·.1):=by
   refine yor hs (ywL h.t.srt) fun x=> ?_
   rw[hm,e,List.take_length,List.mem_map]
   constructor
   ·rintro ⟨t,ht,rfl⟩
    exact ⟨tO t,(h.t.mem _).2 (List.mem_map_of_mem ht),rfl⟩
   ·rintro ⟨q,hq,rfl⟩
    obtain ⟨t,ht,rfl⟩:=List.mem_map.1 ((h.t.mem q).1 hq)
    exact ⟨t,ht,rfl⟩
  clear hX hm hlen
  refine lp2 (fun (l:List Str) (x:Int)=>∃k:Nat,x=k/\k<=m.Views.length/\SS l/\l.length<=k/\∀x,x∈l↔∃v∈m.Views.take k,v.Name=x) (fun _ (x:Int)=>m.Views.length-x.toNat) ?_ ⟨0,rfl,Nat.zero_le _,List.Pairwise.nil,Nat.le_refl _,fun x=>by simp⟩
  rintro X l2 _ ⟨k,rfl,hk,hs,hlen,hm⟩ hX
  unfold ydv
  intro _
  refine yaq (fun hb=> ?_) (fun hb=> ?_)
  ·have hb:(k:Int)<m.Views.length:=by simpa using hb
   have hk':k<m.Views.length:=by omega
   have hg:=List.getElem?_eq_getElem hk'
   have hno:m.Views[k].Name∉l2:=fun hx=>by
    obtain ⟨v,hv,e⟩:=(hm _).1 hx
    exact yrH (ywX h) hg hv e
   obtain ⟨r,r1,r2,r3,r4⟩:=ylI hs hno (by omega)
   rw[w64s (by omega)]
   refine ⟨by omega,hb,m.Views[k],by simp[hg],r,r1,hX _ _ ⟨k+1,rfl,by omega,r2,by omega,fun x=> ?_⟩ (by simp;omega)⟩
   rw[r3,hm]
   constructor
   ·rintro (rfl|⟨v,hv,z⟩)
    ·exact ⟨_,(ygu hg).2 (.inr rfl),rfl⟩
    ·exact ⟨v,(ygu hg).2 (.inl hv),z⟩
   ·rintro ⟨v,hv,z2⟩
    rcases (ygu hg).1 hv with hv|rfl
    ·exact .inr ⟨v,hv,z2⟩
    ·exact .inl z2.symm
  ·have hb:¬(k:Int)<m.Views.length:=by simpa using hb
   have e:k=m.Views.length:=by omega
   refine ⟨eT,yor hs (ywL h.v.srt) fun x=> ?_⟩
   rw[hm,e,List.take_length,List.mem_map]
   constructor
   ·rintro ⟨t,ht,rfl⟩
    exact ⟨vO t,(h.v.mem _).2 (List.mem_map_of_mem ht),rfl⟩
   ·rintro ⟨q,hq,rfl⟩
    obtain ⟨t,ht,rfl⟩:=List.mem_map.1 ((h.v.mem q).1 hq)
    exact ⟨t,ht,rfl⟩
theorem ymV {α β:Type} (f:α→β) (l:List α) (k:Nat):(l.take k++l.drop (k+1)).map f=(l.map f).take k++(l.map f).drop (k+1):=by
 rw[List.map_append,List.map_take,List.map_drop]
theorem ynm {α:Type} {l:List α} {k:Nat} {x:α} (h:x∈l.take k++l.drop (k+1)):x∈l:=by
 rcases List.mem_append.1 h with h|h
 ·exact List.mem_of_mem_take h
 ·exact List.mem_of_mem_drop h
theorem yxq (h:Inv m T V) (n:Str):∃m',ydm m n m' (dpE T V n)∧Inv m' (dpT T V n) V:=by
 obtain ⟨r,f1,f2,f3,f4,f5⟩:=h.find n
 have hlt:=h.lt
 have hul:=yr7 h n
 unfold ydm dpT dpE
 cases hg:(gAt T n).isSome with
 | false=>
   rw[hg] at f3
   exact ⟨m,⟨r,f1,yas f3 ⟨rfl,rfl⟩⟩,h⟩
 | true=>
   rw[hg] at f3
   obtain ⟨k,t,rfl,f6,rfl⟩:=f5 hg
   have hk:=(List.getElem?_eq_some_iff.1 f6).1
   simp only[Bool.true_eq_false,if_false]
   by_cases hu:0<(usr V t.Name).length
   ·rw[if_pos hu]
    exact ⟨m,⟨_,f1,yah f3 ⟨_,ynl h _,fun _=>yas (by simpa using hu) ⟨rfl,rfl⟩⟩⟩,h⟩
   ·rw[if_neg hu]
    refine ⟨⟨m.Tables.take k++m.Tables.drop (k+1),m.Views⟩,⟨_,f1,yah f3 ⟨_,ynl h _,fun _=>yah (by simpa using hu) ?_⟩⟩,?_,h.v,?_,h.lv,fun t ht=>h.cl t (ynm ht),h.ul,fun t ht=>h.nl t (ynm ht)⟩
    ·rw[w64s (by omega),tsl0,tslE]
     simp only[List.nil_append,List.length_append,List.length_take,List.length_drop]
     exact ⟨by omega,by omega,by omega,by omega,by omega,by first|rfl|trivial⟩
    ·show Rp (gDel T t.Name) _
     rw[ymV]
     exact h.t.del (k:=k) (a:=(t.Columns.map cO,t.Key)) (by rw[List.getElem?_map,f6];rfl)
    ·simp only[List.length_append,List.length_take,List.length_drop];omega
theorem yww (h:Inv m T V) (n:Str):∃m',ybO m n m' (dvE V n)∧Inv m' T (gDel V n):=by
 obtain ⟨r,f1,f2,f3,f4,f5⟩:=h.findV n
 have hlt:=h.lv
 unfold ybO dvE
 cases hg:(gAt V n).isSome with
 | false=>
   rw[hg] at f3
   have:gDel V n=V:=yj3 fun q hq=>f4 hg q ((h.v.mem q).1 hq)
   rw[this]
   exact ⟨m,⟨r,f1,yas f3 ⟨rfl,rfl⟩⟩,h⟩
 | true=>
   rw[hg] at f3
   obtain ⟨k,t,rfl,f6,rfl⟩:=f5 hg
   have hk:=(List.getElem?_eq_some_iff.1 f6).1
   refine ⟨⟨m.Tables,m.Views.take k++m.Views.drop (k+1)⟩,⟨_,f1,yah f3 ?_⟩,h.t,?_,h.lt,?_,h.cl,fun t ht=>h.ul t (ynm ht),h.nl⟩
   ·rw[w64s (by omega),tsl0,tslE]
    simp only[List.nil_append,List.length_append,List.length_take,List.length_drop]
    exact ⟨by omega,by omega,by omega,by omega,by omega,by first|rfl|trivial⟩
   ·show Rp (gDel V t.Name) _
    rw[ymV]
    exact h.v.del (k:=k) (a:=t.Uses) (by rw[List.getElem?_map,f6];rfl)
   ·simp only[List.length_append,List.length_take,List.length_drop];omega
theorem ysh (h:Inv m T V) (n:Str) (us:List Str) (hu:us.length≤4):∃m',ybF m ⟨n,us⟩ m' (vwE T V n us)∧Inv m' T (vwT T V n us):=by
 obtain ⟨r,f1,f2,f3,f4,f5⟩:=h.find n
 obtain ⟨s,g1,g2,g3,g4,g5⟩:=h.findV n
 have hlt:=h.lt
 have hlv:=h.lv
 have eV:=h.v.len
 rw[List.length_map] at eV
 have key:∃m',ybl m ⟨n,us⟩ m' (vwE T V n us) ((gAt T n).isSome||(gAt V n).isSome)∧Inv m' T (vwT T V n us):=by
  unfold ybl vwT vwE
  cases ht:((gAt T n).isSome||(gAt V n).isSome) with
  |true=>exact ⟨m,yas rfl ⟨rfl,rfl⟩,h⟩
  | false=>
    simp only[Bool.false_eq_true,if_false]
    have hv:(gAt V n).isSome=false:=by
     cases hq:(gAt V n).isSome with
     |false=>rfl
     |true=>rw[hq,Bool.or_true] at ht;cases ht
    by_cases h8:8<=V.length
    ·rw[if_pos h8]
     exact ⟨m,yah rfl fun _=>yas (by simp;omega) ⟨rfl,rfl⟩,h⟩
    ·rw [if_neg h8]
     cases ha:us.all fun u=>(gAt T u).isSome with
     | true=>
       refine ⟨⟨m.Tables,m.Views++ [⟨n,us⟩]⟩,yah rfl fun _=>yah (by simp;omega) ?_,?_⟩
       ·refine lp1 (fun x:Int=>∃k:Nat,x=k∧k≤us.length) (fun x:Int=>us.length-x.toNat) ?_ ⟨0,rfl,Nat.zero_le _⟩
        rintro X _ ⟨k,rfl,hk⟩ hX
        unfold yb8
        intro _
        refine yaq (fun hb=> ?_) (fun hb=> ?_)
        ·have hb:(k:Int)<us.length:=by simpa using hb
         have hk':k<us.length:=by omega
         obtain ⟨z,z1,z2,z3,z4,z5⟩:=h.find us[k]
         have:=List.all_eq_true.1 ha us[k] (List.getElem_mem hk')
         refine ⟨by omega,hb,us[k],by simp[List.getElem?_eq_getElem hk'],z,z1,yah (by rw[z3,this];rfl) ?_⟩
         rw[w64s (by omega)]
         exact hX _ ⟨k+1,rfl,by omega⟩ (by simp;omega)
        ·simp only[List.nil_append]
         exact ⟨by omega,by omega,by first|rfl|trivial⟩
       ·refine ⟨h.t,?_,h.lt,?_,h.cl,fun v hv=> ?_,h.nl⟩
        ·rw[List.map_append]
         exact h.v.add (g4 hv)
        ·simp only[List.length_append,List.length_cons,List.length_nil];omega
        ·rcases List.mem_append.1 hv with hv|hv
         ·exact h.ul v hv
         ·rw[List.mem_singleton] at hv;subst hv;exact hu
     | false=>
       refine ⟨m,yah rfl fun _=>yah (by simp;omega) ?_,h⟩
       refine lp1 (fun x:Int=>∃k:Nat,x=k/\k<=us.length/\∀j u,j<k->us[j]? =some u->(gAt T u).isSome=true) (fun x:Int=>us.length-x.toNat) ?_ ⟨0,rfl,Nat.zero_le _,fun j u h=>by omega⟩
       rintro X _ ⟨k,rfl,hk,hb4⟩ hX
       unfold yb8
       intro _
       refine yaq (fun hb=> ?_) (fun hb=> ?_)
       ·have hb:(k:Int)<us.length:=by simpa using hb
        have hk':k<us.length:=by omega
        obtain ⟨z,z1,z2,z3,z4,z5⟩:=h.find us[k]
        refine ⟨by omega,hb,us[k],by simp[List.getElem?_eq_getElem hk'],z,z1,?_⟩
        rw[z3,w64s (by omega)]
        refine yaq (fun q=>⟨rfl,rfl⟩) (fun q=> ?_)
        refine hX _ ⟨k+1,rfl,by omega,fun j u hj hu'=> ?_⟩ (by simp;omega)
        by_cases e:j=k
        ·subst e;rw[List.getElem?_eq_getElem hk'] at hu';cases hu';simpa using q
        ·exact hb4 j u (by omega) hu'
       ·have hb:¬(k:Int)<us.length:=by simpa using hb
        exfalso
        have:(us.all fun u=>(gAt T u).isSome)=true:=List.all_eq_true.2 fun u hu'=>by
         obtain ⟨j,hj⟩:=List.getElem?_of_mem hu'
         have hj':=(List.getElem?_eq_some_iff.1 hj).1
         exact hb4 j u (by omega) hj
        rw[ha] at this;cases this
 obtain ⟨m',k1,k2⟩:=key
 refine ⟨m',yjQ _ _ _ _ ?_,k2⟩
 unfold yec
 refine ⟨r,f1,?_⟩
 rw[f2]
 cases ht:(gAt T n).isSome with
 |true=>rw[ht] at k1;exact yas rfl k1
 | false=>
   rw[ht,Bool.false_or,<-g2] at k1
   exact yah rfl ⟨s,g1,k1⟩
end
end Go.Proofs.Ytpplhhknlmcgbaa
end
noncomputable section
namespace Go.Proofs.Ytpplhhknlmcgbaa
open Go.AV Go.RowKit
section
variable {α:Type}
theorem yj7 {p:List UInt8×α}:∀ {L:GL α},(gIns p L).length=L.length+1
 | []=>rfl
 | q::L=>by
   unfold gIns
   split
   ·rfl
   ·simp[yj7 (L:=L)]
theorem ys6 {L:GL α} {n:List UInt8} {a:α} (h:∀q∈L,q.1≠n):(gPut L n a).length=L.length+1:=by
 unfold gPut;rw[yj7,yj3 h]
theorem yst {L:GL α} {n:List UInt8} {a:α} {q:List UInt8×α} (hq:q∈L) (h:q.1=n):(gPut L n a).length≤L.length:=by
 unfold gPut
 rw[yj7]
 have:(gDel L n).length<L.length:=by
  unfold gDel
  exact List.length_filter_lt_length_iff_exists.2 ⟨q,hq,by simp[h]⟩
 omega
end
theorem yqY (cs:List Cl):∀k,k≤cs.length→∀q,q∈nmL cs k↔q.1∈(cs.take k).map (·.1)
 |0,_,q=>by simp[nmL]
 | k +1,hk,q=>by
   have hk':k<cs.length:=by omega
   have hg:=List.getElem?_eq_getElem hk'
   have ih:=yqY cs k (by omega) q
   have e:nmL cs (k+1)=gPut (nmL cs k) cs[k].1 ():=by simp[nmL,hg]
   rw[e,yfR,ih,List.take_add_one,hg,List.map_append,List.mem_append]
   constructor
   ·rintro (h|⟨h,_⟩)
    ·exact .inr (by rw[h];simp)
    ·exact .inl h
   ·rintro (h|h)
    ·by_cases hn:q.1=cs[k].1
     ·exact .inl (by rw[<-hn])
     ·exact .inr ⟨h,hn⟩
    ·have h:q.1=cs[k].1:=by simpa using h
     exact .inl (by rw[<-h])
theorem yue (cs:List Cl):∀k,k≤cs.length→(((cs.take k).map (·.1)).Nodup→(nmL cs k).length=k)∧(¬((cs.take k).map (·.1)).Nodup→(nmL cs k).length<k)
 |0,_=>⟨fun _=>rfl,fun h=>absurd (by simp) h⟩
 | k +1,hk=>by
   have hk':k<cs.length:=by omega
   have hg:=List.getElem?_eq_getElem hk'
   obtain ⟨i1,i2⟩:=yue cs k (by omega)
   have hm:=yqY cs k (by omega)
   have e:nmL cs (k+1)=gPut (nmL cs k) cs[k].1 ():=by simp[nmL,hg]
   have et:(cs.take (k+1)).map (·.1)=(cs.take k).map (·.1)++ [cs[k].1]:=by rw[List.take_add_one,hg,List.map_append];rfl
   rw[e,et]
   by_cases hin:cs[k].1∈(cs.take k).map (·.1)
   ·refine ⟨fun h=>absurd rfl ((List.nodup_append.1 h).2.2 _ hin _ List.mem_cons_self),fun _=> ?_⟩
    have:=yst (n:=cs[k].1) (a:=()) ((hm (cs[k].1,())).2 hin) rfl
    have:=yqd cs k
    omega
   ·have hnew:∀q∈nmL cs k,q.1≠cs[k].1:=fun q hq h=>hin (h▸(hm q).1 hq)
    rw[ys6 hnew]
    refine ⟨fun h=>by rw[i1 (List.nodup_append.1 h).1],fun h=> ?_⟩
    have:¬((cs.take k).map (·.1)).Nodup:=fun hd=>h (List.nodup_append.2 ⟨hd,by simp,fun x hx y hy e=>by
     rw[List.mem_singleton] at hy
     subst hy;subst e;exact hin hx⟩)
    have:=i2 this
    omega
section
variable {m:yab} {n:Str} {l:List yae} {r0:yab} {r1 x3:Int}
theorem ywo (hl:l.length≤10) (ht:m.Tables.length≤8) (h7:∀(i j:Nat) (x y:yae),i<j→l[i]? =some x→l[j]? =some y→x.Name=y.Name→m=r0∧(7:Int)=r1) (h0:(l.map (·.Name)).Nodup→(⟨m.Tables++ [⟨n,l,x3⟩],m.Views⟩:yab)=r0∧(0:Int)=r1):
  ∀X6:Int->Prop,(∀x11,ydg m n l r0 r1 x3 X6 x11->X6 x11)->X6 (0:Int):=by
 refine lp1 (fun x:Int=>∃k:Nat,x=k/\k<=l.length/\((l.take k).map (·.Name)).Nodup) (fun x:Int=>l.length-x.toNat) ?_ ⟨0,rfl,Nat.zero_le _,by simp⟩
 rintro X _ ⟨k,rfl,hk,hnd⟩ hX
 unfold ydg
 intro _
 refine yaq (fun hb=> ?_) (fun hb=> ?_)
 ·have hb:(k:Int)<l.length:=by simpa using hb
  have hk':k<l.length:=by omega
  have hg:=List.getElem?_eq_getElem hk'
  refine lp1 (fun x:Int=>∃i:Nat,x=i/\i<=k/\∀j y,j<i->l[j]? =some y->y.Name≠l[k].Name) (fun x:Int=>l.length-x.toNat) ?_ ⟨0,rfl,Nat.zero_le _,fun j y h=>by omega⟩
  rintro Y _ ⟨i,rfl,hi,hlt⟩ hY
  unfold ydS
  rw[w64s (by omega),w64s (by omega)]
  refine yaq (fun hc=> ?_) (fun hc=> ?_)
  ·have hc:(i:Int)<k:=by simpa using hc
   have hi':i<l.length:=by omega
   have gi:=List.getElem?_eq_getElem hi'
   refine ⟨by omega,by omega,l[i],by simp[gi],by omega,hb,l[k],by simp[hg],?_⟩
   refine yaq (fun q=> ?_) (fun q=> ?_)
   ·exact h7 i k _ _ (by omega) gi hg (by simpa using q)
   ·have q:¬l[i].Name=l[k].Name:=by simpa using q
    refine hY _ ⟨i+1,rfl,by omega,fun j y hj hy=> ?_⟩ (by simp;omega)
    by_cases e:j=i
    ·subst e;rw[gi] at hy;cases hy;exact q
    ·exact hlt j y (by omega) hy
  ·have hc:¬(i:Int)<k:=by simpa using hc
   have e:i=k:=by omega
   subst e
   refine hX _ ⟨i+1,rfl,by omega,?_⟩ (by simp;omega)
   rw[List.take_add_one,hg,List.map_append,List.nodup_append]
   refine ⟨hnd,by simp,fun x hx y hy e=> ?_⟩
   have hy:y=l[i].Name:=by simpa using hy
   obtain ⟨c,hc,rfl⟩:=List.mem_map.1 hx
   obtain ⟨j,hj⟩:=List.getElem?_of_mem hc
   have hj2:=(List.getElem?_eq_some_iff.1 hj).1
   rw[List.length_take] at hj2
   rw[List.getElem?_take_of_lt (by omega)] at hj
   exact hlt j c (by omega) hj (e.trans hy)
 ·have hb:¬(k:Int)<l.length:=by simpa using hb
  have e:k=l.length:=by omega
  rw[e,List.take_length] at hnd
  simp only[List.nil_append]
  exact ⟨by omega,by omega,by omega,h0 hnd⟩
theorem yv0 (hl:l.length≤10) (ht:m.Tables.length≤8) (h5:∀c∈l,badK (cO c)=true→m=r0∧(5:Int)=r1) (h7:(∀c∈l,badK (cO c)=false)→∀(i j:Nat) (x y:yae),i<j→l[i]? =some x→l[j]? =some y→x.Name=y.Name→m=r0∧(7:Int)=r1) (h0:(∀c∈l,badK (cO c)=false)→(l.map (·.Name)).Nodup→(⟨m.Tables++ [⟨n,l,x3⟩],m.Views⟩:yab)=r0∧(0:Int)=r1):
  ∀X4:Int->Prop,(∀x7,ydd m n l r0 r1 x3 X4 x7->X4 x7)->X4 (0:Int):=by
 refine lp1 (fun x:Int=>∃k:Nat,x=k/\k<=l.length/\∀j y,j<k->l[j]? =some y->badK (cO y)=false) (fun x:Int=>l.length-x.toNat) ?_ ⟨0,rfl,Nat.zero_le _,fun j y h=>by omega⟩
 rintro X _ ⟨k,rfl,hk,hlt⟩ hX
 unfold ydd
 intro _
 refine yaq (fun hb=> ?_) (fun hb=> ?_)
 ·have hb:(k:Int)<l.length:=by simpa using hb
  have hk':k<l.length:=by omega
  have hg:=List.getElem?_eq_getElem hk'
  refine ⟨by omega,hb,l[k],by simp[hg],?_⟩
  refine yaq (fun q=> ?_) (fun q=>⟨by omega,hb,l[k],by simp[hg],?_⟩)
  ·unfold ybU
   exact yas rfl (h5 _ (List.getElem_mem hk') (by unfold badK cO;simp only at q⊢;rw[q,Bool.true_or]))
  ·unfold ybU
   refine yaq (fun q2=> ?_) (fun q2=> ?_)
   ·exact h5 _ (List.getElem_mem hk') (by unfold badK cO;simp only at q2⊢;rw[q2,Bool.or_true])
   ·rw[w64s (by omega)]
    refine hX _ ⟨k+1,rfl,by omega,fun j y hj hy=> ?_⟩ (by simp;omega)
    by_cases e:j=k
    ·subst e;rw[hg] at hy;cases hy
     unfold badK cO;simp only at q q2⊢;rw[q,q2];rfl
    ·exact hlt j y (by omega) hy
 ·have hb:¬(k:Int)<l.length:=by simpa using hb
  have hall:∀c∈l,badK (cO c)=false:=fun c hc=>by
   obtain ⟨j,hj⟩:=List.getElem?_of_mem hc
   have hj':=(List.getElem?_eq_some_iff.1 hj).1
   exact hlt j c (by omega) hj
  exact ywo hl ht (h7 hall) (h0 hall)
theorem ysq {cs:List Cl} {k:Nat} {c:Cl} (h:cs[k]? =some c):kSt cs (k+1)=if c.2.2=true then (k,(kSt cs k).2+1) else kSt cs k:=by
 simp[kSt,h]
theorem yvO (hl:l.length≤10) (ht:m.Tables.length≤8) (hr0:r0=if yc4 (l.map cO)=0 then (⟨m.Tables++ [⟨n,l,((kSt (l.map cO) l.length).1:Int)⟩],m.Views⟩:yab) else m) (hr1:r1=yc4 (l.map cO)):
  ∀X2:Int->Int->Int->Prop,(∀x2 x3 x4,ydb m n l r0 r1 X2 x2 x3 x4->X2 x2 x3 x4)->X2 (0:Int) (0:Int) (0:Int):=by
 refine lp3 (fun (x2 x3 x4:Int)=>∃k:Nat,x4=k/\k<=l.length/\x2=((kSt (l.map cO) k).2:Int)/\x3=((kSt (l.map cO) k).1:Int)) (fun _ _ (x:Int)=>l.length-x.toNat) ?_ ⟨0,rfl,Nat.zero_le _,rfl,rfl⟩
 rintro X _ _ _ ⟨k,rfl,hk,rfl,rfl⟩ hX
 have hle:=yrM (l.map cO) k
 unfold ydb
 intro _
 refine yaq (fun hb=> ?_) (fun hb=> ?_)
 ·have hb:(k:Int)<l.length:=by simpa using hb
  have hk':k<l.length:=by omega
  have hg:=List.getElem?_eq_getElem hk'
  have hs:=ysq (cs:=l.map cO) (k:=k) (c:=cO l[k]) (by rw[List.getElem?_map,hg];rfl)
  refine ⟨by omega,hb,l[k],by simp[hg],?_⟩
  rw[w64s (by omega),w64s (by omega)]
  refine yaq (fun q=> ?_) (fun q=> ?_)
  ·have e:kSt (l.map cO) (k+1)=(k,(kSt (l.map cO) k).2+1):=by rw[hs];exact if_pos q
   exact hX _ _ _ ⟨k+1,rfl,by omega,by rw[e],by rw[e]⟩ (by simp;omega)
  ·have e:kSt (l.map cO) (k+1)=kSt (l.map cO) k:=by
    rw[hs];exact if_neg (fun h=>by have h:l[k].Key=true:=h;rw[h] at q;cases q)
   exact hX _ _ _ ⟨k+1,rfl,by omega,by rw[e],by rw[e]⟩ (by simp;omega)
 ·have hb:¬(k:Int)<l.length:=by simpa using hb
  have ek:k=l.length:=by omega
  subst ek
  by_cases h17:l.length=0∨8<l.length∨¬(kSt (l.map cO) l.length).2=1
  ·have er:yc4 (l.map cO)=17:=by
    unfold yc4
    rw[List.length_map,if_pos h17]
   rw[er] at hr0 hr1
   rw[if_neg (by decide)] at hr0
   have J:ybo m n l r0 r1 ((kSt (l.map cO) l.length).1:Int) true:=by
    unfold ybo
    exact yas rfl ⟨hr0.symm,hr1.symm⟩
   intro _
   refine yaq (fun _=>J) (fun h1 _=>yaq (fun _=>J) (fun h2=> ?_))
   have h1:¬(l.length:Int)<1:=by simpa using h1
   have h2:¬(8:Int)<l.length:=by simpa using h2
   have h3:¬(kSt (l.map cO) l.length).2=1:=by
    rcases h17 with h|h|h
    ·omega
    ·omega
    ·exact h
   have:(!(((kSt (l.map cO) l.length).2:Int)==1))=true:=by simp;omega
   rw[this];exact J
  ·have h17':¬l.length=0∧¬8<l.length∧(kSt (l.map cO) l.length).2=1:=by
    refine ⟨fun h=>h17 (.inl h),fun h=>h17 (.inr (.inl h)),?_⟩
    by_cases h:(kSt (l.map cO) l.length).2=1
    ·exact h
    ·exact absurd (.inr (.inr h)) h17
   have er:yc4 (l.map cO)=if (l.map cO).any badK=true then 5 else if (nmL (l.map cO) (l.map cO).length).length<(l.map cO).length then 7 else 0:=by
    unfold yc4
    rw[if_neg (by rw[List.length_map];exact h17)]
   intro _
   refine yah (by simp;omega) fun _=>yah (by simp;omega) ?_
   have:(!(((kSt (l.map cO) l.length).2:Int)==1))=false:=by simp;omega
   rw[this]
   unfold ybo
   refine yah rfl ?_
   have nof:(∀c∈l,badK (cO c)=false)→(l.map cO).any badK=false:=fun hall=>by
    rw[List.any_eq_false]
    intro x hx
    obtain ⟨c,hc,rfl⟩:=List.mem_map.1 hx
    rw[hall c hc];decide
   have hnm:=yue (l.map cO) (l.map cO).length (Nat.le_refl _)
   rw[List.take_length,List.map_map,show ((fun q:Cl=>q.1)∘cO)=fun c:yae=>c.Name from rfl] at hnm
   refine yv0 hl ht (fun c hc hbad=> ?_) (fun hall i j x y hij hx hy hxy=> ?_) (fun hall hnd=> ?_)
   ·have ha:(l.map cO).any badK=true:=List.any_eq_true.2 ⟨cO c,List.mem_map_of_mem hc,hbad⟩
    rw[if_pos ha] at er
    rw[er] at hr0 hr1
    rw[if_neg (by decide)] at hr0
    exact ⟨hr0.symm,hr1.symm⟩
   ·rw[if_neg (by rw[nof hall];decide)] at er
    have hd:¬(l.map (·.Name)).Nodup:=fun hd=>by
     obtain ⟨hi,hxe⟩:=List.getElem?_eq_some_iff.1 hx
     obtain ⟨hj,hye⟩:=List.getElem?_eq_some_iff.1 hy
     have:=List.pairwise_iff_getElem.1 hd i j (by simpa using hi) (by simpa using hj) hij
     simp only[List.getElem_map,hxe,hye] at this
     exact this hxy
    rw[if_pos (hnm.2 hd)] at er
    rw[er] at hr0 hr1
    rw[if_neg (by decide)] at hr0
    exact ⟨hr0.symm,hr1.symm⟩
   ·rw[if_neg (by rw[nof hall];decide),if_neg (by rw[hnm.1 hnd];omega)] at er
    rw[er] at hr0 hr1
    rw[if_pos rfl] at hr0
    exact ⟨hr0.symm,hr1.symm⟩
end
theorem ywB {m:yab} {T:CTb} {V:CVw} (h:Inv m T V) (n:Str) (l:List yae) (hl:l.length≤10) (hn:n.length≤9223372036854775807):∃m',ycR m n l m' (mkE T V n (l.map cO))∧Inv m' (mkT T V n (l.map cO)) V:=by
 obtain ⟨r,f1,f2,f3,f4,f5⟩:=h.find n
 obtain ⟨s,g1,g2,g3,g4,g5⟩:=h.findV n
 have hlt:=h.lt
 have eT:=h.t.len
 rw[List.length_map] at eT
 have key:∃m',yb1 m n l m' (mkE T V n (l.map cO)) ((gAt T n).isSome||(gAt V n).isSome)∧Inv m' (mkT T V n (l.map cO)) V:=by
  unfold yb1 mkT mkE
  cases ht:((gAt T n).isSome||(gAt V n).isSome) with
  |true=>exact ⟨m,yas rfl ⟨rfl,rfl⟩,h⟩
  | false=>
    simp only[Bool.false_eq_true,if_false]
    have hT:(gAt T n).isSome=false:=by
     cases hq:(gAt T n).isSome with
     |false=>rfl
     |true=>rw[hq,Bool.true_or] at ht;cases ht
    by_cases h8:8<=T.length
    ·rw[if_pos h8]
     exact ⟨m,yah rfl fun _=>yas (by simp;omega) ⟨rfl,rfl⟩,h⟩
    ·rw[if_neg h8]
     refine ⟨if yc4 (l.map cO)=0 then (⟨m.Tables++ [⟨n,l,((kSt (l.map cO) l.length).1:Int)⟩],m.Views⟩:yab) else m,yah rfl fun _=>yah (by simp;omega) (yvO hl (by omega) rfl rfl),?_⟩
     by_cases h0:yc4 (l.map cO)=0
     ·rw[if_pos h0,if_pos h0]
      refine ⟨?_,h.v,?_,h.lv,fun t ht=> ?_,h.ul,fun t ht=> ?_⟩
      ·rw[List.map_append,List.length_map]
       exact h.t.add (f4 hT)
      ·simp only[List.length_append,List.length_cons,List.length_nil];omega
      ·rcases List.mem_append.1 ht with ht|ht
       ·exact h.cl t ht
       ·rw[List.mem_singleton] at ht;subst ht;exact hl
      ·rcases List.mem_append.1 ht with ht|ht
       ·exact h.nl t ht
       ·rw[List.mem_singleton] at ht;subst ht;exact hn
     ·rw[if_neg h0,if_neg h0];exact h
 obtain ⟨m',k1,k2⟩:=key
 refine ⟨m',yl2 _ _ _ _ _ ?_,k2⟩
 unfold yf4
 refine ⟨r,f1,?_⟩
 rw[f2]
 cases ht:(gAt T n).isSome with
 |true=>rw[ht] at k1;exact yas rfl k1
 | false=>
   rw[ht,Bool.false_or,<-g2] at k1
   exact yah rfl ⟨s,g1,k1⟩
end Go.Proofs.Ytpplhhknlmcgbaa
end
noncomputable section
namespace Go.Proofs.Ytpplhhknlmcgbaa
open Go.AV Go.RowKit
theorem lp4 {α β γ δ:Type} {L:(α→β→γ→δ→Prop)→α→β→γ→δ→Prop} (I:α→β→γ→δ→Prop) (m:α→β→γ→δ→Nat) (step:∀X a b c d,I a b c d→(∀a' b' c' d',I a' b' c' d'→m a' b' c' d'<m a b c d→X a' b' c' d')→L X a b c d) {a:α} {b:β} {c:γ} {d:δ} (ha:I a b c d):∀X:α→β→γ→δ→Prop,(∀a b c d,L X a b c d→X a b c d)→X a b c d:=by
 intro X hX
 have key:∀n a b c d,I a b c d→m a b c d=n→X a b c d:=by
  intro n
  induction n using Nat.strongRecOn with
  |_ n ih=>intro a b c d ha hm;exact hX a b c d (step X a b c d ha fun a' b' c' d' hb hlt=>ih (m a' b' c' d') (by omega) a' b' c' d' hb rfl)
 exact key _ a b c d ha rfl
theorem ywu (T:CTb) (V:CVw):ybj (mkS T V) (T.map (·.1)) (V.map (·.1)):=⟨T,V,rfl,rfl,rfl⟩
theorem yu2 (T:CTb) (V:CVw) {n:Str} (hn:n.length<=9223372036854775807):ybi n (mkS T V) (usr V n):=⟨T,V,rfl,hn,rfl⟩
theorem ynx (T:CTb) (V:CVw) {n:Str} (hn:n.length<=9223372036854775807):yap n (mkS T V) (mkTb (tbOf T n)) (gAt T n).isSome:=⟨T,V,rfl,hn,rfl,rfl⟩
section
variable {m:yab} {T:CTb} {V:CVw}
theorem Inv.tb (h:Inv m T V) {t:yac} (ht:t∈m.Tables):(gAt T t.Name).isSome=true∧mkTb (tbOf T t.Name)=⟨t.Name,(t.Columns.map cO).map mkC,t.Key⟩:=by
 have:=h.t.at_some (n:=t.Name) (a:=(t.Columns.map cO,t.Key)) (List.mem_map_of_mem ht)
 unfold tbOf
 rw[this]
 exact ⟨rfl,rfl⟩
theorem p_is (h:Inv m T V) {n:Str} (hn:n.length≤9223372036854775807):ycc m n (mkS T V) true (mkS T V):=by
 refine ylr _ _ _ _ _ ?_
 unfold ye5
 have hlt:=h.lt
 have hlv:=h.lv
 have eT:=h.t.len
 have eV:=h.v.len
 rw[List.length_map] at eT eV
 have hu:=yr7 h n
 refine ⟨_,_,ywu T V,_,_,yuy h,_,yqz (by rw[List.length_map];omega) (by rw[List.length_map];omega),yah (by simp) ⟨_,yqz (by rw[List.length_map];omega) (by rw[List.length_map];omega),yah (by simp) ⟨_,yu2 T V hn,_,ynl h n,_,yqz (by omega) (by omega),?_⟩⟩⟩
 unfold ybG
 obtain ⟨r,f1,f2,_⟩:=h.find n
 refine yah (by simp) ⟨_,_,ynx T V hn,r,f1,yah (by rw[f2];simp) ?_⟩
 refine lp2 (fun (x:Int) (y:yaa)=>∃k:Nat,x=k/\k<=m.Tables.length/\y=mkS T V) (fun (x:Int) _=>m.Tables.length-x.toNat) ?_ ⟨0,rfl,Nat.zero_le _,rfl⟩
 rintro X _ _ ⟨k,rfl,hk,rfl⟩ hX
 unfold ydD
 intro _
 refine yaq (fun hb=> ?_) (fun hb=>⟨rfl,rfl⟩)
 have hb:(k:Int)<m.Tables.length:=by simpa using hb
 have hk':k<m.Tables.length:=by omega
 have hg:=List.getElem?_eq_getElem hk'
 have hmem:=List.getElem_mem hk'
 obtain ⟨b1,b2⟩:=h.tb hmem
 have hcl:=h.cl _ hmem
 refine ⟨by omega,hb,m.Tables[k],by simp[hg],_,_,ynx T V (h.nl _ hmem),yah (by rw[b1];rfl) ⟨by omega,hb,m.Tables[k],by simp[hg],?_⟩⟩
 rw[b2]
 refine yah (by simp) ⟨by omega,hb,m.Tables[k],by simp[hg],yah (by simp) ⟨by omega,hb,m.Tables[k],by simp[hg],?_⟩⟩
 unfold ybq
 refine yah (by simp) ?_
 refine lp2 (fun (x:Int) (y:yaa)=>∃i:Nat,x=i/\i<=m.Tables[k].Columns.length/\y=mkS T V) (fun (x:Int) _=>m.Tables[k].Columns.length-x.toNat) ?_ ⟨0,rfl,Nat.zero_le _,rfl⟩
 rintro Y _ _ ⟨i,rfl,hi,rfl⟩ hY
 unfold ydn
 intro _
 simp only[List.length_map]
 rw[w64s (by omega),w64s (by omega)]
 refine yaq (fun hc=> ?_) (fun hc=>hX _ _ ⟨k+1,rfl,by omega,rfl⟩ (by simp;omega))
 have hc:(i:Int)<m.Tables[k].Columns.length:=by simpa using hc
 have hi':i<m.Tables[k].Columns.length:=by omega
 have gi:=List.getElem?_eq_getElem hi'
 refine ⟨by omega,hc,mkC (cO m.Tables[k].Columns[i]),by simp[gi],by omega,hb,m.Tables[k],by simp[hg],by omega,hc,m.Tables[k].Columns[i],by simp[gi],yah (by simp[mkC,cO]) ?_⟩
 exact hY _ _ ⟨i+1,rfl,by omega,rfl⟩ (by simp;omega)
end
theorem yuZ (l:List yaf) (n:Str) (hl:l.length≤1000):∃r,yaJ l n r n∧((r= -1∧∀(j:Nat) (t:yaf),l[j]? =some t→t.Name≠n)∨∃(k:Nat) (t:yaf),r=(k:Int)∧l[k]? =some t∧t.Name=n∧∀(j:Nat) (u:yaf),j<k→l[j]? =some u→u.Name≠n):=by
 have hex:(∀t∈l,t.Name≠n)∨∃(k:Nat) (t:yaf),l[k]? =some t∧t.Name=n∧∀(j:Nat) (u:yaf),j<k→l[j]? =some u→u.Name≠n:=by
  clear hl
  induction l with
  |nil=>exact .inl fun t h=>by cases h
  | cons a l ih=>
    by_cases ha:a.Name=n
    ·exact .inr ⟨0,a,rfl,ha,fun j u h=>by omega⟩
    ·rcases ih with h|⟨k,t,h1,h2,h3⟩
     ·exact .inl fun t ht=>by
       rcases List.mem_cons.1 ht with rfl|ht
       ·exact ha
       ·exact h t ht
     ·refine .inr ⟨k+1,t,by simpa using h1,h2,fun j u hj hu=> ?_⟩
      cases j with
      |zero=>simp at hu;subst hu;exact ha
      |succ j=>exact h3 j u (by omega) (by simpa using hu)
 rcases hex with hno|⟨k0,t,h1,h2,h3⟩
 ·refine ⟨-1,ycs _ _ _ _ ?_, .inl ⟨rfl,fun j t ht=>hno t (List.mem_of_getElem? ht)⟩⟩
  unfold ya5
  intro _
  refine lp2 (fun (x:Int) (y:Str)=>∃k:Nat,x=k/\k<=l.length/\n=y) (fun (x:Int) _=>l.length-x.toNat) ?_ ⟨0,rfl,Nat.zero_le _,rfl⟩
  rintro X _ _ ⟨k,rfl,hk,rfl⟩ hX
  unfold yaM
  refine yaq (fun hb=> ?_) (fun hb=>⟨rfl,rfl⟩)
  have hb:(k:Int)<l.length:=by simpa using hb
  have hk':k<l.length:=by omega
  refine ⟨by omega,hb,l[k],by simp[List.getElem?_eq_getElem hk'],_,⟨rfl,rfl⟩,?_⟩
  refine yah (by simpa using hno _ (List.getElem_mem hk')) ?_
  rw[w64s (by omega)]
  exact hX _ _ ⟨k+1,rfl,by omega,rfl⟩ (by simp;omega)
 ·have hk0:=(List.getElem?_eq_some_iff.1 h1).1
  refine ⟨(k0:Int),ycs _ _ _ _ ?_, .inr ⟨k0,t,rfl,h1,h2,h3⟩⟩
  unfold ya5
  intro _
  refine lp2 (fun (x:Int) (y:Str)=>∃k:Nat,x=k/\k<=k0/\n=y) (fun (x:Int) _=>l.length-x.toNat) ?_ ⟨0,rfl,Nat.zero_le _,rfl⟩
  rintro X _ _ ⟨k,rfl,hk,rfl⟩ hX
  unfold yaM
  have hk':k<l.length:=by omega
  refine yas (by simp;omega) ?_
  refine ⟨by omega,by omega,l[k],by simp[List.getElem?_eq_getElem hk'],_,⟨rfl,rfl⟩,?_⟩
  refine yaq (fun q=> ?_) (fun q=> ?_)
  ·have q:l[k].Name=n:=by simpa using q
   rcases Nat.lt_or_ge k k0 with h|h
   ·exact absurd q (h3 k _ h (List.getElem?_eq_getElem hk'))
   ·have e:k=k0:=by omega
    rw[e];exact ⟨rfl,rfl⟩
  ·have q:¬l[k].Name=n:=by simpa using q
   rw[w64s (by omega)]
   refine hX _ _ ⟨k+1,rfl,?_,rfl⟩ (by simp;omega)
   rcases Nat.lt_or_ge k k0 with h|h
   ·exact h
   ·have e:k=k0:=by omega
    subst e
    rw[List.getElem?_eq_getElem hk'] at h1
    cases h1;exact absurd h2 q
section
variable {X1:Int->yaa->List yac->List yad->Prop} {i:Nat} {T:CTb} {V:CVw}
theorem j3 {x5:List yac} {x6:List yad} (h:Inv ⟨x5,x6⟩ T V) {y:yai} (hn:y.Name.length≤9223372036854775807) (hi:i≤60) (hX:X1 ((i+1:Nat):Int) (mkS T V) x5 x6) (e:Int):
  yak X1 true i e e (mkS T V) x5 x6 y.What y.Name y.Columns y.Uses:=by
 unfold yak
 refine yah (by simp) ⟨true,mkS T V,p_is h hn,?_⟩
 unfold yaY
 refine yah rfl ?_
 rw[w64s (by omega)];exact hX
theorem j6 {x5:List yac} {x6:List yad} (h:Inv ⟨x5,x6⟩ T V) {y:yai} (hn:y.Name.length≤9223372036854775807) (hi:i≤60) (hX:X1 ((i+1:Nat):Int) (mkS T V) x5 x6) {t:yac} (ht:t.Columns.length≤10) {z:Int} (hz:(z= -1∧∀(j:Nat) (c:yae),t.Columns[j]? =some c→c.Name≠y.Name)∨∃(k:Nat) (c:yae),z=(k:Int)∧t.Columns[k]? =some c∧c.Name=y.Name∧∀(j:Nat) (u:yae),j<k→t.Columns[j]? =some u→u.Name≠y.Name):
  ∀X6:Int->Bool->Int->yaa->Prop,(∀x42 x43 x44 x45,ybk X1 true i x5 x6 y t (if (0:Int)>z then (0:Int) else z) (decide ((0:Int)<=z)) X6 x42 x43 x44 x45->X6 x42 x43 x44 x45)->X6 (0:Int) false (IntKind.i64.wrap ((t.Columns.length:Int)-(1:Int))) (mkS T V):=by
 refine lp4 (fun (a:Int) (b:Bool) (x:Int) (s:yaa)=>s=mkS T V/\∃k:Nat,x=(k:Int)-1/\k<=t.Columns.length/\((b=false/\a=0/\∀(j:Nat) (c:yae),k<=j->t.Columns[j]? =some c->c.Name≠y.Name)∨(b=true/\∃(f:Nat) (c:yae),a=(f:Int)/\t.Columns[f]? =some c/\c.Name=y.Name/\∀(j:Nat) (c:yae),k<=j->j<f->t.Columns[j]? =some c->c.Name≠y.Name))) (fun _ _ (x:Int) _=>(x+1).toNat) ?_ ⟨rfl,t.Columns.length,Go.AV.wrap64 (by omega) (by omega),Nat.le_refl _, .inl ⟨rfl,rfl,fun j c hj hc=>by have:=(List.getElem?_eq_some_iff.1 hc).1;omega⟩⟩
 rintro X a b _ _ ⟨rfl,k,rfl,hk,hab⟩ hX6
 unfold ybk
 refine yaq (fun hb=> ?_) (fun hb=> ?_)
 ·have hb:(0:Int)≤(k:Int)-1:=by simpa using hb
  have hk':k-1<t.Columns.length:=by omega
  have hg:=List.getElem?_eq_getElem hk'
  have en:((k:Int)-1).toNat=k-1:=by omega
  rw[Go.AV.wrap64 (by omega) (by omega)]
  refine ⟨hb,by omega,t.Columns[k-1],by rw[en,hg],?_⟩
  refine yaq (fun q=> ?_) (fun q=> ?_)
  ·have q:t.Columns[k-1].Name=y.Name:=by simpa using q
   exact hX6 _ _ _ _ ⟨rfl,k-1,by omega,by omega, .inr ⟨rfl,k-1,_,by omega,hg,q,fun j c h1 h2=>by omega⟩⟩ (by omega)
  ·have q:¬t.Columns[k-1].Name=y.Name:=by simpa using q
   refine hX6 _ _ _ _ ⟨rfl,k-1,by omega,by omega,?_⟩ (by omega)
   rcases hab with ⟨rfl,rfl,h1⟩|⟨rfl,f,c,rfl,h1,h2,h3⟩
   ·refine .inl ⟨rfl,rfl,fun j c hj hc=> ?_⟩
    by_cases e:j=k-1
    ·subst e;rw[hg] at hc;cases hc;exact q
    ·exact h1 j c (by omega) hc
   ·refine .inr ⟨rfl,f,c,rfl,h1,h2,fun j c hj hf hc=> ?_⟩
    by_cases e:j=k-1
    ·subst e;rw[hg] at hc;cases hc;exact q
    ·exact h3 j c (by omega) hf hc
 ·have hb:¬(0:Int)≤(k:Int)-1:=by simpa using hb
  have e:k=0:=by omega
  subst e
  have hfin:(if (0:Int)>z then (0:Int) else z)=a∧decide ((0:Int)≤z)=b:=by
   rcases hab with ⟨rfl,rfl,h1⟩|⟨rfl,f,c,rfl,h1,h2,h3⟩
   ·rcases hz with ⟨rfl,_⟩|⟨k,c,rfl,h4,h5,_⟩
    ·exact ⟨rfl,rfl⟩
    ·exact absurd h5 (h1 k c (Nat.zero_le _) h4)
   ·rcases hz with ⟨rfl,h4⟩|⟨k,c',rfl,h4,h5,h6⟩
    ·exact absurd h2 (h4 f c h1)
    ·have:k=f:=by
      rcases Nat.lt_trichotomy k f with g|g|g
      ·exact absurd h5 (h3 k c' (Nat.zero_le _) g h4)
      ·exact g
      ·exact absurd h2 (h6 f c g h1)
     subst this
     exact ⟨if_neg (by omega),by simp⟩
  rw[hfin.1,hfin.2]
  refine yah (by simp) ?_
  unfold yaX
  exact yah (by simp) (j3 h hn hi hX 0)
end
end Go.Proofs.Ytpplhhknlmcgbaa
end
noncomputable section
namespace Go.Proofs.Ytpplhhknlmcgbaa
open Go.AV Go.RowKit
abbrev T0:CTb:= [([116],[([97],2,true)],0)]
abbrev V0:CVw:= [([118],[[116]])]
theorem ytd:ybW true:=by
 refine yks _ ?_
 unfold yeD
 have m1:mkE [] [] [116] [([97],2,true)]=0:=by decide
 have m2:mkT [] [] [116] [([97],2,true)]=T0:=by decide
 have v1:vwE T0 [] [118] [[116]]=0:=by decide
 have v2:vwT T0 [] [118] [[116]]=V0:=by decide
 have t1:tbOf T0 [116]=([116],[([97],2,true)],0):=by decide
 have t2:(gAt T0 [116]).isSome=true:=by decide
 have d1:dpE T0 V0 [116]=15:=by decide
 refine ⟨mkS [] [],rfl,0,mkS T0 [],⟨[],[],rfl,by decide,by decide,by decide,m1.symm,by rw[show unC [⟨[97],2,true⟩]= [([97],2,true)] from rfl,m2]⟩,0,mkS T0 V0,⟨T0,[],rfl,by decide,by decide,by decide,v1.symm,by rw[v2]⟩,mkTb (tbOf T0 [116]),(gAt T0 [116]).isSome,⟨T0,V0,rfl,by decide,rfl,rfl⟩,?_⟩
 rw[t1,t2]
 exact yas rfl (yas rfl (yas rfl fun _=>yas rfl (yas rfl ⟨15,mkS (dpT T0 V0 [116]) V0,⟨T0,V0,rfl,by decide,d1.symm,rfl⟩,rfl⟩)))
section
variable {X1:Int->yaa->List yac->List yad->Prop} {i:Nat} {T:CTb} {V:CVw}
theorem ml:maxLen=9223372036854775807:=rfl
abbrev f1 (c:yag):yaf:=⟨c.Name,c.Kind,c.Key⟩
abbrev f2 (c:yag):yae:=⟨c.Name,c.Kind,c.Key⟩
theorem un_f (l:List yag):unC (l.map f1)=(l.map f2).map cO:=by
 unfold unC
 rw[List.map_map,List.map_map];rfl
theorem j5 {x5:List yac} {x6:List yad} (h:Inv ⟨x5,x6⟩ T V) {y:yai} (hy:ydZ y) (hi:i≤60) (hX:∀m' T' V',Inv m' T' V'→X1 ((i+1:Nat):Int) (mkS T' V') m'.Tables m'.Views) (b:Bool):
  yaQ X1 true i x5 x6 y b (mkS T V):=by
 obtain ⟨_,hn,⟨_,hc⟩,⟨_,hu⟩⟩:=hy
 rw[ml] at hn
 unfold yaQ
 refine yaq (fun _ _=> ?_) (fun _=>yaq (fun _=> ?_) (fun _=>yaq (fun _ _=> ?_) (fun _=> ?_)))
 ·
  have e:(if (4:Int)<(y.Uses.length:Int) then (4:Int) else (y.Uses.length:Int))=((min 4 y.Uses.length:Nat):Int):=by split<;>omega
  rw[e,tsl0]
  have hl:(y.Uses.take (min 4 y.Uses.length)).length<=4:=by rw[List.length_take];omega
  obtain ⟨m',a1,a2⟩:=ysh h y.Name _ hl
  exact ⟨⟨by omega,by omega,by omega⟩,_,_,⟨T,V,rfl,hn,by omega,fun u hu'=>by have:=hu u (List.mem_of_mem_take hu');rw[ml] at this;exact this,rfl,rfl⟩,_,_,a1,j3 a2 hn hi (hX _ _ _ a2) _⟩
 ·
  obtain ⟨m',a1,a2⟩:=yww h y.Name
  exact ⟨_,_,⟨T,V,rfl,hn,rfl,rfl⟩,_,_,a1,j3 a2 hn hi (hX _ _ _ a2) _⟩
 ·
  have hlt:=h.lt
  simp only at hlt
  refine yaq (fun hb=> ?_) (fun hb=>j3 h hn hi (hX _ _ _ h) 0)
  have hb:(0:Int)<x5.length:=by simpa using hb
  have em:((y.Name.length:Int).tmod (x5.length:Int))=((y.Name.length % x5.length:Nat):Int):=by
   rw[Int.tmod_eq_emod_of_nonneg (by omega)];rfl
  have hmod:y.Name.length % x5.length<x5.length:=Nat.mod_lt _ (by omega)
  rw[em]
  have hg:=List.getElem?_eq_getElem hmod
  have hmem:x5[y.Name.length % x5.length]∈x5:=List.getElem_mem hmod
  obtain ⟨b1,b2⟩:=h.tb hmem
  have hcl:=h.cl _ hmem
  refine ⟨by omega,by omega,by omega,_,by rw[Int.toNat_natCast];exact hg,_,_,ynx T V (h.nl _ hmem),?_⟩
  rw[b2]
  generalize x5[y.Name.length % x5.length]=t at hcl
  obtain ⟨z,z1,z2⟩:=yuZ ((t.Columns.map cO).map mkC) y.Name (by rw[List.length_map,List.length_map];omega)
  have hcol:∀j:Nat,((t.Columns.map cO).map mkC)[j]? =(t.Columns[j]?).map fun c=>mkC (cO c):=fun j=>by
   rw[List.getElem?_map,List.getElem?_map];cases t.Columns[j]?<;>rfl
  refine ⟨_,_,⟨z,_,z1,rfl,rfl⟩,fun _=>j6 h hn hi (hX _ _ _ h) hcl (z:=z) ?_⟩
  rcases z2 with ⟨rfl,z2⟩|⟨k,c,rfl,z2,z3,z4⟩
  ·refine .inl ⟨rfl,fun j c hj=> ?_⟩
   exact z2 j (mkC (cO c)) (by rw[hcol,hj];rfl)
  ·rw[hcol] at z2
   cases hk:t.Columns[k]? with
   |none=>rw[hk] at z2;cases z2
   | some c'=>
     rw[hk] at z2
     simp only[Option.map_some,Option.some.injEq] at z2
     subst z2
     exact .inr ⟨k,c',rfl,hk,z3,fun j u hj hu'=>z4 j (mkC (cO u)) hj (by rw[hcol,hu'];rfl)⟩
 ·
  refine lp4 (fun (x:Int) (s:yaa) (a:List yaf) (b:List yae)=>∃k:Nat,x=k/\k<=y.Columns.length/\k<=10/\s=mkS T V/\a=(y.Columns.take k).map f1/\b=(y.Columns.take k).map f2) (fun (x:Int) _ _ _=>y.Columns.length-x.toNat) ?_ ⟨0,rfl,Nat.zero_le _,Nat.zero_le _,rfl,rfl,rfl⟩
  rintro X _ _ _ _ ⟨k,rfl,hk,hk2,rfl,rfl,rfl⟩ hX8
  unfold ybJ
  intro _
  have fin:yaK X1 X true i x5 x6 k y false (mkS T V) ((y.Columns.take k).map f1) ((y.Columns.take k).map f2):=by
   unfold yaK
   refine yah rfl ?_
   obtain ⟨m',a1,a2⟩:=ywB h y.Name ((y.Columns.take k).map f2) (by rw[List.length_map,List.length_take];omega) hn
   refine ⟨_,_,⟨T,V,rfl,hn,by unfold unC;rw[List.length_map,List.length_map,List.length_take];omega,fun c hc'=> ?_,rfl,rfl⟩,_,_,a1,?_⟩
   ·rw[un_f,List.map_map] at hc'
    obtain ⟨q,hq,rfl⟩:=List.mem_map.1 hc'
    have:=(hc q (List.mem_of_mem_take hq)).1
    rw[ml] at this;exact this
   ·rw[un_f]
    exact j3 a2 hn hi (hX _ _ _ a2) _
  refine yaq (fun hb=> ?_) (fun hb=>fin)
  have hb:(k:Int)<y.Columns.length:=by simpa using hb
  have hk':k<y.Columns.length:=by omega
  have hg:=List.getElem?_eq_getElem hk'
  cases h10:decide ((k:Int)<10) with
  |false=>exact fin
  | true=>
    have h10:(k:Int)<10:=by simpa using h10
    unfold yaK
    refine yas rfl ⟨by omega,hb,y.Columns[k],by simp[hg],by rw[List.length_map,List.length_take];omega,by omega,hb,y.Columns[k],by simp[hg],by rw[List.length_map,List.length_take];omega,?_⟩
    rw[w64s (by omega)]
    refine hX8 _ _ _ _ ⟨k+1,rfl,by omega,by omega,rfl,?_,?_⟩ (by simp;omega)
    ·rw[List.take_add_one,hg,List.map_append];rfl
    ·rw[List.take_add_one,hg,List.map_append];rfl
end
theorem yij:yiQ:=by
 intro a0 ha
 refine yhc _ _ ?_
 unfold ycA
 refine ⟨true,ytd,yah rfl ⟨mkS [] [],rfl,?_⟩⟩
 refine lp4 (fun (x:Int) (s:yaa) (a:List yac) (b:List yad)=>∃i:Nat,x=i/\i<=a0.length/\i<=60/\∃T V,s=mkS T V/\Inv ⟨a,b⟩ T V) (fun (x:Int) _ _ _=>a0.length-x.toNat) ?_ ⟨0,rfl,Nat.zero_le _,Nat.zero_le _,[],[],rfl,Rp.nil,Rp.nil,Nat.zero_le _,Nat.zero_le _,fun t h=>(by cases h),fun t h=>(by cases h),fun t h=>(by cases h)⟩
 rintro X _ _ x5 x6 ⟨i,rfl,hi,h60,T,V,rfl,h⟩ hX
 unfold ybK
 intro _
 have fin:yaL X a0 true i x5 x6 false (mkS T V):=by
  unfold yaL
  exact yah rfl ⟨_,_,⟨rfl,rfl⟩,_,_,⟨rfl,rfl⟩,_,rfl,yas rfl ⟨_,rfl,yas rfl ⟨_,rfl,yas rfl ⟨_,rfl,yas rfl (yas rfl fun _ _=>⟨_,rfl,fun _=>rfl⟩)⟩⟩⟩⟩
 refine yaq (fun hb=> ?_) (fun hb=>fin)
 have hb:(i:Int)<a0.length:=by simpa using hb
 have hi':i<a0.length:=by omega
 cases h6:decide ((i:Int)<60) with
 |false=>exact fin
 | true=>
   have h6:(i:Int)<60:=by simpa using h6
   have hy:=ha.2 _ (List.getElem_mem hi')
   have hn:a0[i].Name.length<=9223372036854775807:=hy.2.1
   have hX':∀m' T' V',Inv m' T' V'->X ((i+1:Nat):Int) (mkS T' V') m'.Tables m'.Views:=fun m' T' V' h'=>hX _ _ _ _ ⟨i+1,rfl,by omega,by omega,T',V',rfl,h'⟩ (by simp;omega)
   unfold yaL
   refine yas rfl ⟨by omega,hb,a0[i],by simp[List.getElem?_eq_getElem hi'],?_⟩
   refine yaq (fun _=> ?_) (fun _=>yaq (fun _=>j5 h hy h60 hX' _) (fun _=>j5 h hy h60 hX' _))
   obtain ⟨m',a1,a2⟩:=yxq h a0[i].Name
   exact ⟨_,_,⟨T,V,rfl,hn,rfl,rfl⟩,_,_,a1,j3 a2 hn h60 (hX' _ _ _ a2) _⟩
end Go.Proofs.Ytpplhhknlmcgbaa
end
