/- General texts and own ones, joined: what the program computes, told of abstract states, and the laws of plain data. No condition. -/
import Derived.Test.YtecfpoklnfaihaaMf
import Derived.Test.YtecfpoklnfaihaaMc
noncomputable section
namespace Go.Proofs.Ytecfpoklnfaihaa
open Go.AV Go.RowKit
theorem yp6 {n:Nat}:([IntKind.u8.wrap ((n:Int).tmod 256)]:List Int).map toB= [UInt8.ofNat n]:=by
 have h:((n:Int).tmod 256)=((n % 256:Nat):Int):=by
  rw[Int.tmod_eq_emod_of_nonneg (by omega)];omega
 rw[h,yyR (by omega) (by omega)]
 show [UInt8.ofNat (n % 256:Nat)]=_
 congr 1
 exact UInt8.toNat_inj.1 (by rw[UInt8.toNat_ofNat',UInt8.toNat_ofNat'];show n % 256 % 256=n % 256;omega)
theorem yDD {n:Int} (h:Rg n):yeI n (sInt n):=by
 unfold Rg at h
 unfold yeI
 have hu:IntKind.u64.wrap (IntKind.u64.wrap n+9223372036854775808)=(((n+9223372036854775808).toNat:Nat):Int):=by
  rw[ydQ,ydQ];omega
 rw[hu]
 unfold sInt
 have hU:(n+9223372036854775808).toNat<18446744073709551616:=by omega
 generalize (n+9223372036854775808).toNat=u at*
 refine lp3 (fun (x:Int) (y:Str) (z:Int)=>∃i:Nat,z=i/\i<=8/\y=be i u/\x=((u/256^i:Nat):Int)) (fun (_:Int) (_:Str) (z:Int)=>8-z.toNat) ?_ ⟨0,rfl,by omega,rfl,by simp⟩
 rintro X x y z ⟨i,rfl,hi,rfl,rfl⟩ hX
 simp only[yk3]
 refine ⟨fun c=> ?_,fun c=> ?_⟩
 ·have c:(i:Int)<8:=of_decide_eq_true c
  have hle:u/256^i<=u:=Nat.div_le_self _ _
  have hd:IntKind.u64.wrap (((u/256^i:Nat):Int).tdiv 256)=((u/256^(i+1):Nat):Int):=by
   have:(((u/256^i:Nat):Int).tdiv 256)=((u/256^i/256:Nat):Int):=by
    rw[Int.tdiv_eq_ediv_of_nonneg (Int.natCast_nonneg _)];rfl
   rw[this,Nat.div_div_eq_div_mul,<-Nat.pow_succ]
   have hq:u/256^(i+1)<=u:=Nat.div_le_self _ _
   show IntKind.u64.wrap ((u/256^(i+1):Nat):Int)=_
   generalize u/256^(i+1)=q at*
   exact yia (by omega) (by omega)
  rw[yp6,hd,w1 (by omega)]
  refine ⟨by rw[ydP];simp;omega,hX _ _ _ ⟨i+1,rfl,by omega,rfl,rfl⟩ (by omega)⟩
 ·have c:¬(i:Int)<8:=of_decide_eq_false c
  have:i=8:=by omega
  rw[this]
theorem yzn {l:List Str} (hb:(ybR l).length≤100000000):ycS l (ybR l):=by
 unfold ycS
 have hn:=yrd l
 refine lp2 (fun (x:Str) (y:Int)=>∃i:Nat,y=i/\i<=l.length/\x=ybR (l.take i)) (fun (_:Str) (y:Int)=>l.length-y.toNat) ?_ ⟨0,rfl,by omega,by simp[ybR]⟩
 rintro X x y ⟨i,rfl,hi,rfl⟩ hX
 have hb2:=ykJ l i
 simp only[yj0]
 intro _
 refine ⟨fun c=> ?_,fun c=> ?_⟩
 ·have c:(i:Int)<l.length:=of_decide_eq_true c
  have hlt:i<l.length:=by omega
  have hs:=ytr hlt
  have dv:∀k:Nat,0<k→IntKind.i64.wrap ((l[i].length:Int).tdiv (k:Int))=((l[i].length/k:Nat):Int):=by
   intro k hk
   have:((l[i].length:Int).tdiv (k:Int))=((l[i].length/k:Nat):Int):=by
    rw[Int.tdiv_eq_ediv_of_nonneg (Int.natCast_nonneg _)];rfl
   rw[this]
   have hq:l[i].length/k<=l[i].length:=Nat.div_le_self _ _
   generalize l[i].length/k=q at*
   exact wrap64 (by omega) (by omega)
  have bytes:([IntKind.u8.wrap ((IntKind.i64.wrap ((l[i].length:Int).tdiv (16777216:Int))).tmod (256:Int)),IntKind.u8.wrap ((IntKind.i64.wrap ((l[i].length:Int).tdiv (65536:Int))).tmod (256:Int)),IntKind.u8.wrap ((IntKind.i64.wrap ((l[i].length:Int).tdiv (256:Int))).tmod (256:Int)),IntKind.u8.wrap ((l[i].length:Int).tmod (256:Int))]:List Int).map toB=be 4 l[i].length:=by
   have d1:=dv 16777216 (by omega)
   have d2:=dv 65536 (by omega)
   have d3:=dv 256 (by omega)
   rw[show ((16777216:Nat):Int)=16777216 from rfl] at d1
   rw[show ((65536:Nat):Int)=65536 from rfl] at d2
   rw[show ((256:Nat):Int)=256 from rfl] at d3
   rw[d1,d2,d3]
   have m1:=yp6 (n:=l[i].length/16777216)
   have m2:=yp6 (n:=l[i].length/65536)
   have m3:=yp6 (n:=l[i].length/256)
   have m4:=yp6 (n:=l[i].length)
   simp only[List.map_cons,List.map_nil,List.cons.injEq,and_true] at m1 m2 m3 m4⊢
   rw[m1,m2,m3,m4]
   show _= [UInt8.ofNat (l[i].length/256^3),UInt8.ofNat (l[i].length/256^2),UInt8.ofNat (l[i].length/256^1),UInt8.ofNat (l[i].length/256^0)]
   simp
  refine ⟨by omega,c,_,gAt hlt,by omega,c,_,gAt hlt,?_,?_,?_⟩
  ·rw[bytes,ydP];omega
  ·rw[bytes,List.length_append,ydP];omega
  ·rw[bytes,w1 (by omega)]
   refine hX _ _ ⟨i+1,rfl,by omega,?_⟩ (by omega)
   rw[List.take_succ_eq_append_getElem hlt,yjq];simp[ybR]
 ·have c:¬(i:Int)<l.length:=of_decide_eq_false c
  rw[List.take_of_length_le (by omega)]
theorem yB6 {l:List Str} (hl:l.length≤1000) (h:∀s∈l,s.length≤10000):ycS l (ybR l):=by
 have:=yfO h
 have h2:l.length*(10000+4)<=1000*(10000+4):=Nat.mul_le_mul_right _ hl
 exact yzn (by omega)
theorem yDO {l:List V} (hl:l.length≤1000) (h:∀v∈l,good v):ydF (l.map v6) (sKey l):=by
 apply yrj
 refine lp2 (fun (x:Int) (y:List Str)=>∃i:Nat,x=i/\i<=l.length/\y=(l.take i).map ygA) (fun (x:Int) (_:List Str)=>l.length-x.toNat) ?_ ⟨0,rfl,by omega,by simp⟩
 rintro X x y ⟨i,rfl,hi,rfl⟩ hX
 simp only[yfm]
 intro _
 have hll:(l.map v6).length=l.length:=List.length_map ..
 refine ⟨fun c=> ?_,fun c=> ?_⟩
 ·have c0:(i:Int)<(l.map v6).length:=of_decide_eq_true c
  have c:(i:Int)<l.length:=by rw[hll] at c0;exact c0
  have hlt:i<l.length:=by omega
  have hlt':i<(l.map v6).length:=by omega
  have eg:(l.map v6)[((i:Nat):Int).toNat]? =some (v6 l[i]):=by
   rw[gAt hlt'];simp
  have hg:=h _ (List.getElem_mem hlt)
  have hk:=yq5 hg
  have hN:=yun hg
  have hS:=yr9 hg
  have ht:=ymk hg
  have fin:∀s:Str,s.length≤100→s++l[i].S=ygA l[i]→yc7 X (l.map v6) i s ((l.take i).map ygA):=by
   intro s hs e
   refine ⟨by omega,c0,_,eg,by show s.length+l[i].S.length<=_;omega,by simp;omega,?_⟩
   have e':s++(v6 l[i]).S=ygA l[i]:=e
   rw[w1 (by omega),e']
   refine hX _ _ ⟨i+1,rfl,by omega,?_⟩ (by omega)
   rw[List.take_succ_eq_append_getElem hlt,List.map_append];rfl
  have kk:(v6 l[i]).Kind=l[i].Kind:=rfl
  have nn:(v6 l[i]).N=l[i].N:=rfl
  simp only[ydd]
  refine ⟨by omega,c0,_,eg,by omega,c0,_,eg,?_⟩
  rw[kk,ysA (by omega) (by omega)]
  refine ⟨fun k=>⟨by omega,c0,_,eg,by simp[b1],by omega,c0,_,eg,?_⟩,fun k=>⟨by omega,c0,_,eg,?_⟩⟩
  ·have k:l[i].Kind=1:=by simpa using k
   rw[kk]
   refine ⟨fun q=>(by rw[k] at q;cases q),fun _=> ?_⟩
   rw[nn]
   have hn:l[i].N=0∨l[i].N=1:=by unfold good at hg;rcases hg with h|h|h|h<;>omega
   have hs:l[i].S= []:=by
    unfold good at hg
    rcases hg with h|h|h|h
    ·exact h.2.2
    ·exact h.2.2
    ·exact h.2.2
    ·omega
   rw[ysA (by omega) (by omega)]
   refine fin _ (by simp[b1]) ?_
   rw[ygA,if_pos k,k,hs];simp
  ·have k:¬l[i].Kind=1:=by simpa using k
   rw[kk]
   refine ⟨fun q=> ?_,fun q=> ?_⟩
   ·have q:l[i].Kind=2:=by simpa using q
    have hs:l[i].S= []:=by
     unfold good at hg
     rcases hg with h|h|h|h
     ·exact h.2.2
     ·exact h.2.2
     ·exact h.2.2
     ·omega
    refine ⟨by omega,c0,_,eg,_,yDD hN,by rw[ygn];simp[b1],fin _ ?_ ?_⟩
    ·rw[List.length_append]
     have:(sInt (v6 l[i]).N).length=8:=ygn _
     rw[this];simp[b1]
    ·rw[ygA,if_neg k,if_pos q,q,hs];simp;rfl
   ·have q:¬l[i].Kind=2:=by simpa using q
    refine fin _ (by simp[b1]) ?_
    rw[ygA,if_neg k,if_neg q]
    split
    ·rename_i k3;rw[k3]
    ·have hs:l[i].S= []:=by
      unfold good at hg
      rcases hg with h|h|h|h
      ·exact h.2.2
      ·exact h.2.2
      ·exact h.2.2
      ·omega
     rw[hs];simp
 ·have c:¬(i:Int)<(l.map v6).length:=of_decide_eq_false c
  rw[hll] at c
  rw[List.take_of_length_le (by omega)]
  exact ⟨_,yB6 (by simpa using hl) (fun s hs=>by have:=yjC h s hs;omega),rfl⟩
def s7:List V→List V→Bool
 |a::l,b::k=>if eqV a b then s7 l k else yc8 (v6 a) (v6 b)
 | [],b=>decide (0<b.length)
 |_::_,[]=>false
theorem yCL {a b:List V} (h:a= []∨b= []):s7 a b=decide (a.length<b.length):=by
 rcases h with rfl|rfl
 ·cases b<;>rfl
 ·cases a<;>simp[s7]
theorem yo1 {a b:List V} (ha:a.length≤1000) (hb:b.length≤1000) (ga:∀v∈a,good v) (gb:∀v∈b,good v):ybw (a.map v6) (b.map v6) (s7 a b):=by
 apply ync
 have la:(a.map v6).length=a.length:=List.length_map ..
 have lb:(b.map v6).length=b.length:=List.length_map ..
 refine lp1 (fun (x:Int)=>∃i:Nat,x=i/\i<=a.length/\i<=b.length/\s7 a b=s7 (a.drop i) (b.drop i)) (fun (x:Int)=>a.length-x.toNat) ?_ ⟨0,rfl,by omega,by omega,rfl⟩
 rintro X x ⟨i,rfl,hi,hj,he⟩ hX
 have done:¬(i<a.length∧i<b.length)→yb7 X (a.map v6) (b.map v6) (s7 a b) i false:=by
  intro hd
  refine ⟨fun q=>(by cases q),fun _ _ _=> ?_⟩
  rw[he,yCL,la,lb,List.length_drop,List.length_drop,Bool.eq_iff_iff,decide_eq_true_eq,decide_eq_true_eq]
  ·omega
  ·by_cases h1:i<a.length
   ·exact .inr (List.drop_of_length_le (by omega))
   ·exact .inl (List.drop_of_length_le (by omega))
 simp only[ydE]
 intro _
 refine ⟨fun c _=> ?_,fun c=> ?_⟩
 ·have ca:(i:Int)<(a.map v6).length:=of_decide_eq_true c
  have h1:i<a.length:=by rw[la] at ca;omega
  by_cases h2:i<b.length
  ·have cb:(i:Int)<(b.map v6).length:=by rw[lb];omega
   rw[decide_eq_true cb]
   have h1':i<(a.map v6).length:=by omega
   have h2':i<(b.map v6).length:=by omega
   have eg1:(a.map v6)[((i:Nat):Int).toNat]? =some (v6 a[i]):=by rw[gAt h1'];simp
   have eg2:(b.map v6)[((i:Nat):Int).toNat]? =some (v6 b[i]):=by rw[gAt h2'];simp
   have es:s7 (a.drop i) (b.drop i)=if eqV a[i] b[i]=true then s7 (a.drop (i+1)) (b.drop (i+1)) else yc8 (v6 a[i]) (v6 b[i]):=by
    rw[List.drop_eq_getElem_cons h1,List.drop_eq_getElem_cons h2];rfl
   refine ⟨fun _=>⟨by omega,ca,_,eg1,by omega,cb,_,eg2,?_⟩,fun q=>(by cases q)⟩
   rw[yDi]
   refine ⟨fun d=> ?_,fun d=> ?_⟩
   ·have d:¬eqV a[i] b[i]=true:=by simpa using d
    have g1:=yr9 (ga _ (List.getElem_mem h1))
    have g2:=yr9 (gb _ (List.getElem_mem h2))
    refine ⟨by omega,ca,_,eg1,by omega,cb,_,eg2,_,yvZ _ _ (by show a[i].S.length<=_;omega) (by show b[i].S.length<=_;omega),?_⟩
    rw[he,es,if_neg d]
   ·have d:eqV a[i] b[i]=true:=by simpa using d
    rw[w1 (by omega)]
    refine hX _ ⟨i+1,rfl,by omega,by omega,?_⟩ (by omega)
    rw[he,es,if_pos d]
  ·have cb:¬(i:Int)<(b.map v6).length:=by rw[lb];omega
   rw[decide_eq_false cb]
   exact done (fun q=>h2 q.2)
 ·have ca:¬(i:Int)<(a.map v6).length:=of_decide_eq_false c
  exact done (fun q=>by rw[la] at ca;omega)
theorem yDR {a b:List V} (ha:a.length≤1000) (hb:b.length≤1000) (ga:∀v∈a,good v) (gb:∀v∈b,good v):ydR (a.map v6) (b.map v6) (!s7 a b&& !s7 b a):=by
 refine ⟨_,yo1 ha hb ga gb,fun c=>⟨_,yo1 hb ha gb ga,?_⟩,fun c=> ?_⟩
 ·rw[c];rfl
 ·rw[c];rfl
end Go.Proofs.Ytecfpoklnfaihaa
end
noncomputable section
namespace Go.Proofs.Ytecfpoklnfaihaa
open Go.AV Go.RowKit
section
variable {α:Type}
def rins (lt:α→α→Bool) (x:α):List α→List α
 | []=> [x]
 |y::r=>if lt x y then y::rins lt x r else x::y::r
def ins (lt:α->α->Bool) (x:α) (l:List α):List α:=(rins lt x l.reverse).reverse
def srt (lt:α→α→Bool):List α→List α→List α
 |out,[]=>out
 |out,x::r=>srt lt (ins lt x out) r
structure Ord (lt:α→α→Bool):Prop where
 irr:∀a,lt a a=false
 tr:∀a b c,lt a b=true->lt b c=true->lt a c=true
 nt:∀a b c,lt a c=true->lt a b=true∨lt b c=true
variable {lt:α->α->Bool}
theorem Ord.le_trans (o:Ord lt) {a b c:α} (h:lt b a=false) (k:lt c b=false):lt c a=false:=by
 cases hc:lt c a with
 |false=>rfl
 | true=>
   rcases o.nt _ b _ hc with e|e
   ·rw[k] at e;cases e
   ·rw[h] at e;cases e
theorem Ord.asym (o:Ord lt) {a b:α} (h:lt a b=true):lt b a=false:=by
 cases hc:lt b a with
 |false=>rfl
 |true=>have:=o.tr _ _ _ h hc;rw[o.irr] at this;cases this
theorem Ord.lt_le (o:Ord lt) {a b c:α} (h:lt a b=true) (k:lt c b=false):lt a c=true:=by
 rcases o.nt _ c _ h with e|e
 ·exact e
 ·rw[k] at e;cases e
theorem Ord.le_lt (o:Ord lt) {a b c:α} (h:lt b a=false) (k:lt b c=true):lt a c=true:=by
 rcases o.nt _ a _ k with e|e
 ·rw[h] at e;cases e
 ·exact e
def Sd (lt:α->α->Bool) (l:List α):Prop:=l.Pairwise fun a b=>lt b a=false
theorem Sd.app {l m:List α}:Sd lt (l++m)↔Sd lt l/\Sd lt m/\∀a∈l,∀b∈m,lt b a=false:=List.pairwise_append
theorem ylZ (x:α):∀l:List α,(rins lt x l).Perm (x::l)
 | []=> .refl _
 | y::r=>by
   unfold rins
   split
   ·exact ((ylZ x r).cons y).trans (.swap ..)
   ·exact .refl _
theorem yx0 (x:α) (l:List α):(ins lt x l).Perm (x::l):=by
 unfold ins
 refine (List.reverse_perm _).trans ((ylZ x _).trans ?_)
 exact (List.reverse_perm l).cons x
theorem ys4:∀(l out:List α),(srt lt out l).Perm (out++l)
 | [],out=>by simp[srt]
 | x::r,out=>by
   unfold srt
   refine (ys4 r _).trans (((yx0 x out).append_right r).trans ?_)
   exact List.perm_middle.symm
theorem ywA (o:Ord lt) (x:α):∀ {l:List α},(l.Pairwise fun a b=>lt a b=false)→(rins lt x l).Pairwise fun a b=>lt a b=false
 | [],_=>by simp[rins]
 | y::r,h=>by
   obtain ⟨h1,h2⟩:=List.pairwise_cons.1 h
   unfold rins
   split
   ·rename_i c
    refine List.pairwise_cons.2 ⟨fun z hz=> ?_,ywA o x h2⟩
    rcases List.mem_cons.1 ((ylZ x r).subset hz) with rfl|hz
    ·exact o.asym c
    ·exact h1 z hz
   ·rename_i c
    have c:lt x y=false:=by simpa using c
    refine List.pairwise_cons.2 ⟨fun z hz=> ?_,h⟩
    rcases List.mem_cons.1 hz with rfl|hz
    ·exact c
    ·exact o.le_trans (h1 z hz) c
theorem yCl (o:Ord lt) (x:α) {l:List α} (h:Sd lt l):Sd lt (ins lt x l):=by
 unfold ins Sd
 rw[List.pairwise_reverse]
 exact ywA o x (List.pairwise_reverse.2 h)
theorem yyq (o:Ord lt):∀(l:List α) {out:List α},Sd lt out→Sd lt (srt lt out l)
 | [],_,h=>h
 |x::r,_,h=>by unfold srt;exact yyq o r (yCl o x h)
theorem ykC (o:Ord lt) (l:List α):Sd lt (srt lt [] l):=yyq o l List.Pairwise.nil
theorem ygI (l:List α):(srt lt [] l).Perm l:=ys4 l []
def eqv (lt:α->α->Bool) (k a:α):Bool:= !lt k a&& !lt a k
theorem yn9 (o:Ord lt) {k a b:α} (h:lt a b=true) (ha:eqv lt k a=true) (hb:eqv lt k b=true):False:=by
 simp only[eqv,Bool.and_eq_true,Bool.not_eq_true'] at ha hb
 rcases o.nt _ k _ h with e|e
 ·rw[ha.2] at e;cases e
 ·rw[hb.1] at e;cases e
theorem yvp (o:Ord lt) (k x:α):∀m:List α,(rins lt x m).filter (eqv lt k)= [x].filter (eqv lt k)++m.filter (eqv lt k)
 | []=>by simp[rins]
 | y::r=>by
   unfold rins
   split
   ·rename_i c
    rw[List.filter_cons,yvp o k x r,List.filter_cons (x:=y)]
    cases hx:eqv lt k x<;>cases hy:eqv lt k y
    ·simp[hx]
    ·simp[hx]
    ·simp[hx]
    ·exact (yn9 o c hx hy).elim
   ·rw[List.filter_cons];simp only[List.filter_cons (x:=x),List.filter_nil];split<;>simp
theorem yBD (o:Ord lt) (k x:α) (l:List α):(ins lt x l).filter (eqv lt k)=l.filter (eqv lt k)++ [x].filter (eqv lt k):=by
 unfold ins
 rw[List.filter_reverse,yvp o,List.reverse_append,List.filter_reverse,List.reverse_reverse]
 congr 1
 simp only[List.filter_cons,List.filter_nil];split<;>rfl
theorem ynJ (o:Ord lt) (k:α):∀(l out:List α),(srt lt out l).filter (eqv lt k)=out.filter (eqv lt k)++l.filter (eqv lt k)
 | [],out=>by simp[srt]
 | x::r,out=>by
   unfold srt
   rw[ynJ o k r,yBD o,List.append_assoc,<-List.filter_append];rfl
theorem yj9 (o:Ord lt) (a:α):eqv lt a a=true:=by simp[eqv,o.irr]
theorem Sd.uniq (o:Ord lt):∀ {l m:List α},Sd lt l→Sd lt m→(∀k,l.filter (eqv lt k)=m.filter (eqv lt k))→l=m
 | [],[],_,_,_=>rfl
 | [],b::m,_,_,p=>by have:=p b;simp[yj9 o] at this
 |a::l,[],_,_,p=>by have:=p a;simp[yj9 o] at this
 | a::l,b::m,h,k,p=>by
   obtain ⟨h1,h2⟩:=List.pairwise_cons.1 h
   obtain ⟨k1,k2⟩:=List.pairwise_cons.1 k
   have hb:b∈a::l:=by
    have:b∈(b::m).filter (eqv lt b):=List.mem_filter.2 ⟨by simp,yj9 o b⟩
    rw[<-p b] at this;exact (List.mem_filter.1 this).1
   have ha:a∈b::m:=by
    have:a∈(a::l).filter (eqv lt a):=List.mem_filter.2 ⟨by simp,yj9 o a⟩
    rw[p a] at this;exact (List.mem_filter.1 this).1
   have e1:lt b a=false:=by
    rcases List.mem_cons.1 hb with rfl|hb
    ·exact o.irr _
    ·exact h1 b hb
   have e2:lt a b=false:=by
    rcases List.mem_cons.1 ha with rfl|ha
    ·exact o.irr _
    ·exact k1 a ha
   have eb:eqv lt a b=true:=by simp[eqv,e1,e2]
   have e:=p a
   rw[List.filter_cons,if_pos (yj9 o a),List.filter_cons,if_pos eb] at e
   obtain ⟨rfl,_⟩:=List.cons.inj e
   congr 1
   refine Sd.uniq o h2 k2 fun k=> ?_
   have:=p k
   rw[List.filter_cons,List.filter_cons] at this
   split at this
   ·exact (List.cons.inj this).2
   ·exact this
theorem yn1 (o:Ord lt) {l m:List α} (h:Sd lt m) (p:∀k,m.filter (eqv lt k)=l.filter (eqv lt k)):srt lt [] l=m:=
 (ykC o l).uniq o h fun k=>by rw[ynJ o,p k];simp
theorem yzK (o:Ord lt) (l m:List α):srt lt [] (srt lt [] l++srt lt [] m)=srt lt [] (l++m):=
 yn1 o (ykC o _) fun k=>by rw[ynJ o,List.filter_append,List.filter_append,ynJ o,ynJ o];simp
theorem yed (lt:α->α->Bool) (l:List α):(srt lt [] l).length=l.length:=(ygI l).length_eq
theorem Sd.last {l:List α} {p x:α} (o:Ord lt) (h:Sd lt (l++ [p])) (k:lt x p=false):∀a∈l++ [p],lt x a=false:=by
 intro a ha
 rcases List.mem_append.1 ha with ha|ha
 ·exact o.le_trans ((Sd.app.1 h).2.2 a ha p (by simp)) k
 ·rw[List.mem_singleton.1 ha];exact k
theorem Sd.head {l:List α} {p x:α} (o:Ord lt) (h:Sd lt (p::l)) (k:lt p x=false):∀a∈p::l,lt a x=false:=by
 intro a ha
 rcases List.mem_cons.1 ha with rfl|ha
 ·exact k
 ·exact o.le_trans k ((List.pairwise_cons.1 h).1 a ha)
theorem Sd.lastS {l:List α} {p x:α} (o:Ord lt) (h:Sd lt (l++ [p])) (k:lt p x=true):∀a∈l++ [p],lt a x=true:=by
 intro a ha
 rcases List.mem_append.1 ha with ha|ha
 ·exact o.le_lt ((Sd.app.1 h).2.2 a ha p (by simp)) k
 ·rw[List.mem_singleton.1 ha];exact k
theorem Sd.headS {l:List α} {p x:α} (o:Ord lt) (h:Sd lt (p::l)) (k:lt x p=true):∀a∈p::l,lt x a=true:=by
 intro a ha
 rcases List.mem_cons.1 ha with rfl|ha
 ·exact k
 ·exact o.lt_le k ((List.pairwise_cons.1 h).1 a ha)
theorem yCs (o:Ord lt) {A B A1 A2 B1 B2:List α} (hA:Sd lt A) (hB:Sd lt B) (eA:A=A1++A2) (eB:B=B1++B2)
  (h1:∀x y,A1.getLast? =some x->B2.head? =some y->lt y x=false) (h2:∀x y,B1.getLast? =some x->A2.head? =some y->lt x y=true):
  srt lt [] (A++B)=srt lt [] (A1++B1)++srt lt [] (A2++B2):=by
 subst eA;subst eB
 obtain ⟨a1,a2,a3⟩:=Sd.app.1 hA
 obtain ⟨b1,b2,b3⟩:=Sd.app.1 hB
 have cross:∀ {U W:List α},Sd lt U→Sd lt W→(∀x y,U.getLast? =some x→W.head? =some y→lt y x=false)→∀u∈U,∀w∈W,lt w u=false:=by
  intro U W hU hW h u hu w hw
  cases W with
  |nil=>cases hw
  | cons y W=>
    have hne:U≠ []:=fun e=>by subst e;cases hu
    have hx:U.getLast? =some (U.getLast hne):=List.getLast?_eq_some_getLast hne
    have eU:U=U.dropLast++ [U.getLast hne]:=(List.dropLast_concat_getLast hne).symm
    have k:=h _ y hx rfl
    have:=Sd.last o (l:=U.dropLast) (p:=U.getLast hne) (x:=y) (by rw[<-eU];exact hU) k u (by rw[<-eU];exact hu)
    exact Sd.head o hW this w hw
 have strict:∀u∈B1,∀w∈A2,lt u w=true:=by
  intro u hu w hw
  cases hA2:A2 with
  |nil=>rw[hA2] at hw;cases hw
  | cons y W=>
    rw[hA2] at hw a2
    have hne:B1≠ []:=fun e=>by subst e;cases hu
    have hx:B1.getLast? =some (B1.getLast hne):=List.getLast?_eq_some_getLast hne
    have eU:B1=B1.dropLast++ [B1.getLast hne]:=(List.dropLast_concat_getLast hne).symm
    have k:=h2 _ y hx (by rw[hA2];rfl)
    have:=Sd.lastS o (l:=B1.dropLast) (p:=B1.getLast hne) (x:=y) (by rw[<-eU];exact b1) k u (by rw[<-eU];exact hu)
    exact Sd.headS o a2 this w hw
 refine yn1 o ?_ ?_
 ·refine Sd.app.2 ⟨ykC o _,ykC o _,fun u hu w hw=> ?_⟩
  have hu:=(ygI _).subset hu
  have hw:=(ygI _).subset hw
  rcases List.mem_append.1 hu with hu|hu<;>rcases List.mem_append.1 hw with hw|hw
  ·exact a3 u hu w hw
  ·exact cross a1 b2 h1 u hu w hw
  ·exact o.asym (strict u hu w hw)
  ·exact b3 u hu w hw
 ·intro k
  simp only[List.filter_append,ynJ o,List.filter_nil,List.nil_append,List.append_assoc]
  congr 1
  cases hb:B1.filter (eqv lt k) with
  |nil=>simp
  | cons u U=>
    have:A2.filter (eqv lt k)= []:=by
     refine List.filter_eq_nil_iff.2 fun w hw e=> ?_
     have hu:u∈B1.filter (eqv lt k):=by rw[hb];simp
     obtain ⟨u1,u2⟩:=List.mem_filter.1 hu
     exact yn9 o (strict u u1 w hw) u2 e
    rw[this];simp
theorem yys (o:Ord lt) {l:List α} (h:Sd lt l):srt lt [] l=l:=yn1 o h fun _=>rfl
theorem yz1 (o:Ord lt) {x:α} {B1 B2:List α} (h:Sd lt (B1++B2)) (h1:∀b∈B1,lt b x=true) (h2:∀b∈B2,lt b x=false):srt lt [] (x::(B1++B2))=B1++x::B2:=by
 obtain ⟨b1,b2,b3⟩:=Sd.app.1 h
 refine yn1 o (Sd.app.2 ⟨b1,List.pairwise_cons.2 ⟨h2,b2⟩,fun a ha b hb=>by
  rcases List.mem_cons.1 hb with rfl|hb
  ·exact o.asym (h1 a ha)
  ·exact b3 a ha b hb⟩) fun k=> ?_
 simp only[List.filter_append,List.filter_cons]
 cases hx:eqv lt k x with
 |false=>simp
 | true=>
   have:B1.filter (eqv lt k)= []:=List.filter_eq_nil_iff.2 fun w hw e=>yn9 o (h1 w hw) e hx
   rw[this];simp
theorem yAV (o:Ord lt) {x:α} {B1 B2:List α} (h:Sd lt (B1++B2)) (h1:∀b∈B1,lt x b=false) (h2:∀b∈B2,lt x b=true):srt lt [] ((B1++B2)++ [x])=B1++x::B2:=by
 obtain ⟨b1,b2,b3⟩:=Sd.app.1 h
 refine yn1 o (Sd.app.2 ⟨b1,List.pairwise_cons.2 ⟨fun b hb=>o.asym (h2 b hb),b2⟩,fun a ha b hb=>by
  rcases List.mem_cons.1 hb with rfl|hb
  ·exact h1 a ha
  ·exact b3 a ha b hb⟩) fun k=> ?_
 simp only[List.filter_append,List.filter_cons,List.filter_nil]
 cases hx:eqv lt k x with
 |false=>simp
 | true=>
   have:B2.filter (eqv lt k)= []:=List.filter_eq_nil_iff.2 fun w hw e=>yn9 o (h2 w hw) hx e
   rw[this];simp
end
theorem yfp {α:Type}:∀l:List α,l= []∨∃l' b,l=l'++ [b]
 | []=> .inl rfl
 | a::l=> .inr (match yfp l with
   | .inl e=>⟨[],a,by rw[e];rfl⟩
   | .inr ⟨l',b,e⟩=>⟨a::l',b,by rw[e];rfl⟩)
def rc:List V→List V→Int
 | [],[]=>0
 | [],_::_=> -1
 |_::_,[]=>1
 |a::r,b::q=>if sCmp a b≠0 then sCmp a b else rc r q
theorem yAM (b:List V):rc [] b=if 0<b.length then-1 else 0:=by cases b<;>simp[rc]
theorem yxf (a b:V) (r q:List V):rc (a::r) (b::q)=if sCmp a b≠0 then sCmp a b else rc r q:=rfl
theorem yjR {α:Type} {l:List α} {i:Nat} {y:α} (h:l[i]? =some y):l.drop i=y::l.drop (i+1):=by
 obtain ⟨hi,rfl⟩:=List.getElem?_eq_some_iff.1 h
 exact List.drop_eq_getElem_cons hi
theorem yeM {α:Type} {l:List α} {n:Nat} (h:n<l.length):∃t,l[n]? =some t:=⟨_,List.getElem?_eq_getElem h⟩
theorem yod {a b:V}:sCmp a b<0↔a.Kind<b.Kind∨a.Kind=b.Kind∧(a.N<b.N∨a.N=b.N∧Op.bytesLess a.S b.S=true):=by
 have h1:=ymx (a:=a.Kind) (b:=b.Kind)
 have h2:=ymx (a:=a.N) (b:=b.N)
 have h3:=yyH (a:=a.S) (b:=b.S)
 unfold sCmp sOr
 rw[<-h3]
 split
 ·omega
 ·split<;>omega
theorem yo0 (a:V):¬sCmp a a<0:=by
 rw[yod]
 have:=yfS a.S
 rintro (h|⟨_,h|⟨_,h⟩⟩)
 ·omega
 ·omega
 ·rw[this] at h;cases h
theorem ylT {a b c:V} (h:sCmp a b<0) (k:sCmp b c<0):sCmp a c<0:=by
 rw[yod] at*
 rcases h with h|⟨h,h'⟩<;>rcases k with k|⟨k,k'⟩
 ·exact .inl (by omega)
 ·exact .inl (by omega)
 ·exact .inl (by omega)
 ·refine .inr ⟨by omega,?_⟩
  rcases h' with h'|⟨h',h2⟩<;>rcases k' with k'|⟨k',k2⟩
  ·exact .inl (by omega)
  ·exact .inl (by omega)
  ·exact .inl (by omega)
  ·exact .inr ⟨by omega,yjw _ _ _ h2 k2⟩
theorem yoB (a b:V):sCmp a b<0∨a=b∨sCmp b a<0:=by
 rw[yod,yod]
 rcases Int.lt_trichotomy a.Kind b.Kind with h|h|h
 ·exact .inl (.inl h)
 ·rcases Int.lt_trichotomy a.N b.N with k|k|k
  ·exact .inl (.inr ⟨h, .inl k⟩)
  ·rcases ylO a.S b.S with q|q|q
   ·exact .inl (.inr ⟨h, .inr ⟨k,q⟩⟩)
   ·refine .inr (.inl ?_)
    cases a;cases b
    simp only at h k q
    rw[h,k,q]
   ·exact .inr (.inr (.inr ⟨h.symm, .inr ⟨k.symm,q⟩⟩))
  ·exact .inr (.inr (.inr ⟨h.symm, .inl k⟩))
 ·exact .inr (.inr (.inl h))
def lt7 (a b:List V):Bool:=decide (rc a b<0)
theorem ytL (x y:V) (r q:List V):lt7 (x::r) (y::q)=true↔sCmp x y<0∨x=y∧lt7 r q=true:=by
 unfold lt7
 rw[decide_eq_true_eq,decide_eq_true_eq,yxf]
 by_cases h:sCmp x y=0
 ·rw[if_neg (by simpa using h)]
  have e:=ylU.1 h
  constructor
  ·exact fun k=> .inr ⟨e,k⟩
  ·rintro (k|⟨_,k⟩)
   ·omega
   ·exact k
 ·rw[if_pos h]
  constructor
  ·exact fun k=> .inl k
  ·rintro (k|⟨e,k⟩)
   ·exact k
   ·exact absurd (ylU.2 e) h
theorem yj3:(∀a,lt7 a a=false)∧(∀a b c,lt7 a b=true→lt7 b c=true→lt7 a c=true)∧∀a b,lt7 a b=true∨a=b∨lt7 b a=true:=by
 refine ⟨fun a=> ?_,fun a b c=> ?_,fun a b=> ?_⟩
 ·induction a with
  |nil=>rfl
  | cons x r ih=>
    cases h:lt7 (x::r) (x::r) with
    |false=>rfl
    | true=>
      rcases (ytL x x r r).1 h with k|⟨_,k⟩
      ·exact absurd k (yo0 x)
      ·rw[ih] at k;cases k
 ·induction a generalizing b c with
  | nil=>
    intro h k
    cases c with
    |nil=>cases b<;>simp[lt7,rc] at h k
    |cons z t=>rfl
  | cons x r ih=>
    intro h k
    cases b with
    |nil=>simp[lt7,rc] at h
    | cons y q=>
      cases c with
      |nil=>simp[lt7,rc] at k
      | cons z t=>
        rw[ytL] at*
        rcases h with h|⟨h,h'⟩<;>rcases k with k|⟨k,k'⟩
        ·exact .inl (ylT h k)
        ·subst k;exact .inl h
        ·subst h;exact .inl k
        ·exact .inr ⟨h.trans k,ih _ _ h' k'⟩
 ·induction a generalizing b with
  | nil=>cases b with
    |nil=>exact .inr (.inl rfl)
    |cons y q=>exact .inl rfl
  | cons x r ih=>
    cases b with
    |nil=>exact .inr (.inr rfl)
    | cons y q=>
      rw[ytL,ytL]
      rcases yoB x y with h|h|h
      ·exact .inl (.inl h)
      ·rcases ih q with k|k|k
       ·exact .inl (.inr ⟨h,k⟩)
       ·exact .inr (.inl (by rw[h,k]))
       ·exact .inr (.inr (.inr ⟨h.symm,k⟩))
      ·exact .inr (.inr (.inl h))
theorem yrV:Ord lt7:=⟨yj3.1,yj3.2.1,fun a b c h=>by
 rcases yj3.2.2 a b with k|k|k
 ·exact .inl k
 ·subst k;exact .inr h
 ·exact .inr (yj3.2.1 _ _ _ k h)⟩
theorem rc_0 {a b:List V}:rc a b=0↔a=b:=by
 constructor
 ·intro h
  rcases yj3.2.2 a b with k|k|k
  ·have:=of_decide_eq_true k;omega
  ·exact k
  ·have k:=of_decide_eq_true k
   exfalso
   have key:∀a b:List V,rc a b=0→¬rc b a<0:=by
    intro a
    induction a with
    | nil=>intro b h;cases b with
      |nil=>simp[rc]
      |cons y q=>simp[rc] at h
    | cons x r ih=>
      intro b h
      cases b with
      |nil=>simp[rc] at h
      | cons y q=>
        rw[yxf] at h⊢
        split at h
        ·rename_i e;exact absurd h e
        ·rename_i e
         have e:=ylU.1 (Decidable.not_not.1 e)
         subst e
         rw[if_neg (by simp[ylU])]
         exact ih q h
   exact key a b h k
 ·rintro rfl
  induction a with
  |nil=>rfl
  |cons x r ih=>rw[yxf,if_neg (by simp[ylU])];exact ih
end Go.Proofs.Ytecfpoklnfaihaa
end
noncomputable section
namespace Go.Proofs.Ytecfpoklnfaihaa
open Go.AV Go.RowKit
abbrev Rw:=yaa
def gc (a b:Rw):Int:=rc a.Row b.Row
def ltg (a b:Rw):Bool:=decide (gc a b<0)
theorem ydH:Ord ltg:=⟨fun _=>yrV.irr _,fun _ _ _=>yrV.tr _ _ _,fun _ _ _=>yrV.nt _ _ _⟩
section
variable {α:Type}
theorem ygp (U T:List α) (x:α):(U++x::T)[U.length]? =some x:=by simp
theorem ykP (U T:List α) (x y:α):(U++x::T).set U.length y=U++y::T:=by
 rw[List.set_append_right _ _ (Nat.le_refl _)];simp
theorem yoi {U M T:List α} {x z:α} {i j:Nat} (hi:i=U.length) (hj:j=U.length+1+M.length):
  (U++x::(M++z::T))[i]? =some x/\(U++x::(M++z::T))[j]? =some z/\((U++x::(M++z::T)).set i z)[j]? =some z/\((U++x::(M++z::T)).set j x)[i]? =some x/\((U++x::(M++z::T)).set i z).set j x=U++z::(M++x::T)/\((U++x::(M++z::T)).set j x).set i z=U++z::(M++x::T)/\j<(U++x::(M++z::T)).length:=by
 subst hi;subst hj
 have e:∀w:α,U++w::(M++z::T)=(U++w::M)++z::T:=fun w=>by simp
 have l:∀w:α,(U++w::M).length=U.length+1+M.length:=fun w=>by simp;omega
 refine ⟨ygp _ _ _,?_,?_,?_,?_,?_,?_⟩
 ·rw[e,<-l x];exact ygp _ _ _
 ·rw[ykP,e,<-l z];exact ygp _ _ _
 ·rw[e,<-l x,ykP,List.append_assoc];exact ygp _ _ _
 ·rw[ykP,e,<-l z,ykP,List.append_assoc];rfl
 ·rw[e,<-l x,ykP,List.append_assoc];exact ykP _ _ _ _
 ·simp;omega
end
theorem yok (x y:Nat) (h:x+y<4000000000):IntKind.i64.wrap ((IntKind.u64.wrap (IntKind.i64.wrap ((x:Int)+(y:Int)))).fdiv (2^(min (1:Int).toNat IntKind.u64.bits)))=(((x+y)/2:Nat):Int):=by
 have e:(2:Int)^(min (1:Int).toNat IntKind.u64.bits)=2:=by decide
 rw[e,wrap64 (n:=(x:Int)+y) (by omega) (by omega),yia (by omega) (by omega),Int.fdiv_eq_ediv_of_nonneg _ (by omega),wrap64 (by omega) (by omega)]
 omega
theorem yz5 {g:Rw→Rw→Int→Prop} {P X Y Z S:List Rw} {a b n:Int} (h:X.length=Z.length) (hb:P.length+X.length+Y.length+Z.length≤1000) (ha:a=P.length) (hbb:b=P.length+X.length+Y.length) (hn:n=X.length):
  yat g a b n (P++(X++(Y++(Z++S)))) (P++(Z++(Y++(X++S)))):=by
 unfold yat
 refine lp2 (fun (i:Int) (d:List Rw)=>∃X1 X2 Z1 Z2,X=X1++X2/\Z=Z1++Z2/\i=X1.length/\X1.length=Z1.length/\d=P++(Z1++(X2++(Y++(X1++(Z2++S)))))) (fun i _=>(X.length-i).toNat) ?_ ⟨[],X,[],Z,rfl,rfl,rfl,rfl,rfl⟩
 rintro J i d ⟨X1,X2,Z1,Z2,e1,e2,rfl,e3,rfl⟩ ih
 have l1:X.length=X1.length+X2.length:=by rw[e1];simp
 have l2:Z.length=Z1.length+Z2.length:=by rw[e2];simp
 unfold ybV
 cases X2 with
 | nil=>
   simp only[List.length_nil] at l1
   have:Z2= []:=List.eq_nil_of_length_eq_zero (by omega)
   subst this
   refine yaf (by simp;omega) ?_
   rw[e1,e2];simp
 | cons x X2=>
   cases Z2 with
   |nil=>simp only[List.length_nil,List.length_cons] at l1 l2;omega
   | cons z Z2=>
     simp only[List.length_cons] at l1 l2
     have w1:IntKind.i64.wrap (a+(X1.length:Int))=(((P++Z1).length:Nat):Int):=by rw[wrap64 (by omega) (by omega)];simp;omega
     have w2:IntKind.i64.wrap (b+(X1.length:Int))=(((P++Z1).length+1+(X2++(Y++X1)).length:Nat):Int):=by rw[wrap64 (by omega) (by omega)];simp;omega
     have w3:IntKind.i64.wrap ((X1.length:Int)+1)=((X1.length+1:Nat):Int):=by rw[wrap64 (by omega) (by omega)];omega
     have ed:P++(Z1++(x::X2++(Y++(X1++(z::Z2++S)))))=(P++Z1)++x::((X2++(Y++X1))++z::(Z2++S)):=by simp
     obtain ⟨g1,g2,g3,g4,g5,g6,g7⟩:=yoi (U:=P++Z1) (M:=X2++(Y++X1)) (T:=Z2++S) (x:=x) (z:=z) rfl rfl
     rw[ed,w1,w2,w3]
     simp only[Int.toNat_natCast]
     refine yai (by simp;omega) ⟨by omega,by omega,z,g2,by omega,by omega,x,g1,by omega,by omega,x,g1,by omega,by rw[List.length_set];omega,z,g3,?_⟩
     rw[g5]
     refine ih _ _ ⟨X1++ [x],X2,Z1++ [z],Z2,by rw[e1];simp,by rw[e2];simp,by simp,by simp[e3],by simp⟩ (by omega)
theorem ymT {α:Type} {l:List α} {n:Nat} (h:n<=l.length):∃a b,l=a++b/\a.length=n/\b.length=l.length-n:=⟨l.take n,l.drop n,by simp,by simp;omega,by simp⟩
theorem yAW {g:Rw→Rw→Int→Prop} {P L R S:List Rw} {a m b:Int} (hb:P.length+L.length+R.length≤1000) (hL:0<L.length) (hR:0<R.length) (ha:a=P.length) (hm:m=P.length+L.length) (hbb:b=P.length+L.length+R.length):
  yaC g a m b (P++(L++(R++S))) (P++(R++(L++S))):=by
 unfold yaC
 have s1:IntKind.i64.wrap (m-a)=(L.length:Int):=by rw[wrap64 (by omega) (by omega)];omega
 have s2:IntKind.i64.wrap (b-m)=(R.length:Int):=by rw[wrap64 (by omega) (by omega)];omega
 rw[s1,s2]
 refine lp3 (fun (i j:Int) (d:List Rw)=>∃P' L' R' S',i=L'.length/\j=R'.length/\0<L'.length/\0<R'.length/\m=P'.length+L'.length/\P'.length+L'.length+R'.length<=1000/\d=P'++(L'++(R'++S'))/\P'++(R'++(L'++S'))=P++(R++(L++S))) (fun i j _=>(i+j).toNat) ?_ ⟨P,L,R,S,rfl,rfl,hL,hR,hm,hb,rfl,rfl⟩
 rintro X i j d ⟨P',L',R',S',rfl,rfl,hl,hr,hm',hb',rfl,he⟩ ih
 unfold ycr
 have w0:IntKind.i64.wrap (m-(L'.length:Int))=(P'.length:Int):=by rw[wrap64 (by omega) (by omega)];omega
 rw[w0]
 refine ⟨fun c=>⟨fun c2=> ?_,fun c2=> ?_⟩,fun c=> ?_⟩
 ·have c2:(R'.length:Int)<L'.length:=by simpa using c2
  obtain ⟨A,B,rfl,hA,hB⟩:=ymT (l:=L') (n:=R'.length) (by omega)
  simp only[List.length_append] at*
  have w1:IntKind.i64.wrap (((A.length+B.length:Nat):Int)-(R'.length:Int))=(B.length:Int):=by rw[wrap64 (by omega) (by omega)];omega
  rw[w1]
  refine ⟨P'++(R'++(B++(A++S'))),?_,by simp;omega,ih _ _ _ ⟨P'++R',B,A,S',rfl,by omega,by omega,by omega,by simp;omega,by simp;omega,by simp,by rw[<-he];simp⟩ (by omega)⟩
  have:=yz5 (g:=g) (P:=P') (X:=A) (Y:=B) (Z:=R') (S:=S') (a:=P'.length) (b:=m) (n:=R'.length) hA (by omega) rfl (by omega) (by omega)
  simpa using this
 ·have c2:¬(R'.length:Int)<L'.length:=by simpa using c2
  have c:¬(L'.length:Int)=R'.length:=by simpa using c
  obtain ⟨U,W,rfl,hU,hW⟩:=ymT (l:=R') (n:=R'.length-L'.length) (by omega)
  simp only[List.length_append] at*
  have w1:IntKind.i64.wrap (((U.length+W.length:Nat):Int)-(L'.length:Int))=(U.length:Int):=by rw[wrap64 (by omega) (by omega)];omega
  have w2:IntKind.i64.wrap (IntKind.i64.wrap (m+((U.length+W.length:Nat):Int))-(L'.length:Int))=((P'.length+L'.length+U.length:Nat):Int):=by rw[wrap64 (n:=m+_) (by omega) (by omega),wrap64 (by omega) (by omega)];omega
  rw[w1,w2]
  refine ⟨P'++(W++(U++(L'++S'))),?_,by simp;omega,ih _ _ _ ⟨P',W,U,L'++S',by omega,rfl,by omega,by omega,by omega,by omega,rfl,by rw[<-he];simp⟩ (by omega)⟩
  have:=yz5 (g:=g) (P:=P') (X:=L') (Y:=U) (Z:=W) (S:=S') (a:=P'.length) (b:=((P'.length+L'.length+U.length:Nat):Int)) (n:=L'.length) (by omega) (by omega) rfl (by omega) rfl
  simpa using this
 ·have c:(L'.length:Int)=R'.length:=by simpa using c
  refine ⟨_,?_,?_,he⟩
  ·have:=yz5 (g:=g) (P:=P') (X:=L') (Y:= []) (Z:=R') (S:=S') (a:=P'.length) (b:=m) (n:=L'.length) (by omega) (by simp;omega) rfl (by simp;omega) rfl
   simpa using this
  ·simp;omega
end Go.Proofs.Ytecfpoklnfaihaa
end
noncomputable section
namespace Go.Proofs.Ytecfpoklnfaihaa
open Go.AV Go.RowKit
def Cmp (g:Rw->Rw->Int->Prop) (Q:Rw->Prop):Prop:=∀a b,Q a->Q b->g a b (gc a b)
theorem yyp {α:Type} {l:List α} {x:α} (h:l.getLast? =some x):∃l',l=l'++ [x]:=by
 have hne:l≠ []:=fun e=>by subst e;cases h
 rw[List.getLast?_eq_some_getLast hne] at h
 exact ⟨l.dropLast,by rw[<-Option.some.inj h];exact (List.dropLast_concat_getLast hne).symm⟩
theorem yDw {g:Rw→Rw→Int→Prop} {Q:Rw→Prop} (hg:Cmp g Q) {P B S:List Rw} {x:Rw} (hb:P.length+1+B.length≤1000) (hq:∀y∈x::B,Q y) (hB:Sd ltg B):
  ∀X1:Int->Int->List Rw->Prop,(∀x1 x2 x3,yaG (P.length:Int) g (P++(srt ltg [] (x::B)++S)) X1 x1 x2 x3->X1 x1 x2 x3)->X1 ((P.length+1:Nat):Int) ((P.length+1+B.length:Nat):Int) (P++(x::(B++S))):=by
 refine lp3 (fun (i j:Int) (d:List Rw)=>∃p q:Nat,i=((P.length+1+p:Nat):Int)/\j=((P.length+1+q:Nat):Int)/\p<=q/\q<=B.length/\d=P++(x::(B++S))/\(∀y,0<p->B[p-1]? =some y->ltg y x=true)/\(∀y,B[q]? =some y->ltg y x=false)) (fun i j _=>(j-i).toNat) ?_ ⟨0,B.length,rfl,rfl,by omega,by omega,rfl,fun y h=>by omega,fun y h=>by rw[List.getElem?_eq_none (by omega)] at h;cases h⟩
 rintro X i j d ⟨p,q,rfl,rfl,hpq,hqB,rfl,h1,h2⟩ ih
 have hl:(P++(x::(B++S))).length=P.length+1+B.length+S.length:=by simp;omega
 unfold yaG
 rw[yok _ _ (by omega)]
 obtain ⟨r,hr⟩:∃r,(P.length+1+p+(P.length+1+q))/2=P.length+1+r:=⟨(P.length+1+p+(P.length+1+q))/2-(P.length+1),by omega⟩
 rw[hr]
 refine ⟨fun c=> ?_,fun c=> ?_⟩
 ·have c:p<q:=by have:=of_decide_eq_true c;omega
  obtain ⟨y,hy⟩:=yeM (l:=B) (n:=r) (by omega)
  have gy:(P++(x::(B++S)))[P.length+1+r]? =some y:=by
   rw[List.getElem?_append_right (by omega),show P.length+1+r-P.length=r+1 by omega,List.getElem?_cons_succ,List.getElem?_append_left (by omega)]
   exact hy
  have w1:IntKind.i64.wrap (((P.length+1+r:Nat):Int)+1)=((P.length+1+(r+1):Nat):Int):=by rw[wrap64 (by omega) (by omega)];omega
  rw[w1]
  simp only[Int.toNat_natCast]
  refine ⟨by omega,by omega,y,gy,by omega,by omega,x,ygp _ _ _,gc y x,hg y x (hq y (by simp[List.mem_of_getElem? hy])) (hq x (by simp)),fun c2=> ?_,fun c2=> ?_⟩
  ·exact ih _ _ _ ⟨r+1,q,rfl,rfl,by omega,hqB,rfl,fun z _ hz=>by rw[show r+1-1=r by omega,hy] at hz;cases hz;exact c2,h2⟩ (by omega)
  ·exact ih _ _ _ ⟨p,r,rfl,rfl,by omega,by omega,rfl,h1,fun z hz=>by rw[hy] at hz;cases hz;exact c2⟩ (by omega)
 ·have c:¬p<q:=by have:=of_decide_eq_false c;omega
  have e:q=p:=by omega
  subst e
  have w1:IntKind.i64.wrap (((P.length+1+q:Nat):Int)-1)=((P.length+q:Nat):Int):=by rw[wrap64 (by omega) (by omega)];omega
  refine lp2 (fun (k:Int) (d:List Rw)=>∃r:Nat,k=((P.length+r:Nat):Int)/\r<=q/\d=P++(B.take r++x::(B.drop r++S))) (fun k _=>(P.length+q-k).toNat) ?_ ⟨0,by omega,by omega,by simp⟩
  rintro X2 k d ⟨r,rfl,hrq,rfl⟩ ih2
  unfold yaU
  rw[w1]
  refine ⟨fun c=> ?_,fun c=> ?_⟩
  ·have c:r<q:=by have:=of_decide_eq_true c;omega
   obtain ⟨y,hy⟩:=yeM (l:=B) (n:=r) (by omega)
   have hd:=yjR hy
   have ht:(B.take r).length=r:=by rw[List.length_take];omega
   have ed:P++(B.take r++x::(B.drop r++S))=(P++B.take r)++x::([]++y::(B.drop (r+1)++S)):=by rw[hd];simp
   obtain ⟨g1,g2,g3,g4,g5,g6,g7⟩:=yoi (U:=P++B.take r) (M:= []) (T:=B.drop (r+1)++S) (x:=x) (z:=y) (i:=P.length+r) (j:=P.length+r+1) (by simp;omega) (by simp;omega)
   have w2:IntKind.i64.wrap (((P.length+r:Nat):Int)+1)=((P.length+r+1:Nat):Int):=by rw[wrap64 (by omega) (by omega)];omega
   rw[ed,w2]
   simp only[Int.toNat_natCast]
   refine ⟨by omega,by omega,y,g2,by omega,by omega,x,g1,by omega,by omega,x,g1,by omega,by rw[List.length_set];omega,y,g3,?_⟩
   rw[g5]
   refine ih2 _ _ ⟨r+1,by omega,by omega,?_⟩ (by omega)
   rw[List.take_add_one,hy];simp
  ·have c:¬r<q:=by have:=of_decide_eq_false c;omega
   have e:r=q:=by omega
   subst e
   have eB:B.take r++B.drop r=B:=List.take_append_drop r B
   have:=yz1 ydH (x:=x) (B1:=B.take r) (B2:=B.drop r) (by rw[eB];exact hB) (fun b hb=> ?_) (fun b hb=> ?_)
   ·rw[eB] at this;rw[this];simp
   ·by_cases hr0:r=0
    ·subst hr0;cases hb
    obtain ⟨y,hy⟩:=yeM (l:=B) (n:=r-1) (by omega)
    have et:B.take r=B.take (r-1)++ [y]:=by
     have:=List.take_add_one (l:=B) (i:=r-1)
     rw[hy,show r-1+1=r by omega] at this
     exact this
    have hs:=(Sd.app.1 (show Sd ltg (B.take r++B.drop r) by rw[eB];exact hB)).1
    rw[et] at hs hb
    exact Sd.lastS ydH hs (h1 y (by omega) hy) b hb
   ·cases hdr:B.drop r with
    |nil=>rw[hdr] at hb;cases hb
    | cons y T=>
      have hs:=(Sd.app.1 (show Sd ltg (B.take r++B.drop r) by rw[eB];exact hB)).2.1
      rw[hdr] at hs hb
      have hy:B[r]? =some y:=by
       have:(B.drop r)[0]? =some y:=by rw[hdr];rfl
       rw[List.getElem?_drop] at this;exact this
      exact Sd.head ydH hs (h2 y hy) b hb
theorem yDA {g:Rw→Rw→Int→Prop} {Q:Rw→Prop} (hg:Cmp g Q) {P A S:List Rw} {x:Rw} (hb:P.length+A.length+1≤1000) (hq:∀y∈A++ [x],Q y) (hA:Sd ltg A):
  ∀X3:Int->Int->List Rw->Prop,(∀x13 x14 x15,yaF ((P.length+A.length:Nat):Int) g (P++(srt ltg [] (A++ [x])++S)) X3 x13 x14 x15->X3 x13 x14 x15)->X3 (P.length:Int) ((P.length+A.length:Nat):Int) (P++(A++(x::S))):=by
 refine lp3 (fun (i j:Int) (d:List Rw)=>∃p q:Nat,i=((P.length+p:Nat):Int)/\j=((P.length+q:Nat):Int)/\p<=q/\q<=A.length/\d=P++(A++(x::S))/\(∀y,0<p->A[p-1]? =some y->ltg x y=false)/\(∀y,A[q]? =some y->ltg x y=true)) (fun i j _=>(j-i).toNat) ?_ ⟨0,A.length,rfl,rfl,by omega,by omega,rfl,fun y h=>by omega,fun y h=>by rw[List.getElem?_eq_none (by omega)] at h;cases h⟩
 rintro X i j d ⟨p,q,rfl,rfl,hpq,hqA,rfl,h1,h2⟩ ih
 have hl:(P++(A++(x::S))).length=P.length+A.length+1+S.length:=by simp;omega
 have gx:(P++(A++(x::S)))[P.length+A.length]? =some x:=by
  rw[<-List.append_assoc,<-List.length_append];exact ygp _ _ _
 unfold yaF
 rw[yok _ _ (by omega)]
 obtain ⟨r,hr⟩:∃r,(P.length+p+(P.length+q))/2=P.length+r:=⟨(P.length+p+(P.length+q))/2-P.length,by omega⟩
 rw[hr]
 refine ⟨fun c=> ?_,fun c=> ?_⟩
 ·have c:p<q:=by have:=of_decide_eq_true c;omega
  obtain ⟨y,hy⟩:=yeM (l:=A) (n:=r) (by omega)
  have gy:(P++(A++(x::S)))[P.length+r]? =some y:=by
   rw[List.getElem?_append_right (by omega),show P.length+r-P.length=r by omega,List.getElem?_append_left (by omega)]
   exact hy
  have w1:IntKind.i64.wrap (((P.length+r:Nat):Int)+1)=((P.length+(r+1):Nat):Int):=by rw[wrap64 (by omega) (by omega)];omega
  rw[w1]
  simp only[Int.toNat_natCast]
  refine ⟨by omega,by omega,x,gx,by omega,by omega,y,gy,gc x y,hg x y (hq x (by simp)) (hq y (by simp[List.mem_of_getElem? hy])),fun c2=> ?_,fun c2=> ?_⟩
  ·have c2:ltg x y=false:=by simpa [ltg] using c2
   exact ih _ _ _ ⟨r+1,q,rfl,rfl,by omega,hqA,rfl,fun z _ hz=>by rw[show r+1-1=r by omega,hy] at hz;cases hz;exact c2,h2⟩ (by omega)
  ·have c2:ltg x y=true:=by simpa [ltg] using c2
   exact ih _ _ _ ⟨p,r,rfl,rfl,by omega,by omega,rfl,h1,fun z hz=>by rw[hy] at hz;cases hz;exact c2⟩ (by omega)
 ·have c:¬p<q:=by have:=of_decide_eq_false c;omega
  have e:q=p:=by omega
  subst e
  refine lp2 (fun (k:Int) (d:List Rw)=>∃r:Nat,k=((P.length+r:Nat):Int)/\q<=r/\r<=A.length/\d=P++(A.take r++x::(A.drop r++S))) (fun k _=>k.toNat) ?_ ⟨A.length,rfl,by omega,by omega,by simp⟩
  rintro X2 k d ⟨r,rfl,hrq,hrA,rfl⟩ ih2
  unfold yaW
  refine ⟨fun c=> ?_,fun c=> ?_⟩
  ·have c:q<r:=by have:=of_decide_eq_true c;omega
   obtain ⟨y,hy⟩:=yeM (l:=A) (n:=r-1) (by omega)
   have et:A.take r=A.take (r-1)++ [y]:=by
    have:=List.take_add_one (l:=A) (i:=r-1)
    rw[hy,show r-1+1=r by omega] at this
    exact this
   have ht:(A.take (r-1)).length=r-1:=by rw[List.length_take];omega
   have ed:P++(A.take r++x::(A.drop r++S))=(P++A.take (r-1))++y::([]++x::(A.drop r++S)):=by rw[et];simp
   obtain ⟨g1,g2,g3,g4,g5,g6,g7⟩:=yoi (U:=P++A.take (r-1)) (M:= []) (T:=A.drop r++S) (x:=y) (z:=x) (i:=P.length+(r-1)) (j:=P.length+r) (by simp;omega) (by simp;omega)
   have w2:IntKind.i64.wrap (((P.length+r:Nat):Int)-1)=((P.length+(r-1):Nat):Int):=by rw[wrap64 (by omega) (by omega)];omega
   rw[ed,w2]
   simp only[Int.toNat_natCast]
   refine ⟨by omega,by omega,y,g1,by omega,by omega,x,g2,by omega,by omega,x,g2,by omega,by rw[List.length_set];omega,y,g4,?_⟩
   rw[g6]
   refine ih2 _ _ ⟨r-1,by omega,by omega,by omega,?_⟩ (by omega)
   have hd:=yjR hy
   rw[show r-1+1=r by omega] at hd
   rw[hd];simp
  ·have c:¬q<r:=by have:=of_decide_eq_false c;omega
   have e:r=q:=by omega
   subst e
   have eA:A.take r++A.drop r=A:=List.take_append_drop r A
   have:=yAV ydH (x:=x) (B1:=A.take r) (B2:=A.drop r) (by rw[eA];exact hA) (fun b hb=> ?_) (fun b hb=> ?_)
   ·rw[eA] at this;rw[this];simp
   ·by_cases hr0:r=0
    ·subst hr0;cases hb
    obtain ⟨y,hy⟩:=yeM (l:=A) (n:=r-1) (by omega)
    have et:A.take r=A.take (r-1)++ [y]:=by
     have:=List.take_add_one (l:=A) (i:=r-1)
     rw[hy,show r-1+1=r by omega] at this
     exact this
    have hs:=(Sd.app.1 (show Sd ltg (A.take r++A.drop r) by rw[eA];exact hA)).1
    rw[et] at hs hb
    exact Sd.last ydH hs (h1 y (by omega) hy) b hb
   ·cases hdr:A.drop r with
    |nil=>rw[hdr] at hb;cases hb
    | cons y T=>
      have hs:=(Sd.app.1 (show Sd ltg (A.take r++A.drop r) by rw[eA];exact hA)).2.1
      rw[hdr] at hs hb
      have hy:A[r]? =some y:=by
       have:(A.drop r)[0]? =some y:=by rw[hdr];rfl
       rw[List.getElem?_drop] at this;exact this
      exact Sd.headS ydH hs (h2 y hy) b hb
end Go.Proofs.Ytecfpoklnfaihaa
end
noncomputable section
namespace Go.Proofs.Ytecfpoklnfaihaa
open Go.AV Go.RowKit
def Clo (Xr:(Rw->Rw->Int->Prop)->Int->Int->Int->List Rw->List Rw->Prop):Prop:=∀(g4:Rw->Rw->Int->Prop) (a0 a1 a2:Int) (a3 r0:List Rw),yaH Xr g4 a0 a1 a2 a3 r0->Xr g4 a0 a1 a2 a3 r0
theorem yt1 {A:List Rw} (h:Sd ltg A):srt ltg [] ([]++A)=A:=yys ydH h
theorem ytW {A:List Rw} (h:Sd ltg A):srt ltg [] (A++ [])=A:=by rw[List.append_nil];exact yys ydH h
set_option maxHeartbeats 4000000 in
theorem pSym {g : Rw → Rw → Int →Prop} {Q:Rw→Prop} (hg:Cmp g Q) (Xr:(Rw→Rw→Int→Prop)→Int→Int→Int→List Rw→List Rw→Prop) (hX:Clo Xr):∀(n:Nat) (P A B S:List Rw),A.length+B.length≤n→0<A.length→0<B.length→P.length+A.length+B.length≤1000→(∀y∈A++B,Q y)→Sd ltg A→Sd ltg B→
  Xr g (P.length:Int) ((P.length+A.length:Nat):Int) ((P.length+A.length+B.length:Nat):Int) (P++(A++(B++S))) (P++(srt ltg [] (A++B)++S)):=by
 intro n
 induction n with
 |zero=>intro P A B S h hA hB;omega
 | succ n ih=>
   intro P A B S hn hA hB hb hq sA sB
   apply hX
   have w1:IntKind.i64.wrap (((P.length+A.length:Nat):Int)-(P.length:Int))=(A.length:Int):=by rw[wrap64 (by omega) (by omega)];omega
   have w2:IntKind.i64.wrap (((P.length+A.length+B.length:Nat):Int)-((P.length+A.length:Nat):Int))=(B.length:Int):=by rw[wrap64 (by omega) (by omega)];omega
   unfold yaH
   rw[w1,w2]
   refine ⟨fun c=> ?_,fun c=>⟨fun c2=> ?_,fun c2=> ?_⟩⟩
   ·have c : A.length = 1 := by have:(A.length:Int)=1:=by simpa using c
                                omega
    obtain ⟨x,rfl⟩:=List.length_eq_one_iff.1 c
    exact yDw hg (by simpa using hb) (by simpa using hq) sB
   ·have c : B.length = 1 := by have:(B.length:Int)=1:=by simpa using c2
                                omega
    obtain ⟨x,rfl⟩:=List.length_eq_one_iff.1 c
    exact yDA hg (by simpa using hb) (by simpa using hq) sA
   ·have cA:A.length≠1:=by intro e;rw[e] at c;simp at c
    have cB:B.length≠1:=by intro e;rw[e] at c2;simp at c2
    clear w1 w2 c c2
    have hmid:=yok P.length (P.length+A.length+B.length) (by omega)
    obtain ⟨mid,hmd⟩:∃mid,mid=(P.length+(P.length+A.length+B.length))/2:=⟨_,rfl⟩
    rw[<-hmd] at hmid
    have wn:IntKind.i64.wrap ((mid:Int)+((P.length+A.length:Nat):Int))=((mid+(P.length+A.length):Nat):Int):=by rw[wrap64 (by omega) (by omega)];omega
    have dA:∀k,k<A.length→(P++(A++(B++S)))[P.length+k]? =A[k]? :=by
     intro k hk
     rw[List.getElem?_append_right (by omega),show P.length+k-P.length=k by omega,List.getElem?_append_left hk]
    have dB:∀k,k<B.length→(P++(A++(B++S)))[P.length+A.length+k]? =B[k]? :=by
     intro k hk
     rw[<-List.append_assoc,List.getElem?_append_right (by simp),show P.length+A.length+k-(P++A).length=k by simp,List.getElem?_append_left hk]
    have hl:(P++(A++(B++S))).length=P.length+A.length+B.length+S.length:=by simp;omega
    have core:∀lo hi:Nat,(mid<P.length+A.length∧lo+(P.length+A.length+B.length)=mid+(P.length+A.length)∧hi=mid)∨(P.length+A.length≤mid∧lo=P.length∧hi=P.length+A.length)→
      yaq Xr (P.length:Int) ((P.length+A.length:Nat):Int) ((P.length+A.length+B.length:Nat):Int) g (P++(srt ltg [] (A++B)++S)) (lo:Int) (hi:Int) (P++(A++(B++S))):=by
     intro lo hi hlh
     have hlo:P.length<=lo:=by omega
     have hhi:hi<=P.length+A.length:=by omega
     have hhm:hi<=mid:=by omega
     unfold yaq
     refine lp3 (fun (i j:Int) (d:List Rw)=>∃s r:Nat,i=(s:Int)/\j=(r:Int)/\lo<=s/\s<=r/\r<=hi/\d=P++(A++(B++S))/\(lo<s->∀x y,(P++(A++(B++S)))[s-1]? =some x->(P++(A++(B++S)))[mid+(P.length+A.length)-s]? =some y->ltg y x=false)/\(r<hi->∀x y,(P++(A++(B++S)))[r]? =some x->(P++(A++(B++S)))[mid+(P.length+A.length)-1-r]? =some y->ltg y x=true)) (fun i j _=>(j-i).toNat) ?_ ⟨lo,hi,rfl,rfl,by omega,by omega,by omega,rfl,fun h=>by omega,fun h=>by omega⟩
     rintro X i j d ⟨s,r,rfl,rfl,k1,k2,k3,rfl,h1,h2⟩ ih2
     unfold yaX
     rw[hmid,wn,yok s r (by omega)]
     refine ⟨fun c=> ?_,fun c=> ?_⟩
     ·have c:s<r:=by have:=of_decide_eq_true c;omega
      obtain ⟨q,hq'⟩:∃q,q=(s+r)/2:=⟨_,rfl⟩
      rw[<-hq']
      have wp:IntKind.i64.wrap (((mid+(P.length+A.length):Nat):Int)-1)=((mid+(P.length+A.length)-1:Nat):Int):=by rw[wrap64 (by omega) (by omega)];omega
      have wq:IntKind.i64.wrap (((mid+(P.length+A.length)-1:Nat):Int)-(q:Int))=((mid+(P.length+A.length)-1-q:Nat):Int):=by rw[wrap64 (by omega) (by omega)];omega
      have wc:IntKind.i64.wrap ((q:Int)+1)=((q+1:Nat):Int):=by rw[wrap64 (by omega) (by omega)];omega
      rw[wp,wq,wc]
      simp only[Int.toNat_natCast]
      obtain ⟨kx,hkx⟩:∃k,q=P.length+k:=⟨q-P.length,by omega⟩
      obtain ⟨ky,hky⟩:∃k,mid+(P.length+A.length)-1-q=P.length+A.length+k:=⟨mid-1-q,by omega⟩
      obtain ⟨x,hx⟩:=yeM (l:=A) (n:=kx) (by omega)
      obtain ⟨y,hy⟩:=yeM (l:=B) (n:=ky) (by omega)
      have gx:(P++(A++(B++S)))[q]? =some x:=by rw[hkx,dA kx (by omega)];exact hx
      have gy:(P++(A++(B++S)))[mid+(P.length+A.length)-1-q]? =some y:=by rw[hky,dB ky (by omega)];exact hy
      refine ⟨by omega,by omega,y,gy,by omega,by omega,x,gx,gc y x,hg y x (hq y (by simp[List.mem_of_getElem? hy])) (hq x (by simp[List.mem_of_getElem? hx])),fun c2=> ?_,fun c2=> ?_⟩
      ·have c2:ltg y x=false:=by simpa [ltg] using c2
       refine ih2 _ _ _ ⟨q+1,r,rfl,rfl,by omega,by omega,by omega,rfl,fun _ u v hu hv=> ?_,h2⟩ (by omega)
       rw[show q+1-1=q by omega,gx] at hu
       rw[show mid+(P.length+A.length)-(q+1)=mid+(P.length+A.length)-1-q by omega,gy] at hv
       cases hu;cases hv;exact c2
      ·have c2:ltg y x=true:=by simpa [ltg] using c2
       refine ih2 _ _ _ ⟨s,q,rfl,rfl,by omega,by omega,by omega,rfl,h1,fun _ u v hu hv=> ?_⟩ (by omega)
       rw[gx] at hu;rw[gy] at hv
       cases hu;cases hv;exact c2
     ·have c:¬s<r:=by have:=of_decide_eq_false c;omega
      have e:r=s:=by omega
      subst e
      clear ih2
      obtain ⟨A1,A2,eA,lA1,lA2⟩:=ymT (l:=A) (n:=r-P.length) (by omega)
      obtain ⟨B1,B2,eB,lB1,lB2⟩:=ymT (l:=B) (n:=mid-r) (by omega)
      have sA':=sA;have sB':=sB
      rw[eA] at sA';rw[eB] at sB'
      obtain ⟨sA1,sA2,_⟩:=Sd.app.1 sA'
      obtain ⟨sB1,sB2,_⟩:=Sd.app.1 sB'
      have hcut:srt ltg [] (A++B)=srt ltg [] (A1++B1)++srt ltg [] (A2++B2):=by
       refine yCs ydH sA sB eA eB (fun x y hx hy=> ?_) (fun x y hx hy=> ?_)
       ·obtain ⟨A0,e0⟩:=yyp hx
        cases hB2:B2 with
        |nil=>rw[hB2] at hy;cases hy
        | cons y' T=>
          rw[hB2] at hy;cases hy
          have l0:A1.length=A0.length+1:=by rw[e0];simp
          have l2:B2.length=T.length+1:=by rw[hB2];simp
          refine h1 (by omega) x y ?_ ?_
          ·rw[show r-1=P.length+A0.length by omega,dA _ (by omega),eA,e0,List.append_assoc];exact ygp _ _ _
          ·rw[show mid+(P.length+A.length)-r=P.length+A.length+B1.length by omega,dB _ (by omega),eB,hB2];exact ygp _ _ _
       ·obtain ⟨B0,e0⟩:=yyp hx
        cases hA2:A2 with
        |nil=>rw[hA2] at hy;cases hy
        | cons y' T=>
          rw[hA2] at hy;cases hy
          have l0:B1.length=B0.length+1:=by rw[e0];simp
          have l2:A2.length=T.length+1:=by rw[hA2];simp
          refine h2 (by omega) y x ?_ ?_
          ·rw[show r=P.length+A1.length by omega,dA _ (by omega),eA,hA2];exact ygp _ _ _
          ·rw[show mid+(P.length+A.length)-1-r=P.length+A.length+B0.length by omega,dB _ (by omega),eB,e0,List.append_assoc];exact ygp _ _ _
      have we:IntKind.i64.wrap (((mid+(P.length+A.length):Nat):Int)-(r:Int))=((mid+(P.length+A.length)-r:Nat):Int):=by rw[wrap64 (by omega) (by omega)];omega
      have lsrt:(srt ltg [] (A1++B1)).length=A1.length+B1.length:=by rw[yed];simp
      have t8:yam Xr (P.length:Int) ((P.length+A.length+B.length:Nat):Int) g (P++(srt ltg [] (A++B)++S)) ((mid+(P.length+A.length)-r:Nat):Int) (P++(srt ltg [] (A1++B1)++(A2++(B2++S)))):=by
       have stay:(A2= []∨B2= [])→P++(srt ltg [] (A1++B1)++(A2++(B2++S)))=P++(srt ltg [] (A++B)++S):=by
        rw[hcut]
        rintro (h|h)
        ·rw[h] at*;rw[yt1 sB2];simp
        ·rw[h] at*;rw[ytW sA2];simp
       unfold yam yaz
       rw[hmid]
       refine ⟨fun d=>⟨fun d2=> ?_,fun d2=> ?_⟩,fun d=>yaf rfl ?_⟩
       ·have d:=of_decide_eq_true d
        have d2:=of_decide_eq_true d2
        refine ⟨_,?_,?_,rfl⟩
        ·have:=ih (P++srt ltg [] (A1++B1)) A2 B2 S (by omega) (by omega) (by omega) (by rw[List.length_append];omega) (fun y hy=>hq y (by rw[eA,eB];simp only[List.mem_append] at*;rcases hy with h|h<;>simp[h])) sA2 sB2
         rw[hcut]
         simp only[List.append_assoc,List.length_append,lsrt] at this⊢
         rw[show P.length+(A1.length+B1.length)=mid by omega] at this
         rw[show mid+A2.length=mid+(P.length+A.length)-r by omega] at this
         rw[show mid+(P.length+A.length)-r+B2.length=P.length+A.length+B.length by omega] at this
         exact this
        ·rw[hcut];simp only[List.length_append,yed];omega
       ·have d2:=of_decide_eq_false d2
        exact stay (.inr (List.eq_nil_of_length_eq_zero (by omega)))
       ·have d:=of_decide_eq_false d
        exact stay (.inl (List.eq_nil_of_length_eq_zero (by omega)))
      have t7:yan Xr (P.length:Int) ((P.length+A.length+B.length:Nat):Int) g (P++(srt ltg [] (A++B)++S)) (r:Int) ((mid+(P.length+A.length)-r:Nat):Int) (P++(A1++(B1++(A2++(B2++S))))):=by
       have stay:(A1= []∨B1= [])→P++(A1++(B1++(A2++(B2++S))))=P++(srt ltg [] (A1++B1)++(A2++(B2++S))):=by
        rintro (h|h)
        ·rw[h] at*;rw[yt1 sB1];simp
        ·rw[h] at*;rw[ytW sA1];simp
       unfold yan yav
       rw[hmid]
       refine ⟨fun d=>⟨fun d2=> ?_,fun d2=> ?_⟩,fun d=>yaf rfl ?_⟩
       ·have d:=of_decide_eq_true d
        have d2:=of_decide_eq_true d2
        refine ⟨_,?_,?_,t8⟩
        ·have:=ih P A1 B1 (A2++(B2++S)) (by omega) (by omega) (by omega) (by omega) (fun y hy=>hq y (by rw[eA,eB];simp only[List.mem_append] at*;rcases hy with h|h<;>simp[h])) sA1 sB1
         rw[show P.length+A1.length=r by omega] at this
         rw[show r+B1.length=mid by omega] at this
         exact this
        ·simp only[List.length_append,yed];omega
       ·have d2:=of_decide_eq_false d2
        rw[stay (.inr (List.eq_nil_of_length_eq_zero (by omega)))];exact t8
       ·have d:=of_decide_eq_false d
        rw[stay (.inl (List.eq_nil_of_length_eq_zero (by omega)))];exact t8
      have stay:(A2= []∨B1= [])→P++(A++(B++S))=P++(A1++(B1++(A2++(B2++S)))):=by
       rw[eA,eB]
       rintro (h|h)
       ·rw[h];simp
       ·rw[h];simp
      unfold yaw
      rw[hmid,wn,we]
      refine ⟨fun d=>⟨fun d2=> ?_,fun d2=> ?_⟩,fun d=>yaf rfl ?_⟩
      ·have d:=of_decide_eq_true d
       have d2:=of_decide_eq_true d2
       refine ⟨_,?_,?_,t7⟩
       ·have:=yAW (g:=g) (P:=P++A1) (L:=A2) (R:=B1) (S:=B2++S) (a:=(r:Int)) (m:=((P.length+A.length:Nat):Int)) (b:=((mid+(P.length+A.length)-r:Nat):Int)) (by rw[List.length_append];omega) (by omega) (by omega) (by rw[List.length_append];omega) (by rw[List.length_append];omega) (by rw[List.length_append];omega)
        rw[eA,eB]
        rw[eA] at this
        simpa using this
       ·rw[hl];simp only[List.length_append];omega
      ·have d2:=of_decide_eq_false d2
       rw[stay (.inr (List.eq_nil_of_length_eq_zero (by omega)))];exact t7
      ·have d:=of_decide_eq_false d
       rw[stay (.inl (List.eq_nil_of_length_eq_zero (by omega)))];exact t7
    rw[hmid,wn]
    refine ⟨fun d=> ?_,fun d=> ?_⟩
    ·have d:=of_decide_eq_true d
     have wl:IntKind.i64.wrap (((mid+(P.length+A.length):Nat):Int)-((P.length+A.length+B.length:Nat):Int))=((mid+(P.length+A.length)-(P.length+A.length+B.length):Nat):Int):=by rw[wrap64 (by omega) (by omega)];omega
     rw[wl]
     exact core _ _ (.inl ⟨by omega,by omega,rfl⟩)
    ·have d:=of_decide_eq_false d
     exact core _ _ (.inr ⟨by omega,rfl,rfl⟩)
theorem yu1 {g:Rw→Rw→Int→Prop} {Q:Rw→Prop} (hg:Cmp g Q) {A B:List Rw} (hA:0<A.length) (hB:0<B.length) (hb:A.length+B.length≤1000) (hq:∀y∈A++B,Q y) (sA:Sd ltg A) (sB:Sd ltg B) {a m b:Int} (ha:a=0) (hm:m=A.length) (hbb:b=A.length+B.length):
  yaK g a m b (A++B) (srt ltg [] (A++B)):=by
 refine yd9 _ _ _ _ _ _ fun Xr hX=> ?_
 have:=pSym hg Xr hX _ [] A B [] (Nat.le_refl _) hA hB (by simpa using hb) hq sA sB
 subst ha;subst hm;subst hbb
 simpa using this
end Go.Proofs.Ytecfpoklnfaihaa
end
noncomputable section
namespace Go.Proofs.Ytecfpoklnfaihaa
open Go.AV Go.RowKit
section
variable {α:Type}
theorem yx1 (lt:α→α→Bool) (x p:α) (l:List α):ins lt x (l++ [p])=if lt x p then ins lt x l++ [p] else (l++ [p])++ [x]:=by
 unfold ins
 rw[List.reverse_append]
 show (if lt x p=true then p::rins lt x l.reverse else x::p::l.reverse).reverse=_
 split
 ·rw[List.reverse_cons]
 ·simp
theorem yAl (lt:α→α→Bool) (x:α) (l:List α):(ins lt x l).length=l.length+1:=by
 have:∀m:List α,(rins lt x m).length=m.length+1:=by
  intro m
  induction m with
  |nil=>rfl
  |cons y r ih=>unfold rins;split<;>simp[ih]
 unfold ins;simp[this]
theorem yz2 (lt:α→α→Bool):∀(l out:List α),(srt lt out l).length=out.length+l.length
 | [],out=>rfl
 |x::r,out=>by unfold srt;rw[yz2 lt r,yAl];simp;omega
theorem ywu (lt:α→α→Bool) (b:α):∀(a out:List α),srt lt out (a++ [b])=ins lt b (srt lt out a)
 | [],out=>rfl
 |x::r,out=>by show srt lt (ins lt x out) (r++ [b])=_;rw[ywu lt b r];rfl
end
theorem yoV {g:Rw→Rw→Int→Prop} {Q:Rw→Prop} (hg:Cmp g Q) {P L S:List Rw} {a b:Int} (hl:P.length+L.length≤1000) (hq:∀y∈L,Q y) (ha:a=P.length) (hb:b=P.length+L.length):yao g a b (P++(L++S)) (P++(srt ltg [] L++S)):=by
 refine ydf _ _ _ _ _ ?_
 have e01:IntKind.i64.wrap (a+(1:Int))=((P.length+1:Nat):Int):=by rw[wrap64 (by omega) (by omega)];omega
 unfold ya7
 rw[e01]
 refine lp2 (fun (i:Int) (d:List Rw)=>(L= []/\d=P++S/\i=((P.length+1:Nat):Int))∨∃A B,L=A++B/\i=((P.length+A.length:Nat):Int)/\1<=A.length/\d=P++(srt ltg [] A++(B++S))) (fun i _=>(b-i).toNat) ?_ ?_
 ·rintro X i d inv ih
  unfold yaJ
  rcases inv with ⟨e,rfl,rfl⟩|⟨A,B,e,rfl,hA,rfl⟩
  ·subst e
   exact yaf (by simp at hb⊢;omega) rfl
  ·have hll:L.length=A.length+B.length:=by rw[e];simp
   refine ⟨fun c=> ?_,fun c=> ?_⟩
   ·have c:=of_decide_eq_true c
    cases B with
    |nil=>exfalso;simp only[List.length_nil] at hll;omega
    | cons x B=>
      have hsl:=yed ltg A
      have qA:∀y∈srt ltg [] A,Q y:=fun y hy=>hq y (by rw[e];exact List.mem_append_left _ ((ygI A).subset hy))
      have qx:Q x:=hq x (by rw[e];simp)
      simp only[List.length_cons] at hll
      have nx:∀d,d=P++(srt ltg [] (A++ [x])++(B++S))→X (IntKind.i64.wrap (((P.length+A.length:Nat):Int)+1)) d:=by
       intro d hd
       rw[wrap64 (by omega) (by omega)]
       exact ih _ _ (.inr ⟨A++ [x],B,by rw[e];simp,by simp;omega,by simp,hd⟩) (by omega)
      refine lp2 (fun (j:Int) (d:List Rw)=>∃P1 P2,j=((P.length+P1.length:Nat):Int)/\d=P++(P1++x::(P2++(B++S)))/\ins ltg x (srt ltg [] A)=ins ltg x P1++P2/\P1.length<=A.length/\∀y∈P1,Q y) (fun j _=>j.toNat) ?_ ⟨srt ltg [] A,[],by rw[hsl],by simp,by simp,by omega,qA⟩
      rintro X2 j d ⟨P1,P2,rfl,rfl,hins,hP,hQ⟩ ih2
      have stop:ins ltg x P1=P1++ [x]->X (IntKind.i64.wrap (((P.length+A.length:Nat):Int)+1)) (P++(P1++x::(P2++(B++S)))):=fun h=>nx _ (by rw[ywu,hins,h];simp)
      unfold yaI
      rcases yfp P1 with rfl|⟨P0,p,rfl⟩
      ·exact yaf (by simp;omega) (yaf rfl (stop rfl))
      ·have hlen:(P0++ [p]).length=P0.length+1:=by simp
       rw[hlen] at hP
       have e1:IntKind.i64.wrap (((P.length+(P0++ [p]).length:Nat):Int)-1)=((P.length+P0.length:Nat):Int):=by rw[wrap64 (by omega) (by omega)];omega
       have qp:Q p:=hQ p (by simp)
       have hs:ins ltg x (P0++ [p])=if ltg x p then ins ltg x P0++ [p] else (P0++ [p])++ [x]:=yx1 ltg x p P0
       have ed:P++((P0++ [p])++x::(P2++(B++S)))=(P++P0)++p::([]++x::(P2++(B++S))):=by simp
       obtain ⟨g1,g2,g3,g4,g5,g6,g7⟩:=yoi (U:=P++P0) (M:= []) (T:=P2++(B++S)) (x:=p) (z:=x) (i:=P.length+P0.length) (j:=P.length+(P0++ [p]).length) (by simp) (by simp;omega)
       rw[ed] at stop⊢
       rw[e1]
       refine yai (by simp<;>omega) ⟨by omega,by omega,x,by simpa only[Int.toNat_natCast] using g2,by omega,by omega,p,by simpa only[Int.toNat_natCast] using g1,gc x p,hg x p qx qp,?_⟩
       rw[show decide (gc x p<0)=ltg x p from rfl]
       unfold yap
       rw[e1]
       simp only[Int.toNat_natCast]
       refine ⟨fun hx=> ?_,fun hx=>stop (by rw[hs,hx];rfl)⟩
       refine ⟨by omega,by omega,p,g1,by omega,by omega,x,g2,by omega,by omega,x,g2,by omega,by rw[List.length_set];omega,p,g4,?_⟩
       rw[g6]
       exact ih2 _ _ ⟨P0,p::P2,rfl,by simp,by rw[hins,hs,hx];simp,by omega,fun y hy=>hQ y (by simp[hy])⟩ (by omega)
   ·have c:=of_decide_eq_false c
    have:B= []:=List.length_eq_zero_iff.1 (by omega)
    subst this
    rw[e];simp
 ·cases L with
  |nil=>exact .inl ⟨rfl,rfl,rfl⟩
  |cons x r=>exact .inr ⟨[x],r,rfl,rfl,by simp,rfl⟩
theorem yBa {g:Rw→Rw→Int→Prop} {Q:Rw→Prop} (hg:Cmp g Q) {l:List Rw} (hl:l.length≤39) (hq:∀y∈l,Q y):yaR g (l.length:Int) l (srt ltg [] l):=by
 unfold yaR
 intro X hX
 by_cases h20:20<=l.length
 ·obtain ⟨L,R,rfl,hL,hR⟩:=ymT h20
  have hlen:(L++R).length=20+R.length:=by simp[hL]
  have sl:=yed ltg L
  have sr:=yed ltg R
  refine hX _ _ _ (yai (by simp;omega) ⟨srt ltg [] L++R,?_,by simp[sl],?_⟩)
  ·exact yoV (P:= []) (L:=L) (S:=R) hg (by simp;omega) (fun y hy=>hq y (by simp[hy])) rfl (by simp;omega)
  ·refine hX _ _ _ (yaf (by rw[wrap64 (by omega) (by omega)];simp;omega) ⟨srt ltg [] L++srt ltg [] R,?_,by simp[sl,sr],fun X2 hX2=> ?_⟩)
   ·have:=yoV (P:=srt ltg [] L) (L:=R) (S:= []) (a:=20) (b:=((L++R).length:Int)) hg (by omega) (fun y hy=>hq y (by simp[hy])) (by omega) (by omega)
    simpa using this
   ·refine hX2 _ _ ⟨fun c=> ?_,fun c=> ?_⟩
    ·have c:=of_decide_eq_true c
     intro X3 hX3
     have e40:IntKind.i64.wrap ((2:Int)*20)=40:=by decide
     have e20:IntKind.i64.wrap ((0:Int)+20)=20:=by decide
     have e42:IntKind.i64.wrap ((20:Int)*2)=40:=by decide
     have h:=hX3 0 40 (srt ltg [] L++srt ltg [] R)
     rw[e40]
     refine h ?_
     unfold ycq
     rw[e20,e42]
     have pp:srt ltg [] (srt ltg [] L++srt ltg [] R)=srt ltg [] (L++R):=yzK ydH L R
     refine yaf (by simp;omega) (yai (by simp;omega) ⟨srt ltg [] (L++R),?_,by rw[yed];simp[sl,sr],hX2 _ _ (yaf (by simp;omega) rfl)⟩)
     rw[<-pp]
     exact yu1 hg (by omega) (by omega) (by omega) (fun y hy=>hq y (by
      rcases List.mem_append.1 hy with h|h
      ·exact List.mem_append_left _ ((ygI L).subset h)
      ·exact List.mem_append_right _ ((ygI R).subset h))) (ykC ydH L) (ykC ydH R) rfl (by omega) (by omega)
    ·have c:=of_decide_eq_false c
     have:R= []:=List.length_eq_zero_iff.1 (by omega)
     subst this
     rw[List.append_nil]
     show srt ltg [] L++ []=srt ltg [] L
     simp
 ·refine hX _ _ _ (yaf (by simp;omega) ⟨srt ltg [] l,?_,by rw[yed],fun X2 hX2=>hX2 _ _ (yaf (by simp;omega) rfl)⟩)
  have:=yoV (P:= []) (L:=l) (S:= []) (a:=0) (b:=(l.length:Int)) hg (by simp;omega) hq rfl (by simp)
  simpa using this
theorem yjg {a b:List V} (ha:a.length≤100000000):ycd a b (rc a b):=by
 refine ⟨_,?_,rfl⟩
 refine fun _=> ?_
 refine lp1 (fun i:Int=>0<=i/\i<=a.length/\i<=b.length/\rc (a.drop i.toNat) (b.drop i.toNat)=rc a b) (fun i=>(a.length-i).toNat) ?_ ⟨by omega,by omega,by omega,by simp⟩
 rintro X i ⟨i0,i1,i2,hr⟩ ih
 refine ⟨fun c=> ?_,fun c=> ?_⟩
 ·have c:i<(a.length:Int):=by simpa using c
  obtain ⟨y,hy⟩:=yeM (l:=a) (n:=i.toNat) (by omega)
  refine ⟨i0,c,y,hy,fun _=>⟨fun c2=> ?_,fun c2=> ?_⟩⟩
  ·have c2:(b.length:Int)≤i:=by simpa using c2
   rw[yjR hy,List.drop_eq_nil_of_le (show b.length<=i.toNat by omega)] at hr
   exact hr
  ·have c2:¬(b.length:Int)≤i:=by simpa using c2
   obtain ⟨z,hz⟩:=yeM (l:=b) (n:=i.toNat) (by omega)
   rw[yjR hy,yjR hz] at hr
   rw[yxf] at hr
   refine ⟨i0,by omega,z,hz,_,ylK y z,fun h=> ?_,fun h=> ?_⟩
   ·have h:sCmp y z≠0:=by simpa using h
    rw[if_pos h] at hr;exact hr
   ·have h:sCmp y z=0:=by simpa using h
    rw[if_neg (by simpa using h)] at hr
    rw[wrap64 (by omega) (by omega)]
    exact ih _ ⟨by omega,by omega,by omega,by rw[show (i+1).toNat=i.toNat+1 by omega];exact hr⟩ (by omega)
 ·have c:¬i<(a.length:Int):=by simpa using c
  have hd:a.drop i.toNat= []:=List.drop_eq_nil_of_le (by omega)
  rw[hd,yAM,List.length_drop] at hr
  refine fun _ _=>⟨fun c2=> ?_,fun c2=> ?_⟩
  ·have c2:(a.length:Int)<b.length:=by simpa using c2
   rw[if_pos (by omega)] at hr;exact hr
  ·have c2:¬(a.length:Int)<b.length:=by simpa using c2
   rw[if_neg (by omega)] at hr;exact hr
end Go.Proofs.Ytecfpoklnfaihaa
end
noncomputable section
namespace Go.Proofs.Ytecfpoklnfaihaa
open Go.AV Go.RowKit
abbrev W:=yaj
abbrev One:=yag
abbrev Part:=yae
def wOf (z:Int):W:=⟨IntKind.i64.wrap (z/18446744073709551616),z % 18446744073709551616⟩
theorem yBd (x y:Int):(⟨IntKind.i64.wrap ((wOf x).Hi+(wOf y).Hi+((wOf x).Lo+(wOf y).Lo)/18446744073709551616),((wOf x).Lo+(wOf y).Lo) % 18446744073709551616⟩:W)=wOf (x+y):=by
 simp only[wOf,yaj.mk.injEq,ydy]
 refine ⟨?_,by omega⟩
 split<;>split<;>split<;>split<;>omega
theorem ys3 (x:Int):Rg (wOf x).Hi∧0≤(wOf x).Lo∧(wOf x).Lo<18446744073709551616:=by
 refine ⟨?_,?_,?_⟩
 ·exact yvB _
 ·simp only[wOf];omega
 ·simp only[wOf];omega
theorem yCv (x y:Int):yfY [wOf x,wOf y] (wOf (x+y)):=by
 rw[<-yBd x y]
 obtain ⟨⟨h1,h2⟩,h3,h4⟩:=ys3 x
 obtain ⟨⟨k1,k2⟩,k3,k4⟩:=ys3 y
 generalize wOf x=a at*
 generalize wOf y=b at*
 intro _ X hX
 refine hX _ _ _ (yai (by simp) ⟨by simp,by simp,a,rfl,_,_,⟨by omega,h3,rfl,rfl,rfl⟩,?_⟩)
 refine hX _ _ _ (yai (by rw[wrap64 (by omega) (by omega)];simp) ⟨by rw[wrap64 (by omega) (by omega)];omega,by rw[wrap64 (by omega) (by omega)];simp,b,by rw[wrap64 (by omega) (by omega)];rfl,_,_,⟨by omega,k3,rfl,rfl,rfl⟩,?_⟩)
 refine hX _ _ _ (yaf (by rw[wrap64 (n:=0+1) (by omega) (by omega),wrap64 (by omega) (by omega)];simp) ?_)
 simp only[yaj.mk.injEq]
 refine ⟨?_,by omega⟩
 rw[wrap64 (n:=(0+a.Lo)/18446744073709551616) (by omega) (by omega),wrap64 (n:=0+a.Hi) (by omega) (by omega),wrap64 (n:=0+a.Hi+(0+a.Lo)/18446744073709551616) (by omega) (by omega),wrap64 (n:=((0+a.Lo) % 18446744073709551616+b.Lo)/18446744073709551616) (by omega) (by omega)]
 simp only[ydy]
 split<;>split<;>split<;>omega
theorem pWOf {n:Int} (h:Rg n):yf8 n (wOf n):=by
 obtain ⟨h1,h2⟩:=h
 unfold yf8 wOf
 rw[Int.fdiv_eq_ediv_of_nonneg _ (by decide),ydQ]
 simp only[yaj.mk.injEq,and_true]
 rw[show (2:Int)^(min (63:Int).toNat IntKind.i64.bits)=9223372036854775808 from rfl,wrap64 (by omega) (by omega)]
 omega
theorem ypr {a b:V}:0<sCmp a b↔sCmp b a<0:=by
 have hs:∀a b:V,sCmp a b= -1∨sCmp a b=0∨sCmp a b=1:=by
  intro a b
  have hi:∀x y:Int,cI x y= -1∨cI x y=0∨cI x y=1:=by intro x y;unfold cI;grind
  have hc:∀x y:Str,cS x y= -1∨cS x y=0∨cS x y=1:=by intro x y;unfold cS;grind
  have h1:=hi a.Kind b.Kind
  have h2:=hi a.N b.N
  have h3:=hc a.S b.S
  unfold sCmp sOr
  grind
 have h1:=yoB a b
 constructor
 ·intro h
  rcases h1 with k|k|k
  ·omega
  ·subst k;rw[ylU.2 rfl] at h;omega
  ·exact k
 ·intro h
  rcases hs a b with k|k|k
  ·exact absurd (ylT h (by omega:sCmp a b<0)) (yo0 _)
  ·rw[ylU] at k;subst k;exact absurd h (yo0 _)
  ·omega
def mn (a b:V):V:=if sCmp b a<0 then b else a
def mx (a b:V):V:=if 0<sCmp b a then b else a
theorem yzb {a b c:V} (h:¬sCmp b a<0) (k:¬sCmp c b<0):¬sCmp c a<0:=by
 rcases yoB a b with q|q|q
 ·exact fun e=>k (ylT e q)
 ·subst q;exact k
 ·exact absurd q h
theorem yxK (a b c:V):mn (mn a b) c=mn a (mn b c):=by
 unfold mn
 by_cases h:sCmp b a<0<;>by_cases k:sCmp c b<0
 ·simp[h,k,ylT k h]
 ·simp[h,k]
 ·simp[h,k]
 ·simp[h,k,yzb h k]
theorem yxz (a b c:V):mx (mx a b) c=mx a (mx b c):=by
 unfold mx
 simp only[ypr]
 by_cases h:sCmp a b<0<;>by_cases k:sCmp b c<0
 ·simp[h,k,ylT h k]
 ·simp[h,k]
 ·simp[h,k]
 ·simp[h,k,yzb k h]
theorem yri {f:V→V→V} (hf:∀a b c,f (f a b) c=f a (f b c)):∀(l:List V) (a b:V),l.foldl f (f a b)=f a (l.foldl f b)
 | [],_,_=>rfl
 |c::l,a,b=>by simp only[List.foldl_cons];rw[hf,yri hf l]
def nz (l:List V):List V:=l.filter fun v=> !(v.Kind==0)
theorem yzg (a b:List V):nz (a++b)=nz a++nz b:=by simp[nz]
def sumN (l:List V):Int:=(l.map fun v=>if v.Kind=2 then v.N else 0).sum
theorem yxt (a b:List V):sumN (a++b)=sumN a+sumN b:=by simp[sumN,List.sum_append]
def oz:One:=⟨0,⟨0,0⟩,⟨0,0,[]⟩,⟨0,0,[]⟩⟩
def oneN:List V→One
 | []=>oz
 |v::r=>⟨((r.length+1:Nat):Int),wOf (sumN (v::r)),r.foldl mn v,r.foldl mx v⟩
def yf9 (l:List V):One:=oneN (nz l)
theorem ysR (l:List V):(oneN l).N=l.length:=by cases l<;>rfl
theorem yuV {a b:List V} (hl:a.length+b.length≤1000000):ych (oneN a) (oneN b) (oneN (a++b)):=by
 apply ynn
 unfold yfH
 cases a with
 |nil=>exact yai rfl rfl
 | cons u r=>
   refine yaf (by rw[ysR];simp;omega) ?_
   cases b with
   |nil=>rw[List.append_nil];exact yai rfl rfl
   | cons v s=>
     refine yaf (by rw[ysR];simp;omega) ?_
     have e:oneN ((u::r)++(v::s))=⟨IntKind.i64.wrap ((oneN (u::r)).N+(oneN (v::s)).N),wOf (sumN (u::r)+sumN (v::s)),mn (r.foldl mn u) (s.foldl mn v),mx (r.foldl mx u) (s.foldl mx v)⟩:=by
      rw[ysR,ysR,List.cons_append]
      simp only[oneN,yag.mk.injEq]
      simp only[List.length_cons] at hl
      refine ⟨?_,?_,?_,?_⟩
      ·rw[wrap64 (by simp;omega) (by simp;omega)]
       simp;omega
      ·rw[<-yxt];rfl
      ·rw[List.foldl_append,List.foldl_cons,yri yxK]
      ·rw[List.foldl_append,List.foldl_cons,yri yxz]
     rw[e]
     refine ⟨_,yCv _ _,_,ylK _ _,?_⟩
     refine yaA (fun h=>⟨_,ylK _ _,?_⟩) (fun h=>⟨_,ylK _ _,?_⟩)<;>refine yaA (fun k=> ?_) (fun k=> ?_)
     all_goals
      simp only[decide_eq_true_eq,decide_eq_false_iff_not] at h k
      simp only[yb9,mn,mx]
      first
       | have h':sCmp (s.foldl mn v) (r.foldl mn u)<0:=h
         rw[if_pos h']
       | have h':¬sCmp (s.foldl mn v) (r.foldl mn u)<0:=h
         rw[if_neg h']
      first
       | have k':0<sCmp (s.foldl mx v) (r.foldl mx u):=k
         rw[if_pos k']
         rfl
       | have k':¬0<sCmp (s.foldl mx v) (r.foldl mx u):=k
         rw[if_neg k']
         rfl
theorem yn0 {a b:List V} (hl:a.length+b.length≤1000000):ych (yf9 a) (yf9 b) (yf9 (a++b)):=by
 unfold yf9
 rw[yzg]
 refine yuV ?_
 have h1:(nz a).length<=a.length:=List.length_filter_le _ _
 have h2:(nz b).length<=b.length:=List.length_filter_le _ _
 omega
def ydj (l:List (V×V)):Part:=⟨(l.length:Int),[yf9 (l.map Prod.fst),yf9 (l.map Prod.snd)]⟩
theorem yzc {a b:List (V×V)} (hl:a.length+b.length≤1000000):ycI (ydj a) (ydj b) (ydj (a++b)):=by
 have h1:=yn0 (a:=a.map Prod.fst) (b:=b.map Prod.fst) (by simpa using hl)
 have h2:=yn0 (a:=a.map Prod.snd) (b:=b.map Prod.snd) (by simpa using hl)
 rw[<-List.map_append] at h1 h2
 intro _ _ X hX
 refine hX _ _ (yai (by simp[ydj]) ⟨by simp,by simp[ydj],_,rfl,by simp,by simp[ydj],_,rfl,_,h1,by simp,?_⟩)
 rw[wrap64 (n:=0+1) (by omega) (by omega)]
 refine hX _ _ (yai (by simp[ydj]) ⟨by simp,by simp[ydj],_,rfl,by simp,by simp[ydj],_,rfl,_,h2,by simp,?_⟩)
 rw[wrap64 (n:=0+1+1) (by omega) (by omega)]
 refine hX _ _ (yaf (by simp[ydj]) ?_)
 simp only[ydj,yae.mk.injEq]
 refine ⟨?_,rfl⟩
 rw[wrap64 (by omega) (by omega)]
 simp
theorem yzu:ydg 2 (ydj []):=⟨by decide,by decide,by decide,rfl⟩
theorem pOf2 {u v:V} (hu:Rg u.N) (hv:Rg v.N):ydC [u,v] (ydj [(u,v)]):=by
 have key:∀(X:Int→List One→Prop) (i:Int) (v:V) (l:List One),Rg v.N→l.length≤1000→X (IntKind.i64.wrap (i+1)) (l++ [yf9 [v]])→cnd (!(v.Kind==(0:Int))) (yeH X i v 1 0 0 v.Kind v.N v.S v.Kind v.N v.S l) (yeH X i v 0 0 0 0 0 [] 0 0 [] l):=by
  intro X i v l hv hl h
  refine yaA (fun k=>yaA (fun q=>⟨_,pWOf hv,by omega,?_⟩) (fun q=>⟨by omega,?_⟩)) (fun k=>yaA (fun q=> ?_) (fun q=>⟨by omega,?_⟩))
  ·have:yf9 [v]=⟨1,wOf v.N,v,v⟩:=by
    have k2:v.Kind=2:=by simpa using q
    simp[yf9,nz,k2,oneN,sumN]
   rw[this] at h
   exact h
  ·have:yf9 [v]=⟨1,⟨0,0⟩,v,v⟩:=by
    have k2:¬v.Kind=2:=by simpa using q
    have k0:¬v.Kind=0:=by simpa using k
    simp[yf9,nz,k2,k0,oneN,sumN]
    rfl
   rw[this] at h
   exact h
  ·have k2:v.Kind=2:=by simpa using q
   rw[k2] at k;cases k
  ·have:yf9 [v]=oz:=by
    have k0:v.Kind=0:=by simpa using k
    simp[yf9,nz,k0,oneN]
   rw[this] at h
   exact h
 apply yo3
 intro _ X hX
 refine hX _ _ (yai (by simp) ⟨by simp,by simp,u,rfl,key X _ u _ hu (by simp) ?_⟩)
 rw[wrap64 (n:=0+1) (by omega) (by omega)]
 refine hX _ _ (yai (by simp) ⟨by simp,by simp,v,rfl,key X _ v _ hv (by simp) ?_⟩)
 rw[wrap64 (n:=0+1+1) (by omega) (by omega)]
 exact hX _ _ (yaf (by simp) rfl)
end Go.Proofs.Ytecfpoklnfaihaa
end
noncomputable section
namespace Go.Proofs.Ytecfpoklnfaihaa
open Go.AV Go.RowKit
def ydB (v:yax):Prop:=(fun n:Int=>(Lit.int .u8 n).wf=true) v.Kind/\(fun n:Int=>(Lit.int .i64 n).wf=true) v.N/\(fun s:Str=>s.length<=maxLen) v.S
theorem yf0:yrb Try.prog 42 yjB.c ydB:=by
 intro us h
 have r:=h.fields Try.underlying42
 obtain ⟨v0,q0,rfl,h0,r⟩:=r.first (ylG Try.underlying5)
 obtain ⟨v1,q1,rfl,h1,r⟩:=r.first (ylG Try.underlying2)
 obtain ⟨v2,q2,rfl,h2,r⟩:=r.first (yxy Try.underlying9)
 obtain rfl:=r.last
 exact ⟨⟨v0,v1,v2⟩,rfl,h0,h1,h2⟩
def yeK (v:yau):Prop:=(fun n:Int=>(Lit.int .u8 n).wf=true) v.Group/\ydB v.A/\ydB v.B
theorem ykq:yrb Try.prog 44 yci.c yeK:=by
 intro us h
 have r:=h.fields Try.underlying44
 obtain ⟨v0,q0,rfl,h0,r⟩:=r.first (ylG Try.underlying5)
 obtain ⟨v1,q1,rfl,h1,r⟩:=r.first yf0
 obtain ⟨v2,q2,rfl,h2,r⟩:=r.first yf0
 obtain rfl:=r.last
 exact ⟨⟨v0,v1,v2⟩,rfl,h0,h1,h2⟩
def ypE:Prop:=∀(a0:(List yau)) (a1:(List Int)),(fun l:List yau=>l.length<=maxLen/\∀v∈l,yeK v) a0->(fun l:List Int=>l.length<=maxLen/\∀v∈l,(fun n:Int=>(Lit.int .u8 n).wf=true) v) a1->ybD a0 a1 true
set_option maxRecDepth 100000 in
theorem ynC {a0:(List yau)} {a1:(List Int)} (h:ybD a0 a1 true):Pure Try.prog 3 [slA yci a0,slA (eI .u8) a1] (.bl true):=by
 have e:Pure Try.prog ycO.f (ye6 CC ycO.ps [.d (.v 22 a0), .d (.v 23 a1)]) (ydJ (([.v 4 true]:List (DV KK)).map (dvA CC)))=Pure Try.prog 3 [slA yci a0,slA (eI .u8) a1] (.bl true):=by kernel_rfl
 have w:ycO.W [.d (.v 22 a0), .d (.v 23 a1)] [.v 4 true]=ybD a0 a1 true:=by kernel_rfl
 exact e.mp (yjX _ _ (fun F h=>by simp at h) (w.mpr h)).2
end Go.Proofs.Ytecfpoklnfaihaa
end
noncomputable section
namespace Go.Proofs.Ytecfpoklnfaihaa
open Go.AV Go.RowKit
abbrev It:=Int×List (V×V)
def kV (k:Int):V:=⟨2,k,[]⟩
def grp (x:It):Rw:=⟨[kV x.1],ydj x.2⟩
def ks:List Int:= [-3,-2,-1,0,1,2,3]
theorem yx5:ks.Nodup:=by decide
def ycy (k:Int) (l:List It):List (V×V):=(l.filter fun x=>x.1==k).flatMap Prod.snd
def MF (f:Int->List (V×V)):List It:=ks.filterMap fun k=>if f k= [] then none else some (k,f k)
theorem yCF (x y:It):gc (grp x) (grp y)=cI x.1 y.1:=by
 unfold gc grp
 simp only[yxf]
 have:sCmp (kV x.1) (kV y.1)=cI x.1 y.1:=by
  unfold sCmp kV sOr
  have h1:cI 2 2=0:=rfl
  have h2:cS [] []=0:=rfl
  simp only[h1,h2]
  grind
 rw[this,show rc [] []=0 from rfl]
 by_cases h:cI x.1 y.1=0<;>simp[h]
theorem yru (x y:It):ltg (grp x) (grp y)=decide (x.1<y.1):=by
 unfold ltg
 rw[yCF,decide_eq_decide]
 exact ymx.2.1
def cls (k:Int) (l:List It):List It:=l.filter fun x=>x.1==k
theorem ytZ {α:Type} {f:Int→List α} {k:Int}:∀ {L:List Int},L.Nodup→k∈L→(∀j,j≠k→f j= [])→L.flatMap f=f k
 | [],_,h,_=>by cases h
 | j ::L,hn,h,hf=>by
   rw[List.nodup_cons] at hn
   rw[List.flatMap_cons]
   rcases List.mem_cons.1 h with e|e
   ·subst e
    have:L.flatMap f= []:=by
     rw[List.flatMap_eq_nil_iff]
     exact fun x hx=>hf x fun e=>hn.1 (e▸hx)
    rw[this,List.append_nil]
   ·have:j≠k:=fun q=>hn.1 (q▸e)
    rw[hf j this,List.nil_append]
    exact ytZ hn.2 e hf
theorem yt4 {L:List Int} (hn:L.Nodup) {l:List It} (hk:∀x∈l,x.1∈L) (q:Int→Bool) (hq:∀a b,q a=true→q b=true→a=b):(L.flatMap fun k=>cls k l).filter (fun x=>q x.1)=l.filter fun x=>q x.1:=by
 by_cases h:∃k∈L,q k=true
 ·obtain ⟨k,hkL,hqk⟩:=h
  have e:(l.filter fun x=>q x.1)=cls k l:=by
   refine List.filter_congr fun x hx=> ?_
   by_cases e:x.1=k
   ·rw[e,hqk];simp
   ·have:q x.1=false:=by
     cases h:q x.1 with
     |false=>rfl
     |true=>exact absurd (hq _ _ h hqk) e
    rw[this];simp[e]
  rw[e,List.filter_flatMap]
  have:∀j,((cls j l).filter fun x=>q x.1)=if j=k then cls k l else []:=by
   intro j
   by_cases e:j=k
   ·subst e
    rw[if_pos rfl,List.filter_eq_self]
    intro x hx
    have:=(List.mem_filter.1 hx).2
    rw[beq_iff_eq] at this
    rw[this];exact hqk
   ·rw[if_neg e,List.filter_eq_nil_iff]
    intro x hx h
    have:=(List.mem_filter.1 hx).2
    rw[beq_iff_eq] at this
    exact e (hq _ _ (this▸h) hqk)
  simp only[this]
  rw[ytZ hn hkL (fun j hj=>if_neg hj),if_pos rfl]
 ·have h':∀k∈L,q k=false:=fun k hk=>by
   cases e:q k with
   |false=>rfl
   |true=>exact absurd ⟨k,hk,e⟩ h
  rw[show l.filter (fun x=>q x.1)= [] from List.filter_eq_nil_iff.2 fun x hx e=>by rw[h' _ (hk x hx)] at e;cases e]
  rw[List.filter_eq_nil_iff]
  intro x hx e
  obtain ⟨k,hkL,hx⟩:=List.mem_flatMap.1 hx
  have:=(List.mem_filter.1 hx).2
  rw[beq_iff_eq] at this
  rw[this,h' k hkL] at e;cases e
theorem yCS {L:List Int} (hL:L.Pairwise (· < ·)) (l:List It):(L.flatMap fun k=>cls k l).Pairwise fun a b=>¬b.1<a.1:=by
 induction L with
 |nil=>exact List.Pairwise.nil
 | cons k L ih=>
   rw[List.pairwise_cons] at hL
   rw[List.flatMap_cons,List.pairwise_append]
   have hk:∀j,∀x∈cls j l,x.1=j:=fun j x hx=>by simpa using (List.mem_filter.1 hx).2
   refine ⟨?_,ih hL.2,?_⟩
   ·refine List.Pairwise.imp_of_mem (R:=fun _ _=>True) (fun {a b} ha hb _=> ?_) (List.pairwise_of_forall (fun _ _=>trivial))
    rw[hk k a ha,hk k b hb];omega
   ·intro a ha b hb
    obtain ⟨j,hj,hb⟩:=List.mem_flatMap.1 hb
    rw[hk k a ha,hk j b hb]
    have:=hL.1 j hj
    omega
def Kin (l:List It):Prop:=∀x∈l,x.1∈ks
theorem ywC {l:List It} (hk:Kin l):srt ltg [] (l.map grp)=(ks.flatMap fun k=>cls k l).map grp:=by
 refine yn1 ydH ?_ ?_
 ·unfold Sd
  rw[List.pairwise_map]
  refine (yCS (by decide) l).imp fun {a b} h=> ?_
  rw[yru];simpa using h
 ·intro G
  rw[List.filter_map,List.filter_map]
  congr 1
  have:(eqv ltg G∘grp)=fun x=>(fun k=>eqv ltg G (grp (k,[]))) x.1:=by
   funext x
   show eqv ltg G (grp x)=eqv ltg G (grp (x.1,[]))
   rfl
  rw[this]
  refine yt4 yx5 hk (fun k=>eqv ltg G (grp (k,[]))) fun a b ha hb=> ?_
  rcases Int.lt_trichotomy a b with h|h|h
  ·exact (yn9 ydH (by rw[yru];simpa using h:ltg (grp (a,[])) (grp (b,[]))=true) ha hb).elim
  ·exact h
  ·exact (yn9 ydH (by rw[yru];simpa using h:ltg (grp (b,[])) (grp (a,[]))=true) hb ha).elim
def mg (out:List It) (x:It):List It:=match out.getLast? with
 |some y=>if y.1=x.1 then out.dropLast++ [(x.1,y.2++x.2)] else out++ [x]
 |none=> [x]
theorem yl1 (o:List It) (y x:It):mg (o++ [y]) x=if y.1=x.1 then o++ [(x.1,y.2++x.2)] else o++ [y]++ [x]:=by simp[mg]
theorem yCB {o:List It} {x:It} (h:∀y∈o,y.1≠x.1):mg o x=o++ [x]:=by
 rcases yfp o with rfl|⟨o',y,rfl⟩
 ·rfl
 ·rw[yl1,if_neg (h y (by simp))]
theorem ywT (o:List It) (k:Int):∀(c:List It) (r:List (V×V)),(∀x∈c,x.1=k)→c.foldl mg (o++ [(k,r)])=o++ [(k,r++c.flatMap Prod.snd)]
 | [],r,_=>by simp
 | x::c,r,h=>by
   have hx:=h x (by simp)
   rw[List.foldl_cons,yl1,if_pos hx.symm,hx,ywT o k c _ fun y hy=>h y (by simp[hy])]
   simp
theorem yDc {o:List It} {k:Int} (ho:∀y∈o,y.1≠k) {c:List It} (h:∀x∈c,x.1=k):c.foldl mg o=o++(if c= [] then [] else [(k,c.flatMap Prod.snd)]):=by
 cases c with
 |nil=>simp
 | cons x c=>
   have hx:=h x (by simp)
   rw[List.foldl_cons,yCB (fun y hy=>by rw[hx];exact ho y hy),show x=(k,x.2) from by rw[<-hx],ywT o k c _ fun y hy=>h y (by simp[hy]),if_neg (by simp)]
   simp
theorem yyA {l:List It}:∀ {L:List Int},L.Nodup→∀o:List It,(∀y∈o,y.1∉L)→(L.flatMap fun k=>cls k l).foldl mg o=o++L.filterMap fun k=>if cls k l= [] then none else some (k,ycy k l)
 | [],_,o,_=>by simp
 | k ::L,hn,o,ho=>by
   rw[List.nodup_cons] at hn
   have hk:∀x∈cls k l,x.1=k:=fun x hx=>by simpa using (List.mem_filter.1 hx).2
   rw[List.flatMap_cons,List.foldl_append,yDc (fun y hy e=>ho y hy (by simp[e])) hk,yyA hn.2,List.append_assoc]
   ·congr 1
    by_cases h:cls k l= []
    ·rw[List.filterMap_cons_none (by simp[h])];simp[h]
    ·rw[List.filterMap_cons_some (by rw[if_neg h])];simp[h];rfl
   ·intro y hy
    rw[List.mem_append] at hy
    rcases hy with hy|hy
    ·exact fun e=>ho y hy (by simp[e])
    ·by_cases h:cls k l= []
     ·simp[h] at hy
     ·simp[h] at hy
      subst hy
      exact hn.1
def Ne (l:List It):Prop:=∀x∈l,x.2≠ []
theorem ytG {l:List It} (h:Ne l) (k:Int):cls k l= []↔ycy k l= []:=by
 constructor
 ·intro e;unfold ycy;unfold cls at e;rw[e];rfl
 ·intro e
  unfold ycy at e
  rw[List.flatMap_eq_nil_iff] at e
  rw[List.eq_nil_iff_forall_not_mem]
  intro x hx
  exact h x (List.mem_filter.1 hx).1 (e x hx)
theorem yB1 {l:List It} (h:Ne l):(ks.flatMap fun k=>cls k l).foldl mg []=MF fun k=>ycy k l:=by
 rw[yyA yx5 [] (by simp),List.nil_append]
 unfold MF
 congr 1
 funext k
 by_cases e:ycy k l= []
 ·rw[if_pos e,if_pos ((ytG h k).2 e)]
 ·rw[if_neg e,if_neg (fun q=>e ((ytG h k).1 q))]
theorem yC4 (o:List It) (x:It):(mg o x).length≤o.length+1:=by
 rcases yfp o with rfl|⟨o',y,rfl⟩
 ·simp[mg]
 ·rw[yl1];split<;>simp
theorem yrQ:∀(l o:List It),(l.foldl mg o).length≤o.length+l.length
 | [],o=>by simp
 | x::l,o=>by
   have h1:=yrQ l (mg o x)
   have h2:=yC4 o x
   rw[List.foldl_cons,List.length_cons];omega
theorem yBs {l:List It} (hk:Kin l) (h:Ne l):(MF fun k=>ycy k l).length≤l.length:=by
 rw[<-yB1 h]
 have h1:=yrQ (ks.flatMap fun k=>cls k l) []
 have h2:(ks.flatMap fun k=>cls k l).length=l.length:=by
  have:=congrArg List.length (ywC hk)
  rw[yed] at this
  simpa using this.symm
 simpa [h2] using h1
theorem yyS (f:Int→List (V×V)):Kin (MF f):=by
 intro x hx
 obtain ⟨k,hk,e⟩:=List.mem_filterMap.1 hx
 split at e
 ·cases e
 ·cases e;exact hk
theorem yCb (f:Int→List (V×V)):Ne (MF f):=by
 intro x hx
 obtain ⟨k,hk,e⟩:=List.mem_filterMap.1 hx
 split at e
 ·cases e
 ·rename_i h
  cases e;exact h
theorem ygJ (k:Int) (a b:List It):ycy k (a++b)=ycy k a++ycy k b:=by simp[ycy]
theorem ypV (f:Int→List (V×V)) (k:Int):∀ {L:List Int},L.Nodup→ycy k (L.filterMap fun k=>if f k= [] then none else some (k,f k))=if k∈L then f k else []
 | [],_=>rfl
 | j ::L,hn=>by
   rw[List.nodup_cons] at hn
   have ih:=ypV f k hn.2
   by_cases h:f j= []
   ·rw[List.filterMap_cons_none (by simp[h]),ih]
    by_cases e:k=j
    ·subst e;simp[hn.1,h]
    ·simp[e]
   ·rw[List.filterMap_cons_some (by rw[if_neg h])]
    rw[show∀(x:It) l,x::l= [x]++l from fun _ _=>rfl,ygJ,ih]
    by_cases e:k=j
    ·subst e;simp[hn.1,ycy]
    ·have:¬j=k:=fun q=>e q.symm
     simp[e,ycy,this]
theorem yw1 {f:Int→List (V×V)} {k:Int} (hf:k∉ks→f k= []):ycy k (MF f)=f k:=by
 unfold MF
 rw[ypV f k yx5]
 split
 ·rfl
 ·rename_i h;exact (hf h).symm
theorem yuq {l:List It} (hk:Kin l) {k:Int} (h:k∉ks):ycy k l= []:=by
 unfold ycy
 rw[List.flatMap_eq_nil_iff]
 intro x hx
 obtain ⟨h1,h2⟩:=List.mem_filter.1 hx
 rw[beq_iff_eq] at h2
 exact absurd (h2▸hk x h1) h
end Go.Proofs.Ytecfpoklnfaihaa
end
noncomputable section
namespace Go.Proofs.Ytecfpoklnfaihaa
open Go.AV Go.RowKit
theorem yBo {α:Type} {a:List (List α)} {i:Nat} (h:i<a.length):(a.take (i+1)).flatten.length=(a.take i).flatten.length+a[i].length:=by
 rw[List.take_succ_eq_append_getElem h,List.flatten_append,List.length_append];congr 1;simp
theorem yu9 {α:Type} (a:List (List α)) (i:Nat):(a.take i).flatten.length≤a.flatten.length:=by
 conv=>rhs;rw[<-List.take_append_drop i a]
 rw[List.flatten_append,List.length_append];omega
theorem yAh {α:Type} {a:List (List α)} {x:List α} (h:x∈a):x.length≤a.flatten.length:=by
 obtain ⟨p,q,rfl⟩:=List.append_of_mem h
 simp;omega
theorem yDN {n:Int} (h0:0≤n) (h1:n≤1000):ybd n []:=by
 have e:IntKind.i64.wrap (n-IntKind.i64.wrap (0-0))=n:=by
  rw[wrap64 (n:=0-0) (by omega) (by omega),wrap64 (by omega) (by omega)];omega
 unfold ybd
 rw[e]
 refine yaf (by simpa using h0) (yaA (fun h=> ?_) (fun h=>rfl))
 have h:0<n:=by simpa using h
 refine ⟨by decide,h,by omega,by omega,by simp;omega,by simp⟩
theorem yzW {a:List (List Rw)} (ha:a.length≤1000) (h:a.flatten.length≤1000):yaQ a a.flatten:=by
 apply ygK
 unfold yco
 intro _
 refine lp2 (fun (s i:Int)=>∃k:Nat,i=k/\k<=a.length/\s=((a.take k).flatten.length:Nat)) (fun (_ i:Int)=>((a.length:Int)-i).toNat) ?_ ⟨0,rfl,by omega,by simp⟩
 rintro X s i ⟨k,rfl,hk,rfl⟩ hX
 have ht:=yu9 a k
 refine yaA (fun hc=> ?_) (fun hc=> ?_)
 ·have hk':k<a.length:=by simpa using hc
  have h2:=yBo hk'
  have h3:=yu9 a (k+1)
  refine ⟨by omega,by omega,_,gAt hk',fun _=> ?_⟩
  rw[wrap64 (by omega) (by omega)]
  refine yaf (by simp;omega) ?_
  rw[w1 (by omega)]
  exact hX _ _ ⟨k+1,rfl,by omega,by rw[h2];omega⟩ (by omega)
 ·have hk':¬k<a.length:=by simpa using hc
  rw[List.take_of_length_le (by omega)]
  refine ⟨[],yDN (by omega) (by omega),fun _=> ?_⟩
  refine lp2 (fun (i:Int) (o:List Rw)=>∃k:Nat,i=k/\k<=a.length/\o=(a.take k).flatten) (fun (i:Int) _=>((a.length:Int)-i).toNat) ?_ ⟨0,rfl,by omega,by simp⟩
  rintro Y i o ⟨j,rfl,hj,rfl⟩ hY
  have hj1:=yu9 a j
  refine yaA (fun hc=> ?_) (fun hc=> ?_)
  ·have hj':j<a.length:=by simpa using hc
   have h2:=yAh (List.getElem_mem hj')
   refine ⟨by omega,by omega,_,gAt hj',by omega,by omega,?_⟩
   rw[w1 (by omega)]
   refine hY _ _ ⟨j+1,rfl,by omega,?_⟩ (by omega)
   rw[List.take_succ_eq_append_getElem hj',List.flatten_append];congr 1;simp
  ·have hj':¬j<a.length:=by simpa using hc
   rw[List.take_of_length_le (by omega)]
theorem yzP {x y:It}:yem (grp x) (grp y) (gc (grp x) (grp y)):=⟨_,yjg (by simp[grp]),rfl⟩
theorem ysX:∀(l o:List It),(∀y∈l.foldl mg o,(y.2).length≤((o.flatMap Prod.snd)++l.flatMap Prod.snd).length)
 | [],o=>fun y hy=>by
   rw[List.foldl_nil] at hy
   obtain ⟨p,q,rfl⟩:=List.append_of_mem hy
   simp;omega
 | x::l,o=>fun y hy=>by
   have h1:=ysX l (mg o x) y hy
   refine Nat.le_trans h1 ?_
   rcases yfp o with rfl|⟨o',z,rfl⟩
   ·simp[mg]
   ·rw[yl1];split<;>simp<;>omega
theorem yDZ {s:List It} (hs:s.length≤1000) (hr:(s.flatMap Prod.snd).length≤1000):∀X1:List Rw→Int→List Rw→Prop,(∀x3 x4 x5,yfn ((s.foldl mg []).map grp) (s.map grp) X1 x3 x4 x5→X1 x3 x4 x5)→X1 (s.map grp) (0:Int) ([]:List Rw):=by
 refine lp3 (fun (a:List Rw) (i:Int) (o:List Rw)=>a=s.map grp/\∃k:Nat,i=k/\k<=s.length/\o=((s.take k).foldl mg []).map grp) (fun _ (i:Int) _=>((s.length:Int)-i).toNat) ?_ ⟨rfl,0,rfl,by omega,by simp⟩
 rintro X a i o ⟨rfl,k,rfl,hk,rfl⟩ hX
 refine yaA (fun hc=> ?_) (fun hc=> ?_)
 rotate_left
 ·have hk':¬k<s.length:=by simpa using hc
  rw[List.take_of_length_le (by omega)]
 have hk':k<s.length:=by simpa using hc
 have hlen:=yrQ (s.take k) []
 rw[List.length_nil,List.length_take] at hlen
 have hrow:=ysX (s.take k) []
 have hrs:((s.take k).flatMap Prod.snd).length+s[k].2.length≤1000:=by
  have e:s.flatMap Prod.snd=(s.take k).flatMap Prod.snd++(s[k].2++(s.drop (k+1)).flatMap Prod.snd):=by
   conv=>lhs;rw[<-List.take_append_drop k s,List.drop_eq_getElem_cons hk']
   rw[List.flatMap_append,List.flatMap_cons]
  rw[e] at hr
  simp only[List.length_append] at hr
  omega
 have hnext:(s.take (k+1)).foldl mg []=mg ((s.take k).foldl mg []) s[k]:=by
  rw[List.take_succ_eq_append_getElem hk',List.foldl_append];rfl
 have key:X (s.map grp) (IntKind.i64.wrap ((k:Int)+1)) ((mg ((s.take k).foldl mg []) s[k]).map grp):=by
  rw[w1 (by omega)]
  exact hX _ _ _ ⟨rfl,k+1,rfl,by omega,by rw[hnext]⟩ (by omega)
 generalize (s.take k).foldl mg []=o at*
 refine ⟨by omega,by simpa using hk',grp s[k],by rw[Int.toNat_natCast];simp[hk'],?_⟩
 rcases yfp o with rfl|⟨o',z,rfl⟩
 ·refine yaf (by decide) (yaf rfl ⟨by simp,?_⟩)
  exact key
 have e1:IntKind.i64.wrap ((((o'++ [z]).map grp).length:Int)-1)=(o'.length:Int):=by
  simp only[List.length_map,List.length_append,List.length_cons,List.length_nil] at*
  rw[wrap64 (by omega) (by omega)];omega
 rw[e1]
 have hz:=hrow z (by simp)
 have e2:((o'++ [z]).map grp)[((o'.length:Nat):Int).toNat]? =some (grp z):=by rw[Int.toNat_natCast];simp
 refine yai (by simp) ⟨by omega,by simp;omega,grp z,e2,_,yjg (by simp[grp]),?_⟩
 have hzk:(rc (grp z).Row (grp s[k]).Row==0)=decide (z.1=s[k].1):=by
  rw[Bool.eq_iff_iff,beq_iff_eq,decide_eq_true_eq,rc_0]
  simp[grp,kV]
 rw[hzk]
 rw[yl1] at key
 refine yaA (fun h=> ?_) (fun h=> ?_)
 ·have h:z.1=s[k].1:=by simpa using h
  rw[if_pos h] at key
  rw[e1]
  refine ⟨by omega,by simp;omega,grp z,e2,_,yzc (a:=z.2) (b:=s[k].2) (by rw[List.flatMap_nil,List.nil_append] at hz;omega),by omega,by simp;omega,grp z,e2,?_⟩
  have e3:((o'++ [z]).map grp).set ((o'.length:Nat):Int).toNat ⟨(grp z).Row,ydj (z.2++s[k].2)⟩=(o'++ [(s[k].1,z.2++s[k].2)]).map grp:=by
   rw[Int.toNat_natCast]
   simp[grp,h]
  rw[e3]
  exact key
 ·have h:¬z.1=s[k].1:=by simpa using h
  rw[if_neg h] at key
  refine ⟨by simp at*;omega,?_⟩
  rw[List.map_append (l₂:= [s[k]])] at key
  exact key
theorem ys2:∀ {L:List Int},L.Nodup→∀ {l:List It},(∀x∈l,x.1∈L)→(L.flatMap fun k=>cls k l).Perm l
 | [],_,l,h=>by
   have:l= []:=List.eq_nil_iff_forall_not_mem.2 fun x hx=>by have:=h x hx;simp at this
   rw[this];exact List.Perm.refl _
 | k::L,hn,l,h=>by
   rw[List.nodup_cons] at hn
   rw[List.flatMap_cons]
   have ih:=ys2 hn.2 (l:=l.filter fun x=> !(x.1==k)) fun x hx=>by
    obtain ⟨h1,h2⟩:=List.mem_filter.1 hx
    rcases List.mem_cons.1 (h x h1) with e|e
    ·simp[e] at h2
    ·exact e
   have e:(L.flatMap fun j=>cls j (l.filter fun x=> !(x.1==k)))=L.flatMap fun j=>cls j l:=by
    rw[List.flatMap_def,List.flatMap_def]
    congr 1
    refine List.map_congr_left fun j hj=> ?_
    have hjk:j≠k:=fun q=>hn.1 (q▸hj)
    unfold cls
    rw[List.filter_filter]
    refine List.filter_congr fun x _=> ?_
    by_cases q:x.1=j
    ·rw[q];simp[hjk]
    ·simp[q]
   rw[e] at ih
   exact (List.Perm.append_left _ ih).trans (List.filter_append_perm _ l)
theorem yyP {a:List (List It)} (ha:a.length≤39) (h:a.flatten.length≤39) (hr:(a.flatten.flatMap Prod.snd).length≤1000) (hk:Kin a.flatten) (hn:Ne a.flatten):ybW (a.map (List.map grp)) ((MF fun k=>ycy k a.flatten).map grp):=by
 apply ysk
 have ef:(a.map (List.map grp)).flatten=a.flatten.map grp:=by rw[List.map_flatten]
 refine ⟨_,yzW (by simp;omega) (by rw[ef,List.length_map];omega),srt ltg [] (a.flatten.map grp),⟨_,?_,?_,rfl⟩,?_,?_⟩
 ·rw[ef]
  refine yBa (Q:=fun x=>∃y,x=grp y) ?_ (by rw[List.length_map];omega) ?_
  ·rintro _ _ ⟨x,rfl⟩ ⟨y,rfl⟩
   exact yzP
  ·intro y hy
   obtain ⟨x,_,rfl⟩:=List.mem_map.1 hy
   exact ⟨x,rfl⟩
 ·rw[ef,yed]
 ·rw[ef,yed]
 ·rw[ywC hk,← yB1 hn]
  have e1:=ys2 yx5 hk
  refine yDZ ?_ ?_
  ·rw[e1.length_eq];omega
  ·rw[(e1.flatMap_right Prod.snd).length_eq];omega
end Go.Proofs.Ytecfpoklnfaihaa
end
noncomputable section
namespace Go.Proofs.Ytecfpoklnfaihaa
open Go.AV Go.RowKit
def Rep (n:Nat) (z:Int):Prop:=(n:Int) % 340282366920938463463374607431768211456=z % 340282366920938463463374607431768211456
theorem Rep.add {a b:Nat} {x y:Int} (h1:Rep a x) (h2:Rep b y):Rep (a+b) (x+y):=by unfold Rep at*;omega
theorem yyo (n:Nat):allB n=true↔n/2^64 % 2^64=if n.testBit 63 then 2^64-1 else 0:=by
 have tH:∀j,j<64→n.testBit (64+j)=(n/2^64 % 2^64).testBit j:=by
  intro j hj;rw[Nat.testBit_mod_two_pow,Nat.testBit_div_two_pow];simp[hj];rw[Nat.add_comm]
 have hlt:n/2^64 % 2^64<2^64:=Nat.mod_lt _ (Nat.two_pow_pos 64)
 unfold allB
 rw[List.all_eq_true]
 generalize n.testBit 63=b at*
 generalize n/2^64 % 2^64=U at*
 constructor
 ·intro h
  refine Nat.eq_of_testBit_eq fun j=> ?_
  by_cases hj:j<64
  ·have h1:=h j (List.mem_range.2 hj)
   rw[tH j hj] at h1
   have h2:U.testBit j=b:=by simpa using h1
   rw[h2]
   cases b
   ·simp
   ·rw[if_pos rfl,Nat.testBit_two_pow_sub_one];simp[hj]
  ·have h1:U.testBit j=false:=Nat.testBit_lt_two_pow (Nat.lt_of_lt_of_le hlt (Nat.pow_le_pow_right (by omega) (by omega)))
   rw[h1]
   cases b
   ·simp
   ·rw[if_pos rfl,Nat.testBit_two_pow_sub_one];simp[hj]
 ·intro h j hj
  rw[tH j (List.mem_range.1 hj),h]
  have:=List.mem_range.1 hj
  cases b
  ·simp
  ·rw[if_pos rfl,Nat.testBit_two_pow_sub_one];simp[this]
def fits (z:Int):Bool:=IntKind.i64.wrap (IntKind.i64.wrap z/18446744073709551616)==IntKind.i64.wrap (z/18446744073709551616)
theorem yxm (z:Int):fits z=true↔IntKind.i64.wrap (IntKind.i64.wrap z/18446744073709551616)=IntKind.i64.wrap (z/18446744073709551616):=by
 unfold fits
 rw[beq_iff_eq]
def sm (f:V->Nat) (l:List V):Nat:=(l.map fun v=>if v.Kind=2 then f v else 0).sum
theorem yBh (f:V->Nat) (a b:List V):sm f (a++b)=sm f a+sm f b:=by simp[sm,List.sum_append]
theorem sm_1 (f:V->Nat) (v:V):sm f [v]=if v.Kind=2 then f v else 0:=by simp[sm]
theorem Rep.allB {n:Nat} {z:Int} (h:Rep n z):allB n=fits z∧RowKit.wrap64 ((n % 18446744073709551616:Nat):Int)=IntKind.i64.wrap z:=by
 have hb:n.testBit 63=decide (n/2^63 % 2=1):=Nat.testBit_eq_decide_div_mod_eq
 unfold Rep at h
 constructor
 ·rw[Bool.eq_iff_iff,yyo,yxm,hb]
  simp only[ydy]
  by_cases hc:n/2^63 % 2=1
  ·simp only[hc,decide_true,if_true]
   constructor
   ·intro h1;split<;>split<;>split<;>omega
   ·intro h1;split at h1<;>split at h1<;>split at h1<;>omega
  ·simp only[hc,decide_false,Bool.false_eq_true,if_false]
   constructor
   ·intro h1;split<;>split<;>split<;>omega
   ·intro h1;split at h1<;>split at h1<;>split at h1<;>omega
 ·rw[ydy];unfold RowKit.wrap64;split<;>omega
theorem yDg (z:Int):ycV (wOf z) (if fits z then IntKind.i64.wrap z else 0) (fits z):=by
 have e:IntKind.i64.wrap (wOf z).Lo=IntKind.i64.wrap z:=by
  simp only[wOf,ydy];split<;>split<;>omega
 unfold ycV
 rw[e]
 refine ⟨_,pWOf (yvB z),?_⟩
 have e2:(((wOf (IntKind.i64.wrap z)).Hi==(wOf z).Hi)&&(((wOf (IntKind.i64.wrap z)).Lo==(wOf z).Lo)&&true))=fits z:=by
  have:(wOf (IntKind.i64.wrap z)).Lo=(wOf z).Lo:=by
   simp only[wOf,ydy];split<;>omega
  rw[this,beq_self_eq_true,Bool.and_true,Bool.and_true]
  rfl
 rw[e2]
 cases h:fits z
 ·exact yai rfl ⟨by simp,rfl⟩
 ·exact yaf rfl ⟨by simp,rfl⟩
theorem yDG {n:Nat} {z:Int} (h:Rep n z):yft (wN n) (if fits z then IntKind.i64.wrap z else 0) (fits z):=by
 obtain ⟨h1,h2⟩:=h.allB
 exact ⟨n,rfl,by rw[h1,h2],h1.symm⟩
theorem rep1 {n:Int} (h:Rg n) (s:Int) (hs:s=if n<0 then-1 else 0):∃m,yeG s (IntKind.u64.wrap n) (wN m)∧Rep m n:=by
 obtain ⟨h1,h2⟩:=h
 refine ⟨_,⟨?_,?_,rfl⟩,?_⟩
 ·rw[ydQ];omega
 ·rw[ydQ];omega
 ·subst hs
  unfold Rep
  rw[ydQ]
  split<;>omega
theorem bz_0:ywg=wN 0:=by
 have:(fun j=>Nat.testBit 0 j)=fun _=>false:=by funext j;simp
 unfold wN
 rw[this]
 rfl
theorem yDE {l:List V} (hl:l.length≤100000) (hg:∀v∈l,good v):∃n,ydL (l.map v6) (wN n)∧Rep n (sumN l):=by
 obtain ⟨f,hf⟩:∃f:V→Nat,∀v∈l,v.Kind=2→yeG (if v.N<0 then-1 else 0) (IntKind.u64.wrap v.N) (wN (f v))∧Rep (f v) v.N:=by
  have h:∀v:V,∃n,v∈l→yeG (if v.N<0 then-1 else 0) (IntKind.u64.wrap v.N) (wN n)∧Rep n v.N:=by
   intro v
   by_cases hv:v∈l
   ·obtain ⟨m,h1,h2⟩:=rep1 (yun (hg v hv)) _ rfl
    exact ⟨m,fun _=>⟨h1,h2⟩⟩
   ·exact ⟨0,fun h=>absurd h hv⟩
  exact ⟨fun v=>(h v).choose,fun v hv _=>(h v).choose_spec hv⟩
 have hrep:Rep (sm f l) (sumN l):=by
  clear hl hg
  suffices H:∀m:List V,(∀v∈m,v∈l)->Rep (sm f m) (sumN m) from H l fun _ h=>h
  intro m
  induction m with
  |nil=>intro _;rfl
  | cons v m ih=>
    intro hm
    have e1:sm f (v::m)=(if v.Kind=2 then f v else 0)+sm f m:=by simp[sm]
    have e2:sumN (v::m)=(if v.Kind=2 then v.N else 0)+sumN m:=by simp[sumN]
    rw[e1,e2]
    refine Rep.add ?_ (ih fun x hx=>hm x (by simp[hx]))
    split
    ·rename_i h;exact (hf v (hm v (by simp)) h).2
    ·rfl
 refine ⟨sm f l,?_,hrep⟩
 apply yrT
 unfold yhw
 refine lp3 (fun (i:Int) (a b:B128)=>∃k:Nat,i=k/\k<=l.length/\b=wN (sm f (l.take k))) (fun (i:Int) _ _=>((l.length:Int)-i).toNat) ?_ ⟨0,rfl,by omega,?_⟩
 rotate_left
 ·exact bz_0
 rintro X i a b ⟨k,rfl,hk,rfl⟩ hX
 intro _
 refine yaA (fun hc=> ?_) (fun hc=> ?_)
 rotate_left
 ·have hk':¬k<l.length:=by simpa using hc
  rw[List.take_of_length_le (by omega)]
 have hk':k<l.length:=by simpa using hc
 have hget:(l.map v6)[((k:Nat):Int).toNat]? =some (v6 l[k]):=by rw[Int.toNat_natCast];simp[hk']
 have hnext:sm f (l.take (k+1))=sm f (l.take k)+if l[k].Kind=2 then f l[k] else 0:=by
  rw[List.take_succ_eq_append_getElem hk',yBh,sm_1]
 refine ⟨by omega,by simpa using hk',v6 l[k],hget,?_⟩
 rw[w1 (by omega)]
 refine yaA (fun h=> ?_) (fun h=> ?_)
 ·have h:l[k].Kind=2:=by simpa [v6] using h
  rw[if_pos h] at hnext
  refine ⟨by omega,by simpa using hk',v6 l[k],hget,?_⟩
  have hq:=(hf _ (List.getElem_mem hk') h).1
  refine yaA (fun q=> ?_) (fun q=> ?_)
  ·have q:l[k].N<0:=of_decide_eq_true q
   rw[if_pos q] at hq
   refine ⟨by omega,by simpa using hk',v6 l[k],hget,_,hq,_,⟨_,_,rfl,rfl,rfl⟩,?_⟩
   rw[w1 (by omega)]
   exact hX _ _ _ ⟨k+1,rfl,by omega,by rw[hnext]⟩ (by omega)
  ·have q:¬l[k].N<0:=of_decide_eq_false q
   rw[if_neg q] at hq
   refine ⟨by omega,by simpa using hk',v6 l[k],hget,_,hq,_,⟨_,_,rfl,rfl,rfl⟩,?_⟩
   rw[w1 (by omega)]
   exact hX _ _ _ ⟨k+1,rfl,by omega,by rw[hnext]⟩ (by omega)
 ·have h:¬l[k].Kind=2:=by simpa [v6] using h
  rw[if_neg h] at hnext
  exact hX _ _ _ ⟨k+1,rfl,by omega,by rw[hnext];rfl⟩ (by omega)
end Go.Proofs.Ytecfpoklnfaihaa
end
noncomputable section
namespace Go.Proofs.Ytecfpoklnfaihaa
open Go.AV Go.RowKit
def cl (i:Int) (p:V×V):V:=if i=0 then p.1 else p.2
def rf (k:Int) (p:V×V):yac:=⟨[v6 (kV k)],[v6 p.1,v6 p.2]⟩
def fo (f:V→V→V):List V→V
 | []=>D0
 |v::r=>r.foldl f v
def sFin (op:Int) (c:List V):V×Int:=
 if op=1 then (⟨2,((nz c).length:Int),[]⟩,0)
 else if op=3 then (fo mn (nz c),0)
 else if op=4 then (fo mx (nz c),0)
 else if nz c= [] then (D0,0)
 else if fits (sumN (nz c)) then (⟨2,IntKind.i64.wrap (sumN (nz c)),[]⟩,0) else (D0,8)
theorem ytN (c:List V):(yf9 c).N=(nz c).length∧(yf9 c).Min=fo mn (nz c)∧(yf9 c).Max=fo mx (nz c)∧(nz c≠ []→(yf9 c).Sum=wOf (sumN (nz c))):=by
 unfold yf9
 cases nz c with
 |nil=>exact ⟨rfl,rfl,rfl,fun h=>absurd rfl h⟩
 |cons v r=>exact ⟨rfl,rfl,rfl,fun _=>rfl⟩
theorem yAG (rs:List (V×V)) {i:Int} (hi:i=0∨i=1):(ydj rs).L[i.toNat]? =some (yf9 (rs.map (cl i))):=by
 rcases hi with rfl|rfl<;>rfl
theorem yDx (rs:List (V×V)) {op i:Int} (ho:1≤op∧op≤4) (hi:i=0∨i=1):yaP (ydj rs) op i (sFin op (rs.map (cl i))).1 (sFin op (rs.map (cl i))).2:=by
 have hg:=yAG rs hi
 obtain ⟨e1,e2,e3,e4⟩:=ytN (rs.map (cl i))
 generalize yf9 (rs.map (cl i))=y at*
 generalize rs.map (cl i)=c at*
 unfold yaP sFin
 refine yaf (by simp;omega) ⟨by omega,by simp[ydj];omega,y,hg,?_⟩
 refine yaA (fun h=> ?_) (fun h=> ?_)
 ·have h:op=1:=by simpa using h
  rw[if_pos h]
  exact ⟨_,ypN _,by rw[e1],rfl⟩
 have h1:¬op=1:=by simpa using h
 rw[if_neg h1]
 refine yaA (fun h=> ?_) (fun h=> ?_)
 ·have h:op=3:=by simpa using h
  rw[if_pos h]
  exact ⟨e2,rfl⟩
 have h3:¬op=3:=by simpa using h
 rw[if_neg h3]
 refine yaA (fun h=> ?_) (fun h=> ?_)
 ·have h:op=4:=by simpa using h
  rw[if_pos h]
  exact ⟨e3,rfl⟩
 have h4:¬op=4:=by simpa using h
 rw[if_neg h4]
 refine yaA (fun h=> ?_) (fun h=> ?_)
 ·have h:nz c= []:=by
   rw[e1] at h
   simpa using h
  rw[if_pos h]
  exact ⟨rfl,rfl⟩
 have h5:¬nz c= []:=by
  rw[e1] at h
  simpa using h
 rw[if_neg h5]
 have e:=e4 h5
 refine ⟨if fits (sumN (nz c)) then IntKind.i64.wrap (sumN (nz c)) else 0,fits (sumN (nz c)),?_,?_⟩
 ·have:=yDg (sumN (nz c))
  rw[<-e] at this
  exact this
 ·cases hf:fits (sumN (nz c))
  ·exact yai rfl ⟨rfl,rfl⟩
  ·exact yaf rfl ⟨_,ypN _,rfl,rfl⟩
theorem ysJ {f:V→V→V} (hf:∀a b,f a b=a∨f a b=b):∀ {l:List V},(∀v∈l,good v)→∀a,good a→good (l.foldl f a)
 | [],_,a,ha=>ha
 | v::l,h,a,ha=>by
   rw[List.foldl_cons]
   refine ysJ hf (fun x hx=>h x (by simp[hx])) _ ?_
   rcases hf a v with e|e
   ·rw[e];exact ha
   ·rw[e];exact h v (by simp)
theorem yBX (a b:V):mn a b=a∨mn a b=b:=by unfold mn;split<;>simp
theorem yCw (a b:V):mx a b=a∨mx a b=b:=by unfold mx;split<;>simp
theorem pBef {a b:V} (ha:good a) (hb:good b):yaS (v6 a) (v6 b) (decide (sCmp a b<0)):=by
 have h:=yvZ (v6 a) (v6 b) (by have:=yr9 ha;simp[v6];omega) (by have:=yr9 hb;simp[v6];omega)
 have e:yc8 (v6 a) (v6 b)=decide (sCmp a b<0):=by
  rw[Bool.eq_iff_iff,decide_eq_true_eq]
  exact (yxl ha hb).1.symm
 rwa[e] at h
theorem yw2 {f:V→V→V} {v:V} {l:List V} {j:Nat} (h:j<l.length):(l.take (j+1)).foldl f v=f ((l.take j).foldl f v) l[j]:=by
 rw[List.take_succ_eq_append_getElem h,List.foldl_append];rfl
theorem yDy {op:Int} (ho:op=3∨op=4) {l:List V} (hl:l.length≤1000000) (hg:∀v∈l,good v):∀X2:Int→Int→Int→Str→(List yab)→Prop,(∀x10 x11 x12 x13 x14,yej op (v6 (fo (if op=3 then mn else mx) l)) 0 X2 x10 x11 x12 x13 x14→X2 x10 x11 x12 x13 x14)→X2 (0:Int) (0:Int) (0:Int) ([]:Str) (l.map v6):=by
 have hf:∀a b,(if op=3 then mn else mx) a b=a∨(if op=3 then mn else mx) a b=b:=fun a b=>by
  split
  ·exact yBX a b
  ·exact yCw a b
 intro X2 hL
 suffices H:∀(n k:Nat),k+n=l.length->∀u:V,(u=fo (if op=3 then mn else mx) (l.take k))->X2 k u.Kind u.N u.S (l.map v6) from H l.length 0 (by omega) D0 rfl
 intro n
 induction n with
 | zero=>
   intro k hk u hu
   refine hL _ _ _ _ _ (yaf (by simp;omega) ?_)
   rw[List.take_of_length_le (by omega)] at hu
   rw[hu]
   exact ⟨rfl,rfl⟩
 | succ n ih=>
   intro k hk u hu
   have hk':k<l.length:=by omega
   have hget:(l.map v6)[((k:Nat):Int).toNat]? =some (v6 l[k]):=by rw[Int.toNat_natCast];simp[hk']
   have hlt:(k:Int)<((l.map v6).length:Int):=by simpa using hk'
   have next:∀w:V,w=fo (if op=3 then mn else mx) (l.take (k+1))→X2 (IntKind.i64.wrap ((k:Int)+1)) w.Kind w.N w.S (l.map v6):=by
    intro w hw
    rw[w1 (by omega)]
    exact ih (k+1) (by omega) w hw
   refine hL _ _ _ _ _ (yai (decide_eq_true hlt) (yaA (fun h=> ?_) (fun h=> ?_)))
   ·have h:k=0:=by simpa using h
    subst h
    refine yai rfl ⟨by omega,hlt,_,hget,next l[0] ?_⟩
    cases l with
    |nil=>simp at hk'
    |cons v r=>rfl
   have h0:k≠0:=by simpa using h
   have hgu:good u∧fo (if op=3 then mn else mx) (l.take (k+1))=(if op=3 then mn else mx) u l[k]:=by
    cases l with
    |nil=>simp at hk'
    | cons v r=>
      obtain ⟨j,rfl⟩:∃j,k=j+1:=⟨k-1,by omega⟩
      rw[hu]
      simp only[List.take_succ_cons,fo]
      refine ⟨ysJ hf (fun x hx=>hg x (List.mem_cons_of_mem _ (List.mem_of_mem_take hx))) v (hg v (by simp)),?_⟩
      exact yw2 (by simpa using hk')
   obtain ⟨gu,hnx⟩:=hgu
   have gv:=hg l[k] (List.getElem_mem hk')
   have keep:(if op=3 then mn else mx) u l[k]=u->X2 (IntKind.i64.wrap ((k:Int)+1)) u.Kind u.N u.S (l.map v6):=fun e=>next u (by rw[hnx,e])
   have take:(if op=3 then mn else mx) u l[k]=l[k]->ybe X2 k u.Kind u.N u.S true (l.map v6):=fun e=>yai rfl ⟨by omega,hlt,_,hget,next l[k] (by rw[hnx,e])⟩
   refine yaA (fun h=> ?_) (fun h=> ?_)
   ·have h:op=3:=by simpa using h
    subst h
    rw[if_pos rfl] at keep take
    refine ⟨by omega,hlt,_,hget,_,pBef gv gu,yaA (fun q=> ?_) (fun q=> ?_)⟩
    ·have q:=of_decide_eq_true q
     exact take (by unfold mn;rw[if_pos q])
    ·have q:=of_decide_eq_false q
     exact yaf rfl (yaf rfl (keep (by unfold mn;rw[if_neg q])))
   ·have h3:op=4:=by
     have:¬op=3:=by simpa using h
     omega
    subst h3
    rw[if_neg (by decide)] at keep take
    refine yai rfl ⟨by omega,hlt,_,hget,_,pBef gu gv,?_⟩
    by_cases q:sCmp u l[k]<0
    ·rw[decide_eq_true q]
     exact take (by unfold mx;rw[if_pos (ypr.2 q)])
    ·rw[decide_eq_false q]
     exact yaf rfl (keep (by unfold mx;rw[if_neg (fun e=>q (ypr.1 e))]))
theorem yDn (k:Int) {rs:List (V×V)} (hl:rs.length≤1000) (hg:∀p∈rs,good p.1∧good p.2) {op i:Int} (ho:1≤op∧op≤4) (hi:i=0∨i=1):ycz (rs.map (rf k)) op i (v6 (sFin op (rs.map (cl i))).1) (sFin op (rs.map (cl i))).2:=by
 have hc:∀v∈rs.map (cl i),good v:=by
  intro v hv
  obtain ⟨p,hp,rfl⟩:=List.mem_map.1 hv
  unfold cl
  split
  ·exact (hg p hp).1
  ·exact (hg p hp).2
 apply yot
 refine yaf (by simp;omega) ?_
 refine lp2 (fun (x:Int) (o:List V6)=>∃j:Nat,x=j/\j<=rs.length/\o=(nz ((rs.map (cl i)).take j)).map v6) (fun (x:Int) _=>((rs.length:Int)-x).toNat) ?_ ⟨0,rfl,by omega,rfl⟩
 rintro X x o ⟨j,rfl,hj,rfl⟩ hX
 intro _
 have hnz:(nz ((rs.map (cl i)).take j)).length≤rs.length:=by
  refine Nat.le_trans (List.length_filter_le _ _) ?_
  simp;omega
 refine yaA (fun h=> ?_) (fun h=> ?_)
 ·have hj':j<rs.length:=by simpa using h
  have hget:(rs.map (rf k))[((j:Nat):Int).toNat]? =some (rf k rs[j]):=by rw[Int.toNat_natCast];simp[hj']
  have hv:(rf k rs[j]).Values[i.toNat]? =some (v6 (cl i rs[j])):=by rcases hi with rfl|rfl<;>rfl
  have hil:i<((rf k rs[j]).Values.length:Int):=by simp[rf];omega
  have ht:nz ((rs.map (cl i)).take (j+1))=nz ((rs.map (cl i)).take j)++nz [cl i rs[j]]:=by
   rw[List.take_succ_eq_append_getElem (by simpa using hj'),yzg,List.getElem_map]
  refine ⟨by omega,by simpa using hj',_,hget,by omega,hil,_,hv,?_⟩
  rw[w1 (by omega)]
  refine yaA (fun q=> ?_) (fun q=> ?_)
  ·have q:¬(cl i rs[j]).Kind=0:=by simpa [v6] using q
   refine ⟨by omega,by simpa using hj',_,hget,by omega,hil,_,hv,by rw[List.length_map];omega,?_⟩
   refine hX _ _ ⟨j+1,rfl,by omega,?_⟩ (by omega)
   rw[ht,List.map_append]
   simp[nz,q]
  ·have q:(cl i rs[j]).Kind=0:=by simpa [v6] using q
   refine hX _ _ ⟨j+1,rfl,by omega,?_⟩ (by omega)
   rw[ht,List.map_append]
   simp[nz,q]
 have hj':¬j<rs.length:=by simpa using h
 rw[List.take_of_length_le (by simpa using hj')] at hnz⊢
 have hgn:∀v∈nz (rs.map (cl i)),good v:=fun v hv=>hc v (List.mem_filter.1 hv).1
 unfold sFin
 generalize nz (rs.map (cl i))=c at*
 refine yaA (fun h=> ?_) (fun h=> ?_)
 ·have h:op=1:=by simpa using h
  rw[if_pos h]
  rw[List.length_map]
  exact ⟨rfl,rfl⟩
 have h1:¬op=1:=by simpa using h
 rw[if_neg h1]
 refine yaA (fun h=> ?_) (fun h=> ?_)
 ·have h:op=2:=by simpa using h
  rw[if_neg (by omega),if_neg (by omega)]
  refine yaA (fun q=> ?_) (fun q=> ?_)
  ·have q:c= []:=by simpa using q
   rw[if_pos q]
   exact ⟨rfl,rfl⟩
  ·have q:¬c= []:=by simpa using q
   rw[if_neg q]
   obtain ⟨n,h1,h2⟩:=yDE (by omega) hgn
   refine ⟨_,h1,_,_,yDG h2,?_⟩
   cases hf:fits (sumN c)
   ·exact yai rfl ⟨rfl,rfl⟩
   ·exact yaf rfl ⟨rfl,rfl⟩
 ·have h2:¬op=2:=by simpa using h
  have hp:=yDy (op:=op) (by omega) (by omega:c.length<=1000000) hgn
  by_cases h3:op=3
  ·rw[if_pos h3]
   rw[if_pos h3] at hp
   exact hp
  ·rw[if_neg h3,if_pos (by omega)]
   rw[if_neg h3] at hp
   exact hp
theorem yog (k:Int) {rs:List (V×V)} (hl:rs.length≤1000) (hg:∀p∈rs,good p.1∧good p.2):yaZ (ydj rs) (rs.map (rf k)) true:=by
 apply ynq
 refine lp1 (fun (x:Int)=>1<=x/\x<=5) (fun (x:Int)=>(5-x).toNat) ?_ ⟨by omega,by omega⟩
 rintro X x ⟨hx,hx'⟩ hX
 refine yaA (fun h=> ?_) (fun h=> ?_)
 ·have h:x≤4:=by simpa using h
  refine lp1 (fun (y:Int)=>0<=y/\y<=2) (fun (y:Int)=>(2-y).toNat) ?_ ⟨by omega,by omega⟩
  rintro Y y ⟨hy,hy'⟩ hY
  refine yaA (fun q=> ?_) (fun q=> ?_)
  ·have q:y<2:=by simpa using q
   refine ⟨_,_,yDx rs ⟨hx,h⟩ (by omega),_,_,yDn k hl hg ⟨hx,h⟩ (by omega),?_⟩
   refine yaf (by simp) ?_
   refine yaf (by simp[v6]) ?_
   rw[wrap64 (by omega) (by omega)]
   exact hY _ ⟨by omega,by omega⟩ (by omega)
  ·rw[wrap64 (by omega) (by omega)]
   exact hX _ ⟨by omega,by omega⟩ (by omega)
 ·refine ⟨_,0,yai (by decide) ⟨_,ypN _,rfl,rfl⟩,yai rfl ⟨_,ypN _,yai (by simp[ydj]) (yai (by simp[ydj]) rfl)⟩⟩
end Go.Proofs.Ytecfpoklnfaihaa
end
noncomputable section
namespace Go.Proofs.Ytecfpoklnfaihaa
open Go.AV Go.RowKit
theorem yza (a:Nat):ydS (a:Int) (be 8 a):=by
 unfold ydS
 refine ⟨by omega,by decide,by omega,?_⟩
 refine lp2 (fun (x:Int) (y:List Int)=>∃i:Nat,x=i/\i<=8/\y=List.replicate (8-i) (0:Int)++tl a i) (fun (x:Int) (_:List Int)=>8-x.toNat) ?_ ⟨0,rfl,by omega,by simp[tl]⟩
 rintro X x y ⟨i,rfl,hi,rfl⟩ hX
 simp only[yjM]
 refine ⟨fun c=> ?_,fun c=> ?_⟩
 ·have c:(i:Int)<((List.replicate (8:Int).toNat (0:Int)).length:Int):=of_decide_eq_true c
  rw[List.length_replicate,show (8:Int).toNat=8 from rfl] at c
  have w1:IntKind.i64.wrap (8*(i:Int))=8*(i:Int):=wrap64 (by omega) (by omega)
  have w3:IntKind.i64.wrap (7-(i:Int))=((7-i:Nat):Int):=by rw[wrap64 (by omega) (by omega)];omega
  have w4:IntKind.i64.wrap ((i:Int)+1)=((i+1:Nat):Int):=by rw[wrap64 (by omega) (by omega)];omega
  rw[w1,w3,w4,Int.toNat_natCast]
  have hm:8-i=(7-i)+1:=by omega
  have er:List.replicate (8-i) (0:Int)++tl a i=List.replicate (7-i) 0++(0::tl a i):=by
   rw[hm,List.replicate_succ',List.append_assoc];rfl
  have hmin:min (8*(i:Int)).toNat IntKind.u64.bits=8*i:=by
   show min _ 64=_
   omega
  have hsh:IntKind.u8.wrap ((a:Int).fdiv (2^(min (8*(i:Int)).toNat IntKind.u64.bits)))=ofB (UInt8.ofNat (a/256^i)):=by
   rw[hmin,yvP,yqt]
   have:(2:Int)^(8*i)=((256^i:Nat):Int):=by rw[<-pow8];norm_cast
   rw[this,Int.fdiv_eq_ediv_of_nonneg _ (Int.natCast_nonneg _),<-Int.natCast_ediv]
   generalize a/256^i=q
   omega
  rw[hsh,er]
  refine ⟨by omega,by omega,by simp;omega,0,?_,?_⟩
  ·rw[List.getElem?_append_right (by simp)];simp
  ·refine hX _ _ ⟨i+1,rfl,by omega,?_⟩ (by omega)
   have e2:8-(i+1)=7-i:=by omega
   rw[List.set_append_right _ _ (by simp),e2];simp[tl]
 ·have c:¬(i:Int)<((List.replicate (8:Int).toNat (0:Int)).length:Int):=of_decide_eq_false c
  rw[List.length_replicate,show (8:Int).toNat=8 from rfl] at c
  have e:i=8:=by omega
  subst e
  rw[show 8-8=0 from rfl,List.replicate_zero,List.nil_append,yx4]
  exact yrP _
theorem ysV {s:Str} (h:s.length≤8):yc4 s (nmb s):=by
 unfold yc4
 refine lp2 (fun (x y:Int)=>∃i:Nat,y=i/\i<=s.length/\x=(nmb (s.take i):Int)) (fun (_ y:Int)=>s.length-y.toNat) ?_ ⟨0,rfl,by omega,by simp[nmb]⟩
 rintro X x y ⟨i,rfl,hi,rfl⟩ hX
 simp only[yiS]
 refine ⟨fun c=> ?_,fun c=> ?_⟩
 ·have c:(i:Int)<s.length:=by simpa using c
  have hlt:i<s.length:=by omega
  refine ⟨⟨by omega,c⟩,?_⟩
  have w4:IntKind.i64.wrap ((i:Int)+1)=((i+1:Nat):Int):=by rw[wrap64 (by omega) (by omega)];omega
  have hn:=ymb (s.take i)
  have hle:(s.take i).length<=7:=by rw[List.length_take];omega
  have hp:256^(s.take i).length<=256^7:=Nat.pow_le_pow_right (by omega) hle
  rw[yme hlt,or8 (by omega) (s[i].toNat_lt),w4]
  refine hX _ _ ⟨i+1,rfl,by omega,?_⟩ (by omega)
  rw[List.take_succ_eq_append_getElem hlt,ys1]
 ·have c:¬(i:Int)<s.length:=by simpa using c
  rw[List.take_of_length_le (by omega)]
def wKey (a:W):Str:=be 8 (a.Hi % 18446744073709551616).toNat++be 8 a.Lo.toNat
theorem ytu (a:W):(wKey a).length=16:=by simp[wKey,ydP]
theorem yB2 (z:Int):ybY (wOf z) (wKey (wOf z)):=by
 obtain ⟨_,h3,h4⟩:=ys3 z
 refine ⟨be 8 ((wOf z).Hi % 18446744073709551616).toNat,?_,be 8 (wOf z).Lo.toNat,?_,by simp[ydP],rfl⟩
 ·have:=yza ((wOf z).Hi % 18446744073709551616).toNat
  rwa[show (((wOf z).Hi % 18446744073709551616).toNat:Int)=IntKind.u64.wrap (wOf z).Hi by rw[ydQ];omega] at this
 ·have:=yza (wOf z).Lo.toNat
  rwa[show ((wOf z).Lo.toNat:Int)=(wOf z).Lo by omega] at this
theorem yB8 (z:Int):yc6 (wKey (wOf z)) (wOf z) 0:=by
 obtain ⟨⟨h1,h2⟩,h3,h4⟩:=ys3 z
 have hl:=ytu (wOf z)
 unfold yc6
 rw[hl]
 refine yaf (by decide) (yaf (by decide) ⟨by decide,_,ysV ?_,by decide,_,ysV ?_,?_⟩)
 ·rw[List.length_take];exact Nat.min_le_left _ _
 ·rw[List.length_take];exact Nat.min_le_left _ _
 ·have e1:((wKey (wOf z)).drop (0:Int).toNat).take ((8:Int).toNat-(0:Int).toNat)=be 8 ((wOf z).Hi % 18446744073709551616).toNat:=by
   unfold wKey
   rw[show (0:Int).toNat=0 from rfl,show (8:Int).toNat-0=8 from rfl,List.drop_zero,List.take_append_of_le_length (by rw[ydP];omega),List.take_of_length_le (by rw[ydP];omega)]
  have e2:((wKey (wOf z)).drop (8:Int).toNat).take (((16:Nat):Int).toNat-(8:Int).toNat)=be 8 (wOf z).Lo.toNat:=by
   unfold wKey
   rw[show (8:Int).toNat=8 from rfl,show ((16:Nat):Int).toNat-8=8 from rfl,List.drop_append_of_le_length (by rw[ydP];omega),List.drop_of_length_le (by rw[ydP];omega),List.nil_append,List.take_of_length_le (by rw[ydP];omega)]
  rw[e1,e2,ynS,ynS]
  refine ⟨?_,rfl⟩
  generalize wOf z=a at*
  obtain ⟨hi,lo⟩:=a
  simp only at h1 h2 h3 h4
  simp only[yaj.mk.injEq,ydy]
  constructor
  ·split<;>omega
  ·omega
theorem yBB {v:V} (h:good v):yel (sKey [v]) v true:=by
 have hg:∀x∈ [v],good x:=by simpa using h
 have h1:=yzS (l:= [v]) (by simp) hg
 have h2:=pGet (s:=sKey [v]) (by omega)
 rw[ywZ hg] at h2
 apply yws
 refine ⟨_,_,h2,?_⟩
 exact yaf rfl fun _=>yaf rfl ⟨by omega,by simp,v,rfl,rfl,rfl⟩
structure GOne (o:One):Prop where
 n:Rg o.N
 s:∃z,o.Sum=wOf z
 a:good o.Min
 b:good o.Max
def oTx (o:One):List Str:= [sInt o.N,wKey o.Sum,sKey [o.Min],sKey [o.Max]]
theorem ylS {v:V} (h:good v):(sKey [v]).length≤69:=by
 have:=ymk h
 simp[sKey,ybR,ydP];omega
theorem yvl {o:One} (h:GOne o):∀s∈oTx o,s.length≤69:=by
 intro s hs
 have h1:=ylS h.a
 have h2:=ylS h.b
 have h3:=ytu o.Sum
 have h4:=ygn o.N
 simp only[oTx,List.mem_cons,List.not_mem_nil,or_false] at hs
 rcases hs with rfl|rfl|rfl|rfl<;>omega
structure yxJ (p:Part):Prop where
 r:Rg p.Rows
 l:∃x y,p.L= [x,y]/\GOne x/\GOne y
def pTx (p:Part):List Str:=sInt p.Rows::p.L.flatMap oTx
theorem ysf {p:Part} (h:yxJ p):(pTx p).length=9∧∀s∈pTx p,s.length≤69:=by
 obtain ⟨h1,x,y,e,hx,hy⟩:=h
 have h4:=ygn p.Rows
 unfold pTx
 rw[e]
 refine ⟨by simp[oTx],fun s hs=> ?_⟩
 rcases List.mem_cons.1 hs with rfl|hs
 ·omega
 ·obtain ⟨o,ho,hq⟩:=List.mem_flatMap.1 hs
  clear hs
  simp only[List.mem_cons,List.not_mem_nil,or_false] at ho
  rcases ho with rfl|rfl
  ·exact yvl hx s hq
  ·exact yvl hy s hq
theorem ywO {p:Part} (h:yxJ p):ybX p (ybR (pTx p)):=by
 obtain ⟨h9,hs⟩:=ysf h
 obtain ⟨h1,x,y,e,hx,hy⟩:=h
 obtain ⟨r,l⟩:=p
 simp only at e h1
 subst e
 obtain ⟨zx,ex⟩:=hx.s
 obtain ⟨zy,ey⟩:=hy.s
 have kx:ybY x.Sum (wKey x.Sum):=by rw[ex];exact yB2 _
 have ky:ybY y.Sum (wKey y.Sum):=by rw[ey];exact yB2 _
 apply ymY
 refine ⟨_,pInt h1,fun _ X hX=> ?_⟩
 refine hX _ _ (yai (by simp) ⟨by omega,by simp,x,rfl,_,pInt hx.n,_,kx,_,pKey (by simp) (by simpa using hx.a),_,pKey (by simp) (by simpa using hx.b),by simp,?_⟩)
 rw[wrap64 (n:=0+1) (by omega) (by omega)]
 refine hX _ _ (yai (by simp) ⟨by omega,by simp,y,rfl,_,pInt hy.n,_,ky,_,pKey (by simp) (by simpa using hy.a),_,pKey (by simp) (by simpa using hy.b),by simp,?_⟩)
 rw[wrap64 (n:=0+1+1) (by omega) (by omega)]
 refine hX _ _ (yaf (by simp) ⟨_,yBi (l:=pTx ⟨r,[x,y]⟩) (by omega) (fun s h=>by have:=hs s h;omega),rfl⟩)
theorem yBW {n:Int} (h:Rg n):ybG (sInt n) n true:=by
 have h2:=yxd (sInt n)
 obtain ⟨h3,h4⟩:=h
 rw[ygn,if_pos rfl,decide_eq_true rfl] at h2
 have e:(nmb (sInt n):Int)-9223372036854775808=n:=by
  unfold sInt
  rw[ynS]
  omega
 rwa[e] at h2
theorem yD1 {p:Part} (h:yxJ p):yey (pTx p) p true:=by
 obtain ⟨h1,x,y,e,hx,hy⟩:=h
 obtain ⟨r,l⟩:=p
 simp only at e h1
 subst e
 obtain ⟨zx,ex⟩:=hx.s
 obtain ⟨zy,ey⟩:=hy.s
 have kx:yc6 (wKey x.Sum) x.Sum 0:=by rw[ex];exact yB8 _
 have ky:yc6 (wKey y.Sum) y.Sum 0:=by rw[ey];exact yB8 _
 apply yt8
 intro _
 refine yaf (by simp[pTx,oTx]) ⟨by omega,by simp[pTx];omega,_,rfl,_,_,yBW h1,fun X hX=> ?_⟩
 have step:∀(i:Nat) (o:One) (k:W) (acc:List One),i≤5→(∀j,j<4→(pTx ⟨r,[x,y]⟩)[i+j]? =(oTx o)[j]?)→GOne o→yc6 (wKey o.Sum) o.Sum 0→acc.length≤10→X true ((i+4:Nat):Int) (acc++ [o])→ygl (pTx ⟨r,[x,y]⟩) ⟨r,[x,y]⟩ true r X true (i:Int) acc:=by
  intro i o k acc hi hg ho hk hacc hn
  have hlen:(pTx ⟨r,[x,y]⟩).length=9:=by simp[pTx,oTx]
  have e1:IntKind.i64.wrap ((i:Int)+1)=((i+1:Nat):Int):=by rw[wrap64 (by omega) (by omega)];omega
  have e2:IntKind.i64.wrap ((i:Int)+2)=((i+2:Nat):Int):=by rw[wrap64 (by omega) (by omega)];omega
  have e3:IntKind.i64.wrap ((i:Int)+3)=((i+3:Nat):Int):=by rw[wrap64 (by omega) (by omega)];omega
  have e4:IntKind.i64.wrap ((i:Int)+4)=((i+4:Nat):Int):=by rw[wrap64 (by omega) (by omega)];omega
  intro _
  rw[hlen]
  refine yai (decide_eq_true (by omega)) (yai rfl ?_)
  rw[e1,e2,e3,hlen]
  refine ⟨by omega,by omega,_,by rw[Int.toNat_natCast];exact hg 0 (by omega),_,_,yBW ho.n,by omega,by omega,_,by rw[Int.toNat_natCast];exact hg 1 (by omega),_,_,hk,by omega,by omega,_,by rw[Int.toNat_natCast];exact hg 2 (by omega),_,_,yBB ho.a,by omega,by omega,_,by rw[Int.toNat_natCast];exact hg 3 (by omega),_,_,yBB ho.b,?_⟩
  refine yai rfl (yai rfl (yai rfl ⟨by omega,?_⟩))
  rw[e4]
  exact hn
 refine hX _ _ _ (step 1 x x.Sum [] (by omega) (fun j hj=> ?_) hx kx (by simp) ?_)
 ·match j,hj with
  |0,_=>rfl
  |1,_=>rfl
  |2,_=>rfl
  |3,_=>rfl
 refine hX _ _ _ (step 5 y y.Sum [x] (by omega) (fun j hj=> ?_) hy ky (by simp) ?_)
 ·match j,hj with
  |0,_=>rfl
  |1,_=>rfl
  |2,_=>rfl
  |3,_=>rfl
 refine hX _ _ _ fun _=>yaf (by simp[pTx,oTx]) (yaf rfl ⟨rfl,rfl⟩)
end Go.Proofs.Ytecfpoklnfaihaa
end
noncomputable section
namespace Go.Proofs.Ytecfpoklnfaihaa
open Go.AV Go.RowKit
structure GGrp (g:Rw):Prop where
 k:∃v,g.Row= [v]/\good v
 p:yxJ g.Part
def gTx (l:List Rw):List Str:=l.flatMap fun g=> [sKey g.Row,ybR (pTx g.Part)]
theorem gKey {g:Rw} (h:GGrp g):∀v∈g.Row,good v:=by
 obtain ⟨⟨v,e,hv⟩,_⟩:=h
 rw[e];simpa using hv
theorem ysm {l:List Rw} (h:∀g∈l,GGrp g):(gTx l).length=2*l.length∧∀s∈gTx l,s.length≤1000:=by
 constructor
 ·clear h
  induction l with
  |nil=>rfl
  |cons g l ih=>simp only[gTx,List.flatMap_cons,List.length_append,List.length_cons,List.length_nil] at*;omega
 ·intro s hs
  obtain ⟨g,hg,hq⟩:=List.mem_flatMap.1 hs
  have hG:=h g hg
  have hk:=gKey hG
  obtain ⟨v,e,hv⟩:=hG.k
  simp only[List.mem_cons,List.not_mem_nil,or_false] at hq
  rcases hq with rfl|rfl
  ·rw[e];have:=ylS hv;omega
  ·obtain ⟨h1,h2⟩:=ysf hG.p
   have:=yfO h2
   omega
theorem yx9 {l:List Rw} {i:Nat} (h:i<l.length):gTx (l.take (i+1))=gTx (l.take i)++ [sKey l[i].Row,ybR (pTx l[i].Part)]:=by
 unfold gTx
 rw[List.take_succ_eq_append_getElem h,List.flatMap_append];rfl
theorem yBy {l:List Rw} (i:Nat) (h:i<l.length):(gTx l)[2*i]? =some (sKey l[i].Row)∧(gTx l)[2*i+1]? =some (ybR (pTx l[i].Part)):=by
 induction l generalizing i with
 |nil=>simp at h
 | cons g l ih=>
   cases i with
   |zero=>exact ⟨rfl,rfl⟩
   | succ i=>
     have:=ih i (by simpa using h)
     simpa [gTx,Nat.mul_add] using this
theorem yyX {l:List Rw} (hl:l.length≤100) (h:∀g∈l,GGrp g):yda l (ybR (gTx l)):=by
 obtain ⟨h1,h2⟩:=ysm h
 apply yup
 intro _
 refine lp2 (fun (x:Int) (o:List Str)=>∃i:Nat,x=i/\i<=l.length/\o=gTx (l.take i)) (fun (x:Int) _=>((l.length:Int)-x).toNat) ?_ ⟨0,rfl,by omega,rfl⟩
 rintro X x o ⟨i,rfl,hi,rfl⟩ hX
 have hlen:=(ysm (l:=l.take i) fun g hg=>h g (List.mem_of_mem_take hg)).1
 rw[List.length_take] at hlen
 refine yaA (fun c=> ?_) (fun c=> ?_)
 ·have c:i<l.length:=by simpa using c
  have hG:=h _ (List.getElem_mem c)
  have hlr:l[i].Row.length<=1000:=by obtain ⟨v,e,_⟩:=hG.k;rw[e];simp
  refine ⟨by omega,by omega,_,gAt c,_,pKey hlr (gKey hG),_,ywO hG.p,by omega,?_⟩
  rw[w1 (by omega)]
  exact hX _ _ ⟨i+1,rfl,by omega,by rw[yx9 c]⟩ (by omega)
 ·have c:¬i<l.length:=by simpa using c
  rw[List.take_of_length_le (by omega)]
  exact ⟨_,yBi (by omega) (fun s hs=>by have:=h2 s hs;omega),rfl⟩
theorem yxN {l:List Rw} (hl:l.length≤100) (h:∀g∈l,GGrp g):yc2 (ybR (gTx l)) l 0:=by
 obtain ⟨h1,h2⟩:=ysm h
 have hb:=yfO h2
 have hb':(ybR (gTx l)).length≤1000000:=by
  have:(gTx l).length*(1000+4)<=200*(1000+4):=Nat.mul_le_mul_right _ (by omega)
  omega
 have hs:=yu3 (s:=ybR (gTx l)) (by omega)
 rw[yjf (fun s hs=>by have:=h2 s hs;omega)] at hs
 apply yqp
 refine ⟨gTx l,0,hs,yaf rfl fun _=>yaf ?_ ?_⟩
 ·rw[h1]
  simp
 refine lp2 (fun (x:Int) (o:List Rw)=>∃i:Nat,x=((2*i:Nat):Int)/\i<=l.length/\o=l.take i) (fun (x:Int) _=>(2*(l.length:Int)-x).toNat) ?_ ⟨0,rfl,by omega,rfl⟩
 rintro X x o ⟨i,rfl,hi,rfl⟩ hX
 intro _
 rw[h1]
 refine yaA (fun c=> ?_) (fun c=> ?_)
 ·have c:2*i<2*l.length:=by simpa using c
  have c':i<l.length:=by omega
  have hG:=h _ (List.getElem_mem c')
  obtain ⟨e1,e2⟩:=yBy i c'
  obtain ⟨v,ev,gv⟩:=hG.k
  have hk1:=ylS gv
  have hg:=pGet (s:=sKey l[i].Row) (by rw[ev];omega)
  rw[ywZ (gKey hG)] at hg
  obtain ⟨q1,q2⟩:=ysf hG.p
  have hq:=yfO q2
  have hsp:=yu3 (s:=ybR (pTx l[i].Part)) (by omega)
  rw[yjf (fun s hs=>by have:=q2 s hs;omega)] at hsp
  have w3:IntKind.i64.wrap (((2*i:Nat):Int)+1)=((2*i+1:Nat):Int):=by rw[wrap64 (by omega) (by omega)];omega
  have w4:IntKind.i64.wrap (((2*i:Nat):Int)+2)=((2*(i+1):Nat):Int):=by rw[wrap64 (by omega) (by omega)];omega
  rw[w3]
  refine ⟨by omega,by omega,_,by rw[Int.toNat_natCast];exact e1,_,_,hg,by omega,by omega,_,by rw[Int.toNat_natCast];exact e2,_,_,hsp,_,_,yD1 hG.p,?_⟩
  refine yaf rfl (yaf rfl (yaf rfl ⟨by rw[List.length_take];omega,?_⟩))
  rw[w4]
  refine hX _ _ ⟨i+1,rfl,by omega,?_⟩ (by omega)
  rw[List.take_succ_eq_append_getElem c']
 ·have c:¬2*i<2*l.length:=by simpa using c
  rw[List.take_of_length_le (by omega)]
  exact ⟨rfl,rfl⟩
theorem ynK {c:List V} (hl:c.length≤1000) (h:∀v∈c,good v):GOne (yf9 c):=by
 obtain ⟨e1,e2,e3,e4⟩:=ytN c
 have hn:(nz c).length<=c.length:=List.length_filter_le _ _
 have hg:∀v∈nz c,good v:=fun v hv=>h v (List.mem_filter.1 hv).1
 have hf:∀ {f:V→V→V},(∀a b,f a b=a∨f a b=b)→good (fo f (nz c)):=by
  intro f hf
  revert hg
  cases nz c with
  |nil=>intro _;exact .inl ⟨rfl,rfl,rfl⟩
  |cons v r=>intro hg;exact ysJ hf (fun x hx=>hg x (by simp[hx])) v (hg v (by simp))
 refine ⟨by rw[e1];constructor<;>omega,?_,by rw[e2];exact hf yBX,by rw[e3];exact hf yCw⟩
 by_cases hz:nz c= []
 ·refine ⟨0,?_⟩
  unfold yf9
  rw[hz];rfl
 ·exact ⟨_,e4 hz⟩
theorem yxT {x:It} (hk:Rg x.1) (hl:x.2.length≤1000) (hg:∀p∈x.2,good p.1∧good p.2):GGrp (grp x):=by
 refine ⟨⟨_,rfl, .inr (.inr (.inl ⟨rfl,hk,rfl⟩))⟩,⟨?_,?_⟩⟩
 ·show Rg (x.2.length:Int)
  constructor<;>omega
 ·refine ⟨_,_,rfl,ynK (by simpa using hl) ?_,ynK (by simpa using hl) ?_⟩
  ·intro v hv
   obtain ⟨p,hp,rfl⟩:=List.mem_map.1 hv
   exact (hg p hp).1
  ·intro v hv
   obtain ⟨p,hp,rfl⟩:=List.mem_map.1 hv
   exact (hg p hp).2
end Go.Proofs.Ytecfpoklnfaihaa
end
noncomputable section
namespace Go.Proofs.Ytecfpoklnfaihaa
open Go.AV Go.RowKit
def MFL (L:List Int) (f:Int->List (V×V)):List It:=L.filterMap fun k=>if f k= [] then none else some (k,f k)
theorem ykM {L:List Int} {f:Int→List (V×V)} {x:It} (h:x∈MFL L f):x.1∈L∧x.2≠ []:=by
 obtain ⟨k,hk,e⟩:=List.mem_filterMap.1 h
 by_cases q:f k= []
 ·rw[if_pos q] at e;cases e
 ·rw[if_neg q] at e
  cases e
  exact ⟨hk,q⟩
theorem yq2 {L:List Int} {f g:Int→List (V×V)} (h:∀k∈L,f k=g k):MFL L f=MFL L g:=by
 unfold MFL
 induction L with
 |nil=>rfl
 | cons j L ih=>
   have e:=h j (by simp)
   simp only[List.filterMap_cons,e,ih fun k hk=>h k (by simp[hk])]
def put (f:Int->List (V×V)) (k:Int) (p:V×V):Int->List (V×V):=fun j=>if j=k then f j++ [p] else f j
theorem yA6 {f:Int→List (V×V)} {k:Int} (hk:k∈ks) (p:V×V):∃A M B:List It,MF f=A++M++B∧MF (put f k p)=A++ [(k,f k++ [p])]++B∧(∀a∈A,a.1<k∧a.2≠ []∧a.1∈ks)∧(∀b∈B,k<b.1∧b.2≠ []∧b.1∈ks)∧(M= []∧f k= []∨M= [(k,f k)]∧f k≠ []):=by
 have hs:ks.Pairwise (· < ·):=by decide
 obtain ⟨L,R,e⟩:=List.append_of_mem hk
 rw[e,List.pairwise_append] at hs
 obtain ⟨_,hR,hL⟩:=hs
 rw[List.pairwise_cons] at hR
 have h1:∀j∈L,j<k:=fun j hj=>hL j hj k (by simp)
 have h2:∀j∈R,k<j:=hR.1
 refine ⟨MFL L f,if f k= [] then [] else [(k,f k)],MFL R f,?_,?_,fun a ha=>⟨h1 _ (ykM ha).1,(ykM ha).2,by rw[e];simp[(ykM ha).1]⟩,fun a ha=>⟨h2 _ (ykM ha).1,(ykM ha).2,by rw[e];simp[(ykM ha).1]⟩,?_⟩
 ·unfold MF
  rw[e,List.filterMap_append,List.append_assoc]
  congr 1
  by_cases h:f k= []
  ·rw[List.filterMap_cons_none (by simp[h]),if_pos h];rfl
  ·rw[List.filterMap_cons_some (by rw[if_neg h]),if_neg h];rfl
 ·rw[yq2 (L:=L) (f:=f) (g:=put f k p) (fun j hj=>by have:=h1 j hj;unfold put;rw[if_neg (by omega)]),yq2 (L:=R) (f:=f) (g:=put f k p) (fun j hj=>by have:=h2 j hj;unfold put;rw[if_neg (by omega)])]
  unfold MF
  rw[e,List.filterMap_append,List.append_assoc]
  congr 1
  rw[List.filterMap_cons_some (b:=(k,f k++ [p])) (by simp[put])]
  rfl
 ·by_cases h:f k= []
  ·rw[if_pos h];exact .inl ⟨rfl,h⟩
  ·rw[if_neg h];exact .inr ⟨rfl,h⟩
def gl (x:It):List yac:=x.2.map (rf x.1)
theorem ymh {k:Int} (h:Rg k):good (kV k):= .inr (.inr (.inl ⟨rfl,h,rfl⟩))
theorem yAj (j k:Int):s7 [kV j] [kV k]=decide (j<k):=by
 unfold s7
 by_cases h:eqV (kV j) (kV k)=true
 ·rw[if_pos h]
  have:=yAy.1 h
  have e:j=k:=by simpa [kV] using this
  subst e
  simp[s7]
 ·rw[if_neg h]
  show yc8 (v6 (kV j)) (v6 (kV k))=_
  unfold yc8 v6 kV
  rw[if_neg (by simp),if_neg (by simp)]
theorem yvS {k:Int} (h:k∈ks):Rg k:=by
 simp only[ks,List.mem_cons,List.not_mem_nil,or_false] at h
 constructor<;>omega
theorem pB7 {j k:Int} (hj:Rg j) (hk:Rg k):ybw [v6 (kV j)] [v6 (kV k)] (decide (j<k)):=by
 have:=yo1 (a:= [kV j]) (b:= [kV k]) (by simp) (by simp) (by simpa using ymh hj) (by simpa using ymh hk)
 rw[yAj] at this
 exact this
theorem pS7 {j k:Int} (hj:Rg j) (hk:Rg k):ydR [v6 (kV j)] [v6 (kV k)] (decide (j=k)):=by
 have:=yDR (a:= [kV j]) (b:= [kV k]) (by simp) (by simp) (by simpa using ymh hj) (by simpa using ymh hk)
 rw[yAj,yAj] at this
 rwa[show (!decide (j<k)&& !decide (k<j))=decide (j=k) by rw[Bool.eq_iff_iff];simp;omega] at this
abbrev RI:=Int×(V×V)
def rw1 (k:Int) (R:List RI):List (V×V):=(R.filter fun x=>x.1==k).map Prod.snd
theorem yxv (R:List RI) (x:RI):(fun k=>rw1 k (R++ [x]))=put (fun k=>rw1 k R) x.1 x.2:=by
 funext k
 unfold put rw1
 by_cases h:k=x.1
 ·subst h;simp
 ·rw[if_neg h]
  have:¬x.1=k:=fun e=>h e.symm
  simp[this]
theorem ysc (k:Int) (R:List RI):(rw1 k R).length≤R.length:=by
 unfold rw1
 rw[List.length_map]
 exact List.length_filter_le _ _
theorem MF_7 (f:Int->List (V×V)):(MF f).length<=7:=List.length_filterMap_le _ _
theorem gl_0 {x:It} (h:x.2≠ []):∃p,(gl x)[(0:Int).toNat]? =some (rf x.1 p)∧(0:Int)<((gl x).length:Int):=by
 obtain ⟨k,r⟩:=x
 cases r with
 |nil=>exact absurd rfl h
 |cons p r=>exact ⟨p,rfl,by simp[gl]⟩
theorem yzM {R:List RI} (hl:R.length≤1000) (hk:∀x∈R,x.1∈ks):ycj (R.map fun x=>rf x.1 x.2) ((MF fun k=>rw1 k R).map gl):=by
 apply yns
 refine lp2 (fun (x:Int) (o:List (List yac))=>∃i:Nat,x=i/\i<=R.length/\o=(MF fun k=>rw1 k (R.take i)).map gl) (fun (x:Int) _=>((R.length:Int)-x).toNat) ?_ ⟨0,rfl,by omega,?_⟩
 rotate_left
 ·show []=(MF fun k=>rw1 k []).map gl
  rfl
 rintro X x o ⟨i,rfl,hi,rfl⟩ hX
 intro _
 refine yaA (fun c=> ?_) (fun c=> ?_)
 rotate_left
 ·have c:¬i<R.length:=by simpa using c
  rw[List.take_of_length_le (by omega)]
 have c:i<R.length:=by simpa using c
 obtain ⟨k,p,hx⟩:∃k p,R[i]=(k,p):=⟨_,_,rfl⟩
 have hkk:k∈ks:=by have:=hk _ (List.getElem_mem c);rw[hx] at this;exact this
 have hlen:((i:Nat):Int)<((R.map fun x=>rf x.1 x.2).length:Int):=by simpa using c
 have hget:(R.map fun x=>rf x.1 x.2)[((i:Nat):Int).toNat]? =some (rf k p):=by rw[Int.toNat_natCast];simp[c,hx]
 obtain ⟨A,M,B,e1,e2,hA,hB,hM⟩:=yA6 (f:=fun k=>rw1 k (R.take i)) hkk p
 have key:X (IntKind.i64.wrap ((i:Int)+1)) ((A++ [(k,rw1 k (R.take i)++ [p])]++B).map gl):=by
  rw[w1 (by omega)]
  refine hX _ _ ⟨i+1,rfl,by omega,?_⟩ (by omega)
  rw[List.take_succ_eq_append_getElem c,hx,yxv,e2]
 have h7:=MF_7 fun k=>rw1 k (R.take i)
 have hrl:=ysc k (R.take i)
 rw[List.length_take] at hrl
 rw[e1] at h7⊢
 generalize rw1 k (R.take i)=r at*
 clear e1 e2
 have hrk:=yvS hkk
 have hlM:M.length<=1:=by rcases hM with ⟨rfl,_⟩|⟨rfl,_⟩<;>simp
 simp only[List.length_append] at h7
 refine lp2 (fun (x:Int) (o:List (List yac))=>∃j:Nat,x=j/\j<=A.length/\o=(A++M++B).map gl) (fun (x:Int) _=>((A.length:Int)-x).toNat) ?_ ⟨0,rfl,by omega,rfl⟩
 rintro Y x o ⟨j,rfl,hj,rfl⟩ hY
 have hsum:((A++M++B).map gl).length=A.length+M.length+B.length:=by simp;omega
 have tail:M= []→r= []→yb8 X (R.map fun x=>rf x.1 x.2) (i:Int) (A.length:Int) false ((A++M++B).map gl):=by
  rintro rfl rfl
  rw[List.append_nil,List.length_nil,Nat.add_zero] at hsum
  have s1:yd7 ((A++ []++B).map gl) 0 (A.length:Int)=A.map gl:=by
   unfold yd7
   rw[Int.toNat_natCast,List.append_nil,List.map_append]
   simp
  have s2:yd7 ((A++ []++B).map gl) (A.length:Int) (((A++ []++B).map gl).length:Int)=B.map gl:=by
   unfold yd7
   rw[Int.toNat_natCast,Int.toNat_natCast,List.append_nil,List.map_append,List.drop_append_of_le_length (by simp),List.drop_of_length_le (by simp),List.nil_append,List.take_of_length_le (by simp)]
  refine yaf rfl ?_
  unfold yca
  rw[s1,s2,List.append_nil,List.nil_append]
  refine ⟨⟨by omega,by omega,by simp;omega⟩,by rw[List.length_map];omega,by omega,hlen,_,hget,by rw[List.length_map];omega,⟨by omega,by simp;omega,by omega⟩,by simp;omega,by rw[List.length_map];omega,?_⟩
  rw[List.map_append,List.map_append] at key
  exact key
 by_cases hjA:j<A.length
 ·have hm:A[j]∈A:=List.getElem_mem hjA
  obtain ⟨hA1,hA2,hA3⟩:=hA _ hm
  obtain ⟨q,hq1,hq2⟩:=gl_0 hA2
  have hg:((A++M++B).map gl)[((j:Nat):Int).toNat]? =some (gl A[j]):=by
   rw[Int.toNat_natCast,List.getElem?_map,List.append_assoc,List.getElem?_append_left hjA,List.getElem?_eq_getElem hjA];rfl
  refine yai (decide_eq_true (by omega)) ⟨by omega,by omega,_,hg,by omega,hq2,_,hq1,by omega,hlen,_,hget,_,pB7 (yvS hA3) hrk,?_⟩
  rw[decide_eq_true hA1]
  refine yai rfl ?_
  rw[w1 (by omega)]
  exact hY _ _ ⟨j+1,rfl,by omega,rfl⟩ (by omega)
 ·have hj:j=A.length:=by omega
  subst hj
  rcases hM with ⟨hM,hr⟩|⟨hM,hr⟩
  ·cases B with
   | nil=>
     have hlt:¬(A.length:Int)<(((A++M++ []).map gl).length:Int):=by rw[hM];simp
     refine yaf (decide_eq_false hlt) (yaf rfl (yaf (decide_eq_false hlt) (tail hM hr)))
   | cons b B=>
     obtain ⟨hb1,hb2,hb3⟩:=hB b (by simp)
     obtain ⟨q,hq1,hq2⟩:=gl_0 hb2
     have hlt:(A.length:Int)<(((A++M++b::B).map gl).length:Int):=by rw[hM];simp;omega
     have hg:((A++M++b::B).map gl)[((A.length:Nat):Int).toNat]? =some (gl b):=by
      rw[Int.toNat_natCast,hM];simp
     refine yai (decide_eq_true hlt) ⟨by omega,hlt,_,hg,by omega,hq2,_,hq1,by omega,hlen,_,hget,_,pB7 (yvS hb3) hrk,?_⟩
     rw[decide_eq_false (by show¬b.1<k;omega)]
     refine yaf rfl (yai (decide_eq_true hlt) ⟨by omega,hlt,_,hg,by omega,hq2,_,hq1,by omega,hlen,_,hget,_,pS7 (yvS hb3) hrk,?_⟩)
     rw[decide_eq_false (by show¬b.1=k;omega)]
     exact tail hM hr
  ·subst hM
   obtain ⟨q,hq1,hq2⟩:=gl_0 (x:=(k,r)) hr
   have hlt:(A.length:Int)<(((A++ [(k,r)]++B).map gl).length:Int):=by simp;omega
   have hg:((A++ [(k,r)]++B).map gl)[((A.length:Nat):Int).toNat]? =some (gl (k,r)):=by
    rw[Int.toNat_natCast];simp
   refine yai (decide_eq_true hlt) ⟨by omega,hlt,_,hg,by omega,hq2,_,hq1,by omega,hlen,_,hget,_,pB7 hrk hrk,?_⟩
   rw[decide_eq_false (by show¬k<k;omega)]
   refine yaf rfl (yai (decide_eq_true hlt) ⟨by omega,hlt,_,hg,by omega,hq2,_,hq1,by omega,hlen,_,hget,_,pS7 hrk hrk,?_⟩)
   rw[decide_eq_true (rfl:k=k)]
   have hgl:(gl (k,r)).length=r.length:=by simp[gl]
   refine yai rfl ⟨by omega,hlt,_,hg,by omega,by omega,hlen,_,hget,by rw[List.nil_append];omega,by omega,hlt,_,hg,?_⟩
   have e3:((A++ [(k,r)]++B).map gl).set ((A.length:Nat):Int).toNat ((([]:List yac)++gl (k,r))++ [rf k p])=(A++ [(k,r++ [p])]++B).map gl:=by
    rw[Int.toNat_natCast];simp[gl]
   rw[e3]
   exact key
end Go.Proofs.Ytecfpoklnfaihaa
end
noncomputable section
namespace Go.Proofs.Ytecfpoklnfaihaa
open Go.AV Go.RowKit
theorem pLof {x:yax} (hx:ydB x):∃v,yeB x v (v6 v)∧good v:=by
 obtain ⟨h1,h2,h3⟩:=hx
 obtain ⟨k0,k1⟩:=wfu8.1 h1
 have h2':=wf64.1 h2
 have hk:0≤IntKind.i64.wrap (x.Kind.tmod 4)∧IntKind.i64.wrap (x.Kind.tmod 4)≤3:=by
  rw[Int.tmod_eq_emod_of_nonneg k0,wrap64 (by omega) (by omega)];omega
 suffices H:∃v,yg7 x v (v6 v)∧good v by
  obtain ⟨v,a,b⟩:=H
  exact ⟨v,yuG _ _ _ a,b⟩
 unfold yg7 ycx
 generalize IntKind.i64.wrap (x.Kind.tmod 4)=k at*
 by_cases k1:k=1
 ·refine ⟨⟨1,x.N % 2,[]⟩,yai (by simp[k1]) ⟨?_,?_⟩, .inr (.inl ⟨rfl,?_,rfl⟩)⟩
  ·rw[ytH,k1]
  ·rw[ytH,k1];rfl
  ·simp only;omega
 by_cases k2:k=2
 ·exact ⟨⟨2,x.N,[]⟩,yaf (by simp[k1]) (yai (by simp[k2]) ⟨by rw[k2],by rw[k2];rfl⟩), .inr (.inr (.inl ⟨rfl,⟨h2'.1,h2'.2⟩,rfl⟩))⟩
 by_cases k3:k=3
 ·refine ⟨⟨3,0,_⟩,yaf (by simp[k1]) (yaf (by simp[k2]) (yai (by simp[k3]) ⟨⟨by omega,?_,?_⟩,by rw[k3],by rw[k3];rfl⟩)), .inr (.inr (.inr ⟨rfl,rfl,?_⟩))⟩
  ·split<;>omega
  ·split<;>omega
  ·simp only[List.length_take,List.length_drop]
   split<;>simp<;>omega
 ·have:k=0:=by omega
  exact ⟨D0,yaf (by simp[k1]) (yaf (by simp[k2]) (yaf (by simp[k3]) ⟨by rw[this];rfl,by rw[this];rfl⟩)), .inl ⟨rfl,rfl,rfl⟩⟩
theorem yDq {x:yau} (hx:yeK x):∃k p,k∈ks∧ye1 x (grp (k,[p])) (rf k p)∧good p.1∧good p.2:=by
 obtain ⟨h1,hA,hB⟩:=hx
 obtain ⟨v,v1,v2⟩:=pLof hA
 obtain ⟨u,u1,u2⟩:=pLof hB
 obtain ⟨k0,k1⟩:=wfu8.1 h1
 refine ⟨IntKind.i64.wrap (x.Group.tmod 4),(v,u),?_,⟨v,v6 v,v1,u,v6 u,u1,kV (IntKind.i64.wrap (x.Group.tmod 4)),ypN _,_,pOf2 (yun v2) (yun u2),rfl,rfl⟩,v2,u2⟩
 rw[Int.tmod_eq_emod_of_nonneg k0,wrap64 (by omega) (by omega)]
 have:x.Group % 4=0∨x.Group % 4=1∨x.Group % 4=2∨x.Group % 4=3:=by omega
 rcases this with e|e|e|e<;>rw[e]<;>decide
theorem yzG:ycm true:=by
 have h1:ydC [⟨2,1,[]⟩] ⟨1,[⟨1,⟨0,1⟩,⟨2,1,[]⟩,⟨2,1,[]⟩⟩]⟩:=by
  apply yo3
  intro _ X hX
  refine hX _ _ (yai (by simp) ⟨by simp,by simp,_,rfl,yai (by simp) (yai (by simp) ⟨⟨0,1⟩,rfl,by simp,?_⟩)⟩)
  exact hX _ _ (yaf (by decide) rfl)
 have h2:ydC [⟨0,0,[]⟩] ⟨1,[oz]⟩:=by
  apply yo3
  intro _ X hX
  refine hX _ _ (yai (by simp) ⟨by simp,by simp,_,rfl,yaf (by simp) (yaf (by simp) ⟨by simp,?_⟩)⟩)
  exact hX _ _ (yaf (by decide) rfl)
 have h3:ycI ⟨1,[⟨1,⟨0,1⟩,⟨2,1,[]⟩,⟨2,1,[]⟩⟩]⟩ ⟨1,[oz]⟩ ⟨2,[⟨1,⟨0,1⟩,⟨2,1,[]⟩,⟨2,1,[]⟩⟩]⟩:=by
  intro _ _ X hX
  refine hX _ _ (yai (by decide) ⟨by simp,by simp,_,rfl,by simp,by simp,_,rfl,⟨1,⟨0,1⟩,⟨2,1,[]⟩,⟨2,1,[]⟩⟩,?_,by simp,?_⟩)
  ·exact yaf (by decide) (yai rfl rfl)
  ·exact hX _ _ (yaf (by decide) rfl)
 apply ynB
 refine ⟨_,rfl,_,h1,_,h2,_,h3,⟨2,1,[]⟩,0,?_,⟨2,2,[]⟩,0,?_,?_⟩
 ·exact yaf (by decide) ⟨by omega,by simp,_,rfl,yaf (by decide) (yaf (by decide) (yaf (by decide) (yaf (by decide) ⟨1,true,⟨⟨0,1⟩,rfl,yaf (by decide) ⟨rfl,rfl⟩⟩,yaf rfl ⟨_,rfl,rfl,rfl⟩⟩)))⟩
 ·exact yai (by decide) ⟨_,rfl,rfl,rfl⟩
 ·exact yai rfl (yai rfl ⟨_,rfl,yai rfl (yai rfl ⟨_,rfl,yai rfl ⟨by omega,by simp,_,rfl,rfl⟩⟩)⟩)
theorem yps {m:Nat}:∀ {l:List It},(∀x∈l,x.2.length≤m)→(l.flatMap Prod.snd).length≤l.length*m
 | [],_=>by simp
 | x::l,h=>by
   have ih:=yps (l:=l) fun y hy=>h y (by simp[hy])
   have hx:=h x (by simp)
   rw[List.flatMap_cons,List.length_append,List.length_cons,Nat.add_mul];omega
theorem yzy {k:Int} {R:List RI} {p:V×V} (h:p∈rw1 k R):∃x∈R,x.2=p:=by
 obtain ⟨x,hx,e⟩:=List.mem_map.1 h
 exact ⟨x,(List.mem_filter.1 hx).1,e⟩
structure St1 (R:List RI) (Bs:List (List It)) (b:List It):Prop where
 nB:Bs.length<=R.length
 nI:(Bs.flatten++b).length<=R.length
 kin:Kin (Bs.flatten++b)
 ne:Ne (Bs.flatten++b)
 ro:∀k,ycy k (Bs.flatten++b)=rw1 k R
 rl:∀x∈Bs.flatten++b,x.2.length<=R.length
 rk:∀x∈R,x.1∈ks/\good x.2.1/\good x.2.2
theorem St1.add {R:List RI} {Bs:List (List It)} {b:List It} (h:St1 R Bs b) {k:Int} {p:V×V} (hk:k∈ks) (g1:good p.1) (g2:good p.2):St1 (R++ [(k,p)]) Bs (b++ [(k,[p])]):=by
 obtain ⟨nB,nI,kin,ne,ro,rl,rk⟩:=h
 have ef:Bs.flatten++(b++ [(k,[p])])=(Bs.flatten++b)++ [(k,[p])]:=by rw[List.append_assoc]
 refine ⟨by simp;omega,?_,?_,?_,?_,?_,?_⟩
 ·have:(R++ [(k,p)]).length=R.length+1:=by simp
  rw[ef,List.length_append,this]
  simp only[List.length_cons,List.length_nil];omega
 ·rw[ef]
  intro x hx
  rcases List.mem_append.1 hx with hx|hx
  ·exact kin x hx
  ·have:=List.mem_singleton.1 hx
   subst this;exact hk
 ·rw[ef]
  intro x hx
  rcases List.mem_append.1 hx with hx|hx
  ·exact ne x hx
  ·have:=List.mem_singleton.1 hx
   subst this;simp
 ·intro j
  rw[ef,ygJ,ro j]
  unfold rw1 ycy
  by_cases e:k=j
  ·subst e;simp
  ·simp[e]
 ·rw[ef]
  intro x hx
  rw[List.length_append]
  rcases List.mem_append.1 hx with hx|hx
  ·have:=rl x hx;omega
  ·have:=List.mem_singleton.1 hx
   subst this;simp
 ·intro x hx
  rcases List.mem_append.1 hx with hx|hx
  ·exact rk x hx
  ·have:=List.mem_singleton.1 hx
   subst this;exact ⟨hk,g1,g2⟩
theorem St1.cut {R:List RI} {Bs:List (List It)} {b:List It} (h:St1 R Bs b) (hB:Bs.length+1≤R.length):St1 R (Bs++ [MF fun k=>ycy k b]) []:=by
 obtain ⟨nB,nI,kin,ne,ro,rl,rk⟩:=h
 have kb:Kin b:=fun x hx=>kin x (by simp[hx])
 have nb:Ne b:=fun x hx=>ne x (List.mem_append_right _ hx)
 have hm:=yBs kb nb
 have ef:(Bs++ [MF fun k=>ycy k b]).flatten++ []=Bs.flatten++MF fun k=>ycy k b:=by simp
 rw[List.length_append] at nI
 refine ⟨by simp;omega,?_,?_,?_,?_,?_,rk⟩
 ·rw[ef,List.length_append];omega
 ·rw[ef]
  intro x hx
  rcases List.mem_append.1 hx with hx|hx
  ·exact kin x (List.mem_append_left _ hx)
  ·exact yyS _ x hx
 ·rw[ef]
  intro x hx
  rcases List.mem_append.1 hx with hx|hx
  ·exact ne x (List.mem_append_left _ hx)
  ·exact yCb _ x hx
 ·intro j
  rw[ef,ygJ,yw1 fun hj=>yuq kb hj,<-ygJ]
  exact ro j
 ·rw[ef]
  intro x hx
  rcases List.mem_append.1 hx with hx|hx
  ·exact rl x (List.mem_append_left _ hx)
  ·obtain ⟨k,hk,e⟩:=List.mem_filterMap.1 hx
   have hr:=ro k
   rw[ygJ] at hr
   have:=ysc k R
   rw[<-hr,List.length_append] at this
   by_cases q:ycy k b= []
   ·rw[if_pos q] at e;cases e
   ·rw[if_neg q] at e;cases e
    simp only;omega
theorem St1.merge {R:List RI} {Bs:List (List It)} {b:List It} (h:St1 R Bs b) (hR:R.length≤30):ybW (Bs.map (List.map grp)++ [b.map grp]) ((MF fun k=>rw1 k R).map grp)∧ybW [b.map grp] ((MF fun k=>ycy k b).map grp):=by
 obtain ⟨nB,nI,kin,ne,ro,rl,rk⟩:=h
 have ef:(Bs++ [b]).flatten=Bs.flatten++b:=by simp
 have eg: [b].flatten=b:=by simp
 have h1:=yps rl
 have h2:(Bs.flatten++b).length*R.length<=30*30:=Nat.mul_le_mul (by omega) hR
 constructor
 ·have:=yyP (a:=Bs++ [b]) (by simp;omega) (by rw[ef];omega) (by rw[ef];omega) (by rw[ef];exact kin) (by rw[ef];exact ne)
  rw[ef,List.map_append] at this
  rwa[show (fun k=>rw1 k R)=fun k=>ycy k (Bs.flatten++b) from funext fun k=>(ro k).symm]
 ·have hb:b.length≤30:=by rw[List.length_append] at nI;omega
  have h3:=yps (l:=b) (m:=R.length) fun x hx=>rl x (List.mem_append_right _ hx)
  have h4:b.length*R.length<=30*30:=Nat.mul_le_mul hb hR
  have:=yyP (a:= [b]) (by simp) (by rw[eg];omega) (by rw[eg];omega) (by rw[eg];exact fun x hx=>kin x (List.mem_append_right _ hx)) (by rw[eg];exact fun x hx=>ne x (List.mem_append_right _ hx))
  rw[eg] at this
  exact this
theorem pEnd {R:List RI} (hl:R.length≤30) (rk:∀x∈R,x.1∈ks∧good x.2.1∧good x.2.2):∀X4:Int→Prop,(∀x21,ycB true ((MF fun k=>rw1 k R).map grp) ((MF fun k=>rw1 k R).map gl) X4 x21→X4 x21)→X4 (0:Int):=by
 have hG:∀x∈MF fun k=>rw1 k R,Rg x.1∧x.2≠ []∧x.2.length≤30∧∀p∈x.2,good p.1∧good p.2:=by
  intro x hx
  refine ⟨yvS (yyS _ x hx),yCb _ x hx,?_⟩
  obtain ⟨k,hk,e⟩:=List.mem_filterMap.1 hx
  have hlen:=ysc k R
  by_cases q:rw1 k R= []
  ·rw[if_pos q] at e;cases e
  ·rw[if_neg q] at e;cases e
   refine ⟨by simp only;omega,fun p hp=> ?_⟩
   obtain ⟨y,hy,rfl⟩:=yzy hp
   exact (rk y hy).2
 have h7:=MF_7 fun k=>rw1 k R
 generalize (MF fun k=>rw1 k R)=G at*
 have hGG:∀g∈G.map grp,GGrp g:=by
  intro g hg
  obtain ⟨x,hx,rfl⟩:=List.mem_map.1 hg
  obtain ⟨a,b,c,d⟩:=hG x hx
  exact yxT a (by omega) d
 have hlg:(G.map grp).length=G.length:=List.length_map ..
 have hll:(G.map gl).length=G.length:=List.length_map ..
 refine lp1 (fun (x:Int)=>∃i:Nat,x=i/\i<=G.length) (fun (x:Int)=>((G.length:Int)-x).toNat) ?_ ⟨0,rfl,by omega⟩
 rintro X x ⟨i,rfl,hi⟩ hX
 intro _
 rw[hlg,hll]
 refine yaA (fun c=> ?_) (fun c=> ?_)
 ·have c:i<G.length:=by simpa using c
  obtain ⟨g1,g2,g3,g4⟩:=hG _ (List.getElem_mem c)
  have hg:(G.map grp)[((i:Nat):Int).toNat]? =some (grp G[i]):=by rw[Int.toNat_natCast];simp[c]
  have hr:(G.map gl)[((i:Nat):Int).toNat]? =some (gl G[i]):=by rw[Int.toNat_natCast];simp[c]
  obtain ⟨q,q1,q2⟩:=gl_0 g2
  have hk:∀v∈ [kV G[i].1],good v:=by simpa using ymh g1
  refine ⟨by omega,by omega,_,hg,sKey [kV G[i].1],pKey (l:= [kV G[i].1]) (by simp) hk,by omega,by omega,_,hr,by omega,q2,_,q1,sKey [kV G[i].1],yDO (l:= [kV G[i].1]) (by simp) hk,?_⟩
  refine yaf (by simp) ⟨by omega,by omega,_,hg,by omega,by omega,_,hr,_,yog G[i].1 (by omega) g4,?_⟩
  refine yaf rfl ?_
  rw[w1 (by omega)]
  exact hX _ ⟨i+1,rfl,by omega⟩ (by omega)
 refine ⟨_,yyX (by omega) hGG,_,_,yxN (by omega) hGG,yaf rfl fun _ _=>yaf (by simp) ⟨_,yyX (by omega) hGG,?_⟩⟩
 refine yaf (by simp) ?_
 refine lp1 (fun (x:Int)=>∃i:Nat,x=i/\i<=G.length) (fun (x:Int)=>((G.length:Int)-x).toNat) ?_ ⟨0,rfl,by omega⟩
 rintro Y x ⟨j,rfl,hj⟩ hY
 intro _
 rw[hlg,hll]
 refine yaA (fun c=> ?_) (fun c=> ?_)
 ·have c:j<G.length:=by simpa using c
  obtain ⟨g1,g2,g3,g4⟩:=hG _ (List.getElem_mem c)
  have hg:(G.map grp)[((j:Nat):Int).toNat]? =some (grp G[j]):=by rw[Int.toNat_natCast];simp[c]
  have hr:(G.map gl)[((j:Nat):Int).toNat]? =some (gl G[j]):=by rw[Int.toNat_natCast];simp[c]
  refine ⟨by omega,by omega,_,hg,by omega,by omega,_,hg,_,yjg (by simp[grp]),?_⟩
  rw[rc_0.2 rfl]
  refine yaf rfl ⟨by omega,by omega,_,hg,by omega,by omega,_,hr,_,yog G[j].1 (by omega) g4,?_⟩
  refine yaf rfl ?_
  rw[w1 (by omega)]
  exact hY _ ⟨j+1,rfl,by omega⟩ (by omega)
 ·refine ⟨_,yzu,_,yog 0 (rs:= []) (by simp) (by simp),yai rfl ⟨_,yzu,_,yzu,_,yzc (a:= []) (b:= []) (by simp),_,yog 0 (rs:= []) (by simp) (by simp),rfl⟩⟩
theorem ynF:ypE:=by
 rintro l cs ⟨hl,hR⟩ ⟨hcl,hc⟩
 have hmax:maxLen=9223372036854775807:=rfl
 apply ykR
 refine ⟨true,yzG,yaf rfl ?_⟩
 intro X1 hL
 suffices H:∀(n i:Nat) (R:List RI) (Bs:List (List It)) (b:List It),30-i<=n->i<=30->i<=l.length->i=R.length->St1 R Bs b->X1 (i:Int) (Bs.map (List.map grp)) (b.map grp) (R.map fun x=>rf x.1 x.2) from H 30 0 [] [] [] (by omega) (by omega) (by omega) rfl ⟨by simp,by simp,fun x hx=>by simp at hx,fun x hx=>by simp at hx,fun k=>rfl,fun x hx=>by simp at hx,fun x hx=>by simp at hx⟩
 have stop:∀(i:Nat) (R:List RI) (Bs:List (List It)) (b:List It),R.length≤30→St1 R Bs b→ybC X1 l cs true (i:Int) false (Bs.map (List.map grp)) (b.map grp) (R.map fun x=>rf x.1 x.2):=by
  intro i R Bs b hR30 hS
  have hm:=(hS.merge hR30).1
  have hB:=hS.nB
  refine yaf rfl ⟨by rw[List.length_map];omega,_,hm,_,yzM (by omega) (fun x hx=>(hS.rk x hx).1),fun _ _=>yaf ?_ (pEnd hR30 hS.rk)⟩
  rw[List.length_map,List.length_map,beq_self_eq_true];rfl
 intro n
 induction n with
 | zero=>
   intro i R Bs b hn hi hil hiR hS
   refine hL _ _ _ _ fun _=> ?_
   have e:i=30:=by omega
   refine yaA (fun _=> ?_) (fun _=>stop i R Bs b (by omega) hS)
   rw[decide_eq_false (by omega)]
   exact stop i R Bs b (by omega) hS
 | succ n ih=>
   intro i R Bs b hn hi hil hiR hS
   refine hL _ _ _ _ fun _=> ?_
   refine yaA (fun c=> ?_) (fun _=>stop i R Bs b (by omega) hS)
   have c:i<l.length:=by simpa using c
   by_cases h30:i<30
   rotate_left
   ·rw[decide_eq_false (by omega)]
    exact stop i R Bs b (by omega) hS
   rw[decide_eq_true (by omega)]
   obtain ⟨k,p,hk,ht,g1,g2⟩:=yDq (hR _ (List.getElem_mem c))
   have hS':=hS.add hk g1 g2
   have hB:=hS.nB
   have hI:=hS.nI
   rw[List.length_append] at hI
   have hw:IntKind.i64.wrap ((i:Int)+1)=((i+1:Nat):Int):=w1 (by omega)
   have eb:b.map grp++ [grp (k,[p])]=(b++ [(k,[p])]).map grp:=by simp
   have er:(R.map fun x=>rf x.1 x.2)++ [rf k p]=(R++ [(k,p)]).map fun x=>rf x.1 x.2:=by simp
   have hRl:(R++ [(k,p)]).length=i+1:=by simp;omega
   have more:ya8 X1 (i:Int) false (Bs.map (List.map grp)) ((b++ [(k,[p])]).map grp) ((R++ [(k,p)]).map fun x=>rf x.1 x.2):=by
    refine yaf rfl ?_
    rw[hw]
    exact ih (i+1) _ _ _ (by omega) (by omega) (by omega) hRl.symm hS'
   refine yai rfl ⟨by omega,by omega,_,gAt c,_,_,ht,by rw[List.length_map];omega,by rw[List.length_map];omega,fun _=> ?_⟩
   show cnd _ (_->_/\_/\_/\∃y18:Int,_/\ya8 X1 (i:Int) _ (Bs.map (List.map grp)) (b.map grp++ [grp (k,[p])]) ((R.map fun x=>rf x.1 x.2)++ [rf k p])) (ya8 X1 (i:Int) false (Bs.map (List.map grp)) (b.map grp++ [grp (k,[p])]) ((R.map fun x=>rf x.1 x.2)++ [rf k p]))
   rw[eb,er]
   refine yaA (fun hc0=> ?_) (fun _=>more)
   intro _
   have hc0:0<cs.length:=by simpa using hc0
   have hmod:(i:Int).tmod (cs.length:Int)=((i % cs.length:Nat):Int):=rfl
   have hlt:i % cs.length<cs.length:=Nat.mod_lt _ hc0
   rw[hmod]
   refine ⟨by omega,by omega,by omega,_,gAt hlt,?_⟩
   generalize (((IntKind.i64.wrap cs[i % cs.length]).tmod (3:Int))==(0:Int))=cut
   cases cut
   ·exact more
   ·refine yai rfl ⟨_,(hS'.merge (by omega)).2,by rw[List.length_map];omega,?_⟩
    rw[hw]
    have:=ih (i+1) _ _ _ (by omega) (by omega) (by omega) hRl.symm (hS'.cut (by omega))
    rw[List.map_append] at this
    exact this
end Go.Proofs.Ytecfpoklnfaihaa
end
