/- General texts and own ones, joined: what the program computes, told of abstract states, and the laws of plain data. No condition. -/
import Derived.Test.YthgmmfojclcbpaaMa
import Derived.Test.YthgmmfojclcbpaaMc
import Derived.Maps.Views
import Derived.Sort.KeysCollected
import Derived.Sort.Walk0
import Derived.Shelf.SlIterI.Nil
import Derived.Test.YthgmmfojclcbpaaMe
import Derived.Test.YthgmmfojclcbpaaRows
import Derived.KernelRfl
noncomputable section
namespace Go.AV
open Go.RowKit Go.RG Go.Proofs Go.Maps Go.Sort
theorem yhw:∀x y:List UInt8,bytesBefore x y=Op.bytesLess x y
 | [],[]=>rfl
 | [],_::_=>rfl
 |_::_,[]=>rfl
 | a::x,b::y=>by
   simp only[bytesBefore,Op.bytesLess,yhw x y]
section
variable {α β:Type}
abbrev GL (α:Type):=List (List UInt8×α)
def gAt (L:GL α) (n:List UInt8):Option α:=(L.find? fun p=>p.1==n).map (·.2)
def gIns (p:List UInt8×α):GL α→GL α
 | []=> [p]
 | q::r=>match Op.bytesLess p.1 q.1 with
   |true=>p::q::r
   |false=>q::gIns p r
def gDel (L:GL α) (n:List UInt8):GL α:=L.filter fun p=> !(p.1==n)
def gPut (L:GL α) (n:List UInt8) (a:α):GL α:=gIns (n,a) (gDel L n)
def GS (L:GL α):Prop:=L.Pairwise fun a b=>Op.bytesLess a.1 b.1=true
theorem yh3 {p q:List UInt8×α}:∀ {L:GL α},q∈gIns p L↔q=p∨q∈L
 | []=>by simp[gIns]
 | r ::L=>by
   unfold gIns
   split
   ·simp
   ·simp only[List.mem_cons,yh3 (L:=L)]
    constructor
    ·rintro (h|h|h)
     ·exact .inr (.inl h)
     ·exact .inl h
     ·exact .inr (.inr h)
    ·rintro (h|h|h)
     ·exact .inr (.inl h)
     ·exact .inl h
     ·exact .inr (.inr h)
theorem ybG {q:List UInt8×α} {L:GL α} {n:List UInt8}:q∈gDel L n↔q∈L∧q.1≠n:=by
 unfold gDel;rw[List.mem_filter];simp
theorem ycT {q:List UInt8×α} {L:GL α} {n:List UInt8} {a:α}:q∈gPut L n a↔q=(n,a)∨(q∈L∧q.1≠n):=by
 unfold gPut;rw[yh3,ybG]
theorem yeQ {L:GL α} {n:List UInt8} (h:GS L):GS (gDel L n):=List.Pairwise.filter _ h
theorem ylH {p:List UInt8×α}:∀ {L:GL α},GS L→(∀q∈L,q.1≠p.1)→GS (gIns p L)
 | [],_,_=>List.pairwise_singleton _ _
 | r ::L,h,hn=>by
   obtain ⟨h1,h2⟩:=List.pairwise_cons.1 h
   unfold gIns
   cases hb:Op.bytesLess p.1 r.1 with
   |true=>exact List.pairwise_cons.2 ⟨fun q hq=>by
      rcases List.mem_cons.1 hq with rfl|hq
      ·exact hb
      ·exact ydh _ _ _ hb (h1 q hq),h⟩
   | false=>
     refine List.pairwise_cons.2 ⟨fun q hq=> ?_,ylH h2 fun q hq=>hn q (List.mem_cons_of_mem _ hq)⟩
     rcases yh3.1 hq with rfl|hq
     ·rcases yfu r.1 q.1 with k|k|k
      ·exact k
      ·exact absurd k (hn r List.mem_cons_self)
      ·rw[hb] at k;cases k
     ·exact h1 q hq
theorem yfP {L:GL α} {n:List UInt8} {a:α} (h:GS L):GS (gPut L n a):=ylH (yeQ h) fun q hq=>(ybG.1 hq).2
theorem ylm {f:α→β} {p:List UInt8×α}:∀ {L:GL α},(gIns p L).map (fun q=>(q.1,f q.2))=gIns (p.1,f p.2) (L.map fun q=>(q.1,f q.2))
 | []=>rfl
 | r::L=>by
   simp only[gIns,List.map_cons]
   cases hb:Op.bytesLess p.1 r.1 with
   |true=>simp
   |false=>simp[ylm (L:=L)]
theorem yms {f:α→β} {L:GL α} {n:List UInt8}:(gDel L n).map (fun q=>(q.1,f q.2))=gDel (L.map fun q=>(q.1,f q.2)) n:=by
 unfold gDel;rw[List.filter_map];rfl
theorem ypA {f:α→β} {L:GL α} {n:List UInt8} {a:α}:(gPut L n a).map (fun q=>(q.1,f q.2))=gPut (L.map fun q=>(q.1,f q.2)) n (f a):=by
 unfold gPut;rw[ylm,yms]
theorem ys7 {f:α→β} {L:GL α} {n:List UInt8}:gAt (L.map fun q=>(q.1,f q.2)) n=(gAt L n).map f:=by
 unfold gAt;rw[List.find?_map]
 simp[Function.comp_def]
theorem yfS {L:GL α} {n:List UInt8} {a:α} (h:gAt L n=some a):(n,a)∈L:=by
 unfold gAt at h
 obtain ⟨p,h1,h2⟩:=Option.map_eq_some_iff.1 h
 have:=List.find?_some h1
 have e:p.1=n:=by simpa using this
 have:=List.mem_of_find?_eq_some h1
 rw[<-e,<-h2];exact this
theorem ymf {L:GL α} {n:List UInt8} (h:gAt L n=none):∀q∈L,q.1≠n:=by
 unfold gAt at h
 have:=Option.map_eq_none_iff.1 h
 rw[List.find?_eq_none] at this
 intro q hq e
 exact this q hq (by simp[e])
theorem ytA {L:GL α} {n:List UInt8} (h:∀q∈L,q.1≠n):gAt L n=none:=by
 unfold gAt
 rw[List.find?_eq_none.2 fun q hq=>by simp[h q hq]];rfl
theorem yks {L:GL α} {n:List UInt8} (h:∀q∈L,q.1≠n):gDel L n=L:=by
 unfold gDel
 rw[List.filter_eq_self]
 intro q hq;simp[h q hq]
theorem ygh {L:GL α} (h:GS L) {n:List UInt8} {a:α} (hm:(n,a)∈L):gAt L n=some a:=by
 induction L with
 |nil=>cases hm
 | cons p L ih=>
   obtain ⟨h1,h2⟩:=List.pairwise_cons.1 h
   unfold gAt
   rw[List.find?_cons]
   rcases List.mem_cons.1 hm with e|hm
   ·rw[<-e];simp
   ·have:(p.1==n)=false:=by
     have:=h1 _ hm
     cases hb:p.1==n with
     |false=>rfl
     | true=>
       have e:p.1=n:=by simpa using hb
       rw[e,ya8] at this;cases this
    rw[this]
    exact ih h2 hm
theorem yhN:∀ {L M:GL α},GS L→GS M→(∀q,q∈L↔q∈M)→L=M
 | [],[],_,_,_=>rfl
 | [],q::M,_,_,h=>by have:=(h q).2 List.mem_cons_self;cases this
 |q::L,[],_,_,h=>by have:=(h q).1 List.mem_cons_self;cases this
 | p ::L,q::M,hL,hM,h=>by
   obtain ⟨a1,a2⟩:=List.pairwise_cons.1 hL
   obtain ⟨b1,b2⟩:=List.pairwise_cons.1 hM
   have e:p=q:=by
    rcases List.mem_cons.1 ((h p).1 List.mem_cons_self) with e|e
    ·exact e
    ·rcases List.mem_cons.1 ((h q).2 List.mem_cons_self) with e'|e'
     ·exact e'.symm
     ·have:=ydh _ _ _ (b1 p e) (a1 q e')
      rw[ya8] at this;cases this
   subst e
   congr 1
   refine yhN a2 b2 fun r=>⟨fun hr=> ?_,fun hr=> ?_⟩
   ·rcases List.mem_cons.1 ((h r).1 (List.mem_cons_of_mem _ hr)) with e|e
    ·have:=a1 r hr
     rw[e,ya8] at this;cases this
    ·exact e
   ·rcases List.mem_cons.1 ((h r).2 (List.mem_cons_of_mem _ hr)) with e|e
    ·have:=b1 r hr
     rw[e,ya8] at this;cases this
    ·exact e
theorem yoa {f:α→DataW Unit} {L:GL α} {n:List UInt8}:(gD f L).del (.string n)=gD f (gDel L n):=by
 unfold gD DataW.del gDel
 simp only[List.filter_map]
 rfl
theorem yqr {f:α→DataW Unit} {p:List UInt8×α}:∀ {L:GL α},DataW.insert (.string p.1,f p.2) (L.map fun q=>(Lit.string q.1,f q.2))=(gIns p L).map fun q=>(Lit.string q.1,f q.2)
 | []=>rfl
 | r::L=>by
   simp only[List.map_cons,DataW.insert,Lit.before,yhw,gIns]
   cases hb:Op.bytesLess p.1 r.1 with
   |true=>simp
   |false=>simp[yqr (L:=L)]
theorem ynD {f:α→DataW Unit} {L:GL α} {n:List UInt8} {a:α}:(gD f L).put (.string n) (f a)=gD f (gPut L n a):=by
 have h:=yoa (f:=f) (L:=L) (n:=n)
 unfold gD DataW.del at h
 unfold gD DataW.put gPut
 simp only[DataW.map.injEq] at h⊢
 rw[h]
 exact yqr (p:=(n,a))
theorem ytC {f:α→DataW Unit} {L:GL α} {n:List UInt8} {z:DataW Unit}:(gD f L).atKey (.string n) z=match gAt L n with
  |some a=>f a
  |none=>z:=by
 unfold gD DataW.atKey gAt
 induction L with
 |nil=>rfl
 | cons p L ih=>
   have e:(Lit.string p.1).sameKey (Lit.string n)=(p.1==n):=by simp[Lit.sameKey]
   simp only[List.map_cons,List.find?_cons,e]
   cases p.1==n with
   |true=>rfl
   |false=>exact ih
theorem ygW {f:α->DataW Unit} {L:GL α}:Maps.size (gD f L)=L.length:=by simp[gD,Maps.size]
theorem yrX {f:α→DataW Unit} {L:GL α}:strKeys (gD f L)=L.map (·.1):=by
 simp only[gD,strKeys,List.map_map]
 rfl
end
def iIns (n:Int):List Int→List Int
 | []=> [n]
 |m::r=>if n<m then n::m::r else m::iIns n r
def iDel (l:List Int) (n:Int):List Int:=l.filter fun m=> !(decide (m=n))
def iPut (l:List Int) (n:Int):List Int:=iIns n (iDel l n)
theorem yiz {n m:Int}:∀ {l:List Int},m∈iIns n l↔m=n∨m∈l
 | []=>by simp[iIns]
 | r ::l=>by
   unfold iIns
   split
   ·simp
   ·simp only[List.mem_cons,yiz (l:=l)]
    constructor
    ·rintro (h|h|h)
     ·exact .inr (.inl h)
     ·exact .inl h
     ·exact .inr (.inr h)
    ·rintro (h|h|h)
     ·exact .inr (.inl h)
     ·exact .inl h
     ·exact .inr (.inr h)
theorem yis {l:List Int} {n m:Int}:m∈iDel l n↔m∈l/\m≠n:=by unfold iDel;rw[List.mem_filter];simp
theorem ymn {l:List Int} {n m:Int}:m∈iPut l n↔m=n∨(m∈l/\m≠n):=by unfold iPut;rw[yiz,yis]
theorem yiA {l:List Int} {n:Int} (h:l.Pairwise (· < ·)):(iDel l n).Pairwise (· < ·):=List.Pairwise.filter _ h
theorem yl7 {n:Int}:∀ {l:List Int},l.Pairwise (· < ·)→n∉l→(iIns n l).Pairwise (· < ·)
 | [],_,_=>List.pairwise_singleton _ _
 | m ::l,h,hn=>by
   obtain ⟨h1,h2⟩:=List.pairwise_cons.1 h
   unfold iIns
   split
   ·rename_i hb
    exact List.pairwise_cons.2 ⟨fun q hq=>by
     rcases List.mem_cons.1 hq with rfl|hq
     ·exact hb
     ·exact Int.lt_trans hb (h1 q hq),h⟩
   ·rename_i hb
    refine List.pairwise_cons.2 ⟨fun q hq=> ?_,yl7 h2 fun q=>hn (List.mem_cons_of_mem _ q)⟩
    rcases yiz.1 hq with rfl|hq
    ·have:q≠m:=fun e=>hn (e▸List.mem_cons_self)
     omega
    ·exact h1 q hq
theorem ymq {l:List Int} {n:Int} (h:l.Pairwise (· < ·)):(iPut l n).Pairwise (· < ·):=yl7 (yiA h) fun q=>(yis.1 q).2 rfl
theorem yiD {n:Int}:∀ {l:List Int},(iIns n l).length=l.length+1
 | []=>rfl
 | m::l=>by
   unfold iIns
   split
   ·rfl
   ·simp[yiD (l:=l)]
theorem yha {l:List Int} {n:Int} (h:n∉l):iDel l n=l:=by
 unfold iDel
 rw[List.filter_eq_self]
 intro m hm
 have:m≠n:=fun e=>h (e▸hm)
 simp[this]
theorem ylq {l:List Int} {n:Int} (h:l.Pairwise (· < ·)) (hn:n∈l):(iDel l n).length+1=l.length:=by
 induction l with
 |nil=>cases hn
 | cons m l ih=>
   obtain ⟨h1,h2⟩:=List.pairwise_cons.1 h
   by_cases e:m=n
   ·subst e
    have:m∉l:=fun q=>Int.lt_irrefl _ (h1 m q)
    have:=yha this
    unfold iDel at this⊢
    simp[this]
   ·have hm:n∈l:=(List.mem_cons.1 hn).elim (fun q=>absurd q.symm e) id
    have:=ih h2 hm
    unfold iDel at this⊢
    simp[e,this]
theorem ygp {l:List Int} {n:Int}:(whoD l).del (.int .i64 n)=whoD (iDel l n):=by
 unfold whoD DataW.del iDel
 simp only[List.filter_map,DataW.map.injEq]
 congr 1
 refine List.filter_congr fun m _=> ?_
 simp[Lit.sameKey]
theorem ylX {n:Int}:∀ {l:List Int},DataW.insert (.int .i64 n,(.lit (.bool true):DataW Unit)) (l.map fun m=>(Lit.int .i64 m, .lit (.bool true)))=(iIns n l).map fun m=>(Lit.int .i64 m, .lit (.bool true))
 | []=>rfl
 | r::L=>by
   simp only[List.map_cons,DataW.insert,Lit.before,iIns]
   by_cases hb:n<r
   ·simp[hb]
   ·simp[hb,ylX (l:=L)]
theorem ylC {l:List Int} {n:Int}:(whoD l).put (.int .i64 n) (.lit (.bool true))=whoD (iPut l n):=by
 have h:=ygp (l:=l) (n:=n)
 unfold whoD DataW.del at h
 unfold whoD DataW.put iPut
 simp only[DataW.map.injEq] at h⊢
 rw[h]
 exact ylX
theorem yhk {l:List Int} {n:Int} {z:DataW Unit}:(whoD l).atKey (.int .i64 n) z=if n∈l then .lit (.bool true) else z:=by
 unfold whoD DataW.atKey
 induction l with
 |nil=>rfl
 | cons m l ih=>
   have e:(Lit.int .i64 m).sameKey (Lit.int .i64 n)=decide (m=n):=by simp[Lit.sameKey]
   simp only[List.map_cons,List.find?_cons,e]
   by_cases hb:m=n
   ·subst hb;simp
   ·have hb':¬n=m:=fun q=>hb q.symm
    simp only[hb,decide_false,List.mem_cons,hb',false_or]
    exact ih
theorem ydy {l:List Int}:Maps.size (whoD l)=l.length:=by simp[whoD,Maps.size]
theorem ypq {l:List Int}:intKeys (whoD l)=l:=by
 simp only[whoD,intKeys,List.map_map]
 conv=>rhs;rw[<-List.map_id l]
 rfl
theorem yqd {l ss:List Int} (h:l.Pairwise (· < ·)) (hp:ss.Perm l):(ss.mergeSort fun x y=>decide (x≤y))=l:=by
 have s1:(ss.mergeSort fun x y=>decide (x<=y)).Pairwise (fun a b=>decide (a<=b)=true):=List.pairwise_mergeSort (le:=fun x y:Int=>decide (x<=y)) (fun a b c h1 h2=>by simp only[decide_eq_true_eq] at*;omega) (fun a b=>by simp only[Bool.or_eq_true,decide_eq_true_eq];omega) ss
 refine (List.mergeSort_perm ss _|>.trans hp).eq_of_pairwise (le:=fun a b=>decide (a<=b)=true) ?_ s1 (h.imp fun {a b} q=>by simp only[decide_eq_true_eq];omega)
 intro a b _ _ h1 h2;simp only[decide_eq_true_eq] at h1 h2;omega
theorem ypS {l ss:List (List UInt8)} (h:l.Pairwise fun a b=>Op.bytesLess a b=true) (hp:ss.Perm l):(ss.mergeSort fun x y=>decide (x≤y))=l:=by
 have tot:∀a b:List UInt8,decide (a≤b)= !Op.bytesLess b a:=fun a b=>by
  rw[bytesLess_eq]
  by_cases q:b<a
  ·simp[q]
  ·simp[q];first|exact q|exact List.not_lt.1 q
 have s1:(ss.mergeSort fun x y=>decide (x≤y)).Pairwise (fun a b=>decide (a≤b)=true):=List.pairwise_mergeSort (le:=fun x y:List UInt8=>decide (x≤y)) (fun a b c h1 h2=>by
   rw[tot] at*
   cases hq:Op.bytesLess c a with
   |false=>rfl
   | true=>
     rcases yfu a b with k|k|k
     ·have:=ydh _ _ _ hq k
      rw[this] at h2;cases h2
     ·subst k;rw[hq] at h2;cases h2
     ·rw[k] at h1;cases h1) (fun a b=>by
   rw[tot,tot]
   cases h1:Op.bytesLess b a with
   |false=>rfl
   | true=>
     cases h2:Op.bytesLess a b with
     |false=>rfl
     |true=>have:=ydh _ _ _ h1 h2;rw[ya8] at this;cases this) ss
 refine (List.mergeSort_perm ss _|>.trans hp).eq_of_pairwise (le:=fun a b=>decide (a<=b)=true) ?_ s1 (h.imp fun {a b} q=> ?_)
 ·intro a b _ _ h1 h2
  rw[tot] at h1 h2
  rcases yfu a b with k|k|k
  ·rw[k] at h2;cases h2
  ·exact k
  ·rw[k] at h1;cases h1
 ·rw[tot]
  cases h2:Op.bytesLess b a with
  |false=>rfl
  |true=>have:=ydh _ _ _ q h2;rw[ya8] at this;cases this
theorem ycU {H:Type} {P:Program} {k:TypeId} {R:Value→Option (DataW H×List MemPlace)} {w:World} {b n:Nat} {D:DataW H} (h:w.ownsMap P k R b n D):w.ownsMap P k R b (Maps.size D) D:=by
 obtain ⟨es,clock,h1,h2,h3,h4⟩:=h
 refine ⟨es,clock,h1,h2,?_,h4⟩
 rw[h4]
 show es.size<=((es.toList.map (Go.WideElems.rg P k R)).foldr DataW.insert []).length
 rw[length_sorted];simp
end Go.AV
end
noncomputable section
namespace Go.AV
open Go.RowKit Go.RG Go.Proofs Go.Maps Go.Sort Go.Proofs.Ythgmmfojclcbpaa
theorem ydg {P:Program} {f:FuncId} {fn:Func} {c:Code} {vs:Array Value} {w:World} {R:Ending→World→Prop} (hf:P.funcs[f]? =some fn) (hname:(fn.name== "runtime.NumGoroutine")=false) (hb:fn.body=some c) (hs:f<1000000) (h:Calls P f vs w R):XW P f vs w R:=by
 rw[XW_f hs]
 unfold yei
 have h1:fn.name≠ "runtime.NumGoroutine" :=by simpa using hname
 have:(callFunc f vs).run P w= .ok (.enter f vs) w:=by simp[callFunc,hf,h1,hb,mark]
 rw[this]
 exact h
theorem vs1 {G:Gh} {u:AV} {vs:List Value} (h:VRs G [u] vs):∃x,vs= [x]∧VR G u x:=by
 obtain ⟨h1,h2⟩:=h
 match vs,h1 with
 | [x],_=>exact ⟨x,rfl,h2 0 u x rfl rfl⟩
theorem vs2 {G:Gh} {u v:AV} {vs:List Value} (h:VRs G [u,v] vs):∃x y,vs= [x,y]∧VR G u x∧VR G v y:=by
 obtain ⟨h1,h2⟩:=h
 match vs,h1 with
 | [x,y],_=>exact ⟨x,y,rfl,h2 0 u x rfl rfl,h2 1 v y rfl rfl⟩
theorem vrSt {G:Gh} {l:List UInt8} {v:Value} (h:VR G (.st l) v):∃s:ByteArray,v= .string s∧s.data.toList=l:=by
 cases h with
 |st l s h=>exact ⟨s,rfl,h⟩
theorem bsz {s:ByteArray} {l:List UInt8} (h:s.data.toList=l) (hl:l.length≤9223372036854775807):s.size≤maxLen:=by
 have:s.size=l.length:=by rw[<-h];rfl
 rw[this];exact hl
def cWh (T:CTx) (W:CWt):List AV:= [ctxA T,cwtA W]
theorem yoe:∀ {T T':CTx},(T.flatMap fun p=> [AV.st p.1,AV.st p.2])=(T'.flatMap fun p=> [AV.st p.1,AV.st p.2])→T=T'
 | [],[],_=>rfl
 | [],_::_,h=>by simp at h
 |_::_,[],h=>by simp at h
 | p::T,q::T',h=>by
   simp only[List.flatMap_cons,List.cons_append,List.nil_append,List.cons.injEq,AV.st.injEq] at h
   rw[yoe h.2.2,Prod.ext h.1 h.2.1]
theorem ynw:∀ {l l':List Int},(l.flatMap fun n=> [AV.it .i64 n])=(l'.flatMap fun n=> [AV.it .i64 n])→l=l'
 | [],[],_=>rfl
 | [],_::_,h=>by simp at h
 |_::_,[],h=>by simp at h
 | p::T,q::T',h=>by
   simp only[List.flatMap_cons,List.cons_append,List.nil_append,List.cons.injEq,AV.it.injEq] at h
   rw[ynw h.2,h.1.2]
theorem ynW:∀ {W W':CWt},(W.flatMap fun p=> [AV.st p.1, .sl false p.2.length (p.2.flatMap fun n=> [.it .i64 n])])=(W'.flatMap fun p=> [AV.st p.1, .sl false p.2.length (p.2.flatMap fun n=> [.it .i64 n])])→W=W'
 | [],[],_=>rfl
 | [],_::_,h=>by simp at h
 |_::_,[],h=>by simp at h
 | p::T,q::T',h=>by
   simp only[List.flatMap_cons,List.cons_append,List.nil_append,List.cons.injEq,AV.st.injEq,AV.sl.injEq] at h
   rw[ynW h.2.2,Prod.ext h.1 (ynw h.2.1.2.2)]
theorem yqs:∀l:List Int,dwks (l.flatMap fun n=> [AV.it .i64 n])=l.flatMap fun n=> [AV.it .i64 n]
 | []=>rfl
 |n::l=>by simp only[List.flatMap_cons,List.cons_append,List.nil_append,dwks,dwk,yqs l]
theorem yqD:∀T:CTx,dwks (T.flatMap fun p=> [AV.st p.1,AV.st p.2])=T.flatMap fun p=> [AV.st p.1,AV.st p.2]
 | []=>rfl
 |n::l=>by simp only[List.flatMap_cons,List.cons_append,List.nil_append,dwks,dwk,yqD l]
theorem yrf:∀W:CWt,dwks (W.flatMap fun p=> [AV.st p.1, .sl false p.2.length (p.2.flatMap fun n=> [.it .i64 n])])=W.flatMap fun p=> [AV.st p.1, .sl false p.2.length (p.2.flatMap fun n=> [.it .i64 n])]
 | []=>rfl
 |n::l=>by simp only[List.flatMap_cons,List.cons_append,List.nil_append,dwks,dwk,yrf l,yqs]
theorem ynB (T:CTx) (W:CWt):dwks (cWh T W)=cWh T W:=by
 simp only[cWh,ctxA,cwtA,dwks,dwk,yqD,yrf]
theorem yoW:∀l:List Int,noLs (l.flatMap fun n=> [AV.it .i64 n])=true
 | []=>rfl
 |n::l=>by simp only[List.flatMap_cons,List.cons_append,List.nil_append,noLs,AV.noL,yoW l,Bool.and_true]
theorem yqM:∀T:CTx,noLs (T.flatMap fun p=> [AV.st p.1,AV.st p.2])=true
 | []=>rfl
 |n::l=>by simp only[List.flatMap_cons,List.cons_append,List.nil_append,noLs,AV.noL,yqM l,Bool.and_true]
theorem yqN:∀W:CWt,noLs (W.flatMap fun p=> [AV.st p.1, .sl false p.2.length (p.2.flatMap fun n=> [.it .i64 n])])=true
 | []=>rfl
 |n::l=>by simp only[List.flatMap_cons,List.cons_append,List.nil_append,noLs,AV.noL,yqN l,yoW,Bool.and_true]
theorem ye8 (T:CTx) (W:CWt):noLs (cWh T W)=true:=by
 simp only[cWh,ctxA,cwtA,noLs,AV.noL,yqM,yqN,Bool.and_true]
theorem ydt {T:CTx} {W:CWt} {w:World} {b:Nat} {F:Nat→Prop} (h:opqR 1000001 (dwks (cWh T W)) w b F):yhE w b F T W:=by
 rw[ynB] at h
 obtain ⟨_,T',W',hu,hr⟩:=h
 simp only[cWh,ctxA,cwtA,List.cons.injEq,AV.sl.injEq,and_true,true_and] at hu
 obtain ⟨⟨_,e1⟩,_,e2⟩:=hu
 rw[yoe e1,ynW e2];exact hr
theorem yoZ {T:CTx} {W:CWt} {w:World} {b:Nat} {F:Nat→Prop} (h:yhE w b F T W):opqR 1000001 (dwks (cWh T W)) w b F:=by
 rw[ynB];exact ⟨rfl,T,W,rfl,h⟩
theorem yhE.nd {T:CTx} {W:CWt} {w:World} {b:Nat} {F:Nat→Prop} (h:yhE w b F T W):(∀x,F x→∀ds,w.heap[x]?≠some (.deferred ds))∧(∃o,w.heap[b]? =some o∧∀ds,o≠ .deferred ds)∧∀x,F x→x≠b∧x<w.heap.size:=by
 obtain ⟨hok,tb,wb,Z,nt,nw,h1,h2,h3,h4,h5,h6,h7⟩:=h
 have hm:∀x,F x→∃es c,w.heap[x]? =some (.map es c):=fun x hx=>by
  rcases List.mem_cons.1 ((h7 x).1 hx) with rfl|hx
  ·obtain ⟨es,c,q,_⟩:=h2;exact ⟨es,c,q⟩
  ·rcases List.mem_cons.1 hx with rfl|hx
   ·obtain ⟨es,c,q,_⟩:=h3;exact ⟨es,c,q⟩
   ·obtain ⟨z,hz,rfl⟩:=List.mem_map.1 hx
    obtain ⟨n,es,c,q,_⟩:=h5 z hz;exact ⟨es,c,q⟩
 refine ⟨fun x hx ds=> ?_,⟨_,h1,fun ds q=>(by cases q)⟩,fun x hx=>⟨fun e=> ?_,?_⟩⟩
 ·obtain ⟨es,c,q⟩:=hm x hx;rw[q];intro k;cases k
 ·subst e
  obtain ⟨es,c,q⟩:=hm x hx;rw[h1] at q;cases q
 ·obtain ⟨es,c,q⟩:=hm x hx
  exact (Array.getElem?_eq_some_iff.1 q).1
theorem ycs {T:CTx} {W:CWt} {av:AV} {w w':World} {b:Nat} {F:Nat→Prop} {v:Value} {J:Nat→Prop} (h:yhE w b F T W) (hb:b<w.heap.size) (hbl:Below w.heap.size w w') (hJ:∀x,J x→w.heap.size≤x∧x<w'.heap.size∧∀ds,w'.heap[x]?≠some (.deferred ds)) (hv:∀G':Gh,G'.w=w'→(∀x,J x→G'.I x)→VR G' av v):ygf 1000001 (cWh T W) av w b F v w' F J:=by
 obtain ⟨h1,⟨o,h2,h2'⟩,h3⟩:=h.nd
 have hs:∀x,x<w.heap.size->w'.heap[x]? =w.heap[x]? :=fun x hx=>hbl.block x hx
 refine ⟨hv,yeh (yoZ h) fun x hx=>hs x (hx.elim (fun e=>e▸hb) fun q=>(h3 x q).2),fun x hx=>⟨(h3 x hx).1,Nat.lt_of_lt_of_le (h3 x hx).2 hbl.size, .inl hx⟩,fun x hx ds=>by rw[hs x (h3 x hx).2];exact h1 x hx ds,⟨o,by rw[hs b hb];exact h2,h2'⟩,fun x hx=> ?_,fun x hx _ _=>hs x hx,hbl.size,hbl.os,hbl.tape,hbl.output⟩
 obtain ⟨j1,j2,j3⟩:=hJ x hx
 exact ⟨j1,j2,fun q=>absurd (h3 x q).2 (by omega),j3⟩
theorem ylE {w:World} {base t:Nat} {v:Value} {n:Nat} {us:List AV} {xs:List Value} (h:w.ownsRow base t 1 v n xs) (hu:∀(G:Gh) (j:Nat) (u:AV) (x:Value),us[j]? =some u→xs[j]? =some x→VR G u x∧x.oneCell'=true) (hl:us.length=n) (hq:noLs us=true):
  ∃J:Nat->Prop,(∀x,J x->base<=x/\x<w.heap.size/\∀ds,w.heap[x]?≠some (.deferred ds))/\∀G':Gh,G'.w=w->(∀x,J x->G'.I x)->VR G' (.sl false n us) v:=by
 obtain ⟨h0,h⟩:=h
 rcases h with ⟨rfl,rfl⟩|⟨g,cap,cur,rfl,hg,hh,hn,hm,hc,ht⟩
 ·exact ⟨fun _=>False,fun x hx=>hx.elim,fun G' _ _=> .nsl _ _ _ rfl (List.eq_nil_of_length_eq_zero hl)⟩
 ·refine ⟨fun x=>x=g,fun x hx=> ?_,fun G' hw hJ=> ?_⟩
  ·subst hx
   exact ⟨hg,(Array.getElem?_eq_some_iff.1 hh).1,fun ds q=>by rw[hh] at q;cases q⟩
  ·have cell:∀(j:Nat) (u:AV),us[j]? =some u→∃x,xs[j]? =some x∧cur[j]? =some x:=fun j u q=>by
    have hj:j<n:=by rw[<-hl];exact (List.getElem?_eq_some_iff.1 q).1
    have hj':j<xs.length:=by rw[h0];omega
    refine ⟨xs[j],List.getElem?_eq_getElem hj',?_⟩
    have:(cur.toList.take (n*1))[j]? =some xs[j]:=by rw[ht];exact List.getElem?_eq_getElem hj'
    rw[List.getElem?_take_of_lt (by omega)] at this
    simpa using this
   refine .sl n us g 0 cap (fun j=>(cur[j]?).getD undef) (hJ g rfl) (fun j u q=> ?_) (fun j u q=> ?_) (fun j u q=> ?_) hn (Nat.le_trans hn hm) hq
   ·obtain ⟨x,a,b⟩:=cell j u q
    rw[hw]
    simp[World.cell?,hh,b]
   ·obtain ⟨x,a,b⟩:=cell j u q
    rw[b];exact (hu G' j u x q a).1
   ·obtain ⟨x,a,b⟩:=cell j u q
    rw[b];exact (hu G' j u x q a).2
def txAt (T:CTx) (n:List UInt8):List UInt8:=(gAt T n).getD []
def whAt (W:CWt) (n:List UInt8):List Int:=(gAt W n).getD []
def ydf (T:CTx) (n t:List UInt8):CTx:=if t=txAt T n then T else if t= [] then gDel T n else gPut T n t
def ybt (W:CWt) (n:List UInt8) (i:Int):CWt:=if i∈whAt W n then W else gPut W n (iPut (whAt W n) i)
def ybO (W:CWt) (n:List UInt8) (i:Int):CWt:=if i∈whAt W n then (if iDel (whAt W n) i= [] then gDel W n else gPut W n (iDel (whAt W n) i)) else W
def isA (l:List Int):AV:= .sl false l.length (l.flatMap fun n=> [.it .i64 n])
theorem yq0 {s:Value} {l:List UInt8} {ps:List MemPlace} (h:plainElem (H:=Unit) Try.prog 9 s=some (.lit (.string l),ps)):∃x:ByteArray,s= .string x∧x.data.toList=l:=by
 unfold plainElem at h
 rw[Try.underlying9] at h
 cases s<;>simp at h
 rename_i x
 exact ⟨x,rfl,h.2.1⟩
theorem yhd {T:CTx} {n:List UInt8}:(txD T).atKey (.string n) (.lit (.string []))= .lit (.string (txAt T n)):=by
 unfold txD txAt
 rw[ytC]
 cases gAt T n<;>rfl
theorem yvp (T:CTx) (W:CWt) (n:List UInt8) (hn:n.length≤9223372036854775807):∀H m,yae Try.prog 13 [.pt (.l 2000000 1) 0, .st n] (mem1 1000001 (cWh T W)) H m fun av' S1=>av'= .st (txAt T n)∧S1={lSt (mem1 1000001 (cWh T W)) H m with M:=updK (lSt (mem1 1000001 (cWh T W)) H m).M (.l 2000000 1) (some ⟨1000001,0,cWh T W⟩)}:=by
 refine yiv (by decide) rfl rfl (ye8 _ _) fun G b F vs hg hrep hb hF hV=> ?_
 obtain ⟨x,rfl,hx⟩:=vs1 hV
 obtain ⟨s,rfl,hs⟩:=vrSt hx
 have hr:=ydt hrep
 obtain ⟨hok,tb,wb,Z,nt,nw,h1,h2,h3,h4,h5,h6,h7⟩:=hr
 have c0:G.w.cell? ⟨b,0,none⟩=some (.map (some tb)):=by simp[World.cell?,h1]
 refine (ydg Try.func13 (by kernel_rfl) rfl (by decide) (yrx b tb nt (txD T) s G.w c0 h2 (bsz hs hn))).mono ?_
 rintro e w' ⟨sv,ps,rfl,hsv,rfl⟩
 rw[hs,yhd] at hsv
 obtain ⟨y,rfl,hy⟩:=yq0 hsv
 exact ⟨_,F,fun _=>False,rfl,ycs ⟨hok,tb,wb,Z,nt,nw,h1,h2,h3,h4,h5,h6,h7⟩ hb (Below.refl _ _) (fun x hx=>hx.elim) fun G' _ _=> .st _ _ hy⟩
theorem yu4 (T:CTx) (W:CWt):∀H m,yae Try.prog 17 [.pt (.l 2000000 1) 0] (mem1 1000001 (cWh T W)) H m fun av' S1=>av'= .it .i64 (T.length:Int)∧S1={lSt (mem1 1000001 (cWh T W)) H m with M:=updK (lSt (mem1 1000001 (cWh T W)) H m).M (.l 2000000 1) (some ⟨1000001,0,cWh T W⟩)}:=by
 refine yiv (by decide) rfl rfl (ye8 _ _) fun G b F vs hg hrep hb hF hV=> ?_
 have hvs:vs= []:=List.eq_nil_of_length_eq_zero hV.1
 subst hvs
 have hr:=ydt hrep
 obtain ⟨hok,tb,wb,Z,nt,nw,h1,h2,h3,h4,h5,h6,h7⟩:=hr
 have c0:G.w.cell? ⟨b,0,none⟩=some (.map (some tb)):=by simp[World.cell?,h1]
 refine (ydg Try.func17 (by kernel_rfl) rfl (by decide) (yrZ b tb nt (txD T) G.w c0 h2)).mono ?_
 rintro e w' ⟨rfl,rfl⟩
 refine ⟨_,F,fun _=>False,rfl,ycs ⟨hok,tb,wb,Z,nt,nw,h1,h2,h3,h4,h5,h6,h7⟩ hb (Below.refl _ _) (fun x hx=>hx.elim) fun G' _ _=> ?_⟩
 unfold txD;rw[ygW];exact .it _ _
theorem ynt (T:CTx) (W:CWt):∀H m,yae Try.prog 16 [.pt (.l 2000000 1) 0] (mem1 1000001 (cWh T W)) H m fun av' S1=>av'= .it .i64 (wSum W)∧S1={lSt (mem1 1000001 (cWh T W)) H m with M:=updK (lSt (mem1 1000001 (cWh T W)) H m).M (.l 2000000 1) (some ⟨1000001,0,cWh T W⟩)}:=by
 refine yiv (by decide) rfl rfl (ye8 _ _) fun G b F vs hg hrep hb hF hV=> ?_
 have hvs:vs= []:=List.eq_nil_of_length_eq_zero hV.1
 subst hvs
 have hr:=ydt hrep
 obtain ⟨hok,tb,wb,Z,nt,nw,h1,h2,h3,h4,h5,h6,h7⟩:=hr
 have c2:G.w.cell? ⟨b,2,none⟩=some (.int .i64 (wSum W)):=by simp[World.cell?,h1]
 refine (ydg Try.func16 (by kernel_rfl) rfl (by decide) (ykL b (wSum W) G.w c2)).mono ?_
 rintro e w' ⟨rfl,rfl⟩
 exact ⟨_,F,fun _=>False,rfl,ycs ⟨hok,tb,wb,Z,nt,nw,h1,h2,h3,h4,h5,h6,h7⟩ hb (Below.refl _ _) (fun x hx=>hx.elim) fun G' _ _=> .it _ _⟩
end Go.AV
end
noncomputable section
namespace Go.AV
open Go.RowKit Go.RG Go.Proofs Go.Maps Go.Sort Go.Proofs.Ythgmmfojclcbpaa
theorem ykc {α:Type} {p:List UInt8×α}:∀ {L:GL α},(gIns p L).Perm (p::L)
 | []=> .refl _
 | q::L=>by
   unfold gIns
   split
   ·exact .refl _
   ·exact (List.Perm.cons q ykc).trans (List.Perm.swap p q L)
theorem yg6 {α:Type} {L:GL α} {n:List UInt8} {a:α} (hs:GS L) (h:(n,a)∈L):L.Perm ((n,a)::gDel L n):=by
 induction L with
 |nil=>cases h
 | cons p L ih=>
   obtain ⟨h1,h2⟩:=List.pairwise_cons.1 hs
   rcases List.mem_cons.1 h with e|h
   ·have hno:∀q∈L,q.1≠n:=fun q hq k=>by
     have:=h1 q hq
     rw[k,<-e,ya8] at this;cases this
    have:gDel (p::L) n=L:=by
     have:=yks hno
     unfold gDel at this⊢
     rw[<-e];simpa using this
    rw[this,e]
   ·have hp:(p.1==n)=false:=by
     cases hb:p.1==n with
     |false=>rfl
     | true=>
       have e:p.1=n:=by simpa using hb
       have:=h1 _ h
       rw[e,ya8] at this;cases this
    have e:gDel (p::L) n=p::gDel L n:=by unfold gDel;simp[hp]
    rw[e]
    exact (List.Perm.cons p (ih h2 h)).trans (List.Perm.swap (n,a) p _)
theorem yja {α:Type} {L:GL α} {n:List UInt8} {a:α}:(gPut L n a).Perm ((n,a)::gDel L n):=ykc
theorem yjj {W W':CWt} (h:W.Perm W'):wSum W=wSum W':=by
 induction h with
 |nil=>rfl
 |cons x _ ih=>simp only[wSum,List.map_cons,List.sum_cons] at*;omega
 |swap x y l=>simp only[wSum,List.map_cons,List.sum_cons];omega
 |trans _ _ h1 h2=>exact h1.trans h2
theorem yhm {p:List UInt8×List Int} {W:CWt}:wSum (p::W)=p.2.length+wSum W:=by simp[wSum]
theorem yep:∀ {W:CWt},0≤wSum W
 | []=>by simp[wSum]
 |p::W=>by rw[yhm];have:= @yep W;omega
theorem ykU {W:CWt} (hs:GS W) {n:List UInt8} {l:List Int} (h:(n,l)∈W):wSum W=l.length+wSum (gDel W n):=by
 rw[yjj (yg6 hs h),yhm]
theorem yfQ {W:CWt} {n:List UInt8} {l:List Int}:wSum (gPut W n l)=l.length+wSum (gDel W n):=by
 rw[yjj yja,yhm]
theorem yq7 {Z:CZ} (h:GS (zW Z)):GS Z:=by
 unfold GS zW at h
 rw[List.pairwise_map] at h
 exact h
theorem ymI {Z:CZ} {n:List UInt8}:gAt (zW Z) n=(gAt Z n).map (·.1):=ys7 (f:=fun z:List Int×Nat=>z.1)
theorem ynq {Z:CZ} {n:List UInt8} {z:List Int×Nat}:zW (gPut Z n z)=gPut (zW Z) n z.1:=ypA (f:=fun z:List Int×Nat=>z.1)
theorem yqC {Z:CZ} {n:List UInt8}:zW (gDel Z n)=gDel (zW Z) n:=yms (f:=fun z:List Int×Nat=>z.1)
theorem yhV {Z:CZ} {n:List UInt8} {l:List Int} {b:Nat} (h:(n,l,b)∈Z):(n,l)∈zW Z:=List.mem_map_of_mem (f:=fun z:List UInt8×List Int×Nat=>(z.1,z.2.1)) h
theorem ynh {Z:CZ} {n:List UInt8}:(wtD Z).atKey (.string n) (.lit (.bool false))=match gAt Z n with
  |some z=> .lit (.int .u64 (z.2:Int))
  |none=> .lit (.bool false):=by
 unfold wtD;rw[ytC]
 cases gAt Z n<;>rfl
theorem yli:∀l:List Int,(l.flatMap fun n=> [AV.it .i64 n])=l.map (AV.it .i64)
 | []=>rfl
 |n::l=>by simp only[List.flatMap_cons,List.map_cons,List.cons_append,List.nil_append,yli l]
structure ydC (w:World) (g tb wb:Nat) (Z:CZ) (nt nw:Nat) (T:CTx) (k:Int):Prop where
 hd:w.heap[g]? =some (.cells #[.map (some tb), .map (some wb), .int .i64 k] 48 (0,0))
 tx:w.ownsMap Try.prog 9 (plainElem Try.prog 9) tb nt (txD T)
 wt:w.ownsMap Try.prog 9 ybe wb nw (wtD Z)
 inn:∀z∈Z,∃n,w.ownsMap Try.prog 3 (plainElem Try.prog 4) z.2.2 n (whoD z.2.1)
 nd:(g::tb::wb::zB Z).Nodup
theorem ydC.same {w w':World} {g tb wb:Nat} {Z:CZ} {nt nw:Nat} {T:CTx} {k:Int} (h:ydC w g tb wb Z nt nw T k) (hs:∀x,x∈g::tb::wb::zB Z→w'.heap[x]? =w.heap[x]?):ydC w' g tb wb Z nt nw T k:=
 ⟨(hs g (by simp)).trans h.hd,yaf h.tx (hs tb (by simp)),yaf h.wt (hs wb (by simp)),fun z hz=>by
   obtain ⟨n,hn⟩:=h.inn z hz
   exact ⟨n,yaf hn (hs z.2.2 (by simp only[List.mem_cons];exact .inr (.inr (.inr (List.mem_map_of_mem (f:=fun z:List UInt8×List Int×Nat=>z.2.2) hz)))))⟩,h.nd⟩
theorem ydC.lt {w:World} {g tb wb:Nat} {Z:CZ} {nt nw:Nat} {T:CTx} {k:Int} (h:ydC w g tb wb Z nt nw T k):∀x,x∈g::tb::wb::zB Z→x<w.heap.size:=by
 intro x hx
 simp only[List.mem_cons] at hx
 rcases hx with rfl|rfl|rfl|hx
 ·exact (Array.getElem?_eq_some_iff.1 h.hd).1
 ·exact h.tx.lt
 ·exact h.wt.lt
 ·obtain ⟨z,hz,rfl⟩:=List.mem_map.1 hx
  obtain ⟨n,hn⟩:=h.inn z hz
  exact hn.lt
theorem yfO {w w':World} {b tb wb:Nat} {F J:Nat→Prop} {T T':CTx} {W':CWt} {Z Z':CZ} {nt nw nt' nw':Nat} {k:Int} {av:AV} {v:Value} (h0:ydC w b tb wb Z nt nw T k) (hF:∀x,F x↔x∈tb::wb::zB Z) (h1:ydC w' b tb wb Z' nt' nw' T' (wSum W')) (ok:yj1 T' W') (hW:W'=zW Z')
  (hz:∀x∈zB Z',x∈zB Z∨w.heap.size<=x) (hs:∀x,x<w.heap.size->x∉b::tb::wb::zB Z->w'.heap[x]? =w.heap[x]?) (h2:w.heap.size<=w'.heap.size) (h3:w'.os=w.os) (h4:w'.tape=w.tape) (h5:w'.output=w.output)
  (hJ:∀x,J x->w.heap.size<=x/\x<w'.heap.size/\x∉zB Z'/\∀ds,w'.heap[x]?≠some (.deferred ds)) (hv:∀G':Gh,G'.w=w'->(∀x,J x->G'.I x)->VR G' av v):ygf 1000001 (cWh T' W') av w b F v w' (fun x=>x∈tb::wb::zB Z') J:=by
 have hr:yhE w' b (fun x=>x∈tb::wb::zB Z') T' W':=⟨ok,tb,wb,Z',nt',nw',h1.hd,h1.tx,h1.wt,hW,h1.inn,h1.nd,fun x=>Iff.rfl⟩
 obtain ⟨n1,n2,n3⟩:=hr.nd
 refine ⟨hv,yoZ hr,fun x hx=>⟨(n3 x hx).1,(n3 x hx).2,?_⟩,n1,n2,fun x hx=> ?_,fun x hx hb hf=>hs x hx ?_,h2,h3,h4,h5⟩
 ·simp only[List.mem_cons] at hx
  rcases hx with rfl|rfl|hx
  ·exact .inl ((hF _).2 (by simp))
  ·exact .inl ((hF _).2 (by simp))
  ·exact (hz x hx).imp (fun q=>(hF x).2 (by simp[q])) id
 ·obtain ⟨j1,j2,j3,j4⟩:=hJ x hx
  refine ⟨j1,j2,fun q=> ?_,j4⟩
  simp only[List.mem_cons] at q
  rcases q with rfl|rfl|q
  ·exact absurd (h0.lt _ (by simp)) (Nat.not_lt.2 j1)
  ·exact absurd (h0.lt _ (by simp)) (Nat.not_lt.2 j1)
  ·exact j3 q
 ·rw[List.mem_cons]
  rintro (q|q)
  ·exact hb q
  ·exact hf ((hF x).2 q)
theorem yhx {w:World} {sb tb wb nt nw:Nat} {Z:CZ} {T:CTx} {k:Int} (h:ydC w sb tb wb Z nt nw T k) (hso:∀z∈Z,z.2.1.Pairwise (· < ·)) {s:ByteArray} {n:List UInt8} (hs:s.data.toList=n) (hn:n.length≤9223372036854775807) (hl:(whAt (zW Z) n).length*8≤140737488355328):
  Calls Try.prog 14 #[.pointer (some ⟨sb,0,none⟩), .string s] w fun e w'=>∃v,e= .returned v/\Below w.heap.size w w'/\∃J:Nat->Prop,(∀x,J x->w.heap.size<=x/\x<w'.heap.size/\∀ds,w'.heap[x]?≠some (.deferred ds))/\∀G':Gh,G'.w=w'->(∀x,J x->G'.I x)->VR G' (isA (whAt (zW Z) n)) v:=by
 have c1:w.cell? ⟨sb,1,none⟩=some (.map (some wb)):=by simp[World.cell?,h.hd]
 have hat:=ynh (Z:=Z) (n:=n)
 cases hq:gAt Z n with
 | none=>
   rw[hq] at hat
   have e:whAt (zW Z) n= []:=by unfold whAt;rw[ymI,hq];rfl
   refine (yjk sb wb nw (wtD Z) s w c1 h.wt (bsz hs hn) (by rw[hs];exact hat)).mono ?_
   rintro e' w' ⟨rfl,hb⟩
   exact ⟨_,rfl,hb,fun _=>False,fun x hx=>hx.elim,fun G' _ _=>by rw[e];exact .nsl _ _ _ rfl rfl⟩
 | some z=>
   rw[hq] at hat
   have e:whAt (zW Z) n=z.1:=by unfold whAt;rw[ymI,hq];rfl
   rw[e] at hl⊢
   have hm:=yfS hq
   obtain ⟨m,hin⟩:=h.inn _ hm
   have hz1:(whoD z.1:DataW Unit)=whoD z.1:=rfl
   refine (yi4 sb wb nw z.2 m (wtD Z) (whoD z.1) _ s w c1 h.wt (bsz hs hn) (by rw[hs];exact hat) hin (by rw[ydy];unfold maxLen;omega) (by rw[ydy];exact hl)).mono ?_
   rintro e' w' ⟨v,ss,rfl,hp,hrow,_,hb⟩
   rw[ypq] at hp
   rw[yqd (hso _ hm) hp,hp.length_eq] at hrow
   obtain ⟨J,j1,j2⟩:=ylE (us:=z.1.flatMap fun n=> [AV.it .i64 n]) hrow (fun G j u x p q=>by
    rw[yli,List.getElem?_map] at p
    rw[List.getElem?_map] at q
    cases hj:z.1[j]? with
    |none=>rw[hj] at p;cases p
    | some i=>
      rw[hj] at p q
      simp only[Option.map_some,Option.some.injEq] at p q
      rw[<-p,<-q]
      exact ⟨.it _ _,rfl⟩) (by rw[yli];simp) (yoW _)
   exact ⟨v,rfl,hb,J,j1,j2⟩
end Go.AV
end
noncomputable section
namespace Go.AV
open Go.RowKit Go.RG Go.Proofs Go.Maps Go.Sort Go.Proofs.Ythgmmfojclcbpaa
def CEnd (us us':List AV) (av:AV) (H:Hp) (m:Nat) (av':AV) (S1:St):Prop:=av'=av/\S1={lSt (mem1 1000001 us) H m with M:=updK (lSt (mem1 1000001 us) H m).M (.l 2000000 1) (some ⟨1000001,0,us'⟩)}
theorem yvR:∀H m,yae Try.prog 6 [] (fun _=>none) H m fun av S1=>av= .pt (.l 1000000 1) 0∧S1={lSt (fun _=>none) H m with M:=updK (lSt (fun _=>none) H m).M (.l 1000000 1) (some ⟨1000001,0,cWh [] []⟩)}:=by
 refine yvn (by decide) rfl (ye8 _ _) fun G vs hg hV=> ?_
 have hvs:vs= #[]:=by
  have:=hV.1
  simpa using this
 subst hvs
 refine (ydg Try.func6 (by kernel_rfl) rfl (by decide) (ysd G.w)).mono ?_
 rintro e w' ⟨rfl,rfl⟩
 have s1:=ydm G.w (.map #[] 0)
 have s2:=ydm (G.w.alloc (.map #[] 0)) (.map #[] 0)
 have s3:=ydm ((G.w.alloc (.map #[] 0)).alloc (.map #[] 0)) (.cells #[.map (some G.w.heap.size), .map (some (G.w.heap.size+1)), .int .i64 0] 48 (0,0))
 have hr:=yrP G.w
 have hr':yhE (newW G.w) (G.w.heap.size+2) (fun x=>x=G.w.heap.size∨x=G.w.heap.size+1) [] []:=ydt (T:= []) (W:= []) (by rw[ynB];exact hr)
 obtain ⟨n1,n2,n3⟩:=hr'.nd
 have hsz:(newW G.w).heap.size=G.w.heap.size+3:=by unfold newW;rw[s3,s2,s1]
 have hb:Below G.w.heap.size G.w (newW G.w):=by
  unfold newW
  exact (((Below.refl _ G.w).alloc (Nat.le_refl _) _).alloc (by rw[s1];omega) _).alloc (by rw[s2,s1];omega) _
 refine ⟨G.w.heap.size+2,fun x=>x=G.w.heap.size∨x=G.w.heap.size+1,rfl,⟨by omega,by show _<(newW G.w).heap.size;rw[hsz];omega⟩,yoZ hr',fun x hx=>⟨(n3 x hx).1,(n3 x hx).2,by rcases hx with q|q<;>omega⟩,n1,n2,fun x hx=>hb.block x hx,hb.size,hb.os,hb.tape,hb.output⟩
theorem yok (T:CTx) (W:CWt) (n:List UInt8) (hn:n.length≤9223372036854775807) (hl:(whAt W n).length*8≤140737488355328):∀H m,yae Try.prog 14 [.pt (.l 2000000 1) 0, .st n] (mem1 1000001 (cWh T W)) H m (CEnd (cWh T W) (cWh T W) (isA (whAt W n)) H m):=by
 refine yiv (by decide) rfl rfl (ye8 _ _) fun G b F vs hg hrep hb hF hV=> ?_
 obtain ⟨x,rfl,hx⟩:=vs1 hV
 obtain ⟨s,rfl,hs⟩:=vrSt hx
 obtain ⟨hok,tb,wb,Z,nt,nw,h1,h2,h3,h4,h5,h6,h7⟩:=ydt hrep
 subst h4
 refine (ydg Try.func14 (by kernel_rfl) rfl (by decide) (yhx ⟨h1,h2,h3,h5,h6⟩ (fun z hz=>(hok.who _ (yhV hz)).2.1) hs hn hl)).mono ?_
 rintro e w' ⟨v,rfl,hbl,J,j1,j2⟩
 exact ⟨v,F,J,rfl,ycs ⟨hok,tb,wb,Z,nt,nw,h1,h2,h3,rfl,h5,h6,h7⟩ hb hbl j1 j2⟩
theorem ydC.tight {w:World} {g tb wb:Nat} {Z:CZ} {nt nw:Nat} {T:CTx} {k:Int} (h:ydC w g tb wb Z nt nw T k):ydC w g tb wb Z T.length Z.length T k:=
 ⟨h.hd,by have:=ycU h.tx;rwa[show Maps.size (txD T)=T.length from ygW] at this,by have:=ycU h.wt;rwa[show Maps.size (wtD Z)=Z.length from ygW] at this,h.inn,h.nd⟩
theorem yc3 {w w':World} {b:Nat} (h:w.mapTurned w' b):w'.heap.size=w.heap.size∧w'.os=w.os∧w'.tape=w.tape∧w'.output=w.output∧∀x,x≠b→w'.heap[x]? =w.heap[x]? :=by
 obtain ⟨es,clock,es',clock',hb,rfl⟩:=h
 refine ⟨Array.size_setIfInBounds ..,rfl,rfl,rfl,fun x hx=> ?_⟩
 show (w.heap.setIfInBounds b _)[x]? =_
 simp[Array.getElem?_setIfInBounds,hx.symm]
theorem yvb (T:CTx) (W:CWt) (n t:List UInt8) (hn:n.length≤9223372036854775807) (ht:t.length≤9223372036854775807) (hT:T.length<9223372036854775807) (hl:(whAt W n).length*8≤140737488355328):
  ∀H m,yae Try.prog 11 [.pt (.l 2000000 1) 0, .st n, .st t] (mem1 1000001 (cWh T W)) H m (CEnd (cWh T W) (cWh (ydf T n t) W) (isA (if t=txAt T n then [] else whAt W n)) H m):=by
 refine yiv (by decide) rfl rfl (ye8 _ _) fun G b F vs hg hrep hb hF hV=> ?_
 obtain ⟨x,y,rfl,hx,hy⟩:=vs2 hV
 obtain ⟨s,rfl,hs⟩:=vrSt hx
 obtain ⟨u,rfl,hu⟩:=vrSt hy
 obtain ⟨hok,tb,wb,Z,nt,nw,h1,h2,h3,h4,h5,h6,h7⟩:=ydt hrep
 subst h4
 have hP:=ydC.tight ⟨h1,h2,h3,h5,h6⟩
 have c0:G.w.cell? ⟨b,0,none⟩=some (.map (some tb)):=by simp[World.cell?,h1]
 by_cases e:t=txAt T n
 ·refine (ydg Try.func11 (by kernel_rfl) rfl (by decide) (ypZ b tb nt (txD T) s u G.w c0 h2 (bsz hs hn) (by rw[hs,hu,yhd,e]))).mono ?_
  rintro e' w' ⟨rfl,rfl⟩
  rw[show ydf T n t=T from if_pos e,if_pos e]
  exact ⟨_,F,fun _=>False,rfl,ycs ⟨hok,tb,wb,Z,nt,nw,h1,h2,h3,rfl,h5,h6,h7⟩ hb (Below.refl _ _) (fun x hx=>hx.elim) fun G' _ _=> .nsl _ _ _ rfl rfl⟩
 ·rw [if_neg e]
  have hnd:=h6
  simp only[List.nodup_cons,List.mem_cons,not_or] at hnd
  obtain ⟨⟨d1,d2,d3⟩,⟨d4,d5⟩,d6,d7⟩:=hnd
  have goOn:∀(T':CTx) (nt':Nat),ydf T n t=T'→yj1 T' (zW Z)→∀w1,w1.ownsMap Try.prog 9 (plainElem Try.prog 9) tb nt' (txD T')→G.w.mapTurned w1 tb→Calls Try.prog 14 #[.pointer (some ⟨b,0,none⟩), .string s] w1 fun en w2=>∃v,en= .returned v∧∃F' J,ygf 1000001 (cWh T' (zW Z)) (isA (whAt (zW Z) n)) G.w b F v w2 F' J:=by
   intro T' nt' hT' ok' w1 ho1 ht1
   obtain ⟨t1,t2,t3,t4,t5⟩:=yc3 ht1
   have hP1:ydC w1 b tb wb Z nt' Z.length T' (wSum (zW Z)):=⟨(t5 b d1).trans hP.hd,ho1,yaf hP.wt (t5 wb (fun q=>d4 q.symm)),fun z hz=>by
    obtain ⟨n',hn'⟩:=hP.inn z hz
    exact ⟨n',yaf hn' (t5 _ fun q=>d5 (by rw[<-q];exact List.mem_map_of_mem (f:=fun z:List UInt8×List Int×Nat=>z.2.2) hz))⟩,hP.nd⟩
   refine (yhx hP1 (fun z hz=>(hok.who _ (yhV hz)).2.1) hs hn hl).mono ?_
   rintro en w2 ⟨v,rfl,hbl,J,j1,j2⟩
   have hP2:ydC w2 b tb wb Z nt' Z.length T' (wSum (zW Z)):=hP1.same fun x hx=>hbl.block x (hP1.lt x hx)
   refine ⟨v,rfl,_,J,yfO hP h7 hP2 ok' rfl (fun x q=> .inl q) (fun x q1 q2=> ?_) (by have:=hbl.size;omega) (hbl.os.trans t2) (hbl.tape.trans t3) (hbl.output.trans t4) (fun x hx=> ?_) j2⟩
   ·rw[hbl.block x (by omega)]
    exact t5 x fun q=>q2 (by simp[q])
   ·obtain ⟨a1,a2,a3⟩:=j1 x hx
    refine ⟨by omega,a2,fun q=> ?_,a3⟩
    have:=hP1.lt x (by simp only[List.mem_cons];exact .inr (.inr (.inr q)))
    omega
  by_cases e2:t= []
  ·have hTs:ydf T n t=gDel T n:=by unfold ydf;rw[if_neg e,if_pos e2]
   refine (ydg Try.func11 (by kernel_rfl) rfl (by decide) (ysq b tb T.length (txD T) s u ⟨(txAt T n).toArray⟩ G.w (fun v w2=>∃F' J,ygf 1000001 (cWh (gDel T n) (zW Z)) (isA (whAt (zW Z) n)) G.w b F v w2 F' J) c0 d1 hP.tx hT (bsz hs hn) (bsz hu ht) (by rw[hs,yhd]) ?_ ?_ ?_)).mono ?_
   ·rw[Go.ByteArray.toList_eq,Go.ByteArray.toList_eq,hu]
    show ((txAt T n).toArray.toList==t)=false
    cases hbq:(txAt T n).toArray.toList==t with
    |false=>rfl
    |true=>exact absurd (by simpa using hbq) fun q:txAt T n=t=>e q.symm
   ·rw[Go.ByteArray.toList_eq,hu,e2];rfl
   ·intro w1 ho1 ht1
    rw[hs,hu] at ho1
    unfold txD at ho1
    rw[ynD (f:=fun t=>(DataW.lit (.string t):DataW Unit)),yoa] at ho1
    have hdd:gDel (gPut T n t) n=gDel T n:=by
     refine yhN (yeQ (yfP hok.tx)) (yeQ hok.tx) fun q=> ?_
     rw[ybG,ycT,ybG]
     exact ⟨fun h=>⟨(h.1.resolve_left fun k=>h.2 (by rw[k])).1,h.2⟩,fun h=>⟨.inr ⟨h.1,h.2⟩,h.2⟩⟩
    rw[hdd] at ho1
    exact goOn _ _ hTs ⟨yeQ hok.tx,fun p hp=>hok.txn p (ybG.1 hp).1,hok.wt,hok.who,hok.sm⟩ w1 ho1 ht1
   ·rintro en w' ⟨v,rfl,F',J,q⟩
    rw[hTs];exact ⟨v,F',J,rfl,q⟩
  ·have hTs:ydf T n t=gPut T n t:=by unfold ydf;rw[if_neg e,if_neg e2]
   refine (ydg Try.func11 (by kernel_rfl) rfl (by decide) (yrA b tb T.length (txD T) s u ⟨(txAt T n).toArray⟩ G.w (fun v w2=>∃F' J,ygf 1000001 (cWh (gPut T n t) (zW Z)) (isA (whAt (zW Z) n)) G.w b F v w2 F' J) c0 d1 hP.tx hT (bsz hs hn) (bsz hu ht) (by rw[hs,yhd]) ?_ ?_ ?_)).mono ?_
   ·rw[Go.ByteArray.toList_eq,Go.ByteArray.toList_eq,hu]
    show ((txAt T n).toArray.toList==t)=false
    cases hbq:(txAt T n).toArray.toList==t with
    |false=>rfl
    |true=>exact absurd (by simpa using hbq) fun q:txAt T n=t=>e q.symm
   ·rw[Go.ByteArray.toList_eq,hu]
    cases t with
    |nil=>exact absurd rfl e2
    |cons _ _=>rfl
   ·intro w1 ho1 ht1
    rw[hs,hu] at ho1
    unfold txD at ho1
    rw[ynD (f:=fun t=>(DataW.lit (.string t):DataW Unit))] at ho1
    refine goOn _ _ hTs ⟨yfP hok.tx,fun p hp=> ?_,hok.wt,hok.who,hok.sm⟩ w1 ho1 ht1
    rcases ycT.1 hp with q|q
    ·rw[q];exact e2
    ·exact hok.txn p q.1
   ·rintro en w' ⟨v,rfl,F',J,q⟩
    rw[hTs];exact ⟨v,F',J,rfl,q⟩
end Go.AV
end
noncomputable section
namespace Go.AV
open Go.RowKit Go.RG Go.Proofs Go.Maps Go.Sort Go.Proofs.Ythgmmfojclcbpaa
theorem vrIt {G:Gh} {k:IntKind} {n:Int} {v:Value} (h:VR G (.it k n) v):v= .int k n:=by
 cases h with
 |it k n=>rfl
theorem yiW {α:Type} {L:GL α} (hs:GS L) {n:List UInt8} {a c:α} (h:(n,a)∈L):gPut L n c=L.map fun z=>if z.1=n then (n,c) else z:=by
 have h1:GS (L.map fun z=>if z.1=n then (n,c) else z):=by
  unfold GS
  rw[List.pairwise_map]
  refine hs.imp fun {x y} q=> ?_
  have e:∀z:List UInt8×α,(if z.1=n then (n,c) else z).1=z.1:=fun z=>by
   split
   ·rename_i e;exact e.symm
   ·rfl
  rw[e,e];exact q
 refine yhN (yfP hs) h1 fun q=> ?_
 rw[ycT,List.mem_map]
 constructor
 ·rintro (rfl|⟨q1,q2⟩)
  ·exact ⟨_,h,by simp⟩
  ·exact ⟨q,q1,by rw[if_neg q2]⟩
 ·rintro ⟨z,z1,rfl⟩
  split
  ·exact .inl rfl
  ·rename_i e;exact .inr ⟨z1,e⟩
theorem ynS {Z:CZ} (hs:GS Z) {n:List UInt8} {l l':List Int} {b:Nat} (h:(n,l,b)∈Z):zB (gPut Z n (l',b))=zB Z:=by
 rw[yiW hs h]
 unfold zB
 rw[List.map_map]
 refine List.map_congr_left fun z hz=> ?_
 show (if z.1=n then (n,l',b) else z).2.2=z.2.2
 split
 ·rename_i e
  have h1:=ygh hs h
  have h2:=ygh hs (show (n,z.2)∈Z by rw[<-e];exact hz)
  rw[h1] at h2
  rw[<-Option.some.inj h2]
 ·rfl
theorem ypH {w:World} {b tb wb:Nat} {k j:Int} (h:w.heap[b]? =some (.cells #[.map (some tb), .map (some wb), .int .i64 k] 48 (0,0))):(w.setCell ⟨b,2,none⟩ (.int .i64 j)).heap[b]? =some (.cells #[.map (some tb), .map (some wb), .int .i64 j] 48 (0,0)):=by
 rw[yqz,if_pos rfl,h];rfl
theorem ydT {w:World} {b x:Nat} {v:Value} (h:x≠b):(w.setCell ⟨b,2,none⟩ v).heap[x]? =w.heap[x]? :=by rw[yqz,if_neg h]
theorem yh9 {w:World} {b:Nat} {v:Value}:(w.setCell ⟨b,2,none⟩ v).heap.size=w.heap.size:=by simp[World.setCell]
theorem w64 {k:Int} (h1: -9223372036854775808≤k) (h2:k≤9223372036854775807):Go.RowKit.wrap64 k=k:=by
 unfold Go.RowKit.wrap64;omega
theorem ykJ {T:CTx} {W:CWt} (h:yj1 T W) {n:List UInt8} {l:List Int} (h0:l≠ []) (h1:l.Pairwise (· < ·)) (h2:∀i∈l,-9223372036854775808≤i∧i≤9223372036854775807) (h3:wSum (gPut W n l)≤9223372036854775807):yj1 T (gPut W n l):=
 ⟨h.tx,h.txn,yfP h.wt,fun p hp=>by
   rcases ycT.1 hp with rfl|q
   ·exact ⟨h0,h1,h2⟩
   ·exact h.who p q.1,h3⟩
theorem yk3 {W:CWt} (hs:GS W) {n:List UInt8}:wSum W=(whAt W n).length+wSum (gDel W n):=by
 unfold whAt
 cases hq:gAt W n with
 |none=>rw[yks (ymf hq)];simp
 |some l=>exact ykU hs (yfS hq)
theorem yse (T:CTx) (W:CWt) (n:List UInt8) (i:Int) (hn:n.length≤9223372036854775807) (hi0: -9223372036854775808≤i) (hi1:i≤9223372036854775807) (hW:W.length<9223372036854775807) (hsm:wSum W<9223372036854775807):
  ∀H m,yae Try.prog 8 [.pt (.l 2000000 1) 0, .st n, .it .i64 i] (mem1 1000001 (cWh T W)) H m (CEnd (cWh T W) (cWh T (ybt W n i)) (.bl (!decide (i∈whAt W n))) H m):=by
 refine yiv (by decide) rfl rfl (ye8 _ _) fun G b F vs hg hrep hb hF hV=> ?_
 obtain ⟨x,y,rfl,hx,hy⟩:=vs2 hV
 obtain ⟨s,rfl,hs⟩:=vrSt hx
 have hy':=vrIt hy
 subst hy'
 obtain ⟨hok,tb,wb,Z,nt,nw,h1,h2,h3,h4,h5,h6,h7⟩:=ydt hrep
 subst h4
 have hZ:=yq7 hok.wt
 have hwf:(Lit.int .i64 i).wf=true:=wf64.2 ⟨hi0,hi1⟩
 have hP:=ydC.tight ⟨h1,h2,h3,h5,h6⟩
 have c1:G.w.cell? ⟨b,1,none⟩=some (.map (some wb)):=by simp[World.cell?,h1]
 have c2:G.w.cell? ⟨b,2,none⟩=some (.int .i64 (wSum (zW Z))):=by simp[World.cell?,h1]
 have z2:G.w.frozen? ⟨b,2,none⟩=false:=by simp[World.frozen?,h1]
 have hnd:=h6
 simp only[List.nodup_cons,List.mem_cons,not_or] at hnd
 obtain ⟨⟨d1,d2,d3⟩,⟨d4,d5⟩,d6,d7⟩:=hnd
 have hat:=ynh (Z:=Z) (n:=n)
 have hsum:=yep (W:=zW Z)
 have hwl:(zW Z).length=Z.length:=by simp[zW]
 cases hq:gAt Z n with
 | none=>
   rw[hq] at hat
   have e:whAt (zW Z) n= []:=by unfold whAt;rw[ymI,hq];rfl
   have hW':ybt (zW Z) n i=zW (gPut Z n ([i],G.w.heap.size)):=by
    unfold ybt;rw[e,if_neg (by simp),ynq];rfl
   have hdn:=yks (ymf hq)
   have hsW:wSum (ybt (zW Z) n i)=wSum (zW Z)+1:=by
    unfold ybt;rw[e,if_neg (by simp),yfQ,<-yqC,hdn]
    show ((iPut [] i).length:Int)+_=_
    rw[show (iPut [] i).length=1 from rfl];omega
   refine (ydg Try.func8 (by kernel_rfl) rfl (by decide) (yo3 b wb Z.length (wSum (zW Z)) (wtD Z) s i G.w c1 c2 z2 d2 hP.wt (bsz hs hn) hwf (by rw[<-hwl];exact hW) (by rw[hs];exact hat))).mono ?_
   rintro e' w' ⟨rfl,w1,w2,ho1,ht1,hin2,ht2,rfl⟩
   obtain ⟨t1,t2,t3,t4,t5⟩:=yc3 ht1
   obtain ⟨u1,u2,u3,u4,u5⟩:=yc3 ht2
   rw[w64 (by omega) (by omega)]
   rw[hs] at ho1
   unfold wtD at ho1
   rw[ynD (f:=fun z:List Int×Nat=>(DataW.lit (.int .u64 (z.2:Int)):DataW Unit)) (a:=([i],G.w.heap.size))] at ho1
   rw[show ((DataW.map []):DataW Unit)=whoD [] from rfl,ylC] at hin2
   have asz:=ydm G.w (.map #[] 0)
   have aa:∀x,x<G.w.heap.size->(G.w.alloc (.map #[] 0)).heap[x]? =G.w.heap[x]? :=fun x hx=>ygu _ _ hx
   have far:∀x,x<G.w.heap.size→x≠b→x≠wb→(w2.setCell ⟨b,2,none⟩ (.int .i64 (wSum (zW Z)+1))).heap[x]? =G.w.heap[x]? :=fun x hx hxb hxw=>by
    rw[ydT hxb,u5 x (by omega),t5 x hxw,aa x hx]
   have hP':ydC (w2.setCell ⟨b,2,none⟩ (.int .i64 (wSum (zW Z)+1))) b tb wb (gPut Z n ([i],G.w.heap.size)) T.length (Z.length+1) T (wSum (zW Z)+1):=by
    have lb:=hP.lt b (by simp)
    have lw:=hP.lt wb (by simp)
    refine ⟨ypH (k:=wSum (zW Z)) ?_,yaf hP.tx (far tb (hP.lt tb (by simp)) (fun q=>d1 q.symm) d4),yaf ho1 ?_,fun z hz=> ?_,?_⟩
    ·rw[u5 b (by omega),t5 b d2,aa b lb];exact h1
    ·rw[ydT (fun q=>d2 q.symm),u5 wb (by omega)]
    ·rcases ycT.1 hz with rfl|⟨hz,_⟩
     ·exact ⟨_,yaf hin2 (ydT (by show G.w.heap.size≠b;omega))⟩
     ·obtain ⟨n',hn'⟩:=hP.inn z hz
      have hm:z.2.2∈zB Z:=List.mem_map_of_mem (f:=fun z:List UInt8×List Int×Nat=>z.2.2) hz
      exact ⟨n',yaf hn' (far _ (hP.lt _ (by simp[hm])) (fun q=>d3 (q▸hm)) (fun q=>d6 (q▸hm)))⟩
    ·have hp:(zB (gPut Z n ([i],G.w.heap.size))).Perm (G.w.heap.size::zB Z):=by
      have:=(yja (L:=Z) (n:=n) (a:=(([i],G.w.heap.size):List Int×Nat))).map fun z:List UInt8×List Int×Nat=>z.2.2
      rw[hdn] at this;exact this
     have hp2:(b::tb::wb::zB (gPut Z n ([i],G.w.heap.size))).Perm (G.w.heap.size::b::tb::wb::zB Z):=by
      refine (List.Perm.cons b (List.Perm.cons tb (List.Perm.cons wb hp))).trans ?_
      refine (List.Perm.cons b (List.Perm.cons tb (List.Perm.swap _ _ _))).trans ?_
      exact (List.Perm.cons b (List.Perm.swap _ _ _)).trans (List.Perm.swap _ _ _)
     rw[hp2.nodup_iff,List.nodup_cons]
     exact ⟨fun q=>absurd (hP.lt _ q) (Nat.lt_irrefl _),h6⟩
   refine ⟨_,fun x=>x∈tb::wb::zB (gPut Z n ([i],G.w.heap.size)),fun _=>False,rfl,?_⟩
   rw[e]
   refine yfO (W':=ybt (zW Z) n i) hP h7 (by rw[hsW];exact hP') ?_ hW' (fun x hx=> ?_) (fun x q1 q2=> ?_) ?_ ?_ ?_ ?_ (fun x hx=>hx.elim) fun G' _ _=> .bl _
   ·have hi:iPut [] i= [i]:=rfl
    have:ybt (zW Z) n i=gPut (zW Z) n [i]:=by unfold ybt;rw[e,if_neg (by simp),hi]
    rw[this] at hsW⊢
    refine ykJ hok (by simp) (List.pairwise_singleton _ _) (fun j hj=> ?_) (by rw[hsW];omega)
    rw[List.mem_singleton] at hj;subst hj;exact ⟨hi0,hi1⟩
   ·obtain ⟨z,hz,rfl⟩:=List.mem_map.1 hx
    rcases ycT.1 hz with rfl|⟨hz,_⟩
    ·exact .inr (Nat.le_refl _)
    ·exact .inl (List.mem_map_of_mem (f:=fun z:List UInt8×List Int×Nat=>z.2.2) hz)
   ·simp only[List.mem_cons,not_or] at q2
    exact far x q1 q2.1 q2.2.2.1
   ·rw[yh9,u1,t1,asz];omega
   ·exact (show _=w2.os from rfl).trans (u2.trans t2)
   ·exact (show _=w2.tape from rfl).trans (u3.trans t3)
   ·exact (show _=w2.output from rfl).trans (u4.trans t4)
 | some z=>
   obtain ⟨l,blk⟩:=z
   rw[hq] at hat
   have e:whAt (zW Z) n=l:=by unfold whAt;rw[ymI,hq];rfl
   have hm:=yfS hq
   obtain ⟨m,hin⟩:=h5 _ hm
   have hin:=ycU hin
   rw[ydy] at hin
   have hmb:blk∈zB Z:=List.mem_map_of_mem (f:=fun z:List UInt8×List Int×Nat=>z.2.2) hm
   have hwa:=hok.who _ (yhV hm)
   have hsl:=ykU hok.wt (yhV hm)
   have hnn:=yep (W:=gDel (zW Z) n)
   by_cases hil:i∈l
   ·have hadd:ybt (zW Z) n i=zW Z:=by unfold ybt;rw[e,if_pos hil]
    refine (ydg Try.func8 (by kernel_rfl) rfl (by decide) (ymy b wb nw blk l.length (wtD Z) (whoD l) s i G.w c1 h3 (bsz hs hn) hwf (by rw[hs];exact hat) hin (by rw[yhk,if_pos hil]))).mono ?_
    rintro e' w' ⟨rfl,rfl⟩
    rw[hadd,e]
    exact ⟨_,F,fun _=>False,rfl,ycs ⟨hok,tb,wb,Z,nt,nw,h1,h2,h3,rfl,h5,h6,h7⟩ hb (Below.refl _ _) (fun x hx=>hx.elim) fun G' _ _=>by simp only[hil,decide_true,Bool.not_true];exact .bl _⟩
   ·have hW':ybt (zW Z) n i=zW (gPut Z n (iPut l i,blk)):=by unfold ybt;rw[e,if_neg hil,ynq]
    have hil':(iPut l i).length=l.length+1:=by unfold iPut;rw[yiD,yha hil]
    have hsW:wSum (ybt (zW Z) n i)=wSum (zW Z)+1:=by
     unfold ybt;rw[e,if_neg hil,yfQ,hil'];omega
    have lb:b≠blk:=fun q=>d3 (q▸hmb)
    refine (ydg Try.func8 (by kernel_rfl) rfl (by decide) (ynJ b wb nw blk l.length (wSum (zW Z)) (wtD Z) (whoD l) s i G.w c1 c2 z2 d2 h3 (bsz hs hn) hwf lb (by rw[hs];exact hat) hin (by unfold maxLen;omega) (by rw[yhk,if_neg hil]))).mono ?_
    rintro e' w' ⟨rfl,w1,hin1,ht1,rfl⟩
    obtain ⟨t1,t2,t3,t4,t5⟩:=yc3 ht1
    rw[w64 (by omega) (by omega)]
    rw[ylC] at hin1
    have far:∀x,x≠b→x≠blk→(w1.setCell ⟨b,2,none⟩ (.int .i64 (wSum (zW Z)+1))).heap[x]? =G.w.heap[x]? :=fun x hxb hxw=>by
     rw[ydT hxb,t5 x hxw]
    have hzb:=ynS hZ (l':=iPut l i) hm
    have hwt:wtD (gPut Z n (iPut l i,blk))=wtD Z:=by
     unfold wtD gD
     rw[yiW hZ hm,List.map_map]
     congr 1
     refine List.map_congr_left fun z hz=> ?_
     by_cases ez:z.1=n
     ·have h1:=ygh hZ hm
      have h2:=ygh hZ (show (n,z.2)∈Z by rw[<-ez];exact hz)
      rw[h1] at h2
      have:z=(n,l,blk):=Prod.ext ez (Option.some.inj h2).symm
      subst this;simp
     ·simp[ez]
    have hP':ydC (w1.setCell ⟨b,2,none⟩ (.int .i64 (wSum (zW Z)+1))) b tb wb (gPut Z n (iPut l i,blk)) T.length nw T (wSum (zW Z)+1):=by
     refine ⟨ypH (k:=wSum (zW Z)) ((t5 b lb).trans h1),yaf hP.tx (far tb (fun q=>d1 q.symm) (fun q=>d5 (q▸hmb))),by rw[hwt];exact yaf h3 (far wb (fun q=>d2 q.symm) (fun q=>d6 (q▸hmb))),fun z hz=> ?_,by rw[hzb];exact h6⟩
     rcases ycT.1 hz with rfl|⟨hz,hzn⟩
     ·exact ⟨_,yaf hin1 (ydT (fun q=>lb q.symm))⟩
     ·obtain ⟨n',hn'⟩:=hP.inn z hz
      have hm':z.2.2∈zB Z:=List.mem_map_of_mem (f:=fun z:List UInt8×List Int×Nat=>z.2.2) hz
      refine ⟨n',yaf hn' (far _ (fun q=>d3 (q▸hm')) fun q=> ?_)⟩
      have hp:=(yg6 hZ hm).map fun z:List UInt8×List Int×Nat=>z.2.2
      have hd:=hp.nodup_iff.1 d7
      rw[List.map_cons,List.nodup_cons] at hd
      exact hd.1 (List.mem_map.2 ⟨z,ybG.2 ⟨hz,hzn⟩,q⟩)
    refine ⟨_,fun x=>x∈tb::wb::zB (gPut Z n (iPut l i,blk)),fun _=>False,rfl,?_⟩
    rw[e]
    refine yfO (W':=ybt (zW Z) n i) hP h7 (by rw[hsW];exact hP') ?_ hW' (fun x hx=> .inl (by rw[hzb] at hx;exact hx)) (fun x q1 q2=> ?_) (by rw[yh9,t1];exact Nat.le_refl _) ?_ ?_ ?_ (fun x hx=>hx.elim) fun G' _ _=>by simp only[hil,decide_false,Bool.not_false];exact .bl _
    ·have:ybt (zW Z) n i=gPut (zW Z) n (iPut l i):=by unfold ybt;rw[e,if_neg hil]
     rw[this] at hsW⊢
     refine ykJ hok (fun q=>by rw[q] at hil';simp at hil') (ymq hwa.2.1) (fun j hj=> ?_) (by rw[hsW];omega)
     rcases ymn.1 hj with rfl|q
     ·exact ⟨hi0,hi1⟩
     ·exact hwa.2.2 j q.1
    ·simp only[List.mem_cons,not_or] at q2
     exact far x q2.1 fun q=>q2.2.2.2 (q▸hmb)
    ·exact (show _=w1.os from rfl).trans t2
    ·exact (show _=w1.tape from rfl).trans t3
    ·exact (show _=w1.output from rfl).trans t4
end Go.AV
end
noncomputable section
namespace Go.AV
open Go.RowKit Go.RG Go.Proofs Go.Maps Go.Sort Go.Proofs.Ythgmmfojclcbpaa
theorem yo5 (T:CTx) (W:CWt) (n:List UInt8) (i:Int) (hn:n.length≤9223372036854775807) (hi0: -9223372036854775808≤i) (hi1:i≤9223372036854775807):
  ∀H m,yae Try.prog 10 [.pt (.l 2000000 1) 0, .st n, .it .i64 i] (mem1 1000001 (cWh T W)) H m (CEnd (cWh T W) (cWh T (ybO W n i)) (.bl (decide (i∈whAt W n))) H m):=by
 refine yiv (by decide) rfl rfl (ye8 _ _) fun G b F vs hg hrep hb hF hV=> ?_
 obtain ⟨x,y,rfl,hx,hy⟩:=vs2 hV
 obtain ⟨s,rfl,hs⟩:=vrSt hx
 have hy':=vrIt hy
 subst hy'
 obtain ⟨hok,tb,wb,Z,nt,nw,h1,h2,h3,h4,h5,h6,h7⟩:=ydt hrep
 subst h4
 have hZ:=yq7 hok.wt
 have hwf:(Lit.int .i64 i).wf=true:=wf64.2 ⟨hi0,hi1⟩
 have hP:=ydC.tight ⟨h1,h2,h3,h5,h6⟩
 have c1:G.w.cell? ⟨b,1,none⟩=some (.map (some wb)):=by simp[World.cell?,h1]
 have c2:G.w.cell? ⟨b,2,none⟩=some (.int .i64 (wSum (zW Z))):=by simp[World.cell?,h1]
 have z2:G.w.frozen? ⟨b,2,none⟩=false:=by simp[World.frozen?,h1]
 have hnd:=h6
 simp only[List.nodup_cons,List.mem_cons,not_or] at hnd
 obtain ⟨⟨d1,d2,d3⟩,⟨d4,d5⟩,d6,d7⟩:=hnd
 have hat:=ynh (Z:=Z) (n:=n)
 have hsum:=yep (W:=zW Z)
 cases hq:gAt Z n with
 | none=>
   rw[hq] at hat
   have e:whAt (zW Z) n= []:=by unfold whAt;rw[ymI,hq];rfl
   have hsub:ybO (zW Z) n i=zW Z:=by unfold ybO;rw[e,if_neg (by simp)]
   refine (ydg Try.func10 (by kernel_rfl) rfl (by decide) (yji b wb nw (wtD Z) s i G.w c1 h3 (bsz hs hn) hwf (by rw[hs];exact hat))).mono ?_
   rintro e' w' ⟨rfl,rfl⟩
   rw[hsub,e]
   exact ⟨_,F,fun _=>False,rfl,ycs ⟨hok,tb,wb,Z,nt,nw,h1,h2,h3,rfl,h5,h6,h7⟩ hb (Below.refl _ _) (fun x hx=>hx.elim) fun G' _ _=>by simp only[List.not_mem_nil,decide_false];exact .bl _⟩
 | some z=>
   obtain ⟨l,blk⟩:=z
   rw[hq] at hat
   have e:whAt (zW Z) n=l:=by unfold whAt;rw[ymI,hq];rfl
   have hm:=yfS hq
   obtain ⟨m,hin⟩:=h5 _ hm
   have hin:=ycU hin
   rw[ydy] at hin
   have hmb:blk∈zB Z:=List.mem_map_of_mem (f:=fun z:List UInt8×List Int×Nat=>z.2.2) hm
   have hwa:=hok.who _ (yhV hm)
   have hsl:=ykU hok.wt (yhV hm)
   have hnn:=yep (W:=gDel (zW Z) n)
   have hsm:=hok.sm
   have hd0:blk∉(gDel Z n).map fun z:List UInt8×List Int×Nat=>z.2.2:=by
    have hp:=(yg6 hZ hm).map fun z:List UInt8×List Int×Nat=>z.2.2
    have hd:=hp.nodup_iff.1 d7
    rw[List.map_cons,List.nodup_cons] at hd
    exact hd.1
   by_cases hil:i∈l
   rotate_left
   ·have hsub:ybO (zW Z) n i=zW Z:=by unfold ybO;rw[e,if_neg hil]
    refine (ydg Try.func10 (by kernel_rfl) rfl (by decide) (yjF b wb nw blk l.length (wtD Z) (whoD l) s i G.w c1 h3 (bsz hs hn) hwf (by rw[hs];exact hat) hin (by rw[yhk,if_neg hil]))).mono ?_
    rintro e' w' ⟨rfl,rfl⟩
    rw[hsub,e]
    exact ⟨_,F,fun _=>False,rfl,ycs ⟨hok,tb,wb,Z,nt,nw,h1,h2,h3,rfl,h5,h6,h7⟩ hb (Below.refl _ _) (fun x hx=>hx.elim) fun G' _ _=>by simp only[hil,decide_false];exact .bl _⟩
   ·have hdl:(iDel l i).length+1=l.length:=ylq hwa.2.1 hil
    have lb:b≠blk:=fun q=>d3 (q▸hmb)
    have lw:wb≠blk:=fun q=>d6 (q▸hmb)
    by_cases hem:iDel l i= []
    ·have hdl:l.length=1:=by rw[← hdl,hem];rfl
     have hsub:ybO (zW Z) n i=gDel (zW Z) n:=by unfold ybO;rw[e,if_pos hil,if_pos hem]
     have hW':ybO (zW Z) n i=zW (gDel Z n):=by rw[hsub,yqC]
     have hsW:wSum (ybO (zW Z) n i)=wSum (zW Z)-1:=by rw[hsub];omega
     refine (ydg Try.func10 (by kernel_rfl) rfl (by decide) (yjD b wb nw blk l.length (wSum (zW Z)) (wtD Z) (whoD l) s i G.w c1 c2 z2 d2 h3 (bsz hs hn) hwf lb lw (by rw[hs];exact hat) hin (by rw[yhk,if_pos hil]) 0 (by rw[ygp,ydy,hem];rfl))).mono ?_
     rintro e' w' ⟨rfl,w1,w2,hin1,ht1,ho2,ht2,rfl⟩
     obtain ⟨t1,t2,t3,t4,t5⟩:=yc3 ht1
     obtain ⟨u1,u2,u3,u4,u5⟩:=yc3 ht2
     rw[w64 (by omega) (by omega)]
     rw[hs] at ho2
     unfold wtD at ho2
     rw[yoa] at ho2
     have far:∀x,x≠b→x≠blk→x≠wb→(w2.setCell ⟨b,2,none⟩ (.int .i64 (wSum (zW Z)-1))).heap[x]? =G.w.heap[x]? :=fun x hxb hxw hxv=>by
      rw[ydT hxb,u5 x hxv,t5 x hxw]
     have hzs:∀x,x∈zB (gDel Z n)→x∈zB Z:=fun x hx=>by
      obtain ⟨z,hz,rfl⟩:=List.mem_map.1 hx
      exact List.mem_map_of_mem (f:=fun z:List UInt8×List Int×Nat=>z.2.2) (ybG.1 hz).1
     have hP':ydC (w2.setCell ⟨b,2,none⟩ (.int .i64 (wSum (zW Z)-1))) b tb wb (gDel Z n) T.length nw T (wSum (zW Z)-1):=by
      refine ⟨ypH (k:=wSum (zW Z)) ((u5 b d2).trans ((t5 b lb).trans h1)),yaf hP.tx (far tb (fun q=>d1 q.symm) (fun q=>d5 (q▸hmb)) d4),yaf ho2 (ydT (fun q=>d2 q.symm)),fun z hz=> ?_,?_⟩
      ·obtain ⟨n',hn'⟩:=hP.inn z (ybG.1 hz).1
       have hm':z.2.2∈zB Z:=List.mem_map_of_mem (f:=fun z:List UInt8×List Int×Nat=>z.2.2) (ybG.1 hz).1
       exact ⟨n',yaf hn' (far _ (fun q=>d3 (q▸hm')) (fun q=>hd0 (List.mem_map.2 ⟨z,hz,q⟩)) (fun q=>d6 (q▸hm')))⟩
      ·have hsb:(zB (gDel Z n)).Sublist (zB Z):=(List.filter_sublist (l:=Z)).map _
       exact h6.sublist (List.Sublist.cons_cons _ (List.Sublist.cons_cons _ (List.Sublist.cons_cons _ hsb)))
     refine ⟨_,fun x=>x∈tb::wb::zB (gDel Z n),fun _=>False,rfl,?_⟩
     rw[e]
     refine yfO (W':=ybO (zW Z) n i) hP h7 (by rw[hsW];exact hP') ?_ hW' (fun x hx=> .inl (hzs x hx)) (fun x q1 q2=> ?_) (by rw[yh9,u1,t1];exact Nat.le_refl _) ?_ ?_ ?_ (fun x hx=>hx.elim) fun G' _ _=>by simp only[hil,decide_true];exact .bl _
     ·rw[hsub] at hsW⊢
      exact ⟨hok.tx,hok.txn,yeQ hok.wt,fun p hp=>hok.who p (ybG.1 hp).1,by rw[hsW];omega⟩
     ·simp only[List.mem_cons,not_or] at q2
      exact far x q2.1 (fun q=>q2.2.2.2 (q▸hmb)) q2.2.2.1
     ·exact (show _=w2.os from rfl).trans (u2.trans t2)
     ·exact (show _=w2.tape from rfl).trans (u3.trans t3)
     ·exact (show _=w2.output from rfl).trans (u4.trans t4)
    ·have hsub:ybO (zW Z) n i=gPut (zW Z) n (iDel l i):=by unfold ybO;rw[e,if_pos hil,if_neg hem]
     have hW':ybO (zW Z) n i=zW (gPut Z n (iDel l i,blk)):=by rw[hsub,ynq]
     have hsW:wSum (ybO (zW Z) n i)=wSum (zW Z)-1:=by rw[hsub,yfQ];omega
     obtain ⟨r,hr⟩:∃r,(iDel l i).length=r+1:=by
      cases hc:iDel l i with
      |nil=>exact absurd hc hem
      |cons _ q=>exact ⟨q.length,rfl⟩
     refine (ydg Try.func10 (by kernel_rfl) rfl (by decide) (yje b wb nw blk l.length (wSum (zW Z)) (wtD Z) (whoD l) s i G.w c1 c2 z2 d2 h3 (bsz hs hn) hwf lb lw (by rw[hs];exact hat) hin (by rw[yhk,if_pos hil]) r (by rw[ygp,ydy,hr]))).mono ?_
     rintro e' w' ⟨rfl,w1,hin1,ht1,rfl⟩
     obtain ⟨t1,t2,t3,t4,t5⟩:=yc3 ht1
     rw[w64 (by omega) (by omega)]
     rw[ygp] at hin1
     have far:∀x,x≠b→x≠blk→(w1.setCell ⟨b,2,none⟩ (.int .i64 (wSum (zW Z)-1))).heap[x]? =G.w.heap[x]? :=fun x hxb hxw=>by
      rw[ydT hxb,t5 x hxw]
     have hzb:=ynS hZ (l':=iDel l i) hm
     have hwt:wtD (gPut Z n (iDel l i,blk))=wtD Z:=by
      unfold wtD gD
      rw[yiW hZ hm,List.map_map]
      congr 1
      refine List.map_congr_left fun z hz=> ?_
      by_cases ez:z.1=n
      ·have h1:=ygh hZ hm
       have h2:=ygh hZ (show (n,z.2)∈Z by rw[<-ez];exact hz)
       rw[h1] at h2
       have:z=(n,l,blk):=Prod.ext ez (Option.some.inj h2).symm
       subst this;simp
      ·simp[ez]
     have hP':ydC (w1.setCell ⟨b,2,none⟩ (.int .i64 (wSum (zW Z)-1))) b tb wb (gPut Z n (iDel l i,blk)) T.length nw T (wSum (zW Z)-1):=by
      refine ⟨ypH (k:=wSum (zW Z)) ((t5 b lb).trans h1),yaf hP.tx (far tb (fun q=>d1 q.symm) (fun q=>d5 (q▸hmb))),by rw[hwt];exact yaf h3 (far wb (fun q=>d2 q.symm) (fun q=>d6 (q▸hmb))),fun z hz=> ?_,by rw[hzb];exact h6⟩
      rcases ycT.1 hz with rfl|⟨hz,hzn⟩
      ·exact ⟨_,yaf hin1 (ydT (fun q=>lb q.symm))⟩
      ·obtain ⟨n',hn'⟩:=hP.inn z hz
       have hm':z.2.2∈zB Z:=List.mem_map_of_mem (f:=fun z:List UInt8×List Int×Nat=>z.2.2) hz
       exact ⟨n',yaf hn' (far _ (fun q=>d3 (q▸hm')) fun q=>hd0 (List.mem_map.2 ⟨z,ybG.2 ⟨hz,hzn⟩,q⟩))⟩
     refine ⟨_,fun x=>x∈tb::wb::zB (gPut Z n (iDel l i,blk)),fun _=>False,rfl,?_⟩
     rw[e]
     refine yfO (W':=ybO (zW Z) n i) hP h7 (by rw[hsW];exact hP') ?_ hW' (fun x hx=> .inl (by rw[hzb] at hx;exact hx)) (fun x q1 q2=> ?_) (by rw[yh9,t1];exact Nat.le_refl _) ?_ ?_ ?_ (fun x hx=>hx.elim) fun G' _ _=>by simp only[hil,decide_true];exact .bl _
     ·rw[hsub] at hsW⊢
      exact ykJ hok hem (yiA hwa.2.1) (fun j hj=>hwa.2.2 j (yis.1 hj).1) (by rw[hsW];omega)
     ·simp only[List.mem_cons,not_or] at q2
      exact far x q2.1 fun q=>q2.2.2.2 (q▸hmb)
     ·exact (show _=w1.os from rfl).trans t2
     ·exact (show _=w1.tape from rfl).trans t3
     ·exact (show _=w1.output from rfl).trans t4
end Go.AV
end
noncomputable section
namespace Go.AV
open Go.RowKit Go.RG Go.Proofs Go.Maps Go.Sort Go.Proofs.Ythgmmfojclcbpaa
theorem wp_v {P:Program} {o:Oper} {a:Act} {w w':World} {v:Value} {next:Act→World→Prop} {Q:Exit→Act→World→Prop} (h:(execOp a.eval o).run P w= .ok (.value v) w') (k:next (a.put o.dst v) w'):o.wp P a w next Q:=by
 unfold Oper.wp;rw[h];exact k
theorem wp_c {P:Program} {o:Oper} {a:Act} {w:World} {f:FuncId} {vs:Array Value} {next:Act→World→Prop} {Q:Exit→Act→World→Prop} (hx:(execOp a.eval o).run P w= .ok (.enter f vs) w) (h:Calls P f vs w fun e w'=>∃v,e= .returned v∧next (a.put o.dst v) w'):o.wp P a w next Q:=by
 unfold Oper.wp;rw[hx]
 refine Calls.mono h ?_
 rintro e w' ⟨v,rfl,k⟩
 exact k
theorem yhS {a:Act} {d:Nat} {v:Value} (h:d<a.tmps.size):(a.put (some d) v).eval (.tmp d)=v:=by
 simp[Act.put,Act.eval,Array.getD,h]
theorem ysn {a:Act} {d t:Nat} {v:Value} (h:t≠d):(a.put (some d) v).eval (.tmp t)=a.eval (.tmp t):=by
 simp only[Act.put,Act.eval,Array.getD_eq_getD_getElem?]
 rw[Array.getElem?_setIfInBounds_ne (fun e=>h e.symm)]
theorem ye7 {a:Act} {d:Nat} {v:Value}:(a.put (some d) v).tmps.size=a.tmps.size:=by simp[Act.put]
theorem ygb {a:Act} {d t:Nat} {v:Value} (h:t≠d):(a.put (some d) v).tmps[t]? =a.tmps[t]? :=by
 simp only[Act.put]
 rw[Array.getElem?_setIfInBounds_ne (fun e=>h e.symm)]
theorem yqT {a:Act} {d:Nat} {v:Value} (h:d<a.tmps.size):(a.put (some d) v).tmps[d]? =some v:=by simp[Act.put,h]
theorem fa0 (b:Nat) (w:World):(Instr.fieldAt 48 (.pointer (some ⟨b,0,none⟩)) 0).run Try.prog w= .ok (.pointer (some ⟨b,0,none⟩)) w:=by kernel_rfl
theorem ld0 (b:Nat) (m:Value) (w:World) (h:w.cell? ⟨b,0,none⟩=some m):(Instr.loadAt 45 (.pointer (some ⟨b,0,none⟩))).run Try.prog w= .ok m w:=by
 simp only[Instr.loadAt,Instr.sureAddr,loadVar]
 simp[run_underlying Try.underlying45,run_load,h]
theorem yr9 {o:Op} {t:Nat} {x:Operand} (h:opFA o=some (t,x)):o= .fieldAddr t x 0:=by
 unfold opFA at h
 split at h
 ·cases h;rfl
 ·cases h
theorem ysW {o:Op} {t e:Nat} (h:opLd o=some (t,e)):o= .load t (.tmp e):=by
 unfold opLd at h
 split at h
 ·cases h;rfl
 ·cases h
theorem yo4 {o:Op} {f e:Nat} (h:opCl o=some (f,e)):∃c:Call,o= .call c∧c.callee= .value (.func f)∧c.args.toList= [.tmp e]:=by
 unfold opCl at h
 split at h
 ·rename_i c
  split at h
  ·rename_i f' e' h1 h2
   cases h
   refine ⟨c,rfl,?_,?_⟩
   ·unfold clF at h1
    split at h1
    ·rename_i q;cases h1;exact q
    ·cases h1
   ·unfold ag1 at h2
    split at h2
    ·rename_i q;cases h2;exact q
    ·cases h2
  ·cases h
 ·cases h
theorem yti {o:Op} {y:Nat} (h:opMv o=some y):o= .move (.tmp y):=by
 unfold opMv at h
 split at h
 ·cases h;rfl
 ·cases h
theorem yr8 {o:Op} {t e f:Nat} (h:opLk o=some (t,e,f)):o= .lookup t (.tmp e) (.tmp f) false:=by
 unfold opLk at h
 split at h
 ·cases h;rfl
 ·cases h
theorem ykD {o1 o2 o3 o4:Oper} {m:HkM} (h:hkN o1 o2 o3 o4=some m):
  (∃d1 d2 d3 d4 x c3 c4,o1.dst=some d1/\o1.op= .fieldAddr 48 x 0/\o2.dst=some d2/\o2.op= .load 45 (.tmp d1)/\o3.dst=some d3/\o3.op= .call c3/\c3.callee= .value (.func 22)/\c3.args.toList= [.tmp d2]/\o4.dst=some d4/\o4.op= .call c4/\c4.callee= .value (.func 21)/\c4.args.toList= [.tmp d3]/\m=⟨0,3,[x],d4,[d1,d2,d3]⟩)∨
  ∃d1 d2 d3 d4 x y,o1.dst=some d1/\o1.op= .fieldAddr 48 x 0/\o2.dst=some d2/\o2.op= .load 45 (.tmp d1)/\o3.dst=some d3/\o3.op= .move (.tmp y)/\o4.dst=some d4/\o4.op= .lookup 45 (.tmp d2) (.tmp d3) false/\y≠d1/\y≠d2/\d2≠d3/\m=⟨1,3,[x, .tmp y],d4,[d1,d2,d3]⟩:=by
 have nb:∀ {p q:Nat},Nat.beq p q=true->p=q:=fun h=>Nat.eq_of_beq_eq_true h
 have nn:∀ {p q:Nat},(!Nat.beq p q)=true->p≠q:=fun {p q} h e=>by subst e;simp at h
 unfold hkN at h
 split at h
 rotate_left
 ·cases h
 rename_i d1 t x d2 tm e1 q1 q2 q3 q4
 have q2:=yr9 q2
 have q4:=ysW q4
 split at h
 rotate_left
 ·cases h
 rename_i d3 d4 q5 q6
 split at h
 ·rename_i m' hc
  cases h
  unfold hkC1 at hc
  split at hc
  ·rename_i kf e2 sf e3 r1 r2
   obtain ⟨c3,r3,r4,r5⟩:=yo4 r1
   obtain ⟨c4,s3,s4,s5⟩:=yo4 r2
   split at hc
   ·rename_i hb
    cases hc
    simp only[Bool.and_eq_true] at hb
    obtain ⟨⟨⟨⟨⟨⟨b1,b2⟩,b3⟩,b4⟩,b5⟩,b6⟩,b7⟩:=hb
    have b1:=nb b1;have b2:=nb b2;have b3:=nb b3;have b4:=nb b4;have b5:=nb b5;have b6:=nb b6;have b7:=nb b7
    subst b1;subst b2;subst b3;subst b4;subst b5;subst b6;subst b7
    exact .inl ⟨_,_,_,_,x,c3,c4,q1,q2,q3,q4,q5,r3,r4,r5,q6,s3,s4,s5,rfl⟩
   ·cases hc
  ·cases hc
 ·unfold hkC2 at h
  split at h
  ·rename_i y tl e2 e3 r1 r2
   have r1:=yti r1
   have r2:=yr8 r2
   split at h
   ·rename_i hb
    cases h
    simp only[Bool.and_eq_true] at hb
    obtain ⟨⟨⟨⟨⟨⟨⟨⟨b1,b2⟩,b3⟩,b5⟩,b6⟩,b7⟩,n1⟩,n2⟩,n3⟩:=hb
    have b1:=nb b1;have b2:=nb b2;have b3:=nb b3;have b5:=nb b5;have b6:=nb b6;have b7:=nb b7
    subst b1;subst b2;subst b3;subst b5;subst b6;subst b7
    exact .inr ⟨_,_,_,_,x,y,q1,q2,q3,q4,q5,r1,q6,r2,nn n1,nn n2,nn n3,rfl⟩
   ·cases h
  ·cases h
theorem len4 {α:Type} {l:List α} (h:l.length=4):∃a b c d,l= [a,b,c,d]:=by
 match l,h with
 | [a,b,c,d],_=>exact ⟨a,b,c,d,rfl⟩
theorem yvx {o1 o2 o3 o4:Oper} {m:HkM} (h:hkN o1 o2 o3 o4=some m):m.n=3:=by
 have h0:=ykD h
 clear h
 rcases h0 with h0|h0
 ·obtain ⟨d1,d2,d3,d4,x,c3,c4,q⟩:=h0
  rw[q.2.2.2.2.2.2.2.2.2.2.2.2]
 ·obtain ⟨d1,d2,d3,d4,x,y,q⟩:=h0
  rw[q.2.2.2.2.2.2.2.2.2.2.2]
theorem yn1 {P:Program} {mid suf:List Oper} {m:HkM} (h:hkP P (mid++suf)=some m) (hl:mid.length=m.n+1):∃o1 o2 o3 o4,mid= [o1,o2,o3,o4]∧hkN o1 o2 o3 o4=some m:=by
 have key:∃o1 o2 o3 o4 r,mid++suf=o1::o2::o3::o4::r∧hkN o1 o2 o3 o4=some m:=by
  unfold hkP at h
  split at h
  ·rename_i o1 o2 o3 o4 r e;exact ⟨o1,o2,o3,o4,r,e,h⟩
  ·cases h
 obtain ⟨o1,o2,o3,o4,r,e,h'⟩:=key
 rw[yvx h'] at hl
 clear h
 obtain ⟨a,b,c,d,rfl⟩:=len4 hl
 simp only[List.cons_append,List.nil_append,List.cons.injEq] at e
 exact ⟨a,b,c,d,rfl,by rw[e.1,e.2.1,e.2.2.1,e.2.2.2.1];exact h'⟩
theorem yoN (T:CTx):(T.flatMap fun p=> [AV.st p.1])=T.map fun p=> .st p.1:=by
 induction T with
 |nil=>rfl
 |cons p T ih=>simp only[List.flatMap_cons,List.map_cons,List.cons_append,List.nil_append,ih]
theorem yuw (T:CTx):noLs (T.flatMap fun p=> [AV.st p.1])=true:=by
 induction T with
 |nil=>rfl
 |cons p T ih=>simp only[List.flatMap_cons,List.cons_append,List.nil_append,noLs,AV.noL,ih,Bool.and_true]
theorem ykd {P:Program} {o:Oper} {a:Act} {w:World} {c:Call} {f:FuncId} {x:Operand} {fn:Func} {cd:Code} (ho:o.op= .call c) (hc:c.callee= .value (.func f)) (ha:c.args.toList= [x]) (hf:P.funcs[f]? =some fn) (hname:(fn.name== "runtime.NumGoroutine")=false) (hb:fn.body=some cd):
  (execOp a.eval o).run P w= .ok (.enter f #[a.eval x]) w:=by
 have h1:fn.name≠ "runtime.NumGoroutine" :=by simpa using hname
 have ha':c.args= #[x]:=by rw[<-Array.toArray_toList (xs:=c.args),ha]
 have:(callFunc f #[a.eval x]).run P w= .ok (.enter f #[a.eval x]) w:=by simp[callFunc,hf,h1,hb,mark]
 rw[<-this]
 simp[execOp,ho,hc,ha',resolve,Deferred.ofValue,Act.eval,invoke]
theorem ysI {w:World} {b:Nat} {F:Nat→Prop} {T:CTx} {W:CWt} (hr:yhE w b F T W) (hb:b<w.heap.size) (hl:T.length*16≤140737488355328):
  hkW Try.prog 0 #[.pointer (some ⟨b,0,none⟩)] w fun en w'=>∃v F' J,en= .returned v/\ygf 1000001 (cWh T W) (.sl false T.length (T.flatMap fun p=> [.st p.1])) w b F v w' F' J:=by
 have hr0:=hr
 obtain ⟨hok,tb,wb,Z,nt,nw,h1,h2,h3,h4,h5,h6,h7⟩:=hr0
 intro m mid suf a next Q hm hk hlen hxs hd hcl hnext
 obtain ⟨o1,o2,o3,o4,rfl,hN⟩:=yn1 hm hlen
 rcases ykD hN with ⟨d1,d2,d3,d4,x,c3,c4,q1,q2,q3,q4,q5,q6,q7,q8,q9,q10,q11,q12,rfl⟩|⟨_,_,_,_,_,_,_,_,_,_,_,_,_,_,_,_,_,rfl⟩
 rotate_left
 ·cases hk
 have hx:a.eval x= .pointer (some ⟨b,0,none⟩):=by simpa using hxs
 have l1:d1<a.tmps.size:=hcl d1 (by simp)
 have l2:d2<a.tmps.size:=hcl d2 (by simp)
 have l3:d3<a.tmps.size:=hcl d3 (by simp)
 have c0:w.cell? ⟨b,0,none⟩=some (.map (some tb)):=by simp[World.cell?,h1]
 simp only[ymP]
 refine wp_v (v:= .pointer (some ⟨b,0,none⟩)) (w':=w) ?_ ?_
 ·simp only[execOp,q2,hx]
  simp[fa0]
 rw[q1]
 refine wp_v (v:= .map (some tb)) (w':=w) ?_ ?_
 ·simp only[execOp,q4,yhS l1]
  simp[ld0 b _ w c0]
 rw[q3]
 refine wp_c (ykd q6 q7 q8 Try.func22 (by kernel_rfl) rfl) ?_
 rw[yhS (by rw[ye7];exact l2)]
 refine Calls.mono ((callsIn_wide (n:=5)).1 (yvC (some tb) w)) ?_
 rintro e1 w1 ⟨rfl,rfl⟩
 refine ⟨_,rfl,?_⟩
 rw[q5]
 refine wp_c (ykd q10 q11 q12 Try.func21 (by kernel_rfl) rfl) ?_
 rw[yhS (by rw[ye7,ye7];exact l3)]
 refine Calls.mono ((callsIn_wide (n:=5)).1 (yrt tb nt (txD T) _ w h2 (by rw[show Maps.size (txD T)=T.length from ygW];unfold maxLen;omega) (by rw[show Maps.size (txD T)=T.length from ygW];exact hl))) ?_
 rintro e2 w2 ⟨v,ss,rfl,hp,hrow,_,hbl⟩
 refine ⟨v,rfl,?_⟩
 rw[q9]
 have hk2:strKeys (txD T)=T.map (·.1):=yrX
 rw[hk2] at hp
 have hso:(T.map (·.1)).Pairwise fun x y=>Op.bytesLess x y=true:=by rw[List.pairwise_map];exact hok.tx
 rw[ypS hso hp,hp.length_eq,List.length_map] at hrow
 obtain ⟨J,j1,j2⟩:=ylE (us:=T.flatMap fun p=> [.st p.1]) hrow (fun G j u x p q=>by
  rw[yoN,List.getElem?_map] at p
  rw[List.getElem?_map,List.getElem?_map] at q
  cases hj:T[j]? with
  |none=>rw[hj] at p;cases p
  | some i=>
    rw[hj] at p q
    simp only[Option.map_some,Option.some.injEq] at p q
    rw[<-p,<-q]
    exact ⟨.st _ _ (by simp[encStr]),rfl⟩) (by rw[yoN];simp) (yuw _)
 have hbw:Below w.heap.size w w2:=((Below.refl _ w).alloc (Nat.le_refl _) _).trans (hbl.mono (by rw[ydm];omega))
 have hjw:∀x,J x→w.heap.size≤x∧x<w2.heap.size∧∀ds,w2.heap[x]?≠some (.deferred ds):=fun x hx=>by
  obtain ⟨a1,a2,a3⟩:=j1 x hx
  rw[ydm] at a1
  exact ⟨by omega,a2,a3⟩
 refine hnext v w2 _ ⟨v,F,J,rfl,ycs hr hb hbw hjw j2⟩ rfl (by simp only[ye7]) (fun t n1 n2=> ?_) (yqT (by simp only[ye7];exact hd))
 simp only[List.mem_cons,List.not_mem_nil,or_false,not_or] at n2
 rw[ygb n1,ygb n2.2.2,ygb n2.2.1,ygb n2.1]
theorem yuq {w:World} {b:Nat} {F:Nat→Prop} {T:CTx} {W:CWt} (hr:yhE w b F T W) (hb:b<w.heap.size) {s:ByteArray} {n:List UInt8} (hs:s.data.toList=n) (hn:n.length≤9223372036854775807):
  hkW Try.prog 1 #[.pointer (some ⟨b,0,none⟩), .string s] w fun en w'=>∃v F' J,en= .returned v/\ygf 1000001 (cWh T W) (.st (txAt T n)) w b F v w' F' J:=by
 have hr0:=hr
 obtain ⟨hok,tb,wb,Z,nt,nw,h1,h2,h3,h4,h5,h6,h7⟩:=hr0
 intro m mid suf a next Q hm hk hlen hxs hd hcl hnext
 obtain ⟨o1,o2,o3,o4,rfl,hN⟩:=yn1 hm hlen
 rcases ykD hN with ⟨_,_,_,_,_,_,_,_,_,_,_,_,_,_,_,_,_,_,_,rfl⟩|⟨d1,d2,d3,d4,x,y,q1,q2,q3,q4,q5,q6,q7,q8,y1,y2,y3,rfl⟩
 ·cases hk
 have hx:a.eval x= .pointer (some ⟨b,0,none⟩)/\a.eval (.tmp y)= .string s:=by simpa using hxs
 have l1:d1<a.tmps.size:=hcl d1 (by simp)
 have l2:d2<a.tmps.size:=hcl d2 (by simp)
 have l3:d3<a.tmps.size:=hcl d3 (by simp)
 have c0:w.cell? ⟨b,0,none⟩=some (.map (some tb)):=by simp[World.cell?,h1]
 obtain ⟨sv,ps,hrun,hsv⟩:=h2.lookup keyS Try.underlying45 (yov w) (zd:= .lit (.string [])) (zp:= []) (plainElem_string Try.underlying9 (Nat.zero_le _)) (WideMaps.keyOf_string_mk Try.underlying9 (bsz hs hn))
 rw[hs,yhd] at hsv
 obtain ⟨z,rfl,hz⟩:=yq0 hsv
 simp only[ymP]
 refine wp_v (v:= .pointer (some ⟨b,0,none⟩)) (w':=w) ?_ ?_
 ·simp only[execOp,q2,hx.1]
  simp[fa0]
 rw[q1]
 refine wp_v (v:= .map (some tb)) (w':=w) ?_ ?_
 ·simp only[execOp,q4,yhS l1]
  simp[ld0 b _ w c0]
 rw[q3]
 refine wp_v (v:= .string s) (w':=w) ?_ ?_
 ·simp only[execOp,q6,ysn y2,ysn y1,hx.2]
  rfl
 rw[q5]
 refine wp_v (v:= .string z) (w':=w) ?_ ?_
 ·simp only[execOp,q8,ysn y3,yhS (show d2<(a.put (some d1) (.pointer (some ⟨b,0,none⟩))).tmps.size by rw[ye7];exact l2),yhS (show d3<((a.put (some d1) (.pointer (some ⟨b,0,none⟩))).put (some d2) (.map (some tb))).tmps.size by rw[ye7,ye7];exact l3)]
  simp[hrun]
 rw[q7]
 refine hnext (.string z) w _ ⟨_,F,fun _=>False,rfl,ycs hr hb (Below.refl _ _) (fun x hx=>hx.elim) fun G' _ _=> .st _ _ hz⟩ rfl (by simp only[ye7]) (fun t n1 n2=> ?_) (yqT (by simp only[ye7];exact hd))
 simp only[List.mem_cons,List.not_mem_nil,or_false,not_or] at n2
 rw[ygb n1,ygb n2.2.2,ygb n2.2.1,ygb n2.1]
theorem yr3 (T:CTx) (W:CWt) (hl:T.length*16≤140737488355328):∀H m,yae Try.prog 1000000 [.pt (.l 2000000 1) 0] (mem1 1000001 (cWh T W)) H m (CEnd (cWh T W) (cWh T W) (.sl false T.length (T.flatMap fun p=> [.st p.1])) H m):=by
 refine yiv (by decide) rfl rfl (ye8 _ _) fun G b F vs hg hrep hb hF hV=> ?_
 have hvs:vs= []:=List.eq_nil_of_length_eq_zero hV.1
 subst hvs
 rw[show (1000000:Nat)=1000000+0 from rfl,XW_h]
 exact ysI (ydt hrep) hb hl
theorem yuG (T:CTx) (W:CWt) (n:List UInt8) (hn:n.length≤9223372036854775807):∀H m,yae Try.prog 1000001 [.pt (.l 2000000 1) 0, .st n] (mem1 1000001 (cWh T W)) H m (CEnd (cWh T W) (cWh T W) (.st (txAt T n)) H m):=by
 refine yiv (by decide) rfl rfl (ye8 _ _) fun G b F vs hg hrep hb hF hV=> ?_
 obtain ⟨x,rfl,hx⟩:=vs1 hV
 obtain ⟨s,rfl,hs⟩:=vrSt hx
 rw[show (1000001:Nat)=1000000+1 from rfl,XW_h]
 exact yuq (ydt hrep) hb hs hn
end Go.AV
end
noncomputable section
namespace Go.Proofs.Ythgmmfojclcbpaa
open Go.RowKit Go.Maps Go.WideMaps Go.RG
theorem yru (name:ByteArray) (w:World):Calls Try.prog 13 #[.pointer none, .string name] w fun e w'=>e= .returned (.string ⟨#[]⟩)∧w'=w:=by
 go_enter Try.func13,Try.ntmps13
 go_wp2
 go_ret
 exact ⟨rfl,rfl⟩
theorem ypD (w:World):Calls Try.prog 17 #[.pointer none] w fun e w'=>e= .returned (.int .i64 0)∧w'=w:=by
 go_enter Try.func17,Try.ntmps17
 go_wp2
 go_ret
 exact ⟨rfl,rfl⟩
theorem ykR (w:World):Calls Try.prog 16 #[.pointer none] w fun e w'=>e= .returned (.int .i64 0)∧w'=w:=by
 go_enter Try.func16,Try.ntmps16
 go_wp2
 go_ret
 exact ⟨rfl,rfl⟩
theorem yrz (name text:ByteArray) (w:World):Calls Try.prog 11 #[.pointer none, .string name, .string text] w fun e w'=>e= .returned (.slice none 0 0)∧w'=w:=by
 go_enter Try.func11,Try.ntmps11
 go_wp2
 go_ret
 exact ⟨rfl,rfl⟩
theorem yng (name:ByteArray) (i:Int) (w:World):Calls Try.prog 8 #[.pointer none, .string name, .int .i64 i] w fun e w'=>e= .returned (.bool false)∧w'=w:=by
 go_enter Try.func8,Try.ntmps8
 go_wp2
 go_ret
 exact ⟨rfl,rfl⟩
theorem ylf (name:ByteArray) (i:Int) (w:World):Calls Try.prog 10 #[.pointer none, .string name, .int .i64 i] w fun e w'=>e= .returned (.bool false)∧w'=w:=by
 go_enter Try.func10,Try.ntmps10
 go_wp2
 go_ret
 exact ⟨rfl,rfl⟩
theorem ykr (name:ByteArray) (w:World):Calls Try.prog 14 #[.pointer none, .string name] w fun e w'=>e= .returned (.slice none 0 0)∧w'=w:=by
 go_enter Try.func14,Try.ntmps14
 go_wp2
 go_ret
 exact ⟨rfl,rfl⟩
end Go.Proofs.Ythgmmfojclcbpaa
namespace Go.AV
open Go.RowKit Go.RG Go.Proofs Go.Proofs.Ythgmmfojclcbpaa
def setR (T:CTx) (W:CWt) (n t:List UInt8):List Int:=if t=txAt T n then [] else whAt W n
def ycQ (W:CWt) (n:List UInt8) (i:Int):Bool:=decide (i∈whAt W n)
theorem vs3 {G:Gh} {u v x:AV} {vs:List Value} (h:VRs G [u,v,x] vs):∃a b c,vs= [a,b,c]∧VR G u a∧VR G v b∧VR G x c:=by
 obtain ⟨h1,h2⟩:=h
 match vs,h1 with
 | [a,b,c],_=>exact ⟨a,b,c,rfl,h2 0 u a rfl rfl,h2 1 v b rfl rfl,h2 2 x c rfl rfl⟩
theorem vrN {G:Gh} {v:Value} (h:VR G .nptr v):v= .pointer none:=by
 cases h with
 |nptr=>rfl
theorem yu6 (n:List UInt8):∀mem H m,yae Try.prog 13 [.nptr, .st n] mem H m fun av' S1=>av'= .st []∧S1=lSt mem H m:=yk0 fun G vs hg hV=>by
 obtain ⟨p,x,rfl,hp,hx⟩:=vs2 hV
 rw[vrN hp]
 obtain ⟨s,rfl,hs⟩:=vrSt hx
 exact (ydg Try.func13 (by kernel_rfl) rfl (by decide) (yru s G.w)).mono fun e w' ⟨q1,q2⟩=>⟨_,q1,q2,fun G'=> .st _ _ rfl⟩
theorem yop (n:List UInt8):∀mem H m,yae Try.prog 14 [.nptr, .st n] mem H m fun av' S1=>av'=isA []∧S1=lSt mem H m:=yk0 fun G vs hg hV=>by
 obtain ⟨p,x,rfl,hp,hx⟩:=vs2 hV
 rw[vrN hp]
 obtain ⟨s,rfl,hs⟩:=vrSt hx
 exact (ydg Try.func14 (by kernel_rfl) rfl (by decide) (ykr s G.w)).mono fun e w' ⟨q1,q2⟩=>⟨_,q1,q2,fun G'=> .nsl _ _ _ rfl rfl⟩
theorem yvO:∀mem H m,yae Try.prog 17 [.nptr] mem H m fun av' S1=>av'= .it .i64 0∧S1=lSt mem H m:=yk0 fun G vs hg hV=>by
 obtain ⟨p,rfl,hp⟩:=vs1 hV
 rw[vrN hp]
 exact (ydg Try.func17 (by kernel_rfl) rfl (by decide) (ypD G.w)).mono fun e w' ⟨q1,q2⟩=>⟨_,q1,q2,fun G'=> .it _ _⟩
theorem ynm:∀mem H m,yae Try.prog 16 [.nptr] mem H m fun av' S1=>av'= .it .i64 0∧S1=lSt mem H m:=yk0 fun G vs hg hV=>by
 obtain ⟨p,rfl,hp⟩:=vs1 hV
 rw[vrN hp]
 exact (ydg Try.func16 (by kernel_rfl) rfl (by decide) (ykR G.w)).mono fun e w' ⟨q1,q2⟩=>⟨_,q1,q2,fun G'=> .it _ _⟩
theorem yu3 (n t:List UInt8):∀mem H m,yae Try.prog 11 [.nptr, .st n, .st t] mem H m fun av' S1=>av'=isA []∧S1=lSt mem H m:=yk0 fun G vs hg hV=>by
 obtain ⟨p,x,y,rfl,hp,hx,hy⟩:=vs3 hV
 rw[vrN hp]
 obtain ⟨s,rfl,hs⟩:=vrSt hx
 obtain ⟨u,rfl,hu⟩:=vrSt hy
 exact (ydg Try.func11 (by kernel_rfl) rfl (by decide) (yrz s u G.w)).mono fun e w' ⟨q1,q2⟩=>⟨_,q1,q2,fun G'=> .nsl _ _ _ rfl rfl⟩
theorem ysU (n:List UInt8) (i:Int):∀mem H m,yae Try.prog 8 [.nptr, .st n, .it .i64 i] mem H m fun av' S1=>av'= .bl false∧S1=lSt mem H m:=yk0 fun G vs hg hV=>by
 obtain ⟨p,x,y,rfl,hp,hx,hy⟩:=vs3 hV
 rw[vrN hp,vrIt hy]
 obtain ⟨s,rfl,hs⟩:=vrSt hx
 exact (ydg Try.func8 (by kernel_rfl) rfl (by decide) (yng s i G.w)).mono fun e w' ⟨q1,q2⟩=>⟨_,q1,q2,fun G'=> .bl _⟩
theorem yoH (n:List UInt8) (i:Int):∀mem H m,yae Try.prog 10 [.nptr, .st n, .it .i64 i] mem H m fun av' S1=>av'= .bl false∧S1=lSt mem H m:=yk0 fun G vs hg hV=>by
 obtain ⟨p,x,y,rfl,hp,hx,hy⟩:=vs3 hV
 rw[vrN hp,vrIt hy]
 obtain ⟨s,rfl,hs⟩:=vrSt hx
 exact (ydg Try.func10 (by kernel_rfl) rfl (by decide) (ylf s i G.w)).mono fun e w' ⟨q1,q2⟩=>⟨_,q1,q2,fun G'=> .bl _⟩
end Go.AV
end
noncomputable section
namespace Go.Proofs.Ythgmmfojclcbpaa
open Go.AV
set_option maxRecDepth 1000000
def c3:AFn:=cF Try.prog 3
theorem t3:trF Try.prog 3=some c3:=tF (by kernel_rfl)
def c5:AFn:=cF Try.prog 5
theorem t5:trF Try.prog 5=some c5:=tF (by kernel_rfl)
def c7:AFn:=cF Try.prog 7
theorem t7:trF Try.prog 7=some c7:=tF (by kernel_rfl)
def c9:AFn:=cF Try.prog 9
theorem t9:trF Try.prog 9=some c9:=tF (by kernel_rfl)
def c12:AFn:=cF Try.prog 12
theorem t12:trF Try.prog 12=some c12:=tF (by kernel_rfl)
def c15:AFn:=cF Try.prog 15
theorem t15:trF Try.prog 15=some c15:=tF (by kernel_rfl)
def c20:AFn:=cF Try.prog 20
theorem t20:trF Try.prog 20=some c20:=tF (by kernel_rfl)
def c22:AFn:=cF Try.prog 22
theorem t22:trF Try.prog 22=some c22:=tF (by kernel_rfl)
def c23:AFn:=cF Try.prog 23
theorem t23:trF Try.prog 23=some c23:=tF (by kernel_rfl)
def c24:AFn:=cF Try.prog 24
theorem t24:trF Try.prog 24=some c24:=tF (by kernel_rfl)
def c26:AFn:=cF Try.prog 26
theorem t26:trF Try.prog 26=some c26:=tF (by kernel_rfl)
def c27:AFn:=cF Try.prog 27
theorem t27:trF Try.prog 27=some c27:=tF (by kernel_rfl)
def c29:AFn:=cF Try.prog 29
theorem t29:trF Try.prog 29=some c29:=tF (by kernel_rfl)
def c31:AFn:=cF Try.prog 31
def c32:AFn:=cF Try.prog 32
theorem t32:trF Try.prog 32=some c32:=tF (by kernel_rfl)
def c33:AFn:=cF Try.prog 33
theorem t33:trF Try.prog 33=some c33:=tF (by kernel_rfl)
def c35:AFn:=cF Try.prog 35
theorem t35:trF Try.prog 35=some c35:=tF (by kernel_rfl)
def c36:AFn:=cF Try.prog 36
theorem t36:trF Try.prog 36=some c36:=tF (by kernel_rfl)
def c41:AFn:=cF Try.prog 41
theorem t41:trF Try.prog 41=some c41:=tF (by kernel_rfl)
def c44:AFn:=cF Try.prog 44
theorem t44:trF Try.prog 44=some c44:=tF (by kernel_rfl)
def c46:AFn:=cF Try.prog 46
theorem t46:trF Try.prog 46=some c46:=tF (by kernel_rfl)
def c53:AFn:=cF Try.prog 53
theorem t53:trF Try.prog 53=some c53:=tF (by kernel_rfl)
def c55:AFn:=cF Try.prog 55
def c57:AFn:=cF Try.prog 57
theorem t57:trF Try.prog 57=some c57:=tF (by kernel_rfl)
def c63:AFn:=cF Try.prog 63
theorem t63:trF Try.prog 63=some c63:=tF (by kernel_rfl)
def c64:AFn:=cF Try.prog 64
theorem t64:trF Try.prog 64=some c64:=tF (by kernel_rfl)
end Go.Proofs.Ythgmmfojclcbpaa
end
noncomputable section
namespace Go.Proofs.Ythgmmfojclcbpaa
open Go.AV Go.RowKit
set_option maxRecDepth 100000
structure yag where
 What:Int
 Name:Str
 Text:Str
 Who:Int
structure yaR where
 name:Str
 text:Str
structure yaT where
 name:Str
 who:(List Int)
structure yab where
 texts:(List yaR)
 watched:(List yaT)
structure yaa where
 name:Str
 text:Str
 who:(List Int)
inductive TC where
 |c0
 |c3
 |c4
 |c5
 |c9
 |c22
 |c28
 |c29
 |c31
 |c55
 |c116
 |c117
 |c119
 |c120
 |c122
def KF:TC→Type
 | .c0=>Unit
 | .c3=>Int
 | .c4=>Bool
 | .c5=>Int
 | .c9=>Str
 | .c22=>(List yag)
 | .c28=>yag
 | .c29=>(List Int)
 | .c31=>yaa
 | .c55=>(List Str)
 | .c116=>yaR
 | .c117=>(List yaR)
 | .c119=>yaT
 | .c120=>(List yaT)
 | .c122=>yab
def yvh:List (Nat×TC):= [(3, .c3),(4, .c4),(5, .c5),(9, .c9),(22, .c22),(28, .c28),(29, .c29),(31, .c31),(55, .c55),(116, .c116),(117, .c117),(119, .c119),(120, .c120),(122, .c122)]
def code (t:Nat):TC:=lkC .c0 yvh t
abbrev KK (t:Nat):Type:=KF (code t)
def yaY:Enc yag:=yjN ((yea (tbI .u8) (yea tbS (yea tbS (tbI .i64)))):Tb KK _).E (fun x:yag=>(x.What,x.Name,x.Text,x.Who))
def b28:Tb KK yag:=yjr (yea (tbI .u8) (yea tbS (yea tbS (tbI .i64)))) (fun x:yag=>(x.What,x.Name,x.Text,x.Who)) (fun y=>(⟨y.1,y.2.1,y.2.2.1,y.2.2.2⟩:yag)) yaY
def ykO:Enc yaa:=yjN ((yea tbS (yea tbS (tbL 3 (eI .i64):Tb KK (List Int)))):Tb KK _).E (fun x:yaa=>(x.name,x.text,x.who))
def b31:Tb KK yaa:=yjr (yea tbS (yea tbS (tbL 3 (eI .i64):Tb KK (List Int)))) (fun x:yaa=>(x.name,x.text,x.who)) (fun y=>(⟨y.1,y.2.1,y.2.2⟩:yaa)) ykO
def ycl:Enc yaR:=yjN ((yea tbS tbS):Tb KK _).E (fun x:yaR=>(x.name,x.text))
def b116:Tb KK yaR:=yjr (yea tbS tbS) (fun x:yaR=>(x.name,x.text)) (fun y=>(⟨y.1,y.2⟩:yaR)) ycl
def ycm:Enc yaT:=yjN ((yea tbS (tbL 3 (eI .i64):Tb KK (List Int))):Tb KK _).E (fun x:yaT=>(x.name,x.who))
def b119:Tb KK yaT:=yjr (yea tbS (tbL 3 (eI .i64):Tb KK (List Int))) (fun x:yaT=>(x.name,x.who)) (fun y=>(⟨y.1,y.2⟩:yaT)) ycm
def ymO:Enc yab:=yjN ((yea (tbL 116 ycl:Tb KK (List yaR)) (tbL 119 ycm:Tb KK (List yaT))):Tb KK _).E (fun x:yab=>(x.texts,x.watched))
def b122:Tb KK yab:=yjr (yea (tbL 116 ycl:Tb KK (List yaR)) (tbL 119 ycm:Tb KK (List yaT))) (fun x:yab=>(x.texts,x.watched)) (fun y=>(⟨y.1,y.2⟩:yab)) ymO
def TF:(c:TC)→Tb KK (KF c)
 | .c0=>tbU
 | .c3=>(tbI .i64)
 | .c4=>tbB
 | .c5=>(tbI .u8)
 | .c9=>tbS
 | .c22=>(tbL 28 yaY:Tb KK (List yag))
 | .c28=>b28
 | .c29=>(tbL 3 (eI .i64):Tb KK (List Int))
 | .c31=>b31
 | .c55=>(tbL 9 eS:Tb KK (List Str))
 | .c116=>b116
 | .c117=>(tbL 116 ycl:Tb KK (List yaR))
 | .c119=>b119
 | .c120=>(tbL 119 ycm:Tb KK (List yaT))
 | .c122=>b122
def CC:Cx KK:= @cxOf TC KF code TF
theorem yn7:TbOk Try.prog CC b28:=yfv (ydn (ylo _) (ydn yga (ydn yga (ylo _)))) (fun y=>rfl) (fun x=>rfl)
theorem yj5:∀x,dwks (yaY.c x)=yaY.c x:=yn7.dw
theorem yjg:∀x m,hlts m (yaY.c x)=true:=yn7.hl
theorem yuj:TbOk Try.prog CC b31:=yfv (ydn yga (ydn yga (yfz _ rfl (fun _=>rfl) (fun _ _=>rfl)))) (fun y=>rfl) (fun x=>rfl)
theorem yk6:TbOk Try.prog CC b116:=yfv (ydn yga yga) (fun y=>rfl) (fun x=>rfl)
theorem yg7:∀x,dwks (ycl.c x)=ycl.c x:=yk6.dw
theorem yhp:∀x m,hlts m (ycl.c x)=true:=yk6.hl
theorem ykh:TbOk Try.prog CC b119:=yfv (ydn yga (yfz _ rfl (fun _=>rfl) (fun _ _=>rfl))) (fun y=>rfl) (fun x=>rfl)
theorem ygK:∀x,dwks (ycm.c x)=ycm.c x:=ykh.dw
theorem ygH:∀x m,hlts m (ycm.c x)=true:=ykh.hl
theorem ysg:TbOk Try.prog CC b122:=yfv (ydn (yfz _ rfl yg7 yhp) (yfz _ rfl ygK ygH)) (fun y=>rfl) (fun x=>rfl)
theorem yk4:CxOk Try.prog CC:= @yrM TC KF code _ TF fun c=>match c with
 | .c0=>yuD
 | .c3=>(ylo _)
 | .c4=>yuC
 | .c5=>(ylo _)
 | .c9=>yga
 | .c22=>(yfz _ rfl yj5 yjg)
 | .c28=>yn7
 | .c29=>(yfz _ rfl (fun _=>rfl) (fun _ _=>rfl))
 | .c31=>yuj
 | .c55=>(yfz _ rfl (fun _=>rfl) (fun _ _=>rfl))
 | .c116=>yk6
 | .c117=>(yfz _ rfl yg7 yhp)
 | .c119=>ykh
 | .c120=>(yfz _ rfl ygK ygH)
 | .c122=>ysg
def mkS (T:CTx) (W:CWt):yab:=⟨T.map fun p=>⟨p.1,p.2⟩,W.map fun p=>⟨p.1,p.2⟩⟩
theorem encS (T:CTx) (W:CWt):(CC.E 122).c (mkS T W)=cWh T W:=by
 have:(CC.E 122).c (mkS T W)= [.sl false (T.map fun p=>(⟨p.1,p.2⟩:yaR)).length ((T.map fun p=>(⟨p.1,p.2⟩:yaR)).flatMap fun y=> [.st y.name, .st y.text]), .sl false (W.map fun p=>(⟨p.1,p.2⟩:yaT)).length ((W.map fun p=>(⟨p.1,p.2⟩:yaT)).flatMap fun y=> [.st y.name, .sl false y.who.length (y.who.flatMap fun n=> [.it .i64 n])])]:=by kernel_rfl
 rw[this]
 simp[cWh,ctxA,cwtA,List.flatMap_map]
def yd1 (r0:yab):Prop:=
 r0=mkS [] []
def ye5:Sl KK:=⟨6,[],⟨[],[],[]⟩,⟨[(0, .px 1000000 0)],[(1000000,1000001,[.v 122])],[]⟩,[],[(0,none)],true,fun _ _ _=>True⟩
def yaP:Sl KK:=⟨6,[],⟨[],[],[]⟩,⟨[(0, .px 1000000 0)],[(1000000,1000001,[.v 122])],[]⟩,[],[(0,none)],true,apFs (K:=KK) (ctT ye5.ti) (ctT ye5.te) [] yd1⟩
theorem ye6:SlOk Try.prog CC yaP:=by
 intro fs env out hl hF hW
 obtain ⟨rfl,h0⟩:=ycf hW
 obtain ⟨rfl,h1⟩:=ycb h0
 obtain ⟨r0,er0,rfl,h2⟩:=ya7 h1
 obtain ⟨rfl,hf⟩:=ybc h2
 obtain rfl:r0=mkS [] []:=hf
 exact ys8 (C:=CC) (sp:=yaP) (env:= []) (out:= [.v 122 (mkS [] [])]) (env':= [.v 122 (mkS [] [])]) (e:=1000001) (t:=122) (x:=mkS [] []) (args:= []) (us:= [.px 1000000 1 0]) (fun H n=>by rw[encS];exact yvR H n) (by kernel_rfl) (fun χ=>by kernel_rfl) (by kernel_rfl) (Eq.mpr (show kpt (entL CC yaP [] []) (bdT CC yaP.to [] [] [.v 122 (mkS [] [])]) yaP.kp (eqDV (selL yaP [.v 122 (mkS [] [])]) [.v 122 (mkS [] [])])=(mkS [] []=mkS [] []) by kernel_rfl) rfl) (by kernel_rfl) (by kernel_rfl) (by kernel_rfl)
def yaK (a0:Str) (a1:Int) (a2:yab) (r0:Bool) (r1:yab):Prop:=
 ∃T W,a2=mkS T W/\a0.length<=9223372036854775807/\ -9223372036854775808<=a1/\a1<=9223372036854775807/\W.length<9223372036854775807/\wSum W<9223372036854775807/\r0= !ycQ W a0 a1/\r1=mkS T (ybt W a0 a1)
def ych:Sl KK:=⟨8,[],⟨[(0, .px 2000000 0),(1, .st),(2, .it .i64)],[(2000000,1000001,[.v 122])],[]⟩,⟨[(6, .bl)],[(2000000,1000001,[.v 122])],[]⟩,[],[(6,none)],true,fun _ _ _=>True⟩
def yak:Sl KK:=⟨8,[],⟨[(0, .px 2000000 0),(1, .st),(2, .it .i64)],[(2000000,1000001,[.v 122])],[]⟩,⟨[(6, .bl)],[(2000000,1000001,[.v 122])],[]⟩,[],[(6,none)],true,apFs (K:=KK) (ctT ych.ti) (ctT ych.te) [] yaK⟩
theorem ycj:SlOk Try.prog CC yak:=by
 intro fs env out hl hF hW
 obtain ⟨rfl,h0⟩:=ycf hW
 obtain ⟨a0,ea0,rfl,h1⟩:=ya4 h0
 obtain ⟨a1,ea1,rfl,h2⟩:=ya4 h1
 obtain ⟨a2,ea2,rfl,h3⟩:=ya4 h2
 obtain ⟨rfl,h4⟩:=ycb h3
 obtain ⟨r0,er0,rfl,h5⟩:=ya7 h4
 obtain ⟨r1,er1,rfl,h6⟩:=ya7 h5
 obtain ⟨rfl,hf⟩:=ybc h6
 obtain ⟨T,W,rfl,c0,c1,c2,c3,c4,rfl,rfl⟩:=hf
 exact ycP (C:=CC) (sp:=yak) (env:= [.s a0, .i a1, .v 122 (mkS T W)]) (out:= [.b (!ycQ W a0 a1), .v 122 (mkS T (ybt W a0 a1))]) (env':= [.b (!ycQ W a0 a1), .v 122 (mkS T (ybt W a0 a1))]) (e:=1000001) (t:=122) (x:=(mkS T W)) (x':=(mkS T (ybt W a0 a1))) (rest:= [.st a0, .it .i64 a1]) (us:= [.bl (!ycQ W a0 a1)]) (fun H n=>by simp only[encS];exact yse T W a0 a1 c0 c1 c2 c3 c4 H n) (by kernel_rfl) (by kernel_rfl) (fun χ=>by kernel_rfl) (by kernel_rfl) (Eq.mpr (show kpt (entL CC yak [] [.s a0, .i a1, .v 122 (mkS T W)]) (bdT CC yak.to [] [] [.b (!ycQ W a0 a1), .v 122 (mkS T (ybt W a0 a1))]) yak.kp (eqDV (selL yak [.b (!ycQ W a0 a1), .v 122 (mkS T (ybt W a0 a1))]) [.b (!ycQ W a0 a1), .v 122 (mkS T (ybt W a0 a1))])=((!ycQ W a0 a1:Bool)= !ycQ W a0 a1/\(mkS T (ybt W a0 a1))=(mkS T (ybt W a0 a1))) by kernel_rfl) ⟨rfl,rfl⟩) (by kernel_rfl) (by kernel_rfl) (by kernel_rfl)
def yaV (a0 a1:Str) (a2:yab) (r0:List Int) (r1:yab):Prop:=
 ∃T W,a2=mkS T W/\a0.length<=9223372036854775807/\a1.length<=9223372036854775807/\T.length<9223372036854775807/\(whAt W a0).length*8<=140737488355328/\r0=setR T W a0 a1/\r1=mkS (ydf T a0 a1) W
def ycG:Sl KK:=⟨11,[],⟨[(0, .px 2000000 0),(1, .st),(2, .st)],[(2000000,1000001,[.v 122])],[]⟩,⟨[(6, .sl 3)],[(2000000,1000001,[.v 122])],[]⟩,[],[(6,none)],true,fun _ _ _=>True⟩
def yas:Sl KK:=⟨11,[],⟨[(0, .px 2000000 0),(1, .st),(2, .st)],[(2000000,1000001,[.v 122])],[]⟩,⟨[(6, .sl 3)],[(2000000,1000001,[.v 122])],[]⟩,[],[(6,none)],true,apFs (K:=KK) (ctT ycG.ti) (ctT ycG.te) [] yaV⟩
theorem ycN:SlOk Try.prog CC yas:=by
 intro fs env out hl hF hW
 obtain ⟨rfl,h0⟩:=ycf hW
 obtain ⟨a0,ea0,rfl,h1⟩:=ya4 h0
 obtain ⟨a1,ea1,rfl,h2⟩:=ya4 h1
 obtain ⟨a2,ea2,rfl,h3⟩:=ya4 h2
 obtain ⟨rfl,h4⟩:=ycb h3
 obtain ⟨r0,er0,rfl,h5⟩:=ya7 h4
 obtain ⟨r1,er1,rfl,h6⟩:=ya7 h5
 obtain ⟨rfl,hf⟩:=ybc h6
 obtain ⟨T,W,rfl,c0,c1,c2,c3,rfl,rfl⟩:=hf
 exact ycP (C:=CC) (sp:=yas) (env:= [.s a0, .s a1, .v 122 (mkS T W)]) (out:= [.l 3 (setR T W a0 a1), .v 122 (mkS (ydf T a0 a1) W)]) (env':= [.l 3 (setR T W a0 a1), .v 122 (mkS (ydf T a0 a1) W)]) (e:=1000001) (t:=122) (x:=(mkS T W)) (x':=(mkS (ydf T a0 a1) W)) (rest:= [.st a0, .st a1]) (us:= [.sl 3 (setR T W a0 a1)]) (fun H n=>by simp only[encS];exact yvb T W a0 a1 c0 c1 c2 c3 H n) (by kernel_rfl) (by kernel_rfl) (fun χ=>by kernel_rfl) (by kernel_rfl) (Eq.mpr (show kpt (entL CC yas [] [.s a0, .s a1, .v 122 (mkS T W)]) (bdT CC yas.to [] [] [.l 3 (setR T W a0 a1), .v 122 (mkS (ydf T a0 a1) W)]) yas.kp (eqDV (selL yas [.l 3 (setR T W a0 a1), .v 122 (mkS (ydf T a0 a1) W)]) [.l 3 (setR T W a0 a1), .v 122 (mkS (ydf T a0 a1) W)])=((setR T W a0 a1:(List Int))=setR T W a0 a1/\(mkS (ydf T a0 a1) W)=(mkS (ydf T a0 a1) W)) by kernel_rfl) ⟨rfl,rfl⟩) (by kernel_rfl) (by kernel_rfl) (by kernel_rfl)
def ybb (a0:Str) (a1:yab) (r0:Str):Prop:=
 ∃T W,a1=mkS T W/\a0.length<=9223372036854775807/\r0=txAt T a0
def ycM:Sl KK:=⟨13,[],⟨[(0, .px 2000000 0),(1, .st)],[(2000000,1000001,[.v 122])],[]⟩,⟨[(4, .st)],[],[]⟩,[2000000],[(4,none)],true,fun _ _ _=>True⟩
def yar:Sl KK:=⟨13,[],⟨[(0, .px 2000000 0),(1, .st)],[(2000000,1000001,[.v 122])],[]⟩,⟨[(4, .st)],[],[]⟩,[2000000],[(4,none)],true,apFs (K:=KK) (ctT ycM.ti) (ctT ycM.te) [] ybb⟩
theorem ycF:SlOk Try.prog CC yar:=by
 intro fs env out hl hF hW
 obtain ⟨rfl,h0⟩:=ycf hW
 obtain ⟨a0,ea0,rfl,h1⟩:=ya4 h0
 obtain ⟨a1,ea1,rfl,h2⟩:=ya4 h1
 obtain ⟨rfl,h3⟩:=ycb h2
 obtain ⟨r0,er0,rfl,h4⟩:=ya7 h3
 obtain ⟨rfl,hf⟩:=ybc h4
 obtain ⟨T,W,rfl,c0,rfl⟩:=hf
 exact ycP (C:=CC) (sp:=yar) (env:= [.s a0, .v 122 (mkS T W)]) (out:= [.s (txAt T a0)]) (env':= [.s (txAt T a0), .v 122 (mkS T W)]) (e:=1000001) (t:=122) (x:=(mkS T W)) (x':=(mkS T W)) (rest:= [.st a0]) (us:= [.st (txAt T a0)]) (fun H n=>by simp only[encS];exact yvp T W a0 c0 H n) (by kernel_rfl) (by kernel_rfl) (fun χ=>by kernel_rfl) (by kernel_rfl) (Eq.mpr (show kpt (entL CC yar [] [.s a0, .v 122 (mkS T W)]) (bdT CC yar.to [] [] [.s (txAt T a0), .v 122 (mkS T W)]) yar.kp (eqDV (selL yar [.s (txAt T a0), .v 122 (mkS T W)]) [.s (txAt T a0)])=((mkS T W)=(mkS T W)/\(txAt T a0:Str)=txAt T a0) by kernel_rfl) ⟨rfl,rfl⟩) (by kernel_rfl) (by kernel_rfl) (by kernel_rfl)
def ycW (a0:yab) (r0:Int):Prop:=
 ∃T W,a0=mkS T W/\r0=(T.length:Int)
def ycH:Sl KK:=⟨17,[],⟨[(0, .px 2000000 0)],[(2000000,1000001,[.v 122])],[]⟩,⟨[(2, .it .i64)],[],[]⟩,[2000000],[(2,none)],true,fun _ _ _=>True⟩
def yaw:Sl KK:=⟨17,[],⟨[(0, .px 2000000 0)],[(2000000,1000001,[.v 122])],[]⟩,⟨[(2, .it .i64)],[],[]⟩,[2000000],[(2,none)],true,apFs (K:=KK) (ctT ycH.ti) (ctT ycH.te) [] ycW⟩
theorem ye4:SlOk Try.prog CC yaw:=by
 intro fs env out hl hF hW
 obtain ⟨rfl,h0⟩:=ycf hW
 obtain ⟨a0,ea0,rfl,h1⟩:=ya4 h0
 obtain ⟨rfl,h2⟩:=ycb h1
 obtain ⟨r0,er0,rfl,h3⟩:=ya7 h2
 obtain ⟨rfl,hf⟩:=ybc h3
 obtain ⟨T,W,rfl,rfl⟩:=hf
 exact ycP (C:=CC) (sp:=yaw) (env:= [.v 122 (mkS T W)]) (out:= [.i (T.length:Int)]) (env':= [.i (T.length:Int), .v 122 (mkS T W)]) (e:=1000001) (t:=122) (x:=(mkS T W)) (x':=(mkS T W)) (rest:= []) (us:= [.it .i64 (T.length:Int)]) (fun H n=>by simp only[encS];exact yu4 T W H n) (by kernel_rfl) (by kernel_rfl) (fun χ=>by kernel_rfl) (by kernel_rfl) (Eq.mpr (show kpt (entL CC yaw [] [.v 122 (mkS T W)]) (bdT CC yaw.to [] [] [.i (T.length:Int), .v 122 (mkS T W)]) yaw.kp (eqDV (selL yaw [.i (T.length:Int), .v 122 (mkS T W)]) [.i (T.length:Int)])=((mkS T W)=(mkS T W)/\((T.length:Int):Int)=(T.length:Int)) by kernel_rfl) ⟨rfl,rfl⟩) (by kernel_rfl) (by kernel_rfl) (by kernel_rfl)
def yba (a0:yab) (r0:Int):Prop:=
 ∃T W,a0=mkS T W/\r0=wSum W
def ybY:Sl KK:=⟨16,[],⟨[(0, .px 2000000 0)],[(2000000,1000001,[.v 122])],[]⟩,⟨[(2, .it .i64)],[],[]⟩,[2000000],[(2,none)],true,fun _ _ _=>True⟩
def yaj:Sl KK:=⟨16,[],⟨[(0, .px 2000000 0)],[(2000000,1000001,[.v 122])],[]⟩,⟨[(2, .it .i64)],[],[]⟩,[2000000],[(2,none)],true,apFs (K:=KK) (ctT ybY.ti) (ctT ybY.te) [] yba⟩
theorem ybU:SlOk Try.prog CC yaj:=by
 intro fs env out hl hF hW
 obtain ⟨rfl,h0⟩:=ycf hW
 obtain ⟨a0,ea0,rfl,h1⟩:=ya4 h0
 obtain ⟨rfl,h2⟩:=ycb h1
 obtain ⟨r0,er0,rfl,h3⟩:=ya7 h2
 obtain ⟨rfl,hf⟩:=ybc h3
 obtain ⟨T,W,rfl,rfl⟩:=hf
 exact ycP (C:=CC) (sp:=yaj) (env:= [.v 122 (mkS T W)]) (out:= [.i (wSum W)]) (env':= [.i (wSum W), .v 122 (mkS T W)]) (e:=1000001) (t:=122) (x:=(mkS T W)) (x':=(mkS T W)) (rest:= []) (us:= [.it .i64 (wSum W)]) (fun H n=>by simp only[encS];exact ynt T W H n) (by kernel_rfl) (by kernel_rfl) (fun χ=>by kernel_rfl) (by kernel_rfl) (Eq.mpr (show kpt (entL CC yaj [] [.v 122 (mkS T W)]) (bdT CC yaj.to [] [] [.i (wSum W), .v 122 (mkS T W)]) yaj.kp (eqDV (selL yaj [.i (wSum W), .v 122 (mkS T W)]) [.i (wSum W)])=((mkS T W)=(mkS T W)/\(wSum W:Int)=wSum W) by kernel_rfl) ⟨rfl,rfl⟩) (by kernel_rfl) (by kernel_rfl) (by kernel_rfl)
def ygE (r0 x10:Bool):Prop:=
 x10=r0
def ybC (r0:Bool):Prop:=
 ∃z1,(yd1 z1)/\∃z2 z3,(yaK ([97]:Str) (3:Int) z1 z2 z3)/\∃z4 z5,(yaK ([97]:Str) (3:Int) z3 z4 z5)/\∃z6 z7,(yaV ([97]:Str) ([120]:Str) z5 z6 z7)/\∃z8 z9,(yaV ([97]:Str) ([120]:Str) z7 z8 z9)/\∀J1:Bool->Prop,(∀x10,ygE r0 x10->J1 x10)->cnd z2 (cnd (!z4) ((z6.length<=maxLen->cnd ((z6.length:Int)==(1:Int)) ((0<=(0:Int))/\((0:Int)<(z6.length:Int))/\∃y11:Int,(z6[(0:Int).toNat]? =some y11)/\cnd (y11==(3:Int)) ((z8.length<=maxLen->cnd ((z8.length:Int)==(0:Int)) (∃z12,(ybb ([97]:Str) z9 z12)/\cnd (z12==([120]:Str)) (∃z13,(ycW z9 z13)/\cnd (z13==(1:Int)) (∃z14,(yba z9 z14)/\J1 (z14==(1:Int))) (J1 false)) (J1 false)) (J1 false))) (J1 false)) (J1 false))) (J1 false)) (J1 false)
def yej:Sp KK:=⟨5,[],[4],appW (K:=KK) [4] [] ybC⟩
def yhj:An KK:=(.s .o (.s .o (.s .o (.s .o (.s .o (.s .o (.j ⟨[(0, .bl)],[],[]⟩ .o (fun _=> .o))))))))
def ygI:Cf KK:=⟨CC,[],[yaP,yak,yas,yar,yaw,yaj],51,[],none,false⟩
theorem yg8:SpOk Try.prog CC yej:=yhb (F:=ygI) (ps:= []) (rs:= [4]) (w:=ybC) yk4 ygF (ybm ye6 (ybm ycj (ybm ycN (ybm ycF (ybm ye4 (ybm ybU yhu)))))) t5 (A:=yhj) (by kernel_rfl) (by kernel_rfl) (fun r0=>show _=_ by kernel_rfl)
def yc9 (a0 r0:List Int) (r1:Bool) (x1 a1:Int) (x3:Bool):Prop:=
 cnd x3 (a0=r0/\false=r1) ((0<=(0:Int)/\(0:Int)<=x1/\x1<=(a0.length:Int))/\((ybl a0 (0:Int) x1).length<=400000000)/\((([]:List Int)++(ybl a0 (0:Int) x1)).length<=1000000000)/\(0<=x1/\x1<=(a0.length:Int)/\(a0.length:Int)<=(a0.length:Int))/\(((([]:List Int)++(ybl a0 (0:Int) x1))++([a1]:List Int)).length<=1000000000)/\((ybl a0 x1 (a0.length:Int)).length<=400000000)/\(((([]:List Int)++(ybl a0 (0:Int) x1))++([a1]:List Int))++(ybl a0 x1 (a0.length:Int)))=r0/\true=r1)
def yc7 (X1:Int→Prop) (x1:Int) (a0 r0:List Int) (r1:Bool) (a1:Int) (x2:Bool):Prop:=
 cnd x2 (X1 (IntKind.i64.wrap (x1+(1:Int)))) (∀J3:Bool->Prop,(∀x3,yc9 a0 r0 r1 x1 a1 x3->J3 x3)->(a0.length<=maxLen->cnd (decide (x1<(a0.length:Int))) ((0<=x1)/\(x1<(a0.length:Int))/\∃y4:Int,(a0[x1.toNat]? =some y4)/\J3 (y4==a1)) (J3 false)))
def yet (a0 r0:List Int) (r1:Bool) (a1:Int) (X1:Int→Prop) (x1:Int):Prop:=
 ∀J2:Bool->Prop,(∀x2,yc7 X1 x1 a0 r0 r1 a1 x2->J2 x2)->(a0.length<=maxLen->cnd (decide (x1<(a0.length:Int))) ((0<=x1)/\(x1<(a0.length:Int))/\∃y5:Int,(a0[x1.toNat]? =some y5)/\J2 (decide (y5<a1))) (J2 false))
def ybD (a0:List Int) (a1:Int) (r0:List Int) (r1:Bool):Prop:=
 ∀X1:Int->Prop,(∀x1,yet a0 r0 r1 a1 X1 x1->X1 x1)->X1 (0:Int)
def yer:Sp KK:=⟨7,[.v 29, .v 3],[29,4],appW (K:=KK) [29,4] [.v 29, .v 3] ybD⟩
def yhB:An KK:=(.s .o (.s .o (.s (.b (.l ⟨[(0, .kp 8),(1, .kp 9),(6, .it .i64)],[],[]⟩ (fun _=>(.s (.j ⟨[(0, .kp 8),(1, .kp 9),(6, .kp 14),(18, .bl)],[],[]⟩ .o (fun _=>(.c .o .o))) (.b .o))))) (.s (.j ⟨[(0, .kp 8),(1, .kp 9),(6, .kp 14),(32, .bl)],[],[]⟩ .o (fun _=>(.c (.s .o .o) .o))) (.s .o .o)))))
def yhn:Cf KK:=⟨CC,[],[],46,[],none,false⟩
theorem ygB:SpOk Try.prog CC yer:=yhb (F:=yhn) (ps:= [.v 29, .v 3]) (rs:= [29,4]) (w:=ybD) yk4 ygF yhu t7 (A:=yhB) (by kernel_rfl) (by kernel_rfl) (fun a0 a1 r0 r1=>show _=_ by kernel_rfl)
def yes (a0:List Int) (a1:Int) (r0:List Int) (r1:Bool) (X1:Int→Prop) (x1:Int):Prop:=
 (a0.length<=maxLen->cnd (decide (x1<(a0.length:Int))) ((0<=x1)/\(x1<(a0.length:Int))/\∃y2:Int,(a0[x1.toNat]? =some y2)/\cnd (y2==a1) ((0<=(0:Int)/\(0:Int)<=x1/\x1<=(a0.length:Int))/\((ybl a0 (0:Int) x1).length<=400000000)/\(0<=(IntKind.i64.wrap (x1+(1:Int)))/\(IntKind.i64.wrap (x1+(1:Int)))<=(a0.length:Int)/\(a0.length:Int)<=(a0.length:Int))/\((([]:List Int)++(ybl a0 (0:Int) x1)).length<=1000000000)/\((ybl a0 (IntKind.i64.wrap (x1+(1:Int))) (a0.length:Int)).length<=400000000)/\((([]:List Int)++(ybl a0 (0:Int) x1))++(ybl a0 (IntKind.i64.wrap (x1+(1:Int))) (a0.length:Int)))=r0/\true=r1) (X1 (IntKind.i64.wrap (x1+(1:Int))))) (a0=r0/\false=r1))
def ybA (a0:List Int) (a1:Int) (r0:List Int) (r1:Bool):Prop:=
 ∀X1:Int->Prop,(∀x1,yes a0 a1 r0 r1 X1 x1->X1 x1)->X1 (0:Int)
def yem:Sp KK:=⟨9,[.v 29, .v 3],[29,4],appW (K:=KK) [29,4] [.v 29, .v 3] ybA⟩
def ygV:An KK:=(.s .o (.s (.s .o (.b (.l ⟨[(0, .kp 4),(1, .kp 5),(6, .it .i64)],[],[]⟩ (fun _=>(.s (.s .o (.c .o .o)) (.s (.b (.s .o (.c (.s .o .o) .o))) .o)))))) (.s .o .o)))
def yg5:Cf KK:=⟨CC,[],[],30,[],none,false⟩
theorem ygM:SpOk Try.prog CC yem:=yhb (F:=yg5) (ps:= [.v 29, .v 3]) (rs:= [29,4]) (w:=ybA) yk4 ygF yhu t9 (A:=ygV) (by kernel_rfl) (by kernel_rfl) (fun a0 a1 r0 r1=>show _=_ by kernel_rfl)
def ydU (x1:Int) (a0 a1:List Int) (r0:Bool) (X1:Int→Prop) (x2:Bool):Prop:=
 cnd x2 ((0<=x1)/\(x1<(a0.length:Int))/\∃y3:Int,(a0[x1.toNat]? =some y3)/\(0<=x1)/\(x1<(a1.length:Int))/\∃y4:Int,(a1[x1.toNat]? =some y4)/\cnd (!(y3==y4)) (false=r0) (X1 (IntKind.i64.wrap (x1+(1:Int))))) ((a0.length<=maxLen->(a1.length<=maxLen->((a0.length:Int)==(a1.length:Int))=r0)))
def yfJ (a0 a1:List Int) (r0:Bool) (X1:Int→Prop) (x1:Int):Prop:=
 ∀J2:Bool->Prop,(∀x2,ydU x1 a0 a1 r0 X1 x2->J2 x2)->(a0.length<=maxLen->cnd (decide (x1<(a0.length:Int))) ((a1.length<=maxLen->J2 (decide (x1<(a1.length:Int))))) (J2 false))
def ybs (a0 a1:List Int) (r0:Bool):Prop:=
 ∀X1:Int->Prop,(∀x1,yfJ a0 a1 r0 X1 x1->X1 x1)->X1 (0:Int)
def yfR:Sp KK:=⟨12,[.v 29, .v 29],[4],appW (K:=KK) [4] [.v 29, .v 29] ybs⟩
def yio:An KK:=(.s .o (.s (.s .o (.b (.l ⟨[(0, .kp 8),(1, .kp 9),(5, .it .i64)],[],[]⟩ (fun _=>(.s (.j ⟨[(0, .kp 8),(1, .kp 9),(5, .kp 14),(15, .bl)],[],[]⟩ .o (fun _=>(.c .o .o))) (.s (.b (.s .o (.c (.s .o .o) .o))) .o)))))) (.s .o .o)))
def yiK:Cf KK:=⟨CC,[],[],32,[],none,false⟩
theorem yiG:SpOk Try.prog CC yfR:=yhb (F:=yiK) (ps:= [.v 29, .v 29]) (rs:= [4]) (w:=ybs) yk4 ygF yhu t12 (A:=yio) (by kernel_rfl) (by kernel_rfl) (fun a0 a1 r0=>show _=_ by kernel_rfl)
def ybf (a0:Str) (a1:Int) (a2:yab) (r0:Bool) (r1:yab):Prop:=
 ∃T W,a2=mkS T W/\a0.length<=9223372036854775807/\ -9223372036854775808<=a1/\a1<=9223372036854775807/\r0=ycQ W a0 a1/\r1=mkS T (ybO W a0 a1)
def ybT:Sl KK:=⟨10,[],⟨[(0, .px 2000000 0),(1, .st),(2, .it .i64)],[(2000000,1000001,[.v 122])],[]⟩,⟨[(6, .bl)],[(2000000,1000001,[.v 122])],[]⟩,[],[(6,none)],true,fun _ _ _=>True⟩
def yap:Sl KK:=⟨10,[],⟨[(0, .px 2000000 0),(1, .st),(2, .it .i64)],[(2000000,1000001,[.v 122])],[]⟩,⟨[(6, .bl)],[(2000000,1000001,[.v 122])],[]⟩,[],[(6,none)],true,apFs (K:=KK) (ctT ybT.ti) (ctT ybT.te) [] ybf⟩
theorem ydJ:SlOk Try.prog CC yap:=by
 intro fs env out hl hF hW
 obtain ⟨rfl,h0⟩:=ycf hW
 obtain ⟨a0,ea0,rfl,h1⟩:=ya4 h0
 obtain ⟨a1,ea1,rfl,h2⟩:=ya4 h1
 obtain ⟨a2,ea2,rfl,h3⟩:=ya4 h2
 obtain ⟨rfl,h4⟩:=ycb h3
 obtain ⟨r0,er0,rfl,h5⟩:=ya7 h4
 obtain ⟨r1,er1,rfl,h6⟩:=ya7 h5
 obtain ⟨rfl,hf⟩:=ybc h6
 obtain ⟨T,W,rfl,c0,c1,c2,rfl,rfl⟩:=hf
 exact ycP (C:=CC) (sp:=yap) (env:= [.s a0, .i a1, .v 122 (mkS T W)]) (out:= [.b (ycQ W a0 a1), .v 122 (mkS T (ybO W a0 a1))]) (env':= [.b (ycQ W a0 a1), .v 122 (mkS T (ybO W a0 a1))]) (e:=1000001) (t:=122) (x:=(mkS T W)) (x':=(mkS T (ybO W a0 a1))) (rest:= [.st a0, .it .i64 a1]) (us:= [.bl (ycQ W a0 a1)]) (fun H n=>by simp only[encS];exact yo5 T W a0 a1 c0 c1 c2 H n) (by kernel_rfl) (by kernel_rfl) (fun χ=>by kernel_rfl) (by kernel_rfl) (Eq.mpr (show kpt (entL CC yap [] [.s a0, .i a1, .v 122 (mkS T W)]) (bdT CC yap.to [] [] [.b (ycQ W a0 a1), .v 122 (mkS T (ybO W a0 a1))]) yap.kp (eqDV (selL yap [.b (ycQ W a0 a1), .v 122 (mkS T (ybO W a0 a1))]) [.b (ycQ W a0 a1), .v 122 (mkS T (ybO W a0 a1))])=((ycQ W a0 a1:Bool)=ycQ W a0 a1/\(mkS T (ybO W a0 a1))=(mkS T (ybO W a0 a1))) by kernel_rfl) ⟨rfl,rfl⟩) (by kernel_rfl) (by kernel_rfl) (by kernel_rfl)
def ya9 (a0:Str) (a1:yab) (r0:List Int):Prop:=
 ∃T W,a1=mkS T W/\a0.length<=9223372036854775807/\(whAt W a0).length*8<=140737488355328/\r0=whAt W a0
def ybX:Sl KK:=⟨14,[],⟨[(0, .px 2000000 0),(1, .st)],[(2000000,1000001,[.v 122])],[]⟩,⟨[(4, .sl 3)],[],[]⟩,[2000000],[(4,none)],true,fun _ _ _=>True⟩
def yan:Sl KK:=⟨14,[],⟨[(0, .px 2000000 0),(1, .st)],[(2000000,1000001,[.v 122])],[]⟩,⟨[(4, .sl 3)],[],[]⟩,[2000000],[(4,none)],true,apFs (K:=KK) (ctT ybX.ti) (ctT ybX.te) [] ya9⟩
theorem ydD:SlOk Try.prog CC yan:=by
 intro fs env out hl hF hW
 obtain ⟨rfl,h0⟩:=ycf hW
 obtain ⟨a0,ea0,rfl,h1⟩:=ya4 h0
 obtain ⟨a1,ea1,rfl,h2⟩:=ya4 h1
 obtain ⟨rfl,h3⟩:=ycb h2
 obtain ⟨r0,er0,rfl,h4⟩:=ya7 h3
 obtain ⟨rfl,hf⟩:=ybc h4
 obtain ⟨T,W,rfl,c0,c1,rfl⟩:=hf
 exact ycP (C:=CC) (sp:=yan) (env:= [.s a0, .v 122 (mkS T W)]) (out:= [.l 3 (whAt W a0)]) (env':= [.l 3 (whAt W a0), .v 122 (mkS T W)]) (e:=1000001) (t:=122) (x:=(mkS T W)) (x':=(mkS T W)) (rest:= [.st a0]) (us:= [.sl 3 (whAt W a0)]) (fun H n=>by simp only[encS];exact yok T W a0 c0 c1 H n) (by kernel_rfl) (by kernel_rfl) (fun χ=>by kernel_rfl) (by kernel_rfl) (Eq.mpr (show kpt (entL CC yan [] [.s a0, .v 122 (mkS T W)]) (bdT CC yan.to [] [] [.l 3 (whAt W a0), .v 122 (mkS T W)]) yan.kp (eqDV (selL yan [.l 3 (whAt W a0), .v 122 (mkS T W)]) [.l 3 (whAt W a0)])=((mkS T W)=(mkS T W)/\(whAt W a0:(List Int))=whAt W a0) by kernel_rfl) ⟨rfl,rfl⟩) (by kernel_rfl) (by kernel_rfl) (by kernel_rfl)
def ybK (a0:yab):Prop:=
 (a0=a0)/\True
def ya2:Sl KK:=⟨15,[],⟨[(0, .px 2000000 0)],[(2000000,1000001,[.v 122])],[]⟩,⟨[(2, .fn 20 [] [.px 1000000 0])],[(1000000,24,[.px 2000000 0])],[]⟩,[2000000],[(2,none)],true,fun _ _ _=>True⟩
def ya3:Sl KK:=⟨15,[],⟨[(0, .px 2000000 0)],[(2000000,1000001,[.v 122])],[]⟩,⟨[(2, .fn 20 [] [.px 1000000 0])],[(1000000,24,[.px 2000000 0])],[]⟩,[2000000],[(2,none)],true,apFs (K:=KK) (ctT ya2.ti) (ctT ya2.te) [] ybK⟩
def yeT:An KK:=(.s .o (.s .o .o))
def ye0:Cf KK:=⟨CC,[],[],4,[],none,false⟩
theorem yeY:SlOk Try.prog CC ya3:=by
 intro fs env out hl hF hW
 obtain ⟨rfl,h0⟩:=ycf hW
 obtain ⟨a0,ea0,rfl,h1⟩:=ya4 h0
 obtain ⟨rfl,h2⟩:=ycb h1
 obtain ⟨rfl,h3⟩:=ybc h2
 show SlC Try.prog CC ya3 [] [.v 122 a0] []
 rw[show SlC Try.prog CC ya3 [] [.v 122 a0] []=SlC Try.prog CC ya2 [] [.v 122 a0] [] by kernel_rfl]
 exact yq4 (F:=ye0) yk4 ygF yhu t15 (A:=yeT) (sp:=ya2) rfl (by kernel_rfl) (by kernel_rfl) (Nat.le_of_ble_eq_true (by kernel_rfl)) (fs:= []) (env:= [.v 122 a0]) (out:= []) (by kernel_rfl) hF (X:=ybK a0) h3 (by kernel_rfl)
def ylw (a0:yab) (r0:List Str):Prop:=
 ∃T W,a0=mkS T W/\T.length*16<=140737488355328/\r0=T.map (·.1)
def yjb:Sl KK:=⟨1000000,[],⟨[(0, .px 2000000 0)],[(2000000,1000001,[.v 122])],[]⟩,⟨[(0, .sl 9)],[],[]⟩,[2000000],[(0,none)],true,fun _ _ _=>True⟩
def ycY:Sl KK:=⟨1000000,[],⟨[(0, .px 2000000 0)],[(2000000,1000001,[.v 122])],[]⟩,⟨[(0, .sl 9)],[],[]⟩,[2000000],[(0,none)],true,apFs (K:=KK) (ctT yjb.ti) (ctT yjb.te) [] ylw⟩
theorem yph:SlOk Try.prog CC ycY:=by
 intro fs env out hl hF hW
 obtain ⟨rfl,h0⟩:=ycf hW
 obtain ⟨a0,ea0,rfl,h1⟩:=ya4 h0
 obtain ⟨rfl,h2⟩:=ycb h1
 obtain ⟨r0,er0,rfl,h3⟩:=ya7 h2
 obtain ⟨rfl,hf⟩:=ybc h3
 obtain ⟨T,W,rfl,c0,rfl⟩:=hf
 have hav:(AV.sl false T.length (T.flatMap fun p=> [.st p.1]))= .sl false (T.map (·.1)).length ((T.map (·.1)).flatMap fun s=> [.st s]):=by rw[List.length_map,List.flatMap_map]
 exact ycP (C:=CC) (sp:=ycY) (env:= [.v 122 (mkS T W)]) (out:= [.l 9 (T.map (·.1))]) (env':= [.l 9 (T.map (·.1)), .v 122 (mkS T W)]) (e:=1000001) (t:=122) (x:=(mkS T W)) (x':=(mkS T W)) (rest:= []) (av:= .sl false (T.map (·.1)).length ((T.map (·.1)).flatMap fun s=> [.st s])) (us:= [.sl 9 (T.map (·.1))]) (fun H n=>by simp only[encS];rw[<-hav];exact yr3 T W c0 H n) (by kernel_rfl) (by kernel_rfl) (fun χ=>by kernel_rfl) (by kernel_rfl) (Eq.mpr (show kpt (entL CC ycY [] [.v 122 (mkS T W)]) (bdT CC ycY.to [] [] [.l 9 (T.map (·.1)), .v 122 (mkS T W)]) ycY.kp (eqDV (selL ycY [.l 9 (T.map (·.1)), .v 122 (mkS T W)]) [.l 9 (T.map (·.1))])=((mkS T W)=(mkS T W)/\(T.map (·.1):(List Str))=T.map (·.1)) by kernel_rfl) ⟨rfl,rfl⟩) (by kernel_rfl) (by kernel_rfl) (by kernel_rfl)
def ymr (a0:Str) (a1:yab) (r0:Str):Prop:=
 ∃T W,a1=mkS T W/\a0.length<=9223372036854775807/\r0=txAt T a0
def yj3:Sl KK:=⟨1000001,[],⟨[(0, .px 2000000 0),(1, .st)],[(2000000,1000001,[.v 122])],[]⟩,⟨[(0, .st)],[],[]⟩,[2000000],[(0,none)],true,fun _ _ _=>True⟩
def yc2:Sl KK:=⟨1000001,[],⟨[(0, .px 2000000 0),(1, .st)],[(2000000,1000001,[.v 122])],[]⟩,⟨[(0, .st)],[],[]⟩,[2000000],[(0,none)],true,apFs (K:=KK) (ctT yj3.ti) (ctT yj3.te) [] ymr⟩
theorem yoB:SlOk Try.prog CC yc2:=by
 intro fs env out hl hF hW
 obtain ⟨rfl,h0⟩:=ycf hW
 obtain ⟨a0,ea0,rfl,h1⟩:=ya4 h0
 obtain ⟨a1,ea1,rfl,h2⟩:=ya4 h1
 obtain ⟨rfl,h3⟩:=ycb h2
 obtain ⟨r0,er0,rfl,h4⟩:=ya7 h3
 obtain ⟨rfl,hf⟩:=ybc h4
 obtain ⟨T,W,rfl,c0,rfl⟩:=hf
 exact ycP (C:=CC) (sp:=yc2) (env:= [.s a0, .v 122 (mkS T W)]) (out:= [.s (txAt T a0)]) (env':= [.s (txAt T a0), .v 122 (mkS T W)]) (e:=1000001) (t:=122) (x:=(mkS T W)) (x':=(mkS T W)) (rest:= [.st a0]) (us:= [.st (txAt T a0)]) (fun H n=>by simp only[encS];exact yuG T W a0 c0 H n) (by kernel_rfl) (by kernel_rfl) (fun χ=>by kernel_rfl) (by kernel_rfl) (Eq.mpr (show kpt (entL CC yc2 [] [.s a0, .v 122 (mkS T W)]) (bdT CC yc2.to [] [] [.s (txAt T a0), .v 122 (mkS T W)]) yc2.kp (eqDV (selL yc2 [.s (txAt T a0), .v 122 (mkS T W)]) [.s (txAt T a0)])=((mkS T W)=(mkS T W)/\(txAt T a0:Str)=txAt T a0) by kernel_rfl) ⟨rfl,rfl⟩) (by kernel_rfl) (by kernel_rfl) (by kernel_rfl)
def ybR  :Prop:=
 True
def ya0:Sl KK:=⟨15,[],⟨[(0, .np)],[],[]⟩,⟨[(2, .fn 20 [] [.px 1000000 0])],[(1000000,24,[.np])],[]⟩,[],[(2,none)],true,fun _ _ _=>True⟩
def ya1:Sl KK:=⟨15,[],⟨[(0, .np)],[],[]⟩,⟨[(2, .fn 20 [] [.px 1000000 0])],[(1000000,24,[.np])],[]⟩,[],[(2,none)],true,apFs (K:=KK) (ctT ya0.ti) (ctT ya0.te) [] ybR⟩
def ye1:An KK:=(.s .o (.s .o .o))
def yeS:Cf KK:=⟨CC,[],[],4,[],none,false⟩
theorem yeU:SlOk Try.prog CC ya1:=by
 intro fs env out hl hF hW
 obtain ⟨rfl,h0⟩:=ycf hW
 obtain ⟨rfl,h1⟩:=ycb h0
 obtain ⟨rfl,h2⟩:=ybc h1
 show SlC Try.prog CC ya1 [] [] []
 rw[show SlC Try.prog CC ya1 [] [] []=SlC Try.prog CC ya0 [] [] [] by kernel_rfl]
 exact yq4 (F:=yeS) yk4 ygF yhu t15 (A:=ye1) (sp:=ya0) rfl (by kernel_rfl) (by kernel_rfl) (Nat.le_of_ble_eq_true (by kernel_rfl)) (fs:= []) (env:= []) (out:= []) (by kernel_rfl) hF (X:=ybR) h2 (by kernel_rfl)
def yc1 (a0 r0:Str):Prop:=
 r0= []
def ycO:Sl KK:=⟨13,[],⟨[(0, .np),(1, .st)],[],[]⟩,⟨[(4, .st)],[],[]⟩,[],[(4,none)],true,fun _ _ _=>True⟩
def yax:Sl KK:=⟨13,[],⟨[(0, .np),(1, .st)],[],[]⟩,⟨[(4, .st)],[],[]⟩,[],[(4,none)],true,apFs (K:=KK) (ctT ycO.ti) (ctT ycO.te) [] yc1⟩
theorem yeX:SlOk Try.prog CC yax:=by
 intro fs env out hl hF hW
 obtain ⟨rfl,h0⟩:=ycf hW
 obtain ⟨a0,ea0,rfl,h1⟩:=ya4 h0
 obtain ⟨rfl,h2⟩:=ycb h1
 obtain ⟨r0,er0,rfl,h3⟩:=ya7 h2
 obtain ⟨rfl,hf⟩:=ybc h3
 obtain rfl:=hf
 exact ydZ (C:=CC) (sp:=yax) (env:= [.s a0]) (out:= [.s []]) (args:= [.nptr, .st a0]) (us:= [.st []]) (yu6 a0) (fun χ=>by kernel_rfl) (by kernel_rfl) (Eq.mpr (show kpt (entL CC yax [] [.s a0]) (bdT CC yax.to [] [] [.s []]) yax.kp (eqDV (selL yax [.s []]) [.s []])=(([]:Str)= []) by kernel_rfl) rfl) (by kernel_rfl) (by kernel_rfl) (by kernel_rfl)
def yc5 (a0 a1:Str) (r0:List Int):Prop:=
 r0= []
def ycL:Sl KK:=⟨11,[],⟨[(0, .np),(1, .st),(2, .st)],[],[]⟩,⟨[(6, .sl 3)],[],[]⟩,[],[(6,none)],true,fun _ _ _=>True⟩
def yav:Sl KK:=⟨11,[],⟨[(0, .np),(1, .st),(2, .st)],[],[]⟩,⟨[(6, .sl 3)],[],[]⟩,[],[(6,none)],true,apFs (K:=KK) (ctT ycL.ti) (ctT ycL.te) [] yc5⟩
theorem ye3:SlOk Try.prog CC yav:=by
 intro fs env out hl hF hW
 obtain ⟨rfl,h0⟩:=ycf hW
 obtain ⟨a0,ea0,rfl,h1⟩:=ya4 h0
 obtain ⟨a1,ea1,rfl,h2⟩:=ya4 h1
 obtain ⟨rfl,h3⟩:=ycb h2
 obtain ⟨r0,er0,rfl,h4⟩:=ya7 h3
 obtain ⟨rfl,hf⟩:=ybc h4
 obtain rfl:=hf
 exact ydZ (C:=CC) (sp:=yav) (env:= [.s a0, .s a1]) (out:= [.l 3 []]) (args:= [.nptr, .st a0, .st a1]) (us:= [.sl 3 []]) (yu3 a0 a1) (fun χ=>by kernel_rfl) (by kernel_rfl) (Eq.mpr (show kpt (entL CC yav [] [.s a0, .s a1]) (bdT CC yav.to [] [] [.l 3 []]) yav.kp (eqDV (selL yav [.l 3 []]) [.l 3 []])=(([]:(List Int))= []) by kernel_rfl) rfl) (by kernel_rfl) (by kernel_rfl) (by kernel_rfl)
def ycw (a0:Str) (a1:Int) (r0:Bool):Prop:=
 r0=false
def yci:Sl KK:=⟨8,[],⟨[(0, .np),(1, .st),(2, .it .i64)],[],[]⟩,⟨[(6, .bl)],[],[]⟩,[],[(6,none)],true,fun _ _ _=>True⟩
def yat:Sl KK:=⟨8,[],⟨[(0, .np),(1, .st),(2, .it .i64)],[],[]⟩,⟨[(6, .bl)],[],[]⟩,[],[(6,none)],true,apFs (K:=KK) (ctT yci.ti) (ctT yci.te) [] ycw⟩
theorem yd7:SlOk Try.prog CC yat:=by
 intro fs env out hl hF hW
 obtain ⟨rfl,h0⟩:=ycf hW
 obtain ⟨a0,ea0,rfl,h1⟩:=ya4 h0
 obtain ⟨a1,ea1,rfl,h2⟩:=ya4 h1
 obtain ⟨rfl,h3⟩:=ycb h2
 obtain ⟨r0,er0,rfl,h4⟩:=ya7 h3
 obtain ⟨rfl,hf⟩:=ybc h4
 obtain rfl:=hf
 exact ydZ (C:=CC) (sp:=yat) (env:= [.s a0, .i a1]) (out:= [.b false]) (args:= [.nptr, .st a0, .it .i64 a1]) (us:= [.bl false]) (ysU a0 a1) (fun χ=>by kernel_rfl) (by kernel_rfl) (Eq.mpr (show kpt (entL CC yat [] [.s a0, .i a1]) (bdT CC yat.to [] [] [.b false]) yat.kp (eqDV (selL yat [.b false]) [.b false])=((false:Bool)=false) by kernel_rfl) rfl) (by kernel_rfl) (by kernel_rfl) (by kernel_rfl)
def ybZ (a0:Str) (a1:Int) (r0:Bool):Prop:=
 r0=false
def ybW:Sl KK:=⟨10,[],⟨[(0, .np),(1, .st),(2, .it .i64)],[],[]⟩,⟨[(6, .bl)],[],[]⟩,[],[(6,none)],true,fun _ _ _=>True⟩
def yam:Sl KK:=⟨10,[],⟨[(0, .np),(1, .st),(2, .it .i64)],[],[]⟩,⟨[(6, .bl)],[],[]⟩,[],[(6,none)],true,apFs (K:=KK) (ctT ybW.ti) (ctT ybW.te) [] ybZ⟩
theorem ydB:SlOk Try.prog CC yam:=by
 intro fs env out hl hF hW
 obtain ⟨rfl,h0⟩:=ycf hW
 obtain ⟨a0,ea0,rfl,h1⟩:=ya4 h0
 obtain ⟨a1,ea1,rfl,h2⟩:=ya4 h1
 obtain ⟨rfl,h3⟩:=ycb h2
 obtain ⟨r0,er0,rfl,h4⟩:=ya7 h3
 obtain ⟨rfl,hf⟩:=ybc h4
 obtain rfl:=hf
 exact ydZ (C:=CC) (sp:=yam) (env:= [.s a0, .i a1]) (out:= [.b false]) (args:= [.nptr, .st a0, .it .i64 a1]) (us:= [.bl false]) (yoH a0 a1) (fun χ=>by kernel_rfl) (by kernel_rfl) (Eq.mpr (show kpt (entL CC yam [] [.s a0, .i a1]) (bdT CC yam.to [] [] [.b false]) yam.kp (eqDV (selL yam [.b false]) [.b false])=((false:Bool)=false) by kernel_rfl) rfl) (by kernel_rfl) (by kernel_rfl) (by kernel_rfl)
def yb0 (a0:Str) (r0:List Int):Prop:=
 r0= []
def ybV:Sl KK:=⟨14,[],⟨[(0, .np),(1, .st)],[],[]⟩,⟨[(4, .sl 3)],[],[]⟩,[],[(4,none)],true,fun _ _ _=>True⟩
def yao:Sl KK:=⟨14,[],⟨[(0, .np),(1, .st)],[],[]⟩,⟨[(4, .sl 3)],[],[]⟩,[],[(4,none)],true,apFs (K:=KK) (ctT ybV.ti) (ctT ybV.te) [] yb0⟩
theorem ydx:SlOk Try.prog CC yao:=by
 intro fs env out hl hF hW
 obtain ⟨rfl,h0⟩:=ycf hW
 obtain ⟨a0,ea0,rfl,h1⟩:=ya4 h0
 obtain ⟨rfl,h2⟩:=ycb h1
 obtain ⟨r0,er0,rfl,h3⟩:=ya7 h2
 obtain ⟨rfl,hf⟩:=ybc h3
 obtain rfl:=hf
 exact ydZ (C:=CC) (sp:=yao) (env:= [.s a0]) (out:= [.l 3 []]) (args:= [.nptr, .st a0]) (us:= [.sl 3 []]) (yop a0) (fun χ=>by kernel_rfl) (by kernel_rfl) (Eq.mpr (show kpt (entL CC yao [] [.s a0]) (bdT CC yao.to [] [] [.l 3 []]) yao.kp (eqDV (selL yao [.l 3 []]) [.l 3 []])=(([]:(List Int))= []) by kernel_rfl) rfl) (by kernel_rfl) (by kernel_rfl) (by kernel_rfl)
def yde (r0:Int):Prop:=
 r0=0
def ycK:Sl KK:=⟨17,[],⟨[(0, .np)],[],[]⟩,⟨[(2, .it .i64)],[],[]⟩,[],[(2,none)],true,fun _ _ _=>True⟩
def yay:Sl KK:=⟨17,[],⟨[(0, .np)],[],[]⟩,⟨[(2, .it .i64)],[],[]⟩,[],[(2,none)],true,apFs (K:=KK) (ctT ycK.ti) (ctT ycK.te) [] yde⟩
theorem yeV:SlOk Try.prog CC yay:=by
 intro fs env out hl hF hW
 obtain ⟨rfl,h0⟩:=ycf hW
 obtain ⟨rfl,h1⟩:=ycb h0
 obtain ⟨r0,er0,rfl,h2⟩:=ya7 h1
 obtain ⟨rfl,hf⟩:=ybc h2
 obtain rfl:=hf
 exact ydZ (C:=CC) (sp:=yay) (env:= []) (out:= [.i 0]) (args:= [.nptr]) (us:= [.it .i64 0]) (yvO) (fun χ=>by kernel_rfl) (by kernel_rfl) (Eq.mpr (show kpt (entL CC yay [] []) (bdT CC yay.to [] [] [.i 0]) yay.kp (eqDV (selL yay [.i 0]) [.i 0])=((0:Int)=0) by kernel_rfl) rfl) (by kernel_rfl) (by kernel_rfl) (by kernel_rfl)
def yb3 (r0:Int):Prop:=
 r0=0
def ybS:Sl KK:=⟨16,[],⟨[(0, .np)],[],[]⟩,⟨[(2, .it .i64)],[],[]⟩,[],[(2,none)],true,fun _ _ _=>True⟩
def yaq:Sl KK:=⟨16,[],⟨[(0, .np)],[],[]⟩,⟨[(2, .it .i64)],[],[]⟩,[],[(2,none)],true,apFs (K:=KK) (ctT ybS.ti) (ctT ybS.te) [] yb3⟩
theorem ydw:SlOk Try.prog CC yaq:=by
 intro fs env out hl hF hW
 obtain ⟨rfl,h0⟩:=ycf hW
 obtain ⟨rfl,h1⟩:=ycb h0
 obtain ⟨r0,er0,rfl,h2⟩:=ya7 h1
 obtain ⟨rfl,hf⟩:=ybc h2
 obtain rfl:=hf
 exact ydZ (C:=CC) (sp:=yaq) (env:= []) (out:= [.i 0]) (args:= [.nptr]) (us:= [.it .i64 0]) (ynm) (fun χ=>by kernel_rfl) (by kernel_rfl) (Eq.mpr (show kpt (entL CC yaq [] []) (bdT CC yaq.to [] [] [.i 0]) yaq.kp (eqDV (selL yaq [.i 0]) [.i 0])=((0:Int)=0) by kernel_rfl) rfl) (by kernel_rfl) (by kernel_rfl) (by kernel_rfl)
def ydj (r0:Bool) (X1:Int→yab→(List yaa)→Prop) (x3:Int) (x25:Bool) (x26:yab) (x27:List yaa):Prop:=
 cnd x25 (false=r0) (X1 (IntKind.i64.wrap (x3+(1:Int))) x26 x27)
def ycc (x10:Int) (r0:Bool) (X1:Int→yab→(List yaa)→Prop) (x3:Int) (y9:yag) (x19:yab) (x20 x21:Str) (x22:List Int) (x23:List yaa):Prop:=
 (0<=x10)/\(x10<(x23.length:Int))/\∃y24:yaa,(x23[x10.toNat]? =some y24)/\∀J7:Bool->yab->(List yaa)->Prop,(∀x25 x26 x27,ydj r0 X1 x3 x25 x26 x27->J7 x25 x26 x27)->∃z28,(ybb ((y9.Name.drop (0:Int).toNat).take ((if (5:Int)<(y9.Name.length:Int) then (5:Int) else (y9.Name.length:Int)).toNat-(0:Int).toNat)) x19 z28)/\cnd (!(z28==x21)) (J7 true x19 (x23.set x10.toNat (⟨x20,x21,x22⟩:yaa))) (∃z29,(ya9 ((y9.Name.drop (0:Int).toNat).take ((if (5:Int)<(y9.Name.length:Int) then (5:Int) else (y9.Name.length:Int)).toNat-(0:Int).toNat)) x19 z29)/\∃z30,(ybs z29 x22 z30)/\J7 (!z30) x19 (x23.set x10.toNat (⟨x20,x21,x22⟩:yaa)))
def ydo (r0:Bool) (J6:yab→Str→Str→(List Int)→(List yaa)→Prop) (y18:yaa) (y9:yag) (x44:Bool) (x45:yab) (x46:List yaa):Prop:=
 cnd x44 (false=r0) (J6 x45 y18.name ((y9.Text.drop (0:Int).toNat).take ((if (5:Int)<(y9.Text.length:Int) then (5:Int) else (y9.Text.length:Int)).toNat-(0:Int).toNat)) y18.who x46)
def ycd (y18:yaa) (y9:yag) (r0:Bool) (J6:yab→Str→Str→(List Int)→(List yaa)→Prop) (x31:Bool) (x32:yab) (x33:List yaa):Prop:=
 cnd x31 (∃z34 z35,(ybD y18.who y9.Who z34 z35)/\∃z36 z37,(yaK ((y9.Name.drop (0:Int).toNat).take ((if (5:Int)<(y9.Name.length:Int) then (5:Int) else (y9.Name.length:Int)).toNat-(0:Int).toNat)) y9.Who x32 z36 z37)/\cnd (!(z36==z35)) (false=r0) (J6 z37 y18.name y18.text z34 x33)) (cnd ((y9.What.tmod (6:Int))==(5:Int)) (∃z38 z39,(ybA y18.who y9.Who z38 z39)/\∃z40 z41,(ybf ((y9.Name.drop (0:Int).toNat).take ((if (5:Int)<(y9.Name.length:Int) then (5:Int) else (y9.Name.length:Int)).toNat-(0:Int).toNat)) y9.Who x32 z40 z41)/\cnd (!(z40==z39)) (false=r0) (J6 z41 y18.name y18.text z38 x33)) (∃z42 z43,(yaV ((y9.Name.drop (0:Int).toNat).take ((if (5:Int)<(y9.Name.length:Int) then (5:Int) else (y9.Name.length:Int)).toNat-(0:Int).toNat)) ((y9.Text.drop (0:Int).toNat).take ((if (5:Int)<(y9.Text.length:Int) then (5:Int) else (y9.Text.length:Int)).toNat-(0:Int).toNat)) x32 z42 z43)/\∀J9:Bool->yab->(List yaa)->Prop,(∀x44 x45 x46,ydo r0 J6 y18 y9 x44 x45 x46->J9 x44 x45 x46)->cnd (y18.text==((y9.Text.drop (0:Int).toNat).take ((if (5:Int)<(y9.Text.length:Int) then (5:Int) else (y9.Text.length:Int)).toNat-(0:Int).toNat))) ((z42.length<=maxLen->cnd (!((z42.length:Int)==(0:Int))) (J9 true z43 x33) (cnd (!(y18.text==((y9.Text.drop (0:Int).toNat).take ((if (5:Int)<(y9.Text.length:Int) then (5:Int) else (y9.Text.length:Int)).toNat-(0:Int).toNat)))) (∃z47,(ybs z42 y18.who z47)/\J9 (!z47) z43 x33) (J9 false z43 x33)))) (cnd (!(y18.text==((y9.Text.drop (0:Int).toNat).take ((if (5:Int)<(y9.Text.length:Int) then (5:Int) else (y9.Text.length:Int)).toNat-(0:Int).toNat)))) (∃z48,(ybs z42 y18.who z48)/\J9 (!z48) z43 x33) (J9 false z43 x33))))
def yb8 (x10:Int) (r0:Bool) (X1:Int→yab→(List yaa)→Prop) (x3:Int) (y9:yag) (x16:yab) (x17:List yaa):Prop:=
 (0<=x10)/\(x10<(x17.length:Int))/\∃y18:yaa,(x17[x10.toNat]? =some y18)/\∀J6:yab->Str->Str->(List Int)->(List yaa)->Prop,(∀x19 x20 x21 x22 x23,ycc x10 r0 X1 x3 y9 x19 x20 x21 x22 x23->J6 x19 x20 x21 x22 x23)->∀J8:Bool->yab->(List yaa)->Prop,(∀x31 x32 x33,ycd y18 y9 r0 J6 x31 x32 x33->J8 x31 x32 x33)->cnd ((y9.What.tmod (6:Int))==(3:Int)) (J8 ((y9.What.tmod (6:Int))==(3:Int)) x16 x17) (J8 ((y9.What.tmod (6:Int))==(4:Int)) x16 x17)
def ybN (x10:Int) (y9:yag) (J5:yab→(List yaa)→Prop) (x49:Bool) (x50:yab) (x51:List yaa):Prop:=
 cnd x49 ((0<=(0:Int)/\(0:Int)<=x10/\x10<=(x51.length:Int))/\((ybl x51 (0:Int) x10).length<=400000000)/\((([]:List yaa)++(ybl x51 (0:Int) x10)).length<=1000000000)/\(0<=x10/\x10<=(x51.length:Int)/\(x51.length:Int)<=(x51.length:Int))/\(((([]:List yaa)++(ybl x51 (0:Int) x10))++([(⟨(y9.Name.drop (0:Int).toNat).take ((if (5:Int)<(y9.Name.length:Int) then (5:Int) else (y9.Name.length:Int)).toNat-(0:Int).toNat),([]:Str),([]:List Int)⟩:yaa)]:List yaa)).length<=1000000000)/\((ybl x51 x10 (x51.length:Int)).length<=400000000)/\J5 x50 (((([]:List yaa)++(ybl x51 (0:Int) x10))++([(⟨(y9.Name.drop (0:Int).toNat).take ((if (5:Int)<(y9.Name.length:Int) then (5:Int) else (y9.Name.length:Int)).toNat-(0:Int).toNat),([]:Str),([]:List Int)⟩:yaa)]:List yaa))++(ybl x51 x10 (x51.length:Int)))) (J5 x50 x51)
def yb5 (X3:Int→yab→(List yaa)→Prop) (x10:Int) (r0:Bool) (X1:Int→yab→(List yaa)→Prop) (x3:Int) (y9:yag) (x13:Bool) (x14:yab) (x15:List yaa):Prop:=
 cnd x13 (X3 (IntKind.i64.wrap (x10+(1:Int))) x14 x15) (∀J5:yab->(List yaa)->Prop,(∀x16 x17,yb8 x10 r0 X1 x3 y9 x16 x17->J5 x16 x17)->∀J10:Bool->yab->(List yaa)->Prop,(∀x49 x50 x51,ybN x10 y9 J5 x49 x50 x51->J10 x49 x50 x51)->cnd (x10==(x15.length:Int)) (J10 true x14 x15) ((0<=x10)/\(x10<(x15.length:Int))/\∃y52:yaa,(x15[x10.toNat]? =some y52)/\J10 (!(y52.name==((y9.Name.drop (0:Int).toNat).take ((if (5:Int)<(y9.Name.length:Int) then (5:Int) else (y9.Name.length:Int)).toNat-(0:Int).toNat)))) x14 x15))
def yce (r0:Bool) (X1:Int→yab→(List yaa)→Prop) (x3:Int) (y9:yag) (X3:Int→yab→(List yaa)→Prop) (x10:Int) (x11:yab) (x12:List yaa):Prop:=
 ∀J4:Bool->yab->(List yaa)->Prop,(∀x13 x14 x15,yb5 X3 x10 r0 X1 x3 y9 x13 x14 x15->J4 x13 x14 x15)->cnd (decide (x10<(x12.length:Int))) ((0<=x10)/\(x10<(x12.length:Int))/\∃y53:yaa,(x12[x10.toNat]? =some y53)/\J4 (Op.bytesLess y53.name ((y9.Name.drop (0:Int).toNat).take ((if (5:Int)<(y9.Name.length:Int) then (5:Int) else (y9.Name.length:Int)).toNat-(0:Int).toNat))) x11 x12) (J4 false x11 x12)
def yc4 (r0:Bool) (X12:Int→yab→Int→Int→(List yaa)→Prop) (x62 x64 x69:Int) (x75:Bool) (x76:yab) (x77:List yaa):Prop:=
 cnd x75 (false=r0) (X12 (IntKind.i64.wrap (x62+(1:Int))) x76 (IntKind.i64.wrap (x64-(1:Int))) (IntKind.i64.wrap (x69+(1:Int))) x77)
def ybQ (X13:Int→yab→(List yaa)→Prop) (x69:Int) (r0:Bool) (X12:Int→yab→Int→Int→(List yaa)→Prop) (x62 x64:Int) (y67 z68:Str) (x72:Bool) (x73:yab) (x74:List yaa):Prop:=
 cnd x72 (X13 (IntKind.i64.wrap (x69+(1:Int))) x73 x74) (∀J15:Bool->yab->(List yaa)->Prop,(∀x75 x76 x77,yc4 r0 X12 x62 x64 x69 x75 x76 x77->J15 x75 x76 x77)->cnd (decide ((x74.length:Int)<=x69)) (J15 true x73 x74) ((0<=x69)/\(x69<(x74.length:Int))/\∃y78:yaa,(x74[x69.toNat]? =some y78)/\cnd (!(y78.name==y67)) (J15 true x73 x74) ((0<=x69)/\(x69<(x74.length:Int))/\∃y79:yaa,(x74[x69.toNat]? =some y79)/\J15 (!(y79.text==z68)) x73 x74)))
def ydb (r0:Bool) (X12:Int→yab→Int→Int→(List yaa)→Prop) (x62 x64:Int) (y67 z68:Str) (X13:Int→yab→(List yaa)→Prop) (x69:Int) (x70:yab) (x71:List yaa):Prop:=
 ∀J14:Bool->yab->(List yaa)->Prop,(∀x72 x73 x74,ybQ X13 x69 r0 X12 x62 x64 y67 z68 x72 x73 x74->J14 x72 x73 x74)->cnd (decide (x69<(x71.length:Int))) ((0<=x69)/\(x69<(x71.length:Int))/\∃y80:yaa,(x71[x69.toNat]? =some y80)/\J14 (y80.text==([]:Str)) x70 x71) (J14 false x70 x71)
def yfp (r0 x81:Bool):Prop:=
 x81=r0
def ybL (z61:List Str) (r0:Bool) (x54:Int) (X12:Int→yab→Int→Int→(List yaa)→Prop) (x62:Int) (x63:yab) (x64 x65:Int) (x66:List yaa):Prop:=
 cnd (decide (x62<(z61.length:Int))) ((0<=x62)/\(x62<(z61.length:Int))/\∃y67:Str,(z61[x62.toNat]? =some y67)/\∃z68,(ymr y67 x63 z68)/\∀X13:Int->yab->(List yaa)->Prop,(∀x69 x70 x71,ydb r0 X12 x62 x64 y67 z68 X13 x69 x70 x71->X13 x69 x70 x71)->X13 x65 x63 x66) ((ybR)/\(Nat->∀J16:Bool->Prop,(∀x81,yfp r0 x81->J16 x81)->cnd (x64==(0:Int)) (∃z82,(yba x63 z82)/\cnd (z82==x54) (∃z83,(yc1 ([97]:Str) z83)/\cnd (z83==([]:Str)) (∃z84,(yc5 ([97]:Str) ([98]:Str) z84)/\(z84.length<=maxLen->cnd ((z84.length:Int)==(0:Int)) (∃z85,(ycw ([97]:Str) (1:Int) z85)/\cnd (!z85) (∃z86,(ybZ ([97]:Str) (1:Int) z86)/\cnd (!z86) (∃z87,(yb0 ([97]:Str) z87)/\(z87.length<=maxLen->cnd ((z87.length:Int)==(0:Int)) (∃z88,(yde z88)/\cnd (z88==(0:Int)) (∃z89,(yb3 z89)/\J16 (z89==(0:Int))) (J16 false)) (J16 false))) (J16 false)) (J16 false)) (J16 false))) (J16 false)) (J16 false)) (J16 false)))
def ybP (r0:Bool) (X11:Int→Int→yab→Int→(List yaa)→Prop) (x54 x55:Int) (x56:yab) (x57:Int) (x58:List yaa):Prop:=
 cnd (decide (x55<(x58.length:Int))) ((0<=x55)/\(x55<(x58.length:Int))/\∃y59:yaa,(x58[x55.toNat]? =some y59)/\(y59.who.length<=maxLen->(0<=x55)/\(x55<(x58.length:Int))/\∃y60:yaa,(x58[x55.toNat]? =some y60)/\cnd (!(y60.text==([]:Str))) (X11 (IntKind.i64.wrap (x54+(y59.who.length:Int))) (IntKind.i64.wrap (x55+(1:Int))) x56 (IntKind.i64.wrap (x57+(1:Int))) x58) (X11 (IntKind.i64.wrap (x54+(y59.who.length:Int))) (IntKind.i64.wrap (x55+(1:Int))) x56 x57 x58))) ((ybK x56)/\(Nat->∃z61,(ylw x56 z61)/\(z61.length<=maxLen->∀X12:Int->yab->Int->Int->(List yaa)->Prop,(∀x62 x63 x64 x65 x66,ybL z61 r0 x54 X12 x62 x63 x64 x65 x66->X12 x62 x63 x64 x65 x66)->X12 (0:Int) x56 x57 (0:Int) x58)))
def yb2 (x3:Int) (a0:List yag) (r0:Bool) (X1:Int→yab→(List yaa)→Prop) (x6:Bool) (x7:yab) (x8:List yaa):Prop:=
 cnd x6 ((0<=x3)/\(x3<(a0.length:Int))/\∃y9:yag,(a0[x3.toNat]? =some y9)/\(0<=(0:Int)/\(0:Int)<=(if (5:Int)<(y9.Name.length:Int) then (5:Int) else (y9.Name.length:Int))/\(if (5:Int)<(y9.Name.length:Int) then (5:Int) else (y9.Name.length:Int))<=(y9.Name.length:Int))/\(0<=(0:Int)/\(0:Int)<=(if (5:Int)<(y9.Text.length:Int) then (5:Int) else (y9.Text.length:Int))/\(if (5:Int)<(y9.Text.length:Int) then (5:Int) else (y9.Text.length:Int))<=(y9.Text.length:Int))/\∀X3:Int->yab->(List yaa)->Prop,(∀x10 x11 x12,yce r0 X1 x3 y9 X3 x10 x11 x12->X3 x10 x11 x12)->X3 (0:Int) x7 x8) (∀X11:Int->Int->yab->Int->(List yaa)->Prop,(∀x54 x55 x56 x57 x58,ybP r0 X11 x54 x55 x56 x57 x58->X11 x54 x55 x56 x57 x58)->X11 (0:Int) (0:Int) x7 (0:Int) x8)
def yb4 (a0:List yag) (r0:Bool) (X1:Int→yab→(List yaa)→Prop) (x3:Int) (x4:yab) (x5:List yaa):Prop:=
 ∀J2:Bool->yab->(List yaa)->Prop,(∀x6 x7 x8,yb2 x3 a0 r0 X1 x6 x7 x8->J2 x6 x7 x8)->(a0.length<=maxLen->cnd (decide (x3<(a0.length:Int))) (J2 (decide (x3<(60:Int))) x4 x5) (J2 false x4 x5))
def yaS (a0:List yag) (r0:Bool):Prop:=
 ∃z1,(ybC z1)/\cnd (!z1) (false=r0) (∃z2,(yd1 z2)/\∀X1:Int->yab->(List yaa)->Prop,(∀x3 x4 x5,yb4 a0 r0 X1 x3 x4 x5->X1 x3 x4 x5)->X1 (0:Int) z2 ([]:List yaa))
def ybo:Sp KK:=⟨3,[.v 22],[4],appW (K:=KK) [4] [.v 22] yaS⟩
def yfG:An KK:=(.s .o (.s (.s .o (.c (.s .o .o) .o)) (.s .o (.s .o (.s (.s .o (.b (.l ⟨[(0, .kp 199),(2, .px 2 0),(3, .px 1001472 0),(4, .px 4 0),(5, .it .i64)],[(2,4,[.kp 201]),(1001472,1000001,[.v 122]),(4,26,[.row 97])],[(97,31)]⟩ (fun _=>(.s (.j ⟨[(0, .kp 199),(2, .px 2 0),(3, .px 1001472 0),(4, .px 4 0),(5, .kp 326),(31, .bl)],[(2,4,[.kp 201]),(1001472,1000001,[.v 122]),(4,26,[.row 97])],[(97,31)]⟩ .o (fun _=>(.c .o .o))) (.s (.b (.s .o (.s .o (.s .o (.s (.b (.l ⟨[(0, .kp 199),(2, .px 2 0),(3, .px 1001472 0),(4, .px 4 0),(5, .kp 326),(6, .px 6 0),(7, .it .i64)],[(2,4,[.kp 201]),(1001472,1000001,[.v 122]),(4,26,[.row 97]),(6,28,[.kp 367, .kp 368, .kp 369, .kp 370])],[(97,31)]⟩ (fun _=>(.s (.j ⟨[(0, .kp 199),(2, .px 2 0),(3, .px 1001472 0),(4, .px 4 0),(5, .kp 326),(6, .px 6 0),(7, .kp 374),(67, .bl)],[(2,4,[.kp 201]),(1001472,1000001,[.v 122]),(4,26,[.row 97]),(6,28,[.kp 367, .kp 368, .kp 369, .kp 370])],[(97,31)]⟩ .o (fun _=>(.c .o .o))) (.b .o))))) (.j ⟨[(0, .kp 199),(2, .px 2 0),(3, .px 1001472 0),(4, .px 4 0),(5, .kp 326),(6, .px 6 0),(7, .kp 374)],[(2,4,[.kp 201]),(1001472,1000001,[.v 122]),(4,26,[.row 97]),(6,28,[.kp 367, .kp 368, .kp 369, .kp 370])],[(97,31)]⟩ (.j ⟨[(0, .kp 199),(2, .px 2 0),(3, .px 1001472 0),(4, .px 4 0),(5, .kp 326),(6, .px 6 0),(7, .kp 374),(83, .bl)],[(2,4,[.kp 201]),(1001472,1000001,[.v 122]),(4,26,[.row 97]),(6,28,[.kp 367, .kp 368, .kp 369, .kp 370])],[(97,31)]⟩ .o (fun _=>(.c .o .o))) (fun _=>(.s .o (.j ⟨[(0, .kp 199),(2, .px 2 0),(3, .px 1001472 0),(4, .px 4 0),(5, .kp 326),(6, .px 6 0),(7, .kp 374),(8, .px 8 0)],[(2,4,[.kp 201]),(1001472,1000001,[.v 122]),(4,26,[.row 97]),(6,28,[.kp 367, .kp 368, .kp 369, .kp 370]),(8,31,[.st, .st, .sl 3])],[(97,31)]⟩ (.s .o (.b (.j ⟨[(0, .kp 199),(2, .px 2 0),(3, .px 1001472 0),(4, .px 4 0),(5, .kp 326),(6, .px 6 0),(7, .kp 374),(8, .px 8 0),(104, .kp 383),(138, .bl)],[(2,4,[.kp 201]),(1001472,1000001,[.v 122]),(4,26,[.row 97]),(6,28,[.kp 367, .kp 368, .kp 369, .kp 370]),(8,31,[.kp 384, .kp 385, .kp 386])],[(97,31)]⟩ (.s .o (.c .o .o)) (fun _=>(.c (.s .o (.s (.s .o (.c (.s .o .o) .o)) .o)) (.s .o (.c (.s .o (.s (.s .o (.c (.s .o .o) .o)) .o)) (.s .o (.s (.j ⟨[(0, .kp 199),(2, .px 2 0),(3, .px 1001472 0),(4, .px 4 0),(5, .kp 326),(6, .px 6 0),(7, .kp 374),(8, .px 8 0),(134, .bl)],[(2,4,[.kp 201]),(1001472,1000001,[.v 122]),(4,26,[.row 97]),(6,28,[.kp 367, .kp 368, .kp 369, .kp 370]),(8,31,[.kp 384, .kp 385, .kp 386])],[(97,31)]⟩ .o (fun _=>(.c (.s .o .o) .o))) .o))))))))) (fun _=>(.s .o (.j ⟨[(0, .kp 199),(2, .px 2 0),(3, .px 1001472 0),(4, .px 4 0),(5, .kp 326),(199, .bl)],[(2,4,[.kp 201]),(1001472,1000001,[.v 122]),(4,26,[.row 97])],[(97,31)]⟩ .o (fun _=>(.c (.s .o .o) .o)))))))))))))) .o)))))) (.s .o (.s (.s .o (.b (.l ⟨[(2, .px 2 0),(3, .px 1001472 0),(4, .px 4 0),(14, .px 14 0),(15, .it .i64),(16, .px 16 0),(17, .it .i64)],[(2,4,[.kp 201]),(1001472,1000001,[.v 122]),(4,26,[.row 97]),(14,3,[.it .i64]),(16,3,[.kp 394])],[(97,31)]⟩ (fun _=>(.s (.s .o (.c .o .o)) (.s (.b (.s .o (.s .o (.c .o .o)))) .o)))))) (.s (.s .o (.b (.g 395 ⟨[(2, .px 100002 0),(3, .px 101472 0),(4, .px 100004 0),(14, .px 100014 0),(15, .it .i64),(16, .px 100016 0),(223, .fn 20 [] [.px 114272 0])],[(100002,4,[.kp 201]),(101472,1000001,[.v 122]),(100004,26,[.row 100097]),(100014,3,[.it .i64]),(100016,3,[.kp 394]),(114272,24,[.px 101472 0])],[(100097,31)]⟩ ⟨[(0, .kp 395),(1, .px 214272 0),(12, .kp 497),(13, .kp 498),(14, .it .i64),(18, .kp 395),(19, .st),(25, .st),(29, .kp 395),(32, .px 200002 0),(33, .px 201472 0),(34, .px 200004 0),(44, .px 200014 0),(45, .kp 500),(46, .px 200016 0)],[(214272,24,[.px 201472 0]),(200002,4,[.kp 201]),(201472,1000001,[.v 122]),(200004,26,[.row 200097]),(200014,3,[.it .i64]),(200016,3,[.it .i64])],[(200097,31)]⟩ (.s (.s .o (.c .o .o)) (.s .o (.b (.l ⟨[(0, .kp 395),(1, .px 114272 0),(12, .kp 497),(13, .kp 498),(14, .it .i64),(29, .kp 395),(32, .px 100002 0),(33, .px 101472 0),(34, .px 100004 0),(44, .px 100014 0),(45, .kp 500),(46, .px 100016 0)],[(114272,24,[.px 101472 0]),(100002,4,[.kp 201]),(101472,1000001,[.v 122]),(100004,26,[.row 100097]),(100014,3,[.it .i64]),(100016,3,[.it .i64])],[(100097,31)]⟩ (fun _=>(.s .o (.s (.c .o .o) (.s (.b (.s .o (.s .o (.c .o .o)))) .o)))))))) (.s .o .o) (.b (.s (.b (.l ⟨[(2, .px 200002 0),(4, .px 200004 0),(14, .px 200014 0),(16, .px 200016 0),(18, .kp 589),(19, .kp 590),(315, .kp 395),(316, .px 214272 0),(327, .kp 497),(328, .kp 498),(329, .kp 591),(344, .kp 395),(347, .px 200002 0),(348, .px 201472 0),(349, .px 200004 0),(359, .px 200014 0),(360, .kp 500),(361, .px 200016 0)],[(200002,4,[.kp 201]),(200004,26,[.row 200097]),(200014,3,[.kp 592]),(200016,3,[.it .i64]),(214272,24,[.px 201472 0]),(201472,1000001,[.v 122])],[(200097,31)]⟩ (fun _=>(.s (.j ⟨[(2, .px 200002 0),(4, .px 200004 0),(14, .px 200014 0),(16, .px 200016 0),(18, .kp 589),(19, .kp 590),(237, .bl),(315, .kp 395),(316, .px 214272 0),(327, .kp 497),(328, .kp 498),(329, .kp 591),(344, .kp 395),(347, .px 200002 0),(348, .px 201472 0),(349, .px 200004 0),(359, .px 200014 0),(360, .kp 500),(361, .px 200016 0)],[(200002,4,[.kp 201]),(200004,26,[.row 200097]),(200014,3,[.kp 592]),(200016,3,[.kp 597]),(214272,24,[.px 201472 0]),(201472,1000001,[.v 122])],[(200097,31)]⟩ .o (fun _=>(.c .o .o))) (.b .o))))) (.s (.j ⟨[(2, .px 200002 0),(14, .px 200014 0),(16, .px 200016 0),(261, .bl),(315, .kp 395),(316, .px 214272 0),(327, .kp 497),(328, .kp 498),(329, .kp 591),(344, .kp 395),(347, .px 200002 0),(348, .px 201472 0),(349, .px 200004 0),(359, .px 200014 0),(360, .kp 500),(361, .px 200016 0)],[(200002,4,[.kp 201]),(200014,3,[.kp 592]),(200016,3,[.kp 597]),(214272,24,[.px 201472 0]),(201472,1000001,[.v 122]),(200004,26,[.row 200097])],[(200097,31)]⟩ .o (fun _=>(.c (.s .o .o) .o))) (.s .o .o))))))) (.s .o (.s (.s .o (.b (.g 598 ⟨[(2, .px 100002 0),(3, .px 101472 0),(14, .px 100014 0),(15, .kp 500),(20, .np),(267, .fn 20 [] [.px 117088 0])],[(100002,4,[.kp 201]),(101472,1000001,[.v 122]),(100014,3,[.it .i64]),(117088,24,[.np])],[]⟩ ⟨[],[],[]⟩ (.s (.s .o (.c .o .o)) (.s .o (.b .o))) .o (.b (.s .o .o))))) (.j ⟨[(2, .px 100002 0)],[(100002,4,[.bl])],[]⟩ .o (fun _=> .o))))))))))))
def yfC:Cf KK:=⟨CC,[yej,yer,yem,yfR],[yaP,yak,yap,yas,yar,yan,ya3,ycY,yc2,ya1,yaj,yax,yav,yat,yam,yao,yay,yaq],315,[(20,c20)],none,false⟩
theorem yfE:SpOk Try.prog CC ybo:=yhb (F:=yfC) (ps:= [.v 22]) (rs:= [4]) (w:=yaS) yk4 (ylB yg8 (ylB ygB (ylB ygM (ylB yiG ygF)))) (ybm ye6 (ybm ycj (ybm ydJ (ybm ycN (ybm ycF (ybm ydD (ybm yeY (ybm yph (ybm yoB (ybm yeU (ybm ybU (ybm yeX (ybm ye3 (ybm yd7 (ybm ydB (ybm ydx (ybm yeV (ybm ydw yhu)))))))))))))))))) t3 (A:=yfG) (by kernel_rfl) (by kernel_rfl) (fun a0 r0=>show _=_ by kernel_rfl) (hI:=(yvl t20 yuz))
end Go.Proofs.Ythgmmfojclcbpaa
end
noncomputable section
namespace Go.Proofs.Ythgmmfojclcbpaa
open Go.AV Go.RowKit
def ydu (v:yag):Prop:=(fun n:Int=>(Lit.int .u8 n).wf=true) v.What/\(fun s:Str=>s.length<=maxLen) v.Name/\(fun s:Str=>s.length<=maxLen) v.Text/\(fun n:Int=>(Lit.int .i64 n).wf=true) v.Who
theorem yf9:yk9 Try.prog 28 yaY.c ydu:=by
 intro us h
 have r:=h.fields Try.underlying28
 obtain ⟨v0,q0,rfl,h0,r⟩:=r.first (yma Try.underlying5)
 obtain ⟨v1,q1,rfl,h1,r⟩:=r.first (ylV Try.underlying9)
 obtain ⟨v2,q2,rfl,h2,r⟩:=r.first (ylV Try.underlying9)
 obtain ⟨v3,q3,rfl,h3,r⟩:=r.first (yma Try.underlying3)
 obtain rfl:=r.last
 exact ⟨⟨v0,v1,v2,v3⟩,rfl,h0,h1,h2,h3⟩
def yh4:Prop:=∀(a0:(List yag)),(fun l:List yag=>l.length<=maxLen/\∀v∈l,ydu v) a0->yaS a0 true
set_option maxRecDepth 100000 in
theorem yhF {a0:(List yag)} (h:yaS a0 true):Pure Try.prog 3 [slA yaY a0] (.bl true):=by
 have e:Pure Try.prog ybo.f (ycz CC ybo.ps [.d (.v 22 a0)]) (yby (([.v 4 true]:List (DV KK)).map (dvA CC)))=Pure Try.prog 3 [slA yaY a0] (.bl true):=by kernel_rfl
 have w:ybo.W [.d (.v 22 a0)] [.v 4 true]=yaS a0 true:=by kernel_rfl
 exact e.mp (yfE _ _ (fun F h=>by simp at h) (w.mpr h)).2
end Go.Proofs.Ythgmmfojclcbpaa
end
noncomputable section
namespace Go.Proofs.Ythgmmfojclcbpaa
open Go.AV Go.RowKit
theorem yow {n:Int}:∀ {l:List Int} {k:Nat},(∀j x,j<k→l[j]? =some x→x<n)→(∀x,l[k]? =some x→n<x)→iIns n l=l.take k++n::l.drop k
 | [],k,_,_=>by simp[iIns]
 | m::l,0,_,h=>by
   have:=h m rfl
   simp[iIns,this]
 | m::l,k+1,h1,h2=>by
   have:=h1 0 m (by omega) rfl
   have hn:¬n<m:=by omega
   simp only[iIns,hn,if_false,List.take_succ_cons,List.drop_succ_cons,List.cons_append]
   rw[yow (k:=k) (fun j x hj hx=>h1 (j+1) x (by omega) (by simpa using hx)) (fun x hx=>h2 x (by simpa using hx))]
theorem ynN {n:Int}:∀ {l:List Int} {k:Nat},l.Pairwise (· < ·)→l[k]? =some n→iDel l n=l.take k++l.drop (k+1)
 | [],k,_,h=>by simp at h
 | m::l,0,hs,h=>by
   simp at h;subst h
   have hn:m∉l:=fun q=>Int.lt_irrefl _ ((List.pairwise_cons.1 hs).1 m q)
   have:=yha hn
   unfold iDel at this⊢
   simp[this]
 | m::l,k+1,hs,h=>by
   obtain ⟨h1,h2⟩:=List.pairwise_cons.1 hs
   have hk:l[k]? =some n:=by simpa using h
   have hm:m≠n:=fun e=>by
    have:=h1 n (List.mem_of_getElem? hk)
    omega
   have:=ynN h2 hk
   unfold iDel at this⊢
   simp[hm,this]
theorem yrD {l:List Int} (h:l.Pairwise (· < ·)) {i j:Nat} {x y:Int} (hij:i<j) (hx:l[i]? =some x) (hy:l[j]? =some y):x<y:=by
 obtain ⟨hi,rfl⟩:=List.getElem?_eq_some_iff.1 hx
 obtain ⟨hj,rfl⟩:=List.getElem?_eq_some_iff.1 hy
 exact List.pairwise_iff_getElem.1 h i j hi hj hij
theorem tsl0 {α:Type} (l:List α) (k:Nat):ybl l 0 (k:Int)=l.take k:=by simp[ybl]
theorem tslE {α:Type} (l:List α) (k:Nat):ybl l (k:Int) (l.length:Int)=l.drop k:=by
 simp only[ybl,Int.toNat_natCast]
 rw[List.take_of_length_le (by simp)]
theorem w64s {k:Nat} (h:k<1000000000):IntKind.i64.wrap ((k:Int)+1)=((k+1:Nat):Int):=by
 rw[Go.AV.wrap64 (by omega) (by omega)];omega
theorem ypT {l:List Int} {n:Int} (hs:l.Pairwise (· < ·)) (hl:l.length≤1000):ybD l n (if n∈l then l else iPut l n) (!decide (n∈l)):=by
 unfold ybD
 refine lp1 (fun x:Int=>∃k:Nat,x=k/\k<=l.length/\∀j y,j<k->l[j]? =some y->y<n) (fun x:Int=>l.length-x.toNat) ?_ ⟨0,rfl,Nat.zero_le _,fun j y h=>by omega⟩
 rintro X _ ⟨k,rfl,hk,hlt⟩ hX
 unfold yet
 intro J2 hJ2 _
 have fin:(∀x,l[k]? =some x→n≤x)→J2 false:=by
  intro hge
  refine hJ2 false ?_
  unfold yc7
  refine yal rfl ?_
  intro J3 hJ3 _
  have no:n∉l→(∀x,l[k]? =some x→n<x)→J3 false:=by
   intro hn hgt
   refine hJ3 false ?_
   unfold yc9
   refine yal rfl ?_
   have e:(if n∈l then l else iPut l n)=l.take k++n::l.drop k:=by
    rw[if_neg hn];unfold iPut;rw[yha hn];exact yow hlt hgt
   rw[tsl0,tslE,e]
   simp only[List.nil_append,List.length_append,List.length_take,List.length_drop,List.length_cons,List.length_nil]
   refine ⟨⟨by omega,by omega,by omega⟩,by omega,by omega,⟨by omega,by omega,by omega⟩,by omega,by omega,by simp,by simp[hn]⟩
  refine yaJ (fun hb=> ?_) (fun hb=> ?_)
  ·have hb:(k:Int)<l.length:=by simpa using hb
   have hk':k<l.length:=by omega
   refine ⟨by omega,hb,l[k],by simp[List.getElem?_eq_getElem hk'],?_⟩
   cases hq:l[k]==n with
   | true=>
     have hq:l[k]=n:=by simpa using hq
     refine hJ3 true ?_
     unfold yc9
     refine yai rfl ?_
     have hm:n∈l:=hq▸List.getElem_mem hk'
     rw[if_pos hm]
     exact ⟨rfl,by simp[hm]⟩
   | false=>
     have hq:l[k]≠n:=by simpa using hq
     have hgt:n<l[k]:=by
      have:=hge l[k] (List.getElem?_eq_getElem hk')
      omega
     refine no (fun hm=> ?_) fun x hx=>by rw[List.getElem?_eq_getElem hk'] at hx;cases hx;exact hgt
     obtain ⟨j,hj⟩:=List.getElem?_of_mem hm
     rcases Nat.lt_trichotomy j k with h|h|h
     ·exact absurd (hlt j n h hj) (Int.lt_irrefl _)
     ·subst h;rw[List.getElem?_eq_getElem hk'] at hj;exact hq (Option.some.inj hj)
     ·have:=yrD hs h (List.getElem?_eq_getElem hk') hj
      omega
  ·have hb:¬(k:Int)<l.length:=by simpa using hb
   have hk':k=l.length:=by omega
   refine no (fun hm=> ?_) fun x hx=>by rw[List.getElem?_eq_none (by omega)] at hx;cases hx
   obtain ⟨j,hj⟩:=List.getElem?_of_mem hm
   have hj':=(List.getElem?_eq_some_iff.1 hj).1
   exact absurd (hlt j n (by omega) hj) (Int.lt_irrefl _)
 refine yaJ (fun hb=> ?_) (fun hb=> ?_)
 ·have hb:(k:Int)<l.length:=by simpa using hb
  have hk':k<l.length:=by omega
  refine ⟨by omega,hb,l[k],by simp[List.getElem?_eq_getElem hk'],?_⟩
  cases hq:decide (l[k]<n) with
  | true=>
    have hq:l[k]<n:=by simpa using hq
    refine hJ2 true ?_
    unfold yc7
    refine yai rfl ?_
    rw[w64s (by omega)]
    refine hX _ ⟨k+1,rfl,by omega,fun j y hj hy=> ?_⟩ (by simp;omega)
    by_cases e:j=k
    ·subst e;rw[List.getElem?_eq_getElem hk'] at hy;cases hy;exact hq
    ·exact hlt j y (by omega) hy
  | false=>
    have hq:¬l[k]<n:=by simpa using hq
    exact fin fun x hx=>by rw[List.getElem?_eq_getElem hk'] at hx;cases hx;omega
 ·have hb:¬(k:Int)<l.length:=by simpa using hb
  exact fin fun x hx=>by rw[List.getElem?_eq_none (by omega)] at hx;cases hx
theorem yql {l:List Int} {n:Int} (hs:l.Pairwise (· < ·)) (hl:l.length≤1000):ybA l n (if n∈l then iDel l n else l) (decide (n∈l)):=by
 unfold ybA
 refine lp1 (fun x:Int=>∃k:Nat,x=k/\k<=l.length/\∀j y,j<k->l[j]? =some y->y≠n) (fun x:Int=>l.length-x.toNat) ?_ ⟨0,rfl,Nat.zero_le _,fun j y h=>by omega⟩
 rintro X _ ⟨k,rfl,hk,hlt⟩ hX
 unfold yes
 intro _
 refine yaJ (fun hb=> ?_) (fun hb=> ?_)
 ·have hb:(k:Int)<l.length:=by simpa using hb
  have hk':k<l.length:=by omega
  refine ⟨by omega,hb,l[k],by simp[List.getElem?_eq_getElem hk'],?_⟩
  rw[w64s (by omega)]
  refine yaJ (fun hq=> ?_) (fun hq=> ?_)
  ·have hq:l[k]=n:=by simpa using hq
   have hm:n∈l:=hq▸List.getElem_mem hk'
   rw[if_pos hm,ynN hs (by rw[List.getElem?_eq_getElem hk',hq]),tsl0,tslE]
   simp only[List.nil_append,List.length_append,List.length_take,List.length_drop]
   exact ⟨⟨by omega,by omega,by omega⟩,by omega,⟨by omega,by omega,by omega⟩,by omega,by omega,by first|rfl|trivial,by simp[hm]⟩
  ·have hq:l[k]≠n:=by simpa using hq
   refine hX _ ⟨k+1,rfl,by omega,fun j y hj hy=> ?_⟩ (by simp;omega)
   by_cases e:j=k
   ·subst e;rw[List.getElem?_eq_getElem hk'] at hy;cases hy;exact hq
   ·exact hlt j y (by omega) hy
 ·have hb:¬(k:Int)<l.length:=by simpa using hb
  have hm:n∉l:=fun hm=>by
   obtain ⟨j,hj⟩:=List.getElem?_of_mem hm
   have hj':=(List.getElem?_eq_some_iff.1 hj).1
   exact hlt j n (by omega) hj rfl
  rw[if_neg hm]
  exact ⟨rfl,by simp[hm]⟩
theorem yqv {a b:List Int} (ha:a.length≤1000) (hb:b.length≤1000):ybs a b (decide (a=b)):=by
 unfold ybs
 refine lp1 (fun x:Int=>∃k:Nat,x=k/\k<=a.length/\k<=b.length/\a.take k=b.take k) (fun x:Int=>a.length-x.toNat) ?_ ⟨0,rfl,Nat.zero_le _,Nat.zero_le _,rfl⟩
 rintro X _ ⟨k,rfl,hk,hk2,he⟩ hX
 unfold yfJ
 intro J2 hJ2 _
 have fin:(a.length=k∨b.length=k)→J2 false:=by
  intro hor
  refine hJ2 false ?_
  unfold ydU
  refine yal rfl fun _ _=> ?_
  by_cases e:a.length=b.length
  ·have:a=b:=by
    rcases hor with h|h
    ·rw[List.take_of_length_le (by omega),List.take_of_length_le (by omega)] at he;exact he
    ·rw[List.take_of_length_le (by omega),List.take_of_length_le (by omega)] at he;exact he
   simp[this]
  ·have h1:a≠b:=fun q=>e (by rw[q])
   have h2:¬(a.length:Int)=b.length:=by omega
   simp[h1,h2]
 refine yaJ (fun h1=> ?_) (fun h1=> ?_)
 ·have h1:(k:Int)<a.length:=by simpa using h1
  intro _
  cases h2:decide ((k:Int)<b.length) with
  | false=>
    have h2:¬(k:Int)<b.length:=by simpa using h2
    exact fin (.inr (by omega))
  | true=>
    have h2:(k:Int)<b.length:=by simpa using h2
    have ka:k<a.length:=by omega
    have kb:k<b.length:=by omega
    refine hJ2 true ?_
    unfold ydU
    refine yai rfl ⟨by omega,h1,a[k],by simp[List.getElem?_eq_getElem ka],by omega,h2,b[k],by simp[List.getElem?_eq_getElem kb],?_⟩
    refine yaJ (fun q=> ?_) (fun q=> ?_)
    ·have q:a[k]≠b[k]:=by simpa using q
     have:a≠b:=fun e=>q (by subst e;rfl)
     simp[this]
    ·have q:a[k]=b[k]:=by simpa using q
     rw[w64s (by omega)]
     refine hX _ ⟨k+1,rfl,by omega,by omega,?_⟩ (by simp;omega)
     rw[List.take_add_one,List.take_add_one,he,List.getElem?_eq_getElem ka,List.getElem?_eq_getElem kb,q]
 ·have h1:¬(k:Int)<a.length:=by simpa using h1
  exact fin (.inl (by omega))
end Go.Proofs.Ythgmmfojclcbpaa
end
noncomputable section
namespace Go.Proofs.Ythgmmfojclcbpaa
open Go.AV Go.RowKit
abbrev EL:=yaa
def MS (m:List EL):Prop:=m.Pairwise fun a b=>Op.bytesLess a.name b.name=true
def gOf {β:Type} (f:EL->List β) (m:List EL):GL (List β):=(m.filter fun e=> !(f e).isEmpty).map fun e=>(e.name,f e)
theorem yqI {β:Type} {l:List β}:(!l.isEmpty)=true↔l≠ []:=by cases l<;>simp
section
variable {β:Type} {f:EL->List β} {m:List EL}
theorem ydv {q:List UInt8×List β}:q∈gOf f m↔∃e∈m,f e≠ []∧q=(e.name,f e):=by
 unfold gOf
 rw[List.mem_map]
 constructor
 ·rintro ⟨e,he,rfl⟩
  obtain ⟨h1,h2⟩:=List.mem_filter.1 he
  exact ⟨e,h1,yqI.1 h2,rfl⟩
 ·rintro ⟨e,h1,h2,rfl⟩
  exact ⟨e,List.mem_filter.2 ⟨h1,yqI.2 h2⟩,rfl⟩
theorem yc0 (h:MS m):GS (gOf f m):=by
 unfold gOf GS
 rw[List.pairwise_map]
 exact List.Pairwise.filter _ h
theorem yq9 (h:MS m):∀ {x y:EL},x∈m→y∈m→x.name=y.name→x=y:=by
 induction m with
 |nil=>intro x y hx;cases hx
 | cons a m ih=>
   obtain ⟨h1,h2⟩:=List.pairwise_cons.1 h
   intro x y hx hy e
   rcases List.mem_cons.1 hx with hx'|hx'<;>rcases List.mem_cons.1 hy with hy'|hy'
   ·rw[hx',hy']
   ·have:=h1 y hy';rw[<-hx',e,ya8] at this;cases this
   ·have:=h1 x hx';rw[<-hy',<-e,ya8] at this;cases this
   ·exact ih h2 hx' hy' e
theorem yqS (h:MS m) {k:Nat} {e:EL} (hk:m[k]? =some e):(gAt (gOf f m) e.name).getD []=f e:=by
 have hm:=List.mem_of_getElem? hk
 by_cases he:f e= []
 ·rw[ytA fun q hq hn=> ?_]
  ·exact he.symm
  ·obtain ⟨x,hx,hx2,rfl⟩:=ydv.1 hq
   have:=yq9 h hx hm hn
   exact hx2 (by rw[this];exact he)
 ·rw[ygh (yc0 h) (ydv.2 ⟨e,hm,he,rfl⟩)];rfl
theorem ybI (h:MS m) {k:Nat} {e e' x:EL} (hk:m[k]? =some e):x∈m.set k e'↔x=e'∨(x∈m∧x.name≠e.name):=by
 obtain ⟨hkl,hke⟩:=List.getElem?_eq_some_iff.1 hk
 constructor
 ·intro hx
  obtain ⟨j,hj⟩:=List.getElem?_of_mem hx
  rw[List.getElem?_set] at hj
  split at hj
  ·rename_i q;subst q;first|exact .inl (Option.some.inj hj).symm|(rw[if_pos hkl] at hj;exact .inl (Option.some.inj hj).symm)
  ·rename_i q
   refine .inr ⟨List.mem_of_getElem? hj,fun hn=> ?_⟩
   obtain ⟨hjl,hje⟩:=List.getElem?_eq_some_iff.1 hj
   have hp:=List.pairwise_iff_getElem.1 h
   rcases Nat.lt_or_gt_of_ne q with g|g
   ·have:=hp k j hkl hjl g
    rw[hke,hje,hn,ya8] at this;cases this
   ·have:=hp j k hjl hkl g
    rw[hke,hje,hn,ya8] at this;cases this
 ·rintro (rfl|⟨hx,hn⟩)
  ·exact List.mem_of_getElem? (i:=k) (by rw[List.getElem?_set,if_pos rfl,if_pos hkl])
  ·obtain ⟨j,hj⟩:=List.getElem?_of_mem hx
   have:k≠j:=fun q=>by subst q;rw[hk] at hj;cases hj;exact hn rfl
   exact List.mem_of_getElem? (i:=j) (by rw[List.getElem?_set,if_neg this];exact hj)
theorem yfx (h:MS m) {k:Nat} {e e':EL} (hk:m[k]? =some e) (hn:e'.name=e.name):MS (m.set k e'):=by
 obtain ⟨hkl,hke⟩:=List.getElem?_eq_some_iff.1 hk
 have hp:=List.pairwise_iff_getElem.1 h
 refine List.pairwise_iff_getElem.2 fun i j hi hj hij=> ?_
 rw[List.length_set] at hi hj
 have nm:∀(j:Nat) (hj:j<m.length),((m.set k e')[j]'(by rw[List.length_set];exact hj)).name=m[j].name:=fun j hj=>by
  rw[List.getElem_set]
  split
  ·rename_i q;subst q;rw[hn,hke]
  ·rfl
 rw[nm i hi,nm j hj]
 exact hp i j hi hj hij
theorem yh6 (h:MS m) {k:Nat} {e e':EL} (hk:m[k]? =some e) (hn:e'.name=e.name) (hf:f e'=f e):gOf f (m.set k e')=gOf f m:=by
 refine yhN (yc0 (yfx h hk hn)) (yc0 h) fun q=> ?_
 rw[ydv,ydv]
 constructor
 ·rintro ⟨x,hx,h2,rfl⟩
  rcases (ybI h hk).1 hx with rfl|⟨hx,_⟩
  ·exact ⟨e,List.mem_of_getElem? hk,by rw[<-hf];exact h2,by rw[hn,hf]⟩
  ·exact ⟨x,hx,h2,rfl⟩
 ·rintro ⟨x,hx,h2,rfl⟩
  by_cases hxe:x.name=e.name
  ·have:=yq9 h hx (List.mem_of_getElem? hk) hxe
   subst this
   exact ⟨e',(ybI h hk).2 (.inl rfl),by rw[hf];exact h2,by rw[hn,hf]⟩
  ·exact ⟨x,(ybI h hk).2 (.inr ⟨hx,hxe⟩),h2,rfl⟩
theorem yk2 (h:MS m) {k:Nat} {e e':EL} (hk:m[k]? =some e) (hn:e'.name=e.name) (hf:f e'≠ []):gPut (gOf f m) e.name (f e')=gOf f (m.set k e'):=by
 refine yhN (yfP (yc0 h)) (yc0 (yfx h hk hn)) fun q=> ?_
 rw[ycT,ydv,ydv]
 constructor
 ·rintro (rfl|⟨⟨x,hx,h2,rfl⟩,h3⟩)
  ·exact ⟨e',(ybI h hk).2 (.inl rfl),hf,by rw[hn]⟩
  ·exact ⟨x,(ybI h hk).2 (.inr ⟨hx,h3⟩),h2,rfl⟩
 ·rintro ⟨x,hx,h2,rfl⟩
  rcases (ybI h hk).1 hx with rfl|⟨hx,h3⟩
  ·exact .inl (by rw[hn])
  ·exact .inr ⟨⟨x,hx,h2,rfl⟩,h3⟩
theorem yn2 (h:MS m) {k:Nat} {e e':EL} (hk:m[k]? =some e) (hn:e'.name=e.name) (hf:f e'= []):gDel (gOf f m) e.name=gOf f (m.set k e'):=by
 refine yhN (yeQ (yc0 h)) (yc0 (yfx h hk hn)) fun q=> ?_
 rw[ybG,ydv,ydv]
 constructor
 ·rintro ⟨⟨x,hx,h2,rfl⟩,h3⟩
  exact ⟨x,(ybI h hk).2 (.inr ⟨hx,h3⟩),h2,rfl⟩
 ·rintro ⟨x,hx,h2,rfl⟩
  rcases (ybI h hk).1 hx with rfl|⟨hx,h3⟩
  ·exact absurd hf h2
  ·exact ⟨⟨x,hx,h2,rfl⟩,h3⟩
theorem ymY {k:Nat} {n:Str} (hf:f ⟨n,[],[]⟩= []):gOf f (m.take k++ [⟨n,[],[]⟩]++m.drop k)=gOf f m:=by
 conv=>rhs;rw[<-List.take_append_drop k m]
 unfold gOf
 simp only[List.filter_append,List.filter_cons,List.filter_nil,hf,List.isEmpty_nil,Bool.not_true,Bool.false_eq_true,if_false,List.append_nil]
end
theorem ypy {m:List EL} (h:MS m) {k:Nat} {n:Str} (h1:∀j e,j<k→m[j]? =some e→Op.bytesLess e.name n=true) (h2:∀e,m[k]? =some e→Op.bytesLess n e.name=true):MS (m.take k++ [⟨n,[],[]⟩]++m.drop k):=by
 have hp:=List.pairwise_iff_getElem.1 h
 have hd:∀e∈m.drop k,Op.bytesLess n e.name=true:=fun e he=>by
  obtain ⟨j,hj⟩:=List.getElem?_of_mem he
  rw[List.getElem?_drop] at hj
  cases j with
  |zero=>exact h2 e hj
  | succ j=>
    obtain ⟨hjl,hje⟩:=List.getElem?_eq_some_iff.1 hj
    have hk:k<m.length:=by omega
    have a:=h2 m[k] (List.getElem?_eq_getElem hk)
    have b:=hp k (k+(j+1)) hk hjl (by omega)
    rw[hje] at b
    exact ydh _ _ _ a b
 have ht:∀e∈m.take k,Op.bytesLess e.name n=true:=fun e he=>by
  obtain ⟨j,hj⟩:=List.getElem?_of_mem he
  obtain ⟨hjl,_⟩:=List.getElem?_eq_some_iff.1 hj
  rw[List.length_take] at hjl
  rw[List.getElem?_take_of_lt (by omega)] at hj
  exact h1 j e (by omega) hj
 refine List.pairwise_append.2 ⟨List.pairwise_append.2 ⟨h.take,List.pairwise_singleton _ _,fun a ha b hb=> ?_⟩,h.drop,fun a ha b hb=> ?_⟩
 ·rw[List.mem_singleton] at hb;subst hb;exact ht a ha
 ·rcases List.mem_append.1 ha with ha|ha
  ·exact ydh _ _ _ (ht a ha) (hd b hb)
  ·rw[List.mem_singleton] at ha;subst ha;exact hd b hb
abbrev txOf (m:List EL):CTx:=gOf (fun e=>e.text) m
abbrev whOf (m:List EL):CWt:=gOf (fun e=>e.who) m
section
variable {m:List EL} {k:Nat} {e:EL}
theorem ykY (h:MS m) (hk:m[k]? =some e):txAt (txOf m) e.name=e.text:=yqS (f:=fun e=>e.text) h hk
theorem yht (h:MS m) (hk:m[k]? =some e):whAt (whOf m) e.name=e.who:=yqS (f:=fun e=>e.who) h hk
theorem yiY (hk:m[k]? =some e):m.set k e=m:=by
 obtain ⟨hkl,hke⟩:=List.getElem?_eq_some_iff.1 hk
 refine List.ext_getElem? fun j=> ?_
 rw[List.getElem?_set]
 split
 ·rename_i q;subst q;first|(rw[hk];done)|rw[if_pos hkl,hk]
 ·rfl
theorem ysS (h:MS m) (hk:m[k]? =some e) (t:Str):ydf (txOf m) e.name t=txOf (m.set k ⟨e.name,t,e.who⟩)∧whOf (m.set k ⟨e.name,t,e.who⟩)=whOf m:=by
 refine ⟨?_,yh6 (f:=fun e=>e.who) h hk rfl rfl⟩
 unfold ydf
 rw[ykY h hk]
 split
 ·rename_i q;subst q
  rw[yiY hk]
 ·split
  ·rename_i q;exact yn2 (f:=fun e=>e.text) h hk rfl q
  ·rename_i q;exact yk2 (f:=fun e=>e.text) (e':=⟨e.name,t,e.who⟩) h hk rfl q
theorem ysz (h:MS m) (hk:m[k]? =some e) (i:Int):ybt (whOf m) e.name i=whOf (m.set k ⟨e.name,e.text,if i∈e.who then e.who else iPut e.who i⟩)∧txOf (m.set k ⟨e.name,e.text,if i∈e.who then e.who else iPut e.who i⟩)=txOf m:=by
 refine ⟨?_,yh6 (f:=fun e=>e.text) h hk rfl rfl⟩
 unfold ybt
 rw[yht h hk]
 split
 ·rw[show (⟨e.name,e.text,e.who⟩:EL)=e from rfl,yiY hk]
 ·exact yk2 (f:=fun e=>e.who) (e':=⟨e.name,e.text,iPut e.who i⟩) h hk rfl (fun q=>by
   have:i∈iPut e.who i:=ymn.2 (.inl rfl)
   rw[show iPut e.who i= [] from q] at this;cases this)
theorem yr5 (h:MS m) (hk:m[k]? =some e) (i:Int):ybO (whOf m) e.name i=whOf (m.set k ⟨e.name,e.text,if i∈e.who then iDel e.who i else e.who⟩)∧txOf (m.set k ⟨e.name,e.text,if i∈e.who then iDel e.who i else e.who⟩)=txOf m:=by
 refine ⟨?_,yh6 (f:=fun e=>e.text) h hk rfl rfl⟩
 unfold ybO
 rw[yht h hk]
 split
 ·split
  ·rename_i q;exact yn2 (f:=fun e=>e.who) (e':=⟨e.name,e.text,iDel e.who i⟩) h hk rfl q
  ·rename_i q;exact yk2 (f:=fun e=>e.who) (e':=⟨e.name,e.text,iDel e.who i⟩) h hk rfl q
 ·rw[show (⟨e.name,e.text,e.who⟩:EL)=e from rfl,yiY hk]
end
theorem yqe {W:CWt} (h:GS W) {n:Str} {i:Int}:wSum (ybt W n i)≤wSum W+1:=by
 unfold ybt
 split
 ·omega
 ·rename_i q
  rw[yfQ,yk3 h (n:=n)]
  unfold iPut
  rw[yiD,yha q];omega
theorem ypw {W:CWt} (h:GS W) (hp:∀n,(whAt W n).Pairwise (· < ·)) {n:Str} {i:Int}:wSum (ybO W n i)≤wSum W:=by
 unfold ybO
 have:=yk3 h (n:=n)
 split
 ·rename_i q
  have:=ylq (hp n) q
  split
  ·omega
  ·rw[yfQ];omega
 ·exact Int.le_refl _
end Go.Proofs.Ythgmmfojclcbpaa
end
noncomputable section
namespace Go.Proofs.Ythgmmfojclcbpaa
open Go.AV Go.RowKit
theorem lp5 {α β γ δ ε:Type} {L:(α→β→γ→δ→ε→Prop)→α→β→γ→δ→ε→Prop} (I:α→β→γ→δ→ε→Prop) (m:α→β→γ→δ→ε→Nat) (step:∀X a b c d e,I a b c d e→(∀a' b' c' d' e',I a' b' c' d' e'→m a' b' c' d' e'<m a b c d e→X a' b' c' d' e')→L X a b c d e) {a:α} {b:β} {c:γ} {d:δ} {e:ε} (ha:I a b c d e):∀X:α→β→γ→δ→ε→Prop,(∀a b c d e,L X a b c d e→X a b c d e)→X a b c d e:=by
 intro X hX
 have key:∀n a b c d e,I a b c d e→m a b c d e=n→X a b c d e:=by
  intro n
  induction n using Nat.strongRecOn with
  |_ n ih=>intro a b c d e ha hm;exact hX a b c d e (step X a b c d e ha fun a' b' c' d' e' hb hlt=>ih (m a' b' c' d' e') (by omega) a' b' c' d' e' hb rfl)
 exact key _ a b c d e ha rfl
abbrev Act:=yag
abbrev nmE (y:Act):Str:=(y.Name.drop (0:Int).toNat).take ((if (5:Int)<(y.Name.length:Int) then (5:Int) else (y.Name.length:Int)).toNat-(0:Int).toNat)
abbrev txE (y:Act):Str:=(y.Text.drop (0:Int).toNat).take ((if (5:Int)<(y.Text.length:Int) then (5:Int) else (y.Text.length:Int)).toNat-(0:Int).toNat)
theorem yiy (y:Act):(nmE y).length≤5:=by
 simp only[nmE,List.length_take];split<;>omega
theorem ysh (y:Act):(txE y).length≤5:=by
 simp only[txE,List.length_take];split<;>omega
structure Inv (i:Nat) (m:List EL):Prop where
 ms:MS m
 so:∀e∈m,e.who.Pairwise (· < ·)
 ln:m.length<=i
 sm:wSum (whOf m)<=i
 le:i<=61
 nl:∀e∈m,e.name.length<=5
abbrev stM (m:List EL):yab:=mkS (txOf m) (whOf m)
theorem ygX {β:Type} {f:EL→List β} {m:List EL}:(gOf f m).length≤m.length:=by
 unfold gOf;rw[List.length_map];exact List.length_filter_le _ _
theorem Inv.at' {i:Nat} {m:List EL} (h:Inv i m) (n:Str):((whAt (whOf m) n).length:Int)≤i:=by
 have:wSum (whOf m)=(whAt (whOf m) n).length+wSum (gDel (whOf m) n):=yk3 (yc0 (f:=fun e=>e.who) h.ms) (n:=n)
 have h1:=yep (W:=gDel (whOf m) n)
 have h2:=h.sm
 omega
theorem Inv.pw {i:Nat} {m:List EL} (h:Inv i m) (n:Str):(whAt (whOf m) n).Pairwise (· < ·):=by
 unfold whAt
 cases hq:gAt (whOf m) n with
 |none=>exact List.Pairwise.nil
 | some l=>
   obtain ⟨e,he,_,q⟩:=ydv.1 (yfS hq)
   cases q;exact h.so e he
theorem Inv.el {i:Nat} {m:List EL} (h:Inv i m) {k:Nat} {e:EL} (hk:m[k]? =some e):(e.who.length:Int)≤i∧e.who.Pairwise (· < ·):=by
 have:=h.at' e.name
 rw[yht h.ms hk] at this
 exact ⟨this,h.so e (List.mem_of_getElem? hk)⟩
theorem yu9 (m:List EL) {n:Str} (hn:n.length<=5):ybb n (stM m) (txAt (txOf m) n):=⟨_,_,rfl,by omega,rfl⟩
theorem ynH {i:Nat} {m:List EL} (h:Inv i m) {n:Str} (hn:n.length<=5):ya9 n (stM m) (whAt (whOf m) n):=⟨_,_,rfl,by omega,by have:=h.at' n;have:=h.le;omega,rfl⟩
theorem yvL {i:Nat} {m:List EL} (h:Inv i m) {n t:Str} (hn:n.length≤5) (ht:t.length≤5):yaV n t (stM m) (setR (txOf m) (whOf m) n t) (mkS (ydf (txOf m) n t) (whOf m)):=
 ⟨_,_,rfl,by omega,by omega,by have:(txOf m).length<=m.length:=ygX (f:=fun e=>e.text) (m:=m);have:=h.ln;have:=h.le;omega,by have:=h.at' n;have:=h.le;omega,rfl,rfl⟩
theorem yrp {i:Nat} {m:List EL} (h:Inv i m) {n:Str} {w:Int} (hn:n.length≤5) (h1: -9223372036854775808≤w) (h2:w≤9223372036854775807):yaK n w (stM m) (!ycQ (whOf m) n w) (mkS (txOf m) (ybt (whOf m) n w)):=
 ⟨_,_,rfl,by omega,h1,h2,by have:(whOf m).length<=m.length:=ygX (f:=fun e=>e.who) (m:=m);have:=h.ln;have:=h.le;omega,by have:=h.sm;have:=h.le;omega,rfl,rfl⟩
theorem ynT {m:List EL} {n:Str} {w:Int} (hn:n.length≤5) (h1: -9223372036854775808≤w) (h2:w≤9223372036854775807):ybf n w (stM m) (ycQ (whOf m) n w) (mkS (txOf m) (ybO (whOf m) n w)):=
 ⟨_,_,rfl,by omega,h1,h2,rfl,rfl⟩
theorem yuI {m:List EL} {k:Nat} {e e':EL} (hk:m[k]? =some e):(m.set k e')[k]? =some e':=by
 obtain ⟨hkl,_⟩:=List.getElem?_eq_some_iff.1 hk
 rw[List.getElem?_set_self hkl]
theorem j6 {i k:Nat} {X1:Int→yab→List EL→Prop} {y:Act} {m:List EL} {e e':EL} (hk:m[k]? =some e) (hn:e'.name=nmE y) (hi:Inv (i+1) (m.set k e')) (hX:X1 ((i+1:Nat):Int) (stM (m.set k e')) (m.set k e')):
  ycc (k:Int) true X1 (i:Int) y (stM (m.set k e')) e'.name e'.text e'.who m:=by
 obtain ⟨hkl,_⟩:=List.getElem?_eq_some_iff.1 hk
 have hle:=hi.le
 unfold ycc
 refine ⟨by omega,by omega,e,by simpa using hk,?_⟩
 intro J7 hJ7
 have f7:J7 false (stM (m.set k e')) (m.set k e'):=by
  refine hJ7 _ _ _ ?_
  unfold ydj
  refine yal rfl ?_
  rw[w64s (by omega)];exact hX
 have hat:=yuI (e':=e') hk
 refine ⟨_,yu9 _ (yiy y),?_⟩
 have e1:txAt (txOf (m.set k e')) (nmE y)=e'.text:=by rw[<-hn];exact ykY hi.ms hat
 refine yal (by rw[e1];simp) ?_
 have e2:whAt (whOf (m.set k e')) (nmE y)=e'.who:=by rw[<-hn];exact yht hi.ms hat
 have hw:=(hi.el hat).1
 refine ⟨_,ynH hi (yiy y),decide (whAt (whOf (m.set k e')) (nmE y)=e'.who),yqv (by rw[e2];omega) (by omega),?_⟩
 rw[e2]
 simpa using f7
theorem Inv.set {i k:Nat} {m:List EL} {e e':EL} (h:Inv i m) (h60:i≤60) (hk:m[k]? =some e) (hn:e'.name=e.name) (hs:e'.who.Pairwise (· < ·)) (hw:wSum (whOf (m.set k e'))≤i+1):Inv (i+1) (m.set k e'):=
 ⟨yfx h.ms hk hn,fun x hx=>by
   rcases (ybI h.ms hk).1 hx with rfl|⟨q,_⟩
   ·exact hs
   ·exact h.so x q,by rw[List.length_set];have:=h.ln;omega,by omega,by omega,fun x hx=>by
   rcases (ybI h.ms hk).1 hx with rfl|⟨q,_⟩
   ·rw[hn];exact h.nl e (List.mem_of_getElem? hk)
   ·exact h.nl x q⟩
theorem j8 {i k:Nat} {X1:Int→yab→List EL→Prop} {y:Act} {m:List EL} {e:EL} {J6:yab→Str→Str→List Int→List EL→Prop} (h:Inv (i+1) m) (h0:wSum (whOf m)≤i) (h60:i≤59) (hk:m[k]? =some e) (hn:e.name=nmE y) (hw1: -9223372036854775808≤y.Who) (hw2:y.Who≤9223372036854775807)
  (hJ6:∀e':EL,e'.name=e.name->Inv (i+1) (m.set k e')->J6 (stM (m.set k e')) e'.name e'.text e'.who m) (x:Bool):ycd e y true J6 x (stM m) m:=by
 have he:=h.el hk
 have hN:=yiy y
 have hW:=yht h.ms hk
 have hmk:∀e':EL,e'.name=e.name→e'.who.Pairwise (· < ·)→wSum (whOf (m.set k e'))≤i+1→Inv (i+1) (m.set k e'):=fun e' q1 q2 q3=>
  ⟨yfx h.ms hk q1,fun x hx=>by
    rcases (ybI h.ms hk).1 hx with rfl|⟨q,_⟩
    ·exact q2
    ·exact h.so x q,by rw[List.length_set];exact h.ln,by omega,by omega,fun x hx=>by
    rcases (ybI h.ms hk).1 hx with rfl|⟨q,_⟩
    ·rw[q1];exact h.nl e (List.mem_of_getElem? hk)
    ·exact h.nl x q⟩
 unfold ycd
 refine yaJ (fun _=> ?_) (fun _=>yaJ (fun _=> ?_) (fun _=> ?_))
 ·
  refine ⟨_,_,ypT he.2 (by omega),_,_,yrp h hN hw1 hw2,?_⟩
  have e1:ycQ (whOf m) (nmE y) y.Who=decide (y.Who∈e.who):=by unfold ycQ;rw[<-hn,hW]
  refine yal (by rw[e1];simp) ?_
  have hp:=ysz h.ms hk y.Who
  show J6 (mkS (txOf m) (ybt (whOf m) (nmE y) y.Who)) e.name e.text (if y.Who∈e.who then e.who else iPut e.who y.Who) m
  rw[<-hn,hp.1,<-hp.2]
  have hs:(⟨e.name,e.text,if y.Who∈e.who then e.who else iPut e.who y.Who⟩:EL).who.Pairwise (· < ·):=by
   show (if y.Who∈e.who then e.who else iPut e.who y.Who).Pairwise (· < ·)
   split
   ·exact he.2
   ·exact ymq he.2
  refine hJ6 ⟨e.name,e.text,if y.Who∈e.who then e.who else iPut e.who y.Who⟩ rfl (hmk _ rfl hs ?_)
  rw[<-hp.1]
  have:wSum (ybt (whOf m) e.name y.Who)<=wSum (whOf m)+1:=yqe (yc0 (f:=fun e=>e.who) h.ms) (n:=e.name) (i:=y.Who)
  omega
 ·
  refine ⟨_,_,yql he.2 (by omega),_,_,ynT hN hw1 hw2,?_⟩
  have e1:ycQ (whOf m) (nmE y) y.Who=decide (y.Who∈e.who):=by unfold ycQ;rw[<-hn,hW]
  refine yal (by rw[e1];simp) ?_
  have hp:=yr5 h.ms hk y.Who
  show J6 (mkS (txOf m) (ybO (whOf m) (nmE y) y.Who)) e.name e.text (if y.Who∈e.who then iDel e.who y.Who else e.who) m
  rw[<-hn,hp.1,<-hp.2]
  have hs:(⟨e.name,e.text,if y.Who∈e.who then iDel e.who y.Who else e.who⟩:EL).who.Pairwise (· < ·):=by
   show (if y.Who∈e.who then iDel e.who y.Who else e.who).Pairwise (· < ·)
   split
   ·exact yiA he.2
   ·exact he.2
  refine hJ6 ⟨e.name,e.text,if y.Who∈e.who then iDel e.who y.Who else e.who⟩ rfl (hmk _ rfl hs ?_)
  rw[<-hp.1]
  have:wSum (ybO (whOf m) e.name y.Who)<=wSum (whOf m):=ypw (yc0 (f:=fun e=>e.who) h.ms) h.pw (n:=e.name) (i:=y.Who)
  omega
 ·
  refine ⟨_,_,yvL h hN (ysh y),?_⟩
  have hp:=ysS h.ms hk (txE y)
  intro J9 hJ9
  have f9:J9 false (mkS (ydf (txOf m) (nmE y) (txE y)) (whOf m)) m:=by
   refine hJ9 _ _ _ ?_
   unfold ydo
   refine yal rfl ?_
   rw[<-hn,hp.1,<-hp.2]
   refine hJ6 ⟨e.name,txE y,e.who⟩ rfl (hmk _ rfl he.2 ?_)
   rw[hp.2];omega
  have et:txAt (txOf m) (nmE y)=e.text:=by rw[<-hn];exact ykY h.ms hk
  have ew:whAt (whOf m) (nmE y)=e.who:=by rw[<-hn];exact hW
  refine yaJ (fun q=> ?_) (fun q=> ?_)
  ·have q:e.text=txE y:=by simpa using q
   have er:setR (txOf m) (whOf m) (nmE y) (txE y)= []:=by unfold setR;rw[et,if_pos q.symm]
   intro _
   refine yal (by rw[er];rfl) (yal (by simp only[Bool.not_eq_false',beq_iff_eq];exact q) f9)
  ·have q:e.text≠txE y:=by simpa using q
   have er:setR (txOf m) (whOf m) (nmE y) (txE y)=e.who:=by unfold setR;rw[et,if_neg (fun w=>q w.symm),ew]
   refine yai (by simp only[Bool.not_eq_true',beq_eq_false_iff_ne,ne_eq];exact q) ⟨decide (setR (txOf m) (whOf m) (nmE y) (txE y)=e.who),yqv (by rw[er];omega) (by omega),?_⟩
   rw[show (!decide (setR (txOf m) (whOf m) (nmE y) (txE y)=e.who))=false by rw[er];simp]
   exact f9
theorem j5 {i k:Nat} {X1:Int→yab→List EL→Prop} {y:Act} {m:List EL} {e:EL} (h:Inv (i+1) m) (h0:wSum (whOf m)≤i) (h60:i≤59) (hk:m[k]? =some e) (hn:e.name=nmE y) (hw1: -9223372036854775808≤y.Who) (hw2:y.Who≤9223372036854775807)
  (hX:∀m',Inv (i+1) m'->X1 ((i+1:Nat):Int) (stM m') m'):yb8 (k:Int) true X1 (i:Int) y (stM m) m:=by
 obtain ⟨hkl,_⟩:=List.getElem?_eq_some_iff.1 hk
 unfold yb8
 refine ⟨by omega,by omega,e,by simpa using hk,?_⟩
 intro J6 hJ6 J8 hJ8
 have f8:∀x,J8 x (stM m) m:=fun x=>hJ8 _ _ _ (j8 (X1:=X1) h h0 h60 hk hn hw1 hw2 (fun e' q1 q2=>hJ6 _ _ _ _ _ (j6 hk (q1.trans hn) q2 (hX _ q2))) x)
 exact yaJ (fun _=>f8 _) (fun _=>f8 _)
end Go.Proofs.Ythgmmfojclcbpaa
end
noncomputable section
namespace Go.Proofs.Ythgmmfojclcbpaa
open Go.AV Go.RowKit
theorem ge {m:List EL} {k:Nat} (h:k<m.length):m[((k:Nat):Int).toNat]? =some m[k]:=by
 rw[Int.toNat_natCast,List.getElem?_eq_getElem h]
theorem l3 {i:Nat} {X1:Int→yab→List EL→Prop} {y:Act} {m:List EL} (h:Inv i m) (h60:i≤59) (hw1: -9223372036854775808≤y.Who) (hw2:y.Who≤9223372036854775807) (hX1:∀m',Inv (i+1) m'→X1 ((i+1:Nat):Int) (stM m') m'):
  ∀X3:Int->yab->List EL->Prop,(∀a b c,yce true X1 (i:Int) y X3 a b c->X3 a b c)->X3 (0:Int) (stM m) m:=by
 refine lp3 (fun (x:Int) s m'=>∃k:Nat,x=k/\s=stM m/\m'=m/\k<=m.length/\∀j e,j<k->m[j]? =some e->Op.bytesLess e.name (nmE y)=true) (fun (x:Int) _ _=>m.length-x.toNat) ?_ ⟨0,rfl,rfl,rfl,Nat.zero_le _,fun j e q=>by omega⟩
 rintro X3 _ _ _ ⟨k,rfl,rfl,rfl,hk,hlt⟩ hX3
 rename_i m
 have hln:=h.ln
 have h':Inv (i+1) m:=⟨h.ms,h.so,by omega,by have:=h.sm;omega,by omega,h.nl⟩
 unfold yce
 intro J4 hJ4
 have fin:(∀e,m[k]? =some e→Op.bytesLess e.name (nmE y)=false)→J4 false (stM m) m:=by
  intro hge
  refine hJ4 _ _ _ ?_
  unfold yb5
  refine yal rfl ?_
  intro J5 hJ5 J10 hJ10
  have ins:(∀e,m[k]? =some e→e.name≠nmE y)→J10 true (stM m) m:=by
   intro hne
   refine hJ10 _ _ _ ?_
   unfold ybN
   refine yai rfl ?_
   rw[tsl0,tslE]
   simp only[List.nil_append,List.length_append,List.length_take,List.length_drop,List.length_cons,List.length_nil]
   refine ⟨⟨by omega,by omega,by omega⟩,by omega,by omega,⟨by omega,by omega,by omega⟩,by omega,by omega,?_⟩
   have hms:MS (m.take k++ [⟨nmE y,[],[]⟩]++m.drop k):=ypy h.ms hlt fun e q=>by
    rcases yfu (nmE y) e.name with r|r|r
    ·exact r
    ·exact absurd r.symm (hne e q)
    ·rw[hge e q] at r;cases r
   have e1:txOf (m.take k++ [⟨nmE y,[],[]⟩]++m.drop k)=txOf m:=ymY (f:=fun e=>e.text) rfl
   have e2:whOf (m.take k++ [⟨nmE y,[],[]⟩]++m.drop k)=whOf m:=ymY (f:=fun e=>e.who) rfl
   have hi:Inv (i+1) (m.take k++ [⟨nmE y,[],[]⟩]++m.drop k):=⟨hms,fun e he=>by
    rcases List.mem_append.1 he with he|he
    ·rcases List.mem_append.1 he with he|he
     ·exact h.so e (List.mem_of_mem_take he)
     ·rw[List.mem_singleton] at he;subst he;exact List.Pairwise.nil
    ·exact h.so e (List.mem_of_mem_drop he),by simp only[List.length_append,List.length_take,List.length_drop,List.length_cons,List.length_nil];omega,by rw[e2];have:=h.sm;omega,by omega,fun e he=>by
    rcases List.mem_append.1 he with he|he
    ·rcases List.mem_append.1 he with he|he
     ·exact h.nl e (List.mem_of_mem_take he)
     ·rw[List.mem_singleton] at he;subst he;exact yiy y
    ·exact h.nl e (List.mem_of_mem_drop he)⟩
   have hat:(m.take k++ [⟨nmE y,[],[]⟩]++m.drop k)[k]? =some ⟨nmE y,[],[]⟩:=by
    rw[List.append_assoc,List.getElem?_append_right (by rw[List.length_take];omega)]
    simp[List.length_take,Nat.min_eq_left hk]
   have:=j5 (X1:=X1) hi (by rw[e2];exact h.sm) h60 hat rfl hw1 hw2 hX1
   rw[show stM m=stM (m.take k++ [⟨nmE y,[],[]⟩]++m.drop k) by unfold stM;rw[e1,e2]]
   exact hJ5 _ _ this
  refine yaJ (fun q=> ?_) (fun q=> ?_)
  ·have q:(k:Int)=m.length:=by simpa using q
   exact ins fun e hh=>by rw[List.getElem?_eq_none (by omega)] at hh;cases hh
  ·have q:¬(k:Int)=m.length:=by simpa using q
   have hk':k<m.length:=by omega
   refine ⟨by omega,by omega,m[k],ge hk',?_⟩
   cases hq:m[k].name==nmE y with
   | true=>
     have hq:m[k].name=nmE y:=by simpa using hq
     refine hJ10 _ _ _ ?_
     unfold ybN
     exact yal rfl (hJ5 _ _ (j5 h' h.sm h60 (List.getElem?_eq_getElem hk') hq hw1 hw2 hX1))
   | false=>
     have hq:m[k].name≠nmE y:=by simpa using hq
     exact ins fun e hh=>by rw[List.getElem?_eq_getElem hk'] at hh;cases hh;exact hq
 refine yaJ (fun q=> ?_) (fun q=> ?_)
 ·have q:(k:Int)<m.length:=by simpa using q
  have hk':k<m.length:=by omega
  refine ⟨by omega,q,m[k],ge hk',?_⟩
  show J4 (Op.bytesLess m[k].name (nmE y)) (stM m) m
  cases hq:Op.bytesLess m[k].name (nmE y) with
  | true=>
    refine hJ4 _ _ _ ?_
    unfold yb5
    refine yai rfl ?_
    have hle:=h.le
    rw[w64s (by omega)]
    refine hX3 _ _ _ ⟨k+1,rfl,rfl,rfl,by omega,fun j e hj he=> ?_⟩ (by simp;omega)
    by_cases ek:j=k
    ·subst ek;rw[List.getElem?_eq_getElem hk'] at he;cases he;exact hq
    ·exact hlt j e (by omega) he
  |false=>exact fin fun e he=>by rw[List.getElem?_eq_getElem hk'] at he;cases he;exact hq
 ·have q:¬(k:Int)<m.length:=by simpa using q
  exact fin fun e he=>by rw[List.getElem?_eq_none (by omega)] at he;cases he
theorem yiH {β:Type} {f:EL→List β} {m:List EL} {k:Nat} (hk:k<m.length):gOf f (m.take (k+1))=gOf f (m.take k)++if (f m[k]).isEmpty then [] else [(m[k].name,f m[k])]:=by
 unfold gOf
 rw[List.take_add_one,List.getElem?_eq_getElem hk]
 simp only[Option.toList_some,List.filter_append,List.map_append]
 congr 1
 cases hq:(f m[k]).isEmpty<;>simp[hq]
theorem ymm {A B:CWt}:wSum (A++B)=wSum A+wSum B:=by simp[wSum]
theorem yoD {β:Type} {f:EL→List β} {m:List EL} {k:Nat}:∃r,gOf f m=gOf f (m.take k)++r:=by
 refine ⟨gOf f (m.drop k),?_⟩
 conv=>lhs;rw[<-List.take_append_drop k m]
 unfold gOf;rw[List.filter_append,List.map_append]
theorem l12 {i:Nat} {m:List EL} (h:Inv i m) (h60:i≤60):
  ∀X12:Int->yab->Int->Int->List EL->Prop,(∀a b c d e,ybL ((txOf m).map (·.1)) true (wSum (whOf m)) X12 a b c d e->X12 a b c d e)->X12 (0:Int) (stM m) ((txOf m).length:Int) (0:Int) m:=by
 have hlT:(txOf m).length<=m.length:=ygX (f:=fun e=>e.text)
 have hln:=h.ln
 refine lp5 (fun (x:Int) s (n:Int) (k:Int) m'=>∃j q:Nat,x=j/\s=stM m/\k=q/\m'=m/\j<=(txOf m).length/\n=((txOf m).length-j:Nat)/\q<=m.length/\txOf (m.take q)=(txOf m).take j) (fun (x:Int) _ _ _ _=>(txOf m).length-x.toNat) ?_ ⟨0,0,rfl,rfl,rfl,rfl,Nat.zero_le _,rfl,Nat.zero_le _,rfl⟩
 rintro X12 _ _ _ _ _ ⟨j,q,rfl,rfl,rfl,rfl,hj,rfl,hq,he⟩ hX12
 rename_i m
 unfold ybL
 refine yaJ (fun hb=> ?_) (fun hb=> ?_)
 ·have hb:j<(txOf m).length:=by simpa using hb
  have hat:((txOf m).map (·.1))[((j:Nat):Int).toNat]? =some (txOf m)[j].1:=by
   rw[Int.toNat_natCast,List.getElem?_map,List.getElem?_eq_getElem hb];rfl
  refine ⟨by omega,by rw[List.length_map];omega,(txOf m)[j].1,hat,?_⟩
  have hmem:(txOf m)[j]∈txOf m:=List.getElem_mem hb
  obtain ⟨e0,he0,_,hq0⟩:=ydv.1 hmem
  have htx:txAt (txOf m) (txOf m)[j].1=(txOf m)[j].2:=by
   unfold txAt
   rw[show gAt (txOf m) (txOf m)[j].1=some (txOf m)[j].2 from ygh (yc0 (f:=fun e=>e.text) h.ms) hmem];rfl
  have hnl:(txOf m)[j].1.length≤9223372036854775807:=by
   rw[hq0]
   have:=h.nl e0 he0
   show e0.name.length<=_
   omega
  refine ⟨(txOf m)[j].2,⟨_,_,rfl,hnl,htx.symm⟩,?_⟩
  refine lp3 (fun (x:Int) s m'=>∃p:Nat,x=p/\s=stM m/\m=m'/\p<=m.length/\txOf (m.take p)=(txOf m).take j) (fun (x:Int) _ _=>m.length-x.toNat) ?_ ⟨q,rfl,rfl,rfl,hq,he⟩
  rintro X13 _ _ _ ⟨p,rfl,rfl,rfl,hp,hpe⟩ hX13
  unfold ydb
  intro J14 hJ14
  have lenj:(txOf (m.take p)).length=j:=by rw[hpe,List.length_take];omega
  refine yaJ (fun hc=> ?_) (fun hc=> ?_)
  ·have hc:(p:Int)<m.length:=by simpa using hc
   have hp':p<m.length:=by omega
   refine ⟨by omega,hc,m[p],ge hp',?_⟩
   have hstep:txOf (m.take (p+1))=txOf (m.take p)++if (m[p].text).isEmpty then [] else [(m[p].name,m[p].text)]:=yiH (f:=fun e=>e.text) hp'
   cases hq:m[p].text==([]:Str) with
   | true=>
     have hq:m[p].text= []:=by simpa using hq
     rw[hq] at hstep
     refine hJ14 _ _ _ ?_
     unfold ybQ
     refine yai rfl ?_
     rw[w64s (by omega)]
     exact hX13 _ _ _ ⟨p+1,rfl,rfl,rfl,by omega,by rw[hstep];simpa using hpe⟩ (by simp;omega)
   | false=>
     have hq:m[p].text≠ []:=by simpa using hq
     have hne:(m[p].text).isEmpty=false:=by
      cases hz:m[p].text with
      |nil=>exact absurd hz hq
      |cons _ _=>rfl
     rw[hne] at hstep
     obtain ⟨r,hr⟩:=yoD (f:=fun e=>e.text) (m:=m) (k:=p+1)
     have hr:txOf m=txOf (m.take (p+1))++r:=hr
     have hj2:(txOf m)[j]? =some (m[p].name,m[p].text):=by
      rw[hr,hstep]
      simp only[Bool.false_eq_true,if_false,List.append_assoc]
      rw[List.getElem?_append_right (by omega),lenj]
      simp
     have hj3:(txOf m)[j]=(m[p].name,m[p].text):=by
      rw[List.getElem?_eq_getElem hb] at hj2
      exact Option.some.inj hj2
     refine hJ14 _ _ _ ?_
     unfold ybQ
     refine yal rfl ?_
     intro J15 hJ15
     refine yal (by simp;omega) ⟨by omega,hc,m[p],ge hp',?_⟩
     refine yal (by rw[hj3];simp) ⟨by omega,hc,m[p],ge hp',?_⟩
     rw[hj3]
     simp only[BEq.rfl,Bool.not_true]
     refine hJ15 _ _ _ ?_
     unfold yc4
     refine yal rfl ?_
     rw[w64s (by omega),w64s (by omega),Go.AV.wrap64 (by omega) (by omega)]
     refine hX12 _ _ _ _ _ ⟨j+1,p+1,rfl,rfl,rfl,rfl,by omega,by omega,by omega,?_⟩ (by simp;omega)
     rw[hstep,hpe,List.take_add_one,hj2]
     simp
  ·have hc:¬(p:Int)<m.length:=by simpa using hc
   have:p=m.length:=by omega
   rw[this,List.take_length] at hpe
   have:=congrArg List.length hpe
   rw[List.length_take] at this
   omega
 ·have hb:¬j<(txOf m).length:=by simpa using hb
  have hjT:j=(txOf m).length:=by omega
  subst hjT
  refine ⟨trivial,fun _=> ?_⟩
  intro J16 hJ16
  have f16:J16 true:=hJ16 _ rfl
  refine yai (by simp) ⟨_,⟨_,_,rfl,rfl⟩,yai (by simp) ⟨_,rfl,yai rfl ⟨_,rfl,fun _=>yai rfl ⟨_,rfl,yai rfl ⟨_,rfl,yai rfl ⟨_,rfl,fun _=>yai rfl ⟨_,rfl,yai rfl ⟨_,rfl,f16⟩⟩⟩⟩⟩⟩⟩⟩
theorem l11 {i:Nat} {m:List EL} (h:Inv i m) (h60:i≤60):
  ∀X11:Int->Int->yab->Int->List EL->Prop,(∀a b c d e,ybP true X11 a b c d e->X11 a b c d e)->X11 (0:Int) (0:Int) (stM m) (0:Int) m:=by
 have hln:=h.ln
 refine lp5 (fun (w:Int) (x:Int) s (n:Int) m'=>∃k:Nat,x=k/\s=stM m/\m'=m/\k<=m.length/\w=wSum (whOf (m.take k))/\n=((txOf (m.take k)).length:Int)) (fun _ (x:Int) _ _ _=>m.length-x.toNat) ?_ ⟨0,rfl,rfl,rfl,Nat.zero_le _,rfl,rfl⟩
 rintro X11 _ _ _ _ _ ⟨k,rfl,rfl,rfl,hk,rfl,rfl⟩ hX11
 rename_i m
 unfold ybP
 refine yaJ (fun hb=> ?_) (fun hb=> ?_)
 ·have hb:(k:Int)<m.length:=by simpa using hb
  have hk':k<m.length:=by omega
  refine ⟨by omega,hb,m[k],ge hk',fun _=>⟨by omega,hb,m[k],ge hk',?_⟩⟩
  have h1:whOf (m.take (k+1))=whOf (m.take k)++if (m[k].who).isEmpty then [] else [(m[k].name,m[k].who)]:=yiH (f:=fun e=>e.who) hk'
  have h2:txOf (m.take (k+1))=txOf (m.take k)++if (m[k].text).isEmpty then [] else [(m[k].name,m[k].text)]:=yiH (f:=fun e=>e.text) hk'
  have s1:wSum (whOf (m.take (k+1)))=wSum (whOf (m.take k))+m[k].who.length:=by
   rw[h1,ymm]
   cases hz:m[k].who with
   |nil=>simp[wSum]
   |cons a l=>simp[wSum]
  obtain ⟨r,hr⟩:=yoD (f:=fun e=>e.who) (m:=m) (k:=k+1)
  have hr:wSum (whOf m)=wSum (whOf (m.take (k+1)))+wSum r:=by
   rw[show whOf m=whOf (m.take (k+1))++r from hr,ymm]
  have r1:=yep (W:=r)
  have r2:=yep (W:=whOf (m.take k))
  have hsm:=h.sm
  have htl:(txOf (m.take k)).length<=(m.take k).length:=ygX (f:=fun e=>e.text)
  rw[List.length_take] at htl
  rw[w64s (by omega),Go.AV.wrap64 (by omega) (by omega),<-s1]
  refine yaJ (fun hq=> ?_) (fun hq=> ?_)
  ·have hq:m[k].text≠ []:=by simpa using hq
   have hne:(m[k].text).isEmpty=false:=by
    cases hz:m[k].text with
    |nil=>exact absurd hz hq
    |cons _ _=>rfl
   rw[w64s (by omega)]
   refine hX11 _ _ _ _ _ ⟨k+1,rfl,rfl,rfl,by omega,rfl,?_⟩ (by simp;omega)
   rw[h2,hne];simp
  ·have hq:m[k].text= []:=by simpa using hq
   refine hX11 _ _ _ _ _ ⟨k+1,rfl,rfl,rfl,by omega,rfl,?_⟩ (by simp;omega)
   rw[h2,hq];simp
 ·have hb:¬(k:Int)<m.length:=by simpa using hb
  have hkm:k=m.length:=by omega
  subst hkm
  rw[List.take_length]
  refine ⟨⟨rfl,trivial⟩,fun _=>⟨_,⟨_,_,rfl,?_,rfl⟩,fun _=>l12 h h60⟩⟩
  have hlT:(txOf m).length<=m.length:=ygX (f:=fun e=>e.text)
  omega
theorem l1 {l:List Act} (hw:∀y∈l,-9223372036854775808≤y.Who∧y.Who≤9223372036854775807):
  ∀X1:Int->yab->List EL->Prop,(∀a b c,yb4 l true X1 a b c->X1 a b c)->X1 (0:Int) (mkS [] []) []:=by
 refine lp3 (fun (x:Int) s m=>∃i:Nat,x=i/\s=stM m/\Inv i m/\i<=60/\i<=l.length) (fun (x:Int) _ _=>l.length-x.toNat) ?_ ⟨0,rfl,rfl,⟨List.Pairwise.nil,fun e h=>(by cases h),Nat.le_refl _,by decide,by omega,fun e h=>(by cases h)⟩,by omega,Nat.zero_le _⟩
 rintro X1 _ _ m ⟨i,rfl,rfl,h,h60,hil⟩ hX1
 unfold yb4
 intro J2 hJ2 _
 have fin:J2 false (stM m) m:=by
  refine hJ2 _ _ _ ?_
  unfold yb2
  exact yal rfl (l11 h h60)
 refine yaJ (fun hb=> ?_) (fun _=>fin)
 have hb:(i:Int)<l.length:=by simpa using hb
 have hi':i<l.length:=by omega
 cases hq:decide ((i:Int)<60) with
 |false=>exact fin
 | true=>
   have hq:(i:Int)<60:=by simpa using hq
   refine hJ2 _ _ _ ?_
   unfold yb2
   refine yai rfl ⟨by omega,hb,l[i],by rw[Int.toNat_natCast,List.getElem?_eq_getElem hi'],?_⟩
   have hy:=hw l[i] (List.getElem_mem hi')
   refine ⟨by split<;>omega,by split<;>omega,?_⟩
   exact l3 h (by omega) hy.1 hy.2 fun m' hm'=>hX1 _ _ _ ⟨i+1,rfl,rfl,hm',by omega,by omega⟩ (by simp;omega)
end Go.Proofs.Ythgmmfojclcbpaa
end
noncomputable section
namespace Go.Proofs.Ythgmmfojclcbpaa
open Go.AV Go.RowKit
theorem ypx:ybC true:=by
 unfold ybC
 have w1:ybt [] [97] 3= [([97],[3])]:=by decide
 have w2:ybt [([97],[3])] [97] 3= [([97],[3])]:=by decide
 have t1:ydf [] [97] [120]= [([97],[120])]:=by decide
 have t2:ydf [([97],[120])] [97] [120]= [([97],[120])]:=by decide
 refine ⟨mkS [] [],rfl,true,mkS [] [([97],[3])],⟨[],[],rfl,by decide,by decide,by decide,by decide,by decide,by decide,by rw[w1]⟩,false,mkS [] [([97],[3])],⟨[],[([97],[3])],rfl,by decide,by decide,by decide,by decide,by decide,by decide,by rw[w2]⟩,[3],mkS [([97],[120])] [([97],[3])],⟨[],[([97],[3])],rfl,by decide,by decide,by decide,by decide,by decide,by rw[t1]⟩,[],mkS [([97],[120])] [([97],[3])],⟨[([97],[120])],[([97],[3])],rfl,by decide,by decide,by decide,by decide,by decide,by rw[t2]⟩,?_⟩
 intro J1 hJ1
 refine yai rfl (yai rfl fun _=>yai rfl ⟨by decide,by decide,3,rfl,yai rfl fun _=>yai rfl ⟨[120],⟨_,_,rfl,by decide,by decide⟩,yai rfl ⟨1,⟨_,_,rfl,by decide⟩,yai rfl ⟨1,⟨_,_,rfl,by decide⟩,hJ1 _ rfl⟩⟩⟩⟩)
theorem yhJ:yh4:=by
 intro a0 h
 unfold yaS
 exact ⟨true,ypx,yal rfl ⟨_,rfl,l1 fun y hy=>wf64.1 (h.2 y hy).2.2.2⟩⟩
end Go.Proofs.Ythgmmfojclcbpaa
end
