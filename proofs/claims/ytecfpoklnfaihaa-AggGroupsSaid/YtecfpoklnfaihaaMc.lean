/- General texts and own ones, joined: what the program computes, told of abstract states, and the laws of plain data. No condition. -/
import Derived.Test.YtecfpoklnfaihaaMb
import Derived.WalkKit
import Derived.ProofKit
import Derived.OpenShut
import Derived.ShutString
import Derived.ChangeOld
import Derived.ChangeSlices
import Derived.Below
import Derived.WideShapes
noncomputable section
namespace Go.AV
open Go.RowKit Go.RG Go.Lib
structure Enc (T:Type) where
 c:T->List AV
 sz:Nat
 pos:0<sz
 len:∀x,(c x).length=sz
 no:∀x,noLs (c x)=true
 one:∀x,(c x).all AV.one=true
def cl {T:Type} (E:Enc T) (l:List T):List AV:=l.flatMap E.c
def slA {T:Type} (E:Enc T) (l:List T):AV:= .sl false l.length (cl E l)
section
variable {T:Type} (E:Enc T)
theorem yhp (l:List T):(cl E l).length=l.length*E.sz:=by
 induction l with
 |nil=>simp[cl]
 |cons x l ih=>simp only[cl,List.flatMap_cons,List.length_append,List.length_cons,E.len] at ih⊢;rw[ih,Nat.add_mul];omega
theorem yDh (l:List T):noLs (cl E l)=true:=by
 induction l with
 |nil=>rfl
 |cons x l ih=>rw[show cl E (x::l)=E.c x++cl E l from by simp[cl],ymj,E.no,ih];rfl
theorem yyD (l k:List T):cl E (l++k)=cl E l++cl E k:=by simp[cl]
theorem yCd {l:List T} {m:Nat} {y:T} (h:l[m]? =some y) (o w:Nat) (hw:o+w≤E.sz):((cl E l).drop (m*E.sz+o)).take w=((E.c y).drop o).take w:=by
 induction l generalizing m with
 |nil=>simp at h
 | cons x l ih=>
   have e:cl E (x::l)=E.c x++cl E l:=by simp[cl]
   rw[e]
   cases m with
   | zero=>
     simp at h;subst h
     rw[Nat.zero_mul,Nat.zero_add,List.drop_append_of_le_length (by rw[E.len];omega),List.take_append_of_le_length (by simp[E.len];omega)]
   | succ m=>
     have:=ih (m:=m) (by simpa using h)
     rw[<-this]
     congr 1
     rw[show (m+1)*E.sz+o=E.sz+(m*E.sz+o) by rw[Nat.add_mul];omega]
     have h2:E.sz=(E.c x).length:=(E.len x).symm
     rw[h2,<-List.drop_drop,List.drop_left]
theorem yC0 {l:List T} {m:Nat} {y y':T} (h:l[m]? =some y) (o w:Nat) (hw:o+w≤E.sz) {vs:List AV} (hy:(E.c y).take o++vs++(E.c y).drop (o+w)=E.c y'):
  (cl E l).take (m*E.sz+o)++vs++(cl E l).drop (m*E.sz+o+w)=cl E (l.set m y'):=by
 induction l generalizing m with
 |nil=>simp at h
 | cons x l ih=>
   have e:cl E (x::l)=E.c x++cl E l:=by simp[cl]
   rw[e]
   cases m with
   | zero=>
     simp at h;subst h
     rw[List.set_cons_zero,show cl E (y'::l)=E.c y'++cl E l by simp[cl],<-hy]
     rw[Nat.zero_mul,Nat.zero_add,List.take_append_of_le_length (by rw[E.len];omega),List.drop_append_of_le_length (by rw[E.len];omega)]
     simp
   | succ m=>
     rw[List.set_cons_succ,show cl E (x::l.set m y')=E.c x++cl E (l.set m y') by simp[cl],<-ih (m:=m) (by simpa using h)]
     have h2:E.sz=(E.c x).length:=(E.len x).symm
     rw[show (m+1)*E.sz+o=(E.c x).length+(m*E.sz+o) by rw[<-h2,Nat.add_mul];omega,show (E.c x).length+(m*E.sz+o)+w=(E.c x).length+(m*E.sz+o+w) by omega]
     rw[List.take_length_add_append,List.drop_length_add_append]
     simp
theorem yzm (l:List T) (a b:Nat):((cl E l).drop (a*E.sz)).take (b*E.sz)=cl E ((l.drop a).take b):=by
 induction l generalizing a with
 |nil=>simp[cl]
 | cons x l ih=>
   have e:cl E (x::l)=E.c x++cl E l:=by simp[cl]
   have h2:E.sz=(E.c x).length:=(E.len x).symm
   cases a with
   | zero =>
     simp only[Nat.zero_mul,List.drop_zero]
     clear ih
     have key:∀(k:List T) (b:Nat),(cl E k).take (b*E.sz)=cl E (k.take b):=by
      intro k
      induction k with
      |nil=>intro b;simp[cl]
      | cons z k ihk=>
        intro b
        have h3:E.sz=(E.c z).length:=(E.len z).symm
        cases b with
        |zero=>simp[cl]
        | succ b=>
          rw[List.take_succ_cons,show cl E (z::k)=E.c z++cl E k by simp[cl],show cl E (z::k.take b)=E.c z++cl E (k.take b) by simp[cl],<-ihk b,show (b+1)*E.sz=(E.c z).length+b*E.sz by rw[<-h3,Nat.add_mul];omega,List.take_length_add_append]
     exact key _ b
   | succ a=>
     rw[e,List.drop_succ_cons,<-ih a,show (a+1)*E.sz=(E.c x).length+a*E.sz by rw[<-h2,Nat.add_mul];omega,List.drop_length_add_append]
end
section
variable {P:Program} {B:Base} [GB P B] {N:Nat} {ro:Option Nat} {L:List AO} {Q:KS->Prop} {ds:DS} {i:Nat} {o:AO} {T:Type} {d:Option Nat}
def toB (n:Int):UInt8:=UInt8.ofNat n.toNat
def ofB (b:UInt8):Int:=(b.toNat:Int)
end
abbrev Str:=List UInt8
def eB:Enc Bool:=⟨fun b=> [.bl b],1,by omega,fun _=>rfl,fun _=>rfl,fun _=>rfl⟩
def eI (k:IntKind):Enc Int:=⟨fun n=> [.it k n],1,by omega,fun _=>rfl,fun _=>rfl,fun _=>rfl⟩
def eS:Enc Str:=⟨fun s=> [.st s],1,by omega,fun _=>rfl,fun _=>rfl,fun _=>rfl⟩
def eSl {T:Type} (E:Enc T):Enc (List T):=⟨fun l=> [slA E l],1,by omega,fun _=>rfl,fun _=>rfl,fun _=>rfl⟩
def bAt (s:Str) (i:Int):Int:=((s[i.toNat]?.getD 0).toNat:Int)
def cnd (b:Bool) (x y:Prop):Prop:=(b=true->x)/\(b=false->y)
end Go.AV
end
noncomputable section
namespace Go.AV
open Go.RowKit Go.RG Go.Lib Go.WideShapes Go.ChangeShapes
def yk7 (P:Program) (pl:TypeId→Bool):List Field→Nat→Option Nat
 | [],o=>some o
 |f::r,o=>if f.offset=o/\pl f.type=true then yk7 P pl r (o+P.cellsOf f.type) else none
def yk4 (P:Program):Nat→TypeId→Bool
 |0,_=>false
 | k+1,t=>match P.underlying t with
   |some .bool=>P.cellsOf t==1
   |some (.int _)=>P.cellsOf t==1
   |some .string=>P.cellsOf t==1
   |some (.slice e)=>P.cellsOf t==1&&yk4 P k e&&decide (0<P.cellsOf e)
   |some (.struct fs)=>yk7 P (yk4 P k) fs.toList 0==some (P.cellsOf t)
   |_=>false
mutual
inductive yer (P:Program):TypeId→List AV→Prop
 |bl (t:TypeId) (b:Bool) (h:P.underlying t=some .bool):yer P t [.bl b]
 |it (t:TypeId) (k:IntKind) (n:Int) (h:P.underlying t=some (.int k)) (hw:(Lit.int k n).wf=true):yer P t [.it k n]
 |st (t:TypeId) (l:List UInt8) (h:P.underlying t=some .string) (hw:l.length<=maxLen):yer P t [.st l]
 |sl (t e:TypeId) (h:P.underlying t=some (.slice e)) (rows:List (List AV)) (hr:∀r∈rows,yer P e r) (hm:rows.length<=maxLen):yer P t [.sl false rows.length rows.flatten]
 |stc (t:TypeId) (fs:Array Field) (h:P.underlying t=some (.struct fs)) (us:List AV) (hf:yht P fs.toList us):yer P t us
inductive yht (P:Program):List Field→List AV→Prop
 |nil:yht P [] []
 |cons (f:Field) (r:List Field) (p q:List AV) (hp:yer P f.type p) (hq:yht P r q):yht P (f::r) (p++q)
end
theorem yl9 {α:Type} {Q:Nat→α→Prop}:∀(n:Nat),(∀i,i<n→∃x,Q i x)→∃l:List α,l.length=n∧∀(i:Nat) (x:α),l[i]? =some x→Q i x
 |0,_=>⟨[],rfl,fun i x h=>by simp at h⟩
 | n +1,h=>by
   obtain ⟨l,h1,h2⟩:=yl9 n fun i hi=>h i (by omega)
   obtain ⟨x,hx⟩:=h n (by omega)
   refine ⟨l++ [x],by simp[h1],fun i y hy=> ?_⟩
   by_cases hi:i<l.length
   ·rw[List.getElem?_append_left hi] at hy;exact h2 i y hy
   ·rw[List.getElem?_append_right (by omega)] at hy
    have:i-l.length=0:=by
     have:=(List.getElem?_eq_some_iff.1 hy).1
     simp at this;omega
    rw[this] at hy
    simp at hy;subst hy
    have:i=n:=by omega
    rw[this];exact hx
theorem yl2 {sz:Nat} (h0:0<sz):∀(rows:List (List AV)),(∀r∈rows,r.length=sz)→∀(j:Nat) (u:AV),rows.flatten[j]? =some u→∃r,rows[j/sz]? =some r∧r[j % sz]? =some u
 | [],_,j,u,h=>by simp at h
 | r::rows,hr,j,u,h=>by
   have hl:r.length=sz:=hr r (by simp)
   rw[List.flatten_cons] at h
   by_cases hj:j<sz
   ·rw[List.getElem?_append_left (by omega)] at h
    rw[Nat.div_eq_of_lt hj,Nat.mod_eq_of_lt hj]
    exact ⟨r,rfl,h⟩
   ·rw[List.getElem?_append_right (by omega),hl] at h
    obtain ⟨q,h1,h2⟩:=yl2 h0 rows (fun r hq=>hr r (by simp[hq])) (j-sz) u h
    have e1:j/sz=(j-sz)/sz+1:=Nat.div_eq_sub_div h0 (by omega)
    have e2:j % sz=(j-sz) % sz:=(Nat.mod_eq_sub_mod (by omega))
    rw[e1,e2]
    exact ⟨q,by simpa using h1,h2⟩
section
variable {H:Type} {enc:TypeId×Value->H} {P:Program} {G:Gh} {base:Nat} {held:Bool}
def TC (G:Gh) (us:List AV) (cs:List Value):Prop:=us.length=cs.length/\(∀(j:Nat) (u:AV) (x:Value),us[j]? =some u->cs[j]? =some x->VR G u x)/\noLs us=true/\∀u∈us,u.one=true
theorem TC.one1 {u:AV} {x:Value} (h:VR G u x) (hn:u.noL=true) (ho:u.one=true):TC G [u] [x]:=by
 refine ⟨rfl,fun j u' x' hu hx=> ?_,by simp[noLs,hn],by simp[ho]⟩
 cases j with
 |zero=>simp at hu hx;subst hu;subst hx;exact h
 |succ j=>simp at hu
theorem TC.append {us vs:List AV} {cs ds:List Value} (h:TC G us cs) (k:TC G vs ds):TC G (us++vs) (cs++ds):=by
 refine ⟨by simp[h.1,k.1],fun j u x hu hx=> ?_,by rw[ymj,h.2.2.1,k.2.2.1];rfl,fun u hu=> ?_⟩
 ·by_cases hj:j<us.length
  ·rw[List.getElem?_append_left hj] at hu
   rw[List.getElem?_append_left (by rw[<-h.1];exact hj)] at hx
   exact h.2.1 j u x hu hx
  ·rw[List.getElem?_append_right (by omega)] at hu
   rw[List.getElem?_append_right (by rw[<-h.1];omega)] at hx
   rw[<-h.1] at hx
   exact k.2.1 _ u x hu hx
 ·rcases List.mem_append.1 hu with q|q
  ·exact h.2.2.2 u q
  ·exact k.2.2.2 u q
theorem yAC (hI:∀b,b<G.w.heap.size→G.I b):∀(fuel k:Nat) (t:TypeId) (cs:List Value) (x:DataW H×List MemPlace),yk4 P k t=true→DataW.trod enc P G.w base (fun _=>true) held fuel t cs=some x→cs.length=P.cellsOf t→∃us,TC G us cs∧yer P t us:=by
 intro fuel
 induction fuel with
 |zero=>intro k t cs x _ h;simp[DataW.trod] at h
 | succ fuel ih=>
   intro k t cs x hp h hlen
   cases k with
   |zero=>cases hp
   | succ k =>
     simp only[yk4] at hp
     split at hp
     ·rename_i ht
      obtain ⟨b,rfl,_⟩:=DataW.trod_bool ht h
      exact ⟨_,TC.one1 (.bl b) rfl rfl, .bl t b ht⟩
     ·rename_i kk ht
      obtain ⟨n,rfl,_,hw⟩:=DataW.trod_int ht h
      exact ⟨_,TC.one1 (.it kk n) rfl rfl, .it t kk n ht hw⟩
     ·rename_i ht
      obtain ⟨s,rfl,_,hw⟩:=DataW.trod_string ht h
      exact ⟨_,TC.one1 (.st _ s rfl) rfl rfl, .st t _ ht (by simpa using hw)⟩
     ·rename_i e ht
      simp only[Bool.and_eq_true,decide_eq_true_eq] at hp
      obtain ⟨⟨hp1,hp2⟩,hp3⟩:=hp
      rcases DataW.trod_slice ht h with ⟨rfl,_⟩|⟨a,len,cap,elems,rest,n,hfu,rfl,_,hb,hl,hm,hel,hg,hsp,_⟩
      ·exact ⟨_,TC.one1 (.nsl false 0 [] rfl rfl) rfl rfl, .sl t e ht [] (fun r hr=>by cases hr) (by simp)⟩
      ·cases hfu
       by_cases hl0:len=0
       ·subst hl0
        exact ⟨_,TC.one1 (.esl 0 [] rfl rfl a cap) rfl rfl, .sl t e ht [] (fun r hr=>by cases hr) (by simp)⟩
       ·have hone:∀i,i<len→∃us:List AV,yer P e us∧∃csi,G.w.cells? base (a.add (i*P.cellsOf e)) (P.cellsOf e)=some csi∧csi.length=P.cellsOf e∧TC G us csi:=by
         intro i hi
         have h1:=hg i hi
         rw[List.getElem?_eq_getElem (by rw[hel];exact hi)] at h1
         obtain ⟨csi,h2,h3⟩:=Option.bind_eq_some_iff.1 h1
         have hcl:csi.length=P.cellsOf e:=(World.cells?_some h2).2.1
         obtain ⟨us,u1,u2⟩:=ih k e csi _ hp2 h3 hcl
         exact ⟨us,u2,csi,h2,hcl,u1⟩
        obtain ⟨rows,r1,r2⟩:=yl9 len hone
        have hrl:∀r∈rows,r.length=P.cellsOf e:=by
         intro r hr
         obtain ⟨i,hi⟩:=List.getElem?_of_mem hr
         obtain ⟨_,csi,_,q2,q3⟩:=r2 i r hi
         rw[q3.1,q2]
        have hcell:∀(j:Nat) (u:AV),rows.flatten[j]? =some u→∃y,G.w.cell? (a.add j)=some y∧VR G u y∧u.one=true∧u.noL=true:=by
         intro j u hu
         obtain ⟨r,q1,q2⟩:=yl2 hp3 rows hrl j u hu
         obtain ⟨_,csi,s1,s2,s3⟩:=r2 _ r q1
         have hq:j % P.cellsOf e<P.cellsOf e:=Nat.mod_lt _ hp3
         have hcs:=(World.cells?_some s1).2.2 (j % P.cellsOf e) hq
         have e1:(a.add (j/P.cellsOf e*P.cellsOf e)).add (j % P.cellsOf e)=a.add j:=by
          rw[Addr.add_add]
          congr 1
          rw[Nat.mul_comm];exact Nat.div_add_mod j _
         rw[e1] at hcs
         have hx:csi[j % P.cellsOf e]? =some csi[j % P.cellsOf e]:=List.getElem?_eq_getElem (by rw[s2];exact hq)
         refine ⟨csi[j % P.cellsOf e],?_,s3.2.1 _ u _ q2 hx,s3.2.2.2 u (List.mem_of_getElem? q2),ybA s3.2.2.1 _ u q2⟩
         rw[hcs,hx]
        have hne:0<rows.flatten.length:=by
         match rows,r1,hrl with
         | r::rows,_,hrl=>
           rw[List.flatten_cons,List.length_append,hrl r (by simp)];omega
         | [],r1,_=>simp at r1;omega
        obtain ⟨y0,c0,_⟩:=hcell 0 _ (List.getElem?_eq_getElem hne)
        have ha0:a.add 0=a:=by cases a;simp[Addr.add]
        rw[ha0] at c0
        obtain ⟨ab,ao,asp⟩:=a
        have hspot:asp=none:=by
         cases asp with
         |none=>rfl
         | some q=>
           unfold World.cell? at c0
           split at c0
           ·simp at c0
           ·cases c0
        subst hspot
        have hblk:ab<G.w.heap.size:=World.block_lt_of_cell? G.w _ c0
        have hxs:∀(j:Nat) (u:AV),rows.flatten[j]? =some u→∃y,G.w.cell? ⟨ab,ao+j,none⟩=some y∧VR G u y∧u.one=true∧u.noL=true:=by
         intro j u hu
         have:=hcell j u hu
         rwa[Addr.add_lit] at this
        have hno:noLs rows.flatten=true:=yie.2 fun u hu=>by
         obtain ⟨j,hj⟩:=List.getElem?_of_mem hu
         obtain ⟨y,_,_,_,q⟩:=hxs j u hj
         exact q
        have hty:yer P t [.sl false rows.length rows.flatten]:= .sl t e ht rows (fun r hr=>by
         obtain ⟨i,hi⟩:=List.getElem?_of_mem hr
         exact (r2 i r hi).1) (by rw[r1];omega)
        rw[r1] at hty
        refine ⟨[.sl false len rows.flatten],TC.one1 (.sl len rows.flatten ab ao cap (fun j=>(G.w.cell? ⟨ab,ao+j,none⟩).getD undef) (hI ab hblk) ?_ ?_ ?_ hl (by omega) hno) rfl rfl,hty⟩
        ·intro j u hu
         obtain ⟨y,q1,_⟩:=hxs j u hu
         rw[q1];rfl
        ·intro j u hu
         obtain ⟨y,q1,q2,_⟩:=hxs j u hu
         simp only[q1,Option.getD_some];exact q2
        ·intro j u hu
         obtain ⟨y,q1,q2,q3,_⟩:=hxs j u hu
         simp only[q1,Option.getD_some];exact q2.one q3
     ·rename_i fs ht
      obtain ⟨xs,n,hfu,_,hcl,hxl,hf⟩:=DataW.trod_struct ht h
      cases hfu
      have key:∀(l:List Field) (i o:Nat) (tot:Nat),fs.toList.drop i=l→yk7 P (yk4 P k) l o=some tot→o≤cs.length→tot=cs.length→∃us,TC G us (cs.drop o)∧yht P l us:=by
       intro l
       induction l with
       | nil=>
         intro i o tot _ hc ho htot
         simp only[yk7,Option.some.injEq] at hc
         subst hc
         rw[List.drop_eq_nil_of_le (by omega)]
         exact ⟨[],⟨rfl,fun j u x hu=>by simp at hu,rfl,fun u hu=>by cases hu⟩, .nil⟩
       | cons f l ihl=>
         intro i o tot hd hc ho htot
         simp only[yk7] at hc
         split at hc
         ·rename_i hcnd
          have hfi:fs[i]? =some f:=by
           have:fs.toList[i]? =some f:=by
            have:=congrArg (·[0]?) hd
            simpa using this
           simpa using this
          have hi:i<fs.size:=(Array.getElem?_eq_some_iff.1 hfi).1
          have h1:=hf i f hfi
          rw[List.getElem?_eq_getElem (by rw[hxl];exact hi),hcnd.1] at h1
          have hmono:∀(l:List Field) (o tot:Nat),yk7 P (yk4 P k) l o=some tot→o≤tot:=by
           intro l
           induction l with
           |nil=>intro o tot h;simp only[yk7,Option.some.injEq] at h;omega
           | cons g l ihm=>
             intro o tot h
             simp only[yk7] at h
             split at h
             ·have:=ihm _ _ h;omega
             ·cases h
          have hle:=hmono _ _ _ hc
          obtain ⟨us,u1,u2⟩:=ih k f.type _ _ hcnd.2 h1 (by simp;omega)
          obtain ⟨vs,v1,v2⟩:=ihl (i+1) _ tot (by rw[<-List.drop_drop,hd];rfl) hc (by omega) htot
          refine ⟨us++vs,?_, .cons f l us vs u2 v2⟩
          have:=u1.append v1
          rw[<-List.drop_drop,List.take_append_drop] at this
          exact this
         ·cases hc
      obtain ⟨us,u1,u2⟩:=key fs.toList 0 0 _ rfl (by simpa using hp) (Nat.zero_le _) hlen.symm
      exact ⟨us,by simpa using u1, .stc t fs ht us u2⟩
     ·cases hp
def G0 (w:World):Gh:=⟨fun _=>none,ydu (hSt (fun _=>none) 0),fun b=>b<w.heap.size,w⟩
theorem yDr (w:World):MRel (ybL (G0 w) 0) (hSt (fun _=>none) 0) (G0 w):=by
 refine {blk:= ?_,inj:=fun k k' r r' h=>(by cases h),dead:=fun k=>Iff.rfl,live:= ?_,apart:=fun k r h=>(by cases h),lt:=fun b h=>h,loc:=fun d c r h=>(by cases h),keep:=fun k r h=>(by cases h),heap:=fun o r h=>(by cases h),nx:=Nat.le_refl _,gone:=fun o _ h=>h,I0:=fun b h=>h,I1:=fun b h=> .inl h,os:=rfl,tape:=rfl,output:=rfl,size:=Nat.le_refl _,same:=fun b _ _=>rfl,hno:= ?_}
 ·intro k;cases k<;>trivial
 ·intro k b h;cases k<;>cases h
 ·intro k b h;cases k<;>cases h
theorem GOK.none {P:Program} {w:World} {I:Nat→Prop} (h:yx7.all (fun p=>(P.globalNamed p.1).isNone)=true) (h':P.globalNamed "internal/bytealg.MaxLen" = .none) (h2:yC2.all (fun n=>(P.globalNamed n).isNone)=true:=by kernel_rfl):GOK P w I:=
 ⟨fun name avs hm g hg=>(by have:=List.all_eq_true.1 h _ hm;rw[hg] at this;cases this),fun g hg=>(by rw[h'] at hg;cases hg),fun name hm g hg=>(by have:=List.all_eq_true.1 h2 _ hm;rw[hg] at this;cases this)⟩
theorem ysz {f:FuncId} {args:List AV} {vs:Array Value} {w:World} (hg:GOK P w fun b=>b<w.heap.size) (hp:Pure P f args (.bl true)) (hV:VRs (G0 w) args vs.toList):yiE P f vs w fun e w'=>e= .returned (.bool true)∧Below w.heap.size w w':=by
 refine (hp (fun _=>none) 0 (G0 w) vs hg (yDr w) hV).mono ?_
 rintro e w' ⟨v,av,H',n',G',rfl,⟨rfl,rfl,rfl⟩,hM,rfl,hv,_⟩
 exact ⟨by rw[hv.bl_inv],hM.os,hM.tape,hM.output,hM.size,fun k hk=>hM.same k hk (fun k' r hr=>by cases hr)⟩
end
def yrb (P:Program) (t:TypeId) {T:Type} (c:T->List AV) (R:T->Prop):Prop:=∀us,yer P t us->∃v:T,us=c v/\R v
theorem ylG {P:Program} {t:TypeId} {k:IntKind} (ht:P.underlying t=some (.int k)):yrb P t (eI k).c (fun n=>(Lit.int k n).wf=true):=by
 intro us h
 cases h with
 |bl _ b h=>rw[ht] at h;cases h
 |it _ k n h hw=>rw[ht] at h;cases h;exact ⟨n,rfl,hw⟩
 |st _ l h=>rw[ht] at h;cases h
 |sl _ e h=>rw[ht] at h;cases h
 |stc _ fs h=>rw[ht] at h;cases h
theorem yxy {P:Program} {t:TypeId} (ht:P.underlying t=some .string):yrb P t eS.c (fun s=>s.length≤maxLen):=by
 intro us h
 cases h with
 |bl _ b h=>rw[ht] at h;cases h
 |it _ k n h=>rw[ht] at h;cases h
 |st _ l h hw=>exact ⟨l,rfl,hw⟩
 |sl _ e h=>rw[ht] at h;cases h
 |stc _ fs h=>rw[ht] at h;cases h
theorem ynM {P:Program} {t e:TypeId} {T:Type} (E:Enc T) {R:T→Prop} (ht:P.underlying t=some (.slice e)) (he:yrb P e E.c R):yrb P t (eSl E).c (fun l=>l.length≤maxLen∧∀v∈l,R v):=by
 intro us h
 cases h with
 |bl _ b h=>rw[ht] at h;cases h
 |it _ k n h=>rw[ht] at h;cases h
 |st _ l h=>rw[ht] at h;cases h
 | sl _ e h rows hr hm=>
   rw[ht] at h;cases h
   have key:∀rows:List (List AV),(∀r∈rows,yer P e r)→∃l:List T,rows=l.map E.c∧∀v∈l,R v:=by
    intro rows
    induction rows with
    |nil=>exact fun _=>⟨[],rfl,fun v hv=>by cases hv⟩
    | cons r rows ih=>
      intro h
      obtain ⟨l,h1,h2⟩:=ih fun q hq=>h q (by simp[hq])
      obtain ⟨v,h3,h4⟩:=he r (h r (by simp))
      refine ⟨v::l,by rw[h1,h3];rfl,fun u hu=> ?_⟩
      rcases List.mem_cons.1 hu with rfl|hu
      ·exact h4
      ·exact h2 u hu
   obtain ⟨l,rfl,h2⟩:=key rows hr
   refine ⟨l,?_,by simpa using hm,h2⟩
   show [AV.sl false (l.map E.c).length (l.map E.c).flatten]= [slA E l]
   unfold slA cl
   rw[List.length_map,List.flatMap_def]
 |stc _ fs h=>rw[ht] at h;cases h
theorem yer.fields {P:Program} {t:TypeId} {fs:Array Field} (ht:P.underlying t=some (.struct fs)) {us:List AV} (h:yer P t us):yht P fs.toList us:=by
 cases h with
 |bl _ b h=>rw[ht] at h;cases h
 |it _ k n h=>rw[ht] at h;cases h
 |st _ l h=>rw[ht] at h;cases h
 |sl _ e h=>rw[ht] at h;cases h
 |stc _ fs h us hf=>rw[ht] at h;cases h;exact hf
theorem yht.first {P:Program} {f:Field} {r:List Field} {us:List AV} (h:yht P (f::r) us) {T:Type} {c:T→List AV} {R:T→Prop} (hc:yrb P f.type c R):∃v q,us=c v++q∧R v∧yht P r q:=by
 cases h with
 | cons _ _ p q hp hq=>
   obtain ⟨v,rfl,h2⟩:=hc _ hp
   exact ⟨v,q,rfl,h2,hq⟩
theorem yht.last {P:Program} {us:List AV} (h:yht P [] us):us= []:=by
 cases h;rfl
section
variable {H:Type} {enc:TypeId×Value->H} {P:Program} {w:World} {r:Reach} {v:Value} {d:DataW H} {p:List MemPlace} {held:Bool}
def yvz (P:Program) (t:TypeId):Bool:=match P.underlying t with
 |some .bool=>true
 |some (.int _)=>true
 |some .string=>true
 |some (.slice _)=>true
 |_=>false
theorem yqu {t:TypeId} (k:Nat) (hp:yk4 P k t=true) (hc:yvz P t=true) {T:Type} {av:T→AV} {R:T→Prop} (ht:yrb P t (fun x=> [av x]) R) {b0:Nat} (ok:Value.okWide P w r b0 t v) (h:DataW.Trod enc P w 0 (fun _=>true) held t v d p):∃x,VR (G0 w) (av x) v∧R x:=by
 obtain ⟨fuel,h⟩:=h
 have h1:v.cells.toList= [v]∧P.cellsOf t=1:=by
  cases k with
  |zero=>cases hp
  | succ k=>
    unfold yvz at hc
    unfold yk4 at hp
    revert hc
    revert hp
    cases hu:P.underlying t with
    |none=>intro _ hc;cases hc
    | some u=>
      cases u with
      |bool=>intro hp _;obtain ⟨b,rfl⟩:=okWide_bool hu ok;exact ⟨rfl,by simpa using hp⟩
      |int k=>intro hp _;obtain ⟨n,rfl⟩:=okWide_int hu ok;exact ⟨rfl,by simpa using hp⟩
      |string=>intro hp _;obtain ⟨b,rfl⟩:=okWide_string hu ok;exact ⟨rfl,by simpa using hp⟩
      |slice e=>intro hp _;obtain ⟨a,len,cap,rfl⟩:=okWide_slice hu ok;exact ⟨rfl,by simp at hp;exact hp.1.1⟩
      |_=>intro _ hc;cases hc
 rw[h1.1] at h
 obtain ⟨us,q1,q2⟩:=yAC (G:=G0 w) (fun b hb=>hb) fuel k t [v] _ hp h (by simp[h1.2])
 obtain ⟨x,rfl,hR⟩:=ht us q2
 exact ⟨x,q1.2.1 0 _ _ rfl rfl,hR⟩
theorem VRs.nil (G:Gh):VRs G [] []:=⟨rfl,fun j u x h=>by simp at h⟩
theorem ynA {f:FuncId} {F:AFn} (hF:trF P f=some F) {vs:Array Value} {Q:Ending→World→Prop} (h:yiE P f vs w Q):Calls P f vs w Q:=by
 unfold yiE at h
 rw[yq6 hF vs w] at h
 exact h
end
end Go.AV
end
noncomputable section
namespace Go.AV
open Go.RowKit
theorem yaA {b:Bool} {x y:Prop} (h:b=true->x) (k:b=false->y):cnd b x y:=⟨h,k⟩
theorem yai {b:Bool} {x y:Prop} (hb:b=true) (h:x):cnd b x y:=⟨fun _=>h,fun e=>(by rw[hb] at e;cases e)⟩
theorem yaf {b:Bool} {x y:Prop} (hb:b=false) (h:y):cnd b x y:=⟨fun e=>(by rw[hb] at e;cases e),fun _=>h⟩
theorem wrap64 {n:Int} (h: -9223372036854775808≤n) (k:n<9223372036854775808):IntKind.i64.wrap n=n:=by
 simp[IntKind.wrap,IntKind.bits,IntKind.signed];omega
theorem yia {n:Int} (h:0≤n) (k:n<18446744073709551616):IntKind.u64.wrap n=n:=by
 simp[IntKind.wrap,IntKind.bits,IntKind.signed];omega
theorem yyR {n:Int} (h:0≤n) (k:n<256):IntKind.u8.wrap n=n:=by
 simp[IntKind.wrap,IntKind.bits,IntKind.signed];omega
theorem ydy (n:Int):IntKind.i64.wrap n=if n % 18446744073709551616≥9223372036854775808 then n % 18446744073709551616-18446744073709551616 else n % 18446744073709551616:=by
 simp[IntKind.wrap,IntKind.bits,IntKind.signed]
theorem ydQ (n:Int):IntKind.u64.wrap n=n % 18446744073709551616:=by
 simp[IntKind.wrap,IntKind.bits,IntKind.signed]
theorem yqt (n:Int):IntKind.u8.wrap n=n % 256:=by
 simp[IntKind.wrap,IntKind.bits,IntKind.signed]
theorem ypQ (n:Int): -9223372036854775808≤IntKind.i64.wrap n∧IntKind.i64.wrap n<9223372036854775808:=by
 rw[ydy];split<;>omega
theorem ytH (n:Int):bits .and .i64 n 1=n % 2:=by
 have h1:(BitVec.ofInt 64 1).toNat=2^1-1:=by decide
 have key:(BitVec.ofInt 64 n&&&BitVec.ofInt 64 1).toNat=(n % ((2^64:Nat):Int)).toNat % 2^1:=by
  rw[BitVec.toNat_and,BitVec.toNat_ofInt,h1,Nat.and_two_pow_sub_one_eq_mod]
 show IntKind.i64.wrap ((BitVec.ofInt 64 n&&&BitVec.ofInt 64 1).toNat:Nat)=n % 2
 rw[key,ydy]
 split<;>omega
theorem wf64 {n:Int}:(Lit.int .i64 n).wf=true↔ -9223372036854775808≤n∧n≤9223372036854775807:=by
 simp[Lit.wf,IntKind.min,IntKind.max,IntKind.signed,IntKind.bits]
theorem wfu8 {n:Int}:(Lit.int .u8 n).wf=true↔0≤n∧n≤255:=by
 simp[Lit.wf,IntKind.min,IntKind.max,IntKind.signed,IntKind.bits]
theorem yfS:∀x:List UInt8,Op.bytesLess x x=false
 | []=>rfl
 |a::x=>by simp[Op.bytesLess,yfS x]
theorem yjw:∀x y z:List UInt8,Op.bytesLess x y=true→Op.bytesLess y z=true→Op.bytesLess x z=true
 |_,[],_,h,_=>by simp[Op.bytesLess] at h
 |_,_::_,[],_,k=>by simp[Op.bytesLess] at k
 | [],_::_,_::_,_,_=>rfl
 | a::x,b::y,c::z,h,k=>by
   simp only[Op.bytesLess,Bool.or_eq_true,Bool.and_eq_true,decide_eq_true_eq,beq_iff_eq,UInt8.lt_iff_toNat_lt,<-UInt8.toNat_inj] at*
   rcases h with h|⟨h,h'⟩<;>rcases k with k|⟨k,k'⟩
   ·exact .inl (by omega)
   ·exact .inl (by omega)
   ·exact .inl (by omega)
   ·exact .inr ⟨by omega,yjw x y z h' k'⟩
theorem ylO:∀x y:List UInt8,Op.bytesLess x y=true∨x=y∨Op.bytesLess y x=true
 | [],[]=> .inr (.inl rfl)
 | [],_::_=> .inl rfl
 |_::_,[]=> .inr (.inr rfl)
 | a::x,b::y=>by
   simp only[Op.bytesLess,Bool.or_eq_true,Bool.and_eq_true,decide_eq_true_eq,beq_iff_eq,UInt8.lt_iff_toNat_lt,List.cons.injEq,<-UInt8.toNat_inj]
   rcases Nat.lt_trichotomy a.toNat b.toNat with h|h|h
   ·exact .inl (.inl h)
   ·rcases ylO x y with k|k|k
    ·exact .inl (.inr ⟨h,k⟩)
    ·exact .inr (.inl ⟨h,k⟩)
    ·exact .inr (.inr (.inr ⟨h.symm,k⟩))
   ·exact .inr (.inr (.inl h))
theorem lp1 {α:Type} {L:(α→Prop)→α→Prop} (I:α→Prop) (m:α→Nat) (step:∀X a,I a→(∀b,I b→m b<m a→X b)→L X a) {a:α} (ha:I a):∀X:α→Prop,(∀x,L X x→X x)→X a:=by
 intro X hX
 have key:∀n a,I a→m a=n→X a:=by
  intro n
  induction n using Nat.strongRecOn with
  |_ n ih=>intro a ha hm;exact hX a (step X a ha fun b hb hlt=>ih (m b) (by omega) b hb rfl)
 exact key _ a ha rfl
theorem lp2 {α β:Type} {L:(α→β→Prop)→α→β→Prop} (I:α→β→Prop) (m:α→β→Nat) (step:∀X a b,I a b→(∀a' b',I a' b'→m a' b'<m a b→X a' b')→L X a b) {a:α} {b:β} (ha:I a b):∀X:α→β→Prop,(∀x y,L X x y→X x y)→X a b:=by
 intro X hX
 have key:∀n a b,I a b→m a b=n→X a b:=by
  intro n
  induction n using Nat.strongRecOn with
  |_ n ih=>intro a b ha hm;exact hX a b (step X a b ha fun a' b' hb hlt=>ih (m a' b') (by omega) a' b' hb rfl)
 exact key _ a b ha rfl
theorem lp3 {α β γ:Type} {L:(α→β→γ→Prop)→α→β→γ→Prop} (I:α→β→γ→Prop) (m:α→β→γ→Nat) (step:∀X a b c,I a b c→(∀a' b' c',I a' b' c'→m a' b' c'<m a b c→X a' b' c')→L X a b c) {a:α} {b:β} {c:γ} (ha:I a b c):∀X:α→β→γ→Prop,(∀x y z,L X x y z→X x y z)→X a b c:=by
 intro X hX
 have key:∀n a b c,I a b c→m a b c=n→X a b c:=by
  intro n
  induction n using Nat.strongRecOn with
  |_ n ih=>intro a b c ha hm;exact hX a b c (step X a b c ha fun a' b' c' hb hlt=>ih (m a' b' c') (by omega) a' b' c' hb rfl)
 exact key _ a b c ha rfl
end Go.AV
end
noncomputable section
namespace Go.AV
open Go.RowKit Go.RG Go.Lib
inductive RS where
 |rdy
 |busy
 |ret
 |ex (id:Nat)
inductive DV (K:Nat→Type) where
 |i (n:Int)
 |b (b:Bool)
 |s (s:Str)
 |l (e:Nat) (l:List (K e))
 |v (t:Nat) (x:K t)
structure FV (K:Nat→Type) where
 av:AV
 W:List (DV K)->List (DV K)->Prop
inductive AD (K:Nat→Type) where
 |d (x:DV K)
 |f (F:FV K)
inductive TV (K:Nat→Type) where
 |un
 |lb (b:Bool)
 |bl (b:Bool)
 |li (k:IntKind) (n:Int)
 |it (k:IntKind) (n:Int)
 |st (s:Str)
 |agg (cs:List (TV K))
 |tup (cs:List (TV K))
 |nil
 |em
 |sl (e:Nat) (l:List (K e))
 |rw (s c:Nat)
 |px (s c off:Nat)
 |pr (e s c i of:Nat)
 |ep (e:Nat) (l:List (K e)) (i of:Nat)
 |gs (l:List Str) (i:Nat)
 |nptr
 |fn (f:Nat) (a c:List (TV K))
 |fv (ps rs:List Nat) (F:FV K)
 |yl (r:Nat)
 |cn (id:Nat) (v:TV K)
inductive TB (K:Nat→Type) where
 |box (e:Nat) (cs:List (TV K))
 |row (e:Nat) (l:List (K e))
 |lrow (e n:Nat) (cs:List (TV K))
structure Ty (K:Nat→Type) (t:Nat) where
 g:Bool
 c:K t->List (TV K)
 rd:List (TV K)->Option (K t)
 tb:Option (K t->UInt8)
 ob:Option (UInt8->K t)
 fl:Bool
structure Cx (K:Nat→Type) where
 T:∀t,Ty K t
 E:∀t,Enc (K t)
structure TS (K:Nat→Type) where
 fr:List (Nat×TV K)
 od:List (Nat×Option (TB K))
 nw:List (Nat×Option (TB K))
 rg:List (Nat×TV K)
 h:List RS
variable {K:Nat->Type}
def TV.s:TV K→TV K
 | .cn _ v=>v
 |v=>v
def lkT:List (Nat×TV K)→Nat→TV K
 | [],_=> .un
 | p::r,t=>match Nat.beq p.1 t with
   |true=>p.2
   |false=>lkT r t
def lkB:List (Nat×Option (TB K))→Nat→Option (TB K)
 | [],_=>none
 | p::r,t=>match Nat.beq p.1 t with
   |true=>p.2
   |false=>lkB r t
def memB:List (Nat×Option (TB K))→Nat→Bool
 | [],_=>false
 |p::r,t=>Nat.beq p.1 t||memB r t
def TS.tb (ts:TS K) (s c:Nat):Option (TB K):=match Nat.beq c 1 with
 |true=>lkB ts.od s
 | false=>match Nat.beq c 2 with
   |true=>lkB ts.nw s
   |false=>none
def TS.setb (ts:TS K) (s c:Nat) (b:Option (TB K)):TS K:=match Nat.beq c 1 with
 |true=>⟨ts.fr,(s,b)::ts.od,ts.nw,ts.rg,ts.h⟩
 |false=>⟨ts.fr,ts.od,(s,b)::ts.nw,ts.rg,ts.h⟩
def TS.put (ts:TS K) (d:Option Nat) (v:TV K):TS K:=match d with
 |some d=>⟨(d,v)::ts.fr,ts.od,ts.nw,ts.rg,ts.h⟩
 |none=>ts
def yqD:List AV→Option (List Str)
 | []=>some []
 | .st s::r=>match yqD r with
   |some l=>some (s::l)
   |none=>none
 |_=>none
mutual
def cvA:AV→TV K
 | .bl b=> .lb b
 | .it k n=> .li k n
 | .st s=> .st s
 | .agg cs=> .agg (cvAs cs)
 | .tup cs=> .tup (cvAs cs)
 | .sl true 0 []=> .nil
 | .nptr=> .nptr
 | .fn (.func f) [] []=> .fn f [] []
 | .ep cs off=>match yqD cs with
   |some l=> .gs l off
   |none=> .un
 |_=> .un
def cvAs:List AV→List (TV K)
 | []=> []
 |v::r=>cvA v::cvAs r
end
def tea (fr:List (Nat×TV K)):AOpd→TV K
 | .t n=>lkT fr n
 | .c v=>cvA v
def tev (fr:List (Nat×TV K)) (x:AOpd):TV K:=(tea fr x).s
def tcl (v:TV K):List (TV K):=match v.s with
 | .agg cs=>cs
 |_=> [v]
def yvi:TV K→Bool
 | .agg _| .tup _| .un| .cn _ _=>false
 |_=>true
def tone:TV K→Bool
 | .cn _ v=>yvi v
 |v=>yvi v
def twk (v:TV K):TV K:=match v.s with
 | .nil=> .em
 | .agg _=> .un
 | .tup _=> .un
 | .fn _ _ _=> .un
 | .rw _ _=> .un
 |w=>w
def tint:TV K→Option (IntKind×Int)
 | .it k n=>some (k,n)
 | .li k n=>some (k,n)
 |_=>none
def tlit:TV K→Bool
 | .li _ _=>true
 |_=>false
def tbo:TV K→Option Bool
 | .bl b=>some b
 | .lb b=>some b
 |_=>none
abbrev TR0 (K:Nat->Type):=Option (List Prop×TV K)
def tnum (op:BinOp) (k:IntKind) (a b:Int) (lit:Bool):TR0 K:=match op with
 | .add=>some ([], .it k (k.wrap (a+b)))
 | .sub=>some ([], .it k (k.wrap (a-b)))
 | .mul=>some ([], .it k (k.wrap (a*b)))
 | .quo=>match lit with
   |true=>if b=0 then none else some ([], .it k (k.wrap (a.tdiv b)))
   |false=>some ([b≠0], .it k (k.wrap (a.tdiv b)))
 | .rem=>match lit with
   |true=>if b=0 then none else some ([], .it k (a.tmod b))
   |false=>some ([b≠0], .it k (a.tmod b))
 | .and=>some ([], .it k (bits .and k a b))
 | .or=>some ([], .it k (bits .or k a b))
 | .xor=>some ([], .it k (bits .xor k a b))
 | .lss=>some ([], .bl (decide (a<b)))
 | .leq=>some ([], .bl (decide (a<=b)))
 | .gtr=>some ([], .bl (decide (b<a)))
 | .geq=>some ([], .bl (decide (b<=a)))
 |_=>none
def tsh (op:BinOp) (k:IntKind) (a b:Int):Option (TV K):=match op with
 | .shl=>some (.it k (k.wrap (a*2^(min b.toNat k.bits))))
 | .shr=>some (.it k (a.fdiv (2^(min b.toNat k.bits))))
 |_=>none
def tshi (op:BinOp) (k:IntKind) (a b:Int) (lit:Bool):TR0 K:=match tsh op k a b with
 | some v=>match lit with
   |true=>if b<0 then none else some ([],v)
   |false=>some ([¬b<0],v)
 |none=>none
def tstr (op:BinOp) (a b:Str):TR0 K:=match op with
 | .add=>some ([a.length+b.length<=9223372036854775807], .st (a++b))
 | .lss=>some ([], .bl (Op.bytesLess a b))
 | .leq=>some ([], .bl (Op.bytesLess a b||a==b))
 | .gtr=>some ([], .bl (!(Op.bytesLess a b||a==b)))
 | .geq=>some ([], .bl (!Op.bytesLess a b))
 |_=>none
def yC3:BinOp→Bool
 | .shl| .shr=>true
 |_=>false
def tbin (op:BinOp) (x y:TV K):TR0 K:=match x,y with
 | .st a, .st b=>tstr op a b
 | x,y=>match tint x,tint y with
   | some (k,a),some (k',b)=>match yC3 op with
     |true=>tshi op k a b (tlit y)
     |false=>if k=k' then tnum op k a b (tlit y) else none
   |_,_=>none
def teq1:Nat→TV K→TV K→Option Bool
 | 0,x,y=>match tbo x,tbo y with
   |some a,some b=>some (a==b)
   |_,_=>none
 | 1,x,y=>match tint x,tint y with
   |some (k,a),some (k',b)=>if k=k' then some (a==b) else none
   |_,_=>none
 |2, .st a, .st b=>some (a==b)
 |_,_,_=>none
def teq (g:Bool) (kind:Nat) (x y:TV K):TR0 K:=match kind with
 | 4=>match x,y with
   | .nil, .nil=>some ([], .lb (!g))
   |_,_=>none
 | 3=>match x,y with
   | .nptr, .nptr=>some ([], .lb (!g))
   |_,_=>none
 | k=>match teq1 k x y with
   |some b=>some ([], .bl (ngB g b))
   |none=>none
def teqL:List Nat→List (TV K)→List (TV K)→Option Bool
 | [],[],[]=>some true
 | k::ks,a::r,b::q=>match teq1 k a.s b.s,teqL ks r q with
   |some x,some y=>some (x&&y)
   |_,_=>none
 |_,_,_=>none
def yqj (cells:List (TV K)):List (Nat×Nat×TV K)→Option (List (TV K))
 | []=>some cells
 | (off,sz,v)::r=>match Nat.beq (tcl v).length sz&&Nat.ble (off+sz) cells.length&&(tcl v).all tone with
   |true=>yqj (cells.take off++tcl v++cells.drop (off+sz)) r
   |false=>none
def tbnd (fr:List (Nat×TV K)) (d:Int):Option AOpd→Option Int
 |none=>some d
 | some x=>match tint (tev fr x) with
   |some (_,n)=>some n
   |none=>none
def tmnL (mx:Bool) (k:IntKind) (a:Int):List (TV K)→Option (TV K)
 | []=>some (.it k a)
 | v::r=>match tint v with
   |some (k',b)=>if k'=k then tmnL mx k (match mx with|true=>if b>a then b else a|false=>if b<a then b else a) r else none
   |none=>none
def yxQ (ts:TS K) (s c:Nat) (v:TV K):TR0 K:=match ts.tb s c with
 |some _=>some ([],v)
 |none=>none
def tlvx (ts:TS K) (s c:Nat) (v:TV K):TR0 K:=match ts.tb s c with
 |some (.box _ _)=>some ([],v)
 |_=>none
def selI:List (TV K)→Option (IntKind×List Int)
 | []=>none
 | v ::r=>match tint v.s with
   | some (k,n)=>match r with
     | []=>some (k,[n])
     | _::_=>match selI r with
       |some (k',l)=>if k=k' then some (k,n::l) else none
       |none=>none
   |none=>none
def selS:List (TV K)→Option (List Str)
 | []=>some []
 | v::r=>match v.s,selS r with
   | .st s,some l=>some (s::l)
   |_,_=>none
def tsel (cs:List (TV K)) (len:Nat) (i:Int):TR0 K:=match selI cs with
 |some (k,l)=>some ([0<=i/\i<len], .it k ((l[i.toNat]?).getD 0))
 | none=>match selS cs with
   |some l=>some ([0<=i/\i<len], .st ((l[i.toNat]?).getD []))
   |none=>none
def tqv (ts:TS K) (u:AOp):TR0 K:=let fr:=ts.fr;match u with
 | .mv x=>some ([],tea fr x)
 | .bld z parts=>match yqj (cvAs z) (parts.map fun p=>(p.1,p.2.1,tea fr p.2.2)) with
   |some cs=>some ([], .agg cs)
   |none=>none
 | .nck x=>match tev fr x with
   | .px s c o=>tlvx ts s c (.px s c o)
   | .pr e s c i o=>yxQ ts s c (.pr e s c i o)
   | .ep e l i o=>some ([], .ep e l i o)
   | .gs l i=>some ([], .gs l i)
   | .fn f a c=>some ([], .fn f a c)
   | .fv ps rs F=>some ([], .fv ps rs F)
   |_=>none
 | .bin op x y=>tbin op (tev fr x) (tev fr y)
 | .eq g kind x y=>match tev fr x with
   | .px s c _=>match kind,tev fr y with
     |3, .nptr=>tlvx ts s c (.lb g)
     |_,_=>none
   |u=>teq g kind u (tev fr y)
 | .eqs g ks x y=>match tev fr x,tev fr y with
   | .agg a, .agg b=>match teqL ks a b with
     |some r=>some ([], .bl (ngB g r))
     |none=>none
   |_,_=>none
 | .un op x=>match op with
   | .neg=>match tint (tev fr x) with
     |some (k,n)=>some ([], .it k (k.wrap (0-n)))
     |none=>none
   | .not=>match tev fr x with
     | .lb b=>some ([], .lb (!b))
     | .bl b=>some ([], .bl (!b))
     |_=>none
   |_=>none
 | .cvi k x=>match tint (tev fr x) with
   |some (_,n)=>some ([], .it k (k.wrap n))
   |none=>none
 | .cvs x=>match tev fr x with
   | .st l=>some ([], .st l)
   |_=>none
 | .sls x lo hi=>match tev fr x with
   | .st l=>match tbnd fr 0 lo,tbnd fr l.length hi with
     |some a,some b=>some ([0<=a/\a<=b/\b<=l.length], .st ((l.drop a.toNat).take (b.toNat-a.toNat)))
     |_,_=>none
   |_=>none
 | .fad off x=>match tev fr x with
   | .px s c o=>tlvx ts s c (.px s c (o+off))
   | .pr e s c i o=>yxQ ts s c (.pr e s c i (o+off))
   | .ep e l i o=>some ([], .ep e l i (o+off))
   |_=>none
 | .fld g off sz x=>match tev fr x with
   | .agg cs=>match g with
     |true=>some ([], .agg ((cs.drop off).take sz))
     | false=>match cs[off]? with
       |some v=>some ([],v)
       |none=>none
   |_=>none
 | .iada len sz x i=>match tev fr x,tev fr i with
   | .px s c o, .li _ i=>if 0<=i/\i<len then tlvx ts s c (.px s c (o+i.toNat*sz)) else none
   | .gs l o,y=>match tint y with
     |some (_,i)=>some ([0<=i/\i<len], .gs l (o+i.toNat*sz))
     |none=>none
   |_,_=>none
 | .idxs x i=>match tev fr x,tint (tev fr i) with
   | .st l,some (_,i)=>some ([0<=i/\i<l.length], .it .u8 (bAt l i))
   |_,_=>none
 | .idxa g len sz x i=>match tev fr x,tev fr i with
   | .agg cs, .li _ i=>if 0≤i∧i<len then (match g with
     |true=>some ([], .agg ((cs.drop (i.toNat*sz)).take sz))
     | false=>match cs[i.toNat*sz]? with
       |some v=>some ([],v)
       |none=>none) else none
   | .agg cs, .it _ i=>match !g&&Nat.beq sz 1&&Nat.ble len cs.length with
     |true=>tsel cs len i
     |false=>none
   |_,_=>none
 | .ext x i=>match tev fr x with
   | .tup vs=>match vs[i]? with
     |some v=>some ([],v)
     |none=>none
   |_=>none
 | .lens x=>match tev fr x with
   | .st l=>some ([], .it .i64 (l.length:Int))
   |_=>none
 | .cpn x=>match tev fr x with
   | .nil=>some ([], .li .i64 0)
   |_=>none
 | .mnx mx xs=>match xs with
   | []=>none
   | x ::r=>match tint (tev fr x) with
     | some (k,a)=>match tmnL mx k a (r.map (tev fr)) with
       |some v=>some ([],v)
       |none=>none
     |none=>none
 | .mkf (.func f) a c=>some ([], .fn f (a.map (tea fr)) (c.map (tea fr)))
 |_=>none
def andL:List Prop→Prop→Prop
 | [],p=>p
 |c::r,p=>c/\andL r p
def ifL (b:Bool) (c:Prop):List Prop:=match b with
 |true=> []
 |false=> [c]
def ylv (e e':Nat) (l:List (K e)):Option (List (K e')):=if h:e=e' then some (h▸l) else none
def yuH {T:Type} (mk:List (TV K)→Option T) (sz:Nat):Nat→List (TV K)→Option (List T)
 |0,_=>some []
 | n+1,cs=>match mk ((cs.take sz).map TV.s),yuH mk sz n (cs.drop sz) with
   |some x,some r=>some (x::r)
   |_,_=>none
def trow (C:Cx K) (e:Nat) (b:Option (TB K)):Option (List (K e)):=match b with
 |some (.row e' l)=>ylv e' e l
 | some (.lrow e' n cs)=>match Nat.beq e' e with
   |true=>yuH (C.T e).rd (C.E e).sz n cs
   |false=>none
 |_=>none
def tbe:Option (TB K)→Nat
 |some (.row e _)=>e
 |some (.lrow e _ _)=>e
 |_=>0
def tln:Option (TB K)→Option Nat
 |some (.row _ l)=>some l.length
 |some (.lrow _ n _)=>some n
 |_=>none
def tfew:Option (TB K)→Bool
 |some (.lrow _ n _)=>Nat.ble n 1000
 |_=>false
def tldc (g:Bool) (sz off:Nat) (cs:List (TV K)):Option (TV K):=match g with
 | true=>match Nat.ble (off+sz) cs.length with
   |true=>some (.agg ((cs.drop off).take sz))
   |false=>none
 |false=>cs[off]?
def wpo' {α:Type} (o:Option α) (X:α→Prop):Prop:=match o with
 |some x=>X x
 |none=>False
def tld (C:Cx K) (g:Bool) (sz:Nat) (ts:TS K) (X:TV K→Prop):TV K→Prop
 | .px s c off=>match ts.tb s c with
   |some (.box _ cs)=>wpo' (tldc g sz off cs) X
   |some (.lrow _ _ cs)=>wpo' (tldc g sz off cs) X
   |_=>False
 | .pr e s c i of=>wpo' (trow C e (ts.tb s c)) fun l=>∃y:K e,l[i]? =some y/\wpo' (tldc g sz of ((C.T e).c y)) X
 | .ep e l i of=>∃y:K e,l[i]? =some y/\wpo' (tldc g sz of ((C.T e).c y)) X
 | .gs l i=>match g with
   | true=>match Nat.beq i 0&&Nat.beq sz l.length with
     |true=>X (.agg (l.map .st))
     |false=>False
   |false=>∃y:Str,l[i]? =some y/\X (.st y)
 |_=>False
def yi5 (cs:List (TV K)) (off:Nat) (vs:List (TV K)):List (TV K):=cs.take off++vs++cs.drop (off+vs.length)
def tsto (C:Cx K) (sz:Nat) (ts:TS K) (vs:List (TV K)) (X:TS K→Prop):TV K→Prop
 | .px s c off=>match ts.tb s c with
   | some (.box e cs)=>match Nat.beq vs.length sz&&vs.all tone&&Nat.ble (off+sz) cs.length with
     |true=>X (ts.setb s c (some (.box e (yi5 cs off vs))))
     |false=>False
   |_=>False
 | .pr e s c i of=>match Nat.beq vs.length sz&&vs.all tone&&Nat.ble (of+sz) (C.E e).sz with
   |true=>wpo' (trow C e (ts.tb s c)) fun l=>∃y:K e,l[i]? =some y/\wpo' ((C.T e).rd ((yi5 ((C.T e).c y) of vs).map TV.s)) fun y'=>X (ts.setb s c (some (.row e (l.set i y'))))
   |false=>False
 |_=>False
def yhB (ts:TS K) (d:Nat) (p:Prop):Prop:=match memB ts.nw d with
 |true=>False
 |false=>p
def tnew (ts:TS K) (d:Option Nat) (b:TB K) (v:Nat->TV K):TS K:=(ts.setb (site d) 2 (some b)).put d (v (site d))
def tiad (C:Cx K) (sz:Nat) (ts:TS K) (q:Int) (X:TV K→Prop):TV K→Prop
 | .sl e l=>match Nat.beq sz (C.E e).sz with
   |true=>0<=q/\q<l.length/\X (.ep e l q.toNat 0)
   |false=>False
 | .rw s c=>match Nat.beq sz (C.E (tbe (ts.tb s c))).sz with
   |true=>wpo' (trow C (tbe (ts.tb s c)) (ts.tb s c)) fun l=>0<=q/\q<l.length/\X (.pr (tbe (ts.tb s c)) s c q.toNat 0)
   |false=>False
 |_=>False
def tsrc (C:Cx K) (e:Nat) (ts:TS K):TV K→Option (List (K e))
 | .sl e' l=>ylv e' e l
 | .rw s c=>trow C e (ts.tb s c)
 | .nil=>some []
 | .em=>some []
 |_=>none
def yqw (ts:TS K):TV K→Bool
 | .rw s c=>tfew (ts.tb s c)
 | .nil=>true
 | .em=>true
 |_=>false
def trw (s:Nat):TV K:= .rw s 2
def tapp (C:Cx K) (e:Nat) (d:Option Nat) (ts:TS K) (l2:List (K e)) (c2:List Prop) (X:TS K→Prop):TV K→Prop
 | .nil=>yhB ts (site d) (andL c2 (X (tnew ts d (.row e l2) trw)))
 | .rw s c=>yhB ts (site d) (wpo' (trow C e (ts.tb s c)) fun l=>andL (ifL (tfew (ts.tb s c)) (l.length<=1000000000)) (andL c2 (X (tnew (ts.setb s c none) d (.row e (l++l2)) trw))))
 |_=>False
def tnwf (ts:TS K) (d:Option Nat) (v:TV K):TS K:=(ts.setb (site d) 2 none).put d v
def tapf (C:Cx K) (e:Nat) (d:Option Nat) (ts:TS K) (l2:List (K e)) (c2:List Prop) (X:TS K→Prop):TV K→Prop
 | .nil=>yhB ts (site d) (andL c2 (X (tnwf ts d (.sl e l2))))
 | .rw s c=>yhB ts (site d) (wpo' (trow C e (ts.tb s c)) fun l=>andL (ifL (tfew (ts.tb s c)) (l.length<=1000000000)) (andL c2 (X (tnwf (ts.setb s c none) d (.sl e (l++l2))))))
 |_=>False
mutual
def yiw (s c:Nat):TV K→TV K
 | .agg cs=> .agg (yj7 s c cs)
 | .tup cs=> .tup (yj7 s c cs)
 | .rw s' c'=>match Nat.beq s s'&&Nat.beq c c' with
   |true=> .un
   |false=> .rw s' c'
 | .pr e s' c' i o=>match Nat.beq s s'&&Nat.beq c c' with
   |true=> .un
   |false=> .pr e s' c' i o
 | .fn _ _ _=> .un
 | .cn i v=> .cn i v
 |v=>v
def yj7 (s c:Nat):List (TV K)→List (TV K)
 | []=> []
 |v::r=>yiw s c v::yj7 s c r
end
def yd7 {T:Type} (l:List T) (a b:Int):List T:=(l.drop a.toNat).take (b.toNat-a.toNat)
def mapB (f:TV K→TV K):Option (TB K)→Option (TB K)
 |some (.box e cs)=>some (.box e (cs.map f))
 |some (.lrow e n cs)=>some (.lrow e n (cs.map f))
 |b=>b
def mapF (f:TV K→TV K):List (Nat×TV K)→List (Nat×TV K)
 | []=> []
 |p::r=>(p.1,f p.2)::mapF f r
def mapM (f:TV K→TV K):List (Nat×Option (TB K))→List (Nat×Option (TB K))
 | []=> []
 |p::r=>(p.1,mapB f p.2)::mapM f r
def TS.mapv (ts:TS K) (f:TV K->TV K):TS K:=⟨mapF f ts.fr,mapM f ts.od,mapM f ts.nw,ts.rg,ts.h⟩
inductive PD where
 |v (t:Nat)
 |p (t:Nat)
 |f (ps rs:List Nat)
structure Sp (K:Nat→Type) where
 f:Nat
 ps:List PD
 rs:List Nat
 W:List (AD K)->List (DV K)->Prop
def RTy (K:Nat→Type):List Nat→Type
 | []=>Prop
 |r::rs=>K r->RTy K rs
def FTy (K:Nat→Type) (rs:List Nat):List Nat→Type
 | []=>RTy K rs
 |p::ps=>K p->FTy K rs ps
def PTy (K:Nat→Type):PD→Type
 | .v t=>K t
 | .p t=>K t
 | .f az bs=>FTy K bs az
def WTy (K:Nat→Type) (rs:List Nat):List PD→Type
 | []=>RTy K rs
 |p::ps=>PTy K p->WTy K rs ps
def curR:(rs:List Nat)→(List (DV K)→Prop)→RTy K rs
 | [],W=>W []
 |r::rs,W=>fun x=>curR rs fun b=>W (.v r x::b)
def curF (rs:List Nat):(ps:List Nat)→(List (DV K)→List (DV K)→Prop)→FTy K rs ps
 | [],W=>curR rs (W [])
 |p::ps,W=>fun x=>curF rs ps fun a b=>W (.v p x::a) b
def apR:(rs:List Nat)→RTy K rs→List (DV K)→Prop
 | [],w,[]=>w
 |r::rs,w, .v t x::b=>if h:t=r then apR rs (w (h▸x)) b else False
 |_,_,_=>False
def outP:(p:PD)→AD K→Option (PTy K p)
 | .v p, .d (.v t x)=>if h:t=p then some (h▸x) else none
 | .p p, .d (.v t x)=>if h:t=p then some (h▸x) else none
 | .f az bs, .f F=>some (curF bs az F.W)
 |_,_=>none
def appW (rs:List Nat):(ps:List PD)→WTy K rs ps→List (AD K)→List (DV K)→Prop
 | [],w,[],b=>apR rs w b
 | p::ps,w,x::a,b=>match outP p x with
   |some y=>appW rs ps (w y) a b
   |none=>False
 |_,_,_,_=>False
def lkS:List (Sp K)→Nat→Option (Sp K)
 | [],_=>none
 | p::r,f=>match Nat.beq p.f f with
   |true=>some p
   |false=>lkS r f
def outV (C:Cx K) (t:Nat) (v:TV K):Option (K t):=match (C.T t).g,v.s with
 |true, .agg cs=>(C.T t).rd (cs.map TV.s)
 |true,_=>none
 |false, .agg _=>none
 |false,w=>(C.T t).rd [w]
def out1 (C:Cx K):PD→TV K→Option (AD K)
 | .v t,v=>match outV C t v with
   |some x=>some (.d (.v t x))
   |none=>none
 | .p t,v=>match v.s with
   | .ep e [x] 0 0=>if h:e=t then some (.d (.v t (h▸x))) else none
   |_=>none
 | .f _ _,_=>none
def outD (C:Cx K):List PD→List (TV K)→Option (List (AD K))
 | [],[]=>some []
 | p::ps,v::vs=>match out1 C p v,outD C ps vs with
   |some x,some r=>some (x::r)
   |_,_=>none
 |_,_=>none
def yCT (C:Cx K) (sp:Sp K) (np:Nat) (a c:List (TV K)):Option (List (AD K)×List (AD K)):=
 match outD C (sp.ps.take a.length) a,outD C (sp.ps.drop (a.length+np)) c with
 |some x,some y=>some (x,y)
 |_,_=>none
mutual
def tAV (C:Cx K):TV K→AV
 | .lb b=> .bl b
 | .bl b=> .bl b
 | .li k n=> .it k n
 | .it k n=> .it k n
 | .st s=> .st s
 | .agg cs=> .agg (tAVs C cs)
 | .tup cs=> .tup (tAVs C cs)
 | .nil=> .sl false 0 []
 | .em=> .sl false 0 []
 | .sl e l=>slA (C.E e) l
 | .ep e l i of=> .ep (cl (C.E e) l) (i*(C.E e).sz+of)
 | .gs l i=> .ep (l.map .st) i
 | .nptr=> .nptr
 | .fn f a c=> .fn (.func f) (tAVs C a) (tAVs C c)
 | .fv _ _ F=>F.av
 | .yl r=> .yld r
 | .cn _ v=>tAV C v
 |_=> .un
def tAVs (C:Cx K):List (TV K)→List AV
 | []=> []
 |v::r=>tAV C v::tAVs C r
end
def allV:List PD→Bool
 | []=>true
 | .v _::r=>allV r
 |_=>false
mutual
def ybi:TV K→Bool
 | .agg cs=>ybQ cs
 | .tup cs=>ybQ cs
 | .fn _ a c=>ybQ a&&ybQ c
 | .rw _ _| .px _ _ _| .pr _ _ _ _ _| .cn _ _| .un=>false
 |_=>true
def ybQ:List (TV K)→Bool
 | []=>true
 |v::r=>ybi v&&ybQ r
end
def yvu (C :Cx K) (Φ:List (Sp K)):PD→TV K→Option (AD K)
 | .f ps _,v=>match v.s with
   | .fv _ _ F=>some (.f F)
   | .fn f a c=>match lkS Φ f with
     | some sp=>match yCT C sp ps.length a c with
       | some (x,y)=>match allV ((sp.ps.drop a.length).take ps.length)&&ybQ a&&ybQ c with
         | true=>some (.f ⟨.fn (.func f) (tAVs C a) (tAVs C c),fun e r=>match Nat.beq e.length ps.length with
           |true=>sp.W (x++e.map .d++y) r
           |false=>False⟩)
         |false=>none
       |none=>none
     |none=>none
   |_=>none
 |p,v=>out1 C p v
def outA (C:Cx K) (Φ:List (Sp K)):List PD→List (TV K)→Option (List (AD K))
 | [],[]=>some []
 | p::ps,v::vs=>match yvu C Φ p v,outA C Φ ps vs with
   |some x,some r=>some (x::r)
   |_,_=>none
 |_,_=>none
def inV (C:Cx K) (t:Nat) (x:K t):TV K:=match (C.T t).g with
 |true=> .agg ((C.T t).c x)
 | false=>match (C.T t).c x with
   | [v]=>v
   |_=> .un
def exR (C:Cx K):List Nat→(List (DV K)→List (TV K)→Prop)→Prop
 | [],p=>p [] []
 |t::r,p=>∃z:K t,exR C r fun a b=>p (.v t z::a) (inV C t z::b)
def tres:List (TV K)→TV K
 | [v]=>v
 |vs=> .tup vs
def twf (C:Cx K) (sp:Sp K) (env:List (AD K)) (X:TV K->Prop):Prop:=exR C sp.rs fun rs vs=>sp.W env rs/\X (tres vs)
def yrK (C:Cx K):TS K→List (TV K)→Option (List (TV K)×TS K)
 |ts,[]=>some ([],ts)
 | ts, v::r=>match v.s with
   | .rw s c=>match trow C (tbe (ts.tb s c)) (ts.tb s c) with
     | some l=>match yrK C (ts.setb s c none) r with
       |some (ws,ts')=>some (.sl (tbe (ts.tb s c)) l::ws,ts')
       |none=>none
     |none=>none
   | _=>match yrK C ts r with
     |some (ws,ts')=>some (v::ws,ts')
     |none=>none
def vt1 (C:Cx K) (ts:TS K) (v:TV K):TV K:=match v.s with
 | .rw s c=>match trow C (tbe (ts.tb s c)) (ts.tb s c) with
   |some l=> .sl (tbe (ts.tb s c)) l
   |none=> .un
 |_=>v
def vtV (C:Cx K) (ts:TS K) (v:TV K):TV K:=match v.s with
 | .agg cs=> .agg (cs.map (vt1 C ts))
 |_=>vt1 C ts v
def flR (C:Cx K) (sp:Sp K):Bool:=sp.rs.all fun t=>(C.T t).fl
def flS (C:Cx K) (Φ:List (Sp K)) (f:Nat):Bool:=match lkS Φ f with
 |some sp=>flR C sp
 |none=>false
def yxj (C:Cx K) (Φ:List (Sp K)) (ts:TS K) (d:Option Nat) (f:Nat) (vs:List (TV K)) (X:TS K→Prop):Prop:=
 match lkS Φ f with
 | some sp=>match flR C sp with
   | true=>match outA C Φ sp.ps (vs.map (vtV C ts)) with
     |some env=>twf C sp env fun v=>X (ts.put d v)
     |none=>False
   | false=>match yrK C ts vs with
     | some (ws,ts')=>match outA C Φ sp.ps ws with
       |some env=>twf C sp env fun v=>X (ts'.put d v)
       |none=>False
     |none=>False
 |none=>False
def adD:AD K→Option (DV K)
 | .d y=>some y
 | .f _=>none
def yBb (C:Cx K) (ts:TS K) (d:Option Nat) (F:FV K) (ps rs:List Nat) (vs:List (TV K)) (X:TS K→Prop):Prop:=
 match yrK C ts vs with
 | some (ws,ts')=>match outD C (ps.map .v) ws with
   |some env=>exR C rs fun r us=>F.W (env.filterMap adD) r/\X (ts'.put d (tres us))
   |none=>False
 |none=>False
mutual
def rnV (A:Nat→Nat→Option (TV K)) (B:Nat→Nat→Option Nat):TV K→TV K
 | .agg cs=> .agg (rnVs A B cs)
 | .tup cs=> .tup (rnVs A B cs)
 | .fn f a c=> .fn f (rnVs A B a) (rnVs A B c)
 | .rw s c=>match A s c with
   |some w=>w
   |none=> .un
 | .px s c o=>match B s c with
   |some s1=> .px s1 1 o
   |none=> .un
 | .pr e s c i o=>match A s c with
   |some (.rw s1 _)=> .pr e s1 1 i o
   |_=> .un
 |v=>v
def rnVs (A:Nat→Nat→Option (TV K)) (B:Nat→Nat→Option Nat):List (TV K)→List (TV K)
 | []=> []
 |v::r=>rnV A B v::rnVs A B r
end
def nwL:List (Nat×Option (TB K))→List (Nat×Option (TB K))
 | []=> []
 | p::r=>match Nat.ble 2000000 p.1 with
   |true=>nwL r
   |false=>p::nwL r
def erN (nw:List (Nat×Option (TB K))) (s c:Nat):Option Nat:=match memB nw s with
 | true=>match Nat.beq c 2 with
   |true=>some s
   |false=>none
 | false=>match Nat.beq c 1 with
   |true=>some s
   |false=>none
def erA (ts:TS K) (s c:Nat):Option (TV K):=match tln (ts.tb s c) with
 | some _=>match erN (nwL ts.nw) s c with
   |some s=>some (.rw s 1)
   |none=>none
 |none=>none
def erB (ts:TS K) (s c:Nat):Option Nat:=match ts.tb s c with
 |some (.box _ _)=>erN (nwL ts.nw) s c
 |_=>none
def er (ts:TS K):TS K:=⟨mapF (rnV (erA ts) (erB ts)) ts.fr,mapM (rnV (erA ts) (erB ts)) (nwL ts.nw++ts.od),[],ts.rg,ts.h⟩
def fzS (ts:TS K) (s0:Nat) (w:TV K) (s c:Nat):Option (TV K):=match Nat.beq c 1 with
 | true=>match Nat.beq s s0 with
   |true=>some w
   | false=>match tln (ts.tb s 1) with
     |some _=>some (.rw s 1)
     |none=>none
 |false=>none
def fzB (ts:TS K) (s c:Nat):Option Nat:=match Nat.beq c 1,ts.tb s 1 with
 |true,some (.box _ _)=>some s
 |_,_=>none
def fz (C:Cx K) (ts:TS K) (s:Nat):TS K:=match ts.nw,trow C (tbe (ts.tb s 1)) (ts.tb s 1) with
 | [],some l=>⟨mapF (rnV (fzS ts s (.sl (tbe (ts.tb s 1)) l)) (fzB ts)) ts.fr,(s,none)::mapM (rnV (fzS ts s (.sl (tbe (ts.tb s 1)) l)) (fzB ts)) ts.od,[],ts.rg,ts.h⟩
 |_,_=>ts
mutual
def rwsV:TV K→List Nat
 | .agg cs=>yue cs
 | .tup cs=>yue cs
 | .rw s _=> [s]
 |_=> []
def yue:List (TV K)→List Nat
 | []=> []
 |v::r=>rwsV v++yue r
end
def fzA (C:Cx K):Nat→List (TV K)→TS K→TS K
 |0,_,ts=>ts
 | n +1,vs,ts=>match yue vs with
   | []=>ts
   | s::_=>match ts.tb s 1 with
     |some (.lrow _ _ cs)=>fz C (fzA C n cs ts) s
     |_=>fz C ts s
inductive CT where
 |i
 |b
 |s
 |l (e:Nat)
 |v (t:Nat)
inductive Kd where
 |it (k:IntKind)
 |bl
 |st
 |sl (e:Nat)
 |v (t:Nat)
 |agg (l:List Kd)
 |row (s:Nat)
 |px (s off:Nat)
 |kp (id:Nat)
 |nil
 |np
 |fn (f:Nat) (a c:List Kd)
 |un
structure Tm where
 ks:List (Nat×Kd)
 bx:List (Nat×Nat×List Kd)
 rw:List (Nat×Nat)
structure RM where
 r:List (Nat×Option (Nat×Nat))
 b:List (Nat×(Nat×Nat))
def lkA {α:Type}:List (Nat×α)→Nat→Option α
 | [],_=>none
 | p::r,s=>match Nat.beq p.1 s with
   |true=>some p.2
   |false=>lkA r s
def yl6 (p q:Nat×Nat):Bool:=Nat.beq p.1 q.1&&Nat.beq p.2 q.2
def yCM:Option (Nat×Nat)→Option (Nat×Nat)→Bool
 |none,none=>true
 |some p,some q=>yl6 p q
 |_,_=>false
def addA {α:Type} (eq:α→α→Bool) (m:List (Nat×α)) (s:Nat) (p:α):Option (List (Nat×α)):=match lkA m s with
 |none=>some ((s,p)::m)
 | some q=>match eq p q with
   |true=>some m
   |false=>none
def addR (m:RM) (s:Nat) (p:Option (Nat×Nat)):Option (List (DV K)×RM):=match addA yCM m.r s p with
 |some r=>some ([],⟨r,m.b⟩)
 |none=>none
def addB (m:RM) (s:Nat) (p:Nat×Nat):Option (List (DV K)×RM):=match addA yl6 m.b s p with
 |some b=>some ([],⟨m.r,b⟩)
 |none=>none
mutual
def ctV:Kd→List CT
 | .it _=> [.i]
 | .bl=> [.b]
 | .st=> [.s]
 | .sl e=> [.l e]
 | .v t=> [.v t]
 | .agg l=>ctVs l
 | .fn _ a c=>ctVs a++ctVs c
 |_=> []
def ctVs:List Kd→List CT
 | []=> []
 |k::r=>ctV k++ctVs r
end
def ctT (τ:Tm):List CT:=(τ.ks.flatMap fun p=>ctV p.2)++(τ.bx.flatMap fun p=>ctVs p.2.2)++τ.rw.map fun p=> .l p.2
def rd1 (C:Cx K) (k:Kd) (v:TV K) (m:RM):Option (List (DV K)×RM):=match k with
 | .it k=>match tint v.s with
   |some (k',n)=>if k=k' then some ([.i n],m) else none
   |none=>none
 | .bl=>match tbo v.s with
   |some b=>some ([.b b],m)
   |none=>none
 | .st=>match v.s with
   | .st s=>some ([.s s],m)
   |_=>none
 | .sl e=>match v.s with
   | .sl e' l=>match ylv e' e l with
     |some l=>some ([.l e l],m)
     |none=>none
   | .nil=>some ([.l e []],m)
   | .em=>some ([.l e []],m)
   |_=>none
 | .v t=>match outV C t v with
   |some x=>some ([.v t x],m)
   |none=>none
 | .row s=>match v.s with
   | .rw s' c=>addR m s (some (s',c))
   | .nil=>addR m s none
   |_=>none
 | .px s off=>match v.s with
   | .px s' c off'=>match Nat.beq off off' with
     |true=>addB m s (s',c)
     |false=>none
   |_=>none
 | .kp id=>match v with
   | .cn id' _=>match Nat.beq id id' with
     |true=>some ([],m)
     |false=>none
   |_=>none
 | .nil=>match v.s with
   | .nil=>some ([],m)
   |_=>none
 | .np=>match v.s with
   | .nptr=>some ([],m)
   |_=>none
 | .un=>some ([],m)
 | .agg _=>none
 | .fn _ _ _=>none
mutual
def rdV (C:Cx K):Kd→TV K→RM→Option (List (DV K)×RM)
 | .agg l,v,m=>match v.s with
   | .agg vs=>rdVs C l vs m
   |_=>none
 | .fn f a c,v,m=>match v.s with
   | .fn f' a' c'=>match Nat.beq f f' with
     | true=>match rdVs C a a' m with
       | some (x,m)=>match rdVs C c c' m with
         |some (y,m)=>some (x++y,m)
         |none=>none
       |none=>none
     |false=>none
   |_=>none
 |k,v,m=>rd1 C k v m
def rdVs (C:Cx K):List Kd→List (TV K)→RM→Option (List (DV K)×RM)
 | [],[],m=>some ([],m)
 | k ::r,v::q,m=>match rdV C k v m with
   | some (a,m)=>match rdVs C r q m with
     |some (b,m)=>some (a++b,m)
     |none=>none
   |none=>none
 |_,_,_=>none
end
def rdS (C:Cx K) (fr:List (Nat×TV K)):List (Nat×Kd)→RM→Option (List (DV K)×RM)
 | [],m=>some ([],m)
 | p ::r,m=>match rdV C p.2 (lkT fr p.1) m with
   | some (a,m)=>match rdS C fr r m with
     |some (b,m)=>some (a++b,m)
     |none=>none
   |none=>none
def rdW (C:Cx K) (ks:List Kd) (cs:List (TV K)) (m:RM):Option (List (DV K)×RM):=match ks with
 | [.v t]=>match (C.T t).g with
   | true=>match outV C t (.agg cs) with
     |some x=>some ([.v t x],m)
     |none=>none
   |false=>rdVs C [.v t] cs m
 |ks=>rdVs C ks cs m
def rdB (C :Cx K) (ts:TS K):List (Nat×Nat×List Kd)→RM→Option (List (DV K)×RM)
 | [],m=>some ([],m)
 | p :: r, m=>match lkA m.b p.1 with
   | some q=>match ts.tb q.1 q.2 with
     | some (.box e cs)=>match Nat.beq e p.2.1 with
       | true=>match rdW C p.2.2 cs m with
         | some (a,m)=>match rdB C ts r m with
           |some (b,m)=>some (a++b,m)
           |none=>none
         |none=>none
       |false=>none
     |_=>none
   |_=>none
def rdR (C:Cx K) (ts:TS K) (m:RM):List (Nat×Nat)→Option (List (DV K))
 | []=>some []
 | p ::r=>match lkA m.r p.1 with
   |some none=>(rdR C ts m r).map fun b=> .l p.2 []::b
   | some (some q)=>match trow C p.2 (ts.tb q.1 q.2) with
     |some l=>(rdR C ts m r).map fun b=> .l p.2 l::b
     |none=>none
   |none=>none
def yxA:List (Nat×Nat)→Nat×Nat→Bool
 | [],_=>false
 |p::r,q=>yl6 p q||yxA r q
def plsR:List (Nat×Option (Nat×Nat))→List (Nat×Nat)
 | []=> []
 |(_,some p)::r=>p::plsR r
 |(_,none)::r=>plsR r
def yuK:List (Nat×Nat)→Bool
 | []=>true
 |p::r=> !yxA r p&&yuK r
def ywq (m:RM) (τ:Tm):Bool:=(m.b.all fun p=>τ.bx.any fun q=>Nat.beq q.1 p.1)&&(m.r.all fun p=>τ.rw.any fun q=>Nat.beq q.1 p.1)&&τ.bx.all fun p=>τ.rw.all fun q=> !Nat.beq p.1 q.1
def fixM (m:RM):Bool:=(m.b.all fun p=> !Nat.ble 2000000 p.1||yl6 p.2 (p.1,1))&&m.r.all fun p=> !Nat.ble 2000000 p.1||match p.2 with
 |some q=>yl6 q (p.1,1)
 |none=>false
def yxM:List (Nat×Nat×List Kd)→List (Nat×(Nat×Nat))
 | []=> []
 | p::r=>match Nat.ble 2000000 p.1 with
   |true=>(p.1,(p.1,1))::yxM r
   |false=>yxM r
def yx8:List (Nat×Nat)→List (Nat×Option (Nat×Nat))
 | []=> []
 | p::r=>match Nat.ble 2000000 p.1 with
   |true=>(p.1,some (p.1,1))::yx8 r
   |false=>yx8 r
def rdT (C:Cx K) (τ:Tm) (ts:TS K):Option (List (DV K)):=match rdS C ts.fr τ.ks ⟨yx8 τ.rw,yxM τ.bx⟩ with
 | some (a,m)=>match rdB C ts τ.bx m with
   | some (b,m)=>match rdR C ts m τ.rw,yuK (plsR m.r++m.b.map (·.2))&&ywq m τ&&fixM m with
     |some c,true=>some (a++b++c)
     |_,_=>none
   |none=>none
 |none=>none
def lkR:List (Nat×TV K)→Nat→Option (TV K)
 | [],_=>none
 | p::r,t=>match Nat.beq p.1 t with
   |true=>some p.2
   |false=>lkR r t
mutual
def bdV (C:Cx K) (rg:List (Nat×TV K)):Kd→List (DV K)→TV K×List (DV K)
 | .it k, .i n::r=>(.it k n,r)
 | .bl, .b b::r=>(.bl b,r)
 | .st, .s s::r=>(.st s,r)
 | .sl e, .l e' l::r=>(match ylv e' e l with|some l=> .sl e l|none=> .un,r)
 | .v t, .v t' x::r=>(if h:t'=t then inV C t (h▸x) else .un,r)
 | .agg l,r=>let p:=bdVs C rg l r;(.agg p.1,p.2)
 | .row s,r=>(.rw s 1,r)
 | .px s o,r=>(.px s 1 o,r)
 | .kp id,r=>(match lkR rg id with|some v=> .cn id v|none=> .un,r)
 | .nil,r=>(.nil,r)
 | .np,r=>(.nptr,r)
 | .fn f a c,r=>let p:=bdVs C rg a r;let q:=bdVs C rg c p.2;(.fn f p.1 q.1,q.2)
 |_,r=>(.un,r)
def bdVs (C:Cx K) (rg:List (Nat×TV K)):List Kd→List (DV K)→List (TV K)×List (DV K)
 | [],r=>([],r)
 |k::q,r=>let p:=bdV C rg k r;let p':=bdVs C rg q p.2;(p.1::p'.1,p'.2)
end
def bdS (C:Cx K) (rg:List (Nat×TV K)):List (Nat×Kd)→List (DV K)→List (Nat×TV K)×List (DV K)
 | [],r=>([],r)
 |k::q,r=>let p:=bdV C rg k.2 r;let p':=bdS C rg q p.2;((k.1,p.1)::p'.1,p'.2)
def bdW (C:Cx K) (rg:List (Nat×TV K)) (ks:List Kd) (env:List (DV K)):List (TV K)×List (DV K):=match ks with
 | [.v t]=>match (C.T t).g with
   | true=>match env with
     | .v t' x::r=>(if h:t'=t then (C.T t).c (h▸x) else [],r)
     |r=>([],r)
   |false=>bdVs C rg [.v t] env
 |ks=>bdVs C rg ks env
def bdB (C:Cx K) (rg:List (Nat×TV K)):List (Nat×Nat×List Kd)→List (DV K)→List (Nat×Option (TB K))×List (DV K)
 | [],r=>([],r)
 |k::q,r=>let p:=bdW C rg k.2.2 r;let p':=bdB C rg q p.2;((k.1,some (.box k.2.1 p.1))::p'.1,p'.2)
def bdR:List (Nat×Nat)→List (DV K)→List (Nat×Option (TB K))
 |k::q, .l e l::r=>(match ylv e k.2 l with|some l=>(k.1,some (.row k.2 l))|none=>(k.1,none))::bdR q r
 |_,_=> []
def bdT (C:Cx K) (τ:Tm) (rg:List (Nat×TV K)) (h:List RS) (env:List (DV K)):TS K:=
 let p:=bdS C rg τ.ks env;let q:=bdB C rg τ.bx p.2;⟨p.1,q.1++bdR τ.rw q.2,[],rg,h⟩
mutual
def tagV:Kd→TV K→List (Nat×TV K)→TV K×List (Nat×TV K)
 | .kp id,v,rg=>match ybi v,lkR rg id with
   |true,none=>(.cn id v,(id,v)::rg)
   |_,_=>(v,rg)
 | .agg l, .agg vs,rg=>let p:=yhs l vs rg;(.agg p.1,p.2)
 |_,v,rg=>(v,rg)
def yhs:List Kd→List (TV K)→List (Nat×TV K)→List (TV K)×List (Nat×TV K)
 |k::r,v::q,rg=>let p:=tagV k v rg;let p':=yhs r q p.2;(p.1::p'.1,p'.2)
 |_,vs,rg=>(vs,rg)
end
def tagS:List (Nat×Kd)→TS K→TS K
 | [],ts=>ts
 |p::r,ts=>let q:=tagV p.2 (lkT ts.fr p.1) ts.rg;tagS r ⟨(p.1,q.1)::ts.fr,ts.od,ts.nw,q.2,ts.h⟩
def tagB:List (Nat×Nat×List Kd)→TS K→TS K
 | [],ts=>ts
 | p::r,ts=>match lkB ts.od p.1 with
   |some (.box e cs)=>let q:=yhs p.2.2 cs ts.rg;tagB r ⟨ts.fr,(p.1,some (.box e q.1))::ts.od,ts.nw,q.2,ts.h⟩
   |_=>tagB r ts
def tagT (τ:Tm) (ts:TS K):TS K:=tagB τ.bx (tagS τ.ks ts)
def fzT (C:Cx K) (fr:List (Nat×TV K)):List (Nat×Kd)→TS K→TS K
 | [],ts=>ts
 |(t, .sl _)::r,ts=>fzT C fr r (match (lkT fr t).s with| .rw s 1=>fz C ts s|_=>ts)
 |_::r,ts=>fzT C fr r ts
def rdJ (C:Cx K) (τ:Tm) (ts:TS K) (J:List (DV K)→Prop):Prop:=match rdT C τ (fzT C ts.fr τ.ks ts) with
 |some env=>J env
 |none=>False
def CTy (K:Nat→Type):CT→Type
 | .i=>Int
 | .b=>Bool
 | .s=>Str
 | .l e=>List (K e)
 | .v t=>K t
def Cur (K:Nat→Type) (R:Type):List CT→Type
 | []=>R
 |c::r=>CTy K c->Cur K R r
def outI:DV K→Option Int
 | .i n=>some n
 |_=>none
def yAz:DV K→Option Bool
 | .b b=>some b
 |_=>none
def outS:DV K→Option Str
 | .s s=>some s
 |_=>none
def outL (e:Nat):DV K→Option (List (K e))
 | .l e' l=>ylv e' e l
 |_=>none
def outT (t:Nat):DV K→Option (K t)
 | .v t' x=>if h:t'=t then some (h▸x) else none
 |_=>none
def outC (c:CT):DV K→Option (CTy K c):=match c with
 | .i=>outI
 | .b=>yAz
 | .s=>outS
 | .l e=>outL e
 | .v t=>outT t
def inC:(c:CT)→CTy K c→DV K
 | .i,n=> .i n
 | .b,b=> .b b
 | .s,s=> .s s
 | .l e,l=> .l e l
 | .v t,x=> .v t x
def apC {R:Type} (d:R):(cs:List CT)→Cur K R cs→List (DV K)→R
 | [],f,[]=>f
 | [],_,_::_=>d
 | c::cs,f,x::env=>match outC c x with
   |some y=>apC d cs (f y) env
   |none=>d
 |_::_,_,[]=>d
def allC:(cs:List CT)→(List (DV K)→Prop)→Prop
 | [],p=>p []
 |c::cs,p=>∀x:CTy K c,allC cs fun env=>p (inC c x::env)
def resT (ts:TS K):Nat×Option Nat→Option (TV K)
 |(t,none)=>some (lkT ts.fr t)
 | (t,some 0)=>match (lkT ts.fr t).s with
   | .px s c o=>match ts.tb s c with
     |some (.box _ cs)=>cs[o]?
     |_=>none
   |_=>none
 | (t,some (sz+1))=>match (lkT ts.fr t).s with
   | .px s c o=>match ts.tb s c with
     |some (.box _ cs)=>tldc true (sz+1) o cs
     |_=>none
   |_=>none
def ydX (ts:TS K):List (Nat×Option Nat)→Option (List (TV K))
 | []=>some []
 | p::r=>match resT ts p,ydX ts r with
   |some v,some vs=>some (v::vs)
   |_,_=>none
structure Sl (K:Nat→Type) where
 f:Nat
 fs:List (Nat×List Nat×List Nat)
 ti:Tm
 te:Tm
 kp:List Nat
 res:List (Nat×Option Nat)
 fz:Bool
 W:List (FV K)->List (DV K)->List (DV K)->Prop
def ye9:List Nat→Nat→Bool
 | [],_=>false
 |x::r,y=>Nat.beq x y||ye9 r y
def Sl.kbx (sp:Sl K):List (Nat×Nat×List Kd):=sp.ti.bx.filter fun p=>ye9 sp.kp p.1
def Sl.krw (sp:Sl K):List (Nat×Nat):=sp.ti.rw.filter fun p=>ye9 sp.kp p.1
def Sl.to (sp:Sl K):Tm:=⟨sp.te.ks,sp.te.bx++sp.kbx,sp.te.rw++sp.krw⟩
def ctB (l:List (Nat×Nat×List Kd)):List CT:=l.flatMap fun p=>ctVs p.2.2
def ctS (l:List (Nat×Kd)):List CT:=l.flatMap fun p=>ctV p.2
def zipT:List (TV K)→Nat→List (Nat×TV K)
 | [],_=> []
 |v::r,i=>(i,v)::zipT r (i+1)
def rdM (C:Cx K) (τ:Tm) (ts:TS K):Option (List (DV K)×RM):=match rdS C ts.fr τ.ks ⟨[],[]⟩ with
 | some (a,m)=>match rdB C ts τ.bx m with
   | some (b,m)=>match rdR C ts m τ.rw,yuK (plsR m.r++m.b.map (·.2))&&ywq m τ with
     |some c,true=>some (a++b++c,m)
     |_,_=>none
   |none=>none
 |none=>none
def yqB (C:Cx K) (Φ:List (Sp K)) (fr:List (Nat×TV K)):List (Nat×List Nat×List Nat)→Option (List (FV K))
 | []=>some []
 | p::r=>match yvu C Φ (.f p.2.1 p.2.2) (lkT fr p.1),yqB C Φ fr r with
   |some (.f F),some l=>some (F::l)
   |_,_=>none
mutual
def plV (m:RM) (n:Nat→Nat):TV K→TV K
 | .agg cs=> .agg (plVs m n cs)
 | .fn f a c=> .fn f (plVs m n a) (plVs m n c)
 | .rw s _=>match Nat.ble 2000000 s with
   | true=>match lkA m.r s with
     |some (some q)=> .rw q.1 q.2
     |some none=> .nil
     |none=> .un
   |false=> .rw (n s) 2
 | .px s _ o=>match Nat.ble 2000000 s with
   | true=>match lkA m.b s with
     |some q=> .px q.1 q.2 o
     |none=> .un
   |false=> .px (n s) 2 o
 |v=>v
def plVs (m:RM) (n:Nat→Nat):List (TV K)→List (TV K)
 | []=> []
 |v::r=>plV m n v::plVs m n r
end
def plQ (m:RM) (n:Nat→Nat) (s:Nat):Option (Nat×Nat):=match Nat.ble 2000000 s with
 | true=>match lkA m.b s with
   |some q=>some q
   | none=>match lkA m.r s with
     |some (some q)=>some q
     |_=>none
 |false=>some (n s,2)
def plL (m:RM) (n:Nat→Nat) (c:Nat):List (Nat×Option (TB K))→List (Nat×Option (TB K))
 | []=> []
 | p ::r=>match plQ m n p.1 with
   | some q=>match Nat.beq q.2 c with
     |true=>(q.1,mapB (plV m n) p.2)::plL m n c r
     |false=>plL m n c r
   |none=>plL m n c r
def exC:(cs:List CT)→(List (DV K)→Prop)→Prop
 | [],p=>p []
 |c::cs,p=>∃x:CTy K c,exC cs fun env=>p (inC c x::env)
def yal (d:Option Nat) (s:Nat):Nat:=s+64*site d
def newL (sp:Sl K):List Nat:=(sp.te.bx.map (·.1)++sp.te.rw.map (·.1)).filter fun s=> !Nat.ble 2000000 s
def ytU (ts:TS K) (d:Option Nat):List Nat→Bool
 | []=>true
 |s::r=>Nat.ble 1000000 s&&Nat.ble (s+1) 1000064&& !memB ts.nw (yal d s)&&Nat.ble (yal d s+1) 2000000&&ytU ts d r
def npL (sp:Sl K):Nat:=sp.ti.ks.length+sp.fs.length
def zipF:List (Nat×List Nat×List Nat)→List (FV K)→List (Nat×TV K)
 |p::r,F::l=>(p.1, .fv p.2.1 p.2.2 F)::zipF r l
 |_,_=> []
def entL (C:Cx K) (sp:Sl K) (fs:List (FV K)) (env:List (DV K)):TS K:=let t:=bdT C sp.ti [] [] env;⟨zipF sp.fs fs++t.fr,t.od,t.nw,t.rg,t.h⟩
def isBx:Option (TB K)→Bool
 |some (.box _ _)=>true
 |_=>false
def ywz:List Nat→Bool
 | []=>true
 |x::r=> !ye9 r x&&ywz r
def tiN (sp:Sl K):List Nat:=sp.ti.bx.map (·.1)++sp.ti.rw.map (·.1)
mutual
def okK (bx rw:List Nat):Kd→Bool
 | .row s=>ye9 rw s
 | .px s _=>ye9 bx s
 | .kp _=>false
 | .agg l=>okKs bx rw l
 | .fn _ a c=>okKs bx rw a&&okKs bx rw c
 |_=>true
def okKs (bx rw:List Nat):List Kd→Bool
 | []=>true
 |k::r=>okK bx rw k&&okKs bx rw r
end
def okTm (τ:Tm):Bool:=
 let bx:=τ.bx.map (·.1);let rw:=τ.rw.map (·.1)
 ywz (bx++rw)&&ywz (τ.ks.map (·.1))&&(τ.ks.all fun p=>okK bx rw p.2)&&τ.bx.all fun p=>okKs bx rw p.2.2&& !p.2.2.isEmpty
def subN (a b:List Nat):Bool:=a.all (ye9 b)
def bigN:Nat->Bool:=fun s=>Nat.ble 2000000 s
def okN (sp:Sl K):Bool:=
 okTm sp.ti&&okTm sp.to&&(tiN sp).all bigN&&subN ((sp.te.bx.map (·.1)).filter bigN) (sp.ti.bx.map (·.1))&&subN ((sp.te.rw.map (·.1)).filter bigN) (sp.ti.rw.map (·.1))&&(sp.fs.all fun p=>Nat.ble (p.1+1) (npL sp))&&sp.ti.ks.all fun p=>Nat.ble (p.1+1) (npL sp)
def wt:List CT→List (DV K)→Bool
 | [],[]=>true
 | c::cs,x::env=>(match c,x with
   | .i, .i _=>true
   | .b, .b _=>true
   | .s, .s _=>true
   | .l e, .l e' _=>Nat.beq e e'
   | .v t, .v t' _=>Nat.beq t t'
   |_,_=>false)&&wt cs env
 |_,_=>false
def endT (C:Cx K) (sp:Sl K) (ts0:TS K) (out:List (DV K)):TS K:=
 let p:=bdS C [] sp.te.ks out;let q:=bdB C [] sp.te.bx p.2
 ⟨p.1,q.1++(ts0.od.filter fun x=>ye9 sp.kp x.1&&isBx x.2)++bdR sp.te.rw q.2++ts0.od.filter fun x=>ye9 sp.kp x.1&& !isBx x.2,[],[],[]⟩
def lenL (ts0:TS K):List (Nat×Option (TB K))→Prop→Prop
 | [],p=>p
 | x ::r,p=>match Nat.ble 2000000 x.1 with
   | true=>match tln x.2,tln (ts0.tb x.1 1) with
     |some n,some m=>n=m/\lenL ts0 r p
     |_,_=>False
   |false=>lenL ts0 r p
def endR (C:Cx K) (sp:Sl K) (out:List (DV K)):List (Nat×Option (TB K)):=bdR sp.te.rw (bdB C [] sp.te.bx (bdS C [] sp.te.ks out).2).2
def yiV (sp:Sl K) (t:TS K):List (Nat×Option (TB K)):=t.od++(tiN sp).map fun s=>(s,none)
def aft0 (sp:Sl K) (n:Nat->Nat) (m:RM) (t ts:TS K):TS K:=⟨ts.fr,plL m n 1 (yiV sp t)++ts.od,plL m n 2 (yiV sp t)++ts.nw,ts.rg,ts.h⟩
def aftL (sp:Sl K) (d:Option Nat) (m:RM) (t ts:TS K):TS K:=(aft0 sp (yal d) m t ts).put d (tres (plVs m (yal d) ((ydX t sp.res).getD [])))
def ykd (C:Cx K) (ts:TS K) (f:Nat) (vs:List (TV K)):List (Sl K)→Option (Sl K×List (DV K)×RM)
 | []=>none
 | sp::r=>match Nat.beq sp.f f&&Nat.beq vs.length (npL sp) with
   | true=>match rdM C sp.ti ⟨zipT vs 0,ts.od,ts.nw,ts.rg,ts.h⟩ with
     |some (env,m)=>some (sp,env,m)
     |none=>ykd C ts f vs r
   |false=>ykd C ts f vs r
def ylg (C:Cx K) (Φ:List (Sp K)) (drw:Bool) (ts:TS K) (d:Option Nat) (sp:Sl K) (env:List (DV K)) (m:RM) (vs:List (TV K)) (X:TS K→Prop):Prop:=
 match yqB C Φ (zipT vs 0) sp.fs,okN sp&&ytU ts d (newL sp)&&(!drw||sp.te.rw.isEmpty) with
 |some fs,true=>exC (ctT sp.te) fun out=>sp.W fs env out/\lenL (entL C sp fs env) (endR C sp out) (X (aftL sp d m (endT C sp (entL C sp fs env) out) ts))
 |_,_=>False
def eqO:AOpd→AOpd→Bool
 | .t a, .t b=>Nat.beq a b
 | .c (.it _ a), .c (.it _ b)=>decide (a=b)
 |_,_=>false
structure Cf (K:Nat→Type) where
 C:Cx K
 S:List (Sp K)
 L:List (Sl K)
 N:Nat
 I:List (Nat×AFn):= []
 Y:Option (Nat×(Nat->Option (Nat×Bool)->AOpd->List AOpd->TS K->(Bool->TS K->Prop)->Prop)):=none
 rd:Bool:=false
def yCZ (N:Nat):AOpd→Bool
 | .t n=>Nat.ble (n+1) N
 | .c _=>false
def tlen (C:Cx K) (nofact:Bool) (ts:TS K) (X:TV K→Prop):TV K→Prop
 | .sl _ l=>match nofact with
   |true=>X (.it .i64 (l.length:Int))
   |false=>l.length<=maxLen->X (.it .i64 (l.length:Int))
 | .nil=>X (.li .i64 0)
 | .em=>X (.li .i64 0)
 | .rw s c=>match ts.tb s c with
   |some (.row _ l)=>X (.it .i64 (l.length:Int))
   |some (.lrow _ n _)=>X (.li .i64 (n:Int))
   |_=>False
 |_=>False
def teqn (drw g:Bool) (kind:Nat) (x y:TV K) (X:TV K→Prop) (d:Prop):Prop:=match drw with
 |true=>d
 | false=>match Nat.beq kind 4 with
   |false=>d
   | true=>match x with
     | .sl _ l=>match y with
       | .nil=>∀b:Bool,(b=true->l= [])->X (.bl (ngB g b))
       |_=>d
     |_=>d
def step (F:Cf K) (drw:Bool) (o:AO) (ts:TS K) (X:TS K→Prop):Prop:=
 match o.op with
 | .eq g kind x y=>teqn drw g kind (tev ts.fr x) (tev ts.fr y) (fun v=>X (ts.put o.dst v)) (match tqv ts (.eq g kind x y) with
   |some (cs,v)=>andL cs (X (ts.put o.dst v))
   |none=>False)
 | .ld g sz a=>tld F.C g sz ts (fun v=>X (ts.put o.dst v)) (tev ts.fr a)
 | .sto sz a v=>tsto F.C sz ts (tcl (tea ts.fr v)) (fun t=>X (t.put o.dst .un)) (tev ts.fr a)
 | .pick c a b=>match tev ts.fr c with
   | .lb true=>X (ts.put o.dst (tea ts.fr a))
   | .lb false=>X (ts.put o.dst (tea ts.fr b))
   |_=>False
 | .box e sz x=>match Nat.beq (tcl (tea ts.fr x)).length sz&&(tcl (tea ts.fr x)).all tone&&Nat.ble 1 sz with
   |true=>yhB ts (site o.dst) (X (tnew ts o.dst (.box e (tcl (tea ts.fr x))) fun s=> .px s 2 0))
   |false=>False
 | .bsl e sz n z parts=>match Nat.beq z.length sz&&Nat.beq (F.C.E e).sz sz&&Nat.ble (n*sz) 16777216 with
   |true=>yhB ts (site o.dst) (wpo' (yqj (List.replicate n (cvAs z)).flatten (parts.map fun p=>(p.1,p.2.1,tea ts.fr p.2.2))) fun cs=>X (tnew ts o.dst (.lrow e n (cs.map twk)) trw))
   |false=>False
 | .mks e sz bytes z x y=>match tint (tev ts.fr x),tint (tev ts.fr y),(F.C.T e).rd ((cvAs z).map TV.s) with
   | some (_,q),some (_,_),some v=>match Nat.beq z.length sz&&Nat.beq (F.C.E e).sz sz&&eqO x y with
     |true=>yhB ts (site o.dst) (0<=q/\bytes*q.toNat<=281474976710656/\q<=1000000000/\X (tnew ts o.dst (.row e (List.replicate q.toNat v)) trw))
     |false=>False
   |_,_,_=>False
 | .apz e sz bytes z x y=>match tev ts.fr x,tint (tev ts.fr y),(F.C.T e).rd ((cvAs z).map TV.s) with
   | .nil,some (.i64,q),some v=>match Nat.beq z.length sz&&Nat.beq (F.C.E e).sz sz with
     |true=>yhB ts (site o.dst) (0<q/\bytes*q.toNat<=140737488355328/\q<=1000000000/\X (tnew ts o.dst (.row e (List.replicate q.toNat v)) trw))
     |false=>False
   |_,_,_=>False
 | .iad sz x i=>match tint (tev ts.fr i) with
   |some (_,q)=>tiad F.C sz ts q (fun v=>X (ts.put o.dst v)) (tev ts.fr x)
   |none=>False
 | .len x=>tlen F.C (drw|| !yCZ F.N x) ts (fun v=>X (ts.put o.dst v)) (tev ts.fr x)
 | .app e sz bytes x y=>match Nat.beq (F.C.E e).sz sz&&Nat.ble bytes 100000 with
   |true=>wpo' (tsrc F.C e ts (tev ts.fr y)) fun l2=>tapp F.C e o.dst ts l2 (ifL (yqw ts (tev ts.fr y)) (l2.length<=400000000)) X (tev ts.fr x)
   |false=>False
 | .apf e sz bytes x y=>match Nat.beq (F.C.E e).sz sz&&Nat.ble bytes 100000 with
   |true=>wpo' (tsrc F.C e ts (tev ts.fr y)) fun l2=>tapf F.C e o.dst ts l2 (ifL (yqw ts (tev ts.fr y)) (l2.length<=400000000)) X (tev ts.fr x)
   |false=>False
 | .bsf e sz n z parts=>match Nat.beq z.length sz&&Nat.beq (F.C.E e).sz sz&&Nat.ble (n*sz) 16777216 with
   |true=>yhB ts (site o.dst) (wpo' (yqj (List.replicate n (cvAs z)).flatten (parts.map fun p=>(p.1,p.2.1,tea ts.fr p.2.2))) fun cs=>wpo' (yuH (F.C.T e).rd (F.C.E e).sz n (cs.map twk)) fun l=>X (tnwf ts o.dst (.sl e l)))
   |false=>False
 | .apps e x y=>match tev ts.fr y,(F.C.T e).ob with
   | .st l,some f=>tapp F.C e o.dst ts (l.map f) [l.length<=400000000] X (tev ts.fr x)
   |_,_=>False
 | .b2s x=>match tev ts.fr x with
   | .sl e l=>match (F.C.T e).tb with
     |some f=>X (ts.put o.dst (.st (l.map f)))
     |none=>False
   | .rw s c=>match (F.C.T (tbe (ts.tb s c))).tb,trow F.C (tbe (ts.tb s c)) (ts.tb s c) with
     |some f,some l=>X (ts.put o.dst (.st (l.map f)))
     |_,_=>False
   | .nil=>X (ts.put o.dst (.st []))
   |_=>False
 | .sll sz x lo hi=>match tev ts.fr x with
   | .sl e l=>match Nat.beq sz (F.C.E e).sz,tbnd ts.fr 0 lo,tbnd ts.fr l.length hi with
     |true,some a,some b=>(0<=a/\a<=b/\b<=l.length)/\X (ts.put o.dst (.sl e (yd7 l a b)))
     |_,_,_=>False
   | .rw s c=>match Nat.beq sz (F.C.E (tbe (ts.tb s c))).sz,lo,trow F.C (tbe (ts.tb s c)) (ts.tb s c) with
     | true,none,some l=>match tbnd ts.fr l.length hi with
       |some b=>(0<=b/\b<=l.length)/\X (((ts.mapv (yiw s c)).setb s c (some (.row (tbe (ts.tb s c)) (l.take b.toNat)))).put o.dst (.rw s c))
       |none=>False
     |_,_,_=>False
   | .nil=>match tbnd ts.fr 0 lo,tbnd ts.fr 0 hi with
     |some a,some b=>(0<=a/\a<=b/\b<=0)/\X (ts.put o.dst .nil)
     |_,_=>False
   |_=>False
 | .call f args=>match ykd F.C ts f (args.map (tea ts.fr)) F.L with
   |some (sp,env,m)=>ylg F.C F.S drw ts o.dst sp env m (args.map (tea ts.fr)) X
   |none=>yxj F.C F.S ts o.dst f (args.map (tea ts.fr)) X
 | .calv x args=>match tev ts.fr x with
   | .fn f a c=>match ykd F.C ts f (a++args.map (tea ts.fr)++c) F.L with
     |some (sp,env,m)=>ylg F.C F.S drw ts o.dst sp env m (a++args.map (tea ts.fr)++c) X
     |none=>yxj F.C F.S ts o.dst f (a++args.map (tea ts.fr)++c) X
   | .fv ps rs V=>yBb F.C ts o.dst V ps rs (args.map (tea ts.fr)) X
   | .yl _=>match drw,tea ts.fr x,F.Y with
     | false, .cn id _,some y=>match Nat.beq id y.1 with
       |true=>y.2 F.N o.guard x args ts fun b t=>X (t.put o.dst (.lb b))
       |false=>False
     |_,_,_=>False
   |_=>False
 | u=>match tqv ts u with
   |some (cs,v)=>andL cs (X (ts.put o.dst v))
   |none=>False
mutual
def eqT:TV K→TV K→Prop
 | .it k n,w=>match w.s with
   | .it k' n'=>if k=k' then n=n' else False
   | .li k' n'=>if k=k' then n=n' else False
   |_=>False
 | .bl b,w=>match w.s with
   | .bl b'=>b=b'
   | .lb b'=>b=b'
   |_=>False
 | .st s,w=>match w.s with
   | .st s'=>s=s'
   |_=>False
 | .sl e l,w=>match w.s with
   | .sl e' l'=>(if h:e=e' then h▸l=l' else False)
   |_=>False
 | .agg l,w=>match w.s with
   | .agg l'=>eqTs l l'
   |_=>False
 | .rw s c,w=>match w.s with
   | .rw s' c'=>match Nat.beq s s'&&Nat.beq c c' with
     |true=>True
     |false=>False
   |_=>False
 | .px s c o,w=>match w.s with
   | .px s' c' o'=>match Nat.beq s s'&&Nat.beq c c'&&Nat.beq o o' with
     |true=>True
     |false=>False
   |_=>False
 | .nptr,w=>match w.s with
   | .nptr=>True
   |_=>False
 | .nil,w=>match w.s with
   | .nil=>True
   |_=>False
 | .un, .un=>True
 |_,_=>False
def eqTs:List (TV K)→List (TV K)→Prop
 | [],[]=>True
 | a ::r,b::q=>match r with
   | []=>match q with
     | []=>eqT a b
     |_=>False
   |r=>eqT a b/\eqTs r q
 |_,_=>False
end
def eqB:Option (TB K)→Option (TB K)→Prop
 | some (.box e l),some (.box e' l')=>match Nat.beq e e' with
   |true=>eqTs l l'
   |false=>False
 |some (.row e l),some (.row e' l')=>(if h:e=e' then h▸l=l' else False)
 |_,_=>False
def kpt (ts0 ts:TS K):List Nat→Prop→Prop
 | [],p=>p
 |s::r,p=>eqB (ts0.tb s 1) (ts.tb s 1)/\kpt ts0 ts r p
def selL (sp:Sl K) (env:List (DV K)):List (DV K):=
 let a:=(ctS sp.te.ks).length+(ctB sp.te.bx).length;let b:=(ctB sp.kbx).length
 env.take a++(env.drop (a+b)).take sp.te.rw.length
def eqD1:DV K→DV K→Prop
 | .i n, .i n'=>n=n'
 | .b b, .b b'=>b=b'
 | .s s, .s s'=>s=s'
 | .l e l, .l e' l'=>(if h:e=e' then h▸l=l' else False)
 | .v t x, .v t' x'=>(if h:t=t' then h▸x=x' else False)
 |_,_=>False
def eqDV:List (DV K)→List (DV K)→Prop
 | [],[]=>True
 | x ::r,y::q=>match r with
   | []=>match q with
     | []=>eqD1 x y
     |_=>False
   |r=>eqD1 x y/\eqDV r q
 |_,_=>False
def FsTy (K:Nat→Type) (R:Type):List (Nat×List Nat×List Nat)→Type
 | []=>R
 |p::r=>FTy K p.2.2 p.2.1->FsTy K R r
def yr7:(co:List CT)→Cur K Prop co→List (DV K)→Prop
 | [],f,[]=>f
 | c::co,f,x::out=>match outC c x with
   |some y=>yr7 co (f y) out
   |none=>False
 |_,_,_=>False
def apIn (co:List CT):(ci:List CT)→Cur K (Cur K Prop co) ci→List (DV K)→List (DV K)→Prop
 | [],f,[],out=>yr7 co f out
 | c::ci,f,x::env,out=>match outC c x with
   |some y=>apIn co ci (f y) env out
   |none=>False
 |_,_,_,_=>False
def apFs (ci co:List CT):(l:List (Nat×List Nat×List Nat))→FsTy K (Cur K (Cur K Prop co) ci) l→List (FV K)→List (DV K)→List (DV K)→Prop
 | [],f,[],env,out=>apIn co ci f env out
 |p::r,f,F::fs,env,out=>apFs ci co r (f (curF p.2.2 p.2.1 F.W)) fs env out
 |_,_,_,_,_=>False
inductive An (K:Nat→Type) where
 |o
 |s (a b:An K)
 |c (a b:An K)
 |b (a:An K)
 |l (τ:Tm) (a:List (DV K)->An K)
 |j (τ:Tm) (a:An K) (b:List (DV K)->An K)
 |g (id:Nat) (τ τY:Tm) (ai aa ab:An K)
def tgd (fr:List (Nat×TV K)) (g:Option (Nat×Bool)) (run skip:Prop) (both:Nat→Bool→Bool→Prop):Prop:=match g with
 |none=>run
 | some (d,b)=>match (lkT fr d).s with
   | .lb c=>match c==b with
     |true=>run
     |false=>skip
   | .bl c=>both d c b
   | .tup []=>skip
   |_=>False
def frzs (F:Cf K) (args:List AOpd) (ts:TS K):TS K:=match yue (args.map (tea ts.fr)) with
 | []=>ts
 |_=>args.foldl (fun ts x=>fzA F.C 9 [tea ts.fr x] ts) (er ts)
def hasL:List (Sl K)→Nat→Bool
 | [],_=>false
 |sp::r,f=>Nat.beq sp.f f||hasL r f
def frzO (F:Cf K) (fr:List (Nat×TV K)):AOp→List AOpd
 | .call f args=>match hasL F.L f||flS F.C F.S f with
   |true=> []
   |false=>args
 | .calv x args=>match tev fr x with
   | .fn f _ _=>match hasL F.L f||flS F.C F.S f with
     |true=> []
     |false=>args
   |_=>args
 | .bsl _ _ _ _ parts| .bsf _ _ _ _ parts=>parts.map fun p=>p.2.2
 |_=> []
def frzA (F:Cf K) (o:AO) (ts:TS K):TS K:=frzs F (frzO F ts.fr o.op) ts
def topg (F:Cf K) (o:AO) (R:TS K→Prop) (ts:TS K):Prop:=
 tgd ts.fr o.guard (step F false o ts R) (R (ts.put o.dst (.tup [])))
  fun d c b=>cnd c (match b with
   |true=>step F false o (ts.put (some d) (.lb true)) R
   |false=>R ((ts.put (some d) (.lb true)).put o.dst (.tup []))) (match b with
   |true=>R ((ts.put (some d) (.lb false)).put o.dst (.tup []))
   |false=>step F false o (ts.put (some d) (.lb false)) R)
def tops (F:Cf K):List AO→TS K→(TS K→Prop)→Prop
 | [],ts,X=>X ts
 |o::r,ts,X=>topg F o (fun t=>tops F r t X) (frzA F o ts)
structure TFt where
 rk:List (Nat×Nat)
 wk:List (Nat×Nat)
def tky1 (ts:TS K) (v:TV K):Option (List (Nat×Nat)):=match v.s with
 | .un=>none
 | .rw s c=>match tln (ts.tb s c) with
   |some _=>some [(s,c)]
   |none=>none
 | .px s c _=>some [(s,c)]
 | .pr _ s c _ _=>some [(s,c)]
 |_=>some []
def tkys (ts:TS K) (f:TV K→Option (List (Nat×Nat))):List (TV K)→Option (List (Nat×Nat))
 | []=>some []
 | v::r=>match f v,tkys ts f r with
   |some a,some b=>some (a++b)
   |_,_=>none
def tky (ts:TS K) (v:TV K):Option (List (Nat×Nat)):=match v.s with
 | .agg cs=>tkys ts (tky1 ts) cs
 |_=>tky1 ts v
def yA2 (ts:TS K) (v:TV K):Option (List (Nat×Nat)):=match v.s with
 | .fn _ a c=>tkys ts (tky ts) (a++c)
 | .fv _ _ _=>some []
 |_=>none
def trf:TV K→List (Nat×Nat)
 | .rw s c=> [(s,c)]
 | .px s c _=> [(s,c)]
 | .pr _ s c _ _=> [(s,c)]
 |_=> []
def twk' (ts:TS K) (o:AO):List (Nat×Nat):=match o.op with
 | .box .. | .bsl .. | .bsf .. | .mks .. | .apz .. => [(site o.dst,2)]
 | .apf _ _ _ x _=>(site o.dst,2)::trf (tev ts.fr x)
 | .app _ _ _ x _=>(site o.dst,2)::trf (tev ts.fr x)
 | .apps _ x _=>(site o.dst,2)::trf (tev ts.fr x)
 | .sto _ a _=>trf (tev ts.fr a)
 | .sll _ x _ _=>trf (tev ts.fr x)
 |_=> []
def yrS:List (TV K)→List (Nat×Nat)
 | []=> []
 | v::r=>match v.s with
   | .rw s c=>(s,c)::yrS r
   |_=>yrS r
def plcs (sp:Sl K) (d:Option Nat) (m:RM):List (Nat×Nat):=m.b.map (·.2)++plsR m.r++(newL sp).map fun s=>(yal d s,2)
def tft (F:Cf K) (ts:TS K) (o:AO):Option TFt:=match o.op with
 | .call f args=>match tkys ts (tky ts) (args.map (tea ts.fr)) with
   | some l=>match ykd F.C ts f (args.map (tea ts.fr)) F.L with
     |some (sp,_,m)=>some ⟨l++plcs sp o.dst m,plcs sp o.dst m⟩
     | none=>some ⟨l,match flS F.C F.S f with
       |true=> []
       |false=>yrS (args.map (tea ts.fr))⟩
   |none=>none
 | .calv x args=>match yA2 ts (tea ts.fr x),tkys ts (tky ts) (args.map (tea ts.fr)) with
   | some ca,some l=>match tev ts.fr x with
     | .fn f a c=>match ykd F.C ts f (a++args.map (tea ts.fr)++c) F.L with
       |some (sp,_,m)=>some ⟨ca++l++plcs sp o.dst m,plcs sp o.dst m⟩
       |none=>some ⟨ca++l,yrS (a++args.map (tea ts.fr)++c)⟩
     |_=>some ⟨ca++l,yrS (args.map (tea ts.fr))⟩
   |_,_=>none
 | .mv _=>some ⟨[],[]⟩
 | u=>match tkys ts (tky ts) ((opds u).map (tea ts.fr)) with
   |some l=>some ⟨l,twk' ts o⟩
   |none=>none
def memQ:List (Nat×Nat)→Nat×Nat→Bool
 | [],_=>false
 |p::r,q=>(Nat.beq p.1 q.1&&Nat.beq p.2 q.2)||memQ r q
def okT (a b:TFt):Bool:=(a.wk.all fun p=> !memQ b.rk p&& !memQ b.wk p)&&b.wk.all fun p=> !memQ a.rk p
def okTs (t:TFt) (acc:List TFt):List Nat→Bool
 | []=>true
 | j::r=>(match acc[j]? with
   |some x=>okT t x
   |none=>true)&&okTs t acc r
def yuI (F:Cf K) (o:AO) (fre:List Nat) (acc:List TFt) (R:List TFt→TS K→Prop) (ts:TS K):Prop:=match tft F ts o with
 | some t=>match okTs t acc fre with
   |true=>step F true o ts (R (acc++ [t]))
   |false=>False
 |none=>False
def tdg (F:Cf K) (o:AO) (fre:List Nat) (acc:List TFt) (R:List TFt→TS K→Prop) (ts:TS K):Prop:=
 tgd ts.fr o.guard (yuI F o fre acc R ts) (R (acc++ [⟨[],[]⟩]) (ts.put o.dst (.tup [])))
  fun d c b=>cnd c (match b with
   |true=>yuI F o fre acc R (ts.put (some d) (.lb true))
   |false=>R (acc++ [⟨[],[]⟩]) ((ts.put (some d) (.lb true)).put o.dst (.tup []))) (match b with
   |true=>R (acc++ [⟨[],[]⟩]) ((ts.put (some d) (.lb false)).put o.dst (.tup []))
   |false=>yuI F o fre acc R (ts.put (some d) (.lb false)))
def tdrw (F:Cf K):List (AO×List Nat)→List TFt→TS K→(TS K→Prop)→Prop
 | [],_,ts,X=>X ts
 |(o,fre)::r,acc,ts,X=>tdg F o fre acc (fun acc t=>tdrw F r acc t X) ts
def srcD (L:List (AO×List Nat)):Nat→Nat→Nat
 |0,n=>n
 | k+1,n=>match L.find? (fun p=>match p.1.dst with|some d=>Nat.beq d n|none=>false) with
   |some (⟨_,_, .mv (.t m)⟩,_)=>srcD L k m
   |_=>n
def frzD (F:Cf K) (L:List (AO×List Nat)) (ts:TS K):TS K:=
 (L.flatMap fun p=>(frzO F ts.fr p.1.op).flatMap fun x=>match x with| .t n=> [srcD L 9 n]| .c _=> []).foldl (fun ts n=>fzA F.C 9 [lkT ts.fr n] ts) ts
def eqRS:RS→RS→Bool
 | .rdy, .rdy=>true
 | .busy, .busy=>true
 | .ret, .ret=>true
 | .ex i, .ex j=>Nat.beq i j
 |_,_=>false
def eqH:List RS→List RS→Bool
 | [],[]=>true
 |a::r,b::q=>eqRS a b&&eqH r q
 |_,_=>false
def rdH (C:Cx K) (τ:Tm) (h:List RS) (ts:TS K) (J:List (DV K)→Prop):Prop:=match eqH ts.h h with
 |true=>rdJ C τ ts J
 |false=>False
def lkI:List (Nat×AFn)→Nat→Option AFn
 | [],_=>none
 | p::r,f=>match Nat.beq p.1 f with
   |true=>some p.2
   |false=>lkI r f
def rngS (id r N2:Nat) (fa fc:List (TV K)) (ts:TS K):TS K:=⟨zipT (fa++ .cn id (.yl r)::fc) 0++(N2, .cn id (.yl r))::reix (upx (N2+1)) ts.fr,ts.od,ts.nw,(id, .yl r)::ts.rg, .rdy::ts.h⟩
def dnS (N2:Nat) (h:List RS) (ts:TS K):TS K:=⟨reix (dnx (N2+1)) ts.fr,ts.od,ts.nw,ts.rg,h⟩
def bkS (Nr:Nat) (h:List RS) (ts:TS K):TS K:=⟨reix (dnx Nr) ts.fr,ts.od,ts.nw,ts.rg,h⟩
def yldS (N2 Nr:Nat) (pv:List (Nat×TV K)) (ts:TS K):TS K:=⟨pv.foldl (fun l p=>p::l) (reix (acx (N2+1) Nr) ts.fr++reix (upx Nr) ts.fr),ts.od,ts.nw,ts.rg,ts.h⟩
def setS (h:List RS) (ts:TS K):TS K:=⟨ts.fr,ts.od,ts.nw,ts.rg,h⟩
def isY (id:Nat) (v:TV K):Bool:=match v with
 | .cn i _=>Nat.beq i id
 |_=>false
def okG (g:Option (Nat×Bool)) (fr:List (Nat×TV K)):Bool:=match g with
 |none=>true
 | some (d,b)=>match (lkT fr d).s with
   | .bl c=>c==b
   | .lb c=>c==b
   |_=>false
def rngT (id N2:Nat) (Q:AEx→TS K→Prop) (e:AEx) (ts:TS K):Prop:=match e with
 | .x _=>False
 | _=>match isY id (lkT ts.fr N2),ts.h with
   |true, .rdy::h=>Q .n (dnS N2 h ts)
   |true, .ret::h=>Q .r (dnS N2 h ts)
   |true, .ex i::h=>Q (.x i) (dnS N2 h ts)
   |_,_=>False
def rndT (id Nr N2:Nat) (X:Bool→TS K→Prop) (e:AEx) (ts:TS K):Prop:=match isY id (lkT ts.fr (Nr+N2)),ts.h with
 | true, .busy::h=>match e with
   | .n=>X true (bkS Nr (.rdy::h) ts)
   | .r=>X false (bkS Nr (.ret::h) ts)
   | .x i=>X false (bkS Nr (.ex i::h) ts)
 |_,_=>False
def asgT (id Nr N2:Nat) (X:TS K→Prop) (e:AEx) (ts:TS K):Prop:=match e with
 | .n=>match isY id (lkT ts.fr (Nr+N2)),ts.h with
   |true, .rdy::h=>X (setS (.busy::h) ts)
   |_,_=>False
 |_=>False
def isN:Option (TV K)→Bool
 |none=>true
 |some _=>false
def yDY {α:Type}:List α→Bool
 | []=>true
 |_=>false
def Dn (F : Cf K):An K→ye0→(AEx→TS K→Prop)→TS K→Prop
 | .o, .skip,Q,ts=>Q .n ts
 | .o, .ops L,Q,ts=>tops F L ts fun t=>Q .n (er t)
 | .o, .drw L,Q,ts=>tdrw F L [] (frzD F L ts) fun t=>Q .n (er t)
 | .o, .exit id,Q,ts=>Q (.x id) ts
 | .o, .ret,Q,ts=>Q .r ts
 | .s a b, .seq x y,Q,ts=>Dn F a x (fun e t=>match e with
   | .n=>Dn F b y Q t
   |e=>Q e t) ts
 | .c a b, .cond u x y,Q,ts=>match tev ts.fr u with
   | .lb true=>Dn F a x Q ts
   | .lb false=>Dn F b y Q ts
   | .bl c=>cnd c (Dn F a x Q ts) (Dn F b y Q ts)
   |_=>False
 | .b a, .block id x,Q,ts=>Dn F a x (fun e t=>match e with
   | .x i=>match Nat.beq i id with
     |true=>Q .n t
     |false=>Q (.x i) t
   |e=>Q e t) ts
 | .l τ a, .loop x,Q,ts=>∀X:Cur K Prop (ctT τ),(allC (ctT τ) fun env=>Dn F (a env) x (fun e t=>match e with
    | .n=>rdH F.C τ ts.h t (apC False (ctT τ) X)
    |e=>Q e t) (bdT F.C τ (tagT τ ts).rg ts.h env)->apC False (ctT τ) X env)->rdJ F.C τ (tagT τ ts) (apC False (ctT τ) X)
 | .j τ a b, .seq x y,Q,ts=>∀J:Cur K Prop (ctT τ),(allC (ctT τ) fun env=>Dn F (b env) y Q (bdT F.C τ (tagT τ ts).rg ts.h env)→apC False (ctT τ) J env)→
    Dn F a x (fun e t=>match e with
     | .n=>rdH F.C τ ts.h t (apC False (ctT τ) J)
     |e=>Q e t) (tagT τ ts)
 | .g id τ τY ai aa ab, .rng u ps aA aB,Q,ts=>match F.rd with
   |true=>False
   | false=>rdJ F.C τ (tagT τ ts) fun env=>match tev (bdT F.C τ (tagT τ ts).rg ts.h env).fr u with
     | .fn f fa fc=>match lkI F.I f with
       | some c2=>match isN (lkR (tagT τ ts).rg id)&&Nat.ble (fa.length+fc.length+1) c2.N&&yDY c2.res with
         |true=>∀r:Nat,Dn {F with N:=c2.N,rd:=false,Y:=some (id,fun N2 g x args t X=>rdJ F.C τY (tagT τY (er t)) fun env2=>match isY id (lkT (bdT F.C τY (tagT τY (er t)).rg t.h env2).fr N2)&&isY id (tea (bdT F.C τY (tagT τY (er t)).rg t.h env2).fr x)&&Nat.beq ps.size args.length&&okG g (bdT F.C τY (tagT τY (er t)).rg t.h env2).fr,t.h with
            |true, .rdy::_=>Dn {F with rd:=true,Y:=none} aa aA (asgT id F.N N2 fun t2=>Dn {F with rd:=true,Y:=none} ab aB (rndT id F.N N2 X) t2) (yldS N2 F.N (ps.toList.zip (args.map (tea (bdT F.C τY (tagT τY (er t)).rg t.h env2).fr))) (bdT F.C τY (tagT τY (er t)).rg t.h env2))
            |_,_=>False)} ai c2.body (rngT id c2.N Q) (rngS id r c2.N fa fc (bdT F.C τ (tagT τ ts).rg ts.h env))
         |false=>False
       |none=>False
     |_=>False
 |_,_,_,_=>False
def outR (C:Cx K):List Nat→List (TV K)→(List (DV K)→Prop)→Prop
 | [],[],p=>p []
 | t::r,v::q,p=>match outV C t v with
   |some x=>outR C r q fun env=>p (.v t x::env)
   |none=>False
 |_,_,_=>False
def retF (C:Cx K) (res:List (Nat×Option Nat)) (ts:TS K):Nat→TS K
 |0=>ts
 | n +1=>match ydX ts res with
   | some vs=>match yue vs with
     | []=>ts
     |s::_=>retF C res (fzA C 9 [.rw s 1] ts) n
   |none=>ts
def retD (C:Cx K) (res:List (Nat×Option Nat)) (rs:List Nat) (p:List (DV K)→Prop):AEx→TS K→Prop
 | .x _,_=>False
 | _,ts=>match ydX (retF C res ts 9) res with
   |some vs=>outR C rs vs p
   |none=>False
def entT (C:Cx K):List PD→List (AD K)→Nat→List (Nat×TV K)
 | .v t::ps, .d (.v t' x)::env,i=>(i,if h:t'=t then inV C t (h▸x) else .un)::entT C ps env (i+1)
 | .p t::ps, .d (.v t' x)::env,i=>(i,if h:t'=t then .ep t [h▸x] 0 0 else .un)::entT C ps env (i+1)
 | .f az bs::ps, .f F::env,i=>(i, .fv az bs F)::entT C ps env (i+1)
 |_,_,_=> []
def eqR:List (DV K)→List (DV K)→Prop
 | [],[]=>True
 | [.v t x],[.v t' y]=>if h:t=t' then h▸x=y else False
 | .v t x::a, .v t' y::b=>(if h:t=t' then h▸x=y else False)/\eqR a b
 |_,_=>False
def frF (C:Cx K) (sp:Sl K) (ts:TS K):TS K:=match sp.fz with
 |true=>retF C sp.res ts 9
 |false=>ts
def retL (C:Cx K) (sp:Sl K) (ts0:TS K) (r:List (DV K)):AEx→TS K→Prop
 | .x _,_=>False
 | _,ts=>rdJ C sp.to (frF C sp ts) fun env=>match ydX (bdT C sp.to [] [] env) sp.res with
   |some _=>kpt ts0 (bdT C sp.to [] [] env) sp.kp (eqDV (selL sp env) r)
   |none=>False
def DnL (F:Cf K) (A:An K) (c:AFn) (sp:Sl K) (fs:List (FV K)) (env r:List (DV K)):Prop:=
 Dn F A c.body (retL F.C sp (entL F.C sp fs env) r) (entL F.C sp fs env)
def DnF (F:Cf K) (A:An K) (c:AFn) (ps:List PD) (rs:List Nat) (env:List (AD K)) (r:List (DV K)):Prop:=
 Dn F A c.body (retD F.C c.res rs fun x=>eqR x r) ⟨entT F.C ps env 0,[],[],[],[]⟩
end Go.AV
end
noncomputable section
namespace Go.AV
open Go.RowKit Go.RG Go.Lib
mutual
def dwk:AV→AV
 | .sl _ n xs=> .sl false n (dwks xs)
 | .agg cs=> .agg (dwks cs)
 | .tup cs=> .tup (dwks cs)
 | .fn f a c=> .fn f (dwks a) (dwks c)
 | .ep xs off=> .ep (dwks xs) off
 |u=>u
def dwks:List AV→List AV
 | []=> []
 |u::r=>dwk u::dwks r
end
theorem ydZ:∀(l:List AV),dwks l=l.map dwk
 | []=>rfl
 |x::l=>by simp only[dwks,List.map_cons,ydZ l]
theorem yfg (l:List AV) (j:Nat) (u:AV) (h:(dwks l)[j]? =some u):∃v,l[j]? =some v∧u=dwk v:=by
 rw[ydZ,List.getElem?_map] at h
 obtain ⟨v,h1,h2⟩:=Option.map_eq_some_iff.1 h
 exact ⟨v,h1,h2.symm⟩
theorem ybI (l:List AV):(dwks l).length=l.length:=by rw[ydZ];simp
mutual
theorem yha:∀(u:AV),(dwk u).noL=u.noL
 | .agg cs=>by simp only[dwk,AV.noL];exact yeS cs
 | .tup cs=>by simp only[dwk,AV.noL];exact yeS cs
 | .fn f a c=>by simp only[dwk,AV.noL,yeS]
 | .sl z n xs=>rfl
 | .gs k n=>rfl
 | .pt k n=>rfl
 | .bl b=>rfl
 | .it k n=>rfl
 | .st s=>rfl
 | .nptr=>rfl
 | .ep xs off=>rfl
 | .nfn=>rfl
 | .un=>rfl
 | .yld o=>rfl
 | .rcd _ _ _ _ _=>rfl
theorem yeS:∀(l:List AV),noLs (dwks l)=noLs l
 | []=>rfl
 |x::l=>by simp only[dwks,noLs,yha,yeS]
end
theorem VR.dwk {G:Gh} {u:AV} {v:Value} (h:VR G u v):VR G (AV.dwk u) v:=by
 induction h with
 |agg cs vs hl h h1 ih=>exact .agg _ vs (by rw[ybI];exact hl) (fun j u x hu hx=>by obtain ⟨w,e1,rfl⟩:=yfg cs j u hu;exact ih j w x e1 hx) h1
 |tup cs vs hl h ih=>exact .tup _ vs (by rw[ybI];exact hl) (fun j u x hu hx=>by obtain ⟨w,e1,rfl⟩:=yfg cs j u hu;exact ih j w x e1 hx)
 |nsl z n xs hn hx=>exact .nsl false n _ hn (by rw[hx];rfl)
 |esl n xs hn hx a cap=>exact .esl n _ hn (by rw[hx];rfl) a cap
 |sl n xs b off cap f hI hc h h1 hn hm hq ih=>exact .sl n _ b off cap f hI (fun j u hu=>by obtain ⟨w,e1,rfl⟩:=yfg xs j u hu;exact hc j w e1) (fun j u hu=>by obtain ⟨w,e1,rfl⟩:=yfg xs j u hu;exact ih j w e1) (fun j u hu=>by obtain ⟨w,e1,rfl⟩:=yfg xs j u hu;exact h1 j w e1) hn hm (by rw[yeS];exact hq)
 |fn f a c va vc ha hc h h' ih ih'=>exact .fn f _ _ va vc (by rw[ybI];exact ha) (by rw[ybI];exact hc) (fun j u x hu hx=>by obtain ⟨w,e1,rfl⟩:=yfg a j u hu;exact ih j w x e1 hx) (fun j u x hu hx=>by obtain ⟨w,e1,rfl⟩:=yfg c j u hu;exact ih' j w x e1 hx)
 |bl b=>exact .bl b
 |it k n=>exact .it k n
 |st s b h=>exact .st s b h
 |gs k n b cap hk=>exact .gs k n b cap hk
 |gsd k n v hk h1=>exact .gsd k n v hk h1
 |nptr=>exact .nptr
 |pt k off b cap hk=>exact .pt k off b cap hk
 |ptd k off v hk h1=>exact .ptd k off v hk h1
 |ep xs off b base f hI hc h h1 hq ih=>exact .ep _ off b base f hI (fun j u hu=>by obtain ⟨w,e1,rfl⟩:=yfg xs j u hu;exact hc j w e1) (fun j u hu=>by obtain ⟨w,e1,rfl⟩:=yfg xs j u hu;exact ih j w e1) (fun j u hu=>by obtain ⟨w,e1,rfl⟩:=yfg xs j u hu;exact h1 j w e1) (by rw[yeS];exact hq)
 |nfn=>exact .nfn
 |yld o l cap hk=>exact .yld o l cap hk
 |yldd o v hk h1=>exact .yldd o v hk h1
 |un v=>exact .un v
theorem VRs.dwk {G:Gh} {us:List AV} {vs:List Value} (h:VRs G us vs):VRs G (dwks us) vs:=
 ⟨by rw[ybI];exact h.1,fun j u x hu hx=>by obtain ⟨w,e1,rfl⟩:=yfg us j u hu;exact (h.2 j w x e1 hx).dwk⟩
theorem ybc.dwkA {P:Program} {f:FuncId} {args:List AV} {H:Hp} {n:Nat} {Post:AV->Hp->Nat->Prop} (h:ybc P f (dwks args) H n Post):ybc P f args H n Post:=fun G vs hg hM hV=>h G vs hg hM hV.dwk
theorem ybc.dwkR {P:Program} {f:FuncId} {args:List AV} {H:Hp} {n:Nat} {Post:AV→Hp→Nat→Prop} (h:ybc P f args H n fun av H' n'=>Post (AV.dwk av) H' n'):ybc P f args H n Post:=fun G vs hg hM hV=>
 (h G vs hg hM hV).mono fun _ _ ⟨v,av,H',n',G',a1,a2,a3,a4,a5,a6⟩=>⟨v,AV.dwk av,H',n',G',a1,a2,a3,a4,a5.dwk,by rw[yha];exact a6⟩
theorem ypn {u:AV}:(dwk u).one=u.one:=by cases u<;>rfl
variable {K:Nat->Type}
structure RR (K:Nat→Type) where
 R:List RS->Hp->Nat->Prop
 L:Nat->Bool
instance:CoeFun (RR K) fun _=>List RS->Hp->Nat->Prop:=⟨RR.R⟩
def eV (C:Cx K) (t:Nat) (x:K t):AV:=match (C.T t).g with
 |true=> .agg ((C.E t).c x)
 |false=>((C.E t).c x).headD .un
def dvA (C:Cx K):DV K→AV
 | .v t x=>eV C t x
 |_=> .un
def ydJ:List AV→AV
 | [v]=>v
 |vs=> .tup vs
def FOk (P:Program) (C:Cx K) (F:FV K):Prop:=F.av.noL=true∧dwk F.av=F.av∧F.av.one=true∧
 ∃(f:Nat) (a c:List AV),F.av= .fn (.func f) a c/\∀(e r:List (DV K)),F.W e r->Pure P f (a++e.map (dvA C)++c) (ydJ (r.map (dvA C)))
def penc (C:Cx K):PD→AD K→AV
 | .p t, .d (.v t' x)=>if h:t'=t then .ep ((C.E t).c (h▸x)) 0 else .un
 |_, .d x=>dvA C x
 |_, .f F=>F.av
def ye6 (C:Cx K):List PD→List (AD K)→List AV
 |p::ps,x::xs=>penc C p x::ye6 C ps xs
 |_,_=> []
def SpOk (P:Program) (C:Cx K) (sp:Sp K):Prop:=∀(env:List (AD K)) (r:List (DV K)),(∀F,AD.f F∈env->FOk P C F)->sp.W env r->env.length=sp.ps.length/\Pure P sp.f (ye6 C sp.ps env) (ydJ (r.map (dvA C)))
def okr (ts:TS K) (s c:Nat):Prop:=c=1∨(c=2/\memB ts.nw s=true)
section
variable (P:Program) (C:Cx K) (ts:TS K) (χ:Nat->Nat->Bool)
inductive TR:TV K→AV→Prop
 |un (v:AV):TR .un v
 |lb (b:Bool):TR (.lb b) (.bl b)
 |bl (b:Bool):TR (.bl b) (.bl b)
 |li (k:IntKind) (n:Int):TR (.li k n) (.it k n)
 |it (k:IntKind) (n:Int):TR (.it k n) (.it k n)
 |st (s:Str):TR (.st s) (.st s)
 |agg (us:List (TV K)) (vs:List AV) (hl:vs.length=us.length) (h:∀(j:Nat) (u:TV K) (v:AV),us[j]? =some u->vs[j]? =some v->TR u v):TR (.agg us) (.agg vs)
 |tup (us:List (TV K)) (vs:List AV) (hl:vs.length=us.length) (h:∀(j:Nat) (u:TV K) (v:AV),us[j]? =some u->vs[j]? =some v->TR u v):TR (.tup us) (.tup vs)
 |nil:TR .nil (.sl true 0 [])
 |em (z:Bool):TR .em (.sl z 0 [])
 |sl (e:Nat) (l:List (K e)) (z:Bool) (n:Nat) (xs:List AV) (hn:n=l.length) (hx:dwks xs=cl (C.E e) l):TR (.sl e l) (.sl z n xs)
 |rwd (s c:Nat) (v:AV) (hr:okr ts s c) (h:tln (ts.tb s c)=none) (h1:v.one=true):TR (.rw s c) v
 |rw (s c n:Nat) (hr:okr ts s c) (h:tln (ts.tb s c)=some n) (hx:χ s c=false):TR (.rw s c) (.gs (.l s c) n)
 |rwn (s c:Nat) (hr:okr ts s c) (h:tln (ts.tb s c)=some 0) (hx:χ s c=true):TR (.rw s c) (.sl true 0 [])
 |px (s c off:Nat) (hr:okr ts s c):TR (.px s c off) (.pt (.l s c) off)
 |pr (e s c i of:Nat) (hr:okr ts s c) (hx:χ s c=false):TR (.pr e s c i of) (.pt (.l s c) (i*(C.E e).sz+of))
 |ep (e:Nat) (l:List (K e)) (i of:Nat) (xs:List AV) (hx:dwks xs=cl (C.E e) l):TR (.ep e l i of) (.ep xs (i*(C.E e).sz+of))
 |gs (l:List Str) (i:Nat) (xs:List AV) (hx:dwks xs=l.map .st):TR (.gs l i) (.ep xs i)
 |nptr:TR .nptr .nptr
 |fn (f:Nat) (a c:List (TV K)) (a' c':List AV) (ha:a'.length=a.length) (hc:c'.length=c.length) (h:∀(j:Nat) (u:TV K) (v:AV),a[j]? =some u→a'[j]? =some v→TR u v)
    (h':∀(j:Nat) (u:TV K) (v:AV),c[j]? =some u->c'[j]? =some v->TR u v):TR (.fn f a c) (.fn (.func f) a' c')
 |fv (ps rs:List Nat) (F:FV K) (v:AV) (h:FOk P C F) (hv:dwk v=F.av):TR (.fv ps rs F) v
 |yl (r:Nat):TR (.yl r) (.yld r)
 |cn (id:Nat) (u:TV K) (v:AV) (h:lkR ts.rg id=some u) (hn:ybi u=true) (hv:TR u v):TR (.cn id u) v
end
mutual
def noyV:TV K→Bool
 | .agg cs=>ycM cs
 | .tup cs=>ycM cs
 | .fn _ a c=>ycM a&&ycM c
 | .fv _ _ _=>false
 | .yl _=>false
 | .cn _ v=>noyV v
 |_=>true
def ycM:List (TV K)→Bool
 | []=>true
 |v::r=>noyV v&&ycM r
end
structure CxOk (P:Program) (C:Cx K):Prop where
 c:∀(t:Nat) (x:K t) ts χ,((C.E t).c x).length=((C.T t).c x).length/\∀(j:Nat) (u:TV K) (v:AV),((C.T t).c x)[j]? =some u->((C.E t).c x)[j]? =some v->TR P C ts χ u v
 rd:∀(t:Nat) (cs:List (TV K)) (x:K t) ts χ (vs:List AV),(C.T t).rd cs=some x->vs.length=cs.length->(∀(j:Nat) (u:TV K) (v:AV),cs[j]? =some u->vs[j]? =some v->TR P C ts χ u v)->dwks vs=(C.E t).c x
 g:∀t,(C.T t).g=false->(C.E t).sz=1
 dw:∀t (x:K t),dwks ((C.E t).c x)=(C.E t).c x
 tb:∀t f,(C.T t).tb=some f->∀x,∃n,(C.E t).c x= [.it .u8 n]/\f x=UInt8.ofNat n.toNat
 ob:∀t f,(C.T t).ob=some f->∀b:UInt8,(C.E t).c (f b)= [.it .u8 b.toNat]
 fl:∀t,(C.T t).fl=true->∀x,yhe ((C.E t).c x)=true
 nr:∀t x,ybQ ((C.T t).c x)=true
 hl:∀t x m,hlts m ((C.E t).c x)=true
 ny:∀t x,ycM ((C.T t).c x)=true
section
variable {P:Program} {C:Cx K} {R:RR K} {ts ts':TS K} {χ χ':Nat->Nat->Bool}
theorem TR.s {u:TV K} {v:AV} (h:TR P C ts χ u v):TR P C ts χ u.s v:=by
 cases h with
 |cn id u v h hn hv=>exact hv
 |un v=>exact .un v
 |lb b=>exact .lb b
 |bl b=>exact .bl b
 |li k n=>exact .li k n
 |it k n=>exact .it k n
 |st s=>exact .st s
 |agg us vs hl h=>exact .agg us vs hl h
 |tup us vs hl h=>exact .tup us vs hl h
 |nil=>exact .nil
 |em z=>exact .em z
 |sl e l z n xs hn hx=>exact .sl e l z n xs hn hx
 |rwd s c v hr h h1=>exact .rwd s c v hr h h1
 |rw s c n hr h hx=>exact .rw s c n hr h hx
 |rwn s c hr h hx=>exact .rwn s c hr h hx
 |px s c off hr=>exact .px s c off hr
 |pr e s c i of hr hx=>exact .pr e s c i of hr hx
 |ep e l i of xs hx=>exact .ep e l i of xs hx
 |gs l i xs hx=>exact .gs l i xs hx
 |nptr=>exact .nptr
 |fn f a c a' c' ha hc h h'=>exact .fn f a c a' c' ha hc h h'
 |fv ps rs F v h hv=>exact .fv ps rs F v h hv
 |yl r=>exact .yl r
structure Mono (ts ts':TS K) (χ χ':Nat→Nat→Bool):Prop where
 rg:∀id u,lkR ts.rg id=some u->lkR ts'.rg id=some u
 ok:∀s c,okr ts s c->okr ts' s c
 pl:∀s c,okr ts s c->(tln (ts'.tb s c)=none/\χ' s c=false)∨(tln (ts'.tb s c)=tln (ts.tb s c)/\χ' s c=χ s c)
theorem TR.mono (hm:Mono ts ts' χ χ') {u:TV K} {v:AV} (h:TR P C ts χ u v):TR P C ts' χ' u v:=by
 induction h with
 |cn id u v h hn _ ih=>exact .cn id u v (hm.rg id u h) hn ih
 |un v=>exact .un v
 |lb b=>exact .lb b
 |bl b=>exact .bl b
 |li k n=>exact .li k n
 |it k n=>exact .it k n
 |st s=>exact .st s
 |agg us vs hl _ ih=>exact .agg us vs hl ih
 |tup us vs hl _ ih=>exact .tup us vs hl ih
 |nil=>exact .nil
 |em z=>exact .em z
 |sl e l z n xs hn hx=>exact .sl e l z n xs hn hx
 | rwd s c v hr h ho=>
   refine .rwd s c v (hm.ok s c hr) ?_ ho
   rcases hm.pl s c hr with h1|h1
   ·exact h1.1
   ·rw[h1.1];exact h
 | rw s c n hr h hx=>
   rcases hm.pl s c hr with h1|h1
   ·exact .rwd s c _ (hm.ok s c hr) h1.1 rfl
   ·exact .rw s c n (hm.ok s c hr) (by rw[h1.1];exact h) (by rw[h1.2];exact hx)
 | rwn s c hr h hx=>
   rcases hm.pl s c hr with h1|h1
   ·exact .rwd s c _ (hm.ok s c hr) h1.1 rfl
   ·exact .rwn s c (hm.ok s c hr) (by rw[h1.1];exact h) (by rw[h1.2];exact hx)
 |px s c off hr=>exact .px s c off (hm.ok s c hr)
 | pr e s c i of hr hx=>
   refine .pr e s c i of (hm.ok s c hr) ?_
   rcases hm.pl s c hr with h1|h1
   ·exact h1.2
   ·rw[h1.2];exact hx
 |ep e l i of xs hx=>exact .ep e l i of xs hx
 |gs l i xs hx=>exact .gs l i xs hx
 |nptr=>exact .nptr
 |fn f a c a' c' ha hc _ _ ih ih'=>exact .fn f a c a' c' ha hc ih ih'
 |fv ps rs F v h hv=>exact .fv ps rs F v h hv
 |yl r=>exact .yl r
theorem Mono.refl:Mono ts ts χ χ:=⟨fun _ _ h=>h,fun _ _ h=>h,fun _ _ _=> .inr ⟨rfl,rfl⟩⟩
theorem Mono.put {d:Option Nat} {u:TV K}:Mono ts (ts.put d u) χ χ:=by
 cases d with
 |none=>exact .refl
 |some d=>exact ⟨fun _ _ h=>h,fun _ _ h=>h,fun _ _ _=> .inr ⟨rfl,rfl⟩⟩
theorem Mono.trans {ts'':TS K} {χ'':Nat→Nat→Bool} (h:Mono ts ts' χ χ') (k:Mono ts' ts'' χ' χ'') (hv:∀s c,tln (ts'.tb s c)=none→χ' s c=false→tln (ts''.tb s c)=none∧χ'' s c=false):Mono ts ts'' χ χ'':=
 ⟨fun _ _ q=>k.rg _ _ (h.rg _ _ q),fun _ _ q=>k.ok _ _ (h.ok _ _ q),fun s c q=>by
   rcases h.pl s c q with h1|h1
   ·exact .inl (hv s c h1.1 h1.2)
   ·rcases k.pl s c (h.ok s c q) with h2|h2
    ·exact .inl h2
    ·exact .inr ⟨h2.1.trans h1.1,h2.2.trans h1.2⟩⟩
theorem TR.noref {u:TV K} {v:AV} (h:TR P C ts χ u v):ybi u=true→TR P C ts' χ' u v∧v.noL=true:=by
 have hL:∀ {us:List (TV K)} {vs:List AV},vs.length=us.length→ybQ us=true→(∀(j:Nat) (u:TV K) (v:AV),us[j]? =some u→vs[j]? =some v→ybi u=true→TR P C ts' χ' u v∧v.noL=true)→
   (∀(j:Nat) (u:TV K) (v:AV),us[j]? =some u->vs[j]? =some v->TR P C ts' χ' u v)/\noLs vs=true:=by
  intro us
  induction us with
  |nil=>intro vs hl _ _;exact ⟨fun j u v h=>by simp at h,by cases vs with|nil=>rfl|cons x r=>simp at hl⟩
  | cons x r ih=>
    intro vs hl hn hh
    cases vs with
    |nil=>simp at hl
    | cons y q=>
      simp only[ybQ,Bool.and_eq_true] at hn
      obtain ⟨a1,a2⟩:=ih (vs:=q) (by simpa using hl) hn.2 (fun j u v h1 h2=>hh (j+1) u v (by simpa using h1) (by simpa using h2))
      obtain ⟨b1,b2⟩:=hh 0 x y rfl rfl hn.1
      refine ⟨fun j u v h1 h2=> ?_,by simp[noLs,a2,b2]⟩
      cases j with
      |zero=>simp at h1 h2;subst h1;subst h2;exact b1
      |succ j=>exact a1 j u v (by simpa using h1) (by simpa using h2)
 induction h with
 |cn id u v h _ _ ih=>intro hn;simp[ybi] at hn
 |un v=>intro hn;simp[ybi] at hn
 |lb b=>exact fun _=>⟨.lb b,rfl⟩
 |bl b=>exact fun _=>⟨.bl b,rfl⟩
 |li k n=>exact fun _=>⟨.li k n,rfl⟩
 |it k n=>exact fun _=>⟨.it k n,rfl⟩
 |st s=>exact fun _=>⟨.st s,rfl⟩
 | agg us vs hl _ ih=>
   intro hn
   obtain ⟨a,b⟩:=hL hl (by simpa only[ybi] using hn) ih
   exact ⟨.agg us vs hl a,by simpa only[AV.noL] using b⟩
 | tup us vs hl _ ih=>
   intro hn
   obtain ⟨a,b⟩:=hL hl (by simpa only[ybi] using hn) ih
   exact ⟨.tup us vs hl a,by simpa only[AV.noL] using b⟩
 |nil=>exact fun _=>⟨.nil,rfl⟩
 |em z=>exact fun _=>⟨.em z,rfl⟩
 |sl e l z n xs hn hx=>exact fun _=>⟨.sl e l z n xs hn hx,rfl⟩
 |rwd s c v hr h h1=>intro hn;simp[ybi] at hn
 |rw s c n hr h hx=>intro hn;simp[ybi] at hn
 |rwn s c hr h hx=>intro hn;simp[ybi] at hn
 |px s c off hr=>intro hn;simp[ybi] at hn
 |pr e s c i of hr hx=>intro hn;simp[ybi] at hn
 |ep e l i of xs hx=>exact fun _=>⟨.ep e l i of xs hx,rfl⟩
 |gs l i xs hx=>exact fun _=>⟨.gs l i xs hx,rfl⟩
 |nptr=>exact fun _=>⟨.nptr,rfl⟩
 | fn f a c a' c' ha hc _ _ ih ih'=>
   intro hn
   simp only[ybi,Bool.and_eq_true] at hn
   obtain ⟨a1,a2⟩:=hL ha hn.1 ih
   obtain ⟨b1,b2⟩:=hL hc hn.2 ih'
   exact ⟨.fn f a c a' c' ha hc a1 b1,by simp[AV.noL,a2,b2]⟩
 |fv ps rs F v h hv=>exact fun _=>⟨.fv ps rs F v h hv,by rw[<-yha,hv];exact h.1⟩
 |yl r=>exact fun _=>⟨.yl r,rfl⟩
variable (P C ts χ) in
def MR (b:TB K) (kb:KB):Prop:=match b with
 | .box e cs=>kb.e=e/\kb.sz=cs.length/\kb.cells.length=cs.length/\∀(j:Nat) (u:TV K) (v:AV),cs[j]? =some u->kb.cells[j]? =some v->TR P C ts χ u v
 | .row e l=>kb.e=e/\kb.sz=(C.E e).sz/\dwks kb.cells=cl (C.E e) l
 | .lrow e n cs=>kb.e=e/\kb.sz=(C.E e).sz/\kb.cells.length=cs.length/\cs.length=n*(C.E e).sz/\∀(j:Nat) (u:TV K) (v:AV),cs[j]? =some u->kb.cells[j]? =some v->TR P C ts χ u v
theorem MR.mono (hm:Mono ts ts' χ χ') {b:TB K} {kb:KB} (h:MR P C ts χ b kb):MR P C ts' χ' b kb:=by
 cases b with
 |box e cs=>exact ⟨h.1,h.2.1,h.2.2.1,fun j u v a b=>(h.2.2.2 j u v a b).mono hm⟩
 |row e l=>exact h
 |lrow e n cs=>exact ⟨h.1,h.2.1,h.2.2.1,h.2.2.2.1,fun j u v a b=>(h.2.2.2.2 j u v a b).mono hm⟩
variable (P C R ts χ) in
structure GM (ds:DS):Prop where
 fr:∀t,TR P C ts χ (lkT ts.fr t) (lkF ds.fr t)
 mb:∀s c b,ts.tb s c=some b->χ s c=false->∃kb,ds.kb s c=some kb/\MR P C ts χ b kb
 vi:∀s c,χ s c=true->∃e,ts.tb s c=some (.row e [])
 nw:∀s,memB ts.nw s=false->memO ds.nw s=false
 hp:R ts.h ds.H ds.nx
 lv:∀s b,2000000<=s->ts.tb s 1=some b->R.L s=χ s 1
theorem ycn (fr:List (Nat×TV K)) (d t:Nat) (u:TV K):lkT ((d,u)::fr) t=if d=t then u else lkT fr t:=by
 show (match Nat.beq d t with|true=>u|false=>lkT fr t)=_
 cases h:Nat.beq d t with
 |true=>simp[nbeq.1 h]
 |false=>simp only;rw[if_neg (fun e=>by rw[nbeq.2 e] at h;cases h)]
theorem GM.put {ds:DS} (h:GM P C R ts χ ds) {d:Option Nat} {u:TV K} {v:AV} (hv:TR P C ts χ u v):GM P C R (ts.put d u) χ (ds.put d v):=by
 cases d with
 |none=>exact h
 | some d=>
   refine ⟨fun t=>TR.mono Mono.put ?_,fun s c b hb hx=> ?_,h.vi,h.nw,h.hp,h.lv⟩
   ·show TR P C ts χ (lkT ((d,u)::ts.fr) t) (lkF ((d,v)::ds.fr) t)
    rw[ycn,yby]
    simp only
    split
    ·exact hv
    ·exact h.fr t
   ·obtain ⟨kb,h1,h2⟩:=h.mb s c b hb hx
    exact ⟨kb,by rw[<-h1];rfl,h2.mono Mono.put⟩
theorem yxV:∀ {cs:List AV} {l:List Str},yqD cs=some l→cs=l.map .st:=by
 intro cs
 induction cs with
 |nil=>intro l h;simp[yqD] at h;subst h;rfl
 | cons x cs ih=>
   intro l h
   cases x with
   | st s=>
     simp only[yqD] at h
     cases h':yqD cs with
     |none=>rw[h'] at h;simp at h
     |some m=>rw[h'] at h;simp at h;subst h;rw[ih h'];rfl
   |_=>simp[yqD] at h
theorem yvA (l:List Str):dwks (l.map AV.st)=l.map AV.st:=by
 induction l with
 |nil=>rfl
 |cons s l ih=>simp only[List.map_cons,dwks,ih];rfl
mutual
theorem yyz:∀(v:AV),TR P C ts χ (cvA v) v
 | .bl b=> .lb b
 | .it k n=> .li k n
 | .st s=> .st s
 | .agg cs=>by rw[cvA];exact .agg _ _ (ykH cs).1 (ykH cs).2
 | .tup cs=>by rw[cvA];exact .tup _ _ (ykH cs).1 (ykH cs).2
 | .sl true 0 []=> .nil
 | .sl true (n+1) xs=> .un _
 | .sl true 0 (x::xs)=> .un _
 | .sl false n xs=> .un _
 | .nptr=> .nptr
 | .fn (.func f) [] []=> .fn f [] [] [] [] rfl rfl (fun j u v h=>by simp at h) (fun j u v h=>by simp at h)
 | .fn (.func f) (a::r) c=> .un _
 | .fn (.func f) [] (a::r)=> .un _
 | .fn (.method n) a c=> .un _
 | .fn (.methodOf t n) a c=> .un _
 | .fn (.via t a b p) _ _=> .un _
 | .fn (.yield l) a c=> .un _
 | .gs k n=> .un _
 | .pt k n=> .un _
 | .ep xs off=>by
   rw[cvA]
   cases h:yqD xs with
   |none=>exact .un _
   |some l=>exact .gs l off xs (by rw[yxV h];exact yvA l)
 | .nfn=> .un _
 | .un=> .un _
 | .yld o=> .un _
 | .rcd _ _ _ _ _=> .un _
theorem ykH:∀(l:List AV),l.length=(cvAs (K:=K) l).length∧∀(j:Nat) (u:TV K) (v:AV),(cvAs l)[j]? =some u→l[j]? =some v→TR P C ts χ u v
 | []=>⟨rfl,fun j u v h=>by simp[cvAs] at h⟩
 | x::l=>by
   obtain ⟨a,b⟩:=ykH l
   refine ⟨by simp[cvAs,<-a],fun j u v h1 h2=> ?_⟩
   cases j with
   |zero=>simp[cvAs] at h1 h2;subst h1;subst h2;exact yyz x
   |succ j=>exact b j u v (by simpa [cvAs] using h1) (by simpa using h2)
end
theorem GM.tea {ds:DS} (h:GM P C R ts χ ds) (x:AOpd):TR P C ts χ (Go.AV.tea ts.fr x) (ev (lkF ds.fr) x):=by
 cases x with
 |t n=>exact h.fr n
 |c v=>exact yyz v
theorem GM.tev {ds:DS} (h:GM P C R ts χ ds) (x:AOpd):TR P C ts χ (Go.AV.tev ts.fr x) (ev (lkF ds.fr) x):=(h.tea x).s
theorem TR.int {u:TV K} {v:AV} {k:IntKind} {n:Int} (h:TR P C ts χ u v) (e:tint u=some (k,n)):v= .it k n:=by
 cases h<;>first|(simp[tint] at e;obtain ⟨rfl,rfl⟩:=e;rfl)|(simp[tint] at e;done)
theorem TR.bool {u:TV K} {v:AV} {b:Bool} (h:TR P C ts χ u v) (e:tbo u=some b):v= .bl b:=by
 cases h<;>first|(simp[tbo] at e;subst e;rfl)|(simp[tbo] at e;done)
end
end Go.AV
end
noncomputable section
namespace Go.AV
open Go.RowKit Go.RG Go.Lib
variable {K:Nat->Type}
def VW (u v:AV):Prop:=∀(G:Gh) (x:Value),VR G u x->VR G v x
theorem VW.refl (u:AV):VW u u:=fun _ _ h=>h
theorem VW.trans {u v w:AV} (h:VW u v) (k:VW v w):VW u w:=fun G x q=>k G x (h G x q)
theorem VW.un (u:AV):VW u .un:=fun _ x _=> .un x
theorem VW.dwk (u:AV):VW u (AV.dwk u):=fun _ _ h=>h.dwk
def VWs (us vs:List AV):Prop:=us.length=vs.length/\∀(j:Nat) (u v:AV),us[j]? =some u->vs[j]? =some v->VW u v
theorem VW.agg {us vs:List AV} (h:VWs us vs):VW (.agg us) (.agg vs):=fun G x hx=>by
 obtain ⟨xs,e,h1,h2,h3⟩:=hx.agg_inv
 rw[e]
 refine .agg vs xs (by rw[h1,h.1]) (fun j u x hu hx=> ?_) h3
 have hj:j<us.length:=by rw[h.1];exact (List.getElem?_eq_some_iff.1 hu).1
 exact h.2 j us[j] u (List.getElem?_eq_getElem hj) hu G x (h2 j _ x (List.getElem?_eq_getElem hj) hx)
theorem VW.tup {us vs:List AV} (h:VWs us vs):VW (.tup us) (.tup vs):=fun G x hx=>by
 obtain ⟨xs,e,h1,h2⟩:=hx.tup_inv
 rw[e]
 refine .tup vs xs (by rw[h1,h.1]) (fun j u x hu hx=> ?_)
 have hj:j<us.length:=by rw[h.1];exact (List.getElem?_eq_some_iff.1 hu).1
 exact h.2 j us[j] u (List.getElem?_eq_getElem hj) hu G x (h2 j _ x (List.getElem?_eq_getElem hj) hx)
theorem VW.fn {f:Fn} {us vs us' vs':List AV} (h:VWs us vs) (h':VWs us' vs'):VW (.fn f us us') (.fn f vs vs'):=fun G x hx=>by
 obtain ⟨xa,xc,e,h1,h2,h3,h4⟩:=hx.fn_inv
 rw[e]
 refine .fn f vs vs' xa xc (by rw[h1,h.1]) (by rw[h2,h'.1]) (fun j u x hu hx=> ?_) (fun j u x hu hx=> ?_)
 ·have hj:j<us.length:=by rw[h.1];exact (List.getElem?_eq_some_iff.1 hu).1
  exact h.2 j us[j] u (List.getElem?_eq_getElem hj) hu G x (h3 j _ x (List.getElem?_eq_getElem hj) hx)
 ·have hj:j<us'.length:=by rw[h'.1];exact (List.getElem?_eq_some_iff.1 hu).1
  exact h'.2 j us'[j] u (List.getElem?_eq_getElem hj) hu G x (h4 j _ x (List.getElem?_eq_getElem hj) hx)
mutual
def aT (C:Cx K) (ts:TS K) (χ:Nat→Nat→Bool):TV K→AV
 | .lb b=> .bl b
 | .bl b=> .bl b
 | .li k n=> .it k n
 | .it k n=> .it k n
 | .st s=> .st s
 | .agg cs=> .agg (aTs C ts χ cs)
 | .tup cs=> .tup (aTs C ts χ cs)
 | .nil=> .sl true 0 []
 | .em=> .sl false 0 []
 | .sl e l=>slA (C.E e) l
 | .rw s c=>match tln (ts.tb s c) with
   | some n=>match χ s c with
     |true=> .sl true 0 []
     |false=> .gs (.l s c) n
   |none=> .un
 | .px s c o=> .pt (.l s c) o
 | .pr e s c i of=> .pt (.l s c) (i*(C.E e).sz+of)
 | .ep e l i of=> .ep (cl (C.E e) l) (i*(C.E e).sz+of)
 | .gs l i=> .ep (l.map .st) i
 | .nptr=> .nptr
 | .fn f a c=> .fn (.func f) (aTs C ts χ a) (aTs C ts χ c)
 | .fv _ _ F=>F.av
 | .yl r=> .yld r
 | .cn _ v=>aT C ts χ v
 | .un=> .un
def aTs (C:Cx K) (ts:TS K) (χ:Nat→Nat→Bool):List (TV K)→List AV
 | []=> []
 |v::r=>aT C ts χ v::aTs C ts χ r
end
theorem ycZ (C:Cx K) (ts:TS K) (χ:Nat→Nat→Bool):∀l:List (TV K),aTs C ts χ l=l.map (aT C ts χ)
 | []=>rfl
 |u::r=>by rw[aTs,ycZ C ts χ r];rfl
section
variable {P:Program} {C:Cx K} {ts:TS K} {χ:Nat->Nat->Bool}
theorem TR.canon {u:TV K} {v:AV} (h:TR P C ts χ u v):VW v (aT C ts χ u):=by
 have hL:∀ {us:List (TV K)} {vs:List AV},vs.length=us.length→(∀(j:Nat) (u:TV K) (v:AV),us[j]? =some u→vs[j]? =some v→VW v (aT C ts χ u))→VWs vs (aTs C ts χ us):=by
  intro us vs hl ih
  refine ⟨by rw[ycZ,List.length_map];exact hl,fun j v w hv hw=> ?_⟩
  rw[ycZ,List.getElem?_map] at hw
  obtain ⟨u,h1,rfl⟩:=Option.map_eq_some_iff.1 hw
  exact ih j u v h1 hv
 induction h with
 |un v=>exact VW.un v
 |lb b=>exact .refl _
 |bl b=>exact .refl _
 |li k n=>exact .refl _
 |it k n=>exact .refl _
 |st s=>exact .refl _
 |agg us vs hl _ ih=>simp only[aT];exact VW.agg (hL hl ih)
 |tup us vs hl _ ih=>simp only[aT];exact VW.tup (hL hl ih)
 |nil=>exact .refl _
 |em z=>exact VW.dwk (.sl z 0 [])
 | sl e l z n xs hn hx=>
   subst hn
   have:=VW.dwk (.sl z l.length xs)
   simp only[AV.dwk] at this
   rw[hx] at this
   exact this
 |rwd s c v hr h h1=>simp only[aT,h];exact VW.un v
 |rw s c n hr h hx=>simp only[aT,h,hx];exact .refl _
 |rwn s c hr h hx=>simp only[aT,h,hx];exact .refl _
 |px s c off hr=>exact .refl _
 |pr e s c i of hr hx=>exact .refl _
 | ep e l i of xs hx=>
   have:=VW.dwk (.ep xs (i*(C.E e).sz+of))
   simp only[AV.dwk] at this
   rw[hx] at this
   exact this
 | gs l i xs hx=>
   have:=VW.dwk (.ep xs i)
   simp only[AV.dwk] at this
   rw[hx] at this
   exact this
 |nptr=>exact .refl _
 |fn f a c a' c' ha hc _ _ ih ih'=>simp only[aT];exact VW.fn (hL ha ih) (hL hc ih')
 |fv ps rs F v h hv=>simp only[aT];rw[<-hv];exact VW.dwk v
 |yl r=>exact .refl _
 |cn id u v h hn _ ih=>simp only[aT];exact ih
end
def BW:Option Blk→Option Blk→Prop
 |none,none=>True
 |some b,some b'=>b.sz≠0/\b'.sz=b.sz/\b'.e=b.e/\VWs b.cells b'.cells
 |_,_=>False
theorem MRel.canon {B:Base} {S S':St} {G:Gh} (h:MRel B S G) (hc:S'.cnt=S.cnt) (hn:S'.nx=S.nx) (hh:∀o,S'.M (.h o)=S.M (.h o)) (hl:∀d c,BW (S.M (.l d c)) (S'.M (.l d c))):MRel B S' G:=by
 have hold:∀k,ycc S' k↔ycc S k:=fun k=>by cases k<;>simp only[ycc,hc,hn]
 have hnone:∀k,S'.M k=none↔S.M k=none:=by
  intro k
  cases k with
  |h o=>rw[hh]
  | l d c=>
    have:=hl d c
    cases h1:S.M (.l d c)<;>cases h2:S'.M (.l d c)<;>rw[h1,h2] at this<;>first|exact this.elim|simp
 refine {h with blk:= ?_,dead:=fun k=>(h.dead k).trans ?_,live:=fun k b hb=> ?_,nx:=by rw[hn];exact h.nx,hno:=fun k b hb=> ?_}
 ·intro k
  cases k with
  |h o=>rw[hh];exact h.blk _
  | l d c =>
    have h1:=h.blk (.l d c)
    have h2:=hl d c
    cases hb:S.M (.l d c) with
    | none=>
      cases hb':S'.M (.l d c) with
      |none=>rw[hb] at h1;exact h1
      |some b'=>rw[hb,hb'] at h2;exact h2.elim
    | some b=>
      cases hb':S'.M (.l d c) with
      |none=>rw[hb,hb'] at h2;exact h2.elim
      | some b'=>
        rw[hb] at h1;rw[hb,hb'] at h2
        obtain ⟨z,e1,e2,e3,e4⟩:=h2
        cases hk:G.κ (.l d c) with
        |none=>rw[hk] at h1;exact h1.elim
        | some r=>
          rw[hk] at h1
          obtain ⟨cur,c1,c2,c3,c4,c5,c6,c7⟩:=(yar.cell z).1 h1
          refine (yar.cell (by rw[e1];exact z)).2 ⟨cur,by rw[e2];exact c1,by rw[e1];exact c2,c3,by rw[e1];exact c4,by rw[<-e3];exact c5,fun j u x p q=> ?_,fun j x p q=>c7 j x (by rw[e3];exact p) q⟩
          have hj:j<b.cells.length:=by rw[e3];exact (List.getElem?_eq_some_iff.1 p).1
          exact e4 j _ u (List.getElem?_eq_getElem hj) p G x (c6 j _ x (List.getElem?_eq_getElem hj) q)
 ·unfold ydu;rw[hold,hnone]
 ·refine (hold k).2 ?_
  cases hb0:S.M k with
  |none=>rw[(hnone k).2 hb0] at hb;cases hb
  |some b0=>exact h.live k b0 hb0
 ·cases k with
  |h o=>rw[hh] at hb;exact h.hno _ b hb
  |l d c=>rfl
theorem ybf.weak {P:Program} {f:FuncId} {args args':List AV} {mem mem':Nat→Option Blk} {H:Hp} {n:Nat} {Post:AV→St→Prop} (h:ybf P f args' mem' H n Post) (ha:VWs args args') (hm:∀d,BW (mem d) (mem' d)):ybf P f args mem H n Post:=by
 intro G vs hg hM hV
 refine h G vs hg (hM.canon rfl rfl (fun _=>rfl) fun d c=> ?_) ⟨hV.1.trans ha.1,fun j u x p q=> ?_⟩
 ·show BW (if c=1 then mem d else none) (if c=1 then mem' d else none)
  split
  ·exact hm d
  ·trivial
 ·have hj:j<args.length:=by rw[ha.1];exact (List.getElem?_eq_some_iff.1 p).1
  exact ha.2 j _ u (List.getElem?_eq_getElem hj) p G x (hV.2 j _ x (List.getElem?_eq_getElem hj) q)
theorem ybf.canon {P:Program} {f:FuncId} {args:List AV} {mem:Nat→Option Blk} {H:Hp} {n:Nat} {Post Post':AV→St→Prop} (h:ybf P f args mem H n Post)
  (hp:∀av S1,Post av S1->∃av' S1',VW av av'/\S1'.cnt=S1.cnt/\S1'.nx=S1.nx/\(∀o,S1'.M (.h o)=S1.M (.h o))/\(∀d c,BW (S1.M (.l d c)) (S1'.M (.l d c)))/\Post' av' S1'):ybf P f args mem H n Post':=by
 intro G vs hg hM hV
 refine (h G vs hg hM hV).mono ?_
 rintro e w' ⟨v,av,S1,G1,rfl,hP,hM1,hw,hv⟩
 obtain ⟨av',S1',a1,a2,a3,a4,a5,a6⟩:=hp av S1 hP
 exact ⟨v,av',S1',G1,rfl,a6,hM1.canon a2 a3 a4 a5,hw,a1 G1 v hv⟩
def bT (C:Cx K) (ts:TS K) (χ:Nat→Nat→Bool):TB K→Blk
 | .box e cs=>⟨e,cs.length,aTs C ts χ cs⟩
 | .row e l=>⟨e,(C.E e).sz,cl (C.E e) l⟩
 | .lrow e _ cs=>⟨e,(C.E e).sz,aTs C ts χ cs⟩
theorem MR.canon {P:Program} {C:Cx K} {ts:TS K} {χ:Nat→Nat→Bool} {b:TB K} {kb:KB} (h:MR P C ts χ b kb) (hz:kb.sz≠0):BW (some kb.blk) (some (bT C ts χ b)):=by
 have hL:∀ {us:List (TV K)} {vs:List AV},vs.length=us.length→(∀(j:Nat) (u:TV K) (v:AV),us[j]? =some u→vs[j]? =some v→TR P C ts χ u v)→VWs vs (aTs C ts χ us):=by
  intro us vs hl ih
  refine ⟨by rw[ycZ,List.length_map];exact hl,fun j v w hv hw=> ?_⟩
  rw[ycZ,List.getElem?_map] at hw
  obtain ⟨u,h1,rfl⟩:=Option.map_eq_some_iff.1 hw
  exact (ih j u v h1 hv).canon
 cases b with
 |box e cs=>exact ⟨hz,h.2.1.symm,h.1.symm,hL h.2.2.1 h.2.2.2⟩
 | row e l=>
   refine ⟨hz,h.2.1.symm,h.1.symm,?_⟩
   show VWs kb.cells (cl (C.E e) l)
   rw[<-h.2.2]
   refine ⟨(ybI _).symm,fun j u v hu hv=> ?_⟩
   obtain ⟨w,e1,rfl⟩:=yfg _ j v hv
   rw[show kb.cells[j]? =some u from hu] at e1;cases e1
   exact VW.dwk u
 |lrow e n cs=>exact ⟨hz,h.2.1.symm,h.1.symm,hL h.2.2.1 h.2.2.2.2⟩
mutual
def alv (ts:TS K):TV K→Bool
 | .agg cs=>alvs ts cs
 | .tup cs=>alvs ts cs
 | .fn _ a c=>alvs ts a&&alvs ts c
 | .rw s c=>(tln (ts.tb s c)).isSome
 | .cn _ v=>alv ts v
 |_=>true
def alvs (ts:TS K):List (TV K)→Bool
 | []=>true
 |v::r=>alv ts v&&alvs ts r
end
section
variable {P:Program} {C:Cx K} {ts:TS K} {χ:Nat->Nat->Bool}
theorem yml (hC:CxOk P C) (e:Nat) (l:List (K e)):dwks (cl (C.E e) l)=cl (C.E e) l:=by
 rw[ydZ]
 unfold cl
 rw[List.map_flatMap]
 congr 1
 funext x
 rw[<-ydZ]
 exact hC.dw e x
theorem yAR {us:List (TV K)} (h:alvs ts us=true) {j:Nat} {u:TV K} (hu:us[j]? =some u):alv ts u=true:=by
 induction us generalizing j with
 |nil=>simp at hu
 | cons x us ih=>
   simp only[alvs,Bool.and_eq_true] at h
   cases j with
   |zero=>simp at hu;subst hu;exact h.1
   |succ j=>exact ih h.2 (by simpa using hu)
theorem TR.self (hC:CxOk P C) {u:TV K} {v:AV} (h:TR P C ts χ u v):alv ts u=true→TR P C ts χ u (aT C ts χ u):=by
 have hL:∀ {us:List (TV K)} {vs:List AV},vs.length=us.length→alvs ts us=true→(∀(j:Nat) (u:TV K) (v:AV),us[j]? =some u→vs[j]? =some v→alv ts u=true→TR P C ts χ u (aT C ts χ u))→∀(j:Nat) (u:TV K) (v:AV),us[j]? =some u→(aTs C ts χ us)[j]? =some v→TR P C ts χ u v:=by
  intro us vs hl ha ih j u v hu hv
  rw[ycZ,List.getElem?_map,hu] at hv
  cases hv
  have hj:j<vs.length:=by rw[hl];exact (List.getElem?_eq_some_iff.1 hu).1
  exact ih j u _ hu (List.getElem?_eq_getElem hj) (yAR ha hu)
 have hlen:∀us:List (TV K),(aTs C ts χ us).length=us.length:=fun us=>by rw[ycZ,List.length_map]
 induction h with
 |un v=>exact fun _=> .un _
 |lb b=>exact fun _=> .lb b
 |bl b=>exact fun _=> .bl b
 |li k n=>exact fun _=> .li k n
 |it k n=>exact fun _=> .it k n
 |st s=>exact fun _=> .st s
 |agg us vs hl _ ih=>intro ha;simp only[aT];exact .agg us _ (hlen us) (hL hl (by simpa only[alv] using ha) ih)
 |tup us vs hl _ ih=>intro ha;simp only[aT];exact .tup us _ (hlen us) (hL hl (by simpa only[alv] using ha) ih)
 |nil=>exact fun _=> .nil
 |em z=>exact fun _=> .em false
 |sl e l z n xs hn hx=>exact fun _=> .sl e l false _ _ rfl (yml hC e l)
 |rwd s c v hr h h1=>intro ha;simp[alv,h] at ha
 |rw s c n hr h hx=>intro _;simp only[aT,h,hx];exact .rw s c n hr h hx
 |rwn s c hr h hx=>intro _;simp only[aT,h,hx];exact .rwn s c hr h hx
 |px s c off hr=>exact fun _=> .px s c off hr
 |pr e s c i of hr hx=>exact fun _=> .pr e s c i of hr hx
 |ep e l i of xs hx=>exact fun _=> .ep e l i of _ (yml hC e l)
 |gs l i xs hx=>exact fun _=> .gs l i _ (yvA l)
 |nptr=>exact fun _=> .nptr
 |fn f a c a' c' hla hlc _ _ ih ih'=>intro ha;simp only[alv,Bool.and_eq_true] at ha;simp only[aT];exact .fn f a c _ _ (hlen a) (hlen c) (hL hla ha.1 ih) (hL hlc ha.2 ih')
 |fv ps rs F v h hv=>exact fun _=> .fv ps rs F _ h h.2.1
 |yl r=>exact fun _=> .yl r
 |cn id u v h hn _ ih=>intro ha;simp only[aT];exact .cn id u _ h hn (ih (by simpa only[alv] using ha))
end
end Go.AV
end
noncomputable section
namespace Go.AV
open Go.RowKit Go.RG Go.Lib
variable {K:Nat->Type}
section
variable {P:Program} {C:Cx K} {R:RR K} {ts ts':TS K} {χ χ':Nat->Nat->Bool} {ds:DS}
theorem yfl:∀ {cs:List Prop} {p:Prop},andL cs p→AllP cs∧p
 | [],_,h=>⟨trivial,h⟩
 |_::r,_,h=>⟨⟨h.1,(yfl (cs:=r) h.2).1⟩,(yfl (cs:=r) h.2).2⟩
theorem ycP {α:Type} {o:Option α} {X:α→Prop} (h:wpo' o X):∃x,o=some x∧X x:=by
 cases o with
 |none=>exact h.elim
 |some x=>exact ⟨x,rfl,h⟩
theorem GM.live (h:GM P C R ts χ ds) {s c:Nat} {b:TB K} (hb:ts.tb s c=some b) (hx:χ s c=false):ybl (toD ds) (.l s c)=true:=by
 obtain ⟨kb,h1,_⟩:=h.mb s c b hb hx
 show ((ds.kb s c).map KB.blk).isSome=true
 rw[h1];rfl
theorem GM.box (h:GM P C R ts χ ds) {s c e:Nat} {cs:List (TV K)} (hb:ts.tb s c=some (.box e cs)):χ s c=false:=by
 cases hx:χ s c with
 |false=>rfl
 |true=>obtain ⟨e',h1⟩:=h.vi s c hx;rw[hb] at h1;cases h1
theorem GM.lrow (h:GM P C R ts χ ds) {s c e n:Nat} {cs:List (TV K)} (hb:ts.tb s c=some (.lrow e n cs)):χ s c=false:=by
 cases hx:χ s c with
 |false=>rfl
 |true=>obtain ⟨e',h1⟩:=h.vi s c hx;rw[hb] at h1;cases h1
theorem yzN {op:BinOp} {k:IntKind} {a b:Int} {lit:Bool} {cs:List Prop} {w:TV K} (h:tnum op k a b lit=some (cs,w)) (hc:AllP cs) (hs:yC3 op=false):
  ∃D v,kbin op k a b=some (D,v)/\AllP D/\TR P C ts χ w v:=by
 cases op<;>simp only[tnum] at h<;>simp only[kbin,binI,kok]<;>first
  |(cases h;done)
  |(cases h;exact ⟨_,_,rfl,trivial, .it _ _⟩)
  |(cases h;exact ⟨_,_,rfl,trivial, .bl _⟩)
  | (split at h
     ·split at h
      ·cases h
      ·rename_i h0;cases h;exact ⟨_,_,rfl,⟨h0,trivial⟩, .it _ _⟩
     ·cases h;exact ⟨_,_,rfl,hc, .it _ _⟩)
  |(cases hs;done)
theorem yAT {op:BinOp} {k:IntKind} {a b:Int} {lit:Bool} {cs:List Prop} {w:TV K} (h:tshi op k a b lit=some (cs,w)) (hc:AllP cs):(op= .shl∨op= .shr)∧
  ∃D v,kshi op k a b=some (D,v)/\AllP D/\TR P C ts χ w v:=by
 cases op<;>simp only[tshi,tsh] at h<;>first|(cases h;done)|skip
 all_goals
  cases lit with
  | true=>
    simp only at h
    split at h
    ·cases h
    ·rename_i h0;cases h;exact ⟨by simp,_,_,rfl,⟨h0,trivial⟩, .it _ _⟩
  |false=>simp only at h;cases h;exact ⟨by simp,_,_,rfl,hc, .it _ _⟩
theorem yAv {op:BinOp} {a b:Str} {cs:List Prop} {w:TV K} (h:tstr op a b=some (cs,w)) (hc:AllP cs):∃D v,kstr op a b=some (D,v)∧AllP D∧TR P C ts χ w v:=by
 cases op<;>simp only[tstr] at h<;>simp only[kstr,binS,kok]<;>first
  |(cases h;done)
  |(cases h;exact ⟨_,_,rfl,hc, .st _⟩)
  |(cases h;exact ⟨_,_,rfl,trivial, .bl _⟩)
theorem TR.pxi {s c o:Nat} {v:AV} (h:TR P C ts χ (.px s c o) v):v= .pt (.l s c) o:=by cases h;rfl
theorem TR.lbi {b:Bool} {v:AV} (h:TR P C ts χ (.lb b) v):v= .bl b:=by cases h;rfl
theorem TR.bli {b:Bool} {v:AV} (h:TR P C ts χ (.bl b) v):v= .bl b:=by cases h;rfl
theorem TR.str {s:Str} {v:AV} (h:TR P C ts χ (.st s) v):v= .st s:=by cases h;rfl
theorem yzs {op:BinOp} {x y:TV K} {u v:AV} {cs:List Prop} {w:TV K} (hx:TR P C ts χ x u) (hy:TR P C ts χ y v) (h:tbin op x y=some (cs,w)) (hc:AllP cs):
  ∃D z,(match u,v with
   | .it k a, .it k' b=>if op= .shl∨op= .shr then kshi op k a b else if k=k' then kbin op k a b else none
   | .st a, .st b=>kstr op a b
   |_,_=>none)=some (D,z)/\AllP D/\TR P C ts χ w z:=by
 unfold tbin at h
 split at h
 ·rw[hx.str,hy.str];exact yAv h hc
 ·split at h
  ·rename_i k a k' b e1 e2
   rw[hx.int e1,hy.int e2]
   simp only
   split at h
   ·obtain ⟨q,r⟩:=yAT (P:=P) (C:=C) (ts:=ts) (χ:=χ) h hc
    rw[if_pos q];exact r
   ·rename_i hs
    split at h
    ·rename_i e
     rw[if_neg (by rintro (rfl|rfl)<;>cases hs),if_pos e]
     exact yzN h hc hs
    ·cases h
  ·cases h
theorem yuP {k:Nat} {x y:TV K} {u v:AV} {b:Bool} (hx:TR P C ts χ x u) (hy:TR P C ts χ y v) (h:teq1 k x y=some b):k≤2∧eq1 k u v=some b:=by
 unfold teq1 at h
 split at h
 ·split at h
  ·rename_i e1 e2;cases h;rw[hx.bool e1,hy.bool e2];exact ⟨by omega,rfl⟩
  ·cases h
 ·split at h
  ·rename_i e1 e2
   split at h
   ·rename_i e;cases h;rw[hx.int e1,hy.int e2];exact ⟨by omega,by simp[eq1,e]⟩
   ·cases h
  ·cases h
 ·cases h;rw[hx.str,hy.str];exact ⟨by omega,rfl⟩
 ·cases h
theorem ywM:∀ {ks:List Nat} {xs ys:List (TV K)} {us vs:List AV} {b:Bool},us.length=xs.length→vs.length=ys.length→(∀(j:Nat) (u:TV K) (v:AV),xs[j]? =some u→us[j]? =some v→TR P C ts χ u v)→
  (∀(j:Nat) (u:TV K) (v:AV),ys[j]? =some u->vs[j]? =some v->TR P C ts χ u v)->teqL ks xs ys=some b->eqL ks us vs=some b
 | [],[],[],us,vs,b,h1,h2,_,_,h=>by
   cases us with
   |cons=>simp at h1
   | nil=>cases vs with
     |cons=>simp at h2
     |nil=>exact h
 | k :: ks,x::xs,y::ys,us,vs,b,h1,h2,hx,hy,h=>by
   cases us with
   |nil=>simp at h1
   | cons u us=>cases vs with
     |nil=>simp at h2
     | cons v vs=>
       simp only[teqL] at h
       split at h
       ·rename_i p q e1 e2
        cases h
        have a1:=(yuP (hx 0 x u rfl rfl).s (hy 0 y v rfl rfl).s e1).2
        have a2:=ywM (us:=us) (vs:=vs) (by simpa using h1) (by simpa using h2) (fun j u v a b=>hx (j+1) u v (by simpa using a) (by simpa using b)) (fun j u v a b=>hy (j+1) u v (by simpa using a) (by simpa using b)) e2
        simp only[eqL,a1,a2]
       ·cases h
 | [],_::_,_,_,_,_,_,_,_,_,h=>by simp[teqL] at h
 | [],[],_::_,_,_,_,_,_,_,_,h=>by simp[teqL] at h
 |_::_,[],_,_,_,_,_,_,_,_,h=>by simp[teqL] at h
 |_::_,_::_,[],_,_,_,_,_,_,_,h=>by simp[teqL] at h
theorem TR.agg' {us:List (TV K)} {v:AV} (h:TR P C ts χ (.agg us) v):∃vs,v= .agg vs∧vs.length=us.length∧∀(j:Nat) (u:TV K) (v:AV),us[j]? =some u→vs[j]? =some v→TR P C ts χ u v:=by
 cases h with
 |agg us vs hl h=>exact ⟨vs,rfl,hl,h⟩
theorem TR.tup' {us:List (TV K)} {v:AV} (h:TR P C ts χ (.tup us) v):∃vs,v= .tup vs∧vs.length=us.length∧∀(j:Nat) (u:TV K) (v:AV),us[j]? =some u→vs[j]? =some v→TR P C ts χ u v:=by
 cases h with
 |tup us vs hl h=>exact ⟨vs,rfl,hl,h⟩
theorem TR.one1 {u:TV K} {v:AV} (h:TR P C ts χ u v):yvi u=true→v.one=true:=by
 cases h with
 |rwd s c v hr h h1=>exact fun _=>h1
 |fv ps rs F v h hv=>intro _;rw[<-ypn,hv];exact h.2.2.1
 |_=>intro h;first|rfl|(cases h;done)
theorem TR.one {u:TV K} {v:AV} (h:TR P C ts χ u v) (ht:tone u=true):v.one=true:=by
 cases h with
 |cn id u v h hn hv=>exact hv.one1 ht
 |rwd s c v hr h h1=>exact h1
 |fv ps rs F v h hv=>rw[<-ypn,hv];exact h.2.2.1
 |_=>first|rfl|(cases ht;done)
theorem yqF {v:AV} (h:v.one=true):v.cells= [v]:=by cases v<;>first|rfl|(cases h;done)
theorem TR.cells {u:TV K} {v:AV} (h:TR P C ts χ u v) (hu:u.s≠ .un):(v.cells).length=(tcl u).length∧∀(j:Nat) (w:TV K) (x:AV),(tcl u)[j]? =some w→v.cells[j]? =some x→TR P C ts χ w x:=by
 have one:v.cells= [v]→(v.cells).length= [u].length∧∀(j:Nat) (w:TV K) (x:AV),[u][j]? =some w→v.cells[j]? =some x→TR P C ts χ w x:=by
  intro e2
  rw[e2]
  refine ⟨rfl,fun j w x h1 h2=> ?_⟩
  cases j with
  |zero=>simp at h1 h2;subst h1;subst h2;exact h
  |succ j=>simp at h1
 have hs:=h.s
 unfold tcl
 split
 ·rename_i cs e
  rw[e] at hs
  obtain ⟨vs,rfl,a,b⟩:=hs.agg'
  exact ⟨a,b⟩
 ·rename_i hne
  refine one ?_
  have hnc:∀id w,u.s≠ .cn id w:=by
   intro id w e
   cases h with
   |cn id' u v h hn hv=>simp only[TV.s] at e;rw[e] at hn;cases hn
   |_=>cases e
  revert hs hne hu hnc
  generalize hw:u.s=w
  intro hu hs hne hnc
  cases hs with
  |agg us vs hl h=>exact (hne _ rfl).elim
  |un v=>exact (hu rfl).elim
  |rwd s c v hr h h1=>exact yqF h1
  |fv ps rs F v h hv=>exact yqF (by rw[<-ypn,hv];exact h.2.2.1)
  |cn id u' v h hn hv=>exact (hnc _ _ rfl).elim
  |_=>rfl
variable (P C ts χ) in
def TL (us:List (TV K)) (vs:List AV):Prop:=vs.length=us.length/\∀(j:Nat) (u:TV K) (v:AV),us[j]? =some u->vs[j]? =some v->TR P C ts χ u v
theorem TL.app {us us':List (TV K)} {vs vs':List AV} (h:TL P C ts χ us vs) (k:TL P C ts χ us' vs'):TL P C ts χ (us++us') (vs++vs'):=by
 refine ⟨by simp[h.1,k.1],fun j u v h1 h2=> ?_⟩
 by_cases hj:j<us.length
 ·rw[List.getElem?_append_left hj] at h1
  rw[List.getElem?_append_left (by rw[h.1];exact hj)] at h2
  exact h.2 j u v h1 h2
 ·rw[List.getElem?_append_right (by omega)] at h1
  rw[List.getElem?_append_right (by rw[h.1];omega),h.1] at h2
  exact k.2 _ u v h1 h2
theorem TL.take {us:List (TV K)} {vs:List AV} (h:TL P C ts χ us vs) (n:Nat):TL P C ts χ (us.take n) (vs.take n):=by
 refine ⟨by simp[h.1],fun j u v h1 h2=> ?_⟩
 rw[List.getElem?_take] at h1 h2
 split at h1
 ·rename_i hj;rw[if_pos hj] at h2;exact h.2 j u v h1 h2
 ·cases h1
theorem TL.drop {us:List (TV K)} {vs:List AV} (h:TL P C ts χ us vs) (n:Nat):TL P C ts χ (us.drop n) (vs.drop n):=by
 refine ⟨by simp[h.1],fun j u v h1 h2=> ?_⟩
 rw[List.getElem?_drop] at h1 h2
 exact h.2 _ u v h1 h2
theorem TL.at' {us:List (TV K)} {vs:List AV} (h:TL P C ts χ us vs) {j:Nat} {u:TV K} (hj:us[j]? =some u):∃v,vs[j]? =some v∧TR P C ts χ u v:=by
 have hlt:j<vs.length:=by rw[h.1];exact (List.getElem?_eq_some_iff.1 hj).1
 exact ⟨vs[j],List.getElem?_eq_getElem hlt,h.2 j u _ hj (List.getElem?_eq_getElem hlt)⟩
theorem TL.mono (hm:Mono ts ts' χ χ') {us:List (TV K)} {vs:List AV} (h:TL P C ts χ us vs):TL P C ts' χ' us vs:=⟨h.1,fun j u v a b=>(h.2 j u v a b).mono hm⟩
theorem TL.nil:TL P C ts χ [] []:=⟨rfl,fun j u v h=>by simp at h⟩
theorem TL.cons {u:TV K} {v:AV} {us:List (TV K)} {vs:List AV} (h:TR P C ts χ u v) (k:TL P C ts χ us vs):TL P C ts χ (u::us) (v::vs):=TL.app (us:= [u]) (vs:= [v]) ⟨rfl,fun j u' v' h1 h2=>by cases j with|zero=>simp at h1 h2;subst h1;subst h2;exact h|succ j=>simp at h1⟩ k
theorem TL.head {u:TV K} {v:AV} {us:List (TV K)} {vs:List AV} (h:TL P C ts χ (u::us) (v::vs)):TR P C ts χ u v∧TL P C ts χ us vs:=
 ⟨h.2 0 u v rfl rfl,by simpa using h.1,fun j u v a b=>h.2 (j+1) u v (by simpa using a) (by simpa using b)⟩
theorem TL.cvAs (z:List AV):TL P C ts χ (cvAs z) z:=ykH z
theorem TL.one:∀ {us:List (TV K)} {vs:List AV},TL P C ts χ us vs→us.all tone=true→vs.all AV.one=true
 | [],[],_,_=>rfl
 | [],_::_,h,_=>by simp[TL] at h
 |_::_,[],h,_=>by simp[TL] at h
 | u::us,v::vs,h,ht=>by
   simp only[List.all_cons,Bool.and_eq_true] at ht⊢
   exact ⟨h.head.1.one ht.1,TL.one h.head.2 ht.2⟩
theorem TL.mapS {us:List (TV K)} {vs:List AV} (h:TL P C ts χ us vs):TL P C ts χ (us.map TV.s) vs:=by
 refine ⟨by simp[h.1],fun j u v h1 h2=> ?_⟩
 rw[List.getElem?_map] at h1
 obtain ⟨w,e1,rfl⟩:=Option.map_eq_some_iff.1 h1
 exact (h.2 j w v e1 h2).s
theorem TL.tea (h:GM P C R ts χ ds):∀(l:List AOpd),TL P C ts χ (l.map (tea ts.fr)) (l.map (ev (lkF ds.fr)))
 | []=> .nil
 |x::l=> .cons (h.tea x) (TL.tea h l)
theorem TL.tev (h:GM P C R ts χ ds):∀(l:List AOpd),TL P C ts χ (l.map (tev ts.fr)) (l.map (ev (lkF ds.fr)))
 | []=> .nil
 |x::l=> .cons (h.tev x) (TL.tev h l)
theorem TR.tcl {u:TV K} {v:AV} (h:TR P C ts χ u v) (ht:(tcl u).all tone=true):TL P C ts χ (tcl u) v.cells∧v.cells.all AV.one=true:=by
 have hu:u.s≠ .un:=by
  intro e
  cases u with
  |un=>simp[Go.AV.tcl,TV.s,tone,yvi] at ht
  |cn id w=>simp only[TV.s] at e;subst e;simp[Go.AV.tcl,TV.s,tone,yvi] at ht
  |_=>cases e
 have:=h.cells hu
 exact ⟨this,TL.one this ht⟩
theorem ylQ:∀(l:List (Nat×Nat×TV K)) (m:List (Nat×Nat×AV)) (cells:List (TV K)) (cells':List AV) (cs:List (TV K)),TL P C ts χ cells cells'→m.length=l.length→
  (∀(j:Nat) (p:Nat×Nat×TV K) (q:Nat×Nat×AV),l[j]? =some p->m[j]? =some q->q.1=p.1/\q.2.1=p.2.1/\TR P C ts χ p.2.2 q.2.2)->yqj cells l=some cs->∃cs',yhr cells' m=some cs'/\TL P C ts χ cs cs'
 | [],m,cells,cells',cs,h,hl,_,e=>by
   cases m with
   |cons=>simp at hl
   |nil=>cases e;exact ⟨cells',rfl,h⟩
 | (off,sz,v)::l,m,cells,cells',cs,h,hl,hh,e=>by
   cases m with
   |nil=>simp at hl
   | cons q m=>
     obtain ⟨off',sz',v'⟩:=q
     obtain ⟨e1,e2,e3⟩:=hh 0 _ _ rfl rfl
     simp only at e1 e2 e3
     subst e1;subst e2
     simp only[yqj] at e
     split at e
     ·rename_i hc
      simp only[Bool.and_eq_true] at hc
      obtain ⟨⟨c1,c2⟩,c3⟩:=hc
      obtain ⟨t1,t2⟩:=e3.tcl c3
      have c1':=nbeq.1 c1
      have hc':v'.cells.length=sz'/\off'+sz'<=cells'.length/\v'.cells.all AV.one=true:=⟨by rw[t1.1,c1'],by rw[h.1];exact Nat.le_of_ble_eq_true c2,t2⟩
      simp only[yhr]
      rw[if_pos hc']
      exact ylQ l m _ _ cs (((h.take off').app t1).app (h.drop (off'+sz'))) (by simpa using hl) (fun j p q a b=>hh (j+1) p q (by simpa using a) (by simpa using b)) e
     ·cases e
theorem yw8 {mx:Bool} {k:IntKind}:∀(r:List (TV K)) (r':List AV) (a:Int) (w:TV K),TL P C ts χ r r'→tmnL mx k a r=some w→∃v,mnL mx k a r'=some v∧TR P C ts χ w v
 | [],r',a,w,h,e=>by
   cases r' with
   |cons=>simp[TL] at h
   |nil=>cases e;exact ⟨_,rfl, .it _ _⟩
 | x ::r,r',a,w,h,e=>by
   cases r' with
   |nil=>simp[TL] at h
   | cons y r'=>
     simp only[tmnL] at e
     split at e
     ·rename_i k' b e1
      have hy:=h.head.1.int e1
      subst hy
      split at e
      ·rename_i ek
       obtain ⟨v,h1,h2⟩:=yw8 r r' _ w h.head.2 e
       refine ⟨v,?_,h2⟩
       simp only[mnL]
       rw[if_pos ek,<-h1]
       cases mx<;>rfl
      ·cases e
     ·cases e
theorem yib (h:GM P C R ts χ ds) {d a:Int} {x:Option AOpd} (e:tbnd ts.fr d x=some a):bnd (ev (lkF ds.fr)) d x=some a:=by
 cases x with
 |none=>exact e
 | some x=>
   simp only[tbnd] at e
   split at e
   ·rename_i k n e1
    cases e
    simp only[bnd,(h.tev x).int e1]
   ·cases e
theorem yCQ {g:Bool} {kind:Nat} {x y:TV K} {u v:AV} {live:Key→Bool} {cs:List Prop} {w:TV K} (hx:TR P C ts χ x u) (hy:TR P C ts χ y v) (h:teq g kind x y=some (cs,w)) (hc:AllP cs):
  ∃D z,keq live g kind u v=some (D,z)/\AllP D/\TR P C ts χ w z:=by
 unfold teq at h
 split at h
 ·split at h
  ·cases h;cases hx;cases hy;exact ⟨[], .bl (!g),rfl,trivial, .lb _⟩
  ·cases h
 ·split at h
  ·cases h;cases hx;cases hy;exact ⟨[], .bl (!g),by cases g<;>rfl,trivial, .lb _⟩
  ·cases h
 ·split at h
  ·rename_i b e1
   cases h
   obtain ⟨hk,e2⟩:=yuP hx hy e1
   refine ⟨[], .bl (ngB g b),?_,trivial, .bl _⟩
   have hk':kind=0∨kind=1∨kind=2:=by omega
   have:eqP live kind u v=some b:=by
    rcases hk' with rfl|rfl|rfl<;>exact e2
   have hns:∀z n xs,u≠ .sl z n xs:=by
    rintro z n xs rfl
    rcases hk' with rfl|rfl|rfl<;>simp[eq1] at e2
   unfold keq
   split
   ·exact absurd rfl (hns _ _ _)
   ·exact absurd rfl (hns _ _ _)
   ·exact absurd rfl (hns _ _ _)
   ·rw[this];rfl
  ·cases h
theorem ywQ:∀ {cs:List (TV K)} {vs:List AV} {k:IntKind} {l:List Int},TL P C ts χ cs vs→selI cs=some (k,l)→l.length=cs.length∧∀(j:Nat) (n:Int),l[j]? =some n→vs[j]? =some (.it k n)
 | [],vs,k,l,t,h=>by simp[selI] at h
 |v::r,[],k,l,t,h=>by simp[TL] at t
 | v ::r,w::vs,k,l,t,h=>by
   simp only[selI] at h
   split at h
   ·rename_i k0 n0 h0
    have hw:w= .it k0 n0:=t.head.1.s.int h0
    split at h
    ·cases h
     refine ⟨rfl,fun j n hj=> ?_⟩
     cases j with
     |zero=>simp at hj;subst hj;simp[hw]
     |succ j=>simp at hj
    ·split at h
     ·rename_i k' l' h1
      split at h
      ·rename_i e
       cases h
       subst e
       obtain ⟨a,b⟩:=ywQ t.head.2 h1
       refine ⟨by simp[a],fun j n hj=> ?_⟩
       cases j with
       |zero=>simp at hj;subst hj;simp[hw]
       |succ j=>simpa using b j n (by simpa using hj)
      ·cases h
     ·cases h
   ·cases h
theorem ywV:∀ {cs:List (TV K)} {vs:List AV} {l:List Str},TL P C ts χ cs vs→selS cs=some l→l.length=cs.length∧∀(j:Nat) (n:Str),l[j]? =some n→vs[j]? =some (.st n)
 | [],vs,l,t,h=>by simp only[selS] at h;cases h;exact ⟨rfl,fun j n hj=>by simp at hj⟩
 |v::r,[],l,t,h=>by simp[TL] at t
 | v::r,w::vs,l,t,h=>by
   simp only[selS] at h
   split at h
   ·rename_i s l' h0 h1
    cases h
    have hs:=t.head.1.s
    rw[h0] at hs
    have hw:w= .st s:=hs.str
    obtain ⟨a,b⟩:=ywV t.head.2 h1
    refine ⟨by simp[a],fun j n hj=> ?_⟩
    cases j with
    |zero=>simp at hj;subst hj;simp[hw]
    |succ j=>simpa using b j n (by simpa using hj)
   ·cases h
theorem yAP {us:List (TV K)} {vs:List AV} {len:Nat} {i:Int} {cs:List Prop} {w:TV K} (t:TL P C ts χ us vs) (h:tsel us len i=some (cs,w)) (hl:Nat.ble len us.length=true) (hc:AllP cs):cs= [0≤i∧i<len]∧TR P C ts χ w ((vs[i.toNat]?).getD .un):=by
 unfold tsel at h
 have hl':=Nat.le_of_ble_eq_true hl
 split at h
 ·rename_i k l h1
  cases h
  refine ⟨rfl,?_⟩
  obtain ⟨a,b⟩:=ywQ t h1
  have h0:0<=i/\i<len:=hc.1
  have hlt:i.toNat<l.length:=by omega
  rw[b _ _ (List.getElem?_eq_getElem hlt),List.getElem?_eq_getElem hlt]
  exact .it _ _
 ·split at h
  ·rename_i l h1
   cases h
   refine ⟨rfl,?_⟩
   obtain ⟨a,b⟩:=ywV t h1
   have h0:0<=i/\i<len:=hc.1
   have hlt:i.toNat<l.length:=by omega
   rw[b _ _ (List.getElem?_eq_getElem hlt),List.getElem?_eq_getElem hlt]
   exact .st _
  ·cases h
theorem yB7 (hγ:GM P C R ts χ ds) {u:AOp} {cs:List Prop} {w:TV K} (h:tqv ts u=some (cs,w)) (hc:AllP cs):
  yBp u=false/\∃D v,kpv (ybl (toD ds)) ds.fr u=some (D,v)/\AllP D/\TR P C ts χ w v:=by
 have lvx:∀ {s c:Nat} {v:TV K},tlvx ts s c v=some (cs,w)→cs= []∧w=v∧ybl (toD ds) (.l s c)=true:=by
  intro s c v e
  unfold tlvx at e
  split at e
  ·rename_i e' cs' e1;cases e;exact ⟨rfl,rfl,hγ.live e1 (hγ.box e1)⟩
  ·cases e
 have lv:∀ {s c:Nat} {v:TV K},χ s c=false→yxQ ts s c v=some (cs,w)→cs= []∧w=v∧ybl (toD ds) (.l s c)=true:=by
  intro s c v hx e
  unfold yxQ at e
  split at e
  ·rename_i b e1;cases e;exact ⟨rfl,rfl,hγ.live e1 hx⟩
  ·cases e
 unfold tqv at h
 simp only at h
 split at h
 case h_1 x=>
  cases h;exact ⟨rfl,[],_,rfl,trivial,hγ.tea x⟩
 case h_2 z parts=>
  split at h
  ·rename_i cs' e
   cases h
   obtain ⟨cs2,e2,t⟩:=ylQ (P:=P) (C:=C) (ts:=ts) (χ:=χ) _ (parts.map fun p=>(p.1,p.2.1,ev (lkF ds.fr) p.2.2)) _ z _ (TL.cvAs z) (by simp) (fun j p q a b=>by
    rw[List.getElem?_map] at a b
    cases hp:parts[j]? with
    |none=>rw[hp] at a;cases a
    |some r=>rw[hp] at a b;cases a;cases b;exact ⟨rfl,rfl,hγ.tea _⟩) e
   refine ⟨rfl,[], .agg cs2,?_,trivial, .agg _ _ t.1 t.2⟩
   simp only[kpv,pval,e2,kok,Option.map_some]
  ·cases h
 case h_3 x=>
  have hx:=hγ.tev x
  split at h
  ·rename_i s c o e
   rw[e] at hx
   obtain ⟨rfl,rfl,hl⟩:=lvx h
   have ev':ev (lkF ds.fr) x= .pt (.l s c) o:=hx.pxi
   refine ⟨rfl,[],_,?_,trivial,ev'▸hx⟩
   simp only[kpv,pval,ev',hl,if_true,kok]
  ·rename_i e' s c i o e
   rw[e] at hx
   cases hx':(ev (lkF ds.fr) x) with
   | pt k off=>
     rw[hx'] at hx
     cases hx with
     | pr _ _ _ _ _ hr hxx=>
       obtain ⟨rfl,rfl,hl⟩:=lv hxx h
       refine ⟨rfl,[], .pt (.l s c) _,?_,trivial, .pr _ _ _ _ _ hr hxx⟩
       simp only[kpv,pval,hx',hl,if_true,kok]
   |_=>rw[hx'] at hx;cases hx
  ·rename_i e' l i o e
   rw[e] at hx
   cases h
   cases hx':(ev (lkF ds.fr) x) with
   | ep xs off=>
     rw[hx'] at hx
     refine ⟨rfl,[], .ep xs off,?_,trivial,hx⟩
     simp only[kpv,pval,hx',kok]
   |_=>rw[hx'] at hx;cases hx
  ·rename_i l i e
   rw[e] at hx
   cases h
   cases hx':(ev (lkF ds.fr) x) with
   | ep xs off=>
     rw[hx'] at hx
     refine ⟨rfl,[], .ep xs off,?_,trivial,hx⟩
     simp only[kpv,pval,hx',kok]
   |_=>rw[hx'] at hx;cases hx
  ·rename_i f a c e
   rw[e] at hx
   cases h
   cases hx':(ev (lkF ds.fr) x) with
   | fn f' a' c'=>
     rw[hx'] at hx
     have:f'= .func f:=by cases hx;rfl
     subst this
     refine ⟨rfl,[], .fn (.func f) a' c',?_,trivial,hx⟩
     simp only[kpv,pval,hx',kok]
   |_=>rw[hx'] at hx;cases hx
  ·rename_i ps rs V e
   rw[e] at hx
   cases h
   have hx2:=hx
   cases hx with
   | fv _ _ _ _ hF hv=>
     obtain ⟨_,_,_,f,a,c,e1,_⟩:=hF
     rw[e1] at hv
     cases hx':(ev (lkF ds.fr) x) with
     | fn f' a' c'=>
       rw[hx'] at hv hx2
       simp only[dwk,AV.fn.injEq] at hv
       obtain ⟨rfl,_,_⟩:=hv
       refine ⟨rfl,[], .fn (.func f) a' c',?_,trivial,hx2⟩
       simp only[kpv,pval,hx',kok]
     |_=>rw[hx'] at hv;simp[dwk] at hv
  ·cases h
 case h_4 op x y=>
  obtain ⟨D,z,h1,h2,h3⟩:=yzs (hγ.tev x) (hγ.tev y) h hc
  exact ⟨rfl,D,z,h1,h2,h3⟩
 case h_5 g k x y=>
  have hx:=hγ.tev x
  have hy:=hγ.tev y
  split at h
  ·rename_i s c o e1
   split at h
   ·rename_i e2
    obtain ⟨rfl,rfl,hl⟩:=lvx h
    rw[e1] at hx
    rw[e2] at hy
    have a:=hx.pxi
    have b:ev (lkF ds.fr) y= .nptr:=by
     generalize ev (lkF ds.fr) y=v at hy
     cases hy;rfl
    refine ⟨rfl,[], .bl g,?_,trivial, .lb _⟩
    simp only[kpv,a,b,keq,eqP,hl,if_true,Option.map_some,kok]
    cases g<;>rfl
   ·cases h
  ·obtain ⟨D,z,h1,h2,h3⟩:=yCQ (live:=ybl (toD ds)) hx hy h hc
   exact ⟨rfl,D,z,h1,h2,h3⟩
 case h_6 g ks x y=>
  have hx:=hγ.tev x
  have hy:=hγ.tev y
  split at h
  ·rename_i a b e1 e2
   rw[e1] at hx;rw[e2] at hy
   obtain ⟨us,f1,t1,t2⟩:=hx.agg'
   obtain ⟨vs,f2,t3,t4⟩:=hy.agg'
   split at h
   ·rename_i r e3
    cases h
    have:=ywM t1 t3 t2 t4 e3
    refine ⟨rfl,[], .bl (ngB g r),?_,trivial, .bl _⟩
    simp only[kpv,f1,f2,this,kok,Option.map_some]
   ·cases h
  ·cases h
 case h_7 op x=>
  have hx:=hγ.tev x
  split at h
  ·split at h
   ·rename_i k n e
    cases h
    have:=hx.int e
    refine ⟨rfl,[], .it k _,?_,trivial, .it _ _⟩
    simp only[kpv,pval,this,kok]
   ·cases h
  ·split at h
   ·rename_i b e
    cases h
    rw[e] at hx
    have:ev (lkF ds.fr) x= .bl b:=hx.lbi
    refine ⟨rfl,[], .bl (!b),?_,trivial, .lb _⟩
    simp only[kpv,pval,this,kok]
   ·rename_i b e
    cases h
    rw[e] at hx
    have:ev (lkF ds.fr) x= .bl b:=hx.bli
    refine ⟨rfl,[], .bl (!b),?_,trivial, .bl _⟩
    simp only[kpv,pval,this,kok]
   ·cases h
  ·cases h
 case h_8 k x=>
  split at h
  ·rename_i k' n e
   cases h
   have:=(hγ.tev x).int e
   refine ⟨rfl,[], .it k _,?_,trivial, .it _ _⟩
   simp only[kpv,pval,this,kok]
  ·cases h
 case h_9 x=>
  have hx:=hγ.tev x
  split at h
  ·rename_i l e
   cases h
   rw[e] at hx
   refine ⟨rfl,[], .st l,?_,trivial, .st _⟩
   simp only[kpv,pval,hx.str,kok]
  ·cases h
 case h_10 x lo hi=>
  have hx:=hγ.tev x
  split at h
  ·rename_i l e
   rw[e] at hx
   split at h
   ·rename_i a b e1 e2
    cases h
    refine ⟨rfl,_, .st ((l.drop a.toNat).take (b.toNat-a.toNat)),?_,hc, .st _⟩
    simp only[kpv,hx.str,yib hγ e1,yib hγ e2,ksls]
   ·cases h
  ·cases h
 case h_11 off x=>
  have hx:=hγ.tev x
  split at h
  ·rename_i s c o e
   rw[e] at hx
   obtain ⟨rfl,rfl,hl⟩:=lvx h
   cases hx':(ev (lkF ds.fr) x) with
   | pt k off'=>
     rw[hx'] at hx
     cases hx with
     | px _ _ _ hr=>
       refine ⟨rfl,[], .pt (.l s c) (o+off),?_,trivial, .px _ _ _ hr⟩
       simp only[kpv,pval,hx',hl,if_true,kok]
   |_=>rw[hx'] at hx;cases hx
  ·rename_i e' s c i o e
   rw[e] at hx
   cases hx':(ev (lkF ds.fr) x) with
   | pt k off'=>
     rw[hx'] at hx
     cases hx with
     | pr _ _ _ _ _ hr hxx=>
       obtain ⟨rfl,rfl,hl⟩:=lv hxx h
       refine ⟨rfl,[], .pt (.l s c) (i*(C.E e').sz+o+off),?_,trivial,by rw[Nat.add_assoc];exact .pr _ _ _ _ _ hr hxx⟩
       simp only[kpv,pval,hx',hl,if_true,kok]
   |_=>rw[hx'] at hx;cases hx
  ·rename_i e' l i o e
   rw[e] at hx
   cases h
   cases hx':(ev (lkF ds.fr) x) with
   | ep xs off'=>
     rw[hx'] at hx
     cases hx with
     | ep _ _ _ _ _ hxx=>
       refine ⟨rfl,[], .ep xs (i*(C.E e').sz+o+off),?_,trivial,by rw[Nat.add_assoc];exact .ep _ _ _ _ _ hxx⟩
       simp only[kpv,pval,hx',kok]
   |_=>rw[hx'] at hx;cases hx
  ·cases h
 case h_12 g off sz x=>
  have hx:=hγ.tev x
  split at h
  ·rename_i us e
   rw[e] at hx
   obtain ⟨vs,f1,t⟩:=hx.agg'
   have t:TL P C ts χ us vs:=t
   split at h
   ·cases h
    refine ⟨rfl,[], .agg ((vs.drop off).take sz),?_,trivial, .agg _ _ ((t.drop off).take sz).1 ((t.drop off).take sz).2⟩
    simp only[kpv,pval,f1,kok,if_true]
   ·split at h
    ·rename_i v e1
     cases h
     obtain ⟨v',e2,e3⟩:=t.at' e1
     refine ⟨rfl,[],v',?_,trivial,e3⟩
     simp only[kpv,pval,f1,e2,kok,Bool.false_eq_true,if_false]
    ·cases h
  ·cases h
 case h_13 len sz x i=>
  have hx:=hγ.tev x
  have hi:=hγ.tev i
  split at h
  ·rename_i s c o k n e1 e2
   rw[e1] at hx;rw[e2] at hi
   split at h
   ·rename_i hb
    obtain ⟨rfl,rfl,hl⟩:=lvx h
    cases hx':(ev (lkF ds.fr) x) with
    | pt q off'=>
      rw[hx'] at hx
      cases hx with
      | px _ _ _ hr=>
        refine ⟨rfl,[0<=n/\n<len], .pt (.l s c) (o+n.toNat*sz),?_,⟨hb,trivial⟩, .px _ _ _ hr⟩
        simp only[kpv,hx',hi.int (k:=k) (n:=n) rfl,hl]
    |_=>rw[hx'] at hx;cases hx
   ·cases h
  ·rename_i l o e1
   rw[e1] at hx
   split at h
   ·rename_i k n e2
    cases h
    cases hx':(ev (lkF ds.fr) x) with
    | ep xs off'=>
      rw[hx'] at hx
      cases hx with
      | gs _ _ _ hxx=>
        refine ⟨rfl,[0<=n/\n<len], .ep xs (o+n.toNat*sz),?_,?_, .gs _ _ _ hxx⟩
        ·simp only[kpv,hx',hi.int e2]
        ·exact hc
    |_=>rw[hx'] at hx;cases hx
   ·cases h
  ·cases h
 case h_14 x i=>
  have hx:=hγ.tev x
  split at h
  ·rename_i l k n e1 e2
   rw[e1] at hx
   cases h
   refine ⟨rfl,_,_,?_,hc, .it _ _⟩
   simp only[kpv,hx.str,(hγ.tev i).int e2,bAt]
  ·cases h
 case h_15 g len sz x i=>
  have hx:=hγ.tev x
  have hi:=hγ.tev i
  split at h
  ·rename_i us k n e1 e2
   rw[e1] at hx;rw[e2] at hi
   obtain ⟨vs,f1,t⟩:=hx.agg'
   have t:TL P C ts χ us vs:=t
   split at h
   ·rename_i hb
    split at h
    ·cases h
     refine ⟨rfl,[], .agg ((vs.drop (n.toNat*sz)).take sz),?_,trivial, .agg _ _ ((t.drop _).take sz).1 ((t.drop _).take sz).2⟩
     simp only[kpv,pval,f1,hi.int (k:=k) (n:=n) rfl,kok,if_true,if_pos hb,Bool.not_true,Bool.false_and]
    ·split at h
     ·rename_i v e3
      cases h
      obtain ⟨v',e4,e5⟩:=t.at' e3
      cases hq:(!false&&Nat.beq sz 1&&Nat.ble len vs.length) with
      | false=>
        refine ⟨rfl,[],v',?_,trivial,e5⟩
        simp only[kpv,pval,f1,hi.int (k:=k) (n:=n) rfl,e4,kok,hq,Bool.false_eq_true,if_false,if_pos hb]
      | true=>
        refine ⟨rfl,[0<=n/\n<len],v',?_,⟨hb,trivial⟩,e5⟩
        have h1:sz=1:=by simp only[Bool.and_eq_true] at hq;exact nbeq.1 hq.1.2
        subst h1
        rw[Nat.mul_one] at e4
        simp only[kpv,f1,hi.int (k:=k) (n:=n) rfl,hq,e4,Option.getD_some]
     ·cases h
   ·cases h
  ·rename_i us k n e1 e2
   rw[e1] at hx;rw[e2] at hi
   obtain ⟨vs,f1,t⟩:=hx.agg'
   have t:TL P C ts χ us vs:=t
   split at h
   ·rename_i hq
    have hq0:=hq
    simp only[Bool.and_eq_true] at hq
    obtain ⟨e3,e4⟩:=yAP t h hq.2 hc
    refine ⟨rfl,[0<=n/\n<len],_,?_,by rw[<-e3];exact hc,e4⟩
    rw[<-t.1] at hq0
    simp only[kpv,f1,hi.int (k:=k) (n:=n) rfl,hq0]
   ·cases h
  ·cases h
 case h_16 x i=>
  have hx:=hγ.tev x
  split at h
  ·rename_i us e
   rw[e] at hx
   obtain ⟨vs,f1,t⟩:=hx.tup'
   have t:TL P C ts χ us vs:=t
   split at h
   ·rename_i v e1
    cases h
    obtain ⟨v',e2,e3⟩:=t.at' e1
    refine ⟨rfl,[],v',?_,trivial,e3⟩
    simp only[kpv,pval,f1,e2,kok]
   ·cases h
  ·cases h
 case h_17 x=>
  have hx:=hγ.tev x
  split at h
  ·rename_i l e
   cases h
   rw[e] at hx
   refine ⟨rfl,[], .it .i64 (l.length:Int),?_,trivial, .it _ _⟩
   simp only[kpv,pval,hx.str,kok]
  ·cases h
 case h_18 x=>
  have hx:=hγ.tev x
  split at h
  ·rename_i e
   cases h
   rw[e] at hx
   generalize hv:ev (lkF ds.fr) x=v at hx
   cases hx
   refine ⟨rfl,[], .it .i64 0,?_,trivial, .li _ _⟩
   simp only[kpv,pval,hv,kok]
  ·cases h
 case h_19 mx xs=>
  split at h
  ·cases h
  ·rename_i x r
   split at h
   ·rename_i k a e1
    split at h
    ·rename_i v e2
     cases h
     obtain ⟨v',e3,e4⟩:=yw8 _ _ a w (TL.tev hγ r) e2
     refine ⟨rfl,[],v',?_,trivial,e4⟩
     simp only[kpv,pval,List.map_cons,(hγ.tev x).int e1,e3,kok]
    ·cases h
   ·cases h
 case h_20 f a c=>
  cases h
  refine ⟨rfl,[], .fn (.func f) (a.map (ev (lkF ds.fr))) (c.map (ev (lkF ds.fr))),?_,trivial, .fn _ _ _ _ _ (TL.tea hγ a).1 (TL.tea hγ c).1 (TL.tea hγ a).2 (TL.tea hγ c).2⟩
  simp only[kpv,pval,kok]
 case h_21=>cases h
end
end Go.AV
end
noncomputable section
namespace Go.AV
open Go.RowKit Go.RG Go.Lib
variable {K:Nat->Type}
mutual
theorem yoD:∀(u:AV),dwk (dwk u)=dwk u
 | .agg cs=>by simp only[dwk];rw[ydw cs]
 | .tup cs=>by simp only[dwk];rw[ydw cs]
 | .fn f a c=>by simp only[dwk];rw[ydw a,ydw c]
 | .sl z n xs=>by simp only[dwk];rw[ydw xs]
 | .ep xs off=>by simp only[dwk];rw[ydw xs]
 | .gs k n=>rfl
 | .pt k n=>rfl
 | .bl b=>rfl
 | .it k n=>rfl
 | .st s=>rfl
 | .nptr=>rfl
 | .nfn=>rfl
 | .un=>rfl
 | .yld o=>rfl
 | .rcd _ _ _ _ _=>rfl
theorem ydw:∀(l:List AV),dwks (dwks l)=dwks l
 | []=>rfl
 |x::l=>by simp only[dwks];rw[yoD x,ydw l]
end
theorem yc5 (a b:List AV):dwks (a++b)=dwks a++dwks b:=by simp[ydZ]
theorem ygL (a:List AV) (n:Nat):dwks (a.take n)=(dwks a).take n:=by simp[ydZ,List.map_take]
theorem yhH (a:List AV) (n:Nat):dwks (a.drop n)=(dwks a).drop n:=by simp[ydZ,List.map_drop]
mutual
theorem yop:∀(u:AV),dwk (weak u)=dwk u
 | .agg cs=>by simp only[weak,dwk];rw[ygE cs]
 | .tup cs=>by simp only[weak,dwk];rw[ygE cs]
 | .fn f a c=>by simp only[weak,dwk];rw[ygE a,ygE c]
 | .sl z n xs=>rfl
 | .ep xs off=>rfl
 | .gs k n=>rfl
 | .pt k n=>rfl
 | .bl b=>rfl
 | .it k n=>rfl
 | .st s=>rfl
 | .nptr=>rfl
 | .nfn=>rfl
 | .un=>rfl
 | .yld o=>rfl
 | .rcd _ _ _ _ _=>rfl
theorem ygE:∀(l:List AV),dwks (yi4 l)=dwks l
 | []=>rfl
 |x::l=>by simp only[yi4,dwks];rw[yop x,ygE l]
end
theorem ycg {l:List AV} {T:Type} {E:Enc T} {k:List T} (h:dwks l=cl E k):noLs l=true:=by rw[<-yeS,h];exact yDh E k
section
variable {P:Program} {C:Cx K} {R:RR K} {ts ts':TS K} {χ χ':Nat->Nat->Bool} {ds:DS}
theorem TR.undwk {u:TV K} {w:AV} (h:TR P C ts χ u w):∀ {v:AV},w=dwk v→TR P C ts χ u v:=by
 have hL:∀ {us:List (TV K)} {ws:List AV},ws.length=us.length→(∀(j:Nat) (u:TV K) (w:AV),us[j]? =some u→ws[j]? =some w→∀ {v:AV},w=dwk v→TR P C ts χ u v)→∀ {vs:List AV},ws=dwks vs→vs.length=us.length∧∀(j:Nat) (u:TV K) (v:AV),us[j]? =some u→vs[j]? =some v→TR P C ts χ u v:=by
  intro us ws hl hh vs e
  subst e
  refine ⟨by rw[<-hl,ybI],fun j u v h1 h2=>hh j u (dwk v) h1 (by rw[ydZ,List.getElem?_map,h2];rfl) rfl⟩
 induction h with
 |un w=>exact fun _=> .un _
 |lb b=>intro v e;cases v<;>simp[dwk] at e;subst e;exact .lb _
 |bl b=>intro v e;cases v<;>simp[dwk] at e;subst e;exact .bl _
 |li k n=>intro v e;cases v<;>simp[dwk] at e;obtain ⟨rfl,rfl⟩:=e;exact .li _ _
 |it k n=>intro v e;cases v<;>simp[dwk] at e;obtain ⟨rfl,rfl⟩:=e;exact .it _ _
 |st s=>intro v e;cases v<;>simp[dwk] at e;subst e;exact .st _
 | agg us ws hl _ ih=>
   intro v e
   cases v with
   |agg vs=>simp only[dwk,AV.agg.injEq] at e;obtain ⟨a,b⟩:=hL hl ih e;exact .agg us vs a b
   |_=>simp[dwk] at e
 | tup us ws hl _ ih=>
   intro v e
   cases v with
   |tup vs=>simp only[dwk,AV.tup.injEq] at e;obtain ⟨a,b⟩:=hL hl ih e;exact .tup us vs a b
   |_=>simp[dwk] at e
 |nil=>intro v e;cases v<;>simp[dwk] at e
 | em z=>
   intro v e
   cases v with
   | sl z' n xs=>
     simp only[dwk,AV.sl.injEq] at e
     obtain ⟨_,rfl,e⟩:=e
     have:xs= []:=by cases xs with|nil=>rfl|cons=>simp[dwks] at e
     subst this;exact .em _
   |_=>simp[dwk] at e
 | sl e0 l z n xs hn hx=>
   intro v e
   cases v with
   | sl z' n' xs'=>
     simp only[dwk,AV.sl.injEq] at e
     obtain ⟨_,rfl,rfl⟩:=e
     exact .sl e0 l _ _ _ hn (by rw[<-hx,ydw])
   |_=>simp[dwk] at e
 |rwd s c w hr h h1=>intro v e;subst e;exact .rwd s c v hr h (by rw[<-ypn];exact h1)
 |rw s c n hr h hx=>intro v e;cases v<;>simp[dwk] at e;obtain ⟨rfl,rfl⟩:=e;exact .rw _ _ _ hr h hx
 |rwn s c hr h hx=>intro v e;cases v<;>simp[dwk] at e
 |px s c off hr=>intro v e;cases v<;>simp[dwk] at e;obtain ⟨rfl,rfl⟩:=e;exact .px _ _ _ hr
 |pr e0 s c i of hr hx=>intro v e;cases v<;>simp[dwk] at e;obtain ⟨rfl,rfl⟩:=e;exact .pr _ _ _ _ _ hr hx
 | ep e0 l i of xs hx=>
   intro v e
   cases v with
   | ep xs' off=>
     simp only[dwk,AV.ep.injEq] at e
     obtain ⟨rfl,rfl⟩:=e
     exact .ep e0 l i of _ (by rw[<-hx,ydw])
   |_=>simp[dwk] at e
 | gs l i xs hx=>
   intro v e
   cases v with
   | ep xs' off=>
     simp only[dwk,AV.ep.injEq] at e
     obtain ⟨rfl,rfl⟩:=e
     exact .gs l _ _ (by rw[<-hx,ydw])
   |_=>simp[dwk] at e
 |nptr=>intro v e;cases v<;>simp[dwk] at e;exact .nptr
 | fn f a c a' c' ha hc _ _ ih ih'=>
   intro v e
   cases v with
   | fn f' a2 c2=>
     simp only[dwk,AV.fn.injEq] at e
     obtain ⟨rfl,e1,e2⟩:=e
     obtain ⟨p1,p2⟩:=hL ha ih e1
     obtain ⟨q1,q2⟩:=hL hc ih' e2
     exact .fn f a c a2 c2 p1 q1 p2 q2
   |_=>simp[dwk] at e
 |fv ps rs F w h hv=>intro v e;subst e;exact .fv ps rs F v h (by rw[<-hv,yoD])
 |yl r=>intro v e;cases v<;>simp[dwk] at e;subst e;exact .yl _
 |cn id u w h hn _ ih=>intro v e;exact .cn id u v h hn (ih e)
theorem TR.pri {e s c i of:Nat} {v:AV} (h:TR P C ts χ (.pr e s c i of) v):χ s c=false/\v= .pt (.l s c) (i*(C.E e).sz+of):=by cases h;exact ⟨by assumption,rfl⟩
theorem TR.epi {e i of:Nat} {l:List (K e)} {v:AV} (h:TR P C ts χ (.ep e l i of) v):∃xs,dwks xs=cl (C.E e) l/\v= .ep xs (i*(C.E e).sz+of):=by cases h;exact ⟨_,by assumption,rfl⟩
theorem ys7:∀(l:List Str) {xs:List AV},dwks xs=l.map .st→xs=l.map .st
 | [],xs,h=>by cases xs with|nil=>rfl|cons x xs=>simp[dwks] at h
 | s ::l,xs,h=>by
   cases xs with
   |nil=>simp[dwks] at h
   | cons x xs=>
     simp only[dwks,List.map_cons,List.cons.injEq] at h
     rw[ys7 l h.2,List.map_cons]
     congr 1
     cases x<;>simp[dwk] at h
     rw[h.1]
theorem TR.gsi {i:Nat} {l:List Str} {v:AV} (h:TR P C ts χ (.gs l i) v):∃xs,dwks xs=l.map .st/\v= .ep xs i:=by cases h;exact ⟨_,by assumption,rfl⟩
theorem TR.sli {e:Nat} {l:List (K e)} {v:AV} (h:TR P C ts χ (.sl e l) v):∃z xs,dwks xs=cl (C.E e) l∧v= .sl z l.length xs:=by
 cases h with
 |sl _ _ z n xs hn hx=>subst hn;exact ⟨z,xs,hx,rfl⟩
theorem TR.rwi {s c:Nat} {n:Nat} {v:AV} (h:TR P C ts χ (.rw s c) v) (hn:tln (ts.tb s c)=some n):(χ s c=false∧v= .gs (.l s c) n)∨(χ s c=true∧n=0∧v= .sl true 0 []):=by
 cases h with
 |rwd _ _ _ _ h=>rw[hn] at h;cases h
 |rw _ _ n' _ h hx=>rw[hn] at h;cases h;exact .inl ⟨hx,rfl⟩
 |rwn _ _ _ h hx=>rw[hn] at h;cases h;exact .inr ⟨hx,rfl,rfl⟩
theorem TR.twk {u:TV K} {v:AV} (h:TR P C ts χ u v):TR P C ts χ (Go.AV.twk u) (weak v):=by
 have hs:=h.s
 unfold Go.AV.twk
 revert hs
 have hnc:∀id w,u.s≠ .cn id w:=by
  intro id w e
  cases h with
  |cn id' u v h hn hv=>simp only[TV.s] at e;rw[e] at hn;cases hn
  |_=>cases e
 revert hnc
 generalize u.s=w
 intro hnc hs
 cases hs with
 |un v=>exact .un _
 |lb b=>exact .lb b
 |bl b=>exact .bl b
 |li k n=>exact .li k n
 |it k n=>exact .it k n
 |st s=>exact .st s
 |agg us vs hl h=>exact .un _
 |tup us vs hl h=>exact .un _
 |nil=>exact .em _
 |em z=>exact .em _
 |sl e l z n xs hn hx=>exact .sl e l _ n xs hn hx
 |rwd s c v hr h h1=>exact .un _
 |rw s c n hr h hx=>exact .un _
 |rwn s c hr h hx=>exact .un _
 |px s c off hr=>exact .px s c off hr
 |pr e s c i of hr hx=>exact .pr e s c i of hr hx
 |ep e l i of xs hx=>exact .ep e l i of xs hx
 |gs l i xs hx=>exact .gs l i xs hx
 |nptr=>exact .nptr
 |fn f a c a' c' ha hc h h'=>exact .un _
 |fv ps rs F v h hv=>exact .fv ps rs F _ h (by rw[yop];exact hv)
 |yl r=>exact .yl r
 |cn id u v h hn hv=>exact (hnc _ _ rfl).elim
theorem ye5 {e e':Nat} {l:List (K e)} {l':List (K e')} (h:ylv e e' l=some l'):∃he:e=e',he▸l=l':=by
 unfold ylv at h
 split at h
 ·rename_i he;exact ⟨he,Option.some.inj h⟩
 ·cases h
theorem ylF (hC:CxOk P C) {e:Nat}:∀(n:Nat) (cs:List (TV K)) (vs:List AV) (l:List (K e)),yuH (C.T e).rd (C.E e).sz n cs=some l→TL P C ts χ cs vs→cs.length=n*(C.E e).sz→dwks vs=cl (C.E e) l∧l.length=n
 | 0,cs,vs,l,h,t,hl=>by
   cases h
   have:vs= []:=List.eq_nil_of_length_eq_zero (by rw[t.1,hl];simp)
   subst this;exact ⟨rfl,rfl⟩
 | n+1,cs,vs,l,h,t,hl=>by
   simp only[yuH] at h
   split at h
   ·rename_i x r h1 h2
    cases h
    obtain ⟨a1,a2⟩:=ylF hC n _ (vs.drop (C.E e).sz) r h2 (t.drop _) (by rw[List.length_drop,hl,Nat.add_mul];omega)
    have b1:=(t.take (C.E e).sz).mapS
    have b2:=hC.rd e _ x ts χ _ h1 (by rw[b1.1]) b1.2
    refine ⟨?_,by simp[a2]⟩
    rw[show cl (C.E e) (x::r)=(C.E e).c x++cl (C.E e) r by simp[cl],<-a1,<-b2,<-yc5,List.take_append_drop]
   ·cases h
theorem GM.trow (hC:CxOk P C) (h:GM P C R ts χ ds) {s c e:Nat} {l:List (K e)} (hr:trow C e (ts.tb s c)=some l):tln (ts.tb s c)=some l.length∧(χ s c=true→l= [])∧(χ s c=false→∃kb,ds.kb s c=some kb∧kb.e=e∧kb.sz=(C.E e).sz∧dwks kb.cells=cl (C.E e) l):=by
 unfold Go.AV.trow at hr
 split at hr
 ·rename_i e' l' hb
  obtain ⟨rfl,rfl⟩:=ye5 hr
  refine ⟨by rw[hb];rfl,fun hx=> ?_,fun hx=> ?_⟩
  ·obtain ⟨e2,h2⟩:=h.vi s c hx
   rw[hb] at h2
   cases h2;rfl
  ·obtain ⟨kb,h1,h2⟩:=h.mb s c _ hb hx
   exact ⟨kb,h1,h2⟩
 ·rename_i e' n cs hb
  split at hr
  ·rename_i he
   have:=nbeq.1 he;subst this
   have hx:=h.lrow hb
   obtain ⟨kb,h1,h2,h3,h4,h5,h6⟩:=h.mb s c _ hb hx
   obtain ⟨a1,a2⟩:=ylF hC n cs kb.cells l hr ⟨h4,h6⟩ h5
   exact ⟨by rw[hb,a2];rfl,fun q=>(by rw[hx] at q;cases q),fun _=>⟨kb,h1,h2,h3,a1⟩⟩
  ·cases hr
 ·cases hr
theorem ybN (hC:CxOk P C) {e:Nat} {l:List (K e)} {cells:List AV} {i:Nat} {y:K e} (hc:dwks cells=cl (C.E e) l) (hy:l[i]? =some y):TL P C ts χ ((C.T e).c y) ((cells.drop (i*(C.E e).sz)).take (C.E e).sz):=by
 obtain ⟨c1,c2⟩:=hC.c e y ts χ
 have h1:dwks ((cells.drop (i*(C.E e).sz)).take (C.E e).sz)=(C.E e).c y:=by
  rw[ygL,yhH,hc]
  have:=yCd (C.E e) hy 0 (C.E e).sz (by omega)
  rw[Nat.add_zero] at this
  rw[this,List.drop_zero,List.take_of_length_le (by rw[(C.E e).len];exact Nat.le_refl _)]
 have hlen:((cells.drop (i*(C.E e).sz)).take (C.E e).sz).length=((C.T e).c y).length:=by
  rw[<-c1,<-h1,ybI]
 refine ⟨hlen,fun j u v h2 h3=> ?_⟩
 refine TR.undwk (c2 j u (dwk v) h2 ?_) rfl
 rw[<-h1,ydZ,List.getElem?_map,h3];rfl
theorem yow {g:Bool} {sz off:Nat} {cs:List (TV K)} {vs:List AV} {u:TV K} (t:TL P C ts χ cs vs) (h:tldc g sz off cs=some u):∃v,kld g sz vs off=some v∧TR P C ts χ u v:=by
 unfold tldc at h
 split at h
 ·split at h
  ·rename_i hb
   cases h
   have:=Nat.le_of_ble_eq_true hb
   refine ⟨.agg ((vs.drop off).take sz),?_, .agg _ _ ((t.drop off).take sz).1 ((t.drop off).take sz).2⟩
   simp only[kld]
   rw[if_pos (by rw[t.1];exact this)]
  ·cases h
 ·obtain ⟨v,h1,h2⟩:=t.at' h
  exact ⟨v,h1,h2⟩
theorem yzk {e:Nat} {l:List (K e)} {cells:List AV} {i:Nat} {y:K e} (hc:dwks cells=cl (C.E e) l) (hy:l[i]? =some y):i*(C.E e).sz≤cells.length:=by
 rw[<-ybI cells,hc,yhp]
 exact Nat.mul_le_mul_right _ (Nat.le_of_lt (List.getElem?_eq_some_iff.1 hy).1)
theorem yzd {g:Bool} {w of o sz:Nat} {cells:List AV} {v:AV} (hoo:o≤cells.length) (hw:(g=true→of+w≤sz)∧(g=false→of<sz)) (h:kld g w ((cells.drop o).take sz) of=some v):kld g w cells (o+of)=some v:=by
 cases g with
 | true=>
   simp only[kld] at h⊢
   split at h
   ·rename_i hle
    cases h
    have h1:=hw.1 rfl
    simp only[List.length_take,List.length_drop] at hle
    rw[if_pos (by omega)]
    congr 2
    rw[List.drop_take,List.drop_drop,List.take_take]
    congr 1
    omega
   ·cases h
 | false=>
   simp only[kld] at h⊢
   have h1:=hw.2 rfl
   rw[List.getElem?_take,if_pos h1,List.getElem?_drop] at h
   exact h
theorem yuU {g:Bool} {w of:Nat} {cs:List (TV K)} {u:TV K} (h:tldc g w of cs=some u):(g=true→of+w≤cs.length)∧(g=false→of<cs.length):=by
 unfold tldc at h
 split at h
 ·split at h
  ·rename_i hb;exact ⟨fun _=>Nat.le_of_ble_eq_true hb,fun e=>by cases e⟩
  ·cases h
 ·exact ⟨fun e=>by (cases e),fun _=>(List.getElem?_eq_some_iff.1 h).1⟩
variable (P C R) in
def SR (o:AO) (ts:TS K) (ds:DS) (X:TS K->Prop):Prop:=∃e ds' ts' χ',Eff o.op o.dst ds e ds'/\(∀p∈e.mem,p.1∈twk' ts o)/\e.H=none/\GM P C R ts' χ' ds'/\X ts'/\ts'.rg=ts.rg
theorem yb2 (ts:TS K) (d:Option Nat) (u:TV K):(ts.put d u).rg=ts.rg:=by cases d<;>rfl
theorem yql {g:Bool} {sz:Nat} {x:AOpd} {d:Option Nat} {v:AV} (hk:DOk ds) (h:(∃s c off b,ev (lkF ds.fr) x= .pt (.l s c) off∧ds.kb s c=some b∧kld g sz b.cells off=some v)∨∃xs off,ev (lkF ds.fr) x= .ep xs off∧kld g sz xs off=some v):Eff (.ld g sz x) d ds (eff1 v) (ds.put d v):=by
 refine yrA (C:= []) ?_ trivial hk
 rcases h with ⟨s,c,off,b,h1,h2,h3⟩|⟨xs,off,h1,h2⟩
 ·simp only[kx,h1,h2,h3]
 ·simp only[kx,h1,h2]
theorem yhl {o:AO} {X:TS K→Prop} {u:TV K} {v:AV} (hγ:GM P C R ts χ ds) (hv:TR P C ts χ u v) (he:Eff o.op o.dst ds (eff1 v) (ds.put o.dst v)) (hX:X (ts.put o.dst u)):SR P C R o ts ds X:=
 ⟨_,_,_,χ,he,fun p hp=>(by cases hp),rfl,hγ.put hv,hX,yb2 _ _ _⟩
theorem yCU (hC:CxOk P C) (hγ:GM P C R ts χ ds) (hk:DOk ds) {o:AO} {g:Bool} {sz:Nat} {x:AOpd} {X:TS K→Prop} (ho:o.op= .ld g sz x) (h:tld C g sz ts (fun v=>X (ts.put o.dst v)) (tev ts.fr x)):SR P C R o ts ds X:=by
 have hx:=hγ.tev x
 have pxc:∀ {s c off:Nat} {cs:List (TV K)} {kb:KB},tev ts.fr x= .px s c off→ds.kb s c=some kb→TL P C ts χ cs kb.cells→wpo' (tldc g sz off cs) (fun v=>X (ts.put o.dst v))→SR P C R o ts ds X:=by
  intro s c off cs kb e h1 t hw
  obtain ⟨u,h2,hX⟩:=ycP hw
  rw[e] at hx
  obtain ⟨v,h3,h4⟩:=yow t h2
  exact yhl hγ h4 (by rw[ho];exact yql hk (.inl ⟨s,c,off,kb,hx.pxi,h1,h3⟩)) hX
 unfold tld at h
 split at h
 ·rename_i s c off e
  split at h
  ·rename_i e' cs hb
   obtain ⟨kb,h1,_,_,h4,h5⟩:=hγ.mb s c _ hb (hγ.box hb)
   exact pxc e h1 ⟨h4,h5⟩ h
  ·rename_i e' n cs hb
   obtain ⟨kb,h1,_,_,h4,_,h5⟩:=hγ.mb s c _ hb (hγ.lrow hb)
   exact pxc e h1 ⟨h4,h5⟩ h
  ·exact h.elim
 ·rename_i e' s c i of e
  obtain ⟨l,hl,y,hy,hw⟩:=ycP h
  obtain ⟨u,h2,hX⟩:=ycP hw
  rw[e] at hx
  have hx':=hx.pri
  obtain ⟨kb,k1,k2,k3,k4⟩:=(hγ.trow hC hl).2.2 hx'.1
  have t:=ybN (P:=P) (ts:=ts) (χ:=χ) hC k4 hy
  obtain ⟨v,h3,h4⟩:=yow t h2
  have hin:=yuU h2
  rw[<-(hC.c e' y ts χ).1,(C.E e').len] at hin
  exact yhl hγ h4 (by rw[ho];exact yql hk (.inl ⟨s,c,_,kb,hx'.2,k1,yzd (yzk k4 hy) hin h3⟩)) hX
 ·rename_i e' l i of e
  obtain ⟨y,hy,hw⟩:=h
  obtain ⟨u,h2,hX⟩:=ycP hw
  rw[e] at hx
  obtain ⟨xs,hxs,hev⟩:=hx.epi
  have t:=ybN (P:=P) (ts:=ts) (χ:=χ) hC hxs hy
  obtain ⟨v,h3,h4⟩:=yow t h2
  have hin:=yuU h2
  rw[<-(hC.c e' y ts χ).1,(C.E e').len] at hin
  exact yhl hγ h4 (by rw[ho];exact yql hk (.inr ⟨xs,_,hev,yzd (yzk hxs hy) hin h3⟩)) hX
 ·rename_i l i e
  rw[e] at hx
  obtain ⟨xs,hxs,hev⟩:=hx.gsi
  obtain rfl:=ys7 l hxs
  split at h
  ·split at h
   ·rename_i hb
    have hb:=Bool.and_eq_true_iff.1 hb
    have hi:i=0:=nbeq.1 hb.1
    have hs:sz=(l.map AV.st).length:=by rw[List.length_map];exact nbeq.1 hb.2
    have hkl:kld true sz (l.map AV.st) i=some (.agg (l.map .st)):=by
     simp only[kld,hi,hs,List.drop_zero,List.take_length]
     first|done|simp
    refine yhl (v:= .agg (l.map .st)) hγ ?_ (by rw[ho];exact yql hk (.inr ⟨_,_,hev,hkl⟩)) h
    refine .agg _ _ (by simp) fun j u v h1 h2=> ?_
    rw[List.getElem?_map] at h1 h2
    cases hj:l[j]? with
    |none=>rw[hj] at h1;cases h1
    |some s=>rw[hj] at h1 h2;cases h1;cases h2;exact .st s
   ·exact h.elim
  ·obtain ⟨y,hy,hX⟩:=h
   have hkl:kld false sz (l.map AV.st) i=some (.st y):=by
    simp only[kld,List.getElem?_map,hy,Option.map_some]
   exact yhl (v:= .st y) hγ (.st y) (by rw[ho];exact yql hk (.inr ⟨_,_,hev,hkl⟩)) hX
 ·exact h.elim
theorem ycf (p:Nat×Option (TB K)) (r:List (Nat×Option (TB K))) (t:Nat):lkB (p::r) t=if p.1=t then p.2 else lkB r t:=by
 show (match Nat.beq p.1 t with|true=>p.2|false=>lkB r t)=_
 cases h:Nat.beq p.1 t with
 |true=>simp[nbeq.1 h]
 |false=>simp only;rw[if_neg (fun e=>by rw[nbeq.2 e] at h;cases h)]
theorem ycD (ts:TS K) (q c:Nat) (b:Option (TB K)) (hc:c=1∨c=2) (s c':Nat):(ts.setb q c b).tb s c'=if s=q∧c'=c then b else ts.tb s c':=by
 have h1:∀(ts:TS K) (s:Nat),ts.tb s 1=lkB ts.od s:=fun _ _=>rfl
 have h2:∀(ts:TS K) (s:Nat),ts.tb s 2=lkB ts.nw s:=fun _ _=>rfl
 have h3:∀(ts:TS K) (s:Nat) (c:Nat),c≠1→c≠2→ts.tb s c=none:=by
  intro ts s c n1 n2
  unfold TS.tb
  cases e1:Nat.beq c 1 with
  |true=>exact absurd (nbeq.1 e1) n1
  | false=>cases e2:Nat.beq c 2 with
    |true=>exact absurd (nbeq.1 e2) n2
    |false=>rfl
 by_cases k1:c'=1
 ·subst k1
  rw[h1,h1]
  rcases hc with rfl|rfl
  ·show lkB ((q,b)::ts.od) s=_
   rw[ycf]
   by_cases e:q=s
   ·subst e;simp
   ·rw[if_neg e,if_neg (fun x=>e x.1.symm)]
  ·rw[if_neg (fun x=>by cases x.2)];rfl
 ·by_cases k2:c'=2
  ·subst k2
   rw[h2,h2]
   rcases hc with rfl|rfl
   ·rw[if_neg (fun x=>by cases x.2)];rfl
   ·show lkB ((q,b)::ts.nw) s=_
    rw[ycf]
    by_cases e:q=s
    ·subst e;simp
    ·rw[if_neg e,if_neg (fun x=>e x.1.symm)]
  ·rw[h3 _ _ _ k1 k2,h3 _ _ _ k1 k2,if_neg]
   rintro ⟨_,rfl⟩
   rcases hc with rfl|rfl
   ·exact k1 rfl
   ·exact k2 rfl
def updχ (χ:Nat->Nat->Bool) (s c:Nat) (v:Bool):Nat->Nat->Bool:=fun s' c'=>if s'=s/\c'=c then v else χ s' c'
theorem ycv (ts:TS K) (q c:Nat) (b:Option (TB K)):(ts.setb q c b).rg=ts.rg:=by unfold TS.setb;split<;>rfl
theorem ytK (ts:TS K) (q c:Nat) (b:Option (TB K)):(ts.setb q c b).h=ts.h:=by unfold TS.setb;split<;>rfl
theorem ypu (ts:TS K) (q c:Nat) (b:Option (TB K)):(ts.setb q c b).fr=ts.fr:=by unfold TS.setb;split<;>rfl
theorem ylI (ts:TS K) (q c:Nat) (b:Option (TB K)) (hc:c=1∨c=2) {s c':Nat} (h:okr ts s c'):okr (ts.setb q c b) s c':=by
 rcases h with h|⟨h1,h2⟩
 ·exact .inl h
 ·refine .inr ⟨h1,?_⟩
  rcases hc with rfl|rfl
  ·exact h2
  ·show (Nat.beq q s||memB ts.nw s)=true
   rw[h2,Bool.or_true]
theorem Mono.setb {s c:Nat} {b:Option (TB K)} {v:Bool} (hc:c=1∨c=2) (h:okr ts s c→(tln b=none∧v=false)∨(tln b=tln (ts.tb s c)∧v=χ s c)):Mono ts (ts.setb s c b) χ (updχ χ s c v):=by
 refine ⟨fun id u q=>by rw[ycv];exact q,fun s' c' q=>ylI ts s c b hc q,fun s' c' q=> ?_⟩
 rw[ycD ts s c b hc]
 unfold updχ
 by_cases e:s'=s/\c'=c
 ·obtain ⟨rfl,rfl⟩:=e
  simpa using h q
 ·rw[if_neg e,if_neg e];exact .inr ⟨rfl,rfl⟩
theorem GM.setb {s c:Nat} {b:Option (TB K)} {kb:Option KB} (hγ:GM P C R ts χ ds) (hc:c=1∨c=2) (hm:Mono ts (ts.setb s c b) χ (updχ χ s c false)) (hb:∀b',b=some b'→∃k',kb=some k'∧MR P C ts χ b' k') (hl:∀b',b=some b'→c=1→2000000≤s→R.L s=false):GM P C R (ts.setb s c b) (updχ χ s c false) (ds.set s c kb):=by
 refine ⟨fun t=> ?_,fun s' c' b' h1 h2=> ?_,fun s' c' h1=> ?_,fun s' h1=> ?_,by rw[ytK,yAc,ynU];exact hγ.hp,fun s' b9 q9 e9=> ?_⟩
 rotate_right
 ·rw[ycD ts s c _ hc] at e9
  unfold updχ
  by_cases e:s'=s/\1=c
  ·rw[if_pos e] at e9⊢;obtain ⟨rfl,e2⟩:=e;exact hl b9 e9 e2.symm q9
  ·rw[if_neg e] at e9⊢;exact hγ.lv s' b9 q9 e9
 ·rw[ypu,yp2];exact (hγ.fr t).mono hm
 ·rw[ycD ts s c b hc] at h1
  rw[yp5 ds s c kb hc]
  unfold updχ at h2
  by_cases e:s'=s/\c'=c
  ·rw[if_pos e] at h1⊢
   obtain ⟨k',q1,q2⟩:=hb b' h1
   exact ⟨k',q1,q2.mono hm⟩
  ·rw[if_neg e] at h1 h2⊢
   obtain ⟨k',q1,q2⟩:=hγ.mb s' c' b' h1 h2
   exact ⟨k',q1,q2.mono hm⟩
 ·unfold updχ at h1
  rw[ycD ts s c b hc]
  by_cases e:s'=s/\c'=c
  ·rw[if_pos e] at h1;cases h1
  ·rw[if_neg e] at h1⊢;exact hγ.vi s' c' h1
 ·rcases hc with rfl|rfl
  ·exact hγ.nw s' h1
  ·have h1':(Nat.beq s s'||memB ts.nw s')=false:=h1
   simp only[Bool.or_eq_false_iff] at h1'
   show (Nat.beq s s'||memO ds.nw s')=false
   rw[h1'.1,hγ.nw s' h1'.2];rfl
theorem GM.setv {s e:Nat} (hγ:GM P C R ts χ ds) (hn:memB ts.nw s=false):GM P C R (ts.setb s 2 (some (.row e []))) (updχ χ s 2 true) ds:=by
 have hm:Mono ts (ts.setb s 2 (some (.row e []))) χ (updχ χ s 2 true):=Mono.setb (.inr rfl) (fun q=>by
  rcases q with q|⟨_,q⟩
  ·cases q
  ·rw[hn] at q;cases q)
 refine ⟨fun t=> ?_,fun s' c' b' h1 h2=> ?_,fun s' c' h1=> ?_,fun s' h1=> ?_,by rw[ytK];exact hγ.hp,fun s' b9 q9 e9=> ?_⟩
 rotate_right
 ·rw[ycD ts s 2 _ (.inr rfl)] at e9
  unfold updχ
  by_cases e:s'=s/\1=2
  ·cases e.2
  ·rw[if_neg e] at e9⊢;exact hγ.lv s' b9 q9 e9
 ·rw[ypu];exact (hγ.fr t).mono hm
 ·rw[ycD ts s 2 _ (.inr rfl)] at h1
  unfold updχ at h2
  by_cases e:s'=s/\c'=2
  ·rw[if_pos e] at h2;cases h2
  ·rw[if_neg e] at h1 h2
   obtain ⟨k',q1,q2⟩:=hγ.mb s' c' b' h1 h2
   exact ⟨k',q1,q2.mono hm⟩
 ·unfold updχ at h1
  rw[ycD ts s 2 _ (.inr rfl)]
  by_cases e:s'=s/\c'=2
  ·rw[if_pos e];exact ⟨_,rfl⟩
  ·rw[if_neg e] at h1⊢;exact hγ.vi s' c' h1
 ·have h1':(Nat.beq s s'||memB ts.nw s')=false:=h1
  simp only[Bool.or_eq_false_iff] at h1'
  exact hγ.nw s' h1'.2
theorem tb_c {s c:Nat} {b:TB K} (h:ts.tb s c=some b):c=1∨c=2:=by
 unfold TS.tb at h
 split at h
 ·rename_i e;exact .inl (nbeq.1 e)
 ·split at h
  ·rename_i e;exact .inr (nbeq.1 e)
  ·cases h
theorem yg4:∀ {l:List (Nat×Option (TB K))} {s:Nat} {b:TB K},lkB l s=some b→memB l s=true
 | [],_,_,h=>by cases h
 | p::r,s,b,h=>by
   rw[ycf] at h
   show (Nat.beq p.1 s||memB r s)=true
   split at h
   ·rename_i e;rw[nbeq.2 e];rfl
   ·rw[yg4 h,Bool.or_true]
theorem yBj {s c:Nat} {b:TB K} (h:ts.tb s c=some b):okr ts s c:=by
 rcases tb_c h with rfl|rfl
 ·exact .inl rfl
 ·exact .inr ⟨rfl,yg4 h⟩
theorem ynN {cs vs:List (TV K)} {cs' vs':List AV} {off sz:Nat} (h:TL P C ts χ cs cs') (k:TL P C ts χ vs vs') (hs:vs.length=sz):TL P C ts χ (yi5 cs off vs) (cs'.take off++vs'++cs'.drop (off+sz)):=by
 unfold yi5
 rw[hs]
 exact ((h.take off).app k).app (h.drop _)
theorem ywd {sz:Nat} {x y:AOpd} {d:Option Nat} {s c off:Nat} {b:KB} (hk:DOk ds) (h1:ev (lkF ds.fr) x= .pt (.l s c) off) (h2:ds.kb s c=some b) (h3:(ev (lkF ds.fr) y).cells.length=sz) (h4:(ev (lkF ds.fr) y).cells.all AV.one=true) (h5:off+sz≤b.cells.length):
  Eff (.sto sz x y) d ds ⟨.un,[((s,c),some ⟨b.e,b.sz,b.cells.take off++(ev (lkF ds.fr) y).cells++b.cells.drop (off+sz)⟩)],[],none⟩ ((ds.set s c (some ⟨b.e,b.sz,b.cells.take off++(ev (lkF ds.fr) y).cells++b.cells.drop (off+sz),false⟩)).put d .un):=by
 refine yrA (C:= []) ?_ trivial hk
 simp only[kx,h1,h2]
 rw[if_pos ⟨h3,h4,h5⟩]
theorem yz4 (hC:CxOk P C) (hγ:GM P C R ts χ ds) (hk:DOk ds) {o:AO} {sz:Nat} {x y:AOpd} {X:TS K→Prop} (ho:o.op= .sto sz x y) (h:tsto C sz ts (tcl (tea ts.fr y)) (fun t=>X (t.put o.dst .un)) (tev ts.fr x)):SR P C R o ts ds X:=by
 have hx:=hγ.tev x
 unfold tsto at h
 split at h
 ·rename_i s c off e
  rw[e] at hx
  split at h
  ·rename_i e' cs hb
   split at h
   ·rename_i hc
    simp only[Bool.and_eq_true] at hc
    obtain ⟨⟨c1,c2⟩,c3⟩:=hc
    have c1:=nbeq.1 c1
    obtain ⟨t1,t2⟩:=(hγ.tea y).tcl c2
    have hχ:=hγ.box hb
    obtain ⟨kb,k1,k2,k3,k4,k5⟩:=hγ.mb s c _ hb hχ
    have hE:=ywd (sz:=sz) (d:=o.dst) hk hx.pxi k1 (by rw[t1.1,c1]) t2 (by rw[k4];exact Nat.le_of_ble_eq_true c3)
    have hm:Mono ts (ts.setb s c (some (.box e' (yi5 cs off (tcl (tea ts.fr y)))))) χ (updχ χ s c false):=Mono.setb (tb_c hb) (fun _=> .inl ⟨rfl,rfl⟩)
    have hsp:=ynN (off:=off) (show TL P C ts χ cs kb.cells from ⟨k4,k5⟩) t1 c1
    have hlen:(yi5 cs off (tcl (tea ts.fr y))).length=cs.length:=by
     have:=Nat.le_of_ble_eq_true c3
     unfold yi5
     simp only[List.length_append,List.length_take,List.length_drop,c1];omega
    refine ⟨_,_,_,_,by rw[ho];exact hE,fun p hp=> ?_,rfl,(hγ.setb (tb_c hb) hm (fun b' hb'=>⟨_,rfl,?_⟩) fun _ _ e9 q9=>by subst e9;exact (hγ.lv _ _ q9 hb).trans hχ).put (.un _),h,by rw[yb2,ycv]⟩
    ·simp only[List.mem_singleton] at hp;subst hp;simp only[twk',ho,e,trf,List.mem_singleton]
    ·cases hb'
     exact ⟨k2,by rw[hlen];exact k3,hsp.1,hsp.2⟩
   ·exact h.elim
  ·exact h.elim
 ·rename_i e' s c i of e
  rw[e] at hx
  split at h
  ·rename_i hc
   simp only[Bool.and_eq_true] at hc
   obtain ⟨⟨c1,c2⟩,c4⟩:=hc
   have c1:=nbeq.1 c1
   have c4:=Nat.le_of_ble_eq_true c4
   obtain ⟨t1,t2⟩:=(hγ.tea y).tcl c2
   obtain ⟨l,hl,y0,hy,hw⟩:=ycP h
   obtain ⟨y',hy',hX⟩:=ycP hw
   obtain ⟨hχ,hev⟩:=hx.pri
   obtain ⟨hln,_,hkb⟩:=hγ.trow hC hl
   obtain ⟨kb,k1,k2,k3,k4⟩:=hkb hχ
   have hil:i<l.length:=(List.getElem?_eq_some_iff.1 hy).1
   have hclen:kb.cells.length=l.length*(C.E e').sz:=by rw[<-ybI kb.cells,k4,yhp]
   have hoff:i*(C.E e').sz+of+sz≤kb.cells.length:=by
    rw[hclen]
    have:(i+1)*(C.E e').sz<=l.length*(C.E e').sz:=Nat.mul_le_mul_right _ hil
    rw[Nat.add_mul] at this
    omega
   have hE:=ywd (sz:=sz) (d:=o.dst) hk hev k1 (by rw[t1.1,c1]) t2 hoff
   have hbt:∃b0,ts.tb s c=some b0:=by
    cases hq:ts.tb s c with
    |none=>rw[hq] at hln;cases hln
    |some b0=>exact ⟨b0,rfl⟩
   obtain ⟨b0,hb0⟩:=hbt
   have hm:Mono ts (ts.setb s c (some (.row e' (l.set i y')))) χ (updχ χ s c false):=Mono.setb (tb_c hb0) (fun _=> .inr ⟨by rw[hln];simp[tln],hχ.symm⟩)
   have hcells:dwks (kb.cells.take (i*(C.E e').sz+of)++(ev (lkF ds.fr) y).cells++kb.cells.drop (i*(C.E e').sz+of+sz))=cl (C.E e') (l.set i y'):=by
    have tt:=ynN (off:=of) (ybN (P:=P) (ts:=ts) (χ:=χ) hC k4 hy) t1 c1
    have hd:=hC.rd e' _ y' ts χ _ hy' (by rw[tt.mapS.1]) tt.mapS.2
    rw[yc5,yc5,ygL,yhH] at hd
    rw[yc5,yc5,ygL,yhH,k4]
    have hch:dwks ((kb.cells.drop (i*(C.E e').sz)).take (C.E e').sz)=(C.E e').c y0:=by
     rw[ygL,yhH,k4]
     have:=yCd (C.E e') hy 0 (C.E e').sz (by omega)
     rw[Nat.add_zero] at this
     rw[this,List.drop_zero,List.take_of_length_le (by rw[(C.E e').len];exact Nat.le_refl _)]
    rw[hch] at hd
    refine yC0 (C.E e') hy of sz c4 ?_
    exact hd
   refine ⟨_,_,_,_,by rw[ho];exact hE,fun p hp=> ?_,rfl,(hγ.setb (tb_c hb0) hm (fun b' hb'=>⟨_,rfl,?_⟩) fun _ _ e9 q9=>by subst e9;exact (hγ.lv _ _ q9 hb0).trans hχ).put (.un _),hX,by rw[yb2,ycv]⟩
   ·simp only[List.mem_singleton] at hp;subst hp;simp only[twk',ho,e,trf,List.mem_singleton]
   ·cases hb'
    exact ⟨k2,k3,hcells⟩
  ·exact h.elim
 ·exact h.elim
end
end Go.AV
end
noncomputable section
namespace Go.AV
open Go.RowKit Go.RG Go.Lib
variable {K:Nat->Type}
section
variable {P:Program} {C:Cx K} {R:RR K} {ts ts':TS K} {χ χ':Nat->Nat->Bool} {ds:DS}
theorem ydc {d:Nat} {p:Prop} (h:yhB ts d p):memB ts.nw d=false∧p:=by
 unfold yhB at h
 split at h
 ·exact h.elim
 ·rename_i e;exact ⟨e,h⟩
theorem yoP {s:Nat} (h:memB ts.nw s=false):¬okr ts s 2:=by
 rintro (q|⟨_,q⟩)
 ·cases q
 ·rw[h] at q;cases q
theorem Mono.new {s:Nat} {b:Option (TB K)} {v:Bool} (h:memB ts.nw s=false):Mono ts (ts.setb s 2 b) χ (updχ χ s 2 v):=Mono.setb (.inr rfl) (fun q=>(yoP h q).elim)
theorem ypC (ts:TS K) (s:Nat) (b:Option (TB K)):okr (ts.setb s 2 b) s 2:= .inr ⟨rfl,by show (Nat.beq s s||memB ts.nw s)=true;rw[nbeq.2 rfl];rfl⟩
theorem ysT {o:AO} {X:TS K→Prop} {b:TB K} {kb:KB} {w:Nat→TV K} {v:AV} {e:REff} (hγ:GM P C R ts χ ds) (hn:memB ts.nw (site o.dst)=false) (hE:Eff o.op o.dst ds e ((ds.set (site o.dst) 2 (some kb)).put o.dst v))
  (he:∀p∈e.mem,p.1∈twk' ts o) (hH:e.H=none) (hM:MR P C ts χ b kb) (hv:okr (ts.setb (site o.dst) 2 (some b)) (site o.dst) 2->TR P C (ts.setb (site o.dst) 2 (some b)) (updχ χ (site o.dst) 2 false) (w (site o.dst)) v) (hX:X (tnew ts o.dst b w)):SR P C R o ts ds X:=by
 have hg:=hγ.setb (s:=site o.dst) (c:=2) (b:=some b) (kb:=some kb) (.inr rfl) (Mono.new hn) (fun b' hb'=>⟨kb,rfl,by cases hb';exact hM⟩) (fun _ _ e9 _=>by cases e9)
 exact ⟨e,_,_,_,hE,he,hH,hg.put (hv (ypC _ _ _)),hX,by rw[yb2,ycv]⟩
theorem yh0 (χ:Nat->Nat->Bool) (s c:Nat) (v:Bool):updχ χ s c v s c=v:=by simp[updχ]
theorem ynL (ts:TS K) (s:Nat) (b:Option (TB K)):(ts.setb s 2 b).tb s 2=b:=by rw[ycD ts s 2 b (.inr rfl)];simp
theorem yz3 (hγ:GM P C R ts χ ds) (hk:DOk ds) {F:Cf K} {o:AO} {e sz:Nat} {x:AOpd} {X:TS K→Prop} {dr:Bool} (ho:o.op= .box e sz x) (h:step F dr o ts X):SR P C R o ts ds X:=by
 unfold step at h
 rw[ho] at h
 simp only at h
 split at h
 ·rename_i hc
  simp only[Bool.and_eq_true] at hc
  obtain ⟨⟨c1,c2⟩,c3⟩:=hc
  obtain ⟨hn,hX⟩:=ydc h
  obtain ⟨t1,t2⟩:=(hγ.tea x).tcl c2
  have c1:=nbeq.1 c1
  have hE:Eff o.op o.dst ds ⟨.pt (.l (site o.dst) 2) 0,[((site o.dst,2),some ⟨e,sz,(ev (lkF ds.fr) x).cells⟩)],[site o.dst],none⟩ ((ds.set (site o.dst) 2 (some ⟨e,sz,(ev (lkF ds.fr) x).cells,false⟩)).put o.dst (.pt (.l (site o.dst) 2) 0)):=by
   rw[ho]
   refine yrA (C:= []) ?_ trivial hk
   simp only[kx,hγ.nw _ hn]
   rw[if_pos ⟨by rw[t1.1,c1],t2,Nat.le_of_ble_eq_true c3⟩]
  refine ysT (b:= .box e (Go.AV.tcl (Go.AV.tea ts.fr x))) (w:=fun s=> .px s 2 0) hγ hn hE (fun p hp=> ?_) rfl ⟨rfl,c1.symm,t1.1,t1.2⟩ (fun q=> .px _ _ _ q) hX
  simp only[List.mem_singleton] at hp;subst hp;simp[twk',ho]
 ·exact h.elim
theorem ylV:∀(l:List (Nat×Nat×TV K)) (cells cs:List (TV K)),yqj cells l=some cs→cs.length=cells.length
 | [],cells,cs,h=>by cases h;rfl
 | (off,sz,v)::l,cells,cs,h=>by
   simp only[yqj] at h
   split at h
   ·rename_i hc
    simp only[Bool.and_eq_true] at hc
    have c1:=nbeq.1 hc.1.1
    have c2:=Nat.le_of_ble_eq_true hc.1.2
    rw[ylV l _ cs h]
    simp only[List.length_append,List.length_take,List.length_drop,c1];omega
   ·cases h
theorem TL.rep {us:List (TV K)} {vs:List AV} (h:TL P C ts χ us vs):∀n,TL P C ts χ (List.replicate n us).flatten (List.replicate n vs).flatten
 |0=> .nil
 |n+1=>by rw[List.replicate_succ,List.replicate_succ,List.flatten_cons,List.flatten_cons];exact h.app (TL.rep h n)
theorem ysw {α:Type} (z:List α):∀n,(List.replicate n z).flatten.length=n*z.length
 |0=>by simp
 |n+1=>by rw[List.replicate_succ,List.flatten_cons,List.length_append,ysw z n,Nat.add_mul];omega
theorem TL.twk {us:List (TV K)} {vs:List AV} (h:TL P C ts χ us vs):TL P C ts χ (us.map Go.AV.twk) (vs.map weak):=by
 refine ⟨by simp[h.1],fun j u v h1 h2=> ?_⟩
 rw[List.getElem?_map] at h1 h2
 obtain ⟨u',e1,rfl⟩:=Option.map_eq_some_iff.1 h1
 obtain ⟨v',e2,rfl⟩:=Option.map_eq_some_iff.1 h2
 exact (h.2 j u' v' e1 e2).twk
theorem yzL (hγ:GM P C R ts χ ds) (hk:DOk ds) {F:Cf K} (hF:F.C=C) {o:AO} {e sz n:Nat} {z:List AV} {parts:List (Nat×Nat×AOpd)} {X:TS K→Prop} {dr:Bool} (ho:o.op= .bsl e sz n z parts) (h:step F dr o ts X):SR P C R o ts ds X:=by
 unfold step at h
 rw[ho,hF] at h
 simp only at h
 split at h
 ·rename_i hc
  simp only[Bool.and_eq_true] at hc
  obtain ⟨⟨c1,c2⟩,c3⟩:=hc
  have c1:=nbeq.1 c1
  have c2:=nbeq.1 c2
  have c3:=Nat.le_of_ble_eq_true c3
  obtain ⟨hn,h⟩:=ydc h
  obtain ⟨cs,hcs,hX⟩:=ycP h
  obtain ⟨cs',e2,t⟩:=ylQ (P:=P) (C:=C) (ts:=ts) (χ:=χ) _ (parts.map fun p=>(p.1,p.2.1,ev (lkF ds.fr) p.2.2)) _ (ybm z n) _ (TL.rep (TL.cvAs z) n) (by simp) (fun j p q a b=>by
   rw[List.getElem?_map] at a b
   cases hp:parts[j]? with
   |none=>rw[hp] at a;cases a
   |some r=>rw[hp] at a b;cases a;cases b;exact ⟨rfl,rfl,hγ.tea _⟩) hcs
  have hz:0<sz:=by rw[<-c2];exact (C.E e).pos
  have hE:Eff o.op o.dst ds ⟨.gs (.l (site o.dst) 2) n,[((site o.dst,2),some ⟨e,sz,cs'.map weak⟩)],[site o.dst],none⟩ ((ds.set (site o.dst) 2 (some ⟨e,sz,cs'.map weak,false⟩)).put o.dst (.gs (.l (site o.dst) 2) n)):=by
   rw[ho]
   refine yrA (C:= []) ?_ trivial hk
   simp only[kx,hγ.nw _ hn,e2]
   rw[if_pos ⟨c1,hz,c3⟩]
  have hcl:cs.length=n*sz:=by rw[ylV _ _ _ hcs,ysw];rw[<-(TL.cvAs (P:=P) (C:=C) (ts:=ts) (χ:=χ) z).1,c1]
  refine ysT (b:= .lrow e n (cs.map Go.AV.twk)) (w:=trw) hγ hn hE (fun p hp=> ?_) rfl ⟨rfl,c2.symm,(TL.twk t).1,by simp[hcl,c2],(TL.twk t).2⟩ (fun q=> .rw _ _ n q (by rw[ynL];rfl) (yh0 _ _ _ _)) hX
  simp only[List.mem_singleton] at hp;subst hp;simp[twk',ho]
 ·exact h.elim
theorem yCu {x y:AOpd} {k k':IntKind} {n m:Int} (h:eqO x y=true) (hx:ev (lkF ds.fr) x= .it k n) (hy:ev (lkF ds.fr) y= .it k' m):n=m:=by
 unfold eqO at h
 split at h
 ·have:=nbeq.1 h;subst this;rw[hx] at hy;cases hy;rfl
 ·have:=of_decide_eq_true h
  simp only[ev] at hx hy
  cases hx;cases hy;exact this
 ·cases h
theorem yvE {T:Type} (E:Enc T) (v:T):∀n,cl E (List.replicate n v)=(List.replicate n (E.c v)).flatten
 |0=>rfl
 |n+1=>by rw[List.replicate_succ,List.replicate_succ,List.flatten_cons,<-yvE E v n];simp[cl]
theorem yoF (z:List AV):∀n,dwks (List.replicate n z).flatten=(List.replicate n (dwks z)).flatten
 |0=>rfl
 |n+1=>by rw[List.replicate_succ,List.replicate_succ,List.flatten_cons,List.flatten_cons,yc5,yoF z n]
theorem yAY (hC:CxOk P C) (hγ:GM P C R ts χ ds) (hk:DOk ds) {F:Cf K} (hF:F.C=C) {o:AO} {e sz bytes:Nat} {z:List AV} {x y:AOpd} {X:TS K→Prop} {dr:Bool} (ho:o.op= .mks e sz bytes z x y) (h:step F dr o ts X):SR P C R o ts ds X:=by
 unfold step at h
 rw[ho,hF] at h
 simp only at h
 split at h
 ·rename_i k q k' q' v e1 e2 e3
  split at h
  ·rename_i hc
   simp only[Bool.and_eq_true] at hc
   obtain ⟨⟨c1,c2⟩,c3⟩:=hc
   have c1:=nbeq.1 c1
   have c2:=nbeq.1 c2
   obtain ⟨hn,h0,h1,h2,hX⟩:=ydc h
   have hx:=(hγ.tev x).int e1
   have hy:=(hγ.tev y).int e2
   have hqq:=yCu c3 hx hy
   have hz:0<sz:=by rw[<-c2];exact (C.E e).pos
   have hE:Eff o.op o.dst ds ⟨.gs (.l (site o.dst) 2) q.toNat,[((site o.dst,2),some ⟨e,sz,ybm z q.toNat⟩)],[site o.dst],none⟩ ((ds.set (site o.dst) 2 (some ⟨e,sz,ybm z q.toNat,false⟩)).put o.dst (.gs (.l (site o.dst) 2) q.toNat)):=by
    rw[ho]
    refine ⟨?_,yl5 (b:=⟨e,sz,ybm z q.toNat,false⟩) (hγ.nw _ hn),DOk.put (hk.set (.inr rfl) fun x hx=>by cases hx;exact ⟨Nat.pos_iff_ne_zero.1 hz,fun q=>by cases q⟩)⟩
    simp only[effA]
    rw[ycE,hx,hy]
    simp only
    rw[if_pos ⟨hqq,h0,c1,hz,h1,h2⟩,yin (hγ.nw _ hn)]
    rfl
   have hcells:dwks (ybm z q.toNat)=cl (C.E e) (List.replicate q.toNat v):=by
    have t:=(TL.cvAs (P:=P) (C:=C) (ts:=ts) (χ:=χ) z).mapS
    have:=hC.rd e _ v ts χ z e3 t.1 t.2
    unfold ybm
    rw[yoF,this,yvE]
   refine ysT (b:= .row e (List.replicate q.toNat v)) (w:=trw) hγ hn hE (fun p hp=> ?_) rfl ⟨rfl,c2.symm,hcells⟩ (fun q=> .rw _ _ _ q (by rw[ynL];simp[tln]) (yh0 _ _ _ _)) hX
   simp only[List.mem_singleton] at hp;subst hp;simp[twk',ho]
  ·exact h.elim
 ·exact h.elim
theorem yBe (hC:CxOk P C) (hγ:GM P C R ts χ ds) (hk:DOk ds) {F:Cf K} (hF:F.C=C) {o:AO} {e sz bytes:Nat} {z:List AV} {x y:AOpd} {X:TS K→Prop} {dr:Bool} (ho:o.op= .apz e sz bytes z x y) (h:step F dr o ts X):SR P C R o ts ds X:=by
 unfold step at h
 rw[ho,hF] at h
 simp only at h
 split at h
 ·rename_i q v e1 e2 e3
  split at h
  ·rename_i hc
   simp only[Bool.and_eq_true] at hc
   obtain ⟨c1,c2⟩:=hc
   have c1:=nbeq.1 c1
   have c2:=nbeq.1 c2
   obtain ⟨hn,h0,h1,h2,hX⟩:=ydc h
   have hx:=hγ.tev x
   rw[e1] at hx
   have hy:=(hγ.tev y).int e2
   have hz:0<sz:=by rw[<-c2];exact (C.E e).pos
   have hE:Eff o.op o.dst ds ⟨.gs (.l (site o.dst) 2) q.toNat,[((site o.dst,2),some ⟨e,sz,ybm z q.toNat⟩)],[site o.dst],none⟩ ((ds.set (site o.dst) 2 (some ⟨e,sz,ybm z q.toNat,false⟩)).put o.dst (.gs (.l (site o.dst) 2) q.toNat)):=by
    rw[ho]
    refine ⟨?_,yl5 (b:=⟨e,sz,ybm z q.toNat,false⟩) (hγ.nw _ hn),DOk.put (hk.set (.inr rfl) fun x hx=>by cases hx;exact ⟨Nat.pos_iff_ne_zero.1 hz,fun q=>by cases q⟩)⟩
    simp only[effA]
    have hv:ev (lkF ds.fr) x= .sl true 0 []:=by generalize ev (lkF ds.fr) x=v at hx;cases hx;rfl
    rw[ycE,hy,hv]
    simp only
    rw[if_pos ⟨h0,c1,hz,h1,h2⟩,yin (hγ.nw _ hn)]
    rfl
   have hcells:dwks (ybm z q.toNat)=cl (C.E e) (List.replicate q.toNat v):=by
    have t:=(TL.cvAs (P:=P) (C:=C) (ts:=ts) (χ:=χ) z).mapS
    have:=hC.rd e _ v ts χ z e3 t.1 t.2
    unfold ybm
    rw[yoF,this,yvE]
   refine ysT (b:= .row e (List.replicate q.toNat v)) (w:=trw) hγ hn hE (fun p hp=> ?_) rfl ⟨rfl,c2.symm,hcells⟩ (fun q=> .rw _ _ _ q (by rw[ynL];simp[tln]) (yh0 _ _ _ _)) hX
   simp only[List.mem_singleton] at hp;subst hp;simp[twk',ho]
  ·exact h.elim
 ·exact h.elim
theorem yp1 {s c n:Nat} (h:tln (ts.tb s c)=some n):okr ts s c:=by
 cases hq:ts.tb s c with
 |none=>rw[hq] at h;cases h
 |some b0=>exact yBj hq
theorem yAH (hC:CxOk P C) (hγ:GM P C R ts χ ds) (hk:DOk ds) {F:Cf K} (hF:F.C=C) {o:AO} {sz:Nat} {x i:AOpd} {X:TS K→Prop} {dr:Bool} (ho:o.op= .iad sz x i) (h:step F dr o ts X):SR P C R o ts ds X:=by
 unfold step at h
 rw[ho,hF] at h
 simp only at h
 split at h
 ·rename_i k q e1
  have hi:=(hγ.tev i).int e1
  have hx:=hγ.tev x
  unfold tiad at h
  split at h
  ·rename_i e l ex
   split at h
   ·rename_i hz
    have hz:=nbeq.1 hz
    obtain ⟨h0,h1,hX⟩:=h
    rw[ex] at hx
    obtain ⟨z,xs,hxs,hv⟩:=hx.sli
    refine yhl hγ (TR.ep e l q.toNat 0 xs hxs) ?_ hX
    rw[ho]
    refine yrA (C:= [0<=q/\q<(l.length:Int)]) ?_ ⟨⟨h0,h1⟩,trivial⟩ hk
    simp only[kx,kpv,hv,hi,hz,Nat.add_zero]
   ·exact h.elim
  ·rename_i s c ex
   split at h
   ·rename_i hz
    have hz:=nbeq.1 hz
    obtain ⟨l,hl,h0,h1,hX⟩:=ycP h
    rw[ex] at hx
    obtain ⟨g1,g2,g3⟩:=hγ.trow hC hl
    rcases hx.rwi g1 with ⟨hχ,hv⟩|⟨hχ,hn,_⟩
    ·have hro:okr ts s c:=yp1 g1
     refine yhl hγ (TR.pr _ s c q.toNat 0 hro hχ) ?_ hX
     rw[ho]
     refine yrA (C:= [0<=q/\q<(l.length:Int)]) ?_ ⟨⟨h0,h1⟩,trivial⟩ hk
     obtain ⟨kb,k1,_⟩:=g3 hχ
     have hlv:ybl (toD ds) (.l s c)=true:=by show ((ds.kb s c).map KB.blk).isSome=true;rw[k1];rfl
     simp only[kx,kpv,hv,hi,hlv,hz,Nat.add_zero]
    ·rw[hn] at h1;exact absurd h1 (by omega)
   ·exact h.elim
  ·exact h.elim
 ·exact h.elim
theorem ykc {u:AOp} {d:Option Nat} {D:List Prop} {v:AV} (hk:DOk ds) (hm:yBp u=false) (h:kpv (ybl (toD ds)) ds.fr u=some (D,v)) (hD:AllP D):Eff u d ds (eff1 v) (ds.put d v):=by
 refine yrA (C:=D) ?_ hD hk
 unfold kx
 split<;>first|(cases hm;done)|(rw[h])
theorem yzx (hγ:GM P C R ts χ ds) (hk:DOk ds) {o:AO} {x:AOpd} {X:TS K→Prop} (ho:o.op= .len x) (h:tlen C true ts (fun v=>X (ts.put o.dst v)) (tev ts.fr x)):SR P C R o ts ds X:=by
 have hx:=hγ.tev x
 have fin:∀ {u:TV K} {v:AV},TR P C ts χ u v→pval (ybl (toD ds)) (ev (lkF ds.fr)) (.len x)=some v→X (ts.put o.dst u)→SR P C R o ts ds X:=by
  intro u v hv hp hX
  refine yhl hγ hv ?_ hX
  rw[ho]
  exact ykc hk rfl (show kok (pval (ybl (toD ds)) (ev (lkF ds.fr)) (.len x))=some ([],v) by rw[hp];rfl) trivial
 unfold tlen at h
 split at h
 ·rename_i e l ex
  rw[ex] at hx
  obtain ⟨z,xs,hxs,hv⟩:=hx.sli
  exact fin (.it .i64 _) (by simp only[pval,hv]) h
 ·rename_i ex
  rw[ex] at hx
  have:ev (lkF ds.fr) x= .sl true 0 []:=by
   revert hx;generalize ev (lkF ds.fr) x=w;intro hx;cases hx;rfl
  exact fin (.li .i64 0) (by simp only[pval,this];rfl) h
 ·rename_i ex
  rw[ex] at hx
  have:∃z,ev (lkF ds.fr) x= .sl z 0 []:=by
   revert hx;generalize ev (lkF ds.fr) x=w;intro hx;cases hx;exact ⟨_,rfl⟩
  obtain ⟨z,this⟩:=this
  exact fin (.li .i64 0) (by simp only[pval,this];rfl) h
 ·rename_i s c ex
  rw[ex] at hx
  have go:∀ {n:Nat} {b:TB K} {u:TV K},ts.tb s c=some b→tln (some b)=some n→TR P C ts χ u (.it .i64 (n:Int))→X (ts.put o.dst u)→SR P C R o ts ds X:=by
   intro n b u hb hn hu hX
   rcases hx.rwi (n:=n) (by rw[hb];exact hn) with ⟨hχ,hv⟩|⟨hχ,h0,hv⟩
   ·exact fin hu (by simp only[pval,hv,hγ.live hb hχ,if_true]) hX
   ·subst h0;exact fin hu (by simp only[pval,hv]) hX
  split at h
  ·rename_i e l hb;exact go hb rfl (.it _ _) h
  ·rename_i e n cs hb;exact go hb rfl (.li _ _) h
  ·exact h.elim
 ·exact h.elim
end
end Go.AV
end
noncomputable section
namespace Go.AV
open Go.RowKit Go.RG Go.Lib
variable {K:Nat->Type}
section
variable {P:Program} {C:Cx K} {R:RR K} {ts ts':TS K} {χ χ':Nat->Nat->Bool} {ds:DS}
theorem yrU {b:Bool} {c:Prop} (h:AllP (ifL b c)):b=false→c:=by
 intro e;subst e;exact h.1
theorem yse (hC:CxOk P C) (hγ:GM P C R ts χ ds) {s c e:Nat} {l:List (K e)} (hl:trow C e (ts.tb s c)=some l) (h:tfew (ts.tb s c)=true):l.length≤1000:=by
 obtain ⟨g1,_⟩:=hγ.trow hC hl
 unfold tfew at h
 split at h
 ·rename_i e' n cs hb
  rw[hb] at g1
  cases g1
  exact Nat.le_of_ble_eq_true h
 ·cases h
theorem yw0 (hC:CxOk P C) (hγ:GM P C R ts χ ds) {e:Nat} {u:TV K} {v:AV} {l2:List (K e)} (hv:TR P C ts χ u v) (h:tsrc C e ts u=some l2):∃ys,srcA (toD ds) v=some (l2.length,ys)∧dwks ys=cl (C.E e) l2:=by
 unfold tsrc at h
 split at h
 ·obtain ⟨rfl,rfl⟩:=ye5 h
  obtain ⟨z,xs,hx,rfl⟩:=hv.sli
  exact ⟨xs,rfl,hx⟩
 ·rename_i s c
  obtain ⟨g1,g2,g3⟩:=hγ.trow hC h
  rcases hv.rwi g1 with ⟨hχ,rfl⟩|⟨hχ,h0,rfl⟩
  ·obtain ⟨kb,k1,k2,k3,k4⟩:=g3 hχ
   refine ⟨kb.cells,?_,k4⟩
   show (((ds.kb s c).map KB.blk).bind fun b=>if b.sz=0 then none else some (l2.length,b.cells))=_
   rw[k1]
   show (if kb.sz=0 then none else some (l2.length,kb.cells))=_
   rw[if_neg (by rw[k3];exact Nat.pos_iff_ne_zero.1 (C.E e).pos)]
  ·have:=g2 hχ;subst this
   exact ⟨[],rfl,rfl⟩
 ·cases h;cases hv;exact ⟨[],rfl,rfl⟩
 ·cases h;cases hv;exact ⟨[],rfl,rfl⟩
 ·cases h
theorem yqU (hC:CxOk P C) (hγ:GM P C R ts χ ds) {e:Nat} {u:TV K} {l2:List (K e)} (h:tsrc C e ts u=some l2) (hc:AllP (ifL (yqw ts u) (l2.length≤400000000))):l2.length≤400000000:=by
 cases hs:yqw ts u with
 |false=>exact yrU hc hs
 | true=>
   unfold yqw at hs
   split at hs
   ·have:=yse hC hγ (by simpa [tsrc] using h) hs;omega
   ·simp only[tsrc] at h;cases h;simp
   ·simp only[tsrc] at h;cases h;simp
   ·cases hs
theorem GM.kill {s c:Nat} (hγ:GM P C R ts χ ds) (hc:c=1∨c=2):GM P C R (ts.setb s c none) (updχ χ s c false) ds:=by
 have hm:Mono ts (ts.setb s c none) χ (updχ χ s c false):=Mono.setb hc (fun _=> .inl ⟨rfl,rfl⟩)
 refine ⟨fun t=> ?_,fun s' c' b' h1 h2=> ?_,fun s' c' h1=> ?_,fun s' h1=> ?_,by rw[ytK];exact hγ.hp,fun s' b9 q9 e9=> ?_⟩
 rotate_right
 ·rw[ycD ts s c _ hc] at e9
  unfold updχ
  by_cases e:s'=s/\1=c
  ·rw[if_pos e] at e9;cases e9
  ·rw[if_neg e] at e9⊢;exact hγ.lv s' b9 q9 e9
 ·rw[ypu];exact (hγ.fr t).mono hm
 ·rw[ycD ts s c none hc] at h1
  unfold updχ at h2
  by_cases e:s'=s/\c'=c
  ·rw[if_pos e] at h1;cases h1
  ·rw[if_neg e] at h1 h2
   obtain ⟨k',q1,q2⟩:=hγ.mb s' c' b' h1 h2
   exact ⟨k',q1,q2.mono hm⟩
 ·unfold updχ at h1
  rw[ycD ts s c none hc]
  by_cases e:s'=s/\c'=c
  ·rw[if_pos e] at h1;cases h1
  ·rw[if_neg e] at h1⊢;exact hγ.vi s' c' h1
 ·rcases hc with rfl|rfl
  ·exact hγ.nw s' h1
  ·have h1':(Nat.beq s s'||memB ts.nw s')=false:=h1
   simp only[Bool.or_eq_false_iff] at h1'
   exact hγ.nw s' h1'.2
structure AppC (u:AOp) (d:Option Nat) (ds:DS) (x:AOpd) (e sz m:Nat) (ys:List AV):Prop where
 eff:effA (fun _=>false) u d (toD ds)=ygj (fun _=>false) (site d) e sz m ys (toD ds) (ev (lkF ds.fr) x)
 pos:0<sz
theorem ysa {u:AOp} {d:Option Nat} {x:AOpd} {e sz m n:Nat} {ys xs:List AV} (hk:DOk ds) (hA:AppC u d ds x e sz m ys) (hx:ev (lkF ds.fr) x= .sl true n xs) (hm:0<m) (hnw:memO ds.nw (site d)=false):
  Eff u d ds ⟨.gs (.l (site d) 2) m,[((site d,2),some ⟨e,sz,ys⟩)],[site d],none⟩ ((ds.set (site d) 2 (some ⟨e,sz,ys,false⟩)).put d (.gs (.l (site d) 2) m)):=by
 refine ⟨?_,yl5 (b:=⟨e,sz,ys,false⟩) hnw,DOk.put (hk.set (.inr rfl) fun x hx=>by cases hx;exact ⟨Nat.pos_iff_ne_zero.1 hA.pos,fun q=>by cases q⟩)⟩
 rw[hA.eff,hx]
 simp only[ygj]
 rw[if_neg (by omega),yin hnw]
 rfl
theorem yuc {u:AOp} {d:Option Nat} {x:AOpd} {e sz m n:Nat} {ys xs:List AV} (hk:DOk ds) (hA:AppC u d ds x e sz m ys) (hx:ev (lkF ds.fr) x= .sl true n xs) (hm:m=0):
  Eff u d ds (eff1 (.sl true 0 [])) (ds.put d (.sl true 0 [])):=by
 refine ⟨?_,ygk _ d ds,hk.put⟩
 rw[hA.eff,hx]
 simp only[ygj]
 rw[if_pos hm]
theorem ysb {u:AOp} {d:Option Nat} {x:AOpd} {e sz m n s c:Nat} {ys:List AV} {kb:KB} (hk:DOk ds) (hA:AppC u d ds x e sz m ys) (hx:ev (lkF ds.fr) x= .gs (.l s c) n) (hm:ds.kb s c=some kb) (he:kb.e=e) (hz:kb.sz=sz) (hl:kb.cells.length=n*sz) (hn:n≤1000000000) (hnw:memO ds.nw (site d)=false):
  Eff u d ds ⟨.gs (.l (site d) 2) (n+m),[((s,c),none),((site d,2),some ⟨e,sz,kb.cells++ys⟩)],[site d],none⟩ (((ds.set s c none).set (site d) 2 (some ⟨e,sz,kb.cells++ys,false⟩)).put d (.gs (.l (site d) 2) (n+m))):=by
 have hcc:=kb_c hm
 refine ⟨?_,yxH (b:=⟨e,sz,kb.cells++ys,false⟩) hnw hcc,DOk.put ((hk.set (hcc.imp id (·.1)) fun x hx=>by cases hx).set (.inr rfl) fun x hx=>by cases hx;exact ⟨Nat.pos_iff_ne_zero.1 hA.pos,fun q=>by cases q⟩)⟩
 rw[hA.eff,hx]
 simp only[ygj]
 show (((ds.kb s c).map KB.blk).bind _)=_
 rw[hm]
 simp only[Option.map_some,Option.bind_some,KB.blk]
 rw[if_pos ⟨he,hz,hl,hn⟩,yin hnw]
 rfl
theorem ywi (hC:CxOk P C) (hγ:GM P C R ts χ ds) (hk:DOk ds) {o:AO} {x:AOpd} {e:Nat} {l2:List (K e)} {c2:List Prop} {ys:List AV} {X:TS K→Prop} (h:tapp C e o.dst ts l2 c2 X (tev ts.fr x)) (hA:AllP c2→AppC o.op o.dst ds x e (C.E e).sz l2.length ys) (hys:dwks ys=cl (C.E e) l2)
  (hw:twk' ts o=(site o.dst,2)::trf (tev ts.fr x)):SR P C R o ts ds X:=by
 have hx:=hγ.tev x
 have hyl:ys.length=l2.length*(C.E e).sz:=by rw[<-ybI ys,hys,yhp]
 have nilC:∀ {ts0:TS K} {χ0:Nat→Nat→Bool},GM P C R ts0 χ0 ds→memB ts0.nw (site o.dst)=false→ts0.rg=ts.rg→AllP c2→ev (lkF ds.fr) x= .sl true 0 []→X (tnew ts0 o.dst (.row e l2) trw)→SR P C R o ts ds X:=by
  intro ts0 χ0 hγ0 hn hrg hc hev hX
  have hnw:=hγ0.nw _ hn
  by_cases h0:l2= []
  ·subst h0
   have hE:=yuc hk (hA hc) hev rfl
   refine ⟨_,_,_,_,hE,fun p hp=>(by cases hp),rfl,GM.put (hγ0.setv hn) ?_,hX,by rw[yb2,ycv,hrg]⟩
   exact .rwn _ _ (ypC _ _ _) (by rw[ynL];rfl) (yh0 _ _ _ _)
  ·have hm:0<l2.length:=List.length_pos_iff.2 h0
   have hE:=ysa hk (hA hc) hev hm hnw
   have hg:=hγ0.setb (s:=site o.dst) (c:=2) (b:=some (.row e l2)) (kb:=some ⟨e,(C.E e).sz,ys,false⟩) (.inr rfl) (Mono.new hn) (fun b' hb'=>⟨_,rfl,by cases hb';exact ⟨rfl,rfl,hys⟩⟩) (fun _ _ e9 _=>by cases e9)
   refine ⟨_,_,_,_,hE,fun p hp=> ?_,rfl,hg.put (.rw _ _ _ (ypC _ _ _) (by rw[ynL];rfl) (yh0 _ _ _ _)),hX,by rw[yb2,ycv,hrg]⟩
   simp only[List.mem_singleton] at hp;subst hp;rw[hw];simp
 unfold tapp at h
 split at h
 ·rename_i ex
  obtain ⟨hn,h⟩:=ydc h
  obtain ⟨hc,hX⟩:=yfl h
  rw[ex] at hx
  have hev:ev (lkF ds.fr) x= .sl true 0 []:=by
   revert hx;generalize ev (lkF ds.fr) x=w;intro hx;cases hx;rfl
  exact nilC hγ hn rfl hc hev hX
 ·rename_i s c ex
  obtain ⟨hn,h⟩:=ydc h
  obtain ⟨l,hl,h⟩:=ycP h
  obtain ⟨hc1,h⟩:=yfl h
  obtain ⟨hc,hX⟩:=yfl h
  rw[ex] at hx
  obtain ⟨g1,g2,g3⟩:=hγ.trow hC hl
  have hok:=yp1 g1
  have hcc:c=1∨c=2:=hok.imp id (·.1)
  have hne:¬(s=site o.dst∧c=2):=by
   rintro ⟨rfl,rfl⟩;exact yoP hn hok
  have hn':memB (ts.setb s c none).nw (site o.dst)=false:=by
   rcases hcc with rfl|rfl
   ·exact hn
   ·show (Nat.beq s (site o.dst)||memB ts.nw (site o.dst))=false
    rw[hn,Bool.or_false]
    cases hq:Nat.beq s (site o.dst) with
    |false=>rfl
    |true=>exact (hne ⟨nbeq.1 hq,rfl⟩).elim
  rcases hx.rwi g1 with ⟨hχ,hv⟩|⟨hχ,hz,hv⟩
  ·obtain ⟨kb,k1,k2,k3,k4⟩:=g3 hχ
   have hlen:l.length≤1000000000:=by
    cases hf:tfew (ts.tb s c) with
    |false=>exact yrU hc1 hf
    |true=>have:=yse hC hγ hl hf;omega
   have hkl:kb.cells.length=l.length*(C.E e).sz:=by rw[<-ybI kb.cells,k4,yhp]
   have hE:=ysb hk (hA hc) hv k1 k2 k3 hkl hlen (hγ.nw _ hn)
   have hg1:=hγ.setb (s:=s) (c:=c) (b:=none) (kb:=none) hcc (Mono.setb hcc (fun _=> .inl ⟨rfl,rfl⟩)) (fun b' hb'=>by cases hb') (fun _ h9=>by cases h9)
   have hg2:=hg1.setb (s:=site o.dst) (c:=2) (b:=some (.row e (l++l2))) (kb:=some ⟨e,(C.E e).sz,kb.cells++ys,false⟩) (.inr rfl) (Mono.new hn') (fun b' hb'=>⟨_,rfl,by cases hb';exact ⟨rfl,rfl,by show dwks (kb.cells++ys)=_;rw[yc5,k4,hys,yyD]⟩⟩) (fun _ _ e9 _=>by cases e9)
   refine ⟨_,_,_,_,hE,fun p hp=> ?_,rfl,hg2.put (.rw _ _ _ (ypC _ _ _) (by rw[ynL];simp[tln]) (yh0 _ _ _ _)),hX,by rw[yb2,ycv,ycv]⟩
   simp only[List.mem_cons,List.not_mem_nil,or_false] at hp
   rw[hw,ex]
   rcases hp with rfl|rfl<;>simp[trf]
  ·have:=g2 hχ;subst this
   exact nilC (hγ.kill (s:=s) (c:=c) hcc) hn' (ycv _ _ _ _) hc hv (by simpa using hX)
 ·exact h.elim
structure ApfC (u:AOp) (d:Option Nat) (ds:DS) (x:AOpd) (e sz m:Nat) (ys:List AV):Prop where
 eff:effA (fun _=>false) u d (toD ds)=yfe (fun _=>false) (site d) e sz m ys (toD ds) (ev (lkF ds.fr) x)
 pos:0<sz
theorem yzF (hC:CxOk P C) (hγ:GM P C R ts χ ds) (hk:DOk ds) {o:AO} {x:AOpd} {e:Nat} {l2:List (K e)} {c2:List Prop} {ys:List AV} {X:TS K→Prop} (h:tapf C e o.dst ts l2 c2 X (tev ts.fr x)) (hA:AllP c2→ApfC o.op o.dst ds x e (C.E e).sz l2.length ys) (hys:dwks ys=cl (C.E e) l2)
  (hw:twk' ts o=(site o.dst,2)::trf (tev ts.fr x)):SR P C R o ts ds X:=by
 have hx:=hγ.tev x
 have hyl:ys.length=l2.length*(C.E e).sz:=by rw[<-ybI ys,hys,yhp]
 have hsz:(C.E e).sz≠0:=Nat.ne_of_gt (C.E e).pos
 have nilC:∀ {ts0:TS K} {χ0:Nat→Nat→Bool},GM P C R ts0 χ0 ds→memB ts0.nw (site o.dst)=false→ts0.rg=ts.rg→AllP c2→ev (lkF ds.fr) x= .sl true 0 []→X (tnwf ts0 o.dst (.sl e l2))→SR P C R o ts ds X:=by
  intro ts0 χ0 hγ0 hn hrg hc hev hX
  have hnw:=hγ0.nw _ hn
  by_cases h0:l2= []
  ·subst h0
   have hE:Eff o.op o.dst ds (eff1 (.sl true 0 [])) (ds.put o.dst (.sl true 0 [])):=by
    refine ⟨?_,ygk _ _ ds,hk.put⟩
    rw[(hA hc).eff,hev]
    simp only[yfe]
    rfl
   refine ⟨_,_,_,_,hE,fun p hp=>(by cases hp),rfl,GM.put (hγ0.kill (s:=site o.dst) (c:=2) (.inr rfl)) ?_,hX,by rw[yb2,ycv,hrg]⟩
   exact .sl e _ true _ _ rfl rfl
  ·have hm:0<l2.length:=List.length_pos_iff.2 h0
   have hE:Eff o.op o.dst ds ⟨.sl false l2.length ys,[((site o.dst,2),none)],[site o.dst],none⟩ ((ds.set (site o.dst) 2 none).put o.dst (.sl false l2.length ys)):=by
    refine ⟨?_,yo4 none hnw,DOk.put (hk.set (.inr rfl) fun x hx=>by cases hx)⟩
    rw[(hA hc).eff,hev]
    simp only[yfe]
    rw[if_neg (by omega),ymK hnw hyl hsz (ycg hys)]
    rfl
   have hg:=hγ0.setb (s:=site o.dst) (c:=2) (b:=none) (kb:=none) (.inr rfl) (Mono.setb (.inr rfl) (fun q=>by
    rcases q with q|⟨_,q⟩
    ·cases q
    ·rw[hn] at q;cases q)) (fun b' hb'=>by cases hb') (fun _ h9=>by cases h9)
   refine ⟨_,_,_,_,hE,fun p hp=> ?_,rfl,hg.put (.sl e _ false _ _ rfl hys),hX,by rw[yb2,ycv,hrg]⟩
   simp only[List.mem_singleton] at hp;subst hp;rw[hw];simp
 unfold tapf at h
 split at h
 ·rename_i ex
  obtain ⟨hn,h⟩:=ydc h
  obtain ⟨hc,hX⟩:=yfl h
  rw[ex] at hx
  have hev:ev (lkF ds.fr) x= .sl true 0 []:=by
   revert hx;generalize ev (lkF ds.fr) x=w;intro hx;cases hx;rfl
  exact nilC hγ hn rfl hc hev hX
 ·rename_i s c ex
  obtain ⟨hn,h⟩:=ydc h
  obtain ⟨l,hl,h⟩:=ycP h
  obtain ⟨hc1,h⟩:=yfl h
  obtain ⟨hc,hX⟩:=yfl h
  rw[ex] at hx
  obtain ⟨g1,g2,g3⟩:=hγ.trow hC hl
  have hok:=yp1 g1
  have hcc:c=1∨c=2:=hok.imp id (·.1)
  have hne:¬(s=site o.dst∧c=2):=by
   rintro ⟨rfl,rfl⟩;exact yoP hn hok
  have hn':memB (ts.setb s c none).nw (site o.dst)=false:=by
   rcases hcc with rfl|rfl
   ·exact hn
   ·show (Nat.beq s (site o.dst)||memB ts.nw (site o.dst))=false
    rw[hn,Bool.or_false]
    cases hq:Nat.beq s (site o.dst) with
    |false=>rfl
    |true=>exact (hne ⟨nbeq.1 hq,rfl⟩).elim
  rcases hx.rwi g1 with ⟨hχ,hv⟩|⟨hχ,hz,hv⟩
  ·obtain ⟨kb,k1,k2,k3,k4⟩:=g3 hχ
   have hlen:l.length≤1000000000:=by
    cases hf:tfew (ts.tb s c) with
    |false=>exact yrU hc1 hf
    |true=>have:=yse hC hγ hl hf;omega
   have hkl:kb.cells.length=l.length*(C.E e).sz:=by rw[<-ybI kb.cells,k4,yhp]
   have hcat:dwks (kb.cells++ys)=cl (C.E e) (l++l2):=by rw[yc5,k4,hys,yyD]
   have hcc2:=kb_c k1
   have hnw:=hγ.nw _ hn
   have hE:Eff o.op o.dst ds ⟨.sl false (l.length+l2.length) (kb.cells++ys),[((s,c),none),((site o.dst,2),none)],[site o.dst],none⟩ (((ds.set s c none).set (site o.dst) 2 none).put o.dst (.sl false (l.length+l2.length) (kb.cells++ys))):=by
    refine ⟨?_,yqE none hnw hcc2,DOk.put ((hk.set hcc fun x hx=>by cases hx).set (.inr rfl) fun x hx=>by cases hx)⟩
    rw[(hA hc).eff,hv]
    simp only[yfe]
    show (((ds.kb s c).map KB.blk).bind _)=_
    rw[k1]
    simp only[Option.map_some,Option.bind_some,KB.blk]
    rw[if_pos ⟨k2,k3,hkl,hlen⟩,ymK hnw (by show (kb.cells++ys).length=_*_;rw[List.length_append,hkl,hyl,Nat.add_mul]) hsz (ycg hcat)]
    rfl
   have hg1:=hγ.setb (s:=s) (c:=c) (b:=none) (kb:=none) hcc (Mono.setb hcc (fun _=> .inl ⟨rfl,rfl⟩)) (fun b' hb'=>by cases hb') (fun _ h9=>by cases h9)
   have hg2:=hg1.setb (s:=site o.dst) (c:=2) (b:=none) (kb:=none) (.inr rfl) (Mono.setb (.inr rfl) (fun q=>by
    rcases q with q|⟨_,q⟩
    ·cases q
    ·rw[hn'] at q;cases q)) (fun b' hb'=>by cases hb') (fun _ h9=>by cases h9)
   refine ⟨_,_,_,_,hE,fun p hp=> ?_,rfl,hg2.put (.sl e _ false _ _ (by rw[List.length_append]) hcat),hX,by rw[yb2,ycv,ycv]⟩
   simp only[List.mem_cons,List.not_mem_nil,or_false] at hp
   rw[hw,ex]
   rcases hp with rfl|rfl<;>simp[trf]
  ·have:=g2 hχ;subst this
   exact nilC (hγ.kill (s:=s) (c:=c) hcc) hn' (ycv _ _ _ _) hc hv (by simpa using hX)
 ·exact h.elim
theorem yAs (hC:CxOk P C) (hγ:GM P C R ts χ ds) (hk:DOk ds) {F:Cf K} (hF:F.C=C) {o:AO} {e sz n:Nat} {z:List AV} {parts:List (Nat×Nat×AOpd)} {X:TS K→Prop} {dr:Bool} (ho:o.op= .bsf e sz n z parts) (h:step F dr o ts X):SR P C R o ts ds X:=by
 unfold step at h
 rw[ho,hF] at h
 simp only at h
 split at h
 ·rename_i hc
  simp only[Bool.and_eq_true] at hc
  obtain ⟨⟨c1,c2⟩,c3⟩:=hc
  have c1:=nbeq.1 c1
  have c2:=nbeq.1 c2
  have c3:=Nat.le_of_ble_eq_true c3
  obtain ⟨hn,h⟩:=ydc h
  obtain ⟨cs,hcs,h⟩:=ycP h
  obtain ⟨l,hl,hX⟩:=ycP h
  obtain ⟨cs',e2,t⟩:=ylQ (P:=P) (C:=C) (ts:=ts) (χ:=χ) _ (parts.map fun p=>(p.1,p.2.1,ev (lkF ds.fr) p.2.2)) _ (ybm z n) _ (TL.rep (TL.cvAs z) n) (by simp) (fun j p q a b=>by
   rw[List.getElem?_map] at a b
   cases hp:parts[j]? with
   |none=>rw[hp] at a;cases a
   |some r=>rw[hp] at a b;cases a;cases b;exact ⟨rfl,rfl,hγ.tea _⟩) hcs
  have hz:0<sz:=by rw[<-c2];exact (C.E e).pos
  have hcl:cs.length=n*sz:=by rw[ylV _ _ _ hcs,ysw];rw[<-(TL.cvAs (P:=P) (C:=C) (ts:=ts) (χ:=χ) z).1,c1]
  obtain ⟨a1,a2⟩:=ylF hC n _ (cs'.map weak) l hl (TL.twk t) (by simp[hcl,c2])
  have hnw:=hγ.nw _ hn
  have hlw:(cs'.map weak).length=n*sz:=by rw[(TL.twk t).1,List.length_map,hcl]
  have hE:Eff o.op o.dst ds ⟨.sl false n (cs'.map weak),[((site o.dst,2),none)],[site o.dst],none⟩ ((ds.set (site o.dst) 2 none).put o.dst (.sl false n (cs'.map weak))):=by
   refine ⟨?_,yo4 none hnw,DOk.put (hk.set (.inr rfl) fun x hx=>by cases hx)⟩
   rw[ho]
   simp only[effA]
   rw[if_pos ⟨c1,hz,c3⟩]
   show ((yhr (ybm z n) (parts.map fun p=>(p.1,p.2.1,ev (lkF ds.fr) p.2.2))).bind _)=_
   rw[e2]
   simp only[Option.bind_some]
   rw[ymK hnw hlw (Nat.ne_of_gt hz) (ycg a1)]
   rfl
  have hg:=hγ.setb (s:=site o.dst) (c:=2) (b:=none) (kb:=none) (.inr rfl) (Mono.setb (.inr rfl) (fun q=>by
   rcases q with q|⟨_,q⟩
   ·cases q
   ·rw[hn] at q;cases q)) (fun b' hb'=>by cases hb') (fun _ h9=>by cases h9)
  refine ⟨_,_,_,_,hE,fun p hp=> ?_,rfl,hg.put (.sl e _ false _ _ a2.symm a1),hX,by rw[yb2,ycv]⟩
  simp only[List.mem_singleton] at hp;subst hp;simp[twk',ho]
 ·exact h.elim
theorem yoU {e:Nat} {f:K e→UInt8} (hC:CxOk P C) (hf:(C.T e).tb=some f):∀(l:List (K e)) (ys:List AV),dwks ys=cl (C.E e) l→ygQ ys=some (l.map f)∧ys.length=l.length
 | [],ys,h=>by
   have:ys= []:=by cases ys with|nil=>rfl|cons=>simp[dwks,cl] at h
   subst this;exact ⟨rfl,rfl⟩
 | x ::l,ys,h=>by
   obtain ⟨n,h1,h2⟩:=hC.tb e f hf x
   rw[show cl (C.E e) (x::l)=(C.E e).c x++cl (C.E e) l by simp[cl],h1] at h
   cases ys with
   |nil=>simp[dwks] at h
   | cons y ys=>
     simp only[dwks,List.cons_append,List.nil_append,List.cons.injEq] at h
     obtain ⟨a1,a2⟩:=yoU hC hf l ys h.2
     have:y= .it .u8 n:=by
      have h1:=h.1
      cases y<;>simp[dwk] at h1
      obtain ⟨rfl,rfl⟩:=h1;rfl
     subst this
     exact ⟨by simp only[ygQ,yAw,a1,List.map_cons,h2],by simp[a2]⟩
theorem yzE (hC:CxOk P C) (hγ:GM P C R ts χ ds) (hk:DOk ds) {F:Cf K} (hF:F.C=C) {o:AO} {x:AOpd} {X:TS K→Prop} {dr:Bool} (ho:o.op= .b2s x) (h:step F dr o ts X):SR P C R o ts ds X:=by
 unfold step at h
 rw[ho,hF] at h
 simp only at h
 have hx:=hγ.tev x
 have fin:∀ {s:Str},effA (fun _=>false) (.b2s x) o.dst (toD ds)=some (eff1 (.st s))→X (ts.put o.dst (.st s))→SR P C R o ts ds X:=by
  intro s he hX
  exact yhl hγ (.st s) (by rw[ho];exact ⟨he,ygk _ _ _,hk.put⟩) hX
 split at h
 ·rename_i e l ex
  rw[ex] at hx
  obtain ⟨z,xs,hxs,hv⟩:=hx.sli
  split at h
  ·rename_i f hf
   obtain ⟨b1,b2⟩:=yoU hC hf l xs hxs
   refine fin ?_ h
   simp only[effA]
   rw[ycE,hv]
   simp only
   rw[if_pos b2,b1];rfl
  ·exact h.elim
 ·rename_i s c ex
  rw[ex] at hx
  split at h
  ·rename_i f l hf hl
   obtain ⟨g1,g2,g3⟩:=hγ.trow hC hl
   rcases hx.rwi g1 with ⟨hχ,hv⟩|⟨hχ,h0,hv⟩
   ·obtain ⟨kb,k1,k2,k3,k4⟩:=g3 hχ
    obtain ⟨b1,b2⟩:=yoU hC hf l kb.cells k4
    refine fin ?_ h
    simp only[effA]
    rw[ycE,hv]
    simp only
    show (((ds.kb s c).map KB.blk).bind _)=_
    rw[k1]
    simp only[Option.map_some,Option.bind_some,KB.blk]
    rw[if_pos ⟨by rw[k3];exact Nat.pos_iff_ne_zero.1 (C.E _).pos,b2⟩,b1];rfl
   ·have:=g2 hχ;subst this
    refine fin ?_ h
    simp only[effA]
    rw[ycE,hv]
    rfl
  ·exact h.elim
 ·rename_i ex
  rw[ex] at hx
  have hev:ev (lkF ds.fr) x= .sl true 0 []:=by
   revert hx;generalize ev (lkF ds.fr) x=w;intro hx;cases hx;rfl
  refine fin ?_ h
  simp only[effA]
  rw[ycE,hev]
  rfl
 ·exact h.elim
structure yC6 (s c:Nat) (ts ts':TS K) (χ χ':Nat→Nat→Bool):Prop where
 rg:∀id u,lkR ts.rg id=some u->lkR ts'.rg id=some u
 ok:∀s c,okr ts s c->okr ts' s c
 pl:∀s' c',¬(s'=s/\c'=c)->okr ts s' c'->(tln (ts'.tb s' c')=none/\χ' s' c'=false)∨(tln (ts'.tb s' c')=tln (ts.tb s' c')/\χ' s' c'=χ s' c')
theorem ypJ (s c:Nat) (l:List (TV K)) (j:Nat):(yj7 s c l)[j]? =(l[j]?).map (yiw s c):=by
 induction l generalizing j with
 |nil=>simp[yj7]
 | cons x l ih=>cases j with
   |zero=>simp[yj7]
   |succ j=>simp[yj7,ih]
theorem yn2 (s c:Nat) (l:List (TV K)):(yj7 s c l).length=l.length:=by
 induction l with
 |nil=>rfl
 |cons x l ih=>simp[yj7,ih]
theorem beq2 {a b c d:Nat} (h:(Nat.beq a b&&Nat.beq c d)=false):¬(b=a∧d=c):=by
 rintro ⟨rfl,rfl⟩;rw[nbeq.2 rfl,nbeq.2 rfl] at h;cases h
theorem TR.drop {s c:Nat} (hm:yC6 s c ts ts' χ χ') {u:TV K} {v:AV} (h:TR P C ts χ u v):TR P C ts' χ' (yiw s c u) v:=by
 induction h with
 |cn id u v h hn hv _=>exact .cn id u v (hm.rg id u h) hn (hv.noref hn).1
 |un v=>exact .un v
 |lb b=>exact .lb b
 |bl b=>exact .bl b
 |li k n=>exact .li k n
 |it k n=>exact .it k n
 |st s=>exact .st s
 | agg us vs hl _ ih=>
   refine .agg _ vs (by rw[yn2];exact hl) (fun j u v h1 h2=> ?_)
   rw[ypJ] at h1
   obtain ⟨u',e1,rfl⟩:=Option.map_eq_some_iff.1 h1
   exact ih j u' v e1 h2
 | tup us vs hl _ ih=>
   refine .tup _ vs (by rw[yn2];exact hl) (fun j u v h1 h2=> ?_)
   rw[ypJ] at h1
   obtain ⟨u',e1,rfl⟩:=Option.map_eq_some_iff.1 h1
   exact ih j u' v e1 h2
 |nil=>exact .nil
 |em z=>exact .em z
 |sl e l z n xs hn hx=>exact .sl e l z n xs hn hx
 | rwd s' c' v hr h ho=>
   simp only[yiw]
   split
   ·exact .un _
   ·rename_i e
    refine .rwd s' c' v (hm.ok s' c' hr) ?_ ho
    rcases hm.pl s' c' (beq2 e) hr with h1|h1
    ·exact h1.1
    ·rw[h1.1];exact h
 | rw s' c' n hr h hx=>
   simp only[yiw]
   split
   ·exact .un _
   ·rename_i e
    rcases hm.pl s' c' (beq2 e) hr with h1|h1
    ·exact .rwd s' c' _ (hm.ok s' c' hr) h1.1 rfl
    ·exact .rw s' c' n (hm.ok s' c' hr) (by rw[h1.1];exact h) (by rw[h1.2];exact hx)
 | rwn s' c' hr h hx=>
   simp only[yiw]
   split
   ·exact .un _
   ·rename_i e
    rcases hm.pl s' c' (beq2 e) hr with h1|h1
    ·exact .rwd s' c' _ (hm.ok s' c' hr) h1.1 rfl
    ·exact .rwn s' c' (hm.ok s' c' hr) (by rw[h1.1];exact h) (by rw[h1.2];exact hx)
 |px s' c' off hr=>exact .px s' c' off (hm.ok s' c' hr)
 | pr e0 s' c' i of hr hx=>
   simp only[yiw]
   split
   ·exact .un _
   ·rename_i e
    refine .pr e0 s' c' i of (hm.ok s' c' hr) ?_
    rcases hm.pl s' c' (beq2 e) hr with h1|h1
    ·exact h1.2
    ·rw[h1.2];exact hx
 |ep e l i of xs hx=>exact .ep e l i of xs hx
 |gs l i xs hx=>exact .gs l i xs hx
 |nptr=>exact .nptr
 |fn f a c a' c' ha hc _ _ ih ih'=>exact .un _
 |fv ps rs F v h hv=>exact .fv ps rs F v h hv
 |yl r=>exact .yl r
theorem yoY (f:TV K→TV K) (hf:f .un= .un):∀(l:List (Nat×TV K)) (t:Nat),lkT (mapF f l) t=f (lkT l t)
 | [],t=>hf.symm
 | p::r,t=>by
   rw[show mapF f (p::r)=(p.1,f p.2)::mapF f r from rfl,ycn,yoY f hf r t]
   rw[show p::r=(p.1,p.2)::r from rfl,ycn]
   split<;>rfl
theorem ymp (f:TV K→TV K):∀(l:List (Nat×Option (TB K))) (t:Nat),lkB (mapM f l) t=mapB f (lkB l t)
 | [],t=>rfl
 | p::r,t=>by
   rw[show mapM f (p::r)=(p.1,mapB f p.2)::mapM f r from rfl,ycf,ycf,ymp f r t]
   split<;>rfl
theorem yip (f:TV K→TV K):∀(l:List (Nat×Option (TB K))) (t:Nat),memB (mapM f l) t=memB l t
 | [],t=>rfl
 |p::r,t=>by show (Nat.beq p.1 t||memB (mapM f r) t)=(Nat.beq p.1 t||memB r t);rw[yip f r t]
theorem ypy (ts:TS K) (f:TV K→TV K) (s c:Nat):(ts.mapv f).tb s c=mapB f (ts.tb s c):=by
 unfold TS.tb TS.mapv
 cases Nat.beq c 1 with
 |true=>exact ymp f _ _
 | false=>cases Nat.beq c 2 with
   |true=>exact ymp f _ _
   |false=>rfl
theorem yrR (f:TV K→TV K) (b:Option (TB K)):tln (mapB f b)=tln b:=by
 cases b with
 |none=>rfl
 |some b=>cases b<;>rfl
theorem GM.lvt (hγ:GM P C R ts χ ds) {s n:Nat} (h:2000000≤s) (hn:tln (ts.tb s 1)=some n):R.L s=χ s 1:=by
 cases hq:ts.tb s 1 with
 |none=>rw[hq] at hn;cases hn
 |some b=>exact hγ.lv s b h hq
theorem GM.cut {s c e:Nat} {l:List (K e)} {kb:Option KB} {v:Bool} {ds':DS} (hγ:GM P C R ts χ ds) (hc:c=1∨c=2) (hok:okr ts s c) (hds:ds'=match v with|true=>ds|false=>ds.set s c kb)
  (hb:v=false->∃k',kb=some k'/\k'.e=e/\k'.sz=(C.E e).sz/\dwks k'.cells=cl (C.E e) l) (hv:v=true->l= []) (hl:c=1->2000000<=s->R.L s=v):GM P C R ((ts.mapv (yiw s c)).setb s c (some (.row e l))) (updχ χ s c v) ds':=by
 have hokm:∀s' c',okr ts s' c'→okr (ts.mapv (yiw s c)) s' c':=by
  intro s' c' q
  rcases q with q|⟨q1,q2⟩
  ·exact .inl q
  ·exact .inr ⟨q1,by show memB (mapM _ ts.nw) s'=true;rw[yip];exact q2⟩
 have hm:yC6 s c ts ((ts.mapv (yiw s c)).setb s c (some (.row e l))) χ (updχ χ s c v):=by
  refine ⟨fun id u q=>by rw[ycv];exact q,fun s' c' q=>ylI _ _ _ _ hc (hokm s' c' q),fun s' c' hne q=> .inr ⟨?_,?_⟩⟩
  ·rw[ycD _ s c _ hc,if_neg hne,ypy,yrR]
  ·unfold updχ;rw[if_neg hne]
 have hkb:∀s' c',¬(s'=s∧c'=c)→ds'.kb s' c'=ds.kb s' c':=by
  intro s' c' hne
  subst hds
  cases v with
  |true=>rfl
  |false=>show (ds.set s c kb).kb s' c'=_;rw[yp5 ds s c kb hc,if_neg hne]
 refine ⟨fun t=> ?_,fun s' c' b' h1 h2=> ?_,fun s' c' h1=> ?_,fun s' h1=> ?_,?_,fun s' b9 q9 e9=> ?_⟩
 rotate_right
 ·rw[ycD _ s c _ hc] at e9
  unfold updχ
  by_cases e:s'=s/\1=c
  ·rw[if_pos e];obtain ⟨rfl,e2⟩:=e;exact hl e2.symm q9
  ·rw[if_neg e] at e9⊢
   rw[ypy] at e9
   cases hq:ts.tb s' 1 with
   |none=>rw[hq] at e9;cases e9
   |some b0=>exact hγ.lv s' b0 q9 hq
 rotate_right
 ·rw[ytK]
  show R ts.h ds'.H ds'.nx
  subst hds
  cases v with
  |true=>exact hγ.hp
  |false=>show R ts.h (ds.set s c kb).H (ds.set s c kb).nx;rw[yAc,ynU];exact hγ.hp
 ·rw[ypu]
  show TR P C _ _ (lkT (mapF (yiw s c) ts.fr) t) _
  rw[yoY _ rfl]
  have:lkF ds'.fr t=lkF ds.fr t:=by
   subst hds
   cases v with
   |true=>rfl
   |false=>show lkF (ds.set s c kb).fr t=_;rw[yp2]
  rw[this]
  exact (hγ.fr t).drop hm
 ·rw [ycD _ s c _ hc] at h1
  unfold updχ at h2
  by_cases e':s'=s/\c'=c
  ·rw[if_pos e'] at h1 h2
   obtain ⟨rfl,rfl⟩:=e'
   subst h2
   obtain ⟨k',q1,q2,q3,q4⟩:=hb rfl
   cases h1
   refine ⟨k',?_,q2,q3,q4⟩
   subst hds
   show (ds.set s' c' kb).kb s' c'=_
   rw[yp5 ds s' c' kb hc];simpa using q1
  ·rw [if_neg e'] at h1 h2
   rw[ypy] at h1
   rw[hkb s' c' e']
   cases hq:ts.tb s' c' with
   |none=>rw[hq] at h1;cases h1
   | some b0=>
     rw[hq] at h1
     obtain ⟨k',q1,q2⟩:=hγ.mb s' c' b0 hq h2
     refine ⟨k',q1,?_⟩
     cases b0 with
     |row e0 l0=>cases h1;exact q2
     | box e0 cs=>
       cases h1
       refine ⟨q2.1,by simpa using q2.2.1,by simpa using q2.2.2.1,fun j u v a b=> ?_⟩
       rw[List.getElem?_map] at a
       obtain ⟨u',e1,rfl⟩:=Option.map_eq_some_iff.1 a
       exact (q2.2.2.2 j u' v e1 b).drop hm
     | lrow e0 n cs=>
       cases h1
       refine ⟨q2.1,q2.2.1,by simpa using q2.2.2.1,by simpa using q2.2.2.2.1,fun j u v a b=> ?_⟩
       rw[List.getElem?_map] at a
       obtain ⟨u',e1,rfl⟩:=Option.map_eq_some_iff.1 a
       exact (q2.2.2.2.2 j u' v e1 b).drop hm
 ·unfold updχ at h1
  rw[ycD _ s c _ hc]
  by_cases e':s'=s/\c'=c
  ·rw[if_pos e'] at h1⊢
   have:=hv h1;subst this
   exact ⟨_,rfl⟩
  ·rw[if_neg e'] at h1⊢
   obtain ⟨e0,h3⟩:=hγ.vi s' c' h1
   exact ⟨e0,by rw[ypy,h3];rfl⟩
 ·have hmem:memB ts.nw s'=false:=by
   rcases hc with rfl|rfl
   ·rw[<-yip (yiw s 1)];exact h1
   ·have h1':(Nat.beq s s'||memB (mapM (yiw s 2) ts.nw) s')=false:=h1
    simp only[Bool.or_eq_false_iff] at h1'
    rw[<-yip (yiw s 2)];exact h1'.2
  have:=hγ.nw s' hmem
  subst hds
  cases v with
  |true=>exact this
  | false=>
    show memO (ds.set s c kb).nw s'=false
    rcases hc with rfl|rfl
    ·exact this
    ·have h1':(Nat.beq s s'||memB (mapM (yiw s 2) ts.nw) s')=false:=h1
     simp only[Bool.or_eq_false_iff] at h1'
     show (Nat.beq s s'||memO ds.nw s')=false
     rw[h1'.1,this];rfl
theorem yuy {T:Type} {l:List T} {a b:Int} (h:0≤a∧a≤b∧b≤l.length):(yd7 l a b).length=b.toNat-a.toNat:=by
 unfold yd7;simp;omega
theorem yAS (hC:CxOk P C) (hγ:GM P C R ts χ ds) (hk:DOk ds) {F:Cf K} (hF:F.C=C) {o:AO} {sz:Nat} {x:AOpd} {lo hi:Option AOpd} {X:TS K→Prop} {dr:Bool} (ho:o.op= .sll sz x lo hi) (h:step F dr o ts X):SR P C R o ts ds X:=by
 unfold step at h
 rw[ho,hF] at h
 simp only at h
 have hx:=hγ.tev x
 have slc:∀ {z:Bool} {n:Nat} {xs:List AV} {a b:Int} {u:TV K},ev (lkF ds.fr) x= .sl z n xs→bnd (ev (lkF ds.fr)) 0 lo=some a→bnd (ev (lkF ds.fr)) n hi=some b→(0≤a∧a≤b∧b≤n)→TR P C ts χ u (.sl z (b.toNat-a.toNat) ((xs.drop (a.toNat*sz)).take ((b.toNat-a.toNat)*sz)))→X (ts.put o.dst u)→SR P C R o ts ds X:=by
  intro z n xs a b u hev h1 h2 hc hu hX
  refine yhl hγ hu ?_ hX
  rw[ho]
  refine ⟨?_,ygk _ _ _,hk.put⟩
  simp only[effA]
  rw[ycE,hev]
  simp only[ymn,pval]
  rw[hev]
  simp only
  rw[h1,h2]
  simp only
  rw[if_pos hc];rfl
 split at h
 ·rename_i e l ex
  rw[ex] at hx
  obtain ⟨z,xs,hxs,hv⟩:=hx.sli
  split at h
  ·rename_i a b hz e1 e2
   have hz:=nbeq.1 hz
   obtain ⟨hc,hX⟩:=h
   refine slc hv (yib hγ e1) (yib hγ e2) hc (.sl e _ z _ _ (yuy hc).symm ?_) hX
   rw[ygL,yhH,hxs,hz]
   exact yzm (C.E e) l a.toNat (b.toNat-a.toNat)
  ·exact h.elim
 ·rename_i s c ex
  rw[ex] at hx
  split at h
  ·rename_i l hz hl
   have hz:=nbeq.1 hz
   split at h
   ·rename_i b e2
    obtain ⟨hc,hX⟩:=h
    obtain ⟨g1,g2,g3⟩:=hγ.trow hC hl
    have hok:=yp1 g1
    have hcc:c=1∨c=2:=hok.imp id (·.1)
    rcases hx.rwi g1 with ⟨hχ,hv⟩|⟨hχ,h0,hv⟩
    ·obtain ⟨kb,k1,k2,k3,k4⟩:=g3 hχ
     have hcc2:=kb_c k1
     have hlt:(l.take b.toNat).length=b.toNat:=by simp;omega
     have hE:Eff (.sll sz x none hi) o.dst ds ⟨.gs (.l s c) b.toNat,[((s,c),some ⟨kb.e,kb.sz,kb.cells.take (b.toNat*sz)⟩)],[],none⟩ ((ds.set s c (some ⟨kb.e,kb.sz,kb.cells.take (b.toNat*sz),false⟩)).put o.dst (.gs (.l s c) b.toNat)):=by
      refine ⟨?_,yw5 (b:=⟨kb.e,kb.sz,kb.cells.take (b.toNat*sz),false⟩) hcc2,DOk.put (hk.set hcc fun x hx=>by cases hx;exact ⟨by show kb.sz≠0;rw[k3];exact Nat.pos_iff_ne_zero.1 (C.E _).pos,fun q=>by cases q⟩)⟩
      simp only[effA]
      rw[ycE,hv]
      simp only[ymn]
      rw[show bnd (ev (lkF ds.fr)) 0 none=some 0 from rfl,yib hγ e2]
      simp only[yqx]
      show (((ds.kb s c).map KB.blk).bind _)=_
      rw[k1]
      simp only[Option.map_some,Option.bind_some,KB.blk]
      rw[if_pos ⟨by rw[k3,hz],by rw[hz];exact (C.E _).pos,hc.1,hc.2,by rw[<-ybI kb.cells,k4,yhp,hz];exact Nat.le_refl _⟩]
     have hg:=hγ.cut (s:=s) (c:=c) (e:=tbe (ts.tb s c)) (l:=l.take b.toNat) (kb:=some ⟨kb.e,kb.sz,kb.cells.take (b.toNat*sz),false⟩) (v:=false) hcc hok rfl (fun _=>⟨_,rfl,k2,k3,by
      show dwks (kb.cells.take (b.toNat*sz))=_
      rw[ygL,k4,hz]
      have:=yzm (C.E (tbe (ts.tb s c))) l 0 b.toNat
      simpa using this⟩) (fun q=>by cases q) (fun e9 q9=>by subst e9;exact (hγ.lvt q9 g1).trans hχ)
     refine ⟨_,_,_,_,by rw[ho];exact hE,fun p hp=> ?_,rfl,hg.put (.rw s c b.toNat ?_ ?_ (yh0 _ _ _ _)),hX,by rw[yb2,ycv];rfl⟩
     ·simp only[List.mem_singleton] at hp;subst hp;simp[twk',ho,ex,trf]
     ·refine ylI _ _ _ _ hcc ?_
      rcases hok with q|⟨q1,q2⟩
      ·exact .inl q
      ·exact .inr ⟨q1,by show memB (mapM _ ts.nw) s=true;rw[yip];exact q2⟩
     ·rw[ycD _ s c _ hcc];simp only[and_self,if_true,tln];rw[hlt]
    ·have:=g2 hχ;subst this
     have hb0:b=0:=by have:=hc.2;simp at this;omega
     subst hb0
     have e2':bnd (ev (lkF ds.fr)) ((0:Nat):Int) hi=some 0:=yib hγ e2
     have hE:Eff (.sll sz x none hi) o.dst ds (eff1 (.sl true 0 [])) (ds.put o.dst (.sl true 0 [])):=by
      refine ⟨?_,ygk _ _ _,hk.put⟩
      simp only[effA]
      rw[ycE,hv]
      simp only[ymn,pval]
      rw[hv]
      simp only
      rw[show bnd (ev (lkF ds.fr)) 0 none=some 0 from rfl,e2']
      simp only
      rw[if_pos ⟨by omega,by omega,by omega⟩]
      simp[effP]
     have hg:=hγ.cut (s:=s) (c:=c) (e:=tbe (ts.tb s c)) (l:=([]:List (K (tbe (ts.tb s c))))) (kb:=none) (v:=true) hcc hok rfl (fun q=>by cases q) (fun _=>rfl) (fun e9 q9=>by subst e9;exact (hγ.lvt q9 g1).trans hχ)
     refine ⟨_,_,_,_,by rw[ho];exact hE,fun p hp=>(by cases hp),rfl,hg.put (.rwn s c ?_ ?_ (yh0 _ _ _ _)),hX,by rw[yb2,ycv];rfl⟩
     ·refine ylI _ _ _ _ hcc ?_
      rcases hok with q|⟨q1,q2⟩
      ·exact .inl q
      ·exact .inr ⟨q1,by show memB (mapM _ ts.nw) s=true;rw[yip];exact q2⟩
     ·rw[ycD _ s c _ hcc];simp[tln]
   ·exact h.elim
  ·exact h.elim
 ·rename_i ex
  rw[ex] at hx
  split at h
  ·rename_i a b e1 e2
   obtain ⟨hc,hX⟩:=h
   have ha:a=0:=by omega
   have hb:b=0:=by omega
   subst ha;subst hb
   have hv:ev (lkF ds.fr) x= .sl true 0 []:=by generalize ev (lkF ds.fr) x=v at hx;cases hx;rfl
   exact slc (n:=0) hv (yib hγ e1) (yib hγ e2) hc (by simpa using .nil) hX
  ·exact h.elim
 ·exact h.elim
theorem yxq (hγ:GM P C R ts χ ds) (hk:DOk ds) {F:Cf K} {o:AO} {c a b:AOpd} {X:TS K→Prop} {dr:Bool} (ho:o.op= .pick c a b) (h:step F dr o ts X):SR P C R o ts ds X:=by
 unfold step at h
 rw[ho] at h
 simp only at h
 have hc:=hγ.tev c
 have fin:∀ {u:TV K} {v:AV},TR P C ts χ u v→pval (ybl (toD ds)) (ev (lkF ds.fr)) (.pick c a b)=some v→X (ts.put o.dst u)→SR P C R o ts ds X:=by
  intro u v hv hp hX
  refine yhl hγ hv ?_ hX
  rw[ho]
  exact ykc hk rfl (show kok (pval (ybl (toD ds)) (ev (lkF ds.fr)) (.pick c a b))=some ([],v) by rw[hp];rfl) trivial
 split at h
 ·rename_i ex;rw[ex] at hc
  exact fin (hγ.tea a) (by simp only[pval,hc.lbi]) h
 ·rename_i ex;rw[ex] at hc
  exact fin (hγ.tea b) (by simp only[pval,hc.lbi]) h
 ·exact h.elim
theorem yC1 (hC:CxOk P C) (hγ:GM P C R ts χ ds) (hk:DOk ds) {F:Cf K} (hF:F.C=C) {o:AO} {e sz bytes:Nat} {x y:AOpd} {X:TS K→Prop} {dr:Bool} (ho:o.op= .app e sz bytes x y) (h:step F dr o ts X):SR P C R o ts ds X:=by
 unfold step at h
 rw[ho,hF] at h
 simp only at h
 split at h
 ·rename_i hc
  simp only[Bool.and_eq_true] at hc
  have hz:=nbeq.1 hc.1
  have hb:=Nat.le_of_ble_eq_true hc.2
  obtain ⟨l2,hl2,h⟩:=ycP h
  obtain ⟨ys,hs,hys⟩:=yw0 hC hγ (hγ.tev y) hl2
  refine ywi hC hγ hk h (fun hA=> ?_) hys (by rw[twk',ho])
  refine ⟨?_,(C.E e).pos⟩
  rw[ho]
  simp only[effA]
  rw[ycE,hs,Option.bind_some,if_pos ⟨by rw[<-hz];exact (C.E e).pos,hb,by rw[<-ybI ys,hys,yhp,hz],yqU hC hγ hl2 hA⟩,hz]
 ·exact h.elim
theorem yxR (hC:CxOk P C) (hγ:GM P C R ts χ ds) (hk:DOk ds) {F:Cf K} (hF:F.C=C) {o:AO} {e sz bytes:Nat} {x y:AOpd} {X:TS K→Prop} {dr:Bool} (ho:o.op= .apf e sz bytes x y) (h:step F dr o ts X):SR P C R o ts ds X:=by
 unfold step at h
 rw[ho,hF] at h
 simp only at h
 split at h
 ·rename_i hc
  simp only[Bool.and_eq_true] at hc
  have hz:=nbeq.1 hc.1
  have hb:=Nat.le_of_ble_eq_true hc.2
  obtain ⟨l2,hl2,h⟩:=ycP h
  obtain ⟨ys,hs,hys⟩:=yw0 hC hγ (hγ.tev y) hl2
  refine yzF hC hγ hk h (fun hA=> ?_) hys (by rw[twk',ho])
  refine ⟨?_,(C.E e).pos⟩
  rw[ho]
  simp only[effA]
  rw[ycE,hs,Option.bind_some,if_pos ⟨by rw[<-hz];exact (C.E e).pos,hb,by rw[<-ybI ys,hys,yhp,hz],yqU hC hγ hl2 hA⟩,hz]
 ·exact h.elim
theorem yAO (hC:CxOk P C) (hγ:GM P C R ts χ ds) (hk:DOk ds) {F:Cf K} (hF:F.C=C) {o:AO} {e:Nat} {x y:AOpd} {X:TS K→Prop} {dr:Bool} (ho:o.op= .apps e x y) (h:step F dr o ts X):SR P C R o ts ds X:=by
 unfold step at h
 rw[ho,hF] at h
 simp only at h
 split at h
 ·rename_i l f ey hf
  have hy:=hγ.tev y
  rw[ey] at hy
  have hsz:(C.E e).sz=1:=by
   have:=hC.ob e f hf 0
   rw[<-(C.E e).len (f 0),this];rfl
  have hys:dwks (encB l)=cl (C.E e) (l.map f):=by
   clear hy ey h
   induction l with
   |nil=>rfl
   | cons b l ih=>
     rw[List.map_cons,show cl (C.E e) (f b::l.map f)=(C.E e).c (f b)++cl (C.E e) (l.map f) by simp[cl],hC.ob e f hf b,<-ih]
     rfl
  refine ywi hC hγ hk (ys:=encB l) h (fun hA=> ?_) hys (by rw[twk',ho])
  refine ⟨?_,(C.E e).pos⟩
  rw[ho]
  simp only[effA]
  rw[ycE,hy.str]
  simp only
  rw[if_pos hA.1,hsz,List.length_map]
 ·exact h.elim
def yrh:AOp→Bool
 | .call .. | .calv .. =>false
 |_=>true
theorem ytM (hC:CxOk P C) (hγ:GM P C R ts χ ds) (hk:DOk ds) {F:Cf K} (hF:F.C=C) {o:AO} {X:TS K→Prop} (hn:yrh o.op=true) (h:step F true o ts X):SR P C R o ts ds X:=by
 have quiet:∀ {u:AOp},o.op=u→(match tqv ts u with|some (cs,v)=>andL cs (X (ts.put o.dst v))|none=>False)→SR P C R o ts ds X:=by
  intro u ho h
  split at h
  ·rename_i cs v e
   obtain ⟨hc,hX⟩:=yfl h
   obtain ⟨hm,D,w,h1,h2,h3⟩:=yB7 hγ e hc
   refine yhl hγ h3 ?_ hX
   rw[ho]
   exact ykc hk hm h1 h2
  ·exact h.elim
 cases ho:o.op with
 |ld g sz x=>unfold step at h;rw[ho,hF] at h;exact yCU hC hγ hk ho h
 |sto sz x y=>unfold step at h;rw[ho,hF] at h;exact yz4 hC hγ hk ho h
 |pick c a b=>exact yxq hγ hk ho h
 |box e sz x=>exact yz3 hγ hk ho h
 |bsl e sz n z parts=>exact yzL hγ hk hF ho h
 |mks e sz b z x y=>exact yAY hC hγ hk hF ho h
 |apz e sz b z x y=>exact yBe hC hγ hk hF ho h
 |bsf e sz n z parts=>exact yAs hC hγ hk hF ho h
 |apf e sz b x y=>exact yxR hC hγ hk hF ho h
 |iad sz x i=>exact yAH hC hγ hk hF ho h
 |len x=>unfold step at h;rw[ho,hF] at h;exact yzx hγ hk ho h
 |app e sz b x y=>exact yC1 hC hγ hk hF ho h
 |apps e x y=>exact yAO hC hγ hk hF ho h
 |b2s x=>exact yzE hC hγ hk hF ho h
 |sll sz x lo hi=>exact yAS hC hγ hk hF ho h
 |call f args=>rw[ho] at hn;cases hn
 |calv x args=>rw[ho] at hn;cases hn
 |eq g kind x y=>unfold step at h;rw[ho] at h;simp only[teqn] at h;exact quiet ho h
 |_=>unfold step at h;rw[ho] at h;exact quiet ho h
end
end Go.AV
end
noncomputable section
namespace Go.AV
open Go.RowKit Go.RG Go.Lib
variable {K:Nat->Type}
def χ1 (χ:Nat->Bool):Nat->Nat->Bool:=fun s c=>decide (c=1)&&χ s
section
variable {P:Program} {C:Cx K} {R:RR K} {ts ts1:TS K} {χ:Nat->Nat->Bool} {ξ:Nat->Bool} {ds:DS} {B:Base} {N:Nat} {ρ:Nat->Option (Nat×Nat)} {p:Nat×Nat->Prop}
theorem TR.noL' {u:TV K} {v:AV} (h:TR P C ts χ u v) (hn:ybi u=true):v.noL=true:=(h.noref (ts':=ts) (χ':=χ) hn).2
variable (P C ts ts1 χ ξ ds ρ p) in
def TM (u u1:TV K):Prop:=∀v,TR P C ts χ u v->∃v1,TR P C ts1 (χ1 ξ) u1 v1/\RV ρ (toD ds) p v1 v
theorem TM.un (u:TV K):TM P C ts ts1 χ ξ ds ρ p u .un:=fun v _=>⟨.un, .un _, .un _⟩
theorem TM.noref {u:TV K} (h:ybi u=true):TM P C ts ts1 χ ξ ds ρ p u u:=fun v hv=>⟨v,(hv.noref h).1, .no v (hv.noL' h)⟩
theorem TM.list:∀ {us us1:List (TV K)} {vs:List AV},us1.length=us.length→(∀(j:Nat) (u u1:TV K),us[j]? =some u→us1[j]? =some u1→TM P C ts ts1 χ ξ ds ρ p u u1)→TL P C ts χ us vs→
  ∃vs1,TL P C ts1 (χ1 ξ) us1 vs1/\vs1.length=vs.length/\∀(j:Nat) (a b:AV),vs1[j]? =some a->vs[j]? =some b->RV ρ (toD ds) p a b
 | [],us1,vs,hl,_,t=>by
   have h1:us1= []:=List.eq_nil_of_length_eq_zero hl
   have h2:vs= []:=List.eq_nil_of_length_eq_zero t.1
   subst h1;subst h2
   exact ⟨[], .nil,rfl,fun j a b h=>by simp at h⟩
 | u ::us,us1,vs,hl,hh,t=>by
   cases us1 with
   |nil=>simp at hl
   | cons u1 us1=>cases vs with
     |nil=>simp[TL] at t
     | cons v vs=>
       obtain ⟨v1,a1,a2⟩:=hh 0 u u1 rfl rfl v t.head.1
       obtain ⟨vs1,b1,b2,b3⟩:=TM.list (us:=us) (us1:=us1) (vs:=vs) (by simpa using hl) (fun j u u1 x y=>hh (j+1) u u1 (by simpa using x) (by simpa using y)) t.head.2
       refine ⟨v1::vs1, .cons a1 b1,by simp[b2],fun j a b x y=> ?_⟩
       cases j with
       |zero=>simp at x y;subst x;subst y;exact a2
       |succ j=>exact b3 j a b (by simpa using x) (by simpa using y)
theorem TM.agg {us us1:List (TV K)} (hl:us1.length=us.length) (hh:∀(j:Nat) (u u1:TV K),us[j]? =some u→us1[j]? =some u1→TM P C ts ts1 χ ξ ds ρ p u u1):TM P C ts ts1 χ ξ ds ρ p (.agg us) (.agg us1):=by
 intro v hv
 obtain ⟨vs,rfl,t⟩:=hv.agg'
 obtain ⟨vs1,a,b,c⟩:=TM.list hl hh t
 exact ⟨.agg vs1, .agg _ _ a.1 a.2, .agg _ _ b c⟩
theorem TM.tup {us us1:List (TV K)} (hl:us1.length=us.length) (hh:∀(j:Nat) (u u1:TV K),us[j]? =some u→us1[j]? =some u1→TM P C ts ts1 χ ξ ds ρ p u u1):TM P C ts ts1 χ ξ ds ρ p (.tup us) (.tup us1):=by
 intro v hv
 obtain ⟨vs,rfl,t⟩:=hv.tup'
 obtain ⟨vs1,a,b,c⟩:=TM.list hl hh t
 exact ⟨.tup vs1, .tup _ _ a.1 a.2, .tup _ _ b c⟩
theorem TM.fn {f:Nat} {us us1 ws ws1:List (TV K)} (hl:us1.length=us.length) (hh:∀(j:Nat) (u u1:TV K),us[j]? =some u→us1[j]? =some u1→TM P C ts ts1 χ ξ ds ρ p u u1)
  (hl':ws1.length=ws.length) (hh':∀(j:Nat) (u u1:TV K),ws[j]? =some u->ws1[j]? =some u1->TM P C ts ts1 χ ξ ds ρ p u u1):TM P C ts ts1 χ ξ ds ρ p (.fn f us ws) (.fn f us1 ws1):=by
 intro v hv
 cases hv with
 | fn _ _ _ a' c' ha hc h h'=>
   obtain ⟨vs1,a,b,c⟩:=TM.list hl hh (show TL P C ts χ us a' from ⟨ha,h⟩)
   obtain ⟨vs2,a2,b2,c2⟩:=TM.list hl' hh' (show TL P C ts χ ws c' from ⟨hc,h'⟩)
   exact ⟨.fn (.func f) vs1 vs2, .fn _ _ _ _ _ a.1 a2.1 a.2 a2.2, .fn _ _ _ _ _ b c b2 c2⟩
theorem TM.cn {id:Nat} {u:TV K} (hrg:∀id w,lkR ts.rg id=some w→lkR ts1.rg id=some w):TM P C ts ts1 χ ξ ds ρ p (.cn id u) (.cn id u):=by
 intro v hv
 cases hv with
 |cn _ _ _ h hn hv=>exact ⟨v, .cn id u v (hrg _ _ h) hn (hv.noref hn).1, .no v (hv.noL' hn)⟩
theorem TM.strip {id:Nat} {u u1:TV K} (h:TM P C ts ts1 χ ξ ds ρ p u u1):TM P C ts ts1 χ ξ ds ρ p (.cn id u) u1:=by
 intro v hv
 cases hv with
 |cn _ _ _ _ hn hv=>exact h v hv
theorem TM.rw {s c s1 n:Nat} (hn:tln (ts.tb s c)=some n) (hn1:tln (ts1.tb s1 1)=some n) (h0:χ s c=false→ρ s1=some (s,c)∧ξ s1=false) (h1:χ s c=true→ξ s1=true):TM P C ts ts1 χ ξ ds ρ p (.rw s c) (.rw s1 1):=by
 intro v hv
 rcases hv.rwi hn with ⟨hx,rfl⟩|⟨hx,rfl,rfl⟩
 ·obtain ⟨q1,q2⟩:=h0 hx
  exact ⟨.gs (.l s1 1) n, .rw s1 1 n (.inl rfl) hn1 (by simp[χ1,q2]), .gs s1 n (s,c) q1⟩
 ·exact ⟨.sl true 0 [], .rwn s1 1 (.inl rfl) hn1 (by simp[χ1,h1 hx]), .no _ rfl⟩
theorem TM.nilrw {s1:Nat} (hn1:tln (ts1.tb s1 1)=some 0) (h1:ξ s1=true):TM P C ts ts1 χ ξ ds ρ p .nil (.rw s1 1):=by
 intro v hv
 cases hv
 exact ⟨.sl true 0 [], .rwn s1 1 (.inl rfl) hn1 (by simp[χ1,h1]), .no _ rfl⟩
theorem TM.px {s c s1 o:Nat} (h:ρ s1=some (s,c)):TM P C ts ts1 χ ξ ds ρ p (.px s c o) (.px s1 1 o):=by
 intro v hv
 rw[hv.pxi]
 exact ⟨.pt (.l s1 1) o, .px _ _ _ (.inl rfl), .pt s1 o (s,c) h⟩
theorem TM.pr {e s c i o s1:Nat} (h:χ s c=false→ρ s1=some (s,c)∧ξ s1=false):TM P C ts ts1 χ ξ ds ρ p (.pr e s c i o) (.pr e s1 1 i o):=by
 intro v hv
 obtain ⟨hx,rfl⟩:=hv.pri
 obtain ⟨q1,q2⟩:=h hx
 exact ⟨.pt (.l s1 1) _, .pr _ _ _ _ _ (.inl rfl) (by simp[χ1,q2]), .pt s1 _ (s,c) q1⟩
theorem TM.fz (hC:CxOk P C) (hγ:GM P C R ts χ ds) {s c e:Nat} {l:List (K e)} (hl:trow C e (ts.tb s c)=some l) (hp:χ s c=false→p (s,c)):TM P C ts ts1 χ ξ ds ρ p (.rw s c) (.sl e l):=by
 intro v hv
 obtain ⟨g1,g2,g3⟩:=hγ.trow hC hl
 rcases hv.rwi g1 with ⟨hx,rfl⟩|⟨hx,h0,rfl⟩
 ·obtain ⟨kb,k1,k2,k3,k4⟩:=g3 hx
  refine ⟨.sl false l.length kb.cells, .sl e l _ _ _ rfl k4,?_⟩
  exact .pub (s,c) l.length kb.blk (hp hx) (by show (ds.kb s c).map KB.blk=_;rw[k1];rfl) (by show kb.cells.length=l.length*kb.sz;rw[k3,<-ybI kb.cells,k4,yhp]) (by show kb.sz≠0;rw[k3];exact Nat.pos_iff_ne_zero.1 (C.E e).pos) (ycg k4)
 ·have:=g2 hx;subst this
  exact ⟨.sl true 0 [], .sl e [] _ _ _ rfl rfl, .no _ rfl⟩
theorem TM.sem {u u1:TV K} (h:∀v,TR P C ts χ u v->TR P C ts1 (χ1 ξ) u1 v/\v.noL=true):TM P C ts ts1 χ ξ ds ρ p u u1:=fun v hv=>⟨v,(h v hv).1, .no v (h v hv).2⟩
variable (P C ts ts1 χ ξ ds ρ p) in
def BM (b b1:TB K):Prop:=∀kb,MR P C ts χ b kb->∃cells1,MR P C ts1 (χ1 ξ) b1 ⟨kb.e,kb.sz,cells1,false⟩/\RVL ρ (toD ds) p cells1 kb.cells
theorem BM.row {e:Nat} {l:List (K e)}:BM P C ts ts1 χ ξ ds ρ p (.row e l) (.row e l):=fun kb h=>⟨kb.cells,h,RVL.no (ycg h.2.2)⟩
theorem BM.box {e:Nat} {cs cs1:List (TV K)} (hl:cs1.length=cs.length) (hh:∀(j:Nat) (u u1:TV K),cs[j]? =some u→cs1[j]? =some u1→TM P C ts ts1 χ ξ ds ρ p u u1):BM P C ts ts1 χ ξ ds ρ p (.box e cs) (.box e cs1):=by
 intro kb h
 obtain ⟨vs1,a,b,c⟩:=TM.list hl hh (show TL P C ts χ cs kb.cells from ⟨h.2.2.1,h.2.2.2⟩)
 exact ⟨vs1,⟨h.1,by rw[hl];exact h.2.1,a.1,a.2⟩,b,c⟩
theorem BM.lrow {e n:Nat} {cs cs1:List (TV K)} (hl:cs1.length=cs.length) (hh:∀(j:Nat) (u u1:TV K),cs[j]? =some u→cs1[j]? =some u1→TM P C ts ts1 χ ξ ds ρ p u u1):BM P C ts ts1 χ ξ ds ρ p (.lrow e n cs) (.lrow e n cs1):=by
 intro kb h
 obtain ⟨vs1,a,b,c⟩:=TM.list hl hh (show TL P C ts χ cs kb.cells from ⟨h.2.2.1,h.2.2.2.2⟩)
 exact ⟨vs1,⟨h.1,h.2.1,a.1,by rw[hl];exact h.2.2.2.1,a.2⟩,b,c⟩
theorem BM.lr {e n:Nat} {cs:List (TV K)} {l:List (K e)} (hC:CxOk P C) (hc:yuH (C.T e).rd (C.E e).sz n cs=some l):BM P C ts ts1 χ ξ ds ρ p (.lrow e n cs) (.row e l):=by
 intro kb h
 obtain ⟨a1,a2⟩:=ylF hC n cs kb.cells l hc ⟨h.2.2.1,h.2.2.2.2⟩ h.2.2.2.1
 exact ⟨kb.cells,⟨h.1,h.2.1,a1⟩,RVL.no (ycg a1)⟩
theorem ysC (g:Nat→AV):∀(l:List (Nat×TV K)) (t:Nat),(lkF (l.map fun p=>(p.1,g p.1)) t=g t)∨(lkF (l.map fun p=>(p.1,g p.1)) t= .un∧lkT l t= .un)
 | [],t=> .inr ⟨rfl,rfl⟩
 | p::r,t=>by
   rw[List.map_cons,yby,show p::r=(p.1,p.2)::r from rfl,ycn]
   simp only
   by_cases e:p.1=t
   ·subst e;simp
   ·rw[if_neg e,if_neg e];exact ysC g r t
theorem ymd (q:Nat→Bool) (g:Nat→KB):∀(l:List (Nat×Option (TB K))) (s:Nat),lkM ((l.filter fun p=>q p.1).map fun p=>(p.1,g p.1)) s=if memB l s=true∧q s=true then some (g s) else none
 | [],s=>by simp[lkM,memB]
 | p ::r,s=>by
   have hm:memB (p::r) s=(Nat.beq p.1 s||memB r s):=rfl
   rw[hm]
   by_cases e:p.1=s
   ·subst e
    rw[nbeq.2 rfl]
    cases hq:q p.1 with
    | true=>
      rw[List.filter_cons,if_pos hq,List.map_cons,yo8];simp
    | false=>
      rw[List.filter_cons,if_neg (by rw[hq];simp),ymd q g r p.1];simp[hq]
   ·have hb:Nat.beq p.1 s=false:=by
     cases h:Nat.beq p.1 s with
     |false=>rfl
     |true=>exact absurd (nbeq.1 h) e
    rw[hb,Bool.false_or]
    cases hq:q p.1 with
    |true=>rw[List.filter_cons,if_pos hq,List.map_cons,yo8];simp only[e,if_false];exact ymd q g r s
    |false=>rw[List.filter_cons,if_neg (by rw[hq];simp)];exact ymd q g r s
theorem yAx (hB:yds B) (hγ:GM P C R ts χ ds) (hk:DOk ds) (ρ:Nat→Option (Nat×Nat)) (p:Nat×Nat→Prop) (ξ:Nat→Bool) (ts1:TS K) (hnw:ts1.nw= []) (hhp:∀H n,R ts.h H n→R ts1.h H n)
  (hρ:∀s k,ρ s=some k->χ k.1 k.2=false/\∃b b1,ts.tb k.1 k.2=some b/\lkB ts1.od s=some b1/\BM P C ts ts1 χ ξ ds ρ p b b1)
  (hm:∀s b1,lkB ts1.od s=some b1->ξ s=false->∃k,ρ s=some k) (hv:∀s,ξ s=true->ρ s=none/\∃e,lkB ts1.od s=some (.row e []))
  (hlv:∀s b1,2000000<=s->lkB ts1.od s=some b1->R.L s=ξ s) (hfix:∀s k,2000000<=s->ρ s=some k->k=(s,1)) (inj:∀s s' k,ρ s=some k->ρ s'=some k->s=s') (hp:∀k,p k->χ k.1 k.2=false/\∃e l,trow C e (ts.tb k.1 k.2)=some l/\∀s,ρ s≠some k) (hC:CxOk P C)
  (fr:∀t,TM P C ts ts1 χ ξ ds ρ p (lkT ts.fr t) (lkT ts1.fr t)) {X:KS->Prop} (h:∀ks,KOk ks->GM P C R ts1 (χ1 ξ) (ofK ks)->X ks):RE B N (toD ds) X:=by
 have hg:∀t,∃v1,TR P C ts1 (χ1 ξ) (lkT ts1.fr t) v1/\RV ρ (toD ds) p v1 (lkF ds.fr t):=fun t=>fr t _ (hγ.fr t)
 let g:Nat->AV:=fun t=>Classical.choose (hg t)
 have hg':∀t,TR P C ts1 (χ1 ξ) (lkT ts1.fr t) (g t)/\RV ρ (toD ds) p (g t) (lkF ds.fr t):=fun t=>Classical.choose_spec (hg t)
 have hgm:∀s,∃kb1:KB,∀k,ρ s=some k→∃kb b1,ds.kb k.1 k.2=some kb∧lkB ts1.od s=some b1∧kb1.e=kb.e∧kb1.sz=kb.sz∧kb1.q=false∧MR P C ts1 (χ1 ξ) b1 kb1∧RVL ρ (toD ds) p kb1.cells kb.cells:=by
  intro s
  cases hs:ρ s with
  |none=>exact ⟨⟨0,0,[],false⟩,fun k hk=>by cases hk⟩
  | some k=>
    obtain ⟨h0,b,b1,h1,h2,h3⟩:=hρ s k hs
    obtain ⟨kb,k1,k2⟩:=hγ.mb k.1 k.2 b h1 h0
    obtain ⟨cells1,c1,c2⟩:=h3 kb k2
    exact ⟨⟨kb.e,kb.sz,cells1,false⟩,fun k' hk'=>by cases hk';exact ⟨kb,b1,k1,h2,rfl,rfl,rfl,c1,c2⟩⟩
 let gm:Nat->KB:=fun s=>Classical.choose (hgm s)
 have hgm':∀s k,ρ s=some k->∃kb b1,ds.kb k.1 k.2=some kb/\lkB ts1.od s=some b1/\(gm s).e=kb.e/\(gm s).sz=kb.sz/\(gm s).q=false/\MR P C ts1 (χ1 ξ) b1 (gm s)/\RVL ρ (toD ds) p (gm s).cells kb.cells:=fun s=>Classical.choose_spec (hgm s)
 let ks1:KS:=⟨ts1.fr.map fun p=>(p.1,g p.1),(ts1.od.filter fun p=>(ρ p.1).isSome).map fun p=>(p.1,gm p.1),ds.H,ds.nx⟩
 have hmem:∀s,lkM ks1.mem s=if (ρ s).isSome=true then some (gm s) else none:=by
  intro s
  show lkM ((ts1.od.filter fun p=>(ρ p.1).isSome).map fun p=>(p.1,gm p.1)) s=_
  rw[ymd (fun s=>(ρ s).isSome) gm ts1.od s]
  by_cases hs:(ρ s).isSome=true
  ·obtain ⟨k,hk'⟩:=Option.isSome_iff_exists.1 hs
   obtain ⟨_,b,b1,_,h2,_⟩:=hρ s k hk'
   rw[if_pos ⟨yg4 h2,hs⟩,if_pos hs]
  ·rw[if_neg (fun q=>hs q.2),if_neg hs]
 have hok:KOk ks1:=by
  intro s b hb
  rw[hmem] at hb
  split at hb
  ·rename_i hs
   cases hb
   obtain ⟨k,hk'⟩:=Option.isSome_iff_exists.1 hs
   obtain ⟨kb,b1,h1,h2,h3,h4,h5,_⟩:=hgm' s k hk'
   exact ⟨by rw[h4];exact (hk k.1 k.2 kb h1).1,fun q=>by rw[h5] at q;cases q⟩
  ·cases hb
 refine RE.of (ks1:=ks1) hB (ρ:=ρ) (p:=p) {dom:= ?_,at':= ?_,inj:=inj,disj:= ?_,pub:= ?_,fr:= ?_,H:=fun _=>rfl,nx:=rfl,fix:=fun d k hd h=>hfix d k hd h} hok (h ks1 hok ⟨?_,?_,?_,?_,hhp _ _ hγ.hp,fun s b q e=>by rw[hlv s b q e];simp[χ1]⟩)
 ·intro d b1 hb
  rw[hmem] at hb
  split at hb
  ·rename_i hs;exact Option.isSome_iff_exists.1 hs
  ·cases hb
 ·intro d k hd
  obtain ⟨kb,b1,h1,h2,h3,h4,h5,h6,h7⟩:=hgm' d k hd
  refine ⟨kb.blk,gm d,by show (ds.kb k.1 k.2).map KB.blk=_;rw[h1];rfl,(hk k.1 k.2 kb h1).1,by rw[hmem,hd];rfl,h3,h4,h7⟩
 ·intro k d hp' hd;obtain ⟨_,e,l,_,h3⟩:=hp k hp';exact h3 d hd
 ·intro k hp'
  obtain ⟨h0,e,l,h1,_⟩:=hp k hp'
  obtain ⟨kb,k1,k2,k3,k4⟩:=(hγ.trow hC h1).2.2 h0
  exact ⟨kb.blk,by show (ds.kb k.1 k.2).map KB.blk=_;rw[k1];rfl,(hk k.1 k.2 kb k1).1⟩
 ·intro t
  show RV ρ (toD ds) p (lkF (ts1.fr.map fun p=>(p.1,g p.1)) t) (lkF ds.fr t)
  rcases ysC g ts1.fr t with e|⟨e,_⟩
  ·rw[e];exact (hg' t).2
  ·rw[e];exact .un _
 ·intro t
  show TR P C ts1 (χ1 ξ) (lkT ts1.fr t) (lkF (ts1.fr.map fun p=>(p.1,g p.1)) t)
  rcases ysC g ts1.fr t with e|⟨e,e2⟩
  ·rw[e];exact (hg' t).1
  ·rw[e,e2];exact .un _
 ·intro s c b hb hx
  rcases tb_c hb with rfl|rfl
  ·have hx':ξ s=false:=by simpa [χ1] using hx
   obtain ⟨k,hk'⟩:=hm s b hb hx'
   obtain ⟨kb,b1,h1,h2,h3,h4,h5,h6,h7⟩:=hgm' s k hk'
   have:b1=b:=by
    have hb':lkB ts1.od s=some b:=hb
    rw[h2] at hb';exact Option.some.inj hb'
   subst this
   refine ⟨gm s,?_,h6⟩
   show lkO (yqA ks1.mem) s=_
   rw[yij,hmem,hk'];rfl
  ·have hb':lkB ts1.nw s=some b:=hb
   rw[hnw] at hb';cases hb'
 ·intro s c hx
  simp only[χ1,Bool.and_eq_true,decide_eq_true_eq] at hx
  obtain ⟨rfl,hx⟩:=hx
  exact (hv s hx).2
 ·intro s _;rfl
end
end Go.AV
end
noncomputable section
namespace Go.AV
open Go.RowKit Go.RG Go.Lib
variable {K:Nat->Type}
section
variable {P:Program} {C:Cx K} {R:RR K} {ts ts1:TS K} {χ:Nat->Nat->Bool} {ξ:Nat->Bool} {ds:DS} {B:Base} {N:Nat} {ρ:Nat->Option (Nat×Nat)} {p:Nat×Nat->Prop}
theorem ylE (A:Nat→Nat→Option (TV K)) (D:Nat→Nat→Option Nat) (l:List (TV K)):(rnVs A D l).length=l.length:=by
 induction l with
 |nil=>rfl
 |cons x l ih=>simp[rnVs,ih]
variable (P C R ts ts1 χ ξ ds ρ p) in
structure RnOk (A:Nat→Nat→Option (TV K)) (D:Nat→Nat→Option Nat):Prop where
 cx:CxOk P C
 γ:GM P C R ts χ ds
 A:∀s c w,A s c=some w→(∃s1 n,w= .rw s1 1∧tln (ts.tb s c)=some n∧tln (ts1.tb s1 1)=some n∧(χ s c=false→ρ s1=some (s,c)∧ξ s1=false)∧(χ s c=true→ξ s1=true))∨
  (∃e l,w= .sl e l/\trow C e (ts.tb s c)=some l/\(χ s c=false->p (s,c)))
 D:∀s c s1,D s c=some s1->ρ s1=some (s,c)
 rg:∀id w,lkR ts.rg id=some w->lkR ts1.rg id=some w
mutual
theorem ytB {A:Nat→Nat→Option (TV K)} {D:Nat→Nat→Option Nat} (h:RnOk P C R ts ts1 χ ξ ds ρ p A D):∀u,TM P C ts ts1 χ ξ ds ρ p u (rnV A D u)
 | .un=>TM.un _
 | .lb b=>TM.noref rfl
 | .bl b=>TM.noref rfl
 | .li k n=>TM.noref rfl
 | .it k n=>TM.noref rfl
 | .st s=>TM.noref rfl
 | .agg cs=>TM.agg (ylE A D cs) (ymU h cs)
 | .tup cs=>TM.tup (ylE A D cs) (ymU h cs)
 | .nil=>TM.noref rfl
 | .em=>TM.noref rfl
 | .sl e l=>TM.noref rfl
 | .rw s c=>by
   simp only[rnV]
   split
   ·rename_i w e
    rcases h.A s c w e with ⟨s1,n,rfl,h1,h2,h3,h4⟩|⟨e0,l,rfl,h1,h2⟩
    ·exact TM.rw h1 h2 h3 h4
    ·exact TM.fz h.cx h.γ h1 h2
   ·exact TM.un _
 | .px s c o=>by
   simp only[rnV]
   split
   ·rename_i s1 e;exact TM.px (h.D s c s1 e)
   ·exact TM.un _
 | .pr e0 s c i o=>by
   simp only[rnV]
   split
   ·rename_i s1 c1 e
    rcases h.A s c _ e with ⟨s2,n,e1,h1,h2,h3,h4⟩|⟨e0,l,e1,_⟩
    ·cases e1;exact TM.pr h3
    ·cases e1
   ·exact TM.un _
 | .ep e l i o=>TM.noref rfl
 | .gs l i=>TM.noref rfl
 | .nptr=>TM.noref rfl
 | .fn f a c=>TM.fn (ylE A D a) (ymU h a) (ylE A D c) (ymU h c)
 | .fv ps rs F=>TM.noref rfl
 | .yl r=>TM.noref rfl
 | .cn id v=>TM.cn h.rg
theorem ymU {A:Nat→Nat→Option (TV K)} {D:Nat→Nat→Option Nat} (h:RnOk P C R ts ts1 χ ξ ds ρ p A D):∀(us:List (TV K)) (j:Nat) (u u1:TV K),us[j]? =some u→(rnVs A D us)[j]? =some u1→TM P C ts ts1 χ ξ ds ρ p u u1
 | [],j,u,u1,h1,_=>by simp at h1
 | x::us,j,u,u1,h1,h2=>by
   cases j with
   |zero=>simp[rnVs] at h1 h2;subst h1;subst h2;exact ytB h x
   |succ j=>exact ymU h us j u u1 (by simpa using h1) (by simpa [rnVs] using h2)
end
theorem BM.map {A:Nat→Nat→Option (TV K)} {D:Nat→Nat→Option Nat} (h:RnOk P C R ts ts1 χ ξ ds ρ p A D) {b b1:TB K} (hb:mapB (rnV A D) (some b)=some b1):BM P C ts ts1 χ ξ ds ρ p b b1:=by
 have hc:∀(cs:List (TV K)) (j:Nat) (u u1:TV K),cs[j]? =some u→(cs.map (rnV A D))[j]? =some u1→TM P C ts ts1 χ ξ ds ρ p u u1:=by
  intro cs j u u1 h1 h2
  rw[List.getElem?_map,h1] at h2
  cases h2;exact ytB h u
 cases b with
 |box e cs=>cases hb;exact BM.box (by simp) (hc cs)
 |row e l=>cases hb;exact BM.row
 |lrow e n cs=>cases hb;exact BM.lrow (by simp) (hc cs)
theorem yrl (a b:List (Nat×Option (TB K))) (s:Nat):lkB (a++b) s=if memB a s=true then lkB a s else lkB b s:=by
 induction a with
 |nil=>rfl
 | cons p a ih=>
   have hm:memB (p::a) s=(Nat.beq p.1 s||memB a s):=rfl
   rw[List.cons_append,ycf,ycf,ih,hm]
   by_cases e:p.1=s
   ·rw[if_pos e,if_pos e,nbeq.2 e];rfl
   ·rw[if_neg e,if_neg e]
    have:Nat.beq p.1 s=false:=by
     cases h:Nat.beq p.1 s with
     |false=>rfl
     |true=>exact absurd (nbeq.1 h) e
    rw[this,Bool.false_or]
def REt (P:Program) (C:Cx K) (R:RR K) (B:Base) (N:Nat) (ts ts1:TS K):Prop:=∀χ ds,DOk ds->GM P C R ts χ ds->RE B N (toD ds) (fun ks=>KOk ks/\∃ξ,GM P C R ts1 ξ (ofK ks))
theorem yrw {nw:List (Nat×Option (TB K))} {s:Nat} (h:memB (nwL nw) s=true):s<2000000:=by
 induction nw with
 |nil=>cases h
 | cons p r ih=>
   simp only[nwL] at h
   split at h
   ·exact ih h
   ·rename_i hp
    simp only[memB,Bool.or_eq_true] at h
    rcases h with h|h
    ·have:=nbeq.1 h;subst this
     exact Nat.lt_of_not_le fun q=>by rw[Nat.ble_eq_true_of_le q] at hp;cases hp
    ·exact ih h
theorem yB0 {nw:List (Nat×Option (TB K))} {s:Nat} (h:s<2000000):lkB (nwL nw) s=lkB nw s:=by
 induction nw with
 |nil=>rfl
 | cons p r ih=>
   simp only[nwL]
   split
   ·rename_i hp
    have:=Nat.le_of_ble_eq_true hp
    rw[ih,ycf,if_neg (by omega)]
   ·rw[ycf,ycf,ih]
theorem yAe (hB:yds B) (hC:CxOk P C):REt P C R B N ts (er ts):=by
 intro χ ds hk hγ
 let cc:Nat->Nat:=fun s=>if memB (nwL ts.nw) s=true then 2 else 1
 let ρ:Nat→Option (Nat×Nat):=fun s=>match ts.tb s (cc s) with
  |some _=>if χ s (cc s)=true then none else some (s,cc s)
  |none=>none
 let ξ:Nat->Bool:=fun s=>χ s (cc s)
 have hlk:∀s,lkB (nwL ts.nw++ts.od) s=ts.tb s (cc s):=by
  intro s
  rw[yrl]
  by_cases h:memB (nwL ts.nw) s=true
  ·rw[if_pos h];show _=ts.tb s (if memB (nwL ts.nw) s=true then 2 else 1);rw[if_pos h];exact yB0 (yrw h)
  ·rw[if_neg h];show _=ts.tb s (if memB (nwL ts.nw) s=true then 2 else 1);rw[if_neg h];rfl
 have hod:∀s,lkB (er ts).od s=mapB (rnV (erA ts) (erB ts)) (ts.tb s (cc s)):=by
  intro s;show lkB (mapM _ (nwL ts.nw++ts.od)) s=_;rw[ymp,hlk]
 have hρi:∀s k,ρ s=some k→k=(s,cc s)∧χ s (cc s)=false∧∃b,ts.tb s (cc s)=some b:=by
  intro s k h
  have h':(match ts.tb s (cc s) with|some _=>if χ s (cc s)=true then none else some (s,cc s)|none=>none)=some k:=h
  split at h'
  ·rename_i b hb
   split at h'
   ·cases h'
   ·rename_i hx
    cases h'
    exact ⟨rfl,by simpa using hx,b,hb⟩
  ·cases h'
 have hρs:∀s b,ts.tb s (cc s)=some b→χ s (cc s)=false→ρ s=some (s,cc s):=by
  intro s b hb hx
  show (match ts.tb s (cc s) with|some _=>if χ s (cc s)=true then none else some (s,cc s)|none=>none)=_
  rw[hb];simp[hx]
 have hN:∀s c s1,erN (nwL ts.nw) s c=some s1→s1=s∧c=cc s:=by
  intro s c s1 h
  unfold erN at h
  show s1=s/\c=if memB (nwL ts.nw) s=true then 2 else 1
  split at h
  ·rename_i hm
   rw[if_pos hm]
   split at h
   ·rename_i e;cases h;exact ⟨rfl,nbeq.1 e⟩
   ·cases h
  ·rename_i hm
   rw[if_neg (by rw[hm];simp)]
   split at h
   ·rename_i e;cases h;exact ⟨rfl,nbeq.1 e⟩
   ·cases h
 have hRn:RnOk P C R ts (er ts) χ ξ ds ρ (fun _=>False) (erA ts) (erB ts):=by
  refine ⟨hC,hγ,?_,?_,fun _ _ h=>h⟩
  ·intro s c w h
   unfold erA at h
   split at h
   ·rename_i n hn
    split at h
    ·rename_i s1 h1
     cases h
     obtain ⟨rfl,rfl⟩:=hN s c s1 h1
     refine .inl ⟨s1,n,rfl,hn,?_,fun hx=>⟨?_,hx⟩,fun hx=>hx⟩
     ·show tln (lkB (er ts).od s1)=_
      rw[hod,yrR];exact hn
     ·cases hq:ts.tb s1 (cc s1) with
      |none=>rw[hq] at hn;cases hn
      |some b=>exact hρs s1 b hq hx
    ·cases h
   ·cases h
  ·intro s c s1 h
   unfold erB at h
   split at h
   ·rename_i e cs hb
    obtain ⟨rfl,rfl⟩:=hN s c s1 h
    exact hρs s1 _ hb (hγ.box hb)
   ·cases h
 have hlv:∀s b1,2000000≤s→lkB (er ts).od s=some b1→R.L s=ξ s:=by
  intro s b1 q e
  have hm:¬memB (nwL ts.nw) s=true:=fun hm=>by have:=yrw hm;omega
  have hc:cc s=1:=if_neg hm
  rw[hod,hc] at e
  show _=χ s (cc s)
  rw[hc]
  cases hq:ts.tb s 1 with
  |none=>rw[hq] at e;cases e
  |some b=>exact hγ.lv s b q hq
 refine yAx hB hγ hk ρ (fun _=>False) ξ (er ts) rfl (fun _ _ h=>h) ?_ ?_ ?_ hlv ?_ ?_ (fun k h=>h.elim) hC ?_ (fun ks h1 h2=>⟨h1,_,h2⟩)
 ·intro s k h
  obtain ⟨rfl,h1,b,hb⟩:=hρi s k h
  refine ⟨h1,b,?_⟩
  cases hm:mapB (rnV (erA ts) (erB ts)) (some b) with
  |none=>cases b<;>cases hm
  |some b1=>exact ⟨b1,hb,by rw[hod,hb];exact hm,BM.map hRn hm⟩
 ·intro s b1 h hx
  rw[hod] at h
  cases hq:ts.tb s (cc s) with
  |none=>rw[hq] at h;cases h
  |some b=>exact ⟨_,hρs s b hq hx⟩
 ·intro s hx
  obtain ⟨e,h1⟩:=hγ.vi s (cc s) hx
  refine ⟨?_,e,by rw[hod,h1];rfl⟩
  show (match ts.tb s (cc s) with|some _=>if χ s (cc s)=true then none else some (s,cc s)|none=>none)=none
  rw[h1]
  exact if_pos hx
 ·intro s k hs h
  have e1:=(hρi s k h).1
  have hm:¬memB (nwL ts.nw) s=true:=fun hm=>by have:=yrw hm;omega
  rw[e1];show (s,if memB (nwL ts.nw) s=true then 2 else 1)=_;rw[if_neg hm]
 ·intro s s' k h h'
  have e1:=(hρi s k h).1
  have e2:=(hρi s' k h').1
  rw[e1] at e2
  exact (Prod.mk.inj e2).1
 ·intro t
  show TM _ _ _ _ _ _ _ _ _ (lkT ts.fr t) (lkT (mapF (rnV (erA ts) (erB ts)) ts.fr) t)
  rw[yoY _ rfl]
  exact ytB hRn _
theorem RE.bind {S:St} {X Y:KS→Prop} (h:RE B N S X) (k:∀ks,KOk ks→X ks→RE B N (toS ks) Y):RE B N S Y:=by
 intro a G hR
 obtain ⟨ks1,G1,h1,h2,h3⟩:=h a G hR
 obtain ⟨ks2,G2,k1,k2,k3⟩:=k ks1 h2.2 h3 a G1 h2.1
 exact ⟨ks2,G2,by rw[k1,h1],k2,k3⟩
theorem REt.trans {ts2:TS K} (h:REt P C R B N ts ts1) (k:REt P C R B N ts1 ts2):REt P C R B N ts ts2:=by
 intro χ ds hk hγ
 refine RE.bind (h χ ds hk hγ) fun ks hko ⟨_,ξ,hg⟩=> ?_
 rw[<-ygZ]
 exact k ξ (ofK ks) (yhn hko) hg
def REk (P:Program) (C:Cx K) (R:RR K) (B:Base) (N:Nat) (ts ts1:TS K):Prop:=∀χ ks,KOk ks->GM P C R ts χ (ofK ks)->RE B N (toS ks) (fun ks=>KOk ks/\∃ξ,GM P C R ts1 ξ (ofK ks))
theorem REt.k (h:REt P C R B N ts ts1):REk P C R B N ts ts1:=by
 intro χ ks hk hγ
 have:=h χ (ofK ks) (yhn hk) hγ
 rw[ygZ] at this
 exact this
theorem REk.refl:REk P C R B N ts ts:=fun χ ks hk hγ=>RE.id hk ⟨hk,χ,hγ⟩
theorem REk.trans {ts2:TS K} (h:REk P C R B N ts ts1) (k:REk P C R B N ts1 ts2):REk P C R B N ts ts2:=fun χ ks hk hγ=>RE.bind (h χ ks hk hγ) fun ks' hko ⟨_,ξ,hg⟩=>k ξ ks' hko hg
theorem REt.thenk {ts2:TS K} (h:REt P C R B N ts ts1) (k:REk P C R B N ts1 ts2):REt P C R B N ts ts2:=fun χ ds hk hγ=>RE.bind (h χ ds hk hγ) fun ks' hko ⟨_,ξ,hg⟩=>k ξ ks' hko hg
theorem yA5 (hB:yds B) (hC:CxOk P C) (s0:Nat):REk P C R B N ts (fz C ts s0):=by
 intro χ ks hk hγ
 unfold fz
 split
 rotate_left
 ·exact RE.id hk ⟨hk,χ,hγ⟩
 ·rename_i l hnw hl
  rw[<-ygZ]
  generalize he0:tbe (ts.tb s0 1)=e0 at l hl
  let A:=fzS ts s0 (.sl e0 l)
  let D:=fzB ts
  let tsF:TS K:=⟨mapF (rnV A D) ts.fr,(s0,none)::mapM (rnV A D) ts.od,[],ts.rg,ts.h⟩
  let ρ:Nat→Option (Nat×Nat):=fun s=>if s=s0 then none else match ts.tb s 1 with
   |some _=>if χ s 1=true then none else some (s,1)
   |none=>none
  let ξ:Nat->Bool:=fun s=>if s=s0 then false else χ s 1
  let p:Nat×Nat->Prop:=fun k=>k=(s0,1)/\χ s0 1=false
  have hod:∀s,s≠s0→lkB tsF.od s=mapB (rnV A D) (ts.tb s 1):=by
   intro s hs
   show lkB ((s0,none)::mapM (rnV A D) ts.od) s=_
   rw[ycf,if_neg (fun e=>hs e.symm),ymp];rfl
  have hod0:lkB tsF.od s0=none:=by show lkB ((s0,none)::mapM (rnV A D) ts.od) s0=_;rw[ycf,if_pos rfl]
  have hρi:∀s k,ρ s=some k→s≠s0∧k=(s,1)∧χ s 1=false∧∃b,ts.tb s 1=some b:=by
   intro s k h
   have h':(if s=s0 then none else match ts.tb s 1 with|some _=>if χ s 1=true then none else some (s,1)|none=>none)=some k:=h
   split at h'
   ·cases h'
   ·rename_i hs
    split at h'
    ·rename_i b hb
     split at h'
     ·cases h'
     ·rename_i hx;cases h';exact ⟨hs,rfl,by simpa using hx,b,hb⟩
    ·cases h'
  have hρs:∀s b,s≠s0→ts.tb s 1=some b→χ s 1=false→ρ s=some (s,1):=by
   intro s b hs hb hx
   show (if s=s0 then none else match ts.tb s 1 with|some _=>if χ s 1=true then none else some (s,1)|none=>none)=_
   rw[if_neg hs,hb];simp[hx]
  have hRn:RnOk P C R ts tsF χ ξ (ofK ks) ρ p A D:=by
   refine ⟨hC,hγ,?_,?_,fun _ _ h=>h⟩
   ·intro s c w h
    have h':fzS ts s0 (.sl e0 l) s c=some w:=h
    unfold fzS at h'
    split at h'
    ·rename_i hc
     have:=nbeq.1 hc;subst this
     split at h'
     ·rename_i hs
      have:=nbeq.1 hs;subst this
      cases h'
      exact .inr ⟨e0,l,rfl,hl,fun hx=>⟨rfl,hx⟩⟩
     ·rename_i hs
      have hs':s≠s0:=fun e=>by rw[nbeq.2 e] at hs;cases hs
      split at h'
      ·rename_i n hn
       cases h'
       refine .inl ⟨s,n,rfl,hn,?_,fun hx=>⟨?_,?_⟩,fun hx=> ?_⟩
       ·show tln (lkB tsF.od s)=_
        rw[hod s hs',yrR];exact hn
       ·cases hq:ts.tb s 1 with
        |none=>rw[hq] at hn;cases hn
        |some b=>exact hρs s b hs' hq hx
       ·show (if s=s0 then false else χ s 1)=false;rw[if_neg hs'];exact hx
       ·show (if s=s0 then false else χ s 1)=true;rw[if_neg hs'];exact hx
      ·cases h'
    ·cases h'
   ·intro s c s1 h
    have h':fzB ts s c=some s1:=h
    unfold fzB at h'
    split at h'
    ·rename_i e cs hc hb
     cases h'
     have:=nbeq.1 hc;subst this
     refine hρs _ _ ?_ hb (hγ.box hb)
     rintro rfl
     rw[hb] at hl;cases hl
    ·cases h'
  have hlv:∀s b1,2000000≤s→lkB tsF.od s=some b1→R.L s=ξ s:=by
   intro s b1 q e
   have hs:s≠s0:=by rintro rfl;rw[hod0] at e;cases e
   rw[hod s hs] at e
   show _=(if s=s0 then false else χ s 1)
   rw[if_neg hs]
   cases hq:ts.tb s 1 with
   |none=>rw[hq] at e;cases e
   |some b=>exact hγ.lv s b q hq
  refine yAx hB hγ (yhn hk) ρ p ξ tsF rfl (fun _ _ h=>h) ?_ ?_ ?_ hlv (fun s k _ h=>(hρi s k h).2.1) ?_ ?_ hC ?_ (fun ks h1 h2=>⟨h1,_,h2⟩)
  ·intro s k h
   obtain ⟨hs,rfl,h1,b,hb⟩:=hρi s k h
   refine ⟨h1,b,?_⟩
   cases hm:mapB (rnV A D) (some b) with
   |none=>cases b<;>cases hm
   |some b1=>exact ⟨b1,hb,by rw[hod s hs,hb];exact hm,BM.map hRn hm⟩
  ·intro s b1 h hx
   have hs:s≠s0:=by rintro rfl;rw[hod0] at h;cases h
   rw[hod s hs] at h
   have hx':χ s 1=false:=by
    have:(if s=s0 then false else χ s 1)=false:=hx
    rw[if_neg hs] at this;exact this
   cases hq:ts.tb s 1 with
   |none=>rw[hq] at h;cases h
   |some b=>exact ⟨_,hρs s b hs hq hx'⟩
  ·intro s hx
   have hx':(if s=s0 then false else χ s 1)=true:=hx
   split at hx'
   ·cases hx'
   ·rename_i hs
    obtain ⟨e,h1⟩:=hγ.vi s 1 hx'
    refine ⟨?_,e,by rw[hod s hs,h1];rfl⟩
    show (if s=s0 then none else match ts.tb s 1 with|some _=>if χ s 1=true then none else some (s,1)|none=>none)=none
    rw[if_neg hs,h1]
    exact if_pos hx'
  ·intro s s' k h h'
   have e1:=(hρi s k h).2.1
   have e2:=(hρi s' k h').2.1
   rw[e1] at e2
   exact (Prod.mk.inj e2).1
  ·rintro k ⟨rfl,hx⟩
   refine ⟨hx,e0,l,hl,fun s h=> ?_⟩
   obtain ⟨hs,e1,_⟩:=hρi s _ h
   exact hs (Prod.mk.inj e1).1.symm
  ·intro t
   show TM _ _ _ _ _ _ _ _ _ (lkT ts.fr t) (lkT (mapF (rnV A D) ts.fr) t)
   rw[yoY _ rfl]
   exact ytB hRn _
theorem ytg (hB:yds B) (hC:CxOk P C):∀(n:Nat) (vs:List (TV K)) (ts:TS K),REk P C R B N ts (fzA C n vs ts)
 |0,_,_=> .refl
 | n+1,vs,ts=>by
   simp only[fzA]
   split
   ·exact .refl
   ·split
    ·exact (ytg hB hC n _ ts).trans (yA5 hB hC _)
    ·exact yA5 hB hC _
theorem yvU (hB:yds B) (hC:CxOk P C) (fr:List (Nat×TV K)):∀(l:List (Nat×Kd)) (ts:TS K),REk P C R B N ts (fzT C fr l ts)
 | [],_=> .refl
 | (t,k)::r,ts=>by
   cases k with
   | sl e=>
     simp only[fzT]
     refine REk.trans ?_ (yvU hB hC fr r _)
     split
     ·exact yA5 hB hC _
     ·exact .refl
   |_=>simp only[fzT];exact yvU hB hC fr r ts
end
end Go.AV
end
