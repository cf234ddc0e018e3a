/- General texts and own ones, joined: what the program computes, told of abstract states, and the laws of plain data. No condition. -/
import Derived.Orders
import Derived.Below
import Derived.OneCell
import Derived.Calls
import Derived.Laws.World
import Derived.WalkKit
import Derived.WalkSpells
import Derived.WalkLawsBesides
import Derived.BigQuiet
import Derived.Deep.QuietTactic
import Derived.Deep.RegionHeld3
import Derived.Deep.DeepCutAuto
import Derived.Deep.LoopGhost
import Derived.Deep.AppendLies
import Derived.Laws.AppendOwnNone
import Derived.Test.YtpplhhknlmcgbaaRows
import Derived.Maps.Own
import Derived.Laws.AppendOwn
import Derived.RangeFuncRecord
import Derived.OrdersIn
import Derived.Lib.SlBytesConst
import Derived.Laws.BytesArg
import Derived.Great.BuildSlice
import Derived.Lib.AppendStr
noncomputable section
namespace Go.RG
open Go.RowKit
theorem hid {p:Prop} (h:p):Hid p:=h
def upd (D:Nat->Bool) (i:Nat):Nat->Bool:=fun j=>j==i||D j
section
variable {P:Program} {ops:Array Oper} {Q:Exit->Act->World->Prop}
theorem mem_ready {md:Region.Mode} {listed:Array Bool} {i:Nat}:i∈Region.ready md ops listed↔
  i<ops.size/\listed.getD i true=false/\∀o,ops[i]? =some o->∀e∈o.after.toList,Region.binds md e=true->listed.getD e.on false=true:=by
 unfold Region.ready
 simp only[List.mem_filter,List.mem_range,Bool.and_eq_true,Bool.not_eq_true']
 constructor
 ·rintro ⟨h1,h2,h3⟩
  refine ⟨h1,h2,fun o ho e he hb=> ?_⟩
  rw[ho] at h3
  simp only[Option.map_some,Option.getD_some,Array.all_eq_true',Bool.or_eq_true,Bool.not_eq_true'] at h3
  rcases h3 e (by simpa using he) with h|h
  ·rw[hb] at h;cases h
  ·exact h
 ·rintro ⟨h1,h2,h3⟩
  refine ⟨h1,h2,?_⟩
  rw[Array.getElem?_eq_getElem h1]
  simp only[Option.map_some,Option.getD_some,Array.all_eq_true',Bool.or_eq_true,Bool.not_eq_true']
  intro e he
  cases hb:Region.binds md e
  ·exact .inl rfl
  ·exact .inr (h3 _ (Array.getElem?_eq_getElem h1) e (by simpa using he) hb)
def ysT (ops:Array Oper):Bool:=(List.range ops.size).all fun i=>((ops[i]?).map fun o=>o.after.toList.all fun e=> !Region.binds .any e||decide (e.on<i)).getD true
end
end Go.RG
end
noncomputable section
namespace Go.RG
open Go.RowKit
def ymg (o:Nat) (v:Value):Obj→Obj
 | .cells c e f=> .cells (c.setIfInBounds o v) e f
 |x=>x
theorem yjP (w:World) (b o:Nat) (v:Value) (k:Nat):(w.setCell ⟨b,o,none⟩ v).heap[k]? =if k=b then (w.heap[k]?).map (ymg o v) else w.heap[k]? :=by
 simp only[World.setCell,Array.getElem?_modify]
 by_cases h:k=b
 ·subst h
  simp only[if_true]
  cases hx:w.heap[k]? with
  |none=>simp
  |some x=>cases x<;>simp[ymg]
 ·have h':b≠k:=fun e=>h e.symm
  simp[h,h']
theorem ye5 {w:World} {b:Nat} {cs:Array Value} {t:TypeId} (h:w.heap[b]? =some (.cells cs t (0,0))) (j:Nat):
  w.cell? ⟨b,j,none⟩=cs[j]?/\w.frozen? ⟨b,j,none⟩=false:=⟨cell_of_row w b j cs t _ h,frozen_of_row w b j cs t h⟩
section
variable {P:Program} {fn:Func} {R:Ending->World->Prop} {a:Act} {w:World} {g:Nat} {t ty:TypeId} {cs:Array Value} {fr:Nat×Nat} {d:TypeDesc} {p q r:Tmp}
end
def blk (ao:Option Addr):Option Nat:=ao.map (·.block)
theorem yer (ao:Option Addr) (n cap:Nat):(Value.slice ao n cap).ownBlock=blk ao:=by cases ao<;>rfl
structure Elem (P:Program) (t e:TypeId) (size bytes:Nat):Prop where
 ut:P.underlying t=some (.slice e)
 ex:∃i z,P.info? e=some i/\i.zero=some z/\i.size=size/\i.bytes=bytes/\z.cells.size=size
 pos:0<size
def Src (w:World) (bo:Option Addr) (m c:Nat) (news:List Value):Prop:=
 (bo=none/\m=0/\c=0)∨∃ad,bo=some ad/\∀j u,news[j]? =some u->w.cell? (ad.add j)=some u
section
variable {P:Program} {w:World} {t ty e:TypeId} {size bytes base n cap m c:Nat} {ao bo:Option Addr} {xs news:List Value}
theorem yqt (E:Elem P t e size bytes) (hown:w.ownsRow base e size (.slice ao n cap) n xs) (hl:news.length=m*size) (hsrc:Src w bo m c news) (h1:∀u∈news,u.oneCell'=true)
  (h63:n+m<=maxLen) (hbytes:(n+m)*bytes<=140737488355328) (hbase:base<=w.heap.size):
  ∃ao' cap' w',(Builtin.append_ #[t,t] ty #[.slice ao n cap, .slice bo m c]).run P w= .ok (.slice ao' (n+m) cap') w'∧
   w'.ownsRow base e size (.slice ao' (n+m) cap') (n+m) (xs++news)/\w.grownBy w' (blk ao)/\(blk ao'=blk ao∨blk ao'=some w.heap.size)/\(ao'=none↔ao=none/\m=0):=by
 obtain ⟨i,z,hi,hz,hs,hby,hzs⟩:=E.ex
 rcases hsrc with ⟨rfl,rfl,rfl⟩|⟨ad,rfl,hcell⟩
 ·have hn:news= []:=List.eq_nil_of_length_eq_zero (by simpa using hl)
  subst hn
  have hrun:=run_append_owned_none (P:=P) w base t ty e i size E.ut hi (.slice ao n cap) n xs hown
  refine ⟨ao,cap,w,hrun,by simpa using hown,World.grownBy.refl _ _, .inl rfl,by simp⟩
 ·obtain ⟨v',w',hr,h2,h3,h4,h5⟩:=run_append_own_at (P:=P) w base t ty e i z size bytes E.ut hi hz hs hby hzs E.pos _ n xs hown ad m c news hl hcell h1 h63 hbytes hbase
  have hv:∃ao' cap',v'= .slice ao' (n+m) cap':=by
   rcases h2.2 with ⟨h0,hn⟩|⟨g,cap',cur,h0,_⟩
   ·exact ⟨none,0,by rw[h0,hn]⟩
   ·exact ⟨_,_,h0⟩
  obtain ⟨ao',cap',rfl⟩:=hv
  rw[yer] at h3 h5
  rw[yer] at h5
  refine ⟨ao',cap',w',hr,h2,h3,h5,?_⟩
  have nilE:∀ {ao:Option Addr} {n cap:Nat} {w:World} {xs:List Value},w.ownsRow base e size (.slice ao n cap) n xs→(ao=none↔(Value.slice ao n cap)= .slice none 0 0):=by
   intro ao n cap w xs h
   constructor
   ·intro h0
    subst h0
    rcases h.2 with ⟨h0,_⟩|⟨g,cap',cur,h0,_⟩
    ·exact h0
    ·cases h0
   ·intro h0;injection h0
  rw[nilE h2,h4,<-nilE hown]
end
section
variable {P:Program} {ops:Array Oper} {Q:Exit->Act->World->Prop} {i:Nat} {o:Oper} {a:Act} {w w':World} {K:Act->World->Prop}
end
structure Mix where
 anc:List (List Nat)
 vals:List (Option Value)
 cons:List (List Nat):= []
 own:List Nat:= []
 F:Nat->Value->World->Prop:=fun _ _ _=>True
 iv:Nat->Value:=fun _=>undef
 m:Nat:=0
 B:Nat
section
variable {P:Program} {ops:Array Oper} {Q:Exit->Act->World->Prop}
end
section
variable {P:Program} {ops:Array Oper} {Q:Exit->Act->World->Prop} {x:Mix} {a0:Act} {w0:World} {i:Nat} {a:Act} {w:World} {val:Nat->Value} {K:Act->World->Prop} {o:Oper}
end
end Go.RG
end
noncomputable section
namespace Go.AV
open Go.RowKit Go.RG
structure HkM where
 k:Nat
 n:Nat
 xs:List Operand
 d:Nat
 cl:List Nat
def hkP (_:Program) (_:List Oper):Option HkM:=none
end Go.AV
end
noncomputable section
namespace Go.AV
open Go.RowKit Go.RG
inductive Key where
 |l (d c:Nat)
 |h (o:Nat)
 deriving DecidableEq
inductive LS where
 |ready
 |busy
 |ret
 |exit (id:Nat)
inductive AV where
 |bl (b:Bool)
 |it (k:IntKind) (n:Int)
 |st (s:List UInt8)
 |agg (cs:List AV)
 |tup (vs:List AV)
 |sl (z:Bool) (n:Nat) (xs:List AV)
 |gs (k:Key) (n:Nat)
 |nptr
 |pt (k:Key) (off:Nat)
 |ep (xs:List AV) (off:Nat)
 |fn (f:Fn) (first cap:List AV)
 |nfn
 |un
 |yld (o:Nat)
 |rcd (tm:Array Value) (ps:Array Tmp) (asg body:Code) (j:LS)
structure Blk where
 e:TypeId
 sz:Nat
 cells:List AV
def AV.cells:AV→List AV
 | .agg cs=>cs
 |v=> [v]
def AV.one:AV→Bool
 | .agg _| .tup _| .un| .rcd .. =>false
 |_=>true
def cst1:Value→Option AV
 | .bool b=>some (.bl b)
 | .int k n=>some (.it k n)
 | .string s=>some (.st s.data.toList)
 | .slice none 0 0=>some (.sl true 0 [])
 | .pointer none=>some .nptr
 | .nilFunc=>some .nfn
 |_=>none
def cstL:List Value→Option (List AV)
 | []=>some []
 | v::r=>match cst1 v,cstL r with
   |some u,some us=>some (u::us)
   |_,_=>none
def cst:Value→Option AV
 | .agg cs=>(cstL cs.toList).map AV.agg
 |v=>cst1 v
inductive AOpd where
 |t (n:Nat)
 |c (v:AV)
inductive AOp where
 |mv (x:AOpd)
 |pick (c a b:AOpd)
 |box (e sz:Nat) (x:AOpd)
 |bld (zero:List AV) (parts:List (Nat×Nat×AOpd))
 |bsl (e sz len:Nat) (zero:List AV) (parts:List (Nat×Nat×AOpd))
 |ld (g:Bool) (sz:Nat) (a:AOpd)
 |sto (sz:Nat) (a v:AOpd)
 |nck (x:AOpd)
 |bin (op:BinOp) (x y:AOpd)
 |eq (neg:Bool) (kind:Nat) (x y:AOpd)
 |eqs (neg:Bool) (kinds:List Nat) (x y:AOpd)
 |un (op:UnOp) (x:AOpd)
 |cvi (k:IntKind) (x:AOpd)
 |cvs (x:AOpd)
 |b2s (x:AOpd)
 |s2b (e:Nat) (x:AOpd)
 |mks (e sz bytes:Nat) (zero:List AV) (len cap:AOpd)
 |apz (e sz bytes:Nat) (zero:List AV) (s len:AOpd)
 |cpn (x:AOpd)
 |apf (e sz bytes:Nat) (s x:AOpd)
 |bsf (e sz len:Nat) (zero:List AV) (parts:List (Nat×Nat×AOpd))
 |sls (x:AOpd) (lo hi:Option AOpd)
 |sll (sz:Nat) (x:AOpd) (lo hi:Option AOpd)
 |fad (off:Nat) (x:AOpd)
 |fld (g:Bool) (off sz:Nat) (x:AOpd)
 |iad (sz:Nat) (x i:AOpd)
 |iada (len sz:Nat) (x i:AOpd)
 |idxs (x i:AOpd)
 |idxa (g:Bool) (len sz:Nat) (x i:AOpd)
 |ext (x:AOpd) (i:Nat)
 |lens (x:AOpd)
 |len (x:AOpd)
 |mnx (mx:Bool) (xs:List AOpd)
 |app (e sz bytes:Nat) (s x:AOpd)
 |apps (e:Nat) (s x:AOpd)
 |mkf (fn:Fn) (first cap:List AOpd)
 |call (f:FuncId) (args:List AOpd)
 |calv (x:AOpd) (args:List AOpd)
 |hk (k n:Nat) (xs:List AOpd) (cl:List Nat)
structure AO where
 dst:Option Nat
 guard:Option (Nat×Bool)
 op:AOp
inductive ycl where
 |skip
 |ops (l:List AO)
 |drw (l:List (AO×List Nat))
 |seq (a b:ycl)
 |cond (c:AOpd) (t e:ycl)
 |block (id:Nat) (b:ycl)
 |loop (b:ycl)
 |exit (id:Nat)
 |ret
 |rng (g:AOpd) (ps:Array Tmp) (asg body:ycl)
def yn1:List (String×List AV):= [("internal/strconv.uint64pow10",[1,10,100,1000,10000,100000,1000000,10000000,100000000,1000000000,10000000000,100000000000,1000000000000,10000000000000,100000000000000,1000000000000000,10000000000000000,100000000000000000,1000000000000000000,10000000000000000000].map (AV.it .u64)),
 ("regrater/expr.operators",[[],[61],[60,62],[60],[60,61],[62],[62,61],[43],[45],[42],[47],[37],[124,124],[65,78,68],[79,82]].map (AV.st)),
 ("regrater/expr.aggregates",[[],[67,79,85,78,84],[83,85,77],[77,73,78],[77,65,88]].map (AV.st)),
 ("regrater/lex.signs",[[60,62],[60,61],[62,61],[124,124],[40],[41],[44],[46],[42],[43],[45],[47],[37],[61],[60],[62]].map (AV.st)),
 ("regrater/stmt.kinds",[[],[66,79,79,76],[73,78,84],[84,69,88,84]].map (AV.st))]
def yrZ:List String:= ["strconv.ErrRange"]
def gOfL (P:Program) (g:Nat):List (String×List AV)→Option (List AV)
 | []=>none
 | p ::r=>match P.globalNamed p.1 with
   | some h=>match Nat.beq h g with
     |true=>some p.2
     |false=>gOfL P g r
   |none=>gOfL P g r
def avV:AV→Value
 | .it k n=> .int k n
 | .st l=> .string ⟨l.toArray⟩
 | .bl b=> .bool b
 |_=>undef
def avF:AV→Bool
 | .it _ _=>true
 | .st _=>true
 | .bl _=>true
 |_=>false
def yaf (P:Program) (N:Nat):Operand→Option AOpd
 | .tmp t=>if t<N then some (.t t) else none
 | .const v=>(cst v).map .c
 | .func f=>some (.c (.fn (.func f) [] []))
 | .global g=>match gOfL P g yn1 with
   | some cs=>match cs.all avF with
     |true=>some (.c (.ep cs 0))
     |false=>none
   |none=>none
def trL (P:Program) (N:Nat):List Operand→Option (List AOpd)
 | []=>some []
 | x::r=>match yaf P N x,trL P N r with
   |some u,some us=>some (u::us)
   |_,_=>none
def trO (P:Program) (N:Nat):Option Operand→Option (Option AOpd)
 |none=>some none
 |some x=>(yaf P N x).map some
def ye7 (P:Program) (t:TypeId):Option (Bool×Nat):=
 match P.underlying t,P.info? t with
 |some (.struct _),some i|some (.array _ _),some i=>some (true,i.size)
 |some _,some i=>some (false,i.size)
 |_,_=>none
def ycX (P:Program) (t:TypeId):Option (List AV):=((P.info? t).bind (·.zero)).bind fun z=>cstL z.cells.toList
def ycI (P:Program) (N:Nat) (place:Nat→Option (Nat×Nat)):List (Nat×Operand)→Option (List (Nat×Nat×AOpd))
 | []=>some []
 | (i,x)::r=>match place i,yaf P N x,ycI P N place r with
   |some (off,sz),some u,some us=>some ((off,sz,u)::us)
   |_,_,_=>none
def szOf (P:Program) (t:TypeId):Option Nat:=(P.info? t).map (·.size)
def yeI (P:Program) (fs:Array Field):Option (List (Nat×Nat)):=fs.toList.mapM fun f=>(P.info? f.type).map fun i=>(f.offset,i.size)
def ycQ (P:Program) (t:TypeId):Option Nat:=match P.underlying t with
 |some .bool=>some 0
 |some (.int _)=>some 1
 |some .string=>some 2
 |some (.pointer _)=>some 3
 |some (.slice _)=>some 4
 |_=>none
def ymt (P:Program):List Field→Nat→Option (List Nat)
 | [],_=>some []
 | f::r,i=>match ycQ P f.type,ymt P r (i+1) with
   |some k,some ks=>if k<=2/\f.offset=i/\f.name≠ "_" then some (k::ks) else none
   |_,_=>none
def ynw (P:Program) (t:TypeId):Option (List Nat):=match P.underlying t with
 |some (.struct fs)=>if !P.stoodInHeld t&& !P.eqGuardType P.depth t then ymt P fs.toList 0 else none
 |_=>none
def trOp (P:Program) (N:Nat) (o:Oper):Option AOp:=
 match o.op with
 | .move x| .assign x=>(yaf P N x).map .mv
 | .pick c a b=>match yaf P N c,yaf P N a,yaf P N b with
   |some c,some a,some b=>some (.pick c a b)
   |_,_,_=>none
 | .alloc e=>match ye7 P e,ycX P e with
   |some (true,sz),some z=>some (.box e sz (.c (.agg z)))
   |some (false,1),some [z]=>some (.box e 1 (.c z))
   |_,_=>none
 | .box e x=>match szOf P e,yaf P N x with
   |some sz,some x=>some (.box e sz x)
   |_,_=>none
 | .build t parts=>match P.underlying t,ycX P t with
   | some (.struct fs),some z=>match yeI P fs with
     |some pl=>(ycI P N (pl.toArray[·]?) parts.toList).map (.bld z)
     |none=>none
   | some (.array _ elem),some z=>match szOf P elem with
     |some sz=>(ycI P N (fun i=>some (i*sz,sz)) parts.toList).map (.bld z)
     |none=>none
   |_,_=>none
 | .buildSlice t len parts=>match P.underlying t with
   | some (.slice e)=>match szOf P e,ycX P e with
     |some sz,some z=>(ycI P N (fun i=>some (i*sz,sz)) parts.toList).map (.bsl e sz len z)
     |_,_=>none
   |_=>none
 | .load t a=>match ye7 P t,yaf P N a with
   |some (g,sz),some a=>if g||sz==1 then some (.ld g sz a) else none
   |_,_=>none
 | .store t a v=>match szOf P t,yaf P N a,yaf P N v with
   |some sz,some a,some v=>some (.sto sz a v)
   |_,_,_=>none
 | .nilCheck x=>(yaf P N x).map .nck
 | .binOp op t x y _=>match yaf P N x,yaf P N y with
   | some u,some v=>
     if op== .eql||op== .neq then
      match ycQ P t with
      |some k=>some (.eq (op== .neq) k u v)
      |none=>(ynw P t).map fun ks=> .eqs (op== .neq) ks u v
     else some (.bin op u v)
   |_,_=>none
 | .unOp op _ x=>(yaf P N x).map (.un op)
 | .convert src dst x=>match P.underlying src,P.underlying dst,yaf P N x with
   |some (.int _),some (.int k),some x=>some (.cvi k x)
   |some .string,some .string,some x=>some (.cvs x)
   |some .string,some (.slice e),some x=>if (P.underlying e) matches some (.int .u8) then some (.s2b e x) else none
   |some (.slice e),some .string,some x=>if (P.underlying e) matches some (.int .u8) then some (.b2s x) else none
   |_,_,_=>none
 | .makeSlice t l c=>match P.underlying t with
   | some (.slice e)=>match P.info? e,ycX P e,yaf P N l,yaf P N c with
     |some i,some z,some l,some c=>some (.mks e i.size i.bytes z l c)
     |_,_,_,_=>none
   |_=>none
 | .slice t x lo hi none=>match P.underlying t,yaf P N x,trO P N lo,trO P N hi with
   |some .string,some x,some lo,some hi=>some (.sls x lo hi)
   |some (.slice e),some x,some lo,some hi=>(szOf P e).map fun sz=> .sll sz x lo hi
   |_,_,_,_=>none
 | .fieldAddr s x f=>match P.underlying s,yaf P N x with
   | some (.struct fs),some x=>match fs[f]? with
     | some fd=>match szOf P fd.type with
       |some (_+1)=>some (.fad fd.offset x)
       |_=>none
     |none=>none
   |_,_=>none
 | .field t x f=>match P.underlying t,yaf P N x with
   | some (.struct fs),some x=>match fs[f]? with
     |some fd=>(ye7 P fd.type).map fun (g,sz)=> .fld g fd.offset sz x
     |none=>none
   |_,_=>none
 | .indexAddr t x i=>match P.underlying t,yaf P N x,yaf P N i with
   |some (.slice e),some x,some i=>(szOf P e).map fun sz=> .iad sz x i
   |some (.array len e),some x,some i=>(szOf P e).map fun sz=> .iada len sz x i
   |_,_,_=>none
 | .index t x i=>match P.underlying t,yaf P N x,yaf P N i with
   |some .string,some x,some i=>some (.idxs x i)
   |some (.array len e),some x,some i=>(ye7 P e).map fun (g,sz)=> .idxa g len sz x i
   |_,_,_=>none
 | .extract x i=>(yaf P N x).map fun x=> .ext x i
 | .makeFunc fn first cap=>match trL P N first.toList,trL P N cap.toList with
   |some first,some cap=>some (.mkf fn first cap)
   |_,_=>none
 | .call c =>match c.callee with
   | .builtin .len=>match c.args.toList,c.argTypes[0]? with
     | [x],some t=>match P.underlying t with
       |some .string=>(yaf P N x).map .lens
       |some (.slice _)=>(yaf P N x).map .len
       |_=>none
     |_,_=>none
   | .builtin .append=>match c.args.toList,c.argTypes.toList with
     | [s, x],[t,u]=>match P.underlying t,P.underlying u with
       | some (.slice e),some (.slice _)=>match P.info? e,yaf P N s,yaf P N x with
         |some i,some s,some x=>if (i.zero.map (·.cells.size))=some i.size then some (.app e i.size i.bytes s x) else none
         |_,_,_=>none
       | some (.slice e),some .string=>match P.info? e,yaf P N s,yaf P N x with
         | some i,some s,some x=>match i.zero with
           |some (.int .u8 0)=>if i.size=1/\i.bytes=1 then some (.apps e s x) else none
           |_=>none
         |_,_,_=>none
       | some (.slice e),some (.int _)=>match P.info? e,ycX P e,yaf P N s,yaf P N x with
         |some i,some z,some s,some x=>some (.apz e i.size i.bytes z s x)
         |_,_,_,_=>none
       |_,_=>none
     |_,_=>none
   | .builtin .cap=>match c.args.toList,c.argTypes[0]? with
     | [x],some t=>match P.underlying t with
       |some (.slice _)=>(yaf P N x).map .cpn
       |_=>none
     |_,_=>none
   | .builtin .min=>(trL P N c.args.toList).map (.mnx false)
   | .builtin .max=>(trL P N c.args.toList).map (.mnx true)
   | .value (.func f)=>(trL P N c.args.toList).map (.call f)
   | .value x=>match yaf P N x,trL P N c.args.toList with
     |some x,some l=>some (.calv x l)
     |_,_=>none
   |_=>none
 | .panic _| .makeInterface _ _=>some (.s2b 0 (.c (.bl false)))
 |_=>none
def yjh (N:Nat):Option Nat→Bool
 |none=>true
 |some d=>decide (d<N)
def ycE (ops:Array Oper) (N:Nat):Option (Nat×Bool)→Option (Option (Nat×Bool))
 |none=>some none
 | some (j,b)=>match (ops[j]?).bind (·.dst) with
   |some d=>if d<N then some (some (d,b)) else none
   |none=>none
def pubS (P:Program) (ops:Array Oper):Option Nat→Bool
 |none=>false
 | some t=>ops.any fun p=>match p.op with
   | .store _ (.tmp a) (.tmp v)=>Nat.beq v t&&ops.any fun q=>match q.dst,q.op with
     | some b, .indexAddr ty _ _=>Nat.beq a b&&match P.underlying ty with
       |some (.slice _)=>true
       |_=>false
     |_,_=>false
   | .buildSlice _ _ parts=>parts.any fun r=>match r.2 with
     | .tmp v=>Nat.beq v t
     |_=>false
   |_=>false
def ytO:AOp→AOp
 | .app e sz b x y=> .apf e sz b x y
 | .bsl e sz n z ps=> .bsf e sz n z ps
 |u=>u
def pubO (b:Bool) (u:AOp):AOp:=match b with
 |true=>ytO u
 |false=>u
def isPb:AOp→Bool
 | .apf .. | .bsf .. =>true
 |_=>false
def TrO (P:Program) (N:Nat) (o:Oper) (v:AOp):Prop:=∃u b,trOp P N o=some u/\v=pubO b u
theorem TrO.plain {P:Program} {N:Nat} {o:Oper} {v:AOp} (h:TrO P N o v) (hv:isPb v=false):trOp P N o=some v:=by
 obtain ⟨u,b,h0,rfl⟩:=h
 cases b with
 |false=>exact h0
 |true=>cases u<;>first|exact h0|cases hv
def ynr (P:Program) (N:Nat) (ops:Array Oper):List Oper→Option (List AO)
 | []=>some []
 | o::r=>match trOp P N o,ycE ops N o.guard,yjh N o.dst,ynr P N ops r with
   |some u,some g,true,some us=>some (⟨o.dst,g,pubO (pubS P ops o.dst) u⟩::us)
   |_,_,_,_=>none
def hkOk (x:Oper):Bool:=x.guard.isNone&&match x.op with
 | .defer _=>false
 |_=>true
def hkT (P:Program) (N:Nat) (l:List Oper):Option (Nat×AO):=match hkP P l with
 | some m=>match trL P N m.xs,decide (m.d<N)&&m.cl.all (fun c=>decide (c<N))&&Nat.ble (m.n+1) l.length&&(l.take (m.n+1)).all hkOk with
   |some xs,true=>some (m.n,⟨some m.d,none, .hk m.k m.n xs m.cl⟩)
   |_,_=>none
 |none=>none
def isHk:AOp→Bool
 | .hk .. =>true
 |_=>false
def yq3 (P:Program) (N:Nat) (o:Oper):Option AOp:=match trOp P N o with
 | some u=>match isHk u with
   |true=>none
   |false=>some u
 |none=>none
def ybT (P:Program) (N:Nat) (ops:Array Oper):Nat→List Oper→Option (List AO)
 |0,[]=>some []
 |_+1,[]=>none
 |s+1,_::r=>ybT P N ops s r
 | 0,o::r=>match hkT P N (o::r) with
   |some (n,u)=>(ybT P N ops n r).map (u:: ·)
   | none=>match yq3 P N o,ycE ops N o.guard,yjh N o.dst,ybT P N ops 0 r with
     |some u,some g,true,some us=>some (⟨o.dst,g,pubO (pubS P ops o.dst) u⟩::us)
     |_,_,_,_=>none
theorem yn2 {P:Program} {N:Nat} {o:Oper} {u:AOp} (h:yq3 P N o=some u):trOp P N o=some u∧isHk u=false:=by
 unfold yq3 at h
 split at h
 ·rename_i v hv
  split at h
  ·cases h
  ·rename_i hi;cases h;exact ⟨hv,hi⟩
 ·cases h
theorem yga {P:Program} {N:Nat} {ops:Array Oper}:∀(n:Nat) (l:List Oper),n≤l.length→ybT P N ops n l=ybT P N ops 0 (l.drop n)
 |0,_,_=>rfl
 |n+1,[],h=>absurd h (Nat.not_succ_le_zero n)
 | n+1,x::l,h=>by
   show ybT P N ops n l=_
   rw[yga n l (Nat.le_of_succ_le_succ h)];rfl
theorem ydd {P:Program} {N:Nat} {ops:Array Oper} {x:Oper} {suf:List Oper} {o:AO} {us:List AO} (h:ybT P N ops 0 (x::suf)=some (o::us)):
  (∃u g,trOp P N x=some u/\isHk u=false/\ycE ops N x.guard=some g/\yjh N x.dst=true/\ybT P N ops 0 suf=some us/\o=⟨x.dst,g,pubO (pubS P ops x.dst) u⟩)∨
  ∃m xs,hkP P (x::suf)=some m/\trL P N m.xs=some xs/\m.d<N/\(∀c∈m.cl,c<N)/\m.n<=suf.length/\(∀y∈(x::suf).take (m.n+1),hkOk y=true)/\o=⟨some m.d,none, .hk m.k m.n xs m.cl⟩/\ybT P N ops 0 (suf.drop m.n)=some us:=by
 simp only[ybT] at h
 split at h
 ·rename_i n u hk
  obtain ⟨us',h1,h2⟩:=Option.map_eq_some_iff.1 h
  simp only[List.cons.injEq] at h2
  obtain ⟨rfl,rfl⟩:=h2
  unfold hkT at hk
  split at hk
  ·rename_i m hm
   split at hk
   ·rename_i xs hxs hb
    simp only[Option.some.injEq,Prod.mk.injEq] at hk
    obtain ⟨rfl,rfl⟩:=hk
    simp only[Bool.and_eq_true,decide_eq_true_eq,List.all_eq_true] at hb
    obtain ⟨⟨⟨b1,b2⟩,b3⟩,b4⟩:=hb
    have b3:m.n<=suf.length:=by have:=Nat.le_of_ble_eq_true b3;simpa using this
    exact .inr ⟨m,xs,hm,hxs,b1,b2,b3,b4,rfl,by rw[<-yga _ _ b3];exact h1⟩
   ·cases hk
  ·cases hk
 ·split at h
  ·rename_i u g us' h1 h2 h3 h4
   simp only[Option.some.injEq,List.cons.injEq] at h
   obtain ⟨rfl,rfl⟩:=h
   obtain ⟨a,b⟩:=yn2 h1
   exact .inl ⟨u,g,a,b,h2,h3,h4,rfl⟩
  ·cases h
theorem yli {P:Program} {N:Nat} {ops:Array Oper} {x:Oper} {suf:List Oper}:ybT P N ops 0 (x::suf)≠some []:=by
 intro h
 simp only[ybT] at h
 split at h
 ·obtain ⟨us',h1,h2⟩:=Option.map_eq_some_iff.1 h
  cases h2
 ·split at h<;>cases h
def opds:AOp→List AOpd
 | .mv x| .nck x| .un _ x| .cvi _ x| .cvs x| .b2s x| .s2b _ x| .fad _ x| .fld _ _ _ x| .ext x _| .lens x| .len x| .cpn x| .ld _ _ x| .box _ _ x=> [x]
 | .pick c a b=> [c,a,b]
 | .bld _ ps=>ps.map fun p=>p.2.2
 | .bsl _ _ _ _ ps| .bsf _ _ _ _ ps=>ps.map fun p=>p.2.2
 | .sto _ a v=> [a,v]
 | .bin _ x y| .eq _ _ x y| .eqs _ _ x y| .iad _ x y| .iada _ _ x y| .idxs x y| .idxa _ _ _ x y| .app _ _ _ x y| .apf _ _ _ x y| .apps _ x y=> [x,y]
 | .mks _ _ _ _ l c| .apz _ _ _ _ l c=> [l,c]
 | .sls x lo hi| .sll _ x lo hi=>x::(lo.toList++hi.toList)
 | .mnx _ xs=>xs
 | .mkf _ f c=>f++c
 | .call _ args=>args
 | .calv x args=>x::args
 | .hk _ _ xs _=>xs
def yo8:AOpd→List Nat
 | .t n=> [n]
 | .c _=> []
def ygt (o:AO):List Nat:=(match o.guard with|some (g,_)=> [g]|none=> [])++(opds o.op).flatMap yo8
def yjX:AOp→Bool
 | .box .. | .bsl .. | .mks .. | .apz .. | .apf .. | .bsf .. | .app .. | .apps .. =>true
 |_=>false
def mayW:AOp→Bool
 | .sto .. | .call .. | .calv .. | .sll .. =>true
 |u=>yjX u
def insN (l:List Nat) (x:Nat):List Nat:=if l.contains x then l else x::l
def ancL:List Oper→List (List Nat)→List (List Nat)
 | [],acc=>acc
 |o::r,acc=>ancL r (acc++ [(o.after.toList.filter (Region.binds .any)).foldl (fun l e=>((acc[e.on]?).getD []).foldl insN (insN l e.on)) []])
def yb6 (anc:List (List Nat)) (i:Nat):List Nat:=(anc[i]?).getD []
def dNe:Option Nat→Option Nat→Bool
 |some a,some b=>a !=b
 |_,_=>true
def dNr:Option Nat→List Nat→Bool
 |some a,l=> !l.contains a
 |none,_=>true
def ypv (anc fre:List (List Nat)) (i j:Nat) (o p:AO):Bool:=
 (yb6 anc i).contains j||(dNe o.dst p.dst&&dNr p.dst (ygt o)&&dNr o.dst (ygt p)&&((yb6 fre i).contains j||(!mayW o.op&& !mayW p.op)))
def ynR (us:List AO) (anc fre:List (List Nat)):Bool:=
 (List.range us.length).all fun i=>(List.range i).all fun j=>match us[i]?,us[j]? with
   |some o,some p=>ypv anc fre i j o p
   |_,_=>false
def ylY (ops:Array Oper) (anc:List (List Nat)):Bool:=
 (List.range ops.size).all fun i=>(yb6 anc i).all fun x=>decide (x<i)&&((ops[i]?).map fun o=>o.after.toList.any fun e=>Region.binds .any e&&(e.on==x||(yb6 anc e.on).contains x)).getD false
def freL (us:List AO) (anc:List (List Nat)):List (List Nat):=
 (List.range us.length).map fun i=>(List.range i).filter fun j=> !(yb6 anc i).contains j&&match us[i]?,us[j]? with
   |some o,some p=>mayW o.op||mayW p.op
   |_,_=>true
def trD (P:Program) (N:Nat) (ops:Array Oper):Option (List (AO×List Nat)):=
 match ynr P N ops ops.toList with
 | some us=>
   let anc:=ancL ops.toList []
   let fre:=freL us anc
   if P.follows .mixedOrders&&ysT ops&&ylY ops anc&&ynR us anc fre&&us.all fun o=> !yjX o.op||o.dst.isSome then some (us.zip fre) else none
 |none=>none
def rdOp:Op→Bool
 | .move _| .assign _| .load _ _| .field _ _ _| .extract _ _| .fieldAddr _ _ _| .nilCheck _| .build _ _=>true
 |_=>false
def ordB (P:Program) (ops:Array Oper):Bool:=
 let anc:=ancL ops.toList []
 P.follows .mixedOrders&&ysT ops&&ylY ops anc&&(List.range ops.size).all fun i=>(List.range i).all fun j=>(yb6 anc i).contains j||match ops[i]?,ops[j]? with
  |some o,some p=>rdOp o.op&&rdOp p.op&&p.apart ops o
  |_,_=>false
def trC (P:Program) (N:Nat):Code→Option ycl
 | .skip=>some .skip
 | .region _ ops false=>(ybT P N ops 0 ops.toList).map .ops
 | .region _ ops true=>match ordB P ops with
   |true=>(ybT P N ops 0 ops.toList).map .ops
   |false=>(trD P N ops).map .drw
 | .seq a b=>match trC P N a,trC P N b with
   |some a,some b=>some (.seq a b)
   |_,_=>none
 | .cond c a b=>match yaf P N c,trC P N a,trC P N b with
   |some c,some a,some b=>some (.cond c a b)
   |_,_,_=>none
 | .block id c=>(trC P N c).map (.block id)
 | .loop c=>(trC P N c).map .loop
 | .rangeFunc g ps a b=>match yaf P N g,trC P N a,trC P N b with
   |some g,some a,some b=>if ps.all (fun p=>decide (p<N)) then some (.rng g ps a b) else none
   |_,_,_=>none
 | .exit id=>some (.exit id)
 | .ret=>some .ret
 |_=>none
structure AFn where
 N:Nat
 res:List (Nat×Option Nat)
 body:ycl
def yix (P:Program) (N:Nat):List ResultVar→Option (List (Nat×Option Nat))
 | []=>some []
 | .tmp t::r=>if t<N then (yix P N r).map ((t,none):: ·) else none
 | .cell t ty::r=>match ye7 P ty,yix P N r with
   |some (true,sz+1),some us=>if t<N then some ((t,some (sz+1))::us) else none
   |some (false,1),some us=>if t<N then some ((t,some 0)::us) else none
   |_,_=>none
def fnAt (P:Program) (f:FuncId):Option Func:=match Nat.ble f 999999 with
 |true=>P.funcs[f]?
 |false=>none
theorem yjw {P:Program} {f:FuncId} {fn:Func} (h:fnAt P f=some fn):f<1000000∧P.funcs[f]? =some fn:=by
 unfold fnAt at h
 split at h
 ·rename_i q;exact ⟨Nat.lt_succ_of_le (Nat.le_of_ble_eq_true q),h⟩
 ·cases h
def trF (P:Program) (f:FuncId):Option AFn:=
 match fnAt P f with
 | some fn=>match (if fn.name== "runtime.NumGoroutine" then none else fn.body) with
   | some b=>match yix P fn.ntmps fn.results.toList,trC P fn.ntmps b with
     |some r,some c=>some ⟨fn.ntmps,r,c⟩
     |_,_=>none
   |none=>none
 |none=>none
def cF (P:Program) (f:FuncId):AFn:=(trF P f).getD ⟨0,[], .skip⟩
theorem tF {P:Program} {f:FuncId} (h:(trF P f).isSome=true):trF P f=some (cF P f):=by
 obtain ⟨c,e⟩:=Option.isSome_iff_exists.1 h
 unfold cF;rw[e];rfl
end Go.AV
end
noncomputable section
namespace Go.AV
open Go.RowKit Go.RG Go.Proofs
mutual
def dwk:AV→AV
 | .sl _ n xs=> .sl false n (dwks xs)
 | .agg cs=> .agg (dwks cs)
 | .tup cs=> .tup (dwks cs)
 | .fn f a c=> .fn f (dwks a) (dwks c)
 | .ep xs off=> .ep (dwks xs) off
 |u=>u
def dwks:List AV→List AV
 | []=> []
 |u::r=>dwk u::dwks r
end
theorem ybY:∀(l:List AV),dwks l=l.map dwk
 | []=>rfl
 |x::l=>by simp only[dwks,List.map_cons,ybY l]
theorem ycs (l:List AV) (j:Nat) (u:AV) (h:(dwks l)[j]? =some u):∃v,l[j]? =some v∧u=dwk v:=by
 rw[ybY,List.getElem?_map] at h
 obtain ⟨v,h1,h2⟩:=Option.map_eq_some_iff.1 h
 exact ⟨v,h1,h2.symm⟩
theorem yaL (l:List AV):(dwks l).length=l.length:=by rw[ybY];simp
def opq (b:Blk):Bool:=b.sz==0&&decide (1000000<=b.e)
def isRc:List AV→Bool
 | []=>true
 | [.rcd ..]=>true
 |_=>false
def Blk.ok (b:Blk):Prop:=b.sz≠0∨(opq b=true/\isRc b.cells=false)
def ybo (v:Value):Option (DataW Value×List MemPlace):=some (.held v,[])
def gD {H α:Type} (f:α->DataW H) (L:List (List UInt8×α)):DataW H:= .map (L.map fun p=>(.string p.1,f p.2))
abbrev MZ (α:Type):=List (List UInt8×α×Value)
def mzD {α:Type} (Z:MZ α):DataW Value:=gD (fun z=> .held z.2) Z
def mzT {α:Type} (Z:MZ α):List (List UInt8×α):=Z.map fun z=>(z.1,z.2.1)
def ybp:Value→List Nat
 | .slice (some a) _ _=> [a.block]
 |_=> []
structure MapW {α:Type} (P:Program) (w:World) (k:TypeId) (Own:World→List UInt8→α→Value→Prop) (b n:Nat) (Z:MZ α):Prop where
 own:w.ownsMap P k ybo b n (mzD Z)
 el:∀z∈Z,Own w z.1 z.2.1 z.2.2
abbrev Cl:=List UInt8×Int×Bool
abbrev CTb:=List (List UInt8×List Cl×Int)
abbrev CVw:=List (List UInt8×List (List UInt8))
def clA (c:Cl):List AV:= [.st c.1, .it .i64 c.2.1, .bl c.2.2]
def ctbA (T:CTb):AV:= .sl false T.length (T.flatMap fun t=> [.st t.1, .sl false t.2.1.length (t.2.1.flatMap clA), .it .i64 t.2.2])
def cvwA (V:CVw):AV:= .sl false V.length (V.flatMap fun v=> [.st v.1, .sl false v.2.length (v.2.flatMap fun s=> [.st s])])
def bStr (l:List UInt8):Value:= .string ⟨l.toArray⟩
def clV (c:Cl):List Value:= [bStr c.1, .int .i64 c.2.1, .bool c.2.2]
def yk9 (w:World) (n:List UInt8) (t:List Cl×Int) (v:Value):Prop:=∃s,v= .agg #[bStr n,s, .int .i64 t.2]/\w.ownsRow 0 54 3 s t.1.length (t.1.flatMap clV)
def ycj:Value→List Nat
 | .agg vs=>(vs[1]?.map ybp).getD []
 |_=> []
def cvwV (w:World) (_:List UInt8) (u:List (List UInt8)) (v:Value):Prop:=w.ownsRow 0 9 1 v u.length (u.map bStr)
structure ysg (T:CTb) (V:CVw):Prop where
 tb:T.Pairwise fun a b=>Op.bytesLess a.1 b.1=true
 vw:V.Pairwise fun a b=>Op.bytesLess a.1 b.1=true
 tn:∀t∈T,t.1.length<=9223372036854775807/\t.2.1.length<=1000000/\t.2.1≠ []
 vn:∀v∈V,v.1.length<=9223372036854775807/\v.2.length<=1000000
 ln:T.length<=8/\V.length<=8
def catB (g tb vb:Nat) (ZT:MZ (List Cl×Int)) (ZV:MZ (List (List UInt8))):List Nat:=g::tb::vb::((ZT.flatMap fun z=>ycj z.2.2)++ZV.flatMap fun z=>ybp z.2.2)
structure CatP (w:World) (g tb vb nt nv:Nat) (ZT:MZ (List Cl×Int)) (ZV:MZ (List (List UInt8))):Prop where
 hd:w.heap[g]? =some (.cells #[.map (some tb), .map (some vb)] 68 (0,0))
 tm:MapW Try.prog w 9 yk9 tb nt ZT
 vm:MapW Try.prog w 9 cvwV vb nv ZV
 nd:(catB g tb vb ZT ZV).Nodup
structure CatR (w:World) (g:Nat) (F:Nat→Prop) (T:CTb) (V:CVw):Prop where
 ok:ysg T V
 at':∃(tb vb nt nv:Nat) (ZT:MZ (List Cl×Int)) (ZV:MZ (List (List UInt8))),CatP w g tb vb nt nv ZT ZV/\T=mzT ZT/\V=mzT ZV/\∀x,F x↔x∈(catB g tb vb ZT ZV).tail
def opqR (e:Nat) (us:List AV) (w:World) (g:Nat) (F:Nat->Prop):Prop:=e=1000002/\∃T V,us= [ctbA T,cvwA V]/\CatR w g F T V
theorem yaS {H:Type} {P:Program} {k:TypeId} {R:Value→Option (DataW H×List MemPlace)} {w w':World} {b n:Nat} {D:DataW H} (h:w.ownsMap P k R b n D) (hb:w'.heap[b]? =w.heap[b]?):w'.ownsMap P k R b n D:=by
 obtain ⟨es,clock,h1,h2⟩:=h
 exact ⟨es,clock,hb.trans h1,h2⟩
theorem yaN {w w':World} {base t s n:Nat} {v:Value} {xs:List Value} (h:w.ownsRow base t s v n xs) (hb:∀x∈ybp v,w'.heap[x]? =w.heap[x]?):w'.ownsRow base t s v n xs:=by
 obtain ⟨h0,h⟩:=h
 refine ⟨h0,?_⟩
 rcases h with h|⟨g,cap,cur,rfl,h1,h2,h3⟩
 ·exact .inl h
 ·exact .inr ⟨g,cap,cur,rfl,h1,(hb g (by simp[ybp])).trans h2,h3⟩
theorem yc2 {w w':World} {n:List UInt8} {t:List Cl×Int} {v:Value} (h:yk9 w n t v) (hb:∀x∈ycj v,w'.heap[x]? =w.heap[x]?):yk9 w' n t v:=by
 obtain ⟨s,rfl,h2⟩:=h
 exact ⟨s,rfl,yaN h2 fun x hx=>hb x (by simpa [ycj] using hx)⟩
theorem yrY {g tb vb:Nat} {ZT:MZ (List Cl×Int)} {ZV:MZ (List (List UInt8))} {z:List UInt8×(List Cl×Int)×Value} (hz:z∈ZT) {x:Nat} (hx:x∈ycj z.2.2):x∈catB g tb vb ZT ZV:=by
 simp only[catB,List.mem_cons,List.mem_append,List.mem_flatMap]
 exact .inr (.inr (.inr (.inl ⟨z,hz,hx⟩)))
theorem ypy {g tb vb:Nat} {ZT:MZ (List Cl×Int)} {ZV:MZ (List (List UInt8))} {z:List UInt8×List (List UInt8)×Value} (hz:z∈ZV) {x:Nat} (hx:x∈ybp z.2.2):x∈catB g tb vb ZT ZV:=by
 simp only[catB,List.mem_cons,List.mem_append,List.mem_flatMap]
 exact .inr (.inr (.inr (.inr ⟨z,hz,hx⟩)))
theorem CatP.same {w w':World} {g tb vb nt nv:Nat} {ZT:MZ (List Cl×Int)} {ZV:MZ (List (List UInt8))} (h:CatP w g tb vb nt nv ZT ZV) (hs:∀x∈catB g tb vb ZT ZV,w'.heap[x]? =w.heap[x]?):CatP w' g tb vb nt nv ZT ZV:=
 ⟨(hs g (by simp[catB])).trans h.hd,⟨yaS h.tm.own (hs tb (by simp[catB])),fun z hz=>yc2 (h.tm.el z hz) fun x hx=>hs x (yrY hz hx)⟩,
   ⟨yaS h.vm.own (hs vb (by simp[catB])),fun z hz=>yaN (h.vm.el z hz) fun x hx=>hs x (ypy hz hx)⟩,h.nd⟩
theorem yeY {e:Nat} {us:List AV} {w w':World} {g:Nat} {F:Nat→Prop} (h:opqR e us w g F) (hs:∀x,x=g∨F x→w'.heap[x]? =w.heap[x]?):opqR e us w' g F:=by
 obtain ⟨he,T,V,hu,hok,tb,vb,nt,nv,ZT,ZV,h1,h2,h3,h4⟩:=h
 refine ⟨he,T,V,hu,hok,tb,vb,nt,nv,ZT,ZV,h1.same fun x hx=> ?_,h2,h3,h4⟩
 rcases List.mem_cons.1 hx with rfl|hx
 ·exact hs x (.inl rfl)
 ·exact hs x (.inr ((h4 x).2 hx))
end Go.AV
end
noncomputable section
namespace Go.AV
open Go.RowKit Go.RG
structure Gh where
 κ:Key->Option (Nat×Nat)
 dead:Key->Prop
 I:Nat->Prop
 w:World
 ft:Key->Nat->Prop
def Gh.fp (G:Gh) (k:Key) (x:Nat):Prop:=(∃r,G.κ k=some r)/\G.ft k x
mutual
def AV.noL:AV→Bool
 | .agg cs=>noLs cs
 | .tup vs=>noLs vs
 | .gs (.l _ _) _=>false
 | .pt (.l _ _) _=>false
 | .fn _ a c=>noLs a&&noLs c
 |_=>true
def noLs:List AV→Bool
 | []=>true
 |u::r=>u.noL&&noLs r
end
theorem yd3 {l:List AV}:noLs l=true↔∀u∈l,u.noL=true:=by
 induction l with
 |nil=>simp[noLs]
 |cons x l ih=>simp[noLs,ih]
theorem yhE {l k:List AV} (h:∀u∈k,u∈l) (hl:noLs l=true):noLs k=true:=yd3.2 fun u hu=>yd3.1 hl u (h u hu)
theorem yaK {l:List AV} (h:noLs l=true):∀(j:Nat) (u:AV),l[j]? =some u→u.noL=true:=by
 induction l with
 |nil=>intro j u hu;simp at hu
 | cons x l ih=>
   simp only[noLs,Bool.and_eq_true] at h
   intro j u hu
   cases j with
   |zero=>simp at hu;subst hu;exact h.1
   |succ j=>exact ih h.2 j u (by simpa using hu)
inductive VR (G:Gh):AV→Value→Prop
 |bl (b:Bool):VR G (.bl b) (.bool b)
 |it (k:IntKind) (n:Int):VR G (.it k n) (.int k n)
 |st (l:List UInt8) (s:ByteArray) (h:s.data.toList=l):VR G (.st l) (.string s)
 |agg (cs:List AV) (vs:Array Value) (hl:vs.size=cs.length) (h:∀(j:Nat) (u:AV) (x:Value),cs[j]? =some u->vs[j]? =some x->VR G u x) (h1:∀(j:Nat) (x:Value),vs[j]? =some x->x.oneCell'=true):VR G (.agg cs) (.agg vs)
 |tup (cs:List AV) (vs:Array Value) (hl:vs.size=cs.length) (h:∀(j:Nat) (u:AV) (x:Value),cs[j]? =some u->vs[j]? =some x->VR G u x):VR G (.tup cs) (.tuple vs)
 |nsl (z:Bool) (n:Nat) (xs:List AV) (hn:n=0) (hx:xs= []):VR G (.sl z n xs) (.slice none 0 0)
 |sl (n:Nat) (xs:List AV) (b off cap:Nat) (f:Nat→Value) (hI:G.I b) (hc:∀(j:Nat) (u:AV),xs[j]? =some u→G.w.cell? ⟨b,off+j,none⟩=some (f j)) (h:∀(j:Nat) (u:AV),xs[j]? =some u→VR G u (f j))
    (h1:∀(j:Nat) (u:AV),xs[j]? =some u->(f j).oneCell'=true) (hn:n<=cap) (hm:n<=maxLen) (hq:noLs xs=true):VR G (.sl false n xs) (.slice (some ⟨b,off,none⟩) n cap)
 |esl (n:Nat) (xs:List AV) (hn:n=0) (hx:xs= []) (a:Addr) (cap:Nat):VR G (.sl false n xs) (.slice (some a) 0 cap)
 |gs (k:Key) (n b cap:Nat) (hk:G.κ k=some (b,cap)):VR G (.gs k n) (.slice (some ⟨b,0,none⟩) n cap)
 |gsd (k:Key) (n:Nat) (v:Value) (hk:G.dead k) (h1:v.oneCell'=true):VR G (.gs k n) v
 |nptr:VR G .nptr (.pointer none)
 |pt (k:Key) (off b cap:Nat) (hk:G.κ k=some (b,cap)):VR G (.pt k off) (.pointer (some ⟨b,off,none⟩))
 |ptd (k:Key) (off:Nat) (v:Value) (hk:G.dead k) (h1:v.oneCell'=true):VR G (.pt k off) v
 |ep (xs:List AV) (off b base:Nat) (f:Nat→Value) (hI:G.I b) (hc:∀(j:Nat) (u:AV),xs[j]? =some u→G.w.cell? ⟨b,base+j,none⟩=some (f j)) (h:∀(j:Nat) (u:AV),xs[j]? =some u→VR G u (f j))
    (h1:∀(j:Nat) (u:AV),xs[j]? =some u->(f j).oneCell'=true) (hq:noLs xs=true):VR G (.ep xs off) (.pointer (some ⟨b,base+off,none⟩))
 |fn (f:Fn) (a c:List AV) (va vc:Array Value) (ha:va.size=a.length) (hc:vc.size=c.length) (h:∀(j:Nat) (u:AV) (x:Value),a[j]? =some u->va[j]? =some x->VR G u x) (h':∀(j:Nat) (u:AV) (x:Value),c[j]? =some u->vc[j]? =some x->VR G u x):VR G (.fn f a c) (.func f va vc)
 |nfn:VR G .nfn .nilFunc
 |yld (o l cap:Nat) (hk:G.κ (.h o)=some (l,cap)):VR G (.yld o) (.func (.yield l) #[] #[])
 |yldd (o:Nat) (v:Value) (hk:G.dead (.h o)) (h1:v.oneCell'=true):VR G (.yld o) v
 |un (v:Value):VR G .un v
structure LE (G G':Gh):Prop where
 κ:∀k r,G.κ k=some r->G'.κ k=some r∨G'.dead k
 dead:∀k,G.dead k->G'.dead k
 I:∀b,G.I b->G'.I b
 cells:∀b,G.I b->G'.w.heap[b]? =G.w.heap[b]?
 dfr:∀b ds,G.w.heap[b]? =some (.deferred ds)->G'.w.heap[b]? =G.w.heap[b]?/\(G'.I b->G.I b)
theorem LE.refl (G:Gh):LE G G:=⟨fun _ _ h=> .inl h,fun _ h=>h,fun _ h=>h,fun _ _=>rfl,fun _ _ _=>⟨rfl,fun h=>h⟩⟩
theorem LE.trans {A B C:Gh} (h:LE A B) (k:LE B C):LE A C:=
 ⟨fun q r hq=>(h.κ q r hq).elim (fun e=>k.κ q r e) (fun e=> .inr (k.dead q e)),fun q hq=>k.dead q (h.dead q hq),fun b hb=>k.I b (h.I b hb),fun b hb=>(k.cells b (h.I b hb)).trans (h.cells b hb),fun b ds hb=>⟨(k.dfr b ds ((h.dfr b ds hb).1.trans hb)).1.trans (h.dfr b ds hb).1,fun hI=>(h.dfr b ds hb).2 ((k.dfr b ds ((h.dfr b ds hb).1.trans hb)).2 hI)⟩⟩
structure LE0 (G G':Gh):Prop where
 κ:∀k r,G.κ k=some r->G'.κ k=some r∨G'.dead k
 dead:∀k,G.dead k->G'.dead k
 I:∀b,G.I b->G'.I b
 cells:∀b,G.I b->G'.w.heap[b]? =G.w.heap[b]?
theorem LE.z {G G':Gh} (h:LE G G'):LE0 G G':=⟨h.κ,h.dead,h.I,h.cells⟩
theorem VR.le0 {G G':Gh} (hle:LE0 G G'):∀ {u:AV} {v:Value},VR G u v→VR G' u v:=by
 intro u v h
 induction h with
 |bl b=>exact .bl b
 |it k n=>exact .it k n
 |st l s h=>exact .st l s h
 |agg cs vs hl h h1 ih=>exact .agg cs vs hl (fun j u x a b=>ih j u x a b) h1
 |tup cs vs hl h ih=>exact .tup cs vs hl (fun j u x a b=>ih j u x a b)
 |nsl z n xs hn hx=>exact .nsl z n xs hn hx
 |esl n xs hn hx a cap=>exact .esl n xs hn hx a cap
 |sl n xs b off cap f hI hc h h1 hn hm hq ih=>exact .sl n xs b off cap f (hle.I b hI) (fun j u a=>(World.cell?_of_block (hle.cells b hI)).trans (hc j u a)) (fun j u a=>ih j u a) h1 hn hm hq
 |gs k n b cap hk=>rcases hle.κ k _ hk with h|h;exact .gs k n b cap h;exact .gsd k n _ h rfl
 |gsd k n v hk h1=>exact .gsd k n v (hle.dead k hk) h1
 |nptr=>exact .nptr
 |pt k off b cap hk=>rcases hle.κ k _ hk with h|h;exact .pt k off b cap h;exact .ptd k off _ h rfl
 |ptd k off v hk h1=>exact .ptd k off v (hle.dead k hk) h1
 |ep xs off b base f hI hc h h1 hq ih=>exact .ep xs off b base f (hle.I b hI) (fun j u a=>(World.cell?_of_block (hle.cells b hI)).trans (hc j u a)) (fun j u a=>ih j u a) h1 hq
 |fn f a c va vc ha hc h h' ih ih'=>exact .fn f a c va vc ha hc (fun j u x p q=>ih j u x p q) (fun j u x p q=>ih' j u x p q)
 |nfn=>exact .nfn
 |yld o l cap hk=>rcases hle.κ (.h o) _ hk with h|h;exact .yld o l cap h;exact .yldd o _ h rfl
 |yldd o v hk h1=>exact .yldd o v (hle.dead (.h o) hk) h1
 |un v=>exact .un v
theorem VR.le {G G':Gh} (hle:LE G G') {u:AV} {v:Value} (h:VR G u v):VR G' u v:=h.le0 hle.z
structure St where
 fr:Nat->AV
 M:Key->Option Blk
 cnt:Nat->Nat
 nx:Nat
def yaT (S:St):Key→Prop
 | .l d c=>1<=c/\c<=S.cnt d
 | .h o=>o<S.nx
def hOk:Key→List AV→Bool
 | .h _,cs=>noLs cs
 | .l _ _,_=>true
def ybt (S:St) (k:Key):Prop:=S.M k=none/\yaT S k
def ygz (G:Gh) (b:Blk) (g cap:Nat):Prop:=
 ∃cur:Array Value,G.w.heap[g]? =some (.cells cur b.e (0,0))∧cur.size=cap*b.sz∧cap≤maxLen∧0<b.sz∧b.cells.length≤cur.size∧
  (∀(j:Nat) (u:AV) (x:Value),b.cells[j]? =some u->cur[j]? =some x->VR G u x)/\∀(j:Nat) (x:Value),j<b.cells.length->cur[j]? =some x->x.oneCell'=true
def lsOk:LS→LoopState→Option Code→Prop
 | .ready,st,p=>st= .ready/\p=none
 | .busy,st,_=>st= .busy
 | .ret,st,p=>st= .done/\p=some .ret
 | .exit id,st,p=>st= .done/\p=some (.exit id)
def ycF (G:Gh) (b:Blk) (g:Nat):Prop:=
 (opq b=true/\isRc b.cells=false/\∃o,G.w.heap[g]? =some o/\∀ds,o≠ .deferred ds)∨∃(r:Loop) (j:LS),b.cells= [.rcd r.tmps r.params r.assign r.body j]/\G.w.heap[g]? =some (.loop r)/\lsOk j r.state r.pending
def yac (G:Gh):Option Blk→Option (Nat×Nat)→Prop
 |some b,some r=>if b.sz=0 then ycF G b r.1 else ygz G b r.1 r.2
 |none,none=>True
 |_,_=>False
structure Base where
 w:World
 κ:Key->Option (Nat×Nat)
 I:Nat->Prop
 nx:Nat
 xs:List Value
 df:List Deferred
 ft:Key->Nat->Prop
def Base.has (B:Base) (x:Nat):Prop:=∃k r,B.κ k=some r/\(r.1=x∨B.ft k x)
structure FtOk (B:Base) (M:Key→Option Blk) (G:Gh):Prop where
 dj1:∀k x k' r,G.fp k x->G.κ k'=some r->r.1≠x
 dj2:∀k k' x,G.fp k x->G.fp k' x->k=k'
 ap:∀k x,G.fp k x->¬G.I x/\x<G.w.heap.size
 nd:∀k x,G.fp k x->∀ds,G.w.heap[x]?≠some (.deferred ds)
 lo:∀k x,G.fp k x->B.w.heap.size<=x∨B.has x
 rep:∀k b r,M k=some b->G.κ k=some r->opq b=true->isRc b.cells=false->noLs b.cells=true/\opqR b.e (dwks b.cells) G.w r.1 (G.ft k)
 hh:∀o r,G.κ (.h o)=some r->(∀x,¬G.ft (.h o) x)/\∀b,M (.h o)=some b->¬(opq b=true/\isRc b.cells=false)
structure MRel (B:Base) (S:St) (G:Gh):Prop where
 blk:∀k,yac G (S.M k) (G.κ k)
 inj:∀k k' r r',G.κ k=some r->G.κ k'=some r'->r.1=r'.1->k=k'
 dead:∀k,G.dead k↔ybt S k
 live:∀k b,S.M k=some b->yaT S k
 apart:∀k r,G.κ k=some r->¬G.I r.1/\r.1<G.w.heap.size
 lt:∀b,G.I b->b<G.w.heap.size
 loc:∀d c r,G.κ (.l d c)=some r->B.w.heap.size<=r.1∨∃k r',B.κ k=some r'/\r'.1=r.1
 keep:∀k r,B.κ k=some r->G.κ k=some r∨G.dead k
 heap:∀o r,G.κ (.h o)=some r->B.w.heap.size<=r.1∨∃k r',B.κ k=some r'/\r'.1=r.1
 nx:B.nx<=S.nx
 gone:∀o,o<B.nx->B.κ (.h o)=none->G.κ (.h o)=none
 I0:∀b,B.I b->G.I b
 I1:∀b,G.I b->B.I b∨B.w.heap.size<=b∨∃k r,B.κ k=some r/\r.1=b
 os:G.w.os=B.w.os
 tape:G.w.tape=B.w.tape
 output:G.w.output=B.w.output
 size:B.w.heap.size<=G.w.heap.size
 same:∀b,b<B.w.heap.size->¬B.has b->G.w.heap[b]? =B.w.heap[b]?
 hno:∀k b,S.M k=some b->hOk k b.cells=true
 fo:FtOk B S.M G
def DfOk (B:Base) (G:Gh) (ds:List Deferred):Prop:=
 ∃rs:List Nat,ds=rs.map (fun r=>{target:= .collected r,args:= #[]})/\rs.Nodup/\∀r∈rs,G.w.heap[r]? =some (.deferred (some []))/\¬G.I r/\B.w.heap.size<=r
theorem DfOk.nil (B:Base) (G:Gh):DfOk B G []:=⟨[],rfl,List.nodup_nil,fun r hr=>by cases hr⟩
theorem DfOk.le {B:Base} {G G':Gh} {ds:List Deferred} (h:DfOk B G ds) (hle:LE G G'):DfOk B G' ds:=by
 obtain ⟨rs,h1,h2,h3⟩:=h
 refine ⟨rs,h1,h2,fun r hr=> ?_⟩
 obtain ⟨a,b,c⟩:=h3 r hr
 obtain ⟨d,e⟩:=hle.dfr r _ a
 exact ⟨d.trans a,fun hI=>b (e hI),c⟩
structure Rel (B:Base) (N:Nat) (S:St) (a:Act) (G:Gh):Prop extends MRel B S G where
 defers:DfOk B G (a.defers++B.df)
 tsize:a.tmps.size=N
 slot:∀t v,a.tmps[t]? =some v->VR G (S.fr t) v
 ext:∀j v,B.xs[j]? =some v->VR G (S.fr (N+j)) v
def upd {α:Type} (f:Nat->α) (d:Nat) (v:α):Nat->α:=fun t=>if t=d then v else f t
def updK (f:Key->Option Blk) (d:Key) (v:Option Blk):Key->Option Blk:=fun t=>if t=d then v else f t
theorem ykL {α:Type} (f:Nat->α) (d:Nat) (v:α):upd f d v d=v:=by simp[upd]
theorem ygV {α:Type} (f:Nat->α) {d t:Nat} (v:α) (h:t≠d):upd f d v t=f t:=by simp[upd,h]
def St.put (S:St) (d:Option Nat) (v:AV):St:=
 match d with
 |some d=>{S with fr:=upd S.fr d v}
 |none=>S
theorem Rel.put {B:Base} {N:Nat} {S:St} {a:Act} {G:Gh} (h:Rel B N S a G) {d:Option Nat} (hd:yjh N d=true) {u:AV} {v:Value} (hv:VR G u v):Rel B N (S.put d u) (a.put d v) G:=by
 cases d with
 |none=>exact h
 | some d=>
   have hd:d<N:=by simpa [yjh] using hd
   refine {(show MRel B (S.put (some d) u) G from {h.toMRel with}) with defers:=h.defers,tsize:=by simp[Act.put,h.tsize],slot:= ?_,ext:= ?_}
   ·intro t x hx
    simp only[Act.put] at hx
    by_cases e:t=d
    ·subst e
     have:x=v:=by
      rw[Array.getElem?_setIfInBounds_self] at hx
      split at hx
      ·exact (Option.some.inj hx).symm
      ·cases hx
     subst this
     show VR G (upd S.fr t u t) x
     rw[ykL];exact hv
    ·show VR G (upd S.fr d u t) x
     rw[ygV _ _ e]
     rw[Array.getElem?_setIfInBounds_ne (fun q=>e q.symm)] at hx
     exact h.slot t x hx
   ·intro j x hx
    show VR G (upd S.fr d u (N+j)) x
    rw[ygV _ _ (by omega)]
    exact h.ext j x hx
def ev (fr:Nat→AV):AOpd→AV
 | .t n=>fr n
 | .c v=>v
theorem ym0 {G:Gh} {v:Value} {u:AV} (h:cst1 v=some u):VR G u v∧v.oneCell'=true:=by
 unfold cst1 at h
 split at h<;>simp only[Option.some.injEq,reduceCtorEq] at h<;>subst h
 ·exact ⟨.bl _,rfl⟩
 ·exact ⟨.it _ _,rfl⟩
 ·exact ⟨.st _ _ rfl,rfl⟩
 ·exact ⟨.nsl _ _ _ rfl rfl,rfl⟩
 ·exact ⟨.nptr,rfl⟩
 ·exact ⟨.nfn,rfl⟩
theorem ymz {G:Gh}:∀ {l:List Value} {us:List AV},cstL l=some us→l.length=us.length∧(∀(j:Nat) (u:AV) (x:Value),us[j]? =some u→l[j]? =some x→VR G u x)∧∀x∈l,x.oneCell'=true:=by
 intro l
 induction l with
 |nil=>intro us h;simp only[cstL,Option.some.injEq] at h;subst h;simp
 | cons v r ih=>
   intro us h
   simp only[cstL] at h
   split at h
   ·rename_i u us' h1 h2
    simp only[Option.some.injEq] at h;subst h
    obtain ⟨a,b,c⟩:=ih h2
    have k:=ym0 (G:=G) h1
    refine ⟨by simp[a],?_,?_⟩
    ·intro j u' x hu hx
     cases j with
     |zero=>simp at hu hx;subst hu;subst hx;exact k.1
     |succ j=>exact b j u' x (by simpa using hu) (by simpa using hx)
    ·intro x hx
     rcases List.mem_cons.1 hx with rfl|hx
     ·exact k.2
     ·exact c x hx
   ·cases h
theorem ysp {G:Gh} {v:Value} {u:AV} (h:cst v=some u):VR G u v:=by
 unfold cst at h
 split at h
 ·rename_i cs
  cases hc:cstL cs.toList with
  |none=>rw[hc] at h;cases h
  | some us=>
    rw[hc] at h
    simp only[Option.map_some,Option.some.injEq] at h
    subst h
    obtain ⟨a,b,c⟩:=ymz (G:=G) hc
    refine .agg us cs (by simpa using a) (fun j u x hu hx=>b j u x hu (by simpa using hx)) (fun j x hx=>c x ?_)
    exact List.mem_of_getElem? (by simpa using hx)
 ·exact (ym0 h).1
def GOK (P:Program) (w:World) (I:Nat→Prop):Prop:=
 (∀name avs,(name,avs)∈yn1->∀g,P.globalNamed name=some g->I g/\∃t fr,w.heap[g]? =some (.cells (avs.map avV).toArray t fr))/\
 (∀g,P.globalNamed "internal/bytealg.MaxLen" =some g->I g/\∃m t fr,w.heap[g]? =some (.cells #[.int .i64 m] t fr))/\
 ∀name∈yrZ,∀g,P.globalNamed name=some g->I g/\∃tp p t fr,w.heap[g]? =some (.cells #[.iface tp p] t fr)
class GB (P:Program) (B:Base):Prop where
 ok:GOK P B.w B.I
 ap:∀b,B.has b->¬B.I b
theorem GOK.mono {P:Program} {w w':World} {I I':Nat→Prop} (h:GOK P w I) (hI:∀b,I b→I' b) (hw:∀b o,I b→w.heap[b]? =some o→w'.heap[b]? =some o):GOK P w' I':=
 ⟨fun name avs hm g hg=>let ⟨a,t,fr,e⟩:=h.1 name avs hm g hg;⟨hI g a,t,fr,hw g _ a e⟩,fun g hg=>let ⟨a,m,t,fr,e⟩:=h.2.1 g hg;⟨hI g a,m,t,fr,hw g _ a e⟩,
   fun name hm g hg=>let ⟨a,tp,p,t,fr,e⟩:=h.2.2 name hm g hg;⟨hI g a,tp,p,t,fr,hw g _ a e⟩⟩
theorem MRel.gok {P:Program} {B:Base} {S:St} {G:Gh} (h:MRel B S G) [hB:GB P B]:GOK P G.w G.I:=
 hB.ok.mono h.I0 fun b o hb ho=>by
  have hlt:b<B.w.heap.size:=(Array.getElem?_eq_some_iff.1 ho).1
  rw[h.same b hlt (fun q=>hB.ap b q hb)];exact ho
theorem ylH {P:Program} {g:Nat} {cs:List AV}:∀ {l:List (String×List AV)},gOfL P g l=some cs→∃name,(name,cs)∈l∧P.globalNamed name=some g
 | [],h=>by cases h
 | p ::r,h=>by
   simp only[gOfL] at h
   have go:gOfL P g r=some cs→∃name,(name,cs)∈p::r∧P.globalNamed name=some g:=fun h=>by
    obtain ⟨n,a,b⟩:=ylH h;exact ⟨n,List.mem_cons_of_mem _ a,b⟩
   split at h
   ·rename_i k hk
    split at h
    ·rename_i e
     cases h
     exact ⟨p.1,by simp,by rw[hk,Nat.eq_of_beq_eq_true e]⟩
    ·exact go h
   ·exact go h
theorem ymb {G:Gh} {u:AV} (h:avF u=true):VR G u (avV u)∧(avV u).oneCell'=true∧u.noL=true:=by
 cases u<;>first|(cases h;done)|skip
 ·exact ⟨.bl _,rfl,rfl⟩
 ·exact ⟨.it _ _,rfl,rfl⟩
 ·exact ⟨.st _ _ (by simp),rfl,rfl⟩
theorem yp3 {l:List AV} (h:∀u∈l,u.noL=true):noLs l=true:=by
 induction l with
 |nil=>rfl
 |cons x l ih=>simp only[noLs,Bool.and_eq_true];exact ⟨h x (by simp),ih fun u hu=>h u (List.mem_cons_of_mem _ hu)⟩
theorem yqo {P:Program} {G:Gh} (h:GOK P G.w G.I) {g:Nat} {cs:List AV} (hg:gOfL P g yn1=some cs) (hf:cs.all avF=true):VR G (.ep cs 0) (.pointer (some ⟨g,0,none⟩)):=by
 obtain ⟨name,a,b⟩:=ylH hg
 obtain ⟨hI,t,fr,e⟩:=h.1 name cs a g b
 have hF:=List.all_eq_true.1 hf
 have:=VR.ep (G:=G) cs 0 g 0 (fun j=>avV ((cs[j]?).getD .un)) hI (fun j u hu=> ?_) (fun j u hu=> ?_) (fun j u hu=> ?_) (yp3 fun u hu=>(ymb (G:=G) (hF u hu)).2.2)
 ·exact this
 ·have hj:j<cs.length:=(List.getElem?_eq_some_iff.1 hu).1
  rw[hu]
  simp only[World.cell?,e,Option.getD_some,Nat.zero_add]
  simp[List.getElem?_map,hu]
 ·rw[hu];exact (ymb (hF u (List.mem_of_getElem? hu))).1
 ·rw[hu];exact (ymb (G:=G) (hF u (List.mem_of_getElem? hu))).2.1
theorem yaM {P:Program} {B:Base} [GB P B] {N:Nat} {S:St} {a:Act} {G:Gh} (h:Rel B N S a G) {x:Operand} {u:AOpd} (hu:yaf P N x=some u):VR G (ev S.fr u) (a.eval x):=by
 cases x with
 | tmp t=>
   simp only[yaf] at hu
   split at hu
   ·simp only[Option.some.injEq] at hu;subst hu
    rename_i ht
    have ht':t<a.tmps.size:=by rw[h.tsize];exact ht
    have:=h.slot t a.tmps[t] (Array.getElem?_eq_getElem ht')
    simpa [ev,Act.eval,Array.getD,ht'] using this
   ·cases hu
 | const v=>
   simp only[yaf] at hu
   cases hc:cst v with
   |none=>rw[hc] at hu;cases hu
   | some w=>
     rw[hc] at hu
     simp only[Option.map_some,Option.some.injEq] at hu;subst hu
     exact ysp hc
 | global g=>
   simp only[yaf] at hu
   split at hu
   ·rename_i cs hg
    split at hu
    ·rename_i hf
     cases hu
     exact yqo (P:=P) h.toMRel.gok hg hf
    ·cases hu
   ·cases hu
 | func f=>
   simp only[yaf,Option.some.injEq] at hu;subst hu
   exact .fn (.func f) [] [] #[] #[] rfl rfl (fun j u x hu=>by simp at hu) (fun j u x hu=>by simp at hu)
theorem yjM {P:Program} {B:Base} [GB P B] {N:Nat} {S:St} {a:Act} {G:Gh} (h:Rel B N S a G):∀ {l:List Operand} {us:List AOpd},trL P N l=some us→l.length=us.length∧∀(j:Nat) (u:AV) (x:Value),(us.map (ev S.fr))[j]? =some u→(l.map a.eval)[j]? =some x→VR G u x:=by
 intro l
 induction l with
 |nil=>intro us h;simp only[trL,Option.some.injEq] at h;subst h;simp
 | cons v r ih=>
   intro us h'
   simp only[trL] at h'
   split at h'
   ·rename_i u us' h1 h2
    simp only[Option.some.injEq] at h';subst h'
    obtain ⟨a',b⟩:=ih h2
    refine ⟨by simp[a'],?_⟩
    intro j u' x hu hx
    cases j with
    |zero=>simp at hu hx;subst hu;subst hx;exact yaM h h1
    |succ j=>exact b j u' x (by simpa using hu) (by simpa using hx)
   ·cases h'
mutual
def weak:AV→AV
 | .sl _ n xs=> .sl false n xs
 | .agg cs=> .agg (yeC cs)
 | .tup cs=> .tup (yeC cs)
 | .fn f a c=> .fn f (yeC a) (yeC c)
 |u=>u
def yeC:List AV→List AV
 | []=> []
 |u::r=>weak u::yeC r
end
theorem yeP:∀(l:List AV) (j:Nat) (u:AV),(yeC l)[j]? =some u→∃v,l[j]? =some v∧u=weak v
 | [],j,u,h=>by simp[yeC] at h
 | x::l,j,u,h=>by
   cases j with
   |zero=>simp[yeC] at h;exact ⟨x,rfl,h.symm⟩
   |succ j=>exact yeP l j u (by simpa [yeC] using h)
theorem ydF:∀(l:List AV),(yeC l).length=l.length
 | []=>rfl
 |x::l=>by simp only[yeC,List.length_cons,ydF l]
theorem VR.weak {G:Gh} {u:AV} {v:Value} (h:VR G u v):VR G (AV.weak u) v:=by
 induction h with
 |agg cs vs hl h h1 ih=>exact .agg _ vs (by rw[ydF];exact hl) (fun j u x hu hx=>by obtain ⟨w,e1,rfl⟩:=yeP cs j u hu;exact ih j w x e1 hx) h1
 |tup cs vs hl h ih=>exact .tup _ vs (by rw[ydF];exact hl) (fun j u x hu hx=>by obtain ⟨w,e1,rfl⟩:=yeP cs j u hu;exact ih j w x e1 hx)
 |nsl z n xs hn hx=>exact .nsl false n xs hn hx
 |esl n xs hn hx a cap=>exact .esl n xs hn hx a cap
 |sl n xs b off cap f hI hc h h1 hn hm hq ih=>exact .sl n xs b off cap f hI hc h h1 hn hm hq
 |fn f a c va vc ha hc h h' ih ih'=>exact .fn f _ _ va vc (by rw[ydF];exact ha) (by rw[ydF];exact hc) (fun j u x hu hx=>by obtain ⟨w,e1,rfl⟩:=yeP a j u hu;exact ih j w x e1 hx) (fun j u x hu hx=>by obtain ⟨w,e1,rfl⟩:=yeP c j u hu;exact ih' j w x e1 hx)
 |bl b=>exact .bl b
 |it k n=>exact .it k n
 |st s b h=>exact .st s b h
 |gs k n b cap hk=>exact .gs k n b cap hk
 |gsd k n v hk h1=>exact .gsd k n v hk h1
 |nptr=>exact .nptr
 |pt k off b cap hk=>exact .pt k off b cap hk
 |ptd k off v hk h1=>exact .ptd k off v hk h1
 |ep xs off b base f hI hc h h1 hq ih=>exact .ep xs off b base f hI hc h h1 hq
 |nfn=>exact .nfn
 |yld o l cap hk=>exact .yld o l cap hk
 |yldd o v hk h1=>exact .yldd o v hk h1
 |un v=>exact .un v
mutual
theorem yjT:∀(u:AV),(weak u).noL=u.noL
 | .agg cs=>by simp only[weak,AV.noL];exact ye9 cs
 | .tup cs=>by simp only[weak,AV.noL];exact ye9 cs
 | .fn f a c=>by simp only[weak,AV.noL,ye9]
 | .sl z n xs=>rfl
 | .gs k n=>rfl
 | .pt k n=>rfl
 | .bl b=>rfl
 | .it k n=>rfl
 | .st s=>rfl
 | .nptr=>rfl
 | .ep xs off=>rfl
 | .nfn=>rfl
 | .un=>rfl
 | .yld o=>rfl
 | .rcd _ _ _ _ _=>rfl
theorem ye9:∀(l:List AV),noLs (yeC l)=noLs l
 | []=>rfl
 |x::l=>by simp only[yeC,noLs,yjT,ye9]
end
end Go.AV
end
noncomputable section
namespace Go.AV
open Go.RowKit Go.RG
theorem ygz.le0 {G G':Gh} {b:Blk} {g cap:Nat} (hle:LE0 G G') (hg:G'.w.heap[g]? =G.w.heap[g]?) (h:ygz G b g cap):ygz G' b g cap:=by
 obtain ⟨cur,h1,h2,h3,h4,h5,h6,h7⟩:=h
 exact ⟨cur,hg.trans h1,h2,h3,h4,h5,fun j u x a c=>(h6 j u x a c).le0 hle,h7⟩
theorem ycF.le0 {G G':Gh} {b:Blk} {g:Nat} (hg:G'.w.heap[g]? =G.w.heap[g]?) (h:ycF G b g):ycF G' b g:=by
 rcases h with ⟨h1,h2,o,h3,h4⟩|⟨r,j,h1,h2,h3⟩
 ·exact .inl ⟨h1,h2,o,hg.trans h3,h4⟩
 ·exact .inr ⟨r,j,h1,hg.trans h2,h3⟩
theorem yac.cell {G:Gh} {b:Blk} {r:Nat×Nat} (hz:b.sz≠0):yac G (some b) (some r)↔ygz G b r.1 r.2:=by simp[yac,hz]
theorem yac.loop {G:Gh} {b:Blk} {r:Nat×Nat} (hz:b.sz=0):yac G (some b) (some r)↔ycF G b r.1:=by simp[yac,hz]
theorem yac.held {G:Gh} {b:Blk} {r:Nat×Nat} (h:yac G (some b) (some r)):∃o,G.w.heap[r.1]? =some o∧∀ds,o≠ .deferred ds:=by
 by_cases hz:b.sz=0
 ·rcases (yac.loop hz).1 h with ⟨_,_,o,h3,h4⟩|⟨q,j,h1,h2,h3⟩
  ·exact ⟨o,h3,h4⟩
  ·exact ⟨_,h2,fun ds e=>by cases e⟩
 ·obtain ⟨cur,h1,h2⟩:=(yac.cell hz).1 h
  exact ⟨_,h1,fun ds e=>by cases e⟩
theorem yac.le0 {G G':Gh} {b:Option Blk} {r:Option (Nat×Nat)} (hle:LE0 G G') (hg:∀q,r=some q→G'.w.heap[q.1]? =G.w.heap[q.1]?) (h:yac G b r):yac G' b r:=by
 cases b with
 | none=>cases r with
   |none=>trivial
   |some r=>exact h.elim
 | some b=>cases r with
   |none=>exact h.elim
   | some r=>
     by_cases hz:b.sz=0
     ·exact (yac.loop hz).2 (ycF.le0 (hg r rfl) ((yac.loop hz).1 h))
     ·exact (yac.cell hz).2 (ygz.le0 hle (hg r rfl) ((yac.cell hz).1 h))
theorem yac.le {G G':Gh} {b:Option Blk} {r:Option (Nat×Nat)} (hle:LE G G') (hg:∀q,r=some q->G'.w.heap[q.1]? =G.w.heap[q.1]?) (h:yac G b r):yac G' b r:=h.le0 hle.z hg
theorem yef {b:Blk} (h:opq b=true):b.sz=0:=by
 simp only[opq,Bool.and_eq_true,beq_iff_eq] at h;exact h.1
section
variable {B:Base} {S S':St} {G:Gh}
theorem FtOk.on {M M':Key→Option Blk} (h:FtOk B M G) {G':Gh} (hκ:∀k r,G'.κ k=some r→(G.κ k=some r∧G'.ft k=G.ft k∧∀b,M' k=some b→opq b=true→isRc b.cells=false→M k=some b)∨((∀x,¬G'.ft k x)∧(∀k',¬G.fp k' r.1)∧∀b,M' k=some b→¬(opq b=true∧isRc b.cells=false)))
  (hI:∀x,G'.I x->G.I x∨∀k,¬G'.fp k x) (hsz:G.w.heap.size<=G'.w.heap.size) (hs:∀k x,G'.fp k x->G'.w.heap[x]? =G.w.heap[x]?) (hr:∀k b r,M' k=some b->G'.κ k=some r->opq b=true->isRc b.cells=false->G'.w.heap[r.1]? =G.w.heap[r.1]?):FtOk B M' G':=by
 have hf:∀k x,G'.fp k x→G.fp k x∧G'.ft k=G.ft k:=by
  rintro k x ⟨⟨r,h1⟩,h2⟩
  rcases hκ k r h1 with ⟨a,b,c⟩|⟨a,_⟩
  ·exact ⟨⟨⟨r,a⟩,b▸h2⟩,b⟩
  ·exact absurd h2 (a x)
 refine ⟨fun k x k' r hx hr'=> ?_,fun k k' x hx hx'=>h.dj2 k k' x (hf k x hx).1 (hf k' x hx').1,fun k x hx=>⟨fun hi=> ?_,Nat.lt_of_lt_of_le (h.ap k x (hf k x hx).1).2 hsz⟩,fun k x hx ds=> ?_,fun k x hx=>h.lo k x (hf k x hx).1,fun k b r hb hk ho hc=> ?_,fun o r hk=> ?_⟩
 ·rcases hκ k' r hr' with ⟨a,_⟩|⟨_,a,_⟩
  ·exact h.dj1 k x k' r (hf k x hx).1 a
  ·exact fun e=>a k (e▸(hf k x hx).1)
 ·rcases hI x hi with q|q
  ·exact (h.ap k x (hf k x hx).1).1 q
  ·exact q k hx
 ·rw[hs k x hx];exact h.nd k x (hf k x hx).1 ds
 ·rcases hκ k r hk with ⟨a,e,c⟩|⟨_,_,c⟩
  ·rw[e]
   obtain ⟨n1,n2⟩:=h.rep k b r (c b hb ho hc) a ho hc
   refine ⟨n1,yeY n2 fun x hx=> ?_⟩
   rcases hx with rfl|hx
   ·exact hr k b r hb hk ho hc
   ·exact hs k x ⟨⟨r,hk⟩,e▸hx⟩
  ·exact absurd ⟨ho,hc⟩ (c b hb)
 ·rcases hκ _ r hk with ⟨a,e,c⟩|⟨a,_,c⟩
  ·obtain ⟨h1,h2⟩:=h.hh o r a
   exact ⟨by rw[e];exact h1,fun b hb q=>h2 b (c b hb q.1 q.2) q⟩
  ·exact ⟨a,c⟩
theorem MRel.κnone (h:MRel B S G) {k:Key} (hk:S.M k=none):G.κ k=none:=by
 have:=h.blk k
 rw[hk] at this
 cases hq:G.κ k with
 |none=>rfl
 |some r=>rw[hq] at this;exact this.elim
theorem MRel.κsome (h:MRel B S G) {k:Key} {b:Blk} (hk:S.M k=some b):∃r,G.κ k=some r∧yac G (some b) (some r):=by
 have:=h.blk k
 rw[hk] at this
 cases hq:G.κ k with
 |none=>rw[hq] at this;exact this.elim
 |some r=>rw[hq] at this;exact ⟨r,rfl,this⟩
theorem MRel.Msome (h:MRel B S G) {k:Key} {r:Nat×Nat} (hk:G.κ k=some r):∃b,S.M k=some b∧yac G (some b) (some r):=by
 have:=h.blk k
 rw[hk] at this
 cases hq:S.M k with
 |none=>rw[hq] at this;exact this.elim
 |some b=>rw[hq] at this;exact ⟨b,rfl,this⟩
theorem MRel.κcell (h:MRel B S G) {k:Key} {b:Blk} (hk:S.M k=some b) (hz:b.sz≠0):∃r,G.κ k=some r∧ygz G b r.1 r.2:=by
 obtain ⟨r,h1,h2⟩:=h.κsome hk
 exact ⟨r,h1,(yac.cell hz).1 h2⟩
theorem MRel.notDfr (h:MRel B S G) {k:Key} {r:Nat×Nat} (hk:G.κ k=some r) (ds:Option (List Deferred)):G.w.heap[r.1]?≠some (.deferred ds):=by
 obtain ⟨b,_,h2⟩:=h.Msome hk
 obtain ⟨o,h3,h4⟩:=h2.held
 rw[h3]
 intro e
 exact h4 ds (Option.some.inj e)
theorem MRel.freeN (h:MRel B S G) {g:Nat} (hg:G.w.heap.size≤g):∀k r,G.κ k=some r→r.1≠g∧¬G.ft k g:=fun k r hr=>
 ⟨fun e=>absurd (h.apart k r hr).2 (by omega),fun q=>absurd (h.fo.ap k g ⟨⟨r,hr⟩,q⟩).2 (by omega)⟩
theorem MRel.addG (h:MRel B S G) (fr:Nat→Prop) (hfr:∀q,fr q→¬G.I q∧(∀k r,G.κ k=some r→r.1≠q∧¬G.ft k q)∧(B.w.heap.size≤q∨∃k r',B.κ k=some r'∧r'.1=q)) {k0:Key} {b:Blk} (hno:hOk k0 b.cells=true) (hk:¬yaT S k0) (hM:S'.M=updK S.M k0 (some b)) (hold:∀k,yaT S' k↔yaT S k∨k=k0) (hnx:S.nx≤S'.nx)
  {g cap:Nat} {w1:World} (hI:¬G.I g) (hfree:∀k r,G.κ k=some r->r.1≠g/\¬G.ft k g) (hoq:¬(opq b=true/\isRc b.cells=false)) (horg:B.w.heap.size<=g∨∃k r',B.κ k=some r'/\r'.1=g)
  (hos:w1.os=G.w.os) (htape:w1.tape=G.w.tape) (hout:w1.output=G.w.output) (hsz:G.w.heap.size<=w1.heap.size) (hsame:∀q,q<G.w.heap.size->q≠g->¬fr q->w1.heap[q]? =G.w.heap[q]?)
  (hlt:g<w1.heap.size) (hnd:∀q,(q=g∨fr q)->∀ds,G.w.heap[q]?≠some (.deferred ds)) (hnew:∀G':Gh,LE G G'->G'.w=w1->yac G' (some b) (some (g,cap))):
  ∃G',G'.w=w1/\G'.κ k0=some (g,cap)/\MRel B S' G'/\LE G G':=by
 have hMk:∀k,k≠k0->S'.M k=S.M k:=fun k e=>by rw[hM];simp[updK,e]
 have hM0:S'.M k0=some b:=by rw[hM];simp[updK]
 have hdead:∀k,ybt S k→ybt S' k:=by
  rintro k ⟨a,c⟩
  have e:k≠k0:=fun e=>hk (e▸c)
  exact ⟨(hMk k e).trans a,(hold k).2 (.inl c)⟩
 have hκ0:G.κ k0=none:=by
  cases hq:G.κ k0 with
  |none=>rfl
  |some r=>obtain ⟨b',hb',_⟩:=h.Msome hq;exact absurd (h.live _ _ hb') hk
 let G':Gh:=⟨fun k=>if k=k0 then some (g,cap) else G.κ k,ybt S',G.I,w1,fun k x=>k≠k0/\G.ft k x⟩
 have hGk:∀k,k≠k0->G'.κ k=G.κ k:=fun k e=>by simp[G',e]
 have hG0:G'.κ k0=some (g,cap):=by simp[G']
 have hle:LE G G':=by
  refine ⟨fun k r hr=> .inl ?_,fun k hd=>hdead k ((h.dead k).1 hd),fun b hb=>hb,fun b hb=>hsame b (h.lt b hb) (fun e=>hI (e▸hb)) (fun f=>(hfr b f).1 hb),fun b ds hb=>⟨hsame b (Array.getElem?_eq_some_iff.1 hb).1 (fun e=>hnd b (.inl e) ds hb) (fun f=>hnd b (.inr f) ds hb),fun h=>h⟩⟩
  rw[hGk k (fun e=>by rw[e,hκ0] at hr;cases hr)];exact hr
 refine ⟨G',rfl,hG0,⟨?_,?_,fun k=>Iff.rfl,?_,?_,?_,?_,?_,?_,?_,?_,h.I0,h.I1,hos.trans h.os,htape.trans h.tape,hout.trans h.output,Nat.le_trans h.size hsz,?_,?_,?_⟩,hle⟩
 ·intro k
  by_cases e:k=k0
  ·subst e
   rw[hM0,hG0]
   exact hnew G' hle rfl
  ·rw[hMk k e,hGk k e]
   refine (h.blk k).le hle fun q hq=>hsame q.1 (h.apart k q hq).2 (hfree k q hq).1 (fun f=>((hfr _ f).2.1 k q hq).1 rfl)
 ·intro k k' r r' hr hr' e
  by_cases e1:k=k0
  ·by_cases e2:k'=k0
   ·rw[e1,e2]
   ·rw[e1,hG0] at hr;cases hr
    rw[hGk k' e2] at hr'
    exact absurd e.symm (hfree k' r' hr').1
  ·rw[hGk k e1] at hr
   by_cases e2:k'=k0
   ·rw[e2,hG0] at hr';cases hr'
    exact absurd e (hfree k r hr).1
   ·rw[hGk k' e2] at hr'
    exact h.inj k k' r r' hr hr' e
 ·intro k b' hb
  by_cases e:k=k0
  ·exact (hold k).2 (.inr e)
  ·rw[hMk k e] at hb;exact (hold k).2 (.inl (h.live k b' hb))
 ·intro k r hr
  by_cases e:k=k0
  ·rw[e,hG0] at hr;cases hr
   exact ⟨hI,hlt⟩
  ·rw[hGk k e] at hr
   exact ⟨(h.apart k r hr).1,Nat.lt_of_lt_of_le (h.apart k r hr).2 hsz⟩
 ·exact fun b hb=>Nat.lt_of_lt_of_le (h.lt b hb) hsz
 ·intro d c r hr
  by_cases e:Key.l d c=k0
  ·rw[e,hG0] at hr;cases hr
   exact horg
  ·rw[hGk _ e] at hr;exact h.loc d c r hr
 ·intro k r hr
  rcases h.keep k r hr with hq|hq
  ·left;rw[hGk k (fun e=>by rw[e,hκ0] at hq;cases hq)];exact hq
  ·exact .inr (hdead k ((h.dead k).1 hq))
 ·intro o r hr
  by_cases e:Key.h o=k0
  ·rw[e,hG0] at hr;cases hr
   exact horg
  ·rw[hGk _ e] at hr;exact h.heap o r hr
 ·exact Nat.le_trans h.nx hnx
 ·intro o ho hb
  have e:Key.h o≠k0:=fun e=>hk (e▸(Nat.lt_of_lt_of_le ho h.nx:yaT S (.h o)))
  rw[hGk _ e];exact h.gone o ho hb
 ·intro b' hb hq
  have e:b'≠g:=by
   rintro rfl
   rcases horg with ho|⟨k,r',ho,h2⟩
   ·omega
   ·exact hq ⟨k,r',ho, .inl h2⟩
  rw[hsame b' (Nat.lt_of_lt_of_le hb h.size) e (fun f=>(hfr b' f).2.2.elim (fun q=>by omega) (fun ⟨k,r',e1,e2⟩=>hq ⟨k,r',e1, .inl e2⟩))]
  exact h.same b' hb hq
 ·intro k b' hb
  by_cases e:k=k0
  ·rw[e,hM0] at hb;cases hb;rw[e];exact hno
  ·rw[hMk k e] at hb;exact h.hno k b' hb
 ·have hin:∀k r,G'.κ k=some r→k≠k0→G.κ k=some r:=fun k r hr e=>by rw[hGk k e] at hr;exact hr
  refine h.fo.on (fun k r hr=> ?_) (fun x hx=> .inl hx) hsz (fun k x hx=> ?_) (fun k b' r hb hr ho hc=> ?_)
  ·by_cases e:k=k0
   ·right
    subst e
    rw[hG0] at hr;cases hr
    exact ⟨fun x q=>q.1 rfl,fun k' ⟨⟨r',q1⟩,q2⟩=>(hfree k' r' q1).2 q2,fun b' hb=>by rw[hM0] at hb;cases hb;exact hoq⟩
   ·left
    exact ⟨hin k r hr e,by funext x;simp[G',e],fun b' hb _ _=>by rw[hMk k e] at hb;exact hb⟩
  ·obtain ⟨⟨r,hr⟩,hne,hx⟩:=hx
   have hr:=hin k r hr hne
   exact hsame x (h.fo.ap k x ⟨⟨r,hr⟩,hx⟩).2 (fun e=>(hfree k r hr).2 (e▸hx)) (fun f=>((hfr x f).2.1 k r hr).2 hx)
  ·by_cases e:k=k0
   ·rw[e,hM0] at hb;cases hb;exact absurd ⟨ho,hc⟩ hoq
   ·have hr:=hin k r hr e
    exact hsame r.1 (h.apart k r hr).2 (hfree k r hr).1 (fun f=>((hfr _ f).2.1 k r hr).1 rfl)
theorem MRel.add (h:MRel B S G) (fr:Nat→Prop) (hfr:∀q,fr q→¬G.I q∧(∀k r,G.κ k=some r→r.1≠q∧¬G.ft k q)∧(B.w.heap.size≤q∨∃k r',B.κ k=some r'∧r'.1=q)) {k0:Key} {b:Blk} (hno:hOk k0 b.cells=true) (hk:¬yaT S k0) (hM:S'.M=updK S.M k0 (some b)) (hold:∀k,yaT S' k↔yaT S k∨k=k0) (hnx:S.nx≤S'.nx)
  {g cap:Nat} {w1:World} (hI:¬G.I g) (hfree:∀k r,G.κ k=some r->r.1≠g/\¬G.ft k g) (horg:B.w.heap.size<=g∨∃k r',B.κ k=some r'/\r'.1=g)
  (hos:w1.os=G.w.os) (htape:w1.tape=G.w.tape) (hout:w1.output=G.w.output) (hsz:G.w.heap.size<=w1.heap.size) (hsame:∀q,q<G.w.heap.size->q≠g->¬fr q->w1.heap[q]? =G.w.heap[q]?) (hnd:∀q,(q=g∨fr q)->∀ds,G.w.heap[q]?≠some (.deferred ds))
  {cur:Array Value} (hcur:w1.heap[g]? =some (.cells cur b.e (0,0))) (hcs:cur.size=cap*b.sz) (hcap:cap<=maxLen) (hbs:0<b.sz) (hlen:b.cells.length<=cur.size)
  (hvr:∀(j:Nat) (u:AV) (x:Value),b.cells[j]? =some u->cur[j]? =some x->VR G u x) (h1:∀(j:Nat) (x:Value),j<b.cells.length->cur[j]? =some x->x.oneCell'=true):
  ∃G',G'.w=w1/\G'.κ k0=some (g,cap)/\MRel B S' G'/\LE G G':=
 h.addG fr hfr hno hk hM hold hnx hI hfree (fun q=>by have q:=q.1;simp only[opq,Bool.and_eq_true,beq_iff_eq] at q;omega) horg hos htape hout hsz hsame (lt_of_block hcur) hnd fun G' hle hw=>(yac.cell (Nat.ne_of_gt hbs)).2 ⟨cur,by rw[hw];exact hcur,hcs,hcap,hbs,hlen,fun j u x a c=>(hvr j u x a c).le hle,h1⟩
theorem MRel.kill (h:MRel B S G) (pub:Bool) {k0:Key} {r0:Nat×Nat} (hk:G.κ k0=some r0) (hS:S'={S with M:=updK S.M k0 none}):
  ∃G',G'.w=G.w/\(pub=true->G'.I r0.1)/\(pub=false->G'.I=G.I/\∀k r,G'.κ k=some r->r.1≠r0.1/\¬G'.ft k r0.1)/\MRel B S' G'/\LE G G':=by
 subst hS
 have hMk:∀k,k≠k0->updK S.M k0 none k=S.M k:=fun k e=>by simp[updK,e]
 have hM0:updK S.M k0 none k0=none:=by simp[updK]
 obtain ⟨b0,hb0,_⟩:=h.Msome hk
 let S1:St:={S with M:=updK S.M k0 none}
 have hold:∀k,yaT S1 k↔yaT S k:=fun k=>by cases k<;>rfl
 have hdead:∀k,ybt S k→ybt S1 k:=by
  rintro k ⟨a,c⟩
  refine ⟨?_,(hold k).2 c⟩
  by_cases e:k=k0
  ·rw[e];exact hM0
  ·exact (hMk k e).trans a
 have hd0:ybt S1 k0:=⟨hM0,(hold k0).2 (h.live _ _ hb0)⟩
 let G':Gh:=⟨fun k=>if k=k0 then none else G.κ k,ybt S1,fun b=>G.I b∨(pub=true/\b=r0.1),G.w,fun k x=>k≠k0/\G.ft k x⟩
 have hGk:∀k,k≠k0->G'.κ k=G.κ k:=fun k e=>by simp[G',e]
 have hG0:G'.κ k0=none:=by simp[G']
 have hle:LE G G':=by
  refine ⟨fun k r hr=> ?_,fun k hd=>hdead k ((h.dead k).1 hd),fun b hb=> .inl hb,fun _ _=>rfl,fun b ds hb=>⟨rfl,fun hI=>hI.elim id fun ⟨_,e⟩=>absurd (e▸hb) (h.notDfr hk ds)⟩⟩
  by_cases e:k=k0
  ·right;rw[e];exact hd0
  ·left;rw[hGk k e];exact hr
 have hsome:∀k r,G'.κ k=some r→G.κ k=some r∧k≠k0:=by
  intro k r hr
  by_cases e:k=k0
  ·rw[e,hG0] at hr;cases hr
  ·rw[hGk k e] at hr;exact ⟨hr,e⟩
 have hne:∀k r,G'.κ k=some r->r.1≠r0.1:=fun k r hr e=>(hsome k r hr).2 (h.inj k k0 r r0 (hsome k r hr).1 hk e)
 refine ⟨G',rfl,fun hp=> .inr ⟨hp,rfl⟩,fun hp=>⟨?_,fun k r hr=>⟨hne k r hr,fun q=>h.fo.dj1 k r0.1 k0 r0 ⟨⟨r,(hsome k r hr).1⟩,q.2⟩ hk rfl⟩⟩,⟨?_,?_,fun k=>Iff.rfl,?_,?_,?_,?_,?_,?_,h.nx,?_,fun b hb=> .inl (h.I0 b hb),?_,h.os,h.tape,h.output,h.size,h.same,?_,?_⟩,hle⟩
 ·subst hp;funext b;simp[G']
 ·intro k
  by_cases e:k=k0
  ·rw[e,hG0,show S1.M k0=none from hM0];trivial
  ·rw[hGk k e,show S1.M k=S.M k from hMk k e]
   exact (h.blk k).le hle fun q hq=>rfl
 ·exact fun k k' r r' hr hr' e=>h.inj k k' r r' (hsome k r hr).1 (hsome k' r' hr').1 e
 ·intro k b' hb
  by_cases e:k=k0
  ·rw[e,show S1.M k0=none from hM0] at hb;cases hb
  ·rw[show S1.M k=S.M k from hMk k e] at hb;exact (hold k).2 (h.live k b' hb)
 ·intro k r hr
  refine ⟨?_,(h.apart k r (hsome k r hr).1).2⟩
  rintro (hi|⟨_,hi⟩)
  ·exact (h.apart k r (hsome k r hr).1).1 hi
  ·exact hne k r hr hi
 ·rintro b (hb|⟨_,hb⟩)
  ·exact h.lt b hb
  ·rw[hb];exact (h.apart k0 r0 hk).2
 ·exact fun d c r hr=>h.loc d c r (hsome _ r hr).1
 ·intro k r hr
  rcases h.keep k r hr with hq|hq
  ·by_cases e:k=k0
   ·right;rw[e];exact hd0
   ·left;rw[hGk k e];exact hq
  ·exact .inr (hdead k ((h.dead k).1 hq))
 ·exact fun o r hr=>h.heap o r (hsome _ r hr).1
 ·intro o ho hb
  by_cases e:Key.h o=k0
  ·rw[e];exact hG0
  ·rw[hGk _ e];exact h.gone o ho hb
 ·rintro b (hb|⟨_,hb⟩)
  ·exact h.I1 b hb
  ·subst hb
   cases k0 with
   | l d c => rcases h.loc d c r0 hk with hq|⟨k,r',e1,e2⟩
              ·exact .inr (.inl hq)
              ·exact .inr (.inr ⟨k,r',e1,e2⟩)
   | h o => rcases h.heap o r0 hk with hq|⟨k,r',e1,e2⟩
            ·exact .inr (.inl hq)
            ·exact .inr (.inr ⟨k,r',e1,e2⟩)
 ·intro k b' hb
  by_cases e:k=k0
  ·rw[e,show S1.M k0=none from hM0] at hb;cases hb
  ·rw[show S1.M k=S.M k from hMk k e] at hb;exact h.hno k b' hb
 ·refine h.fo.on (fun k r hr=> .inl ⟨(hsome k r hr).1,by funext x;simp[G',(hsome k r hr).2],fun b' hb _ _=>by rw[show S1.M k=S.M k from hMk k (hsome k r hr).2] at hb;exact hb⟩) (fun x hx=> ?_) (Nat.le_refl _) (fun k x hx=>rfl) (fun k b' r hb hr ho hc=>rfl)
  rcases hx with hx|⟨_,rfl⟩
  ·exact .inl hx
  ·right
   rintro k ⟨⟨r,hr⟩,q⟩
   exact h.fo.dj1 k r0.1 k0 r0 ⟨⟨r,(hsome k r hr).1⟩,q.2⟩ hk rfl
theorem MRel.setG (h:MRel B S G) {k0:Key} {b b':Blk} {g cap:Nat} {w1:World} (hno:hOk k0 b'.cells=true) (hoq:¬(opq b'=true∧isRc b'.cells=false)) (hk:G.κ k0=some (g,cap)) (hb:S.M k0=some b) (hS:S'={S with M:=updK S.M k0 (some b')})
  (hos:w1.os=G.w.os) (htape:w1.tape=G.w.tape) (hout:w1.output=G.w.output) (hsize:w1.heap.size=G.w.heap.size) (hsame:∀q,q≠g->w1.heap[q]? =G.w.heap[q]?)
  (hnew:∀G':Gh,LE G G'->G'.w=w1->yac G' (some b') (some (g,cap))):
  ∃G',G'.w=w1/\MRel B S' G'/\LE G G':=by
 subst hS
 have hMk:∀k,k≠k0->updK S.M k0 (some b') k=S.M k:=fun k e=>by simp[updK,e]
 have hM0:updK S.M k0 (some b') k0=some b':=by simp[updK]
 let S1:St:={S with M:=updK S.M k0 (some b')}
 have hold:∀k,yaT S1 k↔yaT S k:=fun k=>by cases k<;>rfl
 have hdd:∀k,ybt S k↔ybt S1 k:=by
  intro k
  by_cases e:k=k0
  ·constructor
   ·rintro ⟨a,_⟩;rw[e,hb] at a;cases a
   ·rintro ⟨a,_⟩;rw[e,show S1.M k0=some b' from hM0] at a;cases a
  ·exact ⟨fun ⟨a,c⟩=>⟨(hMk k e).trans a,(hold k).2 c⟩,fun ⟨a,c⟩=>⟨(hMk k e).symm.trans a,(hold k).1 c⟩⟩
 let G':Gh:=⟨G.κ,G.dead,G.I,w1,G.ft⟩
 have hle:LE G G':=⟨fun _ _ hr=> .inl hr,fun _ hd=>hd,fun _ hb=>hb,fun q hq=>hsame q (fun e=>(h.apart k0 _ hk).1 (e▸hq)),fun q ds hq=>⟨hsame q (fun e=>h.notDfr hk ds (e▸hq)),fun h=>h⟩⟩
 refine ⟨G',rfl,⟨?_,h.inj,fun k=>(h.dead k).trans (hdd k),?_,fun k r hr=>⟨(h.apart k r hr).1,?_⟩,fun b hb=> ?_,h.loc,h.keep,h.heap,h.nx,h.gone,h.I0,h.I1,hos.trans h.os,htape.trans h.tape,hout.trans h.output,?_,?_,?_,?_⟩,hle⟩
 ·intro k
  by_cases e:k=k0
  ·rw[e,show S1.M k0=some b' from hM0,show G'.κ k0=some (g,cap) from hk]
   exact hnew G' hle rfl
  ·rw[show S1.M k=S.M k from hMk k e]
   exact (h.blk k).le hle fun q hq=>hsame q.1 (fun e2=>e (h.inj k k0 q _ hq hk e2))
 ·intro k b2 hb2
  by_cases e:k=k0
  ·rw[e];exact (hold k0).2 (h.live _ _ hb)
  ·rw[show S1.M k=S.M k from hMk k e] at hb2;exact (hold k).2 (h.live k b2 hb2)
 ·show r.1<w1.heap.size
  rw[hsize];exact (h.apart k r hr).2
 ·show b<w1.heap.size
  rw[hsize];exact h.lt b hb
 ·show B.w.heap.size≤w1.heap.size
  rw[hsize];exact h.size
 ·intro q hq hn
  have:q≠g:=by
   rintro rfl
   cases k0 with
   | l d c => rcases h.loc d c _ hk with hh|⟨k,r',e1,e2⟩
              ·simp only at hh;omega
              ·exact hn ⟨k,r',e1, .inl e2⟩
   | h o => rcases h.heap o _ hk with hh|⟨k,r',e1,e2⟩
            ·simp only at hh;omega
            ·exact hn ⟨k,r',e1, .inl e2⟩
  exact (hsame q this).trans (h.same q hq hn)
 ·intro k b2 hb2
  by_cases e:k=k0
  ·rw[e,show S1.M k0=some b' from hM0] at hb2;cases hb2;rw[e];exact hno
  ·rw[show S1.M k=S.M k from hMk k e] at hb2;exact h.hno k b2 hb2
 ·refine h.fo.on (fun k r hr=> .inl ⟨hr,rfl,fun b2 hb2 ho hc=> ?_⟩) (fun x hx=> .inl hx) (by rw[← hsize];exact Nat.le_refl _) (fun k x hx=>hsame x fun e=>h.fo.dj1 k x k0 _ hx hk e.symm) (fun k b2 r hb2 hr ho hc=>hsame r.1 fun e=> ?_)
  ·by_cases e:k=k0
   ·rw[e,show S1.M k0=some b' from hM0] at hb2;cases hb2;exact absurd ⟨ho,hc⟩ hoq
   ·rw[show S1.M k=S.M k from hMk k e] at hb2;exact hb2
  ·have e:=h.inj k k0 r _ hr hk e
   rw[e,show S1.M k0=some b' from hM0] at hb2;cases hb2;exact absurd ⟨ho,hc⟩ hoq
theorem MRel.set (h:MRel B S G) {k0:Key} {b b':Blk} {g cap:Nat} {w1:World} (hno:hOk k0 b'.cells=true) (hk:G.κ k0=some (g,cap)) (hb:S.M k0=some b) (hS:S'={S with M:=updK S.M k0 (some b')}) (hsz:b'.sz=b.sz) (he:b'.e=b.e)
  (hos:w1.os=G.w.os) (htape:w1.tape=G.w.tape) (hout:w1.output=G.w.output) (hsize:w1.heap.size=G.w.heap.size) (hsame:∀q,q≠g->w1.heap[q]? =G.w.heap[q]?) (hbz:b.sz≠0)
  {cur:Array Value} (hcur:w1.heap[g]? =some (.cells cur b.e (0,0))) (hcs:cur.size=cap*b.sz) (hlen:b'.cells.length<=cur.size)
  (hvr:∀(j:Nat) (u:AV) (x:Value),b'.cells[j]? =some u->cur[j]? =some x->VR G u x) (h1:∀(j:Nat) (x:Value),j<b'.cells.length->cur[j]? =some x->x.oneCell'=true):
  ∃G',G'.w=w1/\MRel B S' G'/\LE G G':=by
 have hb0:ygz G b g cap:=by obtain ⟨b2,e2,e3⟩:=h.Msome hk;rw[hb] at e2;cases e2;exact (yac.cell hbz).1 e3
 obtain ⟨cur0,q1,q2,q3,q4,q5,q6,q7⟩:=hb0
 exact h.setG hno (fun q=>by have q:=q.1;simp only[opq,Bool.and_eq_true,beq_iff_eq] at q;exact hbz (hsz▸q.1)) hk hb hS hos htape hout hsize hsame fun G' hle hw=>(yac.cell (by rw[hsz];exact hbz)).2 ⟨cur,by rw[hw,he];exact hcur,by rw[hsz];exact hcs,q3,by rw[hsz];exact q4,hlen,fun j u x a c=>(hvr j u x a c).le hle,h1⟩
theorem MRel.same_heap (h:MRel B S G) {w1:World} (hh:w1.heap=G.w.heap) (hos:w1.os=G.w.os) (htape:w1.tape=G.w.tape) (hout:w1.output=G.w.output):
  ∃G',G'.w=w1/\MRel B S G'/\LE G G':=by
 let G':Gh:=⟨G.κ,G.dead,G.I,w1,G.ft⟩
 have hle:LE G G':=⟨fun _ _ hr=> .inl hr,fun _ hd=>hd,fun _ hb=>hb,fun q _=>by show w1.heap[q]? =_;rw[hh],fun q _ _=>⟨by show w1.heap[q]? =_;rw[hh],fun h=>h⟩⟩
 refine ⟨G',rfl,⟨fun k=>(h.blk k).le hle fun q _=>(by show w1.heap[q.1]? =_;rw[hh]),h.inj,h.dead,h.live,fun k r hr=>⟨(h.apart k r hr).1,?_⟩,fun b hb=> ?_,h.loc,h.keep,h.heap,h.nx,h.gone,h.I0,h.I1,hos.trans h.os,htape.trans h.tape,hout.trans h.output,?_,?_,h.hno,h.fo.on (fun k r hr=> .inl ⟨hr,rfl,fun _ q _ _=>q⟩) (fun x hx=> .inl hx) (by show _<=w1.heap.size;rw[hh];exact Nat.le_refl _) (fun k x _=>by show w1.heap[x]? =_;rw[hh]) (fun k b r _ _ _ _=>by show w1.heap[r.1]? =_;rw[hh])⟩,hle⟩
 ·show r.1<w1.heap.size;rw[hh];exact (h.apart k r hr).2
 ·show b<w1.heap.size;rw[hh];exact h.lt b hb
 ·show _<=w1.heap.size;rw[hh];exact h.size
 ·intro b hb hq
  show w1.heap[b]? =_
  rw[hh];exact h.same b hb hq
theorem MRel.fr (h:MRel B S G) (f:Nat->AV):MRel B {S with fr:=f} G:={h with}
theorem MRel.take (h:MRel B S G) {r:Nat} {o:Obj} (hr:∀k q,G.κ k=some q→q.1≠r∧¬G.ft k r) (hI:¬G.I r) (hB:B.w.heap.size≤r):∃G',G'.w=G.w.putObj r o∧G'.I=G.I∧MRel B S G'∧LE0 G G':=by
 let G':Gh:=⟨G.κ,G.dead,G.I,G.w.putObj r o,G.ft⟩
 have hsame:∀q,q≠r->G'.w.heap[q]? =G.w.heap[q]? :=fun q hq=>World.putObj_heap_other hq
 have hsz:G'.w.heap.size=G.w.heap.size:=World.putObj_size
 have hle:LE0 G G':=⟨fun _ _ hr=> .inl hr,fun _ hd=>hd,fun _ hb=>hb,fun q hq=>hsame q (fun e=>hI (e▸hq))⟩
 refine ⟨G',rfl,rfl,⟨fun k=>(h.blk k).le0 hle fun q hq=>hsame q.1 (hr k q hq).1,h.inj,h.dead,h.live,fun k q hq=>⟨(h.apart k q hq).1,by rw[hsz];exact (h.apart k q hq).2⟩,fun b hb=>by rw[hsz];exact h.lt b hb,h.loc,h.keep,h.heap,h.nx,h.gone,h.I0,h.I1,h.os,h.tape,h.output,by rw[hsz];exact h.size,?_,h.hno,h.fo.on (fun k r hr=> .inl ⟨hr,rfl,fun _ q _ _=>q⟩) (fun x hx=> .inl hx) (by rw[hsz];exact Nat.le_refl _) (fun k x hx=>by obtain ⟨⟨q,h1⟩,h2⟩:=hx;exact hsame x fun e=>(hr k q h1).2 (e▸h2)) (fun k b q hb hk _ _=>hsame q.1 (hr k q hk).1)⟩,hle⟩
 intro b hb hq
 exact (hsame b (by omega)).trans (h.same b hb hq)
end
end Go.AV
end
noncomputable section
namespace Go.AV
open Go.RowKit Go.RG
def binI (op:BinOp) (k:IntKind) (a b:Int):Option AV:=
 match op with
 | .add=>some (.it k (k.wrap (a+b)))
 | .sub=>some (.it k (k.wrap (a-b)))
 | .mul=>some (.it k (k.wrap (a*b)))
 | .quo=>if b=0 then none else some (.it k (k.wrap (a.tdiv b)))
 | .rem=>if b=0 then none else some (.it k (a.tmod b))
 | .and=>some (.it k (bits .and k a b))
 | .or=>some (.it k (bits .or k a b))
 | .xor=>some (.it k (bits .xor k a b))
 | .lss=>some (.bl (decide (a<b)))
 | .leq=>some (.bl (decide (a<=b)))
 | .gtr=>some (.bl (decide (b<a)))
 | .geq=>some (.bl (decide (b<=a)))
 |_=>none
def shI (op:BinOp) (k:IntKind) (a b:Int):Option AV:=
 if b<0 then none else
 match op with
 | .shl=>some (.it k (k.wrap (a*2^(min b.toNat k.bits))))
 | .shr=>some (.it k (a.fdiv (2^(min b.toNat k.bits))))
 |_=>none
def binS (op:BinOp) (a b:List UInt8):Option AV:=
 match op with
 | .add=>if a.length+b.length<=9223372036854775807 then some (.st (a++b)) else none
 | .lss=>some (.bl (Op.bytesLess a b))
 | .leq=>some (.bl (Op.bytesLess a b||a==b))
 | .gtr=>some (.bl (!(Op.bytesLess a b||a==b)))
 | .geq=>some (.bl (!Op.bytesLess a b))
 |_=>none
def eq1:Nat→AV→AV→Option Bool
 |0, .bl a, .bl b=>some (a==b)
 |1, .it k a, .it k' b=>if k=k' then some (a==b) else none
 |2, .st a, .st b=>some (a==b)
 |_,_,_=>none
def eqP (live:Key→Bool) (kind:Nat) (x y:AV):Option Bool:=
 match kind with
 | 3=>match x,y with
   | .nptr, .nptr=>some true
   | .nptr, .ep _ _=>some false
   | .ep _ _, .nptr=>some false
   | .nptr, .pt k _=>if live k then some false else none
   | .pt k _, .nptr=>if live k then some false else none
   |_,_=>none
 | 4=>match x,y with
   | .sl true _ _, .sl true _ _=>some true
   | .sl false n _, .sl true _ _=>if 0<n then some false else none
   | .sl true _ _, .sl false n _=>if 0<n then some false else none
   |_,_=>none
 |k=>eq1 k x y
def eqL:List Nat→List AV→List AV→Option Bool
 | [],[],[]=>some true
 | k::ks,a::r,b::q=>match eq1 k a b,eqL ks r q with
   |some x,some y=>some (x&&y)
   |_,_=>none
 |_,_,_=>none
def ydu (cells:List AV):List (Nat×Nat×AV)→Option (List AV)
 | []=>some cells
 |(off,sz,v)::r=>if v.cells.length=sz/\off+sz<=cells.length/\v.cells.all AV.one=true then ydu (cells.take off++v.cells++cells.drop (off+sz)) r else none
def bnd (e:AOpd→AV) (d:Int):Option AOpd→Option Int
 |none=>some d
 | some x=>match e x with
   | .it _ n=>some n
   |_=>none
def mnL (mx:Bool) (k:IntKind) (a:Int):List AV→Option AV
 | []=>some (.it k a)
 | .it k' b::r=>if k'=k then mnL mx k (if mx then (if b>a then b else a) else (if b<a then b else a)) r else none
 |_::_=>none
def pval (live:Key→Bool) (e:AOpd→AV):AOp→Option AV
 | .mv x=>some (e x)
 | .pick c a b=>match e c with
   | .bl true=>some (e a)
   | .bl false=>some (e b)
   |_=>none
 | .bld z parts=>(ydu z (parts.map fun p=>(p.1,p.2.1,e p.2.2))).map .agg
 | .nck x=>match e x with
   | .pt k off=>if live k then some (.pt k off) else none
   | .ep xs off=>some (.ep xs off)
   | .fn (.func f) a c=>some (.fn (.func f) a c)
   |_=>none
 | .bin op x y=>match e x,e y with
   | .it k a, .it k' b=>if op= .shl∨op= .shr then shI op k a b else if k=k' then binI op k a b else none
   | .st a, .st b=>binS op a b
   |_,_=>none
 | .eq neg k x y=>(eqP live k (e x) (e y)).map fun b=> .bl (neg !=b)
 | .eqs neg ks x y=>match e x,e y with
   | .agg a, .agg b=>(eqL ks a b).map fun r=> .bl (neg !=r)
   |_,_=>none
 | .un op x=>match op,e x with
   | .neg, .it k n=>some (.it k (k.wrap (0-n)))
   | .not, .bl b=>some (.bl (!b))
   |_,_=>none
 | .cvi k x=>match e x with
   | .it _ n=>some (.it k (k.wrap n))
   |_=>none
 | .cvs x=>match e x with
   | .st l=>some (.st l)
   |_=>none
 | .sls x lo hi=>match e x with
   | .st l=>match bnd e 0 lo,bnd e l.length hi with
     |some a,some b=>if 0<=a/\a<=b/\b<=l.length then some (.st ((l.drop a.toNat).take (b.toNat-a.toNat))) else none
     |_,_=>none
   |_=>none
 | .sll sz x lo hi=>match e x with
   | .sl z n xs=>match bnd e 0 lo,bnd e n hi with
     |some a,some b=>if 0<=a/\a<=b/\b<=n then some (.sl z (b.toNat-a.toNat) ((xs.drop (a.toNat*sz)).take ((b.toNat-a.toNat)*sz))) else none
     |_,_=>none
   |_=>none
 | .fad off x=>match e x with
   | .pt k o=>if live k then some (.pt k (o+off)) else none
   | .ep xs o=>some (.ep xs (o+off))
   |_=>none
 | .fld g off sz x=>match e x with
   | .agg cs=>if g then some (.agg ((cs.drop off).take sz)) else cs[off]?
   |_=>none
 | .iad sz x i=>match e x,e i with
   | .sl _ n xs, .it _ i=>if 0<=i/\i<n then some (.ep xs (i.toNat*sz)) else none
   | .gs k n, .it _ i=>if live k/\0<=i/\i<n then some (.pt k (i.toNat*sz)) else none
   |_,_=>none
 | .iada len sz x i=>match e x,e i with
   | .pt k o, .it _ i=>if live k/\0<=i/\i<len then some (.pt k (o+i.toNat*sz)) else none
   | .ep xs o, .it _ i=>if 0<=i/\i<len then some (.ep xs (o+i.toNat*sz)) else none
   |_,_=>none
 | .idxs x i=>match e x,e i with
   | .st l, .it _ i=>if 0<=i/\i<l.length then some (.it .u8 ((l[i.toNat]?.getD 0).toNat)) else none
   |_,_=>none
 | .idxa g len sz x i=>match e x,e i with
   | .agg cs, .it _ i=>if 0<=i/\i<len then (if g then some (.agg ((cs.drop (i.toNat*sz)).take sz)) else cs[i.toNat*sz]?) else none
   |_,_=>none
 | .ext x i=>match e x with
   | .tup vs=>vs[i]?
   |_=>none
 | .lens x=>match e x with
   | .st l=>some (.it .i64 l.length)
   |_=>none
 | .len x=>match e x with
   | .sl _ n _=>some (.it .i64 n)
   | .gs k n=>if live k then some (.it .i64 n) else none
   |_=>none
 | .cpn x=>match e x with
   | .sl true _ _=>some (.it .i64 0)
   |_=>none
 | .mnx mx xs=>match xs.map e with
   | .it k a::r=>mnL mx k a r
   |_=>none
 | .mkf f a c=>some (.fn f (a.map e) (c.map e))
 |_=>none
section
variable {P:Program} {B:Base} [GB P B] {N:Nat} {S:St} {a:Act} {G:Gh}
def yav (S:St) (k:Key):Bool:=(S.M k).isSome
theorem VR.it_inv {k:IntKind} {n:Int} {v:Value} (h:VR G (.it k n) v):v= .int k n:=by cases h;rfl
theorem VR.bl_inv {b:Bool} {v:Value} (h:VR G (.bl b) v):v= .bool b:=by cases h;rfl
theorem VR.st_inv {l:List UInt8} {v:Value} (h:VR G (.st l) v):∃s:ByteArray,v= .string s/\s.data.toList=l:=by cases h with|st _ s hs=>exact ⟨s,rfl,hs⟩
theorem VR.nptr_inv {v:Value} (h:VR G .nptr v):v= .pointer none:=by cases h;rfl
theorem VR.agg_inv {cs:List AV} {v:Value} (h:VR G (.agg cs) v):∃vs:Array Value,v= .agg vs∧vs.size=cs.length∧(∀(j:Nat) (u:AV) (x:Value),cs[j]? =some u→vs[j]? =some x→VR G u x)∧∀(j:Nat) (x:Value),vs[j]? =some x→x.oneCell'=true:=by
 cases h with|agg _ vs a b c=>exact ⟨vs,rfl,a,b,c⟩
theorem VR.tup_inv {cs:List AV} {v:Value} (h:VR G (.tup cs) v):∃vs:Array Value,v= .tuple vs∧vs.size=cs.length∧(∀(j:Nat) (u:AV) (x:Value),cs[j]? =some u→vs[j]? =some x→VR G u x):=by
 cases h with|tup _ vs a b=>exact ⟨vs,rfl,a,b⟩
theorem VR.nsl_inv {n:Nat} {xs:List AV} {v:Value} (h:VR G (.sl true n xs) v):v= .slice none 0 0/\n=0/\xs= []:=by cases h with|nsl _ _ _ a b=>exact ⟨rfl,a,b⟩
theorem VR.sl_inv {z:Bool} {n:Nat} {xs:List AV} {v:Value} (h:VR G (.sl z n xs) v):(v= .slice none 0 0∧n=0∧xs= [])∨(z=false∧n=0∧xs= []∧∃a cap,v= .slice (some a) 0 cap)∨(z=false∧∃b off cap,∃f:Nat→Value,v= .slice (some ⟨b,off,none⟩) n cap∧G.I b∧(∀(j:Nat) (u:AV),xs[j]? =some u→G.w.cell? ⟨b,off+j,none⟩=some (f j))∧(∀(j:Nat) (u:AV),xs[j]? =some u→VR G u (f j))∧
  (∀(j:Nat) (u:AV),xs[j]? =some u->(f j).oneCell'=true)/\n<=cap/\n<=maxLen/\noLs xs=true):=by
 cases h with
 |nsl _ _ _ a b=>exact .inl ⟨rfl,a,b⟩
 |esl _ _ a b ad cap=>exact .inr (.inl ⟨rfl,a,b,ad,cap,rfl⟩)
 |sl _ _ b off cap f a1 a2 a3 a4 a5 a6 a7=>exact .inr (.inr ⟨rfl,b,off,cap,f,rfl,a1,a2,a3,a4,a5,a6,a7⟩)
theorem VR.ep_inv {off:Nat} {xs:List AV} {v:Value} (h:VR G (.ep xs off) v):∃b base,∃f:Nat→Value,v= .pointer (some ⟨b,base+off,none⟩)∧G.I b∧(∀(j:Nat) (u:AV),xs[j]? =some u→G.w.cell? ⟨b,base+j,none⟩=some (f j))∧(∀(j:Nat) (u:AV),xs[j]? =some u→VR G u (f j))∧
  (∀(j:Nat) (u:AV),xs[j]? =some u->(f j).oneCell'=true)/\noLs xs=true:=by
 cases h with|ep _ _ b base f a1 a2 a3 a4 a5=>exact ⟨b,base,f,rfl,a1,a2,a3,a4,a5⟩
theorem VR.fn_inv {f:Fn} {p c:List AV} {v:Value} (h:VR G (.fn f p c) v):∃vp vc:Array Value,v= .func f vp vc∧vp.size=p.length∧vc.size=c.length∧(∀(j:Nat) (u:AV) (x:Value),p[j]? =some u→vp[j]? =some x→VR G u x)∧(∀(j:Nat) (u:AV) (x:Value),c[j]? =some u→vc[j]? =some x→VR G u x):=by
 cases h with|fn _ _ _ va vc a1 a2 a3 a4=>exact ⟨va,vc,rfl,a1,a2,a3,a4⟩
theorem VR.gs_inv (h:MRel B S G) {k:Key} {n:Nat} {v:Value} (hl:yav S k=true) (hv:VR G (.gs k n) v):∃g cap,G.κ k=some (g,cap)∧v= .slice (some ⟨g,0,none⟩) n cap:=by
 cases hv with
 |gs _ _ b cap hk=>exact ⟨b,cap,hk,rfl⟩
 | gsd _ _ _ hk _=>
   have:=((h.dead k).1 hk).1
   simp[yav,this] at hl
theorem VR.pt_inv (h:MRel B S G) {k:Key} {n:Nat} {v:Value} (hl:yav S k=true) (hv:VR G (.pt k n) v):∃g cap,G.κ k=some (g,cap)∧v= .pointer (some ⟨g,n,none⟩):=by
 cases hv with
 |pt _ _ b cap hk=>exact ⟨b,cap,hk,rfl⟩
 | ptd _ _ _ hk _=>
   have:=((h.dead k).1 hk).1
   simp[yav,this] at hl
def yaU (P:Program) (a:Act) (G:Gh) (o:Oper) (u:AV):Prop:=∃v,(execOp a.eval o).run P G.w= .ok (.value v) G.w/\VR G u v
theorem y_of {o:Oper} {s:Sem Value} {u:AV} {v:Value} (hs:execOp a.eval o=(do pure (.value (← s)))) (hr:s.run P G.w= .ok v G.w) (hv:VR G u v):yaU P a G o u:=
 ⟨v,by rw[hs];simp[hr],hv⟩
theorem yjb {t e:TypeId} (h:P.underlying t=some (.slice e)):P.elem t=e∧P.underlying t=some (.slice (P.elem t)):=by
 have:P.elem t=e:=by simp[Program.elem,h]
 exact ⟨this,by rw[this];exact h⟩
theorem ys9 (h:Rel B N S a G) {o:Oper} {op:BinOp} {t yt:TypeId} {x y:Operand} {ux uy:AOpd} (ho:o.op= .binOp op t x y yt) (hx:yaf P N x=some ux) (hy:yaf P N y=some uy) (hne:¬(op= .eql∨op= .neq))
  {u:AV} (hv:pval (yav S) (ev S.fr) (.bin op ux uy)=some u):yaU P a G o u:=by
 have rx:=yaM h hx
 have ry:=yaM h hy
 have hg:∀p q,(eqGuard op t x y p q).run P G.w= .ok () G.w:=by
  intro p q
  unfold eqGuard
  cases op<;>first|(exact absurd (.inl rfl) hne)|(exact absurd (.inr rfl) hne)|simp
 simp only[pval] at hv
 split at hv
 ·rename_i k p k' q e1 e2
  rw[e1] at rx;rw[e2] at ry
  have e3:=rx.it_inv
  have e4:=ry.it_inv
  have hex:execOp a.eval o=(do pure (.value (<-(do eqGuard op t x y (.int k p) (.int k' q);binOp op t (.int k p) (.int k' q))))):=by simp only[execOp,ho,e3,e4]
  have key:∀v,(binOp op t (.int k p) (.int k' q)).run P G.w= .ok v G.w->VR G u v->yaU P a G o u:=fun v hr hv=>⟨v,by rw[hex];simp[hg,hr],hv⟩
  split at hv
  ·rename_i hs
   unfold shI at hv
   split at hv
   ·cases hv
   ·rename_i hb
    rcases hs with rfl|rfl
    ·simp only[Option.some.injEq] at hv;subst hv
     exact key _ (by simp[binOp,Op.shift,hb]) (.it _ _)
    ·simp only[Option.some.injEq] at hv;subst hv
     exact key _ (by simp[binOp,Op.shift,hb]) (.it _ _)
  ·rename_i hs
   split at hv
   ·rename_i hk
    subst hk
    cases op<;>simp only[binI] at hv<;>first
     |(cases hv;done)
     |(simp only[Option.some.injEq] at hv;subst hv;exact key _ (by simp[binOp,Op.intArith,go_sem]) (.it _ _))
     |(simp only[Option.some.injEq] at hv;subst hv;exact key _ (by simp[binOp,Op.intCmp]) (.bl _))
     | (split at hv
        ·cases hv
        ·rename_i hb
         simp only[Option.some.injEq] at hv;subst hv;exact key _ (by simp[binOp,Op.intDiv,hb]) (.it _ _))
   ·cases hv
 ·rename_i p q e1 e2
  rw[e1] at rx;rw[e2] at ry
  obtain ⟨s,e3,hs⟩:=rx.st_inv
  obtain ⟨s',e4,hs'⟩:=ry.st_inv
  have hex:execOp a.eval o=(do pure (.value (<-(do eqGuard op t x y (.string s) (.string s');binOp op t (.string s) (.string s'))))):=by simp only[execOp,ho,e3,e4]
  have key:∀v,(binOp op t (.string s) (.string s')).run P G.w= .ok v G.w->VR G u v->yaU P a G o u:=fun v hr hv=>⟨v,by rw[hex];simp[hg,hr],hv⟩
  have l1:s.toList=p:=by rw[ByteArray.toList_eq];exact hs
  have l2:s'.toList=q:=by rw[ByteArray.toList_eq];exact hs'
  cases op<;>simp only[binS] at hv<;>first
   |(cases hv;done)
   |(simp only[Option.some.injEq] at hv;subst hv;exact key _ (by simp[binOp,Op.stringOp,l1,l2]) (.bl _))
   | (split at hv
      ·rename_i hb
       simp only[Option.some.injEq] at hv;subst hv
       refine key (.string (s++s')) ?_ (.st _ _ (by simp[<-hs,<-hs']))
       have hz:¬(((s.size+s'.size:Nat):Int)>IntKind.i64.max):=by
        have q1:s.size=p.length:=by rw[<-hs];simp
        have q2:s'.size=q.length:=by rw[<-hs'];simp
        rw[q1,q2]
        have:IntKind.i64.max=9223372036854775807:=by decide
        rw[this];omega
       simp only[binOp,Op.stringOp,hz,if_false];rfl
      ·cases hv)
 ·cases hv
theorem y_mv (h:Rel B N S a G) {o:Oper} {x:Operand} {ux:AOpd} (ho:o.op= .move x∨o.op= .assign x) (hx:yaf P N x=some ux):yaU P a G o (ev S.fr ux):=
 ⟨a.eval x,by rcases ho with ho|ho<;>simp[execOp,ho],yaM h hx⟩
theorem ysl (h:Rel B N S a G) {o:Oper} {c x y:Operand} {uc ux uy:AOpd} (ho:o.op= .pick c x y) (hc:yaf P N c=some uc) (hx:yaf P N x=some ux) (hy:yaf P N y=some uy) {u:AV} (hv:pval (yav S) (ev S.fr) (.pick uc ux uy)=some u):yaU P a G o u:=by
 have rc:=yaM h hc
 simp only[pval] at hv
 split at hv<;>simp only[Option.some.injEq,reduceCtorEq] at hv
 ·rename_i e;rw[e] at rc;subst hv
  exact ⟨a.eval x,by simp[execOp,ho,rc.bl_inv,asBool],yaM h hx⟩
 ·rename_i e;rw[e] at rc;subst hv
  exact ⟨a.eval y,by simp[execOp,ho,rc.bl_inv,asBool],yaM h hy⟩
theorem yta (h:Rel B N S a G) {o:Oper} {x:Operand} {ux:AOpd} (ho:o.op= .nilCheck x) (hx:yaf P N x=some ux) {u:AV} (hv:pval (yav S) (ev S.fr) (.nck ux)=some u):yaU P a G o u:=by
 have rx:=yaM h hx
 simp only[pval] at hv
 split at hv
 ·rename_i k off e;rw[e] at rx
  split at hv
  ·rename_i hl
   simp only[Option.some.injEq] at hv;subst hv
   obtain ⟨g,cap,hk,e2⟩:=rx.pt_inv h.toMRel hl
   exact ⟨a.eval x,by simp[execOp,ho,e2],rx⟩
  ·cases hv
 ·rename_i xs off e;rw[e] at rx
  simp only[Option.some.injEq] at hv;subst hv
  obtain ⟨b,base,f,e2,_⟩:=rx.ep_inv
  exact ⟨a.eval x,by simp[execOp,ho,e2],rx⟩
 ·rename_i f p c e;rw[e] at rx
  simp only[Option.some.injEq] at hv;subst hv
  obtain ⟨vp,vc,e2,_⟩:=rx.fn_inv
  exact ⟨a.eval x,by simp[execOp,ho,e2],rx⟩
 ·cases hv
theorem y_un (h:Rel B N S a G) {o:Oper} {op:UnOp} {t:TypeId} {x:Operand} {ux:AOpd} (ho:o.op= .unOp op t x) (hx:yaf P N x=some ux) {u:AV} (hv:pval (yav S) (ev S.fr) (.un op ux)=some u):yaU P a G o u:=by
 have rx:=yaM h hx
 simp only[pval] at hv
 split at hv<;>simp only[Option.some.injEq,reduceCtorEq] at hv
 ·rename_i k n e;rw[e] at rx;subst hv
  exact ⟨.int k (k.wrap (0-n)),by simp[execOp,ho,rx.it_inv,Op.unary,Op.intArith], .it _ _⟩
 ·rename_i b e;rw[e] at rx;subst hv
  exact ⟨.bool (!b),by simp[execOp,ho,rx.bl_inv,Op.unary], .bl _⟩
theorem yte (h:Rel B N S a G) {o:Oper} {k ks:IntKind} {s d:TypeId} {x:Operand} {ux:AOpd} (ho:o.op= .convert s d x) (hs:P.underlying s=some (.int ks)) (hd:P.underlying d=some (.int k)) (hx:yaf P N x=some ux) {u:AV} (hv:pval (yav S) (ev S.fr) (.cvi k ux)=some u):yaU P a G o u:=by
 have rx:=yaM h hx
 simp only[pval] at hv
 split at hv<;>simp only[Option.some.injEq,reduceCtorEq] at hv
 rename_i n e;rw[e] at rx;subst hv
 exact ⟨.int k (k.wrap n),by simp[execOp,ho,rx.it_inv,convert,run_underlying hs,run_underlying hd,Conv.intToInt], .it _ _⟩
theorem ytt (h:Rel B N S a G) {o:Oper} {s d:TypeId} {x:Operand} {ux:AOpd} (ho:o.op= .convert s d x) (hs:P.underlying s=some .string) (hd:P.underlying d=some .string) (hx:yaf P N x=some ux) {l:List UInt8} (hv:ev S.fr ux= .st l):yaU P a G o (.st l):=by
 have rx:=yaM h hx
 rw[hv] at rx
 obtain ⟨q,e,hq⟩:=rx.st_inv
 exact ⟨.string q,by simp[execOp,ho,e,convert,run_underlying hs,run_underlying hd], .st _ _ hq⟩
theorem ytE (h:Rel B N S a G) {o:Oper} {t:TypeId} {x:Operand} {f sz:Nat} {fs:Array Field} {fd:Field} {ux:AOpd} (ho:o.op= .fieldAddr t x f) (ht:P.underlying t=some (.struct fs)) (hf:fs[f]? =some fd) (hsz:szOf P fd.type=some (sz+1)) (hx:yaf P N x=some ux)
  {u:AV} (hv:pval (yav S) (ev S.fr) (.fad fd.offset ux)=some u):yaU P a G o u:=by
 have rx:=yaM h hx
 have hrun:∀ad:Addr,a.eval x= .pointer (some ad)→(execOp a.eval o).run P G.w= .ok (.value (.pointer (some (ad.add fd.offset)))) G.w:=by
  intro ad e
  unfold szOf at hsz
  cases hi:P.info? fd.type with
  |none=>rw[hi] at hsz;cases hsz
  | some i=>
    rw[hi] at hsz
    simp only[Option.map_some,Option.some.injEq] at hsz
    simp[execOp,ho,e,Instr.fieldAt,run_underlying ht,hf,Instr.sureAddr,fieldPlace,sizeOf,typeInfo,hi,hsz]
 simp only[pval] at hv
 split at hv
 ·rename_i k off e;rw[e] at rx
  split at hv
  ·rename_i hl
   simp only[Option.some.injEq] at hv;subst hv
   obtain ⟨g,cap,hk,e2⟩:=rx.pt_inv h.toMRel hl
   refine ⟨_,hrun _ e2,?_⟩
   have:(⟨g,off,none⟩:Addr).add fd.offset=⟨g,off+fd.offset,none⟩:=by unfold Addr.add;split<;>simp_all
   rw[this];exact .pt k _ g cap hk
  ·cases hv
 ·rename_i xs off e;rw[e] at rx
  simp only[Option.some.injEq] at hv;subst hv
  obtain ⟨b,base,f,e2,a1,a2,a3,a4,a5⟩:=rx.ep_inv
  refine ⟨_,hrun _ e2,?_⟩
  have:(⟨b,base+off,none⟩:Addr).add fd.offset=⟨b,base+(off+fd.offset),none⟩:=by unfold Addr.add;split<;>simp_all[Nat.add_assoc]
  rw[this];exact .ep xs _ b base f a1 a2 a3 a4 a5
 ·cases hv
theorem yd2 (b o n:Nat):(⟨b,o,none⟩:Addr).add n=⟨b,o+n,none⟩:=by unfold Addr.add;split<;>simp_all
theorem ytk (h:Rel B N S a G) {o:Oper} {t e:TypeId} {x i:Operand} {sz:Nat} {ux ui:AOpd} (ho:o.op= .indexAddr t x i) (ht:P.underlying t=some (.slice e)) (hsz:szOf P e=some sz) (hx:yaf P N x=some ux) (hi:yaf P N i=some ui)
  {u:AV} (hv:pval (yav S) (ev S.fr) (.iad sz ux ui)=some u):yaU P a G o u:=by
 have rx:=yaM h hx
 have ri:=yaM h hi
 obtain ⟨he,ht'⟩:=yjb ht
 have hs:(sizeOf (P.elem t)).run P G.w= .ok sz G.w:=by
  rw[he];unfold szOf at hsz
  cases hq:P.info? e with
  |none=>rw[hq] at hsz;cases hsz
  |some q=>rw[hq] at hsz;simp only[Option.map_some,Option.some.injEq] at hsz;simp[sizeOf,typeInfo,hq,hsz]
 have hrun:∀(b off n cap:Nat) (k:IntKind) (j:Int),a.eval x= .slice (some ⟨b,off,none⟩) n cap→a.eval i= .int k j→0≤j∧j<n→(execOp a.eval o).run P G.w= .ok (.value (.pointer (some ⟨b,off+j.toNat*sz,none⟩))) G.w:=by
  intro b off n cap k j e1 e2 hj
  simp only[execOp,ho,e1,e2]
  simp[run_indexAt_slice (h:=ht'),hj,hs,yd2]
 simp only[pval] at hv
 split at hv
 ·rename_i z n xs k j e1 e2;rw[e1] at rx;rw[e2] at ri
  split at hv
  ·rename_i hj
   simp only[Option.some.injEq] at hv;subst hv
   rcases rx.sl_inv with ⟨_,hn0,_⟩|⟨_,hn0,_⟩|⟨_,b,off,cap,f,q0,q1,q2,q3,q4,q5,q6,q7⟩
   ·omega
   ·omega
   exact ⟨_,hrun b off n cap k j q0 ri.it_inv hj, .ep xs _ b off f q1 q2 q3 q4 q7⟩
  ·cases hv
 ·rename_i ky n k j e1 e2;rw[e1] at rx;rw[e2] at ri
  split at hv
  ·rename_i hj
   simp only[Option.some.injEq] at hv;subst hv
   obtain ⟨g,cap,hk,q0⟩:=rx.gs_inv h.toMRel hj.1
   refine ⟨_,hrun g 0 n cap k j q0 ri.it_inv hj.2,?_⟩
   rw[Nat.zero_add]
   exact .pt ky _ g cap hk
  ·cases hv
 ·cases hv
theorem yrW (h:Rel B N S a G) {o:Oper} {t e:TypeId} {x i:Operand} {len sz:Nat} {ux ui:AOpd} (ho:o.op= .indexAddr t x i) (ht:P.underlying t=some (.array len e)) (hsz:szOf P e=some sz) (hx:yaf P N x=some ux) (hi:yaf P N i=some ui)
  {u:AV} (hv:pval (yav S) (ev S.fr) (.iada len sz ux ui)=some u):yaU P a G o u:=by
 have rx:=yaM h hx
 have ri:=yaM h hi
 have hs:(sizeOf e).run P G.w= .ok sz G.w:=by
  unfold szOf at hsz
  cases hq:P.info? e with
  |none=>rw[hq] at hsz;cases hsz
  |some q=>rw[hq] at hsz;simp only[Option.map_some,Option.some.injEq] at hsz;simp[sizeOf,typeInfo,hq,hsz]
 have hrun:∀(b off:Nat) (k:IntKind) (j:Int),a.eval x= .pointer (some ⟨b,off,none⟩)→a.eval i= .int k j→0≤j∧j<len→(execOp a.eval o).run P G.w= .ok (.value (.pointer (some ⟨b,off+j.toNat*sz,none⟩))) G.w:=by
  intro b off k j e1 e2 hj
  simp only[execOp,ho,e1,e2]
  simp[Instr.indexAt,run_underlying ht,asIntOf,Instr.sureAddr,hj,hs,yd2]
 simp only[pval] at hv
 split at hv
 ·rename_i ky off k j e1 e2;rw[e1] at rx;rw[e2] at ri
  split at hv
  ·rename_i hj
   simp only[Option.some.injEq] at hv;subst hv
   obtain ⟨g,cap,hk,q0⟩:=rx.pt_inv h.toMRel hj.1
   exact ⟨_,hrun g off k j q0 ri.it_inv hj.2, .pt ky _ g cap hk⟩
  ·cases hv
 ·rename_i xs off k j e1 e2;rw[e1] at rx;rw[e2] at ri
  split at hv
  ·rename_i hj
   simp only[Option.some.injEq] at hv;subst hv
   obtain ⟨b,base,f,q0,q1,q2,q3,q4,q5⟩:=rx.ep_inv
   refine ⟨_,hrun b (base+off) k j q0 ri.it_inv hj,?_⟩
   rw[Nat.add_assoc]
   exact .ep xs _ b base f q1 q2 q3 q4 q5
  ·cases hv
 ·cases hv
theorem yrB (h:Rel B N S a G) {o:Oper} {t:TypeId} {x i:Operand} {ux ui:AOpd} (ho:o.op= .index t x i) (ht:P.underlying t=some .string) (hx:yaf P N x=some ux) (hi:yaf P N i=some ui)
  {u:AV} (hv:pval (yav S) (ev S.fr) (.idxs ux ui)=some u):yaU P a G o u:=by
 have rx:=yaM h hx
 have ri:=yaM h hi
 simp only[pval] at hv
 split at hv
 ·rename_i l k j e1 e2;rw[e1] at rx;rw[e2] at ri
  split at hv
  ·rename_i hj
   simp only[Option.some.injEq] at hv;subst hv
   obtain ⟨s,q0,q1⟩:=rx.st_inv
   have hl:j.toNat<l.length:=by omega
   have hsz:j.toNat<s.size:=by rw[<-q1] at hl;simpa using hl
   have hb:s[j.toNat]? =some (l[j.toNat]?.getD 0):=by
    rw[getElem?_pos s j.toNat hsz]
    congr 1
    subst q1
    rw[List.getElem?_eq_getElem hl]
    rfl
   refine ⟨.int .u8 ((l[j.toNat]?.getD 0).toNat),?_, .it _ _⟩
   simp only[execOp,ho,q0,ri.it_inv,Instr.index]
   simp[asIntOf,run_underlying ht,hj.1,hb]
  ·cases hv
 ·cases hv
theorem ytg (h:Rel B N S a G) {o:Oper} {x:Operand} {i:Nat} {ux:AOpd} (ho:o.op= .extract x i) (hx:yaf P N x=some ux) {u:AV} (hv:pval (yav S) (ev S.fr) (.ext ux i)=some u):yaU P a G o u:=by
 have rx:=yaM h hx
 simp only[pval] at hv
 split at hv
 ·rename_i vs e1;rw[e1] at rx
  obtain ⟨xs,q0,q1,q2⟩:=rx.tup_inv
  have hl:i<xs.size:=by rw[q1];exact (List.getElem?_eq_some_iff.1 hv).1
  refine ⟨xs[i],?_,q2 i u _ hv (Array.getElem?_eq_getElem hl)⟩
  simp[execOp,ho,q0,Instr.extract,hl]
 ·cases hv
theorem ygj (h:Rel B N S a G) {o:Oper} {x:Operand} {ats:Array TypeId} (ho:o.op= .call {callee:= .builtin .len,args:= #[x],argTypes:=ats}) (v:Value) (n:Nat) (e1:a.eval x=v) (e2:(Builtin.len_ ats o.type #[v]).run P G.w= .ok (goInt n) G.w):
  (execOp a.eval o).run P G.w= .ok (.value (.int .i64 n)) G.w:=by
 have _:=(inferInstance:GB P B)
 simp[execOp,ho,resolve,invoke,builtin,e1,e2,goInt]
theorem yrE (h:Rel B N S a G) {o:Oper} {x:Operand} {t:TypeId} {ats:Array TypeId} {ux:AOpd} (ho:o.op= .call {callee:= .builtin .len,args:= #[x],argTypes:=ats}) (hat:ats[0]? =some t) (ht:P.underlying t=some .string) (hx:yaf P N x=some ux)
  {u:AV} (hv:pval (yav S) (ev S.fr) (.lens ux)=some u):yaU P a G o u:=by
 have rx:=yaM h hx
 simp only[pval] at hv
 split at hv
 ·rename_i l e1;rw[e1] at rx
  simp only[Option.some.injEq] at hv;subst hv
  obtain ⟨s,q0,q1⟩:=rx.st_inv
  have hn:s.size=l.length:=by rw[<-q1];simp
  exact ⟨_,ygj h ho _ l.length q0 (by simp[Builtin.len_,hat,run_underlying ht,hn]), .it _ _⟩
 ·cases hv
theorem ytM (h:Rel B N S a G) {o:Oper} {x:Operand} {t e:TypeId} {ats:Array TypeId} {ux:AOpd} (ho:o.op= .call {callee:= .builtin .cap,args:= #[x],argTypes:=ats}) (hat:ats[0]? =some t) (ht:P.underlying t=some (.slice e)) (hx:yaf P N x=some ux)
  {u:AV} (hv:pval (yav S) (ev S.fr) (.cpn ux)=some u):yaU P a G o u:=by
 have rx:=yaM h hx
 simp only[pval] at hv
 split at hv
 ·rename_i n xs e1;rw[e1] at rx
  simp only[Option.some.injEq] at hv;subst hv
  obtain ⟨q0,_,_⟩:=rx.nsl_inv
  exact ⟨_,by simp[execOp,ho,resolve,invoke,builtin,q0,Builtin.cap_,hat,run_underlying ht];rfl, .it _ _⟩
 ·cases hv
theorem ytF (h:Rel B N S a G) {o:Oper} {x:Operand} {t e:TypeId} {ats:Array TypeId} {ux:AOpd} (ho:o.op= .call {callee:= .builtin .len,args:= #[x],argTypes:=ats}) (hat:ats[0]? =some t) (ht:P.underlying t=some (.slice e)) (hx:yaf P N x=some ux)
  {u:AV} (hv:pval (yav S) (ev S.fr) (.len ux)=some u):yaU P a G o u:=by
 have rx:=yaM h hx
 simp only[pval] at hv
 split at hv
 ·rename_i z n xs e1;rw[e1] at rx
  simp only[Option.some.injEq] at hv;subst hv
  rcases rx.sl_inv with ⟨q0,hn0,_⟩|⟨_,hn0,_,ad,cap,q0⟩|⟨_,b,off,cap,f,q0,_⟩
  rotate_left
  ·subst hn0
   exact ⟨_,ygj h ho _ 0 q0 (by simp[Builtin.len_,hat,run_underlying ht]), .it _ _⟩
  ·exact ⟨_,ygj h ho _ n q0 (by simp[Builtin.len_,hat,run_underlying ht]), .it _ _⟩
  ·subst hn0
   exact ⟨_,ygj h ho _ 0 q0 (by simp[Builtin.len_,hat,run_underlying ht]), .it _ _⟩
 ·rename_i k n e1;rw[e1] at rx
  split at hv
  ·rename_i hl
   simp only[Option.some.injEq] at hv;subst hv
   obtain ⟨g,cap,hk,q0⟩:=rx.gs_inv h.toMRel hl
   exact ⟨_,ygj h ho _ n q0 (by simp[Builtin.len_,hat,run_underlying ht]), .it _ _⟩
  ·cases hv
 ·cases hv
theorem ybV {t:TypeId} {sz:Nat} (h:szOf P t=some sz) (w:World):(sizeOf t).run P w= .ok sz w:=by
 unfold szOf at h
 cases hq:P.info? t with
 |none=>rw[hq] at h;cases h
 |some q=>rw[hq] at h;simp only[Option.map_some,Option.some.injEq] at h;simp[sizeOf,typeInfo,hq,h]
theorem yfl {t:TypeId} {sz:Nat} (h:ye7 P t=some (true,sz)):(∀w,(isAgg t).run P w= .ok true w)∧szOf P t=some sz:=by
 unfold ye7 at h
 split at h<;>simp only[Option.some.injEq,Prod.mk.injEq,reduceCtorEq,true_and,false_and] at h
 ·rename_i h1 h2
  exact ⟨fun w=>by simp[isAgg,run_underlying h1],by simp[szOf,h2,h]⟩
 ·rename_i h1 h2
  exact ⟨fun w=>by simp[isAgg,run_underlying h1],by simp[szOf,h2,h]⟩
theorem yeG {t:TypeId} {sz:Nat} (h:ye7 P t=some (false,sz)):(∀w,(isAgg t).run P w= .ok false w)∧szOf P t=some sz:=by
 unfold ye7 at h
 split at h<;>simp only[Option.some.injEq,Prod.mk.injEq,reduceCtorEq,true_and,false_and] at h
 rename_i d i h0 h1 h2 h3
 refine ⟨fun w=> ?_,by simp[szOf,h3,h]⟩
 unfold isAgg
 rw[Sem.run_bind,run_underlying h2]
 cases d<;>first|rfl|exact (h0 _ rfl).elim|exact (h1 _ _ rfl).elim
theorem ykt {cs:List AV} {vs:Array Value} (hl:vs.size=cs.length) (h:∀(j:Nat) (u:AV) (x:Value),cs[j]? =some u→vs[j]? =some x→VR G u x) (h1:∀(j:Nat) (x:Value),vs[j]? =some x→x.oneCell'=true) (off sz:Nat):
  VR G (.agg ((cs.drop off).take sz)) (.agg (vs.extract off (off+sz))):=by
 refine .agg _ _ (by simp[hl];omega) ?_ ?_
 ·intro j u x hu hx
  simp only[List.getElem?_take,List.getElem?_drop] at hu
  split at hu
  ·rw[Array.getElem?_extract] at hx
   split at hx
   ·exact h (off+j) u x hu hx
   ·cases hx
  ·cases hu
 ·intro j x hx
  rw[Array.getElem?_extract] at hx
  split at hx
  ·exact h1 _ x hx
  ·cases hx
theorem ytr (h:Rel B N S a G) {o:Oper} {t:TypeId} {x:Operand} {f sz:Nat} {g:Bool} {fs:Array Field} {fd:Field} {ux:AOpd} (ho:o.op= .field t x f) (ht:P.underlying t=some (.struct fs)) (hf:fs[f]? =some fd) (hsz:ye7 P fd.type=some (g,sz)) (hx:yaf P N x=some ux)
  {u:AV} (hv:pval (yav S) (ev S.fr) (.fld g fd.offset sz ux)=some u):yaU P a G o u:=by
 have rx:=yaM h hx
 simp only[pval] at hv
 split at hv
 ·rename_i cs e1;rw[e1] at rx
  obtain ⟨vs,q0,q1,q2,q3⟩:=rx.agg_inv
  cases g with
  | true=>
    obtain ⟨k1,k2⟩:=yfl hsz
    simp only[if_true,Option.some.injEq] at hv;subst hv
    exact ⟨_,by simp[execOp,ho,q0,Instr.field,run_underlying ht,hf,asAgg,part,k1,ybV k2],ykt q1 q2 q3 fd.offset sz⟩
  | false=>
    obtain ⟨k1,k2⟩:=yeG hsz
    simp only[Bool.false_eq_true,if_false] at hv
    have hl:fd.offset<vs.size:=by rw[q1];exact (List.getElem?_eq_some_iff.1 hv).1
    exact ⟨vs[fd.offset],by simp[execOp,ho,q0,Instr.field,run_underlying ht,hf,asAgg,part,k1,hl],q2 _ u _ hv (Array.getElem?_eq_getElem hl)⟩
 ·cases hv
theorem ytx (h:Rel B N S a G) {o:Oper} {f:Fn} {x c:Array Operand} {ux uc:List AOpd} (ho:o.op= .makeFunc f x c) (hx:trL P N x.toList=some ux) (hc:trL P N c.toList=some uc):yaU P a G o (.fn f (ux.map (ev S.fr)) (uc.map (ev S.fr))):=by
 obtain ⟨a1,a2⟩:=yjM h hx
 obtain ⟨b1,b2⟩:=yjM h hc
 refine ⟨.func f (x.map a.eval) (c.map a.eval),by simp[execOp,ho,Instr.makeFunc], .fn f _ _ _ _ (by simp[<-a1]) (by simp[<-b1]) ?_ ?_⟩
 ·intro j u v hu hv;exact a2 j u v hu (by simpa using hv)
 ·intro j u v hu hv;exact b2 j u v hu (by simpa using hv)
theorem ycY (h:Rel B N S a G) {lo:Option Operand} {ulo:Option AOpd} (hlo:trO P N lo=some ulo) {d n:Int} (hb:bnd (ev S.fr) d ulo=some n):(lo=none∧n=d)∨∃k,lo.map a.eval=some (.int k n):=by
 cases lo with
 |none=>simp only[trO,Option.some.injEq] at hlo;subst hlo;simp only[bnd,Option.some.injEq] at hb;exact .inl ⟨rfl,hb.symm⟩
 | some x=>
   simp only[trO] at hlo
   cases hx:yaf P N x with
   |none=>rw[hx] at hlo;cases hlo
   | some ux=>
     rw[hx] at hlo;simp only[Option.map_some,Option.some.injEq] at hlo;subst hlo
     have rx:=yaM h hx
     simp only[bnd] at hb
     split at hb
     ·rename_i k m e;rw[e] at rx
      simp only[Option.some.injEq] at hb;subst hb
      exact .inr ⟨k,by simp[rx.it_inv]⟩
     ·cases hb
theorem yig (s:Bool) (len cap:Nat) (hle:len≤cap) {lo hi:Option Value} {a b:Int} (hlo:(lo=none∧a=0)∨∃k,lo=some (.int k a)) (hhi:(hi=none∧b=len)∨∃k,hi=some (.int k b)) (h0:0≤a) (h1:a≤b) (h2:b≤len) (w:World):
  (Instr.sliceBounds s len cap lo hi none).run P w= .ok (a.toNat,b.toNat,cap) w:=by
 have e1:b<=(cap:Int):=by omega
 have e2:0<=b:=by omega
 have e3:a<=(b.toNat:Int):=by omega
 rcases hhi with ⟨rfl,rfl⟩|⟨kb,rfl⟩<;>rcases hlo with ⟨rfl,rfl⟩|⟨ka,rfl⟩<;>cases s<;>simp[Instr.sliceBounds,Instr.sliceBound,asIntOf,h0,e1,e2,e3,h2]<;>omega
theorem ytG (h:Rel B N S a G) {o:Oper} {t:TypeId} {x:Operand} {lo hi:Option Operand} {ux:AOpd} {ulo uhi:Option AOpd} (ho:o.op= .slice t x lo hi none) (ht:P.underlying t=some .string) (hx:yaf P N x=some ux) (hlo:trO P N lo=some ulo) (hhi:trO P N hi=some uhi)
  {u:AV} (hv:pval (yav S) (ev S.fr) (.sls ux ulo uhi)=some u):yaU P a G o u:=by
 have rx:=yaM h hx
 simp only[pval] at hv
 split at hv
 ·rename_i l e1;rw[e1] at rx
  obtain ⟨s,q0,q1⟩:=rx.st_inv
  split at hv
  ·rename_i p q e2 e3
   split at hv
   ·rename_i hc
    simp only[Option.some.injEq] at hv;subst hv
    have hn:s.size=l.length:=by rw[<-q1];simp
    have b1:=ycY h hlo e2
    have b2:=ycY h hhi e3
    rw[<-hn] at b2
    have hsb:=yig (P:=P) false s.size s.size (Nat.le_refl _) (lo:=lo.map a.eval) (hi:=hi.map a.eval) (by rcases b1 with ⟨e,f⟩|b1;exact .inl ⟨by rw[e];rfl,f⟩;exact .inr b1) (by rcases b2 with ⟨e,f⟩|b2;exact .inl ⟨by rw[e];rfl,f⟩;exact .inr b2) hc.1 hc.2.1 (by rw[hn];exact hc.2.2) G.w
    refine ⟨.string (s.extract p.toNat q.toNat),?_, .st _ _ ?_⟩
    ·simp only[execOp,ho,q0,Instr.sliceAt,Instr.slice]
     simp[run_underlying ht,hsb]
    ·subst q1
     simp[ByteArray.data_extract,List.extract_eq_take_drop]
   ·cases hv
  ·cases hv
 ·cases hv
theorem yts (h:Rel B N S a G) {o:Oper} {t e:TypeId} {sz:Nat} {x:Operand} {lo hi:Option Operand} {ux:AOpd} {ulo uhi:Option AOpd} (ho:o.op= .slice t x lo hi none) (ht:P.underlying t=some (.slice e)) (hsz:szOf P e=some sz) (hx:yaf P N x=some ux) (hlo:trO P N lo=some ulo) (hhi:trO P N hi=some uhi)
  {u:AV} (hv:pval (yav S) (ev S.fr) (.sll sz ux ulo uhi)=some u):yaU P a G o u:=by
 have rx:=yaM h hx
 simp only[pval] at hv
 split at hv
 ·rename_i z n xs e1;rw[e1] at rx
  split at hv
  ·rename_i p q e2 e3
   split at hv
   ·rename_i hc
    simp only[Option.some.injEq] at hv;subst hv
    rcases rx.sl_inv with ⟨q0,hn0,hx0⟩|⟨hz0,hn0,hx0,ad,cap,q0⟩|⟨hz0,b,off,cap,f,q0,q1,q2,q3,q4,q5,q6,q7⟩
    ·subst hn0;subst hx0
     have hp0:p=0:=by omega
     have hq0:q=0:=by omega
     subst hp0;subst hq0
     have b1:=ycY h hlo e2
     have b2:=ycY h hhi e3
     have hsb:=yig (P:=P) true 0 0 (Nat.le_refl _) (lo:=lo.map a.eval) (hi:=hi.map a.eval) (by rcases b1 with ⟨e,f⟩|b1;exact .inl ⟨by rw[e];rfl,f⟩;exact .inr b1) (by rcases b2 with ⟨e,f⟩|b2;exact .inl ⟨by rw[e];rfl,f⟩;exact .inr b2) (by omega) (by omega) (by omega) G.w
     refine ⟨.slice none 0 0,?_, .nsl _ _ _ (by simp) (by simp)⟩
     simp only[execOp,ho,q0,Instr.sliceAt,Instr.slice]
     simp[run_underlying ht,hsb,ybV hsz]
    ·subst hz0;subst hn0;subst hx0
     have hp0:p=0:=by omega
     have hq0:q=0:=by omega
     subst hp0;subst hq0
     have b1:=ycY h hlo e2
     have b2:=ycY h hhi e3
     have hsb:=yig (P:=P) true 0 cap (Nat.zero_le _) (lo:=lo.map a.eval) (hi:=hi.map a.eval) (by rcases b1 with ⟨e,f⟩|b1;exact .inl ⟨by rw[e];rfl,f⟩;exact .inr b1) (by rcases b2 with ⟨e,f⟩|b2;exact .inl ⟨by rw[e];rfl,f⟩;exact .inr b2) (by omega) (by omega) (by omega) G.w
     by_cases hcp:cap=0
     ·subst hcp
      refine ⟨.slice (some ad) 0 0,?_, .esl _ _ (by simp) (by simp) _ _⟩
      simp only[execOp,ho,q0,Instr.sliceAt,Instr.slice]
      simp[run_underlying ht,hsb,ybV hsz]
     ·refine ⟨.slice (some (ad.add 0)) 0 cap,?_, .esl _ _ (by simp) (by simp) _ _⟩
      simp only[execOp,ho,q0,Instr.sliceAt,Instr.slice]
      simp[run_underlying ht,hsb,ybV hsz,hcp]
    subst hz0
    have b1:=ycY h hlo e2
    have b2:=ycY h hhi e3
    have hsb:=yig (P:=P) true n cap q5 (lo:=lo.map a.eval) (hi:=hi.map a.eval) (by rcases b1 with ⟨e,f⟩|b1;exact .inl ⟨by rw[e];rfl,f⟩;exact .inr b1) (by rcases b2 with ⟨e,f⟩|b2;exact .inl ⟨by rw[e];rfl,f⟩;exact .inr b2) hc.1 hc.2.1 hc.2.2 G.w
    have hsub:∀(j:Nat) (u:AV),((xs.drop (p.toNat*sz)).take ((q.toNat-p.toNat)*sz))[j]? =some u→xs[p.toNat*sz+j]? =some u:=by
     intro j u hu
     simp only[List.getElem?_take,List.getElem?_drop] at hu
     split at hu
     ·exact hu
     ·cases hu
    have hqs:noLs ((xs.drop (p.toNat*sz)).take ((q.toNat-p.toNat)*sz))=true:=yhE (fun u hu=>List.mem_of_mem_drop (List.mem_of_mem_take hu)) q7
    by_cases hcp:cap=p.toNat
    ·have hz:q.toNat-p.toNat=0:=by omega
     refine ⟨.slice (some ⟨b,off,none⟩) (q.toNat-p.toNat) (cap-p.toNat),?_, .sl _ _ b off _ (fun _=>undef) q1 ?_ ?_ ?_ (by omega) (by omega) hqs⟩
     ·subst hcp
      simp only[execOp,ho,q0,Instr.sliceAt,Instr.slice]
      simp[run_underlying ht,hsb,ybV hsz]
     all_goals (intro j u hu;rw[hz] at hu;simp at hu)
    ·refine ⟨.slice (some ⟨b,off+p.toNat*sz,none⟩) (q.toNat-p.toNat) (cap-p.toNat),?_, .sl _ _ b _ _ (fun j=>f (p.toNat*sz+j)) q1 ?_ ?_ ?_ (by omega) (by omega) hqs⟩
     ·simp only[execOp,ho,q0,Instr.sliceAt,Instr.slice]
      simp[run_underlying ht,hsb,ybV hsz,hcp,yd2]
     ·intro j u hu;have:=q2 _ u (hsub j u hu);rwa[<-Nat.add_assoc] at this
     ·intro j u hu;exact q3 _ u (hsub j u hu)
     ·intro j u hu;exact q4 _ u (hsub j u hu)
   ·cases hv
  ·cases hv
 ·cases hv
theorem yrD (h:Rel B N S a G) {o:Oper} {t e:TypeId} {x i:Operand} {len sz:Nat} {g:Bool} {ux ui:AOpd} (ho:o.op= .index t x i) (ht:P.underlying t=some (.array len e)) (hsz:ye7 P e=some (g,sz)) (hx:yaf P N x=some ux) (hi:yaf P N i=some ui)
  {u:AV} (hv:pval (yav S) (ev S.fr) (.idxa g len sz ux ui)=some u):yaU P a G o u:=by
 have rx:=yaM h hx
 have ri:=yaM h hi
 simp only[pval] at hv
 split at hv
 ·rename_i cs k j e1 e2;rw[e1] at rx;rw[e2] at ri
  obtain ⟨vs,q0,q1,q2,q3⟩:=rx.agg_inv
  split at hv
  ·rename_i hj
   cases g with
   | true=>
     obtain ⟨k1,k2⟩:=yfl hsz
     simp only[if_true,Option.some.injEq] at hv;subst hv
     exact ⟨_,by simp only[execOp,ho,q0,ri.it_inv,Instr.index];simp[run_underlying ht,asIntOf,hj,part,k1,ybV k2],ykt q1 q2 q3 _ sz⟩
   | false=>
     obtain ⟨k1,k2⟩:=yeG hsz
     simp only[Bool.false_eq_true,if_false] at hv
     have hl:j.toNat*sz<vs.size:=by rw[q1];exact (List.getElem?_eq_some_iff.1 hv).1
     exact ⟨vs[j.toNat*sz],by simp only[execOp,ho,q0,ri.it_inv,Instr.index];simp[run_underlying ht,asIntOf,hj,part,k1,ybV k2,hl],q2 _ u _ hv (Array.getElem?_eq_getElem hl)⟩
  ·cases hv
 ·cases hv
theorem ypo {u v:AV} {x y:Value} {b:Bool} {kind:Nat} (hu:VR G u x) (hv:VR G v y) (he:eq1 kind u v=some b) {t:TypeId} (ht:ycQ P t=some kind) (d:Nat) (w:World):(Op.equalIn (d+1) t x y).run P w= .ok b w:=by
 unfold eq1 at he
 unfold ycQ at ht
 split at he
 ·simp only[Option.some.injEq] at he;subst he
  have e1:=hu.bl_inv;have e2:=hv.bl_inv;subst e1;subst e2
  split at ht<;>simp only[Option.some.injEq,reduceCtorEq,Nat.reduceEqDiff,Nat.reduceSucc] at ht<;>first|(cases ht;done)|skip
  rename_i hu;exact run_equalIn_bool _ d t _ _ hu
 ·split at he
  ·rename_i hk;subst hk
   simp only[Option.some.injEq] at he;subst he
   have e1:=hu.it_inv;have e2:=hv.it_inv;subst e1;subst e2
   split at ht<;>simp only[Option.some.injEq,reduceCtorEq,Nat.reduceEqDiff,Nat.reduceSucc] at ht<;>first|(cases ht;done)|skip
   rename_i hu;exact run_equalIn_int _ d t _ _ _ _ hu
  ·cases he
 ·simp only[Option.some.injEq] at he;subst he
  obtain ⟨s,e1,h1⟩:=hu.st_inv;obtain ⟨s',e2,h2⟩:=hv.st_inv;subst e1;subst e2;subst h1;subst h2
  split at ht<;>simp only[Option.some.injEq,reduceCtorEq,Nat.reduceEqDiff,Nat.reduceSucc] at ht<;>first|(cases ht;done)|skip
  rename_i hu;rw[run_equalIn_string _ d t _ _ hu,ByteArray.toList_eq,ByteArray.toList_eq]
 ·cases he
theorem yr5 (h:MRel B S G) {u v:AV} {x y:Value} {b:Bool} {kind:Nat} (hu:VR G u x) (hv:VR G v y) (he:eqP (yav S) kind u v=some b) {t:TypeId} (ht:ycQ P t=some kind) (d:Nat) (w:World):(Op.equalIn (d+1) t x y).run P w= .ok b w:=by
 have _:=(inferInstance:GB P B)
 unfold eqP at he
 split at he
 ·have hp:∃e,P.underlying t=some (.pointer e):=by
   unfold ycQ at ht
   split at ht<;>simp only[Option.some.injEq,reduceCtorEq,Nat.reduceEqDiff,Nat.reduceSucc] at ht<;>first|(cases ht;done)|skip
   rename_i e hu;exact ⟨e,hu⟩
  obtain ⟨e,hp⟩:=hp
  split at he
  ·simp only[Option.some.injEq] at he;subst he
   have e1:=hu.nptr_inv;have e2:=hv.nptr_inv;subst e1;subst e2
   simp[Op.equalIn,run_underlying hp]
  ·simp only[Option.some.injEq] at he;subst he
   obtain ⟨bb,base,f,e2,_⟩:=hv.ep_inv
   have e1:=hu.nptr_inv;subst e1;subst e2
   simp[Op.equalIn,run_underlying hp]
  ·simp only[Option.some.injEq] at he;subst he
   obtain ⟨bb,base,f,e2,_⟩:=hu.ep_inv
   have e1:=hv.nptr_inv;subst e1;subst e2
   simp[Op.equalIn,run_underlying hp]
  ·split at he
   ·rename_i hl
    simp only[Option.some.injEq] at he;subst he
    obtain ⟨g,cap,hk,e2⟩:=hv.pt_inv h hl
    have e1:=hu.nptr_inv;subst e1;subst e2
    simp[Op.equalIn,run_underlying hp]
   ·cases he
  ·split at he
   ·rename_i hl
    simp only[Option.some.injEq] at he;subst he
    obtain ⟨g,cap,hk,e2⟩:=hu.pt_inv h hl
    have e1:=hv.nptr_inv;subst e1;subst e2
    simp[Op.equalIn,run_underlying hp]
   ·cases he
  ·cases he
 ·have hp:∃e,P.underlying t=some (.slice e):=by
   unfold ycQ at ht
   split at ht<;>simp only[Option.some.injEq,reduceCtorEq,Nat.reduceEqDiff,Nat.reduceSucc] at ht<;>first|(cases ht;done)|skip
   rename_i e hu;exact ⟨e,hu⟩
  obtain ⟨e,hp⟩:=hp
  split at he
  ·simp only[Option.some.injEq] at he;subst he
   have e1:=hu.nsl_inv.1;have e2:=hv.nsl_inv.1;subst e1;subst e2
   simp[Op.equalIn,run_underlying hp]
  ·split at he
   ·rename_i hn
    simp only[Option.some.injEq] at he;subst he
    have e2:=hv.nsl_inv.1;subst e2
    rcases hu.sl_inv with ⟨_,hn0,_⟩|⟨_,hn0,_⟩|⟨_,bb,off,cap,f,e1,_⟩
    ·omega
    ·omega
    subst e1
    simp[Op.equalIn,run_underlying hp]
   ·cases he
  ·split at he
   ·rename_i hn
    simp only[Option.some.injEq] at he;subst he
    have e1:=hu.nsl_inv.1;subst e1
    rcases hv.sl_inv with ⟨_,hn0,_⟩|⟨_,hn0,_⟩|⟨_,bb,off,cap,f,e2,_⟩
    ·omega
    ·omega
    subst e2
    simp[Op.equalIn,run_underlying hp]
   ·cases he
  ·cases he
 ·exact ypo hu hv he ht d w
end
end Go.AV
end
noncomputable section
namespace Go.AV
open Go.RowKit Go.RG
section
variable {P:Program} {B:Base} [GB P B] {N:Nat} {S:St} {a:Act} {G:Gh}
inductive ydc:Value→Value→Prop
 |b (p q:Bool):ydc (.bool p) (.bool q)
 |i (k:IntKind) (p q:Int):ydc (.int k p) (.int k q)
 |s (p q:ByteArray):ydc (.string p) (.string q)
 |p (p q:Option Addr):ydc (.pointer p) (.pointer q)
 |l (p q:Option Addr) (n m c d:Nat):ydc (.slice p n c) (.slice q m d)
theorem yl2 {u v:AV} {x y:Value} {b:Bool} {kind:Nat} (hu:VR G u x) (hv:VR G v y) (he:eq1 kind u v=some b):ydc x y:=by
 unfold eq1 at he
 split at he
 ·have e1:=hu.bl_inv;have e2:=hv.bl_inv;subst e1;subst e2;exact .b _ _
 ·split at he
  ·rename_i hk;subst hk
   have e1:=hu.it_inv;have e2:=hv.it_inv;subst e1;subst e2;exact .i _ _ _
  ·cases he
 ·obtain ⟨s,e1,h1⟩:=hu.st_inv;obtain ⟨s',e2,h2⟩:=hv.st_inv;subst e1;subst e2;exact .s _ _
 ·cases he
theorem ym3 (h:MRel B S G) {u v:AV} {x y:Value} {b:Bool} {kind:Nat} (hu:VR G u x) (hv:VR G v y) (he:eqP (yav S) kind u v=some b):ydc x y:=by
 unfold eqP at he
 split at he
 ·split at he
  ·have e1:=hu.nptr_inv;have e2:=hv.nptr_inv;subst e1;subst e2;exact .p _ _
  ·obtain ⟨bb,base,f,e2,_⟩:=hv.ep_inv
   have e1:=hu.nptr_inv;subst e1;subst e2;exact .p _ _
  ·obtain ⟨bb,base,f,e2,_⟩:=hu.ep_inv
   have e1:=hv.nptr_inv;subst e1;subst e2;exact .p _ _
  ·split at he
   ·rename_i hl
    obtain ⟨g,cap,hk,e2⟩:=hv.pt_inv h hl
    have e1:=hu.nptr_inv;subst e1;subst e2;exact .p _ _
   ·cases he
  ·split at he
   ·rename_i hl
    obtain ⟨g,cap,hk,e2⟩:=hu.pt_inv h hl
    have e1:=hv.nptr_inv;subst e1;subst e2;exact .p _ _
   ·cases he
  ·cases he
 ·split at he
  ·have e1:=hu.nsl_inv.1;have e2:=hv.nsl_inv.1;subst e1;subst e2;exact .l _ _ _ _ _ _
  ·have e2:=hv.nsl_inv.1;subst e2
   rcases hu.sl_inv with ⟨e1,_,_⟩|⟨_,_,_,ad,cap,e1⟩|⟨_,bb,off,cap,f,e1,_⟩<;>(subst e1;exact .l _ _ _ _ _ _)
  ·have e1:=hu.nsl_inv.1;subst e1
   rcases hv.sl_inv with ⟨e2,_,_⟩|⟨_,_,_,ad,cap,e2⟩|⟨_,bb,off,cap,f,e2,_⟩<;>(subst e2;exact .l _ _ _ _ _ _)
  ·cases he
 ·exact yl2 hu hv he
theorem ypd {op:BinOp} {t:TypeId} {x y:Operand} {p q:Value} {b:Bool} {w:World} (hs:ydc p q) (hop:op= .eql∨op= .neq) (hk:∃k,ycQ P t=some k) (he:∀d,(Op.equalIn (d+1) t p q).run P w= .ok b w):
  ((do eqGuard op t x y p q;binOp op t p q):Sem Value).run P w= .ok (.bool ((op== .neq) !=b)) w:=by
 have hg:(eqGuard op t x y p q).run P w= .ok () w:=by
  cases hs<;>rcases hop with rfl|rfl<;>simp[eqGuard]
 have e1:=he 9999
 have e0:=he 0
 have n0:(BinOp.eql==BinOp.neq)=false:=rfl
 have n1:(BinOp.neq==BinOp.neq)=true:=rfl
 have key:(binOp op t p q).run P w= .ok (.bool ((op== .neq) !=b)) w:=by
  cases hs with
  |b p q=>rcases hop with rfl|rfl<;>(simp only[binOp,Op.equal,Op.maxDepth];simp[e1,n0])
  | i k p q=>
    have:b=(p==q):=by
     obtain ⟨k',hk⟩:=hk
     unfold ycQ at hk
     split at hk<;>first|(cases hk;done)|skip
     all_goals (rename_i hu;simp[Op.equalIn,run_underlying hu] at e0)
     exact e0.symm
    subst this
    rcases hop with rfl|rfl<;>simp[binOp,Op.intCmp,bne,n0]
  | s p q=>
    have:b=(p.toList==q.toList):=by
     obtain ⟨k',hk⟩:=hk
     unfold ycQ at hk
     split at hk<;>first|(cases hk;done)|skip
     all_goals (rename_i hu;simp[Op.equalIn,run_underlying hu] at e0)
     rw[<-e0,ByteArray.toList_eq,ByteArray.toList_eq]
     exact beq_toListBytes p q|>.trans (by rw[ByteArray.toList_eq,ByteArray.toList_eq])
    subst this
    rcases hop with rfl|rfl<;>simp[binOp,Op.stringOp,n0]
  |p p q=>rcases hop with rfl|rfl<;>(simp only[binOp,Op.equal,Op.maxDepth];simp[e1,n0])
  |l p q n m c d=>rcases hop with rfl|rfl<;>(simp only[binOp,Op.equal,Op.maxDepth];simp[e1,n0])
 simp[hg,key]
theorem y_eq (h:Rel B N S a G) {o:Oper} {op:BinOp} {t yt:TypeId} {x y:Operand} {kind:Nat} {ux uy:AOpd} (ho:o.op= .binOp op t x y yt) (hx:yaf P N x=some ux) (hy:yaf P N y=some uy) (hop:op= .eql∨op= .neq) (hk:ycQ P t=some kind)
  {u:AV} (hv:pval (yav S) (ev S.fr) (.eq (op== .neq) kind ux uy)=some u):yaU P a G o u:=by
 have rx:=yaM h hx
 have ry:=yaM h hy
 simp only[pval] at hv
 cases he:eqP (yav S) kind (ev S.fr ux) (ev S.fr uy) with
 |none=>rw[he] at hv;cases hv
 | some b=>
   rw[he] at hv
   simp only[Option.map_some,Option.some.injEq] at hv;subst hv
   exact y_of (by simp only[execOp,ho]) (ypd (x:=x) (y:=y) (ym3 h.toMRel rx ry he) hop ⟨kind,hk⟩ (fun d=>yr5 h.toMRel rx ry he hk d G.w)) (.bl _)
theorem ysq:∀(ks:List Nat) (fs:List Field) (i:Nat) (us vs:List AV) (xs ys:Array Value) (b:Bool) (d:Nat) (w:World),ymt P fs i=some ks→eqL ks us vs=some b→
  (∀(j:Nat) (u:AV),us[j]? =some u->∃x,xs[i+j]? =some x/\VR G u x)->(∀(j:Nat) (u:AV),vs[j]? =some u->∃x,ys[i+j]? =some x/\VR G u x)->
  (Op.eqFields (d+1) xs ys fs).run P w= .ok b w:=by
 intro ks fs
 induction fs generalizing ks with
 | nil=>
   intro i us vs xs ys b d w hf he hx hy
   simp only[ymt,Option.some.injEq] at hf;subst hf
   cases us<;>cases vs<;>simp only[eqL,Option.some.injEq,reduceCtorEq] at he
   subst he;simp[Op.eqFields]
 | cons f fs ih=>
   intro i us vs xs ys b d w hf he hx hy
   simp only[ymt] at hf
   split at hf
   ·rename_i k ks' hk hr
    split at hf
    ·rename_i hc
     simp only[Option.some.injEq] at hf;subst hf
     cases us with
     |nil=>simp[eqL] at he
     | cons u us=>cases vs with
       |nil=>simp[eqL] at he
       | cons v vs=>
         simp only[eqL] at he
         split at he
         ·rename_i p q e1 e2
          simp only[Option.some.injEq] at he;subst he
          obtain ⟨x,hx0,rx⟩:=hx 0 u rfl
          obtain ⟨y,hy0,ry⟩:=hy 0 v rfl
          have hq:=ypo rx ry e1 hk d w
          have hrec:=ih ks' (i+1) us vs xs ys q d w hr e2 (fun j u hu=>by have:=hx (j+1) u (by simpa using hu);rwa[show i+(j+1)=i+1+j by omega] at this) (fun j u hu=>by have:=hy (j+1) u (by simpa using hu);rwa[show i+(j+1)=i+1+j by omega] at this)
          have hag:(isAgg f.type).run P w= .ok false w:=by
           unfold ycQ at hk
           unfold isAgg
           rw[Sem.run_bind]
           split at hk<;>first|(cases hk;done)|skip
           all_goals (rename_i hu;rw[run_underlying hu];rfl)
          rw[Nat.add_zero,<-hc.2.1] at hx0 hy0
          simp only[Op.eqFields,hc.2.2,ne_eq,not_false_eq_true,if_true,part,Sem.run_bind,hag,Result.andThen_ok,Bool.false_eq_true,if_false,hx0,hy0,Sem.run_pure,hq]
          cases p<;>simp[hrec]
         ·cases he
    ·cases hf
   ·cases hf
theorem ytv (h:Rel B N S a G) {o:Oper} {op:BinOp} {t yt:TypeId} {x y:Operand} {ks:List Nat} {ux uy:AOpd} (ho:o.op= .binOp op t x y yt) (hx:yaf P N x=some ux) (hy:yaf P N y=some uy) (hop:op= .eql∨op= .neq) (hk:ynw P t=some ks)
  {u:AV} (hv:pval (yav S) (ev S.fr) (.eqs (op== .neq) ks ux uy)=some u):yaU P a G o u:=by
 have rx:=yaM h hx
 have ry:=yaM h hy
 simp only[pval] at hv
 split at hv
 ·rename_i p q e1 e2;rw[e1] at rx;rw[e2] at ry
  obtain ⟨xs,q0,q1,q2,_⟩:=rx.agg_inv
  obtain ⟨ys,r0,r1,r2,_⟩:=ry.agg_inv
  cases he:eqL ks p q with
  |none=>rw[he] at hv;cases hv
  | some b=>
    rw[he] at hv
    simp only[Option.map_some,Option.some.injEq] at hv;subst hv
    unfold ynw at hk
    split at hk
    ·rename_i fs ht
     split at hk
     ·rename_i hc
      simp only[Bool.and_eq_true,Bool.not_eq_true'] at hc
      have hfs:P.fieldsOf t=fs:=by simp[Program.fieldsOf,ht]
      have ht':P.underlying t=some (.struct (P.fieldsOf t)):=by rw[hfs];exact ht
      have hcell:∀ {cs:List AV} {zs:Array Value},zs.size=cs.length→(∀(j:Nat) (u:AV) (x:Value),cs[j]? =some u→zs[j]? =some x→VR G u x)→∀(j:Nat) (u:AV),cs[j]? =some u→∃x,zs[0+j]? =some x∧VR G u x:=by
       intro cs zs hl hh j u hu
       have hj:j<zs.size:=by rw[hl];exact (List.getElem?_eq_some_iff.1 hu).1
       rw[Nat.zero_add]
       exact ⟨zs[j],Array.getElem?_eq_getElem hj,hh j u _ hu (Array.getElem?_eq_getElem hj)⟩
      have hE:(Op.equalIn 10000 t (.agg xs) (.agg ys)).run P G.w= .ok b G.w:=by
       rw[run_equalIn_agg (d:=9999) (ht:=ht') (hp:=hc.1),hfs]
       exact ysq ks fs.toList 0 p q xs ys b 9998 G.w hk he (hcell q1 q2) (hcell r1 r2)
      have n0:(BinOp.eql==BinOp.neq)=false:=rfl
      refine ⟨.bool ((op== .neq) !=b),?_, .bl _⟩
      simp only[execOp,ho,q0,r0]
      rcases hop with rfl|rfl
      ·simp only[Sem.run_bind,run_eqGuard_agg (hm:=hc.2),Result.andThen_ok,run_eql_struct,hE,n0];simp
      ·have:(binOp .neq t (.agg xs) (.agg ys)).run P G.w= .ok (.bool (!b)) G.w:=by
        simp only[binOp,Op.equal,Op.maxDepth,Sem.run_bind,hE,Result.andThen_ok,Sem.run_pure]
       simp only[Sem.run_bind,run_eqGuard_agg (hm:=hc.2),Result.andThen_ok,this];simp
     ·cases hk
    ·cases hk
 ·cases hv
theorem ysB (h:Rel B N S a G) {o:Oper} {mx:Bool} {xs:Array Operand} {ats:Array TypeId} {us:List AOpd} (ho:o.op= .call {callee:= .builtin (if mx then .max else .min),args:=xs,argTypes:=ats}) (hx:trL P N xs.toList=some us)
  {u:AV} (hv:pval (yav S) (ev S.fr) (.mnx mx us)=some u):yaU P a G o u:=by
 obtain ⟨a1,a2⟩:=yjM h hx
 simp only[pval] at hv
 split at hv
 ·rename_i k p r e
  have hgen:∀(r:List AV) (vs:List Value) (p:Int) (u:AV),vs.length=r.length→(∀(j:Nat) (u:AV) (x:Value),r[j]? =some u→vs[j]? =some x→VR G u x)→mnL mx k p r=some u→
    ∃m,u= .it k m/\(vs.foldlM (if mx then Builtin.max2 else Builtin.min2) (.int k p):Sem Value).run P G.w= .ok (.int k m) G.w:=by
   intro r
   induction r with
   | nil=>intro vs p u hl hh hm;cases vs with
     |nil=>simp only[mnL,Option.some.injEq] at hm;subst hm;exact ⟨p,rfl,by simp⟩
     |cons _ _=>cases hl
   | cons q r ih=>
     intro vs p u hl hh hm
     cases vs with
     |nil=>cases hl
     | cons v vs=>
       cases q<;>simp only[mnL] at hm<;>first|(cases hm;done)|skip
       rename_i k' n
       split at hm
       ·rename_i hk;subst hk
        have e1:=(hh 0 _ v rfl rfl).it_inv;subst e1
        obtain ⟨m,g1,g2⟩:=ih vs _ u (by simpa using hl) (fun j u x p q=>hh (j+1) u x (by simpa using p) (by simpa using q)) hm
        refine ⟨m,g1,?_⟩
        simp only[List.foldlM_cons,Sem.run_bind]
        cases mx
        ·simp only[Bool.false_eq_true,if_false,Builtin.min2,Sem.run_pure,Result.andThen_ok] at g2⊢;exact g2
        ·simp only[if_true,Builtin.max2,Sem.run_pure,Result.andThen_ok] at g2⊢;exact g2
       ·cases hm
  cases hxs:xs.toList with
  | nil=>rw[hxs] at a1;cases us with
    |nil=>cases e
    |cons _ _=>cases a1
  | cons x0 xr=>
    cases us with
    |nil=>cases e
    | cons u0 ur=>
      simp only[List.map_cons,List.cons.injEq] at e
      rw[hxs] at a2 a1
      have e1:=a2 0 (.it k p) (a.eval x0) (by simp[e.1]) (by simp)
      have e1:=e1.it_inv
      obtain ⟨m,g1,g2⟩:=hgen r (xr.map a.eval) p u (by simp[<-e.2] at a1⊢;exact a1) (fun j u x p q=>a2 (j+1) u x (by rw[<-e.2] at p;simpa using p) (by simpa using q)) hv
      subst g1
      refine ⟨.int k m,?_, .it _ _⟩
      have hl:(xs.map a.eval).toList= .int k p::xr.map a.eval:=by simp[hxs,e1]
      cases mx
      ·simp only[Bool.false_eq_true,if_false] at ho g2
       simp[execOp,ho,resolve,invoke,builtin,Builtin.min_,hl,g2,hxs,e1]
      ·simp only[if_true] at ho g2
       simp[execOp,ho,resolve,invoke,builtin,Builtin.max_,hl,g2,hxs,e1]
 ·cases hv
end
end Go.AV
end
noncomputable section
namespace Go.AV
open Go.RowKit Go.RG
section
variable {P:Program} {B:Base} [GB P B] {N:Nat} {S:St} {a:Act} {G:Gh}
structure yhN (G:Gh) (us:List AV) (vs:Array Value):Prop where
 len:vs.size=us.length
 vr:∀(j:Nat) (u:AV) (x:Value),us[j]? =some u->vs[j]? =some x->VR G u x
 one:∀(j:Nat) (x:Value),vs[j]? =some x->x.oneCell'=true
theorem VR.one {u:AV} {v:Value} (h:VR G u v) (h1:u.one=true):v.oneCell'=true:=by
 cases h<;>first|rfl|assumption|(simp[AV.one] at h1)
theorem VR.cells {u:AV} {v:Value} (h:VR G u v) (h1:u.cells.all AV.one=true):yhN G u.cells v.cells:=by
 by_cases hu:∃cs,u= .agg cs
 ·obtain ⟨cs,rfl⟩:=hu
  obtain ⟨vs,rfl,e1,e2,e3⟩:=h.agg_inv
  exact ⟨e1,e2,e3⟩
 ·have hc:u.cells= [u]:=by cases u<;>first|rfl|(exact absurd ⟨_,rfl⟩ hu)
  rw[hc] at h1⊢
  simp only[List.all_cons,List.all_nil,Bool.and_true] at h1
  have h2:=h.one h1
  have hv:v.cells= #[v]:=by cases v<;>first|rfl|(simp[Value.oneCell'] at h2)
  rw[hv]
  refine ⟨rfl,?_,?_⟩
  ·intro j u' x hu' hx
   cases j with
   |zero=>simp at hu' hx;subst hu';subst hx;exact h
   |succ j=>simp at hu'
  ·intro j x hx
   cases j with
   |zero=>simp at hx;subst hx;exact h2
   |succ j=>simp at hx
theorem ynn (off:Nat):∀(vs:List Value) (i:Nat) (cells:Array Value),off+i+vs.length≤cells.size→
  ((vs.zipIdx i).foldl (fun cs (p:Value×Nat)=>cs.setIfInBounds (off+p.2) p.1) cells).size=cells.size/\
  ∀t,((vs.zipIdx i).foldl (fun cs (p:Value×Nat)=>cs.setIfInBounds (off+p.2) p.1) cells)[t]? =if off+i<=t/\t<off+i+vs.length then vs[t-(off+i)]? else cells[t]? :=by
 intro vs
 induction vs with
 |nil=>intro i cells h;refine ⟨rfl,fun t=> ?_⟩;rw[if_neg (by simp)];rfl
 | cons v vs ih=>
   intro i cells h
   simp only[List.length_cons] at h
   rw[List.zipIdx_cons,List.foldl_cons]
   obtain ⟨h1,h2⟩:=ih (i+1) (cells.setIfInBounds (off+i) v) (by simp;omega)
   refine ⟨by rw[h1];simp,fun t=> ?_⟩
   rw[h2 t]
   by_cases e1:off+(i+1)<=t/\t<off+(i+1)+vs.length
   ·rw[if_pos e1,if_pos (by simp only[List.length_cons];omega)]
    rw[show t-(off+i)=t-(off+(i+1))+1 by omega,List.getElem?_cons_succ]
   ·rw[if_neg e1]
    by_cases e2:t=off+i
    ·subst e2
     rw[if_pos (by simp only[List.length_cons];omega),Array.getElem?_setIfInBounds_self,if_pos (by omega)]
     simp
    ·rw[if_neg (by simp only[List.length_cons];omega),Array.getElem?_setIfInBounds_ne (by omega)]
theorem ykD (h:Rel B N S a G) (place:Nat→Option (Nat×Nat)):∀(parts:List (Nat×Operand)) (up:List (Nat×Nat×AOpd)) (cells:Array Value) (us ures:List AV),ycI P N place parts=some up→
  ydu us (up.map fun p=>(p.1,p.2.1,ev S.fr p.2.2))=some ures->yhN G us cells->∃res,Instr.fill place cells (parts.map fun p=>(p.1,a.eval p.2))=some res/\yhN G ures res:=by
 intro parts
 induction parts with
 | nil=>
   intro up cells us ures ht hf hc
   simp only[ycI,Option.some.injEq] at ht;subst ht
   simp only[List.map_nil,ydu,Option.some.injEq] at hf;subst hf
   exact ⟨cells,rfl,hc⟩
 | cons p parts ih=>
   intro up cells us ures ht hf hc
   obtain ⟨i,x⟩:=p
   simp only[ycI] at ht
   split at ht
   ·rename_i off sz u us' hp hx hr
    simp only[Option.some.injEq] at ht;subst ht
    simp only[List.map_cons,ydu] at hf
    split at hf
    ·rename_i hcond
     obtain ⟨hl,hle,hone⟩:=hcond
     have hcv:=(yaM h hx).cells hone
     have hsz:(a.eval x).cells.size=sz:=by rw[hcv.len,hl]
     have hoff:off+sz<=cells.size:=by rw[hc.len];exact hle
     have hgo:=ynn off (a.eval x).cells.toList 0 cells (by simp[hsz];exact hoff)
     have e0:(a.eval x).cells.zipIdx.foldl (fun cs (p:Value×Nat)=>cs.setIfInBounds (off+p.2) p.1) cells=((a.eval x).cells.toList.zipIdx 0).foldl (fun cs (p:Value×Nat)=>cs.setIfInBounds (off+p.2) p.1) cells:=by
      rw[<-Array.foldl_toList];simp
     rw[<-e0] at hgo
     obtain ⟨g1,g2⟩:=hgo
     have hC:yhN G (List.take off us++(ev S.fr u).cells++List.drop (off+sz) us) ((a.eval x).cells.zipIdx.foldl (fun cs (p:Value×Nat)=>cs.setIfInBounds (off+p.2) p.1) cells):=by
      have hat:∀t,(List.take off us++(ev S.fr u).cells++List.drop (off+sz) us)[t]? =if off≤t∧t<off+sz then (ev S.fr u).cells[t-off]? else us[t]? :=by
       intro t
       have hto:(List.take off us).length=off:=by rw[List.length_take];omega
       by_cases e1:t<off
       ·rw[if_neg (by omega),List.append_assoc,List.getElem?_append_left (by omega),List.getElem?_take,if_pos e1]
       ·by_cases e2:t<off+sz
        ·rw[if_pos ⟨by omega,e2⟩,List.append_assoc,List.getElem?_append_right (by omega),hto,List.getElem?_append_left (by omega)]
        ·rw[if_neg (by omega),List.getElem?_append_right (by simp[hto,hl];omega)]
         simp only[List.length_append,hto,hl,List.getElem?_drop]
         congr 1;omega
      have hat2:∀t,((a.eval x).cells.zipIdx.foldl (fun cs (p:Value×Nat)=>cs.setIfInBounds (off+p.2) p.1) cells)[t]? =if off≤t∧t<off+sz then (a.eval x).cells[t-off]? else cells[t]? :=by
       intro t;rw[g2 t];simp[hsz]
      refine ⟨?_,?_,?_⟩
      ·rw[g1,hc.len];simp[hl];omega
      ·intro t u' x' hu' hx'
       rw[hat] at hu';rw[hat2] at hx'
       split at hu'
       ·rename_i hc1;rw[if_pos hc1] at hx';exact hcv.vr _ u' x' hu' hx'
       ·rename_i hc1;rw[if_neg hc1] at hx';exact hc.vr _ u' x' hu' hx'
      ·intro t x' hx'
       rw[hat2] at hx'
       split at hx'
       ·exact hcv.one _ x' hx'
       ·exact hc.one _ x' hx'
     obtain ⟨res,r1,r2⟩:=ih us' _ _ ures hr hf hC
     refine ⟨res,?_,r2⟩
     simp only[List.map_cons,Instr.fill,hp]
     rw[if_neg (by simp[hsz];try omega)]
     exact r1
    ·cases hf
   ·cases ht
theorem yc5 {t:TypeId} {z:List AV} (h:ycX P t=some z):∃i v,P.info? t=some i∧i.zero=some v∧yhN G z v.cells:=by
 unfold ycX at h
 cases hi:P.info? t with
 |none=>rw[hi] at h;cases h
 | some i=>
   rw[hi] at h
   cases hz:i.zero with
   |none=>simp[hz] at h
   | some v=>
     simp only[Option.bind_some,hz] at h
     obtain ⟨a1,a2,a3⟩:=ymz (G:=G) h
     exact ⟨i,v,rfl,hz,by simpa using a1,fun j u x p q=>a2 j u x p (by simpa using q),fun j x q=>a3 x (List.mem_of_getElem? (by simpa using q))⟩
theorem ys4 (h:Rel B N S a G) {o:Oper} {t:TypeId} {parts:Array (Nat×Operand)} {z:List AV} {up:List (Nat×Nat×AOpd)} (ho:o.op= .build t parts) (hz:ycX P t=some z)
  (hp:(∃fs pl,P.underlying t=some (.struct fs)/\yeI P fs=some pl/\ycI P N (pl.toArray[·]?) parts.toList=some up)∨(∃n e sz,P.underlying t=some (.array n e)/\szOf P e=some sz/\ycI P N (fun i=>some (i*sz,sz)) parts.toList=some up))
  {u:AV} (hv:pval (yav S) (ev S.fr) (.bld z up)=some u):yaU P a G o u:=by
 obtain ⟨i,v,hi,hzz,hc⟩:=yc5 (G:=G) hz
 simp only[pval] at hv
 cases hf:ydu z (up.map fun p=>(p.1,p.2.1,ev S.fr p.2.2)) with
 |none=>rw[hf] at hv;cases hv
 | some ures=>
   rw[hf] at hv;simp only[Option.map_some,Option.some.injEq] at hv;subst hv
   have key:∀place,ycI P N place parts.toList=some up→(∀l,P.built t l=Instr.fill place v.cells l)→yaU P a G o (.agg ures):=by
    intro place ht hb
    obtain ⟨res,r1,r2⟩:=ykD h place parts.toList up v.cells z ures ht hf hc
    refine ⟨.agg res,?_, .agg _ _ r2.len r2.vr r2.one⟩
    have:=run_build (P:=P) G.w t (parts.map fun (i,x)=>(i,a.eval x)) res (by rw[hb];simpa using r1)
    simp only[execOp,ho,Sem.run_bind,this,Result.andThen_ok,Sem.run_pure]
   rcases hp with ⟨fs,pl,h1,h2,h3⟩|⟨n,e,sz,h1,h2,h3⟩
   ·exact key _ h3 (fun l=>by unfold yeI at h2;simp[Program.built,hi,h1,hzz,h2])
   ·refine key _ h3 (fun l=> ?_)
    unfold szOf at h2
    cases hq:P.info? e with
    |none=>rw[hq] at h2;cases h2
    | some q=>
      rw[hq] at h2;simp only[Option.map_some,Option.some.injEq] at h2
      simp[Program.built,hi,h1,hzz,hq,h2]
end
end Go.AV
end
noncomputable section
namespace Go.AV
open Go.RowKit Go.RG
def yaR (hs:Nat->Bool) (S:St) (d:Nat):Key:=if hs d then .h S.nx else .l d (S.cnt d+1)
def St.new (hs:Nat→Bool) (S:St) (d:Nat) (b:Blk):St:=
 if hs d then {S with M:=updK S.M (.h S.nx) (some b),nx:=S.nx+1} else {S with M:=updK S.M (.l d (S.cnt d+1)) (some b),cnt:=upd S.cnt d (S.cnt d+1)}
def St.kill (S:St) (k:Key):St:={S with M:=updK S.M k none}
def St.setM (S:St) (k:Key) (b:Blk):St:={S with M:=updK S.M k (some b)}
theorem ykq (hs:Nat->Bool) (S:St) (d:Nat) (b:Blk):(S.new hs d b).fr=S.fr:=by unfold St.new;split<;>rfl
theorem yjm (hs:Nat→Bool) (S:St) (d:Nat) (b:Blk):¬yaT S (yaR hs S d)∧(S.new hs d b).M=updK S.M (yaR hs S d) (some b)∧(∀k,yaT (S.new hs d b) k↔yaT S k∨k=yaR hs S d)∧S.nx≤(S.new hs d b).nx:=by
 unfold yaR St.new
 by_cases h:hs d=true
 ·simp only[h,if_true]
  refine ⟨by simp[yaT],trivial,fun k=> ?_,by simp⟩
  cases k with
  |l d' c=>simp[yaT]
  |h o=>simp[yaT];omega
 ·simp only[h,if_false,Bool.false_eq_true]
  refine ⟨by simp[yaT],trivial,fun k=> ?_,Nat.le_refl _⟩
  cases k with
  | l d' c=>
    by_cases e:d'=d
    ·subst e;simp[yaT,upd];omega
    ·simp[yaT,upd,e]
  |h o=>simp[yaT]
section
variable {P:Program} {B:Base} [GB P B] {N:Nat} {S:St} {a:Act} {G:Gh}
theorem Rel.lift {S':St} {G':Gh} (h:Rel B N S a G) (hM:MRel B S' G') (hle:LE G G') (hf:S'.fr=S.fr):Rel B N S' a G':=
 {hM with defers:=h.defers.le hle,tsize:=h.tsize,slot:=fun t v hv=>by rw[hf];exact (h.slot t v hv).le hle,ext:=fun j v hv=>by rw[hf];exact (h.ext j v hv).le hle}
def Nxt (B:Base) (N:Nat) (a:Act) (o:Oper) (K:AV->St->Prop) (next:Act->World->Prop):Prop:=∀av v S' G',K av S'->Rel B N S' a G'->VR G' av v->next (a.put o.dst v) G'.w
theorem ycw {o:Oper} {next:Act→World→Prop} {Q:Exit→Act→World→Prop} {v:Value} {w w':World} (hr:(execOp a.eval o).run P w= .ok (.value v) w') (h:next (a.put o.dst v) w'):o.wp P a w next Q:=by
 unfold Oper.wp;rw[hr];exact h
theorem yrM {o:Oper} {next:Act→World→Prop} {Q:Exit→Act→World→Prop} {w w':World} (hr:(execOp a.eval o).run P w= .ok .skip w') (h:next (a.put o.dst undef) w'):o.wp P a w next Q:=by
 unfold Oper.wp;rw[hr];exact h
theorem ynS (h:Rel B N S a G) (hs:Nat→Bool) (d:Nat) {b:Blk} {w1:World} {cur:Array Value} {cap:Nat} (hw:w1.heap=G.w.heap.push (.cells cur b.e (0,0))) (hos:w1.os=G.w.os) (htape:w1.tape=G.w.tape) (hout:w1.output=G.w.output)
  (hcs:cur.size=cap*b.sz) (hcap:cap<=maxLen) (hbs:0<b.sz) (hc:yhN G b.cells cur) (hno:hOk (yaR hs S d) b.cells=true):
  ∃G',G'.w=w1/\G'.κ (yaR hs S d)=some (G.w.heap.size,cap)/\Rel B N (S.new hs d b) a G':=by
 obtain ⟨k1,k2,k3,k4⟩:=yjm hs S d b
 have hold:∀q,q<G.w.heap.size->w1.heap[q]? =G.w.heap[q]? :=fun q hq=>by rw[hw,Array.getElem?_push,if_neg (by omega)]
 obtain ⟨G',e1,e2,e3,e4⟩:=h.toMRel.add (fun _=>False) (fun _ f=>f.elim) (S':=S.new hs d b) (b:=b) (g:=G.w.heap.size) (cap:=cap) (w1:=w1) (cur:=cur) hno k1 k2 k3 k4 (fun hI=>absurd (h.lt _ hI) (Nat.lt_irrefl _)) (h.freeN (Nat.le_refl _))
  (.inl h.size) hos htape hout (by rw[hw];simp) (fun q hq _ _=>hold q hq) (fun q hq ds=>by rcases hq with rfl|hq;simp;exact hq.elim) (by rw[hw];simp) hcs hcap hbs (by rw[hc.len];exact Nat.le_refl _) hc.vr (fun j x _ hx=>hc.one j x hx)
 exact ⟨G',e1,e2,h.lift e3 e4 (ykq _ _ _ _)⟩
theorem yti (h:Rel B N S a G) (hs:Nat→Bool) {o:Oper} {e sz d:Nat} {v:Value} {u:AV} (hr:(execOp a.eval o).run P G.w= .ok (.value (.pointer (some ⟨G.w.heap.size,0,none⟩))) (G.w.alloc (.cells v.cells e))) (hv:VR G u v)
  (hl:u.cells.length=sz) (h1:u.cells.all AV.one=true) (h0:0<sz) (hno:hOk (yaR hs S d) u.cells=true) {K:AV->St->Prop} {next:Act->World->Prop} {Q:Exit->Act->World->Prop} (hK:K (.pt (yaR hs S d) 0) (S.new hs d ⟨e,sz,u.cells⟩)) (hn:Nxt B N a o K next):o.wp P a G.w next Q:=by
 have _:=(inferInstance:GB P B)
 have hc:=hv.cells h1
 obtain ⟨G',e1,e2,e3⟩:=ynS h hs d (b:=⟨e,sz,u.cells⟩) (w1:=G.w.alloc (.cells v.cells e)) (cur:=v.cells) (cap:=1) rfl rfl rfl rfl (by rw[hc.len,hl,Nat.one_mul]) (by decide) h0 hc hno
 refine ycw hr ?_
 have:=hn _ _ _ G' hK e3 (.pt _ _ _ _ e2)
 rw[e1] at this;exact this
def yaG (z:List AV) (n:Nat):List AV:=(List.replicate n z).flatten
theorem yd6 (z:List AV) (n:Nat):(yaG z n).length=n*z.length:=by simp[yaG]
theorem ylg (z:List AV) (n j:Nat) (h:j<n*z.length):(yaG z n)[j]? =z[j % z.length]? :=by
 induction n generalizing j with
 |zero=>simp at h
 | succ n ih=>
   have e:yaG z (n+1)=z++yaG z n:=by simp[yaG,List.replicate_succ]
   rw[e]
   by_cases hj:j<z.length
   ·rw[List.getElem?_append_left hj,Nat.mod_eq_of_lt hj]
   ·rw[Nat.add_mul,Nat.one_mul] at h
    rw[List.getElem?_append_right (by omega),ih (j-z.length) (by omega),Nat.mod_eq_sub_mod (a:=j) (by omega)]
theorem yeA {z:List AV} {zs:Array Value} (hc:yhN G z zs) (n:Nat) (hp:0<z.length):yhN G (yaG z n) ((Array.range (n*z.length)).map (zs[· % zs.size]!)):=by
 have hat:∀j,j<n*z.length→((Array.range (n*z.length)).map (zs[· % zs.size]!))[j]? =zs[j % z.length]? :=by
  intro j hj
  have hm:j % z.length<zs.size:=by rw[hc.len];exact Nat.mod_lt _ hp
  rw[Array.getElem?_map,Array.getElem?_range]
  simp only[hj,if_true,Option.map_some,hc.len]
  rw[getElem!_pos zs _ hm,Array.getElem?_eq_getElem hm]
 refine ⟨by simp[yd6],?_,?_⟩
 ·intro j u x hu hx
  have hj:j<n*z.length:=by have:=(List.getElem?_eq_some_iff.1 hu).1;rwa[yd6] at this
  rw[ylg z n j hj] at hu
  rw[hat j hj] at hx
  exact hc.vr _ u x hu hx
 ·intro j x hx
  have hj:j<n*z.length:=by have:=(Array.getElem?_eq_some_iff.1 hx).1;simpa using this
  rw[hat j hj] at hx
  exact hc.one _ x hx
theorem ytn (h:Rel B N S a G) (hs:Nat→Bool) {o:Oper} {t e sz d len:Nat} {parts:Array (Nat×Operand)} {z cs:List AV} {up:List (Nat×Nat×AOpd)} (ho:o.op= .buildSlice t len parts) (ht:P.underlying t=some (.slice e)) (hsz:szOf P e=some sz) (hz:ycX P e=some z)
  (hp:ycI P N (fun i=>some (i*sz,sz)) parts.toList=some up) (hf:ydu (yaG z len) (up.map fun p=>(p.1,p.2.1,ev S.fr p.2.2))=some cs) (h0:0<sz) (hzl:z.length=sz) (hlen:len*sz<=16777216) (hno:hOk (yaR hs S d) (cs.map weak)=true)
  {K:AV->St->Prop} {next:Act->World->Prop} {Q:Exit->Act->World->Prop} (hK:K (.gs (yaR hs S d) len) (S.new hs d ⟨e,sz,cs.map weak⟩)) (hn:Nxt B N a o K next):o.wp P a G.w next Q:=by
 obtain ⟨ie,zv,hie,hzv,hc⟩:=yc5 (G:=G) hz
 have hsi:ie.size=sz:=by unfold szOf at hsz;rw[hie] at hsz;simpa using hsz
 have hc0:=yeA hc len (by omega)
 obtain ⟨res,r1,r2⟩:=ykD h _ parts.toList up _ _ cs hp hf hc0
 have hzs:zv.cells.size=sz:=by rw[hc.len,hzl]
 have hrun:(Instr.buildSlice t len (parts.map fun (i,x)=>(i,a.eval x))).run P G.w= .ok (.slice (some ⟨G.w.heap.size,0,none⟩) len len) (G.w.alloc (.cells res e)):=by
  by_cases hl0:len=0
  ·subst hl0
   have hr:Instr.fill (fun i=>some (i*ie.size,ie.size)) (#[]:Array Value) (parts.map fun (i,x)=>(i,a.eval x)).toList=some res:=by
    rw[<-r1,hsi]
    have:(Array.range (0*z.length)).map (zv.cells[· % zv.cells.size]!)= #[]:=by rw[Nat.zero_mul,Array.range_zero',Array.map_empty]
    rw[this];simp
   simp[Instr.buildSlice,run_underlying ht,sizeOf,typeInfo,hie]
   simp at hr
   have h00:(Array.range 0).map (fun _=>(default:Value))= #[]:=by rw[Array.range_zero',Array.map_empty]
   simp[hr,newRow,h00]
  ·refine run_buildSlice G.w t e len _ res ie zv ht hie hzv (by rw[hsi];omega) (by rw[hsi];have:=Nat.mul_pos (Nat.pos_of_ne_zero hl0) h0;omega) ?_
   rw[<-r1,hsi,hzl]
   simp
 have hcsl:cs.length=len*sz:=by
  have:∀(ps:List (Nat×Nat×AV)) (us res:List AV),ydu us ps=some res→res.length=us.length:=by
   intro ps
   induction ps with
   |nil=>intro us res hh;simp only[ydu,Option.some.injEq] at hh;rw[hh]
   | cons p ps ih=>
     intro us res hh
     obtain ⟨off,s,v⟩:=p
     simp only[ydu] at hh
     split at hh
     ·rename_i hcnd
      rw[ih _ _ hh];simp;omega
     ·cases hh
  rw[this _ _ _ hf,yd6,hzl]
 obtain ⟨G',e1,e2,e3⟩:=ynS h hs d (b:=⟨e,sz,cs.map weak⟩) (w1:=G.w.alloc (.cells res e)) (cur:=res) (cap:=len) rfl rfl rfl rfl (by rw[r2.len,hcsl]) (by unfold maxLen;have:len<=len*sz:=Nat.le_mul_of_pos_right _ h0;omega) h0 ⟨by rw[List.length_map];exact r2.len,fun j u x hu hx=>by rw[List.getElem?_map] at hu;obtain ⟨w,q1,q2⟩:=Option.map_eq_some_iff.1 hu;rw[<-q2];exact (r2.vr j w x q1 hx).weak,r2.one⟩ hno
 refine ycw (v:= .slice (some ⟨G.w.heap.size,0,none⟩) len len) (w':=G.w.alloc (.cells res e)) (by simp only[execOp,ho,Sem.run_bind,hrun,Result.andThen_ok,Sem.run_pure]) ?_
 have:=hn _ _ _ G' hK e3 (.gs _ _ _ _ e2)
 rw[e1] at this;exact this
theorem yth (h:Rel B N S a G) (hs:Nat→Bool) {o:Oper} {t e sz d:Nat} {l c:Operand} {ul uc:AOpd} {z:List AV} {i:TypeInfo} {kl kc:IntKind} {n:Nat} (ho:o.op= .makeSlice t l c) (ht:P.underlying t=some (.slice e)) (hi:P.info? e=some i) (hz:ycX P e=some z)
  (hl:yaf P N l=some ul) (hcc:yaf P N c=some uc) (hsz:i.size=sz) (e1:ev S.fr ul= .it kl n) (e2:ev S.fr uc= .it kc n) (h0:0<sz) (hzl:z.length=sz) (hb:i.bytes*n<=281474976710656) (hm:n<=maxLen) (hno:hOk (yaR hs S d) (yaG z n)=true)
  {K:AV->St->Prop} {next:Act->World->Prop} {Q:Exit->Act->World->Prop} (hK:K (.gs (yaR hs S d) n) (S.new hs d ⟨e,sz,yaG z n⟩)) (hn:Nxt B N a o K next):o.wp P a G.w next Q:=by
 obtain ⟨ie,zv,hie,hzv,hc⟩:=yc5 (G:=G) hz
 rw[hi] at hie;cases hie
 have r1:=yaM h hl;rw[e1] at r1
 have r2:=yaM h hcc;rw[e2] at r2
 have hc0:=yeA hc n (by omega)
 have hzs:zv.cells.size=sz:=by rw[hc.len,hzl]
 have hm':(n:Int)<=9223372036854775807:=by unfold maxLen at hm;omega
 have hrun:=run_make (P:=P) G.w t e i zv ht hi hzv kl kc (n:Int) (n:Int) (by omega) (by omega) (by rw[<-Int.natCast_mul];exact Int.ofNat_le.2 hb) hm'
 simp only[Int.toNat_natCast,hsz] at hrun
 obtain ⟨G',q1,q2,q3⟩:=ynS h hs d (b:=⟨e,sz,yaG z n⟩) (w1:=G.w.alloc (.cells (madeCells zv.cells (n*sz)) e)) (cur:=madeCells zv.cells (n*sz)) (cap:=n) rfl rfl rfl rfl (by simp[madeCells]) hm h0 (by rw[hzl] at hc0;exact hc0) hno
 refine ycw (v:= .slice (some ⟨G.w.heap.size,0,none⟩) n n) (w':=G.w.alloc (.cells (madeCells zv.cells (n*sz)) e)) (by simp only[execOp,ho,r1.it_inv,r2.it_inv,Sem.run_bind,hrun,Result.andThen_ok,Sem.run_pure]) ?_
 have:=hn _ _ _ G' hK q3 (.gs _ _ _ _ q2)
 rw[q1] at this;exact this
end
end Go.AV
end
noncomputable section
namespace Go.AV
open Go.RowKit Go.RG
section
variable {P:Program} {B:Base} [GB P B] {N:Nat} {S:St} {a:Act} {G:Gh}
def At (G:Gh) (us:List AV) (b base:Nat):Prop:=∀(j:Nat) (u:AV),us[j]? =some u->∃x,G.w.cell? ⟨b,base+j,none⟩=some x/\VR G u x/\x.oneCell'=true
theorem yny {b:Blk} {g cap:Nat} (h:ygz G b g cap):At G b.cells g 0:=by
 obtain ⟨cur,h1,h2,h3,h4,h5,h6,h7⟩:=h
 intro j u hu
 have hj:j<b.cells.length:=(List.getElem?_eq_some_iff.1 hu).1
 have hj':j<cur.size:=by omega
 refine ⟨cur[j],?_,h6 j u _ hu (Array.getElem?_eq_getElem hj'),h7 j _ hj (Array.getElem?_eq_getElem hj')⟩
 rw[Nat.zero_add]
 simp[World.cell?,h1,hj']
def tgt (S:St):AV→Option (List AV×Nat)
 | .pt k off=>(S.M k).bind fun b=>if b.sz=0 then none else some (b.cells,off)
 | .ep xs off=>some (xs,off)
 |_=>none
theorem ymo (h:MRel B S G) {u:AV} {v:Value} {us:List AV} {off:Nat} (hv:VR G u v) (ht:tgt S u=some (us,off)):∃b base,v= .pointer (some ⟨b,base+off,none⟩)∧At G us b base:=by
 unfold tgt at ht
 split at ht
 ·rename_i k o
  cases hm:S.M k with
  |none=>rw[hm] at ht;cases ht
  | some b=>
    rw[hm] at ht;simp only[Option.bind_some] at ht
    split at ht
    ·cases ht
    rename_i hz
    simp only[Option.some.injEq,Prod.mk.injEq] at ht
    obtain ⟨rfl,rfl⟩:=ht
    obtain ⟨g,cap,hk,e⟩:=hv.pt_inv h (by simp[yav,hm])
    obtain ⟨r,hr,hb⟩:=h.κcell hm hz
    rw[hk] at hr;cases hr
    exact ⟨g,0,by rw[e,Nat.zero_add],yny hb⟩
 ·simp only[Option.some.injEq,Prod.mk.injEq] at ht
  obtain ⟨rfl,rfl⟩:=ht
  obtain ⟨b,base,f,e,h1,h2,h3,h4,h5⟩:=hv.ep_inv
  exact ⟨b,base,e,fun j u hu=>⟨f j,h2 j u hu,h3 j u hu,h4 j u hu⟩⟩
 ·cases ht
theorem m_ld (h:Rel B N S a G) {o:Oper} {t:TypeId} {x:Operand} {ux:AOpd} {g:Bool} {sz off:Nat} {us:List AV} (ho:o.op= .load t x) (hx:yaf P N x=some ux) (hs:ye7 P t=some (g,sz)) (ht:tgt S (ev S.fr ux)=some (us,off))
  {u:AV} (hu:(if g then (if off+sz<=us.length then some (.agg ((us.drop off).take sz)) else none) else us[off]?)=some u):yaU P a G o u:=by
 obtain ⟨b,base,e,hat⟩:=ymo h.toMRel (yaM h hx) ht
 cases g with
 | true=>
   obtain ⟨k1,k2⟩:=yfl hs
   simp only[if_true] at hu
   split at hu
   ·rename_i hle
    simp only[Option.some.injEq] at hu;subst hu
    have hc:∀j,j<sz→∃x,G.w.cell? ⟨b,base+off+j,none⟩=some x∧VR G (us[off+j]?.getD .un) x∧x.oneCell'=true:=by
     intro j hj
     have hlt:off+j<us.length:=by omega
     obtain ⟨x,p,q,r⟩:=hat (off+j) us[off+j] (List.getElem?_eq_getElem hlt)
     exact ⟨x,by rw[Nat.add_assoc];exact p,by rw[List.getElem?_eq_getElem hlt];exact q,r⟩
    let f:Nat->Value:=fun j=>((G.w.cell? ⟨b,base+off+j,none⟩).getD undef)
    have hf:∀j,j<sz→G.w.cell? ((⟨b,base+off,none⟩:Addr).add j)=some (f j):=by
     intro j hj
     obtain ⟨x,p,_⟩:=hc j hj
     rw[yd2,p];simp[f,p]
    refine ⟨.agg ((List.range sz).map f).toArray,?_, .agg _ _ (by simp;omega) ?_ ?_⟩
    ·have:=run_loadCells (P:=P) G.w ⟨b,base+off,none⟩ sz f hf
     simp only[execOp,ho,e,Instr.loadAt,Instr.sureAddr,loadVar]
     simp[k1,ybV k2,this]
    ·intro j u x hu hx
     simp only[List.getElem?_take,List.getElem?_drop] at hu
     split at hu
     ·rename_i hj
      obtain ⟨x',p,q,r⟩:=hc j hj
      simp only[List.getElem?_toArray,List.getElem?_map,List.getElem?_range hj,Option.map_some,Option.some.injEq] at hx
      subst hx
      simp only[f,p,Option.getD_some]
      rw[hu] at q;exact q
     ·cases hu
    ·intro j x hx
     have hj:j<sz:=by have:=(Array.getElem?_eq_some_iff.1 hx).1;simpa using this
     obtain ⟨x',p,q,r⟩:=hc j hj
     simp only[List.getElem?_toArray,List.getElem?_map,List.getElem?_range hj,Option.map_some,Option.some.injEq] at hx
     subst hx
     simp only[f,p,Option.getD_some];exact r
   ·cases hu
 | false=>
   obtain ⟨k1,k2⟩:=yeG hs
   simp only[Bool.false_eq_true,if_false] at hu
   obtain ⟨x,p,q,r⟩:=hat off u hu
   refine ⟨x,?_,q⟩
   simp only[execOp,ho,e,Instr.loadAt,Instr.sureAddr,loadVar]
   simp[k1,run_load,p]
theorem ytu (h:Rel B N S a G) {o:Oper} {t:TypeId} {x y:Operand} {ux uy:AOpd} {sz off:Nat} {k:Key} {b:Blk} (ho:o.op= .store t x y) (hx:yaf P N x=some ux) (hy:yaf P N y=some uy) (hs:szOf P t=some sz) (hp:ev S.fr ux= .pt k off) (hm:S.M k=some b) (hbz:b.sz≠0)
  (hl:(ev S.fr uy).cells.length=sz) (h1:(ev S.fr uy).cells.all AV.one=true) (hle:off+sz<=b.cells.length) (hno:hOk k (b.cells.take off++(ev S.fr uy).cells++b.cells.drop (off+sz))=true)
  {K:AV->St->Prop} {next:Act->World->Prop} {Q:Exit->Act->World->Prop} (hK:K .un (S.setM k {b with cells:=b.cells.take off++(ev S.fr uy).cells++b.cells.drop (off+sz)})) (hn:Nxt B N a o K next):o.wp P a G.w next Q:=by
 have rx:=yaM h hx;rw[hp] at rx
 have ry:=(yaM h hy).cells h1
 obtain ⟨g,cap,hk,e⟩:=rx.pt_inv h.toMRel (by simp[yav,hm])
 obtain ⟨r,hr,hb⟩:=h.toMRel.κcell hm hbz
 rw[hk] at hr;cases hr
 obtain ⟨cur,c1,c2,c3,c4,c5,c6,c7⟩:=hb
 have hvl:(a.eval y).cells.size=sz:=by rw[ry.len,hl]
 have hrun:=run_storeCells_at (P:=P) g off b.e (a.eval y).cells.toList 0 cur G.w c1 (by simp[hvl];omega) (fun v hv=>by
  obtain ⟨j,hj⟩:=List.mem_iff_getElem?.1 hv
  exact ry.one j v (by simpa using hj))
 simp only[Nat.add_zero] at hrun
 have hne:(a.eval y).cells.toList.length=sz:=by simpa using hvl
 rw[hne] at hrun
 generalize hcur:(cur.toList.take off++(a.eval y).cells.toList++cur.toList.drop (off+sz)).toArray=cur' at hrun
 have hsz':cur'.size=cur.size:=by rw[<-hcur];simp[hvl];omega
 have hcat:∀(z:Nat),cur'[z]? =if off≤z∧z<off+sz then (a.eval y).cells[z-off]? else cur[z]? :=by
  intro z
  rw[<-hcur]
  have hto:(cur.toList.take off).length=off:=by rw[List.length_take];simp;omega
  simp only[List.getElem?_toArray]
  by_cases e1:z<off
  ·rw[if_neg (by omega),List.append_assoc,List.getElem?_append_left (by omega),List.getElem?_take,if_pos e1];simp
  ·by_cases e2:z<off+sz
   ·rw[if_pos ⟨by omega,e2⟩,List.append_assoc,List.getElem?_append_right (by omega),hto,List.getElem?_append_left (by omega)];simp
   ·rw[if_neg (by omega),List.getElem?_append_right (by rw[List.length_append,hto,hne];omega)]
    rw[List.length_append,hto,hne,List.getElem?_drop]
    simp only[Array.getElem?_toList]
    congr 1;omega
 have hbat:∀(z:Nat),(b.cells.take off++(ev S.fr uy).cells++b.cells.drop (off+sz))[z]? =if off≤z∧z<off+sz then (ev S.fr uy).cells[z-off]? else b.cells[z]? :=by
  intro z
  have hto:(b.cells.take off).length=off:=by rw[List.length_take];omega
  by_cases e1:z<off
  ·rw[if_neg (by omega),List.append_assoc,List.getElem?_append_left (by omega),List.getElem?_take,if_pos e1]
  ·by_cases e2:z<off+sz
   ·rw[if_pos ⟨by omega,e2⟩,List.append_assoc,List.getElem?_append_right (by omega),hto,List.getElem?_append_left (by omega)]
   ·rw[if_neg (by omega),List.getElem?_append_right (by rw[List.length_append,hto,hl];omega)]
    rw[List.length_append,hto,hl,List.getElem?_drop]
    congr 1;omega
 have hbl:(b.cells.take off++(ev S.fr uy).cells++b.cells.drop (off+sz)).length=b.cells.length:=by
  rw[List.length_append,List.length_append,List.length_take,hl,List.length_drop];omega
 obtain ⟨G',e1,e2,e3⟩:=h.toMRel.set (S':=S.setM k {b with cells:=b.cells.take off++(ev S.fr uy).cells++b.cells.drop (off+sz)}) (w1:=G.w.setRow g cur') (cur:=cur') hno hk hm rfl rfl rfl rfl rfl rfl (by simp)
  (fun q hq=>setRow_other _ _ _ _ hq) hbz (setRow_heap _ _ _ _ _ _ c1) (by rw[hsz',c2]) (by rw[hbl,hsz'];exact c5)
  (fun j u z hu hz=>by
    simp only[] at hu
    rw[hbat] at hu;rw[hcat] at hz
    split at hu
    ·rename_i hc;rw[if_pos hc] at hz;exact ry.vr _ u z hu hz
    ·rename_i hc;rw[if_neg hc] at hz;exact c6 j u z hu hz)
  (fun j z hj hz=>by
    simp only[] at hj
    rw[hbl] at hj
    rw[hcat] at hz
    split at hz
    ·exact ry.one _ z hz
    ·exact c7 j z hj hz)
 refine yrM (w':=G.w.setRow g cur') ?_ ?_
 ·simp only[execOp,ho,e,Instr.storeAt,Instr.sureAddr,storeVar]
  simp[ybV hs,hvl,hrun]
 ·have:=hn _ undef _ G' hK (h.lift e2 e3 rfl) (.un _)
  rw[e1] at this;exact this
end
end Go.AV
end
noncomputable section
namespace Go.AV
open Go.RowKit Go.RG Go.Lib
section
variable {P:Program} {w:World}
theorem yi5 {t u ty e:TypeId} {i:TypeInfo} (ht:P.underlying t=some (.slice e)) (hu:P.underlying u=some .string) (hi:P.info? e=some i) (hz:i.zero=some (.int .u8 0)) (hsize:i.size=1) (hby:i.bytes=1)
  {base n cap:Nat} {ao:Option Addr} {xs:List Value} (hown:w.ownsRow base e 1 (.slice ao n cap) n xs) (s:ByteArray) (h63:n+s.size<=maxLen) (hbytes:n+s.size<=140737488355328) (hbase:base<=w.heap.size):
  ∃ao' cap' w',(Builtin.append_ #[t,u] ty #[.slice ao n cap, .string s]).run P w= .ok (.slice ao' (n+s.size) cap') w'∧w'.ownsRow base e 1 (.slice ao' (n+s.size) cap') (n+s.size) (xs++strCells s)∧w.grownBy w' (blk ao)∧
   (blk ao'=blk ao∨blk ao'=some w.heap.size)/\(ao'=none↔ao=none/\s.size=0):=by
 have hsmall:n+s.size<=9223372036854775807:=by simp only[maxLen] at h63;omega
 have hxl:xs.length=n:=by simpa using hown.1
 have hlen:(xs++strCells s).length=(n+s.size)*1:=by rw[List.length_append,hxl,strCells_length,Nat.mul_one]
 rcases hown.2 with ⟨h0,hn⟩|⟨g,cap0,cur,h0,hbg,hg,hnc,hcm,hcs,htake⟩
 ·injection h0 with e1 e2 e3
  subst e1;subst e2;subst e3
  have hx:xs= []:=List.eq_nil_of_length_eq_zero hxl
  subst hx
  by_cases hm:s.size=0
  ·have hn0:strCells s= []:=List.eq_nil_of_length_eq_zero (by rw[strCells_length];exact hm)
   refine ⟨none,0,w,?_,by rw[hn0,hm];exact World.ownsRow_nil w base e 1,World.grownBy.refl _ _, .inl rfl,⟨fun _=>⟨rfl,hm⟩,fun _=>rfl⟩⟩
   simp[Builtin.append_,run_underlying ht,run_underlying hu,sizeOf,typeInfo,hi,Builtin.lenOf,Builtin.firstCells,hm]
  ·have hr:=run_append_nil_string (P:=P) w t u ty e i (.int .u8 0) ht hu hi hz s (by omega) (by omega) (by rw[hby];omega)
   have hge:=grownCap_ge w s.size 0 e
   have hcm:=grownCap_le_maxLen w s.size 0 e (by omega)
   rw[Nat.zero_add] at hlen h63⊢
   refine ⟨some ⟨w.heap.size,0,none⟩,grownCap w s.size 0 e,_,hr,⟨hlen, .inr ⟨w.heap.size,_,_,rfl,hbase,heap_alloc_new w.drew _,hge,hcm,?_,?_⟩⟩,⟨rfl,rfl,rfl,by simp,fun k hk _=>heap_alloc_old w.drew _ hk⟩, .inr rfl,⟨fun h=>(by cases h),fun h=>absurd h.2 hm⟩⟩
   ·have hz1:(Value.int IntKind.u8 0).cells.size=1:=rfl
    simp only[Array.size_append,Array.size_map,size_zeroCells,hz1]
    have:s.data.size=s.size:=rfl
    omega
   ·simp only[Array.toList_append,List.nil_append]
    rw[List.nil_append] at hlen
    have:(Array.map (fun b:UInt8=>Value.int .u8 (b.toNat:Int)) s.data).toList=strCells s:=by simp[strCells]
    rw[this,<-hlen]
    exact List.take_left
 ·injection h0 with e1 e2 e3
  subst e1;subst e3
  by_cases hroom:n+s.size<=cap
  ·have hcs':cur.size=cap:=by simpa using hcs
   have hr:=run_append_room_string (P:=P) w t u ty e i ht hu hi hsize g n cap cur hg s hroom (by omega)
   refine ⟨some ⟨g,0,none⟩,cap,_,hr,⟨hlen, .inr ⟨g,cap,_,rfl,hbg,setRow_heap w g cur _ e _ hg,hroom,hcm,?_,?_⟩⟩,⟨rfl,rfl,rfl,by simp,fun k _ hk=>setRow_other w g k _ (fun e=>hk (by simp[blk,e]))⟩, .inl rfl,by simp⟩
   ·simp only[List.size_toArray,List.length_append,List.length_take,List.length_drop,Array.length_toList,strCells_length]
    omega
   ·have ht':cur.toList.take n=xs:=by simpa using htake
    rw[ht',<-hlen]
    exact List.take_left
  ·have holds:∀j u,xs[j]? =some u→w.cell? ((⟨g,0,none⟩:Addr).add j)=some u:=hown.cells (g:=g) rfl
   have hr:=run_append_grow_string (P:=P) w t u ty e i (.int .u8 0) ht hu hi hz ⟨g,0,none⟩ n cap xs (by rw[hsize];simpa using hxl) holds s (by omega) (by omega) (by rw[hby];exact growslice_fits (by omega) (by omega))
   have hge:=grownCap_ge w (n+s.size) cap e
   have hcm2:grownCap w (n+s.size) cap e<=maxLen:=grownCap_le_maxLen w (n+s.size) cap e h63
   refine ⟨some ⟨w.heap.size,0,none⟩,_,_,hr,⟨hlen, .inr ⟨w.heap.size,_,_,rfl,hbase,heap_alloc_new w.drew _,hge,hcm2,?_,?_⟩⟩,⟨rfl,rfl,rfl,by simp,fun k hk _=>heap_alloc_old w.drew _ hk⟩, .inr rfl,by simp⟩
   ·have hz1:(Value.int IntKind.u8 0).cells.size=1:=rfl
    simp only[Array.size_append,List.size_toArray,size_zeroCells,hz1,hxl,strCells_length]
    omega
   ·simp only[Array.toList_append,List.append_assoc]
    rw[<-List.append_assoc,<-hlen]
    exact List.take_left
theorem yif {t u e e' ty:TypeId} {ao bo:Option Addr} {n cap m c:Nat} (ht:P.underlying t=some (.slice e)) (hu:P.underlying u=some (.slice e')):
  (Builtin.append_ #[t,u] ty #[.slice ao n cap, .slice bo m c]).run P w=(Builtin.append_ #[t,t] ty #[.slice ao n cap, .slice bo m c]).run P w:=by
 simp[Builtin.append_,run_underlying ht,run_underlying hu]
end
section
variable {P:Program} {B:Base} [GB P B] {N:Nat} {S:St} {a:Act} {G:Gh}
theorem MRel.grown0 (h:MRel B S G) {w1:World} (hg:G.w.grownBy w1 none):∃G',G'.w=w1∧MRel B S G'∧LE G G':=by
 let G':Gh:=⟨G.κ,G.dead,G.I,w1,G.ft⟩
 have hsame:∀q,q<G.w.heap.size->w1.heap[q]? =G.w.heap[q]? :=fun q hq=>hg.block q hq (by simp)
 have hle:LE G G':=⟨fun _ _ hr=> .inl hr,fun _ hd=>hd,fun _ hb=>hb,fun q hq=>hsame q (h.lt q hq),fun q ds hq=>⟨hsame q (Array.getElem?_eq_some_iff.1 hq).1,fun h=>h⟩⟩
 refine ⟨G',rfl,⟨fun k=>(h.blk k).le hle fun q hq=>hsame q.1 (h.apart k q hq).2,h.inj,h.dead,h.live,fun k r hr=>⟨(h.apart k r hr).1,Nat.lt_of_lt_of_le (h.apart k r hr).2 hg.size⟩,fun b hb=>Nat.lt_of_lt_of_le (h.lt b hb) hg.size,h.loc,h.keep,h.heap,h.nx,h.gone,h.I0,h.I1,
  hg.os.trans h.os,hg.tape.trans h.tape,hg.output.trans h.output,Nat.le_trans h.size hg.size,fun b hb hq=>(hsame b (Nat.lt_of_lt_of_le hb h.size)).trans (h.same b hb hq),h.hno,h.fo.on (fun k r hr=> .inl ⟨hr,rfl,fun _ q _ _=>q⟩) (fun x hx=> .inl hx) hg.size (fun k x hx=>hsame x (h.fo.ap k x hx).2) (fun k b r hb hk _ _=>hsame r.1 (h.apart k r hk).2)⟩,hle⟩
def Told (G:Gh) (us:List AV) (vs:List Value):Prop:=vs.length=us.length/\(∀(j:Nat) (u:AV) (x:Value),us[j]? =some u->vs[j]? =some x->VR G u x)/\∀x∈vs,x.oneCell'=true
theorem Told.append {us ws:List AV} {vs xs:List Value} (h:Told G us vs) (k:Told G ws xs):Told G (us++ws) (vs++xs):=by
 refine ⟨by simp[h.1,k.1],?_,fun x hx=>(List.mem_append.1 hx).elim (h.2.2 x) (k.2.2 x)⟩
 intro j u x hu hx
 by_cases hj:j<us.length
 ·rw[List.getElem?_append_left hj] at hu;rw[List.getElem?_append_left (by rw[h.1];exact hj)] at hx;exact h.2.1 j u x hu hx
 ·rw[List.getElem?_append_right (by omega)] at hu;rw[List.getElem?_append_right (by rw[h.1];omega),h.1] at hx;exact k.2.1 _ u x hu hx
theorem Told.le {G':Gh} (hle:LE G G') {us:List AV} {vs:List Value} (h:Told G us vs):Told G' us vs:=⟨h.1,fun j u x p q=>(h.2.1 j u x p q).le hle,h.2.2⟩
theorem At.told {us:List AV} {b base:Nat} (h:At G us b base):∃vs,Told G us vs∧∀j v,vs[j]? =some v→G.w.cell? ((⟨b,base,none⟩:Addr).add j)=some v:=by
 let f:Nat->Value:=fun j=>(G.w.cell? ⟨b,base+j,none⟩).getD undef
 have hf:∀j,j<us.length→∃x,G.w.cell? ⟨b,base+j,none⟩=some x∧f j=x∧x.oneCell'=true∧∀u,us[j]? =some u→VR G u x:=by
  intro j hj
  obtain ⟨x,p,q,r⟩:=h j us[j] (List.getElem?_eq_getElem hj)
  exact ⟨x,p,by simp[f,p],r,fun u hu=>by rw[List.getElem?_eq_getElem hj] at hu;cases hu;exact q⟩
 refine ⟨(List.range us.length).map f,⟨by simp,?_,?_⟩,?_⟩
 ·intro j u x hu hx
  have hj:=(List.getElem?_eq_some_iff.1 hu).1
  obtain ⟨y,p,q,r,s⟩:=hf j hj
  rw[List.getElem?_map,List.getElem?_range hj] at hx
  simp only[Option.map_some,Option.some.injEq] at hx
  rw[<-hx,q];exact s u hu
 ·intro x hx
  obtain ⟨j,hj,rfl⟩:=List.mem_map.1 hx
  obtain ⟨y,p,q,r,s⟩:=hf j (List.mem_range.1 hj)
  rw[q];exact r
 ·intro j v hv
  have hj:j<us.length:=by have:=(List.getElem?_eq_some_iff.1 hv).1;simpa using this
  obtain ⟨y,p,q,r,s⟩:=hf j hj
  rw[List.getElem?_map,List.getElem?_range hj] at hv
  simp only[Option.map_some,Option.some.injEq] at hv
  rw[yd2,p,<-hv,q]
def srcA (S:St):AV→Option (Nat×List AV)
 | .sl _ m ys=>some (m,ys)
 | .gs k m=>(S.M k).bind fun b=>if b.sz=0 then none else some (m,b.cells)
 |_=>none
theorem yqO (h:MRel B S G) {u:AV} {v:Value} {m:Nat} {ys:List AV} (hv:VR G u v) (hs:srcA S u=some (m,ys)):∃bo c vs,v= .slice bo m c∧Told G ys vs∧Src G.w bo m c vs:=by
 unfold srcA at hs
 split at hs
 ·rename_i z _ _
  simp only[Option.some.injEq,Prod.mk.injEq] at hs
  obtain ⟨rfl,rfl⟩:=hs
  rcases hv.sl_inv with ⟨e,hn0,hx0⟩|⟨_,hn0,hx0,ad,cap,e⟩|⟨_,b,off,cap,f,e,h1,h2,h3,h4,h5,h6,h7⟩
  ·subst hn0;subst hx0
   exact ⟨none,0,[],e,⟨rfl,fun j u x p=>by simp at p,fun x hx=>by cases hx⟩, .inl ⟨rfl,rfl,rfl⟩⟩
  ·subst hn0;subst hx0
   exact ⟨_,cap,[],e,⟨rfl,fun j u x p=>by simp at p,fun x hx=>by cases hx⟩, .inr ⟨_,rfl,fun j v hv=>by simp at hv⟩⟩
  obtain ⟨vs,t1,t2⟩:=At.told (G:=G) (us:= ‹List AV›) (b:=b) (base:=off) (fun j u hu=>⟨f j,h2 j u hu,h3 j u hu,h4 j u hu⟩)
  exact ⟨_,_,vs,e,t1, .inr ⟨_,rfl,t2⟩⟩
 ·rename_i k m'
  cases hm:S.M k with
  |none=>rw[hm] at hs;cases hs
  | some b=>
    rw[hm] at hs
    simp only[Option.bind_some] at hs
    split at hs
    ·cases hs
    rename_i hz
    simp only[Option.some.injEq,Prod.mk.injEq] at hs
    obtain ⟨rfl,rfl⟩:=hs
    obtain ⟨g,cap,hk,e⟩:=hv.gs_inv h (by simp[yav,hm])
    obtain ⟨r,hr,hb⟩:=h.κcell hm hz
    rw[hk] at hr;cases hr
    obtain ⟨vs,t1,t2⟩:=(yny hb).told
    exact ⟨_,_,vs,e,t1, .inr ⟨_,rfl,t2⟩⟩
 ·cases hs
theorem ynm (h:MRel B S G) (hs:Nat→Bool) (d:Nat) {e sz n:Nat} {us:List AV} {vs:List Value} {ao:Option Addr} {ao':Option Addr} {cap':Nat} {w1:World} (hgr:G.w.grownBy w1 (blk ao)) (hown:w1.ownsRow 0 e sz (.slice ao' n cap') n vs) (ht:Told G us vs)
  (hne:ao'≠none) (hblk:blk ao'=blk ao∨blk ao'=some G.w.heap.size) (hfree:∀g,blk ao=some g->¬G.I g/\(∀k r,G.κ k=some r->r.1≠g/\¬G.ft k g)/\g<G.w.heap.size/\(B.w.heap.size<=g∨∃k r',B.κ k=some r'/\r'.1=g)/\∀ds,G.w.heap[g]?≠some (.deferred ds)) (h0:0<sz) (hno:hOk (yaR hs S d) us=true):
  ∃G',G'.w=w1/\MRel B (S.new hs d ⟨e,sz,us⟩) G'/\LE G G'/\VR G' (.gs (yaR hs S d) n) (.slice ao' n cap'):=by
 obtain ⟨k1,k2,k3,k4⟩:=yjm hs S d ⟨e,sz,us⟩
 rcases hown.2 with ⟨h1,h2⟩|⟨g,cap,cur,hv,hb,hg,hn,hc,hcs,htk⟩
 ·cases h1;exact absurd rfl hne
 ·cases hv
  have hgI:¬G.I g∧(∀k r,G.κ k=some r→r.1≠g∧¬G.ft k g)∧(B.w.heap.size≤g∨∃k r',B.κ k=some r'∧r'.1=g):=by
   rcases hblk with hq|hq
   ·obtain ⟨a1,a2,a3,a4,_⟩:=hfree g (hq.symm.trans rfl);exact ⟨a1,a2,a4⟩
   ·have e:g=G.w.heap.size:=by simpa [blk] using hq
    subst e
    exact ⟨fun hI=>absurd (h.lt _ hI) (Nat.lt_irrefl _),h.freeN (Nat.le_refl _), .inl h.size⟩
  have horg:B.w.heap.size<=g∨∃k r',B.κ k=some r'/\r'.1=g:=hgI.2.2
  have ht2:vs=cur.toList.take (n*sz):=htk.symm
  have hvl:vs.length=n*sz:=hown.1
  have hnc:n*sz<=cur.size:=by rw[hcs];exact Nat.mul_le_mul_right _ hn
  have hcat:∀j,j<n*sz→cur[j]? =vs[j]? :=by
   intro j hj
   rw[ht2,List.getElem?_take,if_pos hj];simp
  obtain ⟨G',e1,e2,e3,e4⟩:=h.add (fun q=>blk ao=some q) (fun q hq=>⟨(hfree q hq).1,(hfree q hq).2.1,(hfree q hq).2.2.2.1⟩) (S':=S.new hs d ⟨e,sz,us⟩) (b:=⟨e,sz,us⟩) (g:=g) (cap:=cap') (w1:=w1) (cur:=cur) hno k1 k2 k3 k4
   hgI.1 hgI.2.1 horg hgr.os hgr.tape hgr.output hgr.size (fun q hq _ hb=>hgr.block q hq (fun e=>hb e.symm)) (fun q hq ds=>by
    rcases hq with rfl|hq
    ·rcases hblk with hq|hq
     ·exact (hfree q (hq.symm.trans rfl)).2.2.2.2 ds
     ·have e:q=G.w.heap.size:=by simpa [blk] using hq
      rw[e];simp
    ·exact (hfree q hq).2.2.2.2 ds) hg hcs hc h0 (by rw[<-ht.1,hvl];exact hnc)
   (fun j u x hu hx=>by
     have hj:j<n*sz:=by have:=(List.getElem?_eq_some_iff.1 hu).1;simp only[] at this;rw[<-ht.1,hvl] at this;exact this
     rw[hcat j hj] at hx
     exact ht.2.1 j u x hu hx)
   (fun j x hj hx=>by
     have hj':j<n*sz:=by simp only[] at hj;rw[<-ht.1,hvl] at hj;exact hj
     rw[hcat j hj'] at hx
     exact ht.2.2 x (List.mem_of_getElem? hx))
  exact ⟨G',e1,e3,e4, .gs _ _ _ _ e2⟩
theorem yfd {o:Oper} {x y:Operand} {t u:TypeId} (ho:o.op= .call {callee:= .builtin .append,args:= #[x,y],argTypes:= #[t,u]}) {v v':Value} {w':World} (hx:a.eval x=v) {z:Value} (hy:a.eval y=z)
  (hr:(Builtin.append_ #[t,u] o.type #[v,z]).run P G.w= .ok v' w'):(execOp a.eval o).run P G.w= .ok (.value v') w':=by
 simp[execOp,ho,resolve,invoke,builtin,hx,hy,hr]
inductive App (S:St) (hs:Nat→Bool) (d e sz:Nat) (m:Nat) (ys:List AV) (K:AV→St→Prop):AV→Prop
 |nil0 (n:Nat) (xs:List AV) (hm:m=0) (hK:K (.sl true 0 []) S):App S hs d e sz m ys K (.sl true n xs)
 |nil (n:Nat) (xs:List AV) (hm:0<m) (hno:hOk (yaR hs S d) ys=true) (hK:K (.gs (yaR hs S d) m) (S.new hs d ⟨e,sz,ys⟩)):App S hs d e sz m ys K (.sl true n xs)
 |own (k:Key) (n:Nat) (b:Blk) (hk:S.M k=some b) (he:b.e=e) (hsz:b.sz=sz) (hl:b.cells.length=n*sz) (hh:(∃o,k= .h o)->hs d=true) (hno:hOk (yaR hs (S.kill k) d) (b.cells++ys)=true) (hK:K (.gs (yaR hs (S.kill k) d) (n+m)) ((S.kill k).new hs d ⟨e,sz,b.cells++ys⟩)):App S hs d e sz m ys K (.gs k n)
theorem yoU (h:Rel B N S a G) (hs:Nat→Bool) {o:Oper} {d e sz m:Nat} {us:AV} {v:Value} {ys:List AV} {ysv:List Value} {K:AV→St→Prop} {next:Act→World→Prop} {Q:Exit→Act→World→Prop} (h0:0<sz) (hv:VR G us v) (hys:Told G ys ysv) (hyl:ysv.length=m*sz) (hA:App S hs d e sz m ys K us)
  (hrun:∀(ao:Option Addr) (n cap:Nat) (xs:List Value),v= .slice ao n cap→n≤1000000000→G.w.ownsRow 0 e sz (.slice ao n cap) n xs→
    ∃ao' cap' w',(execOp a.eval o).run P G.w= .ok (.value (.slice ao' (n+m) cap')) w'/\w'.ownsRow 0 e sz (.slice ao' (n+m) cap') (n+m) (xs++ysv)/\G.w.grownBy w' (blk ao)/\(blk ao'=blk ao∨blk ao'=some G.w.heap.size)/\(ao'=none↔ao=none/\m=0))
  (hbnd:∀k n,us= .gs k n->n<=1000000000) (hn:Nxt B N a o K next):o.wp P a G.w next Q:=by
 have _:=(inferInstance:GB P B)
 have hys0:m=0->ys= []:=fun e0=>List.eq_nil_of_length_eq_zero (by rw[<-hys.1,hyl,e0,Nat.zero_mul])
 cases hA with
 | nil0 n xs hm hK=>
   subst hm
   have e:=hv.nsl_inv.1;subst e
   obtain ⟨ao',cap',w',r1,r2,r3,r4,r5⟩:=hrun none 0 0 [] rfl (by omega) (World.ownsRow_nil G.w 0 e sz)
   have hao:ao'=none:=r5.2 ⟨rfl,rfl⟩
   subst hao
   have hcap:cap'=0:=by
    rcases r2.2 with ⟨q,_⟩|⟨g,c,cur,q,_⟩
    ·injection q
    ·cases q
   subst hcap
   obtain ⟨G',e1,e2,e3⟩:=h.toMRel.grown0 r3
   refine ycw r1 ?_
   have:=hn _ _ _ G' hK (h.lift e2 e3 rfl) (.nsl _ _ _ rfl rfl)
   rw[e1] at this;exact this
 | nil n xs hm hno hK=>
   have e:=hv.nsl_inv.1;subst e
   obtain ⟨ao',cap',w',r1,r2,r3,r4,r5⟩:=hrun none 0 0 [] rfl (by omega) (World.ownsRow_nil G.w 0 e sz)
   rw[Nat.zero_add] at r1 r2
   rw[List.nil_append] at r2
   have hne:ao'≠none:=fun q=>absurd (r5.1 q).2 (by omega)
   obtain ⟨G',e1,e2,e3,e4⟩:=ynm h.toMRel hs d r3 r2 hys hne r4 (fun g hg=>by cases hg) h0 hno
   refine ycw r1 ?_
   have:=hn _ _ _ G' hK (h.lift e2 e3 (ykq _ _ _ _)) e4
   rw[e1] at this;exact this
 | own k n b hk he hsz hl hh hno hK=>
   obtain ⟨g,cap,hkk,q0⟩:=hv.gs_inv h.toMRel (by simp[yav,hk])
   obtain ⟨r,hr,hb⟩:=h.toMRel.κcell hk (by rw[hsz];omega)
   rw[hkk] at hr;cases hr
   have hb':=hb
   obtain ⟨cur,c1,c2,c3,c4,c5,c6,c7⟩:=hb
   have hlc:n*sz<=cap*sz:=by rw[<-hl,<-hsz,<-c2];exact c5
   have hnc:n<=cap:=Nat.le_of_mul_le_mul_right hlc h0
   have htold:Told G b.cells (cur.toList.take (n*sz)):=by
    have hlt:(cur.toList.take (n*sz)).length=n*sz:=by rw[List.length_take];simp;rw[c2,hsz];exact Nat.min_eq_left hlc
    refine ⟨by rw[hlt,hl],?_,?_⟩
    ·intro j u x hu hx
     rw[List.getElem?_take] at hx
     split at hx
     ·exact c6 j u x hu (by simpa using hx)
     ·cases hx
    ·intro x hx
     obtain ⟨j,hj⟩:=List.mem_iff_getElem?.1 hx
     rw[List.getElem?_take] at hj
     split at hj
     ·rename_i hlt2
      exact c7 j x (by rw[hl];exact hlt2) (by simpa using hj)
     ·cases hj
   have hown:G.w.ownsRow 0 e sz (.slice (some ⟨g,0,none⟩) n cap) n (cur.toList.take (n*sz)):=by
    refine ⟨by rw[htold.1,hl], .inr ⟨g,cap,cur,rfl,Nat.zero_le _,by rw[<-he];exact c1,hnc,c3,by rw[c2,hsz],rfl⟩⟩
   obtain ⟨ao',cap',w',r1,r2,r3,r4,r5⟩:=hrun (some ⟨g,0,none⟩) n cap _ q0 (hbnd k n rfl) hown
   obtain ⟨G1,g1,_,g3,g4,g5⟩:=h.toMRel.kill false (S':=S.kill k) hkk rfl
   obtain ⟨g3a,g3b⟩:=g3 rfl
   have hap:=h.toMRel.apart k _ hkk
   obtain ⟨G',e1,e2,e3,e4⟩:=ynm g4 hs d (ao:=some ⟨g,0,none⟩) (by rw[g1];exact r3) r2 ((htold.append hys).le g5) (fun q=>by have:=r5.1 q;cases this.1) (by rw[g1];exact r4) (fun q hq=>by
    have:q=g:=by simpa [blk] using hq.symm
    subst this
    refine ⟨by rw[g3a];exact hap.1,g3b,by rw[g1];exact hap.2,?_,fun ds=>by rw[g1,c1];intro e;cases Option.some.inj e⟩
    cases k with
    |l d' c'=>exact h.toMRel.loc d' c' _ hkk
    | h o' => rcases h.toMRel.heap o' _ hkk with hq2|⟨k2,r',p1,p2⟩
              ·exact .inl hq2
              ·exact .inr ⟨k2,r',p1,p2⟩) h0 hno
   refine ycw r1 ?_
   have:=hn _ _ _ G' hK (h.lift e2 (g5.trans e3) (by rw[ykq];rfl)) e4
   rw[e1] at this;exact this
end
end Go.AV
end
noncomputable section
namespace Go.AV
open Go.RowKit Go.RG Go.Lib
theorem VR.noL {G G':Gh} (hκ:∀o r,G.κ (.h o)=some r→G'.κ (.h o)=some r) (hd:∀o,G.dead (.h o)→G'.dead (.h o)) (hI:∀b,G.I b→G'.I b) (hw:G'.w=G.w):∀ {u:AV} {v:Value},VR G u v→u.noL=true→VR G' u v:=by
 intro u v h
 induction h with
 |bl b=>exact fun _=> .bl b
 |it k n=>exact fun _=> .it k n
 |st l s h=>exact fun _=> .st l s h
 |agg cs vs hl h h1 ih=>intro hn;simp only[AV.noL] at hn;exact .agg cs vs hl (fun j u x a b=>ih j u x a b (yaK hn j u a)) h1
 |tup cs vs hl h ih=>intro hn;simp only[AV.noL] at hn;exact .tup cs vs hl (fun j u x a b=>ih j u x a b (yaK hn j u a))
 |nsl z n xs hn hx=>exact fun _=> .nsl z n xs hn hx
 |esl n xs hn hx a cap=>exact fun _=> .esl n xs hn hx a cap
 |sl n xs b off cap f hIb hc h h1 hn hm hq ih=>intro _;exact .sl n xs b off cap f (hI b hIb) (fun j u a=>by rw[hw];exact hc j u a) (fun j u a=>ih j u a (yaK hq j u a)) h1 hn hm hq
 | gs k n b cap hk=>cases k with
   |l d c=>intro hn;simp[AV.noL] at hn
   |h o=>exact fun _=> .gs _ n b cap (hκ o _ hk)
 | gsd k n v hk h1=>cases k with
   |l d c=>intro hn;simp[AV.noL] at hn
   |h o=>exact fun _=> .gsd _ n v (hd o hk) h1
 |nptr=>exact fun _=> .nptr
 | pt k off b cap hk=>cases k with
   |l d c=>intro hn;simp[AV.noL] at hn
   |h o=>exact fun _=> .pt _ off b cap (hκ o _ hk)
 | ptd k off v hk h1=>cases k with
   |l d c=>intro hn;simp[AV.noL] at hn
   |h o=>exact fun _=> .ptd _ off v (hd o hk) h1
 |ep xs off b base f hIb hc h h1 hq ih=>intro _;exact .ep xs off b base f (hI b hIb) (fun j u a=>by rw[hw];exact hc j u a) (fun j u a=>ih j u a (yaK hq j u a)) h1 hq
 |fn f a c va vc ha hc h h' ih ih'=>intro hn;simp only[AV.noL,Bool.and_eq_true] at hn;exact .fn f a c va vc ha hc (fun j u x p q=>ih j u x p q (yaK hn.1 j u p)) (fun j u x p q=>ih' j u x p q (yaK hn.2 j u p))
 |nfn=>exact fun _=> .nfn
 |yld o l cap hk=>exact fun _=> .yld o l cap (hκ o _ hk)
 |yldd o v hk h1=>exact fun _=> .yldd o v (hd o hk) h1
 |un v=>exact fun _=> .un v
def pub1 (v:AV) (S:St):AV×St:=
 match v with
 | .gs (.l d c) n=>match S.M (.l d c) with
   |some b=>if b.cells.length=n*b.sz/\b.sz≠0/\noLs b.cells=true then (.sl false n b.cells,S.kill (.l d c)) else (v,S)
   |none=>(v,S)
 |v=>(v,S)
def pubs (l:List AV) (S:St):List AV×St:=
 match l with
 | []=>([],S)
 |u::r=>let p:=pub1 u S;let q:=pubs r p.2;(p.1::q.1,q.2)
def pubV (v:AV) (S:St):AV×St:=
 if v.noL then (v,S) else
 match v with
 | .agg cs=>let p:=pubs cs S;(.agg p.1,p.2)
 |v=>pub1 v S
def pubL (l:List AV) (S:St):List AV×St:=
 match l with
 | []=>([],S)
 |u::r=>let p:=pubV u S;let q:=pubL r p.2;(p.1::q.1,q.2)
section
variable {P:Program} {B:Base} [GB P B] {N:Nat} {S:St} {a:Act} {G:Gh}
def VRs (G:Gh) (us:List AV) (vs:List Value):Prop:=vs.length=us.length/\∀(j:Nat) (u:AV) (x:Value),us[j]? =some u->vs[j]? =some x->VR G u x
theorem VRs.le {G':Gh} (hle:LE G G') {us:List AV} {vs:List Value} (h:VRs G us vs):VRs G' us vs:=⟨h.1,fun j u x p q=>(h.2 j u x p q).le hle⟩
theorem VRs.cons {u:AV} {v:Value} {us:List AV} {vs:List Value} (h:VR G u v) (k:VRs G us vs):VRs G (u::us) (v::vs):=by
 refine ⟨by simp[k.1],fun j u' x p q=> ?_⟩
 cases j with
 |zero=>simp at p q;subst p;subst q;exact h
 |succ j=>exact k.2 j u' x (by simpa using p) (by simpa using q)
theorem VRs.head {u:AV} {v:Value} {us:List AV} {vs:List Value} (h:VRs G (u::us) (v::vs)):VR G u v:=h.2 0 u v rfl rfl
theorem VRs.tail {u:AV} {v:Value} {us:List AV} {vs:List Value} (h:VRs G (u::us) (v::vs)):VRs G us vs:=⟨by simpa using h.1,fun j u' x p q=>h.2 (j+1) u' x (by simpa using p) (by simpa using q)⟩
theorem yjj (h:MRel B S G) {u:AV} {v:Value} (hv:VR G u v):∃G',MRel B (pub1 u S).2 G'∧LE G G'∧G'.w=G.w∧VR G' (pub1 u S).1 v∧(pub1 u S).2.fr=S.fr:=by
 unfold pub1
 split
 ·rename_i d c n
  split
  ·rename_i b hm
   split
   ·rename_i hl
    obtain ⟨hl,hz,hqn⟩:=hl
    obtain ⟨g,cap,hk,e⟩:=hv.gs_inv h (by simp[yav,hm])
    obtain ⟨r,hr,hb⟩:=h.κcell hm hz
    rw[hk] at hr;cases hr
    obtain ⟨G',e1,e2,e3,e4,e5⟩:=h.kill true (S':=S.kill (.l d c)) hk rfl
    refine ⟨G',e4,e5,e1,?_,rfl⟩
    obtain ⟨cur,c1,c2,c3,c4,c5,c6,c7⟩:=hb
    have hnc:n≤cap:=by
     have:n*b.sz<=cap*b.sz:=by rw[<-hl,<-c2];exact c5
     exact Nat.le_of_mul_le_mul_right this c4
    rw[e]
    have hcell:∀(j:Nat) (u:AV),b.cells[j]? =some u→∃x,cur[j]? =some x:=by
     intro j u hu
     have hj:j<cur.size:=Nat.lt_of_lt_of_le (List.getElem?_eq_some_iff.1 hu).1 c5
     exact ⟨cur[j],Array.getElem?_eq_getElem hj⟩
    refine .sl n b.cells g 0 cap (fun j=>(cur[j]?).getD undef) (e2 rfl) ?_ ?_ ?_ hnc (Nat.le_trans hnc c3) hqn
    ·intro j u hu
     obtain ⟨x,hx⟩:=hcell j u hu
     rw[e1]
     simp only[World.cell?,Nat.zero_add]
     simp[c1,hx]
    ·intro j u hu
     obtain ⟨x,hx⟩:=hcell j u hu
     rw[hx];exact (c6 j u x hu hx).le e5
    ·intro j u hu
     obtain ⟨x,hx⟩:=hcell j u hu
     rw[hx];exact c7 j x (List.getElem?_eq_some_iff.1 hu).1 hx
   ·exact ⟨G,h,LE.refl G,rfl,hv,rfl⟩
  ·exact ⟨G,h,LE.refl G,rfl,hv,rfl⟩
 ·exact ⟨G,h,LE.refl G,rfl,hv,rfl⟩
theorem yqF:∀(us:List AV) (vs:List Value) (S:St) (G:Gh),MRel B S G→VRs G us vs→∃G',MRel B (pubs us S).2 G'∧LE G G'∧G'.w=G.w∧VRs G' (pubs us S).1 vs∧(pubs us S).2.fr=S.fr:=by
 intro us
 induction us with
 |nil=>intro vs S G h hv;exact ⟨G,h,LE.refl G,rfl,hv,rfl⟩
 | cons u us ih=>
   intro vs S G h hv
   cases vs with
   |nil=>cases hv.1
   | cons v vs=>
     obtain ⟨G1,a1,a2,a3,a4,a5⟩:=yjj h hv.head
     obtain ⟨G2,b1,b2,b3,b4,b5⟩:=ih vs _ G1 a1 (hv.tail.le a2)
     exact ⟨G2,b1,a2.trans b2,b3.trans a3,VRs.cons (a4.le b2) b4,b5.trans a5⟩
theorem yq9 (h:MRel B S G) {u:AV} {v:Value} (hv:VR G u v):∃G',MRel B (pubV u S).2 G'∧LE G G'∧G'.w=G.w∧VR G' (pubV u S).1 v∧(pubV u S).2.fr=S.fr:=by
 unfold pubV
 split
 ·exact ⟨G,h,LE.refl G,rfl,hv,rfl⟩
 ·split
  ·rename_i _ cs _
   obtain ⟨vs,e,h1,h2,h3⟩:=hv.agg_inv
   obtain ⟨G',a1,a2,a3,a4,a5⟩:=yqF cs vs.toList S G h ⟨by simpa using h1,fun j u x p q=>h2 j u x p (by simpa using q)⟩
   refine ⟨G',a1,a2,a3,?_,a5⟩
   rw[e]
   exact .agg _ _ (by simpa using a4.1) (fun j u x p q=>a4.2 j u x p (by simpa using q)) h3
  ·exact yjj h hv
theorem ymU:∀(us:List AV) (vs:List Value) (S:St) (G:Gh),MRel B S G→VRs G us vs→∃G',MRel B (pubL us S).2 G'∧LE G G'∧G'.w=G.w∧VRs G' (pubL us S).1 vs∧(pubL us S).2.fr=S.fr:=by
 intro us
 induction us with
 |nil=>intro vs S G h hv;exact ⟨G,h,LE.refl G,rfl,hv,rfl⟩
 | cons u us ih=>
   intro vs S G h hv
   cases vs with
   |nil=>cases hv.1
   | cons v vs=>
     obtain ⟨G1,a1,a2,a3,a4,a5⟩:=yq9 h hv.head
     obtain ⟨G2,b1,b2,b3,b4,b5⟩:=ih vs _ G1 a1 (hv.tail.le a2)
     exact ⟨G2,b1,a2.trans b2,b3.trans a3,VRs.cons (a4.le b2) b4,b5.trans a5⟩
abbrev Hp:=Nat->Option Blk
def hSt (H:Hp) (n:Nat):St:=⟨fun _=> .un,fun k=>match k with| .h o=>H o| .l _ _=>none,fun _=>0,n⟩
def St.hp (S:St):Hp:=fun o=>S.M (.h o)
def St.withH (S:St) (H:Hp) (n:Nat):St:={S with M:=fun k=>match k with| .h o=>H o| .l d c=>S.M (.l d c),nx:=n}
def yeh (P:Program) (f:FuncId) (vs:Array Value) (w:World) (R:Ending→World→Prop):Prop:=
 match (callFunc f vs).run P w with
 | .ok (.value v) w'=>R (.returned v) w'
 | .ok (.enter g az) w'=>Calls P g az w' R
 |_=>False
def ynP (P:Program) (Q:Exit→Act→World→Prop):List Oper→Act→World→(Act→World→Prop)→Prop
 | [],a,w,k=>k a w
 |x::r,a,w,k=>x.wp P a w (fun a' w'=>ynP P Q r a' w' k) Q
def hkW (P:Program) (k:Nat) (vs:Array Value) (w:World) (R:Ending→World→Prop):Prop:=
 ∀(m:HkM) (mid suf:List Oper) (a:Act) (next:Act→World→Prop) (Q:Exit→Act→World→Prop),hkP P (mid++suf)=some m→m.k=k→mid.length=m.n+1→m.xs.map a.eval=vs.toList→m.d<a.tmps.size→(∀c∈m.cl,c<a.tmps.size)→
  (∀v w' a',R (.returned v) w'->a'.defers=a.defers->a'.tmps.size=a.tmps.size->(∀t,t≠m.d->t∉m.cl->a'.tmps[t]? =a.tmps[t]?)->a'.tmps[m.d]? =some v->next a' w')->ynP P Q mid a w next
def XW (P:Program) (f:FuncId) (vs:Array Value) (w:World) (R:Ending→World→Prop):Prop:=match Nat.ble f 999999 with
 |true=>yeh P f vs w R
 |false=>hkW P (f-1000000) vs w R
theorem XW_f {P:Program} {f:FuncId} (hf:f<1000000) {vs:Array Value} {w:World} {R:Ending→World→Prop}:XW P f vs w R=yeh P f vs w R:=by
 unfold XW
 rw[Nat.ble_eq_true_of_le (Nat.le_of_lt_succ hf)]
theorem XW_h {P:Program} {k:Nat} {vs:Array Value} {w:World} {R:Ending→World→Prop}:XW P (1000000+k) vs w R=hkW P k vs w R:=by
 unfold XW
 have:Nat.ble (1000000+k) 999999=false:=by
  cases h:Nat.ble (1000000+k) 999999 with
  |false=>rfl
  |true=>have:=Nat.le_of_ble_eq_true h;omega
 rw[this,Nat.add_sub_cancel_left]
def yaD (G:Gh) (n:Nat):Base:=⟨G.w,G.κ,G.I,n,[],[],G.ft⟩
theorem GB.of {P:Program} {G:Gh} {n:Nat} {S:St} (h:GOK P G.w G.I) (hM:MRel (yaD G n) S G):GB P (yaD G n):=⟨h,fun b ⟨k,r,hr,q⟩=>q.elim (fun e=>e▸(hM.apart k r hr).1) fun q=>(hM.fo.ap k b ⟨⟨r,hr⟩,q⟩).1⟩
def yay (P:Program) (f:FuncId) (args:List AV) (H:Hp) (n:Nat) (Post:AV→Hp→Nat→Prop):Prop:=
 ∀(G:Gh) (vs:Array Value),GOK P G.w G.I->MRel (yaD G n) (hSt H n) G->VRs G args vs.toList->yeh P f vs G.w fun e w'=>∃v av H' n' G',e= .returned v/\Post av H' n'/\MRel (yaD G n) (hSt H' n') G'/\G'.w=w'/\VR G' av v/\av.noL=true
def Pure (P:Program) (f:FuncId) (args:List AV) (v:AV):Prop:=∀H n,yay P f args H n fun av H' n'=>av=v/\H'=H/\n'=n
theorem yeh.mono {f:FuncId} {vs:Array Value} {w:World} {R R':Ending→World→Prop} (h:yeh P f vs w R) (hr:∀e w',R e w'→R' e w'):yeh P f vs w R':=by
 unfold yeh at*
 split at h
 ·exact hr _ _ h
 ·exact Calls.mono h hr
 ·exact h.elim
theorem XW.mono {P:Program} {f:FuncId} {vs:Array Value} {w:World} {R R':Ending→World→Prop} (h:XW P f vs w R) (hr:∀e w',R e w'→R' e w'):XW P f vs w R':=by
 unfold XW at*
 split at h
 ·exact yeh.mono h hr
 ·exact fun m mid suf a next Q h1 h2 h3 h4 h6 h7 h5=>h m mid suf a next Q h1 h2 h3 h4 h6 h7 fun v w' a' q=>h5 v w' a' (hr _ _ q)
theorem yay.mono {f:FuncId} {args:List AV} {H:Hp} {n:Nat} {Post Post':AV→Hp→Nat→Prop} (h:yay P f args H n Post) (hp:∀av H' n',Post av H' n'→Post' av H' n'):yay P f args H n Post':=
 fun G vs hg hM hV=>(h G vs hg hM hV).mono fun _ _ ⟨v,av,H',n',G',a1,a2,a3⟩=>⟨v,av,H',n',G',a1,hp _ _ _ a2,a3⟩
theorem yhZ (h:MRel B S G) {Gc G1:Gh} {H':Hp} {n':Nat} (hcw:Gc.w=G.w) (hcI:Gc.I=G.I) (hcκ:∀o,Gc.κ (.h o)=G.κ (.h o)) (hcl:∀d c,Gc.κ (.l d c)=none) (hcf:∀k x,¬Gc.ft k x) (h1:MRel (yaD Gc S.nx) (hSt H' n') G1):
  ∃G',G'.w=G1.w/\MRel B (S.withH H' n') G'/\LE G G'/\(∀o r,G1.κ (.h o)=some r->G'.κ (.h o)=some r)/\(∀o,G1.dead (.h o)->G'.dead (.h o))/\(∀b,G1.I b->G'.I b):=by
 let S':=S.withH H' n'
 let G':Gh:=⟨fun k=>match k with| .h o=>G1.κ (.h o)| .l d c=>G.κ (.l d c),ybt S',G1.I,G1.w,fun k x=>match k with| .h _=>False| .l d c=>G.ft (.l d c) x⟩
 have hBw:(yaD Gc S.nx).w=G.w:=hcw
 have hsz:G.w.heap.size<=G1.w.heap.size:=by rw[<-hBw];exact h1.size
 have hll:∀d c r,G1.κ (.l d c)=some r→False:=by
  intro d c r hr
  obtain ⟨b,hb,_⟩:=h1.Msome hr
  cases hb
 have hsame:∀d c r,G.κ (.l d c)=some r→G1.w.heap[r.1]? =G.w.heap[r.1]? :=by
  intro d c r hr
  have:=h1.same r.1 (by rw[hBw];exact (h.apart _ r hr).2) (fun ⟨k,r',hk,e⟩=> ?_)
  ·rw[hBw] at this;exact this
  ·replace e:=e.resolve_right (hcf _ _)
   cases k with
   |l d' c'=>have:=hcl d' c';rw[show (yaD Gc S.nx).κ (.l d' c')=Gc.κ (.l d' c') from rfl,this] at hk;cases hk
   |h o=>rw[show (yaD Gc S.nx).κ (.h o)=Gc.κ (.h o) from rfl,hcκ] at hk;have:=h.inj _ _ _ _ hk hr e;cases this
 have hIsame:∀b,G.I b→G1.w.heap[b]? =G.w.heap[b]? :=by
  intro b hb
  have:=h1.same b (by rw[hBw];exact h.lt b hb) (fun ⟨k,r',hk,e⟩=> ?_)
  ·rw[hBw] at this;exact this
  ·replace e:=e.resolve_right (hcf _ _)
   cases k with
   |l d' c'=>have:=hcl d' c';rw[show (yaD Gc S.nx).κ (.l d' c')=Gc.κ (.l d' c') from rfl,this] at hk;cases hk
   |h o=>rw[show (yaD Gc S.nx).κ (.h o)=Gc.κ (.h o) from rfl,hcκ] at hk;exact (h.apart _ _ hk).1 (e▸hb)
 have hdh:∀o,G1.dead (.h o)↔G'.dead (.h o):=by
  intro o
  rw[h1.dead]
  exact Iff.rfl
 have hII:∀b,G.I b->G1.I b:=fun b hb=>h1.I0 b (by show Gc.I b;rw[hcI];exact hb)
 have hle:LE G G':=by
  have htr:∀b ds,G.w.heap[b]? =some (.deferred ds)→∀k r,Gc.κ k=some r→r.1≠b:=by
   intro b ds hb k r hr e
   cases k with
   |l d' c'=>rw[hcl] at hr;cases hr
   |h o=>rw[hcκ] at hr;exact h.notDfr hr ds (e▸hb)
  refine ⟨?_,?_,hII,hIsame,fun b ds hb=>⟨?_,fun hI=> ?_⟩⟩
  rotate_left 2
  ·have:=h1.same b (by rw[hBw];exact (Array.getElem?_eq_some_iff.1 hb).1) (fun ⟨k,r,hk,e⟩=>htr b ds hb k r hk (e.resolve_right (hcf _ _)))
   rw[hBw] at this;exact this
  ·rcases h1.I1 b hI with hq|hq|⟨k,r',e1,e2⟩
   ·have hq':Gc.I b:=hq
    rw[hcI] at hq';exact hq'
   ·rw[hBw] at hq;have:=(Array.getElem?_eq_some_iff.1 hb).1;omega
   ·exact absurd e2 (htr b ds hb k r' e1)
  ·intro k r hr
   cases k with
   |l d c=>exact .inl hr
   | h o=>
     rcases h1.keep (.h o) r (by show Gc.κ (.h o)=some r;rw[hcκ];exact hr) with hq|hq
     ·exact .inl hq
     ·exact .inr ((hdh o).1 hq)
  ·intro k hd
   cases k with
   |l d c=>obtain ⟨p,q⟩:=(h.dead _).1 hd;exact ⟨p,q⟩
   | h o=>
     obtain ⟨p,q⟩:=(h.dead _).1 hd
     have hn:G1.κ (.h o)=none:=h1.gone o q (by show Gc.κ (.h o)=none;rw[hcκ];exact h.κnone p)
     refine ⟨?_,Nat.lt_of_lt_of_le q h1.nx⟩
     show H' o=none
     cases hq:H' o with
     |none=>rfl
     |some b=>obtain ⟨r,hr,_⟩:=h1.κsome (k:= .h o) (b:=b) hq;rw[hn] at hr;cases hr
 have hne:∀d c r o r',G.κ (.l d c)=some r→G1.κ (.h o)=some r'→r.1≠r'.1:=by
  intro d c r o r' hr hr' e
  rcases h1.heap o r' hr' with hq|⟨k,r2,e1,e2⟩
  ·rw[hBw] at hq;have:=(h.apart _ r hr).2;omega
  ·cases k with
   |l d' c'=>have:=hcl d' c';rw[show (yaD Gc S.nx).κ (.l d' c')=Gc.κ (.l d' c') from rfl,this] at e1;cases e1
   |h o2=>rw[show (yaD Gc S.nx).κ (.h o2)=Gc.κ (.h o2) from rfl,hcκ] at e1;have:=h.inj _ _ _ _ e1 hr (e2.trans e.symm);cases this
 refine ⟨G',rfl,⟨?_,?_,fun k=>Iff.rfl,?_,?_,h1.lt,?_,?_,?_,Nat.le_trans h.nx h1.nx,?_,fun b hb=>hII b (h.I0 b hb),?_,?_,?_,?_,Nat.le_trans h.size hsz,?_,?_,?_⟩,hle,fun o r hr=>hr,fun o hd=>(hdh o).1 hd,fun b hb=>hb⟩
 ·intro k
  cases k with
  |l d c=>exact (h.blk (.l d c)).le hle fun q hq=>hsame d c q hq
  | h o=>
    have:=h1.blk (.h o)
    refine (show yac G1 (H' o) (G1.κ (.h o)) from this)|>fun hb=> ?_
    show yac G' (H' o) (G1.κ (.h o))
    refine yac.le (G:=G1) ?_ (fun _ _=>rfl) hb
    refine ⟨fun k r hr=> ?_,fun k hd=> ?_,fun _ hb=>hb,fun _ _=>rfl,fun _ _ _=>⟨rfl,fun h=>h⟩⟩
    ·cases k with
     |l d c=>exact (hll d c r hr).elim
     |h o=>exact .inl hr
    ·cases k with
     | l d c=>
       obtain ⟨p,q⟩:=(h1.dead _).1 hd
       have hq:1<=c/\c<=0:=q
       omega
     |h o=>exact (hdh o).1 hd
 ·intro k k' r r' hr hr' e
  cases k with
  | l d c=>cases k' with
    |l d' c'=>exact h.inj _ _ r r' hr hr' e
    |h o=>exact absurd e (hne d c r o r' hr hr')
  | h o=>cases k' with
    |l d c=>exact absurd e.symm (hne d c r' o r hr' hr)
    |h o'=>exact h1.inj _ _ r r' hr hr' e
 ·intro k b hb
  cases k with
  |l d c=>exact h.live (.l d c) b hb
  |h o=>exact h1.live (.h o) b hb
 ·intro k r hr
  cases k with
  | l d c=>
    refine ⟨fun hI=> ?_,Nat.lt_of_lt_of_le (h.apart _ r hr).2 hsz⟩
    rcases h1.I1 r.1 hI with hq|hq|⟨k,r',e1,e2⟩
    ·have hq':Gc.I r.1:=hq
     rw[hcI] at hq';exact (h.apart _ r hr).1 hq'
    ·rw[hBw] at hq;have:=(h.apart _ r hr).2;omega
    ·cases k with
     |l d' c'=>have:=hcl d' c';rw[show (yaD Gc S.nx).κ (.l d' c')=Gc.κ (.l d' c') from rfl,this] at e1;cases e1
     |h o=>rw[show (yaD Gc S.nx).κ (.h o)=Gc.κ (.h o) from rfl,hcκ] at e1;have:=h.inj _ _ _ _ e1 hr e2;cases this
  |h o=>exact h1.apart (.h o) r hr
 ·exact fun d c r hr=>h.loc d c r hr
 ·intro k r hr
  rcases h.keep k r hr with hq|hq
  ·exact hle.κ k r hq
  ·exact .inr (hle.dead k hq)
 ·intro o r hr
  rcases h1.heap o r hr with hq|⟨k,r',e1,e2⟩
  ·rw[hBw] at hq;exact .inl (Nat.le_trans h.size hq)
  ·cases k with
   |l d' c'=>have:=hcl d' c';rw[show (yaD Gc S.nx).κ (.l d' c')=Gc.κ (.l d' c') from rfl,this] at e1;cases e1
   | h o'=>
     rw[show (yaD Gc S.nx).κ (.h o')=Gc.κ (.h o') from rfl,hcκ] at e1
     rw[<-e2];exact h.heap o' r' e1
 ·intro o ho hb
  have hn:=h.gone o ho hb
  exact h1.gone o (Nat.lt_of_lt_of_le ho h.nx) (by show Gc.κ (.h o)=none;rw[hcκ];exact hn)
 ·intro b hb
  rcases h1.I1 b hb with hq|hq|⟨k,r',e1,e2⟩
  ·have hq':Gc.I b:=hq
   rw[hcI] at hq';exact h.I1 b hq'
  ·rw[hBw] at hq;exact .inr (.inl (Nat.le_trans h.size hq))
  ·cases k with
   |l d' c'=>have:=hcl d' c';rw[show (yaD Gc S.nx).κ (.l d' c')=Gc.κ (.l d' c') from rfl,this] at e1;cases e1
   | h o=>
     rw[show (yaD Gc S.nx).κ (.h o)=Gc.κ (.h o) from rfl,hcκ] at e1
     rw[<-e2]
     rcases h.heap o r' e1 with hq|hq
     ·exact .inr (.inl hq)
     ·exact .inr (.inr hq)
 ·exact (h1.os.trans (by rw[hBw])).trans h.os
 ·exact (h1.tape.trans (by rw[hBw])).trans h.tape
 ·exact (h1.output.trans (by rw[hBw])).trans h.output
 ·intro b hb hq
  have:=h1.same b (by rw[hBw];exact Nat.lt_of_lt_of_le hb h.size) (fun ⟨k,r',hk,e⟩=> ?_)
  ·rw[hBw] at this;exact this.trans (h.same b hb hq)
  ·replace e:=e.resolve_right (hcf _ _)
   cases k with
   |l d' c'=>have:=hcl d' c';rw[show (yaD Gc S.nx).κ (.l d' c')=Gc.κ (.l d' c') from rfl,this] at hk;cases hk
   | h o=>
     rw[show (yaD Gc S.nx).κ (.h o)=Gc.κ (.h o) from rfl,hcκ] at hk
     rcases h.heap o r' hk with hh|⟨k2,r2,p1,p2⟩
     ·omega
     ·exact hq ⟨k2,r2,p1, .inl (p2.trans e)⟩
 ·intro k b hb
  cases k with
  |l d c=>rfl
  |h o=>exact h1.hno (.h o) b hb
 ·have hfl:∀k x,G'.fp k x→∃d c,k= .l d c∧G.fp (.l d c) x:=by
   rintro k x ⟨⟨r,hr⟩,hx⟩
   cases k with
   |h o=>exact hx.elim
   |l d c=>exact ⟨d,c,rfl,⟨r,hr⟩,hx⟩
  have hfs:∀d c x,G.fp (.l d c) x→G1.w.heap[x]? =G.w.heap[x]? :=by
   intro d c x hx
   have:=h1.same x (by rw[hBw];exact (h.fo.ap _ x hx).2) (fun ⟨k,r',hk,e⟩=> ?_)
   ·rw[hBw] at this;exact this
   ·replace e:=e.resolve_right (hcf _ _)
    cases k with
    |l d' c'=>have:=hcl d' c';rw[show (yaD Gc S.nx).κ (.l d' c')=Gc.κ (.l d' c') from rfl,this] at hk;cases hk
    |h o=>rw[show (yaD Gc S.nx).κ (.h o)=Gc.κ (.h o) from rfl,hcκ] at hk;exact h.fo.dj1 _ x _ _ hx hk e
  refine ⟨fun k x k' r hx hr e=> ?_,fun k k' x hx hx'=> ?_,fun k x hx=> ?_,fun k x hx ds=> ?_,fun k x hx=> ?_,fun k b r hb hk ho hc=> ?_,fun o r hk=>⟨fun x q=>q,(h1.fo.hh o r hk).2⟩⟩
  ·obtain ⟨d,c,rfl,hx⟩:=hfl k x hx
   cases k' with
   |l d' c'=>exact h.fo.dj1 _ x _ r hx hr e
   | h o=>
     rcases h1.heap o r hr with hq|⟨k2,r2,e1,e2⟩
     ·rw[hBw,e] at hq;have:=(h.fo.ap _ x hx).2;omega
     ·cases k2 with
      |l d' c'=>have:=hcl d' c';rw[show (yaD Gc S.nx).κ (.l d' c')=Gc.κ (.l d' c') from rfl,this] at e1;cases e1
      |h o2=>rw[show (yaD Gc S.nx).κ (.h o2)=Gc.κ (.h o2) from rfl,hcκ] at e1;exact h.fo.dj1 _ x _ _ hx e1 (e2.trans e)
  ·obtain ⟨d,c,rfl,hx⟩:=hfl k x hx
   obtain ⟨d',c',rfl,hx'⟩:=hfl k' x hx'
   exact h.fo.dj2 _ _ x hx hx'
  ·obtain ⟨d,c,rfl,hx⟩:=hfl k x hx
   refine ⟨fun hI=> ?_,Nat.lt_of_lt_of_le (h.fo.ap _ x hx).2 hsz⟩
   rcases h1.I1 x hI with hq|hq|⟨k,r',e1,e2⟩
   ·have hq':Gc.I x:=hq
    rw[hcI] at hq';exact (h.fo.ap _ x hx).1 hq'
   ·rw[hBw] at hq;have:=(h.fo.ap _ x hx).2;omega
   ·cases k with
    |l d' c'=>have:=hcl d' c';rw[show (yaD Gc S.nx).κ (.l d' c')=Gc.κ (.l d' c') from rfl,this] at e1;cases e1
    |h o=>rw[show (yaD Gc S.nx).κ (.h o)=Gc.κ (.h o) from rfl,hcκ] at e1;exact h.fo.dj1 _ x _ _ hx e1 e2
  ·obtain ⟨d,c,rfl,hx⟩:=hfl k x hx
   rw[hfs d c x hx];exact h.fo.nd _ x hx ds
  ·obtain ⟨d,c,rfl,hx⟩:=hfl k x hx
   exact h.fo.lo _ x hx
  ·cases k with
   |h o=>exact absurd ⟨ho,hc⟩ ((h1.fo.hh o r hk).2 b hb)
   | l d c=>
     obtain ⟨n1,n2⟩:=h.fo.rep (.l d c) b r hb hk ho hc
     refine ⟨n1,yeY n2 fun x hx=> ?_⟩
     rcases hx with rfl|hx
     ·exact hsame d c r hk
     ·exact hfs d c x ⟨⟨r,hk⟩,hx⟩
theorem yjJ (h:MRel B S G):∃Gc,Gc.w=G.w∧Gc.I=G.I∧(∀o,Gc.κ (.h o)=G.κ (.h o))∧(∀d c,Gc.κ (.l d c)=none)∧(∀k x,¬Gc.ft k x)∧(∀o,G.dead (.h o)→Gc.dead (.h o))∧MRel (yaD Gc S.nx) (hSt S.hp S.nx) Gc:=by
 let Gc:Gh:=⟨fun k=>match k with| .h o=>G.κ (.h o)| .l _ _=>none,ybt (hSt S.hp S.nx),G.I,G.w,fun _ _=>False⟩
 have hk:∀k r,Gc.κ k=some r→∃o,k= .h o∧G.κ (.h o)=some r:=by
  intro k r hr
  cases k with
  |l d c=>cases hr
  |h o=>exact ⟨o,rfl,hr⟩
 have hd:∀o,G.dead (.h o)↔ybt (hSt S.hp S.nx) (.h o):=fun o=>(h.dead (.h o)).trans Iff.rfl
 refine ⟨Gc,rfl,rfl,fun _=>rfl,fun _ _=>rfl,fun _ _ q=>q,fun o=>(hd o).1,⟨?_,?_,fun k=>Iff.rfl,?_,?_,h.lt,?_,fun k r hr=> .inl hr,fun o r hr=> .inr ⟨.h o,r,hr,rfl⟩,Nat.le_refl _,fun o _ hn=>hn,fun _ hb=>hb,fun b hb=> .inl hb,rfl,rfl,rfl,Nat.le_refl _,fun _ _ _=>rfl,?_,⟨fun _ _ _ _ q=>q.2.elim,fun _ _ _ q=>q.2.elim,fun _ _ q=>q.2.elim,fun _ _ q=>q.2.elim,fun _ _ q=>q.2.elim,fun k b r hb hk ho hc=> ?_,fun o r hk=>⟨fun _ q=>q,(h.fo.hh o r hk).2⟩⟩⟩⟩
 ·intro k
  cases k with
  |l d c=>trivial
  | h o =>
    have:=h.blk (.h o)
    have hn:=h.hno (.h o)
    show yac Gc (S.M (.h o)) (G.κ (.h o))
    revert this hn
    cases S.M (.h o) with
    |none=>cases G.κ (.h o)<;>exact fun x _=>x
    | some b=>cases G.κ (.h o) with
      |none=>exact fun x _=>x
      | some r=>
        intro this hn
        by_cases hz:b.sz=0
        ·exact (yac.loop hz).2 (ycF.le0 (G:=G) (G':=Gc) rfl ((yac.loop (G:=G) hz).1 this))
        obtain ⟨cur,c1,c2,c3,c4,c5,c6,c7⟩:=(yac.cell hz).1 this
        exact (yac.cell hz).2 ⟨cur,c1,c2,c3,c4,c5,fun j u x p q=>VR.noL (G:=G) (G':=Gc) (fun o r hr=>hr) (fun o hd'=>(hd o).1 hd') (fun b hb=>hb) rfl (c6 j u x p q) (yaK (hn b rfl) j u p),c7⟩
 ·intro k k' r r' hr hr' e
  obtain ⟨o,rfl,p⟩:=hk k r hr
  obtain ⟨o',rfl,p'⟩:=hk k' r' hr'
  exact h.inj _ _ r r' p p' e
 ·intro k b hb
  cases k with
  |l d c=>cases hb
  |h o=>exact h.live (.h o) b hb
 ·intro k r hr
  obtain ⟨o,rfl,p⟩:=hk k r hr
  exact h.apart _ r p
 ·intro d c r hr;cases hr
 ·intro k b hb
  cases k with
  |l d c=>rfl
  |h o=>exact h.hno (.h o) b hb
 ·cases k with
  |l d c=>cases hk
  |h o=>exact absurd ⟨ho,hc⟩ ((h.fo.hh o r hk).2 b hb)
mutual
def AV.flat:AV→Bool
 | .bl _| .it _ _| .st _| .nptr| .nfn=>true
 | .agg cs=>ydj cs
 | .tup cs=>ydj cs
 |_=>false
def ydj:List AV→Bool
 | []=>true
 |u::r=>u.flat&&ydj r
end
theorem ykZ {l:List AV} (h:ydj l=true):∀(j:Nat) (u:AV),l[j]? =some u→u.flat=true:=by
 induction l with
 |nil=>intro j u hu;simp at hu
 | cons x l ih=>
   simp only[ydj,Bool.and_eq_true] at h
   intro j u hu
   cases j with
   |zero=>simp at hu;subst hu;exact h.1
   |succ j=>exact ih h.2 j u (by simpa using hu)
theorem VR.flat {G G':Gh}:∀ {u:AV} {v:Value},VR G u v→u.flat=true→VR G' u v:=by
 intro u v h
 induction h with
 |bl b=>exact fun _=> .bl b
 |it k n=>exact fun _=> .it k n
 |st l s h=>exact fun _=> .st l s h
 |agg cs vs hl h h1 ih=>intro hn;simp only[AV.flat] at hn;exact .agg cs vs hl (fun j u x a b=>ih j u x a b (ykZ hn j u a)) h1
 |tup cs vs hl h ih=>intro hn;simp only[AV.flat] at hn;exact .tup cs vs hl (fun j u x a b=>ih j u x a b (ykZ hn j u a))
 |nptr=>exact fun _=> .nptr
 |nfn=>exact fun _=> .nfn
 |_=>intro hn;simp[AV.flat] at hn
theorem MRel.grow {w':World} (h:MRel B S G) (h1:G.w.heap.size≤w'.heap.size) (h2:∀b,b<G.w.heap.size→w'.heap[b]? =G.w.heap[b]?) (h3:w'.os=G.w.os) (h4:w'.tape=G.w.tape) (h5:w'.output=G.w.output):
  ∃G',MRel B S G'/\LE G G'/\G'.w=w':=by
 let G':Gh:=⟨G.κ,G.dead,G.I,w',G.ft⟩
 have hle:LE G G':=⟨fun k r hr=> .inl hr,fun k hk=>hk,fun b hb=>hb,fun b hb=>h2 b (h.lt b hb),fun b ds hb=>⟨h2 b (Array.getElem?_eq_some_iff.1 hb).1,fun hI=>hI⟩⟩
 refine ⟨G',⟨fun k=> ?_,h.inj,h.dead,h.live,fun k r hr=>⟨(h.apart k r hr).1,Nat.lt_of_lt_of_le (h.apart k r hr).2 h1⟩,fun b hb=>Nat.lt_of_lt_of_le (h.lt b hb) h1,h.loc,h.keep,h.heap,h.nx,h.gone,h.I0,h.I1,h3.trans h.os,h4.trans h.tape,h5.trans h.output,Nat.le_trans h.size h1,fun b hb hn=>(h2 b (Nat.lt_of_lt_of_le hb h.size)).trans (h.same b hb hn),h.hno,h.fo.on (fun k r hr=> .inl ⟨hr,rfl,fun _ q _ _=>q⟩) (fun x hx=> .inl hx) h1 (fun k x hx=>h2 x (h.fo.ap k x hx).2) (fun k b r hb hk _ _=>h2 r.1 (h.apart k r hk).2)⟩,hle,rfl⟩
 have hb:=h.blk k
 show yac G' (S.M k) (G.κ k)
 cases hm:S.M k with
 | none=>
   rw[hm] at hb
   cases hk:G.κ k with
   |none=>trivial
   |some r=>rw[hk] at hb;exact hb
 | some b=>
   rw[hm] at hb
   cases hk:G.κ k with
   |none=>rw[hk] at hb;exact hb
   | some r=>
     rw[hk] at hb
     have hlt:=(h.apart k r hk).2
     by_cases hz:b.sz=0
     ·exact (yac.loop hz).2 (ycF.le0 (h2 _ hlt) ((yac.loop hz).1 hb))
     ·obtain ⟨cur,c1,c2,c3,c4,c5,c6,c7⟩:=(yac.cell hz).1 hb
      exact (yac.cell hz).2 ⟨cur,(h2 _ hlt).trans c1,c2,c3,c4,c5,fun j u x p q=>(c6 j u x p q).le hle,c7⟩
def vw1 (M:Key→Option Blk):AV→AV
 | .gs (.l d c) n=>match M (.l d c) with
   |some b=>if b.cells.length=n*b.sz/\b.sz≠0/\noLs b.cells=true then .sl false n b.cells else .gs (.l d c) n
   |none=> .gs (.l d c) n
 |u=>u
def vwV (M:Key→Option Blk):AV→AV
 | .agg cs=> .agg (cs.map (vw1 M))
 |u=>vw1 M u
def Gh.lend (G:Gh):Gh:=⟨G.κ,G.dead,fun b=>G.I b∨∃d c r,G.κ (.l d c)=some r/\r.1=b,G.w,G.ft⟩
theorem LE0.lend {G:Gh}:LE0 G G.lend:=⟨fun _ _ h=> .inl h,fun _ h=>h,fun _ h=> .inl h,fun _ _=>rfl⟩
theorem ypD (h:MRel B S G) {u:AV} {v:Value} (hv:VR G u v):VR G.lend (vw1 S.M u) v:=by
 unfold vw1
 split
 ·rename_i d c n
  split
  ·rename_i b hm
   split
   ·rename_i hl
    obtain ⟨hl,hz,hqn⟩:=hl
    obtain ⟨g,cap,hk,e⟩:=hv.gs_inv h (by simp[yav,hm])
    obtain ⟨r,hr,hb⟩:=h.κcell hm hz
    rw[hk] at hr;cases hr
    obtain ⟨cur,c1,c2,c3,c4,c5,c6,c7⟩:=hb
    have hnc:n≤cap:=by
     have:n*b.sz<=cap*b.sz:=by rw[<-hl,<-c2];exact c5
     exact Nat.le_of_mul_le_mul_right this c4
    rw[e]
    have hcell:∀(j:Nat) (u:AV),b.cells[j]? =some u→∃x,cur[j]? =some x:=by
     intro j u hu
     have hj:j<cur.size:=Nat.lt_of_lt_of_le (List.getElem?_eq_some_iff.1 hu).1 c5
     exact ⟨cur[j],Array.getElem?_eq_getElem hj⟩
    refine .sl n b.cells g 0 cap (fun j=>(cur[j]?).getD undef) (.inr ⟨d,c,_,hk,rfl⟩) ?_ ?_ ?_ hnc (Nat.le_trans hnc c3) hqn
    ·intro j u hu
     obtain ⟨x,hx⟩:=hcell j u hu
     show G.w.cell? _=_
     simp only[World.cell?,Nat.zero_add]
     simp[c1,hx]
    ·intro j u hu
     obtain ⟨x,hx⟩:=hcell j u hu
     rw[hx];exact (c6 j u x hu hx).le0 .lend
    ·intro j u hu
     obtain ⟨x,hx⟩:=hcell j u hu
     rw[hx];exact c7 j x (List.getElem?_eq_some_iff.1 hu).1 hx
   ·exact hv.le0 .lend
  ·exact hv.le0 .lend
 ·exact hv.le0 .lend
theorem yrP (h:MRel B S G) {u:AV} {v:Value} (hv:VR G u v):VR G.lend (vwV S.M u) v:=by
 cases u with
 | agg cs=>
   cases hv with
   | agg _ vs hl h0 h1=>
     refine .agg _ vs (by rw[List.length_map];exact hl) (fun j u x hu hx=> ?_) h1
     rw[List.getElem?_map] at hu
     obtain ⟨w,h2,rfl⟩:=Option.map_eq_some_iff.1 hu
     exact ypD h (h0 j w x h2 hx)
 |_=>exact ypD h hv
theorem ymx (h:MRel B S G) {f:FuncId} {us:List AV} {vs:Array Value} {u:AV} (hv:VRs G.lend us vs.toList) (hn:noLs us=true) (hF:Pure P f us u) (hfl:u.flat=true):
  yeh P f vs G.w fun e w'=>∃v,e= .returned v/\(∀G',VR G' u v)/\G.w.heap.size<=w'.heap.size/\(∀b,b<G.w.heap.size->w'.heap[b]? =G.w.heap[b]?)/\w'.os=G.w.os/\w'.tape=G.w.tape/\w'.output=G.w.output:=by
 let H0:Hp:=fun _=>none
 let Gm:Gh:=⟨fun _=>none,fun k=>match k with| .l _ _=>True| .h o=>o<S.nx,G.lend.I,G.w,fun _ _=>False⟩
 let Gc:Gh:=⟨fun _=>none,ybt (hSt H0 S.nx),G.lend.I,G.w,fun _ _=>False⟩
 have hlt:∀b,G.lend.I b→b<G.w.heap.size:=by
  rintro b (hb|⟨d,c,r,hr,rfl⟩)
  ·exact h.lt b hb
  ·exact (h.apart _ _ hr).2
 have hm:LE0 G.lend Gm:=by
  refine ⟨fun k r hr=> .inr ?_,fun k hk=> ?_,fun b hb=>hb,fun b _=>rfl⟩
  ·cases k with
   |l d c=>trivial
   | h o=>
     have hb:=h.blk (.h o)
     have hr':G.κ (.h o)=some r:=hr
     rw[hr'] at hb
     cases hM:S.M (.h o) with
     |none=>rw[hM] at hb;exact hb.elim
     |some b=>exact h.live _ b hM
  ·cases k with
   |l d c=>trivial
   |h o=>exact ((h.dead _).1 hk).2
 have hM:MRel (yaD Gc S.nx) (hSt H0 S.nx) Gc:=by
  refine ⟨fun k=> ?_,fun k k' r r' hr=>(by cases hr),fun k=>Iff.rfl,fun k b hb=> ?_,fun k r hr=>(by cases hr),hlt,fun d c r hr=>(by cases hr),fun k r hr=>(by cases hr),fun o r hr=>(by cases hr),Nat.le_refl _,fun o _ _=>rfl,fun b hb=>hb,fun b hb=> .inl hb,rfl,rfl,rfl,Nat.le_refl _,fun b _ _=>rfl,fun k b hb=> ?_,⟨fun _ _ _ _ q=>q.2.elim,fun _ _ _ q=>q.2.elim,fun _ _ q=>q.2.elim,fun _ _ q=>q.2.elim,fun _ _ q=>q.2.elim,fun k b r hb hk=>(by cases hk),fun o r hk=>(by cases hk)⟩⟩
  ·cases k<;>trivial
  ·cases k<;>cases hb
  ·cases k<;>cases hb
 have hvc:VRs Gc us vs.toList:=⟨hv.1,fun j u x p q=>VR.noL (G:=Gm) (G':=Gc) (fun o r hr=>by cases hr) (fun o ho=>⟨rfl,ho⟩) (fun b hb=>hb) rfl ((hv.2 j u x p q).le0 hm) (yaK hn j u p)⟩
 refine (hF H0 S.nx Gc vs (h.gok.mono (fun b hb=> .inl hb) fun b o _ e=>e) hM hvc).mono ?_
 rintro e w' ⟨v,av,H',n',G2,rfl,⟨rfl,rfl,rfl⟩,hM2,hw,hvr,hav⟩
 subst hw
 exact ⟨v,rfl,fun G'=>hvr.flat hfl,hM2.size,fun b hb=>hM2.same b hb (fun ⟨k,r,hr,_⟩=>by cases hr),hM2.os,hM2.tape,hM2.output⟩
end
abbrev K2:=Nat×Nat
def lkE {α β:Type} [DecidableEq α]:List (α×β)→α→Option β
 | [],_=>none
 |p::r,a=>if p.1=a then some p.2 else lkE r a
def lkZ {α β:Type} [DecidableEq β]:List (α×β)→β→Option α
 | [],_=>none
 |p::r,b=>if p.2=b then some p.1 else lkZ r b
theorem yiE {α β:Type} [DecidableEq α] {l:List (α×β)} {a:α} {b:β} (h:lkE l a=some b):(a,b)∈l:=by
 induction l with
 |nil=>cases h
 | cons p l ih=>
   simp only[lkE] at h
   split at h
   ·rename_i e;cases h;subst e;simp
   ·exact List.mem_cons_of_mem _ (ih h)
theorem ydB {α β:Type} [DecidableEq β] {l:List (α×β)} {a:α} {b:β} (h:lkZ l b=some a):(a,b)∈l:=by
 induction l with
 |nil=>cases h
 | cons p l ih=>
   simp only[lkZ] at h
   split at h
   ·rename_i e;cases h;subst e;simp
   ·exact List.mem_cons_of_mem _ (ih h)
theorem yew {α β:Type} [DecidableEq α] {l:List (α×β)} {a:α} {b:β} (hn:(l.map (·.1)).Nodup) (h:(a,b)∈l):lkE l a=some b:=by
 induction l with
 |nil=>cases h
 | cons p l ih=>
   simp only[List.map_cons,List.nodup_cons] at hn
   simp only[lkE]
   rcases List.mem_cons.1 h with rfl|h
   ·simp
   ·rw[if_neg (fun e=>hn.1 (List.mem_map.2 ⟨(a,b),h,e.symm⟩))];exact ih hn.2 h
theorem ygH {α β:Type} [DecidableEq β] {l:List (α×β)} {a:α} {b:β} (hn:(l.map (·.2)).Nodup) (h:(a,b)∈l):lkZ l b=some a:=by
 induction l with
 |nil=>cases h
 | cons p l ih=>
   simp only[List.map_cons,List.nodup_cons] at hn
   simp only[lkZ]
   rcases List.mem_cons.1 h with rfl|h
   ·simp
   ·rw[if_neg (fun e=>hn.1 (List.mem_map.2 ⟨(a,b),h,e.symm⟩))];exact ih hn.2 h
theorem ykb {α β:Type} [DecidableEq β] {l:List (α×β)} {b:β} (h:lkZ l b=none):∀a,(a,b)∉l:=by
 induction l with
 |nil=>intro a h;cases h
 | cons p l ih=>
   simp only[lkZ] at h
   split at h
   ·cases h
   ·rename_i e
    intro a hm
    rcases List.mem_cons.1 hm with rfl|hm
    ·exact e rfl
    ·exact ih h a hm
mutual
def reA (f:Nat→Nat→Option K2):AV→AV
 | .gs (.l d c) n=>match f d c with
   |some k=> .gs (.l k.1 k.2) n
   |none=> .un
 | .pt (.l d c) o=>match f d c with
   |some k=> .pt (.l k.1 k.2) o
   |none=> .un
 | .agg cs=> .agg (reAs f cs)
 | .tup cs=> .tup (reAs f cs)
 | .fn g a c=> .fn g (reAs f a) (reAs f c)
 |u=>u
def reAs (f:Nat→Nat→Option K2):List AV→List AV
 | []=> []
 |u::r=>reA f u::reAs f r
end
theorem yd4 (f:Nat→Nat→Option K2):∀l:List AV,reAs f l=l.map (reA f)
 | []=>rfl
 |u::r=>by rw[reAs,yd4 f r];rfl
theorem ycd (f:Nat->Nat->Option K2) (l:List AV):(reAs f l).length=l.length:=by rw[yd4,List.length_map]
theorem ydJ {f:Nat→Nat→Option K2} {l:List AV} {j:Nat} {u:AV} (h:(reAs f l)[j]? =some u):∃v,l[j]? =some v∧u=reA f v:=by
 rw[yd4,List.getElem?_map] at h
 obtain ⟨v,h1,h2⟩:=Option.map_eq_some_iff.1 h
 exact ⟨v,h1,h2.symm⟩
theorem VR.re {G G':Gh} {f:Nat→Nat→Option K2} (hκ:∀o r,G.κ (.h o)=some r→G'.κ (.h o)=some r) (hd:∀o,G.dead (.h o)→G'.dead (.h o)) (hI:∀b,G.I b→G'.I b) (hw:G'.w=G.w)
  (hf:∀d c k,f d c=some k->(∀r,G.κ (.l d c)=some r->G'.κ (.l k.1 k.2)=some r)/\¬G.dead (.l d c)):∀ {u:AV} {v:Value},VR G u v->VR G' (reA f u) v:=by
 intro u v h
 induction h with
 |bl b=>exact .bl b
 |it k n=>exact .it k n
 |st l s h=>exact .st l s h
 |agg cs vs hl h h1 ih=>exact .agg _ vs (by rw[ycd];exact hl) (fun j u x a b=>by obtain ⟨w,e1,rfl⟩:=ydJ a;exact ih j w x e1 b) h1
 |tup cs vs hl h ih=>exact .tup _ vs (by rw[ycd];exact hl) (fun j u x a b=>by obtain ⟨w,e1,rfl⟩:=ydJ a;exact ih j w x e1 b)
 |nsl z n xs hn hx=>exact .nsl z n xs hn hx
 |esl n xs hn hx a cap=>exact .esl n xs hn hx a cap
 |sl n xs b off cap g hIb hc h h1 hn hm hq ih=>exact .sl n xs b off cap g (hI b hIb) (fun j u a=>by rw[hw];exact hc j u a) (fun j u a=>VR.noL hκ hd hI hw (h j u a) (yaK hq j u a)) h1 hn hm hq
 | gs k n b cap hk=>cases k with
   | l d c=>
     simp only[reA]
     split
     ·rename_i k e;exact .gs _ n b cap ((hf d c k e).1 _ hk)
     ·exact .un _
   |h o=>exact .gs _ n b cap (hκ o _ hk)
 | gsd k n v hk h1=>cases k with
   | l d c=>
     simp only[reA]
     split
     ·rename_i k e;exact ((hf d c k e).2 hk).elim
     ·exact .un _
   |h o=>exact .gsd _ n v (hd o hk) h1
 |nptr=>exact .nptr
 | pt k off b cap hk=>cases k with
   | l d c=>
     simp only[reA]
     split
     ·rename_i k e;exact .pt _ off b cap ((hf d c k e).1 _ hk)
     ·exact .un _
   |h o=>exact .pt _ off b cap (hκ o _ hk)
 | ptd k off v hk h1=>cases k with
   | l d c=>
     simp only[reA]
     split
     ·rename_i k e;exact ((hf d c k e).2 hk).elim
     ·exact .un _
   |h o=>exact .ptd _ off v (hd o hk) h1
 |ep xs off b base g hIb hc h h1 hq ih=>exact .ep xs off b base g (hI b hIb) (fun j u a=>by rw[hw];exact hc j u a) (fun j u a=>VR.noL hκ hd hI hw (h j u a) (yaK hq j u a)) h1 hq
 |fn g a c va vc ha hc h h' ih ih'=>exact .fn g _ _ va vc (by rw[ycd];exact ha) (by rw[ycd];exact hc) (fun j u x p q=>by obtain ⟨w,e1,rfl⟩:=ydJ p;exact ih j w x e1 q) (fun j u x p q=>by obtain ⟨w,e1,rfl⟩:=ydJ p;exact ih' j w x e1 q)
 |nfn=>exact .nfn
 |yld o l cap hk=>exact .yld o l cap (hκ o _ hk)
 |yldd o v hk h1=>exact .yldd o v (hd o hk) h1
 |un v=>exact .un v
mutual
theorem yhg (f:Nat→Nat→Option K2):∀u:AV,u.noL=true→reA f u=u
 | .gs (.l d c) n,h=>by simp[AV.noL] at h
 | .pt (.l d c) o,h=>by simp[AV.noL] at h
 | .agg cs,h=>by simp only[AV.noL] at h;simp only[reA,ycy f cs h]
 | .tup cs,h=>by simp only[AV.noL] at h;simp only[reA,ycy f cs h]
 | .fn g a c,h=>by simp only[AV.noL,Bool.and_eq_true] at h;simp only[reA,ycy f a h.1,ycy f c h.2]
 | .gs (.h _) _,_=>rfl
 | .pt (.h _) _,_=>rfl
 | .un,_=>rfl
 | .bl _,_=>rfl
 | .it _ _,_=>rfl
 | .st _,_=>rfl
 | .sl _ _ _,_=>rfl
 | .ep _ _,_=>rfl
 | .nptr,_=>rfl
 | .nfn,_=>rfl
 | .yld _,_=>rfl
 | .rcd _ _ _ _ _,_=>rfl
theorem ycy (f:Nat→Nat→Option K2):∀l:List AV,noLs l=true→reAs f l=l
 | [],_=>rfl
 |u::r,h=>by simp only[noLs,Bool.and_eq_true] at h;simp only[reAs,yhg f u h.1,ycy f r h.2]
end
def Blk.re (f:Nat->Nat->Option K2) (b:Blk):Blk:=⟨b.e,b.sz,reAs f b.cells⟩
def lSt (mem:Nat->Option Blk) (H:Hp) (n:Nat):St:=⟨fun _=> .un,fun k=>match k with| .h o=>H o| .l d c=>if c=1 then mem d else none,fun _=>1,n⟩
def yap (P:Program) (f:FuncId) (args:List AV) (mem:Nat→Option Blk) (H:Hp) (n:Nat) (Post:AV→St→Prop):Prop:=
 ∀(G:Gh) (vs:Array Value),GOK P G.w G.I->MRel (yaD G n) (lSt mem H n) G->VRs G args vs.toList->XW P f vs G.w fun e w'=>∃v av S1 G1,e= .returned v/\Post av S1/\MRel (yaD G n) S1 G1/\G1.w=w'/\VR G1 av v
theorem yap.mono {P:Program} {f:FuncId} {args:List AV} {mem:Nat→Option Blk} {H:Hp} {n:Nat} {Post Post':AV→St→Prop} (h:yap P f args mem H n Post) (hp:∀av S1,Post av S1→Post' av S1):yap P f args mem H n Post':=
 fun G vs hg hM hV=>(h G vs hg hM hV).mono fun _ _ ⟨v,av,S1,G1,a1,a2,a3⟩=>⟨v,av,S1,G1,a1,hp _ _ a2,a3⟩
def finL (inn:List (Nat×K2)) (d c:Nat):Option K2:=(lkZ inn (d,c)).map fun x=>(x,1)
def memL (inn:List (Nat×K2)) (M:Key->Option Blk) (x:Nat):Option Blk:=(lkE inn x).bind fun k=>(M (.l k.1 k.2)).map (Blk.re (finL inn))
structure ygh (inn:List (Nat×K2)) (M:Key→Option Blk):Prop where
 n1:(inn.map (·.1)).Nodup
 n2:(inn.map (·.2)).Nodup
 ok:∀p∈inn,2000000<=p.1/\∃b,M (.l p.2.1 p.2.2)=some b/\b.ok
theorem yhx (f:Nat→Nat→Option K2) (b:Blk):isRc (b.re f).cells=isRc b.cells:=by
 show isRc (reAs f b.cells)=_
 rcases b.cells with _|⟨u,_|⟨v,r⟩⟩
 ·rfl
 ·cases u with
  |gs k n=>cases k<;>simp only[reAs,reA]<;>(try split)<;>rfl
  |pt k n=>cases k<;>simp only[reAs,reA]<;>(try split)<;>rfl
  |_=>rfl
 ·simp only[reAs]
  cases u with
  |gs k n=>cases k<;>simp only[reA]<;>(try split)<;>rfl
  |pt k n=>cases k<;>simp only[reA]<;>(try split)<;>rfl
  |_=>rfl
theorem FtOk.reb {B:Base} {M:Key→Option Blk} {G:Gh} (h:FtOk B M G) {k:Key} {b:Blk} {r:Nat×Nat} {f:Nat→Nat→Option K2} (hb:M k=some b) (hk:G.κ k=some r) (ho:opq b=true) (hc:isRc b.cells=false):b.re f=b:=by
 have:=(h.rep k b r hb hk ho hc).1
 obtain ⟨e,sz,cs⟩:=b
 show Blk.mk _ _ (reAs f cs)=_
 rw[ycy f cs this]
section
variable {P:Program} {B:Base} [GB P B] {N:Nat} {S:St} {a:Act} {G:Gh}
theorem ynZ (h:MRel B S G) {inn:List (Nat×K2)} (hin:ygh inn S.M):∃Gc,Gc.w=G.w∧Gc.I=G.I∧(∀o,Gc.κ (.h o)=G.κ (.h o))∧(∀x c r,Gc.κ (.l x c)=some r→c=1∧∃k,(x,k)∈inn∧G.κ (.l k.1 k.2)=some r)∧(∀x k,(x,k)∈inn→Gc.κ (.l x 1)=G.κ (.l k.1 k.2))∧(∀k x,Gc.fp k x→∃y q,k= .l y 1∧(y,q)∈inn∧G.fp (.l q.1 q.2) x)∧
  MRel (yaD Gc S.nx) (lSt (memL inn S.M) S.hp S.nx) Gc/\∀u v,VR G u v->VR Gc (reA (finL inn) u) v:=by
 let κ1:Key→Option (Nat×Nat):=fun k=>match k with
  | .h o=>G.κ (.h o)
  | .l x c=>if c=1 then (lkE inn x).bind fun k=>G.κ (.l k.1 k.2) else none
 let Gc:Gh:=⟨κ1,ybt (lSt (memL inn S.M) S.hp S.nx),G.I,G.w,fun k x=>match k with| .h _=>False| .l y _=>∃q,(y,q)∈inn/\G.ft (.l q.1 q.2) x⟩
 have hinv:∀x c r,κ1 (.l x c)=some r→c=1∧∃k,(x,k)∈inn∧G.κ (.l k.1 k.2)=some r:=by
  intro x c r hr
  have hr':(if c=1 then (lkE inn x).bind fun k=>G.κ (.l k.1 k.2) else none)=some r:=hr
  split at hr'
  ·rename_i hc
   obtain ⟨k,h1,h2⟩:=Option.bind_eq_some_iff.1 hr'
   exact ⟨hc,k,yiE h1,h2⟩
  ·cases hr'
 have hfp:∀k x,Gc.fp k x→∃y q,k= .l y 1∧(y,q)∈inn∧G.fp (.l q.1 q.2) x:=by
  rintro k x ⟨⟨r,hr⟩,hx⟩
  cases k with
  |h o=>exact hx.elim
  | l y c=>
    obtain ⟨rfl,q,h1,h2⟩:=hinv y c r hr
    obtain ⟨q',h3,h4⟩:=hx
    have:=(yew hin.n1 h1).symm.trans (yew hin.n1 h3)
    cases this
    exact ⟨y,q,rfl,h1,⟨r,h2⟩,h4⟩
 have hfw:∀x k,(x,k)∈inn→κ1 (.l x 1)=G.κ (.l k.1 k.2):=by
  intro x k hk
  show (if 1=1 then (lkE inn x).bind fun k=>G.κ (.l k.1 k.2) else none)=_
  rw[yew hin.n1 hk];simp
 have hd:∀o,G.dead (.h o)->Gc.dead (.h o):=fun o hq=>(h.dead (.h o)).1 hq
 have hf:∀d c k,finL inn d c=some k→(∀r,G.κ (.l d c)=some r→Gc.κ (.l k.1 k.2)=some r)∧¬G.dead (.l d c):=by
  intro d c k hk
  obtain ⟨x,h1,rfl⟩:=Option.map_eq_some_iff.1 hk
  have hm:=ydB h1
  refine ⟨fun r hr=>(hfw x _ hm).trans hr,fun hq=> ?_⟩
  obtain ⟨_,b,hb,_⟩:=hin.ok _ hm
  have:=((h.dead _).1 hq).1
  rw[show S.M (.l d c)=some b from hb] at this;cases this
 have go:∀u v,VR G u v->VR Gc (reA (finL inn) u) v:=fun u v hv=>VR.re (G:=G) (G':=Gc) (fun _ _ q=>q) hd (fun _ q=>q) rfl hf hv
 refine ⟨Gc,rfl,rfl,fun _=>rfl,hinv,hfw,hfp,⟨?_,?_,fun k=>Iff.rfl,?_,?_,h.lt,fun d c r hr=> .inr ⟨.l d c,r,hr,rfl⟩,fun k r hr=> .inl hr,fun o r hr=> .inr ⟨.h o,r,hr,rfl⟩,Nat.le_refl _,fun o _ hn=>hn,fun _ hb=>hb,fun b hb=> .inl hb,rfl,rfl,rfl,Nat.le_refl _,fun _ _ _=>rfl,?_,?_⟩,go⟩
 ·intro k
  cases k with
  | l x c=>
    show yac Gc (if c=1 then memL inn S.M x else none) (κ1 (.l x c))
    by_cases hc:c=1
    ·subst hc
     rw[if_pos rfl]
     cases hx:lkE inn x with
     | none=>
       have h1:memL inn S.M x=none:=by unfold memL;rw[hx];rfl
       have h2:κ1 (.l x 1)=none:=by show (if 1=1 then (lkE inn x).bind fun k=>G.κ (.l k.1 k.2) else none)=_;rw[hx];simp
       rw[h1,h2];trivial
     | some k=>
       have hm:=yiE hx
       obtain ⟨_,b,hb,hz⟩:=hin.ok _ hm
       have h1:memL inn S.M x=some (b.re (finL inn)):=by unfold memL;rw[hx];show (S.M (.l k.1 k.2)).map _=_;rw[hb];rfl
       rcases hz with hz|⟨ho,hcl⟩
       ·obtain ⟨r,hr,cur,c1,c2,c3,c4,c5,c6,c7⟩:=h.κcell hb hz
        rw[h1,hfw x k hm,hr]
        refine (yac.cell (show (b.re (finL inn)).sz≠0 from hz)).2 ⟨cur,c1,c2,c3,c4,by show (reAs _ _).length<=_;rw[ycd];exact c5,fun j u y p q=> ?_,fun j y p q=>c7 j y (by rw[<-ycd (finL inn)];exact p) q⟩
        obtain ⟨w,e1,rfl⟩:=ydJ p
        exact go _ _ (c6 j w y e1 q)
       ·obtain ⟨r,hr,hB⟩:=h.κsome hb
        rw[h1,hfw x k hm,hr,h.fo.reb hb hr ho hcl]
        have hz:=yef ho
        exact (yac.loop hz).2 (ycF.le0 (G:=G) (G':=Gc) rfl ((yac.loop (G:=G) hz).1 hB))
    ·rw[if_neg hc]
     have h2:κ1 (.l x c)=none:=by
      cases hk:κ1 (.l x c) with
      |none=>rfl
      |some r=>exact absurd (hinv x c r hk).1 hc
     rw[h2];trivial
  | h o =>
    have:=h.blk (.h o)
    have hn:=h.hno (.h o)
    show yac Gc (S.M (.h o)) (G.κ (.h o))
    revert this hn
    cases S.M (.h o) with
    |none=>cases G.κ (.h o)<;>exact fun x _=>x
    | some b=>cases G.κ (.h o) with
      |none=>exact fun x _=>x
      | some r=>
        intro this hn
        by_cases hz:b.sz=0
        ·exact (yac.loop hz).2 (ycF.le0 (G:=G) (G':=Gc) rfl ((yac.loop (G:=G) hz).1 this))
        obtain ⟨cur,c1,c2,c3,c4,c5,c6,c7⟩:=(yac.cell hz).1 this
        exact (yac.cell hz).2 ⟨cur,c1,c2,c3,c4,c5,fun j u x p q=>VR.noL (G:=G) (G':=Gc) (fun o r hr=>hr) hd (fun b hb=>hb) rfl (c6 j u x p q) (yaK (hn b rfl) j u p),c7⟩
 ·intro k k' r r' hr hr' e
  cases k with
  | h o=>cases k' with
    |h o'=>exact h.inj _ _ r r' hr hr' e
    |l x c=>obtain ⟨_,k,h1,h2⟩:=hinv x c r' hr';have:=h.inj _ _ r r' hr h2 e;cases this
  | l x c=>
    obtain ⟨rfl,k,h1,h2⟩:=hinv x c r hr
    cases k' with
    |h o'=>have:=h.inj _ _ r r' h2 hr' e;cases this
    | l x' c'=>
      obtain ⟨rfl,k',h3,h4⟩:=hinv x' c' r' hr'
      have:=h.inj _ _ r r' h2 h4 e
      simp only[Key.l.injEq] at this
      have e1:k=k':=Prod.ext this.1 this.2
      subst e1
      have:=(ygH hin.n2 h1).symm.trans (ygH hin.n2 h3)
      cases this;rfl
 ·intro k b hb
  cases k with
  | l x c=>
    have hb':(if c=1 then memL inn S.M x else none)=some b:=hb
    split at hb'
    ·rename_i hc;subst hc;exact ⟨Nat.le_refl 1,Nat.le_refl 1⟩
    ·cases hb'
  |h o=>exact h.live (.h o) b hb
 ·intro k r hr
  cases k with
  |h o=>exact h.apart (.h o) r hr
  |l x c=>obtain ⟨_,k,_,h2⟩:=hinv x c r hr;exact h.apart _ r h2
 ·intro k b hb
  cases k with
  |l d c=>rfl
  |h o=>exact h.hno (.h o) b hb
 ·have hkG:∀k r,κ1 k=some r→∃k',G.κ k'=some r:=by
   intro k r hr
   cases k with
   |h o=>exact ⟨_,hr⟩
   |l x c=>obtain ⟨_,q,_,h2⟩:=hinv x c r hr;exact ⟨_,h2⟩
  refine ⟨fun k x k' r hx hr e=> ?_,fun k k' x hx hx'=> ?_,fun k x hx=> ?_,fun k x hx ds=> ?_,fun k x hx=> ?_,fun k b r hb hk ho hc=> ?_,fun o r hk=>⟨fun _ q=>q,(h.fo.hh o r hk).2⟩⟩
  ·obtain ⟨y,q,rfl,h1,h2⟩:=hfp k x hx
   obtain ⟨k2,h3⟩:=hkG k' r hr
   exact h.fo.dj1 _ x k2 r h2 h3 e
  ·obtain ⟨y,q,rfl,h1,h2⟩:=hfp k x hx
   obtain ⟨y',q',rfl,h3,h4⟩:=hfp k' x hx'
   have:=h.fo.dj2 _ _ x h2 h4
   simp only[Key.l.injEq] at this
   have e1:q=q':=Prod.ext this.1 this.2
   subst e1
   have:=(ygH hin.n2 h1).symm.trans (ygH hin.n2 h3)
   cases this;rfl
  ·obtain ⟨y,q,rfl,h1,h2⟩:=hfp k x hx
   exact h.fo.ap _ x h2
  ·obtain ⟨y,q,rfl,h1,h2⟩:=hfp k x hx
   exact h.fo.nd _ x h2 ds
  ·obtain ⟨⟨r,hr⟩,hx⟩:=hx
   exact .inr ⟨k,r,hr, .inr hx⟩
  ·cases k with
   |h o=>exact absurd ⟨ho,hc⟩ ((h.fo.hh o r hk).2 b hb)
   | l x c=>
     obtain ⟨rfl,q,h1,h2⟩:=hinv x c r hk
     have hb':memL inn S.M x=some b:=hb
     have hm:memL inn S.M x=(S.M (.l q.1 q.2)).map (Blk.re (finL inn)):=by unfold memL;rw[yew hin.n1 h1];rfl
     rw[hm] at hb'
     obtain ⟨b0,h3,rfl⟩:=Option.map_eq_some_iff.1 hb'
     have hc0:isRc b0.cells=false:=by rw[yhx] at hc;exact hc
     have hre:=h.fo.reb (f:=finL inn) h3 h2 ho hc0
     have hrep:=h.fo.rep _ b0 r h3 h2 ho hc0
     rw[hre]
     have hF:Gc.ft (.l x 1)=G.ft (.l q.1 q.2):=by
      funext y
      refine propext ⟨fun ⟨q',a,b⟩=> ?_,fun a=>⟨q,h1,a⟩⟩
      have:=(yew hin.n1 h1).symm.trans (yew hin.n1 a)
      cases this;exact b
     rw[hF];exact hrep
structure yoE (inn:List (Nat×K2)) (out:List (K2×K2)) (bs:List Nat) (cnt:Nat→Nat) (S1:St):Prop where
 n1:(out.map (·.1)).Nodup
 n2:(out.map (·.2)).Nodup
 live:∀p∈out,∃b,S1.M (.l p.1.1 p.1.2)=some b/\b.ok
 goes:∀p∈out,(p.1.2=1/\(p.1.1,p.2)∈inn)∨(p.2.1∈bs/\p.2.2=cnt p.2.1+1)
def cntB (bs:List Nat) (cnt:Nat->Nat):Nat->Nat:=fun s=>if s∈bs then cnt s+1 else cnt s
def St.backL (S:St) (inn:List (Nat×K2)) (out:List (K2×K2)) (bs:List Nat) (S1:St):St:=
 ⟨S.fr,fun k=>match k with
   | .h o=>S1.M (.h o)
   | .l d c=>match lkZ out (d,c) with
     |some q=>(S1.M (.l q.1 q.2)).map (Blk.re fun d c=>lkE out (d,c))
     | none=>match lkZ inn (d,c) with
       |some _=>none
       |none=>S.M (.l d c),cntB bs S.cnt,S1.nx⟩
theorem ylk (h:MRel B S G) {inn:List (Nat×K2)} (hin:ygh inn S.M) {Gc G1:Gh} {S1:St} (hcw:Gc.w=G.w) (hcI:Gc.I=G.I) (hcκ:∀o,Gc.κ (.h o)=G.κ (.h o)) (hcl:∀x c r,Gc.κ (.l x c)=some r→c=1∧∃k,(x,k)∈inn∧G.κ (.l k.1 k.2)=some r) (hcf:∀x k,(x,k)∈inn→Gc.κ (.l x 1)=G.κ (.l k.1 k.2))
  (hcp:∀k x,Gc.fp k x->∃y q,k= .l y 1/\(y,q)∈inn/\G.fp (.l q.1 q.2) x) (h1:MRel (yaD Gc S.nx) S1 G1) {out:List (K2×K2)} {bs:List Nat} (ho:yoE inn out bs S.cnt S1):
  ∃G',G'.w=G1.w/\MRel B (S.backL inn out bs S1) G'/\LE G G'/\∀u v,VR G1 u v->VR G' (reA (fun d c=>lkE out (d,c)) u) v:=by
 let S':=S.backL inn out bs S1
 let κ':Key→Option (Nat×Nat):=fun k=>match k with
  | .h o=>G1.κ (.h o)
  | .l d c=>match lkZ out (d,c) with
    |some q=>G1.κ (.l q.1 q.2)
    | none=>match lkZ inn (d,c) with
      |some _=>none
      |none=>G.κ (.l d c)
 let F':Key→Nat→Prop:=fun k=>match k with
  | .h _=>fun _=>False
  | .l d c=>match lkZ out (d,c) with
    |some q=>G1.ft (.l q.1 q.2)
    | none=>match lkZ inn (d,c) with
      |some _=>fun _=>False
      |none=>G.ft (.l d c)
 let G':Gh:=⟨κ',ybt S',G1.I,G1.w,F'⟩
 have hBw:(yaD Gc S.nx).w=G.w:=hcw
 have hsz:G.w.heap.size<=G1.w.heap.size:=by rw[<-hBw];exact h1.size
 have hknew:∀k r,(yaD Gc S.nx).κ k=some r→(∃o,k= .h o∧G.κ (.h o)=some r)∨∃x q,k= .l x 1∧(x,q)∈inn∧G.κ (.l q.1 q.2)=some r:=by
  intro k r hk
  cases k with
  |h o=>rw[show (yaD Gc S.nx).κ (.h o)=Gc.κ (.h o) from rfl,hcκ] at hk;exact .inl ⟨o,rfl,hk⟩
  |l x c=>obtain ⟨rfl,q,h2,h3⟩:=hcl x c r hk;exact .inr ⟨x,q,rfl,h2,h3⟩
 have hknG:∀k r,(yaD Gc S.nx).κ k=some r→∃k',G.κ k'=some r∧((∃o,k'= .h o)∨∃x q,k'= .l q.1 q.2∧(x,q)∈inn):=by
  intro k r hk
  rcases hknew k r hk with ⟨o,_,h2⟩|⟨x,q,_,h2,h3⟩
  ·exact ⟨_,h2, .inl ⟨o,rfl⟩⟩
  ·exact ⟨_,h3, .inr ⟨x,q,rfl,h2⟩⟩
 have hinS:∀x q,(x,q)∈inn->lkZ inn q=some x:=fun x q hq=>ygH hin.n2 hq
 have hown:∀d c r,G.κ (.l d c)=some r→lkZ inn (d,c)=none→∀k r',(yaD Gc S.nx).κ k=some r'→r'.1≠r.1:=by
  intro d c r hr hn k r' hk e
  obtain ⟨k',h2,⟨o,rfl⟩|⟨x,q,rfl,h3⟩⟩:=hknG k r' hk
  ·have:=h.inj _ _ _ _ h2 hr e;cases this
  ·have:=h.inj _ _ _ _ h2 hr e
   simp only[Key.l.injEq] at this
   have e1:q=(d,c):=Prod.ext this.1 this.2
   subst e1
   rw[hinS x _ h3] at hn;cases hn
 have hasI:∀x,(yaD Gc S.nx).has x→(∃k r',(yaD Gc S.nx).κ k=some r'∧r'.1=x)∨∃y q,(y,q)∈inn∧G.fp (.l q.1 q.2) x:=by
  rintro x ⟨k,r',hk,e|e⟩
  ·exact .inl ⟨k,r',hk,e⟩
  ·obtain ⟨y,q,_,h2,h3⟩:=hcp k x ⟨⟨r',hk⟩,e⟩
   exact .inr ⟨y,q,h2,h3⟩
 have hownH:∀d c r,G.κ (.l d c)=some r→lkZ inn (d,c)=none→¬(yaD Gc S.nx).has r.1:=by
  intro d c r hr hn q
  rcases hasI _ q with ⟨k,r',hk,e⟩|⟨y,q,_,h3⟩
  ·exact hown d c r hr hn k r' hk e
  ·exact h.fo.dj1 _ _ _ r h3 hr rfl
 have hownF:∀d c x,G.fp (.l d c) x→lkZ inn (d,c)=none→¬(yaD Gc S.nx).has x:=by
  intro d c x hx hn q
  rcases hasI _ q with ⟨k,r',hk,e⟩|⟨y,q,h2,h3⟩
  ·obtain ⟨k',h2,_⟩:=hknG k r' hk
   exact h.fo.dj1 _ x _ _ hx h2 e
  ·have:=h.fo.dj2 _ _ x hx h3
   simp only[Key.l.injEq] at this
   have e1:q=(d,c):=Prod.ext this.1.symm this.2.symm
   subst e1
   rw[hinS y _ h2] at hn;cases hn
 have hsame:∀d c r,G.κ (.l d c)=some r→lkZ inn (d,c)=none→G1.w.heap[r.1]? =G.w.heap[r.1]? :=by
  intro d c r hr hn
  have:=h1.same r.1 (by rw[hBw];exact (h.apart _ r hr).2) (hownH d c r hr hn)
  rw[hBw] at this;exact this
 have hIne:∀b,G.I b→∀k r',(yaD Gc S.nx).κ k=some r'→r'.1≠b:=by
  intro b hb k r' hk e
  obtain ⟨k',h2,_⟩:=hknG k r' hk
  exact (h.apart _ _ h2).1 (e▸hb)
 have hIneH:∀b,G.I b→¬(yaD Gc S.nx).has b:=by
  intro b hb q
  rcases hasI _ q with ⟨k,r',hk,e⟩|⟨y,q,_,h3⟩
  ·exact hIne b hb k r' hk e
  ·exact (h.fo.ap _ b h3).1 hb
 have hsameF:∀d c x,G.fp (.l d c) x→lkZ inn (d,c)=none→G1.w.heap[x]? =G.w.heap[x]? :=by
  intro d c x hx hn
  have:=h1.same x (by rw[hBw];exact (h.fo.ap _ x hx).2) (hownF d c x hx hn)
  rw[hBw] at this;exact this
 have hIsame:∀b,G.I b→G1.w.heap[b]? =G.w.heap[b]? :=by
  intro b hb
  have:=h1.same b (by rw[hBw];exact h.lt b hb) (hIneH b hb)
  rw[hBw] at this;exact this
 have hII:∀b,G.I b->G1.I b:=fun b hb=>h1.I0 b (by show Gc.I b;rw[hcI];exact hb)
 have hdh:∀o,G1.dead (.h o)↔G'.dead (.h o):=fun o=>by rw[h1.dead];exact Iff.rfl
 have hκ3:∀d c r,κ' (.l d c)=some r→(∃q,(q,(d,c))∈out∧G1.κ (.l q.1 q.2)=some r)∨(lkZ out (d,c)=none∧lkZ inn (d,c)=none∧G.κ (.l d c)=some r):=by
  intro d c r hr
  have hr':(match lkZ out (d,c) with|some q=>G1.κ (.l q.1 q.2)|none=>match lkZ inn (d,c) with|some _=>none|none=>G.κ (.l d c))=some r:=hr
  split at hr'
  ·rename_i q hq;exact .inl ⟨q,ydB hq,hr'⟩
  ·rename_i hq
   split at hr'
   ·cases hr'
   ·rename_i hi;exact .inr ⟨hq,hi,hr'⟩
 have hold:∀k,yaT S k→yaT S' k:=by
  intro k hk
  cases k with
  |h o=>exact Nat.lt_of_lt_of_le hk h1.nx
  | l d c=>
    refine ⟨hk.1,Nat.le_trans hk.2 ?_⟩
    show S.cnt d<=cntB bs S.cnt d
    unfold cntB;split<;>omega
 have hto:∀q d c,(q,(d,c))∈out→(q.2=1∧(q.1,(d,c))∈inn∧∃b,S.M (.l d c)=some b)∨(d∈bs∧c=S.cnt d+1):=by
  intro q d c hq
  rcases ho.goes _ hq with ⟨e1,e2⟩|e
  ·obtain ⟨_,b,hb,_⟩:=hin.ok _ e2
   exact .inl ⟨e1,e2,b,hb⟩
  ·exact .inr e
 have hle:LE G G':=by
  refine ⟨?_,?_,hII,hIsame,fun b ds hb=>⟨?_,fun hI=> ?_⟩⟩
  rotate_left 2
  ·have:=h1.same b (by rw[hBw];exact (Array.getElem?_eq_some_iff.1 hb).1) (fun q=>by
    rcases hasI _ q with ⟨k,r,hk,e⟩|⟨y,q,_,h3⟩
    ·obtain ⟨k',h2,_⟩:=hknG k r hk;exact h.notDfr h2 ds (e▸hb)
    ·exact h.fo.nd _ b h3 ds hb)
   rw[hBw] at this;exact this
  ·rcases h1.I1 b hI with hq|hq|⟨k,r',e1,e2⟩
   ·have hq':Gc.I b:=hq
    rw[hcI] at hq';exact hq'
   ·rw[hBw] at hq;have:=(Array.getElem?_eq_some_iff.1 hb).1;omega
   ·obtain ⟨k',h2,_⟩:=hknG k r' e1;exact absurd (e2▸hb) (h.notDfr h2 ds)
  ·intro k r hr
   cases k with
   | l d c=>
     obtain ⟨b,hb,_⟩:=h.Msome hr
     cases hq:lkZ out (d,c) with
     | some q=>
       have hm:=ydB hq
       rcases hto q d c hm with ⟨e1,e2,_⟩|⟨e1,e2⟩
       ·obtain ⟨q1,q2⟩:=q
        simp only at e1 e2;subst e1
        rcases h1.keep (.l q1 1) r (by show Gc.κ (.l q1 1)=some r;rw[hcf _ _ e2];exact hr) with hk|hk
        ·left;show (match lkZ out (d,c) with|some q=>G1.κ (.l q.1 q.2)|none=>match lkZ inn (d,c) with|some _=>none|none=>G.κ (.l d c))=_;rw[hq];exact hk
        ·obtain ⟨b1,hb1,_⟩:=ho.live _ hm
         have:=((h1.dead _).1 hk).1
         rw[show S1.M (.l q1 1)=some b1 from hb1] at this;cases this
       ·have:=(h.live _ _ hb).2
        subst e2;omega
     | none=>
       cases hi:lkZ inn (d,c) with
       |none=>left;show (match lkZ out (d,c) with|some q=>G1.κ (.l q.1 q.2)|none=>match lkZ inn (d,c) with|some _=>none|none=>G.κ (.l d c))=_;rw[hq,hi];exact hr
       | some x=>
         right
         refine ⟨?_,hold _ (h.live _ _ hb)⟩
         show (match lkZ out (d,c) with|some q=>_|none=>match lkZ inn (d,c) with|some _=>none|none=>S.M (.l d c))=_
         rw[hq,hi]
   | h o=>
     rcases h1.keep (.h o) r (by show Gc.κ (.h o)=some r;rw[hcκ];exact hr) with hq|hq
     ·exact .inl hq
     ·exact .inr ((hdh o).1 hq)
  ·intro k hd
   obtain ⟨p,q⟩:=(h.dead _).1 hd
   refine ⟨?_,hold _ q⟩
   cases k with
   | l d c=>
     show (match lkZ out (d,c) with|some q=>_|none=>match lkZ inn (d,c) with|some _=>none|none=>S.M (.l d c))=_
     cases hq:lkZ out (d,c) with
     | some q'=>
       rcases hto q' d c (ydB hq) with ⟨_,_,b,hb⟩|⟨_,e2⟩
       ·rw[hb] at p;cases p
       ·have:c≤S.cnt d:=q.2
        omega
     | none=>
       cases hi:lkZ inn (d,c) with
       |none=>exact p
       |some x=>rfl
   | h o=>
     have hn:G1.κ (.h o)=none:=h1.gone o q (by show Gc.κ (.h o)=none;rw[hcκ];exact h.κnone p)
     show S1.M (.h o)=none
     cases hq:S1.M (.h o) with
     |none=>rfl
     |some b=>obtain ⟨r,hr,_⟩:=h1.κsome hq;rw[hn] at hr;cases hr
 have hgo:∀u v,VR G1 u v→VR G' (reA (fun d c=>lkE out (d,c)) u) v:=by
  intro u v hv
  refine VR.re (G:=G1) (G':=G') (fun _ _ q=>q) (fun o=>(hdh o).1) (fun _ q=>q) rfl (fun d c k hk=> ?_) hv
  have hm:=yiE hk
  refine ⟨fun r hr=> ?_,fun hq=> ?_⟩
  ·show (match lkZ out (k.1,k.2) with|some q=>G1.κ (.l q.1 q.2)|none=>_)=_
   rw[ygH ho.n2 hm];exact hr
  ·obtain ⟨b,hb,_⟩:=ho.live _ hm
   have:=((h1.dead _).1 hq).1
   rw[show S1.M (.l d c)=some b from hb] at this;cases this
 have hnoh:∀ {u:AV} {v:Value},VR G1 u v->u.noL=true->VR G' u v:=VR.noL (G:=G1) (G':=G') (fun _ _ q=>q) (fun o=>(hdh o).1) (fun _ q=>q) rfl
 have hnew:∀k r,G1.κ k=some r→∀d c r',G.κ (.l d c)=some r'→lkZ inn (d,c)=none→r'.1≠r.1:=by
  intro k r hr d c r' hr' hn e
  have:G.w.heap.size≤r.1∨∃k r',(yaD Gc S.nx).κ k=some r'∧r'.1=r.1:=by
   cases k with
   |h o=>rcases h1.heap o r hr with q|q;exact .inl (by rw[<-hBw];exact q);exact .inr q
   |l d c=>rcases h1.loc d c r hr with q|q;exact .inl (by rw[<-hBw];exact q);exact .inr q
  rcases this with q|⟨k0,r0,e1,e2⟩
  ·have:=(h.apart _ _ hr').2;omega
  ·exact hown d c r' hr' hn k0 r0 e1 (e2.trans e.symm)
 have horg:∀k r,G.κ k=some r→B.w.heap.size≤r.1∨∃k r',B.κ k=some r'∧r'.1=r.1:=by
  intro k r hr
  cases k with
  |h o=>exact h.heap o r hr
  |l d c=>exact h.loc d c r hr
 have horg1:∀k r,G1.κ k=some r→B.w.heap.size≤r.1∨∃k r',B.κ k=some r'∧r'.1=r.1:=by
  intro k r hr
  have:G.w.heap.size≤r.1∨∃k r',(yaD Gc S.nx).κ k=some r'∧r'.1=r.1:=by
   cases k with
   |h o=>rcases h1.heap o r hr with q|q;exact .inl (by rw[<-hBw];exact q);exact .inr q
   |l d c=>rcases h1.loc d c r hr with q|q;exact .inl (by rw[<-hBw];exact q);exact .inr q
  rcases this with q|⟨k0,r0,e1,e2⟩
  ·exact .inl (Nat.le_trans h.size q)
  ·obtain ⟨k',h2,_⟩:=hknG k0 r0 e1
   rw[<-e2];exact horg k' r0 h2
 refine ⟨G',rfl,⟨?_,?_,fun k=>Iff.rfl,?_,?_,h1.lt,?_,?_,?_,Nat.le_trans h.nx h1.nx,?_,fun b hb=>hII b (h.I0 b hb),?_,?_,?_,?_,Nat.le_trans h.size hsz,?_,?_,?_⟩,hle,hgo⟩
 ·intro k
  cases k with
  | l d c=>
    show yac G' (match lkZ out (d,c) with|some q=>(S1.M (.l q.1 q.2)).map (Blk.re fun d c=>lkE out (d,c))|none=>match lkZ inn (d,c) with|some _=>none|none=>S.M (.l d c)) (match lkZ out (d,c) with|some q=>G1.κ (.l q.1 q.2)|none=>match lkZ inn (d,c) with|some _=>none|none=>G.κ (.l d c))
    cases hq:lkZ out (d,c) with
    | some q=>
      obtain ⟨b,hb,hz⟩:=ho.live _ (ydB hq)
      have hb':S1.M (.l q.1 q.2)=some b:=hb
      simp only
      rcases hz with hz|⟨ho',hcl⟩
      ·obtain ⟨r,hr,cur,c1,c2,c3,c4,c5,c6,c7⟩:=h1.κcell hb' hz
       rw[hb',hr]
       refine (yac.cell (show (b.re fun d c=>lkE out (d,c)).sz≠0 from hz)).2 ⟨cur,c1,c2,c3,c4,by show (reAs _ _).length<=_;rw[ycd];exact c5,fun j u y p q=> ?_,fun j y p q=>c7 j y (by rw[<-ycd (fun d c=>lkE out (d,c))];exact p) q⟩
       obtain ⟨w,e1,rfl⟩:=ydJ p
       exact hgo _ _ (c6 j w y e1 q)
      ·obtain ⟨r,hr,hB⟩:=h1.κsome hb'
       rw[hb',hr]
       show yac G' (some (b.re _)) (some r)
       rw[h1.fo.reb hb' hr ho' hcl]
       have hz:=yef ho'
       exact (yac.loop hz).2 (ycF.le0 (G:=G1) (G':=G') rfl ((yac.loop (G:=G1) hz).1 hB))
    | none=>
      cases hi:lkZ inn (d,c) with
      |some x=>trivial
      |none=>exact (h.blk (.l d c)).le hle fun q hq=>hsame d c q hq hi
  | h o =>
    have:=h1.blk (.h o)
    have hn:=h1.hno (.h o)
    show yac G' (S1.M (.h o)) (G1.κ (.h o))
    revert this hn
    cases S1.M (.h o) with
    |none=>cases G1.κ (.h o)<;>exact fun x _=>x
    | some b=>cases G1.κ (.h o) with
      |none=>exact fun x _=>x
      | some r=>
        intro this hn
        by_cases hz:b.sz=0
        ·exact (yac.loop hz).2 (ycF.le0 (G:=G1) (G':=G') rfl ((yac.loop (G:=G1) hz).1 this))
        obtain ⟨cur,c1,c2,c3,c4,c5,c6,c7⟩:=(yac.cell hz).1 this
        exact (yac.cell hz).2 ⟨cur,c1,c2,c3,c4,c5,fun j u x p q=>hnoh (c6 j u x p q) (yaK (hn b rfl) j u p),c7⟩
 ·intro k k' r r' hr hr' e
  cases k with
  | h o=>cases k' with
    |h o'=>exact h1.inj _ _ r r' hr hr' e
    | l d c=>
      rcases hκ3 d c r' hr' with ⟨q,q1,q2⟩|⟨_,q1,q2⟩
      ·have:=h1.inj _ _ r r' hr q2 e;cases this
      ·exact absurd e.symm (hnew _ r hr d c r' q2 q1)
  | l d c=>
    rcases hκ3 d c r hr with ⟨q,q1,q2⟩|⟨_,q1,q2⟩
    ·cases k' with
     |h o'=>have:=h1.inj _ _ r r' q2 hr' e;cases this
     | l d' c'=>
       rcases hκ3 d' c' r' hr' with ⟨p,p1,p2⟩|⟨_,p1,p2⟩
       ·have:=h1.inj _ _ r r' q2 p2 e
        simp only[Key.l.injEq] at this
        have e1:q=p:=Prod.ext this.1 this.2
        subst e1
        have:=(yew ho.n1 q1).symm.trans (yew ho.n1 p1)
        cases this;rfl
       ·exact absurd e.symm (hnew _ r q2 d' c' r' p2 p1)
    ·cases k' with
     |h o'=>exact absurd e (hnew _ r' hr' d c r q2 q1)
     | l d' c'=>
       rcases hκ3 d' c' r' hr' with ⟨p,p1,p2⟩|⟨_,p1,p2⟩
       ·exact absurd e (hnew _ r' p2 d c r q2 q1)
       ·exact h.inj _ _ r r' q2 p2 e
 ·intro k b hb
  cases k with
  |h o=>exact h1.live (.h o) b hb
  | l d c=>
    have hb':(match lkZ out (d,c) with|some q=>(S1.M (.l q.1 q.2)).map (Blk.re fun d c=>lkE out (d,c))|none=>match lkZ inn (d,c) with|some _=>none|none=>S.M (.l d c))=some b:=hb
    split at hb'
    ·rename_i q hq
     rcases hto q d c (ydB hq) with ⟨_,_,b0,hb0⟩|⟨e1,e2⟩
     ·exact hold _ (h.live _ _ hb0)
     ·refine ⟨by omega,?_⟩
      show c<=cntB bs S.cnt d
      unfold cntB;rw[if_pos e1];omega
    ·split at hb'
     ·cases hb'
     ·exact hold _ (h.live _ _ hb')
 ·intro k r hr
  cases k with
  |h o=>exact h1.apart (.h o) r hr
  | l d c=>
    rcases hκ3 d c r hr with ⟨q,q1,q2⟩|⟨_,q1,q2⟩
    ·exact h1.apart _ r q2
    ·refine ⟨fun hI=> ?_,Nat.lt_of_lt_of_le (h.apart _ r q2).2 hsz⟩
     rcases h1.I1 r.1 hI with hq|hq|⟨k,r',e1,e2⟩
     ·have hq':Gc.I r.1:=hq
      rw[hcI] at hq';exact (h.apart _ r q2).1 hq'
     ·rw[hBw] at hq;have:=(h.apart _ r q2).2;omega
     ·exact hown d c r q2 q1 k r' e1 e2
 ·intro d c r hr
  rcases hκ3 d c r hr with ⟨q,q1,q2⟩|⟨_,q1,q2⟩
  ·exact horg1 _ r q2
  ·exact horg _ r q2
 ·intro k r hr
  rcases h.keep k r hr with hq|hq
  ·exact hle.κ k r hq
  ·exact .inr (hle.dead k hq)
 ·exact fun o r hr=>horg1 _ r hr
 ·intro o ho' hb
  have hn:=h.gone o ho' hb
  exact h1.gone o (Nat.lt_of_lt_of_le ho' h.nx) (by show Gc.κ (.h o)=none;rw[hcκ];exact hn)
 ·intro b hb
  rcases h1.I1 b hb with hq|hq|⟨k,r',e1,e2⟩
  ·have hq':Gc.I b:=hq
   rw[hcI] at hq';exact h.I1 b hq'
  ·rw[hBw] at hq;exact .inr (.inl (Nat.le_trans h.size hq))
  ·obtain ⟨k',h2,_⟩:=hknG k r' e1
   rw[<-e2]
   rcases horg k' r' h2 with hq|hq
   ·exact .inr (.inl hq)
   ·exact .inr (.inr hq)
 ·exact (h1.os.trans (by rw[hBw])).trans h.os
 ·exact (h1.tape.trans (by rw[hBw])).trans h.tape
 ·exact (h1.output.trans (by rw[hBw])).trans h.output
 ·intro b hb hq
  have:=h1.same b (by rw[hBw];exact Nat.lt_of_lt_of_le hb h.size) (fun q=>by
   rcases hasI _ q with ⟨k,r',hk,e⟩|⟨y,q,_,h3⟩
   ·obtain ⟨k',h2,_⟩:=hknG k r' hk
    rcases horg k' r' h2 with hh|⟨k2,r2,p1,p2⟩
    ·omega
    ·exact hq ⟨k2,r2,p1, .inl (p2.trans e)⟩
   ·rcases h.fo.lo _ b h3 with hh|hh
    ·omega
    ·exact hq hh)
  rw[hBw] at this;exact this.trans (h.same b hb hq)
 ·intro k b hb
  cases k with
  |l d c=>rfl
  |h o=>exact h1.hno (.h o) b hb
 ·have hfo:∀k x,G'.fp k x→∃d c,k= .l d c∧((∃q,(q,(d,c))∈out∧G1.fp (.l q.1 q.2) x)∨(lkZ out (d,c)=none∧lkZ inn (d,c)=none∧G.fp (.l d c) x)):=by
   rintro k x ⟨⟨r,hr⟩,hx⟩
   cases k with
   |h o=>exact hx.elim
   | l d c=>
     refine ⟨d,c,rfl,?_⟩
     have hr':(match lkZ out (d,c) with|some q=>G1.κ (.l q.1 q.2)|none=>match lkZ inn (d,c) with|some _=>none|none=>G.κ (.l d c))=some r:=hr
     have hx':(match lkZ out (d,c) with|some q=>G1.ft (.l q.1 q.2)|none=>match lkZ inn (d,c) with|some _=>fun _=>False|none=>G.ft (.l d c)) x:=hx
     cases hq:lkZ out (d,c) with
     |some q=>rw[hq] at hr' hx';exact .inl ⟨q,ydB hq,⟨r,hr'⟩,hx'⟩
     | none=>
       rw[hq] at hr' hx'
       cases hi:lkZ inn (d,c) with
       |some y=>rw[hi] at hr';cases hr'
       |none=>rw[hi] at hr' hx';exact .inr ⟨rfl,rfl,⟨r,hr'⟩,hx'⟩
  have hsz1:∀x,G.w.heap.size≤x∨(yaD Gc S.nx).has x→∀d c,G.fp (.l d c) x→lkZ inn (d,c)=none→False:=by
   rintro x (q|q) d c hx hn
   ·have:=(h.fo.ap _ x hx).2;omega
   ·exact hownF d c x hx hn q
  have hblk1:∀k r,G1.κ k=some r→G.w.heap.size≤r.1∨(yaD Gc S.nx).has r.1:=by
   intro k r hr
   cases k with
   |h o=>rcases h1.heap o r hr with q|⟨k,r',e1,e2⟩;exact .inl (by rw[<-hBw];exact q);exact .inr ⟨k,r',e1, .inl e2⟩
   |l d c=>rcases h1.loc d c r hr with q|⟨k,r',e1,e2⟩;exact .inl (by rw[<-hBw];exact q);exact .inr ⟨k,r',e1, .inl e2⟩
  have hft1:∀k x,G1.fp k x→G.w.heap.size≤x∨(yaD Gc S.nx).has x:=by
   intro k x hx
   rcases h1.fo.lo k x hx with q|q
   ·exact .inl (by rw[<-hBw];exact q)
   ·exact .inr q
  have hwho:∀k r,G'.κ k=some r→(∃k1,G1.κ k1=some r)∨∃d c,k= .l d c∧lkZ inn (d,c)=none∧G.κ (.l d c)=some r:=by
   intro k r hr
   cases k with
   |h o=>exact .inl ⟨_,hr⟩
   | l d c=>
     rcases hκ3 d c r hr with ⟨q,q1,q2⟩|⟨_,q1,q2⟩
     ·exact .inl ⟨_,q2⟩
     ·exact .inr ⟨d,c,rfl,q1,q2⟩
  refine ⟨fun k x k' r hx hr e=> ?_,fun k k' x hx hx'=> ?_,fun k x hx=> ?_,fun k x hx ds=> ?_,fun k x hx=> ?_,fun k b r hb hk hop hc=> ?_,fun o r hk=>⟨fun _ q=>q,(h1.fo.hh o r hk).2⟩⟩
  ·obtain ⟨d,c,rfl,⟨q,q1,q2⟩|⟨_,q1,q2⟩⟩:=hfo k x hx
   ·rcases hwho k' r hr with ⟨k1,p1⟩|⟨d',c',rfl,p1,p2⟩
    ·exact h1.fo.dj1 _ x k1 r q2 p1 e
    ·rcases hft1 _ x q2 with z|z
     ·have:=(h.apart _ r p2).2;omega
     ·exact hownH d' c' r p2 p1 (e▸z)
   ·rcases hwho k' r hr with ⟨k1,p1⟩|⟨d',c',rfl,p1,p2⟩
    ·exact hsz1 x (e▸hblk1 k1 r p1) d c q2 q1
    ·exact h.fo.dj1 _ x _ r q2 p2 e
  ·obtain ⟨d,c,rfl,⟨q,q1,q2⟩|⟨_,q1,q2⟩⟩:=hfo k x hx
   ·obtain ⟨d',c',rfl,⟨p,p1,p2⟩|⟨_,p1,p2⟩⟩:=hfo k' x hx'
    ·have:=h1.fo.dj2 _ _ x q2 p2
     simp only[Key.l.injEq] at this
     have e1:q=p:=Prod.ext this.1 this.2
     subst e1
     have:=(yew ho.n1 q1).symm.trans (yew ho.n1 p1)
     cases this;rfl
    ·exact (hsz1 x (hft1 _ x q2) d' c' p2 p1).elim
   ·obtain ⟨d',c',rfl,⟨p,p1,p2⟩|⟨_,p1,p2⟩⟩:=hfo k' x hx'
    ·exact (hsz1 x (hft1 _ x p2) d c q2 q1).elim
    ·exact h.fo.dj2 _ _ x q2 p2
  ·obtain ⟨d,c,rfl,⟨q,q1,q2⟩|⟨_,q1,q2⟩⟩:=hfo k x hx
   ·exact h1.fo.ap _ x q2
   ·refine ⟨fun hI=> ?_,Nat.lt_of_lt_of_le (h.fo.ap _ x q2).2 hsz⟩
    rcases h1.I1 x hI with hq|hq|⟨k,r',e1,e2⟩
    ·have hq':Gc.I x:=hq
     rw[hcI] at hq';exact (h.fo.ap _ x q2).1 hq'
    ·rw[hBw] at hq;have:=(h.fo.ap _ x q2).2;omega
    ·exact hownF d c x q2 q1 ⟨k,r',e1, .inl e2⟩
  ·obtain ⟨d,c,rfl,⟨q,q1,q2⟩|⟨_,q1,q2⟩⟩:=hfo k x hx
   ·exact h1.fo.nd _ x q2 ds
   ·show G1.w.heap[x]?≠_
    rw[hsameF d c x q2 q1];exact h.fo.nd _ x q2 ds
  ·obtain ⟨d,c,rfl,⟨q,q1,q2⟩|⟨_,q1,q2⟩⟩:=hfo k x hx
   ·rcases hft1 _ x q2 with z|z
    ·exact .inl (Nat.le_trans h.size z)
    ·rcases hasI x z with ⟨k,r,hk,e⟩|⟨y,q,_,h3⟩
     ·obtain ⟨k',h2,_⟩:=hknG k r hk
      rcases horg k' r h2 with hh|⟨k2,r2,p1,p2⟩
      ·exact .inl (e▸hh)
      ·exact .inr ⟨k2,r2,p1, .inl (p2.trans e)⟩
     ·exact h.fo.lo _ x h3
   ·exact h.fo.lo _ x q2
  ·cases k with
   |h o=>exact absurd ⟨hop,hc⟩ ((h1.fo.hh o r hk).2 b hb)
   | l d c=>
     have hb':(match lkZ out (d,c) with|some q=>(S1.M (.l q.1 q.2)).map (Blk.re fun d c=>lkE out (d,c))|none=>match lkZ inn (d,c) with|some _=>none|none=>S.M (.l d c))=some b:=hb
     have hk':(match lkZ out (d,c) with|some q=>G1.κ (.l q.1 q.2)|none=>match lkZ inn (d,c) with|some _=>none|none=>G.κ (.l d c))=some r:=hk
     show noLs b.cells=true/\opqR b.e (dwks b.cells) G1.w r.1 (match lkZ out (d,c) with|some q=>G1.ft (.l q.1 q.2)|none=>match lkZ inn (d,c) with|some _=>fun _=>False|none=>G.ft (.l d c))
     cases hq:lkZ out (d,c) with
     | some q=>
       rw[hq] at hb' hk'
       obtain ⟨b0,h3,rfl⟩:=Option.map_eq_some_iff.1 hb'
       have hc0:isRc b0.cells=false:=by rw[yhx] at hc;exact hc
       have hre:=h1.fo.reb (f:=fun d c=>lkE out (d,c)) h3 hk' hop hc0
       rw[hre]
       exact h1.fo.rep _ b0 r h3 hk' hop hc0
     | none=>
       rw[hq] at hb' hk'
       cases hi:lkZ inn (d,c) with
       |some y=>rw[hi] at hb';cases hb'
       | none=>
         rw[hi] at hb' hk'
         obtain ⟨n1,n2⟩:=h.fo.rep _ b r hb' hk' hop hc
         refine ⟨n1,yeY n2 fun x hx=> ?_⟩
         rcases hx with rfl|hx
         ·exact hsame d c r hk' hi
         ·exact hsameF d c x ⟨⟨r,hk'⟩,hx⟩ hi
end
section
variable {P:Program} {B:Base} [GB P B] {N:Nat} {S:St} {a:Act} {G:Gh}
inductive Cal where
 |f (f:FuncId)
 |e (f:FuncId)
 |y (o:Nat)
def yiN (P:Program) (l:Nat) (vs:Array Value) (w:World) (R:Ending→World→Prop):Prop:=
 ∃fn tmps asg body,(Instr.yield l vs).run P w= .ok (.round l fn tmps asg body) w/\RoundIn Fence.wide 0 P l fn tmps asg body w R
theorem yiN.mono {l:Nat} {vs:Array Value} {w:World} {R R':Ending→World→Prop} (h:yiN P l vs w R) (hr:∀e w',R e w'→R' e w'):yiN P l vs w R':=by
 obtain ⟨fn,tmps,asg,body,h1,h2⟩:=h
 exact ⟨fn,tmps,asg,body,h1,h2.mono hr⟩
def ydD (P:Program) (o:Nat) (args:List AV) (H:Hp) (n:Nat) (Post:AV→Hp→Nat→Prop):Prop:=
 (H o).isSome=true∧∀(G:Gh) (vs:Array Value) (l cap:Nat),GOK P G.w G.I→MRel (yaD G n) (hSt H n) G→VRs G args vs.toList→G.κ (.h o)=some (l,cap)→
   yiN P l vs G.w fun e w'=>∃v av H' n' G',e= .returned v/\Post av H' n'/\MRel (yaD G n) (hSt H' n') G'/\G'.w=w'/\VR G' av v/\av.noL=true
theorem ydD.mono {o:Nat} {args:List AV} {H:Hp} {n:Nat} {Post Post':AV→Hp→Nat→Prop} (h:ydD P o args H n Post) (hp:∀av H' n',Post av H' n'→Post' av H' n'):ydD P o args H n Post':=
 ⟨h.1,fun G vs l cap hg hM hV hk=>(h.2 G vs l cap hg hM hV hk).mono fun _ _ ⟨v,av,H',n',G',a1,a2,a3⟩=>⟨v,av,H',n',G',a1,hp _ _ _ a2,a3⟩⟩
def yeW (P:Program) (c:Cal) (args:List AV) (H:Hp) (n:Nat) (Post:AV→Hp→Nat→Prop):Prop:=match c with
 | .f f=>yay P f args H n Post
 | .e f=>(∀vs w,(callFunc f vs).run P w= .ok (.enter f vs) w)/\yay P f args H n Post
 | .y o=>ydD P o args H n Post
theorem yeW.mono {c:Cal} {args:List AV} {H:Hp} {n:Nat} {Post Post':AV→Hp→Nat→Prop} (h:yeW P c args H n Post) (hp:∀av H' n',Post av H' n'→Post' av H' n'):yeW P c args H n Post':=by
 cases c with
 |f f=>exact yay.mono h hp
 |e f=>exact ⟨h.1,yay.mono h.2 hp⟩
 |y o=>exact ydD.mono h hp
def yj6 (P:Program) (c:Cal) (args:List AV) (S:St) (K:AV→St→Prop):Prop:=
 let p:=pubL args S
 noLs p.1=true/\yeW P c p.1 p.2.hp p.2.nx fun av H' n'=>K av (p.2.withH H' n')
def ypl (P:Program) (c:Cal) (args:List AV) (S:St) (K:AV→St→Prop):Prop:=
 ∃f v,c= .f f/\noLs (args.map (vwV S.M))=true/\Pure P f (args.map (vwV S.M)) v/\v.flat=true/\K v S
def yf7 (P:Program) (c:Cal) (args:List AV) (S:St) (K:AV→St→Prop):Prop:=
 ∃f inn,c= .f f/\ygh inn S.M/\yap P f (args.map (reA (finL inn))) (memL inn S.M) S.hp S.nx fun av S1=>∃out bs,yoE inn out bs S.cnt S1/\K (reA (fun d c=>lkE out (d,c)) av) (S.backL inn out bs S1)
def Cal.small:Cal→Bool
 | .f g=>Nat.ble g 999999
 |_=>true
def ycO (P:Program) (c:Cal) (args:List AV) (S:St) (K:AV->St->Prop):Prop:=yj6 P c args S K∨ypl P c args S K∨(c.small=true/\yf7 P c args S K)
theorem yiX (h:Rel B N S a G) {f:FuncId} {args:List AV} {vs:Array Value} {K:AV→St→Prop} (hv:VRs G args vs.toList) (hc:yf7 P (.f f) args S K):
  XW P f vs G.w fun e w'=>∃v av S' G',e= .returned v/\K av S'/\Rel B N S' a G'/\G'.w=w'/\VR G' av v/\LE G G':=by
 obtain ⟨f',inn,hf',hin,hc⟩:=hc
 cases hf'
 obtain ⟨Gc,b1,b2,b3,b4,b5,b5',b6,b7⟩:=ynZ h.toMRel hin
 have:=hc Gc vs (h.toMRel.gok.mono (fun b hb=>by rw[b2];exact hb) fun b o _ e=>by rw[b1];exact e) b6 ⟨by rw[List.length_map];exact hv.1,fun j u x p q=>by
  rw[List.getElem?_map] at p
  obtain ⟨w,h2,rfl⟩:=Option.map_eq_some_iff.1 p
  exact b7 _ _ (hv.2 j w x h2 q)⟩
 rw[b1] at this
 refine this.mono ?_
 rintro e w' ⟨v,av,S1,G1,rfl,⟨out,bs,ho,hK⟩,hM,hw,hvr⟩
 obtain ⟨G',c1,c2,c3,c4⟩:=ylk h.toMRel hin b1 b2 b3 b4 b5 b5' hM ho
 exact ⟨v,_,_,G',rfl,hK,h.lift c2 c3 rfl,c1.trans hw,c4 _ _ hvr,c3⟩
theorem yof (h:Rel B N S a G) {f:FuncId} {args:List AV} {vs:Array Value} {K:AV→St→Prop} (hv:VRs G args vs.toList) (hc:ycO P (.f f) args S K):
  yeh P f vs G.w fun e w'=>∃v av S' G',e= .returned v/\K av S'/\Rel B N S' a G'/\G'.w=w'/\VR G' av v/\LE G G':=by
 rcases hc with hc|⟨f',v,hf',hn,hF,hfl,hK⟩|⟨hsm,hc⟩
 case inr.inr=>
  have:=yiX h hv hc
  rwa[XW_f (Nat.lt_succ_of_le (Nat.le_of_ble_eq_true hsm))] at this
 case inr.inl=>
  cases hf'
  have hvl:VRs G.lend (args.map (vwV S.M)) vs.toList:=⟨by rw[List.length_map];exact hv.1,fun j u x p q=>by
   rw[List.getElem?_map] at p
   obtain ⟨w,h2,rfl⟩:=Option.map_eq_some_iff.1 p
   exact yrP h.toMRel (hv.2 j w x h2 q)⟩
  refine (ymx h.toMRel hvl hn hF hfl).mono ?_
  rintro e w' ⟨x,rfl,hx,k1,k2,k3,k4,k5⟩
  obtain ⟨G',g1,g2,g3⟩:=h.toMRel.grow k1 k2 k3 k4 k5
  exact ⟨x,v,S,G',rfl,hK,h.lift g1 g2 rfl,g3,hx G',g2⟩
 obtain ⟨hn,hc⟩:=hc
 obtain ⟨G1,a1,a2,a3,a4,a5⟩:=ymU args vs.toList S G h.toMRel hv
 obtain ⟨Gc,b1,b2,b3,b4,b4',b5,b6⟩:=yjJ a1
 have hvc:VRs Gc (pubL args S).1 vs.toList:=⟨a4.1,fun j u x p q=>VR.noL (G:=G1) (G':=Gc) (fun o r hr=>by rw[b3];exact hr) b5 (fun b hb=>by rw[b2];exact hb) b1 (a4.2 j u x p q) (yaK hn j u p)⟩
 have:=hc Gc vs (a1.gok.mono (fun b hb=>by rw[b2];exact hb) fun b o _ e=>by rw[b1];exact e) b6 hvc
 rw[b1,a3] at this
 refine this.mono ?_
 rintro e w' ⟨v,av,H',n',G2,rfl,hp,hM,hw,hvr,hav⟩
 obtain ⟨G',c1,c2,c3,c4,c5,c6⟩:=yhZ a1 b1 b2 b3 b4 b4' hM
 refine ⟨v,av,_,G',rfl,hp,?_,c1.trans hw,VR.noL (G:=G2) (G':=G') c4 c5 c6 c1 hvr hav,a2.trans c3⟩
 exact h.lift c2 (a2.trans c3) (by show (pubL args S).2.fr=S.fr;exact a5)
theorem ylI (h:Rel B N S a G) {o l cap:Nat} {args:List AV} {vs:Array Value} {K:AV→St→Prop} (hv:VRs G args vs.toList) (hc:ycO P (.y o) args S K) (hk:G.κ (.h o)=some (l,cap)):
  yiN P l vs G.w fun e w'=>∃v av S' G',e= .returned v/\K av S'/\Rel B N S' a G'/\G'.w=w'/\VR G' av v:=by
 rcases hc with hc|⟨f',v,hf',hn,hF,hfl,hK⟩|⟨_,f',inn,hf',hin,hc⟩
 case inr.inl=>cases hf'
 case inr.inr=>cases hf'
 obtain ⟨hn,hs,hc⟩:=hc
 obtain ⟨G1,a1,a2,a3,a4,a5⟩:=ymU args vs.toList S G h.toMRel hv
 obtain ⟨Gc,b1,b2,b3,b4,b4',b5,b6⟩:=yjJ a1
 have hk1:G1.κ (.h o)=some (l,cap):=by
  rcases a2.κ (.h o) _ hk with hq|hq
  ·exact hq
  ·have:=(a1.dead _).1 hq
   have hs':((pubL args S).2.M (.h o)).isSome=true:=hs
   rw[this.1] at hs';cases hs'
 have hvc:VRs Gc (pubL args S).1 vs.toList:=⟨a4.1,fun j u x p q=>VR.noL (G:=G1) (G':=Gc) (fun o r hr=>by rw[b3];exact hr) b5 (fun b hb=>by rw[b2];exact hb) b1 (a4.2 j u x p q) (yaK hn j u p)⟩
 have:=hc Gc vs l cap (a1.gok.mono (fun b hb=>by rw[b2];exact hb) fun b o _ e=>by rw[b1];exact e) b6 hvc (by rw[b3];exact hk1)
 rw[b1,a3] at this
 refine this.mono ?_
 rintro e w' ⟨v,av,H',n',G2,rfl,hp,hM,hw,hvr,hav⟩
 obtain ⟨G',c1,c2,c3,c4,c5,c6⟩:=yhZ a1 b1 b2 b3 b4 b4' hM
 refine ⟨v,av,_,G',rfl,hp,?_,c1.trans hw,VR.noL (G:=G2) (G':=G') c4 c5 c6 c1 hvr hav⟩
 exact h.lift c2 (a2.trans c3) (by show (pubL args S).2.fr=S.fr;exact a5)
end
end Go.AV
end
noncomputable section
namespace Go.AV
open Go.RowKit Go.RG Go.Lib
def ypO:AV→Option UInt8
 | .it .u8 n=>some (UInt8.ofNat n.toNat)
 |_=>none
def yc1:List AV→Option (List UInt8)
 | []=>some []
 | u::r=>match ypO u,yc1 r with
   |some b,some bs=>some (b::bs)
   |_,_=>none
def encB (l:List UInt8):List AV:=l.map fun b=> .it .u8 b.toNat
def wpv {α:Type} (o:Option α) (K:α→Prop):Prop:=match o with
 |some u=>K u
 |none=>False
theorem ydf {α:Type} (u:α) (K:α->Prop):wpv (some u) K=K u:=rfl
theorem yb7 {α:Type} {o:Option α} {K:α→Prop} (h:wpv o K):∃u,o=some u∧K u:=by
 cases o with
 |none=>exact h.elim
 |some u=>exact ⟨u,rfl,h⟩
def site (d:Option Nat):Nat:=d.getD 0
def isH:Key→Bool
 | .h _=>true
 | .l _ _=>false
def aapp (hs:Nat→Bool) (d e sz m:Nat) (ys:List AV) (S:St) (K:AV→St→Prop):AV→Prop
 | .sl true _ _=>if m=0 then K (.sl true 0 []) S else hOk (yaR hs S d) ys=true/\K (.gs (yaR hs S d) m) (S.new hs d ⟨e,sz,ys⟩)
 | .gs k n=>wpv (S.M k) fun b=>b.e=e/\b.sz=sz/\b.cells.length=n*sz/\n<=1000000000/\(isH k=true->hs d=true)/\hOk (yaR hs (S.kill k) d) (b.cells++ys)=true/\K (.gs (yaR hs (S.kill k) d) (n+m)) ((S.kill k).new hs d ⟨e,sz,b.cells++ys⟩)
 |_=>False
def cutR (sz:Nat) (S:St) (k:Key) (n:Nat) (lo hi:Option Int) (K:AV→St→Prop):Prop:=match lo,hi with
 |some 0,some q=>wpv (S.M k) fun b=>b.sz=sz/\0<sz/\0<=q/\q<=n/\n*sz<=b.cells.length/\hOk k (b.cells.take (q.toNat*sz))=true/\K (.gs k q.toNat) (S.setM k {b with cells:=b.cells.take (q.toNat*sz)})
 |_,_=>False
def pubK (K:AV->St->Prop) (v:AV) (S:St):Prop:=K (pub1 v S).1 (pub1 v S).2
def aop (hs:Nat→Bool) (CA:Cal→List AV→St→(AV→St→Prop)→Prop) (u:AOp) (d:Option Nat) (S:St) (K:AV→St→Prop):Prop:=
 match u with
 | .box e sz x=>(ev S.fr x).cells.length=sz/\(ev S.fr x).cells.all AV.one=true/\0<sz/\hOk (yaR hs S (site d)) (ev S.fr x).cells=true/\K (.pt (yaR hs S (site d)) 0) (S.new hs (site d) ⟨e,sz,(ev S.fr x).cells⟩)
 | .bsl e sz len z parts=>z.length=sz/\0<sz/\len*sz<=16777216/\wpv (ydu (yaG z len) (parts.map fun p=>(p.1,p.2.1,ev S.fr p.2.2))) fun cs=>hOk (yaR hs S (site d)) (cs.map weak)=true/\K (.gs (yaR hs S (site d)) len) (S.new hs (site d) ⟨e,sz,cs.map weak⟩)
 | .mks e sz bytes z l c=>match ev S.fr l,ev S.fr c with
   | .it _ n, .it _ m=>n=m/\0<=n/\z.length=sz/\0<sz/\bytes*n.toNat<=281474976710656/\n<=1000000000/\hOk (yaR hs S (site d)) (yaG z n.toNat)=true/\K (.gs (yaR hs S (site d)) n.toNat) (S.new hs (site d) ⟨e,sz,yaG z n.toNat⟩)
   |_,_=>False
 | .bsf e sz len z parts=>z.length=sz/\0<sz/\len*sz<=16777216/\wpv (ydu (yaG z len) (parts.map fun p=>(p.1,p.2.1,ev S.fr p.2.2))) fun cs=>hOk (yaR hs S (site d)) (cs.map weak)=true/\pubK K (.gs (yaR hs S (site d)) len) (S.new hs (site d) ⟨e,sz,cs.map weak⟩)
 | .apf e sz bytes x y=>0<sz/\bytes<=100000/\wpv (srcA S (ev S.fr y)) fun p=>p.2.length=p.1*sz/\p.1<=400000000/\aapp hs (site d) e sz p.1 p.2 S (pubK K) (ev S.fr x)
 | .apz e sz bytes z s l=>match ev S.fr s,ev S.fr l with
   | .sl true _ _, .it .i64 n=>0<n/\z.length=sz/\0<sz/\bytes*n.toNat<=140737488355328/\n<=1000000000/\hOk (yaR hs S (site d)) (yaG z n.toNat)=true/\K (.gs (yaR hs S (site d)) n.toNat) (S.new hs (site d) ⟨e,sz,yaG z n.toNat⟩)
   |_,_=>False
 | .ld g sz x=>wpv (tgt S (ev S.fr x)) fun p=>wpv (if g then (if p.2+sz<=p.1.length then some (.agg ((p.1.drop p.2).take sz)) else none) else p.1[p.2]?) fun u=>K u S
 | .sto sz x y=>match ev S.fr x with
   | .pt k off=>wpv (S.M k) fun b=>b.sz≠0∧(ev S.fr y).cells.length=sz∧(ev S.fr y).cells.all AV.one=true∧off+sz≤b.cells.length∧hOk k (b.cells.take off++(ev S.fr y).cells++b.cells.drop (off+sz))=true∧
      K .un (S.setM k {b with cells:=b.cells.take off++(ev S.fr y).cells++b.cells.drop (off+sz)})
   |_=>False
 | .app e sz bytes x y=>0<sz/\bytes<=100000/\wpv (srcA S (ev S.fr y)) fun p=>p.2.length=p.1*sz/\p.1<=400000000/\aapp hs (site d) e sz p.1 p.2 S K (ev S.fr x)
 | .apps e x y=>match ev S.fr y with
   | .st l=>l.length<=400000000/\aapp hs (site d) e 1 l.length (encB l) S K (ev S.fr x)
   |_=>False
 | .b2s x=>match ev S.fr x with
   | .sl _ n xs=>xs.length=n/\wpv (yc1 xs) fun l=>K (.st l) S
   | .gs k n=>wpv (S.M k) fun b=>b.sz≠0/\b.cells.length=n/\wpv (yc1 b.cells) fun l=>K (.st l) S
   |_=>False
 | .call f args=>CA (.f f) (args.map (ev S.fr)) S K
 | .calv x args=>match ev S.fr x with
   | .fn (.func f) first cap=>CA (.f f) (first++args.map (ev S.fr)++cap) S K
   | .yld o=>CA (.y o) (args.map (ev S.fr)) S K
   |_=>False
 | .s2b _ _=>False
 | .sll sz x lo hi=>match ev S.fr x with
   | .gs k n=>cutR sz S k n (bnd (ev S.fr) 0 lo) (bnd (ev S.fr) n hi) K
   |_=>wpv (pval (yav S) (ev S.fr) (.sll sz x lo hi)) fun v=>K v S
 |u=>wpv (pval (yav S) (ev S.fr) u) fun v=>K v S
section
variable {P:Program} {B:Base} [GB P B] {N:Nat} {S:St} {a:Act} {G:Gh} {hs:Nat->Bool} {o:Oper} {K:AV->St->Prop} {next:Act->World->Prop} {Q:Exit->Act->World->Prop}
theorem of_y (h:Rel B N S a G) (hn:Nxt B N a o K next) {u:AOp} (hA:wpv (pval (yav S) (ev S.fr) u) fun v=>K v S) (hy:∀v,pval (yav S) (ev S.fr) u=some v→yaU P a G o v):o.wp P a G.w next Q:=by
 have _:=(inferInstance:GB P B)
 obtain ⟨v,e,hK⟩:=yb7 hA
 obtain ⟨x,hr,hv⟩:=hy v e
 exact ycw hr (hn v x S G hK h hv)
theorem ykf (h:Rel B N S a G) (hn:Nxt B N a o K next) {f:FuncId} {args:List AV} {vs:Array Value} (hx:(execOp a.eval o).run P G.w=(callFunc f vs).run P G.w) (hv:VRs G args vs.toList) (hc:ycO P (.f f) args S K):o.wp P a G.w next Q:=by
 have hcw:=yof h hv hc
 unfold Oper.wp
 rw[hx]
 unfold yeh at hcw
 split at hcw
 ·rename_i v w' e
  rw[e]
  obtain ⟨v',av,S',G',h1,h2,h3,h4,h5,_⟩:=hcw
  cases h1
  rw[<-h4]
  exact hn av v S' G' h2 h3 h5
 ·rename_i g az w' e
  rw[e]
  refine Calls.mono hcw ?_
  rintro e w'' ⟨v',av,S',G',h1,h2,h3,h4,h5,_⟩
  subst h1
  rw[<-h4]
  exact hn av v' S' G' h2 h3 h5
 ·exact hcw.elim
theorem ymJ:∀ {us:List AV} {l:List UInt8},yc1 us=some l→∃zs:List Int,us=zs.map (AV.it .u8)∧l=zs.map fun n=>UInt8.ofNat n.toNat:=by
 intro us
 induction us with
 |nil=>intro l h;simp only[yc1,Option.some.injEq] at h;subst h;exact ⟨[],rfl,rfl⟩
 | cons u us ih=>
   intro l h
   simp only[yc1] at h
   split at h
   ·rename_i b bs h1 h2
    simp only[Option.some.injEq] at h;subst h
    obtain ⟨zs,e1,e2⟩:=ih h2
    unfold ypO at h1
    split at h1
    ·rename_i n
     simp only[Option.some.injEq] at h1
     exact ⟨n::zs,by rw[e1];rfl,by rw[e2,<-h1];rfl⟩
    ·cases h1
   ·cases h
theorem ys5 (h:Rel B N S a G) {src dst e:TypeId} {x:Operand} {us:List AV} {l:List UInt8} {b off n cap:Nat} (ho:o.op= .convert src dst x) (hs':P.underlying src=some (.slice e)) (he:P.underlying e=some (.int .u8)) (hd:P.underlying dst=some .string) (hx:a.eval x= .slice (some ⟨b,off,none⟩) n cap)
  (hat:At G us b off) (hl:us.length=n) (hb:yc1 us=some l):yaU P a G o (.st l):=by
 have _:=(inferInstance:GB P B)
 obtain ⟨zs,e1,e2⟩:=ymJ hb
 refine ⟨.string (strOfNums zs),?_, .st _ _ (by rw[strOfNums_data,e2])⟩
 have:=run_convert_bytes_arg (P:=P) G.w src e hs' he b off n cap zs (by rw[← hl,e1];simp) (fun i hi=>by
  have hlt:i<zs.length:=by rw[<-hl,e1] at hi;simpa using hi
  obtain ⟨v,p,q,_⟩:=hat i (.it .u8 zs[i]) (by rw[e1];simp[hlt])
  rw[p,q.it_inv]
  simp[List.getD,hlt]) dst hd
 simp only[execOp,ho,hx,Sem.run_bind,this,Result.andThen_ok,Sem.run_pure]
theorem ymF (s:ByteArray):Told G (encB s.data.toList) (strCells s):=by
 refine ⟨by simp[encB,strCells],?_,?_⟩
 ·intro j u x hu hx
  simp only[encB,strCells,List.getElem?_map] at hu hx
  cases hq:s.data.toList[j]? with
  |none=>rw[hq] at hu;cases hu
  |some b=>rw[hq] at hu hx;simp only[Option.map_some,Option.some.injEq] at hu hx;subst hu;subst hx;exact .it _ _
 ·intro x hx
  simp only[strCells,List.mem_map] at hx
  obtain ⟨b,_,rfl⟩:=hx
  rfl
theorem ypp {d e sz m:Nat} {ys:List AV} {us:AV} (hA:aapp hs d e sz m ys S K us):App S hs d e sz m ys K us∧∀k n,us= .gs k n→n≤1000000000:=by
 cases us<;>simp only[aapp] at hA<;>first|(exact hA.elim)|skip
 ·rename_i z n xs
  cases z<;>simp only[aapp] at hA
  split at hA
  ·rename_i h0;exact ⟨.nil0 n xs h0 hA,fun k n e=>by cases e⟩
  ·rename_i h0;exact ⟨.nil n xs (by omega) hA.1 hA.2,fun k n e=>by cases e⟩
 ·rename_i k n
  obtain ⟨b,hk,h1,h2,h3,h4,h5,h6,h7⟩:=yb7 hA
  exact ⟨.own k n b hk h1 h2 h3 (fun ⟨o,ho⟩=>h5 (by rw[ho];rfl)) h6 h7,fun k' n' e=>by cases e;exact h4⟩
end
end Go.AV
end
