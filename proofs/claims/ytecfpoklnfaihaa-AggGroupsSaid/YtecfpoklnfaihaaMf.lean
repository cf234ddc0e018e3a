/- General texts and own ones, joined: what the program computes, told of abstract states, and the laws of plain data. No condition. -/
import Derived.Test.YtecfpoklnfaihaaMe
import Derived.KernelRfl
import Derived.Test.YtecfpoklnfaihaaMc
noncomputable section
namespace Go.Proofs.Ytecfpoklnfaihaa
open Go.AV Go.RowKit
set_option maxRecDepth 100000
structure yax where
 Kind:Int
 N:Int
 S:Str
structure yau where
 Group:Int
 A:yax
 B:yax
structure yad where
 Kind:Int
 N:Int
 S:Str
structure yaj where
 Hi:Int
 Lo:Int
structure yag where
 N:Int
 Sum:yaj
 Min:yad
 Max:yad
structure yae where
 Rows:Int
 L:(List yag)
structure yaa where
 Row:(List yad)
 Part:yae
structure yab where
 Kind:Int
 N:Int
 S:Str
structure yac where
 Group:(List yab)
 Values:(List yab)
abbrev B1:Type:=Bool
abbrev B2:Type:=B1×B1
abbrev B4:Type:=B2×B2
abbrev B8:Type:=B4×B4
abbrev B16:Type:=B8×B8
abbrev B32:Type:=B16×B16
abbrev B64:Type:=B32×B32
abbrev B128:Type:=B64×B64
inductive TC where
 |c0
 |c2
 |c3
 |c4
 |c5
 |c9
 |c22
 |c23
 |c25
 |c26
 |c27
 |c28
 |c29
 |c30
 |c32
 |c34
 |c35
 |c36
 |c38
 |c42
 |c44
 |c46
 |c52
 |c61
 |c65
 |c67
 |c69
 |c70
 |c76
 |c102
 |c125
 |c129
def KF:TC→Type
 | .c0=>Unit
 | .c2=>Int
 | .c3=>Int
 | .c4=>Bool
 | .c5=>Int
 | .c9=>Str
 | .c22=>(List yau)
 | .c23=>(List Int)
 | .c25=>(List (List yaa))
 | .c26=>(List yaa)
 | .c27=>(List yac)
 | .c28=>(List yad)
 | .c29=>(List yad)
 | .c30=>(List yag)
 | .c32=>yae
 | .c34=>yaa
 | .c35=>(List yab)
 | .c36=>(List yab)
 | .c38=>yac
 | .c42=>yax
 | .c44=>yau
 | .c46=>(List (List yac))
 | .c52=>Int
 | .c61=>yad
 | .c65=>Int
 | .c67=>yaj
 | .c69=>yag
 | .c70=>yab
 | .c76=>(List Str)
 | .c102=>B128
 | .c125=>(List Int)
 | .c129=>(List yaj)
def yD5:List (Nat×TC):= [(2, .c2),(3, .c3),(4, .c4),(5, .c5),(9, .c9),(22, .c22),(23, .c23),(25, .c25),(26, .c26),(27, .c27),(28, .c28),(29, .c29),(30, .c30),(32, .c32),(34, .c34),(35, .c35),(36, .c36),(38, .c38),(42, .c42),(44, .c44),(46, .c46),(52, .c52),(61, .c61),(65, .c65),(67, .c67),(69, .c69),(70, .c70),(76, .c76),(102, .c102),(125, .c125),(129, .c129)]
def code (t:Nat):TC:=lkC .c0 yD5 t
abbrev KK (t:Nat):Type:=KF (code t)
def yjB:Enc yax:=yjv ((ycA (tbI .u8) (ycA (tbI .i64) tbS)):Tb KK _).E (fun x:yax=>(x.Kind,x.N,x.S))
def b42:Tb KK yax:=yl4 (ycA (tbI .u8) (ycA (tbI .i64) tbS)) (fun x:yax=>(x.Kind,x.N,x.S)) (fun y=>(⟨y.1,y.2.1,y.2.2⟩:yax)) yjB
def yci:Enc yau:=yjv ((ycA (tbI .u8) (ycA b42 b42)):Tb KK _).E (fun x:yau=>(x.Group,x.A,x.B))
def b44:Tb KK yau:=yl4 (ycA (tbI .u8) (ycA b42 b42)) (fun x:yau=>(x.Group,x.A,x.B)) (fun y=>(⟨y.1,y.2.1,y.2.2⟩:yau)) yci
def ycb:Enc yad:=yjv ((ycA (tbI .i64) (ycA (tbI .i64) tbS)):Tb KK _).E (fun x:yad=>(x.Kind,x.N,x.S))
def b61:Tb KK yad:=yl4 (ycA (tbI .i64) (ycA (tbI .i64) tbS)) (fun x:yad=>(x.Kind,x.N,x.S)) (fun y=>(⟨y.1,y.2.1,y.2.2⟩:yad)) ycb
def yfy:Enc yaj:=yjv ((ycA (tbI .i64) (tbI .u64)):Tb KK _).E (fun x:yaj=>(x.Hi,x.Lo))
def b67:Tb KK yaj:=yl4 (ycA (tbI .i64) (tbI .u64)) (fun x:yaj=>(x.Hi,x.Lo)) (fun y=>(⟨y.1,y.2⟩:yaj)) yfy
def yfQ:Enc yag:=yjv ((ycA (tbI .i64) (ycA b67 (ycA b61 b61))):Tb KK _).E (fun x:yag=>(x.N,x.Sum,x.Min,x.Max))
def b69:Tb KK yag:=yl4 (ycA (tbI .i64) (ycA b67 (ycA b61 b61))) (fun x:yag=>(x.N,x.Sum,x.Min,x.Max)) (fun y=>(⟨y.1,y.2.1,y.2.2.1,y.2.2.2⟩:yag)) yfQ
def yuB:Enc yae:=yjv ((ycA (tbI .i64) (tbL 69 yfQ:Tb KK (List yag))):Tb KK _).E (fun x:yae=>(x.Rows,x.L))
def b32:Tb KK yae:=yl4 (ycA (tbI .i64) (tbL 69 yfQ:Tb KK (List yag))) (fun x:yae=>(x.Rows,x.L)) (fun y=>(⟨y.1,y.2⟩:yae)) yuB
def yeC:Enc yaa:=yjv ((ycA (tbL 61 ycb:Tb KK (List yad)) b32):Tb KK _).E (fun x:yaa=>(x.Row,x.Part))
def b34:Tb KK yaa:=yl4 (ycA (tbL 61 ycb:Tb KK (List yad)) b32) (fun x:yaa=>(x.Row,x.Part)) (fun y=>(⟨y.1,y.2⟩:yaa)) yeC
def ybH:Enc yab:=yjv ((ycA (tbI .i64) (ycA (tbI .i64) tbS)):Tb KK _).E (fun x:yab=>(x.Kind,x.N,x.S))
def b70:Tb KK yab:=yl4 (ycA (tbI .i64) (ycA (tbI .i64) tbS)) (fun x:yab=>(x.Kind,x.N,x.S)) (fun y=>(⟨y.1,y.2.1,y.2.2⟩:yab)) ybH
def yeD:Enc yac:=yjv ((ycA (tbL 70 ybH:Tb KK (List yab)) (tbL 70 ybH:Tb KK (List yab))):Tb KK _).E (fun x:yac=>(x.Group,x.Values))
def b38:Tb KK yac:=yl4 (ycA (tbL 70 ybH:Tb KK (List yab)) (tbL 70 ybH:Tb KK (List yab))) (fun x:yac=>(x.Group,x.Values)) (fun y=>(⟨y.1,y.2⟩:yac)) yeD
section
variable {K:Nat->Type}
def bb1:Tb K B1:=tbB
def bb2:Tb K B2:=ycA bb1 bb1
def bb4:Tb K B4:=ycA bb2 bb2
def bb8:Tb K B8:=ycA bb4 bb4
def bb16:Tb K B16:=ycA bb8 bb8
def bb32:Tb K B32:=ycA bb16 bb16
def bb64:Tb K B64:=ycA bb32 bb32
def yh6:Tb K B128:=ycA bb64 bb64
end
def bz1:B1:=false
def bz2:B2:=(bz1,bz1)
def bz4:B4:=(bz2,bz2)
def bz8:B8:=(bz4,bz4)
def bz16:B16:=(bz8,bz8)
def bz32:B32:=(bz16,bz16)
def bz64:B64:=(bz32,bz32)
def ywg:B128:=(bz64,bz64)
def TF:(c:TC)→Tb KK (KF c)
 | .c0=>tbU
 | .c2=>(tbI .i64)
 | .c3=>(tbI .i64)
 | .c4=>tbB
 | .c5=>(tbI .u8)
 | .c9=>tbS
 | .c22=>(tbL 44 yci:Tb KK (List yau))
 | .c23=>(tbL 5 (eI .u8):Tb KK (List Int))
 | .c25=>(tbL 26 (eSl yeC):Tb KK (List (List yaa)))
 | .c26=>(tbL 34 yeC:Tb KK (List yaa))
 | .c27=>(tbL 38 yeD:Tb KK (List yac))
 | .c28=>(tbL 61 ycb:Tb KK (List yad))
 | .c29=>(tbL 61 ycb:Tb KK (List yad))
 | .c30=>(tbL 69 yfQ:Tb KK (List yag))
 | .c32=>b32
 | .c34=>b34
 | .c35=>(tbL 70 ybH:Tb KK (List yab))
 | .c36=>(tbL 70 ybH:Tb KK (List yab))
 | .c38=>b38
 | .c42=>b42
 | .c44=>b44
 | .c46=>(tbL 27 (eSl yeD):Tb KK (List (List yac)))
 | .c52=>(tbI .i64)
 | .c61=>b61
 | .c65=>(tbI .u64)
 | .c67=>b67
 | .c69=>b69
 | .c70=>b70
 | .c76=>(tbL 9 eS:Tb KK (List Str))
 | .c102=>(yh6:Tb KK B128)
 | .c125=>(tbL 3 (eI .i64):Tb KK (List Int))
 | .c129=>(tbL 67 yfy:Tb KK (List yaj))
def CC:Cx KK:= @cxOf TC KF code TF
theorem yvo:TbOk Try.prog CC b42:=yfk (ybz (yfh _) (ybz (yfh _) ytD)) (fun y=>rfl) (fun x=>rfl)
theorem yuS:TbOk Try.prog CC b44:=yfk (ybz (yfh _) (ybz yvo yvo)) (fun y=>rfl) (fun x=>rfl)
theorem yqH:∀x,dwks (yci.c x)=yci.c x:=yuS.dw
theorem yre:∀x m,hlts m (yci.c x)=true:=yuS.hl
theorem yqe:TbOk Try.prog CC b61:=yfk (ybz (yfh _) (ybz (yfh _) ytD)) (fun y=>rfl) (fun x=>rfl)
theorem ygq:∀x,dwks (ycb.c x)=ycb.c x:=yqe.dw
theorem ygC:∀x m,hlts m (ycb.c x)=true:=yqe.hl
theorem ys9:TbOk Try.prog CC b67:=yfk (ybz (yfh _) (yfh _)) (fun y=>rfl) (fun x=>rfl)
theorem yqI:∀x,dwks (yfy.c x)=yfy.c x:=ys9.dw
theorem yqM:∀x m,hlts m (yfy.c x)=true:=ys9.hl
theorem ywH:TbOk Try.prog CC b69:=yfk (ybz (yfh _) (ybz ys9 (ybz yqe yqe))) (fun y=>rfl) (fun x=>rfl)
theorem ynP:∀x,dwks (yfQ.c x)=yfQ.c x:=ywH.dw
theorem yn7:∀x m,hlts m (yfQ.c x)=true:=ywH.hl
theorem yyO:TbOk Try.prog CC b32:=yfk (ybz (yfh _) (yew _ rfl ynP yn7)) (fun y=>rfl) (fun x=>rfl)
theorem yvh:TbOk Try.prog CC b34:=yfk (ybz (yew _ rfl ygq ygC) yyO) (fun y=>rfl) (fun x=>rfl)
theorem ylj:∀x,dwks (yeC.c x)=yeC.c x:=yvh.dw
theorem yla:∀x m,hlts m (yeC.c x)=true:=yvh.hl
theorem yvj:TbOk Try.prog CC b70:=yfk (ybz (yfh _) (ybz (yfh _) ytD)) (fun y=>rfl) (fun x=>rfl)
theorem yeV:∀x,dwks (ybH.c x)=ybH.c x:=yvj.dw
theorem yeP:∀x m,hlts m (ybH.c x)=true:=yvj.hl
theorem yvK:TbOk Try.prog CC b38:=yfk (ybz (yew _ rfl yeV yeP) (yew _ rfl yeV yeP)) (fun y=>rfl) (fun x=>rfl)
theorem yk9:∀x,dwks (yeD.c x)=yeD.c x:=yvK.dw
theorem yle:∀x m,hlts m (yeD.c x)=true:=yvK.hl
theorem yy2:TbOk Try.prog CC bb1:=yzf
theorem yy3:TbOk Try.prog CC bb2:=ybz yy2 yy2
theorem yyV:TbOk Try.prog CC bb4:=ybz yy3 yy3
theorem yyK:TbOk Try.prog CC bb8:=ybz yyV yyV
theorem ywt:TbOk Try.prog CC bb16:=ybz yyK yyK
theorem yvr:TbOk Try.prog CC bb32:=ybz ywt ywt
theorem ywF:TbOk Try.prog CC bb64:=ybz yvr yvr
theorem yxu:TbOk Try.prog CC yh6:=ybz ywF ywF
theorem ybg:CxOk Try.prog CC:= @yzo TC KF code _ TF fun c=>match c with
 | .c0=>yBN
 | .c2=>(yfh _)
 | .c3=>(yfh _)
 | .c4=>yzf
 | .c5=>(yfh _)
 | .c9=>ytD
 | .c22=>(yew _ rfl yqH yre)
 | .c23=>(yew _ rfl (fun _=>rfl) (fun _ _=>rfl))
 | .c25=>(yew _ rfl (yy0 ylj) (yvQ yla))
 | .c26=>(yew _ rfl ylj yla)
 | .c27=>(yew _ rfl yk9 yle)
 | .c28=>(yew _ rfl ygq ygC)
 | .c29=>(yew _ rfl ygq ygC)
 | .c30=>(yew _ rfl ynP yn7)
 | .c32=>yyO
 | .c34=>yvh
 | .c35=>(yew _ rfl yeV yeP)
 | .c36=>(yew _ rfl yeV yeP)
 | .c38=>yvK
 | .c42=>yvo
 | .c44=>yuS
 | .c46=>(yew _ rfl (yy0 yk9) (yvQ yle))
 | .c52=>(yfh _)
 | .c61=>yqe
 | .c65=>(yfh _)
 | .c67=>ys9
 | .c69=>ywH
 | .c70=>yvj
 | .c76=>(yew _ rfl (fun _=>rfl) (fun _ _=>rfl))
 | .c102=>yxu
 | .c125=>(yew _ rfl (fun _=>rfl) (fun _ _=>rfl))
 | .c129=>(yew _ rfl yqI yqM)
def wB1 (f:Nat->Bool) (i:Nat):B1:=f i
def wB2 (f:Nat->Bool) (i:Nat):B2:=(wB1 f i,wB1 f (i+1))
def wB4 (f:Nat->Bool) (i:Nat):B4:=(wB2 f i,wB2 f (i+2))
def wB8 (f:Nat->Bool) (i:Nat):B8:=(wB4 f i,wB4 f (i+4))
def wB16 (f:Nat->Bool) (i:Nat):B16:=(wB8 f i,wB8 f (i+8))
def wB32 (f:Nat->Bool) (i:Nat):B32:=(wB16 f i,wB16 f (i+16))
def wB64 (f:Nat->Bool) (i:Nat):B64:=(wB32 f i,wB32 f (i+32))
def yD0 (f:Nat->Bool) (i:Nat):B128:=(wB64 f i,wB64 f (i+64))
def wN (n:Nat):B128:=yD0 (fun j=>n.testBit j) 0
theorem wN_c (n:Nat):(yh6 (K:=KK)).E.c (wN n)=(List.range 128).map fun j=>AV.bl (n.testBit j):=by kernel_rfl
theorem yBU (n:Nat):noLs ((yh6 (K:=KK)).E.c (wN n))=true:=(yh6 (K:=KK)).E.no _
theorem wN_v (G:Gh) (n:Nat):VR G (.agg ((yh6 (K:=KK)).E.c (wN n))) (.agg (yfA n)):=by
 rw[wN_c]
 refine .agg _ _ (by rw[ybU];simp) (fun j u x hu hx=> ?_) (fun j x hx=> ?_)
 ·have hj:j<128:=by have:=(List.getElem?_eq_some_iff.1 hu).1;simpa using this
  rw[List.getElem?_map,List.getElem?_range hj] at hu
  simp only[Option.map_some,Option.some.injEq] at hu
  unfold yfA at hx
  rw[RG.rowf_get _ _ _ hj] at hx
  cases hx;subst hu;exact .bl _
 ·have hj:j<128:=by have:=(Array.getElem?_eq_some_iff.1 hx).1;rwa[ybU] at this
  unfold yfA at hx
  rw[RG.rowf_get _ _ _ hj] at hx
  cases hx;rfl
theorem wN_i {G:Gh} {n:Nat} {v:Value} (h:VR G (.agg ((yh6 (K:=KK)).E.c (wN n))) v):v= .agg (yfA n):=by
 rw[wN_c] at h
 obtain ⟨vs,rfl,h1,h2,_⟩:=h.agg_inv
 have h1:vs.size=128:=by simpa using h1
 congr 1
 refine Array.ext_getElem? fun j=> ?_
 by_cases hj:j<128
 ·have e:=Array.getElem?_eq_getElem (xs:=vs) (i:=j) (by omega)
  have:=h2 j (.bl (n.testBit j)) vs[j] (by rw[List.getElem?_map,List.getElem?_range hj];rfl) e
  unfold yfA
  rw[e,RG.rowf_get _ _ _ hj,this.bl_inv]
 ·rw[Array.getElem?_eq_none (by omega),Array.getElem?_eq_none (by rw[ybU];omega)]
theorem yDQ {a0 a1:Int} (h0:0≤a1) (h1:a1<18446744073709551616):AV.Pure Try.prog 61 [.it .i64 a0, .it .u64 a1] (.agg ((yh6 (K:=KK)).E.c (wN ((a0 % 18446744073709551616).toNat*18446744073709551616+a1.toNat)))):=by
 refine ykh Try.func61 (by kernel_rfl) (yBU _) fun G vs _ _ hV=> ?_
 obtain ⟨x,y,rfl,hx,hy⟩:=vs2 hV
 rw[hx.itv,hy.itv]
 have e1:a1=((a1.toNat:Nat):Int):=by omega
 have hH:IntKind.u64.wrap a0=(((a0 % 18446744073709551616).toNat:Nat):Int):=by rw[IntKind.wrap_u64];omega
 have:=yzr a0 a1.toNat (a0 % 18446744073709551616).toNat (by omega) hH (by omega) G.w
 rw[<-e1] at this
 exact Calls.mono this fun e w' ⟨h1,h2⟩=>⟨_,h1,fun G'=>wN_v G' _,h2⟩
theorem yzp (m n:Nat):AV.Pure Try.prog 60 [.agg ((yh6 (K:=KK)).E.c (wN m)), .agg ((yh6 (K:=KK)).E.c (wN n))] (.agg ((yh6 (K:=KK)).E.c (wN (m+n)))):=by
 refine ykh Try.func60 (by kernel_rfl) (yBU _) fun G vs _ _ hV=> ?_
 obtain ⟨x,y,rfl,hx,hy⟩:=vs2 hV
 rw[wN_i hx,wN_i hy]
 exact Calls.mono (yv7 m n G.w) fun e w' ⟨h1,h2⟩=>⟨_,h1,fun G'=>wN_v G' _,h2⟩
theorem yC7 (n:Nat):AV.Pure Try.prog 44 [.agg ((yh6 (K:=KK)).E.c (wN n))] (.tup [.it .i64 (if allB n then wrap64 ((n % 18446744073709551616:Nat):Int) else 0), .bl (allB n)]):=by
 refine ykh Try.func44 (by kernel_rfl) rfl fun G vs _ _ hV=> ?_
 obtain ⟨x,rfl,hx⟩:=vs1 hV
 rw[wN_i hx]
 exact Calls.mono (yyc n _ _ rfl rfl G.w) fun e w' ⟨h1,h2⟩=>⟨_,h1,fun G'=> .tup _ _ rfl (fun j u x hu hx=>by
  match j with
  |0=>simp at hu hx;subst hu;subst hx;exact .it _ _
  |1=>simp at hu hx;subst hu;subst hx;exact .bl _
  |j+2=>simp at hu),h2⟩
theorem yBc {x y:Int} (hx:0≤x) (hy:0≤y):AV.Pure Try.prog 69 [.it .u64 x, .it .u64 y, .it .u64 0] (.tup [.it .u64 ((x+y) % 18446744073709551616), .it .u64 ((x+y)/18446744073709551616)]):=by
 refine yyn rfl fun G vs hV=> ?_
 obtain ⟨a,b,c,rfl,ha,hb,hc⟩:=vs3 hV
 rw[ha.itv,hb.itv,hc.itv]
 refine ⟨_,yuo x y hx hy G.w,fun G'=> .tup _ _ rfl (fun j u x hu hx=> ?_)⟩
 match j with
 |0=>simp at hu hx;subst hu;subst hx;exact .it _ _
 |1=>simp at hu hx;subst hu;subst hx;exact .it _ _
 |j+2=>simp at hu
def yaO (a0:Int) (r0:yad):Prop:=
 (⟨(2:Int),a0,([]:Str)⟩:yad)=r0
def ydp:Sp KK:=⟨17,[.v 2],[61],appW (K:=KK) [61] [.v 2] yaO⟩
def ynt:An KK:=(.s .o (.s .o .o))
def ynu:Cf KK:=⟨CC,[],[],5,[],none,false⟩
theorem yeO:SpOk Try.prog CC ydp:=yay (F:=ynu) (ps:= [.v 2]) (rs:= [61]) (w:=yaO) ybg yaE yaD t17 (A:=ynt) (by kernel_rfl) (by kernel_rfl) (fun a0 r0=>show _=_ by kernel_rfl)
def yf8 (a0:Int) (r0:yaj):Prop:=
 (⟨a0.fdiv (2^(min (63:Int).toNat IntKind.i64.bits)),IntKind.u64.wrap a0⟩:yaj)=r0
def ykl:Sp KK:=⟨37,[.v 2],[67],appW (K:=KK) [67] [.v 2] yf8⟩
def yt5:An KK:=(.s .o (.s .o .o))
def yur:Cf KK:=⟨CC,[],[],8,[],none,false⟩
theorem ynO:SpOk Try.prog CC ykl:=yay (F:=yur) (ps:= [.v 2]) (rs:= [67]) (w:=yf8) ybg yaE yaD t37 (A:=yt5) (by kernel_rfl) (by kernel_rfl) (fun a0 r0=>show _=_ by kernel_rfl)
def ymc (X1:Int→(List yag)→Prop) (x1 x4 x7 x8:Int) (x9:Str) (x10 x11:Int) (x12:Str) (x14 x15:Int) (x16:List yag):Prop:=
 (x16.length<=1000000000)/\X1 (IntKind.i64.wrap (x1+(1:Int))) (x16++([(⟨x4,(⟨x14,x15⟩:yaj),(⟨x7,x8,x9⟩:yad),(⟨x10,x11,x12⟩:yad)⟩:yag)]:List yag))
def ym0 (X1:Int→(List yag)→Prop) (x1:Int) (y3:yad) (x4 x5 x6 x7 x8:Int) (x9:Str) (x10 x11:Int) (x12:Str) (x13:List yag):Prop:=
 ∀J3:Int->Int->(List yag)->Prop,(∀x14 x15 x16,ymc X1 x1 x4 x7 x8 x9 x10 x11 x12 x14 x15 x16->J3 x14 x15 x16)->cnd (y3.Kind==(2:Int)) (∃z17,(yf8 y3.N z17)/\J3 z17.Hi z17.Lo x13) (J3 x5 x6 x13)
def ymO (a0:List yad) (r0:yae) (X1:Int→(List yag)→Prop) (x1:Int) (x2:List yag):Prop:=
 cnd (decide (x1<(a0.length:Int))) ((0<=x1)/\(x1<(a0.length:Int))/\∃y3:yad,(a0[x1.toNat]? =some y3)/\∀J2:Int->Int->Int->Int->Int->Str->Int->Int->Str->(List yag)->Prop,(∀x4 x5 x6 x7 x8 x9 x10 x11 x12 x13,ym0 X1 x1 y3 x4 x5 x6 x7 x8 x9 x10 x11 x12 x13->J2 x4 x5 x6 x7 x8 x9 x10 x11 x12 x13)->cnd (!(y3.Kind==(0:Int))) (J2 (1:Int) (0:Int) (0:Int) y3.Kind y3.N y3.S y3.Kind y3.N y3.S x2) (J2 (0:Int) (0:Int) (0:Int) (0:Int) (0:Int) ([]:Str) (0:Int) (0:Int) ([]:Str) x2)) ((⟨(1:Int),x2⟩:yae)=r0)
def ydC (a0:List yad) (r0:yae):Prop:=
 (a0.length<=maxLen->∀X1:Int->(List yag)->Prop,(∀x1 x2,ymO a0 r0 X1 x1 x2->X1 x1 x2)->X1 (0:Int) ([]:List yag))
def ygR (X1:Int→(List yag)→Prop) (x1 x4 x7 x8:Int) (x9:Str) (x10 x11:Int) (x12:Str) (x14 x15:Int) (x16:List yag):Prop:=
 (x16.length<=1000000000)/\X1 (IntKind.i64.wrap (x1+(1:Int))) (x16++([(⟨x4,(⟨x14,x15⟩:yaj),(⟨x7,x8,x9⟩:yad),(⟨x10,x11,x12⟩:yad)⟩:yag)]:List yag))
def yeH (X1:Int→(List yag)→Prop) (x1:Int) (y3:yad) (x4 x5 x6 x7 x8:Int) (x9:Str) (x10 x11:Int) (x12:Str) (x13:List yag):Prop:=
 cnd (y3.Kind==(2:Int)) (∃z17,(yf8 y3.N z17)/\ygR X1 x1 x4 x7 x8 x9 x10 x11 x12 z17.Hi z17.Lo x13) (ygR X1 x1 x4 x7 x8 x9 x10 x11 x12 x5 x6 x13)
def ykF (a0:List yad) (r0:yae) (X1:Int→(List yag)→Prop) (x1:Int) (x2:List yag):Prop:=
 cnd (decide (x1<(a0.length:Int))) ((0<=x1)/\(x1<(a0.length:Int))/\∃y3:yad,(a0[x1.toNat]? =some y3)/\cnd (!(y3.Kind==(0:Int))) (yeH X1 x1 y3 (1:Int) (0:Int) (0:Int) y3.Kind y3.N y3.S y3.Kind y3.N y3.S x2) (yeH X1 x1 y3 (0:Int) (0:Int) (0:Int) (0:Int) (0:Int) ([]:Str) (0:Int) (0:Int) ([]:Str) x2)) ((⟨(1:Int),x2⟩:yae)=r0)
def yqN (a0:List yad) (r0:yae):Prop:=
 (a0.length<=maxLen->∀X1:Int->(List yag)->Prop,(∀x1 x2,ykF a0 r0 X1 x1 x2->X1 x1 x2)->X1 (0:Int) ([]:List yag))
theorem yrx (X1:Int→(List yag)→Prop) (x1 x4 x7 x8:Int) (x9:Str) (x10 x11:Int) (x12:Str) {x14 x15:Int} {x16:List yag} (h:ygR X1 x1 x4 x7 x8 x9 x10 x11 x12 x14 x15 x16):ymc X1 x1 x4 x7 x8 x9 x10 x11 x12 x14 x15 x16:=by
 unfold ymc
 unfold ygR at h
 exact h
theorem yr2 (X1:Int→(List yag)→Prop) (x1:Int) (y3:yad) {x4 x5 x6 x7 x8:Int} {x9:Str} {x10 x11:Int} {x12:Str} {x13:List yag} (h:yeH X1 x1 y3 x4 x5 x6 x7 x8 x9 x10 x11 x12 x13):ym0 X1 x1 y3 x4 x5 x6 x7 x8 x9 x10 x11 x12 x13:=by
 unfold ym0
 unfold yeH at h
 intro J3 kJ3
 have hJ3:∀x14 x15 x16,ygR X1 x1 x4 x7 x8 x9 x10 x11 x12 x14 x15 x16->J3 x14 x15 x16:=fun x14 x15 x16 q=>kJ3 x14 x15 x16 (yrx X1 x1 x4 x7 x8 x9 x10 x11 x12 q)
 refine yak h (fun h=> ?_) (fun h=> ?_)
 ·obtain ⟨z17,h⟩:=h
  refine ⟨z17,?_⟩
  obtain ⟨h0,h⟩:=h
  refine ⟨h0,?_⟩
  exact hJ3 _ _ _ h
 ·exact hJ3 _ _ _ h
theorem yrI (a0:List yad) (r0:yae) {X1:Int→(List yag)→Prop} {x1:Int} {x2:List yag} (h:ykF a0 r0 X1 x1 x2):ymO a0 r0 X1 x1 x2:=by
 unfold ymO
 unfold ykF at h
 refine yak h (fun h=> ?_) (fun h=> ?_)
 ·obtain ⟨h0,h⟩:=h
  refine ⟨h0,?_⟩
  obtain ⟨h0,h⟩:=h
  refine ⟨h0,?_⟩
  obtain ⟨y3,h⟩:=h
  refine ⟨y3,?_⟩
  obtain ⟨h0,h⟩:=h
  refine ⟨h0,?_⟩
  intro J2 kJ2
  have hJ2:∀x4 x5 x6 x7 x8 x9 x10 x11 x12 x13,yeH X1 x1 y3 x4 x5 x6 x7 x8 x9 x10 x11 x12 x13->J2 x4 x5 x6 x7 x8 x9 x10 x11 x12 x13:=fun x4 x5 x6 x7 x8 x9 x10 x11 x12 x13 q=>kJ2 x4 x5 x6 x7 x8 x9 x10 x11 x12 x13 (yr2 X1 x1 y3 q)
  refine yak h (fun h=> ?_) (fun h=> ?_)
  ·exact hJ2 _ _ _ _ _ _ _ _ _ _ h
  ·exact hJ2 _ _ _ _ _ _ _ _ _ _ h
 ·exact h
theorem yo3 (a0:List yad) (r0:yae) (h:yqN a0 r0):ydC a0 r0:=by
 unfold ydC
 unfold yqN at h
 intro c
 replace h:=h c
 intro X1 k
 exact h X1 (fun x1 x2 q=>k x1 x2 (yrI a0 r0 q))
def yl8:Sp KK:=⟨16,[.v 28],[32],appW (K:=KK) [32] [.v 28] ydC⟩
def yvt:An KK:=(.s .o (.s .o (.s (.s .o (.b (.l ⟨[(2, .px 2 0),(3, .px 3 0),(8, .kp 84),(9, .kp 85),(10, .it .i64)],[(2,32,[.kp 87, .kp 88]),(3,32,[.kp 89, .row 31])],[(31,69)]⟩ (fun _=>(.s .o (.s (.c .o .o) (.s (.b (.s .o (.s .o (.j ⟨[(2, .px 2 0),(3, .px 3 0),(5, .px 5 0),(6, .px 6 0),(8, .kp 84),(9, .kp 85),(10, .kp 154)],[(2,32,[.kp 87, .kp 88]),(3,32,[.kp 89, .row 31]),(5,61,[.kp 155, .kp 156, .kp 157]),(6,69,[.it .i64, .it .i64, .it .u64, .it .i64, .it .i64, .st, .it .i64, .it .i64, .st])],[(31,69)]⟩ (.s .o (.c .o .o)) (fun _=>(.j ⟨[(2, .px 2 0),(3, .px 3 0),(6, .px 6 0),(8, .kp 84),(9, .kp 85),(10, .kp 154)],[(2,32,[.kp 87, .kp 88]),(3,32,[.kp 89, .row 31]),(6,69,[.kp 160, .it .i64, .it .u64, .kp 161, .kp 162, .kp 163, .kp 164, .kp 165, .kp 166])],[(31,69)]⟩ (.s .o (.c .o .o)) (fun _=> .o))))))) .o))))))) (.s .o .o))))
def yu7:Cf KK:=⟨CC,[ykl],[],35,[],none,false⟩
theorem yqJ:SpOk Try.prog CC yl8:=yay (F:=yu7) (ps:= [.v 28]) (rs:= [32]) (w:=ydC) ybg (yas ynO yaE) yaD t16 (A:=yvt) (by kernel_rfl) (by kernel_rfl) (fun a0 r0=>show _=_ by kernel_rfl)
def yeA (a0 a1 a2 r0 r1:Int):Prop:=0<=a0/\0<=a1/\a2=0/\r0=(a0+a1) % 18446744073709551616/\r1=(a0+a1)/18446744073709551616
def ygo:Sp KK:=⟨69,[.v 65, .v 65, .v 65],[65,65],appW (K:=KK) [65,65] [.v 65, .v 65, .v 65] yeA⟩
theorem ykK {a0:Int} {a1:Int} {a2:Int} {r0:Int} {r1:Int} (h:yeA a0 a1 a2 r0 r1):AV.Pure Try.prog 69 [.it .u64 a0, .it .u64 a1, .it .u64 a2] (.tup [.it .u64 r0, .it .u64 r1]):=by
 obtain ⟨q0,q1,rfl,rfl,rfl⟩:=h
 exact yBc q0 q1
theorem yj6:SpOk Try.prog CC ygo:=by
 intro env r hF h
 obtain ⟨a0,env0,rfl,h1⟩:=yjG h
 obtain ⟨a1,env1,rfl,h2⟩:=yjG h1
 obtain ⟨a2,env2,rfl,h3⟩:=yjG h2
 obtain ⟨rfl,h4⟩:=yqC h3
 obtain ⟨r0,_,rfl,h5⟩:=yrF h4
 obtain ⟨r1,_,rfl,h6⟩:=yrF h5
 obtain ⟨rfl,h7⟩:=yve h6
 exact ⟨rfl,(ykK h7).congr (by kernel_rfl) (by kernel_rfl)⟩
def yqK (a0:List yaj) (r0:yaj) (X1:Int→Int→Int→Prop) (x1 x2 x3:Int):Prop:=
 cnd (decide (x1<(a0.length:Int))) ((0<=x1)/\(x1<(a0.length:Int))/\∃y4:yaj,(a0[x1.toNat]? =some y4)/\∃z5 z6,(yeA x3 y4.Lo (0:Int) z5 z6)/\X1 (IntKind.i64.wrap (x1+(1:Int))) (IntKind.i64.wrap ((IntKind.i64.wrap (x2+y4.Hi))+(IntKind.i64.wrap z6))) z5) ((⟨x2,x3⟩:yaj)=r0)
def yfY (a0:List yaj) (r0:yaj):Prop:=
 (a0.length<=maxLen->∀X1:Int->Int->Int->Prop,(∀x1 x2 x3,yqK a0 r0 X1 x1 x2 x3->X1 x1 x2 x3)->X1 (0:Int) (0:Int) (0:Int))
def ykX:Sp KK:=⟨56,[.v 129],[67],appW (K:=KK) [67] [.v 129] yfY⟩
def yqd:An KK:=(.s .o (.s .o (.s (.s .o (.b (.l ⟨[(2, .px 2 0),(3, .px 3 0),(8, .kp 8),(9, .kp 9),(10, .it .i64)],[(2,67,[.kp 11, .kp 12]),(3,67,[.it .i64, .it .u64])],[]⟩ (fun _=>(.s .o (.s (.c .o .o) (.s (.b (.s .o (.s .o .o))) .o))))))) (.s .o .o))))
def yqr:Cf KK:=⟨CC,[ygo],[],34,[],none,false⟩
theorem yqh:SpOk Try.prog CC ykX:=yay (F:=yqr) (ps:= [.v 129]) (rs:= [67]) (w:=yfY) ybg (yas yj6 yaE) yaD t56 (A:=yqd) (by kernel_rfl) (by kernel_rfl) (fun a0 r0=>show _=_ by kernel_rfl)
def yd1 (a0:Int) (r0:Bool):Prop:=
 (!(a0==a0))=r0
def yhj:Sp KK:=⟨66,[.v 3],[4],appW (K:=KK) [4] [.v 3] yd1⟩
def yll:An KK:=(.s .o (.s .o .o))
def ylr:Cf KK:=⟨CC,[],[],6,[],none,false⟩
theorem ylB:SpOk Try.prog CC yhj:=yay (F:=ylr) (ps:= [.v 3]) (rs:= [4]) (w:=yd1) ybg yaE yaD t66 (A:=yll) (by kernel_rfl) (by kernel_rfl) (fun a0 r0=>show _=_ by kernel_rfl)
def ydb (a0 a1 r0:Int):Prop:=
 ∃z1,(yd1 a0 z1)/\∃z2,(yd1 a1 z2)/\cnd z1 (cnd z2 ((0:Int)=r0) ((-1:Int)=r0)) (cnd z2 ((1:Int)=r0) (cnd (decide (a0<a1)) ((-1:Int)=r0) (cnd (decide (a1<a0)) ((1:Int)=r0) ((0:Int)=r0))))
def ygh:Sp KK:=⟨53,[.v 3, .v 3],[3],appW (K:=KK) [3] [.v 3, .v 3] ydb⟩
def yjP:An KK:=(.s .o (.s .o (.s .o (.s (.s .o (.c (.s (.s .o (.c (.s .o .o) .o)) (.s .o .o)) .o)) (.s (.s .o (.c (.s .o .o) .o)) (.s (.s .o (.c (.s .o .o) .o)) (.s (.s .o (.c (.s .o .o) .o)) (.s .o .o))))))))
def yka:Cf KK:=⟨CC,[yhj],[],20,[],none,false⟩
theorem yjs:SpOk Try.prog CC ygh:=yay (F:=yka) (ps:= [.v 3, .v 3]) (rs:= [3]) (w:=ydb) ybg (yas ylB yaE) yaD t53 (A:=yjP) (by kernel_rfl) (by kernel_rfl) (fun a0 a1 r0=>show _=_ by kernel_rfl)
def yc3 (a0:Int) (r0:Bool):Prop:=
 (!(a0==a0))=r0
def ygm:Sp KK:=⟨67,[.v 2],[4],appW (K:=KK) [4] [.v 2] yc3⟩
def yjS:An KK:=(.s .o (.s .o .o))
def yjJ:Cf KK:=⟨CC,[],[],6,[],none,false⟩
theorem yjW:SpOk Try.prog CC ygm:=yay (F:=yjJ) (ps:= [.v 2]) (rs:= [4]) (w:=yc3) ybg yaE yaD t67 (A:=yjS) (by kernel_rfl) (by kernel_rfl) (fun a0 r0=>show _=_ by kernel_rfl)
def ycC (a0 a1 r0:Int):Prop:=
 ∃z1,(yc3 a0 z1)/\∃z2,(yc3 a1 z2)/\cnd z1 (cnd z2 ((0:Int)=r0) ((-1:Int)=r0)) (cnd z2 ((1:Int)=r0) (cnd (decide (a0<a1)) ((-1:Int)=r0) (cnd (decide (a1<a0)) ((1:Int)=r0) ((0:Int)=r0))))
def yfj:Sp KK:=⟨54,[.v 2, .v 2],[3],appW (K:=KK) [3] [.v 2, .v 2] ycC⟩
def yiA:An KK:=(.s .o (.s .o (.s .o (.s (.s .o (.c (.s (.s .o (.c (.s .o .o) .o)) (.s .o .o)) .o)) (.s (.s .o (.c (.s .o .o) .o)) (.s (.s .o (.c (.s .o .o) .o)) (.s (.s .o (.c (.s .o .o) .o)) (.s .o .o))))))))
def yiv:Cf KK:=⟨CC,[ygm],[],20,[],none,false⟩
theorem yiD:SpOk Try.prog CC yfj:=yay (F:=yiv) (ps:= [.v 2, .v 2]) (rs:= [3]) (w:=ycC) ybg (yas yjW yaE) yaD t54 (A:=yiA) (by kernel_rfl) (by kernel_rfl) (fun a0 a1 r0=>show _=_ by kernel_rfl)
def ycR (a0:Str) (r0:Bool):Prop:=
 (!(a0==a0))=r0
def yfv:Sp KK:=⟨68,[.v 9],[4],appW (K:=KK) [4] [.v 9] ycR⟩
def yi8:An KK:=(.s .o (.s .o .o))
def yi7:Cf KK:=⟨CC,[],[],6,[],none,false⟩
theorem yjj:SpOk Try.prog CC yfv:=yay (F:=yi7) (ps:= [.v 9]) (rs:= [4]) (w:=ycR) ybg yaE yaD t68 (A:=yi8) (by kernel_rfl) (by kernel_rfl) (fun a0 r0=>show _=_ by kernel_rfl)
def yct (a0 a1:Str) (r0:Int):Prop:=
 ∃z1,(ycR a0 z1)/\∃z2,(ycR a1 z2)/\cnd z1 (cnd z2 ((0:Int)=r0) ((-1:Int)=r0)) (cnd z2 ((1:Int)=r0) (cnd (Op.bytesLess a0 a1) ((-1:Int)=r0) (cnd (!(Op.bytesLess a0 a1||a0==a1)) ((1:Int)=r0) ((0:Int)=r0))))
def yeZ:Sp KK:=⟨55,[.v 9, .v 9],[3],appW (K:=KK) [3] [.v 9, .v 9] yct⟩
def yhP:An KK:=(.s .o (.s .o (.s .o (.s (.s .o (.c (.s (.s .o (.c (.s .o .o) .o)) (.s .o .o)) .o)) (.s (.s .o (.c (.s .o .o) .o)) (.s (.s .o (.c (.s .o .o) .o)) (.s (.s .o (.c (.s .o .o) .o)) (.s .o .o))))))))
def yh3:Cf KK:=⟨CC,[yfv],[],20,[],none,false⟩
theorem yh8:SpOk Try.prog CC yeZ:=yay (F:=yh3) (ps:= [.v 9, .v 9]) (rs:= [3]) (w:=yct) ybg (yas yjj yaE) yaD t55 (A:=yhP) (by kernel_rfl) (by kernel_rfl) (fun a0 a1 r0=>show _=_ by kernel_rfl)
def yoy (a0:List Int) (r0:Int) (X1:Int→Prop) (x1:Int):Prop:=
 cnd (decide (x1<(a0.length:Int))) ((0<=x1)/\(x1<(a0.length:Int))/\∃y2:Int,(a0[x1.toNat]? =some y2)/\cnd (!(y2==(0:Int))) (y2=r0) (X1 (IntKind.i64.wrap (x1+(1:Int))))) ((0:Int)=r0)
def ye4 (a0:List Int) (r0:Int):Prop:=
 (a0.length<=maxLen->∀X1:Int->Prop,(∀x1,yoy a0 r0 X1 x1->X1 x1)->X1 (0:Int))
def yjD:Sp KK:=⟨52,[.v 125],[3],appW (K:=KK) [3] [.v 125] ye4⟩
def yob:An KK:=(.s .o (.s .o (.s (.s .o (.b (.l ⟨[(3, .kp 5),(6, .kp 6),(7, .kp 7),(8, .it .i64)],[],[]⟩ (fun _=>(.s .o (.s (.c .o .o) (.s (.b (.s .o (.s .o (.c (.s .o .o) .o)))) .o))))))) (.s .o .o))))
def yoN:Cf KK:=⟨CC,[],[],18,[],none,false⟩
theorem ypi:SpOk Try.prog CC yjD:=yay (F:=yoN) (ps:= [.v 125]) (rs:= [3]) (w:=ye4) ybg yaE yaD t52 (A:=yob) (by kernel_rfl) (by kernel_rfl) (fun a0 r0=>show _=_ by kernel_rfl)
def ybK (a0 a1:yad) (r0:Int):Prop:=
 ∃z1,(ydb a0.Kind a1.Kind z1)/\∃z2,(ycC a0.N a1.N z2)/\∃z3,(yct a0.S a1.S z3)/\∃z4,(ye4 ([z1,z2,z3]:List Int) z4)/\z4=r0
def yfb:Sp KK:=⟨35,[.v 61, .v 61],[3],appW (K:=KK) [3] [.v 61, .v 61] ybK⟩
def ylC:An KK:=(.s .o (.s .o .o))
def ylt:Cf KK:=⟨CC,[ygh,yfj,yeZ,yjD],[],22,[],none,false⟩
theorem yhq:SpOk Try.prog CC yfb:=yay (F:=ylt) (ps:= [.v 61, .v 61]) (rs:= [3]) (w:=ybK) ybg (yas yjs (yas yiD (yas yh8 (yas ypi yaE)))) yaD t35 (A:=ylC) (by kernel_rfl) (by kernel_rfl) (fun a0 a1 r0=>show _=_ by kernel_rfl)
def yfL (a0 a1:yag) (z1:yaj) (x2 x3:Int) (x4:Str) (r0:yag) (x5 x6:Int) (x7:Str):Prop:=
 (⟨IntKind.i64.wrap (a0.N+a1.N),z1,(⟨x2,x3,x4⟩:yad),(⟨x5,x6,x7⟩:yad)⟩:yag)=r0
def yfK (a0 a1:yag) (z1:yaj) (r0:yag) (x2 x3:Int) (x4:Str):Prop:=
 ∀J2:Int->Int->Str->Prop,(∀x5 x6 x7,yfL a0 a1 z1 x2 x3 x4 r0 x5 x6 x7->J2 x5 x6 x7)->∃z8,(ybK (⟨a1.Max.Kind,a1.Max.N,a1.Max.S⟩:yad) (⟨a0.Max.Kind,a0.Max.N,a0.Max.S⟩:yad) z8)/\cnd (decide ((0:Int)<z8)) (J2 a1.Max.Kind a1.Max.N a1.Max.S) (J2 a0.Max.Kind a0.Max.N a0.Max.S)
def ych (a0 a1 r0:yag):Prop:=
 cnd (a0.N==(0:Int)) ((⟨a1.N,(⟨a1.Sum.Hi,a1.Sum.Lo⟩:yaj),(⟨a1.Min.Kind,a1.Min.N,a1.Min.S⟩:yad),(⟨a1.Max.Kind,a1.Max.N,a1.Max.S⟩:yad)⟩:yag)=r0) (cnd (a1.N==(0:Int)) ((⟨a0.N,(⟨a0.Sum.Hi,a0.Sum.Lo⟩:yaj),(⟨a0.Min.Kind,a0.Min.N,a0.Min.S⟩:yad),(⟨a0.Max.Kind,a0.Max.N,a0.Max.S⟩:yad)⟩:yag)=r0) (∃z1,(yfY ([(⟨a0.Sum.Hi,a0.Sum.Lo⟩:yaj),(⟨a1.Sum.Hi,a1.Sum.Lo⟩:yaj)]:List yaj) z1)/\∀J1:Int->Int->Str->Prop,(∀x2 x3 x4,yfK a0 a1 z1 r0 x2 x3 x4->J1 x2 x3 x4)->∃z9,(ybK (⟨a1.Min.Kind,a1.Min.N,a1.Min.S⟩:yad) (⟨a0.Min.Kind,a0.Min.N,a0.Min.S⟩:yad) z9)/\cnd (decide (z9<(0:Int))) (J1 a1.Min.Kind a1.Min.N a1.Min.S) (J1 a0.Min.Kind a0.Min.N a0.Min.S)))
def yb9 (a0 a1 r0:yag) (x2 x3:Int) (x4:Str) (z1:yaj) (x5 x6:Int) (x7:Str):Prop:=
 (⟨IntKind.i64.wrap (a0.N+a1.N),z1,(⟨x2,x3,x4⟩:yad),(⟨x5,x6,x7⟩:yad)⟩:yag)=r0
def ycH (a0 a1 r0:yag) (z1:yaj) (x2 x3:Int) (x4:Str):Prop:=
 ∃z8,(ybK (⟨a1.Max.Kind,a1.Max.N,a1.Max.S⟩:yad) (⟨a0.Max.Kind,a0.Max.N,a0.Max.S⟩:yad) z8)/\cnd (decide ((0:Int)<z8)) (yb9 a0 a1 r0 x2 x3 x4 z1 a1.Max.Kind a1.Max.N a1.Max.S) (yb9 a0 a1 r0 x2 x3 x4 z1 a0.Max.Kind a0.Max.N a0.Max.S)
def yfH (a0 a1 r0:yag):Prop:=
 cnd (a0.N==(0:Int)) ((⟨a1.N,(⟨a1.Sum.Hi,a1.Sum.Lo⟩:yaj),(⟨a1.Min.Kind,a1.Min.N,a1.Min.S⟩:yad),(⟨a1.Max.Kind,a1.Max.N,a1.Max.S⟩:yad)⟩:yag)=r0) (cnd (a1.N==(0:Int)) ((⟨a0.N,(⟨a0.Sum.Hi,a0.Sum.Lo⟩:yaj),(⟨a0.Min.Kind,a0.Min.N,a0.Min.S⟩:yad),(⟨a0.Max.Kind,a0.Max.N,a0.Max.S⟩:yad)⟩:yag)=r0) (∃z1,(yfY ([(⟨a0.Sum.Hi,a0.Sum.Lo⟩:yaj),(⟨a1.Sum.Hi,a1.Sum.Lo⟩:yaj)]:List yaj) z1)/\∃z9,(ybK (⟨a1.Min.Kind,a1.Min.N,a1.Min.S⟩:yad) (⟨a0.Min.Kind,a0.Min.N,a0.Min.S⟩:yad) z9)/\cnd (decide (z9<(0:Int))) (ycH a0 a1 r0 z1 a1.Min.Kind a1.Min.N a1.Min.S) (ycH a0 a1 r0 z1 a0.Min.Kind a0.Min.N a0.Min.S)))
theorem yky (a0 a1 r0:yag) (x2 x3:Int) (x4:Str) (z1:yaj) {x5 x6:Int} {x7:Str} (h:yb9 a0 a1 r0 x2 x3 x4 z1 x5 x6 x7):yfL a0 a1 z1 x2 x3 x4 r0 x5 x6 x7:=by
 unfold yfL
 unfold yb9 at h
 exact h
theorem ykf (a0 a1 r0:yag) (z1:yaj) {x2 x3:Int} {x4:Str} (h:ycH a0 a1 r0 z1 x2 x3 x4):yfK a0 a1 z1 r0 x2 x3 x4:=by
 unfold yfK
 unfold ycH at h
 intro J2 kJ2
 have hJ2:∀x5 x6 x7,yb9 a0 a1 r0 x2 x3 x4 z1 x5 x6 x7->J2 x5 x6 x7:=fun x5 x6 x7 q=>kJ2 x5 x6 x7 (yky a0 a1 r0 x2 x3 x4 z1 q)
 obtain ⟨z8,h⟩:=h
 refine ⟨z8,?_⟩
 obtain ⟨h0,h⟩:=h
 refine ⟨h0,?_⟩
 refine yak h (fun h=> ?_) (fun h=> ?_)
 ·exact hJ2 _ _ _ h
 ·exact hJ2 _ _ _ h
theorem ynn (a0 a1 r0:yag) (h:yfH a0 a1 r0):ych a0 a1 r0:=by
 unfold ych
 unfold yfH at h
 refine yak h (fun h=> ?_) (fun h=> ?_)
 ·exact h
 ·refine yak h (fun h=> ?_) (fun h=> ?_)
  ·exact h
  ·obtain ⟨z1,h⟩:=h
   refine ⟨z1,?_⟩
   obtain ⟨h0,h⟩:=h
   refine ⟨h0,?_⟩
   intro J1 kJ1
   have hJ1:∀x2 x3 x4,ycH a0 a1 r0 z1 x2 x3 x4->J1 x2 x3 x4:=fun x2 x3 x4 q=>kJ1 x2 x3 x4 (ykf a0 a1 r0 z1 q)
   obtain ⟨z9,h⟩:=h
   refine ⟨z9,?_⟩
   obtain ⟨h0,h⟩:=h
   refine ⟨h0,?_⟩
   refine yak h (fun h=> ?_) (fun h=> ?_)
   ·exact hJ1 _ _ _ h
   ·exact hJ1 _ _ _ h
def yhC:Sp KK:=⟨36,[.v 69, .v 69],[69],appW (K:=KK) [69] [.v 69, .v 69] ych⟩
def ym3:An KK:=(.s .o (.s (.b (.s .o (.c (.s .o .o) (.s .o (.c (.s .o .o) .o))))) (.s .o (.j ⟨[(3, .px 3 0),(4, .px 4 0),(5, .px 5 0)],[(3,69,(kps 1 9)),(4,69,(kps 10 9)),(5,69,[.kp 19, .kp 20, .kp 21, .it .i64, .it .i64, .st, .kp 22, .kp 23, .kp 24])],[]⟩ (.s .o (.c .o .o)) (fun _=>(.j ⟨[(4, .px 4 0),(5, .px 5 0)],[(4,69,(kps 10 9)),(5,69,[.kp 19, .kp 20, .kp 21, .kp 25, .kp 26, .kp 27, .it .i64, .it .i64, .st])],[]⟩ (.s .o (.c .o .o)) (fun _=>(.s .o .o))))))))
def ymW:Cf KK:=⟨CC,[ykX,yfb],[],51,[],none,false⟩
theorem ymg:SpOk Try.prog CC yhC:=yay (F:=ymW) (ps:= [.v 69, .v 69]) (rs:= [69]) (w:=ych) ybg (yas yqh (yas yhq yaE)) yaD t36 (A:=ym3) (by kernel_rfl) (by kernel_rfl) (fun a0 a1 r0=>show _=_ by kernel_rfl)
def yrC (a1 a0 r0:yae) (X1:Int→(List yag)→Prop) (x1:Int) (x2:List yag):Prop:=
 cnd (decide (x1<(if (a1.L.length:Int)<(a0.L.length:Int) then (a1.L.length:Int) else (a0.L.length:Int)))) ((0<=x1)/\(x1<(a0.L.length:Int))/\∃y3:yag,(a0.L[x1.toNat]? =some y3)/\(0<=x1)/\(x1<(a1.L.length:Int))/\∃y4:yag,(a1.L[x1.toNat]? =some y4)/\∃z5,(ych (⟨y3.N,(⟨y3.Sum.Hi,y3.Sum.Lo⟩:yaj),(⟨y3.Min.Kind,y3.Min.N,y3.Min.S⟩:yad),(⟨y3.Max.Kind,y3.Max.N,y3.Max.S⟩:yad)⟩:yag) (⟨y4.N,(⟨y4.Sum.Hi,y4.Sum.Lo⟩:yaj),(⟨y4.Min.Kind,y4.Min.N,y4.Min.S⟩:yad),(⟨y4.Max.Kind,y4.Max.N,y4.Max.S⟩:yad)⟩:yag) z5)/\(x2.length<=1000000000)/\X1 (IntKind.i64.wrap (x1+(1:Int))) (x2++([(⟨z5.N,(⟨z5.Sum.Hi,z5.Sum.Lo⟩:yaj),(⟨z5.Min.Kind,z5.Min.N,z5.Min.S⟩:yad),(⟨z5.Max.Kind,z5.Max.N,z5.Max.S⟩:yad)⟩:yag)]:List yag))) ((⟨IntKind.i64.wrap (a0.Rows+a1.Rows),x2⟩:yae)=r0)
def ycI (a0 a1 r0:yae):Prop:=
 (a0.L.length<=maxLen->(a1.L.length<=maxLen->∀X1:Int->(List yag)->Prop,(∀x1 x2,yrC a1 a0 r0 X1 x1 x2->X1 x1 x2)->X1 (0:Int) ([]:List yag)))
def yg1:Sp KK:=⟨15,[.v 32, .v 32],[32],appW (K:=KK) [32] [.v 32, .v 32] ycI⟩
def yrv:An KK:=(.s .o (.s .o (.s (.s .o (.b (.l ⟨[(2, .px 2 0),(3, .px 3 0),(4, .px 4 0),(5, .px 5 0),(19, .kp 11),(20, .it .i64)],[(2,32,[.kp 13, .kp 14]),(3,32,[.kp 15, .kp 16]),(4,32,[.kp 17, .kp 18]),(5,32,[.kp 19, .row 37])],[(37,69)]⟩ (fun _=>(.s .o (.s (.c .o .o) (.s (.b (.s .o .o)) .o))))))) (.s .o .o))))
def ysq:Cf KK:=⟨CC,[yhC],[],41,[],none,false⟩
theorem yiY:SpOk Try.prog CC yg1:=yay (F:=ysq) (ps:= [.v 32, .v 32]) (rs:= [32]) (w:=ycI) ybg (yas ymg yaE) yaD t15 (A:=yrv) (by kernel_rfl) (by kernel_rfl) (fun a0 a1 r0=>show _=_ by kernel_rfl)
def ycV (a0:yaj) (r0:Int) (r1:Bool):Prop:=
 ∃z1,(yf8 (IntKind.i64.wrap a0.Lo) z1)/\cnd (!((z1.Hi==a0.Hi)&&((z1.Lo==a0.Lo)&&true))) ((0:Int)=r0/\false=r1) ((IntKind.i64.wrap a0.Lo)=r0/\true=r1)
def yhi:Sp KK:=⟨38,[.v 67],[2,4],appW (K:=KK) [2,4] [.v 67] ycV⟩
def ylu:An KK:=(.s .o (.s .o (.s (.s .o (.c (.s .o .o) .o)) (.s .o .o))))
def yls:Cf KK:=⟨CC,[ykl],[],13,[],none,false⟩
theorem yln:SpOk Try.prog CC yhi:=yay (F:=yls) (ps:= [.v 67]) (rs:= [2,4]) (w:=ycV) ybg (yas ynO yaE) yaD t38 (A:=ylu) (by kernel_rfl) (by kernel_rfl) (fun a0 r0 r1=>show _=_ by kernel_rfl)
def yaP (a0:yae) (a1 a2:Int) (r0:yad) (r1:Int):Prop:=
 cnd (decide (a2<(0:Int))) (∃z1,(yaO a0.Rows z1)/\z1=r0/\(0:Int)=r1) ((0<=a2)/\(a2<(a0.L.length:Int))/\∃y2:yag,(a0.L[a2.toNat]? =some y2)/\cnd (a1==(1:Int)) (∃z3,(yaO y2.N z3)/\z3=r0/\(0:Int)=r1) (cnd (a1==(3:Int)) ((⟨y2.Min.Kind,y2.Min.N,y2.Min.S⟩:yad)=r0/\(0:Int)=r1) (cnd (a1==(4:Int)) ((⟨y2.Max.Kind,y2.Max.N,y2.Max.S⟩:yad)=r0/\(0:Int)=r1) (cnd (y2.N==(0:Int)) ((⟨(0:Int),(0:Int),([]:Str)⟩:yad)=r0/\(0:Int)=r1) (∃z4 z5,(ycV (⟨y2.Sum.Hi,y2.Sum.Lo⟩:yaj) z4 z5)/\cnd (!z5) ((⟨(0:Int),(0:Int),([]:Str)⟩:yad)=r0/\(8:Int)=r1) (∃z6,(yaO z4 z6)/\z6=r0/\(0:Int)=r1))))))
def yez:Sp KK:=⟨18,[.v 32, .v 3, .v 3],[61,52],appW (K:=KK) [61,52] [.v 32, .v 3, .v 3] yaP⟩
def ykp:An KK:=(.s .o (.s (.s .o (.c (.s .o .o) .o)) (.s .o (.s (.s .o (.b (.s .o (.c (.s .o .o) (.s .o (.c (.s .o .o) (.s .o (.c (.s .o .o) .o)))))))) (.s (.s .o (.c (.s .o .o) .o)) (.s .o (.s (.s .o (.c (.s .o .o) .o)) (.s .o .o))))))))
def ykg:Cf KK:=⟨CC,[ydp,yhi],[],50,[],none,false⟩
theorem ygN:SpOk Try.prog CC yez:=yay (F:=ykg) (ps:= [.v 32, .v 3, .v 3]) (rs:= [61,52]) (w:=yaP) ybg (yas yeO (yas yln yaE)) yaD t18 (A:=ykp) (by kernel_rfl) (by kernel_rfl) (fun a0 a1 a2 r0 r1=>show _=_ by kernel_rfl)
def yfx (r0 x9:Bool):Prop:=
 x9=r0
def ycm (r0:Bool):Prop:=
 ∃z1,(yaO (1:Int) z1)/\∃z2,(ydC ([z1]:List yad) z2)/\∃z3,(ydC ([(⟨(0:Int),(0:Int),([]:Str)⟩:yad)]:List yad) z3)/\∃z4,(ycI z2 z3 z4)/\∃z5 z6,(yaP z4 (2:Int) (0:Int) z5 z6)/\∃z7 z8,(yaP z4 (1:Int) (-1:Int) z7 z8)/\∀J1:Bool->Prop,(∀x9,yfx r0 x9->J1 x9)->cnd (z6==(0:Int)) (cnd (z8==(0:Int)) (∃z10,(yaO (1:Int) z10)/\cnd ((z5.Kind==z10.Kind)&&((z5.N==z10.N)&&((z5.S==z10.S)&&true))) (cnd (z5.Kind==(2:Int)) (∃z11,(yaO (2:Int) z11)/\cnd ((z7.Kind==z11.Kind)&&((z7.N==z11.N)&&((z7.S==z11.S)&&true))) ((0<=(0:Int))/\((0:Int)<(z4.L.length:Int))/\∃y12:yag,(z4.L[(0:Int).toNat]? =some y12)/\J1 (y12.N==(1:Int))) (J1 false)) (J1 false)) (J1 false)) (J1 false)) (J1 false)
def ybh (r0 x9:Bool):Prop:=
 x9=r0
def yhY (r0:Bool):Prop:=
 ∃z1,(yaO (1:Int) z1)/\∃z2,(ydC ([z1]:List yad) z2)/\∃z3,(ydC ([(⟨(0:Int),(0:Int),([]:Str)⟩:yad)]:List yad) z3)/\∃z4,(ycI z2 z3 z4)/\∃z5 z6,(yaP z4 (2:Int) (0:Int) z5 z6)/\∃z7 z8,(yaP z4 (1:Int) (-1:Int) z7 z8)/\cnd (z6==(0:Int)) (cnd (z8==(0:Int)) (∃z10,(yaO (1:Int) z10)/\cnd ((z5.Kind==z10.Kind)&&((z5.N==z10.N)&&((z5.S==z10.S)&&true))) (cnd (z5.Kind==(2:Int)) (∃z11,(yaO (2:Int) z11)/\cnd ((z7.Kind==z11.Kind)&&((z7.N==z11.N)&&((z7.S==z11.S)&&true))) ((0<=(0:Int))/\((0:Int)<(z4.L.length:Int))/\∃y12:yag,(z4.L[(0:Int).toNat]? =some y12)/\ybh r0 (y12.N==(1:Int))) (ybh r0 false)) (ybh r0 false)) (ybh r0 false)) (ybh r0 false)) (ybh r0 false)
theorem ykx (r0:Bool) {x9:Bool} (h:ybh r0 x9):yfx r0 x9:=by
 unfold yfx
 unfold ybh at h
 exact h
theorem ynB (r0:Bool) (h:yhY r0):ycm r0:=by
 unfold ycm
 unfold yhY at h
 obtain ⟨z1,h⟩:=h
 refine ⟨z1,?_⟩
 obtain ⟨h0,h⟩:=h
 refine ⟨h0,?_⟩
 obtain ⟨z2,h⟩:=h
 refine ⟨z2,?_⟩
 obtain ⟨h0,h⟩:=h
 refine ⟨h0,?_⟩
 obtain ⟨z3,h⟩:=h
 refine ⟨z3,?_⟩
 obtain ⟨h0,h⟩:=h
 refine ⟨h0,?_⟩
 obtain ⟨z4,h⟩:=h
 refine ⟨z4,?_⟩
 obtain ⟨h0,h⟩:=h
 refine ⟨h0,?_⟩
 obtain ⟨z5,h⟩:=h
 refine ⟨z5,?_⟩
 obtain ⟨z6,h⟩:=h
 refine ⟨z6,?_⟩
 obtain ⟨h0,h⟩:=h
 refine ⟨h0,?_⟩
 obtain ⟨z7,h⟩:=h
 refine ⟨z7,?_⟩
 obtain ⟨z8,h⟩:=h
 refine ⟨z8,?_⟩
 obtain ⟨h0,h⟩:=h
 refine ⟨h0,?_⟩
 intro J1 kJ1
 have hJ1:∀x9,ybh r0 x9->J1 x9:=fun x9 q=>kJ1 x9 (ykx r0 q)
 refine yak h (fun h=> ?_) (fun h=> ?_)
 ·refine yak h (fun h=> ?_) (fun h=> ?_)
  ·obtain ⟨z10,h⟩:=h
   refine ⟨z10,?_⟩
   obtain ⟨h0,h⟩:=h
   refine ⟨h0,?_⟩
   refine yak h (fun h=> ?_) (fun h=> ?_)
   ·refine yak h (fun h=> ?_) (fun h=> ?_)
    ·obtain ⟨z11,h⟩:=h
     refine ⟨z11,?_⟩
     obtain ⟨h0,h⟩:=h
     refine ⟨h0,?_⟩
     refine yak h (fun h=> ?_) (fun h=> ?_)
     ·obtain ⟨h0,h⟩:=h
      refine ⟨h0,?_⟩
      obtain ⟨h0,h⟩:=h
      refine ⟨h0,?_⟩
      obtain ⟨y12,h⟩:=h
      refine ⟨y12,?_⟩
      obtain ⟨h0,h⟩:=h
      refine ⟨h0,?_⟩
      exact hJ1 _ h
     ·exact hJ1 _ h
    ·exact hJ1 _ h
   ·exact hJ1 _ h
  ·exact hJ1 _ h
 ·exact hJ1 _ h
def yhL:Sp KK:=⟨4,[],[4],appW (K:=KK) [4] [] ycm⟩
def ymw:An KK:=(.s .o (.s .o (.s .o (.s .o (.j ⟨[(0, .bl)],[],[]⟩ .o (fun _=> .o))))))
def ymV:Cf KK:=⟨CC,[ydp,yl8,yg1,yez],[],52,[],none,false⟩
theorem ym1:SpOk Try.prog CC yhL:=yay (F:=ymV) (ps:= []) (rs:= [4]) (w:=ycm) ybg (yas yeO (yas yqJ (yas yiY (yas ygN yaE)))) yaD t4 (A:=ymw) (by kernel_rfl) (by kernel_rfl) (fun r0=>show _=_ by kernel_rfl)
def yjk (a0:yax) (r0:yad) (r1:yab) (x1:Int) (x2:Str):Prop:=
 (⟨IntKind.i64.wrap (a0.Kind.tmod (4:Int)),x1,x2⟩:yad)=r0/\(⟨IntKind.i64.wrap (a0.Kind.tmod (4:Int)),x1,x2⟩:yab)=r1
def yeB (a0:yax) (r0:yad) (r1:yab):Prop:=
 ∀J1:Int->Str->Prop,(∀x1 x2,yjk a0 r0 r1 x1 x2->J1 x1 x2)->cnd ((IntKind.i64.wrap (a0.Kind.tmod (4:Int)))==(1:Int)) (J1 (bits .and .i64 a0.N (1:Int)) ([]:Str)) (cnd ((IntKind.i64.wrap (a0.Kind.tmod (4:Int)))==(2:Int)) (J1 a0.N ([]:Str)) (cnd ((IntKind.i64.wrap (a0.Kind.tmod (4:Int)))==(3:Int)) ((0<=(0:Int)/\(0:Int)<=(if (64:Int)<(a0.S.length:Int) then (64:Int) else (a0.S.length:Int))/\(if (64:Int)<(a0.S.length:Int) then (64:Int) else (a0.S.length:Int))<=(a0.S.length:Int))/\J1 (0:Int) ((a0.S.drop (0:Int).toNat).take ((if (64:Int)<(a0.S.length:Int) then (64:Int) else (a0.S.length:Int)).toNat-(0:Int).toNat))) (J1 (0:Int) ([]:Str))))
def ycx (a0:yax) (r0:yad) (r1:yab) (x1:Int) (x2:Str):Prop:=
 (⟨IntKind.i64.wrap (a0.Kind.tmod (4:Int)),x1,x2⟩:yad)=r0/\(⟨IntKind.i64.wrap (a0.Kind.tmod (4:Int)),x1,x2⟩:yab)=r1
def yg7 (a0:yax) (r0:yad) (r1:yab):Prop:=
 cnd ((IntKind.i64.wrap (a0.Kind.tmod (4:Int)))==(1:Int)) (ycx a0 r0 r1 (bits .and .i64 a0.N (1:Int)) ([]:Str)) (cnd ((IntKind.i64.wrap (a0.Kind.tmod (4:Int)))==(2:Int)) (ycx a0 r0 r1 a0.N ([]:Str)) (cnd ((IntKind.i64.wrap (a0.Kind.tmod (4:Int)))==(3:Int)) ((0<=(0:Int)/\(0:Int)<=(if (64:Int)<(a0.S.length:Int) then (64:Int) else (a0.S.length:Int))/\(if (64:Int)<(a0.S.length:Int) then (64:Int) else (a0.S.length:Int))<=(a0.S.length:Int))/\ycx a0 r0 r1 (0:Int) ((a0.S.drop (0:Int).toNat).take ((if (64:Int)<(a0.S.length:Int) then (64:Int) else (a0.S.length:Int)).toNat-(0:Int).toNat))) (ycx a0 r0 r1 (0:Int) ([]:Str))))
theorem ypB (a0:yax) (r0:yad) (r1:yab) {x1:Int} {x2:Str} (h:ycx a0 r0 r1 x1 x2):yjk a0 r0 r1 x1 x2:=by
 unfold yjk
 unfold ycx at h
 exact h
theorem yuG (a0:yax) (r0:yad) (r1:yab) (h:yg7 a0 r0 r1):yeB a0 r0 r1:=by
 unfold yeB
 unfold yg7 at h
 intro J1 kJ1
 have hJ1:∀x1 x2,ycx a0 r0 r1 x1 x2->J1 x1 x2:=fun x1 x2 q=>kJ1 x1 x2 (ypB a0 r0 r1 q)
 refine yak h (fun h=> ?_) (fun h=> ?_)
 ·exact hJ1 _ _ h
 ·refine yak h (fun h=> ?_) (fun h=> ?_)
  ·exact hJ1 _ _ h
  ·refine yak h (fun h=> ?_) (fun h=> ?_)
   ·obtain ⟨h0,h⟩:=h
    refine ⟨h0,?_⟩
    exact hJ1 _ _ h
   ·exact hJ1 _ _ h
def ymr:Sp KK:=⟨19,[.v 42],[61,70],appW (K:=KK) [61,70] [.v 42] yeB⟩
def yrt:An KK:=(.s .o (.s .o (.j ⟨[(2, .px 2 0),(3, .px 3 0),(4, .px 4 0)],[(2,61,[.kp 1, .kp 2, .kp 3]),(3,70,[.kp 4, .kp 5, .kp 6]),(4,70,[.kp 7, .it .i64, .st])],[]⟩ (.s .o (.b (.s .o (.c .o (.s .o (.c .o (.s .o (.c .o .o)))))))) (fun _=>(.s .o .o)))))
def yro:Cf KK:=⟨CC,[],[],35,[],none,false⟩
theorem ysF:SpOk Try.prog CC ymr:=yay (F:=yro) (ps:= [.v 42]) (rs:= [61,70]) (w:=yeB) ybg yaE yaD t19 (A:=yrt) (by kernel_rfl) (by kernel_rfl) (fun a0 r0 r1=>show _=_ by kernel_rfl)
def ye1 (a0:yau) (r0:yaa) (r1:yac):Prop:=
 ∃z1 z2,(yeB (⟨a0.A.Kind,a0.A.N,a0.A.S⟩:yax) z1 z2)/\∃z3 z4,(yeB (⟨a0.B.Kind,a0.B.N,a0.B.S⟩:yax) z3 z4)/\∃z5,(yaO (IntKind.i64.wrap (a0.Group.tmod (4:Int))) z5)/\∃z6,(ydC ([z1,z3]:List yad) z6)/\(⟨([z5]:List yad),z6⟩:yaa)=r0/\(⟨([(⟨(2:Int),IntKind.i64.wrap (a0.Group.tmod (4:Int)),([]:Str)⟩:yab)]:List yab),([z2,z4]:List yab)⟩:yac)=r1
def yjU:Sp KK:=⟨5,[.v 44],[34,38],appW (K:=KK) [34,38] [.v 44] ye1⟩
def yon:An KK:=(.s .o (.s .o (.s .o (.s .o (.s .o .o)))))
def yoJ:Cf KK:=⟨CC,[ymr,ydp,yl8],[],40,[],none,false⟩
theorem yoR:SpOk Try.prog CC yjU:=yay (F:=yoJ) (ps:= [.v 44]) (rs:= [34,38]) (w:=ye1) ybg (yas ysF (yas yeO (yas yqJ yaE))) yaD t5 (A:=yon) (by kernel_rfl) (by kernel_rfl) (fun a0 r0 r1=>show _=_ by kernel_rfl)
def yfR (a0 a1:List yad) (r0:Int) (g2:yad→yad→Int→Prop) (X1:Int→Prop) (x1:Int):Prop:=
 cnd (decide (x1<(a0.length:Int))) ((0<=x1)/\(x1<(a0.length:Int))/\∃y2:yad,(a0[x1.toNat]? =some y2)/\(a1.length<=maxLen->cnd (decide ((a1.length:Int)<=x1)) ((1:Int)=r0) ((0<=x1)/\(x1<(a1.length:Int))/\∃y3:yad,(a1[x1.toNat]? =some y3)/\∃z4,(g2 y2 y3 z4)/\cnd (!(z4==(0:Int))) (z4=r0) (X1 (IntKind.i64.wrap (x1+(1:Int))))))) ((a0.length<=maxLen->(a1.length<=maxLen->cnd (decide ((a0.length:Int)<(a1.length:Int))) ((-1:Int)=r0) ((0:Int)=r0))))
def yb4 (a0 a1:List yad) (g2:yad→yad→Int→Prop) (r0:Int):Prop:=
 (a0.length<=maxLen->∀X1:Int->Prop,(∀x1,yfR a0 a1 r0 g2 X1 x1->X1 x1)->X1 (0:Int))
def ycY:Sp KK:=⟨34,[.v 29, .v 29, .f [61,61] [3]],[3],appW (K:=KK) [3] [.v 29, .v 29, .f [61,61] [3]] yb4⟩
def yfF:An KK:=(.s .o (.s (.s .o (.b (.l ⟨[(0, .kp 7),(1, .kp 8),(2, .kp 9),(11, .kp 10),(12, .kp 11),(13, .it .i64)],[],[]⟩ (fun _=>(.s .o (.s (.c .o .o) (.s (.b (.s .o (.s (.s .o (.c (.s .o .o) .o)) (.s .o (.s .o (.s .o (.c (.s .o .o) .o))))))) .o))))))) (.s (.s .o (.c (.s .o .o) .o)) (.s .o .o))))
def yfP:Cf KK:=⟨CC,[],[],39,[],none,false⟩
theorem yf3:SpOk Try.prog CC ycY:=yay (F:=yfP) (ps:= [.v 29, .v 29, .f [61,61] [3]]) (rs:= [3]) (w:=yb4) ybg yaE yaD t34 (A:=yfF) (by kernel_rfl) (by kernel_rfl) (fun a0 a1 F2 r0=>show _=_ by kernel_rfl)
def ycd (a0 a1:List yad) (r0:Int):Prop:=
 ∃z1,(yb4 a0 a1 ybK z1)/\z1=r0
def yeR:Sp KK:=⟨13,[.v 29, .v 29],[3],appW (K:=KK) [3] [.v 29, .v 29] ycd⟩
def yng:An KK:=(.s .o (.s .o .o))
def ynG:Cf KK:=⟨CC,[yfb,ycY],[],8,[],none,false⟩
theorem ygv:SpOk Try.prog CC yeR:=yay (F:=ynG) (ps:= [.v 29, .v 29]) (rs:= [3]) (w:=ycd) ybg (yas yhq (yas yf3 yaE)) yaD t13 (A:=yng) (by kernel_rfl) (by kernel_rfl) (fun a0 a1 r0=>show _=_ by kernel_rfl)
def yem (a0 a1:yaa) (r0:Int):Prop:=
 ∃z1,(ycd a0.Row a1.Row z1)/\z1=r0
def yiL:Sp KK:=⟨22,[.v 34, .v 34],[3],appW (K:=KK) [3] [.v 34, .v 34] yem⟩
def ynm:An KK:=(.s .o (.s .o .o))
def ynf:Cf KK:=⟨CC,[yeR],[],10,[],none,false⟩
theorem ynj:SpOk Try.prog CC yiL:=yay (F:=ynf) (ps:= [.v 34, .v 34]) (rs:= [3]) (w:=yem) ybg (yas ygv yaE) yaD t22 (A:=ynm) (by kernel_rfl) (by kernel_rfl) (fun a0 a1 r0=>show _=_ by kernel_rfl)
def ybd (a0:Int) (r0:List yaa):Prop:=
 cnd (decide (a0<(0:Int))) (False) (cnd (decide ((0:Int)<(IntKind.i64.wrap (a0-(IntKind.i64.wrap ((0:Int)-(0:Int))))))) ((0<=(0:Int)/\(0:Int)<=(0:Int)/\(0:Int)<=0)/\(0<(IntKind.i64.wrap (a0-(IntKind.i64.wrap ((0:Int)-(0:Int))))))/\(56*(IntKind.i64.wrap (a0-(IntKind.i64.wrap ((0:Int)-(0:Int))))).toNat<=140737488355328)/\((IntKind.i64.wrap (a0-(IntKind.i64.wrap ((0:Int)-(0:Int)))))<=1000000000)/\(0<=(0:Int)/\(0:Int)<=((List.replicate (IntKind.i64.wrap (a0-(IntKind.i64.wrap ((0:Int)-(0:Int))))).toNat (⟨([]:List yad),(⟨(0:Int),([]:List yag)⟩:yae)⟩:yaa)).length:Int))/\((List.replicate (IntKind.i64.wrap (a0-(IntKind.i64.wrap ((0:Int)-(0:Int))))).toNat (⟨([]:List yad),(⟨(0:Int),([]:List yag)⟩:yae)⟩:yaa)).take (0:Int).toNat)=r0) (([]:List yaa)=r0))
def ybS:Sl KK:=⟨39,[],⟨[(0, .nil),(1, .it .i64)],[],[]⟩,⟨[(4, .row 1000000)],[],[(1000000,34)]⟩,[],[(4,none)],false,fun _ _ _=>True⟩
def ybP:Sl KK:=⟨39,[],⟨[(0, .nil),(1, .it .i64)],[],[]⟩,⟨[(4, .row 1000000)],[],[(1000000,34)]⟩,[],[(4,none)],false,apFs (K:=KK) (ctT ybS.ti) (ctT ybS.te) [] ybd⟩
def yg2:An KK:=(.s .o (.s (.s .o (.c .o .o)) (.s (.s .o (.s .o (.c .o .o))) (.s .o .o))))
def yg8:Cf KK:=⟨CC,[],[],27,[],none,false⟩
theorem yhd:SlOk Try.prog CC ybP:=by
 intro fs env out hl hF hW
 obtain ⟨rfl,h0⟩:=yj1 hW
 obtain ⟨a0,ea0,rfl,h1⟩:=ycQ h0
 obtain ⟨rfl,h2⟩:=yj8 h1
 obtain ⟨r0,er0,rfl,h3⟩:=yhc h2
 obtain ⟨rfl,h4⟩:=yg9 h3
 show SlC Try.prog CC ybP [] [.i a0] [.l 34 r0]
 rw[show SlC Try.prog CC ybP [] [.i a0] [.l 34 r0]=SlC Try.prog CC ybS [] [.i a0] [.l 34 r0] by kernel_rfl]
 exact yk6 (F:=yg8) ybg yaE yaD t39 (A:=yg2) (sp:=ybS) rfl (by kernel_rfl) (by kernel_rfl) (Nat.le_of_ble_eq_true (by kernel_rfl)) (fs:= []) (env:= [.i a0]) (out:= [.l 34 r0]) (by kernel_rfl) hF (X:=ybd a0 r0) h4 (by kernel_rfl)
def ycl (a0:List (List yaa)) (r0:List yaa) (X2:Int→(List yaa)→Prop) (x5:Int) (x6:List yaa):Prop:=
 cnd (decide (x5<(a0.length:Int))) ((0<=x5)/\(x5<(a0.length:Int))/\∃y7:(List yaa),(a0[x5.toNat]? =some y7)/\(x6.length<=1000000000)/\(y7.length<=400000000)/\X2 (IntKind.i64.wrap (x5+(1:Int))) (x6++y7)) (x6=r0)
def yck (a0:List (List yaa)) (r0:List yaa) (X1:Int→Int→Prop) (x1 x2:Int):Prop:=
 cnd (decide (x2<(a0.length:Int))) ((0<=x2)/\(x2<(a0.length:Int))/\∃y3:(List yaa),(a0[x2.toNat]? =some y3)/\(y3.length<=maxLen->cnd (decide ((IntKind.i64.wrap (x1+(y3.length:Int)))<(0:Int))) (False) (X1 (IntKind.i64.wrap (x1+(y3.length:Int))) (IntKind.i64.wrap (x2+(1:Int)))))) (∃z4,(ybd x1 z4)/\(a0.length<=maxLen->∀X2:Int->(List yaa)->Prop,(∀x5 x6,ycl a0 r0 X2 x5 x6->X2 x5 x6)->X2 (0:Int) z4))
def yaQ (a0:List (List yaa)) (r0:List yaa):Prop:=
 (a0.length<=maxLen->∀X1:Int->Int->Prop,(∀x1 x2,yck a0 r0 X1 x1 x2->X1 x1 x2)->X1 (0:Int) (0:Int))
def yb3 (a0:List (List yaa)) (r0:List yaa) (X2:Int→(List yaa)→Prop) (x5:Int) (x6:List yaa):Prop:=
 cnd (decide (x5<(a0.length:Int))) ((0<=x5)/\(x5<(a0.length:Int))/\∃y7:(List yaa),(a0[x5.toNat]? =some y7)/\(x6.length<=1000000000)/\(y7.length<=400000000)/\X2 (IntKind.i64.wrap (x5+(1:Int))) (x6++y7)) (x6=r0)
def yb5 (a0:List (List yaa)) (r0:List yaa) (X1:Int→Int→Prop) (x1 x2:Int):Prop:=
 cnd (decide (x2<(a0.length:Int))) ((0<=x2)/\(x2<(a0.length:Int))/\∃y3:(List yaa),(a0[x2.toNat]? =some y3)/\(y3.length<=maxLen->cnd (decide ((IntKind.i64.wrap (x1+(y3.length:Int)))<(0:Int))) (False) (X1 (IntKind.i64.wrap (x1+(y3.length:Int))) (IntKind.i64.wrap (x2+(1:Int)))))) (∃z4,(ybd x1 z4)/\(a0.length<=maxLen->∀X2:Int->(List yaa)->Prop,(∀x5 x6,yb3 a0 r0 X2 x5 x6->X2 x5 x6)->X2 (0:Int) z4))
def yco (a0:List (List yaa)) (r0:List yaa):Prop:=
 (a0.length<=maxLen->∀X1:Int->Int->Prop,(∀x1 x2,yb5 a0 r0 X1 x1 x2->X1 x1 x2)->X1 (0:Int) (0:Int))
theorem yfB (a0:List (List yaa)) (r0:List yaa) {X2:Int→(List yaa)→Prop} {x5:Int} {x6:List yaa} (h:yb3 a0 r0 X2 x5 x6):ycl a0 r0 X2 x5 x6:=by
 unfold ycl
 unfold yb3 at h
 exact h
theorem yfU (a0:List (List yaa)) (r0:List yaa) {X1:Int→Int→Prop} {x1 x2:Int} (h:yb5 a0 r0 X1 x1 x2):yck a0 r0 X1 x1 x2:=by
 unfold yck
 unfold yb5 at h
 refine yak h (fun h=> ?_) (fun h=> ?_)
 ·exact h
 ·obtain ⟨z4,h⟩:=h
  refine ⟨z4,?_⟩
  obtain ⟨h0,h⟩:=h
  refine ⟨h0,?_⟩
  intro c
  replace h:=h c
  intro X2 k
  exact h X2 (fun x5 x6 q=>k x5 x6 (yfB a0 r0 q))
theorem ygK (a0:List (List yaa)) (r0:List yaa) (h:yco a0 r0):yaQ a0 r0:=by
 unfold yaQ
 unfold yco at h
 intro c
 replace h:=h c
 intro X1 k
 exact h X1 (fun x1 x2 q=>k x1 x2 (yfU a0 r0 q))
def ybF:Sl KK:=⟨20,[],⟨[(0, .sl 26)],[],[]⟩,⟨[(2, .row 1000000)],[],[(1000000,34)]⟩,[],[(2,none)],false,fun _ _ _=>True⟩
def ybE:Sl KK:=⟨20,[],⟨[(0, .sl 26)],[],[]⟩,⟨[(2, .row 1000000)],[],[(1000000,34)]⟩,[],[(2,none)],false,apFs (K:=KK) (ctT ybF.ti) (ctT ybF.te) [] yaQ⟩
def ygr:An KK:=(.s .o (.s .o (.s (.s .o (.b (.l ⟨[(0, .kp 6),(3, .it .i64),(9, .kp 8),(10, .kp 9),(11, .it .i64)],[],[]⟩ (fun _=>(.s .o (.s (.c .o .o) (.s (.b (.s .o (.s .o (.s .o (.c .o .o))))) .o))))))) (.s .o (.s (.s .o (.b (.l ⟨[(6, .row 1001536),(25, .kp 6),(26, .kp 13),(27, .it .i64)],[],[(1001536,34)]⟩ (fun _=>(.s .o (.s (.c .o .o) (.s (.b (.s .o .o)) .o))))))) (.s .o .o))))))
def ygz:Cf KK:=⟨CC,[],[ybP],36,[],none,false⟩
theorem ygD:SlOk Try.prog CC ybE:=by
 intro fs env out hl hF hW
 obtain ⟨rfl,h0⟩:=yj1 hW
 obtain ⟨a0,ea0,rfl,h1⟩:=ycQ h0
 obtain ⟨rfl,h2⟩:=yj8 h1
 obtain ⟨r0,er0,rfl,h3⟩:=yhc h2
 obtain ⟨rfl,h4⟩:=yg9 h3
 show SlC Try.prog CC ybE [] [.l 26 a0] [.l 34 r0]
 rw[show SlC Try.prog CC ybE [] [.l 26 a0] [.l 34 r0]=SlC Try.prog CC ybF [] [.l 26 a0] [.l 34 r0] by kernel_rfl]
 exact yk6 (F:=ygz) ybg yaE (yjI yhd yaD) t20 (A:=ygr) (sp:=ybF) rfl (by kernel_rfl) (by kernel_rfl) (Nat.le_of_ble_eq_true (by kernel_rfl)) (fs:= []) (env:= [.l 26 a0]) (out:= [.l 34 r0]) (by kernel_rfl) hF (X:=yaQ a0 r0) h4 (by kernel_rfl)
def ybb (x3:Int) (X2 X1:Int→(List yaa)→Prop) (x1:Int) (x5:Bool) (x6:List yaa):Prop:=
 cnd x5 ((0<=(IntKind.i64.wrap (x3-(1:Int))))/\((IntKind.i64.wrap (x3-(1:Int)))<(x6.length:Int))/\∃y7:yaa,(x6[(IntKind.i64.wrap (x3-(1:Int))).toNat]? =some y7)/\(0<=x3)/\(x3<(x6.length:Int))/\∃y8:yaa,(x6[x3.toNat]? =some y8)/\(0<=x3)/\(x3<(x6.length:Int))/\∃y9:yaa,(x6[x3.toNat]? =some y9)/\(0<=(IntKind.i64.wrap (x3-(1:Int))))/\((IntKind.i64.wrap (x3-(1:Int)))<((x6.set x3.toNat (⟨y7.Row,(⟨y7.Part.Rows,y7.Part.L⟩:yae)⟩:yaa)).length:Int))/\∃y10:yaa,((x6.set x3.toNat (⟨y7.Row,(⟨y7.Part.Rows,y7.Part.L⟩:yae)⟩:yaa))[(IntKind.i64.wrap (x3-(1:Int))).toNat]? =some y10)/\X2 (IntKind.i64.wrap (x3-(1:Int))) ((x6.set x3.toNat (⟨y7.Row,(⟨y7.Part.Rows,y7.Part.L⟩:yae)⟩:yaa)).set ((IntKind.i64.wrap (x3-(1:Int))).toNat) (⟨y8.Row,(⟨y8.Part.Rows,y8.Part.L⟩:yae)⟩:yaa))) (X1 (IntKind.i64.wrap (x1+(1:Int))) x6)
def yba (X1:Int→(List yaa)→Prop) (x1 a0:Int) (g3:yaa→yaa→Int→Prop) (X2:Int→(List yaa)→Prop) (x3:Int) (x4:List yaa):Prop:=
 ∀J3:Bool->(List yaa)->Prop,(∀x5 x6,ybb x3 X2 X1 x1 x5 x6->J3 x5 x6)->cnd (decide (a0<x3)) ((0<=x3)/\(x3<(x4.length:Int))/\∃y11:yaa,(x4[x3.toNat]? =some y11)/\(0<=(IntKind.i64.wrap (x3-(1:Int))))/\((IntKind.i64.wrap (x3-(1:Int)))<(x4.length:Int))/\∃y12:yaa,(x4[(IntKind.i64.wrap (x3-(1:Int))).toNat]? =some y12)/\∃z13,(g3 (⟨y11.Row,(⟨y11.Part.Rows,y11.Part.L⟩:yae)⟩:yaa) (⟨y12.Row,(⟨y12.Part.Rows,y12.Part.L⟩:yae)⟩:yaa) z13)/\J3 (decide (z13<(0:Int))) x4) (J3 false x4)
def ya9 (a1 a0:Int) (g3:yaa→yaa→Int→Prop) (r0:List yaa) (X1:Int→(List yaa)→Prop) (x1:Int) (x2:List yaa):Prop:=
 cnd (decide (x1<a1)) (∀X2:Int->(List yaa)->Prop,(∀x3 x4,yba X1 x1 a0 g3 X2 x3 x4->X2 x3 x4)->X2 x1 x2) (x2=r0)
def yao (g3:yaa→yaa→Int→Prop) (a0 a1:Int) (a2 r0:List yaa):Prop:=
 ∀X1:Int->(List yaa)->Prop,(∀x1 x2,ya9 a1 a0 g3 r0 X1 x1 x2->X1 x1 x2)->X1 (IntKind.i64.wrap (a0+(1:Int))) a2
def yap (X1 X2:Int→(List yaa)→Prop) (x1 x3:Int) (x5:Bool) (x6:List yaa):Prop:=
 cnd x5 ((0<=(IntKind.i64.wrap (x3-(1:Int))))/\((IntKind.i64.wrap (x3-(1:Int)))<(x6.length:Int))/\∃y7:yaa,(x6[(IntKind.i64.wrap (x3-(1:Int))).toNat]? =some y7)/\(0<=x3)/\(x3<(x6.length:Int))/\∃y8:yaa,(x6[x3.toNat]? =some y8)/\(0<=x3)/\(x3<(x6.length:Int))/\∃y9:yaa,(x6[x3.toNat]? =some y9)/\(0<=(IntKind.i64.wrap (x3-(1:Int))))/\((IntKind.i64.wrap (x3-(1:Int)))<((x6.set x3.toNat (⟨y7.Row,(⟨y7.Part.Rows,y7.Part.L⟩:yae)⟩:yaa)).length:Int))/\∃y10:yaa,((x6.set x3.toNat (⟨y7.Row,(⟨y7.Part.Rows,y7.Part.L⟩:yae)⟩:yaa))[(IntKind.i64.wrap (x3-(1:Int))).toNat]? =some y10)/\X2 (IntKind.i64.wrap (x3-(1:Int))) ((x6.set x3.toNat (⟨y7.Row,(⟨y7.Part.Rows,y7.Part.L⟩:yae)⟩:yaa)).set ((IntKind.i64.wrap (x3-(1:Int))).toNat) (⟨y8.Row,(⟨y8.Part.Rows,y8.Part.L⟩:yae)⟩:yaa))) (X1 (IntKind.i64.wrap (x1+(1:Int))) x6)
def yaI (X1:Int→(List yaa)→Prop) (a0:Int) (g3:yaa→yaa→Int→Prop) (x1:Int) (X2:Int→(List yaa)→Prop) (x3:Int) (x4:List yaa):Prop:=
 cnd (decide (a0<x3)) ((0<=x3)/\(x3<(x4.length:Int))/\∃y11:yaa,(x4[x3.toNat]? =some y11)/\(0<=(IntKind.i64.wrap (x3-(1:Int))))/\((IntKind.i64.wrap (x3-(1:Int)))<(x4.length:Int))/\∃y12:yaa,(x4[(IntKind.i64.wrap (x3-(1:Int))).toNat]? =some y12)/\∃z13,(g3 (⟨y11.Row,(⟨y11.Part.Rows,y11.Part.L⟩:yae)⟩:yaa) (⟨y12.Row,(⟨y12.Part.Rows,y12.Part.L⟩:yae)⟩:yaa) z13)/\yap X1 X2 x1 x3 (decide (z13<(0:Int))) x4) (yap X1 X2 x1 x3 false x4)
def yaJ (a0 a1:Int) (g3:yaa→yaa→Int→Prop) (r0:List yaa) (X1:Int→(List yaa)→Prop) (x1:Int) (x2:List yaa):Prop:=
 cnd (decide (x1<a1)) (∀X2:Int->(List yaa)->Prop,(∀x3 x4,yaI X1 a0 g3 x1 X2 x3 x4->X2 x3 x4)->X2 x1 x2) (x2=r0)
def ya7 (g3:yaa→yaa→Int→Prop) (a0 a1:Int) (a2 r0:List yaa):Prop:=
 ∀X1:Int->(List yaa)->Prop,(∀x1 x2,yaJ a0 a1 g3 r0 X1 x1 x2->X1 x1 x2)->X1 (IntKind.i64.wrap (a0+(1:Int))) a2
theorem ycL (X1 X2:Int→(List yaa)→Prop) (x1 x3:Int) {x5:Bool} {x6:List yaa} (h:yap X1 X2 x1 x3 x5 x6):ybb x3 X2 X1 x1 x5 x6:=by
 unfold ybb
 unfold yap at h
 exact h
theorem ycN (X1:Int→(List yaa)→Prop) (a0:Int) (g3:yaa→yaa→Int→Prop) (x1:Int) {X2:Int→(List yaa)→Prop} {x3:Int} {x4:List yaa} (h:yaI X1 a0 g3 x1 X2 x3 x4):yba X1 x1 a0 g3 X2 x3 x4:=by
 unfold yba
 unfold yaI at h
 intro J3 kJ3
 have hJ3:∀x5 x6,yap X1 X2 x1 x3 x5 x6->J3 x5 x6:=fun x5 x6 q=>kJ3 x5 x6 (ycL X1 X2 x1 x3 q)
 refine yak h (fun h=> ?_) (fun h=> ?_)
 ·obtain ⟨h0,h⟩:=h
  refine ⟨h0,?_⟩
  obtain ⟨h0,h⟩:=h
  refine ⟨h0,?_⟩
  obtain ⟨y11,h⟩:=h
  refine ⟨y11,?_⟩
  obtain ⟨h0,h⟩:=h
  refine ⟨h0,?_⟩
  obtain ⟨h0,h⟩:=h
  refine ⟨h0,?_⟩
  obtain ⟨h0,h⟩:=h
  refine ⟨h0,?_⟩
  obtain ⟨y12,h⟩:=h
  refine ⟨y12,?_⟩
  obtain ⟨h0,h⟩:=h
  refine ⟨h0,?_⟩
  obtain ⟨z13,h⟩:=h
  refine ⟨z13,?_⟩
  obtain ⟨h0,h⟩:=h
  refine ⟨h0,?_⟩
  exact hJ3 _ _ h
 ·exact hJ3 _ _ h
theorem ycK (a0 a1:Int) (g3:yaa→yaa→Int→Prop) (r0:List yaa) {X1:Int→(List yaa)→Prop} {x1:Int} {x2:List yaa} (h:yaJ a0 a1 g3 r0 X1 x1 x2):ya9 a1 a0 g3 r0 X1 x1 x2:=by
 unfold ya9
 unfold yaJ at h
 refine yak h (fun h=> ?_) (fun h=> ?_)
 ·intro X2 k
  exact h X2 (fun x3 x4 q=>k x3 x4 (ycN X1 a0 g3 x1 q))
 ·exact h
theorem ydf (g3:yaa→yaa→Int→Prop) (a0 a1:Int) (a2 r0:List yaa) (h:ya7 g3 a0 a1 a2 r0):yao g3 a0 a1 a2 r0:=by
 unfold yao
 unfold ya7 at h
 intro X1 k
 exact h X1 (fun x1 x2 q=>k x1 x2 (ycK a0 a1 g3 r0 q))
def yaN:Sl KK:=⟨57,[(3,[34,34],[3])],⟨[(0, .row 2000000),(1, .it .i64),(2, .it .i64)],[],[(2000000,34)]⟩,⟨[],[],[(2000000,34)]⟩,[],[],true,fun _ _ _=>True⟩
def yaL:Sl KK:=⟨57,[(3,[34,34],[3])],⟨[(0, .row 2000000),(1, .it .i64),(2, .it .i64)],[],[(2000000,34)]⟩,⟨[],[],[(2000000,34)]⟩,[],[],true,apFs (K:=KK) (ctT yaN.ti) (ctT yaN.te) [(3,[34,34],[3])] yao⟩
def yc0:An KK:=(.s .o (.b (.l ⟨[(0, .row 2000000),(1, .kp 1),(2, .kp 2),(3, .kp 3),(8, .it .i64)],[],[(2000000,34)]⟩ (fun _=>(.s (.s .o (.c .o .o)) (.s (.b (.s .o (.b (.l ⟨[(0, .row 2000000),(1, .kp 1),(2, .kp 2),(3, .kp 3),(8, .kp 31),(9, .it .i64)],[],[(2000000,34)]⟩ (fun _=>(.s (.j ⟨[(0, .row 2000000),(1, .kp 1),(2, .kp 2),(3, .kp 3),(8, .kp 31),(9, .kp 36),(34, .bl)],[],[(2000000,34)]⟩ .o (fun _=>(.c .o .o))) (.s (.b .o) .o))))))) .o))))))
def ycU:Cf KK:=⟨CC,[],[],53,[],none,false⟩
theorem ycW:SlOk Try.prog CC yaL:=by
 intro fs env out hl hF hW
 obtain ⟨F3,fs3,rfl,h0⟩:=ynb hW
 obtain ⟨rfl,h1⟩:=yj1 h0
 obtain ⟨a0,ea0,rfl,h2⟩:=ycQ h1
 obtain ⟨a1,ea1,rfl,h3⟩:=ycQ h2
 obtain ⟨a2,ea2,rfl,h4⟩:=ycQ h3
 obtain ⟨rfl,h5⟩:=yj8 h4
 obtain ⟨r0,er0,rfl,h6⟩:=yhc h5
 obtain ⟨rfl,h7⟩:=yg9 h6
 show SlC Try.prog CC yaL [F3] [.i a0, .i a1, .l 34 a2] [.l 34 r0]
 rw[show SlC Try.prog CC yaL [F3] [.i a0, .i a1, .l 34 a2] [.l 34 r0]=SlC Try.prog CC yaN [F3] [.i a0, .i a1, .l 34 a2] [.l 34 r0] by kernel_rfl]
 exact yk6 (F:=ycU) ybg yaE yaD t57 (A:=yc0) (sp:=yaN) rfl (by kernel_rfl) (by kernel_rfl) (Nat.le_of_ble_eq_true (by kernel_rfl)) (fs:= [F3]) (env:= [.i a0, .i a1, .l 34 a2]) (out:= [.l 34 r0]) (by kernel_rfl) hF (X:=yao (curF [3] [34,34] F3.W) a0 a1 a2 r0) h7 (by kernel_rfl)
def ybV (a2 a1 a0:Int) (r0:List yaa) (X1:Int→(List yaa)→Prop) (x1:Int) (x2:List yaa):Prop:=
 cnd (decide (x1<a2)) ((0<=(IntKind.i64.wrap (a1+x1)))/\((IntKind.i64.wrap (a1+x1))<(x2.length:Int))/\∃y3:yaa,(x2[(IntKind.i64.wrap (a1+x1)).toNat]? =some y3)/\(0<=(IntKind.i64.wrap (a0+x1)))/\((IntKind.i64.wrap (a0+x1))<(x2.length:Int))/\∃y4:yaa,(x2[(IntKind.i64.wrap (a0+x1)).toNat]? =some y4)/\(0<=(IntKind.i64.wrap (a0+x1)))/\((IntKind.i64.wrap (a0+x1))<(x2.length:Int))/\∃y5:yaa,(x2[(IntKind.i64.wrap (a0+x1)).toNat]? =some y5)/\(0<=(IntKind.i64.wrap (a1+x1)))/\((IntKind.i64.wrap (a1+x1))<((x2.set ((IntKind.i64.wrap (a0+x1)).toNat) (⟨y3.Row,(⟨y3.Part.Rows,y3.Part.L⟩:yae)⟩:yaa)).length:Int))/\∃y6:yaa,((x2.set ((IntKind.i64.wrap (a0+x1)).toNat) (⟨y3.Row,(⟨y3.Part.Rows,y3.Part.L⟩:yae)⟩:yaa))[(IntKind.i64.wrap (a1+x1)).toNat]? =some y6)/\X1 (IntKind.i64.wrap (x1+(1:Int))) ((x2.set ((IntKind.i64.wrap (a0+x1)).toNat) (⟨y3.Row,(⟨y3.Part.Rows,y3.Part.L⟩:yae)⟩:yaa)).set ((IntKind.i64.wrap (a1+x1)).toNat) (⟨y4.Row,(⟨y4.Part.Rows,y4.Part.L⟩:yae)⟩:yaa))) (x2=r0)
def yat (g4:yaa→yaa→Int→Prop) (a0 a1 a2:Int) (a3 r0:List yaa):Prop:=
 ∀X1:Int->(List yaa)->Prop,(∀x1 x2,ybV a2 a1 a0 r0 X1 x1 x2->X1 x1 x2)->X1 (0:Int) a3
def yaT:Sl KK:=⟨71,[(4,[34,34],[3])],⟨[(0, .row 2000000),(1, .it .i64),(2, .it .i64),(3, .it .i64)],[],[(2000000,34)]⟩,⟨[],[],[(2000000,34)]⟩,[],[],true,fun _ _ _=>True⟩
def yaV:Sl KK:=⟨71,[(4,[34,34],[3])],⟨[(0, .row 2000000),(1, .it .i64),(2, .it .i64),(3, .it .i64)],[],[(2000000,34)]⟩,⟨[],[],[(2000000,34)]⟩,[],[],true,apFs (K:=KK) (ctT yaT.ti) (ctT yaT.te) [(4,[34,34],[3])] yat⟩
def ydI:An KK:=(.s .o (.b (.l ⟨[(0, .row 2000000),(1, .kp 1),(2, .kp 2),(3, .kp 3),(10, .it .i64)],[],[(2000000,34)]⟩ (fun _=>(.s (.s .o (.c .o .o)) (.s (.b .o) .o))))))
def ydG:Cf KK:=⟨CC,[],[],38,[],none,false⟩
theorem ydN:SlOk Try.prog CC yaV:=by
 intro fs env out hl hF hW
 obtain ⟨F4,fs4,rfl,h0⟩:=ynb hW
 obtain ⟨rfl,h1⟩:=yj1 h0
 obtain ⟨a0,ea0,rfl,h2⟩:=ycQ h1
 obtain ⟨a1,ea1,rfl,h3⟩:=ycQ h2
 obtain ⟨a2,ea2,rfl,h4⟩:=ycQ h3
 obtain ⟨a3,ea3,rfl,h5⟩:=ycQ h4
 obtain ⟨rfl,h6⟩:=yj8 h5
 obtain ⟨r0,er0,rfl,h7⟩:=yhc h6
 obtain ⟨rfl,h8⟩:=yg9 h7
 show SlC Try.prog CC yaV [F4] [.i a0, .i a1, .i a2, .l 34 a3] [.l 34 r0]
 rw[show SlC Try.prog CC yaV [F4] [.i a0, .i a1, .i a2, .l 34 a3] [.l 34 r0]=SlC Try.prog CC yaT [F4] [.i a0, .i a1, .i a2, .l 34 a3] [.l 34 r0] by kernel_rfl]
 exact yk6 (F:=ydG) ybg yaE yaD t71 (A:=ydI) (sp:=yaT) rfl (by kernel_rfl) (by kernel_rfl) (Nat.le_of_ble_eq_true (by kernel_rfl)) (fs:= [F4]) (env:= [.i a0, .i a1, .i a2, .l 34 a3]) (out:= [.l 34 r0]) (by kernel_rfl) hF (X:=yat (curF [3] [34,34] F4.W) a0 a1 a2 a3 r0) h8 (by kernel_rfl)
def ycr (g4:yaa→yaa→Int→Prop) (a1:Int) (r0:List yaa) (X1:Int→Int→(List yaa)→Prop) (x1 x2:Int) (x3:List yaa):Prop:=
 cnd (!(x1==x2)) (cnd (decide (x2<x1)) (∃z4,(yat g4 (IntKind.i64.wrap (a1-x1)) a1 x2 x3 z4)/\(z4.length=x3.length)/\X1 (IntKind.i64.wrap (x1-x2)) x2 z4) (∃z5,(yat g4 (IntKind.i64.wrap (a1-x1)) (IntKind.i64.wrap ((IntKind.i64.wrap (a1+x2))-x1)) x1 x3 z5)/\(z5.length=x3.length)/\X1 x1 (IntKind.i64.wrap (x2-x1)) z5)) (∃z6,(yat g4 (IntKind.i64.wrap (a1-x1)) a1 x1 x3 z6)/\(z6.length=x3.length)/\z6=r0)
def yaC (g4:yaa→yaa→Int→Prop) (a0 a1 a2:Int) (a3 r0:List yaa):Prop:=
 ∀X1:Int->Int->(List yaa)->Prop,(∀x1 x2 x3,ycr g4 a1 r0 X1 x1 x2 x3->X1 x1 x2 x3)->X1 (IntKind.i64.wrap (a1-a0)) (IntKind.i64.wrap (a2-a1)) a3
def ya2:Sl KK:=⟨70,[(4,[34,34],[3])],⟨[(0, .row 2000000),(1, .it .i64),(2, .it .i64),(3, .it .i64)],[],[(2000000,34)]⟩,⟨[],[],[(2000000,34)]⟩,[],[],true,fun _ _ _=>True⟩
def ya3:Sl KK:=⟨70,[(4,[34,34],[3])],⟨[(0, .row 2000000),(1, .it .i64),(2, .it .i64),(3, .it .i64)],[],[(2000000,34)]⟩,⟨[],[],[(2000000,34)]⟩,[],[],true,apFs (K:=KK) (ctT ya2.ti) (ctT ya2.te) [(4,[34,34],[3])] yaC⟩
def yen:An KK:=(.s .o (.s .o (.s (.b (.l ⟨[(0, .row 2000000),(2, .kp 5),(4, .kp 6),(10, .it .i64),(11, .it .i64)],[],[(2000000,34)]⟩ (fun _=>(.s (.s .o (.c .o .o)) (.b (.s .o (.c (.s .o .o) (.s .o .o)))))))) .o)))
def yeq:Cf KK:=⟨CC,[],[yaV],58,[],none,false⟩
theorem yeo:SlOk Try.prog CC ya3:=by
 intro fs env out hl hF hW
 obtain ⟨F4,fs4,rfl,h0⟩:=ynb hW
 obtain ⟨rfl,h1⟩:=yj1 h0
 obtain ⟨a0,ea0,rfl,h2⟩:=ycQ h1
 obtain ⟨a1,ea1,rfl,h3⟩:=ycQ h2
 obtain ⟨a2,ea2,rfl,h4⟩:=ycQ h3
 obtain ⟨a3,ea3,rfl,h5⟩:=ycQ h4
 obtain ⟨rfl,h6⟩:=yj8 h5
 obtain ⟨r0,er0,rfl,h7⟩:=yhc h6
 obtain ⟨rfl,h8⟩:=yg9 h7
 show SlC Try.prog CC ya3 [F4] [.i a0, .i a1, .i a2, .l 34 a3] [.l 34 r0]
 rw[show SlC Try.prog CC ya3 [F4] [.i a0, .i a1, .i a2, .l 34 a3] [.l 34 r0]=SlC Try.prog CC ya2 [F4] [.i a0, .i a1, .i a2, .l 34 a3] [.l 34 r0] by kernel_rfl]
 exact yk6 (F:=yeq) ybg yaE (yjI ydN yaD) t70 (A:=yen) (sp:=ya2) rfl (by kernel_rfl) (by kernel_rfl) (Nat.le_of_ble_eq_true (by kernel_rfl)) (fs:= [F4]) (env:= [.i a0, .i a1, .i a2, .l 34 a3]) (out:= [.l 34 r0]) (by kernel_rfl) hF (X:=yaC (curF [3] [34,34] F4.W) a0 a1 a2 a3 r0) h8 (by kernel_rfl)
def ybo (x1:Int) (r0:List yaa) (X2:Int→(List yaa)→Prop) (x7:Int) (x8:List yaa):Prop:=
 cnd (decide (x7<(IntKind.i64.wrap (x1-(1:Int))))) ((0<=(IntKind.i64.wrap (x7+(1:Int))))/\((IntKind.i64.wrap (x7+(1:Int)))<(x8.length:Int))/\∃y9:yaa,(x8[(IntKind.i64.wrap (x7+(1:Int))).toNat]? =some y9)/\(0<=x7)/\(x7<(x8.length:Int))/\∃y10:yaa,(x8[x7.toNat]? =some y10)/\(0<=x7)/\(x7<(x8.length:Int))/\∃y11:yaa,(x8[x7.toNat]? =some y11)/\(0<=(IntKind.i64.wrap (x7+(1:Int))))/\((IntKind.i64.wrap (x7+(1:Int)))<((x8.set x7.toNat (⟨y9.Row,(⟨y9.Part.Rows,y9.Part.L⟩:yae)⟩:yaa)).length:Int))/\∃y12:yaa,((x8.set x7.toNat (⟨y9.Row,(⟨y9.Part.Rows,y9.Part.L⟩:yae)⟩:yaa))[(IntKind.i64.wrap (x7+(1:Int))).toNat]? =some y12)/\X2 (IntKind.i64.wrap (x7+(1:Int))) ((x8.set x7.toNat (⟨y9.Row,(⟨y9.Part.Rows,y9.Part.L⟩:yae)⟩:yaa)).set ((IntKind.i64.wrap (x7+(1:Int))).toNat) (⟨y10.Row,(⟨y10.Part.Rows,y10.Part.L⟩:yae)⟩:yaa))) (x8=r0)
def ybu (a0:Int) (g4:yaa→yaa→Int→Prop) (r0:List yaa) (X1:Int→Int→(List yaa)→Prop) (x1 x2:Int) (x3:List yaa):Prop:=
 cnd (decide (x1<x2)) ((0<=(IntKind.i64.wrap ((IntKind.u64.wrap (IntKind.i64.wrap (x1+x2))).fdiv (2^(min (1:Int).toNat IntKind.u64.bits)))))/\((IntKind.i64.wrap ((IntKind.u64.wrap (IntKind.i64.wrap (x1+x2))).fdiv (2^(min (1:Int).toNat IntKind.u64.bits))))<(x3.length:Int))/\∃y4:yaa,(x3[(IntKind.i64.wrap ((IntKind.u64.wrap (IntKind.i64.wrap (x1+x2))).fdiv (2^(min (1:Int).toNat IntKind.u64.bits)))).toNat]? =some y4)/\(0<=a0)/\(a0<(x3.length:Int))/\∃y5:yaa,(x3[a0.toNat]? =some y5)/\∃z6,(g4 (⟨y4.Row,(⟨y4.Part.Rows,y4.Part.L⟩:yae)⟩:yaa) (⟨y5.Row,(⟨y5.Part.Rows,y5.Part.L⟩:yae)⟩:yaa) z6)/\cnd (decide (z6<(0:Int))) (X1 (IntKind.i64.wrap ((IntKind.i64.wrap ((IntKind.u64.wrap (IntKind.i64.wrap (x1+x2))).fdiv (2^(min (1:Int).toNat IntKind.u64.bits))))+(1:Int))) x2 x3) (X1 x1 (IntKind.i64.wrap ((IntKind.u64.wrap (IntKind.i64.wrap (x1+x2))).fdiv (2^(min (1:Int).toNat IntKind.u64.bits)))) x3)) (∀X2:Int->(List yaa)->Prop,(∀x7 x8,ybo x1 r0 X2 x7 x8->X2 x7 x8)->X2 a0 x3)
def ybv (x13:Int) (r0:List yaa) (X4:Int→(List yaa)→Prop) (x19:Int) (x20:List yaa):Prop:=
 cnd (decide (x13<x19)) ((0<=(IntKind.i64.wrap (x19-(1:Int))))/\((IntKind.i64.wrap (x19-(1:Int)))<(x20.length:Int))/\∃y21:yaa,(x20[(IntKind.i64.wrap (x19-(1:Int))).toNat]? =some y21)/\(0<=x19)/\(x19<(x20.length:Int))/\∃y22:yaa,(x20[x19.toNat]? =some y22)/\(0<=x19)/\(x19<(x20.length:Int))/\∃y23:yaa,(x20[x19.toNat]? =some y23)/\(0<=(IntKind.i64.wrap (x19-(1:Int))))/\((IntKind.i64.wrap (x19-(1:Int)))<((x20.set x19.toNat (⟨y21.Row,(⟨y21.Part.Rows,y21.Part.L⟩:yae)⟩:yaa)).length:Int))/\∃y24:yaa,((x20.set x19.toNat (⟨y21.Row,(⟨y21.Part.Rows,y21.Part.L⟩:yae)⟩:yaa))[(IntKind.i64.wrap (x19-(1:Int))).toNat]? =some y24)/\X4 (IntKind.i64.wrap (x19-(1:Int))) ((x20.set x19.toNat (⟨y21.Row,(⟨y21.Part.Rows,y21.Part.L⟩:yae)⟩:yaa)).set ((IntKind.i64.wrap (x19-(1:Int))).toNat) (⟨y22.Row,(⟨y22.Part.Rows,y22.Part.L⟩:yae)⟩:yaa))) (x20=r0)
def ybn (a1:Int) (g4:yaa→yaa→Int→Prop) (r0:List yaa) (X3:Int→Int→(List yaa)→Prop) (x13 x14:Int) (x15:List yaa):Prop:=
 cnd (decide (x13<x14)) ((0<=a1)/\(a1<(x15.length:Int))/\∃y16:yaa,(x15[a1.toNat]? =some y16)/\(0<=(IntKind.i64.wrap ((IntKind.u64.wrap (IntKind.i64.wrap (x13+x14))).fdiv (2^(min (1:Int).toNat IntKind.u64.bits)))))/\((IntKind.i64.wrap ((IntKind.u64.wrap (IntKind.i64.wrap (x13+x14))).fdiv (2^(min (1:Int).toNat IntKind.u64.bits))))<(x15.length:Int))/\∃y17:yaa,(x15[(IntKind.i64.wrap ((IntKind.u64.wrap (IntKind.i64.wrap (x13+x14))).fdiv (2^(min (1:Int).toNat IntKind.u64.bits)))).toNat]? =some y17)/\∃z18,(g4 (⟨y16.Row,(⟨y16.Part.Rows,y16.Part.L⟩:yae)⟩:yaa) (⟨y17.Row,(⟨y17.Part.Rows,y17.Part.L⟩:yae)⟩:yaa) z18)/\cnd (!(decide (z18<(0:Int)))) (X3 (IntKind.i64.wrap ((IntKind.i64.wrap ((IntKind.u64.wrap (IntKind.i64.wrap (x13+x14))).fdiv (2^(min (1:Int).toNat IntKind.u64.bits))))+(1:Int))) x14 x15) (X3 x13 (IntKind.i64.wrap ((IntKind.u64.wrap (IntKind.i64.wrap (x13+x14))).fdiv (2^(min (1:Int).toNat IntKind.u64.bits)))) x15)) (∀X4:Int->(List yaa)->Prop,(∀x19 x20,ybv x13 r0 X4 x19 x20->X4 x19 x20)->X4 a1 x15)
def ybt (Xr:(yaa→yaa→Int→Prop)→Int→Int→Int→(List yaa)→(List yaa)→Prop) (g4:yaa→yaa→Int→Prop) (a0 a2 x37:Int) (r0:List yaa) (x39:Bool) (x40:List yaa):Prop:=
 cnd x39 (∃z41,(Xr g4 (IntKind.i64.wrap ((IntKind.u64.wrap (IntKind.i64.wrap (a0+a2))).fdiv (2^(min (1:Int).toNat IntKind.u64.bits)))) x37 a2 x40 z41)/\(z41.length=x40.length)/\z41=r0) (x40=r0)
def ybp (Xr:(yaa→yaa→Int→Prop)→Int→Int→Int→(List yaa)→(List yaa)→Prop) (g4:yaa→yaa→Int→Prop) (a0 a2:Int) (r0:List yaa) (x37:Int) (x38:List yaa):Prop:=
 ∀J9:Bool->(List yaa)->Prop,(∀x39 x40,ybt Xr g4 a0 a2 x37 r0 x39 x40->J9 x39 x40)->cnd (decide ((IntKind.i64.wrap ((IntKind.u64.wrap (IntKind.i64.wrap (a0+a2))).fdiv (2^(min (1:Int).toNat IntKind.u64.bits))))<x37)) (J9 (decide (x37<a2)) x38) (J9 false x38)
def ybj (Xr:(yaa→yaa→Int→Prop)→Int→Int→Int→(List yaa)→(List yaa)→Prop) (g4:yaa→yaa→Int→Prop) (a0 x34 a2:Int) (J8:Int→(List yaa)→Prop) (x35:Int) (x42:Bool) (x43:List yaa):Prop:=
 cnd x42 (∃z44,(Xr g4 a0 x34 (IntKind.i64.wrap ((IntKind.u64.wrap (IntKind.i64.wrap (a0+a2))).fdiv (2^(min (1:Int).toNat IntKind.u64.bits)))) x43 z44)/\(z44.length=x43.length)/\J8 x35 z44) (J8 x35 x43)
def ybs (Xr:(yaa→yaa→Int→Prop)→Int→Int→Int→(List yaa)→(List yaa)→Prop) (g4:yaa→yaa→Int→Prop) (a0 a2:Int) (r0:List yaa) (x34 x35:Int) (x36:List yaa):Prop:=
 ∀J8:Int->(List yaa)->Prop,(∀x37 x38,ybp Xr g4 a0 a2 r0 x37 x38->J8 x37 x38)->∀J10:Bool->(List yaa)->Prop,(∀x42 x43,ybj Xr g4 a0 x34 a2 J8 x35 x42 x43->J10 x42 x43)->cnd (decide (a0<x34)) (J10 (decide (x34<(IntKind.i64.wrap ((IntKind.u64.wrap (IntKind.i64.wrap (a0+a2))).fdiv (2^(min (1:Int).toNat IntKind.u64.bits)))))) x36) (J10 false x36)
def ybk (g4:yaa→yaa→Int→Prop) (x28 a1 a0 a2:Int) (J7:Int→Int→(List yaa)→Prop) (x45:Bool) (x46:List yaa):Prop:=
 cnd x45 (∃z47,(yaC g4 x28 a1 (IntKind.i64.wrap ((IntKind.i64.wrap ((IntKind.i64.wrap ((IntKind.u64.wrap (IntKind.i64.wrap (a0+a2))).fdiv (2^(min (1:Int).toNat IntKind.u64.bits))))+a1))-x28)) x46 z47)/\(z47.length=x46.length)/\J7 x28 (IntKind.i64.wrap ((IntKind.i64.wrap ((IntKind.i64.wrap ((IntKind.u64.wrap (IntKind.i64.wrap (a0+a2))).fdiv (2^(min (1:Int).toNat IntKind.u64.bits))))+a1))-x28)) z47) (J7 x28 (IntKind.i64.wrap ((IntKind.i64.wrap ((IntKind.i64.wrap ((IntKind.u64.wrap (IntKind.i64.wrap (a0+a2))).fdiv (2^(min (1:Int).toNat IntKind.u64.bits))))+a1))-x28)) x46)
def ybr (a0 a2 a1:Int) (g4:yaa→yaa→Int→Prop) (Xr:(yaa→yaa→Int→Prop)→Int→Int→Int→(List yaa)→(List yaa)→Prop) (r0:List yaa) (X6:Int→Int→(List yaa)→Prop) (x28 x29:Int) (x30:List yaa):Prop:=
 cnd (decide (x28<x29)) ((0<=(IntKind.i64.wrap ((IntKind.i64.wrap ((IntKind.i64.wrap ((IntKind.i64.wrap ((IntKind.u64.wrap (IntKind.i64.wrap (a0+a2))).fdiv (2^(min (1:Int).toNat IntKind.u64.bits))))+a1))-(1:Int)))-(IntKind.i64.wrap ((IntKind.u64.wrap (IntKind.i64.wrap (x28+x29))).fdiv (2^(min (1:Int).toNat IntKind.u64.bits)))))))/\((IntKind.i64.wrap ((IntKind.i64.wrap ((IntKind.i64.wrap ((IntKind.i64.wrap ((IntKind.u64.wrap (IntKind.i64.wrap (a0+a2))).fdiv (2^(min (1:Int).toNat IntKind.u64.bits))))+a1))-(1:Int)))-(IntKind.i64.wrap ((IntKind.u64.wrap (IntKind.i64.wrap (x28+x29))).fdiv (2^(min (1:Int).toNat IntKind.u64.bits))))))<(x30.length:Int))/\∃y31:yaa,(x30[(IntKind.i64.wrap ((IntKind.i64.wrap ((IntKind.i64.wrap ((IntKind.i64.wrap ((IntKind.u64.wrap (IntKind.i64.wrap (a0+a2))).fdiv (2^(min (1:Int).toNat IntKind.u64.bits))))+a1))-(1:Int)))-(IntKind.i64.wrap ((IntKind.u64.wrap (IntKind.i64.wrap (x28+x29))).fdiv (2^(min (1:Int).toNat IntKind.u64.bits)))))).toNat]? =some y31)/\(0<=(IntKind.i64.wrap ((IntKind.u64.wrap (IntKind.i64.wrap (x28+x29))).fdiv (2^(min (1:Int).toNat IntKind.u64.bits)))))/\((IntKind.i64.wrap ((IntKind.u64.wrap (IntKind.i64.wrap (x28+x29))).fdiv (2^(min (1:Int).toNat IntKind.u64.bits))))<(x30.length:Int))/\∃y32:yaa,(x30[(IntKind.i64.wrap ((IntKind.u64.wrap (IntKind.i64.wrap (x28+x29))).fdiv (2^(min (1:Int).toNat IntKind.u64.bits)))).toNat]? =some y32)/\∃z33,(g4 (⟨y31.Row,(⟨y31.Part.Rows,y31.Part.L⟩:yae)⟩:yaa) (⟨y32.Row,(⟨y32.Part.Rows,y32.Part.L⟩:yae)⟩:yaa) z33)/\cnd (!(decide (z33<(0:Int)))) (X6 (IntKind.i64.wrap ((IntKind.i64.wrap ((IntKind.u64.wrap (IntKind.i64.wrap (x28+x29))).fdiv (2^(min (1:Int).toNat IntKind.u64.bits))))+(1:Int))) x29 x30) (X6 x28 (IntKind.i64.wrap ((IntKind.u64.wrap (IntKind.i64.wrap (x28+x29))).fdiv (2^(min (1:Int).toNat IntKind.u64.bits)))) x30)) (∀J7:Int->Int->(List yaa)->Prop,(∀x34 x35 x36,ybs Xr g4 a0 a2 r0 x34 x35 x36->J7 x34 x35 x36)->∀J11:Bool->(List yaa)->Prop,(∀x45 x46,ybk g4 x28 a1 a0 a2 J7 x45 x46->J11 x45 x46)->cnd (decide (x28<a1)) (J11 (decide (a1<(IntKind.i64.wrap ((IntKind.i64.wrap ((IntKind.i64.wrap ((IntKind.u64.wrap (IntKind.i64.wrap (a0+a2))).fdiv (2^(min (1:Int).toNat IntKind.u64.bits))))+a1))-x28)))) x30) (J11 false x30))
def ybq (a0 a2 a1:Int) (g4:yaa→yaa→Int→Prop) (Xr:(yaa→yaa→Int→Prop)→Int→Int→Int→(List yaa)→(List yaa)→Prop) (r0:List yaa) (x25 x26:Int) (x27:List yaa):Prop:=
 ∀X6:Int->Int->(List yaa)->Prop,(∀x28 x29 x30,ybr a0 a2 a1 g4 Xr r0 X6 x28 x29 x30->X6 x28 x29 x30)->X6 x25 x26 x27
def yaM (Xr:(yaa→yaa→Int→Prop)→Int→Int→Int→(List yaa)→(List yaa)→Prop) (g4:yaa→yaa→Int→Prop) (a0 a1 a2:Int) (a3 r0:List yaa):Prop:=
 cnd ((IntKind.i64.wrap (a1-a0))==(1:Int)) (∀X1:Int->Int->(List yaa)->Prop,(∀x1 x2 x3,ybu a0 g4 r0 X1 x1 x2 x3->X1 x1 x2 x3)->X1 a1 a2 a3) (cnd ((IntKind.i64.wrap (a2-a1))==(1:Int)) (∀X3:Int->Int->(List yaa)->Prop,(∀x13 x14 x15,ybn a1 g4 r0 X3 x13 x14 x15->X3 x13 x14 x15)->X3 a0 a1 a3) (∀J5:Int->Int->(List yaa)->Prop,(∀x25 x26 x27,ybq a0 a2 a1 g4 Xr r0 x25 x26 x27->J5 x25 x26 x27)->cnd (decide ((IntKind.i64.wrap ((IntKind.u64.wrap (IntKind.i64.wrap (a0+a2))).fdiv (2^(min (1:Int).toNat IntKind.u64.bits))))<a1)) (J5 (IntKind.i64.wrap ((IntKind.i64.wrap ((IntKind.i64.wrap ((IntKind.u64.wrap (IntKind.i64.wrap (a0+a2))).fdiv (2^(min (1:Int).toNat IntKind.u64.bits))))+a1))-a2)) (IntKind.i64.wrap ((IntKind.u64.wrap (IntKind.i64.wrap (a0+a2))).fdiv (2^(min (1:Int).toNat IntKind.u64.bits)))) a3) (J5 a0 a1 a3)))
def yaK (g4:yaa->yaa->Int->Prop) (a0 a1 a2:Int) (a3 r0:List yaa):Prop:=∀Xr:(yaa->yaa->Int->Prop)->Int->Int->Int->(List yaa)->(List yaa)->Prop,(∀(g4:yaa->yaa->Int->Prop) (a0:Int) (a1:Int) (a2:Int) (a3:(List yaa)) (r0:(List yaa)),yaM Xr g4 a0 a1 a2 a3 r0->Xr g4 a0 a1 a2 a3 r0)->Xr g4 a0 a1 a2 a3 r0
def yaU (r0:List yaa) (x1:Int) (X2:Int→(List yaa)→Prop) (x7:Int) (x8:List yaa):Prop:=
 cnd (decide (x7<(IntKind.i64.wrap (x1-(1:Int))))) ((0<=(IntKind.i64.wrap (x7+(1:Int))))/\((IntKind.i64.wrap (x7+(1:Int)))<(x8.length:Int))/\∃y9:yaa,(x8[(IntKind.i64.wrap (x7+(1:Int))).toNat]? =some y9)/\(0<=x7)/\(x7<(x8.length:Int))/\∃y10:yaa,(x8[x7.toNat]? =some y10)/\(0<=x7)/\(x7<(x8.length:Int))/\∃y11:yaa,(x8[x7.toNat]? =some y11)/\(0<=(IntKind.i64.wrap (x7+(1:Int))))/\((IntKind.i64.wrap (x7+(1:Int)))<((x8.set x7.toNat (⟨y9.Row,(⟨y9.Part.Rows,y9.Part.L⟩:yae)⟩:yaa)).length:Int))/\∃y12:yaa,((x8.set x7.toNat (⟨y9.Row,(⟨y9.Part.Rows,y9.Part.L⟩:yae)⟩:yaa))[(IntKind.i64.wrap (x7+(1:Int))).toNat]? =some y12)/\X2 (IntKind.i64.wrap (x7+(1:Int))) ((x8.set x7.toNat (⟨y9.Row,(⟨y9.Part.Rows,y9.Part.L⟩:yae)⟩:yaa)).set ((IntKind.i64.wrap (x7+(1:Int))).toNat) (⟨y10.Row,(⟨y10.Part.Rows,y10.Part.L⟩:yae)⟩:yaa))) (x8=r0)
def yaG (a0:Int) (g4:yaa→yaa→Int→Prop) (r0:List yaa) (X1:Int→Int→(List yaa)→Prop) (x1 x2:Int) (x3:List yaa):Prop:=
 cnd (decide (x1<x2)) ((0<=(IntKind.i64.wrap ((IntKind.u64.wrap (IntKind.i64.wrap (x1+x2))).fdiv (2^(min (1:Int).toNat IntKind.u64.bits)))))/\((IntKind.i64.wrap ((IntKind.u64.wrap (IntKind.i64.wrap (x1+x2))).fdiv (2^(min (1:Int).toNat IntKind.u64.bits))))<(x3.length:Int))/\∃y4:yaa,(x3[(IntKind.i64.wrap ((IntKind.u64.wrap (IntKind.i64.wrap (x1+x2))).fdiv (2^(min (1:Int).toNat IntKind.u64.bits)))).toNat]? =some y4)/\(0<=a0)/\(a0<(x3.length:Int))/\∃y5:yaa,(x3[a0.toNat]? =some y5)/\∃z6,(g4 (⟨y4.Row,(⟨y4.Part.Rows,y4.Part.L⟩:yae)⟩:yaa) (⟨y5.Row,(⟨y5.Part.Rows,y5.Part.L⟩:yae)⟩:yaa) z6)/\cnd (decide (z6<(0:Int))) (X1 (IntKind.i64.wrap ((IntKind.i64.wrap ((IntKind.u64.wrap (IntKind.i64.wrap (x1+x2))).fdiv (2^(min (1:Int).toNat IntKind.u64.bits))))+(1:Int))) x2 x3) (X1 x1 (IntKind.i64.wrap ((IntKind.u64.wrap (IntKind.i64.wrap (x1+x2))).fdiv (2^(min (1:Int).toNat IntKind.u64.bits)))) x3)) (∀X2:Int->(List yaa)->Prop,(∀x7 x8,yaU r0 x1 X2 x7 x8->X2 x7 x8)->X2 a0 x3)
def yaW (r0:List yaa) (x13:Int) (X4:Int→(List yaa)→Prop) (x19:Int) (x20:List yaa):Prop:=
 cnd (decide (x13<x19)) ((0<=(IntKind.i64.wrap (x19-(1:Int))))/\((IntKind.i64.wrap (x19-(1:Int)))<(x20.length:Int))/\∃y21:yaa,(x20[(IntKind.i64.wrap (x19-(1:Int))).toNat]? =some y21)/\(0<=x19)/\(x19<(x20.length:Int))/\∃y22:yaa,(x20[x19.toNat]? =some y22)/\(0<=x19)/\(x19<(x20.length:Int))/\∃y23:yaa,(x20[x19.toNat]? =some y23)/\(0<=(IntKind.i64.wrap (x19-(1:Int))))/\((IntKind.i64.wrap (x19-(1:Int)))<((x20.set x19.toNat (⟨y21.Row,(⟨y21.Part.Rows,y21.Part.L⟩:yae)⟩:yaa)).length:Int))/\∃y24:yaa,((x20.set x19.toNat (⟨y21.Row,(⟨y21.Part.Rows,y21.Part.L⟩:yae)⟩:yaa))[(IntKind.i64.wrap (x19-(1:Int))).toNat]? =some y24)/\X4 (IntKind.i64.wrap (x19-(1:Int))) ((x20.set x19.toNat (⟨y21.Row,(⟨y21.Part.Rows,y21.Part.L⟩:yae)⟩:yaa)).set ((IntKind.i64.wrap (x19-(1:Int))).toNat) (⟨y22.Row,(⟨y22.Part.Rows,y22.Part.L⟩:yae)⟩:yaa))) (x20=r0)
def yaF (a1:Int) (g4:yaa→yaa→Int→Prop) (r0:List yaa) (X3:Int→Int→(List yaa)→Prop) (x13 x14:Int) (x15:List yaa):Prop:=
 cnd (decide (x13<x14)) ((0<=a1)/\(a1<(x15.length:Int))/\∃y16:yaa,(x15[a1.toNat]? =some y16)/\(0<=(IntKind.i64.wrap ((IntKind.u64.wrap (IntKind.i64.wrap (x13+x14))).fdiv (2^(min (1:Int).toNat IntKind.u64.bits)))))/\((IntKind.i64.wrap ((IntKind.u64.wrap (IntKind.i64.wrap (x13+x14))).fdiv (2^(min (1:Int).toNat IntKind.u64.bits))))<(x15.length:Int))/\∃y17:yaa,(x15[(IntKind.i64.wrap ((IntKind.u64.wrap (IntKind.i64.wrap (x13+x14))).fdiv (2^(min (1:Int).toNat IntKind.u64.bits)))).toNat]? =some y17)/\∃z18,(g4 (⟨y16.Row,(⟨y16.Part.Rows,y16.Part.L⟩:yae)⟩:yaa) (⟨y17.Row,(⟨y17.Part.Rows,y17.Part.L⟩:yae)⟩:yaa) z18)/\cnd (!(decide (z18<(0:Int)))) (X3 (IntKind.i64.wrap ((IntKind.i64.wrap ((IntKind.u64.wrap (IntKind.i64.wrap (x13+x14))).fdiv (2^(min (1:Int).toNat IntKind.u64.bits))))+(1:Int))) x14 x15) (X3 x13 (IntKind.i64.wrap ((IntKind.u64.wrap (IntKind.i64.wrap (x13+x14))).fdiv (2^(min (1:Int).toNat IntKind.u64.bits)))) x15)) (∀X4:Int->(List yaa)->Prop,(∀x19 x20,yaW r0 x13 X4 x19 x20->X4 x19 x20)->X4 a1 x15)
def yaz (Xr:(yaa→yaa→Int→Prop)→Int→Int→Int→(List yaa)→(List yaa)→Prop) (a0 a2:Int) (g4:yaa→yaa→Int→Prop) (r0:List yaa) (x37:Int) (x39:Bool) (x40:List yaa):Prop:=
 cnd x39 (∃z41,(Xr g4 (IntKind.i64.wrap ((IntKind.u64.wrap (IntKind.i64.wrap (a0+a2))).fdiv (2^(min (1:Int).toNat IntKind.u64.bits)))) x37 a2 x40 z41)/\(z41.length=x40.length)/\z41=r0) (x40=r0)
def yam (Xr:(yaa→yaa→Int→Prop)→Int→Int→Int→(List yaa)→(List yaa)→Prop) (a0 a2:Int) (g4:yaa→yaa→Int→Prop) (r0:List yaa) (x37:Int) (x38:List yaa):Prop:=
 cnd (decide ((IntKind.i64.wrap ((IntKind.u64.wrap (IntKind.i64.wrap (a0+a2))).fdiv (2^(min (1:Int).toNat IntKind.u64.bits))))<x37)) (yaz Xr a0 a2 g4 r0 x37 (decide (x37<a2)) x38) (yaz Xr a0 a2 g4 r0 x37 false x38)
def yav (Xr:(yaa→yaa→Int→Prop)→Int→Int→Int→(List yaa)→(List yaa)→Prop) (a0 a2:Int) (g4:yaa→yaa→Int→Prop) (r0:List yaa) (x34 x35:Int) (x42:Bool) (x43:List yaa):Prop:=
 cnd x42 (∃z44,(Xr g4 a0 x34 (IntKind.i64.wrap ((IntKind.u64.wrap (IntKind.i64.wrap (a0+a2))).fdiv (2^(min (1:Int).toNat IntKind.u64.bits)))) x43 z44)/\(z44.length=x43.length)/\yam Xr a0 a2 g4 r0 x35 z44) (yam Xr a0 a2 g4 r0 x35 x43)
def yan (Xr:(yaa→yaa→Int→Prop)→Int→Int→Int→(List yaa)→(List yaa)→Prop) (a0 a2:Int) (g4:yaa→yaa→Int→Prop) (r0:List yaa) (x34 x35:Int) (x36:List yaa):Prop:=
 cnd (decide (a0<x34)) (yav Xr a0 a2 g4 r0 x34 x35 (decide (x34<(IntKind.i64.wrap ((IntKind.u64.wrap (IntKind.i64.wrap (a0+a2))).fdiv (2^(min (1:Int).toNat IntKind.u64.bits)))))) x36) (yav Xr a0 a2 g4 r0 x34 x35 false x36)
def yaw (Xr:(yaa→yaa→Int→Prop)→Int→Int→Int→(List yaa)→(List yaa)→Prop) (a0 a1 a2:Int) (g4:yaa→yaa→Int→Prop) (r0:List yaa) (x28:Int) (x45:Bool) (x46:List yaa):Prop:=
 cnd x45 (∃z47,(yaC g4 x28 a1 (IntKind.i64.wrap ((IntKind.i64.wrap ((IntKind.i64.wrap ((IntKind.u64.wrap (IntKind.i64.wrap (a0+a2))).fdiv (2^(min (1:Int).toNat IntKind.u64.bits))))+a1))-x28)) x46 z47)/\(z47.length=x46.length)/\yan Xr a0 a2 g4 r0 x28 (IntKind.i64.wrap ((IntKind.i64.wrap ((IntKind.i64.wrap ((IntKind.u64.wrap (IntKind.i64.wrap (a0+a2))).fdiv (2^(min (1:Int).toNat IntKind.u64.bits))))+a1))-x28)) z47) (yan Xr a0 a2 g4 r0 x28 (IntKind.i64.wrap ((IntKind.i64.wrap ((IntKind.i64.wrap ((IntKind.u64.wrap (IntKind.i64.wrap (a0+a2))).fdiv (2^(min (1:Int).toNat IntKind.u64.bits))))+a1))-x28)) x46)
def yaX (Xr:(yaa→yaa→Int→Prop)→Int→Int→Int→(List yaa)→(List yaa)→Prop) (a0 a1 a2:Int) (g4:yaa→yaa→Int→Prop) (r0:List yaa) (X6:Int→Int→(List yaa)→Prop) (x28 x29:Int) (x30:List yaa):Prop:=
 cnd (decide (x28<x29)) ((0<=(IntKind.i64.wrap ((IntKind.i64.wrap ((IntKind.i64.wrap ((IntKind.i64.wrap ((IntKind.u64.wrap (IntKind.i64.wrap (a0+a2))).fdiv (2^(min (1:Int).toNat IntKind.u64.bits))))+a1))-(1:Int)))-(IntKind.i64.wrap ((IntKind.u64.wrap (IntKind.i64.wrap (x28+x29))).fdiv (2^(min (1:Int).toNat IntKind.u64.bits)))))))/\((IntKind.i64.wrap ((IntKind.i64.wrap ((IntKind.i64.wrap ((IntKind.i64.wrap ((IntKind.u64.wrap (IntKind.i64.wrap (a0+a2))).fdiv (2^(min (1:Int).toNat IntKind.u64.bits))))+a1))-(1:Int)))-(IntKind.i64.wrap ((IntKind.u64.wrap (IntKind.i64.wrap (x28+x29))).fdiv (2^(min (1:Int).toNat IntKind.u64.bits))))))<(x30.length:Int))/\∃y31:yaa,(x30[(IntKind.i64.wrap ((IntKind.i64.wrap ((IntKind.i64.wrap ((IntKind.i64.wrap ((IntKind.u64.wrap (IntKind.i64.wrap (a0+a2))).fdiv (2^(min (1:Int).toNat IntKind.u64.bits))))+a1))-(1:Int)))-(IntKind.i64.wrap ((IntKind.u64.wrap (IntKind.i64.wrap (x28+x29))).fdiv (2^(min (1:Int).toNat IntKind.u64.bits)))))).toNat]? =some y31)/\(0<=(IntKind.i64.wrap ((IntKind.u64.wrap (IntKind.i64.wrap (x28+x29))).fdiv (2^(min (1:Int).toNat IntKind.u64.bits)))))/\((IntKind.i64.wrap ((IntKind.u64.wrap (IntKind.i64.wrap (x28+x29))).fdiv (2^(min (1:Int).toNat IntKind.u64.bits))))<(x30.length:Int))/\∃y32:yaa,(x30[(IntKind.i64.wrap ((IntKind.u64.wrap (IntKind.i64.wrap (x28+x29))).fdiv (2^(min (1:Int).toNat IntKind.u64.bits)))).toNat]? =some y32)/\∃z33,(g4 (⟨y31.Row,(⟨y31.Part.Rows,y31.Part.L⟩:yae)⟩:yaa) (⟨y32.Row,(⟨y32.Part.Rows,y32.Part.L⟩:yae)⟩:yaa) z33)/\cnd (!(decide (z33<(0:Int)))) (X6 (IntKind.i64.wrap ((IntKind.i64.wrap ((IntKind.u64.wrap (IntKind.i64.wrap (x28+x29))).fdiv (2^(min (1:Int).toNat IntKind.u64.bits))))+(1:Int))) x29 x30) (X6 x28 (IntKind.i64.wrap ((IntKind.u64.wrap (IntKind.i64.wrap (x28+x29))).fdiv (2^(min (1:Int).toNat IntKind.u64.bits)))) x30)) (cnd (decide (x28<a1)) (yaw Xr a0 a1 a2 g4 r0 x28 (decide (a1<(IntKind.i64.wrap ((IntKind.i64.wrap ((IntKind.i64.wrap ((IntKind.u64.wrap (IntKind.i64.wrap (a0+a2))).fdiv (2^(min (1:Int).toNat IntKind.u64.bits))))+a1))-x28)))) x30) (yaw Xr a0 a1 a2 g4 r0 x28 false x30))
def yaq (Xr:(yaa→yaa→Int→Prop)→Int→Int→Int→(List yaa)→(List yaa)→Prop) (a0 a1 a2:Int) (g4:yaa→yaa→Int→Prop) (r0:List yaa) (x25 x26:Int) (x27:List yaa):Prop:=
 ∀X6:Int->Int->(List yaa)->Prop,(∀x28 x29 x30,yaX Xr a0 a1 a2 g4 r0 X6 x28 x29 x30->X6 x28 x29 x30)->X6 x25 x26 x27
def yaH (Xr:(yaa→yaa→Int→Prop)→Int→Int→Int→(List yaa)→(List yaa)→Prop) (g4:yaa→yaa→Int→Prop) (a0 a1 a2:Int) (a3 r0:List yaa):Prop:=
 cnd ((IntKind.i64.wrap (a1-a0))==(1:Int)) (∀X1:Int->Int->(List yaa)->Prop,(∀x1 x2 x3,yaG a0 g4 r0 X1 x1 x2 x3->X1 x1 x2 x3)->X1 a1 a2 a3) (cnd ((IntKind.i64.wrap (a2-a1))==(1:Int)) (∀X3:Int->Int->(List yaa)->Prop,(∀x13 x14 x15,yaF a1 g4 r0 X3 x13 x14 x15->X3 x13 x14 x15)->X3 a0 a1 a3) (cnd (decide ((IntKind.i64.wrap ((IntKind.u64.wrap (IntKind.i64.wrap (a0+a2))).fdiv (2^(min (1:Int).toNat IntKind.u64.bits))))<a1)) (yaq Xr a0 a1 a2 g4 r0 (IntKind.i64.wrap ((IntKind.i64.wrap ((IntKind.i64.wrap ((IntKind.u64.wrap (IntKind.i64.wrap (a0+a2))).fdiv (2^(min (1:Int).toNat IntKind.u64.bits))))+a1))-a2)) (IntKind.i64.wrap ((IntKind.u64.wrap (IntKind.i64.wrap (a0+a2))).fdiv (2^(min (1:Int).toNat IntKind.u64.bits)))) a3) (yaq Xr a0 a1 a2 g4 r0 a0 a1 a3)))
theorem ydk (r0:List yaa) (x1:Int) {X2:Int→(List yaa)→Prop} {x7:Int} {x8:List yaa} (h:yaU r0 x1 X2 x7 x8):ybo x1 r0 X2 x7 x8:=by
 unfold ybo
 unfold yaU at h
 exact h
theorem ydr (a0:Int) (g4:yaa→yaa→Int→Prop) (r0:List yaa) {X1:Int→Int→(List yaa)→Prop} {x1 x2:Int} {x3:List yaa} (h:yaG a0 g4 r0 X1 x1 x2 x3):ybu a0 g4 r0 X1 x1 x2 x3:=by
 unfold ybu
 unfold yaG at h
 refine yak h (fun h=> ?_) (fun h=> ?_)
 ·exact h
 ·intro X2 k
  exact h X2 (fun x7 x8 q=>k x7 x8 (ydk r0 x1 q))
theorem ydt (r0:List yaa) (x13:Int) {X4:Int→(List yaa)→Prop} {x19:Int} {x20:List yaa} (h:yaW r0 x13 X4 x19 x20):ybv x13 r0 X4 x19 x20:=by
 unfold ybv
 unfold yaW at h
 exact h
theorem ydo (a1:Int) (g4:yaa→yaa→Int→Prop) (r0:List yaa) {X3:Int→Int→(List yaa)→Prop} {x13 x14:Int} {x15:List yaa} (h:yaF a1 g4 r0 X3 x13 x14 x15):ybn a1 g4 r0 X3 x13 x14 x15:=by
 unfold ybn
 unfold yaF at h
 refine yak h (fun h=> ?_) (fun h=> ?_)
 ·exact h
 ·intro X4 k
  exact h X4 (fun x19 x20 q=>k x19 x20 (ydt r0 x13 q))
theorem ydm (Xr:(yaa→yaa→Int→Prop)→Int→Int→Int→(List yaa)→(List yaa)→Prop) (a0 a2:Int) (g4:yaa→yaa→Int→Prop) (r0:List yaa) (x37:Int) {x39:Bool} {x40:List yaa} (h:yaz Xr a0 a2 g4 r0 x37 x39 x40):ybt Xr g4 a0 a2 x37 r0 x39 x40:=by
 unfold ybt
 unfold yaz at h
 exact h
theorem ydq (Xr:(yaa→yaa→Int→Prop)→Int→Int→Int→(List yaa)→(List yaa)→Prop) (a0 a2:Int) (g4:yaa→yaa→Int→Prop) (r0:List yaa) {x37:Int} {x38:List yaa} (h:yam Xr a0 a2 g4 r0 x37 x38):ybp Xr g4 a0 a2 r0 x37 x38:=by
 unfold ybp
 unfold yam at h
 intro J9 kJ9
 have hJ9:∀x39 x40,yaz Xr a0 a2 g4 r0 x37 x39 x40->J9 x39 x40:=fun x39 x40 q=>kJ9 x39 x40 (ydm Xr a0 a2 g4 r0 x37 q)
 refine yak h (fun h=> ?_) (fun h=> ?_)
 ·exact hJ9 _ _ h
 ·exact hJ9 _ _ h
theorem ydi (J8:Int→(List yaa)→Prop) (Xr:(yaa→yaa→Int→Prop)→Int→Int→Int→(List yaa)→(List yaa)→Prop) (a0 a2:Int) (g4:yaa→yaa→Int→Prop) (r0:List yaa) (x34 x35:Int) (hJ8:∀(x37:Int) (x38:(List yaa)),yam Xr a0 a2 g4 r0 x37 x38→J8 x37 x38) {x42:Bool} {x43:List yaa} (h:yav Xr a0 a2 g4 r0 x34 x35 x42 x43):ybj Xr g4 a0 x34 a2 J8 x35 x42 x43:=by
 unfold ybj
 unfold yav at h
 refine yak h (fun h=> ?_) (fun h=> ?_)
 ·obtain ⟨z44,h⟩:=h
  refine ⟨z44,?_⟩
  obtain ⟨h0,h⟩:=h
  refine ⟨h0,?_⟩
  obtain ⟨h0,h⟩:=h
  refine ⟨h0,?_⟩
  exact hJ8 _ _ h
 ·exact hJ8 _ _ h
theorem ydx (Xr:(yaa→yaa→Int→Prop)→Int→Int→Int→(List yaa)→(List yaa)→Prop) (a0 a2:Int) (g4:yaa→yaa→Int→Prop) (r0:List yaa) {x34 x35:Int} {x36:List yaa} (h:yan Xr a0 a2 g4 r0 x34 x35 x36):ybs Xr g4 a0 a2 r0 x34 x35 x36:=by
 unfold ybs
 unfold yan at h
 intro J8 kJ8
 have hJ8:∀x37 x38,yam Xr a0 a2 g4 r0 x37 x38->J8 x37 x38:=fun x37 x38 q=>kJ8 x37 x38 (ydq Xr a0 a2 g4 r0 q)
 intro J10 kJ10
 have hJ10:∀x42 x43,yav Xr a0 a2 g4 r0 x34 x35 x42 x43->J10 x42 x43:=fun x42 x43 q=>kJ10 x42 x43 (ydi J8 Xr a0 a2 g4 r0 x34 x35 hJ8 q)
 refine yak h (fun h=> ?_) (fun h=> ?_)
 ·exact hJ10 _ _ h
 ·exact hJ10 _ _ h
theorem ydh (J7:Int→Int→(List yaa)→Prop) (Xr:(yaa→yaa→Int→Prop)→Int→Int→Int→(List yaa)→(List yaa)→Prop) (a0 a1 a2:Int) (g4:yaa→yaa→Int→Prop) (r0:List yaa) (x28:Int) (hJ7:∀(x34:Int) (x35:Int) (x36:(List yaa)),yan Xr a0 a2 g4 r0 x34 x35 x36→J7 x34 x35 x36) {x45:Bool} {x46:List yaa} (h:yaw Xr a0 a1 a2 g4 r0 x28 x45 x46):ybk g4 x28 a1 a0 a2 J7 x45 x46:=by
 unfold ybk
 unfold yaw at h
 refine yak h (fun h=> ?_) (fun h=> ?_)
 ·obtain ⟨z47,h⟩:=h
  refine ⟨z47,?_⟩
  obtain ⟨h0,h⟩:=h
  refine ⟨h0,?_⟩
  obtain ⟨h0,h⟩:=h
  refine ⟨h0,?_⟩
  exact hJ7 _ _ _ h
 ·exact hJ7 _ _ _ h
theorem ydv (Xr:(yaa→yaa→Int→Prop)→Int→Int→Int→(List yaa)→(List yaa)→Prop) (a0 a1 a2:Int) (g4:yaa→yaa→Int→Prop) (r0:List yaa) {X6:Int→Int→(List yaa)→Prop} {x28 x29:Int} {x30:List yaa} (h:yaX Xr a0 a1 a2 g4 r0 X6 x28 x29 x30):ybr a0 a2 a1 g4 Xr r0 X6 x28 x29 x30:=by
 unfold ybr
 unfold yaX at h
 refine yak h (fun h=> ?_) (fun h=> ?_)
 ·exact h
 ·intro J7 kJ7
  have hJ7:∀x34 x35 x36,yan Xr a0 a2 g4 r0 x34 x35 x36->J7 x34 x35 x36:=fun x34 x35 x36 q=>kJ7 x34 x35 x36 (ydx Xr a0 a2 g4 r0 q)
  intro J11 kJ11
  have hJ11:∀x45 x46,yaw Xr a0 a1 a2 g4 r0 x28 x45 x46->J11 x45 x46:=fun x45 x46 q=>kJ11 x45 x46 (ydh J7 Xr a0 a1 a2 g4 r0 x28 hJ7 q)
  refine yak h (fun h=> ?_) (fun h=> ?_)
  ·exact hJ11 _ _ h
  ·exact hJ11 _ _ h
theorem ydl (Xr:(yaa→yaa→Int→Prop)→Int→Int→Int→(List yaa)→(List yaa)→Prop) (a0 a1 a2:Int) (g4:yaa→yaa→Int→Prop) (r0:List yaa) {x25 x26:Int} {x27:List yaa} (h:yaq Xr a0 a1 a2 g4 r0 x25 x26 x27):ybq a0 a2 a1 g4 Xr r0 x25 x26 x27:=by
 unfold ybq
 unfold yaq at h
 intro X6 k
 exact h X6 (fun x28 x29 x30 q=>k x28 x29 x30 (ydv Xr a0 a1 a2 g4 r0 q))
theorem ydW (Xr:(yaa→yaa→Int→Prop)→Int→Int→Int→(List yaa)→(List yaa)→Prop) (g4:yaa→yaa→Int→Prop) (a0 a1 a2:Int) (a3 r0:List yaa) (h:yaH Xr g4 a0 a1 a2 a3 r0):yaM Xr g4 a0 a1 a2 a3 r0:=by
 unfold yaM
 unfold yaH at h
 refine yak h (fun h=> ?_) (fun h=> ?_)
 ·intro X1 k
  exact h X1 (fun x1 x2 x3 q=>k x1 x2 x3 (ydr a0 g4 r0 q))
 ·refine yak h (fun h=> ?_) (fun h=> ?_)
  ·intro X3 k
   exact h X3 (fun x13 x14 x15 q=>k x13 x14 x15 (ydo a1 g4 r0 q))
  ·intro J5 kJ5
   have hJ5:∀x25 x26 x27,yaq Xr a0 a1 a2 g4 r0 x25 x26 x27->J5 x25 x26 x27:=fun x25 x26 x27 q=>kJ5 x25 x26 x27 (ydl Xr a0 a1 a2 g4 r0 q)
   refine yak h (fun h=> ?_) (fun h=> ?_)
   ·exact hJ5 _ _ _ h
   ·exact hJ5 _ _ _ h
theorem yd9 (g4:yaa->yaa->Int->Prop) (a0 a1 a2:Int) (a3 r0:List yaa) (h:∀Xr:(yaa->yaa->Int->Prop)->Int->Int->Int->(List yaa)->(List yaa)->Prop,(∀(g4:yaa->yaa->Int->Prop) (a0:Int) (a1:Int) (a2:Int) (a3:(List yaa)) (r0:(List yaa)),yaH Xr g4 a0 a1 a2 a3 r0->Xr g4 a0 a1 a2 a3 r0)->Xr g4 a0 a1 a2 a3 r0):yaK g4 a0 a1 a2 a3 r0:=fun Xr k=>h Xr fun g4 a0 a1 a2 a3 r0 q=>k g4 a0 a1 a2 a3 r0 (ydW Xr g4 a0 a1 a2 a3 r0 q)
def yah:Sl KK:=⟨58,[(4,[34,34],[3])],⟨[(0, .row 2000000),(1, .it .i64),(2, .it .i64),(3, .it .i64)],[],[(2000000,34)]⟩,⟨[],[],[(2000000,34)]⟩,[],[],true,fun _ _ _=>True⟩
def yaY:Sl KK:=⟨58,[(4,[34,34],[3])],⟨[(0, .row 2000000),(1, .it .i64),(2, .it .i64),(3, .it .i64)],[],[(2000000,34)]⟩,⟨[],[],[(2000000,34)]⟩,[],[],true,apFs (K:=KK) (ctT yah.ti) (ctT yah.te) [(4,[34,34],[3])] yaK⟩
def ydY:An KK:=(.s (.s .o (.c (.s .o (.s .o (.s (.b (.l ⟨[(0, .row 2000000),(1, .kp 15),(4, .kp 16),(10, .it .i64),(11, .it .i64)],[],[(2000000,34)]⟩ (fun _=>(.s (.s .o (.c .o .o)) (.b (.s .o (.s .o (.c .o .o)))))))) (.s (.s .o (.b (.l ⟨[(0, .row 2000000),(10, .kp 20),(13, .it .i64)],[],[(2000000,34)]⟩ (fun _=>(.s (.s .o (.c .o .o)) (.s (.b .o) .o)))))) .o)))) .o)) (.s (.s .o (.c (.s .o (.s .o (.s (.b (.l ⟨[(0, .row 2000000),(2, .kp 35),(4, .kp 36),(14, .it .i64),(15, .it .i64)],[],[(2000000,34)]⟩ (fun _=>(.s (.s .o (.c .o .o)) (.b (.s .o (.s .o (.c .o .o)))))))) (.s (.s .o (.b (.l ⟨[(0, .row 2000000),(14, .kp 40),(17, .it .i64)],[],[(2000000,34)]⟩ (fun _=>(.s (.s .o (.c .o .o)) (.s (.b .o) .o)))))) .o)))) .o)) (.s .o (.s .o (.s .o (.j ⟨[(0, .row 2000000),(1, .kp 41),(2, .kp 42),(3, .kp 43),(4, .kp 44),(18, .kp 45),(19, .kp 46),(20, .it .i64),(21, .it .i64)],[],[(2000000,34)]⟩ (.s .o (.c (.s .o .o) (.s .o .o))) (fun _=>(.s .o (.s (.b (.l ⟨[(0, .row 2000000),(1, .kp 41),(2, .kp 42),(3, .kp 43),(4, .kp 44),(18, .kp 45),(19, .kp 46),(20, .it .i64),(21, .it .i64),(22, .kp 52)],[],[(2000000,34)]⟩ (fun _=>(.s (.s .o (.c .o .o)) (.b (.s .o (.s .o (.c .o .o)))))))) (.s .o (.j ⟨[(0, .row 2000000),(1, .kp 41),(3, .kp 43),(4, .kp 44),(18, .kp 45),(20, .it .i64),(24, .it .i64)],[],[(2000000,34)]⟩ (.j ⟨[(0, .row 2000000),(1, .kp 41),(2, .kp 42),(3, .kp 43),(4, .kp 44),(18, .kp 45),(20, .kp 64),(24, .kp 65),(185, .bl)],[],[(2000000,34)]⟩ .o (fun _=>(.c .o .o))) (fun _=>(.j ⟨[(0, .row 2000000),(3, .kp 43),(4, .kp 44),(18, .kp 45),(24, .it .i64)],[],[(2000000,34)]⟩ (.j ⟨[(0, .row 2000000),(1, .kp 41),(3, .kp 43),(4, .kp 44),(18, .kp 45),(20, .kp 62),(24, .kp 63),(199, .bl)],[],[(2000000,34)]⟩ .o (fun _=>(.c .o .o))) (fun _=>(.j ⟨[(0, .row 2000000),(3, .kp 43),(4, .kp 44),(18, .kp 45),(24, .kp 61),(213, .bl)],[],[(2000000,34)]⟩ .o (fun _=>(.c .o .o)))))))))))))))))
def ydV (Xr:(yaa->yaa->Int->Prop)->Int->Int->Int->(List yaa)->(List yaa)->Prop):Cf KK:=⟨CC,[],[⟨58,[(4,[34,34],[3])],⟨[(0, .row 2000000),(1, .it .i64),(2, .it .i64),(3, .it .i64)],[],[(2000000,34)]⟩,⟨[],[],[(2000000,34)]⟩,[],[],true,apFs (K:=KK) (ctT yah.ti) (ctT yah.te) [(4,[34,34],[3])] Xr⟩,ya3],220,[],none,false⟩
theorem ydO (Xr:(yaa→yaa→Int→Prop)→Int→Int→Int→(List yaa)→(List yaa)→Prop) (hX:∀(F4:FV KK) (hF4:FOk Try.prog CC F4) (a0:Int) (a1:Int) (a2:Int) (a3:(List yaa)) (r0:(List yaa)),Xr (curF [3] [34,34] F4.W) a0 a1 a2 a3 r0→SlC Try.prog CC yah [F4] [.i a0, .i a1, .i a2, .l 34 a3] [.l 34 r0]):∀(F4:FV KK) (hF4:FOk Try.prog CC F4) (a0:Int) (a1:Int) (a2:Int) (a3:(List yaa)) (r0:(List yaa)),yaM Xr (curF [3] [34,34] F4.W) a0 a1 a2 a3 r0→SlC Try.prog CC yah [F4] [.i a0, .i a1, .i a2, .l 34 a3] [.l 34 r0]:=by
 intro F4 hF4 a0 a1 a2 a3 r0 h
 refine yk6 (F:=ydV Xr) ybg yaE (yjI ?_ (yjI yeo yaD)) t58 (A:=ydY) (sp:=yah) rfl (by kernel_rfl) (by kernel_rfl) (Nat.le_of_ble_eq_true (by kernel_rfl)) (fs:= [F4]) (env:= [.i a0, .i a1, .i a2, .l 34 a3]) (out:= [.l 34 r0]) (by kernel_rfl) (fun G hG=>by simp at hG;subst hG;assumption) (X:=yaM Xr (curF [3] [34,34] F4.W) a0 a1 a2 a3 r0) h (by kernel_rfl)
 clear h a0 a1 a2 a3 r0 hF4 F4
 intro fs env out hl hF hW
 obtain ⟨F4,fs4,rfl,h0⟩:=ynb hW
 obtain ⟨rfl,h1⟩:=yj1 h0
 obtain ⟨a0,ea0,rfl,h2⟩:=ycQ h1
 obtain ⟨a1,ea1,rfl,h3⟩:=ycQ h2
 obtain ⟨a2,ea2,rfl,h4⟩:=ycQ h3
 obtain ⟨a3,ea3,rfl,h5⟩:=ycQ h4
 obtain ⟨rfl,h6⟩:=yj8 h5
 obtain ⟨r0,er0,rfl,h7⟩:=yhc h6
 obtain ⟨rfl,h8⟩:=yg9 h7
 show SlC Try.prog CC ⟨58,[(4,[34,34],[3])],⟨[(0, .row 2000000),(1, .it .i64),(2, .it .i64),(3, .it .i64)],[],[(2000000,34)]⟩,⟨[],[],[(2000000,34)]⟩,[],[],true,apFs (K:=KK) (ctT yah.ti) (ctT yah.te) [(4,[34,34],[3])] Xr⟩ [F4] [.i a0, .i a1, .i a2, .l 34 a3] [.l 34 r0]
 rw[show SlC Try.prog CC ⟨58,[(4,[34,34],[3])],⟨[(0, .row 2000000),(1, .it .i64),(2, .it .i64),(3, .it .i64)],[],[(2000000,34)]⟩,⟨[],[],[(2000000,34)]⟩,[],[],true,apFs (K:=KK) (ctT yah.ti) (ctT yah.te) [(4,[34,34],[3])] Xr⟩ [F4] [.i a0, .i a1, .i a2, .l 34 a3] [.l 34 r0]=SlC Try.prog CC yah [F4] [.i a0, .i a1, .i a2, .l 34 a3] [.l 34 r0] by kernel_rfl]
 exact hX F4 (hF _ (by simp)) a0 a1 a2 a3 r0 h8
theorem ydU:SlOk Try.prog CC yaY:=by
 intro fs env out hl hF hW
 obtain ⟨F4,fs4,rfl,h0⟩:=ynb hW
 obtain ⟨rfl,h1⟩:=yj1 h0
 obtain ⟨a0,ea0,rfl,h2⟩:=ycQ h1
 obtain ⟨a1,ea1,rfl,h3⟩:=ycQ h2
 obtain ⟨a2,ea2,rfl,h4⟩:=ycQ h3
 obtain ⟨a3,ea3,rfl,h5⟩:=ycQ h4
 obtain ⟨rfl,h6⟩:=yj8 h5
 obtain ⟨r0,er0,rfl,h7⟩:=yhc h6
 obtain ⟨rfl,h8⟩:=yg9 h7
 show SlC Try.prog CC yaY [F4] [.i a0, .i a1, .i a2, .l 34 a3] [.l 34 r0]
 rw[show SlC Try.prog CC yaY [F4] [.i a0, .i a1, .i a2, .l 34 a3] [.l 34 r0]=SlC Try.prog CC yah [F4] [.i a0, .i a1, .i a2, .l 34 a3] [.l 34 r0] by kernel_rfl]
 exact h8 (fun g4 a0 a1 a2 a3 r0=>∀F4:FV KK,FOk Try.prog CC F4->curF [3] [34,34] F4.W=g4->SlC Try.prog CC yah [F4] [.i a0, .i a1, .i a2, .l 34 a3] [.l 34 r0]) (fun g4 a0 a1 a2 a3 r0 h=>fun F4 hF4 e4=>ydO (fun g4 a0 a1 a2 a3 r0=>∀F4:FV KK,FOk Try.prog CC F4->curF [3] [34,34] F4.W=g4->SlC Try.prog CC yah [F4] [.i a0, .i a1, .i a2, .l 34 a3] [.l 34 r0]) (fun F4 hF4 a0 a1 a2 a3 r0 h=>h F4 hF4 rfl) F4 hF4 a0 a1 a2 a3 r0 (by subst e4;exact h)) F4 (hF _ (by simp)) rfl
def ycq (a0:Int) (g2:yaa→yaa→Int→Prop) (x6:Int) (X2:Int→(List yaa)→Prop) (X3:Int→Int→(List yaa)→Prop) (x8 x9:Int) (x10:List yaa):Prop:=
 cnd (decide (x9<=a0)) (∃z11,(yaK g2 x8 (IntKind.i64.wrap (x8+x6)) x9 x10 z11)/\(z11.length=x10.length)/\X3 x9 (IntKind.i64.wrap (x9+(IntKind.i64.wrap ((2:Int)*x6)))) z11) (cnd (decide ((IntKind.i64.wrap (x8+x6))<a0)) (∃z12,(yaK g2 x8 (IntKind.i64.wrap (x8+x6)) a0 x10 z12)/\(z12.length=x10.length)/\X2 (IntKind.i64.wrap (x6*(2:Int))) z12) (X2 (IntKind.i64.wrap (x6*(2:Int))) x10))
def yet (a0:Int) (g2:yaa→yaa→Int→Prop) (r0:List yaa) (X2:Int→(List yaa)→Prop) (x6:Int) (x7:List yaa):Prop:=
 cnd (decide (x6<a0)) (∀X3:Int->Int->(List yaa)->Prop,(∀x8 x9 x10,ycq a0 g2 x6 X2 X3 x8 x9 x10->X3 x8 x9 x10)->X3 (0:Int) (IntKind.i64.wrap ((2:Int)*x6)) x7) (x7=r0)
def yep (a0:Int) (g2:yaa→yaa→Int→Prop) (r0:List yaa) (X1:Int→Int→(List yaa)→Prop) (x1 x2:Int) (x3:List yaa):Prop:=
 cnd (decide (x2<=a0)) (∃z4,(yao g2 x1 x2 x3 z4)/\(z4.length=x3.length)/\X1 x2 (IntKind.i64.wrap (x2+(20:Int))) z4) (∃z5,(yao g2 x1 a0 x3 z5)/\(z5.length=x3.length)/\∀X2:Int->(List yaa)->Prop,(∀x6 x7,yet a0 g2 r0 X2 x6 x7->X2 x6 x7)->X2 (20:Int) z5)
def yaR (g2:yaa→yaa→Int→Prop) (a0:Int) (a1 r0:List yaa):Prop:=
 ∀X1:Int->Int->(List yaa)->Prop,(∀x1 x2 x3,yep a0 g2 r0 X1 x1 x2 x3->X1 x1 x2 x3)->X1 (0:Int) (20:Int) a1
def ya5:Sl KK:=⟨40,[(2,[34,34],[3])],⟨[(0, .row 2000000),(1, .it .i64)],[],[(2000000,34)]⟩,⟨[],[],[(2000000,34)]⟩,[],[],true,fun _ _ _=>True⟩
def ya4:Sl KK:=⟨40,[(2,[34,34],[3])],⟨[(0, .row 2000000),(1, .it .i64)],[],[(2000000,34)]⟩,⟨[],[],[(2000000,34)]⟩,[],[],true,apFs (K:=KK) (ctT ya5.ti) (ctT ya5.te) [(2,[34,34],[3])] yaR⟩
def yes:An KK:=(.s .o (.s .o (.s (.b (.l ⟨[(0, .row 2000000),(1, .kp 6),(2, .kp 7),(6, .kp 8),(7, .it .i64),(8, .it .i64)],[],[(2000000,34)]⟩ (fun _=>(.s (.s .o (.c .o .o)) (.b (.s .o (.s .o .o))))))) (.s .o (.b (.l ⟨[(0, .row 2000000),(1, .kp 6),(2, .kp 7),(6, .it .i64)],[],[(2000000,34)]⟩ (fun _=>(.s (.s .o (.c .o .o)) (.b (.s .o (.s (.b (.l ⟨[(0, .row 2000000),(1, .kp 6),(2, .kp 7),(6, .kp 24),(7, .it .i64),(8, .it .i64)],[],[(2000000,34)]⟩ (fun _=>(.s (.s .o (.c .o .o)) (.b (.s .o (.s .o .o))))))) (.s (.s .o (.s .o (.c .o .o))) .o))))))))))))
def yeu:Cf KK:=⟨CC,[],[yaL,yaY],63,[],none,false⟩
theorem yev:SlOk Try.prog CC ya4:=by
 intro fs env out hl hF hW
 obtain ⟨F2,fs2,rfl,h0⟩:=ynb hW
 obtain ⟨rfl,h1⟩:=yj1 h0
 obtain ⟨a0,ea0,rfl,h2⟩:=ycQ h1
 obtain ⟨a1,ea1,rfl,h3⟩:=ycQ h2
 obtain ⟨rfl,h4⟩:=yj8 h3
 obtain ⟨r0,er0,rfl,h5⟩:=yhc h4
 obtain ⟨rfl,h6⟩:=yg9 h5
 show SlC Try.prog CC ya4 [F2] [.i a0, .l 34 a1] [.l 34 r0]
 rw[show SlC Try.prog CC ya4 [F2] [.i a0, .l 34 a1] [.l 34 r0]=SlC Try.prog CC ya5 [F2] [.i a0, .l 34 a1] [.l 34 r0] by kernel_rfl]
 exact yk6 (F:=yeu) ybg yaE (yjI ycW (yjI ydU yaD)) t40 (A:=yes) (sp:=ya5) rfl (by kernel_rfl) (by kernel_rfl) (Nat.le_of_ble_eq_true (by kernel_rfl)) (fs:= [F2]) (env:= [.i a0, .l 34 a1]) (out:= [.l 34 r0]) (by kernel_rfl) hF (X:=yaR (curF [3] [34,34] F2.W) a0 a1 r0) h6 (by kernel_rfl)
def ya6 (g1:yaa→yaa→Int→Prop) (a0 r0:List yaa):Prop:=
 ∃z1,(yaR g1 (a0.length:Int) a0 z1)/\(z1.length=a0.length)/\z1=r0
def ya0:Sl KK:=⟨21,[(1,[34,34],[3])],⟨[(0, .row 2000000)],[],[(2000000,34)]⟩,⟨[],[],[(2000000,34)]⟩,[],[],true,fun _ _ _=>True⟩
def ya1:Sl KK:=⟨21,[(1,[34,34],[3])],⟨[(0, .row 2000000)],[],[(2000000,34)]⟩,⟨[],[],[(2000000,34)]⟩,[],[],true,apFs (K:=KK) (ctT ya0.ti) (ctT ya0.te) [(1,[34,34],[3])] ya6⟩
def yd0:An KK:= .o
def yef:Cf KK:=⟨CC,[],[ya4],9,[],none,false⟩
theorem yek:SlOk Try.prog CC ya1:=by
 intro fs env out hl hF hW
 obtain ⟨F1,fs1,rfl,h0⟩:=ynb hW
 obtain ⟨rfl,h1⟩:=yj1 h0
 obtain ⟨a0,ea0,rfl,h2⟩:=ycQ h1
 obtain ⟨rfl,h3⟩:=yj8 h2
 obtain ⟨r0,er0,rfl,h4⟩:=yhc h3
 obtain ⟨rfl,h5⟩:=yg9 h4
 show SlC Try.prog CC ya1 [F1] [.l 34 a0] [.l 34 r0]
 rw[show SlC Try.prog CC ya1 [F1] [.l 34 a0] [.l 34 r0]=SlC Try.prog CC ya0 [F1] [.l 34 a0] [.l 34 r0] by kernel_rfl]
 exact yk6 (F:=yef) ybg yaE (yjI yev yaD) t21 (A:=yd0) (sp:=ya0) rfl (by kernel_rfl) (by kernel_rfl) (Nat.le_of_ble_eq_true (by kernel_rfl)) (fs:= [F1]) (env:= [.l 34 a0]) (out:= [.l 34 r0]) (by kernel_rfl) hF (X:=ya6 (curF [3] [34,34] F1.W) a0 r0) h5 (by kernel_rfl)
def yhD (x5:List yaa) (y6:yaa) (X1:(List yaa)→Int→(List yaa)→Prop) (x3:List yaa) (x4:Int) (x7:Bool) (x8:List yaa):Prop:=
 cnd x7 ((0<=(IntKind.i64.wrap ((x5.length:Int)-(1:Int))))/\((IntKind.i64.wrap ((x5.length:Int)-(1:Int)))<(x8.length:Int))/\∃y9:yaa,(x8[(IntKind.i64.wrap ((x5.length:Int)-(1:Int))).toNat]? =some y9)/\∃z10,(ycI (⟨y9.Part.Rows,y9.Part.L⟩:yae) (⟨y6.Part.Rows,y6.Part.L⟩:yae) z10)/\(0<=(IntKind.i64.wrap ((x5.length:Int)-(1:Int))))/\((IntKind.i64.wrap ((x5.length:Int)-(1:Int)))<(x8.length:Int))/\∃y11:yaa,(x8[(IntKind.i64.wrap ((x5.length:Int)-(1:Int))).toNat]? =some y11)/\X1 x3 (IntKind.i64.wrap (x4+(1:Int))) (x8.set ((IntKind.i64.wrap ((x5.length:Int)-(1:Int))).toNat) (⟨y11.Row,z10⟩:yaa))) ((x8.length<=1000000000)/\X1 x3 (IntKind.i64.wrap (x4+(1:Int))) (x8++([(⟨y6.Row,(⟨y6.Part.Rows,y6.Part.L⟩:yae)⟩:yaa)]:List yaa)))
def yhJ (z2 r0:List yaa) (X1:(List yaa)→Int→(List yaa)→Prop) (x3:List yaa) (x4:Int) (x5:List yaa):Prop:=
 cnd (decide (x4<(z2.length:Int))) ((0<=x4)/\(x4<(x3.length:Int))/\∃y6:yaa,(x3[x4.toNat]? =some y6)/\∀J2:Bool->(List yaa)->Prop,(∀x7 x8,yhD x5 y6 X1 x3 x4 x7 x8->J2 x7 x8)->cnd (decide ((0:Int)<=(IntKind.i64.wrap ((x5.length:Int)-(1:Int))))) ((0<=(IntKind.i64.wrap ((x5.length:Int)-(1:Int))))/\((IntKind.i64.wrap ((x5.length:Int)-(1:Int)))<(x5.length:Int))/\∃y12:yaa,(x5[(IntKind.i64.wrap ((x5.length:Int)-(1:Int))).toNat]? =some y12)/\∃z13,(ycd y12.Row y6.Row z13)/\J2 (z13==(0:Int)) x5) (J2 false x5)) (x5=r0)
def ybW (a0:List (List yaa)) (r0:List yaa):Prop:=
 ∃z1,(yaQ a0 z1)/\∃z2,(ya6 yem z1 z2)/\(z2.length=z1.length)/\∀X1:(List yaa)->Int->(List yaa)->Prop,(∀x3 x4 x5,yhJ z2 r0 X1 x3 x4 x5->X1 x3 x4 x5)->X1 z2 (0:Int) ([]:List yaa)
def yei (X1:(List yaa)→Int→(List yaa)→Prop) (x3:List yaa) (x4:Int) (x5:List yaa) (y6:yaa) (x7:Bool) (x8:List yaa):Prop:=
 cnd x7 ((0<=(IntKind.i64.wrap ((x5.length:Int)-(1:Int))))/\((IntKind.i64.wrap ((x5.length:Int)-(1:Int)))<(x8.length:Int))/\∃y9:yaa,(x8[(IntKind.i64.wrap ((x5.length:Int)-(1:Int))).toNat]? =some y9)/\∃z10,(ycI (⟨y9.Part.Rows,y9.Part.L⟩:yae) (⟨y6.Part.Rows,y6.Part.L⟩:yae) z10)/\(0<=(IntKind.i64.wrap ((x5.length:Int)-(1:Int))))/\((IntKind.i64.wrap ((x5.length:Int)-(1:Int)))<(x8.length:Int))/\∃y11:yaa,(x8[(IntKind.i64.wrap ((x5.length:Int)-(1:Int))).toNat]? =some y11)/\X1 x3 (IntKind.i64.wrap (x4+(1:Int))) (x8.set ((IntKind.i64.wrap ((x5.length:Int)-(1:Int))).toNat) (⟨y11.Row,z10⟩:yaa))) ((x8.length<=1000000000)/\X1 x3 (IntKind.i64.wrap (x4+(1:Int))) (x8++([(⟨y6.Row,(⟨y6.Part.Rows,y6.Part.L⟩:yae)⟩:yaa)]:List yaa)))
def yfn (r0 z2:List yaa) (X1:(List yaa)→Int→(List yaa)→Prop) (x3:List yaa) (x4:Int) (x5:List yaa):Prop:=
 cnd (decide (x4<(z2.length:Int))) ((0<=x4)/\(x4<(x3.length:Int))/\∃y6:yaa,(x3[x4.toNat]? =some y6)/\cnd (decide ((0:Int)<=(IntKind.i64.wrap ((x5.length:Int)-(1:Int))))) ((0<=(IntKind.i64.wrap ((x5.length:Int)-(1:Int))))/\((IntKind.i64.wrap ((x5.length:Int)-(1:Int)))<(x5.length:Int))/\∃y12:yaa,(x5[(IntKind.i64.wrap ((x5.length:Int)-(1:Int))).toNat]? =some y12)/\∃z13,(ycd y12.Row y6.Row z13)/\yei X1 x3 x4 x5 y6 (z13==(0:Int)) x5) (yei X1 x3 x4 x5 y6 false x5)) (x5=r0)
def ykU (a0:List (List yaa)) (r0:List yaa):Prop:=
 ∃z1,(yaQ a0 z1)/\∃z2,(ya6 yem z1 z2)/\(z2.length=z1.length)/\∀X1:(List yaa)->Int->(List yaa)->Prop,(∀x3 x4 x5,yfn r0 z2 X1 x3 x4 x5->X1 x3 x4 x5)->X1 z2 (0:Int) ([]:List yaa)
theorem ynl (X1:(List yaa)→Int→(List yaa)→Prop) (x3:List yaa) (x4:Int) (x5:List yaa) (y6:yaa) {x7:Bool} {x8:List yaa} (h:yei X1 x3 x4 x5 y6 x7 x8):yhD x5 y6 X1 x3 x4 x7 x8:=by
 unfold yhD
 unfold yei at h
 exact h
theorem ynr (r0 z2:List yaa) {X1:(List yaa)→Int→(List yaa)→Prop} {x3:List yaa} {x4:Int} {x5:List yaa} (h:yfn r0 z2 X1 x3 x4 x5):yhJ z2 r0 X1 x3 x4 x5:=by
 unfold yhJ
 unfold yfn at h
 refine yak h (fun h=> ?_) (fun h=> ?_)
 ·obtain ⟨h0,h⟩:=h
  refine ⟨h0,?_⟩
  obtain ⟨h0,h⟩:=h
  refine ⟨h0,?_⟩
  obtain ⟨y6,h⟩:=h
  refine ⟨y6,?_⟩
  obtain ⟨h0,h⟩:=h
  refine ⟨h0,?_⟩
  intro J2 kJ2
  have hJ2:∀x7 x8,yei X1 x3 x4 x5 y6 x7 x8->J2 x7 x8:=fun x7 x8 q=>kJ2 x7 x8 (ynl X1 x3 x4 x5 y6 q)
  refine yak h (fun h=> ?_) (fun h=> ?_)
  ·obtain ⟨h0,h⟩:=h
   refine ⟨h0,?_⟩
   obtain ⟨h0,h⟩:=h
   refine ⟨h0,?_⟩
   obtain ⟨y12,h⟩:=h
   refine ⟨y12,?_⟩
   obtain ⟨h0,h⟩:=h
   refine ⟨h0,?_⟩
   obtain ⟨z13,h⟩:=h
   refine ⟨z13,?_⟩
   obtain ⟨h0,h⟩:=h
   refine ⟨h0,?_⟩
   exact hJ2 _ _ h
  ·exact hJ2 _ _ h
 ·exact h
theorem ysk (a0:List (List yaa)) (r0:List yaa) (h:ykU a0 r0):ybW a0 r0:=by
 unfold ybW
 unfold ykU at h
 obtain ⟨z1,h⟩:=h
 refine ⟨z1,?_⟩
 obtain ⟨h0,h⟩:=h
 refine ⟨h0,?_⟩
 obtain ⟨z2,h⟩:=h
 refine ⟨z2,?_⟩
 obtain ⟨h0,h⟩:=h
 refine ⟨h0,?_⟩
 obtain ⟨h0,h⟩:=h
 refine ⟨h0,?_⟩
 intro X1 k
 exact h X1 (fun x3 x4 x5 q=>k x3 x4 x5 (ynr r0 z2 q))
def yk5:Sp KK:=⟨6,[.v 25],[26],appW (K:=KK) [26] [.v 25] ybW⟩
def ypK:An KK:=(.s .o (.s .o (.s .o (.s .o (.s (.s .o (.b (.l ⟨[(4, .row 49),(12, .sl 34),(13, .kp 53),(14, .it .i64)],[],[(49,34)]⟩ (fun _=>(.s .o (.s (.c .o .o) (.s (.b (.s .o (.s (.s .o (.j ⟨[(4, .row 49),(6, .px 6 0),(7, .kp 97),(12, .kp 98),(13, .kp 53),(14, .kp 99),(33, .bl)],[(6,34,[.kp 100, .kp 101, .kp 102])],[(49,34)]⟩ .o (fun _=>(.c (.s .o .o) .o)))) .o))) .o))))))) (.s .o .o))))))
def yqy:Cf KK:=⟨CC,[yiL,yeR,yg1],[ybE,ya1],52,[],none,false⟩
theorem yqR:SpOk Try.prog CC yk5:=yay (F:=yqy) (ps:= [.v 25]) (rs:= [26]) (w:=ybW) ybg (yas ynj (yas ygv (yas yiY yaE))) (yjI ygD (yjI yek yaD)) t6 (A:=ypK) (by kernel_rfl) (by kernel_rfl) (fun a0 r0=>show _=_ by kernel_rfl)
def yf4 (x1:Int) (a0 a1:yab) (r0:Bool) (X1:Int→Prop) (x2:Bool):Prop:=
 cnd x2 ((0<=x1/\x1<(a0.S.length:Int))/\(0<=x1/\x1<(a1.S.length:Int))/\cnd (!((bAt a0.S x1)==(bAt a1.S x1))) ((0<=x1/\x1<(a0.S.length:Int))/\(0<=x1/\x1<(a1.S.length:Int))/\(decide ((bAt a0.S x1)<(bAt a1.S x1)))=r0) (X1 (IntKind.i64.wrap (x1+(1:Int))))) ((decide ((a0.S.length:Int)<(a1.S.length:Int)))=r0)
def yfX (a0 a1:yab) (r0:Bool) (X1:Int→Prop) (x1:Int):Prop:=
 ∀J2:Bool->Prop,(∀x2,yf4 x1 a0 a1 r0 X1 x2->J2 x2)->cnd (decide (x1<(a0.S.length:Int))) (J2 (decide (x1<(a1.S.length:Int)))) (J2 false)
def yaS (a0 a1:yab) (r0:Bool):Prop:=
 cnd (!(a0.Kind==a1.Kind)) ((decide (a0.Kind<a1.Kind))=r0) (cnd (a0.Kind==(3:Int)) (∀X1:Int->Prop,(∀x1,yfX a0 a1 r0 X1 x1->X1 x1)->X1 (0:Int)) ((decide (a0.N<a1.N))=r0))
def yb6 (X1:Int→Prop) (a0 a1:yab) (r0:Bool) (x1:Int) (x2:Bool):Prop:=
 cnd x2 ((0<=x1/\x1<(a0.S.length:Int))/\(0<=x1/\x1<(a1.S.length:Int))/\cnd (!((bAt a0.S x1)==(bAt a1.S x1))) ((0<=x1/\x1<(a0.S.length:Int))/\(0<=x1/\x1<(a1.S.length:Int))/\(decide ((bAt a0.S x1)<(bAt a1.S x1)))=r0) (X1 (IntKind.i64.wrap (x1+(1:Int))))) ((decide ((a0.S.length:Int)<(a1.S.length:Int)))=r0)
def ydA (a0 a1:yab) (r0:Bool) (X1:Int→Prop) (x1:Int):Prop:=
 cnd (decide (x1<(a0.S.length:Int))) (yb6 X1 a0 a1 r0 x1 (decide (x1<(a1.S.length:Int)))) (yb6 X1 a0 a1 r0 x1 false)
def yhR (a0 a1:yab) (r0:Bool):Prop:=
 cnd (!(a0.Kind==a1.Kind)) ((decide (a0.Kind<a1.Kind))=r0) (cnd (a0.Kind==(3:Int)) (∀X1:Int->Prop,(∀x1,ydA a0 a1 r0 X1 x1->X1 x1)->X1 (0:Int)) ((decide (a0.N<a1.N))=r0))
theorem yki (X1:Int→Prop) (a0 a1:yab) (r0:Bool) (x1:Int) {x2:Bool} (h:yb6 X1 a0 a1 r0 x1 x2):yf4 x1 a0 a1 r0 X1 x2:=by
 unfold yf4
 unfold yb6 at h
 exact h
theorem ykL (a0 a1:yab) (r0:Bool) {X1:Int→Prop} {x1:Int} (h:ydA a0 a1 r0 X1 x1):yfX a0 a1 r0 X1 x1:=by
 unfold yfX
 unfold ydA at h
 intro J2 kJ2
 have hJ2:∀x2,yb6 X1 a0 a1 r0 x1 x2->J2 x2:=fun x2 q=>kJ2 x2 (yki X1 a0 a1 r0 x1 q)
 refine yak h (fun h=> ?_) (fun h=> ?_)
 ·exact hJ2 _ h
 ·exact hJ2 _ h
theorem yno (a0 a1:yab) (r0:Bool) (h:yhR a0 a1 r0):yaS a0 a1 r0:=by
 unfold yaS
 unfold yhR at h
 refine yak h (fun h=> ?_) (fun h=> ?_)
 ·exact h
 ·refine yak h (fun h=> ?_) (fun h=> ?_)
  ·intro X1 k
   exact h X1 (fun x1 q=>k x1 (ykL a0 a1 r0 q))
  ·exact h
def yf6:Sp KK:=⟨41,[.v 70, .v 70],[4],appW (K:=KK) [4] [.v 70, .v 70] yaS⟩
def ylW:An KK:=(.s .o (.s (.s .o (.c (.s .o .o) .o)) (.s (.s .o (.c (.s (.s .o (.b (.l ⟨[(2, .px 2 0),(3, .px 3 0),(5, .it .i64)],[(2,70,[.kp 35, .kp 36, .kp 37]),(3,70,[.kp 38, .kp 39, .kp 40])],[]⟩ (fun _=>(.s (.j ⟨[(2, .px 2 0),(3, .px 3 0),(5, .kp 44),(30, .bl)],[(2,70,[.kp 35, .kp 36, .kp 37]),(3,70,[.kp 38, .kp 39, .kp 40])],[]⟩ .o (fun _=>(.c .o .o))) (.s (.b (.s .o (.c (.s .o .o) .o))) .o)))))) (.s .o .o)) .o)) (.s .o .o))))
def ymI:Cf KK:=⟨CC,[],[],63,[],none,false⟩
theorem yhX:SpOk Try.prog CC yf6:=yay (F:=ymI) (ps:= [.v 70, .v 70]) (rs:= [4]) (w:=yaS) ybg yaE yaD t41 (A:=ylW) (by kernel_rfl) (by kernel_rfl) (fun a0 a1 r0=>show _=_ by kernel_rfl)
def yfT (x1:Int) (a0 a1:List yab) (r0:Bool) (X1:Int→Prop) (x2:Bool):Prop:=
 cnd x2 ((0<=x1)/\(x1<(a0.length:Int))/\∃y3:yab,(a0[x1.toNat]? =some y3)/\(0<=x1)/\(x1<(a1.length:Int))/\∃y4:yab,(a1[x1.toNat]? =some y4)/\cnd (!((y3.Kind==y4.Kind)&&((y3.N==y4.N)&&((y3.S==y4.S)&&true)))) ((0<=x1)/\(x1<(a0.length:Int))/\∃y5:yab,(a0[x1.toNat]? =some y5)/\(0<=x1)/\(x1<(a1.length:Int))/\∃y6:yab,(a1[x1.toNat]? =some y6)/\∃z7,(yaS y5 y6 z7)/\z7=r0) (X1 (IntKind.i64.wrap (x1+(1:Int))))) ((a0.length<=maxLen->(a1.length<=maxLen->(decide ((a0.length:Int)<(a1.length:Int)))=r0)))
def yf1 (a0 a1:List yab) (r0:Bool) (X1:Int→Prop) (x1:Int):Prop:=
 ∀J2:Bool->Prop,(∀x2,yfT x1 a0 a1 r0 X1 x2->J2 x2)->(a0.length<=maxLen->cnd (decide (x1<(a0.length:Int))) ((a1.length<=maxLen->J2 (decide (x1<(a1.length:Int))))) (J2 false))
def ybw (a0 a1:List yab) (r0:Bool):Prop:=
 ∀X1:Int->Prop,(∀x1,yf1 a0 a1 r0 X1 x1->X1 x1)->X1 (0:Int)
def yb7 (X1:Int→Prop) (a0 a1:List yab) (r0:Bool) (x1:Int) (x2:Bool):Prop:=
 cnd x2 ((0<=x1)/\(x1<(a0.length:Int))/\∃y3:yab,(a0[x1.toNat]? =some y3)/\(0<=x1)/\(x1<(a1.length:Int))/\∃y4:yab,(a1[x1.toNat]? =some y4)/\cnd (!((y3.Kind==y4.Kind)&&((y3.N==y4.N)&&((y3.S==y4.S)&&true)))) ((0<=x1)/\(x1<(a0.length:Int))/\∃y5:yab,(a0[x1.toNat]? =some y5)/\(0<=x1)/\(x1<(a1.length:Int))/\∃y6:yab,(a1[x1.toNat]? =some y6)/\∃z7,(yaS y5 y6 z7)/\z7=r0) (X1 (IntKind.i64.wrap (x1+(1:Int))))) ((a0.length<=maxLen->(a1.length<=maxLen->(decide ((a0.length:Int)<(a1.length:Int)))=r0)))
def ydE (a0 a1:List yab) (r0:Bool) (X1:Int→Prop) (x1:Int):Prop:=
 (a0.length<=maxLen->cnd (decide (x1<(a0.length:Int))) ((a1.length<=maxLen->yb7 X1 a0 a1 r0 x1 (decide (x1<(a1.length:Int))))) (yb7 X1 a0 a1 r0 x1 false))
def yhv (a0 a1:List yab) (r0:Bool):Prop:=
 ∀X1:Int->Prop,(∀x1,ydE a0 a1 r0 X1 x1->X1 x1)->X1 (0:Int)
theorem ykz (X1:Int→Prop) (a0 a1:List yab) (r0:Bool) (x1:Int) {x2:Bool} (h:yb7 X1 a0 a1 r0 x1 x2):yfT x1 a0 a1 r0 X1 x2:=by
 unfold yfT
 unfold yb7 at h
 exact h
theorem ykA (a0 a1:List yab) (r0:Bool) {X1:Int→Prop} {x1:Int} (h:ydE a0 a1 r0 X1 x1):yf1 a0 a1 r0 X1 x1:=by
 unfold yf1
 unfold ydE at h
 intro J2 kJ2
 have hJ2:∀x2,yb7 X1 a0 a1 r0 x1 x2->J2 x2:=fun x2 q=>kJ2 x2 (ykz X1 a0 a1 r0 x1 q)
 intro c
 replace h:=h c
 refine yak h (fun h=> ?_) (fun h=> ?_)
 ·intro c
  replace h:=h c
  exact hJ2 _ h
 ·exact hJ2 _ h
theorem ync (a0 a1:List yab) (r0:Bool) (h:yhv a0 a1 r0):ybw a0 a1 r0:=by
 unfold ybw
 unfold yhv at h
 intro X1 k
 exact h X1 (fun x1 q=>k x1 (ykA a0 a1 r0 q))
def yfD:Sp KK:=⟨23,[.v 36, .v 36],[4],appW (K:=KK) [4] [.v 36, .v 36] ybw⟩
def yna:An KK:=(.s .o (.s (.s .o (.b (.l ⟨[(0, .kp 8),(1, .kp 9),(5, .it .i64)],[],[]⟩ (fun _=>(.s (.j ⟨[(0, .kp 8),(1, .kp 9),(5, .kp 14),(15, .bl)],[],[]⟩ .o (fun _=>(.c .o .o))) (.s (.b (.s .o (.c (.s .o .o) .o))) .o)))))) (.s .o .o)))
def ym6:Cf KK:=⟨CC,[yf6],[],41,[],none,false⟩
theorem yhK:SpOk Try.prog CC yfD:=yay (F:=ym6) (ps:= [.v 36, .v 36]) (rs:= [4]) (w:=ybw) ybg (yas yhX yaE) yaD t23 (A:=yna) (by kernel_rfl) (by kernel_rfl) (fun a0 a1 r0=>show _=_ by kernel_rfl)
def ydR (a0 a1:List yab) (r0:Bool):Prop:=
 ∃z1,(ybw a0 a1 z1)/\cnd (!z1) (∃z2,(ybw a1 a0 z2)/\(!z2)=r0) (false=r0)
def yjo:Sp KK:=⟨24,[.v 36, .v 36],[4],appW (K:=KK) [4] [.v 36, .v 36] ydR⟩
def yoC:An KK:=(.s .o (.s .o .o))
def yoG:Cf KK:=⟨CC,[yfD],[],15,[],none,false⟩
theorem yol:SpOk Try.prog CC yjo:=yay (F:=yoG) (ps:= [.v 36, .v 36]) (rs:= [4]) (w:=ydR) ybg (yas yhK yaE) yaD t24 (A:=yoC) (by kernel_rfl) (by kernel_rfl) (fun a0 a1 r0=>show _=_ by kernel_rfl)
def yf7 (x3 x1:Int) (a0:List yac) (X1:Int→(List (List yac))→Prop) (x7:List (List yac)):Prop:=
 (0<=(0:Int)/\(0:Int)<=x3/\x3<=(x7.length:Int))/\((yd7 x7 (0:Int) x3).length<=400000000)/\(0<=x1)/\(x1<(a0.length:Int))/\∃y8:yac,(a0[x1.toNat]? =some y8)/\((([]:List (List yac))++(yd7 x7 (0:Int) x3)).length<=1000000000)/\(0<=x3/\x3<=(x7.length:Int)/\(x7.length:Int)<=(x7.length:Int))/\(((([]:List (List yac))++(yd7 x7 (0:Int) x3))++([([y8]:List yac)]:List (List yac))).length<=1000000000)/\((yd7 x7 x3 (x7.length:Int)).length<=400000000)/\X1 (IntKind.i64.wrap (x1+(1:Int))) (((([]:List (List yac))++(yd7 x7 (0:Int) x3))++([([y8]:List yac)]:List (List yac)))++(yd7 x7 x3 (x7.length:Int)))
def yfE (x3 x1:Int) (a0:List yac) (X1:Int→(List (List yac))→Prop) (J4:(List (List yac))→Prop) (x9:Bool) (x10:List (List yac)):Prop:=
 cnd x9 ((0<=x3)/\(x3<(x10.length:Int))/\∃y11:(List yac),(x10[x3.toNat]? =some y11)/\(y11.length<=400000000)/\(0<=x1)/\(x1<(a0.length:Int))/\∃y12:yac,(a0[x1.toNat]? =some y12)/\((([]:List yac)++y11).length<=1000000000)/\(0<=x3)/\(x3<(x10.length:Int))/\∃y13:(List yac),(x10[x3.toNat]? =some y13)/\X1 (IntKind.i64.wrap (x1+(1:Int))) (x10.set x3.toNat ((([]:List yac)++y11)++([y12]:List yac)))) (J4 x10)
def yfN (X2:Int→(List (List yac))→Prop) (x3 x1:Int) (a0:List yac) (X1:Int→(List (List yac))→Prop) (x5:Bool) (x6:List (List yac)):Prop:=
 cnd x5 (X2 (IntKind.i64.wrap (x3+(1:Int))) x6) (∀J4:(List (List yac))->Prop,(∀x7,yf7 x3 x1 a0 X1 x7->J4 x7)->∀J5:Bool->(List (List yac))->Prop,(∀x9 x10,yfE x3 x1 a0 X1 J4 x9 x10->J5 x9 x10)->cnd (decide (x3<(x6.length:Int))) ((0<=x3)/\(x3<(x6.length:Int))/\∃y14:(List yac),(x6[x3.toNat]? =some y14)/\(0<=(0:Int))/\((0:Int)<(y14.length:Int))/\∃y15:yac,(y14[(0:Int).toNat]? =some y15)/\(0<=x1)/\(x1<(a0.length:Int))/\∃y16:yac,(a0[x1.toNat]? =some y16)/\∃z17,(ydR y15.Group y16.Group z17)/\J5 z17 x6) (J5 false x6))
def yfJ (x1:Int) (a0:List yac) (X1 X2:Int→(List (List yac))→Prop) (x3:Int) (x4:List (List yac)):Prop:=
 ∀J3:Bool->(List (List yac))->Prop,(∀x5 x6,yfN X2 x3 x1 a0 X1 x5 x6->J3 x5 x6)->cnd (decide (x3<(x4.length:Int))) ((0<=x3)/\(x3<(x4.length:Int))/\∃y18:(List yac),(x4[x3.toNat]? =some y18)/\(0<=(0:Int))/\((0:Int)<(y18.length:Int))/\∃y19:yac,(y18[(0:Int).toNat]? =some y19)/\(0<=x1)/\(x1<(a0.length:Int))/\∃y20:yac,(a0[x1.toNat]? =some y20)/\∃z21,(ybw y19.Group y20.Group z21)/\J3 z21 x4) (J3 false x4)
def yfz (a0:List yac) (r0:List (List yac)) (X1:Int→(List (List yac))→Prop) (x1:Int) (x2:List (List yac)):Prop:=
 (a0.length<=maxLen->cnd (decide (x1<(a0.length:Int))) (∀X2:Int->(List (List yac))->Prop,(∀x3 x4,yfJ x1 a0 X1 X2 x3 x4->X2 x3 x4)->X2 (0:Int) x2) (x2=r0))
def ycj (a0:List yac) (r0:List (List yac)):Prop:=
 ∀X1:Int->(List (List yac))->Prop,(∀x1 x2,yfz a0 r0 X1 x1 x2->X1 x1 x2)->X1 (0:Int) ([]:List (List yac))
def yca (X1:Int→(List (List yac))→Prop) (a0:List yac) (x1 x3:Int) (x7:List (List yac)):Prop:=
 (0<=(0:Int)/\(0:Int)<=x3/\x3<=(x7.length:Int))/\((yd7 x7 (0:Int) x3).length<=400000000)/\(0<=x1)/\(x1<(a0.length:Int))/\∃y8:yac,(a0[x1.toNat]? =some y8)/\((([]:List (List yac))++(yd7 x7 (0:Int) x3)).length<=1000000000)/\(0<=x3/\x3<=(x7.length:Int)/\(x7.length:Int)<=(x7.length:Int))/\(((([]:List (List yac))++(yd7 x7 (0:Int) x3))++([([y8]:List yac)]:List (List yac))).length<=1000000000)/\((yd7 x7 x3 (x7.length:Int)).length<=400000000)/\X1 (IntKind.i64.wrap (x1+(1:Int))) (((([]:List (List yac))++(yd7 x7 (0:Int) x3))++([([y8]:List yac)]:List (List yac)))++(yd7 x7 x3 (x7.length:Int)))
def yb8 (X1:Int→(List (List yac))→Prop) (a0:List yac) (x1 x3:Int) (x9:Bool) (x10:List (List yac)):Prop:=
 cnd x9 ((0<=x3)/\(x3<(x10.length:Int))/\∃y11:(List yac),(x10[x3.toNat]? =some y11)/\(y11.length<=400000000)/\(0<=x1)/\(x1<(a0.length:Int))/\∃y12:yac,(a0[x1.toNat]? =some y12)/\((([]:List yac)++y11).length<=1000000000)/\(0<=x3)/\(x3<(x10.length:Int))/\∃y13:(List yac),(x10[x3.toNat]? =some y13)/\X1 (IntKind.i64.wrap (x1+(1:Int))) (x10.set x3.toNat ((([]:List yac)++y11)++([y12]:List yac)))) (yca X1 a0 x1 x3 x10)
def ycG (X1 X2:Int→(List (List yac))→Prop) (a0:List yac) (x1 x3:Int) (x5:Bool) (x6:List (List yac)):Prop:=
 cnd x5 (X2 (IntKind.i64.wrap (x3+(1:Int))) x6) (cnd (decide (x3<(x6.length:Int))) ((0<=x3)/\(x3<(x6.length:Int))/\∃y14:(List yac),(x6[x3.toNat]? =some y14)/\(0<=(0:Int))/\((0:Int)<(y14.length:Int))/\∃y15:yac,(y14[(0:Int).toNat]? =some y15)/\(0<=x1)/\(x1<(a0.length:Int))/\∃y16:yac,(a0[x1.toNat]? =some y16)/\∃z17,(ydR y15.Group y16.Group z17)/\yb8 X1 a0 x1 x3 z17 x6) (yb8 X1 a0 x1 x3 false x6))
def yff (X1:Int→(List (List yac))→Prop) (a0:List yac) (x1:Int) (X2:Int→(List (List yac))→Prop) (x3:Int) (x4:List (List yac)):Prop:=
 cnd (decide (x3<(x4.length:Int))) ((0<=x3)/\(x3<(x4.length:Int))/\∃y18:(List yac),(x4[x3.toNat]? =some y18)/\(0<=(0:Int))/\((0:Int)<(y18.length:Int))/\∃y19:yac,(y18[(0:Int).toNat]? =some y19)/\(0<=x1)/\(x1<(a0.length:Int))/\∃y20:yac,(a0[x1.toNat]? =some y20)/\∃z21,(ybw y19.Group y20.Group z21)/\ycG X1 X2 a0 x1 x3 z21 x4) (ycG X1 X2 a0 x1 x3 false x4)
def yfc (a0:List yac) (r0:List (List yac)) (X1:Int→(List (List yac))→Prop) (x1:Int) (x2:List (List yac)):Prop:=
 (a0.length<=maxLen->cnd (decide (x1<(a0.length:Int))) (∀X2:Int->(List (List yac))->Prop,(∀x3 x4,yff X1 a0 x1 X2 x3 x4->X2 x3 x4)->X2 (0:Int) x2) (x2=r0))
def yhA (a0:List yac) (r0:List (List yac)):Prop:=
 ∀X1:Int->(List (List yac))->Prop,(∀x1 x2,yfc a0 r0 X1 x1 x2->X1 x1 x2)->X1 (0:Int) ([]:List (List yac))
theorem ykm (X1:Int→(List (List yac))→Prop) (a0:List yac) (x1 x3:Int) {x7:List (List yac)} (h:yca X1 a0 x1 x3 x7):yf7 x3 x1 a0 X1 x7:=by
 unfold yf7
 unfold yca at h
 exact h
theorem ykv (J4:(List (List yac))→Prop) (X1:Int→(List (List yac))→Prop) (a0:List yac) (x1 x3:Int) (hJ4:∀(x7:(List (List yac))),yca X1 a0 x1 x3 x7→J4 x7) {x9:Bool} {x10:List (List yac)} (h:yb8 X1 a0 x1 x3 x9 x10):yfE x3 x1 a0 X1 J4 x9 x10:=by
 unfold yfE
 unfold yb8 at h
 refine yak h (fun h=> ?_) (fun h=> ?_)
 ·exact h
 ·exact hJ4 _ h
theorem yks (X1 X2:Int→(List (List yac))→Prop) (a0:List yac) (x1 x3:Int) {x5:Bool} {x6:List (List yac)} (h:ycG X1 X2 a0 x1 x3 x5 x6):yfN X2 x3 x1 a0 X1 x5 x6:=by
 unfold yfN
 unfold ycG at h
 refine yak h (fun h=> ?_) (fun h=> ?_)
 ·exact h
 ·intro J4 kJ4
  have hJ4:∀x7,yca X1 a0 x1 x3 x7->J4 x7:=fun x7 q=>kJ4 x7 (ykm X1 a0 x1 x3 q)
  intro J5 kJ5
  have hJ5:∀x9 x10,yb8 X1 a0 x1 x3 x9 x10->J5 x9 x10:=fun x9 x10 q=>kJ5 x9 x10 (ykv J4 X1 a0 x1 x3 hJ4 q)
  refine yak h (fun h=> ?_) (fun h=> ?_)
  ·obtain ⟨h0,h⟩:=h
   refine ⟨h0,?_⟩
   obtain ⟨h0,h⟩:=h
   refine ⟨h0,?_⟩
   obtain ⟨y14,h⟩:=h
   refine ⟨y14,?_⟩
   obtain ⟨h0,h⟩:=h
   refine ⟨h0,?_⟩
   obtain ⟨h0,h⟩:=h
   refine ⟨h0,?_⟩
   obtain ⟨h0,h⟩:=h
   refine ⟨h0,?_⟩
   obtain ⟨y15,h⟩:=h
   refine ⟨y15,?_⟩
   obtain ⟨h0,h⟩:=h
   refine ⟨h0,?_⟩
   obtain ⟨h0,h⟩:=h
   refine ⟨h0,?_⟩
   obtain ⟨h0,h⟩:=h
   refine ⟨h0,?_⟩
   obtain ⟨y16,h⟩:=h
   refine ⟨y16,?_⟩
   obtain ⟨h0,h⟩:=h
   refine ⟨h0,?_⟩
   obtain ⟨z17,h⟩:=h
   refine ⟨z17,?_⟩
   obtain ⟨h0,h⟩:=h
   refine ⟨h0,?_⟩
   exact hJ5 _ _ h
  ·exact hJ5 _ _ h
theorem ykt (X1:Int→(List (List yac))→Prop) (a0:List yac) (x1:Int) {X2:Int→(List (List yac))→Prop} {x3:Int} {x4:List (List yac)} (h:yff X1 a0 x1 X2 x3 x4):yfJ x1 a0 X1 X2 x3 x4:=by
 unfold yfJ
 unfold yff at h
 intro J3 kJ3
 have hJ3:∀x5 x6,ycG X1 X2 a0 x1 x3 x5 x6->J3 x5 x6:=fun x5 x6 q=>kJ3 x5 x6 (yks X1 X2 a0 x1 x3 q)
 refine yak h (fun h=> ?_) (fun h=> ?_)
 ·obtain ⟨h0,h⟩:=h
  refine ⟨h0,?_⟩
  obtain ⟨h0,h⟩:=h
  refine ⟨h0,?_⟩
  obtain ⟨y18,h⟩:=h
  refine ⟨y18,?_⟩
  obtain ⟨h0,h⟩:=h
  refine ⟨h0,?_⟩
  obtain ⟨h0,h⟩:=h
  refine ⟨h0,?_⟩
  obtain ⟨h0,h⟩:=h
  refine ⟨h0,?_⟩
  obtain ⟨y19,h⟩:=h
  refine ⟨y19,?_⟩
  obtain ⟨h0,h⟩:=h
  refine ⟨h0,?_⟩
  obtain ⟨h0,h⟩:=h
  refine ⟨h0,?_⟩
  obtain ⟨h0,h⟩:=h
  refine ⟨h0,?_⟩
  obtain ⟨y20,h⟩:=h
  refine ⟨y20,?_⟩
  obtain ⟨h0,h⟩:=h
  refine ⟨h0,?_⟩
  obtain ⟨z21,h⟩:=h
  refine ⟨z21,?_⟩
  obtain ⟨h0,h⟩:=h
  refine ⟨h0,?_⟩
  exact hJ3 _ _ h
 ·exact hJ3 _ _ h
theorem ykQ (a0:List yac) (r0:List (List yac)) {X1:Int→(List (List yac))→Prop} {x1:Int} {x2:List (List yac)} (h:yfc a0 r0 X1 x1 x2):yfz a0 r0 X1 x1 x2:=by
 unfold yfz
 unfold yfc at h
 intro c
 replace h:=h c
 refine yak h (fun h=> ?_) (fun h=> ?_)
 ·intro X2 k
  exact h X2 (fun x3 x4 q=>k x3 x4 (ykt X1 a0 x1 q))
 ·exact h
theorem yns (a0:List yac) (r0:List (List yac)) (h:yhA a0 r0):ycj a0 r0:=by
 unfold ycj
 unfold yhA at h
 intro X1 k
 exact h X1 (fun x1 x2 q=>k x1 x2 (ykQ a0 r0 q))
def yhI:Sp KK:=⟨7,[.v 27],[46],appW (K:=KK) [46] [.v 27] ycj⟩
def ymS:An KK:=(.s .o (.s .o (.s (.s .o (.b (.l ⟨[(0, .kp 74),(3, .row 700003),(4, .it .i64)],[],[(700003,27)]⟩ (fun _=>(.s (.s .o (.c .o .o)) (.s (.b (.s .o (.s (.b (.l ⟨[(0, .kp 74),(3, .row 700003),(4, .kp 139),(5, .it .i64)],[],[(700003,27)]⟩ (fun _=>(.s (.j ⟨[(0, .kp 74),(3, .row 700003),(4, .kp 139),(5, .kp 144),(30, .bl)],[],[(700003,27)]⟩ .o (fun _=>(.c .o .o))) (.b .o))))) (.j ⟨[(0, .kp 74),(3, .sl 27),(4, .kp 139),(5, .kp 144)],[],[]⟩ (.j ⟨[(0, .kp 74),(3, .row 700003),(4, .kp 139),(5, .kp 144),(51, .bl)],[],[(700003,27)]⟩ .o (fun _=>(.c (.s .o .o) .o))) (fun _=> .o))))) .o)))))) (.s .o .o))))
def ymo:Cf KK:=⟨CC,[yfD,yjo],[],84,[],none,false⟩
theorem ymN:SpOk Try.prog CC yhI:=yay (F:=ymo) (ps:= [.v 27]) (rs:= [46]) (w:=ycj) ybg (yas yhK (yas yol yaE)) yaD t7 (A:=ymS) (by kernel_rfl) (by kernel_rfl) (fun a0 r0=>show _=_ by kernel_rfl)
def yk2 (a1 a0:Int) (r0:List Int) (X1:Int→(List Int)→Prop) (x1:Int) (x2:List Int):Prop:=
 cnd (decide (x1<((List.replicate a1.toNat (0:Int)).length:Int))) ((¬(IntKind.i64.wrap ((8:Int)*x1))<0)/\(0<=(IntKind.i64.wrap ((IntKind.i64.wrap (a1-(1:Int)))-x1)))/\((IntKind.i64.wrap ((IntKind.i64.wrap (a1-(1:Int)))-x1))<(x2.length:Int))/\∃y3:Int,(x2[(IntKind.i64.wrap ((IntKind.i64.wrap (a1-(1:Int)))-x1)).toNat]? =some y3)/\X1 (IntKind.i64.wrap (x1+(1:Int))) (x2.set ((IntKind.i64.wrap ((IntKind.i64.wrap (a1-(1:Int)))-x1)).toNat) (IntKind.u8.wrap (a0.fdiv (2^(min (IntKind.i64.wrap ((8:Int)*x1)).toNat IntKind.u64.bits)))))) (x2=r0)
def yex (a0 a1:Int) (r0:List Int):Prop:=
 (0<=a1)/\(1*a1.toNat<=281474976710656)/\(a1<=1000000000)/\∀X1:Int->(List Int)->Prop,(∀x1 x2,yk2 a1 a0 r0 X1 x1 x2->X1 x1 x2)->X1 (0:Int) (List.replicate a1.toNat (0:Int))
def yhG:Sp KK:=⟨43,[.v 65, .v 3],[23],appW (K:=KK) [23] [.v 65, .v 3] yex⟩
def yp4:An KK:=(.s .o (.s .o (.s (.s .o (.b (.l ⟨[(0, .kp 5),(1, .kp 6),(5, .row 8),(10, .kp 7),(11, .it .i64)],[],[(8,5)]⟩ (fun _=>(.s .o (.s (.c .o .o) (.s (.b (.s .o .o)) .o))))))) (.s .o .o))))
def yqf:Cf KK:=⟨CC,[],[],27,[],none,false⟩
theorem ylf:SpOk Try.prog CC yhG:=yay (F:=yqf) (ps:= [.v 65, .v 3]) (rs:= [23]) (w:=yex) ybg yaE yaD t43 (A:=yp4) (by kernel_rfl) (by kernel_rfl) (fun a0 a1 r0=>show _=_ by kernel_rfl)
def ydT (a0:Int) (r0:Str):Prop:=
 ∃z1,(yex (bits .xor .u64 (IntKind.u64.wrap a0) (9223372036854775808:Int)) (8:Int) z1)/\(z1.map toB)=r0
def yiX:Sp KK:=⟨42,[.v 2],[9],appW (K:=KK) [9] [.v 2] ydT⟩
def ysp:An KK:=(.s .o (.s .o .o))
def ysy:Cf KK:=⟨CC,[yhG],[],8,[],none,false⟩
theorem ymH:SpOk Try.prog CC yiX:=yay (F:=ysy) (ps:= [.v 2]) (rs:= [9]) (w:=ydT) ybg (yas ylf yaE) yaD t42 (A:=ysp) (by kernel_rfl) (by kernel_rfl) (fun a0 r0=>show _=_ by kernel_rfl)
def ygG (a0:yad) (r0:Str):Prop:=
 cnd (a0.Kind==(1:Int)) (((([IntKind.u8.wrap a0.Kind]:List Int).map toB).length+(([IntKind.u8.wrap a0.N]:List Int).map toB).length<=9223372036854775807)/\((([IntKind.u8.wrap a0.Kind]:List Int).map toB)++(([IntKind.u8.wrap a0.N]:List Int).map toB))=r0) (cnd (a0.Kind==(2:Int)) (∃z1,(ydT a0.N z1)/\((([IntKind.u8.wrap a0.Kind]:List Int).map toB).length+z1.length<=9223372036854775807)/\((([IntKind.u8.wrap a0.Kind]:List Int).map toB)++z1)=r0) (cnd (a0.Kind==(3:Int)) (((([IntKind.u8.wrap a0.Kind]:List Int).map toB).length+a0.S.length<=9223372036854775807)/\((([IntKind.u8.wrap a0.Kind]:List Int).map toB)++a0.S)=r0) ((([IntKind.u8.wrap a0.Kind]:List Int).map toB)=r0)))
def ym7:Sp KK:=⟨25,[.v 61],[9],appW (K:=KK) [9] [.v 61] ygG⟩
def yrH:An KK:=(.s .o (.s .o (.s (.s .o (.b (.s .o (.c .o (.s .o (.c .o (.s .o (.c .o .o)))))))) (.s .o .o))))
def yrN:Cf KK:=⟨CC,[yiX],[],34,[],none,false⟩
theorem ysi:SpOk Try.prog CC ym7:=yay (F:=yrN) (ps:= [.v 61]) (rs:= [9]) (w:=ygG) ybg (yas ymH yaE) yaD t25 (A:=yrH) (by kernel_rfl) (by kernel_rfl) (fun a0 r0=>show _=_ by kernel_rfl)
def ykW (a0:List Str) (r0:Str) (X1:Int→(List Int)→Prop) (x1:Int) (x2:List Int):Prop:=
 cnd (decide (x1<(a0.length:Int))) ((0<=x1)/\(x1<(a0.length:Int))/\∃y3:Str,(a0[x1.toNat]? =some y3)/\∃z4,(yex (IntKind.u64.wrap (y3.length:Int)) (4:Int) z4)/\(x2.length<=1000000000)/\(z4.length<=400000000)/\((x2++z4).length<=1000000000)/\(y3.length<=400000000)/\X1 (IntKind.i64.wrap (x1+(1:Int))) ((x2++z4)++(y3.map ofB))) ((x2.map toB)=r0)
def ycp (a0:List Str) (r0:Str):Prop:=
 (a0.length<=maxLen->∀X1:Int->(List Int)->Prop,(∀x1 x2,ykW a0 r0 X1 x1 x2->X1 x1 x2)->X1 (0:Int) ([]:List Int))
def ygc:Sp KK:=⟨26,[.v 76],[9],appW (K:=KK) [9] [.v 76] ycp⟩
def ypH:An KK:=(.s .o (.s .o (.s (.s .o (.b (.l ⟨[(3, .row 20),(6, .kp 6),(7, .kp 7),(8, .it .i64)],[],[(20,5)]⟩ (fun _=>(.s .o (.s (.c .o .o) (.s (.b (.s .o (.s .o .o))) .o))))))) (.s .o .o))))
def yqb:Cf KK:=⟨CC,[yhG],[],24,[],none,false⟩
theorem yhW:SpOk Try.prog CC ygc:=yay (F:=yqb) (ps:= [.v 76]) (rs:= [9]) (w:=ycp) ybg (yas ylf yaE) yaD t26 (A:=ypH) (by kernel_rfl) (by kernel_rfl) (fun a0 r0=>show _=_ by kernel_rfl)
def ynR (a0:List yad) (r0:Str) (X1:Int→(List Str)→Prop) (x1:Int) (x2:List Str):Prop:=
 cnd (decide (x1<(a0.length:Int))) ((0<=x1)/\(x1<(a0.length:Int))/\∃y3:yad,(a0[x1.toNat]? =some y3)/\∃z4,(ygG y3 z4)/\(x2.length<=1000000000)/\X1 (IntKind.i64.wrap (x1+(1:Int))) (x2++([z4]:List Str))) (∃z5,(ycp x2 z5)/\z5=r0)
def ycu (a0:List yad) (r0:Str):Prop:=
 (a0.length<=maxLen->∀X1:Int->(List Str)->Prop,(∀x1 x2,ynR a0 r0 X1 x1 x2->X1 x1 x2)->X1 (0:Int) ([]:List Str))
def yih:Sp KK:=⟨8,[.v 29],[9],appW (K:=KK) [9] [.v 29] ycu⟩
def yud:An KK:=(.s .o (.s .o (.s (.s .o (.b (.l ⟨[(3, .row 16),(6, .kp 6),(7, .kp 7),(8, .it .i64)],[],[(16,9)]⟩ (fun _=>(.s .o (.s (.c .o .o) (.s (.b (.s .o .o)) .o))))))) (.s .o .o))))
def yut:Cf KK:=⟨CC,[ym7,ygc],[],20,[],none,false⟩
theorem ykE:SpOk Try.prog CC yih:=yay (F:=yut) (ps:= [.v 29]) (rs:= [9]) (w:=ycu) ybg (yas ysi (yas yhW yaE)) yaD t8 (A:=yud) (by kernel_rfl) (by kernel_rfl) (fun a0 r0=>show _=_ by kernel_rfl)
def yk3 (r0:Str) (X1:Int→Str→Int→Prop) (x1:Int) (x2:Str) (x3:Int):Prop:=
 cnd (decide (x3<(8:Int))) (((([IntKind.u8.wrap (x1.tmod (256:Int))]:List Int).map toB).length+x2.length<=9223372036854775807)/\X1 (IntKind.u64.wrap (x1.tdiv (256:Int))) ((([IntKind.u8.wrap (x1.tmod (256:Int))]:List Int).map toB)++x2) (IntKind.i64.wrap (x3+(1:Int)))) (x2=r0)
def yeI (a0:Int) (r0:Str):Prop:=
 ∀X1:Int->Str->Int->Prop,(∀x1 x2 x3,yk3 r0 X1 x1 x2 x3->X1 x1 x2 x3)->X1 (IntKind.u64.wrap ((IntKind.u64.wrap a0)+(9223372036854775808:Int))) ([]:Str) (0:Int)
def ylh:Sp KK:=⟨27,[.v 2],[9],appW (K:=KK) [9] [.v 2] yeI⟩
def yqW:An KK:=(.s .o (.s .o (.s .o (.s (.s .o (.b (.l ⟨[(3, .it .u64),(4, .st),(5, .it .i64)],[],[]⟩ (fun _=>(.s (.s .o (.c .o .o)) (.s (.b (.s .o .o)) .o)))))) (.s .o .o)))))
def yqz:Cf KK:=⟨CC,[],[],23,[],none,false⟩
theorem ypO:SpOk Try.prog CC ylh:=yay (F:=yqz) (ps:= [.v 2]) (rs:= [9]) (w:=yeI) ybg yaE yaD t27 (A:=yqW) (by kernel_rfl) (by kernel_rfl) (fun a0 r0=>show _=_ by kernel_rfl)
def yj0 (a0:List Str) (r0:Str) (X1:Str→Int→Prop) (x1:Str) (x2:Int):Prop:=
 (a0.length<=maxLen->cnd (decide (x2<(a0.length:Int))) ((0<=x2)/\(x2<(a0.length:Int))/\∃y3:Str,(a0[x2.toNat]? =some y3)/\(0<=x2)/\(x2<(a0.length:Int))/\∃y4:Str,(a0[x2.toNat]? =some y4)/\((([IntKind.u8.wrap ((IntKind.i64.wrap ((y3.length:Int).tdiv (16777216:Int))).tmod (256:Int)),IntKind.u8.wrap ((IntKind.i64.wrap ((y3.length:Int).tdiv (65536:Int))).tmod (256:Int)),IntKind.u8.wrap ((IntKind.i64.wrap ((y3.length:Int).tdiv (256:Int))).tmod (256:Int)),IntKind.u8.wrap ((y3.length:Int).tmod (256:Int))]:List Int).map toB).length+y4.length<=9223372036854775807)/\(x1.length+((([IntKind.u8.wrap ((IntKind.i64.wrap ((y3.length:Int).tdiv (16777216:Int))).tmod (256:Int)),IntKind.u8.wrap ((IntKind.i64.wrap ((y3.length:Int).tdiv (65536:Int))).tmod (256:Int)),IntKind.u8.wrap ((IntKind.i64.wrap ((y3.length:Int).tdiv (256:Int))).tmod (256:Int)),IntKind.u8.wrap ((y3.length:Int).tmod (256:Int))]:List Int).map toB)++y4).length<=9223372036854775807)/\X1 (x1++((([IntKind.u8.wrap ((IntKind.i64.wrap ((y3.length:Int).tdiv (16777216:Int))).tmod (256:Int)),IntKind.u8.wrap ((IntKind.i64.wrap ((y3.length:Int).tdiv (65536:Int))).tmod (256:Int)),IntKind.u8.wrap ((IntKind.i64.wrap ((y3.length:Int).tdiv (256:Int))).tmod (256:Int)),IntKind.u8.wrap ((y3.length:Int).tmod (256:Int))]:List Int).map toB)++y4)) (IntKind.i64.wrap (x2+(1:Int)))) (x1=r0))
def ycS (a0:List Str) (r0:Str):Prop:=
 ∀X1:Str->Int->Prop,(∀x1 x2,yj0 a0 r0 X1 x1 x2->X1 x1 x2)->X1 ([]:Str) (0:Int)
def yj4:Sp KK:=⟨28,[.v 76],[9],appW (K:=KK) [9] [.v 76] ycS⟩
def yof:An KK:=(.s .o (.s .o (.s (.s .o (.b (.l ⟨[(0, .kp 4),(3, .st),(4, .it .i64)],[],[]⟩ (fun _=>(.s (.s .o (.c .o .o)) (.s (.b (.s .o .o)) .o)))))) (.s .o .o))))
def ypj:Cf KK:=⟨CC,[],[],42,[],none,false⟩
theorem yo6:SpOk Try.prog CC yj4:=yay (F:=ypj) (ps:= [.v 76]) (rs:= [9]) (w:=ycS) ybg yaE yaD t28 (A:=yof) (by kernel_rfl) (by kernel_rfl) (fun a0 r0=>show _=_ by kernel_rfl)
def yh5 (x1:Int) (a0:List yab) (X1:Int→(List Str)→Prop) (x6:Str) (x7:List Str):Prop:=
 (0<=x1)/\(x1<(a0.length:Int))/\∃y8:yab,(a0[x1.toNat]? =some y8)/\(x6.length+y8.S.length<=9223372036854775807)/\(x7.length<=1000000000)/\X1 (IntKind.i64.wrap (x1+(1:Int))) (x7++([x6++y8.S]:List Str))
def yhy (x1:Int) (a0:List yab) (X1:Int→(List Str)→Prop) (x4:Str) (x5:List Str):Prop:=
 ∀J3:Str->(List Str)->Prop,(∀x6 x7,yh5 x1 a0 X1 x6 x7->J3 x6 x7)->(0<=x1)/\(x1<(a0.length:Int))/\∃y9:yab,(a0[x1.toNat]? =some y9)/\cnd (y9.Kind==(2:Int)) ((0<=x1)/\(x1<(a0.length:Int))/\∃y10:yab,(a0[x1.toNat]? =some y10)/\∃z11,(yeI y10.N z11)/\(x4.length+z11.length<=9223372036854775807)/\J3 (x4++z11) x5) (J3 x4 x5)
def yh1 (a0:List yab) (r0:Str) (X1:Int→(List Str)→Prop) (x1:Int) (x2:List Str):Prop:=
 (a0.length<=maxLen->cnd (decide (x1<(a0.length:Int))) ((0<=x1)/\(x1<(a0.length:Int))/\∃y3:yab,(a0[x1.toNat]? =some y3)/\∀J2:Str->(List Str)->Prop,(∀x4 x5,yhy x1 a0 X1 x4 x5->J2 x4 x5)->(0<=x1)/\(x1<(a0.length:Int))/\∃y12:yab,(a0[x1.toNat]? =some y12)/\cnd (y12.Kind==(1:Int)) ((0<=x1)/\(x1<(a0.length:Int))/\∃y13:yab,(a0[x1.toNat]? =some y13)/\((([IntKind.u8.wrap y3.Kind]:List Int).map toB).length+(([IntKind.u8.wrap y13.N]:List Int).map toB).length<=9223372036854775807)/\J2 ((([IntKind.u8.wrap y3.Kind]:List Int).map toB)++(([IntKind.u8.wrap y13.N]:List Int).map toB)) x2) (J2 (([IntKind.u8.wrap y3.Kind]:List Int).map toB) x2)) (∃z14,(ycS x2 z14)/\z14=r0))
def ydF (a0:List yab) (r0:Str):Prop:=
 ∀X1:Int->(List Str)->Prop,(∀x1 x2,yh1 a0 r0 X1 x1 x2->X1 x1 x2)->X1 (0:Int) ([]:List Str)
def yc7 (X1:Int→(List Str)→Prop) (a0:List yab) (x1:Int) (x6:Str) (x7:List Str):Prop:=
 (0<=x1)/\(x1<(a0.length:Int))/\∃y8:yab,(a0[x1.toNat]? =some y8)/\(x6.length+y8.S.length<=9223372036854775807)/\(x7.length<=1000000000)/\X1 (IntKind.i64.wrap (x1+(1:Int))) (x7++([x6++y8.S]:List Str))
def ydd (X1:Int→(List Str)→Prop) (a0:List yab) (x1:Int) (x4:Str) (x5:List Str):Prop:=
 (0<=x1)/\(x1<(a0.length:Int))/\∃y9:yab,(a0[x1.toNat]? =some y9)/\cnd (y9.Kind==(2:Int)) ((0<=x1)/\(x1<(a0.length:Int))/\∃y10:yab,(a0[x1.toNat]? =some y10)/\∃z11,(yeI y10.N z11)/\(x4.length+z11.length<=9223372036854775807)/\yc7 X1 a0 x1 (x4++z11) x5) (yc7 X1 a0 x1 x4 x5)
def yfm (a0:List yab) (r0:Str) (X1:Int→(List Str)→Prop) (x1:Int) (x2:List Str):Prop:=
 (a0.length<=maxLen->cnd (decide (x1<(a0.length:Int))) ((0<=x1)/\(x1<(a0.length:Int))/\∃y3:yab,(a0[x1.toNat]? =some y3)/\(0<=x1)/\(x1<(a0.length:Int))/\∃y12:yab,(a0[x1.toNat]? =some y12)/\cnd (y12.Kind==(1:Int)) ((0<=x1)/\(x1<(a0.length:Int))/\∃y13:yab,(a0[x1.toNat]? =some y13)/\((([IntKind.u8.wrap y3.Kind]:List Int).map toB).length+(([IntKind.u8.wrap y13.N]:List Int).map toB).length<=9223372036854775807)/\ydd X1 a0 x1 ((([IntKind.u8.wrap y3.Kind]:List Int).map toB)++(([IntKind.u8.wrap y13.N]:List Int).map toB)) x2) (ydd X1 a0 x1 (([IntKind.u8.wrap y3.Kind]:List Int).map toB) x2)) (∃z14,(ycS x2 z14)/\z14=r0))
def yli (a0:List yab) (r0:Str):Prop:=
 ∀X1:Int->(List Str)->Prop,(∀x1 x2,yfm a0 r0 X1 x1 x2->X1 x1 x2)->X1 (0:Int) ([]:List Str)
theorem ynh (X1:Int→(List Str)→Prop) (a0:List yab) (x1:Int) {x6:Str} {x7:List Str} (h:yc7 X1 a0 x1 x6 x7):yh5 x1 a0 X1 x6 x7:=by
 unfold yh5
 unfold yc7 at h
 exact h
theorem ynH (X1:Int→(List Str)→Prop) (a0:List yab) (x1:Int) {x4:Str} {x5:List Str} (h:ydd X1 a0 x1 x4 x5):yhy x1 a0 X1 x4 x5:=by
 unfold yhy
 unfold ydd at h
 intro J3 kJ3
 have hJ3:∀x6 x7,yc7 X1 a0 x1 x6 x7->J3 x6 x7:=fun x6 x7 q=>kJ3 x6 x7 (ynh X1 a0 x1 q)
 obtain ⟨h0,h⟩:=h
 refine ⟨h0,?_⟩
 obtain ⟨h0,h⟩:=h
 refine ⟨h0,?_⟩
 obtain ⟨y9,h⟩:=h
 refine ⟨y9,?_⟩
 obtain ⟨h0,h⟩:=h
 refine ⟨h0,?_⟩
 refine yak h (fun h=> ?_) (fun h=> ?_)
 ·obtain ⟨h0,h⟩:=h
  refine ⟨h0,?_⟩
  obtain ⟨h0,h⟩:=h
  refine ⟨h0,?_⟩
  obtain ⟨y10,h⟩:=h
  refine ⟨y10,?_⟩
  obtain ⟨h0,h⟩:=h
  refine ⟨h0,?_⟩
  obtain ⟨z11,h⟩:=h
  refine ⟨z11,?_⟩
  obtain ⟨h0,h⟩:=h
  refine ⟨h0,?_⟩
  obtain ⟨h0,h⟩:=h
  refine ⟨h0,?_⟩
  exact hJ3 _ _ h
 ·exact hJ3 _ _ h
theorem ynd (a0:List yab) (r0:Str) {X1:Int→(List Str)→Prop} {x1:Int} {x2:List Str} (h:yfm a0 r0 X1 x1 x2):yh1 a0 r0 X1 x1 x2:=by
 unfold yh1
 unfold yfm at h
 intro c
 replace h:=h c
 refine yak h (fun h=> ?_) (fun h=> ?_)
 ·obtain ⟨h0,h⟩:=h
  refine ⟨h0,?_⟩
  obtain ⟨h0,h⟩:=h
  refine ⟨h0,?_⟩
  obtain ⟨y3,h⟩:=h
  refine ⟨y3,?_⟩
  obtain ⟨h0,h⟩:=h
  refine ⟨h0,?_⟩
  intro J2 kJ2
  have hJ2:∀x4 x5,ydd X1 a0 x1 x4 x5->J2 x4 x5:=fun x4 x5 q=>kJ2 x4 x5 (ynH X1 a0 x1 q)
  obtain ⟨h0,h⟩:=h
  refine ⟨h0,?_⟩
  obtain ⟨h0,h⟩:=h
  refine ⟨h0,?_⟩
  obtain ⟨y12,h⟩:=h
  refine ⟨y12,?_⟩
  obtain ⟨h0,h⟩:=h
  refine ⟨h0,?_⟩
  refine yak h (fun h=> ?_) (fun h=> ?_)
  ·obtain ⟨h0,h⟩:=h
   refine ⟨h0,?_⟩
   obtain ⟨h0,h⟩:=h
   refine ⟨h0,?_⟩
   obtain ⟨y13,h⟩:=h
   refine ⟨y13,?_⟩
   obtain ⟨h0,h⟩:=h
   refine ⟨h0,?_⟩
   obtain ⟨h0,h⟩:=h
   refine ⟨h0,?_⟩
   exact hJ2 _ _ h
  ·exact hJ2 _ _ h
 ·exact h
theorem yrj (a0:List yab) (r0:Str) (h:yli a0 r0):ydF a0 r0:=by
 unfold ydF
 unfold yli at h
 intro X1 k
 exact h X1 (fun x1 x2 q=>k x1 x2 (ynd a0 r0 q))
def yk1:Sp KK:=⟨9,[.v 36],[9],appW (K:=KK) [9] [.v 36] ydF⟩
def yqm:An KK:=(.s .o (.s .o (.s (.s .o (.b (.l ⟨[(0, .kp 8),(3, .row 59),(4, .it .i64)],[],[(59,9)]⟩ (fun _=>(.s (.s .o (.c .o .o)) (.s (.b (.s .o (.j ⟨[(0, .kp 8),(3, .row 59),(4, .kp 14),(5, .st)],[],[(59,9)]⟩ (.s .o (.c .o .o)) (fun _=>(.j ⟨[(0, .kp 8),(3, .row 59),(4, .kp 14),(5, .st)],[],[(59,9)]⟩ (.s .o (.c .o .o)) (fun _=> .o)))))) .o)))))) (.s .o .o))))
def yqL:Cf KK:=⟨CC,[ylh,yj4],[],62,[],none,false⟩
theorem yqY:SpOk Try.prog CC yk1:=yay (F:=yqL) (ps:= [.v 36]) (rs:= [9]) (w:=ydF) ybg (yas ypO (yas yo6 yaE)) yaD t9 (A:=yqm) (by kernel_rfl) (by kernel_rfl) (fun a0 r0=>show _=_ by kernel_rfl)
def yeG (a0 a1:Int) (r0:B128):Prop:=0<=a1/\a1<18446744073709551616/\r0=wN ((a0 % 18446744073709551616).toNat*18446744073709551616+a1.toNat)
def yms:Sp KK:=⟨61,[.v 2, .v 65],[102],appW (K:=KK) [102] [.v 2, .v 65] yeG⟩
theorem yuv {a0:Int} {a1:Int} {r0:B128} (h:yeG a0 a1 r0):AV.Pure Try.prog 61 [.it .i64 a0, .it .u64 a1] (.agg ((yh6 (K:=KK)).E.c r0)):=by
 obtain ⟨q0,q1,rfl⟩:=h
 exact yDQ q0 q1
theorem ysG:SpOk Try.prog CC yms:=by
 intro env r hF h
 obtain ⟨a0,env0,rfl,h1⟩:=yjG h
 obtain ⟨a1,env1,rfl,h2⟩:=yjG h1
 obtain ⟨rfl,h3⟩:=yqC h2
 obtain ⟨r0,_,rfl,h4⟩:=yrF h3
 obtain ⟨rfl,h5⟩:=yve h4
 exact ⟨rfl,(yuv h5).congr (by kernel_rfl) (by kernel_rfl)⟩
def ygi (a0 a1 r0:B128):Prop:=∃m n:Nat,a0=wN m/\a1=wN n/\r0=wN (m+n)
def yj5:Sp KK:=⟨60,[.v 102, .v 102],[102],appW (K:=KK) [102] [.v 102, .v 102] ygi⟩
theorem ypM {a0:B128} {a1:B128} {r0:B128} (h:ygi a0 a1 r0):AV.Pure Try.prog 60 [.agg ((yh6 (K:=KK)).E.c a0), .agg ((yh6 (K:=KK)).E.c a1)] (.agg ((yh6 (K:=KK)).E.c r0)):=by
 obtain ⟨m,n,rfl,rfl,rfl⟩:=h
 exact yzp m n
theorem ypb:SpOk Try.prog CC yj5:=by
 intro env r hF h
 obtain ⟨a0,env0,rfl,h1⟩:=yjG h
 obtain ⟨a1,env1,rfl,h2⟩:=yjG h1
 obtain ⟨rfl,h3⟩:=yqC h2
 obtain ⟨r0,_,rfl,h4⟩:=yrF h3
 obtain ⟨rfl,h5⟩:=yve h4
 exact ⟨rfl,(ypM h5).congr (by kernel_rfl) (by kernel_rfl)⟩
def yh7 (x1:Int) (a0:List yab) (X1:Int→B128→B128→Prop) (x5:Int) (x6 x7:B128):Prop:=
 (0<=x1)/\(x1<(a0.length:Int))/\∃y8:yab,(a0[x1.toNat]? =some y8)/\∃z9,(yeG x5 (IntKind.u64.wrap y8.N) z9)/\∃z10,(ygi x7 z9 z10)/\X1 (IntKind.i64.wrap (x1+(1:Int))) x6 z10
def yhN (a0:List yab) (r0:B128) (X1:Int→B128→B128→Prop) (x1:Int) (x2 x3:B128):Prop:=
 (a0.length<=maxLen->cnd (decide (x1<(a0.length:Int))) ((0<=x1)/\(x1<(a0.length:Int))/\∃y4:yab,(a0[x1.toNat]? =some y4)/\cnd (y4.Kind==(2:Int)) (∀J2:Int->B128->B128->Prop,(∀x5 x6 x7,yh7 x1 a0 X1 x5 x6 x7->J2 x5 x6 x7)->(0<=x1)/\(x1<(a0.length:Int))/\∃y11:yab,(a0[x1.toNat]? =some y11)/\cnd (decide (y11.N<(0:Int))) (J2 (-1:Int) x2 x3) (J2 (0:Int) x2 x3)) (X1 (IntKind.i64.wrap (x1+(1:Int))) x2 x3)) (x3=r0))
def ydL (a0:List yab) (r0:B128):Prop:=
 ∀X1:Int->B128->B128->Prop,(∀x1 x2 x3,yhN a0 r0 X1 x1 x2 x3->X1 x1 x2 x3)->X1 (0:Int) ywg ywg
def yeb (X1:Int→B128→B128→Prop) (a0:List yab) (x1 x5:Int) (x6 x7:B128):Prop:=
 (0<=x1)/\(x1<(a0.length:Int))/\∃y8:yab,(a0[x1.toNat]? =some y8)/\∃z9,(yeG x5 (IntKind.u64.wrap y8.N) z9)/\∃z10,(ygi x7 z9 z10)/\X1 (IntKind.i64.wrap (x1+(1:Int))) x6 z10
def yhh (a0:List yab) (r0:B128) (X1:Int→B128→B128→Prop) (x1:Int) (x2 x3:B128):Prop:=
 (a0.length<=maxLen->cnd (decide (x1<(a0.length:Int))) ((0<=x1)/\(x1<(a0.length:Int))/\∃y4:yab,(a0[x1.toNat]? =some y4)/\cnd (y4.Kind==(2:Int)) ((0<=x1)/\(x1<(a0.length:Int))/\∃y11:yab,(a0[x1.toNat]? =some y11)/\cnd (decide (y11.N<(0:Int))) (yeb X1 a0 x1 (-1:Int) x2 x3) (yeb X1 a0 x1 (0:Int) x2 x3)) (X1 (IntKind.i64.wrap (x1+(1:Int))) x2 x3)) (x3=r0))
def yhw (a0:List yab) (r0:B128):Prop:=
 ∀X1:Int->B128->B128->Prop,(∀x1 x2 x3,yhh a0 r0 X1 x1 x2 x3->X1 x1 x2 x3)->X1 (0:Int) ywg ywg
theorem yny (X1:Int→B128→B128→Prop) (a0:List yab) (x1:Int) {x5:Int} {x6 x7:B128} (h:yeb X1 a0 x1 x5 x6 x7):yh7 x1 a0 X1 x5 x6 x7:=by
 unfold yh7
 unfold yeb at h
 exact h
theorem ynv (a0:List yab) (r0:B128) {X1:Int→B128→B128→Prop} {x1:Int} {x2 x3:B128} (h:yhh a0 r0 X1 x1 x2 x3):yhN a0 r0 X1 x1 x2 x3:=by
 unfold yhN
 unfold yhh at h
 intro c
 replace h:=h c
 refine yak h (fun h=> ?_) (fun h=> ?_)
 ·obtain ⟨h0,h⟩:=h
  refine ⟨h0,?_⟩
  obtain ⟨h0,h⟩:=h
  refine ⟨h0,?_⟩
  obtain ⟨y4,h⟩:=h
  refine ⟨y4,?_⟩
  obtain ⟨h0,h⟩:=h
  refine ⟨h0,?_⟩
  refine yak h (fun h=> ?_) (fun h=> ?_)
  ·intro J2 kJ2
   have hJ2:∀x5 x6 x7,yeb X1 a0 x1 x5 x6 x7->J2 x5 x6 x7:=fun x5 x6 x7 q=>kJ2 x5 x6 x7 (yny X1 a0 x1 q)
   obtain ⟨h0,h⟩:=h
   refine ⟨h0,?_⟩
   obtain ⟨h0,h⟩:=h
   refine ⟨h0,?_⟩
   obtain ⟨y11,h⟩:=h
   refine ⟨y11,?_⟩
   obtain ⟨h0,h⟩:=h
   refine ⟨h0,?_⟩
   refine yak h (fun h=> ?_) (fun h=> ?_)
   ·exact hJ2 _ _ _ h
   ·exact hJ2 _ _ _ h
  ·exact h
 ·exact h
theorem yrT (a0:List yab) (r0:B128) (h:yhw a0 r0):ydL a0 r0:=by
 unfold ydL
 unfold yhw at h
 intro X1 k
 exact h X1 (fun x1 x2 x3 q=>k x1 x2 x3 (ynv a0 r0 q))
def yk0:Sp KK:=⟨45,[.v 35],[102],appW (K:=KK) [102] [.v 35] ydL⟩
def yqP:An KK:=(.s .o (.s .o (.s (.s .o (.b (.l ⟨[(0, .kp 3335),(2, .px 2 0),(3, .px 3 0),(4, .it .i64)],[(2,102,[.v 102]),(3,102,[.v 102])],[]⟩ (fun _=>(.s (.s .o (.c .o .o)) (.s (.b (.s .o (.c (.s .o (.j ⟨[(0, .kp 3335),(2, .px 2 0),(3, .px 3 0),(4, .kp 6156),(5, .it .i64)],[(2,102,[.v 102]),(3,102,[.v 102])],[]⟩ (.s .o (.c .o .o)) (fun _=> .o))) .o))) .o)))))) (.s .o .o))))
def yp9:Cf KK:=⟨CC,[yms,yj5],[],35,[],none,false⟩
theorem yq8:SpOk Try.prog CC yk0:=yay (F:=yp9) (ps:= [.v 35]) (rs:= [102]) (w:=ydL) ybg (yas ysG (yas ypb yaE)) yaD t45 (A:=yqP) (by kernel_rfl) (by kernel_rfl) (fun a0 r0=>show _=_ by kernel_rfl)
def yft (a0:B128) (r0:Int) (r1:Bool):Prop:=∃n:Nat,a0=wN n/\r0=(if allB n then wrap64 ((n % 18446744073709551616:Nat):Int) else 0)/\r1=allB n
def ykZ:Sp KK:=⟨44,[.v 102],[2,4],appW (K:=KK) [2,4] [.v 102] yft⟩
theorem ysj {a0:B128} {r0:Int} {r1:Bool} (h:yft a0 r0 r1):AV.Pure Try.prog 44 [.agg ((yh6 (K:=KK)).E.c a0)] (.tup [.it .i64 r0, .bl r1]):=by
 obtain ⟨n,rfl,rfl,rfl⟩:=h
 exact yC7 n
theorem ypZ:SpOk Try.prog CC ykZ:=by
 intro env r hF h
 obtain ⟨a0,env0,rfl,h1⟩:=yjG h
 obtain ⟨rfl,h2⟩:=yqC h1
 obtain ⟨r0,_,rfl,h3⟩:=yrF h2
 obtain ⟨r1,_,rfl,h4⟩:=yrF h3
 obtain ⟨rfl,h5⟩:=yve h4
 exact ⟨rfl,(ysj h5).congr (by kernel_rfl) (by kernel_rfl)⟩
def ygs (x10:Int) (X2:Int→Int→Int→Str→(List yab)→Prop) (x11 x12:Int) (x13:Str) (x15:Bool) (x16:List yab):Prop:=
 cnd x15 ((0<=x10)/\(x10<(x16.length:Int))/\∃y17:yab,(x16[x10.toNat]? =some y17)/\X2 (IntKind.i64.wrap (x10+(1:Int))) y17.Kind y17.N y17.S x16) (X2 (IntKind.i64.wrap (x10+(1:Int))) x11 x12 x13 x16)
def ygw (a1:Int) (r0:yab) (r1:Int) (X2:Int→Int→Int→Str→(List yab)→Prop) (x10 x11 x12:Int) (x13:Str) (x14:List yab):Prop:=
 cnd (decide (x10<(x14.length:Int))) (∀J3:Bool->(List yab)->Prop,(∀x15 x16,ygs x10 X2 x11 x12 x13 x15 x16->J3 x15 x16)->cnd (x10==(0:Int)) (J3 true x14) (cnd (a1==(3:Int)) ((0<=x10)/\(x10<(x14.length:Int))/\∃y18:yab,(x14[x10.toNat]? =some y18)/\∃z19,(yaS y18 (⟨x11,x12,x13⟩:yab) z19)/\cnd z19 (J3 true x14) (cnd (a1==(4:Int)) ((0<=x10)/\(x10<(x14.length:Int))/\∃y20:yab,(x14[x10.toNat]? =some y20)/\∃z21,(yaS (⟨x11,x12,x13⟩:yab) y20 z21)/\J3 z21 x14) (J3 false x14))) (cnd (a1==(4:Int)) ((0<=x10)/\(x10<(x14.length:Int))/\∃y22:yab,(x14[x10.toNat]? =some y22)/\∃z23,(yaS (⟨x11,x12,x13⟩:yab) y22 z23)/\J3 z23 x14) (J3 false x14)))) ((⟨x11,x12,x13⟩:yab)=r0/\(0:Int)=r1)
def ygu (a0:List yac) (a2 a1:Int) (r0:yab) (r1:Int) (X1:Int→(List yab)→Prop) (x1:Int) (x2:List yab):Prop:=
 (a0.length<=maxLen->cnd (decide (x1<(a0.length:Int))) ((0<=x1)/\(x1<(a0.length:Int))/\∃y3:yac,(a0[x1.toNat]? =some y3)/\(0<=a2)/\(a2<(y3.Values.length:Int))/\∃y4:yab,(y3.Values[a2.toNat]? =some y4)/\cnd (!(y4.Kind==(0:Int))) ((0<=x1)/\(x1<(a0.length:Int))/\∃y5:yac,(a0[x1.toNat]? =some y5)/\(0<=a2)/\(a2<(y5.Values.length:Int))/\∃y6:yab,(y5.Values[a2.toNat]? =some y6)/\(x2.length<=1000000000)/\X1 (IntKind.i64.wrap (x1+(1:Int))) (x2++([y6]:List yab))) (X1 (IntKind.i64.wrap (x1+(1:Int))) x2)) (cnd (a1==(1:Int)) ((⟨(2:Int),(x2.length:Int),([]:Str)⟩:yab)=r0/\(0:Int)=r1) (cnd (a1==(2:Int)) (cnd ((x2.length:Int)==(0:Int)) ((⟨(0:Int),(0:Int),([]:Str)⟩:yab)=r0/\(0:Int)=r1) (∃z7,(ydL x2 z7)/\∃z8 z9,(yft z7 z8 z9)/\cnd (!z9) ((⟨(0:Int),(0:Int),([]:Str)⟩:yab)=r0/\(8:Int)=r1) ((⟨(2:Int),z8,([]:Str)⟩:yab)=r0/\(0:Int)=r1))) (∀X2:Int->Int->Int->Str->(List yab)->Prop,(∀x10 x11 x12 x13 x14,ygw a1 r0 r1 X2 x10 x11 x12 x13 x14->X2 x10 x11 x12 x13 x14)->X2 (0:Int) (0:Int) (0:Int) ([]:Str) x2))))
def ycz (a0:List yac) (a1 a2:Int) (r0:yab) (r1:Int):Prop:=
 cnd (decide (a2<(0:Int))) ((a0.length<=maxLen->(⟨(2:Int),(a0.length:Int),([]:Str)⟩:yab)=r0/\(0:Int)=r1)) (∀X1:Int->(List yab)->Prop,(∀x1 x2,ygu a0 a2 a1 r0 r1 X1 x1 x2->X1 x1 x2)->X1 (0:Int) ([]:List yab))
def ybe (X2:Int→Int→Int→Str→(List yab)→Prop) (x10 x11 x12:Int) (x13:Str) (x15:Bool) (x16:List yab):Prop:=
 cnd x15 ((0<=x10)/\(x10<(x16.length:Int))/\∃y17:yab,(x16[x10.toNat]? =some y17)/\X2 (IntKind.i64.wrap (x10+(1:Int))) y17.Kind y17.N y17.S x16) (X2 (IntKind.i64.wrap (x10+(1:Int))) x11 x12 x13 x16)
def yej (a1:Int) (r0:yab) (r1:Int) (X2:Int→Int→Int→Str→(List yab)→Prop) (x10 x11 x12:Int) (x13:Str) (x14:List yab):Prop:=
 cnd (decide (x10<(x14.length:Int))) (cnd (x10==(0:Int)) (ybe X2 x10 x11 x12 x13 true x14) (cnd (a1==(3:Int)) ((0<=x10)/\(x10<(x14.length:Int))/\∃y18:yab,(x14[x10.toNat]? =some y18)/\∃z19,(yaS y18 (⟨x11,x12,x13⟩:yab) z19)/\cnd z19 (ybe X2 x10 x11 x12 x13 true x14) (cnd (a1==(4:Int)) ((0<=x10)/\(x10<(x14.length:Int))/\∃y20:yab,(x14[x10.toNat]? =some y20)/\∃z21,(yaS (⟨x11,x12,x13⟩:yab) y20 z21)/\ybe X2 x10 x11 x12 x13 z21 x14) (ybe X2 x10 x11 x12 x13 false x14))) (cnd (a1==(4:Int)) ((0<=x10)/\(x10<(x14.length:Int))/\∃y22:yab,(x14[x10.toNat]? =some y22)/\∃z23,(yaS (⟨x11,x12,x13⟩:yab) y22 z23)/\ybe X2 x10 x11 x12 x13 z23 x14) (ybe X2 x10 x11 x12 x13 false x14)))) ((⟨x11,x12,x13⟩:yab)=r0/\(0:Int)=r1)
def yfs (a0:List yac) (a1 a2:Int) (r0:yab) (r1:Int) (X1:Int→(List yab)→Prop) (x1:Int) (x2:List yab):Prop:=
 (a0.length<=maxLen->cnd (decide (x1<(a0.length:Int))) ((0<=x1)/\(x1<(a0.length:Int))/\∃y3:yac,(a0[x1.toNat]? =some y3)/\(0<=a2)/\(a2<(y3.Values.length:Int))/\∃y4:yab,(y3.Values[a2.toNat]? =some y4)/\cnd (!(y4.Kind==(0:Int))) ((0<=x1)/\(x1<(a0.length:Int))/\∃y5:yac,(a0[x1.toNat]? =some y5)/\(0<=a2)/\(a2<(y5.Values.length:Int))/\∃y6:yab,(y5.Values[a2.toNat]? =some y6)/\(x2.length<=1000000000)/\X1 (IntKind.i64.wrap (x1+(1:Int))) (x2++([y6]:List yab))) (X1 (IntKind.i64.wrap (x1+(1:Int))) x2)) (cnd (a1==(1:Int)) ((⟨(2:Int),(x2.length:Int),([]:Str)⟩:yab)=r0/\(0:Int)=r1) (cnd (a1==(2:Int)) (cnd ((x2.length:Int)==(0:Int)) ((⟨(0:Int),(0:Int),([]:Str)⟩:yab)=r0/\(0:Int)=r1) (∃z7,(ydL x2 z7)/\∃z8 z9,(yft z7 z8 z9)/\cnd (!z9) ((⟨(0:Int),(0:Int),([]:Str)⟩:yab)=r0/\(8:Int)=r1) ((⟨(2:Int),z8,([]:Str)⟩:yab)=r0/\(0:Int)=r1))) (∀X2:Int->Int->Int->Str->(List yab)->Prop,(∀x10 x11 x12 x13 x14,yej a1 r0 r1 X2 x10 x11 x12 x13 x14->X2 x10 x11 x12 x13 x14)->X2 (0:Int) (0:Int) (0:Int) ([]:Str) x2))))
def yiH (a0:List yac) (a1 a2:Int) (r0:yab) (r1:Int):Prop:=
 cnd (decide (a2<(0:Int))) ((a0.length<=maxLen->(⟨(2:Int),(a0.length:Int),([]:Str)⟩:yab)=r0/\(0:Int)=r1)) (∀X1:Int->(List yab)->Prop,(∀x1 x2,yfs a0 a1 a2 r0 r1 X1 x1 x2->X1 x1 x2)->X1 (0:Int) ([]:List yab))
theorem ylz (X2:Int→Int→Int→Str→(List yab)→Prop) (x10 x11 x12:Int) (x13:Str) {x15:Bool} {x16:List yab} (h:ybe X2 x10 x11 x12 x13 x15 x16):ygs x10 X2 x11 x12 x13 x15 x16:=by
 unfold ygs
 unfold ybe at h
 exact h
theorem ylq (a1:Int) (r0:yab) (r1:Int) {X2:Int→Int→Int→Str→(List yab)→Prop} {x10 x11 x12:Int} {x13:Str} {x14:List yab} (h:yej a1 r0 r1 X2 x10 x11 x12 x13 x14):ygw a1 r0 r1 X2 x10 x11 x12 x13 x14:=by
 unfold ygw
 unfold yej at h
 refine yak h (fun h=> ?_) (fun h=> ?_)
 ·intro J3 kJ3
  have hJ3:∀x15 x16,ybe X2 x10 x11 x12 x13 x15 x16->J3 x15 x16:=fun x15 x16 q=>kJ3 x15 x16 (ylz X2 x10 x11 x12 x13 q)
  refine yak h (fun h=> ?_) (fun h=> ?_)
  ·exact hJ3 _ _ h
  ·refine yak h (fun h=> ?_) (fun h=> ?_)
   ·obtain ⟨h0,h⟩:=h
    refine ⟨h0,?_⟩
    obtain ⟨h0,h⟩:=h
    refine ⟨h0,?_⟩
    obtain ⟨y18,h⟩:=h
    refine ⟨y18,?_⟩
    obtain ⟨h0,h⟩:=h
    refine ⟨h0,?_⟩
    obtain ⟨z19,h⟩:=h
    refine ⟨z19,?_⟩
    obtain ⟨h0,h⟩:=h
    refine ⟨h0,?_⟩
    refine yak h (fun h=> ?_) (fun h=> ?_)
    ·exact hJ3 _ _ h
    ·refine yak h (fun h=> ?_) (fun h=> ?_)
     ·obtain ⟨h0,h⟩:=h
      refine ⟨h0,?_⟩
      obtain ⟨h0,h⟩:=h
      refine ⟨h0,?_⟩
      obtain ⟨y20,h⟩:=h
      refine ⟨y20,?_⟩
      obtain ⟨h0,h⟩:=h
      refine ⟨h0,?_⟩
      obtain ⟨z21,h⟩:=h
      refine ⟨z21,?_⟩
      obtain ⟨h0,h⟩:=h
      refine ⟨h0,?_⟩
      exact hJ3 _ _ h
     ·exact hJ3 _ _ h
   ·refine yak h (fun h=> ?_) (fun h=> ?_)
    ·obtain ⟨h0,h⟩:=h
     refine ⟨h0,?_⟩
     obtain ⟨h0,h⟩:=h
     refine ⟨h0,?_⟩
     obtain ⟨y22,h⟩:=h
     refine ⟨y22,?_⟩
     obtain ⟨h0,h⟩:=h
     refine ⟨h0,?_⟩
     obtain ⟨z23,h⟩:=h
     refine ⟨z23,?_⟩
     obtain ⟨h0,h⟩:=h
     refine ⟨h0,?_⟩
     exact hJ3 _ _ h
    ·exact hJ3 _ _ h
 ·exact h
theorem ylx (a0:List yac) (a1 a2:Int) (r0:yab) (r1:Int) {X1:Int→(List yab)→Prop} {x1:Int} {x2:List yab} (h:yfs a0 a1 a2 r0 r1 X1 x1 x2):ygu a0 a2 a1 r0 r1 X1 x1 x2:=by
 unfold ygu
 unfold yfs at h
 intro c
 replace h:=h c
 refine yak h (fun h=> ?_) (fun h=> ?_)
 ·exact h
 ·refine yak h (fun h=> ?_) (fun h=> ?_)
  ·exact h
  ·refine yak h (fun h=> ?_) (fun h=> ?_)
   ·exact h
   ·intro X2 k
    exact h X2 (fun x10 x11 x12 x13 x14 q=>k x10 x11 x12 x13 x14 (ylq a1 r0 r1 q))
theorem yot (a0:List yac) (a1 a2:Int) (r0:yab) (r1:Int) (h:yiH a0 a1 a2 r0 r1):ycz a0 a1 a2 r0 r1:=by
 unfold ycz
 unfold yiH at h
 refine yak h (fun h=> ?_) (fun h=> ?_)
 ·exact h
 ·intro X1 k
  exact h X1 (fun x1 x2 q=>k x1 x2 (ylx a0 a1 a2 r0 r1 q))
def yiG:Sp KK:=⟨29,[.v 27, .v 3, .v 3],[70,3],appW (K:=KK) [70,3] [.v 27, .v 3, .v 3] ycz⟩
def ynz:An KK:=(.s .o (.s (.s .o (.c (.s .o .o) .o)) (.s .o (.s (.s .o (.b (.l ⟨[(0, .kp 9),(1, .kp 10),(2, .kp 11),(6, .px 6 0),(8, .row 45),(9, .it .i64)],[(6,70,[.kp 14, .kp 15, .kp 16])],[(45,70)]⟩ (fun _=>(.s (.s .o (.c .o .o)) (.s (.b (.s .o (.c .o .o))) .o)))))) (.s .o (.s (.s .o (.b (.s .o (.c (.s .o .o) (.s .o (.c (.s (.s .o (.c (.s .o .o) .o)) (.s .o (.s (.s .o (.c (.s .o .o) .o)) (.s .o .o)))) .o)))))) (.s (.s .o (.b (.l ⟨[(1, .kp 10),(6, .px 6 0),(8, .row 45),(10, .px 10 0),(13, .it .i64)],[(6,70,[.kp 14, .kp 15, .kp 16]),(10,70,[.it .i64, .it .i64, .st])],[(45,70)]⟩ (fun _=>(.s (.s .o (.c .o .o)) (.s (.b (.j ⟨[(1, .kp 10),(6, .px 6 0),(8, .row 45),(10, .px 10 0),(13, .kp 53),(100, .bl)],[(6,70,[.kp 14, .kp 15, .kp 16]),(10,70,[.kp 54, .kp 55, .kp 56])],[(45,70)]⟩ .o (fun _=>(.c .o .o)))) .o)))))) (.s .o .o))))))))
def ynD:Cf KK:=⟨CC,[yk0,ykZ,yf6],[],106,[],none,false⟩
theorem ynp:SpOk Try.prog CC yiG:=yay (F:=ynD) (ps:= [.v 27, .v 3, .v 3]) (rs:= [70,3]) (w:=ycz) ybg (yas yq8 (yas ypZ (yas yhX yaE))) yaD t29 (A:=ynz) (by kernel_rfl) (by kernel_rfl) (fun a0 a1 a2 r0 r1=>show _=_ by kernel_rfl)
def yfw (r0:Bool) (X2:Int→Prop) (x2:Int) (x7:Bool):Prop:=
 cnd x7 (false=r0) (X2 (IntKind.i64.wrap (x2+(1:Int))))
def yfu (a0:yae) (x1:Int) (a1:List yac) (r0:Bool) (X1 X2:Int→Prop) (x2:Int):Prop:=
 cnd (decide (x2<(2:Int))) (∃z3 z4,(yaP a0 x1 x2 z3 z4)/\∃z5 z6,(ycz a1 x1 x2 z5 z6)/\∀J3:Bool->Prop,(∀x7,yfw r0 X2 x2 x7->J3 x7)->cnd (!(z4==z6)) (J3 true) (J3 (!((z3.Kind==z5.Kind)&&((z3.N==z5.N)&&((z3.S==z5.S)&&true)))))) (X1 (IntKind.i64.wrap (x1+(1:Int))))
def yfW (a0:yae) (a1:List yac) (r0:Bool) (X1:Int→Prop) (x1:Int):Prop:=
 cnd (decide (x1<=(4:Int))) (∀X2:Int->Prop,(∀x2,yfu a0 x1 a1 r0 X1 X2 x2->X2 x2)->X2 (0:Int)) (∃z8 z9,(yaP a0 (1:Int) (-1:Int) z8 z9)/\cnd (z9==(0:Int)) (∃z10,(yaO (a1.length:Int) z10)/\cnd ((z8.Kind==z10.Kind)&&((z8.N==z10.N)&&((z8.S==z10.S)&&true))) (cnd (a0.Rows==(a1.length:Int)) (((a0.L.length:Int)==(2:Int))=r0) (false=r0)) (false=r0)) (false=r0))
def yaZ (a0:yae) (a1:List yac) (r0:Bool):Prop:=
 ∀X1:Int->Prop,(∀x1,yfW a0 a1 r0 X1 x1->X1 x1)->X1 (1:Int)
def ycF (X2:Int→Prop) (r0:Bool) (x2:Int) (x7:Bool):Prop:=
 cnd x7 (false=r0) (X2 (IntKind.i64.wrap (x2+(1:Int))))
def yfa (X1:Int→Prop) (a0:yae) (a1:List yac) (r0:Bool) (x1:Int) (X2:Int→Prop) (x2:Int):Prop:=
 cnd (decide (x2<(2:Int))) (∃z3 z4,(yaP a0 x1 x2 z3 z4)/\∃z5 z6,(ycz a1 x1 x2 z5 z6)/\cnd (!(z4==z6)) (ycF X2 r0 x2 true) (ycF X2 r0 x2 (!((z3.Kind==z5.Kind)&&((z3.N==z5.N)&&((z3.S==z5.S)&&true)))))) (X1 (IntKind.i64.wrap (x1+(1:Int))))
def ye7 (a0:yae) (a1:List yac) (r0:Bool) (X1:Int→Prop) (x1:Int):Prop:=
 cnd (decide (x1<=(4:Int))) (∀X2:Int->Prop,(∀x2,yfa X1 a0 a1 r0 x1 X2 x2->X2 x2)->X2 (0:Int)) (∃z8 z9,(yaP a0 (1:Int) (-1:Int) z8 z9)/\cnd (z9==(0:Int)) (∃z10,(yaO (a1.length:Int) z10)/\cnd ((z8.Kind==z10.Kind)&&((z8.N==z10.N)&&((z8.S==z10.S)&&true))) (cnd (a0.Rows==(a1.length:Int)) (((a0.L.length:Int)==(2:Int))=r0) (false=r0)) (false=r0)) (false=r0))
def yh4 (a0:yae) (a1:List yac) (r0:Bool):Prop:=
 ∀X1:Int->Prop,(∀x1,ye7 a0 a1 r0 X1 x1->X1 x1)->X1 (1:Int)
theorem ykn (X2:Int→Prop) (r0:Bool) (x2:Int) {x7:Bool} (h:ycF X2 r0 x2 x7):yfw r0 X2 x2 x7:=by
 unfold yfw
 unfold ycF at h
 exact h
theorem ykk (X1:Int→Prop) (a0:yae) (a1:List yac) (r0:Bool) (x1:Int) {X2:Int→Prop} {x2:Int} (h:yfa X1 a0 a1 r0 x1 X2 x2):yfu a0 x1 a1 r0 X1 X2 x2:=by
 unfold yfu
 unfold yfa at h
 refine yak h (fun h=> ?_) (fun h=> ?_)
 ·obtain ⟨z3,h⟩:=h
  refine ⟨z3,?_⟩
  obtain ⟨z4,h⟩:=h
  refine ⟨z4,?_⟩
  obtain ⟨h0,h⟩:=h
  refine ⟨h0,?_⟩
  obtain ⟨z5,h⟩:=h
  refine ⟨z5,?_⟩
  obtain ⟨z6,h⟩:=h
  refine ⟨z6,?_⟩
  obtain ⟨h0,h⟩:=h
  refine ⟨h0,?_⟩
  intro J3 kJ3
  have hJ3:∀x7,ycF X2 r0 x2 x7->J3 x7:=fun x7 q=>kJ3 x7 (ykn X2 r0 x2 q)
  refine yak h (fun h=> ?_) (fun h=> ?_)
  ·exact hJ3 _ h
  ·exact hJ3 _ h
 ·exact h
theorem yku (a0:yae) (a1:List yac) (r0:Bool) {X1:Int→Prop} {x1:Int} (h:ye7 a0 a1 r0 X1 x1):yfW a0 a1 r0 X1 x1:=by
 unfold yfW
 unfold ye7 at h
 refine yak h (fun h=> ?_) (fun h=> ?_)
 ·intro X2 k
  exact h X2 (fun x2 q=>k x2 (ykk X1 a0 a1 r0 x1 q))
 ·exact h
theorem ynq (a0:yae) (a1:List yac) (r0:Bool) (h:yh4 a0 a1 r0):yaZ a0 a1 r0:=by
 unfold yaZ
 unfold yh4 at h
 intro X1 k
 exact h X1 (fun x1 q=>k x1 (yku a0 a1 r0 q))
def yhx:Sp KK:=⟨10,[.v 32, .v 27],[4],appW (K:=KK) [4] [.v 32, .v 27] yaZ⟩
def ymJ:An KK:=(.s .o (.s (.s .o (.b (.l ⟨[(1, .kp 39),(2, .px 2 0),(5, .it .i64)],[(2,32,[.kp 41, .kp 42])],[]⟩ (fun _=>(.s (.s .o (.c .o .o)) (.s (.b (.s .o (.b (.l ⟨[(1, .kp 39),(2, .px 2 0),(5, .kp 71),(6, .it .i64)],[(2,32,[.kp 41, .kp 42])],[]⟩ (fun _=>(.s (.s .o (.c .o .o)) (.s (.b (.s .o (.s .o (.j ⟨[(1, .kp 39),(2, .px 2 0),(5, .kp 71),(6, .kp 76),(42, .bl)],[(2,32,[.kp 41, .kp 42])],[]⟩ .o (fun _=>(.c (.s .o .o) .o)))))) .o))))))) .o)))))) (.s .o (.s .o .o))))
def ylX:Cf KK:=⟨CC,[yez,yiG,ydp],[],70,[],none,false⟩
theorem yl0:SpOk Try.prog CC yhx:=yay (F:=ylX) (ps:= [.v 32, .v 27]) (rs:= [4]) (w:=yaZ) ybg (yas ygN (yas ynp (yas yeO yaE))) yaD t10 (A:=ymJ) (by kernel_rfl) (by kernel_rfl) (fun a0 a1 r0=>show _=_ by kernel_rfl)
def yjM (a0:Int) (r0:Str) (X1:Int→(List Int)→Prop) (x1:Int) (x2:List Int):Prop:=
 cnd (decide (x1<((List.replicate (8:Int).toNat (0:Int)).length:Int))) ((¬(IntKind.i64.wrap ((8:Int)*x1))<0)/\(0<=(IntKind.i64.wrap ((7:Int)-x1)))/\((IntKind.i64.wrap ((7:Int)-x1))<(x2.length:Int))/\∃y3:Int,(x2[(IntKind.i64.wrap ((7:Int)-x1)).toNat]? =some y3)/\X1 (IntKind.i64.wrap (x1+(1:Int))) (x2.set ((IntKind.i64.wrap ((7:Int)-x1)).toNat) (IntKind.u8.wrap (a0.fdiv (2^(min (IntKind.i64.wrap ((8:Int)*x1)).toNat IntKind.u64.bits)))))) ((x2.map toB)=r0)
def ydS (a0:Int) (r0:Str):Prop:=
 (0<=(8:Int))/\(1*(8:Int).toNat<=281474976710656)/\((8:Int)<=1000000000)/\∀X1:Int->(List Int)->Prop,(∀x1 x2,yjM a0 r0 X1 x1 x2->X1 x1 x2)->X1 (0:Int) (List.replicate (8:Int).toNat (0:Int))
def yjN:Sp KK:=⟨62,[.v 65],[9],appW (K:=KK) [9] [.v 65] ydS⟩
def ypm:An KK:=(.s .o (.s .o (.s (.s .o (.b (.l ⟨[(0, .kp 4),(3, .row 5),(7, .kp 5),(8, .it .i64)],[],[(5,5)]⟩ (fun _=>(.s .o (.s (.c .o .o) (.s (.b (.s .o .o)) .o))))))) (.s .o .o))))
def yoS:Cf KK:=⟨CC,[],[],23,[],none,false⟩
theorem ypq:SpOk Try.prog CC yjN:=yay (F:=yoS) (ps:= [.v 65]) (rs:= [9]) (w:=ydS) ybg yaE yaD t62 (A:=ypm) (by kernel_rfl) (by kernel_rfl) (fun a0 r0=>show _=_ by kernel_rfl)
def ybY (a0:yaj) (r0:Str):Prop:=
 ∃z1,(ydS (IntKind.u64.wrap a0.Hi) z1)/\∃z2,(ydS a0.Lo z2)/\(z1.length+z2.length<=9223372036854775807)/\(z1++z2)=r0
def yhm:Sp KK:=⟨46,[.v 67],[9],appW (K:=KK) [9] [.v 67] ybY⟩
def ylm:An KK:=(.s .o (.s .o .o))
def ylk:Cf KK:=⟨CC,[yjN],[],11,[],none,false⟩
theorem ylw:SpOk Try.prog CC yhm:=yay (F:=ylk) (ps:= [.v 67]) (rs:= [9]) (w:=ybY) ybg (yas ypq yaE) yaD t46 (A:=ylm) (by kernel_rfl) (by kernel_rfl) (fun a0 r0=>show _=_ by kernel_rfl)
end Go.Proofs.Ytecfpoklnfaihaa
end
noncomputable section
namespace Go.Proofs.Ytecfpoklnfaihaa
open Go.AV Go.RowKit
set_option maxRecDepth 100000
def ye8 (a0:yae) (r0:Str) (X1:Int→(List Str)→Prop) (x2:Int) (x3:List Str):Prop:=
 cnd (decide (x2<(a0.L.length:Int))) ((0<=x2)/\(x2<(a0.L.length:Int))/\∃y4:yag,(a0.L[x2.toNat]? =some y4)/\∃z5,(ydT y4.N z5)/\∃z6,(ybY (⟨y4.Sum.Hi,y4.Sum.Lo⟩:yaj) z6)/\∃z7,(ycu ([(⟨y4.Min.Kind,y4.Min.N,y4.Min.S⟩:yad)]:List yad) z7)/\∃z8,(ycu ([(⟨y4.Max.Kind,y4.Max.N,y4.Max.S⟩:yad)]:List yad) z8)/\(x3.length<=1000000000)/\X1 (IntKind.i64.wrap (x2+(1:Int))) (x3++([z5,z6,z7,z8]:List Str))) (∃z9,(ycp x3 z9)/\z9=r0)
def ybX (a0:yae) (r0:Str):Prop:=
 ∃z1,(ydT a0.Rows z1)/\(a0.L.length<=maxLen->∀X1:Int->(List Str)->Prop,(∀x2 x3,ye8 a0 r0 X1 x2 x3->X1 x2 x3)->X1 (0:Int) ([z1]:List Str))
def yeE (a0:yae) (r0:Str) (X1:Int→(List Str)→Prop) (x2:Int) (x3:List Str):Prop:=
 cnd (decide (x2<(a0.L.length:Int))) ((0<=x2)/\(x2<(a0.L.length:Int))/\∃y4:yag,(a0.L[x2.toNat]? =some y4)/\∃z5,(ydT y4.N z5)/\∃z6,(ybY (⟨y4.Sum.Hi,y4.Sum.Lo⟩:yaj) z6)/\∃z7,(ycu ([(⟨y4.Min.Kind,y4.Min.N,y4.Min.S⟩:yad)]:List yad) z7)/\∃z8,(ycu ([(⟨y4.Max.Kind,y4.Max.N,y4.Max.S⟩:yad)]:List yad) z8)/\(x3.length<=1000000000)/\X1 (IntKind.i64.wrap (x2+(1:Int))) (x3++([z5,z6,z7,z8]:List Str))) (∃z9,(ycp x3 z9)/\z9=r0)
def yho (a0:yae) (r0:Str):Prop:=
 ∃z1,(ydT a0.Rows z1)/\(a0.L.length<=maxLen->∀X1:Int->(List Str)->Prop,(∀x2 x3,yeE a0 r0 X1 x2 x3->X1 x2 x3)->X1 (0:Int) ([z1]:List Str))
theorem yjy (a0:yae) (r0:Str) {X1:Int→(List Str)→Prop} {x2:Int} {x3:List Str} (h:yeE a0 r0 X1 x2 x3):ye8 a0 r0 X1 x2 x3:=by
 unfold ye8
 unfold yeE at h
 exact h
theorem ymY (a0:yae) (r0:Str) (h:yho a0 r0):ybX a0 r0:=by
 unfold ybX
 unfold yho at h
 obtain ⟨z1,h⟩:=h
 refine ⟨z1,?_⟩
 obtain ⟨h0,h⟩:=h
 refine ⟨h0,?_⟩
 intro c
 replace h:=h c
 intro X1 k
 exact h X1 (fun x2 x3 q=>k x2 x3 (yjy a0 r0 q))
def yhk:Sp KK:=⟨30,[.v 32],[9],appW (K:=KK) [9] [.v 32] ybX⟩
def yly:An KK:=(.s .o (.s .o (.s (.s .o (.b (.l ⟨[(3, .row 9),(11, .kp 4),(12, .kp 5),(13, .it .i64)],[],[(9,9)]⟩ (fun _=>(.s .o (.s (.c .o .o) (.s (.b (.s .o .o)) .o))))))) (.s .o .o))))
def ylo:Cf KK:=⟨CC,[yiX,yhm,yih,ygc],[],37,[],none,false⟩
theorem ylp:SpOk Try.prog CC yhk:=yay (F:=ylo) (ps:= [.v 32]) (rs:= [9]) (w:=ybX) ybg (yas ymH (yas ylw (yas ykE (yas yhW yaE)))) yaD t30 (A:=yly) (by kernel_rfl) (by kernel_rfl) (fun a0 r0=>show _=_ by kernel_rfl)
def yi9 (a0:List yaa) (r0:Str) (X1:Int→(List Str)→Prop) (x1:Int) (x2:List Str):Prop:=
 cnd (decide (x1<(a0.length:Int))) ((0<=x1)/\(x1<(a0.length:Int))/\∃y3:yaa,(a0[x1.toNat]? =some y3)/\∃z4,(ycu y3.Row z4)/\∃z5,(ybX (⟨y3.Part.Rows,y3.Part.L⟩:yae) z5)/\(x2.length<=1000000000)/\X1 (IntKind.i64.wrap (x1+(1:Int))) (x2++([z4,z5]:List Str))) (∃z6,(ycp x2 z6)/\z6=r0)
def yda (a0:List yaa) (r0:Str):Prop:=
 (a0.length<=maxLen->∀X1:Int->(List Str)->Prop,(∀x1 x2,yi9 a0 r0 X1 x1 x2->X1 x1 x2)->X1 (0:Int) ([]:List Str))
def yhT (a0:List yaa) (r0:Str) (X1:Int→(List Str)→Prop) (x1:Int) (x2:List Str):Prop:=
 cnd (decide (x1<(a0.length:Int))) ((0<=x1)/\(x1<(a0.length:Int))/\∃y3:yaa,(a0[x1.toNat]? =some y3)/\∃z4,(ycu y3.Row z4)/\∃z5,(ybX (⟨y3.Part.Rows,y3.Part.L⟩:yae) z5)/\(x2.length<=1000000000)/\X1 (IntKind.i64.wrap (x1+(1:Int))) (x2++([z4,z5]:List Str))) (∃z6,(ycp x2 z6)/\z6=r0)
def yl3 (a0:List yaa) (r0:Str):Prop:=
 (a0.length<=maxLen->∀X1:Int->(List Str)->Prop,(∀x1 x2,yhT a0 r0 X1 x1 x2->X1 x1 x2)->X1 (0:Int) ([]:List Str))
theorem yoj (a0:List yaa) (r0:Str) {X1:Int→(List Str)→Prop} {x1:Int} {x2:List Str} (h:yhT a0 r0 X1 x1 x2):yi9 a0 r0 X1 x1 x2:=by
 unfold yi9
 unfold yhT at h
 exact h
theorem yup (a0:List yaa) (r0:Str) (h:yl3 a0 r0):yda a0 r0:=by
 unfold yda
 unfold yl3 at h
 intro c
 replace h:=h c
 intro X1 k
 exact h X1 (fun x1 x2 q=>k x1 x2 (yoj a0 r0 q))
def ymf:Sp KK:=⟨11,[.v 26],[9],appW (K:=KK) [9] [.v 26] yda⟩
def yrW:An KK:=(.s .o (.s .o (.s (.s .o (.b (.l ⟨[(3, .row 20),(6, .kp 6),(7, .kp 7),(8, .it .i64)],[],[(20,9)]⟩ (fun _=>(.s .o (.s (.c .o .o) (.s (.b (.s .o .o)) .o))))))) (.s .o .o))))
def yrq:Cf KK:=⟨CC,[yih,yhk,ygc],[],24,[],none,false⟩
theorem ysH:SpOk Try.prog CC ymf:=yay (F:=yrq) (ps:= [.v 26]) (rs:= [9]) (w:=yda) ybg (yas ykE (yas ylp (yas yhW yaE))) yaD t11 (A:=yrW) (by kernel_rfl) (by kernel_rfl) (fun a0 r0=>show _=_ by kernel_rfl)
def yiP (a0:Str) (r0:Int) (X1:Int→Int→Prop) (x1 x2:Int):Prop:=
 cnd (decide (x2<(a0.length:Int))) ((0<=x2/\x2<(a0.length:Int))/\X1 (bits .or .u64 (IntKind.u64.wrap (x1*2^(min (8:Int).toNat IntKind.u64.bits))) (IntKind.u64.wrap (bAt a0 x2))) (IntKind.i64.wrap (x2+(1:Int)))) (x1=r0)
def yc9 (a0:Str) (r0:Int):Prop:=
 ∀X1:Int->Int->Prop,(∀x1 x2,yiP a0 r0 X1 x1 x2->X1 x1 x2)->X1 (0:Int) (0:Int)
def ygt:Sp KK:=⟨63,[.v 9],[65],appW (K:=KK) [65] [.v 9] yc9⟩
def ynI:An KK:=(.s .o (.s .o (.s (.s .o (.b (.l ⟨[(0, .kp 5),(3, .it .u64),(6, .kp 7),(7, .it .i64)],[],[]⟩ (fun _=>(.s .o (.s (.c .o .o) (.s (.b (.s .o .o)) .o))))))) (.s .o .o))))
def yne:Cf KK:=⟨CC,[],[],19,[],none,false⟩
theorem yiI:SpOk Try.prog CC ygt:=yay (F:=yne) (ps:= [.v 9]) (rs:= [65]) (w:=yc9) ybg yaE yaD t63 (A:=ynI) (by kernel_rfl) (by kernel_rfl) (fun a0 r0=>show _=_ by kernel_rfl)
def ygg (a0 r0 r1:Str) (r2:Bool):Prop:=
 cnd (decide ((a0.length:Int)<(4:Int))) (([]:Str)=r0/\a0=r1/\false=r2) ((0<=(0:Int)/\(0:Int)<=(4:Int)/\(4:Int)<=(a0.length:Int))/\∃z1,(yc9 ((a0.drop (0:Int).toNat).take ((4:Int).toNat-(0:Int).toNat)) z1)/\cnd (decide ((IntKind.u64.wrap (IntKind.i64.wrap ((a0.length:Int)-(4:Int))))<z1)) (([]:Str)=r0/\a0=r1/\false=r2) ((0<=(4:Int)/\(4:Int)<=(IntKind.i64.wrap ((4:Int)+(IntKind.i64.wrap z1)))/\(IntKind.i64.wrap ((4:Int)+(IntKind.i64.wrap z1)))<=(a0.length:Int))/\(0<=(IntKind.i64.wrap ((4:Int)+(IntKind.i64.wrap z1)))/\(IntKind.i64.wrap ((4:Int)+(IntKind.i64.wrap z1)))<=(a0.length:Int)/\(a0.length:Int)<=(a0.length:Int))/\((a0.drop (4:Int).toNat).take ((IntKind.i64.wrap ((4:Int)+(IntKind.i64.wrap z1))).toNat-(4:Int).toNat))=r0/\((a0.drop (IntKind.i64.wrap ((4:Int)+(IntKind.i64.wrap z1))).toNat).take ((a0.length:Int).toNat-(IntKind.i64.wrap ((4:Int)+(IntKind.i64.wrap z1))).toNat))=r1/\true=r2))
def yjY:Sp KK:=⟨47,[.v 9],[9,9,4],appW (K:=KK) [9,9,4] [.v 9] ygg⟩
def yoH:An KK:=(.s .o (.s (.s .o (.c (.s .o .o) .o)) (.s .o (.s (.s .o (.c (.s .o .o) .o)) (.s .o (.s .o .o))))))
def ypk:Cf KK:=⟨CC,[ygt],[],30,[],none,false⟩
theorem ypd:SpOk Try.prog CC yjY:=yay (F:=ypk) (ps:= [.v 9]) (rs:= [9,9,4]) (w:=ygg) ybg (yas yiI yaE) yaD t47 (A:=yoH) (by kernel_rfl) (by kernel_rfl) (fun a0 r0 r1 r2=>show _=_ by kernel_rfl)
def ypF (r0:List Str) (r1:Int) (X1:Str→(List Str)→Prop) (x1:Str) (x2:List Str):Prop:=
 cnd (!(x1==([]:Str))) (∃z3 z4 z5,(ygg x1 z3 z4 z5)/\cnd (!z5) (([]:List Str)=r0/\(2:Int)=r1) ((x2.length<=1000000000)/\X1 z4 (x2++([z3]:List Str)))) (x2=r0/\(0:Int)=r1)
def yce (a0:Str) (r0:List Str) (r1:Int):Prop:=
 ∀X1:Str->(List Str)->Prop,(∀x1 x2,ypF r0 r1 X1 x1 x2->X1 x1 x2)->X1 a0 ([]:List Str)
def ygW:Sp KK:=⟨31,[.v 9],[76,52],appW (K:=KK) [76,52] [.v 9] yce⟩
def ype:An KK:=(.s .o (.s .o (.s (.b (.l ⟨[(0, .st),(4, .row 21)],[],[(21,9)]⟩ (fun _=>(.s (.s .o (.c .o .o)) (.b (.s .o (.s (.s .o (.c (.s .o .o) .o)) .o))))))) (.s .o .o))))
def ypl:Cf KK:=⟨CC,[yjY],[],24,[],none,false⟩
theorem yjQ:SpOk Try.prog CC ygW:=yay (F:=ypl) (ps:= [.v 9]) (rs:= [76,52]) (w:=yce) ybg (yas ypd yaE) yaD t31 (A:=ype) (by kernel_rfl) (by kernel_rfl) (fun a0 r0 r1=>show _=_ by kernel_rfl)
def ybG (a0:Str) (r0:Int) (r1:Bool):Prop:=
 cnd (!((a0.length:Int)==(8:Int))) ((0:Int)=r0/\false=r1) (∃z1,(yc9 a0 z1)/\(IntKind.i64.wrap (bits .xor .u64 z1 (9223372036854775808:Int)))=r0/\true=r1)
def ygy:Sp KK:=⟨49,[.v 9],[2,4],appW (K:=KK) [2,4] [.v 9] ybG⟩
def ynx:An KK:=(.s .o (.s (.s .o (.c (.s .o .o) .o)) (.s .o .o)))
def ynE:Cf KK:=⟨CC,[ygt],[],11,[],none,false⟩
theorem yiQ:SpOk Try.prog CC ygy:=yay (F:=ynE) (ps:= [.v 9]) (rs:= [2,4]) (w:=ybG) ybg (yas yiI yaE) yaD t49 (A:=ynx) (by kernel_rfl) (by kernel_rfl) (fun a0 r0 r1=>show _=_ by kernel_rfl)
def ybM (a0:yad) (r0:Bool):Prop:=
 cnd (a0.Kind==(0:Int)) (((a0.Kind==(0:Int))&&((a0.N==(0:Int))&&((a0.S==([]:Str))&&true)))=r0) (cnd (a0.Kind==(1:Int)) (cnd (a0.N==(0:Int)) ((a0.S==([]:Str))=r0) (cnd (a0.N==(1:Int)) ((a0.S==([]:Str))=r0) (false=r0))) (cnd (a0.Kind==(2:Int)) ((a0.S==([]:Str))=r0) (cnd (a0.Kind==(3:Int)) (cnd (a0.N==(0:Int)) ((decide ((a0.S.length:Int)<=(64:Int)))=r0) (false=r0)) (false=r0))))
def yfZ:Sp KK:=⟨64,[.v 61],[4],appW (K:=KK) [4] [.v 61] ybM⟩
def yi0:An KK:=(.s .o (.s (.s .o (.b (.s .o (.c (.s .o .o) (.s .o (.c (.s .o .o) (.s .o (.c (.s .o .o) (.s .o (.c (.s .o .o) .o)))))))))) (.s .o .o)))
def yja:Cf KK:=⟨CC,[],[],41,[],none,false⟩
theorem yi1:SpOk Try.prog CC yfZ:=yay (F:=yja) (ps:= [.v 61]) (rs:= [4]) (w:=ybM) ybg yaE yaD t64 (A:=yi0) (by kernel_rfl) (by kernel_rfl) (fun a0 r0=>show _=_ by kernel_rfl)
def yjh (a0:Str) (r0:yad) (r1:Bool) (x1:Int) (x2:Str):Prop:=
 ∃z3,(ybM (⟨IntKind.i64.wrap (bAt a0 (0:Int)),x1,x2⟩:yad) z3)/\(⟨IntKind.i64.wrap (bAt a0 (0:Int)),x1,x2⟩:yad)=r0/\z3=r1
def yfo (a0:Str) (r0:yad) (r1:Bool):Prop:=
 cnd (a0==([]:Str)) ((⟨(0:Int),(0:Int),([]:Str)⟩:yad)=r0/\false=r1) ((0<=(1:Int)/\(1:Int)<=(a0.length:Int)/\(a0.length:Int)<=(a0.length:Int))/\(0<=(0:Int)/\(0:Int)<(a0.length:Int))/\∀J1:Int->Str->Prop,(∀x1 x2,yjh a0 r0 r1 x1 x2->J1 x1 x2)->cnd ((IntKind.i64.wrap (bAt a0 (0:Int)))==(0:Int)) ((⟨IntKind.i64.wrap (bAt a0 (0:Int)),(0:Int),([]:Str)⟩:yad)=r0/\(((a0.drop (1:Int).toNat).take ((a0.length:Int).toNat-(1:Int).toNat))==([]:Str))=r1) (cnd ((IntKind.i64.wrap (bAt a0 (0:Int)))==(1:Int)) (cnd (!((((a0.drop (1:Int).toNat).take ((a0.length:Int).toNat-(1:Int).toNat)).length:Int)==(1:Int))) ((⟨IntKind.i64.wrap (bAt a0 (0:Int)),(0:Int),([]:Str)⟩:yad)=r0/\false=r1) ((0<=(0:Int)/\(0:Int)<(((a0.drop (1:Int).toNat).take ((a0.length:Int).toNat-(1:Int).toNat)).length:Int))/\J1 (IntKind.i64.wrap (bAt ((a0.drop (1:Int).toNat).take ((a0.length:Int).toNat-(1:Int).toNat)) (0:Int))) ([]:Str))) (cnd ((IntKind.i64.wrap (bAt a0 (0:Int)))==(2:Int)) (∃z4 z5,(ybG ((a0.drop (1:Int).toNat).take ((a0.length:Int).toNat-(1:Int).toNat)) z4 z5)/\cnd (!z5) ((⟨IntKind.i64.wrap (bAt a0 (0:Int)),(0:Int),([]:Str)⟩:yad)=r0/\false=r1) (J1 z4 ([]:Str))) (J1 (0:Int) ((a0.drop (1:Int).toNat).take ((a0.length:Int).toNat-(1:Int).toNat))))))
def ycT (a0:Str) (r0:yad) (r1:Bool) (x1:Int) (x2:Str):Prop:=
 ∃z3,(ybM (⟨IntKind.i64.wrap (bAt a0 (0:Int)),x1,x2⟩:yad) z3)/\(⟨IntKind.i64.wrap (bAt a0 (0:Int)),x1,x2⟩:yad)=r0/\z3=r1
def ymC (a0:Str) (r0:yad) (r1:Bool):Prop:=
 cnd (a0==([]:Str)) ((⟨(0:Int),(0:Int),([]:Str)⟩:yad)=r0/\false=r1) ((0<=(1:Int)/\(1:Int)<=(a0.length:Int)/\(a0.length:Int)<=(a0.length:Int))/\(0<=(0:Int)/\(0:Int)<(a0.length:Int))/\cnd ((IntKind.i64.wrap (bAt a0 (0:Int)))==(0:Int)) ((⟨IntKind.i64.wrap (bAt a0 (0:Int)),(0:Int),([]:Str)⟩:yad)=r0/\(((a0.drop (1:Int).toNat).take ((a0.length:Int).toNat-(1:Int).toNat))==([]:Str))=r1) (cnd ((IntKind.i64.wrap (bAt a0 (0:Int)))==(1:Int)) (cnd (!((((a0.drop (1:Int).toNat).take ((a0.length:Int).toNat-(1:Int).toNat)).length:Int)==(1:Int))) ((⟨IntKind.i64.wrap (bAt a0 (0:Int)),(0:Int),([]:Str)⟩:yad)=r0/\false=r1) ((0<=(0:Int)/\(0:Int)<(((a0.drop (1:Int).toNat).take ((a0.length:Int).toNat-(1:Int).toNat)).length:Int))/\ycT a0 r0 r1 (IntKind.i64.wrap (bAt ((a0.drop (1:Int).toNat).take ((a0.length:Int).toNat-(1:Int).toNat)) (0:Int))) ([]:Str))) (cnd ((IntKind.i64.wrap (bAt a0 (0:Int)))==(2:Int)) (∃z4 z5,(ybG ((a0.drop (1:Int).toNat).take ((a0.length:Int).toNat-(1:Int).toNat)) z4 z5)/\cnd (!z5) ((⟨IntKind.i64.wrap (bAt a0 (0:Int)),(0:Int),([]:Str)⟩:yad)=r0/\false=r1) (ycT a0 r0 r1 z4 ([]:Str))) (ycT a0 r0 r1 (0:Int) ((a0.drop (1:Int).toNat).take ((a0.length:Int).toNat-(1:Int).toNat))))))
theorem yoI (a0:Str) (r0:yad) (r1:Bool) {x1:Int} {x2:Str} (h:ycT a0 r0 r1 x1 x2):yjh a0 r0 r1 x1 x2:=by
 unfold yjh
 unfold ycT at h
 exact h
theorem yug (a0:Str) (r0:yad) (r1:Bool) (h:ymC a0 r0 r1):yfo a0 r0 r1:=by
 unfold yfo
 unfold ymC at h
 refine yak h (fun h=> ?_) (fun h=> ?_)
 ·exact h
 ·obtain ⟨h0,h⟩:=h
  refine ⟨h0,?_⟩
  obtain ⟨h0,h⟩:=h
  refine ⟨h0,?_⟩
  intro J1 kJ1
  have hJ1:∀x1 x2,ycT a0 r0 r1 x1 x2->J1 x1 x2:=fun x1 x2 q=>kJ1 x1 x2 (yoI a0 r0 r1 q)
  refine yak h (fun h=> ?_) (fun h=> ?_)
  ·exact h
  ·refine yak h (fun h=> ?_) (fun h=> ?_)
   ·refine yak h (fun h=> ?_) (fun h=> ?_)
    ·exact h
    ·obtain ⟨h0,h⟩:=h
     refine ⟨h0,?_⟩
     exact hJ1 _ _ h
   ·refine yak h (fun h=> ?_) (fun h=> ?_)
    ·obtain ⟨z4,h⟩:=h
     refine ⟨z4,?_⟩
     obtain ⟨z5,h⟩:=h
     refine ⟨z5,?_⟩
     obtain ⟨h0,h⟩:=h
     refine ⟨h0,?_⟩
     refine yak h (fun h=> ?_) (fun h=> ?_)
     ·exact h
     ·exact hJ1 _ _ h
    ·exact hJ1 _ _ h
def ymG:Sp KK:=⟨48,[.v 9],[61,4],appW (K:=KK) [61,4] [.v 9] yfo⟩
def yrn:An KK:=(.s .o (.s (.s .o (.c (.s .o .o) .o)) (.s .o (.s .o (.j ⟨[(2, .px 2 0),(5, .px 5 0)],[(2,61,[.kp 1, .kp 2, .kp 3]),(5,61,[.kp 4, .it .i64, .st])],[]⟩ (.s .o (.b (.s .o (.c (.s .o .o) (.s .o (.c (.s (.s .o (.c (.s .o .o) .o)) .o) (.s .o (.c (.s .o (.s (.s .o (.c (.s .o .o) .o)) .o)) .o)))))))) (fun _=>(.s .o .o)))))))
def yr8:Cf KK:=⟨CC,[ygy,yfZ],[],51,[],none,false⟩
theorem yrX:SpOk Try.prog CC ymG:=yay (F:=yr8) (ps:= [.v 9]) (rs:= [61,4]) (w:=yfo) ybg (yas yiQ (yas yi1 yaE)) yaD t48 (A:=yrn) (by kernel_rfl) (by kernel_rfl) (fun a0 r0 r1=>show _=_ by kernel_rfl)
def ykD (z1:List Str) (r0:List yad) (r1:Int) (X1:Int→(List yad)→Prop) (x3:Int) (x4:List yad):Prop:=
 cnd (decide (x3<(z1.length:Int))) ((0<=x3)/\(x3<(z1.length:Int))/\∃y5:Str,(z1[x3.toNat]? =some y5)/\∃z6 z7,(yfo y5 z6 z7)/\cnd (!z7) (([]:List yad)=r0/\(4:Int)=r1) ((x4.length<=1000000000)/\X1 (IntKind.i64.wrap (x3+(1:Int))) (x4++([z6]:List yad)))) (x4=r0/\(0:Int)=r1)
def yeX (a0:Str) (r0:List yad) (r1:Int):Prop:=
 ∃z1 z2,(yce a0 z1 z2)/\cnd (!(z2==(0:Int))) (([]:List yad)=r0/\z2=r1) ((z1.length<=maxLen->∀X1:Int->(List yad)->Prop,(∀x3 x4,ykD z1 r0 r1 X1 x3 x4->X1 x3 x4)->X1 (0:Int) ([]:List yad)))
def ykS:Sp KK:=⟨32,[.v 9],[29,52],appW (K:=KK) [29,52] [.v 9] yeX⟩
def yt9:An KK:=(.s .o (.s .o (.s (.s .o (.c (.s .o .o) .o)) (.s .o (.s (.s .o (.b (.l ⟨[(6, .row 35),(19, .kp 6),(20, .kp 7),(21, .it .i64)],[],[(35,61)]⟩ (fun _=>(.s .o (.s (.c .o .o) (.s (.b (.s .o (.s .o (.s (.s .o (.c (.s .o .o) .o)) .o)))) .o))))))) (.s .o .o))))))
def yt7:Cf KK:=⟨CC,[ygW,ymG],[],38,[],none,false⟩
theorem yn6:SpOk Try.prog CC ykS:=yay (F:=yt7) (ps:= [.v 9]) (rs:= [29,52]) (w:=yeX) ybg (yas yjQ (yas yrX yaE)) yaD t32 (A:=yt9) (by kernel_rfl) (by kernel_rfl) (fun a0 r0 r1=>show _=_ by kernel_rfl)
def yiS (a0:Str) (r0:Int) (X1:Int→Int→Prop) (x1 x2:Int):Prop:=
 cnd (decide (x2<(a0.length:Int))) ((0<=x2/\x2<(a0.length:Int))/\X1 (bits .or .u64 (IntKind.u64.wrap (x1*2^(min (8:Int).toNat IntKind.u64.bits))) (IntKind.u64.wrap (bAt a0 x2))) (IntKind.i64.wrap (x2+(1:Int)))) (x1=r0)
def yc4 (a0:Str) (r0:Int):Prop:=
 ∀X1:Int->Int->Prop,(∀x1 x2,yiS a0 r0 X1 x1 x2->X1 x1 x2)->X1 (0:Int) (0:Int)
def yiN:Sp KK:=⟨65,[.v 9],[65],appW (K:=KK) [65] [.v 9] yc4⟩
def ynw:An KK:=(.s .o (.s .o (.s (.s .o (.b (.l ⟨[(0, .kp 5),(3, .it .u64),(6, .kp 7),(7, .it .i64)],[],[]⟩ (fun _=>(.s .o (.s (.c .o .o) (.s (.b (.s .o .o)) .o))))))) (.s .o .o))))
def yni:Cf KK:=⟨CC,[],[],19,[],none,false⟩
theorem ynk:SpOk Try.prog CC yiN:=yay (F:=yni) (ps:= [.v 9]) (rs:= [65]) (w:=yc4) ybg yaE yaD t65 (A:=ynw) (by kernel_rfl) (by kernel_rfl) (fun a0 r0=>show _=_ by kernel_rfl)
def yc6 (a0:Str) (r0:yaj) (r1:Int):Prop:=
 cnd (decide ((a0.length:Int)<(16:Int))) ((⟨(0:Int),(0:Int)⟩:yaj)=r0/\(2:Int)=r1) (cnd (decide ((16:Int)<(a0.length:Int))) ((⟨(0:Int),(0:Int)⟩:yaj)=r0/\(3:Int)=r1) ((0<=(0:Int)/\(0:Int)<=(8:Int)/\(8:Int)<=(a0.length:Int))/\∃z1,(yc4 ((a0.drop (0:Int).toNat).take ((8:Int).toNat-(0:Int).toNat)) z1)/\(0<=(8:Int)/\(8:Int)<=(a0.length:Int)/\(a0.length:Int)<=(a0.length:Int))/\∃z2,(yc4 ((a0.drop (8:Int).toNat).take ((a0.length:Int).toNat-(8:Int).toNat)) z2)/\(⟨IntKind.i64.wrap z1,z2⟩:yaj)=r0/\(0:Int)=r1))
def yma:Sp KK:=⟨50,[.v 9],[67,52],appW (K:=KK) [67,52] [.v 9] yc6⟩
def ysr:An KK:=(.s .o (.s (.b (.s .o (.c (.s .o .o) (.s .o (.c (.s .o .o) .o))))) (.s .o .o)))
def yrD:Cf KK:=⟨CC,[yiN],[],22,[],none,false⟩
theorem yrs:SpOk Try.prog CC yma:=yay (F:=yrD) (ps:= [.v 9]) (rs:= [67,52]) (w:=yc6) ybg (yas ynk yaE) yaD t50 (A:=ysr) (by kernel_rfl) (by kernel_rfl) (fun a0 r0 r1=>show _=_ by kernel_rfl)
def ykN (r0:yad) (r1:Bool) (z1:List yad) (x3:Bool):Prop:=
 cnd x3 ((⟨(0:Int),(0:Int),([]:Str)⟩:yad)=r0/\false=r1) ((0<=(0:Int))/\((0:Int)<(z1.length:Int))/\∃y4:yad,(z1[(0:Int).toNat]? =some y4)/\y4=r0/\true=r1)
def yel (a0:Str) (r0:yad) (r1:Bool):Prop:=
 ∃z1 z2,(yeX a0 z1 z2)/\∀J1:Bool->Prop,(∀x3,ykN r0 r1 z1 x3->J1 x3)->cnd (!(z2==(0:Int))) (J1 true) ((z1.length<=maxLen->J1 (!((z1.length:Int)==(1:Int)))))
def yfI (r0:yad) (r1:Bool) (z1:List yad) (x3:Bool):Prop:=
 cnd x3 ((⟨(0:Int),(0:Int),([]:Str)⟩:yad)=r0/\false=r1) ((0<=(0:Int))/\((0:Int)<(z1.length:Int))/\∃y4:yad,(z1[(0:Int).toNat]? =some y4)/\y4=r0/\true=r1)
def ynT (a0:Str) (r0:yad) (r1:Bool):Prop:=
 ∃z1 z2,(yeX a0 z1 z2)/\cnd (!(z2==(0:Int))) (yfI r0 r1 z1 true) ((z1.length<=maxLen->yfI r0 r1 z1 (!((z1.length:Int)==(1:Int)))))
theorem yqn (r0:yad) (r1:Bool) (z1:List yad) {x3:Bool} (h:yfI r0 r1 z1 x3):ykN r0 r1 z1 x3:=by
 unfold ykN
 unfold yfI at h
 exact h
theorem yws (a0:Str) (r0:yad) (r1:Bool) (h:ynT a0 r0 r1):yel a0 r0 r1:=by
 unfold yel
 unfold ynT at h
 obtain ⟨z1,h⟩:=h
 refine ⟨z1,?_⟩
 obtain ⟨z2,h⟩:=h
 refine ⟨z2,?_⟩
 obtain ⟨h0,h⟩:=h
 refine ⟨h0,?_⟩
 intro J1 kJ1
 have hJ1:∀x3,yfI r0 r1 z1 x3->J1 x3:=fun x3 q=>kJ1 x3 (yqn r0 r1 z1 q)
 refine yak h (fun h=> ?_) (fun h=> ?_)
 ·exact hJ1 _ h
 ·intro c
  replace h:=h c
  exact hJ1 _ h
def ynZ:Sp KK:=⟨51,[.v 9],[61,4],appW (K:=KK) [61,4] [.v 9] yel⟩
def yuC:An KK:=(.s .o (.s .o (.s (.j ⟨[(2, .px 2 0),(4, .kp 5),(17, .bl)],[(2,61,[.kp 6, .kp 7, .kp 8])],[]⟩ .o (fun _=>(.c (.s .o .o) .o))) (.s .o .o))))
def yul:Cf KK:=⟨CC,[ykS],[],22,[],none,false⟩
theorem yuA:SpOk Try.prog CC ynZ:=yay (F:=yul) (ps:= [.v 9]) (rs:= [61,4]) (w:=yel) ybg (yas yn6 yaE) yaD t51 (A:=yuC) (by kernel_rfl) (by kernel_rfl) (fun a0 r0 r1=>show _=_ by kernel_rfl)
def yjb (X1:Bool→Int→(List yag)→Prop) (x5 z10:Int) (z13:yaj) (z16 z19:yad) (x21:Bool) (x22:List yag):Prop:=
 (x22.length<=1000000000)/\X1 x21 (IntKind.i64.wrap (x5+(4:Int))) (x22++([(⟨z10,z13,z16,z19⟩:yag)]:List yag))
def yiZ (x5:Int) (a0:List Str) (X1:Bool→Int→(List yag)→Prop) (z2:Int) (r0:yae) (x4 r1 x7:Bool) (x8:List yag):Prop:=
 cnd x7 ((0<=x5)/\(x5<(a0.length:Int))/\∃y9:Str,(a0[x5.toNat]? =some y9)/\∃z10 z11,(ybG y9 z10 z11)/\(0<=(IntKind.i64.wrap (x5+(1:Int))))/\((IntKind.i64.wrap (x5+(1:Int)))<(a0.length:Int))/\∃y12:Str,(a0[(IntKind.i64.wrap (x5+(1:Int))).toNat]? =some y12)/\∃z13 z14,(yc6 y12 z13 z14)/\(0<=(IntKind.i64.wrap (x5+(2:Int))))/\((IntKind.i64.wrap (x5+(2:Int)))<(a0.length:Int))/\∃y15:Str,(a0[(IntKind.i64.wrap (x5+(2:Int))).toNat]? =some y15)/\∃z16 z17,(yel y15 z16 z17)/\(0<=(IntKind.i64.wrap (x5+(3:Int))))/\((IntKind.i64.wrap (x5+(3:Int)))<(a0.length:Int))/\∃y18:Str,(a0[(IntKind.i64.wrap (x5+(3:Int))).toNat]? =some y18)/\∃z19 z20,(yel y18 z19 z20)/\∀J3:Bool->(List yag)->Prop,(∀x21 x22,yjb X1 x5 z10 z13 z16 z19 x21 x22->J3 x21 x22)->cnd z11 (cnd z17 (cnd z20 (J3 (z14==(0:Int)) x8) (J3 false x8)) (J3 false x8)) (J3 false x8)) ((⟨z2,x8⟩:yae)=r0/\x4=r1)
def yiT (a0:List Str) (z2:Int) (r0:yae) (r1:Bool) (X1:Bool→Int→(List yag)→Prop) (x4:Bool) (x5:Int) (x6:List yag):Prop:=
 ∀J2:Bool->(List yag)->Prop,(∀x7 x8,yiZ x5 a0 X1 z2 r0 x4 r1 x7 x8->J2 x7 x8)->(a0.length<=maxLen->cnd (decide (x5<(a0.length:Int))) (J2 x4 x6) (J2 false x6))
def yey (a0:List Str) (r0:yae) (r1:Bool):Prop:=
 (a0.length<=maxLen->cnd (!(((a0.length:Int).tmod (4:Int))==(1:Int))) ((⟨(0:Int),([]:List yag)⟩:yae)=r0/\false=r1) ((0<=(0:Int))/\((0:Int)<(a0.length:Int))/\∃y1:Str,(a0[(0:Int).toNat]? =some y1)/\∃z2 z3,(ybG y1 z2 z3)/\∀X1:Bool->Int->(List yag)->Prop,(∀x4 x5 x6,yiT a0 z2 r0 r1 X1 x4 x5 x6->X1 x4 x5 x6)->X1 z3 (1:Int) ([]:List yag)))
def ycX (X1:Bool→Int→(List yag)→Prop) (x5 z10:Int) (z13:yaj) (z16 z19:yad) (x21:Bool) (x22:List yag):Prop:=
 (x22.length<=1000000000)/\X1 x21 (IntKind.i64.wrap (x5+(4:Int))) (x22++([(⟨z10,z13,z16,z19⟩:yag)]:List yag))
def yeY (X1:Bool→Int→(List yag)→Prop) (a0:List Str) (r0:yae) (r1 x4:Bool) (x5 z2:Int) (x7:Bool) (x8:List yag):Prop:=
 cnd x7 ((0<=x5)/\(x5<(a0.length:Int))/\∃y9:Str,(a0[x5.toNat]? =some y9)/\∃z10 z11,(ybG y9 z10 z11)/\(0<=(IntKind.i64.wrap (x5+(1:Int))))/\((IntKind.i64.wrap (x5+(1:Int)))<(a0.length:Int))/\∃y12:Str,(a0[(IntKind.i64.wrap (x5+(1:Int))).toNat]? =some y12)/\∃z13 z14,(yc6 y12 z13 z14)/\(0<=(IntKind.i64.wrap (x5+(2:Int))))/\((IntKind.i64.wrap (x5+(2:Int)))<(a0.length:Int))/\∃y15:Str,(a0[(IntKind.i64.wrap (x5+(2:Int))).toNat]? =some y15)/\∃z16 z17,(yel y15 z16 z17)/\(0<=(IntKind.i64.wrap (x5+(3:Int))))/\((IntKind.i64.wrap (x5+(3:Int)))<(a0.length:Int))/\∃y18:Str,(a0[(IntKind.i64.wrap (x5+(3:Int))).toNat]? =some y18)/\∃z19 z20,(yel y18 z19 z20)/\cnd z11 (cnd z17 (cnd z20 (ycX X1 x5 z10 z13 z16 z19 (z14==(0:Int)) x8) (ycX X1 x5 z10 z13 z16 z19 false x8)) (ycX X1 x5 z10 z13 z16 z19 false x8)) (ycX X1 x5 z10 z13 z16 z19 false x8)) ((⟨z2,x8⟩:yae)=r0/\x4=r1)
def ygl (a0:List Str) (r0:yae) (r1:Bool) (z2:Int) (X1:Bool→Int→(List yag)→Prop) (x4:Bool) (x5:Int) (x6:List yag):Prop:=
 (a0.length<=maxLen->cnd (decide (x5<(a0.length:Int))) (yeY X1 a0 r0 r1 x4 x5 z2 x4 x6) (yeY X1 a0 r0 r1 x4 x5 z2 false x6))
def ymt (a0:List Str) (r0:yae) (r1:Bool):Prop:=
 (a0.length<=maxLen->cnd (!(((a0.length:Int).tmod (4:Int))==(1:Int))) ((⟨(0:Int),([]:List yag)⟩:yae)=r0/\false=r1) ((0<=(0:Int))/\((0:Int)<(a0.length:Int))/\∃y1:Str,(a0[(0:Int).toNat]? =some y1)/\∃z2 z3,(ybG y1 z2 z3)/\∀X1:Bool->Int->(List yag)->Prop,(∀x4 x5 x6,ygl a0 r0 r1 z2 X1 x4 x5 x6->X1 x4 x5 x6)->X1 z3 (1:Int) ([]:List yag)))
theorem yos (X1:Bool→Int→(List yag)→Prop) (x5 z10:Int) (z13:yaj) (z16 z19:yad) {x21:Bool} {x22:List yag} (h:ycX X1 x5 z10 z13 z16 z19 x21 x22):yjb X1 x5 z10 z13 z16 z19 x21 x22:=by
 unfold yjb
 unfold ycX at h
 exact h
theorem yo5 (X1:Bool→Int→(List yag)→Prop) (a0:List Str) (r0:yae) (r1 x4:Bool) (x5 z2:Int) {x7:Bool} {x8:List yag} (h:yeY X1 a0 r0 r1 x4 x5 z2 x7 x8):yiZ x5 a0 X1 z2 r0 x4 r1 x7 x8:=by
 unfold yiZ
 unfold yeY at h
 refine yak h (fun h=> ?_) (fun h=> ?_)
 ·obtain ⟨h0,h⟩:=h
  refine ⟨h0,?_⟩
  obtain ⟨h0,h⟩:=h
  refine ⟨h0,?_⟩
  obtain ⟨y9,h⟩:=h
  refine ⟨y9,?_⟩
  obtain ⟨h0,h⟩:=h
  refine ⟨h0,?_⟩
  obtain ⟨z10,h⟩:=h
  refine ⟨z10,?_⟩
  obtain ⟨z11,h⟩:=h
  refine ⟨z11,?_⟩
  obtain ⟨h0,h⟩:=h
  refine ⟨h0,?_⟩
  obtain ⟨h0,h⟩:=h
  refine ⟨h0,?_⟩
  obtain ⟨h0,h⟩:=h
  refine ⟨h0,?_⟩
  obtain ⟨y12,h⟩:=h
  refine ⟨y12,?_⟩
  obtain ⟨h0,h⟩:=h
  refine ⟨h0,?_⟩
  obtain ⟨z13,h⟩:=h
  refine ⟨z13,?_⟩
  obtain ⟨z14,h⟩:=h
  refine ⟨z14,?_⟩
  obtain ⟨h0,h⟩:=h
  refine ⟨h0,?_⟩
  obtain ⟨h0,h⟩:=h
  refine ⟨h0,?_⟩
  obtain ⟨h0,h⟩:=h
  refine ⟨h0,?_⟩
  obtain ⟨y15,h⟩:=h
  refine ⟨y15,?_⟩
  obtain ⟨h0,h⟩:=h
  refine ⟨h0,?_⟩
  obtain ⟨z16,h⟩:=h
  refine ⟨z16,?_⟩
  obtain ⟨z17,h⟩:=h
  refine ⟨z17,?_⟩
  obtain ⟨h0,h⟩:=h
  refine ⟨h0,?_⟩
  obtain ⟨h0,h⟩:=h
  refine ⟨h0,?_⟩
  obtain ⟨h0,h⟩:=h
  refine ⟨h0,?_⟩
  obtain ⟨y18,h⟩:=h
  refine ⟨y18,?_⟩
  obtain ⟨h0,h⟩:=h
  refine ⟨h0,?_⟩
  obtain ⟨z19,h⟩:=h
  refine ⟨z19,?_⟩
  obtain ⟨z20,h⟩:=h
  refine ⟨z20,?_⟩
  obtain ⟨h0,h⟩:=h
  refine ⟨h0,?_⟩
  intro J3 kJ3
  have hJ3:∀x21 x22,ycX X1 x5 z10 z13 z16 z19 x21 x22->J3 x21 x22:=fun x21 x22 q=>kJ3 x21 x22 (yos X1 x5 z10 z13 z16 z19 q)
  refine yak h (fun h=> ?_) (fun h=> ?_)
  ·refine yak h (fun h=> ?_) (fun h=> ?_)
   ·refine yak h (fun h=> ?_) (fun h=> ?_)
    ·exact hJ3 _ _ h
    ·exact hJ3 _ _ h
   ·exact hJ3 _ _ h
  ·exact hJ3 _ _ h
 ·exact h
theorem yom (a0:List Str) (r0:yae) (r1:Bool) (z2:Int) {X1:Bool→Int→(List yag)→Prop} {x4:Bool} {x5:Int} {x6:List yag} (h:ygl a0 r0 r1 z2 X1 x4 x5 x6):yiT a0 z2 r0 r1 X1 x4 x5 x6:=by
 unfold yiT
 unfold ygl at h
 intro J2 kJ2
 have hJ2:∀x7 x8,yeY X1 a0 r0 r1 x4 x5 z2 x7 x8->J2 x7 x8:=fun x7 x8 q=>kJ2 x7 x8 (yo5 X1 a0 r0 r1 x4 x5 z2 q)
 intro c
 replace h:=h c
 refine yak h (fun h=> ?_) (fun h=> ?_)
 ·exact hJ2 _ _ h
 ·exact hJ2 _ _ h
theorem yt8 (a0:List Str) (r0:yae) (r1:Bool) (h:ymt a0 r0 r1):yey a0 r0 r1:=by
 unfold yey
 unfold ymt at h
 intro c
 replace h:=h c
 refine yak h (fun h=> ?_) (fun h=> ?_)
 ·exact h
 ·obtain ⟨h0,h⟩:=h
  refine ⟨h0,?_⟩
  obtain ⟨h0,h⟩:=h
  refine ⟨h0,?_⟩
  obtain ⟨y1,h⟩:=h
  refine ⟨y1,?_⟩
  obtain ⟨h0,h⟩:=h
  refine ⟨h0,?_⟩
  obtain ⟨z2,h⟩:=h
  refine ⟨z2,?_⟩
  obtain ⟨z3,h⟩:=h
  refine ⟨z3,?_⟩
  obtain ⟨h0,h⟩:=h
  refine ⟨h0,?_⟩
  intro X1 k
  exact h X1 (fun x4 x5 x6 q=>k x4 x5 x6 (yom a0 r0 r1 z2 q))
def ymv:Sp KK:=⟨33,[.v 76],[32,4],appW (K:=KK) [32,4] [.v 76] yey⟩
def yso:An KK:=(.s .o (.s (.s .o (.c (.s .o .o) .o)) (.s .o (.s .o (.s (.s .o (.b (.l ⟨[(0, .kp 70),(2, .px 2 0),(5, .bl),(6, .px 6 0),(7, .it .i64)],[(2,32,[.kp 73, .kp 74]),(6,32,[.kp 75, .row 93])],[(93,69)]⟩ (fun _=>(.s (.j ⟨[(0, .kp 70),(2, .px 2 0),(5, .kp 119),(6, .px 6 0),(7, .kp 120),(36, .bl)],[(2,32,[.kp 73, .kp 74]),(6,32,[.kp 75, .row 93])],[(93,69)]⟩ .o (fun _=>(.c .o .o))) (.s (.b (.s .o (.s .o (.s .o (.s .o (.j ⟨[(0, .kp 70),(2, .px 2 0),(5, .bl),(6, .px 6 0),(7, .kp 120),(8, .kp 130),(10, .px 10 0),(12, .px 12 0),(14, .px 14 0)],[(2,32,[.kp 73, .kp 74]),(6,32,[.kp 75, .row 93]),(10,67,[.kp 131, .kp 132]),(12,61,[.kp 133, .kp 134, .kp 135]),(14,61,[.kp 136, .kp 137, .kp 138])],[(93,69)]⟩ .o (fun _=> .o))))))) .o)))))) (.s .o .o))))))
def yr5:Cf KK:=⟨CC,[ygy,yma,ynZ],[],97,[],none,false⟩
theorem yr0:SpOk Try.prog CC ymv:=yay (F:=yr5) (ps:= [.v 76]) (rs:= [32,4]) (w:=yey) ybg (yas yiQ (yas yrs (yas yuA yaE))) yaD t33 (A:=yso) (by kernel_rfl) (by kernel_rfl) (fun a0 r0 r1=>show _=_ by kernel_rfl)
def yg0 (r0:List yaa) (r1:Int) (X1:Int→(List yaa)→Prop) (x3:Int) (z6:List yad) (z11:yae) (x13:Bool) (x14:List yaa):Prop:=
 cnd x13 (([]:List yaa)=r0/\(4:Int)=r1) ((x14.length<=1000000000)/\X1 (IntKind.i64.wrap (x3+(2:Int))) (x14++([(⟨z6,z11⟩:yaa)]:List yaa)))
def yhf (z1:List Str) (r0:List yaa) (r1:Int) (X1:Int→(List yaa)→Prop) (x3:Int) (x4:List yaa):Prop:=
 (z1.length<=maxLen->cnd (decide (x3<(z1.length:Int))) ((0<=x3)/\(x3<(z1.length:Int))/\∃y5:Str,(z1[x3.toNat]? =some y5)/\∃z6 z7,(yeX y5 z6 z7)/\(0<=(IntKind.i64.wrap (x3+(1:Int))))/\((IntKind.i64.wrap (x3+(1:Int)))<(z1.length:Int))/\∃y8:Str,(z1[(IntKind.i64.wrap (x3+(1:Int))).toNat]? =some y8)/\∃z9 z10,(yce y8 z9 z10)/\∃z11 z12,(yey z9 z11 z12)/\∀J2:Bool->(List yaa)->Prop,(∀x13 x14,yg0 r0 r1 X1 x3 z6 z11 x13 x14->J2 x13 x14)->cnd (!(z7==(0:Int))) (J2 true x4) (cnd (!(z10==(0:Int))) (J2 true x4) (J2 (!z12) x4))) (x4=r0/\(0:Int)=r1))
def yc2 (a0:Str) (r0:List yaa) (r1:Int):Prop:=
 ∃z1 z2,(yce a0 z1 z2)/\cnd (!(z2==(0:Int))) (([]:List yaa)=r0/\z2=r1) ((z1.length<=maxLen->cnd (!(((z1.length:Int).tmod (2:Int))==(0:Int))) (([]:List yaa)=r0/\(4:Int)=r1) (∀X1:Int->(List yaa)->Prop,(∀x3 x4,yhf z1 r0 r1 X1 x3 x4->X1 x3 x4)->X1 (0:Int) ([]:List yaa))))
def ycJ (X1:Int→(List yaa)→Prop) (r0:List yaa) (r1 x3:Int) (z6:List yad) (z11:yae) (x13:Bool) (x14:List yaa):Prop:=
 cnd x13 (([]:List yaa)=r0/\(4:Int)=r1) ((x14.length<=1000000000)/\X1 (IntKind.i64.wrap (x3+(2:Int))) (x14++([(⟨z6,z11⟩:yaa)]:List yaa)))
def ygB (r0:List yaa) (r1:Int) (z1:List Str) (X1:Int→(List yaa)→Prop) (x3:Int) (x4:List yaa):Prop:=
 (z1.length<=maxLen->cnd (decide (x3<(z1.length:Int))) ((0<=x3)/\(x3<(z1.length:Int))/\∃y5:Str,(z1[x3.toNat]? =some y5)/\∃z6 z7,(yeX y5 z6 z7)/\(0<=(IntKind.i64.wrap (x3+(1:Int))))/\((IntKind.i64.wrap (x3+(1:Int)))<(z1.length:Int))/\∃y8:Str,(z1[(IntKind.i64.wrap (x3+(1:Int))).toNat]? =some y8)/\∃z9 z10,(yce y8 z9 z10)/\∃z11 z12,(yey z9 z11 z12)/\cnd (!(z7==(0:Int))) (ycJ X1 r0 r1 x3 z6 z11 true x4) (cnd (!(z10==(0:Int))) (ycJ X1 r0 r1 x3 z6 z11 true x4) (ycJ X1 r0 r1 x3 z6 z11 (!z12) x4))) (x4=r0/\(0:Int)=r1))
def yjA (a0:Str) (r0:List yaa) (r1:Int):Prop:=
 ∃z1 z2,(yce a0 z1 z2)/\cnd (!(z2==(0:Int))) (([]:List yaa)=r0/\z2=r1) ((z1.length<=maxLen->cnd (!(((z1.length:Int).tmod (2:Int))==(0:Int))) (([]:List yaa)=r0/\(4:Int)=r1) (∀X1:Int->(List yaa)->Prop,(∀x3 x4,ygB r0 r1 z1 X1 x3 x4->X1 x3 x4)->X1 (0:Int) ([]:List yaa))))
theorem yl7 (X1:Int→(List yaa)→Prop) (r0:List yaa) (r1 x3:Int) (z6:List yad) (z11:yae) {x13:Bool} {x14:List yaa} (h:ycJ X1 r0 r1 x3 z6 z11 x13 x14):yg0 r0 r1 X1 x3 z6 z11 x13 x14:=by
 unfold yg0
 unfold ycJ at h
 exact h
theorem ylY (r0:List yaa) (r1:Int) (z1:List Str) {X1:Int→(List yaa)→Prop} {x3:Int} {x4:List yaa} (h:ygB r0 r1 z1 X1 x3 x4):yhf z1 r0 r1 X1 x3 x4:=by
 unfold yhf
 unfold ygB at h
 intro c
 replace h:=h c
 refine yak h (fun h=> ?_) (fun h=> ?_)
 ·obtain ⟨h0,h⟩:=h
  refine ⟨h0,?_⟩
  obtain ⟨h0,h⟩:=h
  refine ⟨h0,?_⟩
  obtain ⟨y5,h⟩:=h
  refine ⟨y5,?_⟩
  obtain ⟨h0,h⟩:=h
  refine ⟨h0,?_⟩
  obtain ⟨z6,h⟩:=h
  refine ⟨z6,?_⟩
  obtain ⟨z7,h⟩:=h
  refine ⟨z7,?_⟩
  obtain ⟨h0,h⟩:=h
  refine ⟨h0,?_⟩
  obtain ⟨h0,h⟩:=h
  refine ⟨h0,?_⟩
  obtain ⟨h0,h⟩:=h
  refine ⟨h0,?_⟩
  obtain ⟨y8,h⟩:=h
  refine ⟨y8,?_⟩
  obtain ⟨h0,h⟩:=h
  refine ⟨h0,?_⟩
  obtain ⟨z9,h⟩:=h
  refine ⟨z9,?_⟩
  obtain ⟨z10,h⟩:=h
  refine ⟨z10,?_⟩
  obtain ⟨h0,h⟩:=h
  refine ⟨h0,?_⟩
  obtain ⟨z11,h⟩:=h
  refine ⟨z11,?_⟩
  obtain ⟨z12,h⟩:=h
  refine ⟨z12,?_⟩
  obtain ⟨h0,h⟩:=h
  refine ⟨h0,?_⟩
  intro J2 kJ2
  have hJ2:∀x13 x14,ycJ X1 r0 r1 x3 z6 z11 x13 x14->J2 x13 x14:=fun x13 x14 q=>kJ2 x13 x14 (yl7 X1 r0 r1 x3 z6 z11 q)
  refine yak h (fun h=> ?_) (fun h=> ?_)
  ·exact hJ2 _ _ h
  ·refine yak h (fun h=> ?_) (fun h=> ?_)
   ·exact hJ2 _ _ h
   ·exact hJ2 _ _ h
 ·exact h
theorem yqp (a0:Str) (r0:List yaa) (r1:Int) (h:yjA a0 r0 r1):yc2 a0 r0 r1:=by
 unfold yc2
 unfold yjA at h
 obtain ⟨z1,h⟩:=h
 refine ⟨z1,?_⟩
 obtain ⟨z2,h⟩:=h
 refine ⟨z2,?_⟩
 obtain ⟨h0,h⟩:=h
 refine ⟨h0,?_⟩
 refine yak h (fun h=> ?_) (fun h=> ?_)
 ·exact h
 ·intro c
  replace h:=h c
  refine yak h (fun h=> ?_) (fun h=> ?_)
  ·exact h
  ·intro X1 k
   exact h X1 (fun x3 x4 q=>k x3 x4 (ylY r0 r1 z1 q))
def yjE:Sp KK:=⟨12,[.v 9],[26,52],appW (K:=KK) [26,52] [.v 9] yc2⟩
def yoT:An KK:=(.s .o (.s .o (.s (.s .o (.c (.s .o .o) .o)) (.s (.s .o (.c (.s .o .o) .o)) (.s .o (.s (.s .o (.b (.l ⟨[(4, .kp 48),(6, .row 69),(7, .it .i64)],[],[(69,34)]⟩ (fun _=>(.s (.s .o (.c .o .o)) (.s (.b (.s .o (.s .o (.s .o (.s (.j ⟨[(4, .kp 48),(6, .row 69),(7, .kp 91),(8, .kp 92),(12, .px 12 0),(63, .bl)],[(12,32,[.kp 93, .kp 94])],[(69,34)]⟩ .o (fun _=>(.c (.s .o .o) .o))) .o))))) .o)))))) (.s .o .o)))))))
def yoM:Cf KK:=⟨CC,[ygW,ykS,ymv],[],71,[],none,false⟩
theorem yph:SpOk Try.prog CC yjE:=yay (F:=yoM) (ps:= [.v 9]) (rs:= [26,52]) (w:=yc2) ybg (yas yjQ (yas yn6 (yas yr0 yaE))) yaD t12 (A:=yoT) (by kernel_rfl) (by kernel_rfl) (fun a0 r0 r1=>show _=_ by kernel_rfl)
def ydg (a0:Int) (r0:yae):Prop:=
 (0<=a0)/\(88*a0.toNat<=281474976710656)/\(a0<=1000000000)/\(⟨(0:Int),List.replicate a0.toNat (⟨(0:Int),(⟨(0:Int),(0:Int)⟩:yaj),(⟨(0:Int),(0:Int),([]:Str)⟩:yad),(⟨(0:Int),(0:Int),([]:Str)⟩:yad)⟩:yag)⟩:yae)=r0
def ymu:Sp KK:=⟨14,[.v 3],[32],appW (K:=KK) [32] [.v 3] ydg⟩
def yrm:An KK:=(.s .o (.s .o .o))
def yrG:Cf KK:=⟨CC,[],[],6,[],none,false⟩
theorem ysg:SpOk Try.prog CC ymu:=yay (F:=yrG) (ps:= [.v 3]) (rs:= [32]) (w:=ydg) ybg yaE yaD t14 (A:=yrm) (by kernel_rfl) (by kernel_rfl) (fun a0 r0=>show _=_ by kernel_rfl)
def yd5 (X1:Int→(List (List yaa))→(List yaa)→(List yac)→Prop) (x2:Int) (x13:Bool) (x14:List (List yaa)) (x15:List yaa) (x16:List yac):Prop:=
 cnd x13 (∃z17,(ybW ([x15]:List (List yaa)) z17)/\(x14.length<=1000000000)/\X1 (IntKind.i64.wrap (x2+(1:Int))) (x14++([z17]:List (List yaa))) ([]:List yaa) x16) (X1 (IntKind.i64.wrap (x2+(1:Int))) x14 x15 x16)
def yeg (r0:Bool) (X4:Int→Prop) (x21:Int) (x22:Bool):Prop:=
 cnd x22 (false=r0) (X4 (IntKind.i64.wrap (x21+(1:Int))))
def yd4 (r0:Bool) (X7:Int→Prop) (x35:Int) (x36:Bool):Prop:=
 cnd x36 (false=r0) (X7 (IntKind.i64.wrap (x35+(1:Int))))
def yeh (z32:List yaa) (r0:Bool) (z19:List yaa) (z20:List (List yac)) (X7:Int→Prop) (x35:Int):Prop:=
 (z32.length<=maxLen->cnd (decide (x35<(z32.length:Int))) (∀J8:Bool->Prop,(∀x36,yd4 r0 X7 x35 x36->J8 x36)->(0<=x35)/\(x35<(z32.length:Int))/\∃y37:yaa,(z32[x35.toNat]? =some y37)/\(0<=x35)/\(x35<(z19.length:Int))/\∃y38:yaa,(z19[x35.toNat]? =some y38)/\∃z39,(ycd y37.Row y38.Row z39)/\cnd (!(z39==(0:Int))) (J8 true) ((0<=x35)/\(x35<(z32.length:Int))/\∃y40:yaa,(z32[x35.toNat]? =some y40)/\(0<=x35)/\(x35<(z20.length:Int))/\∃y41:(List yac),(z20[x35.toNat]? =some y41)/\∃z42,(yaZ (⟨y40.Part.Rows,y40.Part.L⟩:yae) y41 z42)/\J8 (!z42))) (∃z43,(ydg (2:Int) z43)/\∃z44,(yaZ z43 ([]:List yac) z44)/\cnd z44 (∃z45,(ydg (2:Int) z45)/\∃z46,(ydg (2:Int) z46)/\∃z47,(ycI z45 z46 z47)/\∃z48,(yaZ z47 ([]:List yac) z48)/\z48=r0) (false=r0)))
def yd3 (r0:Bool) (z32 z19:List yaa) (z20:List (List yac)) (x34:Bool):Prop:=
 cnd x34 (false=r0) (∀X7:Int->Prop,(∀x35,yeh z32 r0 z19 z20 X7 x35->X7 x35)->X7 (0:Int))
def yd8 (z19:List yaa) (r0:Bool) (z20:List (List yac)) (X4:Int→Prop) (x21:Int):Prop:=
 (z19.length<=maxLen->cnd (decide (x21<(z19.length:Int))) (∀J5:Bool->Prop,(∀x22,yeg r0 X4 x21 x22->J5 x22)->(0<=x21)/\(x21<(z19.length:Int))/\∃y23:yaa,(z19[x21.toNat]? =some y23)/\∃z24,(ycu y23.Row z24)/\(0<=x21)/\(x21<(z20.length:Int))/\∃y25:(List yac),(z20[x21.toNat]? =some y25)/\(0<=(0:Int))/\((0:Int)<(y25.length:Int))/\∃y26:yac,(y25[(0:Int).toNat]? =some y26)/\∃z27,(ydF y26.Group z27)/\cnd (!(z24==z27)) (J5 true) ((0<=x21)/\(x21<(z19.length:Int))/\∃y28:yaa,(z19[x21.toNat]? =some y28)/\(0<=x21)/\(x21<(z20.length:Int))/\∃y29:(List yac),(z20[x21.toNat]? =some y29)/\∃z30,(yaZ (⟨y28.Part.Rows,y28.Part.L⟩:yae) y29 z30)/\J5 (!z30))) (∃z31,(yda z19 z31)/\∃z32 z33,(yc2 z31 z32 z33)/\∀J6:Bool->Prop,(∀x34,yd3 r0 z32 z19 z20 x34->J6 x34)->cnd (!(z33==(0:Int))) (J6 true) ((z32.length<=maxLen->(z19.length<=maxLen->cnd (!((z32.length:Int)==(z19.length:Int))) (J6 true) (∃z49,(yda z32 z49)/\J6 (!(z49==z31))))))))
def yee (x2:Int) (a0:List yau) (X1:Int→(List (List yaa))→(List yaa)→(List yac)→Prop) (a1:List Int) (r0 x6:Bool) (x7:List (List yaa)) (x8:List yaa) (x9:List yac):Prop:=
 cnd x6 ((0<=x2)/\(x2<(a0.length:Int))/\∃y10:yau,(a0[x2.toNat]? =some y10)/\∃z11 z12,(ye1 (⟨y10.Group,(⟨y10.A.Kind,y10.A.N,y10.A.S⟩:yax),(⟨y10.B.Kind,y10.B.N,y10.B.S⟩:yax)⟩:yau) z11 z12)/\(x8.length<=1000000000)/\(x9.length<=1000000000)/\∀J3:Bool->(List (List yaa))->(List yaa)->(List yac)->Prop,(∀x13 x14 x15 x16,yd5 X1 x2 x13 x14 x15 x16->J3 x13 x14 x15 x16)->(a1.length<=maxLen->cnd (decide ((0:Int)<(a1.length:Int))) ((a1.length<=maxLen->((a1.length:Int)≠0)/\(0<=(x2.tmod (a1.length:Int)))/\((x2.tmod (a1.length:Int))<(a1.length:Int))/\∃y18:Int,(a1[(x2.tmod (a1.length:Int)).toNat]? =some y18)/\J3 (((IntKind.i64.wrap y18).tmod (3:Int))==(0:Int)) x7 (x8++([(⟨z11.Row,(⟨z11.Part.Rows,z11.Part.L⟩:yae)⟩:yaa)]:List yaa)) (x9++([z12]:List yac)))) (J3 false x7 (x8++([(⟨z11.Row,(⟨z11.Part.Rows,z11.Part.L⟩:yae)⟩:yaa)]:List yaa)) (x9++([z12]:List yac))))) ((x7.length<=1000000000)/\∃z19,(ybW (x7++([x8]:List (List yaa))) z19)/\∃z20,(ycj x9 z20)/\(z19.length<=maxLen->(z20.length<=maxLen->cnd (!((z19.length:Int)==(z20.length:Int))) (false=r0) (∀X4:Int->Prop,(∀x21,yd8 z19 r0 z20 X4 x21->X4 x21)->X4 (0:Int)))))
def yd2 (a0:List yau) (a1:List Int) (r0:Bool) (X1:Int→(List (List yaa))→(List yaa)→(List yac)→Prop) (x2:Int) (x3:List (List yaa)) (x4:List yaa) (x5:List yac):Prop:=
 ∀J2:Bool->(List (List yaa))->(List yaa)->(List yac)->Prop,(∀x6 x7 x8 x9,yee x2 a0 X1 a1 r0 x6 x7 x8 x9->J2 x6 x7 x8 x9)->(a0.length<=maxLen->cnd (decide (x2<(a0.length:Int))) (J2 (decide (x2<(30:Int))) x3 x4 x5) (J2 false x3 x4 x5))
def ybD (a0:List yau) (a1:List Int) (r0:Bool):Prop:=
 ∃z1,(ycm z1)/\cnd (!z1) (false=r0) (∀X1:Int->(List (List yaa))->(List yaa)->(List yac)->Prop,(∀x2 x3 x4 x5,yd2 a0 a1 r0 X1 x2 x3 x4 x5->X1 x2 x3 x4 x5)->X1 (0:Int) ([]:List (List yaa)) ([]:List yaa) ([]:List yac))
def ya8 (X1:Int→(List (List yaa))→(List yaa)→(List yac)→Prop) (x2:Int) (x13:Bool) (x14:List (List yaa)) (x15:List yaa) (x16:List yac):Prop:=
 cnd x13 (∃z17,(ybW ([x15]:List (List yaa)) z17)/\(x14.length<=1000000000)/\X1 (IntKind.i64.wrap (x2+(1:Int))) (x14++([z17]:List (List yaa))) ([]:List yaa) x16) (X1 (IntKind.i64.wrap (x2+(1:Int))) x14 x15 x16)
def yb0 (X4:Int→Prop) (r0:Bool) (x21:Int) (x22:Bool):Prop:=
 cnd x22 (false=r0) (X4 (IntKind.i64.wrap (x21+(1:Int))))
def ybZ (X7:Int→Prop) (r0:Bool) (x35:Int) (x36:Bool):Prop:=
 cnd x36 (false=r0) (X7 (IntKind.i64.wrap (x35+(1:Int))))
def ydM (r0:Bool) (z19:List yaa) (z20:List (List yac)) (z32:List yaa) (X7:Int→Prop) (x35:Int):Prop:=
 (z32.length<=maxLen->cnd (decide (x35<(z32.length:Int))) ((0<=x35)/\(x35<(z32.length:Int))/\∃y37:yaa,(z32[x35.toNat]? =some y37)/\(0<=x35)/\(x35<(z19.length:Int))/\∃y38:yaa,(z19[x35.toNat]? =some y38)/\∃z39,(ycd y37.Row y38.Row z39)/\cnd (!(z39==(0:Int))) (ybZ X7 r0 x35 true) ((0<=x35)/\(x35<(z32.length:Int))/\∃y40:yaa,(z32[x35.toNat]? =some y40)/\(0<=x35)/\(x35<(z20.length:Int))/\∃y41:(List yac),(z20[x35.toNat]? =some y41)/\∃z42,(yaZ (⟨y40.Part.Rows,y40.Part.L⟩:yae) y41 z42)/\ybZ X7 r0 x35 (!z42))) (∃z43,(ydg (2:Int) z43)/\∃z44,(yaZ z43 ([]:List yac) z44)/\cnd z44 (∃z45,(ydg (2:Int) z45)/\∃z46,(ydg (2:Int) z46)/\∃z47,(ycI z45 z46 z47)/\∃z48,(yaZ z47 ([]:List yac) z48)/\z48=r0) (false=r0)))
def ybB (r0:Bool) (z19:List yaa) (z20:List (List yac)) (z32:List yaa) (x34:Bool):Prop:=
 cnd x34 (false=r0) (∀X7:Int->Prop,(∀x35,ydM r0 z19 z20 z32 X7 x35->X7 x35)->X7 (0:Int))
def ycB (r0:Bool) (z19:List yaa) (z20:List (List yac)) (X4:Int→Prop) (x21:Int):Prop:=
 (z19.length<=maxLen->cnd (decide (x21<(z19.length:Int))) ((0<=x21)/\(x21<(z19.length:Int))/\∃y23:yaa,(z19[x21.toNat]? =some y23)/\∃z24,(ycu y23.Row z24)/\(0<=x21)/\(x21<(z20.length:Int))/\∃y25:(List yac),(z20[x21.toNat]? =some y25)/\(0<=(0:Int))/\((0:Int)<(y25.length:Int))/\∃y26:yac,(y25[(0:Int).toNat]? =some y26)/\∃z27,(ydF y26.Group z27)/\cnd (!(z24==z27)) (yb0 X4 r0 x21 true) ((0<=x21)/\(x21<(z19.length:Int))/\∃y28:yaa,(z19[x21.toNat]? =some y28)/\(0<=x21)/\(x21<(z20.length:Int))/\∃y29:(List yac),(z20[x21.toNat]? =some y29)/\∃z30,(yaZ (⟨y28.Part.Rows,y28.Part.L⟩:yae) y29 z30)/\yb0 X4 r0 x21 (!z30))) (∃z31,(yda z19 z31)/\∃z32 z33,(yc2 z31 z32 z33)/\cnd (!(z33==(0:Int))) (ybB r0 z19 z20 z32 true) ((z32.length<=maxLen->(z19.length<=maxLen->cnd (!((z32.length:Int)==(z19.length:Int))) (ybB r0 z19 z20 z32 true) (∃z49,(yda z32 z49)/\ybB r0 z19 z20 z32 (!(z49==z31))))))))
def ybC (X1:Int→(List (List yaa))→(List yaa)→(List yac)→Prop) (a0:List yau) (a1:List Int) (r0:Bool) (x2:Int) (x6:Bool) (x7:List (List yaa)) (x8:List yaa) (x9:List yac):Prop:=
 cnd x6 ((0<=x2)/\(x2<(a0.length:Int))/\∃y10:yau,(a0[x2.toNat]? =some y10)/\∃z11 z12,(ye1 (⟨y10.Group,(⟨y10.A.Kind,y10.A.N,y10.A.S⟩:yax),(⟨y10.B.Kind,y10.B.N,y10.B.S⟩:yax)⟩:yau) z11 z12)/\(x8.length<=1000000000)/\(x9.length<=1000000000)/\(a1.length<=maxLen->cnd (decide ((0:Int)<(a1.length:Int))) ((a1.length<=maxLen->((a1.length:Int)≠0)/\(0<=(x2.tmod (a1.length:Int)))/\((x2.tmod (a1.length:Int))<(a1.length:Int))/\∃y18:Int,(a1[(x2.tmod (a1.length:Int)).toNat]? =some y18)/\ya8 X1 x2 (((IntKind.i64.wrap y18).tmod (3:Int))==(0:Int)) x7 (x8++([(⟨z11.Row,(⟨z11.Part.Rows,z11.Part.L⟩:yae)⟩:yaa)]:List yaa)) (x9++([z12]:List yac)))) (ya8 X1 x2 false x7 (x8++([(⟨z11.Row,(⟨z11.Part.Rows,z11.Part.L⟩:yae)⟩:yaa)]:List yaa)) (x9++([z12]:List yac))))) ((x7.length<=1000000000)/\∃z19,(ybW (x7++([x8]:List (List yaa))) z19)/\∃z20,(ycj x9 z20)/\(z19.length<=maxLen->(z20.length<=maxLen->cnd (!((z19.length:Int)==(z20.length:Int))) (false=r0) (∀X4:Int->Prop,(∀x21,ycB r0 z19 z20 X4 x21->X4 x21)->X4 (0:Int)))))
def ydK (a0:List yau) (a1:List Int) (r0:Bool) (X1:Int→(List (List yaa))→(List yaa)→(List yac)→Prop) (x2:Int) (x3:List (List yaa)) (x4:List yaa) (x5:List yac):Prop:=
 (a0.length<=maxLen->cnd (decide (x2<(a0.length:Int))) (ybC X1 a0 a1 r0 x2 (decide (x2<(30:Int))) x3 x4 x5) (ybC X1 a0 a1 r0 x2 false x3 x4 x5))
def yge (a0:List yau) (a1:List Int) (r0:Bool):Prop:=
 ∃z1,(ycm z1)/\cnd (!z1) (false=r0) (∀X1:Int->(List (List yaa))->(List yaa)->(List yac)->Prop,(∀x2 x3 x4 x5,ydK a0 a1 r0 X1 x2 x3 x4 x5->X1 x2 x3 x4 x5)->X1 (0:Int) ([]:List (List yaa)) ([]:List yaa) ([]:List yac))
theorem yit (X1:Int→(List (List yaa))→(List yaa)→(List yac)→Prop) (x2:Int) {x13:Bool} {x14:List (List yaa)} {x15:List yaa} {x16:List yac} (h:ya8 X1 x2 x13 x14 x15 x16):yd5 X1 x2 x13 x14 x15 x16:=by
 unfold yd5
 unfold ya8 at h
 exact h
theorem yiy (X4:Int→Prop) (r0:Bool) (x21:Int) {x22:Bool} (h:yb0 X4 r0 x21 x22):yeg r0 X4 x21 x22:=by
 unfold yeg
 unfold yb0 at h
 exact h
theorem yiB (X7:Int→Prop) (r0:Bool) (x35:Int) {x36:Bool} (h:ybZ X7 r0 x35 x36):yd4 r0 X7 x35 x36:=by
 unfold yd4
 unfold ybZ at h
 exact h
theorem yiz (r0:Bool) (z19:List yaa) (z20:List (List yac)) (z32:List yaa) {X7:Int→Prop} {x35:Int} (h:ydM r0 z19 z20 z32 X7 x35):yeh z32 r0 z19 z20 X7 x35:=by
 unfold yeh
 unfold ydM at h
 intro c
 replace h:=h c
 refine yak h (fun h=> ?_) (fun h=> ?_)
 ·intro J8 kJ8
  have hJ8:∀x36,ybZ X7 r0 x35 x36->J8 x36:=fun x36 q=>kJ8 x36 (yiB X7 r0 x35 q)
  obtain ⟨h0,h⟩:=h
  refine ⟨h0,?_⟩
  obtain ⟨h0,h⟩:=h
  refine ⟨h0,?_⟩
  obtain ⟨y37,h⟩:=h
  refine ⟨y37,?_⟩
  obtain ⟨h0,h⟩:=h
  refine ⟨h0,?_⟩
  obtain ⟨h0,h⟩:=h
  refine ⟨h0,?_⟩
  obtain ⟨h0,h⟩:=h
  refine ⟨h0,?_⟩
  obtain ⟨y38,h⟩:=h
  refine ⟨y38,?_⟩
  obtain ⟨h0,h⟩:=h
  refine ⟨h0,?_⟩
  obtain ⟨z39,h⟩:=h
  refine ⟨z39,?_⟩
  obtain ⟨h0,h⟩:=h
  refine ⟨h0,?_⟩
  refine yak h (fun h=> ?_) (fun h=> ?_)
  ·exact hJ8 _ h
  ·obtain ⟨h0,h⟩:=h
   refine ⟨h0,?_⟩
   obtain ⟨h0,h⟩:=h
   refine ⟨h0,?_⟩
   obtain ⟨y40,h⟩:=h
   refine ⟨y40,?_⟩
   obtain ⟨h0,h⟩:=h
   refine ⟨h0,?_⟩
   obtain ⟨h0,h⟩:=h
   refine ⟨h0,?_⟩
   obtain ⟨h0,h⟩:=h
   refine ⟨h0,?_⟩
   obtain ⟨y41,h⟩:=h
   refine ⟨y41,?_⟩
   obtain ⟨h0,h⟩:=h
   refine ⟨h0,?_⟩
   obtain ⟨z42,h⟩:=h
   refine ⟨z42,?_⟩
   obtain ⟨h0,h⟩:=h
   refine ⟨h0,?_⟩
   exact hJ8 _ h
 ·exact h
theorem yix (r0:Bool) (z19:List yaa) (z20:List (List yac)) (z32:List yaa) {x34:Bool} (h:ybB r0 z19 z20 z32 x34):yd3 r0 z32 z19 z20 x34:=by
 unfold yd3
 unfold ybB at h
 refine yak h (fun h=> ?_) (fun h=> ?_)
 ·exact h
 ·intro X7 k
  exact h X7 (fun x35 q=>k x35 (yiz r0 z19 z20 z32 q))
theorem yiu (r0:Bool) (z19:List yaa) (z20:List (List yac)) {X4:Int→Prop} {x21:Int} (h:ycB r0 z19 z20 X4 x21):yd8 z19 r0 z20 X4 x21:=by
 unfold yd8
 unfold ycB at h
 intro c
 replace h:=h c
 refine yak h (fun h=> ?_) (fun h=> ?_)
 ·intro J5 kJ5
  have hJ5:∀x22,yb0 X4 r0 x21 x22->J5 x22:=fun x22 q=>kJ5 x22 (yiy X4 r0 x21 q)
  obtain ⟨h0,h⟩:=h
  refine ⟨h0,?_⟩
  obtain ⟨h0,h⟩:=h
  refine ⟨h0,?_⟩
  obtain ⟨y23,h⟩:=h
  refine ⟨y23,?_⟩
  obtain ⟨h0,h⟩:=h
  refine ⟨h0,?_⟩
  obtain ⟨z24,h⟩:=h
  refine ⟨z24,?_⟩
  obtain ⟨h0,h⟩:=h
  refine ⟨h0,?_⟩
  obtain ⟨h0,h⟩:=h
  refine ⟨h0,?_⟩
  obtain ⟨h0,h⟩:=h
  refine ⟨h0,?_⟩
  obtain ⟨y25,h⟩:=h
  refine ⟨y25,?_⟩
  obtain ⟨h0,h⟩:=h
  refine ⟨h0,?_⟩
  obtain ⟨h0,h⟩:=h
  refine ⟨h0,?_⟩
  obtain ⟨h0,h⟩:=h
  refine ⟨h0,?_⟩
  obtain ⟨y26,h⟩:=h
  refine ⟨y26,?_⟩
  obtain ⟨h0,h⟩:=h
  refine ⟨h0,?_⟩
  obtain ⟨z27,h⟩:=h
  refine ⟨z27,?_⟩
  obtain ⟨h0,h⟩:=h
  refine ⟨h0,?_⟩
  refine yak h (fun h=> ?_) (fun h=> ?_)
  ·exact hJ5 _ h
  ·obtain ⟨h0,h⟩:=h
   refine ⟨h0,?_⟩
   obtain ⟨h0,h⟩:=h
   refine ⟨h0,?_⟩
   obtain ⟨y28,h⟩:=h
   refine ⟨y28,?_⟩
   obtain ⟨h0,h⟩:=h
   refine ⟨h0,?_⟩
   obtain ⟨h0,h⟩:=h
   refine ⟨h0,?_⟩
   obtain ⟨h0,h⟩:=h
   refine ⟨h0,?_⟩
   obtain ⟨y29,h⟩:=h
   refine ⟨y29,?_⟩
   obtain ⟨h0,h⟩:=h
   refine ⟨h0,?_⟩
   obtain ⟨z30,h⟩:=h
   refine ⟨z30,?_⟩
   obtain ⟨h0,h⟩:=h
   refine ⟨h0,?_⟩
   exact hJ5 _ h
 ·obtain ⟨z31,h⟩:=h
  refine ⟨z31,?_⟩
  obtain ⟨h0,h⟩:=h
  refine ⟨h0,?_⟩
  obtain ⟨z32,h⟩:=h
  refine ⟨z32,?_⟩
  obtain ⟨z33,h⟩:=h
  refine ⟨z33,?_⟩
  obtain ⟨h0,h⟩:=h
  refine ⟨h0,?_⟩
  intro J6 kJ6
  have hJ6:∀x34,ybB r0 z19 z20 z32 x34->J6 x34:=fun x34 q=>kJ6 x34 (yix r0 z19 z20 z32 q)
  refine yak h (fun h=> ?_) (fun h=> ?_)
  ·exact hJ6 _ h
  ·intro c
   replace h:=h c
   intro c
   replace h:=h c
   refine yak h (fun h=> ?_) (fun h=> ?_)
   ·exact hJ6 _ h
   ·obtain ⟨z49,h⟩:=h
    refine ⟨z49,?_⟩
    obtain ⟨h0,h⟩:=h
    refine ⟨h0,?_⟩
    exact hJ6 _ h
theorem yiC (X1:Int→(List (List yaa))→(List yaa)→(List yac)→Prop) (a0:List yau) (a1:List Int) (r0:Bool) (x2:Int) {x6:Bool} {x7:List (List yaa)} {x8:List yaa} {x9:List yac} (h:ybC X1 a0 a1 r0 x2 x6 x7 x8 x9):yee x2 a0 X1 a1 r0 x6 x7 x8 x9:=by
 unfold yee
 unfold ybC at h
 refine yak h (fun h=> ?_) (fun h=> ?_)
 ·obtain ⟨h0,h⟩:=h
  refine ⟨h0,?_⟩
  obtain ⟨h0,h⟩:=h
  refine ⟨h0,?_⟩
  obtain ⟨y10,h⟩:=h
  refine ⟨y10,?_⟩
  obtain ⟨h0,h⟩:=h
  refine ⟨h0,?_⟩
  obtain ⟨z11,h⟩:=h
  refine ⟨z11,?_⟩
  obtain ⟨z12,h⟩:=h
  refine ⟨z12,?_⟩
  obtain ⟨h0,h⟩:=h
  refine ⟨h0,?_⟩
  obtain ⟨h0,h⟩:=h
  refine ⟨h0,?_⟩
  obtain ⟨h0,h⟩:=h
  refine ⟨h0,?_⟩
  intro J3 kJ3
  have hJ3:∀x13 x14 x15 x16,ya8 X1 x2 x13 x14 x15 x16->J3 x13 x14 x15 x16:=fun x13 x14 x15 x16 q=>kJ3 x13 x14 x15 x16 (yit X1 x2 q)
  intro c
  replace h:=h c
  refine yak h (fun h=> ?_) (fun h=> ?_)
  ·intro c
   replace h:=h c
   obtain ⟨h0,h⟩:=h
   refine ⟨h0,?_⟩
   obtain ⟨h0,h⟩:=h
   refine ⟨h0,?_⟩
   obtain ⟨h0,h⟩:=h
   refine ⟨h0,?_⟩
   obtain ⟨y18,h⟩:=h
   refine ⟨y18,?_⟩
   obtain ⟨h0,h⟩:=h
   refine ⟨h0,?_⟩
   exact hJ3 _ _ _ _ h
  ·exact hJ3 _ _ _ _ h
 ·obtain ⟨h0,h⟩:=h
  refine ⟨h0,?_⟩
  obtain ⟨z19,h⟩:=h
  refine ⟨z19,?_⟩
  obtain ⟨h0,h⟩:=h
  refine ⟨h0,?_⟩
  obtain ⟨z20,h⟩:=h
  refine ⟨z20,?_⟩
  obtain ⟨h0,h⟩:=h
  refine ⟨h0,?_⟩
  intro c
  replace h:=h c
  intro c
  replace h:=h c
  refine yak h (fun h=> ?_) (fun h=> ?_)
  ·exact h
  ·intro X4 k
   exact h X4 (fun x21 q=>k x21 (yiu r0 z19 z20 q))
theorem yiF (a0:List yau) (a1:List Int) (r0:Bool) {X1:Int→(List (List yaa))→(List yaa)→(List yac)→Prop} {x2:Int} {x3:List (List yaa)} {x4:List yaa} {x5:List yac} (h:ydK a0 a1 r0 X1 x2 x3 x4 x5):yd2 a0 a1 r0 X1 x2 x3 x4 x5:=by
 unfold yd2
 unfold ydK at h
 intro J2 kJ2
 have hJ2:∀x6 x7 x8 x9,ybC X1 a0 a1 r0 x2 x6 x7 x8 x9->J2 x6 x7 x8 x9:=fun x6 x7 x8 x9 q=>kJ2 x6 x7 x8 x9 (yiC X1 a0 a1 r0 x2 q)
 intro c
 replace h:=h c
 refine yak h (fun h=> ?_) (fun h=> ?_)
 ·exact hJ2 _ _ _ _ h
 ·exact hJ2 _ _ _ _ h
theorem ykR (a0:List yau) (a1:List Int) (r0:Bool) (h:yge a0 a1 r0):ybD a0 a1 r0:=by
 unfold ybD
 unfold yge at h
 obtain ⟨z1,h⟩:=h
 refine ⟨z1,?_⟩
 obtain ⟨h0,h⟩:=h
 refine ⟨h0,?_⟩
 refine yak h (fun h=> ?_) (fun h=> ?_)
 ·exact h
 ·intro X1 k
  exact h X1 (fun x2 x3 x4 x5 q=>k x2 x3 x4 x5 (yiF a0 a1 r0 q))
def ycO:Sp KK:=⟨3,[.v 22, .v 23],[4],appW (K:=KK) [4] [.v 22, .v 23] ybD⟩
def yjV:An KK:=(.s .o (.s (.s .o (.c (.s .o .o) .o)) (.s .o (.s .o (.s .o (.s (.s .o (.b (.l ⟨[(0, .kp 11),(1, .kp 12),(5, .row 66),(6, .row 41),(7, .row 45),(8, .it .i64)],[],[(66,26),(41,34),(45,38)]⟩ (fun _=>(.s (.j ⟨[(0, .kp 11),(1, .kp 12),(5, .row 66),(6, .row 41),(7, .row 45),(8, .kp 20),(27, .bl)],[],[(66,26),(41,34),(45,38)]⟩ .o (fun _=>(.c .o .o))) (.s (.b (.s .o (.s .o (.j ⟨[(0, .kp 11),(1, .kp 12),(5, .row 66),(6, .row 41),(7, .row 45),(8, .kp 20),(60, .bl)],[],[(66,26),(41,34),(45,38)]⟩ .o (fun _=>(.c .o .o)))))) .o)))))) (.s .o (.s .o (.s (.s .o (.c (.s .o .o) .o)) (.s (.s .o (.b (.l ⟨[(11, .kp 28),(12, .kp 29),(13, .it .i64)],[],[]⟩ (fun _=>(.s (.s .o (.c .o .o)) (.s (.b (.j ⟨[(11, .kp 28),(12, .kp 29),(13, .kp 34),(113, .bl)],[],[]⟩ .o (fun _=>(.c (.s .o .o) .o)))) .o)))))) (.s .o (.s .o (.s (.j ⟨[(11, .kp 28),(12, .kp 29),(15, .kp 36),(135, .bl)],[],[]⟩ .o (fun _=>(.c (.s .o .o) .o))) (.s (.s .o (.b (.l ⟨[(11, .kp 28),(12, .kp 29),(15, .kp 36),(17, .it .i64)],[],[]⟩ (fun _=>(.s (.s .o (.c .o .o)) (.s (.b (.j ⟨[(11, .kp 28),(12, .kp 29),(15, .kp 36),(17, .kp 46),(166, .bl)],[],[]⟩ .o (fun _=>(.c (.s .o .o) .o)))) .o)))))) (.s .o .o)))))))))))))))
def yjn:Cf KK:=⟨CC,[yhL,yjU,yk5,yhI,yih,yk1,yhx,ymf,yjE,yeR,ymu,yg1],[],175,[],none,false⟩
theorem yjX:SpOk Try.prog CC ycO:=yay (F:=yjn) (ps:= [.v 22, .v 23]) (rs:= [4]) (w:=ybD) ybg (yas ym1 (yas yoR (yas yqR (yas ymN (yas ykE (yas yqY (yas yl0 (yas ysH (yas yph (yas ygv (yas ysg (yas yiY yaE)))))))))))) yaD t3 (A:=yjV) (by kernel_rfl) (by kernel_rfl) (fun a0 a1 r0=>show _=_ by kernel_rfl)
end Go.Proofs.Ytecfpoklnfaihaa
end
noncomputable section
namespace Go.Proofs.Ytecfpoklnfaihaa
open Go.AV Go.RowKit
abbrev V:=yad
abbrev V6:=yab
def Rg (n:Int):Prop:= -9223372036854775808<=n/\n<=9223372036854775807
def good (v:V):Prop:=(v.Kind=0/\v.N=0/\v.S= [])∨(v.Kind=1/\(v.N=0∨v.N=1)/\v.S= [])∨(v.Kind=2/\Rg v.N/\v.S= [])∨(v.Kind=3/\v.N=0/\v.S.length<=64)
def v6 (a:V):V6:=⟨a.Kind,a.N,a.S⟩
def D0:V:=⟨0,0,[]⟩
def eqV (a b:V):Bool:=(a.Kind==b.Kind)&&((a.N==b.N)&&((a.S==b.S)&&true))
theorem yAy {a b:V}:eqV a b=true↔a=b:=by
 cases a;cases b;simp[eqV]
theorem yvB (n:Int):Rg (IntKind.i64.wrap n):=by
 have:=ypQ n;unfold Rg;omega
theorem ypN (n:Int):yaO n ⟨2,n,[]⟩:=by unfold yaO;rfl
def cI (a b:Int):Int:=if a<b then-1 else if b<a then 1 else 0
def cS (a b:Str):Int:=if Op.bytesLess a b then-1 else if !(Op.bytesLess a b||a==b) then 1 else 0
theorem yD2 (a b:Int):ydb a b (cI a b):=by
 refine ⟨_,rfl,_,rfl,?_⟩
 grind[cnd,cI]
theorem yDk (a b:Int):ycC a b (cI a b):=by
 refine ⟨_,rfl,_,rfl,?_⟩
 grind[cnd,cI]
theorem yDz (a b:Str):yct a b (cS a b):=by
 refine ⟨_,rfl,_,rfl,?_⟩
 grind[cnd,cS]
def sOr (a b c:Int):Int:=if a≠0 then a else if b≠0 then b else c
theorem pOr (a b c:Int):ye4 [a,b,c] (sOr a b c):=by
 unfold ye4
 intro _ X hX
 apply hX
 refine ⟨fun _=>⟨by omega,by simp,a,rfl,?_⟩,fun h=>by simp at h⟩
 refine ⟨fun h=>by grind[sOr],fun h=> ?_⟩
 rw[wrap64 (by omega) (by omega)]
 apply hX
 refine ⟨fun _=>⟨by omega,by simp,b,rfl,?_⟩,fun h=>by simp at h⟩
 refine ⟨fun h=>by grind[sOr],fun h=> ?_⟩
 rw[wrap64 (by omega) (by omega)]
 apply hX
 refine ⟨fun _=>⟨by omega,by simp,c,rfl,?_⟩,fun h=>by simp at h⟩
 refine ⟨fun h=>by grind[sOr],fun h=> ?_⟩
 rw[wrap64 (by omega) (by omega)]
 apply hX
 refine ⟨fun h=>by simp at h,fun _=>by grind[sOr]⟩
def sCmp (a b:V):Int:=sOr (cI a.Kind b.Kind) (cI a.N b.N) (cS a.S b.S)
theorem ylK (a b:V):ybK a b (sCmp a b):=
 ⟨_,yD2 a.Kind b.Kind,_,yDk a.N b.N,_,yDz a.S b.S,_,pOr _ _ _,rfl⟩
def yc8 (a b:V6):Bool:=if a.Kind≠b.Kind then decide (a.Kind<b.Kind) else if a.Kind=3 then Op.bytesLess a.S b.S else decide (a.N<b.N)
theorem yvw {a b:Str} {i:Nat} (h1:i<a.length) (h2:i<b.length):Op.bytesLess (a.drop i) (b.drop i)=(decide (a[i]<b[i])||(a[i]==b[i]&&Op.bytesLess (a.drop (i+1)) (b.drop (i+1)))):=by
 rw[List.drop_eq_getElem_cons h1,List.drop_eq_getElem_cons h2]
 simp only[Op.bytesLess]
theorem yAt {a b:Str} {i:Nat} (h1:a.length≤i) (h2:i≤b.length):Op.bytesLess (a.drop i) (b.drop i)=decide (i<b.length):=by
 rw[List.drop_of_length_le h1]
 by_cases h:i<b.length
 ·rw[List.drop_eq_getElem_cons h];simp[Op.bytesLess,h]
 ·rw[List.drop_of_length_le (by omega)];simp[Op.bytesLess,h]
theorem yAd {a b:Str} {i:Nat} (h2:b.length≤i):Op.bytesLess (a.drop i) (b.drop i)=false:=by
 rw[List.drop_of_length_le h2]
 cases a.drop i<;>rfl
theorem yme {s:Str} {i:Nat} (h:i<s.length):bAt s (i:Int)=(s[i].toNat:Int):=by
 unfold bAt
 rw[Int.toNat_natCast,List.getElem?_eq_getElem h];rfl
theorem yvZ (a b:V6) (h1:a.S.length≤1000) (h2:b.S.length≤1000):yaS a b (yc8 a b):=by
 apply yno
 refine ⟨fun c=> ?_,fun c=>⟨fun c3=> ?_,fun c3=> ?_⟩⟩
 ·have c:a.Kind≠b.Kind:=by simpa using c
  simp[yc8,c]
 ·have c:a.Kind=b.Kind:=by simpa using c
  have c3:a.Kind=3:=by simpa using c3
  have hs:yc8 a b=Op.bytesLess a.S b.S:=by simp[yc8,<-c,c3]
  rw[hs]
  refine lp1 (fun (x:Int)=>∃i:Nat,x=(i:Int)/\i<=a.S.length/\i<=b.S.length/\Op.bytesLess a.S b.S=Op.bytesLess (a.S.drop i) (b.S.drop i)) (fun (x:Int)=>a.S.length-x.toNat) ?_ ⟨0,rfl,by omega,by omega,rfl⟩
  rintro X x ⟨i,rfl,hi1,hi2,he⟩ hX
  rw[he]
  simp only[ydA,yb6]
  by_cases l1:i<a.S.length
  ·by_cases l2:i<b.S.length
   ·have t1:((i:Int)<a.S.length):=by omega
    have t2:((i:Int)<b.S.length):=by omega
    simp only[t1,t2,decide_true]
    refine ⟨fun _=>⟨fun _=>⟨(by refine ⟨?_,?_⟩<;>first|trivial|omega),(by refine ⟨?_,?_⟩<;>first|trivial|omega),?_⟩,fun q=>(by cases q)⟩,fun q=>(by cases q)⟩
    rw[yme l1,yme l2,yvw l1 l2]
    refine ⟨fun d=>⟨(by refine ⟨?_,?_⟩<;>first|trivial|omega),(by refine ⟨?_,?_⟩<;>first|trivial|omega),?_⟩,fun d=> ?_⟩
    ·have d0:¬(a.S[i].toNat:Int)=b.S[i].toNat:=by simpa using d
     have d:¬a.S[i].toNat=b.S[i].toNat:=by omega
     have d':¬a.S[i]=b.S[i]:=fun e=>d (by rw[e])
     rw[Bool.eq_iff_iff]
     simp[d',UInt8.lt_iff_toNat_lt]
    ·have d:a.S[i]=b.S[i]:=by
      have d0:(a.S[i].toNat:Int)=b.S[i].toNat:=by simpa using d
      have:a.S[i].toNat=b.S[i].toNat:=by omega
      exact UInt8.toNat_inj.1 this
     rw[wrap64 (by omega) (by omega)]
     refine hX _ ⟨i+1,by omega,by omega,by omega,?_⟩ (by omega)
     rw[he,yvw l1 l2]
     have hlt:¬b.S[i]<b.S[i]:=Nat.lt_irrefl _
     simp[d,hlt]
   ·have t1:((i:Int)<a.S.length):=by omega
    have t2:¬((i:Int)<b.S.length):=by omega
    simp only[t1,t2,decide_true,decide_false]
    refine ⟨fun _=>⟨fun q=>(by cases q),fun _=> ?_⟩,fun q=>(by cases q)⟩
    rw[yAd (by omega)]
    simp;omega
  ·have t1:¬((i:Int)<a.S.length):=by omega
   simp only[t1,decide_false]
   refine ⟨fun q=>(by cases q),fun _=>⟨fun q=>(by cases q),fun _=> ?_⟩⟩
   rw[yAt (by omega) hi2]
   rw[Bool.eq_iff_iff];simp;omega
 ·have c:a.Kind=b.Kind:=by simpa using c
  have c3:¬a.Kind=3:=by simpa using c3
  simp[yc8,<-c,c3]
theorem cS_0 {a b:Str}:cS a b=0↔a=b:=by
 unfold cS
 have:=yfS b
 rcases ylO a b with h|rfl|h
 ·rw[if_pos h];refine ⟨fun q=>(by cases q),?_⟩;rintro rfl;rw[h] at this;cases this
 ·simp[this]
 ·have hn:¬Op.bytesLess a b=true:=fun q=>by have:=yjw _ _ _ q h;rw[yfS] at this;cases this
  have he:¬a=b:=fun e=>by subst e;rw[h] at this;cases this
  simp[hn,he]
theorem yyH {a b:Str}:cS a b<0↔Op.bytesLess a b=true:=by
 unfold cS;split
 ·rename_i h;simp[h]
 ·rename_i h;split<;>simp[h]
theorem yBk {a b:Str}:0<cS a b↔Op.bytesLess b a=true:=by
 have hi:=yfS b
 unfold cS
 rcases ylO a b with h|rfl|h
 ·have hn:¬Op.bytesLess b a=true:=fun q=>by have:=yjw _ _ _ h q;rw[yfS] at this;cases this
  simp[h,hn]
 ·simp[hi]
 ·have hn:¬Op.bytesLess a b=true:=fun q=>by have:=yjw _ _ _ q h;rw[yfS] at this;cases this
  have he:¬a=b:=fun e=>by subst e;rw[h] at hi;cases hi
  simp[hn,he,h]
theorem ymx {a b:Int}:(cI a b=0↔a=b)∧(cI a b<0↔a<b)∧(0<cI a b↔b<a):=by
 unfold cI
 split
 ·refine ⟨by omega,by omega,by omega⟩
 ·split<;>refine ⟨by omega,by omega,by omega⟩
theorem ylU {a b:V}:sCmp a b=0↔a=b:=by
 unfold sCmp sOr
 have h1:=(ymx (a:=a.Kind) (b:=b.Kind)).1
 have h2:=(ymx (a:=a.N) (b:=b.N)).1
 have h3:=cS_0 (a:=a.S) (b:=b.S)
 cases a;cases b
 simp only[yad.mk.injEq]
 simp only at h1 h2 h3
 split
 ·rename_i c;exact ⟨fun q=>absurd q c,fun q=>absurd (h1.2 q.1) c⟩
 ·rename_i c
  have c:=Decidable.not_not.1 c
  split
  ·rename_i d;exact ⟨fun q=>absurd q d,fun q=>absurd (h2.2 q.2.1) d⟩
  ·rename_i d
   have d:=Decidable.not_not.1 d
   rw[h3];exact ⟨fun q=>⟨h1.1 c,h2.1 d,q⟩,fun q=>q.2.2⟩
theorem yxl {a b:V} (ha:good a) (hb:good b):(sCmp a b<0↔yc8 (v6 a) (v6 b)=true)∧(0<sCmp a b↔yc8 (v6 b) (v6 a)=true):=by
 have h1:=ymx (a:=a.Kind) (b:=b.Kind)
 have h2:=ymx (a:=a.N) (b:=b.N)
 have h3:=yyH (a:=a.S) (b:=b.S)
 have h4:=yBk (a:=a.S) (b:=b.S)
 have hs:∀ {u v:V},good u→good v→u.Kind=v.Kind→(u.Kind=3→u.N=v.N)∧(¬u.Kind=3→u.S=v.S):=by
  intro u v hu hv e
  unfold good at hu hv
  refine ⟨fun k=> ?_,fun k=> ?_⟩
  ·rcases hu with h|h|h|h<;>rcases hv with h'|h'|h'|h'<;>omega
  ·rcases hu with h|h|h|h<;>rcases hv with h'|h'|h'|h'<;>first|(rw[h.2.2,h'.2.2];done)|omega
 unfold sCmp sOr yc8 v6
 simp only
 by_cases hk:a.Kind=b.Kind
 ·have hk0:=h1.1.2 hk
  obtain ⟨e3,e4⟩:=hs ha hb hk
  rw[hk0]
  simp only[ne_eq,not_true_eq_false,if_false,hk]
  by_cases k3:b.Kind=3
  ·have hn0:=h2.1.2 (e3 (by omega))
   rw[hn0]
   simp only[not_true_eq_false,if_false,k3,if_true]
   exact ⟨h3,h4⟩
  ·have es:=e4 (by omega)
   simp only[k3,if_false]
   have hc:cS a.S b.S=0:=cS_0.2 es
   rw[hc]
   by_cases hn:cI a.N b.N=0
   ·have e1:=h2.2.1
    have e2:=h2.2.2
    simp only[hn,not_true_eq_false,if_false,decide_eq_true_eq] at*
    exact ⟨by omega,by omega⟩
   ·simp only[hn,not_false_eq_true,if_true]
    exact ⟨by rw[h2.2.1];simp,by rw[h2.2.2];simp⟩
 ·have hn:¬cI a.Kind b.Kind=0:=fun q=>hk (h1.1.1 q)
  have hk':¬b.Kind=a.Kind:=fun q=>hk q.symm
  simp only[ne_eq,hn,not_false_eq_true,if_true,hk,hk']
  exact ⟨by rw[h1.2.1];simp,by rw[h1.2.2];simp⟩
theorem yun {a:V} (h:good a):Rg a.N:=by
 unfold good at h;unfold Rg at*
 rcases h with h|h|h|h<;>omega
theorem yr9 {a:V} (h:good a):a.S.length≤64:=by
 unfold good at h
 rcases h with h|h|h|h
 ·rw[h.2.2];simp
 ·rw[h.2.2];simp
 ·rw[h.2.2];simp
 ·exact h.2.2
theorem yDi {a b:V}:(((v6 a).Kind==(v6 b).Kind)&&(((v6 a).N==(v6 b).N)&&(((v6 a).S==(v6 b).S)&&true)))=eqV a b:=rfl
def yui (v:V):Bool:=if v.Kind=0 then eqV v D0 else if v.Kind=1 then (v.N==0||v.N==1)&&v.S== [] else if v.Kind=2 then v.S== [] else if v.Kind=3 then v.N==0&&decide ((v.S.length:Int)<=64) else false
theorem yuX (v:V):ybM v (yui v):=by
 unfold ybM
 have e:((v.Kind==0)&&((v.N==0)&&((v.S==([]:Str))&&true)))=eqV v D0:=rfl
 rw[e]
 unfold yui
 generalize eqV v D0=z
 refine ⟨fun c=> ?_,fun c=>⟨fun c1=> ?_,fun c1=>⟨fun c2=> ?_,fun c2=>⟨fun c3=> ?_,fun c3=> ?_⟩⟩⟩⟩<;>simp only[beq_iff_eq,beq_eq_false_iff_ne,ne_eq] at* <;>grind[cnd]
end Go.Proofs.Ytecfpoklnfaihaa
end
noncomputable section
namespace Go.Proofs.Ytecfpoklnfaihaa
open Go.AV Go.RowKit
theorem yrP (s:Str):(s.map ofB).map toB=s:=by
 induction s with
 |nil=>rfl
 | cons c s ih=>
   simp only[List.map_cons,ih]
   congr 1
   show UInt8.ofNat ((c.toNat:Int).toNat)=c
   rw[Int.toNat_natCast];exact UInt8.ofNat_toNat
def nmb:Str→Nat
 | []=>0
 |c::s=>c.toNat*256^s.length+nmb s
theorem ymb (s:Str):nmb s<256^s.length:=by
 induction s with
 |nil=>simp[nmb]
 | cons c s ih=>
   have hc:c.toNat<256:=c.toNat_lt
   have e:(256:Nat)^(c::s).length=256*256^s.length:=by simp[Nat.pow_succ,Nat.mul_comm]
   rw[e]
   have:c.toNat*256^s.length<=255*256^s.length:=Nat.mul_le_mul_right _ (by omega)
   simp only[nmb];omega
theorem ys1 (s:Str) (c:UInt8):nmb (s++ [c])=nmb s*256+c.toNat:=by
 induction s with
 |nil=>simp[nmb]
 | cons d s ih=>
   have:d.toNat*256^(s.length+1)=d.toNat*256^s.length*256:=by rw[Nat.pow_succ,Nat.mul_assoc]
   simp only[List.cons_append,nmb,ih,List.length_append,List.length_cons,List.length_nil]
   simp only[Nat.zero_add,this];omega
theorem yAI:∀ {s t:Str},s.length=t.length→nmb s=nmb t→s=t:=by
 intro s
 induction s with
 |nil=>intro t h _;exact (List.eq_nil_of_length_eq_zero h.symm).symm
 | cons c s ih=>
   intro t h e
   cases t with
   |nil=>simp at h
   | cons d t=>
     have hl:s.length=t.length:=by simpa using h
     have h1:=ymb s
     have h2:=ymb t
     simp only[nmb] at e
     rw[<-hl] at e h2
     have hB:0<256^s.length:=Nat.pow_pos (by omega)
     have hcd:c.toNat=d.toNat:=by
      have e1:(c.toNat*256^s.length+nmb s)/256^s.length=c.toNat:=by
       rw[Nat.add_comm,Nat.add_mul_div_right _ _ hB,Nat.div_eq_of_lt h1];omega
      have e2:(d.toNat*256^s.length+nmb t)/256^s.length=d.toNat:=by
       rw[Nat.add_comm,Nat.add_mul_div_right _ _ hB,Nat.div_eq_of_lt h2];omega
      rw[<-e1,<-e2,e]
     have hcd':c=d:=UInt8.toNat_inj.1 hcd
     subst hcd'
     rw[ih hl (by omega)]
def be:Nat→Nat→Str
 |0,_=> []
 |i+1,u=>UInt8.ofNat (u/256^i)::be i u
theorem ydP (k u:Nat):(be k u).length=k:=by
 induction k with
 |zero=>rfl
 |succ k ih=>simp[be,ih]
theorem ynS (k u:Nat):nmb (be k u)=u % 256^k:=by
 induction k with
 |zero=>simp[be,nmb,Nat.mod_one]
 | succ k ih=>
   simp only[be,nmb,ydP,ih]
   rw[Nat.mod_pow_succ,UInt8.toNat_ofNat',Nat.mul_comm]
   show 256^k*(u/256^k % 2^8)+_=_
   rw[Nat.add_comm]
theorem yCn (s:Str):be s.length (nmb s)=s:=by
 refine yAI (ydP _ _) ?_
 rw[ynS,Nat.mod_eq_of_lt (ymb s)]
def tl (a:Nat):Nat→List Int
 |0=> []
 |i+1=>ofB (UInt8.ofNat (a/256^i))::tl a i
theorem yx4 (a k:Nat):tl a k=(be k a).map ofB:=by
 induction k with
 |zero=>rfl
 |succ k ih=>simp[tl,be,ih]
theorem yyu (a k:Nat):(tl a k).length=k:=by rw[yx4];simp[ydP]
theorem pow8 (i:Nat):(2:Nat)^(8*i)=256^i:=by
 rw[Nat.pow_mul]
theorem yvP (n:Nat):ofB (UInt8.ofNat n)=((n % 256:Nat):Int):=by
 show (((UInt8.ofNat n).toNat:Nat):Int)=_
 rw[UInt8.toNat_ofNat']
theorem yCO {a k:Nat} (hk:k≤8):yex (a:Int) (k:Int) (tl a k):=by
 unfold yex
 refine ⟨by omega,by omega,by omega,?_⟩
 refine lp2 (fun (x:Int) (y:List Int)=>∃i:Nat,x=i/\i<=k/\y=List.replicate (k-i) (0:Int)++tl a i) (fun (x:Int) (_:List Int)=>k-x.toNat) ?_ ⟨0,rfl,by omega,by simp[tl]⟩
 rintro X x y ⟨i,rfl,hi,rfl⟩ hX
 simp only[yk2]
 have ek:(k:Int).toNat=k:=Int.toNat_natCast k
 refine ⟨fun c=> ?_,fun c=> ?_⟩
 ·have c:(i:Int)<((List.replicate (k:Int).toNat (0:Int)).length:Int):=by simpa using c
  rw[ek,List.length_replicate] at c
  have w1:IntKind.i64.wrap (8*(i:Int))=8*(i:Int):=wrap64 (by omega) (by omega)
  have w2:IntKind.i64.wrap ((k:Int)-1)=(k:Int)-1:=wrap64 (by omega) (by omega)
  have w3:IntKind.i64.wrap ((k:Int)-1-(i:Int))=((k-1-i:Nat):Int):=by rw[wrap64 (by omega) (by omega)];omega
  have w4:IntKind.i64.wrap ((i:Int)+1)=((i+1:Nat):Int):=by rw[wrap64 (by omega) (by omega)];omega
  rw[w1,w2,w3,w4,Int.toNat_natCast]
  have hm:k-i=(k-1-i)+1:=by omega
  have er:List.replicate (k-i) (0:Int)++tl a i=List.replicate (k-1-i) 0++(0::tl a i):=by
   rw[hm,List.replicate_succ',List.append_assoc];rfl
  have hmin:min (8*(i:Int)).toNat IntKind.u64.bits=8*i:=by
   show min _ 64=_
   omega
  have hsh:IntKind.u8.wrap ((a:Int).fdiv (2^(min (8*(i:Int)).toNat IntKind.u64.bits)))=ofB (UInt8.ofNat (a/256^i)):=by
   rw[hmin,yvP,yqt]
   have:(2:Int)^(8*i)=((256^i:Nat):Int):=by rw[<-pow8];norm_cast
   rw[this,Int.fdiv_eq_ediv_of_nonneg _ (Int.natCast_nonneg _),<-Int.natCast_ediv]
   generalize a/256^i=q
   omega
  rw[hsh,er]
  refine ⟨by omega,by omega,by simp;omega,0,?_,?_⟩
  ·rw[List.getElem?_append_right (by simp)];simp
  ·refine hX _ _ ⟨i+1,rfl,by omega,?_⟩ (by omega)
   have e2:k-(i+1)=k-1-i:=by omega
   rw[List.set_append_right _ _ (by simp),e2];simp[tl]
 ·have c:¬(i:Int)<((List.replicate (k:Int).toNat (0:Int)).length:Int):=by simpa using c
  rw[ek,List.length_replicate] at c
  have:k-i=0:=by omega
  have e:i=k:=by omega
  rw[this,e];rfl
end Go.Proofs.Ytecfpoklnfaihaa
end
noncomputable section
namespace Go.Proofs.Ytecfpoklnfaihaa
open Go.AV Go.RowKit
theorem ywv {u:Nat} (h:u<2^64):u^^^2^63=(u+2^63) % 2^64:=by
 have h1:(u^^^2^63) % 2^63=u % 2^63:=by
  rw[Nat.xor_mod_two_pow];simp
 have h2:(u^^^2^63)/2^63=(u/2^63)^^^1:=by
  rw[Nat.xor_div_two_pow]
 have h3:u/2^63=0∨u/2^63=1:=by omega
 have h4:=Nat.div_add_mod (u^^^2^63) (2^63)
 rw[h1,h2] at h4
 rcases h3 with h3|h3
 ·rw[h3] at h4
  have:(0^^^1:Nat)=1:=rfl
  rw[this] at h4;omega
 ·rw[h3] at h4
  have:(1^^^1:Nat)=0:=rfl
  rw[this] at h4;omega
theorem yCf (n:Int):bits .xor .u64 n 9223372036854775808=((((n % 18446744073709551616).toNat+9223372036854775808) % 18446744073709551616:Nat):Int):=by
 have key:(BitVec.ofInt 64 n^^^BitVec.ofInt 64 9223372036854775808).toNat=((n % 18446744073709551616).toNat+9223372036854775808) % 18446744073709551616:=by
  rw[BitVec.toNat_xor,BitVec.toNat_ofInt,BitVec.toNat_ofInt]
  have e:(9223372036854775808 % ((2^64:Nat):Int)).toNat=2^63:=by decide
  rw[e]
  have:(n % ((2^64:Nat):Int)).toNat<2^64:=by omega
  rw[ywv this];rfl
 show IntKind.u64.wrap ((BitVec.ofInt 64 n^^^BitVec.ofInt 64 9223372036854775808).toNat:Nat)=_
 rw[key];exact yia (by omega) (by omega)
theorem or8 {x c:Nat} (hx:x<72057594037927936) (hc:c<256):bits .or .u64 (IntKind.u64.wrap ((x:Int)*2^(min (8:Int).toNat IntKind.u64.bits))) (IntKind.u64.wrap (c:Int))=((x*256+c:Nat):Int):=by
 have e1:IntKind.u64.wrap ((x:Int)*2^(min (8:Int).toNat IntKind.u64.bits))=((2^8*x:Nat):Int):=by
  have:(2:Int)^(min (8:Int).toNat IntKind.u64.bits)=256:=by decide
  rw[this,yia (by omega) (by omega)];omega
 have e2:IntKind.u64.wrap (c:Int)=(c:Int):=yia (by omega) (by omega)
 rw[e1,e2]
 have key:(BitVec.ofInt 64 ((2^8*x:Nat):Int)|||BitVec.ofInt 64 (c:Int)).toNat=x*256+c:=by
  rw[BitVec.toNat_or,BitVec.toNat_ofInt,BitVec.toNat_ofInt]
  have a1:(((2^8*x:Nat):Int) % ((2^64:Nat):Int)).toNat=2^8*x:=by omega
  have a2:((c:Int) % ((2^64:Nat):Int)).toNat=c:=by omega
  rw[a1,a2,<-Nat.two_pow_add_eq_or_of_lt (by omega:c<2^8)];omega
 show IntKind.u64.wrap ((BitVec.ofInt 64 ((2^8*x:Nat):Int)|||BitVec.ofInt 64 (c:Int)).toNat:Nat)=_
 rw[key];exact yia (by omega) (by omega)
def sInt (n:Int):Str:=be 8 (n+9223372036854775808).toNat
theorem ygn (n:Int):(sInt n).length=8:=ydP _ _
theorem pInt {n:Int} (h:Rg n):ydT n (sInt n):=by
 unfold Rg at h
 refine ⟨(sInt n).map ofB,?_,yrP _⟩
 ·rw[yCf]
  have e:((((IntKind.u64.wrap n) % 18446744073709551616).toNat+9223372036854775808) % 18446744073709551616:Nat)=(n+9223372036854775808).toNat:=by
   rw[ydQ];omega
  rw[e]
  have:=yCO (a:=(n+9223372036854775808).toNat) (k:=8) (by omega)
  rw[yx4] at this;exact this
theorem yv0 {s:Str} (h:s.length≤8):yc9 s (nmb s):=by
 unfold yc9
 refine lp2 (fun (x y:Int)=>∃i:Nat,y=i/\i<=s.length/\x=(nmb (s.take i):Int)) (fun (_ y:Int)=>s.length-y.toNat) ?_ ⟨0,rfl,by omega,by simp[nmb]⟩
 rintro X x y ⟨i,rfl,hi,rfl⟩ hX
 simp only[yiP]
 refine ⟨fun c=> ?_,fun c=> ?_⟩
 ·have c:(i:Int)<s.length:=by simpa using c
  have hlt:i<s.length:=by omega
  refine ⟨⟨by omega,c⟩,?_⟩
  have w4:IntKind.i64.wrap ((i:Int)+1)=((i+1:Nat):Int):=by rw[wrap64 (by omega) (by omega)];omega
  have hn:=ymb (s.take i)
  have hle:(s.take i).length<=7:=by rw[List.length_take];omega
  have hp:256^(s.take i).length<=256^7:=Nat.pow_le_pow_right (by omega) hle
  rw[yme hlt,or8 (by omega) (s[i].toNat_lt),w4]
  refine hX _ _ ⟨i+1,rfl,by omega,?_⟩ (by omega)
  rw[List.take_succ_eq_append_getElem hlt,ys1]
 ·have c:¬(i:Int)<s.length:=by simpa using c
  rw[List.take_of_length_le (by omega)]
theorem ywS {s:Str} (h:s.length=8):IntKind.i64.wrap (bits .xor .u64 (nmb s:Int) 9223372036854775808)=(nmb s:Int)-9223372036854775808:=by
 have hn:=ymb s
 rw[h] at hn
 rw[yCf,ydy]
 split<;>omega
theorem yxd (s:Str):ybG s (if s.length=8 then (nmb s:Int)-9223372036854775808 else 0) (decide (s.length=8)):=by
 refine ⟨fun c=> ?_,fun c=> ?_⟩
 ·have c:¬s.length=8:=by
   have:¬(s.length:Int)=8:=by simpa using c
   omega
  rw[if_neg c,decide_eq_false c];exact ⟨rfl,rfl⟩
 ·have c:s.length=8:=by
   have:(s.length:Int)=8:=by simpa using c
   omega
  rw[if_pos c,decide_eq_true c]
  exact ⟨_,yv0 (by omega),ywS c,rfl⟩
def yqv (s:Str):Str×Str×Bool:=if s.length<4 then ([],s,false) else if s.length-4<nmb (s.take 4) then ([],s,false) else ((s.drop 4).take (nmb (s.take 4)),s.drop (4+nmb (s.take 4)),true)
theorem yCV {s:Str} (h:s.length≤1000000000):ygg s (yqv s).1 (yqv s).2.1 (yqv s).2.2:=by
 unfold yqv
 refine ⟨fun c=> ?_,fun c=> ?_⟩
 ·have c:(s.length:Int)<4:=of_decide_eq_true c
  rw[if_pos (by omega)];exact ⟨rfl,rfl,rfl⟩
 ·have c:¬(s.length:Int)<4:=of_decide_eq_false c
  rw[if_neg (by omega)]
  have e0:(s.drop (0:Int).toNat).take ((4:Int).toNat-(0:Int).toNat)=s.take 4:=by simp
  have hl:(s.take 4).length=4:=by rw[List.length_take];omega
  have hn:=ymb (s.take 4)
  rw[hl] at hn
  rw[e0]
  refine ⟨⟨by omega,by omega,by omega⟩,_,yv0 (by omega),?_⟩
  generalize nmb (s.take 4)=n at*
  have w1:IntKind.u64.wrap (IntKind.i64.wrap ((s.length:Int)-4))=(s.length:Int)-4:=by rw[wrap64 (by omega) (by omega),yia (by omega) (by omega)]
  have w2:IntKind.i64.wrap (4+IntKind.i64.wrap (n:Int))=((4+n:Nat):Int):=by rw[wrap64 (n:=(n:Int)) (by omega) (by omega),wrap64 (by omega) (by omega)];omega
  rw[w1,w2]
  refine ⟨fun d=> ?_,fun d=> ?_⟩
  ·have d:(s.length:Int)-4<n:=of_decide_eq_true d
   rw[if_pos (by omega)];exact ⟨rfl,rfl,rfl⟩
  ·have d:¬(s.length:Int)-4<n:=of_decide_eq_false d
   rw[if_neg (by omega)]
   refine ⟨⟨by omega,by omega,by omega⟩,⟨by omega,by omega,by omega⟩,?_,?_,rfl⟩
   ·rw[Int.toNat_natCast]
    have:4+n-(4:Int).toNat=n:=by omega
    rw[this];rfl
   ·rw[Int.toNat_natCast,Int.toNat_natCast,List.take_of_length_le (by rw[List.length_drop];omega)]
def spl:Nat→Str→Option (List Str)
 |0,s=>if s= [] then some [] else none
 |n+1,s=>if s= [] then some [] else if s.length<4 then none else if s.length-4<nmb (s.take 4) then none else
    (spl n (s.drop (4+nmb (s.take 4)))).map ((s.drop 4).take (nmb (s.take 4)):: ·)
def ygH (s:Str):Option (List Str):=spl s.length s
theorem yu3 {s:Str} (h:s.length≤100000000):yce s ((ygH s).getD []) (if (ygH s).isSome then 0 else 2):=by
 unfold yce
 intro X hX
 have key:∀n,∀(x:Str) (y:List Str),x.length≤n→x.length≤100000000→y.length+x.length≤100000000→
   ((spl n x).map (y++ ·)=ygH s)->X x y:=by
  intro n
  induction n with
  | zero=>
    intro x y hx _ _ he
    have:x= []:=List.eq_nil_of_length_eq_zero (by omega)
    subst this
    apply hX
    refine ⟨fun c=>(by simp at c),fun _=> ?_⟩
    rw[<-he];simp[spl]
  | succ n ih=>
    intro x y hx hb hyx he
    apply hX
    simp only[spl] at he
    refine ⟨fun c=> ?_,fun c=> ?_⟩
    ·have c:¬x= []:=by simpa using c
     rw[if_neg c] at he
     refine ⟨_,_,_,yCV (by omega),?_⟩
     unfold yqv
     by_cases h4:x.length<4
     ·rw[if_pos h4] at he⊢
      refine ⟨fun _=> ?_,fun q=>(by cases q)⟩
      rw[<-he];exact ⟨rfl,rfl⟩
     ·rw[if_neg h4] at he⊢
      by_cases hn:x.length-4<nmb (x.take 4)
      ·rw[if_pos hn] at he⊢
       refine ⟨fun _=> ?_,fun q=>(by cases q)⟩
       rw[<-he];exact ⟨rfl,rfl⟩
      ·rw[if_neg hn] at he⊢
       refine ⟨fun q=>(by cases q),fun _=>⟨by omega,?_⟩⟩
       have hd:(x.drop (4+nmb (x.take 4))).length=x.length-(4+nmb (x.take 4)):=List.length_drop
       refine ih _ _ (by show (x.drop _).length<=n;rw[hd];omega) (by show (x.drop _).length<=_;rw[hd];omega) (by show _+(x.drop _).length<=_;rw[hd];simp;omega) ?_
       rw[<-he]
       show ((spl n (x.drop _)).map _)=_
       cases spl n (x.drop (4+nmb (x.take 4))) with
       |none=>rfl
       |some l=>simp
    ·have c:x= []:=by simpa using c
     rw[if_pos c] at he
     rw[<-he];simp
 refine key s.length s [] (Nat.le_refl _) (by omega) (by simp;omega) ?_
 show (ygH s).map _=_
 cases ygH s<;>simp
end Go.Proofs.Ytecfpoklnfaihaa
end
noncomputable section
namespace Go.Proofs.Ytecfpoklnfaihaa
open Go.AV Go.RowKit
def ybR (l:List Str):Str:=l.flatMap fun s=>be 4 s.length++s
theorem yjq (a b:List Str):ybR (a++b)=ybR a++ybR b:=by simp[ybR]
theorem yfO {l:List Str} {m:Nat} (h:∀s∈l,s.length≤m):(ybR l).length≤l.length*(m+4):=by
 induction l with
 |nil=>simp[ybR]
 | cons s l ih=>
   have e:ybR (s::l)=(be 4 s.length++s)++ybR l:=rfl
   have h1:=h s (List.mem_cons_self ..)
   have h2:=ih fun t ht=>h t (List.mem_cons_of_mem _ ht)
   rw[e,List.length_append,List.length_append,ydP,List.length_cons,Nat.succ_mul];omega
theorem ykJ (l:List Str) (i:Nat):(ybR (l.take i)).length≤(ybR l).length:=by
 have:ybR l=ybR (l.take i)++ybR (l.drop i):=by rw[<-yjq,List.take_append_drop]
 rw[this,List.length_append];omega
theorem ytr {l:List Str} {i:Nat} (h:i<l.length):l[i].length+4≤(ybR l).length:=by
 have h1:=ykJ l (i+1)
 rw[List.take_succ_eq_append_getElem h,yjq,List.length_append] at h1
 have e:ybR [l[i]]=be 4 l[i].length++l[i]:=by simp[ybR]
 rw[e,List.length_append,ydP] at h1
 omega
theorem yrd (l:List Str):4*l.length≤(ybR l).length:=by
 induction l with
 |nil=>simp
 | cons s l ih=>
   have e:ybR (s::l)=(be 4 s.length++s)++ybR l:=rfl
   rw[e,List.length_append,List.length_append,ydP,List.length_cons];omega
theorem yzh {l:List Str} (hb:(ybR l).length≤100000000):ycp l (ybR l):=by
 unfold ycp
 intro _
 have hn:=yrd l
 refine lp2 (fun (x:Int) (y:List Int)=>∃i:Nat,x=i/\i<=l.length/\y=(ybR (l.take i)).map ofB) (fun (x:Int) (_:List Int)=>l.length-x.toNat) ?_ ⟨0,rfl,by omega,by simp[ybR]⟩
 rintro X x y ⟨i,rfl,hi,rfl⟩ hX
 have hb2:=ykJ l i
 simp only[ykW]
 refine ⟨fun c=> ?_,fun c=> ?_⟩
 ·have c:(i:Int)<l.length:=by simpa using c
  have hlt:i<l.length:=by omega
  have hs:=ytr hlt
  have w4:IntKind.i64.wrap ((i:Int)+1)=((i+1:Nat):Int):=by rw[wrap64 (by omega) (by omega)];omega
  have w5:IntKind.u64.wrap ((l[i].length:Nat):Int)=((l[i].length:Nat):Int):=yia (by omega) (by omega)
  refine ⟨by omega,c,l[i],by rw[Int.toNat_natCast];exact List.getElem?_eq_getElem hlt,tl l[i].length 4,?_,?_,?_,?_,?_,?_⟩
  ·rw[w5];exact yCO (k:=4) (by decide)
  ·rw[List.length_map];omega
  ·rw[yyu];omega
  ·rw[List.length_append,List.length_map,yyu];omega
  ·omega
  ·rw[w4]
   refine hX _ _ ⟨i+1,rfl,by omega,?_⟩ (by omega)
   rw[List.take_succ_eq_append_getElem hlt,yjq,List.map_append,yx4,List.append_assoc]
   simp[ybR]
 ·have c:¬(i:Int)<l.length:=by simpa using c
  rw[List.take_of_length_le (by omega),yrP]
theorem yBi {l:List Str} (hl:l.length≤1000) (h:∀s∈l,s.length≤10000):ycp l (ybR l):=by
 have:=yfO h
 have h2:l.length*(10000+4)<=1000*(10000+4):=Nat.mul_le_mul_right _ hl
 exact yzh (by omega)
theorem yxw:∀ {n:Nat} {s:Str} {m:Nat},s.length≤n→n≤m→spl m s=spl n s:=by
 intro n
 induction n with
 | zero=>
   intro s m hs _
   have:s= []:=List.eq_nil_of_length_eq_zero (by omega)
   subst this
   cases m<;>simp[spl]
 | succ n ih=>
   intro s m hs hm
   cases m with
   |zero=>omega
   | succ m=>
     simp only[spl]
     split
     ·rfl
     ·split
      ·rfl
      ·split
       ·rfl
       ·rename_i h1 h2 h3
        rw[ih (s:=s.drop (4+nmb (s.take 4))) (m:=m) (by rw[List.length_drop];omega) (by omega)]
theorem yr1 {t u:Str} (h:t.length<4294967296):ygH ((be 4 t.length++t)++u)=(ygH u).map (t:: ·):=by
 have hb:(be 4 t.length).length=4:=ydP _ _
 have e1:((be 4 t.length++t)++u).take 4=be 4 t.length:=by rw[List.append_assoc,List.take_append_of_le_length (by omega),List.take_of_length_le (by omega)]
 have e2:nmb (be 4 t.length)=t.length:=by rw[ynS];exact Nat.mod_eq_of_lt h
 have e3:((be 4 t.length++t)++u).drop 4=t++u:=by rw[List.append_assoc,List.drop_append_of_le_length (by omega),List.drop_of_length_le (by omega)];rfl
 have e4:((be 4 t.length++t)++u).drop (4+t.length)=u:=by rw[<-List.drop_drop,e3];simp
 have hl:((be 4 t.length++t)++u).length=(t.length+u.length+3)+1:=by rw[List.length_append,List.length_append,hb];omega
 have hne:¬(be 4 t.length++t)++u= []:=fun q=>by rw[q] at hl;simp at hl
 have es:ygH ((be 4 t.length++t)++u)=spl ((t.length+u.length+3)+1) ((be 4 t.length++t)++u):=by rw[<-hl];rfl
 rw[es,spl.eq_2,if_neg hne,if_neg (by rw[hl];omega),e1,e2,if_neg (by rw[hl];omega),e4,e3,yxw (n:=u.length) (Nat.le_refl _) (by omega)]
 simp[ygH]
theorem yjf {l:List Str} (h:∀s∈l,s.length<4294967296):ygH (ybR l)=some l:=by
 induction l with
 |nil=>rfl
 | cons s l ih=>
   have e:ybR (s::l)=(be 4 s.length++s)++ybR l:=rfl
   rw[e,yr1 (h s (List.mem_cons_self ..)),ih fun t ht=>h t (List.mem_cons_of_mem _ ht)];rfl
theorem ytV:∀ {n:Nat} {s:Str} {l:List Str},spl n s=some l→ybR l=s∧∀t∈l,t.length≤s.length:=by
 intro n
 induction n with
 | zero=>
   intro s l h
   simp only[spl] at h
   split at h
   ·rename_i e;cases h;subst e;exact ⟨rfl,fun t ht=>by cases ht⟩
   ·cases h
 | succ n ih=>
   intro s l h
   simp only[spl] at h
   split at h
   ·rename_i e;cases h;subst e;exact ⟨rfl,fun t ht=>by cases ht⟩
   ·split at h
    ·cases h
    ·split at h
     ·cases h
     ·rename_i h1 h2 h3
      rw[Option.map_eq_some_iff] at h
      obtain ⟨l',hl',rfl⟩:=h
      obtain ⟨i1,i2⟩:=ih hl'
      have hk:(s.take 4).length=4:=by rw[List.length_take];omega
      have ht:((s.drop 4).take (nmb (s.take 4))).length=nmb (s.take 4):=by rw[List.length_take,List.length_drop];omega
      refine ⟨?_,?_⟩
      ·show (be 4 ((s.drop 4).take (nmb (s.take 4))).length++(s.drop 4).take (nmb (s.take 4)))++ybR l'=s
       rw[ht,i1]
       have:=yCn (s.take 4)
       rw[hk] at this
       rw[this,<-List.drop_drop,List.append_assoc,List.take_append_drop,List.take_append_drop]
      ·intro t ht'
       rcases List.mem_cons.1 ht' with rfl|hm
       ·rw[ht];omega
       ·have:=i2 t hm
        rw[List.length_drop] at this;omega
theorem yua {s:Str} {l:List Str} (h:ygH s=some l):l.length≤s.length:=by
 have h1:=(ytV h).1
 rw[<-h1]
 clear h h1
 induction l with
 |nil=>simp
 | cons t l ih=>
   have e:ybR (t::l)=(be 4 t.length++t)++ybR l:=rfl
   rw[e,List.length_append,List.length_append,ydP,List.length_cons];omega
end Go.Proofs.Ytecfpoklnfaihaa
end
noncomputable section
namespace Go.Proofs.Ytecfpoklnfaihaa
open Go.AV Go.RowKit
def b1 (n:Int):Str:= [UInt8.ofNat n.toNat]
theorem ysA {n:Int} (h:0≤n) (k:n<256):([IntKind.u8.wrap n]:List Int).map toB=b1 n:=by
 rw[yyR h k];rfl
def ygA (v:V):Str:=if v.Kind=1 then b1 1++b1 v.N else if v.Kind=2 then b1 2++sInt v.N else if v.Kind=3 then b1 3++v.S else b1 v.Kind
theorem yq5 {v:V} (h:good v):0≤v.Kind∧v.Kind≤3:=by
 unfold good at h;rcases h with h|h|h|h<;>omega
theorem pTxt {v:V} (h:good v):ygG v (ygA v):=by
 have hk:=yq5 h
 have hN:=yun h
 have hS:=yr9 h
 rw[ygG]
 refine ⟨fun c=> ?_,fun c=>⟨fun c2=> ?_,fun c2=>⟨fun c3=> ?_,fun c3=> ?_⟩⟩⟩
 ·have c:v.Kind=1:=by simpa using c
  have hn:v.N=0∨v.N=1:=by unfold good at h;rcases h with h|h|h|h<;>omega
  refine ⟨by simp,?_⟩
  rw[ysA (by omega) (by omega),ysA (by omega) (by omega),ygA,if_pos c,c]
 ·have c:¬v.Kind=1:=by simpa using c
  have c2:v.Kind=2:=by simpa using c2
  refine ⟨_,pInt hN,by rw[ygn];simp,?_⟩
  rw[ysA (by omega) (by omega),ygA,if_neg c,if_pos c2,c2]
 ·have c:¬v.Kind=1:=by simpa using c
  have c2:¬v.Kind=2:=by simpa using c2
  have c3:v.Kind=3:=by simpa using c3
  refine ⟨by simp;omega,?_⟩
  rw[ysA (by omega) (by omega),ygA,if_neg c,if_neg c2,if_pos c3,c3]
 ·have c:¬v.Kind=1:=by simpa using c
  have c2:¬v.Kind=2:=by simpa using c2
  have c3:¬v.Kind=3:=by simpa using c3
  rw[ysA (by omega) (by omega),ygA,if_neg c,if_neg c2,if_neg c3]
theorem ymk {v:V} (h:good v):(ygA v).length≤65:=by
 have hS:=yr9 h
 unfold ygA
 split
 ·simp[b1]
 ·split
  ·rw[List.length_append,ygn];simp[b1]
  ·split
   ·rw[List.length_append];simp[b1];omega
   ·simp[b1]
def sRd1 (c:UInt8) (r:Str):V×Bool:=if c.toNat=0 then (⟨0,0,[]⟩,r== []) else if c.toNat=1 then (if r.length=1 then (⟨1,bAt r 0,[]⟩,yui ⟨1,bAt r 0,[]⟩) else (⟨1,0,[]⟩,false)) else
   if c.toNat=2 then (if r.length=8 then (⟨2,(nmb r:Int)-9223372036854775808,[]⟩,true) else (⟨2,0,[]⟩,false)) else (⟨c.toNat,0,r⟩,yui ⟨c.toNat,0,r⟩)
def yiW:Str→V×Bool
 | []=>(D0,false)
 |c::r=>sRd1 c r
theorem ysE (c:UInt8) (r:Str):yiW (c::r)=sRd1 c r:=rfl
theorem yD6 {s:Str} (h:s.length≤1000000000):yfo s (yiW s).1 (yiW s).2:=by
 apply yug
 cases s with
 |nil=>exact ⟨fun _=>⟨rfl,rfl⟩,fun q=>(by simp at q)⟩
 | cons c r=>
   refine ⟨fun q=>(by simp at q),fun _=>⟨⟨by omega,by rw[List.length_cons];omega,by omega⟩,⟨by omega,by rw[List.length_cons];omega⟩,?_⟩⟩
   have e0:bAt (c::r) 0=(c.toNat:Int):=rfl
   have hc:c.toNat<256:=c.toNat_lt
   have w:IntKind.i64.wrap (c.toNat:Int)=(c.toNat:Int):=wrap64 (by omega) (by omega)
   have er:(((c::r).drop (1:Int).toNat).take (((c::r).length:Int).toNat-(1:Int).toNat))=r:=by
    rw[Int.toNat_natCast]
    show r.take ((c::r).length-1)=r
    exact List.take_of_length_le (by simp)
   rw[er]
   simp only[ycT,e0,w]
   rw[ysE]
   unfold sRd1
   refine ⟨fun k=> ?_,fun k=>⟨fun k1=>⟨fun l=> ?_,fun l=>⟨?_,?_⟩⟩,fun k1=>⟨fun k2=>⟨_,_,yxd r,fun l=> ?_,fun l=> ?_⟩,fun k2=> ?_⟩⟩⟩
   ·have k:c.toNat=0:=by simpa using k
    rw[if_pos k,k];exact ⟨rfl,rfl⟩
   ·have k:¬c.toNat=0:=by simpa using k
    have k1 : c.toNat = 1 := by have:(c.toNat:Int)=1:=by simpa using k1
                                omega
    have l : ¬ r.length = 1 := by have:¬(r.length:Int)=1:=by simpa using l
                                  omega
    rw[if_neg k,if_pos k1,if_neg l,k1];exact ⟨rfl,rfl⟩
   ·have l : r.length = 1 := by have:(r.length:Int)=1:=by simpa using l
                                omega
    omega
   ·have k:¬c.toNat=0:=by simpa using k
    have k1 : c.toNat = 1 := by have:(c.toNat:Int)=1:=by simpa using k1
                                omega
    have l : r.length = 1 := by have:(r.length:Int)=1:=by simpa using l
                                omega
    have hb:IntKind.i64.wrap (bAt r 0)=bAt r 0:=by
     have:=yme (s:=r) (i:=0) (by omega)
     have h2:r[0].toNat<256:=r[0].toNat_lt
     show IntKind.i64.wrap (bAt r ((0:Nat):Int))=bAt r ((0:Nat):Int)
     rw[this];exact wrap64 (by omega) (by omega)
    rw[if_neg k,if_pos k1,if_pos l,k1,hb]
    exact ⟨_,yuX _,rfl,rfl⟩
   ·have k:¬c.toNat=0:=by simpa using k
    have k1 : ¬ c.toNat = 1 := by have:¬(c.toNat:Int)=1:=by simpa using k1
                                  omega
    have k2 : c.toNat = 2 := by have:(c.toNat:Int)=2:=by simpa using k2
                                omega
    have l:¬r.length=8:=by simpa using l
    rw[if_neg k,if_neg k1,if_pos k2,if_neg l,k2];exact ⟨rfl,rfl⟩
   ·have k:¬c.toNat=0:=by simpa using k
    have k1 : ¬ c.toNat = 1 := by have:¬(c.toNat:Int)=1:=by simpa using k1
                                  omega
    have k2 : c.toNat = 2 := by have:(c.toNat:Int)=2:=by simpa using k2
                                omega
    have l:r.length=8:=by simpa using l
    rw[if_neg k,if_neg k1,if_pos k2,if_pos l,if_pos l,k2]
    refine ⟨_,yuX _,rfl,?_⟩
    simp[yui]
   ·have k:¬c.toNat=0:=by simpa using k
    have k1 : ¬ c.toNat = 1 := by have:¬(c.toNat:Int)=1:=by simpa using k1
                                  omega
    have k2 : ¬ c.toNat = 2 := by have:¬(c.toNat:Int)=2:=by simpa using k2
                                  omega
    rw[if_neg k,if_neg k1,if_neg k2]
    exact ⟨_,yuX _,rfl,rfl⟩
theorem yqO {v:V} (h:good v):yiW (ygA v)=(v,true):=by
 have hN:=yun h
 unfold good at h
 obtain ⟨k,n,s⟩:=v
 simp only at h hN
 rcases h with ⟨rfl,rfl,rfl⟩|⟨rfl,h,rfl⟩|⟨rfl,h,rfl⟩|⟨rfl,rfl,h⟩
 ·rfl
 ·rcases h with rfl|rfl<;>rfl
 ·show yiW (UInt8.ofNat 2::sInt n)=_
  rw[ysE]
  unfold sRd1
  have k:(UInt8.ofNat 2).toNat=2:=rfl
  rw[k,if_neg (by omega),if_neg (by omega),if_pos rfl,if_pos (ygn n)]
  unfold sInt
  unfold Rg at h
  rw[ynS,Nat.mod_eq_of_lt (by omega)]
  congr 2;omega
 ·show yiW (UInt8.ofNat 3::s)=_
  rw[ysE]
  unfold sRd1
  have k:(UInt8.ofNat 3).toNat=3:=rfl
  rw[k,if_neg (by omega),if_neg (by omega),if_neg (by omega)]
  simp[yui];omega
end Go.Proofs.Ytecfpoklnfaihaa
end
noncomputable section
namespace Go.Proofs.Ytecfpoklnfaihaa
open Go.AV Go.RowKit
def sKey (l:List V):Str:=ybR (l.map ygA)
theorem w1 {i:Nat} (h:i<1000000000):IntKind.i64.wrap ((i:Int)+1)=((i+1:Nat):Int):=by rw[wrap64 (by omega) (by omega)];omega
theorem gAt {α:Type} {l:List α} {i:Nat} (h:i<l.length):l[((i:Nat):Int).toNat]? =some l[i]:=by rw[Int.toNat_natCast];exact List.getElem?_eq_getElem h
theorem yjC {l:List V} (h:∀v∈l,good v):∀s∈l.map ygA,s.length≤65:=by
 intro s hs
 obtain ⟨v,hv,rfl⟩:=List.mem_map.1 hs
 exact ymk (h v hv)
theorem yDC {l:List V} (hl:l.length≤1000000) (h:∀v∈l,good v):ycu l (sKey l):=by
 unfold ycu
 intro _
 refine lp2 (fun (x:Int) (y:List Str)=>∃i:Nat,x=i/\i<=l.length/\y=(l.take i).map ygA) (fun (x:Int) (_:List Str)=>l.length-x.toNat) ?_ ⟨0,rfl,by omega,by simp⟩
 rintro X x y ⟨i,rfl,hi,rfl⟩ hX
 simp only[ynR]
 refine ⟨fun c=> ?_,fun c=> ?_⟩
 ·have c:(i:Int)<l.length:=by simpa using c
  have hlt:i<l.length:=by omega
  refine ⟨by omega,c,_,gAt hlt,_,pTxt (h _ (List.getElem_mem hlt)),by simp;omega,?_⟩
  rw[w1 (by omega)]
  refine hX _ _ ⟨i+1,rfl,by omega,?_⟩ (by omega)
  rw[List.take_succ_eq_append_getElem hlt,List.map_append];rfl
 ·have c:¬(i:Int)<l.length:=by simpa using c
  rw[List.take_of_length_le (by omega)]
  exact ⟨_,yzh (by have:=yfO (yjC h);rw[List.length_map] at this;have h2:l.length*(65+4)<=1000000*(65+4):=Nat.mul_le_mul_right _ hl;omega),rfl⟩
theorem pKey {l:List V} (hl:l.length<=1000) (h:∀v∈l,good v):ycu l (sKey l):=yDC (by omega) h
def sGet (s:Str):List V×Int:=match ygH s with
 |none=>([],2)
 |some l=>if l.all (fun t=>(yiW t).2) then (l.map (fun t=>(yiW t).1),0) else ([],4)
theorem pGet {s:Str} (h:s.length≤100000000):yeX s (sGet s).1 (sGet s).2:=by
 unfold yeX
 refine ⟨_,_,yu3 (by omega),?_⟩
 unfold sGet
 cases hs:ygH s with
 |none=>exact ⟨fun _=>⟨rfl,rfl⟩,fun q=>(by simp at q)⟩
 | some l=>
   refine ⟨fun q=>(by simp at q),fun _ _=> ?_⟩
   have hlen:=yua hs
   have hb:=(ytV hs).2
   show∀X1:Int->List V->Prop,(∀x3 x4,ykD l _ _ X1 x3 x4->X1 x3 x4)->X1 0 []
   refine lp2 (fun (x:Int) (y:List V)=>∃i:Nat,x=i/\i<=l.length/\y=(l.take i).map (fun t=>(yiW t).1)/\((l.take i).all (fun t=>(yiW t).2))=true) (fun (x:Int) (_:List V)=>l.length-x.toNat) ?_ ⟨0,rfl,by omega,by simp,by simp⟩
   rintro X x y ⟨i,rfl,hi,rfl,ha⟩ hX
   simp only[ykD]
   refine ⟨fun c=> ?_,fun c=> ?_⟩
   ·have c:(i:Int)<l.length:=by simpa using c
    have hlt:i<l.length:=by omega
    refine ⟨by omega,c,_,gAt hlt,_,_,yD6 (by have:=hb l[i] (List.getElem_mem hlt);omega),fun d=> ?_,fun d=>⟨by simp;omega,?_⟩⟩
    ·have d:(yiW l[i]).2=false:=by simpa using d
     have:¬(l.all (fun t=>(yiW t).2))=true:=fun q=>by
      have:=List.all_eq_true.1 q l[i] (List.getElem_mem hlt)
      rw[d] at this;cases this
     rw[if_neg this];exact ⟨rfl,rfl⟩
    ·have d:(yiW l[i]).2=true:=by simpa using d
     rw[w1 (by omega)]
     refine hX _ _ ⟨i+1,rfl,by omega,?_,?_⟩ (by omega)
     ·rw[List.take_succ_eq_append_getElem hlt,List.map_append];rfl
     ·rw[List.take_succ_eq_append_getElem hlt,List.all_append,ha];simp[d]
   ·have c:¬(i:Int)<l.length:=by simpa using c
    rw[List.take_of_length_le (by omega)] at ha⊢
    rw[if_pos ha];exact ⟨rfl,rfl⟩
theorem ywZ {l:List V} (h:∀v∈l,good v):sGet (sKey l)=(l,0):=by
 unfold sGet sKey
 rw[yjf fun s hs=>by have:=yjC h s hs;omega]
 simp only
 have ha:((l.map ygA).all fun t=>(yiW t).2)=true:=by
  rw[List.all_eq_true]
  intro t ht
  obtain ⟨v,hv,rfl⟩:=List.mem_map.1 ht
  rw[yqO (h v hv)]
 rw[if_pos ha,List.map_map]
 congr 1
 conv=>rhs;rw[<-List.map_id l]
 refine List.map_congr_left fun v hv=> ?_
 show (yiW (ygA v)).1=v
 rw[yqO (h v hv)]
theorem yzS {l:List V} (hl:l.length≤1000) (h:∀v∈l,good v):(sKey l).length≤1000000:=by
 have:=yfO (l:=l.map ygA) (m:=65) (yjC h)
 rw[List.length_map] at this
 unfold sKey
 have:l.length*(65+4)<=1000*(65+4):=Nat.mul_le_mul_right _ hl
 omega
end Go.Proofs.Ytecfpoklnfaihaa
end
