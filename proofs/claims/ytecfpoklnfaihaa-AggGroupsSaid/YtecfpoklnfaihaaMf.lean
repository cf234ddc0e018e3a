/- General texts and own ones, joined: what the program computes, told of abstract states, and the laws of plain data. No condition. -/
import Derived.Test.YtecfpoklnfaihaaMe
import Derived.KernelRfl
import Derived.Test.YtecfpoklnfaihaaMc
noncomputable section
namespace Go.Proofs.Ytecfpoklnfaihaa
open Go.AV Go.RowKit
set_option maxRecDepth 100000
structure yax where
 Kind:Int
 N:Int
 S:Str
structure yau where
 Group:Int
 A:yax
 B:yax
structure yad where
 Kind:Int
 N:Int
 S:Str
structure yai where
 Hi:Int
 Lo:Int
structure yag where
 N:Int
 Sum:yai
 Min:yad
 Max:yad
structure yae where
 Rows:Int
 L:(List yag)
structure yaa where
 Row:(List yad)
 Part:yae
structure yab where
 Kind:Int
 N:Int
 S:Str
structure yac where
 Group:(List yab)
 Values:(List yab)
abbrev B1:Type:=Bool
abbrev B2:Type:=B1×B1
abbrev B4:Type:=B2×B2
abbrev B8:Type:=B4×B4
abbrev B16:Type:=B8×B8
abbrev B32:Type:=B16×B16
abbrev B64:Type:=B32×B32
abbrev B128:Type:=B64×B64
inductive TC where
 |c0
 |c2
 |c3
 |c4
 |c5
 |c9
 |c22
 |c23
 |c25
 |c26
 |c27
 |c28
 |c29
 |c30
 |c32
 |c34
 |c35
 |c36
 |c38
 |c42
 |c44
 |c46
 |c52
 |c61
 |c65
 |c67
 |c69
 |c70
 |c76
 |c102
 |c125
 |c129
def KF:TC→Type
 | .c0=>Unit
 | .c2=>Int
 | .c3=>Int
 | .c4=>Bool
 | .c5=>Int
 | .c9=>Str
 | .c22=>(List yau)
 | .c23=>(List Int)
 | .c25=>(List (List yaa))
 | .c26=>(List yaa)
 | .c27=>(List yac)
 | .c28=>(List yad)
 | .c29=>(List yad)
 | .c30=>(List yag)
 | .c32=>yae
 | .c34=>yaa
 | .c35=>(List yab)
 | .c36=>(List yab)
 | .c38=>yac
 | .c42=>yax
 | .c44=>yau
 | .c46=>(List (List yac))
 | .c52=>Int
 | .c61=>yad
 | .c65=>Int
 | .c67=>yai
 | .c69=>yag
 | .c70=>yab
 | .c76=>(List Str)
 | .c102=>B128
 | .c125=>(List Int)
 | .c129=>(List yai)
def yD2:List (Nat×TC):= [(2, .c2),(3, .c3),(4, .c4),(5, .c5),(9, .c9),(22, .c22),(23, .c23),(25, .c25),(26, .c26),(27, .c27),(28, .c28),(29, .c29),(30, .c30),(32, .c32),(34, .c34),(35, .c35),(36, .c36),(38, .c38),(42, .c42),(44, .c44),(46, .c46),(52, .c52),(61, .c61),(65, .c65),(67, .c67),(69, .c69),(70, .c70),(76, .c76),(102, .c102),(125, .c125),(129, .c129)]
def code (t:Nat):TC:=lkC .c0 yD2 t
abbrev KK (t:Nat):Type:=KF (code t)
def yjZ:Enc yax:=yjO ((ycB (tbI .u8) (ycB (tbI .i64) tbS)):Tb KK _).E (fun x:yax=>(x.Kind,x.N,x.S))
def b42:Tb KK yax:=yl4 (ycB (tbI .u8) (ycB (tbI .i64) tbS)) (fun x:yax=>(x.Kind,x.N,x.S)) (fun y=>(⟨y.1,y.2.1,y.2.2⟩:yax)) yjZ
def yco:Enc yau:=yjO ((ycB (tbI .u8) (ycB b42 b42)):Tb KK _).E (fun x:yau=>(x.Group,x.A,x.B))
def b44:Tb KK yau:=yl4 (ycB (tbI .u8) (ycB b42 b42)) (fun x:yau=>(x.Group,x.A,x.B)) (fun y=>(⟨y.1,y.2.1,y.2.2⟩:yau)) yco
def yce:Enc yad:=yjO ((ycB (tbI .i64) (ycB (tbI .i64) tbS)):Tb KK _).E (fun x:yad=>(x.Kind,x.N,x.S))
def b61:Tb KK yad:=yl4 (ycB (tbI .i64) (ycB (tbI .i64) tbS)) (fun x:yad=>(x.Kind,x.N,x.S)) (fun y=>(⟨y.1,y.2.1,y.2.2⟩:yad)) yce
def yfv:Enc yai:=yjO ((ycB (tbI .i64) (tbI .u64)):Tb KK _).E (fun x:yai=>(x.Hi,x.Lo))
def b67:Tb KK yai:=yl4 (ycB (tbI .i64) (tbI .u64)) (fun x:yai=>(x.Hi,x.Lo)) (fun y=>(⟨y.1,y.2⟩:yai)) yfv
def yfK:Enc yag:=yjO ((ycB (tbI .i64) (ycB b67 (ycB b61 b61))):Tb KK _).E (fun x:yag=>(x.N,x.Sum,x.Min,x.Max))
def b69:Tb KK yag:=yl4 (ycB (tbI .i64) (ycB b67 (ycB b61 b61))) (fun x:yag=>(x.N,x.Sum,x.Min,x.Max)) (fun y=>(⟨y.1,y.2.1,y.2.2.1,y.2.2.2⟩:yag)) yfK
def yt8:Enc yae:=yjO ((ycB (tbI .i64) (tbL 69 yfK:Tb KK (List yag))):Tb KK _).E (fun x:yae=>(x.Rows,x.L))
def b32:Tb KK yae:=yl4 (ycB (tbI .i64) (tbL 69 yfK:Tb KK (List yag))) (fun x:yae=>(x.Rows,x.L)) (fun y=>(⟨y.1,y.2⟩:yae)) yt8
def yeB:Enc yaa:=yjO ((ycB (tbL 61 yce:Tb KK (List yad)) b32):Tb KK _).E (fun x:yaa=>(x.Row,x.Part))
def b34:Tb KK yaa:=yl4 (ycB (tbL 61 yce:Tb KK (List yad)) b32) (fun x:yaa=>(x.Row,x.Part)) (fun y=>(⟨y.1,y.2⟩:yaa)) yeB
def ybE:Enc yab:=yjO ((ycB (tbI .i64) (ycB (tbI .i64) tbS)):Tb KK _).E (fun x:yab=>(x.Kind,x.N,x.S))
def b70:Tb KK yab:=yl4 (ycB (tbI .i64) (ycB (tbI .i64) tbS)) (fun x:yab=>(x.Kind,x.N,x.S)) (fun y=>(⟨y.1,y.2.1,y.2.2⟩:yab)) ybE
def yeI:Enc yac:=yjO ((ycB (tbL 70 ybE:Tb KK (List yab)) (tbL 70 ybE:Tb KK (List yab))):Tb KK _).E (fun x:yac=>(x.Group,x.Values))
def b38:Tb KK yac:=yl4 (ycB (tbL 70 ybE:Tb KK (List yab)) (tbL 70 ybE:Tb KK (List yab))) (fun x:yac=>(x.Group,x.Values)) (fun y=>(⟨y.1,y.2⟩:yac)) yeI
section
variable {K:Nat->Type}
def bb1:Tb K B1:=tbB
def bb2:Tb K B2:=ycB bb1 bb1
def bb4:Tb K B4:=ycB bb2 bb2
def bb8:Tb K B8:=ycB bb4 bb4
def bb16:Tb K B16:=ycB bb8 bb8
def bb32:Tb K B32:=ycB bb16 bb16
def bb64:Tb K B64:=ycB bb32 bb32
def yhS:Tb K B128:=ycB bb64 bb64
end
def bz1:B1:=false
def bz2:B2:=(bz1,bz1)
def bz4:B4:=(bz2,bz2)
def bz8:B8:=(bz4,bz4)
def bz16:B16:=(bz8,bz8)
def bz32:B32:=(bz16,bz16)
def bz64:B64:=(bz32,bz32)
def ywh:B128:=(bz64,bz64)
def TF:(c:TC)→Tb KK (KF c)
 | .c0=>tbU
 | .c2=>(tbI .i64)
 | .c3=>(tbI .i64)
 | .c4=>tbB
 | .c5=>(tbI .u8)
 | .c9=>tbS
 | .c22=>(tbL 44 yco:Tb KK (List yau))
 | .c23=>(tbL 5 (eI .u8):Tb KK (List Int))
 | .c25=>(tbL 26 (eSl yeB):Tb KK (List (List yaa)))
 | .c26=>(tbL 34 yeB:Tb KK (List yaa))
 | .c27=>(tbL 38 yeI:Tb KK (List yac))
 | .c28=>(tbL 61 yce:Tb KK (List yad))
 | .c29=>(tbL 61 yce:Tb KK (List yad))
 | .c30=>(tbL 69 yfK:Tb KK (List yag))
 | .c32=>b32
 | .c34=>b34
 | .c35=>(tbL 70 ybE:Tb KK (List yab))
 | .c36=>(tbL 70 ybE:Tb KK (List yab))
 | .c38=>b38
 | .c42=>b42
 | .c44=>b44
 | .c46=>(tbL 27 (eSl yeI):Tb KK (List (List yac)))
 | .c52=>(tbI .i64)
 | .c61=>b61
 | .c65=>(tbI .u64)
 | .c67=>b67
 | .c69=>b69
 | .c70=>b70
 | .c76=>(tbL 9 eS:Tb KK (List Str))
 | .c102=>(yhS:Tb KK B128)
 | .c125=>(tbL 3 (eI .i64):Tb KK (List Int))
 | .c129=>(tbL 67 yfv:Tb KK (List yai))
def CC:Cx KK:= @cxOf TC KF code TF
theorem yvq:TbOk Try.prog CC b42:=yfn (ybz (yfj _) (ybz (yfj _) ytH)) (fun y=>rfl) (fun x=>rfl)
theorem yvf:TbOk Try.prog CC b44:=yfn (ybz (yfj _) (ybz yvq yvq)) (fun y=>rfl) (fun x=>rfl)
theorem yrd:∀x,dwks (yco.c x)=yco.c x:=yvf.dw
theorem yqm:∀x m,hlts m (yco.c x)=true:=yvf.hl
theorem yqZ:TbOk Try.prog CC b61:=yfn (ybz (yfj _) (ybz (yfj _) ytH)) (fun y=>rfl) (fun x=>rfl)
theorem ygv:∀x,dwks (yce.c x)=yce.c x:=yqZ.dw
theorem ygr:∀x m,hlts m (yce.c x)=true:=yqZ.hl
theorem ysS:TbOk Try.prog CC b67:=yfn (ybz (yfj _) (yfj _)) (fun y=>rfl) (fun x=>rfl)
theorem yqw:∀x,dwks (yfv.c x)=yfv.c x:=ysS.dw
theorem yqr:∀x m,hlts m (yfv.c x)=true:=ysS.hl
theorem yvK:TbOk Try.prog CC b69:=yfn (ybz (yfj _) (ybz ysS (ybz yqZ yqZ))) (fun y=>rfl) (fun x=>rfl)
theorem ynP:∀x,dwks (yfK.c x)=yfK.c x:=yvK.dw
theorem ynK:∀x m,hlts m (yfK.c x)=true:=yvK.hl
theorem yy0:TbOk Try.prog CC b32:=yfn (ybz (yfj _) (yew _ rfl ynP ynK)) (fun y=>rfl) (fun x=>rfl)
theorem ywz:TbOk Try.prog CC b34:=yfn (ybz (yew _ rfl ygv ygr) yy0) (fun y=>rfl) (fun x=>rfl)
theorem yla:∀x,dwks (yeB.c x)=yeB.c x:=ywz.dw
theorem yk7:∀x m,hlts m (yeB.c x)=true:=ywz.hl
theorem yuW:TbOk Try.prog CC b70:=yfn (ybz (yfj _) (ybz (yfj _) ytH)) (fun y=>rfl) (fun x=>rfl)
theorem yeS:∀x,dwks (ybE.c x)=ybE.c x:=yuW.dw
theorem yeL:∀x m,hlts m (ybE.c x)=true:=yuW.hl
theorem yvU:TbOk Try.prog CC b38:=yfn (ybz (yew _ rfl yeS yeL) (yew _ rfl yeS yeL)) (fun y=>rfl) (fun x=>rfl)
theorem yk1:∀x,dwks (yeI.c x)=yeI.c x:=yvU.dw
theorem yli:∀x m,hlts m (yeI.c x)=true:=yvU.hl
theorem yyZ:TbOk Try.prog CC bb1:=yyx
theorem yzk:TbOk Try.prog CC bb2:=ybz yyZ yyZ
theorem yyv:TbOk Try.prog CC bb4:=ybz yzk yzk
theorem yzl:TbOk Try.prog CC bb8:=ybz yyv yyv
theorem ywA:TbOk Try.prog CC bb16:=ybz yzl yzl
theorem ywB:TbOk Try.prog CC bb32:=ybz ywA ywA
theorem yu7:TbOk Try.prog CC bb64:=ybz ywB ywB
theorem yxM:TbOk Try.prog CC yhS:=ybz yu7 yu7
theorem ybh:CxOk Try.prog CC:= @yzG TC KF code _ TF fun c=>match c with
 | .c0=>yCz
 | .c2=>(yfj _)
 | .c3=>(yfj _)
 | .c4=>yyx
 | .c5=>(yfj _)
 | .c9=>ytH
 | .c22=>(yew _ rfl yrd yqm)
 | .c23=>(yew _ rfl (fun _=>rfl) (fun _ _=>rfl))
 | .c25=>(yew _ rfl (yyH yla) (yxc yk7))
 | .c26=>(yew _ rfl yla yk7)
 | .c27=>(yew _ rfl yk1 yli)
 | .c28=>(yew _ rfl ygv ygr)
 | .c29=>(yew _ rfl ygv ygr)
 | .c30=>(yew _ rfl ynP ynK)
 | .c32=>yy0
 | .c34=>ywz
 | .c35=>(yew _ rfl yeS yeL)
 | .c36=>(yew _ rfl yeS yeL)
 | .c38=>yvU
 | .c42=>yvq
 | .c44=>yvf
 | .c46=>(yew _ rfl (yyH yk1) (yxc yli))
 | .c52=>(yfj _)
 | .c61=>yqZ
 | .c65=>(yfj _)
 | .c67=>ysS
 | .c69=>yvK
 | .c70=>yuW
 | .c76=>(yew _ rfl (fun _=>rfl) (fun _ _=>rfl))
 | .c102=>yxM
 | .c125=>(yew _ rfl (fun _=>rfl) (fun _ _=>rfl))
 | .c129=>(yew _ rfl yqw yqr)
def wB1 (f:Nat->Bool) (i:Nat):B1:=f i
def wB2 (f:Nat->Bool) (i:Nat):B2:=(wB1 f i,wB1 f (i+1))
def wB4 (f:Nat->Bool) (i:Nat):B4:=(wB2 f i,wB2 f (i+2))
def wB8 (f:Nat->Bool) (i:Nat):B8:=(wB4 f i,wB4 f (i+4))
def wB16 (f:Nat->Bool) (i:Nat):B16:=(wB8 f i,wB8 f (i+8))
def wB32 (f:Nat->Bool) (i:Nat):B32:=(wB16 f i,wB16 f (i+16))
def wB64 (f:Nat->Bool) (i:Nat):B64:=(wB32 f i,wB32 f (i+32))
def yDd (f:Nat->Bool) (i:Nat):B128:=(wB64 f i,wB64 f (i+64))
def wN (n:Nat):B128:=yDd (fun j=>n.testBit j) 0
theorem wN_c (n:Nat):(yhS (K:=KK)).E.c (wN n)=(List.range 128).map fun j=>AV.bl (n.testBit j):=by kernel_rfl
theorem yCl (n:Nat):noLs ((yhS (K:=KK)).E.c (wN n))=true:=(yhS (K:=KK)).E.no _
theorem wN_v (G:Gh) (n:Nat):VR G (.agg ((yhS (K:=KK)).E.c (wN n))) (.agg (yfz n)):=by
 rw[wN_c]
 refine .agg _ _ (by rw[ybU];simp) (fun j u x hu hx=> ?_) (fun j x hx=> ?_)
 ·have hj:j<128:=by have:=(List.getElem?_eq_some_iff.1 hu).1;simpa using this
  rw[List.getElem?_map,List.getElem?_range hj] at hu
  simp only[Option.map_some,Option.some.injEq] at hu
  unfold yfz at hx
  rw[RG.rowf_get _ _ _ hj] at hx
  cases hx;subst hu;exact .bl _
 ·have hj:j<128:=by have:=(Array.getElem?_eq_some_iff.1 hx).1;rwa[ybU] at this
  unfold yfz at hx
  rw[RG.rowf_get _ _ _ hj] at hx
  cases hx;rfl
theorem wN_i {G:Gh} {n:Nat} {v:Value} (h:VR G (.agg ((yhS (K:=KK)).E.c (wN n))) v):v= .agg (yfz n):=by
 rw[wN_c] at h
 obtain ⟨vs,rfl,h1,h2,_⟩:=h.agg_inv
 have h1:vs.size=128:=by simpa using h1
 congr 1
 refine Array.ext_getElem? fun j=> ?_
 by_cases hj:j<128
 ·have e:=Array.getElem?_eq_getElem (xs:=vs) (i:=j) (by omega)
  have:=h2 j (.bl (n.testBit j)) vs[j] (by rw[List.getElem?_map,List.getElem?_range hj];rfl) e
  unfold yfz
  rw[e,RG.rowf_get _ _ _ hj,this.bl_inv]
 ·rw[Array.getElem?_eq_none (by omega),Array.getElem?_eq_none (by rw[ybU];omega)]
theorem yD8 {a0 a1:Int} (h0:0≤a1) (h1:a1<18446744073709551616):AV.Pure Try.prog 61 [.it .i64 a0, .it .u64 a1] (.agg ((yhS (K:=KK)).E.c (wN ((a0 % 18446744073709551616).toNat*18446744073709551616+a1.toNat)))):=by
 refine ykT Try.func61 (by kernel_rfl) (yCl _) fun G vs _ _ hV=> ?_
 obtain ⟨x,y,rfl,hx,hy⟩:=vs2 hV
 rw[hx.itv,hy.itv]
 have e1:a1=((a1.toNat:Nat):Int):=by omega
 have hH:IntKind.u64.wrap a0=(((a0 % 18446744073709551616).toNat:Nat):Int):=by rw[IntKind.wrap_u64];omega
 have:=yz8 a0 a1.toNat (a0 % 18446744073709551616).toNat (by omega) hH (by omega) G.w
 rw[<-e1] at this
 exact Calls.mono this fun e w' ⟨h1,h2⟩=>⟨_,h1,fun G'=>wN_v G' _,h2⟩
theorem yzC (m n:Nat):AV.Pure Try.prog 60 [.agg ((yhS (K:=KK)).E.c (wN m)), .agg ((yhS (K:=KK)).E.c (wN n))] (.agg ((yhS (K:=KK)).E.c (wN (m+n)))):=by
 refine ykT Try.func60 (by kernel_rfl) (yCl _) fun G vs _ _ hV=> ?_
 obtain ⟨x,y,rfl,hx,hy⟩:=vs2 hV
 rw[wN_i hx,wN_i hy]
 exact Calls.mono (ywT m n G.w) fun e w' ⟨h1,h2⟩=>⟨_,h1,fun G'=>wN_v G' _,h2⟩
theorem yBD (n:Nat):AV.Pure Try.prog 44 [.agg ((yhS (K:=KK)).E.c (wN n))] (.tup [.it .i64 (if allB n then wrap64 ((n % 18446744073709551616:Nat):Int) else 0), .bl (allB n)]):=by
 refine ykT Try.func44 (by kernel_rfl) rfl fun G vs _ _ hV=> ?_
 obtain ⟨x,rfl,hx⟩:=vs1 hV
 rw[wN_i hx]
 exact Calls.mono (yxO n _ _ rfl rfl G.w) fun e w' ⟨h1,h2⟩=>⟨_,h1,fun G'=> .tup _ _ rfl (fun j u x hu hx=>by
  match j with
  |0=>simp at hu hx;subst hu;subst hx;exact .it _ _
  |1=>simp at hu hx;subst hu;subst hx;exact .bl _
  |j+2=>simp at hu),h2⟩
theorem yBf {x y:Int} (hx:0≤x) (hy:0≤y):AV.Pure Try.prog 69 [.it .u64 x, .it .u64 y, .it .u64 0] (.tup [.it .u64 ((x+y) % 18446744073709551616), .it .u64 ((x+y)/18446744073709551616)]):=by
 refine yyc rfl fun G vs hV=> ?_
 obtain ⟨a,b,c,rfl,ha,hb,hc⟩:=vs3 hV
 rw[ha.itv,hb.itv,hc.itv]
 refine ⟨_,yux x y hx hy G.w,fun G'=> .tup _ _ rfl (fun j u x hu hx=> ?_)⟩
 match j with
 |0=>simp at hu hx;subst hu;subst hx;exact .it _ _
 |1=>simp at hu hx;subst hu;subst hx;exact .it _ _
 |j+2=>simp at hu
def yaO (a0:Int) (r0:yad):Prop:=
 (⟨(2:Int),a0,([]:Str)⟩:yad)=r0
def ydn:Sp KK:=⟨17,[.v 2],[61],appW (K:=KK) [61] [.v 2] yaO⟩
def ynB:An KK:=(.s .o (.s .o .o))
def ynm:Cf KK:=⟨CC,[],[],5,[],none,false⟩
theorem yeW:SpOk Try.prog CC ydn:=yay (F:=ynm) (ps:= [.v 2]) (rs:= [61]) (w:=yaO) ybh yaE yaD t17 (A:=ynB) (by kernel_rfl) (by kernel_rfl) (fun a0 r0=>show _=_ by kernel_rfl)
def yf7 (a0:Int) (r0:yai):Prop:=
 (⟨a0.fdiv (2^(min (63:Int).toNat IntKind.i64.bits)),IntKind.u64.wrap a0⟩:yai)=r0
def ykv:Sp KK:=⟨37,[.v 2],[67],appW (K:=KK) [67] [.v 2] yf7⟩
def yun:An KK:=(.s .o (.s .o .o))
def yud:Cf KK:=⟨CC,[],[],8,[],none,false⟩
theorem ynQ:SpOk Try.prog CC ykv:=yay (F:=yud) (ps:= [.v 2]) (rs:= [67]) (w:=yf7) ybh yaE yaD t37 (A:=yun) (by kernel_rfl) (by kernel_rfl) (fun a0 r0=>show _=_ by kernel_rfl)
def ymD (X1:Int→(List yag)→Prop) (x1 x4 x7 x8:Int) (x9:Str) (x10 x11:Int) (x12:Str) (x14 x15:Int) (x16:List yag):Prop:=
 (x16.length<=1000000000)/\X1 (IntKind.i64.wrap (x1+(1:Int))) (x16++([(⟨x4,(⟨x14,x15⟩:yai),(⟨x7,x8,x9⟩:yad),(⟨x10,x11,x12⟩:yad)⟩:yag)]:List yag))
def ymV (X1:Int→(List yag)→Prop) (x1:Int) (y3:yad) (x4 x5 x6 x7 x8:Int) (x9:Str) (x10 x11:Int) (x12:Str) (x13:List yag):Prop:=
 ∀J3:Int->Int->(List yag)->Prop,(∀x14 x15 x16,ymD X1 x1 x4 x7 x8 x9 x10 x11 x12 x14 x15 x16->J3 x14 x15 x16)->cnd (y3.Kind==(2:Int)) (∃z17,(yf7 y3.N z17)/\J3 z17.Hi z17.Lo x13) (J3 x5 x6 x13)
def ym8 (a0:List yad) (r0:yae) (X1:Int→(List yag)→Prop) (x1:Int) (x2:List yag):Prop:=
 cnd (decide (x1<(a0.length:Int))) ((0<=x1)/\(x1<(a0.length:Int))/\∃y3:yad,(a0[x1.toNat]? =some y3)/\∀J2:Int->Int->Int->Int->Int->Str->Int->Int->Str->(List yag)->Prop,(∀x4 x5 x6 x7 x8 x9 x10 x11 x12 x13,ymV X1 x1 y3 x4 x5 x6 x7 x8 x9 x10 x11 x12 x13->J2 x4 x5 x6 x7 x8 x9 x10 x11 x12 x13)->cnd (!(y3.Kind==(0:Int))) (J2 (1:Int) (0:Int) (0:Int) y3.Kind y3.N y3.S y3.Kind y3.N y3.S x2) (J2 (0:Int) (0:Int) (0:Int) (0:Int) (0:Int) ([]:Str) (0:Int) (0:Int) ([]:Str) x2)) ((⟨(1:Int),x2⟩:yae)=r0)
def ydz (a0:List yad) (r0:yae):Prop:=
 (a0.length<=maxLen->∀X1:Int->(List yag)->Prop,(∀x1 x2,ym8 a0 r0 X1 x1 x2->X1 x1 x2)->X1 (0:Int) ([]:List yag))
def ygG (X1:Int→(List yag)→Prop) (x1 x4 x7 x8:Int) (x9:Str) (x10 x11:Int) (x12:Str) (x14 x15:Int) (x16:List yag):Prop:=
 (x16.length<=1000000000)/\X1 (IntKind.i64.wrap (x1+(1:Int))) (x16++([(⟨x4,(⟨x14,x15⟩:yai),(⟨x7,x8,x9⟩:yad),(⟨x10,x11,x12⟩:yad)⟩:yag)]:List yag))
def yeD (X1:Int→(List yag)→Prop) (x1:Int) (y3:yad) (x4 x5 x6 x7 x8:Int) (x9:Str) (x10 x11:Int) (x12:Str) (x13:List yag):Prop:=
 cnd (y3.Kind==(2:Int)) (∃z17,(yf7 y3.N z17)/\ygG X1 x1 x4 x7 x8 x9 x10 x11 x12 z17.Hi z17.Lo x13) (ygG X1 x1 x4 x7 x8 x9 x10 x11 x12 x5 x6 x13)
def yks (a0:List yad) (r0:yae) (X1:Int→(List yag)→Prop) (x1:Int) (x2:List yag):Prop:=
 cnd (decide (x1<(a0.length:Int))) ((0<=x1)/\(x1<(a0.length:Int))/\∃y3:yad,(a0[x1.toNat]? =some y3)/\cnd (!(y3.Kind==(0:Int))) (yeD X1 x1 y3 (1:Int) (0:Int) (0:Int) y3.Kind y3.N y3.S y3.Kind y3.N y3.S x2) (yeD X1 x1 y3 (0:Int) (0:Int) (0:Int) (0:Int) (0:Int) ([]:Str) (0:Int) (0:Int) ([]:Str) x2)) ((⟨(1:Int),x2⟩:yae)=r0)
def yqg (a0:List yad) (r0:yae):Prop:=
 (a0.length<=maxLen->∀X1:Int->(List yag)->Prop,(∀x1 x2,yks a0 r0 X1 x1 x2->X1 x1 x2)->X1 (0:Int) ([]:List yag))
theorem yr0 (X1:Int→(List yag)→Prop) (x1 x4 x7 x8:Int) (x9:Str) (x10 x11:Int) (x12:Str) {x14 x15:Int} {x16:List yag} (h:ygG X1 x1 x4 x7 x8 x9 x10 x11 x12 x14 x15 x16):ymD X1 x1 x4 x7 x8 x9 x10 x11 x12 x14 x15 x16:=by
 unfold ymD
 unfold ygG at h
 exact h
theorem ysn (X1:Int→(List yag)→Prop) (x1:Int) (y3:yad) {x4 x5 x6 x7 x8:Int} {x9:Str} {x10 x11:Int} {x12:Str} {x13:List yag} (h:yeD X1 x1 y3 x4 x5 x6 x7 x8 x9 x10 x11 x12 x13):ymV X1 x1 y3 x4 x5 x6 x7 x8 x9 x10 x11 x12 x13:=by
 unfold ymV
 unfold yeD at h
 intro J3 kJ3
 have hJ3:∀x14 x15 x16,ygG X1 x1 x4 x7 x8 x9 x10 x11 x12 x14 x15 x16->J3 x14 x15 x16:=fun x14 x15 x16 q=>kJ3 x14 x15 x16 (yr0 X1 x1 x4 x7 x8 x9 x10 x11 x12 q)
 refine yak h (fun h=> ?_) (fun h=> ?_)
 ·obtain ⟨z17,h⟩:=h
  refine ⟨z17,?_⟩
  obtain ⟨h0,h⟩:=h
  refine ⟨h0,?_⟩
  exact hJ3 _ _ _ h
 ·exact hJ3 _ _ _ h
theorem yrJ (a0:List yad) (r0:yae) {X1:Int→(List yag)→Prop} {x1:Int} {x2:List yag} (h:yks a0 r0 X1 x1 x2):ym8 a0 r0 X1 x1 x2:=by
 unfold ym8
 unfold yks at h
 refine yak h (fun h=> ?_) (fun h=> ?_)
 ·obtain ⟨h0,h⟩:=h
  refine ⟨h0,?_⟩
  obtain ⟨h0,h⟩:=h
  refine ⟨h0,?_⟩
  obtain ⟨y3,h⟩:=h
  refine ⟨y3,?_⟩
  obtain ⟨h0,h⟩:=h
  refine ⟨h0,?_⟩
  intro J2 kJ2
  have hJ2:∀x4 x5 x6 x7 x8 x9 x10 x11 x12 x13,yeD X1 x1 y3 x4 x5 x6 x7 x8 x9 x10 x11 x12 x13->J2 x4 x5 x6 x7 x8 x9 x10 x11 x12 x13:=fun x4 x5 x6 x7 x8 x9 x10 x11 x12 x13 q=>kJ2 x4 x5 x6 x7 x8 x9 x10 x11 x12 x13 (ysn X1 x1 y3 q)
  refine yak h (fun h=> ?_) (fun h=> ?_)
  ·exact hJ2 _ _ _ _ _ _ _ _ _ _ h
  ·exact hJ2 _ _ _ _ _ _ _ _ _ _ h
 ·exact h
theorem yor (a0:List yad) (r0:yae) (h:yqg a0 r0):ydz a0 r0:=by
 unfold ydz
 unfold yqg at h
 intro c
 replace h:=h c
 intro X1 k
 exact h X1 (fun x1 x2 q=>k x1 x2 (yrJ a0 r0 q))
def ymx:Sp KK:=⟨16,[.v 28],[32],appW (K:=KK) [32] [.v 28] ydz⟩
def yuS:An KK:=(.s .o (.s .o (.s (.s .o (.b (.l ⟨[(2, .px 2 0),(3, .px 3 0),(8, .kp 84),(9, .kp 85),(10, .it .i64)],[(2,32,[.kp 87, .kp 88]),(3,32,[.kp 89, .row 31])],[(31,69)]⟩ (fun _=>(.s .o (.s (.c .o .o) (.s (.b (.s .o (.s .o (.j ⟨[(2, .px 2 0),(3, .px 3 0),(5, .px 5 0),(6, .px 6 0),(8, .kp 84),(9, .kp 85),(10, .kp 154)],[(2,32,[.kp 87, .kp 88]),(3,32,[.kp 89, .row 31]),(5,61,[.kp 155, .kp 156, .kp 157]),(6,69,[.it .i64, .it .i64, .it .u64, .it .i64, .it .i64, .st, .it .i64, .it .i64, .st])],[(31,69)]⟩ (.s .o (.c .o .o)) (fun _=>(.j ⟨[(2, .px 2 0),(3, .px 3 0),(6, .px 6 0),(8, .kp 84),(9, .kp 85),(10, .kp 154)],[(2,32,[.kp 87, .kp 88]),(3,32,[.kp 89, .row 31]),(6,69,[.kp 160, .it .i64, .it .u64, .kp 161, .kp 162, .kp 163, .kp 164, .kp 165, .kp 166])],[(31,69)]⟩ (.s .o (.c .o .o)) (fun _=> .o))))))) .o))))))) (.s .o .o))))
def ywx:Cf KK:=⟨CC,[ykv],[],35,[],none,false⟩
theorem yrb:SpOk Try.prog CC ymx:=yay (F:=ywx) (ps:= [.v 28]) (rs:= [32]) (w:=ydz) ybh (yas ynQ yaE) yaD t16 (A:=yuS) (by kernel_rfl) (by kernel_rfl) (fun a0 r0=>show _=_ by kernel_rfl)
def yeH (a0 a1 a2 r0 r1:Int):Prop:=0<=a0/\0<=a1/\a2=0/\r0=(a0+a1) % 18446744073709551616/\r1=(a0+a1)/18446744073709551616
def yga:Sp KK:=⟨69,[.v 65, .v 65, .v 65],[65,65],appW (K:=KK) [65,65] [.v 65, .v 65, .v 65] yeH⟩
theorem ykS {a0:Int} {a1:Int} {a2:Int} {r0:Int} {r1:Int} (h:yeH a0 a1 a2 r0 r1):AV.Pure Try.prog 69 [.it .u64 a0, .it .u64 a1, .it .u64 a2] (.tup [.it .u64 r0, .it .u64 r1]):=by
 obtain ⟨q0,q1,rfl,rfl,rfl⟩:=h
 exact yBf q0 q1
theorem yka:SpOk Try.prog CC yga:=by
 intro env r hF h
 obtain ⟨a0,env0,rfl,h1⟩:=yjD h
 obtain ⟨a1,env1,rfl,h2⟩:=yjD h1
 obtain ⟨a2,env2,rfl,h3⟩:=yjD h2
 obtain ⟨rfl,h4⟩:=ypX h3
 obtain ⟨r0,_,rfl,h5⟩:=ysl h4
 obtain ⟨r1,_,rfl,h6⟩:=ysl h5
 obtain ⟨rfl,h7⟩:=ywr h6
 exact ⟨rfl,(ykS h7).congr (by kernel_rfl) (by kernel_rfl)⟩
def yqh (a0:List yai) (r0:yai) (X1:Int→Int→Int→Prop) (x1 x2 x3:Int):Prop:=
 cnd (decide (x1<(a0.length:Int))) ((0<=x1)/\(x1<(a0.length:Int))/\∃y4:yai,(a0[x1.toNat]? =some y4)/\∃z5 z6,(yeH x3 y4.Lo (0:Int) z5 z6)/\X1 (IntKind.i64.wrap (x1+(1:Int))) (IntKind.i64.wrap ((IntKind.i64.wrap (x2+y4.Hi))+(IntKind.i64.wrap z6))) z5) ((⟨x2,x3⟩:yai)=r0)
def yf4 (a0:List yai) (r0:yai):Prop:=
 (a0.length<=maxLen->∀X1:Int->Int->Int->Prop,(∀x1 x2 x3,yqh a0 r0 X1 x1 x2 x3->X1 x1 x2 x3)->X1 (0:Int) (0:Int) (0:Int))
def yk5:Sp KK:=⟨56,[.v 129],[67],appW (K:=KK) [67] [.v 129] yf4⟩
def yqe:An KK:=(.s .o (.s .o (.s (.s .o (.b (.l ⟨[(2, .px 2 0),(3, .px 3 0),(8, .kp 8),(9, .kp 9),(10, .it .i64)],[(2,67,[.kp 11, .kp 12]),(3,67,[.it .i64, .it .u64])],[]⟩ (fun _=>(.s .o (.s (.c .o .o) (.s (.b (.s .o (.s .o .o))) .o))))))) (.s .o .o))))
def yqs:Cf KK:=⟨CC,[yga],[],34,[],none,false⟩
theorem yqz:SpOk Try.prog CC yk5:=yay (F:=yqs) (ps:= [.v 129]) (rs:= [67]) (w:=yf4) ybh (yas yka yaE) yaD t56 (A:=yqe) (by kernel_rfl) (by kernel_rfl) (fun a0 r0=>show _=_ by kernel_rfl)
def yeh (a0:Int) (r0:Bool):Prop:=
 (!(a0==a0))=r0
def yhj:Sp KK:=⟨66,[.v 3],[4],appW (K:=KK) [4] [.v 3] yeh⟩
def ylt:An KK:=(.s .o (.s .o .o))
def ylo:Cf KK:=⟨CC,[],[],6,[],none,false⟩
theorem ylw:SpOk Try.prog CC yhj:=yay (F:=ylo) (ps:= [.v 3]) (rs:= [4]) (w:=yeh) ybh yaE yaD t66 (A:=ylt) (by kernel_rfl) (by kernel_rfl) (fun a0 r0=>show _=_ by kernel_rfl)
def ydc (a0 a1 r0:Int):Prop:=
 ∃z1,(yeh a0 z1)/\∃z2,(yeh a1 z2)/\cnd z1 (cnd z2 ((0:Int)=r0) ((-1:Int)=r0)) (cnd z2 ((1:Int)=r0) (cnd (decide (a0<a1)) ((-1:Int)=r0) (cnd (decide (a1<a0)) ((1:Int)=r0) ((0:Int)=r0))))
def ygc:Sp KK:=⟨53,[.v 3, .v 3],[3],appW (K:=KK) [3] [.v 3, .v 3] ydc⟩
def yj2:An KK:=(.s .o (.s .o (.s .o (.s (.s .o (.c (.s (.s .o (.c (.s .o .o) .o)) (.s .o .o)) .o)) (.s (.s .o (.c (.s .o .o) .o)) (.s (.s .o (.c (.s .o .o) .o)) (.s (.s .o (.c (.s .o .o) .o)) (.s .o .o))))))))
def yjK:Cf KK:=⟨CC,[yhj],[],20,[],none,false⟩
theorem yjI:SpOk Try.prog CC ygc:=yay (F:=yjK) (ps:= [.v 3, .v 3]) (rs:= [3]) (w:=ydc) ybh (yas ylw yaE) yaD t53 (A:=yj2) (by kernel_rfl) (by kernel_rfl) (fun a0 a1 r0=>show _=_ by kernel_rfl)
def yc7 (a0:Int) (r0:Bool):Prop:=
 (!(a0==a0))=r0
def yge:Sp KK:=⟨67,[.v 2],[4],appW (K:=KK) [4] [.v 2] yc7⟩
def yjS:An KK:=(.s .o (.s .o .o))
def yjy:Cf KK:=⟨CC,[],[],6,[],none,false⟩
theorem yj8:SpOk Try.prog CC yge:=yay (F:=yjy) (ps:= [.v 2]) (rs:= [4]) (w:=yc7) ybh yaE yaD t67 (A:=yjS) (by kernel_rfl) (by kernel_rfl) (fun a0 r0=>show _=_ by kernel_rfl)
def ycC (a0 a1 r0:Int):Prop:=
 ∃z1,(yc7 a0 z1)/\∃z2,(yc7 a1 z2)/\cnd z1 (cnd z2 ((0:Int)=r0) ((-1:Int)=r0)) (cnd z2 ((1:Int)=r0) (cnd (decide (a0<a1)) ((-1:Int)=r0) (cnd (decide (a1<a0)) ((1:Int)=r0) ((0:Int)=r0))))
def yfi:Sp KK:=⟨54,[.v 2, .v 2],[3],appW (K:=KK) [3] [.v 2, .v 2] ycC⟩
def yiv:An KK:=(.s .o (.s .o (.s .o (.s (.s .o (.c (.s (.s .o (.c (.s .o .o) .o)) (.s .o .o)) .o)) (.s (.s .o (.c (.s .o .o) .o)) (.s (.s .o (.c (.s .o .o) .o)) (.s (.s .o (.c (.s .o .o) .o)) (.s .o .o))))))))
def yiy:Cf KK:=⟨CC,[yge],[],20,[],none,false⟩
theorem yiB:SpOk Try.prog CC yfi:=yay (F:=yiy) (ps:= [.v 2, .v 2]) (rs:= [3]) (w:=ycC) ybh (yas yj8 yaE) yaD t54 (A:=yiv) (by kernel_rfl) (by kernel_rfl) (fun a0 a1 r0=>show _=_ by kernel_rfl)
def ycO (a0:Str) (r0:Bool):Prop:=
 (!(a0==a0))=r0
def yfA:Sp KK:=⟨68,[.v 9],[4],appW (K:=KK) [4] [.v 9] ycO⟩
def yi7:An KK:=(.s .o (.s .o .o))
def yjf:Cf KK:=⟨CC,[],[],6,[],none,false⟩
theorem yi0:SpOk Try.prog CC yfA:=yay (F:=yjf) (ps:= [.v 9]) (rs:= [4]) (w:=ycO) ybh yaE yaD t68 (A:=yi7) (by kernel_rfl) (by kernel_rfl) (fun a0 r0=>show _=_ by kernel_rfl)
def yct (a0 a1:Str) (r0:Int):Prop:=
 ∃z1,(ycO a0 z1)/\∃z2,(ycO a1 z2)/\cnd z1 (cnd z2 ((0:Int)=r0) ((-1:Int)=r0)) (cnd z2 ((1:Int)=r0) (cnd (Op.bytesLess a0 a1) ((-1:Int)=r0) (cnd (!(Op.bytesLess a0 a1||a0==a1)) ((1:Int)=r0) ((0:Int)=r0))))
def ye1:Sp KK:=⟨55,[.v 9, .v 9],[3],appW (K:=KK) [3] [.v 9, .v 9] yct⟩
def yhA:An KK:=(.s .o (.s .o (.s .o (.s (.s .o (.c (.s (.s .o (.c (.s .o .o) .o)) (.s .o .o)) .o)) (.s (.s .o (.c (.s .o .o) .o)) (.s (.s .o (.c (.s .o .o) .o)) (.s (.s .o (.c (.s .o .o) .o)) (.s .o .o))))))))
def yia:Cf KK:=⟨CC,[yfA],[],20,[],none,false⟩
theorem yh0:SpOk Try.prog CC ye1:=yay (F:=yia) (ps:= [.v 9, .v 9]) (rs:= [3]) (w:=yct) ybh (yas yi0 yaE) yaD t55 (A:=yhA) (by kernel_rfl) (by kernel_rfl) (fun a0 a1 r0=>show _=_ by kernel_rfl)
def yox (a0:List Int) (r0:Int) (X1:Int→Prop) (x1:Int):Prop:=
 cnd (decide (x1<(a0.length:Int))) ((0<=x1)/\(x1<(a0.length:Int))/\∃y2:Int,(a0[x1.toNat]? =some y2)/\cnd (!(y2==(0:Int))) (y2=r0) (X1 (IntKind.i64.wrap (x1+(1:Int))))) ((0:Int)=r0)
def ye4 (a0:List Int) (r0:Int):Prop:=
 (a0.length<=maxLen->∀X1:Int->Prop,(∀x1,yox a0 r0 X1 x1->X1 x1)->X1 (0:Int))
def yj7:Sp KK:=⟨52,[.v 125],[3],appW (K:=KK) [3] [.v 125] ye4⟩
def yoM:An KK:=(.s .o (.s .o (.s (.s .o (.b (.l ⟨[(3, .kp 5),(6, .kp 6),(7, .kp 7),(8, .it .i64)],[],[]⟩ (fun _=>(.s .o (.s (.c .o .o) (.s (.b (.s .o (.s .o (.c (.s .o .o) .o)))) .o))))))) (.s .o .o))))
def yon:Cf KK:=⟨CC,[],[],18,[],none,false⟩
theorem ypb:SpOk Try.prog CC yj7:=yay (F:=yon) (ps:= [.v 125]) (rs:= [3]) (w:=ye4) ybh yaE yaD t52 (A:=yoM) (by kernel_rfl) (by kernel_rfl) (fun a0 r0=>show _=_ by kernel_rfl)
def ybK (a0 a1:yad) (r0:Int):Prop:=
 ∃z1,(ydc a0.Kind a1.Kind z1)/\∃z2,(ycC a0.N a1.N z2)/\∃z3,(yct a0.S a1.S z3)/\∃z4,(ye4 ([z1,z2,z3]:List Int) z4)/\z4=r0
def yfb:Sp KK:=⟨35,[.v 61, .v 61],[3],appW (K:=KK) [3] [.v 61, .v 61] ybK⟩
def ylr:An KK:=(.s .o (.s .o .o))
def ylq:Cf KK:=⟨CC,[ygc,yfi,ye1,yj7],[],22,[],none,false⟩
theorem yhp:SpOk Try.prog CC yfb:=yay (F:=ylq) (ps:= [.v 61, .v 61]) (rs:= [3]) (w:=ybK) ybh (yas yjI (yas yiB (yas yh0 (yas ypb yaE)))) yaD t35 (A:=ylr) (by kernel_rfl) (by kernel_rfl) (fun a0 a1 r0=>show _=_ by kernel_rfl)
def yfN (a0 a1:yag) (z1:yai) (x2 x3:Int) (x4:Str) (r0:yag) (x5 x6:Int) (x7:Str):Prop:=
 (⟨IntKind.i64.wrap (a0.N+a1.N),z1,(⟨x2,x3,x4⟩:yad),(⟨x5,x6,x7⟩:yad)⟩:yag)=r0
def yfE (a0 a1:yag) (z1:yai) (r0:yag) (x2 x3:Int) (x4:Str):Prop:=
 ∀J2:Int->Int->Str->Prop,(∀x5 x6 x7,yfN a0 a1 z1 x2 x3 x4 r0 x5 x6 x7->J2 x5 x6 x7)->∃z8,(ybK (⟨a1.Max.Kind,a1.Max.N,a1.Max.S⟩:yad) (⟨a0.Max.Kind,a0.Max.N,a0.Max.S⟩:yad) z8)/\cnd (decide ((0:Int)<z8)) (J2 a1.Max.Kind a1.Max.N a1.Max.S) (J2 a0.Max.Kind a0.Max.N a0.Max.S)
def yck (a0 a1 r0:yag):Prop:=
 cnd (a0.N==(0:Int)) ((⟨a1.N,(⟨a1.Sum.Hi,a1.Sum.Lo⟩:yai),(⟨a1.Min.Kind,a1.Min.N,a1.Min.S⟩:yad),(⟨a1.Max.Kind,a1.Max.N,a1.Max.S⟩:yad)⟩:yag)=r0) (cnd (a1.N==(0:Int)) ((⟨a0.N,(⟨a0.Sum.Hi,a0.Sum.Lo⟩:yai),(⟨a0.Min.Kind,a0.Min.N,a0.Min.S⟩:yad),(⟨a0.Max.Kind,a0.Max.N,a0.Max.S⟩:yad)⟩:yag)=r0) (∃z1,(yf4 ([(⟨a0.Sum.Hi,a0.Sum.Lo⟩:yai),(⟨a1.Sum.Hi,a1.Sum.Lo⟩:yai)]:List yai) z1)/\∀J1:Int->Int->Str->Prop,(∀x2 x3 x4,yfE a0 a1 z1 r0 x2 x3 x4->J1 x2 x3 x4)->∃z9,(ybK (⟨a1.Min.Kind,a1.Min.N,a1.Min.S⟩:yad) (⟨a0.Min.Kind,a0.Min.N,a0.Min.S⟩:yad) z9)/\cnd (decide (z9<(0:Int))) (J1 a1.Min.Kind a1.Min.N a1.Min.S) (J1 a0.Min.Kind a0.Min.N a0.Min.S)))
def yb9 (a0 a1 r0:yag) (x2 x3:Int) (x4:Str) (z1:yai) (x5 x6:Int) (x7:Str):Prop:=
 (⟨IntKind.i64.wrap (a0.N+a1.N),z1,(⟨x2,x3,x4⟩:yad),(⟨x5,x6,x7⟩:yad)⟩:yag)=r0
def ycG (a0 a1 r0:yag) (z1:yai) (x2 x3:Int) (x4:Str):Prop:=
 ∃z8,(ybK (⟨a1.Max.Kind,a1.Max.N,a1.Max.S⟩:yad) (⟨a0.Max.Kind,a0.Max.N,a0.Max.S⟩:yad) z8)/\cnd (decide ((0:Int)<z8)) (yb9 a0 a1 r0 x2 x3 x4 z1 a1.Max.Kind a1.Max.N a1.Max.S) (yb9 a0 a1 r0 x2 x3 x4 z1 a0.Max.Kind a0.Max.N a0.Max.S)
def yft (a0 a1 r0:yag):Prop:=
 cnd (a0.N==(0:Int)) ((⟨a1.N,(⟨a1.Sum.Hi,a1.Sum.Lo⟩:yai),(⟨a1.Min.Kind,a1.Min.N,a1.Min.S⟩:yad),(⟨a1.Max.Kind,a1.Max.N,a1.Max.S⟩:yad)⟩:yag)=r0) (cnd (a1.N==(0:Int)) ((⟨a0.N,(⟨a0.Sum.Hi,a0.Sum.Lo⟩:yai),(⟨a0.Min.Kind,a0.Min.N,a0.Min.S⟩:yad),(⟨a0.Max.Kind,a0.Max.N,a0.Max.S⟩:yad)⟩:yag)=r0) (∃z1,(yf4 ([(⟨a0.Sum.Hi,a0.Sum.Lo⟩:yai),(⟨a1.Sum.Hi,a1.Sum.Lo⟩:yai)]:List yai) z1)/\∃z9,(ybK (⟨a1.Min.Kind,a1.Min.N,a1.Min.S⟩:yad) (⟨a0.Min.Kind,a0.Min.N,a0.Min.S⟩:yad) z9)/\cnd (decide (z9<(0:Int))) (ycG a0 a1 r0 z1 a1.Min.Kind a1.Min.N a1.Min.S) (ycG a0 a1 r0 z1 a0.Min.Kind a0.Min.N a0.Min.S)))
theorem ykF (a0 a1 r0:yag) (x2 x3:Int) (x4:Str) (z1:yai) {x5 x6:Int} {x7:Str} (h:yb9 a0 a1 r0 x2 x3 x4 z1 x5 x6 x7):yfN a0 a1 z1 x2 x3 x4 r0 x5 x6 x7:=by
 unfold yfN
 unfold yb9 at h
 exact h
theorem ykA (a0 a1 r0:yag) (z1:yai) {x2 x3:Int} {x4:Str} (h:ycG a0 a1 r0 z1 x2 x3 x4):yfE a0 a1 z1 r0 x2 x3 x4:=by
 unfold yfE
 unfold ycG at h
 intro J2 kJ2
 have hJ2:∀x5 x6 x7,yb9 a0 a1 r0 x2 x3 x4 z1 x5 x6 x7->J2 x5 x6 x7:=fun x5 x6 x7 q=>kJ2 x5 x6 x7 (ykF a0 a1 r0 x2 x3 x4 z1 q)
 obtain ⟨z8,h⟩:=h
 refine ⟨z8,?_⟩
 obtain ⟨h0,h⟩:=h
 refine ⟨h0,?_⟩
 refine yak h (fun h=> ?_) (fun h=> ?_)
 ·exact hJ2 _ _ _ h
 ·exact hJ2 _ _ _ h
theorem yns (a0 a1 r0:yag) (h:yft a0 a1 r0):yck a0 a1 r0:=by
 unfold yck
 unfold yft at h
 refine yak h (fun h=> ?_) (fun h=> ?_)
 ·exact h
 ·refine yak h (fun h=> ?_) (fun h=> ?_)
  ·exact h
  ·obtain ⟨z1,h⟩:=h
   refine ⟨z1,?_⟩
   obtain ⟨h0,h⟩:=h
   refine ⟨h0,?_⟩
   intro J1 kJ1
   have hJ1:∀x2 x3 x4,ycG a0 a1 r0 z1 x2 x3 x4->J1 x2 x3 x4:=fun x2 x3 x4 q=>kJ1 x2 x3 x4 (ykA a0 a1 r0 z1 q)
   obtain ⟨z9,h⟩:=h
   refine ⟨z9,?_⟩
   obtain ⟨h0,h⟩:=h
   refine ⟨h0,?_⟩
   refine yak h (fun h=> ?_) (fun h=> ?_)
   ·exact hJ1 _ _ _ h
   ·exact hJ1 _ _ _ h
def yh9:Sp KK:=⟨36,[.v 69, .v 69],[69],appW (K:=KK) [69] [.v 69, .v 69] yck⟩
def ylX:An KK:=(.s .o (.s (.b (.s .o (.c (.s .o .o) (.s .o (.c (.s .o .o) .o))))) (.s .o (.j ⟨[(3, .px 3 0),(4, .px 4 0),(5, .px 5 0)],[(3,69,(kps 1 9)),(4,69,(kps 10 9)),(5,69,[.kp 19, .kp 20, .kp 21, .it .i64, .it .i64, .st, .kp 22, .kp 23, .kp 24])],[]⟩ (.s .o (.c .o .o)) (fun _=>(.j ⟨[(4, .px 4 0),(5, .px 5 0)],[(4,69,(kps 10 9)),(5,69,[.kp 19, .kp 20, .kp 21, .kp 25, .kp 26, .kp 27, .it .i64, .it .i64, .st])],[]⟩ (.s .o (.c .o .o)) (fun _=>(.s .o .o))))))))
def ymu:Cf KK:=⟨CC,[yk5,yfb],[],51,[],none,false⟩
theorem ymb:SpOk Try.prog CC yh9:=yay (F:=ymu) (ps:= [.v 69, .v 69]) (rs:= [69]) (w:=yck) ybh (yas yqz (yas yhp yaE)) yaD t36 (A:=ylX) (by kernel_rfl) (by kernel_rfl) (fun a0 a1 r0=>show _=_ by kernel_rfl)
def yr1 (a1 a0 r0:yae) (X1:Int→(List yag)→Prop) (x1:Int) (x2:List yag):Prop:=
 cnd (decide (x1<(if (a1.L.length:Int)<(a0.L.length:Int) then (a1.L.length:Int) else (a0.L.length:Int)))) ((0<=x1)/\(x1<(a0.L.length:Int))/\∃y3:yag,(a0.L[x1.toNat]? =some y3)/\(0<=x1)/\(x1<(a1.L.length:Int))/\∃y4:yag,(a1.L[x1.toNat]? =some y4)/\∃z5,(yck (⟨y3.N,(⟨y3.Sum.Hi,y3.Sum.Lo⟩:yai),(⟨y3.Min.Kind,y3.Min.N,y3.Min.S⟩:yad),(⟨y3.Max.Kind,y3.Max.N,y3.Max.S⟩:yad)⟩:yag) (⟨y4.N,(⟨y4.Sum.Hi,y4.Sum.Lo⟩:yai),(⟨y4.Min.Kind,y4.Min.N,y4.Min.S⟩:yad),(⟨y4.Max.Kind,y4.Max.N,y4.Max.S⟩:yad)⟩:yag) z5)/\(x2.length<=1000000000)/\X1 (IntKind.i64.wrap (x1+(1:Int))) (x2++([(⟨z5.N,(⟨z5.Sum.Hi,z5.Sum.Lo⟩:yai),(⟨z5.Min.Kind,z5.Min.N,z5.Min.S⟩:yad),(⟨z5.Max.Kind,z5.Max.N,z5.Max.S⟩:yad)⟩:yag)]:List yag))) ((⟨IntKind.i64.wrap (a0.Rows+a1.Rows),x2⟩:yae)=r0)
def ycJ (a0 a1 r0:yae):Prop:=
 (a0.L.length<=maxLen->(a1.L.length<=maxLen->∀X1:Int->(List yag)->Prop,(∀x1 x2,yr1 a1 a0 r0 X1 x1 x2->X1 x1 x2)->X1 (0:Int) ([]:List yag)))
def yg5:Sp KK:=⟨15,[.v 32, .v 32],[32],appW (K:=KK) [32] [.v 32, .v 32] ycJ⟩
def yrn:An KK:=(.s .o (.s .o (.s (.s .o (.b (.l ⟨[(2, .px 2 0),(3, .px 3 0),(4, .px 4 0),(5, .px 5 0),(19, .kp 11),(20, .it .i64)],[(2,32,[.kp 13, .kp 14]),(3,32,[.kp 15, .kp 16]),(4,32,[.kp 17, .kp 18]),(5,32,[.kp 19, .row 37])],[(37,69)]⟩ (fun _=>(.s .o (.s (.c .o .o) (.s (.b (.s .o .o)) .o))))))) (.s .o .o))))
def yry:Cf KK:=⟨CC,[yh9],[],41,[],none,false⟩
theorem yjj:SpOk Try.prog CC yg5:=yay (F:=yry) (ps:= [.v 32, .v 32]) (rs:= [32]) (w:=ycJ) ybh (yas ymb yaE) yaD t15 (A:=yrn) (by kernel_rfl) (by kernel_rfl) (fun a0 a1 r0=>show _=_ by kernel_rfl)
def ycW (a0:yai) (r0:Int) (r1:Bool):Prop:=
 ∃z1,(yf7 (IntKind.i64.wrap a0.Lo) z1)/\cnd (!((z1.Hi==a0.Hi)&&((z1.Lo==a0.Lo)&&true))) ((0:Int)=r0/\false=r1) ((IntKind.i64.wrap a0.Lo)=r0/\true=r1)
def yhn:Sp KK:=⟨38,[.v 67],[2,4],appW (K:=KK) [2,4] [.v 67] ycW⟩
def ylm:An KK:=(.s .o (.s .o (.s (.s .o (.c (.s .o .o) .o)) (.s .o .o))))
def yls:Cf KK:=⟨CC,[ykv],[],13,[],none,false⟩
theorem yln:SpOk Try.prog CC yhn:=yay (F:=yls) (ps:= [.v 67]) (rs:= [2,4]) (w:=ycW) ybh (yas ynQ yaE) yaD t38 (A:=ylm) (by kernel_rfl) (by kernel_rfl) (fun a0 r0 r1=>show _=_ by kernel_rfl)
def yaP (a0:yae) (a1 a2:Int) (r0:yad) (r1:Int):Prop:=
 cnd (decide (a2<(0:Int))) (∃z1,(yaO a0.Rows z1)/\z1=r0/\(0:Int)=r1) ((0<=a2)/\(a2<(a0.L.length:Int))/\∃y2:yag,(a0.L[a2.toNat]? =some y2)/\cnd (a1==(1:Int)) (∃z3,(yaO y2.N z3)/\z3=r0/\(0:Int)=r1) (cnd (a1==(3:Int)) ((⟨y2.Min.Kind,y2.Min.N,y2.Min.S⟩:yad)=r0/\(0:Int)=r1) (cnd (a1==(4:Int)) ((⟨y2.Max.Kind,y2.Max.N,y2.Max.S⟩:yad)=r0/\(0:Int)=r1) (cnd (y2.N==(0:Int)) ((⟨(0:Int),(0:Int),([]:Str)⟩:yad)=r0/\(0:Int)=r1) (∃z4 z5,(ycW (⟨y2.Sum.Hi,y2.Sum.Lo⟩:yai) z4 z5)/\cnd (!z5) ((⟨(0:Int),(0:Int),([]:Str)⟩:yad)=r0/\(8:Int)=r1) (∃z6,(yaO z4 z6)/\z6=r0/\(0:Int)=r1))))))
def yex:Sp KK:=⟨18,[.v 32, .v 3, .v 3],[61,52],appW (K:=KK) [61,52] [.v 32, .v 3, .v 3] yaP⟩
def yke:An KK:=(.s .o (.s (.s .o (.c (.s .o .o) .o)) (.s .o (.s (.s .o (.b (.s .o (.c (.s .o .o) (.s .o (.c (.s .o .o) (.s .o (.c (.s .o .o) .o)))))))) (.s (.s .o (.c (.s .o .o) .o)) (.s .o (.s (.s .o (.c (.s .o .o) .o)) (.s .o .o))))))))
def yki:Cf KK:=⟨CC,[ydn,yhn],[],50,[],none,false⟩
theorem ygI:SpOk Try.prog CC yex:=yay (F:=yki) (ps:= [.v 32, .v 3, .v 3]) (rs:= [61,52]) (w:=yaP) ybh (yas yeW (yas yln yaE)) yaD t18 (A:=yke) (by kernel_rfl) (by kernel_rfl) (fun a0 a1 a2 r0 r1=>show _=_ by kernel_rfl)
def yfw (r0 x9:Bool):Prop:=
 x9=r0
def ycn (r0:Bool):Prop:=
 ∃z1,(yaO (1:Int) z1)/\∃z2,(ydz ([z1]:List yad) z2)/\∃z3,(ydz ([(⟨(0:Int),(0:Int),([]:Str)⟩:yad)]:List yad) z3)/\∃z4,(ycJ z2 z3 z4)/\∃z5 z6,(yaP z4 (2:Int) (0:Int) z5 z6)/\∃z7 z8,(yaP z4 (1:Int) (-1:Int) z7 z8)/\∀J1:Bool->Prop,(∀x9,yfw r0 x9->J1 x9)->cnd (z6==(0:Int)) (cnd (z8==(0:Int)) (∃z10,(yaO (1:Int) z10)/\cnd ((z5.Kind==z10.Kind)&&((z5.N==z10.N)&&((z5.S==z10.S)&&true))) (cnd (z5.Kind==(2:Int)) (∃z11,(yaO (2:Int) z11)/\cnd ((z7.Kind==z11.Kind)&&((z7.N==z11.N)&&((z7.S==z11.S)&&true))) ((0<=(0:Int))/\((0:Int)<(z4.L.length:Int))/\∃y12:yag,(z4.L[(0:Int).toNat]? =some y12)/\J1 (y12.N==(1:Int))) (J1 false)) (J1 false)) (J1 false)) (J1 false)) (J1 false)
def ybg (r0 x9:Bool):Prop:=
 x9=r0
def yhH (r0:Bool):Prop:=
 ∃z1,(yaO (1:Int) z1)/\∃z2,(ydz ([z1]:List yad) z2)/\∃z3,(ydz ([(⟨(0:Int),(0:Int),([]:Str)⟩:yad)]:List yad) z3)/\∃z4,(ycJ z2 z3 z4)/\∃z5 z6,(yaP z4 (2:Int) (0:Int) z5 z6)/\∃z7 z8,(yaP z4 (1:Int) (-1:Int) z7 z8)/\cnd (z6==(0:Int)) (cnd (z8==(0:Int)) (∃z10,(yaO (1:Int) z10)/\cnd ((z5.Kind==z10.Kind)&&((z5.N==z10.N)&&((z5.S==z10.S)&&true))) (cnd (z5.Kind==(2:Int)) (∃z11,(yaO (2:Int) z11)/\cnd ((z7.Kind==z11.Kind)&&((z7.N==z11.N)&&((z7.S==z11.S)&&true))) ((0<=(0:Int))/\((0:Int)<(z4.L.length:Int))/\∃y12:yag,(z4.L[(0:Int).toNat]? =some y12)/\ybg r0 (y12.N==(1:Int))) (ybg r0 false)) (ybg r0 false)) (ybg r0 false)) (ybg r0 false)) (ybg r0 false)
theorem ykE (r0:Bool) {x9:Bool} (h:ybg r0 x9):yfw r0 x9:=by
 unfold yfw
 unfold ybg at h
 exact h
theorem ynn (r0:Bool) (h:yhH r0):ycn r0:=by
 unfold ycn
 unfold yhH at h
 obtain ⟨z1,h⟩:=h
 refine ⟨z1,?_⟩
 obtain ⟨h0,h⟩:=h
 refine ⟨h0,?_⟩
 obtain ⟨z2,h⟩:=h
 refine ⟨z2,?_⟩
 obtain ⟨h0,h⟩:=h
 refine ⟨h0,?_⟩
 obtain ⟨z3,h⟩:=h
 refine ⟨z3,?_⟩
 obtain ⟨h0,h⟩:=h
 refine ⟨h0,?_⟩
 obtain ⟨z4,h⟩:=h
 refine ⟨z4,?_⟩
 obtain ⟨h0,h⟩:=h
 refine ⟨h0,?_⟩
 obtain ⟨z5,h⟩:=h
 refine ⟨z5,?_⟩
 obtain ⟨z6,h⟩:=h
 refine ⟨z6,?_⟩
 obtain ⟨h0,h⟩:=h
 refine ⟨h0,?_⟩
 obtain ⟨z7,h⟩:=h
 refine ⟨z7,?_⟩
 obtain ⟨z8,h⟩:=h
 refine ⟨z8,?_⟩
 obtain ⟨h0,h⟩:=h
 refine ⟨h0,?_⟩
 intro J1 kJ1
 have hJ1:∀x9,ybg r0 x9->J1 x9:=fun x9 q=>kJ1 x9 (ykE r0 q)
 refine yak h (fun h=> ?_) (fun h=> ?_)
 ·refine yak h (fun h=> ?_) (fun h=> ?_)
  ·obtain ⟨z10,h⟩:=h
   refine ⟨z10,?_⟩
   obtain ⟨h0,h⟩:=h
   refine ⟨h0,?_⟩
   refine yak h (fun h=> ?_) (fun h=> ?_)
   ·refine yak h (fun h=> ?_) (fun h=> ?_)
    ·obtain ⟨z11,h⟩:=h
     refine ⟨z11,?_⟩
     obtain ⟨h0,h⟩:=h
     refine ⟨h0,?_⟩
     refine yak h (fun h=> ?_) (fun h=> ?_)
     ·obtain ⟨h0,h⟩:=h
      refine ⟨h0,?_⟩
      obtain ⟨h0,h⟩:=h
      refine ⟨h0,?_⟩
      obtain ⟨y12,h⟩:=h
      refine ⟨y12,?_⟩
      obtain ⟨h0,h⟩:=h
      refine ⟨h0,?_⟩
      exact hJ1 _ h
     ·exact hJ1 _ h
    ·exact hJ1 _ h
   ·exact hJ1 _ h
  ·exact hJ1 _ h
 ·exact hJ1 _ h
def yhI:Sp KK:=⟨4,[],[4],appW (K:=KK) [4] [] ycn⟩
def yl7:An KK:=(.s .o (.s .o (.s .o (.s .o (.j ⟨[(0, .bl)],[],[]⟩ .o (fun _=> .o))))))
def yl2:Cf KK:=⟨CC,[ydn,ymx,yg5,yex],[],52,[],none,false⟩
theorem ymM:SpOk Try.prog CC yhI:=yay (F:=yl2) (ps:= []) (rs:= [4]) (w:=ycn) ybh (yas yeW (yas yrb (yas yjj (yas ygI yaE)))) yaD t4 (A:=yl7) (by kernel_rfl) (by kernel_rfl) (fun r0=>show _=_ by kernel_rfl)
def yiW (a0:yax) (r0:yad) (r1:yab) (x1:Int) (x2:Str):Prop:=
 (⟨IntKind.i64.wrap (a0.Kind.tmod (4:Int)),x1,x2⟩:yad)=r0/\(⟨IntKind.i64.wrap (a0.Kind.tmod (4:Int)),x1,x2⟩:yab)=r1
def yez (a0:yax) (r0:yad) (r1:yab):Prop:=
 ∀J1:Int->Str->Prop,(∀x1 x2,yiW a0 r0 r1 x1 x2->J1 x1 x2)->cnd ((IntKind.i64.wrap (a0.Kind.tmod (4:Int)))==(1:Int)) (J1 (bits .and .i64 a0.N (1:Int)) ([]:Str)) (cnd ((IntKind.i64.wrap (a0.Kind.tmod (4:Int)))==(2:Int)) (J1 a0.N ([]:Str)) (cnd ((IntKind.i64.wrap (a0.Kind.tmod (4:Int)))==(3:Int)) ((0<=(0:Int)/\(0:Int)<=(if (64:Int)<(a0.S.length:Int) then (64:Int) else (a0.S.length:Int))/\(if (64:Int)<(a0.S.length:Int) then (64:Int) else (a0.S.length:Int))<=(a0.S.length:Int))/\J1 (0:Int) ((a0.S.drop (0:Int).toNat).take ((if (64:Int)<(a0.S.length:Int) then (64:Int) else (a0.S.length:Int)).toNat-(0:Int).toNat))) (J1 (0:Int) ([]:Str))))
def ycy (a0:yax) (r0:yad) (r1:yab) (x1:Int) (x2:Str):Prop:=
 (⟨IntKind.i64.wrap (a0.Kind.tmod (4:Int)),x1,x2⟩:yad)=r0/\(⟨IntKind.i64.wrap (a0.Kind.tmod (4:Int)),x1,x2⟩:yab)=r1
def yg1 (a0:yax) (r0:yad) (r1:yab):Prop:=
 cnd ((IntKind.i64.wrap (a0.Kind.tmod (4:Int)))==(1:Int)) (ycy a0 r0 r1 (bits .and .i64 a0.N (1:Int)) ([]:Str)) (cnd ((IntKind.i64.wrap (a0.Kind.tmod (4:Int)))==(2:Int)) (ycy a0 r0 r1 a0.N ([]:Str)) (cnd ((IntKind.i64.wrap (a0.Kind.tmod (4:Int)))==(3:Int)) ((0<=(0:Int)/\(0:Int)<=(if (64:Int)<(a0.S.length:Int) then (64:Int) else (a0.S.length:Int))/\(if (64:Int)<(a0.S.length:Int) then (64:Int) else (a0.S.length:Int))<=(a0.S.length:Int))/\ycy a0 r0 r1 (0:Int) ((a0.S.drop (0:Int).toNat).take ((if (64:Int)<(a0.S.length:Int) then (64:Int) else (a0.S.length:Int)).toNat-(0:Int).toNat))) (ycy a0 r0 r1 (0:Int) ([]:Str))))
theorem ypm (a0:yax) (r0:yad) (r1:yab) {x1:Int} {x2:Str} (h:ycy a0 r0 r1 x1 x2):yiW a0 r0 r1 x1 x2:=by
 unfold yiW
 unfold ycy at h
 exact h
theorem yuf (a0:yax) (r0:yad) (r1:yab) (h:yg1 a0 r0 r1):yez a0 r0 r1:=by
 unfold yez
 unfold yg1 at h
 intro J1 kJ1
 have hJ1:∀x1 x2,ycy a0 r0 r1 x1 x2->J1 x1 x2:=fun x1 x2 q=>kJ1 x1 x2 (ypm a0 r0 r1 q)
 refine yak h (fun h=> ?_) (fun h=> ?_)
 ·exact hJ1 _ _ h
 ·refine yak h (fun h=> ?_) (fun h=> ?_)
  ·exact hJ1 _ _ h
  ·refine yak h (fun h=> ?_) (fun h=> ?_)
   ·obtain ⟨h0,h⟩:=h
    refine ⟨h0,?_⟩
    exact hJ1 _ _ h
   ·exact hJ1 _ _ h
def yl5:Sp KK:=⟨19,[.v 42],[61,70],appW (K:=KK) [61,70] [.v 42] yez⟩
def yrO:An KK:=(.s .o (.s .o (.j ⟨[(2, .px 2 0),(3, .px 3 0),(4, .px 4 0)],[(2,61,[.kp 1, .kp 2, .kp 3]),(3,70,[.kp 4, .kp 5, .kp 6]),(4,70,[.kp 7, .it .i64, .st])],[]⟩ (.s .o (.b (.s .o (.c .o (.s .o (.c .o (.s .o (.c .o .o)))))))) (fun _=>(.s .o .o)))))
def ysq:Cf KK:=⟨CC,[],[],35,[],none,false⟩
theorem ysg:SpOk Try.prog CC yl5:=yay (F:=ysq) (ps:= [.v 42]) (rs:= [61,70]) (w:=yez) ybh yaE yaD t19 (A:=yrO) (by kernel_rfl) (by kernel_rfl) (fun a0 r0 r1=>show _=_ by kernel_rfl)
def ye6 (a0:yau) (r0:yaa) (r1:yac):Prop:=
 ∃z1 z2,(yez (⟨a0.A.Kind,a0.A.N,a0.A.S⟩:yax) z1 z2)/\∃z3 z4,(yez (⟨a0.B.Kind,a0.B.N,a0.B.S⟩:yax) z3 z4)/\∃z5,(yaO (IntKind.i64.wrap (a0.Group.tmod (4:Int))) z5)/\∃z6,(ydz ([z1,z3]:List yad) z6)/\(⟨([z5]:List yad),z6⟩:yaa)=r0/\(⟨([(⟨(2:Int),IntKind.i64.wrap (a0.Group.tmod (4:Int)),([]:Str)⟩:yab)]:List yab),([z2,z4]:List yab)⟩:yac)=r1
def yj0:Sp KK:=⟨5,[.v 44],[34,38],appW (K:=KK) [34,38] [.v 44] ye6⟩
def yoQ:An KK:=(.s .o (.s .o (.s .o (.s .o (.s .o .o)))))
def yol:Cf KK:=⟨CC,[yl5,ydn,ymx],[],40,[],none,false⟩
theorem ypt:SpOk Try.prog CC yj0:=yay (F:=yol) (ps:= [.v 44]) (rs:= [34,38]) (w:=ye6) ybh (yas ysg (yas yeW (yas yrb yaE))) yaD t5 (A:=yoQ) (by kernel_rfl) (by kernel_rfl) (fun a0 r0 r1=>show _=_ by kernel_rfl)
def yfy (a0 a1:List yad) (r0:Int) (g2:yad→yad→Int→Prop) (X1:Int→Prop) (x1:Int):Prop:=
 cnd (decide (x1<(a0.length:Int))) ((0<=x1)/\(x1<(a0.length:Int))/\∃y2:yad,(a0[x1.toNat]? =some y2)/\(a1.length<=maxLen->cnd (decide ((a1.length:Int)<=x1)) ((1:Int)=r0) ((0<=x1)/\(x1<(a1.length:Int))/\∃y3:yad,(a1[x1.toNat]? =some y3)/\∃z4,(g2 y2 y3 z4)/\cnd (!(z4==(0:Int))) (z4=r0) (X1 (IntKind.i64.wrap (x1+(1:Int))))))) ((a0.length<=maxLen->(a1.length<=maxLen->cnd (decide ((a0.length:Int)<(a1.length:Int))) ((-1:Int)=r0) ((0:Int)=r0))))
def yb3 (a0 a1:List yad) (g2:yad→yad→Int→Prop) (r0:Int):Prop:=
 (a0.length<=maxLen->∀X1:Int->Prop,(∀x1,yfy a0 a1 r0 g2 X1 x1->X1 x1)->X1 (0:Int))
def yc1:Sp KK:=⟨34,[.v 29, .v 29, .f [61,61] [3]],[3],appW (K:=KK) [3] [.v 29, .v 29, .f [61,61] [3]] yb3⟩
def yf1:An KK:=(.s .o (.s (.s .o (.b (.l ⟨[(0, .kp 7),(1, .kp 8),(2, .kp 9),(11, .kp 10),(12, .kp 11),(13, .it .i64)],[],[]⟩ (fun _=>(.s .o (.s (.c .o .o) (.s (.b (.s .o (.s (.s .o (.c (.s .o .o) .o)) (.s .o (.s .o (.s .o (.c (.s .o .o) .o))))))) .o))))))) (.s (.s .o (.c (.s .o .o) .o)) (.s .o .o))))
def yfD:Cf KK:=⟨CC,[],[],39,[],none,false⟩
theorem yfC:SpOk Try.prog CC yc1:=yay (F:=yfD) (ps:= [.v 29, .v 29, .f [61,61] [3]]) (rs:= [3]) (w:=yb3) ybh yaE yaD t34 (A:=yf1) (by kernel_rfl) (by kernel_rfl) (fun a0 a1 F2 r0=>show _=_ by kernel_rfl)
def ycg (a0 a1:List yad) (r0:Int):Prop:=
 ∃z1,(yb3 a0 a1 ybK z1)/\z1=r0
def yeP:Sp KK:=⟨13,[.v 29, .v 29],[3],appW (K:=KK) [3] [.v 29, .v 29] ycg⟩
def ynq:An KK:=(.s .o (.s .o .o))
def ynr:Cf KK:=⟨CC,[yfb,yc1],[],8,[],none,false⟩
theorem ygB:SpOk Try.prog CC yeP:=yay (F:=ynr) (ps:= [.v 29, .v 29]) (rs:= [3]) (w:=ycg) ybh (yas yhp (yas yfC yaE)) yaD t13 (A:=ynq) (by kernel_rfl) (by kernel_rfl) (fun a0 a1 r0=>show _=_ by kernel_rfl)
def yd4 (a0 a1:yaa) (r0:Int):Prop:=
 ∃z1,(ycg a0.Row a1.Row z1)/\z1=r0
def yiL:Sp KK:=⟨22,[.v 34, .v 34],[3],appW (K:=KK) [3] [.v 34, .v 34] yd4⟩
def ynu:An KK:=(.s .o (.s .o .o))
def ynf:Cf KK:=⟨CC,[yeP],[],10,[],none,false⟩
theorem ynw:SpOk Try.prog CC yiL:=yay (F:=ynf) (ps:= [.v 34, .v 34]) (rs:= [3]) (w:=yd4) ybh (yas ygB yaE) yaD t22 (A:=ynu) (by kernel_rfl) (by kernel_rfl) (fun a0 a1 r0=>show _=_ by kernel_rfl)
def ybd (a0:Int) (r0:List yaa):Prop:=
 cnd (decide (a0<(0:Int))) (False) (cnd (decide ((0:Int)<(IntKind.i64.wrap (a0-(IntKind.i64.wrap ((0:Int)-(0:Int))))))) ((0<=(0:Int)/\(0:Int)<=(0:Int)/\(0:Int)<=0)/\(0<(IntKind.i64.wrap (a0-(IntKind.i64.wrap ((0:Int)-(0:Int))))))/\(56*(IntKind.i64.wrap (a0-(IntKind.i64.wrap ((0:Int)-(0:Int))))).toNat<=140737488355328)/\((IntKind.i64.wrap (a0-(IntKind.i64.wrap ((0:Int)-(0:Int)))))<=1000000000)/\(0<=(0:Int)/\(0:Int)<=((List.replicate (IntKind.i64.wrap (a0-(IntKind.i64.wrap ((0:Int)-(0:Int))))).toNat (⟨([]:List yad),(⟨(0:Int),([]:List yag)⟩:yae)⟩:yaa)).length:Int))/\((List.replicate (IntKind.i64.wrap (a0-(IntKind.i64.wrap ((0:Int)-(0:Int))))).toNat (⟨([]:List yad),(⟨(0:Int),([]:List yag)⟩:yae)⟩:yaa)).take (0:Int).toNat)=r0) (([]:List yaa)=r0))
def ybQ:Sl KK:=⟨39,[],⟨[(0, .nil),(1, .it .i64)],[],[]⟩,⟨[(4, .row 1000000)],[],[(1000000,34)]⟩,[],[(4,none)],false,fun _ _ _=>True⟩
def ybS:Sl KK:=⟨39,[],⟨[(0, .nil),(1, .it .i64)],[],[]⟩,⟨[(4, .row 1000000)],[],[(1000000,34)]⟩,[],[(4,none)],false,apFs (K:=KK) (ctT ybQ.ti) (ctT ybQ.te) [] ybd⟩
def yg3:An KK:=(.s .o (.s (.s .o (.c .o .o)) (.s (.s .o (.s .o (.c .o .o))) (.s .o .o))))
def ygZ:Cf KK:=⟨CC,[],[],27,[],none,false⟩
theorem yg6:SlOk Try.prog CC ybS:=by
 intro fs env out hl hF hW
 obtain ⟨rfl,h0⟩:=yjw hW
 obtain ⟨a0,ea0,rfl,h1⟩:=ycP h0
 obtain ⟨rfl,h2⟩:=yjL h1
 obtain ⟨r0,er0,rfl,h3⟩:=ygT h2
 obtain ⟨rfl,h4⟩:=yhc h3
 show SlC Try.prog CC ybS [] [.i a0] [.l 34 r0]
 rw[show SlC Try.prog CC ybS [] [.i a0] [.l 34 r0]=SlC Try.prog CC ybQ [] [.i a0] [.l 34 r0] by kernel_rfl]
 exact ylf (F:=ygZ) ybh yaE yaD t39 (A:=yg3) (sp:=ybQ) rfl (by kernel_rfl) (by kernel_rfl) (Nat.le_of_ble_eq_true (by kernel_rfl)) (fs:= []) (env:= [.i a0]) (out:= [.l 34 r0]) (by kernel_rfl) hF (X:=ybd a0 r0) h4 (by kernel_rfl)
def ycl (a0:List (List yaa)) (r0:List yaa) (X2:Int→(List yaa)→Prop) (x5:Int) (x6:List yaa):Prop:=
 cnd (decide (x5<(a0.length:Int))) ((0<=x5)/\(x5<(a0.length:Int))/\∃y7:(List yaa),(a0[x5.toNat]? =some y7)/\(x6.length<=1000000000)/\(y7.length<=400000000)/\X2 (IntKind.i64.wrap (x5+(1:Int))) (x6++y7)) (x6=r0)
def yci (a0:List (List yaa)) (r0:List yaa) (X1:Int→Int→Prop) (x1 x2:Int):Prop:=
 cnd (decide (x2<(a0.length:Int))) ((0<=x2)/\(x2<(a0.length:Int))/\∃y3:(List yaa),(a0[x2.toNat]? =some y3)/\(y3.length<=maxLen->cnd (decide ((IntKind.i64.wrap (x1+(y3.length:Int)))<(0:Int))) (False) (X1 (IntKind.i64.wrap (x1+(y3.length:Int))) (IntKind.i64.wrap (x2+(1:Int)))))) (∃z4,(ybd x1 z4)/\(a0.length<=maxLen->∀X2:Int->(List yaa)->Prop,(∀x5 x6,ycl a0 r0 X2 x5 x6->X2 x5 x6)->X2 (0:Int) z4))
def yaQ (a0:List (List yaa)) (r0:List yaa):Prop:=
 (a0.length<=maxLen->∀X1:Int->Int->Prop,(∀x1 x2,yci a0 r0 X1 x1 x2->X1 x1 x2)->X1 (0:Int) (0:Int))
def yb4 (a0:List (List yaa)) (r0:List yaa) (X2:Int→(List yaa)→Prop) (x5:Int) (x6:List yaa):Prop:=
 cnd (decide (x5<(a0.length:Int))) ((0<=x5)/\(x5<(a0.length:Int))/\∃y7:(List yaa),(a0[x5.toNat]? =some y7)/\(x6.length<=1000000000)/\(y7.length<=400000000)/\X2 (IntKind.i64.wrap (x5+(1:Int))) (x6++y7)) (x6=r0)
def yb5 (a0:List (List yaa)) (r0:List yaa) (X1:Int→Int→Prop) (x1 x2:Int):Prop:=
 cnd (decide (x2<(a0.length:Int))) ((0<=x2)/\(x2<(a0.length:Int))/\∃y3:(List yaa),(a0[x2.toNat]? =some y3)/\(y3.length<=maxLen->cnd (decide ((IntKind.i64.wrap (x1+(y3.length:Int)))<(0:Int))) (False) (X1 (IntKind.i64.wrap (x1+(y3.length:Int))) (IntKind.i64.wrap (x2+(1:Int)))))) (∃z4,(ybd x1 z4)/\(a0.length<=maxLen->∀X2:Int->(List yaa)->Prop,(∀x5 x6,yb4 a0 r0 X2 x5 x6->X2 x5 x6)->X2 (0:Int) z4))
def ycj (a0:List (List yaa)) (r0:List yaa):Prop:=
 (a0.length<=maxLen->∀X1:Int->Int->Prop,(∀x1 x2,yb5 a0 r0 X1 x1 x2->X1 x1 x2)->X1 (0:Int) (0:Int))
theorem yfV (a0:List (List yaa)) (r0:List yaa) {X2:Int→(List yaa)→Prop} {x5:Int} {x6:List yaa} (h:yb4 a0 r0 X2 x5 x6):ycl a0 r0 X2 x5 x6:=by
 unfold ycl
 unfold yb4 at h
 exact h
theorem yfS (a0:List (List yaa)) (r0:List yaa) {X1:Int→Int→Prop} {x1 x2:Int} (h:yb5 a0 r0 X1 x1 x2):yci a0 r0 X1 x1 x2:=by
 unfold yci
 unfold yb5 at h
 refine yak h (fun h=> ?_) (fun h=> ?_)
 ·exact h
 ·obtain ⟨z4,h⟩:=h
  refine ⟨z4,?_⟩
  obtain ⟨h0,h⟩:=h
  refine ⟨h0,?_⟩
  intro c
  replace h:=h c
  intro X2 k
  exact h X2 (fun x5 x6 q=>k x5 x6 (yfV a0 r0 q))
theorem ygR (a0:List (List yaa)) (r0:List yaa) (h:ycj a0 r0):yaQ a0 r0:=by
 unfold yaQ
 unfold ycj at h
 intro c
 replace h:=h c
 intro X1 k
 exact h X1 (fun x1 x2 q=>k x1 x2 (yfS a0 r0 q))
def ybG:Sl KK:=⟨20,[],⟨[(0, .sl 26)],[],[]⟩,⟨[(2, .row 1000000)],[],[(1000000,34)]⟩,[],[(2,none)],false,fun _ _ _=>True⟩
def ybJ:Sl KK:=⟨20,[],⟨[(0, .sl 26)],[],[]⟩,⟨[(2, .row 1000000)],[],[(1000000,34)]⟩,[],[(2,none)],false,apFs (K:=KK) (ctT ybG.ti) (ctT ybG.te) [] yaQ⟩
def ygx:An KK:=(.s .o (.s .o (.s (.s .o (.b (.l ⟨[(0, .kp 6),(3, .it .i64),(9, .kp 8),(10, .kp 9),(11, .it .i64)],[],[]⟩ (fun _=>(.s .o (.s (.c .o .o) (.s (.b (.s .o (.s .o (.s .o (.c .o .o))))) .o))))))) (.s .o (.s (.s .o (.b (.l ⟨[(6, .row 1001536),(25, .kp 6),(26, .kp 13),(27, .it .i64)],[],[(1001536,34)]⟩ (fun _=>(.s .o (.s (.c .o .o) (.s (.b (.s .o .o)) .o))))))) (.s .o .o))))))
def ygD:Cf KK:=⟨CC,[],[ybS],36,[],none,false⟩
theorem ygp:SlOk Try.prog CC ybJ:=by
 intro fs env out hl hF hW
 obtain ⟨rfl,h0⟩:=yjw hW
 obtain ⟨a0,ea0,rfl,h1⟩:=ycP h0
 obtain ⟨rfl,h2⟩:=yjL h1
 obtain ⟨r0,er0,rfl,h3⟩:=ygT h2
 obtain ⟨rfl,h4⟩:=yhc h3
 show SlC Try.prog CC ybJ [] [.l 26 a0] [.l 34 r0]
 rw[show SlC Try.prog CC ybJ [] [.l 26 a0] [.l 34 r0]=SlC Try.prog CC ybG [] [.l 26 a0] [.l 34 r0] by kernel_rfl]
 exact ylf (F:=ygD) ybh yaE (yj9 yg6 yaD) t20 (A:=ygx) (sp:=ybG) rfl (by kernel_rfl) (by kernel_rfl) (Nat.le_of_ble_eq_true (by kernel_rfl)) (fs:= []) (env:= [.l 26 a0]) (out:= [.l 34 r0]) (by kernel_rfl) hF (X:=yaQ a0 r0) h4 (by kernel_rfl)
def ybb (x3:Int) (X2 X1:Int→(List yaa)→Prop) (x1:Int) (x5:Bool) (x6:List yaa):Prop:=
 cnd x5 ((0<=(IntKind.i64.wrap (x3-(1:Int))))/\((IntKind.i64.wrap (x3-(1:Int)))<(x6.length:Int))/\∃y7:yaa,(x6[(IntKind.i64.wrap (x3-(1:Int))).toNat]? =some y7)/\(0<=x3)/\(x3<(x6.length:Int))/\∃y8:yaa,(x6[x3.toNat]? =some y8)/\(0<=x3)/\(x3<(x6.length:Int))/\∃y9:yaa,(x6[x3.toNat]? =some y9)/\(0<=(IntKind.i64.wrap (x3-(1:Int))))/\((IntKind.i64.wrap (x3-(1:Int)))<((x6.set x3.toNat (⟨y7.Row,(⟨y7.Part.Rows,y7.Part.L⟩:yae)⟩:yaa)).length:Int))/\∃y10:yaa,((x6.set x3.toNat (⟨y7.Row,(⟨y7.Part.Rows,y7.Part.L⟩:yae)⟩:yaa))[(IntKind.i64.wrap (x3-(1:Int))).toNat]? =some y10)/\X2 (IntKind.i64.wrap (x3-(1:Int))) ((x6.set x3.toNat (⟨y7.Row,(⟨y7.Part.Rows,y7.Part.L⟩:yae)⟩:yaa)).set ((IntKind.i64.wrap (x3-(1:Int))).toNat) (⟨y8.Row,(⟨y8.Part.Rows,y8.Part.L⟩:yae)⟩:yaa))) (X1 (IntKind.i64.wrap (x1+(1:Int))) x6)
def ya7 (X1:Int→(List yaa)→Prop) (x1 a0:Int) (g3:yaa→yaa→Int→Prop) (X2:Int→(List yaa)→Prop) (x3:Int) (x4:List yaa):Prop:=
 ∀J3:Bool->(List yaa)->Prop,(∀x5 x6,ybb x3 X2 X1 x1 x5 x6->J3 x5 x6)->cnd (decide (a0<x3)) ((0<=x3)/\(x3<(x4.length:Int))/\∃y11:yaa,(x4[x3.toNat]? =some y11)/\(0<=(IntKind.i64.wrap (x3-(1:Int))))/\((IntKind.i64.wrap (x3-(1:Int)))<(x4.length:Int))/\∃y12:yaa,(x4[(IntKind.i64.wrap (x3-(1:Int))).toNat]? =some y12)/\∃z13,(g3 (⟨y11.Row,(⟨y11.Part.Rows,y11.Part.L⟩:yae)⟩:yaa) (⟨y12.Row,(⟨y12.Part.Rows,y12.Part.L⟩:yae)⟩:yaa) z13)/\J3 (decide (z13<(0:Int))) x4) (J3 false x4)
def ya8 (a1 a0:Int) (g3:yaa→yaa→Int→Prop) (r0:List yaa) (X1:Int→(List yaa)→Prop) (x1:Int) (x2:List yaa):Prop:=
 cnd (decide (x1<a1)) (∀X2:Int->(List yaa)->Prop,(∀x3 x4,ya7 X1 x1 a0 g3 X2 x3 x4->X2 x3 x4)->X2 x1 x2) (x2=r0)
def yao (g3:yaa→yaa→Int→Prop) (a0 a1:Int) (a2 r0:List yaa):Prop:=
 ∀X1:Int->(List yaa)->Prop,(∀x1 x2,ya8 a1 a0 g3 r0 X1 x1 x2->X1 x1 x2)->X1 (IntKind.i64.wrap (a0+(1:Int))) a2
def yap (X1 X2:Int→(List yaa)→Prop) (x1 x3:Int) (x5:Bool) (x6:List yaa):Prop:=
 cnd x5 ((0<=(IntKind.i64.wrap (x3-(1:Int))))/\((IntKind.i64.wrap (x3-(1:Int)))<(x6.length:Int))/\∃y7:yaa,(x6[(IntKind.i64.wrap (x3-(1:Int))).toNat]? =some y7)/\(0<=x3)/\(x3<(x6.length:Int))/\∃y8:yaa,(x6[x3.toNat]? =some y8)/\(0<=x3)/\(x3<(x6.length:Int))/\∃y9:yaa,(x6[x3.toNat]? =some y9)/\(0<=(IntKind.i64.wrap (x3-(1:Int))))/\((IntKind.i64.wrap (x3-(1:Int)))<((x6.set x3.toNat (⟨y7.Row,(⟨y7.Part.Rows,y7.Part.L⟩:yae)⟩:yaa)).length:Int))/\∃y10:yaa,((x6.set x3.toNat (⟨y7.Row,(⟨y7.Part.Rows,y7.Part.L⟩:yae)⟩:yaa))[(IntKind.i64.wrap (x3-(1:Int))).toNat]? =some y10)/\X2 (IntKind.i64.wrap (x3-(1:Int))) ((x6.set x3.toNat (⟨y7.Row,(⟨y7.Part.Rows,y7.Part.L⟩:yae)⟩:yaa)).set ((IntKind.i64.wrap (x3-(1:Int))).toNat) (⟨y8.Row,(⟨y8.Part.Rows,y8.Part.L⟩:yae)⟩:yaa))) (X1 (IntKind.i64.wrap (x1+(1:Int))) x6)
def yaJ (X1:Int→(List yaa)→Prop) (a0:Int) (g3:yaa→yaa→Int→Prop) (x1:Int) (X2:Int→(List yaa)→Prop) (x3:Int) (x4:List yaa):Prop:=
 cnd (decide (a0<x3)) ((0<=x3)/\(x3<(x4.length:Int))/\∃y11:yaa,(x4[x3.toNat]? =some y11)/\(0<=(IntKind.i64.wrap (x3-(1:Int))))/\((IntKind.i64.wrap (x3-(1:Int)))<(x4.length:Int))/\∃y12:yaa,(x4[(IntKind.i64.wrap (x3-(1:Int))).toNat]? =some y12)/\∃z13,(g3 (⟨y11.Row,(⟨y11.Part.Rows,y11.Part.L⟩:yae)⟩:yaa) (⟨y12.Row,(⟨y12.Part.Rows,y12.Part.L⟩:yae)⟩:yaa) z13)/\yap X1 X2 x1 x3 (decide (z13<(0:Int))) x4) (yap X1 X2 x1 x3 false x4)
def yaI (a0 a1:Int) (g3:yaa→yaa→Int→Prop) (r0:List yaa) (X1:Int→(List yaa)→Prop) (x1:Int) (x2:List yaa):Prop:=
 cnd (decide (x1<a1)) (∀X2:Int->(List yaa)->Prop,(∀x3 x4,yaJ X1 a0 g3 x1 X2 x3 x4->X2 x3 x4)->X2 x1 x2) (x2=r0)
def yba (g3:yaa→yaa→Int→Prop) (a0 a1:Int) (a2 r0:List yaa):Prop:=
 ∀X1:Int->(List yaa)->Prop,(∀x1 x2,yaI a0 a1 g3 r0 X1 x1 x2->X1 x1 x2)->X1 (IntKind.i64.wrap (a0+(1:Int))) a2
theorem ycK (X1 X2:Int→(List yaa)→Prop) (x1 x3:Int) {x5:Bool} {x6:List yaa} (h:yap X1 X2 x1 x3 x5 x6):ybb x3 X2 X1 x1 x5 x6:=by
 unfold ybb
 unfold yap at h
 exact h
theorem ycM (X1:Int→(List yaa)→Prop) (a0:Int) (g3:yaa→yaa→Int→Prop) (x1:Int) {X2:Int→(List yaa)→Prop} {x3:Int} {x4:List yaa} (h:yaJ X1 a0 g3 x1 X2 x3 x4):ya7 X1 x1 a0 g3 X2 x3 x4:=by
 unfold ya7
 unfold yaJ at h
 intro J3 kJ3
 have hJ3:∀x5 x6,yap X1 X2 x1 x3 x5 x6->J3 x5 x6:=fun x5 x6 q=>kJ3 x5 x6 (ycK X1 X2 x1 x3 q)
 refine yak h (fun h=> ?_) (fun h=> ?_)
 ·obtain ⟨h0,h⟩:=h
  refine ⟨h0,?_⟩
  obtain ⟨h0,h⟩:=h
  refine ⟨h0,?_⟩
  obtain ⟨y11,h⟩:=h
  refine ⟨y11,?_⟩
  obtain ⟨h0,h⟩:=h
  refine ⟨h0,?_⟩
  obtain ⟨h0,h⟩:=h
  refine ⟨h0,?_⟩
  obtain ⟨h0,h⟩:=h
  refine ⟨h0,?_⟩
  obtain ⟨y12,h⟩:=h
  refine ⟨y12,?_⟩
  obtain ⟨h0,h⟩:=h
  refine ⟨h0,?_⟩
  obtain ⟨z13,h⟩:=h
  refine ⟨z13,?_⟩
  obtain ⟨h0,h⟩:=h
  refine ⟨h0,?_⟩
  exact hJ3 _ _ h
 ·exact hJ3 _ _ h
theorem ycN (a0 a1:Int) (g3:yaa→yaa→Int→Prop) (r0:List yaa) {X1:Int→(List yaa)→Prop} {x1:Int} {x2:List yaa} (h:yaI a0 a1 g3 r0 X1 x1 x2):ya8 a1 a0 g3 r0 X1 x1 x2:=by
 unfold ya8
 unfold yaI at h
 refine yak h (fun h=> ?_) (fun h=> ?_)
 ·intro X2 k
  exact h X2 (fun x3 x4 q=>k x3 x4 (ycM X1 a0 g3 x1 q))
 ·exact h
theorem yc3 (g3:yaa→yaa→Int→Prop) (a0 a1:Int) (a2 r0:List yaa) (h:yba g3 a0 a1 a2 r0):yao g3 a0 a1 a2 r0:=by
 unfold yao
 unfold yba at h
 intro X1 k
 exact h X1 (fun x1 x2 q=>k x1 x2 (ycN a0 a1 g3 r0 q))
def yaN:Sl KK:=⟨57,[(3,[34,34],[3])],⟨[(0, .row 2000000),(1, .it .i64),(2, .it .i64)],[],[(2000000,34)]⟩,⟨[],[],[(2000000,34)]⟩,[],[],true,fun _ _ _=>True⟩
def yaM:Sl KK:=⟨57,[(3,[34,34],[3])],⟨[(0, .row 2000000),(1, .it .i64),(2, .it .i64)],[],[(2000000,34)]⟩,⟨[],[],[(2000000,34)]⟩,[],[],true,apFs (K:=KK) (ctT yaN.ti) (ctT yaN.te) [(3,[34,34],[3])] yao⟩
def ycX:An KK:=(.s .o (.b (.l ⟨[(0, .row 2000000),(1, .kp 1),(2, .kp 2),(3, .kp 3),(8, .it .i64)],[],[(2000000,34)]⟩ (fun _=>(.s (.s .o (.c .o .o)) (.s (.b (.s .o (.b (.l ⟨[(0, .row 2000000),(1, .kp 1),(2, .kp 2),(3, .kp 3),(8, .kp 31),(9, .it .i64)],[],[(2000000,34)]⟩ (fun _=>(.s (.j ⟨[(0, .row 2000000),(1, .kp 1),(2, .kp 2),(3, .kp 3),(8, .kp 31),(9, .kp 36),(34, .bl)],[],[(2000000,34)]⟩ .o (fun _=>(.c .o .o))) (.s (.b .o) .o))))))) .o))))))
def ycZ:Cf KK:=⟨CC,[],[],53,[],none,false⟩
theorem yc2:SlOk Try.prog CC yaM:=by
 intro fs env out hl hF hW
 obtain ⟨F3,fs3,rfl,h0⟩:=ym9 hW
 obtain ⟨rfl,h1⟩:=yjw h0
 obtain ⟨a0,ea0,rfl,h2⟩:=ycP h1
 obtain ⟨a1,ea1,rfl,h3⟩:=ycP h2
 obtain ⟨a2,ea2,rfl,h4⟩:=ycP h3
 obtain ⟨rfl,h5⟩:=yjL h4
 obtain ⟨r0,er0,rfl,h6⟩:=ygT h5
 obtain ⟨rfl,h7⟩:=yhc h6
 show SlC Try.prog CC yaM [F3] [.i a0, .i a1, .l 34 a2] [.l 34 r0]
 rw[show SlC Try.prog CC yaM [F3] [.i a0, .i a1, .l 34 a2] [.l 34 r0]=SlC Try.prog CC yaN [F3] [.i a0, .i a1, .l 34 a2] [.l 34 r0] by kernel_rfl]
 exact ylf (F:=ycZ) ybh yaE yaD t57 (A:=ycX) (sp:=yaN) rfl (by kernel_rfl) (by kernel_rfl) (Nat.le_of_ble_eq_true (by kernel_rfl)) (fs:= [F3]) (env:= [.i a0, .i a1, .l 34 a2]) (out:= [.l 34 r0]) (by kernel_rfl) hF (X:=yao (curF [3] [34,34] F3.W) a0 a1 a2 r0) h7 (by kernel_rfl)
def ybW (a2 a1 a0:Int) (r0:List yaa) (X1:Int→(List yaa)→Prop) (x1:Int) (x2:List yaa):Prop:=
 cnd (decide (x1<a2)) ((0<=(IntKind.i64.wrap (a1+x1)))/\((IntKind.i64.wrap (a1+x1))<(x2.length:Int))/\∃y3:yaa,(x2[(IntKind.i64.wrap (a1+x1)).toNat]? =some y3)/\(0<=(IntKind.i64.wrap (a0+x1)))/\((IntKind.i64.wrap (a0+x1))<(x2.length:Int))/\∃y4:yaa,(x2[(IntKind.i64.wrap (a0+x1)).toNat]? =some y4)/\(0<=(IntKind.i64.wrap (a0+x1)))/\((IntKind.i64.wrap (a0+x1))<(x2.length:Int))/\∃y5:yaa,(x2[(IntKind.i64.wrap (a0+x1)).toNat]? =some y5)/\(0<=(IntKind.i64.wrap (a1+x1)))/\((IntKind.i64.wrap (a1+x1))<((x2.set ((IntKind.i64.wrap (a0+x1)).toNat) (⟨y3.Row,(⟨y3.Part.Rows,y3.Part.L⟩:yae)⟩:yaa)).length:Int))/\∃y6:yaa,((x2.set ((IntKind.i64.wrap (a0+x1)).toNat) (⟨y3.Row,(⟨y3.Part.Rows,y3.Part.L⟩:yae)⟩:yaa))[(IntKind.i64.wrap (a1+x1)).toNat]? =some y6)/\X1 (IntKind.i64.wrap (x1+(1:Int))) ((x2.set ((IntKind.i64.wrap (a0+x1)).toNat) (⟨y3.Row,(⟨y3.Part.Rows,y3.Part.L⟩:yae)⟩:yaa)).set ((IntKind.i64.wrap (a1+x1)).toNat) (⟨y4.Row,(⟨y4.Part.Rows,y4.Part.L⟩:yae)⟩:yaa))) (x2=r0)
def yat (g4:yaa→yaa→Int→Prop) (a0 a1 a2:Int) (a3 r0:List yaa):Prop:=
 ∀X1:Int->(List yaa)->Prop,(∀x1 x2,ybW a2 a1 a0 r0 X1 x1 x2->X1 x1 x2)->X1 (0:Int) a3
def yaV:Sl KK:=⟨71,[(4,[34,34],[3])],⟨[(0, .row 2000000),(1, .it .i64),(2, .it .i64),(3, .it .i64)],[],[(2000000,34)]⟩,⟨[],[],[(2000000,34)]⟩,[],[],true,fun _ _ _=>True⟩
def yaT:Sl KK:=⟨71,[(4,[34,34],[3])],⟨[(0, .row 2000000),(1, .it .i64),(2, .it .i64),(3, .it .i64)],[],[(2000000,34)]⟩,⟨[],[],[(2000000,34)]⟩,[],[],true,apFs (K:=KK) (ctT yaV.ti) (ctT yaV.te) [(4,[34,34],[3])] yat⟩
def ydJ:An KK:=(.s .o (.b (.l ⟨[(0, .row 2000000),(1, .kp 1),(2, .kp 2),(3, .kp 3),(10, .it .i64)],[],[(2000000,34)]⟩ (fun _=>(.s (.s .o (.c .o .o)) (.s (.b .o) .o))))))
def ydL:Cf KK:=⟨CC,[],[],38,[],none,false⟩
theorem ydG:SlOk Try.prog CC yaT:=by
 intro fs env out hl hF hW
 obtain ⟨F4,fs4,rfl,h0⟩:=ym9 hW
 obtain ⟨rfl,h1⟩:=yjw h0
 obtain ⟨a0,ea0,rfl,h2⟩:=ycP h1
 obtain ⟨a1,ea1,rfl,h3⟩:=ycP h2
 obtain ⟨a2,ea2,rfl,h4⟩:=ycP h3
 obtain ⟨a3,ea3,rfl,h5⟩:=ycP h4
 obtain ⟨rfl,h6⟩:=yjL h5
 obtain ⟨r0,er0,rfl,h7⟩:=ygT h6
 obtain ⟨rfl,h8⟩:=yhc h7
 show SlC Try.prog CC yaT [F4] [.i a0, .i a1, .i a2, .l 34 a3] [.l 34 r0]
 rw[show SlC Try.prog CC yaT [F4] [.i a0, .i a1, .i a2, .l 34 a3] [.l 34 r0]=SlC Try.prog CC yaV [F4] [.i a0, .i a1, .i a2, .l 34 a3] [.l 34 r0] by kernel_rfl]
 exact ylf (F:=ydL) ybh yaE yaD t71 (A:=ydJ) (sp:=yaV) rfl (by kernel_rfl) (by kernel_rfl) (Nat.le_of_ble_eq_true (by kernel_rfl)) (fs:= [F4]) (env:= [.i a0, .i a1, .i a2, .l 34 a3]) (out:= [.l 34 r0]) (by kernel_rfl) hF (X:=yat (curF [3] [34,34] F4.W) a0 a1 a2 a3 r0) h8 (by kernel_rfl)
def ycr (g4:yaa→yaa→Int→Prop) (a1:Int) (r0:List yaa) (X1:Int→Int→(List yaa)→Prop) (x1 x2:Int) (x3:List yaa):Prop:=
 cnd (!(x1==x2)) (cnd (decide (x2<x1)) (∃z4,(yat g4 (IntKind.i64.wrap (a1-x1)) a1 x2 x3 z4)/\(z4.length=x3.length)/\X1 (IntKind.i64.wrap (x1-x2)) x2 z4) (∃z5,(yat g4 (IntKind.i64.wrap (a1-x1)) (IntKind.i64.wrap ((IntKind.i64.wrap (a1+x2))-x1)) x1 x3 z5)/\(z5.length=x3.length)/\X1 x1 (IntKind.i64.wrap (x2-x1)) z5)) (∃z6,(yat g4 (IntKind.i64.wrap (a1-x1)) a1 x1 x3 z6)/\(z6.length=x3.length)/\z6=r0)
def yaC (g4:yaa→yaa→Int→Prop) (a0 a1 a2:Int) (a3 r0:List yaa):Prop:=
 ∀X1:Int->Int->(List yaa)->Prop,(∀x1 x2 x3,ycr g4 a1 r0 X1 x1 x2 x3->X1 x1 x2 x3)->X1 (IntKind.i64.wrap (a1-a0)) (IntKind.i64.wrap (a2-a1)) a3
def ya4:Sl KK:=⟨70,[(4,[34,34],[3])],⟨[(0, .row 2000000),(1, .it .i64),(2, .it .i64),(3, .it .i64)],[],[(2000000,34)]⟩,⟨[],[],[(2000000,34)]⟩,[],[],true,fun _ _ _=>True⟩
def ya2:Sl KK:=⟨70,[(4,[34,34],[3])],⟨[(0, .row 2000000),(1, .it .i64),(2, .it .i64),(3, .it .i64)],[],[(2000000,34)]⟩,⟨[],[],[(2000000,34)]⟩,[],[],true,apFs (K:=KK) (ctT ya4.ti) (ctT ya4.te) [(4,[34,34],[3])] yaC⟩
def yet:An KK:=(.s .o (.s .o (.s (.b (.l ⟨[(0, .row 2000000),(2, .kp 5),(4, .kp 6),(10, .it .i64),(11, .it .i64)],[],[(2000000,34)]⟩ (fun _=>(.s (.s .o (.c .o .o)) (.b (.s .o (.c (.s .o .o) (.s .o .o)))))))) .o)))
def yeq:Cf KK:=⟨CC,[],[yaT],58,[],none,false⟩
theorem yes:SlOk Try.prog CC ya2:=by
 intro fs env out hl hF hW
 obtain ⟨F4,fs4,rfl,h0⟩:=ym9 hW
 obtain ⟨rfl,h1⟩:=yjw h0
 obtain ⟨a0,ea0,rfl,h2⟩:=ycP h1
 obtain ⟨a1,ea1,rfl,h3⟩:=ycP h2
 obtain ⟨a2,ea2,rfl,h4⟩:=ycP h3
 obtain ⟨a3,ea3,rfl,h5⟩:=ycP h4
 obtain ⟨rfl,h6⟩:=yjL h5
 obtain ⟨r0,er0,rfl,h7⟩:=ygT h6
 obtain ⟨rfl,h8⟩:=yhc h7
 show SlC Try.prog CC ya2 [F4] [.i a0, .i a1, .i a2, .l 34 a3] [.l 34 r0]
 rw[show SlC Try.prog CC ya2 [F4] [.i a0, .i a1, .i a2, .l 34 a3] [.l 34 r0]=SlC Try.prog CC ya4 [F4] [.i a0, .i a1, .i a2, .l 34 a3] [.l 34 r0] by kernel_rfl]
 exact ylf (F:=yeq) ybh yaE (yj9 ydG yaD) t70 (A:=yet) (sp:=ya4) rfl (by kernel_rfl) (by kernel_rfl) (Nat.le_of_ble_eq_true (by kernel_rfl)) (fs:= [F4]) (env:= [.i a0, .i a1, .i a2, .l 34 a3]) (out:= [.l 34 r0]) (by kernel_rfl) hF (X:=yaC (curF [3] [34,34] F4.W) a0 a1 a2 a3 r0) h8 (by kernel_rfl)
def ybv (x1:Int) (r0:List yaa) (X2:Int→(List yaa)→Prop) (x7:Int) (x8:List yaa):Prop:=
 cnd (decide (x7<(IntKind.i64.wrap (x1-(1:Int))))) ((0<=(IntKind.i64.wrap (x7+(1:Int))))/\((IntKind.i64.wrap (x7+(1:Int)))<(x8.length:Int))/\∃y9:yaa,(x8[(IntKind.i64.wrap (x7+(1:Int))).toNat]? =some y9)/\(0<=x7)/\(x7<(x8.length:Int))/\∃y10:yaa,(x8[x7.toNat]? =some y10)/\(0<=x7)/\(x7<(x8.length:Int))/\∃y11:yaa,(x8[x7.toNat]? =some y11)/\(0<=(IntKind.i64.wrap (x7+(1:Int))))/\((IntKind.i64.wrap (x7+(1:Int)))<((x8.set x7.toNat (⟨y9.Row,(⟨y9.Part.Rows,y9.Part.L⟩:yae)⟩:yaa)).length:Int))/\∃y12:yaa,((x8.set x7.toNat (⟨y9.Row,(⟨y9.Part.Rows,y9.Part.L⟩:yae)⟩:yaa))[(IntKind.i64.wrap (x7+(1:Int))).toNat]? =some y12)/\X2 (IntKind.i64.wrap (x7+(1:Int))) ((x8.set x7.toNat (⟨y9.Row,(⟨y9.Part.Rows,y9.Part.L⟩:yae)⟩:yaa)).set ((IntKind.i64.wrap (x7+(1:Int))).toNat) (⟨y10.Row,(⟨y10.Part.Rows,y10.Part.L⟩:yae)⟩:yaa))) (x8=r0)
def ybq (a0:Int) (g4:yaa→yaa→Int→Prop) (r0:List yaa) (X1:Int→Int→(List yaa)→Prop) (x1 x2:Int) (x3:List yaa):Prop:=
 cnd (decide (x1<x2)) ((0<=(IntKind.i64.wrap ((IntKind.u64.wrap (IntKind.i64.wrap (x1+x2))).fdiv (2^(min (1:Int).toNat IntKind.u64.bits)))))/\((IntKind.i64.wrap ((IntKind.u64.wrap (IntKind.i64.wrap (x1+x2))).fdiv (2^(min (1:Int).toNat IntKind.u64.bits))))<(x3.length:Int))/\∃y4:yaa,(x3[(IntKind.i64.wrap ((IntKind.u64.wrap (IntKind.i64.wrap (x1+x2))).fdiv (2^(min (1:Int).toNat IntKind.u64.bits)))).toNat]? =some y4)/\(0<=a0)/\(a0<(x3.length:Int))/\∃y5:yaa,(x3[a0.toNat]? =some y5)/\∃z6,(g4 (⟨y4.Row,(⟨y4.Part.Rows,y4.Part.L⟩:yae)⟩:yaa) (⟨y5.Row,(⟨y5.Part.Rows,y5.Part.L⟩:yae)⟩:yaa) z6)/\cnd (decide (z6<(0:Int))) (X1 (IntKind.i64.wrap ((IntKind.i64.wrap ((IntKind.u64.wrap (IntKind.i64.wrap (x1+x2))).fdiv (2^(min (1:Int).toNat IntKind.u64.bits))))+(1:Int))) x2 x3) (X1 x1 (IntKind.i64.wrap ((IntKind.u64.wrap (IntKind.i64.wrap (x1+x2))).fdiv (2^(min (1:Int).toNat IntKind.u64.bits)))) x3)) (∀X2:Int->(List yaa)->Prop,(∀x7 x8,ybv x1 r0 X2 x7 x8->X2 x7 x8)->X2 a0 x3)
def ybu (x13:Int) (r0:List yaa) (X4:Int→(List yaa)→Prop) (x19:Int) (x20:List yaa):Prop:=
 cnd (decide (x13<x19)) ((0<=(IntKind.i64.wrap (x19-(1:Int))))/\((IntKind.i64.wrap (x19-(1:Int)))<(x20.length:Int))/\∃y21:yaa,(x20[(IntKind.i64.wrap (x19-(1:Int))).toNat]? =some y21)/\(0<=x19)/\(x19<(x20.length:Int))/\∃y22:yaa,(x20[x19.toNat]? =some y22)/\(0<=x19)/\(x19<(x20.length:Int))/\∃y23:yaa,(x20[x19.toNat]? =some y23)/\(0<=(IntKind.i64.wrap (x19-(1:Int))))/\((IntKind.i64.wrap (x19-(1:Int)))<((x20.set x19.toNat (⟨y21.Row,(⟨y21.Part.Rows,y21.Part.L⟩:yae)⟩:yaa)).length:Int))/\∃y24:yaa,((x20.set x19.toNat (⟨y21.Row,(⟨y21.Part.Rows,y21.Part.L⟩:yae)⟩:yaa))[(IntKind.i64.wrap (x19-(1:Int))).toNat]? =some y24)/\X4 (IntKind.i64.wrap (x19-(1:Int))) ((x20.set x19.toNat (⟨y21.Row,(⟨y21.Part.Rows,y21.Part.L⟩:yae)⟩:yaa)).set ((IntKind.i64.wrap (x19-(1:Int))).toNat) (⟨y22.Row,(⟨y22.Part.Rows,y22.Part.L⟩:yae)⟩:yaa))) (x20=r0)
def ybs (a1:Int) (g4:yaa→yaa→Int→Prop) (r0:List yaa) (X3:Int→Int→(List yaa)→Prop) (x13 x14:Int) (x15:List yaa):Prop:=
 cnd (decide (x13<x14)) ((0<=a1)/\(a1<(x15.length:Int))/\∃y16:yaa,(x15[a1.toNat]? =some y16)/\(0<=(IntKind.i64.wrap ((IntKind.u64.wrap (IntKind.i64.wrap (x13+x14))).fdiv (2^(min (1:Int).toNat IntKind.u64.bits)))))/\((IntKind.i64.wrap ((IntKind.u64.wrap (IntKind.i64.wrap (x13+x14))).fdiv (2^(min (1:Int).toNat IntKind.u64.bits))))<(x15.length:Int))/\∃y17:yaa,(x15[(IntKind.i64.wrap ((IntKind.u64.wrap (IntKind.i64.wrap (x13+x14))).fdiv (2^(min (1:Int).toNat IntKind.u64.bits)))).toNat]? =some y17)/\∃z18,(g4 (⟨y16.Row,(⟨y16.Part.Rows,y16.Part.L⟩:yae)⟩:yaa) (⟨y17.Row,(⟨y17.Part.Rows,y17.Part.L⟩:yae)⟩:yaa) z18)/\cnd (!(decide (z18<(0:Int)))) (X3 (IntKind.i64.wrap ((IntKind.i64.wrap ((IntKind.u64.wrap (IntKind.i64.wrap (x13+x14))).fdiv (2^(min (1:Int).toNat IntKind.u64.bits))))+(1:Int))) x14 x15) (X3 x13 (IntKind.i64.wrap ((IntKind.u64.wrap (IntKind.i64.wrap (x13+x14))).fdiv (2^(min (1:Int).toNat IntKind.u64.bits)))) x15)) (∀X4:Int->(List yaa)->Prop,(∀x19 x20,ybu x13 r0 X4 x19 x20->X4 x19 x20)->X4 a1 x15)
def ybp (Xr:(yaa→yaa→Int→Prop)→Int→Int→Int→(List yaa)→(List yaa)→Prop) (g4:yaa→yaa→Int→Prop) (a0 a2 x37:Int) (r0:List yaa) (x39:Bool) (x40:List yaa):Prop:=
 cnd x39 (∃z41,(Xr g4 (IntKind.i64.wrap ((IntKind.u64.wrap (IntKind.i64.wrap (a0+a2))).fdiv (2^(min (1:Int).toNat IntKind.u64.bits)))) x37 a2 x40 z41)/\(z41.length=x40.length)/\z41=r0) (x40=r0)
def ybr (Xr:(yaa→yaa→Int→Prop)→Int→Int→Int→(List yaa)→(List yaa)→Prop) (g4:yaa→yaa→Int→Prop) (a0 a2:Int) (r0:List yaa) (x37:Int) (x38:List yaa):Prop:=
 ∀J9:Bool->(List yaa)->Prop,(∀x39 x40,ybp Xr g4 a0 a2 x37 r0 x39 x40->J9 x39 x40)->cnd (decide ((IntKind.i64.wrap ((IntKind.u64.wrap (IntKind.i64.wrap (a0+a2))).fdiv (2^(min (1:Int).toNat IntKind.u64.bits))))<x37)) (J9 (decide (x37<a2)) x38) (J9 false x38)
def ybk (Xr:(yaa→yaa→Int→Prop)→Int→Int→Int→(List yaa)→(List yaa)→Prop) (g4:yaa→yaa→Int→Prop) (a0 x34 a2:Int) (J8:Int→(List yaa)→Prop) (x35:Int) (x42:Bool) (x43:List yaa):Prop:=
 cnd x42 (∃z44,(Xr g4 a0 x34 (IntKind.i64.wrap ((IntKind.u64.wrap (IntKind.i64.wrap (a0+a2))).fdiv (2^(min (1:Int).toNat IntKind.u64.bits)))) x43 z44)/\(z44.length=x43.length)/\J8 x35 z44) (J8 x35 x43)
def ybo (Xr:(yaa→yaa→Int→Prop)→Int→Int→Int→(List yaa)→(List yaa)→Prop) (g4:yaa→yaa→Int→Prop) (a0 a2:Int) (r0:List yaa) (x34 x35:Int) (x36:List yaa):Prop:=
 ∀J8:Int->(List yaa)->Prop,(∀x37 x38,ybr Xr g4 a0 a2 r0 x37 x38->J8 x37 x38)->∀J10:Bool->(List yaa)->Prop,(∀x42 x43,ybk Xr g4 a0 x34 a2 J8 x35 x42 x43->J10 x42 x43)->cnd (decide (a0<x34)) (J10 (decide (x34<(IntKind.i64.wrap ((IntKind.u64.wrap (IntKind.i64.wrap (a0+a2))).fdiv (2^(min (1:Int).toNat IntKind.u64.bits)))))) x36) (J10 false x36)
def ybl (g4:yaa→yaa→Int→Prop) (x28 a1 a0 a2:Int) (J7:Int→Int→(List yaa)→Prop) (x45:Bool) (x46:List yaa):Prop:=
 cnd x45 (∃z47,(yaC g4 x28 a1 (IntKind.i64.wrap ((IntKind.i64.wrap ((IntKind.i64.wrap ((IntKind.u64.wrap (IntKind.i64.wrap (a0+a2))).fdiv (2^(min (1:Int).toNat IntKind.u64.bits))))+a1))-x28)) x46 z47)/\(z47.length=x46.length)/\J7 x28 (IntKind.i64.wrap ((IntKind.i64.wrap ((IntKind.i64.wrap ((IntKind.u64.wrap (IntKind.i64.wrap (a0+a2))).fdiv (2^(min (1:Int).toNat IntKind.u64.bits))))+a1))-x28)) z47) (J7 x28 (IntKind.i64.wrap ((IntKind.i64.wrap ((IntKind.i64.wrap ((IntKind.u64.wrap (IntKind.i64.wrap (a0+a2))).fdiv (2^(min (1:Int).toNat IntKind.u64.bits))))+a1))-x28)) x46)
def ybt (a0 a2 a1:Int) (g4:yaa→yaa→Int→Prop) (Xr:(yaa→yaa→Int→Prop)→Int→Int→Int→(List yaa)→(List yaa)→Prop) (r0:List yaa) (X6:Int→Int→(List yaa)→Prop) (x28 x29:Int) (x30:List yaa):Prop:=
 cnd (decide (x28<x29)) ((0<=(IntKind.i64.wrap ((IntKind.i64.wrap ((IntKind.i64.wrap ((IntKind.i64.wrap ((IntKind.u64.wrap (IntKind.i64.wrap (a0+a2))).fdiv (2^(min (1:Int).toNat IntKind.u64.bits))))+a1))-(1:Int)))-(IntKind.i64.wrap ((IntKind.u64.wrap (IntKind.i64.wrap (x28+x29))).fdiv (2^(min (1:Int).toNat IntKind.u64.bits)))))))/\((IntKind.i64.wrap ((IntKind.i64.wrap ((IntKind.i64.wrap ((IntKind.i64.wrap ((IntKind.u64.wrap (IntKind.i64.wrap (a0+a2))).fdiv (2^(min (1:Int).toNat IntKind.u64.bits))))+a1))-(1:Int)))-(IntKind.i64.wrap ((IntKind.u64.wrap (IntKind.i64.wrap (x28+x29))).fdiv (2^(min (1:Int).toNat IntKind.u64.bits))))))<(x30.length:Int))/\∃y31:yaa,(x30[(IntKind.i64.wrap ((IntKind.i64.wrap ((IntKind.i64.wrap ((IntKind.i64.wrap ((IntKind.u64.wrap (IntKind.i64.wrap (a0+a2))).fdiv (2^(min (1:Int).toNat IntKind.u64.bits))))+a1))-(1:Int)))-(IntKind.i64.wrap ((IntKind.u64.wrap (IntKind.i64.wrap (x28+x29))).fdiv (2^(min (1:Int).toNat IntKind.u64.bits)))))).toNat]? =some y31)/\(0<=(IntKind.i64.wrap ((IntKind.u64.wrap (IntKind.i64.wrap (x28+x29))).fdiv (2^(min (1:Int).toNat IntKind.u64.bits)))))/\((IntKind.i64.wrap ((IntKind.u64.wrap (IntKind.i64.wrap (x28+x29))).fdiv (2^(min (1:Int).toNat IntKind.u64.bits))))<(x30.length:Int))/\∃y32:yaa,(x30[(IntKind.i64.wrap ((IntKind.u64.wrap (IntKind.i64.wrap (x28+x29))).fdiv (2^(min (1:Int).toNat IntKind.u64.bits)))).toNat]? =some y32)/\∃z33,(g4 (⟨y31.Row,(⟨y31.Part.Rows,y31.Part.L⟩:yae)⟩:yaa) (⟨y32.Row,(⟨y32.Part.Rows,y32.Part.L⟩:yae)⟩:yaa) z33)/\cnd (!(decide (z33<(0:Int)))) (X6 (IntKind.i64.wrap ((IntKind.i64.wrap ((IntKind.u64.wrap (IntKind.i64.wrap (x28+x29))).fdiv (2^(min (1:Int).toNat IntKind.u64.bits))))+(1:Int))) x29 x30) (X6 x28 (IntKind.i64.wrap ((IntKind.u64.wrap (IntKind.i64.wrap (x28+x29))).fdiv (2^(min (1:Int).toNat IntKind.u64.bits)))) x30)) (∀J7:Int->Int->(List yaa)->Prop,(∀x34 x35 x36,ybo Xr g4 a0 a2 r0 x34 x35 x36->J7 x34 x35 x36)->∀J11:Bool->(List yaa)->Prop,(∀x45 x46,ybl g4 x28 a1 a0 a2 J7 x45 x46->J11 x45 x46)->cnd (decide (x28<a1)) (J11 (decide (a1<(IntKind.i64.wrap ((IntKind.i64.wrap ((IntKind.i64.wrap ((IntKind.u64.wrap (IntKind.i64.wrap (a0+a2))).fdiv (2^(min (1:Int).toNat IntKind.u64.bits))))+a1))-x28)))) x30) (J11 false x30))
def ybn (a0 a2 a1:Int) (g4:yaa→yaa→Int→Prop) (Xr:(yaa→yaa→Int→Prop)→Int→Int→Int→(List yaa)→(List yaa)→Prop) (r0:List yaa) (x25 x26:Int) (x27:List yaa):Prop:=
 ∀X6:Int->Int->(List yaa)->Prop,(∀x28 x29 x30,ybt a0 a2 a1 g4 Xr r0 X6 x28 x29 x30->X6 x28 x29 x30)->X6 x25 x26 x27
def yaK (Xr:(yaa→yaa→Int→Prop)→Int→Int→Int→(List yaa)→(List yaa)→Prop) (g4:yaa→yaa→Int→Prop) (a0 a1 a2:Int) (a3 r0:List yaa):Prop:=
 cnd ((IntKind.i64.wrap (a1-a0))==(1:Int)) (∀X1:Int->Int->(List yaa)->Prop,(∀x1 x2 x3,ybq a0 g4 r0 X1 x1 x2 x3->X1 x1 x2 x3)->X1 a1 a2 a3) (cnd ((IntKind.i64.wrap (a2-a1))==(1:Int)) (∀X3:Int->Int->(List yaa)->Prop,(∀x13 x14 x15,ybs a1 g4 r0 X3 x13 x14 x15->X3 x13 x14 x15)->X3 a0 a1 a3) (∀J5:Int->Int->(List yaa)->Prop,(∀x25 x26 x27,ybn a0 a2 a1 g4 Xr r0 x25 x26 x27->J5 x25 x26 x27)->cnd (decide ((IntKind.i64.wrap ((IntKind.u64.wrap (IntKind.i64.wrap (a0+a2))).fdiv (2^(min (1:Int).toNat IntKind.u64.bits))))<a1)) (J5 (IntKind.i64.wrap ((IntKind.i64.wrap ((IntKind.i64.wrap ((IntKind.u64.wrap (IntKind.i64.wrap (a0+a2))).fdiv (2^(min (1:Int).toNat IntKind.u64.bits))))+a1))-a2)) (IntKind.i64.wrap ((IntKind.u64.wrap (IntKind.i64.wrap (a0+a2))).fdiv (2^(min (1:Int).toNat IntKind.u64.bits)))) a3) (J5 a0 a1 a3)))
def yaL (g4:yaa->yaa->Int->Prop) (a0 a1 a2:Int) (a3 r0:List yaa):Prop:=∀Xr:(yaa->yaa->Int->Prop)->Int->Int->Int->(List yaa)->(List yaa)->Prop,(∀(g4:yaa->yaa->Int->Prop) (a0:Int) (a1:Int) (a2:Int) (a3:(List yaa)) (r0:(List yaa)),yaK Xr g4 a0 a1 a2 a3 r0->Xr g4 a0 a1 a2 a3 r0)->Xr g4 a0 a1 a2 a3 r0
def yaX (r0:List yaa) (x1:Int) (X2:Int→(List yaa)→Prop) (x7:Int) (x8:List yaa):Prop:=
 cnd (decide (x7<(IntKind.i64.wrap (x1-(1:Int))))) ((0<=(IntKind.i64.wrap (x7+(1:Int))))/\((IntKind.i64.wrap (x7+(1:Int)))<(x8.length:Int))/\∃y9:yaa,(x8[(IntKind.i64.wrap (x7+(1:Int))).toNat]? =some y9)/\(0<=x7)/\(x7<(x8.length:Int))/\∃y10:yaa,(x8[x7.toNat]? =some y10)/\(0<=x7)/\(x7<(x8.length:Int))/\∃y11:yaa,(x8[x7.toNat]? =some y11)/\(0<=(IntKind.i64.wrap (x7+(1:Int))))/\((IntKind.i64.wrap (x7+(1:Int)))<((x8.set x7.toNat (⟨y9.Row,(⟨y9.Part.Rows,y9.Part.L⟩:yae)⟩:yaa)).length:Int))/\∃y12:yaa,((x8.set x7.toNat (⟨y9.Row,(⟨y9.Part.Rows,y9.Part.L⟩:yae)⟩:yaa))[(IntKind.i64.wrap (x7+(1:Int))).toNat]? =some y12)/\X2 (IntKind.i64.wrap (x7+(1:Int))) ((x8.set x7.toNat (⟨y9.Row,(⟨y9.Part.Rows,y9.Part.L⟩:yae)⟩:yaa)).set ((IntKind.i64.wrap (x7+(1:Int))).toNat) (⟨y10.Row,(⟨y10.Part.Rows,y10.Part.L⟩:yae)⟩:yaa))) (x8=r0)
def yaG (a0:Int) (g4:yaa→yaa→Int→Prop) (r0:List yaa) (X1:Int→Int→(List yaa)→Prop) (x1 x2:Int) (x3:List yaa):Prop:=
 cnd (decide (x1<x2)) ((0<=(IntKind.i64.wrap ((IntKind.u64.wrap (IntKind.i64.wrap (x1+x2))).fdiv (2^(min (1:Int).toNat IntKind.u64.bits)))))/\((IntKind.i64.wrap ((IntKind.u64.wrap (IntKind.i64.wrap (x1+x2))).fdiv (2^(min (1:Int).toNat IntKind.u64.bits))))<(x3.length:Int))/\∃y4:yaa,(x3[(IntKind.i64.wrap ((IntKind.u64.wrap (IntKind.i64.wrap (x1+x2))).fdiv (2^(min (1:Int).toNat IntKind.u64.bits)))).toNat]? =some y4)/\(0<=a0)/\(a0<(x3.length:Int))/\∃y5:yaa,(x3[a0.toNat]? =some y5)/\∃z6,(g4 (⟨y4.Row,(⟨y4.Part.Rows,y4.Part.L⟩:yae)⟩:yaa) (⟨y5.Row,(⟨y5.Part.Rows,y5.Part.L⟩:yae)⟩:yaa) z6)/\cnd (decide (z6<(0:Int))) (X1 (IntKind.i64.wrap ((IntKind.i64.wrap ((IntKind.u64.wrap (IntKind.i64.wrap (x1+x2))).fdiv (2^(min (1:Int).toNat IntKind.u64.bits))))+(1:Int))) x2 x3) (X1 x1 (IntKind.i64.wrap ((IntKind.u64.wrap (IntKind.i64.wrap (x1+x2))).fdiv (2^(min (1:Int).toNat IntKind.u64.bits)))) x3)) (∀X2:Int->(List yaa)->Prop,(∀x7 x8,yaX r0 x1 X2 x7 x8->X2 x7 x8)->X2 a0 x3)
def yaU (r0:List yaa) (x13:Int) (X4:Int→(List yaa)→Prop) (x19:Int) (x20:List yaa):Prop:=
 cnd (decide (x13<x19)) ((0<=(IntKind.i64.wrap (x19-(1:Int))))/\((IntKind.i64.wrap (x19-(1:Int)))<(x20.length:Int))/\∃y21:yaa,(x20[(IntKind.i64.wrap (x19-(1:Int))).toNat]? =some y21)/\(0<=x19)/\(x19<(x20.length:Int))/\∃y22:yaa,(x20[x19.toNat]? =some y22)/\(0<=x19)/\(x19<(x20.length:Int))/\∃y23:yaa,(x20[x19.toNat]? =some y23)/\(0<=(IntKind.i64.wrap (x19-(1:Int))))/\((IntKind.i64.wrap (x19-(1:Int)))<((x20.set x19.toNat (⟨y21.Row,(⟨y21.Part.Rows,y21.Part.L⟩:yae)⟩:yaa)).length:Int))/\∃y24:yaa,((x20.set x19.toNat (⟨y21.Row,(⟨y21.Part.Rows,y21.Part.L⟩:yae)⟩:yaa))[(IntKind.i64.wrap (x19-(1:Int))).toNat]? =some y24)/\X4 (IntKind.i64.wrap (x19-(1:Int))) ((x20.set x19.toNat (⟨y21.Row,(⟨y21.Part.Rows,y21.Part.L⟩:yae)⟩:yaa)).set ((IntKind.i64.wrap (x19-(1:Int))).toNat) (⟨y22.Row,(⟨y22.Part.Rows,y22.Part.L⟩:yae)⟩:yaa))) (x20=r0)
def yaF (a1:Int) (g4:yaa→yaa→Int→Prop) (r0:List yaa) (X3:Int→Int→(List yaa)→Prop) (x13 x14:Int) (x15:List yaa):Prop:=
 cnd (decide (x13<x14)) ((0<=a1)/\(a1<(x15.length:Int))/\∃y16:yaa,(x15[a1.toNat]? =some y16)/\(0<=(IntKind.i64.wrap ((IntKind.u64.wrap (IntKind.i64.wrap (x13+x14))).fdiv (2^(min (1:Int).toNat IntKind.u64.bits)))))/\((IntKind.i64.wrap ((IntKind.u64.wrap (IntKind.i64.wrap (x13+x14))).fdiv (2^(min (1:Int).toNat IntKind.u64.bits))))<(x15.length:Int))/\∃y17:yaa,(x15[(IntKind.i64.wrap ((IntKind.u64.wrap (IntKind.i64.wrap (x13+x14))).fdiv (2^(min (1:Int).toNat IntKind.u64.bits)))).toNat]? =some y17)/\∃z18,(g4 (⟨y16.Row,(⟨y16.Part.Rows,y16.Part.L⟩:yae)⟩:yaa) (⟨y17.Row,(⟨y17.Part.Rows,y17.Part.L⟩:yae)⟩:yaa) z18)/\cnd (!(decide (z18<(0:Int)))) (X3 (IntKind.i64.wrap ((IntKind.i64.wrap ((IntKind.u64.wrap (IntKind.i64.wrap (x13+x14))).fdiv (2^(min (1:Int).toNat IntKind.u64.bits))))+(1:Int))) x14 x15) (X3 x13 (IntKind.i64.wrap ((IntKind.u64.wrap (IntKind.i64.wrap (x13+x14))).fdiv (2^(min (1:Int).toNat IntKind.u64.bits)))) x15)) (∀X4:Int->(List yaa)->Prop,(∀x19 x20,yaU r0 x13 X4 x19 x20->X4 x19 x20)->X4 a1 x15)
def yaz (Xr:(yaa→yaa→Int→Prop)→Int→Int→Int→(List yaa)→(List yaa)→Prop) (a0 a2:Int) (g4:yaa→yaa→Int→Prop) (r0:List yaa) (x37:Int) (x39:Bool) (x40:List yaa):Prop:=
 cnd x39 (∃z41,(Xr g4 (IntKind.i64.wrap ((IntKind.u64.wrap (IntKind.i64.wrap (a0+a2))).fdiv (2^(min (1:Int).toNat IntKind.u64.bits)))) x37 a2 x40 z41)/\(z41.length=x40.length)/\z41=r0) (x40=r0)
def yan (Xr:(yaa→yaa→Int→Prop)→Int→Int→Int→(List yaa)→(List yaa)→Prop) (a0 a2:Int) (g4:yaa→yaa→Int→Prop) (r0:List yaa) (x37:Int) (x38:List yaa):Prop:=
 cnd (decide ((IntKind.i64.wrap ((IntKind.u64.wrap (IntKind.i64.wrap (a0+a2))).fdiv (2^(min (1:Int).toNat IntKind.u64.bits))))<x37)) (yaz Xr a0 a2 g4 r0 x37 (decide (x37<a2)) x38) (yaz Xr a0 a2 g4 r0 x37 false x38)
def yav (Xr:(yaa→yaa→Int→Prop)→Int→Int→Int→(List yaa)→(List yaa)→Prop) (a0 a2:Int) (g4:yaa→yaa→Int→Prop) (r0:List yaa) (x34 x35:Int) (x42:Bool) (x43:List yaa):Prop:=
 cnd x42 (∃z44,(Xr g4 a0 x34 (IntKind.i64.wrap ((IntKind.u64.wrap (IntKind.i64.wrap (a0+a2))).fdiv (2^(min (1:Int).toNat IntKind.u64.bits)))) x43 z44)/\(z44.length=x43.length)/\yan Xr a0 a2 g4 r0 x35 z44) (yan Xr a0 a2 g4 r0 x35 x43)
def yam (Xr:(yaa→yaa→Int→Prop)→Int→Int→Int→(List yaa)→(List yaa)→Prop) (a0 a2:Int) (g4:yaa→yaa→Int→Prop) (r0:List yaa) (x34 x35:Int) (x36:List yaa):Prop:=
 cnd (decide (a0<x34)) (yav Xr a0 a2 g4 r0 x34 x35 (decide (x34<(IntKind.i64.wrap ((IntKind.u64.wrap (IntKind.i64.wrap (a0+a2))).fdiv (2^(min (1:Int).toNat IntKind.u64.bits)))))) x36) (yav Xr a0 a2 g4 r0 x34 x35 false x36)
def yaw (Xr:(yaa→yaa→Int→Prop)→Int→Int→Int→(List yaa)→(List yaa)→Prop) (a0 a1 a2:Int) (g4:yaa→yaa→Int→Prop) (r0:List yaa) (x28:Int) (x45:Bool) (x46:List yaa):Prop:=
 cnd x45 (∃z47,(yaC g4 x28 a1 (IntKind.i64.wrap ((IntKind.i64.wrap ((IntKind.i64.wrap ((IntKind.u64.wrap (IntKind.i64.wrap (a0+a2))).fdiv (2^(min (1:Int).toNat IntKind.u64.bits))))+a1))-x28)) x46 z47)/\(z47.length=x46.length)/\yam Xr a0 a2 g4 r0 x28 (IntKind.i64.wrap ((IntKind.i64.wrap ((IntKind.i64.wrap ((IntKind.u64.wrap (IntKind.i64.wrap (a0+a2))).fdiv (2^(min (1:Int).toNat IntKind.u64.bits))))+a1))-x28)) z47) (yam Xr a0 a2 g4 r0 x28 (IntKind.i64.wrap ((IntKind.i64.wrap ((IntKind.i64.wrap ((IntKind.u64.wrap (IntKind.i64.wrap (a0+a2))).fdiv (2^(min (1:Int).toNat IntKind.u64.bits))))+a1))-x28)) x46)
def yaW (Xr:(yaa→yaa→Int→Prop)→Int→Int→Int→(List yaa)→(List yaa)→Prop) (a0 a1 a2:Int) (g4:yaa→yaa→Int→Prop) (r0:List yaa) (X6:Int→Int→(List yaa)→Prop) (x28 x29:Int) (x30:List yaa):Prop:=
 cnd (decide (x28<x29)) ((0<=(IntKind.i64.wrap ((IntKind.i64.wrap ((IntKind.i64.wrap ((IntKind.i64.wrap ((IntKind.u64.wrap (IntKind.i64.wrap (a0+a2))).fdiv (2^(min (1:Int).toNat IntKind.u64.bits))))+a1))-(1:Int)))-(IntKind.i64.wrap ((IntKind.u64.wrap (IntKind.i64.wrap (x28+x29))).fdiv (2^(min (1:Int).toNat IntKind.u64.bits)))))))/\((IntKind.i64.wrap ((IntKind.i64.wrap ((IntKind.i64.wrap ((IntKind.i64.wrap ((IntKind.u64.wrap (IntKind.i64.wrap (a0+a2))).fdiv (2^(min (1:Int).toNat IntKind.u64.bits))))+a1))-(1:Int)))-(IntKind.i64.wrap ((IntKind.u64.wrap (IntKind.i64.wrap (x28+x29))).fdiv (2^(min (1:Int).toNat IntKind.u64.bits))))))<(x30.length:Int))/\∃y31:yaa,(x30[(IntKind.i64.wrap ((IntKind.i64.wrap ((IntKind.i64.wrap ((IntKind.i64.wrap ((IntKind.u64.wrap (IntKind.i64.wrap (a0+a2))).fdiv (2^(min (1:Int).toNat IntKind.u64.bits))))+a1))-(1:Int)))-(IntKind.i64.wrap ((IntKind.u64.wrap (IntKind.i64.wrap (x28+x29))).fdiv (2^(min (1:Int).toNat IntKind.u64.bits)))))).toNat]? =some y31)/\(0<=(IntKind.i64.wrap ((IntKind.u64.wrap (IntKind.i64.wrap (x28+x29))).fdiv (2^(min (1:Int).toNat IntKind.u64.bits)))))/\((IntKind.i64.wrap ((IntKind.u64.wrap (IntKind.i64.wrap (x28+x29))).fdiv (2^(min (1:Int).toNat IntKind.u64.bits))))<(x30.length:Int))/\∃y32:yaa,(x30[(IntKind.i64.wrap ((IntKind.u64.wrap (IntKind.i64.wrap (x28+x29))).fdiv (2^(min (1:Int).toNat IntKind.u64.bits)))).toNat]? =some y32)/\∃z33,(g4 (⟨y31.Row,(⟨y31.Part.Rows,y31.Part.L⟩:yae)⟩:yaa) (⟨y32.Row,(⟨y32.Part.Rows,y32.Part.L⟩:yae)⟩:yaa) z33)/\cnd (!(decide (z33<(0:Int)))) (X6 (IntKind.i64.wrap ((IntKind.i64.wrap ((IntKind.u64.wrap (IntKind.i64.wrap (x28+x29))).fdiv (2^(min (1:Int).toNat IntKind.u64.bits))))+(1:Int))) x29 x30) (X6 x28 (IntKind.i64.wrap ((IntKind.u64.wrap (IntKind.i64.wrap (x28+x29))).fdiv (2^(min (1:Int).toNat IntKind.u64.bits)))) x30)) (cnd (decide (x28<a1)) (yaw Xr a0 a1 a2 g4 r0 x28 (decide (a1<(IntKind.i64.wrap ((IntKind.i64.wrap ((IntKind.i64.wrap ((IntKind.u64.wrap (IntKind.i64.wrap (a0+a2))).fdiv (2^(min (1:Int).toNat IntKind.u64.bits))))+a1))-x28)))) x30) (yaw Xr a0 a1 a2 g4 r0 x28 false x30))
def yaq (Xr:(yaa→yaa→Int→Prop)→Int→Int→Int→(List yaa)→(List yaa)→Prop) (a0 a1 a2:Int) (g4:yaa→yaa→Int→Prop) (r0:List yaa) (x25 x26:Int) (x27:List yaa):Prop:=
 ∀X6:Int->Int->(List yaa)->Prop,(∀x28 x29 x30,yaW Xr a0 a1 a2 g4 r0 X6 x28 x29 x30->X6 x28 x29 x30)->X6 x25 x26 x27
def yaH (Xr:(yaa→yaa→Int→Prop)→Int→Int→Int→(List yaa)→(List yaa)→Prop) (g4:yaa→yaa→Int→Prop) (a0 a1 a2:Int) (a3 r0:List yaa):Prop:=
 cnd ((IntKind.i64.wrap (a1-a0))==(1:Int)) (∀X1:Int->Int->(List yaa)->Prop,(∀x1 x2 x3,yaG a0 g4 r0 X1 x1 x2 x3->X1 x1 x2 x3)->X1 a1 a2 a3) (cnd ((IntKind.i64.wrap (a2-a1))==(1:Int)) (∀X3:Int->Int->(List yaa)->Prop,(∀x13 x14 x15,yaF a1 g4 r0 X3 x13 x14 x15->X3 x13 x14 x15)->X3 a0 a1 a3) (cnd (decide ((IntKind.i64.wrap ((IntKind.u64.wrap (IntKind.i64.wrap (a0+a2))).fdiv (2^(min (1:Int).toNat IntKind.u64.bits))))<a1)) (yaq Xr a0 a1 a2 g4 r0 (IntKind.i64.wrap ((IntKind.i64.wrap ((IntKind.i64.wrap ((IntKind.u64.wrap (IntKind.i64.wrap (a0+a2))).fdiv (2^(min (1:Int).toNat IntKind.u64.bits))))+a1))-a2)) (IntKind.i64.wrap ((IntKind.u64.wrap (IntKind.i64.wrap (a0+a2))).fdiv (2^(min (1:Int).toNat IntKind.u64.bits)))) a3) (yaq Xr a0 a1 a2 g4 r0 a0 a1 a3)))
theorem ydu (r0:List yaa) (x1:Int) {X2:Int→(List yaa)→Prop} {x7:Int} {x8:List yaa} (h:yaX r0 x1 X2 x7 x8):ybv x1 r0 X2 x7 x8:=by
 unfold ybv
 unfold yaX at h
 exact h
theorem ydy (a0:Int) (g4:yaa→yaa→Int→Prop) (r0:List yaa) {X1:Int→Int→(List yaa)→Prop} {x1 x2:Int} {x3:List yaa} (h:yaG a0 g4 r0 X1 x1 x2 x3):ybq a0 g4 r0 X1 x1 x2 x3:=by
 unfold ybq
 unfold yaG at h
 refine yak h (fun h=> ?_) (fun h=> ?_)
 ·exact h
 ·intro X2 k
  exact h X2 (fun x7 x8 q=>k x7 x8 (ydu r0 x1 q))
theorem yds (r0:List yaa) (x13:Int) {X4:Int→(List yaa)→Prop} {x19:Int} {x20:List yaa} (h:yaU r0 x13 X4 x19 x20):ybu x13 r0 X4 x19 x20:=by
 unfold ybu
 unfold yaU at h
 exact h
theorem ydk (a1:Int) (g4:yaa→yaa→Int→Prop) (r0:List yaa) {X3:Int→Int→(List yaa)→Prop} {x13 x14:Int} {x15:List yaa} (h:yaF a1 g4 r0 X3 x13 x14 x15):ybs a1 g4 r0 X3 x13 x14 x15:=by
 unfold ybs
 unfold yaF at h
 refine yak h (fun h=> ?_) (fun h=> ?_)
 ·exact h
 ·intro X4 k
  exact h X4 (fun x19 x20 q=>k x19 x20 (yds r0 x13 q))
theorem ydw (Xr:(yaa→yaa→Int→Prop)→Int→Int→Int→(List yaa)→(List yaa)→Prop) (a0 a2:Int) (g4:yaa→yaa→Int→Prop) (r0:List yaa) (x37:Int) {x39:Bool} {x40:List yaa} (h:yaz Xr a0 a2 g4 r0 x37 x39 x40):ybp Xr g4 a0 a2 x37 r0 x39 x40:=by
 unfold ybp
 unfold yaz at h
 exact h
theorem ydm (Xr:(yaa→yaa→Int→Prop)→Int→Int→Int→(List yaa)→(List yaa)→Prop) (a0 a2:Int) (g4:yaa→yaa→Int→Prop) (r0:List yaa) {x37:Int} {x38:List yaa} (h:yan Xr a0 a2 g4 r0 x37 x38):ybr Xr g4 a0 a2 r0 x37 x38:=by
 unfold ybr
 unfold yan at h
 intro J9 kJ9
 have hJ9:∀x39 x40,yaz Xr a0 a2 g4 r0 x37 x39 x40->J9 x39 x40:=fun x39 x40 q=>kJ9 x39 x40 (ydw Xr a0 a2 g4 r0 x37 q)
 refine yak h (fun h=> ?_) (fun h=> ?_)
 ·exact hJ9 _ _ h
 ·exact hJ9 _ _ h
theorem ydi (J8:Int→(List yaa)→Prop) (Xr:(yaa→yaa→Int→Prop)→Int→Int→Int→(List yaa)→(List yaa)→Prop) (a0 a2:Int) (g4:yaa→yaa→Int→Prop) (r0:List yaa) (x34 x35:Int) (hJ8:∀(x37:Int) (x38:(List yaa)),yan Xr a0 a2 g4 r0 x37 x38→J8 x37 x38) {x42:Bool} {x43:List yaa} (h:yav Xr a0 a2 g4 r0 x34 x35 x42 x43):ybk Xr g4 a0 x34 a2 J8 x35 x42 x43:=by
 unfold ybk
 unfold yav at h
 refine yak h (fun h=> ?_) (fun h=> ?_)
 ·obtain ⟨z44,h⟩:=h
  refine ⟨z44,?_⟩
  obtain ⟨h0,h⟩:=h
  refine ⟨h0,?_⟩
  obtain ⟨h0,h⟩:=h
  refine ⟨h0,?_⟩
  exact hJ8 _ _ h
 ·exact hJ8 _ _ h
theorem ydl (Xr:(yaa→yaa→Int→Prop)→Int→Int→Int→(List yaa)→(List yaa)→Prop) (a0 a2:Int) (g4:yaa→yaa→Int→Prop) (r0:List yaa) {x34 x35:Int} {x36:List yaa} (h:yam Xr a0 a2 g4 r0 x34 x35 x36):ybo Xr g4 a0 a2 r0 x34 x35 x36:=by
 unfold ybo
 unfold yam at h
 intro J8 kJ8
 have hJ8:∀x37 x38,yan Xr a0 a2 g4 r0 x37 x38->J8 x37 x38:=fun x37 x38 q=>kJ8 x37 x38 (ydm Xr a0 a2 g4 r0 q)
 intro J10 kJ10
 have hJ10:∀x42 x43,yav Xr a0 a2 g4 r0 x34 x35 x42 x43->J10 x42 x43:=fun x42 x43 q=>kJ10 x42 x43 (ydi J8 Xr a0 a2 g4 r0 x34 x35 hJ8 q)
 refine yak h (fun h=> ?_) (fun h=> ?_)
 ·exact hJ10 _ _ h
 ·exact hJ10 _ _ h
theorem ydh (J7:Int→Int→(List yaa)→Prop) (Xr:(yaa→yaa→Int→Prop)→Int→Int→Int→(List yaa)→(List yaa)→Prop) (a0 a1 a2:Int) (g4:yaa→yaa→Int→Prop) (r0:List yaa) (x28:Int) (hJ7:∀(x34:Int) (x35:Int) (x36:(List yaa)),yam Xr a0 a2 g4 r0 x34 x35 x36→J7 x34 x35 x36) {x45:Bool} {x46:List yaa} (h:yaw Xr a0 a1 a2 g4 r0 x28 x45 x46):ybl g4 x28 a1 a0 a2 J7 x45 x46:=by
 unfold ybl
 unfold yaw at h
 refine yak h (fun h=> ?_) (fun h=> ?_)
 ·obtain ⟨z47,h⟩:=h
  refine ⟨z47,?_⟩
  obtain ⟨h0,h⟩:=h
  refine ⟨h0,?_⟩
  obtain ⟨h0,h⟩:=h
  refine ⟨h0,?_⟩
  exact hJ7 _ _ _ h
 ·exact hJ7 _ _ _ h
theorem ydj (Xr:(yaa→yaa→Int→Prop)→Int→Int→Int→(List yaa)→(List yaa)→Prop) (a0 a1 a2:Int) (g4:yaa→yaa→Int→Prop) (r0:List yaa) {X6:Int→Int→(List yaa)→Prop} {x28 x29:Int} {x30:List yaa} (h:yaW Xr a0 a1 a2 g4 r0 X6 x28 x29 x30):ybt a0 a2 a1 g4 Xr r0 X6 x28 x29 x30:=by
 unfold ybt
 unfold yaW at h
 refine yak h (fun h=> ?_) (fun h=> ?_)
 ·exact h
 ·intro J7 kJ7
  have hJ7:∀x34 x35 x36,yam Xr a0 a2 g4 r0 x34 x35 x36->J7 x34 x35 x36:=fun x34 x35 x36 q=>kJ7 x34 x35 x36 (ydl Xr a0 a2 g4 r0 q)
  intro J11 kJ11
  have hJ11:∀x45 x46,yaw Xr a0 a1 a2 g4 r0 x28 x45 x46->J11 x45 x46:=fun x45 x46 q=>kJ11 x45 x46 (ydh J7 Xr a0 a1 a2 g4 r0 x28 hJ7 q)
  refine yak h (fun h=> ?_) (fun h=> ?_)
  ·exact hJ11 _ _ h
  ·exact hJ11 _ _ h
theorem ydq (Xr:(yaa→yaa→Int→Prop)→Int→Int→Int→(List yaa)→(List yaa)→Prop) (a0 a1 a2:Int) (g4:yaa→yaa→Int→Prop) (r0:List yaa) {x25 x26:Int} {x27:List yaa} (h:yaq Xr a0 a1 a2 g4 r0 x25 x26 x27):ybn a0 a2 a1 g4 Xr r0 x25 x26 x27:=by
 unfold ybn
 unfold yaq at h
 intro X6 k
 exact h X6 (fun x28 x29 x30 q=>k x28 x29 x30 (ydj Xr a0 a1 a2 g4 r0 q))
theorem ydY (Xr:(yaa→yaa→Int→Prop)→Int→Int→Int→(List yaa)→(List yaa)→Prop) (g4:yaa→yaa→Int→Prop) (a0 a1 a2:Int) (a3 r0:List yaa) (h:yaH Xr g4 a0 a1 a2 a3 r0):yaK Xr g4 a0 a1 a2 a3 r0:=by
 unfold yaK
 unfold yaH at h
 refine yak h (fun h=> ?_) (fun h=> ?_)
 ·intro X1 k
  exact h X1 (fun x1 x2 x3 q=>k x1 x2 x3 (ydy a0 g4 r0 q))
 ·refine yak h (fun h=> ?_) (fun h=> ?_)
  ·intro X3 k
   exact h X3 (fun x13 x14 x15 q=>k x13 x14 x15 (ydk a1 g4 r0 q))
  ·intro J5 kJ5
   have hJ5:∀x25 x26 x27,yaq Xr a0 a1 a2 g4 r0 x25 x26 x27->J5 x25 x26 x27:=fun x25 x26 x27 q=>kJ5 x25 x26 x27 (ydq Xr a0 a1 a2 g4 r0 q)
   refine yak h (fun h=> ?_) (fun h=> ?_)
   ·exact hJ5 _ _ _ h
   ·exact hJ5 _ _ _ h
theorem yec (g4:yaa->yaa->Int->Prop) (a0 a1 a2:Int) (a3 r0:List yaa) (h:∀Xr:(yaa->yaa->Int->Prop)->Int->Int->Int->(List yaa)->(List yaa)->Prop,(∀(g4:yaa->yaa->Int->Prop) (a0:Int) (a1:Int) (a2:Int) (a3:(List yaa)) (r0:(List yaa)),yaH Xr g4 a0 a1 a2 a3 r0->Xr g4 a0 a1 a2 a3 r0)->Xr g4 a0 a1 a2 a3 r0):yaL g4 a0 a1 a2 a3 r0:=fun Xr k=>h Xr fun g4 a0 a1 a2 a3 r0 q=>k g4 a0 a1 a2 a3 r0 (ydY Xr g4 a0 a1 a2 a3 r0 q)
def yah:Sl KK:=⟨58,[(4,[34,34],[3])],⟨[(0, .row 2000000),(1, .it .i64),(2, .it .i64),(3, .it .i64)],[],[(2000000,34)]⟩,⟨[],[],[(2000000,34)]⟩,[],[],true,fun _ _ _=>True⟩
def yaY:Sl KK:=⟨58,[(4,[34,34],[3])],⟨[(0, .row 2000000),(1, .it .i64),(2, .it .i64),(3, .it .i64)],[],[(2000000,34)]⟩,⟨[],[],[(2000000,34)]⟩,[],[],true,apFs (K:=KK) (ctT yah.ti) (ctT yah.te) [(4,[34,34],[3])] yaL⟩
def ydV:An KK:=(.s (.s .o (.c (.s .o (.s .o (.s (.b (.l ⟨[(0, .row 2000000),(1, .kp 15),(4, .kp 16),(10, .it .i64),(11, .it .i64)],[],[(2000000,34)]⟩ (fun _=>(.s (.s .o (.c .o .o)) (.b (.s .o (.s .o (.c .o .o)))))))) (.s (.s .o (.b (.l ⟨[(0, .row 2000000),(10, .kp 20),(13, .it .i64)],[],[(2000000,34)]⟩ (fun _=>(.s (.s .o (.c .o .o)) (.s (.b .o) .o)))))) .o)))) .o)) (.s (.s .o (.c (.s .o (.s .o (.s (.b (.l ⟨[(0, .row 2000000),(2, .kp 35),(4, .kp 36),(14, .it .i64),(15, .it .i64)],[],[(2000000,34)]⟩ (fun _=>(.s (.s .o (.c .o .o)) (.b (.s .o (.s .o (.c .o .o)))))))) (.s (.s .o (.b (.l ⟨[(0, .row 2000000),(14, .kp 40),(17, .it .i64)],[],[(2000000,34)]⟩ (fun _=>(.s (.s .o (.c .o .o)) (.s (.b .o) .o)))))) .o)))) .o)) (.s .o (.s .o (.s .o (.j ⟨[(0, .row 2000000),(1, .kp 41),(2, .kp 42),(3, .kp 43),(4, .kp 44),(18, .kp 45),(19, .kp 46),(20, .it .i64),(21, .it .i64)],[],[(2000000,34)]⟩ (.s .o (.c (.s .o .o) (.s .o .o))) (fun _=>(.s .o (.s (.b (.l ⟨[(0, .row 2000000),(1, .kp 41),(2, .kp 42),(3, .kp 43),(4, .kp 44),(18, .kp 45),(19, .kp 46),(20, .it .i64),(21, .it .i64),(22, .kp 52)],[],[(2000000,34)]⟩ (fun _=>(.s (.s .o (.c .o .o)) (.b (.s .o (.s .o (.c .o .o)))))))) (.s .o (.j ⟨[(0, .row 2000000),(1, .kp 41),(3, .kp 43),(4, .kp 44),(18, .kp 45),(20, .it .i64),(24, .it .i64)],[],[(2000000,34)]⟩ (.j ⟨[(0, .row 2000000),(1, .kp 41),(2, .kp 42),(3, .kp 43),(4, .kp 44),(18, .kp 45),(20, .kp 64),(24, .kp 65),(185, .bl)],[],[(2000000,34)]⟩ .o (fun _=>(.c .o .o))) (fun _=>(.j ⟨[(0, .row 2000000),(3, .kp 43),(4, .kp 44),(18, .kp 45),(24, .it .i64)],[],[(2000000,34)]⟩ (.j ⟨[(0, .row 2000000),(1, .kp 41),(3, .kp 43),(4, .kp 44),(18, .kp 45),(20, .kp 62),(24, .kp 63),(199, .bl)],[],[(2000000,34)]⟩ .o (fun _=>(.c .o .o))) (fun _=>(.j ⟨[(0, .row 2000000),(3, .kp 43),(4, .kp 44),(18, .kp 45),(24, .kp 61),(213, .bl)],[],[(2000000,34)]⟩ .o (fun _=>(.c .o .o)))))))))))))))))
def ydW (Xr:(yaa->yaa->Int->Prop)->Int->Int->Int->(List yaa)->(List yaa)->Prop):Cf KK:=⟨CC,[],[⟨58,[(4,[34,34],[3])],⟨[(0, .row 2000000),(1, .it .i64),(2, .it .i64),(3, .it .i64)],[],[(2000000,34)]⟩,⟨[],[],[(2000000,34)]⟩,[],[],true,apFs (K:=KK) (ctT yah.ti) (ctT yah.te) [(4,[34,34],[3])] Xr⟩,ya2],220,[],none,false⟩
theorem ydK (Xr:(yaa→yaa→Int→Prop)→Int→Int→Int→(List yaa)→(List yaa)→Prop) (hX:∀(F4:FV KK) (hF4:FOk Try.prog CC F4) (a0:Int) (a1:Int) (a2:Int) (a3:(List yaa)) (r0:(List yaa)),Xr (curF [3] [34,34] F4.W) a0 a1 a2 a3 r0→SlC Try.prog CC yah [F4] [.i a0, .i a1, .i a2, .l 34 a3] [.l 34 r0]):∀(F4:FV KK) (hF4:FOk Try.prog CC F4) (a0:Int) (a1:Int) (a2:Int) (a3:(List yaa)) (r0:(List yaa)),yaK Xr (curF [3] [34,34] F4.W) a0 a1 a2 a3 r0→SlC Try.prog CC yah [F4] [.i a0, .i a1, .i a2, .l 34 a3] [.l 34 r0]:=by
 intro F4 hF4 a0 a1 a2 a3 r0 h
 refine ylf (F:=ydW Xr) ybh yaE (yj9 ?_ (yj9 yes yaD)) t58 (A:=ydV) (sp:=yah) rfl (by kernel_rfl) (by kernel_rfl) (Nat.le_of_ble_eq_true (by kernel_rfl)) (fs:= [F4]) (env:= [.i a0, .i a1, .i a2, .l 34 a3]) (out:= [.l 34 r0]) (by kernel_rfl) (fun G hG=>by simp at hG;subst hG;assumption) (X:=yaK Xr (curF [3] [34,34] F4.W) a0 a1 a2 a3 r0) h (by kernel_rfl)
 clear h a0 a1 a2 a3 r0 hF4 F4
 intro fs env out hl hF hW
 obtain ⟨F4,fs4,rfl,h0⟩:=ym9 hW
 obtain ⟨rfl,h1⟩:=yjw h0
 obtain ⟨a0,ea0,rfl,h2⟩:=ycP h1
 obtain ⟨a1,ea1,rfl,h3⟩:=ycP h2
 obtain ⟨a2,ea2,rfl,h4⟩:=ycP h3
 obtain ⟨a3,ea3,rfl,h5⟩:=ycP h4
 obtain ⟨rfl,h6⟩:=yjL h5
 obtain ⟨r0,er0,rfl,h7⟩:=ygT h6
 obtain ⟨rfl,h8⟩:=yhc h7
 show SlC Try.prog CC ⟨58,[(4,[34,34],[3])],⟨[(0, .row 2000000),(1, .it .i64),(2, .it .i64),(3, .it .i64)],[],[(2000000,34)]⟩,⟨[],[],[(2000000,34)]⟩,[],[],true,apFs (K:=KK) (ctT yah.ti) (ctT yah.te) [(4,[34,34],[3])] Xr⟩ [F4] [.i a0, .i a1, .i a2, .l 34 a3] [.l 34 r0]
 rw[show SlC Try.prog CC ⟨58,[(4,[34,34],[3])],⟨[(0, .row 2000000),(1, .it .i64),(2, .it .i64),(3, .it .i64)],[],[(2000000,34)]⟩,⟨[],[],[(2000000,34)]⟩,[],[],true,apFs (K:=KK) (ctT yah.ti) (ctT yah.te) [(4,[34,34],[3])] Xr⟩ [F4] [.i a0, .i a1, .i a2, .l 34 a3] [.l 34 r0]=SlC Try.prog CC yah [F4] [.i a0, .i a1, .i a2, .l 34 a3] [.l 34 r0] by kernel_rfl]
 exact hX F4 (hF _ (by simp)) a0 a1 a2 a3 r0 h8
theorem ydU:SlOk Try.prog CC yaY:=by
 intro fs env out hl hF hW
 obtain ⟨F4,fs4,rfl,h0⟩:=ym9 hW
 obtain ⟨rfl,h1⟩:=yjw h0
 obtain ⟨a0,ea0,rfl,h2⟩:=ycP h1
 obtain ⟨a1,ea1,rfl,h3⟩:=ycP h2
 obtain ⟨a2,ea2,rfl,h4⟩:=ycP h3
 obtain ⟨a3,ea3,rfl,h5⟩:=ycP h4
 obtain ⟨rfl,h6⟩:=yjL h5
 obtain ⟨r0,er0,rfl,h7⟩:=ygT h6
 obtain ⟨rfl,h8⟩:=yhc h7
 show SlC Try.prog CC yaY [F4] [.i a0, .i a1, .i a2, .l 34 a3] [.l 34 r0]
 rw[show SlC Try.prog CC yaY [F4] [.i a0, .i a1, .i a2, .l 34 a3] [.l 34 r0]=SlC Try.prog CC yah [F4] [.i a0, .i a1, .i a2, .l 34 a3] [.l 34 r0] by kernel_rfl]
 exact h8 (fun g4 a0 a1 a2 a3 r0=>∀F4:FV KK,FOk Try.prog CC F4->curF [3] [34,34] F4.W=g4->SlC Try.prog CC yah [F4] [.i a0, .i a1, .i a2, .l 34 a3] [.l 34 r0]) (fun g4 a0 a1 a2 a3 r0 h=>fun F4 hF4 e4=>ydK (fun g4 a0 a1 a2 a3 r0=>∀F4:FV KK,FOk Try.prog CC F4->curF [3] [34,34] F4.W=g4->SlC Try.prog CC yah [F4] [.i a0, .i a1, .i a2, .l 34 a3] [.l 34 r0]) (fun F4 hF4 a0 a1 a2 a3 r0 h=>h F4 hF4 rfl) F4 hF4 a0 a1 a2 a3 r0 (by subst e4;exact h)) F4 (hF _ (by simp)) rfl
def ycq (a0:Int) (g2:yaa→yaa→Int→Prop) (x6:Int) (X2:Int→(List yaa)→Prop) (X3:Int→Int→(List yaa)→Prop) (x8 x9:Int) (x10:List yaa):Prop:=
 cnd (decide (x9<=a0)) (∃z11,(yaL g2 x8 (IntKind.i64.wrap (x8+x6)) x9 x10 z11)/\(z11.length=x10.length)/\X3 x9 (IntKind.i64.wrap (x9+(IntKind.i64.wrap ((2:Int)*x6)))) z11) (cnd (decide ((IntKind.i64.wrap (x8+x6))<a0)) (∃z12,(yaL g2 x8 (IntKind.i64.wrap (x8+x6)) a0 x10 z12)/\(z12.length=x10.length)/\X2 (IntKind.i64.wrap (x6*(2:Int))) z12) (X2 (IntKind.i64.wrap (x6*(2:Int))) x10))
def yer (a0:Int) (g2:yaa→yaa→Int→Prop) (r0:List yaa) (X2:Int→(List yaa)→Prop) (x6:Int) (x7:List yaa):Prop:=
 cnd (decide (x6<a0)) (∀X3:Int->Int->(List yaa)->Prop,(∀x8 x9 x10,ycq a0 g2 x6 X2 X3 x8 x9 x10->X3 x8 x9 x10)->X3 (0:Int) (IntKind.i64.wrap ((2:Int)*x6)) x7) (x7=r0)
def yeu (a0:Int) (g2:yaa→yaa→Int→Prop) (r0:List yaa) (X1:Int→Int→(List yaa)→Prop) (x1 x2:Int) (x3:List yaa):Prop:=
 cnd (decide (x2<=a0)) (∃z4,(yao g2 x1 x2 x3 z4)/\(z4.length=x3.length)/\X1 x2 (IntKind.i64.wrap (x2+(20:Int))) z4) (∃z5,(yao g2 x1 a0 x3 z5)/\(z5.length=x3.length)/\∀X2:Int->(List yaa)->Prop,(∀x6 x7,yer a0 g2 r0 X2 x6 x7->X2 x6 x7)->X2 (20:Int) z5)
def yaR (g2:yaa→yaa→Int→Prop) (a0:Int) (a1 r0:List yaa):Prop:=
 ∀X1:Int->Int->(List yaa)->Prop,(∀x1 x2 x3,yeu a0 g2 r0 X1 x1 x2 x3->X1 x1 x2 x3)->X1 (0:Int) (20:Int) a1
def ya6:Sl KK:=⟨40,[(2,[34,34],[3])],⟨[(0, .row 2000000),(1, .it .i64)],[],[(2000000,34)]⟩,⟨[],[],[(2000000,34)]⟩,[],[],true,fun _ _ _=>True⟩
def ya3:Sl KK:=⟨40,[(2,[34,34],[3])],⟨[(0, .row 2000000),(1, .it .i64)],[],[(2000000,34)]⟩,⟨[],[],[(2000000,34)]⟩,[],[],true,apFs (K:=KK) (ctT ya6.ti) (ctT ya6.te) [(2,[34,34],[3])] yaR⟩
def yeo:An KK:=(.s .o (.s .o (.s (.b (.l ⟨[(0, .row 2000000),(1, .kp 6),(2, .kp 7),(6, .kp 8),(7, .it .i64),(8, .it .i64)],[],[(2000000,34)]⟩ (fun _=>(.s (.s .o (.c .o .o)) (.b (.s .o (.s .o .o))))))) (.s .o (.b (.l ⟨[(0, .row 2000000),(1, .kp 6),(2, .kp 7),(6, .it .i64)],[],[(2000000,34)]⟩ (fun _=>(.s (.s .o (.c .o .o)) (.b (.s .o (.s (.b (.l ⟨[(0, .row 2000000),(1, .kp 6),(2, .kp 7),(6, .kp 24),(7, .it .i64),(8, .it .i64)],[],[(2000000,34)]⟩ (fun _=>(.s (.s .o (.c .o .o)) (.b (.s .o (.s .o .o))))))) (.s (.s .o (.s .o (.c .o .o))) .o))))))))))))
def yen:Cf KK:=⟨CC,[],[yaM,yaY],63,[],none,false⟩
theorem yev:SlOk Try.prog CC ya3:=by
 intro fs env out hl hF hW
 obtain ⟨F2,fs2,rfl,h0⟩:=ym9 hW
 obtain ⟨rfl,h1⟩:=yjw h0
 obtain ⟨a0,ea0,rfl,h2⟩:=ycP h1
 obtain ⟨a1,ea1,rfl,h3⟩:=ycP h2
 obtain ⟨rfl,h4⟩:=yjL h3
 obtain ⟨r0,er0,rfl,h5⟩:=ygT h4
 obtain ⟨rfl,h6⟩:=yhc h5
 show SlC Try.prog CC ya3 [F2] [.i a0, .l 34 a1] [.l 34 r0]
 rw[show SlC Try.prog CC ya3 [F2] [.i a0, .l 34 a1] [.l 34 r0]=SlC Try.prog CC ya6 [F2] [.i a0, .l 34 a1] [.l 34 r0] by kernel_rfl]
 exact ylf (F:=yen) ybh yaE (yj9 yc2 (yj9 ydU yaD)) t40 (A:=yeo) (sp:=ya6) rfl (by kernel_rfl) (by kernel_rfl) (Nat.le_of_ble_eq_true (by kernel_rfl)) (fs:= [F2]) (env:= [.i a0, .l 34 a1]) (out:= [.l 34 r0]) (by kernel_rfl) hF (X:=yaR (curF [3] [34,34] F2.W) a0 a1 r0) h6 (by kernel_rfl)
def ya5 (g1:yaa→yaa→Int→Prop) (a0 r0:List yaa):Prop:=
 ∃z1,(yaR g1 (a0.length:Int) a0 z1)/\(z1.length=a0.length)/\z1=r0
def ya1:Sl KK:=⟨21,[(1,[34,34],[3])],⟨[(0, .row 2000000)],[],[(2000000,34)]⟩,⟨[],[],[(2000000,34)]⟩,[],[],true,fun _ _ _=>True⟩
def ya0:Sl KK:=⟨21,[(1,[34,34],[3])],⟨[(0, .row 2000000)],[],[(2000000,34)]⟩,⟨[],[],[(2000000,34)]⟩,[],[],true,apFs (K:=KK) (ctT ya1.ti) (ctT ya1.te) [(1,[34,34],[3])] ya5⟩
def yeg:An KK:= .o
def yek:Cf KK:=⟨CC,[],[ya3],9,[],none,false⟩
theorem yd9:SlOk Try.prog CC ya0:=by
 intro fs env out hl hF hW
 obtain ⟨F1,fs1,rfl,h0⟩:=ym9 hW
 obtain ⟨rfl,h1⟩:=yjw h0
 obtain ⟨a0,ea0,rfl,h2⟩:=ycP h1
 obtain ⟨rfl,h3⟩:=yjL h2
 obtain ⟨r0,er0,rfl,h4⟩:=ygT h3
 obtain ⟨rfl,h5⟩:=yhc h4
 show SlC Try.prog CC ya0 [F1] [.l 34 a0] [.l 34 r0]
 rw[show SlC Try.prog CC ya0 [F1] [.l 34 a0] [.l 34 r0]=SlC Try.prog CC ya1 [F1] [.l 34 a0] [.l 34 r0] by kernel_rfl]
 exact ylf (F:=yek) ybh yaE (yj9 yev yaD) t21 (A:=yeg) (sp:=ya1) rfl (by kernel_rfl) (by kernel_rfl) (Nat.le_of_ble_eq_true (by kernel_rfl)) (fs:= [F1]) (env:= [.l 34 a0]) (out:= [.l 34 r0]) (by kernel_rfl) hF (X:=ya5 (curF [3] [34,34] F1.W) a0 r0) h5 (by kernel_rfl)
def yh4 (x5:List yaa) (y6:yaa) (X1:(List yaa)→Int→(List yaa)→Prop) (x3:List yaa) (x4:Int) (x7:Bool) (x8:List yaa):Prop:=
 cnd x7 ((0<=(IntKind.i64.wrap ((x5.length:Int)-(1:Int))))/\((IntKind.i64.wrap ((x5.length:Int)-(1:Int)))<(x8.length:Int))/\∃y9:yaa,(x8[(IntKind.i64.wrap ((x5.length:Int)-(1:Int))).toNat]? =some y9)/\∃z10,(ycJ (⟨y9.Part.Rows,y9.Part.L⟩:yae) (⟨y6.Part.Rows,y6.Part.L⟩:yae) z10)/\(0<=(IntKind.i64.wrap ((x5.length:Int)-(1:Int))))/\((IntKind.i64.wrap ((x5.length:Int)-(1:Int)))<(x8.length:Int))/\∃y11:yaa,(x8[(IntKind.i64.wrap ((x5.length:Int)-(1:Int))).toNat]? =some y11)/\X1 x3 (IntKind.i64.wrap (x4+(1:Int))) (x8.set ((IntKind.i64.wrap ((x5.length:Int)-(1:Int))).toNat) (⟨y11.Row,z10⟩:yaa))) ((x8.length<=1000000000)/\X1 x3 (IntKind.i64.wrap (x4+(1:Int))) (x8++([(⟨y6.Row,(⟨y6.Part.Rows,y6.Part.L⟩:yae)⟩:yaa)]:List yaa)))
def yhZ (z2 r0:List yaa) (X1:(List yaa)→Int→(List yaa)→Prop) (x3:List yaa) (x4:Int) (x5:List yaa):Prop:=
 cnd (decide (x4<(z2.length:Int))) ((0<=x4)/\(x4<(x3.length:Int))/\∃y6:yaa,(x3[x4.toNat]? =some y6)/\∀J2:Bool->(List yaa)->Prop,(∀x7 x8,yh4 x5 y6 X1 x3 x4 x7 x8->J2 x7 x8)->cnd (decide ((0:Int)<=(IntKind.i64.wrap ((x5.length:Int)-(1:Int))))) ((0<=(IntKind.i64.wrap ((x5.length:Int)-(1:Int))))/\((IntKind.i64.wrap ((x5.length:Int)-(1:Int)))<(x5.length:Int))/\∃y12:yaa,(x5[(IntKind.i64.wrap ((x5.length:Int)-(1:Int))).toNat]? =some y12)/\∃z13,(ycg y12.Row y6.Row z13)/\J2 (z13==(0:Int)) x5) (J2 false x5)) (x5=r0)
def yb0 (a0:List (List yaa)) (r0:List yaa):Prop:=
 ∃z1,(yaQ a0 z1)/\∃z2,(ya5 yd4 z1 z2)/\(z2.length=z1.length)/\∀X1:(List yaa)->Int->(List yaa)->Prop,(∀x3 x4 x5,yhZ z2 r0 X1 x3 x4 x5->X1 x3 x4 x5)->X1 z2 (0:Int) ([]:List yaa)
def yem (X1:(List yaa)→Int→(List yaa)→Prop) (x3:List yaa) (x4:Int) (x5:List yaa) (y6:yaa) (x7:Bool) (x8:List yaa):Prop:=
 cnd x7 ((0<=(IntKind.i64.wrap ((x5.length:Int)-(1:Int))))/\((IntKind.i64.wrap ((x5.length:Int)-(1:Int)))<(x8.length:Int))/\∃y9:yaa,(x8[(IntKind.i64.wrap ((x5.length:Int)-(1:Int))).toNat]? =some y9)/\∃z10,(ycJ (⟨y9.Part.Rows,y9.Part.L⟩:yae) (⟨y6.Part.Rows,y6.Part.L⟩:yae) z10)/\(0<=(IntKind.i64.wrap ((x5.length:Int)-(1:Int))))/\((IntKind.i64.wrap ((x5.length:Int)-(1:Int)))<(x8.length:Int))/\∃y11:yaa,(x8[(IntKind.i64.wrap ((x5.length:Int)-(1:Int))).toNat]? =some y11)/\X1 x3 (IntKind.i64.wrap (x4+(1:Int))) (x8.set ((IntKind.i64.wrap ((x5.length:Int)-(1:Int))).toNat) (⟨y11.Row,z10⟩:yaa))) ((x8.length<=1000000000)/\X1 x3 (IntKind.i64.wrap (x4+(1:Int))) (x8++([(⟨y6.Row,(⟨y6.Part.Rows,y6.Part.L⟩:yae)⟩:yaa)]:List yaa)))
def yfl (r0 z2:List yaa) (X1:(List yaa)→Int→(List yaa)→Prop) (x3:List yaa) (x4:Int) (x5:List yaa):Prop:=
 cnd (decide (x4<(z2.length:Int))) ((0<=x4)/\(x4<(x3.length:Int))/\∃y6:yaa,(x3[x4.toNat]? =some y6)/\cnd (decide ((0:Int)<=(IntKind.i64.wrap ((x5.length:Int)-(1:Int))))) ((0<=(IntKind.i64.wrap ((x5.length:Int)-(1:Int))))/\((IntKind.i64.wrap ((x5.length:Int)-(1:Int)))<(x5.length:Int))/\∃y12:yaa,(x5[(IntKind.i64.wrap ((x5.length:Int)-(1:Int))).toNat]? =some y12)/\∃z13,(ycg y12.Row y6.Row z13)/\yem X1 x3 x4 x5 y6 (z13==(0:Int)) x5) (yem X1 x3 x4 x5 y6 false x5)) (x5=r0)
def ykW (a0:List (List yaa)) (r0:List yaa):Prop:=
 ∃z1,(yaQ a0 z1)/\∃z2,(ya5 yd4 z1 z2)/\(z2.length=z1.length)/\∀X1:(List yaa)->Int->(List yaa)->Prop,(∀x3 x4 x5,yfl r0 z2 X1 x3 x4 x5->X1 x3 x4 x5)->X1 z2 (0:Int) ([]:List yaa)
theorem ynF (X1:(List yaa)→Int→(List yaa)→Prop) (x3:List yaa) (x4:Int) (x5:List yaa) (y6:yaa) {x7:Bool} {x8:List yaa} (h:yem X1 x3 x4 x5 y6 x7 x8):yh4 x5 y6 X1 x3 x4 x7 x8:=by
 unfold yh4
 unfold yem at h
 exact h
theorem ynl (r0 z2:List yaa) {X1:(List yaa)→Int→(List yaa)→Prop} {x3:List yaa} {x4:Int} {x5:List yaa} (h:yfl r0 z2 X1 x3 x4 x5):yhZ z2 r0 X1 x3 x4 x5:=by
 unfold yhZ
 unfold yfl at h
 refine yak h (fun h=> ?_) (fun h=> ?_)
 ·obtain ⟨h0,h⟩:=h
  refine ⟨h0,?_⟩
  obtain ⟨h0,h⟩:=h
  refine ⟨h0,?_⟩
  obtain ⟨y6,h⟩:=h
  refine ⟨y6,?_⟩
  obtain ⟨h0,h⟩:=h
  refine ⟨h0,?_⟩
  intro J2 kJ2
  have hJ2:∀x7 x8,yem X1 x3 x4 x5 y6 x7 x8->J2 x7 x8:=fun x7 x8 q=>kJ2 x7 x8 (ynF X1 x3 x4 x5 y6 q)
  refine yak h (fun h=> ?_) (fun h=> ?_)
  ·obtain ⟨h0,h⟩:=h
   refine ⟨h0,?_⟩
   obtain ⟨h0,h⟩:=h
   refine ⟨h0,?_⟩
   obtain ⟨y12,h⟩:=h
   refine ⟨y12,?_⟩
   obtain ⟨h0,h⟩:=h
   refine ⟨h0,?_⟩
   obtain ⟨z13,h⟩:=h
   refine ⟨z13,?_⟩
   obtain ⟨h0,h⟩:=h
   refine ⟨h0,?_⟩
   exact hJ2 _ _ h
  ·exact hJ2 _ _ h
 ·exact h
theorem yrw (a0:List (List yaa)) (r0:List yaa) (h:ykW a0 r0):yb0 a0 r0:=by
 unfold yb0
 unfold ykW at h
 obtain ⟨z1,h⟩:=h
 refine ⟨z1,?_⟩
 obtain ⟨h0,h⟩:=h
 refine ⟨h0,?_⟩
 obtain ⟨z2,h⟩:=h
 refine ⟨z2,?_⟩
 obtain ⟨h0,h⟩:=h
 refine ⟨h0,?_⟩
 obtain ⟨h0,h⟩:=h
 refine ⟨h0,?_⟩
 intro X1 k
 exact h X1 (fun x3 x4 x5 q=>k x3 x4 x5 (ynl r0 z2 q))
def ykX:Sp KK:=⟨6,[.v 25],[26],appW (K:=KK) [26] [.v 25] yb0⟩
def ypR:An KK:=(.s .o (.s .o (.s .o (.s .o (.s (.s .o (.b (.l ⟨[(4, .row 49),(12, .sl 34),(13, .kp 53),(14, .it .i64)],[],[(49,34)]⟩ (fun _=>(.s .o (.s (.c .o .o) (.s (.b (.s .o (.s (.s .o (.j ⟨[(4, .row 49),(6, .px 6 0),(7, .kp 97),(12, .kp 98),(13, .kp 53),(14, .kp 99),(33, .bl)],[(6,34,[.kp 100, .kp 101, .kp 102])],[(49,34)]⟩ .o (fun _=>(.c (.s .o .o) .o)))) .o))) .o))))))) (.s .o .o))))))
def yp9:Cf KK:=⟨CC,[yiL,yeP,yg5],[ybJ,ya0],52,[],none,false⟩
theorem ypP:SpOk Try.prog CC ykX:=yay (F:=yp9) (ps:= [.v 25]) (rs:= [26]) (w:=yb0) ybh (yas ynw (yas ygB (yas yjj yaE))) (yj9 ygp (yj9 yd9 yaD)) t6 (A:=ypR) (by kernel_rfl) (by kernel_rfl) (fun a0 r0=>show _=_ by kernel_rfl)
def yfI (x1:Int) (a0 a1:yab) (r0:Bool) (X1:Int→Prop) (x2:Bool):Prop:=
 cnd x2 ((0<=x1/\x1<(a0.S.length:Int))/\(0<=x1/\x1<(a1.S.length:Int))/\cnd (!((bAt a0.S x1)==(bAt a1.S x1))) ((0<=x1/\x1<(a0.S.length:Int))/\(0<=x1/\x1<(a1.S.length:Int))/\(decide ((bAt a0.S x1)<(bAt a1.S x1)))=r0) (X1 (IntKind.i64.wrap (x1+(1:Int))))) ((decide ((a0.S.length:Int)<(a1.S.length:Int)))=r0)
def yf5 (a0 a1:yab) (r0:Bool) (X1:Int→Prop) (x1:Int):Prop:=
 ∀J2:Bool->Prop,(∀x2,yfI x1 a0 a1 r0 X1 x2->J2 x2)->cnd (decide (x1<(a0.S.length:Int))) (J2 (decide (x1<(a1.S.length:Int)))) (J2 false)
def yaS (a0 a1:yab) (r0:Bool):Prop:=
 cnd (!(a0.Kind==a1.Kind)) ((decide (a0.Kind<a1.Kind))=r0) (cnd (a0.Kind==(3:Int)) (∀X1:Int->Prop,(∀x1,yf5 a0 a1 r0 X1 x1->X1 x1)->X1 (0:Int)) ((decide (a0.N<a1.N))=r0))
def yb8 (X1:Int→Prop) (a0 a1:yab) (r0:Bool) (x1:Int) (x2:Bool):Prop:=
 cnd x2 ((0<=x1/\x1<(a0.S.length:Int))/\(0<=x1/\x1<(a1.S.length:Int))/\cnd (!((bAt a0.S x1)==(bAt a1.S x1))) ((0<=x1/\x1<(a0.S.length:Int))/\(0<=x1/\x1<(a1.S.length:Int))/\(decide ((bAt a0.S x1)<(bAt a1.S x1)))=r0) (X1 (IntKind.i64.wrap (x1+(1:Int))))) ((decide ((a0.S.length:Int)<(a1.S.length:Int)))=r0)
def ydD (a0 a1:yab) (r0:Bool) (X1:Int→Prop) (x1:Int):Prop:=
 cnd (decide (x1<(a0.S.length:Int))) (yb8 X1 a0 a1 r0 x1 (decide (x1<(a1.S.length:Int)))) (yb8 X1 a0 a1 r0 x1 false)
def yhW (a0 a1:yab) (r0:Bool):Prop:=
 cnd (!(a0.Kind==a1.Kind)) ((decide (a0.Kind<a1.Kind))=r0) (cnd (a0.Kind==(3:Int)) (∀X1:Int->Prop,(∀x1,ydD a0 a1 r0 X1 x1->X1 x1)->X1 (0:Int)) ((decide (a0.N<a1.N))=r0))
theorem ykc (X1:Int→Prop) (a0 a1:yab) (r0:Bool) (x1:Int) {x2:Bool} (h:yb8 X1 a0 a1 r0 x1 x2):yfI x1 a0 a1 r0 X1 x2:=by
 unfold yfI
 unfold yb8 at h
 exact h
theorem ykP (a0 a1:yab) (r0:Bool) {X1:Int→Prop} {x1:Int} (h:ydD a0 a1 r0 X1 x1):yf5 a0 a1 r0 X1 x1:=by
 unfold yf5
 unfold ydD at h
 intro J2 kJ2
 have hJ2:∀x2,yb8 X1 a0 a1 r0 x1 x2->J2 x2:=fun x2 q=>kJ2 x2 (ykc X1 a0 a1 r0 x1 q)
 refine yak h (fun h=> ?_) (fun h=> ?_)
 ·exact hJ2 _ h
 ·exact hJ2 _ h
theorem ynI (a0 a1:yab) (r0:Bool) (h:yhW a0 a1 r0):yaS a0 a1 r0:=by
 unfold yaS
 unfold yhW at h
 refine yak h (fun h=> ?_) (fun h=> ?_)
 ·exact h
 ·refine yak h (fun h=> ?_) (fun h=> ?_)
  ·intro X1 k
   exact h X1 (fun x1 q=>k x1 (ykP a0 a1 r0 q))
  ·exact h
def yf6:Sp KK:=⟨41,[.v 70, .v 70],[4],appW (K:=KK) [4] [.v 70, .v 70] yaS⟩
def ymU:An KK:=(.s .o (.s (.s .o (.c (.s .o .o) .o)) (.s (.s .o (.c (.s (.s .o (.b (.l ⟨[(2, .px 2 0),(3, .px 3 0),(5, .it .i64)],[(2,70,[.kp 35, .kp 36, .kp 37]),(3,70,[.kp 38, .kp 39, .kp 40])],[]⟩ (fun _=>(.s (.j ⟨[(2, .px 2 0),(3, .px 3 0),(5, .kp 44),(30, .bl)],[(2,70,[.kp 35, .kp 36, .kp 37]),(3,70,[.kp 38, .kp 39, .kp 40])],[]⟩ .o (fun _=>(.c .o .o))) (.s (.b (.s .o (.c (.s .o .o) .o))) .o)))))) (.s .o .o)) .o)) (.s .o .o))))
def ymw:Cf KK:=⟨CC,[],[],63,[],none,false⟩
theorem yhF:SpOk Try.prog CC yf6:=yay (F:=ymw) (ps:= [.v 70, .v 70]) (rs:= [4]) (w:=yaS) ybh yaE yaD t41 (A:=ymU) (by kernel_rfl) (by kernel_rfl) (fun a0 a1 r0=>show _=_ by kernel_rfl)
def yfZ (x1:Int) (a0 a1:List yab) (r0:Bool) (X1:Int→Prop) (x2:Bool):Prop:=
 cnd x2 ((0<=x1)/\(x1<(a0.length:Int))/\∃y3:yab,(a0[x1.toNat]? =some y3)/\(0<=x1)/\(x1<(a1.length:Int))/\∃y4:yab,(a1[x1.toNat]? =some y4)/\cnd (!((y3.Kind==y4.Kind)&&((y3.N==y4.N)&&((y3.S==y4.S)&&true)))) ((0<=x1)/\(x1<(a0.length:Int))/\∃y5:yab,(a0[x1.toNat]? =some y5)/\(0<=x1)/\(x1<(a1.length:Int))/\∃y6:yab,(a1[x1.toNat]? =some y6)/\∃z7,(yaS y5 y6 z7)/\z7=r0) (X1 (IntKind.i64.wrap (x1+(1:Int))))) ((a0.length<=maxLen->(a1.length<=maxLen->(decide ((a0.length:Int)<(a1.length:Int)))=r0)))
def yfT (a0 a1:List yab) (r0:Bool) (X1:Int→Prop) (x1:Int):Prop:=
 ∀J2:Bool->Prop,(∀x2,yfZ x1 a0 a1 r0 X1 x2->J2 x2)->(a0.length<=maxLen->cnd (decide (x1<(a0.length:Int))) ((a1.length<=maxLen->J2 (decide (x1<(a1.length:Int))))) (J2 false))
def ybw (a0 a1:List yab) (r0:Bool):Prop:=
 ∀X1:Int->Prop,(∀x1,yfT a0 a1 r0 X1 x1->X1 x1)->X1 (0:Int)
def yb7 (X1:Int→Prop) (a0 a1:List yab) (r0:Bool) (x1:Int) (x2:Bool):Prop:=
 cnd x2 ((0<=x1)/\(x1<(a0.length:Int))/\∃y3:yab,(a0[x1.toNat]? =some y3)/\(0<=x1)/\(x1<(a1.length:Int))/\∃y4:yab,(a1[x1.toNat]? =some y4)/\cnd (!((y3.Kind==y4.Kind)&&((y3.N==y4.N)&&((y3.S==y4.S)&&true)))) ((0<=x1)/\(x1<(a0.length:Int))/\∃y5:yab,(a0[x1.toNat]? =some y5)/\(0<=x1)/\(x1<(a1.length:Int))/\∃y6:yab,(a1[x1.toNat]? =some y6)/\∃z7,(yaS y5 y6 z7)/\z7=r0) (X1 (IntKind.i64.wrap (x1+(1:Int))))) ((a0.length<=maxLen->(a1.length<=maxLen->(decide ((a0.length:Int)<(a1.length:Int)))=r0)))
def ydB (a0 a1:List yab) (r0:Bool) (X1:Int→Prop) (x1:Int):Prop:=
 (a0.length<=maxLen->cnd (decide (x1<(a0.length:Int))) ((a1.length<=maxLen->yb7 X1 a0 a1 r0 x1 (decide (x1<(a1.length:Int))))) (yb7 X1 a0 a1 r0 x1 false))
def yh1 (a0 a1:List yab) (r0:Bool):Prop:=
 ∀X1:Int->Prop,(∀x1,ydB a0 a1 r0 X1 x1->X1 x1)->X1 (0:Int)
theorem ykr (X1:Int→Prop) (a0 a1:List yab) (r0:Bool) (x1:Int) {x2:Bool} (h:yb7 X1 a0 a1 r0 x1 x2):yfZ x1 a0 a1 r0 X1 x2:=by
 unfold yfZ
 unfold yb7 at h
 exact h
theorem ykD (a0 a1:List yab) (r0:Bool) {X1:Int→Prop} {x1:Int} (h:ydB a0 a1 r0 X1 x1):yfT a0 a1 r0 X1 x1:=by
 unfold yfT
 unfold ydB at h
 intro J2 kJ2
 have hJ2:∀x2,yb7 X1 a0 a1 r0 x1 x2->J2 x2:=fun x2 q=>kJ2 x2 (ykr X1 a0 a1 r0 x1 q)
 intro c
 replace h:=h c
 refine yak h (fun h=> ?_) (fun h=> ?_)
 ·intro c
  replace h:=h c
  exact hJ2 _ h
 ·exact hJ2 _ h
theorem yni (a0 a1:List yab) (r0:Bool) (h:yh1 a0 a1 r0):ybw a0 a1 r0:=by
 unfold ybw
 unfold yh1 at h
 intro X1 k
 exact h X1 (fun x1 q=>k x1 (ykD a0 a1 r0 q))
def yf3:Sp KK:=⟨23,[.v 36, .v 36],[4],appW (K:=KK) [4] [.v 36, .v 36] ybw⟩
def ym7:An KK:=(.s .o (.s (.s .o (.b (.l ⟨[(0, .kp 8),(1, .kp 9),(5, .it .i64)],[],[]⟩ (fun _=>(.s (.j ⟨[(0, .kp 8),(1, .kp 9),(5, .kp 14),(15, .bl)],[],[]⟩ .o (fun _=>(.c .o .o))) (.s (.b (.s .o (.c (.s .o .o) .o))) .o)))))) (.s .o .o)))
def ymQ:Cf KK:=⟨CC,[yf6],[],41,[],none,false⟩
theorem yhv:SpOk Try.prog CC yf3:=yay (F:=ymQ) (ps:= [.v 36, .v 36]) (rs:= [4]) (w:=ybw) ybh (yas yhF yaE) yaD t23 (A:=ym7) (by kernel_rfl) (by kernel_rfl) (fun a0 a1 r0=>show _=_ by kernel_rfl)
def ydS (a0 a1:List yab) (r0:Bool):Prop:=
 ∃z1,(ybw a0 a1 z1)/\cnd (!z1) (∃z2,(ybw a1 a0 z2)/\(!z2)=r0) (false=r0)
def yjq:Sp KK:=⟨24,[.v 36, .v 36],[4],appW (K:=KK) [4] [.v 36, .v 36] ydS⟩
def ypq:An KK:=(.s .o (.s .o .o))
def yoz:Cf KK:=⟨CC,[yf3],[],15,[],none,false⟩
theorem ypv:SpOk Try.prog CC yjq:=yay (F:=yoz) (ps:= [.v 36, .v 36]) (rs:= [4]) (w:=ydS) ybh (yas yhv yaE) yaD t24 (A:=ypq) (by kernel_rfl) (by kernel_rfl) (fun a0 a1 r0=>show _=_ by kernel_rfl)
def yfX (x3 x1:Int) (a0:List yac) (X1:Int→(List (List yac))→Prop) (x7:List (List yac)):Prop:=
 (0<=(0:Int)/\(0:Int)<=x3/\x3<=(x7.length:Int))/\((yd5 x7 (0:Int) x3).length<=400000000)/\(0<=x1)/\(x1<(a0.length:Int))/\∃y8:yac,(a0[x1.toNat]? =some y8)/\((([]:List (List yac))++(yd5 x7 (0:Int) x3)).length<=1000000000)/\(0<=x3/\x3<=(x7.length:Int)/\(x7.length:Int)<=(x7.length:Int))/\(((([]:List (List yac))++(yd5 x7 (0:Int) x3))++([([y8]:List yac)]:List (List yac))).length<=1000000000)/\((yd5 x7 x3 (x7.length:Int)).length<=400000000)/\X1 (IntKind.i64.wrap (x1+(1:Int))) (((([]:List (List yac))++(yd5 x7 (0:Int) x3))++([([y8]:List yac)]:List (List yac)))++(yd5 x7 x3 (x7.length:Int)))
def yfU (x3 x1:Int) (a0:List yac) (X1:Int→(List (List yac))→Prop) (J4:(List (List yac))→Prop) (x9:Bool) (x10:List (List yac)):Prop:=
 cnd x9 ((0<=x3)/\(x3<(x10.length:Int))/\∃y11:(List yac),(x10[x3.toNat]? =some y11)/\(y11.length<=400000000)/\(0<=x1)/\(x1<(a0.length:Int))/\∃y12:yac,(a0[x1.toNat]? =some y12)/\((([]:List yac)++y11).length<=1000000000)/\(0<=x3)/\(x3<(x10.length:Int))/\∃y13:(List yac),(x10[x3.toNat]? =some y13)/\X1 (IntKind.i64.wrap (x1+(1:Int))) (x10.set x3.toNat ((([]:List yac)++y11)++([y12]:List yac)))) (J4 x10)
def yfF (X2:Int→(List (List yac))→Prop) (x3 x1:Int) (a0:List yac) (X1:Int→(List (List yac))→Prop) (x5:Bool) (x6:List (List yac)):Prop:=
 cnd x5 (X2 (IntKind.i64.wrap (x3+(1:Int))) x6) (∀J4:(List (List yac))->Prop,(∀x7,yfX x3 x1 a0 X1 x7->J4 x7)->∀J5:Bool->(List (List yac))->Prop,(∀x9 x10,yfU x3 x1 a0 X1 J4 x9 x10->J5 x9 x10)->cnd (decide (x3<(x6.length:Int))) ((0<=x3)/\(x3<(x6.length:Int))/\∃y14:(List yac),(x6[x3.toNat]? =some y14)/\(0<=(0:Int))/\((0:Int)<(y14.length:Int))/\∃y15:yac,(y14[(0:Int).toNat]? =some y15)/\(0<=x1)/\(x1<(a0.length:Int))/\∃y16:yac,(a0[x1.toNat]? =some y16)/\∃z17,(ydS y15.Group y16.Group z17)/\J5 z17 x6) (J5 false x6))
def yfQ (x1:Int) (a0:List yac) (X1 X2:Int→(List (List yac))→Prop) (x3:Int) (x4:List (List yac)):Prop:=
 ∀J3:Bool->(List (List yac))->Prop,(∀x5 x6,yfF X2 x3 x1 a0 X1 x5 x6->J3 x5 x6)->cnd (decide (x3<(x4.length:Int))) ((0<=x3)/\(x3<(x4.length:Int))/\∃y18:(List yac),(x4[x3.toNat]? =some y18)/\(0<=(0:Int))/\((0:Int)<(y18.length:Int))/\∃y19:yac,(y18[(0:Int).toNat]? =some y19)/\(0<=x1)/\(x1<(a0.length:Int))/\∃y20:yac,(a0[x1.toNat]? =some y20)/\∃z21,(ybw y19.Group y20.Group z21)/\J3 z21 x4) (J3 false x4)
def yf2 (a0:List yac) (r0:List (List yac)) (X1:Int→(List (List yac))→Prop) (x1:Int) (x2:List (List yac)):Prop:=
 (a0.length<=maxLen->cnd (decide (x1<(a0.length:Int))) (∀X2:Int->(List (List yac))->Prop,(∀x3 x4,yfQ x1 a0 X1 X2 x3 x4->X2 x3 x4)->X2 (0:Int) x2) (x2=r0))
def ych (a0:List yac) (r0:List (List yac)):Prop:=
 ∀X1:Int->(List (List yac))->Prop,(∀x1 x2,yf2 a0 r0 X1 x1 x2->X1 x1 x2)->X1 (0:Int) ([]:List (List yac))
def yca (X1:Int→(List (List yac))→Prop) (a0:List yac) (x1 x3:Int) (x7:List (List yac)):Prop:=
 (0<=(0:Int)/\(0:Int)<=x3/\x3<=(x7.length:Int))/\((yd5 x7 (0:Int) x3).length<=400000000)/\(0<=x1)/\(x1<(a0.length:Int))/\∃y8:yac,(a0[x1.toNat]? =some y8)/\((([]:List (List yac))++(yd5 x7 (0:Int) x3)).length<=1000000000)/\(0<=x3/\x3<=(x7.length:Int)/\(x7.length:Int)<=(x7.length:Int))/\(((([]:List (List yac))++(yd5 x7 (0:Int) x3))++([([y8]:List yac)]:List (List yac))).length<=1000000000)/\((yd5 x7 x3 (x7.length:Int)).length<=400000000)/\X1 (IntKind.i64.wrap (x1+(1:Int))) (((([]:List (List yac))++(yd5 x7 (0:Int) x3))++([([y8]:List yac)]:List (List yac)))++(yd5 x7 x3 (x7.length:Int)))
def yb6 (X1:Int→(List (List yac))→Prop) (a0:List yac) (x1 x3:Int) (x9:Bool) (x10:List (List yac)):Prop:=
 cnd x9 ((0<=x3)/\(x3<(x10.length:Int))/\∃y11:(List yac),(x10[x3.toNat]? =some y11)/\(y11.length<=400000000)/\(0<=x1)/\(x1<(a0.length:Int))/\∃y12:yac,(a0[x1.toNat]? =some y12)/\((([]:List yac)++y11).length<=1000000000)/\(0<=x3)/\(x3<(x10.length:Int))/\∃y13:(List yac),(x10[x3.toNat]? =some y13)/\X1 (IntKind.i64.wrap (x1+(1:Int))) (x10.set x3.toNat ((([]:List yac)++y11)++([y12]:List yac)))) (yca X1 a0 x1 x3 x10)
def ycF (X1 X2:Int→(List (List yac))→Prop) (a0:List yac) (x1 x3:Int) (x5:Bool) (x6:List (List yac)):Prop:=
 cnd x5 (X2 (IntKind.i64.wrap (x3+(1:Int))) x6) (cnd (decide (x3<(x6.length:Int))) ((0<=x3)/\(x3<(x6.length:Int))/\∃y14:(List yac),(x6[x3.toNat]? =some y14)/\(0<=(0:Int))/\((0:Int)<(y14.length:Int))/\∃y15:yac,(y14[(0:Int).toNat]? =some y15)/\(0<=x1)/\(x1<(a0.length:Int))/\∃y16:yac,(a0[x1.toNat]? =some y16)/\∃z17,(ydS y15.Group y16.Group z17)/\yb6 X1 a0 x1 x3 z17 x6) (yb6 X1 a0 x1 x3 false x6))
def yfc (X1:Int→(List (List yac))→Prop) (a0:List yac) (x1:Int) (X2:Int→(List (List yac))→Prop) (x3:Int) (x4:List (List yac)):Prop:=
 cnd (decide (x3<(x4.length:Int))) ((0<=x3)/\(x3<(x4.length:Int))/\∃y18:(List yac),(x4[x3.toNat]? =some y18)/\(0<=(0:Int))/\((0:Int)<(y18.length:Int))/\∃y19:yac,(y18[(0:Int).toNat]? =some y19)/\(0<=x1)/\(x1<(a0.length:Int))/\∃y20:yac,(a0[x1.toNat]? =some y20)/\∃z21,(ybw y19.Group y20.Group z21)/\ycF X1 X2 a0 x1 x3 z21 x4) (ycF X1 X2 a0 x1 x3 false x4)
def yfe (a0:List yac) (r0:List (List yac)) (X1:Int→(List (List yac))→Prop) (x1:Int) (x2:List (List yac)):Prop:=
 (a0.length<=maxLen->cnd (decide (x1<(a0.length:Int))) (∀X2:Int->(List (List yac))->Prop,(∀x3 x4,yfc X1 a0 x1 X2 x3 x4->X2 x3 x4)->X2 (0:Int) x2) (x2=r0))
def yhM (a0:List yac) (r0:List (List yac)):Prop:=
 ∀X1:Int->(List (List yac))->Prop,(∀x1 x2,yfe a0 r0 X1 x1 x2->X1 x1 x2)->X1 (0:Int) ([]:List (List yac))
theorem ykN (X1:Int→(List (List yac))→Prop) (a0:List yac) (x1 x3:Int) {x7:List (List yac)} (h:yca X1 a0 x1 x3 x7):yfX x3 x1 a0 X1 x7:=by
 unfold yfX
 unfold yca at h
 exact h
theorem ykt (J4:(List (List yac))→Prop) (X1:Int→(List (List yac))→Prop) (a0:List yac) (x1 x3:Int) (hJ4:∀(x7:(List (List yac))),yca X1 a0 x1 x3 x7→J4 x7) {x9:Bool} {x10:List (List yac)} (h:yb6 X1 a0 x1 x3 x9 x10):yfU x3 x1 a0 X1 J4 x9 x10:=by
 unfold yfU
 unfold yb6 at h
 refine yak h (fun h=> ?_) (fun h=> ?_)
 ·exact h
 ·exact hJ4 _ h
theorem ykd (X1 X2:Int→(List (List yac))→Prop) (a0:List yac) (x1 x3:Int) {x5:Bool} {x6:List (List yac)} (h:ycF X1 X2 a0 x1 x3 x5 x6):yfF X2 x3 x1 a0 X1 x5 x6:=by
 unfold yfF
 unfold ycF at h
 refine yak h (fun h=> ?_) (fun h=> ?_)
 ·exact h
 ·intro J4 kJ4
  have hJ4:∀x7,yca X1 a0 x1 x3 x7->J4 x7:=fun x7 q=>kJ4 x7 (ykN X1 a0 x1 x3 q)
  intro J5 kJ5
  have hJ5:∀x9 x10,yb6 X1 a0 x1 x3 x9 x10->J5 x9 x10:=fun x9 x10 q=>kJ5 x9 x10 (ykt J4 X1 a0 x1 x3 hJ4 q)
  refine yak h (fun h=> ?_) (fun h=> ?_)
  ·obtain ⟨h0,h⟩:=h
   refine ⟨h0,?_⟩
   obtain ⟨h0,h⟩:=h
   refine ⟨h0,?_⟩
   obtain ⟨y14,h⟩:=h
   refine ⟨y14,?_⟩
   obtain ⟨h0,h⟩:=h
   refine ⟨h0,?_⟩
   obtain ⟨h0,h⟩:=h
   refine ⟨h0,?_⟩
   obtain ⟨h0,h⟩:=h
   refine ⟨h0,?_⟩
   obtain ⟨y15,h⟩:=h
   refine ⟨y15,?_⟩
   obtain ⟨h0,h⟩:=h
   refine ⟨h0,?_⟩
   obtain ⟨h0,h⟩:=h
   refine ⟨h0,?_⟩
   obtain ⟨h0,h⟩:=h
   refine ⟨h0,?_⟩
   obtain ⟨y16,h⟩:=h
   refine ⟨y16,?_⟩
   obtain ⟨h0,h⟩:=h
   refine ⟨h0,?_⟩
   obtain ⟨z17,h⟩:=h
   refine ⟨z17,?_⟩
   obtain ⟨h0,h⟩:=h
   refine ⟨h0,?_⟩
   exact hJ5 _ _ h
  ·exact hJ5 _ _ h
theorem ykm (X1:Int→(List (List yac))→Prop) (a0:List yac) (x1:Int) {X2:Int→(List (List yac))→Prop} {x3:Int} {x4:List (List yac)} (h:yfc X1 a0 x1 X2 x3 x4):yfQ x1 a0 X1 X2 x3 x4:=by
 unfold yfQ
 unfold yfc at h
 intro J3 kJ3
 have hJ3:∀x5 x6,ycF X1 X2 a0 x1 x3 x5 x6->J3 x5 x6:=fun x5 x6 q=>kJ3 x5 x6 (ykd X1 X2 a0 x1 x3 q)
 refine yak h (fun h=> ?_) (fun h=> ?_)
 ·obtain ⟨h0,h⟩:=h
  refine ⟨h0,?_⟩
  obtain ⟨h0,h⟩:=h
  refine ⟨h0,?_⟩
  obtain ⟨y18,h⟩:=h
  refine ⟨y18,?_⟩
  obtain ⟨h0,h⟩:=h
  refine ⟨h0,?_⟩
  obtain ⟨h0,h⟩:=h
  refine ⟨h0,?_⟩
  obtain ⟨h0,h⟩:=h
  refine ⟨h0,?_⟩
  obtain ⟨y19,h⟩:=h
  refine ⟨y19,?_⟩
  obtain ⟨h0,h⟩:=h
  refine ⟨h0,?_⟩
  obtain ⟨h0,h⟩:=h
  refine ⟨h0,?_⟩
  obtain ⟨h0,h⟩:=h
  refine ⟨h0,?_⟩
  obtain ⟨y20,h⟩:=h
  refine ⟨y20,?_⟩
  obtain ⟨h0,h⟩:=h
  refine ⟨h0,?_⟩
  obtain ⟨z21,h⟩:=h
  refine ⟨z21,?_⟩
  obtain ⟨h0,h⟩:=h
  refine ⟨h0,?_⟩
  exact hJ3 _ _ h
 ·exact hJ3 _ _ h
theorem ykf (a0:List yac) (r0:List (List yac)) {X1:Int→(List (List yac))→Prop} {x1:Int} {x2:List (List yac)} (h:yfe a0 r0 X1 x1 x2):yf2 a0 r0 X1 x1 x2:=by
 unfold yf2
 unfold yfe at h
 intro c
 replace h:=h c
 refine yak h (fun h=> ?_) (fun h=> ?_)
 ·intro X2 k
  exact h X2 (fun x3 x4 q=>k x3 x4 (ykm X1 a0 x1 q))
 ·exact h
theorem ynG (a0:List yac) (r0:List (List yac)) (h:yhM a0 r0):ych a0 r0:=by
 unfold ych
 unfold yhM at h
 intro X1 k
 exact h X1 (fun x1 x2 q=>k x1 x2 (ykf a0 r0 q))
def yh6:Sp KK:=⟨7,[.v 27],[46],appW (K:=KK) [46] [.v 27] ych⟩
def ymg:An KK:=(.s .o (.s .o (.s (.s .o (.b (.l ⟨[(0, .kp 74),(3, .row 700003),(4, .it .i64)],[],[(700003,27)]⟩ (fun _=>(.s (.s .o (.c .o .o)) (.s (.b (.s .o (.s (.b (.l ⟨[(0, .kp 74),(3, .row 700003),(4, .kp 139),(5, .it .i64)],[],[(700003,27)]⟩ (fun _=>(.s (.j ⟨[(0, .kp 74),(3, .row 700003),(4, .kp 139),(5, .kp 144),(30, .bl)],[],[(700003,27)]⟩ .o (fun _=>(.c .o .o))) (.b .o))))) (.j ⟨[(0, .kp 74),(3, .sl 27),(4, .kp 139),(5, .kp 144)],[],[]⟩ (.j ⟨[(0, .kp 74),(3, .row 700003),(4, .kp 139),(5, .kp 144),(51, .bl)],[],[(700003,27)]⟩ .o (fun _=>(.c (.s .o .o) .o))) (fun _=> .o))))) .o)))))) (.s .o .o))))
def ymH:Cf KK:=⟨CC,[yf3,yjq],[],84,[],none,false⟩
theorem ym0:SpOk Try.prog CC yh6:=yay (F:=ymH) (ps:= [.v 27]) (rs:= [46]) (w:=ych) ybh (yas yhv (yas ypv yaE)) yaD t7 (A:=ymg) (by kernel_rfl) (by kernel_rfl) (fun a0 r0=>show _=_ by kernel_rfl)
def yk0 (a1 a0:Int) (r0:List Int) (X1:Int→(List Int)→Prop) (x1:Int) (x2:List Int):Prop:=
 cnd (decide (x1<((List.replicate a1.toNat (0:Int)).length:Int))) ((¬(IntKind.i64.wrap ((8:Int)*x1))<0)/\(0<=(IntKind.i64.wrap ((IntKind.i64.wrap (a1-(1:Int)))-x1)))/\((IntKind.i64.wrap ((IntKind.i64.wrap (a1-(1:Int)))-x1))<(x2.length:Int))/\∃y3:Int,(x2[(IntKind.i64.wrap ((IntKind.i64.wrap (a1-(1:Int)))-x1)).toNat]? =some y3)/\X1 (IntKind.i64.wrap (x1+(1:Int))) (x2.set ((IntKind.i64.wrap ((IntKind.i64.wrap (a1-(1:Int)))-x1)).toNat) (IntKind.u8.wrap (a0.fdiv (2^(min (IntKind.i64.wrap ((8:Int)*x1)).toNat IntKind.u64.bits)))))) (x2=r0)
def yeE (a0 a1:Int) (r0:List Int):Prop:=
 (0<=a1)/\(1*a1.toNat<=281474976710656)/\(a1<=1000000000)/\∀X1:Int->(List Int)->Prop,(∀x1 x2,yk0 a1 a0 r0 X1 x1 x2->X1 x1 x2)->X1 (0:Int) (List.replicate a1.toNat (0:Int))
def yhR:Sp KK:=⟨43,[.v 65, .v 3],[23],appW (K:=KK) [23] [.v 65, .v 3] yeE⟩
def yp6:An KK:=(.s .o (.s .o (.s (.s .o (.b (.l ⟨[(0, .kp 5),(1, .kp 6),(5, .row 8),(10, .kp 7),(11, .it .i64)],[],[(8,5)]⟩ (fun _=>(.s .o (.s (.c .o .o) (.s (.b (.s .o .o)) .o))))))) (.s .o .o))))
def yqN:Cf KK:=⟨CC,[],[],27,[],none,false⟩
theorem yk4:SpOk Try.prog CC yhR:=yay (F:=yqN) (ps:= [.v 65, .v 3]) (rs:= [23]) (w:=yeE) ybh yaE yaD t43 (A:=yp6) (by kernel_rfl) (by kernel_rfl) (fun a0 a1 r0=>show _=_ by kernel_rfl)
def ydP (a0:Int) (r0:Str):Prop:=
 ∃z1,(yeE (bits .xor .u64 (IntKind.u64.wrap a0) (9223372036854775808:Int)) (8:Int) z1)/\(z1.map toB)=r0
def yjl:Sp KK:=⟨42,[.v 2],[9],appW (K:=KK) [9] [.v 2] ydP⟩
def yss:An KK:=(.s .o (.s .o .o))
def yr6:Cf KK:=⟨CC,[yhR],[],8,[],none,false⟩
theorem ymo:SpOk Try.prog CC yjl:=yay (F:=yr6) (ps:= [.v 2]) (rs:= [9]) (w:=ydP) ybh (yas yk4 yaE) yaD t42 (A:=yss) (by kernel_rfl) (by kernel_rfl) (fun a0 r0=>show _=_ by kernel_rfl)
def ygF (a0:yad) (r0:Str):Prop:=
 cnd (a0.Kind==(1:Int)) (((([IntKind.u8.wrap a0.Kind]:List Int).map toB).length+(([IntKind.u8.wrap a0.N]:List Int).map toB).length<=9223372036854775807)/\((([IntKind.u8.wrap a0.Kind]:List Int).map toB)++(([IntKind.u8.wrap a0.N]:List Int).map toB))=r0) (cnd (a0.Kind==(2:Int)) (∃z1,(ydP a0.N z1)/\((([IntKind.u8.wrap a0.Kind]:List Int).map toB).length+z1.length<=9223372036854775807)/\((([IntKind.u8.wrap a0.Kind]:List Int).map toB)++z1)=r0) (cnd (a0.Kind==(3:Int)) (((([IntKind.u8.wrap a0.Kind]:List Int).map toB).length+a0.S.length<=9223372036854775807)/\((([IntKind.u8.wrap a0.Kind]:List Int).map toB)++a0.S)=r0) ((([IntKind.u8.wrap a0.Kind]:List Int).map toB)=r0)))
def yl0:Sp KK:=⟨25,[.v 61],[9],appW (K:=KK) [9] [.v 61] ygF⟩
def ysf:An KK:=(.s .o (.s .o (.s (.s .o (.b (.s .o (.c .o (.s .o (.c .o (.s .o (.c .o .o)))))))) (.s .o .o))))
def yst:Cf KK:=⟨CC,[yjl],[],34,[],none,false⟩
theorem ysH:SpOk Try.prog CC yl0:=yay (F:=yst) (ps:= [.v 61]) (rs:= [9]) (w:=ygF) ybh (yas ymo yaE) yaD t25 (A:=ysf) (by kernel_rfl) (by kernel_rfl) (fun a0 r0=>show _=_ by kernel_rfl)
def ylc (a0:List Str) (r0:Str) (X1:Int→(List Int)→Prop) (x1:Int) (x2:List Int):Prop:=
 cnd (decide (x1<(a0.length:Int))) ((0<=x1)/\(x1<(a0.length:Int))/\∃y3:Str,(a0[x1.toNat]? =some y3)/\∃z4,(yeE (IntKind.u64.wrap (y3.length:Int)) (4:Int) z4)/\(x2.length<=1000000000)/\(z4.length<=400000000)/\((x2++z4).length<=1000000000)/\(y3.length<=400000000)/\X1 (IntKind.i64.wrap (x1+(1:Int))) ((x2++z4)++(y3.map ofB))) ((x2.map toB)=r0)
def ycp (a0:List Str) (r0:Str):Prop:=
 (a0.length<=maxLen->∀X1:Int->(List Int)->Prop,(∀x1 x2,ylc a0 r0 X1 x1 x2->X1 x1 x2)->X1 (0:Int) ([]:List Int))
def ygg:Sp KK:=⟨26,[.v 76],[9],appW (K:=KK) [9] [.v 76] ycp⟩
def yqu:An KK:=(.s .o (.s .o (.s (.s .o (.b (.l ⟨[(3, .row 20),(6, .kp 6),(7, .kp 7),(8, .it .i64)],[],[(20,5)]⟩ (fun _=>(.s .o (.s (.c .o .o) (.s (.b (.s .o (.s .o .o))) .o))))))) (.s .o .o))))
def ypS:Cf KK:=⟨CC,[yhR],[],24,[],none,false⟩
theorem yhY:SpOk Try.prog CC ygg:=yay (F:=ypS) (ps:= [.v 76]) (rs:= [9]) (w:=ycp) ybh (yas yk4 yaE) yaD t26 (A:=yqu) (by kernel_rfl) (by kernel_rfl) (fun a0 r0=>show _=_ by kernel_rfl)
def ynX (a0:List yad) (r0:Str) (X1:Int→(List Str)→Prop) (x1:Int) (x2:List Str):Prop:=
 cnd (decide (x1<(a0.length:Int))) ((0<=x1)/\(x1<(a0.length:Int))/\∃y3:yad,(a0[x1.toNat]? =some y3)/\∃z4,(ygF y3 z4)/\(x2.length<=1000000000)/\X1 (IntKind.i64.wrap (x1+(1:Int))) (x2++([z4]:List Str))) (∃z5,(ycp x2 z5)/\z5=r0)
def ycw (a0:List yad) (r0:Str):Prop:=
 (a0.length<=maxLen->∀X1:Int->(List Str)->Prop,(∀x1 x2,ynX a0 r0 X1 x1 x2->X1 x1 x2)->X1 (0:Int) ([]:List Str))
def yic:Sp KK:=⟨8,[.v 29],[9],appW (K:=KK) [9] [.v 29] ycw⟩
def yup:An KK:=(.s .o (.s .o (.s (.s .o (.b (.l ⟨[(3, .row 16),(6, .kp 6),(7, .kp 7),(8, .it .i64)],[],[(16,9)]⟩ (fun _=>(.s .o (.s (.c .o .o) (.s (.b (.s .o .o)) .o))))))) (.s .o .o))))
def yub:Cf KK:=⟨CC,[yl0,ygg],[],20,[],none,false⟩
theorem yky:SpOk Try.prog CC yic:=yay (F:=yub) (ps:= [.v 29]) (rs:= [9]) (w:=ycw) ybh (yas ysH (yas yhY yaE)) yaD t8 (A:=yup) (by kernel_rfl) (by kernel_rfl) (fun a0 r0=>show _=_ by kernel_rfl)
def yk9 (r0:Str) (X1:Int→Str→Int→Prop) (x1:Int) (x2:Str) (x3:Int):Prop:=
 cnd (decide (x3<(8:Int))) (((([IntKind.u8.wrap (x1.tmod (256:Int))]:List Int).map toB).length+x2.length<=9223372036854775807)/\X1 (IntKind.u64.wrap (x1.tdiv (256:Int))) ((([IntKind.u8.wrap (x1.tmod (256:Int))]:List Int).map toB)++x2) (IntKind.i64.wrap (x3+(1:Int)))) (x2=r0)
def yeF (a0:Int) (r0:Str):Prop:=
 ∀X1:Int->Str->Int->Prop,(∀x1 x2 x3,yk9 r0 X1 x1 x2 x3->X1 x1 x2 x3)->X1 (IntKind.u64.wrap ((IntKind.u64.wrap a0)+(9223372036854775808:Int))) ([]:Str) (0:Int)
def yk3:Sp KK:=⟨27,[.v 2],[9],appW (K:=KK) [9] [.v 2] yeF⟩
def yqc:An KK:=(.s .o (.s .o (.s .o (.s (.s .o (.b (.l ⟨[(3, .it .u64),(4, .st),(5, .it .i64)],[],[]⟩ (fun _=>(.s (.s .o (.c .o .o)) (.s (.b (.s .o .o)) .o)))))) (.s .o .o)))))
def yp7:Cf KK:=⟨CC,[],[],23,[],none,false⟩
theorem yq8:SpOk Try.prog CC yk3:=yay (F:=yp7) (ps:= [.v 2]) (rs:= [9]) (w:=yeF) ybh yaE yaD t27 (A:=yqc) (by kernel_rfl) (by kernel_rfl) (fun a0 r0=>show _=_ by kernel_rfl)
def yjz (a0:List Str) (r0:Str) (X1:Str→Int→Prop) (x1:Str) (x2:Int):Prop:=
 (a0.length<=maxLen->cnd (decide (x2<(a0.length:Int))) ((0<=x2)/\(x2<(a0.length:Int))/\∃y3:Str,(a0[x2.toNat]? =some y3)/\(0<=x2)/\(x2<(a0.length:Int))/\∃y4:Str,(a0[x2.toNat]? =some y4)/\((([IntKind.u8.wrap ((IntKind.i64.wrap ((y3.length:Int).tdiv (16777216:Int))).tmod (256:Int)),IntKind.u8.wrap ((IntKind.i64.wrap ((y3.length:Int).tdiv (65536:Int))).tmod (256:Int)),IntKind.u8.wrap ((IntKind.i64.wrap ((y3.length:Int).tdiv (256:Int))).tmod (256:Int)),IntKind.u8.wrap ((y3.length:Int).tmod (256:Int))]:List Int).map toB).length+y4.length<=9223372036854775807)/\(x1.length+((([IntKind.u8.wrap ((IntKind.i64.wrap ((y3.length:Int).tdiv (16777216:Int))).tmod (256:Int)),IntKind.u8.wrap ((IntKind.i64.wrap ((y3.length:Int).tdiv (65536:Int))).tmod (256:Int)),IntKind.u8.wrap ((IntKind.i64.wrap ((y3.length:Int).tdiv (256:Int))).tmod (256:Int)),IntKind.u8.wrap ((y3.length:Int).tmod (256:Int))]:List Int).map toB)++y4).length<=9223372036854775807)/\X1 (x1++((([IntKind.u8.wrap ((IntKind.i64.wrap ((y3.length:Int).tdiv (16777216:Int))).tmod (256:Int)),IntKind.u8.wrap ((IntKind.i64.wrap ((y3.length:Int).tdiv (65536:Int))).tmod (256:Int)),IntKind.u8.wrap ((IntKind.i64.wrap ((y3.length:Int).tdiv (256:Int))).tmod (256:Int)),IntKind.u8.wrap ((y3.length:Int).tmod (256:Int))]:List Int).map toB)++y4)) (IntKind.i64.wrap (x2+(1:Int)))) (x1=r0))
def yc0 (a0:List Str) (r0:Str):Prop:=
 ∀X1:Str->Int->Prop,(∀x1 x2,yjz a0 r0 X1 x1 x2->X1 x1 x2)->X1 ([]:Str) (0:Int)
def yjC:Sp KK:=⟨28,[.v 76],[9],appW (K:=KK) [9] [.v 76] yc0⟩
def yoW:An KK:=(.s .o (.s .o (.s (.s .o (.b (.l ⟨[(0, .kp 4),(3, .st),(4, .it .i64)],[],[]⟩ (fun _=>(.s (.s .o (.c .o .o)) (.s (.b (.s .o .o)) .o)))))) (.s .o .o))))
def yoE:Cf KK:=⟨CC,[],[],42,[],none,false⟩
theorem yo0:SpOk Try.prog CC yjC:=yay (F:=yoE) (ps:= [.v 76]) (rs:= [9]) (w:=yc0) ybh yaE yaD t28 (A:=yoW) (by kernel_rfl) (by kernel_rfl) (fun a0 r0=>show _=_ by kernel_rfl)
def yhQ (x1:Int) (a0:List yab) (X1:Int→(List Str)→Prop) (x6:Str) (x7:List Str):Prop:=
 (0<=x1)/\(x1<(a0.length:Int))/\∃y8:yab,(a0[x1.toNat]? =some y8)/\(x6.length+y8.S.length<=9223372036854775807)/\(x7.length<=1000000000)/\X1 (IntKind.i64.wrap (x1+(1:Int))) (x7++([x6++y8.S]:List Str))
def yhO (x1:Int) (a0:List yab) (X1:Int→(List Str)→Prop) (x4:Str) (x5:List Str):Prop:=
 ∀J3:Str->(List Str)->Prop,(∀x6 x7,yhQ x1 a0 X1 x6 x7->J3 x6 x7)->(0<=x1)/\(x1<(a0.length:Int))/\∃y9:yab,(a0[x1.toNat]? =some y9)/\cnd (y9.Kind==(2:Int)) ((0<=x1)/\(x1<(a0.length:Int))/\∃y10:yab,(a0[x1.toNat]? =some y10)/\∃z11,(yeF y10.N z11)/\(x4.length+z11.length<=9223372036854775807)/\J3 (x4++z11) x5) (J3 x4 x5)
def yhC (a0:List yab) (r0:Str) (X1:Int→(List Str)→Prop) (x1:Int) (x2:List Str):Prop:=
 (a0.length<=maxLen->cnd (decide (x1<(a0.length:Int))) ((0<=x1)/\(x1<(a0.length:Int))/\∃y3:yab,(a0[x1.toNat]? =some y3)/\∀J2:Str->(List Str)->Prop,(∀x4 x5,yhO x1 a0 X1 x4 x5->J2 x4 x5)->(0<=x1)/\(x1<(a0.length:Int))/\∃y12:yab,(a0[x1.toNat]? =some y12)/\cnd (y12.Kind==(1:Int)) ((0<=x1)/\(x1<(a0.length:Int))/\∃y13:yab,(a0[x1.toNat]? =some y13)/\((([IntKind.u8.wrap y3.Kind]:List Int).map toB).length+(([IntKind.u8.wrap y13.N]:List Int).map toB).length<=9223372036854775807)/\J2 ((([IntKind.u8.wrap y3.Kind]:List Int).map toB)++(([IntKind.u8.wrap y13.N]:List Int).map toB)) x2) (J2 (([IntKind.u8.wrap y3.Kind]:List Int).map toB) x2)) (∃z14,(yc0 x2 z14)/\z14=r0))
def ydO (a0:List yab) (r0:Str):Prop:=
 ∀X1:Int->(List Str)->Prop,(∀x1 x2,yhC a0 r0 X1 x1 x2->X1 x1 x2)->X1 (0:Int) ([]:List Str)
def yc9 (X1:Int→(List Str)→Prop) (a0:List yab) (x1:Int) (x6:Str) (x7:List Str):Prop:=
 (0<=x1)/\(x1<(a0.length:Int))/\∃y8:yab,(a0[x1.toNat]? =some y8)/\(x6.length+y8.S.length<=9223372036854775807)/\(x7.length<=1000000000)/\X1 (IntKind.i64.wrap (x1+(1:Int))) (x7++([x6++y8.S]:List Str))
def yc8 (X1:Int→(List Str)→Prop) (a0:List yab) (x1:Int) (x4:Str) (x5:List Str):Prop:=
 (0<=x1)/\(x1<(a0.length:Int))/\∃y9:yab,(a0[x1.toNat]? =some y9)/\cnd (y9.Kind==(2:Int)) ((0<=x1)/\(x1<(a0.length:Int))/\∃y10:yab,(a0[x1.toNat]? =some y10)/\∃z11,(yeF y10.N z11)/\(x4.length+z11.length<=9223372036854775807)/\yc9 X1 a0 x1 (x4++z11) x5) (yc9 X1 a0 x1 x4 x5)
def yfk (a0:List yab) (r0:Str) (X1:Int→(List Str)→Prop) (x1:Int) (x2:List Str):Prop:=
 (a0.length<=maxLen->cnd (decide (x1<(a0.length:Int))) ((0<=x1)/\(x1<(a0.length:Int))/\∃y3:yab,(a0[x1.toNat]? =some y3)/\(0<=x1)/\(x1<(a0.length:Int))/\∃y12:yab,(a0[x1.toNat]? =some y12)/\cnd (y12.Kind==(1:Int)) ((0<=x1)/\(x1<(a0.length:Int))/\∃y13:yab,(a0[x1.toNat]? =some y13)/\((([IntKind.u8.wrap y3.Kind]:List Int).map toB).length+(([IntKind.u8.wrap y13.N]:List Int).map toB).length<=9223372036854775807)/\yc8 X1 a0 x1 ((([IntKind.u8.wrap y3.Kind]:List Int).map toB)++(([IntKind.u8.wrap y13.N]:List Int).map toB)) x2) (yc8 X1 a0 x1 (([IntKind.u8.wrap y3.Kind]:List Int).map toB) x2)) (∃z14,(yc0 x2 z14)/\z14=r0))
def ylj (a0:List yab) (r0:Str):Prop:=
 ∀X1:Int->(List Str)->Prop,(∀x1 x2,yfk a0 r0 X1 x1 x2->X1 x1 x2)->X1 (0:Int) ([]:List Str)
theorem ynj (X1:Int→(List Str)→Prop) (a0:List yab) (x1:Int) {x6:Str} {x7:List Str} (h:yc9 X1 a0 x1 x6 x7):yhQ x1 a0 X1 x6 x7:=by
 unfold yhQ
 unfold yc9 at h
 exact h
theorem yny (X1:Int→(List Str)→Prop) (a0:List yab) (x1:Int) {x4:Str} {x5:List Str} (h:yc8 X1 a0 x1 x4 x5):yhO x1 a0 X1 x4 x5:=by
 unfold yhO
 unfold yc8 at h
 intro J3 kJ3
 have hJ3:∀x6 x7,yc9 X1 a0 x1 x6 x7->J3 x6 x7:=fun x6 x7 q=>kJ3 x6 x7 (ynj X1 a0 x1 q)
 obtain ⟨h0,h⟩:=h
 refine ⟨h0,?_⟩
 obtain ⟨h0,h⟩:=h
 refine ⟨h0,?_⟩
 obtain ⟨y9,h⟩:=h
 refine ⟨y9,?_⟩
 obtain ⟨h0,h⟩:=h
 refine ⟨h0,?_⟩
 refine yak h (fun h=> ?_) (fun h=> ?_)
 ·obtain ⟨h0,h⟩:=h
  refine ⟨h0,?_⟩
  obtain ⟨h0,h⟩:=h
  refine ⟨h0,?_⟩
  obtain ⟨y10,h⟩:=h
  refine ⟨y10,?_⟩
  obtain ⟨h0,h⟩:=h
  refine ⟨h0,?_⟩
  obtain ⟨z11,h⟩:=h
  refine ⟨z11,?_⟩
  obtain ⟨h0,h⟩:=h
  refine ⟨h0,?_⟩
  obtain ⟨h0,h⟩:=h
  refine ⟨h0,?_⟩
  exact hJ3 _ _ h
 ·exact hJ3 _ _ h
theorem ynh (a0:List yab) (r0:Str) {X1:Int→(List Str)→Prop} {x1:Int} {x2:List Str} (h:yfk a0 r0 X1 x1 x2):yhC a0 r0 X1 x1 x2:=by
 unfold yhC
 unfold yfk at h
 intro c
 replace h:=h c
 refine yak h (fun h=> ?_) (fun h=> ?_)
 ·obtain ⟨h0,h⟩:=h
  refine ⟨h0,?_⟩
  obtain ⟨h0,h⟩:=h
  refine ⟨h0,?_⟩
  obtain ⟨y3,h⟩:=h
  refine ⟨y3,?_⟩
  obtain ⟨h0,h⟩:=h
  refine ⟨h0,?_⟩
  intro J2 kJ2
  have hJ2:∀x4 x5,yc8 X1 a0 x1 x4 x5->J2 x4 x5:=fun x4 x5 q=>kJ2 x4 x5 (yny X1 a0 x1 q)
  obtain ⟨h0,h⟩:=h
  refine ⟨h0,?_⟩
  obtain ⟨h0,h⟩:=h
  refine ⟨h0,?_⟩
  obtain ⟨y12,h⟩:=h
  refine ⟨y12,?_⟩
  obtain ⟨h0,h⟩:=h
  refine ⟨h0,?_⟩
  refine yak h (fun h=> ?_) (fun h=> ?_)
  ·obtain ⟨h0,h⟩:=h
   refine ⟨h0,?_⟩
   obtain ⟨h0,h⟩:=h
   refine ⟨h0,?_⟩
   obtain ⟨y13,h⟩:=h
   refine ⟨y13,?_⟩
   obtain ⟨h0,h⟩:=h
   refine ⟨h0,?_⟩
   obtain ⟨h0,h⟩:=h
   refine ⟨h0,?_⟩
   exact hJ2 _ _ h
  ·exact hJ2 _ _ h
 ·exact h
theorem yr7 (a0:List yab) (r0:Str) (h:ylj a0 r0):ydO a0 r0:=by
 unfold ydO
 unfold ylj at h
 intro X1 k
 exact h X1 (fun x1 x2 q=>k x1 x2 (ynh a0 r0 q))
def ykV:Sp KK:=⟨9,[.v 36],[9],appW (K:=KK) [9] [.v 36] ydO⟩
def yqo:An KK:=(.s .o (.s .o (.s (.s .o (.b (.l ⟨[(0, .kp 8),(3, .row 59),(4, .it .i64)],[],[(59,9)]⟩ (fun _=>(.s (.s .o (.c .o .o)) (.s (.b (.s .o (.j ⟨[(0, .kp 8),(3, .row 59),(4, .kp 14),(5, .st)],[],[(59,9)]⟩ (.s .o (.c .o .o)) (fun _=>(.j ⟨[(0, .kp 8),(3, .row 59),(4, .kp 14),(5, .st)],[],[(59,9)]⟩ (.s .o (.c .o .o)) (fun _=> .o)))))) .o)))))) (.s .o .o))))
def yqY:Cf KK:=⟨CC,[yk3,yjC],[],62,[],none,false⟩
theorem yq7:SpOk Try.prog CC ykV:=yay (F:=yqY) (ps:= [.v 36]) (rs:= [9]) (w:=ydO) ybh (yas yq8 (yas yo0 yaE)) yaD t9 (A:=yqo) (by kernel_rfl) (by kernel_rfl) (fun a0 r0=>show _=_ by kernel_rfl)
def yeC (a0 a1:Int) (r0:B128):Prop:=0<=a1/\a1<18446744073709551616/\r0=wN ((a0 % 18446744073709551616).toNat*18446744073709551616+a1.toNat)
def ymR:Sp KK:=⟨61,[.v 2, .v 65],[102],appW (K:=KK) [102] [.v 2, .v 65] yeC⟩
theorem yuv {a0:Int} {a1:Int} {r0:B128} (h:yeC a0 a1 r0):AV.Pure Try.prog 61 [.it .i64 a0, .it .u64 a1] (.agg ((yhS (K:=KK)).E.c r0)):=by
 obtain ⟨q0,q1,rfl⟩:=h
 exact yD8 q0 q1
theorem ysw:SpOk Try.prog CC ymR:=by
 intro env r hF h
 obtain ⟨a0,env0,rfl,h1⟩:=yjD h
 obtain ⟨a1,env1,rfl,h2⟩:=yjD h1
 obtain ⟨rfl,h3⟩:=ypX h2
 obtain ⟨r0,_,rfl,h4⟩:=ysl h3
 obtain ⟨rfl,h5⟩:=ywr h4
 exact ⟨rfl,(yuv h5).congr (by kernel_rfl) (by kernel_rfl)⟩
def ygj (a0 a1 r0:B128):Prop:=∃m n:Nat,a0=wN m/\a1=wN n/\r0=wN (m+n)
def yjV:Sp KK:=⟨60,[.v 102, .v 102],[102],appW (K:=KK) [102] [.v 102, .v 102] ygj⟩
theorem yqA {a0:B128} {a1:B128} {r0:B128} (h:ygj a0 a1 r0):AV.Pure Try.prog 60 [.agg ((yhS (K:=KK)).E.c a0), .agg ((yhS (K:=KK)).E.c a1)] (.agg ((yhS (K:=KK)).E.c r0)):=by
 obtain ⟨m,n,rfl,rfl,rfl⟩:=h
 exact yzC m n
theorem ypo:SpOk Try.prog CC yjV:=by
 intro env r hF h
 obtain ⟨a0,env0,rfl,h1⟩:=yjD h
 obtain ⟨a1,env1,rfl,h2⟩:=yjD h1
 obtain ⟨rfl,h3⟩:=ypX h2
 obtain ⟨r0,_,rfl,h4⟩:=ysl h3
 obtain ⟨rfl,h5⟩:=ywr h4
 exact ⟨rfl,(yqA h5).congr (by kernel_rfl) (by kernel_rfl)⟩
def yhV (x1:Int) (a0:List yab) (X1:Int→B128→B128→Prop) (x5:Int) (x6 x7:B128):Prop:=
 (0<=x1)/\(x1<(a0.length:Int))/\∃y8:yab,(a0[x1.toNat]? =some y8)/\∃z9,(yeC x5 (IntKind.u64.wrap y8.N) z9)/\∃z10,(ygj x7 z9 z10)/\X1 (IntKind.i64.wrap (x1+(1:Int))) x6 z10
def yht (a0:List yab) (r0:B128) (X1:Int→B128→B128→Prop) (x1:Int) (x2 x3:B128):Prop:=
 (a0.length<=maxLen->cnd (decide (x1<(a0.length:Int))) ((0<=x1)/\(x1<(a0.length:Int))/\∃y4:yab,(a0[x1.toNat]? =some y4)/\cnd (y4.Kind==(2:Int)) (∀J2:Int->B128->B128->Prop,(∀x5 x6 x7,yhV x1 a0 X1 x5 x6 x7->J2 x5 x6 x7)->(0<=x1)/\(x1<(a0.length:Int))/\∃y11:yab,(a0[x1.toNat]? =some y11)/\cnd (decide (y11.N<(0:Int))) (J2 (-1:Int) x2 x3) (J2 (0:Int) x2 x3)) (X1 (IntKind.i64.wrap (x1+(1:Int))) x2 x3)) (x3=r0))
def ydN (a0:List yab) (r0:B128):Prop:=
 ∀X1:Int->B128->B128->Prop,(∀x1 x2 x3,yht a0 r0 X1 x1 x2 x3->X1 x1 x2 x3)->X1 (0:Int) ywh ywh
def yel (X1:Int→B128→B128→Prop) (a0:List yab) (x1 x5:Int) (x6 x7:B128):Prop:=
 (0<=x1)/\(x1<(a0.length:Int))/\∃y8:yab,(a0[x1.toNat]? =some y8)/\∃z9,(yeC x5 (IntKind.u64.wrap y8.N) z9)/\∃z10,(ygj x7 z9 z10)/\X1 (IntKind.i64.wrap (x1+(1:Int))) x6 z10
def yg7 (a0:List yab) (r0:B128) (X1:Int→B128→B128→Prop) (x1:Int) (x2 x3:B128):Prop:=
 (a0.length<=maxLen->cnd (decide (x1<(a0.length:Int))) ((0<=x1)/\(x1<(a0.length:Int))/\∃y4:yab,(a0[x1.toNat]? =some y4)/\cnd (y4.Kind==(2:Int)) ((0<=x1)/\(x1<(a0.length:Int))/\∃y11:yab,(a0[x1.toNat]? =some y11)/\cnd (decide (y11.N<(0:Int))) (yel X1 a0 x1 (-1:Int) x2 x3) (yel X1 a0 x1 (0:Int) x2 x3)) (X1 (IntKind.i64.wrap (x1+(1:Int))) x2 x3)) (x3=r0))
def yhL (a0:List yab) (r0:B128):Prop:=
 ∀X1:Int->B128->B128->Prop,(∀x1 x2 x3,yg7 a0 r0 X1 x1 x2 x3->X1 x1 x2 x3)->X1 (0:Int) ywh ywh
theorem yng (X1:Int→B128→B128→Prop) (a0:List yab) (x1:Int) {x5:Int} {x6 x7:B128} (h:yel X1 a0 x1 x5 x6 x7):yhV x1 a0 X1 x5 x6 x7:=by
 unfold yhV
 unfold yel at h
 exact h
theorem yno (a0:List yab) (r0:B128) {X1:Int→B128→B128→Prop} {x1:Int} {x2 x3:B128} (h:yg7 a0 r0 X1 x1 x2 x3):yht a0 r0 X1 x1 x2 x3:=by
 unfold yht
 unfold yg7 at h
 intro c
 replace h:=h c
 refine yak h (fun h=> ?_) (fun h=> ?_)
 ·obtain ⟨h0,h⟩:=h
  refine ⟨h0,?_⟩
  obtain ⟨h0,h⟩:=h
  refine ⟨h0,?_⟩
  obtain ⟨y4,h⟩:=h
  refine ⟨y4,?_⟩
  obtain ⟨h0,h⟩:=h
  refine ⟨h0,?_⟩
  refine yak h (fun h=> ?_) (fun h=> ?_)
  ·intro J2 kJ2
   have hJ2:∀x5 x6 x7,yel X1 a0 x1 x5 x6 x7->J2 x5 x6 x7:=fun x5 x6 x7 q=>kJ2 x5 x6 x7 (yng X1 a0 x1 q)
   obtain ⟨h0,h⟩:=h
   refine ⟨h0,?_⟩
   obtain ⟨h0,h⟩:=h
   refine ⟨h0,?_⟩
   obtain ⟨y11,h⟩:=h
   refine ⟨y11,?_⟩
   obtain ⟨h0,h⟩:=h
   refine ⟨h0,?_⟩
   refine yak h (fun h=> ?_) (fun h=> ?_)
   ·exact hJ2 _ _ _ h
   ·exact hJ2 _ _ _ h
  ·exact h
 ·exact h
theorem ysm (a0:List yab) (r0:B128) (h:yhL a0 r0):ydN a0 r0:=by
 unfold ydN
 unfold yhL at h
 intro X1 k
 exact h X1 (fun x1 x2 x3 q=>k x1 x2 x3 (yno a0 r0 q))
def yle:Sp KK:=⟨45,[.v 35],[102],appW (K:=KK) [102] [.v 35] ydN⟩
def ypW:An KK:=(.s .o (.s .o (.s (.s .o (.b (.l ⟨[(0, .kp 3335),(2, .px 2 0),(3, .px 3 0),(4, .it .i64)],[(2,102,[.v 102]),(3,102,[.v 102])],[]⟩ (fun _=>(.s (.s .o (.c .o .o)) (.s (.b (.s .o (.c (.s .o (.j ⟨[(0, .kp 3335),(2, .px 2 0),(3, .px 3 0),(4, .kp 6156),(5, .it .i64)],[(2,102,[.v 102]),(3,102,[.v 102])],[]⟩ (.s .o (.c .o .o)) (fun _=> .o))) .o))) .o)))))) (.s .o .o))))
def yp0:Cf KK:=⟨CC,[ymR,yjV],[],35,[],none,false⟩
theorem ypT:SpOk Try.prog CC yle:=yay (F:=yp0) (ps:= [.v 35]) (rs:= [102]) (w:=ydN) ybh (yas ysw (yas ypo yaE)) yaD t45 (A:=ypW) (by kernel_rfl) (by kernel_rfl) (fun a0 r0=>show _=_ by kernel_rfl)
def yfM (a0:B128) (r0:Int) (r1:Bool):Prop:=∃n:Nat,a0=wN n/\r0=(if allB n then wrap64 ((n % 18446744073709551616:Nat):Int) else 0)/\r1=allB n
def ykY:Sp KK:=⟨44,[.v 102],[2,4],appW (K:=KK) [2,4] [.v 102] yfM⟩
theorem ysD {a0:B128} {r0:Int} {r1:Bool} (h:yfM a0 r0 r1):AV.Pure Try.prog 44 [.agg ((yhS (K:=KK)).E.c a0)] (.tup [.it .i64 r0, .bl r1]):=by
 obtain ⟨n,rfl,rfl,rfl⟩:=h
 exact yBD n
theorem yqP:SpOk Try.prog CC ykY:=by
 intro env r hF h
 obtain ⟨a0,env0,rfl,h1⟩:=yjD h
 obtain ⟨rfl,h2⟩:=ypX h1
 obtain ⟨r0,_,rfl,h3⟩:=ysl h2
 obtain ⟨r1,_,rfl,h4⟩:=ysl h3
 obtain ⟨rfl,h5⟩:=ywr h4
 exact ⟨rfl,(ysD h5).congr (by kernel_rfl) (by kernel_rfl)⟩
def ygq (x10:Int) (X2:Int→Int→Int→Str→(List yab)→Prop) (x11 x12:Int) (x13:Str) (x15:Bool) (x16:List yab):Prop:=
 cnd x15 ((0<=x10)/\(x10<(x16.length:Int))/\∃y17:yab,(x16[x10.toNat]? =some y17)/\X2 (IntKind.i64.wrap (x10+(1:Int))) y17.Kind y17.N y17.S x16) (X2 (IntKind.i64.wrap (x10+(1:Int))) x11 x12 x13 x16)
def ygA (a1:Int) (r0:yab) (r1:Int) (X2:Int→Int→Int→Str→(List yab)→Prop) (x10 x11 x12:Int) (x13:Str) (x14:List yab):Prop:=
 cnd (decide (x10<(x14.length:Int))) (∀J3:Bool->(List yab)->Prop,(∀x15 x16,ygq x10 X2 x11 x12 x13 x15 x16->J3 x15 x16)->cnd (x10==(0:Int)) (J3 true x14) (cnd (a1==(3:Int)) ((0<=x10)/\(x10<(x14.length:Int))/\∃y18:yab,(x14[x10.toNat]? =some y18)/\∃z19,(yaS y18 (⟨x11,x12,x13⟩:yab) z19)/\cnd z19 (J3 true x14) (cnd (a1==(4:Int)) ((0<=x10)/\(x10<(x14.length:Int))/\∃y20:yab,(x14[x10.toNat]? =some y20)/\∃z21,(yaS (⟨x11,x12,x13⟩:yab) y20 z21)/\J3 z21 x14) (J3 false x14))) (cnd (a1==(4:Int)) ((0<=x10)/\(x10<(x14.length:Int))/\∃y22:yab,(x14[x10.toNat]? =some y22)/\∃z23,(yaS (⟨x11,x12,x13⟩:yab) y22 z23)/\J3 z23 x14) (J3 false x14)))) ((⟨x11,x12,x13⟩:yab)=r0/\(0:Int)=r1)
def ygt (a0:List yac) (a2 a1:Int) (r0:yab) (r1:Int) (X1:Int→(List yab)→Prop) (x1:Int) (x2:List yab):Prop:=
 (a0.length<=maxLen->cnd (decide (x1<(a0.length:Int))) ((0<=x1)/\(x1<(a0.length:Int))/\∃y3:yac,(a0[x1.toNat]? =some y3)/\(0<=a2)/\(a2<(y3.Values.length:Int))/\∃y4:yab,(y3.Values[a2.toNat]? =some y4)/\cnd (!(y4.Kind==(0:Int))) ((0<=x1)/\(x1<(a0.length:Int))/\∃y5:yac,(a0[x1.toNat]? =some y5)/\(0<=a2)/\(a2<(y5.Values.length:Int))/\∃y6:yab,(y5.Values[a2.toNat]? =some y6)/\(x2.length<=1000000000)/\X1 (IntKind.i64.wrap (x1+(1:Int))) (x2++([y6]:List yab))) (X1 (IntKind.i64.wrap (x1+(1:Int))) x2)) (cnd (a1==(1:Int)) ((⟨(2:Int),(x2.length:Int),([]:Str)⟩:yab)=r0/\(0:Int)=r1) (cnd (a1==(2:Int)) (cnd ((x2.length:Int)==(0:Int)) ((⟨(0:Int),(0:Int),([]:Str)⟩:yab)=r0/\(0:Int)=r1) (∃z7,(ydN x2 z7)/\∃z8 z9,(yfM z7 z8 z9)/\cnd (!z9) ((⟨(0:Int),(0:Int),([]:Str)⟩:yab)=r0/\(8:Int)=r1) ((⟨(2:Int),z8,([]:Str)⟩:yab)=r0/\(0:Int)=r1))) (∀X2:Int->Int->Int->Str->(List yab)->Prop,(∀x10 x11 x12 x13 x14,ygA a1 r0 r1 X2 x10 x11 x12 x13 x14->X2 x10 x11 x12 x13 x14)->X2 (0:Int) (0:Int) (0:Int) ([]:Str) x2))))
def ycz (a0:List yac) (a1 a2:Int) (r0:yab) (r1:Int):Prop:=
 cnd (decide (a2<(0:Int))) ((a0.length<=maxLen->(⟨(2:Int),(a0.length:Int),([]:Str)⟩:yab)=r0/\(0:Int)=r1)) (∀X1:Int->(List yab)->Prop,(∀x1 x2,ygt a0 a2 a1 r0 r1 X1 x1 x2->X1 x1 x2)->X1 (0:Int) ([]:List yab))
def ybe (X2:Int→Int→Int→Str→(List yab)→Prop) (x10 x11 x12:Int) (x13:Str) (x15:Bool) (x16:List yab):Prop:=
 cnd x15 ((0<=x10)/\(x10<(x16.length:Int))/\∃y17:yab,(x16[x10.toNat]? =some y17)/\X2 (IntKind.i64.wrap (x10+(1:Int))) y17.Kind y17.N y17.S x16) (X2 (IntKind.i64.wrap (x10+(1:Int))) x11 x12 x13 x16)
def yd0 (a1:Int) (r0:yab) (r1:Int) (X2:Int→Int→Int→Str→(List yab)→Prop) (x10 x11 x12:Int) (x13:Str) (x14:List yab):Prop:=
 cnd (decide (x10<(x14.length:Int))) (cnd (x10==(0:Int)) (ybe X2 x10 x11 x12 x13 true x14) (cnd (a1==(3:Int)) ((0<=x10)/\(x10<(x14.length:Int))/\∃y18:yab,(x14[x10.toNat]? =some y18)/\∃z19,(yaS y18 (⟨x11,x12,x13⟩:yab) z19)/\cnd z19 (ybe X2 x10 x11 x12 x13 true x14) (cnd (a1==(4:Int)) ((0<=x10)/\(x10<(x14.length:Int))/\∃y20:yab,(x14[x10.toNat]? =some y20)/\∃z21,(yaS (⟨x11,x12,x13⟩:yab) y20 z21)/\ybe X2 x10 x11 x12 x13 z21 x14) (ybe X2 x10 x11 x12 x13 false x14))) (cnd (a1==(4:Int)) ((0<=x10)/\(x10<(x14.length:Int))/\∃y22:yab,(x14[x10.toNat]? =some y22)/\∃z23,(yaS (⟨x11,x12,x13⟩:yab) y22 z23)/\ybe X2 x10 x11 x12 x13 z23 x14) (ybe X2 x10 x11 x12 x13 false x14)))) ((⟨x11,x12,x13⟩:yab)=r0/\(0:Int)=r1)
def yfY (a0:List yac) (a1 a2:Int) (r0:yab) (r1:Int) (X1:Int→(List yab)→Prop) (x1:Int) (x2:List yab):Prop:=
 (a0.length<=maxLen->cnd (decide (x1<(a0.length:Int))) ((0<=x1)/\(x1<(a0.length:Int))/\∃y3:yac,(a0[x1.toNat]? =some y3)/\(0<=a2)/\(a2<(y3.Values.length:Int))/\∃y4:yab,(y3.Values[a2.toNat]? =some y4)/\cnd (!(y4.Kind==(0:Int))) ((0<=x1)/\(x1<(a0.length:Int))/\∃y5:yac,(a0[x1.toNat]? =some y5)/\(0<=a2)/\(a2<(y5.Values.length:Int))/\∃y6:yab,(y5.Values[a2.toNat]? =some y6)/\(x2.length<=1000000000)/\X1 (IntKind.i64.wrap (x1+(1:Int))) (x2++([y6]:List yab))) (X1 (IntKind.i64.wrap (x1+(1:Int))) x2)) (cnd (a1==(1:Int)) ((⟨(2:Int),(x2.length:Int),([]:Str)⟩:yab)=r0/\(0:Int)=r1) (cnd (a1==(2:Int)) (cnd ((x2.length:Int)==(0:Int)) ((⟨(0:Int),(0:Int),([]:Str)⟩:yab)=r0/\(0:Int)=r1) (∃z7,(ydN x2 z7)/\∃z8 z9,(yfM z7 z8 z9)/\cnd (!z9) ((⟨(0:Int),(0:Int),([]:Str)⟩:yab)=r0/\(8:Int)=r1) ((⟨(2:Int),z8,([]:Str)⟩:yab)=r0/\(0:Int)=r1))) (∀X2:Int->Int->Int->Str->(List yab)->Prop,(∀x10 x11 x12 x13 x14,yd0 a1 r0 r1 X2 x10 x11 x12 x13 x14->X2 x10 x11 x12 x13 x14)->X2 (0:Int) (0:Int) (0:Int) ([]:Str) x2))))
def yiR (a0:List yac) (a1 a2:Int) (r0:yab) (r1:Int):Prop:=
 cnd (decide (a2<(0:Int))) ((a0.length<=maxLen->(⟨(2:Int),(a0.length:Int),([]:Str)⟩:yab)=r0/\(0:Int)=r1)) (∀X1:Int->(List yab)->Prop,(∀x1 x2,yfY a0 a1 a2 r0 r1 X1 x1 x2->X1 x1 x2)->X1 (0:Int) ([]:List yab))
theorem ylp (X2:Int→Int→Int→Str→(List yab)→Prop) (x10 x11 x12:Int) (x13:Str) {x15:Bool} {x16:List yab} (h:ybe X2 x10 x11 x12 x13 x15 x16):ygq x10 X2 x11 x12 x13 x15 x16:=by
 unfold ygq
 unfold ybe at h
 exact h
theorem ylC (a1:Int) (r0:yab) (r1:Int) {X2:Int→Int→Int→Str→(List yab)→Prop} {x10 x11 x12:Int} {x13:Str} {x14:List yab} (h:yd0 a1 r0 r1 X2 x10 x11 x12 x13 x14):ygA a1 r0 r1 X2 x10 x11 x12 x13 x14:=by
 unfold ygA
 unfold yd0 at h
 refine yak h (fun h=> ?_) (fun h=> ?_)
 ·intro J3 kJ3
  have hJ3:∀x15 x16,ybe X2 x10 x11 x12 x13 x15 x16->J3 x15 x16:=fun x15 x16 q=>kJ3 x15 x16 (ylp X2 x10 x11 x12 x13 q)
  refine yak h (fun h=> ?_) (fun h=> ?_)
  ·exact hJ3 _ _ h
  ·refine yak h (fun h=> ?_) (fun h=> ?_)
   ·obtain ⟨h0,h⟩:=h
    refine ⟨h0,?_⟩
    obtain ⟨h0,h⟩:=h
    refine ⟨h0,?_⟩
    obtain ⟨y18,h⟩:=h
    refine ⟨y18,?_⟩
    obtain ⟨h0,h⟩:=h
    refine ⟨h0,?_⟩
    obtain ⟨z19,h⟩:=h
    refine ⟨z19,?_⟩
    obtain ⟨h0,h⟩:=h
    refine ⟨h0,?_⟩
    refine yak h (fun h=> ?_) (fun h=> ?_)
    ·exact hJ3 _ _ h
    ·refine yak h (fun h=> ?_) (fun h=> ?_)
     ·obtain ⟨h0,h⟩:=h
      refine ⟨h0,?_⟩
      obtain ⟨h0,h⟩:=h
      refine ⟨h0,?_⟩
      obtain ⟨y20,h⟩:=h
      refine ⟨y20,?_⟩
      obtain ⟨h0,h⟩:=h
      refine ⟨h0,?_⟩
      obtain ⟨z21,h⟩:=h
      refine ⟨z21,?_⟩
      obtain ⟨h0,h⟩:=h
      refine ⟨h0,?_⟩
      exact hJ3 _ _ h
     ·exact hJ3 _ _ h
   ·refine yak h (fun h=> ?_) (fun h=> ?_)
    ·obtain ⟨h0,h⟩:=h
     refine ⟨h0,?_⟩
     obtain ⟨h0,h⟩:=h
     refine ⟨h0,?_⟩
     obtain ⟨y22,h⟩:=h
     refine ⟨y22,?_⟩
     obtain ⟨h0,h⟩:=h
     refine ⟨h0,?_⟩
     obtain ⟨z23,h⟩:=h
     refine ⟨z23,?_⟩
     obtain ⟨h0,h⟩:=h
     refine ⟨h0,?_⟩
     exact hJ3 _ _ h
    ·exact hJ3 _ _ h
 ·exact h
theorem ylv (a0:List yac) (a1 a2:Int) (r0:yab) (r1:Int) {X1:Int→(List yab)→Prop} {x1:Int} {x2:List yab} (h:yfY a0 a1 a2 r0 r1 X1 x1 x2):ygt a0 a2 a1 r0 r1 X1 x1 x2:=by
 unfold ygt
 unfold yfY at h
 intro c
 replace h:=h c
 refine yak h (fun h=> ?_) (fun h=> ?_)
 ·exact h
 ·refine yak h (fun h=> ?_) (fun h=> ?_)
  ·exact h
  ·refine yak h (fun h=> ?_) (fun h=> ?_)
   ·exact h
   ·intro X2 k
    exact h X2 (fun x10 x11 x12 x13 x14 q=>k x10 x11 x12 x13 x14 (ylC a1 r0 r1 q))
theorem yot (a0:List yac) (a1 a2:Int) (r0:yab) (r1:Int) (h:yiR a0 a1 a2 r0 r1):ycz a0 a1 a2 r0 r1:=by
 unfold ycz
 unfold yiR at h
 refine yak h (fun h=> ?_) (fun h=> ?_)
 ·exact h
 ·intro X1 k
  exact h X1 (fun x1 x2 q=>k x1 x2 (ylv a0 a1 a2 r0 r1 q))
def yiQ:Sp KK:=⟨29,[.v 27, .v 3, .v 3],[70,3],appW (K:=KK) [70,3] [.v 27, .v 3, .v 3] ycz⟩
def ynH:An KK:=(.s .o (.s (.s .o (.c (.s .o .o) .o)) (.s .o (.s (.s .o (.b (.l ⟨[(0, .kp 9),(1, .kp 10),(2, .kp 11),(6, .px 6 0),(8, .row 45),(9, .it .i64)],[(6,70,[.kp 14, .kp 15, .kp 16])],[(45,70)]⟩ (fun _=>(.s (.s .o (.c .o .o)) (.s (.b (.s .o (.c .o .o))) .o)))))) (.s .o (.s (.s .o (.b (.s .o (.c (.s .o .o) (.s .o (.c (.s (.s .o (.c (.s .o .o) .o)) (.s .o (.s (.s .o (.c (.s .o .o) .o)) (.s .o .o)))) .o)))))) (.s (.s .o (.b (.l ⟨[(1, .kp 10),(6, .px 6 0),(8, .row 45),(10, .px 10 0),(13, .it .i64)],[(6,70,[.kp 14, .kp 15, .kp 16]),(10,70,[.it .i64, .it .i64, .st])],[(45,70)]⟩ (fun _=>(.s (.s .o (.c .o .o)) (.s (.b (.j ⟨[(1, .kp 10),(6, .px 6 0),(8, .row 45),(10, .px 10 0),(13, .kp 53),(100, .bl)],[(6,70,[.kp 14, .kp 15, .kp 16]),(10,70,[.kp 54, .kp 55, .kp 56])],[(45,70)]⟩ .o (fun _=>(.c .o .o)))) .o)))))) (.s .o .o))))))))
def ynD:Cf KK:=⟨CC,[yle,ykY,yf6],[],106,[],none,false⟩
theorem ynE:SpOk Try.prog CC yiQ:=yay (F:=ynD) (ps:= [.v 27, .v 3, .v 3]) (rs:= [70,3]) (w:=ycz) ybh (yas ypT (yas yqP (yas yhF yaE))) yaD t29 (A:=ynH) (by kernel_rfl) (by kernel_rfl) (fun a0 a1 a2 r0 r1=>show _=_ by kernel_rfl)
def yf8 (r0:Bool) (X2:Int→Prop) (x2:Int) (x7:Bool):Prop:=
 cnd x7 (false=r0) (X2 (IntKind.i64.wrap (x2+(1:Int))))
def yfB (a0:yae) (x1:Int) (a1:List yac) (r0:Bool) (X1 X2:Int→Prop) (x2:Int):Prop:=
 cnd (decide (x2<(2:Int))) (∃z3 z4,(yaP a0 x1 x2 z3 z4)/\∃z5 z6,(ycz a1 x1 x2 z5 z6)/\∀J3:Bool->Prop,(∀x7,yf8 r0 X2 x2 x7->J3 x7)->cnd (!(z4==z6)) (J3 true) (J3 (!((z3.Kind==z5.Kind)&&((z3.N==z5.N)&&((z3.S==z5.S)&&true)))))) (X1 (IntKind.i64.wrap (x1+(1:Int))))
def yfJ (a0:yae) (a1:List yac) (r0:Bool) (X1:Int→Prop) (x1:Int):Prop:=
 cnd (decide (x1<=(4:Int))) (∀X2:Int->Prop,(∀x2,yfB a0 x1 a1 r0 X1 X2 x2->X2 x2)->X2 (0:Int)) (∃z8 z9,(yaP a0 (1:Int) (-1:Int) z8 z9)/\cnd (z9==(0:Int)) (∃z10,(yaO (a1.length:Int) z10)/\cnd ((z8.Kind==z10.Kind)&&((z8.N==z10.N)&&((z8.S==z10.S)&&true))) (cnd (a0.Rows==(a1.length:Int)) (((a0.L.length:Int)==(2:Int))=r0) (false=r0)) (false=r0)) (false=r0))
def yaZ (a0:yae) (a1:List yac) (r0:Bool):Prop:=
 ∀X1:Int->Prop,(∀x1,yfJ a0 a1 r0 X1 x1->X1 x1)->X1 (1:Int)
def ycH (X2:Int→Prop) (r0:Bool) (x2:Int) (x7:Bool):Prop:=
 cnd x7 (false=r0) (X2 (IntKind.i64.wrap (x2+(1:Int))))
def ye7 (X1:Int→Prop) (a0:yae) (a1:List yac) (r0:Bool) (x1:Int) (X2:Int→Prop) (x2:Int):Prop:=
 cnd (decide (x2<(2:Int))) (∃z3 z4,(yaP a0 x1 x2 z3 z4)/\∃z5 z6,(ycz a1 x1 x2 z5 z6)/\cnd (!(z4==z6)) (ycH X2 r0 x2 true) (ycH X2 r0 x2 (!((z3.Kind==z5.Kind)&&((z3.N==z5.N)&&((z3.S==z5.S)&&true)))))) (X1 (IntKind.i64.wrap (x1+(1:Int))))
def ye8 (a0:yae) (a1:List yac) (r0:Bool) (X1:Int→Prop) (x1:Int):Prop:=
 cnd (decide (x1<=(4:Int))) (∀X2:Int->Prop,(∀x2,ye7 X1 a0 a1 r0 x1 X2 x2->X2 x2)->X2 (0:Int)) (∃z8 z9,(yaP a0 (1:Int) (-1:Int) z8 z9)/\cnd (z9==(0:Int)) (∃z10,(yaO (a1.length:Int) z10)/\cnd ((z8.Kind==z10.Kind)&&((z8.N==z10.N)&&((z8.S==z10.S)&&true))) (cnd (a0.Rows==(a1.length:Int)) (((a0.L.length:Int)==(2:Int))=r0) (false=r0)) (false=r0)) (false=r0))
def yhU (a0:yae) (a1:List yac) (r0:Bool):Prop:=
 ∀X1:Int->Prop,(∀x1,ye8 a0 a1 r0 X1 x1->X1 x1)->X1 (1:Int)
theorem ykO (X2:Int→Prop) (r0:Bool) (x2:Int) {x7:Bool} (h:ycH X2 r0 x2 x7):yf8 r0 X2 x2 x7:=by
 unfold yf8
 unfold ycH at h
 exact h
theorem ykq (X1:Int→Prop) (a0:yae) (a1:List yac) (r0:Bool) (x1:Int) {X2:Int→Prop} {x2:Int} (h:ye7 X1 a0 a1 r0 x1 X2 x2):yfB a0 x1 a1 r0 X1 X2 x2:=by
 unfold yfB
 unfold ye7 at h
 refine yak h (fun h=> ?_) (fun h=> ?_)
 ·obtain ⟨z3,h⟩:=h
  refine ⟨z3,?_⟩
  obtain ⟨z4,h⟩:=h
  refine ⟨z4,?_⟩
  obtain ⟨h0,h⟩:=h
  refine ⟨h0,?_⟩
  obtain ⟨z5,h⟩:=h
  refine ⟨z5,?_⟩
  obtain ⟨z6,h⟩:=h
  refine ⟨z6,?_⟩
  obtain ⟨h0,h⟩:=h
  refine ⟨h0,?_⟩
  intro J3 kJ3
  have hJ3:∀x7,ycH X2 r0 x2 x7->J3 x7:=fun x7 q=>kJ3 x7 (ykO X2 r0 x2 q)
  refine yak h (fun h=> ?_) (fun h=> ?_)
  ·exact hJ3 _ h
  ·exact hJ3 _ h
 ·exact h
theorem ykH (a0:yae) (a1:List yac) (r0:Bool) {X1:Int→Prop} {x1:Int} (h:ye8 a0 a1 r0 X1 x1):yfJ a0 a1 r0 X1 x1:=by
 unfold yfJ
 unfold ye8 at h
 refine yak h (fun h=> ?_) (fun h=> ?_)
 ·intro X2 k
  exact h X2 (fun x2 q=>k x2 (ykq X1 a0 a1 r0 x1 q))
 ·exact h
theorem ync (a0:yae) (a1:List yac) (r0:Bool) (h:yhU a0 a1 r0):yaZ a0 a1 r0:=by
 unfold yaZ
 unfold yhU at h
 intro X1 k
 exact h X1 (fun x1 q=>k x1 (ykH a0 a1 r0 q))
def yhX:Sp KK:=⟨10,[.v 32, .v 27],[4],appW (K:=KK) [4] [.v 32, .v 27] yaZ⟩
def ymf:An KK:=(.s .o (.s (.s .o (.b (.l ⟨[(1, .kp 39),(2, .px 2 0),(5, .it .i64)],[(2,32,[.kp 41, .kp 42])],[]⟩ (fun _=>(.s (.s .o (.c .o .o)) (.s (.b (.s .o (.b (.l ⟨[(1, .kp 39),(2, .px 2 0),(5, .kp 71),(6, .it .i64)],[(2,32,[.kp 41, .kp 42])],[]⟩ (fun _=>(.s (.s .o (.c .o .o)) (.s (.b (.s .o (.s .o (.j ⟨[(1, .kp 39),(2, .px 2 0),(5, .kp 71),(6, .kp 76),(42, .bl)],[(2,32,[.kp 41, .kp 42])],[]⟩ .o (fun _=>(.c (.s .o .o) .o)))))) .o))))))) .o)))))) (.s .o (.s .o .o))))
def ymn:Cf KK:=⟨CC,[yex,yiQ,ydn],[],70,[],none,false⟩
theorem ymZ:SpOk Try.prog CC yhX:=yay (F:=ymn) (ps:= [.v 32, .v 27]) (rs:= [4]) (w:=yaZ) ybh (yas ygI (yas ynE (yas yeW yaE))) yaD t10 (A:=ymf) (by kernel_rfl) (by kernel_rfl) (fun a0 a1 r0=>show _=_ by kernel_rfl)
def yjP (a0:Int) (r0:Str) (X1:Int→(List Int)→Prop) (x1:Int) (x2:List Int):Prop:=
 cnd (decide (x1<((List.replicate (8:Int).toNat (0:Int)).length:Int))) ((¬(IntKind.i64.wrap ((8:Int)*x1))<0)/\(0<=(IntKind.i64.wrap ((7:Int)-x1)))/\((IntKind.i64.wrap ((7:Int)-x1))<(x2.length:Int))/\∃y3:Int,(x2[(IntKind.i64.wrap ((7:Int)-x1)).toNat]? =some y3)/\X1 (IntKind.i64.wrap (x1+(1:Int))) (x2.set ((IntKind.i64.wrap ((7:Int)-x1)).toNat) (IntKind.u8.wrap (a0.fdiv (2^(min (IntKind.i64.wrap ((8:Int)*x1)).toNat IntKind.u64.bits)))))) ((x2.map toB)=r0)
def ydR (a0:Int) (r0:Str):Prop:=
 (0<=(8:Int))/\(1*(8:Int).toNat<=281474976710656)/\((8:Int)<=1000000000)/\∀X1:Int->(List Int)->Prop,(∀x1 x2,yjP a0 r0 X1 x1 x2->X1 x1 x2)->X1 (0:Int) (List.replicate (8:Int).toNat (0:Int))
def yjN:Sp KK:=⟨62,[.v 65],[9],appW (K:=KK) [9] [.v 65] ydR⟩
def yoe:An KK:=(.s .o (.s .o (.s (.s .o (.b (.l ⟨[(0, .kp 4),(3, .row 5),(7, .kp 5),(8, .it .i64)],[],[(5,5)]⟩ (fun _=>(.s .o (.s (.c .o .o) (.s (.b (.s .o .o)) .o))))))) (.s .o .o))))
def ypy:Cf KK:=⟨CC,[],[],23,[],none,false⟩
theorem yo1:SpOk Try.prog CC yjN:=yay (F:=ypy) (ps:= [.v 65]) (rs:= [9]) (w:=ydR) ybh yaE yaD t62 (A:=yoe) (by kernel_rfl) (by kernel_rfl) (fun a0 r0=>show _=_ by kernel_rfl)
def ybY (a0:yai) (r0:Str):Prop:=
 ∃z1,(ydR (IntKind.u64.wrap a0.Hi) z1)/\∃z2,(ydR a0.Lo z2)/\(z1.length+z2.length<=9223372036854775807)/\(z1++z2)=r0
def yho:Sp KK:=⟨46,[.v 67],[9],appW (K:=KK) [9] [.v 67] ybY⟩
def yly:An KK:=(.s .o (.s .o .o))
def ylk:Cf KK:=⟨CC,[yjN],[],11,[],none,false⟩
theorem ylB:SpOk Try.prog CC yho:=yay (F:=ylk) (ps:= [.v 67]) (rs:= [9]) (w:=ybY) ybh (yas yo1 yaE) yaD t46 (A:=yly) (by kernel_rfl) (by kernel_rfl) (fun a0 r0=>show _=_ by kernel_rfl)
end Go.Proofs.Ytecfpoklnfaihaa
end
noncomputable section
namespace Go.Proofs.Ytecfpoklnfaihaa
open Go.AV Go.RowKit
set_option maxRecDepth 100000
def yfg (a0:yae) (r0:Str) (X1:Int→(List Str)→Prop) (x2:Int) (x3:List Str):Prop:=
 cnd (decide (x2<(a0.L.length:Int))) ((0<=x2)/\(x2<(a0.L.length:Int))/\∃y4:yag,(a0.L[x2.toNat]? =some y4)/\∃z5,(ydP y4.N z5)/\∃z6,(ybY (⟨y4.Sum.Hi,y4.Sum.Lo⟩:yai) z6)/\∃z7,(ycw ([(⟨y4.Min.Kind,y4.Min.N,y4.Min.S⟩:yad)]:List yad) z7)/\∃z8,(ycw ([(⟨y4.Max.Kind,y4.Max.N,y4.Max.S⟩:yad)]:List yad) z8)/\(x3.length<=1000000000)/\X1 (IntKind.i64.wrap (x2+(1:Int))) (x3++([z5,z6,z7,z8]:List Str))) (∃z9,(ycp x3 z9)/\z9=r0)
def ybX (a0:yae) (r0:Str):Prop:=
 ∃z1,(ydP a0.Rows z1)/\(a0.L.length<=maxLen->∀X1:Int->(List Str)->Prop,(∀x2 x3,yfg a0 r0 X1 x2 x3->X1 x2 x3)->X1 (0:Int) ([z1]:List Str))
def yeA (a0:yae) (r0:Str) (X1:Int→(List Str)→Prop) (x2:Int) (x3:List Str):Prop:=
 cnd (decide (x2<(a0.L.length:Int))) ((0<=x2)/\(x2<(a0.L.length:Int))/\∃y4:yag,(a0.L[x2.toNat]? =some y4)/\∃z5,(ydP y4.N z5)/\∃z6,(ybY (⟨y4.Sum.Hi,y4.Sum.Lo⟩:yai) z6)/\∃z7,(ycw ([(⟨y4.Min.Kind,y4.Min.N,y4.Min.S⟩:yad)]:List yad) z7)/\∃z8,(ycw ([(⟨y4.Max.Kind,y4.Max.N,y4.Max.S⟩:yad)]:List yad) z8)/\(x3.length<=1000000000)/\X1 (IntKind.i64.wrap (x2+(1:Int))) (x3++([z5,z6,z7,z8]:List Str))) (∃z9,(ycp x3 z9)/\z9=r0)
def yhi (a0:yae) (r0:Str):Prop:=
 ∃z1,(ydP a0.Rows z1)/\(a0.L.length<=maxLen->∀X1:Int->(List Str)->Prop,(∀x2 x3,yeA a0 r0 X1 x2 x3->X1 x2 x3)->X1 (0:Int) ([z1]:List Str))
theorem yjM (a0:yae) (r0:Str) {X1:Int→(List Str)→Prop} {x2:Int} {x3:List Str} (h:yeA a0 r0 X1 x2 x3):yfg a0 r0 X1 x2 x3:=by
 unfold yfg
 unfold yeA at h
 exact h
theorem yl9 (a0:yae) (r0:Str) (h:yhi a0 r0):ybX a0 r0:=by
 unfold ybX
 unfold yhi at h
 obtain ⟨z1,h⟩:=h
 refine ⟨z1,?_⟩
 obtain ⟨h0,h⟩:=h
 refine ⟨h0,?_⟩
 intro c
 replace h:=h c
 intro X1 k
 exact h X1 (fun x2 x3 q=>k x2 x3 (yjM a0 r0 q))
def yhl:Sp KK:=⟨30,[.v 32],[9],appW (K:=KK) [9] [.v 32] ybX⟩
def ylu:An KK:=(.s .o (.s .o (.s (.s .o (.b (.l ⟨[(3, .row 9),(11, .kp 4),(12, .kp 5),(13, .it .i64)],[],[(9,9)]⟩ (fun _=>(.s .o (.s (.c .o .o) (.s (.b (.s .o .o)) .o))))))) (.s .o .o))))
def ylz:Cf KK:=⟨CC,[yjl,yho,yic,ygg],[],37,[],none,false⟩
theorem ylx:SpOk Try.prog CC yhl:=yay (F:=ylz) (ps:= [.v 32]) (rs:= [9]) (w:=ybX) ybh (yas ymo (yas ylB (yas yky (yas yhY yaE)))) yaD t30 (A:=ylu) (by kernel_rfl) (by kernel_rfl) (fun a0 r0=>show _=_ by kernel_rfl)
def yi4 (a0:List yaa) (r0:Str) (X1:Int→(List Str)→Prop) (x1:Int) (x2:List Str):Prop:=
 cnd (decide (x1<(a0.length:Int))) ((0<=x1)/\(x1<(a0.length:Int))/\∃y3:yaa,(a0[x1.toNat]? =some y3)/\∃z4,(ycw y3.Row z4)/\∃z5,(ybX (⟨y3.Part.Rows,y3.Part.L⟩:yae) z5)/\(x2.length<=1000000000)/\X1 (IntKind.i64.wrap (x1+(1:Int))) (x2++([z4,z5]:List Str))) (∃z6,(ycp x2 z6)/\z6=r0)
def yc5 (a0:List yaa) (r0:Str):Prop:=
 (a0.length<=maxLen->∀X1:Int->(List Str)->Prop,(∀x1 x2,yi4 a0 r0 X1 x1 x2->X1 x1 x2)->X1 (0:Int) ([]:List Str))
def yh2 (a0:List yaa) (r0:Str) (X1:Int→(List Str)→Prop) (x1:Int) (x2:List Str):Prop:=
 cnd (decide (x1<(a0.length:Int))) ((0<=x1)/\(x1<(a0.length:Int))/\∃y3:yaa,(a0[x1.toNat]? =some y3)/\∃z4,(ycw y3.Row z4)/\∃z5,(ybX (⟨y3.Part.Rows,y3.Part.L⟩:yae) z5)/\(x2.length<=1000000000)/\X1 (IntKind.i64.wrap (x1+(1:Int))) (x2++([z4,z5]:List Str))) (∃z6,(ycp x2 z6)/\z6=r0)
def ymI (a0:List yaa) (r0:Str):Prop:=
 (a0.length<=maxLen->∀X1:Int->(List Str)->Prop,(∀x1 x2,yh2 a0 r0 X1 x1 x2->X1 x1 x2)->X1 (0:Int) ([]:List Str))
theorem yoY (a0:List yaa) (r0:Str) {X1:Int→(List Str)→Prop} {x1:Int} {x2:List Str} (h:yh2 a0 r0 X1 x1 x2):yi4 a0 r0 X1 x1 x2:=by
 unfold yi4
 unfold yh2 at h
 exact h
theorem yt9 (a0:List yaa) (r0:Str) (h:ymI a0 r0):yc5 a0 r0:=by
 unfold yc5
 unfold ymI at h
 intro c
 replace h:=h c
 intro X1 k
 exact h X1 (fun x1 x2 q=>k x1 x2 (yoY a0 r0 q))
def ymi:Sp KK:=⟨11,[.v 26],[9],appW (K:=KK) [9] [.v 26] yc5⟩
def yrH:An KK:=(.s .o (.s .o (.s (.s .o (.b (.l ⟨[(3, .row 20),(6, .kp 6),(7, .kp 7),(8, .it .i64)],[],[(20,9)]⟩ (fun _=>(.s .o (.s (.c .o .o) (.s (.b (.s .o .o)) .o))))))) (.s .o .o))))
def ysh:Cf KK:=⟨CC,[yic,yhl,ygg],[],24,[],none,false⟩
theorem ysK:SpOk Try.prog CC ymi:=yay (F:=ysh) (ps:= [.v 26]) (rs:= [9]) (w:=yc5) ybh (yas yky (yas ylx (yas yhY yaE))) yaD t11 (A:=yrH) (by kernel_rfl) (by kernel_rfl) (fun a0 r0=>show _=_ by kernel_rfl)
def yiO (a0:Str) (r0:Int) (X1:Int→Int→Prop) (x1 x2:Int):Prop:=
 cnd (decide (x2<(a0.length:Int))) ((0<=x2/\x2<(a0.length:Int))/\X1 (bits .or .u64 (IntKind.u64.wrap (x1*2^(min (8:Int).toNat IntKind.u64.bits))) (IntKind.u64.wrap (bAt a0 x2))) (IntKind.i64.wrap (x2+(1:Int)))) (x1=r0)
def yda (a0:Str) (r0:Int):Prop:=
 ∀X1:Int->Int->Prop,(∀x1 x2,yiO a0 r0 X1 x1 x2->X1 x1 x2)->X1 (0:Int) (0:Int)
def ygC:Sp KK:=⟨63,[.v 9],[65],appW (K:=KK) [65] [.v 9] yda⟩
def ynA:An KK:=(.s .o (.s .o (.s (.s .o (.b (.l ⟨[(0, .kp 5),(3, .it .u64),(6, .kp 7),(7, .it .i64)],[],[]⟩ (fun _=>(.s .o (.s (.c .o .o) (.s (.b (.s .o .o)) .o))))))) (.s .o .o))))
def ynk:Cf KK:=⟨CC,[],[],19,[],none,false⟩
theorem yiP:SpOk Try.prog CC ygC:=yay (F:=ynk) (ps:= [.v 9]) (rs:= [65]) (w:=yda) ybh yaE yaD t63 (A:=ynA) (by kernel_rfl) (by kernel_rfl) (fun a0 r0=>show _=_ by kernel_rfl)
def ygf (a0 r0 r1:Str) (r2:Bool):Prop:=
 cnd (decide ((a0.length:Int)<(4:Int))) (([]:Str)=r0/\a0=r1/\false=r2) ((0<=(0:Int)/\(0:Int)<=(4:Int)/\(4:Int)<=(a0.length:Int))/\∃z1,(yda ((a0.drop (0:Int).toNat).take ((4:Int).toNat-(0:Int).toNat)) z1)/\cnd (decide ((IntKind.u64.wrap (IntKind.i64.wrap ((a0.length:Int)-(4:Int))))<z1)) (([]:Str)=r0/\a0=r1/\false=r2) ((0<=(4:Int)/\(4:Int)<=(IntKind.i64.wrap ((4:Int)+(IntKind.i64.wrap z1)))/\(IntKind.i64.wrap ((4:Int)+(IntKind.i64.wrap z1)))<=(a0.length:Int))/\(0<=(IntKind.i64.wrap ((4:Int)+(IntKind.i64.wrap z1)))/\(IntKind.i64.wrap ((4:Int)+(IntKind.i64.wrap z1)))<=(a0.length:Int)/\(a0.length:Int)<=(a0.length:Int))/\((a0.drop (4:Int).toNat).take ((IntKind.i64.wrap ((4:Int)+(IntKind.i64.wrap z1))).toNat-(4:Int).toNat))=r0/\((a0.drop (IntKind.i64.wrap ((4:Int)+(IntKind.i64.wrap z1))).toNat).take ((a0.length:Int).toNat-(IntKind.i64.wrap ((4:Int)+(IntKind.i64.wrap z1))).toNat))=r1/\true=r2))
def yj6:Sp KK:=⟨47,[.v 9],[9,9,4],appW (K:=KK) [9,9,4] [.v 9] ygf⟩
def yoq:An KK:=(.s .o (.s (.s .o (.c (.s .o .o) .o)) (.s .o (.s (.s .o (.c (.s .o .o) .o)) (.s .o (.s .o .o))))))
def ypj:Cf KK:=⟨CC,[ygC],[],30,[],none,false⟩
theorem ypa:SpOk Try.prog CC yj6:=yay (F:=ypj) (ps:= [.v 9]) (rs:= [9,9,4]) (w:=ygf) ybh (yas yiP yaE) yaD t47 (A:=yoq) (by kernel_rfl) (by kernel_rfl) (fun a0 r0 r1 r2=>show _=_ by kernel_rfl)
def yps (r0:List Str) (r1:Int) (X1:Str→(List Str)→Prop) (x1:Str) (x2:List Str):Prop:=
 cnd (!(x1==([]:Str))) (∃z3 z4 z5,(ygf x1 z3 z4 z5)/\cnd (!z5) (([]:List Str)=r0/\(2:Int)=r1) ((x2.length<=1000000000)/\X1 z4 (x2++([z3]:List Str)))) (x2=r0/\(0:Int)=r1)
def ycf (a0:Str) (r0:List Str) (r1:Int):Prop:=
 ∀X1:Str->(List Str)->Prop,(∀x1 x2,yps r0 r1 X1 x1 x2->X1 x1 x2)->X1 a0 ([]:List Str)
def yhe:Sp KK:=⟨31,[.v 9],[76,52],appW (K:=KK) [76,52] [.v 9] ycf⟩
def ypu:An KK:=(.s .o (.s .o (.s (.b (.l ⟨[(0, .st),(4, .row 21)],[],[(21,9)]⟩ (fun _=>(.s (.s .o (.c .o .o)) (.b (.s .o (.s (.s .o (.c (.s .o .o) .o)) .o))))))) (.s .o .o))))
def yov:Cf KK:=⟨CC,[yj6],[],24,[],none,false⟩
theorem yjo:SpOk Try.prog CC yhe:=yay (F:=yov) (ps:= [.v 9]) (rs:= [76,52]) (w:=ycf) ybh (yas ypa yaE) yaD t31 (A:=ypu) (by kernel_rfl) (by kernel_rfl) (fun a0 r0 r1=>show _=_ by kernel_rfl)
def ybH (a0:Str) (r0:Int) (r1:Bool):Prop:=
 cnd (!((a0.length:Int)==(8:Int))) ((0:Int)=r0/\false=r1) (∃z1,(yda a0 z1)/\(IntKind.i64.wrap (bits .xor .u64 z1 (9223372036854775808:Int)))=r0/\true=r1)
def ygs:Sp KK:=⟨49,[.v 9],[2,4],appW (K:=KK) [2,4] [.v 9] ybH⟩
def ynp:An KK:=(.s .o (.s (.s .o (.c (.s .o .o) .o)) (.s .o .o)))
def ynC:Cf KK:=⟨CC,[ygC],[],11,[],none,false⟩
theorem yiG:SpOk Try.prog CC ygs:=yay (F:=ynC) (ps:= [.v 9]) (rs:= [2,4]) (w:=ybH) ybh (yas yiP yaE) yaD t49 (A:=ynp) (by kernel_rfl) (by kernel_rfl) (fun a0 r0 r1=>show _=_ by kernel_rfl)
def ybM (a0:yad) (r0:Bool):Prop:=
 cnd (a0.Kind==(0:Int)) (((a0.Kind==(0:Int))&&((a0.N==(0:Int))&&((a0.S==([]:Str))&&true)))=r0) (cnd (a0.Kind==(1:Int)) (cnd (a0.N==(0:Int)) ((a0.S==([]:Str))=r0) (cnd (a0.N==(1:Int)) ((a0.S==([]:Str))=r0) (false=r0))) (cnd (a0.Kind==(2:Int)) ((a0.S==([]:Str))=r0) (cnd (a0.Kind==(3:Int)) (cnd (a0.N==(0:Int)) ((decide ((a0.S.length:Int)<=(64:Int)))=r0) (false=r0)) (false=r0))))
def yfu:Sp KK:=⟨64,[.v 61],[4],appW (K:=KK) [4] [.v 61] ybM⟩
def yi1:An KK:=(.s .o (.s (.s .o (.b (.s .o (.c (.s .o .o) (.s .o (.c (.s .o .o) (.s .o (.c (.s .o .o) (.s .o (.c (.s .o .o) .o)))))))))) (.s .o .o)))
def yiV:Cf KK:=⟨CC,[],[],41,[],none,false⟩
theorem yiT:SpOk Try.prog CC yfu:=yay (F:=yiV) (ps:= [.v 61]) (rs:= [4]) (w:=ybM) ybh yaE yaD t64 (A:=yi1) (by kernel_rfl) (by kernel_rfl) (fun a0 r0=>show _=_ by kernel_rfl)
def yjg (a0:Str) (r0:yad) (r1:Bool) (x1:Int) (x2:Str):Prop:=
 ∃z3,(ybM (⟨IntKind.i64.wrap (bAt a0 (0:Int)),x1,x2⟩:yad) z3)/\(⟨IntKind.i64.wrap (bAt a0 (0:Int)),x1,x2⟩:yad)=r0/\z3=r1
def yfq (a0:Str) (r0:yad) (r1:Bool):Prop:=
 cnd (a0==([]:Str)) ((⟨(0:Int),(0:Int),([]:Str)⟩:yad)=r0/\false=r1) ((0<=(1:Int)/\(1:Int)<=(a0.length:Int)/\(a0.length:Int)<=(a0.length:Int))/\(0<=(0:Int)/\(0:Int)<(a0.length:Int))/\∀J1:Int->Str->Prop,(∀x1 x2,yjg a0 r0 r1 x1 x2->J1 x1 x2)->cnd ((IntKind.i64.wrap (bAt a0 (0:Int)))==(0:Int)) ((⟨IntKind.i64.wrap (bAt a0 (0:Int)),(0:Int),([]:Str)⟩:yad)=r0/\(((a0.drop (1:Int).toNat).take ((a0.length:Int).toNat-(1:Int).toNat))==([]:Str))=r1) (cnd ((IntKind.i64.wrap (bAt a0 (0:Int)))==(1:Int)) (cnd (!((((a0.drop (1:Int).toNat).take ((a0.length:Int).toNat-(1:Int).toNat)).length:Int)==(1:Int))) ((⟨IntKind.i64.wrap (bAt a0 (0:Int)),(0:Int),([]:Str)⟩:yad)=r0/\false=r1) ((0<=(0:Int)/\(0:Int)<(((a0.drop (1:Int).toNat).take ((a0.length:Int).toNat-(1:Int).toNat)).length:Int))/\J1 (IntKind.i64.wrap (bAt ((a0.drop (1:Int).toNat).take ((a0.length:Int).toNat-(1:Int).toNat)) (0:Int))) ([]:Str))) (cnd ((IntKind.i64.wrap (bAt a0 (0:Int)))==(2:Int)) (∃z4 z5,(ybH ((a0.drop (1:Int).toNat).take ((a0.length:Int).toNat-(1:Int).toNat)) z4 z5)/\cnd (!z5) ((⟨IntKind.i64.wrap (bAt a0 (0:Int)),(0:Int),([]:Str)⟩:yad)=r0/\false=r1) (J1 z4 ([]:Str))) (J1 (0:Int) ((a0.drop (1:Int).toNat).take ((a0.length:Int).toNat-(1:Int).toNat))))))
def ycU (a0:Str) (r0:yad) (r1:Bool) (x1:Int) (x2:Str):Prop:=
 ∃z3,(ybM (⟨IntKind.i64.wrap (bAt a0 (0:Int)),x1,x2⟩:yad) z3)/\(⟨IntKind.i64.wrap (bAt a0 (0:Int)),x1,x2⟩:yad)=r0/\z3=r1
def ymA (a0:Str) (r0:yad) (r1:Bool):Prop:=
 cnd (a0==([]:Str)) ((⟨(0:Int),(0:Int),([]:Str)⟩:yad)=r0/\false=r1) ((0<=(1:Int)/\(1:Int)<=(a0.length:Int)/\(a0.length:Int)<=(a0.length:Int))/\(0<=(0:Int)/\(0:Int)<(a0.length:Int))/\cnd ((IntKind.i64.wrap (bAt a0 (0:Int)))==(0:Int)) ((⟨IntKind.i64.wrap (bAt a0 (0:Int)),(0:Int),([]:Str)⟩:yad)=r0/\(((a0.drop (1:Int).toNat).take ((a0.length:Int).toNat-(1:Int).toNat))==([]:Str))=r1) (cnd ((IntKind.i64.wrap (bAt a0 (0:Int)))==(1:Int)) (cnd (!((((a0.drop (1:Int).toNat).take ((a0.length:Int).toNat-(1:Int).toNat)).length:Int)==(1:Int))) ((⟨IntKind.i64.wrap (bAt a0 (0:Int)),(0:Int),([]:Str)⟩:yad)=r0/\false=r1) ((0<=(0:Int)/\(0:Int)<(((a0.drop (1:Int).toNat).take ((a0.length:Int).toNat-(1:Int).toNat)).length:Int))/\ycU a0 r0 r1 (IntKind.i64.wrap (bAt ((a0.drop (1:Int).toNat).take ((a0.length:Int).toNat-(1:Int).toNat)) (0:Int))) ([]:Str))) (cnd ((IntKind.i64.wrap (bAt a0 (0:Int)))==(2:Int)) (∃z4 z5,(ybH ((a0.drop (1:Int).toNat).take ((a0.length:Int).toNat-(1:Int).toNat)) z4 z5)/\cnd (!z5) ((⟨IntKind.i64.wrap (bAt a0 (0:Int)),(0:Int),([]:Str)⟩:yad)=r0/\false=r1) (ycU a0 r0 r1 z4 ([]:Str))) (ycU a0 r0 r1 (0:Int) ((a0.drop (1:Int).toNat).take ((a0.length:Int).toNat-(1:Int).toNat))))))
theorem yoD (a0:Str) (r0:yad) (r1:Bool) {x1:Int} {x2:Str} (h:ycU a0 r0 r1 x1 x2):yjg a0 r0 r1 x1 x2:=by
 unfold yjg
 unfold ycU at h
 exact h
theorem yt6 (a0:Str) (r0:yad) (r1:Bool) (h:ymA a0 r0 r1):yfq a0 r0 r1:=by
 unfold yfq
 unfold ymA at h
 refine yak h (fun h=> ?_) (fun h=> ?_)
 ·exact h
 ·obtain ⟨h0,h⟩:=h
  refine ⟨h0,?_⟩
  obtain ⟨h0,h⟩:=h
  refine ⟨h0,?_⟩
  intro J1 kJ1
  have hJ1:∀x1 x2,ycU a0 r0 r1 x1 x2->J1 x1 x2:=fun x1 x2 q=>kJ1 x1 x2 (yoD a0 r0 r1 q)
  refine yak h (fun h=> ?_) (fun h=> ?_)
  ·exact h
  ·refine yak h (fun h=> ?_) (fun h=> ?_)
   ·refine yak h (fun h=> ?_) (fun h=> ?_)
    ·exact h
    ·obtain ⟨h0,h⟩:=h
     refine ⟨h0,?_⟩
     exact hJ1 _ _ h
   ·refine yak h (fun h=> ?_) (fun h=> ?_)
    ·obtain ⟨z4,h⟩:=h
     refine ⟨z4,?_⟩
     obtain ⟨z5,h⟩:=h
     refine ⟨z5,?_⟩
     obtain ⟨h0,h⟩:=h
     refine ⟨h0,?_⟩
     refine yak h (fun h=> ?_) (fun h=> ?_)
     ·exact h
     ·exact hJ1 _ _ h
    ·exact hJ1 _ _ h
def ymC:Sp KK:=⟨48,[.v 9],[61,4],appW (K:=KK) [61,4] [.v 9] yfq⟩
def yrU:An KK:=(.s .o (.s (.s .o (.c (.s .o .o) .o)) (.s .o (.s .o (.j ⟨[(2, .px 2 0),(5, .px 5 0)],[(2,61,[.kp 1, .kp 2, .kp 3]),(5,61,[.kp 4, .it .i64, .st])],[]⟩ (.s .o (.b (.s .o (.c (.s .o .o) (.s .o (.c (.s (.s .o (.c (.s .o .o) .o)) .o) (.s .o (.c (.s .o (.s (.s .o (.c (.s .o .o) .o)) .o)) .o)))))))) (fun _=>(.s .o .o)))))))
def yrB:Cf KK:=⟨CC,[ygs,yfu],[],51,[],none,false⟩
theorem yru:SpOk Try.prog CC ymC:=yay (F:=yrB) (ps:= [.v 9]) (rs:= [61,4]) (w:=yfq) ybh (yas yiG (yas yiT yaE)) yaD t48 (A:=yrU) (by kernel_rfl) (by kernel_rfl) (fun a0 r0 r1=>show _=_ by kernel_rfl)
def yko (z1:List Str) (r0:List yad) (r1:Int) (X1:Int→(List yad)→Prop) (x3:Int) (x4:List yad):Prop:=
 cnd (decide (x3<(z1.length:Int))) ((0<=x3)/\(x3<(z1.length:Int))/\∃y5:Str,(z1[x3.toNat]? =some y5)/\∃z6 z7,(yfq y5 z6 z7)/\cnd (!z7) (([]:List yad)=r0/\(4:Int)=r1) ((x4.length<=1000000000)/\X1 (IntKind.i64.wrap (x3+(1:Int))) (x4++([z6]:List yad)))) (x4=r0/\(0:Int)=r1)
def yeY (a0:Str) (r0:List yad) (r1:Int):Prop:=
 ∃z1 z2,(ycf a0 z1 z2)/\cnd (!(z2==(0:Int))) (([]:List yad)=r0/\z2=r1) ((z1.length<=maxLen->∀X1:Int->(List yad)->Prop,(∀x3 x4,yko z1 r0 r1 X1 x3 x4->X1 x3 x4)->X1 (0:Int) ([]:List yad)))
def ykg:Sp KK:=⟨32,[.v 9],[29,52],appW (K:=KK) [29,52] [.v 9] yeY⟩
def yur:An KK:=(.s .o (.s .o (.s (.s .o (.c (.s .o .o) .o)) (.s .o (.s (.s .o (.b (.l ⟨[(6, .row 35),(19, .kp 6),(20, .kp 7),(21, .it .i64)],[],[(35,61)]⟩ (fun _=>(.s .o (.s (.c .o .o) (.s (.b (.s .o (.s .o (.s (.s .o (.c (.s .o .o) .o)) .o)))) .o))))))) (.s .o .o))))))
def yuh:Cf KK:=⟨CC,[yhe,ymC],[],38,[],none,false⟩
theorem yn8:SpOk Try.prog CC ykg:=yay (F:=yuh) (ps:= [.v 9]) (rs:= [29,52]) (w:=yeY) ybh (yas yjo (yas yru yaE)) yaD t32 (A:=yur) (by kernel_rfl) (by kernel_rfl) (fun a0 r0 r1=>show _=_ by kernel_rfl)
def yiN (a0:Str) (r0:Int) (X1:Int→Int→Prop) (x1 x2:Int):Prop:=
 cnd (decide (x2<(a0.length:Int))) ((0<=x2/\x2<(a0.length:Int))/\X1 (bits .or .u64 (IntKind.u64.wrap (x1*2^(min (8:Int).toNat IntKind.u64.bits))) (IntKind.u64.wrap (bAt a0 x2))) (IntKind.i64.wrap (x2+(1:Int)))) (x1=r0)
def yc6 (a0:Str) (r0:Int):Prop:=
 ∀X1:Int->Int->Prop,(∀x1 x2,yiN a0 r0 X1 x1 x2->X1 x1 x2)->X1 (0:Int) (0:Int)
def yiK:Sp KK:=⟨65,[.v 9],[65],appW (K:=KK) [65] [.v 9] yc6⟩
def ynd:An KK:=(.s .o (.s .o (.s (.s .o (.b (.l ⟨[(0, .kp 5),(3, .it .u64),(6, .kp 7),(7, .it .i64)],[],[]⟩ (fun _=>(.s .o (.s (.c .o .o) (.s (.b (.s .o .o)) .o))))))) (.s .o .o))))
def ynx:Cf KK:=⟨CC,[],[],19,[],none,false⟩
theorem ynt:SpOk Try.prog CC yiK:=yay (F:=ynx) (ps:= [.v 9]) (rs:= [65]) (w:=yc6) ybh yaE yaD t65 (A:=ynd) (by kernel_rfl) (by kernel_rfl) (fun a0 r0=>show _=_ by kernel_rfl)
def yde (a0:Str) (r0:yai) (r1:Int):Prop:=
 cnd (decide ((a0.length:Int)<(16:Int))) ((⟨(0:Int),(0:Int)⟩:yai)=r0/\(2:Int)=r1) (cnd (decide ((16:Int)<(a0.length:Int))) ((⟨(0:Int),(0:Int)⟩:yai)=r0/\(3:Int)=r1) ((0<=(0:Int)/\(0:Int)<=(8:Int)/\(8:Int)<=(a0.length:Int))/\∃z1,(yc6 ((a0.drop (0:Int).toNat).take ((8:Int).toNat-(0:Int).toNat)) z1)/\(0<=(8:Int)/\(8:Int)<=(a0.length:Int)/\(a0.length:Int)<=(a0.length:Int))/\∃z2,(yc6 ((a0.drop (8:Int).toNat).take ((a0.length:Int).toNat-(8:Int).toNat)) z2)/\(⟨IntKind.i64.wrap z1,z2⟩:yai)=r0/\(0:Int)=r1))
def ymh:Sp KK:=⟨50,[.v 9],[67,52],appW (K:=KK) [67,52] [.v 9] yde⟩
def yrh:An KK:=(.s .o (.s (.b (.s .o (.c (.s .o .o) (.s .o (.c (.s .o .o) .o))))) (.s .o .o)))
def ysj:Cf KK:=⟨CC,[yiK],[],22,[],none,false⟩
theorem yrp:SpOk Try.prog CC ymh:=yay (F:=ysj) (ps:= [.v 9]) (rs:= [67,52]) (w:=yde) ybh (yas ynt yaE) yaD t50 (A:=yrh) (by kernel_rfl) (by kernel_rfl) (fun a0 r0 r1=>show _=_ by kernel_rfl)
def ykM (r0:yad) (r1:Bool) (z1:List yad) (x3:Bool):Prop:=
 cnd x3 ((⟨(0:Int),(0:Int),([]:Str)⟩:yad)=r0/\false=r1) ((0<=(0:Int))/\((0:Int)<(z1.length:Int))/\∃y4:yad,(z1[(0:Int).toNat]? =some y4)/\y4=r0/\true=r1)
def yd6 (a0:Str) (r0:yad) (r1:Bool):Prop:=
 ∃z1 z2,(yeY a0 z1 z2)/\∀J1:Bool->Prop,(∀x3,ykM r0 r1 z1 x3->J1 x3)->cnd (!(z2==(0:Int))) (J1 true) ((z1.length<=maxLen->J1 (!((z1.length:Int)==(1:Int)))))
def yfW (r0:yad) (r1:Bool) (z1:List yad) (x3:Bool):Prop:=
 cnd x3 ((⟨(0:Int),(0:Int),([]:Str)⟩:yad)=r0/\false=r1) ((0<=(0:Int))/\((0:Int)<(z1.length:Int))/\∃y4:yad,(z1[(0:Int).toNat]? =some y4)/\y4=r0/\true=r1)
def ynV (a0:Str) (r0:yad) (r1:Bool):Prop:=
 ∃z1 z2,(yeY a0 z1 z2)/\cnd (!(z2==(0:Int))) (yfW r0 r1 z1 true) ((z1.length<=maxLen->yfW r0 r1 z1 (!((z1.length:Int)==(1:Int)))))
theorem yp4 (r0:yad) (r1:Bool) (z1:List yad) {x3:Bool} (h:yfW r0 r1 z1 x3):ykM r0 r1 z1 x3:=by
 unfold ykM
 unfold yfW at h
 exact h
theorem yvS (a0:Str) (r0:yad) (r1:Bool) (h:ynV a0 r0 r1):yd6 a0 r0 r1:=by
 unfold yd6
 unfold ynV at h
 obtain ⟨z1,h⟩:=h
 refine ⟨z1,?_⟩
 obtain ⟨z2,h⟩:=h
 refine ⟨z2,?_⟩
 obtain ⟨h0,h⟩:=h
 refine ⟨h0,?_⟩
 intro J1 kJ1
 have hJ1:∀x3,yfW r0 r1 z1 x3->J1 x3:=fun x3 q=>kJ1 x3 (yp4 r0 r1 z1 q)
 refine yak h (fun h=> ?_) (fun h=> ?_)
 ·exact hJ1 _ h
 ·intro c
  replace h:=h c
  exact hJ1 _ h
def ynW:Sp KK:=⟨51,[.v 9],[61,4],appW (K:=KK) [61,4] [.v 9] yd6⟩
def yuy:An KK:=(.s .o (.s .o (.s (.j ⟨[(2, .px 2 0),(4, .kp 5),(17, .bl)],[(2,61,[.kp 6, .kp 7, .kp 8])],[]⟩ .o (fun _=>(.c (.s .o .o) .o))) (.s .o .o))))
def yuo:Cf KK:=⟨CC,[ykg],[],22,[],none,false⟩
theorem yug:SpOk Try.prog CC ynW:=yay (F:=yuo) (ps:= [.v 9]) (rs:= [61,4]) (w:=yd6) ybh (yas yn8 yaE) yaD t51 (A:=yuy) (by kernel_rfl) (by kernel_rfl) (fun a0 r0 r1=>show _=_ by kernel_rfl)
def yji (X1:Bool→Int→(List yag)→Prop) (x5 z10:Int) (z13:yai) (z16 z19:yad) (x21:Bool) (x22:List yag):Prop:=
 (x22.length<=1000000000)/\X1 x21 (IntKind.i64.wrap (x5+(4:Int))) (x22++([(⟨z10,z13,z16,z19⟩:yag)]:List yag))
def yja (x5:Int) (a0:List Str) (X1:Bool→Int→(List yag)→Prop) (z2:Int) (r0:yae) (x4 r1 x7:Bool) (x8:List yag):Prop:=
 cnd x7 ((0<=x5)/\(x5<(a0.length:Int))/\∃y9:Str,(a0[x5.toNat]? =some y9)/\∃z10 z11,(ybH y9 z10 z11)/\(0<=(IntKind.i64.wrap (x5+(1:Int))))/\((IntKind.i64.wrap (x5+(1:Int)))<(a0.length:Int))/\∃y12:Str,(a0[(IntKind.i64.wrap (x5+(1:Int))).toNat]? =some y12)/\∃z13 z14,(yde y12 z13 z14)/\(0<=(IntKind.i64.wrap (x5+(2:Int))))/\((IntKind.i64.wrap (x5+(2:Int)))<(a0.length:Int))/\∃y15:Str,(a0[(IntKind.i64.wrap (x5+(2:Int))).toNat]? =some y15)/\∃z16 z17,(yd6 y15 z16 z17)/\(0<=(IntKind.i64.wrap (x5+(3:Int))))/\((IntKind.i64.wrap (x5+(3:Int)))<(a0.length:Int))/\∃y18:Str,(a0[(IntKind.i64.wrap (x5+(3:Int))).toNat]? =some y18)/\∃z19 z20,(yd6 y18 z19 z20)/\∀J3:Bool->(List yag)->Prop,(∀x21 x22,yji X1 x5 z10 z13 z16 z19 x21 x22->J3 x21 x22)->cnd z11 (cnd z17 (cnd z20 (J3 (z14==(0:Int)) x8) (J3 false x8)) (J3 false x8)) (J3 false x8)) ((⟨z2,x8⟩:yae)=r0/\x4=r1)
def yjc (a0:List Str) (z2:Int) (r0:yae) (r1:Bool) (X1:Bool→Int→(List yag)→Prop) (x4:Bool) (x5:Int) (x6:List yag):Prop:=
 ∀J2:Bool->(List yag)->Prop,(∀x7 x8,yja x5 a0 X1 z2 r0 x4 r1 x7 x8->J2 x7 x8)->(a0.length<=maxLen->cnd (decide (x5<(a0.length:Int))) (J2 x4 x6) (J2 false x6))
def yeG (a0:List Str) (r0:yae) (r1:Bool):Prop:=
 (a0.length<=maxLen->cnd (!(((a0.length:Int).tmod (4:Int))==(1:Int))) ((⟨(0:Int),([]:List yag)⟩:yae)=r0/\false=r1) ((0<=(0:Int))/\((0:Int)<(a0.length:Int))/\∃y1:Str,(a0[(0:Int).toNat]? =some y1)/\∃z2 z3,(ybH y1 z2 z3)/\∀X1:Bool->Int->(List yag)->Prop,(∀x4 x5 x6,yjc a0 z2 r0 r1 X1 x4 x5 x6->X1 x4 x5 x6)->X1 z3 (1:Int) ([]:List yag)))
def ycV (X1:Bool→Int→(List yag)→Prop) (x5 z10:Int) (z13:yai) (z16 z19:yad) (x21:Bool) (x22:List yag):Prop:=
 (x22.length<=1000000000)/\X1 x21 (IntKind.i64.wrap (x5+(4:Int))) (x22++([(⟨z10,z13,z16,z19⟩:yag)]:List yag))
def ye0 (X1:Bool→Int→(List yag)→Prop) (a0:List Str) (r0:yae) (r1 x4:Bool) (x5 z2:Int) (x7:Bool) (x8:List yag):Prop:=
 cnd x7 ((0<=x5)/\(x5<(a0.length:Int))/\∃y9:Str,(a0[x5.toNat]? =some y9)/\∃z10 z11,(ybH y9 z10 z11)/\(0<=(IntKind.i64.wrap (x5+(1:Int))))/\((IntKind.i64.wrap (x5+(1:Int)))<(a0.length:Int))/\∃y12:Str,(a0[(IntKind.i64.wrap (x5+(1:Int))).toNat]? =some y12)/\∃z13 z14,(yde y12 z13 z14)/\(0<=(IntKind.i64.wrap (x5+(2:Int))))/\((IntKind.i64.wrap (x5+(2:Int)))<(a0.length:Int))/\∃y15:Str,(a0[(IntKind.i64.wrap (x5+(2:Int))).toNat]? =some y15)/\∃z16 z17,(yd6 y15 z16 z17)/\(0<=(IntKind.i64.wrap (x5+(3:Int))))/\((IntKind.i64.wrap (x5+(3:Int)))<(a0.length:Int))/\∃y18:Str,(a0[(IntKind.i64.wrap (x5+(3:Int))).toNat]? =some y18)/\∃z19 z20,(yd6 y18 z19 z20)/\cnd z11 (cnd z17 (cnd z20 (ycV X1 x5 z10 z13 z16 z19 (z14==(0:Int)) x8) (ycV X1 x5 z10 z13 z16 z19 false x8)) (ycV X1 x5 z10 z13 z16 z19 false x8)) (ycV X1 x5 z10 z13 z16 z19 false x8)) ((⟨z2,x8⟩:yae)=r0/\x4=r1)
def ygk (a0:List Str) (r0:yae) (r1:Bool) (z2:Int) (X1:Bool→Int→(List yag)→Prop) (x4:Bool) (x5:Int) (x6:List yag):Prop:=
 (a0.length<=maxLen->cnd (decide (x5<(a0.length:Int))) (ye0 X1 a0 r0 r1 x4 x5 z2 x4 x6) (ye0 X1 a0 r0 r1 x4 x5 z2 false x6))
def ymy (a0:List Str) (r0:yae) (r1:Bool):Prop:=
 (a0.length<=maxLen->cnd (!(((a0.length:Int).tmod (4:Int))==(1:Int))) ((⟨(0:Int),([]:List yag)⟩:yae)=r0/\false=r1) ((0<=(0:Int))/\((0:Int)<(a0.length:Int))/\∃y1:Str,(a0[(0:Int).toNat]? =some y1)/\∃z2 z3,(ybH y1 z2 z3)/\∀X1:Bool->Int->(List yag)->Prop,(∀x4 x5 x6,ygk a0 r0 r1 z2 X1 x4 x5 x6->X1 x4 x5 x6)->X1 z3 (1:Int) ([]:List yag)))
theorem yo5 (X1:Bool→Int→(List yag)→Prop) (x5 z10:Int) (z13:yai) (z16 z19:yad) {x21:Bool} {x22:List yag} (h:ycV X1 x5 z10 z13 z16 z19 x21 x22):yji X1 x5 z10 z13 z16 z19 x21 x22:=by
 unfold yji
 unfold ycV at h
 exact h
theorem yoj (X1:Bool→Int→(List yag)→Prop) (a0:List Str) (r0:yae) (r1 x4:Bool) (x5 z2:Int) {x7:Bool} {x8:List yag} (h:ye0 X1 a0 r0 r1 x4 x5 z2 x7 x8):yja x5 a0 X1 z2 r0 x4 r1 x7 x8:=by
 unfold yja
 unfold ye0 at h
 refine yak h (fun h=> ?_) (fun h=> ?_)
 ·obtain ⟨h0,h⟩:=h
  refine ⟨h0,?_⟩
  obtain ⟨h0,h⟩:=h
  refine ⟨h0,?_⟩
  obtain ⟨y9,h⟩:=h
  refine ⟨y9,?_⟩
  obtain ⟨h0,h⟩:=h
  refine ⟨h0,?_⟩
  obtain ⟨z10,h⟩:=h
  refine ⟨z10,?_⟩
  obtain ⟨z11,h⟩:=h
  refine ⟨z11,?_⟩
  obtain ⟨h0,h⟩:=h
  refine ⟨h0,?_⟩
  obtain ⟨h0,h⟩:=h
  refine ⟨h0,?_⟩
  obtain ⟨h0,h⟩:=h
  refine ⟨h0,?_⟩
  obtain ⟨y12,h⟩:=h
  refine ⟨y12,?_⟩
  obtain ⟨h0,h⟩:=h
  refine ⟨h0,?_⟩
  obtain ⟨z13,h⟩:=h
  refine ⟨z13,?_⟩
  obtain ⟨z14,h⟩:=h
  refine ⟨z14,?_⟩
  obtain ⟨h0,h⟩:=h
  refine ⟨h0,?_⟩
  obtain ⟨h0,h⟩:=h
  refine ⟨h0,?_⟩
  obtain ⟨h0,h⟩:=h
  refine ⟨h0,?_⟩
  obtain ⟨y15,h⟩:=h
  refine ⟨y15,?_⟩
  obtain ⟨h0,h⟩:=h
  refine ⟨h0,?_⟩
  obtain ⟨z16,h⟩:=h
  refine ⟨z16,?_⟩
  obtain ⟨z17,h⟩:=h
  refine ⟨z17,?_⟩
  obtain ⟨h0,h⟩:=h
  refine ⟨h0,?_⟩
  obtain ⟨h0,h⟩:=h
  refine ⟨h0,?_⟩
  obtain ⟨h0,h⟩:=h
  refine ⟨h0,?_⟩
  obtain ⟨y18,h⟩:=h
  refine ⟨y18,?_⟩
  obtain ⟨h0,h⟩:=h
  refine ⟨h0,?_⟩
  obtain ⟨z19,h⟩:=h
  refine ⟨z19,?_⟩
  obtain ⟨z20,h⟩:=h
  refine ⟨z20,?_⟩
  obtain ⟨h0,h⟩:=h
  refine ⟨h0,?_⟩
  intro J3 kJ3
  have hJ3:∀x21 x22,ycV X1 x5 z10 z13 z16 z19 x21 x22->J3 x21 x22:=fun x21 x22 q=>kJ3 x21 x22 (yo5 X1 x5 z10 z13 z16 z19 q)
  refine yak h (fun h=> ?_) (fun h=> ?_)
  ·refine yak h (fun h=> ?_) (fun h=> ?_)
   ·refine yak h (fun h=> ?_) (fun h=> ?_)
    ·exact hJ3 _ _ h
    ·exact hJ3 _ _ h
   ·exact hJ3 _ _ h
  ·exact hJ3 _ _ h
 ·exact h
theorem yoc (a0:List Str) (r0:yae) (r1:Bool) (z2:Int) {X1:Bool→Int→(List yag)→Prop} {x4:Bool} {x5:Int} {x6:List yag} (h:ygk a0 r0 r1 z2 X1 x4 x5 x6):yjc a0 z2 r0 r1 X1 x4 x5 x6:=by
 unfold yjc
 unfold ygk at h
 intro J2 kJ2
 have hJ2:∀x7 x8,ye0 X1 a0 r0 r1 x4 x5 z2 x7 x8->J2 x7 x8:=fun x7 x8 q=>kJ2 x7 x8 (yoj X1 a0 r0 r1 x4 x5 z2 q)
 intro c
 replace h:=h c
 refine yak h (fun h=> ?_) (fun h=> ?_)
 ·exact hJ2 _ _ h
 ·exact hJ2 _ _ h
theorem yue (a0:List Str) (r0:yae) (r1:Bool) (h:ymy a0 r0 r1):yeG a0 r0 r1:=by
 unfold yeG
 unfold ymy at h
 intro c
 replace h:=h c
 refine yak h (fun h=> ?_) (fun h=> ?_)
 ·exact h
 ·obtain ⟨h0,h⟩:=h
  refine ⟨h0,?_⟩
  obtain ⟨h0,h⟩:=h
  refine ⟨h0,?_⟩
  obtain ⟨y1,h⟩:=h
  refine ⟨y1,?_⟩
  obtain ⟨h0,h⟩:=h
  refine ⟨h0,?_⟩
  obtain ⟨z2,h⟩:=h
  refine ⟨z2,?_⟩
  obtain ⟨z3,h⟩:=h
  refine ⟨z3,?_⟩
  obtain ⟨h0,h⟩:=h
  refine ⟨h0,?_⟩
  intro X1 k
  exact h X1 (fun x4 x5 x6 q=>k x4 x5 x6 (yoc a0 r0 r1 z2 q))
def ymN:Sp KK:=⟨33,[.v 76],[32,4],appW (K:=KK) [32,4] [.v 76] yeG⟩
def yrF:An KK:=(.s .o (.s (.s .o (.c (.s .o .o) .o)) (.s .o (.s .o (.s (.s .o (.b (.l ⟨[(0, .kp 70),(2, .px 2 0),(5, .bl),(6, .px 6 0),(7, .it .i64)],[(2,32,[.kp 73, .kp 74]),(6,32,[.kp 75, .row 93])],[(93,69)]⟩ (fun _=>(.s (.j ⟨[(0, .kp 70),(2, .px 2 0),(5, .kp 119),(6, .px 6 0),(7, .kp 120),(36, .bl)],[(2,32,[.kp 73, .kp 74]),(6,32,[.kp 75, .row 93])],[(93,69)]⟩ .o (fun _=>(.c .o .o))) (.s (.b (.s .o (.s .o (.s .o (.s .o (.j ⟨[(0, .kp 70),(2, .px 2 0),(5, .bl),(6, .px 6 0),(7, .kp 120),(8, .kp 130),(10, .px 10 0),(12, .px 12 0),(14, .px 14 0)],[(2,32,[.kp 73, .kp 74]),(6,32,[.kp 75, .row 93]),(10,67,[.kp 131, .kp 132]),(12,61,[.kp 133, .kp 134, .kp 135]),(14,61,[.kp 136, .kp 137, .kp 138])],[(93,69)]⟩ .o (fun _=> .o))))))) .o)))))) (.s .o .o))))))
def yrf:Cf KK:=⟨CC,[ygs,ymh,ynW],[],97,[],none,false⟩
theorem yr3:SpOk Try.prog CC ymN:=yay (F:=yrf) (ps:= [.v 76]) (rs:= [32,4]) (w:=yeG) ybh (yas yiG (yas yrp (yas yug yaE))) yaD t33 (A:=yrF) (by kernel_rfl) (by kernel_rfl) (fun a0 r0 r1=>show _=_ by kernel_rfl)
def yg8 (r0:List yaa) (r1:Int) (X1:Int→(List yaa)→Prop) (x3:Int) (z6:List yad) (z11:yae) (x13:Bool) (x14:List yaa):Prop:=
 cnd x13 (([]:List yaa)=r0/\(4:Int)=r1) ((x14.length<=1000000000)/\X1 (IntKind.i64.wrap (x3+(2:Int))) (x14++([(⟨z6,z11⟩:yaa)]:List yaa)))
def yhg (z1:List Str) (r0:List yaa) (r1:Int) (X1:Int→(List yaa)→Prop) (x3:Int) (x4:List yaa):Prop:=
 (z1.length<=maxLen->cnd (decide (x3<(z1.length:Int))) ((0<=x3)/\(x3<(z1.length:Int))/\∃y5:Str,(z1[x3.toNat]? =some y5)/\∃z6 z7,(yeY y5 z6 z7)/\(0<=(IntKind.i64.wrap (x3+(1:Int))))/\((IntKind.i64.wrap (x3+(1:Int)))<(z1.length:Int))/\∃y8:Str,(z1[(IntKind.i64.wrap (x3+(1:Int))).toNat]? =some y8)/\∃z9 z10,(ycf y8 z9 z10)/\∃z11 z12,(yeG z9 z11 z12)/\∀J2:Bool->(List yaa)->Prop,(∀x13 x14,yg8 r0 r1 X1 x3 z6 z11 x13 x14->J2 x13 x14)->cnd (!(z7==(0:Int))) (J2 true x4) (cnd (!(z10==(0:Int))) (J2 true x4) (J2 (!z12) x4))) (x4=r0/\(0:Int)=r1))
def ycT (a0:Str) (r0:List yaa) (r1:Int):Prop:=
 ∃z1 z2,(ycf a0 z1 z2)/\cnd (!(z2==(0:Int))) (([]:List yaa)=r0/\z2=r1) ((z1.length<=maxLen->cnd (!(((z1.length:Int).tmod (2:Int))==(0:Int))) (([]:List yaa)=r0/\(4:Int)=r1) (∀X1:Int->(List yaa)->Prop,(∀x3 x4,yhg z1 r0 r1 X1 x3 x4->X1 x3 x4)->X1 (0:Int) ([]:List yaa))))
def ycI (X1:Int→(List yaa)→Prop) (r0:List yaa) (r1 x3:Int) (z6:List yad) (z11:yae) (x13:Bool) (x14:List yaa):Prop:=
 cnd x13 (([]:List yaa)=r0/\(4:Int)=r1) ((x14.length<=1000000000)/\X1 (IntKind.i64.wrap (x3+(2:Int))) (x14++([(⟨z6,z11⟩:yaa)]:List yaa)))
def ygy (r0:List yaa) (r1:Int) (z1:List Str) (X1:Int→(List yaa)→Prop) (x3:Int) (x4:List yaa):Prop:=
 (z1.length<=maxLen->cnd (decide (x3<(z1.length:Int))) ((0<=x3)/\(x3<(z1.length:Int))/\∃y5:Str,(z1[x3.toNat]? =some y5)/\∃z6 z7,(yeY y5 z6 z7)/\(0<=(IntKind.i64.wrap (x3+(1:Int))))/\((IntKind.i64.wrap (x3+(1:Int)))<(z1.length:Int))/\∃y8:Str,(z1[(IntKind.i64.wrap (x3+(1:Int))).toNat]? =some y8)/\∃z9 z10,(ycf y8 z9 z10)/\∃z11 z12,(yeG z9 z11 z12)/\cnd (!(z7==(0:Int))) (ycI X1 r0 r1 x3 z6 z11 true x4) (cnd (!(z10==(0:Int))) (ycI X1 r0 r1 x3 z6 z11 true x4) (ycI X1 r0 r1 x3 z6 z11 (!z12) x4))) (x4=r0/\(0:Int)=r1))
def yjX (a0:Str) (r0:List yaa) (r1:Int):Prop:=
 ∃z1 z2,(ycf a0 z1 z2)/\cnd (!(z2==(0:Int))) (([]:List yaa)=r0/\z2=r1) ((z1.length<=maxLen->cnd (!(((z1.length:Int).tmod (2:Int))==(0:Int))) (([]:List yaa)=r0/\(4:Int)=r1) (∀X1:Int->(List yaa)->Prop,(∀x3 x4,ygy r0 r1 z1 X1 x3 x4->X1 x3 x4)->X1 (0:Int) ([]:List yaa))))
theorem ymW (X1:Int→(List yaa)→Prop) (r0:List yaa) (r1 x3:Int) (z6:List yad) (z11:yae) {x13:Bool} {x14:List yaa} (h:ycI X1 r0 r1 x3 z6 z11 x13 x14):yg8 r0 r1 X1 x3 z6 z11 x13 x14:=by
 unfold yg8
 unfold ycI at h
 exact h
theorem ylW (r0:List yaa) (r1:Int) (z1:List Str) {X1:Int→(List yaa)→Prop} {x3:Int} {x4:List yaa} (h:ygy r0 r1 z1 X1 x3 x4):yhg z1 r0 r1 X1 x3 x4:=by
 unfold yhg
 unfold ygy at h
 intro c
 replace h:=h c
 refine yak h (fun h=> ?_) (fun h=> ?_)
 ·obtain ⟨h0,h⟩:=h
  refine ⟨h0,?_⟩
  obtain ⟨h0,h⟩:=h
  refine ⟨h0,?_⟩
  obtain ⟨y5,h⟩:=h
  refine ⟨y5,?_⟩
  obtain ⟨h0,h⟩:=h
  refine ⟨h0,?_⟩
  obtain ⟨z6,h⟩:=h
  refine ⟨z6,?_⟩
  obtain ⟨z7,h⟩:=h
  refine ⟨z7,?_⟩
  obtain ⟨h0,h⟩:=h
  refine ⟨h0,?_⟩
  obtain ⟨h0,h⟩:=h
  refine ⟨h0,?_⟩
  obtain ⟨h0,h⟩:=h
  refine ⟨h0,?_⟩
  obtain ⟨y8,h⟩:=h
  refine ⟨y8,?_⟩
  obtain ⟨h0,h⟩:=h
  refine ⟨h0,?_⟩
  obtain ⟨z9,h⟩:=h
  refine ⟨z9,?_⟩
  obtain ⟨z10,h⟩:=h
  refine ⟨z10,?_⟩
  obtain ⟨h0,h⟩:=h
  refine ⟨h0,?_⟩
  obtain ⟨z11,h⟩:=h
  refine ⟨z11,?_⟩
  obtain ⟨z12,h⟩:=h
  refine ⟨z12,?_⟩
  obtain ⟨h0,h⟩:=h
  refine ⟨h0,?_⟩
  intro J2 kJ2
  have hJ2:∀x13 x14,ycI X1 r0 r1 x3 z6 z11 x13 x14->J2 x13 x14:=fun x13 x14 q=>kJ2 x13 x14 (ymW X1 r0 r1 x3 z6 z11 q)
  refine yak h (fun h=> ?_) (fun h=> ?_)
  ·exact hJ2 _ _ h
  ·refine yak h (fun h=> ?_) (fun h=> ?_)
   ·exact hJ2 _ _ h
   ·exact hJ2 _ _ h
 ·exact h
theorem yrc (a0:Str) (r0:List yaa) (r1:Int) (h:yjX a0 r0 r1):ycT a0 r0 r1:=by
 unfold ycT
 unfold yjX at h
 obtain ⟨z1,h⟩:=h
 refine ⟨z1,?_⟩
 obtain ⟨z2,h⟩:=h
 refine ⟨z2,?_⟩
 obtain ⟨h0,h⟩:=h
 refine ⟨h0,?_⟩
 refine yak h (fun h=> ?_) (fun h=> ?_)
 ·exact h
 ·intro c
  replace h:=h c
  refine yak h (fun h=> ?_) (fun h=> ?_)
  ·exact h
  ·intro X1 k
   exact h X1 (fun x3 x4 q=>k x3 x4 (ylW r0 r1 z1 q))
def yjs:Sp KK:=⟨12,[.v 9],[26,52],appW (K:=KK) [26,52] [.v 9] ycT⟩
def yoI:An KK:=(.s .o (.s .o (.s (.s .o (.c (.s .o .o) .o)) (.s (.s .o (.c (.s .o .o) .o)) (.s .o (.s (.s .o (.b (.l ⟨[(4, .kp 48),(6, .row 69),(7, .it .i64)],[],[(69,34)]⟩ (fun _=>(.s (.s .o (.c .o .o)) (.s (.b (.s .o (.s .o (.s .o (.s (.j ⟨[(4, .kp 48),(6, .row 69),(7, .kp 91),(8, .kp 92),(12, .px 12 0),(63, .bl)],[(12,32,[.kp 93, .kp 94])],[(69,34)]⟩ .o (fun _=>(.c (.s .o .o) .o))) .o))))) .o)))))) (.s .o .o)))))))
def ypE:Cf KK:=⟨CC,[yhe,ykg,ymN],[],71,[],none,false⟩
theorem yoL:SpOk Try.prog CC yjs:=yay (F:=ypE) (ps:= [.v 9]) (rs:= [26,52]) (w:=ycT) ybh (yas yjo (yas yn8 (yas yr3 yaE))) yaD t12 (A:=yoI) (by kernel_rfl) (by kernel_rfl) (fun a0 r0 r1=>show _=_ by kernel_rfl)
def ydg (a0:Int) (r0:yae):Prop:=
 (0<=a0)/\(88*a0.toNat<=281474976710656)/\(a0<=1000000000)/\(⟨(0:Int),List.replicate a0.toNat (⟨(0:Int),(⟨(0:Int),(0:Int)⟩:yai),(⟨(0:Int),(0:Int),([]:Str)⟩:yad),(⟨(0:Int),(0:Int),([]:Str)⟩:yad)⟩:yag)⟩:yae)=r0
def ymz:Sp KK:=⟨14,[.v 3],[32],appW (K:=KK) [32] [.v 3] ydg⟩
def yso:An KK:=(.s .o (.s .o .o))
def yrX:Cf KK:=⟨CC,[],[],6,[],none,false⟩
theorem yrW:SpOk Try.prog CC ymz:=yay (F:=yrX) (ps:= [.v 3]) (rs:= [32]) (w:=ydg) ybh yaE yaD t14 (A:=yso) (by kernel_rfl) (by kernel_rfl) (fun a0 r0=>show _=_ by kernel_rfl)
def yee (X1:Int→(List (List yaa))→(List yaa)→(List yac)→Prop) (x2:Int) (x13:Bool) (x14:List (List yaa)) (x15:List yaa) (x16:List yac):Prop:=
 cnd x13 (∃z17,(yb0 ([x15]:List (List yaa)) z17)/\(x14.length<=1000000000)/\X1 (IntKind.i64.wrap (x2+(1:Int))) (x14++([z17]:List (List yaa))) ([]:List yaa) x16) (X1 (IntKind.i64.wrap (x2+(1:Int))) x14 x15 x16)
def yed (r0:Bool) (X4:Int→Prop) (x21:Int) (x22:Bool):Prop:=
 cnd x22 (false=r0) (X4 (IntKind.i64.wrap (x21+(1:Int))))
def yei (r0:Bool) (X7:Int→Prop) (x35:Int) (x36:Bool):Prop:=
 cnd x36 (false=r0) (X7 (IntKind.i64.wrap (x35+(1:Int))))
def yef (z32:List yaa) (r0:Bool) (z19:List yaa) (z20:List (List yac)) (X7:Int→Prop) (x35:Int):Prop:=
 (z32.length<=maxLen->cnd (decide (x35<(z32.length:Int))) (∀J8:Bool->Prop,(∀x36,yei r0 X7 x35 x36->J8 x36)->(0<=x35)/\(x35<(z32.length:Int))/\∃y37:yaa,(z32[x35.toNat]? =some y37)/\(0<=x35)/\(x35<(z19.length:Int))/\∃y38:yaa,(z19[x35.toNat]? =some y38)/\∃z39,(ycg y37.Row y38.Row z39)/\cnd (!(z39==(0:Int))) (J8 true) ((0<=x35)/\(x35<(z32.length:Int))/\∃y40:yaa,(z32[x35.toNat]? =some y40)/\(0<=x35)/\(x35<(z20.length:Int))/\∃y41:(List yac),(z20[x35.toNat]? =some y41)/\∃z42,(yaZ (⟨y40.Part.Rows,y40.Part.L⟩:yae) y41 z42)/\J8 (!z42))) (∃z43,(ydg (2:Int) z43)/\∃z44,(yaZ z43 ([]:List yac) z44)/\cnd z44 (∃z45,(ydg (2:Int) z45)/\∃z46,(ydg (2:Int) z46)/\∃z47,(ycJ z45 z46 z47)/\∃z48,(yaZ z47 ([]:List yac) z48)/\z48=r0) (false=r0)))
def yd2 (r0:Bool) (z32 z19:List yaa) (z20:List (List yac)) (x34:Bool):Prop:=
 cnd x34 (false=r0) (∀X7:Int->Prop,(∀x35,yef z32 r0 z19 z20 X7 x35->X7 x35)->X7 (0:Int))
def yd1 (z19:List yaa) (r0:Bool) (z20:List (List yac)) (X4:Int→Prop) (x21:Int):Prop:=
 (z19.length<=maxLen->cnd (decide (x21<(z19.length:Int))) (∀J5:Bool->Prop,(∀x22,yed r0 X4 x21 x22->J5 x22)->(0<=x21)/\(x21<(z19.length:Int))/\∃y23:yaa,(z19[x21.toNat]? =some y23)/\∃z24,(ycw y23.Row z24)/\(0<=x21)/\(x21<(z20.length:Int))/\∃y25:(List yac),(z20[x21.toNat]? =some y25)/\(0<=(0:Int))/\((0:Int)<(y25.length:Int))/\∃y26:yac,(y25[(0:Int).toNat]? =some y26)/\∃z27,(ydO y26.Group z27)/\cnd (!(z24==z27)) (J5 true) ((0<=x21)/\(x21<(z19.length:Int))/\∃y28:yaa,(z19[x21.toNat]? =some y28)/\(0<=x21)/\(x21<(z20.length:Int))/\∃y29:(List yac),(z20[x21.toNat]? =some y29)/\∃z30,(yaZ (⟨y28.Part.Rows,y28.Part.L⟩:yae) y29 z30)/\J5 (!z30))) (∃z31,(yc5 z19 z31)/\∃z32 z33,(ycT z31 z32 z33)/\∀J6:Bool->Prop,(∀x34,yd2 r0 z32 z19 z20 x34->J6 x34)->cnd (!(z33==(0:Int))) (J6 true) ((z32.length<=maxLen->(z19.length<=maxLen->cnd (!((z32.length:Int)==(z19.length:Int))) (J6 true) (∃z49,(yc5 z32 z49)/\J6 (!(z49==z31))))))))
def yd3 (x2:Int) (a0:List yau) (X1:Int→(List (List yaa))→(List yaa)→(List yac)→Prop) (a1:List Int) (r0 x6:Bool) (x7:List (List yaa)) (x8:List yaa) (x9:List yac):Prop:=
 cnd x6 ((0<=x2)/\(x2<(a0.length:Int))/\∃y10:yau,(a0[x2.toNat]? =some y10)/\∃z11 z12,(ye6 (⟨y10.Group,(⟨y10.A.Kind,y10.A.N,y10.A.S⟩:yax),(⟨y10.B.Kind,y10.B.N,y10.B.S⟩:yax)⟩:yau) z11 z12)/\(x8.length<=1000000000)/\(x9.length<=1000000000)/\∀J3:Bool->(List (List yaa))->(List yaa)->(List yac)->Prop,(∀x13 x14 x15 x16,yee X1 x2 x13 x14 x15 x16->J3 x13 x14 x15 x16)->(a1.length<=maxLen->cnd (decide ((0:Int)<(a1.length:Int))) ((a1.length<=maxLen->((a1.length:Int)≠0)/\(0<=(x2.tmod (a1.length:Int)))/\((x2.tmod (a1.length:Int))<(a1.length:Int))/\∃y18:Int,(a1[(x2.tmod (a1.length:Int)).toNat]? =some y18)/\J3 (((IntKind.i64.wrap y18).tmod (3:Int))==(0:Int)) x7 (x8++([(⟨z11.Row,(⟨z11.Part.Rows,z11.Part.L⟩:yae)⟩:yaa)]:List yaa)) (x9++([z12]:List yac)))) (J3 false x7 (x8++([(⟨z11.Row,(⟨z11.Part.Rows,z11.Part.L⟩:yae)⟩:yaa)]:List yaa)) (x9++([z12]:List yac))))) ((x7.length<=1000000000)/\∃z19,(yb0 (x7++([x8]:List (List yaa))) z19)/\∃z20,(ych x9 z20)/\(z19.length<=maxLen->(z20.length<=maxLen->cnd (!((z19.length:Int)==(z20.length:Int))) (false=r0) (∀X4:Int->Prop,(∀x21,yd1 z19 r0 z20 X4 x21->X4 x21)->X4 (0:Int)))))
def yeb (a0:List yau) (a1:List Int) (r0:Bool) (X1:Int→(List (List yaa))→(List yaa)→(List yac)→Prop) (x2:Int) (x3:List (List yaa)) (x4:List yaa) (x5:List yac):Prop:=
 ∀J2:Bool->(List (List yaa))->(List yaa)->(List yac)->Prop,(∀x6 x7 x8 x9,yd3 x2 a0 X1 a1 r0 x6 x7 x8 x9->J2 x6 x7 x8 x9)->(a0.length<=maxLen->cnd (decide (x2<(a0.length:Int))) (J2 (decide (x2<(30:Int))) x3 x4 x5) (J2 false x3 x4 x5))
def ybC (a0:List yau) (a1:List Int) (r0:Bool):Prop:=
 ∃z1,(ycn z1)/\cnd (!z1) (false=r0) (∀X1:Int->(List (List yaa))->(List yaa)->(List yac)->Prop,(∀x2 x3 x4 x5,yeb a0 a1 r0 X1 x2 x3 x4 x5->X1 x2 x3 x4 x5)->X1 (0:Int) ([]:List (List yaa)) ([]:List yaa) ([]:List yac))
def ya9 (X1:Int→(List (List yaa))→(List yaa)→(List yac)→Prop) (x2:Int) (x13:Bool) (x14:List (List yaa)) (x15:List yaa) (x16:List yac):Prop:=
 cnd x13 (∃z17,(yb0 ([x15]:List (List yaa)) z17)/\(x14.length<=1000000000)/\X1 (IntKind.i64.wrap (x2+(1:Int))) (x14++([z17]:List (List yaa))) ([]:List yaa) x16) (X1 (IntKind.i64.wrap (x2+(1:Int))) x14 x15 x16)
def ybV (X4:Int→Prop) (r0:Bool) (x21:Int) (x22:Bool):Prop:=
 cnd x22 (false=r0) (X4 (IntKind.i64.wrap (x21+(1:Int))))
def ybZ (X7:Int→Prop) (r0:Bool) (x35:Int) (x36:Bool):Prop:=
 cnd x36 (false=r0) (X7 (IntKind.i64.wrap (x35+(1:Int))))
def ydI (r0:Bool) (z19:List yaa) (z20:List (List yac)) (z32:List yaa) (X7:Int→Prop) (x35:Int):Prop:=
 (z32.length<=maxLen->cnd (decide (x35<(z32.length:Int))) ((0<=x35)/\(x35<(z32.length:Int))/\∃y37:yaa,(z32[x35.toNat]? =some y37)/\(0<=x35)/\(x35<(z19.length:Int))/\∃y38:yaa,(z19[x35.toNat]? =some y38)/\∃z39,(ycg y37.Row y38.Row z39)/\cnd (!(z39==(0:Int))) (ybZ X7 r0 x35 true) ((0<=x35)/\(x35<(z32.length:Int))/\∃y40:yaa,(z32[x35.toNat]? =some y40)/\(0<=x35)/\(x35<(z20.length:Int))/\∃y41:(List yac),(z20[x35.toNat]? =some y41)/\∃z42,(yaZ (⟨y40.Part.Rows,y40.Part.L⟩:yae) y41 z42)/\ybZ X7 r0 x35 (!z42))) (∃z43,(ydg (2:Int) z43)/\∃z44,(yaZ z43 ([]:List yac) z44)/\cnd z44 (∃z45,(ydg (2:Int) z45)/\∃z46,(ydg (2:Int) z46)/\∃z47,(ycJ z45 z46 z47)/\∃z48,(yaZ z47 ([]:List yac) z48)/\z48=r0) (false=r0)))
def ybB (r0:Bool) (z19:List yaa) (z20:List (List yac)) (z32:List yaa) (x34:Bool):Prop:=
 cnd x34 (false=r0) (∀X7:Int->Prop,(∀x35,ydI r0 z19 z20 z32 X7 x35->X7 x35)->X7 (0:Int))
def ycD (r0:Bool) (z19:List yaa) (z20:List (List yac)) (X4:Int→Prop) (x21:Int):Prop:=
 (z19.length<=maxLen->cnd (decide (x21<(z19.length:Int))) ((0<=x21)/\(x21<(z19.length:Int))/\∃y23:yaa,(z19[x21.toNat]? =some y23)/\∃z24,(ycw y23.Row z24)/\(0<=x21)/\(x21<(z20.length:Int))/\∃y25:(List yac),(z20[x21.toNat]? =some y25)/\(0<=(0:Int))/\((0:Int)<(y25.length:Int))/\∃y26:yac,(y25[(0:Int).toNat]? =some y26)/\∃z27,(ydO y26.Group z27)/\cnd (!(z24==z27)) (ybV X4 r0 x21 true) ((0<=x21)/\(x21<(z19.length:Int))/\∃y28:yaa,(z19[x21.toNat]? =some y28)/\(0<=x21)/\(x21<(z20.length:Int))/\∃y29:(List yac),(z20[x21.toNat]? =some y29)/\∃z30,(yaZ (⟨y28.Part.Rows,y28.Part.L⟩:yae) y29 z30)/\ybV X4 r0 x21 (!z30))) (∃z31,(yc5 z19 z31)/\∃z32 z33,(ycT z31 z32 z33)/\cnd (!(z33==(0:Int))) (ybB r0 z19 z20 z32 true) ((z32.length<=maxLen->(z19.length<=maxLen->cnd (!((z32.length:Int)==(z19.length:Int))) (ybB r0 z19 z20 z32 true) (∃z49,(yc5 z32 z49)/\ybB r0 z19 z20 z32 (!(z49==z31))))))))
def ybD (X1:Int→(List (List yaa))→(List yaa)→(List yac)→Prop) (a0:List yau) (a1:List Int) (r0:Bool) (x2:Int) (x6:Bool) (x7:List (List yaa)) (x8:List yaa) (x9:List yac):Prop:=
 cnd x6 ((0<=x2)/\(x2<(a0.length:Int))/\∃y10:yau,(a0[x2.toNat]? =some y10)/\∃z11 z12,(ye6 (⟨y10.Group,(⟨y10.A.Kind,y10.A.N,y10.A.S⟩:yax),(⟨y10.B.Kind,y10.B.N,y10.B.S⟩:yax)⟩:yau) z11 z12)/\(x8.length<=1000000000)/\(x9.length<=1000000000)/\(a1.length<=maxLen->cnd (decide ((0:Int)<(a1.length:Int))) ((a1.length<=maxLen->((a1.length:Int)≠0)/\(0<=(x2.tmod (a1.length:Int)))/\((x2.tmod (a1.length:Int))<(a1.length:Int))/\∃y18:Int,(a1[(x2.tmod (a1.length:Int)).toNat]? =some y18)/\ya9 X1 x2 (((IntKind.i64.wrap y18).tmod (3:Int))==(0:Int)) x7 (x8++([(⟨z11.Row,(⟨z11.Part.Rows,z11.Part.L⟩:yae)⟩:yaa)]:List yaa)) (x9++([z12]:List yac)))) (ya9 X1 x2 false x7 (x8++([(⟨z11.Row,(⟨z11.Part.Rows,z11.Part.L⟩:yae)⟩:yaa)]:List yaa)) (x9++([z12]:List yac))))) ((x7.length<=1000000000)/\∃z19,(yb0 (x7++([x8]:List (List yaa))) z19)/\∃z20,(ych x9 z20)/\(z19.length<=maxLen->(z20.length<=maxLen->cnd (!((z19.length:Int)==(z20.length:Int))) (false=r0) (∀X4:Int->Prop,(∀x21,ycD r0 z19 z20 X4 x21->X4 x21)->X4 (0:Int)))))
def ydF (a0:List yau) (a1:List Int) (r0:Bool) (X1:Int→(List (List yaa))→(List yaa)→(List yac)→Prop) (x2:Int) (x3:List (List yaa)) (x4:List yaa) (x5:List yac):Prop:=
 (a0.length<=maxLen->cnd (decide (x2<(a0.length:Int))) (ybD X1 a0 a1 r0 x2 (decide (x2<(30:Int))) x3 x4 x5) (ybD X1 a0 a1 r0 x2 false x3 x4 x5))
def ygd (a0:List yau) (a1:List Int) (r0:Bool):Prop:=
 ∃z1,(ycn z1)/\cnd (!z1) (false=r0) (∀X1:Int->(List (List yaa))->(List yaa)->(List yac)->Prop,(∀x2 x3 x4 x5,ydF a0 a1 r0 X1 x2 x3 x4 x5->X1 x2 x3 x4 x5)->X1 (0:Int) ([]:List (List yaa)) ([]:List yaa) ([]:List yac))
theorem yix (X1:Int→(List (List yaa))→(List yaa)→(List yac)→Prop) (x2:Int) {x13:Bool} {x14:List (List yaa)} {x15:List yaa} {x16:List yac} (h:ya9 X1 x2 x13 x14 x15 x16):yee X1 x2 x13 x14 x15 x16:=by
 unfold yee
 unfold ya9 at h
 exact h
theorem yiC (X4:Int→Prop) (r0:Bool) (x21:Int) {x22:Bool} (h:ybV X4 r0 x21 x22):yed r0 X4 x21 x22:=by
 unfold yed
 unfold ybV at h
 exact h
theorem yiD (X7:Int→Prop) (r0:Bool) (x35:Int) {x36:Bool} (h:ybZ X7 r0 x35 x36):yei r0 X7 x35 x36:=by
 unfold yei
 unfold ybZ at h
 exact h
theorem yiF (r0:Bool) (z19:List yaa) (z20:List (List yac)) (z32:List yaa) {X7:Int→Prop} {x35:Int} (h:ydI r0 z19 z20 z32 X7 x35):yef z32 r0 z19 z20 X7 x35:=by
 unfold yef
 unfold ydI at h
 intro c
 replace h:=h c
 refine yak h (fun h=> ?_) (fun h=> ?_)
 ·intro J8 kJ8
  have hJ8:∀x36,ybZ X7 r0 x35 x36->J8 x36:=fun x36 q=>kJ8 x36 (yiD X7 r0 x35 q)
  obtain ⟨h0,h⟩:=h
  refine ⟨h0,?_⟩
  obtain ⟨h0,h⟩:=h
  refine ⟨h0,?_⟩
  obtain ⟨y37,h⟩:=h
  refine ⟨y37,?_⟩
  obtain ⟨h0,h⟩:=h
  refine ⟨h0,?_⟩
  obtain ⟨h0,h⟩:=h
  refine ⟨h0,?_⟩
  obtain ⟨h0,h⟩:=h
  refine ⟨h0,?_⟩
  obtain ⟨y38,h⟩:=h
  refine ⟨y38,?_⟩
  obtain ⟨h0,h⟩:=h
  refine ⟨h0,?_⟩
  obtain ⟨z39,h⟩:=h
  refine ⟨z39,?_⟩
  obtain ⟨h0,h⟩:=h
  refine ⟨h0,?_⟩
  refine yak h (fun h=> ?_) (fun h=> ?_)
  ·exact hJ8 _ h
  ·obtain ⟨h0,h⟩:=h
   refine ⟨h0,?_⟩
   obtain ⟨h0,h⟩:=h
   refine ⟨h0,?_⟩
   obtain ⟨y40,h⟩:=h
   refine ⟨y40,?_⟩
   obtain ⟨h0,h⟩:=h
   refine ⟨h0,?_⟩
   obtain ⟨h0,h⟩:=h
   refine ⟨h0,?_⟩
   obtain ⟨h0,h⟩:=h
   refine ⟨h0,?_⟩
   obtain ⟨y41,h⟩:=h
   refine ⟨y41,?_⟩
   obtain ⟨h0,h⟩:=h
   refine ⟨h0,?_⟩
   obtain ⟨z42,h⟩:=h
   refine ⟨z42,?_⟩
   obtain ⟨h0,h⟩:=h
   refine ⟨h0,?_⟩
   exact hJ8 _ h
 ·exact h
theorem yiw (r0:Bool) (z19:List yaa) (z20:List (List yac)) (z32:List yaa) {x34:Bool} (h:ybB r0 z19 z20 z32 x34):yd2 r0 z32 z19 z20 x34:=by
 unfold yd2
 unfold ybB at h
 refine yak h (fun h=> ?_) (fun h=> ?_)
 ·exact h
 ·intro X7 k
  exact h X7 (fun x35 q=>k x35 (yiF r0 z19 z20 z32 q))
theorem yiE (r0:Bool) (z19:List yaa) (z20:List (List yac)) {X4:Int→Prop} {x21:Int} (h:ycD r0 z19 z20 X4 x21):yd1 z19 r0 z20 X4 x21:=by
 unfold yd1
 unfold ycD at h
 intro c
 replace h:=h c
 refine yak h (fun h=> ?_) (fun h=> ?_)
 ·intro J5 kJ5
  have hJ5:∀x22,ybV X4 r0 x21 x22->J5 x22:=fun x22 q=>kJ5 x22 (yiC X4 r0 x21 q)
  obtain ⟨h0,h⟩:=h
  refine ⟨h0,?_⟩
  obtain ⟨h0,h⟩:=h
  refine ⟨h0,?_⟩
  obtain ⟨y23,h⟩:=h
  refine ⟨y23,?_⟩
  obtain ⟨h0,h⟩:=h
  refine ⟨h0,?_⟩
  obtain ⟨z24,h⟩:=h
  refine ⟨z24,?_⟩
  obtain ⟨h0,h⟩:=h
  refine ⟨h0,?_⟩
  obtain ⟨h0,h⟩:=h
  refine ⟨h0,?_⟩
  obtain ⟨h0,h⟩:=h
  refine ⟨h0,?_⟩
  obtain ⟨y25,h⟩:=h
  refine ⟨y25,?_⟩
  obtain ⟨h0,h⟩:=h
  refine ⟨h0,?_⟩
  obtain ⟨h0,h⟩:=h
  refine ⟨h0,?_⟩
  obtain ⟨h0,h⟩:=h
  refine ⟨h0,?_⟩
  obtain ⟨y26,h⟩:=h
  refine ⟨y26,?_⟩
  obtain ⟨h0,h⟩:=h
  refine ⟨h0,?_⟩
  obtain ⟨z27,h⟩:=h
  refine ⟨z27,?_⟩
  obtain ⟨h0,h⟩:=h
  refine ⟨h0,?_⟩
  refine yak h (fun h=> ?_) (fun h=> ?_)
  ·exact hJ5 _ h
  ·obtain ⟨h0,h⟩:=h
   refine ⟨h0,?_⟩
   obtain ⟨h0,h⟩:=h
   refine ⟨h0,?_⟩
   obtain ⟨y28,h⟩:=h
   refine ⟨y28,?_⟩
   obtain ⟨h0,h⟩:=h
   refine ⟨h0,?_⟩
   obtain ⟨h0,h⟩:=h
   refine ⟨h0,?_⟩
   obtain ⟨h0,h⟩:=h
   refine ⟨h0,?_⟩
   obtain ⟨y29,h⟩:=h
   refine ⟨y29,?_⟩
   obtain ⟨h0,h⟩:=h
   refine ⟨h0,?_⟩
   obtain ⟨z30,h⟩:=h
   refine ⟨z30,?_⟩
   obtain ⟨h0,h⟩:=h
   refine ⟨h0,?_⟩
   exact hJ5 _ h
 ·obtain ⟨z31,h⟩:=h
  refine ⟨z31,?_⟩
  obtain ⟨h0,h⟩:=h
  refine ⟨h0,?_⟩
  obtain ⟨z32,h⟩:=h
  refine ⟨z32,?_⟩
  obtain ⟨z33,h⟩:=h
  refine ⟨z33,?_⟩
  obtain ⟨h0,h⟩:=h
  refine ⟨h0,?_⟩
  intro J6 kJ6
  have hJ6:∀x34,ybB r0 z19 z20 z32 x34->J6 x34:=fun x34 q=>kJ6 x34 (yiw r0 z19 z20 z32 q)
  refine yak h (fun h=> ?_) (fun h=> ?_)
  ·exact hJ6 _ h
  ·intro c
   replace h:=h c
   intro c
   replace h:=h c
   refine yak h (fun h=> ?_) (fun h=> ?_)
   ·exact hJ6 _ h
   ·obtain ⟨z49,h⟩:=h
    refine ⟨z49,?_⟩
    obtain ⟨h0,h⟩:=h
    refine ⟨h0,?_⟩
    exact hJ6 _ h
theorem yiz (X1:Int→(List (List yaa))→(List yaa)→(List yac)→Prop) (a0:List yau) (a1:List Int) (r0:Bool) (x2:Int) {x6:Bool} {x7:List (List yaa)} {x8:List yaa} {x9:List yac} (h:ybD X1 a0 a1 r0 x2 x6 x7 x8 x9):yd3 x2 a0 X1 a1 r0 x6 x7 x8 x9:=by
 unfold yd3
 unfold ybD at h
 refine yak h (fun h=> ?_) (fun h=> ?_)
 ·obtain ⟨h0,h⟩:=h
  refine ⟨h0,?_⟩
  obtain ⟨h0,h⟩:=h
  refine ⟨h0,?_⟩
  obtain ⟨y10,h⟩:=h
  refine ⟨y10,?_⟩
  obtain ⟨h0,h⟩:=h
  refine ⟨h0,?_⟩
  obtain ⟨z11,h⟩:=h
  refine ⟨z11,?_⟩
  obtain ⟨z12,h⟩:=h
  refine ⟨z12,?_⟩
  obtain ⟨h0,h⟩:=h
  refine ⟨h0,?_⟩
  obtain ⟨h0,h⟩:=h
  refine ⟨h0,?_⟩
  obtain ⟨h0,h⟩:=h
  refine ⟨h0,?_⟩
  intro J3 kJ3
  have hJ3:∀x13 x14 x15 x16,ya9 X1 x2 x13 x14 x15 x16->J3 x13 x14 x15 x16:=fun x13 x14 x15 x16 q=>kJ3 x13 x14 x15 x16 (yix X1 x2 q)
  intro c
  replace h:=h c
  refine yak h (fun h=> ?_) (fun h=> ?_)
  ·intro c
   replace h:=h c
   obtain ⟨h0,h⟩:=h
   refine ⟨h0,?_⟩
   obtain ⟨h0,h⟩:=h
   refine ⟨h0,?_⟩
   obtain ⟨h0,h⟩:=h
   refine ⟨h0,?_⟩
   obtain ⟨y18,h⟩:=h
   refine ⟨y18,?_⟩
   obtain ⟨h0,h⟩:=h
   refine ⟨h0,?_⟩
   exact hJ3 _ _ _ _ h
  ·exact hJ3 _ _ _ _ h
 ·obtain ⟨h0,h⟩:=h
  refine ⟨h0,?_⟩
  obtain ⟨z19,h⟩:=h
  refine ⟨z19,?_⟩
  obtain ⟨h0,h⟩:=h
  refine ⟨h0,?_⟩
  obtain ⟨z20,h⟩:=h
  refine ⟨z20,?_⟩
  obtain ⟨h0,h⟩:=h
  refine ⟨h0,?_⟩
  intro c
  replace h:=h c
  intro c
  replace h:=h c
  refine yak h (fun h=> ?_) (fun h=> ?_)
  ·exact h
  ·intro X4 k
   exact h X4 (fun x21 q=>k x21 (yiE r0 z19 z20 q))
theorem yiA (a0:List yau) (a1:List Int) (r0:Bool) {X1:Int→(List (List yaa))→(List yaa)→(List yac)→Prop} {x2:Int} {x3:List (List yaa)} {x4:List yaa} {x5:List yac} (h:ydF a0 a1 r0 X1 x2 x3 x4 x5):yeb a0 a1 r0 X1 x2 x3 x4 x5:=by
 unfold yeb
 unfold ydF at h
 intro J2 kJ2
 have hJ2:∀x6 x7 x8 x9,ybD X1 a0 a1 r0 x2 x6 x7 x8 x9->J2 x6 x7 x8 x9:=fun x6 x7 x8 x9 q=>kJ2 x6 x7 x8 x9 (yiz X1 a0 a1 r0 x2 q)
 intro c
 replace h:=h c
 refine yak h (fun h=> ?_) (fun h=> ?_)
 ·exact hJ2 _ _ _ _ h
 ·exact hJ2 _ _ _ _ h
theorem ykj (a0:List yau) (a1:List Int) (r0:Bool) (h:ygd a0 a1 r0):ybC a0 a1 r0:=by
 unfold ybC
 unfold ygd at h
 obtain ⟨z1,h⟩:=h
 refine ⟨z1,?_⟩
 obtain ⟨h0,h⟩:=h
 refine ⟨h0,?_⟩
 refine yak h (fun h=> ?_) (fun h=> ?_)
 ·exact h
 ·intro X1 k
  exact h X1 (fun x2 x3 x4 x5 q=>k x2 x3 x4 x5 (yiA a0 a1 r0 q))
def ycR:Sp KK:=⟨3,[.v 22, .v 23],[4],appW (K:=KK) [4] [.v 22, .v 23] ybC⟩
def yjW:An KK:=(.s .o (.s (.s .o (.c (.s .o .o) .o)) (.s .o (.s .o (.s .o (.s (.s .o (.b (.l ⟨[(0, .kp 11),(1, .kp 12),(5, .row 66),(6, .row 41),(7, .row 45),(8, .it .i64)],[],[(66,26),(41,34),(45,38)]⟩ (fun _=>(.s (.j ⟨[(0, .kp 11),(1, .kp 12),(5, .row 66),(6, .row 41),(7, .row 45),(8, .kp 20),(27, .bl)],[],[(66,26),(41,34),(45,38)]⟩ .o (fun _=>(.c .o .o))) (.s (.b (.s .o (.s .o (.j ⟨[(0, .kp 11),(1, .kp 12),(5, .row 66),(6, .row 41),(7, .row 45),(8, .kp 20),(60, .bl)],[],[(66,26),(41,34),(45,38)]⟩ .o (fun _=>(.c .o .o)))))) .o)))))) (.s .o (.s .o (.s (.s .o (.c (.s .o .o) .o)) (.s (.s .o (.b (.l ⟨[(11, .kp 28),(12, .kp 29),(13, .it .i64)],[],[]⟩ (fun _=>(.s (.s .o (.c .o .o)) (.s (.b (.j ⟨[(11, .kp 28),(12, .kp 29),(13, .kp 34),(113, .bl)],[],[]⟩ .o (fun _=>(.c (.s .o .o) .o)))) .o)))))) (.s .o (.s .o (.s (.j ⟨[(11, .kp 28),(12, .kp 29),(15, .kp 36),(135, .bl)],[],[]⟩ .o (fun _=>(.c (.s .o .o) .o))) (.s (.s .o (.b (.l ⟨[(11, .kp 28),(12, .kp 29),(15, .kp 36),(17, .it .i64)],[],[]⟩ (fun _=>(.s (.s .o (.c .o .o)) (.s (.b (.j ⟨[(11, .kp 28),(12, .kp 29),(15, .kp 36),(17, .kp 46),(166, .bl)],[],[]⟩ .o (fun _=>(.c (.s .o .o) .o)))) .o)))))) (.s .o .o)))))))))))))))
def yjp:Cf KK:=⟨CC,[yhI,yj0,ykX,yh6,yic,ykV,yhX,ymi,yjs,yeP,ymz,yg5],[],175,[],none,false⟩
theorem yjU:SpOk Try.prog CC ycR:=yay (F:=yjp) (ps:= [.v 22, .v 23]) (rs:= [4]) (w:=ybC) ybh (yas ymM (yas ypt (yas ypP (yas ym0 (yas yky (yas yq7 (yas ymZ (yas ysK (yas yoL (yas ygB (yas yrW (yas yjj yaE)))))))))))) yaD t3 (A:=yjW) (by kernel_rfl) (by kernel_rfl) (fun a0 a1 r0=>show _=_ by kernel_rfl)
end Go.Proofs.Ytecfpoklnfaihaa
end
noncomputable section
namespace Go.Proofs.Ytecfpoklnfaihaa
open Go.AV Go.RowKit
abbrev V:=yad
abbrev V6:=yab
def Rg (n:Int):Prop:= -9223372036854775808<=n/\n<=9223372036854775807
def good (v:V):Prop:=(v.Kind=0/\v.N=0/\v.S= [])∨(v.Kind=1/\(v.N=0∨v.N=1)/\v.S= [])∨(v.Kind=2/\Rg v.N/\v.S= [])∨(v.Kind=3/\v.N=0/\v.S.length<=64)
def v6 (a:V):V6:=⟨a.Kind,a.N,a.S⟩
def D0:V:=⟨0,0,[]⟩
def eqV (a b:V):Bool:=(a.Kind==b.Kind)&&((a.N==b.N)&&((a.S==b.S)&&true))
theorem yzn {a b:V}:eqV a b=true↔a=b:=by
 cases a;cases b;simp[eqV]
theorem yu1 (n:Int):Rg (IntKind.i64.wrap n):=by
 have:=yqH n;unfold Rg;omega
theorem yq5 (n:Int):yaO n ⟨2,n,[]⟩:=by unfold yaO;rfl
def cI (a b:Int):Int:=if a<b then-1 else if b<a then 1 else 0
def cS (a b:Str):Int:=if Op.bytesLess a b then-1 else if !(Op.bytesLess a b||a==b) then 1 else 0
theorem yD6 (a b:Int):ydc a b (cI a b):=by
 refine ⟨_,rfl,_,rfl,?_⟩
 grind[cnd,cI]
theorem yDh (a b:Int):ycC a b (cI a b):=by
 refine ⟨_,rfl,_,rfl,?_⟩
 grind[cnd,cI]
theorem yDt (a b:Str):yct a b (cS a b):=by
 refine ⟨_,rfl,_,rfl,?_⟩
 grind[cnd,cS]
def sOr (a b c:Int):Int:=if a≠0 then a else if b≠0 then b else c
theorem pOr (a b c:Int):ye4 [a,b,c] (sOr a b c):=by
 unfold ye4
 intro _ X hX
 apply hX
 refine ⟨fun _=>⟨by omega,by simp,a,rfl,?_⟩,fun h=>by simp at h⟩
 refine ⟨fun h=>by grind[sOr],fun h=> ?_⟩
 rw[wrap64 (by omega) (by omega)]
 apply hX
 refine ⟨fun _=>⟨by omega,by simp,b,rfl,?_⟩,fun h=>by simp at h⟩
 refine ⟨fun h=>by grind[sOr],fun h=> ?_⟩
 rw[wrap64 (by omega) (by omega)]
 apply hX
 refine ⟨fun _=>⟨by omega,by simp,c,rfl,?_⟩,fun h=>by simp at h⟩
 refine ⟨fun h=>by grind[sOr],fun h=> ?_⟩
 rw[wrap64 (by omega) (by omega)]
 apply hX
 refine ⟨fun h=>by simp at h,fun _=>by grind[sOr]⟩
def sCmp (a b:V):Int:=sOr (cI a.Kind b.Kind) (cI a.N b.N) (cS a.S b.S)
theorem ylE (a b:V):ybK a b (sCmp a b):=
 ⟨_,yD6 a.Kind b.Kind,_,yDh a.N b.N,_,yDt a.S b.S,_,pOr _ _ _,rfl⟩
def yc4 (a b:V6):Bool:=if a.Kind≠b.Kind then decide (a.Kind<b.Kind) else if a.Kind=3 then Op.bytesLess a.S b.S else decide (a.N<b.N)
theorem yw6 {a b:Str} {i:Nat} (h1:i<a.length) (h2:i<b.length):Op.bytesLess (a.drop i) (b.drop i)=(decide (a[i]<b[i])||(a[i]==b[i]&&Op.bytesLess (a.drop (i+1)) (b.drop (i+1)))):=by
 rw[List.drop_eq_getElem_cons h1,List.drop_eq_getElem_cons h2]
 simp only[Op.bytesLess]
theorem yzU {a b:Str} {i:Nat} (h1:a.length≤i) (h2:i≤b.length):Op.bytesLess (a.drop i) (b.drop i)=decide (i<b.length):=by
 rw[List.drop_of_length_le h1]
 by_cases h:i<b.length
 ·rw[List.drop_eq_getElem_cons h];simp[Op.bytesLess,h]
 ·rw[List.drop_of_length_le (by omega)];simp[Op.bytesLess,h]
theorem yAo {a b:Str} {i:Nat} (h2:b.length≤i):Op.bytesLess (a.drop i) (b.drop i)=false:=by
 rw[List.drop_of_length_le h2]
 cases a.drop i<;>rfl
theorem ymj {s:Str} {i:Nat} (h:i<s.length):bAt s (i:Int)=(s[i].toNat:Int):=by
 unfold bAt
 rw[Int.toNat_natCast,List.getElem?_eq_getElem h];rfl
theorem yu3 (a b:V6) (h1:a.S.length≤1000) (h2:b.S.length≤1000):yaS a b (yc4 a b):=by
 apply ynI
 refine ⟨fun c=> ?_,fun c=>⟨fun c3=> ?_,fun c3=> ?_⟩⟩
 ·have c:a.Kind≠b.Kind:=by simpa using c
  simp[yc4,c]
 ·have c:a.Kind=b.Kind:=by simpa using c
  have c3:a.Kind=3:=by simpa using c3
  have hs:yc4 a b=Op.bytesLess a.S b.S:=by simp[yc4,<-c,c3]
  rw[hs]
  refine lp1 (fun (x:Int)=>∃i:Nat,x=(i:Int)/\i<=a.S.length/\i<=b.S.length/\Op.bytesLess a.S b.S=Op.bytesLess (a.S.drop i) (b.S.drop i)) (fun (x:Int)=>a.S.length-x.toNat) ?_ ⟨0,rfl,by omega,by omega,rfl⟩
  rintro X x ⟨i,rfl,hi1,hi2,he⟩ hX
  rw[he]
  simp only[ydD,yb8]
  by_cases l1:i<a.S.length
  ·by_cases l2:i<b.S.length
   ·have t1:((i:Int)<a.S.length):=by omega
    have t2:((i:Int)<b.S.length):=by omega
    simp only[t1,t2,decide_true]
    refine ⟨fun _=>⟨fun _=>⟨(by refine ⟨?_,?_⟩<;>first|trivial|omega),(by refine ⟨?_,?_⟩<;>first|trivial|omega),?_⟩,fun q=>(by cases q)⟩,fun q=>(by cases q)⟩
    rw[ymj l1,ymj l2,yw6 l1 l2]
    refine ⟨fun d=>⟨(by refine ⟨?_,?_⟩<;>first|trivial|omega),(by refine ⟨?_,?_⟩<;>first|trivial|omega),?_⟩,fun d=> ?_⟩
    ·have d0:¬(a.S[i].toNat:Int)=b.S[i].toNat:=by simpa using d
     have d:¬a.S[i].toNat=b.S[i].toNat:=by omega
     have d':¬a.S[i]=b.S[i]:=fun e=>d (by rw[e])
     rw[Bool.eq_iff_iff]
     simp[d',UInt8.lt_iff_toNat_lt]
    ·have d:a.S[i]=b.S[i]:=by
      have d0:(a.S[i].toNat:Int)=b.S[i].toNat:=by simpa using d
      have:a.S[i].toNat=b.S[i].toNat:=by omega
      exact UInt8.toNat_inj.1 this
     rw[wrap64 (by omega) (by omega)]
     refine hX _ ⟨i+1,by omega,by omega,by omega,?_⟩ (by omega)
     rw[he,yw6 l1 l2]
     have hlt:¬b.S[i]<b.S[i]:=Nat.lt_irrefl _
     simp[d,hlt]
   ·have t1:((i:Int)<a.S.length):=by omega
    have t2:¬((i:Int)<b.S.length):=by omega
    simp only[t1,t2,decide_true,decide_false]
    refine ⟨fun _=>⟨fun q=>(by cases q),fun _=> ?_⟩,fun q=>(by cases q)⟩
    rw[yAo (by omega)]
    simp;omega
  ·have t1:¬((i:Int)<a.S.length):=by omega
   simp only[t1,decide_false]
   refine ⟨fun q=>(by cases q),fun _=>⟨fun q=>(by cases q),fun _=> ?_⟩⟩
   rw[yzU (by omega) hi2]
   rw[Bool.eq_iff_iff];simp;omega
 ·have c:a.Kind=b.Kind:=by simpa using c
  have c3:¬a.Kind=3:=by simpa using c3
  simp[yc4,<-c,c3]
theorem cS_0 {a b:Str}:cS a b=0↔a=b:=by
 unfold cS
 have:=yfx b
 rcases ylQ a b with h|rfl|h
 ·rw[if_pos h];refine ⟨fun q=>(by cases q),?_⟩;rintro rfl;rw[h] at this;cases this
 ·simp[this]
 ·have hn:¬Op.bytesLess a b=true:=fun q=>by have:=yjx _ _ _ q h;rw[yfx] at this;cases this
  have he:¬a=b:=fun e=>by subst e;rw[h] at this;cases this
  simp[hn,he]
theorem yyr {a b:Str}:cS a b<0↔Op.bytesLess a b=true:=by
 unfold cS;split
 ·rename_i h;simp[h]
 ·rename_i h;split<;>simp[h]
theorem yBh {a b:Str}:0<cS a b↔Op.bytesLess b a=true:=by
 have hi:=yfx b
 unfold cS
 rcases ylQ a b with h|rfl|h
 ·have hn:¬Op.bytesLess b a=true:=fun q=>by have:=yjx _ _ _ h q;rw[yfx] at this;cases this
  simp[h,hn]
 ·simp[hi]
 ·have hn:¬Op.bytesLess a b=true:=fun q=>by have:=yjx _ _ _ q h;rw[yfx] at this;cases this
  have he:¬a=b:=fun e=>by subst e;rw[h] at hi;cases hi
  simp[hn,he,h]
theorem yme {a b:Int}:(cI a b=0↔a=b)∧(cI a b<0↔a<b)∧(0<cI a b↔b<a):=by
 unfold cI
 split
 ·refine ⟨by omega,by omega,by omega⟩
 ·split<;>refine ⟨by omega,by omega,by omega⟩
theorem ymL {a b:V}:sCmp a b=0↔a=b:=by
 unfold sCmp sOr
 have h1:=(yme (a:=a.Kind) (b:=b.Kind)).1
 have h2:=(yme (a:=a.N) (b:=b.N)).1
 have h3:=cS_0 (a:=a.S) (b:=b.S)
 cases a;cases b
 simp only[yad.mk.injEq]
 simp only at h1 h2 h3
 split
 ·rename_i c;exact ⟨fun q=>absurd q c,fun q=>absurd (h1.2 q.1) c⟩
 ·rename_i c
  have c:=Decidable.not_not.1 c
  split
  ·rename_i d;exact ⟨fun q=>absurd q d,fun q=>absurd (h2.2 q.2.1) d⟩
  ·rename_i d
   have d:=Decidable.not_not.1 d
   rw[h3];exact ⟨fun q=>⟨h1.1 c,h2.1 d,q⟩,fun q=>q.2.2⟩
theorem yx6 {a b:V} (ha:good a) (hb:good b):(sCmp a b<0↔yc4 (v6 a) (v6 b)=true)∧(0<sCmp a b↔yc4 (v6 b) (v6 a)=true):=by
 have h1:=yme (a:=a.Kind) (b:=b.Kind)
 have h2:=yme (a:=a.N) (b:=b.N)
 have h3:=yyr (a:=a.S) (b:=b.S)
 have h4:=yBh (a:=a.S) (b:=b.S)
 have hs:∀ {u v:V},good u→good v→u.Kind=v.Kind→(u.Kind=3→u.N=v.N)∧(¬u.Kind=3→u.S=v.S):=by
  intro u v hu hv e
  unfold good at hu hv
  refine ⟨fun k=> ?_,fun k=> ?_⟩
  ·rcases hu with h|h|h|h<;>rcases hv with h'|h'|h'|h'<;>omega
  ·rcases hu with h|h|h|h<;>rcases hv with h'|h'|h'|h'<;>first|(rw[h.2.2,h'.2.2];done)|omega
 unfold sCmp sOr yc4 v6
 simp only
 by_cases hk:a.Kind=b.Kind
 ·have hk0:=h1.1.2 hk
  obtain ⟨e3,e4⟩:=hs ha hb hk
  rw[hk0]
  simp only[ne_eq,not_true_eq_false,if_false,hk]
  by_cases k3:b.Kind=3
  ·have hn0:=h2.1.2 (e3 (by omega))
   rw[hn0]
   simp only[not_true_eq_false,if_false,k3,if_true]
   exact ⟨h3,h4⟩
  ·have es:=e4 (by omega)
   simp only[k3,if_false]
   have hc:cS a.S b.S=0:=cS_0.2 es
   rw[hc]
   by_cases hn:cI a.N b.N=0
   ·have e1:=h2.2.1
    have e2:=h2.2.2
    simp only[hn,not_true_eq_false,if_false,decide_eq_true_eq] at*
    exact ⟨by omega,by omega⟩
   ·simp only[hn,not_false_eq_true,if_true]
    exact ⟨by rw[h2.2.1];simp,by rw[h2.2.2];simp⟩
 ·have hn:¬cI a.Kind b.Kind=0:=fun q=>hk (h1.1.1 q)
  have hk':¬b.Kind=a.Kind:=fun q=>hk q.symm
  simp only[ne_eq,hn,not_false_eq_true,if_true,hk,hk']
  exact ⟨by rw[h1.2.1];simp,by rw[h1.2.2];simp⟩
theorem yuz {a:V} (h:good a):Rg a.N:=by
 unfold good at h;unfold Rg at*
 rcases h with h|h|h|h<;>omega
theorem yrx {a:V} (h:good a):a.S.length≤64:=by
 unfold good at h
 rcases h with h|h|h|h
 ·rw[h.2.2];simp
 ·rw[h.2.2];simp
 ·rw[h.2.2];simp
 ·exact h.2.2
theorem yD3 {a b:V}:(((v6 a).Kind==(v6 b).Kind)&&(((v6 a).N==(v6 b).N)&&(((v6 a).S==(v6 b).S)&&true)))=eqV a b:=rfl
def yuA (v:V):Bool:=if v.Kind=0 then eqV v D0 else if v.Kind=1 then (v.N==0||v.N==1)&&v.S== [] else if v.Kind=2 then v.S== [] else if v.Kind=3 then v.N==0&&decide ((v.S.length:Int)<=64) else false
theorem yuX (v:V):ybM v (yuA v):=by
 unfold ybM
 have e:((v.Kind==0)&&((v.N==0)&&((v.S==([]:Str))&&true)))=eqV v D0:=rfl
 rw[e]
 unfold yuA
 generalize eqV v D0=z
 refine ⟨fun c=> ?_,fun c=>⟨fun c1=> ?_,fun c1=>⟨fun c2=> ?_,fun c2=>⟨fun c3=> ?_,fun c3=> ?_⟩⟩⟩⟩<;>simp only[beq_iff_eq,beq_eq_false_iff_ne,ne_eq] at* <;>grind[cnd]
end Go.Proofs.Ytecfpoklnfaihaa
end
noncomputable section
namespace Go.Proofs.Ytecfpoklnfaihaa
open Go.AV Go.RowKit
theorem ysI (s:Str):(s.map ofB).map toB=s:=by
 induction s with
 |nil=>rfl
 | cons c s ih=>
   simp only[List.map_cons,ih]
   congr 1
   show UInt8.ofNat ((c.toNat:Int).toNat)=c
   rw[Int.toNat_natCast];exact UInt8.ofNat_toNat
def nmb:Str→Nat
 | []=>0
 |c::s=>c.toNat*256^s.length+nmb s
theorem yl8 (s:Str):nmb s<256^s.length:=by
 induction s with
 |nil=>simp[nmb]
 | cons c s ih=>
   have hc:c.toNat<256:=c.toNat_lt
   have e:(256:Nat)^(c::s).length=256*256^s.length:=by simp[Nat.pow_succ,Nat.mul_comm]
   rw[e]
   have:c.toNat*256^s.length<=255*256^s.length:=Nat.mul_le_mul_right _ (by omega)
   simp only[nmb];omega
theorem ytl (s:Str) (c:UInt8):nmb (s++ [c])=nmb s*256+c.toNat:=by
 induction s with
 |nil=>simp[nmb]
 | cons d s ih=>
   have:d.toNat*256^(s.length+1)=d.toNat*256^s.length*256:=by rw[Nat.pow_succ,Nat.mul_assoc]
   simp only[List.cons_append,nmb,ih,List.length_append,List.length_cons,List.length_nil]
   simp only[Nat.zero_add,this];omega
theorem yAN:∀ {s t:Str},s.length=t.length→nmb s=nmb t→s=t:=by
 intro s
 induction s with
 |nil=>intro t h _;exact (List.eq_nil_of_length_eq_zero h.symm).symm
 | cons c s ih=>
   intro t h e
   cases t with
   |nil=>simp at h
   | cons d t=>
     have hl:s.length=t.length:=by simpa using h
     have h1:=yl8 s
     have h2:=yl8 t
     simp only[nmb] at e
     rw[<-hl] at e h2
     have hB:0<256^s.length:=Nat.pow_pos (by omega)
     have hcd:c.toNat=d.toNat:=by
      have e1:(c.toNat*256^s.length+nmb s)/256^s.length=c.toNat:=by
       rw[Nat.add_comm,Nat.add_mul_div_right _ _ hB,Nat.div_eq_of_lt h1];omega
      have e2:(d.toNat*256^s.length+nmb t)/256^s.length=d.toNat:=by
       rw[Nat.add_comm,Nat.add_mul_div_right _ _ hB,Nat.div_eq_of_lt h2];omega
      rw[<-e1,<-e2,e]
     have hcd':c=d:=UInt8.toNat_inj.1 hcd
     subst hcd'
     rw[ih hl (by omega)]
def be:Nat→Nat→Str
 |0,_=> []
 |i+1,u=>UInt8.ofNat (u/256^i)::be i u
theorem ydQ (k u:Nat):(be k u).length=k:=by
 induction k with
 |zero=>rfl
 |succ k ih=>simp[be,ih]
theorem ynT (k u:Nat):nmb (be k u)=u % 256^k:=by
 induction k with
 |zero=>simp[be,nmb,Nat.mod_one]
 | succ k ih=>
   simp only[be,nmb,ydQ,ih]
   rw[Nat.mod_pow_succ,UInt8.toNat_ofNat',Nat.mul_comm]
   show 256^k*(u/256^k % 2^8)+_=_
   rw[Nat.add_comm]
theorem yBG (s:Str):be s.length (nmb s)=s:=by
 refine yAN (ydQ _ _) ?_
 rw[ynT,Nat.mod_eq_of_lt (yl8 s)]
def tl (a:Nat):Nat→List Int
 |0=> []
 |i+1=>ofB (UInt8.ofNat (a/256^i))::tl a i
theorem yx5 (a k:Nat):tl a k=(be k a).map ofB:=by
 induction k with
 |zero=>rfl
 |succ k ih=>simp[tl,be,ih]
theorem yyK (a k:Nat):(tl a k).length=k:=by rw[yx5];simp[ydQ]
theorem pow8 (i:Nat):(2:Nat)^(8*i)=256^i:=by
 rw[Nat.pow_mul]
theorem yvL (n:Nat):ofB (UInt8.ofNat n)=((n % 256:Nat):Int):=by
 show (((UInt8.ofNat n).toNat:Nat):Int)=_
 rw[UInt8.toNat_ofNat']
theorem yCR {a k:Nat} (hk:k≤8):yeE (a:Int) (k:Int) (tl a k):=by
 unfold yeE
 refine ⟨by omega,by omega,by omega,?_⟩
 refine lp2 (fun (x:Int) (y:List Int)=>∃i:Nat,x=i/\i<=k/\y=List.replicate (k-i) (0:Int)++tl a i) (fun (x:Int) (_:List Int)=>k-x.toNat) ?_ ⟨0,rfl,by omega,by simp[tl]⟩
 rintro X x y ⟨i,rfl,hi,rfl⟩ hX
 simp only[yk0]
 have ek:(k:Int).toNat=k:=Int.toNat_natCast k
 refine ⟨fun c=> ?_,fun c=> ?_⟩
 ·have c:(i:Int)<((List.replicate (k:Int).toNat (0:Int)).length:Int):=by simpa using c
  rw[ek,List.length_replicate] at c
  have w1:IntKind.i64.wrap (8*(i:Int))=8*(i:Int):=wrap64 (by omega) (by omega)
  have w2:IntKind.i64.wrap ((k:Int)-1)=(k:Int)-1:=wrap64 (by omega) (by omega)
  have w3:IntKind.i64.wrap ((k:Int)-1-(i:Int))=((k-1-i:Nat):Int):=by rw[wrap64 (by omega) (by omega)];omega
  have w4:IntKind.i64.wrap ((i:Int)+1)=((i+1:Nat):Int):=by rw[wrap64 (by omega) (by omega)];omega
  rw[w1,w2,w3,w4,Int.toNat_natCast]
  have hm:k-i=(k-1-i)+1:=by omega
  have er:List.replicate (k-i) (0:Int)++tl a i=List.replicate (k-1-i) 0++(0::tl a i):=by
   rw[hm,List.replicate_succ',List.append_assoc];rfl
  have hmin:min (8*(i:Int)).toNat IntKind.u64.bits=8*i:=by
   show min _ 64=_
   omega
  have hsh:IntKind.u8.wrap ((a:Int).fdiv (2^(min (8*(i:Int)).toNat IntKind.u64.bits)))=ofB (UInt8.ofNat (a/256^i)):=by
   rw[hmin,yvL,yqj]
   have:(2:Int)^(8*i)=((256^i:Nat):Int):=by rw[<-pow8];norm_cast
   rw[this,Int.fdiv_eq_ediv_of_nonneg _ (Int.natCast_nonneg _),<-Int.natCast_ediv]
   generalize a/256^i=q
   omega
  rw[hsh,er]
  refine ⟨by omega,by omega,by simp;omega,0,?_,?_⟩
  ·rw[List.getElem?_append_right (by simp)];simp
  ·refine hX _ _ ⟨i+1,rfl,by omega,?_⟩ (by omega)
   have e2:k-(i+1)=k-1-i:=by omega
   rw[List.set_append_right _ _ (by simp),e2];simp[tl]
 ·have c:¬(i:Int)<((List.replicate (k:Int).toNat (0:Int)).length:Int):=by simpa using c
  rw[ek,List.length_replicate] at c
  have:k-i=0:=by omega
  have e:i=k:=by omega
  rw[this,e];rfl
end Go.Proofs.Ytecfpoklnfaihaa
end
noncomputable section
namespace Go.Proofs.Ytecfpoklnfaihaa
open Go.AV Go.RowKit
theorem yuO {u:Nat} (h:u<2^64):u^^^2^63=(u+2^63) % 2^64:=by
 have h1:(u^^^2^63) % 2^63=u % 2^63:=by
  rw[Nat.xor_mod_two_pow];simp
 have h2:(u^^^2^63)/2^63=(u/2^63)^^^1:=by
  rw[Nat.xor_div_two_pow]
 have h3:u/2^63=0∨u/2^63=1:=by omega
 have h4:=Nat.div_add_mod (u^^^2^63) (2^63)
 rw[h1,h2] at h4
 rcases h3 with h3|h3
 ·rw[h3] at h4
  have:(0^^^1:Nat)=1:=rfl
  rw[this] at h4;omega
 ·rw[h3] at h4
  have:(1^^^1:Nat)=0:=rfl
  rw[this] at h4;omega
theorem yCr (n:Int):bits .xor .u64 n 9223372036854775808=((((n % 18446744073709551616).toNat+9223372036854775808) % 18446744073709551616:Nat):Int):=by
 have key:(BitVec.ofInt 64 n^^^BitVec.ofInt 64 9223372036854775808).toNat=((n % 18446744073709551616).toNat+9223372036854775808) % 18446744073709551616:=by
  rw[BitVec.toNat_xor,BitVec.toNat_ofInt,BitVec.toNat_ofInt]
  have e:(9223372036854775808 % ((2^64:Nat):Int)).toNat=2^63:=by decide
  rw[e]
  have:(n % ((2^64:Nat):Int)).toNat<2^64:=by omega
  rw[yuO this];rfl
 show IntKind.u64.wrap ((BitVec.ofInt 64 n^^^BitVec.ofInt 64 9223372036854775808).toNat:Nat)=_
 rw[key];exact yh3 (by omega) (by omega)
theorem or8 {x c:Nat} (hx:x<72057594037927936) (hc:c<256):bits .or .u64 (IntKind.u64.wrap ((x:Int)*2^(min (8:Int).toNat IntKind.u64.bits))) (IntKind.u64.wrap (c:Int))=((x*256+c:Nat):Int):=by
 have e1:IntKind.u64.wrap ((x:Int)*2^(min (8:Int).toNat IntKind.u64.bits))=((2^8*x:Nat):Int):=by
  have:(2:Int)^(min (8:Int).toNat IntKind.u64.bits)=256:=by decide
  rw[this,yh3 (by omega) (by omega)];omega
 have e2:IntKind.u64.wrap (c:Int)=(c:Int):=yh3 (by omega) (by omega)
 rw[e1,e2]
 have key:(BitVec.ofInt 64 ((2^8*x:Nat):Int)|||BitVec.ofInt 64 (c:Int)).toNat=x*256+c:=by
  rw[BitVec.toNat_or,BitVec.toNat_ofInt,BitVec.toNat_ofInt]
  have a1:(((2^8*x:Nat):Int) % ((2^64:Nat):Int)).toNat=2^8*x:=by omega
  have a2:((c:Int) % ((2^64:Nat):Int)).toNat=c:=by omega
  rw[a1,a2,<-Nat.two_pow_add_eq_or_of_lt (by omega:c<2^8)];omega
 show IntKind.u64.wrap ((BitVec.ofInt 64 ((2^8*x:Nat):Int)|||BitVec.ofInt 64 (c:Int)).toNat:Nat)=_
 rw[key];exact yh3 (by omega) (by omega)
def sInt (n:Int):Str:=be 8 (n+9223372036854775808).toNat
theorem ygl (n:Int):(sInt n).length=8:=ydQ _ _
theorem pInt {n:Int} (h:Rg n):ydP n (sInt n):=by
 unfold Rg at h
 refine ⟨(sInt n).map ofB,?_,ysI _⟩
 ·rw[yCr]
  have e:((((IntKind.u64.wrap n) % 18446744073709551616).toNat+9223372036854775808) % 18446744073709551616:Nat)=(n+9223372036854775808).toNat:=by
   rw[ydT];omega
  rw[e]
  have:=yCR (a:=(n+9223372036854775808).toNat) (k:=8) (by omega)
  rw[yx5] at this;exact this
theorem yw3 {s:Str} (h:s.length≤8):yda s (nmb s):=by
 unfold yda
 refine lp2 (fun (x y:Int)=>∃i:Nat,y=i/\i<=s.length/\x=(nmb (s.take i):Int)) (fun (_ y:Int)=>s.length-y.toNat) ?_ ⟨0,rfl,by omega,by simp[nmb]⟩
 rintro X x y ⟨i,rfl,hi,rfl⟩ hX
 simp only[yiO]
 refine ⟨fun c=> ?_,fun c=> ?_⟩
 ·have c:(i:Int)<s.length:=by simpa using c
  have hlt:i<s.length:=by omega
  refine ⟨⟨by omega,c⟩,?_⟩
  have w4:IntKind.i64.wrap ((i:Int)+1)=((i+1:Nat):Int):=by rw[wrap64 (by omega) (by omega)];omega
  have hn:=yl8 (s.take i)
  have hle:(s.take i).length<=7:=by rw[List.length_take];omega
  have hp:256^(s.take i).length<=256^7:=Nat.pow_le_pow_right (by omega) hle
  rw[ymj hlt,or8 (by omega) (s[i].toNat_lt),w4]
  refine hX _ _ ⟨i+1,rfl,by omega,?_⟩ (by omega)
  rw[List.take_succ_eq_append_getElem hlt,ytl]
 ·have c:¬(i:Int)<s.length:=by simpa using c
  rw[List.take_of_length_le (by omega)]
theorem yxk {s:Str} (h:s.length=8):IntKind.i64.wrap (bits .xor .u64 (nmb s:Int) 9223372036854775808)=(nmb s:Int)-9223372036854775808:=by
 have hn:=yl8 s
 rw[h] at hn
 rw[yCr,ydx]
 split<;>omega
theorem yw0 (s:Str):ybH s (if s.length=8 then (nmb s:Int)-9223372036854775808 else 0) (decide (s.length=8)):=by
 refine ⟨fun c=> ?_,fun c=> ?_⟩
 ·have c:¬s.length=8:=by
   have:¬(s.length:Int)=8:=by simpa using c
   omega
  rw[if_neg c,decide_eq_false c];exact ⟨rfl,rfl⟩
 ·have c:s.length=8:=by
   have:(s.length:Int)=8:=by simpa using c
   omega
  rw[if_pos c,decide_eq_true c]
  exact ⟨_,yw3 (by omega),yxk c,rfl⟩
def ypG (s:Str):Str×Str×Bool:=if s.length<4 then ([],s,false) else if s.length-4<nmb (s.take 4) then ([],s,false) else ((s.drop 4).take (nmb (s.take 4)),s.drop (4+nmb (s.take 4)),true)
theorem yC4 {s:Str} (h:s.length≤1000000000):ygf s (ypG s).1 (ypG s).2.1 (ypG s).2.2:=by
 unfold ypG
 refine ⟨fun c=> ?_,fun c=> ?_⟩
 ·have c:(s.length:Int)<4:=of_decide_eq_true c
  rw[if_pos (by omega)];exact ⟨rfl,rfl,rfl⟩
 ·have c:¬(s.length:Int)<4:=of_decide_eq_false c
  rw[if_neg (by omega)]
  have e0:(s.drop (0:Int).toNat).take ((4:Int).toNat-(0:Int).toNat)=s.take 4:=by simp
  have hl:(s.take 4).length=4:=by rw[List.length_take];omega
  have hn:=yl8 (s.take 4)
  rw[hl] at hn
  rw[e0]
  refine ⟨⟨by omega,by omega,by omega⟩,_,yw3 (by omega),?_⟩
  generalize nmb (s.take 4)=n at*
  have w1:IntKind.u64.wrap (IntKind.i64.wrap ((s.length:Int)-4))=(s.length:Int)-4:=by rw[wrap64 (by omega) (by omega),yh3 (by omega) (by omega)]
  have w2:IntKind.i64.wrap (4+IntKind.i64.wrap (n:Int))=((4+n:Nat):Int):=by rw[wrap64 (n:=(n:Int)) (by omega) (by omega),wrap64 (by omega) (by omega)];omega
  rw[w1,w2]
  refine ⟨fun d=> ?_,fun d=> ?_⟩
  ·have d:(s.length:Int)-4<n:=of_decide_eq_true d
   rw[if_pos (by omega)];exact ⟨rfl,rfl,rfl⟩
  ·have d:¬(s.length:Int)-4<n:=of_decide_eq_false d
   rw[if_neg (by omega)]
   refine ⟨⟨by omega,by omega,by omega⟩,⟨by omega,by omega,by omega⟩,?_,?_,rfl⟩
   ·rw[Int.toNat_natCast]
    have:4+n-(4:Int).toNat=n:=by omega
    rw[this];rfl
   ·rw[Int.toNat_natCast,Int.toNat_natCast,List.take_of_length_le (by rw[List.length_drop];omega)]
def spl:Nat→Str→Option (List Str)
 |0,s=>if s= [] then some [] else none
 |n+1,s=>if s= [] then some [] else if s.length<4 then none else if s.length-4<nmb (s.take 4) then none else
    (spl n (s.drop (4+nmb (s.take 4)))).map ((s.drop 4).take (nmb (s.take 4)):: ·)
def ygL (s:Str):Option (List Str):=spl s.length s
theorem ywf {s:Str} (h:s.length≤100000000):ycf s ((ygL s).getD []) (if (ygL s).isSome then 0 else 2):=by
 unfold ycf
 intro X hX
 have key:∀n,∀(x:Str) (y:List Str),x.length≤n→x.length≤100000000→y.length+x.length≤100000000→
   ((spl n x).map (y++ ·)=ygL s)->X x y:=by
  intro n
  induction n with
  | zero=>
    intro x y hx _ _ he
    have:x= []:=List.eq_nil_of_length_eq_zero (by omega)
    subst this
    apply hX
    refine ⟨fun c=>(by simp at c),fun _=> ?_⟩
    rw[<-he];simp[spl]
  | succ n ih=>
    intro x y hx hb hyx he
    apply hX
    simp only[spl] at he
    refine ⟨fun c=> ?_,fun c=> ?_⟩
    ·have c:¬x= []:=by simpa using c
     rw[if_neg c] at he
     refine ⟨_,_,_,yC4 (by omega),?_⟩
     unfold ypG
     by_cases h4:x.length<4
     ·rw[if_pos h4] at he⊢
      refine ⟨fun _=> ?_,fun q=>(by cases q)⟩
      rw[<-he];exact ⟨rfl,rfl⟩
     ·rw[if_neg h4] at he⊢
      by_cases hn:x.length-4<nmb (x.take 4)
      ·rw[if_pos hn] at he⊢
       refine ⟨fun _=> ?_,fun q=>(by cases q)⟩
       rw[<-he];exact ⟨rfl,rfl⟩
      ·rw[if_neg hn] at he⊢
       refine ⟨fun q=>(by cases q),fun _=>⟨by omega,?_⟩⟩
       have hd:(x.drop (4+nmb (x.take 4))).length=x.length-(4+nmb (x.take 4)):=List.length_drop
       refine ih _ _ (by show (x.drop _).length<=n;rw[hd];omega) (by show (x.drop _).length<=_;rw[hd];omega) (by show _+(x.drop _).length<=_;rw[hd];simp;omega) ?_
       rw[<-he]
       show ((spl n (x.drop _)).map _)=_
       cases spl n (x.drop (4+nmb (x.take 4))) with
       |none=>rfl
       |some l=>simp
    ·have c:x= []:=by simpa using c
     rw[if_pos c] at he
     rw[<-he];simp
 refine key s.length s [] (Nat.le_refl _) (by omega) (by simp;omega) ?_
 show (ygL s).map _=_
 cases ygL s<;>simp
end Go.Proofs.Ytecfpoklnfaihaa
end
noncomputable section
namespace Go.Proofs.Ytecfpoklnfaihaa
open Go.AV Go.RowKit
def ybR (l:List Str):Str:=l.flatMap fun s=>be 4 s.length++s
theorem yj4 (a b:List Str):ybR (a++b)=ybR a++ybR b:=by simp[ybR]
theorem yfs {l:List Str} {m:Nat} (h:∀s∈l,s.length≤m):(ybR l).length≤l.length*(m+4):=by
 induction l with
 |nil=>simp[ybR]
 | cons s l ih=>
   have e:ybR (s::l)=(be 4 s.length++s)++ybR l:=rfl
   have h1:=h s (List.mem_cons_self ..)
   have h2:=ih fun t ht=>h t (List.mem_cons_of_mem _ ht)
   rw[e,List.length_append,List.length_append,ydQ,List.length_cons,Nat.succ_mul];omega
theorem ykB (l:List Str) (i:Nat):(ybR (l.take i)).length≤(ybR l).length:=by
 have:ybR l=ybR (l.take i)++ybR (l.drop i):=by rw[<-yj4,List.take_append_drop]
 rw[this,List.length_append];omega
theorem ytW {l:List Str} {i:Nat} (h:i<l.length):l[i].length+4≤(ybR l).length:=by
 have h1:=ykB l (i+1)
 rw[List.take_succ_eq_append_getElem h,yj4,List.length_append] at h1
 have e:ybR [l[i]]=be 4 l[i].length++l[i]:=by simp[ybR]
 rw[e,List.length_append,ydQ] at h1
 omega
theorem yq6 (l:List Str):4*l.length≤(ybR l).length:=by
 induction l with
 |nil=>simp
 | cons s l ih=>
   have e:ybR (s::l)=(be 4 s.length++s)++ybR l:=rfl
   rw[e,List.length_append,List.length_append,ydQ,List.length_cons];omega
theorem yy7 {l:List Str} (hb:(ybR l).length≤100000000):ycp l (ybR l):=by
 unfold ycp
 intro _
 have hn:=yq6 l
 refine lp2 (fun (x:Int) (y:List Int)=>∃i:Nat,x=i/\i<=l.length/\y=(ybR (l.take i)).map ofB) (fun (x:Int) (_:List Int)=>l.length-x.toNat) ?_ ⟨0,rfl,by omega,by simp[ybR]⟩
 rintro X x y ⟨i,rfl,hi,rfl⟩ hX
 have hb2:=ykB l i
 simp only[ylc]
 refine ⟨fun c=> ?_,fun c=> ?_⟩
 ·have c:(i:Int)<l.length:=by simpa using c
  have hlt:i<l.length:=by omega
  have hs:=ytW hlt
  have w4:IntKind.i64.wrap ((i:Int)+1)=((i+1:Nat):Int):=by rw[wrap64 (by omega) (by omega)];omega
  have w5:IntKind.u64.wrap ((l[i].length:Nat):Int)=((l[i].length:Nat):Int):=yh3 (by omega) (by omega)
  refine ⟨by omega,c,l[i],by rw[Int.toNat_natCast];exact List.getElem?_eq_getElem hlt,tl l[i].length 4,?_,?_,?_,?_,?_,?_⟩
  ·rw[w5];exact yCR (k:=4) (by decide)
  ·rw[List.length_map];omega
  ·rw[yyK];omega
  ·rw[List.length_append,List.length_map,yyK];omega
  ·omega
  ·rw[w4]
   refine hX _ _ ⟨i+1,rfl,by omega,?_⟩ (by omega)
   rw[List.take_succ_eq_append_getElem hlt,yj4,List.map_append,yx5,List.append_assoc]
   simp[ybR]
 ·have c:¬(i:Int)<l.length:=by simpa using c
  rw[List.take_of_length_le (by omega),ysI]
theorem yCO {l:List Str} (hl:l.length≤1000) (h:∀s∈l,s.length≤10000):ycp l (ybR l):=by
 have:=yfs h
 have h2:l.length*(10000+4)<=1000*(10000+4):=Nat.mul_le_mul_right _ hl
 exact yy7 (by omega)
theorem yxF:∀ {n:Nat} {s:Str} {m:Nat},s.length≤n→n≤m→spl m s=spl n s:=by
 intro n
 induction n with
 | zero=>
   intro s m hs _
   have:s= []:=List.eq_nil_of_length_eq_zero (by omega)
   subst this
   cases m<;>simp[spl]
 | succ n ih=>
   intro s m hs hm
   cases m with
   |zero=>omega
   | succ m=>
     simp only[spl]
     split
     ·rfl
     ·split
      ·rfl
      ·split
       ·rfl
       ·rename_i h1 h2 h3
        rw[ih (s:=s.drop (4+nmb (s.take 4))) (m:=m) (by rw[List.length_drop];omega) (by omega)]
theorem yrA {t u:Str} (h:t.length<4294967296):ygL ((be 4 t.length++t)++u)=(ygL u).map (t:: ·):=by
 have hb:(be 4 t.length).length=4:=ydQ _ _
 have e1:((be 4 t.length++t)++u).take 4=be 4 t.length:=by rw[List.append_assoc,List.take_append_of_le_length (by omega),List.take_of_length_le (by omega)]
 have e2:nmb (be 4 t.length)=t.length:=by rw[ynT];exact Nat.mod_eq_of_lt h
 have e3:((be 4 t.length++t)++u).drop 4=t++u:=by rw[List.append_assoc,List.drop_append_of_le_length (by omega),List.drop_of_length_le (by omega)];rfl
 have e4:((be 4 t.length++t)++u).drop (4+t.length)=u:=by rw[<-List.drop_drop,e3];simp
 have hl:((be 4 t.length++t)++u).length=(t.length+u.length+3)+1:=by rw[List.length_append,List.length_append,hb];omega
 have hne:¬(be 4 t.length++t)++u= []:=fun q=>by rw[q] at hl;simp at hl
 have es:ygL ((be 4 t.length++t)++u)=spl ((t.length+u.length+3)+1) ((be 4 t.length++t)++u):=by rw[<-hl];rfl
 rw[es,spl.eq_2,if_neg hne,if_neg (by rw[hl];omega),e1,e2,if_neg (by rw[hl];omega),e4,e3,yxF (n:=u.length) (Nat.le_refl _) (by omega)]
 simp[ygL]
theorem yjk {l:List Str} (h:∀s∈l,s.length<4294967296):ygL (ybR l)=some l:=by
 induction l with
 |nil=>rfl
 | cons s l ih=>
   have e:ybR (s::l)=(be 4 s.length++s)++ybR l:=rfl
   rw[e,yrA (h s (List.mem_cons_self ..)),ih fun t ht=>h t (List.mem_cons_of_mem _ ht)];rfl
theorem yte:∀ {n:Nat} {s:Str} {l:List Str},spl n s=some l→ybR l=s∧∀t∈l,t.length≤s.length:=by
 intro n
 induction n with
 | zero=>
   intro s l h
   simp only[spl] at h
   split at h
   ·rename_i e;cases h;subst e;exact ⟨rfl,fun t ht=>by cases ht⟩
   ·cases h
 | succ n ih=>
   intro s l h
   simp only[spl] at h
   split at h
   ·rename_i e;cases h;subst e;exact ⟨rfl,fun t ht=>by cases ht⟩
   ·split at h
    ·cases h
    ·split at h
     ·cases h
     ·rename_i h1 h2 h3
      rw[Option.map_eq_some_iff] at h
      obtain ⟨l',hl',rfl⟩:=h
      obtain ⟨i1,i2⟩:=ih hl'
      have hk:(s.take 4).length=4:=by rw[List.length_take];omega
      have ht:((s.drop 4).take (nmb (s.take 4))).length=nmb (s.take 4):=by rw[List.length_take,List.length_drop];omega
      refine ⟨?_,?_⟩
      ·show (be 4 ((s.drop 4).take (nmb (s.take 4))).length++(s.drop 4).take (nmb (s.take 4)))++ybR l'=s
       rw[ht,i1]
       have:=yBG (s.take 4)
       rw[hk] at this
       rw[this,<-List.drop_drop,List.append_assoc,List.take_append_drop,List.take_append_drop]
      ·intro t ht'
       rcases List.mem_cons.1 ht' with rfl|hm
       ·rw[ht];omega
       ·have:=i2 t hm
        rw[List.length_drop] at this;omega
theorem yuJ {s:Str} {l:List Str} (h:ygL s=some l):l.length≤s.length:=by
 have h1:=(yte h).1
 rw[<-h1]
 clear h h1
 induction l with
 |nil=>simp
 | cons t l ih=>
   have e:ybR (t::l)=(be 4 t.length++t)++ybR l:=rfl
   rw[e,List.length_append,List.length_append,ydQ,List.length_cons];omega
end Go.Proofs.Ytecfpoklnfaihaa
end
noncomputable section
namespace Go.Proofs.Ytecfpoklnfaihaa
open Go.AV Go.RowKit
def b1 (n:Int):Str:= [UInt8.ofNat n.toNat]
theorem yrE {n:Int} (h:0≤n) (k:n<256):([IntKind.u8.wrap n]:List Int).map toB=b1 n:=by
 rw[yyz h k];rfl
def ygu (v:V):Str:=if v.Kind=1 then b1 1++b1 v.N else if v.Kind=2 then b1 2++sInt v.N else if v.Kind=3 then b1 3++v.S else b1 v.Kind
theorem ypH {v:V} (h:good v):0≤v.Kind∧v.Kind≤3:=by
 unfold good at h;rcases h with h|h|h|h<;>omega
theorem pTxt {v:V} (h:good v):ygF v (ygu v):=by
 have hk:=ypH h
 have hN:=yuz h
 have hS:=yrx h
 rw[ygF]
 refine ⟨fun c=> ?_,fun c=>⟨fun c2=> ?_,fun c2=>⟨fun c3=> ?_,fun c3=> ?_⟩⟩⟩
 ·have c:v.Kind=1:=by simpa using c
  have hn:v.N=0∨v.N=1:=by unfold good at h;rcases h with h|h|h|h<;>omega
  refine ⟨by simp,?_⟩
  rw[yrE (by omega) (by omega),yrE (by omega) (by omega),ygu,if_pos c,c]
 ·have c:¬v.Kind=1:=by simpa using c
  have c2:v.Kind=2:=by simpa using c2
  refine ⟨_,pInt hN,by rw[ygl];simp,?_⟩
  rw[yrE (by omega) (by omega),ygu,if_neg c,if_pos c2,c2]
 ·have c:¬v.Kind=1:=by simpa using c
  have c2:¬v.Kind=2:=by simpa using c2
  have c3:v.Kind=3:=by simpa using c3
  refine ⟨by simp;omega,?_⟩
  rw[yrE (by omega) (by omega),ygu,if_neg c,if_neg c2,if_pos c3,c3]
 ·have c:¬v.Kind=1:=by simpa using c
  have c2:¬v.Kind=2:=by simpa using c2
  have c3:¬v.Kind=3:=by simpa using c3
  rw[yrE (by omega) (by omega),ygu,if_neg c,if_neg c2,if_neg c3]
theorem yml {v:V} (h:good v):(ygu v).length≤65:=by
 have hS:=yrx h
 unfold ygu
 split
 ·simp[b1]
 ·split
  ·rw[List.length_append,ygl];simp[b1]
  ·split
   ·rw[List.length_append];simp[b1];omega
   ·simp[b1]
def sRd1 (c:UInt8) (r:Str):V×Bool:=if c.toNat=0 then (⟨0,0,[]⟩,r== []) else if c.toNat=1 then (if r.length=1 then (⟨1,bAt r 0,[]⟩,yuA ⟨1,bAt r 0,[]⟩) else (⟨1,0,[]⟩,false)) else
   if c.toNat=2 then (if r.length=8 then (⟨2,(nmb r:Int)-9223372036854775808,[]⟩,true) else (⟨2,0,[]⟩,false)) else (⟨c.toNat,0,r⟩,yuA ⟨c.toNat,0,r⟩)
def yiY:Str→V×Bool
 | []=>(D0,false)
 |c::r=>sRd1 c r
theorem yrG (c:UInt8) (r:Str):yiY (c::r)=sRd1 c r:=rfl
theorem yDT {s:Str} (h:s.length≤1000000000):yfq s (yiY s).1 (yiY s).2:=by
 apply yt6
 cases s with
 |nil=>exact ⟨fun _=>⟨rfl,rfl⟩,fun q=>(by simp at q)⟩
 | cons c r=>
   refine ⟨fun q=>(by simp at q),fun _=>⟨⟨by omega,by rw[List.length_cons];omega,by omega⟩,⟨by omega,by rw[List.length_cons];omega⟩,?_⟩⟩
   have e0:bAt (c::r) 0=(c.toNat:Int):=rfl
   have hc:c.toNat<256:=c.toNat_lt
   have w:IntKind.i64.wrap (c.toNat:Int)=(c.toNat:Int):=wrap64 (by omega) (by omega)
   have er:(((c::r).drop (1:Int).toNat).take (((c::r).length:Int).toNat-(1:Int).toNat))=r:=by
    rw[Int.toNat_natCast]
    show r.take ((c::r).length-1)=r
    exact List.take_of_length_le (by simp)
   rw[er]
   simp only[ycU,e0,w]
   rw[yrG]
   unfold sRd1
   refine ⟨fun k=> ?_,fun k=>⟨fun k1=>⟨fun l=> ?_,fun l=>⟨?_,?_⟩⟩,fun k1=>⟨fun k2=>⟨_,_,yw0 r,fun l=> ?_,fun l=> ?_⟩,fun k2=> ?_⟩⟩⟩
   ·have k:c.toNat=0:=by simpa using k
    rw[if_pos k,k];exact ⟨rfl,rfl⟩
   ·have k:¬c.toNat=0:=by simpa using k
    have k1 : c.toNat = 1 := by have:(c.toNat:Int)=1:=by simpa using k1
                                omega
    have l : ¬ r.length = 1 := by have:¬(r.length:Int)=1:=by simpa using l
                                  omega
    rw[if_neg k,if_pos k1,if_neg l,k1];exact ⟨rfl,rfl⟩
   ·have l : r.length = 1 := by have:(r.length:Int)=1:=by simpa using l
                                omega
    omega
   ·have k:¬c.toNat=0:=by simpa using k
    have k1 : c.toNat = 1 := by have:(c.toNat:Int)=1:=by simpa using k1
                                omega
    have l : r.length = 1 := by have:(r.length:Int)=1:=by simpa using l
                                omega
    have hb:IntKind.i64.wrap (bAt r 0)=bAt r 0:=by
     have:=ymj (s:=r) (i:=0) (by omega)
     have h2:r[0].toNat<256:=r[0].toNat_lt
     show IntKind.i64.wrap (bAt r ((0:Nat):Int))=bAt r ((0:Nat):Int)
     rw[this];exact wrap64 (by omega) (by omega)
    rw[if_neg k,if_pos k1,if_pos l,k1,hb]
    exact ⟨_,yuX _,rfl,rfl⟩
   ·have k:¬c.toNat=0:=by simpa using k
    have k1 : ¬ c.toNat = 1 := by have:¬(c.toNat:Int)=1:=by simpa using k1
                                  omega
    have k2 : c.toNat = 2 := by have:(c.toNat:Int)=2:=by simpa using k2
                                omega
    have l:¬r.length=8:=by simpa using l
    rw[if_neg k,if_neg k1,if_pos k2,if_neg l,k2];exact ⟨rfl,rfl⟩
   ·have k:¬c.toNat=0:=by simpa using k
    have k1 : ¬ c.toNat = 1 := by have:¬(c.toNat:Int)=1:=by simpa using k1
                                  omega
    have k2 : c.toNat = 2 := by have:(c.toNat:Int)=2:=by simpa using k2
                                omega
    have l:r.length=8:=by simpa using l
    rw[if_neg k,if_neg k1,if_pos k2,if_pos l,if_pos l,k2]
    refine ⟨_,yuX _,rfl,?_⟩
    simp[yuA]
   ·have k:¬c.toNat=0:=by simpa using k
    have k1 : ¬ c.toNat = 1 := by have:¬(c.toNat:Int)=1:=by simpa using k1
                                  omega
    have k2 : ¬ c.toNat = 2 := by have:¬(c.toNat:Int)=2:=by simpa using k2
                                  omega
    rw[if_neg k,if_neg k1,if_neg k2]
    exact ⟨_,yuX _,rfl,rfl⟩
theorem yqC {v:V} (h:good v):yiY (ygu v)=(v,true):=by
 have hN:=yuz h
 unfold good at h
 obtain ⟨k,n,s⟩:=v
 simp only at h hN
 rcases h with ⟨rfl,rfl,rfl⟩|⟨rfl,h,rfl⟩|⟨rfl,h,rfl⟩|⟨rfl,rfl,h⟩
 ·rfl
 ·rcases h with rfl|rfl<;>rfl
 ·show yiY (UInt8.ofNat 2::sInt n)=_
  rw[yrG]
  unfold sRd1
  have k:(UInt8.ofNat 2).toNat=2:=rfl
  rw[k,if_neg (by omega),if_neg (by omega),if_pos rfl,if_pos (ygl n)]
  unfold sInt
  unfold Rg at h
  rw[ynT,Nat.mod_eq_of_lt (by omega)]
  congr 2;omega
 ·show yiY (UInt8.ofNat 3::s)=_
  rw[yrG]
  unfold sRd1
  have k:(UInt8.ofNat 3).toNat=3:=rfl
  rw[k,if_neg (by omega),if_neg (by omega),if_neg (by omega)]
  simp[yuA];omega
end Go.Proofs.Ytecfpoklnfaihaa
end
noncomputable section
namespace Go.Proofs.Ytecfpoklnfaihaa
open Go.AV Go.RowKit
def sKey (l:List V):Str:=ybR (l.map ygu)
theorem w1 {i:Nat} (h:i<1000000000):IntKind.i64.wrap ((i:Int)+1)=((i+1:Nat):Int):=by rw[wrap64 (by omega) (by omega)];omega
theorem gAt {α:Type} {l:List α} {i:Nat} (h:i<l.length):l[((i:Nat):Int).toNat]? =some l[i]:=by rw[Int.toNat_natCast];exact List.getElem?_eq_getElem h
theorem yjn {l:List V} (h:∀v∈l,good v):∀s∈l.map ygu,s.length≤65:=by
 intro s hs
 obtain ⟨v,hv,rfl⟩:=List.mem_map.1 hs
 exact yml (h v hv)
theorem yDX {l:List V} (hl:l.length≤1000000) (h:∀v∈l,good v):ycw l (sKey l):=by
 unfold ycw
 intro _
 refine lp2 (fun (x:Int) (y:List Str)=>∃i:Nat,x=i/\i<=l.length/\y=(l.take i).map ygu) (fun (x:Int) (_:List Str)=>l.length-x.toNat) ?_ ⟨0,rfl,by omega,by simp⟩
 rintro X x y ⟨i,rfl,hi,rfl⟩ hX
 simp only[ynX]
 refine ⟨fun c=> ?_,fun c=> ?_⟩
 ·have c:(i:Int)<l.length:=by simpa using c
  have hlt:i<l.length:=by omega
  refine ⟨by omega,c,_,gAt hlt,_,pTxt (h _ (List.getElem_mem hlt)),by simp;omega,?_⟩
  rw[w1 (by omega)]
  refine hX _ _ ⟨i+1,rfl,by omega,?_⟩ (by omega)
  rw[List.take_succ_eq_append_getElem hlt,List.map_append];rfl
 ·have c:¬(i:Int)<l.length:=by simpa using c
  rw[List.take_of_length_le (by omega)]
  exact ⟨_,yy7 (by have:=yfs (yjn h);rw[List.length_map] at this;have h2:l.length*(65+4)<=1000000*(65+4):=Nat.mul_le_mul_right _ hl;omega),rfl⟩
theorem pKey {l:List V} (hl:l.length<=1000) (h:∀v∈l,good v):ycw l (sKey l):=yDX (by omega) h
def sGet (s:Str):List V×Int:=match ygL s with
 |none=>([],2)
 |some l=>if l.all (fun t=>(yiY t).2) then (l.map (fun t=>(yiY t).1),0) else ([],4)
theorem pGet {s:Str} (h:s.length≤100000000):yeY s (sGet s).1 (sGet s).2:=by
 unfold yeY
 refine ⟨_,_,ywf (by omega),?_⟩
 unfold sGet
 cases hs:ygL s with
 |none=>exact ⟨fun _=>⟨rfl,rfl⟩,fun q=>(by simp at q)⟩
 | some l=>
   refine ⟨fun q=>(by simp at q),fun _ _=> ?_⟩
   have hlen:=yuJ hs
   have hb:=(yte hs).2
   show∀X1:Int->List V->Prop,(∀x3 x4,yko l _ _ X1 x3 x4->X1 x3 x4)->X1 0 []
   refine lp2 (fun (x:Int) (y:List V)=>∃i:Nat,x=i/\i<=l.length/\y=(l.take i).map (fun t=>(yiY t).1)/\((l.take i).all (fun t=>(yiY t).2))=true) (fun (x:Int) (_:List V)=>l.length-x.toNat) ?_ ⟨0,rfl,by omega,by simp,by simp⟩
   rintro X x y ⟨i,rfl,hi,rfl,ha⟩ hX
   simp only[yko]
   refine ⟨fun c=> ?_,fun c=> ?_⟩
   ·have c:(i:Int)<l.length:=by simpa using c
    have hlt:i<l.length:=by omega
    refine ⟨by omega,c,_,gAt hlt,_,_,yDT (by have:=hb l[i] (List.getElem_mem hlt);omega),fun d=> ?_,fun d=>⟨by simp;omega,?_⟩⟩
    ·have d:(yiY l[i]).2=false:=by simpa using d
     have:¬(l.all (fun t=>(yiY t).2))=true:=fun q=>by
      have:=List.all_eq_true.1 q l[i] (List.getElem_mem hlt)
      rw[d] at this;cases this
     rw[if_neg this];exact ⟨rfl,rfl⟩
    ·have d:(yiY l[i]).2=true:=by simpa using d
     rw[w1 (by omega)]
     refine hX _ _ ⟨i+1,rfl,by omega,?_,?_⟩ (by omega)
     ·rw[List.take_succ_eq_append_getElem hlt,List.map_append];rfl
     ·rw[List.take_succ_eq_append_getElem hlt,List.all_append,ha];simp[d]
   ·have c:¬(i:Int)<l.length:=by simpa using c
    rw[List.take_of_length_le (by omega)] at ha⊢
    rw[if_pos ha];exact ⟨rfl,rfl⟩
theorem yvQ {l:List V} (h:∀v∈l,good v):sGet (sKey l)=(l,0):=by
 unfold sGet sKey
 rw[yjk fun s hs=>by have:=yjn h s hs;omega]
 simp only
 have ha:((l.map ygu).all fun t=>(yiY t).2)=true:=by
  rw[List.all_eq_true]
  intro t ht
  obtain ⟨v,hv,rfl⟩:=List.mem_map.1 ht
  rw[yqC (h v hv)]
 rw[if_pos ha,List.map_map]
 congr 1
 conv=>rhs;rw[<-List.map_id l]
 refine List.map_congr_left fun v hv=> ?_
 show (yiY (ygu v)).1=v
 rw[yqC (h v hv)]
theorem yAT {l:List V} (hl:l.length≤1000) (h:∀v∈l,good v):(sKey l).length≤1000000:=by
 have:=yfs (l:=l.map ygu) (m:=65) (yjn h)
 rw[List.length_map] at this
 unfold sKey
 have:l.length*(65+4)<=1000*(65+4):=Nat.mul_le_mul_right _ hl
 omega
end Go.Proofs.Ytecfpoklnfaihaa
end
