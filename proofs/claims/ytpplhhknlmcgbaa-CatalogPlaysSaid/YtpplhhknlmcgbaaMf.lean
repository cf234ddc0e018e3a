/- General texts and own ones, joined: what the program computes, told of abstract states, and the laws of plain data. No condition. -/
import Derived.Test.YtpplhhknlmcgbaaMe
import Derived.Deep.RegionHeld3
import Derived.Deep.DrawnRows
import Derived.Maps.RangeWalk
import Derived.Maps.Ext
import Derived.Maps.AppendAt
import Derived.Test.YtpplhhknlmcgbaaMc
import Derived.Test.YtpplhhknlmcgbaaMa
import Derived.Test.YtpplhhknlmcgbaaRows
import Derived.KernelRfl
noncomputable section
namespace Go.Proofs.Ytpplhhknlmcgbaa
open Go.RowKit Go.Maps Go.WideMaps Go.RG Go.AV
def yfo (w:World) (v:Value) (cs:List Cl):Prop:=(cs= []/\∃a cap,v= .slice a 0 cap)∨∃b off cap,v= .slice (some ⟨b,off,none⟩) cs.length cap/\yft w b off cs
theorem yfo.below {w w':World} {v:Value} {cs:List Cl} (h:yfo w v cs) (hb:Below w.heap.size w w'):yfo w' v cs:=by
 rcases h with h|⟨b,off,cap,e,h⟩
 ·exact .inl h
 ·exact .inr ⟨b,off,cap,e,h.below hb⟩
theorem yfo.drew {w:World} {v:Value} {cs:List Cl} (h:yfo w v cs):yfo w.drew v cs:=by
 rcases h with h|⟨b,off,cap,e,h⟩
 ·exact .inl h
 ·exact .inr ⟨b,off,cap,e,h.nm,h.kd,h.ky,h.lt⟩
theorem ysY (a:Option Addr) (cap:Nat) (w:World):Calls Try.prog 29 #[.slice a 0 cap] w fun e w'=>e= .returned (.tuple #[.int .i64 0, .bool false])∧w'=w:=by
 go_enter Try.func29,Try.ntmps29
 go_wp2
 refine wp_loop_rounds 1 ?_
 rw[rounds_succ]
 go_wp2
 go_ret2
 exact ⟨rfl,rfl⟩
set_option maxRecDepth 100000 in
theorem ypo (a:Option Addr) (cap:Nat) (w:World):Calls Try.prog 28 #[.slice a 0 cap] w fun e w'=>e= .returned (.int .i64 17)∧Below w.heap.size w w':=by
 have hmm:= @run_makeMap Try.prog
 go_enter Try.func28,Try.ntmps28
 go_wp2
 refine wp_loop_rounds 1 ?_
 rw[rounds_succ]
 go_wp2_with (first
  |(go_at_call 29;refine (ysY _ _ _).mono ?_;rintro e w' ⟨rfl,rfl⟩)
  |go_in)
 go_ret
 exact ⟨rfl,(Below.refl _ w).alloc (Nat.le_refl _) _⟩
theorem yte (v:Value) (cs:List Cl) (w:World) (hc:yfo w v cs) (hl:cs.length≤1000000) (hn:∀c∈cs,c.1.length≤9223372036854775807):
  Calls Try.prog 28 #[v] w fun e w'=>e= .returned (.int .i64 (yc4 cs))/\Below w.heap.size w w':=by
 rcases hc with ⟨rfl,a,cap,rfl⟩|⟨b,off,cap,rfl,hc⟩
 ·exact ypo a cap w
 ·exact yqB b off cap cs w hc hl hn
theorem yii {cs:List Cl} (h:yc4 cs=0):cs≠ []∧cs.length≤8:=by
 constructor
 ·rintro rfl;cases h
 ·apply Decidable.byContradiction
  intro q
  rw[yiZ (.inr (.inl (by omega)))] at h
  cases h
theorem yxf (v:Value) (cs:List Cl) (w:World) (hc:yfo w v cs) (h0:cs≠ []) (hl:cs.length≤1000000):
  Calls Try.prog 29 #[v] w fun e w'=>e= .returned (.tuple #[.int .i64 (kSt cs cs.length).1, .bool (decide ((kSt cs cs.length).2=1))])/\Below w.heap.size w w':=by
 rcases hc with ⟨rfl,a,cap,rfl⟩|⟨b,off,cap,rfl,hc⟩
 ·exact absurd rfl h0
 ·exact yrc b off cap cs w hc hl
theorem ytv:∀(cs:List Cl) (j:Nat) (u:Value),(cs.flatMap clV)[j]? =some u→∃k c i,cs[k]? =some c∧j=k*3+i∧i<3∧(clV c)[i]? =some u
 | [],j,u,h=>by simp at h
 | c::cs,j,u,h=>by
   rw[List.flatMap_cons] at h
   by_cases hj:j<3
   ·refine ⟨0,c,j,rfl,by omega,hj,?_⟩
    rw[List.getElem?_append_left (by simpa [clV] using hj)] at h
    exact h
   ·rw[List.getElem?_append_right (by simp[clV];omega)] at h
    obtain ⟨k,d,i,h1,h2,h3,h4⟩:=ytv cs _ u h
    refine ⟨k+1,d,i,by simpa using h1,?_,h3,h4⟩
    have:(clV c).length=3:=rfl
    omega
theorem yrt:∀cs:List Cl,(cs.flatMap clV).length=cs.length*3
 | []=>rfl
 |c::cs=>by rw[List.flatMap_cons,List.length_append,yrt cs,List.length_cons,show (clV c).length=3 from rfl];omega
theorem yft.cell {w:World} {b off:Nat} {cs:List Cl} (h:yft w b off cs) {j:Nat} {u:Value} (hj:(cs.flatMap clV)[j]? =some u):w.cell? ⟨b,off+j,none⟩=some u:=by
 obtain ⟨k,c,i,h1,rfl,h3,h4⟩:=ytv cs j u hj
 rw[<-Nat.add_assoc]
 match i,h3,h4 with
 |0,_,h4=>cases h4;exact h.nm k c h1
 |1,_,h4=>cases h4;exact h.kd k c h1
 |2,_,h4=>cases h4;exact h.ky k c h1
theorem yu7 (cs:List Cl):∀u∈cs.flatMap clV,u.oneCell'=true:=by
 intro u hu
 obtain ⟨c,_,hc⟩:=List.mem_flatMap.1 hu
 simp only[clV,List.mem_cons,List.not_mem_nil,or_false] at hc
 rcases hc with rfl|rfl|rfl<;>rfl
theorem yoT (v:Value) (cs:List Cl) (w:World) (hc:yfo w v cs) (h0:cs≠ []) (hl:cs.length≤1000000):
  Calls Try.prog 25 #[v] w fun e w'=>∃v',e= .returned v'/\w'.ownsRow w.heap.size 54 3 v' cs.length (cs.flatMap clV)/\v'≠ .slice none 0 0/\Below w.heap.size w w':=by
 rcases hc with ⟨rfl,a,cap,rfl⟩|⟨b,off,cap,rfl,hc⟩
 ·exact absurd rfl h0
 ·exact ypp b off cs.length cap _ w (yrt cs) hl (fun j u q=>hc.cell q) (yu7 cs)
theorem yjn {w w1:World} {tb sb j:Nat} {v:Value} (h:w.mapTurned w1 tb) (hne:sb≠tb) (c:w.cell? ⟨sb,j,none⟩=some v):w1.cell? ⟨sb,j,none⟩=some v:=
 (World.cell?_of_block (h.grown.block sb (World.block_lt_of_cell? w _ c) (by simpa using hne))).trans c
theorem ydP {w:World} {base base' t s n:Nat} {v:Value} {xs:List Value} (h:w.ownsRow base t s v n xs) (hb:base'≤base):w.ownsRow base' t s v n xs:=
 ⟨h.1,h.2.imp id fun ⟨g,cap,cur,h1,h2,h3⟩=>⟨g,cap,cur,h1,Nat.le_trans hb h2,h3⟩⟩
theorem ytw {w:World} {base t s n:Nat} {v:Value} {xs:List Value} (h:w.ownsRow base t s v n xs) (h0:v≠ .slice none 0 0):∃g cap,v= .slice (some ⟨g,0,none⟩) n cap:=by
 rcases h.2 with ⟨q,_⟩|⟨g,cap,cur,q,_⟩
 ·exact absurd q h0
 ·exact ⟨g,cap,q⟩
def yik {α β:Type} (ZT:MZ α) (ZV:MZ β) (n:List UInt8) (cs:List Cl):Int:=
 if ((gAt ZT n).isSome||(gAt ZV n).isSome)=true then 7 else if 8<=ZT.length then 14 else yc4 cs
attribute [local go_sem ↓] Go.wp_at_zero Go.wp_at_succ
set_option maxHeartbeats 2000000 in
set_option maxRecDepth 100000 in
theorem ysM {β:Type} (sb tb vb nv:Nat) (ZT:MZ (List Cl×Int)) (ZV:MZ β) (name:ByteArray) (v:Value) (cs:List Cl) (w:World) (c0:w.cell? ⟨sb,0,none⟩=some (.map (some tb))) (c1:w.cell? ⟨sb,1,none⟩=some (.map (some vb))) (ht:w.ownsMap Try.prog 9 ycu tb ZT.length (mzD ZT)) (hv:w.ownsMap Try.prog 9 ycu vb nv (mzD ZV)) (hsz:name.size≤maxLen)
  (s0:ByteArray) (a:Option Addr) (m c:Nat) (k:Int) (hsh:mzV ZT name.data.toList (.agg #[.string ⟨#[]⟩, .slice none 0 0, .int .i64 0])= .agg #[.string s0, .slice a m c, .int .i64 k]) (a':Option Addr) (m' c':Nat) (hsv:mzV ZV name.data.toList (.slice none 0 0)= .slice a' m' c')
  (hlen:ZT.length<maxLen) (hne:sb≠tb) (hc:yfo w v cs) (hl:cs.length<=1000000) (hn:∀c∈cs,c.1.length<=9223372036854775807):
  Calls Try.prog 15 #[.pointer (some ⟨sb,0,none⟩), .string name,v] w fun e w'=>e= .returned (.int .i64 (yik ZT ZV name.data.toList cs))∧((¬yik ZT ZV name.data.toList cs=0∧Below w.heap.size w w')∨
   (yik ZT ZV name.data.toList cs=0∧∃w1 sv,Below w.heap.size w w1∧w1.ownsRow w.heap.size 54 3 sv cs.length (cs.flatMap clV)∧w1.mapTurned w' tb∧
     w'.ownsMap Try.prog 9 ycu tb (ZT.length+1) (mzD (gPut ZT name.data.toList ((cs,((kSt cs cs.length).1:Int)), .agg #[.string name,sv, .int .i64 (kSt cs cs.length).1]))))):=by
 have hk:=keyOf_string_mk Try.underlying9 hsz
 have htk:=yjw sb tb vb ZT.length nv ZT ZV name w c0 c1 ht hv hsz s0 a m c k hsh a' m' c' hsv
 have hbs:sb<w.heap.size:=World.block_lt_of_cell? w _ c0
 go_enter Try.func15,Try.ntmps15
 go_wp2_with (first
  |(go_at_call 22;refine htk.mono ?_;rintro e w1 ⟨rfl,hb1⟩;have d0:=(hb1.cell hbs).trans c0;have hm1:=ht.below hb1;have hc1:=hc.below hb1)
  |(at_len;refine wpList_len_own _ rfl _ 65 rfl 9 47 Try.underlying65 _ tb ZT.length _ rfl hm1 ?_)
  |(go_at_call 28;refine (yte v cs _ hc1 hl hn).mono ?_;rintro e w2 ⟨rfl,hb2⟩;have hc2:=hc1.below hb2;have hm2:=hm1.below hb2)
  |(go_at_call 29;have hr0:yc4 cs=0:=(by have q:(yc4 cs !=0)=false:=(by assumption);simpa using q);refine (yxf v cs _ hc2 (yii hr0).1 hl).mono ?_;rintro e w3 ⟨rfl,hb3⟩;have hc3:=hc2.below hb3;have hm3:=hm2.below hb3;have d3:=(hb3.cell (Nat.lt_of_lt_of_le (Nat.lt_of_lt_of_le hbs hb1.size) hb2.size)).trans ((hb2.cell (Nat.lt_of_lt_of_le hbs hb1.size)).trans d0))
  |go_in)
 ·rename_i q
  have e7:yik ZT ZV name.data.toList cs=7:=by unfold yik;rw[if_pos (by simpa using q)]
  go_ret
  rw[e7]
  exact ⟨rfl, .inl ⟨by decide,hb1⟩⟩
 ·rename_i q1 q2
  have e14:yik ZT ZV name.data.toList cs=14:=by
   unfold mzD at q2
   rw[ydH] at q2
   unfold yik;rw[if_neg (by simp[q1.1,q1.2]),if_pos (by omega)]
  go_ret
  rw[e14]
  exact ⟨rfl, .inl ⟨by decide,hb1⟩⟩
 ·have q1:(gAt ZT name.data.toList).isSome=false∧(gAt ZV name.data.toList).isSome=false:=by assumption
  have q2:((Maps.size (mzD ZT):Nat):Int)<8:=by assumption
  have q3:(yc4 cs !=0)=true:=by assumption
  have er:yik ZT ZV name.data.toList cs=yc4 cs:=by
   unfold mzD at q2
   rw[ydH] at q2
   unfold yik;rw[if_neg (by simp[q1.1,q1.2]),if_neg (by omega)]
  go_ret
  rw[er]
  exact ⟨rfl, .inl ⟨by simpa using q3,hb1.trans (hb2.mono hb1.size)⟩⟩
 ·have hbs3:sb<w3.heap.size:=Nat.lt_of_lt_of_le (Nat.lt_of_lt_of_le (Nat.lt_of_lt_of_le hbs hb1.size) hb2.size) hb3.size
  clear hm1 hm2 hc1 hc2 ht hv c0 c1 hsh hsv htk
  go_region_held3 (fun w'=>w'.cell? ⟨sb,0,none⟩=some (.map (some tb))) (first|exact d3|exact d4|exact d5|go_keep)
   ((go_at_call 25;refine (yoT v cs _ hc3.drew (yii hr0).1 hl).mono ?_;rintro e w4 ⟨sv,rfl,hrow,hnn,hb4⟩;obtain ⟨g,gc,rfl⟩:=ytw hrow hnn;have hm4:=hm3.drew.below hb4;have d4:=(hb4.cell hbs3).trans d3;obtain ⟨w5,hrun5,hown5,hturn5⟩:=hm4.store keyS Try.underlying65 hlen hk (val:= .agg #[.string name, .slice (some ⟨g,0,none⟩) cs.length gc, .int .i64 (kSt cs cs.length).1]) (d:= .held (.agg #[.string name, .slice (some ⟨g,0,none⟩) cs.length gc, .int .i64 (kSt cs cs.length).1])) (ps:= []) rfl;have d5:=yjn hturn5 hne d4))
  have q1:(gAt ZT name.data.toList).isSome=false/\(gAt ZV name.data.toList).isSome=false:=by assumption
  have q2:((Maps.size (mzD ZT):Nat):Int)<8:=by assumption
  have er:yik ZT ZV name.data.toList cs=0:=by
   unfold mzD at q2
   rw[ydH] at q2
   unfold yik;rw[if_neg (by simp[q1.1,q1.2]),if_neg (by omega),hr0]
  have hput:(mzD ZT).put (.string name.data.toList) (.held (.agg #[.string name, .slice (some ⟨g,0,none⟩) cs.length gc, .int .i64 (kSt cs cs.length).1]))=mzD (gPut ZT name.data.toList ((cs,((kSt cs cs.length).1:Int)), .agg #[.string name, .slice (some ⟨g,0,none⟩) cs.length gc, .int .i64 (kSt cs cs.length).1])):=
   yon (f:=fun z:(List Cl×Int)×Value=>DataW.held z.2) (a:=((cs,((kSt cs cs.length).1:Int)), .agg #[.string name, .slice (some ⟨g,0,none⟩) cs.length gc, .int .i64 (kSt cs cs.length).1]))
  rw[hput] at hown5
  have hb4':Below w.heap.size w w4:=(((hb1.trans (hb2.mono hb1.size)).trans (hb3.mono (Nat.le_trans hb1.size hb2.size))).drew).trans (hb4.mono (Nat.le_trans (Nat.le_trans hb1.size hb2.size) hb3.size))
  go_wp2
  go_ret
  rw[er]
  exact ⟨rfl, .inr ⟨rfl,w4,_,hb4',ydP hrow (Nat.le_trans (Nat.le_trans hb1.size hb2.size) hb3.size),hturn5,hown5⟩⟩
end Go.Proofs.Ytpplhhknlmcgbaa
end
noncomputable section
namespace Go.Proofs.Ytpplhhknlmcgbaa
open Go.RowKit Go.Maps Go.WideMaps Go.RG Go.AV
structure ykI (w:World) (b off:Nat) (us:List (List UInt8)):Prop where
 at':∀j u,us[j]? =some u->w.cell? ⟨b,off+j,none⟩=some (bStr u)
 lt:b<w.heap.size
theorem ykI.below {w w':World} {b off:Nat} {us:List (List UInt8)} (h:ykI w b off us) (hb:Below w.heap.size w w'):ykI w' b off us:=
 ⟨fun j u q=>(hb.cell h.lt).trans (h.at' j u q),Nat.lt_of_lt_of_le h.lt hb.size⟩
def yd7 (w:World) (v:Value) (us:List (List UInt8)):Prop:=(us= []/\∃a cap,v= .slice a 0 cap)∨∃b off cap,v= .slice (some ⟨b,off,none⟩) us.length cap/\ykI w b off us
theorem yd7.below {w w':World} {v:Value} {us:List (List UInt8)} (h:yd7 w v us) (hb:Below w.heap.size w w'):yd7 w' v us:=by
 rcases h with h|⟨b,off,cap,e,h⟩
 ·exact .inl h
 ·exact .inr ⟨b,off,cap,e,h.below hb⟩
theorem ylc (s:ByteArray):Value.string s=bStr s.data.toList:=by
 unfold bStr
 rw[Array.toArray_toList]
set_option maxHeartbeats 1000000 in
set_option maxRecDepth 100000 in
theorem ytm (b off cap:Nat) (us:List (List UInt8)) (t:ByteArray) (w:World) (hc:ykI w b off us) (hl:us.length≤1000000):
  Calls Try.prog 44 #[.slice (some ⟨b,off,none⟩) us.length cap, .string t] w fun e w'=>(∃n:Int,e= .returned (.int .i64 n)/\(decide (0<=n)=decide (t.data.toList∈us)))/\w'=w:=by
 go_enter Try.func44,Try.ntmps44
 go_wp2
 go_loop [8] (fun i=>∃k:Nat,k≤us.length∧i= .int .i64 k∧t.data.toList∉us.take k)
  (fun i=>us.length-(intOf i).toNat)
 case atStart=>exact ⟨0,Nat.zero_le _,rfl,by simp⟩
 case round=>
  obtain ⟨k,hk,rfl,hno⟩:=hrel
  by_cases hlt:k<us.length
  ·obtain ⟨c,hcc⟩:∃c,us[k]? =some c:=⟨us[k],List.getElem?_eq_getElem hlt⟩
   have n0:=hc.at' k c hcc
   unfold bStr at n0
   have ht:us.take (k+1)=us.take k++ [c]:=by
    rw[List.take_add_one,hcc];rfl
   go_wp2
   ·have q:(t.toList==c)=true:=by assumption
    rw[Go.ByteArray.toList_eq] at q
    go_ret
    refine ⟨⟨k,rfl,?_⟩,rfl⟩
    have:t.data.toList∈us:=by rw[show t.data.toList=c by simpa using q];exact List.mem_of_getElem? hcc
    simp[this]
   ·have q:(t.toList==c)=false:=by assumption
    rw[Go.ByteArray.toList_eq] at q
    refine ⟨⟨k+1,by omega,by push_cast;rfl,?_⟩,by simp[intOf];omega⟩
    rw[ht,List.mem_append]
    rintro (h|h)
    ·exact hno h
    ·rw[List.mem_singleton] at h
     simp[h] at q
  ·have:k=us.length:=by omega
   subst this
   go_wp2
   go_ret
   refine ⟨⟨_,rfl,?_⟩,rfl⟩
   rw[List.take_length] at hno
   simp[hno]
theorem ypW (a:Option Addr) (c:Nat) (t:ByteArray) (w:World):Calls Try.prog 44 #[.slice a 0 c, .string t] w fun e w'=>e= .returned (.int .i64 (-1))∧w'=w:=by
 go_enter Try.func44,Try.ntmps44
 go_wp2
 refine wp_loop_rounds 1 ?_
 rw[rounds_succ]
 go_wp2
 go_ret
 exact ⟨rfl,rfl⟩
theorem yu9 (v:Value) (us:List (List UInt8)) (t:ByteArray) (w:World) (hc:yd7 w v us) (hl:us.length≤1000000):
  Calls Try.prog 35 #[v, .string t] w fun e w'=>e= .returned (.bool (decide (t.data.toList∈us)))/\w'=w:=by
 have hi:Calls Try.prog 44 #[v, .string t] w fun e w'=>(∃n:Int,e= .returned (.int .i64 n)∧(decide (0≤n)=decide (t.data.toList∈us)))∧w'=w:=by
  rcases hc with ⟨rfl,a,cap,rfl⟩|⟨b,off,cap,rfl,hc⟩
  ·refine (ypW a cap t w).mono ?_
   rintro e w' ⟨rfl,rfl⟩
   exact ⟨⟨_,rfl,by simp⟩,rfl⟩
  ·exact ytm b off cap us t w hc hl
 go_enter Try.func35,Try.ntmps35
 go_wp2_with (first
  |(go_at_call 44;refine hi.mono ?_;rintro e w' ⟨⟨n,rfl,hn⟩,rfl⟩)
  |go_in)
 go_ret
 exact ⟨by rw[<-hn];rfl,rfl⟩
set_option maxHeartbeats 2000000 in
set_option maxRecDepth 100000 in
theorem ynF (ad:Addr) (c:Nat) (w:World):
  Calls Try.prog 23 #[.slice (some ad) 0 c] w fun e w'=>∃v',e= .returned v'/\w'.ownsRow w.heap.size 9 1 v' 0 []/\Below w.heap.size w w':=by
 obtain ⟨i0,hi,hz0,hz1,hz2⟩:=info_parts yv7
 have q:∀(w:World) (a:Option Addr) (n c n' c':Nat),(binOp .eql 31 (.slice a n c) (.slice none n' c')).run Try.prog w= .ok (.bool a.isNone) w:=fun w a n c n' c'=>Lib.run_eql_slice_nil w _ _ a n c n' c' Try.underlying31
 go_enter Try.func23,Try.ntmps23
 go_wp2_with (at_builtin;refine wpList_append_own _ rfl _ _ 31 rfl w.heap.size 9 i0 (.string ⟨#[]⟩) 1 16 Try.underlying31 hi hz0 hz1 hz2 rfl (by decide) _ _ _ rfl (World.ownsRow_made w #[] 0 (Nat.le_refl _) (Nat.zero_le _) rfl) ad 0 c [] rfl rfl (fun j u q=>by cases j<;>cases q) (fun u q=>by cases q) (by decide) (by decide) (by simp) ?_)
 intro v' w1 hown hgrow hnil
 go_wp2
 go_ret
 exact ⟨v',rfl,by simpa using hown,((Below.refl _ w).alloc (Nat.le_refl _) _).grown hgrow (by simp) (by intro k hk;simp[Value.ownBlock] at hk;omega)⟩
theorem ymB (v:Value) (us:List (List UInt8)) (w:World) (hc:yd7 w v us) (hl:us.length≤1000000):
  Calls Try.prog 23 #[v] w fun e w'=>∃v',e= .returned v'/\w'.ownsRow w.heap.size 9 1 v' us.length (us.map bStr)/\Below w.heap.size w w':=by
 rcases hc with ⟨rfl,a,cap,rfl⟩|⟨b,off,cap,rfl,hc⟩
 ·cases a with
  | none=>
    refine (ypu 0 cap w).mono ?_
    rintro e w' ⟨rfl,rfl⟩
    exact ⟨_,rfl,World.ownsRow_nil _ _ _ _,Below.refl _ _⟩
  | some a=>
    refine (ynF a cap w).mono ?_
    rintro e w' ⟨v',rfl,h1,h2⟩
    exact ⟨v',rfl,h1,h2⟩
 ·refine (ypm b off us.length cap (us.map bStr) w (List.length_map ..) hl (fun j u q=> ?_) (fun u q=> ?_)).mono ?_
  ·rw[List.getElem?_map] at q
   obtain ⟨x,hx,rfl⟩:=Option.map_eq_some_iff.1 q
   exact hc.at' j x hx
  ·obtain ⟨x,_,rfl⟩:=List.mem_map.1 q;rfl
  ·rintro e w' ⟨v',rfl,h1,_,h2⟩
   exact ⟨v',rfl,h1,h2⟩
end Go.Proofs.Ytpplhhknlmcgbaa
end
noncomputable section
namespace Go.Proofs.Ytpplhhknlmcgbaa
open Go.RowKit Go.Maps Go.WideMaps Go.RG Go.AV
theorem ylw:∀(cs:List Cl) (k i:Nat) (c:Cl),cs[k]? =some c→i<3→(cs.flatMap clV)[k*3+i]? =(clV c)[i]?
 | [],k,i,c,h,_=>by simp at h
 | d::cs,0,i,c,h,hi=>by
   cases h
   rw[List.flatMap_cons,List.getElem?_append_left (by simpa [clV] using hi)]
   simp
 | d::cs,k+1,i,c,h,hi=>by
   rw[List.flatMap_cons,List.getElem?_append_right (by simp[clV];omega)]
   have:=ylw cs k i c (by simpa using h) hi
   rw[<-this]
   congr 1
   simp[clV];omega
theorem ys2 {w:World} {base:Nat} {s:Value} {cs:List Cl} (h:w.ownsRow base 54 3 s cs.length (cs.flatMap clV)) (h0:cs≠ []):∃g cap,s= .slice (some ⟨g,0,none⟩) cs.length cap∧yft w g 0 cs:=by
 have hlen:0<cs.length:=List.length_pos_iff.2 h0
 have h2:=h.2
 rcases h2 with ⟨_,q⟩|⟨g,cap,cur,rfl,h1,h2,h3⟩
 ·omega
 ·refine ⟨g,cap,rfl,fun j c q=> ?_,fun j c q=> ?_,fun j c q=> ?_,(Array.getElem?_eq_some_iff.1 h2).1⟩
  ·have hj:=(List.getElem?_eq_some_iff.1 q).1
   rw[Nat.zero_add,h.cellAt (j*3) (by omega),<-Nat.add_zero (j*3),ylw cs j 0 c q (by decide)];rfl
  ·have hj:=(List.getElem?_eq_some_iff.1 q).1
   rw[Nat.zero_add,h.cellAt (j*3+1) (by omega),ylw cs j 1 c q (by decide)];rfl
  ·have hj:=(List.getElem?_eq_some_iff.1 q).1
   rw[Nat.zero_add,h.cellAt (j*3+2) (by omega),ylw cs j 2 c q (by decide)];rfl
theorem ytj {w:World} {base:Nat} {s:Value} {us:List (List UInt8)} (h:w.ownsRow base 9 1 s us.length (us.map bStr)):yd7 w s us:=by
 have h2:=h.2
 rcases h2 with ⟨rfl,q⟩|⟨g,cap,cur,rfl,h1,h2,h3⟩
 ·exact .inl ⟨List.eq_nil_of_length_eq_zero q,_,_,rfl⟩
 ·refine .inr ⟨g,0,cap,rfl,fun j c q=> ?_,(Array.getElem?_eq_some_iff.1 h2).1⟩
  have hj:=(List.getElem?_eq_some_iff.1 q).1
  rw[Nat.zero_add,h.cellAt j (by omega),List.getElem?_map,q];rfl
theorem ygP (w:World) (o:Obj) {x:Nat} (h:x<w.heap.size):(w.alloc o).heap[x]? =w.heap[x]? :=by
 show (w.heap.push o)[x]? =_
 rw[Array.getElem?_push,if_neg (by omega)]
theorem yfj (w:World) (o:Obj):(w.alloc o).heap[w.heap.size]? =some o:=by
 show (w.heap.push o)[w.heap.size]? =_
 simp
theorem ycT (w:World) (o:Obj):(w.alloc o).heap.size=w.heap.size+1:=Array.size_push ..
theorem yyv (w:World) (o o':Obj):((w.alloc o).alloc o').heap[w.heap.size]? =some o:=(ygP _ _ (by simp)).trans (yfj w o)
theorem yyF (w:World) (o o':Obj):((w.alloc o).alloc o').heap[w.heap.size+1]? =some o':=by
 have:=yfj (w.alloc o) o'
 simpa using this
theorem yhl {w:World} {b:Nat} {cs:Array Value} {t:TypeId} (h:w.heap[b]? =some (.cells cs t (0,0))) (i:Nat):w.cell? ⟨b,i,none⟩=cs[i]? :=by simp[World.cell?,h]
theorem ykw {w:World} {b:Nat} {cs:Array Value} {t:TypeId} (h:w.heap[b]? =some (.cells cs t (0,0))) (i:Nat):w.frozen? ⟨b,i,none⟩=false:=by simp[World.frozen?,h]
set_option maxHeartbeats 2000000 in
set_option maxRecDepth 100000 in
theorem ypg (sb tb nt:Nat) (ZT:MZ (List Cl×Int)) (name:ByteArray) (w:World) (c0:w.cell? ⟨sb,0,none⟩=some (.map (some tb))) (ht:w.ownsMap Try.prog 9 ycu tb nt (mzD ZT)) (hsz:name.size≤maxLen)
  (cs:List Cl) (k:Int) (v:Value) (hat:gAt ZT name.data.toList=some ((cs,k),v)) (hv:ypv w name.data.toList (cs,k) v) (h0:cs≠ []) (hl:cs.length<=1000000):
  Calls Try.prog 13 #[.pointer (some ⟨sb,0,none⟩), .string name] w fun e w'=>∃sv,e= .returned (.tuple #[.agg #[bStr name.data.toList,sv, .int .i64 k], .bool true])/\w'.ownsRow w.heap.size 54 3 sv cs.length (cs.flatMap clV)/\Below w.heap.size w w':=by
 obtain ⟨s,rfl,hrow⟩:=hv
 obtain ⟨g,cap,rfl,hca⟩:=ys2 hrow h0
 have hk:=keyOf_string_mk Try.underlying9 hsz
 have hV:mzV ZT name.data.toList (.agg #[.string ⟨#[]⟩, .slice none 0 0, .int .i64 0])= .agg #[bStr name.data.toList, .slice (some ⟨g,0,none⟩) cs.length cap, .int .i64 k]:=by unfold mzV;rw[hat];rfl
 have hB:(gAt ZT name.data.toList).isSome=true:=by rw[hat];rfl
 have hgl:=hca.lt
 have d0:∀o,(w.alloc o).cell? ⟨sb,0,none⟩=some (.map (some tb)):=fun o=>Lib.cell?_alloc_some _ c0
 unfold bStr at hV⊢
 have HC:Hid (yft w g 0 cs):=hca
 clear hca hrow
 go_enter Try.func13,Try.ntmps13
 go_wp2_with (first
  |(at_lookup;refine yb5 _ rfl _ _ 65 rfl 9 47 keyS Try.underlying65 (yj1 _) tb nt ZT rfl (by first|exact ht|exact ht.alloc _) name rfl hk _ _ hV hB ?_)
  |(go_at_call 25;refine (yoT _ cs _ (.inr ⟨g,0,cap,rfl,(yft.below HC.out (((Below.refl _ w).alloc (Nat.le_refl _) _).alloc (by simp) _))⟩) h0 hl).mono ?_;rintro e w2 ⟨sv,rfl,hrow,hnn,hb2⟩;obtain ⟨g2,gc,rfl⟩:=ytw hrow hnn;have hA:=(hb2.block w.heap.size (by simp;omega)).trans (yyv w _ _);have hB:=(hb2.block (w.heap.size+1) (by simp)).trans (yyF w _ _);have kA0:=yhl hA 0;have fA0:=ykw hA 0;have kA1:=yhl hA 1;have fA1:=ykw hA 1;have kA2:=yhl hA 2;have fA2:=ykw hA 2;have kB0:=yhl hB 0;have fB0:=ykw hB 0;have kB1:=yhl hB 1;have fB1:=ykw hB 1;have kB2:=yhl hB 2;have fB2:=ykw hB 2;clear hA hB)
  |go_in)
 refine bodyPost_ret (v:= .tuple #[.agg #[.string name, .slice (some ⟨g2,0,none⟩) cs.length gc, .int .i64 k], .bool true]) ?_ rfl ?_
 ·rw[results_cell_tmp rfl]
  go_simp
 have hgb:=(hrow.lt g2 rfl).1
 simp only[ycT] at hgb
 refine ⟨_,?_,ybe (ydP hrow (by simp only[ycT];omega)) fun x hx=> ?_,?_⟩
 ·have:=ylc name
  unfold bStr at this
  rw[<-this]
 ·simp only[yct,List.mem_singleton] at hx
  subst hx
  rw[yom,if_neg (by omega),yom,if_neg (by omega),yom,if_neg (by omega),yom,if_neg (by omega)]
 ·exact (((((((Below.refl _ w).alloc (Nat.le_refl _) _).alloc (by simp) _).trans (hb2.mono (by simp only[ycT];omega))).setCell (Nat.le_succ _) _).setCell (Nat.le_refl _) _).setCell (Nat.le_refl _) _).setCell (Nat.le_refl _) _
set_option maxHeartbeats 2000000 in
set_option maxRecDepth 100000 in
theorem ypq (sb tb nt:Nat) (ZT:MZ (List Cl×Int)) (name:ByteArray) (w:World) (c0:w.cell? ⟨sb,0,none⟩=some (.map (some tb))) (ht:w.ownsMap Try.prog 9 ycu tb nt (mzD ZT)) (hsz:name.size≤maxLen) (hat:gAt ZT name.data.toList=none):
  Calls Try.prog 13 #[.pointer (some ⟨sb,0,none⟩), .string name] w fun e w'=>e= .returned (.tuple #[.agg #[.string ⟨#[]⟩, .slice none 0 0, .int .i64 0], .bool false])/\Below w.heap.size w w':=by
 have hk:=keyOf_string_mk Try.underlying9 hsz
 have hV:mzV ZT name.data.toList (.agg #[.string ⟨#[]⟩, .slice none 0 0, .int .i64 0])= .agg #[.string ⟨#[]⟩, .slice none 0 0, .int .i64 0]:=by unfold mzV;rw[hat];rfl
 have hB:(gAt ZT name.data.toList).isSome=false:=by rw[hat];rfl
 have d0:∀o,(w.alloc o).cell? ⟨sb,0,none⟩=some (.map (some tb)):=fun o=>Lib.cell?_alloc_some _ c0
 go_enter Try.func13,Try.ntmps13
 go_wp2_with (first
  |(at_lookup;refine yb5 _ rfl _ _ 65 rfl 9 47 keyS Try.underlying65 (yj1 _) tb nt ZT rfl (by first|exact ht|exact ht.alloc _) name rfl hk _ _ hV hB ?_)
  |(go_at_call 25;refine (ypl 0 0 _).mono ?_;rintro e w2 ⟨rfl,rfl⟩)
  |go_in)
 refine bodyPost_ret (v:= .tuple #[.agg #[.string ⟨#[]⟩, .slice none 0 0, .int .i64 0], .bool false]) ?_ rfl ?_
 ·rw[results_cell_tmp rfl]
  go_simp
 exact ⟨rfl,((Below.refl _ w).alloc (Nat.le_refl _) _).alloc (by simp) _⟩
end Go.Proofs.Ytpplhhknlmcgbaa
end
noncomputable section
namespace Go.Proofs.Ytpplhhknlmcgbaa
open Go.RowKit Go.Maps Go.WideMaps Go.RG Go.AV
theorem yd7.drew {w:World} {v:Value} {us:List (List UInt8)} (h:yd7 w v us):yd7 w.drew v us:=by
 rcases h with h|⟨b,off,cap,e,h⟩
 ·exact .inl h
 ·exact .inr ⟨b,off,cap,e,h.at',h.lt⟩
def ynI {α:Type} (ZT:MZ α):Prop:=∀n,∃(s0:ByteArray) (a:Option Addr) (m c:Nat) (k:Int),mzV ZT n (.agg #[.string ⟨#[]⟩, .slice none 0 0, .int .i64 0])= .agg #[.string s0, .slice a m c, .int .i64 k]
def VwSh {α:Type} (ZV:MZ α):Prop:=∀n,∃(a:Option Addr) (m c:Nat),mzV ZV n (.slice none 0 0)= .slice a m c
def ydF {α β:Type} (ZT:MZ α) (ZV:MZ β) (n:List UInt8) (us:List (List UInt8)):Int:=
 if ((gAt ZT n).isSome||(gAt ZV n).isSome)=true then 7 else if 8<=ZV.length then 14 else if us.all (fun u=>(gAt ZT u).isSome)=true then 0 else 6
attribute [local go_sem ↓] Go.wp_at_zero Go.wp_at_succ
set_option maxHeartbeats 2000000 in
set_option maxRecDepth 100000 in
theorem yti {α:Type} (sb tb vb nt:Nat) (ZT:MZ α) (ZV:MZ (List (List UInt8))) (name:ByteArray) (b off cap:Nat) (us:List (List UInt8)) (w:World) (c0:w.cell? ⟨sb,0,none⟩=some (.map (some tb))) (c1:w.cell? ⟨sb,1,none⟩=some (.map (some vb))) (ht:w.ownsMap Try.prog 9 ycu tb nt (mzD ZT)) (hv:w.ownsMap Try.prog 9 ycu vb ZV.length (mzD ZV)) (hsz:name.size≤maxLen)
  (hT:ynI ZT) (hVw:VwSh ZV) (hlen:ZV.length<maxLen) (hne:sb≠vb) (hc:ykI w b off us) (hl:us.length<=1000000) (hn:∀u∈us,u.length<=9223372036854775807):
  Calls Try.prog 9 #[.pointer (some ⟨sb,0,none⟩), .string name, .slice (some ⟨b,off,none⟩) us.length cap] w fun e w'=>e= .returned (.int .i64 (ydF ZT ZV name.data.toList us))∧((¬ydF ZT ZV name.data.toList us=0∧Below w.heap.size w w')∨
   (ydF ZT ZV name.data.toList us=0/\∃w1 sv,Below w.heap.size w w1/\w1.ownsRow w.heap.size 9 1 sv us.length (us.map bStr)/\w1.mapTurned w' vb/\w'.ownsMap Try.prog 9 ycu vb (ZV.length+1) (mzD (gPut ZV name.data.toList (us,sv))))):=by
 have hk:=keyOf_string_mk Try.underlying9 hsz
 obtain ⟨s0,a,m,c,k0,hsh⟩:=hT name.data.toList
 obtain ⟨a',m',c',hsv⟩:=hVw name.data.toList
 have htk:=yjw sb tb vb nt ZV.length ZT ZV name w c0 c1 ht hv hsz s0 a m c k0 hsh a' m' c' hsv
 have hbs:sb<w.heap.size:=World.block_lt_of_cell? w _ c0
 have HT:Hid (ynI ZT):=hT
 clear hT hVw hsh hsv
 go_enter Try.func9,Try.ntmps9
 go_wp2_with (first
  |(go_at_call 22;refine htk.mono ?_;rintro e w1 ⟨rfl,hb1⟩;have d0:=(hb1.cell hbs).trans c0;have d1:=(hb1.cell hbs).trans c1;have hm0:=ht.below hb1;have hm1:=hv.below hb1;have hc1:=hc.below hb1)
  |(at_len;refine wpList_len_own _ rfl _ 66 rfl 9 31 Try.underlying66 _ vb ZV.length _ rfl hm1 ?_)
  |go_in)
 ·have q:(gAt ZT name.data.toList).isSome=true∨(gAt ZV name.data.toList).isSome=true:=by assumption
  have e7:ydF ZT ZV name.data.toList us=7:=by unfold ydF;rw[if_pos (by simpa using q)]
  go_ret
  rw[e7]
  exact ⟨rfl, .inl ⟨by decide,hb1⟩⟩
 ·have q1:(gAt ZT name.data.toList).isSome=false∧(gAt ZV name.data.toList).isSome=false:=by assumption
  have q2:8<=((Maps.size (mzD ZV):Nat):Int):=by assumption
  have e14:ydF ZT ZV name.data.toList us=14:=by
   unfold mzD at q2
   rw[ydH] at q2
   unfold ydF;rw[if_neg (by simp[q1.1,q1.2]),if_pos (by omega)]
  go_ret
  rw[e14]
  exact ⟨rfl, .inl ⟨by decide,hb1⟩⟩
 ·have q1:(gAt ZT name.data.toList).isSome=false∧(gAt ZV name.data.toList).isSome=false:=by assumption
  have q2:((Maps.size (mzD ZV):Nat):Int)<8:=by assumption
  have eE:Hid (ydF ZT ZV name.data.toList us=if us.all (fun u=>(gAt ZT u).isSome)=true then 0 else 6):=by
   unfold mzD at q2
   rw[ydH] at q2
   show ydF ZT ZV name.data.toList us=_;unfold ydF;rw[if_neg (by simp[q1.1,q1.2]),if_neg (by omega)]
  have hbs1:sb<w1.heap.size:=Nat.lt_of_lt_of_le hbs hb1.size
  go_loopw [27] (fun i wr=>∃k:Nat,k≤us.length∧i= .int .i64 k∧(us.take k).all (fun u=>(gAt ZT u).isSome)=true∧Below w1.heap.size w1 wr)
   (fun i _=>us.length-(intOf i).toNat)
  case atStart=>exact ⟨0,Nat.zero_le _,rfl,rfl,Below.refl _ _⟩
  case round=>
   obtain ⟨k,hk',rfl,hall,hb⟩:=hrel
   by_cases hlt:k<us.length
   ·obtain ⟨u,hcc⟩:∃u,us[k]? =some u:=⟨us[k],List.getElem?_eq_getElem hlt⟩
    have n0:=(hc1.below hb).at' k u hcc
    unfold bStr at n0
    have e0:=(hb.cell hbs1).trans d0
    have e1:∀o,(wr.alloc o).cell? ⟨sb,0,none⟩=some (.map (some tb)):=fun o=>Lib.cell?_alloc_some _ e0
    have hmr:=hm0.below hb
    obtain ⟨s1,a1,m1,c1',k1,hsh1⟩:=HT.out u
    have hus:(ByteArray.mk u.toArray).size≤maxLen:=by
     have:=hn u (List.mem_of_getElem? hcc)
     show u.toArray.size<=maxLen
     simp[maxLen];omega
    have hku:keyOf Try.prog 9 (.string ⟨u.toArray⟩)=some (.string (ByteArray.mk u.toArray).data.toList):=keyOf_string_mk Try.underlying9 hus
    have hsh2:mzV ZT (ByteArray.mk u.toArray).data.toList (.agg #[.string ⟨#[]⟩, .slice none 0 0, .int .i64 0])= .agg #[.string s1, .slice a1 m1 c1', .int .i64 k1]:=hsh1
    have ht':us.take (k+1)=us.take k++ [u]:=by
     rw[List.take_add_one,hcc];rfl
    obtain ⟨q,hq⟩:∃q,(gAt ZT u).isSome=q:=⟨_,rfl⟩
    have hq2:(gAt ZT (ByteArray.mk u.toArray).data.toList).isSome=q:=hq
    go_wp2_with (first
     |(at_lookup;refine yb5 _ rfl _ _ 65 rfl 9 47 keyS Try.underlying65 (yj1 _) tb nt ZT rfl (by first|exact hmr|exact hmr.alloc _) _ rfl hku _ _ hsh2 hq2 ?_)
     |go_in)
    ·have hqf:q=false:=by have z:(!q)=true:=(by assumption);simpa using z
     have e6:ydF ZT ZV name.data.toList us=6:=by
      rw[eE.out,if_neg]
      intro h
      have:=List.all_eq_true.1 h u (List.mem_of_getElem? hcc)
      rw[hq,hqf] at this
      cases this
     go_ret
     rw[e6]
     exact ⟨rfl, .inl ⟨by decide,(hb1.trans (hb.mono hb1.size)).alloc (Nat.le_trans hb1.size hb.size) _⟩⟩
    ·have hqt:q=true:=by have z:(!q)=false:=(by assumption);simpa using z
     refine ⟨⟨k+1,by omega,by push_cast;rfl,?_,hb.alloc hb.size _⟩,by simp[intOf];omega⟩
     rw[ht',List.all_append,hall]
     simp[hq,hqt]
   ·have:k=us.length:=by omega
    subst this
    rw[List.take_length] at hall
    have hcr:=hc1.below hb
    have hmr:=hm1.below hb
    have e1:=(hb.cell hbs1).trans d1
    have hbr:sb<wr.heap.size:=Nat.lt_of_lt_of_le hbs1 hb.size
    go_wp2
    clear hm0 hm1 hc1 ht hv c0 c1 htk
    go_region_held3 (fun w'=>w'.cell? ⟨sb,1,none⟩=some (.map (some vb))) (first|exact e1|exact e4|exact e5|go_keep)
     ((go_at_call 23;refine (ymB _ us _ (yd7.drew (.inr ⟨b,off,cap,rfl,hcr⟩)) hl).mono ?_;rintro e w4 ⟨sv,rfl,hrow,hb4⟩;have hm4:=hmr.drew.below hb4;have e4:=(hb4.cell hbr).trans e1;obtain ⟨w5,hrun5,hown5,hturn5⟩:=hm4.store keyS Try.underlying66 hlen hk (val:=sv) (d:= .held sv) (ps:= []) rfl;have e5:=yjn hturn5 hne e4))
    have er:ydF ZT ZV name.data.toList us=0:=by rw[eE.out,if_pos hall]
    have hput:(mzD ZV).put (.string name.data.toList) (.held sv)=mzD (gPut ZV name.data.toList (us,sv)):=
     yon (f:=fun z:List (List UInt8)×Value=>DataW.held z.2) (a:=(us,sv))
    rw[hput] at hown5
    have hb4':Below w.heap.size w w4:=((hb1.trans (hb.mono hb1.size)).drew).trans (hb4.mono (Nat.le_trans hb1.size hb.size))
    go_wp2
    go_ret
    rw[er]
    exact ⟨rfl, .inr ⟨rfl,w4,_,hb4',ydP hrow (Nat.le_trans hb1.size hb.size),hturn5,hown5⟩⟩
end Go.Proofs.Ytpplhhknlmcgbaa
end
noncomputable section
namespace Go.Proofs.Ytpplhhknlmcgbaa
open Go.RowKit Go.Maps Go.WideMaps Go.RG Go.AV
attribute [local go_sem ↓] Go.wp_at_zero Go.wp_at_succ
set_option maxHeartbeats 2000000 in
set_option maxRecDepth 100000 in
theorem yr6 {α:Type} (sb tb vb nt:Nat) (ZT:MZ α) (ZV:MZ (List (List UInt8))) (name:ByteArray) (sa:Option Addr) (cap:Nat) (w:World) (c0:w.cell? ⟨sb,0,none⟩=some (.map (some tb))) (c1:w.cell? ⟨sb,1,none⟩=some (.map (some vb))) (ht:w.ownsMap Try.prog 9 ycu tb nt (mzD ZT)) (hv:w.ownsMap Try.prog 9 ycu vb ZV.length (mzD ZV)) (hsz:name.size≤maxLen)
  (hT:ynI ZT) (hVw:VwSh ZV) (hlen:ZV.length<maxLen) (hne:sb≠vb):
  Calls Try.prog 9 #[.pointer (some ⟨sb,0,none⟩), .string name, .slice sa 0 cap] w fun e w'=>e= .returned (.int .i64 (ydF ZT ZV name.data.toList []))∧((¬ydF ZT ZV name.data.toList []=0∧Below w.heap.size w w')∨
   (ydF ZT ZV name.data.toList []=0/\∃w1 sv,Below w.heap.size w w1/\w1.ownsRow w.heap.size 9 1 sv 0 []/\w1.mapTurned w' vb/\w'.ownsMap Try.prog 9 ycu vb (ZV.length+1) (mzD (gPut ZV name.data.toList ([],sv))))):=by
 have hk:=keyOf_string_mk Try.underlying9 hsz
 obtain ⟨s0,a,m,c,k0,hsh⟩:=hT name.data.toList
 obtain ⟨a',m',c',hsv⟩:=hVw name.data.toList
 have htk:=yjw sb tb vb nt ZV.length ZT ZV name w c0 c1 ht hv hsz s0 a m c k0 hsh a' m' c' hsv
 have hbs:sb<w.heap.size:=World.block_lt_of_cell? w _ c0
 have HT:Hid (ynI ZT):=hT
 clear hT hVw hsh hsv
 go_enter Try.func9,Try.ntmps9
 go_wp2_with (first
  |(go_at_call 22;refine htk.mono ?_;rintro e w1 ⟨rfl,hb1⟩;have d0:=(hb1.cell hbs).trans c0;have d1:=(hb1.cell hbs).trans c1;have hm0:=ht.below hb1;have hm1:=hv.below hb1)
  |(at_len;refine wpList_len_own _ rfl _ 66 rfl 9 31 Try.underlying66 _ vb ZV.length _ rfl hm1 ?_)
  |go_in)
 ·have q:(gAt ZT name.data.toList).isSome=true∨(gAt ZV name.data.toList).isSome=true:=by assumption
  have e7:ydF ZT ZV name.data.toList []=7:=by unfold ydF;rw[if_pos (by simpa using q)]
  go_ret
  rw[e7]
  exact ⟨rfl, .inl ⟨by decide,hb1⟩⟩
 ·have q1:(gAt ZT name.data.toList).isSome=false∧(gAt ZV name.data.toList).isSome=false:=by assumption
  have q2:8<=((Maps.size (mzD ZV):Nat):Int):=by assumption
  have e14:ydF ZT ZV name.data.toList []=14:=by
   unfold mzD at q2
   rw[ydH] at q2
   unfold ydF;rw[if_neg (by simp[q1.1,q1.2]),if_pos (by omega)]
  go_ret
  rw[e14]
  exact ⟨rfl, .inl ⟨by decide,hb1⟩⟩
 ·have q1:(gAt ZT name.data.toList).isSome=false∧(gAt ZV name.data.toList).isSome=false:=by assumption
  have q2:((Maps.size (mzD ZV):Nat):Int)<8:=by assumption
  have eE:Hid (ydF ZT ZV name.data.toList []=if ([]:List (List UInt8)).all (fun u=>(gAt ZT u).isSome)=true then 0 else 6):=by
   unfold mzD at q2
   rw[ydH] at q2
   show ydF ZT ZV name.data.toList []=_;unfold ydF;rw[if_neg (by simp[q1.1,q1.2]),if_neg (by omega)]
  have hbs1:sb<w1.heap.size:=Nat.lt_of_lt_of_le hbs hb1.size
  refine wp_loop_rounds 1 ?_
  rw[rounds_succ]
  have hmr:=hm1
  have e1:=d1
  go_wp2
  clear hm0 hm1 ht hv c0 c1 htk
  go_region_held3 (fun w'=>w'.cell? ⟨sb,1,none⟩=some (.map (some vb))) (first|exact e1|exact e4|exact e5|go_keep)
   ((go_at_call 23;refine (ymB _ [] _ (.inl ⟨rfl,_,_,rfl⟩) (Nat.zero_le _)).mono ?_;rintro e w4 ⟨sv,rfl,hrow,hb4⟩;have hm4:=hmr.drew.below hb4;have e4:=(hb4.cell hbs1).trans e1;obtain ⟨w5,hrun5,hown5,hturn5⟩:=hm4.store keyS Try.underlying66 hlen hk (val:=sv) (d:= .held sv) (ps:= []) rfl;have e5:=yjn hturn5 hne e4))
  have er:ydF ZT ZV name.data.toList []=0:=by rw[eE.out];rfl
  have hput:(mzD ZV).put (.string name.data.toList) (.held sv)=mzD (gPut ZV name.data.toList ([],sv)):=
   yon (f:=fun z:List (List UInt8)×Value=>DataW.held z.2) (a:=([],sv))
  rw[hput] at hown5
  have hb4':Below w.heap.size w w4:=hb1.drew.trans (hb4.mono hb1.size)
  go_wp2
  go_ret
  rw[er]
  exact ⟨rfl, .inr ⟨rfl,w4,_,hb4',ydP hrow hb1.size,hturn5,hown5⟩⟩
set_option maxRecDepth 100000 in
theorem yqT {α:Type} (sb vb nv:Nat) (ZV:MZ α) (name:ByteArray) (w:World) (c1:w.cell? ⟨sb,1,none⟩=some (.map (some vb))) (hv:w.ownsMap Try.prog 9 ycu vb nv (mzD ZV)) (hsz:name.size≤maxLen) (hVw:VwSh ZV) (hne:sb≠vb):
  Calls Try.prog 11 #[.pointer (some ⟨sb,0,none⟩), .string name] w fun e w'=>((gAt ZV name.data.toList).isSome=false∧e= .returned (.int .i64 6)∧Below w.heap.size w w')∨
   ((gAt ZV name.data.toList).isSome=true/\e= .returned (.int .i64 0)/\∃w1,Below w.heap.size w w1/\w1.mapTurned w' vb/\w'.ownsMap Try.prog 9 ycu vb nv (mzD (gDel ZV name.data.toList))):=by
 have hk:=keyOf_string_mk Try.underlying9 hsz
 obtain ⟨a',m',c',hsv⟩:=hVw name.data.toList
 obtain ⟨q,hq⟩:∃q,(gAt ZV name.data.toList).isSome=q:=⟨_,rfl⟩
 have HQ:Hid ((gAt ZV name.data.toList).isSome=q):=hq
 have HD:Hid ((mzD ZV).del (.string name.data.toList)=mzD (gDel ZV name.data.toList)):=yrw
 rw[hq]
 clear hVw
 go_enter Try.func11,Try.ntmps11
 go_wp2_with (first
  |(at_lookup;refine yb5 _ rfl _ _ 66 rfl 9 31 keyS Try.underlying66 (yoE _) vb nv ZV rfl (by first|exact hv|exact hv.alloc _) name rfl hk _ _ hsv hq ?_)
  |(at_delete;refine wpList_delete_own _ rfl _ _ 66 9 rfl 31 keyS Try.underlying66 _ vb nv _ rfl hv _ _ rfl hk ?_;intro w2 hown2 hturn2)
  |go_in)
 ·have z:(!q)=true:=by assumption
  go_ret
  exact .inl ⟨by simpa using z,rfl,Below.refl _ _⟩
 ·have z:(!q)=false:=by assumption
  go_ret
  exact .inr ⟨by simpa using z,rfl,w,Below.refl _ _,hturn2,HD.out▸hown2⟩
end Go.Proofs.Ytpplhhknlmcgbaa
end
noncomputable section
namespace Go.Proofs.Ytpplhhknlmcgbaa
open Go.RowKit Go.Maps Go.WideMaps Go.RG Go.AV Go.Sort Go.Shelf
def yb9 (ZV:MZ (List (List UInt8))) (t:List UInt8) (left:Lit->Bool):List (List UInt8):=(ZV.filter fun z=>decide (t∈z.2.1)&& !left (.string z.1)).map (·.1)
theorem yqA (v:Value) (y:DataW Value×List MemPlace) (_:ycu v=some y):∃c,v=id c:=⟨v,rfl⟩
theorem yps {k:TypeId} (hk:Try.prog.underlying k=some .string) (key:Value) (kl:Lit) (h:keyOf Try.prog k key=some kl):∃x,key=Value.string x:=by
 cases key<;>simp[keyOf,hk,mapKey] at h
 exact ⟨_,rfl⟩
theorem ymw (t x:List UInt8) (u:List (List UInt8)) (v:Value) (left:Lit→Bool) (hl:left (.string x)=true):∀(Z:MZ (List (List UInt8))),(Z.map (·.1)).Nodup→(x,u,v)∈Z→
  (yb9 Z t fun z=>left z&& !z.sameKey (.string x)).Perm (if t∈u then x::yb9 Z t left else yb9 Z t left)
 | [],_,h=>by cases h
 | z ::Z,hn,h=>by
   rw[List.map_cons,List.nodup_cons] at hn
   obtain ⟨hn1,hn2⟩:=hn
   have hcons:∀l':Lit→Bool,yb9 (z::Z) t l'=if (decide (t∈z.2.1)&& !l' (.string z.1))=true then z.1::yb9 Z t l' else yb9 Z t l':=fun l'=>by
    unfold yb9
    rw[List.filter_cons]
    split<;>rfl
   by_cases hz:z.1=x
   ·have hnot:∀y∈Z,y.1≠x:=fun y hy e=>hn1 (by rw[hz,← e];exact List.mem_map_of_mem (f:=fun y:List UInt8×List (List UInt8)×Value=>y.1) hy)
    have hz2:z=(x,u,v):=by
     rcases List.mem_cons.1 h with e|e
     ·exact e.symm
     ·exact absurd rfl (hnot _ e)
    have hrest:(yb9 Z t fun z=>left z&& !z.sameKey (.string x))=yb9 Z t left:=by
     unfold yb9
     congr 1
     refine List.filter_congr fun y hy=> ?_
     have:(Lit.string y.1).sameKey (.string x)=false:=by simp[Lit.sameKey,hnot y hy]
     simp[this]
    rw[hcons,hcons,hrest,hz2]
    have hs:(Lit.string x).sameKey (.string x)=true:=by simp[Lit.sameKey]
    simp only[hs,hl,Bool.not_true,Bool.and_false,Bool.not_false,Bool.and_true,decide_eq_true_eq,Bool.false_eq_true,if_false]
    exact .refl _
   ·have hm:(x,u,v)∈Z:=by
     rcases List.mem_cons.1 h with e|e
     ·exact absurd (by rw[<-e]) hz
     ·exact e
    have ih:=ymw t x u v left hl Z hn2 hm
    have hs:(Lit.string z.1).sameKey (.string x)=false:=by simp[Lit.sameKey,hz]
    rw[hcons,hcons]
    simp only[hs,Bool.not_false,Bool.and_true]
    split
    ·split
     ·rename_i hu;rw[if_pos hu] at ih;exact (List.Perm.cons _ ih).trans (.swap _ _ _)
     ·rename_i hu;rw[if_neg hu] at ih;exact List.Perm.cons _ ih
    ·exact ih
theorem ysL (Z:MZ (List (List UInt8))) (t:List UInt8) (left:Lit→Bool):(yb9 Z t left).length≤Z.length:=by
 unfold yb9
 rw[List.length_map]
 exact List.length_filter_le _ _
theorem ys0 (v:Value) (ks:List (List UInt8)) (wr:World) (base:Nat) (h:wr.ownsRow base 9 1 v ks.length (ks.map encStr)) (hl:ks.length≤1000000) (hbs:base≤wr.heap.size):
  Calls Try.prog 36 #[v] wr fun e w'=>e= .returned (.tuple #[])/\w'.ownsRow base 9 1 v ks.length ((ks.mergeSort fun x y=>decide (x<=y)).map encStr)/\Below base wr w':=by
 have hl2:(ks.mergeSort fun x y=>decide (x<=y)).length=ks.length:=List.length_mergeSort ks
 rcases h.2 with ⟨rfl,hk0⟩|⟨g,cap,cur,rfl,hbase,hb,h1,h2,h3,h4⟩
 ·obtain rfl:ks= []:=List.eq_nil_of_length_eq_zero hk0
  refine (AnyM.slices_Sort_string_none Try.sort36 none 0 wr).mono ?_
  rintro e w' ⟨rfl,rfl⟩
  exact ⟨rfl,by simpa using h,Below.refl _ _⟩
 ·have hH:Holds encStr wr g 0 ks.toArray:=holds_of_block hb (by simpa using h4)
  refine (AnyM.slices_Sort_string Try.sort36 g 0 cap ks wr hH (Array.getElem?_eq_some_iff.1 hb).1 (by omega)).mono ?_
  rintro e w' ⟨rfl,nn,os,rfl⟩
  have hro:=ownsRow_sorted (n:=nn) (os:=os) (ts:=ks.mergeSort fun x y=>decide (x<=y)) hl2 hbase hb h1 h2 h3
  exact ⟨rfl,hro,(Below.refl base wr).grown (grownBy_sorted _) hbs (fun j hj=>by cases hj;exact hbase)⟩
set_option maxHeartbeats 4000000 in
set_option maxRecDepth 100000 in
theorem ymE (sb vb nv:Nat) (ZV:MZ (List (List UInt8))) (t:ByteArray) (w:World) (c1:w.cell? ⟨sb,1,none⟩=some (.map (some vb))) (hv:w.ownsMap Try.prog 9 ycu vb nv (mzD ZV)) (hel:∀z∈ZV,cvwV w z.1 z.2.1 z.2.2) (hlen:ZV.length≤8) (hvn:∀z∈ZV,z.2.1.length≤1000000) (hnd:(ZV.map (·.1)).Nodup):
  Calls Try.prog 19 #[.pointer (some ⟨sb,0,none⟩), .string t] w fun e w'=>∃(v:Value) (ks:List (List UInt8)),e= .returned v/\ks.Perm (yb9 ZV t.data.toList fun _=>false)/\w'.ownsRow w.heap.size 9 1 v ks.length ((ks.mergeSort fun x y=>decide (x<=y)).map encStr)/\Below w.heap.size w w':=by
 obtain ⟨i0,hi,hz0,hz1,hz2⟩:=info_parts yv7
 go_enter Try.func19,Try.ntmps19
 go_wp2_with (first
  |(at_range;refine wpList_range_own _ rfl _ 66 rfl 9 31 keyS Try.underlying66 _ vb nv _ rfl hv ?_;intro w0 hrg0 hg0 hs0)
  |go_in)
 go_frame
 go_loopw [5] (fun v wr=>∃(left:Lit→Bool) (cnt:Nat) (ks:List (List UInt8)),wr.ranges Try.prog 9 ycu vb w.heap.size nv (mzD ZV) left cnt∧
   wr.ownsRow (w.heap.size+1) 9 1 v ks.length (ks.map encStr)/\Hid (ks.Perm (yb9 ZV t.data.toList left))/\w.heap.size+1<=wr.heap.size/\Below w.heap.size w wr)
  (fun _ wr=>wr.rangeLeft vb w.heap.size)
 case atStart=>
  refine ⟨_,_,[],hrg0,World.ownsRow_nil _ _ _ _,?_,by omega,(Below.refl _ w).grown hg0 (Nat.le_refl _) (fun j hj=>by cases hj)⟩
  show List.Perm [] _
  have:yb9 ZV t.data.toList (Maps.has (mzD ZV))= []:=by
   unfold yb9
   rw[List.map_eq_nil_iff,List.filter_eq_nil_iff]
   intro z hz
   have:Maps.has (mzD ZV) (.string z.1)=true:=by
    unfold mzD
    rw[ytC]
    cases hq:gAt ZV z.1 with
    |none=>exact absurd rfl (yiY hq z hz)
    |some a=>rfl
   simp[this]
  rw[this]
 case round=>
  obtain ⟨left,cnt,ks,hrg,hrow,HP,hnx,hb⟩:=hrel
  have hkl:ks.length<=8:=Nat.le_trans (by rw[HP.out.length_eq];exact ysL _ _ _) hlen
  go_wp2_with (first
   |(at_next;refine wpList_next_ranges _ rfl _ rfl 9 keyS ycu Value.string id (yps Try.underlying9) yqA vb w.heap.size nv _ _ _ rfl hrg ?_ ?_)
   |go_in)
  ·intro hc0 hl0
   have el:left=fun _=>false:=funext hl0
   subst el
   go_wp2_with (first
    |(go_at_call 36;refine (ys0 _ ks wr (w.heap.size+1) hrow (by omega) hnx).mono ?_;rintro e w' ⟨rfl,hro,hb2⟩)
    |go_in)
   go_ret
   exact ⟨_,ks,rfl,HP.out,ydP hro (Nat.le_succ _),hb.trans (hb2.mono (Nat.le_succ _))⟩
  ·intro x c kl y1 y2 w1 cnt1 hkx hlx hR hat hrg1 hlt hg1 hs1 hen
   have hkx2:kl= .string x.data.toList:=by
    have h:=hkx
    simp[keyOf,Try.underlying9,mapKey] at h
    exact h.2.symm
   subst hkx2
   have hz:∃u,gAt ZV x.data.toList=some (u,c):=by
    cases hq:gAt ZV x.data.toList with
    | none=>
      have h1:=hat (.held c)
      have h2:=hat .nil
      unfold mzD at h1 h2
      rw[yqV,hq] at h1 h2
      rw[<-h1] at h2;cases h2
    | some a=>
      have h1:=hat (.held c)
      unfold mzD at h1
      rw[yqV,hq] at h1
      simp[ycu] at hR
      rw[<-hR.1] at h1
      obtain ⟨u,v⟩:=a
      simp at h1
      exact ⟨u,by rw[h1]⟩
   obtain ⟨u,hu⟩:=hz
   have hm:=yi1 hu
   have hbw:Below w.heap.size w w1:=hb.grown hg1 hb.size (fun j hj=>by cases hj;exact Nat.le_refl _)
   have hin:yd7 w1 c u:=(ytj (hel _ hm)).below hbw
   have hul:=hvn _ hm
   have hrow1:w1.ownsRow (w.heap.size+1) 9 1 u5 ks.length (ks.map encStr):=hrow.kept hg1 (by
    cases hob:u5.ownBlock with
    |none=>exact .inl rfl
    |some g=>exact .inr (fun e=>by cases e;have:=(hrow.lt _ hob).1;omega))
   have hst:=ymw t.data.toList x.data.toList u c left hlx ZV hnd hm
   have HS:Hid ((yb9 ZV t.data.toList fun z=>left z&& !z.sameKey (.string x.data.toList)).Perm (if t.data.toList∈u then x.data.toList::yb9 ZV t.data.toList left else yb9 ZV t.data.toList left)):=hst
   have hm0:wr.rangeLeft vb w.heap.size=cnt:=hrg.left_eq
   obtain ⟨q,hq⟩:∃q,decide (t.data.toList∈u)=q:=⟨_,rfl⟩
   have HI:Hid (yd7 w1 c u):=hin
   have HQ:Hid (decide (t.data.toList∈u)=q):=hq
   have hcall:=yu9 c u t w1 hin hul
   rw[hq] at hcall
   have hvb:=hv.lt
   have HR:Hid (∀g,u5.ownBlock=some g->w.heap.size+1<=g):=fun g h=>(hrow1.lt g h).1
   have HN:w.heap.size+1<=w1.heap.size:=by omega
   have H1:Hid (w1.heap.size=wr.heap.size):=hs1
   clear hs1
   clear hst hR hat hel hvn hrow hrg hin hu hm hq hv hlen hnd
   go_wp2_with (first
    |(go_at_call 35;refine hcall.mono ?_;rintro e w2 ⟨rfl,rfl⟩)
    |(at_builtin;refine wpList_append_own _ rfl _ _ 31 rfl (w.heap.size+1) 9 i0 (.string ⟨#[]⟩) 1 16 Try.underlying31 hi hz0 hz1 hz2 rfl (by decide) _ _ _ rfl (hrow1.alloc _) ⟨w2.heap.size,0,none⟩ 1 1 [.string x] rfl rfl (cell_one_new _ _ _) (fun u hu=>by rw[List.mem_singleton.1 hu];rfl) (by unfold maxLen;omega) (by omega) (by simp;omega) ?_;intro v' w3 hown' hgrow2 hnil2)
    |go_in)
   ·have hqt:q=true:=by assumption
    have hp:=HS.out
    rw[if_pos (by have:=HQ.out;rw[hqt] at this;simpa using this)] at hp
    have n1:some vb≠u5.ownBlock:=fun e=>by have:=HR.out vb e.symm;omega
    have n2:some w.heap.size≠u5.ownBlock:=fun e=>by have:=HR.out _ e.symm;omega
    have hrg3:=(hrg1.alloc (.cells #[.string x] 9)).kept hgrow2 n1 n2
    refine ⟨⟨_,cnt1,ks++ [x.data.toList],hrg3,?_,(List.perm_append_comm.trans ((List.Perm.cons _ HP.out).trans hp.symm)),?_,?_⟩,by rw[hrg3.left_eq,hm0];exact hlt⟩
    ·rw[List.length_append,List.map_append]
     have:=ylc x
     rw[this] at hown'
     exact hown'
    ·have:=hgrow2.size
     rw[ycT] at this
     omega
    ·exact (hbw.alloc hbw.size _).grown hgrow2 (by rw[ycT];omega) (fun j hj=>Nat.le_of_succ_le (HR.out j hj))
   ·have hqf:q=false:=by assumption
    have hp:=HS.out
    rw[if_neg (by have:=HQ.out;rw[hqf] at this;simpa using this)] at hp
    exact ⟨⟨_,cnt1,ks,hrg1,hrow1,HP.out.trans hp.symm,HN,hbw⟩,by rw[hrg1.left_eq,hm0];exact hlt⟩
end Go.Proofs.Ytpplhhknlmcgbaa
end
noncomputable section
namespace Go.Proofs.Ytpplhhknlmcgbaa
open Go.RowKit Go.Maps Go.WideMaps Go.RG Go.AV Go.Sort Go.Shelf
theorem ywl (w:World):Calls Try.prog 6 #[] w fun e w'=>e= .returned (.pointer (some ⟨w.heap.size+2,0,none⟩))∧w'=((w.alloc (.map #[] 0)).alloc (.map #[] 0)).alloc (.cells #[.map (some w.heap.size), .map (some (w.heap.size+1))] 68 (0,0)):=by
 have hmm:= @run_makeMap Try.prog
 go_enter Try.func6,Try.ntmps6
 go_wp2
 go_ret
 exact ⟨rfl,rfl⟩
def ylA {α:Type} (ZT:MZ α) (ZV:MZ (List (List UInt8))) (n:List UInt8):Int:=
 if (gAt ZT n).isSome=false then 6 else if 0<(yb9 ZV n fun _=>false).length then 15 else 0
set_option maxHeartbeats 2000000 in
set_option maxRecDepth 100000 in
theorem ysn {α:Type} (sb tb vb nt nv:Nat) (ZT:MZ α) (ZV:MZ (List (List UInt8))) (name:ByteArray) (w:World) (c0:w.cell? ⟨sb,0,none⟩=some (.map (some tb))) (c1:w.cell? ⟨sb,1,none⟩=some (.map (some vb))) (ht:w.ownsMap Try.prog 9 ycu tb nt (mzD ZT)) (hv:w.ownsMap Try.prog 9 ycu vb nv (mzD ZV)) (hsz:name.size≤maxLen) (hT:ynI ZT)
  (hel:∀z∈ZV,cvwV w z.1 z.2.1 z.2.2) (hlen:ZV.length<=8) (hvn:∀z∈ZV,z.2.1.length<=1000000) (hnd:(ZV.map (·.1)).Nodup) (hwo:∀z∈ZV,∀x∈yct z.2.2,x<w.heap.size) (hne:sb≠tb):
  Calls Try.prog 7 #[.pointer (some ⟨sb,0,none⟩), .string name] w fun e w'=>e= .returned (.int .i64 (ylA ZT ZV name.data.toList))∧((¬ylA ZT ZV name.data.toList=0∧Below w.heap.size w w')∨
   (ylA ZT ZV name.data.toList=0/\∃w1,Below w.heap.size w w1/\w1.mapTurned w' tb/\w'.ownsMap Try.prog 9 ycu tb nt (mzD (gDel ZT name.data.toList)))):=by
 have hk:=keyOf_string_mk Try.underlying9 hsz
 obtain ⟨s0,a,m,c,k0,hsh⟩:=hT name.data.toList
 have hbs:sb<w.heap.size:=World.block_lt_of_cell? w _ c0
 have HD:Hid ((mzD ZT).del (.string name.data.toList)=mzD (gDel ZT name.data.toList)):=yrw
 have d0:∀o,(w.alloc o).cell? ⟨sb,0,none⟩=some (.map (some tb)):=fun o=>Lib.cell?_alloc_some _ c0
 obtain ⟨q,hq⟩:∃q,(gAt ZT name.data.toList).isSome=q:=⟨_,rfl⟩
 have hus:∀o,Calls Try.prog 19 #[.pointer (some ⟨sb,0,none⟩), .string name] (w.alloc o) fun e w'=>(∃(a:Option Addr) (cap:Nat),e= .returned (.slice a (yb9 ZV name.data.toList fun _=>false).length cap))∧Below w.heap.size w w':=fun o=>by
  refine (ymE sb vb nv ZV name (w.alloc o) (Lib.cell?_alloc_some _ c1) (hv.alloc o) (fun z hz=>ybe (hel z hz) fun x hx=>ygP _ _ (hwo z hz x hx)) hlen hvn hnd).mono ?_
  rintro e w' ⟨v,ks,rfl,hp,hrow,hb⟩
  refine ⟨?_,((Below.refl _ w).alloc (Nat.le_refl _) o).trans (hb.mono (by rw[ycT];omega))⟩
  rw[<-hp.length_eq]
  rcases hrow.2 with ⟨rfl,h0⟩|⟨g,cap,cur,rfl,_⟩
  ·rw[h0];exact ⟨_,_,rfl⟩
  ·exact ⟨_,_,rfl⟩
 have HU:Hid (∀o,Calls Try.prog 19 #[.pointer (some ⟨sb,0,none⟩), .string name] (w.alloc o) fun e w'=>(∃(a:Option Addr) (cap:Nat),e= .returned (.slice a (yb9 ZV name.data.toList fun _=>false).length cap))/\Below w.heap.size w w'):=hus
 have HE:Hid (ylA ZT ZV name.data.toList=if q=false then 6 else if 0<(yb9 ZV name.data.toList fun _=>false).length then 15 else 0):=by
  show ylA ZT ZV name.data.toList=_
  unfold ylA;rw[hq]
 clear hus hel hvn hnd hT hwo
 generalize ylA ZT ZV name.data.toList=DE at*
 generalize (yb9 ZV name.data.toList fun _=>false).length=UN at*
 go_enter Try.func7,Try.ntmps7
 go_wp2_with (first
  |(at_lookup;refine yb5 _ rfl _ _ 65 rfl 9 47 keyS Try.underlying65 (yj1 _) tb nt ZT rfl (by first|exact ht|exact ht.alloc _) name rfl hk _ _ hsh hq ?_)
  |(go_at_call 19;refine (HU.out _).mono ?_;rintro e w2 ⟨⟨ua,uc,rfl⟩,hb2⟩;have hm2:=yaP ht (hb2.block tb ht.lt);have d2:=(hb2.cell hbs).trans c0)
  |(at_delete;refine wpList_delete_own _ rfl _ _ 65 9 rfl 47 keyS Try.underlying65 _ tb nt _ rfl hm2 _ _ rfl hk ?_;intro w3 hown3 hturn3)
  |go_in)
 ·have z:(!q)=true:=by assumption
  have e:=HE.out
  rw[if_pos (by simpa using z)] at e
  go_ret
  exact ⟨by rw[e];rfl, .inl ⟨by omega,(Below.refl _ w).alloc (Nat.le_refl _) _⟩⟩
 ·have z:(!q)=false:=by assumption
  have z2:0<UN:=by assumption
  have e:=HE.out
  rw[if_neg (by simp at z;simp[z]),if_pos z2] at e
  go_ret
  exact ⟨by rw[e];rfl, .inl ⟨by omega,hb2⟩⟩
 ·have z:(!q)=false:=by assumption
  have z2:¬0<UN:=by assumption
  have e:=HE.out
  rw[if_neg (by simp at z;simp[z]),if_neg z2] at e
  go_ret
  exact ⟨by rw[e];rfl, .inr ⟨e,_,hb2,hturn3,HD.out▸hown3⟩⟩
end Go.Proofs.Ytpplhhknlmcgbaa
end
noncomputable section
namespace Go.Proofs.Ytpplhhknlmcgbaa
open Go.RowKit Go.Maps Go.WideMaps Go.RG Go.AV Go.Sort Go.Shelf
theorem ytP (m:Nat):AnyZ.SortsIn Try.prog Try.sorted32_ren Fence.wide m:=
 ⟨fun blk off cap ss W hH hblk hsz=>callsIn_wide.2 (AnyM.slices_Sort_string Try.sort36 blk off cap ss W hH hblk hsz),
  fun p cap W=>callsIn_wide.2 (AnyM.slices_Sort_string_none Try.sort36 p cap W)⟩
theorem yy9 (mb:Option Nat) (W:World):Calls Try.prog 33 #[.map mb] W fun e w'=>e= .returned (.func (.func 42) #[] #[.pointer (some ⟨W.heap.size,0,none⟩)])∧w'=W.alloc (.cells #[.map mb] 65):=
 (callsIn_wide (n:=5)).1 (AnyZ.keys_in Try.keys33 Fence.wide 5 trivial rfl mb W)
theorem yy2 (mb:Option Nat) (W:World):Calls Try.prog 34 #[.map mb] W fun e w'=>e= .returned (.func (.func 43) #[] #[.pointer (some ⟨W.heap.size,0,none⟩)])∧w'=W.alloc (.cells #[.map mb] 66):=
 (callsIn_wide (n:=5)).1 (AnyZ.keys_in Try.keys34 Fence.wide 5 trivial rfl mb W)
set_option maxHeartbeats 1000000 in
theorem yve {H:Type} (p b nn:Nat) (D0:DataW H) (R:Value→Option (DataW H×List MemPlace)) (W:World) (hp:W.heap[p]? =some (.cells #[.map (some b)] 65 (0,0))) (hown:W.ownsMap Try.prog 9 R b nn D0) (hmax:Maps.size D0≤maxLen) (hbytes:Maps.size D0*16≤140737488355328):
  Calls Try.prog 32 #[.func (.func 42) #[] #[.pointer (some ⟨p,0,none⟩)]] W fun e w'=>∃(v:Value) (ss:List (List UInt8)),e= .returned v∧ss.Perm (strKeys D0)∧
   w'.ownsRow W.heap.size 9 1 v ss.length ((ss.mergeSort (fun x y=>decide (x<=y))).map encStr)/\(v= .slice none 0 0↔ss= [])/\Below W.heap.size W w':=by
 have hpl:p<W.heap.size:=(Array.getElem?_eq_some_iff.1 hp).1
 have hseq:SeqGives Fence.wide 2 Try.prog 42 #[.pointer (some ⟨p,0,none⟩)] encStr (fun ss=>ss.Perm (strKeys D0)) (Maps.size D0) W:=
  AnyZ.keys_gives (ρ:=Try.keys33_ren) {Try.keys33 with} Fence.wide _ trivial rfl (by omega) p b nn D0 _ (by first|exact hpl|simpa using hp|simp[World.cell?,hp]) (by first|exact hpl|simpa using hp|simp[World.cell?,hp]) hown
 exact (callsIn_wide (n:=5)).1 (AnyZ.sorted_in Try.sorted32 Fence.wide 5 trivial trivial trivial trivial rfl (by omega) (ytP _) (Go.Proofs.enters_of Try.func36 (by kernel_rfl) rfl) 42 #[.pointer (some ⟨p,0,none⟩)] trivial (Go.Proofs.enters_of Try.func42 (by kernel_rfl) rfl) _ _ hmax hbytes _ hseq)
set_option maxHeartbeats 1000000 in
theorem yuX {H:Type} (p b nn:Nat) (D0:DataW H) (R:Value→Option (DataW H×List MemPlace)) (W:World) (hp:W.heap[p]? =some (.cells #[.map (some b)] 66 (0,0))) (hown:W.ownsMap Try.prog 9 R b nn D0) (hmax:Maps.size D0≤maxLen) (hbytes:Maps.size D0*16≤140737488355328):
  Calls Try.prog 32 #[.func (.func 43) #[] #[.pointer (some ⟨p,0,none⟩)]] W fun e w'=>∃(v:Value) (ss:List (List UInt8)),e= .returned v∧ss.Perm (strKeys D0)∧
   w'.ownsRow W.heap.size 9 1 v ss.length ((ss.mergeSort (fun x y=>decide (x<=y))).map encStr)/\(v= .slice none 0 0↔ss= [])/\Below W.heap.size W w':=by
 have hpl:p<W.heap.size:=(Array.getElem?_eq_some_iff.1 hp).1
 have hseq:SeqGives Fence.wide 2 Try.prog 43 #[.pointer (some ⟨p,0,none⟩)] encStr (fun ss=>ss.Perm (strKeys D0)) (Maps.size D0) W:=
  AnyZ.keys_gives (ρ:=Try.keys34_ren) {Try.keys34 with} Fence.wide _ trivial rfl (by omega) p b nn D0 _ (by first|exact hpl|simpa using hp|simp[World.cell?,hp]) (by first|exact hpl|simpa using hp|simp[World.cell?,hp]) hown
 exact (callsIn_wide (n:=5)).1 (AnyZ.sorted_in Try.sorted32 Fence.wide 5 trivial trivial trivial trivial rfl (by omega) (ytP _) (Go.Proofs.enters_of Try.func36 (by kernel_rfl) rfl) 43 #[.pointer (some ⟨p,0,none⟩)] trivial (Go.Proofs.enters_of Try.func43 (by kernel_rfl) rfl) _ _ hmax hbytes _ hseq)
theorem yw2 (mb:Option Nat) (W:World):Calls Try.prog 33 #[.map mb] W fun e w'=>∃p,e= .returned (.func (.func 42) #[] #[.pointer (some ⟨p,0,none⟩)])∧w'.heap[p]? =some (.cells #[.map mb] 65 (0,0))∧Below W.heap.size W w':=by
 refine (yy9 mb W).mono ?_
 rintro e w' ⟨rfl,rfl⟩
 exact ⟨_,rfl,yfj _ _,(Below.refl _ W).alloc (Nat.le_refl _) _⟩
theorem yyd (mb:Option Nat) (W:World):Calls Try.prog 34 #[.map mb] W fun e w'=>∃p,e= .returned (.func (.func 43) #[] #[.pointer (some ⟨p,0,none⟩)])∧w'.heap[p]? =some (.cells #[.map mb] 66 (0,0))∧Below W.heap.size W w':=by
 refine (yy2 mb W).mono ?_
 rintro e w' ⟨rfl,rfl⟩
 exact ⟨_,rfl,yfj _ _,(Below.refl _ W).alloc (Nat.le_refl _) _⟩
theorem yer {w W w':World} (h0:Below w.heap.size w W) (hb:Below W.heap.size W w'):Below w.heap.size w w':=h0.trans (hb.mono h0.size)
attribute [local go_sem ↓] Go.wp_at_zero Go.wp_at_succ
set_option maxHeartbeats 4000000 in
set_option maxRecDepth 100000 in
theorem ypZ {H1 H2:Type} (sb tb vb nt nv:Nat) (DT:DataW H1) (DV:DataW H2) (RT:Value→Option (DataW H1×List MemPlace)) (RV:Value→Option (DataW H2×List MemPlace)) (w:World) (c0:w.cell? ⟨sb,0,none⟩=some (.map (some tb))) (c1:w.cell? ⟨sb,1,none⟩=some (.map (some vb)))
  (ht:w.ownsMap Try.prog 9 RT tb nt DT) (hv:w.ownsMap Try.prog 9 RV vb nv DV) (h1:Maps.size DT<=1000000) (h2:Maps.size DV<=1000000):
  Calls Try.prog 18 #[.pointer (some ⟨sb,0,none⟩)] w fun e w'=>∃(v1 v2:Value) (s1 s2:List (List UInt8)),e= .returned (.tuple #[v1,v2])∧s1.Perm (strKeys DT)∧s2.Perm (strKeys DV)∧
   w'.ownsRow w.heap.size 9 1 v1 s1.length ((s1.mergeSort (fun x y=>decide (x<=y))).map encStr)/\w'.ownsRow w.heap.size 9 1 v2 s2.length ((s2.mergeSort (fun x y=>decide (x<=y))).map encStr)/\Below w.heap.size w w':=by
 have hbs:sb<w.heap.size:=World.block_lt_of_cell? w _ c0
 have hm1:Maps.size DT<=maxLen:=by unfold maxLen;omega
 have hm2:Maps.size DV<=maxLen:=by unfold maxLen;omega
 have hb0:Below w.heap.size w w:=Below.refl _ _
 go_enter Try.func18,Try.ntmps18
 go_wp2
 go_region_held3 (fun w'=>w'.cell? ⟨sb,0,none⟩=some (.map (some tb))∧w'.cell? ⟨sb,1,none⟩=some (.map (some vb)))
  (first|go_keep|(refine ⟨?_,?_⟩;exact (hb1.cell hbs).trans c0;exact (hb1.cell hbs).trans c1)|(refine ⟨?_,?_⟩;exact (hb2.cell hbs).trans c0;exact (hb2.cell hbs).trans c1)|(refine ⟨?_,?_⟩;exact (hb3.cell hbs).trans c0;exact (hb3.cell hbs).trans c1)|(refine ⟨?_,?_⟩;exact (hb4.cell hbs).trans c0;exact (hb4.cell hbs).trans c1))
  (first
    |(go_at_call 33;refine (yw2 _ _).mono ?_;rintro e w1 ⟨p1,rfl,hp1,hx1⟩;have hb1:Below w.heap.size w w1:=by first|exact yer hb4.drew hx1|exact yer hb3.drew hx1|exact yer hb0.drew hx1|exact yer hb4 hx1|exact yer hb3 hx1|exact yer hb0 hx1)
    |(go_at_call 34;refine (yyd _ _).mono ?_;rintro e w3 ⟨p3,rfl,hp3,hx3⟩;have hb3:Below w.heap.size w w3:=by first|exact yer hb2.drew hx3|exact yer hb1.drew hx3|exact yer hb0.drew hx3|exact yer hb2 hx3|exact yer hb1 hx3|exact yer hb0 hx3)
    |(go_at_call 32;refine (yve p1 tb nt DT RT _ (by first|exact hp1|exact keepH hx3 hp1|exact keepH hx4 (keepH hx3 hp1)) (by first|exact yaP ht (hb4.block tb ht.lt)|exact yaP ht (hb3.block tb ht.lt)|exact yaP ht (hb1.block tb ht.lt)) hm1 (by omega)).mono ?_;rintro e w2 ⟨v1,s1,rfl,hP1,hr1,hn1,hx2⟩;have hb2:Below w.heap.size w w2:=by first|exact yer hb4.drew hx2|exact yer hb3.drew hx2|exact yer hb1.drew hx2|exact yer hb4 hx2|exact yer hb3 hx2|exact yer hb1 hx2)
    |(go_at_call 32;refine (yuX p3 vb nv DV RV _ (by first|exact hp3|exact keepH hx1 hp3|exact keepH hx2 (keepH hx1 hp3)) (by first|exact yaP hv (hb2.block vb hv.lt)|exact yaP hv (hb1.block vb hv.lt)|exact yaP hv (hb3.block vb hv.lt)) hm2 (by omega)).mono ?_;rintro e w4 ⟨v2,s2,rfl,hP2,hr2,hn2,hx4⟩;have hb4:Below w.heap.size w w4:=by first|exact yer hb2.drew hx4|exact yer hb1.drew hx4|exact yer hb3.drew hx4|exact yer hb2 hx4|exact yer hb1 hx4|exact yer hb3 hx4))
 go_wp2
 go_ret2
 have hsl:∀x∈yct v1,x<w2.heap.size:=fun x hx=>by
  rcases hr1.2 with ⟨q,_⟩|⟨g,cap,cur,q,_,hg,_⟩
  ·rw[q] at hx;cases hx
  ·rw[q] at hx
   simp only[yct,List.mem_singleton] at hx
   subst hx
   exact (Array.getElem?_eq_some_iff.1 hg).1
 refine ⟨v1,v2,s1,s2,rfl,hP1,hP2,ybe (ydP hr1 hb1.size) fun x hx=> ?_,ydP hr2 hb3.size,hb4⟩
 exact (hx4.block x (Nat.lt_of_lt_of_le (hsl x hx) hx3.size)).trans (hx3.block x (hsl x hx))
end Go.Proofs.Ytpplhhknlmcgbaa
end
noncomputable section
namespace Go.AV
open Go.RowKit Go.RG Go.Proofs Go.Maps Go.Sort
section
variable {H α β:Type}
theorem yoH {p:List UInt8×α}:∀ {L:GL α},GS L→(∀q∈L,q.1≠p.1)→GS (gIns p L)
 | [],_,_=>List.pairwise_singleton _ _
 | r ::L,h,hn=>by
   obtain ⟨h1,h2⟩:=List.pairwise_cons.1 h
   unfold gIns
   cases hb:Op.bytesLess p.1 r.1 with
   |true=>exact List.pairwise_cons.2 ⟨fun q hq=>by
      rcases List.mem_cons.1 hq with rfl|hq
      ·exact hb
      ·exact ye2 _ _ _ hb (h1 q hq),h⟩
   | false=>
     refine List.pairwise_cons.2 ⟨fun q hq=> ?_,yoH h2 fun q hq=>hn q (List.mem_cons_of_mem _ hq)⟩
     rcases ykQ.1 hq with rfl|hq
     ·rcases yh5 r.1 q.1 with k|k|k
      ·exact k
      ·exact absurd k (hn r List.mem_cons_self)
      ·rw[hb] at k;cases k
     ·exact h1 q hq
theorem yi6 {L:GL α} {n:List UInt8} {a:α} (h:GS L):GS (gPut L n a):=yoH (yjb h) fun q hq=>(yfH.1 hq).2
theorem ytH {L:GL α} (h:GS L):(L.map (·.1)).Nodup:=by
 rw[List.Nodup,List.pairwise_map]
 refine h.imp fun {a b} hab e=> ?_
 rw[e,yd3] at hab;cases hab
theorem yxx {L:GL α} (h:GS L) {n:List UInt8} {a:α} (hm:(n,a)∈L):gAt L n=some a:=by
 induction L with
 |nil=>cases hm
 | cons p L ih=>
   obtain ⟨h1,h2⟩:=List.pairwise_cons.1 h
   unfold gAt
   rw[List.find?_cons]
   rcases List.mem_cons.1 hm with e|hm
   ·rw[<-e];simp
   ·have:(p.1==n)=false:=by
     have:=h1 _ hm
     cases hb:p.1==n with
     |false=>rfl
     | true=>
       have e:p.1=n:=by simpa using hb
       rw[e,yd3] at this;cases this
    rw[this]
    exact ih h2 hm
theorem ysK {l ss:List (List UInt8)} (h:l.Pairwise fun a b=>Op.bytesLess a b=true) (hp:ss.Perm l):(ss.mergeSort fun x y=>decide (x≤y))=l:=by
 have tot:∀a b:List UInt8,decide (a≤b)= !Op.bytesLess b a:=fun a b=>by
  rw[bytesLess_eq]
  by_cases q:b<a
  ·simp[q]
  ·simp[q];first|exact q|exact List.not_lt.1 q
 have s1:(ss.mergeSort fun x y=>decide (x≤y)).Pairwise (fun a b=>decide (a≤b)=true):=List.pairwise_mergeSort (le:=fun x y:List UInt8=>decide (x≤y)) (fun a b c h1 h2=>by
   rw[tot] at*
   cases hq:Op.bytesLess c a with
   |false=>rfl
   | true=>
     rcases yh5 a b with k|k|k
     ·have:=ye2 _ _ _ hq k
      rw[this] at h2;cases h2
     ·subst k;rw[hq] at h2;cases h2
     ·rw[k] at h1;cases h1) (fun a b=>by
   rw[tot,tot]
   cases h1:Op.bytesLess b a with
   |false=>rfl
   | true=>
     cases h2:Op.bytesLess a b with
     |false=>rfl
     |true=>have:=ye2 _ _ _ h1 h2;rw[yd3] at this;cases this) ss
 refine (List.mergeSort_perm ss _|>.trans hp).eq_of_pairwise (le:=fun a b=>decide (a<=b)=true) ?_ s1 (h.imp fun {a b} q=> ?_)
 ·intro a b _ _ h1 h2
  rw[tot] at h1 h2
  rcases yh5 a b with k|k|k
  ·rw[k] at h2;cases h2
  ·exact k
  ·rw[k] at h1;cases h1
 ·rw[tot]
  cases h2:Op.bytesLess b a with
  |false=>rfl
  |true=>have:=ye2 _ _ _ q h2;rw[yd3] at this;cases this
end
end Go.AV
end
noncomputable section
namespace Go.AV
open Go.RowKit Go.RG Go.Proofs Go.Maps Go.Sort Go.Proofs.Ytpplhhknlmcgbaa
def kWh (T:CTb) (V:CVw):List AV:= [ctbA T,cvwA V]
theorem yuk:∀ {c d:List Cl},c.flatMap clA=d.flatMap clA→c=d
 | [],[],_=>rfl
 | [],_::_,h=>by simp[clA] at h
 |_::_,[],h=>by simp[clA] at h
 | p::c,q::d,h=>by
   simp only[List.flatMap_cons,clA,List.cons_append,List.nil_append,List.cons.injEq,AV.st.injEq,AV.it.injEq,AV.bl.injEq,true_and] at h
   obtain ⟨h1,h2,h3,h4⟩:=h
   have e:c=d:=yuk h4
   rw[e,Prod.ext h1 (Prod.ext h2 h3)]
theorem yub:∀ {c d:List (List UInt8)},(c.flatMap fun s=> [AV.st s])=(d.flatMap fun s=> [AV.st s])→c=d
 | [],[],_=>rfl
 | [],_::_,h=>by simp at h
 |_::_,[],h=>by simp at h
 | p::c,q::d,h=>by
   simp only[List.flatMap_cons,List.cons_append,List.nil_append,List.cons.injEq,AV.st.injEq] at h
   rw[yub h.2,h.1]
theorem ypU:∀ {T T':CTb},(T.flatMap fun t=> [AV.st t.1, .sl false t.2.1.length (t.2.1.flatMap clA), .it .i64 t.2.2])=(T'.flatMap fun t=> [AV.st t.1, .sl false t.2.1.length (t.2.1.flatMap clA), .it .i64 t.2.2])→T=T'
 | [],[],_=>rfl
 | [],_::_,h=>by simp at h
 |_::_,[],h=>by simp at h
 | p::T,q::T',h=>by
   simp only[List.flatMap_cons,List.cons_append,List.nil_append,List.cons.injEq,AV.st.injEq,AV.sl.injEq,AV.it.injEq,true_and] at h
   obtain ⟨h1,h2,h3,h4⟩:=h
   rw[ypU h4,Prod.ext h1 (Prod.ext (yuk h2.2) h3)]
theorem yqa:∀ {V V':CVw},(V.flatMap fun v=> [AV.st v.1, .sl false v.2.length (v.2.flatMap fun s=> [.st s])])=(V'.flatMap fun v=> [AV.st v.1, .sl false v.2.length (v.2.flatMap fun s=> [.st s])])→V=V'
 | [],[],_=>rfl
 | [],_::_,h=>by simp at h
 |_::_,[],h=>by simp at h
 | p::T,q::T',h=>by
   simp only[List.flatMap_cons,List.cons_append,List.nil_append,List.cons.injEq,AV.st.injEq,AV.sl.injEq,true_and] at h
   obtain ⟨h1,h2,h3⟩:=h
   rw[yqa h3,Prod.ext h1 (yub h2.2)]
theorem ytM:∀c:List Cl,dwks (c.flatMap clA)=c.flatMap clA
 | []=>rfl
 |n::l=>by simp only[List.flatMap_cons,clA,List.cons_append,List.nil_append,dwks,dwk];rw[ytM l]
theorem yx3:∀c:List (List UInt8),dwks (c.flatMap fun s=> [AV.st s])=c.flatMap fun s=> [AV.st s]
 | []=>rfl
 |n::l=>by simp only[List.flatMap_cons,List.cons_append,List.nil_append,dwks,dwk,yx3 l]
theorem yt9:∀T:CTb,dwks (T.flatMap fun t=> [AV.st t.1, .sl false t.2.1.length (t.2.1.flatMap clA), .it .i64 t.2.2])=T.flatMap fun t=> [AV.st t.1, .sl false t.2.1.length (t.2.1.flatMap clA), .it .i64 t.2.2]
 | []=>rfl
 |n::l=>by simp only[List.flatMap_cons,List.cons_append,List.nil_append,dwks,dwk,yt9 l,ytM]
theorem yuf:∀V:CVw,dwks (V.flatMap fun v=> [AV.st v.1, .sl false v.2.length (v.2.flatMap fun s=> [.st s])])=V.flatMap fun v=> [AV.st v.1, .sl false v.2.length (v.2.flatMap fun s=> [.st s])]
 | []=>rfl
 |n::l=>by simp only[List.flatMap_cons,List.cons_append,List.nil_append,dwks,dwk,yuf l,yx3]
theorem ytO (T:CTb) (V:CVw):dwks (kWh T V)=kWh T V:=by simp only[kWh,ctbA,cvwA,dwks,dwk,yt9,yuf]
theorem yqx:∀c:List Cl,noLs (c.flatMap clA)=true
 | []=>rfl
 |n::l=>by simp only[List.flatMap_cons,clA,List.cons_append,List.nil_append,noLs,AV.noL,Bool.true_and];exact yqx l
theorem yvi:∀c:List (List UInt8),noLs (c.flatMap fun s=> [AV.st s])=true
 | []=>rfl
 |n::l=>by simp only[List.flatMap_cons,List.cons_append,List.nil_append,noLs,AV.noL,yvi l,Bool.and_true]
theorem yug:∀T:CTb,noLs (T.flatMap fun t=> [AV.st t.1, .sl false t.2.1.length (t.2.1.flatMap clA), .it .i64 t.2.2])=true
 | []=>rfl
 |n::l=>by simp only[List.flatMap_cons,List.cons_append,List.nil_append,noLs,AV.noL,yug l,yqx,Bool.and_true]
theorem ytK:∀V:CVw,noLs (V.flatMap fun v=> [AV.st v.1, .sl false v.2.length (v.2.flatMap fun s=> [.st s])])=true
 | []=>rfl
 |n::l=>by simp only[List.flatMap_cons,List.cons_append,List.nil_append,noLs,AV.noL,ytK l,yvi,Bool.and_true]
theorem yhF (T:CTb) (V:CVw):noLs (kWh T V)=true:=by simp only[kWh,ctbA,cvwA,noLs,AV.noL,yug,ytK,Bool.and_true]
theorem yeZ {T:CTb} {V:CVw} {w:World} {b:Nat} {F:Nat→Prop} (h:opqR 1000002 (dwks (kWh T V)) w b F):CatR w b F T V:=by
 rw[ytO] at h
 obtain ⟨_,T',V',hu,hr⟩:=h
 simp only[kWh,ctbA,cvwA,List.cons.injEq,AV.sl.injEq,and_true,true_and] at hu
 obtain ⟨⟨_,e1⟩,_,e2⟩:=hu
 rw[ypU e1,yqa e2];exact hr
theorem ynH {T:CTb} {V:CVw} {w:World} {b:Nat} {F:Nat→Prop} (h:CatR w b F T V):opqR 1000002 (dwks (kWh T V)) w b F:=by
 rw[ytO];exact ⟨rfl,T,V,rfl,h⟩
theorem ycO {w:World} {base t s n:Nat} {v:Value} {xs:List Value} (h:w.ownsRow base t s v n xs):∀x∈yct v,base≤x∧∃cs ty,w.heap[x]? =some (.cells cs ty (0,0)):=fun x hx=>by
 rcases h.2 with ⟨rfl,_⟩|⟨g,cap,cur,rfl,h1,h2,_⟩
 ·cases hx
 ·simp only[yct,List.mem_singleton] at hx
  subst hx
  exact ⟨h1,_,_,h2⟩
theorem yrR {w:World} {n:List UInt8} {t:List Cl×Int} {v:Value} (h:ypv w n t v):∀x∈yev v,∃cs ty,w.heap[x]? =some (.cells cs ty (0,0)):=fun x hx=>by
 obtain ⟨s,rfl,h2⟩:=h
 exact (ycO h2 x (by simpa [yev] using hx)).2
theorem CatP.blk {w:World} {g tb vb nt nv:Nat} {ZT:MZ (List Cl×Int)} {ZV:MZ (List (List UInt8))} (h:CatP w g tb vb nt nv ZT ZV):∀x∈catB g tb vb ZT ZV,x<w.heap.size∧∀ds,w.heap[x]?≠some (.deferred ds):=by
 have hc:∀x:Nat,(∃o,w.heap[x]? =some o/\∀ds,o≠ .deferred ds)->x<w.heap.size/\∀ds,w.heap[x]?≠some (.deferred ds):=fun x ⟨o,h1,h2⟩=>⟨(Array.getElem?_eq_some_iff.1 h1).1,fun ds q=>by rw[h1] at q;exact h2 ds (Option.some.inj q)⟩
 intro x hx
 simp only[catB,List.mem_cons,List.mem_append,List.mem_flatMap] at hx
 rcases hx with rfl|rfl|rfl|⟨z,hz,hx⟩|⟨z,hz,hx⟩
 ·exact hc _ ⟨_,h.hd,fun ds q=>by cases q⟩
 ·obtain ⟨es,c,q,_⟩:=h.tm.own;exact hc _ ⟨_,q,fun ds q=>by cases q⟩
 ·obtain ⟨es,c,q,_⟩:=h.vm.own;exact hc _ ⟨_,q,fun ds q=>by cases q⟩
 ·obtain ⟨cs,ty,q⟩:=yrR (h.tm.el z hz) x hx;exact hc _ ⟨_,q,fun ds q=>by cases q⟩
 ·obtain ⟨_,cs,ty,q⟩:=ycO (h.vm.el z hz) x hx;exact hc _ ⟨_,q,fun ds q=>by cases q⟩
theorem ydo {T:CTb} {V:CVw} {av:AV} {w w':World} {b:Nat} {F:Nat→Prop} {v:Value} {J:Nat→Prop} (h:CatR w b F T V) (hbl:Below w.heap.size w w') (hJ:∀x,J x→w.heap.size≤x∧x<w'.heap.size∧∀ds,w'.heap[x]?≠some (.deferred ds)) (hv:∀G':Gh,G'.w=w'→(∀x,J x→G'.I x)→VR G' av v):yoR 1000002 (kWh T V) av w b F v w' F J:=by
 obtain ⟨hok,tb,vb,nt,nv,ZT,ZV,h1,h2,h3,h4⟩:=h
 have hs:∀x,x<w.heap.size->w'.heap[x]? =w.heap[x]? :=fun x hx=>hbl.block x hx
 have hF:∀x,F x->x∈catB b tb vb ZT ZV:=fun x hx=>List.mem_of_mem_tail ((h4 x).1 hx)
 have hnd:=h1.nd
 have hne:∀x,F x→x≠b:=fun x hx e=>by
  subst e
  unfold catB at hnd
  rw[List.nodup_cons] at hnd
  exact hnd.1 ((h4 x).1 hx)
 refine ⟨hv,ynH ⟨hok,tb,vb,nt,nv,ZT,ZV,h1.same fun x hx=>hs x (h1.blk x hx).1,h2,h3,h4⟩,fun x hx=>⟨hne x hx,Nat.lt_of_lt_of_le (h1.blk x (hF x hx)).1 hbl.size, .inl hx⟩,fun x hx ds=>by rw[hs x (h1.blk x (hF x hx)).1];exact (h1.blk x (hF x hx)).2 ds,⟨_,(hs b (h1.blk b (by simp[catB])).1).trans h1.hd,fun ds q=>by cases q⟩,fun x hx=> ?_,fun x hx _ _=>hs x hx,hbl.size,hbl.os,hbl.tape,hbl.output⟩
 obtain ⟨j1,j2,j3⟩:=hJ x hx
 exact ⟨j1,j2,fun q=>by have:=(h1.blk x (hF x q)).1;omega,j3⟩
end Go.AV
end
noncomputable section
namespace Go.AV
open Go.RowKit Go.RG Go.Proofs Go.Maps Go.Sort Go.Proofs.Ytpplhhknlmcgbaa
theorem vs1 {G:Gh} {u:AV} {vs:List Value} (h:VRs G [u] vs):∃x,vs= [x]∧VR G u x:=by
 obtain ⟨h1,h2⟩:=h
 match vs,h1 with
 | [x],_=>exact ⟨x,rfl,h2 0 u x rfl rfl⟩
theorem vs2 {G:Gh} {u v:AV} {vs:List Value} (h:VRs G [u,v] vs):∃x y,vs= [x,y]∧VR G u x∧VR G v y:=by
 obtain ⟨h1,h2⟩:=h
 match vs,h1 with
 | [x,y],_=>exact ⟨x,y,rfl,h2 0 u x rfl rfl,h2 1 v y rfl rfl⟩
theorem vrSt {G:Gh} {l:List UInt8} {v:Value} (h:VR G (.st l) v):∃s:ByteArray,v= .string s∧s.data.toList=l:=by
 cases h with
 |st l s h=>exact ⟨s,rfl,h⟩
theorem bsz {s:ByteArray} {l:List UInt8} (h:s.data.toList=l) (hl:l.length≤9223372036854775807):s.size≤maxLen:=by
 have:s.size=l.length:=by rw[<-h];rfl
 rw[this];exact hl
theorem vrB {G:Gh} {l:List UInt8} {v:Value} (h:VR G (.st l) v):v=bStr l:=by
 obtain ⟨s,rfl,rfl⟩:=vrSt h
 exact ylc s
theorem yq4:∀(cs:List Cl) (k i:Nat) (c:Cl),cs[k]? =some c→i<3→(cs.flatMap clA)[k*3+i]? =(clA c)[i]?
 | [],k,i,c,h,_=>by simp at h
 | d::cs,0,i,c,h,hi=>by
   cases h
   rw[List.flatMap_cons,List.getElem?_append_left (by simpa [clA] using hi)]
   simp
 | d::cs,k+1,i,c,h,hi=>by
   rw[List.flatMap_cons,List.getElem?_append_right (by simp[clA];omega)]
   have:=yq4 cs k i c (by simpa using h) hi
   rw[<-this]
   congr 1
   simp[clA];omega
theorem yme:∀c:List (List UInt8),(c.flatMap fun s=> [AV.st s])=c.map AV.st
 | []=>rfl
 |n::l=>by simp only[List.flatMap_cons,List.map_cons,List.cons_append,List.nil_append,yme l]
theorem ywa {G:Gh} {us:List (List UInt8)} {v:Value} (h:VR G (.sl false us.length (us.flatMap fun s=> [.st s])) v):yd7 G.w v us:=by
 rw[yme] at h
 cases hcs:us with
 | nil=>
   subst hcs
   cases h with
   |nsl=>exact .inl ⟨rfl,_,_,rfl⟩
   |sl _ _ b off cap f hI hc hv h1 hn hm hq=>exact .inl ⟨rfl,_,_,rfl⟩
   |esl=>exact .inl ⟨rfl,_,_,rfl⟩
 | cons d r=>
   have h0:0<us.length:=by rw[hcs];simp
   rw[<-hcs]
   generalize hn':us.length=n at h
   cases h with
   |nsl _ _ _ e=>omega
   |esl _ _ e=>omega
   | sl _ _ b off cap f hI hc hv h1 hn hm hq=>
     have key:∀k u,us[k]? =some u→G.w.cell? ⟨b,off+k,none⟩=some (bStr u):=fun k u hk=>by
      have e:(us.map AV.st)[k]? =some (.st u):=by rw[List.getElem?_map,hk];rfl
      rw[hc _ _ e,vrB (hv _ _ e)]
     refine .inr ⟨b,off,cap,by rw[hn'],key,?_⟩
     exact World.block_lt_of_cell? G.w _ (key 0 d (by rw[hcs];rfl))
end Go.AV
end
noncomputable section
namespace Go.AV
open Go.RowKit Go.RG Go.Proofs Go.Maps Go.Sort Go.Proofs.Ytpplhhknlmcgbaa
theorem yoY {w:World} {base t sz:Nat} {v:Value} {n:Nat} {us:List AV} {xs:List Value} (h:w.ownsRow base t sz v n xs) (hu:∀(G:Gh) (j:Nat) (u:AV) (x:Value),us[j]? =some u→xs[j]? =some x→VR G u x∧x.oneCell'=true) (hl:us.length=n*sz) (hq:noLs us=true):
  ∃J:Nat->Prop,(∀x,J x->x∈yct v/\base<=x/\x<w.heap.size/\∀ds,w.heap[x]?≠some (.deferred ds))/\∀G':Gh,G'.w=w->(∀x,J x->G'.I x)->VR G' (.sl false n us) v:=by
 obtain ⟨h0,h⟩:=h
 rcases h with ⟨rfl,rfl⟩|⟨g,cap,cur,rfl,hg,hh,hn,hm,hc,ht⟩
 ·exact ⟨fun _=>False,fun x hx=>hx.elim,fun G' _ _=> .nsl _ _ _ rfl (List.eq_nil_of_length_eq_zero (by omega))⟩
 ·refine ⟨fun x=>x=g,fun x hx=> ?_,fun G' hw hJ=> ?_⟩
  ·subst hx
   exact ⟨by simp[yct],hg,(Array.getElem?_eq_some_iff.1 hh).1,fun ds q=>by rw[hh] at q;cases q⟩
  ·have cell:∀(j:Nat) (u:AV),us[j]? =some u→∃x,xs[j]? =some x∧cur[j]? =some x:=fun j u q=>by
    have hj:j<n*sz:=by rw[<-hl];exact (List.getElem?_eq_some_iff.1 q).1
    have hj':j<xs.length:=by rw[h0];exact hj
    refine ⟨xs[j],List.getElem?_eq_getElem hj',?_⟩
    have:(cur.toList.take (n*sz))[j]? =some xs[j]:=by rw[ht];exact List.getElem?_eq_getElem hj'
    rw[List.getElem?_take_of_lt hj] at this
    simpa using this
   refine .sl n us g 0 cap (fun j=>(cur[j]?).getD undef) (hJ g rfl) (fun j u q=> ?_) (fun j u q=> ?_) (fun j u q=> ?_) hn (Nat.le_trans hn hm) hq
   ·obtain ⟨x,a,b⟩:=cell j u q
    rw[hw]
    simp[World.cell?,hh,b]
   ·obtain ⟨x,a,b⟩:=cell j u q
    rw[b];exact (hu G' j u x q a).1
   ·obtain ⟨x,a,b⟩:=cell j u q
    rw[b];exact (hu G' j u x q a).2
theorem ysg (G:Gh):∀(cs:List Cl) (j:Nat) (u:AV) (x:Value),(cs.flatMap clA)[j]? =some u→(cs.flatMap clV)[j]? =some x→VR G u x∧x.oneCell'=true
 | [],j,u,x,h,_=>by simp at h
 | c::cs,0,u,x,h,k=>by
   simp[clA] at h;simp[clV] at k
   subst h;subst k
   exact ⟨.st _ _ (by simp),rfl⟩
 | c::cs,1,u,x,h,k=>by
   simp[clA] at h;simp[clV] at k
   subst h;subst k
   exact ⟨.it _ _,rfl⟩
 | c::cs,2,u,x,h,k=>by
   simp[clA] at h;simp[clV] at k
   subst h;subst k
   exact ⟨.bl _,rfl⟩
 | c::cs,j+3,u,x,h,k=>by
   rw[List.flatMap_cons] at h k
   rw[List.getElem?_append_right (by simp[clA])] at h
   rw[List.getElem?_append_right (by simp[clV])] at k
   exact ysg G cs j u x (by simpa [clA] using h) (by simpa [clV] using k)
theorem ynh:∀cs:List Cl,(cs.flatMap clA).length=cs.length*3
 | []=>rfl
 |c::cs=>by rw[List.flatMap_cons,List.length_append,ynh cs,List.length_cons,show (clA c).length=3 from rfl];omega
theorem ypJ (G:Gh) (l:List UInt8):VR G (.st l) (bStr l):= .st _ _ (by simp)
theorem yyp (G:Gh) (us:List (List UInt8)) (j:Nat) (u:AV) (x:Value) (h:(us.flatMap fun s=> [AV.st s])[j]? =some u) (k:(us.map bStr)[j]? =some x):VR G u x∧x.oneCell'=true:=by
 rw[yme,List.getElem?_map] at h
 rw[List.getElem?_map] at k
 obtain ⟨s,hs,rfl⟩:=Option.map_eq_some_iff.1 h
 rw[hs] at k
 cases k
 exact ⟨ypJ G s,rfl⟩
theorem ygJ {w w':World} {b tb vb:Nat} {F:Nat→Prop} {T':CTb} {V':CVw} {ZT ZT':MZ (List Cl×Int)} {ZV ZV':MZ (List (List UInt8))} {nt nv nt' nv':Nat} {av:AV} {v:Value} (h0:CatP w b tb vb nt nv ZT ZV) (hF:∀x,F x↔x∈(catB b tb vb ZT ZV).tail) (h1:CatP w' b tb vb nt' nv' ZT' ZV') (ok:yx8 T' V') (hT:T'=mzT ZT') (hV:V'=mzT ZV')
  (hz:∀x∈catB b tb vb ZT' ZV',x∈catB b tb vb ZT ZV∨w.heap.size<=x) (hs:∀x,x<w.heap.size->x∉catB b tb vb ZT ZV->w'.heap[x]? =w.heap[x]?) (h2:w.heap.size<=w'.heap.size) (h3:w'.os=w.os) (h4:w'.tape=w.tape) (h5:w'.output=w.output)
  (hv:∀G':Gh,G'.w=w'->VR G' av v):yoR 1000002 (kWh T' V') av w b F v w' (fun x=>x∈(catB b tb vb ZT' ZV').tail) (fun _=>False):=by
 have hnd:=h1.nd
 unfold catB at hnd
 rw[List.nodup_cons] at hnd
 have hb:b<w.heap.size:=(h0.blk b (by simp[catB])).1
 have hcons:∀x,x∈catB b tb vb ZT ZV↔x=b∨F x:=fun x=>by rw[hF];unfold catB;rw[List.mem_cons];rfl
 refine ⟨fun G' e _=>hv G' e,ynH ⟨ok,tb,vb,nt',nv',ZT',ZV',h1,hT,hV,fun x=>Iff.rfl⟩,fun x hx=> ?_,fun x hx=>(h1.blk x (List.mem_of_mem_tail hx)).2,⟨_,h1.hd,fun ds q=>by cases q⟩,fun x hx=>hx.elim,fun x hx hb hf=>hs x hx fun q=>((hcons x).1 q).elim hb hf,h2,h3,h4,h5⟩
 have hxb:x≠b:=fun e=>by subst e;exact hnd.1 hx
 refine ⟨hxb,(h1.blk x (List.mem_of_mem_tail hx)).1,?_⟩
 rcases hz x (List.mem_of_mem_tail hx) with q|q
 ·exact .inl (((hcons x).1 q).resolve_left hxb)
 ·exact .inr q
end Go.AV
end
noncomputable section
namespace Go.AV
open Go.RowKit Go.RG Go.Proofs Go.Maps Go.Sort Go.Proofs.Ytpplhhknlmcgbaa
theorem ygA {P:Program} {f:FuncId} {fn:Func} {c:Code} {vs:Array Value} {w:World} {R:Ending→World→Prop} (hf:P.funcs[f]? =some fn) (hname:(fn.name== "runtime.NumGoroutine")=false) (hb:fn.body=some c) (hs:f<1000000) (h:Calls P f vs w R):XW P f vs w R:=by
 rw[XW_f hs]
 unfold ygz
 have h1:fn.name≠ "runtime.NumGoroutine" :=by simpa using hname
 have:(callFunc f vs).run P w= .ok (.enter f vs) w:=by simp[callFunc,hf,h1,hb,mark]
 rw[this]
 exact h
theorem ygL {w w':World} {b:Nat} (h:w.mapTurned w' b):w'.heap.size=w.heap.size∧w'.os=w.os∧w'.tape=w.tape∧w'.output=w.output∧∀x,x≠b→w'.heap[x]? =w.heap[x]? :=by
 obtain ⟨es,clock,es',clock',hb,rfl⟩:=h
 refine ⟨Array.size_setIfInBounds ..,rfl,rfl,rfl,fun x hx=> ?_⟩
 show (w.heap.setIfInBounds b _)[x]? =_
 simp[Array.getElem?_setIfInBounds,hx.symm]
theorem ymp {α:Type} {p:List UInt8×α}:∀ {L:GL α},(gIns p L).Perm (p::L)
 | []=> .refl _
 | q::L=>by
   unfold gIns
   split
   ·exact .refl _
   ·exact (List.Perm.cons q ymp).trans (List.Perm.swap p q L)
theorem yml {α:Type} {L:GL α} {n:List UInt8} {a:α}:(gPut L n a).Perm ((n,a)::gDel L n):=ymp
def KEnd (us us':List AV) (av:AV) (H:Hp) (m:Nat) (av':AV) (S1:St):Prop:=av'=av/\S1={lSt (mem1 1000002 us) H m with M:=updK (lSt (mem1 1000002 us) H m).M (.l 2000000 1) (some ⟨1000002,0,us'⟩)}
theorem ykK {α:Type} {Z:MZ α} {n:List UInt8}:gAt (mzT Z) n=(gAt Z n).map (·.1):=yvJ (f:=fun z:α×Value=>z.1)
theorem ynp {α:Type} {Z:MZ α} {n:List UInt8} {z:α×Value}:mzT (gPut Z n z)=gPut (mzT Z) n z.1:=ysr (f:=fun z:α×Value=>z.1)
theorem yrS {α:Type} {Z:MZ α} {n:List UInt8}:mzT (gDel Z n)=gDel (mzT Z) n:=yoL (f:=fun z:α×Value=>z.1)
theorem yky {α:Type} {Z:MZ α} {n:List UInt8}:(gAt (mzT Z) n).isSome=(gAt Z n).isSome:=by rw[ykK];cases gAt Z n<;>rfl
theorem ydu {α:Type} {Z:MZ α}:(mzT Z).length=Z.length:=List.length_map ..
theorem ywx {α:Type} {Z:MZ α} (h:GS (mzT Z)):GS Z:=by
 unfold GS mzT at h
 rw[List.pairwise_map] at h
 exact h
theorem ynB {α:Type} {Z:MZ α} {n:List UInt8} {a:α} {v:Value} (h:(n,a,v)∈Z):(n,a)∈mzT Z:=List.mem_map_of_mem (f:=fun z:List UInt8×α×Value=>(z.1,z.2.1)) h
theorem CatP.tight {w:World} {g tb vb nt nv:Nat} {ZT:MZ (List Cl×Int)} {ZV:MZ (List (List UInt8))} (h:CatP w g tb vb nt nv ZT ZV):CatP w g tb vb ZT.length ZV.length ZT ZV:=
 ⟨h.hd,⟨by have:=yh1 h.tm.own;rwa[show Maps.size (mzD ZT)=ZT.length from ydH] at this,h.tm.el⟩,⟨by have:=yh1 h.vm.own;rwa[show Maps.size (mzD ZV)=ZV.length from ydH] at this,h.vm.el⟩,h.nd⟩
theorem yjX {w:World} {base t s n:Nat} {v:Value} {xs:List Value} (h:w.ownsRow base t s v n xs):∃(a:Option Addr) (m c:Nat),v= .slice a m c:=by
 rcases h.2 with ⟨rfl,_⟩|⟨g,cap,cur,rfl,_⟩
 ·exact ⟨_,_,_,rfl⟩
 ·exact ⟨_,_,_,rfl⟩
theorem CatP.tsh {w:World} {g tb vb nt nv:Nat} {ZT:MZ (List Cl×Int)} {ZV:MZ (List (List UInt8))} (h:CatP w g tb vb nt nv ZT ZV):ynI ZT:=fun n=>by
 unfold mzV
 cases hq:gAt ZT n with
 |none=>exact ⟨_,_,_,_,_,rfl⟩
 | some a=>
   obtain ⟨s,e,hr⟩:=h.tm.el _ (yi1 hq)
   obtain ⟨ad,m,c,rfl⟩:=yjX hr
   exact ⟨_,_,_,_,_,e⟩
theorem CatP.vsh {w:World} {g tb vb nt nv:Nat} {ZT:MZ (List Cl×Int)} {ZV:MZ (List (List UInt8))} (h:CatP w g tb vb nt nv ZT ZV):VwSh ZV:=fun n=>by
 unfold mzV
 cases hq:gAt ZV n with
 |none=>exact ⟨_,_,_,rfl⟩
 |some a=>exact yjX (h.vm.el _ (yi1 hq))
theorem CatP.ne {w:World} {g tb vb nt nv:Nat} {ZT:MZ (List Cl×Int)} {ZV:MZ (List (List UInt8))} (h:CatP w g tb vb nt nv ZT ZV):g≠tb∧g≠vb∧tb≠vb:=by
 have:=h.nd
 unfold catB at this
 simp only[List.nodup_cons,List.mem_cons,not_or] at this
 exact ⟨this.1.1,this.1.2.1,this.2.1.1⟩
def mkE (T:CTb) (V:CVw) (n:List UInt8) (cs:List Cl):Int:=
 if ((gAt T n).isSome||(gAt V n).isSome)=true then 7 else if 8<=T.length then 14 else yc4 cs
def mkT (T:CTb) (V:CVw) (n:List UInt8) (cs:List Cl):CTb:=if mkE T V n cs=0 then gPut T n (cs,((kSt cs cs.length).1:Int)) else T
theorem ytf {ZT:MZ (List Cl×Int)} {ZV:MZ (List (List UInt8))} {n:List UInt8} {cs:List Cl}:yik ZT ZV n cs=mkE (mzT ZT) (mzT ZV) n cs:=by
 unfold yik mkE
 rw[yky,yky,ydu]
theorem ysV {T:CTb} {V:CVw} {n:List UInt8} {cs:List Cl} (h:mkE T V n cs=0):gAt T n=none∧gAt V n=none∧T.length<8∧yc4 cs=0:=by
 unfold mkE at h
 split at h
 ·cases h
 ·rename_i h1
  split at h
  ·cases h
  ·rename_i h2
   simp at h1
   exact ⟨by cases hq:gAt T n with|none=>rfl|some a=>rw[hq] at h1;simp at h1,by cases hq:gAt V n with|none=>rfl|some a=>rw[hq] at h1;simp at h1,by omega,h⟩
theorem ykZ {g tb vb:Nat} {ZT:MZ (List Cl×Int)} {ZV:MZ (List (List UInt8))} (h:(catB g tb vb ZT ZV).Nodup) {x:Nat} (hx:x∈(ZT.flatMap fun z=>yev z.2.2)++ZV.flatMap fun z=>yct z.2.2):x≠g∧x≠tb∧x≠vb:=by
 unfold catB at h
 rw[List.nodup_cons,List.nodup_cons,List.nodup_cons] at h
 obtain ⟨q1,q2,q3,_⟩:=h
 refine ⟨fun e=> ?_,fun e=> ?_,fun e=> ?_⟩
 ·subst e;exact q1 (List.mem_cons_of_mem _ (List.mem_cons_of_mem _ hx))
 ·subst e;exact q2 (List.mem_cons_of_mem _ hx)
 ·subst e;exact q3 hx
theorem yhI {g tb vb:Nat} {ZT:MZ (List Cl×Int)} {ZV:MZ (List (List UInt8))} {x:Nat} (hx:x∈(ZT.flatMap fun z=>yev z.2.2)++ZV.flatMap fun z=>yct z.2.2):x∈catB g tb vb ZT ZV:=by
 unfold catB
 exact List.mem_cons_of_mem _ (List.mem_cons_of_mem _ (List.mem_cons_of_mem _ hx))
theorem CatP.addT {w w':World} {g tb vb nt nv nt':Nat} {ZT:MZ (List Cl×Int)} {ZV:MZ (List (List UInt8))} (h:CatP w g tb vb nt nv ZT ZV) {n:List UInt8} {z:(List Cl×Int)×Value} (hs:∀x,x<w.heap.size→x≠tb→w'.heap[x]? =w.heap[x]?) (hown:w'.ownsMap Try.prog 9 ycu tb nt' (mzD (gPut ZT n z))) (hno:gAt ZT n=none)
  (hz:ypv w' n z.1 z.2) (hf:∀x∈yev z.2,w.heap.size<=x) (hnd:(yev z.2).Nodup):CatP w' g tb vb nt' nv (gPut ZT n z) ZV/\∀x∈catB g tb vb (gPut ZT n z) ZV,x∈catB g tb vb ZT ZV∨w.heap.size<=x:=by
 have hlt:∀x∈catB g tb vb ZT ZV,x<w.heap.size:=fun x hx=>(h.blk x hx).1
 have hne:=h.ne
 have hin:∀x,x∈((ZT.flatMap fun z=>yev z.2.2)++ZV.flatMap fun z=>yct z.2.2)->w'.heap[x]? =w.heap[x]? :=fun x hx=>hs x (hlt x (yhI hx)) (ykZ h.nd hx).2.1
 have hpz:(gPut ZT n z).Perm ((n,z)::ZT):=by
  have:=yml (L:=ZT) (n:=n) (a:=z)
  rwa[yj3 (yiY hno)] at this
 have hpf:((gPut ZT n z).flatMap fun z=>yev z.2.2).Perm (yev z.2++ZT.flatMap fun z=>yev z.2.2):=by
  have:=hpz.flatMap_right (fun z:List UInt8×(List Cl×Int)×Value=>yev z.2.2)
  simpa using this
 have hmem:∀x,x∈catB g tb vb (gPut ZT n z) ZV↔x∈yev z.2∨x∈catB g tb vb ZT ZV:=fun x=>by
  unfold catB
  simp only[List.mem_cons,List.mem_append,hpf.mem_iff]
  constructor
  ·rintro (q|q|q|(q|q)|q)<;>simp[q]
  ·rintro (q|q|q|q|q|q)<;>simp[q]
 refine ⟨⟨(hs g (hlt g (by simp[catB])) hne.1).trans h.hd,⟨hown,fun q hq=> ?_⟩,⟨yaP h.vm.own (hs vb (hlt vb (by simp[catB])) (fun e=>hne.2.2 e.symm)),fun q hq=>ybe (h.vm.el q hq) fun x hx=>hin x (List.mem_append_right _ (List.mem_flatMap.2 ⟨q,hq,hx⟩))⟩,?_⟩,fun x hx=>((hmem x).1 hx).elim (fun q=> .inr (hf x q)) .inl⟩
 ·rcases yfR.1 hq with rfl|⟨hq,_⟩
  ·exact hz
  ·exact yfl (h.tm.el q hq) fun x hx=>hin x (List.mem_append_left _ (List.mem_flatMap.2 ⟨q,hq,hx⟩))
 ·have hp:(catB g tb vb (gPut ZT n z) ZV).Perm (yev z.2++catB g tb vb ZT ZV):=by
   unfold catB
   have e1:=(((hpf.append_right (ZV.flatMap fun z=>yct z.2.2)).cons vb).cons tb).cons g
   refine e1.trans ?_
   rw[List.append_assoc]
   exact ((List.perm_middle.symm.cons tb).cons g|>.trans ((List.perm_middle.symm).cons g)).trans List.perm_middle.symm
  rw[hp.nodup_iff,List.nodup_append]
  exact ⟨hnd,h.nd,fun x hx y hy e=>by have:=hf x hx;have:=hlt y hy;omega⟩
end Go.AV
end
noncomputable section
namespace Go.AV
open Go.RowKit Go.RG Go.Proofs Go.Maps Go.Sort Go.Proofs.Ytpplhhknlmcgbaa
theorem CatP.addV {w w':World} {g tb vb nt nv nv':Nat} {ZT:MZ (List Cl×Int)} {ZV:MZ (List (List UInt8))} (h:CatP w g tb vb nt nv ZT ZV) {n:List UInt8} {z:List (List UInt8)×Value} (hs:∀x,x<w.heap.size→x≠vb→w'.heap[x]? =w.heap[x]?) (hown:w'.ownsMap Try.prog 9 ycu vb nv' (mzD (gPut ZV n z))) (hno:gAt ZV n=none)
  (hz:cvwV w' n z.1 z.2) (hf:∀x∈yct z.2,w.heap.size<=x) (hnd:(yct z.2).Nodup):CatP w' g tb vb nt nv' ZT (gPut ZV n z)/\∀x∈catB g tb vb ZT (gPut ZV n z),x∈catB g tb vb ZT ZV∨w.heap.size<=x:=by
 have hlt:∀x∈catB g tb vb ZT ZV,x<w.heap.size:=fun x hx=>(h.blk x hx).1
 have hne:=h.ne
 have hin:∀x,x∈((ZT.flatMap fun z=>yev z.2.2)++ZV.flatMap fun z=>yct z.2.2)->w'.heap[x]? =w.heap[x]? :=fun x hx=>hs x (hlt x (yhI hx)) (ykZ h.nd hx).2.2
 have hpz:(gPut ZV n z).Perm ((n,z)::ZV):=by
  have:=yml (L:=ZV) (n:=n) (a:=z)
  rwa[yj3 (yiY hno)] at this
 have hpf:((gPut ZV n z).flatMap fun z=>yct z.2.2).Perm (yct z.2++ZV.flatMap fun z=>yct z.2.2):=by
  have:=hpz.flatMap_right (fun z:List UInt8×List (List UInt8)×Value=>yct z.2.2)
  simpa using this
 have hmem:∀x,x∈catB g tb vb ZT (gPut ZV n z)↔x∈yct z.2∨x∈catB g tb vb ZT ZV:=fun x=>by
  unfold catB
  simp only[List.mem_cons,List.mem_append,hpf.mem_iff]
  constructor
  ·rintro (q|q|q|q|(q|q))<;>simp[q]
  ·rintro (q|q|q|q|q|q)<;>simp[q]
 refine ⟨⟨(hs g (hlt g (by simp[catB])) hne.2.1).trans h.hd,⟨yaP h.tm.own (hs tb (hlt tb (by simp[catB])) hne.2.2),fun q hq=>yfl (h.tm.el q hq) fun x hx=>hin x (List.mem_append_left _ (List.mem_flatMap.2 ⟨q,hq,hx⟩))⟩,⟨hown,fun q hq=> ?_⟩,?_⟩,fun x hx=>((hmem x).1 hx).elim (fun q=> .inr (hf x q)) .inl⟩
 ·rcases yfR.1 hq with rfl|⟨hq,_⟩
  ·exact hz
  ·exact ybe (h.vm.el q hq) fun x hx=>hin x (List.mem_append_right _ (List.mem_flatMap.2 ⟨q,hq,hx⟩))
 ·have hp:(catB g tb vb ZT (gPut ZV n z)).Perm (yct z.2++catB g tb vb ZT ZV):=by
   unfold catB
   have e0:((ZT.flatMap fun z=>yev z.2.2)++(gPut ZV n z).flatMap fun z=>yct z.2.2).Perm (yct z.2++((ZT.flatMap fun z=>yev z.2.2)++ZV.flatMap fun z=>yct z.2.2)):=by
    refine (hpf.append_left _).trans ?_
    rw[<-List.append_assoc,<-List.append_assoc]
    exact List.perm_append_comm.append_right _
   have e1:=((e0.cons vb).cons tb).cons g
   refine e1.trans ?_
   exact ((List.perm_middle.symm.cons tb).cons g|>.trans ((List.perm_middle.symm).cons g)).trans List.perm_middle.symm
  rw[hp.nodup_iff,List.nodup_append]
  exact ⟨hnd,h.nd,fun x hx y hy e=>by have:=hf x hx;have:=hlt y hy;omega⟩
theorem yow {α:Type} {L:GL α} {n:List UInt8}:(gDel L n).Sublist L:=List.filter_sublist
theorem yi4 {α β:Type} (f:α→List β):∀ {l m:List α},l.Sublist m→(l.flatMap f).Sublist (m.flatMap f)
 |_,_, .slnil=> .slnil
 |_,_, .cons a h=>by rw[List.flatMap_cons];exact (yi4 f h).trans (List.sublist_append_right _ _)
 |_,_, .cons_cons a h=>by rw[List.flatMap_cons,List.flatMap_cons];exact (yi4 f h).append_left _
theorem CatP.delT {w w':World} {g tb vb nt nv nt':Nat} {ZT:MZ (List Cl×Int)} {ZV:MZ (List (List UInt8))} (h:CatP w g tb vb nt nv ZT ZV) {n:List UInt8} (hs:∀x,x<w.heap.size→x≠tb→w'.heap[x]? =w.heap[x]?) (hown:w'.ownsMap Try.prog 9 ycu tb nt' (mzD (gDel ZT n))):CatP w' g tb vb nt' nv (gDel ZT n) ZV∧∀x∈catB g tb vb (gDel ZT n) ZV,x∈catB g tb vb ZT ZV∨w.heap.size≤x:=by
 have hlt:∀x∈catB g tb vb ZT ZV,x<w.heap.size:=fun x hx=>(h.blk x hx).1
 have hne:=h.ne
 have hin:∀x,x∈((ZT.flatMap fun z=>yev z.2.2)++ZV.flatMap fun z=>yct z.2.2)->w'.heap[x]? =w.heap[x]? :=fun x hx=>hs x (hlt x (yhI hx)) (ykZ h.nd hx).2.1
 have hsub:(catB g tb vb (gDel ZT n) ZV).Sublist (catB g tb vb ZT ZV):=by
  unfold catB
  exact ((((yi4 _ yow).append_right _).cons_cons vb).cons_cons tb).cons_cons g
 refine ⟨⟨(hs g (hlt g (by simp[catB])) hne.1).trans h.hd,⟨hown,fun q hq=> ?_⟩,⟨yaP h.vm.own (hs vb (hlt vb (by simp[catB])) (fun e=>hne.2.2 e.symm)),fun q hq=>ybe (h.vm.el q hq) fun x hx=>hin x (List.mem_append_right _ (List.mem_flatMap.2 ⟨q,hq,hx⟩))⟩,hsub.nodup h.nd⟩,fun x hx=> .inl (hsub.subset hx)⟩
 have hq':=(yfH.1 hq).1
 exact yfl (h.tm.el q hq') fun x hx=>hin x (List.mem_append_left _ (List.mem_flatMap.2 ⟨q,hq',hx⟩))
theorem CatP.delV {w w':World} {g tb vb nt nv nv':Nat} {ZT:MZ (List Cl×Int)} {ZV:MZ (List (List UInt8))} (h:CatP w g tb vb nt nv ZT ZV) {n:List UInt8} (hs:∀x,x<w.heap.size→x≠vb→w'.heap[x]? =w.heap[x]?) (hown:w'.ownsMap Try.prog 9 ycu vb nv' (mzD (gDel ZV n))):CatP w' g tb vb nt nv' ZT (gDel ZV n)∧∀x∈catB g tb vb ZT (gDel ZV n),x∈catB g tb vb ZT ZV∨w.heap.size≤x:=by
 have hlt:∀x∈catB g tb vb ZT ZV,x<w.heap.size:=fun x hx=>(h.blk x hx).1
 have hne:=h.ne
 have hin:∀x,x∈((ZT.flatMap fun z=>yev z.2.2)++ZV.flatMap fun z=>yct z.2.2)->w'.heap[x]? =w.heap[x]? :=fun x hx=>hs x (hlt x (yhI hx)) (ykZ h.nd hx).2.2
 have hsub:(catB g tb vb ZT (gDel ZV n)).Sublist (catB g tb vb ZT ZV):=by
  unfold catB
  exact ((((yi4 _ yow).append_left _).cons_cons vb).cons_cons tb).cons_cons g
 refine ⟨⟨(hs g (hlt g (by simp[catB])) hne.2.1).trans h.hd,⟨yaP h.tm.own (hs tb (hlt tb (by simp[catB])) hne.2.2),fun q hq=>yfl (h.tm.el q hq) fun x hx=>hin x (List.mem_append_left _ (List.mem_flatMap.2 ⟨q,hq,hx⟩))⟩,⟨hown,fun q hq=> ?_⟩,hsub.nodup h.nd⟩,fun x hx=> .inl (hsub.subset hx)⟩
 have hq':=(yfH.1 hq).1
 exact ybe (h.vm.el q hq') fun x hx=>hin x (List.mem_append_right _ (List.mem_flatMap.2 ⟨q,hq',hx⟩))
end Go.AV
end
noncomputable section
namespace Go.AV
open Go.RowKit Go.RG Go.Proofs Go.Maps Go.Sort Go.Proofs.Ytpplhhknlmcgbaa
def ssA (l:List (List UInt8)):AV:= .sl false l.length (l.flatMap fun s=> [.st s])
def vwE (T:CTb) (V:CVw) (n:List UInt8) (us:List (List UInt8)):Int:=
 if ((gAt T n).isSome||(gAt V n).isSome)=true then 7 else if 8<=V.length then 14 else if us.all (fun u=>(gAt T u).isSome)=true then 0 else 6
def vwT (T:CTb) (V:CVw) (n:List UInt8) (us:List (List UInt8)):CVw:=if vwE T V n us=0 then gPut V n us else V
theorem yoU {ZT:MZ (List Cl×Int)} {ZV:MZ (List (List UInt8))} {n:List UInt8} {us:List (List UInt8)}:ydF ZT ZV n us=vwE (mzT ZT) (mzT ZV) n us:=by
 unfold ydF vwE
 simp only[yky,ydu]
theorem yoj {T:CTb} {V:CVw} {n:List UInt8} {us:List (List UInt8)} (h:vwE T V n us=0):gAt V n=none∧V.length<8:=by
 unfold vwE at h
 split at h
 ·cases h
 ·rename_i h1
  split at h
  ·cases h
  ·rename_i h2
   simp at h1
   exact ⟨by cases hq:gAt V n with|none=>rfl|some a=>rw[hq] at h1;simp at h1,by omega⟩
theorem yp9 {ZT:MZ (List Cl×Int)} (sb tb vb nt:Nat) (ZV:MZ (List (List UInt8))) (name:ByteArray) (v:Value) (us:List (List UInt8)) (w:World) (c0:w.cell? ⟨sb,0,none⟩=some (.map (some tb))) (c1:w.cell? ⟨sb,1,none⟩=some (.map (some vb))) (ht:w.ownsMap Try.prog 9 ycu tb nt (mzD ZT)) (hv:w.ownsMap Try.prog 9 ycu vb ZV.length (mzD ZV)) (hsz:name.size≤maxLen)
  (hT:ynI ZT) (hVw:VwSh ZV) (hlen:ZV.length<maxLen) (hne:sb≠vb) (hc:yd7 w v us) (hl:us.length<=1000000) (hn:∀u∈us,u.length<=9223372036854775807):
  Calls Try.prog 9 #[.pointer (some ⟨sb,0,none⟩), .string name,v] w fun e w'=>e= .returned (.int .i64 (ydF ZT ZV name.data.toList us))∧((¬ydF ZT ZV name.data.toList us=0∧Below w.heap.size w w')∨
   (ydF ZT ZV name.data.toList us=0/\∃w1 sv,Below w.heap.size w w1/\w1.ownsRow w.heap.size 9 1 sv us.length (us.map bStr)/\w1.mapTurned w' vb/\w'.ownsMap Try.prog 9 ycu vb (ZV.length+1) (mzD (gPut ZV name.data.toList (us,sv))))):=by
 rcases hc with ⟨rfl,a,cap,rfl⟩|⟨b,off,cap,rfl,hc⟩
 ·exact yr6 sb tb vb nt ZT ZV name a cap w c0 c1 ht hv hsz hT hVw hlen hne
 ·exact yti sb tb vb nt ZT ZV name b off cap us w c0 c1 ht hv hsz hT hVw hlen hne hc hl hn
theorem ytT {w:World} {base t s n:Nat} {v:Value} {xs:List Value} (h:w.ownsRow base t s v n xs):(yct v).Nodup:=by
 rcases h.2 with ⟨rfl,_⟩|⟨g,cap,cur,rfl,_⟩<;>simp[yct]
theorem ywA (T:CTb) (V:CVw) (n:List UInt8) (us:List (List UInt8)) (hn:n.length≤9223372036854775807) (hl:us.length≤1000000) (hc:∀u∈us,u.length≤9223372036854775807):
  ∀H m,yam Try.prog 9 [.pt (.l 2000000 1) 0, .st n,ssA us] (mem1 1000002 (kWh T V)) H m (KEnd (kWh T V) (kWh T (vwT T V n us)) (.it .i64 (vwE T V n us)) H m):=by
 refine ypE (by decide) rfl rfl (yhF _ _) fun G b F vs hg hrep hb hF hV=> ?_
 obtain ⟨x,y,rfl,hx,hy⟩:=vs2 hV
 obtain ⟨s,rfl,hs⟩:=vrSt hx
 subst hs
 have hcin:=ywa hy
 have hr:=yeZ hrep
 obtain ⟨hok,tb,vb,nt,nv,ZT,ZV,h1,h2,h3,h4⟩:=hr
 subst h2;subst h3
 have hP:=h1.tight
 have c0:G.w.cell? ⟨b,0,none⟩=some (.map (some tb)):=by simp[World.cell?,h1.hd]
 have c1:G.w.cell? ⟨b,1,none⟩=some (.map (some vb)):=by simp[World.cell?,h1.hd]
 have hln:=hok.ln
 rw[ydu,ydu] at hln
 refine (ygA Try.func9 (by kernel_rfl) rfl (by decide) (yp9 b tb vb ZT.length ZV s y us G.w c0 c1 hP.tm.own hP.vm.own (bsz rfl hn) h1.tsh h1.vsh (by unfold maxLen;omega) h1.ne.2.1 hcin hl hc)).mono ?_
 rw[yoU]
 rintro e w' ⟨rfl,⟨hE,hbl⟩|⟨hE,w1,sv,hbl,hrow,hturn,hown⟩⟩
 ·refine ⟨_,F,fun _=>False,rfl,?_⟩
  rw[show vwT (mzT ZT) (mzT ZV) s.data.toList us=mzT ZV from if_neg hE]
  exact ydo ⟨hok,tb,vb,nt,nv,ZT,ZV,h1,rfl,rfl,h4⟩ hbl (fun x hx=>hx.elim) fun G' _ _=> .it _ _
 ·obtain ⟨t1,t2,t3,t4,t5⟩:=ygL hturn
  obtain ⟨hno,hlt⟩:=yoj hE
  have hnoZ:gAt ZV s.data.toList=none:=by rw[ykK] at hno;simpa using hno
  have hsame:∀x,x<G.w.heap.size->x≠vb->w'.heap[x]? =G.w.heap[x]? :=fun x hx hne=>(t5 x hne).trans (hbl.block x hx)
  have hrow':w'.ownsRow G.w.heap.size 9 1 sv us.length (us.map bStr):=ybe hrow fun x hx=>t5 x (fun e=>by
   have:=(ycO hrow x hx).1
   have:=(h1.blk vb (by simp[catB])).1
   omega)
  obtain ⟨hP',hsub⟩:=h1.addV (z:=(us,sv)) hsame hown hnoZ (ydP hrow' (Nat.zero_le _)) (fun x hx=>(ycO hrow' x hx).1) (ytT hrow)
  have hput:vwT (mzT ZT) (mzT ZV) s.data.toList us=mzT (gPut ZV s.data.toList (us,sv)):=by
   rw[ynp];exact if_pos hE
  have hsz:G.w.heap.size<=w'.heap.size:=by rw[t1];exact hbl.size
  refine ⟨_,_,fun _=>False,rfl,ygJ h1 h4 hP' ?_ rfl hput hsub (fun x hx hq=>hsame x hx fun e=>hq (by subst e;simp[catB])) hsz (t2.trans hbl.os) (t3.trans hbl.tape) (t4.trans hbl.output) fun G' _=> .it _ _⟩
  rw[show vwT (mzT ZT) (mzT ZV) s.data.toList us=gPut (mzT ZV) s.data.toList us from if_pos hE]
  refine ⟨hok.tb,yi6 hok.vw,hok.tn,fun q hq=> ?_,⟨hok.ln.1,?_⟩⟩
  ·rcases yfR.1 hq with rfl|⟨hq,_⟩
   ·exact ⟨hn,hl⟩
   ·exact hok.vn q hq
  ·have:=yjc (L:=mzT ZV) (n:=s.data.toList) (a:=us)
   omega
def dvE (V:CVw) (n:List UInt8):Int:=if (gAt V n).isSome=true then 0 else 6
theorem yu6 (T:CTb) (V:CVw) (n:List UInt8) (hn:n.length≤9223372036854775807):
  ∀H m,yam Try.prog 11 [.pt (.l 2000000 1) 0, .st n] (mem1 1000002 (kWh T V)) H m (KEnd (kWh T V) (kWh T (gDel V n)) (.it .i64 (dvE V n)) H m):=by
 refine ypE (by decide) rfl rfl (yhF _ _) fun G b F vs hg hrep hb hF hV=> ?_
 obtain ⟨x,rfl,hx⟩:=vs1 hV
 obtain ⟨s,rfl,hs⟩:=vrSt hx
 subst hs
 have hr:=yeZ hrep
 obtain ⟨hok,tb,vb,nt,nv,ZT,ZV,h1,h2,h3,h4⟩:=hr
 subst h2;subst h3
 have c1:G.w.cell? ⟨b,1,none⟩=some (.map (some vb)):=by simp[World.cell?,h1.hd]
 refine (ygA Try.func11 (by kernel_rfl) rfl (by decide) (yqT b vb nv ZV s G.w c1 h1.vm.own (bsz rfl hn) h1.vsh h1.ne.2.1)).mono ?_
 rintro e w' (⟨hE,rfl,hbl⟩|⟨hE,rfl,w1,hbl,hturn,hown⟩)
 ·refine ⟨_,F,fun _=>False,rfl,?_⟩
  have hno:gAt (mzT ZV) s.data.toList=none:=by
   have:(gAt (mzT ZV) s.data.toList).isSome=false:=by rw[yky];exact hE
   cases hq:gAt (mzT ZV) s.data.toList with|none=>rfl|some a=>rw[hq] at this;cases this
  rw[yj3 (yiY hno),show dvE (mzT ZV) s.data.toList=6 from if_neg (by rw[hno];decide)]
  exact ydo ⟨hok,tb,vb,nt,nv,ZT,ZV,h1,rfl,rfl,h4⟩ hbl (fun x hx=>hx.elim) fun G' _ _=> .it _ _
 ·obtain ⟨t1,t2,t3,t4,t5⟩:=ygL hturn
  have hsame:∀x,x<G.w.heap.size->x≠vb->w'.heap[x]? =G.w.heap[x]? :=fun x hx hne=>(t5 x hne).trans (hbl.block x hx)
  obtain ⟨hP',hsub⟩:=h1.delV hsame hown
  have hsz:G.w.heap.size<=w'.heap.size:=by rw[t1];exact hbl.size
  rw[show dvE (mzT ZV) s.data.toList=0 from if_pos (by rw[yky];exact hE)]
  refine ⟨_,_,fun _=>False,rfl,ygJ h1 h4 hP' ?_ rfl yrS.symm hsub (fun x hx hq=>hsame x hx fun e=>hq (by subst e;simp[catB])) hsz (t2.trans hbl.os) (t3.trans hbl.tape) (t4.trans hbl.output) fun G' _=> .it _ _⟩
  exact ⟨hok.tb,yjb hok.vw,hok.tn,fun q hq=>hok.vn q (yfH.1 hq).1,⟨hok.ln.1,Nat.le_trans ylo hok.ln.2⟩⟩
end Go.AV
end
noncomputable section
namespace Go.AV
open Go.RowKit Go.RG Go.Proofs Go.Maps Go.Sort Go.Proofs.Ytpplhhknlmcgbaa
def usr (V:CVw) (t:List UInt8):List (List UInt8):=(V.filter fun v=>decide (t∈v.2)).map (·.1)
theorem ykA {ZV:MZ (List (List UInt8))} {t:List UInt8}:(yb9 ZV t fun _=>false)=usr (mzT ZV) t:=by
 unfold yb9 usr mzT
 rw[List.filter_map,List.map_map]
 congr 1
 refine List.filter_congr fun z _=> ?_
 simp
theorem ypY {V:CVw} (h:GS V) (t:List UInt8):(usr V t).Pairwise fun a b=>Op.bytesLess a b=true:=by
 unfold usr
 rw[List.pairwise_map]
 exact List.Pairwise.filter _ h
theorem yl7 {α:Type} {L:GL α} (h:GS L):(L.map (·.1)).Pairwise fun a b=>Op.bytesLess a b=true:=by
 rw[List.pairwise_map];exact h
theorem ytu {α:Type} {Z:MZ α} (h:GS (mzT Z)):(Z.map (·.1)).Nodup:=ytH (ywx h)
theorem yxM (l:List (List UInt8)):(l.flatMap fun s=> [AV.st s]).length=l.length*1:=by rw[yme];simp
theorem yir {w:World} {base:Nat} {v:Value} {ks l:List (List UInt8)} (hl:l.Pairwise fun a b=>Op.bytesLess a b=true) (hp:ks.Perm l) (h:w.ownsRow base 9 1 v ks.length ((ks.mergeSort fun x y=>decide (x≤y)).map encStr)):
  ∃J:Nat->Prop,(∀x,J x->x∈yct v/\base<=x/\x<w.heap.size/\∀ds,w.heap[x]?≠some (.deferred ds))/\∀G':Gh,G'.w=w->(∀x,J x->G'.I x)->VR G' (ssA l) v:=by
 rw[ysK hl hp,hp.length_eq] at h
 exact yoY h (fun G j u x p q=>yyp G l j u x p q) (yxM l) (yvi l)
theorem yvD (T:CTb) (V:CVw) (n:List UInt8) (hn:n.length≤9223372036854775807):
  ∀H m,yam Try.prog 19 [.pt (.l 2000000 1) 0, .st n] (mem1 1000002 (kWh T V)) H m (KEnd (kWh T V) (kWh T V) (ssA (usr V n)) H m):=by
 refine ypE (by decide) rfl rfl (yhF _ _) fun G b F vs hg hrep hb hF hV=> ?_
 obtain ⟨x,rfl,hx⟩:=vs1 hV
 obtain ⟨s,rfl,hs⟩:=vrSt hx
 subst hs
 have hr:=yeZ hrep
 obtain ⟨hok,tb,vb,nt,nv,ZT,ZV,h1,h2,h3,h4⟩:=hr
 subst h2;subst h3
 have c1:G.w.cell? ⟨b,1,none⟩=some (.map (some vb)):=by simp[World.cell?,h1.hd]
 have hln:=hok.ln
 rw[ydu,ydu] at hln
 refine (ygA Try.func19 (by kernel_rfl) rfl (by decide) (ymE b vb nv ZV s G.w c1 h1.vm.own h1.vm.el hln.2 (fun z hz=>(hok.vn _ (ynB hz)).2) (ytu hok.vw))).mono ?_
 rintro e w' ⟨v,ks,rfl,hp,hrow,hbl⟩
 rw[ykA] at hp
 obtain ⟨J,j1,j2⟩:=yir (ypY hok.vw _) hp hrow
 exact ⟨v,F,J,rfl,ydo ⟨hok,tb,vb,nt,nv,ZT,ZV,h1,rfl,rfl,h4⟩ hbl (fun x hx=>(j1 x hx).2) j2⟩
def dpE (T:CTb) (V:CVw) (n:List UInt8):Int:=if (gAt T n).isSome=false then 6 else if 0<(usr V n).length then 15 else 0
def dpT (T:CTb) (V:CVw) (n:List UInt8):CTb:=if dpE T V n=0 then gDel T n else T
theorem yx7 (T:CTb) (V:CVw) (n:List UInt8) (hn:n.length≤9223372036854775807):
  ∀H m,yam Try.prog 7 [.pt (.l 2000000 1) 0, .st n] (mem1 1000002 (kWh T V)) H m (KEnd (kWh T V) (kWh (dpT T V n) V) (.it .i64 (dpE T V n)) H m):=by
 refine ypE (by decide) rfl rfl (yhF _ _) fun G b F vs hg hrep hb hF hV=> ?_
 obtain ⟨x,rfl,hx⟩:=vs1 hV
 obtain ⟨s,rfl,hs⟩:=vrSt hx
 subst hs
 have hr:=yeZ hrep
 obtain ⟨hok,tb,vb,nt,nv,ZT,ZV,h1,h2,h3,h4⟩:=hr
 subst h2;subst h3
 have c0:G.w.cell? ⟨b,0,none⟩=some (.map (some tb)):=by simp[World.cell?,h1.hd]
 have c1:G.w.cell? ⟨b,1,none⟩=some (.map (some vb)):=by simp[World.cell?,h1.hd]
 have hln:=hok.ln
 rw[ydu,ydu] at hln
 have eD:ylA ZT ZV s.data.toList=dpE (mzT ZT) (mzT ZV) s.data.toList:=by unfold ylA dpE;rw[yky,ykA]
 refine (ygA Try.func7 (by kernel_rfl) rfl (by decide) (ysn b tb vb nt nv ZT ZV s G.w c0 c1 h1.tm.own h1.vm.own (bsz rfl hn) h1.tsh h1.vm.el hln.2 (fun z hz=>(hok.vn _ (ynB hz)).2) (ytu hok.vw) (fun z hz x hx=>(h1.blk x (yt6 hz hx)).1) h1.ne.1)).mono ?_
 rw[eD]
 rintro e w' ⟨rfl,⟨hE,hbl⟩|⟨hE,w1,hbl,hturn,hown⟩⟩
 ·refine ⟨_,F,fun _=>False,rfl,?_⟩
  rw[show dpT (mzT ZT) (mzT ZV) s.data.toList=mzT ZT from if_neg hE]
  exact ydo ⟨hok,tb,vb,nt,nv,ZT,ZV,h1,rfl,rfl,h4⟩ hbl (fun x hx=>hx.elim) fun G' _ _=> .it _ _
 ·obtain ⟨t1,t2,t3,t4,t5⟩:=ygL hturn
  have hsame:∀x,x<G.w.heap.size->x≠tb->w'.heap[x]? =G.w.heap[x]? :=fun x hx hne=>(t5 x hne).trans (hbl.block x hx)
  obtain ⟨hP',hsub⟩:=h1.delT hsame hown
  have hsz:G.w.heap.size<=w'.heap.size:=by rw[t1];exact hbl.size
  rw[show dpT (mzT ZT) (mzT ZV) s.data.toList=gDel (mzT ZT) s.data.toList from if_pos hE]
  refine ⟨_,_,fun _=>False,rfl,ygJ h1 h4 hP' ?_ yrS.symm rfl hsub (fun x hx hq=>hsame x hx fun e=>hq (by subst e;simp[catB])) hsz (t2.trans hbl.os) (t3.trans hbl.tape) (t4.trans hbl.output) fun G' _=> .it _ _⟩
  exact ⟨yjb hok.tb,hok.vw,fun q hq=>hok.tn q (yfH.1 hq).1,hok.vn,⟨Nat.le_trans ylo hok.ln.1,hok.ln.2⟩⟩
theorem yvv (T:CTb) (V:CVw):
  ∀H m,yam Try.prog 18 [.pt (.l 2000000 1) 0] (mem1 1000002 (kWh T V)) H m (KEnd (kWh T V) (kWh T V) (.tup [ssA (T.map (·.1)),ssA (V.map (·.1))]) H m):=by
 refine ypE (by decide) rfl rfl (yhF _ _) fun G b F vs hg hrep hb hF hV=> ?_
 have hvs:vs= []:=List.eq_nil_of_length_eq_zero hV.1
 subst hvs
 have hr:=yeZ hrep
 obtain ⟨hok,tb,vb,nt,nv,ZT,ZV,h1,h2,h3,h4⟩:=hr
 subst h2;subst h3
 have c0:G.w.cell? ⟨b,0,none⟩=some (.map (some tb)):=by simp[World.cell?,h1.hd]
 have c1:G.w.cell? ⟨b,1,none⟩=some (.map (some vb)):=by simp[World.cell?,h1.hd]
 have hln:=hok.ln
 rw[ydu,ydu] at hln
 have e1:Maps.size (mzD ZT)=ZT.length:=ydH
 have e2:Maps.size (mzD ZV)=ZV.length:=ydH
 have k1:strKeys (mzD ZT)=(mzT ZT).map (·.1):=by rw[show strKeys (mzD ZT)=ZT.map (·.1) from yr3];unfold mzT;rw[List.map_map];rfl
 have k2:strKeys (mzD ZV)=(mzT ZV).map (·.1):=by rw[show strKeys (mzD ZV)=ZV.map (·.1) from yr3];unfold mzT;rw[List.map_map];rfl
 refine (ygA Try.func18 (by kernel_rfl) rfl (by decide) (ypZ b tb vb nt nv _ _ _ _ G.w c0 c1 h1.tm.own h1.vm.own (by omega) (by omega))).mono ?_
 rintro e w' ⟨v1,v2,s1,s2,rfl,hp1,hp2,hr1,hr2,hbl⟩
 rw[k1] at hp1
 rw[k2] at hp2
 obtain ⟨J1,j1,j2⟩:=yir (yl7 hok.tb) hp1 hr1
 obtain ⟨J2,j3,j4⟩:=yir (yl7 hok.vw) hp2 hr2
 refine ⟨_,F,fun x=>J1 x∨J2 x,rfl,ydo ⟨hok,tb,vb,nt,nv,ZT,ZV,h1,rfl,rfl,h4⟩ hbl (fun x hx=>hx.elim (fun q=>(j1 x q).2) fun q=>(j3 x q).2) fun G' hw hJ=> .tup _ _ rfl fun j u x p q=> ?_⟩
 match j,p,q with
 |0,p,q=>cases p;simp at q;subst q;exact j2 G' hw fun x hx=>hJ x (.inl hx)
 |1,p,q=>cases p;simp at q;subst q;exact j4 G' hw fun x hx=>hJ x (.inr hx)
end Go.AV
end
noncomputable section
namespace Go.AV
open Go.RowKit Go.RG Go.Proofs Go.Maps Go.Sort Go.Proofs.Ytpplhhknlmcgbaa
def tbOf (T:CTb) (n:List UInt8):List UInt8×List Cl×Int:=match gAt T n with
 |some t=>(n,t)
 |none=>([],[],0)
def tbA (t:List UInt8×List Cl×Int):AV:= .agg [.st t.1, .sl false t.2.1.length (t.2.1.flatMap clA), .it .i64 t.2.2]
theorem yuu (T:CTb) (V:CVw) (n:List UInt8) (hn:n.length≤9223372036854775807):
  ∀H m,yam Try.prog 13 [.pt (.l 2000000 1) 0, .st n] (mem1 1000002 (kWh T V)) H m (KEnd (kWh T V) (kWh T V) (.tup [tbA (tbOf T n), .bl (gAt T n).isSome]) H m):=by
 refine ypE (by decide) rfl rfl (yhF _ _) fun G b F vs hg hrep hb hF hV=> ?_
 obtain ⟨x,rfl,hx⟩:=vs1 hV
 obtain ⟨s,rfl,hs⟩:=vrSt hx
 subst hs
 have hr:=yeZ hrep
 obtain ⟨hok,tb,vb,nt,nv,ZT,ZV,h1,h2,h3,h4⟩:=hr
 subst h2;subst h3
 have c0:G.w.cell? ⟨b,0,none⟩=some (.map (some tb)):=by simp[World.cell?,h1.hd]
 cases hq:gAt ZT s.data.toList with
 | none=>
   refine (ygA Try.func13 (by kernel_rfl) rfl (by decide) (ypq b tb nt ZT s G.w c0 h1.tm.own (bsz rfl hn) hq)).mono ?_
   rintro e w' ⟨rfl,hbl⟩
   refine ⟨_,F,fun _=>False,rfl,ydo ⟨hok,tb,vb,nt,nv,ZT,ZV,h1,rfl,rfl,h4⟩ hbl (fun x hx=>hx.elim) fun G' _ _=> ?_⟩
   have e1:gAt (mzT ZT) s.data.toList=none:=by rw[ykK,hq];rfl
   rw[show tbOf (mzT ZT) s.data.toList=([],[],0) from by unfold tbOf;rw[e1],e1]
   refine .tup _ _ rfl fun j u x p q=> ?_
   match j,p,q with
   | 0,p,q=>
     cases p;simp at q;subst q
     refine .agg _ _ rfl (fun i u x p q=> ?_) (fun i x q=> ?_)
     ·match i,p,q with
      |0,p,q=>cases p;simp at q;subst q;exact .st _ _ rfl
      |1,p,q=>cases p;simp at q;subst q;exact .nsl _ _ _ rfl rfl
      |2,p,q=>cases p;simp at q;subst q;exact .it _ _
     ·match i,q with
      |0,q=>simp at q;subst q;rfl
      |1,q=>simp at q;subst q;rfl
      |2,q=>simp at q;subst q;rfl
   |1,p,q=>cases p;simp at q;subst q;exact .bl _
 | some z=>
   obtain ⟨⟨cs,k⟩,v⟩:=z
   have hm:=yi1 hq
   have ht:=hok.tn _ (ynB hm)
   refine (ygA Try.func13 (by kernel_rfl) rfl (by decide) (ypg b tb nt ZT s G.w c0 h1.tm.own (bsz rfl hn) cs k v hq (h1.tm.el _ hm) ht.2.2 ht.2.1)).mono ?_
   rintro e w' ⟨sv,rfl,hrow,hbl⟩
   obtain ⟨J,j1,j2⟩:=yoY hrow (fun G j u x p q=>ysg G cs j u x p q) (ynh cs) (yqx cs)
   refine ⟨_,F,J,rfl,ydo ⟨hok,tb,vb,nt,nv,ZT,ZV,h1,rfl,rfl,h4⟩ hbl (fun x hx=>(j1 x hx).2) fun G' hw hJ=> ?_⟩
   have e1:gAt (mzT ZT) s.data.toList=some (cs,k):=by rw[ykK,hq];rfl
   rw[show tbOf (mzT ZT) s.data.toList=(s.data.toList,cs,k) from by unfold tbOf;rw[e1],e1]
   obtain ⟨ad,m,c,hsv⟩:=yjX hrow
   refine .tup _ _ rfl fun j u x p q=> ?_
   match j,p,q with
   | 0,p,q=>
     cases p;simp at q;subst q
     refine .agg _ _ rfl (fun i u x p q=> ?_) (fun i x q=> ?_)
     ·match i,p,q with
      |0,p,q=>cases p;simp at q;subst q;exact ypJ G' _
      |1,p,q=>cases p;simp at q;subst q;exact j2 G' hw hJ
      |2,p,q=>cases p;simp at q;subst q;exact .it _ _
     ·match i,q with
      |0,q=>simp at q;subst q;rfl
      |1,q=>simp at q;subst q;rw[hsv];rfl
      |2,q=>simp at q;subst q;rfl
   |1,p,q=>cases p;simp at q;subst q;exact .bl _
end Go.AV
end
noncomputable section
namespace Go.Proofs.Ytpplhhknlmcgbaa
open Go.RowKit Go.Maps Go.WideMaps Go.RG
theorem ysX (name:ByteArray) (v:Value) (w:World):Calls Try.prog 15 #[.pointer none, .string name,v] w fun e w'=>e= .returned (.int .i64 1)∧w'=w:=by
 go_enter Try.func15,Try.ntmps15
 go_wp2
 go_ret
 exact ⟨rfl,rfl⟩
theorem ysQ (name:ByteArray) (v:Value) (w:World):Calls Try.prog 9 #[.pointer none, .string name,v] w fun e w'=>e= .returned (.int .i64 1)∧w'=w:=by
 go_enter Try.func9,Try.ntmps9
 go_wp2
 go_ret
 exact ⟨rfl,rfl⟩
theorem ysd (name:ByteArray) (w:World):Calls Try.prog 11 #[.pointer none, .string name] w fun e w'=>e= .returned (.int .i64 1)∧w'=w:=by
 go_enter Try.func11,Try.ntmps11
 go_wp2
 go_ret
 exact ⟨rfl,rfl⟩
theorem ys7 (name:ByteArray) (w:World):Calls Try.prog 7 #[.pointer none, .string name] w fun e w'=>e= .returned (.int .i64 1)∧Below w.heap.size w w':=by
 go_enter Try.func7,Try.ntmps7
 go_wp2
 go_ret
 exact ⟨rfl,by first|exact Below.refl _ _|exact (Below.refl _ w).alloc (Nat.le_refl _) _⟩
theorem yqK (name:ByteArray) (w:World):Calls Try.prog 19 #[.pointer none, .string name] w fun e w'=>e= .returned (.slice none 0 0)∧w'=w:=by
 go_enter Try.func19,Try.ntmps19
 go_wp2
 go_ret
 exact ⟨rfl,rfl⟩
theorem yrl (w:World):Calls Try.prog 18 #[.pointer none] w fun e w'=>e= .returned (.tuple #[.slice none 0 0, .slice none 0 0])∧w'=w:=by
 go_enter Try.func18,Try.ntmps18
 go_wp2
 go_ret2
 exact ⟨rfl,rfl⟩
theorem yqt (name:ByteArray) (w:World):Calls Try.prog 13 #[.pointer none, .string name] w fun e w'=>e= .returned (.tuple #[.agg #[.string ⟨#[]⟩, .slice none 0 0, .int .i64 0], .bool false])∧Below w.heap.size w w':=by
 go_enter Try.func13,Try.ntmps13
 go_wp2
 refine bodyPost_ret (v:= .tuple #[.agg #[.string ⟨#[]⟩, .slice none 0 0, .int .i64 0], .bool false]) ?_ rfl ?_
 ·rw[results_cell_tmp rfl]
  go_simp
 exact ⟨rfl,by first|exact Below.refl _ _|exact (Below.refl _ w).alloc (Nat.le_refl _) _|exact ((Below.refl _ w).alloc (Nat.le_refl _) _).setCell (Nat.le_refl _) _|exact ((((Below.refl _ w).alloc (Nat.le_refl _) _).setCell (Nat.le_refl _) _).setCell (Nat.le_refl _) _).setCell (Nat.le_refl _) _⟩
end Go.Proofs.Ytpplhhknlmcgbaa
namespace Go.AV
open Go.RowKit Go.RG Go.Proofs Go.Maps Go.Sort Go.Proofs.Ytpplhhknlmcgbaa
def ypw (w:World):World:=((w.alloc (.map #[] 0)).alloc (.map #[] 0)).alloc (.cells #[.map (some w.heap.size), .map (some (w.heap.size+1))] 68 (0,0))
theorem ysC (w:World):CatR (ypw w) (w.heap.size+2) (fun x=>x=w.heap.size∨x=w.heap.size+1) [] []:=by
 have s1:=ycT w (.map #[] 0)
 have s2:=ycT (w.alloc (.map #[] 0)) (.map #[] 0)
 refine ⟨⟨.nil, .nil,fun p h=>(by cases h),fun p h=>(by cases h),by decide⟩,w.heap.size,w.heap.size+1,0,0,[],[],⟨?_,⟨?_,fun z h=>(by cases h)⟩,⟨?_,fun z h=>(by cases h)⟩,by simp[catB]⟩,rfl,rfl,fun x=>by simp[catB]⟩
 ·have:=yfj ((w.alloc (.map #[] 0)).alloc (.map #[] 0)) (.cells #[.map (some w.heap.size), .map (some (w.heap.size+1))] 68 (0,0))
  rw[s2,s1] at this
  exact this
 ·exact yaP (World.ownsMap_made w _ _ _) ((ygP _ _ (by rw[s2,s1];omega)).trans (ygP _ _ (by rw[s1];omega)))
 ·have:=World.ownsMap_made (H:=Value) (w.alloc (.map #[] 0)) Try.prog 9 ycu
  rw[s1] at this
  exact yaP this (ygP _ _ (by rw[s2,s1];omega))
theorem yxB:∀H m,yam Try.prog 6 [] (fun _=>none) H m fun av S1=>av= .pt (.l 1000000 1) 0∧S1={lSt (fun _=>none) H m with M:=updK (lSt (fun _=>none) H m).M (.l 1000000 1) (some ⟨1000002,0,kWh [] []⟩)}:=by
 refine yyX (by decide) rfl (yhF _ _) fun G vs hg hV=> ?_
 have hvs:vs= #[]:=by
  have:=hV.1
  simpa using this
 subst hvs
 refine (ygA Try.func6 (by kernel_rfl) rfl (by decide) (ywl G.w)).mono ?_
 rintro e w' ⟨rfl,rfl⟩
 have s1:=ycT G.w (.map #[] 0)
 have s2:=ycT (G.w.alloc (.map #[] 0)) (.map #[] 0)
 have s3:=ycT ((G.w.alloc (.map #[] 0)).alloc (.map #[] 0)) (.cells #[.map (some G.w.heap.size), .map (some (G.w.heap.size+1))] 68 (0,0))
 have hr':=ysC G.w
 have hsz:(ypw G.w).heap.size=G.w.heap.size+3:=by unfold ypw;rw[s3,s2,s1]
 have hb:Below G.w.heap.size G.w (ypw G.w):=by
  unfold ypw
  exact (((Below.refl _ G.w).alloc (Nat.le_refl _) _).alloc (by rw[s1];omega) _).alloc (by rw[s2,s1];omega) _
 obtain ⟨_,tb,vb,nt,nv,ZT,ZV,h1,h2,h3,h4⟩:=id hr'
 have hm:∀x,x=G.w.heap.size∨x=G.w.heap.size+1->x∈catB (G.w.heap.size+2) tb vb ZT ZV:=fun x hx=>List.mem_of_mem_tail ((h4 x).1 hx)
 refine ⟨G.w.heap.size+2,fun x=>x=G.w.heap.size∨x=G.w.heap.size+1,rfl,⟨by omega,by show _<(ypw G.w).heap.size;rw[hsz];omega⟩,ynH hr',fun x hx=>⟨by omega,(h1.blk x (hm x hx)).1,by omega⟩,fun x hx=>(h1.blk x (hm x hx)).2,⟨_,h1.hd,fun ds q=>by cases q⟩,fun x hx=>hb.block x hx,hb.size,hb.os,hb.tape,hb.output⟩
end Go.AV
end
noncomputable section
namespace Go.AV
open Go.RowKit Go.RG Go.Proofs Go.Proofs.Ytpplhhknlmcgbaa
theorem yji {P:Program} {f:FuncId} {args:List AV} {av:AV} (h:∀(G:Gh) (vs:List Value),GOK P G.w G.I→VRs G args vs→XW P f vs.toArray G.w fun en w'=>∃v,en= .returned v∧Below G.w.heap.size G.w w'∧∀G':Gh,VR G' av v):
  ∀mem H n,yam P f args mem H n fun av' S1=>av'=av/\S1=lSt mem H n:=by
 intro mem H n G vs hg hM hV
 have h0:=h G vs.toList hg hV
 rw[Array.toArray_toList] at h0
 refine h0.mono ?_
 rintro en w' ⟨v,rfl,hbl,hv⟩
 obtain ⟨G',g1,_,g3⟩:=hM.grow hbl.size hbl.block hbl.os hbl.tape hbl.output
 exact ⟨v,av,lSt mem H n,G',rfl,⟨rfl,rfl⟩,g1,g3,hv G'⟩
theorem vs3 {G:Gh} {u v x:AV} {vs:List Value} (h:VRs G [u,v,x] vs):∃a b c,vs= [a,b,c]∧VR G u a∧VR G v b∧VR G x c:=by
 obtain ⟨h1,h2⟩:=h
 match vs,h1 with
 | [a,b,c],_=>exact ⟨a,b,c,rfl,h2 0 u a rfl rfl,h2 1 v b rfl rfl,h2 2 x c rfl rfl⟩
theorem vrN {G:Gh} {v:Value} (h:VR G .nptr v):v= .pointer none:=by
 cases h with
 |nptr=>rfl
theorem yw8 (n:List UInt8) (u:AV):∀mem H m,yam Try.prog 15 [.nptr, .st n,u] mem H m fun av' S1=>av'= .it .i64 1∧S1=lSt mem H m:=yji fun G vs hg hV=>by
 obtain ⟨p,x,y,rfl,hp,hx,hy⟩:=vs3 hV
 rw[vrN hp]
 obtain ⟨s,rfl,hs⟩:=vrSt hx
 exact (ygA Try.func15 (by kernel_rfl) rfl (by decide) (ysX s y G.w)).mono fun e w' ⟨q1,q2⟩=>⟨_,q1,q2▸Below.refl _ _,fun G'=> .it _ _⟩
theorem yye (n:List UInt8) (u:AV):∀mem H m,yam Try.prog 9 [.nptr, .st n,u] mem H m fun av' S1=>av'= .it .i64 1∧S1=lSt mem H m:=yji fun G vs hg hV=>by
 obtain ⟨p,x,y,rfl,hp,hx,hy⟩:=vs3 hV
 rw[vrN hp]
 obtain ⟨s,rfl,hs⟩:=vrSt hx
 exact (ygA Try.func9 (by kernel_rfl) rfl (by decide) (ysQ s y G.w)).mono fun e w' ⟨q1,q2⟩=>⟨_,q1,q2▸Below.refl _ _,fun G'=> .it _ _⟩
theorem yuJ (n:List UInt8):∀mem H m,yam Try.prog 11 [.nptr, .st n] mem H m fun av' S1=>av'= .it .i64 1∧S1=lSt mem H m:=yji fun G vs hg hV=>by
 obtain ⟨p,x,rfl,hp,hx⟩:=vs2 hV
 rw[vrN hp]
 obtain ⟨s,rfl,hs⟩:=vrSt hx
 exact (ygA Try.func11 (by kernel_rfl) rfl (by decide) (ysd s G.w)).mono fun e w' ⟨q1,q2⟩=>⟨_,q1,q2▸Below.refl _ _,fun G'=> .it _ _⟩
theorem yxs (n:List UInt8):∀mem H m,yam Try.prog 7 [.nptr, .st n] mem H m fun av' S1=>av'= .it .i64 1∧S1=lSt mem H m:=yji fun G vs hg hV=>by
 obtain ⟨p,x,rfl,hp,hx⟩:=vs2 hV
 rw[vrN hp]
 obtain ⟨s,rfl,hs⟩:=vrSt hx
 exact (ygA Try.func7 (by kernel_rfl) rfl (by decide) (ys7 s G.w)).mono fun e w' ⟨q1,q2⟩=>⟨_,q1,q2,fun G'=> .it _ _⟩
theorem ywf (n:List UInt8):∀mem H m,yam Try.prog 19 [.nptr, .st n] mem H m fun av' S1=>av'=ssA []∧S1=lSt mem H m:=yji fun G vs hg hV=>by
 obtain ⟨p,x,rfl,hp,hx⟩:=vs2 hV
 rw[vrN hp]
 obtain ⟨s,rfl,hs⟩:=vrSt hx
 exact (ygA Try.func19 (by kernel_rfl) rfl (by decide) (yqK s G.w)).mono fun e w' ⟨q1,q2⟩=>⟨_,q1,q2▸Below.refl _ _,fun G'=> .nsl _ _ _ rfl rfl⟩
theorem ywb:∀mem H m,yam Try.prog 18 [.nptr] mem H m fun av' S1=>av'= .tup [ssA [],ssA []]∧S1=lSt mem H m:=yji fun G vs hg hV=>by
 obtain ⟨p,rfl,hp⟩:=vs1 hV
 rw[vrN hp]
 refine (ygA Try.func18 (by kernel_rfl) rfl (by decide) (yrl G.w)).mono fun e w' ⟨q1,q2⟩=>⟨_,q1,q2▸Below.refl _ _,fun G'=> .tup _ _ rfl fun j u x p q=> ?_⟩
 match j,p,q with
 |0,p,q=>cases p;simp at q;subst q;exact .nsl _ _ _ rfl rfl
 |1,p,q=>cases p;simp at q;subst q;exact .nsl _ _ _ rfl rfl
theorem ysO (G':Gh):VR G' (.tup [tbA ([],[],0), .bl false]) (.tuple #[.agg #[.string ⟨#[]⟩, .slice none 0 0, .int .i64 0], .bool false]):=by
 refine .tup _ _ rfl fun j u x p q=> ?_
 match j,p,q with
 | 0,p,q=>
   cases p;simp at q;subst q
   refine .agg _ _ rfl (fun i u x p q=> ?_) (fun i x q=> ?_)
   ·match i,p,q with
    |0,p,q=>cases p;simp at q;subst q;exact .st _ _ rfl
    |1,p,q=>cases p;simp at q;subst q;exact .nsl _ _ _ rfl rfl
    |2,p,q=>cases p;simp at q;subst q;exact .it _ _
   ·match i,q with
    |0,q=>simp at q;subst q;rfl
    |1,q=>simp at q;subst q;rfl
    |2,q=>simp at q;subst q;rfl
 |1,p,q=>cases p;simp at q;subst q;exact .bl _
theorem yvp (n:List UInt8):∀mem H m,yam Try.prog 13 [.nptr, .st n] mem H m fun av' S1=>av'= .tup [tbA ([],[],0), .bl false]∧S1=lSt mem H m:=yji fun G vs hg hV=>by
 obtain ⟨p,x,rfl,hp,hx⟩:=vs2 hV
 rw[vrN hp]
 obtain ⟨s,rfl,hs⟩:=vrSt hx
 exact (ygA Try.func13 (by kernel_rfl) rfl (by decide) (yqt s G.w)).mono fun e w' ⟨q1,q2⟩=>⟨_,q1,q2,fun G'=>ysO G'⟩
end Go.AV
end
noncomputable section
namespace Go.AV
open Go.RowKit Go.RG Go.Proofs.Ytpplhhknlmcgbaa
theorem yt8 {P:Program} {f:FuncId} {e:Nat} {us us' rest:List AV} {av:AV} {mem:Nat→Option Blk} (hmem:mem 2000000=some ⟨e,0,us⟩) (he:1000000≤e) (hrc:isRc us=false) (hrc':isRc us'=false) (hnl':noLs us'=true)
  (h:∀(G:Gh) (b:Nat) (F:Nat→Prop) (vs:List Value) (H:Hp) (n:Nat),GOK P G.w G.I→MRel (yaS G n) (lSt mem H n) G→opqR e (dwks us) G.w b F→b<G.w.heap.size→(∀x,F x→x<G.w.heap.size)→VRs G rest vs→
    XW P f (Value.pointer (some ⟨b,0,none⟩)::vs).toArray G.w fun en w'=>∃v F' J,en= .returned v/\yoR e us' av G.w b F v w' F' J):
  ∀H n,yam P f (.pt (.l 2000000 1) 0::rest) mem H n fun av' S1=>av'=av/\S1={lSt mem H n with M:=updK (lSt mem H n).M (.l 2000000 1) (some ⟨e,0,us'⟩)}:=by
 intro H n G vs hg hM hV
 have hb0:(lSt mem H n).M (.l 2000000 1)=some ⟨e,0,us⟩:=by show (if 1=1 then mem 2000000 else none)=_;exact hmem
 have ho:opq ⟨e,0,us⟩=true:=by simp[opq,he]
 obtain ⟨r,hr,_⟩:=hM.κsome hb0
 obtain ⟨_,hrep⟩:=hM.fo.rep _ _ r hb0 hr ho hrc
 obtain ⟨hl,hV'⟩:=hV
 cases hvs:vs.toList with
 |nil=>rw[hvs] at hl;simp at hl
 | cons v0 vr=>
   rw[hvs] at hl hV'
   have h0:=hV' 0 _ v0 rfl rfl
   obtain ⟨g,cap,hk,rfl⟩:=VR.pt_inv hM (show yaT (lSt mem H n) (.l 2000000 1)=true by unfold yaT;rw[hb0];rfl) h0
   rw[hr] at hk;cases hk
   have hcall:=h G g (G.ft (.l 2000000 1)) vr H n hg hM hrep (hM.apart _ _ hr).2 (fun x q=>(hM.fo.ap _ x ⟨⟨_,hr⟩,q⟩).2) ⟨by simpa using hl,fun j u x p q=>hV' (j+1) u x (by simpa using p) (by simpa using q)⟩
   have hva:(Value.pointer (some ⟨g,0,none⟩)::vr).toArray=vs:=by rw[<-hvs]
   rw[hva] at hcall
   refine hcall.mono ?_
   rintro en w' ⟨v,F',J,rfl,q⟩
   obtain ⟨G1,a1,a2,a2',a3,a4⟩:=hM.turn hb0 hr ho hrc' hnl' q.same q.fF q.nd q.hd q.rep q.size q.os q.tape q.output
   obtain ⟨G2,b1,b2,b3,b4,b5⟩:=a3.more (J:=J) fun x hx=>by
    obtain ⟨j1,j2,j3,j4⟩:=q.jJ x hx
    refine ⟨j1,by rw[a1];exact j2,fun k r' hk'=>⟨fun e'=> ?_,fun e'=> ?_⟩,by rw[a1];exact j4⟩
    ·rw[a2] at hk'
     have:=(hM.apart k r' hk').2;omega
    ·rcases a2' k x ⟨⟨r',hk'⟩,e'⟩ with z|z
     ·exact j3 z
     ·have:=(hM.fo.ap k x z).2;omega
   exact ⟨v,av,_,G2,rfl,⟨rfl,rfl⟩,b4,b1.trans a1,q.v G2 (b1.trans a1) b3⟩
theorem yvA {G:Gh} {H:Hp} {n ct:Nat} {mem:Nat→Option Blk} {cs:List Cl} {v:Value} (hM:MRel (yaS G n) (lSt mem H n) G) (hmem:mem 2000001=some ⟨ct,3,cs.flatMap clA⟩) (hv:VR G (.gs (.l 2000001 1) cs.length) v):yfo G.w v cs:=by
 have hb0:(lSt mem H n).M (.l 2000001 1)=some ⟨ct,3,cs.flatMap clA⟩:=by show (if 1=1 then mem 2000001 else none)=_;exact hmem
 obtain ⟨g,cap,hk,rfl⟩:=VR.gs_inv hM (show yaT (lSt mem H n) (.l 2000001 1)=true by unfold yaT;rw[hb0];rfl) hv
 have hblk:=hM.blk (.l 2000001 1)
 rw[hb0,hk] at hblk
 obtain ⟨cur,c1,c2,c3,c4,c5,c6,c7⟩:yjW G ⟨ct,3,cs.flatMap clA⟩ g cap:=by simpa [yal] using hblk
 have hlen:=ynh cs
 have key:∀k c,cs[k]? =some c→∀i u,i<3→(clA c)[i]? =some u→∃x,cur[k*3+i]? =some x∧VR G u x:=fun k c hk' i u hi hu=>by
  have e:(cs.flatMap clA)[k*3+i]? =some u:=(yq4 cs k i c hk' hi).trans hu
  have hj:k*3+i<cur.size:=Nat.lt_of_lt_of_le (List.getElem?_eq_some_iff.1 e).1 c5
  exact ⟨cur[k*3+i],Array.getElem?_eq_getElem hj,c6 _ _ _ e (Array.getElem?_eq_getElem hj)⟩
 refine .inr ⟨g,0,cap,rfl,?_,?_,?_,(Array.getElem?_eq_some_iff.1 c1).1⟩
 ·intro k c hk'
  obtain ⟨x,a1,a2⟩:=key k c hk' 0 _ (by decide) rfl
  rw[Nat.zero_add,yhl c1,show k*3=k*3+0 from rfl,a1,vrB a2]
 ·intro k c hk'
  obtain ⟨x,a1,a2⟩:=key k c hk' 1 _ (by decide) rfl
  rw[Nat.zero_add,yhl c1,a1,VR.it_inv a2]
 ·intro k c hk'
  obtain ⟨x,a1,a2⟩:=key k c hk' 2 _ (by decide) rfl
  rw[Nat.zero_add,yhl c1,a1,VR.bl_inv a2]
end Go.AV
end
noncomputable section
namespace Go.AV
open Go.RowKit Go.RG Go.Proofs Go.Maps Go.Sort Go.Proofs.Ytpplhhknlmcgbaa
theorem yvg {mem:Nat→Option Blk} {u:AV} (T:CTb) (V:CVw) (n:List UInt8) (cs:List Cl) (hn:n.length≤9223372036854775807) (hl:cs.length≤1000000) (hc:∀c∈cs,c.1.length≤9223372036854775807) (hmem:mem 2000000=some ⟨1000002,0,kWh T V⟩) (hu:∀(G:Gh) (H:Hp) (n:Nat) (v:Value),MRel (yaS G n) (lSt mem H n) G→VR G u v→yfo G.w v cs):
  ∀H m,yam Try.prog 15 [.pt (.l 2000000 1) 0, .st n,u] mem H m fun av' S1=>av'= .it .i64 (mkE T V n cs)/\S1={lSt mem H m with M:=updK (lSt mem H m).M (.l 2000000 1) (some ⟨1000002,0,kWh (mkT T V n cs) V⟩)}:=by
 refine yt8 hmem (by decide) rfl rfl (yhF _ _) fun G b F vs H0 n0 hg hM hrep hb hF hV=> ?_
 obtain ⟨x,y,rfl,hx,hy⟩:=vs2 hV
 obtain ⟨s,rfl,hs⟩:=vrSt hx
 subst hs
 have hcin:=hu G H0 n0 y hM hy
 have hr:=yeZ hrep
 obtain ⟨hok,tb,vb,nt,nv,ZT,ZV,h1,h2,h3,h4⟩:=hr
 subst h2;subst h3
 have hP:=h1.tight
 have c0:G.w.cell? ⟨b,0,none⟩=some (.map (some tb)):=by simp[World.cell?,h1.hd]
 have c1:G.w.cell? ⟨b,1,none⟩=some (.map (some vb)):=by simp[World.cell?,h1.hd]
 have hln:=hok.ln
 rw[ydu,ydu] at hln
 obtain ⟨s0,a,m,c,k,hsh⟩:=h1.tsh s.data.toList
 obtain ⟨a',m',c',hsv⟩:=h1.vsh s.data.toList
 refine (ygA Try.func15 (by kernel_rfl) rfl (by decide) (ysM b tb vb ZV.length ZT ZV s y cs G.w c0 c1 hP.tm.own hP.vm.own (bsz rfl hn) s0 a m c k hsh a' m' c' hsv (by unfold maxLen;omega) h1.ne.1 hcin hl hc)).mono ?_
 rw[ytf]
 rintro e w' ⟨rfl,⟨hE,hbl⟩|⟨hE,w1,sv,hbl,hrow,hturn,hown⟩⟩
 ·refine ⟨_,F,fun _=>False,rfl,?_⟩
  rw[show mkT (mzT ZT) (mzT ZV) s.data.toList cs=mzT ZT from if_neg hE]
  exact ydo ⟨hok,tb,vb,nt,nv,ZT,ZV,h1,rfl,rfl,h4⟩ hbl (fun x hx=>hx.elim) fun G' _ _=> .it _ _
 ·obtain ⟨t1,t2,t3,t4,t5⟩:=ygL hturn
  obtain ⟨hno,hnv,hlt,hre⟩:=ysV hE
  have hnoZ:gAt ZT s.data.toList=none:=by rw[ykK] at hno;simpa using hno
  have hsame:∀x,x<G.w.heap.size->x≠tb->w'.heap[x]? =G.w.heap[x]? :=fun x hx hne=>(t5 x hne).trans (hbl.block x hx)
  have hrow':w'.ownsRow G.w.heap.size 54 3 sv cs.length (cs.flatMap clV):=ybe hrow fun x hx=>t5 x (fun e=>by
   have:=(ycO hrow x hx).1
   have:=(h1.blk tb (by simp[catB])).1
   omega)
  obtain ⟨hP',hsub⟩:=h1.addT (z:=((cs,((kSt cs cs.length).1:Int)), .agg #[.string s,sv, .int .i64 (kSt cs cs.length).1])) hsame hown hnoZ ⟨sv,by rw[ylc],ydP hrow' (Nat.zero_le _)⟩ (fun x hx=>(ycO hrow' x (by simpa [yev] using hx)).1) (by
   simp only[yev]
   show (yct sv).Nodup
   rcases hrow.2 with ⟨rfl,_⟩|⟨g,cap,cur,rfl,_⟩<;>simp[yct])
  have hput:mkT (mzT ZT) (mzT ZV) s.data.toList cs=mzT (gPut ZT s.data.toList ((cs,((kSt cs cs.length).1:Int)), .agg #[.string s,sv, .int .i64 (kSt cs cs.length).1])):=by
   rw[ynp];exact if_pos hE
  have hsz:G.w.heap.size<=w'.heap.size:=by rw[t1];exact hbl.size
  refine ⟨_,_,fun _=>False,rfl,ygJ h1 h4 hP' ?_ hput rfl hsub (fun x hx hq=>hsame x hx fun e=>hq (by subst e;simp[catB])) hsz (t2.trans hbl.os) (t3.trans hbl.tape) (t4.trans hbl.output) fun G' _=> .it _ _⟩
  rw[show mkT (mzT ZT) (mzT ZV) s.data.toList cs=gPut (mzT ZT) s.data.toList (cs,((kSt cs cs.length).1:Int)) from if_pos hE]
  refine ⟨yi6 hok.tb,hok.vw,fun q hq=> ?_,hok.vn,⟨?_,hok.ln.2⟩⟩
  ·rcases yfR.1 hq with rfl|⟨hq,_⟩
   ·exact ⟨hn,hl,(yii hre).1⟩
   ·exact hok.tn q hq
  ·have:=yjc (L:=mzT ZT) (n:=s.data.toList) (a:=(cs,((kSt cs cs.length).1:Int)))
   omega
theorem yuB {G:Gh} {H:Hp} {n ct:Nat} {mem:Nat→Option Blk} {us:List (List UInt8)} {v:Value} (hM:MRel (yaS G n) (lSt mem H n) G) (hmem:mem 2000001=some ⟨ct,1,us.flatMap fun s=> [.st s]⟩) (hv:VR G (.gs (.l 2000001 1) us.length) v):yd7 G.w v us:=by
 rw[yme] at hmem
 have hb0:(lSt mem H n).M (.l 2000001 1)=some ⟨ct,1,us.map AV.st⟩:=by show (if 1=1 then mem 2000001 else none)=_;exact hmem
 obtain ⟨g,cap,hk,rfl⟩:=VR.gs_inv hM (show yaT (lSt mem H n) (.l 2000001 1)=true by unfold yaT;rw[hb0];rfl) hv
 have hblk:=hM.blk (.l 2000001 1)
 rw[hb0,hk] at hblk
 obtain ⟨cur,c1,c2,c3,c4,c5,c6,c7⟩:yjW G ⟨ct,1,us.map AV.st⟩ g cap:=by simpa [yal] using hblk
 refine .inr ⟨g,0,cap,rfl,?_,(Array.getElem?_eq_some_iff.1 c1).1⟩
 intro k u hk'
 have e:(us.map AV.st)[k]? =some (.st u):=by rw[List.getElem?_map,hk'];rfl
 have hj:k<cur.size:=Nat.lt_of_lt_of_le (List.getElem?_eq_some_iff.1 e).1 c5
 rw[Nat.zero_add,yhl c1,Array.getElem?_eq_getElem hj,vrB (c6 _ _ _ e (Array.getElem?_eq_getElem hj))]
theorem yuQ {mem:Nat→Option Blk} {u:AV} (T:CTb) (V:CVw) (n:List UInt8) (us:List (List UInt8)) (hn:n.length≤9223372036854775807) (hl:us.length≤1000000) (hc:∀u∈us,u.length≤9223372036854775807) (hmem:mem 2000000=some ⟨1000002,0,kWh T V⟩) (hu:∀(G:Gh) (H:Hp) (n:Nat) (v:Value),MRel (yaS G n) (lSt mem H n) G→VR G u v→yd7 G.w v us):
  ∀H m,yam Try.prog 9 [.pt (.l 2000000 1) 0, .st n,u] mem H m fun av' S1=>av'= .it .i64 (vwE T V n us)/\S1={lSt mem H m with M:=updK (lSt mem H m).M (.l 2000000 1) (some ⟨1000002,0,kWh T (vwT T V n us)⟩)}:=by
 refine yt8 hmem (by decide) rfl rfl (yhF _ _) fun G b F vs H0 n0 hg hM hrep hb hF hV=> ?_
 obtain ⟨x,y,rfl,hx,hy⟩:=vs2 hV
 obtain ⟨s,rfl,hs⟩:=vrSt hx
 subst hs
 have hcin:=hu G H0 n0 y hM hy
 have hr:=yeZ hrep
 obtain ⟨hok,tb,vb,nt,nv,ZT,ZV,h1,h2,h3,h4⟩:=hr
 subst h2;subst h3
 have hP:=h1.tight
 have c0:G.w.cell? ⟨b,0,none⟩=some (.map (some tb)):=by simp[World.cell?,h1.hd]
 have c1:G.w.cell? ⟨b,1,none⟩=some (.map (some vb)):=by simp[World.cell?,h1.hd]
 have hln:=hok.ln
 rw[ydu,ydu] at hln
 refine (ygA Try.func9 (by kernel_rfl) rfl (by decide) (yp9 b tb vb ZT.length ZV s y us G.w c0 c1 hP.tm.own hP.vm.own (bsz rfl hn) h1.tsh h1.vsh (by unfold maxLen;omega) h1.ne.2.1 hcin hl hc)).mono ?_
 rw[yoU]
 rintro e w' ⟨rfl,⟨hE,hbl⟩|⟨hE,w1,sv,hbl,hrow,hturn,hown⟩⟩
 ·refine ⟨_,F,fun _=>False,rfl,?_⟩
  rw[show vwT (mzT ZT) (mzT ZV) s.data.toList us=mzT ZV from if_neg hE]
  exact ydo ⟨hok,tb,vb,nt,nv,ZT,ZV,h1,rfl,rfl,h4⟩ hbl (fun x hx=>hx.elim) fun G' _ _=> .it _ _
 ·obtain ⟨t1,t2,t3,t4,t5⟩:=ygL hturn
  obtain ⟨hno,hlt⟩:=yoj hE
  have hnoZ:gAt ZV s.data.toList=none:=by rw[ykK] at hno;simpa using hno
  have hsame:∀x,x<G.w.heap.size->x≠vb->w'.heap[x]? =G.w.heap[x]? :=fun x hx hne=>(t5 x hne).trans (hbl.block x hx)
  have hrow':w'.ownsRow G.w.heap.size 9 1 sv us.length (us.map bStr):=ybe hrow fun x hx=>t5 x (fun e=>by
   have:=(ycO hrow x hx).1
   have:=(h1.blk vb (by simp[catB])).1
   omega)
  obtain ⟨hP',hsub⟩:=h1.addV (z:=(us,sv)) hsame hown hnoZ (ydP hrow' (Nat.zero_le _)) (fun x hx=>(ycO hrow' x hx).1) (ytT hrow)
  have hput:vwT (mzT ZT) (mzT ZV) s.data.toList us=mzT (gPut ZV s.data.toList (us,sv)):=by
   rw[ynp];exact if_pos hE
  have hsz:G.w.heap.size<=w'.heap.size:=by rw[t1];exact hbl.size
  refine ⟨_,_,fun _=>False,rfl,ygJ h1 h4 hP' ?_ rfl hput hsub (fun x hx hq=>hsame x hx fun e=>hq (by subst e;simp[catB])) hsz (t2.trans hbl.os) (t3.trans hbl.tape) (t4.trans hbl.output) fun G' _=> .it _ _⟩
  rw[show vwT (mzT ZT) (mzT ZV) s.data.toList us=gPut (mzT ZV) s.data.toList us from if_pos hE]
  refine ⟨hok.tb,yi6 hok.vw,hok.tn,fun q hq=> ?_,⟨hok.ln.1,?_⟩⟩
  ·rcases yfR.1 hq with rfl|⟨hq,_⟩
   ·exact ⟨hn,hl⟩
   ·exact hok.vn q hq
  ·have:=yjc (L:=mzT ZV) (n:=s.data.toList) (a:=us)
   omega
end Go.AV
end
noncomputable section
namespace Go.AV
open Go.RowKit Go.RG Go.Proofs Go.Maps Go.Sort Go.Proofs.Ytpplhhknlmcgbaa
theorem ytn {G:Gh} {v:Value} (h:VR G (.sl true 0 []) v):yfo G.w v []:=by
 cases h with
 |nsl=>exact .inl ⟨rfl,_,_,rfl⟩
theorem ys3 {G:Gh} {v:Value} (h:VR G (.sl true 0 []) v):yd7 G.w v []:=by
 cases h with
 |nsl=>exact .inl ⟨rfl,_,_,rfl⟩
theorem ywe (T:CTb) (V:CVw) (n:List UInt8) (cs:List Cl) (hn:n.length≤9223372036854775807) (hl:cs.length≤1000000) (hc:∀c∈cs,c.1.length≤9223372036854775807) {ct:Nat} {mem:Nat→Option Blk} {u:AV}
  (hmem:mem 2000000=some ⟨1000002,0,kWh T V⟩) (h:(u= .sl true 0 []/\cs= [])∨(u= .gs (.l 2000001 1) cs.length/\mem 2000001=some ⟨ct,3,cs.flatMap clA⟩)):
  ∀H m,yam Try.prog 15 [.pt (.l 2000000 1) 0, .st n,u] mem H m fun av' S1=>av'= .it .i64 (mkE T V n cs)/\S1={lSt mem H m with M:=updK (lSt mem H m).M (.l 2000000 1) (some ⟨1000002,0,kWh (mkT T V n cs) V⟩)}:=
 yvg T V n cs hn hl hc hmem fun G H m v hM hv=>by
  rcases h with ⟨rfl,rfl⟩|⟨rfl,h2⟩
  ·exact ytn hv
  ·exact yvA hM h2 hv
theorem yuL (T:CTb) (V:CVw) (n:List UInt8) (us:List (List UInt8)) (hn:n.length≤9223372036854775807) (hl:us.length≤1000000) (hc:∀u∈us,u.length≤9223372036854775807) {ct:Nat} {mem:Nat→Option Blk} {u:AV}
  (hmem:mem 2000000=some ⟨1000002,0,kWh T V⟩) (h:(u= .sl true 0 []/\us= [])∨(u= .gs (.l 2000001 1) us.length/\mem 2000001=some ⟨ct,1,us.flatMap fun s=> [.st s]⟩)):
  ∀H m,yam Try.prog 9 [.pt (.l 2000000 1) 0, .st n,u] mem H m fun av' S1=>av'= .it .i64 (vwE T V n us)/\S1={lSt mem H m with M:=updK (lSt mem H m).M (.l 2000000 1) (some ⟨1000002,0,kWh T (vwT T V n us)⟩)}:=
 yuQ T V n us hn hl hc hmem fun G H m v hM hv=>by
  rcases h with ⟨rfl,rfl⟩|⟨rfl,h2⟩
  ·exact ys3 hv
  ·exact yuB hM h2 hv
end Go.AV
end
noncomputable section
namespace Go.Proofs.Ytpplhhknlmcgbaa
open Go.AV
set_option maxRecDepth 1000000
def c3:AFn:=cF Try.prog 3
theorem t3:trF Try.prog 3=some c3:=tF (by kernel_rfl)
def c5:AFn:=cF Try.prog 5
theorem t5:trF Try.prog 5=some c5:=tF (by kernel_rfl)
def c8:AFn:=cF Try.prog 8
theorem t8:trF Try.prog 8=some c8:=tF (by kernel_rfl)
def c10:AFn:=cF Try.prog 10
theorem t10:trF Try.prog 10=some c10:=tF (by kernel_rfl)
def c12:AFn:=cF Try.prog 12
theorem t12:trF Try.prog 12=some c12:=tF (by kernel_rfl)
def c14:AFn:=cF Try.prog 14
theorem t14:trF Try.prog 14=some c14:=tF (by kernel_rfl)
def c16:AFn:=cF Try.prog 16
theorem t16:trF Try.prog 16=some c16:=tF (by kernel_rfl)
def c17:AFn:=cF Try.prog 17
theorem t17:trF Try.prog 17=some c17:=tF (by kernel_rfl)
def c20:AFn:=cF Try.prog 20
theorem t20:trF Try.prog 20=some c20:=tF (by kernel_rfl)
def c21:AFn:=cF Try.prog 21
theorem t21:trF Try.prog 21=some c21:=tF (by kernel_rfl)
def c24:AFn:=cF Try.prog 24
theorem t24:trF Try.prog 24=some c24:=tF (by kernel_rfl)
def c26:AFn:=cF Try.prog 26
theorem t26:trF Try.prog 26=some c26:=tF (by kernel_rfl)
def c27:AFn:=cF Try.prog 27
theorem t27:trF Try.prog 27=some c27:=tF (by kernel_rfl)
def c30:AFn:=cF Try.prog 30
theorem t30:trF Try.prog 30=some c30:=tF (by kernel_rfl)
def c31:AFn:=cF Try.prog 31
theorem t31:trF Try.prog 31=some c31:=tF (by kernel_rfl)
def c37:AFn:=cF Try.prog 37
theorem t37:trF Try.prog 37=some c37:=tF (by kernel_rfl)
def c38:AFn:=cF Try.prog 38
theorem t38:trF Try.prog 38=some c38:=tF (by kernel_rfl)
end Go.Proofs.Ytpplhhknlmcgbaa
end
noncomputable section
namespace Go.Proofs.Ytpplhhknlmcgbaa
open Go.AV Go.RowKit
set_option maxRecDepth 100000
structure yag where
 Name:Str
 Kind:Int
 Key:Bool
structure yai where
 What:Int
 Name:Str
 Columns:(List yag)
 Uses:(List Str)
structure yaf where
 Name:Str
 Kind:Int
 Key:Bool
structure yan where
 Name:Str
 Columns:(List yaf)
 Key:Int
structure yaU where
 name:Str
 uses:(List Str)
structure yaa where
 tables:(List yan)
 views:(List yaU)
structure yae where
 Name:Str
 Kind:Int
 Key:Bool
structure yac where
 Name:Str
 Columns:(List yae)
 Key:Int
structure yad where
 Name:Str
 Uses:(List Str)
structure yab where
 Tables:(List yac)
 Views:(List yad)
inductive TC where
 |c0
 |c3
 |c4
 |c5
 |c9
 |c22
 |c26
 |c27
 |c29
 |c30
 |c31
 |c33
 |c41
 |c42
 |c44
 |c45
 |c47
 |c53
 |c54
 |c55
 |c134
 |c136
 |c137
 |c139
def KF:TC→Type
 | .c0=>Unit
 | .c3=>Int
 | .c4=>Bool
 | .c5=>Int
 | .c9=>Str
 | .c22=>(List yai)
 | .c26=>(List yac)
 | .c27=>(List yad)
 | .c29=>yab
 | .c30=>(List yag)
 | .c31=>(List Str)
 | .c33=>yai
 | .c41=>yad
 | .c42=>(List yae)
 | .c44=>yac
 | .c45=>(List yaf)
 | .c47=>yan
 | .c53=>yae
 | .c54=>yaf
 | .c55=>yag
 | .c134=>(List yan)
 | .c136=>yaU
 | .c137=>(List yaU)
 | .c139=>yaa
def yyu:List (Nat×TC):= [(3, .c3),(4, .c4),(5, .c5),(9, .c9),(22, .c22),(26, .c26),(27, .c27),(29, .c29),(30, .c30),(31, .c31),(33, .c33),(41, .c41),(42, .c42),(44, .c44),(45, .c45),(47, .c47),(53, .c53),(54, .c54),(55, .c55),(134, .c134),(136, .c136),(137, .c137),(139, .c139)]
def code (t:Nat):TC:=lkC .c0 yyu t
abbrev KK (t:Nat):Type:=KF (code t)
def ybn:Enc yag:=yhp ((ycv tbS (ycv (tbI .i64) tbB)):Tb KK _).E (fun x:yag=>(x.Name,x.Kind,x.Key))
def b55:Tb KK yag:=yiA (ycv tbS (ycv (tbI .i64) tbB)) (fun x:yag=>(x.Name,x.Kind,x.Key)) (fun y=>(⟨y.1,y.2.1,y.2.2⟩:yag)) ybn
def yb4:Enc yai:=yhp ((ycv (tbI .u8) (ycv tbS (ycv (tbL 55 ybn:Tb KK (List yag)) (tbL 9 eS:Tb KK (List Str))))):Tb KK _).E (fun x:yai=>(x.What,x.Name,x.Columns,x.Uses))
def b33:Tb KK yai:=yiA (ycv (tbI .u8) (ycv tbS (ycv (tbL 55 ybn:Tb KK (List yag)) (tbL 9 eS:Tb KK (List Str))))) (fun x:yai=>(x.What,x.Name,x.Columns,x.Uses)) (fun y=>(⟨y.1,y.2.1,y.2.2.1,y.2.2.2⟩:yai)) yb4
def ybV:Enc yae:=yhp ((ycv tbS (ycv (tbI .i64) tbB)):Tb KK _).E (fun x:yae=>(x.Name,x.Kind,x.Key))
def b53:Tb KK yae:=yiA (ycv tbS (ycv (tbI .i64) tbB)) (fun x:yae=>(x.Name,x.Kind,x.Key)) (fun y=>(⟨y.1,y.2.1,y.2.2⟩:yae)) ybV
def ycf:Enc yac:=yhp ((ycv tbS (ycv (tbL 53 ybV:Tb KK (List yae)) (tbI .i64))):Tb KK _).E (fun x:yac=>(x.Name,x.Columns,x.Key))
def b44:Tb KK yac:=yiA (ycv tbS (ycv (tbL 53 ybV:Tb KK (List yae)) (tbI .i64))) (fun x:yac=>(x.Name,x.Columns,x.Key)) (fun y=>(⟨y.1,y.2.1,y.2.2⟩:yac)) ycf
def ycD:Enc yad:=yhp ((ycv tbS (tbL 9 eS:Tb KK (List Str))):Tb KK _).E (fun x:yad=>(x.Name,x.Uses))
def b41:Tb KK yad:=yiA (ycv tbS (tbL 9 eS:Tb KK (List Str))) (fun x:yad=>(x.Name,x.Uses)) (fun y=>(⟨y.1,y.2⟩:yad)) ycD
def yjC:Enc yab:=yhp ((ycv (tbL 44 ycf:Tb KK (List yac)) (tbL 41 ycD:Tb KK (List yad))):Tb KK _).E (fun x:yab=>(x.Tables,x.Views))
def b29:Tb KK yab:=yiA (ycv (tbL 44 ycf:Tb KK (List yac)) (tbL 41 ycD:Tb KK (List yad))) (fun x:yab=>(x.Tables,x.Views)) (fun y=>(⟨y.1,y.2⟩:yab)) yjC
def yci:Enc yaf:=yhp ((ycv tbS (ycv (tbI .i64) tbB)):Tb KK _).E (fun x:yaf=>(x.Name,x.Kind,x.Key))
def b54:Tb KK yaf:=yiA (ycv tbS (ycv (tbI .i64) tbB)) (fun x:yaf=>(x.Name,x.Kind,x.Key)) (fun y=>(⟨y.1,y.2.1,y.2.2⟩:yaf)) yci
def ybE:Enc yan:=yhp ((ycv tbS (ycv (tbL 54 yci:Tb KK (List yaf)) (tbI .i64))):Tb KK _).E (fun x:yan=>(x.Name,x.Columns,x.Key))
def b47:Tb KK yan:=yiA (ycv tbS (ycv (tbL 54 yci:Tb KK (List yaf)) (tbI .i64))) (fun x:yan=>(x.Name,x.Columns,x.Key)) (fun y=>(⟨y.1,y.2.1,y.2.2⟩:yan)) ybE
def yce:Enc yaU:=yhp ((ycv tbS (tbL 9 eS:Tb KK (List Str))):Tb KK _).E (fun x:yaU=>(x.name,x.uses))
def b136:Tb KK yaU:=yiA (ycv tbS (tbL 9 eS:Tb KK (List Str))) (fun x:yaU=>(x.name,x.uses)) (fun y=>(⟨y.1,y.2⟩:yaU)) yce
def ykj:Enc yaa:=yhp ((ycv (tbL 47 ybE:Tb KK (List yan)) (tbL 136 yce:Tb KK (List yaU))):Tb KK _).E (fun x:yaa=>(x.tables,x.views))
def b139:Tb KK yaa:=yiA (ycv (tbL 47 ybE:Tb KK (List yan)) (tbL 136 yce:Tb KK (List yaU))) (fun x:yaa=>(x.tables,x.views)) (fun y=>(⟨y.1,y.2⟩:yaa)) ykj
def TF:(c:TC)→Tb KK (KF c)
 | .c0=>tbU
 | .c3=>(tbI .i64)
 | .c4=>tbB
 | .c5=>(tbI .u8)
 | .c9=>tbS
 | .c22=>(tbL 33 yb4:Tb KK (List yai))
 | .c26=>(tbL 44 ycf:Tb KK (List yac))
 | .c27=>(tbL 41 ycD:Tb KK (List yad))
 | .c29=>b29
 | .c30=>(tbL 55 ybn:Tb KK (List yag))
 | .c31=>(tbL 9 eS:Tb KK (List Str))
 | .c33=>b33
 | .c41=>b41
 | .c42=>(tbL 53 ybV:Tb KK (List yae))
 | .c44=>b44
 | .c45=>(tbL 54 yci:Tb KK (List yaf))
 | .c47=>b47
 | .c53=>b53
 | .c54=>b54
 | .c55=>b55
 | .c134=>(tbL 47 ybE:Tb KK (List yan))
 | .c136=>b136
 | .c137=>(tbL 136 yce:Tb KK (List yaU))
 | .c139=>b139
def CC:Cx KK:= @cxOf TC KF code TF
theorem ypT:TbOk Try.prog CC b55:=ydY (ybQ yh6 (ybQ (yiH _) yoc)) (fun y=>rfl) (fun x=>rfl)
theorem ygM:∀x,dwks (ybn.c x)=ybn.c x:=ypT.dw
theorem ygN:∀x m,hlts m (ybn.c x)=true:=ypT.hl
theorem yqh:TbOk Try.prog CC b33:=ydY (ybQ (yiH _) (ybQ yh6 (ybQ (ydp _ rfl ygM ygN) (ydp _ rfl (fun _=>rfl) (fun _ _=>rfl))))) (fun y=>rfl) (fun x=>rfl)
theorem ymR:∀x,dwks (yb4.c x)=yb4.c x:=yqh.dw
theorem yl8:∀x m,hlts m (yb4.c x)=true:=yqh.hl
theorem yrB:TbOk Try.prog CC b53:=ydY (ybQ yh6 (ybQ (yiH _) yoc)) (fun y=>rfl) (fun x=>rfl)
theorem ygK:∀x,dwks (ybV.c x)=ybV.c x:=yrB.dw
theorem ygt:∀x m,hlts m (ybV.c x)=true:=yrB.hl
theorem yqy:TbOk Try.prog CC b44:=ydY (ybQ yh6 (ybQ (ydp _ rfl ygK ygt) (yiH _))) (fun y=>rfl) (fun x=>rfl)
theorem yhe:∀x,dwks (ycf.c x)=ycf.c x:=yqy.dw
theorem yhd:∀x m,hlts m (ycf.c x)=true:=yqy.hl
theorem yqU:TbOk Try.prog CC b41:=ydY (ybQ yh6 (ydp _ rfl (fun _=>rfl) (fun _ _=>rfl))) (fun y=>rfl) (fun x=>rfl)
theorem yhR:∀x,dwks (ycD.c x)=ycD.c x:=yqU.dw
theorem yh7:∀x m,hlts m (ycD.c x)=true:=yqU.hl
theorem ywT:TbOk Try.prog CC b29:=ydY (ybQ (ydp _ rfl yhe yhd) (ydp _ rfl yhR yh7)) (fun y=>rfl) (fun x=>rfl)
theorem yqH:TbOk Try.prog CC b54:=ydY (ybQ yh6 (ybQ (yiH _) yoc)) (fun y=>rfl) (fun x=>rfl)
theorem yhi:∀x,dwks (yci.c x)=yci.c x:=yqH.dw
theorem yhj:∀x m,hlts m (yci.c x)=true:=yqH.hl
theorem yql:TbOk Try.prog CC b47:=ydY (ybQ yh6 (ybQ (ydp _ rfl yhi yhj) (yiH _))) (fun y=>rfl) (fun x=>rfl)
theorem yge:∀x,dwks (ybE.c x)=ybE.c x:=yql.dw
theorem ygj:∀x m,hlts m (ybE.c x)=true:=yql.hl
theorem yns:TbOk Try.prog CC b136:=ydY (ybQ yh6 (ydp _ rfl (fun _=>rfl) (fun _ _=>rfl))) (fun y=>rfl) (fun x=>rfl)
theorem yhq:∀x,dwks (yce.c x)=yce.c x:=yns.dw
theorem yhf:∀x m,hlts m (yce.c x)=true:=yns.hl
theorem yu4:TbOk Try.prog CC b139:=ydY (ybQ (ydp _ rfl yge ygj) (ydp _ rfl yhq yhf)) (fun y=>rfl) (fun x=>rfl)
theorem ygv:CxOk Try.prog CC:= @yvP TC KF code _ TF fun c=>match c with
 | .c0=>yxY
 | .c3=>(yiH _)
 | .c4=>yoc
 | .c5=>(yiH _)
 | .c9=>yh6
 | .c22=>(ydp _ rfl ymR yl8)
 | .c26=>(ydp _ rfl yhe yhd)
 | .c27=>(ydp _ rfl yhR yh7)
 | .c29=>ywT
 | .c30=>(ydp _ rfl ygM ygN)
 | .c31=>(ydp _ rfl (fun _=>rfl) (fun _ _=>rfl))
 | .c33=>yqh
 | .c41=>yqU
 | .c42=>(ydp _ rfl ygK ygt)
 | .c44=>yqy
 | .c45=>(ydp _ rfl yhi yhj)
 | .c47=>yql
 | .c53=>yrB
 | .c54=>yqH
 | .c55=>ypT
 | .c134=>(ydp _ rfl yge ygj)
 | .c136=>yns
 | .c137=>(ydp _ rfl yhq yhf)
 | .c139=>yu4
def mkC (c:Cl):yaf:=⟨c.1,c.2.1,c.2.2⟩
def unC (l:List yaf):List Cl:=l.map fun y=>(y.Name,y.Kind,y.Key)
def mkTb (t:List UInt8×List Cl×Int):yan:=⟨t.1,t.2.1.map mkC,t.2.2⟩
def mkS (T:CTb) (W:CVw):yaa:=⟨T.map mkTb,W.map fun v=>⟨v.1,v.2⟩⟩
theorem encS (T:CTb) (W:CVw):(CC.E 139).c (mkS T W)=kWh T W:=by
 have:(CC.E 139).c (mkS T W)= [.sl false (T.map mkTb).length ((T.map mkTb).flatMap fun y=> [.st y.Name, .sl false y.Columns.length (y.Columns.flatMap fun z=> [.st z.Name, .it .i64 z.Kind, .bl z.Key]), .it .i64 y.Key]), .sl false (W.map fun v=>(⟨v.1,v.2⟩:yaU)).length ((W.map fun v=>(⟨v.1,v.2⟩:yaU)).flatMap fun y=> [.st y.name, .sl false y.uses.length (y.uses.flatMap fun n=> [.st n])])]:=by kernel_rfl
 rw[this]
 have e:∀l:List Cl,((l.map mkC).flatMap fun z=> [AV.st z.Name, .it .i64 z.Kind, .bl z.Key])=l.flatMap clA:=fun l=>by rw[List.flatMap_map];rfl
 simp[kWh,ctbA,cvwA,List.flatMap_map,mkTb,e]
theorem encT (x:List UInt8×List Cl×Int):AV.agg ((CC.E 47).c (mkTb x))=tbA x:=by
 have:(CC.E 47).c (mkTb x)= [.st x.1, .sl false (x.2.1.map mkC).length ((x.2.1.map mkC).flatMap fun z=> [.st z.Name, .it .i64 z.Kind, .bl z.Key]), .it .i64 x.2.2]:=by kernel_rfl
 rw[this,List.length_map,List.flatMap_map]
 rfl
theorem colR (l:List yaf) {mem:Nat→Option Blk} {u:AV} (h:(u= .sl true 0 []∧l= [])∨(u= .gs (.l 2000001 1) l.length∧mem 2000001=some ⟨54,(CC.E 54).sz,cl (CC.E 54) l⟩)):(u= .sl true 0 []∧unC l= [])∨(u= .gs (.l 2000001 1) (unC l).length∧mem 2000001=some ⟨54,3,(unC l).flatMap clA⟩):=by
 rcases h with ⟨h1,h2⟩|⟨h1,h2⟩
 ·exact .inl ⟨h1,by rw[h2];rfl⟩
 ·refine .inr ⟨by rw[h1,unC,List.length_map],?_⟩
  have e:cl (CC.E 54) l=l.flatMap fun z=> [.st z.Name, .it .i64 z.Kind, .bl z.Key]:=by kernel_rfl
  rw[h2,e,unC,List.flatMap_map]
  rfl
theorem strR (l:List Str) {mem:Nat→Option Blk} {u:AV} (h:(u= .sl true 0 []∧l= [])∨(u= .gs (.l 2000001 1) l.length∧mem 2000001=some ⟨9,(CC.E 9).sz,cl (CC.E 9) l⟩)):(u= .sl true 0 []∧l= [])∨(u= .gs (.l 2000001 1) l.length∧mem 2000001=some ⟨9,1,l.flatMap fun s=> [.st s]⟩):=by
 rcases h with ⟨h1,h2⟩|⟨h1,h2⟩
 ·exact .inl ⟨h1,h2⟩
 ·exact .inr ⟨h1,h2⟩
def yck (r0:yaa):Prop:=
 r0=mkS [] []
def yfg:Sl KK:=⟨6,[],⟨[],[],[]⟩,⟨[(0, .px 1000000 0)],[(1000000,1000002,[.v 139])],[]⟩,[],[(0,none)],true,fun _ _ _=>True⟩
def ya8:Sl KK:=⟨6,[],⟨[],[],[]⟩,⟨[(0, .px 1000000 0)],[(1000000,1000002,[.v 139])],[]⟩,[],[(0,none)],true,apFs (K:=KK) (ctT yfg.ti) (ctT yfg.te) [] yck⟩
theorem yff:SlOk Try.prog CC ya8:=by
 intro fs env out hl hF hW
 obtain ⟨rfl,h0⟩:=ydt hW
 obtain ⟨rfl,h1⟩:=ydE h0
 obtain ⟨r0,er0,rfl,h2⟩:=ybb h1
 obtain ⟨rfl,hf⟩:=ycd h2
 obtain rfl:r0=mkS [] []:=hf
 exact yvB (C:=CC) (sp:=ya8) (env:= []) (out:= [.v 139 (mkS [] [])]) (env':= [.v 139 (mkS [] [])]) (e:=1000002) (t:=139) (x:=mkS [] []) (args:= []) (us:= [.px 1000000 1 0]) (fun H n=>by rw[encS];exact yxB H n) (by kernel_rfl) (fun χ=>by kernel_rfl) (by kernel_rfl) (Eq.mpr (show kpt (entL CC ya8 [] []) (bdT CC ya8.to [] [] [.v 139 (mkS [] [])]) ya8.kp (eqDV (selL ya8 [.v 139 (mkS [] [])]) [.v 139 (mkS [] [])])=(mkS [] []=mkS [] []) by kernel_rfl) rfl) (by kernel_rfl) (by kernel_rfl) (by kernel_rfl)
def ya0 (a0:Str) (a2:yaa) (a1:List yaf) (r0:Int) (r1:yaa):Prop:=
 ∃T W,a2=mkS T W/\a0.length<=9223372036854775807/\(unC a1).length<=1000000/\(∀c∈unC a1,c.1.length<=9223372036854775807)/\r0=mkE T W a0 (unC a1)/\r1=mkS (mkT T W a0 (unC a1)) W
def yc2:Sl KK:=⟨15,[],⟨[(0, .px 2000000 0),(1, .st),(2, .row 2000001)],[(2000000,1000002,[.v 139])],[(2000001,54)]⟩,⟨[(6, .it .i64)],[(2000000,1000002,[.v 139])],[]⟩,[2000001],[(6,none)],true,fun _ _ _=>True⟩
def yax:Sl KK:=⟨15,[],⟨[(0, .px 2000000 0),(1, .st),(2, .row 2000001)],[(2000000,1000002,[.v 139])],[(2000001,54)]⟩,⟨[(6, .it .i64)],[(2000000,1000002,[.v 139])],[]⟩,[2000001],[(6,none)],true,apFs (K:=KK) (ctT yc2.ti) (ctT yc2.te) [] ya0⟩
theorem yc6:SlOk Try.prog CC yax:=by
 intro fs env out hl hF hW
 obtain ⟨rfl,h0⟩:=ydt hW
 obtain ⟨a0,ea0,rfl,h1⟩:=ybv h0
 obtain ⟨a2,ea2,rfl,h2⟩:=ybv h1
 obtain ⟨a1,ea1,rfl,h3⟩:=ybv h2
 obtain ⟨rfl,h4⟩:=ydE h3
 obtain ⟨r0,er0,rfl,h5⟩:=ybb h4
 obtain ⟨r1,er1,rfl,h6⟩:=ybb h5
 obtain ⟨rfl,hf⟩:=ycd h6
 obtain ⟨T,W,rfl,c0,c1,c2,rfl,rfl⟩:=hf
 exact ymr (C:=CC) (sp:=yax) (env:= [.s a0, .v 139 (mkS T W), .l 54 a1]) (out:= [.i (mkE T W a0 (unC a1)), .v 139 (mkS (mkT T W a0 (unC a1)) W)]) (env':= [.i (mkE T W a0 (unC a1)), .v 139 (mkS (mkT T W a0 (unC a1)) W), .l 54 a1]) (e:=1000002) (t:=139) (et:=54) (x:=(mkS T W)) (x':=(mkS (mkT T W a0 (unC a1)) W)) (l:=a1) (args:=fun u=> .pt (.l 2000000 1) 0:: [.st a0,u]) (us:= [.it .i64 (mkE T W a0 (unC a1))]) (fun mem u h hu H n=>by simp only[encS] at h⊢;exact ywe T W a0 (unC a1) c0 c1 c2 h (colR a1 hu) H n) (by kernel_rfl) (fun χ=>by kernel_rfl) (by kernel_rfl) (Eq.mpr (show kpt (entL CC yax [] [.s a0, .v 139 (mkS T W), .l 54 a1]) (bdT CC yax.to [] [] [.i (mkE T W a0 (unC a1)), .v 139 (mkS (mkT T W a0 (unC a1)) W), .l 54 a1]) yax.kp (eqDV (selL yax [.i (mkE T W a0 (unC a1)), .v 139 (mkS (mkT T W a0 (unC a1)) W), .l 54 a1]) [.i (mkE T W a0 (unC a1)), .v 139 (mkS (mkT T W a0 (unC a1)) W)])=(a1=a1/\(mkE T W a0 (unC a1):Int)=mkE T W a0 (unC a1)/\(mkS (mkT T W a0 (unC a1)) W)=(mkS (mkT T W a0 (unC a1)) W)) by kernel_rfl) ⟨rfl,rfl,rfl⟩) (by kernel_rfl) (by kernel_rfl) (fun χ=>by kernel_rfl)
def ybX (a0:Str) (a2:yaa) (a1:List Str) (r0:Int) (r1:yaa):Prop:=
 ∃T W,a2=mkS T W/\a0.length<=9223372036854775807/\a1.length<=1000000/\(∀u∈a1,u.length<=9223372036854775807)/\r0=vwE T W a0 a1/\r1=mkS T (vwT T W a0 a1)
def yc5:Sl KK:=⟨9,[],⟨[(0, .px 2000000 0),(1, .st),(2, .row 2000001)],[(2000000,1000002,[.v 139])],[(2000001,9)]⟩,⟨[(6, .it .i64)],[(2000000,1000002,[.v 139])],[]⟩,[2000001],[(6,none)],true,fun _ _ _=>True⟩
def yaH:Sl KK:=⟨9,[],⟨[(0, .px 2000000 0),(1, .st),(2, .row 2000001)],[(2000000,1000002,[.v 139])],[(2000001,9)]⟩,⟨[(6, .it .i64)],[(2000000,1000002,[.v 139])],[]⟩,[2000001],[(6,none)],true,apFs (K:=KK) (ctT yc5.ti) (ctT yc5.te) [] ybX⟩
theorem yeT:SlOk Try.prog CC yaH:=by
 intro fs env out hl hF hW
 obtain ⟨rfl,h0⟩:=ydt hW
 obtain ⟨a0,ea0,rfl,h1⟩:=ybv h0
 obtain ⟨a2,ea2,rfl,h2⟩:=ybv h1
 obtain ⟨a1,ea1,rfl,h3⟩:=ybv h2
 obtain ⟨rfl,h4⟩:=ydE h3
 obtain ⟨r0,er0,rfl,h5⟩:=ybb h4
 obtain ⟨r1,er1,rfl,h6⟩:=ybb h5
 obtain ⟨rfl,hf⟩:=ycd h6
 obtain ⟨T,W,rfl,c0,c1,c2,rfl,rfl⟩:=hf
 exact ymr (C:=CC) (sp:=yaH) (env:= [.s a0, .v 139 (mkS T W), .l 9 a1]) (out:= [.i (vwE T W a0 a1), .v 139 (mkS T (vwT T W a0 a1))]) (env':= [.i (vwE T W a0 a1), .v 139 (mkS T (vwT T W a0 a1)), .l 9 a1]) (e:=1000002) (t:=139) (et:=9) (x:=(mkS T W)) (x':=(mkS T (vwT T W a0 a1))) (l:=a1) (args:=fun u=> .pt (.l 2000000 1) 0:: [.st a0,u]) (us:= [.it .i64 (vwE T W a0 a1)]) (fun mem u h hu H n=>by simp only[encS] at h⊢;exact yuL T W a0 a1 c0 c1 c2 h (strR a1 hu) H n) (by kernel_rfl) (fun χ=>by kernel_rfl) (by kernel_rfl) (Eq.mpr (show kpt (entL CC yaH [] [.s a0, .v 139 (mkS T W), .l 9 a1]) (bdT CC yaH.to [] [] [.i (vwE T W a0 a1), .v 139 (mkS T (vwT T W a0 a1)), .l 9 a1]) yaH.kp (eqDV (selL yaH [.i (vwE T W a0 a1), .v 139 (mkS T (vwT T W a0 a1)), .l 9 a1]) [.i (vwE T W a0 a1), .v 139 (mkS T (vwT T W a0 a1))])=(a1=a1/\(vwE T W a0 a1:Int)=vwE T W a0 a1/\(mkS T (vwT T W a0 a1))=(mkS T (vwT T W a0 a1))) by kernel_rfl) ⟨rfl,rfl,rfl⟩) (by kernel_rfl) (by kernel_rfl) (fun χ=>by kernel_rfl)
def yap (a0:Str) (a1:yaa) (r0:yan) (r1:Bool):Prop:=
 ∃T W,a1=mkS T W/\a0.length<=9223372036854775807/\r0=mkTb (tbOf T a0)/\r1=(gAt T a0).isSome
def ycF:Sl KK:=⟨13,[],⟨[(0, .px 2000000 0),(1, .st)],[(2000000,1000002,[.v 139])],[]⟩,⟨[(4, .v 47),(5, .bl)],[],[]⟩,[2000000],[(4,none),(5,none)],true,fun _ _ _=>True⟩
def yar:Sl KK:=⟨13,[],⟨[(0, .px 2000000 0),(1, .st)],[(2000000,1000002,[.v 139])],[]⟩,⟨[(4, .v 47),(5, .bl)],[],[]⟩,[2000000],[(4,none),(5,none)],true,apFs (K:=KK) (ctT ycF.ti) (ctT ycF.te) [] yap⟩
theorem ybC:SlOk Try.prog CC yar:=by
 intro fs env out hl hF hW
 obtain ⟨rfl,h0⟩:=ydt hW
 obtain ⟨a0,ea0,rfl,h1⟩:=ybv h0
 obtain ⟨a1,ea1,rfl,h2⟩:=ybv h1
 obtain ⟨rfl,h3⟩:=ydE h2
 obtain ⟨r0,er0,rfl,h4⟩:=ybb h3
 obtain ⟨r1,er1,rfl,h5⟩:=ybb h4
 obtain ⟨rfl,hf⟩:=ycd h5
 obtain ⟨T,W,rfl,c0,rfl,rfl⟩:=hf
 exact yg4 (C:=CC) (sp:=yar) (env:= [.s a0, .v 139 (mkS T W)]) (out:= [.v 47 (mkTb (tbOf T a0)), .b (gAt T a0).isSome]) (env':= [.v 47 (mkTb (tbOf T a0)), .b (gAt T a0).isSome, .v 139 (mkS T W)]) (e:=1000002) (t:=139) (x:=(mkS T W)) (x':=(mkS T W)) (rest:= [.st a0]) (av:= .tup [AV.agg ((CC.E 47).c (mkTb (tbOf T a0))), .bl (gAt T a0).isSome]) (us:= [inV CC 47 (mkTb (tbOf T a0)), .bl (gAt T a0).isSome]) (fun H n=>by simp only[encS,encT];exact yuu T W a0 c0 H n) (by kernel_rfl) (by kernel_rfl) (fun χ=>by kernel_rfl) (by kernel_rfl) (Eq.mpr (show kpt (entL CC yar [] [.s a0, .v 139 (mkS T W)]) (bdT CC yar.to [] [] [.v 47 (mkTb (tbOf T a0)), .b (gAt T a0).isSome, .v 139 (mkS T W)]) yar.kp (eqDV (selL yar [.v 47 (mkTb (tbOf T a0)), .b (gAt T a0).isSome, .v 139 (mkS T W)]) [.v 47 (mkTb (tbOf T a0)), .b (gAt T a0).isSome])=((mkS T W)=(mkS T W)/\(mkTb (tbOf T a0):yan)=mkTb (tbOf T a0)/\((gAt T a0).isSome:Bool)=(gAt T a0).isSome) by kernel_rfl) ⟨rfl,rfl,rfl⟩) (by kernel_rfl) (by kernel_rfl) (by kernel_rfl)
def yaZ (a0:Str) (a1:yaa) (r0:Int) (r1:yaa):Prop:=
 ∃T W,a1=mkS T W/\a0.length<=9223372036854775807/\r0=dpE T W a0/\r1=mkS (dpT T W a0) W
def yc9:Sl KK:=⟨7,[],⟨[(0, .px 2000000 0),(1, .st)],[(2000000,1000002,[.v 139])],[]⟩,⟨[(4, .it .i64)],[(2000000,1000002,[.v 139])],[]⟩,[],[(4,none)],true,fun _ _ _=>True⟩
def yaw:Sl KK:=⟨7,[],⟨[(0, .px 2000000 0),(1, .st)],[(2000000,1000002,[.v 139])],[]⟩,⟨[(4, .it .i64)],[(2000000,1000002,[.v 139])],[]⟩,[],[(4,none)],true,apFs (K:=KK) (ctT yc9.ti) (ctT yc9.te) [] yaZ⟩
theorem yc1:SlOk Try.prog CC yaw:=by
 intro fs env out hl hF hW
 obtain ⟨rfl,h0⟩:=ydt hW
 obtain ⟨a0,ea0,rfl,h1⟩:=ybv h0
 obtain ⟨a1,ea1,rfl,h2⟩:=ybv h1
 obtain ⟨rfl,h3⟩:=ydE h2
 obtain ⟨r0,er0,rfl,h4⟩:=ybb h3
 obtain ⟨r1,er1,rfl,h5⟩:=ybb h4
 obtain ⟨rfl,hf⟩:=ycd h5
 obtain ⟨T,W,rfl,c0,rfl,rfl⟩:=hf
 exact yg4 (C:=CC) (sp:=yaw) (env:= [.s a0, .v 139 (mkS T W)]) (out:= [.i (dpE T W a0), .v 139 (mkS (dpT T W a0) W)]) (env':= [.i (dpE T W a0), .v 139 (mkS (dpT T W a0) W)]) (e:=1000002) (t:=139) (x:=(mkS T W)) (x':=(mkS (dpT T W a0) W)) (rest:= [.st a0]) (us:= [.it .i64 (dpE T W a0)]) (fun H n=>by simp only[encS];exact yx7 T W a0 c0 H n) (by kernel_rfl) (by kernel_rfl) (fun χ=>by kernel_rfl) (by kernel_rfl) (Eq.mpr (show kpt (entL CC yaw [] [.s a0, .v 139 (mkS T W)]) (bdT CC yaw.to [] [] [.i (dpE T W a0), .v 139 (mkS (dpT T W a0) W)]) yaw.kp (eqDV (selL yaw [.i (dpE T W a0), .v 139 (mkS (dpT T W a0) W)]) [.i (dpE T W a0), .v 139 (mkS (dpT T W a0) W)])=((dpE T W a0:Int)=dpE T W a0/\(mkS (dpT T W a0) W)=(mkS (dpT T W a0) W)) by kernel_rfl) ⟨rfl,rfl⟩) (by kernel_rfl) (by kernel_rfl) (by kernel_rfl)
def yeJ (r0 x8:Bool):Prop:=
 x8=r0
def ybW (r0:Bool):Prop:=
 ∃z1,(yck z1)/\∃z2 z3,(ya0 ([116]:Str) z1 ([(⟨([97]:Str),(2:Int),true⟩:yaf)]:List yaf) z2 z3)/\∃z4 z5,(ybX ([118]:Str) z3 ([([116]:Str)]:List Str) z4 z5)/\∃z6 z7,(yap ([116]:Str) z5 z6 z7)/\∀J1:Bool->Prop,(∀x8,yeJ r0 x8->J1 x8)->cnd (z2==(0:Int)) (cnd (z4==(0:Int)) (cnd z7 ((z6.Columns.length<=maxLen->cnd ((z6.Columns.length:Int)==(1:Int)) (cnd (z6.Key==(0:Int)) (∃z9 z10,(yaZ ([116]:Str) z5 z9 z10)/\J1 (z9==(15:Int))) (J1 false)) (J1 false))) (J1 false)) (J1 false)) (J1 false)
def ya4 (r0 x8:Bool):Prop:=
 x8=r0
def yeD (r0:Bool):Prop:=
 ∃z1,(yck z1)/\∃z2 z3,(ya0 ([116]:Str) z1 ([(⟨([97]:Str),(2:Int),true⟩:yaf)]:List yaf) z2 z3)/\∃z4 z5,(ybX ([118]:Str) z3 ([([116]:Str)]:List Str) z4 z5)/\∃z6 z7,(yap ([116]:Str) z5 z6 z7)/\cnd (z2==(0:Int)) (cnd (z4==(0:Int)) (cnd z7 ((z6.Columns.length<=maxLen->cnd ((z6.Columns.length:Int)==(1:Int)) (cnd (z6.Key==(0:Int)) (∃z9 z10,(yaZ ([116]:Str) z5 z9 z10)/\ya4 r0 (z9==(15:Int))) (ya4 r0 false)) (ya4 r0 false))) (ya4 r0 false)) (ya4 r0 false)) (ya4 r0 false)
theorem yix (r0:Bool) {x8:Bool} (h:ya4 r0 x8):yeJ r0 x8:=by
 unfold yeJ
 unfold ya4 at h
 exact h
theorem yks (r0:Bool) (h:yeD r0):ybW r0:=by
 unfold ybW
 unfold yeD at h
 obtain ⟨z1,h⟩:=h
 refine ⟨z1,?_⟩
 obtain ⟨h0,h⟩:=h
 refine ⟨h0,?_⟩
 obtain ⟨z2,h⟩:=h
 refine ⟨z2,?_⟩
 obtain ⟨z3,h⟩:=h
 refine ⟨z3,?_⟩
 obtain ⟨h0,h⟩:=h
 refine ⟨h0,?_⟩
 obtain ⟨z4,h⟩:=h
 refine ⟨z4,?_⟩
 obtain ⟨z5,h⟩:=h
 refine ⟨z5,?_⟩
 obtain ⟨h0,h⟩:=h
 refine ⟨h0,?_⟩
 obtain ⟨z6,h⟩:=h
 refine ⟨z6,?_⟩
 obtain ⟨z7,h⟩:=h
 refine ⟨z7,?_⟩
 obtain ⟨h0,h⟩:=h
 refine ⟨h0,?_⟩
 intro J1 kJ1
 have hJ1:∀x8,ya4 r0 x8->J1 x8:=fun x8 q=>kJ1 x8 (yix r0 q)
 refine yao h (fun h=> ?_) (fun h=> ?_)
 ·refine yao h (fun h=> ?_) (fun h=> ?_)
  ·refine yao h (fun h=> ?_) (fun h=> ?_)
   ·intro c
    replace h:=h c
    refine yao h (fun h=> ?_) (fun h=> ?_)
    ·refine yao h (fun h=> ?_) (fun h=> ?_)
     ·obtain ⟨z9,h⟩:=h
      refine ⟨z9,?_⟩
      obtain ⟨z10,h⟩:=h
      refine ⟨z10,?_⟩
      obtain ⟨h0,h⟩:=h
      refine ⟨h0,?_⟩
      exact hJ1 _ h
     ·exact hJ1 _ h
    ·exact hJ1 _ h
   ·exact hJ1 _ h
  ·exact hJ1 _ h
 ·exact hJ1 _ h
def ygs:Sp KK:=⟨5,[],[4],appW (K:=KK) [4] [] ybW⟩
def yjj:An KK:=(.s .o (.s .o (.s .o (.s .o (.s .o (.j ⟨[(0, .bl)],[],[]⟩ .o (fun _=> .o)))))))
def yj8:Cf KK:=⟨CC,[],[ya8,yax,yaH,yar,yaw],44,[],none,false⟩
theorem yjk:SpOk Try.prog CC ygs:=ydy (F:=yj8) (ps:= []) (rs:= [4]) (w:=ybW) ygv yd5 (yco yff (yco yc6 (yco yeT (yco ybC (yco yc1 yd6))))) t5 (A:=yjj) (by kernel_rfl) (by kernel_rfl) (fun r0=>show _=_ by kernel_rfl)
def yga (a0:yab) (a1:Str) (r0:Int) (X1:Int→Prop) (x1:Int):Prop:=
 (a0.Tables.length<=maxLen->cnd (decide (x1<(a0.Tables.length:Int))) ((0<=x1)/\(x1<(a0.Tables.length:Int))/\∃y2:yac,(a0.Tables[x1.toNat]? =some y2)/\cnd (y2.Name==a1) (x1=r0) (X1 (IntKind.i64.wrap (x1+(1:Int))))) ((-1:Int)=r0))
def yaR (a0:yab) (a1:Str) (r0:Int):Prop:=
 ∀X1:Int->Prop,(∀x1,yga a0 a1 r0 X1 x1->X1 x1)->X1 (0:Int)
def ydf (a0:yab) (a1:Str) (r0:Int) (X1:Int→Prop) (x1:Int):Prop:=
 (a0.Tables.length<=maxLen->cnd (decide (x1<(a0.Tables.length:Int))) ((0<=x1)/\(x1<(a0.Tables.length:Int))/\∃y2:yac,(a0.Tables[x1.toNat]? =some y2)/\cnd (y2.Name==a1) (x1=r0) (X1 (IntKind.i64.wrap (x1+(1:Int))))) ((-1:Int)=r0))
def yeq (a0:yab) (a1:Str) (r0:Int):Prop:=
 ∀X1:Int->Prop,(∀x1,ydf a0 a1 r0 X1 x1->X1 x1)->X1 (0:Int)
theorem yka (a0:yab) (a1:Str) (r0:Int) {X1:Int→Prop} {x1:Int} (h:ydf a0 a1 r0 X1 x1):yga a0 a1 r0 X1 x1:=by
 unfold yga
 unfold ydf at h
 exact h
theorem yiJ (a0:yab) (a1:Str) (r0:Int) (h:yeq a0 a1 r0):yaR a0 a1 r0:=by
 unfold yaR
 unfold yeq at h
 intro X1 k
 exact h X1 (fun x1 q=>k x1 (yka a0 a1 r0 q))
def ydr:Sp KK:=⟨20,[.v 29, .v 9],[3],appW (K:=KK) [3] [.v 29, .v 9] yaR⟩
def yle:An KK:=(.s .o (.s (.s .o (.b (.l ⟨[(1, .kp 5),(2, .px 2 0),(5, .it .i64)],[(2,29,[.kp 7, .kp 8])],[]⟩ (fun _=>(.s (.s .o (.c .o .o)) (.s (.b (.s .o (.c (.s .o .o) .o))) .o)))))) (.s .o .o)))
def ylY:Cf KK:=⟨CC,[],[],22,[],none,false⟩
theorem yew:SpOk Try.prog CC ydr:=ydy (F:=ylY) (ps:= [.v 29, .v 9]) (rs:= [3]) (w:=yaR) ygv yd5 yd6 t20 (A:=yle) (by kernel_rfl) (by kernel_rfl) (fun a0 a1 r0=>show _=_ by kernel_rfl)
def yfX (a0:yad) (a1:Str) (r0:Bool) (X1:Int→Prop) (x1:Int):Prop:=
 (a0.Uses.length<=maxLen->cnd (decide (x1<(a0.Uses.length:Int))) ((0<=x1)/\(x1<(a0.Uses.length:Int))/\∃y2:Str,(a0.Uses[x1.toNat]? =some y2)/\cnd (y2==a1) (true=r0) (X1 (IntKind.i64.wrap (x1+(1:Int))))) (false=r0))
def ycE (a0:yad) (a1:Str) (r0:Bool):Prop:=
 ∀X1:Int->Prop,(∀x1,yfX a0 a1 r0 X1 x1->X1 x1)->X1 (0:Int)
def ydM (a0:yad) (a1:Str) (r0:Bool) (X1:Int→Prop) (x1:Int):Prop:=
 (a0.Uses.length<=maxLen->cnd (decide (x1<(a0.Uses.length:Int))) ((0<=x1)/\(x1<(a0.Uses.length:Int))/\∃y2:Str,(a0.Uses[x1.toNat]? =some y2)/\cnd (y2==a1) (true=r0) (X1 (IntKind.i64.wrap (x1+(1:Int))))) (false=r0))
def yfW (a0:yad) (a1:Str) (r0:Bool):Prop:=
 ∀X1:Int->Prop,(∀x1,ydM a0 a1 r0 X1 x1->X1 x1)->X1 (0:Int)
theorem yjp (a0:yad) (a1:Str) (r0:Bool) {X1:Int→Prop} {x1:Int} (h:ydM a0 a1 r0 X1 x1):yfX a0 a1 r0 X1 x1:=by
 unfold yfX
 unfold ydM at h
 exact h
theorem yl5 (a0:yad) (a1:Str) (r0:Bool) (h:yfW a0 a1 r0):ycE a0 a1 r0:=by
 unfold ycE
 unfold yfW at h
 intro X1 k
 exact h X1 (fun x1 q=>k x1 (yjp a0 a1 r0 q))
def yh8:Sp KK:=⟨37,[.v 41, .v 9],[4],appW (K:=KK) [4] [.v 41, .v 9] ycE⟩
def ykP:An KK:=(.s .o (.s (.s .o (.b (.l ⟨[(1, .kp 5),(2, .px 2 0),(5, .it .i64)],[(2,41,[.kp 7, .kp 8])],[]⟩ (fun _=>(.s (.s .o (.c .o .o)) (.s (.b (.s .o (.c (.s .o .o) .o))) .o)))))) (.s .o .o)))
def yk3:Cf KK:=⟨CC,[],[],20,[],none,false⟩
theorem ylW:SpOk Try.prog CC yh8:=ydy (F:=yk3) (ps:= [.v 41, .v 9]) (rs:= [4]) (w:=ycE) ygv yd5 yd6 t37 (A:=ykP) (by kernel_rfl) (by kernel_rfl) (fun a0 a1 r0=>show _=_ by kernel_rfl)
def yeA (X1:Int→Prop) (x1:Int) (a0:List Str) (a1:Str) (r0:List Str) (x2:Bool):Prop:=
 cnd x2 (X1 (IntKind.i64.wrap (x1+(1:Int)))) ((0<=(0:Int)/\(0:Int)<=x1/\x1<=(a0.length:Int))/\((ybw a0 (0:Int) x1).length<=400000000)/\((([]:List Str)++(ybw a0 (0:Int) x1)).length<=1000000000)/\(0<=x1/\x1<=(a0.length:Int)/\(a0.length:Int)<=(a0.length:Int))/\(((([]:List Str)++(ybw a0 (0:Int) x1))++([a1]:List Str)).length<=1000000000)/\((ybw a0 x1 (a0.length:Int)).length<=400000000)/\(((([]:List Str)++(ybw a0 (0:Int) x1))++([a1]:List Str))++(ybw a0 x1 (a0.length:Int)))=r0)
def yez (a0:List Str) (a1:Str) (r0:List Str) (X1:Int→Prop) (x1:Int):Prop:=
 ∀J2:Bool->Prop,(∀x2,yeA X1 x1 a0 a1 r0 x2->J2 x2)->(a0.length<=maxLen->cnd (decide (x1<(a0.length:Int))) ((0<=x1)/\(x1<(a0.length:Int))/\∃y3:Str,(a0[x1.toNat]? =some y3)/\J2 (Op.bytesLess y3 a1)) (J2 false))
def ya1 (a0:List Str) (a1:Str) (r0:List Str):Prop:=
 ∀X1:Int->Prop,(∀x1,yez a0 a1 r0 X1 x1->X1 x1)->X1 (0:Int)
def ybf (X1:Int→Prop) (a0:List Str) (a1:Str) (r0:List Str) (x1:Int) (x2:Bool):Prop:=
 cnd x2 (X1 (IntKind.i64.wrap (x1+(1:Int)))) ((0<=(0:Int)/\(0:Int)<=x1/\x1<=(a0.length:Int))/\((ybw a0 (0:Int) x1).length<=400000000)/\((([]:List Str)++(ybw a0 (0:Int) x1)).length<=1000000000)/\(0<=x1/\x1<=(a0.length:Int)/\(a0.length:Int)<=(a0.length:Int))/\(((([]:List Str)++(ybw a0 (0:Int) x1))++([a1]:List Str)).length<=1000000000)/\((ybw a0 x1 (a0.length:Int)).length<=400000000)/\(((([]:List Str)++(ybw a0 (0:Int) x1))++([a1]:List Str))++(ybw a0 x1 (a0.length:Int)))=r0)
def ydi (a0:List Str) (a1:Str) (r0:List Str) (X1:Int→Prop) (x1:Int):Prop:=
 (a0.length<=maxLen->cnd (decide (x1<(a0.length:Int))) ((0<=x1)/\(x1<(a0.length:Int))/\∃y3:Str,(a0[x1.toNat]? =some y3)/\ybf X1 a0 a1 r0 x1 (Op.bytesLess y3 a1)) (ybf X1 a0 a1 r0 x1 false))
def yeN (a0:List Str) (a1:Str) (r0:List Str):Prop:=
 ∀X1:Int->Prop,(∀x1,ydi a0 a1 r0 X1 x1->X1 x1)->X1 (0:Int)
theorem yiB (X1:Int→Prop) (a0:List Str) (a1:Str) (r0:List Str) (x1:Int) {x2:Bool} (h:ybf X1 a0 a1 r0 x1 x2):yeA X1 x1 a0 a1 r0 x2:=by
 unfold yeA
 unfold ybf at h
 exact h
theorem yib (a0:List Str) (a1:Str) (r0:List Str) {X1:Int→Prop} {x1:Int} (h:ydi a0 a1 r0 X1 x1):yez a0 a1 r0 X1 x1:=by
 unfold yez
 unfold ydi at h
 intro J2 kJ2
 have hJ2:∀x2,ybf X1 a0 a1 r0 x1 x2->J2 x2:=fun x2 q=>kJ2 x2 (yiB X1 a0 a1 r0 x1 q)
 intro c
 replace h:=h c
 refine yao h (fun h=> ?_) (fun h=> ?_)
 ·obtain ⟨h0,h⟩:=h
  refine ⟨h0,?_⟩
  obtain ⟨h0,h⟩:=h
  refine ⟨h0,?_⟩
  obtain ⟨y3,h⟩:=h
  refine ⟨y3,?_⟩
  obtain ⟨h0,h⟩:=h
  refine ⟨h0,?_⟩
  exact hJ2 _ h
 ·exact hJ2 _ h
theorem ykt (a0:List Str) (a1:Str) (r0:List Str) (h:yeN a0 a1 r0):ya1 a0 a1 r0:=by
 unfold ya1
 unfold yeN at h
 intro X1 k
 exact h X1 (fun x1 q=>k x1 (yib a0 a1 r0 q))
def yeB:Sp KK:=⟨38,[.v 31, .v 9],[31],appW (K:=KK) [31] [.v 31, .v 9] ya1⟩
def yjr:An KK:=(.s .o (.s .o (.s (.b (.l ⟨[(0, .kp 8),(1, .kp 9),(5, .it .i64)],[],[]⟩ (fun _=>(.s (.j ⟨[(0, .kp 8),(1, .kp 9),(5, .kp 14),(17, .bl)],[],[]⟩ .o (fun _=>(.c .o .o))) (.b .o))))) (.s .o .o))))
def yjI:Cf KK:=⟨CC,[],[],32,[],none,false⟩
theorem ygD:SpOk Try.prog CC yeB:=ydy (F:=yjI) (ps:= [.v 31, .v 9]) (rs:= [31]) (w:=ya1) ygv yd5 yd6 t38 (A:=yjr) (by kernel_rfl) (by kernel_rfl) (fun a0 a1 r0=>show _=_ by kernel_rfl)
def yfd (a0:yab) (a1:Str) (r0:List Str) (X1:(List Str)→Int→Prop) (x1:List Str) (x2:Int):Prop:=
 (a0.Views.length<=maxLen->cnd (decide (x2<(a0.Views.length:Int))) ((0<=x2)/\(x2<(a0.Views.length:Int))/\∃y3:yad,(a0.Views[x2.toNat]? =some y3)/\∃z4,(ycE y3 a1 z4)/\cnd z4 ((0<=x2)/\(x2<(a0.Views.length:Int))/\∃y5:yad,(a0.Views[x2.toNat]? =some y5)/\∃z6,(ya1 x1 y5.Name z6)/\X1 z6 (IntKind.i64.wrap (x2+(1:Int)))) (X1 x1 (IntKind.i64.wrap (x2+(1:Int))))) (x1=r0))
def ybP (a0:yab) (a1:Str) (r0:List Str):Prop:=
 ∀X1:(List Str)->Int->Prop,(∀x1 x2,yfd a0 a1 r0 X1 x1 x2->X1 x1 x2)->X1 ([]:List Str) (0:Int)
def ydA (a0:yab) (a1:Str) (r0:List Str) (X1:(List Str)→Int→Prop) (x1:List Str) (x2:Int):Prop:=
 (a0.Views.length<=maxLen->cnd (decide (x2<(a0.Views.length:Int))) ((0<=x2)/\(x2<(a0.Views.length:Int))/\∃y3:yad,(a0.Views[x2.toNat]? =some y3)/\∃z4,(ycE y3 a1 z4)/\cnd z4 ((0<=x2)/\(x2<(a0.Views.length:Int))/\∃y5:yad,(a0.Views[x2.toNat]? =some y5)/\∃z6,(ya1 x1 y5.Name z6)/\X1 z6 (IntKind.i64.wrap (x2+(1:Int)))) (X1 x1 (IntKind.i64.wrap (x2+(1:Int))))) (x1=r0))
def yfa (a0:yab) (a1:Str) (r0:List Str):Prop:=
 ∀X1:(List Str)->Int->Prop,(∀x1 x2,ydA a0 a1 r0 X1 x1 x2->X1 x1 x2)->X1 ([]:List Str) (0:Int)
theorem yiW (a0:yab) (a1:Str) (r0:List Str) {X1:(List Str)→Int→Prop} {x1:List Str} {x2:Int} (h:ydA a0 a1 r0 X1 x1 x2):yfd a0 a1 r0 X1 x1 x2:=by
 unfold yfd
 unfold ydA at h
 exact h
theorem ylC (a0:yab) (a1:Str) (r0:List Str) (h:yfa a0 a1 r0):ybP a0 a1 r0:=by
 unfold ybP
 unfold yfa at h
 intro X1 k
 exact h X1 (fun x1 x2 q=>k x1 x2 (yiW a0 a1 r0 q))
def ye9:Sp KK:=⟨21,[.v 29, .v 9],[31],appW (K:=KK) [31] [.v 29, .v 9] ybP⟩
def ykk:An KK:=(.s .o (.s .o (.s (.s .o (.b (.l ⟨[(1, .kp 6),(2, .px 2 0),(5, .sl 9),(6, .it .i64)],[(2,29,[.kp 9, .kp 10])],[]⟩ (fun _=>(.s (.s .o (.c .o .o)) (.s (.b (.s .o (.c .o .o))) .o)))))) (.s .o .o))))
def yki:Cf KK:=⟨CC,[yh8,yeB],[],30,[],none,false⟩
theorem yho:SpOk Try.prog CC ye9:=ydy (F:=yki) (ps:= [.v 29, .v 9]) (rs:= [31]) (w:=ybP) ygv (ydl ylW (ydl ygD yd5)) yd6 t21 (A:=ykk) (by kernel_rfl) (by kernel_rfl) (fun a0 a1 r0=>show _=_ by kernel_rfl)
def ydm (a0:yab) (a1:Str) (r0:yab) (r1:Int):Prop:=
 ∃z1,(yaR a0 a1 z1)/\cnd (decide (z1<(0:Int))) (a0=r0/\(6:Int)=r1) (∃z2,(ybP a0 a1 z2)/\(z2.length<=maxLen->cnd (decide ((0:Int)<(z2.length:Int))) (a0=r0/\(15:Int)=r1) ((0<=(0:Int)/\(0:Int)<=z1/\z1<=(a0.Tables.length:Int))/\((ybw a0.Tables (0:Int) z1).length<=400000000)/\(0<=(IntKind.i64.wrap (z1+(1:Int)))/\(IntKind.i64.wrap (z1+(1:Int)))<=(a0.Tables.length:Int)/\(a0.Tables.length:Int)<=(a0.Tables.length:Int))/\((([]:List yac)++(ybw a0.Tables (0:Int) z1)).length<=1000000000)/\((ybw a0.Tables (IntKind.i64.wrap (z1+(1:Int))) (a0.Tables.length:Int)).length<=400000000)/\(⟨(([]:List yac)++(ybw a0.Tables (0:Int) z1))++(ybw a0.Tables (IntKind.i64.wrap (z1+(1:Int))) (a0.Tables.length:Int)),a0.Views⟩:yab)=r0/\(0:Int)=r1)))
def yhK:Sp KK:=⟨8,[.v 29, .v 9],[29,3],appW (K:=KK) [29,3] [.v 29, .v 9] ydm⟩
def ylx:An KK:=(.s .o (.s .o (.s (.s .o (.c (.s .o .o) .o)) (.s (.s .o (.c (.s .o .o) .o)) (.s .o (.s .o .o))))))
def ylR:Cf KK:=⟨CC,[ydr,ye9],[],33,[],none,false⟩
theorem ylh:SpOk Try.prog CC yhK:=ydy (F:=ylR) (ps:= [.v 29, .v 9]) (rs:= [29,3]) (w:=ydm) ygv (ydl yew (ydl yho yd5)) yd6 t8 (A:=ylx) (by kernel_rfl) (by kernel_rfl) (fun a0 a1 r0 r1=>show _=_ by kernel_rfl)
def ydJ (a0:yab) (a1:Str) (r0:Int) (X1:Int→Prop) (x1:Int):Prop:=
 (a0.Views.length<=maxLen->cnd (decide (x1<(a0.Views.length:Int))) ((0<=x1)/\(x1<(a0.Views.length:Int))/\∃y2:yad,(a0.Views[x1.toNat]? =some y2)/\cnd (y2.Name==a1) (x1=r0) (X1 (IntKind.i64.wrap (x1+(1:Int))))) ((-1:Int)=r0))
def yaN (a0:yab) (a1:Str) (r0:Int):Prop:=
 ∀X1:Int->Prop,(∀x1,ydJ a0 a1 r0 X1 x1->X1 x1)->X1 (0:Int)
def ybT (a0:yab) (a1:Str) (r0:Int) (X1:Int→Prop) (x1:Int):Prop:=
 (a0.Views.length<=maxLen->cnd (decide (x1<(a0.Views.length:Int))) ((0<=x1)/\(x1<(a0.Views.length:Int))/\∃y2:yad,(a0.Views[x1.toNat]? =some y2)/\cnd (y2.Name==a1) (x1=r0) (X1 (IntKind.i64.wrap (x1+(1:Int))))) ((-1:Int)=r0))
def yc0 (a0:yab) (a1:Str) (r0:Int):Prop:=
 ∀X1:Int->Prop,(∀x1,ybT a0 a1 r0 X1 x1->X1 x1)->X1 (0:Int)
theorem yhu (a0:yab) (a1:Str) (r0:Int) {X1:Int→Prop} {x1:Int} (h:ybT a0 a1 r0 X1 x1):ydJ a0 a1 r0 X1 x1:=by
 unfold ydJ
 unfold ybT at h
 exact h
theorem ygg (a0:yab) (a1:Str) (r0:Int) (h:yc0 a0 a1 r0):yaN a0 a1 r0:=by
 unfold yaN
 unfold yc0 at h
 intro X1 k
 exact h X1 (fun x1 q=>k x1 (yhu a0 a1 r0 q))
def ycV:Sp KK:=⟨24,[.v 29, .v 9],[3],appW (K:=KK) [3] [.v 29, .v 9] yaN⟩
def yio:An KK:=(.s .o (.s (.s .o (.b (.l ⟨[(1, .kp 5),(2, .px 2 0),(5, .it .i64)],[(2,29,[.kp 7, .kp 8])],[]⟩ (fun _=>(.s (.s .o (.c .o .o)) (.s (.b (.s .o (.c (.s .o .o) .o))) .o)))))) (.s .o .o)))
def yie:Cf KK:=⟨CC,[],[],22,[],none,false⟩
theorem ydK:SpOk Try.prog CC ycV:=ydy (F:=yie) (ps:= [.v 29, .v 9]) (rs:= [3]) (w:=yaN) ygv yd5 yd6 t24 (A:=yio) (by kernel_rfl) (by kernel_rfl) (fun a0 a1 r0=>show _=_ by kernel_rfl)
def yej (a1:yad) (a0 r0:yab) (r1:Int) (X2:Int→Prop) (x2:Int):Prop:=
 (a1.Uses.length<=maxLen->cnd (decide (x2<(a1.Uses.length:Int))) ((0<=x2)/\(x2<(a1.Uses.length:Int))/\∃y3:Str,(a1.Uses[x2.toNat]? =some y3)/\∃z4,(yaR a0 y3 z4)/\cnd (decide (z4<(0:Int))) (a0=r0/\(6:Int)=r1) (X2 (IntKind.i64.wrap (x2+(1:Int))))) ((a0.Views.length<=400000000)/\((([]:List yad)++a0.Views).length<=1000000000)/\(⟨a0.Tables,(([]:List yad)++a0.Views)++([a1]:List yad)⟩:yab)=r0/\(0:Int)=r1))
def yel (a0 r0:yab) (r1:Int) (a1:yad) (x1:Bool):Prop:=
 cnd x1 (a0=r0/\(7:Int)=r1) ((a0.Views.length<=maxLen->cnd (decide ((8:Int)<=(a0.Views.length:Int))) (a0=r0/\(14:Int)=r1) (∀X2:Int->Prop,(∀x2,yej a1 a0 r0 r1 X2 x2->X2 x2)->X2 (0:Int))))
def ybF (a0:yab) (a1:yad) (r0:yab) (r1:Int):Prop:=
 ∀J1:Bool->Prop,(∀x1,yel a0 r0 r1 a1 x1->J1 x1)->∃z5,(yaR a0 a1.Name z5)/\cnd (decide ((0:Int)<=z5)) (J1 true) (∃z6,(yaN a0 a1.Name z6)/\J1 (decide ((0:Int)<=z6)))
def yb8 (a0:yab) (a1:yad) (r0:yab) (r1:Int) (X2:Int→Prop) (x2:Int):Prop:=
 (a1.Uses.length<=maxLen->cnd (decide (x2<(a1.Uses.length:Int))) ((0<=x2)/\(x2<(a1.Uses.length:Int))/\∃y3:Str,(a1.Uses[x2.toNat]? =some y3)/\∃z4,(yaR a0 y3 z4)/\cnd (decide (z4<(0:Int))) (a0=r0/\(6:Int)=r1) (X2 (IntKind.i64.wrap (x2+(1:Int))))) ((a0.Views.length<=400000000)/\((([]:List yad)++a0.Views).length<=1000000000)/\(⟨a0.Tables,(([]:List yad)++a0.Views)++([a1]:List yad)⟩:yab)=r0/\(0:Int)=r1))
def ybl (a0:yab) (a1:yad) (r0:yab) (r1:Int) (x1:Bool):Prop:=
 cnd x1 (a0=r0/\(7:Int)=r1) ((a0.Views.length<=maxLen->cnd (decide ((8:Int)<=(a0.Views.length:Int))) (a0=r0/\(14:Int)=r1) (∀X2:Int->Prop,(∀x2,yb8 a0 a1 r0 r1 X2 x2->X2 x2)->X2 (0:Int))))
def yec (a0:yab) (a1:yad) (r0:yab) (r1:Int):Prop:=
 ∃z5,(yaR a0 a1.Name z5)/\cnd (decide ((0:Int)<=z5)) (ybl a0 a1 r0 r1 true) (∃z6,(yaN a0 a1.Name z6)/\ybl a0 a1 r0 r1 (decide ((0:Int)<=z6)))
theorem yhW (a0:yab) (a1:yad) (r0:yab) (r1:Int) {X2:Int→Prop} {x2:Int} (h:yb8 a0 a1 r0 r1 X2 x2):yej a1 a0 r0 r1 X2 x2:=by
 unfold yej
 unfold yb8 at h
 exact h
theorem yhV (a0:yab) (a1:yad) (r0:yab) (r1:Int) {x1:Bool} (h:ybl a0 a1 r0 r1 x1):yel a0 r0 r1 a1 x1:=by
 unfold yel
 unfold ybl at h
 refine yao h (fun h=> ?_) (fun h=> ?_)
 ·exact h
 ·intro c
  replace h:=h c
  refine yao h (fun h=> ?_) (fun h=> ?_)
  ·exact h
  ·intro X2 k
   exact h X2 (fun x2 q=>k x2 (yhW a0 a1 r0 r1 q))
theorem yjQ (a0:yab) (a1:yad) (r0:yab) (r1:Int) (h:yec a0 a1 r0 r1):ybF a0 a1 r0 r1:=by
 unfold ybF
 unfold yec at h
 intro J1 kJ1
 have hJ1:∀x1,ybl a0 a1 r0 r1 x1->J1 x1:=fun x1 q=>kJ1 x1 (yhV a0 a1 r0 r1 q)
 obtain ⟨z5,h⟩:=h
 refine ⟨z5,?_⟩
 obtain ⟨h0,h⟩:=h
 refine ⟨h0,?_⟩
 refine yao h (fun h=> ?_) (fun h=> ?_)
 ·exact hJ1 _ h
 ·obtain ⟨z6,h⟩:=h
  refine ⟨z6,?_⟩
  obtain ⟨h0,h⟩:=h
  refine ⟨h0,?_⟩
  exact hJ1 _ h
def ygf:Sp KK:=⟨10,[.v 29, .v 41],[29,3],appW (K:=KK) [29,3] [.v 29, .v 41] ybF⟩
def yiT:An KK:=(.s .o (.s (.j ⟨[(2, .px 2 0),(3, .px 3 0),(4, .px 4 0),(18, .bl)],[(2,29,[.kp 7, .kp 8]),(3,41,[.kp 9, .kp 10]),(4,29,[.kp 11, .kp 12])],[]⟩ .o (fun _=>(.c (.s .o .o) .o))) (.s (.s .o (.c (.s .o .o) .o)) (.s (.s .o (.b (.l ⟨[(2, .px 2 0),(3, .px 3 0),(4, .px 4 0),(6, .it .i64)],[(2,29,[.kp 7, .kp 8]),(3,41,[.kp 9, .kp 10]),(4,29,[.kp 11, .kp 12])],[]⟩ (fun _=>(.s (.s .o (.c .o .o)) (.s (.b (.s .o (.c (.s .o .o) .o))) .o)))))) (.s .o (.s .o .o))))))
def yiU:Cf KK:=⟨CC,[ydr,ycV],[],50,[],none,false⟩
theorem yiV:SpOk Try.prog CC ygf:=ydy (F:=yiU) (ps:= [.v 29, .v 41]) (rs:= [29,3]) (w:=ybF) ygv (ydl yew (ydl ydK yd5)) yd6 t10 (A:=yiT) (by kernel_rfl) (by kernel_rfl) (fun a0 a1 r0 r1=>show _=_ by kernel_rfl)
def ybO (a0:yab) (a1:Str) (r0:yab) (r1:Int):Prop:=
 ∃z1,(yaN a0 a1 z1)/\cnd (decide (z1<(0:Int))) (a0=r0/\(6:Int)=r1) ((0<=(0:Int)/\(0:Int)<=z1/\z1<=(a0.Views.length:Int))/\((ybw a0.Views (0:Int) z1).length<=400000000)/\(0<=(IntKind.i64.wrap (z1+(1:Int)))/\(IntKind.i64.wrap (z1+(1:Int)))<=(a0.Views.length:Int)/\(a0.Views.length:Int)<=(a0.Views.length:Int))/\((([]:List yad)++(ybw a0.Views (0:Int) z1)).length<=1000000000)/\((ybw a0.Views (IntKind.i64.wrap (z1+(1:Int))) (a0.Views.length:Int)).length<=400000000)/\(⟨a0.Tables,(([]:List yad)++(ybw a0.Views (0:Int) z1))++(ybw a0.Views (IntKind.i64.wrap (z1+(1:Int))) (a0.Views.length:Int))⟩:yab)=r0/\(0:Int)=r1)
def yfk:Sp KK:=⟨12,[.v 29, .v 9],[29,3],appW (K:=KK) [29,3] [.v 29, .v 9] ybO⟩
def yih:An KK:=(.s .o (.s .o (.s (.s .o (.c (.s .o .o) .o)) (.s .o (.s .o .o)))))
def yia:Cf KK:=⟨CC,[ycV],[],27,[],none,false⟩
theorem yid:SpOk Try.prog CC yfk:=ydy (F:=yia) (ps:= [.v 29, .v 9]) (rs:= [29,3]) (w:=ybO) ygv (ydl ydK yd5) yd6 t12 (A:=yih) (by kernel_rfl) (by kernel_rfl) (fun a0 a1 r0 r1=>show _=_ by kernel_rfl)
def yfZ (a0 r0:yab) (r1:Int) (X4:Int→Prop) (x7:Int) (x8:Bool):Prop:=
 cnd x8 (a0=r0/\(5:Int)=r1) (X4 (IntKind.i64.wrap (x7+(1:Int))))
def yfC (x11:Int) (a2:List yae) (a0 r0:yab) (r1:Int) (X6 X7:Int→Prop) (x12:Int):Prop:=
 cnd (decide (x12<x11)) ((0<=x12)/\(x12<(a2.length:Int))/\∃y13:yae,(a2[x12.toNat]? =some y13)/\(0<=x11)/\(x11<(a2.length:Int))/\∃y14:yae,(a2[x11.toNat]? =some y14)/\cnd (y13.Name==y14.Name) (a0=r0/\(7:Int)=r1) (X7 (IntKind.i64.wrap (x12+(1:Int))))) (X6 (IntKind.i64.wrap (x11+(1:Int))))
def yfG (a2:List yae) (a0 r0:yab) (r1:Int) (a1:Str) (x3:Int) (X6:Int→Prop) (x11:Int):Prop:=
 (a2.length<=maxLen->cnd (decide (x11<(a2.length:Int))) (∀X7:Int->Prop,(∀x12,yfC x11 a2 a0 r0 r1 X6 X7 x12->X7 x12)->X7 (0:Int)) ((a0.Tables.length<=400000000)/\(a2.length<=400000000)/\((([]:List yac)++a0.Tables).length<=1000000000)/\(⟨(([]:List yac)++a0.Tables)++([(⟨a1,([]:List yae)++a2,x3⟩:yac)]:List yac),a0.Views⟩:yab)=r0/\(0:Int)=r1))
def yfY (a2:List yae) (a0 r0:yab) (r1:Int) (a1:Str) (x3:Int) (X4:Int→Prop) (x7:Int):Prop:=
 (a2.length<=maxLen->cnd (decide (x7<(a2.length:Int))) (∀J5:Bool->Prop,(∀x8,yfZ a0 r0 r1 X4 x7 x8->J5 x8)->(0<=x7)/\(x7<(a2.length:Int))/\∃y9:yae,(a2[x7.toNat]? =some y9)/\cnd (decide (y9.Kind<(1:Int))) (J5 true) ((0<=x7)/\(x7<(a2.length:Int))/\∃y10:yae,(a2[x7.toNat]? =some y10)/\J5 (decide ((3:Int)<y10.Kind)))) (∀X6:Int->Prop,(∀x11,yfG a2 a0 r0 r1 a1 x3 X6 x11->X6 x11)->X6 (0:Int)))
def yfL (a0 r0:yab) (r1:Int) (a2:List yae) (a1:Str) (x3:Int) (x6:Bool):Prop:=
 cnd x6 (a0=r0/\(17:Int)=r1) (∀X4:Int->Prop,(∀x7,yfY a2 a0 r0 r1 a1 x3 X4 x7->X4 x7)->X4 (0:Int))
def yfE (a2:List yae) (a0 r0:yab) (r1:Int) (a1:Str) (X2:Int→Int→Int→Prop) (x2 x3 x4:Int):Prop:=
 (a2.length<=maxLen->cnd (decide (x4<(a2.length:Int))) ((0<=x4)/\(x4<(a2.length:Int))/\∃y5:yae,(a2[x4.toNat]? =some y5)/\cnd y5.Key (X2 (IntKind.i64.wrap (x2+(1:Int))) x4 (IntKind.i64.wrap (x4+(1:Int)))) (X2 x2 x3 (IntKind.i64.wrap (x4+(1:Int))))) (∀J3:Bool->Prop,(∀x6,yfL a0 r0 r1 a2 a1 x3 x6->J3 x6)->(a2.length<=maxLen->cnd (decide ((a2.length:Int)<(1:Int))) (J3 true) ((a2.length<=maxLen->cnd (decide ((8:Int)<(a2.length:Int))) (J3 true) (J3 (!(x2==(1:Int)))))))))
def yfQ (a0 r0:yab) (r1:Int) (a2:List yae) (a1:Str) (x1:Bool):Prop:=
 cnd x1 (a0=r0/\(7:Int)=r1) ((a0.Tables.length<=maxLen->cnd (decide ((8:Int)<=(a0.Tables.length:Int))) (a0=r0/\(14:Int)=r1) (∀X2:Int->Int->Int->Prop,(∀x2 x3 x4,yfE a2 a0 r0 r1 a1 X2 x2 x3 x4->X2 x2 x3 x4)->X2 (0:Int) (0:Int) (0:Int))))
def ycR (a0:yab) (a1:Str) (a2:List yae) (r0:yab) (r1:Int):Prop:=
 ∀J1:Bool->Prop,(∀x1,yfQ a0 r0 r1 a2 a1 x1->J1 x1)->∃z15,(yaR a0 a1 z15)/\cnd (decide ((0:Int)<=z15)) (J1 true) (∃z16,(yaN a0 a1 z16)/\J1 (decide ((0:Int)<=z16)))
def ybU (X4:Int→Prop) (a0 r0:yab) (r1 x7:Int) (x8:Bool):Prop:=
 cnd x8 (a0=r0/\(5:Int)=r1) (X4 (IntKind.i64.wrap (x7+(1:Int))))
def ydS (X6:Int→Prop) (a0:yab) (a2:List yae) (r0:yab) (r1 x11:Int) (X7:Int→Prop) (x12:Int):Prop:=
 cnd (decide (x12<x11)) ((0<=x12)/\(x12<(a2.length:Int))/\∃y13:yae,(a2[x12.toNat]? =some y13)/\(0<=x11)/\(x11<(a2.length:Int))/\∃y14:yae,(a2[x11.toNat]? =some y14)/\cnd (y13.Name==y14.Name) (a0=r0/\(7:Int)=r1) (X7 (IntKind.i64.wrap (x12+(1:Int))))) (X6 (IntKind.i64.wrap (x11+(1:Int))))
def ydg (a0:yab) (a1:Str) (a2:List yae) (r0:yab) (r1 x3:Int) (X6:Int→Prop) (x11:Int):Prop:=
 (a2.length<=maxLen->cnd (decide (x11<(a2.length:Int))) (∀X7:Int->Prop,(∀x12,ydS X6 a0 a2 r0 r1 x11 X7 x12->X7 x12)->X7 (0:Int)) ((a0.Tables.length<=400000000)/\(a2.length<=400000000)/\((([]:List yac)++a0.Tables).length<=1000000000)/\(⟨(([]:List yac)++a0.Tables)++([(⟨a1,([]:List yae)++a2,x3⟩:yac)]:List yac),a0.Views⟩:yab)=r0/\(0:Int)=r1))
def ydd (a0:yab) (a1:Str) (a2:List yae) (r0:yab) (r1 x3:Int) (X4:Int→Prop) (x7:Int):Prop:=
 (a2.length<=maxLen->cnd (decide (x7<(a2.length:Int))) ((0<=x7)/\(x7<(a2.length:Int))/\∃y9:yae,(a2[x7.toNat]? =some y9)/\cnd (decide (y9.Kind<(1:Int))) (ybU X4 a0 r0 r1 x7 true) ((0<=x7)/\(x7<(a2.length:Int))/\∃y10:yae,(a2[x7.toNat]? =some y10)/\ybU X4 a0 r0 r1 x7 (decide ((3:Int)<y10.Kind)))) (∀X6:Int->Prop,(∀x11,ydg a0 a1 a2 r0 r1 x3 X6 x11->X6 x11)->X6 (0:Int)))
def ybo (a0:yab) (a1:Str) (a2:List yae) (r0:yab) (r1 x3:Int) (x6:Bool):Prop:=
 cnd x6 (a0=r0/\(17:Int)=r1) (∀X4:Int->Prop,(∀x7,ydd a0 a1 a2 r0 r1 x3 X4 x7->X4 x7)->X4 (0:Int))
def ydb (a0:yab) (a1:Str) (a2:List yae) (r0:yab) (r1:Int) (X2:Int→Int→Int→Prop) (x2 x3 x4:Int):Prop:=
 (a2.length<=maxLen->cnd (decide (x4<(a2.length:Int))) ((0<=x4)/\(x4<(a2.length:Int))/\∃y5:yae,(a2[x4.toNat]? =some y5)/\cnd y5.Key (X2 (IntKind.i64.wrap (x2+(1:Int))) x4 (IntKind.i64.wrap (x4+(1:Int)))) (X2 x2 x3 (IntKind.i64.wrap (x4+(1:Int))))) ((a2.length<=maxLen->cnd (decide ((a2.length:Int)<(1:Int))) (ybo a0 a1 a2 r0 r1 x3 true) ((a2.length<=maxLen->cnd (decide ((8:Int)<(a2.length:Int))) (ybo a0 a1 a2 r0 r1 x3 true) (ybo a0 a1 a2 r0 r1 x3 (!(x2==(1:Int)))))))))
def yb1 (a0:yab) (a1:Str) (a2:List yae) (r0:yab) (r1:Int) (x1:Bool):Prop:=
 cnd x1 (a0=r0/\(7:Int)=r1) ((a0.Tables.length<=maxLen->cnd (decide ((8:Int)<=(a0.Tables.length:Int))) (a0=r0/\(14:Int)=r1) (∀X2:Int->Int->Int->Prop,(∀x2 x3 x4,ydb a0 a1 a2 r0 r1 X2 x2 x3 x4->X2 x2 x3 x4)->X2 (0:Int) (0:Int) (0:Int))))
def yf4 (a0:yab) (a1:Str) (a2:List yae) (r0:yab) (r1:Int):Prop:=
 ∃z15,(yaR a0 a1 z15)/\cnd (decide ((0:Int)<=z15)) (yb1 a0 a1 a2 r0 r1 true) (∃z16,(yaN a0 a1 z16)/\yb1 a0 a1 a2 r0 r1 (decide ((0:Int)<=z16)))
theorem yjB (X4:Int→Prop) (a0 r0:yab) (r1 x7:Int) {x8:Bool} (h:ybU X4 a0 r0 r1 x7 x8):yfZ a0 r0 r1 X4 x7 x8:=by
 unfold yfZ
 unfold ybU at h
 exact h
theorem yj9 (X6:Int→Prop) (a0:yab) (a2:List yae) (r0:yab) (r1 x11:Int) {X7:Int→Prop} {x12:Int} (h:ydS X6 a0 a2 r0 r1 x11 X7 x12):yfC x11 a2 a0 r0 r1 X6 X7 x12:=by
 unfold yfC
 unfold ydS at h
 exact h
theorem yjo (a0:yab) (a1:Str) (a2:List yae) (r0:yab) (r1 x3:Int) {X6:Int→Prop} {x11:Int} (h:ydg a0 a1 a2 r0 r1 x3 X6 x11):yfG a2 a0 r0 r1 a1 x3 X6 x11:=by
 unfold yfG
 unfold ydg at h
 intro c
 replace h:=h c
 refine yao h (fun h=> ?_) (fun h=> ?_)
 ·intro X7 k
  exact h X7 (fun x12 q=>k x12 (yj9 X6 a0 a2 r0 r1 x11 q))
 ·exact h
theorem ykg (a0:yab) (a1:Str) (a2:List yae) (r0:yab) (r1 x3:Int) {X4:Int→Prop} {x7:Int} (h:ydd a0 a1 a2 r0 r1 x3 X4 x7):yfY a2 a0 r0 r1 a1 x3 X4 x7:=by
 unfold yfY
 unfold ydd at h
 intro c
 replace h:=h c
 refine yao h (fun h=> ?_) (fun h=> ?_)
 ·intro J5 kJ5
  have hJ5:∀x8,ybU X4 a0 r0 r1 x7 x8->J5 x8:=fun x8 q=>kJ5 x8 (yjB X4 a0 r0 r1 x7 q)
  obtain ⟨h0,h⟩:=h
  refine ⟨h0,?_⟩
  obtain ⟨h0,h⟩:=h
  refine ⟨h0,?_⟩
  obtain ⟨y9,h⟩:=h
  refine ⟨y9,?_⟩
  obtain ⟨h0,h⟩:=h
  refine ⟨h0,?_⟩
  refine yao h (fun h=> ?_) (fun h=> ?_)
  ·exact hJ5 _ h
  ·obtain ⟨h0,h⟩:=h
   refine ⟨h0,?_⟩
   obtain ⟨h0,h⟩:=h
   refine ⟨h0,?_⟩
   obtain ⟨y10,h⟩:=h
   refine ⟨y10,?_⟩
   obtain ⟨h0,h⟩:=h
   refine ⟨h0,?_⟩
   exact hJ5 _ h
 ·intro X6 k
  exact h X6 (fun x11 q=>k x11 (yjo a0 a1 a2 r0 r1 x3 q))
theorem ykh (a0:yab) (a1:Str) (a2:List yae) (r0:yab) (r1 x3:Int) {x6:Bool} (h:ybo a0 a1 a2 r0 r1 x3 x6):yfL a0 r0 r1 a2 a1 x3 x6:=by
 unfold yfL
 unfold ybo at h
 refine yao h (fun h=> ?_) (fun h=> ?_)
 ·exact h
 ·intro X4 k
  exact h X4 (fun x7 q=>k x7 (ykg a0 a1 a2 r0 r1 x3 q))
theorem yjH (a0:yab) (a1:Str) (a2:List yae) (r0:yab) (r1:Int) {X2:Int→Int→Int→Prop} {x2 x3 x4:Int} (h:ydb a0 a1 a2 r0 r1 X2 x2 x3 x4):yfE a2 a0 r0 r1 a1 X2 x2 x3 x4:=by
 unfold yfE
 unfold ydb at h
 intro c
 replace h:=h c
 refine yao h (fun h=> ?_) (fun h=> ?_)
 ·exact h
 ·intro J3 kJ3
  have hJ3:∀x6,ybo a0 a1 a2 r0 r1 x3 x6->J3 x6:=fun x6 q=>kJ3 x6 (ykh a0 a1 a2 r0 r1 x3 q)
  intro c
  replace h:=h c
  refine yao h (fun h=> ?_) (fun h=> ?_)
  ·exact hJ3 _ h
  ·intro c
   replace h:=h c
   refine yao h (fun h=> ?_) (fun h=> ?_)
   ·exact hJ3 _ h
   ·exact hJ3 _ h
theorem yjP (a0:yab) (a1:Str) (a2:List yae) (r0:yab) (r1:Int) {x1:Bool} (h:yb1 a0 a1 a2 r0 r1 x1):yfQ a0 r0 r1 a2 a1 x1:=by
 unfold yfQ
 unfold yb1 at h
 refine yao h (fun h=> ?_) (fun h=> ?_)
 ·exact h
 ·intro c
  replace h:=h c
  refine yao h (fun h=> ?_) (fun h=> ?_)
  ·exact h
  ·intro X2 k
   exact h X2 (fun x2 x3 x4 q=>k x2 x3 x4 (yjH a0 a1 a2 r0 r1 q))
theorem yl2 (a0:yab) (a1:Str) (a2:List yae) (r0:yab) (r1:Int) (h:yf4 a0 a1 a2 r0 r1):ycR a0 a1 a2 r0 r1:=by
 unfold ycR
 unfold yf4 at h
 intro J1 kJ1
 have hJ1:∀x1,yb1 a0 a1 a2 r0 r1 x1->J1 x1:=fun x1 q=>kJ1 x1 (yjP a0 a1 a2 r0 r1 q)
 obtain ⟨z15,h⟩:=h
 refine ⟨z15,?_⟩
 obtain ⟨h0,h⟩:=h
 refine ⟨h0,?_⟩
 refine yao h (fun h=> ?_) (fun h=> ?_)
 ·exact hJ1 _ h
 ·obtain ⟨z16,h⟩:=h
  refine ⟨z16,?_⟩
  obtain ⟨h0,h⟩:=h
  refine ⟨h0,?_⟩
  exact hJ1 _ h
def yhU:Sp KK:=⟨16,[.v 29, .v 9, .v 42],[29,3],appW (K:=KK) [29,3] [.v 29, .v 9, .v 42] ycR⟩
def ylK:An KK:=(.s .o (.s (.j ⟨[(1, .kp 7),(2, .kp 8),(3, .px 3 0),(6, .px 6 0),(23, .bl)],[(3,29,[.kp 9, .kp 10]),(6,29,[.kp 11, .kp 12])],[]⟩ .o (fun _=>(.c (.s .o .o) .o))) (.s (.s .o (.c (.s .o .o) .o)) (.s .o (.s (.s .o (.b (.l ⟨[(1, .kp 7),(2, .kp 8),(3, .px 3 0),(6, .px 6 0),(8, .it .i64),(9, .it .i64),(10, .it .i64)],[(3,29,[.kp 9, .kp 10]),(6,29,[.kp 11, .kp 12])],[]⟩ (fun _=>(.s (.s .o (.c .o .o)) (.s (.b (.s .o (.c .o .o))) .o)))))) (.s (.j ⟨[(1, .kp 7),(2, .kp 8),(3, .px 3 0),(6, .px 6 0),(9, .kp 20),(55, .bl)],[(3,29,[.kp 9, .kp 10]),(6,29,[.kp 11, .kp 12])],[]⟩ .o (fun _=>(.c (.s .o .o) .o))) (.s (.s .o (.b (.l ⟨[(1, .kp 7),(2, .kp 8),(3, .px 3 0),(6, .px 6 0),(9, .kp 20),(11, .it .i64)],[(3,29,[.kp 9, .kp 10]),(6,29,[.kp 11, .kp 12])],[]⟩ (fun _=>(.s (.s .o (.c .o .o)) (.s (.b (.j ⟨[(1, .kp 7),(2, .kp 8),(3, .px 3 0),(6, .px 6 0),(9, .kp 20),(11, .kp 30),(76, .bl)],[(3,29,[.kp 9, .kp 10]),(6,29,[.kp 11, .kp 12])],[]⟩ .o (fun _=>(.c (.s .o .o) .o)))) .o)))))) (.s (.s .o (.b (.l ⟨[(1, .kp 7),(2, .kp 8),(3, .px 3 0),(6, .px 6 0),(9, .kp 20),(12, .it .i64)],[(3,29,[.kp 9, .kp 10]),(6,29,[.kp 11, .kp 12])],[]⟩ (fun _=>(.s (.s .o (.c .o .o)) (.s (.b (.s .o (.b (.l ⟨[(1, .kp 7),(2, .kp 8),(3, .px 3 0),(6, .px 6 0),(9, .kp 20),(12, .kp 51),(13, .it .i64)],[(3,29,[.kp 9, .kp 10]),(6,29,[.kp 11, .kp 12])],[]⟩ (fun _=>(.s (.s .o (.c .o .o)) (.s (.b (.s .o (.c (.s .o .o) .o))) .o))))))) .o)))))) (.s .o (.s .o .o))))))))))
def ylH:Cf KK:=⟨CC,[ydr,ycV],[],115,[],none,false⟩
theorem yk1:SpOk Try.prog CC yhU:=ydy (F:=ylH) (ps:= [.v 29, .v 9, .v 42]) (rs:= [29,3]) (w:=ycR) ygv (ydl yew (ydl ydK yd5)) yd6 t16 (A:=ylK) (by kernel_rfl) (by kernel_rfl) (fun a0 a1 a2 r0 r1=>show _=_ by kernel_rfl)
def ybc (a0:yaf) (a1:Str) (r0:Bool):Prop:=
 ((a1=a1))/\(a0.Name==a1)=r0
def ya9:Sl KK:=⟨27,[],⟨[(0, .v 54),(1, .px 2000000 0)],[(2000000,9,[.st])],[]⟩,⟨[(3, .bl)],[],[]⟩,[2000000],[(3,none)],true,fun _ _ _=>True⟩
def yba:Sl KK:=⟨27,[],⟨[(0, .v 54),(1, .px 2000000 0)],[(2000000,9,[.st])],[]⟩,⟨[(3, .bl)],[],[]⟩,[2000000],[(3,none)],true,apFs (K:=KK) (ctT ya9.ti) (ctT ya9.te) [] ybc⟩
def yet:An KK:=(.s .o (.s .o .o))
def yes:Cf KK:=⟨CC,[],[],8,[],none,false⟩
theorem yeo:SlOk Try.prog CC yba:=by
 intro fs env out hl hF hW
 obtain ⟨rfl,h0⟩:=ydt hW
 obtain ⟨a0,ea0,rfl,h1⟩:=ybv h0
 obtain ⟨a1,ea1,rfl,h2⟩:=ybv h1
 obtain ⟨rfl,h3⟩:=ydE h2
 obtain ⟨r0,er0,rfl,h4⟩:=ybb h3
 obtain ⟨rfl,h5⟩:=ycd h4
 show SlC Try.prog CC yba [] [.v 54 a0, .s a1] [.b r0]
 rw[show SlC Try.prog CC yba [] [.v 54 a0, .s a1] [.b r0]=SlC Try.prog CC ya9 [] [.v 54 a0, .s a1] [.b r0] by kernel_rfl]
 exact yr1 (F:=yes) ygv yd5 yd6 t27 (A:=yet) (sp:=ya9) rfl (by kernel_rfl) (by kernel_rfl) (Nat.le_of_ble_eq_true (by kernel_rfl)) (fs:= []) (env:= [.v 54 a0, .s a1]) (out:= [.b r0]) (by kernel_rfl) hF (X:=ybc a0 a1 r0) h5 (by kernel_rfl)
def ybu (a0:List yaf) (r0:Int) (r1:Str) (X1:Int→Str→Prop) (x1:Int) (x2:Str):Prop:=
 cnd (decide (x1<(a0.length:Int))) ((0<=x1)/\(x1<(a0.length:Int))/\∃y3:yaf,(a0[x1.toNat]? =some y3)/\∃z4,(ybc y3 x2 z4)/\cnd z4 (x1=r0/\x2=r1) (X1 (IntKind.i64.wrap (x1+(1:Int))) x2)) ((-1:Int)=r0/\x2=r1)
def yaJ (a0:List yaf) (a1:Str) (r0:Int) (r1:Str):Prop:=
 (a0.length<=maxLen->∀X1:Int->Str->Prop,(∀x1 x2,ybu a0 r0 r1 X1 x1 x2->X1 x1 x2)->X1 (0:Int) a1)
def yaM (a0:List yaf) (r0:Int) (r1:Str) (X1:Int→Str→Prop) (x1:Int) (x2:Str):Prop:=
 cnd (decide (x1<(a0.length:Int))) ((0<=x1)/\(x1<(a0.length:Int))/\∃y3:yaf,(a0[x1.toNat]? =some y3)/\∃z4,(ybc y3 x2 z4)/\cnd z4 (x1=r0/\x2=r1) (X1 (IntKind.i64.wrap (x1+(1:Int))) x2)) ((-1:Int)=r0/\x2=r1)
def ya5 (a0:List yaf) (a1:Str) (r0:Int) (r1:Str):Prop:=
 (a0.length<=maxLen->∀X1:Int->Str->Prop,(∀x1 x2,yaM a0 r0 r1 X1 x1 x2->X1 x1 x2)->X1 (0:Int) a1)
theorem ydI (a0:List yaf) (r0:Int) (r1:Str) {X1:Int→Str→Prop} {x1:Int} {x2:Str} (h:yaM a0 r0 r1 X1 x1 x2):ybu a0 r0 r1 X1 x1 x2:=by
 unfold ybu
 unfold yaM at h
 exact h
theorem ycs (a0:List yaf) (a1:Str) (r0:Int) (r1:Str) (h:ya5 a0 a1 r0 r1):yaJ a0 a1 r0 r1:=by
 unfold yaJ
 unfold ya5 at h
 intro c
 replace h:=h c
 intro X1 k
 exact h X1 (fun x1 x2 q=>k x1 x2 (ydI a0 r0 r1 q))
def ya3:Sl KK:=⟨26,[],⟨[(0, .sl 54),(1, .fn 27 [] [.px 2000000 0])],[(2000000,9,[.st])],[]⟩,⟨[(4, .it .i64)],[(2000000,9,[.st])],[]⟩,[],[(4,none)],true,fun _ _ _=>True⟩
def ya2:Sl KK:=⟨26,[],⟨[(0, .sl 54),(1, .fn 27 [] [.px 2000000 0])],[(2000000,9,[.st])],[]⟩,⟨[(4, .it .i64)],[(2000000,9,[.st])],[]⟩,[],[(4,none)],true,apFs (K:=KK) (ctT ya3.ti) (ctT ya3.te) [] yaJ⟩
def yeh:An KK:=(.s .o (.s (.s .o (.b (.l ⟨[(0, .kp 5),(1, .fn 27 [] [.px 2000000 0]),(7, .kp 6),(8, .it .i64)],[(2000000,9,[.st])],[]⟩ (fun _=>(.s .o (.s (.c .o .o) (.s (.b (.s .o (.s .o (.c (.s .o .o) .o)))) .o))))))) (.s .o .o)))
def yef:Cf KK:=⟨CC,[],[yba],19,[],none,false⟩
theorem yee:SlOk Try.prog CC ya2:=by
 intro fs env out hl hF hW
 obtain ⟨rfl,h0⟩:=ydt hW
 obtain ⟨a0,ea0,rfl,h1⟩:=ybv h0
 obtain ⟨a1,ea1,rfl,h2⟩:=ybv h1
 obtain ⟨rfl,h3⟩:=ydE h2
 obtain ⟨r0,er0,rfl,h4⟩:=ybb h3
 obtain ⟨r1,er1,rfl,h5⟩:=ybb h4
 obtain ⟨rfl,h6⟩:=ycd h5
 show SlC Try.prog CC ya2 [] [.l 54 a0, .s a1] [.i r0, .s r1]
 rw[show SlC Try.prog CC ya2 [] [.l 54 a0, .s a1] [.i r0, .s r1]=SlC Try.prog CC ya3 [] [.l 54 a0, .s a1] [.i r0, .s r1] by kernel_rfl]
 exact yr1 (F:=yef) ygv yd5 (yco yeo yd6) t26 (A:=yeh) (sp:=ya3) rfl (by kernel_rfl) (by kernel_rfl) (Nat.le_of_ble_eq_true (by kernel_rfl)) (fs:= []) (env:= [.l 54 a0, .s a1]) (out:= [.i r0, .s r1]) (by kernel_rfl) hF (X:=yaJ a0 a1 r0 r1) h6 (by kernel_rfl)
def ybI (a0:yan) (a1:Str) (r0:Int) (r1:Bool):Prop:=
 ∃z1 z2,(yaJ a0.Columns a1 z1 z2)/\(if (0:Int)>z1 then (0:Int) else z1)=r0/\(decide ((0:Int)<=z1))=r1
def yds:Sp KK:=⟨14,[.v 47, .v 9],[3,4],appW (K:=KK) [3,4] [.v 47, .v 9] ybI⟩
def yfB:An KK:=(.s .o (.s .o (.s .o .o)))
def yf3:Cf KK:=⟨CC,[],[ya2],15,[],none,false⟩
theorem yfO:SpOk Try.prog CC yds:=ydy (F:=yf3) (ps:= [.v 47, .v 9]) (rs:= [3,4]) (w:=ybI) ygv yd5 (yco yee yd6) t14 (A:=yfB) (by kernel_rfl) (by kernel_rfl) (fun a0 a1 r0 r1=>show _=_ by kernel_rfl)
def yb0 (a0:Str) (a1:List Str) (a2:yaa) (r0:Int) (r1:yaa):Prop:=
 ∃T W,a2=mkS T W/\a0.length<=9223372036854775807/\a1.length<=1000000/\(∀u∈a1,u.length<=9223372036854775807)/\r0=vwE T W a0 a1/\r1=mkS T (vwT T W a0 a1)
def yda:Sl KK:=⟨9,[],⟨[(0, .px 2000000 0),(1, .st),(2, .sl 9)],[(2000000,1000002,[.v 139])],[]⟩,⟨[(6, .it .i64)],[(2000000,1000002,[.v 139])],[]⟩,[],[(6,none)],true,fun _ _ _=>True⟩
def yaG:Sl KK:=⟨9,[],⟨[(0, .px 2000000 0),(1, .st),(2, .sl 9)],[(2000000,1000002,[.v 139])],[]⟩,⟨[(6, .it .i64)],[(2000000,1000002,[.v 139])],[]⟩,[],[(6,none)],true,apFs (K:=KK) (ctT yda.ti) (ctT yda.te) [] yb0⟩
theorem yeS:SlOk Try.prog CC yaG:=by
 intro fs env out hl hF hW
 obtain ⟨rfl,h0⟩:=ydt hW
 obtain ⟨a0,ea0,rfl,h1⟩:=ybv h0
 obtain ⟨a1,ea1,rfl,h2⟩:=ybv h1
 obtain ⟨a2,ea2,rfl,h3⟩:=ybv h2
 obtain ⟨rfl,h4⟩:=ydE h3
 obtain ⟨r0,er0,rfl,h5⟩:=ybb h4
 obtain ⟨r1,er1,rfl,h6⟩:=ybb h5
 obtain ⟨rfl,hf⟩:=ycd h6
 obtain ⟨T,W,rfl,c0,c1,c2,rfl,rfl⟩:=hf
 exact yg4 (C:=CC) (sp:=yaG) (env:= [.s a0, .l 9 a1, .v 139 (mkS T W)]) (out:= [.i (vwE T W a0 a1), .v 139 (mkS T (vwT T W a0 a1))]) (env':= [.i (vwE T W a0 a1), .v 139 (mkS T (vwT T W a0 a1))]) (e:=1000002) (t:=139) (x:=(mkS T W)) (x':=(mkS T (vwT T W a0 a1))) (rest:= [.st a0, .sl false a1.length (a1.flatMap fun z=> [.st z])]) (us:= [.it .i64 (vwE T W a0 a1)]) (fun H n=>by simp only[encS];exact ywA T W a0 a1 c0 c1 c2 H n) (by kernel_rfl) (by kernel_rfl) (fun χ=>by kernel_rfl) (by kernel_rfl) (Eq.mpr (show kpt (entL CC yaG [] [.s a0, .l 9 a1, .v 139 (mkS T W)]) (bdT CC yaG.to [] [] [.i (vwE T W a0 a1), .v 139 (mkS T (vwT T W a0 a1))]) yaG.kp (eqDV (selL yaG [.i (vwE T W a0 a1), .v 139 (mkS T (vwT T W a0 a1))]) [.i (vwE T W a0 a1), .v 139 (mkS T (vwT T W a0 a1))])=((vwE T W a0 a1:Int)=vwE T W a0 a1/\(mkS T (vwT T W a0 a1))=(mkS T (vwT T W a0 a1))) by kernel_rfl) ⟨rfl,rfl⟩) (by kernel_rfl) (by kernel_rfl) (by kernel_rfl)
def ybs (a0:Str) (a1:yaa) (r0:Int) (r1:yaa):Prop:=
 ∃T W,a1=mkS T W/\a0.length<=9223372036854775807/\r0=dvE W a0/\r1=mkS T (gDel W a0)
def ycb:Sl KK:=⟨11,[],⟨[(0, .px 2000000 0),(1, .st)],[(2000000,1000002,[.v 139])],[]⟩,⟨[(4, .it .i64)],[(2000000,1000002,[.v 139])],[]⟩,[],[(4,none)],true,fun _ _ _=>True⟩
def yat:Sl KK:=⟨11,[],⟨[(0, .px 2000000 0),(1, .st)],[(2000000,1000002,[.v 139])],[]⟩,⟨[(4, .it .i64)],[(2000000,1000002,[.v 139])],[]⟩,[],[(4,none)],true,apFs (K:=KK) (ctT ycb.ti) (ctT ycb.te) [] ybs⟩
theorem yea:SlOk Try.prog CC yat:=by
 intro fs env out hl hF hW
 obtain ⟨rfl,h0⟩:=ydt hW
 obtain ⟨a0,ea0,rfl,h1⟩:=ybv h0
 obtain ⟨a1,ea1,rfl,h2⟩:=ybv h1
 obtain ⟨rfl,h3⟩:=ydE h2
 obtain ⟨r0,er0,rfl,h4⟩:=ybb h3
 obtain ⟨r1,er1,rfl,h5⟩:=ybb h4
 obtain ⟨rfl,hf⟩:=ycd h5
 obtain ⟨T,W,rfl,c0,rfl,rfl⟩:=hf
 exact yg4 (C:=CC) (sp:=yat) (env:= [.s a0, .v 139 (mkS T W)]) (out:= [.i (dvE W a0), .v 139 (mkS T (gDel W a0))]) (env':= [.i (dvE W a0), .v 139 (mkS T (gDel W a0))]) (e:=1000002) (t:=139) (x:=(mkS T W)) (x':=(mkS T (gDel W a0))) (rest:= [.st a0]) (us:= [.it .i64 (dvE W a0)]) (fun H n=>by simp only[encS];exact yu6 T W a0 c0 H n) (by kernel_rfl) (by kernel_rfl) (fun χ=>by kernel_rfl) (by kernel_rfl) (Eq.mpr (show kpt (entL CC yat [] [.s a0, .v 139 (mkS T W)]) (bdT CC yat.to [] [] [.i (dvE W a0), .v 139 (mkS T (gDel W a0))]) yat.kp (eqDV (selL yat [.i (dvE W a0), .v 139 (mkS T (gDel W a0))]) [.i (dvE W a0), .v 139 (mkS T (gDel W a0))])=((dvE W a0:Int)=dvE W a0/\(mkS T (gDel W a0))=(mkS T (gDel W a0))) by kernel_rfl) ⟨rfl,rfl⟩) (by kernel_rfl) (by kernel_rfl) (by kernel_rfl)
def ye8 (a0:yab) (x1 r0 r1:List Str) (X2:(List Str)→Int→Prop) (x5:List Str) (x6:Int):Prop:=
 (a0.Views.length<=maxLen->cnd (decide (x6<(a0.Views.length:Int))) ((0<=x6)/\(x6<(a0.Views.length:Int))/\∃y7:yad,(a0.Views[x6.toNat]? =some y7)/\∃z8,(ya1 x5 y7.Name z8)/\X2 z8 (IntKind.i64.wrap (x6+(1:Int)))) (x1=r0/\x5=r1))
def yfb (a0:yab) (r0 r1:List Str) (X1:(List Str)→Int→Prop) (x1:List Str) (x2:Int):Prop:=
 (a0.Tables.length<=maxLen->cnd (decide (x2<(a0.Tables.length:Int))) ((0<=x2)/\(x2<(a0.Tables.length:Int))/\∃y3:yac,(a0.Tables[x2.toNat]? =some y3)/\∃z4,(ya1 x1 y3.Name z4)/\X1 z4 (IntKind.i64.wrap (x2+(1:Int)))) (∀X2:(List Str)->Int->Prop,(∀x5 x6,ye8 a0 x1 r0 r1 X2 x5 x6->X2 x5 x6)->X2 ([]:List Str) (0:Int)))
def ycg (a0:yab) (r0 r1:List Str):Prop:=
 ∀X1:(List Str)->Int->Prop,(∀x1 x2,yfb a0 r0 r1 X1 x1 x2->X1 x1 x2)->X1 ([]:List Str) (0:Int)
def ydv (a0:yab) (r0 r1 x1:List Str) (X2:(List Str)→Int→Prop) (x5:List Str) (x6:Int):Prop:=
 (a0.Views.length<=maxLen->cnd (decide (x6<(a0.Views.length:Int))) ((0<=x6)/\(x6<(a0.Views.length:Int))/\∃y7:yad,(a0.Views[x6.toNat]? =some y7)/\∃z8,(ya1 x5 y7.Name z8)/\X2 z8 (IntKind.i64.wrap (x6+(1:Int)))) (x1=r0/\x5=r1))
def ydB (a0:yab) (r0 r1:List Str) (X1:(List Str)→Int→Prop) (x1:List Str) (x2:Int):Prop:=
 (a0.Tables.length<=maxLen->cnd (decide (x2<(a0.Tables.length:Int))) ((0<=x2)/\(x2<(a0.Tables.length:Int))/\∃y3:yac,(a0.Tables[x2.toNat]? =some y3)/\∃z4,(ya1 x1 y3.Name z4)/\X1 z4 (IntKind.i64.wrap (x2+(1:Int)))) (∀X2:(List Str)->Int->Prop,(∀x5 x6,ydv a0 r0 r1 x1 X2 x5 x6->X2 x5 x6)->X2 ([]:List Str) (0:Int)))
def ye4 (a0:yab) (r0 r1:List Str):Prop:=
 ∀X1:(List Str)->Int->Prop,(∀x1 x2,ydB a0 r0 r1 X1 x1 x2->X1 x1 x2)->X1 ([]:List Str) (0:Int)
theorem yiN (a0:yab) (r0 r1 x1:List Str) {X2:(List Str)→Int→Prop} {x5:List Str} {x6:Int} (h:ydv a0 r0 r1 x1 X2 x5 x6):ye8 a0 x1 r0 r1 X2 x5 x6:=by
 unfold ye8
 unfold ydv at h
 exact h
theorem yiL (a0:yab) (r0 r1:List Str) {X1:(List Str)→Int→Prop} {x1:List Str} {x2:Int} (h:ydB a0 r0 r1 X1 x1 x2):yfb a0 r0 r1 X1 x1 x2:=by
 unfold yfb
 unfold ydB at h
 intro c
 replace h:=h c
 refine yao h (fun h=> ?_) (fun h=> ?_)
 ·exact h
 ·intro X2 k
  exact h X2 (fun x5 x6 q=>k x5 x6 (yiN a0 r0 r1 x1 q))
theorem ylq (a0:yab) (r0 r1:List Str) (h:ye4 a0 r0 r1):ycg a0 r0 r1:=by
 unfold ycg
 unfold ye4 at h
 intro X1 k
 exact h X1 (fun x1 x2 q=>k x1 x2 (yiL a0 r0 r1 q))
def yhn:Sp KK:=⟨30,[.v 29],[31,31],appW (K:=KK) [31,31] [.v 29] ycg⟩
def ykp:An KK:=(.s .o (.s .o (.s (.s .o (.b (.l ⟨[(1, .px 1 0),(4, .sl 9),(5, .kp 7),(6, .it .i64)],[(1,29,[.kp 9, .kp 10])],[]⟩ (fun _=>(.s (.s .o (.c .o .o)) (.s (.b .o) .o)))))) (.s (.s .o (.b (.l ⟨[(1, .px 1 0),(4, .kp 13),(5, .sl 9),(7, .it .i64)],[(1,29,[.kp 9, .kp 10])],[]⟩ (fun _=>(.s (.s .o (.c .o .o)) (.s (.b .o) .o)))))) (.s .o .o)))))
def ykq:Cf KK:=⟨CC,[yeB],[],40,[],none,false⟩
theorem yku:SpOk Try.prog CC yhn:=ydy (F:=ykq) (ps:= [.v 29]) (rs:= [31,31]) (w:=ycg) ygv (ydl ygD yd5) yd6 t30 (A:=ykp) (by kernel_rfl) (by kernel_rfl) (fun a0 r0 r1=>show _=_ by kernel_rfl)
def yfP (x1:Int) (a0 a1:List Str) (r0:Bool) (X1:Int→Prop) (x2:Bool):Prop:=
 cnd x2 ((0<=x1)/\(x1<(a0.length:Int))/\∃y3:Str,(a0[x1.toNat]? =some y3)/\(0<=x1)/\(x1<(a1.length:Int))/\∃y4:Str,(a1[x1.toNat]? =some y4)/\cnd (!(y3==y4)) (false=r0) (X1 (IntKind.i64.wrap (x1+(1:Int))))) ((a0.length<=maxLen->(a1.length<=maxLen->((a0.length:Int)==(a1.length:Int))=r0)))
def yfz (a0 a1:List Str) (r0:Bool) (X1:Int→Prop) (x1:Int):Prop:=
 ∀J2:Bool->Prop,(∀x2,yfP x1 a0 a1 r0 X1 x2->J2 x2)->(a0.length<=maxLen->cnd (decide (x1<(a0.length:Int))) ((a1.length<=maxLen->J2 (decide (x1<(a1.length:Int))))) (J2 false))
def ybr (a0 a1:List Str) (r0:Bool):Prop:=
 ∀X1:Int->Prop,(∀x1,yfz a0 a1 r0 X1 x1->X1 x1)->X1 (0:Int)
def ybB (X1:Int→Prop) (a0 a1:List Str) (r0:Bool) (x1:Int) (x2:Bool):Prop:=
 cnd x2 ((0<=x1)/\(x1<(a0.length:Int))/\∃y3:Str,(a0[x1.toNat]? =some y3)/\(0<=x1)/\(x1<(a1.length:Int))/\∃y4:Str,(a1[x1.toNat]? =some y4)/\cnd (!(y3==y4)) (false=r0) (X1 (IntKind.i64.wrap (x1+(1:Int))))) ((a0.length<=maxLen->(a1.length<=maxLen->((a0.length:Int)==(a1.length:Int))=r0)))
def ydO (a0 a1:List Str) (r0:Bool) (X1:Int→Prop) (x1:Int):Prop:=
 (a0.length<=maxLen->cnd (decide (x1<(a0.length:Int))) ((a1.length<=maxLen->ybB X1 a0 a1 r0 x1 (decide (x1<(a1.length:Int))))) (ybB X1 a0 a1 r0 x1 false))
def yf6 (a0 a1:List Str) (r0:Bool):Prop:=
 ∀X1:Int->Prop,(∀x1,ydO a0 a1 r0 X1 x1->X1 x1)->X1 (0:Int)
theorem yjz (X1:Int→Prop) (a0 a1:List Str) (r0:Bool) (x1:Int) {x2:Bool} (h:ybB X1 a0 a1 r0 x1 x2):yfP x1 a0 a1 r0 X1 x2:=by
 unfold yfP
 unfold ybB at h
 exact h
theorem yke (a0 a1:List Str) (r0:Bool) {X1:Int→Prop} {x1:Int} (h:ydO a0 a1 r0 X1 x1):yfz a0 a1 r0 X1 x1:=by
 unfold yfz
 unfold ydO at h
 intro J2 kJ2
 have hJ2:∀x2,ybB X1 a0 a1 r0 x1 x2->J2 x2:=fun x2 q=>kJ2 x2 (yjz X1 a0 a1 r0 x1 q)
 intro c
 replace h:=h c
 refine yao h (fun h=> ?_) (fun h=> ?_)
 ·intro c
  replace h:=h c
  exact hJ2 _ h
 ·exact hJ2 _ h
theorem ymd (a0 a1:List Str) (r0:Bool) (h:yf6 a0 a1 r0):ybr a0 a1 r0:=by
 unfold ybr
 unfold yf6 at h
 intro X1 k
 exact h X1 (fun x1 q=>k x1 (yke a0 a1 r0 q))
def yhT:Sp KK:=⟨31,[.v 31, .v 31],[4],appW (K:=KK) [4] [.v 31, .v 31] ybr⟩
def ykR:An KK:=(.s .o (.s (.s .o (.b (.l ⟨[(0, .kp 8),(1, .kp 9),(5, .it .i64)],[],[]⟩ (fun _=>(.s (.j ⟨[(0, .kp 8),(1, .kp 9),(5, .kp 14),(15, .bl)],[],[]⟩ .o (fun _=>(.c .o .o))) (.s (.b (.s .o (.c (.s .o .o) .o))) .o)))))) (.s .o .o)))
def yla:Cf KK:=⟨CC,[],[],32,[],none,false⟩
theorem ykV:SpOk Try.prog CC yhT:=ydy (F:=yla) (ps:= [.v 31, .v 31]) (rs:= [4]) (w:=ybr) ygv yd5 yd6 t31 (A:=ykR) (by kernel_rfl) (by kernel_rfl) (fun a0 a1 r0=>show _=_ by kernel_rfl)
def ybj (a0:yaa) (r0 r1:List Str):Prop:=
 ∃T W,a0=mkS T W/\r0=T.map (·.1)/\r1=W.map (·.1)
def ycH:Sl KK:=⟨18,[],⟨[(0, .px 2000000 0)],[(2000000,1000002,[.v 139])],[]⟩,⟨[(2, .sl 9),(3, .sl 9)],[],[]⟩,[2000000],[(2,none),(3,none)],true,fun _ _ _=>True⟩
def yaB:Sl KK:=⟨18,[],⟨[(0, .px 2000000 0)],[(2000000,1000002,[.v 139])],[]⟩,⟨[(2, .sl 9),(3, .sl 9)],[],[]⟩,[2000000],[(2,none),(3,none)],true,apFs (K:=KK) (ctT ycH.ti) (ctT ycH.te) [] ybj⟩
theorem yeO:SlOk Try.prog CC yaB:=by
 intro fs env out hl hF hW
 obtain ⟨rfl,h0⟩:=ydt hW
 obtain ⟨a0,ea0,rfl,h1⟩:=ybv h0
 obtain ⟨rfl,h2⟩:=ydE h1
 obtain ⟨r0,er0,rfl,h3⟩:=ybb h2
 obtain ⟨r1,er1,rfl,h4⟩:=ybb h3
 obtain ⟨rfl,hf⟩:=ycd h4
 obtain ⟨T,W,rfl,rfl,rfl⟩:=hf
 exact yg4 (C:=CC) (sp:=yaB) (env:= [.v 139 (mkS T W)]) (out:= [.l 9 (T.map (·.1)), .l 9 (W.map (·.1))]) (env':= [.l 9 (T.map (·.1)), .l 9 (W.map (·.1)), .v 139 (mkS T W)]) (e:=1000002) (t:=139) (x:=(mkS T W)) (x':=(mkS T W)) (rest:= []) (us:= [.sl 9 (T.map (·.1)), .sl 9 (W.map (·.1))]) (fun H n=>by simp only[encS];exact yvv T W H n) (by kernel_rfl) (by kernel_rfl) (fun χ=>by kernel_rfl) (by kernel_rfl) (Eq.mpr (show kpt (entL CC yaB [] [.v 139 (mkS T W)]) (bdT CC yaB.to [] [] [.l 9 (T.map (·.1)), .l 9 (W.map (·.1)), .v 139 (mkS T W)]) yaB.kp (eqDV (selL yaB [.l 9 (T.map (·.1)), .l 9 (W.map (·.1)), .v 139 (mkS T W)]) [.l 9 (T.map (·.1)), .l 9 (W.map (·.1))])=((mkS T W)=(mkS T W)/\(T.map (·.1):(List Str))=T.map (·.1)/\(W.map (·.1):(List Str))=W.map (·.1)) by kernel_rfl) ⟨rfl,rfl,rfl⟩) (by kernel_rfl) (by kernel_rfl) (by kernel_rfl)
def ybi (a0:Str) (a1:yaa) (r0:List Str):Prop:=
 ∃T W,a1=mkS T W/\a0.length<=9223372036854775807/\r0=usr W a0
def ycN:Sl KK:=⟨19,[],⟨[(0, .px 2000000 0),(1, .st)],[(2000000,1000002,[.v 139])],[]⟩,⟨[(4, .sl 9)],[],[]⟩,[2000000],[(4,none)],true,fun _ _ _=>True⟩
def yaA:Sl KK:=⟨19,[],⟨[(0, .px 2000000 0),(1, .st)],[(2000000,1000002,[.v 139])],[]⟩,⟨[(4, .sl 9)],[],[]⟩,[2000000],[(4,none)],true,apFs (K:=KK) (ctT ycN.ti) (ctT ycN.te) [] ybi⟩
theorem yeK:SlOk Try.prog CC yaA:=by
 intro fs env out hl hF hW
 obtain ⟨rfl,h0⟩:=ydt hW
 obtain ⟨a0,ea0,rfl,h1⟩:=ybv h0
 obtain ⟨a1,ea1,rfl,h2⟩:=ybv h1
 obtain ⟨rfl,h3⟩:=ydE h2
 obtain ⟨r0,er0,rfl,h4⟩:=ybb h3
 obtain ⟨rfl,hf⟩:=ycd h4
 obtain ⟨T,W,rfl,c0,rfl⟩:=hf
 exact yg4 (C:=CC) (sp:=yaA) (env:= [.s a0, .v 139 (mkS T W)]) (out:= [.l 9 (usr W a0)]) (env':= [.l 9 (usr W a0), .v 139 (mkS T W)]) (e:=1000002) (t:=139) (x:=(mkS T W)) (x':=(mkS T W)) (rest:= [.st a0]) (us:= [.sl 9 (usr W a0)]) (fun H n=>by simp only[encS];exact yvD T W a0 c0 H n) (by kernel_rfl) (by kernel_rfl) (fun χ=>by kernel_rfl) (by kernel_rfl) (Eq.mpr (show kpt (entL CC yaA [] [.s a0, .v 139 (mkS T W)]) (bdT CC yaA.to [] [] [.l 9 (usr W a0), .v 139 (mkS T W)]) yaA.kp (eqDV (selL yaA [.l 9 (usr W a0), .v 139 (mkS T W)]) [.l 9 (usr W a0)])=((mkS T W)=(mkS T W)/\(usr W a0:(List Str))=usr W a0) by kernel_rfl) ⟨rfl,rfl⟩) (by kernel_rfl) (by kernel_rfl) (by kernel_rfl)
def ye6 (z13:yan) (x10:Int) (a0:yab) (r0:Bool) (r1:yaa) (X2 X4:Int→yaa→Prop) (x17:Int) (x18:yaa):Prop:=
 (z13.Columns.length<=maxLen->cnd (decide (x17<(z13.Columns.length:Int))) ((0<=x17)/\(x17<(z13.Columns.length:Int))/\∃y19:yaf,(z13.Columns[x17.toNat]? =some y19)/\(0<=x10)/\(x10<(a0.Tables.length:Int))/\∃y20:yac,(a0.Tables[x10.toNat]? =some y20)/\(0<=x17)/\(x17<(y20.Columns.length:Int))/\∃y21:yae,(y20.Columns[x17.toNat]? =some y21)/\cnd (!((y19.Name==y21.Name)&&((y19.Kind==y21.Kind)&&((y19.Key==y21.Key)&&true)))) (false=r0/\x18=r1) (X4 (IntKind.i64.wrap (x17+(1:Int))) x18)) (X2 (IntKind.i64.wrap (x10+(1:Int))) x18))
def yfc (r0:Bool) (r1:yaa) (z13:yan) (x10:Int) (a0:yab) (X2:Int→yaa→Prop) (x15:Bool) (x16:yaa):Prop:=
 cnd x15 (false=r0/\x16=r1) (∀X4:Int->yaa->Prop,(∀x17 x18,ye6 z13 x10 a0 r0 r1 X2 X4 x17 x18->X4 x17 x18)->X4 (0:Int) x16)
def ye7 (a0:yab) (r0:Bool) (r1:yaa) (X2:Int→yaa→Prop) (x10:Int) (x11:yaa):Prop:=
 (a0.Tables.length<=maxLen->cnd (decide (x10<(a0.Tables.length:Int))) ((0<=x10)/\(x10<(a0.Tables.length:Int))/\∃y12:yac,(a0.Tables[x10.toNat]? =some y12)/\∃z13 z14,(yap y12.Name x11 z13 z14)/\∀J3:Bool->yaa->Prop,(∀x15 x16,yfc r0 r1 z13 x10 a0 X2 x15 x16->J3 x15 x16)->cnd (!z14) (J3 true x11) ((0<=x10)/\(x10<(a0.Tables.length:Int))/\∃y22:yac,(a0.Tables[x10.toNat]? =some y22)/\cnd (!(z13.Name==y22.Name)) (J3 true x11) ((0<=x10)/\(x10<(a0.Tables.length:Int))/\∃y23:yac,(a0.Tables[x10.toNat]? =some y23)/\cnd (!(z13.Key==y23.Key)) (J3 true x11) ((0<=x10)/\(x10<(a0.Tables.length:Int))/\∃y24:yac,(a0.Tables[x10.toNat]? =some y24)/\J3 (!((z13.Columns.length:Int)==(y24.Columns.length:Int))) x11)))) (true=r0/\x11=r1))
def ye3 (r0:Bool) (r1:yaa) (a1:Str) (a0:yab) (x5:Bool) (x6:yaa):Prop:=
 cnd x5 (false=r0/\x6=r1) (∃z7 z8,(yap a1 x6 z7 z8)/\∃z9,(yaR a0 a1 z9)/\cnd (!(z8==(decide ((0:Int)<=z9)))) (false=r0/\x6=r1) (∀X2:Int->yaa->Prop,(∀x10 x11,ye7 a0 r0 r1 X2 x10 x11->X2 x10 x11)->X2 (0:Int) x6))
def ycc (a0:yab) (a1:Str) (a2:yaa) (r0:Bool) (r1:yaa):Prop:=
 ∃z1 z2,(ybj a2 z1 z2)/\∃z3 z4,(ycg a0 z3 z4)/\∀J1:Bool->yaa->Prop,(∀x5 x6,ye3 r0 r1 a1 a0 x5 x6->J1 x5 x6)->∃z25,(ybr z1 z3 z25)/\cnd (!z25) (J1 true a2) (∃z26,(ybr z2 z4 z26)/\cnd (!z26) (J1 true a2) (∃z27,(ybi a1 a2 z27)/\∃z28,(ybP a0 a1 z28)/\∃z29,(ybr z27 z28 z29)/\J1 (!z29) a2))
def ydn (X2:Int→yaa→Prop) (a0:yab) (r0:Bool) (r1:yaa) (x10:Int) (z13:yan) (X4:Int→yaa→Prop) (x17:Int) (x18:yaa):Prop:=
 (z13.Columns.length<=maxLen->cnd (decide (x17<(z13.Columns.length:Int))) ((0<=x17)/\(x17<(z13.Columns.length:Int))/\∃y19:yaf,(z13.Columns[x17.toNat]? =some y19)/\(0<=x10)/\(x10<(a0.Tables.length:Int))/\∃y20:yac,(a0.Tables[x10.toNat]? =some y20)/\(0<=x17)/\(x17<(y20.Columns.length:Int))/\∃y21:yae,(y20.Columns[x17.toNat]? =some y21)/\cnd (!((y19.Name==y21.Name)&&((y19.Kind==y21.Kind)&&((y19.Key==y21.Key)&&true)))) (false=r0/\x18=r1) (X4 (IntKind.i64.wrap (x17+(1:Int))) x18)) (X2 (IntKind.i64.wrap (x10+(1:Int))) x18))
def ybq (X2:Int→yaa→Prop) (a0:yab) (r0:Bool) (r1:yaa) (x10:Int) (z13:yan) (x15:Bool) (x16:yaa):Prop:=
 cnd x15 (false=r0/\x16=r1) (∀X4:Int->yaa->Prop,(∀x17 x18,ydn X2 a0 r0 r1 x10 z13 X4 x17 x18->X4 x17 x18)->X4 (0:Int) x16)
def ydD (a0:yab) (r0:Bool) (r1:yaa) (X2:Int→yaa→Prop) (x10:Int) (x11:yaa):Prop:=
 (a0.Tables.length<=maxLen->cnd (decide (x10<(a0.Tables.length:Int))) ((0<=x10)/\(x10<(a0.Tables.length:Int))/\∃y12:yac,(a0.Tables[x10.toNat]? =some y12)/\∃z13 z14,(yap y12.Name x11 z13 z14)/\cnd (!z14) (ybq X2 a0 r0 r1 x10 z13 true x11) ((0<=x10)/\(x10<(a0.Tables.length:Int))/\∃y22:yac,(a0.Tables[x10.toNat]? =some y22)/\cnd (!(z13.Name==y22.Name)) (ybq X2 a0 r0 r1 x10 z13 true x11) ((0<=x10)/\(x10<(a0.Tables.length:Int))/\∃y23:yac,(a0.Tables[x10.toNat]? =some y23)/\cnd (!(z13.Key==y23.Key)) (ybq X2 a0 r0 r1 x10 z13 true x11) ((0<=x10)/\(x10<(a0.Tables.length:Int))/\∃y24:yac,(a0.Tables[x10.toNat]? =some y24)/\ybq X2 a0 r0 r1 x10 z13 (!((z13.Columns.length:Int)==(y24.Columns.length:Int))) x11)))) (true=r0/\x11=r1))
def ybG (a0:yab) (a1:Str) (r0:Bool) (r1:yaa) (x5:Bool) (x6:yaa):Prop:=
 cnd x5 (false=r0/\x6=r1) (∃z7 z8,(yap a1 x6 z7 z8)/\∃z9,(yaR a0 a1 z9)/\cnd (!(z8==(decide ((0:Int)<=z9)))) (false=r0/\x6=r1) (∀X2:Int->yaa->Prop,(∀x10 x11,ydD a0 r0 r1 X2 x10 x11->X2 x10 x11)->X2 (0:Int) x6))
def ye5 (a0:yab) (a1:Str) (a2:yaa) (r0:Bool) (r1:yaa):Prop:=
 ∃z1 z2,(ybj a2 z1 z2)/\∃z3 z4,(ycg a0 z3 z4)/\∃z25,(ybr z1 z3 z25)/\cnd (!z25) (ybG a0 a1 r0 r1 true a2) (∃z26,(ybr z2 z4 z26)/\cnd (!z26) (ybG a0 a1 r0 r1 true a2) (∃z27,(ybi a1 a2 z27)/\∃z28,(ybP a0 a1 z28)/\∃z29,(ybr z27 z28 z29)/\ybG a0 a1 r0 r1 (!z29) a2))
theorem yiM (X2:Int→yaa→Prop) (a0:yab) (r0:Bool) (r1:yaa) (x10:Int) (z13:yan) {X4:Int→yaa→Prop} {x17:Int} {x18:yaa} (h:ydn X2 a0 r0 r1 x10 z13 X4 x17 x18):ye6 z13 x10 a0 r0 r1 X2 X4 x17 x18:=by
 unfold ye6
 unfold ydn at h
 exact h
theorem yiP (X2:Int→yaa→Prop) (a0:yab) (r0:Bool) (r1:yaa) (x10:Int) (z13:yan) {x15:Bool} {x16:yaa} (h:ybq X2 a0 r0 r1 x10 z13 x15 x16):yfc r0 r1 z13 x10 a0 X2 x15 x16:=by
 unfold yfc
 unfold ybq at h
 refine yao h (fun h=> ?_) (fun h=> ?_)
 ·exact h
 ·intro X4 k
  exact h X4 (fun x17 x18 q=>k x17 x18 (yiM X2 a0 r0 r1 x10 z13 q))
theorem yiS (a0:yab) (r0:Bool) (r1:yaa) {X2:Int→yaa→Prop} {x10:Int} {x11:yaa} (h:ydD a0 r0 r1 X2 x10 x11):ye7 a0 r0 r1 X2 x10 x11:=by
 unfold ye7
 unfold ydD at h
 intro c
 replace h:=h c
 refine yao h (fun h=> ?_) (fun h=> ?_)
 ·obtain ⟨h0,h⟩:=h
  refine ⟨h0,?_⟩
  obtain ⟨h0,h⟩:=h
  refine ⟨h0,?_⟩
  obtain ⟨y12,h⟩:=h
  refine ⟨y12,?_⟩
  obtain ⟨h0,h⟩:=h
  refine ⟨h0,?_⟩
  obtain ⟨z13,h⟩:=h
  refine ⟨z13,?_⟩
  obtain ⟨z14,h⟩:=h
  refine ⟨z14,?_⟩
  obtain ⟨h0,h⟩:=h
  refine ⟨h0,?_⟩
  intro J3 kJ3
  have hJ3:∀x15 x16,ybq X2 a0 r0 r1 x10 z13 x15 x16->J3 x15 x16:=fun x15 x16 q=>kJ3 x15 x16 (yiP X2 a0 r0 r1 x10 z13 q)
  refine yao h (fun h=> ?_) (fun h=> ?_)
  ·exact hJ3 _ _ h
  ·obtain ⟨h0,h⟩:=h
   refine ⟨h0,?_⟩
   obtain ⟨h0,h⟩:=h
   refine ⟨h0,?_⟩
   obtain ⟨y22,h⟩:=h
   refine ⟨y22,?_⟩
   obtain ⟨h0,h⟩:=h
   refine ⟨h0,?_⟩
   refine yao h (fun h=> ?_) (fun h=> ?_)
   ·exact hJ3 _ _ h
   ·obtain ⟨h0,h⟩:=h
    refine ⟨h0,?_⟩
    obtain ⟨h0,h⟩:=h
    refine ⟨h0,?_⟩
    obtain ⟨y23,h⟩:=h
    refine ⟨y23,?_⟩
    obtain ⟨h0,h⟩:=h
    refine ⟨h0,?_⟩
    refine yao h (fun h=> ?_) (fun h=> ?_)
    ·exact hJ3 _ _ h
    ·obtain ⟨h0,h⟩:=h
     refine ⟨h0,?_⟩
     obtain ⟨h0,h⟩:=h
     refine ⟨h0,?_⟩
     obtain ⟨y24,h⟩:=h
     refine ⟨y24,?_⟩
     obtain ⟨h0,h⟩:=h
     refine ⟨h0,?_⟩
     exact hJ3 _ _ h
 ·exact h
theorem yiO (a0:yab) (a1:Str) (r0:Bool) (r1:yaa) {x5:Bool} {x6:yaa} (h:ybG a0 a1 r0 r1 x5 x6):ye3 r0 r1 a1 a0 x5 x6:=by
 unfold ye3
 unfold ybG at h
 refine yao h (fun h=> ?_) (fun h=> ?_)
 ·exact h
 ·obtain ⟨z7,h⟩:=h
  refine ⟨z7,?_⟩
  obtain ⟨z8,h⟩:=h
  refine ⟨z8,?_⟩
  obtain ⟨h0,h⟩:=h
  refine ⟨h0,?_⟩
  obtain ⟨z9,h⟩:=h
  refine ⟨z9,?_⟩
  obtain ⟨h0,h⟩:=h
  refine ⟨h0,?_⟩
  refine yao h (fun h=> ?_) (fun h=> ?_)
  ·exact h
  ·intro X2 k
   exact h X2 (fun x10 x11 q=>k x10 x11 (yiS a0 r0 r1 q))
theorem ylr (a0:yab) (a1:Str) (a2:yaa) (r0:Bool) (r1:yaa) (h:ye5 a0 a1 a2 r0 r1):ycc a0 a1 a2 r0 r1:=by
 unfold ycc
 unfold ye5 at h
 obtain ⟨z1,h⟩:=h
 refine ⟨z1,?_⟩
 obtain ⟨z2,h⟩:=h
 refine ⟨z2,?_⟩
 obtain ⟨h0,h⟩:=h
 refine ⟨h0,?_⟩
 obtain ⟨z3,h⟩:=h
 refine ⟨z3,?_⟩
 obtain ⟨z4,h⟩:=h
 refine ⟨z4,?_⟩
 obtain ⟨h0,h⟩:=h
 refine ⟨h0,?_⟩
 intro J1 kJ1
 have hJ1:∀x5 x6,ybG a0 a1 r0 r1 x5 x6->J1 x5 x6:=fun x5 x6 q=>kJ1 x5 x6 (yiO a0 a1 r0 r1 q)
 obtain ⟨z25,h⟩:=h
 refine ⟨z25,?_⟩
 obtain ⟨h0,h⟩:=h
 refine ⟨h0,?_⟩
 refine yao h (fun h=> ?_) (fun h=> ?_)
 ·exact hJ1 _ _ h
 ·obtain ⟨z26,h⟩:=h
  refine ⟨z26,?_⟩
  obtain ⟨h0,h⟩:=h
  refine ⟨h0,?_⟩
  refine yao h (fun h=> ?_) (fun h=> ?_)
  ·exact hJ1 _ _ h
  ·obtain ⟨z27,h⟩:=h
   refine ⟨z27,?_⟩
   obtain ⟨h0,h⟩:=h
   refine ⟨h0,?_⟩
   obtain ⟨z28,h⟩:=h
   refine ⟨z28,?_⟩
   obtain ⟨h0,h⟩:=h
   refine ⟨h0,?_⟩
   obtain ⟨z29,h⟩:=h
   refine ⟨z29,?_⟩
   obtain ⟨h0,h⟩:=h
   refine ⟨h0,?_⟩
   exact hJ1 _ _ h
def ydT:Sl KK:=⟨17,[],⟨[(0, .px 2000000 0),(1, .v 29),(2, .st)],[(2000000,1000002,[.v 139])],[]⟩,⟨[(6, .bl)],[(2000000,1000002,[.v 139])],[]⟩,[],[(6,none)],true,fun _ _ _=>True⟩
def ydX:Sl KK:=⟨17,[],⟨[(0, .px 2000000 0),(1, .v 29),(2, .st)],[(2000000,1000002,[.v 139])],[]⟩,⟨[(6, .bl)],[(2000000,1000002,[.v 139])],[]⟩,[],[(6,none)],true,apFs (K:=KK) (ctT ydT.ti) (ctT ydT.te) [] ycc⟩
def ykl:An KK:=(.s .o (.s .o (.s .o (.s (.j ⟨[(0, .px 2000000 0),(2, .kp 4),(4, .px 4 0),(46, .bl)],[(2000000,1000002,[.v 139]),(4,29,[.kp 5, .kp 6])],[]⟩ .o (fun _=>(.c (.s .o .o) .o))) (.s .o (.s (.s .o (.c (.s .o .o) .o)) (.s (.s .o (.b (.l ⟨[(0, .px 2000000 0),(4, .px 4 0),(13, .it .i64)],[(2000000,1000002,[.v 139]),(4,29,[.kp 5, .kp 6])],[]⟩ (fun _=>(.s (.s .o (.c .o .o)) (.s (.b (.s .o (.s (.j ⟨[(0, .px 2000000 0),(4, .px 4 0),(13, .kp 104),(14, .px 14 0),(113, .bl)],[(2000000,1000002,[.v 139]),(4,29,[.kp 5, .kp 6]),(14,47,[.kp 105, .kp 106, .kp 107])],[]⟩ .o (fun _=>(.c (.s .o .o) .o))) (.s .o (.b (.l ⟨[(0, .px 2000000 0),(4, .px 4 0),(13, .kp 104),(14, .px 14 0),(16, .it .i64)],[(2000000,1000002,[.v 139]),(4,29,[.kp 5, .kp 6]),(14,47,[.kp 105, .kp 106, .kp 107])],[]⟩ (fun _=>(.s (.s .o (.c .o .o)) (.s (.b (.s .o (.c (.s .o .o) .o))) .o))))))))) .o)))))) (.s .o .o))))))))
def ykm:Cf KK:=⟨CC,[yhn,yhT,ye9,ydr],[yaB,yaA,yar],136,[],none,false⟩
theorem yko:SlOk Try.prog CC ydX:=by
 intro fs env out hl hF hW
 obtain ⟨rfl,h0⟩:=ydt hW
 obtain ⟨a0,ea0,rfl,h1⟩:=ybv h0
 obtain ⟨a1,ea1,rfl,h2⟩:=ybv h1
 obtain ⟨a2,ea2,rfl,h3⟩:=ybv h2
 obtain ⟨rfl,h4⟩:=ydE h3
 obtain ⟨r0,er0,rfl,h5⟩:=ybb h4
 obtain ⟨r1,er1,rfl,h6⟩:=ybb h5
 obtain ⟨rfl,h7⟩:=ycd h6
 show SlC Try.prog CC ydX [] [.v 29 a0, .s a1, .v 139 a2] [.b r0, .v 139 r1]
 rw[show SlC Try.prog CC ydX [] [.v 29 a0, .s a1, .v 139 a2] [.b r0, .v 139 r1]=SlC Try.prog CC ydT [] [.v 29 a0, .s a1, .v 139 a2] [.b r0, .v 139 r1] by kernel_rfl]
 exact yr1 (F:=ykm) ygv (ydl yku (ydl ykV (ydl yho (ydl yew yd5)))) (yco yeO (yco yeK (yco ybC yd6))) t17 (A:=ykl) (sp:=ydT) rfl (by kernel_rfl) (by kernel_rfl) (Nat.le_of_ble_eq_true (by kernel_rfl)) (fs:= []) (env:= [.v 29 a0, .s a1, .v 139 a2]) (out:= [.b r0, .v 139 r1]) (by kernel_rfl) hF (X:=ycc a0 a1 a2 r0 r1) h7 (by kernel_rfl)
def ybM (a0:Str) (r0:yan) (r1:Bool):Prop:=
 r0=mkTb ([],[],0)/\r1=false
def ycS:Sl KK:=⟨13,[],⟨[(0, .np),(1, .st)],[],[]⟩,⟨[(4, .v 47),(5, .bl)],[],[]⟩,[],[(4,none),(5,none)],true,fun _ _ _=>True⟩
def yaD:Sl KK:=⟨13,[],⟨[(0, .np),(1, .st)],[],[]⟩,⟨[(4, .v 47),(5, .bl)],[],[]⟩,[],[(4,none),(5,none)],true,apFs (K:=KK) (ctT ycS.ti) (ctT ycS.te) [] ybM⟩
theorem yeM:SlOk Try.prog CC yaD:=by
 intro fs env out hl hF hW
 obtain ⟨rfl,h0⟩:=ydt hW
 obtain ⟨a0,ea0,rfl,h1⟩:=ybv h0
 obtain ⟨rfl,h2⟩:=ydE h1
 obtain ⟨r0,er0,rfl,h3⟩:=ybb h2
 obtain ⟨r1,er1,rfl,h4⟩:=ybb h3
 obtain ⟨rfl,hf⟩:=ycd h4
 obtain ⟨rfl,rfl⟩:=hf
 exact yfV (C:=CC) (sp:=yaD) (env:= [.s a0]) (out:= [.v 47 (mkTb ([],[],0)), .b false]) (args:= [.nptr, .st a0]) (us:= [inV CC 47 (mkTb ([],[],0)), .bl false]) (yvp a0) (fun χ=>by kernel_rfl) (by kernel_rfl) (Eq.mpr (show kpt (entL CC yaD [] [.s a0]) (bdT CC yaD.to [] [] [.v 47 (mkTb ([],[],0)), .b false]) yaD.kp (eqDV (selL yaD [.v 47 (mkTb ([],[],0)), .b false]) [.v 47 (mkTb ([],[],0)), .b false])=((mkTb ([],[],0):yan)=mkTb ([],[],0)/\(false:Bool)=false) by kernel_rfl) ⟨rfl,rfl⟩) (by kernel_rfl) (by kernel_rfl) (by kernel_rfl)
def ybL (r0 r1:List Str):Prop:=
 r0= []/\r1= []
def ycx:Sl KK:=⟨18,[],⟨[(0, .np)],[],[]⟩,⟨[(2, .sl 9),(3, .sl 9)],[],[]⟩,[],[(2,none),(3,none)],true,fun _ _ _=>True⟩
def yaz:Sl KK:=⟨18,[],⟨[(0, .np)],[],[]⟩,⟨[(2, .sl 9),(3, .sl 9)],[],[]⟩,[],[(2,none),(3,none)],true,apFs (K:=KK) (ctT ycx.ti) (ctT ycx.te) [] ybL⟩
theorem yeC:SlOk Try.prog CC yaz:=by
 intro fs env out hl hF hW
 obtain ⟨rfl,h0⟩:=ydt hW
 obtain ⟨rfl,h1⟩:=ydE h0
 obtain ⟨r0,er0,rfl,h2⟩:=ybb h1
 obtain ⟨r1,er1,rfl,h3⟩:=ybb h2
 obtain ⟨rfl,hf⟩:=ycd h3
 obtain ⟨rfl,rfl⟩:=hf
 exact yfV (C:=CC) (sp:=yaz) (env:= []) (out:= [.l 9 [], .l 9 []]) (args:= [.nptr]) (us:= [.sl 9 [], .sl 9 []]) (ywb) (fun χ=>by kernel_rfl) (by kernel_rfl) (Eq.mpr (show kpt (entL CC yaz [] []) (bdT CC yaz.to [] [] [.l 9 [], .l 9 []]) yaz.kp (eqDV (selL yaz [.l 9 [], .l 9 []]) [.l 9 [], .l 9 []])=(([]:(List Str))= []/\([]:(List Str))= []) by kernel_rfl) ⟨rfl,rfl⟩) (by kernel_rfl) (by kernel_rfl) (by kernel_rfl)
def yb2 (a0:Str) (a1:List yaf) (r0:Int):Prop:=
 r0=1
def yc7:Sl KK:=⟨15,[],⟨[(0, .np),(1, .st),(2, .sl 54)],[],[]⟩,⟨[(6, .it .i64)],[],[]⟩,[],[(6,none)],true,fun _ _ _=>True⟩
def yaE:Sl KK:=⟨15,[],⟨[(0, .np),(1, .st),(2, .sl 54)],[],[]⟩,⟨[(6, .it .i64)],[],[]⟩,[],[(6,none)],true,apFs (K:=KK) (ctT yc7.ti) (ctT yc7.te) [] yb2⟩
theorem yeR:SlOk Try.prog CC yaE:=by
 intro fs env out hl hF hW
 obtain ⟨rfl,h0⟩:=ydt hW
 obtain ⟨a0,ea0,rfl,h1⟩:=ybv h0
 obtain ⟨a1,ea1,rfl,h2⟩:=ybv h1
 obtain ⟨rfl,h3⟩:=ydE h2
 obtain ⟨r0,er0,rfl,h4⟩:=ybb h3
 obtain ⟨rfl,hf⟩:=ycd h4
 obtain rfl:=hf
 exact yfV (C:=CC) (sp:=yaE) (env:= [.s a0, .l 54 a1]) (out:= [.i 1]) (args:= [.nptr, .st a0, .sl false a1.length (a1.flatMap fun z=> [.st z.Name, .it .i64 z.Kind, .bl z.Key])]) (us:= [.it .i64 1]) (yw8 a0 _) (fun χ=>by kernel_rfl) (by kernel_rfl) (Eq.mpr (show kpt (entL CC yaE [] [.s a0, .l 54 a1]) (bdT CC yaE.to [] [] [.i 1]) yaE.kp (eqDV (selL yaE [.i 1]) [.i 1])=((1:Int)=1) by kernel_rfl) rfl) (by kernel_rfl) (by kernel_rfl) (by kernel_rfl)
def ybZ (a0:Str) (r0:Int):Prop:=
 r0=1
def yc3:Sl KK:=⟨7,[],⟨[(0, .np),(1, .st)],[],[]⟩,⟨[(4, .it .i64)],[],[]⟩,[],[(4,none)],true,fun _ _ _=>True⟩
def yaI:Sl KK:=⟨7,[],⟨[(0, .np),(1, .st)],[],[]⟩,⟨[(4, .it .i64)],[],[]⟩,[],[(4,none)],true,apFs (K:=KK) (ctT yc3.ti) (ctT yc3.te) [] ybZ⟩
theorem yeQ:SlOk Try.prog CC yaI:=by
 intro fs env out hl hF hW
 obtain ⟨rfl,h0⟩:=ydt hW
 obtain ⟨a0,ea0,rfl,h1⟩:=ybv h0
 obtain ⟨rfl,h2⟩:=ydE h1
 obtain ⟨r0,er0,rfl,h3⟩:=ybb h2
 obtain ⟨rfl,hf⟩:=ycd h3
 obtain rfl:=hf
 exact yfV (C:=CC) (sp:=yaI) (env:= [.s a0]) (out:= [.i 1]) (args:= [.nptr, .st a0]) (us:= [.it .i64 1]) (yxs a0) (fun χ=>by kernel_rfl) (by kernel_rfl) (Eq.mpr (show kpt (entL CC yaI [] [.s a0]) (bdT CC yaI.to [] [] [.i 1]) yaI.kp (eqDV (selL yaI [.i 1]) [.i 1])=((1:Int)=1) by kernel_rfl) rfl) (by kernel_rfl) (by kernel_rfl) (by kernel_rfl)
def ybY (a0:Str) (a1:List Str) (r0:Int):Prop:=
 r0=1
def yc8:Sl KK:=⟨9,[],⟨[(0, .np),(1, .st),(2, .sl 9)],[],[]⟩,⟨[(6, .it .i64)],[],[]⟩,[],[(6,none)],true,fun _ _ _=>True⟩
def yaF:Sl KK:=⟨9,[],⟨[(0, .np),(1, .st),(2, .sl 9)],[],[]⟩,⟨[(6, .it .i64)],[],[]⟩,[],[(6,none)],true,apFs (K:=KK) (ctT yc8.ti) (ctT yc8.te) [] ybY⟩
theorem yeU:SlOk Try.prog CC yaF:=by
 intro fs env out hl hF hW
 obtain ⟨rfl,h0⟩:=ydt hW
 obtain ⟨a0,ea0,rfl,h1⟩:=ybv h0
 obtain ⟨a1,ea1,rfl,h2⟩:=ybv h1
 obtain ⟨rfl,h3⟩:=ydE h2
 obtain ⟨r0,er0,rfl,h4⟩:=ybb h3
 obtain ⟨rfl,hf⟩:=ycd h4
 obtain rfl:=hf
 exact yfV (C:=CC) (sp:=yaF) (env:= [.s a0, .l 9 a1]) (out:= [.i 1]) (args:= [.nptr, .st a0, .sl false a1.length (a1.flatMap fun z=> [.st z])]) (us:= [.it .i64 1]) (yye a0 _) (fun χ=>by kernel_rfl) (by kernel_rfl) (Eq.mpr (show kpt (entL CC yaF [] [.s a0, .l 9 a1]) (bdT CC yaF.to [] [] [.i 1]) yaF.kp (eqDV (selL yaF [.i 1]) [.i 1])=((1:Int)=1) by kernel_rfl) rfl) (by kernel_rfl) (by kernel_rfl) (by kernel_rfl)
def ybt (a0:Str) (r0:Int):Prop:=
 r0=1
def yca:Sl KK:=⟨11,[],⟨[(0, .np),(1, .st)],[],[]⟩,⟨[(4, .it .i64)],[],[]⟩,[],[(4,none)],true,fun _ _ _=>True⟩
def yau:Sl KK:=⟨11,[],⟨[(0, .np),(1, .st)],[],[]⟩,⟨[(4, .it .i64)],[],[]⟩,[],[(4,none)],true,apFs (K:=KK) (ctT yca.ti) (ctT yca.te) [] ybt⟩
theorem yd1:SlOk Try.prog CC yau:=by
 intro fs env out hl hF hW
 obtain ⟨rfl,h0⟩:=ydt hW
 obtain ⟨a0,ea0,rfl,h1⟩:=ybv h0
 obtain ⟨rfl,h2⟩:=ydE h1
 obtain ⟨r0,er0,rfl,h3⟩:=ybb h2
 obtain ⟨rfl,hf⟩:=ycd h3
 obtain rfl:=hf
 exact yfV (C:=CC) (sp:=yau) (env:= [.s a0]) (out:= [.i 1]) (args:= [.nptr, .st a0]) (us:= [.it .i64 1]) (yuJ a0) (fun χ=>by kernel_rfl) (by kernel_rfl) (Eq.mpr (show kpt (entL CC yau [] [.s a0]) (bdT CC yau.to [] [] [.i 1]) yau.kp (eqDV (selL yau [.i 1]) [.i 1])=((1:Int)=1) by kernel_rfl) rfl) (by kernel_rfl) (by kernel_rfl) (by kernel_rfl)
def ybN (a0:Str) (r0:List Str):Prop:=
 r0= []
def ycP:Sl KK:=⟨19,[],⟨[(0, .np),(1, .st)],[],[]⟩,⟨[(4, .sl 9)],[],[]⟩,[],[(4,none)],true,fun _ _ _=>True⟩
def yaC:Sl KK:=⟨19,[],⟨[(0, .np),(1, .st)],[],[]⟩,⟨[(4, .sl 9)],[],[]⟩,[],[(4,none)],true,apFs (K:=KK) (ctT ycP.ti) (ctT ycP.te) [] ybN⟩
theorem yey:SlOk Try.prog CC yaC:=by
 intro fs env out hl hF hW
 obtain ⟨rfl,h0⟩:=ydt hW
 obtain ⟨a0,ea0,rfl,h1⟩:=ybv h0
 obtain ⟨rfl,h2⟩:=ydE h1
 obtain ⟨r0,er0,rfl,h3⟩:=ybb h2
 obtain ⟨rfl,hf⟩:=ycd h3
 obtain rfl:=hf
 exact yfV (C:=CC) (sp:=yaC) (env:= [.s a0]) (out:= [.l 9 []]) (args:= [.nptr, .st a0]) (us:= [.sl 9 []]) (ywf a0) (fun χ=>by kernel_rfl) (by kernel_rfl) (Eq.mpr (show kpt (entL CC yaC [] [.s a0]) (bdT CC yaC.to [] [] [.l 9 []]) yaC.kp (eqDV (selL yaC [.l 9 []]) [.l 9 []])=(([]:(List Str))= []) by kernel_rfl) rfl) (by kernel_rfl) (by kernel_rfl) (by kernel_rfl)
def ycK (r0:Bool) (X1:Int→yaa→(List yac)→(List yad)→Prop) (x3:Int) (x13:List yac) (x14:List yad) (x19:Bool) (x20:yaa):Prop:=
 cnd x19 (false=r0) (X1 (IntKind.i64.wrap (x3+(1:Int))) x20 x13 x14)
def ycC (r0:Bool) (X1:Int→yaa→(List yac)→(List yad)→Prop) (x3 x10 x11:Int) (x12:yaa) (x13:List yac) (x14:List yad) (x15:Int) (x16:Str) (x17:List yag) (x18:List Str):Prop:=
 ∀J4:Bool->yaa->Prop,(∀x19 x20,ycK r0 X1 x3 x13 x14 x19 x20->J4 x19 x20)->cnd (!(x10==x11)) (J4 true x12) (∃z21 z22,(ycc (⟨x13,x14⟩:yab) x16 x12 z21 z22)/\J4 (!z21) z22)
def ycG (r0:Bool) (J3:Int→Int→yaa→(List yac)→(List yad)→Int→Str→(List yag)→(List Str)→Prop) (x5:List yac) (x6:List yad) (y9:yai) (x47:Bool) (x48:yaa):Prop:=
 cnd x47 (false=r0) (J3 (0:Int) (0:Int) x48 x5 x6 y9.What y9.Name y9.Columns y9.Uses)
def ycL (y37:yac) (y9:yai) (r0:Bool) (J3:Int→Int→yaa→(List yac)→(List yad)→Int→Str→(List yag)→(List Str)→Prop) (x5:List yac) (x6:List yad) (z40:Int) (z41:Bool) (X6:Int→Bool→Int→yaa→Prop) (x42:Int) (x43:Bool) (x44:Int) (x45:yaa):Prop:=
 cnd (decide ((0:Int)<=x44)) ((0<=x44)/\(x44<(y37.Columns.length:Int))/\∃y46:yae,(y37.Columns[x44.toNat]? =some y46)/\cnd (y46.Name==y9.Name) (X6 x44 true (IntKind.i64.wrap (x44-(1:Int))) x45) (X6 x42 x43 (IntKind.i64.wrap (x44-(1:Int))) x45)) (∀J7:Bool->yaa->Prop,(∀x47 x48,ycG r0 J3 x5 x6 y9 x47 x48->J7 x47 x48)->cnd (!(z40==x42)) (J7 true x45) (J7 (!(z41==x43)) x45))
def ycI (x49:Int) (y9:yai) (X8:Int→yaa→(List yaf)→(List yae)→Prop) (x5:List yac) (x6:List yad) (J3:Int→Int→yaa→(List yac)→(List yad)→Int→Str→(List yag)→(List Str)→Prop) (x53:Bool) (x54:yaa) (x55:List yaf) (x56:List yae):Prop:=
 cnd x53 ((0<=x49)/\(x49<(y9.Columns.length:Int))/\∃y57:yag,(y9.Columns[x49.toNat]? =some y57)/\(x55.length<=1000000000)/\(0<=x49)/\(x49<(y9.Columns.length:Int))/\∃y58:yag,(y9.Columns[x49.toNat]? =some y58)/\(x56.length<=1000000000)/\X8 (IntKind.i64.wrap (x49+(1:Int))) x54 (x55++([(⟨y57.Name,y57.Kind,y57.Key⟩:yaf)]:List yaf)) (x56++([(⟨y58.Name,y58.Kind,y58.Key⟩:yae)]:List yae))) (∃z59 z60,(ya0 y9.Name x54 x55 z59 z60)/\∃z61 z62,(ycR (⟨x5,x6⟩:yab) y9.Name x56 z61 z62)/\J3 z59 z62 z60 z61.Tables z61.Views y9.What y9.Name y9.Columns y9.Uses)
def ycQ (y9:yai) (x5:List yac) (x6:List yad) (J3:Int→Int→yaa→(List yac)→(List yad)→Int→Str→(List yag)→(List Str)→Prop) (X8:Int→yaa→(List yaf)→(List yae)→Prop) (x49:Int) (x50:yaa) (x51:List yaf) (x52:List yae):Prop:=
 ∀J9:Bool->yaa->(List yaf)->(List yae)->Prop,(∀x53 x54 x55 x56,ycI x49 y9 X8 x5 x6 J3 x53 x54 x55 x56->J9 x53 x54 x55 x56)->(y9.Columns.length<=maxLen->cnd (decide (x49<(y9.Columns.length:Int))) (J9 (decide (x49<(10:Int))) x50 x51 x52) (J9 false x50 x51 x52))
def ycJ (y9:yai) (x5:List yac) (x6:List yad) (J3:Int→Int→yaa→(List yac)→(List yad)→Int→Str→(List yag)→(List Str)→Prop) (r0 x27:Bool) (x28:yaa):Prop:=
 cnd x27 ((y9.Uses.length<=maxLen->(0<=(0:Int)/\(0:Int)<=(if (4:Int)<(y9.Uses.length:Int) then (4:Int) else (y9.Uses.length:Int))/\(if (4:Int)<(y9.Uses.length:Int) then (4:Int) else (y9.Uses.length:Int))<=(y9.Uses.length:Int))/\∃z29 z30,(yb0 y9.Name (ybw y9.Uses (0:Int) (if (4:Int)<(y9.Uses.length:Int) then (4:Int) else (y9.Uses.length:Int))) x28 z29 z30)/\∃z31 z32,(ybF (⟨x5,x6⟩:yab) (⟨y9.Name,ybw y9.Uses (0:Int) (if (4:Int)<(y9.Uses.length:Int) then (4:Int) else (y9.Uses.length:Int))⟩:yad) z31 z32)/\J3 z29 z32 z30 z31.Tables z31.Views y9.What y9.Name y9.Columns y9.Uses)) (cnd ((y9.What.tmod (7:Int))==(5:Int)) (∃z33 z34,(ybs y9.Name x28 z33 z34)/\∃z35 z36,(ybO (⟨x5,x6⟩:yab) y9.Name z35 z36)/\J3 z33 z36 z34 z35.Tables z35.Views y9.What y9.Name y9.Columns y9.Uses) (cnd ((y9.What.tmod (7:Int))==(6:Int)) ((x5.length<=maxLen->cnd (decide ((0:Int)<(x5.length:Int))) (((x5.length:Int)≠0)/\(0<=((y9.Name.length:Int).tmod (x5.length:Int)))/\(((y9.Name.length:Int).tmod (x5.length:Int))<(x5.length:Int))/\∃y37:yac,(x5[((y9.Name.length:Int).tmod (x5.length:Int)).toNat]? =some y37)/\∃z38 z39,(yap y37.Name x28 z38 z39)/\∃z40 z41,(ybI z38 y9.Name z40 z41)/\(y37.Columns.length<=maxLen->∀X6:Int->Bool->Int->yaa->Prop,(∀x42 x43 x44 x45,ycL y37 y9 r0 J3 x5 x6 z40 z41 X6 x42 x43 x44 x45->X6 x42 x43 x44 x45)->X6 (0:Int) false (IntKind.i64.wrap ((y37.Columns.length:Int)-(1:Int))) x28)) (J3 (0:Int) (0:Int) x28 x5 x6 y9.What y9.Name y9.Columns y9.Uses))) (∀X8:Int->yaa->(List yaf)->(List yae)->Prop,(∀x49 x50 x51 x52,ycQ y9 x5 x6 J3 X8 x49 x50 x51 x52->X8 x49 x50 x51 x52)->X8 (0:Int) x28 ([]:List yaf) ([]:List yae))))
def ycm (r0 x67:Bool):Prop:=
 x67=r0
def ycw (x3:Int) (a0:List yai) (r0:Bool) (X1:Int→yaa→(List yac)→(List yad)→Prop) (x5:List yac) (x6:List yad) (x7:Bool) (x8:yaa):Prop:=
 cnd x7 ((0<=x3)/\(x3<(a0.length:Int))/\∃y9:yai,(a0[x3.toNat]? =some y9)/\∀J3:Int->Int->yaa->(List yac)->(List yad)->Int->Str->(List yag)->(List Str)->Prop,(∀x10 x11 x12 x13 x14 x15 x16 x17 x18,ycC r0 X1 x3 x10 x11 x12 x13 x14 x15 x16 x17 x18->J3 x10 x11 x12 x13 x14 x15 x16 x17 x18)->cnd ((y9.What.tmod (7:Int))==(2:Int)) (∃z23 z24,(yaZ y9.Name x8 z23 z24)/\∃z25 z26,(ydm (⟨x5,x6⟩:yab) y9.Name z25 z26)/\J3 z23 z26 z24 z25.Tables z25.Views y9.What y9.Name y9.Columns y9.Uses) (∀J5:Bool->yaa->Prop,(∀x27 x28,ycJ y9 x5 x6 J3 r0 x27 x28->J5 x27 x28)->cnd ((y9.What.tmod (7:Int))==(3:Int)) (J5 ((y9.What.tmod (7:Int))==(3:Int)) x8) (J5 ((y9.What.tmod (7:Int))==(4:Int)) x8))) (∃z63 z64,(ybM ([116]:Str) z63 z64)/\∃z65 z66,(ybL z65 z66)/\∀J10:Bool->Prop,(∀x67,ycm r0 x67->J10 x67)->∃z68,(yb2 ([116]:Str) ([]:List yaf) z68)/\cnd (z68==(1:Int)) (∃z69,(ybZ ([116]:Str) z69)/\cnd (z69==(1:Int)) (∃z70,(ybY ([118]:Str) ([]:List Str) z70)/\cnd (z70==(1:Int)) (∃z71,(ybt ([118]:Str) z71)/\cnd (z71==(1:Int)) (cnd (!z64) ((z65.length<=maxLen->(z66.length<=maxLen->∃z72,(ybN ([116]:Str) z72)/\(z72.length<=maxLen->J10 ((IntKind.i64.wrap ((IntKind.i64.wrap ((z65.length:Int)+(z66.length:Int)))+(z72.length:Int)))==(0:Int)))))) (J10 false)) (J10 false)) (J10 false)) (J10 false)) (J10 false))
def ycB (a0:List yai) (r0:Bool) (X1:Int→yaa→(List yac)→(List yad)→Prop) (x3:Int) (x4:yaa) (x5:List yac) (x6:List yad):Prop:=
 ∀J2:Bool->yaa->Prop,(∀x7 x8,ycw x3 a0 r0 X1 x5 x6 x7 x8->J2 x7 x8)->(a0.length<=maxLen->cnd (decide (x3<(a0.length:Int))) (J2 (decide (x3<(60:Int))) x4) (J2 false x4))
def yaW (a0:List yai) (r0:Bool):Prop:=
 ∃z1,(ybW z1)/\cnd (!z1) (false=r0) (∃z2,(yck z2)/\∀X1:Int->yaa->(List yac)->(List yad)->Prop,(∀x3 x4 x5 x6,ycB a0 r0 X1 x3 x4 x5 x6->X1 x3 x4 x5 x6)->X1 (0:Int) z2 ([]:List yac) ([]:List yad))
def yaY (X1:Int→yaa→(List yac)→(List yad)→Prop) (r0:Bool) (x3:Int) (x13:List yac) (x14:List yad) (x19:Bool) (x20:yaa):Prop:=
 cnd x19 (false=r0) (X1 (IntKind.i64.wrap (x3+(1:Int))) x20 x13 x14)
def yak (X1:Int→yaa→(List yac)→(List yad)→Prop) (r0:Bool) (x3 x10 x11:Int) (x12:yaa) (x13:List yac) (x14:List yad) (x15:Int) (x16:Str) (x17:List yag) (x18:List Str):Prop:=
 cnd (!(x10==x11)) (yaY X1 r0 x3 x13 x14 true x12) (∃z21 z22,(ycc (⟨x13,x14⟩:yab) x16 x12 z21 z22)/\yaY X1 r0 x3 x13 x14 (!z21) z22)
def yaX (X1:Int→yaa→(List yac)→(List yad)→Prop) (r0:Bool) (x3:Int) (x5:List yac) (x6:List yad) (y9:yai) (x47:Bool) (x48:yaa):Prop:=
 cnd x47 (false=r0) (yak X1 r0 x3 (0:Int) (0:Int) x48 x5 x6 y9.What y9.Name y9.Columns y9.Uses)
def ybk (X1:Int→yaa→(List yac)→(List yad)→Prop) (r0:Bool) (x3:Int) (x5:List yac) (x6:List yad) (y9:yai) (y37:yac) (z40:Int) (z41:Bool) (X6:Int→Bool→Int→yaa→Prop) (x42:Int) (x43:Bool) (x44:Int) (x45:yaa):Prop:=
 cnd (decide ((0:Int)<=x44)) ((0<=x44)/\(x44<(y37.Columns.length:Int))/\∃y46:yae,(y37.Columns[x44.toNat]? =some y46)/\cnd (y46.Name==y9.Name) (X6 x44 true (IntKind.i64.wrap (x44-(1:Int))) x45) (X6 x42 x43 (IntKind.i64.wrap (x44-(1:Int))) x45)) (cnd (!(z40==x42)) (yaX X1 r0 x3 x5 x6 y9 true x45) (yaX X1 r0 x3 x5 x6 y9 (!(z41==x43)) x45))
def yaK (X1:Int→yaa→(List yac)→(List yad)→Prop) (X8:Int→yaa→(List yaf)→(List yae)→Prop) (r0:Bool) (x3:Int) (x5:List yac) (x6:List yad) (x49:Int) (y9:yai) (x53:Bool) (x54:yaa) (x55:List yaf) (x56:List yae):Prop:=
 cnd x53 ((0<=x49)/\(x49<(y9.Columns.length:Int))/\∃y57:yag,(y9.Columns[x49.toNat]? =some y57)/\(x55.length<=1000000000)/\(0<=x49)/\(x49<(y9.Columns.length:Int))/\∃y58:yag,(y9.Columns[x49.toNat]? =some y58)/\(x56.length<=1000000000)/\X8 (IntKind.i64.wrap (x49+(1:Int))) x54 (x55++([(⟨y57.Name,y57.Kind,y57.Key⟩:yaf)]:List yaf)) (x56++([(⟨y58.Name,y58.Kind,y58.Key⟩:yae)]:List yae))) (∃z59 z60,(ya0 y9.Name x54 x55 z59 z60)/\∃z61 z62,(ycR (⟨x5,x6⟩:yab) y9.Name x56 z61 z62)/\yak X1 r0 x3 z59 z62 z60 z61.Tables z61.Views y9.What y9.Name y9.Columns y9.Uses)
def ybJ (X1:Int→yaa→(List yac)→(List yad)→Prop) (r0:Bool) (x3:Int) (x5:List yac) (x6:List yad) (y9:yai) (X8:Int→yaa→(List yaf)→(List yae)→Prop) (x49:Int) (x50:yaa) (x51:List yaf) (x52:List yae):Prop:=
 (y9.Columns.length<=maxLen->cnd (decide (x49<(y9.Columns.length:Int))) (yaK X1 X8 r0 x3 x5 x6 x49 y9 (decide (x49<(10:Int))) x50 x51 x52) (yaK X1 X8 r0 x3 x5 x6 x49 y9 false x50 x51 x52))
def yaQ (X1:Int→yaa→(List yac)→(List yad)→Prop) (r0:Bool) (x3:Int) (x5:List yac) (x6:List yad) (y9:yai) (x27:Bool) (x28:yaa):Prop:=
 cnd x27 ((y9.Uses.length<=maxLen->(0<=(0:Int)/\(0:Int)<=(if (4:Int)<(y9.Uses.length:Int) then (4:Int) else (y9.Uses.length:Int))/\(if (4:Int)<(y9.Uses.length:Int) then (4:Int) else (y9.Uses.length:Int))<=(y9.Uses.length:Int))/\∃z29 z30,(yb0 y9.Name (ybw y9.Uses (0:Int) (if (4:Int)<(y9.Uses.length:Int) then (4:Int) else (y9.Uses.length:Int))) x28 z29 z30)/\∃z31 z32,(ybF (⟨x5,x6⟩:yab) (⟨y9.Name,ybw y9.Uses (0:Int) (if (4:Int)<(y9.Uses.length:Int) then (4:Int) else (y9.Uses.length:Int))⟩:yad) z31 z32)/\yak X1 r0 x3 z29 z32 z30 z31.Tables z31.Views y9.What y9.Name y9.Columns y9.Uses)) (cnd ((y9.What.tmod (7:Int))==(5:Int)) (∃z33 z34,(ybs y9.Name x28 z33 z34)/\∃z35 z36,(ybO (⟨x5,x6⟩:yab) y9.Name z35 z36)/\yak X1 r0 x3 z33 z36 z34 z35.Tables z35.Views y9.What y9.Name y9.Columns y9.Uses) (cnd ((y9.What.tmod (7:Int))==(6:Int)) ((x5.length<=maxLen->cnd (decide ((0:Int)<(x5.length:Int))) (((x5.length:Int)≠0)/\(0<=((y9.Name.length:Int).tmod (x5.length:Int)))/\(((y9.Name.length:Int).tmod (x5.length:Int))<(x5.length:Int))/\∃y37:yac,(x5[((y9.Name.length:Int).tmod (x5.length:Int)).toNat]? =some y37)/\∃z38 z39,(yap y37.Name x28 z38 z39)/\∃z40 z41,(ybI z38 y9.Name z40 z41)/\(y37.Columns.length<=maxLen->∀X6:Int->Bool->Int->yaa->Prop,(∀x42 x43 x44 x45,ybk X1 r0 x3 x5 x6 y9 y37 z40 z41 X6 x42 x43 x44 x45->X6 x42 x43 x44 x45)->X6 (0:Int) false (IntKind.i64.wrap ((y37.Columns.length:Int)-(1:Int))) x28)) (yak X1 r0 x3 (0:Int) (0:Int) x28 x5 x6 y9.What y9.Name y9.Columns y9.Uses))) (∀X8:Int->yaa->(List yaf)->(List yae)->Prop,(∀x49 x50 x51 x52,ybJ X1 r0 x3 x5 x6 y9 X8 x49 x50 x51 x52->X8 x49 x50 x51 x52)->X8 (0:Int) x28 ([]:List yaf) ([]:List yae))))
def yay (r0 x67:Bool):Prop:=
 x67=r0
def yaL (X1:Int→yaa→(List yac)→(List yad)→Prop) (a0:List yai) (r0:Bool) (x3:Int) (x5:List yac) (x6:List yad) (x7:Bool) (x8:yaa):Prop:=
 cnd x7 ((0<=x3)/\(x3<(a0.length:Int))/\∃y9:yai,(a0[x3.toNat]? =some y9)/\cnd ((y9.What.tmod (7:Int))==(2:Int)) (∃z23 z24,(yaZ y9.Name x8 z23 z24)/\∃z25 z26,(ydm (⟨x5,x6⟩:yab) y9.Name z25 z26)/\yak X1 r0 x3 z23 z26 z24 z25.Tables z25.Views y9.What y9.Name y9.Columns y9.Uses) (cnd ((y9.What.tmod (7:Int))==(3:Int)) (yaQ X1 r0 x3 x5 x6 y9 ((y9.What.tmod (7:Int))==(3:Int)) x8) (yaQ X1 r0 x3 x5 x6 y9 ((y9.What.tmod (7:Int))==(4:Int)) x8))) (∃z63 z64,(ybM ([116]:Str) z63 z64)/\∃z65 z66,(ybL z65 z66)/\∃z68,(yb2 ([116]:Str) ([]:List yaf) z68)/\cnd (z68==(1:Int)) (∃z69,(ybZ ([116]:Str) z69)/\cnd (z69==(1:Int)) (∃z70,(ybY ([118]:Str) ([]:List Str) z70)/\cnd (z70==(1:Int)) (∃z71,(ybt ([118]:Str) z71)/\cnd (z71==(1:Int)) (cnd (!z64) ((z65.length<=maxLen->(z66.length<=maxLen->∃z72,(ybN ([116]:Str) z72)/\(z72.length<=maxLen->yay r0 ((IntKind.i64.wrap ((IntKind.i64.wrap ((z65.length:Int)+(z66.length:Int)))+(z72.length:Int)))==(0:Int)))))) (yay r0 false)) (yay r0 false)) (yay r0 false)) (yay r0 false)) (yay r0 false))
def ybK (a0:List yai) (r0:Bool) (X1:Int→yaa→(List yac)→(List yad)→Prop) (x3:Int) (x4:yaa) (x5:List yac) (x6:List yad):Prop:=
 (a0.length<=maxLen->cnd (decide (x3<(a0.length:Int))) (yaL X1 a0 r0 x3 x5 x6 (decide (x3<(60:Int))) x4) (yaL X1 a0 r0 x3 x5 x6 false x4))
def ycA (a0:List yai) (r0:Bool):Prop:=
 ∃z1,(ybW z1)/\cnd (!z1) (false=r0) (∃z2,(yck z2)/\∀X1:Int->yaa->(List yac)->(List yad)->Prop,(∀x3 x4 x5 x6,ybK a0 r0 X1 x3 x4 x5 x6->X1 x3 x4 x5 x6)->X1 (0:Int) z2 ([]:List yac) ([]:List yad))
theorem yfx (X1:Int→yaa→(List yac)→(List yad)→Prop) (r0:Bool) (x3:Int) (x13:List yac) (x14:List yad) {x19:Bool} {x20:yaa} (h:yaY X1 r0 x3 x13 x14 x19 x20):ycK r0 X1 x3 x13 x14 x19 x20:=by
 unfold ycK
 unfold yaY at h
 exact h
theorem yfw (X1:Int→yaa→(List yac)→(List yad)→Prop) (r0:Bool) (x3:Int) {x10 x11:Int} {x12:yaa} {x13:List yac} {x14:List yad} {x15:Int} {x16:Str} {x17:List yag} {x18:List Str} (h:yak X1 r0 x3 x10 x11 x12 x13 x14 x15 x16 x17 x18):ycC r0 X1 x3 x10 x11 x12 x13 x14 x15 x16 x17 x18:=by
 unfold ycC
 unfold yak at h
 intro J4 kJ4
 have hJ4:∀x19 x20,yaY X1 r0 x3 x13 x14 x19 x20->J4 x19 x20:=fun x19 x20 q=>kJ4 x19 x20 (yfx X1 r0 x3 x13 x14 q)
 refine yao h (fun h=> ?_) (fun h=> ?_)
 ·exact hJ4 _ _ h
 ·obtain ⟨z21,h⟩:=h
  refine ⟨z21,?_⟩
  obtain ⟨z22,h⟩:=h
  refine ⟨z22,?_⟩
  obtain ⟨h0,h⟩:=h
  refine ⟨h0,?_⟩
  exact hJ4 _ _ h
theorem yf7 (J3:Int→Int→yaa→(List yac)→(List yad)→Int→Str→(List yag)→(List Str)→Prop) (X1:Int→yaa→(List yac)→(List yad)→Prop) (r0:Bool) (x3:Int) (x5:List yac) (x6:List yad) (y9:yai) (hJ3:∀(x10:Int) (x11:Int) (x12:yaa) (x13:(List yac)) (x14:(List yad)) (x15:Int) (x16:Str) (x17:(List yag)) (x18:(List Str)),yak X1 r0 x3 x10 x11 x12 x13 x14 x15 x16 x17 x18→J3 x10 x11 x12 x13 x14 x15 x16 x17 x18) {x47:Bool} {x48:yaa} (h:yaX X1 r0 x3 x5 x6 y9 x47 x48):ycG r0 J3 x5 x6 y9 x47 x48:=by
 unfold ycG
 unfold yaX at h
 refine yao h (fun h=> ?_) (fun h=> ?_)
 ·exact h
 ·exact hJ3 _ _ _ _ _ _ _ _ _ h
theorem yfT (J3:Int→Int→yaa→(List yac)→(List yad)→Int→Str→(List yag)→(List Str)→Prop) (X1:Int→yaa→(List yac)→(List yad)→Prop) (r0:Bool) (x3:Int) (x5:List yac) (x6:List yad) (y9:yai) (y37:yac) (z40:Int) (z41:Bool) (hJ3:∀(x10:Int) (x11:Int) (x12:yaa) (x13:(List yac)) (x14:(List yad)) (x15:Int) (x16:Str) (x17:(List yag)) (x18:(List Str)),yak X1 r0 x3 x10 x11 x12 x13 x14 x15 x16 x17 x18→J3 x10 x11 x12 x13 x14 x15 x16 x17 x18) {X6:Int→Bool→Int→yaa→Prop} {x42:Int} {x43:Bool} {x44:Int} {x45:yaa} (h:ybk X1 r0 x3 x5 x6 y9 y37 z40 z41 X6 x42 x43 x44 x45):ycL y37 y9 r0 J3 x5 x6 z40 z41 X6 x42 x43 x44 x45:=by
 unfold ycL
 unfold ybk at h
 refine yao h (fun h=> ?_) (fun h=> ?_)
 ·exact h
 ·intro J7 kJ7
  have hJ7:∀x47 x48,yaX X1 r0 x3 x5 x6 y9 x47 x48->J7 x47 x48:=fun x47 x48 q=>kJ7 x47 x48 (yf7 J3 X1 r0 x3 x5 x6 y9 hJ3 q)
  refine yao h (fun h=> ?_) (fun h=> ?_)
  ·exact hJ7 _ _ h
  ·exact hJ7 _ _ h
theorem yfy (J3:Int→Int→yaa→(List yac)→(List yad)→Int→Str→(List yag)→(List Str)→Prop) (X1:Int→yaa→(List yac)→(List yad)→Prop) (X8:Int→yaa→(List yaf)→(List yae)→Prop) (r0:Bool) (x3:Int) (x5:List yac) (x6:List yad) (x49:Int) (y9:yai) (hJ3:∀(x10:Int) (x11:Int) (x12:yaa) (x13:(List yac)) (x14:(List yad)) (x15:Int) (x16:Str) (x17:(List yag)) (x18:(List Str)),yak X1 r0 x3 x10 x11 x12 x13 x14 x15 x16 x17 x18→J3 x10 x11 x12 x13 x14 x15 x16 x17 x18) {x53:Bool} {x54:yaa} {x55:List yaf} {x56:List yae} (h:yaK X1 X8 r0 x3 x5 x6 x49 y9 x53 x54 x55 x56):ycI x49 y9 X8 x5 x6 J3 x53 x54 x55 x56:=by
 unfold ycI
 unfold yaK at h
 refine yao h (fun h=> ?_) (fun h=> ?_)
 ·exact h
 ·obtain ⟨z59,h⟩:=h
  refine ⟨z59,?_⟩
  obtain ⟨z60,h⟩:=h
  refine ⟨z60,?_⟩
  obtain ⟨h0,h⟩:=h
  refine ⟨h0,?_⟩
  obtain ⟨z61,h⟩:=h
  refine ⟨z61,?_⟩
  obtain ⟨z62,h⟩:=h
  refine ⟨z62,?_⟩
  obtain ⟨h0,h⟩:=h
  refine ⟨h0,?_⟩
  exact hJ3 _ _ _ _ _ _ _ _ _ h
theorem ygb (J3:Int→Int→yaa→(List yac)→(List yad)→Int→Str→(List yag)→(List Str)→Prop) (X1:Int→yaa→(List yac)→(List yad)→Prop) (r0:Bool) (x3:Int) (x5:List yac) (x6:List yad) (y9:yai) (hJ3:∀(x10:Int) (x11:Int) (x12:yaa) (x13:(List yac)) (x14:(List yad)) (x15:Int) (x16:Str) (x17:(List yag)) (x18:(List Str)),yak X1 r0 x3 x10 x11 x12 x13 x14 x15 x16 x17 x18→J3 x10 x11 x12 x13 x14 x15 x16 x17 x18) {X8:Int→yaa→(List yaf)→(List yae)→Prop} {x49:Int} {x50:yaa} {x51:List yaf} {x52:List yae} (h:ybJ X1 r0 x3 x5 x6 y9 X8 x49 x50 x51 x52):ycQ y9 x5 x6 J3 X8 x49 x50 x51 x52:=by
 unfold ycQ
 unfold ybJ at h
 intro J9 kJ9
 have hJ9:∀x53 x54 x55 x56,yaK X1 X8 r0 x3 x5 x6 x49 y9 x53 x54 x55 x56->J9 x53 x54 x55 x56:=fun x53 x54 x55 x56 q=>kJ9 x53 x54 x55 x56 (yfy J3 X1 X8 r0 x3 x5 x6 x49 y9 hJ3 q)
 intro c
 replace h:=h c
 refine yao h (fun h=> ?_) (fun h=> ?_)
 ·exact hJ9 _ _ _ _ h
 ·exact hJ9 _ _ _ _ h
theorem yfM (J3:Int→Int→yaa→(List yac)→(List yad)→Int→Str→(List yag)→(List Str)→Prop) (X1:Int→yaa→(List yac)→(List yad)→Prop) (r0:Bool) (x3:Int) (x5:List yac) (x6:List yad) (y9:yai) (hJ3:∀(x10:Int) (x11:Int) (x12:yaa) (x13:(List yac)) (x14:(List yad)) (x15:Int) (x16:Str) (x17:(List yag)) (x18:(List Str)),yak X1 r0 x3 x10 x11 x12 x13 x14 x15 x16 x17 x18→J3 x10 x11 x12 x13 x14 x15 x16 x17 x18) {x27:Bool} {x28:yaa} (h:yaQ X1 r0 x3 x5 x6 y9 x27 x28):ycJ y9 x5 x6 J3 r0 x27 x28:=by
 unfold ycJ
 unfold yaQ at h
 refine yao h (fun h=> ?_) (fun h=> ?_)
 ·intro c
  replace h:=h c
  obtain ⟨h0,h⟩:=h
  refine ⟨h0,?_⟩
  obtain ⟨z29,h⟩:=h
  refine ⟨z29,?_⟩
  obtain ⟨z30,h⟩:=h
  refine ⟨z30,?_⟩
  obtain ⟨h0,h⟩:=h
  refine ⟨h0,?_⟩
  obtain ⟨z31,h⟩:=h
  refine ⟨z31,?_⟩
  obtain ⟨z32,h⟩:=h
  refine ⟨z32,?_⟩
  obtain ⟨h0,h⟩:=h
  refine ⟨h0,?_⟩
  exact hJ3 _ _ _ _ _ _ _ _ _ h
 ·refine yao h (fun h=> ?_) (fun h=> ?_)
  ·obtain ⟨z33,h⟩:=h
   refine ⟨z33,?_⟩
   obtain ⟨z34,h⟩:=h
   refine ⟨z34,?_⟩
   obtain ⟨h0,h⟩:=h
   refine ⟨h0,?_⟩
   obtain ⟨z35,h⟩:=h
   refine ⟨z35,?_⟩
   obtain ⟨z36,h⟩:=h
   refine ⟨z36,?_⟩
   obtain ⟨h0,h⟩:=h
   refine ⟨h0,?_⟩
   exact hJ3 _ _ _ _ _ _ _ _ _ h
  ·refine yao h (fun h=> ?_) (fun h=> ?_)
   ·intro c
    replace h:=h c
    refine yao h (fun h=> ?_) (fun h=> ?_)
    ·obtain ⟨h0,h⟩:=h
     refine ⟨h0,?_⟩
     obtain ⟨h0,h⟩:=h
     refine ⟨h0,?_⟩
     obtain ⟨h0,h⟩:=h
     refine ⟨h0,?_⟩
     obtain ⟨y37,h⟩:=h
     refine ⟨y37,?_⟩
     obtain ⟨h0,h⟩:=h
     refine ⟨h0,?_⟩
     obtain ⟨z38,h⟩:=h
     refine ⟨z38,?_⟩
     obtain ⟨z39,h⟩:=h
     refine ⟨z39,?_⟩
     obtain ⟨h0,h⟩:=h
     refine ⟨h0,?_⟩
     obtain ⟨z40,h⟩:=h
     refine ⟨z40,?_⟩
     obtain ⟨z41,h⟩:=h
     refine ⟨z41,?_⟩
     obtain ⟨h0,h⟩:=h
     refine ⟨h0,?_⟩
     intro c
     replace h:=h c
     intro X6 k
     exact h X6 (fun x42 x43 x44 x45 q=>k x42 x43 x44 x45 (yfT J3 X1 r0 x3 x5 x6 y9 y37 z40 z41 hJ3 q))
    ·exact hJ3 _ _ _ _ _ _ _ _ _ h
   ·intro X8 k
    exact h X8 (fun x49 x50 x51 x52 q=>k x49 x50 x51 x52 (ygb J3 X1 r0 x3 x5 x6 y9 hJ3 q))
theorem yfr (r0:Bool) {x67:Bool} (h:yay r0 x67):ycm r0 x67:=by
 unfold ycm
 unfold yay at h
 exact h
theorem yfU (X1:Int→yaa→(List yac)→(List yad)→Prop) (a0:List yai) (r0:Bool) (x3:Int) (x5:List yac) (x6:List yad) {x7:Bool} {x8:yaa} (h:yaL X1 a0 r0 x3 x5 x6 x7 x8):ycw x3 a0 r0 X1 x5 x6 x7 x8:=by
 unfold ycw
 unfold yaL at h
 refine yao h (fun h=> ?_) (fun h=> ?_)
 ·obtain ⟨h0,h⟩:=h
  refine ⟨h0,?_⟩
  obtain ⟨h0,h⟩:=h
  refine ⟨h0,?_⟩
  obtain ⟨y9,h⟩:=h
  refine ⟨y9,?_⟩
  obtain ⟨h0,h⟩:=h
  refine ⟨h0,?_⟩
  intro J3 kJ3
  have hJ3:∀x10 x11 x12 x13 x14 x15 x16 x17 x18,yak X1 r0 x3 x10 x11 x12 x13 x14 x15 x16 x17 x18->J3 x10 x11 x12 x13 x14 x15 x16 x17 x18:=fun x10 x11 x12 x13 x14 x15 x16 x17 x18 q=>kJ3 x10 x11 x12 x13 x14 x15 x16 x17 x18 (yfw X1 r0 x3 q)
  refine yao h (fun h=> ?_) (fun h=> ?_)
  ·obtain ⟨z23,h⟩:=h
   refine ⟨z23,?_⟩
   obtain ⟨z24,h⟩:=h
   refine ⟨z24,?_⟩
   obtain ⟨h0,h⟩:=h
   refine ⟨h0,?_⟩
   obtain ⟨z25,h⟩:=h
   refine ⟨z25,?_⟩
   obtain ⟨z26,h⟩:=h
   refine ⟨z26,?_⟩
   obtain ⟨h0,h⟩:=h
   refine ⟨h0,?_⟩
   exact hJ3 _ _ _ _ _ _ _ _ _ h
  ·intro J5 kJ5
   have hJ5:∀x27 x28,yaQ X1 r0 x3 x5 x6 y9 x27 x28->J5 x27 x28:=fun x27 x28 q=>kJ5 x27 x28 (yfM J3 X1 r0 x3 x5 x6 y9 hJ3 q)
   refine yao h (fun h=> ?_) (fun h=> ?_)
   ·exact hJ5 _ _ h
   ·exact hJ5 _ _ h
 ·obtain ⟨z63,h⟩:=h
  refine ⟨z63,?_⟩
  obtain ⟨z64,h⟩:=h
  refine ⟨z64,?_⟩
  obtain ⟨h0,h⟩:=h
  refine ⟨h0,?_⟩
  obtain ⟨z65,h⟩:=h
  refine ⟨z65,?_⟩
  obtain ⟨z66,h⟩:=h
  refine ⟨z66,?_⟩
  obtain ⟨h0,h⟩:=h
  refine ⟨h0,?_⟩
  intro J10 kJ10
  have hJ10:∀x67,yay r0 x67->J10 x67:=fun x67 q=>kJ10 x67 (yfr r0 q)
  obtain ⟨z68,h⟩:=h
  refine ⟨z68,?_⟩
  obtain ⟨h0,h⟩:=h
  refine ⟨h0,?_⟩
  refine yao h (fun h=> ?_) (fun h=> ?_)
  ·obtain ⟨z69,h⟩:=h
   refine ⟨z69,?_⟩
   obtain ⟨h0,h⟩:=h
   refine ⟨h0,?_⟩
   refine yao h (fun h=> ?_) (fun h=> ?_)
   ·obtain ⟨z70,h⟩:=h
    refine ⟨z70,?_⟩
    obtain ⟨h0,h⟩:=h
    refine ⟨h0,?_⟩
    refine yao h (fun h=> ?_) (fun h=> ?_)
    ·obtain ⟨z71,h⟩:=h
     refine ⟨z71,?_⟩
     obtain ⟨h0,h⟩:=h
     refine ⟨h0,?_⟩
     refine yao h (fun h=> ?_) (fun h=> ?_)
     ·refine yao h (fun h=> ?_) (fun h=> ?_)
      ·intro c
       replace h:=h c
       intro c
       replace h:=h c
       obtain ⟨z72,h⟩:=h
       refine ⟨z72,?_⟩
       obtain ⟨h0,h⟩:=h
       refine ⟨h0,?_⟩
       intro c
       replace h:=h c
       exact hJ10 _ h
      ·exact hJ10 _ h
     ·exact hJ10 _ h
    ·exact hJ10 _ h
   ·exact hJ10 _ h
  ·exact hJ10 _ h
theorem yfv (a0:List yai) (r0:Bool) {X1:Int→yaa→(List yac)→(List yad)→Prop} {x3:Int} {x4:yaa} {x5:List yac} {x6:List yad} (h:ybK a0 r0 X1 x3 x4 x5 x6):ycB a0 r0 X1 x3 x4 x5 x6:=by
 unfold ycB
 unfold ybK at h
 intro J2 kJ2
 have hJ2:∀x7 x8,yaL X1 a0 r0 x3 x5 x6 x7 x8->J2 x7 x8:=fun x7 x8 q=>kJ2 x7 x8 (yfU X1 a0 r0 x3 x5 x6 q)
 intro c
 replace h:=h c
 refine yao h (fun h=> ?_) (fun h=> ?_)
 ·exact hJ2 _ _ h
 ·exact hJ2 _ _ h
theorem yhc (a0:List yai) (r0:Bool) (h:ycA a0 r0):yaW a0 r0:=by
 unfold yaW
 unfold ycA at h
 obtain ⟨z1,h⟩:=h
 refine ⟨z1,?_⟩
 obtain ⟨h0,h⟩:=h
 refine ⟨h0,?_⟩
 refine yao h (fun h=> ?_) (fun h=> ?_)
 ·exact h
 ·obtain ⟨z2,h⟩:=h
  refine ⟨z2,?_⟩
  obtain ⟨h0,h⟩:=h
  refine ⟨h0,?_⟩
  intro X1 k
  exact h X1 (fun x3 x4 x5 x6 q=>k x3 x4 x5 x6 (yfv a0 r0 q))
def ybS:Sp KK:=⟨3,[.v 22],[4],appW (K:=KK) [4] [.v 22] yaW⟩
def ygH:An KK:=(.s .o (.s (.s .o (.c (.s .o .o) .o)) (.s .o (.s .o (.s (.s .o (.b (.l ⟨[(0, .kp 599),(3, .px 1001792 0),(4, .px 4 0),(5, .it .i64)],[(1001792,1000002,[.v 139]),(4,29,[.sl 44, .sl 41])],[]⟩ (fun _=>(.s (.j ⟨[(0, .kp 599),(3, .px 1001792 0),(4, .px 4 0),(5, .kp 968),(36, .bl)],[(1001792,1000002,[.v 139]),(4,29,[.kp 969, .kp 970])],[]⟩ .o (fun _=>(.c .o .o))) (.s (.b (.s .o (.s .o (.j ⟨[(0, .kp 599),(3, .px 1001792 0),(4, .px 4 0),(5, .kp 968),(6, .px 6 0),(7, .it .i64),(8, .it .i64)],[(1001792,1000002,[.v 139]),(4,29,[.sl 44, .sl 41]),(6,33,[.it .u8, .st, .sl 55, .sl 9])],[]⟩ (.s .o (.b (.s .o (.c (.s .o .o) (.j ⟨[(0, .kp 599),(3, .px 1001792 0),(4, .px 4 0),(5, .kp 968),(6, .px 6 0),(7, .kp 1160),(8, .kp 1161),(45, .kp 1162),(99, .bl)],[(1001792,1000002,[.v 139]),(4,29,[.kp 969, .kp 970]),(6,33,[.kp 1163, .kp 1164, .kp 1165, .kp 1166])],[]⟩ (.s .o (.c .o .o)) (fun _=>(.c (.s .o (.s .o .o)) (.s .o (.c (.s .o .o) (.s .o (.c (.s .o (.c (.s .o (.s .o (.s .o (.s .o (.s (.s .o (.b (.l ⟨[(0, .kp 599),(3, .px 1001792 0),(4, .px 4 0),(5, .kp 968),(6, .px 6 0),(7, .kp 1160),(8, .kp 1161),(10, .px 10 0),(13, .kp 1175),(14, .kp 1176),(15, .it .i64),(16, .bl),(17, .it .i64)],[(1001792,1000002,[.v 139]),(4,29,[.kp 969, .kp 970]),(6,33,[.kp 1163, .kp 1164, .kp 1165, .kp 1166]),(10,44,[.kp 1180, .kp 1181, .kp 1182])],[]⟩ (fun _=>(.s (.s .o (.c .o .o)) (.s (.b (.s .o (.c .o .o))) .o)))))) (.j ⟨[(0, .kp 599),(3, .px 1001792 0),(4, .px 4 0),(5, .kp 968),(6, .px 6 0),(7, .kp 1160),(8, .kp 1161),(192, .bl)],[(1001792,1000002,[.v 139]),(4,29,[.kp 969, .kp 970]),(6,33,[.kp 1163, .kp 1164, .kp 1165, .kp 1166])],[]⟩ .o (fun _=>(.c (.s .o .o) .o)))))))) .o)) (.s .o (.s .o (.s (.s .o (.b (.l ⟨[(0, .kp 599),(3, .px 1001792 0),(4, .px 4 0),(5, .kp 968),(6, .px 6 0),(18, .row 64),(19, .row 72),(20, .it .i64)],[(1001792,1000002,[.v 139]),(4,29,[.kp 969, .kp 970]),(6,33,[.kp 1163, .kp 1164, .kp 1165, .kp 1166])],[(64,54),(72,53)]⟩ (fun _=>(.s (.j ⟨[(0, .kp 599),(3, .px 1001792 0),(4, .px 4 0),(5, .kp 968),(6, .px 6 0),(18, .row 64),(19, .row 72),(20, .kp 1196),(54, .bl)],[(1001792,1000002,[.v 139]),(4,29,[.kp 969, .kp 970]),(6,33,[.kp 1163, .kp 1164, .kp 1165, .kp 1166])],[(64,54),(72,53)]⟩ .o (fun _=>(.c .o .o))) (.s (.b .o) .o)))))) (.s .o .o))))))))))))))) (fun _=>(.j ⟨[(0, .kp 599),(3, .px 1001792 0),(4, .px 4 0),(5, .kp 968),(203, .bl)],[(1001792,1000002,[.v 139]),(4,29,[.kp 1158, .kp 1159])],[]⟩ .o (fun _=>(.c (.s .o .o) .o)))))))) .o)))))) (.s .o (.s .o (.s .o (.j ⟨[(2, .bl)],[],[]⟩ .o (fun _=> .o))))))))))
def ygI:Cf KK:=⟨CC,[ygs,yhK,ygf,yfk,yhU,yds],[ya8,yaw,yaG,yat,yax,ydX,yar,yaD,yaz,yaE,yaI,yaF,yau,yaC],248,[],none,false⟩
theorem ygQ:SpOk Try.prog CC ybS:=ydy (F:=ygI) (ps:= [.v 22]) (rs:= [4]) (w:=yaW) ygv (ydl yjk (ydl ylh (ydl yiV (ydl yid (ydl yk1 (ydl yfO yd5)))))) (yco yff (yco yc1 (yco yeS (yco yea (yco yc6 (yco yko (yco ybC (yco yeM (yco yeC (yco yeR (yco yeQ (yco yeU (yco yd1 (yco yey yd6)))))))))))))) t3 (A:=ygH) (by kernel_rfl) (by kernel_rfl) (fun a0 r0=>show _=_ by kernel_rfl)
end Go.Proofs.Ytpplhhknlmcgbaa
end
noncomputable section
namespace Go.Proofs.Ytpplhhknlmcgbaa
open Go.AV Go.RowKit
def yfq (v:yag):Prop:=(fun s:Str=>s.length<=maxLen) v.Name/\(fun n:Int=>(Lit.int .i64 n).wf=true) v.Kind/\(fun _:Bool=>True) v.Key
theorem yha:ylS Try.prog 55 ybn.c yfq:=by
 intro us h
 have r:=h.fields Try.underlying55
 obtain ⟨v0,q0,rfl,h0,r⟩:=r.first (ylN Try.underlying9)
 obtain ⟨v1,q1,rfl,h1,r⟩:=r.first (yoS Try.underlying3)
 obtain ⟨v2,q2,rfl,h2,r⟩:=r.first (yqi Try.underlying4)
 obtain rfl:=r.last
 exact ⟨⟨v0,v1,v2⟩,rfl,h0,h1,h2⟩
def ydZ (v:yai):Prop:=(fun n:Int=>(Lit.int .u8 n).wf=true) v.What/\(fun s:Str=>s.length<=maxLen) v.Name/\(fun l:List yag=>l.length<=maxLen/\∀v∈l,yfq v) v.Columns/\(fun l:List Str=>l.length<=maxLen/\∀v∈l,(fun s:Str=>s.length<=maxLen) v) v.Uses
theorem yip:ylS Try.prog 33 yb4.c ydZ:=by
 intro us h
 have r:=h.fields Try.underlying33
 obtain ⟨v0,q0,rfl,h0,r⟩:=r.first (yoS Try.underlying5)
 obtain ⟨v1,q1,rfl,h1,r⟩:=r.first (ylN Try.underlying9)
 obtain ⟨v2,q2,rfl,h2,r⟩:=r.first (yiq ybn Try.underlying30 yha)
 obtain ⟨v3,q3,rfl,h3,r⟩:=r.first (yiq eS Try.underlying31 (ylN Try.underlying9))
 obtain rfl:=r.last
 exact ⟨⟨v0,v1,v2,v3⟩,rfl,h0,h1,h2,h3⟩
def yiQ:Prop:=∀(a0:(List yai)),(fun l:List yai=>l.length<=maxLen/\∀v∈l,ydZ v) a0->yaW a0 true
set_option maxRecDepth 100000 in
theorem yiC {a0:(List yai)} (h:yaW a0 true):Pure Try.prog 3 [slA yb4 a0] (.bl true):=by
 have e:Pure Try.prog ybS.f (yd8 CC ybS.ps [.d (.v 22 a0)]) (ycM (([.v 4 true]:List (DV KK)).map (dvA CC)))=Pure Try.prog 3 [slA yb4 a0] (.bl true):=by kernel_rfl
 have w:ybS.W [.d (.v 22 a0)] [.v 4 true]=yaW a0 true:=by kernel_rfl
 exact e.mp (ygQ _ _ (fun F h=>by simp at h) (w.mpr h)).2
end Go.Proofs.Ytpplhhknlmcgbaa
end
noncomputable section
namespace Go.Proofs.Ytpplhhknlmcgbaa
open Go.AV Go.RowKit
theorem tsl0 {α:Type} (l:List α) (k:Nat):ybw l 0 (k:Int)=l.take k:=by simp[ybw]
theorem tslE {α:Type} (l:List α) (k:Nat):ybw l (k:Int) (l.length:Int)=l.drop k:=by
 simp only[ybw,Int.toNat_natCast]
 rw[List.take_of_length_le (by simp)]
theorem w64s {k:Nat} (h:k<1000000000):IntKind.i64.wrap ((k:Int)+1)=((k+1:Nat):Int):=by
 rw[Go.AV.wrap64 (by omega) (by omega)];omega
def SS (l:List Str):Prop:=l.Pairwise fun a b=>Op.bytesLess a b=true
theorem yor:∀ {L M:List Str},SS L→SS M→(∀q,q∈L↔q∈M)→L=M
 | [],[],_,_,_=>rfl
 | [],q::M,_,_,h=>by have:=(h q).2 List.mem_cons_self;cases this
 |q::L,[],_,_,h=>by have:=(h q).1 List.mem_cons_self;cases this
 | p ::L,q::M,hL,hM,h=>by
   obtain ⟨a1,a2⟩:=List.pairwise_cons.1 hL
   obtain ⟨b1,b2⟩:=List.pairwise_cons.1 hM
   have e:p=q:=by
    rcases List.mem_cons.1 ((h p).1 List.mem_cons_self) with e|hp
    ·exact e
    ·rcases List.mem_cons.1 ((h q).2 List.mem_cons_self) with e|hq
     ·exact e.symm
     ·have x:=ye2 _ _ _ (a1 q hq) (b1 p hp)
      rw[yd3] at x;cases x
   subst e
   congr 1
   refine yor a2 b2 fun x=> ?_
   constructor
   ·intro hx
    rcases List.mem_cons.1 ((h x).1 (List.mem_cons_of_mem _ hx)) with e|k
    ·have:=a1 x hx;rw[e,yd3] at this;cases this
    ·exact k
   ·intro hx
    rcases List.mem_cons.1 ((h x).2 (List.mem_cons_of_mem _ hx)) with e|k
    ·have:=b1 x hx;rw[e,yd3] at this;cases this
    ·exact k
theorem ywL {α:Type} {T:GL α} (h:GS T):SS (T.map (·.1)):=by
 unfold SS;rw[List.pairwise_map];exact h
theorem yyI {l:List Str} (h:SS l) {n:Str} {k:Nat} (h1:∀j x,j<k→l[j]? =some x→Op.bytesLess x n=true) (h2:∀x,l[k]? =some x→Op.bytesLess n x=true):SS (l.take k++ [n]++l.drop k):=by
 have hp:=List.pairwise_iff_getElem.1 h
 have hd:∀e∈l.drop k,Op.bytesLess n e=true:=fun e he=>by
  obtain ⟨j,hj⟩:=List.getElem?_of_mem he
  rw[List.getElem?_drop] at hj
  cases j with
  |zero=>exact h2 e hj
  | succ j=>
    obtain ⟨hjl,hje⟩:=List.getElem?_eq_some_iff.1 hj
    have hk:k<l.length:=by omega
    have a:=h2 l[k] (List.getElem?_eq_getElem hk)
    have b:=hp k (k+(j+1)) hk hjl (by omega)
    rw[hje] at b
    exact ye2 _ _ _ a b
 have ht:∀e∈l.take k,Op.bytesLess e n=true:=fun e he=>by
  obtain ⟨j,hj⟩:=List.getElem?_of_mem he
  obtain ⟨hjl,_⟩:=List.getElem?_eq_some_iff.1 hj
  rw[List.length_take] at hjl
  rw[List.getElem?_take_of_lt (by omega)] at hj
  exact h1 j e (by omega) hj
 refine List.pairwise_append.2 ⟨List.pairwise_append.2 ⟨h.take,List.pairwise_singleton _ _,fun a ha b hb=> ?_⟩,h.drop,fun a ha b hb=> ?_⟩
 ·rw[List.mem_singleton] at hb;subst hb;exact ht a ha
 ·rcases List.mem_append.1 ha with ha|ha
  ·exact ye2 _ _ _ (ht a ha) (hd b hb)
  ·rw[List.mem_singleton] at ha;subst ha;exact hd b hb
theorem yxa {α:Type} {l:List α} {k:Nat} {n x:α}:x∈l.take k++ [n]++l.drop k↔x=n∨x∈l:=by
 conv=>rhs;rw[<-List.take_append_drop k l]
 simp only[List.mem_append,List.mem_singleton]
 constructor
 ·rintro ((h|h)|h)
  ·exact .inr (.inl h)
  ·exact .inl h
  ·exact .inr (.inr h)
 ·rintro (h|h|h)
  ·exact .inl (.inr h)
  ·exact .inl (.inl h)
  ·exact .inr h
theorem ylI {l:List Str} {n:Str} (hs:SS l) (hn:n∉l) (hl:l.length≤1000):∃r,ya1 l n r∧SS r∧(∀x,x∈r↔x=n∨x∈l)∧r.length=l.length+1:=by
 have hex:∃k,k≤l.length∧(∀j x,j<k→l[j]? =some x→Op.bytesLess x n=true)∧(∀x,l[k]? =some x→Op.bytesLess x n=false):=by
  clear hs hn hl
  induction l with
  |nil=>exact ⟨0,Nat.le_refl _,fun j x h=>by omega,fun x h=>by simp at h⟩
  | cons a l ih=>
    cases ha:Op.bytesLess a n with
    |false=>exact ⟨0,Nat.zero_le _,fun j x h=>by omega,fun x h=>by simp at h;subst h;exact ha⟩
    | true=>
      obtain ⟨k,h1,h2,h3⟩:=ih
      refine ⟨k+1,by simp;omega,fun j x hj hx=> ?_,fun x hx=>h3 x (by simpa using hx)⟩
      cases j with
      |zero=>simp at hx;subst hx;exact ha
      |succ j=>exact h2 j x (by omega) (by simpa using hx)
 obtain ⟨k0,hk0,hlt,hge⟩:=hex
 have hgt:∀x,l[k0]? =some x→Op.bytesLess n x=true:=fun x hx=>by
  rcases yh5 n x with h|h|h
  ·exact h
  ·exact absurd (List.mem_of_getElem? (h▸hx)) hn
  ·rw[hge x hx] at h;cases h
 refine ⟨l.take k0++ [n]++l.drop k0,?_,yyI hs hlt hgt,fun x=>yxa,by simp;omega⟩
 refine ykt _ _ _ ?_
 unfold yeN
 refine lp1 (fun x:Int=>∃k:Nat,x=k/\k<=k0) (fun x:Int=>l.length-x.toNat) ?_ ⟨0,rfl,Nat.zero_le _⟩
 rintro X _ ⟨k,rfl,hk⟩ hX
 unfold ydi
 intro _
 have fin:k=k0→ybf X l n (l.take k0++ [n]++l.drop k0) k false:=by
  rintro rfl
  unfold ybf
  refine yah rfl ?_
  rw[tsl0,tslE]
  simp only[List.nil_append,List.length_append,List.length_take,List.length_drop,List.length_cons,List.length_nil]
  exact ⟨by omega,by omega,by omega,by omega,by omega,by omega,by first|rfl|trivial⟩
 refine yaq (fun hb=> ?_) (fun hb=> ?_)
 ·have hb:(k:Int)<l.length:=by simpa using hb
  have hk':k<l.length:=by omega
  refine ⟨by omega,hb,l[k],by simp[List.getElem?_eq_getElem hk'],?_⟩
  cases hq:Op.bytesLess l[k] n with
  | true=>
    unfold ybf
    refine yas rfl ?_
    rw[w64s (by omega)]
    refine hX _ ⟨k+1,rfl,?_⟩ (by simp;omega)
    rcases Nat.lt_or_ge k k0 with h|h
    ·exact h
    ·have e:k=k0:=by omega
     subst e
     rw[hge _ (List.getElem?_eq_getElem hk')] at hq;cases hq
  | false=>
    refine fin ?_
    rcases Nat.lt_or_ge k k0 with h|h
    ·rw[hlt k _ h (List.getElem?_eq_getElem hk')] at hq;cases hq
    ·omega
 ·have hb:¬(k:Int)<l.length:=by simpa using hb
  exact fin (by omega)
theorem yxX (c:yab) (n:Str) (hl:c.Tables.length≤1000):∃r,yaR c n r∧((r= -1∧∀t∈c.Tables,t.Name≠n)∨∃k t,r=((k:Nat):Int)∧c.Tables[k]? =some t∧t.Name=n):=by
 have hex:(∀t∈c.Tables,t.Name≠n)∨∃(k:Nat) (t:yac),c.Tables[k]? =some t∧t.Name=n∧∀(j:Nat) (u:yac),j<k→c.Tables[j]? =some u→u.Name≠n:=by
  generalize c.Tables=l
  induction l with
  |nil=>exact .inl fun t h=>by cases h
  | cons a l ih=>
    by_cases ha:a.Name=n
    ·exact .inr ⟨0,a,rfl,ha,fun j u h=>by omega⟩
    ·rcases ih with h|⟨k,t,h1,h2,h3⟩
     ·exact .inl fun t ht=>by
       rcases List.mem_cons.1 ht with rfl|ht
       ·exact ha
       ·exact h t ht
     ·refine .inr ⟨k+1,t,by simpa using h1,h2,fun j u hj hu=> ?_⟩
      cases j with
      |zero=>simp at hu;subst hu;exact ha
      |succ j=>exact h3 j u (by omega) (by simpa using hu)
 rcases hex with hno|⟨k0,t,h1,h2,h3⟩
 ·refine ⟨-1,yiJ _ _ _ ?_, .inl ⟨rfl,hno⟩⟩
  unfold yeq
  refine lp1 (fun x:Int=>∃k:Nat,x=k/\k<=c.Tables.length) (fun x:Int=>c.Tables.length-x.toNat) ?_ ⟨0,rfl,Nat.zero_le _⟩
  rintro X _ ⟨k,rfl,hk⟩ hX
  unfold ydf
  intro _
  refine yaq (fun hb=> ?_) (fun hb=>rfl)
  have hb:(k:Int)<c.Tables.length:=by simpa using hb
  have hk':k<c.Tables.length:=by omega
  refine ⟨by omega,hb,c.Tables[k],by simp[List.getElem?_eq_getElem hk'],?_⟩
  refine yah (by simpa using hno _ (List.getElem_mem hk')) ?_
  rw[w64s (by omega)]
  exact hX _ ⟨k+1,rfl,by omega⟩ (by simp;omega)
 ·have hk0:=(List.getElem?_eq_some_iff.1 h1).1
  refine ⟨(k0:Int),yiJ _ _ _ ?_, .inr ⟨k0,t,rfl,h1,h2⟩⟩
  unfold yeq
  refine lp1 (fun x:Int=>∃k:Nat,x=k/\k<=k0) (fun x:Int=>c.Tables.length-x.toNat) ?_ ⟨0,rfl,Nat.zero_le _⟩
  rintro X _ ⟨k,rfl,hk⟩ hX
  unfold ydf
  intro _
  have hk':k<c.Tables.length:=by omega
  refine yas (by simp;omega) ?_
  refine ⟨by omega,by omega,c.Tables[k],by simp[List.getElem?_eq_getElem hk'],?_⟩
  refine yaq (fun q=> ?_) (fun q=> ?_)
  ·have q:c.Tables[k].Name=n:=by simpa using q
   rcases Nat.lt_or_ge k k0 with h|h
   ·exact absurd q (h3 k _ h (List.getElem?_eq_getElem hk'))
   ·have e:k=k0:=by omega
    rw[e]
  ·have q:¬c.Tables[k].Name=n:=by simpa using q
   rw[w64s (by omega)]
   refine hX _ ⟨k+1,rfl,?_⟩ (by simp;omega)
   rcases Nat.lt_or_ge k k0 with h|h
   ·exact h
   ·have e:k=k0:=by omega
    subst e
    rw[List.getElem?_eq_getElem hk'] at h1
    cases h1;exact absurd h2 q
theorem yvK (c:yab) (n:Str) (hl:c.Views.length≤1000):∃r,yaN c n r∧((r= -1∧∀t∈c.Views,t.Name≠n)∨∃k t,r=((k:Nat):Int)∧c.Views[k]? =some t∧t.Name=n):=by
 have hex:(∀t∈c.Views,t.Name≠n)∨∃(k:Nat) (t:yad),c.Views[k]? =some t∧t.Name=n∧∀(j:Nat) (u:yad),j<k→c.Views[j]? =some u→u.Name≠n:=by
  generalize c.Views=l
  induction l with
  |nil=>exact .inl fun t h=>by cases h
  | cons a l ih=>
    by_cases ha:a.Name=n
    ·exact .inr ⟨0,a,rfl,ha,fun j u h=>by omega⟩
    ·rcases ih with h|⟨k,t,h1,h2,h3⟩
     ·exact .inl fun t ht=>by
       rcases List.mem_cons.1 ht with rfl|ht
       ·exact ha
       ·exact h t ht
     ·refine .inr ⟨k+1,t,by simpa using h1,h2,fun j u hj hu=> ?_⟩
      cases j with
      |zero=>simp at hu;subst hu;exact ha
      |succ j=>exact h3 j u (by omega) (by simpa using hu)
 rcases hex with hno|⟨k0,t,h1,h2,h3⟩
 ·refine ⟨-1,ygg _ _ _ ?_, .inl ⟨rfl,hno⟩⟩
  unfold yc0
  refine lp1 (fun x:Int=>∃k:Nat,x=k/\k<=c.Views.length) (fun x:Int=>c.Views.length-x.toNat) ?_ ⟨0,rfl,Nat.zero_le _⟩
  rintro X _ ⟨k,rfl,hk⟩ hX
  unfold ybT
  intro _
  refine yaq (fun hb=> ?_) (fun hb=>rfl)
  have hb:(k:Int)<c.Views.length:=by simpa using hb
  have hk':k<c.Views.length:=by omega
  refine ⟨by omega,hb,c.Views[k],by simp[List.getElem?_eq_getElem hk'],?_⟩
  refine yah (by simpa using hno _ (List.getElem_mem hk')) ?_
  rw[w64s (by omega)]
  exact hX _ ⟨k+1,rfl,by omega⟩ (by simp;omega)
 ·have hk0:=(List.getElem?_eq_some_iff.1 h1).1
  refine ⟨(k0:Int),ygg _ _ _ ?_, .inr ⟨k0,t,rfl,h1,h2⟩⟩
  unfold yc0
  refine lp1 (fun x:Int=>∃k:Nat,x=k/\k<=k0) (fun x:Int=>c.Views.length-x.toNat) ?_ ⟨0,rfl,Nat.zero_le _⟩
  rintro X _ ⟨k,rfl,hk⟩ hX
  unfold ybT
  intro _
  have hk':k<c.Views.length:=by omega
  refine yas (by simp;omega) ?_
  refine ⟨by omega,by omega,c.Views[k],by simp[List.getElem?_eq_getElem hk'],?_⟩
  refine yaq (fun q=> ?_) (fun q=> ?_)
  ·have q:c.Views[k].Name=n:=by simpa using q
   rcases Nat.lt_or_ge k k0 with h|h
   ·exact absurd q (h3 k _ h (List.getElem?_eq_getElem hk'))
   ·have e:k=k0:=by omega
    rw[e]
  ·have q:¬c.Views[k].Name=n:=by simpa using q
   rw[w64s (by omega)]
   refine hX _ ⟨k+1,rfl,?_⟩ (by simp;omega)
   rcases Nat.lt_or_ge k k0 with h|h
   ·exact h
   ·have e:k=k0:=by omega
    subst e
    rw[List.getElem?_eq_getElem hk'] at h1
    cases h1;exact absurd h2 q
theorem yyf (v:yad) (n:Str) (hl:v.Uses.length≤1000):ycE v n (decide (n∈v.Uses)):=by
 refine yl5 _ _ _ ?_
 unfold yfW
 refine lp1 (fun x:Int=>∃k:Nat,x=k/\k<=v.Uses.length/\∀j y,j<k->v.Uses[j]? =some y->y≠n) (fun x:Int=>v.Uses.length-x.toNat) ?_ ⟨0,rfl,Nat.zero_le _,fun j y h=>by omega⟩
 rintro X _ ⟨k,rfl,hk,hlt⟩ hX
 unfold ydM
 intro _
 refine yaq (fun hb=> ?_) (fun hb=> ?_)
 ·have hb:(k:Int)<v.Uses.length:=by simpa using hb
  have hk':k<v.Uses.length:=by omega
  refine ⟨by omega,hb,v.Uses[k],by simp[List.getElem?_eq_getElem hk'],?_⟩
  refine yaq (fun q=> ?_) (fun q=> ?_)
  ·have q:v.Uses[k]=n:=by simpa using q
   have:n∈v.Uses:=q▸List.getElem_mem hk'
   simp[this]
  ·have q:¬v.Uses[k]=n:=by simpa using q
   rw[w64s (by omega)]
   refine hX _ ⟨k+1,rfl,by omega,fun j y hj hy=> ?_⟩ (by simp;omega)
   by_cases e:j=k
   ·subst e;rw[List.getElem?_eq_getElem hk'] at hy;cases hy;exact q
   ·exact hlt j y (by omega) hy
 ·have hb:¬(k:Int)<v.Uses.length:=by simpa using hb
  have:n∉v.Uses:=fun hm=>by
   obtain ⟨j,hj⟩:=List.getElem?_of_mem hm
   have hj':=(List.getElem?_eq_some_iff.1 hj).1
   exact hlt j n (by omega) hj rfl
  simp[this]
theorem yqz {a b:List Str} (ha:a.length≤1000) (hb:b.length≤1000):ybr a b (decide (a=b)):=by
 refine ymd _ _ _ ?_
 unfold yf6
 refine lp1 (fun x:Int=>∃k:Nat,x=k/\k<=a.length/\k<=b.length/\a.take k=b.take k) (fun x:Int=>a.length-x.toNat) ?_ ⟨0,rfl,Nat.zero_le _,Nat.zero_le _,rfl⟩
 rintro X _ ⟨k,rfl,hk,hk2,he⟩ hX
 unfold ydO
 intro _
 have fin:(a.length=k∨b.length=k)→ybB X a b (decide (a=b)) k false:=by
  intro hor
  unfold ybB
  refine yah rfl fun _ _=> ?_
  by_cases e:a.length=b.length
  ·have:a=b:=by
    rcases hor with h|h
    ·rw[List.take_of_length_le (by omega),List.take_of_length_le (by omega)] at he;exact he
    ·rw[List.take_of_length_le (by omega),List.take_of_length_le (by omega)] at he;exact he
   simp[this]
  ·have h1:a≠b:=fun q=>e (by rw[q])
   have h2:¬(a.length:Int)=b.length:=by omega
   simp[h1,h2]
 refine yaq (fun h1=> ?_) (fun h1=> ?_)
 ·have h1:(k:Int)<a.length:=by simpa using h1
  intro _
  cases h2:decide ((k:Int)<b.length) with
  | false=>
    have h2:¬(k:Int)<b.length:=by simpa using h2
    exact fin (.inr (by omega))
  | true=>
    have h2:(k:Int)<b.length:=by simpa using h2
    have ka:k<a.length:=by omega
    have kb:k<b.length:=by omega
    unfold ybB
    refine yas rfl ⟨by omega,h1,a[k],by simp[List.getElem?_eq_getElem ka],by omega,h2,b[k],by simp[List.getElem?_eq_getElem kb],?_⟩
    refine yaq (fun q=> ?_) (fun q=> ?_)
    ·have q:a[k]≠b[k]:=by simpa using q
     have:a≠b:=fun e=>q (by subst e;rfl)
     simp[this]
    ·have q:a[k]=b[k]:=by simpa using q
     rw[w64s (by omega)]
     refine hX _ ⟨k+1,rfl,by omega,by omega,?_⟩ (by simp;omega)
     rw[List.take_add_one,List.take_add_one,he,List.getElem?_eq_getElem ka,List.getElem?_eq_getElem kb,q]
 ·have h1:¬(k:Int)<a.length:=by simpa using h1
  exact fin (.inl (by omega))
end Go.Proofs.Ytpplhhknlmcgbaa
end
