/- General texts and own ones, joined: what the program computes, told of abstract states, and the laws of plain data. No condition. -/
import Derived.Lib.AppendZeros
import Derived.Test.YtpplhhknlmcgbaaMa
import Derived.Stop.Looks
import Derived.KernelRfl
noncomputable section
namespace Go.AV
open Go.RowKit Go.RG Go.Lib
section
variable {P:Program} {B:Base} [GB P B] {N:Nat} {S:St} {a:Act} {G:Gh} {hs:Nat->Bool} {o:Oper} {K:AV->St->Prop} {next:Act->World->Prop} {Q:Exit->Act->World->Prop}
theorem ykY (h:Rel B N S a G) {l:List Operand} {us:List AOpd} (ht:trL P N l=some us):VRs G (us.map (ev S.fr)) (l.map a.eval):=by
 obtain ⟨a1,a2⟩:=yjM h ht
 exact ⟨by simp[a1],a2⟩
theorem VRs.append {us ws:List AV} {vs xs:List Value} (h:VRs G us vs) (k:VRs G ws xs):VRs G (us++ws) (vs++xs):=by
 refine ⟨by simp[h.1,k.1],?_⟩
 intro j u x hu hx
 by_cases hj:j<us.length
 ·rw[List.getElem?_append_left hj] at hu;rw[List.getElem?_append_left (by rw[h.1];exact hj)] at hx;exact h.2 j u x hu hx
 ·rw[List.getElem?_append_right (by omega)] at hu;rw[List.getElem?_append_right (by rw[h.1];omega),h.1] at hx;exact k.2 _ u x hu hx
theorem ytB (h:Rel B N S a G) (hn:Nxt B N a o K next) {e sz:Nat} {x:Operand} {ux:AOpd} (ho:o.op= .box e x) (hx:yaf P N x=some ux) {CA:Cal→List AV→St→(AV→St→Prop)→Prop} (hA:aop hs CA (.box e sz ux) o.dst S K):o.wp P a G.w next Q:=by
 obtain ⟨h1,h2,h3,h4,h5⟩:=hA
 exact yti h hs (v:=a.eval x) (by simp[execOp,ho,Instr.box,newVar,newRow]) (yaM h hx) h1 h2 h3 h4 h5 hn
theorem ymW (h:Rel B N S a G) (hn:Nxt B N a o K next) {e sz:Nat} {z:List AV} {g:Bool} (ho:o.op= .alloc e) (hg:ye7 P e=some (g,sz)) (hz:ycX P e=some z) {u:AV} (hu:u.cells=z) {CA:Cal→List AV→St→(AV→St→Prop)→Prop} (hA:aop hs CA (.box e sz (.c u)) o.dst S K):o.wp P a G.w next Q:=by
 have _:=(inferInstance:GB P B)
 obtain ⟨h1,h2,h3,h4,h5⟩:=hA
 obtain ⟨i,v,hi,hzv,hc⟩:=yc5 (G:=G) hz
 have hev:ev S.fr (.c u)=u:=rfl
 rw[hev] at h1 h2 h4 h5
 obtain ⟨G',e1,e2,e3⟩:=ynS h hs (site o.dst) (b:=⟨e,sz,u.cells⟩) (w1:=G.w.alloc (.cells v.cells e)) (cur:=v.cells) (cap:=1) rfl rfl rfl rfl (by rw[hc.len,<-hu,h1,Nat.one_mul]) (by decide) h3 (by rw[hu];exact hc) h4
 refine ycw (v:= .pointer (some ⟨G.w.heap.size,0,none⟩)) (w':=G.w.alloc (.cells v.cells e)) ?_ ?_
 ·simp[execOp,ho,Instr.alloc,zeroValue,typeInfo,hi,hzv,newVar,newRow]
 ·have:=hn _ _ _ G' h5 e3 (.pt _ _ _ _ e2)
  rw[e1] at this;exact this
theorem yto (h:Rel B N S a G) (hn:Nxt B N a o K next) {x y:Operand} {t u e e':TypeId} {i:TypeInfo} {ux uy:AOpd} (ho:o.op= .call {callee:= .builtin .append,args:= #[x,y],argTypes:= #[t,u]}) (ht:P.underlying t=some (.slice e)) (hu:P.underlying u=some (.slice e')) (hi:P.info? e=some i)
  (hz:∃z,i.zero=some z/\z.cells.size=i.size) (hx:yaf P N x=some ux) (hy:yaf P N y=some uy) {CA:Cal->List AV->St->(AV->St->Prop)->Prop} (hA:aop hs CA (.app e i.size i.bytes ux uy) o.dst S K):o.wp P a G.w next Q:=by
 obtain ⟨h0,hb,hA⟩:=hA
 obtain ⟨⟨m,ys⟩,hsrc,hl,hm,hA⟩:=yb7 hA
 obtain ⟨bo,c,vs,e1,t1,t2⟩:=yqO h.toMRel (yaM h hy) hsrc
 obtain ⟨hApp,hbnd⟩:=ypp hA
 obtain ⟨z,hz1,hz2⟩:=hz
 simp only[] at hl hm
 have hE:Elem P t e i.size i.bytes:=⟨ht,⟨i,z,hi,hz1,rfl,rfl,hz2⟩,h0⟩
 have hvl:vs.length=m*i.size:=by rw[t1.1];exact hl
 refine yoU h hs h0 (yaM h hx) t1 hvl hApp ?_ hbnd hn
 intro ao n cap xs hv hn9 hown
 obtain ⟨ao',cap',w',r1,r2,r3,r4,r5⟩:=yqt (ty:=o.type) hE hown hvl t2 t1.2.2 (by unfold maxLen;omega) (by
  have:(n+m)*i.bytes<=1400000000*100000:=Nat.mul_le_mul (by omega) hb
  omega) (Nat.zero_le _)
 refine ⟨ao',cap',w',?_,r2,r3,r4,r5⟩
 have hr:(Builtin.append_ #[t,u] o.type #[.slice ao n cap, .slice bo m c]).run P G.w= .ok (.slice ao' (n+m) cap') w':=by rw[yif ht hu];exact r1
 exact yfd ho hv e1 hr
theorem yrV (h:Rel B N S a G) (hn:Nxt B N a o K next) {x y:Operand} {t u e:TypeId} {i:TypeInfo} {ux uy:AOpd} (ho:o.op= .call {callee:= .builtin .append,args:= #[x,y],argTypes:= #[t,u]}) (ht:P.underlying t=some (.slice e)) (hu:P.underlying u=some .string) (hi:P.info? e=some i)
  (hz:i.zero=some (.int .u8 0)) (hsz:i.size=1) (hby:i.bytes=1) (hx:yaf P N x=some ux) (hy:yaf P N y=some uy) {CA:Cal->List AV->St->(AV->St->Prop)->Prop} (hA:aop hs CA (.apps e ux uy) o.dst S K):o.wp P a G.w next Q:=by
 have ry:=yaM h hy
 simp only[aop] at hA
 split at hA
 ·rename_i l e1
  rw[e1] at ry
  obtain ⟨s,q0,q1⟩:=ry.st_inv
  obtain ⟨hl,hA⟩:=hA
  obtain ⟨hApp,hbnd⟩:=ypp hA
  have hsl:s.size=l.length:=by rw[<-q1];simp
  have ht1:Told G (encB l) (strCells s):=by rw[<-q1];exact ymF s
  refine yoU h hs (by omega) (yaM h hx) ht1 (by rw[strCells_length,hsl,Nat.mul_one]) hApp ?_ hbnd hn
  intro ao n cap xs hv hn9 hown
  obtain ⟨ao',cap',w',r1,r2,r3,r4,r5⟩:=yi5 (P:=P) (ty:=o.type) ht hu hi hz hsz hby hown s (by unfold maxLen;omega) (by omega) (Nat.zero_le _)
  rw[hsl] at r1 r2 r5
  exact ⟨ao',cap',w',yfd ho hv q0 r1,r2,r3,r4,r5⟩
 ·exact hA.elim
theorem ytb (h:Rel B N S a G) (hn:Nxt B N a o K next) {src dst e:TypeId} {x:Operand} {ux:AOpd} (ho:o.op= .convert src dst x) (hs':P.underlying src=some (.slice e)) (he:P.underlying e=some (.int .u8)) (hd:P.underlying dst=some .string) (hx:yaf P N x=some ux)
  {CA:Cal->List AV->St->(AV->St->Prop)->Prop} (hA:aop hs CA (.b2s ux) o.dst S K):o.wp P a G.w next Q:=by
 have rx:=yaM h hx
 simp only[aop] at hA
 split at hA
 ·rename_i z n xs e1;rw[e1] at rx
  obtain ⟨hl,hA⟩:=hA
  obtain ⟨l,hb,hK⟩:=yb7 hA
  rcases rx.sl_inv with ⟨q,hn0,hx0⟩|⟨_,hn0,hx0,ad,cap,q0⟩|⟨_,b,off,cap,f,q0,q1,q2,q3,q4,q5,q6,q7⟩
  rotate_left
  ·subst hn0;subst hx0
   simp only[yc1,Option.some.injEq] at hb;subst hb
   refine ycw (v:= .string ByteArray.empty) (w':=G.w) ?_ (hn (.st []) _ S G hK h (.st _ _ rfl))
   have:(convert src dst (.slice (some ad) 0 cap)).run P G.w= .ok (.string ByteArray.empty) G.w:=by
    rw[run_convert_bytes_string G.w src dst e _ 0 cap hs' he hd,run_bytesToString G.w ad 0 cap [] (by simp[loadCells];rfl)]
    rfl
   simp only[execOp,ho,q0,Sem.run_bind,this,Result.andThen_ok,Sem.run_pure]
  rotate_left
  ·subst hn0;subst hx0
   simp only[yc1,Option.some.injEq] at hb;subst hb
   refine ycw (v:= .string ByteArray.empty) (w':=G.w) ?_ (hn (.st []) _ S G hK h (.st _ _ rfl))
   have:=run_convert_bytes_nil (P:=P) G.w src e hs' he 0 0 dst hd
   simp only[execOp,ho,q,Sem.run_bind,this,Result.andThen_ok,Sem.run_pure]
  obtain ⟨v,hr,hv⟩:=ys5 h ho hs' he hd q0 (fun j u hu=>⟨f j,q2 j u hu,q3 j u hu,q4 j u hu⟩) hl hb
  exact ycw hr (hn _ v S G hK h hv)
 ·rename_i k n e1;rw[e1] at rx
  obtain ⟨bk,hm,hz,hl,hA⟩:=yb7 hA
  obtain ⟨l,hb,hK⟩:=yb7 hA
  obtain ⟨g,cap,hk,q0⟩:=rx.gs_inv h.toMRel (by simp[yav,hm])
  obtain ⟨r,hr,hbk⟩:=h.toMRel.κcell hm hz
  rw[hk] at hr;cases hr
  obtain ⟨v,hr,hv⟩:=ys5 h ho hs' he hd q0 (yny hbk) hl hb
  exact ycw hr (hn _ v S G hK h hv)
 ·exact hA.elim
theorem ytl (h:Rel B N S a G) (hn:Nxt B N a o K next) {t e:TypeId} {i:TypeInfo} {z:List AV} {l c:Operand} {ul uc:AOpd} (ho:o.op= .makeSlice t l c) (ht:P.underlying t=some (.slice e)) (hi:P.info? e=some i) (hz:ycX P e=some z) (hl:yaf P N l=some ul) (hc:yaf P N c=some uc)
  {CA:Cal->List AV->St->(AV->St->Prop)->Prop} (hA:aop hs CA (.mks e i.size i.bytes z ul uc) o.dst S K):o.wp P a G.w next Q:=by
 simp only[aop] at hA
 split at hA
 ·rename_i k1 n k2 m e1 e2
  obtain ⟨h1,h2,h3,h4,h5,h6,h7,h8⟩:=hA
  subst h1
  obtain ⟨n',rfl⟩:=Int.eq_ofNat_of_zero_le h2
  simp only[Int.toNat_natCast] at h5 h7 h8
  exact yth h hs ho ht hi hz hl hc rfl e1 e2 h4 h3 h5 (by unfold maxLen;omega) h7 h8 hn
 ·exact hA.elim
theorem yty (h:Rel B N S a G) (hn:Nxt B N a o K next) {x y:Operand} {t u e:TypeId} {ku:IntKind} {i:TypeInfo} {z:List AV} {ux uy:AOpd} (ho:o.op= .call {callee:= .builtin .append,args:= #[x,y],argTypes:= #[t,u]}) (ht:P.underlying t=some (.slice e)) (hu:P.underlying u=some (.int ku)) (hi:P.info? e=some i)
  (hz:ycX P e=some z) (hx:yaf P N x=some ux) (hy:yaf P N y=some uy) {CA:Cal->List AV->St->(AV->St->Prop)->Prop} (hA:aop hs CA (.apz e i.size i.bytes z ux uy) o.dst S K):o.wp P a G.w next Q:=by
 have _:=(inferInstance:GB P B)
 simp only[aop] at hA
 split at hA
 ·rename_i zn zx n e1 e2
  obtain ⟨h0,h3,h4,h5,h6,h7,h8⟩:=hA
  obtain ⟨ie,zv,hie,hzv,hc⟩:=yc5 (G:=G) hz
  rw[hi] at hie;cases hie
  have r1:=yaM h hx;rw[e1] at r1
  have r2:=yaM h hy;rw[e2] at r2
  obtain ⟨q0,_,_⟩:=r1.nsl_inv
  have q1:=r2.it_inv
  obtain ⟨m,rfl⟩:=Int.eq_ofNat_of_zero_le (Int.le_of_lt h0)
  simp only[Int.toNat_natCast] at h5 h7 h8
  have hm0:0<m:=by omega
  have hrun:=run_append_nil_zeros (P:=P) (ty:=o.type) G.w t u e i zv .i64 ku ht hu hi hzv m hm0 h4 (by omega) (by rw[Nat.mul_comm];omega)
  have hc0:=yeA hc m (by omega)
  have hzs:zv.cells.size=i.size:=by rw[hc.len,h3]
  generalize hcp:grownCap G.w m 0 e=cp at hrun
  have c1:m<=cp:=hcp▸grownCap_ge _ _ _ _
  have c2:cp<=maxLen:=hcp▸grownCap_le_maxLen _ _ _ _ (by unfold maxLen;omega)
  obtain ⟨k1,k2,k3,k4⟩:=yjm hs S (site o.dst) ⟨e,i.size,yaG z m⟩
  have zlen:∀k,(Builtin.zeroCells zv.cells k).size=k*i.size:=fun k=>by unfold Builtin.zeroCells;rw[Array.size_map,Array.size_range,hzs]
  have zeq:(Array.range (m*z.length)).map (fun j=>zv.cells[j % zv.cells.size]!)=Builtin.zeroCells zv.cells m:=by unfold Builtin.zeroCells;rw[hzs,h3]
  have hc1:yhN G (yaG z m) (Builtin.zeroCells zv.cells m):=by rw[<-zeq];exact hc0
  have hat:∀j,j<m*i.size->(Builtin.zeroCells zv.cells m++Builtin.zeroCells zv.cells (cp-m))[j]? =(Builtin.zeroCells zv.cells m)[j]? :=fun j hj=>Array.getElem?_append_left (by rw[zlen];exact hj)
  have hll:(yaG z m).length=m*i.size:=by rw[yd6,h3]
  obtain ⟨G',g1,g2,g3,g4⟩:=h.toMRel.add (fun _=>False) (fun _ f=>f.elim) (S':=S.new hs (site o.dst) ⟨e,i.size,yaG z m⟩) (b:=⟨e,i.size,yaG z m⟩) (g:=G.w.heap.size) (cap:=cp)
   (w1:=G.w.drew.alloc (.cells (Builtin.zeroCells zv.cells m++Builtin.zeroCells zv.cells (cp-m)) e)) (cur:=Builtin.zeroCells zv.cells m++Builtin.zeroCells zv.cells (cp-m)) h7 k1 k2 k3 k4
   (fun hI=>absurd (h.lt _ hI) (Nat.lt_irrefl _)) (h.freeN (Nat.le_refl _)) (.inl h.size) rfl rfl rfl (by show G.w.heap.size<=(G.w.heap.push _).size;rw[Array.size_push];omega) (fun q hq _ _=>by show (G.w.heap.push _)[q]? =_;rw[Array.getElem?_push,if_neg (by omega)]) (fun q hq ds=>by rcases hq with rfl|hq;simp;exact hq.elim)
   (by show (G.w.heap.push _)[G.w.heap.size]? =_;rw[Array.getElem?_push,if_pos rfl]) (by rw[Array.size_append,zlen,zlen,<-Nat.add_mul];congr 1;omega) c2 h4 (by show (yaG z m).length<=_;rw[Array.size_append,zlen,zlen,hll];exact Nat.le_add_right _ _)
   (fun j v q hj hq=>by
     have hjl:=(List.getElem?_eq_some_iff.1 hj).1
     simp only[hll] at hjl
     rw[hat j hjl] at hq;exact hc1.vr j v q hj hq)
   (fun j q hj hq=>by
     simp only[hll] at hj
     rw[hat j hj] at hq;exact hc1.one j q hq)
  refine ycw (yfd ho q0 q1 hrun) ?_
  have:=hn _ _ _ G' h8 (h.lift g3 g4 (ykq _ _ _ _)) (.gs _ _ _ _ g2)
  rw[g1] at this;exact this
 ·exact hA.elim
theorem s_ld (h:Rel B N S a G) (hn:Nxt B N a o K next) {t:TypeId} {x:Operand} {ux:AOpd} {g:Bool} {sz:Nat} (ho:o.op= .load t x) (hx:yaf P N x=some ux) (hsz:ye7 P t=some (g,sz)) {CA:Cal→List AV→St→(AV→St→Prop)→Prop} (hA:aop hs CA (.ld g sz ux) o.dst S K):o.wp P a G.w next Q:=by
 obtain ⟨⟨us,off⟩,ht,hA⟩:=yb7 hA
 obtain ⟨u,hu,hK⟩:=yb7 hA
 obtain ⟨v,hr,hv⟩:=m_ld h ho hx hsz ht hu
 exact ycw hr (hn _ v S G hK h hv)
theorem ytd (h:Rel B N S a G) (hn:Nxt B N a o K next) {t:TypeId} {x y:Operand} {ux uy:AOpd} {sz:Nat} (ho:o.op= .store t x y) (hx:yaf P N x=some ux) (hy:yaf P N y=some uy) (hsz:szOf P t=some sz) {CA:Cal→List AV→St→(AV→St→Prop)→Prop} (hA:aop hs CA (.sto sz ux uy) o.dst S K):o.wp P a G.w next Q:=by
 simp only[aop] at hA
 split at hA
 ·rename_i k off e1
  obtain ⟨b,hm,h0,h1,h2,h3,h4,h5⟩:=yb7 hA
  exact ytu h ho hx hy hsz e1 hm h0 h1 h2 h3 h4 h5 hn
 ·exact hA.elim
theorem ysW (h:Rel B N S a G) (hn:Nxt B N a o K next) {f:FuncId} {args:Array Operand} {ats:Array TypeId} {us:List AOpd} (ho:o.op= .call {callee:= .value (.func f),args:=args,argTypes:=ats}) (hl:trL P N args.toList=some us)
  (hA:aop hs (ycO P) (.call f us) o.dst S K):o.wp P a G.w next Q:=by
 refine ykf h hn (f:=f) (vs:=args.map a.eval) ?_ (by simpa using ykY h hl) hA
 simp[execOp,ho,resolve,Deferred.ofValue,Act.eval,invoke]
theorem ylx (h:Rel B N S a G) (hn:Nxt B N a o K next) {x:Operand} {args:Array Operand} {ats:Array TypeId} {ux:AOpd} {us:List AOpd} (ho:o.op= .call {callee:= .value x,args:=args,argTypes:=ats}) (hx:yaf P N x=some ux) (hl:trL P N args.toList=some us)
  (hny:∀q,ev S.fr ux≠ .yld q) (hA:aop hs (ycO P) (.calv ux us) o.dst S K):o.wp P a G.w next Q:=by
 have rx:=yaM h hx
 simp only[aop] at hA
 split at hA
 ·rename_i f p c e1
  rw[e1] at rx
  obtain ⟨vp,vc,q0,q1,q2,q3,q4⟩:=rx.fn_inv
  refine ykf h hn (f:=f) (vs:=vp++args.map a.eval++vc) ?_ ?_ hA
  ·simp[execOp,ho,resolve,Deferred.ofValue,q0,invoke]
  ·have r1:VRs G p vp.toList:=⟨by simpa using q1,fun j u x a b=>q3 j u x a (by simpa using b)⟩
   have r2:VRs G c vc.toList:=⟨by simpa using q2,fun j u x a b=>q4 j u x a (by simpa using b)⟩
   simpa using (r1.append (ykY h hl)).append r2
 ·rename_i q e1;exact absurd e1 (hny q)
 ·exact hA.elim
theorem ytp (h:Rel B N S a G) (hn:Nxt B N a o K next) {t e:TypeId} {sz:Nat} {x:Operand} {lo hi:Option Operand} {ux:AOpd} {ulo uhi:Option AOpd} (ho:o.op= .slice t x lo hi none) (ht:P.underlying t=some (.slice e)) (hsz:szOf P e=some sz) (hx:yaf P N x=some ux) (hlo:trO P N lo=some ulo) (hhi:trO P N hi=some uhi)
  {CA:Cal->List AV->St->(AV->St->Prop)->Prop} (hA:aop hs CA (.sll sz ux ulo uhi) o.dst S K):o.wp P a G.w next Q:=by
 have rx:=yaM h hx
 simp only[aop] at hA
 split at hA
 ·rename_i k n e1
  rw[e1] at rx
  unfold cutR at hA
  split at hA
  ·rename_i q e3 e2
   obtain ⟨b,hm,h1,h2,h3,h4,h5,h6,hK⟩:=yb7 hA
   obtain ⟨g,cap,hk,q0⟩:=rx.gs_inv h.toMRel (by simp[yav,hm])
   obtain ⟨r,hr,hb⟩:=h.toMRel.κcell hm (by omega)
   rw[hk] at hr;cases hr
   obtain ⟨cur,c1,c2,c3,c4,c5,c6,c7⟩:=hb
   simp only at c1 c2 c3 c5
   have hnc:n≤cap:=by
    have:n*sz<=cap*sz:=by rw[<-h1,<-c2];rw[h1];exact Nat.le_trans h5 c5
    exact Nat.le_of_mul_le_mul_right this h2
   have b1:=ycY h hlo e3
   have b2:=ycY h hhi e2
   have hsb:=yig (P:=P) true n cap hnc (lo:=lo.map a.eval) (hi:=hi.map a.eval) (by rcases b1 with ⟨e,f⟩|b1;exact .inl ⟨by rw[e];rfl,f⟩;exact .inr b1) (by rcases b2 with ⟨e,f⟩|b2;exact .inl ⟨by rw[e];rfl,f⟩;exact .inr b2) (Int.le_refl 0) h3 h4 G.w
   have hrun:(execOp a.eval o).run P G.w= .ok (.value (.slice (some ⟨g,0,none⟩) q.toNat cap)) G.w:=by
    by_cases hcp:cap=0
    ·subst hcp
     simp only[execOp,ho,q0,Instr.sliceAt,Instr.slice]
     simp[run_underlying ht,hsb,ybV hsz]
    ·simp only[execOp,ho,q0,Instr.sliceAt,Instr.slice]
     simp[run_underlying ht,hsb,ybV hsz,hcp,yd2]
   obtain ⟨G',g1,g2,g3⟩:=h.toMRel.setG (S':=S.setM k {b with cells:=b.cells.take (q.toNat*sz)}) (b':={b with cells:=b.cells.take (q.toNat*sz)}) (w1:=G.w) h6 (fun q=>by have q:=yef q.1;simp only at q;omega) hk hm rfl rfl rfl rfl rfl (fun _ _=>rfl) (fun G' hle hw=>by
    refine (yac.cell (by simp only;omega)).2 ⟨cur,by rw[hw];exact c1,c2,c3,c4,?_,?_,?_⟩
    ·simp only;rw[List.length_take];omega
    ·intro j u x p r
     simp only at p
     rw[List.getElem?_take] at p
     split at p
     ·exact (c6 j u x p r).le hle
     ·cases p
    ·intro j x p r
     refine c7 j x ?_ r
     simp only at p
     rw[List.length_take] at p;omega)
   have hκ:G'.κ k=some (g,cap):=by
    rcases g3.κ k _ hk with hq|hq
    ·exact hq
    ·have:=((g2.dead k).1 hq).1
     simp[St.setM,updK] at this
   refine ycw hrun ?_
   have:=hn _ _ _ G' hK (h.lift g2 g3 rfl) (.gs k q.toNat g cap hκ)
   rw[g1] at this;exact this
  ·exact hA.elim
 ·exact of_y h hn (u:= .sll sz ux ulo uhi) hA fun v hv=>yts h ho ht hsz hx hlo hhi hv
end
end Go.AV
end
noncomputable section
namespace Go.AV
open Go.RowKit Go.RG Go.Lib
section
variable {P:Program} {B:Base} [GB P B] {N:Nat} {S:St} {a:Act} {G:Gh} {hs:Nat->Bool} {o:Oper} {K:AV->St->Prop} {next:Act->World->Prop} {Q:Exit->Act->World->Prop}
theorem ysd (h:Rel B N S a G) {u:AOp} (ht:trOp P N o=some u) (hny:∀x args,u= .calv x args→∀q,ev S.fr x≠ .yld q) (hA:aop hs (ycO P) u o.dst S K) (hn:Nxt B N a o K next):o.wp P a G.w next Q:=by
 cases ho:o.op with
 | move x=>
   simp only[trOp,ho] at ht
   obtain ⟨ux,hx,rfl⟩:=Option.map_eq_some_iff.1 ht
   exact of_y h hn (u:= .mv ux) hA fun v hv=>by simp only[pval,Option.some.injEq] at hv;subst hv;exact y_mv h (.inl ho) hx
 | assign x=>
   simp only[trOp,ho] at ht
   obtain ⟨ux,hx,rfl⟩:=Option.map_eq_some_iff.1 ht
   exact of_y h hn (u:= .mv ux) hA fun v hv=>by simp only[pval,Option.some.injEq] at hv;subst hv;exact y_mv h (.inr ho) hx
 | pick c x y=>
   simp only[trOp,ho] at ht
   split at ht<;>first|(cases ht;done)|skip
   rename_i uc ux uy h1 h2 h3
   cases ht
   exact of_y h hn (u:= .pick uc ux uy) hA fun v hv=>ysl h ho h1 h2 h3 hv
 | alloc e=>
   simp only[trOp,ho] at ht
   split at ht<;>first|(cases ht;done)|skip
   ·rename_i sz z h1 h2
    cases ht
    exact ymW h hn ho h1 h2 (u:= .agg z) rfl hA
   ·rename_i z h1 h2
    cases ht
    obtain ⟨i,v,hi,hzv,hc⟩:=yc5 (G:=G) h2
    have hz1:z.cells= [z]:=by
     unfold ycX at h2
     rw[hi] at h2
     simp only[Option.bind_some,hzv] at h2
     cases hvl:v.cells.toList with
     |nil=>rw[hvl] at h2;simp[cstL] at h2
     | cons v0 vr=>
       rw[hvl] at h2
       simp only[cstL] at h2
       split at h2
       ·rename_i u us e1 e2
        simp only[Option.some.injEq,List.cons.injEq] at h2
        obtain ⟨rfl,rfl⟩:=h2
        unfold cst1 at e1
        split at e1<;>simp only[Option.some.injEq,reduceCtorEq] at e1<;>subst e1<;>rfl
       ·cases h2
    exact ymW h hn ho h1 h2 (u:=z) hz1 hA
 | box e x=>
   simp only[trOp,ho] at ht
   split at ht<;>first|(cases ht;done)|skip
   rename_i sz ux h1 h2
   cases ht
   exact ytB h hn ho h2 hA
 | build t parts=>
   simp only[trOp,ho] at ht
   split at ht<;>first|(cases ht;done)|skip
   ·rename_i fs z h1 h2
    split at ht
    ·rename_i pl h3
     obtain ⟨up,h4,rfl⟩:=Option.map_eq_some_iff.1 ht
     exact of_y h hn (u:= .bld z up) hA fun v hv=>ys4 h ho h2 (.inl ⟨fs,pl,h1,h3,h4⟩) hv
    ·cases ht
   ·rename_i n elem z h1 h2
    split at ht
    ·rename_i sz h3
     obtain ⟨up,h4,rfl⟩:=Option.map_eq_some_iff.1 ht
     exact of_y h hn (u:= .bld z up) hA fun v hv=>ys4 h ho h2 (.inr ⟨n,elem,sz,h1,h3,h4⟩) hv
    ·cases ht
 | buildSlice t len parts=>
   simp only[trOp,ho] at ht
   split at ht<;>first|(cases ht;done)|skip
   rename_i e h1
   split at ht<;>first|(cases ht;done)|skip
   rename_i sz z h2 h3
   obtain ⟨up,h4,rfl⟩:=Option.map_eq_some_iff.1 ht
   obtain ⟨q1,q2,q3,hA⟩:=hA
   obtain ⟨cs,hf,hno,hK⟩:=yb7 hA
   exact ytn h hs ho h1 h2 h3 h4 hf q2 q1 q3 hno hK hn
 | load t x=>
   simp only[trOp,ho] at ht
   split at ht<;>first|(cases ht;done)|skip
   rename_i g sz ux h1 h2
   split at ht
   ·cases ht;exact s_ld h hn ho h2 h1 hA
   ·cases ht
 | store t x y=>
   simp only[trOp,ho] at ht
   split at ht<;>first|(cases ht;done)|skip
   rename_i sz ux uy h1 h2 h3
   cases ht
   exact ytd h hn ho h2 h3 h1 hA
 | nilCheck x=>
   simp only[trOp,ho] at ht
   obtain ⟨ux,hx,rfl⟩:=Option.map_eq_some_iff.1 ht
   exact of_y h hn (u:= .nck ux) hA fun v hv=>yta h ho hx hv
 | binOp op t x y yt=>
   simp only[trOp,ho] at ht
   split at ht<;>first|(cases ht;done)|skip
   rename_i ux uy h1 h2
   split at ht
   ·rename_i hop
    have hop':op= .eql∨op= .neq:=by simpa using hop
    split at ht
    ·rename_i k hk
     cases ht
     exact of_y h hn (u:= .eq (op== .neq) k ux uy) hA fun v hv=>y_eq h ho h1 h2 hop' hk hv
    ·obtain ⟨ks,hk,rfl⟩:=Option.map_eq_some_iff.1 ht
     exact of_y h hn (u:= .eqs (op== .neq) ks ux uy) hA fun v hv=>ytv h ho h1 h2 hop' hk hv
   ·rename_i hop
    cases ht
    exact of_y h hn (u:= .bin op ux uy) hA fun v hv=>ys9 h ho h1 h2 (by simpa using hop) hv
 | unOp op t x=>
   simp only[trOp,ho] at ht
   obtain ⟨ux,hx,rfl⟩:=Option.map_eq_some_iff.1 ht
   exact of_y h hn (u:= .un op ux) hA fun v hv=>y_un h ho hx hv
 | convert src dst x=>
   simp only[trOp,ho] at ht
   split at ht<;>first|(cases ht;done)|skip
   ·rename_i ks k ux h1 h2 h3
    cases ht
    exact of_y h hn (u:= .cvi k ux) hA fun v hv=>yte h ho h1 h2 h3 hv
   ·rename_i ux h1 h2 h3
    cases ht
    refine of_y h hn (u:= .cvs ux) hA fun v hv=> ?_
    simp only[pval] at hv
    split at hv
    ·rename_i l e;cases hv;exact ytt h ho h1 h2 h3 e
    ·cases hv
   ·rename_i e ux h1 h2 h3
    split at ht
    ·cases ht;exact hA.elim
    ·cases ht
   ·rename_i e ux h1 h2 h3
    split at ht
    ·rename_i he
     cases ht
     exact ytb h hn ho h1 he h2 h3 hA
    ·cases ht
 | makeSlice t l c=>
   simp only[trOp,ho] at ht
   split at ht<;>first|(cases ht;done)|skip
   rename_i e h1
   split at ht<;>first|(cases ht;done)|skip
   rename_i i z ul uc h2 h3 h4 h5
   cases ht
   exact ytl h hn ho h1 h2 h3 h4 h5 hA
 | slice t x lo hi mx=>
   cases mx with
   |some _=>simp[trOp,ho] at ht
   | none=>
     simp only[trOp,ho] at ht
     split at ht<;>first|(cases ht;done)|skip
     ·rename_i ux ulo uhi h1 h2 h3 h4
      cases ht
      exact of_y h hn (u:= .sls ux ulo uhi) hA fun v hv=>ytG h ho h1 h2 h3 h4 hv
     ·rename_i e ux ulo uhi h1 h2 h3 h4
      obtain ⟨sz,h5,rfl⟩:=Option.map_eq_some_iff.1 ht
      exact ytp h hn ho h1 h5 h2 h3 h4 hA
 | fieldAddr s x f=>
   simp only[trOp,ho] at ht
   split at ht<;>first|(cases ht;done)|skip
   rename_i fs ux h1 h2
   split at ht<;>first|(cases ht;done)|skip
   rename_i fd h3
   split at ht<;>first|(cases ht;done)|skip
   rename_i sz h4
   cases ht
   exact of_y h hn (u:= .fad fd.offset ux) hA fun v hv=>ytE h ho h1 h3 h4 h2 hv
 | field t x f=>
   simp only[trOp,ho] at ht
   split at ht<;>first|(cases ht;done)|skip
   rename_i fs ux h1 h2
   split at ht<;>first|(cases ht;done)|skip
   rename_i fd h3
   obtain ⟨⟨g,sz⟩,h4,rfl⟩:=Option.map_eq_some_iff.1 ht
   exact of_y h hn (u:= .fld g fd.offset sz ux) hA fun v hv=>ytr h ho h1 h3 h4 h2 hv
 | indexAddr t x i=>
   simp only[trOp,ho] at ht
   split at ht<;>first|(cases ht;done)|skip
   ·rename_i e ux ui h1 h2 h3
    obtain ⟨sz,h4,rfl⟩:=Option.map_eq_some_iff.1 ht
    exact of_y h hn (u:= .iad sz ux ui) hA fun v hv=>ytk h ho h1 h4 h2 h3 hv
   ·rename_i len e ux ui h1 h2 h3
    obtain ⟨sz,h4,rfl⟩:=Option.map_eq_some_iff.1 ht
    exact of_y h hn (u:= .iada len sz ux ui) hA fun v hv=>yrW h ho h1 h4 h2 h3 hv
 | index t x i=>
   simp only[trOp,ho] at ht
   split at ht<;>first|(cases ht;done)|skip
   ·rename_i ux ui h1 h2 h3
    cases ht
    exact of_y h hn (u:= .idxs ux ui) hA fun v hv=>yrB h ho h1 h2 h3 hv
   ·rename_i len e ux ui h1 h2 h3
    obtain ⟨⟨g,sz⟩,h4,rfl⟩:=Option.map_eq_some_iff.1 ht
    exact of_y h hn (u:= .idxa g len sz ux ui) hA fun v hv=>yrD h ho h1 h4 h2 h3 hv
 | extract x i=>
   simp only[trOp,ho] at ht
   obtain ⟨ux,hx,rfl⟩:=Option.map_eq_some_iff.1 ht
   exact of_y h hn (u:= .ext ux i) hA fun v hv=>ytg h ho hx hv
 | makeFunc fn first cap=>
   simp only[trOp,ho] at ht
   split at ht<;>first|(cases ht;done)|skip
   rename_i uf uc h1 h2
   cases ht
   exact of_y h hn (u:= .mkf fn uf uc) hA fun v hv=>by simp only[pval,Option.some.injEq] at hv;subst hv;exact ytx h ho h1 h2
 | call c=>
   obtain ⟨cal,args,ats⟩:=c
   simp only[trOp,ho] at ht
   cases cal with
   |invoke r m=>cases ht
   | value f=>
     cases f with
     | func f=>
       simp only at ht
       obtain ⟨us,hl,rfl⟩:=Option.map_eq_some_iff.1 ht
       exact ysW h hn ho hl hA
     | tmp t=>
       simp only at ht
       split at ht<;>first|(cases ht;done)|skip
       rename_i ux us h1 h2
       cases ht
       exact ylx h hn ho h1 h2 (hny _ _ rfl) hA
     | const v=>
       simp only at ht
       split at ht<;>first|(cases ht;done)|skip
       rename_i ux us h1 h2
       cases ht
       exact ylx h hn ho h1 h2 (hny _ _ rfl) hA
     | global g=>
       simp only at ht
       split at ht<;>first|(cases ht;done)|skip
       rename_i ux us h1 h2
       cases ht
       exact ylx h hn ho h1 h2 (hny _ _ rfl) hA
   | builtin b=>
     cases b<;>simp only at ht<;>first|(cases ht;done)|skip
     ·
      split at ht<;>first|(cases ht;done)|skip
      rename_i s x t u hargs hats
      have ea:args= #[s,x]:=by apply Array.ext';simpa using hargs
      have et:ats= #[t,u]:=by apply Array.ext';simpa using hats
      subst ea;subst et
      split at ht<;>first|(cases ht;done)|skip
      ·rename_i e e' h1 h2
       split at ht<;>first|(cases ht;done)|skip
       rename_i i us ux h3 h4 h5
       split at ht
       ·rename_i hz
        cases ht
        obtain ⟨z,hz1,hz2⟩:=Option.map_eq_some_iff.1 hz
        exact yto h hn ho h1 h2 h3 ⟨z,hz1,hz2⟩ h4 h5 hA
       ·cases ht
      ·rename_i e h1 h2
       split at ht<;>first|(cases ht;done)|skip
       rename_i i us ux h3 h4 h5
       split at ht<;>first|(cases ht;done)|skip
       rename_i hz
       split at ht
       ·rename_i hc
        cases ht
        exact yrV h hn ho h1 h2 h3 hz hc.1 hc.2 h4 h5 hA
       ·cases ht
      ·rename_i e ku h1 h2
       split at ht<;>first|(cases ht;done)|skip
       rename_i i z us ux h3 h4 h5 h6
       cases ht
       exact yty h hn ho h1 h2 h3 h4 h5 h6 hA
     ·
      split at ht<;>first|(cases ht;done)|skip
      rename_i x t hargs hat
      have ea:args= #[x]:=by apply Array.ext';simpa using hargs
      subst ea
      split at ht<;>first|(cases ht;done)|skip
      rename_i e h1
      obtain ⟨ux,hx,rfl⟩:=Option.map_eq_some_iff.1 ht
      exact of_y h hn (u:= .cpn ux) hA fun v hv=>ytM h ho hat h1 hx hv
     ·
      split at ht<;>first|(cases ht;done)|skip
      rename_i x t hargs hat
      have ea:args= #[x]:=by apply Array.ext';simpa using hargs
      subst ea
      split at ht<;>first|(cases ht;done)|skip
      ·rename_i h1
       obtain ⟨ux,hx,rfl⟩:=Option.map_eq_some_iff.1 ht
       exact of_y h hn (u:= .lens ux) hA fun v hv=>yrE h ho hat h1 hx hv
      ·rename_i e h1
       obtain ⟨ux,hx,rfl⟩:=Option.map_eq_some_iff.1 ht
       exact of_y h hn (u:= .len ux) hA fun v hv=>ytF h ho hat h1 hx hv
     ·
      obtain ⟨us,hl,rfl⟩:=Option.map_eq_some_iff.1 ht
      exact of_y h hn (u:= .mnx true us) hA fun v hv=>ysB h (mx:=true) ho hl hv
     ·obtain ⟨us,hl,rfl⟩:=Option.map_eq_some_iff.1 ht
      exact of_y h hn (u:= .mnx false us) hA fun v hv=>ysB h (mx:=false) ho hl hv
 |panic x=>simp only[trOp,ho] at ht;cases ht;exact (show False from hA).elim
 |makeInterface t x=>simp only[trOp,ho] at ht;cases ht;exact (show False from hA).elim
 |_=>simp[trOp,ho] at ht
def FR (ro:Option Nat):Fence:={Fence.wide with round:=ro}
theorem ygW {ro:Option Nat} {n:Nat} {f:FuncId} {args:Array Value} {w:World} {R:Ending->World->Prop} (h:Calls P f args w R):CallsIn (FR ro) n P f args w R:=(callsIn_wide (n:=n)).2 h
theorem yfo {ro:Option Nat} {w:World} (h:o.wp P a w next Q) (hd:∀c,o.op≠ .defer c):o.wpIn (FR ro) 0 P a w next Q:=by
 refine ⟨fun _ _=>trivial,?_⟩
 rw[Oper.semAt_eq _ _ _ hd]
 unfold Oper.wp at h
 generalize (execOp a.eval o).run P w=r at*
 have hdep:(FR ro).depth.isSome=true->1<=0:=fun h=>by cases h
 cases r with
 | ok x w'=>
   cases x<;>simp only[Oper.upon] at h<;>simp only[Oper.uponIn]<;>first|exact h|skip
   ·exact ⟨hdep,ygW h⟩
   ·refine ⟨hdep,fun c cs _=> ?_⟩
    obtain ⟨v,w'',h1,h2⟩:=h c cs
    exact ⟨v,w'',h1,stepsIn_wide.2 h2⟩
 |halt x w'=>cases x<;>simp only[Oper.upon] at h<;>simp only[Oper.uponIn]<;>exact h
theorem yik {u:AOpd} {us:List AOpd} (ht:trOp P N o=some (.calv u us)):∃v args ats,o.op= .call {callee:= .value v,args:=args,argTypes:=ats}∧yaf P N v=some u∧trL P N args.toList=some us:=by
 cases ho:o.op<;>simp only[trOp,ho] at ht<;>(try (repeat' (first|(cases ht;done)|(obtain ⟨_,_,e⟩:=Option.map_eq_some_iff.1 ht;cases e;done)|(split at ht))))<;>try (cases ht;done)
 ·exact absurd ‹Op.slice _ _ _ _ _=Op.call _› (by intro h;cases h)
 ·rename_i c _ v _ hc _ _ _ _ h1 h2
  cases ht
  obtain ⟨cal,args,ats⟩:=c
  simp only at hc;subst hc
  exact ⟨v,args,ats,rfl,h1,h2⟩
theorem yp9 {g:Bool} {k:Nat} {ux uy:AOpd} (ht:trOp P N o=some (.eq g k ux uy)):∃op t x y yt,o.op= .binOp op t x y yt∧yaf P N x=some ux∧yaf P N y=some uy∧(op= .eql∨op= .neq)∧ycQ P t=some k∧g=(op== .neq):=by
 cases ho:o.op<;>simp only[trOp,ho] at ht<;>(try (repeat' (first|(cases ht;done)|(obtain ⟨_,_,e⟩:=Option.map_eq_some_iff.1 ht;cases e;done)|(split at ht))))<;>try (cases ht;done)
 all_goals first
  |exact absurd ‹Op.slice _ _ _ _ _=Op.binOp _ _ _ _ _› (by intro h;cases h)
  | (rename_i op t x y yt _ _ _ _ h1 h2 hop _ _ hk
     cases ht
     exact ⟨op,t,x,y,yt,rfl,h1,h2,by simpa using hop,hk,rfl⟩)
theorem yns (v:AV) (S:St):(pub1 v S).2.hp=S.hp:=by
 cases v with
 | gs k n=>cases k with
   | l d c=>
     simp only[pub1]
     split
     ·split
      ·funext o;simp[St.hp,St.kill,updK]
      ·rfl
     ·rfl
   |h o=>rfl
 |_=>rfl
theorem yl9:∀(l:List AV) (S:St),(pubs l S).2.hp=S.hp
 | [],_=>rfl
 |u::r,S=>by simp only[pubs];rw[yl9 r,yns]
theorem yqj (v:AV) (S:St):(pubV v S).2.hp=S.hp:=by
 by_cases h:v.noL=true
 ·simp only[pubV,if_pos h]
 ·simp only[pubV,if_neg h]
  cases v with
  |agg cs=>exact yl9 _ _
  |_=>exact yns _ _
theorem ynl:∀(l:List AV) (S:St),(pubL l S).2.hp=S.hp
 | [],_=>rfl
 |u::r,S=>by simp only[pubL];rw[ynl r,yqj]
theorem yhM {ro:Option Nat} (h:Rel B N S a G) {u:AOp} (ht:trOp P N o=some u) (hA:aop hs (ycO P) u o.dst S K) (hn:Nxt B N a o K next):o.wpIn (FR ro) 0 P a G.w next Q:=by
 have hnd:∀c,o.op≠ .defer c:=by
  intro c e
  simp[trOp,e] at ht
 by_cases hy:∃x args q,u= .calv x args/\ev S.fr x= .yld q
 ·obtain ⟨x,args,q,rfl,hx⟩:=hy
  simp only[aop,hx] at hA
  obtain ⟨v,vargs,ats,ho,h1,h2⟩:=yik ht
  have rx:=yaM h h1
  rw[hx] at rx
  obtain ⟨b,hb⟩:∃b,S.M (.h q)=some b:=by
   have hs':((pubL (args.map (ev S.fr)) S).2.hp q).isSome=true:=by
    rcases hA with hA|⟨_,_,hA,_⟩|⟨_,_,_,hA,_⟩
    ·exact hA.2.1
    ·cases hA
    ·cases hA
   rw[ynl] at hs'
   exact Option.isSome_iff_exists.1 hs'
  have hnd':¬G.dead (.h q):=fun hd=>by
   have:=((h.toMRel.dead _).1 hd).1
   rw[hb] at this;cases this
  generalize hxv:a.eval v=vv at rx
  cases rx with
  |yldd o v hk h1=>exact absurd hk hnd'
  | yld o l cap hk=>
    have hr:=ylI h (by simpa using ykY h h2:VRs G (args.map (ev S.fr)) (vargs.map a.eval).toList) hA hk
    obtain ⟨fn,tmps,asg,body,hy,hround⟩:=hr
    refine ⟨fun _ _=>trivial,?_⟩
    rw[Oper.semAt_eq _ _ _ hnd]
    have hx':(execOp a.eval o).run P G.w= .ok (.round l fn tmps asg body) G.w:=by
     have hv:∀f,v≠ .func f:=by
      intro f e;subst e
      simp only[yaf,Option.some.injEq] at h1;subst h1
      cases hx
     simp[execOp,ho,resolve,Deferred.ofValue,hxv,invoke,hy]
    rw[hx',Oper.uponIn_round]
    refine ⟨fun h=>(by cases h),?_⟩
    refine RoundIn.mono hround ?_
    rintro e w' ⟨v',av,S',G',rfl,k1,k2,k3,k4⟩
    rw[<-k3]
    exact hn av v' S' G' k1 k2 k4
 ·exact yfo (ysd h ht (fun x args e q hq=>hy ⟨x,args,q,e,hq⟩) hA hn) hnd
theorem Nxt.pub (hn:Nxt B N a o K next):Nxt B N a o (pubK K) next:=fun av v S' G' hK hR hv=>by
 obtain ⟨G2,m1,m2,m3,m4,m5⟩:=yjj hR.toMRel hv
 have:=hn _ _ _ G2 hK (hR.lift m1 m2 m5) m4
 rw[m3] at this;exact this
theorem ynK {ro:Option Nat} (h:Rel B N S a G) {u:AOp} (ht:TrO P N o u) (hA:aop hs (ycO P) u o.dst S K) (hn:Nxt B N a o K next):o.wpIn (FR ro) 0 P a G.w next Q:=by
 obtain ⟨u,b,h0,rfl⟩:=ht
 cases b with
 |false=>exact yhM h h0 hA hn
 | true=>
   cases u
   case app e sz bt x y=>exact yhM h h0 (show aop hs (ycO P) (.app e sz bt x y) o.dst S (pubK K) from hA) hn.pub
   case bsl e sz n z ps=>exact yhM h h0 (show aop hs (ycO P) (.bsl e sz n z ps) o.dst S (pubK K) from hA) hn.pub
   all_goals exact yhM h h0 hA hn
end
end Go.AV
end
noncomputable section
namespace Go.AV
open Go.RowKit Go.RG Go.Lib
structure REff where
 v:AV
 mem:List ((Nat×Nat)×Option Blk)
 bump:List Nat
 H:Option (Hp×Nat)
def REff.ml (e:REff):List (Key×Option Blk):=e.mem.map fun p=>(.l p.1.1 p.1.2,p.2)
def REff.memM (e:REff) (M:Key→Option Blk):Key→Option Blk:=fun k=>match e.H,k with
 |some (H,_), .h o=>H o
 |_,k=>e.ml.foldl (fun M p=>updK M p.1 p.2) M k
def REff.cntF (e:REff) (c:Nat->Nat):Nat->Nat:=cntB e.bump c
def REff.mst (e:REff) (S:St):St:=⟨S.fr,e.memM S.M,e.cntF S.cnt,match e.H with|some (_,n)=>n|none=>S.nx⟩
def REff.app (e:REff) (d:Option Nat) (S:St):St:=(e.mst S).put d e.v
theorem ml_h (e:REff) (o:Nat):∀p∈e.ml,p.1≠ .h o:=by
 intro p hp
 obtain ⟨q,_,rfl⟩:=List.mem_map.1 hp
 intro h;cases h
theorem ymy {e:REff} {p:Key×Option Blk} (hp:p∈e.ml):∃q∈e.mem,p.1= .l q.1.1 q.1.2:=by
 obtain ⟨q,hq,rfl⟩:=List.mem_map.1 hp
 exact ⟨q,hq,rfl⟩
theorem ybU {l:List (Key×Option Blk)} {k:Key} (h:∀p∈l,p.1≠k) (M:Key→Option Blk):l.foldl (fun M p=>updK M p.1 p.2) M k=M k:=by
 induction l generalizing M with
 |nil=>rfl
 | cons p l ih=>
   rw[List.foldl_cons,ih (fun q hq=>h q (List.mem_cons_of_mem _ hq))]
   simp[updK,(h p (by simp)).symm]
theorem ykn {l:List (Key×Option Blk)} {k:Key} (h:∃p∈l,p.1=k) (M M':Key→Option Blk):l.foldl (fun M p=>updK M p.1 p.2) M k=l.foldl (fun M p=>updK M p.1 p.2) M' k:=by
 induction l generalizing M M' with
 |nil=>obtain ⟨p,hp,_⟩:=h;cases hp
 | cons p l ih=>
   rw[List.foldl_cons,List.foldl_cons]
   by_cases hk:∃q∈l,q.1=k
   ·exact ih hk _ _
   ·have hn:∀q∈l,q.1≠k:=fun q hq e=>hk ⟨q,hq,e⟩
    rw[ybU hn,ybU hn]
    obtain ⟨q,hq,e⟩:=h
    rcases List.mem_cons.1 hq with rfl|hq
    ·simp[updK,e]
    ·exact absurd e (hn q hq)
theorem ykh {l:List (Key×Option Blk)} {k:Key} {M M':Key→Option Blk} (h:M k=M' k):l.foldl (fun M p=>updK M p.1 p.2) M k=l.foldl (fun M p=>updK M p.1 p.2) M' k:=by
 by_cases hk:∃p∈l,p.1=k
 ·exact ykn hk _ _
 ·have hn:∀q∈l,q.1≠k:=fun q hq e=>hk ⟨q,hq,e⟩
  rw[ybU hn,ybU hn,h]
theorem ydY (c:Nat->Nat):cntB [] c=c:=by funext s;simp[cntB]
theorem yg6 (s:Nat) (c:Nat→Nat):cntB [s] c=upd c s (c s+1):=by
 funext t
 simp only[cntB,upd,List.mem_singleton]
 split
 ·rename_i e;rw[e]
 ·rfl
def yqf (e:REff) (d:Option Nat) (f:REff) (c:Option Nat):Prop:=(∀t,d=some t->c≠some t)/\(∀p∈e.mem,∀q∈f.mem,p.1≠q.1)/\(∀s∈e.bump,s∉f.bump)/\(e.H=none∨f.H=none)
theorem St.ext4 {S T:St} (h1:∀t,S.fr t=T.fr t) (h2:∀k,S.M k=T.M k) (h3:∀s,S.cnt s=T.cnt s) (h4:S.nx=T.nx):S=T:=by
 cases S;cases T
 simp only[St.mk.injEq]
 exact ⟨funext h1,funext h2,funext h3,h4⟩
theorem ykA (e:REff) (d:Option Nat) (S:St) (t:Nat):(e.app d S).fr t=if d=some t then e.v else S.fr t:=by
 unfold REff.app REff.mst
 cases d with
 |none=>simp[St.put]
 | some q=>
   simp only[St.put,upd,Option.some.injEq]
   by_cases h:t=q
   ·subst h;simp
   ·have h':¬q=t:=fun e=>h e.symm
    simp[h,h']
theorem yi7 (e:REff) (d:Option Nat) (S:St):(e.app d S).M=e.memM S.M:=by unfold REff.app REff.mst;cases d<;>rfl
theorem yhl (e:REff) (d:Option Nat) (S:St):(e.app d S).cnt=e.cntF S.cnt:=by unfold REff.app REff.mst;cases d<;>rfl
theorem yjY (e:REff) (d:Option Nat) (S:St):(e.app d S).nx=match e.H with|some (_,n)=>n|none=>S.nx:=by unfold REff.app REff.mst;cases d<;>rfl
theorem yeT (e:REff) (M:Key→Option Blk) (d c:Nat):e.memM M (.l d c)=e.ml.foldl (fun M p=>updK M p.1 p.2) M (.l d c):=by
 unfold REff.memM
 cases e.H<;>rfl
theorem yej (e:REff) (M:Key→Option Blk) (o:Nat):e.memM M (.h o)=match e.H with|some (H,_)=>H o|none=>M (.h o):=by
 unfold REff.memM
 cases hH:e.H with
 |none=>exact ybU (ml_h e o) M
 |some p=>rfl
theorem yn5 {e f:REff} {d c:Option Nat} (h:yqf e d f c) (S:St):e.app d (f.app c S)=f.app c (e.app d S):=by
 obtain ⟨h1,h2,h3,h4⟩:=h
 refine St.ext4 ?_ ?_ ?_ ?_
 ·intro t
  simp only[ykA]
  by_cases e1:d=some t
  ·have:c≠some t:=h1 t e1
   simp[e1,this]
  ·simp[e1]
 ·intro k
  simp only[yi7]
  cases k with
  | h o=>
    simp only[yej]
    rcases h4 with h4|h4<;>simp[h4]
  | l a b=>
    simp only[yeT]
    by_cases hk:∃p∈e.ml,p.1= .l a b
    ·have hn:∀q∈f.ml,q.1≠ .l a b:=by
      intro q hq e'
      obtain ⟨p,hp,hpk⟩:=hk
      obtain ⟨p',hp',e1⟩:=ymy hp
      obtain ⟨q',hq',e2⟩:=ymy hq
      refine h2 p' hp' q' hq' ?_
      rw[e1] at hpk;rw[e2] at e'
      injection hpk with x1 x2;injection e' with y1 y2
      exact Prod.ext (x1.trans y1.symm) (x2.trans y2.symm)
     rw[ybU hn,yeT]
     exact ykn hk _ _
    ·have hn:∀q∈e.ml,q.1≠ .l a b:=fun q hq e=>hk ⟨q,hq,e⟩
     rw[ybU hn,yeT]
     refine ykh ?_
     rw[yeT,ybU hn]
 ·intro s
  simp only[yhl,REff.cntF,cntB]
  by_cases q1:s∈e.bump
  ·have:=h3 s q1;simp[q1,this]
  ·simp[q1]
 ·simp only[yjY]
  rcases h4 with h4|h4<;>simp[h4]
structure Reg where
 n:Nat
 eff:Nat->REff
 dst:Nat->Option Nat
 rs:Nat->List Nat
 rk:Nat->List Key
 rh:Nat->Bool
 anc:Nat->List Nat
def Reg.go (R:Reg) (D:Nat→Bool):List Nat→St→St
 | [],S=>S
 |i::l,S=>R.go D l (if D i then (R.eff i).app (R.dst i) S else S)
def Reg.st (R:Reg) (D:Nat->Bool) (S:St):St:=R.go D (List.range R.n) S
theorem Reg.go_append (R:Reg) (D:Nat→Bool) (l m:List Nat) (S:St):R.go D (l++m) S=R.go D m (R.go D l S):=by
 induction l generalizing S with
 |nil=>rfl
 |cons i l ih=>exact ih _
theorem Reg.go_congr (R:Reg) {D D':Nat→Bool} {l:List Nat} (h:∀i∈l,D i=D' i) (S:St):R.go D l S=R.go D' l S:=by
 induction l generalizing S with
 |nil=>rfl
 | cons i l ih=>
   simp only[Reg.go]
   rw[h i (by simp),ih (fun j hj=>h j (List.mem_cons_of_mem _ hj))]
theorem Reg.go_last (R:Reg) {D:Nat→Bool} {e:REff} {d:Option Nat} {l:List Nat} (h:∀j∈l,D j=true→yqf e d (R.eff j) (R.dst j)) (S:St):R.go D l (e.app d S)=e.app d (R.go D l S):=by
 induction l generalizing S with
 |nil=>rfl
 | cons i l ih=>
   simp only[Reg.go]
   cases hD:D i with
   |false=>simp only[Bool.false_eq_true,if_false];exact ih (fun j hj=>h j (List.mem_cons_of_mem _ hj)) S
   | true=>
     simp only[if_true]
     rw[<-yn5 (h i (by simp) hD) S]
     exact ih (fun j hj=>h j (List.mem_cons_of_mem _ hj)) _
def Reg.free (R:Reg) (i j:Nat):Prop:=i≠j/\j∉R.anc i/\i∉R.anc j
structure Reg.Ok (R:Reg):Prop where
 apart:∀i j,i<R.n->j<R.n->R.free i j->yqf (R.eff i) (R.dst i) (R.eff j) (R.dst j)
 slots:∀i j,i<R.n->j<R.n->R.free i j->∀t,R.dst j=some t->t∉R.rs i
 keys:∀i j,i<R.n->j<R.n->R.free i j->∀p∈(R.eff j).mem, .l p.1.1 p.1.2∉R.rk i
 heap:∀i j,i<R.n->j<R.n->R.free i j->(R.eff j).H=none∨R.rh i=false
 rkh:∀i,i<R.n->R.rh i=false->∀o, .h o∉R.rk i
 anc:∀i,∀x∈R.anc i,x<i
structure ylB (rs:List Nat) (rk:List Key) (rh:Bool) (b:List Nat) (S T:St):Prop where
 fr:∀t∈rs,S.fr t=T.fr t
 M:∀k∈rk,S.M k=T.M k
 cnt:∀s∈b,S.cnt s=T.cnt s
 hp:rh=true->(∀o,S.M (.h o)=T.M (.h o))/\S.nx=T.nx
theorem Reg.agree (R:Reg) (hO:R.Ok) {i:Nat} (hi:i<R.n) {D D':Nat→Bool} {l:List Nat} (hl:∀j∈l,j<R.n) (h:∀j∈l,D j≠D' j→R.free i j) {S T:St} (hA:ylB (R.rs i) (R.rk i) (R.rh i) (R.eff i).bump S T):ylB (R.rs i) (R.rk i) (R.rh i) (R.eff i).bump (R.go D l S) (R.go D' l T):=by
 induction l generalizing S T with
 |nil=>exact hA
 | cons j l ih=>
   simp only[Reg.go]
   refine ih (fun q hq=>hl q (List.mem_cons_of_mem _ hq)) (fun q hq=>h q (List.mem_cons_of_mem _ hq)) ?_
   have hj:=hl j (by simp)
   have both:ylB (R.rs i) (R.rk i) (R.rh i) (R.eff i).bump ((R.eff j).app (R.dst j) S) ((R.eff j).app (R.dst j) T):=by
    refine ⟨fun t ht=> ?_,fun k hk=> ?_,fun s hs=> ?_,fun hh=>⟨fun o=> ?_,?_⟩⟩
    ·rw[ykA,ykA,hA.fr t ht]
    ·rw[yi7,yi7]
     cases k with
     |l a b=>rw[yeT,yeT];exact ykh (hA.M _ hk)
     |h o=>rw[yej,yej,hA.M _ hk]
    ·rw[yhl,yhl];unfold REff.cntF cntB
     rw[hA.cnt s hs]
    ·rw[yi7,yi7,yej,yej,(hA.hp hh).1 o]
    ·rw[yjY,yjY,(hA.hp hh).2]
   have oneF:R.free i j→∀S,(∀t∈R.rs i,((R.eff j).app (R.dst j) S).fr t=S.fr t)∧(∀k∈R.rk i,((R.eff j).app (R.dst j) S).M k=S.M k)∧(∀s∈(R.eff i).bump,((R.eff j).app (R.dst j) S).cnt s=S.cnt s)∧(R.rh i=true→(∀o,((R.eff j).app (R.dst j) S).M (.h o)=S.M (.h o))∧((R.eff j).app (R.dst j) S).nx=S.nx):=by
    intro hf S
    have hH:R.rh i=true->(R.eff j).H=none:=fun h=>(hO.heap i j hi hj hf).resolve_right (by rw[h];simp)
    refine ⟨fun t ht=> ?_,fun k hk=> ?_,fun s hs=> ?_,fun hh=>⟨fun o=> ?_,?_⟩⟩
    ·rw[ykA,if_neg (fun e=>hO.slots i j hi hj hf t e ht)]
    ·rw [yi7]
     cases k with
     | l a b=>
       rw[yeT]
       refine ybU (fun p hp e=> ?_) _
       obtain ⟨q,hq,e1⟩:=ymy hp
       exact hO.keys i j hi hj hf q hq (by rw[<-e1,e];exact hk)
     | h o=>
       have:R.rh i=true:=by
        cases h:R.rh i with
        |true=>rfl
        |false=>exact absurd hk (hO.rkh i hi h o)
       rw[yej,hH this]
    ·rw[yhl];unfold REff.cntF cntB
     rw[if_neg ((hO.apart i j hi hj hf).2.2.1 s hs)]
    ·rw[yi7,yej,hH hh]
    ·rw[yjY,hH hh]
   cases hD:D j<;>cases hD':D' j
   ·simp only[Bool.false_eq_true,if_false];exact hA
   ·have hf:=h j (by simp) (by rw[hD,hD'];simp)
    obtain ⟨a1,a2,a3,a4⟩:=oneF hf T
    simp only[Bool.false_eq_true,if_false,if_true]
    exact ⟨fun t ht=>(hA.fr t ht).trans (a1 t ht).symm,fun k hk=>(hA.M k hk).trans (a2 k hk).symm,fun s hs=>(hA.cnt s hs).trans (a3 s hs).symm,fun hh=>⟨fun o=>((hA.hp hh).1 o).trans ((a4 hh).1 o).symm,(hA.hp hh).2.trans (a4 hh).2.symm⟩⟩
   ·have hf:=h j (by simp) (by rw[hD,hD'];simp)
    obtain ⟨a1,a2,a3,a4⟩:=oneF hf S
    simp only[Bool.false_eq_true,if_false,if_true]
    exact ⟨fun t ht=>(a1 t ht).trans (hA.fr t ht),fun k hk=>(a2 k hk).trans (hA.M k hk),fun s hs=>(a3 s hs).trans (hA.cnt s hs),fun hh=>⟨fun o=>((a4 hh).1 o).trans ((hA.hp hh).1 o),(a4 hh).2.trans (hA.hp hh).2⟩⟩
   ·simp only[if_true];exact both
theorem Reg.st_succ (R:Reg) (hO:R.Ok) {D:Nat→Bool} {i:Nat} (hi:i<R.n) (hDi:D i=false) (hup:∀j,j<R.n→D j=true→i∉R.anc j) (S:St):R.st (RG.upd D i) S=(R.eff i).app (R.dst i) (R.st D S):=by
 unfold Reg.st
 have hsplit:List.range R.n=List.range i++(i::List.range' (i+1) (R.n-i-1)):=by
  have e1:R.n=i+((R.n-i-1)+1):=by omega
  rw[<-List.range'_succ,List.range_eq_range',List.range_eq_range']
  have:=List.range'_append_1 (s:=0) (m:=i) (n:=R.n-i-1+1)
  rw[Nat.zero_add] at this
  rw[this,<-e1]
 have hlt:∀j∈List.range' (i+1) (R.n-i-1),i<j∧j<R.n:=by
  intro j hj
  rw[List.mem_range'_1] at hj
  omega
 rw[hsplit,Reg.go_append,Reg.go_append]
 simp only[Reg.go]
 have hi1:RG.upd D i i=true:=by simp[RG.upd]
 rw[hi1,hDi]
 simp only[if_true,Bool.false_eq_true,if_false]
 have hne:∀j,j≠i→RG.upd D i j=D j:=by
  intro j hj
  have:(j==i)=false:=by simpa using hj
  simp[RG.upd,this]
 rw[R.go_congr (D:=RG.upd D i) (D':=D) (l:=List.range i) (fun j hj=>hne j (by have:=List.mem_range.1 hj;omega)),
  R.go_congr (D:=RG.upd D i) (D':=D) (l:=List.range' (i+1) (R.n-i-1)) (fun j hj=>hne j (by have:=hlt j hj;omega))]
 refine R.go_last (fun j hj hDj=> ?_) _
 obtain ⟨h1,h2⟩:=hlt j hj
 refine hO.apart i j hi h2 ⟨by omega,fun hm=> ?_,hup j h2 hDj⟩
 have:=hO.anc i j hm
 omega
def key1:AV→List Key
 | .pt k _=> [k]
 | .gs k _=> [k]
 |_=> []
def keyOf:AV→List Key
 | .pt k _=> [k]
 | .gs k _=> [k]
 | .agg cs=>cs.flatMap key1
 |_=> []
theorem yls {l l':Key→Bool} {e e':AOpd→AV} (u:AOp) (he:∀x∈opds u,e' x=e x) (hl:∀x∈opds u,∀k∈keyOf (e x),l' k=l k):pval l' e' u=pval l e u:=by
 have hb:∀ {d:Int} {x:Option AOpd},(∀y∈x.toList,e' y=e y)→bnd e' d x=bnd e d x:=by
  intro d x h
  cases x with
  |none=>rfl
  |some x=>simp only[bnd];rw[h x (by simp)]
 cases u<;>simp only[opds,List.mem_cons,List.not_mem_nil,or_false,forall_eq_or_imp,forall_eq,List.mem_append] at he hl<;>simp only[pval]
 case mv x=>rw[he]
 case pick c x y=>rw[he.1,he.2.1,he.2.2]
 case bld z ps=>
  have:ps.map (fun p=>(p.1,p.2.1,e' p.2.2))=ps.map (fun p=>(p.1,p.2.1,e p.2.2)):=by
   refine List.map_congr_left fun p hp=> ?_
   rw[he _ (List.mem_map.2 ⟨p,hp,rfl⟩)]
  rw[this]
 case nck x=>
  rw[he]
  cases hx:e x with
  |pt k o=>simp only[hl k (by rw[hx];simp[keyOf])]
  |fn f a b=>cases f<;>rfl
  |_=>rfl
 case bin o x y=>rw[he.1,he.2]
 case eq g k x y=>
  rw[he.1,he.2]
  congr 1
  unfold eqP
  split
  ·cases hx:e x<;>cases hy:e y<;>simp_all[keyOf]
  ·rfl
  ·rfl
 case eqs g k x y=>rw[he.1,he.2]
 case un o x=>rw[he]
 case cvi k x=>rw[he]
 case cvs x=>rw[he]
 case sls x lo hi=>
  have h1:∀d,bnd e' d lo=bnd e d lo:=fun d=>hb fun y hy=>he.2 y (.inl hy)
  have h2:∀d,bnd e' d hi=bnd e d hi:=fun d=>hb fun y hy=>he.2 y (.inr hy)
  simp only[he.1,h1,h2]
 case sll z x lo hi=>
  have h1:∀d,bnd e' d lo=bnd e d lo:=fun d=>hb fun y hy=>he.2 y (.inl hy)
  have h2:∀d,bnd e' d hi=bnd e d hi:=fun d=>hb fun y hy=>he.2 y (.inr hy)
  simp only[he.1,h1,h2]
 case fad o x=>rw[he];cases hx:e x<;>simp_all[keyOf]
 case fld g o z x=>rw[he]
 case iad z x y=>
  rw[he.1,he.2]
  cases hx:e x with
  |gs k n=>have q:=hl.1 k (by rw[hx];simp[keyOf]);cases e y<;>simp only[q]
  |_=>cases e y<;>rfl
 case iada n z x y=>
  rw[he.1,he.2]
  cases hx:e x with
  |pt k o=>have q:=hl.1 k (by rw[hx];simp[keyOf]);cases e y<;>simp only[q]
  |_=>cases e y<;>rfl
 case idxs x y=>rw[he.1,he.2]
 case idxa g n z x y=>rw[he.1,he.2]
 case ext x i=>rw[he]
 case lens x=>rw[he]
 case cpn x=>rw[he]
 case len x=>rw[he];cases hx:e x<;>simp_all[keyOf]
 case mnx m xs=>rw[List.map_congr_left he]
 case mkf f p c=>rw[List.map_congr_left (fun x hx=>he x (.inl hx)),List.map_congr_left (fun x hx=>he x (.inr hx))]
def eff1 (v:AV):REff:=⟨v,[],[],none⟩
def effP (v:Option AV):Option REff:=v.map eff1
def ycK (hs:Nat→Bool) (d:Nat) (S:St) (kill:List (Nat×Nat)) (b:Blk) (v:Key→AV):Option REff:=
 if hs d=false then some ⟨v (.l d (S.cnt d+1)),kill.map (fun k=>(k,none))++ [((d,S.cnt d+1),some b)],[d],none⟩ else none
def ycT (hs:Nat→Bool) (d e sz m:Nat) (ys:List AV) (S:St):AV→Option REff
 | .sl true _ _=>if m=0 then some (eff1 (.sl true 0 [])) else ycK hs d S [] ⟨e,sz,ys⟩ fun k=> .gs k m
 | .gs (.l q c) n=>(S.M (.l q c)).bind fun b=>if b.e=e/\b.sz=sz/\b.cells.length=n*sz/\n<=1000000000 then ycK hs d S [(q,c)] ⟨e,sz,b.cells++ys⟩ fun k=> .gs k (n+m) else none
 |_=>none
def ycM (hs:Nat→Bool) (d:Nat) (S:St) (kill:List (Nat×Nat)) (b:Blk) (n:Nat):Option REff:=
 if hs d=false/\b.cells.length=n*b.sz/\b.sz≠0/\noLs b.cells=true then some ⟨.sl false n b.cells,kill.map (fun k=>(k,none))++ [((d,S.cnt d+1),none)],[d],none⟩ else none
def ycu (hs:Nat→Bool) (d e sz m:Nat) (ys:List AV) (S:St):AV→Option REff
 | .sl true _ _=>if m=0 then some (eff1 (.sl true 0 [])) else ycM hs d S [] ⟨e,sz,ys⟩ m
 | .gs (.l q c) n=>(S.M (.l q c)).bind fun b=>if b.e=e/\b.sz=sz/\b.cells.length=n*sz/\n<=1000000000 then ycM hs d S [(q,c)] ⟨e,sz,b.cells++ys⟩ (n+m) else none
 |_=>none
def ykx (sz:Nat) (S:St) (x y:AV):Option REff:=match x with
 | .pt k off=>(S.M k).bind fun b=>if b.sz≠0∧y.cells.length=sz∧y.cells.all AV.one=true∧off+sz≤b.cells.length∧hOk k (b.cells.take off++y.cells++b.cells.drop (off+sz))=true then
    (match k with
      | .l q c=>some ⟨.un,[((q,c),some {b with cells:=b.cells.take off++y.cells++b.cells.drop (off+sz)})],[],none⟩
      | .h o=>some ⟨.un,[],[],some (fun q=>if q=o then some {b with cells:=b.cells.take off++y.cells++b.cells.drop (off+sz)} else S.hp q,S.nx)⟩) else none
 |_=>none
def ypX (g:Bool) (sz:Nat) (p:Option (List AV×Nat)):Option REff:=
 p.bind fun p=>if g then (if p.2+sz<=p.1.length then some (eff1 (.agg ((p.1.drop p.2).take sz))) else none) else effP p.1[p.2]?
def yit (sz:Nat) (S:St) (q c n:Nat) (lo hi:Option Int):Option REff:=match lo,hi with
 |some 0,some p=>(S.M (.l q c)).bind fun b=>if b.sz=sz/\0<sz/\0<=p/\p<=n/\n*sz<=b.cells.length then some ⟨.gs (.l q c) p.toNat,[((q,c),some {b with cells:=b.cells.take (p.toNat*sz)})],[],none⟩ else none
 |_,_=>none
def ygI (sz:Nat) (S:St) (x:AV) (lo hi:Option Int) (v:Option AV):Option REff:=match x with
 | .gs (.l q c) n=>yit sz S q c n lo hi
 | .gs (.h _) _=>none
 |_=>effP v
def effA (hs:Nat→Bool) (u:AOp) (d:Option Nat) (S:St):Option REff:=
 match u with
 | .box e sz x=>if (ev S.fr x).cells.length=sz/\(ev S.fr x).cells.all AV.one=true/\0<sz then ycK hs (site d) S [] ⟨e,sz,(ev S.fr x).cells⟩ fun k=> .pt k 0 else none
 | .bsl e sz len z parts=>if z.length=sz/\0<sz/\len*sz<=16777216 then (ydu (yaG z len) (parts.map fun p=>(p.1,p.2.1,ev S.fr p.2.2))).bind fun cs=>ycK hs (site d) S [] ⟨e,sz,cs.map weak⟩ fun k=> .gs k len else none
 | .ld g sz x=>ypX g sz (tgt S (ev S.fr x))
 | .sto sz x y=>ykx sz S (ev S.fr x) (ev S.fr y)
 | .app e sz bytes x y=>(srcA S (ev S.fr y)).bind fun p=>if 0<sz/\bytes<=100000/\p.2.length=p.1*sz/\p.1<=400000000 then ycT hs (site d) e sz p.1 p.2 S (ev S.fr x) else none
 | .bsf e sz len z parts=>if z.length=sz/\0<sz/\len*sz<=16777216 then (ydu (yaG z len) (parts.map fun p=>(p.1,p.2.1,ev S.fr p.2.2))).bind fun cs=>ycM hs (site d) S [] ⟨e,sz,cs.map weak⟩ len else none
 | .apf e sz bytes x y=>(srcA S (ev S.fr y)).bind fun p=>if 0<sz/\bytes<=100000/\p.2.length=p.1*sz/\p.1<=400000000 then ycu hs (site d) e sz p.1 p.2 S (ev S.fr x) else none
 | .apps e x y=>match ev S.fr y with
   | .st l=>if l.length<=400000000 then ycT hs (site d) e 1 l.length (encB l) S (ev S.fr x) else none
   |_=>none
 | .sll sz x lo hi=>ygI sz S (ev S.fr x) (bnd (ev S.fr) 0 lo) (bnd (ev S.fr) ((match ev S.fr x with| .gs _ n=>n|_=>0:Nat):Int) hi) (pval (yav S) (ev S.fr) (.sll sz x lo hi))
 | .mks e sz bytes z l c=>match ev S.fr l,ev S.fr c with
   | .it _ n, .it _ m=>if n=m/\0<=n/\z.length=sz/\0<sz/\bytes*n.toNat<=281474976710656/\n<=1000000000 then ycK hs (site d) S [] ⟨e,sz,yaG z n.toNat⟩ fun k=> .gs k n.toNat else none
   |_,_=>none
 | .apz e sz bytes z s l=>match ev S.fr s,ev S.fr l with
   | .sl true _ _, .it .i64 n=>if 0<n/\z.length=sz/\0<sz/\bytes*n.toNat<=140737488355328/\n<=1000000000 then ycK hs (site d) S [] ⟨e,sz,yaG z n.toNat⟩ fun k=> .gs k n.toNat else none
   |_,_=>none
 | .b2s x=>match ev S.fr x with
   | .sl _ n xs=>if xs.length=n then effP ((yc1 xs).map .st) else none
   | .gs k n=>(S.M k).bind fun b=>if b.sz≠0/\b.cells.length=n then effP ((yc1 b.cells).map .st) else none
   |_=>none
 | .call .. | .calv .. | .s2b .. =>none
 |u=>effP (pval (yav S) (ev S.fr) u)
def St.kills (S:St) (ks:List (Nat×Nat)):St:={S with M:=ks.foldl (fun M k=>updK M (.l k.1 k.2) none) S.M}
theorem yfw (S:St) (a b:List (Nat×Nat)):S.kills (a++b)=(S.kills a).kills b:=by simp[St.kills]
def pk1 (v:AV) (S:St):List (Nat×Nat):=
 match v with
 | .gs (.l d c) n=>match S.M (.l d c) with
   |some b=>if b.cells.length=n*b.sz/\b.sz≠0/\noLs b.cells=true then [(d,c)] else []
   |none=> []
 |_=> []
def pks (l:List AV) (S:St):List (Nat×Nat):=
 match l with
 | []=> []
 |u::r=>pk1 u S++pks r (S.kills (pk1 u S))
def pkV (v:AV) (S:St):List (Nat×Nat):=
 if v.noL then [] else
 match v with
 | .agg cs=>pks cs S
 |v=>pk1 v S
def pkL (l:List AV) (S:St):List (Nat×Nat):=
 match l with
 | []=> []
 |u::r=>pkV u S++pkL r (S.kills (pkV u S))
theorem ylv (v:AV) (S:St):(pub1 v S).2=S.kills (pk1 v S):=by
 cases v with
 | gs k n=>cases k with
   | l d c=>
     simp only[pub1,pk1]
     cases hm:S.M (.l d c) with
     |none=>rfl
     |some b=>simp only;split<;>rfl
   |h o=>rfl
 |_=>rfl
theorem ypa:∀(l:List AV) (S:St),(pubs l S).2=S.kills (pks l S)
 | [],_=>rfl
 |u::r,S=>by simp only[pubs,pks];rw[ypa r,ylv,yfw]
theorem ypn (v:AV) (S:St):(pubV v S).2=S.kills (pkV v S):=by
 by_cases h:v.noL=true
 ·simp only[pubV,pkV,if_pos h];rfl
 ·simp only[pubV,pkV,if_neg h]
  cases v with
  |agg cs=>exact ypa _ _
  |_=>exact ylv _ _
theorem yl8:∀(l:List AV) (S:St),(pubL l S).2=S.kills (pkL l S)
 | [],_=>rfl
 |u::r,S=>by simp only[pubL,pkL];rw[yl8 r,ypn,yfw]
def yci (ks:List Key) (S T:St):Prop:=∀k∈ks,S.M k=T.M k
theorem yci.kills {ks:List Key} {S T:St} (h:yci ks S T) (l:List (Nat×Nat)):yci ks (S.kills l) (T.kills l):=by
 intro k hk
 unfold St.kills
 simp only
 induction l generalizing S T with
 |nil=>exact h k hk
 | cons p l ih=>
   simp only[List.foldl_cons]
   refine ih (S:={S with M:=updK S.M (.l p.1 p.2) none}) (T:={T with M:=updK T.M (.l p.1 p.2) none}) (fun q hq=> ?_)
   simp only[updK]
   split
   ·rfl
   ·exact h q hq
theorem yci.left {a b:List Key} {S T:St} (h:yci (a++b) S T):yci a S T:=fun k hk=>h k (List.mem_append_left _ hk)
theorem yci.right {a b:List Key} {S T:St} (h:yci (a++b) S T):yci b S T:=fun k hk=>h k (List.mem_append_right _ hk)
theorem yiV {v:AV} {S T:St} (h:yci (key1 v) S T):(pub1 v T).1=(pub1 v S).1∧pk1 v T=pk1 v S:=by
 cases v with
 | gs k n=>cases k with
   | l d c=>
     simp only[pub1,pk1]
     rw[h (.l d c) (by simp[key1])]
     cases hm:T.M (.l d c) with
     |none=>exact ⟨rfl,rfl⟩
     |some b=>simp only;split<;>simp
   |h o=>exact ⟨rfl,rfl⟩
 |_=>exact ⟨rfl,rfl⟩
theorem yiW:∀ {l:List AV} {S T:St},yci (l.flatMap key1) S T→(pubs l T).1=(pubs l S).1∧pks l T=pks l S
 | [],_,_,_=>⟨rfl,rfl⟩
 | u::r,S,T,h=>by
   rw[List.flatMap_cons] at h
   obtain ⟨a,b⟩:=yiV h.left
   simp only[pubs,pks,ylv,a,b]
   obtain ⟨c,d⟩:=yiW (h.right.kills (pk1 u S))
   rw[c,d]
   exact ⟨rfl,rfl⟩
theorem ymp {v:AV} {S T:St} (h:yci (keyOf v) S T):(pubV v T).1=(pubV v S).1∧pkV v T=pkV v S:=by
 by_cases hn:v.noL=true
 ·simp only[pubV,pkV,if_pos hn];exact ⟨trivial,trivial⟩
 ·simp only[pubV,pkV,if_neg hn]
  cases v with
  | agg cs=>
    obtain ⟨a,b⟩:=yiW (l:=cs) h
    exact ⟨congrArg AV.agg a,b⟩
  |_=>exact yiV h
theorem yiS:∀ {l:List AV} {S T:St},yci (l.flatMap keyOf) S T→(pubL l T).1=(pubL l S).1∧pkL l T=pkL l S
 | [],_,_,_=>⟨rfl,rfl⟩
 | u::r,S,T,h=>by
   rw[List.flatMap_cons] at h
   obtain ⟨a,b⟩:=ymp h.left
   simp only[pubL,pkL,ypn,a,b]
   obtain ⟨c,d⟩:=yiS (h.right.kills (pkV u S))
   rw[c,d]
   exact ⟨rfl,rfl⟩
theorem ylp (S:St):S.withH S.hp S.nx=S:=by
 unfold St.withH St.hp
 cases S with
 | mk fr M cnt nx=>
   simp only[St.mk.injEq,true_and,and_true]
   funext k
   cases k<;>rfl
def ys3 (P:Program) (f:Cal) (args:List AV) (S:St) (e:REff):Prop:=
 ∃(fn:FuncId) (inn:List (Nat×K2)) (out:List ((K2×K2)×Blk)),f= .f fn∧f.small=true∧ygh inn S.M∧e.H=none∧e.mem=inn.map (fun p=>(p.2,none))++out.map (fun p=>(p.1.2,some p.2))∧
  yap P fn (args.map (reA (finL inn))) (memL inn S.M) S.hp S.nx fun av S1=>yoE inn (out.map (·.1)) e.bump S.cnt S1/\reA (fun d c=>lkE (out.map (·.1)) (d,c)) av=e.v/\S1.hp=S.hp/\S1.nx=S.nx/\∀p∈out,(S1.M (.l p.1.1.1 p.1.1.2)).map (Blk.re fun d c=>lkE (out.map (·.1)) (d,c))=some p.2
def ygi (P:Program) (f:Cal) (args:List AV) (S:St) (e:REff):Prop:=
 (e.bump= []/\e.mem=(pkL args S).map (fun k=>(k,none))/\yj6 P f args S fun v S'=>v=e.v/\S'=e.mst S)∨(e=⟨e.v,[],[],none⟩/\ypl P f args S fun v _=>v=e.v)∨ys3 P f args S e
def yfn (hs:Nat→Bool) (CA:Program) (u:AOp) (d:Option Nat) (S:St) (e:REff):Prop:=
 match u with
 | .call f args=>ygi CA (.f f) (args.map (ev S.fr)) S e
 | .calv x args=>match ev S.fr x with
   | .fn (.func f) first cap=>ygi CA (.f f) (first++args.map (ev S.fr)++cap) S e
   | .yld o=>ygi CA (.y o) (args.map (ev S.fr)) S e
   |_=>False
 |u=>effA hs u d S=some e
theorem ybZ (v:AV) (S:St):(eff1 v).mst S=S:=by
 unfold REff.mst eff1 REff.cntF
 cases S with
 | mk fr M cnt nx=>
   simp only[St.mk.injEq,true_and,and_true]
   refine ⟨?_,?_⟩
   ·funext k
    cases k<;>rfl
   ·funext s;simp[cntB]
theorem ycB {hs:Nat→Bool} {d:Nat} {S:St} {ks:List (Nat×Nat)} {b:Blk} {v:Key→AV} {e:REff} (h:ycK hs d S ks b v=some e):hs d=false∧e.v=v (yaR hs S d)∧e.mst S=(S.kills ks).new hs d b∧e.bump= [d]:=by
 unfold ycK at h
 split at h
 ·rename_i h0
  cases h
  refine ⟨h0,by simp[yaR,h0],?_,rfl⟩
  unfold REff.mst REff.cntF REff.memM REff.ml St.new
  simp only[h0,Bool.false_eq_true,if_false,List.map_append,List.map_map,List.map_cons,List.map_nil,List.foldl_append,List.foldl_cons,List.foldl_nil,St.kills]
  have hc:cntB [d] S.cnt=upd S.cnt d (S.cnt d+1):=by
   funext s
   simp only[cntB,upd,List.mem_singleton]
   split
   ·rename_i e;rw[e]
   ·rfl
  simp only[St.mk.injEq,true_and,and_true,hc]
  funext k
  have:∀(l:List (Nat×Nat)) (M:Key→Option Blk),List.foldl (fun M (p:Key×Option Blk)=>updK M p.1 p.2) M (l.map ((fun p:(Nat×Nat)×Option Blk=>(Key.l p.1.1 p.1.2,p.2))∘fun k=>(k,none)))=l.foldl (fun M k=>updK M (.l k.1 k.2) none) M:=by
   intro l
   induction l with
   |nil=>intro M;rfl
   |cons a l ih=>intro M;simp only[List.map_cons,List.foldl_cons];exact ih _
  rw[this]
 ·cases h
variable {P:Program}
theorem yiQ {hs:Nat→Bool} {e sz m d:Nat} {ys:List AV} {x:AV} {S:St} {f:REff} {K:AV→St→Prop} (h:ycT hs d e sz m ys S x=some f) (hK:K f.v (f.mst S)):aapp hs d e sz m ys S K x:=by
 unfold ycT at h
 split at h
 ·split at h
  ·rename_i h0;cases h;simp only[aapp,if_pos h0];rw[ybZ] at hK;exact hK
  ·rename_i h0
   obtain ⟨h1,h2,h3,_⟩:=ycB h
   simp only[aapp,if_neg h0]
   rw[h2,h3] at hK
   exact ⟨by simp[yaR,h1,hOk],hK⟩
 ·rename_i q c n
  obtain ⟨b,hb,h⟩:=Option.bind_eq_some_iff.1 h
  split at h
  ·rename_i hc
   obtain ⟨h1,h2,h3,_⟩:=ycB h
   simp only[aapp,hb,ydf]
   rw[h2,h3] at hK
   exact ⟨hc.1,hc.2.1,hc.2.2.1,hc.2.2.2,fun h=>by simp[isH] at h,by simp[yaR,h1,hOk],hK⟩
  ·cases h
 ·cases h
theorem ylQ {hs:Nat→Bool} {d:Nat} {S:St} {ks:List (Nat×Nat)} {b:Blk} (h0:hs d=false):((S.kills ks).new hs d b).kill (.l d (S.cnt d+1))=⟨S.fr,updK (S.kills ks).M (.l d (S.cnt d+1)) none,upd S.cnt d (S.cnt d+1),S.nx⟩:=by
 unfold St.new St.kill
 simp only[h0,Bool.false_eq_true,if_false,St.mk.injEq]
 refine ⟨rfl,?_,rfl,rfl⟩
 funext k
 simp only[updK]
 have:(S.kills ks).cnt=S.cnt:=rfl
 rw[this]
 split<;>rfl
theorem yeM {hs:Nat→Bool} {d:Nat} {S:St} {ks:List (Nat×Nat)} {b:Blk} {n:Nat} {e:REff} (h:ycM hs d S ks b n=some e):hs d=false∧e.bump= [d]∧pub1 (.gs (yaR hs (S.kills ks) d) n) ((S.kills ks).new hs d b)=(e.v,e.mst S):=by
 unfold ycM at h
 split at h
 ·rename_i hc
  obtain ⟨h0,h1,h2,h3⟩:=hc
  cases h
  refine ⟨h0,rfl,?_⟩
  have hk:yaR hs (S.kills ks) d= .l d (S.cnt d+1):=by simp[yaR,h0,St.kills]
  have hm:((S.kills ks).new hs d b).M (.l d (S.cnt d+1))=some b:=by
   unfold St.new
   simp only[h0,Bool.false_eq_true,if_false]
   have:(S.kills ks).cnt=S.cnt:=rfl
   simp[updK,this]
  rw[hk]
  simp only[pub1,hm]
  rw[if_pos ⟨h1,h2,h3⟩,ylQ h0]
  congr 1
  obtain ⟨q1,q2,q3,q4⟩:=ycB (hs:=hs) (d:=d) (S:=S) (ks:=ks) (b:=b) (v:=fun _=> .un) (e:=⟨.un,ks.map (fun k=>(k,none))++ [((d,S.cnt d+1),some b)],[d],none⟩) (by unfold ycK;rw[if_pos h0])
  unfold REff.mst REff.cntF REff.memM REff.ml
  simp only[List.map_append,List.map_map,List.map_cons,List.map_nil,List.foldl_append,List.foldl_cons,List.foldl_nil,St.kills]
  have hcn:cntB [d] S.cnt=upd S.cnt d (S.cnt d+1):=yg6 d S.cnt
  simp only[St.mk.injEq,true_and,and_true,hcn]
  funext k
  have:∀(l:List (Nat×Nat)) (M:Key→Option Blk),List.foldl (fun M (p:Key×Option Blk)=>updK M p.1 p.2) M (l.map ((fun p:(Nat×Nat)×Option Blk=>(Key.l p.1.1 p.1.2,p.2))∘fun k=>(k,none)))=l.foldl (fun M k=>updK M (.l k.1 k.2) none) M:=by
   intro l
   induction l with
   |nil=>intro M;rfl
   |cons a l ih=>intro M;simp only[List.map_cons,List.foldl_cons];exact ih _
  rw[this]
 ·cases h
theorem ylu {hs:Nat→Bool} {e sz m d:Nat} {ys:List AV} {x:AV} {S:St} {f:REff} {K:AV→St→Prop} (h:ycu hs d e sz m ys S x=some f) (hK:K f.v (f.mst S)):aapp hs d e sz m ys S (pubK K) x:=by
 unfold ycu at h
 split at h
 ·split at h
  ·rename_i h0;cases h;simp only[aapp,if_pos h0];rw[ybZ] at hK;exact hK
  ·rename_i h0
   obtain ⟨h1,_,h3⟩:=yeM h
   simp only[aapp,if_neg h0]
   refine ⟨by simp[yaR,h1,hOk],?_⟩
   show pubK K (.gs (yaR hs (S.kills []) d) m) ((S.kills []).new hs d _)
   unfold pubK;rw[h3];exact hK
 ·rename_i q c n
  obtain ⟨b,hb,h⟩:=Option.bind_eq_some_iff.1 h
  split at h
  ·rename_i hc
   obtain ⟨h1,_,h3⟩:=yeM h
   simp only[aapp,hb,ydf]
   refine ⟨hc.1,hc.2.1,hc.2.2.1,hc.2.2.2,fun h=>by simp[isH] at h,by simp[yaR,h1,hOk],?_⟩
   show pubK K (.gs (yaR hs (S.kills [(q,c)]) d) (n+m)) ((S.kills [(q,c)]).new hs d _)
   unfold pubK;rw[h3];exact hK
  ·cases h
 ·cases h
theorem ygT {l:List (Key×Option Blk)} {k:Key} {v:Option Blk} (h:(k,v)∈l) (hn:∀v',(k,v')∈l→v'=v) (M:Key→Option Blk):l.foldl (fun M p=>updK M p.1 p.2) M k=v:=by
 induction l generalizing M with
 |nil=>cases h
 | cons p l ih=>
   rw[List.foldl_cons]
   by_cases hk:∃q∈l,q.1=k
   ·obtain ⟨q,hq,e⟩:=hk
    have hq':(k,q.2)∈l:=by rw[<-e];exact hq
    have:=hn q.2 (List.mem_cons_of_mem _ hq')
    rw[this] at hq'
    exact ih hq' (fun v' hv=>hn v' (List.mem_cons_of_mem _ hv)) _
   ·have hnk:∀q∈l,q.1≠k:=fun q hq e=>hk ⟨q,hq,e⟩
    rw[ybU hnk]
    rcases List.mem_cons.1 h with e|e
    ·rw[<-e];simp[updK]
    ·exact absurd rfl (hnk _ e)
theorem yis {S S1:St} {inn:List (Nat×K2)} {out:List ((K2×K2)×Blk)} {e:REff} (he:e.H=none) (hm:e.mem=inn.map (fun p=>(p.2,none))++out.map (fun p=>(p.1.2,some p.2))) (hhp:S1.hp=S.hp) (hnx:S1.nx=S.nx) (hn2:((out.map (·.1)).map (·.2)).Nodup)
  (hb:∀p∈out,(S1.M (.l p.1.1.1 p.1.1.2)).map (Blk.re fun d c=>lkE (out.map (·.1)) (d,c))=some p.2):S.backL inn (out.map (·.1)) e.bump S1=e.mst S:=by
 refine St.ext4 (fun _=>rfl) (fun k=> ?_) (fun _=>rfl) (by show S1.nx=match e.H with|some (_,n)=>n|none=>S.nx;rw[he];exact hnx)
 show _=e.memM S.M k
 cases k with
 |h o=>rw[yej,he];exact congrFun hhp o
 | l d c=>
   rw[yeT]
   unfold REff.ml
   rw[hm,List.map_append,List.foldl_append,List.map_map,List.map_map]
   show (match lkZ (out.map (·.1)) (d,c) with|some q=>(S1.M (.l q.1 q.2)).map (Blk.re fun d c=>lkE (out.map (fun p:(K2×K2)×Blk=>p.1)) (d,c))|none=>match lkZ inn (d,c) with|some _=>none|none=>S.M (.l d c))=_
   cases hq:lkZ (out.map (·.1)) (d,c) with
   | some q=>
     obtain ⟨p,hp,e1⟩:=List.mem_map.1 (ydB hq)
     have hbp:=hb p hp
     have e2:p.1.1=q:=by rw[e1]
     have e3:p.1.2=(d,c):=by rw[e1]
     rw[e2] at hbp
     simp only
     rw[hbp]
     refine (ygT (List.mem_map.2 ⟨p,hp,by simp[e3]⟩) (fun v' hv=> ?_) _).symm
     obtain ⟨p',hp',e4⟩:=List.mem_map.1 hv
     simp only[Function.comp_apply,Prod.mk.injEq,Key.l.injEq] at e4
     have e5:p'.1.2=(d,c):=Prod.ext e4.1.1 e4.1.2
     have e6:lkZ (out.map (·.1)) (d,c)=some p'.1.1:=ygH hn2 (List.mem_map.2 ⟨p',hp',Prod.ext rfl e5⟩)
     rw[hq] at e6
     have hbp':=hb p' hp'
     rw[<-Option.some.inj e6,hbp] at hbp'
     rw[<-e4.2,<-hbp']
   | none=>
     simp only
     have hno:∀p∈out,p.1.2≠(d,c):=fun p hp e=>ykb hq p.1.1 (List.mem_map.2 ⟨p,hp,Prod.ext rfl e⟩)
     rw[ybU (fun p hp e=>by
      obtain ⟨p',hp',rfl⟩:=List.mem_map.1 hp
      simp only[Function.comp_apply,Key.l.injEq] at e
      exact hno p' hp' (Prod.ext e.1 e.2))]
     cases hi:lkZ inn (d,c) with
     | some x=>
       refine (ygT (v:=none) (List.mem_map.2 ⟨(x,(d,c)),ydB hi,rfl⟩) (fun v' hv=> ?_) _).symm
       obtain ⟨p',hp',e4⟩:=List.mem_map.1 hv
       simp only[Function.comp_apply,Prod.mk.injEq] at e4
       exact e4.2.symm
     | none=>
       refine (ybU (fun p hp e=> ?_) _).symm
       obtain ⟨p',hp',rfl⟩:=List.mem_map.1 hp
       simp only[Function.comp_apply,Key.l.injEq] at e
       exact ykb hi p'.1 (by rw[show (p'.1,((d,c):K2))=p' from Prod.ext rfl (Prod.ext e.1.symm e.2.symm)];exact hp')
theorem yhH {f:Cal} {args:List AV} {S:St} {e:REff} {K:AV→St→Prop} (h:ygi P f args S e) (hK:K e.v (e.mst S)):ycO P f args S K:=by
 rcases h with ⟨_,_,hn,hc⟩|⟨he,f',v,h1,h2,h3,h4,h5⟩|⟨fn,inn,out,h1,hsm,h2,h3,h4,hc⟩
 ·refine .inl ⟨hn,hc.mono ?_⟩
  rintro av H' n' ⟨rfl,e2⟩
  rw[e2];exact hK
 ·refine .inr (.inl ⟨f',v,h1,h2,h3,h4,?_⟩)
  rw[he] at hK
  rw[h5]
  have:REff.mst ⟨e.v,[],[],none⟩ S=S:=ybZ e.v S
  rw[this] at hK
  exact hK
 ·refine .inr (.inr ⟨hsm,fn,inn,h1,h2,hc.mono ?_⟩)
  rintro av S1 ⟨ho,hv,e1,e2,hb⟩
  refine ⟨out.map (·.1),e.bump,ho,?_⟩
  rw[hv,yis h3 h4 e1 e2 ho.n2 hb];exact hK
theorem yo9 {hs:Nat→Bool} {u:AOp} {d:Option Nat} {S:St} {f:REff} {K:AV→St→Prop} (h:yfn hs P u d S f) (hK:K f.v (f.mst S)):aop hs (ycO P) u d S K:=by
 have pureK:∀ {u:AOp},effP (pval (yav S) (ev S.fr) u)=some f→wpv (pval (yav S) (ev S.fr) u) fun v=>K v S:=by
  intro u hp
  obtain ⟨v,hv,rfl⟩:=Option.map_eq_some_iff.1 hp
  rw[hv];rw[ybZ] at hK;exact hK
 cases u<;>simp only[yfn] at h
 case call f args=>exact yhH h hK
 case calv x args=>
  split at h
  ·rename_i e;simp only[aop,e];exact yhH h hK
  ·rename_i e;simp only[aop,e];exact yhH h hK
  ·exact h.elim
 all_goals simp only[effA] at h
 all_goals first|(exact pureK h)|(cases h;done)|skip
 case box e sz x=>
  split at h
  ·rename_i hc
   obtain ⟨h1,h2,h3,_⟩:=ycB h
   rw[h2,h3] at hK
   exact ⟨hc.1,hc.2.1,hc.2.2,by simp[yaR,h1,hOk],hK⟩
  ·cases h
 case bsl e sz len z ps=>
  split at h
  ·rename_i hc
   obtain ⟨cs,hcs,h⟩:=Option.bind_eq_some_iff.1 h
   obtain ⟨h1,h2,h3,_⟩:=ycB h
   rw[h2,h3] at hK
   refine ⟨hc.1,hc.2.1,hc.2.2,?_⟩
   rw[hcs]
   exact ⟨by simp[yaR,h1,hOk],hK⟩
  ·cases h
 case ld g sz x=>
  obtain ⟨p,hp,h⟩:=Option.bind_eq_some_iff.1 h
  simp only[aop,hp,ydf]
  split at h
  ·rename_i hg
   split at h
   ·rename_i hl
    cases h
    rw[ybZ] at hK
    rw[if_pos hg,if_pos hl];exact hK
   ·cases h
  ·rename_i hg
   obtain ⟨v,hv,rfl⟩:=Option.map_eq_some_iff.1 h
   rw[ybZ] at hK
   rw[if_neg hg,hv];exact hK
 case sto sz x y=>
  unfold ykx at h
  split at h
  ·rename_i k off e1
   obtain ⟨b,hb,h⟩:=Option.bind_eq_some_iff.1 h
   split at h
   ·rename_i hc
    simp only[aop,e1,hb,ydf]
    refine ⟨hc.1,hc.2.1,hc.2.2.1,hc.2.2.2.1,hc.2.2.2.2,?_⟩
    split at h
    ·cases h
     refine Eq.mp (congrArg (K .un) ?_) hK
     unfold REff.mst REff.memM REff.cntF REff.ml St.setM
     simp only[St.mk.injEq,ydY,true_and,and_true]
     funext q
     cases q<;>rfl
    ·cases h
     refine Eq.mp (congrArg (K .un) ?_) hK
     unfold REff.mst REff.memM REff.cntF REff.ml St.setM
     simp only[St.mk.injEq,ydY,true_and,and_true]
     funext q
     cases q with
     |l a b=>simp[updK]
     |h o=>simp[updK,St.hp]
   ·cases h
  ·cases h
 case sll sz x lo hi=>
  cases hx:ev S.fr x with
  | gs k n=>
    rw[hx] at h
    cases k with
    |h o=>cases h
    | l q c=>
      simp only[ygI] at h
      unfold yit at h
      split at h
      ·rename_i p e1 e2
       obtain ⟨b,hb,h⟩:=Option.bind_eq_some_iff.1 h
       split at h
       ·rename_i hc
        cases h
        simp only[aop,hx,cutR,e1,e2,hb,ydf]
        refine ⟨hc.1,hc.2.1,hc.2.2.1,hc.2.2.2.1,hc.2.2.2.2,rfl,?_⟩
        refine Eq.mp (congrArg (K _) ?_) hK
        unfold REff.mst REff.memM REff.cntF REff.ml St.setM
        simp only[St.mk.injEq,ydY,true_and,and_true]
        funext q
        cases q<;>rfl
       ·cases h
      ·cases h
  |_=>rw[hx] at h;simp only[aop,hx];exact pureK h
 case app e sz bytes x y=>
  obtain ⟨p,hp,h⟩:=Option.bind_eq_some_iff.1 h
  split at h
  ·rename_i hc
   refine ⟨hc.1,hc.2.1,?_⟩
   rw[hp]
   exact ⟨hc.2.2.1,hc.2.2.2,yiQ h hK⟩
  ·cases h
 case apf e sz bytes x y=>
  obtain ⟨p,hp,h⟩:=Option.bind_eq_some_iff.1 h
  split at h
  ·rename_i hc
   refine ⟨hc.1,hc.2.1,?_⟩
   rw[hp]
   exact ⟨hc.2.2.1,hc.2.2.2,ylu h hK⟩
  ·cases h
 case bsf e sz len z ps=>
  split at h
  ·rename_i hc
   obtain ⟨cs,hcs,h⟩:=Option.bind_eq_some_iff.1 h
   obtain ⟨h1,_,h3⟩:=yeM h
   refine ⟨hc.1,hc.2.1,hc.2.2,?_⟩
   rw[hcs]
   refine ⟨by simp[yaR,h1,hOk],?_⟩
   show pubK K (.gs (yaR hs (S.kills []) (site d)) len) ((S.kills []).new hs (site d) _)
   unfold pubK;rw[h3];exact hK
  ·cases h
 case apps e x y=>
  split at h
  ·rename_i l e1
   split at h
   ·rename_i hc
    simp only[aop,e1]
    exact ⟨hc,yiQ h hK⟩
   ·cases h
  ·cases h
 case mks e sz bytes z l c=>
  split at h
  ·rename_i n m e1 e2
   split at h
   ·rename_i hc
    obtain ⟨h1,h2,h3,_⟩:=ycB h
    rw[h2,h3] at hK
    simp only[aop,e1,e2]
    exact ⟨hc.1,hc.2.1,hc.2.2.1,hc.2.2.2.1,hc.2.2.2.2.1,hc.2.2.2.2.2,by simp[yaR,h1,hOk],hK⟩
   ·cases h
  ·cases h
 case apz e sz bytes z l c=>
  split at h
  ·rename_i n m e1 e2
   split at h
   ·rename_i hc
    obtain ⟨h1,h2,h3,_⟩:=ycB h
    rw[h2,h3] at hK
    simp only[aop,e1,e2]
    exact ⟨hc.1,hc.2.1,hc.2.2.1,hc.2.2.2.1,hc.2.2.2.2,by simp[yaR,h1,hOk],hK⟩
   ·cases h
  ·cases h
 case b2s x=>
  split at h
  ·rename_i e1
   split at h
   ·rename_i hc
    obtain ⟨v,hv,rfl⟩:=Option.map_eq_some_iff.1 h
    obtain ⟨l,hl,rfl⟩:=Option.map_eq_some_iff.1 hv
    rw[ybZ] at hK
    simp only[aop,e1,hl,ydf]
    exact ⟨hc,hK⟩
   ·cases h
  ·rename_i e1
   obtain ⟨b,hb,h⟩:=Option.bind_eq_some_iff.1 h
   split at h
   ·rename_i hc
    obtain ⟨v,hv,rfl⟩:=Option.map_eq_some_iff.1 h
    obtain ⟨l,hl,rfl⟩:=Option.map_eq_some_iff.1 hv
    rw[ybZ] at hK
    simp only[aop,e1,hb,hl,ydf]
    exact ⟨hc.1,hc.2,hK⟩
   ·cases h
  ·cases h
theorem yql {S T:St} {v:AV} (h:∀k∈keyOf v,T.M k=S.M k):tgt T v=tgt S v:=by
 cases v with
 |pt k o=>simp only[tgt];rw[h k (by simp[keyOf])]
 |_=>rfl
theorem ykN {S T:St} {v:AV} (h:∀k∈keyOf v,T.M k=S.M k):srcA T v=srcA S v:=by
 cases v with
 |gs k n=>simp only[srcA];rw[h k (by simp[keyOf])]
 |_=>rfl
theorem ycA {hs:Nat→Bool} {d:Nat} {S T:St} {ks:List (Nat×Nat)} {b:Blk} {v:Key→AV} {e:REff} (h:ycK hs d S ks b v=some e) (hc:∀s∈e.bump,T.cnt s=S.cnt s):ycK hs d T ks b v=some e:=by
 have h4:=(ycB h).2.2.2
 unfold ycK at h⊢
 rw[hc d (by rw[h4];simp)];exact h
theorem ygO {hs:Nat→Bool} {d e sz m:Nat} {ys:List AV} {x:AV} {S T:St} {f:REff} (h:ycT hs d e sz m ys S x=some f) (hk:∀k∈keyOf x,T.M k=S.M k) (hc:∀s∈f.bump,T.cnt s=S.cnt s):ycT hs d e sz m ys T x=some f:=by
 cases x with
 | sl z n xs=>
   cases z with
   |false=>cases h
   | true=>
     simp only[ycT] at h⊢
     split at h
     ·rename_i h0;rw[if_pos h0];exact h
     ·rename_i h0;rw[if_neg h0];exact ycA h hc
 | gs k n=>cases k with
   |h o=>cases h
   | l q c=>
     simp only[ycT] at h⊢
     rw[hk (.l q c) (by simp[keyOf])]
     obtain ⟨b,hb,h⟩:=Option.bind_eq_some_iff.1 h
     rw[hb]
     simp only[Option.bind_some]
     split at h
     ·rename_i h0;rw[if_pos h0];exact ycA h hc
     ·cases h
 |_=>cases h
theorem yeJ {hs:Nat→Bool} {d:Nat} {S T:St} {ks:List (Nat×Nat)} {b:Blk} {n:Nat} {e:REff} (h:ycM hs d S ks b n=some e) (hc:∀s∈e.bump,T.cnt s=S.cnt s):ycM hs d T ks b n=some e:=by
 have hd:T.cnt d=S.cnt d:=hc d (by rw[(yeM h).2.1];simp)
 unfold ycM at h⊢
 rw[hd];exact h
theorem yjF {hs:Nat→Bool} {d e sz m:Nat} {ys:List AV} {x:AV} {S T:St} {f:REff} (h:ycu hs d e sz m ys S x=some f) (hk:∀k∈keyOf x,T.M k=S.M k) (hc:∀s∈f.bump,T.cnt s=S.cnt s):ycu hs d e sz m ys T x=some f:=by
 cases x with
 | sl z n xs=>
   cases z with
   |false=>cases h
   | true=>
     simp only[ycu] at h⊢
     split at h
     ·rename_i h0;rw[if_pos h0];exact h
     ·rename_i h0;rw[if_neg h0];exact yeJ h hc
 | gs k n=>cases k with
   |h o=>cases h
   | l q c=>
     simp only[ycu] at h⊢
     rw[hk (.l q c) (by simp[keyOf])]
     obtain ⟨b,hb,h⟩:=Option.bind_eq_some_iff.1 h
     rw[hb]
     simp only[Option.bind_some]
     split at h
     ·rename_i h0;rw[if_pos h0];exact yeJ h hc
     ·cases h
 |_=>cases h
theorem yoe {hs:Nat→Bool} {u:AOp} {d:Option Nat} {S T:St} {e:REff} (h:effA hs u d S=some e) (he:∀x∈opds u,ev T.fr x=ev S.fr x) (hk:∀x∈opds u,∀k∈keyOf (ev S.fr x),T.M k=S.M k)
  (hc:∀s∈e.bump,T.cnt s=S.cnt s) (hh:(∃x∈opds u,∃o, .h o∈keyOf (ev S.fr x))->T.hp=S.hp/\T.nx=S.nx):effA hs u d T=some e:=by
 have pureK:∀ {u:AOp},(∀x∈opds u,ev T.fr x=ev S.fr x)→(∀x∈opds u,∀k∈keyOf (ev S.fr x),T.M k=S.M k)→effP (pval (yav S) (ev S.fr) u)=some e→effP (pval (yav T) (ev T.fr) u)=some e:=by
  intro u h1 h2 h3
  rw[yls u h1 (fun x hx k hk'=>by unfold yav;rw[h2 x hx k hk'])]
  exact h3
 cases u<;>simp only[effA] at h⊢
 all_goals first|(exact pureK he hk h)|(cases h;done)|skip
 case box e sz x=>
  rw[he x (by simp[opds])]
  split at h
  ·rename_i h0;rw[if_pos h0];exact ycA h hc
  ·cases h
 case bsl e sz len z ps=>
  have:ps.map (fun p=>(p.1,p.2.1,ev T.fr p.2.2))=ps.map (fun p=>(p.1,p.2.1,ev S.fr p.2.2)):=by
   refine List.map_congr_left fun p hp=> ?_
   rw[he _ (List.mem_map.2 ⟨p,hp,rfl⟩)]
  rw[this]
  split at h
  ·rename_i h0
   rw[if_pos h0]
   obtain ⟨cs,hcs,h⟩:=Option.bind_eq_some_iff.1 h
   rw[hcs]
   exact ycA h hc
  ·cases h
 case ld g sz x=>
  rw[he x (by simp[opds]),yql (hk x (by simp[opds]))];exact h
 case sto sz x y=>
  rw[he x (by simp[opds]),he y (by simp[opds])]
  have hkx:=hk x (by simp[opds])
  have hhx:(∃o, .h o∈keyOf (ev S.fr x))->T.hp=S.hp/\T.nx=S.nx:=fun ⟨o,ho⟩=>hh ⟨x,by simp[opds],o,ho⟩
  cases hx:ev S.fr x with
  | pt k off=>
    rw[hx] at h hkx hhx
    simp only[ykx] at h⊢
    rw[hkx k (by simp[keyOf])]
    cases k with
    |l q c=>exact h
    | h o=>
      obtain ⟨p1,p2⟩:=hhx ⟨o,by simp[keyOf]⟩
      rw[p1,p2];exact h
  |_=>rw[hx] at h;cases h
 case sll sz x lo hi=>
  have hb:∀ {d:Int} {y:Option AOpd},(∀z∈y.toList,z∈opds (.sll sz x lo hi))→bnd (ev T.fr) d y=bnd (ev S.fr) d y:=by
   intro d y hy
   cases y with
   |none=>rfl
   |some y=>simp only[bnd];rw[he y (hy y (by simp))]
  rw[he x (by simp[opds]),hb (y:=lo) (fun z hz=>by simp[opds];right;left;simpa using hz),hb (y:=hi) (fun z hz=>by simp[opds];right;right;simpa using hz)]
  have hkx:=hk x (by simp[opds])
  cases hx:ev S.fr x with
  | gs k n=>
    rw[hx] at h hkx
    cases k with
    |h o=>cases h
    | l q c=>
      simp only[ygI,yit] at h⊢
      rw[hkx (.l q c) (by simp[keyOf])]
      exact h
  |_=>rw[hx] at h;exact pureK he hk h
 case app e sz bytes x y=>
  rw[he x (by simp[opds]),he y (by simp[opds]),ykN (hk y (by simp[opds]))]
  obtain ⟨p,hp,h⟩:=Option.bind_eq_some_iff.1 h
  rw[hp]
  simp only[Option.bind_some]
  split at h
  ·rename_i h0;rw[if_pos h0];exact ygO h (hk x (by simp[opds])) hc
  ·cases h
 case apf e sz bytes x y=>
  rw[he x (by simp[opds]),he y (by simp[opds]),ykN (hk y (by simp[opds]))]
  obtain ⟨p,hp,h⟩:=Option.bind_eq_some_iff.1 h
  rw[hp]
  simp only[Option.bind_some]
  split at h
  ·rename_i h0;rw[if_pos h0];exact yjF h (hk x (by simp[opds])) hc
  ·cases h
 case bsf e sz len z ps=>
  have hp:(ps.map fun p=>(p.1,p.2.1,ev T.fr p.2.2))=ps.map fun p=>(p.1,p.2.1,ev S.fr p.2.2):=List.map_congr_left fun p hp=>by rw[he p.2.2 (List.mem_map.2 ⟨p,hp,rfl⟩)]
  rw[hp]
  split at h
  ·rename_i h0;rw[if_pos h0]
   obtain ⟨cs,hcs,h⟩:=Option.bind_eq_some_iff.1 h
   rw[hcs];exact yeJ h hc
  ·cases h
 case apps e x y=>
  rw[he x (by simp[opds]),he y (by simp[opds])]
  cases hy:ev S.fr y with
  | st l=>
    rw[hy] at h
    simp only at h⊢
    split at h
    ·rename_i h0;rw[if_pos h0];exact ygO h (hk x (by simp[opds])) hc
    ·cases h
  |_=>rw[hy] at h;cases h
 case mks e sz bytes z l c=>
  rw[he l (by simp[opds]),he c (by simp[opds])]
  split at h
  ·split at h
   ·rename_i h0
    rw[if_pos h0];exact ycA h hc
   ·cases h
  ·cases h
 case apz e sz bytes z l c=>
  rw[he l (by simp[opds]),he c (by simp[opds])]
  split at h
  ·split at h
   ·rename_i h0
    rw[if_pos h0];exact ycA h hc
   ·cases h
  ·cases h
 case b2s x=>
  rw[he x (by simp[opds])]
  have hkx:=hk x (by simp[opds])
  split at h
  ·exact h
  ·rename_i k n e1
   rw[e1] at hkx
   rw[hkx k (by simp[keyOf])];exact h
  ·cases h
theorem yjN {u:AV} {S T:St} (h:yci (key1 u) S T):vw1 T.M u=vw1 S.M u:=by
 unfold vw1
 split
 ·rename_i d c n
  rw[h (.l d c) (by simp[key1])]
 ·rfl
theorem ynQ {u:AV} {S T:St} (h:yci (keyOf u) S T):vwV T.M u=vwV S.M u:=by
 cases u with
 | agg cs=>
   simp only[vwV,AV.agg.injEq]
   refine List.map_congr_left fun x hx=>yjN fun k hk=>h k ?_
   simp only[keyOf]
   exact List.mem_flatMap.2 ⟨x,hx,hk⟩
 |gs k n=>exact yjN h
 |_=>rfl
theorem ykF {l:List AV} {S T:St} (h:yci (l.flatMap keyOf) S T):l.map (vwV T.M)=l.map (vwV S.M):=
 List.map_congr_left fun x hx=>ynQ fun k hk=>h k (List.mem_flatMap.2 ⟨x,hx,hk⟩)
theorem ygf {f:Cal} {args:List AV} {S T:St} {e:REff} (h:ygi P f args S e) (hk:yci (args.flatMap keyOf) S T) (hm:∀p∈e.mem,T.M (.l p.1.1 p.1.2)=S.M (.l p.1.1 p.1.2)) (hcn:∀s∈e.bump,T.cnt s=S.cnt s) (hh:T.hp=S.hp∧T.nx=S.nx):ygi P f args T e:=by
 obtain ⟨a,b⟩:=yiS hk
 rcases h with ⟨h1,h2,hn,hc⟩|⟨he,f',v,g1,g2,g3,g4,g5⟩|⟨fn,inn,out,g1,gsm,g2,g3,g4,hc⟩
 case inr.inl=>exact .inr (.inl ⟨he,f',v,g1,by rw[ykF hk];exact g2,by rw[ykF hk];exact g3,g4,g5⟩)
 case inr.inr=>
  have hi:∀p∈inn,T.M (.l p.2.1 p.2.2)=S.M (.l p.2.1 p.2.2):=fun p hp=>hm (p.2,none) (by rw[g4];exact List.mem_append_left _ (List.mem_map.2 ⟨p,hp,rfl⟩))
  have hml:memL inn T.M=memL inn S.M:=by
   funext x
   unfold memL
   cases hx:lkE inn x with
   |none=>rfl
   |some k=>simp only[Option.bind_some];rw[hi _ (yiE hx)]
  refine .inr (.inr ⟨fn,inn,out,g1,gsm,⟨g2.n1,g2.n2,fun p hp=>by rw[hi p hp];exact g2.ok p hp⟩,g3,g4,?_⟩)
  rw[hml,hh.1,hh.2]
  refine hc.mono ?_
  rintro av S1 ⟨ho,hv,e1,e2,hb⟩
  refine ⟨⟨ho.n1,ho.n2,ho.live,fun p hp=> ?_⟩,hv,e1,e2,hb⟩
  rcases ho.goes p hp with q|⟨q1,q2⟩
  ·exact .inl q
  ·exact .inr ⟨q1,by rw[hcn _ q1];exact q2⟩
 left
 have hkh:∀(S:St) (ks:List (Nat×Nat)),(S.kills ks).hp=S.hp:=by
  intro S ks
  unfold St.kills St.hp
  funext o
  simp only
  induction ks generalizing S with
  |nil=>rfl
  | cons k ks ih=>
    simp only[List.foldl_cons]
    refine (ih {S with M:=updK S.M (.l k.1 k.2) none}).trans ?_
    simp[updK]
 refine ⟨h1,by rw[b];exact h2,by rw[a];exact hn,?_⟩
 rw[yl8] at hc⊢
 rw[a,b,hkh,show (T.kills (pkL args S)).nx=T.nx from rfl,hh.1,hh.2]
 rw[hkh] at hc
 refine hc.mono ?_
 rintro av H' n' ⟨rfl,e2⟩
 refine ⟨rfl,?_⟩
 have q1:∀o,H' o=(e.mst S).M (.h o):=fun o=>by rw[<-e2];rfl
 have q2:n'=(e.mst S).nx:=by rw[<-e2];rfl
 refine St.ext4 (fun _=>rfl) (fun k=> ?_) (fun s=> ?_) ?_
 ·cases k with
  | h o=>
    show H' o=e.memM T.M (.h o)
    rw[q1,yej]
    show e.memM S.M (.h o)=_
    rw[yej]
    have:=congrFun hh.1 o
    simp only[St.hp] at this
    rw[this]
  | l d c=>
    show (T.kills (pkL args S)).M (.l d c)=e.memM T.M (.l d c)
    rw[yeT]
    unfold REff.ml St.kills
    rw[h2]
    simp only[List.map_map]
    generalize T.M=M
    generalize pkL args S=ks
    induction ks generalizing M with
    |nil=>rfl
    |cons a ks ih=>simp only[List.map_cons,List.foldl_cons];exact ih _
 ·show T.cnt s=e.cntF T.cnt s
  unfold REff.cntF;rw[h1,ydY]
 ·show n'=match e.H with|some (_,n)=>n|none=>T.nx
  rw[q2]
  show (match e.H with|some (_,n)=>n|none=>S.nx)=_
  rw[hh.2]
structure Foot where
 rk:List Key
 wk:List (Nat×Nat)
 rh:Bool
 wh:Bool
 bs:List Nat
def yfv:AOp→Bool
 | .call .. | .calv .. =>true
 |_=>false
def yor (ks:List Key):Bool:=ks.any isH
def yle:AV→List Key
 | .fn _ a c=>a.flatMap keyOf++c.flatMap keyOf
 |_=> []
def rkOf (u:AOp) (S:St):List Key:=match u with
 | .calv x args=>yle (ev S.fr x)++args.flatMap fun y=>keyOf (ev S.fr y)
 | .mv _=> []
 |u=>(opds u).flatMap fun x=>keyOf (ev S.fr x)
def yby (u:AOp) (S:St) (e:REff):Foot:=⟨rkOf u S++(match yfv u with|true=>e.mem.map (fun p=> .l p.1.1 p.1.2)|false=> []),e.mem.map (·.1),yfv u||yor (rkOf u S),e.H.isSome,e.bump⟩
theorem yrg {hs:Nat→Bool} {u:AOp} {d:Option Nat} {S T:St} {e:REff} (h:yfn hs P u d S e) (he:∀x∈opds u,ev T.fr x=ev S.fr x) (hk:∀k∈(yby u S e).rk,T.M k=S.M k)
  (hc:∀s∈e.bump,T.cnt s=S.cnt s) (hh:(yfv u||yor (rkOf u S))=true->T.hp=S.hp/\T.nx=S.nx):yfn hs P u d T e:=by
 have gen:∀ {u:AOp},rkOf u S=((opds u).flatMap fun x=>keyOf (ev S.fr x))→(∀x∈opds u,ev T.fr x=ev S.fr x)→(∀k∈rkOf u S,T.M k=S.M k)→((yfv u||yor (rkOf u S))=true→T.hp=S.hp∧T.nx=S.nx)→effA hs u d S=some e→effA hs u d T=some e:=by
  intro u hu h1 h2 h3 h4
  refine yoe h4 h1 (fun x hx k hk'=>h2 k (by rw[hu];exact List.mem_flatMap.2 ⟨x,hx,hk'⟩)) hc ?_
  rintro ⟨x,hx,o,ho⟩
  refine h3 ?_
  rw[Bool.or_eq_true];right
  exact List.any_eq_true.2 ⟨.h o,by rw[hu];exact List.mem_flatMap.2 ⟨x,hx,ho⟩,rfl⟩
 have hm:yfv u=true→∀p∈e.mem,T.M (.l p.1.1 p.1.2)=S.M (.l p.1.1 p.1.2):=by
  intro hc p hp
  refine hk _ (List.mem_append_right _ ?_)
  rw[hc];exact List.mem_map.2 ⟨p,hp,rfl⟩
 replace hk:∀k∈rkOf u S,T.M k=S.M k:=fun k hk'=>hk k (List.mem_append_left _ hk')
 cases u<;>simp only[yfn] at h⊢
 case call f args=>
  have:args.map (ev T.fr)=args.map (ev S.fr):=List.map_congr_left he
  rw[this]
  refine ygf h (fun k hk'=>(hk k ?_).symm) (hm rfl) hc (hh rfl)
  rw[List.flatMap_map] at hk'
  exact hk'
 case calv x args=>
  have e1:ev T.fr x=ev S.fr x:=he x (by simp[opds])
  have:args.map (ev T.fr)=args.map (ev S.fr):=List.map_congr_left fun y hy=>he y (by simp[opds,hy])
  rw[e1,this]
  split at h
  ·rename_i f first cap e2
   refine ygf h (fun k hk'=>(hk k ?_).symm) (hm rfl) hc (hh rfl)
   simp only[rkOf,e2,yle]
   simp only[List.flatMap_append,List.flatMap_map,List.mem_append] at hk'⊢
   rcases hk' with (h|h)|h
   ·exact .inl (.inl h)
   ·exact .inr h
   ·exact .inl (.inr h)
  ·rename_i q e2
   refine ygf h (fun k hk'=>(hk k ?_).symm) (hm rfl) hc (hh rfl)
   simp only[rkOf,e2,yle,List.nil_append]
   rw[List.flatMap_map] at hk'
   exact hk'
  ·exact h.elim
 case mv x=>
  have e1:ev T.fr x=ev S.fr x:=he x (by simp[opds])
  simp only[effA,pval,e1] at h⊢
  exact h
 all_goals exact gen rfl he hk hh h
def allL {α:Type} (p:α→Prop):List α→Prop
 | []=>True
 |x::l=>p x/\allL p l
theorem yaX {α:Type} {p:α→Prop} {l:List α}:allL p l↔∀x∈l,p x:=by
 induction l with
 |nil=>simp[allL]
 |cons x l ih=>simp[allL,ih]
def wpo {α:Type} (o:Option α) (K:α→Prop):Prop:=match o with
 |some u=>K u
 |none=>True
def okF (a b:Foot):Prop:=
 allL (fun p=>allL (fun k=>Key.l p.1 p.2≠k) b.rk/\allL (fun q=>p≠q) b.wk) a.wk/\allL (fun p=>allL (fun k=>Key.l p.1 p.2≠k) a.rk) b.wk/\(a.wh=true->b.rh=false/\b.wh=false)/\(b.wh=true->a.rh=false)/\allL (fun s=>allL (fun t=>s≠t) b.bs) a.bs
def yfh (ft:Foot) (acc:List Foot) (fre:List Nat):Prop:=allL (fun j=>wpo acc[j]? (okF ft)) fre
def yda:Foot:=⟨[],[],false,false,[]⟩
def eop (hs:Nat→Bool) (CA:Program) (u:AOp) (d:Option Nat) (S:St) (K:REff→Prop):Prop:=
 match u with
 | .call f args=>∃e,ygi CA (.f f) (args.map (ev S.fr)) S e/\K e
 | .calv x args=>match ev S.fr x with
   | .fn (.func f) first cap=>∃e,ygi CA (.f f) (first++args.map (ev S.fr)++cap) S e/\K e
   | .yld o=>∃e,ygi CA (.y o) (args.map (ev S.fr)) S e/\K e
   |_=>False
 |u=>wpv (effA hs u d S) K
theorem yqa {hs:Nat→Bool} {CA:Program} {u:AOp} {d:Option Nat} {S:St} {K:REff→Prop} (h:eop hs CA u d S K):∃e,yfn hs CA u d S e∧K e:=by
 cases u<;>simp only[eop] at h<;>simp only[yfn]
 case call f args=>exact h
 case calv x args=>
  split at h
  ·rename_i e;exact h
  ·rename_i e;exact h
  ·exact h.elim
 all_goals exact yb7 h
def runD (hs:Nat→Bool) (CA:Program):List (AO×List Nat)→List Foot→(St→Prop)→St→Prop
 | [],_,Q,S=>Q S
 | (o,fre)::r,acc,Q,S=>match o.guard with
   |none=>eop hs CA o.op o.dst S fun e=>yfh (yby o.op S e) acc fre/\runD hs CA r (acc++ [yby o.op S e]) Q (e.app o.dst S)
   | some (g,b)=>match S.fr g with
     | .bl c=>if c=b then eop hs CA o.op o.dst S fun e=>yfh (yby o.op S e) acc fre/\runD hs CA r (acc++ [yby o.op S e]) Q (e.app o.dst S) else runD hs CA r (acc++ [yda]) Q (S.put o.dst (.tup []))
     | .tup []=>runD hs CA r (acc++ [yda]) Q (S.put o.dst (.tup []))
     |_=>False
inductive yiy (P:Program) (hs:Nat→Bool) (o:AO) (S:St):REff→Foot→Prop
 |run (e:REff) (hg:∀g b,o.guard=some (g,b)->S.fr g= .bl b) (h:yfn hs P o.op o.dst S e):yiy P hs o S e (yby o.op S e)
 |skip (g:Nat) (b:Bool) (hg:o.guard=some (g,b)) (h:S.fr g= .tup []∨∃c,S.fr g= .bl c/\c≠b):yiy P hs o S (eff1 (.tup [])) yda
inductive yju (P:Program) (hs:Nat→Bool):List (AO×List Nat)→List Foot→St→List (REff×Foot)→St→Prop
 |nil (acc:List Foot) (S:St):yju P hs [] acc S [] S
 |cons (o:AO) (fre:List Nat) (r:List (AO×List Nat)) (acc:List Foot) (S T:St) (e:REff) (ft:Foot) (E:List (REff×Foot)) (h1:yiy P hs o S e ft) (h2:yfh ft acc fre) (h3:yju P hs r (acc++ [ft]) (e.app o.dst S) E T):yju P hs ((o,fre)::r) acc S ((e,ft)::E) T
theorem yrR (acc:List Foot) (fre:List Nat):yfh yda acc fre:=by
 refine yaX.2 fun j _=> ?_
 cases acc[j]? with
 |none=>trivial
 |some b=>exact ⟨trivial,yaX.2 fun _ _=>trivial,fun h=>(by cases h),fun _=>rfl,trivial⟩
theorem yke (d:Option Nat) (S:St):(eff1 (.tup [])).app d S=S.put d (.tup []):=by
 unfold REff.app;rw[ybZ];rfl
theorem yoL {hs:Nat→Bool} {Q:St→Prop}:∀(l:List (AO×List Nat)) (acc:List Foot) (S:St),runD hs P l acc Q S→∃E T,yju P hs l acc S E T∧Q T:=by
 intro l
 induction l with
 |nil=>intro acc S h;exact ⟨[],S, .nil acc S,h⟩
 | cons x l ih=>
   obtain ⟨o,fre⟩:=x
   intro acc S h
   have run:(∀g b,o.guard=some (g,b)→S.fr g= .bl b)→(eop hs P o.op o.dst S fun e=>yfh (yby o.op S e) acc fre∧runD hs P l (acc++ [yby o.op S e]) Q (e.app o.dst S))→∃E T,yju P hs ((o,fre)::l) acc S E T∧Q T:=by
    intro hg h
    obtain ⟨e,h1,h2,h3⟩:=yqa h
    obtain ⟨E,T,h4,h5⟩:=ih _ _ h3
    exact ⟨_,T, .cons _ _ _ _ _ _ _ _ _ (.run e hg h1) h2 h4,h5⟩
   have skip:∀g b,o.guard=some (g,b)→(S.fr g= .tup []∨∃c,S.fr g= .bl c∧c≠b)→runD hs P l (acc++ [yda]) Q (S.put o.dst (.tup []))→∃E T,yju P hs ((o,fre)::l) acc S E T∧Q T:=by
    intro g b hg hc h
    rw[<-yke] at h
    obtain ⟨E,T,h4,h5⟩:=ih _ _ h
    exact ⟨_,T, .cons _ _ _ _ _ _ _ _ _ (.skip g b hg hc) (yrR _ _) h4,h5⟩
   simp only[runD] at h
   split at h
   ·rename_i hg;exact run (fun g b e=>by rw[hg] at e;cases e) h
   ·rename_i g b hg
    split at h
    ·rename_i c e1
     split at h
     ·rename_i hc;subst hc;exact run (fun g' b' e=>by rw[hg] at e;cases e;exact e1) h
     ·rename_i hc;exact skip g b hg (.inr ⟨c,e1,hc⟩) h
    ·rename_i e1;exact skip g b hg (.inl e1) h
    ·exact h.elim
theorem yoR {hs:Nat→Bool} {l:List (AO×List Nat)} {acc:List Foot} {S T:St} {E:List (REff×Foot)} (h:yju P hs l acc S E T) (R:Reg):∀k,(∀j e,E[j]? =some e→R.eff (k+j)=e.1)→(∀j o,l[j]? =some o→R.dst (k+j)=o.1.dst)→
  E.length=l.length/\T=R.go (fun _=>true) (List.range' k l.length) S/\∀i o fre,l[i]? =some (o,fre)->∃e ft,E[i]? =some (e,ft)/\yiy P hs o (R.go (fun _=>true) (List.range' k i) S) e ft/\yfh ft (acc++(E.take i).map (·.2)) fre:=by
 induction h with
 |nil acc S=>intro k h1 h2;exact ⟨rfl,rfl,fun i o fre hi=>by simp at hi⟩
 | cons o fre r acc S T e ft E g1 g2 g3 ih=>
   intro k h1 h2
   have e0:R.eff k=e:=h1 0 (e,ft) rfl
   have d0:R.dst k=o.dst:=h2 0 (o,fre) rfl
   obtain ⟨i1,i2,i3⟩:=ih (k+1) (fun j e hj=>by have:=h1 (j+1) e (by simpa using hj);rw[<-this];congr 1;omega) (fun j o hj=>by have:=h2 (j+1) o (by simpa using hj);rw[<-this];congr 1;omega)
   refine ⟨by simp[i1],?_,?_⟩
   ·rw[List.length_cons,List.range'_succ]
    simp only[Reg.go,if_true]
    rw[e0,d0];exact i2
   ·intro i o' fre' hi
    cases i with
    | zero=>
      simp only[List.getElem?_cons_zero,Option.some.injEq,Prod.mk.injEq] at hi
      obtain ⟨rfl,rfl⟩:=hi
      exact ⟨e,ft,rfl,g1,by simpa using g2⟩
    | succ i=>
      obtain ⟨e',ft',q1,q2,q3⟩:=i3 i o' fre' (by simpa using hi)
      refine ⟨e',ft',by simpa using q1,?_,by simpa using q3⟩
      rw[List.range'_succ]
      simp only[Reg.go,if_true]
      rw[e0,d0];exact q2
theorem ynD (R:Reg) (l:List Nat) (S:St):R.go (fun _=>false) l S=S:=by
 induction l with
 |nil=>rfl
 |cons i l ih=>simpa [Reg.go] using ih
theorem Reg.st_lt (R:Reg) {i:Nat} (hi:i≤R.n) (S:St):R.st (fun j=>decide (j<i)) S=R.go (fun _=>true) (List.range' 0 i) S:=by
 unfold Reg.st
 have hsplit:List.range R.n=List.range' 0 i++List.range' i (R.n-i):=by
  rw[List.range_eq_range']
  have:=List.range'_append_1 (s:=0) (m:=i) (n:=R.n-i)
  rw[Nat.zero_add] at this
  rw[this];congr 1;omega
 rw[hsplit,Reg.go_append]
 rw[R.go_congr (D:=fun j=>decide (j<i)) (D':=fun _=>true) (l:=List.range' 0 i) (fun j hj=>by have:=(List.mem_range'_1.1 hj).2;simp;omega),
  R.go_congr (D:=fun j=>decide (j<i)) (D':=fun _=>false) (l:=List.range' i (R.n-i)) (fun j hj=>by have:=(List.mem_range'_1.1 hj).1;simp;omega),ynD]
theorem ylJ {hs:Nat→Bool} {CA:Program} {u:AOp} {d:Option Nat} {S:St} {e:REff} (hw:mayW u=false) (h:yfn hs CA u d S e):∃v,e=eff1 v:=by
 have pureK:∀ {o:Option AV},effP o=some e→∃v,e=eff1 v:=by
  intro o hp
  obtain ⟨v,hv,rfl⟩:=Option.map_eq_some_iff.1 hp
  exact ⟨v,rfl⟩
 cases u<;>simp only[mayW,yjX,Bool.true_eq_false] at hw<;>simp only[yfn,effA] at h
 case ld g sz x=>
  obtain ⟨p,hp,h⟩:=Option.bind_eq_some_iff.1 h
  split at h
  ·split at h
   ·cases h;exact ⟨_,rfl⟩
   ·cases h
  ·exact pureK h
 case b2s x=>
  split at h
  ·split at h
   ·exact pureK h
   ·cases h
  ·obtain ⟨b,hb,h⟩:=Option.bind_eq_some_iff.1 h
   split at h
   ·exact pureK h
   ·cases h
  ·cases h
 all_goals first|(exact pureK h)|(cases h;done)
theorem yf6 {hs:Nat→Bool} {d e sz m:Nat} {ys:List AV} {x:AV} {S:St} {f:REff} {s:Nat} (h:ycT hs d e sz m ys S x=some f) (hb:s∈f.bump):s=d:=by
 unfold ycT at h
 split at h
 ·split at h
  ·cases h;cases hb
  ·have:=(ycB h).2.2.2;rw[this] at hb;exact List.mem_singleton.1 hb
 ·obtain ⟨b,_,h⟩:=Option.bind_eq_some_iff.1 h
  split at h
  ·have:=(ycB h).2.2.2;rw[this] at hb;exact List.mem_singleton.1 hb
  ·cases h
 ·cases h
theorem yoq {hs:Nat→Bool} {u:AOp} {d:Option Nat} {S:St} {e:REff} {s:Nat} (h:effA hs u d S=some e) (hb:s∈e.bump):yjX u=true∧s=site d:=by
 have new:∀ {S ks b v},ycK hs (site d) S ks b v=some e→s=site d:=by
  intro S ks b v h
  have:=(ycB h).2.2.2;rw[this] at hb;exact List.mem_singleton.1 hb
 have newP:∀ {S ks b n},ycM hs (site d) S ks b n=some e→s=site d:=by
  intro S ks b n h
  have:=(yeM h).2.1;rw[this] at hb;exact List.mem_singleton.1 hb
 have pureK:∀ {o:Option AV},effP o=some e→False:=by
  intro o hp
  obtain ⟨v,hv,rfl⟩:=Option.map_eq_some_iff.1 hp
  cases hb
 cases u<;>simp only[effA] at h
 case ld g sz x=>
  obtain ⟨p,hp,h⟩:=Option.bind_eq_some_iff.1 h
  split at h
  ·split at h
   ·cases h;cases hb
   ·cases h
  ·exact (pureK h).elim
 case sto sz x y=>
  unfold ykx at h
  split at h
  ·obtain ⟨b,_,h⟩:=Option.bind_eq_some_iff.1 h
   split at h
   ·split at h<;>(cases h;cases hb)
   ·cases h
  ·cases h
 case sll sz x lo hi=>
  cases hx:ev S.fr x with
  | gs k n=>
    rw[hx] at h
    cases k with
    |h o=>cases h
    | l q c=>
      simp only[ygI] at h
      unfold yit at h
      split at h
      ·obtain ⟨b,_,h⟩:=Option.bind_eq_some_iff.1 h
       split at h
       ·cases h;cases hb
       ·cases h
      ·cases h
  |_=>rw[hx] at h;exact (pureK h).elim
 case box e sz x=>
  split at h
  ·exact ⟨rfl,new h⟩
  ·cases h
 case bsl e sz len z ps=>
  split at h
  ·obtain ⟨cs,_,h⟩:=Option.bind_eq_some_iff.1 h
   exact ⟨rfl,new h⟩
  ·cases h
 case app e sz bytes x y=>
  obtain ⟨p,_,h⟩:=Option.bind_eq_some_iff.1 h
  split at h
  ·exact ⟨rfl,yf6 h hb⟩
  ·cases h
 case apf e sz bytes x y=>
  obtain ⟨p,_,h⟩:=Option.bind_eq_some_iff.1 h
  split at h
  ·refine ⟨rfl,?_⟩
   unfold ycu at h
   split at h
   ·split at h
    ·cases h;cases hb
    ·exact newP h
   ·obtain ⟨b,_,h⟩:=Option.bind_eq_some_iff.1 h
    split at h
    ·exact newP h
    ·cases h
   ·cases h
  ·cases h
 case bsf e sz len z ps=>
  split at h
  ·obtain ⟨cs,_,h⟩:=Option.bind_eq_some_iff.1 h
   exact ⟨rfl,newP h⟩
  ·cases h
 case apps e x y=>
  split at h
  ·split at h
   ·exact ⟨rfl,yf6 h hb⟩
   ·cases h
  ·cases h
 case mks e sz bytes z l c=>
  split at h
  ·split at h
   ·exact ⟨rfl,new h⟩
   ·cases h
  ·cases h
 case apz e sz bytes z l c=>
  split at h
  ·split at h
   ·exact ⟨rfl,new h⟩
   ·cases h
  ·cases h
 case b2s x=>
  split at h
  ·split at h
   ·exact (pureK h).elim
   ·cases h
  ·obtain ⟨b,_,h⟩:=Option.bind_eq_some_iff.1 h
   split at h
   ·exact (pureK h).elim
   ·cases h
  ·cases h
 all_goals first|(exact (pureK h).elim)|(cases h;done)
theorem yjC {P:Program} {ops:Array Oper} {Q:Exit→Act→World→Prop} {F:Fence} {nn:Nat} {md:Region.Mode} (Inv:(Nat→Bool)→Act→World→Prop)
  (hwf:∀i o,ops[i]? =some o->∀e∈o.after.toList,Region.binds md e=true->e.on<i)
  (hstep:∀D i o a w,ops[i]? =some o->D i=false->(∀e∈o.after.toList,Region.binds md e=true->D e.on=true)->Inv D a w->wpOpIn F nn P ops Q i (Inv (RG.upd D i)) a w)
  (hend:∀D a w,(∀i,i<ops.size->D i=true)->Inv D a w->Q .normal a w):
  ∀(fuel:Nat) (listed:Array Bool) (a:Act) (w:World),listed.size=ops.size→((List.range ops.size).filter (fun i=> !listed.getD i false)).length≤fuel→
   Inv (fun j=>listed.getD j false) a w->wpAnyIn F nn P md ops Q fuel listed a w:=by
 have hall:∀listed:Array Bool,listed.size=ops.size→Region.ready md ops listed= []→∀i,i<ops.size→listed.getD i false=true:=by
  intro listed hs hr i
  induction i using Nat.strongRecOn with
  | ind i ih=>
    intro hi
    cases hb:listed.getD i false with
    |true=>rfl
    | false=>
      have hm:i∈Region.ready md ops listed:=RG.mem_ready.2 ⟨hi,by simpa [Array.getD,hs,hi] using hb,fun o ho e he hbd=>by
       have:=hwf i o ho e he hbd
       exact ih e.on this (by omega)⟩
      rw[hr] at hm
      cases hm
 intro fuel
 induction fuel with
 | zero=>
   intro listed a w hs hc hI
   have hl:∀i,i<ops.size→listed.getD i false=true:=by
    intro i hi
    cases hb:listed.getD i false with
    |true=>rfl
    | false=>
      have hm:i∈(List.range ops.size).filter (fun i=> !listed.getD i false):=List.mem_filter.2 ⟨List.mem_range.2 hi,by rw[hb];rfl⟩
      have:=List.length_pos_of_mem hm
      omega
   refine ⟨?_,hend _ a w hl hI⟩
   cases hr:Region.ready md ops listed with
   |nil=>rfl
   | cons x xs=>
     have hm:x∈Region.ready md ops listed:=by rw[hr];simp
     obtain ⟨h1,h2,_⟩:=RG.mem_ready.1 hm
     have:=hl x h1
     simp[Array.getD,hs,h1] at h2 this
     rw[this] at h2;cases h2
 | succ fuel ih=>
   intro listed a w hs hc hI
   refine ⟨fun hr=>hend _ a w (hall listed hs hr) hI,fun i hi=> ?_⟩
   obtain ⟨h1,h2,h3⟩:=RG.mem_ready.1 hi
   have ho:=Array.getElem?_eq_getElem h1
   have h2':listed.getD i false=false:=by simpa [Array.getD,hs,h1] using h2
   refine wpOpIn_mono ?_ (hstep _ i _ a w ho h2' (fun e he hb=>h3 _ ho e he hb) hI)
   intro a' w' hI'
   refine ih _ a' w' (by simp[hs]) ?_ ?_
   ·have hlt:((List.range ops.size).filter (fun j=> !(listed.setIfInBounds i true).getD j false)).length<((List.range ops.size).filter (fun j=> !listed.getD j false)).length:=by
     have e1:(List.range ops.size).filter (fun j=> !(listed.setIfInBounds i true).getD j false)=((List.range ops.size).filter (fun j=> !listed.getD j false)).filter (fun j=> !(j==i)):=by
      rw[List.filter_filter]
      refine List.filter_congr fun j hj=> ?_
      simp only[List.mem_range] at hj
      by_cases e:j=i
      ·subst e;simp[Array.getD,hs,hj]
      ·have e':i≠j:=fun h=>e h.symm
       simp[Array.getD,hs,hj,e,e']
     rw[e1]
     exact List.length_filter_lt_length_iff_exists.2 ⟨i,List.mem_filter.2 ⟨List.mem_range.2 h1,by rw[h2'];rfl⟩,by simp⟩
    omega
   ·have e:(fun j=>(listed.setIfInBounds i true).getD j false)=RG.upd (fun j=>listed.getD j false) i:=by
     funext j
     unfold RG.upd
     by_cases e:j=i
     ·subst e;simp[Array.getD,hs,h1]
     ·have e':i≠j:=fun h=>e h.symm
      by_cases hj:j<listed.size<;>simp[Array.getD,hj,e,e']
    rw[e]
    exact hI'
theorem yrv {a b:Foot} (h:okF a b):(∀p∈a.wk,∀k∈b.rk,Key.l p.1 p.2≠k)∧(∀p∈a.wk,∀q∈b.wk,p≠q)∧(∀p∈b.wk,∀k∈a.rk,Key.l p.1 p.2≠k)∧(a.wh=true→b.rh=false∧b.wh=false)∧(b.wh=true→a.rh=false)∧∀s∈a.bs,s∉b.bs:=by
 obtain ⟨h1,h2,h3,h4,h5⟩:=h
 exact ⟨fun p hp=>yaX.1 (yaX.1 h1 p hp).1,fun p hp=>yaX.1 (yaX.1 h1 p hp).2,fun p hp=>yaX.1 (yaX.1 h2 p hp),h3,h4,fun s hs ht=>yaX.1 (yaX.1 h5 s hs) s ht rfl⟩
theorem yoQ {P:Program} {N:Nat} {ops:Array Oper}:∀ {l:List Oper} {us:List AO},ynr P N ops l=some us→us.length=l.length∧∀(i:Nat) (o:Oper),l[i]? =some o→∃u g,us[i]? =some (⟨o.dst,g,u⟩:AO)∧TrO P N o u∧ycE ops N o.guard=some g∧yjh N o.dst=true:=by
 intro l
 induction l with
 |nil=>intro us h;simp only[ynr,Option.some.injEq] at h;subst h;exact ⟨rfl,fun i o hi=>by simp at hi⟩
 | cons o l ih=>
   intro us h
   simp only[ynr] at h
   split at h<;>first|(cases h;done)|skip
   rename_i u g us' h1 h2 h3 h4
   cases h
   obtain ⟨a,b⟩:=ih h4
   refine ⟨by simp[a],fun i o' hi=> ?_⟩
   cases i with
   |zero=>simp at hi;subst hi;exact ⟨_,g,rfl,⟨u,_,h1,rfl⟩,h2,h3⟩
   |succ i=>exact b i o' (by simpa using hi)
section
variable {B:Base} {N:Nat} {S:St} {a:Act} {G:Gh} {hs:Nat->Bool}
theorem yow {T:St} {o:AO} {rs:List Nat} (hrs:∀t∈ygt o,t∈rs) (h:∀t∈rs,S.fr t=T.fr t):(∀x∈opds o.op,ev T.fr x=ev S.fr x)∧∀g b,o.guard=some (g,b)→T.fr g=S.fr g:=by
 refine ⟨fun x hx=> ?_,fun g b hg=> ?_⟩
 ·cases x with
  |t n=>exact (h n (hrs n (List.mem_append_right _ (List.mem_flatMap.2 ⟨_,hx,by simp[yo8]⟩)))).symm
  |c v=>rfl
 ·refine (h g (hrs g (List.mem_append_left _ ?_))).symm
  rw[hg];simp
theorem ymP {P:Program} {T:St} {o:AO} {e:REff} {ft:Foot} (h:yiy P hs o S e ft) (hA:ylB (ygt o) ft.rk ft.rh e.bump S T):yiy P hs o T e ft:=by
 obtain ⟨e1,e2⟩:=yow (S:=S) (T:=T) (o:=o) (fun t ht=>ht) hA.fr
 cases h with
 | run e hg h=>
   have h':yfn hs P o.op o.dst T e:=yrg h e1 (fun k hk=>(hA.M k hk).symm) (fun s hs=>(hA.cnt s hs).symm) (fun hh=>by
    obtain ⟨p1,p2⟩:=hA.hp hh
    exact ⟨funext fun o=>(p1 o).symm,p2.symm⟩)
   have hf:yby o.op T e=yby o.op S e:=by
    have:rkOf o.op T=rkOf o.op S:=by
     have gen:∀u:AOp,(∀x∈opds u,ev T.fr x=ev S.fr x)→((opds u).flatMap fun x=>keyOf (ev T.fr x))=(opds u).flatMap fun x=>keyOf (ev S.fr x):=by
      intro u hu
      simp only[<-List.flatMap_map (ev T.fr) keyOf,<-List.flatMap_map (ev S.fr) keyOf]
      rw[List.map_congr_left hu]
     cases ho:o.op<;>rw[ho] at e1<;>simp only[rkOf]<;>first|(exact gen _ e1)|skip
     rename_i x args
     rw[e1 x (by simp[opds])]
     congr 1
     simp only[<-List.flatMap_map (ev T.fr) keyOf,<-List.flatMap_map (ev S.fr) keyOf]
     rw[List.map_congr_left fun y hy=>e1 y (by simp[opds,hy])]
    unfold yby;rw[this]
   rw[<-hf]
   exact .run e (fun g b hg'=>by rw[e2 g b hg'];exact hg g b hg') h'
 |skip g b hg h=>exact .skip g b hg (by rw[e2 g b hg];exact h)
theorem yqw {P:Program} [GB P B] {ro:Option Nat} {ops:Array Oper} {i:Nat} {o:Oper} {u:AOp} {g:Option (Nat×Bool)} {e:REff} {ft:Foot} {K:Act→World→Prop} {Q:Exit→Act→World→Prop} (h:Rel B N S a G) (ho:ops[i]? =some o) (hu:TrO P N o u) (hg:ycE ops N o.guard=some g) (hdo:yjh N o.dst=true)
  (hst:yiy P hs ⟨o.dst,g,u⟩ S e ft) (hK:∀a' G',Rel B N (e.app o.dst S) a' G'->K a' G'.w):wpOpIn (FR ro) 0 P ops Q i K a G.w:=by
 unfold wpOpIn
 simp only[ho]
 have hrun:yfn hs P u o.dst S e→o.wpIn (FR ro) 0 P a G.w K Q:=fun hE=>ynK h hu (yo9 (K:=fun v S'=>v=e.v∧S'=e.mst S) hE ⟨rfl,rfl⟩) fun av v S' G' ⟨h1,h2⟩ hR hv=>by
  subst h1;subst h2
  exact hK _ G' (hR.put hdo hv)
 cases hog:o.guard with
 | none=>
   rw[hog] at hg
   simp only[ycE,Option.some.injEq] at hg;subst hg
   rw[if_pos (by simp[Region.wanted,hog])]
   cases hst with
   |run e hg hE=>exact hrun hE
   |skip g b hg h=>cases hg
 | some jb=>
   obtain ⟨j,want⟩:=jb
   rw[hog] at hg
   simp only[ycE] at hg
   split at hg<;>first|(cases hg;done)|skip
   rename_i d hd
   split at hg<;>first|(cases hg;done)|skip
   rename_i hdN
   cases hg
   have hdt:d<a.tmps.size:=by rw[h.tsize];exact hdN
   have hslot:=h.slot d a.tmps[d] (Array.getElem?_eq_getElem hdt)
   cases hst with
   | run e hg hE=>
     have e1:=hg d want rfl
     rw[e1] at hslot
     have hb:a.tmps[d]? =some (.bool want):=by rw[Array.getElem?_eq_getElem hdt,hslot.bl_inv]
     have hw:Region.wanted o (yielded ops a.tmps)=true:=by simp[Region.wanted,hog,yielded,hd,hb]
     rw[if_pos hw]
     exact hrun hE
   | skip g b hg hc=>
     cases hg
     have hw:Region.wanted o (yielded ops a.tmps)=false:=by
      rcases hc with e1|⟨c,e1,hne⟩
      ·rw[e1] at hslot
       obtain ⟨vs,q0,q1,_⟩:=hslot.tup_inv
       have hb:a.tmps[d]? =some (.tuple vs):=by rw[Array.getElem?_eq_getElem hdt,q0]
       simp[Region.wanted,hog,yielded,hd,hb]
      ·rw[e1] at hslot
       have hb:a.tmps[d]? =some (.bool c):=by rw[Array.getElem?_eq_getElem hdt,hslot.bl_inv]
       simp[Region.wanted,hog,yielded,hd,hb,hne]
     rw[if_neg (by rw[hw];simp)]
     refine ⟨fun _ _=>trivial,hK _ G ?_⟩
     rw[yke]
     exact h.put hdo (.tup [] #[] rfl (fun j u x hu=>by simp at hu))
theorem yqr {P:Program} [GB P B] {ro:Option Nat} {id:Nat} {ops:Array Oper} {l:List (AO×List Nat)} {Qn:St→Prop} {Q:Exit→Act→World→Prop} (ht:trD P N ops=some l) (hr:runD hs P l [] Qn S) (h:Rel B N S a G) (hend:∀S a G,Qn S→Rel B N S a G→Q .normal a G.w):(Code.region id ops true).wpIn (FR ro) 0 P Q a G.w:=by
 unfold trD at ht
 split at ht
 case h_2=>cases ht
 rename_i us hus
 simp only at ht
 split at ht
 case isFalse=>cases ht
 rename_i hchk
 cases ht
 simp only[Bool.and_eq_true] at hchk
 obtain ⟨⟨⟨⟨hm,hwf⟩,hancC⟩,hpairs⟩,hal⟩:=hchk
 obtain ⟨hlen,hat⟩:=yoQ hus
 have hnn:us.length=ops.size:=by rw[hlen];simp
 generalize hanc:ancL ops.toList []=anc at*
 generalize hfre:freL us anc=fre at*
 have hfl:fre.length=us.length:=by rw[<-hfre];simp[freL]
 obtain ⟨E,T,hC,hQ⟩:=yoL _ _ _ hr
 let R:Reg:=⟨us.length,fun i=>((E[i]?).map (·.1)).getD (eff1 .un),fun i=>(us[i]?).bind (·.dst),fun i=>((us[i]?).map ygt).getD [],fun i=>((E[i]?).map (·.2.rk)).getD [],fun i=>((E[i]?).map (·.2.rh)).getD false,yb6 anc⟩
 have hzl:(us.zip fre).length=us.length:=by simp[hfl]
 have hz:∀(i:Nat) (o:AO) (f:List Nat),(us.zip fre)[i]? =some (o,f)↔us[i]? =some o∧fre[i]? =some f:=by
  intro i o f
  rw[List.getElem?_zip_eq_some]
 obtain ⟨c1,c2,c3⟩:=yoR hC R 0 (fun j e hj=>by show ((E[0+j]?).map (·.1)).getD _=_;rw[Nat.zero_add,hj];rfl) (fun j o hj=>by
  show (us[0+j]?).bind (·.dst)=_
  obtain ⟨o1,o2⟩:=o
  rw[Nat.zero_add,((hz j o1 o2).1 hj).1];rfl)
 rw[hzl] at c1 c2
 have all:∀i,i<us.length→∃o f e ft,us[i]? =some o∧yb6 fre i=f∧E[i]? =some (e,ft)∧yiy P hs o (R.st (fun j=>decide (j<i)) S) e ft∧yfh ft ((E.take i).map (·.2)) f:=by
  intro i hi
  have h1:=List.getElem?_eq_getElem hi
  have h2:=List.getElem?_eq_getElem (show i<fre.length by omega)
  obtain ⟨e,ft,q1,q2,q3⟩:=c3 i us[i] fre[i] ((hz i _ _).2 ⟨h1,h2⟩)
  refine ⟨_,_,e,ft,h1,?_,q1,?_,q3⟩
  ·unfold yb6;rw[h2];rfl
  ·rw[R.st_lt (Nat.le_of_lt hi)];exact q2
 have hwk:∀i,i<us.length→∃o e ft,us[i]? =some o∧E[i]? =some (e,ft)∧R.eff i=e∧R.dst i=o.dst∧R.rs i=ygt o∧R.rk i=ft.rk∧R.rh i=ft.rh∧ft.wk=e.mem.map (·.1)∧ft.wh=e.H.isSome∧ft.bs=e.bump∧(mayW o.op=false→ft.wk= []∧ft.wh=false∧ft.bs= [])∧(ft.rh=false→∀o, .h o∉ft.rk)∧yfh ft ((E.take i).map (·.2)) (yb6 fre i):=by
  intro i hi
  obtain ⟨o,f,e,ft,q1,q2,q3,q4,q5⟩:=all i hi
  refine ⟨o,e,ft,q1,q3,?_,?_,?_,?_,?_,?_,?_,?_,?_,?_,by rw[q2];exact q5⟩
  ·show ((E[i]?).map (·.1)).getD _=_;rw[q3];rfl
  ·show (us[i]?).bind (·.dst)=_;rw[q1];rfl
  ·show ((us[i]?).map ygt).getD _=_;rw[q1];rfl
  ·show ((E[i]?).map (·.2.rk)).getD _=_;rw[q3];rfl
  ·show ((E[i]?).map (·.2.rh)).getD _=_;rw[q3];rfl
  ·cases q4<;>rfl
  ·cases q4<;>rfl
  ·cases q4<;>rfl
  ·intro hw
   cases q4 with
   |run e hg hE=>obtain ⟨v,rfl⟩:=ylJ hw hE;exact ⟨rfl,rfl,rfl⟩
   |skip g b hg hc=>exact ⟨rfl,rfl,rfl⟩
  ·intro hh o' ho'
   cases q4 with
   | run e hg hE=>
     simp only[yby,Bool.or_eq_false_iff] at hh ho'
     rw[hh.1] at ho'
     have ho': .h o'∈rkOf o.op (R.st (fun j=>decide (j<i)) S):=by simpa using ho'
     have:yor (rkOf o.op (R.st (fun j=>decide (j<i)) S))=true:=List.any_eq_true.2 ⟨_,ho',rfl⟩
     rw[hh.2] at this;cases this
   |skip g b hg hc=>cases ho'
 have pair:∀i j,i<us.length→j<i→j∉yb6 anc i→(∀t,R.dst i=some t→R.dst j≠some t)∧(∀t,R.dst j=some t→t∉R.rs i)∧(∀t,R.dst i=some t→t∉R.rs j)∧(∀p∈(R.eff i).mem, .l p.1.1 p.1.2∉R.rk j)∧(∀p∈(R.eff j).mem, .l p.1.1 p.1.2∉R.rk i)∧(∀p∈(R.eff i).mem,∀q∈(R.eff j).mem,p.1≠q.1)∧
   ((R.eff i).H=none∨(R.eff j).H=none)/\((R.eff j).H=none∨R.rh i=false)/\((R.eff i).H=none∨R.rh j=false)/\∀s∈(R.eff i).bump,s∉(R.eff j).bump:=by
  intro i j hi hj hna
  obtain ⟨o,e,ft,q1,q2,q3,q4,q5,q6,q7,q8,q9,q9',q10,q11,q12⟩:=hwk i hi
  obtain ⟨o',e',ft',p1,p2,p3,p4,p5,p6,p7,p8,p9,p9',p10,p11,p12⟩:=hwk j (by omega)
  have hp:=List.all_eq_true.1 (List.all_eq_true.1 hpairs i (List.mem_range.2 hi)) j (List.mem_range.2 hj)
  rw[q1,p1] at hp
  simp only[ypv,Bool.or_eq_true,Bool.and_eq_true,List.contains_iff_mem] at hp
  have hp:=hp.resolve_left hna
  obtain ⟨⟨⟨d1,d2⟩,d3⟩,d4⟩:=hp
  have hF:okF ft ft':=by
   rcases d4 with d4|d4
   ·have:=yaX.1 q12 j d4
    rw[List.getElem?_map,List.getElem?_take_of_lt hj,p2] at this
    exact this
   ·simp only[Bool.not_eq_true'] at d4
    obtain ⟨a1,a2,a3⟩:=q10 d4.1
    obtain ⟨b1,b2,b3⟩:=p10 d4.2
    unfold okF
    rw[a1,a2,a3,b1,b2]
    exact ⟨trivial,trivial,fun h=>(by cases h),fun h=>(by cases h),trivial⟩
  obtain ⟨f1,f2,f3,f4,f5,f6⟩:=yrv hF
  have nm:∀ {e:REff} {ft:Foot} {p:(Nat×Nat)×Option Blk},ft.wk=e.mem.map (·.1)->p∈e.mem->p.1∈ft.wk:=fun h hp=>by rw[h];exact List.mem_map.2 ⟨_,hp,rfl⟩
  have hn:∀ {e:REff} {ft:Foot},ft.wh=e.H.isSome→e.H=none∨ft.wh=true:=by
   intro e ft h
   cases hH:e.H with
   |none=>exact .inl rfl
   |some x=>right;rw[h,hH];rfl
  refine ⟨?_,?_,?_,?_,?_,?_,?_,?_,?_,by rw[q3,p3,<-q9',<-p9'];exact f6⟩
  ·intro t ht1 ht2
   rw[q4] at ht1;rw[p4] at ht2
   rw[ht1,ht2] at d1
   simp[dNe] at d1
  ·intro t ht hm'
   rw[p4] at ht;rw[q5] at hm'
   rw[ht] at d2
   simp only[dNr,Bool.not_eq_true',List.contains_eq_mem,decide_eq_false_iff_not] at d2
   exact d2 hm'
  ·intro t ht hm'
   rw[q4] at ht;rw[p5] at hm'
   rw[ht] at d3
   simp only[dNr,Bool.not_eq_true',List.contains_eq_mem,decide_eq_false_iff_not] at d3
   exact d3 hm'
  ·intro p hp hk
   rw[q3] at hp;rw[p6] at hk
   exact f1 p.1 (nm q8 hp) _ hk rfl
  ·intro p hp hk
   rw[p3] at hp;rw[q6] at hk
   exact f3 p.1 (nm p8 hp) _ hk rfl
  ·intro p hp q hq
   rw[q3] at hp;rw[p3] at hq
   exact f2 p.1 (nm q8 hp) q.1 (nm p8 hq)
  ·rw[q3,p3]
   rcases hn q9 with h|h
   ·exact .inl h
   ·right
    have:=(f4 h).2
    rcases hn p9 with h'|h'
    ·exact h'
    ·rw[this] at h';cases h'
  ·rw[p3,q7]
   rcases hn p9 with h|h
   ·exact .inl h
   ·exact .inr (f5 h)
  ·rw[q3,p7]
   rcases hn q9 with h|h
   ·exact .inl h
   ·exact .inr (f4 h).1
 have hancs:∀i x,i<us.length→x∈yb6 anc i→x<i∧∃o e,ops[i]? =some o∧e∈o.after.toList∧Region.binds .any e=true∧(e.on=x∨x∈yb6 anc e.on):=by
  intro i x hi hx
  have h':=List.all_eq_true.1 (List.all_eq_true.1 hancC i (List.mem_range.2 (by omega))) x hx
  simp only[Bool.and_eq_true,decide_eq_true_eq] at h'
  refine ⟨h'.1,?_⟩
  have h':=h'.2
  cases ho:ops[i]? with
  |none=>rw[ho] at h';cases h'
  | some o=>
    rw[ho] at h'
    simp only[Option.map_some,Option.getD_some,List.any_eq_true,Bool.and_eq_true,Bool.or_eq_true,beq_iff_eq,List.contains_iff_mem] at h'
    obtain ⟨e,he,hb,h⟩:=h'
    exact ⟨o,e,rfl,he,hb,h⟩
 have hO:R.Ok:=by
  have tri:∀i j,i<us.length→j<us.length→R.free i j→(j<i∧j∉yb6 anc i)∨(i<j∧i∉yb6 anc j):=by
   rintro i j hi hj ⟨f1,f2,f3⟩
   rcases Nat.lt_or_ge j i with h|h
   ·exact .inl ⟨h,f2⟩
   ·exact .inr ⟨by omega,f3⟩
  refine ⟨fun i j hi hj hf=> ?_,fun i j hi hj hf=> ?_,fun i j hi hj hf=> ?_,fun i j hi hj hf=> ?_,fun i hi hh=> ?_,fun i x hx=> ?_⟩
  ·rcases tri i j hi hj hf with ⟨h1,h2⟩|⟨h1,h2⟩
   ·obtain ⟨a1,_,_,_,_,a6,a7,_,_,a10⟩:=pair i j hi h1 h2
    exact ⟨a1,a6,a10,a7⟩
   ·obtain ⟨a1,_,_,_,_,a6,a7,_,_,a10⟩:=pair j i hj h1 h2
    have a1':∀t,R.dst i=some t->R.dst j≠some t:=fun t h h'=>a1 t h' h
    exact ⟨a1',fun p hp q hq e=>a6 q hq p hp e.symm,fun s h1 h2=>a10 s h2 h1,a7.symm⟩
  ·rcases tri i j hi hj hf with ⟨h1,h2⟩|⟨h1,h2⟩
   ·exact (pair i j hi h1 h2).2.1
   ·exact (pair j i hj h1 h2).2.2.1
  ·rcases tri i j hi hj hf with ⟨h1,h2⟩|⟨h1,h2⟩
   ·exact (pair i j hi h1 h2).2.2.2.2.1
   ·exact (pair j i hj h1 h2).2.2.2.1
  ·rcases tri i j hi hj hf with ⟨h1,h2⟩|⟨h1,h2⟩
   ·exact (pair i j hi h1 h2).2.2.2.2.2.2.2.1
   ·exact (pair j i hj h1 h2).2.2.2.2.2.2.2.2.1
  ·obtain ⟨o,e,ft,q1,q2,q3,q4,q5,q6,q7,q8,q9,q9',q10,q11,q12⟩:=hwk i hi
   rw[q7] at hh;rw[q6];exact q11 hh
  ·by_cases hi:i<us.length
   ·exact (hancs i x hi hx).1
   ·have:yb6 anc i= []:=by
     have hl:∀(l:List Oper) (acc:List (List Nat)),(ancL l acc).length=acc.length+l.length:=by
      intro l
      induction l with
      |nil=>intro acc;simp[ancL]
      |cons o l ih=>intro acc;simp only[ancL];rw[ih];simp;omega
     have hal':anc.length=us.length:=by rw[<-hanc,hl,hlen];simp
     unfold yb6
     rw[List.getElem?_eq_none (by omega)];rfl
    rw[show R.anc i=yb6 anc i from rfl,this] at hx;cases hx
 have wf:∀i o,ops[i]? =some o→∀e∈o.after.toList,Region.binds .any e=true→e.on<i:=by
  intro i o ho e he hb
  have h':=List.all_eq_true.1 hwf i (List.mem_range.2 (Array.getElem?_eq_some_iff.1 ho).1)
  rw[ho] at h'
  simp only[Option.map_some,Option.getD_some,List.all_eq_true] at h'
  have:=h' e he
  rw[hb] at this
  simpa using this
 obtain ⟨G0,g1,g2,g3⟩:=h.toMRel.same_heap (w1:={G.w with drawn:=G.w.drawn+1}) rfl rfl rfl rfl
 let Inv:(Nat->Bool)->Act->World->Prop:=fun D a w=>(∀j,D j=true->j<us.length/\∀x∈yb6 anc j,D x=true)/\∃G,Rel B N (R.st D S) a G/\G.w=w
 refine wpIn_region_any hm (yjC (Q:=Q) Inv wf ?_ ?_ ops.size (Array.replicate ops.size false) a _ (by simp) ?_ ?_)
 ·rintro D i o a1 w1 ho hDi hready ⟨hD,G1,hR1,rfl⟩
  have hi:i<us.length:=by rw[hnn];exact (Array.getElem?_eq_some_iff.1 ho).1
  obtain ⟨u,g,k1,k2,k3,k4⟩:=hat i o (by rw[Array.getElem?_toList];exact ho)
  obtain ⟨o',e,ft,q1,q2,q3,q4,q5,q6,q7,q8,q9,q9',q10,q11,q12⟩:=hwk i hi
  rw[k1] at q1;cases q1
  obtain ⟨o',f,e',ft',p1,p2,p3,p4,p5⟩:=all i hi
  rw[k1] at p1;cases p1
  rw[q2] at p3;cases p3
  have hancD:∀x∈yb6 anc i,D x=true:=by
   intro x hx
   obtain ⟨_,o',ed,ho',he,hb,hor⟩:=hancs i x hi hx
   rw[ho] at ho';cases ho'
   have:=hready ed he hb
   rcases hor with h|h
   ·rw[<-h];exact this
   ·exact (hD _ this).2 x h
  have hnot:∀j,D j=true→i∉yb6 anc j:=fun j hj hm'=>by
   have:=(hD j hj).2 i hm'
   rw[hDi] at this;cases this
  have hA : ylB (R.rs i) (R.rk i) (R.rh i) (R.eff i).bump (R.st (fun j=>decide (j<i)) S) (R.st D S):=by
   refine R.agree hO hi (fun j hj=>List.mem_range.1 hj) (fun j hj hne=> ?_) ⟨fun _ _=>rfl,fun _ _=>rfl,fun _ _=>rfl,fun _=>⟨fun _=>rfl,rfl⟩⟩
   have hjn:=List.mem_range.1 hj
   rcases Nat.lt_trichotomy j i with hlt|heq|hgt
   ·have hDj:D j=false:=by
     cases hDj:D j with
     |false=>rfl
     |true=>rw[hDj] at hne;simp[hlt] at hne
    refine ⟨by omega,fun hm'=> ?_,fun hm'=> ?_⟩
    ·have:=hancD j hm';rw[hDj] at this;cases this
    ·have:=hO.anc j i hm';omega
   ·subst heq;rw[hDi] at hne;simp at hne
   ·have hDj:D j=true:=by
     cases hDj:D j with
     |true=>rfl
     | false => rw[hDj] at hne;have:¬j<i:=by omega
                simp[this] at hne
    refine ⟨by omega,fun hm'=> ?_,hnot j hDj⟩
    have:=hO.anc i j hm';omega
  rw[q5,q6,q7,q3] at hA
  have hst:=ymP p4 hA
  refine yqw hR1 ho k2 k3 k4 hst fun a' G' hR'=> ?_
  refine ⟨fun j hj=> ?_,G',?_,rfl⟩
  ·by_cases hji:j=i
   ·subst hji
    exact ⟨hi,fun x hx=>by simp[RG.upd,hancD x hx]⟩
   ·have hDj:D j=true:=by simpa [RG.upd,hji] using hj
    exact ⟨(hD j hDj).1,fun x hx=>by simp[RG.upd,(hD j hDj).2 x hx]⟩
  ·rw[R.st_succ hO hi hDi (fun j _ hj=>hnot j hj),q3,q4]
   exact hR'
 ·rintro D a1 w1 hall ⟨hD,G1,hR1,rfl⟩
  refine hend (R.st D S) a1 G1 ?_ hR1
  have:R.st D S=T:=by
   rw[c2]
   unfold Reg.st
   rw[List.range_eq_range']
   exact R.go_congr (fun j hj=>hall j (by have:=(List.mem_range'_1.1 hj).2;simp only[Nat.zero_add] at this;rw[<-hnn];exact this)) S
  rw[this];exact hQ
 ·exact Nat.le_trans (List.length_filter_le _ _) (by simp)
 ·have e0:(fun j=>(Array.replicate ops.size false).getD j false)=fun _=>false:=by
   funext j
   by_cases hj:j<ops.size<;>simp[Array.getD,hj]
  rw[e0]
  refine ⟨fun j hj=>(by cases hj),G0,?_,g1⟩
  have:R.st (fun _=>false) S=S:=ynD R _ S
  rw[this]
  exact h.lift g2 g3 rfl
end
end Go.AV
end
noncomputable section
namespace Go.AV
open Go.RowKit Go.RG
theorem ydb {α:Type}:(runtimePanic .nilDeref:Sem α).Looks:=fun _=>trivial
theorem ykg (t:TypeId):(isAgg t).Looks:=by
 unfold isAgg
 refine (underlying_looks t).bind fun d=> ?_
 split<;>exact trivial
theorem yk0 (t:TypeId) (a:Addr):(loadVar t a).Looks:=by
 unfold loadVar
 refine (ykg t).bind fun b=> ?_
 split
 ·exact (sizeOf_looks t).bind fun n=>(loadCells_looks a n).bind fun cs=>pure_looks _
 ·exact load_looks a _
theorem ygD (v:Value):(Instr.sureAddr v).Looks:=by
 unfold Instr.sureAddr;split<;>exact trivial
theorem ylE (t:TypeId) (cs:Array Value) (off:Nat):(part t cs off).Looks:=by
 unfold part
 refine (ykg t).bind fun b=> ?_
 split
 ·exact (sizeOf_looks t).bind fun n=>pure_looks _
 ·split<;>exact trivial
theorem yot (v:Value):(asAgg v).Looks:=by unfold asAgg;split<;>exact trivial
theorem yoh (t:TypeId) (v:Value) (f:Nat):(Instr.field t v f).Looks:=by
 unfold Instr.field
 refine (underlying_looks t).bind fun d=> ?_
 split
 ·split
  ·exact (yot v).bind fun cs=>ylE _ cs _
  ·exact trivial
 ·exact trivial
theorem ylb (v:Value) (i:Nat):(Instr.extract v i).Looks:=by
 unfold Instr.extract;split
 ·split<;>exact trivial
 ·exact trivial
theorem yce:∀(l:List FieldStep) (t:TypeId) (x:Option Value),(followBlind l t x).Looks
 | [],t,x=>trivial
 | s ::rest,t,x=>by
   unfold followBlind
   refine (underlying_looks _).bind fun d=> ?_
   split
   ·split
    ·split
     ·exact trivial
     ·exact yce rest _ _
     ·exact trivial
     ·exact trivial
     ·exact (ylE _ _ _).bind fun v=>yce rest _ _
     ·exact trivial
     ·exact yce rest _ _
    ·exact trivial
   ·exact trivial
theorem ygr:∀(n:Nat) (t:TypeId) (v:Value) (name:String),(nilAhead n t v name).Looks
 |0,t,v,name=>trivial
 | n +1,t,v,name=>by
   unfold nilAhead
   refine (typeInfo_looks _).bind fun d=> ?_
   split
   ·refine (yce _ _ _).bind fun r=> ?_
    split
    ·exact trivial
    ·split
     ·exact ygr n _ _ _
     ·exact trivial
     ·exact trivial
     ·exact trivial
     ·exact trivial
     ·refine (underlying_looks _).bind fun d=> ?_
      split<;>exact trivial
   ·exact trivial
theorem ym8 (a:Addr):(noView a).Looks:=by
 unfold noView
 repeat' first|exact trivial|exact fun _=>trivial|(refine Sem.Looks.bind ?_ fun _=> ?_)|split
theorem yiU (a:Addr):(byteOf a).Looks:=by
 unfold byteOf
 split
 ·exact trivial
 ·refine program_looks.bind fun p=>(ym8 a).bind fun _=>Sem.Looks.bind (x:=shape a.block) (fun s=>trivial) fun s=> ?_
  split
  ·simp only
   split
   ·exact trivial
   ·split
    ·exact trivial
    ·exact trivial
  ·exact trivial
theorem yhw (a:Addr) (f:Field):(fieldPlace a f).Looks:=by
 unfold fieldPlace
 refine (sizeOf_looks _).bind fun n=> ?_
 split
 ·exact (yiU _).bind fun b=>(yiU _).bind fun c=>pure_looks _
 ·exact trivial
theorem yk7 (s:TypeId) (v:Value) (f:Nat):(Instr.fieldAt s v f).Looks:=by
 unfold Instr.fieldAt
 refine (underlying_looks _).bind fun d=> ?_
 split
 ·split
  ·exact (ygD _).bind fun a=>(yhw _ _).bind fun p=>pure_looks _
  ·exact trivial
 ·exact trivial
theorem yir (t:TypeId):(zeroValue t).Looks:=by
 unfold zeroValue
 refine (typeInfo_looks _).bind fun d=> ?_
 split<;>exact trivial
theorem yoD (t:TypeId) (ps:Array (Nat×Value)):(Instr.build t ps).Looks:=by
 unfold Instr.build
 refine (yir _).bind fun z=>(underlying_looks _).bind fun d=> ?_
 split
 ·refine Sem.Looks.bind ?_ fun pl=> ?_
  ·rw[Array.mapM_eq_mapM_toList]
   exact Sem.Looks.bind (mapM_looks _ (fun f=>(sizeOf_looks _).bind fun n=>pure_looks _) _) fun l=>pure_looks _
  ·split<;>exact trivial
 ·refine (sizeOf_looks _).bind fun n=> ?_
  split<;>exact trivial
 ·exact trivial
theorem ymq {α β:Type} {V:β→Prop} {s:Sem α} {k:α→Sem β} (hk:∀y P w x w',(k y).run P w= .ok x w'→V x) {P:Program} {w:World} {x:β} {w':World} (hr:(s>>=k).run P w= .ok x w'):V x:=by
 rw[Sem.run_bind] at hr
 cases hq:s.run P w with
 |ok y w2=>rw[hq] at hr;exact hk y P w2 x w' hr
 |halt y w2=>rw[hq] at hr;cases hr
theorem yn0 {o:Oper} (h:rdOp o.op=true) (ρ:Operand→Value):(execOp ρ o).Looks∧∀P w x w',(execOp ρ o).run P w= .ok x w'→∃v,x= .value v:=by
 have form:∀s:Sem Value,s.Looks→execOp ρ o=(s>>=fun v=>pure (.value v))→(execOp ρ o).Looks∧∀P w x w',(execOp ρ o).run P w= .ok x w'→∃v,x= .value v:=by
  intro s hs e
  rw[e]
  refine ⟨hs.bind fun v=>pure_looks _,fun P w x w' hr=> ?_⟩
  rw[Sem.run_bind] at hr
  cases hq:s.run P w with
  |ok y w2=>rw[hq] at hr;cases hr;exact ⟨y,rfl⟩
  |halt y w2=>rw[hq] at hr;cases hr
 cases ho:o.op<;>rw[ho] at h<;>first|(cases h;done)|skip
 case move x=>exact form (pure (ρ x)) trivial (by unfold execOp;rw[ho];rfl)
 case assign x=>exact form (pure (ρ x)) trivial (by unfold execOp;rw[ho];rfl)
 case load t x=>exact form (Instr.loadAt t (ρ x)) ((ygD _).bind fun a=>yk0 _ a) (by unfold execOp;rw[ho])
 case field t x f=>exact form (Instr.field t (ρ x) f) (yoh _ _ _) (by unfold execOp;rw[ho])
 case extract x i=>exact form (Instr.extract (ρ x) i) (ylb _ _) (by unfold execOp;rw[ho])
 case fieldAddr s x f=>exact form (Instr.fieldAt s (ρ x) f) (yk7 _ _ _) (by unfold execOp;rw[ho])
 case build t ps=>exact form (Instr.build t (ps.map fun p=>(p.1,ρ p.2))) (yoD _ _) (by unfold execOp;rw[ho])
 case nilCheck x=>
  have e:execOp ρ o=match ρ x with
   | .pointer none| .nilIface| .nilFunc=>runtimePanic .nilDeref
   | .func (.method name) first captured=>match (first[0]? :Option Value) with
     |some .nilIface=>runtimePanic .nilDeref
     | some (.iface t w)=>do
       if (← nilAhead ((← program).types.size+Made.depth) t w name) !=some false then
        unsupported (.noEntry "op/nilCheck.the method's receiver behind this interface value is a nil pointer, or cannot be seen to be none, and the arguments act or may panic (ledger 612)")
       pure (.value (.func (.method name) first captured))
     |_=>pure (.value (.func (.method name) first captured))
   |x=>pure (.value x):=by unfold execOp;rw[ho];rfl
  have pd:∀P w x w',(runtimePanic .nilDeref:Sem Next).run P w= .ok x w'->∃v,x=Next.value v:=fun P w x w' hr=>by cases hr
  have pv:∀(u:Value) P w x w',(pure (.value u):Sem Next).run P w= .ok x w'->∃v,x=Next.value v:=fun u P w x w' hr=>by cases hr;exact ⟨u,rfl⟩
  rw[e]
  split
  ·exact ⟨ydb,pd⟩
  ·exact ⟨ydb,pd⟩
  ·exact ⟨ydb,pd⟩
  ·split
   ·exact ⟨ydb,pd⟩
   ·rename_i name first captured t w _
    refine ⟨program_looks.bind fun p=>(ygr _ _ _ _).bind fun b=> ?_,fun P w x w' hr=> ?_⟩
    ·split
     ·exact trivial
     ·exact trivial
    ·refine ymq (V:=fun x=>∃v,x=Next.value v) (fun p P w x w' hr=>ymq (V:=fun x=>∃v,x=Next.value v) (fun b P w x w' hr=> ?_) hr) hr
     cases hb:(b !=some false) with
     |true=>simp only[hb,if_true] at hr;cases hr
     |false=>simp only[hb,Bool.false_eq_true,if_false] at hr;exact pv _ _ _ _ _ hr
   ·exact ⟨trivial,pv _⟩
  ·exact ⟨trivial,pv _⟩
theorem ynO {o:Oper} (h:rdOp o.op=true) (P:Program) (w:World) (ρ:Operand→Value):o.about P w ρ=none:=by
 unfold Oper.about
 cases ho:o.op<;>rw[ho] at h<;>first|(cases h;done)|rfl
theorem ynX {o:Oper} (h:rdOp o.op=true):∀c,o.op≠ .defer c:=fun c e=>by rw[e] at h;cases h
theorem ymZ {o:Oper} (h:rdOp o.op=true):∀cs b,o.op≠ .select cs b:=fun cs b e=>by rw[e] at h;cases h
theorem ysf {o:Oper} (h:rdOp o.op=true) (P:Program) (ρ:Operand→Value) (w:World):(∃v,(execOp ρ o).run P w= .ok (.value v) w)∨∃e,(execOp ρ o).run P w= .halt e w:=by
 obtain ⟨hs,hv⟩:=yn0 h ρ
 have hw:=hs.world P w
 cases hr:(execOp ρ o).run P w with
 |ok x w'=>rw[hr] at hw;obtain rfl:w'=w:=hw;obtain ⟨v,rfl⟩:=hv _ _ _ _ hr;exact .inl ⟨v,rfl⟩
 |halt x w'=>rw[hr] at hw;obtain rfl:w'=w:=hw;exact .inr ⟨x,rfl⟩
section
variable {P:Program} {ops:Array Oper} {Q:Exit->Act->World->Prop} {F:Fence} {nn:Nat}
def RdV (P:Program) (ops:Array Oper) (o:Oper) (a:Act) (w:World) (v:Value):Prop:=
 (Region.wanted o (yielded ops a.tmps)=true/\(execOp a.eval o).run P w= .ok (.value v) w)∨(Region.wanted o (yielded ops a.tmps)=false/\v=undef)
theorem ynY {i:Nat} {o:Oper} {K:Act→World→Prop} {a:Act} {w:World} (hi:ops[i]? =some o) (h:rdOp o.op=true) (hQ:∀c a w,¬Q (.panic c) a w):wpOpIn F nn P ops Q i K a w↔∃v,RdV P ops o a w v∧K (a.put o.dst v) w:=by
 unfold wpOpIn
 simp only[hi]
 have hab:∀f,o.about P w a.eval=some f->F.fn f:=fun f e=>by rw[ynO h] at e;cases e
 cases hw:Region.wanted o (yielded ops a.tmps) with
 | true=>
   simp only[if_true]
   unfold Oper.wpIn
   rw[Oper.semAt_eq F.round a.eval o (ynX h)]
   constructor
   ·rintro ⟨_,k⟩
    rcases ysf h P a.eval w with ⟨v,e⟩|⟨x,e⟩
    ·rw[e] at k;exact ⟨v, .inl ⟨hw,e⟩,k⟩
    ·rw[e] at k
     cases x<;>first|exact (hQ _ _ _ k).elim|exact k.elim
   ·rintro ⟨v,⟨_,e⟩|⟨e,_⟩,k⟩
    ·rw[e];exact ⟨hab,k⟩
    ·rw[hw] at e;cases e
 | false=>
   simp only[Bool.false_eq_true,if_false]
   constructor
   ·rintro ⟨_,k⟩;exact ⟨undef, .inr ⟨hw,rfl⟩,k⟩
   ·rintro ⟨v,⟨e,_⟩|⟨_,rfl⟩,k⟩
    ·rw[hw] at e;cases e
    ·exact ⟨hab,k⟩
theorem RdV.put {o:Oper} {a:Act} {w:World} {v u:Value} {dst:Option Tmp} (h:rdOp o.op=true) (hd:∀d,dst=some d→d∉o.looksAt ops):RdV P ops o (a.put dst u) w v↔RdV P ops o a w v:=by
 unfold RdV
 rw[wanted_put o a dst u hd,execOp_put o (ymZ h) a dst u hd]
theorem yrd {p i:Nat} {op oi:Oper} {K:Act→World→Prop} {a:Act} {w:World} (hp:ops[p]? =some op) (hi:ops[i]? =some oi) (rp:rdOp op.op=true) (ri:rdOp oi.op=true) (hap:op.apart ops oi=true) (hQ:∀c a w,¬Q (.panic c) a w)
  (h:wpOpIn F nn P ops Q p (wpOpIn F nn P ops Q i K) a w):wpOpIn F nn P ops Q i (wpOpIn F nn P ops Q p K) a w:=by
 obtain ⟨h1,h2,h3⟩:=Oper.apart_spec hap
 obtain ⟨u,hu,k⟩:=(ynY hp rp hQ).1 h
 obtain ⟨v,hv,k⟩:=(ynY hi ri hQ).1 k
 refine (ynY hi ri hQ).2 ⟨v,(RdV.put ri h1).1 hv,(ynY hp rp hQ).2 ⟨u,(RdV.put rp h3).2 hu,?_⟩⟩
 rw[Act.put_comm a u v h2] at k
 exact k
theorem yjR {i:Nat} {oi:Oper} (hi:ops[i]? =some oi) (ri:rdOp oi.op=true) (hQ:∀c a w,¬Q (.panic c) a w) (post:List Nat):∀(pre:List Nat) (a:Act) (w:World),(∀p∈pre,∃op,ops[p]? =some op∧rdOp op.op=true∧op.apart ops oi=true)→wpOpsIn F nn P ops Q (pre++i::post) a w→wpOpIn F nn P ops Q i (wpOpsIn F nn P ops Q (pre++post)) a w
 | [],a,w,_,h=>by rw[List.nil_append,wpOpsIn_cons] at h;exact h
 | p::pre,a,w,hp,h=>by
   rw[List.cons_append,wpOpsIn_cons] at h
   obtain ⟨op,e,rp,hap⟩:=hp p List.mem_cons_self
   have h:=wpOpIn_mono (fun a' w' h'=>yjR hi ri hQ post pre a' w' (fun q hq=>hp q (List.mem_cons_of_mem _ hq)) h') h
   have h:=yrd e hi rp ri hap hQ h
   exact wpOpIn_mono (fun a' w' h'=>by rw[List.cons_append,wpOpsIn_cons];exact h') h
def remL (ops:Array Oper) (listed:Array Bool):List Nat:=(List.range ops.size).filter fun j=> !listed.getD j false
theorem ynI {anc:List (List Nat)} (hwf:∀i o,ops[i]? =some o→∀e∈o.after.toList,Region.binds .any e=true→e.on<i)
  (hanc:∀i x,i<ops.size->x∈yb6 anc i->∃o e,ops[i]? =some o/\e∈o.after.toList/\Region.binds .any e=true/\(e.on=x∨x∈yb6 anc e.on))
  (hfree:∀i j o,j<i->ops[i]? =some o->j∉yb6 anc i->rdOp o.op=true/\∃p,ops[j]? =some p/\rdOp p.op=true/\p.apart ops o=true) (hQ:∀c a w,¬Q (.panic c) a w):∀(fuel:Nat) (listed:Array Bool) (a:Act) (w:World),listed.size=ops.size->(remL ops listed).length<=fuel->(∀j,listed.getD j false=true->∀x∈yb6 anc j,listed.getD x false=true)->wpOpsIn F nn P ops Q (remL ops listed) a w->wpAnyIn F nn P .any ops Q fuel listed a w:=by
 have mem:∀ {listed:Array Bool} {i:Nat},i∈remL ops listed↔i<ops.size∧listed.getD i false=false:=by
  intro listed i;simp[remL,List.mem_filter]
 have rdy:∀ {listed:Array Bool},listed.size=ops.size→∀i∈Region.ready .any ops listed,i∈remL ops listed∧∀o,ops[i]? =some o→∀e∈o.after.toList,Region.binds .any e=true→listed.getD e.on false=true:=by
  intro listed hsz i hi
  obtain ⟨h1,h2,h3⟩:=RG.mem_ready.1 hi
  exact ⟨mem.2 ⟨h1,by simpa [Array.getD,hsz,h1] using h2⟩,h3⟩
 have nil:∀ {listed:Array Bool},listed.size=ops.size→Region.ready .any ops listed= []→remL ops listed= []:=by
  intro listed hsz hr
  have all:∀i,i<ops.size→listed.getD i false=true:=by
   intro i
   induction i using Nat.strongRecOn with
   | ind i ih=>
     intro hi
     cases hb:listed.getD i false with
     |true=>rfl
     | false=>
       have hm:i∈Region.ready .any ops listed:=RG.mem_ready.2 ⟨hi,by simpa [Array.getD,hsz,hi] using hb,fun o ho e he hbd=>ih e.on (hwf i o ho e he hbd) (by have:=hwf i o ho e he hbd;omega)⟩
       rw[hr] at hm;cases hm
  cases hq:remL ops listed with
  |nil=>rfl
  | cons x xs=>
    have hx:x∈remL ops listed:=by rw[hq];exact List.mem_cons_self
    obtain ⟨h1,h2⟩:=mem.1 hx
    rw[all x h1] at h2;cases h2
 intro fuel
 induction fuel with
 | zero=>
   intro listed a w hsz hl hc h
   have e0:remL ops listed= []:=List.length_eq_zero_iff.1 (by omega)
   rw[e0] at h
   refine ⟨?_,h⟩
   cases hr:Region.ready .any ops listed with
   |nil=>rfl
   | cons x xs=>
     have:=(rdy hsz x (by rw[hr];exact List.mem_cons_self)).1
     rw[e0] at this;cases this
 | succ fuel ih=>
   intro listed a w hsz hl hc h
   refine ⟨fun hr=>(by rw[nil hsz hr] at h;exact h),fun i hi=> ?_⟩
   obtain ⟨hm,hed⟩:=rdy hsz i hi
   obtain ⟨hin,hib⟩:=mem.1 hm
   obtain ⟨pre,post,hpp⟩:=List.append_of_mem hm
   have hoi:=Array.getElem?_eq_getElem hin
   have hanc':∀x∈yb6 anc i,listed.getD x false=true:=by
    intro x hx
    obtain ⟨o,e,ho,he,hb,hor⟩:=hanc i x hin hx
    have:=hed o ho e he hb
    rcases hor with rfl|hor
    ·exact this
    ·exact hc _ this x hor
   have hsorted:(remL ops listed).Pairwise (· < ·):=List.Pairwise.filter _ List.pairwise_lt_range
   rw[hpp] at hsorted
   have hlt:∀p∈pre,p<i:=fun p hp=>(List.pairwise_append.1 hsorted).2.2 p hp i List.mem_cons_self
   have hgt:∀p∈post,i<p:=fun p hp=>(List.pairwise_cons.1 (List.pairwise_append.1 hsorted).2.1).1 p hp
   have hpre:∀p∈pre,p∉yb6 anc i:=fun p hp hx=>by
    have h1:=hanc' p hx
    have h2:p∈remL ops listed:=by rw[hpp];exact List.mem_append_left _ hp
    rw[(mem.1 h2).2] at h1;cases h1
   rw[hpp] at h
   have hnew:remL ops (listed.setIfInBounds i true)=pre++post:=by
    have e1:remL ops (listed.setIfInBounds i true)=(remL ops listed).filter (fun j=> !(j==i)):=by
     unfold remL
     rw[List.filter_filter]
     refine List.filter_congr fun j hj=> ?_
     simp only[List.mem_range] at hj
     by_cases e:j=i
     ·subst e;simp[Array.getD,hsz,hj]
     ·have e':i≠j:=fun h=>e h.symm
      simp[Array.getD,hsz,hj,e,e']
    rw[e1,hpp,List.filter_append,List.filter_cons]
    have f1:pre.filter (fun j=> !(j==i))=pre:=List.filter_eq_self.2 fun p hp=>by have:=hlt p hp;simp;omega
    have f2:post.filter (fun j=> !(j==i))=post:=List.filter_eq_self.2 fun p hp=>by have:=hgt p hp;simp;omega
    rw[f1,f2];simp
   have key:wpOpIn F nn P ops Q i (wpOpsIn F nn P ops Q (pre++post)) a w:=by
    cases pre with
    |nil=>rw[List.nil_append,wpOpsIn_cons] at h;exact h
    | cons p0 pre=>
      have r0:=hfree i p0 _ (hlt p0 List.mem_cons_self) hoi (hpre p0 List.mem_cons_self)
      refine yjR hoi r0.1 hQ post (p0::pre) a w (fun p hp=> ?_) h
      exact (hfree i p _ (hlt p hp) hoi (hpre p hp)).2
   refine wpOpIn_mono (fun a' w' h'=>ih (listed.setIfInBounds i true) a' w' (by simp[hsz]) ?_ ?_ (by rw[hnew];exact h')) key
   ·rw[hnew];rw[hpp] at hl;simp at hl⊢;omega
   ·have get:∀j,(listed.setIfInBounds i true).getD j false=(decide (j=i)||listed.getD j false):=by
     intro j
     by_cases hj:j<ops.size
     ·by_cases e:j=i
      ·subst e;simp[Array.getD,hsz,hj]
      ·have e':i≠j:=fun h=>e h.symm
       simp[Array.getD,hsz,hj,e,e']
     ·have:j≠i:=by omega
      simp[Array.getD,hsz,hj,this]
    intro j hj x hx
    rw[get] at hj⊢
    simp only[Bool.or_eq_true,decide_eq_true_eq] at hj⊢
    rcases hj with rfl|hj
    ·exact .inr (hanc' x hx)
    ·exact .inr (hc j hj x hx)
end
end Go.AV
end
noncomputable section
namespace Go.AV
open Go.RowKit Go.RG Go.Lib
inductive AEx where
 |n
 |x (id:Nat)
 |r
def lsOf:Option Blk→Option LS
 |some ⟨_,0,[.rcd _ _ _ _ j]⟩=>some j
 |_=>none
section
variable {P:Program} {B:Base} [GB P B] {N:Nat}
theorem yk3 {S:St} {a:Act} {G:Gh} (h:Rel B N S a G) {c:Operand} {u:AOpd} {b:Bool} (hc:yaf P N c=some u) (he:ev S.fr u= .bl b):a.eval c= .bool b:=by
 have:=yaM h hc
 rw[he] at this
 exact this.bl_inv
theorem MRel.grownI {S:St} {G:Gh} (h:MRel B S G) {w1:World} (hg:G.w.grownBy w1 none):∃G',G'.w=w1∧MRel B S G'∧LE G G'∧G'.I=G.I:=by
 let G':Gh:=⟨G.κ,G.dead,G.I,w1,G.ft⟩
 have hsame:∀q,q<G.w.heap.size->w1.heap[q]? =G.w.heap[q]? :=fun q hq=>hg.block q hq (by simp)
 have hle:LE G G':=⟨fun _ _ hr=> .inl hr,fun _ hd=>hd,fun _ hb=>hb,fun q hq=>hsame q (h.lt q hq),fun q ds hq=>⟨hsame q (Array.getElem?_eq_some_iff.1 hq).1,fun h=>h⟩⟩
 refine ⟨G',rfl,⟨fun k=>(h.blk k).le hle fun q hq=>hsame q.1 (h.apart k q hq).2,h.inj,h.dead,h.live,fun k r hr=>⟨(h.apart k r hr).1,Nat.lt_of_lt_of_le (h.apart k r hr).2 hg.size⟩,fun b hb=>Nat.lt_of_lt_of_le (h.lt b hb) hg.size,h.loc,h.keep,h.heap,h.nx,h.gone,h.I0,h.I1,
  hg.os.trans h.os,hg.tape.trans h.tape,hg.output.trans h.output,Nat.le_trans h.size hg.size,fun b hb hq=>(hsame b (Nat.lt_of_lt_of_le hb h.size)).trans (h.same b hb hq),h.hno,h.fo.on (fun k r hr=> .inl ⟨hr,rfl,fun _ q _ _=>q⟩) (fun x hx=> .inl hx) hg.size (fun k x hx=>hsame x (h.fo.ap k x hx).2) (fun k b r hb hk _ _=>hsame r.1 (h.apart k r hk).2)⟩,hle,rfl⟩
theorem DfOk.put {G G':Gh} {ds:List Deferred} (h:DfOk B G ds) {l:Nat} {q:Loop} (hl:G.w.heap[l]? =some (.loop q)) (hI:G'.I=G.I) (hs:∀r,r≠l→G'.w.heap[r]? =G.w.heap[r]?):DfOk B G' ds:=by
 obtain ⟨rs,h1,h2,h3⟩:=h
 refine ⟨rs,h1,h2,fun r hr=> ?_⟩
 obtain ⟨a,b,c⟩:=h3 r hr
 refine ⟨(hs r (fun e=> ?_)).trans a,by rw[hI];exact b,c⟩
 rw[e,hl] at a;cases a
end
def res1 (S:St):Nat×Option Nat→Option AV
 |(t,none)=>some (S.fr t)
 |(t,some 0)=>(tgt S (S.fr t)).bind fun p=>p.1[p.2]?
 |(t,some (sz+1))=>(tgt S (S.fr t)).bind fun p=>if p.2+(sz+1)<=p.1.length then some (.agg ((p.1.drop p.2).take (sz+1))) else none
def resL (S:St):List (Nat×Option Nat)→Option (List AV)
 | []=>some []
 | p::r=>match res1 S p,resL S r with
   |some u,some us=>some (u::us)
   |_,_=>none
def resA (S:St) (l:List (Nat×Option Nat)):Option AV:=(resL S l).map fun us=>match us with
 | [u]=>u
 |us=> .tup us
def argF (args:List AV) (t:Nat):AV:=(args[t]?).getD (.tup [])
def ytc (H:Hp) (k:Key):Option Blk:=match k with| .h o=>H o| .l _ _=>none
def ymh (args:List AV) (H:Hp) (n:Nat):St:=⟨argF args,ytc H,fun _=>0,n⟩
section
variable {P:Program} {B:Base} [GB P B] {N:Nat}
theorem MRel.forget {S:St} {G:Gh} (h:MRel B S G) (hB:∀d c,B.κ (.l d c)=none):∃G',G'.w=G.w∧MRel B (hSt S.hp S.nx) G'∧(∀o r,G.κ (.h o)=some r→G'.κ (.h o)=some r)∧(∀o,G.dead (.h o)→G'.dead (.h o))∧(∀b,G.I b→G'.I b):=by
 obtain ⟨Gc,b1,b2,b3,b4,b4',b5,b6⟩:=yjJ h
 have hk:∀k r,Gc.κ k=some r→∃o,k= .h o∧G.κ (.h o)=some r:=by
  intro k r hr
  cases k with
  |l d c=>rw[b4] at hr;cases hr
  |h o=>rw[b3] at hr;exact ⟨o,rfl,hr⟩
 refine ⟨Gc,b1,⟨b6.blk,b6.inj,b6.dead,b6.live,b6.apart,b6.lt,?_,?_,?_,h.nx,?_,fun b hb=>by rw[b2];exact h.I0 b hb,fun b hb=>by rw[b2] at hb;exact h.I1 b hb,by rw[b1];exact h.os,by rw[b1];exact h.tape,by rw[b1];exact h.output,by rw[b1];exact h.size,fun b p q=>by rw[b1];exact h.same b p q,b6.hno,⟨b6.fo.dj1,b6.fo.dj2,b6.fo.ap,b6.fo.nd,fun k x q=>(b4' k x q.2).elim,b6.fo.rep,b6.fo.hh⟩⟩,fun o r hr=>by rw[b3];exact hr,b5,fun b hb=>by rw[b2];exact hb⟩
 ·intro d c r hr;rw[b4] at hr;cases hr
 ·intro k r hr
  cases k with
  |l d c=>rw[hB] at hr;cases hr
  | h o=>
    rcases h.keep (.h o) r hr with hq|hq
    ·left;rw[b3];exact hq
    ·exact .inr (b5 o hq)
 ·intro o r hr
  rw[b3] at hr;exact h.heap o r hr
 ·intro o ho hb
  rw[b3];exact h.gone o ho hb
theorem yoK {S:St} {a:Act} {G:Gh} (h:Rel B N S a G):∀(rs:List ResultVar) (l:List (Nat×Option Nat)) (us:List AV),yix P N rs=some l→resL S l=some us→
  ∃vs:List Value,(rs.mapM (fun r=>match r with| .tmp t=>pure (a.tmps.getD t undef)| .cell p t=>do loadVar t (<-asAddr (a.tmps.getD p undef))):Sem (List Value)).run P G.w= .ok vs G.w/\VRs G us vs:=by
 intro rs
 induction rs with
 | nil=>
   intro l us ht hr
   simp only[yix,Option.some.injEq] at ht;subst ht
   simp only[resL,Option.some.injEq] at hr;subst hr
   exact ⟨[],by simp,rfl,fun j u x hu=>by simp at hu⟩
 | cons r rs ih=>
   intro l us ht hr
   cases r with
   | tmp t=>
     simp only[yix] at ht
     split at ht<;>first|(cases ht;done)|skip
     rename_i htN
     obtain ⟨l',hl',rfl⟩:=Option.map_eq_some_iff.1 ht
     simp only[resL,res1] at hr
     split at hr<;>first|(cases hr;done)|skip
     rename_i u us' e1 e2
     cases e1;cases hr
     obtain ⟨vs,g1,g2⟩:=ih l' us' hl' e2
     have htt:t<a.tmps.size:=by rw[h.tsize];exact htN
     have hv:=h.slot t a.tmps[t] (Array.getElem?_eq_getElem htt)
     have hgd:a.tmps.getD t undef=a.tmps[t]:=by simp[Array.getD,htt]
     refine ⟨a.tmps[t]::vs,?_,VRs.cons hv g2⟩
     simp only[List.mapM_cons,Sem.run_bind,Sem.run_pure,Result.andThen_ok,g1,hgd]
   | cell t ty=>
     simp only[yix] at ht
     split at ht<;>first|(cases ht;done)|skip
     ·rename_i sz l' h1 h2
      split at ht<;>first|(cases ht;done)|skip
      rename_i htN
      cases ht
      simp only[resL,res1] at hr
      split at hr<;>first|(cases hr;done)|skip
      rename_i u us' e1 e2
      cases hr
      obtain ⟨⟨cs,off⟩,t1,t2⟩:=Option.bind_eq_some_iff.1 e1
      obtain ⟨vs,g1,g2⟩:=ih l' us' h2 e2
      have htt:t<a.tmps.size:=by rw[h.tsize];exact htN
      have hv:=h.slot t a.tmps[t] (Array.getElem?_eq_getElem htt)
      have hgd:a.tmps.getD t undef=a.tmps[t]:=by simp[Array.getD,htt]
      obtain ⟨b,base,e,hat⟩:=ymo h.toMRel hv t1
      have ha0:a.eval (.tmp t)=a.tmps[t]:=hgd
      obtain ⟨v,hr0,hv0⟩:=m_ld (P:=P) h (o:={dst:=none,op:= .load ty (.tmp t),type:=ty,pos:= "",after:= #[],guard:=none}) rfl (x:= .tmp t) (ux:= .t t) (by simp[yaf,htN]) h1 t1 (by simpa using t2)
      have hrun:(loadVar ty ⟨b,base+off,none⟩).run P G.w= .ok v G.w:=by
       simp only[execOp,Instr.loadAt,Instr.sureAddr,ha0,e] at hr0
       simp only[Sem.run_bind,Sem.run_pure,Result.andThen_ok] at hr0
       cases hq:(loadVar ty ⟨b,base+off,none⟩).run P G.w with
       |ok x w=>rw[hq] at hr0;simp at hr0;rw[hr0.1,hr0.2]
       |halt x w=>rw[hq] at hr0;simp[Result.andThen] at hr0
      refine ⟨v::vs,?_,VRs.cons hv0 g2⟩
      have has:(asAddr (a.tmps.getD t undef)).run P G.w= .ok ⟨b,base+off,none⟩ G.w:=by rw[hgd,e];rfl
      simp only[List.mapM_cons,Sem.run_bind,Sem.run_pure,Result.andThen_ok,g1,has,hrun]
     ·rename_i l' h1 h2
      split at ht<;>first|(cases ht;done)|skip
      rename_i htN
      cases ht
      simp only[resL,res1] at hr
      split at hr<;>first|(cases hr;done)|skip
      rename_i u us' e1 e2
      cases hr
      obtain ⟨⟨cs,off⟩,t1,t2⟩:=Option.bind_eq_some_iff.1 e1
      obtain ⟨vs,g1,g2⟩:=ih l' us' h2 e2
      have htt:t<a.tmps.size:=by rw[h.tsize];exact htN
      have hv:=h.slot t a.tmps[t] (Array.getElem?_eq_getElem htt)
      have hgd:a.tmps.getD t undef=a.tmps[t]:=by simp[Array.getD,htt]
      obtain ⟨b,base,e,hat⟩:=ymo h.toMRel hv t1
      have ha0:a.eval (.tmp t)=a.tmps[t]:=hgd
      obtain ⟨v,hr0,hv0⟩:=m_ld (P:=P) h (o:={dst:=none,op:= .load ty (.tmp t),type:=ty,pos:= "",after:= #[],guard:=none}) rfl (x:= .tmp t) (ux:= .t t) (by simp[yaf,htN]) h1 t1 (by simpa using t2)
      have hrun:(loadVar ty ⟨b,base+off,none⟩).run P G.w= .ok v G.w:=by
       simp only[execOp,Instr.loadAt,Instr.sureAddr,ha0,e] at hr0
       simp only[Sem.run_bind,Sem.run_pure,Result.andThen_ok] at hr0
       cases hq:(loadVar ty ⟨b,base+off,none⟩).run P G.w with
       |ok x w=>rw[hq] at hr0;simp at hr0;rw[hr0.1,hr0.2]
       |halt x w=>rw[hq] at hr0;simp[Result.andThen] at hr0
      refine ⟨v::vs,?_,VRs.cons hv0 g2⟩
      have has:(asAddr (a.tmps.getD t undef)).run P G.w= .ok ⟨b,base+off,none⟩ G.w:=by rw[hgd,e];rfl
      simp only[List.mapM_cons,Sem.run_bind,Sem.run_pure,Result.andThen_ok,g1,has,hrun]
theorem ylG {S:St} {a:Act} {G:Gh} (h:Rel B N S a G) {fn:Func} {l:List (Nat×Option Nat)} {u:AV} (ht:yix P N fn.results.toList=some l) (hr:resA S l=some u):∃v,(results fn a.tmps).run P G.w= .ok v G.w∧VR G u v:=by
 unfold resA at hr
 obtain ⟨us,h1,h2⟩:=Option.map_eq_some_iff.1 hr
 obtain ⟨vs,g1,g2⟩:=yoK h fn.results.toList l us ht h1
 have hrun:∀f:ResultVar→Sem Value,(fn.results.toList.mapM f).run P G.w= .ok vs G.w→(fn.results.mapM f).run P G.w= .ok vs.toArray G.w:=by
  intro f hf
  rw[Array.mapM_eq_mapM_toList]
  simp[hf]
 have hres:∀(f:ResultVar→Sem Value),(fn.results.mapM f).run P G.w= .ok vs.toArray G.w→(do let vs ← fn.results.mapM f;pure (if h:vs.size=1 then vs[0] else .tuple vs):Sem Value).run P G.w= .ok (if h:vs.toArray.size=1 then vs.toArray[0] else .tuple vs.toArray) G.w:=by
  intro f hf
  simp only[Sem.run_bind,hf,Result.andThen_ok,Sem.run_pure]
 refine ⟨if h:vs.toArray.size=1 then vs.toArray[0] else .tuple vs.toArray,?_,?_⟩
 ·unfold results
  exact hres _ (hrun _ g1)
 ·split
  ·rename_i h1'
   have hl:vs.length=1:=by simpa using h1'
   obtain ⟨v0,rfl⟩:=List.length_eq_one_iff.1 hl
   obtain ⟨u0,rfl⟩:=List.length_eq_one_iff.1 (g2.1.symm.trans hl)
   subst h2
   exact g2.head
  ·rename_i h1'
   have hu:u= .tup us:=by
    match us,h2 with
    | [],h2=>exact h2.symm
    | [_],h2=>have:=g2.1;simp at this;exact absurd (by simpa using this) h1'
    |_::_::_,h2=>exact h2.symm
   rw[hu]
   exact .tup us vs.toArray (by simpa using g2.1) (fun j u x p q=>g2.2 j u x p (by simpa using q))
def yne (w:World) (rs:List Nat):World:=rs.foldl (fun w r=>w.putObj r (.deferred none)) w
theorem Rel.leave {S:St} {a:Act} {G:Gh} (h:Rel B N S a G):∃rs G',a.defers=rs.map (fun r=>{target:= .collected r,args:= #[]})∧rs.Nodup∧(∀r∈rs,G.w.heap[r]? =some (.deferred (some [])))∧G'.w=yne G.w rs∧Rel B N S {a with defers:= []} G':=by
 obtain ⟨rs0,h1,h2,h3⟩:=h.defers
 obtain ⟨rs,rs2,rfl,e1,e2⟩:=List.map_eq_append_iff.1 h1.symm
 refine ⟨rs,?_⟩
 have key:∀(rs:List Nat) (G:Gh),(rs++rs2).Nodup→(∀r∈rs++rs2,G.w.heap[r]? =some (.deferred (some []))∧¬G.I r∧B.w.heap.size≤r)→Rel B N S {a with defers:= []} G→∃G',G'.w=yne G.w rs∧Rel B N S {a with defers:= []} G':=by
  intro rs
  induction rs with
  |nil=>intro G _ _ h;exact ⟨G,rfl,h⟩
  | cons r rs ih=>
    intro G hnd hr h
    obtain ⟨a1,a2,a3⟩:=hr r (by simp)
    obtain ⟨G1,b1,b2,b3,b4⟩:=h.toMRel.take (r:=r) (o:= .deferred none) (fun k q hk=>⟨fun e=>h.toMRel.notDfr hk _ (e▸a1),fun e=>h.fo.nd k r ⟨⟨q,hk⟩,e⟩ _ a1⟩) a2 a3
    obtain ⟨hn1,hn2⟩:=List.nodup_cons.1 (show (r::(rs++rs2)).Nodup from hnd)
    have hq:∀q∈rs++rs2,G1.w.heap[q]? =some (.deferred (some []))∧¬G1.I q∧B.w.heap.size≤q:=fun q hq=>by
     obtain ⟨d1,d2,d3⟩:=hr q (List.mem_cons_of_mem _ hq)
     refine ⟨?_,by rw[b2];exact d2,d3⟩
     rw[b1,World.putObj_heap_other (fun e=>hn1 (by rw[<-e];exact hq))];exact d1
    obtain ⟨G2,c1,c2⟩:=ih G1 hn2 hq {b3 with defers:=⟨rs2,e2.symm,(List.nodup_append.1 hn2).2.1,fun q hq'=>hq q (List.mem_append_right _ hq')⟩,tsize:=h.tsize,slot:=fun t v hv=>(h.slot t v hv).le0 b4,ext:=fun j v hv=>(h.ext j v hv).le0 b4}
    exact ⟨G2,by rw[c1,b1];rfl,c2⟩
 obtain ⟨G',f1,f2⟩:=key rs G h2 h3 {h.toMRel with defers:=⟨rs2,e2.symm,(List.nodup_append.1 h2).2.1,fun q hq=>h3 q (List.mem_append_right _ hq)⟩,tsize:=h.tsize,slot:=h.slot,ext:=h.ext}
 exact ⟨G',e1.symm,(List.nodup_append.1 h2).1,fun r hr=>(h3 r (List.mem_append_left _ hr)).1,f1,f2⟩
theorem yil {F:Fence} {nn:Nat} {fn:Func} {tmps:Array Value} {R:Ending→World→Prop}:∀(rs:List Nat) (w:World),rs.Nodup→(∀r∈rs,w.heap[r]? =some (.deferred (some [])))→(∃v,(results fn tmps).run P (yne w rs)= .ok v (yne w rs)∧R (.returned v) (yne w rs))→
  LeavesInM F nn P fn tmps R (rs.map (fun r=>{target:= .collected r,args:= #[]})) .returning w:=by
 intro rs
 induction rs with
 |nil=>intro w _ _ h;exact h
 | cons r rs ih=>
   intro w hnd hr h
   obtain ⟨hn1,hn2⟩:=List.nodup_cons.1 hnd
   refine ⟨by simp, .inl ⟨r,w.putObj r (.deferred none),rfl,run_takeDeferred (hr r (by simp)),?_⟩⟩
   refine ih _ hn2 (fun q hq=> ?_) h
   rw[World.putObj_heap_other (fun e=>hn1 (by rw[<-e];exact hq))];exact hr q (List.mem_cons_of_mem _ hq)
theorem enters_of {f:FuncId} {F:AFn} (hF:trF P f=some F) (vs:Array Value) (w:World):(callFunc f vs).run P w= .ok (.enter f vs) w:=by
 unfold trF at hF
 split at hF<;>first|(cases hF;done)|skip
 rename_i fn hfn
 obtain ⟨hf6,hfn⟩:=yjw hfn
 split at hF<;>first|(cases hF;done)|skip
 rename_i b hb
 split at hb
 ·cases hb
 ·rename_i hname
  simp only[callFunc,Sem.run_bind,run_program,Result.andThen_ok,hfn]
  rw[if_neg hname]
  simp[hb]
end
end Go.AV
end
noncomputable section
namespace Go.AV
open Go.RowKit Go.RG Go.Lib
structure KB where
 e:Nat
 sz:Nat
 cells:List AV
 q:Bool
def KB.blk (b:KB):Blk:=⟨b.e,b.sz,b.cells⟩
structure KS where
 fr:List (Nat×AV)
 mem:List (Nat×KB)
 H:Hp
 nx:Nat
def lkF:List (Nat×AV)→Nat→AV
 | [],_=> .un
 | p::r,t=>match Nat.beq p.1 t with
   |true=>p.2
   |false=>lkF r t
def lkM:List (Nat×KB)→Nat→Option KB
 | [],_=>none
 | p::r,t=>match Nat.beq p.1 t with
   |true=>some p.2
   |false=>lkM r t
def KS.M (ks:KS):Key→Option Blk
 | .h o=>ks.H o
 | .l d c=>match Nat.beq c 1 with
   |true=>(lkM ks.mem d).map KB.blk
   |false=>none
def toS (ks:KS):St:=⟨lkF ks.fr,ks.M,fun _=>1,ks.nx⟩
def KB.okb (b:KB):Prop:=b.sz≠0∨(opq b.blk=true/\isRc b.cells=false)
def KOk (ks:KS):Prop:=∀d b,lkM ks.mem d=some b->b.okb/\(b.q=true->noLs b.cells=true)
theorem nbeq {a b:Nat}:Nat.beq a b=true↔a=b:=⟨Nat.eq_of_beq_eq_true,fun h=>h▸Nat.beq_refl a⟩
theorem yaJ (p:Nat×AV) (r:List (Nat×AV)) (t:Nat):lkF (p::r) t=if p.1=t then p.2 else lkF r t:=by
 simp only[lkF]
 by_cases h:p.1=t
 ·rw[if_pos h,nbeq.2 h]
 ·rw[if_neg h]
  cases hb:Nat.beq p.1 t with
  |true=>exact absurd (nbeq.1 hb) h
  |false=>rfl
theorem yhz (p:Nat×KB) (r:List (Nat×KB)) (t:Nat):lkM (p::r) t=if p.1=t then some p.2 else lkM r t:=by
 simp only[lkM]
 by_cases h:p.1=t
 ·rw[if_pos h,nbeq.2 h]
 ·rw[if_neg h]
  cases hb:Nat.beq p.1 t with
  |true=>exact absurd (nbeq.1 hb) h
  |false=>rfl
theorem M_l1 (ks:KS) (d:Nat):ks.M (.l d 1)=(lkM ks.mem d).map KB.blk:=rfl
theorem M_lc (ks:KS) {d c:Nat} {b:Blk} (h:ks.M (.l d c)=some b):c=1∧∃kb,lkM ks.mem d=some kb∧b=kb.blk:=by
 simp only[KS.M] at h
 split at h
 ·rename_i hc
  obtain ⟨kb,h1,h2⟩:=Option.map_eq_some_iff.1 h
  exact ⟨nbeq.1 hc,kb,h1,h2.symm⟩
 ·cases h
inductive RV (ρ:Nat→Option (Nat×Nat)) (S:St) (p:Nat×Nat→Prop):AV→AV→Prop
 |no (u:AV) (h:u.noL=true):RV ρ S p u u
 |un (v:AV):RV ρ S p .un v
 |gs (d n:Nat) (k:Nat×Nat) (h:ρ d=some k):RV ρ S p (.gs (.l d 1) n) (.gs (.l k.1 k.2) n)
 |pt (d off:Nat) (k:Nat×Nat) (h:ρ d=some k):RV ρ S p (.pt (.l d 1) off) (.pt (.l k.1 k.2) off)
 |pub (k:Nat×Nat) (n:Nat) (b:Blk) (hp:p k) (hm:S.M (.l k.1 k.2)=some b) (hl:b.cells.length=n*b.sz) (hz:b.sz≠0) (hq:noLs b.cells=true):RV ρ S p (.sl false n b.cells) (.gs (.l k.1 k.2) n)
 |nil:RV ρ S p (.sl false 0 []) (.sl true 0 [])
 |ep (xs:List AV) (off w:Nat):RV ρ S p (.ep ((xs.drop off).take w) 0) (.ep xs off)
 |agg (us vs:List AV) (hl:us.length=vs.length) (h:∀(j:Nat) (u v:AV),us[j]? =some u->vs[j]? =some v->RV ρ S p u v):RV ρ S p (.agg us) (.agg vs)
 |tup (us vs:List AV) (hl:us.length=vs.length) (h:∀(j:Nat) (u v:AV),us[j]? =some u->vs[j]? =some v->RV ρ S p u v):RV ρ S p (.tup us) (.tup vs)
 |fn (f:Fn) (us vs us' vs':List AV) (hl:us.length=vs.length) (h:∀(j:Nat) (u v:AV),us[j]? =some u->vs[j]? =some v->RV ρ S p u v) (hl':us'.length=vs'.length) (h':∀(j:Nat) (u v:AV),us'[j]? =some u->vs'[j]? =some v->RV ρ S p u v):RV ρ S p (.fn f us us') (.fn f vs vs')
def RVL (ρ:Nat->Option (Nat×Nat)) (S:St) (p:Nat×Nat->Prop) (us vs:List AV):Prop:=us.length=vs.length/\∀(j:Nat) (u v:AV),us[j]? =some u->vs[j]? =some v->RV ρ S p u v
structure ReK (S:St) (ks:KS) (ρ:Nat→Option (Nat×Nat)) (p:Nat×Nat→Prop):Prop where
 dom:∀d b1,lkM ks.mem d=some b1->∃k,ρ d=some k
 at':∀d k,ρ d=some k->∃b b1,S.M (.l k.1 k.2)=some b/\(b.sz≠0∨opq b=true/\isRc b.cells=false/\isRc b1.cells=false/\noLs b1.cells=true/\dwks b1.cells=dwks b.cells)/\lkM ks.mem d=some b1/\b1.e=b.e/\b1.sz=b.sz/\RVL ρ S p b1.cells b.cells
 inj:∀d d' k,ρ d=some k->ρ d'=some k->d=d'
 disj:∀k d,p k->ρ d≠some k
 pub:∀k,p k->∃b,S.M (.l k.1 k.2)=some b/\b.sz≠0
 fr:∀t,RV ρ S p (lkF ks.fr t) (S.fr t)
 H:∀o,S.M (.h o)=ks.H o
 nx:S.nx=ks.nx
 fix:∀d k,2000000<=d->ρ d=some k->k=(d,1)
def ybR (B:Base):Prop:=∀d c r,B.κ (.l d c)=some r->c=1/\2000000<=d
theorem ybR.none {B:Base} (h:∀d c,B.κ (.l d c)=none):ybR B:=fun d c r e=>by rw[h] at e;cases e
section
variable {B:Base} {N:Nat} {S:St} {a:Act} {G:Gh} {ks:KS} {ρ:Nat->Option (Nat×Nat)} {p:Nat×Nat->Prop}
theorem RV.go (hR:ReK S ks ρ p) (hM:MRel B S G) {G1:Gh} (f1:∀d k r,ρ d=some k→G.κ (.l k.1 k.2)=some r→G1.κ (.l d 1)=some r) (f2:∀o r,G.κ (.h o)=some r→G1.κ (.h o)=some r) (f3:∀o,G.dead (.h o)→G1.dead (.h o))
  (f4:∀b,G.I b->G1.I b) (f5:G1.w=G.w) (f6:∀k r,p k->G.κ (.l k.1 k.2)=some r->G1.I r.1):∀ {u v:AV},RV ρ S p u v->∀ {x:Value},VR G v x->VR G1 u x:=by
 intro u v h
 induction h with
 |no u h=>exact fun hx=>VR.noL f2 f3 f4 f5 hx h
 |un v=>exact fun _=> .un _
 | gs d n k h=>
   intro x hx
   obtain ⟨b,b1,q1,_⟩:=hR.at' d k h
   obtain ⟨g,cap,hk,e⟩:=hx.gs_inv hM (by simp[yav,q1])
   rw[e];exact .gs _ n g cap (f1 d k _ h hk)
 | pt d off k h=>
   intro x hx
   obtain ⟨b,b1,q1,_⟩:=hR.at' d k h
   obtain ⟨g,cap,hk,e⟩:=hx.pt_inv hM (by simp[yav,q1])
   rw[e];exact .pt _ off g cap (f1 d k _ h hk)
 | pub k n b hp hm hl hz hq=>
   intro x hx
   obtain ⟨g,cap,hk,e⟩:=hx.gs_inv hM (by simp[yav,hm])
   obtain ⟨r,hr,hb⟩:=hM.κcell hm hz
   rw[hk] at hr;cases hr
   obtain ⟨cur,c1,c2,c3,c4,c5,c6,c7⟩:=hb
   have hnc:n≤cap:=by
    have:n*b.sz<=cap*b.sz:=by rw[<-hl,<-c2];exact c5
    exact Nat.le_of_mul_le_mul_right this c4
   rw[e]
   have hcell:∀(j:Nat) (u:AV),b.cells[j]? =some u→∃x,cur[j]? =some x:=by
    intro j u hu
    have hj:j<cur.size:=Nat.lt_of_lt_of_le (List.getElem?_eq_some_iff.1 hu).1 c5
    exact ⟨cur[j],Array.getElem?_eq_getElem hj⟩
   refine .sl n b.cells g 0 cap (fun j=>(cur[j]?).getD undef) (f6 k _ hp hk) ?_ ?_ ?_ hnc (Nat.le_trans hnc c3) hq
   ·intro j u hu
    obtain ⟨x,hx⟩:=hcell j u hu
    rw[f5]
    simp only[World.cell?,Nat.zero_add]
    simp[c1,hx]
   ·intro j u hu
    obtain ⟨x,hx⟩:=hcell j u hu
    rw[hx];exact VR.noL f2 f3 f4 f5 (c6 j u x hu hx) (yaK hq j u hu)
   ·intro j u hu
    obtain ⟨x,hx⟩:=hcell j u hu
    rw[hx];exact c7 j x (List.getElem?_eq_some_iff.1 hu).1 hx
 |nil=>intro x hx;rw[hx.nsl_inv.1];exact .nsl _ _ _ rfl rfl
 | ep xs off w=>
   intro x hx
   obtain ⟨b,base,f,e,a1,a2,a3,a4,a5⟩:=hx.ep_inv
   rw[e,show base+off=(base+off)+0 from rfl]
   have hsub:∀(j:Nat) (u:AV),((xs.drop off).take w)[j]? =some u→xs[off+j]? =some u:=by
    intro j u hu
    simp only[List.getElem?_take,List.getElem?_drop] at hu
    split at hu
    ·exact hu
    ·cases hu
   refine .ep _ 0 b (base+off) (fun j=>f (off+j)) (f4 b a1) ?_ ?_ ?_ (yhE (fun u hu=>List.mem_of_mem_drop (List.mem_of_mem_take hu)) a5)
   ·intro j u hu;have:=a2 _ u (hsub j u hu);rw[f5,Nat.add_assoc];exact this
   ·intro j u hu;exact VR.noL f2 f3 f4 f5 (a3 _ u (hsub j u hu)) (yaK a5 _ u (hsub j u hu))
   ·intro j u hu;exact a4 _ u (hsub j u hu)
 | agg us vs hl h ih=>
   intro x hx
   obtain ⟨xs,e,h1,h2,h3⟩:=hx.agg_inv
   rw[e]
   refine .agg us xs (by rw[h1,hl]) (fun j u x hu hx=> ?_) h3
   have hj:j<vs.length:=by rw[<-hl];exact (List.getElem?_eq_some_iff.1 hu).1
   exact ih j u vs[j] hu (List.getElem?_eq_getElem hj) (h2 j _ x (List.getElem?_eq_getElem hj) hx)
 | tup us vs hl h ih=>
   intro x hx
   obtain ⟨xs,e,h1,h2⟩:=hx.tup_inv
   rw[e]
   refine .tup us xs (by rw[h1,hl]) (fun j u x hu hx=> ?_)
   have hj:j<vs.length:=by rw[<-hl];exact (List.getElem?_eq_some_iff.1 hu).1
   exact ih j u vs[j] hu (List.getElem?_eq_getElem hj) (h2 j _ x (List.getElem?_eq_getElem hj) hx)
 | fn f us vs us' vs' hl h hl' h' ih ih'=>
   intro x hx
   obtain ⟨xa,xc,e,h1,h2,h3,h4⟩:=hx.fn_inv
   rw[e]
   refine .fn f us us' xa xc (by rw[h1,hl]) (by rw[h2,hl']) (fun j u x hu hx=> ?_) (fun j u x hu hx=> ?_)
   ·have hj:j<vs.length:=by rw[← hl];exact (List.getElem?_eq_some_iff.1 hu).1
    exact ih j u vs[j] hu (List.getElem?_eq_getElem hj) (h3 j _ x (List.getElem?_eq_getElem hj) hx)
   ·have hj:j<vs'.length:=by rw[← hl'];exact (List.getElem?_eq_some_iff.1 hu).1
    exact ih' j u vs'[j] hu (List.getElem?_eq_getElem hj) (h4 j _ x (List.getElem?_eq_getElem hj) hx)
theorem yoZ (h:Rel B N S a G) (hB:ybR B) (hR:ReK S ks ρ p):∃G1,G1.w=G.w∧Rel B N (toS ks) a G1:=by
 have hM:=h.toMRel
 let κ1:Key→Option (Nat×Nat):=fun k=>match k with
  | .h o=>G.κ (.h o)
  | .l d c=>if c=1 then (ρ d).bind fun k=>G.κ (.l k.1 k.2) else none
 let G1:Gh:=⟨κ1,ybt (toS ks),fun b=>G.I b∨∃k r,p k∧G.κ (.l k.1 k.2)=some r∧r.1=b,G.w,fun k=>match k with
  | .h _=>fun _=>False
  | .l d _=>match ρ d with
    |some k=>G.ft (.l k.1 k.2)
    |none=>fun _=>False⟩
 have f1:∀d k r,ρ d=some k→G.κ (.l k.1 k.2)=some r→G1.κ (.l d 1)=some r:=by
  intro d k r h1 h2
  show (if 1=1 then (ρ d).bind fun k=>G.κ (.l k.1 k.2) else none)=some r
  simp[h1,h2]
 have hinv:∀d c r,κ1 (.l d c)=some r→c=1∧∃k,ρ d=some k∧G.κ (.l k.1 k.2)=some r:=by
  intro d c r hr
  have hr':(if c=1 then (ρ d).bind fun k=>G.κ (.l k.1 k.2) else none)=some r:=hr
  split at hr'
  ·rename_i hc
   obtain ⟨k,h1,h2⟩:=Option.bind_eq_some_iff.1 hr'
   exact ⟨hc,k,h1,h2⟩
  ·cases hr'
 have f3:∀o,G.dead (.h o)→G1.dead (.h o):=by
  intro o hd
  obtain ⟨h1,h2⟩:=(hM.dead _).1 hd
  refine ⟨?_,?_⟩
  ·show ks.H o=none
   rw[<-hR.H];exact h1
  ·show o<ks.nx
   rw[<-hR.nx];exact h2
 have f6:∀k r,p k->G.κ (.l k.1 k.2)=some r->G1.I r.1:=fun k r h1 h2=> .inr ⟨k,r,h1,h2,rfl⟩
 have go:∀ {u v:AV},RV ρ S p u v->∀ {x:Value},VR G v x->VR G1 u x:=RV.go (G1:=G1) hR hM f1 (fun _ _ q=>q) f3 (fun _ q=> .inl q) rfl f6
 have hno:∀ {u:AV} {x:Value},VR G u x->u.noL=true->VR G1 u x:=VR.noL (G:=G) (G':=G1) (fun _ _ q=>q) f3 (fun _ q=> .inl q) rfl
 refine ⟨G1,rfl,?_⟩
 refine {blk:= ?_,inj:= ?_,dead:=fun k=>Iff.rfl,live:= ?_,apart:= ?_,lt:= ?_,loc:= ?_,keep:= ?_,heap:= ?_,nx:= ?_,gone:= ?_,I0:=fun b hb=> .inl (h.I0 b hb),I1:= ?_,os:=h.os,tape:=h.tape,output:=h.output,size:=h.size,same:=h.same,hno:= ?_,fo:= ?_,defers:= ?_,tsize:=h.tsize,slot:= ?_,ext:= ?_}
 ·intro k
  cases k with
  | h o =>
    have hb:=h.blk (.h o)
    have hn:=h.hno (.h o)
    show yac G1 (ks.H o) (G.κ (.h o))
    rw[<-hR.H]
    revert hb hn
    cases S.M (.h o) with
    |none=>cases G.κ (.h o)<;>exact fun x _=>x
    | some b=>cases G.κ (.h o) with
      |none=>exact fun x _=>x
      | some r=>
        intro this hn
        by_cases hz:b.sz=0
        ·exact (yac.loop hz).2 (ycF.le0 (G:=G) (G':=G1) rfl ((yac.loop (G:=G) hz).1 this))
        obtain ⟨cur,c1,c2,c3,c4,c5,c6,c7⟩:=(yac.cell hz).1 this
        exact (yac.cell hz).2 ⟨cur,c1,c2,c3,c4,c5,fun j u x p q=>hno (c6 j u x p q) (yaK (hn b rfl) j u p),c7⟩
  | l d c =>
    show yac G1 (ks.M (.l d c)) (κ1 (.l d c))
    by_cases hc:c=1
    ·subst hc
     rw[M_l1]
     cases hl:lkM ks.mem d with
     | none=>
       have:κ1 (.l d 1)=none:=by
        cases hk:κ1 (.l d 1) with
        |none=>rfl
        | some r=>
          obtain ⟨_,k,h1,h2⟩:=hinv d 1 r hk
          obtain ⟨b,b1,q1,q2,q3,_⟩:=hR.at' d k h1
          rw[hl] at q3;cases q3
       rw[this];trivial
     | some kb=>
       obtain ⟨k,hk⟩:=hR.dom d kb hl
       obtain ⟨b,b1,q1,q2,q3,q4,q5,q6,q7⟩:=hR.at' d k hk
       rw[hl] at q3;cases q3
       rcases q2 with q2|⟨q2,q2c,q2d,_,_⟩
       case inr=>
        obtain ⟨r,hr,hB⟩:=hM.κsome q1
        rw[show κ1 (.l d 1)=some r from f1 d k r hk hr]
        show yac G1 (some kb.blk) (some r)
        have hz:=yef q2
        have ho':opq kb.blk=true:=by
         show (kb.sz==0&&decide (1000000<=kb.e))=true
         rw[q4,q5];exact q2
        rcases (yac.loop (G:=G) hz).1 hB with ⟨_,_,h3⟩|⟨q,j,h1,_⟩
        ·exact (yac.loop (yef ho')).2 (.inl ⟨ho',q2d,h3⟩)
        ·rw[h1] at q2c;cases q2c
       obtain ⟨r,hr,hb⟩:=hM.κcell q1 q2
       have hk1:κ1 (.l d 1)=some r:=f1 d k r hk hr
       rw[hk1]
       have hz:kb.blk.sz≠0:=by show kb.sz≠0;rw[q5];exact q2
       refine (yac.cell hz).2 ?_
       obtain ⟨cur,c1,c2,c3,c4,c5,c6,c7⟩:=hb
       refine ⟨cur,by show G.w.heap[r.1]? =_;rw[c1];show _=some (Obj.cells cur kb.e (0,0));rw[q4],by show cur.size=r.2*kb.sz;rw[q5];exact c2,c3,by show 0<kb.sz;rw[q5];exact c4,by show kb.cells.length<=_;rw[q6];exact c5,?_,?_⟩
       ·intro j u x hu hx
        have hj:j<b.cells.length:=by rw[<-q6];exact (List.getElem?_eq_some_iff.1 hu).1
        exact go (q7 j u _ hu (List.getElem?_eq_getElem hj)) (c6 j _ x (List.getElem?_eq_getElem hj) hx)
       ·intro j x hj hx;exact c7 j x (by rw[<-q6];exact hj) hx
    ·have h1:ks.M (.l d c)=none:=by
      cases hm:ks.M (.l d c) with
      |none=>rfl
      |some b=>exact absurd (M_lc ks hm).1 hc
     have h2:κ1 (.l d c)=none:=by
      cases hk:κ1 (.l d c) with
      |none=>rfl
      |some r=>exact absurd (hinv d c r hk).1 hc
     rw[h1,h2];trivial
 ·intro k k' r r' hr hr' e
  cases k with
  | h o=>cases k' with
    |h o'=>exact h.inj _ _ r r' hr hr' e
    | l d c=>
      obtain ⟨_,k,h1,h2⟩:=hinv d c r' hr'
      have:=h.inj _ _ r r' hr h2 e;cases this
  | l d c=>
    obtain ⟨rfl,k,h1,h2⟩:=hinv d c r hr
    cases k' with
    |h o'=>have:=h.inj _ _ r r' h2 hr' e;cases this
    | l d' c'=>
      obtain ⟨rfl,k',h3,h4⟩:=hinv d' c' r' hr'
      have:=h.inj _ _ r r' h2 h4 e
      simp only[Key.l.injEq] at this
      have e1:k=k':=Prod.ext this.1 this.2
      subst e1
      rw[hR.inj d d' k h1 h3]
 ·intro k b hb
  cases k with
  | h o=>
    have:o<S.nx:=h.live (.h o) b (by rw[hR.H];exact hb)
    show o<ks.nx
    rw[<-hR.nx];exact this
  |l d c=>obtain ⟨rfl,_⟩:=M_lc ks hb;exact ⟨Nat.le_refl 1,Nat.le_refl 1⟩
 ·intro k r hr
  have hp:∀k0,G.κ k0=some r→(∀k,p k→k0≠ .l k.1 k.2)→¬G1.I r.1∧r.1<G.w.heap.size:=by
   intro k0 hk0 hne
   obtain ⟨q1,q2⟩:=h.apart k0 r hk0
   refine ⟨?_,q2⟩
   rintro (hI|⟨k',r',e1,e2,e3⟩)
   ·exact q1 hI
   ·exact hne k' e1 (h.inj _ _ _ _ hk0 e2 e3.symm)
  cases k with
  |h o=>exact hp (.h o) hr (fun k _ e=>by cases e)
  | l d c=>
    obtain ⟨rfl,k,h1,h2⟩:=hinv d c r hr
    refine hp _ h2 (fun k' hk' e=> ?_)
    simp only[Key.l.injEq] at e
    have e1:k=k':=Prod.ext e.1 e.2
    subst e1
    exact hR.disj k d hk' h1
 ·rintro b (hI|⟨k,r,e1,e2,e3⟩)
  ·exact h.lt b hI
  ·rw[<-e3];exact (h.apart _ r e2).2
 ·intro d c r hr
  obtain ⟨_,k,h1,h2⟩:=hinv d c r hr
  exact h.loc _ _ r h2
 ·intro k r hr
  cases k with
  | l d c=>
    obtain ⟨rfl,hd⟩:=hB d c r hr
    cases hρ:ρ d with
    | none=>
      right
      refine ⟨?_,Nat.le_refl 1,Nat.le_refl 1⟩
      show (lkM ks.mem d).map KB.blk=none
      cases hl:lkM ks.mem d with
      |none=>rfl
      |some b1=>obtain ⟨k,hk⟩:=hR.dom d b1 hl;rw[hρ] at hk;cases hk
    | some k=>
      have:=hR.fix d k hd hρ;subst this
      obtain ⟨b,b1,q1,q2,q3,_⟩:=hR.at' d _ hρ
      rcases h.keep (.l d 1) r hr with hq|hq
      ·exact .inl (f1 d _ r hρ hq)
      ·have:=((hM.dead _).1 hq).1
       rw[this] at q1;cases q1
  | h o=>
    rcases h.keep (.h o) r hr with hq|hq
    ·exact .inl hq
    ·exact .inr (f3 o hq)
 ·intro o r hr;exact h.heap o r hr
 ·show B.nx≤ks.nx
  rw[<-hR.nx];exact h.nx
 ·intro o ho hb;exact h.gone o ho hb
 ·rintro b (hI|⟨k,r,e1,e2,e3⟩)
  ·exact h.I1 b hI
  ·rw[← e3]
   rcases h.loc _ _ r e2 with hq|hq
   ·exact .inr (.inl hq)
   ·exact .inr (.inr hq)
 ·intro k b hb
  cases k with
  |h o=>exact h.hno (.h o) b (by rw[hR.H];exact hb)
  |l d c=>rfl
 ·have hfp:∀k x,G1.fp k x→∃d q,k= .l d 1∧ρ d=some q∧G.fp (.l q.1 q.2) x:=by
   rintro k x ⟨⟨r,hr⟩,hx⟩
   cases k with
   |h o=>exact hx.elim
   | l d c=>
     obtain ⟨rfl,q,h1,h2⟩:=hinv d c r hr
     have hx':(match ρ d with|some k=>G.ft (.l k.1 k.2)|none=>fun _=>False) x:=hx
     rw[h1] at hx'
     exact ⟨d,q,rfl,h1,⟨r,h2⟩,hx'⟩
  refine ⟨fun k x k' r hx hr e=> ?_,fun k k' x hx hx'=> ?_,fun k x hx=> ?_,fun k x hx ds=> ?_,fun k x hx=> ?_,fun k b r hb hk ho hc=> ?_,fun o r hk=>⟨fun _ q=>q,fun b hb=>(hM.fo.hh o r hk).2 b (by rw[hR.H];exact hb)⟩⟩
  ·obtain ⟨d,q,rfl,h1,h2⟩:=hfp k x hx
   cases k' with
   |h o=>exact hM.fo.dj1 _ x (.h o) r h2 hr e
   |l d' c'=>obtain ⟨_,q',_,h4⟩:=hinv d' c' r hr;exact hM.fo.dj1 _ x _ r h2 h4 e
  ·obtain ⟨d,q,rfl,h1,h2⟩:=hfp k x hx
   obtain ⟨d',q',rfl,h3,h4⟩:=hfp k' x hx'
   have:=hM.fo.dj2 _ _ x h2 h4
   simp only[Key.l.injEq] at this
   have e1:q=q':=Prod.ext this.1 this.2
   subst e1
   rw[hR.inj d d' q h1 h3]
  ·obtain ⟨d,q,rfl,h1,h2⟩:=hfp k x hx
   refine ⟨?_,(hM.fo.ap _ x h2).2⟩
   rintro (hI|⟨k',r',e1,e2,e3⟩)
   ·exact (hM.fo.ap _ x h2).1 hI
   ·exact hM.fo.dj1 _ x _ r' h2 e2 e3
  ·obtain ⟨d,q,rfl,h1,h2⟩:=hfp k x hx
   exact hM.fo.nd _ x h2 ds
  ·obtain ⟨d,q,rfl,h1,h2⟩:=hfp k x hx
   exact hM.fo.lo _ x h2
  ·cases k with
   |h o=>exact absurd ⟨ho,hc⟩ ((hM.fo.hh o r hk).2 b (by rw[hR.H];exact hb))
   | l d c=>
     obtain ⟨rfl,k,h1,h2⟩:=hinv d c r hk
     obtain ⟨_,kb,hl,rfl⟩:=M_lc ks (show ks.M (.l d 1)=some b from hb)
     obtain ⟨b0,b1,q1,q2,q3,q4,q5,q6⟩:=hR.at' d k h1
     rw[hl] at q3;cases q3
     rcases q2 with q2|⟨q2,q2c,q2d,q2n,q2e⟩
     ·exact absurd (q5.symm.trans (yef ho)) q2
     ·show noLs kb.cells=true∧opqR kb.e (dwks kb.cells) G.w r.1 (match ρ d with|some k=>G.ft (.l k.1 k.2)|none=>fun _=>False)
      rw[h1,q2e,q4]
      exact ⟨q2n,(hM.fo.rep _ b0 r q1 h2 q2 q2c).2⟩
 ·obtain ⟨rs,g1,g2,g3⟩:=h.defers
  refine ⟨rs,g1,g2,fun r hr=> ?_⟩
  obtain ⟨u1,u2,u3⟩:=g3 r hr
  refine ⟨u1,?_,u3⟩
  rintro (hI|⟨k,r',e1,e2,e3⟩)
  ·exact u2 hI
  ·exact hM.notDfr e2 _ (e3▸u1)
 ·intro t v hv
  exact go (hR.fr t) (h.slot t v hv)
 ·intro j v hv
  exact go (hR.fr _) (h.ext j v hv)
end
end Go.AV
end
noncomputable section
namespace Go.AV
open Go.RowKit Go.RG Go.Lib
theorem ygy (a b:List AV):noLs (a++b)=(noLs a&&noLs b):=by
 induction a with
 |nil=>simp[noLs]
 |cons x a ih=>simp[noLs,ih,Bool.and_assoc]
section
variable {ρ:Nat->Option (Nat×Nat)} {S:St} {p:Nat×Nat->Prop} {live:Nat->Bool}
theorem RVL.no {l:List AV} (h:noLs l=true):RVL ρ S p l l:=⟨rfl,fun j u v hu hv=>by rw[hu] at hv;cases hv;exact .no u (yaK h j u hu)⟩
end
section
variable (P:Program) (B:Base) (N:Nat) (ro:Option Nat)
def RelK (ks:KS) (a:Act) (G:Gh):Prop:=Rel B N (toS ks) a G/\KOk ks
def exK (Q:AEx→KS→Prop):Exit→KS→Prop
 | .normal,ks=>Q .n ks
 | .exit id,ks=>Q (.x id) ks
 | .ret,ks=>Q .r ks
 |_,_=>False
def yfG (Q:AEx->KS->Prop):Exit->Act->World->Prop:=fun e a w=>∃ks G,RelK B N ks a G/\G.w=w/\exK Q e ks
def RE (S:St) (X:KS->Prop):Prop:=∀a G,Rel B N S a G->∃ks1 G1,G1.w=G.w/\RelK B N ks1 a G1/\X ks1
def WK (ac:ycl) (Q:AEx->KS->Prop) (ks:KS):Prop:=∀c,trC P N c=some ac->∀a G,RelK B N ks a G->c.wpIn (FR ro) 0 P (yfG B N Q) a G.w
def nQ (Q:KS→Prop):AEx→KS→Prop:=fun e ks=>match e with
 | .n=>Q ks
 |_=>False
end
section
variable {P:Program} {B:Base} [GB P B] {N:Nat} {ro:Option Nat} {hs:Nat->Bool} {L:List AO} {Q:KS->Prop} {ks:KS} {i:Nat}
theorem RE.id {X:KS->Prop} (hk:KOk ks) (h:X ks):RE B N (toS ks) X:=fun _ G hR=>⟨ks,G,rfl,⟨hR,hk⟩,h⟩
theorem RE.mono {S:St} {X Y:KS→Prop} (h:RE B N S X) (hxy:∀ks,X ks→Y ks):RE B N S Y:=fun a G hR=>by
 obtain ⟨k,G1,h1,h2,h3⟩:=h a G hR
 exact ⟨k,G1,h1,h2,hxy k h3⟩
theorem RE.of {S:St} {ks1:KS} {X:KS→Prop} (hB:ybR B) {ρ:Nat→Option (Nat×Nat)} {p:Nat×Nat→Prop} (hR:ReK S ks1 ρ p) (hk:KOk ks1) (h:X ks1):RE B N S X:=fun a G hr=>by
 obtain ⟨G1,e1,e2⟩:=yoZ hr hB hR
 exact ⟨ks1,G1,e1,⟨e2,hk⟩,h⟩
theorem ynV {c:ycl} {Q:AEx→KS→Prop} (h:KOk ks→RE B N (toS ks) (WK P B N ro c Q)):WK P B N ro c Q ks:=by
 have _:=(inferInstance:GB P B)
 intro c' ht a G hR
 obtain ⟨k1,G1,e1,e2,e3⟩:=h hR.2 a G hR.1
 rw[<-e1]
 exact e3 c' ht a G1 e2
end
end Go.AV
end
noncomputable section
namespace Go.AV
open Go.RowKit Go.RG Go.Lib
def AllP:List Prop→Prop
 | []=>True
 |c::r=>c/\AllP r
structure DS where
 fr:List (Nat×AV)
 od:List (Nat×Option KB)
 nw:List (Nat×Option KB)
 H:Hp
 nx:Nat
def lkO:List (Nat×Option KB)→Nat→Option KB
 | [],_=>none
 | p::r,t=>match Nat.beq p.1 t with
   |true=>p.2
   |false=>lkO r t
def memO:List (Nat×Option KB)→Nat→Bool
 | [],_=>false
 |p::r,t=>Nat.beq p.1 t||memO r t
def DS.kb (ds:DS) (d c:Nat):Option KB:=match Nat.beq c 1 with
 |true=>lkO ds.od d
 | false=>match Nat.beq c 2 with
   |true=>lkO ds.nw d
   |false=>none
def DS.M (ds:DS):Key→Option Blk
 | .h o=>ds.H o
 | .l d c=>(ds.kb d c).map KB.blk
def DS.cn (ds:DS) (d:Nat):Nat:=match memO ds.nw d with
 |true=>2
 |false=>1
def toD (ds:DS):St:=⟨lkF ds.fr,ds.M,ds.cn,ds.nx⟩
def ylm:List (Nat×KB)→List (Nat×Option KB)
 | []=> []
 |p::r=>(p.1,some p.2)::ylm r
def ofK (ks:KS):DS:=⟨ks.fr,ylm ks.mem,[],ks.H,ks.nx⟩
def bOk (b:KB):Prop:=b.okb/\(b.q=true->noLs b.cells=true)
def DOk (ds:DS):Prop:=∀d c b,ds.kb d c=some b->bOk b
theorem yeb (p:Nat×Option KB) (r:List (Nat×Option KB)) (t:Nat):lkO (p::r) t=if p.1=t then p.2 else lkO r t:=by
 simp only[lkO]
 by_cases h:p.1=t
 ·rw[if_pos h,nbeq.2 h]
 ·rw[if_neg h]
  cases hb:Nat.beq p.1 t with
  |true=>exact absurd (nbeq.1 hb) h
  |false=>rfl
theorem yf0 (m:List (Nat×KB)) (d:Nat):lkO (ylm m) d=lkM m d:=by
 induction m with
 |nil=>rfl
 |cons p m ih=>simp only[ylm];rw[yeb,yhz,ih]
theorem ydl (ks:KS):toD (ofK ks)=toS ks:=by
 unfold toD toS
 simp only[St.mk.injEq]
 refine ⟨rfl,?_,rfl,rfl⟩
 funext k
 cases k with
 |h o=>rfl
 | l d c=>
   show ((ofK ks).kb d c).map KB.blk=ks.M (.l d c)
   unfold DS.kb KS.M
   cases hb:Nat.beq c 1 with
   |true=>simp only[ofK,yf0,hb]
   | false=>
     cases hb2:Nat.beq c 2<;>simp only[ofK,hb,lkO,Option.map_none]
theorem ydr {ks:KS} (h:KOk ks):DOk (ofK ks):=by
 intro d c b hb
 unfold DS.kb at hb
 split at hb
 ·simp only[ofK,yf0] at hb;exact h d b hb
 ·split at hb
  ·simp[ofK,lkO] at hb
  ·cases hb
def DS.put (ds:DS) (d:Option Nat) (v:AV):DS:=match d with
 |some d=>⟨(d,v)::ds.fr,ds.od,ds.nw,ds.H,ds.nx⟩
 |none=>ds
def DS.set (ds:DS) (q c:Nat) (b:Option KB):DS:=match Nat.beq c 1 with
 |true=>⟨ds.fr,(q,b)::ds.od,ds.nw,ds.H,ds.nx⟩
 |false=>⟨ds.fr,ds.od,(q,b)::ds.nw,ds.H,ds.nx⟩
theorem DS.put_M (ds:DS) (d:Option Nat) (v:AV):(ds.put d v).M=ds.M:=by
 cases d<;>(funext k;cases k<;>rfl)
theorem yaZ (ds:DS) (d:Option Nat) (v:AV):(toD ds).put d v=toD (ds.put d v):=by
 cases d with
 |none=>rfl
 | some d=>
   unfold toD St.put
   simp only[St.mk.injEq]
   refine ⟨?_,(DS.put_M ds (some d) v).symm,rfl,rfl⟩
   funext t
   show upd (lkF ds.fr) d v t=lkF ((d,v)::ds.fr) t
   rw[yaJ]
   unfold upd
   by_cases h:t=d
   ·subst h;simp
   ·rw[if_neg h,if_neg (fun q=>h q.symm)]
theorem DOk.put {ds:DS} {d:Option Nat} {v:AV} (h:DOk ds):DOk (ds.put d v):=by cases d<;>exact h
theorem yh9 (ds:DS) (q c:Nat) (b:Option KB) (hc:c=1∨c=2) (d c':Nat):(ds.set q c b).kb d c'=if d=q∧c'=c then b else ds.kb d c':=by
 rcases hc with rfl|rfl
 ·unfold DS.set DS.kb
  simp only[show Nat.beq 1 1=true from rfl]
  cases hb:Nat.beq c' 1 with
  | true=>
    have:=nbeq.1 hb;subst this
    simp only
    rw[yeb]
    by_cases h:d=q
    ·subst h;simp
    ·have h':¬q=d:=fun e=>h e.symm
     simp[h,h']
  | false=>
    have:¬c'=1:=fun e=>by subst e;cases hb
    simp[this]
 ·unfold DS.set DS.kb
  simp only[show Nat.beq 2 1=false from rfl]
  cases hb:Nat.beq c' 1 with
  | true=>
    have:=nbeq.1 hb;subst this
    simp
  | false=>
    simp only
    cases hb2:Nat.beq c' 2 with
    | true=>
      have:=nbeq.1 hb2;subst this
      simp only
      rw[yeb]
      by_cases h:d=q
      ·subst h;simp
      ·have h':¬q=d:=fun e=>h e.symm
       simp[h,h']
    | false=>
      have:¬c'=2:=fun e=>by subst e;cases hb2
      simp[this]
theorem yh4 (ds:DS) (q c:Nat) (b:Option KB):(ds.set q c b).fr=ds.fr:=by unfold DS.set;split<;>rfl
theorem ygU (ds:DS) (q c:Nat) (b:Option KB):(ds.set q c b).nx=ds.nx:=by unfold DS.set;split<;>rfl
theorem yq4 (ds:DS) (q c:Nat) (b:Option KB):(ds.set q c b).H=ds.H:=by unfold DS.set;split<;>rfl
theorem DOk.set {ds:DS} {q c:Nat} {b:Option KB} (h:DOk ds) (hc:c=1∨c=2) (hb:∀x,b=some x→bOk x):DOk (ds.set q c b):=by
 intro d c' x hx
 rw[yh9 ds q c b hc] at hx
 split at hx
 ·exact hb x hx
 ·exact h d c' x hx
theorem ymX (ds:DS) (q c:Nat) (b:Option KB) (hc:c=1∨c=2):(ds.set q c b).M=updK ds.M (.l q c) (b.map KB.blk):=by
 funext k
 unfold updK
 cases k with
 |h o=>rcases hc with rfl|rfl<;>simp[DS.M,DS.set]
 | l d c'=>
   show ((ds.set q c b).kb d c').map KB.blk=_
   rw[yh9 ds q c b hc]
   by_cases h:d=q/\c'=c
   ·simp[h]
   ·simp only[h,if_false,Key.l.injEq];rfl
theorem ymK {ds:DS} {q c:Nat} {b:Option KB} (h:c=1∨(c=2∧memO ds.nw q=true)):(ds.set q c b).cn=ds.cn:=by
 funext d
 rcases h with rfl|⟨rfl,hm⟩
 ·rfl
 ·unfold DS.cn
  show (match (Nat.beq q d||memO ds.nw d) with|true=>2|false=>1)=_
  by_cases hd:q=d
  ·subst hd;rw[nbeq.2 rfl,hm];rfl
  ·have:Nat.beq q d=false:=by
    cases hb:Nat.beq q d with
    |true=>exact absurd (nbeq.1 hb) hd
    |false=>rfl
   rw[this];rfl
theorem ype {ds:DS} {q:Nat} {b:Option KB} (h:memO ds.nw q=false):(ds.set q 2 b).cn=upd ds.cn q (ds.cn q+1):=by
 funext d
 unfold upd
 show (match (Nat.beq q d||memO ds.nw d) with|true=>2|false=>1)=_
 by_cases hd:d=q
 ·subst hd;simp only[if_true,DS.cn,h,nbeq.2,Bool.true_or]
 ·have:Nat.beq q d=false:=by
   cases hb:Nat.beq q d with
   |true=>exact absurd (nbeq.1 hb).symm hd
   |false=>rfl
  rw[this,if_neg hd];rfl
abbrev KR (α:Type):=Option (List Prop×α)
def kok {α:Type} (o:Option α):KR α:=match o with
 |some v=>some ([],v)
 |none=>none
def kbin (op:BinOp) (k:IntKind) (a b:Int):KR AV:=match op with
 | .quo=>some ([b≠0], .it k (k.wrap (a.tdiv b)))
 | .rem=>some ([b≠0], .it k (a.tmod b))
 |op=>kok (binI op k a b)
def kshi (op:BinOp) (k:IntKind) (a b:Int):KR AV:=match op with
 | .shl=>some ([¬b<0], .it k (k.wrap (a*2^(min b.toNat k.bits))))
 | .shr=>some ([¬b<0], .it k (a.fdiv (2^(min b.toNat k.bits))))
 |_=>none
def kstr (op:BinOp) (a b:List UInt8):KR AV:=match op with
 | .add=>some ([a.length+b.length<=9223372036854775807], .st (a++b))
 |op=>kok (binS op a b)
def ngB (g b:Bool):Bool:=match g with
 |false=>b
 |true=> !b
theorem ymQ (g b:Bool):ngB g b=(g !=b):=by cases g<;>cases b<;>rfl
def keq (live:Key→Bool) (g:Bool) (kind:Nat) (x y:AV):KR AV:=match x,y with
 | .sl true _ _, .sl true _ _=>if kind=4 then some ([], .bl (!g)) else none
 | .sl false n _, .sl true _ _=>if kind=4 then some ([0<n], .bl g) else none
 | .sl true _ _, .sl false n _=>if kind=4 then some ([0<n], .bl g) else none
 |x,y=>kok ((eqP live kind x y).map fun b=> .bl (ngB g b))
def ksls (l:List UInt8) (lo hi:Option Int):KR AV:=match lo,hi with
 |some a,some b=>some ([0<=a/\a<=b/\b<=l.length], .st ((l.drop a.toNat).take (b.toNat-a.toNat)))
 |_,_=>none
def kpv (live:Key→Bool) (fr:List (Nat×AV)) (u:AOp):KR AV:=match u with
 | .bin op x y=>match ev (lkF fr) x,ev (lkF fr) y with
   | .it k a, .it k' b=>if op= .shl∨op= .shr then kshi op k a b else if k=k' then kbin op k a b else none
   | .st a, .st b=>kstr op a b
   |_,_=>none
 | .eq g kind x y=>keq live g kind (ev (lkF fr) x) (ev (lkF fr) y)
 | .eqs g kinds x y=>match ev (lkF fr) x,ev (lkF fr) y with
   | .agg a, .agg b=>kok ((eqL kinds a b).map fun r=> .bl (ngB g r))
   |_,_=>none
 | .sls x lo hi=>match ev (lkF fr) x with
   | .st l=>ksls l (bnd (ev (lkF fr)) 0 lo) (bnd (ev (lkF fr)) l.length hi)
   |_=>none
 | .idxs x i=>match ev (lkF fr) x,ev (lkF fr) i with
   | .st l, .it _ i=>some ([0<=i/\i<l.length], .it .u8 ((l[i.toNat]?.getD 0).toNat))
   |_,_=>none
 | .iad sz x i=>match ev (lkF fr) x,ev (lkF fr) i with
   | .gs k n, .it _ i=>match live k with
     |true=>some ([0<=i/\i<n], .pt k (i.toNat*sz))
     |false=>none
   | .sl _ n xs, .it _ i=>some ([0<=i/\i<n], .ep xs (i.toNat*sz))
   |_,_=>none
 | .iada len sz x i=>match ev (lkF fr) x,ev (lkF fr) i with
   | .pt k o, .it _ i=>match live k with
     |true=>some ([0<=i/\i<len], .pt k (o+i.toNat*sz))
     |false=>none
   | .ep xs o, .it _ i=>some ([0<=i/\i<len], .ep xs (o+i.toNat*sz))
   |_,_=>none
 | .idxa g len sz x i=>match ev (lkF fr) x,ev (lkF fr) i with
   | .agg cs, .it _ q=>match !g&&Nat.beq sz 1&&Nat.ble len cs.length with
     |true=>some ([0<=q/\q<len],(cs[q.toNat]?).getD .un)
     |false=>kok (pval live (ev (lkF fr)) (.idxa g len sz x i))
   |_,_=>none
 | .sll .. =>none
 |u=>kok (pval live (ev (lkF fr)) u)
theorem yfj {α:Type} {o:Option α} {C:List Prop} {v:α} (h:kok o=some (C,v)):o=some v∧C= []:=by
 cases o with
 |none=>cases h
 |some u=>simp only[kok,Option.some.injEq,Prod.mk.injEq] at h;exact ⟨by rw[h.2],h.1.symm⟩
theorem ysC {live:Key→Bool} {fr:List (Nat×AV)} {u:AOp} {C:List Prop} {v:AV} (h:kpv live fr u=some (C,v)) (hC:AllP C):pval live (ev (lkF fr)) u=some v:=by
 unfold kpv at h
 split at h
 ·rename_i op x y
  simp only[pval]
  split at h
  ·rename_i k a k' b e1 e2
   rw[e1,e2];simp only
   split at h
   ·rename_i hop
    rw[if_pos hop]
    unfold kshi at h
    split at h<;>simp only[Option.some.injEq,Prod.mk.injEq,reduceCtorEq] at h
    ·obtain ⟨rfl,rfl⟩:=h;simp only[shI];rw[if_neg hC.1]
    ·obtain ⟨rfl,rfl⟩:=h;simp only[shI];rw[if_neg hC.1]
   ·rename_i hop
    rw[if_neg hop]
    split at h
    ·rename_i hk
     rw[if_pos hk]
     unfold kbin at h
     split at h
     ·simp only[Option.some.injEq,Prod.mk.injEq] at h;obtain ⟨rfl,rfl⟩:=h;simp only[binI];rw[if_neg hC.1]
     ·simp only[Option.some.injEq,Prod.mk.injEq] at h;obtain ⟨rfl,rfl⟩:=h;simp only[binI];rw[if_neg hC.1]
     ·exact (yfj h).1
    ·cases h
  ·rename_i a b e1 e2
   rw[e1,e2];simp only
   unfold kstr at h
   split at h
   ·simp only[Option.some.injEq,Prod.mk.injEq] at h;obtain ⟨rfl,rfl⟩:=h;simp only[binS];rw[if_pos hC.1]
   ·exact (yfj h).1
  ·cases h
 ·rename_i g kind x y
  simp only[pval]
  unfold keq at h
  split at h
  ·rename_i e1 e2
   rw[e1,e2]
   split at h
   ·rename_i hk;subst hk;simp only[Option.some.injEq,Prod.mk.injEq] at h;rw[<-h.2];cases g<;>rfl
   ·cases h
  ·rename_i e1 e2
   rw[e1,e2]
   split at h
   ·rename_i hk;subst hk;simp only[Option.some.injEq,Prod.mk.injEq] at h;obtain ⟨rfl,rfl⟩:=h;simp only[eqP];rw[if_pos hC.1];cases g<;>rfl
   ·cases h
  ·rename_i e1 e2
   rw[e1,e2]
   split at h
   ·rename_i hk;subst hk;simp only[Option.some.injEq,Prod.mk.injEq] at h;obtain ⟨rfl,rfl⟩:=h;simp only[eqP];rw[if_pos hC.1];cases g<;>rfl
   ·cases h
  ·have:=(yfj h).1
   rw[<-this]
   congr 1
   funext b;rw[ymQ]
 ·rename_i g kinds x y
  simp only[pval]
  split at h
  ·rename_i a b e1 e2
   rw[e1,e2];simp only
   have:=(yfj h).1
   rw[<-this]
   congr 1
   funext b;rw[ymQ]
  ·cases h
 ·rename_i x lo hi
  simp only[pval]
  split at h
  ·rename_i l e1
   rw[e1];simp only
   unfold ksls at h
   split at h
   ·rename_i a b e2 e3
    rw[e2,e3];simp only
    simp only[Option.some.injEq,Prod.mk.injEq] at h;obtain ⟨rfl,rfl⟩:=h
    rw[if_pos hC.1]
   ·cases h
  ·cases h
 ·rename_i x j
  simp only[pval]
  split at h
  ·rename_i l k n e1 e2
   rw[e1,e2];simp only
   simp only[Option.some.injEq,Prod.mk.injEq] at h;obtain ⟨rfl,rfl⟩:=h
   rw[if_pos hC.1]
  ·cases h
 ·rename_i sz x j
  simp only[pval]
  split at h
  ·rename_i k n k' m e1 e2
   rw[e1,e2];simp only
   split at h
   ·rename_i hl
    simp only[Option.some.injEq,Prod.mk.injEq] at h;obtain ⟨rfl,rfl⟩:=h
    rw[if_pos ⟨hl,hC.1⟩]
   ·cases h
  ·rename_i z n xs k' m e1 e2
   rw[e1,e2];simp only
   simp only[Option.some.injEq,Prod.mk.injEq] at h;obtain ⟨rfl,rfl⟩:=h
   rw[if_pos hC.1]
  ·cases h
 ·rename_i len sz x j
  simp only[pval]
  split at h
  ·rename_i k o k' m e1 e2
   rw[e1,e2];simp only
   split at h
   ·rename_i hl
    simp only[Option.some.injEq,Prod.mk.injEq] at h;obtain ⟨rfl,rfl⟩:=h
    rw[if_pos ⟨hl,hC.1⟩]
   ·cases h
  ·rename_i xs o k' m e1 e2
   rw[e1,e2];simp only
   simp only[Option.some.injEq,Prod.mk.injEq] at h;obtain ⟨rfl,rfl⟩:=h
   rw[if_pos hC.1]
  ·cases h
 ·rename_i g len sz x j
  split at h
  ·rename_i cs k q e1 e2
   split at h
   ·rename_i hb
    simp only[Bool.and_eq_true,Bool.not_eq_true'] at hb
    obtain ⟨⟨hg,hz⟩,hl⟩:=hb
    simp only[Option.some.injEq,Prod.mk.injEq] at h
    obtain ⟨rfl,rfl⟩:=h
    have hz':=nbeq.1 hz
    subst hz'
    subst hg
    have hC1:0<=q/\q<len:=hC.1
    have hlt:q.toNat<cs.length:=by have:=Nat.le_of_ble_eq_true hl;omega
    simp only[pval,e1,e2]
    rw[if_pos hC1]
    simp only[Nat.mul_one,Bool.false_eq_true,if_false]
    rw[List.getElem?_eq_getElem hlt];rfl
   ·exact (yfj h).1
  ·cases h
 ·cases h
 ·exact (yfj h).1
structure Eff (u:AOp) (d:Option Nat) (ds:DS) (e:REff) (ds':DS):Prop where
 eff:effA (fun _=>false) u d (toD ds)=some e
 app:e.app d (toD ds)=toD ds'
 ok:DOk ds'
def ys6:AOp→Bool
 | .box .. | .bsl .. | .ld .. | .sto .. | .app .. | .apps .. | .sll .. | .mks .. | .apz .. | .apf .. | .bsf .. | .b2s .. | .call .. | .calv .. | .s2b .. =>true
 |_=>false
def kld (g:Bool) (sz:Nat) (cs:List AV) (off:Nat):Option AV:=match g with
 |true=>if off+sz<=cs.length then some (.agg ((cs.drop off).take sz)) else none
 |false=>cs[off]?
def kx (u:AOp) (d:Option Nat) (ds:DS):KR (REff×DS):=match u with
 | .box e sz x=>match memO ds.nw (site d) with
   |false=>if (ev (lkF ds.fr) x).cells.length=sz/\(ev (lkF ds.fr) x).cells.all AV.one=true/\0<sz then some ([],⟨.pt (.l (site d) 2) 0,[((site d,2),some ⟨e,sz,(ev (lkF ds.fr) x).cells⟩)],[site d],none⟩,(ds.set (site d) 2 (some ⟨e,sz,(ev (lkF ds.fr) x).cells,false⟩)).put d (.pt (.l (site d) 2) 0)) else none
   |true=>none
 | .bsl e sz len z parts=>match memO ds.nw (site d),ydu (yaG z len) (parts.map fun p=>(p.1,p.2.1,ev (lkF ds.fr) p.2.2)) with
   |false,some cs=>if z.length=sz/\0<sz/\len*sz<=16777216 then some ([],⟨.gs (.l (site d) 2) len,[((site d,2),some ⟨e,sz,cs.map weak⟩)],[site d],none⟩,(ds.set (site d) 2 (some ⟨e,sz,cs.map weak,false⟩)).put d (.gs (.l (site d) 2) len)) else none
   |_,_=>none
 | .ld g sz x=>match ev (lkF ds.fr) x with
   | .pt (.l s c) off=>match ds.kb s c with
     | some b=>match (if b.sz≠0 then kld g sz b.cells off else none) with
       |some v=>some ([],eff1 v,ds.put d v)
       |none=>none
     |none=>none
   | .ep xs off=>match kld g sz xs off with
     |some v=>some ([],eff1 v,ds.put d v)
     |none=>none
   |_=>none
 | .sto sz x y=>match ev (lkF ds.fr) x with
   | .pt (.l s c) off=>match ds.kb s c with
     |some b=>if b.sz≠0/\(ev (lkF ds.fr) y).cells.length=sz/\(ev (lkF ds.fr) y).cells.all AV.one=true/\off+sz<=b.cells.length then some ([],⟨.un,[((s,c),some ⟨b.e,b.sz,b.cells.take off++(ev (lkF ds.fr) y).cells++b.cells.drop (off+sz)⟩)],[],none⟩,(ds.set s c (some ⟨b.e,b.sz,b.cells.take off++(ev (lkF ds.fr) y).cells++b.cells.drop (off+sz),false⟩)).put d .un) else none
     |none=>none
   |_=>none
 | .app .. | .apps .. | .sll .. | .b2s .. | .s2b .. | .mks .. | .apz .. | .apf .. | .bsf .. | .call .. | .calv .. =>none
 | u=>match kpv (yav (toD ds)) ds.fr u with
   |some (C,v)=>some (C,eff1 v,ds.put d v)
   |none=>none
theorem ybk (ds:DS):(toD ds).fr=lkF ds.fr:=rfl
theorem kb_c {ds:DS} {s c:Nat} {b:KB} (h:ds.kb s c=some b):c=1∨(c=2∧memO ds.nw s=true):=by
 unfold DS.kb at h
 split at h
 ·rename_i hc;exact .inl (nbeq.1 hc)
 ·split at h
  ·rename_i hc
   refine .inr ⟨nbeq.1 hc,?_⟩
   have:∀(l:List (Nat×Option KB)),lkO l s=some b→memO l s=true:=by
    intro l
    induction l with
    |nil=>intro h;cases h
    | cons p l ih=>
      intro h
      rw[yeb] at h
      simp only[memO]
      split at h
      ·rename_i e;rw[nbeq.2 e];rfl
      ·rw[ih h,Bool.or_true]
   exact this _ h
  ·cases h
theorem ycV (v:AV) (d:Option Nat) (ds:DS):(eff1 v).app d (toD ds)=toD (ds.put d v):=by
 unfold REff.app
 rw[ybZ,yaZ];rfl
theorem ynp {ds:DS} {s c:Nat} {b:KB} {v:AV} {d:Option Nat} (hc:c=1∨(c=2∧memO ds.nw s=true)):REff.app ⟨v,[((s,c),some b.blk)],[],none⟩ d (toD ds)=toD ((ds.set s c (some b)).put d v):=by
 rw[<-yaZ]
 unfold REff.app
 congr 1
 have hc':c=1∨c=2:=hc.imp id (·.1)
 unfold REff.mst toD
 simp only[St.mk.injEq]
 refine ⟨?_,?_,?_,?_⟩
 ·unfold DS.set;split<;>rfl
 ·rw[ymX ds s c _ hc'];funext k;cases k<;>rfl
 ·rw[ymK hc];exact (ydY _).symm
 ·unfold DS.set;split<;>rfl
theorem yhU {ds:DS} {s:Nat} (bo:Option KB) {v:AV} {d:Option Nat} (h:memO ds.nw s=false):REff.app ⟨v,[((s,2),bo.map KB.blk)],[s],none⟩ d (toD ds)=toD ((ds.set s 2 bo).put d v):=by
 rw[<-yaZ]
 unfold REff.app
 congr 1
 unfold REff.mst toD
 simp only[St.mk.injEq]
 refine ⟨rfl,?_,?_,rfl⟩
 ·rw[ymX ds s 2 _ (.inr rfl)];funext k;cases k<;>rfl
 ·rw[ype h];exact yg6 _ _
theorem ygF {ds:DS} {s:Nat} {b:KB} {v:AV} {d:Option Nat} (h:memO ds.nw s=false):REff.app ⟨v,[((s,2),some b.blk)],[s],none⟩ d (toD ds)=toD ((ds.set s 2 (some b)).put d v):=yhU (some b) h
theorem yiz {ds:DS} {s q c:Nat} (bo:Option KB) {v:AV} {d:Option Nat} (h:memO ds.nw s=false) (hc:c=1∨(c=2∧memO ds.nw q=true)):REff.app ⟨v,[((q,c),none),((s,2),bo.map KB.blk)],[s],none⟩ d (toD ds)=toD (((ds.set q c none).set s 2 bo).put d v):=by
 rw[<-yaZ]
 unfold REff.app
 congr 1
 have hc':c=1∨c=2:=hc.imp id (·.1)
 have hne:q=s→c=1:=by
  rintro rfl
  rcases hc with e|⟨_,e⟩
  ·exact e
  ·rw[h] at e;cases e
 have hm:memO (ds.set q c none).nw s=false:=by
  rcases hc with rfl|⟨rfl,e⟩
  ·exact h
  ·show (Nat.beq q s||memO ds.nw s)=false
   rw[h,Bool.or_false]
   cases hb:Nat.beq q s with
   |true=>have:=hne (nbeq.1 hb);cases this
   |false=>rfl
 unfold REff.mst toD
 simp only[St.mk.injEq]
 refine ⟨?_,?_,?_,?_⟩
 ·rw[yh4,yh4]
 ·rw[ymX _ s 2 _ (.inr rfl),ymX ds q c _ hc'];funext k;cases k<;>rfl
 ·rw[ype hm,ymK hc];exact yg6 _ _
 ·rw[ygU,ygU]
theorem yoB {ds:DS} {s q c:Nat} {b:KB} {v:AV} {d:Option Nat} (h:memO ds.nw s=false) (hc:c=1∨(c=2/\memO ds.nw q=true)):REff.app ⟨v,[((q,c),none),((s,2),some b.blk)],[s],none⟩ d (toD ds)=toD (((ds.set q c none).set s 2 (some b)).put d v):=yiz (some b) h hc
theorem yoT {ds:DS} {s:Nat} (h:memO ds.nw s=false):(toD ds).cnt s=1:=by show ds.cn s=1;unfold DS.cn;rw[h]
theorem yd9 {ds:DS} {s:Nat} {ks:List (Nat×Nat)} {b:Blk} {v:Key→AV} (h:memO ds.nw s=false):ycK (fun _=>false) s (toD ds) ks b v=some ⟨v (.l s 2),ks.map (fun k=>(k,none))++ [((s,2),some b)],[s],none⟩:=by
 unfold ycK
 rw[if_pos rfl,yoT h]
theorem ygn {ds:DS} {s:Nat} {ks:List (Nat×Nat)} {b:Blk} {n:Nat} (h:memO ds.nw s=false) (h1:b.cells.length=n*b.sz) (h2:b.sz≠0) (h3:noLs b.cells=true):ycM (fun _=>false) s (toD ds) ks b n=some ⟨.sl false n b.cells,ks.map (fun k=>(k,none))++ [((s,2),none)],[s],none⟩:=by
 unfold ycM
 rw[if_pos ⟨rfl,h1,h2,h3⟩,yoT h]
theorem yi0 {u:AOp} {d:Option Nat} {ds ds':DS} {e:REff} {C:List Prop} (h:kx u d ds=some (C,e,ds')) (hC:AllP C) (hk:DOk ds):Eff u d ds e ds':=by
 cases u
 case box ee sz x=>
  simp only[kx] at h
  split at h
  ·rename_i hm
   split at h
   ·rename_i hc
    simp only[Option.some.injEq,Prod.mk.injEq] at h
    obtain ⟨_,rfl,rfl⟩:=h
    refine ⟨?_,ygF (b:=⟨ee,sz,(ev (lkF ds.fr) x).cells,false⟩) hm,DOk.put (hk.set (.inr rfl) fun x hx=>by cases hx;exact ⟨.inl (by have:=hc.2.2;show sz≠0;omega),fun q=>by cases q⟩)⟩
    simp only[effA]
    rw[ybk,if_pos hc,yd9 hm];rfl
   ·cases h
  ·cases h
 case bsl ee sz len z parts=>
  simp only[kx] at h
  split at h
  ·rename_i cs hm hf
   split at h
   ·rename_i hc
    simp only[Option.some.injEq,Prod.mk.injEq] at h
    obtain ⟨_,rfl,rfl⟩:=h
    refine ⟨?_,ygF (b:=⟨ee,sz,cs.map weak,false⟩) hm,DOk.put (hk.set (.inr rfl) fun x hx=>by cases hx;exact ⟨.inl (by have:=hc.2.1;show sz≠0;omega),fun q=>by cases q⟩)⟩
    simp only[effA]
    rw[ybk,if_pos hc,hf,Option.bind_some,yd9 hm];rfl
   ·cases h
  ·cases h
 case ld g sz x=>
  simp only[kx] at h
  have hld:∀(cs:List AV) (off:Nat) (v:AV),kld g sz cs off=some v→ypX g sz (some (cs,off))=some (eff1 v):=by
   intro cs off v hv
   unfold ypX
   cases g with
   | true=>
     simp only[kld] at hv
     split at hv
     ·rename_i hle;cases hv;simp[hle]
     ·cases hv
   |false=>simp only[kld] at hv;simp[hv,effP]
  split at h
  ·rename_i s c off e1
   split at h
   ·rename_i b hb
    split at h
    ·rename_i v hv
     simp only[Option.some.injEq,Prod.mk.injEq] at h
     obtain ⟨_,rfl,rfl⟩:=h
     obtain ⟨hz,hv⟩:b.sz≠0∧kld g sz b.cells off=some v:=by
      split at hv
      ·rename_i q;exact ⟨q,hv⟩
      ·cases hv
     refine ⟨?_,ycV v d ds,DOk.put hk⟩
     simp only[effA]
     have:tgt (toD ds) (ev (toD ds).fr x)=some (b.cells,off):=by
      rw[ybk,e1]
      show (((ds.kb s c).map KB.blk).bind _)=_
      rw[hb]
      show (if b.sz=0 then none else some (b.cells,off))=_
      rw[if_neg hz]
     rw[this];exact hld _ _ _ hv
    ·cases h
   ·cases h
  ·rename_i xs off e1
   split at h
   ·rename_i v hv
    simp only[Option.some.injEq,Prod.mk.injEq] at h
    obtain ⟨_,rfl,rfl⟩:=h
    refine ⟨?_,ycV v d ds,DOk.put hk⟩
    simp only[effA]
    rw[ybk,e1];exact hld _ _ _ hv
   ·cases h
  ·cases h
 case sto sz x y=>
  simp only[kx] at h
  split at h
  ·rename_i s c off e1
   split at h
   ·rename_i b hb
    split at h
    ·rename_i hc
     simp only[Option.some.injEq,Prod.mk.injEq] at h
     obtain ⟨_,rfl,rfl⟩:=h
     have hcc:=kb_c hb
     refine ⟨?_,ynp (b:=⟨b.e,b.sz,b.cells.take off++(ev (lkF ds.fr) y).cells++b.cells.drop (off+sz),false⟩) hcc,DOk.put (hk.set (hcc.imp id (·.1)) fun x hx=>by cases hx;exact ⟨.inl hc.1,fun q=>by cases q⟩)⟩
     simp only[effA]
     rw[ybk,e1]
     show (((ds.kb s c).map KB.blk).bind _)=_
     rw[hb]
     simp only[Option.map_some,Option.bind_some]
     rw[if_pos ⟨hc.1,hc.2.1,hc.2.2.1,hc.2.2.2,rfl⟩];rfl
    ·cases h
   ·cases h
  ·cases h
 all_goals first|(simp only[kx,reduceCtorEq] at h;done)|skip
 all_goals
  simp only[kx] at h
  split at h
  ·rename_i C' v hp
   simp only[Option.some.injEq,Prod.mk.injEq] at h
   obtain ⟨rfl,rfl,rfl⟩:=h
   have hpv:=ysC hp hC
   refine ⟨?_,ycV v d ds,DOk.put hk⟩
   show effP (pval (yav (toD ds)) (ev (lkF ds.fr)) _)=_
   rw[hpv];rfl
  ·cases h
end Go.AV
end
noncomputable section
namespace Go.AV
open Go.RowKit Go.RG Go.Lib
def isMC:AOp→Bool
 | .call .. | .calv .. =>true
 |_=>false
mutual
def pubA (s:Nat) (b:KB):AV→AV
 | .agg cs=> .agg (ymM s b cs)
 | .tup cs=> .tup (ymM s b cs)
 | .fn f a c=> .fn f (ymM s b a) (ymM s b c)
 | .gs (.l d c) n=>match Nat.beq d s&&Nat.beq c 1 with
   |true=> .sl false n b.cells
   |false=> .gs (.l d c) n
 |u=>u
def ymM (s:Nat) (b:KB):List AV→List AV
 | []=> []
 |u::r=>pubA s b u::ymM s b r
end
section
variable {P:Program} {B:Base} [GB P B] {N:Nat} {ro:Option Nat} {hs:Nat->Bool} {ks:KS}
end
section
variable {P:Program} {B:Base} [GB P B] {N:Nat} {ro:Option Nat} {hs:Nat->Bool} {ds:DS}
end
section
variable (P:Program) (B:Base) (N:Nat) (ro:Option Nat)
def RelD (ds:DS) (a:Act) (G:Gh):Prop:=Rel B N (toD ds) a G/\DOk ds
def WD (L:List AO) (i:Nat) (Q:KS->Prop) (ds:DS):Prop:=∀ops pre suf,ops.toList=pre++suf->ybT P N ops 0 suf=some (L.drop i)->∀a G,RelD B N ds a G->wpOpsIn (FR ro) 0 P ops (yfG B N (nQ Q)) (List.range' pre.length suf.length) a G.w
end
section
variable {P:Program} {B:Base} [GB P B] {N:Nat} {ro:Option Nat} {hs:Nat->Bool} {L:List AO} {Q:KS->Prop} {ds:DS} {i:Nat}
theorem yhL {o:AO} (e:L[i]? =some o):L.drop i=o::L.drop (i+1):=by
 have hi:=(List.getElem?_eq_some_iff.1 e).1
 rw[List.drop_eq_getElem_cons hi]
 congr 1
 exact (List.getElem?_eq_some_iff.1 e).2
theorem ysz (h:DOk ds→RE B N (toD ds) (fun ks=>WD P B N ro L i Q (ofK ks))):WD P B N ro L i Q ds:=by
 have _:=(inferInstance:GB P B)
 intro ops pre suf he ht a G hR
 obtain ⟨k1,G1,e1,e2,e3⟩:=h hR.2 a G hR.1
 rw[<-e1]
 exact e3 ops pre suf he ht a G1 ⟨by rw[ydl];exact e2.1,ydr e2.2⟩
def gok (g:Option (Nat×Bool)) (fr:List (Nat×AV)):Bool:=match g with
 |none=>true
 | some (d,b)=>match lkF fr d with
   | .bl c=>c==b
   |_=>false
def gno (g:Option (Nat×Bool)) (fr:List (Nat×AV)):Bool:=match g with
 |none=>false
 | some (d,b)=>match lkF fr d with
   | .bl c=>c== !b
   | .tup []=>true
   |_=>false
theorem ypj {o:AO} (e:L[i]? =some o) (hg:gok o.guard ds.fr=true) (hh:isHk o.op=false) (h:DOk ds→∀(x:Oper) (a:Act) (G:Gh) (next:Act→World→Prop) (Q':Exit→Act→World→Prop),Rel B N (toD ds) a G→TrO P N x o.op→x.dst=o.dst→Nxt B N a x (fun v S'=>∃ds',S'.put o.dst v=toD ds'∧DOk ds'∧WD P B N ro L (i+1) Q ds') next→x.wpIn (FR ro) 0 P a G.w next Q'):WD P B N ro L i Q ds:=by
 have _:=(inferInstance:GB P B)
 intro ops pre suf he ht a G hR
 rw[yhL e] at ht
 cases suf with
 |nil=>simp[ybT] at ht
 | cons x suf=>
   have hat:ops[pre.length]? =some x:=by rw[<-Array.getElem?_toList,he];simp
   rcases ydd ht with ⟨u,g,h1,_,h2,h3,h4,h5⟩|⟨m,xs,_,_,_,_,_,_,h5,_⟩
   rotate_left
   ·subst h5;cases hh
   subst h5
   rw[List.length_cons,List.range'_succ]
   simp only[wpOpsIn,hat]
   have hwant:Region.wanted x (yielded ops a.tmps)=true:=by
    cases hx:x.guard with
    |none=>simp[Region.wanted,hx]
    | some jb=>
      obtain ⟨j,want⟩:=jb
      rw[hx] at h2
      simp only[ycE] at h2
      split at h2<;>first|(cases h2;done)|skip
      rename_i d' hd
      split at h2<;>first|(cases h2;done)|skip
      rename_i hdN
      cases h2
      simp only[gok] at hg
      split at hg
      ·rename_i c hc
       have hdt:d'<a.tmps.size:=by rw[hR.1.tsize];exact hdN
       have hslot:=hR.1.slot d' a.tmps[d'] (Array.getElem?_eq_getElem hdt)
       rw[show (toD ds).fr d'= .bl c from hc] at hslot
       have hb:a.tmps[d']? =some (.bool c):=by rw[Array.getElem?_eq_getElem hdt,hslot.bl_inv]
       simp[Region.wanted,hx,yielded,hd,hb];simpa using hg
      ·cases hg
   rw[if_pos hwant]
   refine h hR.2 x a G _ _ hR.1 ⟨u,_,h1,rfl⟩ rfl fun av v S' G' hK hR' hv=> ?_
   obtain ⟨ds',e1,e2,e3⟩:=hK
   have:=e3 ops (pre++ [x]) suf (by rw[he];simp) h4 _ G' ⟨by rw[<-e1];exact hR'.put h3 hv,e2⟩
   simpa using this
theorem ylR {o:AO} (e:L[i]? =some o) (hg:gok o.guard ds.fr=true) (h:DOk ds→aop hs (ycO P) o.op o.dst (toD ds) (fun v S'=>∃ds',S'.put o.dst v=toD ds'∧DOk ds'∧WD P B N ro L (i+1) Q ds')):WD P B N ro L i Q ds:=by
 cases hh:isHk o.op with
 |false=>exact ypj e hg hh fun hk x a G next Q' hR ht hd hn=>ynK hR ht (by rw[hd];exact h hk) hn
 | true=>
   intro ops pre suf he ht a G hR
   have:=h hR.2
   cases hop:o.op<;>rw[hop] at hh this<;>first|(cases hh;done)|skip
   exact absurd this (by simp[aop,pval,wpv])
theorem yrL {o:AO} (e:L[i]? =some o) (hg:gno o.guard ds.fr=true) (h:WD P B N ro L (i+1) Q (ds.put o.dst (.tup []))):WD P B N ro L i Q ds:=by
 have _:=(inferInstance:GB P B)
 intro ops pre suf he ht a G hR
 rw[yhL e] at ht
 cases suf with
 |nil=>simp[ybT] at ht
 | cons x suf=>
   have hat:ops[pre.length]? =some x:=by rw[<-Array.getElem?_toList,he];simp
   rcases ydd ht with ⟨u,g,h1,_,h2,h3,h4,h5⟩|⟨m,xs,_,_,_,_,_,_,h5,_⟩
   rotate_left
   ·subst h5;cases hg
   subst h5
   rw[List.length_cons,List.range'_succ]
   simp only[wpOpsIn,hat]
   have hwant:Region.wanted x (yielded ops a.tmps)=false:=by
    cases hx:x.guard with
    | none=>
      rw[hx] at h2
      simp only[ycE,Option.some.injEq] at h2;subst h2
      cases hg
    | some jb=>
      obtain ⟨j,want⟩:=jb
      rw[hx] at h2
      simp only[ycE] at h2
      split at h2<;>first|(cases h2;done)|skip
      rename_i d' hd
      split at h2<;>first|(cases h2;done)|skip
      rename_i hdN
      cases h2
      have hdt:d'<a.tmps.size:=by rw[hR.1.tsize];exact hdN
      have hslot:=hR.1.slot d' a.tmps[d'] (Array.getElem?_eq_getElem hdt)
      simp only[gno] at hg
      split at hg
      ·rename_i c hc
       rw[show (toD ds).fr d'= .bl c from hc] at hslot
       have hb:a.tmps[d']? =some (.bool c):=by rw[Array.getElem?_eq_getElem hdt,hslot.bl_inv]
       have hg':c= !want:=by simpa using hg
       simp[Region.wanted,hx,yielded,hd,hb,hg']
      ·rename_i hc
       rw[show (toD ds).fr d'= .tup [] from hc] at hslot
       obtain ⟨vs,q0,q1,_⟩:=hslot.tup_inv
       have hb:a.tmps[d']? =some (.tuple vs):=by rw[Array.getElem?_eq_getElem hdt,q0]
       simp[Region.wanted,hx,yielded,hd,hb]
      ·cases hg
   rw[if_neg (by rw[hwant];simp)]
   refine ⟨fun _ _=>trivial,?_⟩
   have:=h ops (pre++ [x]) suf (by rw[he];simp) h4 (a.put x.dst undef) G ⟨by rw[<-yaZ];exact hR.1.put h3 (.tup [] #[] rfl (fun j u x hu=>by simp at hu)),hR.2.put⟩
   simpa using this
theorem ykV {ops:Array Oper} {R:Exit→Act→World→Prop}:∀(mid suf:List Oper) (pre:List Oper) (a:Act) (w:World),ops.toList=pre++(mid++suf)→(∀y∈mid,hkOk y=true)→ynP P R mid a w (fun a' w'=>wpOpsIn (FR ro) 0 P ops R (List.range' (pre.length+mid.length) suf.length) a' w')→
  wpOpsIn (FR ro) 0 P ops R (List.range' pre.length (mid++suf).length) a w
 | [],suf,pre,a,w,he,hy,h=>by simpa [ynP] using h
 | x::mid,suf,pre,a,w,he,hy,h=>by
   have hat:ops[pre.length]? =some x:=by rw[<-Array.getElem?_toList,he];simp
   have hx:=hy x List.mem_cons_self
   simp only[hkOk,Bool.and_eq_true,Option.isNone_iff_eq_none] at hx
   rw[List.cons_append,List.length_cons,List.range'_succ]
   simp only[wpOpsIn,hat]
   rw[if_pos (by simp[Region.wanted,hx.1])]
   refine yfo (Oper.wp_mono (fun a' w' h'=> ?_) h) fun d hd=>by rw[hd] at hx;exact absurd hx.2 (by simp)
   have:=ykV mid suf (pre++ [x]) a' w' (by rw[he];simp) (fun y q=>hy y (List.mem_cons_of_mem _ q)) (by
    have e:(pre++ [x]).length+mid.length=pre.length+(x::mid).length:=by simp;omega
    rw[e];exact h')
   simpa using this
def clrD (cl:List Nat) (ds:DS):DS:=cl.foldl (fun ds c=>ds.put (some c) .un) ds
theorem yqP {cl:List Nat}:∀ {ds:DS},DOk ds→DOk (clrD cl ds):=by
 induction cl with
 |nil=>exact fun h=>h
 |cons c cl ih=>exact fun h=>ih h.put
theorem Rel.wipe {S:St} {a:Act} {G:Gh} (h:Rel B N S a G) {c:Nat}:Rel B N (S.put (some c) .un) a G:=
 { (show MRel B (S.put (some c) .un) G from {h.toMRel with}) with
  defers:=h.defers,tsize:=h.tsize
  slot:=fun t v q=>by
   show VR G (upd S.fr c .un t) v
   by_cases e:t=c
   ·subst e;rw[ykL];exact .un _
   ·rw[ygV _ _ e];exact h.slot t v q
  ext:=fun j v q=>by
   show VR G (upd S.fr c .un (N+j)) v
   by_cases e:N+j=c
   ·rw[e,ykL];exact .un _
   ·rw[ygV _ _ e];exact h.ext j v q}
theorem yoO {a:Act} {G:Gh} {cl:List Nat}:∀ {ds:DS},Rel B N (toD ds) a G→Rel B N (toD (clrD cl ds)) a G:=by
 induction cl with
 |nil=>exact fun h=>h
 |cons c cl ih=>exact fun h=>ih (by rw[<-yaZ];exact h.wipe)
theorem yqz {c:Nat} {cl:List Nat}:∀ {ds:DS},(c∈cl∨lkF ds.fr c= .un)→lkF (clrD cl ds).fr c= .un:=by
 induction cl with
 |nil=>intro ds h;rcases h with h|h;cases h;exact h
 | cons d cl ih=>
   intro ds h
   refine ih ?_
   by_cases hc:c∈cl
   ·exact .inl hc
   ·right
    show (match Nat.beq d c with|true=>AV.un|false=>lkF ds.fr c)= .un
    by_cases e:d=c
    ·subst e;rw[show Nat.beq d d=true from Nat.beq_refl d]
    ·rcases h with h|h
     ·rcases List.mem_cons.1 h with q|q
      ·exact absurd q.symm e
      ·exact absurd q hc
     ·cases hb:Nat.beq d c with
      |true=>rfl
      |false=>exact h
theorem ym1 {S:St} {a:Act} {G:Gh} (h:Rel B N S a G):∀ {l:List Operand} {us:List AOpd},trL P N l=some us→VRs G (us.map (ev S.fr)) (l.map a.eval)
 | [],us,e=>by simp only[trL,Option.some.injEq] at e;subst e;exact ⟨rfl,fun j u x q=>by simp at q⟩
 | x::l,us,e=>by
   simp only[trL] at e
   split at e
   ·rename_i u us' h1 h2
    cases e
    have h3:=ym1 h h2
    refine ⟨by simpa using h3.1,fun j v y q r=> ?_⟩
    cases j with
    |zero=>simp at q r;subst q;subst r;exact yaM h h1
    |succ j=>exact h3.2 j v y (by simpa using q) (by simpa using r)
   ·cases e
theorem yf7.frS {c:Cal} {args:List AV} {S:St} {K:AV→St→Prop} (h:yf7 P c args S K):yf7 P c args S fun v S'=>S'.fr=S.fr∧K v S':=by
 obtain ⟨f,inn,h1,h2,h3⟩:=h
 refine ⟨f,inn,h1,h2,h3.mono ?_⟩
 rintro av S1 ⟨out,bs,ho,hK⟩
 exact ⟨out,bs,ho,rfl,hK⟩
theorem ytK {o:AO} {k n:Nat} {xs:List AOpd} {cl:List Nat} (e:L[i]? =some o) (ho:o.op= .hk k n xs cl)
  (h:DOk ds->yf7 P (.f (1000000+k)) (xs.map (ev (lkF (clrD cl ds).fr))) (toD (clrD cl ds)) fun v S'=>∃ds',S'.put o.dst v=toD ds'/\DOk ds'/\WD P B N ro L (i+1) Q ds'):WD P B N ro L i Q ds:=by
 have _:=(inferInstance:GB P B)
 intro ops pre suf he ht a G hR
 rw[yhL e] at ht
 cases suf with
 |nil=>simp[ybT] at ht
 | cons x suf=>
   rcases ydd ht with ⟨u,g,_,hn,_,_,_,h5⟩|⟨m,xs',h1,h2,h3,h4,h5,h6,h7,h8⟩
   ·subst h5
    exfalso
    have ho:pubO (pubS P ops x.dst) u=AOp.hk k n xs cl:=ho
    generalize pubS P ops x.dst=b at ho
    cases b<;>cases u<;>first|(cases ho;done)|(cases hn;done)
   ·subst h7
    cases ho
    have hRc:=yoO (cl:=m.cl) hR.1
    have hc:=h hR.2
    have hrun:=yiX (vs:=(m.xs.map a.eval).toArray) hRc (show VRs G (xs.map (ev (toD (clrD m.cl ds)).fr)) (m.xs.map a.eval).toArray.toList from ym1 hRc h2) hc.frS
    rw[XW_h] at hrun
    have hsp:x::suf=(x::suf).take (m.n+1)++suf.drop m.n:=by
     rw[show suf.drop m.n=(x::suf).drop (m.n+1) from rfl,List.take_append_drop]
    have hlen:((x::suf).take (m.n+1)).length=m.n+1:=by simp;omega
    rw[hsp] at he h1⊢
    refine ykV _ _ pre a G.w he h6 ?_
    refine hrun m _ _ a _ _ h1 rfl hlen (by simp) (by rw[hR.1.tsize];exact h3) (fun c hc=>by rw[hR.1.tsize];exact h4 c hc) ?_
    rintro v w' a' ⟨v',av,S',G',q1,⟨hfr,ds',d1,d2,d3⟩,hR',hw,hv,_⟩ e1 e2 e3 e4
    cases q1
    subst hw
    have hk':=d3 ops (pre++(x::suf).take (m.n+1)) (suf.drop m.n) (by rw[he];simp) h8 a' G' ⟨?_,d2⟩
    ·rw[List.length_append] at hk';exact hk'
    ·rw[← d1]
     refine {(show MRel B (S'.put (some m.d) av) G' from {hR'.toMRel with}) with defers:=by rw[e1];exact hR'.defers,tsize:=by rw[e2];exact hR'.tsize,slot:=fun t y q=> ?_,ext:=fun j y q=> ?_}
     ·show VR G' (upd S'.fr m.d av t) y
      by_cases et:t=m.d
      ·subst et
       rw[ykL]
       rw[e4] at q;cases q;exact hv
      ·rw[ygV _ _ et]
       by_cases ec:t∈m.cl
       ·rw[hfr,show (toD (clrD m.cl ds)).fr t= .un from yqz (.inl ec)];exact .un _
       ·rw[e3 t et ec] at q;exact hR'.slot t y q
     ·show VR G' (upd S'.fr m.d av (N+j)) y
      rw[ygV _ _ (by omega)]
      exact hR'.ext j y q
theorem WD_e {o:AO} {e:REff} {ds':DS} (e0:L[i]? =some o) (hg:gok o.guard ds.fr=true) (h:DOk ds→Eff o.op o.dst ds e ds') (hc:isMC o.op=false) (k:WD P B N ro L (i+1) Q ds'):WD P B N ro L i Q ds:=by
 refine ylR (hs:=fun _=>false) e0 hg fun hk=> ?_
 obtain ⟨h1,h2,h3⟩:=h hk
 have hE:yfn (fun _=>false) P o.op o.dst (toD ds) e:=by
  cases hop:o.op<;>rw[hop] at h1 hc<;>first|exact h1|(cases hc;done)
 exact yo9 hE ⟨ds',h2,h3,k⟩
theorem yqT {d:Nat} {b:Bool} (hv:lkF ds.fr d= .bl b) (h1:b=true→WD P B N ro L i Q (ds.put (some d) (.bl true))) (h2:b=false→WD P B N ro L i Q (ds.put (some d) (.bl false))):WD P B N ro L i Q ds:=by
 have _:=(inferInstance:GB P B)
 have key:toD ds=toD (ds.put (some d) (.bl b)):=by
  rw[<-yaZ]
  unfold toD St.put
  simp only[St.mk.injEq,and_true]
  funext t
  unfold upd
  by_cases h:t=d
  ·subst h;simp[hv]
  ·simp[h]
 have hh:WD P B N ro L i Q (ds.put (some d) (.bl b)):=by cases b;exact h2 rfl;exact h1 rfl
 intro ops pre suf he ht a G hR
 exact hh ops pre suf he ht a G ⟨by rw[<-key];exact hR.1,hR.2.put⟩
theorem yrK {t n:Nat} {z:Bool} {xs:List AV} (ht:t<N) (e:lkF ds.fr t= .sl z n xs) (h:n≤maxLen→WD P B N ro L i Q ds):WD P B N ro L i Q ds:=by
 have _:=(inferInstance:GB P B)
 intro ops pre suf he hts a G hR
 refine h ?_ ops pre suf he hts a G hR
 have hdt:t<a.tmps.size:=by rw[hR.1.tsize];exact ht
 have hslot:=hR.1.slot t a.tmps[t] (Array.getElem?_eq_getElem hdt)
 rw[show (toD ds).fr t= .sl z n xs from e] at hslot
 rcases hslot.sl_inv with ⟨_,h0,_⟩|⟨_,h0,_⟩|⟨_,b,off,cap,f,_,_,_,_,_,_,hm,_⟩
 ·rw[h0];exact Nat.zero_le _
 ·rw[h0];exact Nat.zero_le _
 ·exact hm
theorem yr6 {o:AO} {g:Bool} {x y:AOpd} {z:Bool} {n m:Nat} {xs ys:List AV} (e:L[i]? =some o) (hg:gok o.guard ds.fr=true) (ho:o.op= .eq g 4 x y) (hx:ev (lkF ds.fr) x= .sl z n xs) (hy:ev (lkF ds.fr) y= .sl true m ys) (h:∀b:Bool,(b=true→n=0)→WD P B N ro L (i+1) Q (ds.put o.dst (.bl (ngB g b)))):WD P B N ro L i Q ds:=by
 have _:=(inferInstance:GB P B)
 refine ypj e hg (by rw[ho];rfl) fun hk c a G next Q' hR ht hd hn=> ?_
 rw[ho] at ht
 obtain ⟨op,t,p,q,yt,hc,h1,h2,hop,hk4,hgg⟩:=yp9 (ht.plain rfl)
 have rx:=yaM hR h1
 have ry:=yaM hR h2
 rw[show ev (toD ds).fr x= .sl z n xs from hx] at rx
 rw[show ev (toD ds).fr y= .sl true m ys from hy] at ry
 have ey:=ry.nsl_inv.1
 have hp:∃e,P.underlying t=some (.slice e):=by
  unfold ycQ at hk4
  split at hk4<;>simp only[Option.some.injEq,reduceCtorEq,Nat.reduceEqDiff,Nat.reduceSucc] at hk4<;>first|(cases hk4;done)|skip
  rename_i e hu;exact ⟨e,hu⟩
 obtain ⟨et,hp⟩:=hp
 have key:∃b:Bool,(b=true→n=0)∧ydc (a.eval p) (a.eval q)∧∀d,(Op.equalIn (d+1) t (a.eval p) (a.eval q)).run P G.w= .ok b G.w:=by
  rw[ey]
  rcases rx.sl_inv with ⟨e1,hn0,_⟩|⟨_,hn0,_,ad,cap,e1⟩|⟨_,bb,off,cap,f,e1,_⟩
  ·exact ⟨true,fun _=>hn0,by rw[e1];exact .l _ _ _ _ _ _,fun d=>by rw[e1];simp[Op.equalIn,run_underlying hp]⟩
  ·exact ⟨false,fun h=>(by cases h),by rw[e1];exact .l _ _ _ _ _ _,fun d=>by rw[e1];simp[Op.equalIn,run_underlying hp]⟩
  ·exact ⟨false,fun h=>(by cases h),by rw[e1];exact .l _ _ _ _ _ _,fun d=>by rw[e1];simp[Op.equalIn,run_underlying hp]⟩
 obtain ⟨b,hb,hs,he⟩:=key
 obtain ⟨v,hr,hv⟩:yaU P a G c (.bl (ngB g b)):=by
  rw[ymQ,hgg]
  exact y_of (by simp only[execOp,hc]) (ypd (x:=p) (y:=q) hs hop ⟨4,hk4⟩ he) (.bl _)
 refine yfo (ycw hr (hn _ _ _ G ⟨ds.put o.dst (.bl (ngB g b)),by rw[<-yaZ],hk.put,h b hb⟩ hR hv)) ?_
 intro d hd'
 rw[hc] at hd';cases hd'
end
def DD (P:Program) (L:List (AO×List Nat)) (i:Nat) (acc:List Foot) (Q:St->Prop) (ds:DS):Prop:=DOk ds->runD (fun _=>false) P (L.drop i) acc Q (toD ds)
section
variable {P:Program} {B:Base} [GB P B] {N:Nat} {L:List (AO×List Nat)} {Q:St->Prop} {ds:DS} {i:Nat} {acc:List Foot}
theorem ykQ {o:AO×List Nat} (e:L[i]? =some o):L.drop i=o::L.drop (i+1):=by
 have hi:=(List.getElem?_eq_some_iff.1 e).1
 rw[List.drop_eq_getElem_cons hi]
 congr 1
 exact (List.getElem?_eq_some_iff.1 e).2
theorem ynj {o:AO} {fre:List Nat} (e0:L[i]? =some (o,fre)) (hg:gok o.guard ds.fr=true) (h:DOk ds→eop (fun _=>false) P o.op o.dst (toD ds) fun e=>yfh (yby o.op (toD ds) e) acc fre∧runD (fun _=>false) P (L.drop (i+1)) (acc++ [yby o.op (toD ds) e]) Q (e.app o.dst (toD ds))):DD P L i acc Q ds:=by
 intro hk
 rw[ykQ e0]
 simp only[runD]
 cases hq:o.guard with
 |none=>exact h hk
 | some p=>
   obtain ⟨g,b⟩:=p
   rw[hq] at hg
   simp only[gok] at hg
   split at hg
   ·rename_i c hc
    simp only
    rw[show (toD ds).fr g= .bl c from hc]
    simp only
    rw[if_pos (by simpa using hg)]
    exact h hk
   ·cases hg
theorem yr2 {o:AO} {fre:List Nat} (e0:L[i]? =some (o,fre)) (hg:gno o.guard ds.fr=true) (k:DD P L (i+1) (acc++ [yda]) Q (ds.put o.dst (.tup []))):DD P L i acc Q ds:=by
 intro hk
 rw[ykQ e0]
 simp only[runD]
 cases hq:o.guard with
 |none=>rw[hq] at hg;cases hg
 | some p=>
   obtain ⟨g,b⟩:=p
   rw[hq] at hg
   simp only[gno] at hg
   simp only
   split at hg
   ·rename_i c hc
    rw[show (toD ds).fr g= .bl c from hc]
    simp only
    have:c= !b:=by simpa using hg
    rw[if_neg (by rw[this];cases b<;>simp),yaZ]
    exact k hk.put
   ·rename_i hc
    rw[show (toD ds).fr g= .tup [] from hc]
    simp only
    rw[yaZ]
    exact k hk.put
   ·cases hg
theorem yqu {d:Nat} {b:Bool} (hv:lkF ds.fr d= .bl b) (h1:b=true→DD P L i acc Q (ds.put (some d) (.bl true))) (h2:b=false→DD P L i acc Q (ds.put (some d) (.bl false))):DD P L i acc Q ds:=by
 have key:toD ds=toD (ds.put (some d) (.bl b)):=by
  rw[<-yaZ]
  unfold toD St.put
  simp only[St.mk.injEq,and_true]
  funext t
  unfold upd
  by_cases h:t=d
  ·subst h;simp[hv]
  ·simp[h]
 have hh:DD P L i acc Q (ds.put (some d) (.bl b)):=by cases b;exact h2 rfl;exact h1 rfl
 intro hk
 rw[key]
 exact hh hk.put
end
end Go.AV
end
noncomputable section
namespace Go.AV
open Go.RowKit Go.RG Go.Lib
theorem yay.weakR {P:Program} {f:FuncId} {args:List AV} {H:Hp} {n:Nat} {Post:AV→Hp→Nat→Prop} (h:yay P f args H n fun av H' n'=>Post (weak av) H' n'):yay P f args H n Post:=fun G vs hg hM hV=>
 (h G vs hg hM hV).mono fun _ _ ⟨v,av,H',n',G',a1,a2,a3,a4,a5,a6⟩=>⟨v,weak av,H',n',G',a1,a2,a3,a4,a5.weak,by rw[yjT];exact a6⟩
def ydg:List AV→DS→Option (List AV×List (Nat×Nat)×DS)
 | [],ds=>some ([],[],ds)
 | v :: r, ds=>match v.noL with
   | true=>match ydg r ds with
     |some (vs,kl,d1)=>some (v::vs,kl,d1)
     |none=>none
   | false =>match v with
     | .gs (.l d c) n=>match ds.kb d c with
       | some b=>match Nat.beq b.cells.length (n*b.sz)&&(noLs b.cells&&Nat.ble 1 b.sz) with
         | true=>match ydg r (ds.set d c none) with
           |some (vs,kl,d1)=>some (.sl false n b.cells::vs,(d,c)::kl,d1)
           |none=>none
         |false=>none
       |none=>none
     |_=>none
theorem ykX {ds:DS} {d c:Nat} {b:KB} (h:ds.kb d c=some b):(toD ds).kill (.l d c)=toD (ds.set d c none):=by
 have hc:=kb_c h
 unfold St.kill toD
 simp only[St.mk.injEq]
 exact ⟨by rw[yh4],by rw[ymX ds d c _ (hc.imp id (·.1))];rfl,by rw[ymK hc],by rw[ygU]⟩
theorem yfV:∀(vs:List AV) (ds:DS) (vs':List AV) (kl:List (Nat×Nat)) (d1:DS),DOk ds→ydg vs ds=some (vs',kl,d1)→pubL vs (toD ds)=(vs',toD d1)∧pkL vs (toD ds)=kl∧DOk d1∧d1.H=ds.H∧d1.nx=ds.nx
 | [],ds,vs',kl,d1,hk,h=>by simp only[ydg,Option.some.injEq,Prod.mk.injEq] at h;obtain ⟨rfl,rfl,rfl⟩:=h;exact ⟨rfl,rfl,hk,rfl,rfl⟩
 | v :: r,ds,vs',kl,d1,hk,h=>by
   simp only[ydg] at h
   split at h
   ·rename_i hn
    split at h
    ·rename_i vs kl' d1' h1
     cases h
     obtain ⟨a1,a2,a3,a4⟩:=yfV r ds _ _ _ hk h1
     have e1:pubV v (toD ds)=(v,toD ds):=by simp only[pubV,hn,if_true]
     have e2:pkV v (toD ds)= []:=by simp only[pkV,hn,if_true]
     refine ⟨?_,?_,a3,a4⟩
     ·simp only[pubL,e1,a1]
     ·simp only[pkL,e2,List.nil_append];exact a2
    ·cases h
   ·rename_i hn
    split at h
    ·rename_i d c n
     split at h
     ·rename_i b hb
      split at h
      ·rename_i hc
       simp only[Bool.and_eq_true] at hc
       split at h
       ·rename_i vs kl' d1' h1
        cases h
        obtain ⟨a1,a2,a3,a4,a5⟩:=yfV r _ _ _ _ (hk.set ((kb_c hb).imp id (·.1)) fun x hx=>by cases hx) h1
        have hm:(toD ds).M (.l d c)=some b.blk:=by show (ds.kb d c).map KB.blk=_;rw[hb];rfl
        have hcond:b.blk.cells.length=n*b.blk.sz/\b.blk.sz≠0/\noLs b.blk.cells=true:=⟨nbeq.1 hc.1,Nat.ne_of_gt (Nat.le_of_ble_eq_true hc.2.2),hc.2.1⟩
        have e1:pubV (.gs (.l d c) n) (toD ds)=(.sl false n b.cells,toD (ds.set d c none)):=by
         simp only[pubV,hn,Bool.false_eq_true,if_false,pub1,hm]
         rw[if_pos hcond,ykX hb];rfl
        have e2:pkV (.gs (.l d c) n) (toD ds)= [(d,c)]:=by
         simp only[pkV,hn,Bool.false_eq_true,if_false,pk1,hm]
         rw[if_pos hcond]
        have e3:(toD ds).kills [(d,c)]=toD (ds.set d c none):=by rw[<-ykX hb];rfl
        refine ⟨?_,?_,a3,by rw[a4,yq4],by rw[a5,ygU]⟩
        ·simp only[pubL,e1,a1]
        ·simp only[pkL,e2,e3,a2];rfl
       ·cases h
      ·cases h
     ·cases h
    ·cases h
def CalO (o:AO) (ds:DS) (f:FuncId) (vs:List AV):Prop:=(∃args,o.op= .call f args/\args.map (ev (lkF ds.fr))=vs)∨∃x args first cap,o.op= .calv x args/\ev (lkF ds.fr) x= .fn (.func f) first cap/\first++args.map (ev (lkF ds.fr))++cap=vs
section
variable {P:Program} {B:Base} [GB P B] {N:Nat} {ro:Option Nat} {hs:Nat->Bool} {L:List AO} {LD:List (AO×List Nat)} {Q:KS->Prop} {QD:St->Prop} {ds:DS} {i:Nat} {acc:List Foot}
end
section
variable {P:Program} {B:Base} [GB P B] {N:Nat} {ro:Option Nat} {hs:Nat->Bool} {L:List AO} {Q:KS->Prop} {ks:KS} {i:Nat}
def sqQ (Q:AEx→KS→Prop) (K:KS→Prop):AEx→KS→Prop:=fun e ks=>match e with
 | .n=>K ks
 | .x i=>Q (.x i) ks
 | .r=>Q .r ks
def bkQ (id:Nat) (Q:AEx→KS→Prop):AEx→KS→Prop:=fun e ks=>match e with
 | .n=>Q .n ks
 | .x i=>match Nat.beq i id with
   |true=>Q .n ks
   |false=>Q (.x i) ks
 | .r=>Q .r ks
theorem yfG.mono {Q Q':AEx→KS→Prop} (h:∀e ks,Q e ks→Q' e ks) {e:Exit} {a:Act} {w:World} (hp:yfG B N Q e a w):yfG B N Q' e a w:=by
 obtain ⟨ks,G,h1,h2,h3⟩:=hp
 refine ⟨ks,G,h1,h2,?_⟩
 cases e<;>first|exact h _ _ h3|exact h3
theorem ybQ {id:Nat} {ops:Array Oper} {draw:Bool} {x:ycl} (h:trC P N (.region id ops draw)=some x):(∃L,x= .ops L∧ybT P N ops 0 ops.toList=some L∧(draw=true→ordB P ops=true))∨∃l,x= .drw l∧trD P N ops=some l∧draw=true:=by
 cases draw with
 |false=>simp only[trC] at h;obtain ⟨l,hl,rfl⟩:=Option.map_eq_some_iff.1 h;exact .inl ⟨l,rfl,hl,fun e=>by cases e⟩
 | true=>
   simp only[trC] at h
   split at h
   ·rename_i hq;obtain ⟨l,hl,rfl⟩:=Option.map_eq_some_iff.1 h;exact .inl ⟨l,rfl,hl,fun _=>hq⟩
   ·obtain ⟨l,hl,rfl⟩:=Option.map_eq_some_iff.1 h;exact .inr ⟨l,rfl,hl,rfl⟩
theorem yr1 {c:Code} (h:trC P N c=some (.ops L)):∃id ops draw,c= .region id ops draw∧ybT P N ops 0 ops.toList=some L∧(draw=true→ordB P ops=true):=by
 cases c
 case region id ops draw=>
  rcases ybQ h with ⟨L',e,h1,h2⟩|⟨_,e,_⟩
  ·cases e;exact ⟨id,ops,draw,rfl,h1,h2⟩
  ·cases e
 all_goals (exfalso;revert h;unfold trC;(try split)<;>(try split)<;>simp)
theorem yrF {c:Code} {l:List (AO×List Nat)} (h:trC P N c=some (.drw l)):∃id ops,c= .region id ops true∧trD P N ops=some l:=by
 cases c
 case region id ops draw=>
  rcases ybQ h with ⟨_,e,_⟩|⟨_,e,h1,rfl⟩
  ·cases e
  ·cases e;exact ⟨id,ops,rfl,h1⟩
 all_goals (exfalso;revert h;unfold trC;(try split)<;>(try split)<;>simp)
theorem yq8 {c:Code} (h:trC P N c=some .skip):c= .skip:=by
 cases c
 case skip=>rfl
 case region id ops draw=>rcases ybQ h with ⟨_,e,_⟩|⟨_,e,_⟩<;>cases e
 all_goals (exfalso;revert h;unfold trC;(try split)<;>(try split)<;>simp)
theorem yr9 {c:Code} {a b:ycl} (h:trC P N c=some (.seq a b)):∃x y,c= .seq x y∧trC P N x=some a∧trC P N y=some b:=by
 cases c
 case seq x y=>
  simp only[trC] at h
  split at h
  ·rename_i h1 h2;cases h;exact ⟨x,y,rfl,h1,h2⟩
  ·cases h
 case region id ops draw=>rcases ybQ h with ⟨_,e,_⟩|⟨_,e,_⟩<;>cases e
 all_goals (exfalso;revert h;unfold trC;(try split)<;>(try split)<;>simp)
theorem ypY {c:Code} {u:AOpd} {a b:ycl} (h:trC P N c=some (.cond u a b)):∃o x y,c= .cond o x y∧yaf P N o=some u∧trC P N x=some a∧trC P N y=some b:=by
 cases c
 case cond o x y=>
  simp only[trC] at h
  split at h
  ·rename_i h0 h1 h2;cases h;exact ⟨o,x,y,rfl,h0,h1,h2⟩
  ·cases h
 case region id ops draw=>rcases ybQ h with ⟨_,e,_⟩|⟨_,e,_⟩<;>cases e
 all_goals (exfalso;revert h;unfold trC;(try split)<;>(try split)<;>simp)
theorem ynU {c:Code} {id:Nat} {a:ycl} (h:trC P N c=some (.block id a)):∃x,c= .block id x∧trC P N x=some a:=by
 cases c
 case block id' x=>simp only[trC] at h;obtain ⟨l,hl,e⟩:=Option.map_eq_some_iff.1 h;cases e;exact ⟨x,rfl,hl⟩
 case region id ops draw=>rcases ybQ h with ⟨_,e,_⟩|⟨_,e,_⟩<;>cases e
 all_goals (exfalso;revert h;unfold trC;(try split)<;>(try split)<;>simp)
theorem yqR {c:Code} {a:ycl} (h:trC P N c=some (.loop a)):∃x,c= .loop x∧trC P N x=some a:=by
 cases c
 case loop x=>simp only[trC] at h;obtain ⟨l,hl,e⟩:=Option.map_eq_some_iff.1 h;cases e;exact ⟨x,rfl,hl⟩
 case region id ops draw=>rcases ybQ h with ⟨_,e,_⟩|⟨_,e,_⟩<;>cases e
 all_goals (exfalso;revert h;unfold trC;(try split)<;>(try split)<;>simp)
theorem yp0 {c:Code} {id:Nat} (h:trC P N c=some (.exit id)):c= .exit id:=by
 cases c
 case exit id'=>simp only[trC,Option.some.injEq,ycl.exit.injEq] at h;rw[h]
 case region id ops draw=>rcases ybQ h with ⟨_,e,_⟩|⟨_,e,_⟩<;>cases e
 all_goals (exfalso;revert h;unfold trC;(try split)<;>(try split)<;>simp)
theorem ysE {c:Code} (h:trC P N c=some .ret):c= .ret:=by
 cases c
 case ret=>rfl
 case region id ops draw=>rcases ybQ h with ⟨_,e,_⟩|⟨_,e,_⟩<;>cases e
 all_goals (exfalso;revert h;unfold trC;(try split)<;>(try split)<;>simp)
theorem ysi {Q:AEx→KS→Prop} (h:WD P B N ro L 0 (Q .n) (ofK ks)):WK P B N ro (.ops L) Q ks:=by
 have _:=(inferInstance:GB P B)
 intro c ht a G hR
 obtain ⟨id,ops,draw,rfl,hl,hd⟩:=yr1 ht
 have key:∀G:Gh,Rel B N (toS ks) a G→wpOpsIn (FR ro) 0 P ops (yfG B N (nQ (Q .n))) (List.range ops.size) a G.w:=fun G hR1=>by
  have:=h ops [] ops.toList rfl (by rw[List.drop_zero];exact hl) a G ⟨by rw[ydl];exact hR1,ydr hR.2⟩
  rw[List.range_eq_range'];simpa using this
 have post:∀e a w,yfG B N (nQ (Q .n)) e a w->yfG B N Q e a w:=fun e a w hp=>yfG.mono (fun e ks q=>by cases e<;>first|exact q|exact q.elim) hp
 cases draw with
 |false=>exact wpIn_mono (wpIn_region (key G hR.1)) post
 | true=>
   have hq:=hd rfl
   simp only[ordB,Bool.and_eq_true] at hq
   obtain ⟨⟨⟨hm,hwf⟩,hancC⟩,hfree⟩:=hq
   obtain ⟨G0,g1,g2,g3⟩:=hR.1.toMRel.same_heap (w1:={G.w with drawn:=G.w.drawn+1}) rfl rfl rfl rfl
   have k0:=key G0 (hR.1.lift g2 g3 rfl)
   rw[g1] at k0
   have hrem:remL ops (Array.replicate ops.size false)=List.range ops.size:=List.filter_eq_self.2 fun j hj=>by
    have:=List.mem_range.1 hj
    simp[Array.getD,this]
   refine wpIn_mono (wpIn_region_any hm (ynI (anc:=ancL ops.toList []) (fun i o ho e he hb=> ?_) (fun i x hi hx=> ?_) (fun i j o hj ho hn=> ?_) (fun c a w h=> ?_) ops.size _ _ _ (by simp) (by rw[hrem];simp) (fun j hj=> ?_) (by rw[hrem];exact k0))) post
   ·have h':=List.all_eq_true.1 hwf i (List.mem_range.2 (Array.getElem?_eq_some_iff.1 ho).1)
    rw[ho] at h'
    simp only[Option.map_some,Option.getD_some,List.all_eq_true] at h'
    have:=h' e he
    rw[hb] at this
    simpa using this
   ·have h':=List.all_eq_true.1 (List.all_eq_true.1 hancC i (List.mem_range.2 hi)) x hx
    simp only[Bool.and_eq_true,decide_eq_true_eq] at h'
    have h':=h'.2
    cases ho:ops[i]? with
    |none=>rw[ho] at h';cases h'
    | some o=>
      rw[ho] at h'
      simp only[Option.map_some,Option.getD_some,List.any_eq_true,Bool.and_eq_true,Bool.or_eq_true,beq_iff_eq,List.contains_iff_mem] at h'
      obtain ⟨e,he,hb,h⟩:=h'
      exact ⟨o,e,rfl,he,hb,h⟩
   ·have h':=List.all_eq_true.1 (List.all_eq_true.1 hfree i (List.mem_range.2 (Array.getElem?_eq_some_iff.1 ho).1)) j (List.mem_range.2 hj)
    simp only[Bool.or_eq_true,List.contains_iff_mem] at h'
    have h':=h'.resolve_left hn
    rw[ho] at h'
    split at h'
    ·rename_i e1 e2
     cases e1
     simp only[Bool.and_eq_true] at h'
     exact ⟨h'.1.1,_,e2,h'.1.2,h'.2⟩
    ·cases h'
   ·obtain ⟨_,_,_,_,h⟩:=h;exact h
   ·exfalso
    revert hj
    simp only[Array.getD]
    split<;>simp
theorem ypJ {a b:ycl} {Q:AEx→KS→Prop} (h:WK P B N ro a (sqQ Q (WK P B N ro b Q)) ks):WK P B N ro (.seq a b) Q ks:=by
 have _:=(inferInstance:GB P B)
 intro c ht act G hR
 obtain ⟨x,y,rfl,h1,h2⟩:=yr9 ht
 refine wpIn_seq (wpIn_mono (h x h1 act G hR) ?_)
 rintro e a' w' ⟨k',G',hR',rfl,hq⟩
 cases e with
 |normal=>exact hq y h2 a' G' hR'
 |exit id=>exact ⟨k',G',hR',rfl,hq⟩
 |ret=>exact ⟨k',G',hR',rfl,hq⟩
 |goto l=>exact hq.elim
 |panic ch=>exact hq.elim
 |outgrown=>exact hq.elim
theorem yru {Q:AEx→KS→Prop} (h:Q .n ks):WK P B N ro .skip Q ks:=by
 have _:=(inferInstance:GB P B)
 intro c ht a G hR
 rw[yq8 ht]
 exact wpIn_skip ⟨ks,G,hR,rfl,h⟩
theorem yrm {id:Nat} {Q:AEx→KS→Prop} (h:Q (.x id) ks):WK P B N ro (.exit id) Q ks:=by
 have _:=(inferInstance:GB P B)
 intro c ht a G hR
 rw[yp0 ht]
 exact wpIn_exit ⟨ks,G,hR,rfl,h⟩
theorem ysA {Q:AEx→KS→Prop} (h:Q .r ks):WK P B N ro .ret Q ks:=by
 have _:=(inferInstance:GB P B)
 intro c ht a G hR
 rw[ysE ht]
 exact wpIn_ret ⟨ks,G,hR,rfl,h⟩
theorem yjr {u:AOpd} {t e:ycl} {b:Bool} {Q:AEx→KS→Prop} (hv:ev (lkF ks.fr) u= .bl b) (h1:b=true→WK P B N ro t Q ks) (h2:b=false→WK P B N ro e Q ks):WK P B N ro (.cond u t e) Q ks:=by
 intro c ht a G hR
 obtain ⟨o,x,y,rfl,g0,g1,g2⟩:=ypY ht
 exact wpIn_cond_split (yk3 hR.1 g0 hv) (fun hb=>h1 hb x g1 a G hR) (fun hb=>h2 hb y g2 a G hR)
theorem yoH {id:Nat} {a:ycl} {Q:AEx→KS→Prop} (h:WK P B N ro a (bkQ id Q) ks):WK P B N ro (.block id a) Q ks:=by
 have _:=(inferInstance:GB P B)
 intro c ht act G hR
 obtain ⟨x,rfl,h1⟩:=ynU ht
 refine wpIn_block (wpIn_mono (h x h1 act G hR) ?_)
 rintro e a' w' ⟨k',G',hR',rfl,hq⟩
 cases e with
 |normal=>exact ⟨k',G',hR',rfl,hq⟩
 | exit id'=>
   simp only[exK,bkQ] at hq
   show if id'=id then _ else _
   split at hq
   ·rename_i e;rw[if_pos (nbeq.1 e)];exact ⟨k',G',hR',rfl,hq⟩
   ·rename_i e;rw[if_neg (fun q=>by rw[nbeq.2 q] at e;cases e)];exact ⟨k',G',hR',rfl,hq⟩
 |ret=>exact ⟨k',G',hR',rfl,hq⟩
 |goto l=>exact hq.elim
 |panic ch=>exact hq.elim
 |outgrown=>exact hq.elim
theorem yjn {F:Fence} {nn:Nat} {c:Code} {Q:Exit→Act→World→Prop} {a:Act} {w:World} (h:∀X:Act→World→Prop,(∀a w,c.wpIn F nn P (Exit.then X Q) a w→X a w)→X a w):(Code.loop c).wpIn F nn P Q a w:=by
 intro b k cs hro hb hr
 have key:∃e a' w',Q e a' w'∧ArrivesIn (Machine.fenced P F) P (lone (b.atR a (.code c:: .inLoop c::k)) cs w) b k cs e a' w':=by
  refine h (fun a w=>∃e a' w',Q e a' w'/\ArrivesIn (Machine.fenced P F) P (lone (b.atR a (.code c:: .inLoop c::k)) cs w) b k cs e a' w') fun a w hw=> ?_
  obtain ⟨e,a₁,w₁,hq,harr⟩:=hw b (.inLoop c::k) cs hro hb hr
  cases e with
  | normal=>
    obtain ⟨e₂,a₂,w₂,hq₂,harr₂⟩:=hq
    exact ⟨e₂,a₂,w₂,hq₂, .of_steps (StepsIn.trans harr (.one (fenced_calm hb hr rfl) stepR_inLoop)) harr₂⟩
  |exit id=>exact ⟨_,a₁,w₁,hq, .pass (x:= .inLoop c) rfl (fun _ _=> .inl (by simp)) harr⟩
  |goto l=>exact ⟨_,a₁,w₁,hq, .pass (x:= .inLoop c) rfl (fun _ _=> .inl (by simp)) harr⟩
  |ret=>exact ⟨_,a₁,w₁,hq, .pass (x:= .inLoop c) rfl (fun _ _=> .inl (by simp)) harr⟩
  |panic ch=>exact ⟨_,a₁,w₁,hq, .pass (x:= .inLoop c) rfl (fun _ _=> .inl (by simp)) harr⟩
  |outgrown=>exact ⟨_,a₁,w₁,hq, .pass (x:= .inLoop c) rfl (fun _ _=> .inl (by simp)) harr⟩
 obtain ⟨e,a',w',hq,harr⟩:=key
 exact ⟨e,a',w',hq, .of_steps (.one (fenced_calm hb hr rfl) stepR_loop) harr⟩
theorem yqU {u:ycl} {Q:AEx→KS→Prop} (h:∀X:KS→Prop,(∀ks,WK P B N ro u (sqQ Q X) ks→X ks)→X ks):WK P B N ro (.loop u) Q ks:=by
 have _:=(inferInstance:GB P B)
 intro c ht a G hR
 obtain ⟨x,rfl,h1⟩:=yqR ht
 refine yjn fun X' hX'=> ?_
 refine h (fun ks=>∀a G,RelK B N ks a G->X' a G.w) (fun ks hw a G hR=> ?_) a G hR
 refine hX' a G.w (wpIn_mono (hw x h1 a G hR) ?_)
 rintro e a' w' ⟨k',G',hR',rfl,hq⟩
 cases e with
 |normal=>exact hq a' G' hR'
 |exit id=>exact ⟨k',G',hR',rfl,hq⟩
 |ret=>exact ⟨k',G',hR',rfl,hq⟩
 |goto l=>exact hq.elim
 |panic ch=>exact hq.elim
 |outgrown=>exact hq.elim
theorem ysj {l:List (AO×List Nat)} {Q:AEx→KS→Prop} (h:DD P l 0 [] (fun S=>RE B N S (Q .n)) (ofK ks)):WK P B N ro (.drw l) Q ks:=by
 intro c ht a G hR
 obtain ⟨id,ops,rfl,hl⟩:=yrF ht
 have h':=h (ydr hR.2)
 rw[List.drop_zero,ydl] at h'
 refine yqr hl h' hR.1 fun S a G hQ hR=> ?_
 obtain ⟨k1,G1,e1,e2,e3⟩:=hQ a G hR
 exact ⟨k1,G1,e2,e1,e3⟩
end
def entF:List AV→Nat→List (Nat×AV)
 | [],_=> []
 |u::r,i=>(i,u)::entF r (i+1)
def entK (args:List AV) (H:Hp) (n:Nat):KS:=⟨entF args 0,[],H,n⟩
theorem yhs:∀(args:List AV) (i t:Nat),lkF (entF args i) t=if i≤t then (args[t-i]?).getD .un else .un
 | [],i,t=>by simp[entF,lkF]
 | u ::r,i,t=>by
   simp only[entF]
   rw[yaJ,yhs r (i+1) t]
   by_cases h:i=t
   ·subst h;simp
   ·simp only[h,if_false]
    by_cases h2:i<=t
    ·have h3:i+1≤t:=by omega
     rw[if_pos h2,if_pos h3]
     have:t-i=(t-(i+1))+1:=by omega
     rw[this,List.getElem?_cons_succ]
    ·have h3:¬i+1≤t:=by omega
     rw[if_neg h2,if_neg h3]
def retK (l:List (Nat×Option Nat)) (Post:AV→Hp→Nat→Prop):AEx→KS→Prop
 | .x _,_=>False
 |_,ks=>wpv (resA (toS ks) l) fun u=>u.noL=true/\Post (weak u) ks.H ks.nx
theorem ymj {P:Program} {f:FuncId} {F:AFn} (hF:trF P f=some F) {args:List AV} {H:Hp} {n:Nat} {Post:AV→Hp→Nat→Prop} (hN:args.length≤F.N) (hnl:noLs args=true) (hw:∀(B:Base) [GB P B],(ybR B)→WK P B F.N none F.body (retK F.res Post) (entK args H n)):yay P f args H n Post:=by
 refine yay.weakR ?_
 intro G vs hg hM hV
 haveI:GB P (yaD G n):=GB.of hg hM
 unfold trF at hF
 split at hF<;>first|(cases hF;done)|skip
 rename_i fn hfn
 obtain ⟨hf6,hfn⟩:=yjw hfn
 split at hF<;>first|(cases hF;done)|skip
 rename_i b hb
 split at hF<;>first|(cases hF;done)|skip
 rename_i r c hr hc
 cases hF
 split at hb
 ·cases hb
 ·rename_i hname
  have hcall:(callFunc f vs).run P G.w= .ok (.enter f vs) G.w:=by
   simp only[callFunc,Sem.run_bind,run_program,Result.andThen_ok,hfn]
   rw[if_neg hname]
   simp[hb]
  unfold yeh
  rw[hcall]
  have hvl:vs.size=args.length:=by simpa using hV.1
  have hBl:∀d c,(yaD G n).κ (.l d c)=none:=fun d c=>hM.κnone (k:= .l d c) rfl
  have hrel:Rel (yaD G n) fn.ntmps (ymh args H n) {tmps:=vs++Array.replicate (fn.ntmps-vs.size) undef,defers:= []} G:=by
   refine {(show MRel (yaD G n) (ymh args H n) G from hM.fr (ymh args H n).fr) with defers:=DfOk.nil _ _,tsize:=by simp[hvl];simp only at hN;omega,slot:= ?_,ext:=fun j v hv=>by simp[yaD] at hv}
   intro t v hv
   show VR G (argF args t) v
   unfold argF
   by_cases ht:t<vs.size
   ·rw[Array.getElem?_append_left ht] at hv
    have hta:t<args.length:=by omega
    rw[List.getElem?_eq_getElem hta]
    exact hV.2 t _ v (List.getElem?_eq_getElem hta) (by simpa using hv)
   ·rw[Array.getElem?_append_right (by omega)] at hv
    rw[List.getElem?_eq_none (by omega)]
    have hv':v=undef:=by
     rw[Array.getElem?_replicate] at hv
     split at hv
     ·exact (Option.some.inj hv).symm
     ·cases hv
    rw[hv']
    exact .tup [] #[] rfl (fun j u x hu=>by simp at hu)
  have hfr:∀t,RV (fun _=>none) (ymh args H n) (fun _=>False) (lkF (entK args H n).fr t) ((ymh args H n).fr t):=by
   intro t
   show RV _ _ _ (lkF (entF args 0) t) (argF args t)
   rw[yhs]
   simp only[Nat.zero_le,if_true,Nat.sub_zero]
   unfold argF
   cases hq:args[t]? with
   |none=>exact .un _
   |some u=>exact .no u (yaK hnl t u hq)
  obtain ⟨G1,w1,hrel1⟩:=yoZ (ks:=entK args H n) (ρ:=fun _=>none) (p:=fun _=>False) hrel (ybR.none hBl) {fix:=fun d k _ h=>(by cases h),dom:=fun d b h=>(by cases h),at':=fun d k h=>(by cases h),inj:=fun d d' k h=>(by cases h),disj:=fun k d h=>h.elim,pub:=fun k h=>h.elim,H:=fun _=>rfl,nx:=rfl,fr:=hfr}
  refine (callsIn_wide (n:=0)).1 (callsIn_of_wp_marks hfn hb trivial ?_)
  rw[<-w1]
  refine wpIn_mono (hw (yaD G n) (ybR.none hBl) b hc _ G1 ⟨hrel1,fun d b h=>by cases h⟩) ?_
  rintro e a' w' ⟨k',G',hR,rfl,hq⟩
  have fin:retK r Post .r k'→LeavesInM Fence.wide 0 P fn a'.tmps (fun e w'=>∃v av H' n' G',e= .returned v∧Post (weak av) H' n'∧MRel (yaD G n) (hSt H' n') G'∧G'.w=w'∧VR G' av v∧av.noL=true) a'.defers .returning G'.w:=by
   intro hq
   obtain ⟨u,hu,hno,hP⟩:=yb7 hq
   obtain ⟨rs,G0,d1,d2,d3,d4,d5⟩:=hR.1.leave
   rw[d1]
   refine yil rs _ d2 d3 ?_
   obtain ⟨v,hrun,hv⟩:=ylG d5 hr hu
   obtain ⟨G2,q1,q2,q3,q4,q5⟩:=d5.toMRel.forget hBl
   rw[d4] at hrun
   exact ⟨v,hrun,v,_,_,_,G2,rfl,hP,q2,q1.trans d4,VR.noL (G:=G0) (G':=G2) q3 q4 q5 q1 hv hno,hno⟩
  cases e with
  |normal=>exact fin hq
  |ret=>exact fin hq
  |exit id=>exact hq.elim
  |goto l=>exact hq.elim
  |panic ch=>exact hq.elim
  |outgrown=>exact hq.elim
section
variable {P:Program} {B:Base} [GB P B] {N:Nat} {ro:Option Nat} {L:List AO} {LD:List (AO×List Nat)} {Q:KS->Prop} {QD:St->Prop} {ds:DS} {i:Nat} {acc:List Foot}
end
end Go.AV
end
