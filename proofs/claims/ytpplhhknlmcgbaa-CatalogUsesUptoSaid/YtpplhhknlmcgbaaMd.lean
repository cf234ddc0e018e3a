/- General texts and own ones, joined: what the program computes, told of abstract states, and the laws of plain data. No condition. -/
import Derived.Test.YtpplhhknlmcgbaaMc
noncomputable section
namespace Go.AV
open Go.RowKit Go.RG Go.Lib
variable {K:Nat->Type}
section
variable {P:Program} {C:Cx K} {R:RR K} {ts ts':TS K} {χ χ':Nat->Nat->Bool} {ds:DS}
theorem yjc {b:Bool} {c:Prop} (h:AllP (ifL b c)):b=false→c:=by
 intro e;subst e;exact h.1
theorem yjv (hC:CxOk P C) (hγ:GM P C R ts χ ds) {s c e:Nat} {l:List (K e)} (hl:trow C e (ts.tb s c)=some l) (h:tfew (ts.tb s c)=true):l.length≤1000:=by
 obtain ⟨g1,_⟩:=hγ.trow hC hl
 unfold tfew at h
 split at h
 ·rename_i e' n cs hb
  rw[hb] at g1
  cases g1
  exact Nat.le_of_ble_eq_true h
 ·cases h
theorem yl0 (hC:CxOk P C) (hγ:GM P C R ts χ ds) {e:Nat} {u:TV K} {v:AV} {l2:List (K e)} (hv:TR P C ts χ u v) (h:tsrc C e ts u=some l2):∃ys,srcA (toD ds) v=some (l2.length,ys)∧dwks ys=cl (C.E e) l2:=by
 unfold tsrc at h
 split at h
 ·obtain ⟨rfl,rfl⟩:=yck h
  obtain ⟨z,xs,hx,rfl⟩:=hv.sli
  exact ⟨xs,rfl,hx⟩
 ·rename_i s c
  obtain ⟨g1,g2,g3⟩:=hγ.trow hC h
  rcases hv.rwi g1 with ⟨hχ,rfl⟩|⟨hχ,h0,rfl⟩
  ·obtain ⟨kb,k1,k2,k3,k4⟩:=g3 hχ
   refine ⟨kb.cells,?_,k4⟩
   show (((ds.kb s c).map KB.blk).bind fun b=>if b.sz=0 then none else some (l2.length,b.cells))=_
   rw[k1]
   show (if kb.sz=0 then none else some (l2.length,kb.cells))=_
   rw[if_neg (by rw[k3];exact Nat.pos_iff_ne_zero.1 (C.E e).pos)]
  ·have:=g2 hχ;subst this
   exact ⟨[],rfl,rfl⟩
 ·cases h;cases hv;exact ⟨[],rfl,rfl⟩
 ·cases h;cases hv;exact ⟨[],rfl,rfl⟩
 ·cases h
theorem yiO (hC:CxOk P C) (hγ:GM P C R ts χ ds) {e:Nat} {u:TV K} {l2:List (K e)} (h:tsrc C e ts u=some l2) (hc:AllP (ifL (yiu ts u) (l2.length≤400000000))):l2.length≤400000000:=by
 cases hs:yiu ts u with
 |false=>exact yjc hc hs
 | true=>
   unfold yiu at hs
   split at hs
   ·have:=yjv hC hγ (by simpa [tsrc] using h) hs;omega
   ·simp only[tsrc] at h;cases h;simp
   ·simp only[tsrc] at h;cases h;simp
   ·cases hs
theorem GM.kill {s c:Nat} (hγ:GM P C R ts χ ds) (hc:c=1∨c=2):GM P C R (ts.setb s c none) (updχ χ s c false) ds:=by
 have hm:Mono ts (ts.setb s c none) χ (updχ χ s c false):=Mono.setb hc (fun _=> .inl ⟨rfl,rfl⟩)
 refine ⟨fun t=> ?_,fun s' c' b' h1 h2=> ?_,fun s' c' h1=> ?_,fun s' h1=> ?_,by rw[ykG];exact hγ.hp,fun s' b9 q9 e9=> ?_⟩
 rotate_right
 ·rw[ybi ts s c _ hc] at e9
  unfold updχ
  by_cases e:s'=s/\1=c
  ·rw[if_pos e] at e9;cases e9
  ·rw[if_neg e] at e9⊢;exact hγ.lv s' b9 q9 e9
 ·rw[yhd];exact (hγ.fr t).mono hm
 ·rw[ybi ts s c none hc] at h1
  unfold updχ at h2
  by_cases e:s'=s/\c'=c
  ·rw[if_pos e] at h1;cases h1
  ·rw[if_neg e] at h1 h2
   obtain ⟨k',q1,q2⟩:=hγ.mb s' c' b' h1 h2
   exact ⟨k',q1,q2.mono hm⟩
 ·unfold updχ at h1
  rw[ybi ts s c none hc]
  by_cases e:s'=s/\c'=c
  ·rw[if_pos e] at h1;cases h1
  ·rw[if_neg e] at h1⊢;exact hγ.vi s' c' h1
 ·rcases hc with rfl|rfl
  ·exact hγ.nw s' h1
  ·have h1':(Nat.beq s s'||memB ts.nw s')=false:=h1
   simp only[Bool.or_eq_false_iff] at h1'
   exact hγ.nw s' h1'.2
structure AppC (u:AOp) (d:Option Nat) (ds:DS) (x:AOpd) (e sz m:Nat) (ys:List AV):Prop where
 eff:effA (fun _=>false) u d (toD ds)=ycT (fun _=>false) (site d) e sz m ys (toD ds) (ev (lkF ds.fr) x)
 pos:0<sz
theorem yi4 {u:AOp} {d:Option Nat} {x:AOpd} {e sz m n:Nat} {ys xs:List AV} (hk:DOk ds) (hA:AppC u d ds x e sz m ys) (hx:ev (lkF ds.fr) x= .sl true n xs) (hm:0<m) (hnw:memO ds.nw (site d)=false):
  Eff u d ds ⟨.gs (.l (site d) 2) m,[((site d,2),some ⟨e,sz,ys⟩)],[site d],none⟩ ((ds.set (site d) 2 (some ⟨e,sz,ys,false⟩)).put d (.gs (.l (site d) 2) m)):=by
 refine ⟨?_,ygF (b:=⟨e,sz,ys,false⟩) hnw,DOk.put (hk.set (.inr rfl) fun x hx=>by cases hx;exact ⟨.inl (Nat.pos_iff_ne_zero.1 hA.pos),fun q=>by cases q⟩)⟩
 rw[hA.eff,hx]
 simp only[ycT]
 rw[if_neg (by omega),yd9 hnw]
 rfl
theorem ylt {u:AOp} {d:Option Nat} {x:AOpd} {e sz m n:Nat} {ys xs:List AV} (hk:DOk ds) (hA:AppC u d ds x e sz m ys) (hx:ev (lkF ds.fr) x= .sl true n xs) (hm:m=0):
  Eff u d ds (eff1 (.sl true 0 [])) (ds.put d (.sl true 0 [])):=by
 refine ⟨?_,ycV _ d ds,hk.put⟩
 rw[hA.eff,hx]
 simp only[ycT]
 rw[if_pos hm]
theorem yjG {u:AOp} {d:Option Nat} {x:AOpd} {e sz m n s c:Nat} {ys:List AV} {kb:KB} (hk:DOk ds) (hA:AppC u d ds x e sz m ys) (hx:ev (lkF ds.fr) x= .gs (.l s c) n) (hm:ds.kb s c=some kb) (he:kb.e=e) (hz:kb.sz=sz) (hl:kb.cells.length=n*sz) (hn:n≤1000000000) (hnw:memO ds.nw (site d)=false):
  Eff u d ds ⟨.gs (.l (site d) 2) (n+m),[((s,c),none),((site d,2),some ⟨e,sz,kb.cells++ys⟩)],[site d],none⟩ (((ds.set s c none).set (site d) 2 (some ⟨e,sz,kb.cells++ys,false⟩)).put d (.gs (.l (site d) 2) (n+m))):=by
 have hcc:=kb_c hm
 refine ⟨?_,yoB (b:=⟨e,sz,kb.cells++ys,false⟩) hnw hcc,DOk.put ((hk.set (hcc.imp id (·.1)) fun x hx=>by cases hx).set (.inr rfl) fun x hx=>by cases hx;exact ⟨.inl (Nat.pos_iff_ne_zero.1 hA.pos),fun q=>by cases q⟩)⟩
 rw[hA.eff,hx]
 simp only[ycT]
 show (((ds.kb s c).map KB.blk).bind _)=_
 rw[hm]
 simp only[Option.map_some,Option.bind_some,KB.blk]
 rw[if_pos ⟨he,hz,hl,hn⟩,yd9 hnw]
 rfl
theorem ym7 (hC:CxOk P C) (hγ:GM P C R ts χ ds) (hk:DOk ds) {o:AO} {x:AOpd} {e:Nat} {l2:List (K e)} {c2:List Prop} {ys:List AV} {X:TS K→Prop} (h:tapp C e o.dst ts l2 c2 X (tev ts.fr x)) (hA:AllP c2→AppC o.op o.dst ds x e (C.E e).sz l2.length ys) (hys:dwks ys=cl (C.E e) l2)
  (hw:twk' ts o=(site o.dst,2)::trf (tev ts.fr x)):SR P C R o ts ds X:=by
 have hx:=hγ.tev x
 have hyl:ys.length=l2.length*(C.E e).sz:=by rw[<-yaL ys,hys,ydp]
 have nilC:∀ {ts0:TS K} {χ0:Nat→Nat→Bool},GM P C R ts0 χ0 ds→memB ts0.nw (site o.dst)=false→ts0.rg=ts.rg→AllP c2→ev (lkF ds.fr) x= .sl true 0 []→X (tnew ts0 o.dst (.row e l2) trw)→SR P C R o ts ds X:=by
  intro ts0 χ0 hγ0 hn hrg hc hev hX
  have hnw:=hγ0.nw _ hn
  by_cases h0:l2= []
  ·subst h0
   have hE:=ylt hk (hA hc) hev rfl
   refine ⟨_,_,_,_,hE,fun p hp=>(by cases hp),rfl,GM.put (hγ0.setv hn) ?_,hX,by rw[yaW,ybc,hrg]⟩
   exact .rwn _ _ (yhn _ _ _) (by rw[ygR];rfl) (ydE _ _ _ _)
  ·have hm:0<l2.length:=List.length_pos_iff.2 h0
   have hE:=yi4 hk (hA hc) hev hm hnw
   have hg:=hγ0.setb (s:=site o.dst) (c:=2) (b:=some (.row e l2)) (kb:=some ⟨e,(C.E e).sz,ys,false⟩) (.inr rfl) (Mono.new hn) (fun b' hb'=>⟨_,rfl,by cases hb';exact ⟨rfl,rfl,hys⟩⟩) (fun _ _ e9 _=>by cases e9)
   refine ⟨_,_,_,_,hE,fun p hp=> ?_,rfl,hg.put (.rw _ _ _ (yhn _ _ _) (by rw[ygR];rfl) (ydE _ _ _ _)),hX,by rw[yaW,ybc,hrg]⟩
   simp only[List.mem_singleton] at hp;subst hp;rw[hw];simp
 unfold tapp at h
 split at h
 ·rename_i ex
  obtain ⟨hn,h⟩:=ybB h
  obtain ⟨hc,hX⟩:=ycz h
  rw[ex] at hx
  have hev:ev (lkF ds.fr) x= .sl true 0 []:=by
   revert hx;generalize ev (lkF ds.fr) x=w;intro hx;cases hx;rfl
  exact nilC hγ hn rfl hc hev hX
 ·rename_i s c ex
  obtain ⟨hn,h⟩:=ybB h
  obtain ⟨l,hl,h⟩:=ybm h
  obtain ⟨hc1,h⟩:=ycz h
  obtain ⟨hc,hX⟩:=ycz h
  rw[ex] at hx
  obtain ⟨g1,g2,g3⟩:=hγ.trow hC hl
  have hok:=yij g1
  have hcc:c=1∨c=2:=hok.imp id (·.1)
  have hne:¬(s=site o.dst∧c=2):=by
   rintro ⟨rfl,rfl⟩;exact yhK hn hok
  have hn':memB (ts.setb s c none).nw (site o.dst)=false:=by
   rcases hcc with rfl|rfl
   ·exact hn
   ·show (Nat.beq s (site o.dst)||memB ts.nw (site o.dst))=false
    rw[hn,Bool.or_false]
    cases hq:Nat.beq s (site o.dst) with
    |false=>rfl
    |true=>exact (hne ⟨nbeq.1 hq,rfl⟩).elim
  rcases hx.rwi g1 with ⟨hχ,hv⟩|⟨hχ,hz,hv⟩
  ·obtain ⟨kb,k1,k2,k3,k4⟩:=g3 hχ
   have hlen:l.length≤1000000000:=by
    cases hf:tfew (ts.tb s c) with
    |false=>exact yjc hc1 hf
    |true=>have:=yjv hC hγ hl hf;omega
   have hkl:kb.cells.length=l.length*(C.E e).sz:=by rw[<-yaL kb.cells,k4,ydp]
   have hE:=yjG hk (hA hc) hv k1 k2 k3 hkl hlen (hγ.nw _ hn)
   have hg1:=hγ.setb (s:=s) (c:=c) (b:=none) (kb:=none) hcc (Mono.setb hcc (fun _=> .inl ⟨rfl,rfl⟩)) (fun b' hb'=>by cases hb') (fun _ h9=>by cases h9)
   have hg2:=hg1.setb (s:=site o.dst) (c:=2) (b:=some (.row e (l++l2))) (kb:=some ⟨e,(C.E e).sz,kb.cells++ys,false⟩) (.inr rfl) (Mono.new hn') (fun b' hb'=>⟨_,rfl,by cases hb';exact ⟨rfl,rfl,by show dwks (kb.cells++ys)=_;rw[ybC,k4,hys,yo6]⟩⟩) (fun _ _ e9 _=>by cases e9)
   refine ⟨_,_,_,_,hE,fun p hp=> ?_,rfl,hg2.put (.rw _ _ _ (yhn _ _ _) (by rw[ygR];simp[tln]) (ydE _ _ _ _)),hX,by rw[yaW,ybc,ybc]⟩
   simp only[List.mem_cons,List.not_mem_nil,or_false] at hp
   rw[hw,ex]
   rcases hp with rfl|rfl<;>simp[trf]
  ·have:=g2 hχ;subst this
   exact nilC (hγ.kill (s:=s) (c:=c) hcc) hn' (ybc _ _ _ _) hc hv (by simpa using hX)
 ·exact h.elim
structure ApfC (u:AOp) (d:Option Nat) (ds:DS) (x:AOpd) (e sz m:Nat) (ys:List AV):Prop where
 eff:effA (fun _=>false) u d (toD ds)=ycu (fun _=>false) (site d) e sz m ys (toD ds) (ev (lkF ds.fr) x)
 pos:0<sz
theorem yqe (hC:CxOk P C) (hγ:GM P C R ts χ ds) (hk:DOk ds) {o:AO} {x:AOpd} {e:Nat} {l2:List (K e)} {c2:List Prop} {ys:List AV} {X:TS K→Prop} (h:tapf C e o.dst ts l2 c2 X (tev ts.fr x)) (hA:AllP c2→ApfC o.op o.dst ds x e (C.E e).sz l2.length ys) (hys:dwks ys=cl (C.E e) l2)
  (hw:twk' ts o=(site o.dst,2)::trf (tev ts.fr x)):SR P C R o ts ds X:=by
 have hx:=hγ.tev x
 have hyl:ys.length=l2.length*(C.E e).sz:=by rw[<-yaL ys,hys,ydp]
 have hsz:(C.E e).sz≠0:=Nat.ne_of_gt (C.E e).pos
 have nilC:∀ {ts0:TS K} {χ0:Nat→Nat→Bool},GM P C R ts0 χ0 ds→memB ts0.nw (site o.dst)=false→ts0.rg=ts.rg→AllP c2→ev (lkF ds.fr) x= .sl true 0 []→X (tnwf ts0 o.dst (.sl e l2))→SR P C R o ts ds X:=by
  intro ts0 χ0 hγ0 hn hrg hc hev hX
  have hnw:=hγ0.nw _ hn
  by_cases h0:l2= []
  ·subst h0
   have hE:Eff o.op o.dst ds (eff1 (.sl true 0 [])) (ds.put o.dst (.sl true 0 [])):=by
    refine ⟨?_,ycV _ _ ds,hk.put⟩
    rw[(hA hc).eff,hev]
    simp only[ycu]
    rfl
   refine ⟨_,_,_,_,hE,fun p hp=>(by cases hp),rfl,GM.put (hγ0.kill (s:=site o.dst) (c:=2) (.inr rfl)) ?_,hX,by rw[yaW,ybc,hrg]⟩
   exact .sl e _ true _ _ rfl rfl
  ·have hm:0<l2.length:=List.length_pos_iff.2 h0
   have hE:Eff o.op o.dst ds ⟨.sl false l2.length ys,[((site o.dst,2),none)],[site o.dst],none⟩ ((ds.set (site o.dst) 2 none).put o.dst (.sl false l2.length ys)):=by
    refine ⟨?_,yhU none hnw,DOk.put (hk.set (.inr rfl) fun x hx=>by cases hx)⟩
    rw[(hA hc).eff,hev]
    simp only[ycu]
    rw[if_neg (by omega),ygn hnw hyl hsz (yaO hys)]
    rfl
   have hg:=hγ0.setb (s:=site o.dst) (c:=2) (b:=none) (kb:=none) (.inr rfl) (Mono.setb (.inr rfl) (fun q=>by
    rcases q with q|⟨_,q⟩
    ·cases q
    ·rw[hn] at q;cases q)) (fun b' hb'=>by cases hb') (fun _ h9=>by cases h9)
   refine ⟨_,_,_,_,hE,fun p hp=> ?_,rfl,hg.put (.sl e _ false _ _ rfl hys),hX,by rw[yaW,ybc,hrg]⟩
   simp only[List.mem_singleton] at hp;subst hp;rw[hw];simp
 unfold tapf at h
 split at h
 ·rename_i ex
  obtain ⟨hn,h⟩:=ybB h
  obtain ⟨hc,hX⟩:=ycz h
  rw[ex] at hx
  have hev:ev (lkF ds.fr) x= .sl true 0 []:=by
   revert hx;generalize ev (lkF ds.fr) x=w;intro hx;cases hx;rfl
  exact nilC hγ hn rfl hc hev hX
 ·rename_i s c ex
  obtain ⟨hn,h⟩:=ybB h
  obtain ⟨l,hl,h⟩:=ybm h
  obtain ⟨hc1,h⟩:=ycz h
  obtain ⟨hc,hX⟩:=ycz h
  rw[ex] at hx
  obtain ⟨g1,g2,g3⟩:=hγ.trow hC hl
  have hok:=yij g1
  have hcc:c=1∨c=2:=hok.imp id (·.1)
  have hne:¬(s=site o.dst∧c=2):=by
   rintro ⟨rfl,rfl⟩;exact yhK hn hok
  have hn':memB (ts.setb s c none).nw (site o.dst)=false:=by
   rcases hcc with rfl|rfl
   ·exact hn
   ·show (Nat.beq s (site o.dst)||memB ts.nw (site o.dst))=false
    rw[hn,Bool.or_false]
    cases hq:Nat.beq s (site o.dst) with
    |false=>rfl
    |true=>exact (hne ⟨nbeq.1 hq,rfl⟩).elim
  rcases hx.rwi g1 with ⟨hχ,hv⟩|⟨hχ,hz,hv⟩
  ·obtain ⟨kb,k1,k2,k3,k4⟩:=g3 hχ
   have hlen:l.length≤1000000000:=by
    cases hf:tfew (ts.tb s c) with
    |false=>exact yjc hc1 hf
    |true=>have:=yjv hC hγ hl hf;omega
   have hkl:kb.cells.length=l.length*(C.E e).sz:=by rw[<-yaL kb.cells,k4,ydp]
   have hcat:dwks (kb.cells++ys)=cl (C.E e) (l++l2):=by rw[ybC,k4,hys,yo6]
   have hcc2:=kb_c k1
   have hnw:=hγ.nw _ hn
   have hE:Eff o.op o.dst ds ⟨.sl false (l.length+l2.length) (kb.cells++ys),[((s,c),none),((site o.dst,2),none)],[site o.dst],none⟩ (((ds.set s c none).set (site o.dst) 2 none).put o.dst (.sl false (l.length+l2.length) (kb.cells++ys))):=by
    refine ⟨?_,yiz none hnw hcc2,DOk.put ((hk.set hcc fun x hx=>by cases hx).set (.inr rfl) fun x hx=>by cases hx)⟩
    rw[(hA hc).eff,hv]
    simp only[ycu]
    show (((ds.kb s c).map KB.blk).bind _)=_
    rw[k1]
    simp only[Option.map_some,Option.bind_some,KB.blk]
    rw[if_pos ⟨k2,k3,hkl,hlen⟩,ygn hnw (by show (kb.cells++ys).length=_*_;rw[List.length_append,hkl,hyl,Nat.add_mul]) hsz (yaO hcat)]
    rfl
   have hg1:=hγ.setb (s:=s) (c:=c) (b:=none) (kb:=none) hcc (Mono.setb hcc (fun _=> .inl ⟨rfl,rfl⟩)) (fun b' hb'=>by cases hb') (fun _ h9=>by cases h9)
   have hg2:=hg1.setb (s:=site o.dst) (c:=2) (b:=none) (kb:=none) (.inr rfl) (Mono.setb (.inr rfl) (fun q=>by
    rcases q with q|⟨_,q⟩
    ·cases q
    ·rw[hn'] at q;cases q)) (fun b' hb'=>by cases hb') (fun _ h9=>by cases h9)
   refine ⟨_,_,_,_,hE,fun p hp=> ?_,rfl,hg2.put (.sl e _ false _ _ (by rw[List.length_append]) hcat),hX,by rw[yaW,ybc,ybc]⟩
   simp only[List.mem_cons,List.not_mem_nil,or_false] at hp
   rw[hw,ex]
   rcases hp with rfl|rfl<;>simp[trf]
  ·have:=g2 hχ;subst this
   exact nilC (hγ.kill (s:=s) (c:=c) hcc) hn' (ybc _ _ _ _) hc hv (by simpa using hX)
 ·exact h.elim
theorem yrf (hC:CxOk P C) (hγ:GM P C R ts χ ds) (hk:DOk ds) {F:Cf K} (hF:F.C=C) {o:AO} {e sz n:Nat} {z:List AV} {parts:List (Nat×Nat×AOpd)} {X:TS K→Prop} {dr:Bool} (ho:o.op= .bsf e sz n z parts) (h:step F dr o ts X):SR P C R o ts ds X:=by
 unfold step at h
 rw[ho,hF] at h
 simp only at h
 split at h
 ·rename_i hc
  simp only[Bool.and_eq_true] at hc
  obtain ⟨⟨c1,c2⟩,c3⟩:=hc
  have c1:=nbeq.1 c1
  have c2:=nbeq.1 c2
  have c3:=Nat.le_of_ble_eq_true c3
  obtain ⟨hn,h⟩:=ybB h
  obtain ⟨cs,hcs,h⟩:=ybm h
  obtain ⟨l,hl,hX⟩:=ybm h
  obtain ⟨cs',e2,t⟩:=yfY (P:=P) (C:=C) (ts:=ts) (χ:=χ) _ (parts.map fun p=>(p.1,p.2.1,ev (lkF ds.fr) p.2.2)) _ (yaG z n) _ (TL.rep (TL.cvAs z) n) (by simp) (fun j p q a b=>by
   rw[List.getElem?_map] at a b
   cases hp:parts[j]? with
   |none=>rw[hp] at a;cases a
   |some r=>rw[hp] at a b;cases a;cases b;exact ⟨rfl,rfl,hγ.tea _⟩) hcs
  have hz:0<sz:=by rw[<-c2];exact (C.E e).pos
  have hcl:cs.length=n*sz:=by rw[ygo _ _ _ hcs,yi2];rw[<-(TL.cvAs (P:=P) (C:=C) (ts:=ts) (χ:=χ) z).1,c1]
  obtain ⟨a1,a2⟩:=yfN hC n _ (cs'.map weak) l hl (TL.twk t) (by simp[hcl,c2])
  have hnw:=hγ.nw _ hn
  have hlw:(cs'.map weak).length=n*sz:=by rw[(TL.twk t).1,List.length_map,hcl]
  have hE:Eff o.op o.dst ds ⟨.sl false n (cs'.map weak),[((site o.dst,2),none)],[site o.dst],none⟩ ((ds.set (site o.dst) 2 none).put o.dst (.sl false n (cs'.map weak))):=by
   refine ⟨?_,yhU none hnw,DOk.put (hk.set (.inr rfl) fun x hx=>by cases hx)⟩
   rw[ho]
   simp only[effA]
   rw[if_pos ⟨c1,hz,c3⟩]
   show ((ydu (yaG z n) (parts.map fun p=>(p.1,p.2.1,ev (lkF ds.fr) p.2.2))).bind _)=_
   rw[e2]
   simp only[Option.bind_some]
   rw[ygn hnw hlw (Nat.ne_of_gt hz) (yaO a1)]
   rfl
  have hg:=hγ.setb (s:=site o.dst) (c:=2) (b:=none) (kb:=none) (.inr rfl) (Mono.setb (.inr rfl) (fun q=>by
   rcases q with q|⟨_,q⟩
   ·cases q
   ·rw[hn] at q;cases q)) (fun b' hb'=>by cases hb') (fun _ h9=>by cases h9)
  refine ⟨_,_,_,_,hE,fun p hp=> ?_,rfl,hg.put (.sl e _ false _ _ a2.symm a1),hX,by rw[yaW,ybc]⟩
  simp only[List.mem_singleton] at hp;subst hp;simp[twk',ho]
 ·exact h.elim
theorem yhY {e:Nat} {f:K e→UInt8} (hC:CxOk P C) (hf:(C.T e).tb=some f):∀(l:List (K e)) (ys:List AV),dwks ys=cl (C.E e) l→yc1 ys=some (l.map f)∧ys.length=l.length
 | [],ys,h=>by
   have:ys= []:=by cases ys with|nil=>rfl|cons=>simp[dwks,cl] at h
   subst this;exact ⟨rfl,rfl⟩
 | x ::l,ys,h=>by
   obtain ⟨n,h1,h2⟩:=hC.tb e f hf x
   rw[show cl (C.E e) (x::l)=(C.E e).c x++cl (C.E e) l by simp[cl],h1] at h
   cases ys with
   |nil=>simp[dwks] at h
   | cons y ys=>
     simp only[dwks,List.cons_append,List.nil_append,List.cons.injEq] at h
     obtain ⟨a1,a2⟩:=yhY hC hf l ys h.2
     have:y= .it .u8 n:=by
      have h1:=h.1
      cases y<;>simp[dwk] at h1
      obtain ⟨rfl,rfl⟩:=h1;rfl
     subst this
     exact ⟨by simp only[yc1,ypO,a1,List.map_cons,h2],by simp[a2]⟩
theorem yqc (hC:CxOk P C) (hγ:GM P C R ts χ ds) (hk:DOk ds) {F:Cf K} (hF:F.C=C) {o:AO} {x:AOpd} {X:TS K→Prop} {dr:Bool} (ho:o.op= .b2s x) (h:step F dr o ts X):SR P C R o ts ds X:=by
 unfold step at h
 rw[ho,hF] at h
 simp only at h
 have hx:=hγ.tev x
 have fin:∀ {s:Str},effA (fun _=>false) (.b2s x) o.dst (toD ds)=some (eff1 (.st s))→X (ts.put o.dst (.st s))→SR P C R o ts ds X:=by
  intro s he hX
  exact yds hγ (.st s) (by rw[ho];exact ⟨he,ycV _ _ _,hk.put⟩) hX
 split at h
 ·rename_i e l ex
  rw[ex] at hx
  obtain ⟨z,xs,hxs,hv⟩:=hx.sli
  split at h
  ·rename_i f hf
   obtain ⟨b1,b2⟩:=yhY hC hf l xs hxs
   refine fin ?_ h
   simp only[effA]
   rw[ybk,hv]
   simp only
   rw[if_pos b2,b1];rfl
  ·exact h.elim
 ·rename_i s c ex
  rw[ex] at hx
  split at h
  ·rename_i f l hf hl
   obtain ⟨g1,g2,g3⟩:=hγ.trow hC hl
   rcases hx.rwi g1 with ⟨hχ,hv⟩|⟨hχ,h0,hv⟩
   ·obtain ⟨kb,k1,k2,k3,k4⟩:=g3 hχ
    obtain ⟨b1,b2⟩:=yhY hC hf l kb.cells k4
    refine fin ?_ h
    simp only[effA]
    rw[ybk,hv]
    simp only
    show (((ds.kb s c).map KB.blk).bind _)=_
    rw[k1]
    simp only[Option.map_some,Option.bind_some,KB.blk]
    rw[if_pos ⟨by rw[k3];exact Nat.pos_iff_ne_zero.1 (C.E _).pos,b2⟩,b1];rfl
   ·have:=g2 hχ;subst this
    refine fin ?_ h
    simp only[effA]
    rw[ybk,hv]
    rfl
  ·exact h.elim
 ·rename_i ex
  rw[ex] at hx
  have hev:ev (lkF ds.fr) x= .sl true 0 []:=by
   revert hx;generalize ev (lkF ds.fr) x=w;intro hx;cases hx;rfl
  refine fin ?_ h
  simp only[effA]
  rw[ybk,hev]
  rfl
 ·exact h.elim
structure ysZ (s c:Nat) (ts ts':TS K) (χ χ':Nat→Nat→Bool):Prop where
 rg:∀id u,lkR ts.rg id=some u->lkR ts'.rg id=some u
 ok:∀s c,okr ts s c->okr ts' s c
 pl:∀s' c',¬(s'=s/\c'=c)->okr ts s' c'->(tln (ts'.tb s' c')=none/\χ' s' c'=false)∨(tln (ts'.tb s' c')=tln (ts.tb s' c')/\χ' s' c'=χ s' c')
theorem yiY (s c:Nat) (l:List (TV K)) (j:Nat):(ye2 s c l)[j]? =(l[j]?).map (yed s c):=by
 induction l generalizing j with
 |nil=>simp[ye2]
 | cons x l ih=>cases j with
   |zero=>simp[ye2]
   |succ j=>simp[ye2,ih]
theorem ygN (s c:Nat) (l:List (TV K)):(ye2 s c l).length=l.length:=by
 induction l with
 |nil=>rfl
 |cons x l ih=>simp[ye2,ih]
theorem beq2 {a b c d:Nat} (h:(Nat.beq a b&&Nat.beq c d)=false):¬(b=a∧d=c):=by
 rintro ⟨rfl,rfl⟩;rw[nbeq.2 rfl,nbeq.2 rfl] at h;cases h
theorem TR.drop {s c:Nat} (hm:ysZ s c ts ts' χ χ') {u:TV K} {v:AV} (h:TR P C ts χ u v):TR P C ts' χ' (yed s c u) v:=by
 induction h with
 |cn id u v h hn hv _=>exact .cn id u v (hm.rg id u h) hn (hv.noref hn).1
 |un v=>exact .un v
 |lb b=>exact .lb b
 |bl b=>exact .bl b
 |li k n=>exact .li k n
 |it k n=>exact .it k n
 |st s=>exact .st s
 | agg us vs hl _ ih=>
   refine .agg _ vs (by rw[ygN];exact hl) (fun j u v h1 h2=> ?_)
   rw[yiY] at h1
   obtain ⟨u',e1,rfl⟩:=Option.map_eq_some_iff.1 h1
   exact ih j u' v e1 h2
 | tup us vs hl _ ih=>
   refine .tup _ vs (by rw[ygN];exact hl) (fun j u v h1 h2=> ?_)
   rw[yiY] at h1
   obtain ⟨u',e1,rfl⟩:=Option.map_eq_some_iff.1 h1
   exact ih j u' v e1 h2
 |nil=>exact .nil
 |em z=>exact .em z
 |sl e l z n xs hn hx=>exact .sl e l z n xs hn hx
 | rwd s' c' v hr h ho=>
   simp only[yed]
   split
   ·exact .un _
   ·rename_i e
    refine .rwd s' c' v (hm.ok s' c' hr) ?_ ho
    rcases hm.pl s' c' (beq2 e) hr with h1|h1
    ·exact h1.1
    ·rw[h1.1];exact h
 | rw s' c' n hr h hx=>
   simp only[yed]
   split
   ·exact .un _
   ·rename_i e
    rcases hm.pl s' c' (beq2 e) hr with h1|h1
    ·exact .rwd s' c' _ (hm.ok s' c' hr) h1.1 rfl
    ·exact .rw s' c' n (hm.ok s' c' hr) (by rw[h1.1];exact h) (by rw[h1.2];exact hx)
 | rwn s' c' hr h hx=>
   simp only[yed]
   split
   ·exact .un _
   ·rename_i e
    rcases hm.pl s' c' (beq2 e) hr with h1|h1
    ·exact .rwd s' c' _ (hm.ok s' c' hr) h1.1 rfl
    ·exact .rwn s' c' (hm.ok s' c' hr) (by rw[h1.1];exact h) (by rw[h1.2];exact hx)
 |px s' c' off hr=>exact .px s' c' off (hm.ok s' c' hr)
 | pr e0 s' c' i of hr hx=>
   simp only[yed]
   split
   ·exact .un _
   ·rename_i e
    refine .pr e0 s' c' i of (hm.ok s' c' hr) ?_
    rcases hm.pl s' c' (beq2 e) hr with h1|h1
    ·exact h1.2
    ·rw[h1.2];exact hx
 |ep e l i of xs hx=>exact .ep e l i of xs hx
 |gs l i xs hx=>exact .gs l i xs hx
 |nptr=>exact .nptr
 |fn f a c a' c' ha hc _ _ ih ih'=>exact .un _
 |fv ps rs F v h hv=>exact .fv ps rs F v h hv
 |yl r=>exact .yl r
theorem yhG (f:TV K→TV K) (hf:f .un= .un):∀(l:List (Nat×TV K)) (t:Nat),lkT (mapF f l) t=f (lkT l t)
 | [],t=>hf.symm
 | p::r,t=>by
   rw[show mapF f (p::r)=(p.1,f p.2)::mapF f r from rfl,yba,yhG f hf r t]
   rw[show p::r=(p.1,p.2)::r from rfl,yba]
   split<;>rfl
theorem yf5 (f:TV K→TV K):∀(l:List (Nat×Option (TB K))) (t:Nat),lkB (mapM f l) t=mapB f (lkB l t)
 | [],t=>rfl
 | p::r,t=>by
   rw[show mapM f (p::r)=(p.1,mapB f p.2)::mapM f r from rfl,yat,yat,yf5 f r t]
   split<;>rfl
theorem yd1 (f:TV K→TV K):∀(l:List (Nat×Option (TB K))) (t:Nat),memB (mapM f l) t=memB l t
 | [],t=>rfl
 |p::r,t=>by show (Nat.beq p.1 t||memB (mapM f r) t)=(Nat.beq p.1 t||memB r t);rw[yd1 f r t]
theorem yhq (ts:TS K) (f:TV K→TV K) (s c:Nat):(ts.mapv f).tb s c=mapB f (ts.tb s c):=by
 unfold TS.tb TS.mapv
 cases Nat.beq c 1 with
 |true=>exact yf5 f _ _
 | false=>cases Nat.beq c 2 with
   |true=>exact yf5 f _ _
   |false=>rfl
theorem yjz (f:TV K→TV K) (b:Option (TB K)):tln (mapB f b)=tln b:=by
 cases b with
 |none=>rfl
 |some b=>cases b<;>rfl
theorem GM.lvt (hγ:GM P C R ts χ ds) {s n:Nat} (h:2000000≤s) (hn:tln (ts.tb s 1)=some n):R.L s=χ s 1:=by
 cases hq:ts.tb s 1 with
 |none=>rw[hq] at hn;cases hn
 |some b=>exact hγ.lv s b h hq
theorem GM.cut {s c e:Nat} {l:List (K e)} {kb:Option KB} {v:Bool} {ds':DS} (hγ:GM P C R ts χ ds) (hc:c=1∨c=2) (hok:okr ts s c) (hds:ds'=match v with|true=>ds|false=>ds.set s c kb)
  (hb:v=false->∃k',kb=some k'/\k'.e=e/\k'.sz=(C.E e).sz/\dwks k'.cells=cl (C.E e) l) (hv:v=true->l= []) (hl:c=1->2000000<=s->R.L s=v):GM P C R ((ts.mapv (yed s c)).setb s c (some (.row e l))) (updχ χ s c v) ds':=by
 have hokm:∀s' c',okr ts s' c'→okr (ts.mapv (yed s c)) s' c':=by
  intro s' c' q
  rcases q with q|⟨q1,q2⟩
  ·exact .inl q
  ·exact .inr ⟨q1,by show memB (mapM _ ts.nw) s'=true;rw[yd1];exact q2⟩
 have hm:ysZ s c ts ((ts.mapv (yed s c)).setb s c (some (.row e l))) χ (updχ χ s c v):=by
  refine ⟨fun id u q=>by rw[ybc];exact q,fun s' c' q=>yfM _ _ _ _ hc (hokm s' c' q),fun s' c' hne q=> .inr ⟨?_,?_⟩⟩
  ·rw[ybi _ s c _ hc,if_neg hne,yhq,yjz]
  ·unfold updχ;rw[if_neg hne]
 have hkb:∀s' c',¬(s'=s∧c'=c)→ds'.kb s' c'=ds.kb s' c':=by
  intro s' c' hne
  subst hds
  cases v with
  |true=>rfl
  |false=>show (ds.set s c kb).kb s' c'=_;rw[yh9 ds s c kb hc,if_neg hne]
 refine ⟨fun t=> ?_,fun s' c' b' h1 h2=> ?_,fun s' c' h1=> ?_,fun s' h1=> ?_,?_,fun s' b9 q9 e9=> ?_⟩
 rotate_right
 ·rw[ybi _ s c _ hc] at e9
  unfold updχ
  by_cases e:s'=s/\1=c
  ·rw[if_pos e];obtain ⟨rfl,e2⟩:=e;exact hl e2.symm q9
  ·rw[if_neg e] at e9⊢
   rw[yhq] at e9
   cases hq:ts.tb s' 1 with
   |none=>rw[hq] at e9;cases e9
   |some b0=>exact hγ.lv s' b0 q9 hq
 rotate_right
 ·rw[ykG]
  show R ts.h ds'.H ds'.nx
  subst hds
  cases v with
  |true=>exact hγ.hp
  |false=>show R ts.h (ds.set s c kb).H (ds.set s c kb).nx;rw[yq4,ygU];exact hγ.hp
 ·rw[yhd]
  show TR P C _ _ (lkT (mapF (yed s c) ts.fr) t) _
  rw[yhG _ rfl]
  have:lkF ds'.fr t=lkF ds.fr t:=by
   subst hds
   cases v with
   |true=>rfl
   |false=>show lkF (ds.set s c kb).fr t=_;rw[yh4]
  rw[this]
  exact (hγ.fr t).drop hm
 ·rw [ybi _ s c _ hc] at h1
  unfold updχ at h2
  by_cases e':s'=s/\c'=c
  ·rw[if_pos e'] at h1 h2
   obtain ⟨rfl,rfl⟩:=e'
   subst h2
   obtain ⟨k',q1,q2,q3,q4⟩:=hb rfl
   cases h1
   refine ⟨k',?_,q2,q3,q4⟩
   subst hds
   show (ds.set s' c' kb).kb s' c'=_
   rw[yh9 ds s' c' kb hc];simpa using q1
  ·rw [if_neg e'] at h1 h2
   rw[yhq] at h1
   rw[hkb s' c' e']
   cases hq:ts.tb s' c' with
   |none=>rw[hq] at h1;cases h1
   | some b0=>
     rw[hq] at h1
     obtain ⟨k',q1,q2⟩:=hγ.mb s' c' b0 hq h2
     refine ⟨k',q1,?_⟩
     cases b0 with
     |row e0 l0=>cases h1;exact q2
     |opq e0 t0 x0=>cases h1;exact q2
     | box e0 cs=>
       cases h1
       refine ⟨q2.1,by simpa using q2.2.1,by simpa using q2.2.2.1,fun j u v a b=> ?_⟩
       rw[List.getElem?_map] at a
       obtain ⟨u',e1,rfl⟩:=Option.map_eq_some_iff.1 a
       exact (q2.2.2.2 j u' v e1 b).drop hm
     | lrow e0 n cs=>
       cases h1
       refine ⟨q2.1,q2.2.1,by simpa using q2.2.2.1,by simpa using q2.2.2.2.1,fun j u v a b=> ?_⟩
       rw[List.getElem?_map] at a
       obtain ⟨u',e1,rfl⟩:=Option.map_eq_some_iff.1 a
       exact (q2.2.2.2.2 j u' v e1 b).drop hm
 ·unfold updχ at h1
  rw[ybi _ s c _ hc]
  by_cases e':s'=s/\c'=c
  ·rw[if_pos e'] at h1⊢
   have:=hv h1;subst this
   exact ⟨_,rfl⟩
  ·rw[if_neg e'] at h1⊢
   obtain ⟨e0,h3⟩:=hγ.vi s' c' h1
   exact ⟨e0,by rw[yhq,h3];rfl⟩
 ·have hmem:memB ts.nw s'=false:=by
   rcases hc with rfl|rfl
   ·rw[<-yd1 (yed s 1)];exact h1
   ·have h1':(Nat.beq s s'||memB (mapM (yed s 2) ts.nw) s')=false:=h1
    simp only[Bool.or_eq_false_iff] at h1'
    rw[<-yd1 (yed s 2)];exact h1'.2
  have:=hγ.nw s' hmem
  subst hds
  cases v with
  |true=>exact this
  | false=>
    show memO (ds.set s c kb).nw s'=false
    rcases hc with rfl|rfl
    ·exact this
    ·have h1':(Nat.beq s s'||memB (mapM (yed s 2) ts.nw) s')=false:=h1
     simp only[Bool.or_eq_false_iff] at h1'
     show (Nat.beq s s'||memO ds.nw s')=false
     rw[h1'.1,this];rfl
theorem ylh {T:Type} {l:List T} {a b:Int} (h:0≤a∧a≤b∧b≤l.length):(ymv l a b).length=b.toNat-a.toNat:=by
 unfold ymv;simp;omega
theorem yqL (hC:CxOk P C) (hγ:GM P C R ts χ ds) (hk:DOk ds) {F:Cf K} (hF:F.C=C) {o:AO} {sz:Nat} {x:AOpd} {lo hi:Option AOpd} {X:TS K→Prop} {dr:Bool} (ho:o.op= .sll sz x lo hi) (h:step F dr o ts X):SR P C R o ts ds X:=by
 unfold step at h
 rw[ho,hF] at h
 simp only at h
 have hx:=hγ.tev x
 have slc:∀ {z:Bool} {n:Nat} {xs:List AV} {a b:Int} {u:TV K},ev (lkF ds.fr) x= .sl z n xs→bnd (ev (lkF ds.fr)) 0 lo=some a→bnd (ev (lkF ds.fr)) n hi=some b→(0≤a∧a≤b∧b≤n)→TR P C ts χ u (.sl z (b.toNat-a.toNat) ((xs.drop (a.toNat*sz)).take ((b.toNat-a.toNat)*sz)))→X (ts.put o.dst u)→SR P C R o ts ds X:=by
  intro z n xs a b u hev h1 h2 hc hu hX
  refine yds hγ hu ?_ hX
  rw[ho]
  refine ⟨?_,ycV _ _ _,hk.put⟩
  simp only[effA]
  rw[ybk,hev]
  simp only[ygI,pval]
  rw[hev]
  simp only
  rw[h1,h2]
  simp only
  rw[if_pos hc];rfl
 split at h
 ·rename_i e l ex
  rw[ex] at hx
  obtain ⟨z,xs,hxs,hv⟩:=hx.sli
  split at h
  ·rename_i a b hz e1 e2
   have hz:=nbeq.1 hz
   obtain ⟨hc,hX⟩:=h
   refine slc hv (ydO hγ e1) (ydO hγ e2) hc (.sl e _ z _ _ (ylh hc).symm ?_) hX
   rw[ycZ,ydN,hxs,hz]
   exact ypt (C.E e) l a.toNat (b.toNat-a.toNat)
  ·exact h.elim
 ·rename_i s c ex
  rw[ex] at hx
  split at h
  ·rename_i l hz hl
   have hz:=nbeq.1 hz
   split at h
   ·rename_i b e2
    obtain ⟨hc,hX⟩:=h
    obtain ⟨g1,g2,g3⟩:=hγ.trow hC hl
    have hok:=yij g1
    have hcc:c=1∨c=2:=hok.imp id (·.1)
    rcases hx.rwi g1 with ⟨hχ,hv⟩|⟨hχ,h0,hv⟩
    ·obtain ⟨kb,k1,k2,k3,k4⟩:=g3 hχ
     have hcc2:=kb_c k1
     have hlt:(l.take b.toNat).length=b.toNat:=by simp;omega
     have hE:Eff (.sll sz x none hi) o.dst ds ⟨.gs (.l s c) b.toNat,[((s,c),some ⟨kb.e,kb.sz,kb.cells.take (b.toNat*sz)⟩)],[],none⟩ ((ds.set s c (some ⟨kb.e,kb.sz,kb.cells.take (b.toNat*sz),false⟩)).put o.dst (.gs (.l s c) b.toNat)):=by
      refine ⟨?_,ynp (b:=⟨kb.e,kb.sz,kb.cells.take (b.toNat*sz),false⟩) hcc2,DOk.put (hk.set hcc fun x hx=>by cases hx;exact ⟨.inl (by show kb.sz≠0;rw[k3];exact Nat.pos_iff_ne_zero.1 (C.E _).pos),fun q=>by cases q⟩)⟩
      simp only[effA]
      rw[ybk,hv]
      simp only[ygI]
      rw[show bnd (ev (lkF ds.fr)) 0 none=some 0 from rfl,ydO hγ e2]
      simp only[yit]
      show (((ds.kb s c).map KB.blk).bind _)=_
      rw[k1]
      simp only[Option.map_some,Option.bind_some,KB.blk]
      rw[if_pos ⟨by rw[k3,hz],by rw[hz];exact (C.E _).pos,hc.1,hc.2,by rw[<-yaL kb.cells,k4,ydp,hz];exact Nat.le_refl _⟩]
     have hg:=hγ.cut (s:=s) (c:=c) (e:=tbe (ts.tb s c)) (l:=l.take b.toNat) (kb:=some ⟨kb.e,kb.sz,kb.cells.take (b.toNat*sz),false⟩) (v:=false) hcc hok rfl (fun _=>⟨_,rfl,k2,k3,by
      show dwks (kb.cells.take (b.toNat*sz))=_
      rw[ycZ,k4,hz]
      have:=ypt (C.E (tbe (ts.tb s c))) l 0 b.toNat
      simpa using this⟩) (fun q=>by cases q) (fun e9 q9=>by subst e9;exact (hγ.lvt q9 g1).trans hχ)
     refine ⟨_,_,_,_,by rw[ho];exact hE,fun p hp=> ?_,rfl,hg.put (.rw s c b.toNat ?_ ?_ (ydE _ _ _ _)),hX,by rw[yaW,ybc];rfl⟩
     ·simp only[List.mem_singleton] at hp;subst hp;simp[twk',ho,ex,trf]
     ·refine yfM _ _ _ _ hcc ?_
      rcases hok with q|⟨q1,q2⟩
      ·exact .inl q
      ·exact .inr ⟨q1,by show memB (mapM _ ts.nw) s=true;rw[yd1];exact q2⟩
     ·rw[ybi _ s c _ hcc];simp only[and_self,if_true,tln];rw[hlt]
    ·have:=g2 hχ;subst this
     have hb0:b=0:=by have:=hc.2;simp at this;omega
     subst hb0
     have e2':bnd (ev (lkF ds.fr)) ((0:Nat):Int) hi=some 0:=ydO hγ e2
     have hE:Eff (.sll sz x none hi) o.dst ds (eff1 (.sl true 0 [])) (ds.put o.dst (.sl true 0 [])):=by
      refine ⟨?_,ycV _ _ _,hk.put⟩
      simp only[effA]
      rw[ybk,hv]
      simp only[ygI,pval]
      rw[hv]
      simp only
      rw[show bnd (ev (lkF ds.fr)) 0 none=some 0 from rfl,e2']
      simp only
      rw[if_pos ⟨by omega,by omega,by omega⟩]
      simp[effP]
     have hg:=hγ.cut (s:=s) (c:=c) (e:=tbe (ts.tb s c)) (l:=([]:List (K (tbe (ts.tb s c))))) (kb:=none) (v:=true) hcc hok rfl (fun q=>by cases q) (fun _=>rfl) (fun e9 q9=>by subst e9;exact (hγ.lvt q9 g1).trans hχ)
     refine ⟨_,_,_,_,by rw[ho];exact hE,fun p hp=>(by cases hp),rfl,hg.put (.rwn s c ?_ ?_ (ydE _ _ _ _)),hX,by rw[yaW,ybc];rfl⟩
     ·refine yfM _ _ _ _ hcc ?_
      rcases hok with q|⟨q1,q2⟩
      ·exact .inl q
      ·exact .inr ⟨q1,by show memB (mapM _ ts.nw) s=true;rw[yd1];exact q2⟩
     ·rw[ybi _ s c _ hcc];simp[tln]
   ·exact h.elim
  ·exact h.elim
 ·rename_i ex
  rw[ex] at hx
  split at h
  ·rename_i a b e1 e2
   obtain ⟨hc,hX⟩:=h
   have ha:a=0:=by omega
   have hb:b=0:=by omega
   subst ha;subst hb
   have hv:ev (lkF ds.fr) x= .sl true 0 []:=by generalize ev (lkF ds.fr) x=v at hx;cases hx;rfl
   exact slc (n:=0) hv (ydO hγ e1) (ydO hγ e2) hc (by simpa using .nil) hX
  ·exact h.elim
 ·exact h.elim
theorem yoA (hγ:GM P C R ts χ ds) (hk:DOk ds) {F:Cf K} {o:AO} {c a b:AOpd} {X:TS K→Prop} {dr:Bool} (ho:o.op= .pick c a b) (h:step F dr o ts X):SR P C R o ts ds X:=by
 unfold step at h
 rw[ho] at h
 simp only at h
 have hc:=hγ.tev c
 have fin:∀ {u:TV K} {v:AV},TR P C ts χ u v→pval (yav (toD ds)) (ev (lkF ds.fr)) (.pick c a b)=some v→X (ts.put o.dst u)→SR P C R o ts ds X:=by
  intro u v hv hp hX
  refine yds hγ hv ?_ hX
  rw[ho]
  exact yfr hk rfl (show kok (pval (yav (toD ds)) (ev (lkF ds.fr)) (.pick c a b))=some ([],v) by rw[hp];rfl) trivial
 split at h
 ·rename_i ex;rw[ex] at hc
  exact fin (hγ.tea a) (by simp only[pval,hc.lbi]) h
 ·rename_i ex;rw[ex] at hc
  exact fin (hγ.tea b) (by simp only[pval,hc.lbi]) h
 ·exact h.elim
theorem ysc (hC:CxOk P C) (hγ:GM P C R ts χ ds) (hk:DOk ds) {F:Cf K} (hF:F.C=C) {o:AO} {e sz bytes:Nat} {x y:AOpd} {X:TS K→Prop} {dr:Bool} (ho:o.op= .app e sz bytes x y) (h:step F dr o ts X):SR P C R o ts ds X:=by
 unfold step at h
 rw[ho,hF] at h
 simp only at h
 split at h
 ·rename_i hc
  simp only[Bool.and_eq_true] at hc
  have hz:=nbeq.1 hc.1
  have hb:=Nat.le_of_ble_eq_true hc.2
  obtain ⟨l2,hl2,h⟩:=ybm h
  obtain ⟨ys,hs,hys⟩:=yl0 hC hγ (hγ.tev y) hl2
  refine ym7 hC hγ hk h (fun hA=> ?_) hys (by rw[twk',ho])
  refine ⟨?_,(C.E e).pos⟩
  rw[ho]
  simp only[effA]
  rw[ybk,hs,Option.bind_some,if_pos ⟨by rw[<-hz];exact (C.E e).pos,hb,by rw[<-yaL ys,hys,ydp,hz],yiO hC hγ hl2 hA⟩,hz]
 ·exact h.elim
theorem yn7 (hC:CxOk P C) (hγ:GM P C R ts χ ds) (hk:DOk ds) {F:Cf K} (hF:F.C=C) {o:AO} {e sz bytes:Nat} {x y:AOpd} {X:TS K→Prop} {dr:Bool} (ho:o.op= .apf e sz bytes x y) (h:step F dr o ts X):SR P C R o ts ds X:=by
 unfold step at h
 rw[ho,hF] at h
 simp only at h
 split at h
 ·rename_i hc
  simp only[Bool.and_eq_true] at hc
  have hz:=nbeq.1 hc.1
  have hb:=Nat.le_of_ble_eq_true hc.2
  obtain ⟨l2,hl2,h⟩:=ybm h
  obtain ⟨ys,hs,hys⟩:=yl0 hC hγ (hγ.tev y) hl2
  refine yqe hC hγ hk h (fun hA=> ?_) hys (by rw[twk',ho])
  refine ⟨?_,(C.E e).pos⟩
  rw[ho]
  simp only[effA]
  rw[ybk,hs,Option.bind_some,if_pos ⟨by rw[<-hz];exact (C.E e).pos,hb,by rw[<-yaL ys,hys,ydp,hz],yiO hC hγ hl2 hA⟩,hz]
 ·exact h.elim
theorem yqW (hC:CxOk P C) (hγ:GM P C R ts χ ds) (hk:DOk ds) {F:Cf K} (hF:F.C=C) {o:AO} {e:Nat} {x y:AOpd} {X:TS K→Prop} {dr:Bool} (ho:o.op= .apps e x y) (h:step F dr o ts X):SR P C R o ts ds X:=by
 unfold step at h
 rw[ho,hF] at h
 simp only at h
 split at h
 ·rename_i l f ey hf
  have hy:=hγ.tev y
  rw[ey] at hy
  have hsz:(C.E e).sz=1:=by
   have:=hC.ob e f hf 0
   rw[<-(C.E e).len (f 0),this];rfl
  have hys:dwks (encB l)=cl (C.E e) (l.map f):=by
   clear hy ey h
   induction l with
   |nil=>rfl
   | cons b l ih=>
     rw[List.map_cons,show cl (C.E e) (f b::l.map f)=(C.E e).c (f b)++cl (C.E e) (l.map f) by simp[cl],hC.ob e f hf b,<-ih]
     rfl
  refine ym7 hC hγ hk (ys:=encB l) h (fun hA=> ?_) hys (by rw[twk',ho])
  refine ⟨?_,(C.E e).pos⟩
  rw[ho]
  simp only[effA]
  rw[ybk,hy.str]
  simp only
  rw[if_pos hA.1,hsz,List.length_map]
 ·exact h.elim
def yjK:AOp→Bool
 | .call .. | .calv .. =>false
 |_=>true
theorem ykJ (hC:CxOk P C) (hγ:GM P C R ts χ ds) (hk:DOk ds) {F:Cf K} (hF:F.C=C) {o:AO} {X:TS K→Prop} (hn:yjK o.op=true) (h:step F true o ts X):SR P C R o ts ds X:=by
 have quiet:∀ {u:AOp},o.op=u→(match tqv ts u with|some (cs,v)=>andL cs (X (ts.put o.dst v))|none=>False)→SR P C R o ts ds X:=by
  intro u ho h
  split at h
  ·rename_i cs v e
   obtain ⟨hc,hX⟩:=ycz h
   obtain ⟨hm,D,w,h1,h2,h3⟩:=ysu hγ e hc
   refine yds hγ h3 ?_ hX
   rw[ho]
   exact yfr hk hm h1 h2
  ·exact h.elim
 cases ho:o.op with
 |ld g sz x=>unfold step at h;rw[ho,hF] at h;exact ysR hC hγ hk ho h
 |sto sz x y=>unfold step at h;rw[ho,hF] at h;exact ypV hC hγ hk ho h
 |pick c a b=>exact yoA hγ hk ho h
 |box e sz x=>exact yqN hγ hk ho h
 |bsl e sz n z parts=>exact yqS hγ hk hF ho h
 |mks e sz b z x y=>exact yrb hC hγ hk hF ho h
 |apz e sz b z x y=>exact yq5 hC hγ hk hF ho h
 |bsf e sz n z parts=>exact yrf hC hγ hk hF ho h
 |apf e sz b x y=>exact yn7 hC hγ hk hF ho h
 |iad sz x i=>exact yqb hC hγ hk hF ho h
 |len x=>unfold step at h;rw[ho,hF] at h;exact yrq hγ hk ho h
 |app e sz b x y=>exact ysc hC hγ hk hF ho h
 |apps e x y=>exact yqW hC hγ hk hF ho h
 |b2s x=>exact yqc hC hγ hk hF ho h
 |sll sz x lo hi=>exact yqL hC hγ hk hF ho h
 |call f args=>rw[ho] at hn;cases hn
 |calv x args=>rw[ho] at hn;cases hn
 |hk k n xs cl=>unfold step at h;rw[ho] at h;exact h.elim
 |eq g kind x y=>unfold step at h;rw[ho] at h;simp only[teqn] at h;exact quiet ho h
 |_=>unfold step at h;rw[ho] at h;exact quiet ho h
end
end Go.AV
end
noncomputable section
namespace Go.AV
open Go.RowKit Go.RG Go.Lib
variable {K:Nat->Type}
def χ1 (χ:Nat->Bool):Nat->Nat->Bool:=fun s c=>decide (c=1)&&χ s
section
variable {P:Program} {C:Cx K} {R:RR K} {ts ts1:TS K} {χ:Nat->Nat->Bool} {ξ:Nat->Bool} {ds:DS} {B:Base} {N:Nat} {ρ:Nat->Option (Nat×Nat)} {p:Nat×Nat->Prop}
theorem TR.noL' {u:TV K} {v:AV} (h:TR P C ts χ u v) (hn:yaE u=true):v.noL=true:=(h.noref (ts':=ts) (χ':=χ) hn).2
variable (P C ts ts1 χ ξ ds ρ p) in
def TM (u u1:TV K):Prop:=∀v,TR P C ts χ u v->∃v1,TR P C ts1 (χ1 ξ) u1 v1/\RV ρ (toD ds) p v1 v
theorem TM.un (u:TV K):TM P C ts ts1 χ ξ ds ρ p u .un:=fun v _=>⟨.un, .un _, .un _⟩
theorem TM.noref {u:TV K} (h:yaE u=true):TM P C ts ts1 χ ξ ds ρ p u u:=fun v hv=>⟨v,(hv.noref h).1, .no v (hv.noL' h)⟩
theorem TM.list:∀ {us us1:List (TV K)} {vs:List AV},us1.length=us.length→(∀(j:Nat) (u u1:TV K),us[j]? =some u→us1[j]? =some u1→TM P C ts ts1 χ ξ ds ρ p u u1)→TL P C ts χ us vs→
  ∃vs1,TL P C ts1 (χ1 ξ) us1 vs1/\vs1.length=vs.length/\∀(j:Nat) (a b:AV),vs1[j]? =some a->vs[j]? =some b->RV ρ (toD ds) p a b
 | [],us1,vs,hl,_,t=>by
   have h1:us1= []:=List.eq_nil_of_length_eq_zero hl
   have h2:vs= []:=List.eq_nil_of_length_eq_zero t.1
   subst h1;subst h2
   exact ⟨[], .nil,rfl,fun j a b h=>by simp at h⟩
 | u ::us,us1,vs,hl,hh,t=>by
   cases us1 with
   |nil=>simp at hl
   | cons u1 us1=>cases vs with
     |nil=>simp[TL] at t
     | cons v vs=>
       obtain ⟨v1,a1,a2⟩:=hh 0 u u1 rfl rfl v t.head.1
       obtain ⟨vs1,b1,b2,b3⟩:=TM.list (us:=us) (us1:=us1) (vs:=vs) (by simpa using hl) (fun j u u1 x y=>hh (j+1) u u1 (by simpa using x) (by simpa using y)) t.head.2
       refine ⟨v1::vs1, .cons a1 b1,by simp[b2],fun j a b x y=> ?_⟩
       cases j with
       |zero=>simp at x y;subst x;subst y;exact a2
       |succ j=>exact b3 j a b (by simpa using x) (by simpa using y)
theorem TM.agg {us us1:List (TV K)} (hl:us1.length=us.length) (hh:∀(j:Nat) (u u1:TV K),us[j]? =some u→us1[j]? =some u1→TM P C ts ts1 χ ξ ds ρ p u u1):TM P C ts ts1 χ ξ ds ρ p (.agg us) (.agg us1):=by
 intro v hv
 obtain ⟨vs,rfl,t⟩:=hv.agg'
 obtain ⟨vs1,a,b,c⟩:=TM.list hl hh t
 exact ⟨.agg vs1, .agg _ _ a.1 a.2, .agg _ _ b c⟩
theorem TM.tup {us us1:List (TV K)} (hl:us1.length=us.length) (hh:∀(j:Nat) (u u1:TV K),us[j]? =some u→us1[j]? =some u1→TM P C ts ts1 χ ξ ds ρ p u u1):TM P C ts ts1 χ ξ ds ρ p (.tup us) (.tup us1):=by
 intro v hv
 obtain ⟨vs,rfl,t⟩:=hv.tup'
 obtain ⟨vs1,a,b,c⟩:=TM.list hl hh t
 exact ⟨.tup vs1, .tup _ _ a.1 a.2, .tup _ _ b c⟩
theorem TM.fn {f:Nat} {us us1 ws ws1:List (TV K)} (hl:us1.length=us.length) (hh:∀(j:Nat) (u u1:TV K),us[j]? =some u→us1[j]? =some u1→TM P C ts ts1 χ ξ ds ρ p u u1)
  (hl':ws1.length=ws.length) (hh':∀(j:Nat) (u u1:TV K),ws[j]? =some u->ws1[j]? =some u1->TM P C ts ts1 χ ξ ds ρ p u u1):TM P C ts ts1 χ ξ ds ρ p (.fn f us ws) (.fn f us1 ws1):=by
 intro v hv
 cases hv with
 | fn _ _ _ a' c' ha hc h h'=>
   obtain ⟨vs1,a,b,c⟩:=TM.list hl hh (show TL P C ts χ us a' from ⟨ha,h⟩)
   obtain ⟨vs2,a2,b2,c2⟩:=TM.list hl' hh' (show TL P C ts χ ws c' from ⟨hc,h'⟩)
   exact ⟨.fn (.func f) vs1 vs2, .fn _ _ _ _ _ a.1 a2.1 a.2 a2.2, .fn _ _ _ _ _ b c b2 c2⟩
theorem TM.cn {id:Nat} {u:TV K} (hrg:∀id w,lkR ts.rg id=some w→lkR ts1.rg id=some w):TM P C ts ts1 χ ξ ds ρ p (.cn id u) (.cn id u):=by
 intro v hv
 cases hv with
 |cn _ _ _ h hn hv=>exact ⟨v, .cn id u v (hrg _ _ h) hn (hv.noref hn).1, .no v (hv.noL' hn)⟩
theorem TM.strip {id:Nat} {u u1:TV K} (h:TM P C ts ts1 χ ξ ds ρ p u u1):TM P C ts ts1 χ ξ ds ρ p (.cn id u) u1:=by
 intro v hv
 cases hv with
 |cn _ _ _ _ hn hv=>exact h v hv
theorem TM.rw {s c s1 n:Nat} (hn:tln (ts.tb s c)=some n) (hn1:tln (ts1.tb s1 1)=some n) (h0:χ s c=false→ρ s1=some (s,c)∧ξ s1=false) (h1:χ s c=true→ξ s1=true):TM P C ts ts1 χ ξ ds ρ p (.rw s c) (.rw s1 1):=by
 intro v hv
 rcases hv.rwi hn with ⟨hx,rfl⟩|⟨hx,rfl,rfl⟩
 ·obtain ⟨q1,q2⟩:=h0 hx
  exact ⟨.gs (.l s1 1) n, .rw s1 1 n (.inl rfl) hn1 (by simp[χ1,q2]), .gs s1 n (s,c) q1⟩
 ·exact ⟨.sl true 0 [], .rwn s1 1 (.inl rfl) hn1 (by simp[χ1,h1 hx]), .no _ rfl⟩
theorem TM.nilrw {s1:Nat} (hn1:tln (ts1.tb s1 1)=some 0) (h1:ξ s1=true):TM P C ts ts1 χ ξ ds ρ p .nil (.rw s1 1):=by
 intro v hv
 cases hv
 exact ⟨.sl true 0 [], .rwn s1 1 (.inl rfl) hn1 (by simp[χ1,h1]), .no _ rfl⟩
theorem TM.px {s c s1 o:Nat} (h:ρ s1=some (s,c)):TM P C ts ts1 χ ξ ds ρ p (.px s c o) (.px s1 1 o):=by
 intro v hv
 rw[hv.pxi]
 exact ⟨.pt (.l s1 1) o, .px _ _ _ (.inl rfl), .pt s1 o (s,c) h⟩
theorem TM.pr {e s c i o s1:Nat} (h:χ s c=false→ρ s1=some (s,c)∧ξ s1=false):TM P C ts ts1 χ ξ ds ρ p (.pr e s c i o) (.pr e s1 1 i o):=by
 intro v hv
 obtain ⟨hx,rfl⟩:=hv.pri
 obtain ⟨q1,q2⟩:=h hx
 exact ⟨.pt (.l s1 1) _, .pr _ _ _ _ _ (.inl rfl) (by simp[χ1,q2]), .pt s1 _ (s,c) q1⟩
theorem TM.fz (hC:CxOk P C) (hγ:GM P C R ts χ ds) {s c e:Nat} {l:List (K e)} (hl:trow C e (ts.tb s c)=some l) (hp:χ s c=false→p (s,c)):TM P C ts ts1 χ ξ ds ρ p (.rw s c) (.sl e l):=by
 intro v hv
 obtain ⟨g1,g2,g3⟩:=hγ.trow hC hl
 rcases hv.rwi g1 with ⟨hx,rfl⟩|⟨hx,h0,rfl⟩
 ·obtain ⟨kb,k1,k2,k3,k4⟩:=g3 hx
  refine ⟨.sl false l.length kb.cells, .sl e l _ _ _ rfl k4,?_⟩
  exact .pub (s,c) l.length kb.blk (hp hx) (by show (ds.kb s c).map KB.blk=_;rw[k1];rfl) (by show kb.cells.length=l.length*kb.sz;rw[k3,<-yaL kb.cells,k4,ydp]) (by show kb.sz≠0;rw[k3];exact Nat.pos_iff_ne_zero.1 (C.E e).pos) (yaO k4)
 ·have:=g2 hx;subst this
  exact ⟨.sl true 0 [], .sl e [] _ _ _ rfl rfl, .no _ rfl⟩
theorem TM.sem {u u1:TV K} (h:∀v,TR P C ts χ u v->TR P C ts1 (χ1 ξ) u1 v/\v.noL=true):TM P C ts ts1 χ ξ ds ρ p u u1:=fun v hv=>⟨v,(h v hv).1, .no v (h v hv).2⟩
variable (P C ts ts1 χ ξ ds ρ p) in
def BM (b b1:TB K):Prop:=∀kb,MR P C ts χ b kb->∃cells1,MR P C ts1 (χ1 ξ) b1 ⟨kb.e,kb.sz,cells1,false⟩/\RVL ρ (toD ds) p cells1 kb.cells/\(opq kb.blk=true->isRc kb.cells=false->isRc cells1=false/\noLs cells1=true/\dwks cells1=dwks kb.cells)
theorem BM.row {e:Nat} {l:List (K e)}:BM P C ts ts1 χ ξ ds ρ p (.row e l) (.row e l):=fun kb h=>⟨kb.cells,h,RVL.no (yaO h.2.2),fun _ hc=>⟨hc,yaO h.2.2,rfl⟩⟩
theorem BM.opq {e t:Nat} {x:K t}:BM P C ts ts1 χ ξ ds ρ p (.opq e t x) (.opq e t x):=fun kb h=>⟨kb.cells,h,RVL.no h.2.2.2.2.1,fun _ hc=>⟨hc,h.2.2.2.2.1,rfl⟩⟩
theorem BM.box {e:Nat} {cs cs1:List (TV K)} (hl:cs1.length=cs.length) (hh:∀(j:Nat) (u u1:TV K),cs[j]? =some u→cs1[j]? =some u1→TM P C ts ts1 χ ξ ds ρ p u u1):BM P C ts ts1 χ ξ ds ρ p (.box e cs) (.box e cs1):=by
 intro kb h
 obtain ⟨vs1,a,b,c⟩:=TM.list hl hh (show TL P C ts χ cs kb.cells from ⟨h.2.2.1,h.2.2.2⟩)
 exact ⟨vs1,⟨h.1,by rw[hl];exact h.2.1,a.1,a.2⟩,⟨b,c⟩,fun ho hc=>absurd (yef ho) (h.nz (.inr ⟨ho,hc⟩) (by intro _ _ _ q;cases q))⟩
theorem BM.lrow {e n:Nat} {cs cs1:List (TV K)} (hl:cs1.length=cs.length) (hh:∀(j:Nat) (u u1:TV K),cs[j]? =some u→cs1[j]? =some u1→TM P C ts ts1 χ ξ ds ρ p u u1):BM P C ts ts1 χ ξ ds ρ p (.lrow e n cs) (.lrow e n cs1):=by
 intro kb h
 obtain ⟨vs1,a,b,c⟩:=TM.list hl hh (show TL P C ts χ cs kb.cells from ⟨h.2.2.1,h.2.2.2.2⟩)
 exact ⟨vs1,⟨h.1,h.2.1,a.1,by rw[hl];exact h.2.2.2.1,a.2⟩,⟨b,c⟩,fun ho hc=>absurd (yef ho) (h.nz (.inr ⟨ho,hc⟩) (by intro _ _ _ q;cases q))⟩
theorem BM.lr {e n:Nat} {cs:List (TV K)} {l:List (K e)} (hC:CxOk P C) (hc:yk2 (C.T e).rd (C.E e).sz n cs=some l):BM P C ts ts1 χ ξ ds ρ p (.lrow e n cs) (.row e l):=by
 intro kb h
 obtain ⟨a1,a2⟩:=yfN hC n cs kb.cells l hc ⟨h.2.2.1,h.2.2.2.2⟩ h.2.2.2.1
 exact ⟨kb.cells,⟨h.1,h.2.1,a1⟩,RVL.no (yaO a1),fun _ hc=>⟨hc,yaO a1,rfl⟩⟩
theorem yjE (g:Nat→AV):∀(l:List (Nat×TV K)) (t:Nat),(lkF (l.map fun p=>(p.1,g p.1)) t=g t)∨(lkF (l.map fun p=>(p.1,g p.1)) t= .un∧lkT l t= .un)
 | [],t=> .inr ⟨rfl,rfl⟩
 | p::r,t=>by
   rw[List.map_cons,yaJ,show p::r=(p.1,p.2)::r from rfl,yba]
   simp only
   by_cases e:p.1=t
   ·subst e;simp
   ·rw[if_neg e,if_neg e];exact yjE g r t
theorem yhi (q:Nat→Bool) (g:Nat→KB):∀(l:List (Nat×Option (TB K))) (s:Nat),lkM ((l.filter fun p=>q p.1).map fun p=>(p.1,g p.1)) s=if memB l s=true∧q s=true then some (g s) else none
 | [],s=>by simp[lkM,memB]
 | p ::r,s=>by
   have hm:memB (p::r) s=(Nat.beq p.1 s||memB r s):=rfl
   rw[hm]
   by_cases e:p.1=s
   ·subst e
    rw[nbeq.2 rfl]
    cases hq:q p.1 with
    | true=>
      rw[List.filter_cons,if_pos hq,List.map_cons,yhz];simp
    | false=>
      rw[List.filter_cons,if_neg (by rw[hq];simp),yhi q g r p.1];simp[hq]
   ·have hb:Nat.beq p.1 s=false:=by
     cases h:Nat.beq p.1 s with
     |false=>rfl
     |true=>exact absurd (nbeq.1 h) e
    rw[hb,Bool.false_or]
    cases hq:q p.1 with
    |true=>rw[List.filter_cons,if_pos hq,List.map_cons,yhz];simp only[e,if_false];exact yhi q g r s
    |false=>rw[List.filter_cons,if_neg (by rw[hq];simp)];exact yhi q g r s
theorem yqD (hB:ybR B) (hγ:GM P C R ts χ ds) (hk:DOk ds) (ρ:Nat→Option (Nat×Nat)) (p:Nat×Nat→Prop) (ξ:Nat→Bool) (ts1:TS K) (hnw:ts1.nw= []) (hhp:∀H n,R ts.h H n→R ts1.h H n)
  (hρ:∀s k,ρ s=some k->χ k.1 k.2=false/\∃b b1,ts.tb k.1 k.2=some b/\lkB ts1.od s=some b1/\BM P C ts ts1 χ ξ ds ρ p b b1)
  (hm:∀s b1,lkB ts1.od s=some b1->ξ s=false->∃k,ρ s=some k) (hv:∀s,ξ s=true->ρ s=none/\∃e,lkB ts1.od s=some (.row e []))
  (hlv:∀s b1,2000000<=s->lkB ts1.od s=some b1->R.L s=ξ s) (hfix:∀s k,2000000<=s->ρ s=some k->k=(s,1)) (inj:∀s s' k,ρ s=some k->ρ s'=some k->s=s') (hp:∀k,p k->χ k.1 k.2=false/\∃e l,trow C e (ts.tb k.1 k.2)=some l/\∀s,ρ s≠some k) (hC:CxOk P C)
  (fr:∀t,TM P C ts ts1 χ ξ ds ρ p (lkT ts.fr t) (lkT ts1.fr t)) {X:KS->Prop} (h:∀ks,KOk ks->GM P C R ts1 (χ1 ξ) (ofK ks)->X ks):RE B N (toD ds) X:=by
 have hg:∀t,∃v1,TR P C ts1 (χ1 ξ) (lkT ts1.fr t) v1/\RV ρ (toD ds) p v1 (lkF ds.fr t):=fun t=>fr t _ (hγ.fr t)
 let g:Nat->AV:=fun t=>Classical.choose (hg t)
 have hg':∀t,TR P C ts1 (χ1 ξ) (lkT ts1.fr t) (g t)/\RV ρ (toD ds) p (g t) (lkF ds.fr t):=fun t=>Classical.choose_spec (hg t)
 have hgm:∀s,∃kb1:KB,∀k,ρ s=some k→∃kb b1,ds.kb k.1 k.2=some kb∧lkB ts1.od s=some b1∧kb1.e=kb.e∧kb1.sz=kb.sz∧kb1.q=false∧MR P C ts1 (χ1 ξ) b1 kb1∧RVL ρ (toD ds) p kb1.cells kb.cells∧(opq kb.blk=true→isRc kb.cells=false→isRc kb1.cells=false∧noLs kb1.cells=true∧dwks kb1.cells=dwks kb.cells):=by
  intro s
  cases hs:ρ s with
  |none=>exact ⟨⟨0,0,[],false⟩,fun k hk=>by cases hk⟩
  | some k=>
    obtain ⟨h0,b,b1,h1,h2,h3⟩:=hρ s k hs
    obtain ⟨kb,k1,k2⟩:=hγ.mb k.1 k.2 b h1 h0
    obtain ⟨cells1,c1,c2,c3⟩:=h3 kb k2
    exact ⟨⟨kb.e,kb.sz,cells1,false⟩,fun k' hk'=>by cases hk';exact ⟨kb,b1,k1,h2,rfl,rfl,rfl,c1,c2,c3⟩⟩
 let gm:Nat->KB:=fun s=>Classical.choose (hgm s)
 have hgm':∀s k,ρ s=some k->∃kb b1,ds.kb k.1 k.2=some kb/\lkB ts1.od s=some b1/\(gm s).e=kb.e/\(gm s).sz=kb.sz/\(gm s).q=false/\MR P C ts1 (χ1 ξ) b1 (gm s)/\RVL ρ (toD ds) p (gm s).cells kb.cells/\(opq kb.blk=true->isRc kb.cells=false->isRc (gm s).cells=false/\noLs (gm s).cells=true/\dwks (gm s).cells=dwks kb.cells):=fun s=>Classical.choose_spec (hgm s)
 let ks1:KS:=⟨ts1.fr.map fun p=>(p.1,g p.1),(ts1.od.filter fun p=>(ρ p.1).isSome).map fun p=>(p.1,gm p.1),ds.H,ds.nx⟩
 have hmem:∀s,lkM ks1.mem s=if (ρ s).isSome=true then some (gm s) else none:=by
  intro s
  show lkM ((ts1.od.filter fun p=>(ρ p.1).isSome).map fun p=>(p.1,gm p.1)) s=_
  rw[yhi (fun s=>(ρ s).isSome) gm ts1.od s]
  by_cases hs:(ρ s).isSome=true
  ·obtain ⟨k,hk'⟩:=Option.isSome_iff_exists.1 hs
   obtain ⟨_,b,b1,_,h2,_⟩:=hρ s k hk'
   rw[if_pos ⟨ydH h2,hs⟩,if_pos hs]
  ·rw[if_neg (fun q=>hs q.2),if_neg hs]
 have hok:KOk ks1:=by
  intro s b hb
  rw[hmem] at hb
  split at hb
  ·rename_i hs
   cases hb
   obtain ⟨k,hk'⟩:=Option.isSome_iff_exists.1 hs
   obtain ⟨kb,b1,h1,h2,h3,h4,h5,_,_,h8⟩:=hgm' s k hk'
   refine ⟨?_,fun q=>by rw[h5] at q;cases q⟩
   rcases (hk k.1 k.2 kb h1).1 with z|⟨z,zc⟩
   ·exact .inl (by rw[h4];exact z)
   ·refine .inr ⟨?_,(h8 z zc).1⟩
    show ((gm s).sz==0&&decide (1000000<=(gm s).e))=true
    rw[h3,h4];exact z
  ·cases hb
 refine RE.of (ks1:=ks1) hB (ρ:=ρ) (p:=p) {dom:= ?_,at':= ?_,inj:=inj,disj:= ?_,pub:= ?_,fr:= ?_,H:=fun _=>rfl,nx:=rfl,fix:=fun d k hd h=>hfix d k hd h} hok (h ks1 hok ⟨?_,?_,?_,?_,hhp _ _ hγ.hp,fun s b q e=>by rw[hlv s b q e];simp[χ1]⟩)
 ·intro d b1 hb
  rw[hmem] at hb
  split at hb
  ·rename_i hs;exact Option.isSome_iff_exists.1 hs
  ·cases hb
 ·intro d k hd
  obtain ⟨kb,b1,h1,h2,h3,h4,h5,h6,h7,h8⟩:=hgm' d k hd
  refine ⟨kb.blk,gm d,by show (ds.kb k.1 k.2).map KB.blk=_;rw[h1];rfl,(hk k.1 k.2 kb h1).1.imp id (fun q=>⟨q.1,q.2,h8 q.1 q.2⟩),by rw[hmem,hd];rfl,h3,h4,h7⟩
 ·intro k d hp' hd;obtain ⟨_,e,l,_,h3⟩:=hp k hp';exact h3 d hd
 ·intro k hp'
  obtain ⟨h0,e,l,h1,_⟩:=hp k hp'
  obtain ⟨kb,k1,k2,k3,k4⟩:=(hγ.trow hC h1).2.2 h0
  exact ⟨kb.blk,by show (ds.kb k.1 k.2).map KB.blk=_;rw[k1];rfl,(show MR P C ts χ (.row e l) kb from ⟨k2,k3,k4⟩).nz (hk k.1 k.2 kb k1).1 (by intro _ _ _ q;cases q)⟩
 ·intro t
  show RV ρ (toD ds) p (lkF (ts1.fr.map fun p=>(p.1,g p.1)) t) (lkF ds.fr t)
  rcases yjE g ts1.fr t with e|⟨e,_⟩
  ·rw[e];exact (hg' t).2
  ·rw[e];exact .un _
 ·intro t
  show TR P C ts1 (χ1 ξ) (lkT ts1.fr t) (lkF (ts1.fr.map fun p=>(p.1,g p.1)) t)
  rcases yjE g ts1.fr t with e|⟨e,e2⟩
  ·rw[e];exact (hg' t).1
  ·rw[e,e2];exact .un _
 ·intro s c b hb hx
  rcases tb_c hb with rfl|rfl
  ·have hx':ξ s=false:=by simpa [χ1] using hx
   obtain ⟨k,hk'⟩:=hm s b hb hx'
   obtain ⟨kb,b1,h1,h2,h3,h4,h5,h6,h7,_⟩:=hgm' s k hk'
   have:b1=b:=by
    have hb':lkB ts1.od s=some b:=hb
    rw[h2] at hb';exact Option.some.inj hb'
   subst this
   refine ⟨gm s,?_,h6⟩
   show lkO (ylm ks1.mem) s=_
   rw[yf0,hmem,hk'];rfl
  ·have hb':lkB ts1.nw s=some b:=hb
   rw[hnw] at hb';cases hb'
 ·intro s c hx
  simp only[χ1,Bool.and_eq_true,decide_eq_true_eq] at hx
  obtain ⟨rfl,hx⟩:=hx
  exact (hv s hx).2
 ·intro s _;rfl
end
end Go.AV
end
noncomputable section
namespace Go.AV
open Go.RowKit Go.RG Go.Lib
variable {K:Nat->Type}
section
variable {P:Program} {C:Cx K} {R:RR K} {ts ts1:TS K} {χ:Nat->Nat->Bool} {ξ:Nat->Bool} {ds:DS} {B:Base} {N:Nat} {ρ:Nat->Option (Nat×Nat)} {p:Nat×Nat->Prop}
theorem yfR (A:Nat→Nat→Option (TV K)) (D:Nat→Nat→Option Nat) (l:List (TV K)):(rnVs A D l).length=l.length:=by
 induction l with
 |nil=>rfl
 |cons x l ih=>simp[rnVs,ih]
variable (P C R ts ts1 χ ξ ds ρ p) in
structure RnOk (A:Nat→Nat→Option (TV K)) (D:Nat→Nat→Option Nat):Prop where
 cx:CxOk P C
 γ:GM P C R ts χ ds
 A:∀s c w,A s c=some w→(∃s1 n,w= .rw s1 1∧tln (ts.tb s c)=some n∧tln (ts1.tb s1 1)=some n∧(χ s c=false→ρ s1=some (s,c)∧ξ s1=false)∧(χ s c=true→ξ s1=true))∨
  (∃e l,w= .sl e l/\trow C e (ts.tb s c)=some l/\(χ s c=false->p (s,c)))
 D:∀s c s1,D s c=some s1->ρ s1=some (s,c)
 rg:∀id w,lkR ts.rg id=some w->lkR ts1.rg id=some w
mutual
theorem yjW {A:Nat→Nat→Option (TV K)} {D:Nat→Nat→Option Nat} (h:RnOk P C R ts ts1 χ ξ ds ρ p A D):∀u,TM P C ts ts1 χ ξ ds ρ p u (rnV A D u)
 | .un=>TM.un _
 | .lb b=>TM.noref rfl
 | .bl b=>TM.noref rfl
 | .li k n=>TM.noref rfl
 | .it k n=>TM.noref rfl
 | .st s=>TM.noref rfl
 | .agg cs=>TM.agg (yfR A D cs) (ygd h cs)
 | .tup cs=>TM.tup (yfR A D cs) (ygd h cs)
 | .nil=>TM.noref rfl
 | .em=>TM.noref rfl
 | .sl e l=>TM.noref rfl
 | .rw s c=>by
   simp only[rnV]
   split
   ·rename_i w e
    rcases h.A s c w e with ⟨s1,n,rfl,h1,h2,h3,h4⟩|⟨e0,l,rfl,h1,h2⟩
    ·exact TM.rw h1 h2 h3 h4
    ·exact TM.fz h.cx h.γ h1 h2
   ·exact TM.un _
 | .px s c o=>by
   simp only[rnV]
   split
   ·rename_i s1 e;exact TM.px (h.D s c s1 e)
   ·exact TM.un _
 | .pr e0 s c i o=>by
   simp only[rnV]
   split
   ·rename_i s1 c1 e
    rcases h.A s c _ e with ⟨s2,n,e1,h1,h2,h3,h4⟩|⟨e0,l,e1,_⟩
    ·cases e1;exact TM.pr h3
    ·cases e1
   ·exact TM.un _
 | .ep e l i o=>TM.noref rfl
 | .gs l i=>TM.noref rfl
 | .nptr=>TM.noref rfl
 | .fn f a c=>TM.fn (yfR A D a) (ygd h a) (yfR A D c) (ygd h c)
 | .fv ps rs F=>TM.noref rfl
 | .yl r=>TM.noref rfl
 | .cn id v=>TM.cn h.rg
theorem ygd {A:Nat→Nat→Option (TV K)} {D:Nat→Nat→Option Nat} (h:RnOk P C R ts ts1 χ ξ ds ρ p A D):∀(us:List (TV K)) (j:Nat) (u u1:TV K),us[j]? =some u→(rnVs A D us)[j]? =some u1→TM P C ts ts1 χ ξ ds ρ p u u1
 | [],j,u,u1,h1,_=>by simp at h1
 | x::us,j,u,u1,h1,h2=>by
   cases j with
   |zero=>simp[rnVs] at h1 h2;subst h1;subst h2;exact yjW h x
   |succ j=>exact ygd h us j u u1 (by simpa using h1) (by simpa [rnVs] using h2)
end
theorem BM.map {A:Nat→Nat→Option (TV K)} {D:Nat→Nat→Option Nat} (h:RnOk P C R ts ts1 χ ξ ds ρ p A D) {b b1:TB K} (hb:mapB (rnV A D) (some b)=some b1):BM P C ts ts1 χ ξ ds ρ p b b1:=by
 have hc:∀(cs:List (TV K)) (j:Nat) (u u1:TV K),cs[j]? =some u→(cs.map (rnV A D))[j]? =some u1→TM P C ts ts1 χ ξ ds ρ p u u1:=by
  intro cs j u u1 h1 h2
  rw[List.getElem?_map,h1] at h2
  cases h2;exact yjW h u
 cases b with
 |box e cs=>cases hb;exact BM.box (by simp) (hc cs)
 |row e l=>cases hb;exact BM.row
 |lrow e n cs=>cases hb;exact BM.lrow (by simp) (hc cs)
 |opq e t x=>cases hb;exact BM.opq
theorem yjp (a b:List (Nat×Option (TB K))) (s:Nat):lkB (a++b) s=if memB a s=true then lkB a s else lkB b s:=by
 induction a with
 |nil=>rfl
 | cons p a ih=>
   have hm:memB (p::a) s=(Nat.beq p.1 s||memB a s):=rfl
   rw[List.cons_append,yat,yat,ih,hm]
   by_cases e:p.1=s
   ·rw[if_pos e,if_pos e,nbeq.2 e];rfl
   ·rw[if_neg e,if_neg e]
    have:Nat.beq p.1 s=false:=by
     cases h:Nat.beq p.1 s with
     |false=>rfl
     |true=>exact absurd (nbeq.1 h) e
    rw[this,Bool.false_or]
def REt (P:Program) (C:Cx K) (R:RR K) (B:Base) (N:Nat) (ts ts1:TS K):Prop:=∀χ ds,DOk ds->GM P C R ts χ ds->RE B N (toD ds) (fun ks=>KOk ks/\∃ξ,GM P C R ts1 ξ (ofK ks))
theorem yjg {nw:List (Nat×Option (TB K))} {s:Nat} (h:memB (nwL nw) s=true):s<2000000:=by
 induction nw with
 |nil=>cases h
 | cons p r ih=>
   simp only[nwL] at h
   split at h
   ·exact ih h
   ·rename_i hp
    simp only[memB,Bool.or_eq_true] at h
    rcases h with h|h
    ·have:=nbeq.1 h;subst this
     exact Nat.lt_of_not_le fun q=>by rw[Nat.ble_eq_true_of_le q] at hp;cases hp
    ·exact ih h
theorem yst {nw:List (Nat×Option (TB K))} {s:Nat} (h:s<2000000):lkB (nwL nw) s=lkB nw s:=by
 induction nw with
 |nil=>rfl
 | cons p r ih=>
   simp only[nwL]
   split
   ·rename_i hp
    have:=Nat.le_of_ble_eq_true hp
    rw[ih,yat,if_neg (by omega)]
   ·rw[yat,yat,ih]
theorem ypN (hB:ybR B) (hC:CxOk P C):REt P C R B N ts (er ts):=by
 intro χ ds hk hγ
 let cc:Nat->Nat:=fun s=>if memB (nwL ts.nw) s=true then 2 else 1
 let ρ:Nat→Option (Nat×Nat):=fun s=>match ts.tb s (cc s) with
  |some _=>if χ s (cc s)=true then none else some (s,cc s)
  |none=>none
 let ξ:Nat->Bool:=fun s=>χ s (cc s)
 have hlk:∀s,lkB (nwL ts.nw++ts.od) s=ts.tb s (cc s):=by
  intro s
  rw[yjp]
  by_cases h:memB (nwL ts.nw) s=true
  ·rw[if_pos h];show _=ts.tb s (if memB (nwL ts.nw) s=true then 2 else 1);rw[if_pos h];exact yst (yjg h)
  ·rw[if_neg h];show _=ts.tb s (if memB (nwL ts.nw) s=true then 2 else 1);rw[if_neg h];rfl
 have hod:∀s,lkB (er ts).od s=mapB (rnV (erA ts) (erB ts)) (ts.tb s (cc s)):=by
  intro s;show lkB (mapM _ (nwL ts.nw++ts.od)) s=_;rw[yf5,hlk]
 have hρi:∀s k,ρ s=some k→k=(s,cc s)∧χ s (cc s)=false∧∃b,ts.tb s (cc s)=some b:=by
  intro s k h
  have h':(match ts.tb s (cc s) with|some _=>if χ s (cc s)=true then none else some (s,cc s)|none=>none)=some k:=h
  split at h'
  ·rename_i b hb
   split at h'
   ·cases h'
   ·rename_i hx
    cases h'
    exact ⟨rfl,by simpa using hx,b,hb⟩
  ·cases h'
 have hρs:∀s b,ts.tb s (cc s)=some b→χ s (cc s)=false→ρ s=some (s,cc s):=by
  intro s b hb hx
  show (match ts.tb s (cc s) with|some _=>if χ s (cc s)=true then none else some (s,cc s)|none=>none)=_
  rw[hb];simp[hx]
 have hN:∀s c s1,erN (nwL ts.nw) s c=some s1→s1=s∧c=cc s:=by
  intro s c s1 h
  unfold erN at h
  show s1=s/\c=if memB (nwL ts.nw) s=true then 2 else 1
  split at h
  ·rename_i hm
   rw[if_pos hm]
   split at h
   ·rename_i e;cases h;exact ⟨rfl,nbeq.1 e⟩
   ·cases h
  ·rename_i hm
   rw[if_neg (by rw[hm];simp)]
   split at h
   ·rename_i e;cases h;exact ⟨rfl,nbeq.1 e⟩
   ·cases h
 have hRn:RnOk P C R ts (er ts) χ ξ ds ρ (fun _=>False) (erA ts) (erB ts):=by
  refine ⟨hC,hγ,?_,?_,fun _ _ h=>h⟩
  ·intro s c w h
   unfold erA at h
   split at h
   ·rename_i n hn
    split at h
    ·rename_i s1 h1
     cases h
     obtain ⟨rfl,rfl⟩:=hN s c s1 h1
     refine .inl ⟨s1,n,rfl,hn,?_,fun hx=>⟨?_,hx⟩,fun hx=>hx⟩
     ·show tln (lkB (er ts).od s1)=_
      rw[hod,yjz];exact hn
     ·cases hq:ts.tb s1 (cc s1) with
      |none=>rw[hq] at hn;cases hn
      |some b=>exact hρs s1 b hq hx
    ·cases h
   ·cases h
  ·intro s c s1 h
   unfold erB at h
   split at h
   ·rename_i e cs hb
    obtain ⟨rfl,rfl⟩:=hN s c s1 h
    exact hρs s1 _ hb (hγ.box hb)
   ·rename_i e t x hb
    obtain ⟨rfl,rfl⟩:=hN s c s1 h
    exact hρs s1 _ hb (hγ.opq hb)
   ·cases h
 have hlv:∀s b1,2000000≤s→lkB (er ts).od s=some b1→R.L s=ξ s:=by
  intro s b1 q e
  have hm:¬memB (nwL ts.nw) s=true:=fun hm=>by have:=yjg hm;omega
  have hc:cc s=1:=if_neg hm
  rw[hod,hc] at e
  show _=χ s (cc s)
  rw[hc]
  cases hq:ts.tb s 1 with
  |none=>rw[hq] at e;cases e
  |some b=>exact hγ.lv s b q hq
 refine yqD hB hγ hk ρ (fun _=>False) ξ (er ts) rfl (fun _ _ h=>h) ?_ ?_ ?_ hlv ?_ ?_ (fun k h=>h.elim) hC ?_ (fun ks h1 h2=>⟨h1,_,h2⟩)
 ·intro s k h
  obtain ⟨rfl,h1,b,hb⟩:=hρi s k h
  refine ⟨h1,b,?_⟩
  cases hm:mapB (rnV (erA ts) (erB ts)) (some b) with
  |none=>cases b<;>cases hm
  |some b1=>exact ⟨b1,hb,by rw[hod,hb];exact hm,BM.map hRn hm⟩
 ·intro s b1 h hx
  rw[hod] at h
  cases hq:ts.tb s (cc s) with
  |none=>rw[hq] at h;cases h
  |some b=>exact ⟨_,hρs s b hq hx⟩
 ·intro s hx
  obtain ⟨e,h1⟩:=hγ.vi s (cc s) hx
  refine ⟨?_,e,by rw[hod,h1];rfl⟩
  show (match ts.tb s (cc s) with|some _=>if χ s (cc s)=true then none else some (s,cc s)|none=>none)=none
  rw[h1]
  exact if_pos hx
 ·intro s k hs h
  have e1:=(hρi s k h).1
  have hm:¬memB (nwL ts.nw) s=true:=fun hm=>by have:=yjg hm;omega
  rw[e1];show (s,if memB (nwL ts.nw) s=true then 2 else 1)=_;rw[if_neg hm]
 ·intro s s' k h h'
  have e1:=(hρi s k h).1
  have e2:=(hρi s' k h').1
  rw[e1] at e2
  exact (Prod.mk.inj e2).1
 ·intro t
  show TM _ _ _ _ _ _ _ _ _ (lkT ts.fr t) (lkT (mapF (rnV (erA ts) (erB ts)) ts.fr) t)
  rw[yhG _ rfl]
  exact yjW hRn _
theorem RE.bind {S:St} {X Y:KS→Prop} (h:RE B N S X) (k:∀ks,KOk ks→X ks→RE B N (toS ks) Y):RE B N S Y:=by
 intro a G hR
 obtain ⟨ks1,G1,h1,h2,h3⟩:=h a G hR
 obtain ⟨ks2,G2,k1,k2,k3⟩:=k ks1 h2.2 h3 a G1 h2.1
 exact ⟨ks2,G2,by rw[k1,h1],k2,k3⟩
theorem REt.trans {ts2:TS K} (h:REt P C R B N ts ts1) (k:REt P C R B N ts1 ts2):REt P C R B N ts ts2:=by
 intro χ ds hk hγ
 refine RE.bind (h χ ds hk hγ) fun ks hko ⟨_,ξ,hg⟩=> ?_
 rw[<-ydl]
 exact k ξ (ofK ks) (ydr hko) hg
def REk (P:Program) (C:Cx K) (R:RR K) (B:Base) (N:Nat) (ts ts1:TS K):Prop:=∀χ ks,KOk ks->GM P C R ts χ (ofK ks)->RE B N (toS ks) (fun ks=>KOk ks/\∃ξ,GM P C R ts1 ξ (ofK ks))
theorem REt.k (h:REt P C R B N ts ts1):REk P C R B N ts ts1:=by
 intro χ ks hk hγ
 have:=h χ (ofK ks) (ydr hk) hγ
 rw[ydl] at this
 exact this
theorem REk.refl:REk P C R B N ts ts:=fun χ ks hk hγ=>RE.id hk ⟨hk,χ,hγ⟩
theorem REk.trans {ts2:TS K} (h:REk P C R B N ts ts1) (k:REk P C R B N ts1 ts2):REk P C R B N ts ts2:=fun χ ks hk hγ=>RE.bind (h χ ks hk hγ) fun ks' hko ⟨_,ξ,hg⟩=>k ξ ks' hko hg
theorem REt.thenk {ts2:TS K} (h:REt P C R B N ts ts1) (k:REk P C R B N ts1 ts2):REt P C R B N ts ts2:=fun χ ds hk hγ=>RE.bind (h χ ds hk hγ) fun ks' hko ⟨_,ξ,hg⟩=>k ξ ks' hko hg
theorem yqZ (hB:ybR B) (hC:CxOk P C) (s0:Nat):REk P C R B N ts (fz C ts s0):=by
 intro χ ks hk hγ
 unfold fz
 split
 rotate_left
 ·exact RE.id hk ⟨hk,χ,hγ⟩
 ·rename_i l hnw hl
  rw[<-ydl]
  generalize he0:tbe (ts.tb s0 1)=e0 at l hl
  let A:=fzS ts s0 (.sl e0 l)
  let D:=fzB ts
  let tsF:TS K:=⟨mapF (rnV A D) ts.fr,(s0,none)::mapM (rnV A D) ts.od,[],ts.rg,ts.h⟩
  let ρ:Nat→Option (Nat×Nat):=fun s=>if s=s0 then none else match ts.tb s 1 with
   |some _=>if χ s 1=true then none else some (s,1)
   |none=>none
  let ξ:Nat->Bool:=fun s=>if s=s0 then false else χ s 1
  let p:Nat×Nat->Prop:=fun k=>k=(s0,1)/\χ s0 1=false
  have hod:∀s,s≠s0→lkB tsF.od s=mapB (rnV A D) (ts.tb s 1):=by
   intro s hs
   show lkB ((s0,none)::mapM (rnV A D) ts.od) s=_
   rw[yat,if_neg (fun e=>hs e.symm),yf5];rfl
  have hod0:lkB tsF.od s0=none:=by show lkB ((s0,none)::mapM (rnV A D) ts.od) s0=_;rw[yat,if_pos rfl]
  have hρi:∀s k,ρ s=some k→s≠s0∧k=(s,1)∧χ s 1=false∧∃b,ts.tb s 1=some b:=by
   intro s k h
   have h':(if s=s0 then none else match ts.tb s 1 with|some _=>if χ s 1=true then none else some (s,1)|none=>none)=some k:=h
   split at h'
   ·cases h'
   ·rename_i hs
    split at h'
    ·rename_i b hb
     split at h'
     ·cases h'
     ·rename_i hx;cases h';exact ⟨hs,rfl,by simpa using hx,b,hb⟩
    ·cases h'
  have hρs:∀s b,s≠s0→ts.tb s 1=some b→χ s 1=false→ρ s=some (s,1):=by
   intro s b hs hb hx
   show (if s=s0 then none else match ts.tb s 1 with|some _=>if χ s 1=true then none else some (s,1)|none=>none)=_
   rw[if_neg hs,hb];simp[hx]
  have hRn:RnOk P C R ts tsF χ ξ (ofK ks) ρ p A D:=by
   refine ⟨hC,hγ,?_,?_,fun _ _ h=>h⟩
   ·intro s c w h
    have h':fzS ts s0 (.sl e0 l) s c=some w:=h
    unfold fzS at h'
    split at h'
    ·rename_i hc
     have:=nbeq.1 hc;subst this
     split at h'
     ·rename_i hs
      have:=nbeq.1 hs;subst this
      cases h'
      exact .inr ⟨e0,l,rfl,hl,fun hx=>⟨rfl,hx⟩⟩
     ·rename_i hs
      have hs':s≠s0:=fun e=>by rw[nbeq.2 e] at hs;cases hs
      split at h'
      ·rename_i n hn
       cases h'
       refine .inl ⟨s,n,rfl,hn,?_,fun hx=>⟨?_,?_⟩,fun hx=> ?_⟩
       ·show tln (lkB tsF.od s)=_
        rw[hod s hs',yjz];exact hn
       ·cases hq:ts.tb s 1 with
        |none=>rw[hq] at hn;cases hn
        |some b=>exact hρs s b hs' hq hx
       ·show (if s=s0 then false else χ s 1)=false;rw[if_neg hs'];exact hx
       ·show (if s=s0 then false else χ s 1)=true;rw[if_neg hs'];exact hx
      ·cases h'
    ·cases h'
   ·intro s c s1 h
    have h':fzB ts s c=some s1:=h
    unfold fzB at h'
    split at h'
    ·rename_i e cs hc hb
     cases h'
     have:=nbeq.1 hc;subst this
     refine hρs _ _ ?_ hb (hγ.box hb)
     rintro rfl
     rw[hb] at hl;cases hl
    ·rename_i e t x hc hb
     cases h'
     have:=nbeq.1 hc;subst this
     refine hρs _ _ ?_ hb (hγ.opq hb)
     rintro rfl
     rw[hb] at hl;cases hl
    ·cases h'
  have hlv:∀s b1,2000000≤s→lkB tsF.od s=some b1→R.L s=ξ s:=by
   intro s b1 q e
   have hs:s≠s0:=by rintro rfl;rw[hod0] at e;cases e
   rw[hod s hs] at e
   show _=(if s=s0 then false else χ s 1)
   rw[if_neg hs]
   cases hq:ts.tb s 1 with
   |none=>rw[hq] at e;cases e
   |some b=>exact hγ.lv s b q hq
  refine yqD hB hγ (ydr hk) ρ p ξ tsF rfl (fun _ _ h=>h) ?_ ?_ ?_ hlv (fun s k _ h=>(hρi s k h).2.1) ?_ ?_ hC ?_ (fun ks h1 h2=>⟨h1,_,h2⟩)
  ·intro s k h
   obtain ⟨hs,rfl,h1,b,hb⟩:=hρi s k h
   refine ⟨h1,b,?_⟩
   cases hm:mapB (rnV A D) (some b) with
   |none=>cases b<;>cases hm
   |some b1=>exact ⟨b1,hb,by rw[hod s hs,hb];exact hm,BM.map hRn hm⟩
  ·intro s b1 h hx
   have hs:s≠s0:=by rintro rfl;rw[hod0] at h;cases h
   rw[hod s hs] at h
   have hx':χ s 1=false:=by
    have:(if s=s0 then false else χ s 1)=false:=hx
    rw[if_neg hs] at this;exact this
   cases hq:ts.tb s 1 with
   |none=>rw[hq] at h;cases h
   |some b=>exact ⟨_,hρs s b hs hq hx'⟩
  ·intro s hx
   have hx':(if s=s0 then false else χ s 1)=true:=hx
   split at hx'
   ·cases hx'
   ·rename_i hs
    obtain ⟨e,h1⟩:=hγ.vi s 1 hx'
    refine ⟨?_,e,by rw[hod s hs,h1];rfl⟩
    show (if s=s0 then none else match ts.tb s 1 with|some _=>if χ s 1=true then none else some (s,1)|none=>none)=none
    rw[if_neg hs,h1]
    exact if_pos hx'
  ·intro s s' k h h'
   have e1:=(hρi s k h).2.1
   have e2:=(hρi s' k h').2.1
   rw[e1] at e2
   exact (Prod.mk.inj e2).1
  ·rintro k ⟨rfl,hx⟩
   refine ⟨hx,e0,l,hl,fun s h=> ?_⟩
   obtain ⟨hs,e1,_⟩:=hρi s _ h
   exact hs (Prod.mk.inj e1).1.symm
  ·intro t
   show TM _ _ _ _ _ _ _ _ _ (lkT ts.fr t) (lkT (mapF (rnV A D) ts.fr) t)
   rw[yhG _ rfl]
   exact yjW hRn _
theorem yim (hB:ybR B) (hC:CxOk P C):∀(n:Nat) (vs:List (TV K)) (ts:TS K),REk P C R B N ts (fzA C n vs ts)
 |0,_,_=> .refl
 | n+1,vs,ts=>by
   simp only[fzA]
   split
   ·exact .refl
   ·split
    ·exact (yim hB hC n _ ts).trans (yqZ hB hC _)
    ·exact yqZ hB hC _
theorem ymk (hB:ybR B) (hC:CxOk P C) (fr:List (Nat×TV K)):∀(l:List (Nat×Kd)) (ts:TS K),REk P C R B N ts (fzT C fr l ts)
 | [],_=> .refl
 | (t,k)::r,ts=>by
   cases k with
   | sl e=>
     simp only[fzT]
     refine REk.trans ?_ (ymk hB hC fr r _)
     split
     ·exact yqZ hB hC _
     ·exact .refl
   |_=>simp only[fzT];exact ymk hB hC fr r ts
end
end Go.AV
end
noncomputable section
namespace Go.AV
open Go.RowKit Go.RG Go.Lib
variable {K:Nat->Type}
theorem yde {α:Type} (p:Nat×α) (r:List (Nat×α)) (t:Nat):lkA (p::r) t=if p.1=t then some p.2 else lkA r t:=by
 show (match Nat.beq p.1 t with|true=>some p.2|false=>lkA r t)=_
 cases h:Nat.beq p.1 t with
 |true=>simp[nbeq.1 h]
 |false=>simp only;rw[if_neg (fun e=>by rw[nbeq.2 e] at h;cases h)]
def SubA {α:Type} (m m':List (Nat×α)):Prop:=∀s x,lkA m s=some x->lkA m' s=some x
theorem yjH {α:Type} {eq:α→α→Bool} (heq:∀a b,eq a b=true→a=b) {m m':List (Nat×α)} {s:Nat} {x:α} (h:addA eq m s x=some m'):SubA m m'∧lkA m' s=some x:=by
 unfold addA at h
 split at h
 ·rename_i e
  cases h
  refine ⟨fun t y hy=> ?_,by rw[yde];simp⟩
  rw[yde]
  split
  ·rename_i e';simp only at e';subst e';rw[e] at hy;cases hy
  ·exact hy
 ·rename_i q e
  split at h
  ·rename_i hq
   cases h
   exact ⟨fun _ _ h=>h,by rw[e,heq _ _ hq]⟩
  ·cases h
theorem ydX {p q:Nat×Nat} (h:ygq p q=true):p=q:=by
 unfold ygq at h
 simp only[Bool.and_eq_true] at h
 exact Prod.ext (nbeq.1 h.1) (nbeq.1 h.2)
theorem ykT:∀ {p q:Option (Nat×Nat)},yrH p q=true→p=q
 |none,none,_=>rfl
 |some p,some q,h=>by rw[ydX (show ygq p q=true from h)]
 |none,some _,h=>by cases h
 |some _,none,h=>by cases h
structure SubM (m m':RM):Prop where
 r:SubA m.r m'.r
 b:SubA m.b m'.b
theorem SubM.refl {m:RM}:SubM m m:=⟨fun _ _ h=>h,fun _ _ h=>h⟩
theorem SubM.trans {a b c:RM} (h:SubM a b) (k:SubM b c):SubM a c:=⟨fun s x q=>k.r s x (h.r s x q),fun s x q=>k.b s x (h.b s x q)⟩
section
variable {P:Program} {C:Cx K} {R:RR K} {ts ts1:TS K} {χ:Nat->Nat->Bool} {ξ:Nat->Bool} {ds:DS} {B:Base} {N:Nat} {ρ:Nat->Option (Nat×Nat)} {p:Nat×Nat->Prop} {rg:List (Nat×TV K)}
theorem yg7 (hC:CxOk P C) {t:Nat} {u:TV K} {x:K t} {v:AV} (h:outV C t u=some x) (hv:TR P C ts χ u v):dwk v=eV C t x∧v.noL=true∧∀(ts':TS K) (χ':Nat→Nat→Bool),TR P C ts' χ' (inV C t x) v:=by
 unfold outV at h
 unfold eV inV
 have hs:=hv.s
 revert h hs
 generalize hw:u.s=w
 intro h hs
 cases hg:(C.T t).g with
 | true=>
   rw[hg] at h
   cases w with
   | agg cs=>
     simp only at h⊢
     obtain ⟨vs,rfl,a,b⟩:=hs.agg'
     have tl:=(show TL P C ts χ cs vs from ⟨a,b⟩).mapS
     have hd:=hC.rd t _ x ts χ vs h tl.1 tl.2
     refine ⟨by simp only[dwk,hd],?_,fun ts' χ'=> ?_⟩
     ·simp only[AV.noL];rw[<-ybn,hd];exact (C.E t).no x
     ·obtain ⟨c1,c2⟩:=hC.c t x ts' χ'
      refine .agg _ _ (by rw[<-c1,<-hd,yaL]) (fun j u' v' h1 h2=> ?_)
      refine TR.undwk (c2 j u' (dwk v') h1 ?_) rfl
      rw[<-hd,ybY,List.getElem?_map,h2];rfl
   |_=>cases h
 | false=>
   rw[hg] at h
   have hsz:=hC.g t hg
   have go:(C.T t).rd [w]=some x→dwk v=((C.E t).c x).headD .un∧v.noL=true∧∀(ts':TS K) (χ':Nat→Nat→Bool),TR P C ts' χ' (match (C.T t).c x with| [v]=>v|_=> .un) v:=by
    intro h
    have tl:TL P C ts χ [w] [v]:= .cons hs .nil
    have hd:=hC.rd t [w] x ts χ [v] h tl.1 tl.2
    simp only[dwks] at hd
    refine ⟨by rw[<-hd];rfl,?_,fun ts' χ'=> ?_⟩
    ·have:=(C.E t).no x
     rw[<-hd] at this
     simp only[noLs,Bool.and_true] at this
     rw[<-ydk];exact this
    ·obtain ⟨c1,c2⟩:=hC.c t x ts' χ'
     rw[<-hd] at c1 c2
     cases hc:(C.T t).c x with
     |nil=>rw[hc] at c1;simp at c1
     | cons a r=>cases r with
       |cons b r=>rw[hc] at c1;simp at c1
       |nil=>rw[hc] at c2;exact (c2 0 a (dwk v) rfl rfl).undwk rfl
   cases w with
   |agg cs=>cases h
   |_=>exact go h
variable (P C ts ts1 χ ξ ρ) in
structure Good (M:RM):Prop where
 r:∀s k,lkA M.r s=some (some k)->∀n,tln (ts.tb k.1 k.2)=some n->tln (ts1.tb s 1)=some n/\(χ k.1 k.2=false->ρ s=some k/\ξ s=false)/\(χ k.1 k.2=true->ξ s=true)
 rn:∀s k,lkA M.r s=some (some k)->∃n,tln (ts.tb k.1 k.2)=some n
 n:∀s,lkA M.r s=some none->tln (ts1.tb s 1)=some 0/\ξ s=true
 b:∀s k,lkA M.b s=some k->ρ s=some k
 rg:ts1.rg=rg
theorem Good.sub {M m:RM} (h:Good (rg:=rg) ts ts1 χ ξ ρ M) (k:SubM m M):Good (rg:=rg) ts ts1 χ ξ ρ m:=
 ⟨fun s q a=>h.r s q (k.r _ _ a),fun s q a=>h.rn s q (k.r _ _ a),fun s a=>h.n s (k.r _ _ a),fun s q a=>h.b s q (k.b _ _ a),h.rg⟩
def ExtR (rg rg':List (Nat×TV K)):Prop:=∀id w,lkR rg id=some w->lkR rg' id=some w
theorem TM.stp {u:TV K}:∀ {w u1:TV K},u.s=w→TM P C ts ts1 χ ξ ds ρ p w u1→TM P C ts ts1 χ ξ ds ρ p u u1:=by
 intro w u1 e t
 cases u with
 |cn id v=>simp only[TV.s] at e;subst e;exact TM.strip t
 |_=>simp only[TV.s] at e;subst e;exact t
theorem ydV (hC:CxOk P C) (hx:ExtR rg ts.rg) {k:Kd} {u:TV K} {m m':RM} {a:List (DV K)} (h:rd1 C k u m=some (a,m')):SubM m m'∧∀r,∃u1,bdV C rg k (a++r)=(u1,r)∧(Good (rg:=rg) ts ts1 χ ξ ρ m'→TM P C ts ts1 χ ξ ds ρ p u u1):=by
 have st:= @TM.stp K P C ts ts1 χ ξ ds ρ p u
 cases k with
 | it k=>
   simp only[rd1] at h
   split at h
   ·rename_i k' n e
    split at h
    ·rename_i ek
     subst ek;cases h
     refine ⟨.refl,fun r=>⟨.it k n,rfl,fun _=> ?_⟩⟩
     have e2:u.s= .it k n∨u.s= .li k n:=by
      revert e;generalize u.s=w;intro e
      cases w<;>simp[tint] at e
      ·obtain ⟨rfl,rfl⟩:=e;exact .inr rfl
      ·obtain ⟨rfl,rfl⟩:=e;exact .inl rfl
     rcases e2 with e2|e2
     ·exact st e2 (TM.noref rfl)
     ·exact st e2 (TM.sem fun v hv=>by cases hv;exact ⟨.it k n,rfl⟩)
    ·cases h
   ·cases h
 | bl=>
   simp only[rd1] at h
   split at h
   ·rename_i b e
    cases h
    refine ⟨.refl,fun r=>⟨.bl b,rfl,fun _=> ?_⟩⟩
    have e2:u.s= .bl b∨u.s= .lb b:=by
     revert e;generalize u.s=w;intro e
     cases w<;>simp[tbo] at e
     ·subst e;exact .inr rfl
     ·subst e;exact .inl rfl
    rcases e2 with e2|e2
    ·exact st e2 (TM.noref rfl)
    ·exact st e2 (TM.sem fun v hv=>by cases hv;exact ⟨.bl b,rfl⟩)
   ·cases h
 | st=>
   simp only[rd1] at h
   split at h
   ·rename_i s e
    cases h
    exact ⟨.refl,fun r=>⟨.st s,rfl,fun _=>st e (TM.noref rfl)⟩⟩
   ·cases h
 | sl e=>
   simp only[rd1] at h
   have bd:∀(l:List (K e)) r,bdV C rg (.sl e) (.l e l::r)=(.sl e l,r):=by
    intro l r;simp[bdV,yfH]
   split at h
   ·rename_i e' l eu
    split at h
    ·rename_i l' hl
     obtain ⟨rfl,rfl⟩:=yck hl
     cases h
     exact ⟨.refl,fun r=>⟨_,bd _ r,fun _=>st eu (TM.noref rfl)⟩⟩
    ·cases h
   ·rename_i eu
    cases h
    exact ⟨.refl,fun r=>⟨_,bd [] r,fun _=>st eu (TM.sem fun v hv=>by cases hv;exact ⟨.sl e [] _ _ _ rfl rfl,rfl⟩)⟩⟩
   ·rename_i eu
    cases h
    exact ⟨.refl,fun r=>⟨_,bd [] r,fun _=>st eu (TM.sem fun v hv=>by cases hv;exact ⟨.sl e [] _ _ _ rfl rfl,rfl⟩)⟩⟩
   ·cases h
 | v t=>
   simp only[rd1] at h
   split at h
   ·rename_i x e
    cases h
    refine ⟨.refl,fun r=>⟨inV C t x,by simp[bdV],fun _=>TM.sem fun v hv=> ?_⟩⟩
    obtain ⟨_,a2,a3⟩:=yg7 hC e hv
    exact ⟨a3 _ _,a2⟩
   ·cases h
 |agg l=>simp only[rd1] at h;cases h
 | row s=>
   simp only[rd1] at h
   split at h
   ·rename_i s' c e
    unfold addR at h
    split at h
    ·rename_i r' hr
     cases h
     obtain ⟨h1,h2⟩:=yjH (fun _ _=>ykT) hr
     refine ⟨⟨h1,fun _ _ q=>q⟩,fun r=>⟨.rw s 1,rfl,fun hg=>st e ?_⟩⟩
     obtain ⟨n,hn⟩:=hg.rn s (s',c) h2
     obtain ⟨g1,g2,g3⟩:=hg.r s (s',c) h2 n hn
     exact TM.rw hn g1 g2 g3
    ·cases h
   ·rename_i e
    unfold addR at h
    split at h
    ·rename_i r' hr
     cases h
     obtain ⟨h1,h2⟩:=yjH (fun _ _=>ykT) hr
     refine ⟨⟨h1,fun _ _ q=>q⟩,fun r=>⟨.rw s 1,rfl,fun hg=>st e ?_⟩⟩
     obtain ⟨g1,g2⟩:=hg.n s h2
     exact TM.nilrw g1 g2
    ·cases h
   ·cases h
 | px s off=>
   simp only[rd1] at h
   split at h
   ·rename_i s' c off' e
    split at h
    ·rename_i ho
     have:=nbeq.1 ho;subst this
     unfold addB at h
     split at h
     ·rename_i b' hb
      cases h
      obtain ⟨h1,h2⟩:=yjH (fun _ _=>ydX) hb
      exact ⟨⟨fun _ _ q=>q,h1⟩,fun r=>⟨.px s 1 off,rfl,fun hg=>st e (TM.px (hg.b s (s',c) h2))⟩⟩
     ·cases h
    ·cases h
   ·cases h
 | kp id =>
   simp only[rd1] at h
   split at h
   ·rename_i id' w
    split at h
    ·rename_i hi
     have:=nbeq.1 hi;subst this
     cases h
     refine ⟨.refl,fun r=>⟨match lkR rg id with|some v=> .cn id v|none=> .un,rfl,fun hg=> ?_⟩⟩
     cases hr:lkR rg id with
     |none=>exact TM.un _
     | some v=>
       intro v0 hv
       cases hv with
       | cn _ _ _ h1 hn hv=>
         have:=hx id v hr
         rw[h1] at this;cases this
         exact ⟨v0, .cn id w v0 (by rw[hg.rg];exact hr) hn (hv.noref hn).1, .no v0 (hv.noL' hn)⟩
    ·cases h
   ·cases h
 | nil=>
   simp only[rd1] at h
   split at h
   ·rename_i e
    cases h
    exact ⟨.refl,fun r=>⟨.nil,rfl,fun _=>st e (TM.noref rfl)⟩⟩
   ·cases h
 | np=>
   simp only[rd1] at h
   split at h
   ·rename_i e
    cases h
    exact ⟨.refl,fun r=>⟨.nptr,rfl,fun _=>st e (TM.noref rfl)⟩⟩
   ·cases h
 |fn f x y=>simp only[rd1] at h;cases h
 | un=>
   simp only[rd1] at h
   cases h
   exact ⟨.refl,fun r=>⟨.un,by cases r<;>rfl,fun _=>TM.un _⟩⟩
mutual
theorem ypk (hC:CxOk P C) (hx:ExtR rg ts.rg):∀(k:Kd) (u:TV K) (m m':RM) (a:List (DV K)),rdV C k u m=some (a,m')→SubM m m'∧∀r,∃u1,bdV C rg k (a++r)=(u1,r)∧(Good (rg:=rg) ts ts1 χ ξ ρ m'→TM P C ts ts1 χ ξ ds ρ p u u1)
 | .agg l,u,m,m',a,h=>by
   simp only[rdV] at h
   split at h
   ·rename_i vs e
    obtain ⟨h1,h2⟩:=yf1 hC hx l vs m m' a h
    refine ⟨h1,fun r=> ?_⟩
    obtain ⟨us1,e1,e2,e3⟩:=h2 r
    refine ⟨.agg us1,by simp only[bdV,e1],fun hg=> ?_⟩
    exact TM.stp e (TM.agg e2 (e3 hg))
   ·cases h
 | .fn f x y,u,m,m',a,h=>by
   simp only[rdV] at h
   split at h
   ·rename_i f' x' y' e
    split at h
    ·rename_i hf
     have:=nbeq.1 hf;subst this
     split at h
     ·rename_i a1 m1 h1
      split at h
      ·rename_i a2 m2 h2
       cases h
       obtain ⟨s1,t1⟩:=yf1 hC hx x x' m m1 a1 h1
       obtain ⟨s2,t2⟩:=yf1 hC hx y y' m1 m' a2 h2
       refine ⟨s1.trans s2,fun r=> ?_⟩
       obtain ⟨us1,e1,e2,f1⟩:=t1 (a2++r)
       obtain ⟨us2,e3,e4,f2⟩:=t2 r
       refine ⟨.fn f us1 us2,by rw[List.append_assoc];simp only[bdV,e1,e3],fun hg=> ?_⟩
       exact TM.stp e (TM.fn e2 (f1 (hg.sub s2)) e4 (f2 hg))
      ·cases h
     ·cases h
    ·cases h
   ·cases h
 | .np,u,m,m',a,h=>ydV hC hx h
 | .it k,u,m,m',a,h=>ydV hC hx h
 | .bl,u,m,m',a,h=>ydV hC hx h
 | .st,u,m,m',a,h=>ydV hC hx h
 | .sl e,u,m,m',a,h=>ydV hC hx h
 | .v t,u,m,m',a,h=>ydV hC hx h
 | .row s,u,m,m',a,h=>ydV hC hx h
 | .px s o,u,m,m',a,h=>ydV hC hx h
 | .kp id,u,m,m',a,h=>ydV hC hx h
 | .nil,u,m,m',a,h=>ydV hC hx h
 | .un,u,m,m',a,h=>ydV hC hx h
theorem yf1 (hC:CxOk P C) (hx:ExtR rg ts.rg):∀(l:List Kd) (us:List (TV K)) (m m':RM) (a:List (DV K)),rdVs C l us m=some (a,m')→SubM m m'∧∀r,∃us1,bdVs C rg l (a++r)=(us1,r)∧us1.length=us.length∧(Good (rg:=rg) ts ts1 χ ξ ρ m'→∀(j:Nat) (u u1:TV K),us[j]? =some u→us1[j]? =some u1→TM P C ts ts1 χ ξ ds ρ p u u1)
 | [],[],m,m',a,h=>by
   simp only[rdVs] at h;cases h
   exact ⟨.refl,fun r=>⟨[],rfl,rfl,fun _ j u u1 h=>by simp at h⟩⟩
 | k ::l,u::us,m,m',a,h=>by
   simp only[rdVs] at h
   split at h
   ·rename_i a1 m1 h1
    split at h
    ·rename_i a2 m2 h2
     cases h
     obtain ⟨s1,t1⟩:=ypk hC hx k u m m1 a1 h1
     obtain ⟨s2,t2⟩:=yf1 hC hx l us m1 m' a2 h2
     refine ⟨s1.trans s2,fun r=> ?_⟩
     obtain ⟨u1,e1,f1⟩:=t1 (a2++r)
     obtain ⟨us1,e2,e3,f2⟩:=t2 r
     refine ⟨u1::us1,?_,by simp[e3],fun hg j u' u1' x y=> ?_⟩
     ·rw[List.append_assoc];simp only[bdVs,e1,e2]
     ·cases j with
      |zero=>simp at x y;subst x;subst y;exact f1 (hg.sub s2)
      |succ j=>exact f2 hg j u' u1' (by simpa using x) (by simpa using y)
    ·cases h
   ·cases h
 | [],_::_,_,_,_,h=>by simp[rdVs] at h
 |_::_,[],_,_,_,h=>by simp[rdVs] at h
end
theorem yl3 (hC:CxOk P C) (hx:ExtR rg ts.rg):∀(l:List (Nat×Kd)) (m m':RM) (a:List (DV K)),rdS C ts.fr l m=some (a,m')→SubM m m'∧∀r,∃fr1,bdS C rg l (a++r)=(fr1,r)∧(Good (rg:=rg) ts ts1 χ ξ ρ m'→∀t,TM P C ts ts1 χ ξ ds ρ p (lkT ts.fr t) (lkT fr1 t))
 | [],m,m',a,h=>by
   simp only[rdS] at h;cases h
   exact ⟨.refl,fun r=>⟨[],rfl,fun _ t=>TM.un _⟩⟩
 | k ::l,m,m',a,h=>by
   simp only[rdS] at h
   split at h
   ·rename_i a1 m1 h1
    split at h
    ·rename_i a2 m2 h2
     cases h
     obtain ⟨s1,t1⟩:=ypk hC hx k.2 (lkT ts.fr k.1) m m1 a1 h1
     obtain ⟨s2,t2⟩:=yl3 hC hx l m1 m' a2 h2
     refine ⟨s1.trans s2,fun r=> ?_⟩
     obtain ⟨u1,e1,f1⟩:=t1 (a2++r)
     obtain ⟨fr1,e2,f2⟩:=t2 r
     refine ⟨(k.1,u1)::fr1,?_,fun hg t=> ?_⟩
     ·rw[List.append_assoc];simp only[bdS,e1,e2]
     ·rw[yba]
      split
      ·rename_i e;rw[<-e];exact f1 (hg.sub s2)
      ·exact f2 hg t
    ·cases h
   ·cases h
theorem ysk (hC:CxOk P C) (hx:ExtR rg ts.rg) (l:List Kd) (us:List (TV K)) (m m':RM) (a:List (DV K)) (h:rdW C l us m=some (a,m')) (e:Nat):SubM m m'∧∀r,∃us1,bdW C rg l (a++r)=(us1,r)∧(Good (rg:=rg) ts ts1 χ ξ ρ m'→BM P C ts ts1 χ ξ ds ρ p (.box e us) (.box e us1)):=by
 have gen:rdVs C l us m=some (a,m')→(∀r,bdW C rg l (a++r)=bdVs C rg l (a++r))→SubM m m'∧∀r,∃us1,bdW C rg l (a++r)=(us1,r)∧(Good (rg:=rg) ts ts1 χ ξ ρ m'→BM P C ts ts1 χ ξ ds ρ p (.box e us) (.box e us1)):=by
  intro h hb
  obtain ⟨s1,t1⟩:=yf1 (P:=P) (ts1:=ts1) (χ:=χ) (ξ:=ξ) (ρ:=ρ) (ds:=ds) (p:=p) hC hx l us m m' a h
  refine ⟨s1,fun r=> ?_⟩
  obtain ⟨us1,e1,e2,f1⟩:=t1 r
  exact ⟨us1,by rw[hb];exact e1,fun hg=>BM.box e2 (f1 hg)⟩
 unfold rdW at h
 split at h
 ·rename_i t
  split at h
  ·rename_i hg
   split at h
   ·rename_i x hx'
    cases h
    refine ⟨.refl,fun r=>⟨(C.T t).c x,by simp[bdW,hg],fun _ kb hkb=> ?_⟩⟩
    obtain ⟨k1,k2,k3,k4⟩:=hkb
    obtain ⟨_,b2,b3⟩:=yg7 hC hx' (.agg us kb.cells k3 k4)
    have b4:=b3 ts1 (χ1 ξ)
    rw[show inV C t x= .agg ((C.T t).c x) by unfold inV;rw[hg]] at b4
    obtain ⟨vs,e1,c1,c2⟩:=b4.agg'
    cases e1
    have hl:us.length=((C.T t).c x).length:=by rw[<-k3,c1]
    have b5:noLs kb.cells=true:=by simpa only[AV.noL] using b2
    exact ⟨kb.cells,⟨k1,by rw[k2,hl],by rw[c1],c2⟩,RVL.no b5,fun _ hc=>⟨hc,b5,rfl⟩⟩
   ·cases h
  ·rename_i hg
   exact gen h fun r=>by simp[bdW,hg]
 ·rename_i hn
  refine gen h fun r=> ?_
  unfold bdW
  split
  ·rename_i t;exact absurd rfl (hn t)
  ·rfl
theorem yiD (hC:CxOk P C) (hx:ExtR rg ts.rg):∀(l:List (Nat×Nat×List Kd)) (m m':RM) (a:List (DV K)),rdB C ts l m=some (a,m')→SubM m m'∧∀r,∃od1,bdB C rg l (a++r)=(od1,r)∧(∀s,memB od1 s=l.any fun q=>Nat.beq q.1 s)∧(∀s,memB od1 s=true→∃q b b1,lkA m'.b s=some q∧ts.tb q.1 q.2=some b∧isBx (some b)=true∧lkB od1 s=some b1∧
   (Good (rg:=rg) ts ts1 χ ξ ρ m'->BM P C ts ts1 χ ξ ds ρ p b b1))
 | [],m,m',a,h=>by
   simp only[rdB] at h;cases h
   exact ⟨.refl,fun r=>⟨[],rfl,fun s=>rfl,fun s h=>by cases h⟩⟩
 | k :: l, m,m',a,h=>by
   simp only[rdB] at h
   split at h
   ·rename_i q hq
    split at h
    ·rename_i e t x hb
     split at h
     ·rename_i he
      simp only[Bool.and_eq_true] at he
      obtain ⟨he,hbig,hkk⟩:=he
      have he:=nbeq.1 he
      split at h
      ·rename_i a2 m2 h2
       cases h
       obtain ⟨s2,t2⟩:=yiD hC hx l m m' a2 h2
       refine ⟨s2,fun r=> ?_⟩
       obtain ⟨od1,e2,g2,f2⟩:=t2 r
       obtain ⟨t',hk2⟩:∃t',k.2.2= [.v t']:=by
        revert hkk
        unfold opk
        split
        ·rename_i t' _ hq;exact fun _=>⟨_,hq⟩
        ·intro q;cases q
       have ht:t'=t:=by rw[hk2] at hkk;exact nbeq.1 hkk
       subst ht
       have hW:(bdW C rg k.2.2 (.v t' x::(a2++r))).2=a2++r:=by
        rw[hk2]
        unfold bdW
        simp only
        split
        ·rfl
        ·rename_i hg
         simp[bdVs,bdV]
       refine ⟨(k.1,some (.opq e t' x))::od1,?_,fun s=> ?_,fun s hs=> ?_⟩
       ·rw[List.cons_append]
        simp only[bdB,hW,e2]
        congr 3
        unfold mkBx
        rw[<-he,hbig,hk2]
       ·show (Nat.beq k.1 s||memB od1 s)=_;rw[g2,List.any_cons]
       ·rw [yat]
        by_cases ek:k.1=s
        ·subst ek
         exact ⟨q,_,_,s2.b _ _ hq,hb,rfl,by simp,fun _=>BM.opq⟩
        ·rw[if_neg ek]
         have hs':memB od1 s=true:=by
          have:(Nat.beq k.1 s||memB od1 s)=true:=hs
          have hb':Nat.beq k.1 s=false:=by
           cases hh:Nat.beq k.1 s with
           |false=>rfl
           |true=>exact absurd (nbeq.1 hh) ek
          rwa[hb',Bool.false_or] at this
         exact f2 s hs'
      ·cases h
     ·cases h
    ·rename_i e cs hb
     split at h
     ·rename_i he
      simp only[Bool.and_eq_true,Bool.not_eq_true'] at he
      obtain ⟨he,hsm⟩:=he
      have he:=nbeq.1 he
      split at h
      ·rename_i a1 m1 h1
       split at h
       ·rename_i a2 m2 h2
        cases h
        obtain ⟨s1,t1⟩:=ysk (P:=P) (ts1:=ts1) (χ:=χ) (ξ:=ξ) (ρ:=ρ) (ds:=ds) (p:=p) hC hx k.2.2 cs m m1 a1 h1 e
        obtain ⟨s2,t2⟩:=yiD hC hx l m1 m' a2 h2
        refine ⟨s1.trans s2,fun r=> ?_⟩
        obtain ⟨us1,e1,f1⟩:=t1 (a2++r)
        obtain ⟨od1,e2,g2,f2⟩:=t2 r
        refine ⟨(k.1,some (.box k.2.1 us1))::od1,?_,fun s=> ?_,fun s hs=> ?_⟩
        ·rw[List.append_assoc];simp only[bdB,e1,e2]
         congr 3
         unfold mkBx
         rw[<-he,hsm]
        ·show (Nat.beq k.1 s||memB od1 s)=_;rw[g2,List.any_cons]
        ·rw [yat]
         by_cases ek:k.1=s
         ·subst ek
          exact ⟨q,_, .box e us1,(s1.trans s2).b _ _ hq,hb,rfl,by simp[he],fun hg=>f1 (hg.sub s2)⟩
         ·rw[if_neg ek]
          have hs':memB od1 s=true:=by
           have:(Nat.beq k.1 s||memB od1 s)=true:=hs
           have hb':Nat.beq k.1 s=false:=by
            cases hh:Nat.beq k.1 s with
            |false=>rfl
            |true=>exact absurd (nbeq.1 hh) ek
           rwa[hb',Bool.false_or] at this
          exact f2 s hs'
       ·cases h
      ·cases h
     ·cases h
    ·cases h
   ·cases h
theorem ykC {m:RM}:∀(l:List (Nat×Nat)) (a:List (DV K)),rdR C ts m l=some a→(∀s,memB (bdR l a) s=l.any fun q=>Nat.beq q.1 s)∧∀s,memB (bdR l a) s=true→∃e,(lkA m.r s=some none∧lkB (bdR l a) s=some (.row e []))∨∃q l',lkA m.r s=some (some q)∧trow C e (ts.tb q.1 q.2)=some l'∧lkB (bdR l a) s=some (.row e l')
 | [],a,h=>by
   simp only[rdR] at h;cases h
   exact ⟨fun s=>rfl,fun s h=>by cases h⟩
 | k ::l,a,h=>by
   have step:∀ {x:List (K k.2)} {b:List (DV K)},rdR C ts m l=some b→(lkA m.r k.1=some none∧x= []∨∃q,lkA m.r k.1=some (some q)∧trow C k.2 (ts.tb q.1 q.2)=some x)→(∀s,memB (bdR (k::l) (.l k.2 x::b)) s=(k::l).any fun q=>Nat.beq q.1 s)∧
     ∀s,memB (bdR (k::l) (.l k.2 x::b)) s=true->∃e,(lkA m.r s=some none/\lkB (bdR (k::l) (.l k.2 x::b)) s=some (.row e []))∨∃q l',lkA m.r s=some (some q)/\trow C e (ts.tb q.1 q.2)=some l'/\lkB (bdR (k::l) (.l k.2 x::b)) s=some (.row e l'):=by
    intro x b hb hx
    obtain ⟨g1,g2⟩:=ykC l b hb
    have e:bdR (k::l) (.l k.2 x::b)=(k.1,some (.row k.2 x))::bdR l b:=by simp[bdR,yfH]
    rw[e]
    refine ⟨fun s=> ?_,fun s hs=> ?_⟩
    ·show (Nat.beq k.1 s||memB (bdR l b) s)=_;rw[g1,List.any_cons]
    ·rw[yat]
     by_cases ek:k.1=s
     ·subst ek
      rcases hx with ⟨h1,rfl⟩|⟨q,h1,h2⟩
      ·exact ⟨k.2, .inl ⟨h1,by simp⟩⟩
      ·exact ⟨k.2, .inr ⟨q,x,h1,h2,by simp⟩⟩
     ·rw[if_neg ek]
      refine g2 s ?_
      have:(Nat.beq k.1 s||memB (bdR l b) s)=true:=hs
      have hb':Nat.beq k.1 s=false:=by
       cases hh:Nat.beq k.1 s with
       |false=>rfl
       |true=>exact absurd (nbeq.1 hh) ek
      rwa[hb',Bool.false_or] at this
   simp only[rdR] at h
   split at h
   ·rename_i hq
    obtain ⟨b,hb,rfl⟩:=Option.map_eq_some_iff.1 h
    exact step hb (.inl ⟨hq,rfl⟩)
   ·rename_i q hq
    split at h
    ·rename_i l' hl
     obtain ⟨b,hb,rfl⟩:=Option.map_eq_some_iff.1 h
     exact step hb (.inr ⟨q,hq,hl⟩)
    ·cases h
   ·cases h
theorem yh0:∀ {l:List (Nat×Nat)} {q:Nat×Nat},q∈l→ynT l q=true
 | p::r,q,h=>by
   show (ygq p q||ynT r q)=true
   rcases List.mem_cons.1 h with rfl|h
   ·have:ygq q q=true:=by unfold ygq;rw[nbeq.2 rfl,nbeq.2 rfl];rfl
    rw[this];rfl
   ·rw[yh0 h,Bool.or_true]
theorem yfK:∀ {l:List (Nat×Nat)},yno l=true→l.Nodup
 | [],_=>List.nodup_nil
 | p::r,h=>by
   simp only[yno,Bool.and_eq_true,Bool.not_eq_true'] at h
   refine List.nodup_cons.2 ⟨fun hm=> ?_,yfK h.2⟩
   rw[yh0 hm] at h;cases h.1
theorem ycc:∀ {m:List (Nat×Option (Nat×Nat))} {s:Nat} {k:Nat×Nat},lkA m s=some (some k)→k∈plsR m
 | [],_,_,h=>by cases h
 | (t,x)::r,s,k,h=>by
   rw[yde] at h
   split at h
   ·cases h;simp[plsR]
   ·have:=ycc h
    cases x with
    |none=>exact this
    |some q=>exact List.mem_cons_of_mem _ this
theorem ye6:∀ {m:List (Nat×Option (Nat×Nat))} {s s':Nat} {k:Nat×Nat},(plsR m).Nodup→lkA m s=some (some k)→lkA m s'=some (some k)→s=s'
 | [],_,_,_,_,h,_=>by cases h
 | (t,x)::r,s,s',k,hn,h,h'=>by
   rw[yde] at h h'
   cases x with
   | none=>
     split at h
     ·cases h
     ·split at h'
      ·cases h'
      ·exact ye6 (m:=r) hn h h'
   | some q=>
     have hn':=List.nodup_cons.1 (show (q::plsR r).Nodup from hn)
     split at h
     ·rename_i e1
      split at h'
      ·rename_i e2;simp only at e1 e2;rw[<-e1,<-e2]
      ·cases h;exact absurd (ycc h') hn'.1
     ·split at h'
      ·cases h';exact absurd (ycc h) hn'.1
      ·exact ye6 hn'.2 h h'
theorem yb9:∀ {m:List (Nat×(Nat×Nat))} {s:Nat} {k:Nat×Nat},lkA m s=some k→k∈m.map (·.2)
 | [],_,_,h=>by cases h
 | (t,x)::r,s,k,h=>by
   rw[yde] at h
   split at h
   ·cases h;simp
   ·exact List.mem_cons_of_mem _ (yb9 h)
theorem yfI:∀ {m:List (Nat×(Nat×Nat))} {s s':Nat} {k:Nat×Nat},(m.map (·.2)).Nodup→lkA m s=some k→lkA m s'=some k→s=s'
 | [],_,_,_,_,h,_=>by cases h
 | (t,x)::r,s,s',k,hn,h,h'=>by
   rw[yde] at h h'
   have hn':=List.nodup_cons.1 (show (x::r.map (·.2)).Nodup from hn)
   split at h
   ·rename_i e1
    split at h'
    ·rename_i e2;simp only at e1 e2;rw[<-e1,<-e2]
    ·cases h;exact absurd (yb9 h') hn'.1
   ·split at h'
    ·cases h';exact absurd (yb9 h) hn'.1
    ·exact yfI hn'.2 h h'
theorem ycq {α:Type} {m:List (Nat×α)} {s:Nat} {x:α} {f:Nat×α→Bool} (h:lkA m s=some x) (ha:m.all f=true):f (s,x)=true:=by
 induction m with
 |nil=>cases h
 | cons q m ih=>
   rw[yde] at h
   simp only[List.all_cons,Bool.and_eq_true] at ha
   split at h
   ·rename_i e;cases h;subst e;exact ha.1
   ·exact ih h ha.2
theorem ysV (hB:ybR B) (hC:CxOk P C) (hx:ExtR rg ts.rg) {τ:Tm} {env:List (DV K)} (h:rdT C τ ts=some env) (hh:List RS) (hR:∀H n,R ts.h H n→R hh H n):REt P C R B N ts (bdT C τ rg hh env):=by
 intro χ ds hk hγ
 unfold rdT at h
 split at h
 rotate_left
 ·cases h
 rename_i a m1 h1
 split at h
 rotate_left
 ·cases h
 rename_i b M h2
 split at h
 rotate_left
 ·cases h
 rename_i c h3 h4
 cases h
 simp only[Bool.and_eq_true] at h4
 obtain ⟨⟨hnod,hdom⟩,hfixM⟩:=h4
 simp only[fixM,Bool.and_eq_true] at hfixM
 simp only[ylW,Bool.and_eq_true] at hdom
 obtain ⟨⟨hdb,hdr⟩,hdis⟩:=hdom
 have hnod:=yfK hnod
 obtain ⟨nr,nb,ndis⟩:=List.nodup_append.1 hnod
 let ρ:Nat→Option (Nat×Nat):=fun s=>match lkA M.b s with
  |some k=>some k
  | none=>match lkA M.r s with
    |some (some k)=>if χ k.1 k.2=true then none else some k
    |_=>none
 let ξ:Nat→Bool:=fun s=>match lkA M.b s with
  |some _=>false
  | none=>match lkA M.r s with
    |some none=>true
    |some (some k)=>χ k.1 k.2
    |none=>false
 obtain ⟨rb,gb1,gb2⟩:=ykC τ.rw c h3|>fun x=>(⟨rfl,x.1,x.2⟩:(bdR τ.rw c=bdR τ.rw c)/\_/\_)
 have hbname:∀s k,lkA M.b s=some k->τ.bx.any (fun q=>Nat.beq q.1 s)=true:=fun s k hs=>ycq hs hdb
 have hrname:∀s k,lkA M.r s=some k->τ.rw.any (fun q=>Nat.beq q.1 s)=true:=fun s k hs=>ycq hs hdr
 have hapart:∀s,τ.bx.any (fun q=>Nat.beq q.1 s)=true→τ.rw.any (fun q=>Nat.beq q.1 s)=true→False:=by
  intro s q1 q2
  obtain ⟨x,hx1,hx2⟩:=List.any_eq_true.1 q1
  obtain ⟨y,hy1,hy2⟩:=List.any_eq_true.1 q2
  have:=List.all_eq_true.1 (List.all_eq_true.1 hdis x hx1) y hy1
  rw[nbeq.1 hx2,nbeq.1 hy2,nbeq.2 rfl] at this;cases this
 have hbr:∀s k k',lkA M.b s=some k->lkA M.r s=some k'->False:=fun s k k' q1 q2=>hapart s (hbname s k q1) (hrname s k' q2)
 have hρb:∀s k,lkA M.b s=some k→ρ s=some k:=by
  intro s k hs
  show (match lkA M.b s with|some k=>some k|none=>_)=_
  rw[hs]
 have hρr:∀s k,lkA M.r s=some (some k)→ρ s=(if χ k.1 k.2=true then none else some k)∧ξ s=χ k.1 k.2:=by
  intro s k hs
  have hn:lkA M.b s=none:=by
   cases hq:lkA M.b s with
   |none=>rfl
   |some k'=>exact (hbr s k' _ hq hs).elim
  constructor
  ·show (match lkA M.b s with|some k=>some k|none=>match lkA M.r s with|some (some k)=>if χ k.1 k.2=true then none else some k|_=>none)=_
   rw[hn,hs]
  ·show (match lkA M.b s with|some _=>false|none=>match lkA M.r s with|some none=>true|some (some k)=>χ k.1 k.2|none=>false)=_
   rw[hn,hs]
 have hξn:∀s,lkA M.r s=some none→ρ s=none∧ξ s=true:=by
  intro s hs
  have hn:lkA M.b s=none:=by
   cases hq:lkA M.b s with
   |none=>rfl
   |some k'=>exact (hbr s k' _ hq hs).elim
  constructor
  ·show (match lkA M.b s with|some k=>some k|none=>match lkA M.r s with|some (some k)=>if χ k.1 k.2=true then none else some k|_=>none)=_
   rw[hn,hs]
  ·show (match lkA M.b s with|some _=>false|none=>match lkA M.r s with|some none=>true|some (some k)=>χ k.1 k.2|none=>false)=_
   rw[hn,hs]
 have hρi:∀s k,ρ s=some k→(lkA M.b s=some k)∨(lkA M.r s=some (some k)∧χ k.1 k.2=false):=by
  intro s k hs
  have hs':(match lkA M.b s with|some k=>some k|none=>match lkA M.r s with|some (some k)=>if χ k.1 k.2=true then none else some k|_=>none)=some k:=hs
  split at hs'
  ·rename_i k' e;cases hs';exact .inl e
  ·split at hs'
   ·rename_i k' e
    split at hs'
    ·cases hs'
    ·rename_i hx';cases hs';exact .inr ⟨e,by simpa using hx'⟩
   ·cases hs'
 let tsS:TS K:=bdT C τ rg hh (a++b++c)
 obtain ⟨sub1,t1⟩:=yl3 (P:=P) (ts1:=tsS) (χ:=χ) (ξ:=ξ) (ρ:=ρ) (ds:=ds) (p:=fun _=>False) hC hx τ.ks ⟨yox τ.rw,yn3 τ.bx⟩ m1 a h1
 obtain ⟨sub2,t2⟩:=yiD (P:=P) (ts1:=tsS) (χ:=χ) (ξ:=ξ) (ρ:=ρ) (ds:=ds) (p:=fun _=>False) hC hx τ.bx m1 M b h2
 obtain ⟨fr1,e1,f1⟩:=t1 (b++c)
 obtain ⟨od1,e2,g2,f2⟩:=t2 c
 have hS:tsS=⟨fr1,od1++bdR τ.rw c,[],rg,hh⟩:=by
  show bdT C τ rg hh (a++b++c)=_
  unfold bdT
  rw[List.append_assoc,e1]
  simp only
  rw[e2]
 have hlk:∀s,lkB tsS.od s=if memB od1 s=true then lkB od1 s else lkB (bdR τ.rw c) s:=by
  intro s;rw[hS];exact yjp _ _ s
 have hrowlk:∀s,τ.rw.any (fun q=>Nat.beq q.1 s)=true→lkB tsS.od s=lkB (bdR τ.rw c) s:=by
  intro s hs
  rw[hlk,if_neg]
  intro hm
  rw[g2] at hm
  exact hapart s hm hs
 have hGood:Good (rg:=rg) ts tsS χ ξ ρ M:=by
  refine ⟨?_,?_,?_,hρb,by rw[hS]⟩
  ·intro s k hs n hn
   obtain ⟨r1,r2⟩:=hρr s k hs
   have hnm:=hrname s _ hs
   obtain ⟨e,⟨q1,_⟩|⟨q,l',q1,q2,q3⟩⟩:=gb2 s (by rw[gb1];exact hnm)
   ·rw[hs] at q1;cases q1
   ·rw[hs] at q1;cases q1
    refine ⟨?_,fun hx'=>⟨by rw[r1,hx'];rfl,by rw[r2,hx']⟩,fun hx'=>by rw[r2,hx']⟩
    show tln (lkB tsS.od s)=_
    rw[hrowlk s hnm,q3]
    rw[(hγ.trow hC q2).1] at hn
    exact hn
  ·intro s k hs
   obtain ⟨e,⟨q1,_⟩|⟨q,l',q1,q2,q3⟩⟩:=gb2 s (by rw[gb1];exact hrname s _ hs)
   ·rw[hs] at q1;cases q1
   ·rw[hs] at q1;cases q1
    exact ⟨_,(hγ.trow hC q2).1⟩
  ·intro s hs
   obtain ⟨r1,r2⟩:=hξn s hs
   refine ⟨?_,r2⟩
   have hnm:=hrname s _ hs
   obtain ⟨e,⟨q1,q3⟩|⟨q,l',q1,q2,q3⟩⟩:=gb2 s (by rw[gb1];exact hnm)
   ·show tln (lkB tsS.od s)=_
    rw[hrowlk s hnm,q3];rfl
   ·rw[hs] at q1;cases q1
 have hlv:∀s b1,2000000≤s→lkB tsS.od s=some b1→R.L s=ξ s:=by
  intro s b1 h2 e9
  have hbl:Nat.ble 2000000 s=true:=Nat.ble_eq_true_of_le h2
  rw[hlk] at e9
  by_cases hm:memB od1 s=true
  ·obtain ⟨q,b,b1,q1,q2,qx,_⟩:=f2 s hm
   have h8:=ycq q1 hfixM.1
   simp only[hbl,Bool.not_true,Bool.false_or] at h8
   have:=ydX h8
   subst this
   have h7:ξ s=false:=by
    show (match lkA M.b s with|some _=>false|none=>match lkA M.r s with|some none=>true|some (some k)=>χ k.1 k.2|none=>false)=_
    rw[q1]
   rw[h7]
   exact (hγ.lv s _ h2 q2).trans (hγ.bx q2 qx)
  ·rw[if_neg hm] at e9
   obtain ⟨e,⟨q1,_⟩|⟨q,l',q1,q2,q3⟩⟩:=gb2 s (ydH e9)
   ·have h8:=ycq q1 hfixM.2
    simp[hbl] at h8
   ·have h8:=ycq q1 hfixM.2
    simp only[hbl,Bool.not_true,Bool.false_or] at h8
    have:=ydX h8
    subst this
    rw[(hρr s _ q1).2]
    have h6:=(hγ.trow hC q2).1
    cases hq:ts.tb s 1 with
    |none=>rw[hq] at h6;cases h6
    |some b=>exact hγ.lv s b h2 hq
 refine yqD hB hγ hk ρ (fun _=>False) ξ tsS (by rw[hS]) (fun H n=>hR H n) ?_ ?_ ?_ hlv ?_ ?_ (fun k h=>h.elim) hC ?_ (fun ks h1 h2=>⟨h1,_,h2⟩)
 ·intro s k hs
  rcases hρi s k hs with hb|⟨hr,hx'⟩
  ·have hm:memB od1 s=true:=by rw[g2];exact hbname s k hb
   obtain ⟨q,b,b1,q1,q2,qx,q3,q4⟩:=f2 s hm
   rw[hb] at q1;cases q1
   exact ⟨hγ.bx q2 qx,_,_,q2,by rw[hlk,if_pos hm];exact q3,q4 hGood⟩
  ·have hnm:=hrname s _ hr
   obtain ⟨e,⟨q1,_⟩|⟨q,l',q1,q2,q3⟩⟩:=gb2 s (by rw[gb1];exact hnm)
   ·rw[hr] at q1;cases q1
   ·rw[hr] at q1;cases q1
    refine ⟨hx',?_⟩
    have q3':lkB tsS.od s=some (.row e l'):=by rw[hrowlk s hnm];exact q3
    unfold trow at q2
    split at q2
    ·rename_i e' l0 hb
     obtain ⟨rfl,rfl⟩:=yck q2
     exact ⟨_,_,hb,q3',BM.row⟩
    ·rename_i e' n cs hb
     split at q2
     ·rename_i he
      have:=nbeq.1 he;subst this
      exact ⟨_,_,hb,q3',BM.lr hC q2⟩
     ·cases q2
    ·cases q2
 ·intro s b1 hs hxx
  rw[hlk] at hs
  by_cases hm:memB od1 s=true
  ·obtain ⟨q,b0,b2,q1,_⟩:=f2 s hm
   exact ⟨q,hρb s q q1⟩
  ·rw[if_neg hm] at hs
   have hm2:=ydH hs
   obtain ⟨e,⟨q1,_⟩|⟨q,l',q1,q2,q3⟩⟩:=gb2 s hm2
   ·rw[(hξn s q1).2] at hxx;cases hxx
   ·obtain ⟨r1,r2⟩:=hρr s q q1
    rw[r2] at hxx
    exact ⟨q,by rw[r1,hxx];rfl⟩
 ·intro s hs
  have hs':(match lkA M.b s with|some _=>false|none=>match lkA M.r s with|some none=>true|some (some k)=>χ k.1 k.2|none=>false)=true:=hs
  split at hs'
  ·cases hs'
  ·split at hs'
   ·rename_i hr
    obtain ⟨r1,r2⟩:=hξn s hr
    refine ⟨r1,?_⟩
    have hnm:=hrname s _ hr
    obtain ⟨e,⟨q1,q3⟩|⟨q,l',q1,q2,q3⟩⟩:=gb2 s (by rw[gb1];exact hnm)
    ·exact ⟨e,by rw[hrowlk s hnm];exact q3⟩
    ·rw[hr] at q1;cases q1
   ·rename_i k hr
    obtain ⟨r1,r2⟩:=hρr s k hr
    refine ⟨by rw[r1,if_pos hs'],?_⟩
    have hnm:=hrname s _ hr
    obtain ⟨e,⟨q1,q3⟩|⟨q,l',q1,q2,q3⟩⟩:=gb2 s (by rw[gb1];exact hnm)
    ·rw[hr] at q1;cases q1
    ·rw[hr] at q1;cases q1
     have:=(hγ.trow hC q2).2.1 hs'
     subst this
     exact ⟨e,by rw[hrowlk s hnm];exact q3⟩
   ·cases hs'
 ·intro s k h2 hs
  have hbl:Nat.ble 2000000 s=true:=Nat.ble_eq_true_of_le h2
  rcases hρi s k hs with q1|⟨q1,_⟩
  ·have:=ycq q1 hfixM.1
   simp only[hbl,Bool.not_true,Bool.false_or] at this
   exact ydX this
  ·have:=ycq q1 hfixM.2
   simp only[hbl,Bool.not_true,Bool.false_or] at this
   exact ydX this
 ·intro s s' k hs hs'
  rcases hρi s k hs with q1|⟨q1,_⟩<;>rcases hρi s' k hs' with q2|⟨q2,_⟩
  ·exact yfI nb q1 q2
  ·exact absurd rfl (ndis k (ycc q2) k (yb9 q1))
  ·exact absurd rfl (ndis k (ycc q1) k (yb9 q2))
  ·exact ye6 nr q1 q2
 ·intro t
  have:=f1 (hGood.sub sub2) t
  rw[hS];rw[hS] at this
  exact this
end
end Go.AV
end
noncomputable section
namespace Go.AV
open Go.RowKit Go.RG Go.Lib
variable {K:Nat->Type}
section
variable {P:Program} {C:Cx K} {R:RR K} {ts ts1:TS K} {χ:Nat->Nat->Bool} {ds:DS} {B:Base} [GB P B] {N:Nat} {ro:Option Nat}
theorem ygu (hC:CxOk P C) (t:Nat) (x:K t):TR P C ts χ (inV C t x) (eV C t x)∧(eV C t x).noL=true∧dwk (eV C t x)=eV C t x:=by
 obtain ⟨c1,c2⟩:=hC.c t x ts χ
 have hno:=(C.E t).no x
 have hdw:=hC.dw t x
 unfold inV eV
 cases hg:(C.T t).g with
 |true=>exact ⟨.agg _ _ c1 c2,hno,by simp only[dwk,hdw]⟩
 | false =>
   have hl:=(C.E t).len x
   rw[hC.g t hg] at hl
   cases he:(C.E t).c x with
   |nil=>rw[he] at hl;cases hl
   | cons a r=>
     cases r with
     |cons b r=>rw[he] at hl;simp at hl
     | nil=>
       rw[he] at c1 c2 hno hdw
       simp only[noLs,Bool.and_true] at hno
       simp only[dwks,List.cons.injEq,and_true] at hdw
       cases hc:(C.T t).c x with
       |nil=>rw[hc] at c1;simp at c1
       | cons u r=>cases r with
         |cons b r=>rw[hc] at c1;simp at c1
         |nil=>rw[hc] at c2;exact ⟨c2 0 u a rfl rfl,hno,hdw⟩
mutual
theorem ys2:∀(u:TV K) (v:AV),yaE u=true→TR P C ts χ u v→dwk v=tAV C u
 | .un,v,h,_=>by simp[yaE] at h
 | .lb b,v,_,t=>by rw[t.lbi];rfl
 | .bl b,v,_,t=>by rw[t.bli];rfl
 | .li k n,v,_,t=>by rw[t.int (k:=k) (n:=n) rfl];rfl
 | .it k n,v,_,t=>by rw[t.int (k:=k) (n:=n) rfl];rfl
 | .st s,v,_,t=>by rw[t.str];rfl
 | .agg us,v,h,t=>by
   obtain ⟨vs,rfl,a,b⟩:=t.agg'
   simp only[yaE] at h
   simp only[dwk,tAV,yeB us vs h ⟨a,b⟩]
 | .tup us,v,h,t=>by
   obtain ⟨vs,rfl,a,b⟩:=t.tup'
   simp only[yaE] at h
   simp only[dwk,tAV,yeB us vs h ⟨a,b⟩]
 | .nil,v,_,t=>by cases t;rfl
 | .em,v,_,t=>by cases t;rfl
 | .sl e l,v,_,t=>by
   obtain ⟨z,xs,hx,rfl⟩:=t.sli
   simp only[dwk,hx,tAV,slA]
 | .rw s c,v,h,_=>by simp[yaE] at h
 | .px s c o,v,h,_=>by simp[yaE] at h
 | .pr e s c i o,v,h,_=>by simp[yaE] at h
 | .ep e l i o,v,_,t=>by
   obtain ⟨xs,hx,rfl⟩:=t.epi
   simp only[dwk,hx,tAV]
 | .gs l i,v,_,t=>by
   obtain ⟨xs,hx,rfl⟩:=t.gsi
   simp only[dwk,hx,tAV]
 | .nptr,v,_,t=>by cases t;rfl
 | .fn f a c,v,h,t=>by
   simp only[yaE,Bool.and_eq_true] at h
   cases t with
   |fn _ _ _ a' c' ha hc h1 h2=>simp only[dwk,tAV,yeB a a' h.1 ⟨ha,h1⟩,yeB c c' h.2 ⟨hc,h2⟩]
 | .fv ps rs F,v,_,t=>by cases t with|fv _ _ _ _ h hv=>exact hv
 | .yl r,v,_,t=>by cases t;rfl
 | .cn id v',v,h,_=>by simp[yaE] at h
theorem yeB:∀(us:List (TV K)) (vs:List AV),yaQ us=true→TL P C ts χ us vs→dwks vs=tAVs C us
 | [],vs,_,t=>by
   have:vs= []:=List.eq_nil_of_length_eq_zero t.1
   subst this;rfl
 | u ::us,vs,h,t=>by
   cases vs with
   |nil=>simp[TL] at t
   | cons v vs=>
     simp only[yaQ,Bool.and_eq_true] at h
     simp only[dwks,tAVs,ys2 u v h.1 t.head.1,yeB us vs h.2 t.head.2]
end
theorem yjx (hC:CxOk P C) {pd:PD} {u:TV K} {v:AV} {x:AD K} (h:out1 C pd u=some x) (hv:TR P C ts χ u v):v.noL=true∧dwk v=penc C pd x∧∃y,x= .d y:=by
 cases pd with
 | v t=>
   simp only[out1] at h
   split at h
   ·rename_i y e
    cases h
    obtain ⟨a1,a2,_⟩:=yg7 hC e hv
    exact ⟨a2,a1,_,rfl⟩
   ·cases h
 | p t=>
   simp only[out1] at h
   split at h
   ·rename_i e x' eu
    split at h
    ·rename_i he
     subst he
     cases h
     have:=hv.s
     rw[eu] at this
     obtain ⟨xs,hx,rfl⟩:=this.epi
     refine ⟨rfl,?_,_,rfl⟩
     simp only[dwk,hx,penc,dif_pos,cl,List.flatMap_cons,List.flatMap_nil,List.append_nil]
     simp
    ·cases h
   ·cases h
 |f ps rs=>simp only[out1] at h;cases h
theorem yho (hC:CxOk P C):∀(ps:List PD) (us:List (TV K)) (vs:List AV) (xs:List (AD K)),outD C ps us=some xs→TL P C ts χ us vs→noLs vs=true∧dwks vs=yco C ps xs∧xs.length=ps.length∧(∀x∈xs,∃y,x= .d y)
 | [],[],vs,xs,h,t=>by
   cases h
   have:vs= []:=List.eq_nil_of_length_eq_zero t.1
   subst this;exact ⟨rfl,rfl,rfl,fun x hx=>by cases hx⟩
 | p ::ps,u::us,vs,xs,h,t=>by
   cases vs with
   |nil=>simp[TL] at t
   | cons v vs=>
     simp only[outD] at h
     split at h
     ·rename_i x r h1 h2
      cases h
      obtain ⟨a1,a2,a3⟩:=yjx hC h1 t.head.1
      obtain ⟨b1,b2,b3,b4⟩:=yho hC ps us vs r h2 t.head.2
      refine ⟨by simp[noLs,a1,b1],by simp only[dwks,yco,a2,b2],by simp[b3],fun x hx=> ?_⟩
      rcases List.mem_cons.1 hx with rfl|hx
      ·exact a3
      ·exact b4 x hx
     ·cases h
 | [],_::_,_,_,h,_=>by simp[outD] at h
 |_::_,[],_,_,h,_=>by simp[outD] at h
theorem ygw (C:Cx K):∀(ps qs:List PD) (xs ys:List (AD K)),xs.length=ps.length→yco C (ps++qs) (xs++ys)=yco C ps xs++yco C qs ys
 | [],qs,xs,ys,h=>by
   have:xs= []:=List.eq_nil_of_length_eq_zero h
   subst this;rfl
 | p::ps,qs,xs,ys,h=>by
   cases xs with
   |nil=>simp at h
   |cons x xs=>simp only[List.cons_append,yco];rw[ygw C ps qs xs ys (by simpa using h)]
theorem ylP (C:Cx K):∀(ps:List PD) (e:List (DV K)),allV ps=true→e.length=ps.length→yco C ps (e.map .d)=e.map (dvA C)
 | [],[],_,_=>rfl
 | [],_::_,_,h=>by simp at h
 |p::ps,[],_,h=>by simp at h
 | p::ps,y::e,h,hl=>by
   cases p with
   |v t=>simp only[List.map_cons,yco];rw[ylP C ps e h (by simpa using hl)];rfl
   |p t=>cases h
   |f a b=>cases h
def SsOk (P:Program) (C:Cx K) (Φ:List (Sp K)):Prop:=∀sp∈Φ,SpOk P C sp
theorem ypm {Φ:List (Sp K)} {f:Nat} {sp:Sp K} (h:lkS Φ f=some sp):sp∈Φ∧sp.f=f:=by
 induction Φ with
 |nil=>cases h
 | cons q Φ ih=>
   simp only[lkS] at h
   split at h
   ·rename_i e;cases h;exact ⟨List.mem_cons_self,nbeq.1 e⟩
   ·exact ⟨List.mem_cons_of_mem _ (ih h).1,(ih h).2⟩
theorem yfU (hC:CxOk P C) {Φ:List (Sp K)} (hS:SsOk P C Φ) {pd:PD} {u:TV K} {v:AV} {x:AD K} (h:ynM C Φ pd u=some x) (hv:TR P C ts χ u v):v.noL=true∧dwk v=penc C pd x∧∀F,x= .f F→FOk P C F:=by
 have data:out1 C pd u=some x→v.noL=true∧dwk v=penc C pd x∧∀F,x= .f F→FOk P C F:=by
  intro h
  obtain ⟨a,b,y,rfl⟩:=yjx hC h hv
  exact ⟨a,b,fun F e=>by cases e⟩
 cases pd with
 |v t=>exact data h
 |p t=>exact data h
 | f ps rs =>
   simp only[ynM] at h
   have hs:=hv.s
   split at h
   ·rename_i ps' rs' F e
    cases h
    rw[e] at hs
    cases hs with
    |fv _ _ _ _ hF hv'=>exact ⟨by rw[<-ydk,hv'];exact hF.1,hv',fun F' e=>by cases e;exact hF⟩
   ·rename_i f a c e
    rw[e] at hs
    split at h
    ·rename_i sp hsp
     obtain ⟨hmem,hf⟩:=ypm hsp
     split at h
     ·rename_i xa xc ho
      split at h
      ·rename_i hall
       cases h
       simp only[Bool.and_eq_true] at hall
       obtain ⟨⟨hall,hna⟩,hnc⟩:=hall
       unfold ysw at ho
       split at ho
       ·rename_i xa' xc' h1 h2
        cases ho
        cases hs with
        | fn _ _ _ a' c' ha hc t1 t2=>
          have ta:TL P C ts χ a a':=⟨ha,t1⟩
          have tc:TL P C ts χ c c':=⟨hc,t2⟩
          obtain ⟨p1,p2,p3,p4⟩:=yho hC _ a a' xa h1 ta
          obtain ⟨q1,q2,q3,q4⟩:=yho hC _ c c' xc h2 tc
          have ea:=yeB a a' hna ta
          have ec:=yeB c c' hnc tc
          have hdv:dwk (.fn (.func f) a' c')= .fn (.func f) (tAVs C a) (tAVs C c):=by simp only[dwk,ea,ec]
          refine ⟨by simp[AV.noL,p1,q1],hdv,fun F e=> ?_⟩
          cases e
          refine ⟨?_,?_,rfl,f,tAVs C a,tAVs C c,rfl,fun en r hW=> ?_⟩
          ·rw[<-hdv,ydk];simp[AV.noL,p1,q1]
          ·rw[<-hdv,yhj]
          ·simp only at hW
           split at hW
           ·rename_i hlen
            have hlen:=nbeq.1 hlen
            obtain ⟨hl,hP⟩:=hS sp hmem _ _ (fun F hF=>by
             rcases List.mem_append.1 hF with hF|hF
             ·rcases List.mem_append.1 hF with hF|hF
              ·obtain ⟨y,hy⟩:=p4 _ hF;cases hy
              ·obtain ⟨y,_,hy⟩:=List.mem_map.1 hF;cases hy
             ·obtain ⟨y,hy⟩:=q4 _ hF;cases hy) hW
            rw[hf] at hP
            have hps:sp.ps=sp.ps.take a.length++((sp.ps.drop a.length).take ps.length++sp.ps.drop (a.length+ps.length)):=by
             rw[<-List.drop_drop,List.take_append_drop,List.take_append_drop]
            simp only[List.length_append,List.length_map] at hl
            have hal:(sp.ps.take a.length).length=xa.length:=p3.symm
            have hml:((sp.ps.drop a.length).take ps.length).length=ps.length:=by
             rw[q3,p3] at hl
             simp only[List.length_take,List.length_drop] at hl⊢
             omega
            rw[hps,List.append_assoc,ygw C _ _ _ _ p3,ygw C _ _ _ _ (by simp[hlen,hml]),<-p2,<-q2,ea,ec,ylP C _ _ hall (by rw[hml,hlen]),<-List.append_assoc] at hP
            exact hP
           ·exact hW.elim
       ·cases ho
      ·cases h
     ·cases h
    ·cases h
   ·cases h
theorem yjq (hC:CxOk P C) {Φ:List (Sp K)} (hS:SsOk P C Φ):∀(ps:List PD) (us:List (TV K)) (vs:List AV) (xs:List (AD K)),outA C Φ ps us=some xs→TL P C ts χ us vs→noLs vs=true∧dwks vs=yco C ps xs∧∀F,AD.f F∈xs→FOk P C F
 | [],[],vs,xs,h,t=>by
   cases h
   have:vs= []:=List.eq_nil_of_length_eq_zero t.1
   subst this;exact ⟨rfl,rfl,fun F hF=>by cases hF⟩
 | p ::ps,u::us,vs,xs,h,t=>by
   cases vs with
   |nil=>simp[TL] at t
   | cons v vs=>
     simp only[outA] at h
     split at h
     ·rename_i x r h1 h2
      cases h
      obtain ⟨a1,a2,a3⟩:=yfU hC hS h1 t.head.1
      obtain ⟨b1,b2,b3⟩:=yjq hC hS ps us vs r h2 t.head.2
      refine ⟨by simp[noLs,a1,b1],by simp only[dwks,yco,a2,b2],fun F hF=> ?_⟩
      rcases List.mem_cons.1 hF with e|hF
      ·exact a3 F e.symm
      ·exact b3 F hF
     ·cases h
 | [],_::_,_,_,h,_=>by simp[outA] at h
 |_::_,[],_,_,h,_=>by simp[outA] at h
structure Kil (ts ts':TS K) (χ χ':Nat→Nat→Bool):Prop where
 m:Mono ts ts' χ χ'
 d:∀s c,tln (ts.tb s c)=none->χ s c=false->tln (ts'.tb s c)=none/\χ' s c=false
theorem Kil.refl {ts:TS K} {χ:Nat->Nat->Bool}:Kil ts ts χ χ:=⟨.refl,fun _ _ a b=>⟨a,b⟩⟩
theorem Kil.trans {ts ts' ts'':TS K} {χ χ' χ'':Nat->Nat->Bool} (h:Kil ts ts' χ χ') (k:Kil ts' ts'' χ' χ''):Kil ts ts'' χ χ'':=⟨h.m.trans k.m k.d,fun s c a b=>k.d s c (h.d s c a b).1 (h.d s c a b).2⟩
theorem Kil.one {ts:TS K} {χ:Nat→Nat→Bool} {s c:Nat} (hc:c=1∨c=2):Kil ts (ts.setb s c none) χ (updχ χ s c false):=by
 refine ⟨Mono.setb hc (fun _=> .inl ⟨rfl,rfl⟩),fun s' c' a b=> ?_⟩
 rw[ybi ts s c none hc]
 unfold updχ
 by_cases e:s'=s/\c'=c
 ·rw[if_pos e,if_pos e];exact ⟨rfl,rfl⟩
 ·rw[if_neg e,if_neg e];exact ⟨a,b⟩
theorem yjZ (hC:CxOk P C) {Φ:List (Sp K)} (hS:SsOk P C Φ):∀(ps:List PD) (us:List (TV K)) (xs:List (AD K)),outA C Φ ps us=some xs→∀u∈us,∀(ts:TS K) (χ:Nat→Nat→Bool) (v:AV),TR P C ts χ u v→v.noL=true
 | [],[],_,_,u,hu,_,_,_,_=>by cases hu
 | p::ps,w::us,xs,h,u,hu,ts,χ,v,hv=>by
   simp only[outA] at h
   split at h
   ·rename_i x r h1 h2
    rcases List.mem_cons.1 hu with rfl|hu
    ·exact (yfU hC hS h1 hv).1
    ·exact yjZ hC hS ps us r h2 u hu ts χ v hv
   ·cases h
 | [],_::_,_,h,_,_,_,_,_,_=>by simp[outA] at h
 |_::_,[],_,h,_,_,_,_,_,_=>by simp[outA] at h
theorem yki (hC:CxOk P C):∀(ps:List PD) (us:List (TV K)) (xs:List (AD K)),outD C ps us=some xs→∀u∈us,∀(ts:TS K) (χ:Nat→Nat→Bool) (v:AV),TR P C ts χ u v→v.noL=true
 | [],[],_,_,u,hu,_,_,_,_=>by cases hu
 | p::ps,w::us,xs,h,u,hu,ts,χ,v,hv=>by
   simp only[outD] at h
   split at h
   ·rename_i x r h1 h2
    rcases List.mem_cons.1 hu with rfl|hu
    ·exact (yjx hC h1 hv).1
    ·exact yki hC ps us r h2 u hu ts χ v hv
   ·cases h
 | [],_::_,_,h,_,_,_,_,_,_=>by simp[outD] at h
 |_::_,[],_,h,_,_,_,_,_,_=>by simp[outD] at h
theorem yeQ (hC:CxOk P C):∀(us:List (TV K)) (vs:List AV) (ts:TS K) (χ:Nat→Nat→Bool) (ds:DS) (ws:List (TV K)) (ts':TS K),DOk ds→GM P C R ts χ ds→TL P C ts χ us vs→yi3 C ts us=some (ws,ts')→(∀w∈ws,∀(ts:TS K) (χ:Nat→Nat→Bool) (v:AV),TR P C ts χ w v→v.noL=true)→
  ∃vs' kl ds1 χ',ydg vs ds=some (vs',kl,ds1)/\noLs vs'=true/\TL P C ts' χ' ws vs'/\GM P C R ts' χ' ds1/\DOk ds1/\ts'.rg=ts.rg/\Kil ts ts' χ χ'/\(∀k∈kl,∃u∈us,u.s= .rw k.1 k.2)
 | [],vs,ts,χ,ds,ws,ts',hk,hγ,t,h,hn=>by
   cases h
   have:vs= []:=List.eq_nil_of_length_eq_zero t.1
   subst this
   exact ⟨[],[],ds,χ,rfl,rfl, .nil,hγ,hk,rfl, .refl,fun k hk=>by cases hk⟩
 | u :: us,vs,ts,χ,ds,ws,ts',hk,hγ,t,h,hn=>by
   cases vs with
   |nil=>simp[TL] at t
   | cons v vs=>
     have quiet:∀ {ws2:List (TV K)},yi3 C ts us=some (ws2,ts')→ws=u::ws2→∃vs' kl ds1 χ',ydg (v::vs) ds=some (vs',kl,ds1)∧noLs vs'=true∧TL P C ts' χ' ws vs'∧GM P C R ts' χ' ds1∧DOk ds1∧ts'.rg=ts.rg∧Kil ts ts' χ χ'∧(∀k∈kl,∃u'∈u::us,u'.s= .rw k.1 k.2):=by
      intro ws2 h2 e
      subst e
      have hv:v.noL=true:=hn u List.mem_cons_self ts χ v t.head.1
      obtain ⟨vs',kl,ds1,χ',a1,a2,a3,a4,a5,a6,a7,a8⟩:=yeQ hC us vs ts χ ds ws2 ts' hk hγ t.head.2 h2 (fun w hw=>hn w (List.mem_cons_of_mem _ hw))
      refine ⟨v::vs',kl,ds1,χ',?_,by simp[noLs,hv,a2], .cons (t.head.1.mono a7.m) a3,a4,a5,a6,a7,fun k hk=> ?_⟩
      ·simp only[ydg,hv,a1]
      ·obtain ⟨u',h1,h2⟩:=a8 k hk;exact ⟨u',List.mem_cons_of_mem _ h1,h2⟩
     simp only[yi3] at h
     split at h
     ·rename_i s c eu
      split at h
      ·rename_i l hl
       split at h
       ·rename_i ws2 ts2 h2
        cases h
        have hs:=t.head.1.s
        rw[eu] at hs
        obtain ⟨g1,g2,g3⟩:=hγ.trow hC hl
        have hcc:c=1∨c=2:=(yij g1).imp id (·.1)
        rcases hs.rwi g1 with ⟨hχ,rfl⟩|⟨hχ,h0,rfl⟩
        ·obtain ⟨kb,k1,k2,k3,k4⟩:=g3 hχ
         have hγ1:=hγ.setb (s:=s) (c:=c) (b:=none) (kb:=none) hcc (Kil.one hcc).m (fun b' hb'=>by cases hb') (fun _ h9=>by cases h9)
         have hk1:DOk (ds.set s c none):=hk.set hcc (fun x hx=>by cases hx)
         obtain ⟨vs',kl,ds1,χ',a1,a2,a3,a4,a5,a6,a7,a8⟩:=yeQ hC us vs (ts.setb s c none) (updχ χ s c false) (ds.set s c none) ws2 ts' hk1 hγ1 (t.head.2.mono (Kil.one hcc).m) h2 (fun w hw=>hn w (List.mem_cons_of_mem _ hw))
         refine ⟨.sl false l.length kb.cells::vs',(s,c)::kl,ds1,χ',?_,by simp[noLs,AV.noL,a2], .cons (.sl _ l _ _ _ rfl k4) a3,a4,a5,by rw[a6,ybc],(Kil.one hcc).trans a7,fun k hk=> ?_⟩
         ·have hb:(Nat.beq kb.cells.length (l.length*kb.sz)&&(noLs kb.cells&&Nat.ble 1 kb.sz))=true:=by
           rw[Bool.and_eq_true,Bool.and_eq_true]
           exact ⟨nbeq.2 (by rw[k3,<-yaL kb.cells,k4,ydp]),yaO k4,Nat.ble_eq_true_of_le (by rw[k3];exact (C.E _).pos)⟩
          simp only[ydg,AV.noL,k1,hb,a1]
         ·rcases List.mem_cons.1 hk with rfl|hk
          ·exact ⟨u,List.mem_cons_self,eu⟩
          ·obtain ⟨u',h1,h2⟩:=a8 k hk;exact ⟨u',List.mem_cons_of_mem _ h1,h2⟩
        ·have hnil:=g2 hχ
         have hγ1:=hγ.kill (s:=s) (c:=c) hcc
         obtain ⟨vs',kl,ds1,χ',a1,a2,a3,a4,a5,a6,a7,a8⟩:=yeQ hC us vs (ts.setb s c none) (updχ χ s c false) ds ws2 ts' hk hγ1 (t.head.2.mono (Kil.one hcc).m) h2 (fun w hw=>hn w (List.mem_cons_of_mem _ hw))
         refine ⟨.sl true 0 []::vs',kl,ds1,χ',?_,by simp[noLs,AV.noL,a2], .cons (by rw[hnil];exact .sl _ [] _ _ _ rfl rfl) a3,a4,a5,by rw[a6,ybc],(Kil.one hcc).trans a7,fun k hk=> ?_⟩
         ·simp only[ydg,AV.noL,a1]
         ·obtain ⟨u',h1,h2⟩:=a8 k hk;exact ⟨u',List.mem_cons_of_mem _ h1,h2⟩
       ·cases h
      ·cases h
     ·rename_i hne
      split at h
      ·rename_i ws2 ts2 h2
       cases h
       exact quiet h2 rfl
      ·cases h
theorem yl1 (hC:CxOk P C):∀(rs:List Nat) (p:List (DV K)→List (TV K)→Prop),exR C rs p→∃r us,p r us∧noLs (r.map (dvA C))=true∧∀(ts:TS K) (χ:Nat→Nat→Bool),TL P C ts χ us (r.map (dvA C))
 | [],p,h=>⟨[],[],h,rfl,fun _ _=> .nil⟩
 | t::rs,p,h=>by
   obtain ⟨z,h⟩:=h
   obtain ⟨r,us,h1,h2,h3⟩:=yl1 hC rs _ h
   exact ⟨.v t z::r,inV C t z::us,h1,by simp only[List.map_cons,noLs,h2,Bool.and_true];exact (ygu (P:=P) (ts:=⟨[],[],[],[],[]⟩) (χ:=fun _ _=>false) hC t z).2.1,fun ts χ=> .cons (ygu hC t z).1 (h3 ts χ)⟩
theorem yhW {us:List (TV K)} {vs:List AV} (h:TL P C ts χ us vs):TR P C ts χ (tres us) (yb3 vs):=by
 match us,vs,h with
 | [],[],h=>exact .tup _ _ rfl (fun j u v h=>by simp at h)
 | [u],[v],h=>exact h.head.1
 |u::u'::us,v::v'::vs,h=>exact .tup _ _ h.1 h.2
 | [],_::_,h=>simp[TL] at h
 |_::_,[],h=>simp[TL] at h
 | [_],_::_::_,h=>simp[TL] at h
 |_::_::_,[_],h=>simp[TL] at h
theorem yfy {f:FuncId} {vs vs':List AV} {S:St} {S1:St} {v:AV} {k:AV→St→Prop} (hp:pubL vs S=(vs',S1)) (hn:noLs vs'=true) (hF:Pure P f (dwks vs') v) (h:k v S1):yj6 P (.f f) vs S k:=by
 unfold yj6
 rw[hp]
 refine ⟨hn,(yay.dwkA (hF S1.hp S1.nx)).mono ?_⟩
 rintro av H' n' ⟨rfl,rfl,rfl⟩
 rw[ylp]
 exact h
theorem yh2:∀(a:List AV) {vs vs':List AV} {ds d1:DS} {kl:List (Nat×Nat)},noLs a=true→ydg vs ds=some (vs',kl,d1)→ydg (a++vs) ds=some (a++vs',kl,d1)
 | [],_,_,_,_,_,_,h=>h
 | x::a,vs,vs',ds,d1,kl,hn,h=>by
   simp only[noLs,Bool.and_eq_true] at hn
   simp only[List.cons_append,ydg,hn.1,yh2 a hn.2 h]
theorem yh1:∀(a:List AV) (ds:DS),noLs a=true→ydg a ds=some (a,[],ds)
 | [],_,_=>rfl
 | x::a,ds,hn=>by
   simp only[noLs,Bool.and_eq_true] at hn
   simp only[ydg,hn.1,yh1 a ds hn.2]
theorem yfm:∀(vs:List AV) {c vs':List AV} {ds d1:DS} {kl:List (Nat×Nat)},noLs c=true→ydg vs ds=some (vs',kl,d1)→ydg (vs++c) ds=some (vs'++c,kl,d1)
 | [],c,vs',ds,d1,kl,hn,h=>by cases h;exact yh1 c _ hn
 | x ::vs,c,vs',ds,d1,kl,hn,h=>by
   simp only[List.cons_append,ydg] at h⊢
   split at h
   ·split at h
    ·rename_i h1;cases h;simp only[yfm vs hn h1,List.cons_append]
    ·cases h
   ·split at h
    ·split at h
     ·split at h
      ·split at h
       ·rename_i hkb _ hb _ _ _ _ h1;cases h;simp only[yfm vs hn h1,hb,hkb,List.cons_append]
       ·cases h
      ·cases h
     ·cases h
    ·cases h
theorem yjO {a b:List AV}:noLs (a++b)=(noLs a&&noLs b):=by
 induction a with
 |nil=>rfl
 |cons x a ih=>simp only[List.cons_append,noLs,ih,Bool.and_assoc]
structure ynq (P:Program) (o:AO) (ds:DS) (f:FuncId) (vs vs':List AV) (kl:List (Nat×Nat)) (d1:DS) (v:AV):Prop where
 ho:CalO o ds f vs
 nl:noLs vs'=true
 pure:Pure P f (dwks vs') v
 way:ydg vs ds=some (vs',kl,d1)∨(kl= []/\d1=ds/\vs'=vs.map (vwV (toD ds).M)/\v.flat=true)
theorem yps {M:Key→Option Blk} {v:AV} (h:v.noL=true):vw1 M v=v:=by
 unfold vw1
 split
 ·simp[AV.noL] at h
 ·rfl
theorem yo2 (hC:CxOk P C) (hγ:GM P C R ts χ ds) (hk:DOk ds) {u:TV K} {v:AV} (h:TR P C ts χ u v):TR P C ts χ (vt1 C ts u) (vw1 (toD ds).M v):=by
 unfold vt1
 split
 ·rename_i s c eu
  split
  ·rename_i l hl
   have hs:=h.s
   rw[eu] at hs
   obtain ⟨g1,g2,g3⟩:=hγ.trow hC hl
   rcases hs.rwi g1 with ⟨hχ,rfl⟩|⟨hχ,h0,rfl⟩
   ·obtain ⟨kb,k1,k2,k3,k4⟩:=g3 hχ
    have hm:(toD ds).M (.l s c)=some kb.blk:=by show (ds.kb s c).map KB.blk=_;rw[k1];rfl
    have hcond:kb.blk.cells.length=l.length*kb.blk.sz∧kb.blk.sz≠0∧noLs kb.blk.cells=true:=
     ⟨by show kb.cells.length=_*kb.sz;rw[k3,<-yaL kb.cells,k4,ydp],(by show kb.sz≠0;rw[k3];exact Nat.pos_iff_ne_zero.1 (C.E _).pos),yaO k4⟩
    simp only[vw1,hm]
    rw[if_pos hcond]
    exact .sl _ l _ _ _ rfl k4
   ·have:=g2 hχ
    rw[this]
    exact .sl _ [] _ _ _ rfl rfl
  ·exact .un _
 ·rename_i hne
  have hv:vw1 (toD ds).M v=v∨u.s= .un:=by
   have hs:=h.s
   revert hs hne
   generalize u.s=w
   intro hne hs
   cases hs with
   |rwd s c v _ _ _=>exact absurd rfl (hne s c)
   |rw s c n _ _ _=>exact absurd rfl (hne s c)
   |rwn s c _ _ _=>exact absurd rfl (hne s c)
   |un v=>exact .inr rfl
   | fv ps rs F v hF hv'=>
     left
     obtain ⟨g1,_⟩:=hF
     exact yps (by rw[<-ydk,hv'];exact g1)
   |cn id w v hl hn hv'=>exact .inl (yps (hv'.noref hn (ts':=ts) (χ':=χ)).2)
   |_=>exact .inl rfl
  rcases hv with e|e
  ·rw[e];exact h
  ·cases u with
   |un=>exact .un _
   | cn id w=>
     cases h with
     | cn _ _ _ hl hn hv'=>
       simp only[TV.s] at e
       subst e
       simp[yaE] at hn
   |_=>cases e
theorem ysM (hC:CxOk P C) (hγ:GM P C R ts χ ds) (hk:DOk ds) {u:TV K} {v:AV} (h:TR P C ts χ u v):TR P C ts χ (vtV C ts u) (vwV (toD ds).M v):=by
 unfold vtV
 split
 ·rename_i cs eu
  have hs:=h.s
  rw[eu] at hs
  obtain ⟨vs,rfl,hl,hc⟩:=hs.agg'
  refine .agg _ _ (by simpa using hl) fun j u' v' p q=> ?_
  rw[List.getElem?_map] at p q
  obtain ⟨x,h1,rfl⟩:=Option.map_eq_some_iff.1 p
  obtain ⟨y,h2,rfl⟩:=Option.map_eq_some_iff.1 q
  exact yo2 hC hγ hk (hc j x y h1 h2)
 ·rename_i hne
  have h1:=yo2 hC hγ hk h
  cases v with
  | agg cs=>
    have hs:=h.s
    revert hs
    cases hw:u.s with
    |agg us=>exact absurd hw (hne us)
    | un=>
      intro _
      have:vt1 C ts u=u:=by unfold vt1;rw[hw]
      rw[this]
      cases u with
      |un=>exact .un _
      | cn id w=>
        cases h with
        |cn _ _ _ hl hn hv'=>simp only[TV.s] at hw;subst hw;simp[yaE] at hn
      |_=>cases hw
    | rw s c=>
      intro hs
      cases hs with
      |rwd _ _ _ _ _ h0=>cases h0
    | fv ps rs F=>
      intro hs
      cases hs with
      | fv _ _ _ _ hF hv'=>
        obtain ⟨_,_,_,f,a,c,e,_⟩:=hF
        rw[e] at hv';simp[dwk] at hv'
    | cn id w=>
      intro _
      cases u with
      | cn id' w'=>
        cases h with
        |cn _ _ _ hl hn hv'=>simp only[TV.s] at hw;subst hw;simp[yaE] at hn
      |_=>cases hw
    |_=>intro hs;cases hs
  |_=>exact h1
theorem yr0 (hC:CxOk P C) (hγ:GM P C R ts χ ds) (hk:DOk ds) {us:List (TV K)} {vs:List AV} (h:TL P C ts χ us vs):TL P C ts χ (us.map (vtV C ts)) (vs.map (vwV (toD ds).M)):=by
 refine ⟨by simpa using h.1,fun j u v p q=> ?_⟩
 rw[List.getElem?_map] at p q
 obtain ⟨x,h1,rfl⟩:=Option.map_eq_some_iff.1 p
 obtain ⟨y,h2,rfl⟩:=Option.map_eq_some_iff.1 q
 exact ysM hC hγ hk (h.2 j x y h1 h2)
theorem yp5 (hC:CxOk P C) {t:Nat} (h:(C.T t).fl=true) (x:K t):(eV C t x).flat=true:=by
 have:=hC.fl t h x
 unfold eV
 split
 ·exact this
 ·rename_i hg
  have h1:=hC.g t hg
  have h2:=(C.E t).len x
  rw[h1] at h2
  obtain ⟨v,hv⟩:=List.length_eq_one_iff.1 h2
  rw[hv] at this⊢
  simp only[ydj,Bool.and_true] at this
  exact this
theorem ykd (hC:CxOk P C):∀(rs:List Nat) (p:List (DV K)→List (TV K)→Prop),rs.all (fun t=>(C.T t).fl)=true→exR C rs p→∃r us,p r us∧noLs (r.map (dvA C))=true∧(∀(ts:TS K) (χ:Nat→Nat→Bool),TL P C ts χ us (r.map (dvA C)))∧ydj (r.map (dvA C))=true
 | [],p,_,h=>⟨[],[],h,rfl,fun _ _=> .nil,rfl⟩
 | t::rs,p,hf,h=>by
   obtain ⟨z,h⟩:=h
   simp only[List.all_cons,Bool.and_eq_true] at hf
   obtain ⟨r,us,h1,h2,h3,h4⟩:=ykd hC rs _ hf.2 h
   obtain ⟨q1,q2,q3⟩:=ygu (P:=P) (ts:=⟨[],[],[],[],[]⟩) (χ:=fun _ _=>false) hC t z
   refine ⟨.v t z::r,inV C t z::us,h1,by simp[noLs,dvA,q2,h2],fun ts χ=> .cons (ygu (P:=P) (ts:=ts) (χ:=χ) hC t z).1 (h3 ts χ),?_⟩
   simp only[List.map_cons,ydj,dvA,yp5 hC hf.1 z,h4,Bool.and_true]
theorem ylj:∀ {vs:List AV},ydj vs=true→(yb3 vs).flat=true
 | [],_=>rfl
 | [v],h=>by simpa [ydj,yb3] using h
 |v::w::vs,h=>h
theorem yhI (hC:CxOk P C) {Φ:List (Sp K)} (hS:SsOk P C Φ) (hγ:GM P C R ts χ ds) (hk:DOk ds) {o:AO} {f:Nat} {us:List (TV K)} {vs:List AV} {X:TS K→Prop} (ht:TL P C ts χ us vs) (ho:CalO o ds f vs) (h:ymN C Φ ts o.dst f us X):
  ∃vs' kl d1 v ts' χ',ynq P o ds f vs vs' kl d1 v/\GM P C R ts' χ' (d1.put o.dst v)/\DOk d1/\X ts'/\ts'.rg=ts.rg/\(flS C Φ f=true->kl= [])/\(∀k∈kl,∃u∈us,u.s= .rw k.1 k.2):=by
 unfold ymN at h
 split at h
 rotate_left
 ·exact h.elim
 rename_i sp h1
 obtain ⟨hmem,hf⟩:=ypm h1
 split at h
 ·rename_i hfl
  split at h
  ·rename_i env he
   have tv:=yr0 hC hγ hk ht
   obtain ⟨b1,b2,b3⟩:=yjq hC hS _ _ _ _ he tv
   obtain ⟨r,rs,⟨hW,hX⟩,n1,n2,n3⟩:=ykd (P:=P) hC _ _ hfl h
   obtain ⟨_,hP⟩:=hS sp hmem env r b3 hW
   rw[hf] at hP
   exact ⟨vs.map (vwV (toD ds).M),[],ds,yb3 (r.map (dvA C)),_,χ,⟨ho,b1,by rw[b2];exact hP, .inr ⟨rfl,rfl,rfl,ylj n3⟩⟩,hγ.put (yhW (n2 _ _)),hk,hX,by rw[yaW],fun _=>rfl,fun k hk=>by cases hk⟩
  ·exact h.elim
 ·rename_i hfl
  split at h
  rotate_left
  ·exact h.elim
  rename_i ws ts2 h2
  split at h
  ·rename_i env he
   obtain ⟨vs',kl,ds1,χ',a1,a2,a3,a4,a5,a6,a7,a8⟩:=yeQ hC us vs ts χ ds ws ts2 hk hγ ht h2 (yjZ hC hS _ _ _ he)
   obtain ⟨b1,b2,b3⟩:=yjq hC hS _ _ _ _ he a3
   obtain ⟨r,rs,⟨hW,hX⟩,n1,n2⟩:=yl1 (P:=P) hC _ _ h
   obtain ⟨_,hP⟩:=hS sp hmem env r b3 hW
   rw[hf] at hP
   exact ⟨vs',kl,ds1,yb3 (r.map (dvA C)),_,χ',⟨ho,a2,by rw[b2];exact hP, .inl a1⟩,a4.put (yhW (n2 _ _)),a5,hX,by rw[yaW];exact a6,fun hq=>(by unfold flS at hq;rw[h1] at hq;simp only at hq;rw[hfl] at hq;cases hq),a8⟩
  ·exact h.elim
theorem yjU (hC:CxOk P C) (hγ:GM P C R ts χ ds) (hk:DOk ds) {o:AO} {F:FV K} (hF:FOk P C F) {ps rs:List Nat} {x:AOpd} {args:List AOpd} {v:AV} (hop:o.op= .calv x args) (hx:ev (lkF ds.fr) x=v) (hv:dwk v=F.av) {us:List (TV K)} {X:TS K→Prop} (ht:TL P C ts χ us (args.map (ev (lkF ds.fr)))) (h:yqs C ts o.dst F ps rs us X):
  ∃f vs vs' kl d1 w ts' χ',ynq P o ds f vs vs' kl d1 w/\GM P C R ts' χ' (d1.put o.dst w)/\DOk d1/\X ts'/\ts'.rg=ts.rg/\(∀k∈kl,∃u∈us,u.s= .rw k.1 k.2):=by
 unfold yqs at h
 split at h
 ·rename_i ws ts2 h2
  split at h
  ·rename_i env he
   obtain ⟨vs',kl,ds1,χ',a1,a2,a3,a4,a5,a6,a7,a8⟩:=yeQ hC us _ ts χ ds ws ts2 hk hγ ht h2 (yki hC _ _ _ he)
   obtain ⟨b1,b2,b3,b4⟩:=yho hC _ _ _ _ he a3
   obtain ⟨r,rr,⟨hW,hX⟩,n1,n2⟩:=yl1 (P:=P) hC _ _ h
   obtain ⟨g1,g2,g3,f,a,c,g4,g5⟩:=hF
   have hP:=g5 _ _ hW
   rw[g4] at hv
   cases v with
   | fn f' a' c'=>
     simp only[dwk,AV.fn.injEq] at hv
     obtain ⟨rfl,e1,e2⟩:=hv
     have hnl:noLs a'=true∧noLs c'=true:=by
      rw[g4] at g1
      simp only[AV.noL,Bool.and_eq_true] at g1
      rw[<-e1,<-e2,ybn,ybn] at g1
      exact g1
     have henv:(env.filterMap adD).map (dvA C)=dwks vs':=by
      rw[b2]
      clear he h hX hW hP b2 b1
      induction env generalizing ps with
      |nil=>cases ps<;>rfl
      | cons y env ih=>
        cases ps with
        |nil=>simp at b3
        | cons q ps=>
          obtain ⟨z,rfl⟩:=b4 y List.mem_cons_self
          simp only[List.filterMap_cons,adD,List.map_cons,yco]
          rw[ih (by simpa using b3) (fun x hx=>b4 x (List.mem_cons_of_mem _ hx))]
          rfl
     have hpub:=yh2 a' hnl.1 (yfm _ hnl.2 a1)
     refine ⟨f,a'++(args.map (ev (lkF ds.fr))++c'),a'++(vs'++c'),kl,ds1,yb3 (r.map (dvA C)),_,χ',⟨.inr ⟨x,args,a',c',hop,hx,by rw[List.append_assoc]⟩,by simp[yjO,hnl,a2],?_, .inl hpub⟩,a4.put (yhW (n2 _ _)),a5,hX,by rw[yaW];exact a6,a8⟩
     rw[ybC,ybC,e1,e2,<-henv,<-List.append_assoc]
     exact hP
   |_=>simp[dwk] at hv
  ·exact h.elim
 ·exact h.elim
section
variable {L:List AO} {Q:KS->Prop} {i:Nat}
theorem yj4 {o:AO} {f:FuncId} {vs vs':List AV} {kl:List (Nat×Nat)} {d1:DS} {v:AV} (e0:L[i]? =some o) (hg:gok o.guard ds.fr=true) (h:ynq P o ds f vs vs' kl d1 v) (k:WD P B N ro L (i+1) Q (d1.put o.dst v)):WD P B N ro L i Q ds:=by
 refine ylR (hs:=fun _=>false) e0 hg fun hk=> ?_
 have fin:ycO P (.f f) vs (toD ds) fun v S'=>∃ds',S'.put o.dst v=toD ds'∧DOk ds'∧WD P B N ro L (i+1) Q ds':=by
  rcases h.way with hw|⟨rfl,rfl,rfl,hfl⟩
  ·obtain ⟨a1,a2,a3,_⟩:=yfV vs ds vs' kl d1 hk hw
   exact .inl (yfy a1 h.nl h.pure ⟨_,yaZ d1 o.dst v,a3.put,k⟩)
  ·exact .inr (.inl ⟨f,v,rfl,h.nl,fun H n=>yay.dwkA (h.pure H n),hfl,_,yaZ d1 o.dst v,hk.put,k⟩)
 rcases h.ho with ⟨args,h1,h2⟩|⟨x,args,first,cap,h1,h2,h3⟩
 ·rw[h1];simp only[aop];rw[ybk,h2];exact fin
 ·rw[h1];simp only[aop];rw[ybk,h2];simp only;rw[h3];exact fin
end
end
end Go.AV
end
noncomputable section
namespace Go.AV
open Go.RowKit Go.RG Go.Lib
variable {K:Nat->Type}
def memT (C:Cx K) (ts:TS K) (χ:Nat→Nat→Bool) (s:Nat):Option Blk:=match χ s 1 with
 |true=>none
 |false=>(lkB ts.od s).map (bT C ts χ)
def argT (C:Cx K) (sp:Sl K) (ts0:TS K) (χ:Nat->Nat->Bool):List AV:=(List.range (npL sp)).map fun i=>aT C ts0 χ (lkT ts0.fr i)
def ViOk (ts:TS K) (χ:Nat->Nat->Bool):Prop:=∀s c,χ s c=true->∃e,ts.tb s c=some (.row e [])
def EndL (C:Cx K) (sp:Sl K) (ts0:TS K) (χ:Nat→Nat→Bool) (out:List (DV K)) (H:Hp) (n:Nat) (av:AV) (S1:St):Prop:=
 ∃env' χ',wt (ctT sp.to) env'=true∧kpt ts0 (bdT C sp.to [] [] env') sp.kp (eqDV (selL sp env') out)∧ViOk (bdT C sp.to [] [] env') χ'∧(∀s b,2000000≤s→(bdT C sp.to [] [] env').tb s 1=some b→χ' s 1=χ s 1)∧
  (∃us,ycr (bdT C sp.to [] [] env') sp.res=some us/\av=yb3 (aTs C (bdT C sp.to [] [] env') χ' us))/\S1.hp=H/\S1.nx=n/\(∀d,S1.cnt d=1)/\
  ∀s b,lkB (bdT C sp.to [] [] env').od s=some b->χ' s 1=false->S1.M (.l s 1)=some (bT C (bdT C sp.to [] [] env') χ' b)
def SlOk (P:Program) (C:Cx K) (sp:Sl K):Prop:=∀(fs:List (FV K)) (env out:List (DV K)),fs.length=sp.fs.length→(∀F∈fs,FOk P C F)→sp.W fs env out→
 ∀χ,ViOk (entL C sp fs env) χ->∀H n,yap P sp.f (argT C sp (entL C sp fs env) χ) (memT C (entL C sp fs env) χ) H n (EndL C sp (entL C sp fs env) χ out H n)
theorem yd7:∀ {l:List Nat} {s:Nat},yct l s=true↔s∈l
 | [],s=>by simp[yct]
 | x::l,s=>by
   have ih:=yd7 (l:=l) (s:=s)
   simp only[yct,Bool.or_eq_true,nbeq,List.mem_cons,ih]
   constructor<;>rintro (h|h)<;>first|exact .inl h.symm|exact .inr h
theorem yhJ:∀ {l:List Nat},ymI l=true→l.Nodup
 | [],_=>List.nodup_nil
 | x::l,h=>by
   simp only[ymI,Bool.and_eq_true,Bool.not_eq_true'] at h
   obtain ⟨h1,h2⟩:=h
   refine List.nodup_cons.2 ⟨fun hm=> ?_,yhJ h2⟩
   rw[yd7.2 hm] at h1
   cases h1
structure TmOk (τ:Tm):Prop where
 nd:(τ.bx.map (·.1)++τ.rw.map (·.1)).Nodup
 ns:(τ.ks.map (·.1)).Nodup
 ks:∀p∈τ.ks,okK (τ.bx.map (·.1)) (τ.rw.map (·.1)) p.2=true
 bx:∀p∈τ.bx,okKs (τ.bx.map (·.1)) (τ.rw.map (·.1)) p.2.2=true/\p.2.2≠ []
theorem ymY {τ:Tm} (h:okTm τ=true):TmOk τ:=by
 simp only[okTm,Bool.and_eq_true] at h
 obtain ⟨⟨⟨h1,h2⟩,h3⟩,h4⟩:=h
 refine ⟨yhJ h1,yhJ h2,fun p hp=>List.all_eq_true.1 h3 p hp,fun p hp=> ?_⟩
 have:=List.all_eq_true.1 h4 p hp
 simp only[Bool.and_eq_true,Bool.not_eq_true'] at this
 exact ⟨this.1,fun e=>by rw[e] at this;simp at this⟩
theorem ybz:∀ {c1 c2:List CT} {env:List (DV K)},wt (c1++c2) env=true→∃a b,env=a++b∧wt c1 a=true∧wt c2 b=true
 | [],c2,env,h=>⟨[],env,rfl,rfl,h⟩
 |c::c1,c2,[],h=>by simp[wt] at h
 | c::c1,c2,x::env,h=>by
   simp only[List.cons_append,wt,Bool.and_eq_true] at h
   obtain ⟨a,b,rfl,h1,h2⟩:=ybz h.2
   exact ⟨x::a,b,rfl,by simp only[wt,Bool.and_eq_true];exact ⟨h.1,h1⟩,h2⟩
theorem yeo:∀ {c1 c2:List CT} {a b:List (DV K)},wt c1 a=true→wt c2 b=true→wt (c1++c2) (a++b)=true
 | [],c2,[],b,_,h=>h
 | [],c2,_::_,b,h,_=>by simp[wt] at h
 |c::c1,c2,[],b,h,_=>by simp[wt] at h
 | c::c1,c2,x::a,b,h,k=>by
   simp only[wt,Bool.and_eq_true] at h
   simp only[List.cons_append,wt,Bool.and_eq_true]
   exact ⟨h.1,yeo h.2 k⟩
theorem yiC:∀ {c:List CT} {a:List (DV K)},wt c a=true→a.length=c.length
 | [],[],_=>rfl
 | [],_::_,h=>by simp[wt] at h
 |_::_,[],h=>by simp[wt] at h
 | c::cs,x::a,h=>by
   simp only[wt,Bool.and_eq_true] at h
   simp[yiC h.2]
section
variable {C:Cx K} {rg:List (Nat×TV K)}
theorem ydS {k:Kd} {u:TV K} {m m':RM} {a:List (DV K)} (h:rd1 C k u m=some (a,m')):wt (ctV k) a=true:=by
 cases k with
 | it k=>
   simp only[rd1] at h
   split at h
   ·split at h<;>cases h;simp[wt,ctV]
   ·cases h
 |bl=>simp only[rd1] at h;split at h<;>cases h;simp[wt,ctV]
 |st=>simp only[rd1] at h;split at h<;>cases h;simp[wt,ctV]
 | sl e=>
   simp only[rd1] at h
   split at h
   ·split at h<;>cases h;simp[wt,ctV]
   ·cases h;simp[wt,ctV]
   ·cases h;simp[wt,ctV]
   ·cases h
 |v t=>simp only[rd1] at h;split at h<;>cases h;simp[wt,ctV]
 |agg l=>simp only[rd1] at h;cases h
 |fn f a c=>simp only[rd1] at h;cases h
 | row s=>
   simp only[rd1] at h
   split at h
   ·unfold addR at h;split at h<;>cases h;rfl
   ·unfold addR at h;split at h<;>cases h;rfl
   ·cases h
 | px s o=>
   simp only[rd1] at h
   split at h
   ·split at h
    ·unfold addB at h;split at h<;>cases h;rfl
    ·cases h
   ·cases h
 | kp id=>
   simp only[rd1] at h
   split at h
   ·split at h<;>cases h;rfl
   ·cases h
 |nil=>simp only[rd1] at h;split at h<;>cases h;rfl
 |np=>simp only[rd1] at h;split at h<;>cases h;rfl
 |un=>simp only[rd1] at h;cases h;rfl
mutual
theorem ypq:∀(k:Kd) (u:TV K) (m m':RM) (a:List (DV K)),rdV C k u m=some (a,m')→wt (ctV k) a=true
 | .agg l,u,m,m',a,h=>by
   simp only[rdV] at h
   split at h
   ·simp only[ctV];exact yff l _ m m' a h
   ·cases h
 | .fn f x y,u,m,m',a,h=>by
   simp only[rdV] at h
   split at h
   ·split at h
    ·split at h
     ·rename_i h1
      split at h
      ·rename_i h2
       cases h
       simp only[ctV]
       exact yeo (yff x _ _ _ _ h1) (yff y _ _ _ _ h2)
      ·cases h
     ·cases h
    ·cases h
   ·cases h
 | .it k,u,m,m',a,h=>ydS (C:=C) (u:=u) h
 | .bl,u,m,m',a,h=>ydS (C:=C) (u:=u) h
 | .st,u,m,m',a,h=>ydS (C:=C) (u:=u) h
 | .sl e,u,m,m',a,h=>ydS (C:=C) (u:=u) h
 | .v t,u,m,m',a,h=>ydS (C:=C) (u:=u) h
 | .row s,u,m,m',a,h=>ydS (C:=C) (u:=u) h
 | .px s o,u,m,m',a,h=>ydS (C:=C) (u:=u) h
 | .kp id,u,m,m',a,h=>ydS (C:=C) (u:=u) h
 | .nil,u,m,m',a,h=>ydS (C:=C) (u:=u) h
 | .np,u,m,m',a,h=>ydS (C:=C) (u:=u) h
 | .un,u,m,m',a,h=>ydS (C:=C) (u:=u) h
theorem yff:∀(l:List Kd) (us:List (TV K)) (m m':RM) (a:List (DV K)),rdVs C l us m=some (a,m')→wt (ctVs l) a=true
 | [],[],m,m',a,h=>by simp only[rdVs] at h;cases h;rfl
 | k ::l,u::us,m,m',a,h=>by
   simp only[rdVs] at h
   split at h
   ·rename_i h1
    split at h
    ·rename_i h2
     cases h
     simp only[ctVs]
     exact yeo (ypq k u _ _ _ h1) (yff l us _ _ _ h2)
    ·cases h
   ·cases h
 | [],_::_,_,_,_,h=>by simp[rdVs] at h
 |_::_,[],_,_,_,h=>by simp[rdVs] at h
end
theorem yni {fr:List (Nat×TV K)}:∀(l:List (Nat×Kd)) (m m':RM) (a:List (DV K)),rdS C fr l m=some (a,m')→wt (ctS l) a=true
 | [],m,m',a,h=>by simp only[rdS] at h;cases h;rfl
 | p ::l,m,m',a,h=>by
   simp only[rdS] at h
   split at h
   ·rename_i h1
    split at h
    ·rename_i h2
     cases h
     exact yeo (ypq p.2 _ _ _ _ h1) (yni l _ _ _ h2)
    ·cases h
   ·cases h
theorem ysD {l:List Kd} {us:List (TV K)} {m m':RM} {a:List (DV K)} (h:rdW C l us m=some (a,m')):wt (ctVs l) a=true:=by
 unfold rdW at h
 split at h
 ·split at h
  ·split at h
   ·cases h;simp[ctVs,ctV,wt]
   ·cases h
  ·exact yff _ _ _ _ _ h
 ·exact yff _ _ _ _ _ h
theorem yqp {l:List Kd} {t:Nat} (h:opk l t=true):∃t',l= [.v t']∧t'=t:=by
 rcases l with _|⟨k,_|⟨k2,l⟩⟩
 ·cases h
 ·cases k with
  |v t'=>exact ⟨t',rfl,nbeq.1 h⟩
  |_=>cases h
 ·cases k<;>cases h
theorem ykE {ts:TS K}:∀(l:List (Nat×Nat×List Kd)) (m m':RM) (a:List (DV K)),rdB C ts l m=some (a,m')→wt (ctB l) a=true
 | [],m,m',a,h=>by simp only[rdB] at h;cases h;rfl
 | p :: l,m,m',a,h=>by
   simp only[rdB] at h
   split at h
   ·split at h
    ·split at h
     ·rename_i hk
      split at h
      ·rename_i h1
       cases h
       simp only[Bool.and_eq_true] at hk
       obtain ⟨_,_,hk⟩:=hk
       obtain ⟨t',hq,hk⟩:=yqp hk
       ·have e:ctB (p::l)=ctVs p.2.2++ctB l:=rfl
        rw[e,hq]
        exact yeo (a:= [_]) (by simp[ctVs,ctV,wt];exact hk) (ykE l _ _ _ h1)
      ·cases h
     ·cases h
    ·split at h
     ·split at h
      ·rename_i h1
       split at h
       ·rename_i h2
        cases h
        exact yeo (ysD h1) (ykE l _ _ _ h2)
       ·cases h
      ·cases h
     ·cases h
    ·cases h
   ·cases h
def ctR (l:List (Nat×Nat)):List CT:=l.map fun p=> .l p.2
theorem ynu {ts:TS K} {m:RM}:∀(l:List (Nat×Nat)) (a:List (DV K)),rdR C ts m l=some a→wt (ctR l) a=true
 | [],a,h=>by simp only[rdR] at h;cases h;rfl
 | p ::l,a,h=>by
   simp only[rdR] at h
   split at h
   ·obtain ⟨b,h1,rfl⟩:=Option.map_eq_some_iff.1 h
    simp only[ctR,List.map_cons,wt,Bool.and_eq_true]
    exact ⟨nbeq.2 rfl,ynu l b h1⟩
   ·split at h
    ·obtain ⟨b,h1,rfl⟩:=Option.map_eq_some_iff.1 h
     simp only[ctR,List.map_cons,wt,Bool.and_eq_true]
     exact ⟨nbeq.2 rfl,ynu l b h1⟩
    ·cases h
   ·cases h
theorem yj9 (τ:Tm):ctT τ=ctS τ.ks++ctB τ.bx++ctR τ.rw:=rfl
theorem yo4 {ts:TS K} {τ:Tm} {env:List (DV K)} {M:RM} (h:rdM C τ ts=some (env,M)):wt (ctT τ) env=true:=by
 unfold rdM at h
 split at h
 ·rename_i h1
  split at h
  ·rename_i h2
   split at h
   ·rename_i h3 _
    cases h
    rw[yj9]
    exact yeo (yeo (yni _ _ _ _ h1) (ykE _ _ _ _ h2)) (ynu _ _ h3)
   ·cases h
  ·cases h
 ·cases h
mutual
theorem ykj:∀(k:Kd) (a r:List (DV K)),wt (ctV k) a=true→bdV C rg k (a++r)=((bdV C rg k a).1,r)
 | .agg l,a,r,h=>by
   simp only[ctV] at h
   simp only[bdV,yft l a r h]
 | .fn f x y,a,r,h=>by
   simp only[ctV] at h
   obtain ⟨a1,a2,rfl,h1,h2⟩:=ybz h
   simp only[bdV]
   rw[List.append_assoc,yft x a1 (a2++r) h1,yft x a1 a2 h1]
   simp only
   rw[yft y a2 r h2]
 | .it k,a,r,h=>by
   cases a with
   |nil=>simp[ctV,wt] at h
   | cons x a=>cases a with
     |cons y a=>simp[ctV,wt] at h
     |nil=>cases x<;>first|rfl|(simp[ctV,wt] at h;done)
 | .bl,a,r,h=>by
   cases a with
   |nil=>simp[ctV,wt] at h
   | cons x a=>cases a with
     |cons y a=>simp[ctV,wt] at h
     |nil=>cases x<;>first|rfl|(simp[ctV,wt] at h;done)
 | .st,a,r,h=>by
   cases a with
   |nil=>simp[ctV,wt] at h
   | cons x a=>cases a with
     |cons y a=>simp[ctV,wt] at h
     |nil=>cases x<;>first|rfl|(simp[ctV,wt] at h;done)
 | .sl e,a,r,h=>by
   cases a with
   |nil=>simp[ctV,wt] at h
   | cons x a=>cases a with
     |cons y a=>simp[ctV,wt] at h
     |nil=>cases x<;>first|(simp only[bdV,List.cons_append,List.nil_append];done)|(simp[ctV,wt] at h;done)
 | .v t,a,r,h=>by
   cases a with
   |nil=>simp[ctV,wt] at h
   | cons x a=>cases a with
     |cons y a=>simp[ctV,wt] at h
     |nil=>cases x<;>first|(simp only[bdV,List.cons_append,List.nil_append];done)|(simp[ctV,wt] at h;done)
 | .row s,a,r,h=>by cases a with|nil=>cases r<;>rfl|cons x a=>simp[ctV,wt] at h
 | .px s o,a,r,h=>by cases a with|nil=>cases r<;>rfl|cons x a=>simp[ctV,wt] at h
 | .kp id,a,r,h=>by cases a with|nil=>cases r<;>rfl|cons x a=>simp[ctV,wt] at h
 | .nil,a,r,h=>by cases a with|nil=>cases r<;>rfl|cons x a=>simp[ctV,wt] at h
 | .np,a,r,h=>by cases a with|nil=>cases r<;>rfl|cons x a=>simp[ctV,wt] at h
 | .un,a,r,h=>by cases a with|nil=>cases r<;>rfl|cons x a=>simp[ctV,wt] at h
theorem yft:∀(l:List Kd) (a r:List (DV K)),wt (ctVs l) a=true→bdVs C rg l (a++r)=((bdVs C rg l a).1,r)
 | [],a,r,h=>by cases a with|nil=>rfl|cons x a=>simp[ctVs,wt] at h
 | k::l,a,r,h=>by
   simp only[ctVs] at h
   obtain ⟨a1,a2,rfl,h1,h2⟩:=ybz h
   simp only[bdVs]
   rw[List.append_assoc,ykj k a1 (a2++r) h1,ykj k a1 a2 h1]
   simp only
   rw[yft l a2 r h2]
end
theorem yiZ:∀(l:List (Nat×Kd)) (a r:List (DV K)),wt (ctS l) a=true→bdS C rg l (a++r)=((bdS C rg l a).1,r)
 | [],a,r,h=>by cases a with|nil=>rfl|cons x a=>simp[ctS,wt] at h
 | p::l,a,r,h=>by
   obtain ⟨a1,a2,rfl,h1,h2⟩:=ybz (show wt (ctV p.2++ctS l) a=true from h)
   simp only[bdS]
   rw[List.append_assoc,ykj p.2 a1 (a2++r) h1,ykj p.2 a1 a2 h1]
   simp only
   rw[yiZ l a2 r h2]
theorem yj5 {l:List Kd} (h:∀t,l= [.v t]→(C.T t).g=false) (a:List (DV K)):bdW C rg l a=bdVs C rg l a:=by
 unfold bdW
 split
 ·rename_i t
  rw[h t rfl]
 ·rfl
theorem yib (l:List Kd) (a r:List (DV K)) (h:wt (ctVs l) a=true):bdW C rg l (a++r)=((bdW C rg l a).1,r):=by
 by_cases hw:∃t,l= [.v t]/\(C.T t).g=true
 ·obtain ⟨t,rfl,hg⟩:=hw
  cases a with
  |nil=>simp[ctVs,ctV,wt] at h
  | cons x a=>
    cases a with
    |cons y a=>simp[ctVs,ctV,wt] at h
    |nil=>cases x<;>first|(simp[bdW,hg];done)|(simp[ctVs,ctV,wt] at h;done)
 ·have hn:∀t,l= [.v t]→(C.T t).g=false:=fun t e=>by
   cases hg:(C.T t).g with
   |false=>rfl
   |true=>exact absurd ⟨t,e,hg⟩ hw
  rw[yj5 hn,yj5 hn];exact yft l a r h
theorem ygx {e:Nat} {l:List Kd} {cs:List (TV K)} {a:List (DV K)} (r:List (DV K)) (h:wt (ctVs l) a=true):mkBx e l cs (a++r)=mkBx e l cs a:=by
 unfold mkBx
 split
 ·rfl
 ·rcases l with _|⟨k,_|⟨k2,l⟩⟩
  ·rfl
  ·cases k with
   | v t=>
     cases a with
     |nil=>simp[ctVs,ctV,wt] at h
     |cons x a=>cases x<;>rfl
   |_=>rfl
  ·cases k<;>rfl
theorem yb5 (e:Nat) (l:List Kd) (cs:List (TV K)) (a:List (DV K)):mkBx e l cs a= .box e cs∨∃t x,1000000≤e∧mkBx e l cs a= .opq e t x:=by
 unfold mkBx
 split
 ·exact .inl rfl
 ·rename_i h
  split
  ·exact .inr ⟨_,_,Nat.le_of_ble_eq_true h,rfl⟩
  ·exact .inl rfl
theorem ygC (e:Nat) (l:List Kd) (cs:List (TV K)) (a:List (DV K)):isBx (some (mkBx e l cs a))=true:=by
 rcases yb5 e l cs a with h|⟨t,x,_,h⟩<;>rw[h]<;>rfl
theorem yiH:∀(l:List (Nat×Nat×List Kd)) (a r:List (DV K)),wt (ctB l) a=true→bdB C rg l (a++r)=((bdB C rg l a).1,r)
 | [],a,r,h=>by cases a with|nil=>rfl|cons x a=>simp[ctB,wt] at h
 | p::l,a,r,h=>by
   obtain ⟨a1,a2,rfl,h1,h2⟩:=ybz (show wt (ctVs p.2.2++ctB l) a=true from h)
   simp only[bdB]
   rw[List.append_assoc,yib p.2.2 a1 (a2++r) h1,yib p.2.2 a1 a2 h1,ygx _ h1,ygx _ h1]
   simp only
   rw[yiH l a2 r h2]
theorem ylT:∀(l l':List (Nat×Nat×List Kd)) (a b:List (DV K)),wt (ctB l) a=true→(bdB C rg (l++l') (a++b)).1=(bdB C rg l a).1++(bdB C rg l' b).1
 | [],l',a,b,h=>by cases a with|nil=>rfl|cons x a=>simp[ctB,wt] at h
 | p::l,l',a,b,h=>by
   obtain ⟨a1,a2,rfl,h1,h2⟩:=ybz (show wt (ctVs p.2.2++ctB l) a=true from h)
   simp only[List.cons_append,bdB]
   rw[List.append_assoc,yib p.2.2 a1 (a2++b) h1,yib p.2.2 a1 a2 h1,ygx _ h1,ygx _ h1]
   simp only
   rw[ylT l l' a2 b h2]
theorem ymC:∀(l l':List (Nat×Nat)) (a b:List (DV K)),wt (ctR l) a=true→bdR (l++l') (a++b)=bdR l a++bdR l' b
 | [],l',a,b,h=>by cases a with|nil=>rfl|cons x a=>simp[ctR,wt] at h
 | p ::l,l',a,b,h=>by
   cases a with
   |nil=>simp[ctR,wt] at h
   | cons x a=>
     simp only[ctR,List.map_cons,wt,Bool.and_eq_true] at h
     have ih:=ymC l l' a b h.2
     cases x with
     |l e k=>simp only[List.cons_append,bdR,ih]
     |_=>simp at h
theorem yey:∀(l:List (Nat×Nat×List Kd)) (a:List (DV K)),wt (ctB l) a=true→(bdB C rg l a).1.map (·.1)=l.map (·.1)∧∀p∈(bdB C rg l a).1,∃k∈l,p.1=k.1∧∃x,wt (ctVs k.2.2) x=true∧p.2=some (mkBx k.2.1 k.2.2 (bdW C rg k.2.2 x).1 x)
 | [],a,_=>⟨rfl,fun p h=>by cases h⟩
 | k::l,a,h=>by
   obtain ⟨a1,a2,rfl,h3,h4⟩:=ybz (show wt (ctVs k.2.2++ctB l) a=true from h)
   obtain ⟨h1,h2⟩:=yey l a2 h4
   have hw:=yib (C:=C) (rg:=rg) k.2.2 a1 a2 h3
   refine ⟨by simp only[bdB,hw,List.map_cons,h1],fun p hp=> ?_⟩
   simp only[bdB,hw] at hp
   rcases List.mem_cons.1 hp with rfl|hp
   ·exact ⟨k,List.mem_cons_self,rfl,a1,h3,by rw[ygx _ h3]⟩
   ·obtain ⟨k',e1,e2⟩:=h2 p hp
    exact ⟨k',List.mem_cons_of_mem _ e1,e2⟩
theorem yjD:∀(l:List (Nat×Nat×List Kd)) (a:List (DV K)),∀p∈(bdB C rg l a).1,∃b,p.2=some b∧isBx (some b)=true
 | [],a,p,hp=>by cases hp
 | k::l,a,p,hp=>by
   simp only[bdB] at hp
   rcases List.mem_cons.1 hp with rfl|hp
   ·exact ⟨_,rfl,ygC _ _ _ _⟩
   ·exact yjD l _ p hp
theorem yeF:∀(l:List (Nat×Nat)) (a:List (DV K)),wt (ctR l) a=true→(bdR l a).map (·.1)=l.map (·.1)∧∀p∈bdR l a,∃k∈l,p.1=k.1∧∃x,p.2=some (.row k.2 x)
 | [],a,h=>⟨by simp[bdR],fun p hp=>by simp[bdR] at hp⟩
 | k :: l,a,h=>by
   cases a with
   |nil=>simp[ctR,wt] at h
   | cons x a=>
     simp only[ctR,List.map_cons,wt,Bool.and_eq_true] at h
     obtain ⟨h1,h2⟩:=yeF l a h.2
     cases x with
     | l e k'=>
       have he:=nbeq.1 h.1
       subst he
       have hb:bdR (k::l) (.l k.2 k'::a)=(k.1,some (.row k.2 k'))::bdR l a:=by simp only[bdR,yfH,dif_pos]
       rw[hb]
       refine ⟨by simp only[List.map_cons,h1],fun p hp=> ?_⟩
       rcases List.mem_cons.1 hp with rfl|hp
       ·exact ⟨k,List.mem_cons_self,rfl,k',rfl⟩
       ·obtain ⟨k'',e1,e2⟩:=h2 p hp
        exact ⟨k'',List.mem_cons_of_mem _ e1,e2⟩
     |_=>simp at h
theorem yeX {τ:Tm} {hh:List RS} {env:List (DV K)} (h:wt (ctT τ) env=true):∃a b c,env=a++b++c∧wt (ctS τ.ks) a=true∧wt (ctB τ.bx) b=true∧wt (ctR τ.rw) c=true∧bdT C τ rg hh env=⟨(bdS C rg τ.ks a).1,(bdB C rg τ.bx b).1++bdR τ.rw c,[],rg,hh⟩:=by
 rw[yj9] at h
 obtain ⟨ab,c,rfl,h1,h3⟩:=ybz h
 obtain ⟨a,b,rfl,h1,h2⟩:=ybz h1
 refine ⟨a,b,c,rfl,h1,h2,h3,?_⟩
 unfold bdT
 rw[List.append_assoc,yiZ τ.ks a (b++c) h1]
 simp only
 rw[yiH τ.bx b c h2]
theorem yf9 {τ:Tm} {hh:List RS} {env:List (DV K)} (h:wt (ctT τ) env=true):(bdT C τ rg hh env).od.map (·.1)=τ.bx.map (·.1)++τ.rw.map (·.1)∧
  ∀p∈(bdT C τ rg hh env).od,(∃k∈τ.bx,p.1=k.1/\∃x,wt (ctVs k.2.2) x=true/\p.2=some (mkBx k.2.1 k.2.2 (bdW C rg k.2.2 x).1 x))∨∃k∈τ.rw,p.1=k.1/\∃x,p.2=some (.row k.2 x):=by
 obtain ⟨a,b,c,_,h1,h2,h3,e⟩:=yeX (rg:=rg) (hh:=hh) (C:=C) h
 rw[e]
 obtain ⟨x1,x2⟩:=yey (C:=C) (rg:=rg) τ.bx b h2
 obtain ⟨y1,y2⟩:=yeF τ.rw c h3
 refine ⟨by simp only[List.map_append,x1,y1],fun p hp=> ?_⟩
 rcases List.mem_append.1 hp with hp|hp
 ·exact .inl (x2 p hp)
 ·exact .inr (y2 p hp)
theorem ycx {l:List (Nat×Option (TB K))} (hn:(l.map (·.1)).Nodup) {s:Nat} {b:Option (TB K)} (h:(s,b)∈l):lkB l s=b:=by
 induction l with
 |nil=>cases h
 | cons p l ih=>
   obtain ⟨h1,h2⟩:=List.nodup_cons.1 (show (p.1::l.map (·.1)).Nodup from hn)
   rw[yat]
   rcases List.mem_cons.1 h with rfl|h
   ·rw[if_pos rfl]
   ·rw[if_neg (fun e=>h1 (by rw[e];exact List.mem_map_of_mem (f:=(·.1)) h))];exact ih h2 h
theorem yes {l:List (Nat×Option (TB K))} {s:Nat} {b:TB K} (h:lkB l s=some b):(s,some b)∈l:=by
 induction l with
 |nil=>cases h
 | cons p l ih=>
   rw[yat] at h
   split at h
   ·rename_i e;rw[<-e,<-h];exact List.mem_cons_self
   ·exact List.mem_cons_of_mem _ (ih h)
theorem yrs {τ:Tm} {hh:List RS} {env:List (DV K)} (h:wt (ctT τ) env=true) (ho:TmOk τ) {s:Nat} (hs:s∈τ.bx.map (·.1)):∃b,lkB (bdT C τ rg hh env).od s=some b∧isBx (some b)=true:=by
 obtain ⟨h1,h2⟩:=yf9 (C:=C) (rg:=rg) (hh:=hh) h
 have hm:s∈(bdT C τ rg hh env).od.map (·.1):=by rw[h1];exact List.mem_append_left _ hs
 obtain ⟨p,hp,rfl⟩:=List.mem_map.1 hm
 have hl:=ycx (by rw[h1];exact ho.nd) (show (p.1,p.2)∈_ from hp)
 rcases h2 p hp with ⟨k,hk,e1,x,_,e2⟩|⟨k,hk,e1,_⟩
 ·exact ⟨_,by rw[hl,e2],ygC _ _ _ _⟩
 ·refine absurd ?_ ((List.nodup_append.1 ho.nd).2.2 p.1 hs p.1 (by rw[e1];exact List.mem_map_of_mem (f:=(·.1)) hk))
  rfl
theorem yjS:∀(l:List Kd) (a:List (DV K)),(bdVs C rg l a).1.length=l.length
 | [],a=>rfl
 |k::l,a=>by simp only[bdVs,List.length_cons,yjS l]
theorem ymH:∀(l:List (Nat×Kd)) (a:List (DV K)) (t:Nat),lkT (bdS C rg l a).1 t= .un∨∃p∈l,p.1=t∧∃x,lkT (bdS C rg l a).1 t=(bdV C rg p.2 x).1
 | [],a,t=> .inl rfl
 | p::l,a,t=>by
   simp only[bdS]
   rw[yba]
   split
   ·rename_i e;exact .inr ⟨p,List.mem_cons_self,e,a,rfl⟩
   ·rcases ymH l (bdV C rg p.2 a).2 t with h|⟨q,hq,e1,x,e2⟩
    ·exact .inl h
    ·exact .inr ⟨q,List.mem_cons_of_mem _ hq,e1,x,e2⟩
end
section
variable {P:Program} {C:Cx K} {ts:TS K} {χ:Nat->Nat->Bool}
mutual
theorem yiI:∀u:TV K,yaE u=true→alv ts u=true
 | .agg cs,h=>by simp only[yaE] at h;simp only[alv,yc6 cs h]
 | .tup cs,h=>by simp only[yaE] at h;simp only[alv,yc6 cs h]
 | .fn f a c,h=>by simp only[yaE,Bool.and_eq_true] at h;simp only[alv,yc6 a h.1,yc6 c h.2,Bool.and_self]
 | .rw _ _,h=>by simp[yaE] at h
 | .cn _ _,h=>by simp[yaE] at h
 | .it _ _,_| .bl _,_| .st _,_| .sl _ _,_| .nil,_| .un,_| .px _ _ _,_| .lb _,_| .li _ _,_| .em,_| .pr _ _ _ _ _,_| .ep _ _ _ _,_| .gs _ _,_| .nptr,_| .fv _ _ _,_| .yl _,_=>rfl
theorem yc6:∀us:List (TV K),yaQ us=true→alvs ts us=true
 | [],_=>rfl
 |u::us,h=>by simp only[yaQ,Bool.and_eq_true] at h;simp only[alvs,yiI u h.1,yc6 us h.2,Bool.and_self]
end
theorem ypB (hC:CxOk P C) (t:Nat) (x:K t):inV C t x= .un∨yaE (inV C t x)=true:=by
 have:=hC.nr t x
 unfold inV
 split
 ·right;simpa only[yaE] using this
 ·split
  ·rename_i v e;rw[e] at this;simp only[yaQ,Bool.and_true] at this;exact .inr this
  ·exact .inl rfl
theorem yoJ (hC:CxOk P C) (t:Nat) (x:K t):TR P C ts χ (inV C t x) (aT C ts χ (inV C t x)):=by
 rcases ypB hC t x with e|e
 ·rw[e];exact .un _
 ·exact (ygu hC t x).1.self hC (yiI _ e)
theorem yqi (hC:CxOk P C) {l:List Kd} {a:List (DV K)} (h:wt (ctVs l) a=true) (hl:l≠ []):(bdW C [] l a).1.length≠0:=by
 by_cases hw:∃t,l= [.v t]/\(C.T t).g=true
 ·obtain ⟨t,rfl,hg⟩:=hw
  cases a with
  |nil=>simp[ctVs,ctV,wt] at h
  | cons x a=>
    cases a with
    |cons y a=>simp[ctVs,ctV,wt] at h
    | nil=>
      cases x with
      | v t' x=>
        simp only[ctVs,ctV,List.append_nil,wt,Bool.and_true] at h
        have:=nbeq.1 h;subst this
        simp only[bdW,hg,dif_pos]
        have h1:=(hC.c t x ⟨[],[],[],[],[]⟩ (fun _ _=>false)).1
        have h2:=(C.E t).len x
        have h3:=(C.E t).pos
        omega
      |_=>simp[ctVs,ctV,wt] at h
 ·rw[yj5 (fun t e=>by
   cases hg:(C.T t).g with
   |false=>rfl
   |true=>exact absurd ⟨t,e,hg⟩ hw)]
  rw[yjS]
  exact fun q=>hl (List.eq_nil_of_length_eq_zero q)
theorem ylM:∀(l:List AV) (i t:Nat),lkF (entF l i) t=if i≤t then (l[t-i]?).getD .un else .un
 | [],i,t=>by simp[entF,lkF]
 | u::l,i,t=>by
   show lkF ((i,u)::entF l (i+1)) t=_
   rw[yaJ,ylM l (i+1) t]
   simp only
   by_cases h:i=t
   ·subst h;simp
   ·rw[if_neg h]
    by_cases h2:i<=t
    ·rw[if_pos h2,if_pos (by omega),show t-i=(t-(i+1))+1 by omega,List.getElem?_cons_succ]
    ·rw[if_neg h2,if_neg (by omega)]
def okS (sp:Sl K) (env:List (DV K)):Bool:=okN sp&&wt (ctT sp.ti) env
theorem yj0 {sp:Sl K} {env:List (DV K)} (h:okS sp env=true):TmOk sp.ti∧TmOk sp.to∧(∀s∈sp.ti.bx.map (·.1)++sp.ti.rw.map (·.1),2000000≤s)∧(∀p∈sp.fs,p.1<npL sp)∧(∀p∈sp.ti.ks,p.1<npL sp)∧wt (ctT sp.ti) env=true:=by
 simp only[okS,okN,Bool.and_eq_true] at h
 obtain ⟨⟨⟨⟨⟨⟨⟨h1,h2⟩,h3⟩,_⟩,_⟩,h4⟩,h5⟩,h6⟩:=h
 exact ⟨ymY h1,ymY h2,fun s hs=>Nat.le_of_ble_eq_true (List.all_eq_true.1 h3 s hs),fun p hp=>Nat.le_of_ble_eq_true (List.all_eq_true.1 h4 p hp),fun p hp=>Nat.le_of_ble_eq_true (List.all_eq_true.1 h5 p hp),h6⟩
end
end Go.AV
end
noncomputable section
namespace Go.AV
open Go.RowKit Go.RG Go.Lib
variable {K:Nat->Type}
def rhoM (χ:Nat→Nat→Bool) (M:RM) (s:Nat):Option (Nat×Nat):=match lkA M.b s with
 |some k=>some k
 | none=>match lkA M.r s with
   |some (some k)=>if χ k.1 k.2=true then none else some k
   |_=>none
def xiM (χ:Nat→Nat→Bool) (M:RM) (s:Nat):Bool:=match lkA M.b s with
 |some _=>false
 | none=>match lkA M.r s with
   |some none=>true
   |some (some k)=>χ k.1 k.2
   |none=>false
section
variable {P:Program} {C:Cx K} {R:RR K} {ts ts1:TS K} {χ:Nat->Nat->Bool} {ξ:Nat->Bool} {ds:DS} {B:Base} {N:Nat} {ρ:Nat->Option (Nat×Nat)} {p:Nat×Nat->Prop} {rg:List (Nat×TV K)}
theorem ypG (hC:CxOk P C) (hx:ExtR rg ts.rg) {τ:Tm} {env:List (DV K)} {M1:RM} (h:rdM C τ ts=some (env,M1)) (hh:List RS) (hγ:GM P C R ts χ ds):
  (∀s k,rhoM χ M1 s=some k->χ k.1 k.2=false/\∃b b1,ts.tb k.1 k.2=some b/\lkB (bdT C τ rg hh env).od s=some b1/\BM P C ts (bdT C τ rg hh env) χ (xiM χ M1) ds (rhoM χ M1) (fun _=>False) b b1)/\
  (∀s b1,lkB (bdT C τ rg hh env).od s=some b1->xiM χ M1 s=false->∃k,rhoM χ M1 s=some k)/\(∀s,xiM χ M1 s=true->rhoM χ M1 s=none/\∃e,lkB (bdT C τ rg hh env).od s=some (.row e []))/\
  (∀s s' k,rhoM χ M1 s=some k->rhoM χ M1 s'=some k->s=s')/\∀t,TM P C ts (bdT C τ rg hh env) χ (xiM χ M1) ds (rhoM χ M1) (fun _=>False) (lkT ts.fr t) (lkT (bdT C τ rg hh env).fr t):=by
 unfold rdM at h
 split at h
 rotate_left
 ·cases h
 rename_i a m1 h1
 split at h
 rotate_left
 ·cases h
 rename_i b M h2
 split at h
 rotate_left
 ·cases h
 rename_i c h3 h4
 simp only[Option.some.injEq,Prod.mk.injEq] at h
 obtain ⟨rfl,rfl⟩:=h
 simp only[Bool.and_eq_true] at h4
 obtain ⟨hnod,hdom⟩:=h4
 simp only[ylW,Bool.and_eq_true] at hdom
 obtain ⟨⟨hdb,hdr⟩,hdis⟩:=hdom
 have hnod:=yfK hnod
 obtain ⟨nr,nb,ndis⟩:=List.nodup_append.1 hnod
 let ρ:Nat->Option (Nat×Nat):=rhoM χ M
 let ξ:Nat->Bool:=xiM χ M
 obtain ⟨rb,gb1,gb2⟩:=ykC τ.rw c h3|>fun x=>(⟨rfl,x.1,x.2⟩:(bdR τ.rw c=bdR τ.rw c)/\_/\_)
 have hbname:∀s k,lkA M.b s=some k->τ.bx.any (fun q=>Nat.beq q.1 s)=true:=fun s k hs=>ycq hs hdb
 have hrname:∀s k,lkA M.r s=some k->τ.rw.any (fun q=>Nat.beq q.1 s)=true:=fun s k hs=>ycq hs hdr
 have hapart:∀s,τ.bx.any (fun q=>Nat.beq q.1 s)=true→τ.rw.any (fun q=>Nat.beq q.1 s)=true→False:=by
  intro s q1 q2
  obtain ⟨x,hx1,hx2⟩:=List.any_eq_true.1 q1
  obtain ⟨y,hy1,hy2⟩:=List.any_eq_true.1 q2
  have:=List.all_eq_true.1 (List.all_eq_true.1 hdis x hx1) y hy1
  rw[nbeq.1 hx2,nbeq.1 hy2,nbeq.2 rfl] at this;cases this
 have hbr:∀s k k',lkA M.b s=some k->lkA M.r s=some k'->False:=fun s k k' q1 q2=>hapart s (hbname s k q1) (hrname s k' q2)
 have hρb:∀s k,lkA M.b s=some k→ρ s=some k:=by
  intro s k hs
  show (match lkA M.b s with|some k=>some k|none=>_)=_
  rw[hs]
 have hρr:∀s k,lkA M.r s=some (some k)→ρ s=(if χ k.1 k.2=true then none else some k)∧ξ s=χ k.1 k.2:=by
  intro s k hs
  have hn:lkA M.b s=none:=by
   cases hq:lkA M.b s with
   |none=>rfl
   |some k'=>exact (hbr s k' _ hq hs).elim
  constructor
  ·show (match lkA M.b s with|some k=>some k|none=>match lkA M.r s with|some (some k)=>if χ k.1 k.2=true then none else some k|_=>none)=_
   rw[hn,hs]
  ·show (match lkA M.b s with|some _=>false|none=>match lkA M.r s with|some none=>true|some (some k)=>χ k.1 k.2|none=>false)=_
   rw[hn,hs]
 have hξn:∀s,lkA M.r s=some none→ρ s=none∧ξ s=true:=by
  intro s hs
  have hn:lkA M.b s=none:=by
   cases hq:lkA M.b s with
   |none=>rfl
   |some k'=>exact (hbr s k' _ hq hs).elim
  constructor
  ·show (match lkA M.b s with|some k=>some k|none=>match lkA M.r s with|some (some k)=>if χ k.1 k.2=true then none else some k|_=>none)=_
   rw[hn,hs]
  ·show (match lkA M.b s with|some _=>false|none=>match lkA M.r s with|some none=>true|some (some k)=>χ k.1 k.2|none=>false)=_
   rw[hn,hs]
 have hρi:∀s k,ρ s=some k→(lkA M.b s=some k)∨(lkA M.r s=some (some k)∧χ k.1 k.2=false):=by
  intro s k hs
  have hs':(match lkA M.b s with|some k=>some k|none=>match lkA M.r s with|some (some k)=>if χ k.1 k.2=true then none else some k|_=>none)=some k:=hs
  split at hs'
  ·rename_i k' e;cases hs';exact .inl e
  ·split at hs'
   ·rename_i k' e
    split at hs'
    ·cases hs'
    ·rename_i hx';cases hs';exact .inr ⟨e,by simpa using hx'⟩
   ·cases hs'
 let tsS:TS K:=bdT C τ rg hh (a++b++c)
 obtain ⟨sub1,t1⟩:=yl3 (P:=P) (ts1:=tsS) (χ:=χ) (ξ:=ξ) (ρ:=ρ) (ds:=ds) (p:=fun _=>False) hC hx τ.ks ⟨[],[]⟩ m1 a h1
 obtain ⟨sub2,t2⟩:=yiD (P:=P) (ts1:=tsS) (χ:=χ) (ξ:=ξ) (ρ:=ρ) (ds:=ds) (p:=fun _=>False) hC hx τ.bx m1 M b h2
 obtain ⟨fr1,e1,f1⟩:=t1 (b++c)
 obtain ⟨od1,e2,g2,f2⟩:=t2 c
 have hS:tsS=⟨fr1,od1++bdR τ.rw c,[],rg,hh⟩:=by
  show bdT C τ rg hh (a++b++c)=_
  unfold bdT
  rw[List.append_assoc,e1]
  simp only
  rw[e2]
 have hlk:∀s,lkB tsS.od s=if memB od1 s=true then lkB od1 s else lkB (bdR τ.rw c) s:=by
  intro s;rw[hS];exact yjp _ _ s
 have hrowlk:∀s,τ.rw.any (fun q=>Nat.beq q.1 s)=true→lkB tsS.od s=lkB (bdR τ.rw c) s:=by
  intro s hs
  rw[hlk,if_neg]
  intro hm
  rw[g2] at hm
  exact hapart s hm hs
 have hGood:Good (rg:=rg) ts tsS χ ξ ρ M:=by
  refine ⟨?_,?_,?_,hρb,by rw[hS]⟩
  ·intro s k hs n hn
   obtain ⟨r1,r2⟩:=hρr s k hs
   have hnm:=hrname s _ hs
   obtain ⟨e,⟨q1,_⟩|⟨q,l',q1,q2,q3⟩⟩:=gb2 s (by rw[gb1];exact hnm)
   ·rw[hs] at q1;cases q1
   ·rw[hs] at q1;cases q1
    refine ⟨?_,fun hx'=>⟨by rw[r1,hx'];rfl,by rw[r2,hx']⟩,fun hx'=>by rw[r2,hx']⟩
    show tln (lkB tsS.od s)=_
    rw[hrowlk s hnm,q3]
    rw[(hγ.trow hC q2).1] at hn
    exact hn
  ·intro s k hs
   obtain ⟨e,⟨q1,_⟩|⟨q,l',q1,q2,q3⟩⟩:=gb2 s (by rw[gb1];exact hrname s _ hs)
   ·rw[hs] at q1;cases q1
   ·rw[hs] at q1;cases q1
    exact ⟨_,(hγ.trow hC q2).1⟩
  ·intro s hs
   obtain ⟨r1,r2⟩:=hξn s hs
   refine ⟨?_,r2⟩
   have hnm:=hrname s _ hs
   obtain ⟨e,⟨q1,q3⟩|⟨q,l',q1,q2,q3⟩⟩:=gb2 s (by rw[gb1];exact hnm)
   ·show tln (lkB tsS.od s)=_
    rw[hrowlk s hnm,q3];rfl
   ·rw[hs] at q1;cases q1
 show (∀s k,ρ s=some k→χ k.1 k.2=false∧∃b b1,ts.tb k.1 k.2=some b∧lkB tsS.od s=some b1∧BM P C ts tsS χ ξ ds ρ (fun _=>False) b b1)∧(∀s b1,lkB tsS.od s=some b1→ξ s=false→∃k,ρ s=some k)∧(∀s,ξ s=true→ρ s=none∧∃e,lkB tsS.od s=some (.row e []))∧
  (∀s s' k,ρ s=some k->ρ s'=some k->s=s')/\∀t,TM P C ts tsS χ ξ ds ρ (fun _=>False) (lkT ts.fr t) (lkT tsS.fr t)
 refine ⟨?_,?_,?_,?_,?_⟩
 ·intro s k hs
  rcases hρi s k hs with hb|⟨hr,hx'⟩
  ·have hm:memB od1 s=true:=by rw[g2];exact hbname s k hb
   obtain ⟨q,b,b1,q1,q2,qx,q3,q4⟩:=f2 s hm
   rw[hb] at q1;cases q1
   exact ⟨hγ.bx q2 qx,_,_,q2,by rw[hlk,if_pos hm];exact q3,q4 hGood⟩
  ·have hnm:=hrname s _ hr
   obtain ⟨e,⟨q1,_⟩|⟨q,l',q1,q2,q3⟩⟩:=gb2 s (by rw[gb1];exact hnm)
   ·rw[hr] at q1;cases q1
   ·rw[hr] at q1;cases q1
    refine ⟨hx',?_⟩
    have q3':lkB tsS.od s=some (.row e l'):=by rw[hrowlk s hnm];exact q3
    unfold trow at q2
    split at q2
    ·rename_i e' l0 hb
     obtain ⟨rfl,rfl⟩:=yck q2
     exact ⟨_,_,hb,q3',BM.row⟩
    ·rename_i e' n cs hb
     split at q2
     ·rename_i he
      have:=nbeq.1 he;subst this
      exact ⟨_,_,hb,q3',BM.lr hC q2⟩
     ·cases q2
    ·cases q2
 ·intro s b1 hs hxx
  rw[hlk] at hs
  by_cases hm:memB od1 s=true
  ·obtain ⟨q,b0,b2,q1,_⟩:=f2 s hm
   exact ⟨q,hρb s q q1⟩
  ·rw[if_neg hm] at hs
   have hm2:=ydH hs
   obtain ⟨e,⟨q1,_⟩|⟨q,l',q1,q2,q3⟩⟩:=gb2 s hm2
   ·rw[(hξn s q1).2] at hxx;cases hxx
   ·obtain ⟨r1,r2⟩:=hρr s q q1
    rw[r2] at hxx
    exact ⟨q,by rw[r1,hxx];rfl⟩
 ·intro s hs
  have hs':(match lkA M.b s with|some _=>false|none=>match lkA M.r s with|some none=>true|some (some k)=>χ k.1 k.2|none=>false)=true:=hs
  split at hs'
  ·cases hs'
  ·split at hs'
   ·rename_i hr
    obtain ⟨r1,r2⟩:=hξn s hr
    refine ⟨r1,?_⟩
    have hnm:=hrname s _ hr
    obtain ⟨e,⟨q1,q3⟩|⟨q,l',q1,q2,q3⟩⟩:=gb2 s (by rw[gb1];exact hnm)
    ·exact ⟨e,by rw[hrowlk s hnm];exact q3⟩
    ·rw[hr] at q1;cases q1
   ·rename_i k hr
    obtain ⟨r1,r2⟩:=hρr s k hr
    refine ⟨by rw[r1,if_pos hs'],?_⟩
    have hnm:=hrname s _ hr
    obtain ⟨e,⟨q1,q3⟩|⟨q,l',q1,q2,q3⟩⟩:=gb2 s (by rw[gb1];exact hnm)
    ·rw[hr] at q1;cases q1
    ·rw[hr] at q1;cases q1
     have:=(hγ.trow hC q2).2.1 hs'
     subst this
     exact ⟨e,by rw[hrowlk s hnm];exact q3⟩
   ·cases hs'
 ·intro s s' k hs hs'
  rcases hρi s k hs with q1|⟨q1,_⟩<;>rcases hρi s' k hs' with q2|⟨q2,_⟩
  ·exact yfI nb q1 q2
  ·exact absurd rfl (ndis k (ycc q2) k (yb9 q1))
  ·exact absurd rfl (ndis k (ycc q1) k (yb9 q2))
  ·exact ye6 nr q1 q2
 ·intro t
  have:=f1 (hGood.sub sub2) t
  rw[hS];rw[hS] at this
  exact this
end
theorem RV.vw {ρ:Nat→Option (Nat×Nat)} {S:St} {f:Nat→Nat→Option K2} (hf:∀d k,ρ d=some k→f k.1 k.2=some (d,1)) {u v:AV} (h:RV ρ S (fun _=>False) u v):VW (reA f v) u:=by
 have hL:∀ {us vs:List AV},us.length=vs.length→(∀(j:Nat) (u v:AV),us[j]? =some u→vs[j]? =some v→VW (reA f v) u)→VWs (reAs f vs) us:=by
  intro us vs hl hh
  refine ⟨by rw[ycd];exact hl.symm,fun j a b p q=> ?_⟩
  obtain ⟨w,e1,rfl⟩:=ydJ p
  exact hh j b w q e1
 induction h with
 |no u h=>rw[yhg f u h];exact VW.refl _
 |un v=>exact VW.un _
 |gs d n k h=>simp only[reA,hf d k h];exact VW.refl _
 |pt d off k h=>simp only[reA,hf d k h];exact VW.refl _
 |pub k n b hp=>exact hp.elim
 |nil=>exact VW.dwk (.sl true 0 [])
 | ep xs off w=>
   intro G x hx
   obtain ⟨b,base,g,e,a1,a2,a3,a4,a5⟩:=VR.ep_inv (show VR G (.ep xs off) x from hx)
   rw[e,show base+off=(base+off)+0 from rfl]
   have hsub:∀(j:Nat) (u:AV),((xs.drop off).take w)[j]? =some u→xs[off+j]? =some u:=by
    intro j u hu
    simp only[List.getElem?_take,List.getElem?_drop] at hu
    split at hu
    ·exact hu
    ·cases hu
   refine .ep _ 0 b (base+off) (fun j=>g (off+j)) a1 ?_ ?_ ?_ (yhE (fun u hu=>List.mem_of_mem_drop (List.mem_of_mem_take hu)) a5)
   ·intro j u hu;have:=a2 _ u (hsub j u hu);rw[Nat.add_assoc];exact this
   ·intro j u hu;exact a3 _ u (hsub j u hu)
   ·intro j u hu;exact a4 _ u (hsub j u hu)
 |agg us vs hl h ih=>simp only[reA];exact VW.agg (hL hl ih)
 |tup us vs hl h ih=>simp only[reA];exact VW.tup (hL hl ih)
 |fn g us vs us' vs' hl h hl' h' ih ih'=>simp only[reA];exact VW.fn (hL hl ih) (hL hl' ih')
def innM {β:Type} (g:Nat->Option K2) (l:List (Nat×β)):List (Nat×K2):=l.filterMap fun p=>(g p.1).map fun k=>(p.1,k)
theorem ycb {β:Type} {g:Nat→Option K2} {l:List (Nat×β)} {s:Nat} {k:K2}:(s,k)∈innM g l↔g s=some k∧s∈l.map (·.1):=by
 unfold innM
 rw[List.mem_filterMap]
 constructor
 ·rintro ⟨p,hp,h⟩
  obtain ⟨k',e1,e2⟩:=Option.map_eq_some_iff.1 h
  cases e2
  exact ⟨e1,List.mem_map_of_mem hp⟩
 ·rintro ⟨h,hm⟩
  obtain ⟨p,hp,rfl⟩:=List.mem_map.1 hm
  exact ⟨p,hp,by rw[h];rfl⟩
theorem yg8 {β:Type} {g:Nat→Option K2}:∀ {l:List (Nat×β)},(l.map (·.1)).Nodup→((innM g l).map (·.1)).Nodup
 | [],_=>List.nodup_nil
 | p ::l,h=>by
   obtain ⟨h1,h2⟩:=List.nodup_cons.1 (show (p.1::l.map (·.1)).Nodup from h)
   have ih:=yg8 (g:=g) h2
   unfold innM
   rw[List.filterMap_cons]
   cases hg:g p.1 with
   |none=>exact ih
   | some k=>
     simp only[Option.map_some,List.map_cons]
     refine List.nodup_cons.2 ⟨fun hm=> ?_,ih⟩
     obtain ⟨q,hq,e⟩:=List.mem_map.1 hm
     have:=(ycb.1 (show (q.1,q.2)∈innM g l from hq)).2
     rw[e] at this;exact h1 this
theorem yhR {β:Type} {g:Nat→Option K2} (inj:∀s s' k,g s=some k→g s'=some k→s=s'):∀ {l:List (Nat×β)},(l.map (·.1)).Nodup→((innM g l).map (·.2)).Nodup
 | [],_=>List.nodup_nil
 | p ::l,h=>by
   obtain ⟨h1,h2⟩:=List.nodup_cons.1 (show (p.1::l.map (·.1)).Nodup from h)
   have ih:=yhR inj h2
   unfold innM
   rw[List.filterMap_cons]
   cases hg:g p.1 with
   |none=>exact ih
   | some k=>
     simp only[Option.map_some,List.map_cons]
     refine List.nodup_cons.2 ⟨fun hm=> ?_,ih⟩
     obtain ⟨q,hq,e⟩:=List.mem_map.1 hm
     obtain ⟨a,b⟩:=ycb.1 (show (q.1,q.2)∈innM g l from hq)
     have:=inj q.1 p.1 k (by rw[a,e]) hg
     rw[this] at b;exact h1 b
theorem yl7 {α β:Type} [DecidableEq α] {l:List (α×β)} (hn:(l.map (·.1)).Nodup) {a:α} {b:β} (h:(a,b)∈l):lkE l a=some b:=by
 induction l with
 |nil=>cases h
 | cons p l ih=>
   obtain ⟨h1,h2⟩:=List.nodup_cons.1 (show (p.1::l.map (·.1)).Nodup from hn)
   simp only[lkE]
   rcases List.mem_cons.1 h with rfl|h
   ·rw[if_pos rfl]
   ·rw[if_neg (fun e=>h1 (by rw[e];exact List.mem_map_of_mem (f:=(·.1)) h))];exact ih h2 h
theorem ylK {α β:Type} [DecidableEq β] {l:List (α×β)} (hn:(l.map (·.2)).Nodup) {a:α} {b:β} (h:(a,b)∈l):lkZ l b=some a:=by
 induction l with
 |nil=>cases h
 | cons p l ih=>
   obtain ⟨h1,h2⟩:=List.nodup_cons.1 (show (p.2::l.map (·.2)).Nodup from hn)
   simp only[lkZ]
   rcases List.mem_cons.1 h with rfl|h
   ·rw[if_pos rfl]
   ·rw[if_neg (fun e=>h1 (by rw[e];exact List.mem_map_of_mem (f:=(·.2)) h))];exact ih h2 h
mutual
theorem yrk {C:Cx K} {ts ts':TS K} {χ:Nat→Nat→Bool} (h:∀s c,ts.tb s c=ts'.tb s c):∀u:TV K,aT C ts χ u=aT C ts' χ u
 | .rw s c=>by simp only[aT,h]
 | .agg cs=>by simp only[aT,ygY h cs]
 | .tup cs=>by simp only[aT,ygY h cs]
 | .fn f a c=>by simp only[aT,ygY h a,ygY h c]
 | .cn _ v=>by simp only[aT,yrk h v]
 | .it _ _| .bl _| .st _| .sl _ _| .nil| .un| .px _ _ _| .lb _| .li _ _| .em| .pr _ _ _ _ _| .ep _ _ _ _| .gs _ _| .nptr| .fv _ _ _| .yl _=>by simp only[aT]
theorem ygY {C:Cx K} {ts ts':TS K} {χ:Nat→Nat→Bool} (h:∀s c,ts.tb s c=ts'.tb s c):∀us:List (TV K),aTs C ts χ us=aTs C ts' χ us
 | []=>rfl
 |u::us=>by simp only[aTs,yrk h u,ygY h us]
end
theorem ym2 {K:Nat→Type}:∀ {l:List (Nat×Option (TB K))} {s:Nat},memB l s=true→s∈l.map (·.1)
 | [],_,h=>by cases h
 | p::l,s,h=>by
   have h':(Nat.beq p.1 s||memB l s)=true:=h
   simp only[Bool.or_eq_true] at h'
   rcases h' with h1|h1
   ·rw[<-nbeq.1 h1];exact List.mem_cons_self
   ·exact List.mem_cons_of_mem _ (ym2 h1)
theorem BW.trans {a b c:Option Blk} (h:BW a b) (k:BW b c):BW a c:=by
 cases a with
 | none=>cases b with
   |none=>exact k
   |some b=>exact h.elim
 | some a=>cases b with
   |none=>exact h.elim
   | some b=>cases c with
     |none=>exact k.elim
     | some c=>
       rcases h with ⟨a1,a2,a3,a4,a5⟩|⟨a1,a2,a3,a4,a5,a6⟩
       ·rcases k with ⟨b1,b2,b3,b4,b5⟩|⟨b1,_⟩
        ·refine .inl ⟨a1,b2.trans a2,b3.trans a3,a4.trans b4,fun j u v p q=> ?_⟩
         have hj:j<b.cells.length:=by rw[b4];exact (List.getElem?_eq_some_iff.1 q).1
         exact (a5 j u _ p (List.getElem?_eq_getElem hj)).trans (b5 j _ v (List.getElem?_eq_getElem hj) q)
        ·exact absurd (a2.symm.trans (yef b1)) a1
       ·rcases k with ⟨b1,_⟩|⟨_,_,b3,b4,b5,b6⟩
        ·exact absurd (a3.trans (yef a1)) b1
        ·exact .inr ⟨a1,a2,b3.trans a3,b4.trans a4,b5,b6.trans a6⟩
section
variable {P:Program} {C:Cx K} {R:RR K} {ts:TS K} {χ:Nat->Nat->Bool} {ds:DS}
theorem yge:∀ {us:List (TV K)} {vs:List AV} (i t:Nat),TL P C ts χ us vs→TR P C ts χ (lkT (zipT us i) t) (lkF (entF vs i) t)
 | [],vs,i,t,_=> .un _
 |u::us,[],i,t,h=>by have:=h.1;simp at this
 | u::us,v::vs,i,t,h=>by
   show TR P C ts χ (lkT ((i,u)::zipT us (i+1)) t) (lkF ((i,v)::entF vs (i+1)) t)
   rw[yba,yaJ]
   simp only
   split
   ·exact h.head.1
   ·exact yge (i+1) t h.head.2
theorem ykm {Φ:List (Sp K)} {fr fr':List (Nat×TV K)}:∀ {l:List (Nat×List Nat×List Nat)} {fs:List (FV K)} (t:Nat),yip C Φ fr l=some fs→lkT (zipF l fs++fr') t=lkT fr' t∨∃ps rs F,lkT (zipF l fs++fr') t= .fv ps rs F∧F∈fs∧ynM C Φ (.f ps rs) (lkT fr t)=some (.f F)
 | [],fs,t,h=>by cases h;exact .inl rfl
 | p ::l,fs,t,h=>by
   simp only[yip] at h
   split at h
   ·rename_i F fs' h1 h2
    cases h
    show lkT ((p.1, .fv p.2.1 p.2.2 F)::(zipF l fs'++fr')) t=_∨∃ps rs F',lkT ((p.1, .fv p.2.1 p.2.2 F)::(zipF l fs'++fr')) t=_/\_/\_
    rw[yba]
    split
    ·rename_i e;subst e;exact .inr ⟨_,_,F,rfl,List.mem_cons_self,h1⟩
    ·rcases ykm t h2 with e|⟨ps,rs,F',e1,e2,e3⟩
     ·exact .inl e
     ·exact .inr ⟨ps,rs,F',e1,List.mem_cons_of_mem _ e2,e3⟩
   ·cases h
theorem yn8 (hC:CxOk P C) (hγ:GM P C R ts χ ds) (hk:DOk ds) {sp:Sl K} {us:List (TV K)} {vs:List AV} {env:List (DV K)} {M:RM} {fs:List (FV K)} (ht:TL P C ts χ us vs)
  (h:rdM C sp.ti ⟨zipT us 0,ts.od,ts.nw,ts.rg,ts.h⟩=some (env,M)) (hn:((entL C sp fs env).od.map (·.1)).Nodup) (h2:∀s∈(entL C sp fs env).od.map (·.1),2000000<=s):
  ViOk (entL C sp fs env) (χ1 (xiM χ M))/\ygh (innM (rhoM χ M) (entL C sp fs env).od) (toD ds).M/\
  (∀d,BW (memL (innM (rhoM χ M) (entL C sp fs env).od) (toD ds).M d) (memT C (entL C sp fs env) (χ1 (xiM χ M)) d))/\
  (∀d k,rhoM χ M d=some k->finL (innM (rhoM χ M) (entL C sp fs env).od) k.1 k.2=some (d,1))/\
  ∀t,VW (reA (finL (innM (rhoM χ M) (entL C sp fs env).od)) (lkF (entF vs 0) t)) (aT C (entL C sp fs env) (χ1 (xiM χ M)) (lkT (bdT C sp.ti [] [] env).fr t)):=by
 have hm:Mono ts ⟨zipT us 0,ts.od,ts.nw,ts.rg,ts.h⟩ χ χ:=⟨fun _ _ q=>q,fun _ _ q=>q,fun _ _ _=> .inr ⟨rfl,rfl⟩⟩
 have hA:GM P C R ⟨zipT us 0,ts.od,ts.nw,ts.rg,ts.h⟩ χ {ds with fr:=entF vs 0}:=
  ⟨fun t=>(yge 0 t ht).mono hm,fun s c b hb hx=>by obtain ⟨kb,a,b⟩:=hγ.mb s c b hb hx;exact ⟨kb,a,b.mono hm⟩,hγ.vi,hγ.nw,hγ.hp,hγ.lv⟩
 obtain ⟨r1,r2,r3,r4,r5⟩:=ypG hC (rg:= []) (fun id w q=>by cases q) h [] hA
 have hod:(entL C sp fs env).od=(bdT C sp.ti [] [] env).od:=rfl
 have htb:∀s c,(bdT C sp.ti [] [] env).tb s c=(entL C sp fs env).tb s c:=fun s c=>rfl
 have hnm:∀s k,rhoM χ M s=some k→s∈(entL C sp fs env).od.map (·.1):=fun s k hs=>by
  obtain ⟨_,b,b1,_,e,_⟩:=r1 s k hs
  exact ym2 (ydH e)
 have hin:∀d k,rhoM χ M d=some k→finL (innM (rhoM χ M) (entL C sp fs env).od) k.1 k.2=some (d,1):=fun d k hd=>by
  unfold finL
  rw[show lkZ (innM (rhoM χ M) (entL C sp fs env).od) (k.1,k.2)=some d from ylK (yhR r4 hn) (ycb.2 ⟨hd,hnm d k hd⟩)]
  rfl
 have hkb:∀(k:Nat×Nat) (b:TB K),ts.tb k.1 k.2=some b→χ k.1 k.2=false→∃kb,ds.kb k.1 k.2=some kb∧MR P C ⟨zipT us 0,ts.od,ts.nw,ts.rg,ts.h⟩ χ b kb∧(toD ds).M (.l k.1 k.2)=some kb.blk∧kb.okb:=fun k b hb hx=>by
  obtain ⟨kb,e1,e2⟩:=hA.mb k.1 k.2 b hb hx
  exact ⟨kb,e1,e2,by show (ds.kb k.1 k.2).map KB.blk=_;rw[show ds.kb k.1 k.2=some kb from e1];rfl,(hk k.1 k.2 kb e1).1⟩
 refine ⟨?_,⟨yg8 hn,yhR r4 hn,fun p hp=> ?_⟩,fun d=> ?_,hin,fun t=> ?_⟩
 ·intro s c hx
  simp only[χ1,Bool.and_eq_true,decide_eq_true_eq] at hx
  obtain ⟨rfl,hx⟩:=hx
  exact (r3 s hx).2
 ·obtain ⟨a,b⟩:=ycb.1 (show (p.1,p.2)∈_ from hp)
  obtain ⟨hx,b0,b1,e,_⟩:=r1 _ _ a
  obtain ⟨kb,_,_,e3,e4⟩:=hkb p.2 b0 e hx
  exact ⟨h2 _ b,kb.blk,e3,e4⟩
 ·cases hd:rhoM χ M d with
  | none =>
    have e1:memL (innM (rhoM χ M) (entL C sp fs env).od) (toD ds).M d=none:=by
     unfold memL
     cases he:lkE (innM (rhoM χ M) (entL C sp fs env).od) d with
     |none=>rfl
     |some k=>have:=(ycb.1 (yiE he)).1;rw[hd] at this;cases this
    have e2:memT C (entL C sp fs env) (χ1 (xiM χ M)) d=none:=by
     unfold memT
     cases hx:χ1 (xiM χ M) d 1 with
     |true=>rfl
     | false=>
       simp only
       cases hb:lkB (entL C sp fs env).od d with
       |none=>rfl
       | some b1=>
         obtain ⟨k,hk'⟩:=r2 d b1 hb (by simpa [χ1] using hx)
         rw[hd] at hk';cases hk'
    rw[e1,e2];trivial
  | some k=>
    obtain ⟨hx,b,b1,e1,e2,e3⟩:=r1 d k hd
    obtain ⟨kb,q1,q2,q3,q4⟩:=hkb k b e1 hx
    obtain ⟨cells1,c1,c2,c3⟩:=e3 kb q2
    have hx0:χ1 (xiM χ M) d 1=false:=by
     cases hq:xiM χ M d with
     |true=>rw[(r3 d hq).1] at hd;cases hd
     |false=>simp[χ1,hq]
    have e4:memL (innM (rhoM χ M) (entL C sp fs env).od) (toD ds).M d=some (Blk.re (finL (innM (rhoM χ M) (entL C sp fs env).od)) kb.blk):=by
     unfold memL
     rw[yl7 (yg8 hn) (ycb.2 ⟨hd,hnm d k hd⟩)]
     simp only[Option.bind_some]
     rw[q3];rfl
    have e5:memT C (entL C sp fs env) (χ1 (xiM χ M)) d=some (bT C (entL C sp fs env) (χ1 (xiM χ M)) b1):=by
     unfold memT
     rw[hx0,show lkB (entL C sp fs env).od d=some b1 from e2];rfl
    rw[e4,e5]
    have w1:BW (some (Blk.re (finL (innM (rhoM χ M) (entL C sp fs env).od)) kb.blk)) (some ⟨kb.e,kb.sz,cells1⟩):=by
     rcases q4 with q4|⟨q4,q5⟩
     ·refine .inl ⟨q4,rfl,rfl,?_,fun j u v p q=> ?_⟩
      ·show (reAs _ kb.cells).length=cells1.length
       rw[ycd];exact c2.1.symm
      ·obtain ⟨w,f1,rfl⟩:=ydJ p
       exact (c2.2 j v w q f1).vw hin
     ·obtain ⟨d1,d2,d3⟩:=c3 q4 q5
      have hnl:noLs kb.cells=true:=by rw[<-ybn,<-d3,ybn];exact d2
      refine .inr ⟨q4,?_,rfl,rfl,d1,?_⟩
      ·rw[yhx];exact q5
      ·show dwks cells1=dwks (reAs _ kb.cells)
       rw[ycy _ _ hnl];exact d3
    have w2:=c1.canon (show (⟨kb.e,kb.sz,cells1,false⟩:KB).okb from q4.imp id fun q=>⟨q.1,(c3 q.1 q.2).1⟩)
    have e6:bT C (entL C sp fs env) (χ1 (xiM χ M)) b1=bT C (bdT C sp.ti [] [] env) (χ1 (xiM χ M)) b1:=by
     cases b1<;>simp only[bT,ygY (fun s c=>(htb s c).symm)]
    rw[e6]
    exact w1.trans w2
 ·obtain ⟨v1,t1,t2⟩:=r5 t _ (hA.fr t)
  rw[<-yrk htb]
  exact (t2.vw hin).trans t1.canon
theorem ylL (hC:CxOk P C) {Φ:List (Sp K)} (hS:SsOk P C Φ) {sp:Sl K} {us:List (TV K)} {vs:List AV} {env:List (DV K)} {fs:List (FV K)} {χ0:Nat→Nat→Bool} {f:Nat→Nat→Option K2} (ht:TL P C ts χ us vs)
  (hf:yip C Φ (zipT us 0) sp.fs=some fs) (hl:us.length=npL sp) (hv:∀t,VW (reA f (lkF (entF vs 0) t)) (aT C (entL C sp fs env) χ0 (lkT (bdT C sp.ti [] [] env).fr t))):VWs (vs.map (reA f)) (argT C sp (entL C sp fs env) χ0):=by
 refine ⟨by unfold argT;rw[List.length_map,List.length_map,List.length_range,<-hl];exact ht.1,fun j u w hu hw=> ?_⟩
 rw[List.getElem?_map] at hu
 obtain ⟨v,e1,rfl⟩:=Option.map_eq_some_iff.1 hu
 unfold argT at hw
 rw[List.getElem?_map] at hw
 obtain ⟨i,e2,rfl⟩:=Option.map_eq_some_iff.1 hw
 have hi:i=j:=by
  have hj:j<npL sp:=by simpa using (List.getElem?_eq_some_iff.1 e2).1
  rw[List.getElem?_range hj] at e2;exact (Option.some.inj e2).symm
 subst hi
 have hvi:lkF (entF vs 0) i=v:=by rw[ylM,if_pos (Nat.zero_le _),Nat.sub_zero,e1];rfl
 have ht':=yge 0 i ht
 rw[hvi] at ht'
 have hv':=hv i
 rw[hvi] at hv'
 rcases ykm (fr':=(bdT C sp.ti [] [] env).fr) i hf with e|⟨ps,rs,F,e,_,e3⟩
 ·rw[show lkT (entL C sp fs env).fr i=lkT (bdT C sp.ti [] [] env).fr i from e];exact hv'
 ·rw[show lkT (entL C sp fs env).fr i= .fv ps rs F from e]
  obtain ⟨q1,q2,_⟩:=yfU hC hS e3 ht'
  rw[yhg f v q1]
  have q3:dwk v=F.av:=q2
  simp only[aT]
  rw[<-q3]
  exact VW.dwk v
theorem yid (hC:CxOk P C) {Φ:List (Sp K)} (hS:SsOk P C Φ) {us:List (TV K)} {vs:List AV} (ht:TL P C ts χ us vs):∀ {l:List (Nat×List Nat×List Nat)} {fs:List (FV K)},yip C Φ (zipT us 0) l=some fs→fs.length=l.length∧∀F∈fs,FOk P C F
 | [],fs,h=>by cases h;exact ⟨rfl,fun F hF=>by cases hF⟩
 | p::l,fs,h=>by
   simp only[yip] at h
   split at h
   ·rename_i F fs' h1 h2
    cases h
    obtain ⟨a,b⟩:=yid hC hS ht h2
    refine ⟨by simp[a],fun G hG=> ?_⟩
    rcases List.mem_cons.1 hG with rfl|hG
    ·exact (yfU hC hS h1 (yge 0 p.1 ht)).2.2 _ rfl
    ·exact b G hG
   ·cases h
theorem yjB (hC:CxOk P C) {Φ:List (Sp K)} (hS:SsOk P C Φ) (hγ:GM P C R ts χ ds) (hk:DOk ds) {sp:Sl K} (hL:SlOk P C sp) {us:List (TV K)} {vs:List AV} {env out:List (DV K)} {M:RM} {fs:List (FV K)} (ht:TL P C ts χ us vs)
  (h:rdM C sp.ti ⟨zipT us 0,ts.od,ts.nw,ts.rg,ts.h⟩=some (env,M)) (hf:yip C Φ (zipT us 0) sp.fs=some fs) (hl:us.length=npL sp) (hn:((entL C sp fs env).od.map (·.1)).Nodup) (h2:∀s∈(entL C sp fs env).od.map (·.1),2000000<=s) (hW:sp.W fs env out):
  ygh (innM (rhoM χ M) (entL C sp fs env).od) (toD ds).M/\∀H n,yap P sp.f (vs.map (reA (finL (innM (rhoM χ M) (entL C sp fs env).od)))) (memL (innM (rhoM χ M) (entL C sp fs env).od) (toD ds).M) H n (EndL C sp (entL C sp fs env) (χ1 (xiM χ M)) out H n):=by
 obtain ⟨a1,a2,a3,a4,a5⟩:=yn8 hC hγ hk ht h hn h2
 obtain ⟨b1,b2⟩:=yid hC hS ht hf
 exact ⟨a2,fun H n=>(hL fs env out b1 b2 hW _ a1 H n).weak (ylL hC hS ht hf hl a5) a3⟩
end
structure yh5 (P:Program) (C:Cx K) (t1 t2:TS K) (χ' χ2:Nat→Nat→Bool) (m:RM) (n:Nat→Nat) (f:Nat→Nat→Option K2):Prop where
 r:∀s k,tln (t1.tb s 1)=some k->χ' s 1=false->∃q:K2,plV (K:=K) m n (.rw s 1)= .rw q.1 q.2/\f s 1=some q/\okr t2 q.1 q.2/\tln (t2.tb q.1 q.2)=some k/\χ2 q.1 q.2=false
 nr:∀s k,tln (t1.tb s 1)=some k->χ' s 1=true->TR P C t2 χ2 (plV m n (.rw s 1)) (.sl true 0 [])
 b:∀s,isBx (t1.tb s 1)=true->∃q:K2,(∀o,plV (K:=K) m n (.px s 1 o)= .px q.1 q.2 o)/\f s 1=some q/\okr t2 q.1 q.2
section
variable {P:Program} {C:Cx K} {t1 t2:TS K} {χ' χ2:Nat->Nat->Bool} {m:RM} {n:Nat->Nat} {f:Nat->Nat->Option K2}
mutual
theorem yio:∀u:TV K,yaE u=true→plV m n u=u
 | .agg cs,h=>by simp only[yaE] at h;simp only[plV,yec cs h]
 | .fn f a c,h=>by simp only[yaE,Bool.and_eq_true] at h;simp only[plV,yec a h.1,yec c h.2]
 | .rw _ _,h=>by simp[yaE] at h
 | .px _ _ _,h=>by simp[yaE] at h
 | .un,_| .tup _,_| .cn _ _,_| .it _ _,_| .bl _,_| .st _,_| .sl _ _,_| .nil,_| .lb _,_| .li _ _,_| .em,_| .pr _ _ _ _ _,_| .ep _ _ _ _,_| .gs _ _,_| .nptr,_| .fv _ _ _,_| .yl _,_=>by simp only[plV]
theorem yec:∀us:List (TV K),yaQ us=true→plVs m n us=us
 | [],_=>rfl
 |u::us,h=>by simp only[yaQ,Bool.and_eq_true] at h;simp only[plVs,yio u h.1,yec us h.2]
end
theorem ykk (hC:CxOk P C) (t:Nat) (x:K t):TR P C t2 χ2 (plV m n (inV C t x)) (reA f (aT C t1 χ' (inV C t x))):=by
 rcases ypB hC t x with e|e
 ·rw[e];exact .un _
 ·obtain ⟨a,b⟩:=(yoJ (ts:=t1) (χ:=χ') hC t x).noref (ts':=t2) (χ':=χ2) e
  rw[yio _ e,yhg f _ b];exact a
mutual
theorem yj8 (hC:CxOk P C) (h:yh5 P C t1 t2 χ' χ2 m n f) {bx rw:List Nat} (hrw:∀s,s∈rw→(tln (t1.tb s 1)).isSome=true) (hbx:∀s,s∈bx→isBx (t1.tb s 1)=true):∀(k:Kd) (a:List (DV K)),okK bx rw k=true→TR P C t2 χ2 (plV m n (bdV C [] k a).1) (reA f (aT C t1 χ' (bdV C [] k a).1))
 | .it k,a,_=>by cases a with
   |nil=>exact .un _
   |cons x a=>cases x<;>first|exact .it k _|exact .un _
 | .bl,a,_=>by cases a with
   |nil=>exact .un _
   |cons x a=>cases x<;>first|exact .bl _|exact .un _
 | .st,a,_=>by cases a with
   |nil=>exact .un _
   |cons x a=>cases x<;>first|exact .st _|exact .un _
 | .sl e,a,_=>by cases a with
   |nil=>exact .un _
   | cons x a=>cases x with
     | l e' l=>
       simp only[bdV]
       split
       ·exact .sl e _ false _ _ rfl (yiM hC e _)
       ·exact .un _
     |_=>exact .un _
 | .v t,a,_=>by cases a with
   |nil=>exact .un _
   | cons x a=>cases x with
     | v t' x=>
       simp only[bdV]
       split
       ·exact ykk hC t _
       ·exact .un _
     |_=>exact .un _
 | .row s,a,hk=>by
   simp only[okK] at hk
   obtain ⟨k,hk⟩:=Option.isSome_iff_exists.1 (hrw s (yd7.1 hk))
   have e:(bdV C [] (.row s) a).1= .rw s 1:=by cases a<;>rfl
   rw[e]
   simp only[aT,hk]
   cases hx:χ' s 1 with
   |true=>exact h.nr s k hk hx
   | false=>
     obtain ⟨q,e1,e2,e3,e4,e5⟩:=h.r s k hk hx
     rw[e1]
     simp only[reA,e2]
     exact .rw _ _ k e3 e4 e5
 | .px s o,a,hk=>by
   simp only[okK] at hk
   have e:(bdV C [] (.px s o) a).1= .px s 1 o:=by cases a<;>rfl
   obtain ⟨q,e1,e2,e3⟩:=h.b s (hbx s (yd7.1 hk))
   rw[e,e1 o]
   simp only[aT,reA,e2]
   exact .px _ _ o e3
 | .kp id,a,hk=>by simp[okK] at hk
 | .nil,a,_=>by
   have e:(bdV C [] .nil a).1= .nil:=by cases a<;>rfl
   rw[e];exact .nil
 | .np,a,_=>by
   have e:(bdV C [] .np a).1= .nptr:=by cases a<;>rfl
   rw[e];exact .nptr
 | .un,a,_=>by
   have e:(bdV C [] .un a).1= .un:=by cases a<;>rfl
   rw[e];exact .un _
 | .agg l,a,hk=>by
   simp only[okK] at hk
   have:=ydA hC h hrw hbx l a hk
   simp only[bdV,aT,plV,reA]
   exact .agg _ _ this.1 this.2
 | .fn g x y,a,hk=>by
   simp only[okK,Bool.and_eq_true] at hk
   have h1:=ydA hC h hrw hbx x a hk.1
   have h2:=ydA hC h hrw hbx y (bdVs C [] x a).2 hk.2
   simp only[bdV,aT,plV,reA]
   exact .fn g _ _ _ _ h1.1 h2.1 h1.2 h2.2
theorem ydA (hC:CxOk P C) (h:yh5 P C t1 t2 χ' χ2 m n f) {bx rw:List Nat} (hrw:∀s,s∈rw→(tln (t1.tb s 1)).isSome=true) (hbx:∀s,s∈bx→isBx (t1.tb s 1)=true):∀(l:List Kd) (a:List (DV K)),okKs bx rw l=true→TL P C t2 χ2 (plVs m n (bdVs C [] l a).1) (reAs f (aTs C t1 χ' (bdVs C [] l a).1))
 | [],a,_=> .nil
 | k::l,a,hk=>by
   simp only[okKs,Bool.and_eq_true] at hk
   simp only[bdVs,aTs,plVs,reAs]
   exact .cons (yj8 hC h hrw hbx k a hk.1) (ydA hC h hrw hbx l _ hk.2)
end
theorem yka (hC:CxOk P C) (h:yh5 P C t1 t2 χ' χ2 m n f) {bx rw:List Nat} (hrw:∀s,s∈rw→(tln (t1.tb s 1)).isSome=true) (hbx:∀s,s∈bx→isBx (t1.tb s 1)=true) (l:List Kd) (a:List (DV K)) (hk:okKs bx rw l=true):TL P C t2 χ2 (plVs m n (bdW C [] l a).1) (reAs f (aTs C t1 χ' (bdW C [] l a).1)):=by
 by_cases hw:∃t,l= [.v t]/\(C.T t).g=true
 ·obtain ⟨t,rfl,hg⟩:=hw
  have key:∀x:K t,TL P C t2 χ2 (plVs m n ((C.T t).c x)) (reAs f (aTs C t1 χ' ((C.T t).c x))):=fun x=>by
   have:=ykk (P:=P) (t1:=t1) (t2:=t2) (χ':=χ') (χ2:=χ2) (m:=m) (n:=n) (f:=f) hC t x
   rw[show inV C t x= .agg ((C.T t).c x) by unfold inV;rw[hg]] at this
   simp only[aT,plV,reA] at this
   obtain ⟨vs,e,c1,c2⟩:=this.agg'
   cases e
   exact ⟨c1,c2⟩
  unfold bdW
  simp only[hg]
  split
  ·split
   ·exact key _
   ·exact .nil
  ·exact .nil
 ·rw[yj5 (fun t e=>by
   cases hg:(C.T t).g with
   |false=>rfl
   |true=>exact absurd ⟨t,e,hg⟩ hw)]
  exact ydA hC h hrw hbx l a hk
theorem ye1 (m:RM) (n:Nat→Nat):∀us:List (TV K),plVs m n us=us.map (plV m n)
 | []=>rfl
 |u::us=>by rw[plVs,ye1 m n us];rfl
theorem yr7 (hC:CxOk P C) (e:Nat) (l:List (K e)):noLs (cl (C.E e) l)=true:=yaO (yiM hC e l)
theorem yop (hC:CxOk P C) (h:yh5 P C t1 t2 χ' χ2 m n f) {bx rw:List Nat} (hrw:∀s,s∈rw→(tln (t1.tb s 1)).isSome=true) (hbx:∀s,s∈bx→isBx (t1.tb s 1)=true) {b b':TB K}
  (hb:(∃e l x,okKs bx rw l=true/\(l≠ []/\wt (ctVs l) x=true)/\b=mkBx e l (bdW C [] l x).1 x)∨∃e l,b= .row e l) (hm:mapB (plV m n) (some b)=some b'):
  MR P C t2 χ2 b' ⟨(bT C t1 χ' b).e,(bT C t1 χ' b).sz,reAs f (bT C t1 χ' b).cells,false⟩/\(bT C t1 χ' b).ok:=by
 rcases hb with ⟨e,l,x,h1,h2,rfl⟩|⟨e,l,rfl⟩
 ·rcases yb5 e l (bdW C [] l x).1 x with q|⟨t,y,q0,q⟩
  ·rw[q] at hm⊢
   cases hm
   obtain ⟨a1,a2⟩:=yka hC h hrw hbx l x h1
   rw[ye1] at a1 a2
   refine ⟨⟨rfl,by simp[bT],a1,a2⟩, .inl ?_⟩
   have:=yqi hC h2.2 h2.1
   simp only[bT];exact this
  ·rw[q] at hm⊢
   cases hm
   have e1:reAs f ((C.E t).c y)=(C.E t).c y:=ycy f _ ((C.E t).no y)
   refine ⟨⟨rfl,q0,rfl,?_,?_,?_⟩, .inr ⟨?_,hC.rc t y⟩⟩
   ·show isRc (reAs f ((C.E t).c y))=false
    rw[e1];exact hC.rc t y
   ·show noLs (reAs f ((C.E t).c y))=true
    rw[e1];exact (C.E t).no y
   ·show dwks (reAs f ((C.E t).c y))=_
    rw[e1];exact hC.dw t y
   ·show (0==0&&decide (1000000≤e))=true
    simpa using q0
 ·cases hm
  refine ⟨⟨rfl,rfl,?_⟩,?_⟩
  ·show dwks (reAs f (cl (C.E e) l))=_
   rw[ycy f _ (yr7 hC e l)];exact yiM hC e l
  ·have:=(C.E e).pos;exact .inl (by simp only[bT];omega)
end
section
variable {P:Program} {C:Cx K} {ts:TS K} {χ:Nat->Nat->Bool}
theorem ysI {a b:TV K} {r q:List (TV K)} (h:eqTs (a::r) (b::q)):eqT a b∧eqTs r q:=by
 cases r with
 | nil=>cases q with
   |nil=>exact ⟨by simpa only[eqTs] using h,by simp only[eqTs]⟩
   |cons y q=>simp only[eqTs] at h
 |cons x r=>simpa only[eqTs] using h
end
theorem yl6:∀ {x y:DV K},eqD1 x y→x=y:=by
 intro x y h1
 cases x<;>cases y<;>simp only[eqD1] at h1<;>first
  |exact h1.elim
  |(rw[h1];done)
  | (split at h1
     next e=>subst e;simp only at h1;rw[h1]
     next=>exact h1.elim)
theorem ymR:∀ {a b:List (DV K)},eqDV a b→a=b
 | [],[],_=>rfl
 | [],_::_,h=>by simp[eqDV] at h
 |_::_,[],h=>by simp[eqDV] at h
 | [x],[y],h=>by simp only[eqDV] at h;rw[yl6 h]
 | [x],_::_::_,h=>by simp[eqDV] at h
 |x::x'::a,[y],h=>by simp[eqDV] at h
 | x::x'::a,y::y'::b,h=>by
   simp only[eqDV] at h
   rw[yl6 h.1,ymR (show eqDV (x'::a) (y'::b) from h.2)]
end Go.AV
end
noncomputable section
namespace Go.AV
open Go.RowKit Go.RG Go.Lib
variable {K:Nat->Type}
section
variable {C:Cx K} {t t1:TS K} {χ:Nat->Nat->Bool}
mutual
theorem yph (h:∀s c,tln (t.tb s c)=tln (t1.tb s c)):∀u:TV K,aT C t χ u=aT C t1 χ u
 | .rw s c=>by simp only[aT,h]
 | .agg cs=>by simp only[aT,yeD h cs]
 | .tup cs=>by simp only[aT,yeD h cs]
 | .fn f a c=>by simp only[aT,yeD h a,yeD h c]
 | .cn _ v=>by simp only[aT,yph h v]
 | .it _ _| .bl _| .st _| .sl _ _| .nil| .un| .px _ _ _| .lb _| .li _ _| .em| .pr _ _ _ _ _| .ep _ _ _ _| .gs _ _| .nptr| .fv _ _ _| .yl _=>by simp only[aT]
theorem yeD (h:∀s c,tln (t.tb s c)=tln (t1.tb s c)):∀us:List (TV K),aTs C t χ us=aTs C t1 χ us
 | []=>rfl
 |u::us=>by simp only[aTs,yph h u,yeD h us]
end
theorem aT_s (u:TV K):aT C t χ u.s=aT C t χ u:=by cases u<;>simp only[TV.s,aT]
mutual
theorem ysN:∀(u w:TV K),eqT u w→aT C t χ u=aT C t χ w
 | .it k n,w,h=>by
   rw[<-aT_s w]
   simp only[eqT] at h
   split at h
   ·rename_i e
    split at h
    ·rename_i ek;subst ek;subst h;rw[e]
    ·exact h.elim
   ·rename_i e
    split at h
    ·rename_i ek;subst ek;subst h;rw[e];simp only[aT]
    ·exact h.elim
   ·exact h.elim
 | .bl b,w,h=>by
   rw[<-aT_s w]
   simp only[eqT] at h
   split at h
   ·rename_i e;rw[e];subst h;rfl
   ·rename_i e;rw[e];subst h;simp only[aT]
   ·exact h.elim
 | .st s,w,h=>by
   rw[<-aT_s w]
   simp only[eqT] at h
   split at h
   ·rename_i e;rw[e];subst h;rfl
   ·exact h.elim
 | .sl e l,w,h=>by
   rw[<-aT_s w]
   simp only[eqT] at h
   split at h
   ·rename_i e2;rw[e2]
    split at h
    ·rename_i e3;subst e3;simp only at h;subst h;rfl
    ·exact h.elim
   ·exact h.elim
 | .agg l,w,h=>by
   rw[<-aT_s w]
   simp only[eqT] at h
   split at h
   ·rename_i l' e;rw[e];simp only[aT,yha l l' h]
   ·exact h.elim
 | .rw s c,w,h=>by
   rw[<-aT_s w]
   simp only[eqT] at h
   split at h
   ·rename_i s' c' e;rw[e]
    split at h
    ·rename_i e2
     simp only[Bool.and_eq_true] at e2
     rw[nbeq.1 e2.1,nbeq.1 e2.2]
    ·exact h.elim
   ·exact h.elim
 | .px s c o,w,h=>by
   rw[<-aT_s w]
   simp only[eqT] at h
   split at h
   ·rename_i s' c' o' e;rw[e]
    split at h
    ·rename_i e2
     simp only[Bool.and_eq_true] at e2
     rw[nbeq.1 e2.1.1,nbeq.1 e2.1.2,nbeq.1 e2.2]
    ·exact h.elim
   ·exact h.elim
 | .nptr,w,h=>by
   rw[<-aT_s w]
   simp only[eqT] at h
   split at h
   ·rename_i e;rw[e]
   ·exact h.elim
 | .nil,w,h=>by
   rw[<-aT_s w]
   simp only[eqT] at h
   split at h
   ·rename_i e;rw[e]
   ·exact h.elim
 | .un,w,h=>by
   cases w with
   |un=>rfl
   |_=>simp[eqT] at h
 | .lb _,w,h| .li _ _,w,h| .tup _,w,h| .em,w,h| .pr _ _ _ _ _,w,h| .ep _ _ _ _,w,h| .gs _ _,w,h| .fn _ _ _,w,h| .fv _ _ _,w,h| .yl _,w,h| .cn _ _,w,h=>by simp[eqT] at h
theorem yha:∀(us ws:List (TV K)),eqTs us ws→aTs C t χ us=aTs C t χ ws
 | [],[],_=>rfl
 | [],w::ws,h=>by simp[eqTs] at h
 |u::us,[],h=>by simp[eqTs] at h
 | u::us,w::ws,h=>by
   obtain ⟨h1,h2⟩:=ysI h
   simp only[aTs,ysN u w h1,yha us ws h2]
end
def bTx (C:Cx K) (t:TS K) (χ:Nat->Nat->Bool) (o:Option (TB K)):Option Blk:=o.map (bT C t χ)
theorem yhF (us:List (TV K)):(aTs C t χ us).length=us.length:=by rw[ybW,List.length_map]
theorem yku {b b1:Option (TB K)} (h:eqB b b1):tln b=tln b1∧b.map (bT C t χ)=b1.map (bT C t χ)∧(∀e,b1=some (.row e [])→b=some (.row e []))∧b.isSome=true:=by
 unfold eqB at h
 split at h
 ·split at h
  rotate_left
  ·exact h.elim
  rename_i hb
  have hb:=nbeq.1 hb
  subst hb
  have:=yha (C:=C) (t:=t) (χ:=χ) _ _ h
  refine ⟨rfl,?_,fun e q=>(by cases q),rfl⟩
  have hl:=congrArg List.length this
  rw[yhF,yhF] at hl
  simp only[Option.map_some,bT,this,hl]
 ·split at h
  ·rename_i e;subst e;simp only at h;subst h;exact ⟨rfl,rfl,fun e q=>q,rfl⟩
  ·exact h.elim
 ·split at h
  rotate_left
  ·exact h.elim
  rename_i hb
  have hb:=nbeq.1 hb
  subst hb
  split at h
  ·rename_i e;subst e;simp only at h;subst h;exact ⟨rfl,rfl,fun e q=>q,rfl⟩
  ·exact h.elim
 ·exact h.elim
theorem ylV {ts0 ts:TS K} {p:Prop}:∀ {l:List Nat},kpt ts0 ts l p→(∀s∈l,eqB (ts0.tb s 1) (ts.tb s 1))∧p
 | [],h=>⟨fun s hs=>(by cases hs),h⟩
 | s::r,h=>by
   simp only[kpt] at h
   obtain ⟨a,b⟩:=ylV h.2
   exact ⟨fun s' hs=>by
    rcases List.mem_cons.1 hs with rfl|hs
    ·exact h.1
    ·exact a s' hs,b⟩
theorem yd8 {α β:Type} {Q:List (Nat×α)} {l:List (Nat×β)} {p:Nat→Bool} {g:Nat×α→Bool} (h:Q.map (·.1)=l.map (·.1)) (hg:∀x∈Q,g x=p x.1):(Q.filter g).map (·.1)=(l.filter fun x=>p x.1).map (·.1):=by
 have e1:Q.filter g=Q.filter (p∘(·.1)):=List.filter_congr hg
 rw[e1,<-List.filter_map,h,List.filter_map]
 rfl
theorem yq0 (a b:List (Nat×Nat×List Kd)):ctB (a++b)=ctB a++ctB b:=List.flatMap_append ..
theorem ypR (a b:List (Nat×Nat)):ctR (a++b)=ctR a++ctR b:=List.map_append ..
structure TT (C:Cx K) (sp:Sl K) (t:TS K):Prop where
 nm:t.od.map (·.1)=sp.te.bx.map (·.1)++sp.kbx.map (·.1)++sp.te.rw.map (·.1)++sp.krw.map (·.1)
 nw:t.nw= []
 nd:(t.od.map (·.1)).Nodup
 ent:∀p∈t.od,((∃e l x,okKs (sp.to.bx.map (·.1)) (sp.to.rw.map (·.1)) l=true/\(l≠ []/\wt (ctVs l) x=true)/\p.2=some (mkBx e l (bdW C [] l x).1 x))/\p.1∈sp.to.bx.map (·.1))∨(∃e l,p.2=some (.row e l))/\p.1∈sp.to.rw.map (·.1)
 bx:∀s∈sp.to.bx.map (·.1),isBx (t.tb s 1)=true
 rw:∀s∈sp.to.rw.map (·.1),(tln (t.tb s 1)).isSome=true
 fr:∀s,lkT t.fr s= .un∨∃p∈sp.te.ks,∃x,lkT t.fr s=(bdV C [] p.2 x).1
theorem ypf {sp:Sl K} {fs:List (FV K)} {env out:List (DV K)} (hE:okS sp env=true) (hwo:wt (ctT sp.te) out=true):TT C sp (endT C sp (entL C sp fs env) out):=by
 obtain ⟨o1,o2,o3,o4,o5,o6⟩:=yj0 hE
 rw[yj9] at hwo
 obtain ⟨ab,c1,rfl,w12,w6⟩:=ybz hwo
 obtain ⟨a,b1,rfl,w1,w4⟩:=ybz w12
 let ts0:=entL C sp fs env
 let F1:=ts0.od.filter fun x=>yct sp.kp x.1&&isBx x.2
 let F2:=ts0.od.filter fun x=>yct sp.kp x.1&& !isBx x.2
 have ht:endT C sp ts0 (a++b1++c1)=⟨(bdS C [] sp.te.ks a).1,(bdB C [] sp.te.bx b1).1++F1++bdR sp.te.rw c1++F2,[],[],[]⟩:=by
  unfold endT
  simp only
  rw[List.append_assoc,yiZ sp.te.ks a (b1++c1) w1]
  simp only
  rw[yiH sp.te.bx b1 c1 w4]
 obtain ⟨i1,i2⟩:=yf9 (C:=C) (rg:= []) (hh:= []) o6
 have h0d:(ts0.od.map (·.1)).Nodup:=by
  show ((bdT C sp.ti [] [] env).od.map (·.1)).Nodup
  rw[i1];exact o1.nd
 obtain ⟨ai,bi,ci,_,v1,v2,v3,ei⟩:=yeX (rg:= []) (hh:= []) (C:=C) o6
 have hod:ts0.od=(bdB C [] sp.ti.bx bi).1++bdR sp.ti.rw ci:=by
  show (bdT C sp.ti [] [] env).od=_
  rw[ei]
 obtain ⟨p1,p2⟩:=yey (C:=C) (rg:= []) sp.ti.bx bi v2
 obtain ⟨q1,q2⟩:=yeF sp.ti.rw ci v3
 have isb:∀x∈(bdB C [] sp.ti.bx bi).1,isBx x.2=true:=fun x hx=>by obtain ⟨k,_,_,y,_,e⟩:=p2 x hx;rw[e];exact ygC _ _ _ _
 have isr:∀x∈bdR sp.ti.rw ci,isBx x.2=false:=fun x hx=>by obtain ⟨k,_,_,y,e⟩:=q2 x hx;rw[e];rfl
 have nF1:F1.map (·.1)=sp.kbx.map (·.1):=by
  show (ts0.od.filter _).map _=_
  rw[hod,List.filter_append,List.map_append]
  have e2:(bdR sp.ti.rw ci).filter (fun x=>yct sp.kp x.1&&isBx x.2)= []:=List.filter_eq_nil_iff.2 fun x hx=>by rw[isr x hx];simp
  rw[e2,List.map_nil,List.append_nil]
  exact yd8 p1 fun x hx=>by rw[isb x hx,Bool.and_true]
 have nF2:F2.map (·.1)=sp.krw.map (·.1):=by
  show (ts0.od.filter _).map _=_
  rw[hod,List.filter_append,List.map_append]
  have e2:(bdB C [] sp.ti.bx bi).1.filter (fun x=>yct sp.kp x.1&& !isBx x.2)= []:=List.filter_eq_nil_iff.2 fun x hx=>by rw[isb x hx];simp
  rw[e2,List.map_nil,List.nil_append]
  exact yd8 q1 fun x hx=>by rw[isr x hx];simp
 obtain ⟨x1,x2⟩:=yey (C:=C) (rg:= []) sp.te.bx b1 w4
 obtain ⟨y1,y2⟩:=yeF sp.te.rw c1 w6
 have nt:(endT C sp ts0 (a++b1++c1)).od.map (·.1)=sp.te.bx.map (·.1)++sp.kbx.map (·.1)++sp.te.rw.map (·.1)++sp.krw.map (·.1):=by
  rw[ht];simp only[List.map_append,nF1,nF2,x1,y1]
 have hto:sp.to.bx.map (·.1)++sp.to.rw.map (·.1)=sp.te.bx.map (·.1)++sp.kbx.map (·.1)++sp.te.rw.map (·.1)++sp.krw.map (·.1):=by
  show (sp.te.bx++sp.kbx).map (·.1)++(sp.te.rw++sp.krw).map (·.1)=_
  simp only[List.map_append,List.append_assoc]
 have nd:((endT C sp ts0 (a++b1++c1)).od.map (·.1)).Nodup:=by rw[nt,<-hto];exact o2.nd
 have ent:∀p∈(endT C sp ts0 (a++b1++c1)).od,((∃e l x,okKs (sp.to.bx.map (·.1)) (sp.to.rw.map (·.1)) l=true∧(l≠ []∧wt (ctVs l) x=true)∧p.2=some (mkBx e l (bdW C [] l x).1 x))∧p.1∈sp.to.bx.map (·.1))∨(∃e l,p.2=some (.row e l))∧p.1∈sp.to.rw.map (·.1):=by
  intro p hp
  rw[ht] at hp
  simp only[List.mem_append] at hp
  have tobx:∀k,k∈sp.te.bx∨k∈sp.kbx->k∈sp.to.bx:=fun k hk=>List.mem_append.2 hk
  rcases hp with ((hp|hp)|hp)|hp
  ·obtain ⟨k,hk,e2,x,ew,e3⟩:=x2 p hp
   have:=o2.bx k (tobx k (.inl hk))
   exact .inl ⟨⟨_,_,x,this.1,⟨this.2,ew⟩,e3⟩,by rw[e2];exact List.mem_map_of_mem (f:=(·.1)) (tobx k (.inl hk))⟩
  ·obtain ⟨m1,m2⟩:=List.mem_filter.1 hp
   simp only[Bool.and_eq_true] at m2
   rw[hod] at m1
   rcases List.mem_append.1 m1 with m1|m1
   ·obtain ⟨k,hk,e2,x,ew,e3⟩:=p2 p m1
    have hkb:k∈sp.kbx:=List.mem_filter.2 ⟨hk,by rw[<-e2];exact m2.1⟩
    have:=o2.bx k (tobx k (.inr hkb))
    exact .inl ⟨⟨_,_,x,this.1,⟨this.2,ew⟩,e3⟩,by rw[e2];exact List.mem_map_of_mem (f:=(·.1)) (tobx k (.inr hkb))⟩
   ·rw[isr p m1] at m2;cases m2.2
  ·obtain ⟨k,hk,e2,x,e3⟩:=y2 p hp
   exact .inr ⟨⟨_,x,e3⟩,by rw[e2];exact List.mem_map_of_mem (f:=(·.1)) (show k∈sp.te.rw++sp.krw from List.mem_append_left _ hk)⟩
  ·obtain ⟨m1,m2⟩:=List.mem_filter.1 hp
   simp only[Bool.and_eq_true,Bool.not_eq_true'] at m2
   rw[hod] at m1
   rcases List.mem_append.1 m1 with m1|m1
   ·rw[isb p m1] at m2;cases m2.2
   ·obtain ⟨k,hk,e2,x,e3⟩:=q2 p m1
    have hkr:k∈sp.krw:=List.mem_filter.2 ⟨hk,by rw[<-e2];exact m2.1⟩
    exact .inr ⟨⟨_,x,e3⟩,by rw[e2];exact List.mem_map_of_mem (f:=(·.1)) (show k∈sp.te.rw++sp.krw from List.mem_append_right _ hkr)⟩
 have disj:∀s,s∈sp.to.bx.map (·.1)->s∈sp.to.rw.map (·.1)->False:=fun s h1 h2=>(List.nodup_append.1 o2.nd).2.2 s h1 s h2 rfl
 refine ⟨nt,rfl,nd,ent,fun s hs=> ?_,fun s hs=> ?_,fun s=> ?_⟩
 ·have hm:s∈(endT C sp ts0 (a++b1++c1)).od.map (·.1):=by rw[nt,← hto];exact List.mem_append_left _ hs
  obtain ⟨p,hp,rfl⟩:=List.mem_map.1 hm
  show isBx (lkB (endT C sp ts0 (a++b1++c1)).od p.1)=true
  rw[ycx nd (show (p.1,p.2)∈_ from hp)]
  rcases ent p hp with ⟨⟨e,l,x,_,_,a3⟩,_⟩|⟨_,a2⟩
  ·rw[a3];exact ygC _ _ _ _
  ·exact (disj _ hs a2).elim
 ·have hm:s∈(endT C sp ts0 (a++b1++c1)).od.map (·.1):=by rw[nt,← hto];exact List.mem_append_right _ hs
  obtain ⟨p,hp,rfl⟩:=List.mem_map.1 hm
  show (tln (lkB (endT C sp ts0 (a++b1++c1)).od p.1)).isSome=true
  rw[ycx nd (show (p.1,p.2)∈_ from hp)]
  rcases ent p hp with ⟨_,a4⟩|⟨⟨e,l,a1⟩,_⟩
  ·exact (disj _ a4 hs).elim
  ·rw[a1];rfl
 ·show lkT (endT C sp ts0 (a++b1++c1)).fr s= .un∨∃p∈sp.te.ks,∃x,lkT (endT C sp ts0 (a++b1++c1)).fr s=(bdV C [] p.2 x).1
  rw[ht]
  rcases ymH (C:=C) (rg:= []) sp.te.ks a s with e|⟨p,hp,_,x,e⟩
  ·exact .inl e
  ·exact .inr ⟨p,hp,x,e⟩
theorem yrC {sp:Sl K} {fs:List (FV K)} {env env' out:List (DV K)} (hE:okS sp env=true) (hw:wt (ctT sp.to) env'=true) (hk:kpt (entL C sp fs env) (bdT C sp.to [] [] env') sp.kp (eqDV (selL sp env') out)):
  wt (ctT sp.te) out=true/\(bdT C sp.to [] [] env').fr=(endT C sp (entL C sp fs env) out).fr/\
  ∀s,lkB (endT C sp (entL C sp fs env) out).od s=lkB (bdT C sp.to [] [] env').od s∨eqB (lkB (endT C sp (entL C sp fs env) out).od s) (lkB (bdT C sp.to [] [] env').od s):=by
 obtain ⟨o1,o2,o3,o4,o5,o6⟩:=yj0 hE
 obtain ⟨hkp,hsel⟩:=ylV hk
 have hsel:=ymR hsel
 obtain ⟨a,b12,c12,e0,w1,w2,w3,e1⟩:=yeX (rg:= []) (hh:= []) (C:=C) hw
 have w2':wt (ctB sp.te.bx++ctB sp.kbx) b12=true:=by rw[<-yq0];exact w2
 have w3':wt (ctR sp.te.rw++ctR sp.krw) c12=true:=by rw[<-ypR];exact w3
 obtain ⟨b1,b2,rfl,w4,w5⟩:=ybz w2'
 obtain ⟨c1,c2,rfl,w6,w7⟩:=ybz w3'
 have hout:out=a++b1++c1:=by
  rw[<-hsel,e0]
  unfold selL
  simp only
  have l1:(ctS sp.te.ks).length=a.length:=(yiC w1).symm
  have l2:(ctB sp.te.bx).length=b1.length:=(yiC w4).symm
  have l3:(ctB sp.kbx).length=b2.length:=(yiC w5).symm
  have l4:sp.te.rw.length=c1.length:=by have:=yiC w6;unfold ctR at this;rw[List.length_map] at this;exact this.symm
  rw[l1,l2,l3,l4]
  rw[show a++(b1++b2)++(c1++c2)=(a++b1)++(b2++(c1++c2)) by simp[List.append_assoc]]
  rw[List.take_left' (by simp),show a.length+b1.length+b2.length=(a++b1).length+b2.length by simp,List.drop_append,List.drop_of_length_le (by omega),List.nil_append,Nat.add_sub_cancel_left,List.drop_left,List.take_left]
 have hwo:wt (ctT sp.te) out=true:=by rw[hout,yj9];exact yeo (yeo w1 w4) w6
 let ts0:=entL C sp fs env
 let F1:=ts0.od.filter fun x=>yct sp.kp x.1&&isBx x.2
 let F2:=ts0.od.filter fun x=>yct sp.kp x.1&& !isBx x.2
 have ht:endT C sp ts0 out=⟨(bdS C [] sp.te.ks a).1,(bdB C [] sp.te.bx b1).1++F1++bdR sp.te.rw c1++F2,[],[],[]⟩:=by
  unfold endT
  simp only
  rw[hout,List.append_assoc,yiZ sp.te.ks a (b1++c1) w1]
  simp only
  rw[yiH sp.te.bx b1 c1 w4]
 have ht1:bdT C sp.to [] [] env'=⟨(bdS C [] sp.te.ks a).1,(bdB C [] sp.te.bx b1).1++(bdB C [] sp.kbx b2).1++(bdR sp.te.rw c1++bdR sp.krw c2),[],[],[]⟩:=by
  rw[e1]
  show (⟨(bdS C [] sp.te.ks a).1,(bdB C [] (sp.te.bx++sp.kbx) (b1++b2)).1++bdR (sp.te.rw++sp.krw) (c1++c2),[],[],[]⟩:TS K)=_
  rw[ylT _ _ _ _ w4,ymC _ _ _ _ w6]
 obtain ⟨i1,i2⟩:=yf9 (C:=C) (rg:= []) (hh:= []) o6
 have h0d:(ts0.od.map (·.1)).Nodup:=by
  show ((bdT C sp.ti [] [] env).od.map (·.1)).Nodup
  rw[i1];exact o1.nd
 obtain ⟨ai,bi,ci,_,v1,v2,v3,ei⟩:=yeX (rg:= []) (hh:= []) (C:=C) o6
 have hod:ts0.od=(bdB C [] sp.ti.bx bi).1++bdR sp.ti.rw ci:=by
  show (bdT C sp.ti [] [] env).od=_
  rw[ei]
 obtain ⟨p1,p2⟩:=yey (C:=C) (rg:= []) sp.ti.bx bi v2
 obtain ⟨q1,q2⟩:=yeF sp.ti.rw ci v3
 have isb:∀x∈(bdB C [] sp.ti.bx bi).1,isBx x.2=true:=fun x hx=>by obtain ⟨k,_,_,y,_,e⟩:=p2 x hx;rw[e];exact ygC _ _ _ _
 have isr:∀x∈bdR sp.ti.rw ci,isBx x.2=false:=fun x hx=>by obtain ⟨k,_,_,y,e⟩:=q2 x hx;rw[e];rfl
 have nF1:F1.map (·.1)=sp.kbx.map (·.1):=by
  show (ts0.od.filter _).map _=_
  rw[hod,List.filter_append,List.map_append]
  have e2:(bdR sp.ti.rw ci).filter (fun x=>yct sp.kp x.1&&isBx x.2)= []:=List.filter_eq_nil_iff.2 fun x hx=>by rw[isr x hx];simp
  rw[e2,List.map_nil,List.append_nil]
  exact yd8 p1 fun x hx=>by rw[isb x hx,Bool.and_true]
 have nF2:F2.map (·.1)=sp.krw.map (·.1):=by
  show (ts0.od.filter _).map _=_
  rw[hod,List.filter_append,List.map_append]
  have e2:(bdB C [] sp.ti.bx bi).1.filter (fun x=>yct sp.kp x.1&& !isBx x.2)= []:=List.filter_eq_nil_iff.2 fun x hx=>by rw[isb x hx];simp
  rw[e2,List.map_nil,List.nil_append]
  exact yd8 q1 fun x hx=>by rw[isr x hx];simp
 obtain ⟨x1,x2⟩:=yey (C:=C) (rg:= []) sp.te.bx b1 w4
 obtain ⟨y1,y2⟩:=yeF sp.te.rw c1 w6
 obtain ⟨x3,x4⟩:=yey (C:=C) (rg:= []) sp.kbx b2 w5
 obtain ⟨y3,y4⟩:=yeF sp.krw c2 w7
 have nt:(endT C sp ts0 out).od.map (·.1)=sp.te.bx.map (·.1)++sp.kbx.map (·.1)++sp.te.rw.map (·.1)++sp.krw.map (·.1):=by
  rw[ht];simp only[List.map_append,nF1,nF2,x1,y1]
 have nt1:(bdT C sp.to [] [] env').od.map (·.1)=sp.te.bx.map (·.1)++sp.kbx.map (·.1)++sp.te.rw.map (·.1)++sp.krw.map (·.1):=by
  rw[ht1];simp only[List.map_append,x1,x3,y1,y3,List.append_assoc]
 have hto:sp.to.bx.map (·.1)++sp.to.rw.map (·.1)=sp.te.bx.map (·.1)++sp.kbx.map (·.1)++sp.te.rw.map (·.1)++sp.krw.map (·.1):=by
  show (sp.te.bx++sp.kbx).map (·.1)++(sp.te.rw++sp.krw).map (·.1)=_
  simp only[List.map_append,List.append_assoc]
 have nd:((endT C sp ts0 out).od.map (·.1)).Nodup:=by rw[nt,<-hto];exact o2.nd
 have nd1:((bdT C sp.to [] [] env').od.map (·.1)).Nodup:=by rw[nt1,<-hto];exact o2.nd
 have kept:∀s b,(s,b)∈ts0.od→yct sp.kp s=true→(s,b)∈(endT C sp ts0 out).od→eqB (lkB (endT C sp ts0 out).od s) (lkB (bdT C sp.to [] [] env').od s):=by
  intro s b hm hs he
  have:=hkp s (yd7.1 hs)
  rw[ycx nd he]
  have e2:ts0.tb s 1=b:=ycx h0d hm
  rw[<-e2];exact this
 have main:∀s,lkB (endT C sp ts0 out).od s=lkB (bdT C sp.to [] [] env').od s∨eqB (lkB (endT C sp ts0 out).od s) (lkB (bdT C sp.to [] [] env').od s):=by
  intro s
  by_cases hs:s∈(endT C sp ts0 out).od.map (·.1)
  ·obtain ⟨p,hp,rfl⟩:=List.mem_map.1 hs
   have hp':=hp
   rw[ht] at hp'
   simp only[List.mem_append] at hp'
   rcases hp' with ((hp'|hp')|hp')|hp'
   ·left
    rw[ycx nd (show (p.1,p.2)∈_ from hp),ycx nd1 (show (p.1,p.2)∈_ by rw[ht1];simp only[List.mem_append];exact .inl (.inl hp'))]
   ·have:=List.mem_filter.1 hp'
    simp only[Bool.and_eq_true] at this
    exact .inr (kept p.1 p.2 this.1 this.2.1 hp)
   ·left
    rw[ycx nd (show (p.1,p.2)∈_ from hp),ycx nd1 (show (p.1,p.2)∈_ by rw[ht1];simp only[List.mem_append];exact .inr (.inl hp'))]
   ·have:=List.mem_filter.1 hp'
    simp only[Bool.and_eq_true] at this
    exact .inr (kept p.1 p.2 this.1 this.2.1 hp)
  ·left
   have no:∀ {l:List (Nat×Option (TB K))},s∉l.map (·.1)→lkB l s=none:=by
    intro l hl
    cases hq:lkB l s with
    |none=>rfl
    |some b=>exact absurd (List.mem_map_of_mem (f:=(·.1)) (yes hq)) hl
   rw[no hs,no (by rw[nt1,<-nt];exact hs)]
 exact ⟨hwo,by rw[ht1];show _=(endT C sp ts0 out).fr;rw[ht],main⟩
end
def EndK (C:Cx K) (sp:Sl K) (t:TS K) (χ:Nat→Nat→Bool) (H:Hp) (n:Nat) (av:AV) (S1:St):Prop:=
 ∃χ',ViOk t χ'∧(∀s b,2000000≤s→t.tb s 1=some b→χ' s 1=χ s 1)∧(∃us,ycr t sp.res=some us∧av=yb3 (aTs C t χ' us))∧S1.hp=H∧S1.nx=n∧
  ∀s b,lkB t.od s=some b->χ' s 1=false->S1.M (.l s 1)=some (bT C t χ' b)
theorem yj7 {C:Cx K} {t t1:TS K} {χ:Nat→Nat→Bool} (hf:t1.fr=t.fr) (ht:∀s c,t.tb s c=t1.tb s c∨eqB (t.tb s c) (t1.tb s c)):∀ {l:List (Nat×Option Nat)} {us:List (TV K)},ycr t1 l=some us→∃us',ycr t l=some us'∧aTs C t1 χ us=aTs C t1 χ us'
 | [],us,h=>by cases h;exact ⟨[],rfl,rfl⟩
 | p :: l, us,h=>by
   simp only[ycr] at h
   split at h
   ·rename_i v vs h1 h2
    cases h
    obtain ⟨us',e1,e2⟩:=yj7 (C:=C) (χ:=χ) hf ht h2
    have key:∃v',resT t p=some v'∧aT C t1 χ v=aT C t1 χ v':=by
     obtain ⟨s,q⟩:=p
     cases q with
     |none=>simp only[resT] at h1⊢;cases h1;exact ⟨_,rfl,by rw[hf]⟩
     | some q=>
       have boxes:∀ {s c e:Nat} {cs:List (TV K)},t1.tb s c=some (.box e cs)→∃cs',t.tb s c=some (.box e cs')∧aTs C t1 χ cs=aTs C t1 χ cs':=by
        intro s c e cs hb
        rcases ht s c with k|k
        ·exact ⟨cs,by rw[k,hb],rfl⟩
        ·rw[hb] at k
         unfold eqB at k
         split at k
         ·rename_i e1 l1 e2 l2 q1 q2
          cases q2
          split at k
          ·rename_i hbq
           have:=nbeq.1 hbq;subst this
           exact ⟨_,q1,(yha _ _ k).symm⟩
          ·exact k.elim
         ·rename_i q2;cases q2
         ·rename_i q2;cases q2
         ·exact k.elim
       have hfs:lkT t1.fr s=lkT t.fr s:=by rw[hf]
       cases q with
       | zero=>
         simp only[resT] at h1⊢
         rw[hfs] at h1
         split at h1
         ·rename_i s' c o e
          split at h1
          ·rename_i e' cs hb
           obtain ⟨cs',b1,b2⟩:=boxes hb
           rw[b1]
           simp only
           have:=congrArg (fun l=>l[o]?) b2
           simp only[ybW,List.getElem?_map,h1] at this
           cases hq:cs'[o]? with
           |none=>rw[hq] at this;cases this
           |some w=>rw[hq] at this;exact ⟨w,rfl,Option.some.inj this⟩
          ·cases h1
         ·cases h1
       | succ q=>
         simp only[resT] at h1⊢
         rw[hfs] at h1
         split at h1
         ·rename_i s' c o e
          split at h1
          ·rename_i e' cs hb
           obtain ⟨cs',b1,b2⟩:=boxes hb
           rw[b1]
           simp only[tldc] at h1⊢
           have hl:cs.length=cs'.length:=by have:=congrArg List.length b2;rwa[yhF,yhF] at this
           split at h1
           ·rename_i hb2
            rw[hl] at hb2
            rw[hb2]
            cases h1
            refine ⟨_,rfl,?_⟩
            simp only[aT,ybW] at b2⊢
            rw[List.map_take,List.map_drop,List.map_take,List.map_drop,b2]
           ·cases h1
          ·cases h1
         ·cases h1
    obtain ⟨v',k1,k2⟩:=key
    exact ⟨v'::us',by simp only[ycr,k1,e1],by simp only[aTs,k2,e2]⟩
   ·cases h
theorem ymT {C:Cx K} {sp:Sl K} {fs:List (FV K)} {env out:List (DV K)} (hE:okS sp env=true) {χ:Nat→Nat→Bool} {H:Hp} {n:Nat} {av:AV} {S1:St} (h:EndL C sp (entL C sp fs env) χ out H n av S1):
  TT C sp (endT C sp (entL C sp fs env) out)/\EndK C sp (endT C sp (entL C sp fs env) out) χ H n av S1:=by
 obtain ⟨env',χ',h0,h1,h2,h3,⟨us,hus,h4⟩,h5,h6,_,h7⟩:=h
 obtain ⟨a2,a3,a4⟩:=yrC hE h0 h1
 have a1:=ypf (C:=C) (fs:=fs) hE a2
 have htb:∀s c,(endT C sp (entL C sp fs env) out).tb s c=(bdT C sp.to [] [] env').tb s c∨eqB ((endT C sp (entL C sp fs env) out).tb s c) ((bdT C sp.to [] [] env').tb s c):=by
  intro s c
  unfold TS.tb
  cases Nat.beq c 1 with
  |true=>exact a4 s
  | false=>cases Nat.beq c 2 with
    |true=>left;rfl
    |false=>left;rfl
 have hln:∀s c,tln ((bdT C sp.to [] [] env').tb s c)=tln ((endT C sp (entL C sp fs env) out).tb s c):=by
  intro s c
  rcases htb s c with e|e
  ·rw[e]
  ·exact ((yku (C:=C) (t:=bdT C sp.to [] [] env') (χ:=χ') e).1).symm
 refine ⟨a1,χ',fun s c hx=> ?_,fun s b hs hb=> ?_,?_,h5,h6,fun s b hb hx=> ?_⟩
 ·obtain ⟨e,he⟩:=h2 s c hx
  rcases htb s c with q|q
  ·exact ⟨e,by rw[q];exact he⟩
  ·exact ⟨e,(yku (C:=C) (t:=bdT C sp.to [] [] env') (χ:=χ') q).2.2.1 e he⟩
 ·rcases htb s 1 with q|q
  ·exact h3 s b hs (by rw[<-q];exact hb)
  ·have e2:=(yku (C:=C) (t:=bdT C sp.to [] [] env') (χ:=χ') q).2.1
   rw[hb] at e2
   cases hq:(bdT C sp.to [] [] env').tb s 1 with
   |none=>rw[hq] at e2;cases e2
   |some b1=>exact h3 s b1 hs hq
 ·obtain ⟨us',e1,e2⟩:=yj7 (C:=C) (χ:=χ') a3 htb hus
  exact ⟨us',e1,by rw[h4,e2,yeD hln]⟩
 ·have hb':bTx C (bdT C sp.to [] [] env') χ' (lkB (bdT C sp.to [] [] env').od s)=bTx C (bdT C sp.to [] [] env') χ' (some b):=by
   rcases a4 s with q|q
   ·rw[<-q,hb]
   ·have:=(yku (C:=C) (t:=bdT C sp.to [] [] env') (χ:=χ') q).2.1
    rw[hb] at this
    exact this.symm
  cases hq:lkB (bdT C sp.to [] [] env').od s with
  |none=>rw[hq] at hb';cases hb'
  | some b1=>
    rw[hq] at hb'
    have e3:=h7 s b1 hq hx
    rw[e3]
    have e4:bT C (bdT C sp.to [] [] env') χ' b1=bT C (bdT C sp.to [] [] env') χ' b:=Option.some.inj hb'
    rw[e4]
    cases b<;>simp only[bT,yeD hln]
end Go.AV
end
noncomputable section
namespace Go.AV
open Go.RowKit Go.RG Go.Lib
variable {K:Nat->Type}
structure MOk (ts ts0:TS K) (M:RM) (τ:Tm):Prop where
 nod:(plsR M.r++M.b.map (·.2)).Nodup
 b:∀s k,lkA M.b s=some k->s∈τ.bx.map (·.1)/\∃b,ts.tb k.1 k.2=some b/\isBx (some b)=true
 r:∀s o,lkA M.r s=some o->s∈τ.rw.map (·.1)
 rk:∀s k,lkA M.r s=some (some k)->∃n,tln (ts.tb k.1 k.2)=some n/\tln (ts0.tb s 1)=some n
 bx:∀s∈τ.bx.map (·.1),∃k,lkA M.b s=some k
 rw:∀s∈τ.rw.map (·.1),∃o,lkA M.r s=some o
theorem yic {α:Type} {l:List (Nat×α)} {s:Nat}:(l.any fun q=>Nat.beq q.1 s)=true↔s∈l.map (·.1):=by
 rw[List.any_eq_true]
 constructor
 ·rintro ⟨x,hx,h⟩;rw[<-nbeq.1 h];exact List.mem_map_of_mem hx
 ·intro h;obtain ⟨x,hx,rfl⟩:=List.mem_map.1 h;exact ⟨x,hx,nbeq.2 rfl⟩
section
variable {P:Program} {C:Cx K} {R:RR K} {ts:TS K} {χ:Nat->Nat->Bool} {ds:DS}
theorem yq6 (hC:CxOk P C) {τ:Tm} (ho:TmOk τ) {env:List (DV K)} {M:RM} (h:rdM C τ ts=some (env,M)) (hγ:GM P C R ts χ ds):MOk ts (bdT C τ [] [] env) M τ:=by
 have hw:=yo4 h
 unfold rdM at h
 split at h
 rotate_left
 ·cases h
 rename_i a m1 h1
 split at h
 rotate_left
 ·cases h
 rename_i b M' h2
 split at h
 rotate_left
 ·cases h
 rename_i c h3 h4
 simp only[Option.some.injEq,Prod.mk.injEq] at h
 obtain ⟨rfl,rfl⟩:=h
 simp only[Bool.and_eq_true] at h4
 obtain ⟨hnod,hdom⟩:=h4
 simp only[ylW,Bool.and_eq_true] at hdom
 obtain ⟨⟨hdb,hdr⟩,hdis⟩:=hdom
 obtain ⟨_,t2⟩:=yiD (P:=P) (ts1:=ts) (rg:= []) (χ:=χ) (ξ:=fun _=>false) (ρ:=fun _=>none) (ds:=ds) (p:=fun _=>False) hC (fun id w q=>by cases q) τ.bx m1 M' b h2
 obtain ⟨od1,e2,g2,f2⟩:=t2 c
 obtain ⟨gb1,gb2⟩:=ykC τ.rw c h3
 have hbx:∀s∈τ.bx.map (·.1),∃q b,lkA M'.b s=some q∧ts.tb q.1 q.2=some b∧isBx (some b)=true:=fun s hs=>by
  obtain ⟨q,b0,b1,a1,a2,a3,_⟩:=f2 s (by rw[g2];exact yic.2 hs)
  exact ⟨q,b0,a1,a2,a3⟩
 have hrw:∀s∈τ.rw.map (·.1),lkA M'.r s=some none∨∃q n,lkA M'.r s=some (some q)∧tln (ts.tb q.1 q.2)=some n∧tln ((bdT C τ [] [] (a++b++c)).tb s 1)=some n:=fun s hs=>by
  obtain ⟨e,⟨a1,_⟩|⟨q,l',a1,a2,a3⟩⟩:=gb2 s (by rw[gb1];exact yic.2 hs)
  ·exact .inl a1
  ·refine .inr ⟨q,l'.length,a1,(hγ.trow hC a2).1,?_⟩
   have hod:(bdT C τ [] [] (a++b++c)).od=(bdB C [] τ.bx b).1++bdR τ.rw c:=by
    unfold bdT
    rw[List.append_assoc,yiZ τ.ks a (b++c) (yni _ _ _ _ h1)]
    simp only
    rw[yiH τ.bx b c (ykE _ _ _ _ h2)]
   have hl:lkB (bdT C τ [] [] (a++b++c)).od s=some (.row e l'):=by
    refine ycx (by rw[(yf9 (C:=C) (rg:= []) (hh:= []) hw).1];exact ho.nd) ?_
    rw[hod];exact List.mem_append_right _ (yes a3)
   show tln (lkB (bdT C τ [] [] (a++b++c)).od s)=_
   rw[hl];rfl
 refine ⟨yfK hnod,fun s k hs=> ?_,fun s o hs=>yic.1 (ycq hs hdr),fun s k hs=> ?_,fun s hs=> ?_,fun s hs=> ?_⟩
 ·have hm:=yic.1 (ycq hs hdb)
  obtain ⟨q,b0,a1,a2,a3⟩:=hbx s hm
  rw[hs] at a1;cases a1
  exact ⟨hm,b0,a2,a3⟩
 ·rcases hrw s (yic.1 (ycq hs hdr)) with q|⟨q,n,a1,a2,a3⟩
  ·rw[hs] at q;cases q
  ·rw[hs] at a1;cases a1;exact ⟨n,a2,a3⟩
 ·obtain ⟨q,b0,a1,_⟩:=hbx s hs;exact ⟨q,a1⟩
 ·rcases hrw s hs with q|⟨q,n,a1,_⟩
  ·exact ⟨_,q⟩
  ·exact ⟨_,a1⟩
end
theorem yfP:∀(a b:List (Nat×Option (TB K))) (s:Nat),memB (a++b) s=(memB a s||memB b s)
 | [],b,s=>rfl
 | p::a,b,s=>by
   show (Nat.beq p.1 s||memB (a++b) s)=((Nat.beq p.1 s||memB a s)||memB b s)
   rw[yfP a b s,Bool.or_assoc]
section
variable {m:RM} {n:Nat->Nat}
theorem yme (c:Nat):∀(l r:List (Nat×Option (TB K))) (s:Nat),lkB (plL m n c l++r) s=match l.find? (fun p=>decide (plQ m n p.1=some (s,c))) with
  |some p=>mapB (plV m n) p.2
  |none=>lkB r s
 | [],r,s=>rfl
 | p :: l,r,s=>by
   have ih:=yme c l r s
   simp only[plL,List.find?]
   cases hq:plQ m n p.1 with
   |none=>simp only[reduceCtorEq,decide_false];exact ih
   | some q=>
     simp only
     cases hb:Nat.beq q.2 c with
     | true=>
       have:=nbeq.1 hb
       rw[List.cons_append,yat]
       by_cases hs:q.1=s
       ·rw[if_pos hs]
        have:(some q=some (s,c)):=by rw[<-hs,<-this]
        simp only[this,decide_true]
       ·rw[if_neg hs]
        have:¬(some q=some (s,c)):=fun e=>hs (by rw[Option.some.inj e])
        simp only[this,decide_false];exact ih
     | false=>
       have:¬(some q=some (s,c)):=fun e=>by rw[Option.some.inj e,nbeq.2 rfl] at hb;cases hb
       simp only[this,decide_false];exact ih
theorem yje (c:Nat):∀(l:List (Nat×Option (TB K))) (s:Nat),memB (plL m n c l) s=true↔∃p∈l,plQ m n p.1=some (s,c)
 | [],s=>⟨fun h=>(by cases h),fun ⟨p,hp,_⟩=>(by cases hp)⟩
 | p ::l,s=>by
   have ih:=yje c l s
   simp only[plL]
   have skip:(¬plQ m n p.1=some (s,c))→(memB (plL m n c l) s=true↔∃q∈p::l,plQ m n q.1=some (s,c)):=by
    intro h
    rw[ih]
    constructor
    ·rintro ⟨q,hq,e⟩;exact ⟨q,List.mem_cons_of_mem _ hq,e⟩
    ·rintro ⟨q,hq,e⟩
     rcases List.mem_cons.1 hq with rfl|hq
     ·exact absurd e h
     ·exact ⟨q,hq,e⟩
   split
   ·rename_i q hq
    split
    ·rename_i hb
     have hc:=nbeq.1 hb
     show (Nat.beq q.1 s||memB (plL m n c l) s)=true↔_
     rw[Bool.or_eq_true,ih]
     constructor
     ·rintro (h|⟨x,hx,e⟩)
      ·exact ⟨p,List.mem_cons_self,by rw[hq,<-nbeq.1 h,<-hc]⟩
      ·exact ⟨x,List.mem_cons_of_mem _ hx,e⟩
     ·rintro ⟨x,hx,e⟩
      rcases List.mem_cons.1 hx with rfl|hx
      ·rw[hq] at e;left;rw[Option.some.inj e];exact nbeq.2 rfl
      ·exact .inr ⟨x,hx,e⟩
    ·rename_i hb
     exact skip fun e=>by rw[hq] at e;rw[Option.some.inj e,nbeq.2 rfl] at hb;cases hb
   ·rename_i hq;exact skip fun e=>by rw[hq] at e;cases e
end
theorem ynz (g:Nat×Nat→Option KB) (c:Nat):∀(l:List (Nat×Nat)) (r:List (Nat×Option KB)) (s:Nat),lkO ((l.filterMap fun q=>if q.2=c then some (q.1,g q) else none)++r) s=if (s,c)∈l then g (s,c) else lkO r s
 | [],r,s=>by simp
 | q ::l,r,s=>by
   have ih:=ynz g c l r s
   rw[List.filterMap_cons]
   by_cases hc:q.2=c
   ·simp only[if_pos hc]
    rw[List.cons_append,yeb]
    by_cases hs:q.1=s
    ·have e:q=(s,c):=Prod.ext hs hc
     simp only[hs,if_true]
     rw[if_pos (by rw[e];exact List.mem_cons_self),e]
    ·rw[if_neg hs,ih]
     have:(s,c)≠q:=fun e=>hs (by rw[<-e])
     simp only[List.mem_cons,this,false_or]
   ·simp only[if_neg hc]
    rw[ih]
    have:(s,c)≠q:=fun e=>hc (by rw[<-e])
    simp only[List.mem_cons,this,false_or]
theorem ygE (g:Nat×Nat→Option KB) (c:Nat):∀(l:List (Nat×Nat)) (r:List (Nat×Option KB)) (s:Nat),memO ((l.filterMap fun q=>if q.2=c then some (q.1,g q) else none)++r) s=true↔(s,c)∈l∨memO r s=true
 | [],r,s=>by simp
 | q ::l,r,s=>by
   have ih:=ygE g c l r s
   rw[List.filterMap_cons]
   by_cases hc:q.2=c
   ·simp only[if_pos hc]
    rw[List.cons_append]
    show (Nat.beq q.1 s||memO _ s)=true↔_
    rw[Bool.or_eq_true,ih,nbeq,List.mem_cons]
    constructor
    ·rintro (h|h|h)
     ·exact .inl (.inl (Prod.ext h.symm hc.symm))
     ·exact .inl (.inr h)
     ·exact .inr h
    ·rintro ((h|h)|h)
     ·exact .inl (by rw[<-h])
     ·exact .inr (.inl h)
     ·exact .inr (.inr h)
   ·simp only[if_neg hc]
    rw[ih,List.mem_cons]
    have:(s,c)≠q:=fun e=>hc (by rw[<-e])
    simp only[this,false_or]
theorem yeU {α β:Type} {f:α→β} (hf:∀x y,f x=f y→x=y):∀ {l:List α},l.Nodup→(l.map f).Nodup
 | [],_=>List.nodup_nil
 | a::l,h=>by
   obtain ⟨h1,h2⟩:=List.nodup_cons.1 h
   refine List.nodup_cons.2 ⟨fun hm=> ?_,yeU hf h2⟩
   obtain ⟨b,hb,e⟩:=List.mem_map.1 hm
   rw[hf b a e] at hb;exact h1 hb
def goL (t:TS K) (χ':Nat→Nat→Bool) (M:RM) (n:Nat→Nat) (x:Nat):Option K2:=match lkB t.od x,χ' x 1 with
 |some _,false=>plQ M n x
 |_,_=>none
def gOut (t:TS K) (χ':Nat->Nat->Bool) (M:RM) (n:Nat->Nat):List (K2×K2):=(innM (goL t χ' M n) t.od).map fun p=>((p.1,1),p.2)
def gBs (t:TS K) (χ':Nat->Nat->Bool) (M:RM) (n:Nat->Nat):List Nat:=((innM (goL t χ' M n) t.od).filter fun p=> !Nat.ble 2000000 p.1).map fun p=>p.2.1
def gChi (sp:Sl K) (t:TS K) (χ χ':Nat→Nat→Bool) (M:RM) (n:Nat→Nat) (s c:Nat):Bool:=match (yeK sp t).find? (fun p=>decide (plQ M n p.1=some (s,c))) with
 |some p=>p.2.isSome&&χ' p.1 1
 |none=>χ s c
def gKb (C:Cx K) (t:TS K) (χ':Nat→Nat→Bool) (out:List (K2×K2)) (q:Nat×Nat):Option KB:=match lkZ out q with
 |some x=>(lkB t.od x.1).map fun b=>⟨(bT C t χ' b).e,(bT C t χ' b).sz,reAs (fun d c=>lkE out (d,c)) (bT C t χ' b).cells,false⟩
 |none=>none
def gDs (C:Cx K) (t:TS K) (χ':Nat→Nat→Bool) (inn:List (Nat×K2)) (out:List (K2×K2)) (ds:DS):DS:=
 let pl:=out.map (·.2)++inn.map (·.2)
 ⟨ds.fr,(pl.filterMap fun q=>if q.2=1 then some (q.1,gKb C t χ' out q) else none)++ds.od,(pl.filterMap fun q=>if q.2=2 then some (q.1,gKb C t χ' out q) else none)++ds.nw,ds.H,ds.nx⟩
section
variable {P:Program} {C:Cx K} {R:RR K} {ts ts0 t:TS K} {χ χ':Nat->Nat->Bool} {ds:DS}
structure CE (P:Program) (C:Cx K) (R:RR K) (ts ts0 t:TS K) (χ χ':Nat→Nat→Bool) (ds:DS) (sp:Sl K) (d:Option Nat) (M:RM) (inn:List (Nat×K2)):Prop where
 hC:CxOk P C
 hγ:GM P C R ts χ ds
 hk:DOk ds
 hM:MOk ts ts0 M sp.ti
 hti:TmOk sp.ti
 h0:∀s,s∈tiN sp->s∈ts0.od.map (·.1)
 hin:∀s k,(s,k)∈inn↔rhoM χ M s=some k/\s∈ts0.od.map (·.1)
 n2:(inn.map (·.2)).Nodup
 big:∀s∈tiN sp,2000000<=s
 tbx:∀s∈sp.te.bx.map (·.1),2000000<=s->s∈sp.ti.bx.map (·.1)
 trw:∀s∈sp.te.rw.map (·.1),2000000<=s->s∈sp.ti.rw.map (·.1)
 fresh:∀s∈newL sp,1000000<=s/\s<1000064/\memB ts.nw (yab d s)=false/\yab d s<2000000
 tt:TT C sp t
 vi:ViOk t χ'
 lv:∀s b,2000000<=s->t.tb s 1=some b->χ' s 1=xiM χ M s
 len:∀s k,2000000<=s->tln (t.tb s 1)=some k->tln (ts0.tb s 1)=some k
variable {sp:Sl K} {d:Option Nat} {M:RM} {inn:List (Nat×K2)}
theorem CE.obx (h:CE P C R ts ts0 t χ χ' ds sp d M inn) {s:Nat} (hs:s∈sp.to.bx.map (·.1)) (hb:2000000≤s):s∈sp.ti.bx.map (·.1):=by
 obtain ⟨k,hk,rfl⟩:=List.mem_map.1 hs
 rcases List.mem_append.1 (show k∈sp.te.bx++sp.kbx from hk) with hk|hk
 ·exact h.tbx _ (List.mem_map_of_mem hk) hb
 ·exact List.mem_map_of_mem (List.mem_filter.1 hk).1
theorem CE.orw (h:CE P C R ts ts0 t χ χ' ds sp d M inn) {s:Nat} (hs:s∈sp.to.rw.map (·.1)) (hb:2000000≤s):s∈sp.ti.rw.map (·.1):=by
 obtain ⟨k,hk,rfl⟩:=List.mem_map.1 hs
 rcases List.mem_append.1 (show k∈sp.te.rw++sp.krw from hk) with hk|hk
 ·exact h.trw _ (List.mem_map_of_mem hk) hb
 ·exact List.mem_map_of_mem (List.mem_filter.1 hk).1
theorem CE.nob (h:CE P C R ts ts0 t χ χ' ds sp d M inn) {s:Nat} (hs:s∈sp.ti.rw.map (·.1)):lkA M.b s=none:=by
 cases hq:lkA M.b s with
 |none=>rfl
 |some k=>exact ((List.nodup_append.1 h.hti.nd).2.2 s (h.hM.b s k hq).1 s hs rfl).elim
theorem CE.big' (_h:CE P C R ts ts0 t χ χ' ds sp d M inn) {s:Nat} {q:Nat×Nat} (hb:2000000≤s) (hq:plQ M (yab d) s=some q):lkA M.b s=some q∨(lkA M.b s=none∧lkA M.r s=some (some q)):=by
 unfold plQ at hq
 rw[Nat.ble_eq_true_of_le hb] at hq
 simp only at hq
 split at hq
 ·rename_i k e;cases hq;exact .inl e
 ·rename_i e
  split at hq
  ·rename_i k e2;cases hq;exact .inr ⟨e,e2⟩
  ·cases hq
theorem ybb {s:Nat} (hb:¬2000000≤s):plQ M (yab d) s=some (yab d s,2):=by
 unfold plQ
 have:Nat.ble 2000000 s=false:=by cases hq:Nat.ble 2000000 s with|false=>rfl|true=>exact absurd (Nat.le_of_ble_eq_true hq) hb
 rw[this]
theorem yg4 {s:Nat} {k:Nat×Nat} (hb:2000000≤s) (hq:lkA M.b s=some k):plQ M (yab d) s=some k:=by
 unfold plQ
 rw[Nat.ble_eq_true_of_le hb]
 simp only[hq]
theorem yjo {s:Nat} {k:Nat×Nat} (hb:2000000≤s) (hn:lkA M.b s=none) (hq:lkA M.r s=some (some k)):plQ M (yab d) s=some k:=by
 unfold plQ
 rw[Nat.ble_eq_true_of_le hb]
 simp only[hn,hq]
theorem CE.lent (h:CE P C R ts ts0 t χ χ' ds sp d M inn) {s:Nat} {q:Nat×Nat} (hb:2000000≤s) (hq:plQ M (yab d) s=some q):∃b,ts.tb q.1 q.2=some b:=by
 rcases h.big' hb hq with e|⟨_,e⟩
 ·obtain ⟨_,b0,hc,_⟩:=h.hM.b s q e;exact ⟨_,hc⟩
 ·obtain ⟨n,hn,_⟩:=h.hM.rk s q e
  cases ht:ts.tb q.1 q.2 with
  |none=>rw[ht] at hn;cases hn
  |some b=>exact ⟨b,rfl⟩
theorem CE.newm (h:CE P C R ts ts0 t χ χ' ds sp d M inn) {s:Nat} (hs:s∈t.od.map (·.1)) (hb:¬2000000≤s):s∈newL sp:=by
 have hsm:Nat.ble 2000000 s=false:=by cases hq:Nat.ble 2000000 s with|false=>rfl|true=>exact absurd (Nat.le_of_ble_eq_true hq) hb
 unfold newL
 rw[List.mem_filter]
 refine ⟨?_,by rw[hsm];rfl⟩
 rw[h.tt.nm] at hs
 simp only[List.mem_append] at hs⊢
 rcases hs with ((hs|hs)|hs)|hs
 ·exact .inl hs
 ·obtain ⟨k,hk,rfl⟩:=List.mem_map.1 hs
  exact absurd (h.big k.1 (List.mem_append_left _ (List.mem_map_of_mem (f:=(·.1)) (List.mem_filter.1 hk).1))) hb
 ·exact .inr hs
 ·obtain ⟨k,hk,rfl⟩:=List.mem_map.1 hs
  exact absurd (h.big k.1 (List.mem_append_right _ (List.mem_map_of_mem (f:=(·.1)) (List.mem_filter.1 hk).1))) hb
theorem CE.new (h:CE P C R ts ts0 t χ χ' ds sp d M inn) {s:Nat} (hs:s∈t.od.map (·.1)) (hb:¬2000000≤s):1000000≤s∧s<1000064∧memB ts.nw (yab d s)=false∧yab d s<2000000:=
 h.fresh s (h.newm hs hb)
theorem CE.inj (h:CE P C R ts ts0 t χ χ' ds sp d M inn) {s s':Nat} {q:Nat×Nat} (hs:s∈t.od.map (·.1)∨s∈tiN sp) (hs':s'∈t.od.map (·.1)∨s'∈tiN sp) (hq:plQ M (yab d) s=some q) (hq':plQ M (yab d) s'=some q):s=s':=by
 have nl:∀ {x y:Nat},y∈t.od.map (·.1)→2000000≤x→¬2000000≤y→plQ M (yab d) x=some q→plQ M (yab d) y=some q→False:=by
  intro x y hy hx hn e1 e2
  obtain ⟨b,hb⟩:=h.lent hx e1
  rw[ybb hn] at e2
  cases e2
  have:=(h.new hy hn).2.2.1
  have hm:memB ts.nw (yab d y)=true:=ydH (show lkB ts.nw (yab d y)=some b from hb)
  rw[this] at hm;cases hm
 have tb:∀ {x:Nat},(x∈t.od.map (·.1)∨x∈tiN sp)->¬2000000<=x->x∈t.od.map (·.1):=fun hx hn=>hx.elim id fun hx=>absurd (h.big _ hx) hn
 by_cases b1:2000000<=s<;>by_cases b2:2000000<=s'
 ·obtain ⟨nr,nb,nd⟩:=List.nodup_append.1 h.hM.nod
  rcases h.big' b1 hq with e1|⟨_,e1⟩<;>rcases h.big' b2 hq' with e2|⟨_,e2⟩
  ·exact yfI nb e1 e2
  ·exact absurd rfl (nd q (ycc e2) q (yb9 e1))
  ·exact absurd rfl (nd q (ycc e1) q (yb9 e2))
  ·exact ye6 nr e1 e2
 ·exact (nl (tb hs' b2) b1 b2 hq hq').elim
 ·exact (nl (tb hs b1) b2 b1 hq' hq).elim
 ·rw[ybb b1] at hq;rw[ybb b2] at hq'
  have:yab d s=yab d s':=by rw[<-hq'] at hq;exact congrArg Prod.fst (Option.some.inj hq)
  unfold yab at this;omega
theorem CE.fnd (h:CE P C R ts ts0 t χ χ' ds sp d M inn) {q:Nat×Nat}:((yeK sp t).find? (fun p=>decide (plQ M (yab d) p.1=some q))=none∧(∀s,s∈t.od.map (·.1)∨s∈tiN sp→plQ M (yab d) s≠some q))∨
  (∃p∈t.od,plQ M (yab d) p.1=some q/\(yeK sp t).find? (fun p=>decide (plQ M (yab d) p.1=some q))=some p)∨
  (∃p,p.2=none/\p.1∈tiN sp/\plQ M (yab d) p.1=some q/\p.1∉t.od.map (·.1)/\(yeK sp t).find? (fun p=>decide (plQ M (yab d) p.1=some q))=some p):=by
 cases hf:(yeK sp t).find? (fun p=>decide (plQ M (yab d) p.1=some q)) with
 | none=>
   have:=List.find?_eq_none.1 hf
   refine .inl ⟨rfl,fun s hs e=> ?_⟩
   rcases hs with hs|hs
   ·obtain ⟨p,hp,rfl⟩:=List.mem_map.1 hs
    exact this p (List.mem_append_left _ hp) (decide_eq_true e)
   ·exact this (s,none) (List.mem_append_right _ (List.mem_map_of_mem (f:=fun s=>(s,none)) hs)) (decide_eq_true e)
 | some p=>
   have e:plQ M (yab d) p.1=some q:=by have:=List.find?_some hf;simpa using this
   unfold yeK at hf
   rw[List.find?_append] at hf
   cases hg:t.od.find? (fun p=>decide (plQ M (yab d) p.1=some q)) with
   | some p'=>
     rw[hg] at hf
     simp only[Option.some_or,Option.some.injEq] at hf
     subst hf
     exact .inr (.inl ⟨p',List.mem_of_find?_eq_some hg,e,rfl⟩)
   | none=>
     rw[hg] at hf
     simp only[Option.none_or] at hf
     have hm:=List.mem_of_find?_eq_some hf
     obtain ⟨s,hs,rfl⟩:=List.mem_map.1 hm
     refine .inr (.inr ⟨_,rfl,hs,e,fun hn=> ?_,rfl⟩)
     obtain ⟨p',hp',e'⟩:=List.mem_map.1 hn
     have:=List.find?_eq_none.1 hg p' hp'
     exact this (decide_eq_true (by rw[e'];exact e))
theorem CE.at_told (h:CE P C R ts ts0 t χ χ' ds sp d M inn) {p:Nat×Option (TB K)} (hp:p∈t.od) {q:Nat×Nat} (hq:plQ M (yab d) p.1=some q):(yeK sp t).find? (fun p=>decide (plQ M (yab d) p.1=some q))=some p:=by
 rcases h.fnd (q:=q) with ⟨_,h2⟩|⟨p',h1,h2,h3⟩|⟨p',_,h2,h3,h4,_⟩
 ·exact absurd hq (h2 p.1 (.inl (List.mem_map_of_mem (f:=(·.1)) hp)))
 ·rw[h3]
  have e:=h.inj (.inl (List.mem_map_of_mem (f:=(·.1)) h1)) (.inl (List.mem_map_of_mem (f:=(·.1)) hp)) h2 hq
  have e2:p'.2=p.2:=by rw[<-ycx h.tt.nd (show (p'.1,p'.2)∈_ from h1),e,ycx h.tt.nd (show (p.1,p.2)∈_ from hp)]
  rw[show p'=p from Prod.ext e e2]
 ·have e:=h.inj (.inr h2) (.inl (List.mem_map_of_mem (f:=(·.1)) hp)) h3 hq
  exact absurd (by rw[e];exact List.mem_map_of_mem (f:=(·.1)) hp) h4
theorem ydU (s c:Nat) (hc:c=1∨c=2):(aft0 sp (yab d) M t ts).tb s c=match (yeK sp t).find? (fun p=>decide (plQ M (yab d) p.1=some (s,c))) with
  |some p=>mapB (plV M (yab d)) p.2
  |none=>ts.tb s c:=by
 rcases hc with rfl|rfl
 ·exact yme 1 _ _ s
 ·exact yme 2 _ _ s
theorem CE.qc (h:CE P C R ts ts0 t χ χ' ds sp d M inn) {s:Nat} {q:Nat×Nat} (hq:plQ M (yab d) s=some q):q.2=1∨q.2=2:=by
 by_cases hb:2000000<=s
 ·obtain ⟨b,hb⟩:=h.lent hb hq;exact tb_c hb
 ·rw[ybb hb] at hq;cases hq;exact .inr rfl
theorem CE.told_tb (h:CE P C R ts ts0 t χ χ' ds sp d M inn) {p:Nat×Option (TB K)} (hp:p∈t.od) {q:Nat×Nat} (hq:plQ M (yab d) p.1=some q):(aft0 sp (yab d) M t ts).tb q.1 q.2=mapB (plV M (yab d)) p.2∧gChi sp t χ χ' M (yab d) q.1 q.2=(p.2.isSome&&χ' p.1 1):=by
 have:=h.at_told hp (q:=q) hq
 refine ⟨?_,?_⟩
 ·rw[ydU q.1 q.2 (h.qc hq),this]
 ·unfold gChi;rw[this]
theorem CE.tsome (h:CE P C R ts ts0 t χ χ' ds sp d M inn) {p:Nat×Option (TB K)} (hp:p∈t.od):∃b,p.2=some b∧lkB t.od p.1=some b:=by
 have:=ycx h.tt.nd (show (p.1,p.2)∈_ from hp)
 rcases h.tt.ent p hp with ⟨⟨e,l,x,_,_,e3⟩,_⟩|⟨⟨e,l,e3⟩,_⟩
 ·exact ⟨_,e3,by rw[this,e3]⟩
 ·exact ⟨_,e3,by rw[this,e3]⟩
theorem CE.bxχ (h:CE P C R ts ts0 t χ χ' ds sp d M inn) {s:Nat} (hs:isBx (t.tb s 1)=true):χ' s 1=false:=by
 cases hx:χ' s 1 with
 |false=>rfl
 |true=>obtain ⟨e,he⟩:=h.vi s 1 hx;rw[he] at hs;cases hs
theorem CE.lrow (h:CE P C R ts ts0 t χ χ' ds sp d M inn) {s:Nat} (hs:s∈sp.to.rw.map (·.1)) (hb:2000000≤s):lkA M.b s=none∧∃o,lkA M.r s=some o∧χ' s 1=(match o with|none=>true|some k=>χ k.1 k.2):=by
 have h1:=h.orw hs hb
 have h2:=h.nob h1
 obtain ⟨o,ho⟩:=h.hM.rw s h1
 refine ⟨h2,o,ho,?_⟩
 cases hq:t.tb s 1 with
 |none=>have:=h.tt.rw s hs;rw[hq] at this;cases this
 | some b=>
   rw[h.lv s b hb hq]
   unfold xiM
   rw[h2,ho]
   cases o<;>rfl
theorem CE.mono (h:CE P C R ts ts0 t χ χ' ds sp d M inn):Mono ts (aft0 sp (yab d) M t ts) χ (gChi sp t χ χ' M (yab d)):=by
 refine ⟨fun _ _ q=>q,fun s c q=> ?_,fun s c q=> ?_⟩
 ·rcases q with q|⟨q1,q2⟩
  ·exact .inl q
  ·refine .inr ⟨q1,?_⟩
   show memB (plL M (yab d) 2 (yeK sp t)++ts.nw) s=true
   rw[yfP,q2,Bool.or_true]
 ·have hc:c=1∨c=2:=q.elim .inl fun q=> .inr q.1
  rcases h.fnd (q:=(s,c)) with ⟨h1,h2⟩|⟨p,h1,h2,h3⟩|⟨p,h1,h2,h3,h4,h5⟩
  ·right
   rw[ydU s c hc,h1]
   unfold gChi
   rw[h1]
   exact ⟨rfl,rfl⟩
  ·obtain ⟨b,e1,e2⟩:=h.tsome h1
   obtain ⟨g1,g2⟩:=h.told_tb h1 h2
   have hb:2000000≤p.1:=by
    apply Decidable.byContradiction
    intro hn
    rw[ybb hn] at h2
    cases h2
    have:=(h.new (List.mem_map_of_mem (f:=(·.1)) h1) hn).2.2.1
    rcases q with q|⟨_,q⟩
    ·cases q
    ·rw[this] at q;cases q
   rcases h.tt.ent p h1 with ⟨⟨e,l,x,_,_,e3⟩,e4⟩|⟨⟨e,l,e3⟩,e4⟩
   ·left
    rw[g1,g2,e3]
    refine ⟨?_,by rw[h.bxχ (h.tt.bx p.1 e4)];rfl⟩
    rcases yb5 e l (bdW C [] l x).1 x with q|⟨t,y,_,q⟩<;>rw[q]<;>rfl
   ·right
    obtain ⟨a1,o,a2,a3⟩:=h.lrow e4 hb
    have a4:lkA M.r p.1=some (some (s,c)):=by
     rcases h.big' hb h2 with e|⟨_,e⟩
     ·rw[a1] at e;cases e
     ·exact e
    rw[a2] at a4;cases a4
    have htl:tln (t.tb p.1 1)=some l.length:=by
     show tln (lkB t.od p.1)=_
     rw[e2,<-e1,e3];rfl
    obtain ⟨k,k1,k2⟩:=h.hM.rk p.1 (s,c) a2
    have:=h.len p.1 _ hb htl
    rw[k2] at this;cases this
    rw[g1,g2,e3]
    exact ⟨k1.symm,by rw[a3];rfl⟩
  ·left
   rw[ydU s c hc,h5]
   unfold gChi
   rw[h5]
   simp only[h1]
   exact ⟨rfl,rfl⟩
theorem CE.okt (h:CE P C R ts ts0 t χ χ' ds sp d M inn) {s:Nat} {q:Nat×Nat} (hs:s∈t.od.map (·.1)∨s∈tiN sp) (hq:plQ M (yab d) s=some q):okr (aft0 sp (yab d) M t ts) q.1 q.2:=by
 by_cases hb:2000000<=s
 ·obtain ⟨b,hb⟩:=h.lent hb hq
  exact h.mono.ok _ _ (yrS hb)
 ·have hs':s∈t.od.map (·.1):=hs.elim id fun hs=>absurd (h.big _ hs) hb
  rcases h.qc hq with e|e
  ·exact .inl e
  ·refine .inr ⟨e,?_⟩
   show memB (plL M (yab d) 2 (yeK sp t)++ts.nw) q.1=true
   rw[yfP]
   obtain ⟨p,hp,rfl⟩:=List.mem_map.1 hs'
   rw[(yje 2 (yeK sp t) q.1).2 ⟨p,List.mem_append_left _ hp,by rw[hq,<-e]⟩];rfl
theorem CE.go (h:CE P C R ts ts0 t χ χ' ds sp d M inn) {s:Nat} {q:K2}:((s,1),q)∈gOut t χ' M (yab d)↔s∈t.od.map (·.1)∧χ' s 1=false∧plQ M (yab d) s=some q:=by
 unfold gOut
 rw[List.mem_map]
 constructor
 ·rintro ⟨p,hp,e⟩
  obtain ⟨a,b⟩:=ycb.1 (show (p.1,p.2)∈_ from hp)
  simp only[Prod.mk.injEq,and_true] at e
  obtain ⟨rfl,rfl⟩:=e
  refine ⟨b,?_⟩
  unfold goL at a
  split at a
  ·rename_i e1 e2;exact ⟨e2,a⟩
  ·cases a
 ·rintro ⟨a,b,c⟩
  refine ⟨(s,q),ycb.2 ⟨?_,a⟩,rfl⟩
  obtain ⟨p,hp,rfl⟩:=List.mem_map.1 a
  obtain ⟨b0,_,e2⟩:=h.tsome hp
  unfold goL
  rw[e2,b];exact c
theorem CE.out1 (_h:CE P C R ts ts0 t χ χ' ds sp d M inn) {p:K2×K2} (hp:p∈gOut t χ' M (yab d)):p.1.2=1:=by
 unfold gOut at hp
 obtain ⟨q,_,rfl⟩:=List.mem_map.1 hp;rfl
theorem CE.on1 (h:CE P C R ts ts0 t χ χ' ds sp d M inn):((gOut t χ' M (yab d)).map (·.1)).Nodup:=by
 unfold gOut
 rw[List.map_map]
 have:=yg8 (g:=goL t χ' M (yab d)) h.tt.nd
 rw[show ((fun x:K2×K2=>x.1)∘fun p:Nat×K2=>((p.1,1),p.2))=(fun x:Nat=>((x,1):K2))∘(·.1) from rfl,<-List.map_map]
 exact yeU (fun x y e=>by simpa using e) this
theorem CE.on2 (h:CE P C R ts ts0 t χ χ' ds sp d M inn):((gOut t χ' M (yab d)).map (·.2)).Nodup:=by
 have hgo:∀s q,s∈t.od.map (·.1)→goL t χ' M (yab d) s=some q→plQ M (yab d) s=some q:=by
  intro s q _ a
  unfold goL at a
  split at a
  ·exact a
  ·cases a
 unfold gOut
 rw[List.map_map]
 show ((innM (goL t χ' M (yab d)) t.od).map (·.2)).Nodup
 have key:∀(l:List (Nat×Option (TB K))),(∀p∈l,p∈t.od)→(l.map (·.1)).Nodup→((innM (goL t χ' M (yab d)) l).map (·.2)).Nodup:=by
  intro l
  induction l with
  |nil=>intro _ _;exact List.nodup_nil
  | cons p l ih=>
    intro hl hn
    obtain ⟨h1,h2⟩:=List.nodup_cons.1 (show (p.1::l.map (·.1)).Nodup from hn)
    have ih:=ih (fun p hp=>hl p (List.mem_cons_of_mem _ hp)) h2
    unfold innM
    rw[List.filterMap_cons]
    cases hg:goL t χ' M (yab d) p.1 with
    |none=>exact ih
    | some k=>
      simp only[Option.map_some,List.map_cons]
      refine List.nodup_cons.2 ⟨fun hm=> ?_,ih⟩
      obtain ⟨q,hq,e⟩:=List.mem_map.1 hm
      obtain ⟨a,b⟩:=ycb.1 (show (q.1,q.2)∈innM (goL t χ' M (yab d)) l from hq)
      have m1:p.1∈t.od.map (·.1):=List.mem_map_of_mem (f:=(·.1)) (hl p List.mem_cons_self)
      have m2:q.1∈t.od.map (·.1):=by
       obtain ⟨x,hx,e'⟩:=List.mem_map.1 b
       rw[<-e'];exact List.mem_map_of_mem (f:=(·.1)) (hl x (List.mem_cons_of_mem _ hx))
      have:=h.inj (.inl m2) (.inl m1) (by rw[<-e];exact hgo _ _ m2 a) (hgo _ _ m1 hg)
      rw[this] at b;exact h1 b
 exact key t.od (fun p hp=>hp) h.tt.nd
theorem CE.f1 (h:CE P C R ts ts0 t χ χ' ds sp d M inn) {s:Nat} {q:K2} (hs:s∈t.od.map (·.1)) (hx:χ' s 1=false) (hq:plQ M (yab d) s=some q):lkE (gOut t χ' M (yab d)) (s,1)=some q:=
 yl7 h.on1 (h.go.2 ⟨hs,hx,hq⟩)
theorem CE.back (h:CE P C R ts ts0 t χ χ' ds sp d M inn):yh5 P C t (aft0 sp (yab d) M t ts) χ' (gChi sp t χ χ' M (yab d)) M (yab d) (fun x c=>lkE (gOut t χ' M (yab d)) (x,c)):=by
 have nm:∀ {s:Nat} {b:TB K},t.tb s 1=some b->(s,some b)∈t.od:=fun hb=>yes hb
 have rowN:∀ {s k:Nat},tln (t.tb s 1)=some k→∃e l,(s,some (.row e l))∈t.od∧l.length=k∧s∈sp.to.rw.map (·.1)∧s∈t.od.map (·.1):=by
  intro s k hk
  cases hq:t.tb s 1 with
  |none=>rw[hq] at hk;cases hk
  | some b=>
    have hm:=nm hq
    rcases h.tt.ent _ hm with ⟨⟨e,l,x,_,_,e3⟩,_⟩|⟨⟨e,l,e3⟩,e4⟩
    ·have e3:some b=_:=e3
     rw[hq,e3] at hk
     rcases yb5 e l (bdW C [] l x).1 x with q|⟨t,y,_,q⟩<;>rw[q] at hk<;>cases hk
    ·have e3:some b=_:=e3
     rw[hq,e3] at hk
     simp only[tln,Option.some.injEq] at hk
     rw[e3] at hm
     exact ⟨e,l,hm,hk,e4,List.mem_map_of_mem (f:=(·.1)) hm⟩
 have ble:∀ {s:Nat},¬2000000<=s->Nat.ble 2000000 s=false:=fun {s} hb=>by cases hq:Nat.ble 2000000 s with|false=>rfl|true=>exact absurd (Nat.le_of_ble_eq_true hq) hb
 refine ⟨fun s k hk hx=> ?_,fun s k hk hx=> ?_,fun s hs=> ?_⟩
 ·obtain ⟨e,l,hm,hl,h1,h2⟩:=rowN hk
  by_cases hb:2000000<=s
  ·obtain ⟨a1,o,a2,a3⟩:=h.lrow h1 hb
   rw[hx] at a3
   cases o with
   |none=>cases a3
   | some q=>
     have hq:=yjo (d:=d) hb a1 a2
     obtain ⟨g1,g2⟩:=h.told_tb hm hq
     refine ⟨q,?_,h.f1 h2 hx hq,h.okt (.inl h2) hq,by rw[g1];show tln (some (TB.row e l))=_;rw[<-hl];rfl,by rw[g2];simp[hx]⟩
     simp only[plV,Nat.ble_eq_true_of_le hb,a2]
  ·have hq:=ybb (M:=M) (d:=d) hb
   obtain ⟨g1,g2⟩:=h.told_tb hm hq
   refine ⟨(yab d s,2),?_,h.f1 h2 hx hq,h.okt (.inl h2) hq,by rw[g1];show tln (some (TB.row e l))=_;rw[<-hl];rfl,by rw[g2];simp[hx]⟩
   simp only[plV,ble hb]
 ·obtain ⟨e,l,hm,hl,h1,h2⟩:=rowN hk
  have hk0:k=0:=by
   obtain ⟨e',he⟩:=h.vi s 1 hx
   rw[he] at hk;cases hk;rfl
  subst hk0
  by_cases hb:2000000<=s
  ·obtain ⟨a1,o,a2,a3⟩:=h.lrow h1 hb
   cases o with
   | none=>
     have:plV (K:=K) M (yab d) (.rw s 1)= .nil:=by simp only[plV,Nat.ble_eq_true_of_le hb,a2]
     rw[this];exact .nil
   | some q=>
     have hq:=yjo (d:=d) hb a1 a2
     obtain ⟨g1,g2⟩:=h.told_tb hm hq
     have:plV (K:=K) M (yab d) (.rw s 1)= .rw q.1 q.2:=by simp only[plV,Nat.ble_eq_true_of_le hb,a2]
     rw[this]
     exact .rwn _ _ (h.okt (.inl h2) hq) (by rw[g1];show tln (some (TB.row e l))=_;rw[<-hl];rfl) (by rw[g2];simp[hx])
  ·have hq:=ybb (M:=M) (d:=d) hb
   obtain ⟨g1,g2⟩:=h.told_tb hm hq
   have:plV (K:=K) M (yab d) (.rw s 1)= .rw (yab d s) 2:=by simp only[plV,ble hb]
   rw[this]
   exact .rwn _ _ (h.okt (.inl h2) hq) (by rw[g1];show tln (some (TB.row e l))=_;rw[<-hl];rfl) (by rw[g2];simp[hx])
 ·have hx:=h.bxχ hs
  cases hq0:t.tb s 1 with
  |none=>rw[hq0] at hs;cases hs
  | some b=>
    have hm:=nm hq0
    have h2:s∈t.od.map (·.1):=List.mem_map_of_mem (f:=(·.1)) hm
    have h1:s∈sp.to.bx.map (·.1):=by
     rcases h.tt.ent _ hm with ⟨_,e4⟩|⟨⟨e,l,e3⟩,_⟩
     ·exact e4
     ·have e3:some b=_:=e3
      rw[hq0,e3] at hs;cases hs
    by_cases hb:2000000<=s
    ·obtain ⟨k,hk⟩:=h.hM.bx s (h.obx h1 hb)
     have hq:=yg4 (d:=d) hb hk
     exact ⟨k,fun o=>by simp only[plV,Nat.ble_eq_true_of_le hb,hk],h.f1 h2 hx hq,h.okt (.inl h2) hq⟩
    ·have hq:=ybb (M:=M) (d:=d) hb
     exact ⟨(yab d s,2),fun o=>by simp only[plV,ble hb],h.f1 h2 hx hq,h.okt (.inl h2) hq⟩
theorem CE.blk (h:CE P C R ts ts0 t χ χ' ds sp d M inn) {p:Nat×Option (TB K)} (hp:p∈t.od) {b:TB K} (hb:p.2=some b) {b':TB K} (hm:mapB (plV M (yab d)) (some b)=some b'):
  MR P C (aft0 sp (yab d) M t ts) (gChi sp t χ χ' M (yab d)) b' ⟨(bT C t χ' b).e,(bT C t χ' b).sz,reAs (fun x c=>lkE (gOut t χ' M (yab d)) (x,c)) (bT C t χ' b).cells,false⟩/\(bT C t χ' b).ok:=by
 refine yop h.hC h.back h.tt.rw h.tt.bx ?_ hm
 rcases h.tt.ent p hp with ⟨⟨e,l,x,a1,a2,e3⟩,_⟩|⟨⟨e,l,e3⟩,_⟩
 ·rw[hb] at e3;exact .inl ⟨e,l,x,a1,a2,Option.some.inj e3⟩
 ·rw[hb] at e3;exact .inr ⟨e,l,Option.some.inj e3⟩
theorem CE.kbo (h:CE P C R ts ts0 t χ χ' ds sp d M inn) {p:Nat×Option (TB K)} (hp:p∈t.od) {b:TB K} (hb:p.2=some b) (hx:χ' p.1 1=false) {q:Nat×Nat} (hq:plQ M (yab d) p.1=some q):
  q∈(gOut t χ' M (yab d)).map (·.2)/\gKb C t χ' (gOut t χ' M (yab d)) q=some ⟨(bT C t χ' b).e,(bT C t χ' b).sz,reAs (fun x c=>lkE (gOut t χ' M (yab d)) (x,c)) (bT C t χ' b).cells,false⟩:=by
 have hm:=h.go.2 ⟨List.mem_map_of_mem (f:=(·.1)) hp,hx,hq⟩
 refine ⟨List.mem_map.2 ⟨_,hm,rfl⟩,?_⟩
 unfold gKb
 rw[ylK h.on2 hm]
 simp only
 rw[ycx h.tt.nd (show (p.1,p.2)∈_ from hp),hb]
 rfl
theorem CE.dkb (h:CE P C R ts ts0 t χ χ' ds sp d M inn) (x c:Nat):(gDs C t χ' inn (gOut t χ' M (yab d)) ds).kb x c=if (x,c)∈(gOut t χ' M (yab d)).map (·.2)++inn.map (·.2) then gKb C t χ' (gOut t χ' M (yab d)) (x,c) else ds.kb x c:=by
 have hpl:(x,c)∈(gOut t χ' M (yab d)).map (·.2)++inn.map (·.2)→c=1∨c=2:=by
  intro hm
  rcases List.mem_append.1 hm with hm|hm
  ·obtain ⟨p,hp,e⟩:=List.mem_map.1 hm
   have e1:=h.out1 hp
   have hp':((p.1.1,1),p.2)∈gOut t χ' M (yab d):=by rw[<-e1];exact hp
   have:=h.qc (h.go.1 hp').2.2
   rw[e] at this;exact this
  ·obtain ⟨p,hp,e⟩:=List.mem_map.1 hm
   have hr:=((h.hin p.1 p.2).1 hp).1
   have:∃b,ts.tb p.2.1 p.2.2=some b:=by
    unfold rhoM at hr
    split at hr
    ·rename_i k e2;cases hr
     obtain ⟨_,b2,hc,_⟩:=h.hM.b _ _ e2;exact ⟨_,hc⟩
    ·split at hr
     ·rename_i k e2
      split at hr
      ·cases hr
      ·cases hr
       obtain ⟨n,hn,_⟩:=h.hM.rk _ _ e2
       cases ht:ts.tb p.2.1 p.2.2 with
       |none=>rw[ht] at hn;cases hn
       |some b=>exact ⟨b,rfl⟩
     ·cases hr
   obtain ⟨b,hb⟩:=this
   have:=tb_c hb
   rw[e] at this;exact this
 unfold DS.kb gDs
 cases h1:Nat.beq c 1 with
 | true=>
   have:=nbeq.1 h1;subst this
   exact ynz _ 1 _ _ x
 | false=>
   cases h2:Nat.beq c 2 with
   | true=>
     have:=nbeq.1 h2;subst this
     exact ynz _ 2 _ _ x
   | false=>
     simp only
     rw[if_neg]
     intro hm
     rcases hpl hm with e|e
     ·subst e;cases h1
     ·subst e;cases h2
theorem CE.rho (h:CE P C R ts ts0 t χ χ' ds sp d M inn) {s:Nat} {q:Nat×Nat} (hs:s∈tiN sp) (hr:rhoM χ M s=some q):plQ M (yab d) s=some q:=by
 have hb:=h.big s hs
 unfold rhoM at hr
 split at hr
 ·rename_i k e;cases hr;exact yg4 hb e
 ·rename_i e
  split at hr
  ·rename_i k e2
   split at hr
   ·cases hr
   ·cases hr;exact yjo hb e e2
  ·cases hr
theorem CE.innp (h:CE P C R ts ts0 t χ χ' ds sp d M inn) (h00:∀s,s∈ts0.od.map (·.1)→s∈tiN sp) {q:Nat×Nat} (hq:q∈inn.map (·.2)):∃s∈tiN sp,(s,q)∈inn∧plQ M (yab d) s=some q:=by
 obtain ⟨p,hp,rfl⟩:=List.mem_map.1 hq
 obtain ⟨a,b⟩:=(h.hin p.1 p.2).1 hp
 exact ⟨p.1,h00 _ b,hp,h.rho (h00 _ b) a⟩
theorem CE.gm (h:CE P C R ts ts0 t χ χ' ds sp d M inn) (h00:∀s,s∈ts0.od.map (·.1)→s∈tiN sp):GM P C R (aft0 sp (yab d) M t ts) (gChi sp t χ χ' M (yab d)) (gDs C t χ' inn (gOut t χ' M (yab d)) ds):=by
 have hm:=h.mono
 have notpl:∀ {s c:Nat},(∀x,x∈t.od.map (·.1)∨x∈tiN sp→plQ M (yab d) x≠some (s,c))→(s,c)∉(gOut t χ' M (yab d)).map (·.2)++inn.map (·.2):=by
  intro s c hn hp
  rcases List.mem_append.1 hp with hp|hp
  ·obtain ⟨p,hp,e⟩:=List.mem_map.1 hp
   have e1:=h.out1 hp
   have hp':((p.1.1,1),p.2)∈gOut t χ' M (yab d):=by rw[<-e1];exact hp
   obtain ⟨a,_,b⟩:=h.go.1 hp'
   exact hn _ (.inl a) (by rw[b,e])
  ·obtain ⟨x,a,_,b⟩:=h.innp h00 hp
   exact hn x (.inr a) b
 refine ⟨fun u=>(h.hγ.fr u).mono hm,fun s c b hb hx=> ?_,fun s c hx=> ?_,fun s hs=> ?_,h.hγ.hp,fun s b hs hb=> ?_⟩
 ·have hc:=tb_c hb
  rcases h.fnd (q:=(s,c)) with ⟨h1,h2⟩|⟨p,h1,h2,h3⟩|⟨p,h1,h2,h3,h4,h5⟩
  ·rw[ydU s c hc,h1] at hb
   unfold gChi at hx
   rw[h1] at hx
   obtain ⟨kb,k1,k2⟩:=h.hγ.mb s c b hb hx
   exact ⟨kb,by rw[h.dkb,if_neg (notpl h2)];exact k1,k2.mono hm⟩
  ·obtain ⟨b0,e1,e2⟩:=h.tsome h1
   obtain ⟨g1,g2⟩:=h.told_tb h1 h2
   rw[show (aft0 sp (yab d) M t ts).tb s c=mapB (plV M (yab d)) p.2 from g1,e1] at hb
   rw[show gChi sp t χ χ' M (yab d) s c=(p.2.isSome&&χ' p.1 1) from g2,e1] at hx
   have hx':χ' p.1 1=false:=by simpa using hx
   obtain ⟨k1,k2⟩:=h.kbo h1 e1 hx' h2
   exact ⟨_,by rw[h.dkb,if_pos (List.mem_append_left _ k1)];exact k2,(h.blk h1 e1 hb).1⟩
  ·rw[ydU s c hc,h5] at hb
   simp only[h1] at hb
   cases hb
 ·rcases h.fnd (q:=(s,c)) with ⟨h1,h2⟩|⟨p,h1,h2,h3⟩|⟨p,h1,h2,h3,h4,h5⟩
  ·unfold gChi at hx
   rw[h1] at hx
   obtain ⟨e,he⟩:=h.hγ.vi s c hx
   exact ⟨e,by rw[ydU s c (tb_c he),h1];exact he⟩
  ·obtain ⟨b0,e1,e2⟩:=h.tsome h1
   obtain ⟨g1,g2⟩:=h.told_tb h1 h2
   rw[show gChi sp t χ χ' M (yab d) s c=(p.2.isSome&&χ' p.1 1) from g2,e1] at hx
   obtain ⟨e,he⟩:=h.vi p.1 1 (by simpa using hx)
   have he':lkB t.od p.1=some (.row e []):=he
   rw[e2] at he'
   exact ⟨e,by rw[show (aft0 sp (yab d) M t ts).tb s c=mapB (plV M (yab d)) p.2 from g1,e1,he'];rfl⟩
  ·unfold gChi at hx
   rw[h5] at hx
   simp only[h1] at hx
   cases hx
 ·have hs':memB (plL M (yab d) 2 (yeK sp t)++ts.nw) s=false:=hs
  rw[yfP,Bool.or_eq_false_iff] at hs'
  have h1:=h.hγ.nw s hs'.2
  cases hq:memO (gDs C t χ' inn (gOut t χ' M (yab d)) ds).nw s with
  |false=>rfl
  | true=>
    rcases (ygE _ 2 _ _ s).1 hq with e|e
    ·exfalso
     have hno:∀x,x∈t.od.map (·.1)∨x∈tiN sp→plQ M (yab d) x≠some (s,2):=by
      intro x hx e
      have:memB (plL M (yab d) 2 (yeK sp t)) s=true:=by
       rw[yje]
       rcases hx with hx|hx
       ·obtain ⟨p,hp,rfl⟩:=List.mem_map.1 hx
        exact ⟨p,List.mem_append_left _ hp,e⟩
       ·exact ⟨(x,none),List.mem_append_right _ (List.mem_map_of_mem (f:=fun s=>(s,none)) hx),e⟩
      rw[hs'.1] at this;cases this
     exact notpl hno e
    ·rw[h1] at e;cases e
 ·have hc:(1:Nat)=1∨(1:Nat)=2:= .inl rfl
  rcases h.fnd (q:=(s,1)) with ⟨h1,h2⟩|⟨p,h1,h2,h3⟩|⟨p,h1,h2,h3,h4,h5⟩
  ·rw[ydU s 1 hc,h1] at hb
   unfold gChi
   rw[h1]
   exact h.hγ.lv s b hs hb
  ·obtain ⟨b0,e1,e2⟩:=h.tsome h1
   obtain ⟨g1,g2⟩:=h.told_tb h1 h2
   rw[show gChi sp t χ χ' M (yab d) s 1=(p.2.isSome&&χ' p.1 1) from g2,e1]
   simp only[Option.isSome_some,Bool.true_and]
   have hbg:2000000≤p.1:=by
    apply Decidable.byContradiction
    intro hn
    rw[ybb hn] at h2;cases h2
   obtain ⟨b1,hb1⟩:=h.lent hbg h2
   rw[h.hγ.lv s b1 hs hb1]
   rcases h.tt.ent p h1 with ⟨_,e4⟩|⟨_,e4⟩
   ·rw[h.bxχ (h.tt.bx p.1 e4)]
    obtain ⟨k,hk⟩:=h.hM.bx p.1 (h.obx e4 hbg)
    have:=yg4 (d:=d) hbg hk
    rw[h2] at this;cases this
    obtain ⟨_,b2,hcs,hbx⟩:=h.hM.b _ _ hk
    exact h.hγ.bx hcs hbx
   ·obtain ⟨a1,o,a2,a3⟩:=h.lrow e4 hbg
    rcases h.big' hbg h2 with e|⟨_,e⟩
    ·rw[a1] at e;cases e
    ·rw[a2] at e;cases e
     rw[a3]
  ·rw[ydU s 1 hc,h5] at hb
   simp only[h1] at hb
   cases hb
theorem CE.dok (h:CE P C R ts ts0 t χ χ' ds sp d M inn):DOk (gDs C t χ' inn (gOut t χ' M (yab d)) ds):=by
 intro x c b hb
 rw[h.dkb] at hb
 split at hb
 ·unfold gKb at hb
  split at hb
  ·rename_i y hy
   obtain ⟨b0,e1,e2⟩:=Option.map_eq_some_iff.1 hb
   subst e2
   have hm:=yes e1
   obtain ⟨b',hb'⟩:∃b',mapB (plV M (yab d)) (some b0)=some b':=by cases b0<;>exact ⟨_,rfl⟩
   refine ⟨?_,fun q=>(by cases q)⟩
   rcases (h.blk hm rfl hb').2 with z|⟨z,zc⟩
   ·exact .inl z
   ·exact .inr ⟨z,by rw[<-yhx (fun x c=>lkE (gOut t χ' M (yab d)) (x,c))] at zc;exact zc⟩
  ·cases hb
 ·exact h.hk x c b hb
theorem CE.oko (h:CE P C R ts ts0 t χ χ' ds sp d M inn) {S1:St} (hS:∀s b,lkB t.od s=some b→χ' s 1=false→S1.M (.l s 1)=some (bT C t χ' b)):yoE inn (gOut t χ' M (yab d)) (gBs t χ' M (yab d)) (toD ds).cnt S1:=by
 refine ⟨h.on1,h.on2,fun p hp=> ?_,fun p hp=> ?_⟩
 ·have e1:=h.out1 hp
  have hp':((p.1.1,1),p.2)∈gOut t χ' M (yab d):=by rw[<-e1];exact hp
  obtain ⟨a,b,c⟩:=h.go.1 hp'
  obtain ⟨y,hy,e⟩:=List.mem_map.1 a
  obtain ⟨b0,e2,e3⟩:=h.tsome hy
  rw[e] at e3
  refine ⟨_,by rw[e1];exact hS _ b0 e3 b,?_⟩
  obtain ⟨b',hb'⟩:∃b',mapB (plV M (yab d)) (some b0)=some b':=by cases b0<;>exact ⟨_,rfl⟩
  exact (h.blk hy e2 hb').2
 ·have e1:=h.out1 hp
  have hp':((p.1.1,1),p.2)∈gOut t χ' M (yab d):=by rw[<-e1];exact hp
  obtain ⟨a,b,c⟩:=h.go.1 hp'
  by_cases hb:2000000<=p.1.1
  ·refine .inl ⟨e1,?_⟩
   have hti:p.1.1∈tiN sp∧rhoM χ M p.1.1=some p.2:=by
    obtain ⟨y,hy,e⟩:=List.mem_map.1 a
    rcases h.tt.ent y hy with ⟨_,e4⟩|⟨_,e4⟩
    ·rw[e] at e4
     have:=h.obx e4 hb
     obtain ⟨k,hk⟩:=h.hM.bx _ this
     have hq:=yg4 (d:=d) hb hk
     rw[c] at hq;cases hq
     exact ⟨List.mem_append_left _ this,by unfold rhoM;rw[hk]⟩
    ·rw[e] at e4
     obtain ⟨a1,o,a2,a3⟩:=h.lrow e4 hb
     rcases h.big' hb c with q|⟨_,q⟩
     ·rw[a1] at q;cases q
     ·rw[a2] at q;cases q
      refine ⟨List.mem_append_right _ (h.orw e4 hb),?_⟩
      unfold rhoM
      rw[a1,a2]
      simp only
      rw[if_neg]
      rw[b] at a3
      simp only at a3
      rw[<-a3];simp
   exact (h.hin _ _).2 ⟨hti.2,h.h0 _ hti.1⟩
  ·right
   have hq:=ybb (M:=M) (d:=d) hb
   rw[c] at hq
   have hq:=Option.some.inj hq
   rw[hq]
   have hf:=(h.new a hb).2.2.1
   refine ⟨?_,?_⟩
   ·unfold gBs
    refine List.mem_map.2 ⟨(p.1.1,p.2),List.mem_filter.2 ⟨?_,?_⟩,by rw[hq]⟩
    ·obtain ⟨x,hx,e⟩:=List.mem_map.1 (show ((p.1.1,1),p.2)∈(innM (goL t χ' M (yab d)) t.od).map _ from hp')
     simp only[Prod.mk.injEq,and_true] at e
     rw[<-e.1,<-e.2];exact hx
    ·have:Nat.ble 2000000 p.1.1=false:=by cases hq:Nat.ble 2000000 p.1.1 with|false=>rfl|true=>exact absurd (Nat.le_of_ble_eq_true hq) hb
     rw[this];rfl
   ·show 2=ds.cn (yab d p.1.1)+1
    unfold DS.cn
    rw[h.hγ.nw _ hf]
theorem CE.bl (h:CE P C R ts ts0 t χ χ' ds sp d M inn) (h00:∀s,s∈ts0.od.map (·.1)→s∈tiN sp) {S1:St} (hS:∀s b,lkB t.od s=some b→χ' s 1=false→S1.M (.l s 1)=some (bT C t χ' b)) (hh:S1.hp=(toD ds).hp) (hn:S1.nx=(toD ds).nx):
  (toD ds).backL inn (gOut t χ' M (yab d)) (gBs t χ' M (yab d)) S1=toD (gDs C t χ' inn (gOut t χ' M (yab d)) ds):=by
 refine St.ext4 (fun _=>rfl) (fun k=> ?_) (fun s=> ?_) hn
 ·cases k with
  |h o=>exact congrFun hh o
  | l x c =>
    show (match lkZ (gOut t χ' M (yab d)) (x,c) with|some q=>(S1.M (.l q.1 q.2)).map (Blk.re fun d c=>lkE _ (d,c))|none=>match lkZ inn (x,c) with|some _=>none|none=>(toD ds).M (.l x c))=((gDs C t χ' inn (gOut t χ' M (yab d)) ds).kb x c).map KB.blk
    rw[h.dkb]
    cases ho:lkZ (gOut t χ' M (yab d)) (x,c) with
    | some q=>
      have hm:=ydB ho
      have e1:=h.out1 hm
      have hm':((q.1,1),(x,c))∈gOut t χ' M (yab d):=by rw[show (1:Nat)=q.2 from e1.symm];exact hm
      obtain ⟨a,b,c'⟩:=h.go.1 hm'
      obtain ⟨y,hy,e⟩:=List.mem_map.1 a
      obtain ⟨b0,e2,e3⟩:=h.tsome hy
      rw[e] at e3
      rw[if_pos (List.mem_append_left _ (List.mem_map.2 ⟨_,hm,rfl⟩))]
      unfold gKb
      rw[ho]
      simp only
      rw[e3,show q.2=1 from e1,hS _ b0 e3 b]
      rfl
    | none=>
      simp only
      have hno:(x,c)∉(gOut t χ' M (yab d)).map (·.2):=fun hm=>by
       obtain ⟨p,hp,e⟩:=List.mem_map.1 hm
       exact ykb ho p.1 (by rw[<-e];exact hp)
      cases hi:lkZ inn (x,c) with
      | some y=>
        rw[if_pos (List.mem_append_right _ (List.mem_map.2 ⟨_,ydB hi,rfl⟩))]
        unfold gKb
        rw[ho];rfl
      | none=>
        rw[if_neg]
        ·rfl
        ·intro hm
         rcases List.mem_append.1 hm with hm|hm
         ·exact hno hm
         ·obtain ⟨p,hp,e⟩:=List.mem_map.1 hm
          exact ykb hi p.1 (by rw[<-e];exact hp)
 ·show cntB (gBs t χ' M (yab d)) ds.cn s=(gDs C t χ' inn (gOut t χ' M (yab d)) ds).cn s
  unfold cntB
  have hmem:s∈gBs t χ' M (yab d)→(s,2)∈(gOut t χ' M (yab d)).map (·.2)∧memO ds.nw s=false:=by
   intro hs
   unfold gBs at hs
   obtain ⟨p,hp,rfl⟩:=List.mem_map.1 hs
   obtain ⟨hp1,hp2⟩:=List.mem_filter.1 hp
   have hb:¬2000000<=p.1:=fun q=>by rw[Nat.ble_eq_true_of_le q] at hp2;cases hp2
   have hm:((p.1,1),p.2)∈gOut t χ' M (yab d):=List.mem_map.2 ⟨p,hp1,rfl⟩
   obtain ⟨a,_,c⟩:=h.go.1 hm
   rw[ybb hb] at c
   have c:=Option.some.inj c
   rw[<-c] at hm⊢
   exact ⟨List.mem_map.2 ⟨_,hm,rfl⟩,h.hγ.nw _ (h.new a hb).2.2.1⟩
  unfold DS.cn
  by_cases hs:s∈gBs t χ' M (yab d)
  ·rw[if_pos hs]
   obtain ⟨a,b⟩:=hmem hs
   rw[b]
   have:memO (gDs C t χ' inn (gOut t χ' M (yab d)) ds).nw s=true:=(ygE _ 2 _ _ s).2 (.inl (List.mem_append_left _ a))
   rw[this]
  ·rw [if_neg hs]
   have : memO (gDs C t χ' inn (gOut t χ' M (yab d)) ds).nw s=memO ds.nw s:=by
    have lentm:∀ {y:Nat},2000000≤y→plQ M (yab d) y=some (s,2)→rhoM χ M y=some (s,2)→memO ds.nw s=true:=by
     intro y hy hq hr
     obtain ⟨b,hb⟩:=h.lent hy hq
     have hxf:χ s 2=false:=by
      unfold rhoM at hr
      split at hr
      ·rename_i k e;cases hr
       obtain ⟨_,b2,hc,hc2⟩:=h.hM.b _ _ e
       exact h.hγ.bx hc hc2
      ·split at hr
       ·rename_i k e
        split at hr
        ·cases hr
        ·rename_i hn;cases hr;simpa using hn
       ·cases hr
     obtain ⟨kb,hkb,_⟩:=h.hγ.mb s 2 b hb hxf
     have hkb':lkO ds.nw s=some kb:=hkb
     cases hmm:memO ds.nw s with
     |true=>rfl
     | false=>
       have:∀(l:List (Nat×Option KB)),memO l s=false→lkO l s=none:=by
        intro l
        induction l with
        |nil=>intro _;rfl
        | cons p l ih=>
          intro hq
          have hq':(Nat.beq p.1 s||memO l s)=false:=hq
          rw[Bool.or_eq_false_iff] at hq'
          rw[yeb,if_neg (fun e=>by rw[nbeq.2 e] at hq';cases hq'.1)]
          exact ih hq'.2
       rw[this _ hmm] at hkb';cases hkb'
    cases hq:memO (gDs C t χ' inn (gOut t χ' M (yab d)) ds).nw s with
    | false=>
      cases hr:memO ds.nw s with
      |false=>rfl
      | true=>
        have:memO (gDs C t χ' inn (gOut t χ' M (yab d)) ds).nw s=true:=(ygE _ 2 _ _ s).2 (.inr hr)
        rw[hq] at this;cases this
    | true=>
      rcases (ygE _ 2 _ _ s).1 hq with e|e
      ·rcases List.mem_append.1 e with e|e
       ·obtain ⟨p,hp,e⟩:=List.mem_map.1 e
        have e1:=h.out1 hp
        have hp':((p.1.1,1),(s,2))∈gOut t χ' M (yab d):=by rw[<-e1,<-e];exact hp
        obtain ⟨a,b,c⟩:=h.go.1 hp'
        by_cases hb:2000000<=p.1.1
        ·have ok:=(h.oko hS).goes _ hp'
         rcases ok with ⟨_,ok⟩|⟨ok,_⟩
         ·exact (lentm hb c ((h.hin _ _).1 ok).1).symm
         ·exact absurd ok hs
        ·exfalso
         refine hs ?_
         unfold gBs
         refine List.mem_map.2 ⟨(p.1.1,(s,2)),List.mem_filter.2 ⟨?_,?_⟩,rfl⟩
         ·obtain ⟨x,hx,e⟩:=List.mem_map.1 (show ((p.1.1,1),(s,2))∈(innM (goL t χ' M (yab d)) t.od).map _ from hp')
          simp only[Prod.mk.injEq,and_true] at e
          have:x=(p.1.1,(s,2)):=Prod.ext e.1 (by rw[e.2])
          rw[<-this];exact hx
         ·have:Nat.ble 2000000 p.1.1=false:=by cases hq:Nat.ble 2000000 p.1.1 with|false=>rfl|true=>exact absurd (Nat.le_of_ble_eq_true hq) hb
          rw[this];rfl
       ·obtain ⟨x,hx,hi,hq2⟩:=h.innp h00 e
        exact (lentm (h.big x hx) hq2 ((h.hin _ _).1 hi).1).symm
      ·exact e.symm
   rw[this]
theorem CE.val (h:CE P C R ts ts0 t χ χ' ds sp d M inn) (hks:∀p∈sp.te.ks,okK (sp.to.bx.map (·.1)) (sp.to.rw.map (·.1)) p.2=true) {us:List (TV K)} (hu:ycr t sp.res=some us):
  TR P C (aft0 sp (yab d) M t ts) (gChi sp t χ χ' M (yab d)) (tres (plVs M (yab d) us)) (reA (fun x c=>lkE (gOut t χ' M (yab d)) (x,c)) (yb3 (aTs C t χ' us))):=by
 have slot:∀s,TR P C (aft0 sp (yab d) M t ts) (gChi sp t χ χ' M (yab d)) (plV M (yab d) (lkT t.fr s)) (reA (fun x c=>lkE (gOut t χ' M (yab d)) (x,c)) (aT C t χ' (lkT t.fr s))):=by
  intro s
  rcases h.tt.fr s with e|⟨p,hp,x,e⟩
  ·rw[e];exact .un _
  ·rw[e];exact yj8 h.hC h.back h.tt.rw h.tt.bx p.2 x (hks p hp)
 have cells:∀ {s c e:Nat} {cs:List (TV K)},t.tb s c=some (.box e cs)→TL P C (aft0 sp (yab d) M t ts) (gChi sp t χ χ' M (yab d)) (plVs M (yab d) cs) (reAs (fun x c=>lkE (gOut t χ' M (yab d)) (x,c)) (aTs C t χ' cs)):=by
  intro s c e cs hb
  have hc:c=1:=by
   rcases tb_c hb with q|q
   ·exact q
   ·subst q
    have hb':lkB t.nw s=some (.box e cs):=hb
    rw[h.tt.nw] at hb';cases hb'
  subst hc
  rcases h.tt.ent _ (yes (show lkB t.od s=_ from hb)) with ⟨⟨e',l,x,a1,_,e3⟩,_⟩|⟨⟨e',l,e3⟩,_⟩
  ·have e3:=Option.some.inj e3
   rcases yb5 e' l (bdW C [] l x).1 x with q|⟨t0,y,_,q⟩
   ·rw[q] at e3
    cases e3
    exact yka h.hC h.back h.tt.rw h.tt.bx l x a1
   ·rw[q] at e3;cases e3
  ·have e3:=Option.some.inj e3
   cases e3
 have all : ∀(l:List (Nat×Option Nat)) (us:List (TV K)),ycr t l=some us→TL P C (aft0 sp (yab d) M t ts) (gChi sp t χ χ' M (yab d)) (plVs M (yab d) us) (reAs (fun x c=>lkE (gOut t χ' M (yab d)) (x,c)) (aTs C t χ' us)):=by
  intro l
  induction l with
  |nil=>intro us hu;cases hu;exact .nil
  | cons p l ih=>
    intro us hu
    simp only[ycr] at hu
    split at hu
    ·rename_i v vs h1 h2
     cases hu
     simp only[plVs,aTs,reAs]
     refine .cons ?_ (ih vs h2)
     obtain ⟨s,q⟩:=p
     cases q with
     |none=>simp only[resT] at h1;cases h1;exact slot s
     | some q=>
       cases q with
       | zero=>
         simp only[resT] at h1
         split at h1
         ·rename_i s' c o e
          split at h1
          ·rename_i e' cs hb
           obtain ⟨_,c2⟩:=cells hb
           refine c2 o _ _ (by rw[ye1,List.getElem?_map,h1];rfl) (by rw[yd4,ybW,List.map_map,List.getElem?_map,h1];rfl)
          ·cases h1
         ·cases h1
       | succ q=>
         simp only[resT] at h1
         split at h1
         ·rename_i s' c o e
          split at h1
          ·rename_i e' cs hb
           have c0:=cells hb
           simp only[tldc] at h1
           split at h1
           ·cases h1
            have c1:=(c0.drop o).take (q+1)
            simp only[plV,aT,reA]
            refine .agg _ _ ?_ ?_
            ·have:=c1.1
             simp[ye1,yd4,ybW,List.map_take,List.map_drop]
            ·have:=c1.2
             simpa [ye1,yd4,ybW,List.map_take,List.map_drop] using this
           ·cases h1
          ·cases h1
         ·cases h1
    ·cases hu
 have ht:=all sp.res us hu
 have e:∀vs:List AV,reA (fun x c=>lkE (gOut t χ' M (yab d)) (x,c)) (yb3 vs)=yb3 (reAs (fun x c=>lkE (gOut t χ' M (yab d)) (x,c)) vs):=by
  intro vs
  cases vs with
  |nil=>rfl
  |cons a r=>cases r<;>rfl
 rw[e]
 exact yhW ht
theorem CE.val' (h:CE P C R ts ts0 t χ χ' ds sp d M inn) (hks:∀p∈sp.te.ks,okK (sp.to.bx.map (·.1)) (sp.to.rw.map (·.1)) p.2=true):
  TR P C (aft0 sp (yab d) M t ts) (gChi sp t χ χ' M (yab d)) (tres (plVs M (yab d) ((ycr t sp.res).getD []))) (reA (fun x c=>lkE (gOut t χ' M (yab d)) (x,c)) (yb3 (aTs C t χ' ((ycr t sp.res).getD [])))):=by
 cases hu:ycr t sp.res with
 |some us=>exact h.val hks hu
 |none=>exact .tup [] [] rfl (fun j u v hq=>by simp at hq)
end
end Go.AV
end
