/- General texts and own ones, joined: what the program computes, told of abstract states, and the laws of plain data. No condition. -/
import Derived.Test.YtpplhhknlmcgbaaMc
noncomputable section
namespace Go.AV
open Go.RowKit Go.RG Go.Lib
variable {K:Nat->Type}
section
variable {P:Program} {C:Cx K} {R:RR K} {ts ts':TS K} {χ χ':Nat->Nat->Bool} {ds:DS}
theorem ynz {b:Bool} {c:Prop} (h:AllP (ifL b c)):b=false→c:=by
 intro e;subst e;exact h.1
theorem ynZ (hC:CxOk P C) (hγ:GM P C R ts χ ds) {s c e:Nat} {l:List (K e)} (hl:trow C e (ts.tb s c)=some l) (h:tfew (ts.tb s c)=true):l.length≤1000:=by
 obtain ⟨g1,_⟩:=hγ.trow hC hl
 unfold tfew at h
 split at h
 ·rename_i e' n cs hb
  rw[hb] at g1
  cases g1
  exact Nat.le_of_ble_eq_true h
 ·cases h
theorem yry (hC:CxOk P C) (hγ:GM P C R ts χ ds) {e:Nat} {u:TV K} {v:AV} {l2:List (K e)} (hv:TR P C ts χ u v) (h:tsrc C e ts u=some l2):∃ys,srcA (toD ds) v=some (l2.length,ys)∧dwks ys=cl (C.E e) l2:=by
 unfold tsrc at h
 split at h
 ·obtain ⟨rfl,rfl⟩:=yd9 h
  obtain ⟨z,xs,hx,rfl⟩:=hv.sli
  exact ⟨xs,rfl,hx⟩
 ·rename_i s c
  obtain ⟨g1,g2,g3⟩:=hγ.trow hC h
  rcases hv.rwi g1 with ⟨hχ,rfl⟩|⟨hχ,h0,rfl⟩
  ·obtain ⟨kb,k1,k2,k3,k4⟩:=g3 hχ
   refine ⟨kb.cells,?_,k4⟩
   show (((ds.kb s c).map KB.blk).bind fun b=>if b.sz=0 then none else some (l2.length,b.cells))=_
   rw[k1]
   show (if kb.sz=0 then none else some (l2.length,kb.cells))=_
   rw[if_neg (by rw[k3];exact Nat.pos_iff_ne_zero.1 (C.E e).pos)]
  ·have:=g2 hχ;subst this
   exact ⟨[],rfl,rfl⟩
 ·cases h;cases hv;exact ⟨[],rfl,rfl⟩
 ·cases h;cases hv;exact ⟨[],rfl,rfl⟩
 ·cases h
theorem ymI (hC:CxOk P C) (hγ:GM P C R ts χ ds) {e:Nat} {u:TV K} {l2:List (K e)} (h:tsrc C e ts u=some l2) (hc:AllP (ifL (yl9 ts u) (l2.length≤400000000))):l2.length≤400000000:=by
 cases hs:yl9 ts u with
 |false=>exact ynz hc hs
 | true=>
   unfold yl9 at hs
   split at hs
   ·have:=ynZ hC hγ (by simpa [tsrc] using h) hs;omega
   ·simp only[tsrc] at h;cases h;simp
   ·simp only[tsrc] at h;cases h;simp
   ·cases hs
theorem GM.kill {s c:Nat} (hγ:GM P C R ts χ ds) (hc:c=1∨c=2):GM P C R (ts.setb s c none) (updχ χ s c false) ds:=by
 have hm:Mono ts (ts.setb s c none) χ (updχ χ s c false):=Mono.setb hc (fun _=> .inl ⟨rfl,rfl⟩)
 refine ⟨fun t=> ?_,fun s' c' b' h1 h2=> ?_,fun s' c' h1=> ?_,fun s' h1=> ?_,by rw[yo2];exact hγ.hp,fun s' b9 q9 e9=> ?_⟩
 rotate_right
 ·rw[ych ts s c _ hc] at e9
  unfold updχ
  by_cases e:s'=s/\1=c
  ·rw[if_pos e] at e9;cases e9
  ·rw[if_neg e] at e9⊢;exact hγ.lv s' b9 q9 e9
 ·rw[yll];exact (hγ.fr t).mono hm
 ·rw[ych ts s c none hc] at h1
  unfold updχ at h2
  by_cases e:s'=s/\c'=c
  ·rw[if_pos e] at h1;cases h1
  ·rw[if_neg e] at h1 h2
   obtain ⟨k',q1,q2⟩:=hγ.mb s' c' b' h1 h2
   exact ⟨k',q1,q2.mono hm⟩
 ·unfold updχ at h1
  rw[ych ts s c none hc]
  by_cases e:s'=s/\c'=c
  ·rw[if_pos e] at h1;cases h1
  ·rw[if_neg e] at h1⊢;exact hγ.vi s' c' h1
 ·rcases hc with rfl|rfl
  ·exact hγ.nw s' h1
  ·have h1':(Nat.beq s s'||memB ts.nw s')=false:=h1
   simp only[Bool.or_eq_false_iff] at h1'
   exact hγ.nw s' h1'.2
structure AppC (u:AOp) (d:Option Nat) (ds:DS) (x:AOpd) (e sz m:Nat) (ys:List AV):Prop where
 eff:effA (fun _=>false) u d (toD ds)=yeV (fun _=>false) (site d) e sz m ys (toD ds) (ev (lkF ds.fr) x)
 pos:0<sz
theorem yne {u:AOp} {d:Option Nat} {x:AOpd} {e sz m n:Nat} {ys xs:List AV} (hk:DOk ds) (hA:AppC u d ds x e sz m ys) (hx:ev (lkF ds.fr) x= .sl true n xs) (hm:0<m) (hnw:memO ds.nw (site d)=false):
  Eff u d ds ⟨.gs (.l (site d) 2) m,[((site d,2),some ⟨e,sz,ys⟩)],[site d],none⟩ ((ds.set (site d) 2 (some ⟨e,sz,ys,false⟩)).put d (.gs (.l (site d) 2) m)):=by
 refine ⟨?_,yjx (b:=⟨e,sz,ys,false⟩) hnw,DOk.put (hk.set (.inr rfl) fun x hx=>by cases hx;exact ⟨.inl (Nat.pos_iff_ne_zero.1 hA.pos),fun q=>by cases q⟩)⟩
 rw[hA.eff,hx]
 simp only[yeV]
 rw[if_neg (by omega),ygV hnw]
 rfl
theorem ypz {u:AOp} {d:Option Nat} {x:AOpd} {e sz m n:Nat} {ys xs:List AV} (hk:DOk ds) (hA:AppC u d ds x e sz m ys) (hx:ev (lkF ds.fr) x= .sl true n xs) (hm:m=0):
  Eff u d ds (eff1 (.sl true 0 [])) (ds.put d (.sl true 0 [])):=by
 refine ⟨?_,yeX _ d ds,hk.put⟩
 rw[hA.eff,hx]
 simp only[yeV]
 rw[if_pos hm]
theorem yni {u:AOp} {d:Option Nat} {x:AOpd} {e sz m n s c:Nat} {ys:List AV} {kb:KB} (hk:DOk ds) (hA:AppC u d ds x e sz m ys) (hx:ev (lkF ds.fr) x= .gs (.l s c) n) (hm:ds.kb s c=some kb) (he:kb.e=e) (hz:kb.sz=sz) (hl:kb.cells.length=n*sz) (hn:n≤1000000000) (hnw:memO ds.nw (site d)=false):
  Eff u d ds ⟨.gs (.l (site d) 2) (n+m),[((s,c),none),((site d,2),some ⟨e,sz,kb.cells++ys⟩)],[site d],none⟩ (((ds.set s c none).set (site d) 2 (some ⟨e,sz,kb.cells++ys,false⟩)).put d (.gs (.l (site d) 2) (n+m))):=by
 have hcc:=kb_c hm
 refine ⟨?_,yso (b:=⟨e,sz,kb.cells++ys,false⟩) hnw hcc,DOk.put ((hk.set (hcc.imp id (·.1)) fun x hx=>by cases hx).set (.inr rfl) fun x hx=>by cases hx;exact ⟨.inl (Nat.pos_iff_ne_zero.1 hA.pos),fun q=>by cases q⟩)⟩
 rw[hA.eff,hx]
 simp only[yeV]
 show (((ds.kb s c).map KB.blk).bind _)=_
 rw[hm]
 simp only[Option.map_some,Option.bind_some,KB.blk]
 rw[if_pos ⟨he,hz,hl,hn⟩,ygV hnw]
 rfl
theorem yq9 (hC:CxOk P C) (hγ:GM P C R ts χ ds) (hk:DOk ds) {o:AO} {x:AOpd} {e:Nat} {l2:List (K e)} {c2:List Prop} {ys:List AV} {X:TS K→Prop} (h:tapp C e o.dst ts l2 c2 X (tev ts.fr x)) (hA:AllP c2→AppC o.op o.dst ds x e (C.E e).sz l2.length ys) (hys:dwks ys=cl (C.E e) l2)
  (hw:twk' ts o=(site o.dst,2)::trf (tev ts.fr x)):SR P C R o ts ds X:=by
 have hx:=hγ.tev x
 have hyl:ys.length=l2.length*(C.E e).sz:=by rw[<-ybh ys,hys,ygd]
 have nilC:∀ {ts0:TS K} {χ0:Nat→Nat→Bool},GM P C R ts0 χ0 ds→memB ts0.nw (site o.dst)=false→ts0.rg=ts.rg→AllP c2→ev (lkF ds.fr) x= .sl true 0 []→X (tnew ts0 o.dst (.row e l2) trw)→SR P C R o ts ds X:=by
  intro ts0 χ0 hγ0 hn hrg hc hev hX
  have hnw:=hγ0.nw _ hn
  by_cases h0:l2= []
  ·subst h0
   have hE:=ypz hk (hA hc) hev rfl
   refine ⟨_,_,_,_,hE,fun p hp=>(by cases hp),rfl,GM.put (hγ0.setv hn) ?_,hX,by rw[ybD,yb6,hrg]⟩
   exact .rwn _ _ (yk4 _ _ _) (by rw[ykH];rfl) (ygB _ _ _ _)
  ·have hm:0<l2.length:=List.length_pos_iff.2 h0
   have hE:=yne hk (hA hc) hev hm hnw
   have hg:=hγ0.setb (s:=site o.dst) (c:=2) (b:=some (.row e l2)) (kb:=some ⟨e,(C.E e).sz,ys,false⟩) (.inr rfl) (Mono.new hn) (fun b' hb'=>⟨_,rfl,by cases hb';exact ⟨rfl,rfl,hys⟩⟩) (fun _ _ e9 _=>by cases e9)
   refine ⟨_,_,_,_,hE,fun p hp=> ?_,rfl,hg.put (.rw _ _ _ (yk4 _ _ _) (by rw[ykH];rfl) (ygB _ _ _ _)),hX,by rw[ybD,yb6,hrg]⟩
   simp only[List.mem_singleton] at hp;subst hp;rw[hw];simp
 unfold tapp at h
 split at h
 ·rename_i ex
  obtain ⟨hn,h⟩:=ycW h
  obtain ⟨hc,hX⟩:=yep h
  rw[ex] at hx
  have hev:ev (lkF ds.fr) x= .sl true 0 []:=by
   revert hx;generalize ev (lkF ds.fr) x=w;intro hx;cases hx;rfl
  exact nilC hγ hn rfl hc hev hX
 ·rename_i s c ex
  obtain ⟨hn,h⟩:=ycW h
  obtain ⟨l,hl,h⟩:=ycr h
  obtain ⟨hc1,h⟩:=yep h
  obtain ⟨hc,hX⟩:=yep h
  rw[ex] at hx
  obtain ⟨g1,g2,g3⟩:=hγ.trow hC hl
  have hok:=ymm g1
  have hcc:c=1∨c=2:=hok.imp id (·.1)
  have hne:¬(s=site o.dst∧c=2):=by
   rintro ⟨rfl,rfl⟩;exact yln hn hok
  have hn':memB (ts.setb s c none).nw (site o.dst)=false:=by
   rcases hcc with rfl|rfl
   ·exact hn
   ·show (Nat.beq s (site o.dst)||memB ts.nw (site o.dst))=false
    rw[hn,Bool.or_false]
    cases hq:Nat.beq s (site o.dst) with
    |false=>rfl
    |true=>exact (hne ⟨nbeq.1 hq,rfl⟩).elim
  rcases hx.rwi g1 with ⟨hχ,hv⟩|⟨hχ,hz,hv⟩
  ·obtain ⟨kb,k1,k2,k3,k4⟩:=g3 hχ
   have hlen:l.length≤1000000000:=by
    cases hf:tfew (ts.tb s c) with
    |false=>exact ynz hc1 hf
    |true=>have:=ynZ hC hγ hl hf;omega
   have hkl:kb.cells.length=l.length*(C.E e).sz:=by rw[<-ybh kb.cells,k4,ygd]
   have hE:=yni hk (hA hc) hv k1 k2 k3 hkl hlen (hγ.nw _ hn)
   have hg1:=hγ.setb (s:=s) (c:=c) (b:=none) (kb:=none) hcc (Mono.setb hcc (fun _=> .inl ⟨rfl,rfl⟩)) (fun b' hb'=>by cases hb') (fun _ h9=>by cases h9)
   have hg2:=hg1.setb (s:=site o.dst) (c:=2) (b:=some (.row e (l++l2))) (kb:=some ⟨e,(C.E e).sz,kb.cells++ys,false⟩) (.inr rfl) (Mono.new hn') (fun b' hb'=>⟨_,rfl,by cases hb';exact ⟨rfl,rfl,by show dwks (kb.cells++ys)=_;rw[ycZ,k4,hys,yuh]⟩⟩) (fun _ _ e9 _=>by cases e9)
   refine ⟨_,_,_,_,hE,fun p hp=> ?_,rfl,hg2.put (.rw _ _ _ (yk4 _ _ _) (by rw[ykH];simp[tln]) (ygB _ _ _ _)),hX,by rw[ybD,yb6,yb6]⟩
   simp only[List.mem_cons,List.not_mem_nil,or_false] at hp
   rw[hw,ex]
   rcases hp with rfl|rfl<;>simp[trf]
  ·have:=g2 hχ;subst this
   exact nilC (hγ.kill (s:=s) (c:=c) hcc) hn' (yb6 _ _ _ _) hc hv (by simpa using hX)
 ·exact h.elim
structure ApfC (u:AOp) (d:Option Nat) (ds:DS) (x:AOpd) (e sz m:Nat) (ys:List AV):Prop where
 eff:effA (fun _=>false) u d (toD ds)=yed (fun _=>false) (site d) e sz m ys (toD ds) (ev (lkF ds.fr) x)
 pos:0<sz
theorem yvX (hC:CxOk P C) (hγ:GM P C R ts χ ds) (hk:DOk ds) {o:AO} {x:AOpd} {e:Nat} {l2:List (K e)} {c2:List Prop} {ys:List AV} {X:TS K→Prop} (h:tapf C e o.dst ts l2 c2 X (tev ts.fr x)) (hA:AllP c2→ApfC o.op o.dst ds x e (C.E e).sz l2.length ys) (hys:dwks ys=cl (C.E e) l2)
  (hw:twk' ts o=(site o.dst,2)::trf (tev ts.fr x)):SR P C R o ts ds X:=by
 have hx:=hγ.tev x
 have hyl:ys.length=l2.length*(C.E e).sz:=by rw[<-ybh ys,hys,ygd]
 have hsz:(C.E e).sz≠0:=Nat.ne_of_gt (C.E e).pos
 have nilC:∀ {ts0:TS K} {χ0:Nat→Nat→Bool},GM P C R ts0 χ0 ds→memB ts0.nw (site o.dst)=false→ts0.rg=ts.rg→AllP c2→ev (lkF ds.fr) x= .sl true 0 []→X (tnwf ts0 o.dst (.sl e l2))→SR P C R o ts ds X:=by
  intro ts0 χ0 hγ0 hn hrg hc hev hX
  have hnw:=hγ0.nw _ hn
  by_cases h0:l2= []
  ·subst h0
   have hE:Eff o.op o.dst ds (eff1 (.sl true 0 [])) (ds.put o.dst (.sl true 0 [])):=by
    refine ⟨?_,yeX _ _ ds,hk.put⟩
    rw[(hA hc).eff,hev]
    simp only[yed]
    rfl
   refine ⟨_,_,_,_,hE,fun p hp=>(by cases hp),rfl,GM.put (hγ0.kill (s:=site o.dst) (c:=2) (.inr rfl)) ?_,hX,by rw[ybD,yb6,hrg]⟩
   exact .sl e _ true _ _ rfl rfl
  ·have hm:0<l2.length:=List.length_pos_iff.2 h0
   have hE:Eff o.op o.dst ds ⟨.sl false l2.length ys,[((site o.dst,2),none)],[site o.dst],none⟩ ((ds.set (site o.dst) 2 none).put o.dst (.sl false l2.length ys)):=by
    refine ⟨?_,ylt none hnw,DOk.put (hk.set (.inr rfl) fun x hx=>by cases hx)⟩
    rw[(hA hc).eff,hev]
    simp only[yed]
    rw[if_neg (by omega),yjK hnw hyl hsz (ybp hys)]
    rfl
   have hg:=hγ0.setb (s:=site o.dst) (c:=2) (b:=none) (kb:=none) (.inr rfl) (Mono.setb (.inr rfl) (fun q=>by
    rcases q with q|⟨_,q⟩
    ·cases q
    ·rw[hn] at q;cases q)) (fun b' hb'=>by cases hb') (fun _ h9=>by cases h9)
   refine ⟨_,_,_,_,hE,fun p hp=> ?_,rfl,hg.put (.sl e _ false _ _ rfl hys),hX,by rw[ybD,yb6,hrg]⟩
   simp only[List.mem_singleton] at hp;subst hp;rw[hw];simp
 unfold tapf at h
 split at h
 ·rename_i ex
  obtain ⟨hn,h⟩:=ycW h
  obtain ⟨hc,hX⟩:=yep h
  rw[ex] at hx
  have hev:ev (lkF ds.fr) x= .sl true 0 []:=by
   revert hx;generalize ev (lkF ds.fr) x=w;intro hx;cases hx;rfl
  exact nilC hγ hn rfl hc hev hX
 ·rename_i s c ex
  obtain ⟨hn,h⟩:=ycW h
  obtain ⟨l,hl,h⟩:=ycr h
  obtain ⟨hc1,h⟩:=yep h
  obtain ⟨hc,hX⟩:=yep h
  rw[ex] at hx
  obtain ⟨g1,g2,g3⟩:=hγ.trow hC hl
  have hok:=ymm g1
  have hcc:c=1∨c=2:=hok.imp id (·.1)
  have hne:¬(s=site o.dst∧c=2):=by
   rintro ⟨rfl,rfl⟩;exact yln hn hok
  have hn':memB (ts.setb s c none).nw (site o.dst)=false:=by
   rcases hcc with rfl|rfl
   ·exact hn
   ·show (Nat.beq s (site o.dst)||memB ts.nw (site o.dst))=false
    rw[hn,Bool.or_false]
    cases hq:Nat.beq s (site o.dst) with
    |false=>rfl
    |true=>exact (hne ⟨nbeq.1 hq,rfl⟩).elim
  rcases hx.rwi g1 with ⟨hχ,hv⟩|⟨hχ,hz,hv⟩
  ·obtain ⟨kb,k1,k2,k3,k4⟩:=g3 hχ
   have hlen:l.length≤1000000000:=by
    cases hf:tfew (ts.tb s c) with
    |false=>exact ynz hc1 hf
    |true=>have:=ynZ hC hγ hl hf;omega
   have hkl:kb.cells.length=l.length*(C.E e).sz:=by rw[<-ybh kb.cells,k4,ygd]
   have hcat:dwks (kb.cells++ys)=cl (C.E e) (l++l2):=by rw[ycZ,k4,hys,yuh]
   have hcc2:=kb_c k1
   have hnw:=hγ.nw _ hn
   have hE:Eff o.op o.dst ds ⟨.sl false (l.length+l2.length) (kb.cells++ys),[((s,c),none),((site o.dst,2),none)],[site o.dst],none⟩ (((ds.set s c none).set (site o.dst) 2 none).put o.dst (.sl false (l.length+l2.length) (kb.cells++ys))):=by
    refine ⟨?_,ymt none hnw hcc2,DOk.put ((hk.set hcc fun x hx=>by cases hx).set (.inr rfl) fun x hx=>by cases hx)⟩
    rw[(hA hc).eff,hv]
    simp only[yed]
    show (((ds.kb s c).map KB.blk).bind _)=_
    rw[k1]
    simp only[Option.map_some,Option.bind_some,KB.blk]
    rw[if_pos ⟨k2,k3,hkl,hlen⟩,yjK hnw (by show (kb.cells++ys).length=_*_;rw[List.length_append,hkl,hyl,Nat.add_mul]) hsz (ybp hcat)]
    rfl
   have hg1:=hγ.setb (s:=s) (c:=c) (b:=none) (kb:=none) hcc (Mono.setb hcc (fun _=> .inl ⟨rfl,rfl⟩)) (fun b' hb'=>by cases hb') (fun _ h9=>by cases h9)
   have hg2:=hg1.setb (s:=site o.dst) (c:=2) (b:=none) (kb:=none) (.inr rfl) (Mono.setb (.inr rfl) (fun q=>by
    rcases q with q|⟨_,q⟩
    ·cases q
    ·rw[hn'] at q;cases q)) (fun b' hb'=>by cases hb') (fun _ h9=>by cases h9)
   refine ⟨_,_,_,_,hE,fun p hp=> ?_,rfl,hg2.put (.sl e _ false _ _ (by rw[List.length_append]) hcat),hX,by rw[ybD,yb6,yb6]⟩
   simp only[List.mem_cons,List.not_mem_nil,or_false] at hp
   rw[hw,ex]
   rcases hp with rfl|rfl<;>simp[trf]
  ·have:=g2 hχ;subst this
   exact nilC (hγ.kill (s:=s) (c:=c) hcc) hn' (yb6 _ _ _ _) hc hv (by simpa using hX)
 ·exact h.elim
theorem yvl (hC:CxOk P C) (hγ:GM P C R ts χ ds) (hk:DOk ds) {F:Cf K} (hF:F.C=C) {o:AO} {e sz n:Nat} {z:List AV} {parts:List (Nat×Nat×AOpd)} {X:TS K→Prop} {dr:Bool} (ho:o.op= .bsf e sz n z parts) (h:step F dr o ts X):SR P C R o ts ds X:=by
 unfold step at h
 rw[ho,hF] at h
 simp only at h
 split at h
 ·rename_i hc
  simp only[Bool.and_eq_true] at hc
  obtain ⟨⟨c1,c2⟩,c3⟩:=hc
  have c1:=nbeq.1 c1
  have c2:=nbeq.1 c2
  have c3:=Nat.le_of_ble_eq_true c3
  obtain ⟨hn,h⟩:=ycW h
  obtain ⟨cs,hcs,h⟩:=ycr h
  obtain ⟨l,hl,hX⟩:=ycr h
  obtain ⟨cs',e2,t⟩:=yje (P:=P) (C:=C) (ts:=ts) (χ:=χ) _ (parts.map fun p=>(p.1,p.2.1,ev (lkF ds.fr) p.2.2)) _ (ya7 z n) _ (TL.rep (TL.cvAs z) n) (by simp) (fun j p q a b=>by
   rw[List.getElem?_map] at a b
   cases hp:parts[j]? with
   |none=>rw[hp] at a;cases a
   |some r=>rw[hp] at a b;cases a;cases b;exact ⟨rfl,rfl,hγ.tea _⟩) hcs
  have hz:0<sz:=by rw[<-c2];exact (C.E e).pos
  have hcl:cs.length=n*sz:=by rw[yjL _ _ _ hcs,ynA];rw[<-(TL.cvAs (P:=P) (C:=C) (ts:=ts) (χ:=χ) z).1,c1]
  obtain ⟨a1,a2⟩:=yi8 hC n _ (cs'.map weak) l hl (TL.twk t) (by simp[hcl,c2])
  have hnw:=hγ.nw _ hn
  have hlw:(cs'.map weak).length=n*sz:=by rw[(TL.twk t).1,List.length_map,hcl]
  have hE:Eff o.op o.dst ds ⟨.sl false n (cs'.map weak),[((site o.dst,2),none)],[site o.dst],none⟩ ((ds.set (site o.dst) 2 none).put o.dst (.sl false n (cs'.map weak))):=by
   refine ⟨?_,ylt none hnw,DOk.put (hk.set (.inr rfl) fun x hx=>by cases hx)⟩
   rw[ho]
   simp only[effA]
   rw[if_pos ⟨c1,hz,c3⟩]
   show ((ygl (ya7 z n) (parts.map fun p=>(p.1,p.2.1,ev (lkF ds.fr) p.2.2))).bind _)=_
   rw[e2]
   simp only[Option.bind_some]
   rw[yjK hnw hlw (Nat.ne_of_gt hz) (ybp a1)]
   rfl
  have hg:=hγ.setb (s:=site o.dst) (c:=2) (b:=none) (kb:=none) (.inr rfl) (Mono.setb (.inr rfl) (fun q=>by
   rcases q with q|⟨_,q⟩
   ·cases q
   ·rw[hn] at q;cases q)) (fun b' hb'=>by cases hb') (fun _ h9=>by cases h9)
  refine ⟨_,_,_,_,hE,fun p hp=> ?_,rfl,hg.put (.sl e _ false _ _ a2.symm a1),hX,by rw[ybD,yb6]⟩
  simp only[List.mem_singleton] at hp;subst hp;simp[twk',ho]
 ·exact h.elim
theorem ylg {e:Nat} {f:K e→UInt8} (hC:CxOk P C) (hf:(C.T e).tb=some f):∀(l:List (K e)) (ys:List AV),dwks ys=cl (C.E e) l→yfh ys=some (l.map f)∧ys.length=l.length
 | [],ys,h=>by
   have:ys= []:=by cases ys with|nil=>rfl|cons=>simp[dwks,cl] at h
   subst this;exact ⟨rfl,rfl⟩
 | x ::l,ys,h=>by
   obtain ⟨n,h1,h2⟩:=hC.tb e f hf x
   rw[show cl (C.E e) (x::l)=(C.E e).c x++cl (C.E e) l by simp[cl],h1] at h
   cases ys with
   |nil=>simp[dwks] at h
   | cons y ys=>
     simp only[dwks,List.cons_append,List.nil_append,List.cons.injEq] at h
     obtain ⟨a1,a2⟩:=ylg hC hf l ys h.2
     have:y= .it .u8 n:=by
      have h1:=h.1
      cases y<;>simp[dwk] at h1
      obtain ⟨rfl,rfl⟩:=h1;rfl
     subst this
     exact ⟨by simp only[yfh,yvV,a1,List.map_cons,h2],by simp[a2]⟩
theorem yuT (hC:CxOk P C) (hγ:GM P C R ts χ ds) (hk:DOk ds) {F:Cf K} (hF:F.C=C) {o:AO} {x:AOpd} {X:TS K→Prop} {dr:Bool} (ho:o.op= .b2s x) (h:step F dr o ts X):SR P C R o ts ds X:=by
 unfold step at h
 rw[ho,hF] at h
 simp only at h
 have hx:=hγ.tev x
 have fin:∀ {s:Str},effA (fun _=>false) (.b2s x) o.dst (toD ds)=some (eff1 (.st s))→X (ts.put o.dst (.st s))→SR P C R o ts ds X:=by
  intro s he hX
  exact ygi hγ (.st s) (by rw[ho];exact ⟨he,yeX _ _ _,hk.put⟩) hX
 split at h
 ·rename_i e l ex
  rw[ex] at hx
  obtain ⟨z,xs,hxs,hv⟩:=hx.sli
  split at h
  ·rename_i f hf
   obtain ⟨b1,b2⟩:=ylg hC hf l xs hxs
   refine fin ?_ h
   simp only[effA]
   rw[ycj,hv]
   simp only
   rw[if_pos b2,b1];rfl
  ·exact h.elim
 ·rename_i s c ex
  rw[ex] at hx
  split at h
  ·rename_i f l hf hl
   obtain ⟨g1,g2,g3⟩:=hγ.trow hC hl
   rcases hx.rwi g1 with ⟨hχ,hv⟩|⟨hχ,h0,hv⟩
   ·obtain ⟨kb,k1,k2,k3,k4⟩:=g3 hχ
    obtain ⟨b1,b2⟩:=ylg hC hf l kb.cells k4
    refine fin ?_ h
    simp only[effA]
    rw[ycj,hv]
    simp only
    show (((ds.kb s c).map KB.blk).bind _)=_
    rw[k1]
    simp only[Option.map_some,Option.bind_some,KB.blk]
    rw[if_pos ⟨by rw[k3];exact Nat.pos_iff_ne_zero.1 (C.E _).pos,b2⟩,b1];rfl
   ·have:=g2 hχ;subst this
    refine fin ?_ h
    simp only[effA]
    rw[ycj,hv]
    rfl
  ·exact h.elim
 ·rename_i ex
  rw[ex] at hx
  have hev:ev (lkF ds.fr) x= .sl true 0 []:=by
   revert hx;generalize ev (lkF ds.fr) x=w;intro hx;cases hx;rfl
  refine fin ?_ h
  simp only[effA]
  rw[ycj,hev]
  rfl
 ·exact h.elim
structure yxZ (s c:Nat) (ts ts':TS K) (χ χ':Nat→Nat→Bool):Prop where
 rg:∀id u,lkR ts.rg id=some u->lkR ts'.rg id=some u
 ok:∀s c,okr ts s c->okr ts' s c
 pl:∀s' c',¬(s'=s/\c'=c)->okr ts s' c'->(tln (ts'.tb s' c')=none/\χ' s' c'=false)∨(tln (ts'.tb s' c')=tln (ts.tb s' c')/\χ' s' c'=χ s' c')
theorem ym8 (s c:Nat) (l:List (TV K)) (j:Nat):(yhY s c l)[j]? =(l[j]?).map (yhb s c):=by
 induction l generalizing j with
 |nil=>simp[yhY]
 | cons x l ih=>cases j with
   |zero=>simp[yhY]
   |succ j=>simp[yhY,ih]
theorem ykM (s c:Nat) (l:List (TV K)):(yhY s c l).length=l.length:=by
 induction l with
 |nil=>rfl
 |cons x l ih=>simp[yhY,ih]
theorem beq2 {a b c d:Nat} (h:(Nat.beq a b&&Nat.beq c d)=false):¬(b=a∧d=c):=by
 rintro ⟨rfl,rfl⟩;rw[nbeq.2 rfl,nbeq.2 rfl] at h;cases h
theorem TR.drop {s c:Nat} (hm:yxZ s c ts ts' χ χ') {u:TV K} {v:AV} (h:TR P C ts χ u v):TR P C ts' χ' (yhb s c u) v:=by
 induction h with
 |cn id u v h hn hv _=>exact .cn id u v (hm.rg id u h) hn (hv.noref hn).1
 |un v=>exact .un v
 |lb b=>exact .lb b
 |bl b=>exact .bl b
 |li k n=>exact .li k n
 |it k n=>exact .it k n
 |st s=>exact .st s
 | agg us vs hl _ ih=>
   refine .agg _ vs (by rw[ykM];exact hl) (fun j u v h1 h2=> ?_)
   rw[ym8] at h1
   obtain ⟨u',e1,rfl⟩:=Option.map_eq_some_iff.1 h1
   exact ih j u' v e1 h2
 | tup us vs hl _ ih=>
   refine .tup _ vs (by rw[ykM];exact hl) (fun j u v h1 h2=> ?_)
   rw[ym8] at h1
   obtain ⟨u',e1,rfl⟩:=Option.map_eq_some_iff.1 h1
   exact ih j u' v e1 h2
 |nil=>exact .nil
 |em z=>exact .em z
 |sl e l z n xs hn hx=>exact .sl e l z n xs hn hx
 | rwd s' c' v hr h ho=>
   simp only[yhb]
   split
   ·exact .un _
   ·rename_i e
    refine .rwd s' c' v (hm.ok s' c' hr) ?_ ho
    rcases hm.pl s' c' (beq2 e) hr with h1|h1
    ·exact h1.1
    ·rw[h1.1];exact h
 | rw s' c' n hr h hx=>
   simp only[yhb]
   split
   ·exact .un _
   ·rename_i e
    rcases hm.pl s' c' (beq2 e) hr with h1|h1
    ·exact .rwd s' c' _ (hm.ok s' c' hr) h1.1 rfl
    ·exact .rw s' c' n (hm.ok s' c' hr) (by rw[h1.1];exact h) (by rw[h1.2];exact hx)
 | rwn s' c' hr h hx=>
   simp only[yhb]
   split
   ·exact .un _
   ·rename_i e
    rcases hm.pl s' c' (beq2 e) hr with h1|h1
    ·exact .rwd s' c' _ (hm.ok s' c' hr) h1.1 rfl
    ·exact .rwn s' c' (hm.ok s' c' hr) (by rw[h1.1];exact h) (by rw[h1.2];exact hx)
 |px s' c' off hr=>exact .px s' c' off (hm.ok s' c' hr)
 | pr e0 s' c' i of hr hx=>
   simp only[yhb]
   split
   ·exact .un _
   ·rename_i e
    refine .pr e0 s' c' i of (hm.ok s' c' hr) ?_
    rcases hm.pl s' c' (beq2 e) hr with h1|h1
    ·exact h1.2
    ·rw[h1.2];exact hx
 |ep e l i of xs hx=>exact .ep e l i of xs hx
 |gs l i xs hx=>exact .gs l i xs hx
 |nptr=>exact .nptr
 |fn f a c a' c' ha hc _ _ ih ih'=>exact .un _
 |fv ps rs F v h hv=>exact .fv ps rs F v h hv
 |yl r=>exact .yl r
theorem ylv (f:TV K→TV K) (hf:f .un= .un):∀(l:List (Nat×TV K)) (t:Nat),lkT (mapF f l) t=f (lkT l t)
 | [],t=>hf.symm
 | p::r,t=>by
   rw[show mapF f (p::r)=(p.1,f p.2)::mapF f r from rfl,yb3,ylv f hf r t]
   rw[show p::r=(p.1,p.2)::r from rfl,yb3]
   split<;>rfl
theorem yj6 (f:TV K→TV K):∀(l:List (Nat×Option (TB K))) (t:Nat),lkB (mapM f l) t=mapB f (lkB l t)
 | [],t=>rfl
 | p::r,t=>by
   rw[show mapM f (p::r)=(p.1,mapB f p.2)::mapM f r from rfl,yaO,yaO,yj6 f r t]
   split<;>rfl
theorem yg5 (f:TV K→TV K):∀(l:List (Nat×Option (TB K))) (t:Nat),memB (mapM f l) t=memB l t
 | [],t=>rfl
 |p::r,t=>by show (Nat.beq p.1 t||memB (mapM f r) t)=(Nat.beq p.1 t||memB r t);rw[yg5 f r t]
theorem yly (ts:TS K) (f:TV K→TV K) (s c:Nat):(ts.mapv f).tb s c=mapB f (ts.tb s c):=by
 unfold TS.tb TS.mapv
 cases Nat.beq c 1 with
 |true=>exact yj6 f _ _
 | false=>cases Nat.beq c 2 with
   |true=>exact yj6 f _ _
   |false=>rfl
theorem ynS (f:TV K→TV K) (b:Option (TB K)):tln (mapB f b)=tln b:=by
 cases b with
 |none=>rfl
 |some b=>cases b<;>rfl
theorem GM.lvt (hγ:GM P C R ts χ ds) {s n:Nat} (h:2000000≤s) (hn:tln (ts.tb s 1)=some n):R.L s=χ s 1:=by
 cases hq:ts.tb s 1 with
 |none=>rw[hq] at hn;cases hn
 |some b=>exact hγ.lv s b h hq
theorem GM.cut {s c e:Nat} {l:List (K e)} {kb:Option KB} {v:Bool} {ds':DS} (hγ:GM P C R ts χ ds) (hc:c=1∨c=2) (hok:okr ts s c) (hds:ds'=match v with|true=>ds|false=>ds.set s c kb)
  (hb:v=false->∃k',kb=some k'/\k'.e=e/\k'.sz=(C.E e).sz/\dwks k'.cells=cl (C.E e) l) (hv:v=true->l= []) (hl:c=1->2000000<=s->R.L s=v):GM P C R ((ts.mapv (yhb s c)).setb s c (some (.row e l))) (updχ χ s c v) ds':=by
 have hokm:∀s' c',okr ts s' c'→okr (ts.mapv (yhb s c)) s' c':=by
  intro s' c' q
  rcases q with q|⟨q1,q2⟩
  ·exact .inl q
  ·exact .inr ⟨q1,by show memB (mapM _ ts.nw) s'=true;rw[yg5];exact q2⟩
 have hm:yxZ s c ts ((ts.mapv (yhb s c)).setb s c (some (.row e l))) χ (updχ χ s c v):=by
  refine ⟨fun id u q=>by rw[yb6];exact q,fun s' c' q=>yja _ _ _ _ hc (hokm s' c' q),fun s' c' hne q=> .inr ⟨?_,?_⟩⟩
  ·rw[ych _ s c _ hc,if_neg hne,yly,ynS]
  ·unfold updχ;rw[if_neg hne]
 have hkb:∀s' c',¬(s'=s∧c'=c)→ds'.kb s' c'=ds.kb s' c':=by
  intro s' c' hne
  subst hds
  cases v with
  |true=>rfl
  |false=>show (ds.set s c kb).kb s' c'=_;rw[yl3 ds s c kb hc,if_neg hne]
 refine ⟨fun t=> ?_,fun s' c' b' h1 h2=> ?_,fun s' c' h1=> ?_,fun s' h1=> ?_,?_,fun s' b9 q9 e9=> ?_⟩
 rotate_right
 ·rw[ych _ s c _ hc] at e9
  unfold updχ
  by_cases e:s'=s/\1=c
  ·rw[if_pos e];obtain ⟨rfl,e2⟩:=e;exact hl e2.symm q9
  ·rw[if_neg e] at e9⊢
   rw[yly] at e9
   cases hq:ts.tb s' 1 with
   |none=>rw[hq] at e9;cases e9
   |some b0=>exact hγ.lv s' b0 q9 hq
 rotate_right
 ·rw[yo2]
  show R ts.h ds'.H ds'.nx
  subst hds
  cases v with
  |true=>exact hγ.hp
  |false=>show R ts.h (ds.set s c kb).H (ds.set s c kb).nx;rw[yvn,ykD];exact hγ.hp
 ·rw[yll]
  show TR P C _ _ (lkT (mapF (yhb s c) ts.fr) t) _
  rw[ylv _ rfl]
  have:lkF ds'.fr t=lkF ds.fr t:=by
   subst hds
   cases v with
   |true=>rfl
   |false=>show lkF (ds.set s c kb).fr t=_;rw[ymN]
  rw[this]
  exact (hγ.fr t).drop hm
 ·rw [ych _ s c _ hc] at h1
  unfold updχ at h2
  by_cases e':s'=s/\c'=c
  ·rw[if_pos e'] at h1 h2
   obtain ⟨rfl,rfl⟩:=e'
   subst h2
   obtain ⟨k',q1,q2,q3,q4⟩:=hb rfl
   cases h1
   refine ⟨k',?_,q2,q3,q4⟩
   subst hds
   show (ds.set s' c' kb).kb s' c'=_
   rw[yl3 ds s' c' kb hc];simpa using q1
  ·rw [if_neg e'] at h1 h2
   rw[yly] at h1
   rw[hkb s' c' e']
   cases hq:ts.tb s' c' with
   |none=>rw[hq] at h1;cases h1
   | some b0=>
     rw[hq] at h1
     obtain ⟨k',q1,q2⟩:=hγ.mb s' c' b0 hq h2
     refine ⟨k',q1,?_⟩
     cases b0 with
     |row e0 l0=>cases h1;exact q2
     |opq e0 t0 x0=>cases h1;exact q2
     | box e0 cs=>
       cases h1
       refine ⟨q2.1,by simpa using q2.2.1,by simpa using q2.2.2.1,fun j u v a b=> ?_⟩
       rw[List.getElem?_map] at a
       obtain ⟨u',e1,rfl⟩:=Option.map_eq_some_iff.1 a
       exact (q2.2.2.2 j u' v e1 b).drop hm
     | lrow e0 n cs=>
       cases h1
       refine ⟨q2.1,q2.2.1,by simpa using q2.2.2.1,by simpa using q2.2.2.2.1,fun j u v a b=> ?_⟩
       rw[List.getElem?_map] at a
       obtain ⟨u',e1,rfl⟩:=Option.map_eq_some_iff.1 a
       exact (q2.2.2.2.2 j u' v e1 b).drop hm
 ·unfold updχ at h1
  rw[ych _ s c _ hc]
  by_cases e':s'=s/\c'=c
  ·rw[if_pos e'] at h1⊢
   have:=hv h1;subst this
   exact ⟨_,rfl⟩
  ·rw[if_neg e'] at h1⊢
   obtain ⟨e0,h3⟩:=hγ.vi s' c' h1
   exact ⟨e0,by rw[yly,h3];rfl⟩
 ·have hmem:memB ts.nw s'=false:=by
   rcases hc with rfl|rfl
   ·rw[<-yg5 (yhb s 1)];exact h1
   ·have h1':(Nat.beq s s'||memB (mapM (yhb s 2) ts.nw) s')=false:=h1
    simp only[Bool.or_eq_false_iff] at h1'
    rw[<-yg5 (yhb s 2)];exact h1'.2
  have:=hγ.nw s' hmem
  subst hds
  cases v with
  |true=>exact this
  | false=>
    show memO (ds.set s c kb).nw s'=false
    rcases hc with rfl|rfl
    ·exact this
    ·have h1':(Nat.beq s s'||memB (mapM (yhb s 2) ts.nw) s')=false:=h1
     simp only[Bool.or_eq_false_iff] at h1'
     show (Nat.beq s s'||memO ds.nw s')=false
     rw[h1'.1,this];rfl
theorem ypk {T:Type} {l:List T} {a b:Int} (h:0≤a∧a≤b∧b≤l.length):(ybw l a b).length=b.toNat-a.toNat:=by
 unfold ybw;simp;omega
theorem yut (hC:CxOk P C) (hγ:GM P C R ts χ ds) (hk:DOk ds) {F:Cf K} (hF:F.C=C) {o:AO} {sz:Nat} {x:AOpd} {lo hi:Option AOpd} {X:TS K→Prop} {dr:Bool} (ho:o.op= .sll sz x lo hi) (h:step F dr o ts X):SR P C R o ts ds X:=by
 unfold step at h
 rw[ho,hF] at h
 simp only at h
 have hx:=hγ.tev x
 have slc:∀ {z:Bool} {n:Nat} {xs:List AV} {a b:Int} {u:TV K},ev (lkF ds.fr) x= .sl z n xs→bnd (ev (lkF ds.fr)) 0 lo=some a→bnd (ev (lkF ds.fr)) n hi=some b→(0≤a∧a≤b∧b≤n)→TR P C ts χ u (.sl z (b.toNat-a.toNat) ((xs.drop (a.toNat*sz)).take ((b.toNat-a.toNat)*sz)))→X (ts.put o.dst u)→SR P C R o ts ds X:=by
  intro z n xs a b u hev h1 h2 hc hu hX
  refine ygi hγ hu ?_ hX
  rw[ho]
  refine ⟨?_,yeX _ _ _,hk.put⟩
  simp only[effA]
  rw[ycj,hev]
  simp only[yj5,pval]
  rw[hev]
  simp only
  rw[h1,h2]
  simp only
  rw[if_pos hc];rfl
 split at h
 ·rename_i e l ex
  rw[ex] at hx
  obtain ⟨z,xs,hxs,hv⟩:=hx.sli
  split at h
  ·rename_i a b hz e1 e2
   have hz:=nbeq.1 hz
   obtain ⟨hc,hX⟩:=h
   refine slc hv (ygw hγ e1) (ygw hγ e2) hc (.sl e _ z _ _ (ypk hc).symm ?_) hX
   rw[yfn,ygR,hxs,hz]
   exact yty (C.E e) l a.toNat (b.toNat-a.toNat)
  ·exact h.elim
 ·rename_i s c ex
  rw[ex] at hx
  split at h
  ·rename_i l hz hl
   have hz:=nbeq.1 hz
   split at h
   ·rename_i b e2
    obtain ⟨hc,hX⟩:=h
    obtain ⟨g1,g2,g3⟩:=hγ.trow hC hl
    have hok:=ymm g1
    have hcc:c=1∨c=2:=hok.imp id (·.1)
    rcases hx.rwi g1 with ⟨hχ,hv⟩|⟨hχ,h0,hv⟩
    ·obtain ⟨kb,k1,k2,k3,k4⟩:=g3 hχ
     have hcc2:=kb_c k1
     have hlt:(l.take b.toNat).length=b.toNat:=by simp;omega
     have hE:Eff (.sll sz x none hi) o.dst ds ⟨.gs (.l s c) b.toNat,[((s,c),some ⟨kb.e,kb.sz,kb.cells.take (b.toNat*sz)⟩)],[],none⟩ ((ds.set s c (some ⟨kb.e,kb.sz,kb.cells.take (b.toNat*sz),false⟩)).put o.dst (.gs (.l s c) b.toNat)):=by
      refine ⟨?_,yqr (b:=⟨kb.e,kb.sz,kb.cells.take (b.toNat*sz),false⟩) hcc2,DOk.put (hk.set hcc fun x hx=>by cases hx;exact ⟨.inl (by show kb.sz≠0;rw[k3];exact Nat.pos_iff_ne_zero.1 (C.E _).pos),fun q=>by cases q⟩)⟩
      simp only[effA]
      rw[ycj,hv]
      simp only[yj5]
      rw[show bnd (ev (lkF ds.fr)) 0 none=some 0 from rfl,ygw hγ e2]
      simp only[ymU]
      show (((ds.kb s c).map KB.blk).bind _)=_
      rw[k1]
      simp only[Option.map_some,Option.bind_some,KB.blk]
      rw[if_pos ⟨by rw[k3,hz],by rw[hz];exact (C.E _).pos,hc.1,hc.2,by rw[<-ybh kb.cells,k4,ygd,hz];exact Nat.le_refl _⟩]
     have hg:=hγ.cut (s:=s) (c:=c) (e:=tbe (ts.tb s c)) (l:=l.take b.toNat) (kb:=some ⟨kb.e,kb.sz,kb.cells.take (b.toNat*sz),false⟩) (v:=false) hcc hok rfl (fun _=>⟨_,rfl,k2,k3,by
      show dwks (kb.cells.take (b.toNat*sz))=_
      rw[yfn,k4,hz]
      have:=yty (C.E (tbe (ts.tb s c))) l 0 b.toNat
      simpa using this⟩) (fun q=>by cases q) (fun e9 q9=>by subst e9;exact (hγ.lvt q9 g1).trans hχ)
     refine ⟨_,_,_,_,by rw[ho];exact hE,fun p hp=> ?_,rfl,hg.put (.rw s c b.toNat ?_ ?_ (ygB _ _ _ _)),hX,by rw[ybD,yb6];rfl⟩
     ·simp only[List.mem_singleton] at hp;subst hp;simp[twk',ho,ex,trf]
     ·refine yja _ _ _ _ hcc ?_
      rcases hok with q|⟨q1,q2⟩
      ·exact .inl q
      ·exact .inr ⟨q1,by show memB (mapM _ ts.nw) s=true;rw[yg5];exact q2⟩
     ·rw[ych _ s c _ hcc];simp only[and_self,if_true,tln];rw[hlt]
    ·have:=g2 hχ;subst this
     have hb0:b=0:=by have:=hc.2;simp at this;omega
     subst hb0
     have e2':bnd (ev (lkF ds.fr)) ((0:Nat):Int) hi=some 0:=ygw hγ e2
     have hE:Eff (.sll sz x none hi) o.dst ds (eff1 (.sl true 0 [])) (ds.put o.dst (.sl true 0 [])):=by
      refine ⟨?_,yeX _ _ _,hk.put⟩
      simp only[effA]
      rw[ycj,hv]
      simp only[yj5,pval]
      rw[hv]
      simp only
      rw[show bnd (ev (lkF ds.fr)) 0 none=some 0 from rfl,e2']
      simp only
      rw[if_pos ⟨by omega,by omega,by omega⟩]
      simp[effP]
     have hg:=hγ.cut (s:=s) (c:=c) (e:=tbe (ts.tb s c)) (l:=([]:List (K (tbe (ts.tb s c))))) (kb:=none) (v:=true) hcc hok rfl (fun q=>by cases q) (fun _=>rfl) (fun e9 q9=>by subst e9;exact (hγ.lvt q9 g1).trans hχ)
     refine ⟨_,_,_,_,by rw[ho];exact hE,fun p hp=>(by cases hp),rfl,hg.put (.rwn s c ?_ ?_ (ygB _ _ _ _)),hX,by rw[ybD,yb6];rfl⟩
     ·refine yja _ _ _ _ hcc ?_
      rcases hok with q|⟨q1,q2⟩
      ·exact .inl q
      ·exact .inr ⟨q1,by show memB (mapM _ ts.nw) s=true;rw[yg5];exact q2⟩
     ·rw[ych _ s c _ hcc];simp[tln]
   ·exact h.elim
  ·exact h.elim
 ·rename_i ex
  rw[ex] at hx
  split at h
  ·rename_i a b e1 e2
   obtain ⟨hc,hX⟩:=h
   have ha:a=0:=by omega
   have hb:b=0:=by omega
   subst ha;subst hb
   have hv:ev (lkF ds.fr) x= .sl true 0 []:=by generalize ev (lkF ds.fr) x=v at hx;cases hx;rfl
   exact slc (n:=0) hv (ygw hγ e1) (ygw hγ e2) hc (by simpa using .nil) hX
  ·exact h.elim
 ·exact h.elim
theorem yth (hγ:GM P C R ts χ ds) (hk:DOk ds) {F:Cf K} {o:AO} {c a b:AOpd} {X:TS K→Prop} {dr:Bool} (ho:o.op= .pick c a b) (h:step F dr o ts X):SR P C R o ts ds X:=by
 unfold step at h
 rw[ho] at h
 simp only at h
 have hc:=hγ.tev c
 have fin:∀ {u:TV K} {v:AV},TR P C ts χ u v→pval (yaT (toD ds)) (ev (lkF ds.fr)) (.pick c a b)=some v→X (ts.put o.dst u)→SR P C R o ts ds X:=by
  intro u v hv hp hX
  refine ygi hγ hv ?_ hX
  rw[ho]
  exact yh9 hk rfl (show kok (pval (yaT (toD ds)) (ev (lkF ds.fr)) (.pick c a b))=some ([],v) by rw[hp];rfl) trivial
 split at h
 ·rename_i ex;rw[ex] at hc
  exact fin (hγ.tea a) (by simp only[pval,hc.lbi]) h
 ·rename_i ex;rw[ex] at hc
  exact fin (hγ.tea b) (by simp only[pval,hc.lbi]) h
 ·exact h.elim
theorem ywW (hC:CxOk P C) (hγ:GM P C R ts χ ds) (hk:DOk ds) {F:Cf K} (hF:F.C=C) {o:AO} {e sz bytes:Nat} {x y:AOpd} {X:TS K→Prop} {dr:Bool} (ho:o.op= .app e sz bytes x y) (h:step F dr o ts X):SR P C R o ts ds X:=by
 unfold step at h
 rw[ho,hF] at h
 simp only at h
 split at h
 ·rename_i hc
  simp only[Bool.and_eq_true] at hc
  have hz:=nbeq.1 hc.1
  have hb:=Nat.le_of_ble_eq_true hc.2
  obtain ⟨l2,hl2,h⟩:=ycr h
  obtain ⟨ys,hs,hys⟩:=yry hC hγ (hγ.tev y) hl2
  refine yq9 hC hγ hk h (fun hA=> ?_) hys (by rw[twk',ho])
  refine ⟨?_,(C.E e).pos⟩
  rw[ho]
  simp only[effA]
  rw[ycj,hs,Option.bind_some,if_pos ⟨by rw[<-hz];exact (C.E e).pos,hb,by rw[<-ybh ys,hys,ygd,hz],ymI hC hγ hl2 hA⟩,hz]
 ·exact h.elim
theorem ytq (hC:CxOk P C) (hγ:GM P C R ts χ ds) (hk:DOk ds) {F:Cf K} (hF:F.C=C) {o:AO} {e sz bytes:Nat} {x y:AOpd} {X:TS K→Prop} {dr:Bool} (ho:o.op= .apf e sz bytes x y) (h:step F dr o ts X):SR P C R o ts ds X:=by
 unfold step at h
 rw[ho,hF] at h
 simp only at h
 split at h
 ·rename_i hc
  simp only[Bool.and_eq_true] at hc
  have hz:=nbeq.1 hc.1
  have hb:=Nat.le_of_ble_eq_true hc.2
  obtain ⟨l2,hl2,h⟩:=ycr h
  obtain ⟨ys,hs,hys⟩:=yry hC hγ (hγ.tev y) hl2
  refine yvX hC hγ hk h (fun hA=> ?_) hys (by rw[twk',ho])
  refine ⟨?_,(C.E e).pos⟩
  rw[ho]
  simp only[effA]
  rw[ycj,hs,Option.bind_some,if_pos ⟨by rw[<-hz];exact (C.E e).pos,hb,by rw[<-ybh ys,hys,ygd,hz],ymI hC hγ hl2 hA⟩,hz]
 ·exact h.elim
theorem ywh (hC:CxOk P C) (hγ:GM P C R ts χ ds) (hk:DOk ds) {F:Cf K} (hF:F.C=C) {o:AO} {e:Nat} {x y:AOpd} {X:TS K→Prop} {dr:Bool} (ho:o.op= .apps e x y) (h:step F dr o ts X):SR P C R o ts ds X:=by
 unfold step at h
 rw[ho,hF] at h
 simp only at h
 split at h
 ·rename_i l f ey hf
  have hy:=hγ.tev y
  rw[ey] at hy
  have hsz:(C.E e).sz=1:=by
   have:=hC.ob e f hf 0
   rw[<-(C.E e).len (f 0),this];rfl
  have hys:dwks (encB l)=cl (C.E e) (l.map f):=by
   clear hy ey h
   induction l with
   |nil=>rfl
   | cons b l ih=>
     rw[List.map_cons,show cl (C.E e) (f b::l.map f)=(C.E e).c (f b)++cl (C.E e) (l.map f) by simp[cl],hC.ob e f hf b,<-ih]
     rfl
  refine yq9 hC hγ hk (ys:=encB l) h (fun hA=> ?_) hys (by rw[twk',ho])
  refine ⟨?_,(C.E e).pos⟩
  rw[ho]
  simp only[effA]
  rw[ycj,hy.str]
  simp only
  rw[if_pos hA.1,hsz,List.length_map]
 ·exact h.elim
def ynY:AOp→Bool
 | .call .. | .calv .. =>false
 |_=>true
theorem yn3 (hC:CxOk P C) (hγ:GM P C R ts χ ds) (hk:DOk ds) {F:Cf K} (hF:F.C=C) {o:AO} {X:TS K→Prop} (hn:ynY o.op=true) (h:step F true o ts X):SR P C R o ts ds X:=by
 have quiet:∀ {u:AOp},o.op=u→(match tqv ts u with|some (cs,v)=>andL cs (X (ts.put o.dst v))|none=>False)→SR P C R o ts ds X:=by
  intro u ho h
  split at h
  ·rename_i cs v e
   obtain ⟨hc,hX⟩:=yep h
   obtain ⟨hm,D,w,h1,h2,h3⟩:=yyg hγ e hc
   refine ygi hγ h3 ?_ hX
   rw[ho]
   exact yh9 hk hm h1 h2
  ·exact h.elim
 cases ho:o.op with
 |ld g sz x=>unfold step at h;rw[ho,hF] at h;exact ywR hC hγ hk ho h
 |sto sz x y=>unfold step at h;rw[ho,hF] at h;exact yuw hC hγ hk ho h
 |pick c a b=>exact yth hγ hk ho h
 |box e sz x=>exact yux hγ hk ho h
 |bsl e sz n z parts=>exact yvs hγ hk hF ho h
 |mks e sz b z x y=>exact ywg hC hγ hk hF ho h
 |apz e sz b z x y=>exact ywk hC hγ hk hF ho h
 |bsf e sz n z parts=>exact yvl hC hγ hk hF ho h
 |apf e sz b x y=>exact ytq hC hγ hk hF ho h
 |iad sz x i=>exact yvk hC hγ hk hF ho h
 |len x=>unfold step at h;rw[ho,hF] at h;exact yu0 hγ hk ho h
 |app e sz b x y=>exact ywW hC hγ hk hF ho h
 |apps e x y=>exact ywh hC hγ hk hF ho h
 |b2s x=>exact yuT hC hγ hk hF ho h
 |sll sz x lo hi=>exact yut hC hγ hk hF ho h
 |call f args=>rw[ho] at hn;cases hn
 |calv x args=>rw[ho] at hn;cases hn
 |hk k n xs cl=>unfold step at h;rw[ho] at h;exact h.elim
 |eq g kind x y=>unfold step at h;rw[ho] at h;simp only[teqn] at h;exact quiet ho h
 |_=>unfold step at h;rw[ho] at h;exact quiet ho h
end
end Go.AV
end
noncomputable section
namespace Go.AV
open Go.RowKit Go.RG Go.Lib
variable {K:Nat->Type}
def χ1 (χ:Nat->Bool):Nat->Nat->Bool:=fun s c=>decide (c=1)&&χ s
section
variable {P:Program} {C:Cx K} {R:RR K} {ts ts1:TS K} {χ:Nat->Nat->Bool} {ξ:Nat->Bool} {ds:DS} {B:Base} {N:Nat} {ρ:Nat->Option (Nat×Nat)} {p:Nat×Nat->Prop}
theorem TR.noL' {u:TV K} {v:AV} (h:TR P C ts χ u v) (hn:ya6 u=true):v.noL=true:=(h.noref (ts':=ts) (χ':=χ) hn).2
variable (P C ts ts1 χ ξ ds ρ p) in
def TM (u u1:TV K):Prop:=∀v,TR P C ts χ u v->∃v1,TR P C ts1 (χ1 ξ) u1 v1/\RV ρ (toD ds) p v1 v
theorem TM.un (u:TV K):TM P C ts ts1 χ ξ ds ρ p u .un:=fun v _=>⟨.un, .un _, .un _⟩
theorem TM.noref {u:TV K} (h:ya6 u=true):TM P C ts ts1 χ ξ ds ρ p u u:=fun v hv=>⟨v,(hv.noref h).1, .no v (hv.noL' h)⟩
theorem TM.list:∀ {us us1:List (TV K)} {vs:List AV},us1.length=us.length→(∀(j:Nat) (u u1:TV K),us[j]? =some u→us1[j]? =some u1→TM P C ts ts1 χ ξ ds ρ p u u1)→TL P C ts χ us vs→
  ∃vs1,TL P C ts1 (χ1 ξ) us1 vs1/\vs1.length=vs.length/\∀(j:Nat) (a b:AV),vs1[j]? =some a->vs[j]? =some b->RV ρ (toD ds) p a b
 | [],us1,vs,hl,_,t=>by
   have h1:us1= []:=List.eq_nil_of_length_eq_zero hl
   have h2:vs= []:=List.eq_nil_of_length_eq_zero t.1
   subst h1;subst h2
   exact ⟨[], .nil,rfl,fun j a b h=>by simp at h⟩
 | u ::us,us1,vs,hl,hh,t=>by
   cases us1 with
   |nil=>simp at hl
   | cons u1 us1=>cases vs with
     |nil=>simp[TL] at t
     | cons v vs=>
       obtain ⟨v1,a1,a2⟩:=hh 0 u u1 rfl rfl v t.head.1
       obtain ⟨vs1,b1,b2,b3⟩:=TM.list (us:=us) (us1:=us1) (vs:=vs) (by simpa using hl) (fun j u u1 x y=>hh (j+1) u u1 (by simpa using x) (by simpa using y)) t.head.2
       refine ⟨v1::vs1, .cons a1 b1,by simp[b2],fun j a b x y=> ?_⟩
       cases j with
       |zero=>simp at x y;subst x;subst y;exact a2
       |succ j=>exact b3 j a b (by simpa using x) (by simpa using y)
theorem TM.agg {us us1:List (TV K)} (hl:us1.length=us.length) (hh:∀(j:Nat) (u u1:TV K),us[j]? =some u→us1[j]? =some u1→TM P C ts ts1 χ ξ ds ρ p u u1):TM P C ts ts1 χ ξ ds ρ p (.agg us) (.agg us1):=by
 intro v hv
 obtain ⟨vs,rfl,t⟩:=hv.agg'
 obtain ⟨vs1,a,b,c⟩:=TM.list hl hh t
 exact ⟨.agg vs1, .agg _ _ a.1 a.2, .agg _ _ b c⟩
theorem TM.tup {us us1:List (TV K)} (hl:us1.length=us.length) (hh:∀(j:Nat) (u u1:TV K),us[j]? =some u→us1[j]? =some u1→TM P C ts ts1 χ ξ ds ρ p u u1):TM P C ts ts1 χ ξ ds ρ p (.tup us) (.tup us1):=by
 intro v hv
 obtain ⟨vs,rfl,t⟩:=hv.tup'
 obtain ⟨vs1,a,b,c⟩:=TM.list hl hh t
 exact ⟨.tup vs1, .tup _ _ a.1 a.2, .tup _ _ b c⟩
theorem TM.fn {f:Nat} {us us1 ws ws1:List (TV K)} (hl:us1.length=us.length) (hh:∀(j:Nat) (u u1:TV K),us[j]? =some u→us1[j]? =some u1→TM P C ts ts1 χ ξ ds ρ p u u1)
  (hl':ws1.length=ws.length) (hh':∀(j:Nat) (u u1:TV K),ws[j]? =some u->ws1[j]? =some u1->TM P C ts ts1 χ ξ ds ρ p u u1):TM P C ts ts1 χ ξ ds ρ p (.fn f us ws) (.fn f us1 ws1):=by
 intro v hv
 cases hv with
 | fn _ _ _ a' c' ha hc h h'=>
   obtain ⟨vs1,a,b,c⟩:=TM.list hl hh (show TL P C ts χ us a' from ⟨ha,h⟩)
   obtain ⟨vs2,a2,b2,c2⟩:=TM.list hl' hh' (show TL P C ts χ ws c' from ⟨hc,h'⟩)
   exact ⟨.fn (.func f) vs1 vs2, .fn _ _ _ _ _ a.1 a2.1 a.2 a2.2, .fn _ _ _ _ _ b c b2 c2⟩
theorem TM.cn {id:Nat} {u:TV K} (hrg:∀id w,lkR ts.rg id=some w→lkR ts1.rg id=some w):TM P C ts ts1 χ ξ ds ρ p (.cn id u) (.cn id u):=by
 intro v hv
 cases hv with
 |cn _ _ _ h hn hv=>exact ⟨v, .cn id u v (hrg _ _ h) hn (hv.noref hn).1, .no v (hv.noL' hn)⟩
theorem TM.strip {id:Nat} {u u1:TV K} (h:TM P C ts ts1 χ ξ ds ρ p u u1):TM P C ts ts1 χ ξ ds ρ p (.cn id u) u1:=by
 intro v hv
 cases hv with
 |cn _ _ _ _ hn hv=>exact h v hv
theorem TM.rw {s c s1 n:Nat} (hn:tln (ts.tb s c)=some n) (hn1:tln (ts1.tb s1 1)=some n) (h0:χ s c=false→ρ s1=some (s,c)∧ξ s1=false) (h1:χ s c=true→ξ s1=true):TM P C ts ts1 χ ξ ds ρ p (.rw s c) (.rw s1 1):=by
 intro v hv
 rcases hv.rwi hn with ⟨hx,rfl⟩|⟨hx,rfl,rfl⟩
 ·obtain ⟨q1,q2⟩:=h0 hx
  exact ⟨.gs (.l s1 1) n, .rw s1 1 n (.inl rfl) hn1 (by simp[χ1,q2]), .gs s1 n (s,c) q1⟩
 ·exact ⟨.sl true 0 [], .rwn s1 1 (.inl rfl) hn1 (by simp[χ1,h1 hx]), .no _ rfl⟩
theorem TM.nilrw {s1:Nat} (hn1:tln (ts1.tb s1 1)=some 0) (h1:ξ s1=true):TM P C ts ts1 χ ξ ds ρ p .nil (.rw s1 1):=by
 intro v hv
 cases hv
 exact ⟨.sl true 0 [], .rwn s1 1 (.inl rfl) hn1 (by simp[χ1,h1]), .no _ rfl⟩
theorem TM.px {s c s1 o:Nat} (h:ρ s1=some (s,c)):TM P C ts ts1 χ ξ ds ρ p (.px s c o) (.px s1 1 o):=by
 intro v hv
 rw[hv.pxi]
 exact ⟨.pt (.l s1 1) o, .px _ _ _ (.inl rfl), .pt s1 o (s,c) h⟩
theorem TM.pr {e s c i o s1:Nat} (h:χ s c=false→ρ s1=some (s,c)∧ξ s1=false):TM P C ts ts1 χ ξ ds ρ p (.pr e s c i o) (.pr e s1 1 i o):=by
 intro v hv
 obtain ⟨hx,rfl⟩:=hv.pri
 obtain ⟨q1,q2⟩:=h hx
 exact ⟨.pt (.l s1 1) _, .pr _ _ _ _ _ (.inl rfl) (by simp[χ1,q2]), .pt s1 _ (s,c) q1⟩
theorem TM.fz (hC:CxOk P C) (hγ:GM P C R ts χ ds) {s c e:Nat} {l:List (K e)} (hl:trow C e (ts.tb s c)=some l) (hp:χ s c=false→p (s,c)):TM P C ts ts1 χ ξ ds ρ p (.rw s c) (.sl e l):=by
 intro v hv
 obtain ⟨g1,g2,g3⟩:=hγ.trow hC hl
 rcases hv.rwi g1 with ⟨hx,rfl⟩|⟨hx,h0,rfl⟩
 ·obtain ⟨kb,k1,k2,k3,k4⟩:=g3 hx
  refine ⟨.sl false l.length kb.cells, .sl e l _ _ _ rfl k4,?_⟩
  exact .pub (s,c) l.length kb.blk (hp hx) (by show (ds.kb s c).map KB.blk=_;rw[k1];rfl) (by show kb.cells.length=l.length*kb.sz;rw[k3,<-ybh kb.cells,k4,ygd]) (by show kb.sz≠0;rw[k3];exact Nat.pos_iff_ne_zero.1 (C.E e).pos) (ybp k4)
 ·have:=g2 hx;subst this
  exact ⟨.sl true 0 [], .sl e [] _ _ _ rfl rfl, .no _ rfl⟩
theorem TM.sem {u u1:TV K} (h:∀v,TR P C ts χ u v->TR P C ts1 (χ1 ξ) u1 v/\v.noL=true):TM P C ts ts1 χ ξ ds ρ p u u1:=fun v hv=>⟨v,(h v hv).1, .no v (h v hv).2⟩
variable (P C ts ts1 χ ξ ds ρ p) in
def BM (b b1:TB K):Prop:=∀kb,MR P C ts χ b kb->∃cells1,MR P C ts1 (χ1 ξ) b1 ⟨kb.e,kb.sz,cells1,false⟩/\RVL ρ (toD ds) p cells1 kb.cells/\(opq kb.blk=true->isRc kb.cells=false->isRc cells1=false/\noLs cells1=true/\dwks cells1=dwks kb.cells)
theorem BM.row {e:Nat} {l:List (K e)}:BM P C ts ts1 χ ξ ds ρ p (.row e l) (.row e l):=fun kb h=>⟨kb.cells,h,RVL.no (ybp h.2.2),fun _ hc=>⟨hc,ybp h.2.2,rfl⟩⟩
theorem BM.opq {e t:Nat} {x:K t}:BM P C ts ts1 χ ξ ds ρ p (.opq e t x) (.opq e t x):=fun kb h=>⟨kb.cells,h,RVL.no h.2.2.2.2.1,fun _ hc=>⟨hc,h.2.2.2.2.1,rfl⟩⟩
theorem BM.box {e:Nat} {cs cs1:List (TV K)} (hl:cs1.length=cs.length) (hh:∀(j:Nat) (u u1:TV K),cs[j]? =some u→cs1[j]? =some u1→TM P C ts ts1 χ ξ ds ρ p u u1):BM P C ts ts1 χ ξ ds ρ p (.box e cs) (.box e cs1):=by
 intro kb h
 obtain ⟨vs1,a,b,c⟩:=TM.list hl hh (show TL P C ts χ cs kb.cells from ⟨h.2.2.1,h.2.2.2⟩)
 exact ⟨vs1,⟨h.1,by rw[hl];exact h.2.1,a.1,a.2⟩,⟨b,c⟩,fun ho hc=>absurd (yg9 ho) (h.nz (.inr ⟨ho,hc⟩) (by intro _ _ _ q;cases q))⟩
theorem BM.lrow {e n:Nat} {cs cs1:List (TV K)} (hl:cs1.length=cs.length) (hh:∀(j:Nat) (u u1:TV K),cs[j]? =some u→cs1[j]? =some u1→TM P C ts ts1 χ ξ ds ρ p u u1):BM P C ts ts1 χ ξ ds ρ p (.lrow e n cs) (.lrow e n cs1):=by
 intro kb h
 obtain ⟨vs1,a,b,c⟩:=TM.list hl hh (show TL P C ts χ cs kb.cells from ⟨h.2.2.1,h.2.2.2.2⟩)
 exact ⟨vs1,⟨h.1,h.2.1,a.1,by rw[hl];exact h.2.2.2.1,a.2⟩,⟨b,c⟩,fun ho hc=>absurd (yg9 ho) (h.nz (.inr ⟨ho,hc⟩) (by intro _ _ _ q;cases q))⟩
theorem BM.lr {e n:Nat} {cs:List (TV K)} {l:List (K e)} (hC:CxOk P C) (hc:yph (C.T e).rd (C.E e).sz n cs=some l):BM P C ts ts1 χ ξ ds ρ p (.lrow e n cs) (.row e l):=by
 intro kb h
 obtain ⟨a1,a2⟩:=yi8 hC n cs kb.cells l hc ⟨h.2.2.1,h.2.2.2.2⟩ h.2.2.2.1
 exact ⟨kb.cells,⟨h.1,h.2.1,a1⟩,RVL.no (ybp a1),fun _ hc=>⟨hc,ybp a1,rfl⟩⟩
theorem ynG (g:Nat→AV):∀(l:List (Nat×TV K)) (t:Nat),(lkF (l.map fun p=>(p.1,g p.1)) t=g t)∨(lkF (l.map fun p=>(p.1,g p.1)) t= .un∧lkT l t= .un)
 | [],t=> .inr ⟨rfl,rfl⟩
 | p::r,t=>by
   rw[List.map_cons,ybd,show p::r=(p.1,p.2)::r from rfl,yb3]
   simp only
   by_cases e:p.1=t
   ·subst e;simp
   ·rw[if_neg e,if_neg e];exact ynG g r t
theorem yjv (q:Nat→Bool) (g:Nat→KB):∀(l:List (Nat×Option (TB K))) (s:Nat),lkM ((l.filter fun p=>q p.1).map fun p=>(p.1,g p.1)) s=if memB l s=true∧q s=true then some (g s) else none
 | [],s=>by simp[lkM,memB]
 | p ::r,s=>by
   have hm:memB (p::r) s=(Nat.beq p.1 s||memB r s):=rfl
   rw[hm]
   by_cases e:p.1=s
   ·subst e
    rw[nbeq.2 rfl]
    cases hq:q p.1 with
    | true=>
      rw[List.filter_cons,if_pos hq,List.map_cons,ylu];simp
    | false=>
      rw[List.filter_cons,if_neg (by rw[hq];simp),yjv q g r p.1];simp[hq]
   ·have hb:Nat.beq p.1 s=false:=by
     cases h:Nat.beq p.1 s with
     |false=>rfl
     |true=>exact absurd (nbeq.1 h) e
    rw[hb,Bool.false_or]
    cases hq:q p.1 with
    |true=>rw[List.filter_cons,if_pos hq,List.map_cons,ylu];simp only[e,if_false];exact yjv q g r s
    |false=>rw[List.filter_cons,if_neg (by rw[hq];simp)];exact yjv q g r s
theorem yvt (hB:ycY B) (hγ:GM P C R ts χ ds) (hk:DOk ds) (ρ:Nat→Option (Nat×Nat)) (p:Nat×Nat→Prop) (ξ:Nat→Bool) (ts1:TS K) (hnw:ts1.nw= []) (hhp:∀H n,R ts.h H n→R ts1.h H n)
  (hρ:∀s k,ρ s=some k->χ k.1 k.2=false/\∃b b1,ts.tb k.1 k.2=some b/\lkB ts1.od s=some b1/\BM P C ts ts1 χ ξ ds ρ p b b1)
  (hm:∀s b1,lkB ts1.od s=some b1->ξ s=false->∃k,ρ s=some k) (hv:∀s,ξ s=true->ρ s=none/\∃e,lkB ts1.od s=some (.row e []))
  (hlv:∀s b1,2000000<=s->lkB ts1.od s=some b1->R.L s=ξ s) (hfix:∀s k,2000000<=s->ρ s=some k->k=(s,1)) (inj:∀s s' k,ρ s=some k->ρ s'=some k->s=s') (hp:∀k,p k->χ k.1 k.2=false/\∃e l,trow C e (ts.tb k.1 k.2)=some l/\∀s,ρ s≠some k) (hC:CxOk P C)
  (fr:∀t,TM P C ts ts1 χ ξ ds ρ p (lkT ts.fr t) (lkT ts1.fr t)) {X:KS->Prop} (h:∀ks,KOk ks->GM P C R ts1 (χ1 ξ) (ofK ks)->X ks):RE B N (toD ds) X:=by
 have hg:∀t,∃v1,TR P C ts1 (χ1 ξ) (lkT ts1.fr t) v1/\RV ρ (toD ds) p v1 (lkF ds.fr t):=fun t=>fr t _ (hγ.fr t)
 let g:Nat->AV:=fun t=>Classical.choose (hg t)
 have hg':∀t,TR P C ts1 (χ1 ξ) (lkT ts1.fr t) (g t)/\RV ρ (toD ds) p (g t) (lkF ds.fr t):=fun t=>Classical.choose_spec (hg t)
 have hgm:∀s,∃kb1:KB,∀k,ρ s=some k→∃kb b1,ds.kb k.1 k.2=some kb∧lkB ts1.od s=some b1∧kb1.e=kb.e∧kb1.sz=kb.sz∧kb1.q=false∧MR P C ts1 (χ1 ξ) b1 kb1∧RVL ρ (toD ds) p kb1.cells kb.cells∧(opq kb.blk=true→isRc kb.cells=false→isRc kb1.cells=false∧noLs kb1.cells=true∧dwks kb1.cells=dwks kb.cells):=by
  intro s
  cases hs:ρ s with
  |none=>exact ⟨⟨0,0,[],false⟩,fun k hk=>by cases hk⟩
  | some k=>
    obtain ⟨h0,b,b1,h1,h2,h3⟩:=hρ s k hs
    obtain ⟨kb,k1,k2⟩:=hγ.mb k.1 k.2 b h1 h0
    obtain ⟨cells1,c1,c2,c3⟩:=h3 kb k2
    exact ⟨⟨kb.e,kb.sz,cells1,false⟩,fun k' hk'=>by cases hk';exact ⟨kb,b1,k1,h2,rfl,rfl,rfl,c1,c2,c3⟩⟩
 let gm:Nat->KB:=fun s=>Classical.choose (hgm s)
 have hgm':∀s k,ρ s=some k->∃kb b1,ds.kb k.1 k.2=some kb/\lkB ts1.od s=some b1/\(gm s).e=kb.e/\(gm s).sz=kb.sz/\(gm s).q=false/\MR P C ts1 (χ1 ξ) b1 (gm s)/\RVL ρ (toD ds) p (gm s).cells kb.cells/\(opq kb.blk=true->isRc kb.cells=false->isRc (gm s).cells=false/\noLs (gm s).cells=true/\dwks (gm s).cells=dwks kb.cells):=fun s=>Classical.choose_spec (hgm s)
 let ks1:KS:=⟨ts1.fr.map fun p=>(p.1,g p.1),(ts1.od.filter fun p=>(ρ p.1).isSome).map fun p=>(p.1,gm p.1),ds.H,ds.nx⟩
 have hmem:∀s,lkM ks1.mem s=if (ρ s).isSome=true then some (gm s) else none:=by
  intro s
  show lkM ((ts1.od.filter fun p=>(ρ p.1).isSome).map fun p=>(p.1,gm p.1)) s=_
  rw[yjv (fun s=>(ρ s).isSome) gm ts1.od s]
  by_cases hs:(ρ s).isSome=true
  ·obtain ⟨k,hk'⟩:=Option.isSome_iff_exists.1 hs
   obtain ⟨_,b,b1,_,h2,_⟩:=hρ s k hk'
   rw[if_pos ⟨yfN h2,hs⟩,if_pos hs]
  ·rw[if_neg (fun q=>hs q.2),if_neg hs]
 have hok:KOk ks1:=by
  intro s b hb
  rw[hmem] at hb
  split at hb
  ·rename_i hs
   cases hb
   obtain ⟨k,hk'⟩:=Option.isSome_iff_exists.1 hs
   obtain ⟨kb,b1,h1,h2,h3,h4,h5,_,_,h8⟩:=hgm' s k hk'
   refine ⟨?_,fun q=>by rw[h5] at q;cases q⟩
   rcases (hk k.1 k.2 kb h1).1 with z|⟨z,zc⟩
   ·exact .inl (by rw[h4];exact z)
   ·refine .inr ⟨?_,(h8 z zc).1⟩
    show ((gm s).sz==0&&decide (1000000<=(gm s).e))=true
    rw[h3,h4];exact z
  ·cases hb
 refine RE.of (ks1:=ks1) hB (ρ:=ρ) (p:=p) {dom:= ?_,at':= ?_,inj:=inj,disj:= ?_,pub:= ?_,fr:= ?_,H:=fun _=>rfl,nx:=rfl,fix:=fun d k hd h=>hfix d k hd h} hok (h ks1 hok ⟨?_,?_,?_,?_,hhp _ _ hγ.hp,fun s b q e=>by rw[hlv s b q e];simp[χ1]⟩)
 ·intro d b1 hb
  rw[hmem] at hb
  split at hb
  ·rename_i hs;exact Option.isSome_iff_exists.1 hs
  ·cases hb
 ·intro d k hd
  obtain ⟨kb,b1,h1,h2,h3,h4,h5,h6,h7,h8⟩:=hgm' d k hd
  refine ⟨kb.blk,gm d,by show (ds.kb k.1 k.2).map KB.blk=_;rw[h1];rfl,(hk k.1 k.2 kb h1).1.imp id (fun q=>⟨q.1,q.2,h8 q.1 q.2⟩),by rw[hmem,hd];rfl,h3,h4,h7⟩
 ·intro k d hp' hd;obtain ⟨_,e,l,_,h3⟩:=hp k hp';exact h3 d hd
 ·intro k hp'
  obtain ⟨h0,e,l,h1,_⟩:=hp k hp'
  obtain ⟨kb,k1,k2,k3,k4⟩:=(hγ.trow hC h1).2.2 h0
  exact ⟨kb.blk,by show (ds.kb k.1 k.2).map KB.blk=_;rw[k1];rfl,(show MR P C ts χ (.row e l) kb from ⟨k2,k3,k4⟩).nz (hk k.1 k.2 kb k1).1 (by intro _ _ _ q;cases q)⟩
 ·intro t
  show RV ρ (toD ds) p (lkF (ts1.fr.map fun p=>(p.1,g p.1)) t) (lkF ds.fr t)
  rcases ynG g ts1.fr t with e|⟨e,_⟩
  ·rw[e];exact (hg' t).2
  ·rw[e];exact .un _
 ·intro t
  show TR P C ts1 (χ1 ξ) (lkT ts1.fr t) (lkF (ts1.fr.map fun p=>(p.1,g p.1)) t)
  rcases ynG g ts1.fr t with e|⟨e,e2⟩
  ·rw[e];exact (hg' t).1
  ·rw[e,e2];exact .un _
 ·intro s c b hb hx
  rcases tb_c hb with rfl|rfl
  ·have hx':ξ s=false:=by simpa [χ1] using hx
   obtain ⟨k,hk'⟩:=hm s b hb hx'
   obtain ⟨kb,b1,h1,h2,h3,h4,h5,h6,h7,_⟩:=hgm' s k hk'
   have:b1=b:=by
    have hb':lkB ts1.od s=some b:=hb
    rw[h2] at hb';exact Option.some.inj hb'
   subst this
   refine ⟨gm s,?_,h6⟩
   show lkO (ym2 ks1.mem) s=_
   rw[ygW,hmem,hk'];rfl
  ·have hb':lkB ts1.nw s=some b:=hb
   rw[hnw] at hb';cases hb'
 ·intro s c hx
  simp only[χ1,Bool.and_eq_true,decide_eq_true_eq] at hx
  obtain ⟨rfl,hx⟩:=hx
  exact (hv s hx).2
 ·intro s _;rfl
end
end Go.AV
end
noncomputable section
namespace Go.AV
open Go.RowKit Go.RG Go.Lib
variable {K:Nat->Type}
section
variable {P:Program} {C:Cx K} {R:RR K} {ts ts1:TS K} {χ:Nat->Nat->Bool} {ξ:Nat->Bool} {ds:DS} {B:Base} {N:Nat} {ρ:Nat->Option (Nat×Nat)} {p:Nat×Nat->Prop}
theorem yi5 (A:Nat→Nat→Option (TV K)) (D:Nat→Nat→Option Nat) (l:List (TV K)):(rnVs A D l).length=l.length:=by
 induction l with
 |nil=>rfl
 |cons x l ih=>simp[rnVs,ih]
variable (P C R ts ts1 χ ξ ds ρ p) in
structure RnOk (A:Nat→Nat→Option (TV K)) (D:Nat→Nat→Option Nat):Prop where
 cx:CxOk P C
 γ:GM P C R ts χ ds
 A:∀s c w,A s c=some w→(∃s1 n,w= .rw s1 1∧tln (ts.tb s c)=some n∧tln (ts1.tb s1 1)=some n∧(χ s c=false→ρ s1=some (s,c)∧ξ s1=false)∧(χ s c=true→ξ s1=true))∨
  (∃e l,w= .sl e l/\trow C e (ts.tb s c)=some l/\(χ s c=false->p (s,c)))
 D:∀s c s1,D s c=some s1->ρ s1=some (s,c)
 rg:∀id w,lkR ts.rg id=some w->lkR ts1.rg id=some w
mutual
theorem yof {A:Nat→Nat→Option (TV K)} {D:Nat→Nat→Option Nat} (h:RnOk P C R ts ts1 χ ξ ds ρ p A D):∀u,TM P C ts ts1 χ ξ ds ρ p u (rnV A D u)
 | .un=>TM.un _
 | .lb b=>TM.noref rfl
 | .bl b=>TM.noref rfl
 | .li k n=>TM.noref rfl
 | .it k n=>TM.noref rfl
 | .st s=>TM.noref rfl
 | .agg cs=>TM.agg (yi5 A D cs) (yjV h cs)
 | .tup cs=>TM.tup (yi5 A D cs) (yjV h cs)
 | .nil=>TM.noref rfl
 | .em=>TM.noref rfl
 | .sl e l=>TM.noref rfl
 | .rw s c=>by
   simp only[rnV]
   split
   ·rename_i w e
    rcases h.A s c w e with ⟨s1,n,rfl,h1,h2,h3,h4⟩|⟨e0,l,rfl,h1,h2⟩
    ·exact TM.rw h1 h2 h3 h4
    ·exact TM.fz h.cx h.γ h1 h2
   ·exact TM.un _
 | .px s c o=>by
   simp only[rnV]
   split
   ·rename_i s1 e;exact TM.px (h.D s c s1 e)
   ·exact TM.un _
 | .pr e0 s c i o=>by
   simp only[rnV]
   split
   ·rename_i s1 c1 e
    rcases h.A s c _ e with ⟨s2,n,e1,h1,h2,h3,h4⟩|⟨e0,l,e1,_⟩
    ·cases e1;exact TM.pr h3
    ·cases e1
   ·exact TM.un _
 | .ep e l i o=>TM.noref rfl
 | .gs l i=>TM.noref rfl
 | .nptr=>TM.noref rfl
 | .fn f a c=>TM.fn (yi5 A D a) (yjV h a) (yi5 A D c) (yjV h c)
 | .fv ps rs F=>TM.noref rfl
 | .yl r=>TM.noref rfl
 | .cn id v=>TM.cn h.rg
theorem yjV {A:Nat→Nat→Option (TV K)} {D:Nat→Nat→Option Nat} (h:RnOk P C R ts ts1 χ ξ ds ρ p A D):∀(us:List (TV K)) (j:Nat) (u u1:TV K),us[j]? =some u→(rnVs A D us)[j]? =some u1→TM P C ts ts1 χ ξ ds ρ p u u1
 | [],j,u,u1,h1,_=>by simp at h1
 | x::us,j,u,u1,h1,h2=>by
   cases j with
   |zero=>simp[rnVs] at h1 h2;subst h1;subst h2;exact yof h x
   |succ j=>exact yjV h us j u u1 (by simpa using h1) (by simpa [rnVs] using h2)
end
theorem BM.map {A:Nat→Nat→Option (TV K)} {D:Nat→Nat→Option Nat} (h:RnOk P C R ts ts1 χ ξ ds ρ p A D) {b b1:TB K} (hb:mapB (rnV A D) (some b)=some b1):BM P C ts ts1 χ ξ ds ρ p b b1:=by
 have hc:∀(cs:List (TV K)) (j:Nat) (u u1:TV K),cs[j]? =some u→(cs.map (rnV A D))[j]? =some u1→TM P C ts ts1 χ ξ ds ρ p u u1:=by
  intro cs j u u1 h1 h2
  rw[List.getElem?_map,h1] at h2
  cases h2;exact yof h u
 cases b with
 |box e cs=>cases hb;exact BM.box (by simp) (hc cs)
 |row e l=>cases hb;exact BM.row
 |lrow e n cs=>cases hb;exact BM.lrow (by simp) (hc cs)
 |opq e t x=>cases hb;exact BM.opq
theorem ynP (a b:List (Nat×Option (TB K))) (s:Nat):lkB (a++b) s=if memB a s=true then lkB a s else lkB b s:=by
 induction a with
 |nil=>rfl
 | cons p a ih=>
   have hm:memB (p::a) s=(Nat.beq p.1 s||memB a s):=rfl
   rw[List.cons_append,yaO,yaO,ih,hm]
   by_cases e:p.1=s
   ·rw[if_pos e,if_pos e,nbeq.2 e];rfl
   ·rw[if_neg e,if_neg e]
    have:Nat.beq p.1 s=false:=by
     cases h:Nat.beq p.1 s with
     |false=>rfl
     |true=>exact absurd (nbeq.1 h) e
    rw[this,Bool.false_or]
def REt (P:Program) (C:Cx K) (R:RR K) (B:Base) (N:Nat) (ts ts1:TS K):Prop:=∀χ ds,DOk ds->GM P C R ts χ ds->RE B N (toD ds) (fun ks=>KOk ks/\∃ξ,GM P C R ts1 ξ (ofK ks))
theorem yno {nw:List (Nat×Option (TB K))} {s:Nat} (h:memB (nwL nw) s=true):s<2000000:=by
 induction nw with
 |nil=>cases h
 | cons p r ih=>
   simp only[nwL] at h
   split at h
   ·exact ih h
   ·rename_i hp
    simp only[memB,Bool.or_eq_true] at h
    rcases h with h|h
    ·have:=nbeq.1 h;subst this
     exact Nat.lt_of_not_le fun q=>by rw[Nat.ble_eq_true_of_le q] at hp;cases hp
    ·exact ih h
theorem ywM {nw:List (Nat×Option (TB K))} {s:Nat} (h:s<2000000):lkB (nwL nw) s=lkB nw s:=by
 induction nw with
 |nil=>rfl
 | cons p r ih=>
   simp only[nwL]
   split
   ·rename_i hp
    have:=Nat.le_of_ble_eq_true hp
    rw[ih,yaO,if_neg (by omega)]
   ·rw[yaO,yaO,ih]
theorem yvh (hB:ycY B) (hC:CxOk P C):REt P C R B N ts (er ts):=by
 intro χ ds hk hγ
 let cc:Nat->Nat:=fun s=>if memB (nwL ts.nw) s=true then 2 else 1
 let ρ:Nat→Option (Nat×Nat):=fun s=>match ts.tb s (cc s) with
  |some _=>if χ s (cc s)=true then none else some (s,cc s)
  |none=>none
 let ξ:Nat->Bool:=fun s=>χ s (cc s)
 have hlk:∀s,lkB (nwL ts.nw++ts.od) s=ts.tb s (cc s):=by
  intro s
  rw[ynP]
  by_cases h:memB (nwL ts.nw) s=true
  ·rw[if_pos h];show _=ts.tb s (if memB (nwL ts.nw) s=true then 2 else 1);rw[if_pos h];exact ywM (yno h)
  ·rw[if_neg h];show _=ts.tb s (if memB (nwL ts.nw) s=true then 2 else 1);rw[if_neg h];rfl
 have hod:∀s,lkB (er ts).od s=mapB (rnV (erA ts) (erB ts)) (ts.tb s (cc s)):=by
  intro s;show lkB (mapM _ (nwL ts.nw++ts.od)) s=_;rw[yj6,hlk]
 have hρi:∀s k,ρ s=some k→k=(s,cc s)∧χ s (cc s)=false∧∃b,ts.tb s (cc s)=some b:=by
  intro s k h
  have h':(match ts.tb s (cc s) with|some _=>if χ s (cc s)=true then none else some (s,cc s)|none=>none)=some k:=h
  split at h'
  ·rename_i b hb
   split at h'
   ·cases h'
   ·rename_i hx
    cases h'
    exact ⟨rfl,by simpa using hx,b,hb⟩
  ·cases h'
 have hρs:∀s b,ts.tb s (cc s)=some b→χ s (cc s)=false→ρ s=some (s,cc s):=by
  intro s b hb hx
  show (match ts.tb s (cc s) with|some _=>if χ s (cc s)=true then none else some (s,cc s)|none=>none)=_
  rw[hb];simp[hx]
 have hN:∀s c s1,erN (nwL ts.nw) s c=some s1→s1=s∧c=cc s:=by
  intro s c s1 h
  unfold erN at h
  show s1=s/\c=if memB (nwL ts.nw) s=true then 2 else 1
  split at h
  ·rename_i hm
   rw[if_pos hm]
   split at h
   ·rename_i e;cases h;exact ⟨rfl,nbeq.1 e⟩
   ·cases h
  ·rename_i hm
   rw[if_neg (by rw[hm];simp)]
   split at h
   ·rename_i e;cases h;exact ⟨rfl,nbeq.1 e⟩
   ·cases h
 have hRn:RnOk P C R ts (er ts) χ ξ ds ρ (fun _=>False) (erA ts) (erB ts):=by
  refine ⟨hC,hγ,?_,?_,fun _ _ h=>h⟩
  ·intro s c w h
   unfold erA at h
   split at h
   ·rename_i n hn
    split at h
    ·rename_i s1 h1
     cases h
     obtain ⟨rfl,rfl⟩:=hN s c s1 h1
     refine .inl ⟨s1,n,rfl,hn,?_,fun hx=>⟨?_,hx⟩,fun hx=>hx⟩
     ·show tln (lkB (er ts).od s1)=_
      rw[hod,ynS];exact hn
     ·cases hq:ts.tb s1 (cc s1) with
      |none=>rw[hq] at hn;cases hn
      |some b=>exact hρs s1 b hq hx
    ·cases h
   ·cases h
  ·intro s c s1 h
   unfold erB at h
   split at h
   ·rename_i e cs hb
    obtain ⟨rfl,rfl⟩:=hN s c s1 h
    exact hρs s1 _ hb (hγ.box hb)
   ·rename_i e t x hb
    obtain ⟨rfl,rfl⟩:=hN s c s1 h
    exact hρs s1 _ hb (hγ.opq hb)
   ·cases h
 have hlv:∀s b1,2000000≤s→lkB (er ts).od s=some b1→R.L s=ξ s:=by
  intro s b1 q e
  have hm:¬memB (nwL ts.nw) s=true:=fun hm=>by have:=yno hm;omega
  have hc:cc s=1:=if_neg hm
  rw[hod,hc] at e
  show _=χ s (cc s)
  rw[hc]
  cases hq:ts.tb s 1 with
  |none=>rw[hq] at e;cases e
  |some b=>exact hγ.lv s b q hq
 refine yvt hB hγ hk ρ (fun _=>False) ξ (er ts) rfl (fun _ _ h=>h) ?_ ?_ ?_ hlv ?_ ?_ (fun k h=>h.elim) hC ?_ (fun ks h1 h2=>⟨h1,_,h2⟩)
 ·intro s k h
  obtain ⟨rfl,h1,b,hb⟩:=hρi s k h
  refine ⟨h1,b,?_⟩
  cases hm:mapB (rnV (erA ts) (erB ts)) (some b) with
  |none=>cases b<;>cases hm
  |some b1=>exact ⟨b1,hb,by rw[hod,hb];exact hm,BM.map hRn hm⟩
 ·intro s b1 h hx
  rw[hod] at h
  cases hq:ts.tb s (cc s) with
  |none=>rw[hq] at h;cases h
  |some b=>exact ⟨_,hρs s b hq hx⟩
 ·intro s hx
  obtain ⟨e,h1⟩:=hγ.vi s (cc s) hx
  refine ⟨?_,e,by rw[hod,h1];rfl⟩
  show (match ts.tb s (cc s) with|some _=>if χ s (cc s)=true then none else some (s,cc s)|none=>none)=none
  rw[h1]
  exact if_pos hx
 ·intro s k hs h
  have e1:=(hρi s k h).1
  have hm:¬memB (nwL ts.nw) s=true:=fun hm=>by have:=yno hm;omega
  rw[e1];show (s,if memB (nwL ts.nw) s=true then 2 else 1)=_;rw[if_neg hm]
 ·intro s s' k h h'
  have e1:=(hρi s k h).1
  have e2:=(hρi s' k h').1
  rw[e1] at e2
  exact (Prod.mk.inj e2).1
 ·intro t
  show TM _ _ _ _ _ _ _ _ _ (lkT ts.fr t) (lkT (mapF (rnV (erA ts) (erB ts)) ts.fr) t)
  rw[ylv _ rfl]
  exact yof hRn _
theorem RE.bind {S:St} {X Y:KS→Prop} (h:RE B N S X) (k:∀ks,KOk ks→X ks→RE B N (toS ks) Y):RE B N S Y:=by
 intro a G hR
 obtain ⟨ks1,G1,h1,h2,h3⟩:=h a G hR
 obtain ⟨ks2,G2,k1,k2,k3⟩:=k ks1 h2.2 h3 a G1 h2.1
 exact ⟨ks2,G2,by rw[k1,h1],k2,k3⟩
theorem REt.trans {ts2:TS K} (h:REt P C R B N ts ts1) (k:REt P C R B N ts1 ts2):REt P C R B N ts ts2:=by
 intro χ ds hk hγ
 refine RE.bind (h χ ds hk hγ) fun ks hko ⟨_,ξ,hg⟩=> ?_
 rw[<-yf9]
 exact k ξ (ofK ks) (ygh hko) hg
def REk (P:Program) (C:Cx K) (R:RR K) (B:Base) (N:Nat) (ts ts1:TS K):Prop:=∀χ ks,KOk ks->GM P C R ts χ (ofK ks)->RE B N (toS ks) (fun ks=>KOk ks/\∃ξ,GM P C R ts1 ξ (ofK ks))
theorem REt.k (h:REt P C R B N ts ts1):REk P C R B N ts ts1:=by
 intro χ ks hk hγ
 have:=h χ (ofK ks) (ygh hk) hγ
 rw[yf9] at this
 exact this
theorem REk.refl:REk P C R B N ts ts:=fun χ ks hk hγ=>RE.id hk ⟨hk,χ,hγ⟩
theorem REk.trans {ts2:TS K} (h:REk P C R B N ts ts1) (k:REk P C R B N ts1 ts2):REk P C R B N ts ts2:=fun χ ks hk hγ=>RE.bind (h χ ks hk hγ) fun ks' hko ⟨_,ξ,hg⟩=>k ξ ks' hko hg
theorem REt.thenk {ts2:TS K} (h:REt P C R B N ts ts1) (k:REk P C R B N ts1 ts2):REt P C R B N ts ts2:=fun χ ds hk hγ=>RE.bind (h χ ds hk hγ) fun ks' hko ⟨_,ξ,hg⟩=>k ξ ks' hko hg
theorem yuO (hB:ycY B) (hC:CxOk P C) (s0:Nat):REk P C R B N ts (fz C ts s0):=by
 intro χ ks hk hγ
 unfold fz
 split
 rotate_left
 ·exact RE.id hk ⟨hk,χ,hγ⟩
 ·rename_i l hnw hl
  rw[<-yf9]
  generalize he0:tbe (ts.tb s0 1)=e0 at l hl
  let A:=fzS ts s0 (.sl e0 l)
  let D:=fzB ts
  let tsF:TS K:=⟨mapF (rnV A D) ts.fr,(s0,none)::mapM (rnV A D) ts.od,[],ts.rg,ts.h⟩
  let ρ:Nat→Option (Nat×Nat):=fun s=>if s=s0 then none else match ts.tb s 1 with
   |some _=>if χ s 1=true then none else some (s,1)
   |none=>none
  let ξ:Nat->Bool:=fun s=>if s=s0 then false else χ s 1
  let p:Nat×Nat->Prop:=fun k=>k=(s0,1)/\χ s0 1=false
  have hod:∀s,s≠s0→lkB tsF.od s=mapB (rnV A D) (ts.tb s 1):=by
   intro s hs
   show lkB ((s0,none)::mapM (rnV A D) ts.od) s=_
   rw[yaO,if_neg (fun e=>hs e.symm),yj6];rfl
  have hod0:lkB tsF.od s0=none:=by show lkB ((s0,none)::mapM (rnV A D) ts.od) s0=_;rw[yaO,if_pos rfl]
  have hρi:∀s k,ρ s=some k→s≠s0∧k=(s,1)∧χ s 1=false∧∃b,ts.tb s 1=some b:=by
   intro s k h
   have h':(if s=s0 then none else match ts.tb s 1 with|some _=>if χ s 1=true then none else some (s,1)|none=>none)=some k:=h
   split at h'
   ·cases h'
   ·rename_i hs
    split at h'
    ·rename_i b hb
     split at h'
     ·cases h'
     ·rename_i hx;cases h';exact ⟨hs,rfl,by simpa using hx,b,hb⟩
    ·cases h'
  have hρs:∀s b,s≠s0→ts.tb s 1=some b→χ s 1=false→ρ s=some (s,1):=by
   intro s b hs hb hx
   show (if s=s0 then none else match ts.tb s 1 with|some _=>if χ s 1=true then none else some (s,1)|none=>none)=_
   rw[if_neg hs,hb];simp[hx]
  have hRn:RnOk P C R ts tsF χ ξ (ofK ks) ρ p A D:=by
   refine ⟨hC,hγ,?_,?_,fun _ _ h=>h⟩
   ·intro s c w h
    have h':fzS ts s0 (.sl e0 l) s c=some w:=h
    unfold fzS at h'
    split at h'
    ·rename_i hc
     have:=nbeq.1 hc;subst this
     split at h'
     ·rename_i hs
      have:=nbeq.1 hs;subst this
      cases h'
      exact .inr ⟨e0,l,rfl,hl,fun hx=>⟨rfl,hx⟩⟩
     ·rename_i hs
      have hs':s≠s0:=fun e=>by rw[nbeq.2 e] at hs;cases hs
      split at h'
      ·rename_i n hn
       cases h'
       refine .inl ⟨s,n,rfl,hn,?_,fun hx=>⟨?_,?_⟩,fun hx=> ?_⟩
       ·show tln (lkB tsF.od s)=_
        rw[hod s hs',ynS];exact hn
       ·cases hq:ts.tb s 1 with
        |none=>rw[hq] at hn;cases hn
        |some b=>exact hρs s b hs' hq hx
       ·show (if s=s0 then false else χ s 1)=false;rw[if_neg hs'];exact hx
       ·show (if s=s0 then false else χ s 1)=true;rw[if_neg hs'];exact hx
      ·cases h'
    ·cases h'
   ·intro s c s1 h
    have h':fzB ts s c=some s1:=h
    unfold fzB at h'
    split at h'
    ·rename_i e cs hc hb
     cases h'
     have:=nbeq.1 hc;subst this
     refine hρs _ _ ?_ hb (hγ.box hb)
     rintro rfl
     rw[hb] at hl;cases hl
    ·rename_i e t x hc hb
     cases h'
     have:=nbeq.1 hc;subst this
     refine hρs _ _ ?_ hb (hγ.opq hb)
     rintro rfl
     rw[hb] at hl;cases hl
    ·cases h'
  have hlv:∀s b1,2000000≤s→lkB tsF.od s=some b1→R.L s=ξ s:=by
   intro s b1 q e
   have hs:s≠s0:=by rintro rfl;rw[hod0] at e;cases e
   rw[hod s hs] at e
   show _=(if s=s0 then false else χ s 1)
   rw[if_neg hs]
   cases hq:ts.tb s 1 with
   |none=>rw[hq] at e;cases e
   |some b=>exact hγ.lv s b q hq
  refine yvt hB hγ (ygh hk) ρ p ξ tsF rfl (fun _ _ h=>h) ?_ ?_ ?_ hlv (fun s k _ h=>(hρi s k h).2.1) ?_ ?_ hC ?_ (fun ks h1 h2=>⟨h1,_,h2⟩)
  ·intro s k h
   obtain ⟨hs,rfl,h1,b,hb⟩:=hρi s k h
   refine ⟨h1,b,?_⟩
   cases hm:mapB (rnV A D) (some b) with
   |none=>cases b<;>cases hm
   |some b1=>exact ⟨b1,hb,by rw[hod s hs,hb];exact hm,BM.map hRn hm⟩
  ·intro s b1 h hx
   have hs:s≠s0:=by rintro rfl;rw[hod0] at h;cases h
   rw[hod s hs] at h
   have hx':χ s 1=false:=by
    have:(if s=s0 then false else χ s 1)=false:=hx
    rw[if_neg hs] at this;exact this
   cases hq:ts.tb s 1 with
   |none=>rw[hq] at h;cases h
   |some b=>exact ⟨_,hρs s b hs hq hx'⟩
  ·intro s hx
   have hx':(if s=s0 then false else χ s 1)=true:=hx
   split at hx'
   ·cases hx'
   ·rename_i hs
    obtain ⟨e,h1⟩:=hγ.vi s 1 hx'
    refine ⟨?_,e,by rw[hod s hs,h1];rfl⟩
    show (if s=s0 then none else match ts.tb s 1 with|some _=>if χ s 1=true then none else some (s,1)|none=>none)=none
    rw[if_neg hs,h1]
    exact if_pos hx'
  ·intro s s' k h h'
   have e1:=(hρi s k h).2.1
   have e2:=(hρi s' k h').2.1
   rw[e1] at e2
   exact (Prod.mk.inj e2).1
  ·rintro k ⟨rfl,hx⟩
   refine ⟨hx,e0,l,hl,fun s h=> ?_⟩
   obtain ⟨hs,e1,_⟩:=hρi s _ h
   exact hs (Prod.mk.inj e1).1.symm
  ·intro t
   show TM _ _ _ _ _ _ _ _ _ (lkT ts.fr t) (lkT (mapF (rnV A D) ts.fr) t)
   rw[ylv _ rfl]
   exact yof hRn _
theorem ymb (hB:ycY B) (hC:CxOk P C):∀(n:Nat) (vs:List (TV K)) (ts:TS K),REk P C R B N ts (fzA C n vs ts)
 |0,_,_=> .refl
 | n+1,vs,ts=>by
   simp only[fzA]
   split
   ·exact .refl
   ·split
    ·exact (ymb hB hC n _ ts).trans (yuO hB hC _)
    ·exact yuO hB hC _
theorem yp2 (hB:ycY B) (hC:CxOk P C) (fr:List (Nat×TV K)):∀(l:List (Nat×Kd)) (ts:TS K),REk P C R B N ts (fzT C fr l ts)
 | [],_=> .refl
 | (t,k)::r,ts=>by
   cases k with
   | sl e=>
     simp only[fzT]
     refine REk.trans ?_ (yp2 hB hC fr r _)
     split
     ·exact yuO hB hC _
     ·exact .refl
   |_=>simp only[fzT];exact yp2 hB hC fr r ts
end
end Go.AV
end
noncomputable section
namespace Go.AV
open Go.RowKit Go.RG Go.Lib
variable {K:Nat->Type}
theorem yfI {α:Type} (p:Nat×α) (r:List (Nat×α)) (t:Nat):lkA (p::r) t=if p.1=t then some p.2 else lkA r t:=by
 show (match Nat.beq p.1 t with|true=>some p.2|false=>lkA r t)=_
 cases h:Nat.beq p.1 t with
 |true=>simp[nbeq.1 h]
 |false=>simp only;rw[if_neg (fun e=>by rw[nbeq.2 e] at h;cases h)]
def SubA {α:Type} (m m':List (Nat×α)):Prop:=∀s x,lkA m s=some x->lkA m' s=some x
theorem yn0 {α:Type} {eq:α→α→Bool} (heq:∀a b,eq a b=true→a=b) {m m':List (Nat×α)} {s:Nat} {x:α} (h:addA eq m s x=some m'):SubA m m'∧lkA m' s=some x:=by
 unfold addA at h
 split at h
 ·rename_i e
  cases h
  refine ⟨fun t y hy=> ?_,by rw[yfI];simp⟩
  rw[yfI]
  split
  ·rename_i e';simp only at e';subst e';rw[e] at hy;cases hy
  ·exact hy
 ·rename_i q e
  split at h
  ·rename_i hq
   cases h
   exact ⟨fun _ _ h=>h,by rw[e,heq _ _ hq]⟩
  ·cases h
theorem ygT {p q:Nat×Nat} (h:yjN p q=true):p=q:=by
 unfold yjN at h
 simp only[Bool.and_eq_true] at h
 exact Prod.ext (nbeq.1 h.1) (nbeq.1 h.2)
theorem yok:∀ {p q:Option (Nat×Nat)},yxD p q=true→p=q
 |none,none,_=>rfl
 |some p,some q,h=>by rw[ygT (show yjN p q=true from h)]
 |none,some _,h=>by cases h
 |some _,none,h=>by cases h
structure SubM (m m':RM):Prop where
 r:SubA m.r m'.r
 b:SubA m.b m'.b
theorem SubM.refl {m:RM}:SubM m m:=⟨fun _ _ h=>h,fun _ _ h=>h⟩
theorem SubM.trans {a b c:RM} (h:SubM a b) (k:SubM b c):SubM a c:=⟨fun s x q=>k.r s x (h.r s x q),fun s x q=>k.b s x (h.b s x q)⟩
section
variable {P:Program} {C:Cx K} {R:RR K} {ts ts1:TS K} {χ:Nat->Nat->Bool} {ξ:Nat->Bool} {ds:DS} {B:Base} {N:Nat} {ρ:Nat->Option (Nat×Nat)} {p:Nat×Nat->Prop} {rg:List (Nat×TV K)}
theorem ykW (hC:CxOk P C) {t:Nat} {u:TV K} {x:K t} {v:AV} (h:outV C t u=some x) (hv:TR P C ts χ u v):dwk v=eV C t x∧v.noL=true∧∀(ts':TS K) (χ':Nat→Nat→Bool),TR P C ts' χ' (inV C t x) v:=by
 unfold outV at h
 unfold eV inV
 have hs:=hv.s
 revert h hs
 generalize hw:u.s=w
 intro h hs
 cases hg:(C.T t).g with
 | true=>
   rw[hg] at h
   cases w with
   | agg cs=>
     simp only at h⊢
     obtain ⟨vs,rfl,a,b⟩:=hs.agg'
     have tl:=(show TL P C ts χ cs vs from ⟨a,b⟩).mapS
     have hd:=hC.rd t _ x ts χ vs h tl.1 tl.2
     refine ⟨by simp only[dwk,hd],?_,fun ts' χ'=> ?_⟩
     ·simp only[AV.noL];rw[<-ycq,hd];exact (C.E t).no x
     ·obtain ⟨c1,c2⟩:=hC.c t x ts' χ'
      refine .agg _ _ (by rw[<-c1,<-hd,ybh]) (fun j u' v' h1 h2=> ?_)
      refine TR.undwk (c2 j u' (dwk v') h1 ?_) rfl
      rw[<-hd,ydw,List.getElem?_map,h2];rfl
   |_=>cases h
 | false=>
   rw[hg] at h
   have hsz:=hC.g t hg
   have go:(C.T t).rd [w]=some x→dwk v=((C.E t).c x).headD .un∧v.noL=true∧∀(ts':TS K) (χ':Nat→Nat→Bool),TR P C ts' χ' (match (C.T t).c x with| [v]=>v|_=> .un) v:=by
    intro h
    have tl:TL P C ts χ [w] [v]:= .cons hs .nil
    have hd:=hC.rd t [w] x ts χ [v] h tl.1 tl.2
    simp only[dwks] at hd
    refine ⟨by rw[<-hd];rfl,?_,fun ts' χ'=> ?_⟩
    ·have:=(C.E t).no x
     rw[<-hd] at this
     simp only[noLs,Bool.and_true] at this
     rw[<-yfD];exact this
    ·obtain ⟨c1,c2⟩:=hC.c t x ts' χ'
     rw[<-hd] at c1 c2
     cases hc:(C.T t).c x with
     |nil=>rw[hc] at c1;simp at c1
     | cons a r=>cases r with
       |cons b r=>rw[hc] at c1;simp at c1
       |nil=>rw[hc] at c2;exact (c2 0 a (dwk v) rfl rfl).undwk rfl
   cases w with
   |agg cs=>cases h
   |_=>exact go h
variable (P C ts ts1 χ ξ ρ) in
structure Good (M:RM):Prop where
 r:∀s k,lkA M.r s=some (some k)->∀n,tln (ts.tb k.1 k.2)=some n->tln (ts1.tb s 1)=some n/\(χ k.1 k.2=false->ρ s=some k/\ξ s=false)/\(χ k.1 k.2=true->ξ s=true)
 rn:∀s k,lkA M.r s=some (some k)->∃n,tln (ts.tb k.1 k.2)=some n
 n:∀s,lkA M.r s=some none->tln (ts1.tb s 1)=some 0/\ξ s=true
 b:∀s k,lkA M.b s=some k->ρ s=some k
 rg:ts1.rg=rg
theorem Good.sub {M m:RM} (h:Good (rg:=rg) ts ts1 χ ξ ρ M) (k:SubM m M):Good (rg:=rg) ts ts1 χ ξ ρ m:=
 ⟨fun s q a=>h.r s q (k.r _ _ a),fun s q a=>h.rn s q (k.r _ _ a),fun s a=>h.n s (k.r _ _ a),fun s q a=>h.b s q (k.b _ _ a),h.rg⟩
def ExtR (rg rg':List (Nat×TV K)):Prop:=∀id w,lkR rg id=some w->lkR rg' id=some w
theorem TM.stp {u:TV K}:∀ {w u1:TV K},u.s=w→TM P C ts ts1 χ ξ ds ρ p w u1→TM P C ts ts1 χ ξ ds ρ p u u1:=by
 intro w u1 e t
 cases u with
 |cn id v=>simp only[TV.s] at e;subst e;exact TM.strip t
 |_=>simp only[TV.s] at e;subst e;exact t
theorem ygE (hC:CxOk P C) (hx:ExtR rg ts.rg) {k:Kd} {u:TV K} {m m':RM} {a:List (DV K)} (h:rd1 C k u m=some (a,m')):SubM m m'∧∀r,∃u1,bdV C rg k (a++r)=(u1,r)∧(Good (rg:=rg) ts ts1 χ ξ ρ m'→TM P C ts ts1 χ ξ ds ρ p u u1):=by
 have st:= @TM.stp K P C ts ts1 χ ξ ds ρ p u
 cases k with
 | it k=>
   simp only[rd1] at h
   split at h
   ·rename_i k' n e
    split at h
    ·rename_i ek
     subst ek;cases h
     refine ⟨.refl,fun r=>⟨.it k n,rfl,fun _=> ?_⟩⟩
     have e2:u.s= .it k n∨u.s= .li k n:=by
      revert e;generalize u.s=w;intro e
      cases w<;>simp[tint] at e
      ·obtain ⟨rfl,rfl⟩:=e;exact .inr rfl
      ·obtain ⟨rfl,rfl⟩:=e;exact .inl rfl
     rcases e2 with e2|e2
     ·exact st e2 (TM.noref rfl)
     ·exact st e2 (TM.sem fun v hv=>by cases hv;exact ⟨.it k n,rfl⟩)
    ·cases h
   ·cases h
 | bl=>
   simp only[rd1] at h
   split at h
   ·rename_i b e
    cases h
    refine ⟨.refl,fun r=>⟨.bl b,rfl,fun _=> ?_⟩⟩
    have e2:u.s= .bl b∨u.s= .lb b:=by
     revert e;generalize u.s=w;intro e
     cases w<;>simp[tbo] at e
     ·subst e;exact .inr rfl
     ·subst e;exact .inl rfl
    rcases e2 with e2|e2
    ·exact st e2 (TM.noref rfl)
    ·exact st e2 (TM.sem fun v hv=>by cases hv;exact ⟨.bl b,rfl⟩)
   ·cases h
 | st=>
   simp only[rd1] at h
   split at h
   ·rename_i s e
    cases h
    exact ⟨.refl,fun r=>⟨.st s,rfl,fun _=>st e (TM.noref rfl)⟩⟩
   ·cases h
 | sl e=>
   simp only[rd1] at h
   have bd:∀(l:List (K e)) r,bdV C rg (.sl e) (.l e l::r)=(.sl e l,r):=by
    intro l r;simp[bdV,yiK]
   split at h
   ·rename_i e' l eu
    split at h
    ·rename_i l' hl
     obtain ⟨rfl,rfl⟩:=yd9 hl
     cases h
     exact ⟨.refl,fun r=>⟨_,bd _ r,fun _=>st eu (TM.noref rfl)⟩⟩
    ·cases h
   ·rename_i eu
    cases h
    exact ⟨.refl,fun r=>⟨_,bd [] r,fun _=>st eu (TM.sem fun v hv=>by cases hv;exact ⟨.sl e [] _ _ _ rfl rfl,rfl⟩)⟩⟩
   ·rename_i eu
    cases h
    exact ⟨.refl,fun r=>⟨_,bd [] r,fun _=>st eu (TM.sem fun v hv=>by cases hv;exact ⟨.sl e [] _ _ _ rfl rfl,rfl⟩)⟩⟩
   ·cases h
 | v t=>
   simp only[rd1] at h
   split at h
   ·rename_i x e
    cases h
    refine ⟨.refl,fun r=>⟨inV C t x,by simp[bdV],fun _=>TM.sem fun v hv=> ?_⟩⟩
    obtain ⟨_,a2,a3⟩:=ykW hC e hv
    exact ⟨a3 _ _,a2⟩
   ·cases h
 |agg l=>simp only[rd1] at h;cases h
 | row s=>
   simp only[rd1] at h
   split at h
   ·rename_i s' c e
    unfold addR at h
    split at h
    ·rename_i r' hr
     cases h
     obtain ⟨h1,h2⟩:=yn0 (fun _ _=>yok) hr
     refine ⟨⟨h1,fun _ _ q=>q⟩,fun r=>⟨.rw s 1,rfl,fun hg=>st e ?_⟩⟩
     obtain ⟨n,hn⟩:=hg.rn s (s',c) h2
     obtain ⟨g1,g2,g3⟩:=hg.r s (s',c) h2 n hn
     exact TM.rw hn g1 g2 g3
    ·cases h
   ·rename_i e
    unfold addR at h
    split at h
    ·rename_i r' hr
     cases h
     obtain ⟨h1,h2⟩:=yn0 (fun _ _=>yok) hr
     refine ⟨⟨h1,fun _ _ q=>q⟩,fun r=>⟨.rw s 1,rfl,fun hg=>st e ?_⟩⟩
     obtain ⟨g1,g2⟩:=hg.n s h2
     exact TM.nilrw g1 g2
    ·cases h
   ·cases h
 | px s off=>
   simp only[rd1] at h
   split at h
   ·rename_i s' c off' e
    split at h
    ·rename_i ho
     have:=nbeq.1 ho;subst this
     unfold addB at h
     split at h
     ·rename_i b' hb
      cases h
      obtain ⟨h1,h2⟩:=yn0 (fun _ _=>ygT) hb
      exact ⟨⟨fun _ _ q=>q,h1⟩,fun r=>⟨.px s 1 off,rfl,fun hg=>st e (TM.px (hg.b s (s',c) h2))⟩⟩
     ·cases h
    ·cases h
   ·cases h
 | kp id =>
   simp only[rd1] at h
   split at h
   ·rename_i id' w
    split at h
    ·rename_i hi
     have:=nbeq.1 hi;subst this
     cases h
     refine ⟨.refl,fun r=>⟨match lkR rg id with|some v=> .cn id v|none=> .un,rfl,fun hg=> ?_⟩⟩
     cases hr:lkR rg id with
     |none=>exact TM.un _
     | some v=>
       intro v0 hv
       cases hv with
       | cn _ _ _ h1 hn hv=>
         have:=hx id v hr
         rw[h1] at this;cases this
         exact ⟨v0, .cn id w v0 (by rw[hg.rg];exact hr) hn (hv.noref hn).1, .no v0 (hv.noL' hn)⟩
    ·cases h
   ·cases h
 | nil=>
   simp only[rd1] at h
   split at h
   ·rename_i e
    cases h
    exact ⟨.refl,fun r=>⟨.nil,rfl,fun _=>st e (TM.noref rfl)⟩⟩
   ·cases h
 | np=>
   simp only[rd1] at h
   split at h
   ·rename_i e
    cases h
    exact ⟨.refl,fun r=>⟨.nptr,rfl,fun _=>st e (TM.noref rfl)⟩⟩
   ·cases h
 |fn f x y=>simp only[rd1] at h;cases h
 | un=>
   simp only[rd1] at h
   cases h
   exact ⟨.refl,fun r=>⟨.un,by cases r<;>rfl,fun _=>TM.un _⟩⟩
mutual
theorem ytY (hC:CxOk P C) (hx:ExtR rg ts.rg):∀(k:Kd) (u:TV K) (m m':RM) (a:List (DV K)),rdV C k u m=some (a,m')→SubM m m'∧∀r,∃u1,bdV C rg k (a++r)=(u1,r)∧(Good (rg:=rg) ts ts1 χ ξ ρ m'→TM P C ts ts1 χ ξ ds ρ p u u1)
 | .agg l,u,m,m',a,h=>by
   simp only[rdV] at h
   split at h
   ·rename_i vs e
    obtain ⟨h1,h2⟩:=yjR hC hx l vs m m' a h
    refine ⟨h1,fun r=> ?_⟩
    obtain ⟨us1,e1,e2,e3⟩:=h2 r
    refine ⟨.agg us1,by simp only[bdV,e1],fun hg=> ?_⟩
    exact TM.stp e (TM.agg e2 (e3 hg))
   ·cases h
 | .fn f x y,u,m,m',a,h=>by
   simp only[rdV] at h
   split at h
   ·rename_i f' x' y' e
    split at h
    ·rename_i hf
     have:=nbeq.1 hf;subst this
     split at h
     ·rename_i a1 m1 h1
      split at h
      ·rename_i a2 m2 h2
       cases h
       obtain ⟨s1,t1⟩:=yjR hC hx x x' m m1 a1 h1
       obtain ⟨s2,t2⟩:=yjR hC hx y y' m1 m' a2 h2
       refine ⟨s1.trans s2,fun r=> ?_⟩
       obtain ⟨us1,e1,e2,f1⟩:=t1 (a2++r)
       obtain ⟨us2,e3,e4,f2⟩:=t2 r
       refine ⟨.fn f us1 us2,by rw[List.append_assoc];simp only[bdV,e1,e3],fun hg=> ?_⟩
       exact TM.stp e (TM.fn e2 (f1 (hg.sub s2)) e4 (f2 hg))
      ·cases h
     ·cases h
    ·cases h
   ·cases h
 | .np,u,m,m',a,h=>ygE hC hx h
 | .it k,u,m,m',a,h=>ygE hC hx h
 | .bl,u,m,m',a,h=>ygE hC hx h
 | .st,u,m,m',a,h=>ygE hC hx h
 | .sl e,u,m,m',a,h=>ygE hC hx h
 | .v t,u,m,m',a,h=>ygE hC hx h
 | .row s,u,m,m',a,h=>ygE hC hx h
 | .px s o,u,m,m',a,h=>ygE hC hx h
 | .kp id,u,m,m',a,h=>ygE hC hx h
 | .nil,u,m,m',a,h=>ygE hC hx h
 | .un,u,m,m',a,h=>ygE hC hx h
theorem yjR (hC:CxOk P C) (hx:ExtR rg ts.rg):∀(l:List Kd) (us:List (TV K)) (m m':RM) (a:List (DV K)),rdVs C l us m=some (a,m')→SubM m m'∧∀r,∃us1,bdVs C rg l (a++r)=(us1,r)∧us1.length=us.length∧(Good (rg:=rg) ts ts1 χ ξ ρ m'→∀(j:Nat) (u u1:TV K),us[j]? =some u→us1[j]? =some u1→TM P C ts ts1 χ ξ ds ρ p u u1)
 | [],[],m,m',a,h=>by
   simp only[rdVs] at h;cases h
   exact ⟨.refl,fun r=>⟨[],rfl,rfl,fun _ j u u1 h=>by simp at h⟩⟩
 | k ::l,u::us,m,m',a,h=>by
   simp only[rdVs] at h
   split at h
   ·rename_i a1 m1 h1
    split at h
    ·rename_i a2 m2 h2
     cases h
     obtain ⟨s1,t1⟩:=ytY hC hx k u m m1 a1 h1
     obtain ⟨s2,t2⟩:=yjR hC hx l us m1 m' a2 h2
     refine ⟨s1.trans s2,fun r=> ?_⟩
     obtain ⟨u1,e1,f1⟩:=t1 (a2++r)
     obtain ⟨us1,e2,e3,f2⟩:=t2 r
     refine ⟨u1::us1,?_,by simp[e3],fun hg j u' u1' x y=> ?_⟩
     ·rw[List.append_assoc];simp only[bdVs,e1,e2]
     ·cases j with
      |zero=>simp at x y;subst x;subst y;exact f1 (hg.sub s2)
      |succ j=>exact f2 hg j u' u1' (by simpa using x) (by simpa using y)
    ·cases h
   ·cases h
 | [],_::_,_,_,_,h=>by simp[rdVs] at h
 |_::_,[],_,_,_,h=>by simp[rdVs] at h
end
theorem ypL (hC:CxOk P C) (hx:ExtR rg ts.rg):∀(l:List (Nat×Kd)) (m m':RM) (a:List (DV K)),rdS C ts.fr l m=some (a,m')→SubM m m'∧∀r,∃fr1,bdS C rg l (a++r)=(fr1,r)∧(Good (rg:=rg) ts ts1 χ ξ ρ m'→∀t,TM P C ts ts1 χ ξ ds ρ p (lkT ts.fr t) (lkT fr1 t))
 | [],m,m',a,h=>by
   simp only[rdS] at h;cases h
   exact ⟨.refl,fun r=>⟨[],rfl,fun _ t=>TM.un _⟩⟩
 | k ::l,m,m',a,h=>by
   simp only[rdS] at h
   split at h
   ·rename_i a1 m1 h1
    split at h
    ·rename_i a2 m2 h2
     cases h
     obtain ⟨s1,t1⟩:=ytY hC hx k.2 (lkT ts.fr k.1) m m1 a1 h1
     obtain ⟨s2,t2⟩:=ypL hC hx l m1 m' a2 h2
     refine ⟨s1.trans s2,fun r=> ?_⟩
     obtain ⟨u1,e1,f1⟩:=t1 (a2++r)
     obtain ⟨fr1,e2,f2⟩:=t2 r
     refine ⟨(k.1,u1)::fr1,?_,fun hg t=> ?_⟩
     ·rw[List.append_assoc];simp only[bdS,e1,e2]
     ·rw[yb3]
      split
      ·rename_i e;rw[<-e];exact f1 (hg.sub s2)
      ·exact f2 hg t
    ·cases h
   ·cases h
theorem yxR (hC:CxOk P C) (hx:ExtR rg ts.rg) (l:List Kd) (us:List (TV K)) (m m':RM) (a:List (DV K)) (h:rdW C l us m=some (a,m')) (e:Nat):SubM m m'∧∀r,∃us1,bdW C rg l (a++r)=(us1,r)∧(Good (rg:=rg) ts ts1 χ ξ ρ m'→BM P C ts ts1 χ ξ ds ρ p (.box e us) (.box e us1)):=by
 have gen:rdVs C l us m=some (a,m')→(∀r,bdW C rg l (a++r)=bdVs C rg l (a++r))→SubM m m'∧∀r,∃us1,bdW C rg l (a++r)=(us1,r)∧(Good (rg:=rg) ts ts1 χ ξ ρ m'→BM P C ts ts1 χ ξ ds ρ p (.box e us) (.box e us1)):=by
  intro h hb
  obtain ⟨s1,t1⟩:=yjR (P:=P) (ts1:=ts1) (χ:=χ) (ξ:=ξ) (ρ:=ρ) (ds:=ds) (p:=p) hC hx l us m m' a h
  refine ⟨s1,fun r=> ?_⟩
  obtain ⟨us1,e1,e2,f1⟩:=t1 r
  exact ⟨us1,by rw[hb];exact e1,fun hg=>BM.box e2 (f1 hg)⟩
 unfold rdW at h
 split at h
 ·rename_i t
  split at h
  ·rename_i hg
   split at h
   ·rename_i x hx'
    cases h
    refine ⟨.refl,fun r=>⟨(C.T t).c x,by simp[bdW,hg],fun _ kb hkb=> ?_⟩⟩
    obtain ⟨k1,k2,k3,k4⟩:=hkb
    obtain ⟨_,b2,b3⟩:=ykW hC hx' (.agg us kb.cells k3 k4)
    have b4:=b3 ts1 (χ1 ξ)
    rw[show inV C t x= .agg ((C.T t).c x) by unfold inV;rw[hg]] at b4
    obtain ⟨vs,e1,c1,c2⟩:=b4.agg'
    cases e1
    have hl:us.length=((C.T t).c x).length:=by rw[<-k3,c1]
    have b5:noLs kb.cells=true:=by simpa only[AV.noL] using b2
    exact ⟨kb.cells,⟨k1,by rw[k2,hl],by rw[c1],c2⟩,RVL.no b5,fun _ hc=>⟨hc,b5,rfl⟩⟩
   ·cases h
  ·rename_i hg
   exact gen h fun r=>by simp[bdW,hg]
 ·rename_i hn
  refine gen h fun r=> ?_
  unfold bdW
  split
  ·rename_i t;exact absurd rfl (hn t)
  ·rfl
theorem ym0 (hC:CxOk P C) (hx:ExtR rg ts.rg):∀(l:List (Nat×Nat×List Kd)) (m m':RM) (a:List (DV K)),rdB C ts l m=some (a,m')→SubM m m'∧∀r,∃od1,bdB C rg l (a++r)=(od1,r)∧(∀s,memB od1 s=l.any fun q=>Nat.beq q.1 s)∧(∀s,memB od1 s=true→∃q b b1,lkA m'.b s=some q∧ts.tb q.1 q.2=some b∧isBx (some b)=true∧lkB od1 s=some b1∧
   (Good (rg:=rg) ts ts1 χ ξ ρ m'->BM P C ts ts1 χ ξ ds ρ p b b1))
 | [],m,m',a,h=>by
   simp only[rdB] at h;cases h
   exact ⟨.refl,fun r=>⟨[],rfl,fun s=>rfl,fun s h=>by cases h⟩⟩
 | k :: l, m,m',a,h=>by
   simp only[rdB] at h
   split at h
   ·rename_i q hq
    split at h
    ·rename_i e t x hb
     split at h
     ·rename_i he
      simp only[Bool.and_eq_true] at he
      obtain ⟨he,hbig,hkk⟩:=he
      have he:=nbeq.1 he
      split at h
      ·rename_i a2 m2 h2
       cases h
       obtain ⟨s2,t2⟩:=ym0 hC hx l m m' a2 h2
       refine ⟨s2,fun r=> ?_⟩
       obtain ⟨od1,e2,g2,f2⟩:=t2 r
       obtain ⟨t',hk2⟩:∃t',k.2.2= [.v t']:=by
        revert hkk
        unfold opk
        split
        ·rename_i t' _ hq;exact fun _=>⟨_,hq⟩
        ·intro q;cases q
       have ht:t'=t:=by rw[hk2] at hkk;exact nbeq.1 hkk
       subst ht
       have hW:(bdW C rg k.2.2 (.v t' x::(a2++r))).2=a2++r:=by
        rw[hk2]
        unfold bdW
        simp only
        split
        ·rfl
        ·rename_i hg
         simp[bdVs,bdV]
       refine ⟨(k.1,some (.opq e t' x))::od1,?_,fun s=> ?_,fun s hs=> ?_⟩
       ·rw[List.cons_append]
        simp only[bdB,hW,e2]
        congr 3
        unfold mkBx
        rw[<-he,hbig,hk2]
       ·show (Nat.beq k.1 s||memB od1 s)=_;rw[g2,List.any_cons]
       ·rw [yaO]
        by_cases ek:k.1=s
        ·subst ek
         exact ⟨q,_,_,s2.b _ _ hq,hb,rfl,by simp,fun _=>BM.opq⟩
        ·rw[if_neg ek]
         have hs':memB od1 s=true:=by
          have:(Nat.beq k.1 s||memB od1 s)=true:=hs
          have hb':Nat.beq k.1 s=false:=by
           cases hh:Nat.beq k.1 s with
           |false=>rfl
           |true=>exact absurd (nbeq.1 hh) ek
          rwa[hb',Bool.false_or] at this
         exact f2 s hs'
      ·cases h
     ·cases h
    ·rename_i e cs hb
     split at h
     ·rename_i he
      simp only[Bool.and_eq_true,Bool.not_eq_true'] at he
      obtain ⟨he,hsm⟩:=he
      have he:=nbeq.1 he
      split at h
      ·rename_i a1 m1 h1
       split at h
       ·rename_i a2 m2 h2
        cases h
        obtain ⟨s1,t1⟩:=yxR (P:=P) (ts1:=ts1) (χ:=χ) (ξ:=ξ) (ρ:=ρ) (ds:=ds) (p:=p) hC hx k.2.2 cs m m1 a1 h1 e
        obtain ⟨s2,t2⟩:=ym0 hC hx l m1 m' a2 h2
        refine ⟨s1.trans s2,fun r=> ?_⟩
        obtain ⟨us1,e1,f1⟩:=t1 (a2++r)
        obtain ⟨od1,e2,g2,f2⟩:=t2 r
        refine ⟨(k.1,some (.box k.2.1 us1))::od1,?_,fun s=> ?_,fun s hs=> ?_⟩
        ·rw[List.append_assoc];simp only[bdB,e1,e2]
         congr 3
         unfold mkBx
         rw[<-he,hsm]
        ·show (Nat.beq k.1 s||memB od1 s)=_;rw[g2,List.any_cons]
        ·rw [yaO]
         by_cases ek:k.1=s
         ·subst ek
          exact ⟨q,_, .box e us1,(s1.trans s2).b _ _ hq,hb,rfl,by simp[he],fun hg=>f1 (hg.sub s2)⟩
         ·rw[if_neg ek]
          have hs':memB od1 s=true:=by
           have:(Nat.beq k.1 s||memB od1 s)=true:=hs
           have hb':Nat.beq k.1 s=false:=by
            cases hh:Nat.beq k.1 s with
            |false=>rfl
            |true=>exact absurd (nbeq.1 hh) ek
           rwa[hb',Bool.false_or] at this
          exact f2 s hs'
       ·cases h
      ·cases h
     ·cases h
    ·cases h
   ·cases h
theorem yoW {m:RM}:∀(l:List (Nat×Nat)) (a:List (DV K)),rdR C ts m l=some a→(∀s,memB (bdR l a) s=l.any fun q=>Nat.beq q.1 s)∧∀s,memB (bdR l a) s=true→∃e,(lkA m.r s=some none∧lkB (bdR l a) s=some (.row e []))∨∃q l',lkA m.r s=some (some q)∧trow C e (ts.tb q.1 q.2)=some l'∧lkB (bdR l a) s=some (.row e l')
 | [],a,h=>by
   simp only[rdR] at h;cases h
   exact ⟨fun s=>rfl,fun s h=>by cases h⟩
 | k ::l,a,h=>by
   have step:∀ {x:List (K k.2)} {b:List (DV K)},rdR C ts m l=some b→(lkA m.r k.1=some none∧x= []∨∃q,lkA m.r k.1=some (some q)∧trow C k.2 (ts.tb q.1 q.2)=some x)→(∀s,memB (bdR (k::l) (.l k.2 x::b)) s=(k::l).any fun q=>Nat.beq q.1 s)∧
     ∀s,memB (bdR (k::l) (.l k.2 x::b)) s=true->∃e,(lkA m.r s=some none/\lkB (bdR (k::l) (.l k.2 x::b)) s=some (.row e []))∨∃q l',lkA m.r s=some (some q)/\trow C e (ts.tb q.1 q.2)=some l'/\lkB (bdR (k::l) (.l k.2 x::b)) s=some (.row e l'):=by
    intro x b hb hx
    obtain ⟨g1,g2⟩:=yoW l b hb
    have e:bdR (k::l) (.l k.2 x::b)=(k.1,some (.row k.2 x))::bdR l b:=by simp[bdR,yiK]
    rw[e]
    refine ⟨fun s=> ?_,fun s hs=> ?_⟩
    ·show (Nat.beq k.1 s||memB (bdR l b) s)=_;rw[g1,List.any_cons]
    ·rw[yaO]
     by_cases ek:k.1=s
     ·subst ek
      rcases hx with ⟨h1,rfl⟩|⟨q,h1,h2⟩
      ·exact ⟨k.2, .inl ⟨h1,by simp⟩⟩
      ·exact ⟨k.2, .inr ⟨q,x,h1,h2,by simp⟩⟩
     ·rw[if_neg ek]
      refine g2 s ?_
      have:(Nat.beq k.1 s||memB (bdR l b) s)=true:=hs
      have hb':Nat.beq k.1 s=false:=by
       cases hh:Nat.beq k.1 s with
       |false=>rfl
       |true=>exact absurd (nbeq.1 hh) ek
      rwa[hb',Bool.false_or] at this
   simp only[rdR] at h
   split at h
   ·rename_i hq
    obtain ⟨b,hb,rfl⟩:=Option.map_eq_some_iff.1 h
    exact step hb (.inl ⟨hq,rfl⟩)
   ·rename_i q hq
    split at h
    ·rename_i l' hl
     obtain ⟨b,hb,rfl⟩:=Option.map_eq_some_iff.1 h
     exact step hb (.inr ⟨q,hq,hl⟩)
    ·cases h
   ·cases h
theorem ymA:∀ {l:List (Nat×Nat)} {q:Nat×Nat},q∈l→yta l q=true
 | p::r,q,h=>by
   show (yjN p q||yta r q)=true
   rcases List.mem_cons.1 h with rfl|h
   ·have:yjN q q=true:=by unfold yjN;rw[nbeq.2 rfl,nbeq.2 rfl];rfl
    rw[this];rfl
   ·rw[ymA h,Bool.or_true]
theorem yi3:∀ {l:List (Nat×Nat)},yrW l=true→l.Nodup
 | [],_=>List.nodup_nil
 | p::r,h=>by
   simp only[yrW,Bool.and_eq_true,Bool.not_eq_true'] at h
   refine List.nodup_cons.2 ⟨fun hm=> ?_,yi3 h.2⟩
   rw[ymA hm] at h;cases h.1
theorem ydW:∀ {m:List (Nat×Option (Nat×Nat))} {s:Nat} {k:Nat×Nat},lkA m s=some (some k)→k∈plsR m
 | [],_,_,h=>by cases h
 | (t,x)::r,s,k,h=>by
   rw[yfI] at h
   split at h
   ·cases h;simp[plsR]
   ·have:=ydW h
    cases x with
    |none=>exact this
    |some q=>exact List.mem_cons_of_mem _ this
theorem yhO:∀ {m:List (Nat×Option (Nat×Nat))} {s s':Nat} {k:Nat×Nat},(plsR m).Nodup→lkA m s=some (some k)→lkA m s'=some (some k)→s=s'
 | [],_,_,_,_,h,_=>by cases h
 | (t,x)::r,s,s',k,hn,h,h'=>by
   rw[yfI] at h h'
   cases x with
   | none=>
     split at h
     ·cases h
     ·split at h'
      ·cases h'
      ·exact yhO (m:=r) hn h h'
   | some q=>
     have hn':=List.nodup_cons.1 (show (q::plsR r).Nodup from hn)
     split at h
     ·rename_i e1
      split at h'
      ·rename_i e2;simp only at e1 e2;rw[<-e1,<-e2]
      ·cases h;exact absurd (ydW h') hn'.1
     ·split at h'
      ·cases h';exact absurd (ydW h) hn'.1
      ·exact yhO hn'.2 h h'
theorem ydV:∀ {m:List (Nat×(Nat×Nat))} {s:Nat} {k:Nat×Nat},lkA m s=some k→k∈m.map (·.2)
 | [],_,_,h=>by cases h
 | (t,x)::r,s,k,h=>by
   rw[yfI] at h
   split at h
   ·cases h;simp
   ·exact List.mem_cons_of_mem _ (ydV h)
theorem yiX:∀ {m:List (Nat×(Nat×Nat))} {s s':Nat} {k:Nat×Nat},(m.map (·.2)).Nodup→lkA m s=some k→lkA m s'=some k→s=s'
 | [],_,_,_,_,h,_=>by cases h
 | (t,x)::r,s,s',k,hn,h,h'=>by
   rw[yfI] at h h'
   have hn':=List.nodup_cons.1 (show (x::r.map (·.2)).Nodup from hn)
   split at h
   ·rename_i e1
    split at h'
    ·rename_i e2;simp only at e1 e2;rw[<-e1,<-e2]
    ·cases h;exact absurd (ydV h') hn'.1
   ·split at h'
    ·cases h';exact absurd (ydV h) hn'.1
    ·exact yiX hn'.2 h h'
theorem yek {α:Type} {m:List (Nat×α)} {s:Nat} {x:α} {f:Nat×α→Bool} (h:lkA m s=some x) (ha:m.all f=true):f (s,x)=true:=by
 induction m with
 |nil=>cases h
 | cons q m ih=>
   rw[yfI] at h
   simp only[List.all_cons,Bool.and_eq_true] at ha
   split at h
   ·rename_i e;cases h;subst e;exact ha.1
   ·exact ih h ha.2
theorem yxT (hB:ycY B) (hC:CxOk P C) (hx:ExtR rg ts.rg) {τ:Tm} {env:List (DV K)} (h:rdT C τ ts=some env) (hh:List RS) (hR:∀H n,R ts.h H n→R hh H n):REt P C R B N ts (bdT C τ rg hh env):=by
 intro χ ds hk hγ
 unfold rdT at h
 split at h
 rotate_left
 ·cases h
 rename_i a m1 h1
 split at h
 rotate_left
 ·cases h
 rename_i b M h2
 split at h
 rotate_left
 ·cases h
 rename_i c h3 h4
 cases h
 simp only[Bool.and_eq_true] at h4
 obtain ⟨⟨hnod,hdom⟩,hfixM⟩:=h4
 simp only[fixM,Bool.and_eq_true] at hfixM
 simp only[yrP,Bool.and_eq_true] at hdom
 obtain ⟨⟨hdb,hdr⟩,hdis⟩:=hdom
 have hnod:=yi3 hnod
 obtain ⟨nr,nb,ndis⟩:=List.nodup_append.1 hnod
 let ρ:Nat→Option (Nat×Nat):=fun s=>match lkA M.b s with
  |some k=>some k
  | none=>match lkA M.r s with
    |some (some k)=>if χ k.1 k.2=true then none else some k
    |_=>none
 let ξ:Nat→Bool:=fun s=>match lkA M.b s with
  |some _=>false
  | none=>match lkA M.r s with
    |some none=>true
    |some (some k)=>χ k.1 k.2
    |none=>false
 obtain ⟨rb,gb1,gb2⟩:=yoW τ.rw c h3|>fun x=>(⟨rfl,x.1,x.2⟩:(bdR τ.rw c=bdR τ.rw c)/\_/\_)
 have hbname:∀s k,lkA M.b s=some k->τ.bx.any (fun q=>Nat.beq q.1 s)=true:=fun s k hs=>yek hs hdb
 have hrname:∀s k,lkA M.r s=some k->τ.rw.any (fun q=>Nat.beq q.1 s)=true:=fun s k hs=>yek hs hdr
 have hapart:∀s,τ.bx.any (fun q=>Nat.beq q.1 s)=true→τ.rw.any (fun q=>Nat.beq q.1 s)=true→False:=by
  intro s q1 q2
  obtain ⟨x,hx1,hx2⟩:=List.any_eq_true.1 q1
  obtain ⟨y,hy1,hy2⟩:=List.any_eq_true.1 q2
  have:=List.all_eq_true.1 (List.all_eq_true.1 hdis x hx1) y hy1
  rw[nbeq.1 hx2,nbeq.1 hy2,nbeq.2 rfl] at this;cases this
 have hbr:∀s k k',lkA M.b s=some k->lkA M.r s=some k'->False:=fun s k k' q1 q2=>hapart s (hbname s k q1) (hrname s k' q2)
 have hρb:∀s k,lkA M.b s=some k→ρ s=some k:=by
  intro s k hs
  show (match lkA M.b s with|some k=>some k|none=>_)=_
  rw[hs]
 have hρr:∀s k,lkA M.r s=some (some k)→ρ s=(if χ k.1 k.2=true then none else some k)∧ξ s=χ k.1 k.2:=by
  intro s k hs
  have hn:lkA M.b s=none:=by
   cases hq:lkA M.b s with
   |none=>rfl
   |some k'=>exact (hbr s k' _ hq hs).elim
  constructor
  ·show (match lkA M.b s with|some k=>some k|none=>match lkA M.r s with|some (some k)=>if χ k.1 k.2=true then none else some k|_=>none)=_
   rw[hn,hs]
  ·show (match lkA M.b s with|some _=>false|none=>match lkA M.r s with|some none=>true|some (some k)=>χ k.1 k.2|none=>false)=_
   rw[hn,hs]
 have hξn:∀s,lkA M.r s=some none→ρ s=none∧ξ s=true:=by
  intro s hs
  have hn:lkA M.b s=none:=by
   cases hq:lkA M.b s with
   |none=>rfl
   |some k'=>exact (hbr s k' _ hq hs).elim
  constructor
  ·show (match lkA M.b s with|some k=>some k|none=>match lkA M.r s with|some (some k)=>if χ k.1 k.2=true then none else some k|_=>none)=_
   rw[hn,hs]
  ·show (match lkA M.b s with|some _=>false|none=>match lkA M.r s with|some none=>true|some (some k)=>χ k.1 k.2|none=>false)=_
   rw[hn,hs]
 have hρi:∀s k,ρ s=some k→(lkA M.b s=some k)∨(lkA M.r s=some (some k)∧χ k.1 k.2=false):=by
  intro s k hs
  have hs':(match lkA M.b s with|some k=>some k|none=>match lkA M.r s with|some (some k)=>if χ k.1 k.2=true then none else some k|_=>none)=some k:=hs
  split at hs'
  ·rename_i k' e;cases hs';exact .inl e
  ·split at hs'
   ·rename_i k' e
    split at hs'
    ·cases hs'
    ·rename_i hx';cases hs';exact .inr ⟨e,by simpa using hx'⟩
   ·cases hs'
 let tsS:TS K:=bdT C τ rg hh (a++b++c)
 obtain ⟨sub1,t1⟩:=ypL (P:=P) (ts1:=tsS) (χ:=χ) (ξ:=ξ) (ρ:=ρ) (ds:=ds) (p:=fun _=>False) hC hx τ.ks ⟨ysE τ.rw,ysW τ.bx⟩ m1 a h1
 obtain ⟨sub2,t2⟩:=ym0 (P:=P) (ts1:=tsS) (χ:=χ) (ξ:=ξ) (ρ:=ρ) (ds:=ds) (p:=fun _=>False) hC hx τ.bx m1 M b h2
 obtain ⟨fr1,e1,f1⟩:=t1 (b++c)
 obtain ⟨od1,e2,g2,f2⟩:=t2 c
 have hS:tsS=⟨fr1,od1++bdR τ.rw c,[],rg,hh⟩:=by
  show bdT C τ rg hh (a++b++c)=_
  unfold bdT
  rw[List.append_assoc,e1]
  simp only
  rw[e2]
 have hlk:∀s,lkB tsS.od s=if memB od1 s=true then lkB od1 s else lkB (bdR τ.rw c) s:=by
  intro s;rw[hS];exact ynP _ _ s
 have hrowlk:∀s,τ.rw.any (fun q=>Nat.beq q.1 s)=true→lkB tsS.od s=lkB (bdR τ.rw c) s:=by
  intro s hs
  rw[hlk,if_neg]
  intro hm
  rw[g2] at hm
  exact hapart s hm hs
 have hGood:Good (rg:=rg) ts tsS χ ξ ρ M:=by
  refine ⟨?_,?_,?_,hρb,by rw[hS]⟩
  ·intro s k hs n hn
   obtain ⟨r1,r2⟩:=hρr s k hs
   have hnm:=hrname s _ hs
   obtain ⟨e,⟨q1,_⟩|⟨q,l',q1,q2,q3⟩⟩:=gb2 s (by rw[gb1];exact hnm)
   ·rw[hs] at q1;cases q1
   ·rw[hs] at q1;cases q1
    refine ⟨?_,fun hx'=>⟨by rw[r1,hx'];rfl,by rw[r2,hx']⟩,fun hx'=>by rw[r2,hx']⟩
    show tln (lkB tsS.od s)=_
    rw[hrowlk s hnm,q3]
    rw[(hγ.trow hC q2).1] at hn
    exact hn
  ·intro s k hs
   obtain ⟨e,⟨q1,_⟩|⟨q,l',q1,q2,q3⟩⟩:=gb2 s (by rw[gb1];exact hrname s _ hs)
   ·rw[hs] at q1;cases q1
   ·rw[hs] at q1;cases q1
    exact ⟨_,(hγ.trow hC q2).1⟩
  ·intro s hs
   obtain ⟨r1,r2⟩:=hξn s hs
   refine ⟨?_,r2⟩
   have hnm:=hrname s _ hs
   obtain ⟨e,⟨q1,q3⟩|⟨q,l',q1,q2,q3⟩⟩:=gb2 s (by rw[gb1];exact hnm)
   ·show tln (lkB tsS.od s)=_
    rw[hrowlk s hnm,q3];rfl
   ·rw[hs] at q1;cases q1
 have hlv:∀s b1,2000000≤s→lkB tsS.od s=some b1→R.L s=ξ s:=by
  intro s b1 h2 e9
  have hbl:Nat.ble 2000000 s=true:=Nat.ble_eq_true_of_le h2
  rw[hlk] at e9
  by_cases hm:memB od1 s=true
  ·obtain ⟨q,b,b1,q1,q2,qx,_⟩:=f2 s hm
   have h8:=yek q1 hfixM.1
   simp only[hbl,Bool.not_true,Bool.false_or] at h8
   have:=ygT h8
   subst this
   have h7:ξ s=false:=by
    show (match lkA M.b s with|some _=>false|none=>match lkA M.r s with|some none=>true|some (some k)=>χ k.1 k.2|none=>false)=_
    rw[q1]
   rw[h7]
   exact (hγ.lv s _ h2 q2).trans (hγ.bx q2 qx)
  ·rw[if_neg hm] at e9
   obtain ⟨e,⟨q1,_⟩|⟨q,l',q1,q2,q3⟩⟩:=gb2 s (yfN e9)
   ·have h8:=yek q1 hfixM.2
    simp[hbl] at h8
   ·have h8:=yek q1 hfixM.2
    simp only[hbl,Bool.not_true,Bool.false_or] at h8
    have:=ygT h8
    subst this
    rw[(hρr s _ q1).2]
    have h6:=(hγ.trow hC q2).1
    cases hq:ts.tb s 1 with
    |none=>rw[hq] at h6;cases h6
    |some b=>exact hγ.lv s b h2 hq
 refine yvt hB hγ hk ρ (fun _=>False) ξ tsS (by rw[hS]) (fun H n=>hR H n) ?_ ?_ ?_ hlv ?_ ?_ (fun k h=>h.elim) hC ?_ (fun ks h1 h2=>⟨h1,_,h2⟩)
 ·intro s k hs
  rcases hρi s k hs with hb|⟨hr,hx'⟩
  ·have hm:memB od1 s=true:=by rw[g2];exact hbname s k hb
   obtain ⟨q,b,b1,q1,q2,qx,q3,q4⟩:=f2 s hm
   rw[hb] at q1;cases q1
   exact ⟨hγ.bx q2 qx,_,_,q2,by rw[hlk,if_pos hm];exact q3,q4 hGood⟩
  ·have hnm:=hrname s _ hr
   obtain ⟨e,⟨q1,_⟩|⟨q,l',q1,q2,q3⟩⟩:=gb2 s (by rw[gb1];exact hnm)
   ·rw[hr] at q1;cases q1
   ·rw[hr] at q1;cases q1
    refine ⟨hx',?_⟩
    have q3':lkB tsS.od s=some (.row e l'):=by rw[hrowlk s hnm];exact q3
    unfold trow at q2
    split at q2
    ·rename_i e' l0 hb
     obtain ⟨rfl,rfl⟩:=yd9 q2
     exact ⟨_,_,hb,q3',BM.row⟩
    ·rename_i e' n cs hb
     split at q2
     ·rename_i he
      have:=nbeq.1 he;subst this
      exact ⟨_,_,hb,q3',BM.lr hC q2⟩
     ·cases q2
    ·cases q2
 ·intro s b1 hs hxx
  rw[hlk] at hs
  by_cases hm:memB od1 s=true
  ·obtain ⟨q,b0,b2,q1,_⟩:=f2 s hm
   exact ⟨q,hρb s q q1⟩
  ·rw[if_neg hm] at hs
   have hm2:=yfN hs
   obtain ⟨e,⟨q1,_⟩|⟨q,l',q1,q2,q3⟩⟩:=gb2 s hm2
   ·rw[(hξn s q1).2] at hxx;cases hxx
   ·obtain ⟨r1,r2⟩:=hρr s q q1
    rw[r2] at hxx
    exact ⟨q,by rw[r1,hxx];rfl⟩
 ·intro s hs
  have hs':(match lkA M.b s with|some _=>false|none=>match lkA M.r s with|some none=>true|some (some k)=>χ k.1 k.2|none=>false)=true:=hs
  split at hs'
  ·cases hs'
  ·split at hs'
   ·rename_i hr
    obtain ⟨r1,r2⟩:=hξn s hr
    refine ⟨r1,?_⟩
    have hnm:=hrname s _ hr
    obtain ⟨e,⟨q1,q3⟩|⟨q,l',q1,q2,q3⟩⟩:=gb2 s (by rw[gb1];exact hnm)
    ·exact ⟨e,by rw[hrowlk s hnm];exact q3⟩
    ·rw[hr] at q1;cases q1
   ·rename_i k hr
    obtain ⟨r1,r2⟩:=hρr s k hr
    refine ⟨by rw[r1,if_pos hs'],?_⟩
    have hnm:=hrname s _ hr
    obtain ⟨e,⟨q1,q3⟩|⟨q,l',q1,q2,q3⟩⟩:=gb2 s (by rw[gb1];exact hnm)
    ·rw[hr] at q1;cases q1
    ·rw[hr] at q1;cases q1
     have:=(hγ.trow hC q2).2.1 hs'
     subst this
     exact ⟨e,by rw[hrowlk s hnm];exact q3⟩
   ·cases hs'
 ·intro s k h2 hs
  have hbl:Nat.ble 2000000 s=true:=Nat.ble_eq_true_of_le h2
  rcases hρi s k hs with q1|⟨q1,_⟩
  ·have:=yek q1 hfixM.1
   simp only[hbl,Bool.not_true,Bool.false_or] at this
   exact ygT this
  ·have:=yek q1 hfixM.2
   simp only[hbl,Bool.not_true,Bool.false_or] at this
   exact ygT this
 ·intro s s' k hs hs'
  rcases hρi s k hs with q1|⟨q1,_⟩<;>rcases hρi s' k hs' with q2|⟨q2,_⟩
  ·exact yiX nb q1 q2
  ·exact absurd rfl (ndis k (ydW q2) k (ydV q1))
  ·exact absurd rfl (ndis k (ydW q1) k (ydV q2))
  ·exact yhO nr q1 q2
 ·intro t
  have:=f1 (hGood.sub sub2) t
  rw[hS];rw[hS] at this
  exact this
end
end Go.AV
end
noncomputable section
namespace Go.AV
open Go.RowKit Go.RG Go.Lib
variable {K:Nat->Type}
section
variable {P:Program} {C:Cx K} {R:RR K} {ts ts1:TS K} {χ:Nat->Nat->Bool} {ds:DS} {B:Base} [GB P B] {N:Nat} {ro:Option Nat}
theorem yjy (hC:CxOk P C) (t:Nat) (x:K t):TR P C ts χ (inV C t x) (eV C t x)∧(eV C t x).noL=true∧dwk (eV C t x)=eV C t x:=by
 obtain ⟨c1,c2⟩:=hC.c t x ts χ
 have hno:=(C.E t).no x
 have hdw:=hC.dw t x
 unfold inV eV
 cases hg:(C.T t).g with
 |true=>exact ⟨.agg _ _ c1 c2,hno,by simp only[dwk,hdw]⟩
 | false =>
   have hl:=(C.E t).len x
   rw[hC.g t hg] at hl
   cases he:(C.E t).c x with
   |nil=>rw[he] at hl;cases hl
   | cons a r=>
     cases r with
     |cons b r=>rw[he] at hl;simp at hl
     | nil=>
       rw[he] at c1 c2 hno hdw
       simp only[noLs,Bool.and_true] at hno
       simp only[dwks,List.cons.injEq,and_true] at hdw
       cases hc:(C.T t).c x with
       |nil=>rw[hc] at c1;simp at c1
       | cons u r=>cases r with
         |cons b r=>rw[hc] at c1;simp at c1
         |nil=>rw[hc] at c2;exact ⟨c2 0 u a rfl rfl,hno,hdw⟩
mutual
theorem ywZ:∀(u:TV K) (v:AV),ya6 u=true→TR P C ts χ u v→dwk v=tAV C u
 | .un,v,h,_=>by simp[ya6] at h
 | .lb b,v,_,t=>by rw[t.lbi];rfl
 | .bl b,v,_,t=>by rw[t.bli];rfl
 | .li k n,v,_,t=>by rw[t.int (k:=k) (n:=n) rfl];rfl
 | .it k n,v,_,t=>by rw[t.int (k:=k) (n:=n) rfl];rfl
 | .st s,v,_,t=>by rw[t.str];rfl
 | .agg us,v,h,t=>by
   obtain ⟨vs,rfl,a,b⟩:=t.agg'
   simp only[ya6] at h
   simp only[dwk,tAV,yhw us vs h ⟨a,b⟩]
 | .tup us,v,h,t=>by
   obtain ⟨vs,rfl,a,b⟩:=t.tup'
   simp only[ya6] at h
   simp only[dwk,tAV,yhw us vs h ⟨a,b⟩]
 | .nil,v,_,t=>by cases t;rfl
 | .em,v,_,t=>by cases t;rfl
 | .sl e l,v,_,t=>by
   obtain ⟨z,xs,hx,rfl⟩:=t.sli
   simp only[dwk,hx,tAV,slA]
 | .rw s c,v,h,_=>by simp[ya6] at h
 | .px s c o,v,h,_=>by simp[ya6] at h
 | .pr e s c i o,v,h,_=>by simp[ya6] at h
 | .ep e l i o,v,_,t=>by
   obtain ⟨xs,hx,rfl⟩:=t.epi
   simp only[dwk,hx,tAV]
 | .gs l i,v,_,t=>by
   obtain ⟨xs,hx,rfl⟩:=t.gsi
   simp only[dwk,hx,tAV]
 | .nptr,v,_,t=>by cases t;rfl
 | .fn f a c,v,h,t=>by
   simp only[ya6,Bool.and_eq_true] at h
   cases t with
   |fn _ _ _ a' c' ha hc h1 h2=>simp only[dwk,tAV,yhw a a' h.1 ⟨ha,h1⟩,yhw c c' h.2 ⟨hc,h2⟩]
 | .fv ps rs F,v,_,t=>by cases t with|fv _ _ _ _ h hv=>exact hv
 | .yl r,v,_,t=>by cases t;rfl
 | .cn id v',v,h,_=>by simp[ya6] at h
theorem yhw:∀(us:List (TV K)) (vs:List AV),ybx us=true→TL P C ts χ us vs→dwks vs=tAVs C us
 | [],vs,_,t=>by
   have:vs= []:=List.eq_nil_of_length_eq_zero t.1
   subst this;rfl
 | u ::us,vs,h,t=>by
   cases vs with
   |nil=>simp[TL] at t
   | cons v vs=>
     simp only[ybx,Bool.and_eq_true] at h
     simp only[dwks,tAVs,ywZ u v h.1 t.head.1,yhw us vs h.2 t.head.2]
end
theorem ynQ (hC:CxOk P C) {pd:PD} {u:TV K} {v:AV} {x:AD K} (h:out1 C pd u=some x) (hv:TR P C ts χ u v):v.noL=true∧dwk v=penc C pd x∧∃y,x= .d y:=by
 cases pd with
 | v t=>
   simp only[out1] at h
   split at h
   ·rename_i y e
    cases h
    obtain ⟨a1,a2,_⟩:=ykW hC e hv
    exact ⟨a2,a1,_,rfl⟩
   ·cases h
 | p t=>
   simp only[out1] at h
   split at h
   ·rename_i e x' eu
    split at h
    ·rename_i he
     subst he
     cases h
     have:=hv.s
     rw[eu] at this
     obtain ⟨xs,hx,rfl⟩:=this.epi
     refine ⟨rfl,?_,_,rfl⟩
     simp only[dwk,hx,penc,dif_pos,cl,List.flatMap_cons,List.flatMap_nil,List.append_nil]
     simp
    ·cases h
   ·cases h
 |f ps rs=>simp only[out1] at h;cases h
theorem ylZ (hC:CxOk P C):∀(ps:List PD) (us:List (TV K)) (vs:List AV) (xs:List (AD K)),outD C ps us=some xs→TL P C ts χ us vs→noLs vs=true∧dwks vs=yd8 C ps xs∧xs.length=ps.length∧(∀x∈xs,∃y,x= .d y)
 | [],[],vs,xs,h,t=>by
   cases h
   have:vs= []:=List.eq_nil_of_length_eq_zero t.1
   subst this;exact ⟨rfl,rfl,rfl,fun x hx=>by cases hx⟩
 | p ::ps,u::us,vs,xs,h,t=>by
   cases vs with
   |nil=>simp[TL] at t
   | cons v vs=>
     simp only[outD] at h
     split at h
     ·rename_i x r h1 h2
      cases h
      obtain ⟨a1,a2,a3⟩:=ynQ hC h1 t.head.1
      obtain ⟨b1,b2,b3,b4⟩:=ylZ hC ps us vs r h2 t.head.2
      refine ⟨by simp[noLs,a1,b1],by simp only[dwks,yd8,a2,b2],by simp[b3],fun x hx=> ?_⟩
      rcases List.mem_cons.1 hx with rfl|hx
      ·exact a3
      ·exact b4 x hx
     ·cases h
 | [],_::_,_,_,h,_=>by simp[outD] at h
 |_::_,[],_,_,h,_=>by simp[outD] at h
theorem yjM (C:Cx K):∀(ps qs:List PD) (xs ys:List (AD K)),xs.length=ps.length→yd8 C (ps++qs) (xs++ys)=yd8 C ps xs++yd8 C qs ys
 | [],qs,xs,ys,h=>by
   have:xs= []:=List.eq_nil_of_length_eq_zero h
   subst this;rfl
 | p::ps,qs,xs,ys,h=>by
   cases xs with
   |nil=>simp at h
   |cons x xs=>simp only[List.cons_append,yd8];rw[yjM C ps qs xs ys (by simpa using h)]
theorem yrK (C:Cx K):∀(ps:List PD) (e:List (DV K)),allV ps=true→e.length=ps.length→yd8 C ps (e.map .d)=e.map (dvA C)
 | [],[],_,_=>rfl
 | [],_::_,_,h=>by simp at h
 |p::ps,[],_,h=>by simp at h
 | p::ps,y::e,h,hl=>by
   cases p with
   |v t=>simp only[List.map_cons,yd8];rw[yrK C ps e h (by simpa using hl)];rfl
   |p t=>cases h
   |f a b=>cases h
def SsOk (P:Program) (C:Cx K) (Φ:List (Sp K)):Prop:=∀sp∈Φ,SpOk P C sp
theorem ytU {Φ:List (Sp K)} {f:Nat} {sp:Sp K} (h:lkS Φ f=some sp):sp∈Φ∧sp.f=f:=by
 induction Φ with
 |nil=>cases h
 | cons q Φ ih=>
   simp only[lkS] at h
   split at h
   ·rename_i e;cases h;exact ⟨List.mem_cons_self,nbeq.1 e⟩
   ·exact ⟨List.mem_cons_of_mem _ (ih h).1,(ih h).2⟩
theorem yi0 (hC:CxOk P C) {Φ:List (Sp K)} (hS:SsOk P C Φ) {pd:PD} {u:TV K} {v:AV} {x:AD K} (h:yqq C Φ pd u=some x) (hv:TR P C ts χ u v):v.noL=true∧dwk v=penc C pd x∧∀F,x= .f F→FOk P C F:=by
 have data:out1 C pd u=some x→v.noL=true∧dwk v=penc C pd x∧∀F,x= .f F→FOk P C F:=by
  intro h
  obtain ⟨a,b,y,rfl⟩:=ynQ hC h hv
  exact ⟨a,b,fun F e=>by cases e⟩
 cases pd with
 |v t=>exact data h
 |p t=>exact data h
 | f ps rs =>
   simp only[yqq] at h
   have hs:=hv.s
   split at h
   ·rename_i ps' rs' F e
    cases h
    rw[e] at hs
    cases hs with
    |fv _ _ _ _ hF hv'=>exact ⟨by rw[<-yfD,hv'];exact hF.1,hv',fun F' e=>by cases e;exact hF⟩
   ·rename_i f a c e
    rw[e] at hs
    split at h
    ·rename_i sp hsp
     obtain ⟨hmem,hf⟩:=ytU hsp
     split at h
     ·rename_i xa xc ho
      split at h
      ·rename_i hall
       cases h
       simp only[Bool.and_eq_true] at hall
       obtain ⟨⟨hall,hna⟩,hnc⟩:=hall
       unfold yyi at ho
       split at ho
       ·rename_i xa' xc' h1 h2
        cases ho
        cases hs with
        | fn _ _ _ a' c' ha hc t1 t2=>
          have ta:TL P C ts χ a a':=⟨ha,t1⟩
          have tc:TL P C ts χ c c':=⟨hc,t2⟩
          obtain ⟨p1,p2,p3,p4⟩:=ylZ hC _ a a' xa h1 ta
          obtain ⟨q1,q2,q3,q4⟩:=ylZ hC _ c c' xc h2 tc
          have ea:=yhw a a' hna ta
          have ec:=yhw c c' hnc tc
          have hdv:dwk (.fn (.func f) a' c')= .fn (.func f) (tAVs C a) (tAVs C c):=by simp only[dwk,ea,ec]
          refine ⟨by simp[AV.noL,p1,q1],hdv,fun F e=> ?_⟩
          cases e
          refine ⟨?_,?_,rfl,f,tAVs C a,tAVs C c,rfl,fun en r hW=> ?_⟩
          ·rw[<-hdv,yfD];simp[AV.noL,p1,q1]
          ·rw[<-hdv,ylD]
          ·simp only at hW
           split at hW
           ·rename_i hlen
            have hlen:=nbeq.1 hlen
            obtain ⟨hl,hP⟩:=hS sp hmem _ _ (fun F hF=>by
             rcases List.mem_append.1 hF with hF|hF
             ·rcases List.mem_append.1 hF with hF|hF
              ·obtain ⟨y,hy⟩:=p4 _ hF;cases hy
              ·obtain ⟨y,_,hy⟩:=List.mem_map.1 hF;cases hy
             ·obtain ⟨y,hy⟩:=q4 _ hF;cases hy) hW
            rw[hf] at hP
            have hps:sp.ps=sp.ps.take a.length++((sp.ps.drop a.length).take ps.length++sp.ps.drop (a.length+ps.length)):=by
             rw[<-List.drop_drop,List.take_append_drop,List.take_append_drop]
            simp only[List.length_append,List.length_map] at hl
            have hal:(sp.ps.take a.length).length=xa.length:=p3.symm
            have hml:((sp.ps.drop a.length).take ps.length).length=ps.length:=by
             rw[q3,p3] at hl
             simp only[List.length_take,List.length_drop] at hl⊢
             omega
            rw[hps,List.append_assoc,yjM C _ _ _ _ p3,yjM C _ _ _ _ (by simp[hlen,hml]),<-p2,<-q2,ea,ec,yrK C _ _ hall (by rw[hml,hlen]),<-List.append_assoc] at hP
            exact hP
           ·exact hW.elim
       ·cases ho
      ·cases h
     ·cases h
    ·cases h
   ·cases h
theorem ynw (hC:CxOk P C) {Φ:List (Sp K)} (hS:SsOk P C Φ):∀(ps:List PD) (us:List (TV K)) (vs:List AV) (xs:List (AD K)),outA C Φ ps us=some xs→TL P C ts χ us vs→noLs vs=true∧dwks vs=yd8 C ps xs∧∀F,AD.f F∈xs→FOk P C F
 | [],[],vs,xs,h,t=>by
   cases h
   have:vs= []:=List.eq_nil_of_length_eq_zero t.1
   subst this;exact ⟨rfl,rfl,fun F hF=>by cases hF⟩
 | p ::ps,u::us,vs,xs,h,t=>by
   cases vs with
   |nil=>simp[TL] at t
   | cons v vs=>
     simp only[outA] at h
     split at h
     ·rename_i x r h1 h2
      cases h
      obtain ⟨a1,a2,a3⟩:=yi0 hC hS h1 t.head.1
      obtain ⟨b1,b2,b3⟩:=ynw hC hS ps us vs r h2 t.head.2
      refine ⟨by simp[noLs,a1,b1],by simp only[dwks,yd8,a2,b2],fun F hF=> ?_⟩
      rcases List.mem_cons.1 hF with e|hF
      ·exact a3 F e.symm
      ·exact b3 F hF
     ·cases h
 | [],_::_,_,_,h,_=>by simp[outA] at h
 |_::_,[],_,_,h,_=>by simp[outA] at h
structure Kil (ts ts':TS K) (χ χ':Nat→Nat→Bool):Prop where
 m:Mono ts ts' χ χ'
 d:∀s c,tln (ts.tb s c)=none->χ s c=false->tln (ts'.tb s c)=none/\χ' s c=false
theorem Kil.refl {ts:TS K} {χ:Nat->Nat->Bool}:Kil ts ts χ χ:=⟨.refl,fun _ _ a b=>⟨a,b⟩⟩
theorem Kil.trans {ts ts' ts'':TS K} {χ χ' χ'':Nat->Nat->Bool} (h:Kil ts ts' χ χ') (k:Kil ts' ts'' χ' χ''):Kil ts ts'' χ χ'':=⟨h.m.trans k.m k.d,fun s c a b=>k.d s c (h.d s c a b).1 (h.d s c a b).2⟩
theorem Kil.one {ts:TS K} {χ:Nat→Nat→Bool} {s c:Nat} (hc:c=1∨c=2):Kil ts (ts.setb s c none) χ (updχ χ s c false):=by
 refine ⟨Mono.setb hc (fun _=> .inl ⟨rfl,rfl⟩),fun s' c' a b=> ?_⟩
 rw[ych ts s c none hc]
 unfold updχ
 by_cases e:s'=s/\c'=c
 ·rw[if_pos e,if_pos e];exact ⟨rfl,rfl⟩
 ·rw[if_neg e,if_neg e];exact ⟨a,b⟩
theorem yoq (hC:CxOk P C) {Φ:List (Sp K)} (hS:SsOk P C Φ):∀(ps:List PD) (us:List (TV K)) (xs:List (AD K)),outA C Φ ps us=some xs→∀u∈us,∀(ts:TS K) (χ:Nat→Nat→Bool) (v:AV),TR P C ts χ u v→v.noL=true
 | [],[],_,_,u,hu,_,_,_,_=>by cases hu
 | p::ps,w::us,xs,h,u,hu,ts,χ,v,hv=>by
   simp only[outA] at h
   split at h
   ·rename_i x r h1 h2
    rcases List.mem_cons.1 hu with rfl|hu
    ·exact (yi0 hC hS h1 hv).1
    ·exact yoq hC hS ps us r h2 u hu ts χ v hv
   ·cases h
 | [],_::_,_,h,_,_,_,_,_,_=>by simp[outA] at h
 |_::_,[],_,h,_,_,_,_,_,_=>by simp[outA] at h
theorem yoV (hC:CxOk P C):∀(ps:List PD) (us:List (TV K)) (xs:List (AD K)),outD C ps us=some xs→∀u∈us,∀(ts:TS K) (χ:Nat→Nat→Bool) (v:AV),TR P C ts χ u v→v.noL=true
 | [],[],_,_,u,hu,_,_,_,_=>by cases hu
 | p::ps,w::us,xs,h,u,hu,ts,χ,v,hv=>by
   simp only[outD] at h
   split at h
   ·rename_i x r h1 h2
    rcases List.mem_cons.1 hu with rfl|hu
    ·exact (ynQ hC h1 hv).1
    ·exact yoV hC ps us r h2 u hu ts χ v hv
   ·cases h
 | [],_::_,_,h,_,_,_,_,_,_=>by simp[outD] at h
 |_::_,[],_,h,_,_,_,_,_,_=>by simp[outD] at h
theorem yhM (hC:CxOk P C):∀(us:List (TV K)) (vs:List AV) (ts:TS K) (χ:Nat→Nat→Bool) (ds:DS) (ws:List (TV K)) (ts':TS K),DOk ds→GM P C R ts χ ds→TL P C ts χ us vs→ynj C ts us=some (ws,ts')→(∀w∈ws,∀(ts:TS K) (χ:Nat→Nat→Bool) (v:AV),TR P C ts χ w v→v.noL=true)→
  ∃vs' kl ds1 χ',yf2 vs ds=some (vs',kl,ds1)/\noLs vs'=true/\TL P C ts' χ' ws vs'/\GM P C R ts' χ' ds1/\DOk ds1/\ts'.rg=ts.rg/\Kil ts ts' χ χ'/\(∀k∈kl,∃u∈us,u.s= .rw k.1 k.2)
 | [],vs,ts,χ,ds,ws,ts',hk,hγ,t,h,hn=>by
   cases h
   have:vs= []:=List.eq_nil_of_length_eq_zero t.1
   subst this
   exact ⟨[],[],ds,χ,rfl,rfl, .nil,hγ,hk,rfl, .refl,fun k hk=>by cases hk⟩
 | u :: us,vs,ts,χ,ds,ws,ts',hk,hγ,t,h,hn=>by
   cases vs with
   |nil=>simp[TL] at t
   | cons v vs=>
     have quiet:∀ {ws2:List (TV K)},ynj C ts us=some (ws2,ts')→ws=u::ws2→∃vs' kl ds1 χ',yf2 (v::vs) ds=some (vs',kl,ds1)∧noLs vs'=true∧TL P C ts' χ' ws vs'∧GM P C R ts' χ' ds1∧DOk ds1∧ts'.rg=ts.rg∧Kil ts ts' χ χ'∧(∀k∈kl,∃u'∈u::us,u'.s= .rw k.1 k.2):=by
      intro ws2 h2 e
      subst e
      have hv:v.noL=true:=hn u List.mem_cons_self ts χ v t.head.1
      obtain ⟨vs',kl,ds1,χ',a1,a2,a3,a4,a5,a6,a7,a8⟩:=yhM hC us vs ts χ ds ws2 ts' hk hγ t.head.2 h2 (fun w hw=>hn w (List.mem_cons_of_mem _ hw))
      refine ⟨v::vs',kl,ds1,χ',?_,by simp[noLs,hv,a2], .cons (t.head.1.mono a7.m) a3,a4,a5,a6,a7,fun k hk=> ?_⟩
      ·simp only[yf2,hv,a1]
      ·obtain ⟨u',h1,h2⟩:=a8 k hk;exact ⟨u',List.mem_cons_of_mem _ h1,h2⟩
     simp only[ynj] at h
     split at h
     ·rename_i s c eu
      split at h
      ·rename_i l hl
       split at h
       ·rename_i ws2 ts2 h2
        cases h
        have hs:=t.head.1.s
        rw[eu] at hs
        obtain ⟨g1,g2,g3⟩:=hγ.trow hC hl
        have hcc:c=1∨c=2:=(ymm g1).imp id (·.1)
        rcases hs.rwi g1 with ⟨hχ,rfl⟩|⟨hχ,h0,rfl⟩
        ·obtain ⟨kb,k1,k2,k3,k4⟩:=g3 hχ
         have hγ1:=hγ.setb (s:=s) (c:=c) (b:=none) (kb:=none) hcc (Kil.one hcc).m (fun b' hb'=>by cases hb') (fun _ h9=>by cases h9)
         have hk1:DOk (ds.set s c none):=hk.set hcc (fun x hx=>by cases hx)
         obtain ⟨vs',kl,ds1,χ',a1,a2,a3,a4,a5,a6,a7,a8⟩:=yhM hC us vs (ts.setb s c none) (updχ χ s c false) (ds.set s c none) ws2 ts' hk1 hγ1 (t.head.2.mono (Kil.one hcc).m) h2 (fun w hw=>hn w (List.mem_cons_of_mem _ hw))
         refine ⟨.sl false l.length kb.cells::vs',(s,c)::kl,ds1,χ',?_,by simp[noLs,AV.noL,a2], .cons (.sl _ l _ _ _ rfl k4) a3,a4,a5,by rw[a6,yb6],(Kil.one hcc).trans a7,fun k hk=> ?_⟩
         ·have hb:(Nat.beq kb.cells.length (l.length*kb.sz)&&(noLs kb.cells&&Nat.ble 1 kb.sz))=true:=by
           rw[Bool.and_eq_true,Bool.and_eq_true]
           exact ⟨nbeq.2 (by rw[k3,<-ybh kb.cells,k4,ygd]),ybp k4,Nat.ble_eq_true_of_le (by rw[k3];exact (C.E _).pos)⟩
          simp only[yf2,AV.noL,k1,hb,a1]
         ·rcases List.mem_cons.1 hk with rfl|hk
          ·exact ⟨u,List.mem_cons_self,eu⟩
          ·obtain ⟨u',h1,h2⟩:=a8 k hk;exact ⟨u',List.mem_cons_of_mem _ h1,h2⟩
        ·have hnil:=g2 hχ
         have hγ1:=hγ.kill (s:=s) (c:=c) hcc
         obtain ⟨vs',kl,ds1,χ',a1,a2,a3,a4,a5,a6,a7,a8⟩:=yhM hC us vs (ts.setb s c none) (updχ χ s c false) ds ws2 ts' hk hγ1 (t.head.2.mono (Kil.one hcc).m) h2 (fun w hw=>hn w (List.mem_cons_of_mem _ hw))
         refine ⟨.sl true 0 []::vs',kl,ds1,χ',?_,by simp[noLs,AV.noL,a2], .cons (by rw[hnil];exact .sl _ [] _ _ _ rfl rfl) a3,a4,a5,by rw[a6,yb6],(Kil.one hcc).trans a7,fun k hk=> ?_⟩
         ·simp only[yf2,AV.noL,a1]
         ·obtain ⟨u',h1,h2⟩:=a8 k hk;exact ⟨u',List.mem_cons_of_mem _ h1,h2⟩
       ·cases h
      ·cases h
     ·rename_i hne
      split at h
      ·rename_i ws2 ts2 h2
       cases h
       exact quiet h2 rfl
      ·cases h
theorem yqI (hC:CxOk P C):∀(rs:List Nat) (p:List (DV K)→List (TV K)→Prop),exR C rs p→∃r us,p r us∧noLs (r.map (dvA C))=true∧∀(ts:TS K) (χ:Nat→Nat→Bool),TL P C ts χ us (r.map (dvA C))
 | [],p,h=>⟨[],[],h,rfl,fun _ _=> .nil⟩
 | t::rs,p,h=>by
   obtain ⟨z,h⟩:=h
   obtain ⟨r,us,h1,h2,h3⟩:=yqI hC rs _ h
   exact ⟨.v t z::r,inV C t z::us,h1,by simp only[List.map_cons,noLs,h2,Bool.and_true];exact (yjy (P:=P) (ts:=⟨[],[],[],[],[]⟩) (χ:=fun _ _=>false) hC t z).2.1,fun ts χ=> .cons (yjy hC t z).1 (h3 ts χ)⟩
theorem ylL {us:List (TV K)} {vs:List AV} (h:TL P C ts χ us vs):TR P C ts χ (tres us) (ycM vs):=by
 match us,vs,h with
 | [],[],h=>exact .tup _ _ rfl (fun j u v h=>by simp at h)
 | [u],[v],h=>exact h.head.1
 |u::u'::us,v::v'::vs,h=>exact .tup _ _ h.1 h.2
 | [],_::_,h=>simp[TL] at h
 |_::_,[],h=>simp[TL] at h
 | [_],_::_::_,h=>simp[TL] at h
 |_::_::_,[_],h=>simp[TL] at h
theorem yiF {f:FuncId} {vs vs':List AV} {S:St} {S1:St} {v:AV} {k:AV→St→Prop} (hp:pubL vs S=(vs',S1)) (hn:noLs vs'=true) (hF:Pure P f (dwks vs') v) (h:k v S1):yoF P (.f f) vs S k:=by
 unfold yoF
 rw[hp]
 refine ⟨hn,(yaV.dwkA (hF S1.hp S1.nx)).mono ?_⟩
 rintro av H' n' ⟨rfl,rfl,rfl⟩
 rw[ypf]
 exact h
theorem ymG:∀(a:List AV) {vs vs':List AV} {ds d1:DS} {kl:List (Nat×Nat)},noLs a=true→yf2 vs ds=some (vs',kl,d1)→yf2 (a++vs) ds=some (a++vs',kl,d1)
 | [],_,_,_,_,_,_,h=>h
 | x::a,vs,vs',ds,d1,kl,hn,h=>by
   simp only[noLs,Bool.and_eq_true] at hn
   simp only[List.cons_append,yf2,hn.1,ymG a hn.2 h]
theorem ymi:∀(a:List AV) (ds:DS),noLs a=true→yf2 a ds=some (a,[],ds)
 | [],_,_=>rfl
 | x::a,ds,hn=>by
   simp only[noLs,Bool.and_eq_true] at hn
   simp only[yf2,hn.1,ymi a ds hn.2]
theorem yic:∀(vs:List AV) {c vs':List AV} {ds d1:DS} {kl:List (Nat×Nat)},noLs c=true→yf2 vs ds=some (vs',kl,d1)→yf2 (vs++c) ds=some (vs'++c,kl,d1)
 | [],c,vs',ds,d1,kl,hn,h=>by cases h;exact ymi c _ hn
 | x ::vs,c,vs',ds,d1,kl,hn,h=>by
   simp only[List.cons_append,yf2] at h⊢
   split at h
   ·split at h
    ·rename_i h1;cases h;simp only[yic vs hn h1,List.cons_append]
    ·cases h
   ·split at h
    ·split at h
     ·split at h
      ·split at h
       ·rename_i hkb _ hb _ _ _ _ h1;cases h;simp only[yic vs hn h1,hb,hkb,List.cons_append]
       ·cases h
      ·cases h
     ·cases h
    ·cases h
theorem yop {a b:List AV}:noLs (a++b)=(noLs a&&noLs b):=by
 induction a with
 |nil=>rfl
 |cons x a ih=>simp only[List.cons_append,noLs,ih,Bool.and_assoc]
structure ypK (P:Program) (o:AO) (ds:DS) (f:FuncId) (vs vs':List AV) (kl:List (Nat×Nat)) (d1:DS) (v:AV):Prop where
 ho:CalO o ds f vs
 nl:noLs vs'=true
 pure:Pure P f (dwks vs') v
 way:yf2 vs ds=some (vs',kl,d1)∨(kl= []/\d1=ds/\vs'=vs.map (vwV (toD ds).M)/\v.flat=true)
theorem yt4 {M:Key→Option Blk} {v:AV} (h:v.noL=true):vw1 M v=v:=by
 unfold vw1
 split
 ·simp[AV.noL] at h
 ·rfl
theorem ytJ (hC:CxOk P C) (hγ:GM P C R ts χ ds) (hk:DOk ds) {u:TV K} {v:AV} (h:TR P C ts χ u v):TR P C ts χ (vt1 C ts u) (vw1 (toD ds).M v):=by
 unfold vt1
 split
 ·rename_i s c eu
  split
  ·rename_i l hl
   have hs:=h.s
   rw[eu] at hs
   obtain ⟨g1,g2,g3⟩:=hγ.trow hC hl
   rcases hs.rwi g1 with ⟨hχ,rfl⟩|⟨hχ,h0,rfl⟩
   ·obtain ⟨kb,k1,k2,k3,k4⟩:=g3 hχ
    have hm:(toD ds).M (.l s c)=some kb.blk:=by show (ds.kb s c).map KB.blk=_;rw[k1];rfl
    have hcond:kb.blk.cells.length=l.length*kb.blk.sz∧kb.blk.sz≠0∧noLs kb.blk.cells=true:=
     ⟨by show kb.cells.length=_*kb.sz;rw[k3,<-ybh kb.cells,k4,ygd],(by show kb.sz≠0;rw[k3];exact Nat.pos_iff_ne_zero.1 (C.E _).pos),ybp k4⟩
    simp only[vw1,hm]
    rw[if_pos hcond]
    exact .sl _ l _ _ _ rfl k4
   ·have:=g2 hχ
    rw[this]
    exact .sl _ [] _ _ _ rfl rfl
  ·exact .un _
 ·rename_i hne
  have hv:vw1 (toD ds).M v=v∨u.s= .un:=by
   have hs:=h.s
   revert hs hne
   generalize u.s=w
   intro hne hs
   cases hs with
   |rwd s c v _ _ _=>exact absurd rfl (hne s c)
   |rw s c n _ _ _=>exact absurd rfl (hne s c)
   |rwn s c _ _ _=>exact absurd rfl (hne s c)
   |un v=>exact .inr rfl
   | fv ps rs F v hF hv'=>
     left
     obtain ⟨g1,_⟩:=hF
     exact yt4 (by rw[<-yfD,hv'];exact g1)
   |cn id w v hl hn hv'=>exact .inl (yt4 (hv'.noref hn (ts':=ts) (χ':=χ)).2)
   |_=>exact .inl rfl
  rcases hv with e|e
  ·rw[e];exact h
  ·cases u with
   |un=>exact .un _
   | cn id w=>
     cases h with
     | cn _ _ _ hl hn hv'=>
       simp only[TV.s] at e
       subst e
       simp[ya6] at hn
   |_=>cases e
theorem yxt (hC:CxOk P C) (hγ:GM P C R ts χ ds) (hk:DOk ds) {u:TV K} {v:AV} (h:TR P C ts χ u v):TR P C ts χ (vtV C ts u) (vwV (toD ds).M v):=by
 unfold vtV
 split
 ·rename_i cs eu
  have hs:=h.s
  rw[eu] at hs
  obtain ⟨vs,rfl,hl,hc⟩:=hs.agg'
  refine .agg _ _ (by simpa using hl) fun j u' v' p q=> ?_
  rw[List.getElem?_map] at p q
  obtain ⟨x,h1,rfl⟩:=Option.map_eq_some_iff.1 p
  obtain ⟨y,h2,rfl⟩:=Option.map_eq_some_iff.1 q
  exact ytJ hC hγ hk (hc j x y h1 h2)
 ·rename_i hne
  have h1:=ytJ hC hγ hk h
  cases v with
  | agg cs=>
    have hs:=h.s
    revert hs
    cases hw:u.s with
    |agg us=>exact absurd hw (hne us)
    | un=>
      intro _
      have:vt1 C ts u=u:=by unfold vt1;rw[hw]
      rw[this]
      cases u with
      |un=>exact .un _
      | cn id w=>
        cases h with
        |cn _ _ _ hl hn hv'=>simp only[TV.s] at hw;subst hw;simp[ya6] at hn
      |_=>cases hw
    | rw s c=>
      intro hs
      cases hs with
      |rwd _ _ _ _ _ h0=>cases h0
    | fv ps rs F=>
      intro hs
      cases hs with
      | fv _ _ _ _ hF hv'=>
        obtain ⟨_,_,_,f,a,c,e,_⟩:=hF
        rw[e] at hv';simp[dwk] at hv'
    | cn id w=>
      intro _
      cases u with
      | cn id' w'=>
        cases h with
        |cn _ _ _ hl hn hv'=>simp only[TV.s] at hw;subst hw;simp[ya6] at hn
      |_=>cases hw
    |_=>intro hs;cases hs
  |_=>exact h1
theorem yxy (hC:CxOk P C) (hγ:GM P C R ts χ ds) (hk:DOk ds) {us:List (TV K)} {vs:List AV} (h:TL P C ts χ us vs):TL P C ts χ (us.map (vtV C ts)) (vs.map (vwV (toD ds).M)):=by
 refine ⟨by simpa using h.1,fun j u v p q=> ?_⟩
 rw[List.getElem?_map] at p q
 obtain ⟨x,h1,rfl⟩:=Option.map_eq_some_iff.1 p
 obtain ⟨y,h2,rfl⟩:=Option.map_eq_some_iff.1 q
 exact yxt hC hγ hk (h.2 j x y h1 h2)
theorem yuU (hC:CxOk P C) {t:Nat} (h:(C.T t).fl=true) (x:K t):(eV C t x).flat=true:=by
 have:=hC.fl t h x
 unfold eV
 split
 ·exact this
 ·rename_i hg
  have h1:=hC.g t hg
  have h2:=(C.E t).len x
  rw[h1] at h2
  obtain ⟨v,hv⟩:=List.length_eq_one_iff.1 h2
  rw[hv] at this⊢
  simp only[yf0,Bool.and_true] at this
  exact this
theorem yod (hC:CxOk P C):∀(rs:List Nat) (p:List (DV K)→List (TV K)→Prop),rs.all (fun t=>(C.T t).fl)=true→exR C rs p→∃r us,p r us∧noLs (r.map (dvA C))=true∧(∀(ts:TS K) (χ:Nat→Nat→Bool),TL P C ts χ us (r.map (dvA C)))∧yf0 (r.map (dvA C))=true
 | [],p,_,h=>⟨[],[],h,rfl,fun _ _=> .nil,rfl⟩
 | t::rs,p,hf,h=>by
   obtain ⟨z,h⟩:=h
   simp only[List.all_cons,Bool.and_eq_true] at hf
   obtain ⟨r,us,h1,h2,h3,h4⟩:=yod hC rs _ hf.2 h
   obtain ⟨q1,q2,q3⟩:=yjy (P:=P) (ts:=⟨[],[],[],[],[]⟩) (χ:=fun _ _=>false) hC t z
   refine ⟨.v t z::r,inV C t z::us,h1,by simp[noLs,dvA,q2,h2],fun ts χ=> .cons (yjy (P:=P) (ts:=ts) (χ:=χ) hC t z).1 (h3 ts χ),?_⟩
   simp only[List.map_cons,yf0,dvA,yuU hC hf.1 z,h4,Bool.and_true]
theorem ypA:∀ {vs:List AV},yf0 vs=true→(ycM vs).flat=true
 | [],_=>rfl
 | [v],h=>by simpa [yf0,ycM] using h
 |v::w::vs,h=>h
theorem ylX (hC:CxOk P C) {Φ:List (Sp K)} (hS:SsOk P C Φ) (hγ:GM P C R ts χ ds) (hk:DOk ds) {o:AO} {f:Nat} {us:List (TV K)} {vs:List AV} {X:TS K→Prop} (ht:TL P C ts χ us vs) (ho:CalO o ds f vs) (h:yrv C Φ ts o.dst f us X):
  ∃vs' kl d1 v ts' χ',ypK P o ds f vs vs' kl d1 v/\GM P C R ts' χ' (d1.put o.dst v)/\DOk d1/\X ts'/\ts'.rg=ts.rg/\(flS C Φ f=true->kl= [])/\(∀k∈kl,∃u∈us,u.s= .rw k.1 k.2):=by
 unfold yrv at h
 split at h
 rotate_left
 ·exact h.elim
 rename_i sp h1
 obtain ⟨hmem,hf⟩:=ytU h1
 split at h
 ·rename_i hfl
  split at h
  ·rename_i env he
   have tv:=yxy hC hγ hk ht
   obtain ⟨b1,b2,b3⟩:=ynw hC hS _ _ _ _ he tv
   obtain ⟨r,rs,⟨hW,hX⟩,n1,n2,n3⟩:=yod (P:=P) hC _ _ hfl h
   obtain ⟨_,hP⟩:=hS sp hmem env r b3 hW
   rw[hf] at hP
   exact ⟨vs.map (vwV (toD ds).M),[],ds,ycM (r.map (dvA C)),_,χ,⟨ho,b1,by rw[b2];exact hP, .inr ⟨rfl,rfl,rfl,ypA n3⟩⟩,hγ.put (ylL (n2 _ _)),hk,hX,by rw[ybD],fun _=>rfl,fun k hk=>by cases hk⟩
  ·exact h.elim
 ·rename_i hfl
  split at h
  rotate_left
  ·exact h.elim
  rename_i ws ts2 h2
  split at h
  ·rename_i env he
   obtain ⟨vs',kl,ds1,χ',a1,a2,a3,a4,a5,a6,a7,a8⟩:=yhM hC us vs ts χ ds ws ts2 hk hγ ht h2 (yoq hC hS _ _ _ he)
   obtain ⟨b1,b2,b3⟩:=ynw hC hS _ _ _ _ he a3
   obtain ⟨r,rs,⟨hW,hX⟩,n1,n2⟩:=yqI (P:=P) hC _ _ h
   obtain ⟨_,hP⟩:=hS sp hmem env r b3 hW
   rw[hf] at hP
   exact ⟨vs',kl,ds1,ycM (r.map (dvA C)),_,χ',⟨ho,a2,by rw[b2];exact hP, .inl a1⟩,a4.put (ylL (n2 _ _)),a5,hX,by rw[ybD];exact a6,fun hq=>(by unfold flS at hq;rw[h1] at hq;simp only at hq;rw[hfl] at hq;cases hq),a8⟩
  ·exact h.elim
theorem yoM (hC:CxOk P C) (hγ:GM P C R ts χ ds) (hk:DOk ds) {o:AO} {F:FV K} (hF:FOk P C F) {ps rs:List Nat} {x:AOpd} {args:List AOpd} {v:AV} (hop:o.op= .calv x args) (hx:ev (lkF ds.fr) x=v) (hv:dwk v=F.av) {us:List (TV K)} {X:TS K→Prop} (ht:TL P C ts χ us (args.map (ev (lkF ds.fr)))) (h:yvb C ts o.dst F ps rs us X):
  ∃f vs vs' kl d1 w ts' χ',ypK P o ds f vs vs' kl d1 w/\GM P C R ts' χ' (d1.put o.dst w)/\DOk d1/\X ts'/\ts'.rg=ts.rg/\(∀k∈kl,∃u∈us,u.s= .rw k.1 k.2):=by
 unfold yvb at h
 split at h
 ·rename_i ws ts2 h2
  split at h
  ·rename_i env he
   obtain ⟨vs',kl,ds1,χ',a1,a2,a3,a4,a5,a6,a7,a8⟩:=yhM hC us _ ts χ ds ws ts2 hk hγ ht h2 (yoV hC _ _ _ he)
   obtain ⟨b1,b2,b3,b4⟩:=ylZ hC _ _ _ _ he a3
   obtain ⟨r,rr,⟨hW,hX⟩,n1,n2⟩:=yqI (P:=P) hC _ _ h
   obtain ⟨g1,g2,g3,f,a,c,g4,g5⟩:=hF
   have hP:=g5 _ _ hW
   rw[g4] at hv
   cases v with
   | fn f' a' c'=>
     simp only[dwk,AV.fn.injEq] at hv
     obtain ⟨rfl,e1,e2⟩:=hv
     have hnl:noLs a'=true∧noLs c'=true:=by
      rw[g4] at g1
      simp only[AV.noL,Bool.and_eq_true] at g1
      rw[<-e1,<-e2,ycq,ycq] at g1
      exact g1
     have henv:(env.filterMap adD).map (dvA C)=dwks vs':=by
      rw[b2]
      clear he h hX hW hP b2 b1
      induction env generalizing ps with
      |nil=>cases ps<;>rfl
      | cons y env ih=>
        cases ps with
        |nil=>simp at b3
        | cons q ps=>
          obtain ⟨z,rfl⟩:=b4 y List.mem_cons_self
          simp only[List.filterMap_cons,adD,List.map_cons,yd8]
          rw[ih (by simpa using b3) (fun x hx=>b4 x (List.mem_cons_of_mem _ hx))]
          rfl
     have hpub:=ymG a' hnl.1 (yic _ hnl.2 a1)
     refine ⟨f,a'++(args.map (ev (lkF ds.fr))++c'),a'++(vs'++c'),kl,ds1,ycM (r.map (dvA C)),_,χ',⟨.inr ⟨x,args,a',c',hop,hx,by rw[List.append_assoc]⟩,by simp[yop,hnl,a2],?_, .inl hpub⟩,a4.put (ylL (n2 _ _)),a5,hX,by rw[ybD];exact a6,a8⟩
     rw[ycZ,ycZ,e1,e2,<-henv,<-List.append_assoc]
     exact hP
   |_=>simp[dwk] at hv
  ·exact h.elim
 ·exact h.elim
section
variable {L:List AO} {Q:KS->Prop} {i:Nat}
theorem ype {o:AO} {f:FuncId} {vs vs':List AV} {kl:List (Nat×Nat)} {d1:DS} {v:AV} (e0:L[i]? =some o) (hg:gok o.guard ds.fr=true) (h:ypK P o ds f vs vs' kl d1 v) (k:WD P B N ro L (i+1) Q (d1.put o.dst v)):WD P B N ro L i Q ds:=by
 refine yrU (hs:=fun _=>false) e0 hg fun hk=> ?_
 have fin:yeH P (.f f) vs (toD ds) fun v S'=>∃ds',S'.put o.dst v=toD ds'∧DOk ds'∧WD P B N ro L (i+1) Q ds':=by
  rcases h.way with hw|⟨rfl,rfl,rfl,hfl⟩
  ·obtain ⟨a1,a2,a3,_⟩:=yi9 vs ds vs' kl d1 hk hw
   exact .inl (yiF a1 h.nl h.pure ⟨_,ybR d1 o.dst v,a3.put,k⟩)
  ·exact .inr (.inl ⟨f,v,rfl,h.nl,fun H n=>yaV.dwkA (h.pure H n),hfl,_,ybR d1 o.dst v,hk.put,k⟩)
 rcases h.ho with ⟨args,h1,h2⟩|⟨x,args,first,cap,h1,h2,h3⟩
 ·rw[h1];simp only[aop];rw[ycj,h2];exact fin
 ·rw[h1];simp only[aop];rw[ycj,h2];simp only;rw[h3];exact fin
end
end
end Go.AV
end
noncomputable section
namespace Go.AV
open Go.RowKit Go.RG Go.Lib
variable {K:Nat->Type}
def memT (C:Cx K) (ts:TS K) (χ:Nat→Nat→Bool) (s:Nat):Option Blk:=match χ s 1 with
 |true=>none
 |false=>(lkB ts.od s).map (bT C ts χ)
def argT (C:Cx K) (sp:Sl K) (ts0:TS K) (χ:Nat->Nat->Bool):List AV:=(List.range (npL sp)).map fun i=>aT C ts0 χ (lkT ts0.fr i)
def ViOk (ts:TS K) (χ:Nat->Nat->Bool):Prop:=∀s c,χ s c=true->∃e,ts.tb s c=some (.row e [])
def EndL (C:Cx K) (sp:Sl K) (ts0:TS K) (χ:Nat→Nat→Bool) (out:List (DV K)) (H:Hp) (n:Nat) (av:AV) (S1:St):Prop:=
 ∃env' χ',wt (ctT sp.to) env'=true∧kpt ts0 (bdT C sp.to [] [] env') sp.kp (eqDV (selL sp env') out)∧ViOk (bdT C sp.to [] [] env') χ'∧(∀s b,2000000≤s→(bdT C sp.to [] [] env').tb s 1=some b→χ' s 1=χ s 1)∧
  (∃us,ycU (bdT C sp.to [] [] env') sp.res=some us/\av=ycM (aTs C (bdT C sp.to [] [] env') χ' us))/\S1.hp=H/\S1.nx=n/\(∀d,S1.cnt d=1)/\
  ∀s b,lkB (bdT C sp.to [] [] env').od s=some b->χ' s 1=false->S1.M (.l s 1)=some (bT C (bdT C sp.to [] [] env') χ' b)
def SlOk (P:Program) (C:Cx K) (sp:Sl K):Prop:=∀(fs:List (FV K)) (env out:List (DV K)),fs.length=sp.fs.length→(∀F∈fs,FOk P C F)→sp.W fs env out→
 ∀χ,ViOk (entL C sp fs env) χ->∀H n,yam P sp.f (argT C sp (entL C sp fs env) χ) (memT C (entL C sp fs env) χ) H n (EndL C sp (entL C sp fs env) χ out H n)
def kbT (C:Cx K) (ts:TS K) (χ:Nat→Nat→Bool) (s:Nat):KB:=match lkB ts.od s with
 |some b=>⟨(bT C ts χ b).e,(bT C ts χ b).sz,(bT C ts χ b).cells,false⟩
 |none=>⟨0,0,[],false⟩
def memK (C:Cx K) (ts:TS K) (χ:Nat->Nat->Bool):List (Nat×KB):=(ts.od.filter fun p=>(lkB ts.od p.1).isSome&& !χ p.1 1).map fun p=>(p.1,kbT C ts χ p.1)
theorem ynN (C:Cx K) (ts:TS K) (χ:Nat→Nat→Bool) (s:Nat):lkM (memK C ts χ) s=if (lkB ts.od s).isSome&& !χ s 1 then some (kbT C ts χ s) else none:=by
 unfold memK
 rw[yjv (fun s=>(lkB ts.od s).isSome&& !χ s 1) (kbT C ts χ) ts.od s]
 by_cases h:((lkB ts.od s).isSome&& !χ s 1)=true
 ·have hm:memB ts.od s=true:=by
   simp only[Bool.and_eq_true] at h
   obtain ⟨b,hb⟩:=Option.isSome_iff_exists.1 h.1
   exact yfN hb
  rw[if_pos ⟨hm,h⟩,if_pos h]
 ·rw[if_neg (fun q=>h q.2),if_neg h]
theorem ywS (C:Cx K) (ts:TS K) (χ:Nat→Nat→Bool):(fun d=>(lkM (memK C ts χ) d).map KB.blk)=memT C ts χ:=by
 funext s
 rw[ynN]
 unfold memT kbT
 cases hx:χ s 1 with
 |true=>simp
 | false=>
   cases hb:lkB ts.od s with
   |none=>simp
   |some b=>simp[KB.blk]
theorem yf5:∀ {l:List Nat} {s:Nat},yeg l s=true↔s∈l
 | [],s=>by simp[yeg]
 | x::l,s=>by
   have ih:=yf5 (l:=l) (s:=s)
   simp only[yeg,Bool.or_eq_true,nbeq,List.mem_cons,ih]
   constructor<;>rintro (h|h)<;>first|exact .inl h.symm|exact .inr h
theorem yk0:∀ {l:List Nat},yp1 l=true→l.Nodup
 | [],_=>List.nodup_nil
 | x::l,h=>by
   simp only[yp1,Bool.and_eq_true,Bool.not_eq_true'] at h
   obtain ⟨h1,h2⟩:=h
   refine List.nodup_cons.2 ⟨fun hm=> ?_,yk0 h2⟩
   rw[yf5.2 hm] at h1
   cases h1
structure TmOk (τ:Tm):Prop where
 nd:(τ.bx.map (·.1)++τ.rw.map (·.1)).Nodup
 ns:(τ.ks.map (·.1)).Nodup
 ks:∀p∈τ.ks,okK (τ.bx.map (·.1)) (τ.rw.map (·.1)) p.2=true
 bx:∀p∈τ.bx,okKs (τ.bx.map (·.1)) (τ.rw.map (·.1)) p.2.2=true/\p.2.2≠ []
theorem yrV {τ:Tm} (h:okTm τ=true):TmOk τ:=by
 simp only[okTm,Bool.and_eq_true] at h
 obtain ⟨⟨⟨h1,h2⟩,h3⟩,h4⟩:=h
 refine ⟨yk0 h1,yk0 h2,fun p hp=>List.all_eq_true.1 h3 p hp,fun p hp=> ?_⟩
 have:=List.all_eq_true.1 h4 p hp
 simp only[Bool.and_eq_true,Bool.not_eq_true'] at this
 exact ⟨this.1,fun e=>by rw[e] at this;simp at this⟩
theorem ycX:∀ {c1 c2:List CT} {env:List (DV K)},wt (c1++c2) env=true→∃a b,env=a++b∧wt c1 a=true∧wt c2 b=true
 | [],c2,env,h=>⟨[],env,rfl,rfl,h⟩
 |c::c1,c2,[],h=>by simp[wt] at h
 | c::c1,c2,x::env,h=>by
   simp only[List.cons_append,wt,Bool.and_eq_true] at h
   obtain ⟨a,b,rfl,h1,h2⟩:=ycX h.2
   exact ⟨x::a,b,rfl,by simp only[wt,Bool.and_eq_true];exact ⟨h.1,h1⟩,h2⟩
theorem ygc:∀ {c1 c2:List CT} {a b:List (DV K)},wt c1 a=true→wt c2 b=true→wt (c1++c2) (a++b)=true
 | [],c2,[],b,_,h=>h
 | [],c2,_::_,b,h,_=>by simp[wt] at h
 |c::c1,c2,[],b,h,_=>by simp[wt] at h
 | c::c1,c2,x::a,b,h,k=>by
   simp only[wt,Bool.and_eq_true] at h
   simp only[List.cons_append,wt,Bool.and_eq_true]
   exact ⟨h.1,ygc h.2 k⟩
theorem ymO:∀ {c:List CT} {a:List (DV K)},wt c a=true→a.length=c.length
 | [],[],_=>rfl
 | [],_::_,h=>by simp[wt] at h
 |_::_,[],h=>by simp[wt] at h
 | c::cs,x::a,h=>by
   simp only[wt,Bool.and_eq_true] at h
   simp[ymO h.2]
section
variable {C:Cx K} {rg:List (Nat×TV K)}
theorem ygG {k:Kd} {u:TV K} {m m':RM} {a:List (DV K)} (h:rd1 C k u m=some (a,m')):wt (ctV k) a=true:=by
 cases k with
 | it k=>
   simp only[rd1] at h
   split at h
   ·split at h<;>cases h;simp[wt,ctV]
   ·cases h
 |bl=>simp only[rd1] at h;split at h<;>cases h;simp[wt,ctV]
 |st=>simp only[rd1] at h;split at h<;>cases h;simp[wt,ctV]
 | sl e=>
   simp only[rd1] at h
   split at h
   ·split at h<;>cases h;simp[wt,ctV]
   ·cases h;simp[wt,ctV]
   ·cases h;simp[wt,ctV]
   ·cases h
 |v t=>simp only[rd1] at h;split at h<;>cases h;simp[wt,ctV]
 |agg l=>simp only[rd1] at h;cases h
 |fn f a c=>simp only[rd1] at h;cases h
 | row s=>
   simp only[rd1] at h
   split at h
   ·unfold addR at h;split at h<;>cases h;rfl
   ·unfold addR at h;split at h<;>cases h;rfl
   ·cases h
 | px s o=>
   simp only[rd1] at h
   split at h
   ·split at h
    ·unfold addB at h;split at h<;>cases h;rfl
    ·cases h
   ·cases h
 | kp id=>
   simp only[rd1] at h
   split at h
   ·split at h<;>cases h;rfl
   ·cases h
 |nil=>simp only[rd1] at h;split at h<;>cases h;rfl
 |np=>simp only[rd1] at h;split at h<;>cases h;rfl
 |un=>simp only[rd1] at h;cases h;rfl
mutual
theorem yt7:∀(k:Kd) (u:TV K) (m m':RM) (a:List (DV K)),rdV C k u m=some (a,m')→wt (ctV k) a=true
 | .agg l,u,m,m',a,h=>by
   simp only[rdV] at h
   split at h
   ·simp only[ctV];exact yiy l _ m m' a h
   ·cases h
 | .fn f x y,u,m,m',a,h=>by
   simp only[rdV] at h
   split at h
   ·split at h
    ·split at h
     ·rename_i h1
      split at h
      ·rename_i h2
       cases h
       simp only[ctV]
       exact ygc (yiy x _ _ _ _ h1) (yiy y _ _ _ _ h2)
      ·cases h
     ·cases h
    ·cases h
   ·cases h
 | .it k,u,m,m',a,h=>ygG (C:=C) (u:=u) h
 | .bl,u,m,m',a,h=>ygG (C:=C) (u:=u) h
 | .st,u,m,m',a,h=>ygG (C:=C) (u:=u) h
 | .sl e,u,m,m',a,h=>ygG (C:=C) (u:=u) h
 | .v t,u,m,m',a,h=>ygG (C:=C) (u:=u) h
 | .row s,u,m,m',a,h=>ygG (C:=C) (u:=u) h
 | .px s o,u,m,m',a,h=>ygG (C:=C) (u:=u) h
 | .kp id,u,m,m',a,h=>ygG (C:=C) (u:=u) h
 | .nil,u,m,m',a,h=>ygG (C:=C) (u:=u) h
 | .np,u,m,m',a,h=>ygG (C:=C) (u:=u) h
 | .un,u,m,m',a,h=>ygG (C:=C) (u:=u) h
theorem yiy:∀(l:List Kd) (us:List (TV K)) (m m':RM) (a:List (DV K)),rdVs C l us m=some (a,m')→wt (ctVs l) a=true
 | [],[],m,m',a,h=>by simp only[rdVs] at h;cases h;rfl
 | k ::l,u::us,m,m',a,h=>by
   simp only[rdVs] at h
   split at h
   ·rename_i h1
    split at h
    ·rename_i h2
     cases h
     simp only[ctVs]
     exact ygc (yt7 k u _ _ _ h1) (yiy l us _ _ _ h2)
    ·cases h
   ·cases h
 | [],_::_,_,_,_,h=>by simp[rdVs] at h
 |_::_,[],_,_,_,h=>by simp[rdVs] at h
end
theorem yol {fr:List (Nat×TV K)}:∀(l:List (Nat×Kd)) (m m':RM) (a:List (DV K)),rdS C fr l m=some (a,m')→wt (ctS l) a=true
 | [],m,m',a,h=>by simp only[rdS] at h;cases h;rfl
 | p ::l,m,m',a,h=>by
   simp only[rdS] at h
   split at h
   ·rename_i h1
    split at h
    ·rename_i h2
     cases h
     exact ygc (yt7 p.2 _ _ _ _ h1) (yol l _ _ _ h2)
    ·cases h
   ·cases h
theorem yxI {l:List Kd} {us:List (TV K)} {m m':RM} {a:List (DV K)} (h:rdW C l us m=some (a,m')):wt (ctVs l) a=true:=by
 unfold rdW at h
 split at h
 ·split at h
  ·split at h
   ·cases h;simp[ctVs,ctV,wt]
   ·cases h
  ·exact yiy _ _ _ _ _ h
 ·exact yiy _ _ _ _ _ h
theorem yup {l:List Kd} {t:Nat} (h:opk l t=true):∃t',l= [.v t']∧t'=t:=by
 rcases l with _|⟨k,_|⟨k2,l⟩⟩
 ·cases h
 ·cases k with
  |v t'=>exact ⟨t',rfl,nbeq.1 h⟩
  |_=>cases h
 ·cases k<;>cases h
theorem ymc {ts:TS K}:∀(l:List (Nat×Nat×List Kd)) (m m':RM) (a:List (DV K)),rdB C ts l m=some (a,m')→wt (ctB l) a=true
 | [],m,m',a,h=>by simp only[rdB] at h;cases h;rfl
 | p :: l,m,m',a,h=>by
   simp only[rdB] at h
   split at h
   ·split at h
    ·split at h
     ·rename_i hk
      split at h
      ·rename_i h1
       cases h
       simp only[Bool.and_eq_true] at hk
       obtain ⟨_,_,hk⟩:=hk
       obtain ⟨t',hq,hk⟩:=yup hk
       ·have e:ctB (p::l)=ctVs p.2.2++ctB l:=rfl
        rw[e,hq]
        exact ygc (a:= [_]) (by simp[ctVs,ctV,wt];exact hk) (ymc l _ _ _ h1)
      ·cases h
     ·cases h
    ·split at h
     ·split at h
      ·rename_i h1
       split at h
       ·rename_i h2
        cases h
        exact ygc (yxI h1) (ymc l _ _ _ h2)
       ·cases h
      ·cases h
     ·cases h
    ·cases h
   ·cases h
def ctR (l:List (Nat×Nat)):List CT:=l.map fun p=> .l p.2
theorem yn7 {ts:TS K} {m:RM}:∀(l:List (Nat×Nat)) (a:List (DV K)),rdR C ts m l=some a→wt (ctR l) a=true
 | [],a,h=>by simp only[rdR] at h;cases h;rfl
 | p ::l,a,h=>by
   simp only[rdR] at h
   split at h
   ·obtain ⟨b,h1,rfl⟩:=Option.map_eq_some_iff.1 h
    simp only[ctR,List.map_cons,wt,Bool.and_eq_true]
    exact ⟨nbeq.2 rfl,yn7 l b h1⟩
   ·split at h
    ·obtain ⟨b,h1,rfl⟩:=Option.map_eq_some_iff.1 h
     simp only[ctR,List.map_cons,wt,Bool.and_eq_true]
     exact ⟨nbeq.2 rfl,yn7 l b h1⟩
    ·cases h
   ·cases h
theorem ymP (τ:Tm):ctT τ=ctS τ.ks++ctB τ.bx++ctR τ.rw:=rfl
theorem yyh {ts:TS K} {τ:Tm} {env:List (DV K)} (h:rdT C τ ts=some env):wt (ctT τ) env=true:=by
 unfold rdT at h
 split at h
 ·rename_i h1
  split at h
  ·rename_i h2
   split at h
   ·rename_i h3 _
    cases h
    rw[ymP]
    exact ygc (ygc (yol _ _ _ _ h1) (ymc _ _ _ _ h2)) (yn7 _ _ h3)
   ·cases h
  ·cases h
 ·cases h
theorem ytV {ts:TS K} {τ:Tm} {env:List (DV K)} {M:RM} (h:rdM C τ ts=some (env,M)):wt (ctT τ) env=true:=by
 unfold rdM at h
 split at h
 ·rename_i h1
  split at h
  ·rename_i h2
   split at h
   ·rename_i h3 _
    cases h
    rw[ymP]
    exact ygc (ygc (yol _ _ _ _ h1) (ymc _ _ _ _ h2)) (yn7 _ _ h3)
   ·cases h
  ·cases h
 ·cases h
theorem yxP {ts:TS K} {τ:Tm} {J:List (DV K)→Prop} (h:rdJ C τ ts J):rdJ C τ ts fun env=>wt (ctT τ) env=true∧J env:=by
 unfold rdJ at h⊢
 split at h
 ·rename_i env h1
  exact ⟨yyh h1,h⟩
 ·exact h
mutual
theorem yo3:∀(k:Kd) (a r:List (DV K)),wt (ctV k) a=true→bdV C rg k (a++r)=((bdV C rg k a).1,r)
 | .agg l,a,r,h=>by
   simp only[ctV] at h
   simp only[bdV,yif l a r h]
 | .fn f x y,a,r,h=>by
   simp only[ctV] at h
   obtain ⟨a1,a2,rfl,h1,h2⟩:=ycX h
   simp only[bdV]
   rw[List.append_assoc,yif x a1 (a2++r) h1,yif x a1 a2 h1]
   simp only
   rw[yif y a2 r h2]
 | .it k,a,r,h=>by
   cases a with
   |nil=>simp[ctV,wt] at h
   | cons x a=>cases a with
     |cons y a=>simp[ctV,wt] at h
     |nil=>cases x<;>first|rfl|(simp[ctV,wt] at h;done)
 | .bl,a,r,h=>by
   cases a with
   |nil=>simp[ctV,wt] at h
   | cons x a=>cases a with
     |cons y a=>simp[ctV,wt] at h
     |nil=>cases x<;>first|rfl|(simp[ctV,wt] at h;done)
 | .st,a,r,h=>by
   cases a with
   |nil=>simp[ctV,wt] at h
   | cons x a=>cases a with
     |cons y a=>simp[ctV,wt] at h
     |nil=>cases x<;>first|rfl|(simp[ctV,wt] at h;done)
 | .sl e,a,r,h=>by
   cases a with
   |nil=>simp[ctV,wt] at h
   | cons x a=>cases a with
     |cons y a=>simp[ctV,wt] at h
     |nil=>cases x<;>first|(simp only[bdV,List.cons_append,List.nil_append];done)|(simp[ctV,wt] at h;done)
 | .v t,a,r,h=>by
   cases a with
   |nil=>simp[ctV,wt] at h
   | cons x a=>cases a with
     |cons y a=>simp[ctV,wt] at h
     |nil=>cases x<;>first|(simp only[bdV,List.cons_append,List.nil_append];done)|(simp[ctV,wt] at h;done)
 | .row s,a,r,h=>by cases a with|nil=>cases r<;>rfl|cons x a=>simp[ctV,wt] at h
 | .px s o,a,r,h=>by cases a with|nil=>cases r<;>rfl|cons x a=>simp[ctV,wt] at h
 | .kp id,a,r,h=>by cases a with|nil=>cases r<;>rfl|cons x a=>simp[ctV,wt] at h
 | .nil,a,r,h=>by cases a with|nil=>cases r<;>rfl|cons x a=>simp[ctV,wt] at h
 | .np,a,r,h=>by cases a with|nil=>cases r<;>rfl|cons x a=>simp[ctV,wt] at h
 | .un,a,r,h=>by cases a with|nil=>cases r<;>rfl|cons x a=>simp[ctV,wt] at h
theorem yif:∀(l:List Kd) (a r:List (DV K)),wt (ctVs l) a=true→bdVs C rg l (a++r)=((bdVs C rg l a).1,r)
 | [],a,r,h=>by cases a with|nil=>rfl|cons x a=>simp[ctVs,wt] at h
 | k::l,a,r,h=>by
   simp only[ctVs] at h
   obtain ⟨a1,a2,rfl,h1,h2⟩:=ycX h
   simp only[bdVs]
   rw[List.append_assoc,yo3 k a1 (a2++r) h1,yo3 k a1 a2 h1]
   simp only
   rw[yif l a2 r h2]
end
theorem ymo:∀(l:List (Nat×Kd)) (a r:List (DV K)),wt (ctS l) a=true→bdS C rg l (a++r)=((bdS C rg l a).1,r)
 | [],a,r,h=>by cases a with|nil=>rfl|cons x a=>simp[ctS,wt] at h
 | p::l,a,r,h=>by
   obtain ⟨a1,a2,rfl,h1,h2⟩:=ycX (show wt (ctV p.2++ctS l) a=true from h)
   simp only[bdS]
   rw[List.append_assoc,yo3 p.2 a1 (a2++r) h1,yo3 p.2 a1 a2 h1]
   simp only
   rw[ymo l a2 r h2]
theorem ym4 {l:List Kd} (h:∀t,l= [.v t]→(C.T t).g=false) (a:List (DV K)):bdW C rg l a=bdVs C rg l a:=by
 unfold bdW
 split
 ·rename_i t
  rw[h t rfl]
 ·rfl
theorem ymQ (l:List Kd) (a r:List (DV K)) (h:wt (ctVs l) a=true):bdW C rg l (a++r)=((bdW C rg l a).1,r):=by
 by_cases hw:∃t,l= [.v t]/\(C.T t).g=true
 ·obtain ⟨t,rfl,hg⟩:=hw
  cases a with
  |nil=>simp[ctVs,ctV,wt] at h
  | cons x a=>
    cases a with
    |cons y a=>simp[ctVs,ctV,wt] at h
    |nil=>cases x<;>first|(simp[bdW,hg];done)|(simp[ctVs,ctV,wt] at h;done)
 ·have hn:∀t,l= [.v t]→(C.T t).g=false:=fun t e=>by
   cases hg:(C.T t).g with
   |false=>rfl
   |true=>exact absurd ⟨t,e,hg⟩ hw
  rw[ym4 hn,ym4 hn];exact yif l a r h
theorem ykc {e:Nat} {l:List Kd} {cs:List (TV K)} {a:List (DV K)} (r:List (DV K)) (h:wt (ctVs l) a=true):mkBx e l cs (a++r)=mkBx e l cs a:=by
 unfold mkBx
 split
 ·rfl
 ·rcases l with _|⟨k,_|⟨k2,l⟩⟩
  ·rfl
  ·cases k with
   | v t=>
     cases a with
     |nil=>simp[ctVs,ctV,wt] at h
     |cons x a=>cases x<;>rfl
   |_=>rfl
  ·cases k<;>rfl
theorem ycl (e:Nat) (l:List Kd) (cs:List (TV K)) (a:List (DV K)):mkBx e l cs a= .box e cs∨∃t x,1000000≤e∧mkBx e l cs a= .opq e t x:=by
 unfold mkBx
 split
 ·exact .inl rfl
 ·rename_i h
  split
  ·exact .inr ⟨_,_,Nat.le_of_ble_eq_true h,rfl⟩
  ·exact .inl rfl
theorem yjq (e:Nat) (l:List Kd) (cs:List (TV K)) (a:List (DV K)):isBx (some (mkBx e l cs a))=true:=by
 rcases ycl e l cs a with h|⟨t,x,_,h⟩<;>rw[h]<;>rfl
theorem ymH:∀(l:List (Nat×Nat×List Kd)) (a r:List (DV K)),wt (ctB l) a=true→bdB C rg l (a++r)=((bdB C rg l a).1,r)
 | [],a,r,h=>by cases a with|nil=>rfl|cons x a=>simp[ctB,wt] at h
 | p::l,a,r,h=>by
   obtain ⟨a1,a2,rfl,h1,h2⟩:=ycX (show wt (ctVs p.2.2++ctB l) a=true from h)
   simp only[bdB]
   rw[List.append_assoc,ymQ p.2.2 a1 (a2++r) h1,ymQ p.2.2 a1 a2 h1,ykc _ h1,ykc _ h1]
   simp only
   rw[ymH l a2 r h2]
theorem yre:∀(l l':List (Nat×Nat×List Kd)) (a b:List (DV K)),wt (ctB l) a=true→(bdB C rg (l++l') (a++b)).1=(bdB C rg l a).1++(bdB C rg l' b).1
 | [],l',a,b,h=>by cases a with|nil=>rfl|cons x a=>simp[ctB,wt] at h
 | p::l,l',a,b,h=>by
   obtain ⟨a1,a2,rfl,h1,h2⟩:=ycX (show wt (ctVs p.2.2++ctB l) a=true from h)
   simp only[List.cons_append,bdB]
   rw[List.append_assoc,ymQ p.2.2 a1 (a2++b) h1,ymQ p.2.2 a1 a2 h1,ykc _ h1,ykc _ h1]
   simp only
   rw[yre l l' a2 b h2]
theorem yqW:∀(l l':List (Nat×Nat)) (a b:List (DV K)),wt (ctR l) a=true→bdR (l++l') (a++b)=bdR l a++bdR l' b
 | [],l',a,b,h=>by cases a with|nil=>rfl|cons x a=>simp[ctR,wt] at h
 | p ::l,l',a,b,h=>by
   cases a with
   |nil=>simp[ctR,wt] at h
   | cons x a=>
     simp only[ctR,List.map_cons,wt,Bool.and_eq_true] at h
     have ih:=yqW l l' a b h.2
     cases x with
     |l e k=>simp only[List.cons_append,bdR,ih]
     |_=>simp at h
theorem yhx:∀(l:List (Nat×Nat×List Kd)) (a:List (DV K)),wt (ctB l) a=true→(bdB C rg l a).1.map (·.1)=l.map (·.1)∧∀p∈(bdB C rg l a).1,∃k∈l,p.1=k.1∧∃x,wt (ctVs k.2.2) x=true∧p.2=some (mkBx k.2.1 k.2.2 (bdW C rg k.2.2 x).1 x)
 | [],a,_=>⟨rfl,fun p h=>by cases h⟩
 | k::l,a,h=>by
   obtain ⟨a1,a2,rfl,h3,h4⟩:=ycX (show wt (ctVs k.2.2++ctB l) a=true from h)
   obtain ⟨h1,h2⟩:=yhx l a2 h4
   have hw:=ymQ (C:=C) (rg:=rg) k.2.2 a1 a2 h3
   refine ⟨by simp only[bdB,hw,List.map_cons,h1],fun p hp=> ?_⟩
   simp only[bdB,hw] at hp
   rcases List.mem_cons.1 hp with rfl|hp
   ·exact ⟨k,List.mem_cons_self,rfl,a1,h3,by rw[ykc _ h3]⟩
   ·obtain ⟨k',e1,e2⟩:=h2 p hp
    exact ⟨k',List.mem_cons_of_mem _ e1,e2⟩
theorem ynW:∀(l:List (Nat×Nat×List Kd)) (a:List (DV K)),∀p∈(bdB C rg l a).1,∃b,p.2=some b∧isBx (some b)=true
 | [],a,p,hp=>by cases hp
 | k::l,a,p,hp=>by
   simp only[bdB] at hp
   rcases List.mem_cons.1 hp with rfl|hp
   ·exact ⟨_,rfl,yjq _ _ _ _⟩
   ·exact ynW l _ p hp
theorem yhz:∀(l:List (Nat×Nat)) (a:List (DV K)),wt (ctR l) a=true→(bdR l a).map (·.1)=l.map (·.1)∧∀p∈bdR l a,∃k∈l,p.1=k.1∧∃x,p.2=some (.row k.2 x)
 | [],a,h=>⟨by simp[bdR],fun p hp=>by simp[bdR] at hp⟩
 | k :: l,a,h=>by
   cases a with
   |nil=>simp[ctR,wt] at h
   | cons x a=>
     simp only[ctR,List.map_cons,wt,Bool.and_eq_true] at h
     obtain ⟨h1,h2⟩:=yhz l a h.2
     cases x with
     | l e k'=>
       have he:=nbeq.1 h.1
       subst he
       have hb:bdR (k::l) (.l k.2 k'::a)=(k.1,some (.row k.2 k'))::bdR l a:=by simp only[bdR,yiK,dif_pos]
       rw[hb]
       refine ⟨by simp only[List.map_cons,h1],fun p hp=> ?_⟩
       rcases List.mem_cons.1 hp with rfl|hp
       ·exact ⟨k,List.mem_cons_self,rfl,k',rfl⟩
       ·obtain ⟨k'',e1,e2⟩:=h2 p hp
        exact ⟨k'',List.mem_cons_of_mem _ e1,e2⟩
     |_=>simp at h
theorem ygn {τ:Tm} {hh:List RS} {env:List (DV K)} (h:wt (ctT τ) env=true):∃a b c,env=a++b++c∧wt (ctS τ.ks) a=true∧wt (ctB τ.bx) b=true∧wt (ctR τ.rw) c=true∧bdT C τ rg hh env=⟨(bdS C rg τ.ks a).1,(bdB C rg τ.bx b).1++bdR τ.rw c,[],rg,hh⟩:=by
 rw[ymP] at h
 obtain ⟨ab,c,rfl,h1,h3⟩:=ycX h
 obtain ⟨a,b,rfl,h1,h2⟩:=ycX h1
 refine ⟨a,b,c,rfl,h1,h2,h3,?_⟩
 unfold bdT
 rw[List.append_assoc,ymo τ.ks a (b++c) h1]
 simp only
 rw[ymH τ.bx b c h2]
theorem yht {τ:Tm} {hh:List RS} {env:List (DV K)} (h:wt (ctT τ) env=true):(bdT C τ rg hh env).od.map (·.1)=τ.bx.map (·.1)++τ.rw.map (·.1)∧
  ∀p∈(bdT C τ rg hh env).od,(∃k∈τ.bx,p.1=k.1/\∃x,wt (ctVs k.2.2) x=true/\p.2=some (mkBx k.2.1 k.2.2 (bdW C rg k.2.2 x).1 x))∨∃k∈τ.rw,p.1=k.1/\∃x,p.2=some (.row k.2 x):=by
 obtain ⟨a,b,c,_,h1,h2,h3,e⟩:=ygn (rg:=rg) (hh:=hh) (C:=C) h
 rw[e]
 obtain ⟨x1,x2⟩:=yhx (C:=C) (rg:=rg) τ.bx b h2
 obtain ⟨y1,y2⟩:=yhz τ.rw c h3
 refine ⟨by simp only[List.map_append,x1,y1],fun p hp=> ?_⟩
 rcases List.mem_append.1 hp with hp|hp
 ·exact .inl (x2 p hp)
 ·exact .inr (y2 p hp)
theorem yeb {l:List (Nat×Option (TB K))} (hn:(l.map (·.1)).Nodup) {s:Nat} {b:Option (TB K)} (h:(s,b)∈l):lkB l s=b:=by
 induction l with
 |nil=>cases h
 | cons p l ih=>
   obtain ⟨h1,h2⟩:=List.nodup_cons.1 (show (p.1::l.map (·.1)).Nodup from hn)
   rw[yaO]
   rcases List.mem_cons.1 h with rfl|h
   ·rw[if_pos rfl]
   ·rw[if_neg (fun e=>h1 (by rw[e];exact List.mem_map_of_mem (f:=(·.1)) h))];exact ih h2 h
theorem ygp {l:List (Nat×Option (TB K))} {s:Nat} {b:TB K} (h:lkB l s=some b):(s,some b)∈l:=by
 induction l with
 |nil=>cases h
 | cons p l ih=>
   rw[yaO] at h
   split at h
   ·rename_i e;rw[<-e,<-h];exact List.mem_cons_self
   ·exact List.mem_cons_of_mem _ (ih h)
theorem yvx {τ:Tm} {hh:List RS} {env:List (DV K)} (h:wt (ctT τ) env=true) (ho:TmOk τ) {s:Nat} (hs:s∈τ.rw.map (·.1)):∃e l,lkB (bdT C τ rg hh env).od s=some (.row e l):=by
 obtain ⟨h1,h2⟩:=yht (C:=C) (rg:=rg) (hh:=hh) h
 have hm:s∈(bdT C τ rg hh env).od.map (·.1):=by rw[h1];exact List.mem_append_right _ hs
 obtain ⟨p,hp,rfl⟩:=List.mem_map.1 hm
 have hl:=yeb (by rw[h1];exact ho.nd) (show (p.1,p.2)∈_ from hp)
 rcases h2 p hp with ⟨k,hk,e1,_⟩|⟨k,hk,e1,x,e2⟩
 ·refine absurd ?_ ((List.nodup_append.1 ho.nd).2.2 p.1 (by rw[e1];exact List.mem_map_of_mem (f:=(·.1)) hk) p.1 hs)
  rfl
 ·exact ⟨_,x,by rw[hl,e2]⟩
theorem yus {τ:Tm} {hh:List RS} {env:List (DV K)} (h:wt (ctT τ) env=true) (ho:TmOk τ) {s:Nat} (hs:s∈τ.bx.map (·.1)):∃b,lkB (bdT C τ rg hh env).od s=some b∧isBx (some b)=true:=by
 obtain ⟨h1,h2⟩:=yht (C:=C) (rg:=rg) (hh:=hh) h
 have hm:s∈(bdT C τ rg hh env).od.map (·.1):=by rw[h1];exact List.mem_append_left _ hs
 obtain ⟨p,hp,rfl⟩:=List.mem_map.1 hm
 have hl:=yeb (by rw[h1];exact ho.nd) (show (p.1,p.2)∈_ from hp)
 rcases h2 p hp with ⟨k,hk,e1,x,_,e2⟩|⟨k,hk,e1,_⟩
 ·exact ⟨_,by rw[hl,e2],yjq _ _ _ _⟩
 ·refine absurd ?_ ((List.nodup_append.1 ho.nd).2.2 p.1 hs p.1 (by rw[e1];exact List.mem_map_of_mem (f:=(·.1)) hk))
  rfl
theorem yoN:∀(l:List Kd) (a:List (DV K)),(bdVs C rg l a).1.length=l.length
 | [],a=>rfl
 |k::l,a=>by simp only[bdVs,List.length_cons,yoN l]
theorem ynk:∀(l:List (Nat×Kd)) (a:List (DV K)) (t:Nat),lkT (bdS C rg l a).1 t= .un∨∃p∈l,p.1=t∧∃x,lkT (bdS C rg l a).1 t=(bdV C rg p.2 x).1
 | [],a,t=> .inl rfl
 | p::l,a,t=>by
   simp only[bdS]
   rw[yb3]
   split
   ·rename_i e;exact .inr ⟨p,List.mem_cons_self,e,a,rfl⟩
   ·rcases ynk l (bdV C rg p.2 a).2 t with h|⟨q,hq,e1,x,e2⟩
    ·exact .inl h
    ·exact .inr ⟨q,List.mem_cons_of_mem _ hq,e1,x,e2⟩
end
section
variable {P:Program} {C:Cx K} {ts:TS K} {χ:Nat->Nat->Bool}
mutual
theorem ymq:∀u:TV K,ya6 u=true→alv ts u=true
 | .agg cs,h=>by simp only[ya6] at h;simp only[alv,yfi cs h]
 | .tup cs,h=>by simp only[ya6] at h;simp only[alv,yfi cs h]
 | .fn f a c,h=>by simp only[ya6,Bool.and_eq_true] at h;simp only[alv,yfi a h.1,yfi c h.2,Bool.and_self]
 | .rw _ _,h=>by simp[ya6] at h
 | .cn _ _,h=>by simp[ya6] at h
 | .it _ _,_| .bl _,_| .st _,_| .sl _ _,_| .nil,_| .un,_| .px _ _ _,_| .lb _,_| .li _ _,_| .em,_| .pr _ _ _ _ _,_| .ep _ _ _ _,_| .gs _ _,_| .nptr,_| .fv _ _ _,_| .yl _,_=>rfl
theorem yfi:∀us:List (TV K),ybx us=true→alvs ts us=true
 | [],_=>rfl
 |u::us,h=>by simp only[ybx,Bool.and_eq_true] at h;simp only[alvs,ymq u h.1,yfi us h.2,Bool.and_self]
end
theorem ytR (hC:CxOk P C) (t:Nat) (x:K t):inV C t x= .un∨ya6 (inV C t x)=true:=by
 have:=hC.nr t x
 unfold inV
 split
 ·right;simpa only[ya6] using this
 ·split
  ·rename_i v e;rw[e] at this;simp only[ybx,Bool.and_true] at this;exact .inr this
  ·exact .inl rfl
theorem ykT (hC:CxOk P C) (t:Nat) (x:K t):TR P C ts χ (inV C t x) (aT C ts χ (inV C t x)):=by
 rcases ytR hC t x with e|e
 ·rw[e];exact .un _
 ·exact (yjy hC t x).1.self hC (ymq _ e)
mutual
theorem yoi (hC:CxOk P C) (hv:ViOk ts χ) {bx rw:List Nat} (hrw:∀s,s∈rw→(tln (ts.tb s 1)).isSome=true):∀(k:Kd) (a:List (DV K)),okK bx rw k=true→TR P C ts χ (bdV C [] k a).1 (aT C ts χ (bdV C [] k a).1)
 | .it k,a,_=>by cases a with
   |nil=>exact .un _
   |cons x a=>cases x<;>first|exact .it k _|exact .un _
 | .bl,a,_=>by cases a with
   |nil=>exact .un _
   |cons x a=>cases x<;>first|exact .bl _|exact .un _
 | .st,a,_=>by cases a with
   |nil=>exact .un _
   |cons x a=>cases x<;>first|exact .st _|exact .un _
 | .sl e,a,_=>by cases a with
   |nil=>exact .un _
   | cons x a=>cases x with
     | l e' l=>
       simp only[bdV]
       split
       ·exact .sl e _ false _ _ rfl (yjl hC e _)
       ·exact .un _
     |_=>exact .un _
 | .v t,a,_=>by cases a with
   |nil=>exact .un _
   | cons x a=>cases x with
     | v t' x=>
       simp only[bdV]
       split
       ·exact ykT hC t _
       ·exact .un _
     |_=>exact .un _
 | .row s,a,h=>by
   simp only[okK] at h
   have hs:=hrw s (yf5.1 h)
   obtain ⟨n,hn⟩:=Option.isSome_iff_exists.1 hs
   have e:(bdV C [] (.row s) a).1= .rw s 1:=by cases a<;>rfl
   rw[e]
   simp only[aT,hn]
   cases hx:χ s 1 with
   | true=>
     obtain ⟨e,he⟩:=hv s 1 hx
     rw[he] at hn;cases hn
     exact .rwn s 1 (.inl rfl) (by rw[he];rfl) hx
   |false=>exact .rw s 1 n (.inl rfl) hn hx
 | .px s o,a,_=>by
   have e:(bdV C [] (.px s o) a).1= .px s 1 o:=by cases a<;>rfl
   rw[e];exact .px s 1 o (.inl rfl)
 | .kp id,a,h=>by simp[okK] at h
 | .nil,a,_=>by
   have e:(bdV C [] .nil a).1= .nil:=by cases a<;>rfl
   rw[e];exact .nil
 | .np,a,_=>by
   have e:(bdV C [] .np a).1= .nptr:=by cases a<;>rfl
   rw[e];exact .nptr
 | .un,a,_=>by
   have e:(bdV C [] .un a).1= .un:=by cases a<;>rfl
   rw[e];exact .un _
 | .agg l,a,h=>by
   simp only[okK] at h
   have:=ygq hC hv hrw l a h
   simp only[bdV,aT]
   exact .agg _ _ this.1 this.2
 | .fn f x y,a,h=>by
   simp only[okK,Bool.and_eq_true] at h
   have h1:=ygq hC hv hrw x a h.1
   have h2:=ygq hC hv hrw y (bdVs C [] x a).2 h.2
   simp only[bdV,aT]
   exact .fn f _ _ _ _ h1.1 h2.1 h1.2 h2.2
theorem ygq (hC:CxOk P C) (hv:ViOk ts χ) {bx rw:List Nat} (hrw:∀s,s∈rw→(tln (ts.tb s 1)).isSome=true):∀(l:List Kd) (a:List (DV K)),okKs bx rw l=true→TL P C ts χ (bdVs C [] l a).1 (aTs C ts χ (bdVs C [] l a).1)
 | [],a,_=> .nil
 | k::l,a,h=>by
   simp only[okKs,Bool.and_eq_true] at h
   simp only[bdVs,aTs]
   exact .cons (yoi hC hv hrw k a h.1) (ygq hC hv hrw l _ h.2)
end
theorem ytl (hC:CxOk P C) (hv:ViOk ts χ) {bx rw:List Nat} (hrw:∀s,s∈rw→(tln (ts.tb s 1)).isSome=true) (l:List Kd) (a:List (DV K)) (h:okKs bx rw l=true):TL P C ts χ (bdW C [] l a).1 (aTs C ts χ (bdW C [] l a).1):=by
 by_cases hw:∃t,l= [.v t]/\(C.T t).g=true
 ·obtain ⟨t,rfl,hg⟩:=hw
  have key:∀x:K t,TL P C ts χ ((C.T t).c x) (aTs C ts χ ((C.T t).c x)):=fun x=>by
   have:=ykT (P:=P) (ts:=ts) (χ:=χ) hC t x
   rw[show inV C t x= .agg ((C.T t).c x) by unfold inV;rw[hg]] at this
   simp only[aT] at this
   obtain ⟨vs,e,c1,c2⟩:=this.agg'
   cases e
   exact ⟨c1,c2⟩
  unfold bdW
  simp only[hg]
  split
  ·split
   ·exact key _
   ·exact .nil
  ·exact .nil
 ·rw[ym4 (fun t e=>by
   cases hg:(C.T t).g with
   |false=>rfl
   |true=>exact absurd ⟨t,e,hg⟩ hw)]
  exact ygq hC hv hrw l a h
theorem yrk (hC:CxOk P C) {l:List Kd} {a:List (DV K)} (h:wt (ctVs l) a=true) (hl:l≠ []):(bdW C [] l a).1.length≠0:=by
 by_cases hw:∃t,l= [.v t]/\(C.T t).g=true
 ·obtain ⟨t,rfl,hg⟩:=hw
  cases a with
  |nil=>simp[ctVs,ctV,wt] at h
  | cons x a=>
    cases a with
    |cons y a=>simp[ctVs,ctV,wt] at h
    | nil=>
      cases x with
      | v t' x=>
        simp only[ctVs,ctV,List.append_nil,wt,Bool.and_true] at h
        have:=nbeq.1 h;subst this
        simp only[bdW,hg,dif_pos]
        have h1:=(hC.c t x ⟨[],[],[],[],[]⟩ (fun _ _=>false)).1
        have h2:=(C.E t).len x
        have h3:=(C.E t).pos
        omega
      |_=>simp[ctVs,ctV,wt] at h
 ·rw[ym4 (fun t e=>by
   cases hg:(C.T t).g with
   |false=>rfl
   |true=>exact absurd ⟨t,e,hg⟩ hw)]
  rw[yoN]
  exact fun q=>hl (List.eq_nil_of_length_eq_zero q)
theorem yqp:∀(l:List (Nat×List Nat×List Nat)) (fs:List (FV K)) (fr:List (Nat×TV K)) (t:Nat),(∃p F,p∈l∧F∈fs∧p.1=t∧lkT (zipF l fs++fr) t= .fv p.2.1 p.2.2 F)∨lkT (zipF l fs++fr) t=lkT fr t
 | [],_,_,_=> .inr rfl
 |_::_,[],_,_=> .inr rfl
 | p::l,F::fs,fr,t=>by
   show (∃p' F',_/\_/\_/\lkT ((p.1, .fv p.2.1 p.2.2 F)::(zipF l fs++fr)) t=_)∨lkT ((p.1, .fv p.2.1 p.2.2 F)::(zipF l fs++fr)) t=_
   rw[yb3]
   split
   ·rename_i e;exact .inl ⟨p,F,List.mem_cons_self,List.mem_cons_self,e,rfl⟩
   ·rcases yqp l fs fr t with ⟨p',F',h1,h2,h3,h4⟩|h
    ·exact .inl ⟨p',F',List.mem_cons_of_mem _ h1,List.mem_cons_of_mem _ h2,h3,h4⟩
    ·exact .inr h
theorem ynU:∀(l:List AV) (i t:Nat),lkF (entF l i) t=if i≤t then (l[t-i]?).getD .un else .un
 | [],i,t=>by simp[entF,lkF]
 | u::l,i,t=>by
   show lkF ((i,u)::entF l (i+1)) t=_
   rw[ybd,ynU l (i+1) t]
   simp only
   by_cases h:i=t
   ·subst h;simp
   ·rw[if_neg h]
    by_cases h2:i<=t
    ·rw[if_pos h2,if_pos (by omega),show t-i=(t-(i+1))+1 by omega,List.getElem?_cons_succ]
    ·rw[if_neg h2,if_neg (by omega)]
def okS (sp:Sl K) (env:List (DV K)):Bool:=okN sp&&wt (ctT sp.ti) env
theorem ymC {sp:Sl K} {env:List (DV K)} (h:okS sp env=true):TmOk sp.ti∧TmOk sp.to∧(∀s∈sp.ti.bx.map (·.1)++sp.ti.rw.map (·.1),2000000≤s)∧(∀p∈sp.fs,p.1<npL sp)∧(∀p∈sp.ti.ks,p.1<npL sp)∧wt (ctT sp.ti) env=true:=by
 simp only[okS,okN,Bool.and_eq_true] at h
 obtain ⟨⟨⟨⟨⟨⟨⟨h1,h2⟩,h3⟩,_⟩,_⟩,h4⟩,h5⟩,h6⟩:=h
 exact ⟨yrV h1,yrV h2,fun s hs=>Nat.le_of_ble_eq_true (List.all_eq_true.1 h3 s hs),fun p hp=>Nat.le_of_ble_eq_true (List.all_eq_true.1 h4 p hp),fun p hp=>Nat.le_of_ble_eq_true (List.all_eq_true.1 h5 p hp),h6⟩
theorem ywP (hC:CxOk P C) {sp:Sl K} {fs:List (FV K)} {env:List (DV K)} (hE:okS sp env=true) (hfs:∀F∈fs,FOk P C F) (hv:ViOk (entL C sp fs env) χ) {R:RR K} {H:Hp} {n:Nat} (hR:R [] H n) (hL:R.L=fun s=>χ s 1):
  GM P C R (entL C sp fs env) χ (ofK ⟨entF (argT C sp (entL C sp fs env) χ) 0,memK C (entL C sp fs env) χ,H,n⟩)/\KOk ⟨entF (argT C sp (entL C sp fs env) χ) 0,memK C (entL C sp fs env) χ,H,n⟩/\∀d b,lkM (memK C (entL C sp fs env) χ) d=some b->2000000<=d:=by
 obtain ⟨o1,_,o3,o4,o5,o6⟩:=ymC hE
 obtain ⟨n1,n2⟩:=yht (C:=C) (rg:= []) (hh:= []) o6
 have hrw:∀s,s∈sp.ti.rw.map (·.1)→(tln ((entL C sp fs env).tb s 1)).isSome=true:=fun s hs=>by
  obtain ⟨e,l,hl⟩:=yvx (C:=C) (rg:= []) (hh:= []) o6 o1 hs
  show (tln (lkB (bdT C sp.ti [] [] env).od s)).isSome=true
  rw[hl];rfl
 obtain ⟨a,b,c,_,w1,w2,w3,we⟩:=ygn (rg:= []) (hh:= []) (C:=C) o6
 have hfr:∀t,TR P C (entL C sp fs env) χ (lkT (entL C sp fs env).fr t) (aT C (entL C sp fs env) χ (lkT (entL C sp fs env).fr t))∧(npL sp≤t→lkT (entL C sp fs env).fr t= .un):=by
  intro t
  rcases yqp sp.fs fs (bdT C sp.ti [] [] env).fr t with ⟨p,F,a1,a2,a3,a4⟩|a1
  ·rw[show lkT (entL C sp fs env).fr t= .fv p.2.1 p.2.2 F from a4]
   refine ⟨.fv _ _ _ _ (hfs F a2) (hfs F a2).2.1,fun q=> ?_⟩
   have:=o4 p a1
   omega
  ·rw[show lkT (entL C sp fs env).fr t=lkT (bdT C sp.ti [] [] env).fr t from a1]
   rw[we]
   rcases ynk (C:=C) (rg:= []) sp.ti.ks a t with e|⟨p,hp,e1,x,e2⟩
   ·rw[e];exact ⟨.un _,fun _=>rfl⟩
   ·rw[e2]
    refine ⟨yoi hC hv hrw p.2 x (o1.ks p hp),fun q=> ?_⟩
    have:=o5 p hp
    omega
 have hmem:∀d b,lkM (memK C (entL C sp fs env) χ) d=some b→∃b0,lkB (entL C sp fs env).od d=some b0∧χ d 1=false∧b=kbT C (entL C sp fs env) χ d:=by
  intro d b hb
  rw[ynN] at hb
  split at hb
  ·rename_i hc
   simp only[Bool.and_eq_true,Bool.not_eq_true'] at hc
   obtain ⟨b0,hb0⟩:=Option.isSome_iff_exists.1 hc.1
   exact ⟨b0,hb0,hc.2,(Option.some.inj hb).symm⟩
  ·cases hb
 have hent:∀s b,lkB (entL C sp fs env).od s=some b→s∈sp.ti.bx.map (·.1)++sp.ti.rw.map (·.1)∧((∃e l x,okKs (sp.ti.bx.map (·.1)) (sp.ti.rw.map (·.1)) l=true∧(l≠ []∧wt (ctVs l) x=true)∧b=mkBx e l (bdW C [] l x).1 x)∨∃e l,b= .row e l):=by
  intro s b hb
  have hm:=ygp (show lkB (bdT C sp.ti [] [] env).od s=some b from hb)
  refine ⟨by rw[<-n1];exact List.mem_map_of_mem (f:=(·.1)) hm,?_⟩
  rcases n2 _ hm with ⟨k,hk,_,x,ew,e2⟩|⟨k,hk,_,x,e2⟩
  ·exact .inl ⟨_,_,x,(o1.bx k hk).1,⟨(o1.bx k hk).2,ew⟩,Option.some.inj e2⟩
  ·exact .inr ⟨_,_,Option.some.inj e2⟩
 refine ⟨⟨fun t=> ?_,fun s c b hb hx=> ?_,hv,fun s _=>rfl,?_,fun s b _ _=>by rw[hL]⟩,fun d b hb=> ?_,fun d b hb=> ?_⟩
 ·show TR P C _ χ _ (lkF (entF (argT C sp (entL C sp fs env) χ) 0) t)
  rw[ynU,if_pos (Nat.zero_le _),Nat.sub_zero]
  unfold argT
  rw[List.getElem?_map]
  by_cases ht:t<npL sp
  ·rw[List.getElem?_range ht];exact (hfr t).1
  ·rw[List.getElem?_eq_none (by simp;omega),(hfr t).2 (by omega)];exact .un _
 ·rcases tb_c hb with rfl|rfl
  ·have hb':lkB (entL C sp fs env).od s=some b:=hb
   refine ⟨kbT C (entL C sp fs env) χ s,?_,?_⟩
   ·show lkO (ym2 (memK C (entL C sp fs env) χ)) s=_
    rw[ygW,ynN,if_pos (by rw[hb',hx];rfl)]
   ·have hk:kbT C (entL C sp fs env) χ s=⟨(bT C (entL C sp fs env) χ b).e,(bT C (entL C sp fs env) χ b).sz,(bT C (entL C sp fs env) χ b).cells,false⟩:=by unfold kbT;rw[hb']
    rw[hk]
    rcases (hent s b hb').2 with ⟨e,l,x,h1,_,rfl⟩|⟨e,l,rfl⟩
    ·rcases ycl e l (bdW C [] l x).1 x with q|⟨t,y,q0,q⟩
     ·rw[q]
      obtain ⟨q1,q2⟩:=ytl hC hv hrw l x h1
      exact ⟨rfl,rfl,q1,q2⟩
     ·rw[q]
      exact ⟨rfl,q0,rfl,hC.rc t y,(C.E t).no y,hC.dw t y⟩
    ·exact ⟨rfl,rfl,yjl hC e l⟩
  ·cases hb
 ·exact hR
 ·obtain ⟨b0,e1,e2,rfl⟩:=hmem d b hb
  unfold kbT
  rw[e1]
  refine ⟨?_,fun q=>by cases q⟩
  rcases (hent d b0 e1).2 with ⟨e,l,x,h1,h2,rfl⟩|⟨e,l,rfl⟩
  ·rcases ycl e l (bdW C [] l x).1 x with q|⟨t,y,q0,q⟩
   ·rw[q]
    have:=yrk hC h2.2 h2.1
    exact .inl (by simp only[bT];exact this)
   ·rw[q]
    refine .inr ⟨?_,hC.rc t y⟩
    show (0==0&&decide (1000000<=e))=true
    simpa using q0
  ·have:=(C.E e).pos;exact .inl (by simp only[bT];omega)
 ·obtain ⟨b0,e1,_,_⟩:=hmem d b hb
  exact o3 d (hent d b0 e1).1
end
end Go.AV
end
noncomputable section
namespace Go.AV
open Go.RowKit Go.RG Go.Lib
variable {K:Nat->Type}
def rhoM (χ:Nat→Nat→Bool) (M:RM) (s:Nat):Option (Nat×Nat):=match lkA M.b s with
 |some k=>some k
 | none=>match lkA M.r s with
   |some (some k)=>if χ k.1 k.2=true then none else some k
   |_=>none
def xiM (χ:Nat→Nat→Bool) (M:RM) (s:Nat):Bool:=match lkA M.b s with
 |some _=>false
 | none=>match lkA M.r s with
   |some none=>true
   |some (some k)=>χ k.1 k.2
   |none=>false
section
variable {P:Program} {C:Cx K} {R:RR K} {ts ts1:TS K} {χ:Nat->Nat->Bool} {ξ:Nat->Bool} {ds:DS} {B:Base} {N:Nat} {ρ:Nat->Option (Nat×Nat)} {p:Nat×Nat->Prop} {rg:List (Nat×TV K)}
theorem ytE (hC:CxOk P C) (hx:ExtR rg ts.rg) {τ:Tm} {env:List (DV K)} {M1:RM} (h:rdM C τ ts=some (env,M1)) (hh:List RS) (hγ:GM P C R ts χ ds):
  (∀s k,rhoM χ M1 s=some k->χ k.1 k.2=false/\∃b b1,ts.tb k.1 k.2=some b/\lkB (bdT C τ rg hh env).od s=some b1/\BM P C ts (bdT C τ rg hh env) χ (xiM χ M1) ds (rhoM χ M1) (fun _=>False) b b1)/\
  (∀s b1,lkB (bdT C τ rg hh env).od s=some b1->xiM χ M1 s=false->∃k,rhoM χ M1 s=some k)/\(∀s,xiM χ M1 s=true->rhoM χ M1 s=none/\∃e,lkB (bdT C τ rg hh env).od s=some (.row e []))/\
  (∀s s' k,rhoM χ M1 s=some k->rhoM χ M1 s'=some k->s=s')/\∀t,TM P C ts (bdT C τ rg hh env) χ (xiM χ M1) ds (rhoM χ M1) (fun _=>False) (lkT ts.fr t) (lkT (bdT C τ rg hh env).fr t):=by
 unfold rdM at h
 split at h
 rotate_left
 ·cases h
 rename_i a m1 h1
 split at h
 rotate_left
 ·cases h
 rename_i b M h2
 split at h
 rotate_left
 ·cases h
 rename_i c h3 h4
 simp only[Option.some.injEq,Prod.mk.injEq] at h
 obtain ⟨rfl,rfl⟩:=h
 simp only[Bool.and_eq_true] at h4
 obtain ⟨hnod,hdom⟩:=h4
 simp only[yrP,Bool.and_eq_true] at hdom
 obtain ⟨⟨hdb,hdr⟩,hdis⟩:=hdom
 have hnod:=yi3 hnod
 obtain ⟨nr,nb,ndis⟩:=List.nodup_append.1 hnod
 let ρ:Nat->Option (Nat×Nat):=rhoM χ M
 let ξ:Nat->Bool:=xiM χ M
 obtain ⟨rb,gb1,gb2⟩:=yoW τ.rw c h3|>fun x=>(⟨rfl,x.1,x.2⟩:(bdR τ.rw c=bdR τ.rw c)/\_/\_)
 have hbname:∀s k,lkA M.b s=some k->τ.bx.any (fun q=>Nat.beq q.1 s)=true:=fun s k hs=>yek hs hdb
 have hrname:∀s k,lkA M.r s=some k->τ.rw.any (fun q=>Nat.beq q.1 s)=true:=fun s k hs=>yek hs hdr
 have hapart:∀s,τ.bx.any (fun q=>Nat.beq q.1 s)=true→τ.rw.any (fun q=>Nat.beq q.1 s)=true→False:=by
  intro s q1 q2
  obtain ⟨x,hx1,hx2⟩:=List.any_eq_true.1 q1
  obtain ⟨y,hy1,hy2⟩:=List.any_eq_true.1 q2
  have:=List.all_eq_true.1 (List.all_eq_true.1 hdis x hx1) y hy1
  rw[nbeq.1 hx2,nbeq.1 hy2,nbeq.2 rfl] at this;cases this
 have hbr:∀s k k',lkA M.b s=some k->lkA M.r s=some k'->False:=fun s k k' q1 q2=>hapart s (hbname s k q1) (hrname s k' q2)
 have hρb:∀s k,lkA M.b s=some k→ρ s=some k:=by
  intro s k hs
  show (match lkA M.b s with|some k=>some k|none=>_)=_
  rw[hs]
 have hρr:∀s k,lkA M.r s=some (some k)→ρ s=(if χ k.1 k.2=true then none else some k)∧ξ s=χ k.1 k.2:=by
  intro s k hs
  have hn:lkA M.b s=none:=by
   cases hq:lkA M.b s with
   |none=>rfl
   |some k'=>exact (hbr s k' _ hq hs).elim
  constructor
  ·show (match lkA M.b s with|some k=>some k|none=>match lkA M.r s with|some (some k)=>if χ k.1 k.2=true then none else some k|_=>none)=_
   rw[hn,hs]
  ·show (match lkA M.b s with|some _=>false|none=>match lkA M.r s with|some none=>true|some (some k)=>χ k.1 k.2|none=>false)=_
   rw[hn,hs]
 have hξn:∀s,lkA M.r s=some none→ρ s=none∧ξ s=true:=by
  intro s hs
  have hn:lkA M.b s=none:=by
   cases hq:lkA M.b s with
   |none=>rfl
   |some k'=>exact (hbr s k' _ hq hs).elim
  constructor
  ·show (match lkA M.b s with|some k=>some k|none=>match lkA M.r s with|some (some k)=>if χ k.1 k.2=true then none else some k|_=>none)=_
   rw[hn,hs]
  ·show (match lkA M.b s with|some _=>false|none=>match lkA M.r s with|some none=>true|some (some k)=>χ k.1 k.2|none=>false)=_
   rw[hn,hs]
 have hρi:∀s k,ρ s=some k→(lkA M.b s=some k)∨(lkA M.r s=some (some k)∧χ k.1 k.2=false):=by
  intro s k hs
  have hs':(match lkA M.b s with|some k=>some k|none=>match lkA M.r s with|some (some k)=>if χ k.1 k.2=true then none else some k|_=>none)=some k:=hs
  split at hs'
  ·rename_i k' e;cases hs';exact .inl e
  ·split at hs'
   ·rename_i k' e
    split at hs'
    ·cases hs'
    ·rename_i hx';cases hs';exact .inr ⟨e,by simpa using hx'⟩
   ·cases hs'
 let tsS:TS K:=bdT C τ rg hh (a++b++c)
 obtain ⟨sub1,t1⟩:=ypL (P:=P) (ts1:=tsS) (χ:=χ) (ξ:=ξ) (ρ:=ρ) (ds:=ds) (p:=fun _=>False) hC hx τ.ks ⟨[],[]⟩ m1 a h1
 obtain ⟨sub2,t2⟩:=ym0 (P:=P) (ts1:=tsS) (χ:=χ) (ξ:=ξ) (ρ:=ρ) (ds:=ds) (p:=fun _=>False) hC hx τ.bx m1 M b h2
 obtain ⟨fr1,e1,f1⟩:=t1 (b++c)
 obtain ⟨od1,e2,g2,f2⟩:=t2 c
 have hS:tsS=⟨fr1,od1++bdR τ.rw c,[],rg,hh⟩:=by
  show bdT C τ rg hh (a++b++c)=_
  unfold bdT
  rw[List.append_assoc,e1]
  simp only
  rw[e2]
 have hlk:∀s,lkB tsS.od s=if memB od1 s=true then lkB od1 s else lkB (bdR τ.rw c) s:=by
  intro s;rw[hS];exact ynP _ _ s
 have hrowlk:∀s,τ.rw.any (fun q=>Nat.beq q.1 s)=true→lkB tsS.od s=lkB (bdR τ.rw c) s:=by
  intro s hs
  rw[hlk,if_neg]
  intro hm
  rw[g2] at hm
  exact hapart s hm hs
 have hGood:Good (rg:=rg) ts tsS χ ξ ρ M:=by
  refine ⟨?_,?_,?_,hρb,by rw[hS]⟩
  ·intro s k hs n hn
   obtain ⟨r1,r2⟩:=hρr s k hs
   have hnm:=hrname s _ hs
   obtain ⟨e,⟨q1,_⟩|⟨q,l',q1,q2,q3⟩⟩:=gb2 s (by rw[gb1];exact hnm)
   ·rw[hs] at q1;cases q1
   ·rw[hs] at q1;cases q1
    refine ⟨?_,fun hx'=>⟨by rw[r1,hx'];rfl,by rw[r2,hx']⟩,fun hx'=>by rw[r2,hx']⟩
    show tln (lkB tsS.od s)=_
    rw[hrowlk s hnm,q3]
    rw[(hγ.trow hC q2).1] at hn
    exact hn
  ·intro s k hs
   obtain ⟨e,⟨q1,_⟩|⟨q,l',q1,q2,q3⟩⟩:=gb2 s (by rw[gb1];exact hrname s _ hs)
   ·rw[hs] at q1;cases q1
   ·rw[hs] at q1;cases q1
    exact ⟨_,(hγ.trow hC q2).1⟩
  ·intro s hs
   obtain ⟨r1,r2⟩:=hξn s hs
   refine ⟨?_,r2⟩
   have hnm:=hrname s _ hs
   obtain ⟨e,⟨q1,q3⟩|⟨q,l',q1,q2,q3⟩⟩:=gb2 s (by rw[gb1];exact hnm)
   ·show tln (lkB tsS.od s)=_
    rw[hrowlk s hnm,q3];rfl
   ·rw[hs] at q1;cases q1
 show (∀s k,ρ s=some k→χ k.1 k.2=false∧∃b b1,ts.tb k.1 k.2=some b∧lkB tsS.od s=some b1∧BM P C ts tsS χ ξ ds ρ (fun _=>False) b b1)∧(∀s b1,lkB tsS.od s=some b1→ξ s=false→∃k,ρ s=some k)∧(∀s,ξ s=true→ρ s=none∧∃e,lkB tsS.od s=some (.row e []))∧
  (∀s s' k,ρ s=some k->ρ s'=some k->s=s')/\∀t,TM P C ts tsS χ ξ ds ρ (fun _=>False) (lkT ts.fr t) (lkT tsS.fr t)
 refine ⟨?_,?_,?_,?_,?_⟩
 ·intro s k hs
  rcases hρi s k hs with hb|⟨hr,hx'⟩
  ·have hm:memB od1 s=true:=by rw[g2];exact hbname s k hb
   obtain ⟨q,b,b1,q1,q2,qx,q3,q4⟩:=f2 s hm
   rw[hb] at q1;cases q1
   exact ⟨hγ.bx q2 qx,_,_,q2,by rw[hlk,if_pos hm];exact q3,q4 hGood⟩
  ·have hnm:=hrname s _ hr
   obtain ⟨e,⟨q1,_⟩|⟨q,l',q1,q2,q3⟩⟩:=gb2 s (by rw[gb1];exact hnm)
   ·rw[hr] at q1;cases q1
   ·rw[hr] at q1;cases q1
    refine ⟨hx',?_⟩
    have q3':lkB tsS.od s=some (.row e l'):=by rw[hrowlk s hnm];exact q3
    unfold trow at q2
    split at q2
    ·rename_i e' l0 hb
     obtain ⟨rfl,rfl⟩:=yd9 q2
     exact ⟨_,_,hb,q3',BM.row⟩
    ·rename_i e' n cs hb
     split at q2
     ·rename_i he
      have:=nbeq.1 he;subst this
      exact ⟨_,_,hb,q3',BM.lr hC q2⟩
     ·cases q2
    ·cases q2
 ·intro s b1 hs hxx
  rw[hlk] at hs
  by_cases hm:memB od1 s=true
  ·obtain ⟨q,b0,b2,q1,_⟩:=f2 s hm
   exact ⟨q,hρb s q q1⟩
  ·rw[if_neg hm] at hs
   have hm2:=yfN hs
   obtain ⟨e,⟨q1,_⟩|⟨q,l',q1,q2,q3⟩⟩:=gb2 s hm2
   ·rw[(hξn s q1).2] at hxx;cases hxx
   ·obtain ⟨r1,r2⟩:=hρr s q q1
    rw[r2] at hxx
    exact ⟨q,by rw[r1,hxx];rfl⟩
 ·intro s hs
  have hs':(match lkA M.b s with|some _=>false|none=>match lkA M.r s with|some none=>true|some (some k)=>χ k.1 k.2|none=>false)=true:=hs
  split at hs'
  ·cases hs'
  ·split at hs'
   ·rename_i hr
    obtain ⟨r1,r2⟩:=hξn s hr
    refine ⟨r1,?_⟩
    have hnm:=hrname s _ hr
    obtain ⟨e,⟨q1,q3⟩|⟨q,l',q1,q2,q3⟩⟩:=gb2 s (by rw[gb1];exact hnm)
    ·exact ⟨e,by rw[hrowlk s hnm];exact q3⟩
    ·rw[hr] at q1;cases q1
   ·rename_i k hr
    obtain ⟨r1,r2⟩:=hρr s k hr
    refine ⟨by rw[r1,if_pos hs'],?_⟩
    have hnm:=hrname s _ hr
    obtain ⟨e,⟨q1,q3⟩|⟨q,l',q1,q2,q3⟩⟩:=gb2 s (by rw[gb1];exact hnm)
    ·rw[hr] at q1;cases q1
    ·rw[hr] at q1;cases q1
     have:=(hγ.trow hC q2).2.1 hs'
     subst this
     exact ⟨e,by rw[hrowlk s hnm];exact q3⟩
   ·cases hs'
 ·intro s s' k hs hs'
  rcases hρi s k hs with q1|⟨q1,_⟩<;>rcases hρi s' k hs' with q2|⟨q2,_⟩
  ·exact yiX nb q1 q2
  ·exact absurd rfl (ndis k (ydW q2) k (ydV q1))
  ·exact absurd rfl (ndis k (ydW q1) k (ydV q2))
  ·exact yhO nr q1 q2
 ·intro t
  have:=f1 (hGood.sub sub2) t
  rw[hS];rw[hS] at this
  exact this
end
theorem RV.vw {ρ:Nat→Option (Nat×Nat)} {S:St} {f:Nat→Nat→Option K2} (hf:∀d k,ρ d=some k→f k.1 k.2=some (d,1)) {u v:AV} (h:RV ρ S (fun _=>False) u v):VW (reA f v) u:=by
 have hL:∀ {us vs:List AV},us.length=vs.length→(∀(j:Nat) (u v:AV),us[j]? =some u→vs[j]? =some v→VW (reA f v) u)→VWs (reAs f vs) us:=by
  intro us vs hl hh
  refine ⟨by rw[ydN];exact hl.symm,fun j a b p q=> ?_⟩
  obtain ⟨w,e1,rfl⟩:=ygo p
  exact hh j b w q e1
 induction h with
 |no u h=>rw[ylG f u h];exact VW.refl _
 |un v=>exact VW.un _
 |gs d n k h=>simp only[reA,hf d k h];exact VW.refl _
 |pt d off k h=>simp only[reA,hf d k h];exact VW.refl _
 |pub k n b hp=>exact hp.elim
 |nil=>exact VW.dwk (.sl true 0 [])
 | ep xs off w=>
   intro G x hx
   obtain ⟨b,base,g,e,a1,a2,a3,a4,a5⟩:=VR.ep_inv (show VR G (.ep xs off) x from hx)
   rw[e,show base+off=(base+off)+0 from rfl]
   have hsub:∀(j:Nat) (u:AV),((xs.drop off).take w)[j]? =some u→xs[off+j]? =some u:=by
    intro j u hu
    simp only[List.getElem?_take,List.getElem?_drop] at hu
    split at hu
    ·exact hu
    ·cases hu
   refine .ep _ 0 b (base+off) (fun j=>g (off+j)) a1 ?_ ?_ ?_ (ylb (fun u hu=>List.mem_of_mem_drop (List.mem_of_mem_take hu)) a5)
   ·intro j u hu;have:=a2 _ u (hsub j u hu);rw[Nat.add_assoc];exact this
   ·intro j u hu;exact a3 _ u (hsub j u hu)
   ·intro j u hu;exact a4 _ u (hsub j u hu)
 |agg us vs hl h ih=>simp only[reA];exact VW.agg (hL hl ih)
 |tup us vs hl h ih=>simp only[reA];exact VW.tup (hL hl ih)
 |fn g us vs us' vs' hl h hl' h' ih ih'=>simp only[reA];exact VW.fn (hL hl ih) (hL hl' ih')
def innM {β:Type} (g:Nat->Option K2) (l:List (Nat×β)):List (Nat×K2):=l.filterMap fun p=>(g p.1).map fun k=>(p.1,k)
theorem ydR {β:Type} {g:Nat→Option K2} {l:List (Nat×β)} {s:Nat} {k:K2}:(s,k)∈innM g l↔g s=some k∧s∈l.map (·.1):=by
 unfold innM
 rw[List.mem_filterMap]
 constructor
 ·rintro ⟨p,hp,h⟩
  obtain ⟨k',e1,e2⟩:=Option.map_eq_some_iff.1 h
  cases e2
  exact ⟨e1,List.mem_map_of_mem hp⟩
 ·rintro ⟨h,hm⟩
  obtain ⟨p,hp,rfl⟩:=List.mem_map.1 hm
  exact ⟨p,hp,by rw[h];rfl⟩
theorem ylz {β:Type} {g:Nat→Option K2}:∀ {l:List (Nat×β)},(l.map (·.1)).Nodup→((innM g l).map (·.1)).Nodup
 | [],_=>List.nodup_nil
 | p ::l,h=>by
   obtain ⟨h1,h2⟩:=List.nodup_cons.1 (show (p.1::l.map (·.1)).Nodup from h)
   have ih:=ylz (g:=g) h2
   unfold innM
   rw[List.filterMap_cons]
   cases hg:g p.1 with
   |none=>exact ih
   | some k=>
     simp only[Option.map_some,List.map_cons]
     refine List.nodup_cons.2 ⟨fun hm=> ?_,ih⟩
     obtain ⟨q,hq,e⟩:=List.mem_map.1 hm
     have:=(ydR.1 (show (q.1,q.2)∈innM g l from hq)).2
     rw[e] at this;exact h1 this
theorem yls {β:Type} {g:Nat→Option K2} (inj:∀s s' k,g s=some k→g s'=some k→s=s'):∀ {l:List (Nat×β)},(l.map (·.1)).Nodup→((innM g l).map (·.2)).Nodup
 | [],_=>List.nodup_nil
 | p ::l,h=>by
   obtain ⟨h1,h2⟩:=List.nodup_cons.1 (show (p.1::l.map (·.1)).Nodup from h)
   have ih:=yls inj h2
   unfold innM
   rw[List.filterMap_cons]
   cases hg:g p.1 with
   |none=>exact ih
   | some k=>
     simp only[Option.map_some,List.map_cons]
     refine List.nodup_cons.2 ⟨fun hm=> ?_,ih⟩
     obtain ⟨q,hq,e⟩:=List.mem_map.1 hm
     obtain ⟨a,b⟩:=ydR.1 (show (q.1,q.2)∈innM g l from hq)
     have:=inj q.1 p.1 k (by rw[a,e]) hg
     rw[this] at b;exact h1 b
theorem yqo {α β:Type} [DecidableEq α] {l:List (α×β)} (hn:(l.map (·.1)).Nodup) {a:α} {b:β} (h:(a,b)∈l):lkE l a=some b:=by
 induction l with
 |nil=>cases h
 | cons p l ih=>
   obtain ⟨h1,h2⟩:=List.nodup_cons.1 (show (p.1::l.map (·.1)).Nodup from hn)
   simp only[lkE]
   rcases List.mem_cons.1 h with rfl|h
   ·rw[if_pos rfl]
   ·rw[if_neg (fun e=>h1 (by rw[e];exact List.mem_map_of_mem (f:=(·.1)) h))];exact ih h2 h
theorem yrZ {α β:Type} [DecidableEq β] {l:List (α×β)} (hn:(l.map (·.2)).Nodup) {a:α} {b:β} (h:(a,b)∈l):lkZ l b=some a:=by
 induction l with
 |nil=>cases h
 | cons p l ih=>
   obtain ⟨h1,h2⟩:=List.nodup_cons.1 (show (p.2::l.map (·.2)).Nodup from hn)
   simp only[lkZ]
   rcases List.mem_cons.1 h with rfl|h
   ·rw[if_pos rfl]
   ·rw[if_neg (fun e=>h1 (by rw[e];exact List.mem_map_of_mem (f:=(·.2)) h))];exact ih h2 h
mutual
theorem yuG {C:Cx K} {ts ts':TS K} {χ:Nat→Nat→Bool} (h:∀s c,ts.tb s c=ts'.tb s c):∀u:TV K,aT C ts χ u=aT C ts' χ u
 | .rw s c=>by simp only[aT,h]
 | .agg cs=>by simp only[aT,ykE h cs]
 | .tup cs=>by simp only[aT,ykE h cs]
 | .fn f a c=>by simp only[aT,ykE h a,ykE h c]
 | .cn _ v=>by simp only[aT,yuG h v]
 | .it _ _| .bl _| .st _| .sl _ _| .nil| .un| .px _ _ _| .lb _| .li _ _| .em| .pr _ _ _ _ _| .ep _ _ _ _| .gs _ _| .nptr| .fv _ _ _| .yl _=>by simp only[aT]
theorem ykE {C:Cx K} {ts ts':TS K} {χ:Nat→Nat→Bool} (h:∀s c,ts.tb s c=ts'.tb s c):∀us:List (TV K),aTs C ts χ us=aTs C ts' χ us
 | []=>rfl
 |u::us=>by simp only[aTs,yuG h u,ykE h us]
end
theorem yrO {K:Nat→Type}:∀ {l:List (Nat×Option (TB K))} {s:Nat},memB l s=true→s∈l.map (·.1)
 | [],_,h=>by cases h
 | p::l,s,h=>by
   have h':(Nat.beq p.1 s||memB l s)=true:=h
   simp only[Bool.or_eq_true] at h'
   rcases h' with h1|h1
   ·rw[<-nbeq.1 h1];exact List.mem_cons_self
   ·exact List.mem_cons_of_mem _ (yrO h1)
theorem BW.trans {a b c:Option Blk} (h:BW a b) (k:BW b c):BW a c:=by
 cases a with
 | none=>cases b with
   |none=>exact k
   |some b=>exact h.elim
 | some a=>cases b with
   |none=>exact h.elim
   | some b=>cases c with
     |none=>exact k.elim
     | some c=>
       rcases h with ⟨a1,a2,a3,a4,a5⟩|⟨a1,a2,a3,a4,a5,a6⟩
       ·rcases k with ⟨b1,b2,b3,b4,b5⟩|⟨b1,_⟩
        ·refine .inl ⟨a1,b2.trans a2,b3.trans a3,a4.trans b4,fun j u v p q=> ?_⟩
         have hj:j<b.cells.length:=by rw[b4];exact (List.getElem?_eq_some_iff.1 q).1
         exact (a5 j u _ p (List.getElem?_eq_getElem hj)).trans (b5 j _ v (List.getElem?_eq_getElem hj) q)
        ·exact absurd (a2.symm.trans (yg9 b1)) a1
       ·rcases k with ⟨b1,_⟩|⟨_,_,b3,b4,b5,b6⟩
        ·exact absurd (a3.trans (yg9 a1)) b1
        ·exact .inr ⟨a1,a2,b3.trans a3,b4.trans a4,b5,b6.trans a6⟩
section
variable {P:Program} {C:Cx K} {R:RR K} {ts:TS K} {χ:Nat->Nat->Bool} {ds:DS}
theorem yjG:∀ {us:List (TV K)} {vs:List AV} (i t:Nat),TL P C ts χ us vs→TR P C ts χ (lkT (zipT us i) t) (lkF (entF vs i) t)
 | [],vs,i,t,_=> .un _
 |u::us,[],i,t,h=>by have:=h.1;simp at this
 | u::us,v::vs,i,t,h=>by
   show TR P C ts χ (lkT ((i,u)::zipT us (i+1)) t) (lkF ((i,v)::entF vs (i+1)) t)
   rw[yb3,ybd]
   simp only
   split
   ·exact h.head.1
   ·exact yjG (i+1) t h.head.2
theorem ypb {Φ:List (Sp K)} {fr fr':List (Nat×TV K)}:∀ {l:List (Nat×List Nat×List Nat)} {fs:List (FV K)} (t:Nat),ymj C Φ fr l=some fs→lkT (zipF l fs++fr') t=lkT fr' t∨∃ps rs F,lkT (zipF l fs++fr') t= .fv ps rs F∧F∈fs∧yqq C Φ (.f ps rs) (lkT fr t)=some (.f F)
 | [],fs,t,h=>by cases h;exact .inl rfl
 | p ::l,fs,t,h=>by
   simp only[ymj] at h
   split at h
   ·rename_i F fs' h1 h2
    cases h
    show lkT ((p.1, .fv p.2.1 p.2.2 F)::(zipF l fs'++fr')) t=_∨∃ps rs F',lkT ((p.1, .fv p.2.1 p.2.2 F)::(zipF l fs'++fr')) t=_/\_/\_
    rw[yb3]
    split
    ·rename_i e;subst e;exact .inr ⟨_,_,F,rfl,List.mem_cons_self,h1⟩
    ·rcases ypb t h2 with e|⟨ps,rs,F',e1,e2,e3⟩
     ·exact .inl e
     ·exact .inr ⟨ps,rs,F',e1,List.mem_cons_of_mem _ e2,e3⟩
   ·cases h
theorem ysi (hC:CxOk P C) (hγ:GM P C R ts χ ds) (hk:DOk ds) {sp:Sl K} {us:List (TV K)} {vs:List AV} {env:List (DV K)} {M:RM} {fs:List (FV K)} (ht:TL P C ts χ us vs)
  (h:rdM C sp.ti ⟨zipT us 0,ts.od,ts.nw,ts.rg,ts.h⟩=some (env,M)) (hn:((entL C sp fs env).od.map (·.1)).Nodup) (h2:∀s∈(entL C sp fs env).od.map (·.1),2000000<=s):
  ViOk (entL C sp fs env) (χ1 (xiM χ M))/\yju (innM (rhoM χ M) (entL C sp fs env).od) (toD ds).M/\
  (∀d,BW (memL (innM (rhoM χ M) (entL C sp fs env).od) (toD ds).M d) (memT C (entL C sp fs env) (χ1 (xiM χ M)) d))/\
  (∀d k,rhoM χ M d=some k->finL (innM (rhoM χ M) (entL C sp fs env).od) k.1 k.2=some (d,1))/\
  ∀t,VW (reA (finL (innM (rhoM χ M) (entL C sp fs env).od)) (lkF (entF vs 0) t)) (aT C (entL C sp fs env) (χ1 (xiM χ M)) (lkT (bdT C sp.ti [] [] env).fr t)):=by
 have hm:Mono ts ⟨zipT us 0,ts.od,ts.nw,ts.rg,ts.h⟩ χ χ:=⟨fun _ _ q=>q,fun _ _ q=>q,fun _ _ _=> .inr ⟨rfl,rfl⟩⟩
 have hA:GM P C R ⟨zipT us 0,ts.od,ts.nw,ts.rg,ts.h⟩ χ {ds with fr:=entF vs 0}:=
  ⟨fun t=>(yjG 0 t ht).mono hm,fun s c b hb hx=>by obtain ⟨kb,a,b⟩:=hγ.mb s c b hb hx;exact ⟨kb,a,b.mono hm⟩,hγ.vi,hγ.nw,hγ.hp,hγ.lv⟩
 obtain ⟨r1,r2,r3,r4,r5⟩:=ytE hC (rg:= []) (fun id w q=>by cases q) h [] hA
 have hod:(entL C sp fs env).od=(bdT C sp.ti [] [] env).od:=rfl
 have htb:∀s c,(bdT C sp.ti [] [] env).tb s c=(entL C sp fs env).tb s c:=fun s c=>rfl
 have hnm:∀s k,rhoM χ M s=some k→s∈(entL C sp fs env).od.map (·.1):=fun s k hs=>by
  obtain ⟨_,b,b1,_,e,_⟩:=r1 s k hs
  exact yrO (yfN e)
 have hin:∀d k,rhoM χ M d=some k→finL (innM (rhoM χ M) (entL C sp fs env).od) k.1 k.2=some (d,1):=fun d k hd=>by
  unfold finL
  rw[show lkZ (innM (rhoM χ M) (entL C sp fs env).od) (k.1,k.2)=some d from yrZ (yls r4 hn) (ydR.2 ⟨hd,hnm d k hd⟩)]
  rfl
 have hkb:∀(k:Nat×Nat) (b:TB K),ts.tb k.1 k.2=some b→χ k.1 k.2=false→∃kb,ds.kb k.1 k.2=some kb∧MR P C ⟨zipT us 0,ts.od,ts.nw,ts.rg,ts.h⟩ χ b kb∧(toD ds).M (.l k.1 k.2)=some kb.blk∧kb.okb:=fun k b hb hx=>by
  obtain ⟨kb,e1,e2⟩:=hA.mb k.1 k.2 b hb hx
  exact ⟨kb,e1,e2,by show (ds.kb k.1 k.2).map KB.blk=_;rw[show ds.kb k.1 k.2=some kb from e1];rfl,(hk k.1 k.2 kb e1).1⟩
 refine ⟨?_,⟨ylz hn,yls r4 hn,fun p hp=> ?_⟩,fun d=> ?_,hin,fun t=> ?_⟩
 ·intro s c hx
  simp only[χ1,Bool.and_eq_true,decide_eq_true_eq] at hx
  obtain ⟨rfl,hx⟩:=hx
  exact (r3 s hx).2
 ·obtain ⟨a,b⟩:=ydR.1 (show (p.1,p.2)∈_ from hp)
  obtain ⟨hx,b0,b1,e,_⟩:=r1 _ _ a
  obtain ⟨kb,_,_,e3,e4⟩:=hkb p.2 b0 e hx
  exact ⟨h2 _ b,kb.blk,e3,e4⟩
 ·cases hd:rhoM χ M d with
  | none =>
    have e1:memL (innM (rhoM χ M) (entL C sp fs env).od) (toD ds).M d=none:=by
     unfold memL
     cases he:lkE (innM (rhoM χ M) (entL C sp fs env).od) d with
     |none=>rfl
     |some k=>have:=(ydR.1 (ym6 he)).1;rw[hd] at this;cases this
    have e2:memT C (entL C sp fs env) (χ1 (xiM χ M)) d=none:=by
     unfold memT
     cases hx:χ1 (xiM χ M) d 1 with
     |true=>rfl
     | false=>
       simp only
       cases hb:lkB (entL C sp fs env).od d with
       |none=>rfl
       | some b1=>
         obtain ⟨k,hk'⟩:=r2 d b1 hb (by simpa [χ1] using hx)
         rw[hd] at hk';cases hk'
    rw[e1,e2];trivial
  | some k=>
    obtain ⟨hx,b,b1,e1,e2,e3⟩:=r1 d k hd
    obtain ⟨kb,q1,q2,q3,q4⟩:=hkb k b e1 hx
    obtain ⟨cells1,c1,c2,c3⟩:=e3 kb q2
    have hx0:χ1 (xiM χ M) d 1=false:=by
     cases hq:xiM χ M d with
     |true=>rw[(r3 d hq).1] at hd;cases hd
     |false=>simp[χ1,hq]
    have e4:memL (innM (rhoM χ M) (entL C sp fs env).od) (toD ds).M d=some (Blk.re (finL (innM (rhoM χ M) (entL C sp fs env).od)) kb.blk):=by
     unfold memL
     rw[yqo (ylz hn) (ydR.2 ⟨hd,hnm d k hd⟩)]
     simp only[Option.bind_some]
     rw[q3];rfl
    have e5:memT C (entL C sp fs env) (χ1 (xiM χ M)) d=some (bT C (entL C sp fs env) (χ1 (xiM χ M)) b1):=by
     unfold memT
     rw[hx0,show lkB (entL C sp fs env).od d=some b1 from e2];rfl
    rw[e4,e5]
    have w1:BW (some (Blk.re (finL (innM (rhoM χ M) (entL C sp fs env).od)) kb.blk)) (some ⟨kb.e,kb.sz,cells1⟩):=by
     rcases q4 with q4|⟨q4,q5⟩
     ·refine .inl ⟨q4,rfl,rfl,?_,fun j u v p q=> ?_⟩
      ·show (reAs _ kb.cells).length=cells1.length
       rw[ydN];exact c2.1.symm
      ·obtain ⟨w,f1,rfl⟩:=ygo p
       exact (c2.2 j v w q f1).vw hin
     ·obtain ⟨d1,d2,d3⟩:=c3 q4 q5
      have hnl:noLs kb.cells=true:=by rw[<-ycq,<-d3,ycq];exact d2
      refine .inr ⟨q4,?_,rfl,rfl,d1,?_⟩
      ·rw[ylJ];exact q5
      ·show dwks cells1=dwks (reAs _ kb.cells)
       rw[yeu _ _ hnl];exact d3
    have w2:=c1.canon (show (⟨kb.e,kb.sz,cells1,false⟩:KB).okb from q4.imp id fun q=>⟨q.1,(c3 q.1 q.2).1⟩)
    have e6:bT C (entL C sp fs env) (χ1 (xiM χ M)) b1=bT C (bdT C sp.ti [] [] env) (χ1 (xiM χ M)) b1:=by
     cases b1<;>simp only[bT,ykE (fun s c=>(htb s c).symm)]
    rw[e6]
    exact w1.trans w2
 ·obtain ⟨v1,t1,t2⟩:=r5 t _ (hA.fr t)
  rw[<-yuG htb]
  exact (t2.vw hin).trans t1.canon
theorem yqM (hC:CxOk P C) {Φ:List (Sp K)} (hS:SsOk P C Φ) {sp:Sl K} {us:List (TV K)} {vs:List AV} {env:List (DV K)} {fs:List (FV K)} {χ0:Nat→Nat→Bool} {f:Nat→Nat→Option K2} (ht:TL P C ts χ us vs)
  (hf:ymj C Φ (zipT us 0) sp.fs=some fs) (hl:us.length=npL sp) (hv:∀t,VW (reA f (lkF (entF vs 0) t)) (aT C (entL C sp fs env) χ0 (lkT (bdT C sp.ti [] [] env).fr t))):VWs (vs.map (reA f)) (argT C sp (entL C sp fs env) χ0):=by
 refine ⟨by unfold argT;rw[List.length_map,List.length_map,List.length_range,<-hl];exact ht.1,fun j u w hu hw=> ?_⟩
 rw[List.getElem?_map] at hu
 obtain ⟨v,e1,rfl⟩:=Option.map_eq_some_iff.1 hu
 unfold argT at hw
 rw[List.getElem?_map] at hw
 obtain ⟨i,e2,rfl⟩:=Option.map_eq_some_iff.1 hw
 have hi:i=j:=by
  have hj:j<npL sp:=by simpa using (List.getElem?_eq_some_iff.1 e2).1
  rw[List.getElem?_range hj] at e2;exact (Option.some.inj e2).symm
 subst hi
 have hvi:lkF (entF vs 0) i=v:=by rw[ynU,if_pos (Nat.zero_le _),Nat.sub_zero,e1];rfl
 have ht':=yjG 0 i ht
 rw[hvi] at ht'
 have hv':=hv i
 rw[hvi] at hv'
 rcases ypb (fr':=(bdT C sp.ti [] [] env).fr) i hf with e|⟨ps,rs,F,e,_,e3⟩
 ·rw[show lkT (entL C sp fs env).fr i=lkT (bdT C sp.ti [] [] env).fr i from e];exact hv'
 ·rw[show lkT (entL C sp fs env).fr i= .fv ps rs F from e]
  obtain ⟨q1,q2,_⟩:=yi0 hC hS e3 ht'
  rw[ylG f v q1]
  have q3:dwk v=F.av:=q2
  simp only[aT]
  rw[<-q3]
  exact VW.dwk v
theorem yma (hC:CxOk P C) {Φ:List (Sp K)} (hS:SsOk P C Φ) {us:List (TV K)} {vs:List AV} (ht:TL P C ts χ us vs):∀ {l:List (Nat×List Nat×List Nat)} {fs:List (FV K)},ymj C Φ (zipT us 0) l=some fs→fs.length=l.length∧∀F∈fs,FOk P C F
 | [],fs,h=>by cases h;exact ⟨rfl,fun F hF=>by cases hF⟩
 | p::l,fs,h=>by
   simp only[ymj] at h
   split at h
   ·rename_i F fs' h1 h2
    cases h
    obtain ⟨a,b⟩:=yma hC hS ht h2
    refine ⟨by simp[a],fun G hG=> ?_⟩
    rcases List.mem_cons.1 hG with rfl|hG
    ·exact (yi0 hC hS h1 (yjG 0 p.1 ht)).2.2 _ rfl
    ·exact b G hG
   ·cases h
theorem ynb (hC:CxOk P C) {Φ:List (Sp K)} (hS:SsOk P C Φ) (hγ:GM P C R ts χ ds) (hk:DOk ds) {sp:Sl K} (hL:SlOk P C sp) {us:List (TV K)} {vs:List AV} {env out:List (DV K)} {M:RM} {fs:List (FV K)} (ht:TL P C ts χ us vs)
  (h:rdM C sp.ti ⟨zipT us 0,ts.od,ts.nw,ts.rg,ts.h⟩=some (env,M)) (hf:ymj C Φ (zipT us 0) sp.fs=some fs) (hl:us.length=npL sp) (hn:((entL C sp fs env).od.map (·.1)).Nodup) (h2:∀s∈(entL C sp fs env).od.map (·.1),2000000<=s) (hW:sp.W fs env out):
  yju (innM (rhoM χ M) (entL C sp fs env).od) (toD ds).M/\∀H n,yam P sp.f (vs.map (reA (finL (innM (rhoM χ M) (entL C sp fs env).od)))) (memL (innM (rhoM χ M) (entL C sp fs env).od) (toD ds).M) H n (EndL C sp (entL C sp fs env) (χ1 (xiM χ M)) out H n):=by
 obtain ⟨a1,a2,a3,a4,a5⟩:=ysi hC hγ hk ht h hn h2
 obtain ⟨b1,b2⟩:=yma hC hS ht hf
 exact ⟨a2,fun H n=>(hL fs env out b1 b2 hW _ a1 H n).weak (yqM hC hS ht hf hl a5) a3⟩
end
structure ymn (P:Program) (C:Cx K) (t1 t2:TS K) (χ' χ2:Nat→Nat→Bool) (m:RM) (n:Nat→Nat) (f:Nat→Nat→Option K2):Prop where
 r:∀s k,tln (t1.tb s 1)=some k->χ' s 1=false->∃q:K2,plV (K:=K) m n (.rw s 1)= .rw q.1 q.2/\f s 1=some q/\okr t2 q.1 q.2/\tln (t2.tb q.1 q.2)=some k/\χ2 q.1 q.2=false
 nr:∀s k,tln (t1.tb s 1)=some k->χ' s 1=true->TR P C t2 χ2 (plV m n (.rw s 1)) (.sl true 0 [])
 b:∀s,isBx (t1.tb s 1)=true->∃q:K2,(∀o,plV (K:=K) m n (.px s 1 o)= .px q.1 q.2 o)/\f s 1=some q/\okr t2 q.1 q.2
section
variable {P:Program} {C:Cx K} {t1 t2:TS K} {χ' χ2:Nat->Nat->Bool} {m:RM} {n:Nat->Nat} {f:Nat->Nat->Option K2}
mutual
theorem ymJ:∀u:TV K,ya6 u=true→plV m n u=u
 | .agg cs,h=>by simp only[ya6] at h;simp only[plV,yg1 cs h]
 | .fn f a c,h=>by simp only[ya6,Bool.and_eq_true] at h;simp only[plV,yg1 a h.1,yg1 c h.2]
 | .rw _ _,h=>by simp[ya6] at h
 | .px _ _ _,h=>by simp[ya6] at h
 | .un,_| .tup _,_| .cn _ _,_| .it _ _,_| .bl _,_| .st _,_| .sl _ _,_| .nil,_| .lb _,_| .li _ _,_| .em,_| .pr _ _ _ _ _,_| .ep _ _ _ _,_| .gs _ _,_| .nptr,_| .fv _ _ _,_| .yl _,_=>by simp only[plV]
theorem yg1:∀us:List (TV K),ybx us=true→plVs m n us=us
 | [],_=>rfl
 |u::us,h=>by simp only[ybx,Bool.and_eq_true] at h;simp only[plVs,ymJ u h.1,yg1 us h.2]
end
theorem yoa (hC:CxOk P C) (t:Nat) (x:K t):TR P C t2 χ2 (plV m n (inV C t x)) (reA f (aT C t1 χ' (inV C t x))):=by
 rcases ytR hC t x with e|e
 ·rw[e];exact .un _
 ·obtain ⟨a,b⟩:=(ykT (ts:=t1) (χ:=χ') hC t x).noref (ts':=t2) (χ':=χ2) e
  rw[ymJ _ e,ylG f _ b];exact a
mutual
theorem yox (hC:CxOk P C) (h:ymn P C t1 t2 χ' χ2 m n f) {bx rw:List Nat} (hrw:∀s,s∈rw→(tln (t1.tb s 1)).isSome=true) (hbx:∀s,s∈bx→isBx (t1.tb s 1)=true):∀(k:Kd) (a:List (DV K)),okK bx rw k=true→TR P C t2 χ2 (plV m n (bdV C [] k a).1) (reA f (aT C t1 χ' (bdV C [] k a).1))
 | .it k,a,_=>by cases a with
   |nil=>exact .un _
   |cons x a=>cases x<;>first|exact .it k _|exact .un _
 | .bl,a,_=>by cases a with
   |nil=>exact .un _
   |cons x a=>cases x<;>first|exact .bl _|exact .un _
 | .st,a,_=>by cases a with
   |nil=>exact .un _
   |cons x a=>cases x<;>first|exact .st _|exact .un _
 | .sl e,a,_=>by cases a with
   |nil=>exact .un _
   | cons x a=>cases x with
     | l e' l=>
       simp only[bdV]
       split
       ·exact .sl e _ false _ _ rfl (yjl hC e _)
       ·exact .un _
     |_=>exact .un _
 | .v t,a,_=>by cases a with
   |nil=>exact .un _
   | cons x a=>cases x with
     | v t' x=>
       simp only[bdV]
       split
       ·exact yoa hC t _
       ·exact .un _
     |_=>exact .un _
 | .row s,a,hk=>by
   simp only[okK] at hk
   obtain ⟨k,hk⟩:=Option.isSome_iff_exists.1 (hrw s (yf5.1 hk))
   have e:(bdV C [] (.row s) a).1= .rw s 1:=by cases a<;>rfl
   rw[e]
   simp only[aT,hk]
   cases hx:χ' s 1 with
   |true=>exact h.nr s k hk hx
   | false=>
     obtain ⟨q,e1,e2,e3,e4,e5⟩:=h.r s k hk hx
     rw[e1]
     simp only[reA,e2]
     exact .rw _ _ k e3 e4 e5
 | .px s o,a,hk=>by
   simp only[okK] at hk
   have e:(bdV C [] (.px s o) a).1= .px s 1 o:=by cases a<;>rfl
   obtain ⟨q,e1,e2,e3⟩:=h.b s (hbx s (yf5.1 hk))
   rw[e,e1 o]
   simp only[aT,reA,e2]
   exact .px _ _ o e3
 | .kp id,a,hk=>by simp[okK] at hk
 | .nil,a,_=>by
   have e:(bdV C [] .nil a).1= .nil:=by cases a<;>rfl
   rw[e];exact .nil
 | .np,a,_=>by
   have e:(bdV C [] .np a).1= .nptr:=by cases a<;>rfl
   rw[e];exact .nptr
 | .un,a,_=>by
   have e:(bdV C [] .un a).1= .un:=by cases a<;>rfl
   rw[e];exact .un _
 | .agg l,a,hk=>by
   simp only[okK] at hk
   have:=ygm hC h hrw hbx l a hk
   simp only[bdV,aT,plV,reA]
   exact .agg _ _ this.1 this.2
 | .fn g x y,a,hk=>by
   simp only[okK,Bool.and_eq_true] at hk
   have h1:=ygm hC h hrw hbx x a hk.1
   have h2:=ygm hC h hrw hbx y (bdVs C [] x a).2 hk.2
   simp only[bdV,aT,plV,reA]
   exact .fn g _ _ _ _ h1.1 h2.1 h1.2 h2.2
theorem ygm (hC:CxOk P C) (h:ymn P C t1 t2 χ' χ2 m n f) {bx rw:List Nat} (hrw:∀s,s∈rw→(tln (t1.tb s 1)).isSome=true) (hbx:∀s,s∈bx→isBx (t1.tb s 1)=true):∀(l:List Kd) (a:List (DV K)),okKs bx rw l=true→TL P C t2 χ2 (plVs m n (bdVs C [] l a).1) (reAs f (aTs C t1 χ' (bdVs C [] l a).1))
 | [],a,_=> .nil
 | k::l,a,hk=>by
   simp only[okKs,Bool.and_eq_true] at hk
   simp only[bdVs,aTs,plVs,reAs]
   exact .cons (yox hC h hrw hbx k a hk.1) (ygm hC h hrw hbx l _ hk.2)
end
theorem yov (hC:CxOk P C) (h:ymn P C t1 t2 χ' χ2 m n f) {bx rw:List Nat} (hrw:∀s,s∈rw→(tln (t1.tb s 1)).isSome=true) (hbx:∀s,s∈bx→isBx (t1.tb s 1)=true) (l:List Kd) (a:List (DV K)) (hk:okKs bx rw l=true):TL P C t2 χ2 (plVs m n (bdW C [] l a).1) (reAs f (aTs C t1 χ' (bdW C [] l a).1)):=by
 by_cases hw:∃t,l= [.v t]/\(C.T t).g=true
 ·obtain ⟨t,rfl,hg⟩:=hw
  have key:∀x:K t,TL P C t2 χ2 (plVs m n ((C.T t).c x)) (reAs f (aTs C t1 χ' ((C.T t).c x))):=fun x=>by
   have:=yoa (P:=P) (t1:=t1) (t2:=t2) (χ':=χ') (χ2:=χ2) (m:=m) (n:=n) (f:=f) hC t x
   rw[show inV C t x= .agg ((C.T t).c x) by unfold inV;rw[hg]] at this
   simp only[aT,plV,reA] at this
   obtain ⟨vs,e,c1,c2⟩:=this.agg'
   cases e
   exact ⟨c1,c2⟩
  unfold bdW
  simp only[hg]
  split
  ·split
   ·exact key _
   ·exact .nil
  ·exact .nil
 ·rw[ym4 (fun t e=>by
   cases hg:(C.T t).g with
   |false=>rfl
   |true=>exact absurd ⟨t,e,hg⟩ hw)]
  exact ygm hC h hrw hbx l a hk
theorem yh2 (m:RM) (n:Nat→Nat):∀us:List (TV K),plVs m n us=us.map (plV m n)
 | []=>rfl
 |u::us=>by rw[plVs,yh2 m n us];rfl
theorem yxl (hC:CxOk P C) (e:Nat) (l:List (K e)):noLs (cl (C.E e) l)=true:=ybp (yjl hC e l)
theorem ytt (hC:CxOk P C) (h:ymn P C t1 t2 χ' χ2 m n f) {bx rw:List Nat} (hrw:∀s,s∈rw→(tln (t1.tb s 1)).isSome=true) (hbx:∀s,s∈bx→isBx (t1.tb s 1)=true) {b b':TB K}
  (hb:(∃e l x,okKs bx rw l=true/\(l≠ []/\wt (ctVs l) x=true)/\b=mkBx e l (bdW C [] l x).1 x)∨∃e l,b= .row e l) (hm:mapB (plV m n) (some b)=some b'):
  MR P C t2 χ2 b' ⟨(bT C t1 χ' b).e,(bT C t1 χ' b).sz,reAs f (bT C t1 χ' b).cells,false⟩/\(bT C t1 χ' b).ok:=by
 rcases hb with ⟨e,l,x,h1,h2,rfl⟩|⟨e,l,rfl⟩
 ·rcases ycl e l (bdW C [] l x).1 x with q|⟨t,y,q0,q⟩
  ·rw[q] at hm⊢
   cases hm
   obtain ⟨a1,a2⟩:=yov hC h hrw hbx l x h1
   rw[yh2] at a1 a2
   refine ⟨⟨rfl,by simp[bT],a1,a2⟩, .inl ?_⟩
   have:=yrk hC h2.2 h2.1
   simp only[bT];exact this
  ·rw[q] at hm⊢
   cases hm
   have e1:reAs f ((C.E t).c y)=(C.E t).c y:=yeu f _ ((C.E t).no y)
   refine ⟨⟨rfl,q0,rfl,?_,?_,?_⟩, .inr ⟨?_,hC.rc t y⟩⟩
   ·show isRc (reAs f ((C.E t).c y))=false
    rw[e1];exact hC.rc t y
   ·show noLs (reAs f ((C.E t).c y))=true
    rw[e1];exact (C.E t).no y
   ·show dwks (reAs f ((C.E t).c y))=_
    rw[e1];exact hC.dw t y
   ·show (0==0&&decide (1000000≤e))=true
    simpa using q0
 ·cases hm
  refine ⟨⟨rfl,rfl,?_⟩,?_⟩
  ·show dwks (reAs f (cl (C.E e) l))=_
   rw[yeu f _ (yxl hC e l)];exact yjl hC e l
  ·have:=(C.E e).pos;exact .inl (by simp only[bT];omega)
end
section
variable {P:Program} {C:Cx K} {ts:TS K} {χ:Nat->Nat->Bool}
theorem yyb {a b:TV K} {r q:List (TV K)} (h:eqTs (a::r) (b::q)):eqT a b∧eqTs r q:=by
 cases r with
 | nil=>cases q with
   |nil=>exact ⟨by simpa only[eqTs] using h,by simp only[eqTs]⟩
   |cons y q=>simp only[eqTs] at h
 |cons x r=>simpa only[eqTs] using h
end
theorem yq5:∀ {x y:DV K},eqD1 x y→x=y:=by
 intro x y h1
 cases x<;>cases y<;>simp only[eqD1] at h1<;>first
  |exact h1.elim
  |(rw[h1];done)
  | (split at h1
     next e=>subst e;simp only at h1;rw[h1]
     next=>exact h1.elim)
theorem yru:∀ {a b:List (DV K)},eqDV a b→a=b
 | [],[],_=>rfl
 | [],_::_,h=>by simp[eqDV] at h
 |_::_,[],h=>by simp[eqDV] at h
 | [x],[y],h=>by simp only[eqDV] at h;rw[yq5 h]
 | [x],_::_::_,h=>by simp[eqDV] at h
 |x::x'::a,[y],h=>by simp[eqDV] at h
 | x::x'::a,y::y'::b,h=>by
   simp only[eqDV] at h
   rw[yq5 h.1,yru (show eqDV (x'::a) (y'::b) from h.2)]
end Go.AV
end
noncomputable section
namespace Go.AV
open Go.RowKit Go.RG Go.Lib
variable {K:Nat->Type}
section
variable {C:Cx K} {t t1:TS K} {χ:Nat->Nat->Bool}
mutual
theorem yt1 (h:∀s c,tln (t.tb s c)=tln (t1.tb s c)):∀u:TV K,aT C t χ u=aT C t1 χ u
 | .rw s c=>by simp only[aT,h]
 | .agg cs=>by simp only[aT,yhr h cs]
 | .tup cs=>by simp only[aT,yhr h cs]
 | .fn f a c=>by simp only[aT,yhr h a,yhr h c]
 | .cn _ v=>by simp only[aT,yt1 h v]
 | .it _ _| .bl _| .st _| .sl _ _| .nil| .un| .px _ _ _| .lb _| .li _ _| .em| .pr _ _ _ _ _| .ep _ _ _ _| .gs _ _| .nptr| .fv _ _ _| .yl _=>by simp only[aT]
theorem yhr (h:∀s c,tln (t.tb s c)=tln (t1.tb s c)):∀us:List (TV K),aTs C t χ us=aTs C t1 χ us
 | []=>rfl
 |u::us=>by simp only[aTs,yt1 h u,yhr h us]
end
theorem aT_s (u:TV K):aT C t χ u.s=aT C t χ u:=by cases u<;>simp only[TV.s,aT]
mutual
theorem yxQ:∀(u w:TV K),eqT u w→aT C t χ u=aT C t χ w
 | .it k n,w,h=>by
   rw[<-aT_s w]
   simp only[eqT] at h
   split at h
   ·rename_i e
    split at h
    ·rename_i ek;subst ek;subst h;rw[e]
    ·exact h.elim
   ·rename_i e
    split at h
    ·rename_i ek;subst ek;subst h;rw[e];simp only[aT]
    ·exact h.elim
   ·exact h.elim
 | .bl b,w,h=>by
   rw[<-aT_s w]
   simp only[eqT] at h
   split at h
   ·rename_i e;rw[e];subst h;rfl
   ·rename_i e;rw[e];subst h;simp only[aT]
   ·exact h.elim
 | .st s,w,h=>by
   rw[<-aT_s w]
   simp only[eqT] at h
   split at h
   ·rename_i e;rw[e];subst h;rfl
   ·exact h.elim
 | .sl e l,w,h=>by
   rw[<-aT_s w]
   simp only[eqT] at h
   split at h
   ·rename_i e2;rw[e2]
    split at h
    ·rename_i e3;subst e3;simp only at h;subst h;rfl
    ·exact h.elim
   ·exact h.elim
 | .agg l,w,h=>by
   rw[<-aT_s w]
   simp only[eqT] at h
   split at h
   ·rename_i l' e;rw[e];simp only[aT,ylO l l' h]
   ·exact h.elim
 | .rw s c,w,h=>by
   rw[<-aT_s w]
   simp only[eqT] at h
   split at h
   ·rename_i s' c' e;rw[e]
    split at h
    ·rename_i e2
     simp only[Bool.and_eq_true] at e2
     rw[nbeq.1 e2.1,nbeq.1 e2.2]
    ·exact h.elim
   ·exact h.elim
 | .px s c o,w,h=>by
   rw[<-aT_s w]
   simp only[eqT] at h
   split at h
   ·rename_i s' c' o' e;rw[e]
    split at h
    ·rename_i e2
     simp only[Bool.and_eq_true] at e2
     rw[nbeq.1 e2.1.1,nbeq.1 e2.1.2,nbeq.1 e2.2]
    ·exact h.elim
   ·exact h.elim
 | .nptr,w,h=>by
   rw[<-aT_s w]
   simp only[eqT] at h
   split at h
   ·rename_i e;rw[e]
   ·exact h.elim
 | .nil,w,h=>by
   rw[<-aT_s w]
   simp only[eqT] at h
   split at h
   ·rename_i e;rw[e]
   ·exact h.elim
 | .un,w,h=>by
   cases w with
   |un=>rfl
   |_=>simp[eqT] at h
 | .lb _,w,h| .li _ _,w,h| .tup _,w,h| .em,w,h| .pr _ _ _ _ _,w,h| .ep _ _ _ _,w,h| .gs _ _,w,h| .fn _ _ _,w,h| .fv _ _ _,w,h| .yl _,w,h| .cn _ _,w,h=>by simp[eqT] at h
theorem ylO:∀(us ws:List (TV K)),eqTs us ws→aTs C t χ us=aTs C t χ ws
 | [],[],_=>rfl
 | [],w::ws,h=>by simp[eqTs] at h
 |u::us,[],h=>by simp[eqTs] at h
 | u::us,w::ws,h=>by
   obtain ⟨h1,h2⟩:=yyb h
   simp only[aTs,yxQ u w h1,ylO us ws h2]
end
def bTx (C:Cx K) (t:TS K) (χ:Nat->Nat->Bool) (o:Option (TB K)):Option Blk:=o.map (bT C t χ)
theorem ylm (us:List (TV K)):(aTs C t χ us).length=us.length:=by rw[ycz,List.length_map]
theorem yo8 {b b1:Option (TB K)} (h:eqB b b1):tln b=tln b1∧b.map (bT C t χ)=b1.map (bT C t χ)∧(∀e,b1=some (.row e [])→b=some (.row e []))∧b.isSome=true:=by
 unfold eqB at h
 split at h
 ·split at h
  rotate_left
  ·exact h.elim
  rename_i hb
  have hb:=nbeq.1 hb
  subst hb
  have:=ylO (C:=C) (t:=t) (χ:=χ) _ _ h
  refine ⟨rfl,?_,fun e q=>(by cases q),rfl⟩
  have hl:=congrArg List.length this
  rw[ylm,ylm] at hl
  simp only[Option.map_some,bT,this,hl]
 ·split at h
  ·rename_i e;subst e;simp only at h;subst h;exact ⟨rfl,rfl,fun e q=>q,rfl⟩
  ·exact h.elim
 ·split at h
  rotate_left
  ·exact h.elim
  rename_i hb
  have hb:=nbeq.1 hb
  subst hb
  split at h
  ·rename_i e;subst e;simp only at h;subst h;exact ⟨rfl,rfl,fun e q=>q,rfl⟩
  ·exact h.elim
 ·exact h.elim
theorem yqZ {ts0 ts:TS K} {p:Prop}:∀ {l:List Nat},kpt ts0 ts l p→(∀s∈l,eqB (ts0.tb s 1) (ts.tb s 1))∧p
 | [],h=>⟨fun s hs=>(by cases hs),h⟩
 | s::r,h=>by
   simp only[kpt] at h
   obtain ⟨a,b⟩:=yqZ h.2
   exact ⟨fun s' hs=>by
    rcases List.mem_cons.1 hs with rfl|hs
    ·exact h.1
    ·exact a s' hs,b⟩
theorem yg6 {α β:Type} {Q:List (Nat×α)} {l:List (Nat×β)} {p:Nat→Bool} {g:Nat×α→Bool} (h:Q.map (·.1)=l.map (·.1)) (hg:∀x∈Q,g x=p x.1):(Q.filter g).map (·.1)=(l.filter fun x=>p x.1).map (·.1):=by
 have e1:Q.filter g=Q.filter (p∘(·.1)):=List.filter_congr hg
 rw[e1,<-List.filter_map,h,List.filter_map]
 rfl
theorem yvf (a b:List (Nat×Nat×List Kd)):ctB (a++b)=ctB a++ctB b:=List.flatMap_append ..
theorem yv9 (a b:List (Nat×Nat)):ctR (a++b)=ctR a++ctR b:=List.map_append ..
structure TT (C:Cx K) (sp:Sl K) (t:TS K):Prop where
 nm:t.od.map (·.1)=sp.te.bx.map (·.1)++sp.kbx.map (·.1)++sp.te.rw.map (·.1)++sp.krw.map (·.1)
 nw:t.nw= []
 nd:(t.od.map (·.1)).Nodup
 ent:∀p∈t.od,((∃e l x,okKs (sp.to.bx.map (·.1)) (sp.to.rw.map (·.1)) l=true/\(l≠ []/\wt (ctVs l) x=true)/\p.2=some (mkBx e l (bdW C [] l x).1 x))/\p.1∈sp.to.bx.map (·.1))∨(∃e l,p.2=some (.row e l))/\p.1∈sp.to.rw.map (·.1)
 bx:∀s∈sp.to.bx.map (·.1),isBx (t.tb s 1)=true
 rw:∀s∈sp.to.rw.map (·.1),(tln (t.tb s 1)).isSome=true
 fr:∀s,lkT t.fr s= .un∨∃p∈sp.te.ks,∃x,lkT t.fr s=(bdV C [] p.2 x).1
theorem ytB {sp:Sl K} {fs:List (FV K)} {env out:List (DV K)} (hE:okS sp env=true) (hwo:wt (ctT sp.te) out=true):TT C sp (endT C sp (entL C sp fs env) out):=by
 obtain ⟨o1,o2,o3,o4,o5,o6⟩:=ymC hE
 rw[ymP] at hwo
 obtain ⟨ab,c1,rfl,w12,w6⟩:=ycX hwo
 obtain ⟨a,b1,rfl,w1,w4⟩:=ycX w12
 let ts0:=entL C sp fs env
 let F1:=ts0.od.filter fun x=>yeg sp.kp x.1&&isBx x.2
 let F2:=ts0.od.filter fun x=>yeg sp.kp x.1&& !isBx x.2
 have ht:endT C sp ts0 (a++b1++c1)=⟨(bdS C [] sp.te.ks a).1,(bdB C [] sp.te.bx b1).1++F1++bdR sp.te.rw c1++F2,[],[],[]⟩:=by
  unfold endT
  simp only
  rw[List.append_assoc,ymo sp.te.ks a (b1++c1) w1]
  simp only
  rw[ymH sp.te.bx b1 c1 w4]
 obtain ⟨i1,i2⟩:=yht (C:=C) (rg:= []) (hh:= []) o6
 have h0d:(ts0.od.map (·.1)).Nodup:=by
  show ((bdT C sp.ti [] [] env).od.map (·.1)).Nodup
  rw[i1];exact o1.nd
 obtain ⟨ai,bi,ci,_,v1,v2,v3,ei⟩:=ygn (rg:= []) (hh:= []) (C:=C) o6
 have hod:ts0.od=(bdB C [] sp.ti.bx bi).1++bdR sp.ti.rw ci:=by
  show (bdT C sp.ti [] [] env).od=_
  rw[ei]
 obtain ⟨p1,p2⟩:=yhx (C:=C) (rg:= []) sp.ti.bx bi v2
 obtain ⟨q1,q2⟩:=yhz sp.ti.rw ci v3
 have isb:∀x∈(bdB C [] sp.ti.bx bi).1,isBx x.2=true:=fun x hx=>by obtain ⟨k,_,_,y,_,e⟩:=p2 x hx;rw[e];exact yjq _ _ _ _
 have isr:∀x∈bdR sp.ti.rw ci,isBx x.2=false:=fun x hx=>by obtain ⟨k,_,_,y,e⟩:=q2 x hx;rw[e];rfl
 have nF1:F1.map (·.1)=sp.kbx.map (·.1):=by
  show (ts0.od.filter _).map _=_
  rw[hod,List.filter_append,List.map_append]
  have e2:(bdR sp.ti.rw ci).filter (fun x=>yeg sp.kp x.1&&isBx x.2)= []:=List.filter_eq_nil_iff.2 fun x hx=>by rw[isr x hx];simp
  rw[e2,List.map_nil,List.append_nil]
  exact yg6 p1 fun x hx=>by rw[isb x hx,Bool.and_true]
 have nF2:F2.map (·.1)=sp.krw.map (·.1):=by
  show (ts0.od.filter _).map _=_
  rw[hod,List.filter_append,List.map_append]
  have e2:(bdB C [] sp.ti.bx bi).1.filter (fun x=>yeg sp.kp x.1&& !isBx x.2)= []:=List.filter_eq_nil_iff.2 fun x hx=>by rw[isb x hx];simp
  rw[e2,List.map_nil,List.nil_append]
  exact yg6 q1 fun x hx=>by rw[isr x hx];simp
 obtain ⟨x1,x2⟩:=yhx (C:=C) (rg:= []) sp.te.bx b1 w4
 obtain ⟨y1,y2⟩:=yhz sp.te.rw c1 w6
 have nt:(endT C sp ts0 (a++b1++c1)).od.map (·.1)=sp.te.bx.map (·.1)++sp.kbx.map (·.1)++sp.te.rw.map (·.1)++sp.krw.map (·.1):=by
  rw[ht];simp only[List.map_append,nF1,nF2,x1,y1]
 have hto:sp.to.bx.map (·.1)++sp.to.rw.map (·.1)=sp.te.bx.map (·.1)++sp.kbx.map (·.1)++sp.te.rw.map (·.1)++sp.krw.map (·.1):=by
  show (sp.te.bx++sp.kbx).map (·.1)++(sp.te.rw++sp.krw).map (·.1)=_
  simp only[List.map_append,List.append_assoc]
 have nd:((endT C sp ts0 (a++b1++c1)).od.map (·.1)).Nodup:=by rw[nt,<-hto];exact o2.nd
 have ent:∀p∈(endT C sp ts0 (a++b1++c1)).od,((∃e l x,okKs (sp.to.bx.map (·.1)) (sp.to.rw.map (·.1)) l=true∧(l≠ []∧wt (ctVs l) x=true)∧p.2=some (mkBx e l (bdW C [] l x).1 x))∧p.1∈sp.to.bx.map (·.1))∨(∃e l,p.2=some (.row e l))∧p.1∈sp.to.rw.map (·.1):=by
  intro p hp
  rw[ht] at hp
  simp only[List.mem_append] at hp
  have tobx:∀k,k∈sp.te.bx∨k∈sp.kbx->k∈sp.to.bx:=fun k hk=>List.mem_append.2 hk
  rcases hp with ((hp|hp)|hp)|hp
  ·obtain ⟨k,hk,e2,x,ew,e3⟩:=x2 p hp
   have:=o2.bx k (tobx k (.inl hk))
   exact .inl ⟨⟨_,_,x,this.1,⟨this.2,ew⟩,e3⟩,by rw[e2];exact List.mem_map_of_mem (f:=(·.1)) (tobx k (.inl hk))⟩
  ·obtain ⟨m1,m2⟩:=List.mem_filter.1 hp
   simp only[Bool.and_eq_true] at m2
   rw[hod] at m1
   rcases List.mem_append.1 m1 with m1|m1
   ·obtain ⟨k,hk,e2,x,ew,e3⟩:=p2 p m1
    have hkb:k∈sp.kbx:=List.mem_filter.2 ⟨hk,by rw[<-e2];exact m2.1⟩
    have:=o2.bx k (tobx k (.inr hkb))
    exact .inl ⟨⟨_,_,x,this.1,⟨this.2,ew⟩,e3⟩,by rw[e2];exact List.mem_map_of_mem (f:=(·.1)) (tobx k (.inr hkb))⟩
   ·rw[isr p m1] at m2;cases m2.2
  ·obtain ⟨k,hk,e2,x,e3⟩:=y2 p hp
   exact .inr ⟨⟨_,x,e3⟩,by rw[e2];exact List.mem_map_of_mem (f:=(·.1)) (show k∈sp.te.rw++sp.krw from List.mem_append_left _ hk)⟩
  ·obtain ⟨m1,m2⟩:=List.mem_filter.1 hp
   simp only[Bool.and_eq_true,Bool.not_eq_true'] at m2
   rw[hod] at m1
   rcases List.mem_append.1 m1 with m1|m1
   ·rw[isb p m1] at m2;cases m2.2
   ·obtain ⟨k,hk,e2,x,e3⟩:=q2 p m1
    have hkr:k∈sp.krw:=List.mem_filter.2 ⟨hk,by rw[<-e2];exact m2.1⟩
    exact .inr ⟨⟨_,x,e3⟩,by rw[e2];exact List.mem_map_of_mem (f:=(·.1)) (show k∈sp.te.rw++sp.krw from List.mem_append_right _ hkr)⟩
 have disj:∀s,s∈sp.to.bx.map (·.1)->s∈sp.to.rw.map (·.1)->False:=fun s h1 h2=>(List.nodup_append.1 o2.nd).2.2 s h1 s h2 rfl
 refine ⟨nt,rfl,nd,ent,fun s hs=> ?_,fun s hs=> ?_,fun s=> ?_⟩
 ·have hm:s∈(endT C sp ts0 (a++b1++c1)).od.map (·.1):=by rw[nt,← hto];exact List.mem_append_left _ hs
  obtain ⟨p,hp,rfl⟩:=List.mem_map.1 hm
  show isBx (lkB (endT C sp ts0 (a++b1++c1)).od p.1)=true
  rw[yeb nd (show (p.1,p.2)∈_ from hp)]
  rcases ent p hp with ⟨⟨e,l,x,_,_,a3⟩,_⟩|⟨_,a2⟩
  ·rw[a3];exact yjq _ _ _ _
  ·exact (disj _ hs a2).elim
 ·have hm:s∈(endT C sp ts0 (a++b1++c1)).od.map (·.1):=by rw[nt,← hto];exact List.mem_append_right _ hs
  obtain ⟨p,hp,rfl⟩:=List.mem_map.1 hm
  show (tln (lkB (endT C sp ts0 (a++b1++c1)).od p.1)).isSome=true
  rw[yeb nd (show (p.1,p.2)∈_ from hp)]
  rcases ent p hp with ⟨_,a4⟩|⟨⟨e,l,a1⟩,_⟩
  ·exact (disj _ a4 hs).elim
  ·rw[a1];rfl
 ·show lkT (endT C sp ts0 (a++b1++c1)).fr s= .un∨∃p∈sp.te.ks,∃x,lkT (endT C sp ts0 (a++b1++c1)).fr s=(bdV C [] p.2 x).1
  rw[ht]
  rcases ynk (C:=C) (rg:= []) sp.te.ks a s with e|⟨p,hp,_,x,e⟩
  ·exact .inl e
  ·exact .inr ⟨p,hp,x,e⟩
theorem ywy {sp:Sl K} {fs:List (FV K)} {env env' out:List (DV K)} (hE:okS sp env=true) (hw:wt (ctT sp.to) env'=true) (hk:kpt (entL C sp fs env) (bdT C sp.to [] [] env') sp.kp (eqDV (selL sp env') out)):
  wt (ctT sp.te) out=true/\(bdT C sp.to [] [] env').fr=(endT C sp (entL C sp fs env) out).fr/\
  ∀s,lkB (endT C sp (entL C sp fs env) out).od s=lkB (bdT C sp.to [] [] env').od s∨eqB (lkB (endT C sp (entL C sp fs env) out).od s) (lkB (bdT C sp.to [] [] env').od s):=by
 obtain ⟨o1,o2,o3,o4,o5,o6⟩:=ymC hE
 obtain ⟨hkp,hsel⟩:=yqZ hk
 have hsel:=yru hsel
 obtain ⟨a,b12,c12,e0,w1,w2,w3,e1⟩:=ygn (rg:= []) (hh:= []) (C:=C) hw
 have w2':wt (ctB sp.te.bx++ctB sp.kbx) b12=true:=by rw[<-yvf];exact w2
 have w3':wt (ctR sp.te.rw++ctR sp.krw) c12=true:=by rw[<-yv9];exact w3
 obtain ⟨b1,b2,rfl,w4,w5⟩:=ycX w2'
 obtain ⟨c1,c2,rfl,w6,w7⟩:=ycX w3'
 have hout:out=a++b1++c1:=by
  rw[<-hsel,e0]
  unfold selL
  simp only
  have l1:(ctS sp.te.ks).length=a.length:=(ymO w1).symm
  have l2:(ctB sp.te.bx).length=b1.length:=(ymO w4).symm
  have l3:(ctB sp.kbx).length=b2.length:=(ymO w5).symm
  have l4:sp.te.rw.length=c1.length:=by have:=ymO w6;unfold ctR at this;rw[List.length_map] at this;exact this.symm
  rw[l1,l2,l3,l4]
  rw[show a++(b1++b2)++(c1++c2)=(a++b1)++(b2++(c1++c2)) by simp[List.append_assoc]]
  rw[List.take_left' (by simp),show a.length+b1.length+b2.length=(a++b1).length+b2.length by simp,List.drop_append,List.drop_of_length_le (by omega),List.nil_append,Nat.add_sub_cancel_left,List.drop_left,List.take_left]
 have hwo:wt (ctT sp.te) out=true:=by rw[hout,ymP];exact ygc (ygc w1 w4) w6
 let ts0:=entL C sp fs env
 let F1:=ts0.od.filter fun x=>yeg sp.kp x.1&&isBx x.2
 let F2:=ts0.od.filter fun x=>yeg sp.kp x.1&& !isBx x.2
 have ht:endT C sp ts0 out=⟨(bdS C [] sp.te.ks a).1,(bdB C [] sp.te.bx b1).1++F1++bdR sp.te.rw c1++F2,[],[],[]⟩:=by
  unfold endT
  simp only
  rw[hout,List.append_assoc,ymo sp.te.ks a (b1++c1) w1]
  simp only
  rw[ymH sp.te.bx b1 c1 w4]
 have ht1:bdT C sp.to [] [] env'=⟨(bdS C [] sp.te.ks a).1,(bdB C [] sp.te.bx b1).1++(bdB C [] sp.kbx b2).1++(bdR sp.te.rw c1++bdR sp.krw c2),[],[],[]⟩:=by
  rw[e1]
  show (⟨(bdS C [] sp.te.ks a).1,(bdB C [] (sp.te.bx++sp.kbx) (b1++b2)).1++bdR (sp.te.rw++sp.krw) (c1++c2),[],[],[]⟩:TS K)=_
  rw[yre _ _ _ _ w4,yqW _ _ _ _ w6]
 obtain ⟨i1,i2⟩:=yht (C:=C) (rg:= []) (hh:= []) o6
 have h0d:(ts0.od.map (·.1)).Nodup:=by
  show ((bdT C sp.ti [] [] env).od.map (·.1)).Nodup
  rw[i1];exact o1.nd
 obtain ⟨ai,bi,ci,_,v1,v2,v3,ei⟩:=ygn (rg:= []) (hh:= []) (C:=C) o6
 have hod:ts0.od=(bdB C [] sp.ti.bx bi).1++bdR sp.ti.rw ci:=by
  show (bdT C sp.ti [] [] env).od=_
  rw[ei]
 obtain ⟨p1,p2⟩:=yhx (C:=C) (rg:= []) sp.ti.bx bi v2
 obtain ⟨q1,q2⟩:=yhz sp.ti.rw ci v3
 have isb:∀x∈(bdB C [] sp.ti.bx bi).1,isBx x.2=true:=fun x hx=>by obtain ⟨k,_,_,y,_,e⟩:=p2 x hx;rw[e];exact yjq _ _ _ _
 have isr:∀x∈bdR sp.ti.rw ci,isBx x.2=false:=fun x hx=>by obtain ⟨k,_,_,y,e⟩:=q2 x hx;rw[e];rfl
 have nF1:F1.map (·.1)=sp.kbx.map (·.1):=by
  show (ts0.od.filter _).map _=_
  rw[hod,List.filter_append,List.map_append]
  have e2:(bdR sp.ti.rw ci).filter (fun x=>yeg sp.kp x.1&&isBx x.2)= []:=List.filter_eq_nil_iff.2 fun x hx=>by rw[isr x hx];simp
  rw[e2,List.map_nil,List.append_nil]
  exact yg6 p1 fun x hx=>by rw[isb x hx,Bool.and_true]
 have nF2:F2.map (·.1)=sp.krw.map (·.1):=by
  show (ts0.od.filter _).map _=_
  rw[hod,List.filter_append,List.map_append]
  have e2:(bdB C [] sp.ti.bx bi).1.filter (fun x=>yeg sp.kp x.1&& !isBx x.2)= []:=List.filter_eq_nil_iff.2 fun x hx=>by rw[isb x hx];simp
  rw[e2,List.map_nil,List.nil_append]
  exact yg6 q1 fun x hx=>by rw[isr x hx];simp
 obtain ⟨x1,x2⟩:=yhx (C:=C) (rg:= []) sp.te.bx b1 w4
 obtain ⟨y1,y2⟩:=yhz sp.te.rw c1 w6
 obtain ⟨x3,x4⟩:=yhx (C:=C) (rg:= []) sp.kbx b2 w5
 obtain ⟨y3,y4⟩:=yhz sp.krw c2 w7
 have nt:(endT C sp ts0 out).od.map (·.1)=sp.te.bx.map (·.1)++sp.kbx.map (·.1)++sp.te.rw.map (·.1)++sp.krw.map (·.1):=by
  rw[ht];simp only[List.map_append,nF1,nF2,x1,y1]
 have nt1:(bdT C sp.to [] [] env').od.map (·.1)=sp.te.bx.map (·.1)++sp.kbx.map (·.1)++sp.te.rw.map (·.1)++sp.krw.map (·.1):=by
  rw[ht1];simp only[List.map_append,x1,x3,y1,y3,List.append_assoc]
 have hto:sp.to.bx.map (·.1)++sp.to.rw.map (·.1)=sp.te.bx.map (·.1)++sp.kbx.map (·.1)++sp.te.rw.map (·.1)++sp.krw.map (·.1):=by
  show (sp.te.bx++sp.kbx).map (·.1)++(sp.te.rw++sp.krw).map (·.1)=_
  simp only[List.map_append,List.append_assoc]
 have nd:((endT C sp ts0 out).od.map (·.1)).Nodup:=by rw[nt,<-hto];exact o2.nd
 have nd1:((bdT C sp.to [] [] env').od.map (·.1)).Nodup:=by rw[nt1,<-hto];exact o2.nd
 have kept:∀s b,(s,b)∈ts0.od→yeg sp.kp s=true→(s,b)∈(endT C sp ts0 out).od→eqB (lkB (endT C sp ts0 out).od s) (lkB (bdT C sp.to [] [] env').od s):=by
  intro s b hm hs he
  have:=hkp s (yf5.1 hs)
  rw[yeb nd he]
  have e2:ts0.tb s 1=b:=yeb h0d hm
  rw[<-e2];exact this
 have main:∀s,lkB (endT C sp ts0 out).od s=lkB (bdT C sp.to [] [] env').od s∨eqB (lkB (endT C sp ts0 out).od s) (lkB (bdT C sp.to [] [] env').od s):=by
  intro s
  by_cases hs:s∈(endT C sp ts0 out).od.map (·.1)
  ·obtain ⟨p,hp,rfl⟩:=List.mem_map.1 hs
   have hp':=hp
   rw[ht] at hp'
   simp only[List.mem_append] at hp'
   rcases hp' with ((hp'|hp')|hp')|hp'
   ·left
    rw[yeb nd (show (p.1,p.2)∈_ from hp),yeb nd1 (show (p.1,p.2)∈_ by rw[ht1];simp only[List.mem_append];exact .inl (.inl hp'))]
   ·have:=List.mem_filter.1 hp'
    simp only[Bool.and_eq_true] at this
    exact .inr (kept p.1 p.2 this.1 this.2.1 hp)
   ·left
    rw[yeb nd (show (p.1,p.2)∈_ from hp),yeb nd1 (show (p.1,p.2)∈_ by rw[ht1];simp only[List.mem_append];exact .inr (.inl hp'))]
   ·have:=List.mem_filter.1 hp'
    simp only[Bool.and_eq_true] at this
    exact .inr (kept p.1 p.2 this.1 this.2.1 hp)
  ·left
   have no:∀ {l:List (Nat×Option (TB K))},s∉l.map (·.1)→lkB l s=none:=by
    intro l hl
    cases hq:lkB l s with
    |none=>rfl
    |some b=>exact absurd (List.mem_map_of_mem (f:=(·.1)) (ygp hq)) hl
   rw[no hs,no (by rw[nt1,<-nt];exact hs)]
 exact ⟨hwo,by rw[ht1];show _=(endT C sp ts0 out).fr;rw[ht],main⟩
end
def EndK (C:Cx K) (sp:Sl K) (t:TS K) (χ:Nat→Nat→Bool) (H:Hp) (n:Nat) (av:AV) (S1:St):Prop:=
 ∃χ',ViOk t χ'∧(∀s b,2000000≤s→t.tb s 1=some b→χ' s 1=χ s 1)∧(∃us,ycU t sp.res=some us∧av=ycM (aTs C t χ' us))∧S1.hp=H∧S1.nx=n∧
  ∀s b,lkB t.od s=some b->χ' s 1=false->S1.M (.l s 1)=some (bT C t χ' b)
theorem yn8 {C:Cx K} {t t1:TS K} {χ:Nat→Nat→Bool} (hf:t1.fr=t.fr) (ht:∀s c,t.tb s c=t1.tb s c∨eqB (t.tb s c) (t1.tb s c)):∀ {l:List (Nat×Option Nat)} {us:List (TV K)},ycU t1 l=some us→∃us',ycU t l=some us'∧aTs C t1 χ us=aTs C t1 χ us'
 | [],us,h=>by cases h;exact ⟨[],rfl,rfl⟩
 | p :: l, us,h=>by
   simp only[ycU] at h
   split at h
   ·rename_i v vs h1 h2
    cases h
    obtain ⟨us',e1,e2⟩:=yn8 (C:=C) (χ:=χ) hf ht h2
    have key:∃v',resT t p=some v'∧aT C t1 χ v=aT C t1 χ v':=by
     obtain ⟨s,q⟩:=p
     cases q with
     |none=>simp only[resT] at h1⊢;cases h1;exact ⟨_,rfl,by rw[hf]⟩
     | some q=>
       have boxes:∀ {s c e:Nat} {cs:List (TV K)},t1.tb s c=some (.box e cs)→∃cs',t.tb s c=some (.box e cs')∧aTs C t1 χ cs=aTs C t1 χ cs':=by
        intro s c e cs hb
        rcases ht s c with k|k
        ·exact ⟨cs,by rw[k,hb],rfl⟩
        ·rw[hb] at k
         unfold eqB at k
         split at k
         ·rename_i e1 l1 e2 l2 q1 q2
          cases q2
          split at k
          ·rename_i hbq
           have:=nbeq.1 hbq;subst this
           exact ⟨_,q1,(ylO _ _ k).symm⟩
          ·exact k.elim
         ·rename_i q2;cases q2
         ·rename_i q2;cases q2
         ·exact k.elim
       have hfs:lkT t1.fr s=lkT t.fr s:=by rw[hf]
       cases q with
       | zero=>
         simp only[resT] at h1⊢
         rw[hfs] at h1
         split at h1
         ·rename_i s' c o e
          split at h1
          ·rename_i e' cs hb
           obtain ⟨cs',b1,b2⟩:=boxes hb
           rw[b1]
           simp only
           have:=congrArg (fun l=>l[o]?) b2
           simp only[ycz,List.getElem?_map,h1] at this
           cases hq:cs'[o]? with
           |none=>rw[hq] at this;cases this
           |some w=>rw[hq] at this;exact ⟨w,rfl,Option.some.inj this⟩
          ·cases h1
         ·cases h1
       | succ q=>
         simp only[resT] at h1⊢
         rw[hfs] at h1
         split at h1
         ·rename_i s' c o e
          split at h1
          ·rename_i e' cs hb
           obtain ⟨cs',b1,b2⟩:=boxes hb
           rw[b1]
           simp only[tldc] at h1⊢
           have hl:cs.length=cs'.length:=by have:=congrArg List.length b2;rwa[ylm,ylm] at this
           split at h1
           ·rename_i hb2
            rw[hl] at hb2
            rw[hb2]
            cases h1
            refine ⟨_,rfl,?_⟩
            simp only[aT,ycz] at b2⊢
            rw[List.map_take,List.map_drop,List.map_take,List.map_drop,b2]
           ·cases h1
          ·cases h1
         ·cases h1
    obtain ⟨v',k1,k2⟩:=key
    exact ⟨v'::us',by simp only[ycU,k1,e1],by simp only[aTs,k2,e2]⟩
   ·cases h
theorem yrs {C:Cx K} {sp:Sl K} {fs:List (FV K)} {env out:List (DV K)} (hE:okS sp env=true) {χ:Nat→Nat→Bool} {H:Hp} {n:Nat} {av:AV} {S1:St} (h:EndL C sp (entL C sp fs env) χ out H n av S1):
  TT C sp (endT C sp (entL C sp fs env) out)/\EndK C sp (endT C sp (entL C sp fs env) out) χ H n av S1:=by
 obtain ⟨env',χ',h0,h1,h2,h3,⟨us,hus,h4⟩,h5,h6,_,h7⟩:=h
 obtain ⟨a2,a3,a4⟩:=ywy hE h0 h1
 have a1:=ytB (C:=C) (fs:=fs) hE a2
 have htb:∀s c,(endT C sp (entL C sp fs env) out).tb s c=(bdT C sp.to [] [] env').tb s c∨eqB ((endT C sp (entL C sp fs env) out).tb s c) ((bdT C sp.to [] [] env').tb s c):=by
  intro s c
  unfold TS.tb
  cases Nat.beq c 1 with
  |true=>exact a4 s
  | false=>cases Nat.beq c 2 with
    |true=>left;rfl
    |false=>left;rfl
 have hln:∀s c,tln ((bdT C sp.to [] [] env').tb s c)=tln ((endT C sp (entL C sp fs env) out).tb s c):=by
  intro s c
  rcases htb s c with e|e
  ·rw[e]
  ·exact ((yo8 (C:=C) (t:=bdT C sp.to [] [] env') (χ:=χ') e).1).symm
 refine ⟨a1,χ',fun s c hx=> ?_,fun s b hs hb=> ?_,?_,h5,h6,fun s b hb hx=> ?_⟩
 ·obtain ⟨e,he⟩:=h2 s c hx
  rcases htb s c with q|q
  ·exact ⟨e,by rw[q];exact he⟩
  ·exact ⟨e,(yo8 (C:=C) (t:=bdT C sp.to [] [] env') (χ:=χ') q).2.2.1 e he⟩
 ·rcases htb s 1 with q|q
  ·exact h3 s b hs (by rw[<-q];exact hb)
  ·have e2:=(yo8 (C:=C) (t:=bdT C sp.to [] [] env') (χ:=χ') q).2.1
   rw[hb] at e2
   cases hq:(bdT C sp.to [] [] env').tb s 1 with
   |none=>rw[hq] at e2;cases e2
   |some b1=>exact h3 s b1 hs hq
 ·obtain ⟨us',e1,e2⟩:=yn8 (C:=C) (χ:=χ') a3 htb hus
  exact ⟨us',e1,by rw[h4,e2,yhr hln]⟩
 ·have hb':bTx C (bdT C sp.to [] [] env') χ' (lkB (bdT C sp.to [] [] env').od s)=bTx C (bdT C sp.to [] [] env') χ' (some b):=by
   rcases a4 s with q|q
   ·rw[<-q,hb]
   ·have:=(yo8 (C:=C) (t:=bdT C sp.to [] [] env') (χ:=χ') q).2.1
    rw[hb] at this
    exact this.symm
  cases hq:lkB (bdT C sp.to [] [] env').od s with
  |none=>rw[hq] at hb';cases hb'
  | some b1=>
    rw[hq] at hb'
    have e3:=h7 s b1 hq hx
    rw[e3]
    have e4:bT C (bdT C sp.to [] [] env') χ' b1=bT C (bdT C sp.to [] [] env') χ' b:=Option.some.inj hb'
    rw[e4]
    cases b<;>simp only[bT,yhr hln]
end Go.AV
end
