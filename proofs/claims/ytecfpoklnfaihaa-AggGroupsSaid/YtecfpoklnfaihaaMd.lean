/- General texts and own ones, joined: what the program computes, told of abstract states, and the laws of plain data. No condition. -/
import Derived.Test.YtecfpoklnfaihaaMc
noncomputable section
namespace Go.AV
open Go.RowKit Go.RG Go.Lib
variable {K:Nat->Type}
theorem ygU {α:Type} (p:Nat×α) (r:List (Nat×α)) (t:Nat):lkA (p::r) t=if p.1=t then some p.2 else lkA r t:=by
 show (match Nat.beq p.1 t with|true=>some p.2|false=>lkA r t)=_
 cases h:Nat.beq p.1 t with
 |true=>simp[nbeq.1 h]
 |false=>simp only;rw[if_neg (fun e=>by rw[nbeq.2 e] at h;cases h)]
def SubA {α:Type} (m m':List (Nat×α)):Prop:=∀s x,lkA m s=some x->lkA m' s=some x
theorem yrp {α:Type} {eq:α→α→Bool} (heq:∀a b,eq a b=true→a=b) {m m':List (Nat×α)} {s:Nat} {x:α} (h:addA eq m s x=some m'):SubA m m'∧lkA m' s=some x:=by
 unfold addA at h
 split at h
 ·rename_i e
  cases h
  refine ⟨fun t y hy=> ?_,by rw[ygU];simp⟩
  rw[ygU]
  split
  ·rename_i e';simp only at e';subst e';rw[e] at hy;cases hy
  ·exact hy
 ·rename_i q e
  split at h
  ·rename_i hq
   cases h
   exact ⟨fun _ _ h=>h,by rw[e,heq _ _ hq]⟩
  ·cases h
theorem yim {p q:Nat×Nat} (h:yl6 p q=true):p=q:=by
 unfold yl6 at h
 simp only[Bool.and_eq_true] at h
 exact Prod.ext (nbeq.1 h.1) (nbeq.1 h.2)
theorem ytS:∀ {p q:Option (Nat×Nat)},yCM p q=true→p=q
 |none,none,_=>rfl
 |some p,some q,h=>by rw[yim (show yl6 p q=true from h)]
 |none,some _,h=>by cases h
 |some _,none,h=>by cases h
structure SubM (m m':RM):Prop where
 r:SubA m.r m'.r
 b:SubA m.b m'.b
theorem SubM.refl {m:RM}:SubM m m:=⟨fun _ _ h=>h,fun _ _ h=>h⟩
theorem SubM.trans {a b c:RM} (h:SubM a b) (k:SubM b c):SubM a c:=⟨fun s x q=>k.r s x (h.r s x q),fun s x q=>k.b s x (h.b s x q)⟩
section
variable {P:Program} {C:Cx K} {R:RR K} {ts ts1:TS K} {χ:Nat->Nat->Bool} {ξ:Nat->Bool} {ds:DS} {B:Base} {N:Nat} {ρ:Nat->Option (Nat×Nat)} {p:Nat×Nat->Prop} {rg:List (Nat×TV K)}
theorem yo9 (hC:CxOk P C) {t:Nat} {u:TV K} {x:K t} {v:AV} (h:outV C t u=some x) (hv:TR P C ts χ u v):dwk v=eV C t x∧v.noL=true∧∀(ts':TS K) (χ':Nat→Nat→Bool),TR P C ts' χ' (inV C t x) v:=by
 unfold outV at h
 unfold eV inV
 have hs:=hv.s
 revert h hs
 generalize hw:u.s=w
 intro h hs
 cases hg:(C.T t).g with
 | true=>
   rw[hg] at h
   cases w with
   | agg cs=>
     simp only at h⊢
     obtain ⟨vs,rfl,a,b⟩:=hs.agg'
     have tl:=(show TL P C ts χ cs vs from ⟨a,b⟩).mapS
     have hd:=hC.rd t _ x ts χ vs h tl.1 tl.2
     refine ⟨by simp only[dwk,hd],?_,fun ts' χ'=> ?_⟩
     ·simp only[AV.noL];rw[<-yeS,hd];exact (C.E t).no x
     ·obtain ⟨c1,c2⟩:=hC.c t x ts' χ'
      refine .agg _ _ (by rw[<-c1,<-hd,ybI]) (fun j u' v' h1 h2=> ?_)
      refine TR.undwk (c2 j u' (dwk v') h1 ?_) rfl
      rw[<-hd,ydZ,List.getElem?_map,h2];rfl
   |_=>cases h
 | false=>
   rw[hg] at h
   have hsz:=hC.g t hg
   have go:(C.T t).rd [w]=some x→dwk v=((C.E t).c x).headD .un∧v.noL=true∧∀(ts':TS K) (χ':Nat→Nat→Bool),TR P C ts' χ' (match (C.T t).c x with| [v]=>v|_=> .un) v:=by
    intro h
    have tl:TL P C ts χ [w] [v]:= .cons hs .nil
    have hd:=hC.rd t [w] x ts χ [v] h tl.1 tl.2
    simp only[dwks] at hd
    refine ⟨by rw[<-hd];rfl,?_,fun ts' χ'=> ?_⟩
    ·have:=(C.E t).no x
     rw[<-hd] at this
     simp only[noLs,Bool.and_true] at this
     rw[<-yha];exact this
    ·obtain ⟨c1,c2⟩:=hC.c t x ts' χ'
     rw[<-hd] at c1 c2
     cases hc:(C.T t).c x with
     |nil=>rw[hc] at c1;simp at c1
     | cons a r=>cases r with
       |cons b r=>rw[hc] at c1;simp at c1
       |nil=>rw[hc] at c2;exact (c2 0 a (dwk v) rfl rfl).undwk rfl
   cases w with
   |agg cs=>cases h
   |_=>exact go h
variable (P C ts ts1 χ ξ ρ) in
structure Good (M:RM):Prop where
 r:∀s k,lkA M.r s=some (some k)->∀n,tln (ts.tb k.1 k.2)=some n->tln (ts1.tb s 1)=some n/\(χ k.1 k.2=false->ρ s=some k/\ξ s=false)/\(χ k.1 k.2=true->ξ s=true)
 rn:∀s k,lkA M.r s=some (some k)->∃n,tln (ts.tb k.1 k.2)=some n
 n:∀s,lkA M.r s=some none->tln (ts1.tb s 1)=some 0/\ξ s=true
 b:∀s k,lkA M.b s=some k->ρ s=some k
 rg:ts1.rg=rg
theorem Good.sub {M m:RM} (h:Good (rg:=rg) ts ts1 χ ξ ρ M) (k:SubM m M):Good (rg:=rg) ts ts1 χ ξ ρ m:=
 ⟨fun s q a=>h.r s q (k.r _ _ a),fun s q a=>h.rn s q (k.r _ _ a),fun s a=>h.n s (k.r _ _ a),fun s q a=>h.b s q (k.b _ _ a),h.rg⟩
def ExtR (rg rg':List (Nat×TV K)):Prop:=∀id w,lkR rg id=some w->lkR rg' id=some w
theorem TM.stp {u:TV K}:∀ {w u1:TV K},u.s=w→TM P C ts ts1 χ ξ ds ρ p w u1→TM P C ts ts1 χ ξ ds ρ p u u1:=by
 intro w u1 e t
 cases u with
 |cn id v=>simp only[TV.s] at e;subst e;exact TM.strip t
 |_=>simp only[TV.s] at e;subst e;exact t
theorem yhu (hC:CxOk P C) (hx:ExtR rg ts.rg) {k:Kd} {u:TV K} {m m':RM} {a:List (DV K)} (h:rd1 C k u m=some (a,m')):SubM m m'∧∀r,∃u1,bdV C rg k (a++r)=(u1,r)∧(Good (rg:=rg) ts ts1 χ ξ ρ m'→TM P C ts ts1 χ ξ ds ρ p u u1):=by
 have st:= @TM.stp K P C ts ts1 χ ξ ds ρ p u
 cases k with
 | it k=>
   simp only[rd1] at h
   split at h
   ·rename_i k' n e
    split at h
    ·rename_i ek
     subst ek;cases h
     refine ⟨.refl,fun r=>⟨.it k n,rfl,fun _=> ?_⟩⟩
     have e2:u.s= .it k n∨u.s= .li k n:=by
      revert e;generalize u.s=w;intro e
      cases w<;>simp[tint] at e
      ·obtain ⟨rfl,rfl⟩:=e;exact .inr rfl
      ·obtain ⟨rfl,rfl⟩:=e;exact .inl rfl
     rcases e2 with e2|e2
     ·exact st e2 (TM.noref rfl)
     ·exact st e2 (TM.sem fun v hv=>by cases hv;exact ⟨.it k n,rfl⟩)
    ·cases h
   ·cases h
 | bl=>
   simp only[rd1] at h
   split at h
   ·rename_i b e
    cases h
    refine ⟨.refl,fun r=>⟨.bl b,rfl,fun _=> ?_⟩⟩
    have e2:u.s= .bl b∨u.s= .lb b:=by
     revert e;generalize u.s=w;intro e
     cases w<;>simp[tbo] at e
     ·subst e;exact .inr rfl
     ·subst e;exact .inl rfl
    rcases e2 with e2|e2
    ·exact st e2 (TM.noref rfl)
    ·exact st e2 (TM.sem fun v hv=>by cases hv;exact ⟨.bl b,rfl⟩)
   ·cases h
 | st=>
   simp only[rd1] at h
   split at h
   ·rename_i s e
    cases h
    exact ⟨.refl,fun r=>⟨.st s,rfl,fun _=>st e (TM.noref rfl)⟩⟩
   ·cases h
 | sl e=>
   simp only[rd1] at h
   have bd:∀(l:List (K e)) r,bdV C rg (.sl e) (.l e l::r)=(.sl e l,r):=by
    intro l r;simp[bdV,ylv]
   split at h
   ·rename_i e' l eu
    split at h
    ·rename_i l' hl
     obtain ⟨rfl,rfl⟩:=ye5 hl
     cases h
     exact ⟨.refl,fun r=>⟨_,bd _ r,fun _=>st eu (TM.noref rfl)⟩⟩
    ·cases h
   ·rename_i eu
    cases h
    exact ⟨.refl,fun r=>⟨_,bd [] r,fun _=>st eu (TM.sem fun v hv=>by cases hv;exact ⟨.sl e [] _ _ _ rfl rfl,rfl⟩)⟩⟩
   ·rename_i eu
    cases h
    exact ⟨.refl,fun r=>⟨_,bd [] r,fun _=>st eu (TM.sem fun v hv=>by cases hv;exact ⟨.sl e [] _ _ _ rfl rfl,rfl⟩)⟩⟩
   ·cases h
 | v t=>
   simp only[rd1] at h
   split at h
   ·rename_i x e
    cases h
    refine ⟨.refl,fun r=>⟨inV C t x,by simp[bdV],fun _=>TM.sem fun v hv=> ?_⟩⟩
    obtain ⟨_,a2,a3⟩:=yo9 hC e hv
    exact ⟨a3 _ _,a2⟩
   ·cases h
 |agg l=>simp only[rd1] at h;cases h
 | row s=>
   simp only[rd1] at h
   split at h
   ·rename_i s' c e
    unfold addR at h
    split at h
    ·rename_i r' hr
     cases h
     obtain ⟨h1,h2⟩:=yrp (fun _ _=>ytS) hr
     refine ⟨⟨h1,fun _ _ q=>q⟩,fun r=>⟨.rw s 1,rfl,fun hg=>st e ?_⟩⟩
     obtain ⟨n,hn⟩:=hg.rn s (s',c) h2
     obtain ⟨g1,g2,g3⟩:=hg.r s (s',c) h2 n hn
     exact TM.rw hn g1 g2 g3
    ·cases h
   ·rename_i e
    unfold addR at h
    split at h
    ·rename_i r' hr
     cases h
     obtain ⟨h1,h2⟩:=yrp (fun _ _=>ytS) hr
     refine ⟨⟨h1,fun _ _ q=>q⟩,fun r=>⟨.rw s 1,rfl,fun hg=>st e ?_⟩⟩
     obtain ⟨g1,g2⟩:=hg.n s h2
     exact TM.nilrw g1 g2
    ·cases h
   ·cases h
 | px s off=>
   simp only[rd1] at h
   split at h
   ·rename_i s' c off' e
    split at h
    ·rename_i ho
     have:=nbeq.1 ho;subst this
     unfold addB at h
     split at h
     ·rename_i b' hb
      cases h
      obtain ⟨h1,h2⟩:=yrp (fun _ _=>yim) hb
      exact ⟨⟨fun _ _ q=>q,h1⟩,fun r=>⟨.px s 1 off,rfl,fun hg=>st e (TM.px (hg.b s (s',c) h2))⟩⟩
     ·cases h
    ·cases h
   ·cases h
 | kp id =>
   simp only[rd1] at h
   split at h
   ·rename_i id' w
    split at h
    ·rename_i hi
     have:=nbeq.1 hi;subst this
     cases h
     refine ⟨.refl,fun r=>⟨match lkR rg id with|some v=> .cn id v|none=> .un,rfl,fun hg=> ?_⟩⟩
     cases hr:lkR rg id with
     |none=>exact TM.un _
     | some v=>
       intro v0 hv
       cases hv with
       | cn _ _ _ h1 hn hv=>
         have:=hx id v hr
         rw[h1] at this;cases this
         exact ⟨v0, .cn id w v0 (by rw[hg.rg];exact hr) hn (hv.noref hn).1, .no v0 (hv.noL' hn)⟩
    ·cases h
   ·cases h
 | nil=>
   simp only[rd1] at h
   split at h
   ·rename_i e
    cases h
    exact ⟨.refl,fun r=>⟨.nil,rfl,fun _=>st e (TM.noref rfl)⟩⟩
   ·cases h
 | np=>
   simp only[rd1] at h
   split at h
   ·rename_i e
    cases h
    exact ⟨.refl,fun r=>⟨.nptr,rfl,fun _=>st e (TM.noref rfl)⟩⟩
   ·cases h
 |fn f x y=>simp only[rd1] at h;cases h
 | un=>
   simp only[rd1] at h
   cases h
   exact ⟨.refl,fun r=>⟨.un,by cases r<;>rfl,fun _=>TM.un _⟩⟩
mutual
theorem yzj (hC:CxOk P C) (hx:ExtR rg ts.rg):∀(k:Kd) (u:TV K) (m m':RM) (a:List (DV K)),rdV C k u m=some (a,m')→SubM m m'∧∀r,∃u1,bdV C rg k (a++r)=(u1,r)∧(Good (rg:=rg) ts ts1 χ ξ ρ m'→TM P C ts ts1 χ ξ ds ρ p u u1)
 | .agg l,u,m,m',a,h=>by
   simp only[rdV] at h
   split at h
   ·rename_i vs e
    obtain ⟨h1,h2⟩:=ymz hC hx l vs m m' a h
    refine ⟨h1,fun r=> ?_⟩
    obtain ⟨us1,e1,e2,e3⟩:=h2 r
    refine ⟨.agg us1,by simp only[bdV,e1],fun hg=> ?_⟩
    exact TM.stp e (TM.agg e2 (e3 hg))
   ·cases h
 | .fn f x y,u,m,m',a,h=>by
   simp only[rdV] at h
   split at h
   ·rename_i f' x' y' e
    split at h
    ·rename_i hf
     have:=nbeq.1 hf;subst this
     split at h
     ·rename_i a1 m1 h1
      split at h
      ·rename_i a2 m2 h2
       cases h
       obtain ⟨s1,t1⟩:=ymz hC hx x x' m m1 a1 h1
       obtain ⟨s2,t2⟩:=ymz hC hx y y' m1 m' a2 h2
       refine ⟨s1.trans s2,fun r=> ?_⟩
       obtain ⟨us1,e1,e2,f1⟩:=t1 (a2++r)
       obtain ⟨us2,e3,e4,f2⟩:=t2 r
       refine ⟨.fn f us1 us2,by rw[List.append_assoc];simp only[bdV,e1,e3],fun hg=> ?_⟩
       exact TM.stp e (TM.fn e2 (f1 (hg.sub s2)) e4 (f2 hg))
      ·cases h
     ·cases h
    ·cases h
   ·cases h
 | .np,u,m,m',a,h=>yhu hC hx h
 | .it k,u,m,m',a,h=>yhu hC hx h
 | .bl,u,m,m',a,h=>yhu hC hx h
 | .st,u,m,m',a,h=>yhu hC hx h
 | .sl e,u,m,m',a,h=>yhu hC hx h
 | .v t,u,m,m',a,h=>yhu hC hx h
 | .row s,u,m,m',a,h=>yhu hC hx h
 | .px s o,u,m,m',a,h=>yhu hC hx h
 | .kp id,u,m,m',a,h=>yhu hC hx h
 | .nil,u,m,m',a,h=>yhu hC hx h
 | .un,u,m,m',a,h=>yhu hC hx h
theorem ymz (hC:CxOk P C) (hx:ExtR rg ts.rg):∀(l:List Kd) (us:List (TV K)) (m m':RM) (a:List (DV K)),rdVs C l us m=some (a,m')→SubM m m'∧∀r,∃us1,bdVs C rg l (a++r)=(us1,r)∧us1.length=us.length∧(Good (rg:=rg) ts ts1 χ ξ ρ m'→∀(j:Nat) (u u1:TV K),us[j]? =some u→us1[j]? =some u1→TM P C ts ts1 χ ξ ds ρ p u u1)
 | [],[],m,m',a,h=>by
   simp only[rdVs] at h;cases h
   exact ⟨.refl,fun r=>⟨[],rfl,rfl,fun _ j u u1 h=>by simp at h⟩⟩
 | k ::l,u::us,m,m',a,h=>by
   simp only[rdVs] at h
   split at h
   ·rename_i a1 m1 h1
    split at h
    ·rename_i a2 m2 h2
     cases h
     obtain ⟨s1,t1⟩:=yzj hC hx k u m m1 a1 h1
     obtain ⟨s2,t2⟩:=ymz hC hx l us m1 m' a2 h2
     refine ⟨s1.trans s2,fun r=> ?_⟩
     obtain ⟨u1,e1,f1⟩:=t1 (a2++r)
     obtain ⟨us1,e2,e3,f2⟩:=t2 r
     refine ⟨u1::us1,?_,by simp[e3],fun hg j u' u1' x y=> ?_⟩
     ·rw[List.append_assoc];simp only[bdVs,e1,e2]
     ·cases j with
      |zero=>simp at x y;subst x;subst y;exact f1 (hg.sub s2)
      |succ j=>exact f2 hg j u' u1' (by simpa using x) (by simpa using y)
    ·cases h
   ·cases h
 | [],_::_,_,_,_,h=>by simp[rdVs] at h
 |_::_,[],_,_,_,h=>by simp[rdVs] at h
end
theorem yvq (hC:CxOk P C) (hx:ExtR rg ts.rg):∀(l:List (Nat×Kd)) (m m':RM) (a:List (DV K)),rdS C ts.fr l m=some (a,m')→SubM m m'∧∀r,∃fr1,bdS C rg l (a++r)=(fr1,r)∧(Good (rg:=rg) ts ts1 χ ξ ρ m'→∀t,TM P C ts ts1 χ ξ ds ρ p (lkT ts.fr t) (lkT fr1 t))
 | [],m,m',a,h=>by
   simp only[rdS] at h;cases h
   exact ⟨.refl,fun r=>⟨[],rfl,fun _ t=>TM.un _⟩⟩
 | k ::l,m,m',a,h=>by
   simp only[rdS] at h
   split at h
   ·rename_i a1 m1 h1
    split at h
    ·rename_i a2 m2 h2
     cases h
     obtain ⟨s1,t1⟩:=yzj hC hx k.2 (lkT ts.fr k.1) m m1 a1 h1
     obtain ⟨s2,t2⟩:=yvq hC hx l m1 m' a2 h2
     refine ⟨s1.trans s2,fun r=> ?_⟩
     obtain ⟨u1,e1,f1⟩:=t1 (a2++r)
     obtain ⟨fr1,e2,f2⟩:=t2 r
     refine ⟨(k.1,u1)::fr1,?_,fun hg t=> ?_⟩
     ·rw[List.append_assoc];simp only[bdS,e1,e2]
     ·rw[ycn]
      split
      ·rename_i e;rw[<-e];exact f1 (hg.sub s2)
      ·exact f2 hg t
    ·cases h
   ·cases h
theorem yCq (hC:CxOk P C) (hx:ExtR rg ts.rg) (l:List Kd) (us:List (TV K)) (m m':RM) (a:List (DV K)) (h:rdW C l us m=some (a,m')) (e:Nat):SubM m m'∧∀r,∃us1,bdW C rg l (a++r)=(us1,r)∧(Good (rg:=rg) ts ts1 χ ξ ρ m'→BM P C ts ts1 χ ξ ds ρ p (.box e us) (.box e us1)):=by
 have gen:rdVs C l us m=some (a,m')→(∀r,bdW C rg l (a++r)=bdVs C rg l (a++r))→SubM m m'∧∀r,∃us1,bdW C rg l (a++r)=(us1,r)∧(Good (rg:=rg) ts ts1 χ ξ ρ m'→BM P C ts ts1 χ ξ ds ρ p (.box e us) (.box e us1)):=by
  intro h hb
  obtain ⟨s1,t1⟩:=ymz (P:=P) (ts1:=ts1) (χ:=χ) (ξ:=ξ) (ρ:=ρ) (ds:=ds) (p:=p) hC hx l us m m' a h
  refine ⟨s1,fun r=> ?_⟩
  obtain ⟨us1,e1,e2,f1⟩:=t1 r
  exact ⟨us1,by rw[hb];exact e1,fun hg=>BM.box e2 (f1 hg)⟩
 unfold rdW at h
 split at h
 ·rename_i t
  split at h
  ·rename_i hg
   split at h
   ·rename_i x hx'
    cases h
    refine ⟨.refl,fun r=>⟨(C.T t).c x,by simp[bdW,hg],fun _ kb hkb=> ?_⟩⟩
    obtain ⟨k1,k2,k3,k4⟩:=hkb
    obtain ⟨_,b2,b3⟩:=yo9 hC hx' (.agg us kb.cells k3 k4)
    have b4:=b3 ts1 (χ1 ξ)
    rw[show inV C t x= .agg ((C.T t).c x) by unfold inV;rw[hg]] at b4
    obtain ⟨vs,e1,c1,c2⟩:=b4.agg'
    cases e1
    have hl:us.length=((C.T t).c x).length:=by rw[<-k3,c1]
    refine ⟨kb.cells,⟨k1,by rw[k2,hl],by rw[c1],c2⟩,RVL.no ?_⟩
    simpa only[AV.noL] using b2
   ·cases h
  ·rename_i hg
   exact gen h fun r=>by simp[bdW,hg]
 ·rename_i hn
  refine gen h fun r=> ?_
  unfold bdW
  split
  ·rename_i t;exact absurd rfl (hn t)
  ·rfl
theorem ys0 (hC:CxOk P C) (hx:ExtR rg ts.rg):∀(l:List (Nat×Nat×List Kd)) (m m':RM) (a:List (DV K)),rdB C ts l m=some (a,m')→SubM m m'∧∀r,∃od1,bdB C rg l (a++r)=(od1,r)∧(∀s,memB od1 s=l.any fun q=>Nat.beq q.1 s)∧(∀s,memB od1 s=true→∃q e cs cs1,lkA m'.b s=some q∧ts.tb q.1 q.2=some (.box e cs)∧lkB od1 s=some (.box e cs1)∧
   (Good (rg:=rg) ts ts1 χ ξ ρ m'->BM P C ts ts1 χ ξ ds ρ p (.box e cs) (.box e cs1)))
 | [],m,m',a,h=>by
   simp only[rdB] at h;cases h
   exact ⟨.refl,fun r=>⟨[],rfl,fun s=>rfl,fun s h=>by cases h⟩⟩
 | k :: l, m,m',a,h=>by
   simp only[rdB] at h
   split at h
   ·rename_i q hq
    split at h
    ·rename_i e cs hb
     split at h
     ·rename_i he
      have he:=nbeq.1 he
      split at h
      ·rename_i a1 m1 h1
       split at h
       ·rename_i a2 m2 h2
        cases h
        obtain ⟨s1,t1⟩:=yCq (P:=P) (ts1:=ts1) (χ:=χ) (ξ:=ξ) (ρ:=ρ) (ds:=ds) (p:=p) hC hx k.2.2 cs m m1 a1 h1 e
        obtain ⟨s2,t2⟩:=ys0 hC hx l m1 m' a2 h2
        refine ⟨s1.trans s2,fun r=> ?_⟩
        obtain ⟨us1,e1,f1⟩:=t1 (a2++r)
        obtain ⟨od1,e2,g2,f2⟩:=t2 r
        refine ⟨(k.1,some (.box k.2.1 us1))::od1,?_,fun s=> ?_,fun s hs=> ?_⟩
        ·rw[List.append_assoc];simp only[bdB,e1,e2]
        ·show (Nat.beq k.1 s||memB od1 s)=_;rw[g2,List.any_cons]
        ·rw [ycf]
         by_cases ek:k.1=s
         ·subst ek
          refine ⟨q,e,cs,us1,(s1.trans s2).b _ _ hq,hb,by simp[he],fun hg=>f1 (hg.sub s2)⟩
         ·rw[if_neg ek]
          have hs':memB od1 s=true:=by
           have:(Nat.beq k.1 s||memB od1 s)=true:=hs
           have hb':Nat.beq k.1 s=false:=by
            cases hh:Nat.beq k.1 s with
            |false=>rfl
            |true=>exact absurd (nbeq.1 hh) ek
           rwa[hb',Bool.false_or] at this
          exact f2 s hs'
       ·cases h
      ·cases h
     ·cases h
    ·cases h
   ·cases h
theorem yty {m:RM}:∀(l:List (Nat×Nat)) (a:List (DV K)),rdR C ts m l=some a→(∀s,memB (bdR l a) s=l.any fun q=>Nat.beq q.1 s)∧∀s,memB (bdR l a) s=true→∃e,(lkA m.r s=some none∧lkB (bdR l a) s=some (.row e []))∨∃q l',lkA m.r s=some (some q)∧trow C e (ts.tb q.1 q.2)=some l'∧lkB (bdR l a) s=some (.row e l')
 | [],a,h=>by
   simp only[rdR] at h;cases h
   exact ⟨fun s=>rfl,fun s h=>by cases h⟩
 | k ::l,a,h=>by
   have step:∀ {x:List (K k.2)} {b:List (DV K)},rdR C ts m l=some b→(lkA m.r k.1=some none∧x= []∨∃q,lkA m.r k.1=some (some q)∧trow C k.2 (ts.tb q.1 q.2)=some x)→(∀s,memB (bdR (k::l) (.l k.2 x::b)) s=(k::l).any fun q=>Nat.beq q.1 s)∧
     ∀s,memB (bdR (k::l) (.l k.2 x::b)) s=true->∃e,(lkA m.r s=some none/\lkB (bdR (k::l) (.l k.2 x::b)) s=some (.row e []))∨∃q l',lkA m.r s=some (some q)/\trow C e (ts.tb q.1 q.2)=some l'/\lkB (bdR (k::l) (.l k.2 x::b)) s=some (.row e l'):=by
    intro x b hb hx
    obtain ⟨g1,g2⟩:=yty l b hb
    have e:bdR (k::l) (.l k.2 x::b)=(k.1,some (.row k.2 x))::bdR l b:=by simp[bdR,ylv]
    rw[e]
    refine ⟨fun s=> ?_,fun s hs=> ?_⟩
    ·show (Nat.beq k.1 s||memB (bdR l b) s)=_;rw[g1,List.any_cons]
    ·rw[ycf]
     by_cases ek:k.1=s
     ·subst ek
      rcases hx with ⟨h1,rfl⟩|⟨q,h1,h2⟩
      ·exact ⟨k.2, .inl ⟨h1,by simp⟩⟩
      ·exact ⟨k.2, .inr ⟨q,x,h1,h2,by simp⟩⟩
     ·rw[if_neg ek]
      refine g2 s ?_
      have:(Nat.beq k.1 s||memB (bdR l b) s)=true:=hs
      have hb':Nat.beq k.1 s=false:=by
       cases hh:Nat.beq k.1 s with
       |false=>rfl
       |true=>exact absurd (nbeq.1 hh) ek
      rwa[hb',Bool.false_or] at this
   simp only[rdR] at h
   split at h
   ·rename_i hq
    obtain ⟨b,hb,rfl⟩:=Option.map_eq_some_iff.1 h
    exact step hb (.inl ⟨hq,rfl⟩)
   ·rename_i q hq
    split at h
    ·rename_i l' hl
     obtain ⟨b,hb,rfl⟩:=Option.map_eq_some_iff.1 h
     exact step hb (.inr ⟨q,hq,hl⟩)
    ·cases h
   ·cases h
theorem yra:∀ {l:List (Nat×Nat)} {q:Nat×Nat},q∈l→yxA l q=true
 | p::r,q,h=>by
   show (yl6 p q||yxA r q)=true
   rcases List.mem_cons.1 h with rfl|h
   ·have:yl6 q q=true:=by unfold yl6;rw[nbeq.2 rfl,nbeq.2 rfl];rfl
    rw[this];rfl
   ·rw[yra h,Bool.or_true]
theorem ylD:∀ {l:List (Nat×Nat)},yuK l=true→l.Nodup
 | [],_=>List.nodup_nil
 | p::r,h=>by
   simp only[yuK,Bool.and_eq_true,Bool.not_eq_true'] at h
   refine List.nodup_cons.2 ⟨fun hm=> ?_,ylD h.2⟩
   rw[yra hm] at h;cases h.1
theorem yeN:∀ {m:List (Nat×Option (Nat×Nat))} {s:Nat} {k:Nat×Nat},lkA m s=some (some k)→k∈plsR m
 | [],_,_,h=>by cases h
 | (t,x)::r,s,k,h=>by
   rw[ygU] at h
   split at h
   ·cases h;simp[plsR]
   ·have:=yeN h
    cases x with
    |none=>exact this
    |some q=>exact List.mem_cons_of_mem _ this
theorem yjK:∀ {m:List (Nat×Option (Nat×Nat))} {s s':Nat} {k:Nat×Nat},(plsR m).Nodup→lkA m s=some (some k)→lkA m s'=some (some k)→s=s'
 | [],_,_,_,_,h,_=>by cases h
 | (t,x)::r,s,s',k,hn,h,h'=>by
   rw[ygU] at h h'
   cases x with
   | none=>
     split at h
     ·cases h
     ·split at h'
      ·cases h'
      ·exact yjK (m:=r) hn h h'
   | some q=>
     have hn':=List.nodup_cons.1 (show (q::plsR r).Nodup from hn)
     split at h
     ·rename_i e1
      split at h'
      ·rename_i e2;simp only at e1 e2;rw[<-e1,<-e2]
      ·cases h;exact absurd (yeN h') hn'.1
     ·split at h'
      ·cases h';exact absurd (yeN h) hn'.1
      ·exact yjK hn'.2 h h'
theorem yeL:∀ {m:List (Nat×(Nat×Nat))} {s:Nat} {k:Nat×Nat},lkA m s=some k→k∈m.map (·.2)
 | [],_,_,h=>by cases h
 | (t,x)::r,s,k,h=>by
   rw[ygU] at h
   split at h
   ·cases h;simp
   ·exact List.mem_cons_of_mem _ (yeL h)
theorem ylM:∀ {m:List (Nat×(Nat×Nat))} {s s':Nat} {k:Nat×Nat},(m.map (·.2)).Nodup→lkA m s=some k→lkA m s'=some k→s=s'
 | [],_,_,_,_,h,_=>by cases h
 | (t,x)::r,s,s',k,hn,h,h'=>by
   rw[ygU] at h h'
   have hn':=List.nodup_cons.1 (show (x::r.map (·.2)).Nodup from hn)
   split at h
   ·rename_i e1
    split at h'
    ·rename_i e2;simp only at e1 e2;rw[<-e1,<-e2]
    ·cases h;exact absurd (yeL h') hn'.1
   ·split at h'
    ·cases h';exact absurd (yeL h) hn'.1
    ·exact ylM hn'.2 h h'
theorem yfd {α:Type} {m:List (Nat×α)} {s:Nat} {x:α} {f:Nat×α→Bool} (h:lkA m s=some x) (ha:m.all f=true):f (s,x)=true:=by
 induction m with
 |nil=>cases h
 | cons q m ih=>
   rw[ygU] at h
   simp only[List.all_cons,Bool.and_eq_true] at ha
   split at h
   ·rename_i e;cases h;subst e;exact ha.1
   ·exact ih h ha.2
theorem yCg (hB:yds B) (hC:CxOk P C) (hx:ExtR rg ts.rg) {τ:Tm} {env:List (DV K)} (h:rdT C τ ts=some env) (hh:List RS) (hR:∀H n,R ts.h H n→R hh H n):REt P C R B N ts (bdT C τ rg hh env):=by
 intro χ ds hk hγ
 unfold rdT at h
 split at h
 rotate_left
 ·cases h
 rename_i a m1 h1
 split at h
 rotate_left
 ·cases h
 rename_i b M h2
 split at h
 rotate_left
 ·cases h
 rename_i c h3 h4
 cases h
 simp only[Bool.and_eq_true] at h4
 obtain ⟨⟨hnod,hdom⟩,hfixM⟩:=h4
 simp only[fixM,Bool.and_eq_true] at hfixM
 simp only[ywq,Bool.and_eq_true] at hdom
 obtain ⟨⟨hdb,hdr⟩,hdis⟩:=hdom
 have hnod:=ylD hnod
 obtain ⟨nr,nb,ndis⟩:=List.nodup_append.1 hnod
 let ρ:Nat→Option (Nat×Nat):=fun s=>match lkA M.b s with
  |some k=>some k
  | none=>match lkA M.r s with
    |some (some k)=>if χ k.1 k.2=true then none else some k
    |_=>none
 let ξ:Nat→Bool:=fun s=>match lkA M.b s with
  |some _=>false
  | none=>match lkA M.r s with
    |some none=>true
    |some (some k)=>χ k.1 k.2
    |none=>false
 obtain ⟨rb,gb1,gb2⟩:=yty τ.rw c h3|>fun x=>(⟨rfl,x.1,x.2⟩:(bdR τ.rw c=bdR τ.rw c)/\_/\_)
 have hbname:∀s k,lkA M.b s=some k->τ.bx.any (fun q=>Nat.beq q.1 s)=true:=fun s k hs=>yfd hs hdb
 have hrname:∀s k,lkA M.r s=some k->τ.rw.any (fun q=>Nat.beq q.1 s)=true:=fun s k hs=>yfd hs hdr
 have hapart:∀s,τ.bx.any (fun q=>Nat.beq q.1 s)=true→τ.rw.any (fun q=>Nat.beq q.1 s)=true→False:=by
  intro s q1 q2
  obtain ⟨x,hx1,hx2⟩:=List.any_eq_true.1 q1
  obtain ⟨y,hy1,hy2⟩:=List.any_eq_true.1 q2
  have:=List.all_eq_true.1 (List.all_eq_true.1 hdis x hx1) y hy1
  rw[nbeq.1 hx2,nbeq.1 hy2,nbeq.2 rfl] at this;cases this
 have hbr:∀s k k',lkA M.b s=some k->lkA M.r s=some k'->False:=fun s k k' q1 q2=>hapart s (hbname s k q1) (hrname s k' q2)
 have hρb:∀s k,lkA M.b s=some k→ρ s=some k:=by
  intro s k hs
  show (match lkA M.b s with|some k=>some k|none=>_)=_
  rw[hs]
 have hρr:∀s k,lkA M.r s=some (some k)→ρ s=(if χ k.1 k.2=true then none else some k)∧ξ s=χ k.1 k.2:=by
  intro s k hs
  have hn:lkA M.b s=none:=by
   cases hq:lkA M.b s with
   |none=>rfl
   |some k'=>exact (hbr s k' _ hq hs).elim
  constructor
  ·show (match lkA M.b s with|some k=>some k|none=>match lkA M.r s with|some (some k)=>if χ k.1 k.2=true then none else some k|_=>none)=_
   rw[hn,hs]
  ·show (match lkA M.b s with|some _=>false|none=>match lkA M.r s with|some none=>true|some (some k)=>χ k.1 k.2|none=>false)=_
   rw[hn,hs]
 have hξn:∀s,lkA M.r s=some none→ρ s=none∧ξ s=true:=by
  intro s hs
  have hn:lkA M.b s=none:=by
   cases hq:lkA M.b s with
   |none=>rfl
   |some k'=>exact (hbr s k' _ hq hs).elim
  constructor
  ·show (match lkA M.b s with|some k=>some k|none=>match lkA M.r s with|some (some k)=>if χ k.1 k.2=true then none else some k|_=>none)=_
   rw[hn,hs]
  ·show (match lkA M.b s with|some _=>false|none=>match lkA M.r s with|some none=>true|some (some k)=>χ k.1 k.2|none=>false)=_
   rw[hn,hs]
 have hρi:∀s k,ρ s=some k→(lkA M.b s=some k)∨(lkA M.r s=some (some k)∧χ k.1 k.2=false):=by
  intro s k hs
  have hs':(match lkA M.b s with|some k=>some k|none=>match lkA M.r s with|some (some k)=>if χ k.1 k.2=true then none else some k|_=>none)=some k:=hs
  split at hs'
  ·rename_i k' e;cases hs';exact .inl e
  ·split at hs'
   ·rename_i k' e
    split at hs'
    ·cases hs'
    ·rename_i hx';cases hs';exact .inr ⟨e,by simpa using hx'⟩
   ·cases hs'
 let tsS:TS K:=bdT C τ rg hh (a++b++c)
 obtain ⟨sub1,t1⟩:=yvq (P:=P) (ts1:=tsS) (χ:=χ) (ξ:=ξ) (ρ:=ρ) (ds:=ds) (p:=fun _=>False) hC hx τ.ks ⟨yx8 τ.rw,yxM τ.bx⟩ m1 a h1
 obtain ⟨sub2,t2⟩:=ys0 (P:=P) (ts1:=tsS) (χ:=χ) (ξ:=ξ) (ρ:=ρ) (ds:=ds) (p:=fun _=>False) hC hx τ.bx m1 M b h2
 obtain ⟨fr1,e1,f1⟩:=t1 (b++c)
 obtain ⟨od1,e2,g2,f2⟩:=t2 c
 have hS:tsS=⟨fr1,od1++bdR τ.rw c,[],rg,hh⟩:=by
  show bdT C τ rg hh (a++b++c)=_
  unfold bdT
  rw[List.append_assoc,e1]
  simp only
  rw[e2]
 have hlk:∀s,lkB tsS.od s=if memB od1 s=true then lkB od1 s else lkB (bdR τ.rw c) s:=by
  intro s;rw[hS];exact yrl _ _ s
 have hrowlk:∀s,τ.rw.any (fun q=>Nat.beq q.1 s)=true→lkB tsS.od s=lkB (bdR τ.rw c) s:=by
  intro s hs
  rw[hlk,if_neg]
  intro hm
  rw[g2] at hm
  exact hapart s hm hs
 have hGood:Good (rg:=rg) ts tsS χ ξ ρ M:=by
  refine ⟨?_,?_,?_,hρb,by rw[hS]⟩
  ·intro s k hs n hn
   obtain ⟨r1,r2⟩:=hρr s k hs
   have hnm:=hrname s _ hs
   obtain ⟨e,⟨q1,_⟩|⟨q,l',q1,q2,q3⟩⟩:=gb2 s (by rw[gb1];exact hnm)
   ·rw[hs] at q1;cases q1
   ·rw[hs] at q1;cases q1
    refine ⟨?_,fun hx'=>⟨by rw[r1,hx'];rfl,by rw[r2,hx']⟩,fun hx'=>by rw[r2,hx']⟩
    show tln (lkB tsS.od s)=_
    rw[hrowlk s hnm,q3]
    rw[(hγ.trow hC q2).1] at hn
    exact hn
  ·intro s k hs
   obtain ⟨e,⟨q1,_⟩|⟨q,l',q1,q2,q3⟩⟩:=gb2 s (by rw[gb1];exact hrname s _ hs)
   ·rw[hs] at q1;cases q1
   ·rw[hs] at q1;cases q1
    exact ⟨_,(hγ.trow hC q2).1⟩
  ·intro s hs
   obtain ⟨r1,r2⟩:=hξn s hs
   refine ⟨?_,r2⟩
   have hnm:=hrname s _ hs
   obtain ⟨e,⟨q1,q3⟩|⟨q,l',q1,q2,q3⟩⟩:=gb2 s (by rw[gb1];exact hnm)
   ·show tln (lkB tsS.od s)=_
    rw[hrowlk s hnm,q3];rfl
   ·rw[hs] at q1;cases q1
 have hlv:∀s b1,2000000≤s→lkB tsS.od s=some b1→R.L s=ξ s:=by
  intro s b1 h2 e9
  have hbl:Nat.ble 2000000 s=true:=Nat.ble_eq_true_of_le h2
  rw[hlk] at e9
  by_cases hm:memB od1 s=true
  ·obtain ⟨q,e,cs,cs1,q1,q2,_⟩:=f2 s hm
   have h8:=yfd q1 hfixM.1
   simp only[hbl,Bool.not_true,Bool.false_or] at h8
   have:=yim h8
   subst this
   have h7:ξ s=false:=by
    show (match lkA M.b s with|some _=>false|none=>match lkA M.r s with|some none=>true|some (some k)=>χ k.1 k.2|none=>false)=_
    rw[q1]
   rw[h7]
   exact (hγ.lv s _ h2 q2).trans (hγ.box q2)
  ·rw[if_neg hm] at e9
   obtain ⟨e,⟨q1,_⟩|⟨q,l',q1,q2,q3⟩⟩:=gb2 s (yg4 e9)
   ·have h8:=yfd q1 hfixM.2
    simp[hbl] at h8
   ·have h8:=yfd q1 hfixM.2
    simp only[hbl,Bool.not_true,Bool.false_or] at h8
    have:=yim h8
    subst this
    rw[(hρr s _ q1).2]
    have h6:=(hγ.trow hC q2).1
    cases hq:ts.tb s 1 with
    |none=>rw[hq] at h6;cases h6
    |some b=>exact hγ.lv s b h2 hq
 refine yAx hB hγ hk ρ (fun _=>False) ξ tsS (by rw[hS]) (fun H n=>hR H n) ?_ ?_ ?_ hlv ?_ ?_ (fun k h=>h.elim) hC ?_ (fun ks h1 h2=>⟨h1,_,h2⟩)
 ·intro s k hs
  rcases hρi s k hs with hb|⟨hr,hx'⟩
  ·have hm:memB od1 s=true:=by rw[g2];exact hbname s k hb
   obtain ⟨q,e,cs,cs1,q1,q2,q3,q4⟩:=f2 s hm
   rw[hb] at q1;cases q1
   exact ⟨hγ.box q2,_,_,q2,by rw[hlk,if_pos hm];exact q3,q4 hGood⟩
  ·have hnm:=hrname s _ hr
   obtain ⟨e,⟨q1,_⟩|⟨q,l',q1,q2,q3⟩⟩:=gb2 s (by rw[gb1];exact hnm)
   ·rw[hr] at q1;cases q1
   ·rw[hr] at q1;cases q1
    refine ⟨hx',?_⟩
    have q3':lkB tsS.od s=some (.row e l'):=by rw[hrowlk s hnm];exact q3
    unfold trow at q2
    split at q2
    ·rename_i e' l0 hb
     obtain ⟨rfl,rfl⟩:=ye5 q2
     exact ⟨_,_,hb,q3',BM.row⟩
    ·rename_i e' n cs hb
     split at q2
     ·rename_i he
      have:=nbeq.1 he;subst this
      exact ⟨_,_,hb,q3',BM.lr hC q2⟩
     ·cases q2
    ·cases q2
 ·intro s b1 hs hxx
  rw[hlk] at hs
  by_cases hm:memB od1 s=true
  ·obtain ⟨q,e,cs,cs1,q1,_⟩:=f2 s hm
   exact ⟨q,hρb s q q1⟩
  ·rw[if_neg hm] at hs
   have hm2:=yg4 hs
   obtain ⟨e,⟨q1,_⟩|⟨q,l',q1,q2,q3⟩⟩:=gb2 s hm2
   ·rw[(hξn s q1).2] at hxx;cases hxx
   ·obtain ⟨r1,r2⟩:=hρr s q q1
    rw[r2] at hxx
    exact ⟨q,by rw[r1,hxx];rfl⟩
 ·intro s hs
  have hs':(match lkA M.b s with|some _=>false|none=>match lkA M.r s with|some none=>true|some (some k)=>χ k.1 k.2|none=>false)=true:=hs
  split at hs'
  ·cases hs'
  ·split at hs'
   ·rename_i hr
    obtain ⟨r1,r2⟩:=hξn s hr
    refine ⟨r1,?_⟩
    have hnm:=hrname s _ hr
    obtain ⟨e,⟨q1,q3⟩|⟨q,l',q1,q2,q3⟩⟩:=gb2 s (by rw[gb1];exact hnm)
    ·exact ⟨e,by rw[hrowlk s hnm];exact q3⟩
    ·rw[hr] at q1;cases q1
   ·rename_i k hr
    obtain ⟨r1,r2⟩:=hρr s k hr
    refine ⟨by rw[r1,if_pos hs'],?_⟩
    have hnm:=hrname s _ hr
    obtain ⟨e,⟨q1,q3⟩|⟨q,l',q1,q2,q3⟩⟩:=gb2 s (by rw[gb1];exact hnm)
    ·rw[hr] at q1;cases q1
    ·rw[hr] at q1;cases q1
     have:=(hγ.trow hC q2).2.1 hs'
     subst this
     exact ⟨e,by rw[hrowlk s hnm];exact q3⟩
   ·cases hs'
 ·intro s k h2 hs
  have hbl:Nat.ble 2000000 s=true:=Nat.ble_eq_true_of_le h2
  rcases hρi s k hs with q1|⟨q1,_⟩
  ·have:=yfd q1 hfixM.1
   simp only[hbl,Bool.not_true,Bool.false_or] at this
   exact yim this
  ·have:=yfd q1 hfixM.2
   simp only[hbl,Bool.not_true,Bool.false_or] at this
   exact yim this
 ·intro s s' k hs hs'
  rcases hρi s k hs with q1|⟨q1,_⟩<;>rcases hρi s' k hs' with q2|⟨q2,_⟩
  ·exact ylM nb q1 q2
  ·exact absurd rfl (ndis k (yeN q2) k (yeL q1))
  ·exact absurd rfl (ndis k (yeN q1) k (yeL q2))
  ·exact yjK nr q1 q2
 ·intro t
  have:=f1 (hGood.sub sub2) t
  rw[hS];rw[hS] at this
  exact this
end
end Go.AV
end
noncomputable section
namespace Go.AV
open Go.RowKit Go.RG Go.Lib
variable {K:Nat->Type}
section
variable {P:Program} {C:Cx K} {R:RR K} {ts ts1:TS K} {χ:Nat->Nat->Bool} {ds:DS} {B:Base} [GB P B] {N:Nat} {ro:Option Nat}
theorem ymR (hC:CxOk P C) (t:Nat) (x:K t):TR P C ts χ (inV C t x) (eV C t x)∧(eV C t x).noL=true∧dwk (eV C t x)=eV C t x:=by
 obtain ⟨c1,c2⟩:=hC.c t x ts χ
 have hno:=(C.E t).no x
 have hdw:=hC.dw t x
 unfold inV eV
 cases hg:(C.T t).g with
 |true=>exact ⟨.agg _ _ c1 c2,hno,by simp only[dwk,hdw]⟩
 | false =>
   have hl:=(C.E t).len x
   rw[hC.g t hg] at hl
   cases he:(C.E t).c x with
   |nil=>rw[he] at hl;cases hl
   | cons a r=>
     cases r with
     |cons b r=>rw[he] at hl;simp at hl
     | nil=>
       rw[he] at c1 c2 hno hdw
       simp only[noLs,Bool.and_true] at hno
       simp only[dwks,List.cons.injEq,and_true] at hdw
       cases hc:(C.T t).c x with
       |nil=>rw[hc] at c1;simp at c1
       | cons u r=>cases r with
         |cons b r=>rw[hc] at c1;simp at c1
         |nil=>rw[hc] at c2;exact ⟨c2 0 u a rfl rfl,hno,hdw⟩
mutual
theorem yCj:∀(u:TV K) (v:AV),ybi u=true→TR P C ts χ u v→dwk v=tAV C u
 | .un,v,h,_=>by simp[ybi] at h
 | .lb b,v,_,t=>by rw[t.lbi];rfl
 | .bl b,v,_,t=>by rw[t.bli];rfl
 | .li k n,v,_,t=>by rw[t.int (k:=k) (n:=n) rfl];rfl
 | .it k n,v,_,t=>by rw[t.int (k:=k) (n:=n) rfl];rfl
 | .st s,v,_,t=>by rw[t.str];rfl
 | .agg us,v,h,t=>by
   obtain ⟨vs,rfl,a,b⟩:=t.agg'
   simp only[ybi] at h
   simp only[dwk,tAV,yi2 us vs h ⟨a,b⟩]
 | .tup us,v,h,t=>by
   obtain ⟨vs,rfl,a,b⟩:=t.tup'
   simp only[ybi] at h
   simp only[dwk,tAV,yi2 us vs h ⟨a,b⟩]
 | .nil,v,_,t=>by cases t;rfl
 | .em,v,_,t=>by cases t;rfl
 | .sl e l,v,_,t=>by
   obtain ⟨z,xs,hx,rfl⟩:=t.sli
   simp only[dwk,hx,tAV,slA]
 | .rw s c,v,h,_=>by simp[ybi] at h
 | .px s c o,v,h,_=>by simp[ybi] at h
 | .pr e s c i o,v,h,_=>by simp[ybi] at h
 | .ep e l i o,v,_,t=>by
   obtain ⟨xs,hx,rfl⟩:=t.epi
   simp only[dwk,hx,tAV]
 | .gs l i,v,_,t=>by
   obtain ⟨xs,hx,rfl⟩:=t.gsi
   simp only[dwk,hx,tAV]
 | .nptr,v,_,t=>by cases t;rfl
 | .fn f a c,v,h,t=>by
   simp only[ybi,Bool.and_eq_true] at h
   cases t with
   |fn _ _ _ a' c' ha hc h1 h2=>simp only[dwk,tAV,yi2 a a' h.1 ⟨ha,h1⟩,yi2 c c' h.2 ⟨hc,h2⟩]
 | .fv ps rs F,v,_,t=>by cases t with|fv _ _ _ _ h hv=>exact hv
 | .yl r,v,_,t=>by cases t;rfl
 | .cn id v',v,h,_=>by simp[ybi] at h
theorem yi2:∀(us:List (TV K)) (vs:List AV),ybQ us=true→TL P C ts χ us vs→dwks vs=tAVs C us
 | [],vs,_,t=>by
   have:vs= []:=List.eq_nil_of_length_eq_zero t.1
   subst this;rfl
 | u ::us,vs,h,t=>by
   cases vs with
   |nil=>simp[TL] at t
   | cons v vs=>
     simp only[ybQ,Bool.and_eq_true] at h
     simp only[dwks,tAVs,yCj u v h.1 t.head.1,yi2 us vs h.2 t.head.2]
end
theorem yr6 (hC:CxOk P C) {pd:PD} {u:TV K} {v:AV} {x:AD K} (h:out1 C pd u=some x) (hv:TR P C ts χ u v):v.noL=true∧dwk v=penc C pd x∧∃y,x= .d y:=by
 cases pd with
 | v t=>
   simp only[out1] at h
   split at h
   ·rename_i y e
    cases h
    obtain ⟨a1,a2,_⟩:=yo9 hC e hv
    exact ⟨a2,a1,_,rfl⟩
   ·cases h
 | p t=>
   simp only[out1] at h
   split at h
   ·rename_i e x' eu
    split at h
    ·rename_i he
     subst he
     cases h
     have:=hv.s
     rw[eu] at this
     obtain ⟨xs,hx,rfl⟩:=this.epi
     refine ⟨rfl,?_,_,rfl⟩
     simp only[dwk,hx,penc,dif_pos,cl,List.flatMap_cons,List.flatMap_nil,List.append_nil]
     simp
    ·cases h
   ·cases h
 |f ps rs=>simp only[out1] at h;cases h
theorem yoA (hC:CxOk P C):∀(ps:List PD) (us:List (TV K)) (vs:List AV) (xs:List (AD K)),outD C ps us=some xs→TL P C ts χ us vs→noLs vs=true∧dwks vs=ye6 C ps xs∧xs.length=ps.length∧(∀x∈xs,∃y,x= .d y)
 | [],[],vs,xs,h,t=>by
   cases h
   have:vs= []:=List.eq_nil_of_length_eq_zero t.1
   subst this;exact ⟨rfl,rfl,rfl,fun x hx=>by cases hx⟩
 | p ::ps,u::us,vs,xs,h,t=>by
   cases vs with
   |nil=>simp[TL] at t
   | cons v vs=>
     simp only[outD] at h
     split at h
     ·rename_i x r h1 h2
      cases h
      obtain ⟨a1,a2,a3⟩:=yr6 hC h1 t.head.1
      obtain ⟨b1,b2,b3,b4⟩:=yoA hC ps us vs r h2 t.head.2
      refine ⟨by simp[noLs,a1,b1],by simp only[dwks,ye6,a2,b2],by simp[b3],fun x hx=> ?_⟩
      rcases List.mem_cons.1 hx with rfl|hx
      ·exact a3
      ·exact b4 x hx
     ·cases h
 | [],_::_,_,_,h,_=>by simp[outD] at h
 |_::_,[],_,_,h,_=>by simp[outD] at h
theorem ymD (C:Cx K):∀(ps qs:List PD) (xs ys:List (AD K)),xs.length=ps.length→ye6 C (ps++qs) (xs++ys)=ye6 C ps xs++ye6 C qs ys
 | [],qs,xs,ys,h=>by
   have:xs= []:=List.eq_nil_of_length_eq_zero h
   subst this;rfl
 | p::ps,qs,xs,ys,h=>by
   cases xs with
   |nil=>simp at h
   |cons x xs=>simp only[List.cons_append,ye6];rw[ymD C ps qs xs ys (by simpa using h)]
theorem ywW (C:Cx K):∀(ps:List PD) (e:List (DV K)),allV ps=true→e.length=ps.length→ye6 C ps (e.map .d)=e.map (dvA C)
 | [],[],_,_=>rfl
 | [],_::_,_,h=>by simp at h
 |p::ps,[],_,h=>by simp at h
 | p::ps,y::e,h,hl=>by
   cases p with
   |v t=>simp only[List.map_cons,ye6];rw[ywW C ps e h (by simpa using hl)];rfl
   |p t=>cases h
   |f a b=>cases h
def SsOk (P:Program) (C:Cx K) (Φ:List (Sp K)):Prop:=∀sp∈Φ,SpOk P C sp
theorem yyM {Φ:List (Sp K)} {f:Nat} {sp:Sp K} (h:lkS Φ f=some sp):sp∈Φ∧sp.f=f:=by
 induction Φ with
 |nil=>cases h
 | cons q Φ ih=>
   simp only[lkS] at h
   split at h
   ·rename_i e;cases h;exact ⟨List.mem_cons_self,nbeq.1 e⟩
   ·exact ⟨List.mem_cons_of_mem _ (ih h).1,(ih h).2⟩
theorem ylP (hC:CxOk P C) {Φ:List (Sp K)} (hS:SsOk P C Φ) {pd:PD} {u:TV K} {v:AV} {x:AD K} (h:yvu C Φ pd u=some x) (hv:TR P C ts χ u v):v.noL=true∧dwk v=penc C pd x∧∀F,x= .f F→FOk P C F:=by
 have data:out1 C pd u=some x→v.noL=true∧dwk v=penc C pd x∧∀F,x= .f F→FOk P C F:=by
  intro h
  obtain ⟨a,b,y,rfl⟩:=yr6 hC h hv
  exact ⟨a,b,fun F e=>by cases e⟩
 cases pd with
 |v t=>exact data h
 |p t=>exact data h
 | f ps rs =>
   simp only[yvu] at h
   have hs:=hv.s
   split at h
   ·rename_i ps' rs' F e
    cases h
    rw[e] at hs
    cases hs with
    |fv _ _ _ _ hF hv'=>exact ⟨by rw[<-yha,hv'];exact hF.1,hv',fun F' e=>by cases e;exact hF⟩
   ·rename_i f a c e
    rw[e] at hs
    split at h
    ·rename_i sp hsp
     obtain ⟨hmem,hf⟩:=yyM hsp
     split at h
     ·rename_i xa xc ho
      split at h
      ·rename_i hall
       cases h
       simp only[Bool.and_eq_true] at hall
       obtain ⟨⟨hall,hna⟩,hnc⟩:=hall
       unfold yCT at ho
       split at ho
       ·rename_i xa' xc' h1 h2
        cases ho
        cases hs with
        | fn _ _ _ a' c' ha hc t1 t2=>
          have ta:TL P C ts χ a a':=⟨ha,t1⟩
          have tc:TL P C ts χ c c':=⟨hc,t2⟩
          obtain ⟨p1,p2,p3,p4⟩:=yoA hC _ a a' xa h1 ta
          obtain ⟨q1,q2,q3,q4⟩:=yoA hC _ c c' xc h2 tc
          have ea:=yi2 a a' hna ta
          have ec:=yi2 c c' hnc tc
          have hdv:dwk (.fn (.func f) a' c')= .fn (.func f) (tAVs C a) (tAVs C c):=by simp only[dwk,ea,ec]
          refine ⟨by simp[AV.noL,p1,q1],hdv,fun F e=> ?_⟩
          cases e
          refine ⟨?_,?_,rfl,f,tAVs C a,tAVs C c,rfl,fun en r hW=> ?_⟩
          ·rw[<-hdv,yha];simp[AV.noL,p1,q1]
          ·rw[<-hdv,yoD]
          ·simp only at hW
           split at hW
           ·rename_i hlen
            have hlen:=nbeq.1 hlen
            obtain ⟨hl,hP⟩:=hS sp hmem _ _ (fun F hF=>by
             rcases List.mem_append.1 hF with hF|hF
             ·rcases List.mem_append.1 hF with hF|hF
              ·obtain ⟨y,hy⟩:=p4 _ hF;cases hy
              ·obtain ⟨y,_,hy⟩:=List.mem_map.1 hF;cases hy
             ·obtain ⟨y,hy⟩:=q4 _ hF;cases hy) hW
            rw[hf] at hP
            have hps:sp.ps=sp.ps.take a.length++((sp.ps.drop a.length).take ps.length++sp.ps.drop (a.length+ps.length)):=by
             rw[<-List.drop_drop,List.take_append_drop,List.take_append_drop]
            simp only[List.length_append,List.length_map] at hl
            have hal:(sp.ps.take a.length).length=xa.length:=p3.symm
            have hml:((sp.ps.drop a.length).take ps.length).length=ps.length:=by
             rw[q3,p3] at hl
             simp only[List.length_take,List.length_drop] at hl⊢
             omega
            rw[hps,List.append_assoc,ymD C _ _ _ _ p3,ymD C _ _ _ _ (by simp[hlen,hml]),<-p2,<-q2,ea,ec,ywW C _ _ hall (by rw[hml,hlen]),<-List.append_assoc] at hP
            exact hP
           ·exact hW.elim
       ·cases ho
      ·cases h
     ·cases h
    ·cases h
   ·cases h
theorem yst (hC:CxOk P C) {Φ:List (Sp K)} (hS:SsOk P C Φ):∀(ps:List PD) (us:List (TV K)) (vs:List AV) (xs:List (AD K)),outA C Φ ps us=some xs→TL P C ts χ us vs→noLs vs=true∧dwks vs=ye6 C ps xs∧∀F,AD.f F∈xs→FOk P C F
 | [],[],vs,xs,h,t=>by
   cases h
   have:vs= []:=List.eq_nil_of_length_eq_zero t.1
   subst this;exact ⟨rfl,rfl,fun F hF=>by cases hF⟩
 | p ::ps,u::us,vs,xs,h,t=>by
   cases vs with
   |nil=>simp[TL] at t
   | cons v vs=>
     simp only[outA] at h
     split at h
     ·rename_i x r h1 h2
      cases h
      obtain ⟨a1,a2,a3⟩:=ylP hC hS h1 t.head.1
      obtain ⟨b1,b2,b3⟩:=yst hC hS ps us vs r h2 t.head.2
      refine ⟨by simp[noLs,a1,b1],by simp only[dwks,ye6,a2,b2],fun F hF=> ?_⟩
      rcases List.mem_cons.1 hF with e|hF
      ·exact a3 F e.symm
      ·exact b3 F hF
     ·cases h
 | [],_::_,_,_,h,_=>by simp[outA] at h
 |_::_,[],_,_,h,_=>by simp[outA] at h
structure Kil (ts ts':TS K) (χ χ':Nat→Nat→Bool):Prop where
 m:Mono ts ts' χ χ'
 d:∀s c,tln (ts.tb s c)=none->χ s c=false->tln (ts'.tb s c)=none/\χ' s c=false
theorem Kil.refl {ts:TS K} {χ:Nat->Nat->Bool}:Kil ts ts χ χ:=⟨.refl,fun _ _ a b=>⟨a,b⟩⟩
theorem Kil.trans {ts ts' ts'':TS K} {χ χ' χ'':Nat->Nat->Bool} (h:Kil ts ts' χ χ') (k:Kil ts' ts'' χ' χ''):Kil ts ts'' χ χ'':=⟨h.m.trans k.m k.d,fun s c a b=>k.d s c (h.d s c a b).1 (h.d s c a b).2⟩
theorem Kil.one {ts:TS K} {χ:Nat→Nat→Bool} {s c:Nat} (hc:c=1∨c=2):Kil ts (ts.setb s c none) χ (updχ χ s c false):=by
 refine ⟨Mono.setb hc (fun _=> .inl ⟨rfl,rfl⟩),fun s' c' a b=> ?_⟩
 rw[ycD ts s c none hc]
 unfold updχ
 by_cases e:s'=s/\c'=c
 ·rw[if_pos e,if_pos e];exact ⟨rfl,rfl⟩
 ·rw[if_neg e,if_neg e];exact ⟨a,b⟩
theorem ytA (hC:CxOk P C) {Φ:List (Sp K)} (hS:SsOk P C Φ):∀(ps:List PD) (us:List (TV K)) (xs:List (AD K)),outA C Φ ps us=some xs→∀u∈us,∀(ts:TS K) (χ:Nat→Nat→Bool) (v:AV),TR P C ts χ u v→v.noL=true
 | [],[],_,_,u,hu,_,_,_,_=>by cases hu
 | p::ps,w::us,xs,h,u,hu,ts,χ,v,hv=>by
   simp only[outA] at h
   split at h
   ·rename_i x r h1 h2
    rcases List.mem_cons.1 hu with rfl|hu
    ·exact (ylP hC hS h1 hv).1
    ·exact ytA hC hS ps us r h2 u hu ts χ v hv
   ·cases h
 | [],_::_,_,h,_,_,_,_,_,_=>by simp[outA] at h
 |_::_,[],_,h,_,_,_,_,_,_=>by simp[outA] at h
theorem ysP (hC:CxOk P C):∀(ps:List PD) (us:List (TV K)) (xs:List (AD K)),outD C ps us=some xs→∀u∈us,∀(ts:TS K) (χ:Nat→Nat→Bool) (v:AV),TR P C ts χ u v→v.noL=true
 | [],[],_,_,u,hu,_,_,_,_=>by cases hu
 | p::ps,w::us,xs,h,u,hu,ts,χ,v,hv=>by
   simp only[outD] at h
   split at h
   ·rename_i x r h1 h2
    rcases List.mem_cons.1 hu with rfl|hu
    ·exact (yr6 hC h1 hv).1
    ·exact ysP hC ps us r h2 u hu ts χ v hv
   ·cases h
 | [],_::_,_,h,_,_,_,_,_,_=>by simp[outD] at h
 |_::_,[],_,h,_,_,_,_,_,_=>by simp[outD] at h
theorem yj2 (hC:CxOk P C):∀(us:List (TV K)) (vs:List AV) (ts:TS K) (χ:Nat→Nat→Bool) (ds:DS) (ws:List (TV K)) (ts':TS K),DOk ds→GM P C R ts χ ds→TL P C ts χ us vs→yrK C ts us=some (ws,ts')→(∀w∈ws,∀(ts:TS K) (χ:Nat→Nat→Bool) (v:AV),TR P C ts χ w v→v.noL=true)→
  ∃vs' kl ds1 χ',yg5 vs ds=some (vs',kl,ds1)/\noLs vs'=true/\TL P C ts' χ' ws vs'/\GM P C R ts' χ' ds1/\DOk ds1/\ts'.rg=ts.rg/\Kil ts ts' χ χ'/\(∀k∈kl,∃u∈us,u.s= .rw k.1 k.2)
 | [],vs,ts,χ,ds,ws,ts',hk,hγ,t,h,hn=>by
   cases h
   have:vs= []:=List.eq_nil_of_length_eq_zero t.1
   subst this
   exact ⟨[],[],ds,χ,rfl,rfl, .nil,hγ,hk,rfl, .refl,fun k hk=>by cases hk⟩
 | u :: us,vs,ts,χ,ds,ws,ts',hk,hγ,t,h,hn=>by
   cases vs with
   |nil=>simp[TL] at t
   | cons v vs=>
     have quiet:∀ {ws2:List (TV K)},yrK C ts us=some (ws2,ts')→ws=u::ws2→∃vs' kl ds1 χ',yg5 (v::vs) ds=some (vs',kl,ds1)∧noLs vs'=true∧TL P C ts' χ' ws vs'∧GM P C R ts' χ' ds1∧DOk ds1∧ts'.rg=ts.rg∧Kil ts ts' χ χ'∧(∀k∈kl,∃u'∈u::us,u'.s= .rw k.1 k.2):=by
      intro ws2 h2 e
      subst e
      have hv:v.noL=true:=hn u List.mem_cons_self ts χ v t.head.1
      obtain ⟨vs',kl,ds1,χ',a1,a2,a3,a4,a5,a6,a7,a8⟩:=yj2 hC us vs ts χ ds ws2 ts' hk hγ t.head.2 h2 (fun w hw=>hn w (List.mem_cons_of_mem _ hw))
      refine ⟨v::vs',kl,ds1,χ',?_,by simp[noLs,hv,a2], .cons (t.head.1.mono a7.m) a3,a4,a5,a6,a7,fun k hk=> ?_⟩
      ·simp only[yg5,hv,a1]
      ·obtain ⟨u',h1,h2⟩:=a8 k hk;exact ⟨u',List.mem_cons_of_mem _ h1,h2⟩
     simp only[yrK] at h
     split at h
     ·rename_i s c eu
      split at h
      ·rename_i l hl
       split at h
       ·rename_i ws2 ts2 h2
        cases h
        have hs:=t.head.1.s
        rw[eu] at hs
        obtain ⟨g1,g2,g3⟩:=hγ.trow hC hl
        have hcc:c=1∨c=2:=(yp1 g1).imp id (·.1)
        rcases hs.rwi g1 with ⟨hχ,rfl⟩|⟨hχ,h0,rfl⟩
        ·obtain ⟨kb,k1,k2,k3,k4⟩:=g3 hχ
         have hγ1:=hγ.setb (s:=s) (c:=c) (b:=none) (kb:=none) hcc (Kil.one hcc).m (fun b' hb'=>by cases hb') (fun _ h9=>by cases h9)
         have hk1:DOk (ds.set s c none):=hk.set hcc (fun x hx=>by cases hx)
         obtain ⟨vs',kl,ds1,χ',a1,a2,a3,a4,a5,a6,a7,a8⟩:=yj2 hC us vs (ts.setb s c none) (updχ χ s c false) (ds.set s c none) ws2 ts' hk1 hγ1 (t.head.2.mono (Kil.one hcc).m) h2 (fun w hw=>hn w (List.mem_cons_of_mem _ hw))
         refine ⟨.sl false l.length kb.cells::vs',(s,c)::kl,ds1,χ',?_,by simp[noLs,AV.noL,a2], .cons (.sl _ l _ _ _ rfl k4) a3,a4,a5,by rw[a6,ycv],(Kil.one hcc).trans a7,fun k hk=> ?_⟩
         ·have hb:(Nat.beq kb.cells.length (l.length*kb.sz)&&noLs kb.cells)=true:=by
           rw[Bool.and_eq_true]
           exact ⟨nbeq.2 (by rw[k3,<-ybI kb.cells,k4,yhp]),ycg k4⟩
          simp only[yg5,AV.noL,k1,hb,a1]
         ·rcases List.mem_cons.1 hk with rfl|hk
          ·exact ⟨u,List.mem_cons_self,eu⟩
          ·obtain ⟨u',h1,h2⟩:=a8 k hk;exact ⟨u',List.mem_cons_of_mem _ h1,h2⟩
        ·have hnil:=g2 hχ
         have hγ1:=hγ.kill (s:=s) (c:=c) hcc
         obtain ⟨vs',kl,ds1,χ',a1,a2,a3,a4,a5,a6,a7,a8⟩:=yj2 hC us vs (ts.setb s c none) (updχ χ s c false) ds ws2 ts' hk hγ1 (t.head.2.mono (Kil.one hcc).m) h2 (fun w hw=>hn w (List.mem_cons_of_mem _ hw))
         refine ⟨.sl true 0 []::vs',kl,ds1,χ',?_,by simp[noLs,AV.noL,a2], .cons (by rw[hnil];exact .sl _ [] _ _ _ rfl rfl) a3,a4,a5,by rw[a6,ycv],(Kil.one hcc).trans a7,fun k hk=> ?_⟩
         ·simp only[yg5,AV.noL,a1]
         ·obtain ⟨u',h1,h2⟩:=a8 k hk;exact ⟨u',List.mem_cons_of_mem _ h1,h2⟩
       ·cases h
      ·cases h
     ·rename_i hne
      split at h
      ·rename_i ws2 ts2 h2
       cases h
       exact quiet h2 rfl
      ·cases h
theorem ywy (hC:CxOk P C):∀(rs:List Nat) (p:List (DV K)→List (TV K)→Prop),exR C rs p→∃r us,p r us∧noLs (r.map (dvA C))=true∧∀(ts:TS K) (χ:Nat→Nat→Bool),TL P C ts χ us (r.map (dvA C))
 | [],p,h=>⟨[],[],h,rfl,fun _ _=> .nil⟩
 | t::rs,p,h=>by
   obtain ⟨z,h⟩:=h
   obtain ⟨r,us,h1,h2,h3⟩:=ywy hC rs _ h
   exact ⟨.v t z::r,inV C t z::us,h1,by simp only[List.map_cons,noLs,h2,Bool.and_true];exact (ymR (P:=P) (ts:=⟨[],[],[],[],[]⟩) (χ:=fun _ _=>false) hC t z).2.1,fun ts χ=> .cons (ymR hC t z).1 (h3 ts χ)⟩
theorem ypt {us:List (TV K)} {vs:List AV} (h:TL P C ts χ us vs):TR P C ts χ (tres us) (ydJ vs):=by
 match us,vs,h with
 | [],[],h=>exact .tup _ _ rfl (fun j u v h=>by simp at h)
 | [u],[v],h=>exact h.head.1
 |u::u'::us,v::v'::vs,h=>exact .tup _ _ h.1 h.2
 | [],_::_,h=>simp[TL] at h
 |_::_,[],h=>simp[TL] at h
 | [_],_::_::_,h=>simp[TL] at h
 |_::_::_,[_],h=>simp[TL] at h
theorem ylc {f:FuncId} {vs vs':List AV} {S:St} {S1:St} {v:AV} {k:AV→St→Prop} (hp:pubL vs S=(vs',S1)) (hn:noLs vs'=true) (hF:Pure P f (dwks vs') v) (h:k v S1):ytz P (.f f) vs S k:=by
 unfold ytz
 rw[hp]
 refine ⟨hn,(ybc.dwkA (hF S1.hp S1.nx)).mono ?_⟩
 rintro av H' n' ⟨rfl,rfl,rfl⟩
 rw[yuf]
 exact h
theorem yqo:∀(a:List AV) {vs vs':List AV} {ds d1:DS} {kl:List (Nat×Nat)},noLs a=true→yg5 vs ds=some (vs',kl,d1)→yg5 (a++vs) ds=some (a++vs',kl,d1)
 | [],_,_,_,_,_,_,h=>h
 | x::a,vs,vs',ds,d1,kl,hn,h=>by
   simp only[noLs,Bool.and_eq_true] at hn
   simp only[List.cons_append,yg5,hn.1,yqo a hn.2 h]
theorem yqs:∀(a:List AV) (ds:DS),noLs a=true→yg5 a ds=some (a,[],ds)
 | [],_,_=>rfl
 | x::a,ds,hn=>by
   simp only[noLs,Bool.and_eq_true] at hn
   simp only[yg5,hn.1,yqs a ds hn.2]
theorem ykB:∀(vs:List AV) {c vs':List AV} {ds d1:DS} {kl:List (Nat×Nat)},noLs c=true→yg5 vs ds=some (vs',kl,d1)→yg5 (vs++c) ds=some (vs'++c,kl,d1)
 | [],c,vs',ds,d1,kl,hn,h=>by cases h;exact yqs c _ hn
 | x ::vs,c,vs',ds,d1,kl,hn,h=>by
   simp only[List.cons_append,yg5] at h⊢
   split at h
   ·split at h
    ·rename_i h1;cases h;simp only[ykB vs hn h1,List.cons_append]
    ·cases h
   ·split at h
    ·split at h
     ·split at h
      ·split at h
       ·rename_i hkb _ hb _ _ _ _ h1;cases h;simp only[ykB vs hn h1,hb,hkb,List.cons_append]
       ·cases h
      ·cases h
     ·cases h
    ·cases h
theorem yte {a b:List AV}:noLs (a++b)=(noLs a&&noLs b):=by
 induction a with
 |nil=>rfl
 |cons x a ih=>simp only[List.cons_append,noLs,ih,Bool.and_assoc]
structure yu2 (P:Program) (o:AO) (ds:DS) (f:FuncId) (vs vs':List AV) (kl:List (Nat×Nat)) (d1:DS) (v:AV):Prop where
 ho:CalO o ds f vs
 nl:noLs vs'=true
 pure:Pure P f (dwks vs') v
 way:yg5 vs ds=some (vs',kl,d1)∨(kl= []/\d1=ds/\vs'=vs.map (vwV (toD ds).M)/\v.flat=true)
theorem yyv {M:Key→Option Blk} {v:AV} (h:v.noL=true):vw1 M v=v:=by
 unfold vw1
 split
 ·simp[AV.noL] at h
 ·rfl
theorem yzi (hC:CxOk P C) (hγ:GM P C R ts χ ds) (hk:DOk ds) {u:TV K} {v:AV} (h:TR P C ts χ u v):TR P C ts χ (vt1 C ts u) (vw1 (toD ds).M v):=by
 unfold vt1
 split
 ·rename_i s c eu
  split
  ·rename_i l hl
   have hs:=h.s
   rw[eu] at hs
   obtain ⟨g1,g2,g3⟩:=hγ.trow hC hl
   rcases hs.rwi g1 with ⟨hχ,rfl⟩|⟨hχ,h0,rfl⟩
   ·obtain ⟨kb,k1,k2,k3,k4⟩:=g3 hχ
    have hm:(toD ds).M (.l s c)=some kb.blk:=by show (ds.kb s c).map KB.blk=_;rw[k1];rfl
    have hcond:kb.blk.cells.length=l.length*kb.blk.sz∧kb.blk.sz≠0∧noLs kb.blk.cells=true:=
     ⟨by show kb.cells.length=_*kb.sz;rw[k3,<-ybI kb.cells,k4,yhp],(hk s c kb k1).1,ycg k4⟩
    simp only[vw1,hm]
    rw[if_pos hcond]
    exact .sl _ l _ _ _ rfl k4
   ·have:=g2 hχ
    rw[this]
    exact .sl _ [] _ _ _ rfl rfl
  ·exact .un _
 ·rename_i hne
  have hv:vw1 (toD ds).M v=v∨u.s= .un:=by
   have hs:=h.s
   revert hs hne
   generalize u.s=w
   intro hne hs
   cases hs with
   |rwd s c v _ _ _=>exact absurd rfl (hne s c)
   |rw s c n _ _ _=>exact absurd rfl (hne s c)
   |rwn s c _ _ _=>exact absurd rfl (hne s c)
   |un v=>exact .inr rfl
   | fv ps rs F v hF hv'=>
     left
     obtain ⟨g1,_⟩:=hF
     exact yyv (by rw[<-yha,hv'];exact g1)
   |cn id w v hl hn hv'=>exact .inl (yyv (hv'.noref hn (ts':=ts) (χ':=χ)).2)
   |_=>exact .inl rfl
  rcases hv with e|e
  ·rw[e];exact h
  ·cases u with
   |un=>exact .un _
   | cn id w=>
     cases h with
     | cn _ _ _ hl hn hv'=>
       simp only[TV.s] at e
       subst e
       simp[ybi] at hn
   |_=>cases e
theorem yCz (hC:CxOk P C) (hγ:GM P C R ts χ ds) (hk:DOk ds) {u:TV K} {v:AV} (h:TR P C ts χ u v):TR P C ts χ (vtV C ts u) (vwV (toD ds).M v):=by
 unfold vtV
 split
 ·rename_i cs eu
  have hs:=h.s
  rw[eu] at hs
  obtain ⟨vs,rfl,hl,hc⟩:=hs.agg'
  refine .agg _ _ (by simpa using hl) fun j u' v' p q=> ?_
  rw[List.getElem?_map] at p q
  obtain ⟨x,h1,rfl⟩:=Option.map_eq_some_iff.1 p
  obtain ⟨y,h2,rfl⟩:=Option.map_eq_some_iff.1 q
  exact yzi hC hγ hk (hc j x y h1 h2)
 ·rename_i hne
  have h1:=yzi hC hγ hk h
  cases v with
  | agg cs=>
    have hs:=h.s
    revert hs
    cases hw:u.s with
    |agg us=>exact absurd hw (hne us)
    | un=>
      intro _
      have:vt1 C ts u=u:=by unfold vt1;rw[hw]
      rw[this]
      cases u with
      |un=>exact .un _
      | cn id w=>
        cases h with
        |cn _ _ _ hl hn hv'=>simp only[TV.s] at hw;subst hw;simp[ybi] at hn
      |_=>cases hw
    | rw s c=>
      intro hs
      cases hs with
      |rwd _ _ _ _ _ h0=>cases h0
    | fv ps rs F=>
      intro hs
      cases hs with
      | fv _ _ _ _ hF hv'=>
        obtain ⟨_,_,_,f,a,c,e,_⟩:=hF
        rw[e] at hv';simp[dwk] at hv'
    | cn id w=>
      intro _
      cases u with
      | cn id' w'=>
        cases h with
        |cn _ _ _ hl hn hv'=>simp only[TV.s] at hw;subst hw;simp[ybi] at hn
      |_=>cases hw
    |_=>intro hs;cases hs
  |_=>exact h1
theorem yBH (hC:CxOk P C) (hγ:GM P C R ts χ ds) (hk:DOk ds) {us:List (TV K)} {vs:List AV} (h:TL P C ts χ us vs):TL P C ts χ (us.map (vtV C ts)) (vs.map (vwV (toD ds).M)):=by
 refine ⟨by simpa using h.1,fun j u v p q=> ?_⟩
 rw[List.getElem?_map] at p q
 obtain ⟨x,h1,rfl⟩:=Option.map_eq_some_iff.1 p
 obtain ⟨y,h2,rfl⟩:=Option.map_eq_some_iff.1 q
 exact yCz hC hγ hk (h.2 j x y h1 h2)
theorem yz8 (hC:CxOk P C) {t:Nat} (h:(C.T t).fl=true) (x:K t):(eV C t x).flat=true:=by
 have:=hC.fl t h x
 unfold eV
 split
 ·exact this
 ·rename_i hg
  have h1:=hC.g t hg
  have h2:=(C.E t).len x
  rw[h1] at h2
  obtain ⟨v,hv⟩:=List.length_eq_one_iff.1 h2
  rw[hv] at this⊢
  simp only[yhe,Bool.and_true] at this
  exact this
theorem ysZ (hC:CxOk P C):∀(rs:List Nat) (p:List (DV K)→List (TV K)→Prop),rs.all (fun t=>(C.T t).fl)=true→exR C rs p→∃r us,p r us∧noLs (r.map (dvA C))=true∧(∀(ts:TS K) (χ:Nat→Nat→Bool),TL P C ts χ us (r.map (dvA C)))∧yhe (r.map (dvA C))=true
 | [],p,_,h=>⟨[],[],h,rfl,fun _ _=> .nil,rfl⟩
 | t::rs,p,hf,h=>by
   obtain ⟨z,h⟩:=h
   simp only[List.all_cons,Bool.and_eq_true] at hf
   obtain ⟨r,us,h1,h2,h3,h4⟩:=ysZ hC rs _ hf.2 h
   obtain ⟨q1,q2,q3⟩:=ymR (P:=P) (ts:=⟨[],[],[],[],[]⟩) (χ:=fun _ _=>false) hC t z
   refine ⟨.v t z::r,inV C t z::us,h1,by simp[noLs,dvA,q2,h2],fun ts χ=> .cons (ymR (P:=P) (ts:=ts) (χ:=χ) hC t z).1 (h3 ts χ),?_⟩
   simp only[List.map_cons,yhe,dvA,yz8 hC hf.1 z,h4,Bool.and_true]
theorem yus:∀ {vs:List AV},yhe vs=true→(ydJ vs).flat=true
 | [],_=>rfl
 | [v],h=>by simpa [yhe,ydJ] using h
 |v::w::vs,h=>h
theorem yo7 (hC:CxOk P C) {Φ:List (Sp K)} (hS:SsOk P C Φ) (hγ:GM P C R ts χ ds) (hk:DOk ds) {o:AO} {f:Nat} {us:List (TV K)} {vs:List AV} {X:TS K→Prop} (ht:TL P C ts χ us vs) (ho:CalO o ds f vs) (h:yxj C Φ ts o.dst f us X):
  ∃vs' kl d1 v ts' χ',yu2 P o ds f vs vs' kl d1 v/\GM P C R ts' χ' (d1.put o.dst v)/\DOk d1/\X ts'/\ts'.rg=ts.rg/\(flS C Φ f=true->kl= [])/\(∀k∈kl,∃u∈us,u.s= .rw k.1 k.2):=by
 unfold yxj at h
 split at h
 rotate_left
 ·exact h.elim
 rename_i sp h1
 obtain ⟨hmem,hf⟩:=yyM h1
 split at h
 ·rename_i hfl
  split at h
  ·rename_i env he
   have tv:=yBH hC hγ hk ht
   obtain ⟨b1,b2,b3⟩:=yst hC hS _ _ _ _ he tv
   obtain ⟨r,rs,⟨hW,hX⟩,n1,n2,n3⟩:=ysZ (P:=P) hC _ _ hfl h
   obtain ⟨_,hP⟩:=hS sp hmem env r b3 hW
   rw[hf] at hP
   exact ⟨vs.map (vwV (toD ds).M),[],ds,ydJ (r.map (dvA C)),_,χ,⟨ho,b1,by rw[b2];exact hP, .inr ⟨rfl,rfl,rfl,yus n3⟩⟩,hγ.put (ypt (n2 _ _)),hk,hX,by rw[yb2],fun _=>rfl,fun k hk=>by cases hk⟩
  ·exact h.elim
 ·rename_i hfl
  split at h
  rotate_left
  ·exact h.elim
  rename_i ws ts2 h2
  split at h
  ·rename_i env he
   obtain ⟨vs',kl,ds1,χ',a1,a2,a3,a4,a5,a6,a7,a8⟩:=yj2 hC us vs ts χ ds ws ts2 hk hγ ht h2 (ytA hC hS _ _ _ he)
   obtain ⟨b1,b2,b3⟩:=yst hC hS _ _ _ _ he a3
   obtain ⟨r,rs,⟨hW,hX⟩,n1,n2⟩:=ywy (P:=P) hC _ _ h
   obtain ⟨_,hP⟩:=hS sp hmem env r b3 hW
   rw[hf] at hP
   exact ⟨vs',kl,ds1,ydJ (r.map (dvA C)),_,χ',⟨ho,a2,by rw[b2];exact hP, .inl a1⟩,a4.put (ypt (n2 _ _)),a5,hX,by rw[yb2];exact a6,fun hq=>(by unfold flS at hq;rw[h1] at hq;simp only at hq;rw[hfl] at hq;cases hq),a8⟩
  ·exact h.elim
theorem ys5 (hC:CxOk P C) (hγ:GM P C R ts χ ds) (hk:DOk ds) {o:AO} {F:FV K} (hF:FOk P C F) {ps rs:List Nat} {x:AOpd} {args:List AOpd} {v:AV} (hop:o.op= .calv x args) (hx:ev (lkF ds.fr) x=v) (hv:dwk v=F.av) {us:List (TV K)} {X:TS K→Prop} (ht:TL P C ts χ us (args.map (ev (lkF ds.fr)))) (h:yBb C ts o.dst F ps rs us X):
  ∃f vs vs' kl d1 w ts' χ',yu2 P o ds f vs vs' kl d1 w/\GM P C R ts' χ' (d1.put o.dst w)/\DOk d1/\X ts'/\ts'.rg=ts.rg/\(∀k∈kl,∃u∈us,u.s= .rw k.1 k.2):=by
 unfold yBb at h
 split at h
 ·rename_i ws ts2 h2
  split at h
  ·rename_i env he
   obtain ⟨vs',kl,ds1,χ',a1,a2,a3,a4,a5,a6,a7,a8⟩:=yj2 hC us _ ts χ ds ws ts2 hk hγ ht h2 (ysP hC _ _ _ he)
   obtain ⟨b1,b2,b3,b4⟩:=yoA hC _ _ _ _ he a3
   obtain ⟨r,rr,⟨hW,hX⟩,n1,n2⟩:=ywy (P:=P) hC _ _ h
   obtain ⟨g1,g2,g3,f,a,c,g4,g5⟩:=hF
   have hP:=g5 _ _ hW
   rw[g4] at hv
   cases v with
   | fn f' a' c'=>
     simp only[dwk,AV.fn.injEq] at hv
     obtain ⟨rfl,e1,e2⟩:=hv
     have hnl:noLs a'=true∧noLs c'=true:=by
      rw[g4] at g1
      simp only[AV.noL,Bool.and_eq_true] at g1
      rw[<-e1,<-e2,yeS,yeS] at g1
      exact g1
     have henv:(env.filterMap adD).map (dvA C)=dwks vs':=by
      rw[b2]
      clear he h hX hW hP b2 b1
      induction env generalizing ps with
      |nil=>cases ps<;>rfl
      | cons y env ih=>
        cases ps with
        |nil=>simp at b3
        | cons q ps=>
          obtain ⟨z,rfl⟩:=b4 y List.mem_cons_self
          simp only[List.filterMap_cons,adD,List.map_cons,ye6]
          rw[ih (by simpa using b3) (fun x hx=>b4 x (List.mem_cons_of_mem _ hx))]
          rfl
     have hpub:=yqo a' hnl.1 (ykB _ hnl.2 a1)
     refine ⟨f,a'++(args.map (ev (lkF ds.fr))++c'),a'++(vs'++c'),kl,ds1,ydJ (r.map (dvA C)),_,χ',⟨.inr ⟨x,args,a',c',hop,hx,by rw[List.append_assoc]⟩,by simp[yte,hnl,a2],?_, .inl hpub⟩,a4.put (ypt (n2 _ _)),a5,hX,by rw[yb2];exact a6,a8⟩
     rw[yc5,yc5,e1,e2,<-henv,<-List.append_assoc]
     exact hP
   |_=>simp[dwk] at hv
  ·exact h.elim
 ·exact h.elim
section
variable {L:List AO} {Q:KS->Prop} {i:Nat}
theorem ytf {o:AO} {f:FuncId} {vs vs':List AV} {kl:List (Nat×Nat)} {d1:DS} {v:AV} (e0:L[i]? =some o) (hg:gok o.guard ds.fr=true) (h:yu2 P o ds f vs vs' kl d1 v) (k:WD P B N ro L (i+1) Q (d1.put o.dst v)):WD P B N ro L i Q ds:=by
 refine yxg (hs:=fun _=>false) e0 hg fun hk=> ?_
 have fin:yfM P (.f f) vs (toD ds) fun v S'=>∃ds',S'.put o.dst v=toD ds'∧DOk ds'∧WD P B N ro L (i+1) Q ds':=by
  rcases h.way with hw|⟨rfl,rfl,rfl,hfl⟩
  ·obtain ⟨a1,a2,a3,_⟩:=ylL vs ds vs' kl d1 hk hw
   exact .inl (ylc a1 h.nl h.pure ⟨_,ycs d1 o.dst v,a3.put,k⟩)
  ·exact .inr (.inl ⟨f,v,rfl,h.nl,fun H n=>ybc.dwkA (h.pure H n),hfl,_,ycs d1 o.dst v,hk.put,k⟩)
 rcases h.ho with ⟨args,h1,h2⟩|⟨x,args,first,cap,h1,h2,h3⟩
 ·rw[h1];simp only[aop];rw[ycE,h2];exact fin
 ·rw[h1];simp only[aop];rw[ycE,h2];simp only;rw[h3];exact fin
end
end
end Go.AV
end
noncomputable section
namespace Go.AV
open Go.RowKit Go.RG Go.Lib
variable {K:Nat->Type}
def memT (C:Cx K) (ts:TS K) (χ:Nat→Nat→Bool) (s:Nat):Option Blk:=match χ s 1 with
 |true=>none
 |false=>(lkB ts.od s).map (bT C ts χ)
def argT (C:Cx K) (sp:Sl K) (ts0:TS K) (χ:Nat->Nat->Bool):List AV:=(List.range (npL sp)).map fun i=>aT C ts0 χ (lkT ts0.fr i)
def ViOk (ts:TS K) (χ:Nat->Nat->Bool):Prop:=∀s c,χ s c=true->∃e,ts.tb s c=some (.row e [])
def EndL (C:Cx K) (sp:Sl K) (ts0:TS K) (χ:Nat→Nat→Bool) (out:List (DV K)) (H:Hp) (n:Nat) (av:AV) (S1:St):Prop:=
 ∃env' χ',wt (ctT sp.to) env'=true∧kpt ts0 (bdT C sp.to [] [] env') sp.kp (eqDV (selL sp env') out)∧ViOk (bdT C sp.to [] [] env') χ'∧(∀s b,2000000≤s→(bdT C sp.to [] [] env').tb s 1=some b→χ' s 1=χ s 1)∧
  (∃us,ydX (bdT C sp.to [] [] env') sp.res=some us/\av=ydJ (aTs C (bdT C sp.to [] [] env') χ' us))/\S1.hp=H/\S1.nx=n/\(∀d,S1.cnt d=1)/\
  ∀s b,lkB (bdT C sp.to [] [] env').od s=some b->χ' s 1=false->S1.M (.l s 1)=some (bT C (bdT C sp.to [] [] env') χ' b)
def SlOk (P:Program) (C:Cx K) (sp:Sl K):Prop:=∀(fs:List (FV K)) (env out:List (DV K)),fs.length=sp.fs.length→(∀F∈fs,FOk P C F)→sp.W fs env out→
 ∀χ,ViOk (entL C sp fs env) χ->∀H n,ybf P sp.f (argT C sp (entL C sp fs env) χ) (memT C (entL C sp fs env) χ) H n (EndL C sp (entL C sp fs env) χ out H n)
def kbT (C:Cx K) (ts:TS K) (χ:Nat→Nat→Bool) (s:Nat):KB:=match lkB ts.od s with
 |some b=>⟨(bT C ts χ b).e,(bT C ts χ b).sz,(bT C ts χ b).cells,false⟩
 |none=>⟨0,0,[],false⟩
def memK (C:Cx K) (ts:TS K) (χ:Nat->Nat->Bool):List (Nat×KB):=(ts.od.filter fun p=>(lkB ts.od p.1).isSome&& !χ p.1 1).map fun p=>(p.1,kbT C ts χ p.1)
theorem yrE (C:Cx K) (ts:TS K) (χ:Nat→Nat→Bool) (s:Nat):lkM (memK C ts χ) s=if (lkB ts.od s).isSome&& !χ s 1 then some (kbT C ts χ s) else none:=by
 unfold memK
 rw[ymd (fun s=>(lkB ts.od s).isSome&& !χ s 1) (kbT C ts χ) ts.od s]
 by_cases h:((lkB ts.od s).isSome&& !χ s 1)=true
 ·have hm:memB ts.od s=true:=by
   simp only[Bool.and_eq_true] at h
   obtain ⟨b,hb⟩:=Option.isSome_iff_exists.1 h.1
   exact yg4 hb
  rw[if_pos ⟨hm,h⟩,if_pos h]
 ·rw[if_neg (fun q=>h q.2),if_neg h]
theorem yDa (C:Cx K) (ts:TS K) (χ:Nat→Nat→Bool):(fun d=>(lkM (memK C ts χ) d).map KB.blk)=memT C ts χ:=by
 funext s
 rw[yrE]
 unfold memT kbT
 cases hx:χ s 1 with
 |true=>simp
 | false=>
   cases hb:lkB ts.od s with
   |none=>simp
   |some b=>simp[KB.blk]
theorem yhg:∀ {l:List Nat} {s:Nat},ye9 l s=true↔s∈l
 | [],s=>by simp[ye9]
 | x::l,s=>by
   have ih:=yhg (l:=l) (s:=s)
   simp only[ye9,Bool.or_eq_true,nbeq,List.mem_cons,ih]
   constructor<;>rintro (h|h)<;>first|exact .inl h.symm|exact .inr h
theorem yoz:∀ {l:List Nat},ywz l=true→l.Nodup
 | [],_=>List.nodup_nil
 | x::l,h=>by
   simp only[ywz,Bool.and_eq_true,Bool.not_eq_true'] at h
   obtain ⟨h1,h2⟩:=h
   refine List.nodup_cons.2 ⟨fun hm=> ?_,yoz h2⟩
   rw[yhg.2 hm] at h1
   cases h1
structure TmOk (τ:Tm):Prop where
 nd:(τ.bx.map (·.1)++τ.rw.map (·.1)).Nodup
 ns:(τ.ks.map (·.1)).Nodup
 ks:∀p∈τ.ks,okK (τ.bx.map (·.1)) (τ.rw.map (·.1)) p.2=true
 bx:∀p∈τ.bx,okKs (τ.bx.map (·.1)) (τ.rw.map (·.1)) p.2.2=true/\p.2.2≠ []
theorem yxi {τ:Tm} (h:okTm τ=true):TmOk τ:=by
 simp only[okTm,Bool.and_eq_true] at h
 obtain ⟨⟨⟨h1,h2⟩,h3⟩,h4⟩:=h
 refine ⟨yoz h1,yoz h2,fun p hp=>List.all_eq_true.1 h3 p hp,fun p hp=> ?_⟩
 have:=List.all_eq_true.1 h4 p hp
 simp only[Bool.and_eq_true,Bool.not_eq_true'] at this
 exact ⟨this.1,fun e=>by rw[e] at this;simp at this⟩
theorem yde:∀ {c1 c2:List CT} {env:List (DV K)},wt (c1++c2) env=true→∃a b,env=a++b∧wt c1 a=true∧wt c2 b=true
 | [],c2,env,h=>⟨[],env,rfl,rfl,h⟩
 |c::c1,c2,[],h=>by simp[wt] at h
 | c::c1,c2,x::env,h=>by
   simp only[List.cons_append,wt,Bool.and_eq_true] at h
   obtain ⟨a,b,rfl,h1,h2⟩:=yde h.2
   exact ⟨x::a,b,rfl,by simp only[wt,Bool.and_eq_true];exact ⟨h.1,h1⟩,h2⟩
theorem yhQ:∀ {c1 c2:List CT} {a b:List (DV K)},wt c1 a=true→wt c2 b=true→wt (c1++c2) (a++b)=true
 | [],c2,[],b,_,h=>h
 | [],c2,_::_,b,h,_=>by simp[wt] at h
 |c::c1,c2,[],b,h,_=>by simp[wt] at h
 | c::c1,c2,x::a,b,h,k=>by
   simp only[wt,Bool.and_eq_true] at h
   simp only[List.cons_append,wt,Bool.and_eq_true]
   exact ⟨h.1,yhQ h.2 k⟩
theorem yq3:∀ {c:List CT} {a:List (DV K)},wt c a=true→a.length=c.length
 | [],[],_=>rfl
 | [],_::_,h=>by simp[wt] at h
 |_::_,[],h=>by simp[wt] at h
 | c::cs,x::a,h=>by
   simp only[wt,Bool.and_eq_true] at h
   simp[yq3 h.2]
section
variable {C:Cx K} {rg:List (Nat×TV K)}
theorem yhV {k:Kd} {u:TV K} {m m':RM} {a:List (DV K)} (h:rd1 C k u m=some (a,m')):wt (ctV k) a=true:=by
 cases k with
 | it k=>
   simp only[rd1] at h
   split at h
   ·split at h<;>cases h;simp[wt,ctV]
   ·cases h
 |bl=>simp only[rd1] at h;split at h<;>cases h;simp[wt,ctV]
 |st=>simp only[rd1] at h;split at h<;>cases h;simp[wt,ctV]
 | sl e=>
   simp only[rd1] at h
   split at h
   ·split at h<;>cases h;simp[wt,ctV]
   ·cases h;simp[wt,ctV]
   ·cases h;simp[wt,ctV]
   ·cases h
 |v t=>simp only[rd1] at h;split at h<;>cases h;simp[wt,ctV]
 |agg l=>simp only[rd1] at h;cases h
 |fn f a c=>simp only[rd1] at h;cases h
 | row s=>
   simp only[rd1] at h
   split at h
   ·unfold addR at h;split at h<;>cases h;rfl
   ·unfold addR at h;split at h<;>cases h;rfl
   ·cases h
 | px s o=>
   simp only[rd1] at h
   split at h
   ·split at h
    ·unfold addB at h;split at h<;>cases h;rfl
    ·cases h
   ·cases h
 | kp id=>
   simp only[rd1] at h
   split at h
   ·split at h<;>cases h;rfl
   ·cases h
 |nil=>simp only[rd1] at h;split at h<;>cases h;rfl
 |np=>simp only[rd1] at h;split at h<;>cases h;rfl
 |un=>simp only[rd1] at h;cases h;rfl
mutual
theorem yyI:∀(k:Kd) (u:TV K) (m m':RM) (a:List (DV K)),rdV C k u m=some (a,m')→wt (ctV k) a=true
 | .agg l,u,m,m',a,h=>by
   simp only[rdV] at h
   split at h
   ·simp only[ctV];exact ykO l _ m m' a h
   ·cases h
 | .fn f x y,u,m,m',a,h=>by
   simp only[rdV] at h
   split at h
   ·split at h
    ·split at h
     ·rename_i h1
      split at h
      ·rename_i h2
       cases h
       simp only[ctV]
       exact yhQ (ykO x _ _ _ _ h1) (ykO y _ _ _ _ h2)
      ·cases h
     ·cases h
    ·cases h
   ·cases h
 | .it k,u,m,m',a,h=>yhV (C:=C) (u:=u) h
 | .bl,u,m,m',a,h=>yhV (C:=C) (u:=u) h
 | .st,u,m,m',a,h=>yhV (C:=C) (u:=u) h
 | .sl e,u,m,m',a,h=>yhV (C:=C) (u:=u) h
 | .v t,u,m,m',a,h=>yhV (C:=C) (u:=u) h
 | .row s,u,m,m',a,h=>yhV (C:=C) (u:=u) h
 | .px s o,u,m,m',a,h=>yhV (C:=C) (u:=u) h
 | .kp id,u,m,m',a,h=>yhV (C:=C) (u:=u) h
 | .nil,u,m,m',a,h=>yhV (C:=C) (u:=u) h
 | .np,u,m,m',a,h=>yhV (C:=C) (u:=u) h
 | .un,u,m,m',a,h=>yhV (C:=C) (u:=u) h
theorem ykO:∀(l:List Kd) (us:List (TV K)) (m m':RM) (a:List (DV K)),rdVs C l us m=some (a,m')→wt (ctVs l) a=true
 | [],[],m,m',a,h=>by simp only[rdVs] at h;cases h;rfl
 | k ::l,u::us,m,m',a,h=>by
   simp only[rdVs] at h
   split at h
   ·rename_i h1
    split at h
    ·rename_i h2
     cases h
     simp only[ctVs]
     exact yhQ (yyI k u _ _ _ h1) (ykO l us _ _ _ h2)
    ·cases h
   ·cases h
 | [],_::_,_,_,_,h=>by simp[rdVs] at h
 |_::_,[],_,_,_,h=>by simp[rdVs] at h
end
theorem yth {fr:List (Nat×TV K)}:∀(l:List (Nat×Kd)) (m m':RM) (a:List (DV K)),rdS C fr l m=some (a,m')→wt (ctS l) a=true
 | [],m,m',a,h=>by simp only[rdS] at h;cases h;rfl
 | p ::l,m,m',a,h=>by
   simp only[rdS] at h
   split at h
   ·rename_i h1
    split at h
    ·rename_i h2
     cases h
     exact yhQ (yyI p.2 _ _ _ _ h1) (yth l _ _ _ h2)
    ·cases h
   ·cases h
theorem yCi {l:List Kd} {us:List (TV K)} {m m':RM} {a:List (DV K)} (h:rdW C l us m=some (a,m')):wt (ctVs l) a=true:=by
 unfold rdW at h
 split at h
 ·split at h
  ·split at h
   ·cases h;simp[ctVs,ctV,wt]
   ·cases h
  ·exact ykO _ _ _ _ _ h
 ·exact ykO _ _ _ _ _ h
theorem yts {ts:TS K}:∀(l:List (Nat×Nat×List Kd)) (m m':RM) (a:List (DV K)),rdB C ts l m=some (a,m')→wt (ctB l) a=true
 | [],m,m',a,h=>by simp only[rdB] at h;cases h;rfl
 | p :: l,m,m',a,h=>by
   simp only[rdB] at h
   split at h
   ·split at h
    ·split at h
     ·split at h
      ·rename_i h1
       split at h
       ·rename_i h2
        cases h
        exact yhQ (yCi h1) (yts l _ _ _ h2)
       ·cases h
      ·cases h
     ·cases h
    ·cases h
   ·cases h
def ctR (l:List (Nat×Nat)):List CT:=l.map fun p=> .l p.2
theorem ysO {ts:TS K} {m:RM}:∀(l:List (Nat×Nat)) (a:List (DV K)),rdR C ts m l=some a→wt (ctR l) a=true
 | [],a,h=>by simp only[rdR] at h;cases h;rfl
 | p ::l,a,h=>by
   simp only[rdR] at h
   split at h
   ·obtain ⟨b,h1,rfl⟩:=Option.map_eq_some_iff.1 h
    simp only[ctR,List.map_cons,wt,Bool.and_eq_true]
    exact ⟨nbeq.2 rfl,ysO l b h1⟩
   ·split at h
    ·obtain ⟨b,h1,rfl⟩:=Option.map_eq_some_iff.1 h
     simp only[ctR,List.map_cons,wt,Bool.and_eq_true]
     exact ⟨nbeq.2 rfl,ysO l b h1⟩
    ·cases h
   ·cases h
theorem yqX (τ:Tm):ctT τ=ctS τ.ks++ctB τ.bx++ctR τ.rw:=rfl
theorem yCr {ts:TS K} {τ:Tm} {env:List (DV K)} (h:rdT C τ ts=some env):wt (ctT τ) env=true:=by
 unfold rdT at h
 split at h
 ·rename_i h1
  split at h
  ·rename_i h2
   split at h
   ·rename_i h3 _
    cases h
    rw[yqX]
    exact yhQ (yhQ (yth _ _ _ _ h1) (yts _ _ _ _ h2)) (ysO _ _ h3)
   ·cases h
  ·cases h
 ·cases h
theorem yyY {ts:TS K} {τ:Tm} {env:List (DV K)} {M:RM} (h:rdM C τ ts=some (env,M)):wt (ctT τ) env=true:=by
 unfold rdM at h
 split at h
 ·rename_i h1
  split at h
  ·rename_i h2
   split at h
   ·rename_i h3 _
    cases h
    rw[yqX]
    exact yhQ (yhQ (yth _ _ _ _ h1) (yts _ _ _ _ h2)) (ysO _ _ h3)
   ·cases h
  ·cases h
 ·cases h
theorem yBL {ts:TS K} {τ:Tm} {J:List (DV K)→Prop} (h:rdJ C τ ts J):rdJ C τ ts fun env=>wt (ctT τ) env=true∧J env:=by
 unfold rdJ at h⊢
 split at h
 ·rename_i env h1
  exact ⟨yCr h1,h⟩
 ·exact h
mutual
theorem ytP:∀(k:Kd) (a r:List (DV K)),wt (ctV k) a=true→bdV C rg k (a++r)=((bdV C rg k a).1,r)
 | .agg l,a,r,h=>by
   simp only[ctV] at h
   simp only[bdV,ykG l a r h]
 | .fn f x y,a,r,h=>by
   simp only[ctV] at h
   obtain ⟨a1,a2,rfl,h1,h2⟩:=yde h
   simp only[bdV]
   rw[List.append_assoc,ykG x a1 (a2++r) h1,ykG x a1 a2 h1]
   simp only
   rw[ykG y a2 r h2]
 | .it k,a,r,h=>by
   cases a with
   |nil=>simp[ctV,wt] at h
   | cons x a=>cases a with
     |cons y a=>simp[ctV,wt] at h
     |nil=>cases x<;>first|rfl|(simp[ctV,wt] at h;done)
 | .bl,a,r,h=>by
   cases a with
   |nil=>simp[ctV,wt] at h
   | cons x a=>cases a with
     |cons y a=>simp[ctV,wt] at h
     |nil=>cases x<;>first|rfl|(simp[ctV,wt] at h;done)
 | .st,a,r,h=>by
   cases a with
   |nil=>simp[ctV,wt] at h
   | cons x a=>cases a with
     |cons y a=>simp[ctV,wt] at h
     |nil=>cases x<;>first|rfl|(simp[ctV,wt] at h;done)
 | .sl e,a,r,h=>by
   cases a with
   |nil=>simp[ctV,wt] at h
   | cons x a=>cases a with
     |cons y a=>simp[ctV,wt] at h
     |nil=>cases x<;>first|(simp only[bdV,List.cons_append,List.nil_append];done)|(simp[ctV,wt] at h;done)
 | .v t,a,r,h=>by
   cases a with
   |nil=>simp[ctV,wt] at h
   | cons x a=>cases a with
     |cons y a=>simp[ctV,wt] at h
     |nil=>cases x<;>first|(simp only[bdV,List.cons_append,List.nil_append];done)|(simp[ctV,wt] at h;done)
 | .row s,a,r,h=>by cases a with|nil=>cases r<;>rfl|cons x a=>simp[ctV,wt] at h
 | .px s o,a,r,h=>by cases a with|nil=>cases r<;>rfl|cons x a=>simp[ctV,wt] at h
 | .kp id,a,r,h=>by cases a with|nil=>cases r<;>rfl|cons x a=>simp[ctV,wt] at h
 | .nil,a,r,h=>by cases a with|nil=>cases r<;>rfl|cons x a=>simp[ctV,wt] at h
 | .np,a,r,h=>by cases a with|nil=>cases r<;>rfl|cons x a=>simp[ctV,wt] at h
 | .un,a,r,h=>by cases a with|nil=>cases r<;>rfl|cons x a=>simp[ctV,wt] at h
theorem ykG:∀(l:List Kd) (a r:List (DV K)),wt (ctVs l) a=true→bdVs C rg l (a++r)=((bdVs C rg l a).1,r)
 | [],a,r,h=>by cases a with|nil=>rfl|cons x a=>simp[ctVs,wt] at h
 | k::l,a,r,h=>by
   simp only[ctVs] at h
   obtain ⟨a1,a2,rfl,h1,h2⟩:=yde h
   simp only[bdVs]
   rw[List.append_assoc,ytP k a1 (a2++r) h1,ytP k a1 a2 h1]
   simp only
   rw[ykG l a2 r h2]
end
theorem yqZ:∀(l:List (Nat×Kd)) (a r:List (DV K)),wt (ctS l) a=true→bdS C rg l (a++r)=((bdS C rg l a).1,r)
 | [],a,r,h=>by cases a with|nil=>rfl|cons x a=>simp[ctS,wt] at h
 | p::l,a,r,h=>by
   obtain ⟨a1,a2,rfl,h1,h2⟩:=yde (show wt (ctV p.2++ctS l) a=true from h)
   simp only[bdS]
   rw[List.append_assoc,ytP p.2 a1 (a2++r) h1,ytP p.2 a1 a2 h1]
   simp only
   rw[yqZ l a2 r h2]
theorem yp0 {l:List Kd} (h:∀t,l= [.v t]→(C.T t).g=false) (a:List (DV K)):bdW C rg l a=bdVs C rg l a:=by
 unfold bdW
 split
 ·rename_i t
  rw[h t rfl]
 ·rfl
theorem ypG (l:List Kd) (a r:List (DV K)) (h:wt (ctVs l) a=true):bdW C rg l (a++r)=((bdW C rg l a).1,r):=by
 by_cases hw:∃t,l= [.v t]/\(C.T t).g=true
 ·obtain ⟨t,rfl,hg⟩:=hw
  cases a with
  |nil=>simp[ctVs,ctV,wt] at h
  | cons x a=>
    cases a with
    |cons y a=>simp[ctVs,ctV,wt] at h
    |nil=>cases x<;>first|(simp[bdW,hg];done)|(simp[ctVs,ctV,wt] at h;done)
 ·have hn:∀t,l= [.v t]→(C.T t).g=false:=fun t e=>by
   cases hg:(C.T t).g with
   |false=>rfl
   |true=>exact absurd ⟨t,e,hg⟩ hw
  rw[yp0 hn,yp0 hn];exact ykG l a r h
theorem ypW:∀(l:List (Nat×Nat×List Kd)) (a r:List (DV K)),wt (ctB l) a=true→bdB C rg l (a++r)=((bdB C rg l a).1,r)
 | [],a,r,h=>by cases a with|nil=>rfl|cons x a=>simp[ctB,wt] at h
 | p::l,a,r,h=>by
   obtain ⟨a1,a2,rfl,h1,h2⟩:=yde (show wt (ctVs p.2.2++ctB l) a=true from h)
   simp only[bdB]
   rw[List.append_assoc,ypG p.2.2 a1 (a2++r) h1,ypG p.2.2 a1 a2 h1]
   simp only
   rw[ypW l a2 r h2]
theorem yvO:∀(l l':List (Nat×Nat×List Kd)) (a b:List (DV K)),wt (ctB l) a=true→(bdB C rg (l++l') (a++b)).1=(bdB C rg l a).1++(bdB C rg l' b).1
 | [],l',a,b,h=>by cases a with|nil=>rfl|cons x a=>simp[ctB,wt] at h
 | p::l,l',a,b,h=>by
   obtain ⟨a1,a2,rfl,h1,h2⟩:=yde (show wt (ctVs p.2.2++ctB l) a=true from h)
   simp only[List.cons_append,bdB]
   rw[List.append_assoc,ypG p.2.2 a1 (a2++b) h1,ypG p.2.2 a1 a2 h1]
   simp only
   rw[yvO l l' a2 b h2]
theorem yuY:∀(l l':List (Nat×Nat)) (a b:List (DV K)),wt (ctR l) a=true→bdR (l++l') (a++b)=bdR l a++bdR l' b
 | [],l',a,b,h=>by cases a with|nil=>rfl|cons x a=>simp[ctR,wt] at h
 | p ::l,l',a,b,h=>by
   cases a with
   |nil=>simp[ctR,wt] at h
   | cons x a=>
     simp only[ctR,List.map_cons,wt,Bool.and_eq_true] at h
     have ih:=yuY l l' a b h.2
     cases x with
     |l e k=>simp only[List.cons_append,bdR,ih]
     |_=>simp at h
theorem yjl:∀(l:List (Nat×Nat×List Kd)) (a:List (DV K)),wt (ctB l) a=true→(bdB C rg l a).1.map (·.1)=l.map (·.1)∧∀p∈(bdB C rg l a).1,∃k∈l,p.1=k.1∧∃x,wt (ctVs k.2.2) x=true∧p.2=some (.box k.2.1 (bdW C rg k.2.2 x).1)
 | [],a,_=>⟨rfl,fun p h=>by cases h⟩
 | k::l,a,h=>by
   obtain ⟨a1,a2,rfl,h3,h4⟩:=yde (show wt (ctVs k.2.2++ctB l) a=true from h)
   obtain ⟨h1,h2⟩:=yjl l a2 h4
   have hw:=ypG (C:=C) (rg:=rg) k.2.2 a1 a2 h3
   refine ⟨by simp only[bdB,hw,List.map_cons,h1],fun p hp=> ?_⟩
   simp only[bdB,hw] at hp
   rcases List.mem_cons.1 hp with rfl|hp
   ·exact ⟨k,List.mem_cons_self,rfl,a1,h3,rfl⟩
   ·obtain ⟨k',e1,e2⟩:=h2 p hp
    exact ⟨k',List.mem_cons_of_mem _ e1,e2⟩
theorem yrO:∀(l:List (Nat×Nat×List Kd)) (a:List (DV K)),∀p∈(bdB C rg l a).1,∃e cs,p.2=some (.box e cs)
 | [],a,p,hp=>by cases hp
 | k::l,a,p,hp=>by
   simp only[bdB] at hp
   rcases List.mem_cons.1 hp with rfl|hp
   ·exact ⟨_,_,rfl⟩
   ·exact yrO l _ p hp
theorem yiU:∀(l:List (Nat×Nat)) (a:List (DV K)),wt (ctR l) a=true→(bdR l a).map (·.1)=l.map (·.1)∧∀p∈bdR l a,∃k∈l,p.1=k.1∧∃x,p.2=some (.row k.2 x)
 | [],a,h=>⟨by simp[bdR],fun p hp=>by simp[bdR] at hp⟩
 | k :: l,a,h=>by
   cases a with
   |nil=>simp[ctR,wt] at h
   | cons x a=>
     simp only[ctR,List.map_cons,wt,Bool.and_eq_true] at h
     obtain ⟨h1,h2⟩:=yiU l a h.2
     cases x with
     | l e k'=>
       have he:=nbeq.1 h.1
       subst he
       have hb:bdR (k::l) (.l k.2 k'::a)=(k.1,some (.row k.2 k'))::bdR l a:=by simp only[bdR,ylv,dif_pos]
       rw[hb]
       refine ⟨by simp only[List.map_cons,h1],fun p hp=> ?_⟩
       rcases List.mem_cons.1 hp with rfl|hp
       ·exact ⟨k,List.mem_cons_self,rfl,k',rfl⟩
       ·obtain ⟨k'',e1,e2⟩:=h2 p hp
        exact ⟨k'',List.mem_cons_of_mem _ e1,e2⟩
     |_=>simp at h
theorem yh9 {τ:Tm} {hh:List RS} {env:List (DV K)} (h:wt (ctT τ) env=true):∃a b c,env=a++b++c∧wt (ctS τ.ks) a=true∧wt (ctB τ.bx) b=true∧wt (ctR τ.rw) c=true∧bdT C τ rg hh env=⟨(bdS C rg τ.ks a).1,(bdB C rg τ.bx b).1++bdR τ.rw c,[],rg,hh⟩:=by
 rw[yqX] at h
 obtain ⟨ab,c,rfl,h1,h3⟩:=yde h
 obtain ⟨a,b,rfl,h1,h2⟩:=yde h1
 refine ⟨a,b,c,rfl,h1,h2,h3,?_⟩
 unfold bdT
 rw[List.append_assoc,yqZ τ.ks a (b++c) h1]
 simp only
 rw[ypW τ.bx b c h2]
theorem yjd {τ:Tm} {hh:List RS} {env:List (DV K)} (h:wt (ctT τ) env=true):(bdT C τ rg hh env).od.map (·.1)=τ.bx.map (·.1)++τ.rw.map (·.1)∧
  ∀p∈(bdT C τ rg hh env).od,(∃k∈τ.bx,p.1=k.1/\∃x,wt (ctVs k.2.2) x=true/\p.2=some (.box k.2.1 (bdW C rg k.2.2 x).1))∨∃k∈τ.rw,p.1=k.1/\∃x,p.2=some (.row k.2 x):=by
 obtain ⟨a,b,c,_,h1,h2,h3,e⟩:=yh9 (rg:=rg) (hh:=hh) (C:=C) h
 rw[e]
 obtain ⟨x1,x2⟩:=yjl (C:=C) (rg:=rg) τ.bx b h2
 obtain ⟨y1,y2⟩:=yiU τ.rw c h3
 refine ⟨by simp only[List.map_append,x1,y1],fun p hp=> ?_⟩
 rcases List.mem_append.1 hp with hp|hp
 ·exact .inl (x2 p hp)
 ·exact .inr (y2 p hp)
theorem ye3 {l:List (Nat×Option (TB K))} (hn:(l.map (·.1)).Nodup) {s:Nat} {b:Option (TB K)} (h:(s,b)∈l):lkB l s=b:=by
 induction l with
 |nil=>cases h
 | cons p l ih=>
   obtain ⟨h1,h2⟩:=List.nodup_cons.1 (show (p.1::l.map (·.1)).Nodup from hn)
   rw[ycf]
   rcases List.mem_cons.1 h with rfl|h
   ·rw[if_pos rfl]
   ·rw[if_neg (fun e=>h1 (by rw[e];exact List.mem_map_of_mem (f:=(·.1)) h))];exact ih h2 h
theorem yhU {l:List (Nat×Option (TB K))} {s:Nat} {b:TB K} (h:lkB l s=some b):(s,some b)∈l:=by
 induction l with
 |nil=>cases h
 | cons p l ih=>
   rw[ycf] at h
   split at h
   ·rename_i e;rw[<-e,<-h];exact List.mem_cons_self
   ·exact List.mem_cons_of_mem _ (ih h)
theorem yzT {τ:Tm} {hh:List RS} {env:List (DV K)} (h:wt (ctT τ) env=true) (ho:TmOk τ) {s:Nat} (hs:s∈τ.rw.map (·.1)):∃e l,lkB (bdT C τ rg hh env).od s=some (.row e l):=by
 obtain ⟨h1,h2⟩:=yjd (C:=C) (rg:=rg) (hh:=hh) h
 have hm:s∈(bdT C τ rg hh env).od.map (·.1):=by rw[h1];exact List.mem_append_right _ hs
 obtain ⟨p,hp,rfl⟩:=List.mem_map.1 hm
 have hl:=ye3 (by rw[h1];exact ho.nd) (show (p.1,p.2)∈_ from hp)
 rcases h2 p hp with ⟨k,hk,e1,_⟩|⟨k,hk,e1,x,e2⟩
 ·refine absurd ?_ ((List.nodup_append.1 ho.nd).2.2 p.1 (by rw[e1];exact List.mem_map_of_mem (f:=(·.1)) hk) p.1 hs)
  rfl
 ·exact ⟨_,x,by rw[hl,e2]⟩
theorem yzz {τ:Tm} {hh:List RS} {env:List (DV K)} (h:wt (ctT τ) env=true) (ho:TmOk τ) {s:Nat} (hs:s∈τ.bx.map (·.1)):∃e cs,lkB (bdT C τ rg hh env).od s=some (.box e cs):=by
 obtain ⟨h1,h2⟩:=yjd (C:=C) (rg:=rg) (hh:=hh) h
 have hm:s∈(bdT C τ rg hh env).od.map (·.1):=by rw[h1];exact List.mem_append_left _ hs
 obtain ⟨p,hp,rfl⟩:=List.mem_map.1 hm
 have hl:=ye3 (by rw[h1];exact ho.nd) (show (p.1,p.2)∈_ from hp)
 rcases h2 p hp with ⟨k,hk,e1,x,_,e2⟩|⟨k,hk,e1,_⟩
 ·exact ⟨_,_,by rw[hl,e2]⟩
 ·refine absurd ?_ ((List.nodup_append.1 ho.nd).2.2 p.1 hs p.1 (by rw[e1];exact List.mem_map_of_mem (f:=(·.1)) hk))
  rfl
theorem ytJ:∀(l:List Kd) (a:List (DV K)),(bdVs C rg l a).1.length=l.length
 | [],a=>rfl
 |k::l,a=>by simp only[bdVs,List.length_cons,ytJ l]
theorem ysh:∀(l:List (Nat×Kd)) (a:List (DV K)) (t:Nat),lkT (bdS C rg l a).1 t= .un∨∃p∈l,p.1=t∧∃x,lkT (bdS C rg l a).1 t=(bdV C rg p.2 x).1
 | [],a,t=> .inl rfl
 | p::l,a,t=>by
   simp only[bdS]
   rw[ycn]
   split
   ·rename_i e;exact .inr ⟨p,List.mem_cons_self,e,a,rfl⟩
   ·rcases ysh l (bdV C rg p.2 a).2 t with h|⟨q,hq,e1,x,e2⟩
    ·exact .inl h
    ·exact .inr ⟨q,List.mem_cons_of_mem _ hq,e1,x,e2⟩
end
section
variable {P:Program} {C:Cx K} {ts:TS K} {χ:Nat->Nat->Bool}
mutual
theorem yq9:∀u:TV K,ybi u=true→alv ts u=true
 | .agg cs,h=>by simp only[ybi] at h;simp only[alv,ygO cs h]
 | .tup cs,h=>by simp only[ybi] at h;simp only[alv,ygO cs h]
 | .fn f a c,h=>by simp only[ybi,Bool.and_eq_true] at h;simp only[alv,ygO a h.1,ygO c h.2,Bool.and_self]
 | .rw _ _,h=>by simp[ybi] at h
 | .cn _ _,h=>by simp[ybi] at h
 | .it _ _,_| .bl _,_| .st _,_| .sl _ _,_| .nil,_| .un,_| .px _ _ _,_| .lb _,_| .li _ _,_| .em,_| .pr _ _ _ _ _,_| .ep _ _ _ _,_| .gs _ _,_| .nptr,_| .fv _ _ _,_| .yl _,_=>rfl
theorem ygO:∀us:List (TV K),ybQ us=true→alvs ts us=true
 | [],_=>rfl
 |u::us,h=>by simp only[ybQ,Bool.and_eq_true] at h;simp only[alvs,yq9 u h.1,ygO us h.2,Bool.and_self]
end
theorem yy8 (hC:CxOk P C) (t:Nat) (x:K t):inV C t x= .un∨ybi (inV C t x)=true:=by
 have:=hC.nr t x
 unfold inV
 split
 ·right;simpa only[ybi] using this
 ·split
  ·rename_i v e;rw[e] at this;simp only[ybQ,Bool.and_true] at this;exact .inr this
  ·exact .inl rfl
theorem ypx (hC:CxOk P C) (t:Nat) (x:K t):TR P C ts χ (inV C t x) (aT C ts χ (inV C t x)):=by
 rcases yy8 hC t x with e|e
 ·rw[e];exact .un _
 ·exact (ymR hC t x).1.self hC (yq9 _ e)
mutual
theorem ytp (hC:CxOk P C) (hv:ViOk ts χ) {bx rw:List Nat} (hrw:∀s,s∈rw→(tln (ts.tb s 1)).isSome=true):∀(k:Kd) (a:List (DV K)),okK bx rw k=true→TR P C ts χ (bdV C [] k a).1 (aT C ts χ (bdV C [] k a).1)
 | .it k,a,_=>by cases a with
   |nil=>exact .un _
   |cons x a=>cases x<;>first|exact .it k _|exact .un _
 | .bl,a,_=>by cases a with
   |nil=>exact .un _
   |cons x a=>cases x<;>first|exact .bl _|exact .un _
 | .st,a,_=>by cases a with
   |nil=>exact .un _
   |cons x a=>cases x<;>first|exact .st _|exact .un _
 | .sl e,a,_=>by cases a with
   |nil=>exact .un _
   | cons x a=>cases x with
     | l e' l=>
       simp only[bdV]
       split
       ·exact .sl e _ false _ _ rfl (yml hC e _)
       ·exact .un _
     |_=>exact .un _
 | .v t,a,_=>by cases a with
   |nil=>exact .un _
   | cons x a=>cases x with
     | v t' x=>
       simp only[bdV]
       split
       ·exact ypx hC t _
       ·exact .un _
     |_=>exact .un _
 | .row s,a,h=>by
   simp only[okK] at h
   have hs:=hrw s (yhg.1 h)
   obtain ⟨n,hn⟩:=Option.isSome_iff_exists.1 hs
   have e:(bdV C [] (.row s) a).1= .rw s 1:=by cases a<;>rfl
   rw[e]
   simp only[aT,hn]
   cases hx:χ s 1 with
   | true=>
     obtain ⟨e,he⟩:=hv s 1 hx
     rw[he] at hn;cases hn
     exact .rwn s 1 (.inl rfl) (by rw[he];rfl) hx
   |false=>exact .rw s 1 n (.inl rfl) hn hx
 | .px s o,a,_=>by
   have e:(bdV C [] (.px s o) a).1= .px s 1 o:=by cases a<;>rfl
   rw[e];exact .px s 1 o (.inl rfl)
 | .kp id,a,h=>by simp[okK] at h
 | .nil,a,_=>by
   have e:(bdV C [] .nil a).1= .nil:=by cases a<;>rfl
   rw[e];exact .nil
 | .np,a,_=>by
   have e:(bdV C [] .np a).1= .nptr:=by cases a<;>rfl
   rw[e];exact .nptr
 | .un,a,_=>by
   have e:(bdV C [] .un a).1= .un:=by cases a<;>rfl
   rw[e];exact .un _
 | .agg l,a,h=>by
   simp only[okK] at h
   have:=yh2 hC hv hrw l a h
   simp only[bdV,aT]
   exact .agg _ _ this.1 this.2
 | .fn f x y,a,h=>by
   simp only[okK,Bool.and_eq_true] at h
   have h1:=yh2 hC hv hrw x a h.1
   have h2:=yh2 hC hv hrw y (bdVs C [] x a).2 h.2
   simp only[bdV,aT]
   exact .fn f _ _ _ _ h1.1 h2.1 h1.2 h2.2
theorem yh2 (hC:CxOk P C) (hv:ViOk ts χ) {bx rw:List Nat} (hrw:∀s,s∈rw→(tln (ts.tb s 1)).isSome=true):∀(l:List Kd) (a:List (DV K)),okKs bx rw l=true→TL P C ts χ (bdVs C [] l a).1 (aTs C ts χ (bdVs C [] l a).1)
 | [],a,_=> .nil
 | k::l,a,h=>by
   simp only[okKs,Bool.and_eq_true] at h
   simp only[bdVs,aTs]
   exact .cons (ytp hC hv hrw k a h.1) (yh2 hC hv hrw l _ h.2)
end
theorem yxE (hC:CxOk P C) (hv:ViOk ts χ) {bx rw:List Nat} (hrw:∀s,s∈rw→(tln (ts.tb s 1)).isSome=true) (l:List Kd) (a:List (DV K)) (h:okKs bx rw l=true):TL P C ts χ (bdW C [] l a).1 (aTs C ts χ (bdW C [] l a).1):=by
 by_cases hw:∃t,l= [.v t]/\(C.T t).g=true
 ·obtain ⟨t,rfl,hg⟩:=hw
  have key:∀x:K t,TL P C ts χ ((C.T t).c x) (aTs C ts χ ((C.T t).c x)):=fun x=>by
   have:=ypx (P:=P) (ts:=ts) (χ:=χ) hC t x
   rw[show inV C t x= .agg ((C.T t).c x) by unfold inV;rw[hg]] at this
   simp only[aT] at this
   obtain ⟨vs,e,c1,c2⟩:=this.agg'
   cases e
   exact ⟨c1,c2⟩
  unfold bdW
  simp only[hg]
  split
  ·split
   ·exact key _
   ·exact .nil
  ·exact .nil
 ·rw[yp0 (fun t e=>by
   cases hg:(C.T t).g with
   |false=>rfl
   |true=>exact absurd ⟨t,e,hg⟩ hw)]
  exact yh2 hC hv hrw l a h
theorem ywR (hC:CxOk P C) {l:List Kd} {a:List (DV K)} (h:wt (ctVs l) a=true) (hl:l≠ []):(bdW C [] l a).1.length≠0:=by
 by_cases hw:∃t,l= [.v t]/\(C.T t).g=true
 ·obtain ⟨t,rfl,hg⟩:=hw
  cases a with
  |nil=>simp[ctVs,ctV,wt] at h
  | cons x a=>
    cases a with
    |cons y a=>simp[ctVs,ctV,wt] at h
    | nil=>
      cases x with
      | v t' x=>
        simp only[ctVs,ctV,List.append_nil,wt,Bool.and_true] at h
        have:=nbeq.1 h;subst this
        simp only[bdW,hg,dif_pos]
        have h1:=(hC.c t x ⟨[],[],[],[],[]⟩ (fun _ _=>false)).1
        have h2:=(C.E t).len x
        have h3:=(C.E t).pos
        omega
      |_=>simp[ctVs,ctV,wt] at h
 ·rw[yp0 (fun t e=>by
   cases hg:(C.T t).g with
   |false=>rfl
   |true=>exact absurd ⟨t,e,hg⟩ hw)]
  rw[ytJ]
  exact fun q=>hl (List.eq_nil_of_length_eq_zero q)
theorem yu8:∀(l:List (Nat×List Nat×List Nat)) (fs:List (FV K)) (fr:List (Nat×TV K)) (t:Nat),(∃p F,p∈l∧F∈fs∧p.1=t∧lkT (zipF l fs++fr) t= .fv p.2.1 p.2.2 F)∨lkT (zipF l fs++fr) t=lkT fr t
 | [],_,_,_=> .inr rfl
 |_::_,[],_,_=> .inr rfl
 | p::l,F::fs,fr,t=>by
   show (∃p' F',_/\_/\_/\lkT ((p.1, .fv p.2.1 p.2.2 F)::(zipF l fs++fr)) t=_)∨lkT ((p.1, .fv p.2.1 p.2.2 F)::(zipF l fs++fr)) t=_
   rw[ycn]
   split
   ·rename_i e;exact .inl ⟨p,F,List.mem_cons_self,List.mem_cons_self,e,rfl⟩
   ·rcases yu8 l fs fr t with ⟨p',F',h1,h2,h3,h4⟩|h
    ·exact .inl ⟨p',F',List.mem_cons_of_mem _ h1,List.mem_cons_of_mem _ h2,h3,h4⟩
    ·exact .inr h
theorem ysd:∀(l:List AV) (i t:Nat),lkF (entF l i) t=if i≤t then (l[t-i]?).getD .un else .un
 | [],i,t=>by simp[entF,lkF]
 | u::l,i,t=>by
   show lkF ((i,u)::entF l (i+1)) t=_
   rw[yby,ysd l (i+1) t]
   simp only
   by_cases h:i=t
   ·subst h;simp
   ·rw[if_neg h]
    by_cases h2:i<=t
    ·rw[if_pos h2,if_pos (by omega),show t-i=(t-(i+1))+1 by omega,List.getElem?_cons_succ]
    ·rw[if_neg h2,if_neg (by omega)]
def okS (sp:Sl K) (env:List (DV K)):Bool:=okN sp&&wt (ctT sp.ti) env
theorem ypR {sp:Sl K} {env:List (DV K)} (h:okS sp env=true):TmOk sp.ti∧TmOk sp.to∧(∀s∈sp.ti.bx.map (·.1)++sp.ti.rw.map (·.1),2000000≤s)∧(∀p∈sp.fs,p.1<npL sp)∧(∀p∈sp.ti.ks,p.1<npL sp)∧wt (ctT sp.ti) env=true:=by
 simp only[okS,okN,Bool.and_eq_true] at h
 obtain ⟨⟨⟨⟨⟨⟨⟨h1,h2⟩,h3⟩,_⟩,_⟩,h4⟩,h5⟩,h6⟩:=h
 exact ⟨yxi h1,yxi h2,fun s hs=>Nat.le_of_ble_eq_true (List.all_eq_true.1 h3 s hs),fun p hp=>Nat.le_of_ble_eq_true (List.all_eq_true.1 h4 p hp),fun p hp=>Nat.le_of_ble_eq_true (List.all_eq_true.1 h5 p hp),h6⟩
theorem yC5 (hC:CxOk P C) {sp:Sl K} {fs:List (FV K)} {env:List (DV K)} (hE:okS sp env=true) (hfs:∀F∈fs,FOk P C F) (hv:ViOk (entL C sp fs env) χ) {R:RR K} {H:Hp} {n:Nat} (hR:R [] H n) (hL:R.L=fun s=>χ s 1):
  GM P C R (entL C sp fs env) χ (ofK ⟨entF (argT C sp (entL C sp fs env) χ) 0,memK C (entL C sp fs env) χ,H,n⟩)/\KOk ⟨entF (argT C sp (entL C sp fs env) χ) 0,memK C (entL C sp fs env) χ,H,n⟩/\∀d b,lkM (memK C (entL C sp fs env) χ) d=some b->2000000<=d:=by
 obtain ⟨o1,_,o3,o4,o5,o6⟩:=ypR hE
 obtain ⟨n1,n2⟩:=yjd (C:=C) (rg:= []) (hh:= []) o6
 have hrw:∀s,s∈sp.ti.rw.map (·.1)→(tln ((entL C sp fs env).tb s 1)).isSome=true:=fun s hs=>by
  obtain ⟨e,l,hl⟩:=yzT (C:=C) (rg:= []) (hh:= []) o6 o1 hs
  show (tln (lkB (bdT C sp.ti [] [] env).od s)).isSome=true
  rw[hl];rfl
 obtain ⟨a,b,c,_,w1,w2,w3,we⟩:=yh9 (rg:= []) (hh:= []) (C:=C) o6
 have hfr:∀t,TR P C (entL C sp fs env) χ (lkT (entL C sp fs env).fr t) (aT C (entL C sp fs env) χ (lkT (entL C sp fs env).fr t))∧(npL sp≤t→lkT (entL C sp fs env).fr t= .un):=by
  intro t
  rcases yu8 sp.fs fs (bdT C sp.ti [] [] env).fr t with ⟨p,F,a1,a2,a3,a4⟩|a1
  ·rw[show lkT (entL C sp fs env).fr t= .fv p.2.1 p.2.2 F from a4]
   refine ⟨.fv _ _ _ _ (hfs F a2) (hfs F a2).2.1,fun q=> ?_⟩
   have:=o4 p a1
   omega
  ·rw[show lkT (entL C sp fs env).fr t=lkT (bdT C sp.ti [] [] env).fr t from a1]
   rw[we]
   rcases ysh (C:=C) (rg:= []) sp.ti.ks a t with e|⟨p,hp,e1,x,e2⟩
   ·rw[e];exact ⟨.un _,fun _=>rfl⟩
   ·rw[e2]
    refine ⟨ytp hC hv hrw p.2 x (o1.ks p hp),fun q=> ?_⟩
    have:=o5 p hp
    omega
 have hmem:∀d b,lkM (memK C (entL C sp fs env) χ) d=some b→∃b0,lkB (entL C sp fs env).od d=some b0∧χ d 1=false∧b=kbT C (entL C sp fs env) χ d:=by
  intro d b hb
  rw[yrE] at hb
  split at hb
  ·rename_i hc
   simp only[Bool.and_eq_true,Bool.not_eq_true'] at hc
   obtain ⟨b0,hb0⟩:=Option.isSome_iff_exists.1 hc.1
   exact ⟨b0,hb0,hc.2,(Option.some.inj hb).symm⟩
  ·cases hb
 have hent:∀s b,lkB (entL C sp fs env).od s=some b→s∈sp.ti.bx.map (·.1)++sp.ti.rw.map (·.1)∧((∃e l x,okKs (sp.ti.bx.map (·.1)) (sp.ti.rw.map (·.1)) l=true∧(l≠ []∧wt (ctVs l) x=true)∧b= .box e (bdW C [] l x).1)∨∃e l,b= .row e l):=by
  intro s b hb
  have hm:=yhU (show lkB (bdT C sp.ti [] [] env).od s=some b from hb)
  refine ⟨by rw[<-n1];exact List.mem_map_of_mem (f:=(·.1)) hm,?_⟩
  rcases n2 _ hm with ⟨k,hk,_,x,ew,e2⟩|⟨k,hk,_,x,e2⟩
  ·exact .inl ⟨_,_,x,(o1.bx k hk).1,⟨(o1.bx k hk).2,ew⟩,Option.some.inj e2⟩
  ·exact .inr ⟨_,_,Option.some.inj e2⟩
 refine ⟨⟨fun t=> ?_,fun s c b hb hx=> ?_,hv,fun s _=>rfl,?_,fun s b _ _=>by rw[hL]⟩,fun d b hb=> ?_,fun d b hb=> ?_⟩
 ·show TR P C _ χ _ (lkF (entF (argT C sp (entL C sp fs env) χ) 0) t)
  rw[ysd,if_pos (Nat.zero_le _),Nat.sub_zero]
  unfold argT
  rw[List.getElem?_map]
  by_cases ht:t<npL sp
  ·rw[List.getElem?_range ht];exact (hfr t).1
  ·rw[List.getElem?_eq_none (by simp;omega),(hfr t).2 (by omega)];exact .un _
 ·rcases tb_c hb with rfl|rfl
  ·have hb':lkB (entL C sp fs env).od s=some b:=hb
   refine ⟨kbT C (entL C sp fs env) χ s,?_,?_⟩
   ·show lkO (yqA (memK C (entL C sp fs env) χ)) s=_
    rw[yij,yrE,if_pos (by rw[hb',hx];rfl)]
   ·have hk:kbT C (entL C sp fs env) χ s=⟨(bT C (entL C sp fs env) χ b).e,(bT C (entL C sp fs env) χ b).sz,(bT C (entL C sp fs env) χ b).cells,false⟩:=by unfold kbT;rw[hb']
    rw[hk]
    rcases (hent s b hb').2 with ⟨e,l,x,h1,_,rfl⟩|⟨e,l,rfl⟩
    ·obtain ⟨q1,q2⟩:=yxE hC hv hrw l x h1
     exact ⟨rfl,rfl,q1,q2⟩
    ·exact ⟨rfl,rfl,yml hC e l⟩
  ·cases hb
 ·exact hR
 ·obtain ⟨b0,e1,e2,rfl⟩:=hmem d b hb
  unfold kbT
  rw[e1]
  refine ⟨?_,fun q=>by cases q⟩
  rcases (hent d b0 e1).2 with ⟨e,l,x,h1,h2,rfl⟩|⟨e,l,rfl⟩
  ·have:=ywR hC h2.2 h2.1
   simp only[bT];exact this
  ·have:=(C.E e).pos;simp only[bT];omega
 ·obtain ⟨b0,e1,_,_⟩:=hmem d b hb
  exact o3 d (hent d b0 e1).1
end
end Go.AV
end
noncomputable section
namespace Go.AV
open Go.RowKit Go.RG Go.Lib
variable {K:Nat->Type}
def rhoM (χ:Nat→Nat→Bool) (M:RM) (s:Nat):Option (Nat×Nat):=match lkA M.b s with
 |some k=>some k
 | none=>match lkA M.r s with
   |some (some k)=>if χ k.1 k.2=true then none else some k
   |_=>none
def xiM (χ:Nat→Nat→Bool) (M:RM) (s:Nat):Bool:=match lkA M.b s with
 |some _=>false
 | none=>match lkA M.r s with
   |some none=>true
   |some (some k)=>χ k.1 k.2
   |none=>false
section
variable {P:Program} {C:Cx K} {R:RR K} {ts ts1:TS K} {χ:Nat->Nat->Bool} {ξ:Nat->Bool} {ds:DS} {B:Base} {N:Nat} {ρ:Nat->Option (Nat×Nat)} {p:Nat×Nat->Prop} {rg:List (Nat×TV K)}
theorem yy5 (hC:CxOk P C) (hx:ExtR rg ts.rg) {τ:Tm} {env:List (DV K)} {M1:RM} (h:rdM C τ ts=some (env,M1)) (hh:List RS) (hγ:GM P C R ts χ ds):
  (∀s k,rhoM χ M1 s=some k->χ k.1 k.2=false/\∃b b1,ts.tb k.1 k.2=some b/\lkB (bdT C τ rg hh env).od s=some b1/\BM P C ts (bdT C τ rg hh env) χ (xiM χ M1) ds (rhoM χ M1) (fun _=>False) b b1)/\
  (∀s b1,lkB (bdT C τ rg hh env).od s=some b1->xiM χ M1 s=false->∃k,rhoM χ M1 s=some k)/\(∀s,xiM χ M1 s=true->rhoM χ M1 s=none/\∃e,lkB (bdT C τ rg hh env).od s=some (.row e []))/\
  (∀s s' k,rhoM χ M1 s=some k->rhoM χ M1 s'=some k->s=s')/\∀t,TM P C ts (bdT C τ rg hh env) χ (xiM χ M1) ds (rhoM χ M1) (fun _=>False) (lkT ts.fr t) (lkT (bdT C τ rg hh env).fr t):=by
 unfold rdM at h
 split at h
 rotate_left
 ·cases h
 rename_i a m1 h1
 split at h
 rotate_left
 ·cases h
 rename_i b M h2
 split at h
 rotate_left
 ·cases h
 rename_i c h3 h4
 simp only[Option.some.injEq,Prod.mk.injEq] at h
 obtain ⟨rfl,rfl⟩:=h
 simp only[Bool.and_eq_true] at h4
 obtain ⟨hnod,hdom⟩:=h4
 simp only[ywq,Bool.and_eq_true] at hdom
 obtain ⟨⟨hdb,hdr⟩,hdis⟩:=hdom
 have hnod:=ylD hnod
 obtain ⟨nr,nb,ndis⟩:=List.nodup_append.1 hnod
 let ρ:Nat->Option (Nat×Nat):=rhoM χ M
 let ξ:Nat->Bool:=xiM χ M
 obtain ⟨rb,gb1,gb2⟩:=yty τ.rw c h3|>fun x=>(⟨rfl,x.1,x.2⟩:(bdR τ.rw c=bdR τ.rw c)/\_/\_)
 have hbname:∀s k,lkA M.b s=some k->τ.bx.any (fun q=>Nat.beq q.1 s)=true:=fun s k hs=>yfd hs hdb
 have hrname:∀s k,lkA M.r s=some k->τ.rw.any (fun q=>Nat.beq q.1 s)=true:=fun s k hs=>yfd hs hdr
 have hapart:∀s,τ.bx.any (fun q=>Nat.beq q.1 s)=true→τ.rw.any (fun q=>Nat.beq q.1 s)=true→False:=by
  intro s q1 q2
  obtain ⟨x,hx1,hx2⟩:=List.any_eq_true.1 q1
  obtain ⟨y,hy1,hy2⟩:=List.any_eq_true.1 q2
  have:=List.all_eq_true.1 (List.all_eq_true.1 hdis x hx1) y hy1
  rw[nbeq.1 hx2,nbeq.1 hy2,nbeq.2 rfl] at this;cases this
 have hbr:∀s k k',lkA M.b s=some k->lkA M.r s=some k'->False:=fun s k k' q1 q2=>hapart s (hbname s k q1) (hrname s k' q2)
 have hρb:∀s k,lkA M.b s=some k→ρ s=some k:=by
  intro s k hs
  show (match lkA M.b s with|some k=>some k|none=>_)=_
  rw[hs]
 have hρr:∀s k,lkA M.r s=some (some k)→ρ s=(if χ k.1 k.2=true then none else some k)∧ξ s=χ k.1 k.2:=by
  intro s k hs
  have hn:lkA M.b s=none:=by
   cases hq:lkA M.b s with
   |none=>rfl
   |some k'=>exact (hbr s k' _ hq hs).elim
  constructor
  ·show (match lkA M.b s with|some k=>some k|none=>match lkA M.r s with|some (some k)=>if χ k.1 k.2=true then none else some k|_=>none)=_
   rw[hn,hs]
  ·show (match lkA M.b s with|some _=>false|none=>match lkA M.r s with|some none=>true|some (some k)=>χ k.1 k.2|none=>false)=_
   rw[hn,hs]
 have hξn:∀s,lkA M.r s=some none→ρ s=none∧ξ s=true:=by
  intro s hs
  have hn:lkA M.b s=none:=by
   cases hq:lkA M.b s with
   |none=>rfl
   |some k'=>exact (hbr s k' _ hq hs).elim
  constructor
  ·show (match lkA M.b s with|some k=>some k|none=>match lkA M.r s with|some (some k)=>if χ k.1 k.2=true then none else some k|_=>none)=_
   rw[hn,hs]
  ·show (match lkA M.b s with|some _=>false|none=>match lkA M.r s with|some none=>true|some (some k)=>χ k.1 k.2|none=>false)=_
   rw[hn,hs]
 have hρi:∀s k,ρ s=some k→(lkA M.b s=some k)∨(lkA M.r s=some (some k)∧χ k.1 k.2=false):=by
  intro s k hs
  have hs':(match lkA M.b s with|some k=>some k|none=>match lkA M.r s with|some (some k)=>if χ k.1 k.2=true then none else some k|_=>none)=some k:=hs
  split at hs'
  ·rename_i k' e;cases hs';exact .inl e
  ·split at hs'
   ·rename_i k' e
    split at hs'
    ·cases hs'
    ·rename_i hx';cases hs';exact .inr ⟨e,by simpa using hx'⟩
   ·cases hs'
 let tsS:TS K:=bdT C τ rg hh (a++b++c)
 obtain ⟨sub1,t1⟩:=yvq (P:=P) (ts1:=tsS) (χ:=χ) (ξ:=ξ) (ρ:=ρ) (ds:=ds) (p:=fun _=>False) hC hx τ.ks ⟨[],[]⟩ m1 a h1
 obtain ⟨sub2,t2⟩:=ys0 (P:=P) (ts1:=tsS) (χ:=χ) (ξ:=ξ) (ρ:=ρ) (ds:=ds) (p:=fun _=>False) hC hx τ.bx m1 M b h2
 obtain ⟨fr1,e1,f1⟩:=t1 (b++c)
 obtain ⟨od1,e2,g2,f2⟩:=t2 c
 have hS:tsS=⟨fr1,od1++bdR τ.rw c,[],rg,hh⟩:=by
  show bdT C τ rg hh (a++b++c)=_
  unfold bdT
  rw[List.append_assoc,e1]
  simp only
  rw[e2]
 have hlk:∀s,lkB tsS.od s=if memB od1 s=true then lkB od1 s else lkB (bdR τ.rw c) s:=by
  intro s;rw[hS];exact yrl _ _ s
 have hrowlk:∀s,τ.rw.any (fun q=>Nat.beq q.1 s)=true→lkB tsS.od s=lkB (bdR τ.rw c) s:=by
  intro s hs
  rw[hlk,if_neg]
  intro hm
  rw[g2] at hm
  exact hapart s hm hs
 have hGood:Good (rg:=rg) ts tsS χ ξ ρ M:=by
  refine ⟨?_,?_,?_,hρb,by rw[hS]⟩
  ·intro s k hs n hn
   obtain ⟨r1,r2⟩:=hρr s k hs
   have hnm:=hrname s _ hs
   obtain ⟨e,⟨q1,_⟩|⟨q,l',q1,q2,q3⟩⟩:=gb2 s (by rw[gb1];exact hnm)
   ·rw[hs] at q1;cases q1
   ·rw[hs] at q1;cases q1
    refine ⟨?_,fun hx'=>⟨by rw[r1,hx'];rfl,by rw[r2,hx']⟩,fun hx'=>by rw[r2,hx']⟩
    show tln (lkB tsS.od s)=_
    rw[hrowlk s hnm,q3]
    rw[(hγ.trow hC q2).1] at hn
    exact hn
  ·intro s k hs
   obtain ⟨e,⟨q1,_⟩|⟨q,l',q1,q2,q3⟩⟩:=gb2 s (by rw[gb1];exact hrname s _ hs)
   ·rw[hs] at q1;cases q1
   ·rw[hs] at q1;cases q1
    exact ⟨_,(hγ.trow hC q2).1⟩
  ·intro s hs
   obtain ⟨r1,r2⟩:=hξn s hs
   refine ⟨?_,r2⟩
   have hnm:=hrname s _ hs
   obtain ⟨e,⟨q1,q3⟩|⟨q,l',q1,q2,q3⟩⟩:=gb2 s (by rw[gb1];exact hnm)
   ·show tln (lkB tsS.od s)=_
    rw[hrowlk s hnm,q3];rfl
   ·rw[hs] at q1;cases q1
 show (∀s k,ρ s=some k→χ k.1 k.2=false∧∃b b1,ts.tb k.1 k.2=some b∧lkB tsS.od s=some b1∧BM P C ts tsS χ ξ ds ρ (fun _=>False) b b1)∧(∀s b1,lkB tsS.od s=some b1→ξ s=false→∃k,ρ s=some k)∧(∀s,ξ s=true→ρ s=none∧∃e,lkB tsS.od s=some (.row e []))∧
  (∀s s' k,ρ s=some k->ρ s'=some k->s=s')/\∀t,TM P C ts tsS χ ξ ds ρ (fun _=>False) (lkT ts.fr t) (lkT tsS.fr t)
 refine ⟨?_,?_,?_,?_,?_⟩
 ·intro s k hs
  rcases hρi s k hs with hb|⟨hr,hx'⟩
  ·have hm:memB od1 s=true:=by rw[g2];exact hbname s k hb
   obtain ⟨q,e,cs,cs1,q1,q2,q3,q4⟩:=f2 s hm
   rw[hb] at q1;cases q1
   exact ⟨hγ.box q2,_,_,q2,by rw[hlk,if_pos hm];exact q3,q4 hGood⟩
  ·have hnm:=hrname s _ hr
   obtain ⟨e,⟨q1,_⟩|⟨q,l',q1,q2,q3⟩⟩:=gb2 s (by rw[gb1];exact hnm)
   ·rw[hr] at q1;cases q1
   ·rw[hr] at q1;cases q1
    refine ⟨hx',?_⟩
    have q3':lkB tsS.od s=some (.row e l'):=by rw[hrowlk s hnm];exact q3
    unfold trow at q2
    split at q2
    ·rename_i e' l0 hb
     obtain ⟨rfl,rfl⟩:=ye5 q2
     exact ⟨_,_,hb,q3',BM.row⟩
    ·rename_i e' n cs hb
     split at q2
     ·rename_i he
      have:=nbeq.1 he;subst this
      exact ⟨_,_,hb,q3',BM.lr hC q2⟩
     ·cases q2
    ·cases q2
 ·intro s b1 hs hxx
  rw[hlk] at hs
  by_cases hm:memB od1 s=true
  ·obtain ⟨q,e,cs,cs1,q1,_⟩:=f2 s hm
   exact ⟨q,hρb s q q1⟩
  ·rw[if_neg hm] at hs
   have hm2:=yg4 hs
   obtain ⟨e,⟨q1,_⟩|⟨q,l',q1,q2,q3⟩⟩:=gb2 s hm2
   ·rw[(hξn s q1).2] at hxx;cases hxx
   ·obtain ⟨r1,r2⟩:=hρr s q q1
    rw[r2] at hxx
    exact ⟨q,by rw[r1,hxx];rfl⟩
 ·intro s hs
  have hs':(match lkA M.b s with|some _=>false|none=>match lkA M.r s with|some none=>true|some (some k)=>χ k.1 k.2|none=>false)=true:=hs
  split at hs'
  ·cases hs'
  ·split at hs'
   ·rename_i hr
    obtain ⟨r1,r2⟩:=hξn s hr
    refine ⟨r1,?_⟩
    have hnm:=hrname s _ hr
    obtain ⟨e,⟨q1,q3⟩|⟨q,l',q1,q2,q3⟩⟩:=gb2 s (by rw[gb1];exact hnm)
    ·exact ⟨e,by rw[hrowlk s hnm];exact q3⟩
    ·rw[hr] at q1;cases q1
   ·rename_i k hr
    obtain ⟨r1,r2⟩:=hρr s k hr
    refine ⟨by rw[r1,if_pos hs'],?_⟩
    have hnm:=hrname s _ hr
    obtain ⟨e,⟨q1,q3⟩|⟨q,l',q1,q2,q3⟩⟩:=gb2 s (by rw[gb1];exact hnm)
    ·rw[hr] at q1;cases q1
    ·rw[hr] at q1;cases q1
     have:=(hγ.trow hC q2).2.1 hs'
     subst this
     exact ⟨e,by rw[hrowlk s hnm];exact q3⟩
   ·cases hs'
 ·intro s s' k hs hs'
  rcases hρi s k hs with q1|⟨q1,_⟩<;>rcases hρi s' k hs' with q2|⟨q2,_⟩
  ·exact ylM nb q1 q2
  ·exact absurd rfl (ndis k (yeN q2) k (yeL q1))
  ·exact absurd rfl (ndis k (yeN q1) k (yeL q2))
  ·exact yjK nr q1 q2
 ·intro t
  have:=f1 (hGood.sub sub2) t
  rw[hS];rw[hS] at this
  exact this
end
mutual
theorem ypv (f:Nat→Nat→Option K2):∀u:AV,u.noL=true→reA f u=u
 | .gs (.l d c) n,h=>by simp[AV.noL] at h
 | .pt (.l d c) o,h=>by simp[AV.noL] at h
 | .agg cs,h=>by simp only[AV.noL] at h;simp only[reA,yir f cs h]
 | .tup cs,h=>by simp only[AV.noL] at h;simp only[reA,yir f cs h]
 | .fn g a c,h=>by simp only[AV.noL,Bool.and_eq_true] at h;simp only[reA,yir f a h.1,yir f c h.2]
 | .gs (.h _) _,_=>rfl
 | .pt (.h _) _,_=>rfl
 | .un,_=>rfl
 | .bl _,_=>rfl
 | .it _ _,_=>rfl
 | .st _,_=>rfl
 | .sl _ _ _,_=>rfl
 | .ep _ _,_=>rfl
 | .nptr,_=>rfl
 | .nfn,_=>rfl
 | .yld _,_=>rfl
 | .rcd _ _ _ _ _,_=>rfl
theorem yir (f:Nat→Nat→Option K2):∀l:List AV,noLs l=true→reAs f l=l
 | [],_=>rfl
 |u::r,h=>by simp only[noLs,Bool.and_eq_true] at h;simp only[reAs,ypv f u h.1,yir f r h.2]
end
theorem RV.vw {ρ:Nat→Option (Nat×Nat)} {S:St} {f:Nat→Nat→Option K2} (hf:∀d k,ρ d=some k→f k.1 k.2=some (d,1)) {u v:AV} (h:RV ρ S (fun _=>False) u v):VW (reA f v) u:=by
 have hL:∀ {us vs:List AV},us.length=vs.length→(∀(j:Nat) (u v:AV),us[j]? =some u→vs[j]? =some v→VW (reA f v) u)→VWs (reAs f vs) us:=by
  intro us vs hl hh
  refine ⟨by rw[yeW];exact hl.symm,fun j a b p q=> ?_⟩
  obtain ⟨w,e1,rfl⟩:=yhM p
  exact hh j b w q e1
 induction h with
 |no u h=>rw[ypv f u h];exact VW.refl _
 |un v=>exact VW.un _
 |gs d n k h=>simp only[reA,hf d k h];exact VW.refl _
 |pt d off k h=>simp only[reA,hf d k h];exact VW.refl _
 |pub k n b hp=>exact hp.elim
 |nil=>exact VW.dwk (.sl true 0 [])
 | ep xs off w=>
   intro G x hx
   obtain ⟨b,base,g,e,a1,a2,a3,a4,a5⟩:=VR.ep_inv (show VR G (.ep xs off) x from hx)
   rw[e,show base+off=(base+off)+0 from rfl]
   have hsub:∀(j:Nat) (u:AV),((xs.drop off).take w)[j]? =some u→xs[off+j]? =some u:=by
    intro j u hu
    simp only[List.getElem?_take,List.getElem?_drop] at hu
    split at hu
    ·exact hu
    ·cases hu
   refine .ep _ 0 b (base+off) (fun j=>g (off+j)) a1 ?_ ?_ ?_ (yoq (fun u hu=>List.mem_of_mem_drop (List.mem_of_mem_take hu)) a5)
   ·intro j u hu;have:=a2 _ u (hsub j u hu);rw[Nat.add_assoc];exact this
   ·intro j u hu;exact a3 _ u (hsub j u hu)
   ·intro j u hu;exact a4 _ u (hsub j u hu)
 |agg us vs hl h ih=>simp only[reA];exact VW.agg (hL hl ih)
 |tup us vs hl h ih=>simp only[reA];exact VW.tup (hL hl ih)
 |fn g us vs us' vs' hl h hl' h' ih ih'=>simp only[reA];exact VW.fn (hL hl ih) (hL hl' ih')
def innM {β:Type} (g:Nat->Option K2) (l:List (Nat×β)):List (Nat×K2):=l.filterMap fun p=>(g p.1).map fun k=>(p.1,k)
theorem yeQ {β:Type} {g:Nat→Option K2} {l:List (Nat×β)} {s:Nat} {k:K2}:(s,k)∈innM g l↔g s=some k∧s∈l.map (·.1):=by
 unfold innM
 rw[List.mem_filterMap]
 constructor
 ·rintro ⟨p,hp,h⟩
  obtain ⟨k',e1,e2⟩:=Option.map_eq_some_iff.1 h
  cases e2
  exact ⟨e1,List.mem_map_of_mem hp⟩
 ·rintro ⟨h,hm⟩
  obtain ⟨p,hp,rfl⟩:=List.mem_map.1 hm
  exact ⟨p,hp,by rw[h];rfl⟩
theorem yo2 {β:Type} {g:Nat→Option K2}:∀ {l:List (Nat×β)},(l.map (·.1)).Nodup→((innM g l).map (·.1)).Nodup
 | [],_=>List.nodup_nil
 | p ::l,h=>by
   obtain ⟨h1,h2⟩:=List.nodup_cons.1 (show (p.1::l.map (·.1)).Nodup from h)
   have ih:=yo2 (g:=g) h2
   unfold innM
   rw[List.filterMap_cons]
   cases hg:g p.1 with
   |none=>exact ih
   | some k=>
     simp only[Option.map_some,List.map_cons]
     refine List.nodup_cons.2 ⟨fun hm=> ?_,ih⟩
     obtain ⟨q,hq,e⟩:=List.mem_map.1 hm
     have:=(yeQ.1 (show (q.1,q.2)∈innM g l from hq)).2
     rw[e] at this;exact h1 this
theorem ypo {β:Type} {g:Nat→Option K2} (inj:∀s s' k,g s=some k→g s'=some k→s=s'):∀ {l:List (Nat×β)},(l.map (·.1)).Nodup→((innM g l).map (·.2)).Nodup
 | [],_=>List.nodup_nil
 | p ::l,h=>by
   obtain ⟨h1,h2⟩:=List.nodup_cons.1 (show (p.1::l.map (·.1)).Nodup from h)
   have ih:=ypo inj h2
   unfold innM
   rw[List.filterMap_cons]
   cases hg:g p.1 with
   |none=>exact ih
   | some k=>
     simp only[Option.map_some,List.map_cons]
     refine List.nodup_cons.2 ⟨fun hm=> ?_,ih⟩
     obtain ⟨q,hq,e⟩:=List.mem_map.1 hm
     obtain ⟨a,b⟩:=yeQ.1 (show (q.1,q.2)∈innM g l from hq)
     have:=inj q.1 p.1 k (by rw[a,e]) hg
     rw[this] at b;exact h1 b
theorem yvv {α β:Type} [DecidableEq α] {l:List (α×β)} (hn:(l.map (·.1)).Nodup) {a:α} {b:β} (h:(a,b)∈l):lkE l a=some b:=by
 induction l with
 |nil=>cases h
 | cons p l ih=>
   obtain ⟨h1,h2⟩:=List.nodup_cons.1 (show (p.1::l.map (·.1)).Nodup from hn)
   simp only[lkE]
   rcases List.mem_cons.1 h with rfl|h
   ·rw[if_pos rfl]
   ·rw[if_neg (fun e=>h1 (by rw[e];exact List.mem_map_of_mem (f:=(·.1)) h))];exact ih h2 h
theorem yvI {α β:Type} [DecidableEq β] {l:List (α×β)} (hn:(l.map (·.2)).Nodup) {a:α} {b:β} (h:(a,b)∈l):lkZ l b=some a:=by
 induction l with
 |nil=>cases h
 | cons p l ih=>
   obtain ⟨h1,h2⟩:=List.nodup_cons.1 (show (p.2::l.map (·.2)).Nodup from hn)
   simp only[lkZ]
   rcases List.mem_cons.1 h with rfl|h
   ·rw[if_pos rfl]
   ·rw[if_neg (fun e=>h1 (by rw[e];exact List.mem_map_of_mem (f:=(·.2)) h))];exact ih h2 h
mutual
theorem yAn {C:Cx K} {ts ts':TS K} {χ:Nat→Nat→Bool} (h:∀s c,ts.tb s c=ts'.tb s c):∀u:TV K,aT C ts χ u=aT C ts' χ u
 | .rw s c=>by simp only[aT,h]
 | .agg cs=>by simp only[aT,yn8 h cs]
 | .tup cs=>by simp only[aT,yn8 h cs]
 | .fn f a c=>by simp only[aT,yn8 h a,yn8 h c]
 | .cn _ v=>by simp only[aT,yAn h v]
 | .it _ _| .bl _| .st _| .sl _ _| .nil| .un| .px _ _ _| .lb _| .li _ _| .em| .pr _ _ _ _ _| .ep _ _ _ _| .gs _ _| .nptr| .fv _ _ _| .yl _=>by simp only[aT]
theorem yn8 {C:Cx K} {ts ts':TS K} {χ:Nat→Nat→Bool} (h:∀s c,ts.tb s c=ts'.tb s c):∀us:List (TV K),aTs C ts χ us=aTs C ts' χ us
 | []=>rfl
 |u::us=>by simp only[aTs,yAn h u,yn8 h us]
end
theorem yxk {K:Nat→Type}:∀ {l:List (Nat×Option (TB K))} {s:Nat},memB l s=true→s∈l.map (·.1)
 | [],_,h=>by cases h
 | p::l,s,h=>by
   have h':(Nat.beq p.1 s||memB l s)=true:=h
   simp only[Bool.or_eq_true] at h'
   rcases h' with h1|h1
   ·rw[<-nbeq.1 h1];exact List.mem_cons_self
   ·exact List.mem_cons_of_mem _ (yxk h1)
theorem BW.trans {a b c:Option Blk} (h:BW a b) (k:BW b c):BW a c:=by
 cases a with
 | none=>cases b with
   |none=>exact k
   |some b=>exact h.elim
 | some a=>cases b with
   |none=>exact h.elim
   | some b=>cases c with
     |none=>exact k.elim
     | some c=>
       obtain ⟨a1,a2,a3,a4,a5⟩:=h
       obtain ⟨b1,b2,b3,b4,b5⟩:=k
       refine ⟨a1,b2.trans a2,b3.trans a3,a4.trans b4,fun j u v p q=> ?_⟩
       have hj:j<b.cells.length:=by rw[b4];exact (List.getElem?_eq_some_iff.1 q).1
       exact (a5 j u _ p (List.getElem?_eq_getElem hj)).trans (b5 j _ v (List.getElem?_eq_getElem hj) q)
section
variable {P:Program} {C:Cx K} {R:RR K} {ts:TS K} {χ:Nat->Nat->Bool} {ds:DS}
theorem ymX:∀ {us:List (TV K)} {vs:List AV} (i t:Nat),TL P C ts χ us vs→TR P C ts χ (lkT (zipT us i) t) (lkF (entF vs i) t)
 | [],vs,i,t,_=> .un _
 |u::us,[],i,t,h=>by have:=h.1;simp at this
 | u::us,v::vs,i,t,h=>by
   show TR P C ts χ (lkT ((i,u)::zipT us (i+1)) t) (lkF ((i,v)::entF vs (i+1)) t)
   rw[ycn,yby]
   simp only
   split
   ·exact h.head.1
   ·exact ymX (i+1) t h.head.2
theorem ytd {Φ:List (Sp K)} {fr fr':List (Nat×TV K)}:∀ {l:List (Nat×List Nat×List Nat)} {fs:List (FV K)} (t:Nat),yqB C Φ fr l=some fs→lkT (zipF l fs++fr') t=lkT fr' t∨∃ps rs F,lkT (zipF l fs++fr') t= .fv ps rs F∧F∈fs∧yvu C Φ (.f ps rs) (lkT fr t)=some (.f F)
 | [],fs,t,h=>by cases h;exact .inl rfl
 | p ::l,fs,t,h=>by
   simp only[yqB] at h
   split at h
   ·rename_i F fs' h1 h2
    cases h
    show lkT ((p.1, .fv p.2.1 p.2.2 F)::(zipF l fs'++fr')) t=_∨∃ps rs F',lkT ((p.1, .fv p.2.1 p.2.2 F)::(zipF l fs'++fr')) t=_/\_/\_
    rw[ycn]
    split
    ·rename_i e;subst e;exact .inr ⟨_,_,F,rfl,List.mem_cons_self,h1⟩
    ·rcases ytd t h2 with e|⟨ps,rs,F',e1,e2,e3⟩
     ·exact .inl e
     ·exact .inr ⟨ps,rs,F',e1,List.mem_cons_of_mem _ e2,e3⟩
   ·cases h
theorem yyd (hC:CxOk P C) (hγ:GM P C R ts χ ds) (hk:DOk ds) {sp:Sl K} {us:List (TV K)} {vs:List AV} {env:List (DV K)} {M:RM} {fs:List (FV K)} (ht:TL P C ts χ us vs)
  (h:rdM C sp.ti ⟨zipT us 0,ts.od,ts.nw,ts.rg,ts.h⟩=some (env,M)) (hn:((entL C sp fs env).od.map (·.1)).Nodup) (h2:∀s∈(entL C sp fs env).od.map (·.1),2000000<=s):
  ViOk (entL C sp fs env) (χ1 (xiM χ M))/\ym2 (innM (rhoM χ M) (entL C sp fs env).od) (toD ds).M/\
  (∀d,BW (memL (innM (rhoM χ M) (entL C sp fs env).od) (toD ds).M d) (memT C (entL C sp fs env) (χ1 (xiM χ M)) d))/\
  (∀d k,rhoM χ M d=some k->finL (innM (rhoM χ M) (entL C sp fs env).od) k.1 k.2=some (d,1))/\
  ∀t,VW (reA (finL (innM (rhoM χ M) (entL C sp fs env).od)) (lkF (entF vs 0) t)) (aT C (entL C sp fs env) (χ1 (xiM χ M)) (lkT (bdT C sp.ti [] [] env).fr t)):=by
 have hm:Mono ts ⟨zipT us 0,ts.od,ts.nw,ts.rg,ts.h⟩ χ χ:=⟨fun _ _ q=>q,fun _ _ q=>q,fun _ _ _=> .inr ⟨rfl,rfl⟩⟩
 have hA:GM P C R ⟨zipT us 0,ts.od,ts.nw,ts.rg,ts.h⟩ χ {ds with fr:=entF vs 0}:=
  ⟨fun t=>(ymX 0 t ht).mono hm,fun s c b hb hx=>by obtain ⟨kb,a,b⟩:=hγ.mb s c b hb hx;exact ⟨kb,a,b.mono hm⟩,hγ.vi,hγ.nw,hγ.hp,hγ.lv⟩
 obtain ⟨r1,r2,r3,r4,r5⟩:=yy5 hC (rg:= []) (fun id w q=>by cases q) h [] hA
 have hod:(entL C sp fs env).od=(bdT C sp.ti [] [] env).od:=rfl
 have htb:∀s c,(bdT C sp.ti [] [] env).tb s c=(entL C sp fs env).tb s c:=fun s c=>rfl
 have hnm:∀s k,rhoM χ M s=some k→s∈(entL C sp fs env).od.map (·.1):=fun s k hs=>by
  obtain ⟨_,b,b1,_,e,_⟩:=r1 s k hs
  exact yxk (yg4 e)
 have hin:∀d k,rhoM χ M d=some k→finL (innM (rhoM χ M) (entL C sp fs env).od) k.1 k.2=some (d,1):=fun d k hd=>by
  unfold finL
  rw[show lkZ (innM (rhoM χ M) (entL C sp fs env).od) (k.1,k.2)=some d from yvI (ypo r4 hn) (yeQ.2 ⟨hd,hnm d k hd⟩)]
  rfl
 have hkb:∀(k:Nat×Nat) (b:TB K),ts.tb k.1 k.2=some b→χ k.1 k.2=false→∃kb,ds.kb k.1 k.2=some kb∧MR P C ⟨zipT us 0,ts.od,ts.nw,ts.rg,ts.h⟩ χ b kb∧(toD ds).M (.l k.1 k.2)=some kb.blk∧kb.sz≠0:=fun k b hb hx=>by
  obtain ⟨kb,e1,e2⟩:=hA.mb k.1 k.2 b hb hx
  exact ⟨kb,e1,e2,by show (ds.kb k.1 k.2).map KB.blk=_;rw[show ds.kb k.1 k.2=some kb from e1];rfl,(hk k.1 k.2 kb e1).1⟩
 refine ⟨?_,⟨yo2 hn,ypo r4 hn,fun p hp=> ?_⟩,fun d=> ?_,hin,fun t=> ?_⟩
 ·intro s c hx
  simp only[χ1,Bool.and_eq_true,decide_eq_true_eq] at hx
  obtain ⟨rfl,hx⟩:=hx
  exact (r3 s hx).2
 ·obtain ⟨a,b⟩:=yeQ.1 (show (p.1,p.2)∈_ from hp)
  obtain ⟨hx,b0,b1,e,_⟩:=r1 _ _ a
  obtain ⟨kb,_,_,e3,e4⟩:=hkb p.2 b0 e hx
  exact ⟨h2 _ b,kb.blk,e3,e4⟩
 ·cases hd:rhoM χ M d with
  | none =>
    have e1:memL (innM (rhoM χ M) (entL C sp fs env).od) (toD ds).M d=none:=by
     unfold memL
     cases he:lkE (innM (rhoM χ M) (entL C sp fs env).od) d with
     |none=>rfl
     |some k=>have:=(yeQ.1 (ypY he)).1;rw[hd] at this;cases this
    have e2:memT C (entL C sp fs env) (χ1 (xiM χ M)) d=none:=by
     unfold memT
     cases hx:χ1 (xiM χ M) d 1 with
     |true=>rfl
     | false=>
       simp only
       cases hb:lkB (entL C sp fs env).od d with
       |none=>rfl
       | some b1=>
         obtain ⟨k,hk'⟩:=r2 d b1 hb (by simpa [χ1] using hx)
         rw[hd] at hk';cases hk'
    rw[e1,e2];trivial
  | some k=>
    obtain ⟨hx,b,b1,e1,e2,e3⟩:=r1 d k hd
    obtain ⟨kb,q1,q2,q3,q4⟩:=hkb k b e1 hx
    obtain ⟨cells1,c1,c2⟩:=e3 kb q2
    have hx0:χ1 (xiM χ M) d 1=false:=by
     cases hq:xiM χ M d with
     |true=>rw[(r3 d hq).1] at hd;cases hd
     |false=>simp[χ1,hq]
    have e4:memL (innM (rhoM χ M) (entL C sp fs env).od) (toD ds).M d=some (Blk.re (finL (innM (rhoM χ M) (entL C sp fs env).od)) kb.blk):=by
     unfold memL
     rw[yvv (yo2 hn) (yeQ.2 ⟨hd,hnm d k hd⟩)]
     simp only[Option.bind_some]
     rw[q3];rfl
    have e5:memT C (entL C sp fs env) (χ1 (xiM χ M)) d=some (bT C (entL C sp fs env) (χ1 (xiM χ M)) b1):=by
     unfold memT
     rw[hx0,show lkB (entL C sp fs env).od d=some b1 from e2];rfl
    rw[e4,e5]
    have w1:BW (some (Blk.re (finL (innM (rhoM χ M) (entL C sp fs env).od)) kb.blk)) (some ⟨kb.e,kb.sz,cells1⟩):=by
     refine ⟨q4,rfl,rfl,?_,fun j u v p q=> ?_⟩
     ·show (reAs _ kb.cells).length=cells1.length
      rw[yeW];exact c2.1.symm
     ·obtain ⟨w,f1,rfl⟩:=yhM p
      exact (c2.2 j v w q f1).vw hin
    have w2:=c1.canon (show (⟨kb.e,kb.sz,cells1,false⟩:KB).sz≠0 from q4)
    have e6:bT C (entL C sp fs env) (χ1 (xiM χ M)) b1=bT C (bdT C sp.ti [] [] env) (χ1 (xiM χ M)) b1:=by
     cases b1<;>simp only[bT,yn8 (fun s c=>(htb s c).symm)]
    rw[e6]
    exact w1.trans w2
 ·obtain ⟨v1,t1,t2⟩:=r5 t _ (hA.fr t)
  rw[<-yAn htb]
  exact (t2.vw hin).trans t1.canon
theorem yvc (hC:CxOk P C) {Φ:List (Sp K)} (hS:SsOk P C Φ) {sp:Sl K} {us:List (TV K)} {vs:List AV} {env:List (DV K)} {fs:List (FV K)} {χ0:Nat→Nat→Bool} {f:Nat→Nat→Option K2} (ht:TL P C ts χ us vs)
  (hf:yqB C Φ (zipT us 0) sp.fs=some fs) (hl:us.length=npL sp) (hv:∀t,VW (reA f (lkF (entF vs 0) t)) (aT C (entL C sp fs env) χ0 (lkT (bdT C sp.ti [] [] env).fr t))):VWs (vs.map (reA f)) (argT C sp (entL C sp fs env) χ0):=by
 refine ⟨by unfold argT;rw[List.length_map,List.length_map,List.length_range,<-hl];exact ht.1,fun j u w hu hw=> ?_⟩
 rw[List.getElem?_map] at hu
 obtain ⟨v,e1,rfl⟩:=Option.map_eq_some_iff.1 hu
 unfold argT at hw
 rw[List.getElem?_map] at hw
 obtain ⟨i,e2,rfl⟩:=Option.map_eq_some_iff.1 hw
 have hi:i=j:=by
  have hj:j<npL sp:=by simpa using (List.getElem?_eq_some_iff.1 e2).1
  rw[List.getElem?_range hj] at e2;exact (Option.some.inj e2).symm
 subst hi
 have hvi:lkF (entF vs 0) i=v:=by rw[ysd,if_pos (Nat.zero_le _),Nat.sub_zero,e1];rfl
 have ht':=ymX 0 i ht
 rw[hvi] at ht'
 have hv':=hv i
 rw[hvi] at hv'
 rcases ytd (fr':=(bdT C sp.ti [] [] env).fr) i hf with e|⟨ps,rs,F,e,_,e3⟩
 ·rw[show lkT (entL C sp fs env).fr i=lkT (bdT C sp.ti [] [] env).fr i from e];exact hv'
 ·rw[show lkT (entL C sp fs env).fr i= .fv ps rs F from e]
  obtain ⟨q1,q2,_⟩:=ylP hC hS e3 ht'
  rw[ypv f v q1]
  have q3:dwk v=F.av:=q2
  simp only[aT]
  rw[<-q3]
  exact VW.dwk v
theorem ypL (hC:CxOk P C) {Φ:List (Sp K)} (hS:SsOk P C Φ) {us:List (TV K)} {vs:List AV} (ht:TL P C ts χ us vs):∀ {l:List (Nat×List Nat×List Nat)} {fs:List (FV K)},yqB C Φ (zipT us 0) l=some fs→fs.length=l.length∧∀F∈fs,FOk P C F
 | [],fs,h=>by cases h;exact ⟨rfl,fun F hF=>by cases hF⟩
 | p::l,fs,h=>by
   simp only[yqB] at h
   split at h
   ·rename_i F fs' h1 h2
    cases h
    obtain ⟨a,b⟩:=ypL hC hS ht h2
    refine ⟨by simp[a],fun G hG=> ?_⟩
    rcases List.mem_cons.1 hG with rfl|hG
    ·exact (ylP hC hS h1 (ymX 0 p.1 ht)).2.2 _ rfl
    ·exact b G hG
   ·cases h
theorem yr4 (hC:CxOk P C) {Φ:List (Sp K)} (hS:SsOk P C Φ) (hγ:GM P C R ts χ ds) (hk:DOk ds) {sp:Sl K} (hL:SlOk P C sp) {us:List (TV K)} {vs:List AV} {env out:List (DV K)} {M:RM} {fs:List (FV K)} (ht:TL P C ts χ us vs)
  (h:rdM C sp.ti ⟨zipT us 0,ts.od,ts.nw,ts.rg,ts.h⟩=some (env,M)) (hf:yqB C Φ (zipT us 0) sp.fs=some fs) (hl:us.length=npL sp) (hn:((entL C sp fs env).od.map (·.1)).Nodup) (h2:∀s∈(entL C sp fs env).od.map (·.1),2000000<=s) (hW:sp.W fs env out):
  ym2 (innM (rhoM χ M) (entL C sp fs env).od) (toD ds).M/\∀H n,ybf P sp.f (vs.map (reA (finL (innM (rhoM χ M) (entL C sp fs env).od)))) (memL (innM (rhoM χ M) (entL C sp fs env).od) (toD ds).M) H n (EndL C sp (entL C sp fs env) (χ1 (xiM χ M)) out H n):=by
 obtain ⟨a1,a2,a3,a4,a5⟩:=yyd hC hγ hk ht h hn h2
 obtain ⟨b1,b2⟩:=ypL hC hS ht hf
 exact ⟨a2,fun H n=>(hL fs env out b1 b2 hW _ a1 H n).weak (yvc hC hS ht hf hl a5) a3⟩
end
structure ypU (P:Program) (C:Cx K) (t1 t2:TS K) (χ' χ2:Nat→Nat→Bool) (m:RM) (n:Nat→Nat) (f:Nat→Nat→Option K2):Prop where
 r:∀s k,tln (t1.tb s 1)=some k->χ' s 1=false->∃q:K2,plV (K:=K) m n (.rw s 1)= .rw q.1 q.2/\f s 1=some q/\okr t2 q.1 q.2/\tln (t2.tb q.1 q.2)=some k/\χ2 q.1 q.2=false
 nr:∀s k,tln (t1.tb s 1)=some k->χ' s 1=true->TR P C t2 χ2 (plV m n (.rw s 1)) (.sl true 0 [])
 b:∀s,isBx (t1.tb s 1)=true->∃q:K2,(∀o,plV (K:=K) m n (.px s 1 o)= .px q.1 q.2 o)/\f s 1=some q/\okr t2 q.1 q.2
section
variable {P:Program} {C:Cx K} {t1 t2:TS K} {χ' χ2:Nat->Nat->Bool} {m:RM} {n:Nat->Nat} {f:Nat->Nat->Option K2}
mutual
theorem yqV:∀u:TV K,ybi u=true→plV m n u=u
 | .agg cs,h=>by simp only[ybi] at h;simp only[plV,yif cs h]
 | .fn f a c,h=>by simp only[ybi,Bool.and_eq_true] at h;simp only[plV,yif a h.1,yif c h.2]
 | .rw _ _,h=>by simp[ybi] at h
 | .px _ _ _,h=>by simp[ybi] at h
 | .un,_| .tup _,_| .cn _ _,_| .it _ _,_| .bl _,_| .st _,_| .sl _ _,_| .nil,_| .lb _,_| .li _ _,_| .em,_| .pr _ _ _ _ _,_| .ep _ _ _ _,_| .gs _ _,_| .nptr,_| .fv _ _ _,_| .yl _,_=>by simp only[plV]
theorem yif:∀us:List (TV K),ybQ us=true→plVs m n us=us
 | [],_=>rfl
 |u::us,h=>by simp only[ybQ,Bool.and_eq_true] at h;simp only[plVs,yqV u h.1,yif us h.2]
end
theorem ytT (hC:CxOk P C) (t:Nat) (x:K t):TR P C t2 χ2 (plV m n (inV C t x)) (reA f (aT C t1 χ' (inV C t x))):=by
 rcases yy8 hC t x with e|e
 ·rw[e];exact .un _
 ·obtain ⟨a,b⟩:=(ypx (ts:=t1) (χ:=χ') hC t x).noref (ts':=t2) (χ':=χ2) e
  rw[yqV _ e,ypv f _ b];exact a
mutual
theorem ytC (hC:CxOk P C) (h:ypU P C t1 t2 χ' χ2 m n f) {bx rw:List Nat} (hrw:∀s,s∈rw→(tln (t1.tb s 1)).isSome=true) (hbx:∀s,s∈bx→isBx (t1.tb s 1)=true):∀(k:Kd) (a:List (DV K)),okK bx rw k=true→TR P C t2 χ2 (plV m n (bdV C [] k a).1) (reA f (aT C t1 χ' (bdV C [] k a).1))
 | .it k,a,_=>by cases a with
   |nil=>exact .un _
   |cons x a=>cases x<;>first|exact .it k _|exact .un _
 | .bl,a,_=>by cases a with
   |nil=>exact .un _
   |cons x a=>cases x<;>first|exact .bl _|exact .un _
 | .st,a,_=>by cases a with
   |nil=>exact .un _
   |cons x a=>cases x<;>first|exact .st _|exact .un _
 | .sl e,a,_=>by cases a with
   |nil=>exact .un _
   | cons x a=>cases x with
     | l e' l=>
       simp only[bdV]
       split
       ·exact .sl e _ false _ _ rfl (yml hC e _)
       ·exact .un _
     |_=>exact .un _
 | .v t,a,_=>by cases a with
   |nil=>exact .un _
   | cons x a=>cases x with
     | v t' x=>
       simp only[bdV]
       split
       ·exact ytT hC t _
       ·exact .un _
     |_=>exact .un _
 | .row s,a,hk=>by
   simp only[okK] at hk
   obtain ⟨k,hk⟩:=Option.isSome_iff_exists.1 (hrw s (yhg.1 hk))
   have e:(bdV C [] (.row s) a).1= .rw s 1:=by cases a<;>rfl
   rw[e]
   simp only[aT,hk]
   cases hx:χ' s 1 with
   |true=>exact h.nr s k hk hx
   | false=>
     obtain ⟨q,e1,e2,e3,e4,e5⟩:=h.r s k hk hx
     rw[e1]
     simp only[reA,e2]
     exact .rw _ _ k e3 e4 e5
 | .px s o,a,hk=>by
   simp only[okK] at hk
   have e:(bdV C [] (.px s o) a).1= .px s 1 o:=by cases a<;>rfl
   obtain ⟨q,e1,e2,e3⟩:=h.b s (hbx s (yhg.1 hk))
   rw[e,e1 o]
   simp only[aT,reA,e2]
   exact .px _ _ o e3
 | .kp id,a,hk=>by simp[okK] at hk
 | .nil,a,_=>by
   have e:(bdV C [] .nil a).1= .nil:=by cases a<;>rfl
   rw[e];exact .nil
 | .np,a,_=>by
   have e:(bdV C [] .np a).1= .nptr:=by cases a<;>rfl
   rw[e];exact .nptr
 | .un,a,_=>by
   have e:(bdV C [] .un a).1= .un:=by cases a<;>rfl
   rw[e];exact .un _
 | .agg l,a,hk=>by
   simp only[okK] at hk
   have:=yhO hC h hrw hbx l a hk
   simp only[bdV,aT,plV,reA]
   exact .agg _ _ this.1 this.2
 | .fn g x y,a,hk=>by
   simp only[okK,Bool.and_eq_true] at hk
   have h1:=yhO hC h hrw hbx x a hk.1
   have h2:=yhO hC h hrw hbx y (bdVs C [] x a).2 hk.2
   simp only[bdV,aT,plV,reA]
   exact .fn g _ _ _ _ h1.1 h2.1 h1.2 h2.2
theorem yhO (hC:CxOk P C) (h:ypU P C t1 t2 χ' χ2 m n f) {bx rw:List Nat} (hrw:∀s,s∈rw→(tln (t1.tb s 1)).isSome=true) (hbx:∀s,s∈bx→isBx (t1.tb s 1)=true):∀(l:List Kd) (a:List (DV K)),okKs bx rw l=true→TL P C t2 χ2 (plVs m n (bdVs C [] l a).1) (reAs f (aTs C t1 χ' (bdVs C [] l a).1))
 | [],a,_=> .nil
 | k::l,a,hk=>by
   simp only[okKs,Bool.and_eq_true] at hk
   simp only[bdVs,aTs,plVs,reAs]
   exact .cons (ytC hC h hrw hbx k a hk.1) (yhO hC h hrw hbx l _ hk.2)
end
theorem ytw (hC:CxOk P C) (h:ypU P C t1 t2 χ' χ2 m n f) {bx rw:List Nat} (hrw:∀s,s∈rw→(tln (t1.tb s 1)).isSome=true) (hbx:∀s,s∈bx→isBx (t1.tb s 1)=true) (l:List Kd) (a:List (DV K)) (hk:okKs bx rw l=true):TL P C t2 χ2 (plVs m n (bdW C [] l a).1) (reAs f (aTs C t1 χ' (bdW C [] l a).1)):=by
 by_cases hw:∃t,l= [.v t]/\(C.T t).g=true
 ·obtain ⟨t,rfl,hg⟩:=hw
  have key:∀x:K t,TL P C t2 χ2 (plVs m n ((C.T t).c x)) (reAs f (aTs C t1 χ' ((C.T t).c x))):=fun x=>by
   have:=ytT (P:=P) (t1:=t1) (t2:=t2) (χ':=χ') (χ2:=χ2) (m:=m) (n:=n) (f:=f) hC t x
   rw[show inV C t x= .agg ((C.T t).c x) by unfold inV;rw[hg]] at this
   simp only[aT,plV,reA] at this
   obtain ⟨vs,e,c1,c2⟩:=this.agg'
   cases e
   exact ⟨c1,c2⟩
  unfold bdW
  simp only[hg]
  split
  ·split
   ·exact key _
   ·exact .nil
  ·exact .nil
 ·rw[yp0 (fun t e=>by
   cases hg:(C.T t).g with
   |false=>rfl
   |true=>exact absurd ⟨t,e,hg⟩ hw)]
  exact yhO hC h hrw hbx l a hk
theorem yjr (m:RM) (n:Nat→Nat):∀us:List (TV K),plVs m n us=us.map (plV m n)
 | []=>rfl
 |u::us=>by rw[plVs,yjr m n us];rfl
theorem yCR (hC:CxOk P C) (e:Nat) (l:List (K e)):noLs (cl (C.E e) l)=true:=ycg (yml hC e l)
theorem yx6 (hC:CxOk P C) (h:ypU P C t1 t2 χ' χ2 m n f) {bx rw:List Nat} (hrw:∀s,s∈rw→(tln (t1.tb s 1)).isSome=true) (hbx:∀s,s∈bx→isBx (t1.tb s 1)=true) {b b':TB K}
  (hb:(∃e l x,okKs bx rw l=true/\(l≠ []/\wt (ctVs l) x=true)/\b= .box e (bdW C [] l x).1)∨∃e l,b= .row e l) (hm:mapB (plV m n) (some b)=some b'):
  MR P C t2 χ2 b' ⟨(bT C t1 χ' b).e,(bT C t1 χ' b).sz,reAs f (bT C t1 χ' b).cells,false⟩/\(bT C t1 χ' b).sz≠0:=by
 rcases hb with ⟨e,l,x,h1,h2,rfl⟩|⟨e,l,rfl⟩
 ·cases hm
  obtain ⟨a1,a2⟩:=ytw hC h hrw hbx l x h1
  rw[yjr] at a1 a2
  refine ⟨⟨rfl,by simp[bT],a1,a2⟩,?_⟩
  have:=ywR hC h2.2 h2.1
  simp only[bT];exact this
 ·cases hm
  refine ⟨⟨rfl,rfl,?_⟩,?_⟩
  ·show dwks (reAs f (cl (C.E e) l))=_
   rw[yir f _ (yCR hC e l)];exact yml hC e l
  ·have:=(C.E e).pos;simp only[bT];omega
end
section
variable {P:Program} {C:Cx K} {ts:TS K} {χ:Nat->Nat->Bool}
theorem yBG {a b:TV K} {r q:List (TV K)} (h:eqTs (a::r) (b::q)):eqT a b∧eqTs r q:=by
 cases r with
 | nil=>cases q with
   |nil=>exact ⟨by simpa only[eqTs] using h,by simp only[eqTs]⟩
   |cons y q=>simp only[eqTs] at h
 |cons x r=>simpa only[eqTs] using h
end
theorem yvd:∀ {x y:DV K},eqD1 x y→x=y:=by
 intro x y h1
 cases x<;>cases y<;>simp only[eqD1] at h1<;>first
  |exact h1.elim
  |(rw[h1];done)
  | (split at h1
     next e=>subst e;simp only at h1;rw[h1]
     next=>exact h1.elim)
theorem yvb:∀ {a b:List (DV K)},eqDV a b→a=b
 | [],[],_=>rfl
 | [],_::_,h=>by simp[eqDV] at h
 |_::_,[],h=>by simp[eqDV] at h
 | [x],[y],h=>by simp only[eqDV] at h;rw[yvd h]
 | [x],_::_::_,h=>by simp[eqDV] at h
 |x::x'::a,[y],h=>by simp[eqDV] at h
 | x::x'::a,y::y'::b,h=>by
   simp only[eqDV] at h
   rw[yvd h.1,yvb (show eqDV (x'::a) (y'::b) from h.2)]
end Go.AV
end
noncomputable section
namespace Go.AV
open Go.RowKit Go.RG Go.Lib
variable {K:Nat->Type}
section
variable {C:Cx K} {t t1:TS K} {χ:Nat->Nat->Bool}
mutual
theorem yyt (h:∀s c,tln (t.tb s c)=tln (t1.tb s c)):∀u:TV K,aT C t χ u=aT C t1 χ u
 | .rw s c=>by simp only[aT,h]
 | .agg cs=>by simp only[aT,yji h cs]
 | .tup cs=>by simp only[aT,yji h cs]
 | .fn f a c=>by simp only[aT,yji h a,yji h c]
 | .cn _ v=>by simp only[aT,yyt h v]
 | .it _ _| .bl _| .st _| .sl _ _| .nil| .un| .px _ _ _| .lb _| .li _ _| .em| .pr _ _ _ _ _| .ep _ _ _ _| .gs _ _| .nptr| .fv _ _ _| .yl _=>by simp only[aT]
theorem yji (h:∀s c,tln (t.tb s c)=tln (t1.tb s c)):∀us:List (TV K),aTs C t χ us=aTs C t1 χ us
 | []=>rfl
 |u::us=>by simp only[aTs,yyt h u,yji h us]
end
theorem aT_s (u:TV K):aT C t χ u.s=aT C t χ u:=by cases u<;>simp only[TV.s,aT]
mutual
theorem yBt:∀(u w:TV K),eqT u w→aT C t χ u=aT C t χ w
 | .it k n,w,h=>by
   rw[<-aT_s w]
   simp only[eqT] at h
   split at h
   ·rename_i e
    split at h
    ·rename_i ek;subst ek;subst h;rw[e]
    ·exact h.elim
   ·rename_i e
    split at h
    ·rename_i ek;subst ek;subst h;rw[e];simp only[aT]
    ·exact h.elim
   ·exact h.elim
 | .bl b,w,h=>by
   rw[<-aT_s w]
   simp only[eqT] at h
   split at h
   ·rename_i e;rw[e];subst h;rfl
   ·rename_i e;rw[e];subst h;simp only[aT]
   ·exact h.elim
 | .st s,w,h=>by
   rw[<-aT_s w]
   simp only[eqT] at h
   split at h
   ·rename_i e;rw[e];subst h;rfl
   ·exact h.elim
 | .sl e l,w,h=>by
   rw[<-aT_s w]
   simp only[eqT] at h
   split at h
   ·rename_i e2;rw[e2]
    split at h
    ·rename_i e3;subst e3;simp only at h;subst h;rfl
    ·exact h.elim
   ·exact h.elim
 | .agg l,w,h=>by
   rw[<-aT_s w]
   simp only[eqT] at h
   split at h
   ·rename_i l' e;rw[e];simp only[aT,yoe l l' h]
   ·exact h.elim
 | .rw s c,w,h=>by
   rw[<-aT_s w]
   simp only[eqT] at h
   split at h
   ·rename_i s' c' e;rw[e]
    split at h
    ·rename_i e2
     simp only[Bool.and_eq_true] at e2
     rw[nbeq.1 e2.1,nbeq.1 e2.2]
    ·exact h.elim
   ·exact h.elim
 | .px s c o,w,h=>by
   rw[<-aT_s w]
   simp only[eqT] at h
   split at h
   ·rename_i s' c' o' e;rw[e]
    split at h
    ·rename_i e2
     simp only[Bool.and_eq_true] at e2
     rw[nbeq.1 e2.1.1,nbeq.1 e2.1.2,nbeq.1 e2.2]
    ·exact h.elim
   ·exact h.elim
 | .nptr,w,h=>by
   rw[<-aT_s w]
   simp only[eqT] at h
   split at h
   ·rename_i e;rw[e]
   ·exact h.elim
 | .nil,w,h=>by
   rw[<-aT_s w]
   simp only[eqT] at h
   split at h
   ·rename_i e;rw[e]
   ·exact h.elim
 | .un,w,h=>by
   cases w with
   |un=>rfl
   |_=>simp[eqT] at h
 | .lb _,w,h| .li _ _,w,h| .tup _,w,h| .em,w,h| .pr _ _ _ _ _,w,h| .ep _ _ _ _,w,h| .gs _ _,w,h| .fn _ _ _,w,h| .fv _ _ _,w,h| .yl _,w,h| .cn _ _,w,h=>by simp[eqT] at h
theorem yoe:∀(us ws:List (TV K)),eqTs us ws→aTs C t χ us=aTs C t χ ws
 | [],[],_=>rfl
 | [],w::ws,h=>by simp[eqTs] at h
 |u::us,[],h=>by simp[eqTs] at h
 | u::us,w::ws,h=>by
   obtain ⟨h1,h2⟩:=yBG h
   simp only[aTs,yBt u w h1,yoe us ws h2]
end
def bTx (C:Cx K) (t:TS K) (χ:Nat->Nat->Bool) (o:Option (TB K)):Option Blk:=o.map (bT C t χ)
theorem ypz (us:List (TV K)):(aTs C t χ us).length=us.length:=by rw[ycZ,List.length_map]
theorem ysY {b b1:Option (TB K)} (h:eqB b b1):tln b=tln b1∧b.map (bT C t χ)=b1.map (bT C t χ)∧(∀e,b1=some (.row e [])→b=some (.row e []))∧b.isSome=true:=by
 unfold eqB at h
 split at h
 ·split at h
  rotate_left
  ·exact h.elim
  rename_i hb
  have hb:=nbeq.1 hb
  subst hb
  have:=yoe (C:=C) (t:=t) (χ:=χ) _ _ h
  refine ⟨rfl,?_,fun e q=>(by cases q),rfl⟩
  have hl:=congrArg List.length this
  rw[ypz,ypz] at hl
  simp only[Option.map_some,bT,this,hl]
 ·split at h
  ·rename_i e;subst e;simp only at h;subst h;exact ⟨rfl,rfl,fun e q=>q,rfl⟩
  ·exact h.elim
 ·exact h.elim
theorem yvV {ts0 ts:TS K} {p:Prop}:∀ {l:List Nat},kpt ts0 ts l p→(∀s∈l,eqB (ts0.tb s 1) (ts.tb s 1))∧p
 | [],h=>⟨fun s hs=>(by cases hs),h⟩
 | s::r,h=>by
   simp only[kpt] at h
   obtain ⟨a,b⟩:=yvV h.2
   exact ⟨fun s' hs=>by
    rcases List.mem_cons.1 hs with rfl|hs
    ·exact h.1
    ·exact a s' hs,b⟩
theorem yio {α β:Type} {Q:List (Nat×α)} {l:List (Nat×β)} {p:Nat→Bool} {g:Nat×α→Bool} (h:Q.map (·.1)=l.map (·.1)) (hg:∀x∈Q,g x=p x.1):(Q.filter g).map (·.1)=(l.filter fun x=>p x.1).map (·.1):=by
 have e1:Q.filter g=Q.filter (p∘(·.1)):=List.filter_congr hg
 rw[e1,<-List.filter_map,h,List.filter_map]
 rfl
theorem yAr (a b:List (Nat×Nat×List Kd)):ctB (a++b)=ctB a++ctB b:=List.flatMap_append ..
theorem yA1 (a b:List (Nat×Nat)):ctR (a++b)=ctR a++ctR b:=List.map_append ..
structure TT (C:Cx K) (sp:Sl K) (t:TS K):Prop where
 nm:t.od.map (·.1)=sp.te.bx.map (·.1)++sp.kbx.map (·.1)++sp.te.rw.map (·.1)++sp.krw.map (·.1)
 nw:t.nw= []
 nd:(t.od.map (·.1)).Nodup
 ent:∀p∈t.od,((∃e l x,okKs (sp.to.bx.map (·.1)) (sp.to.rw.map (·.1)) l=true/\(l≠ []/\wt (ctVs l) x=true)/\p.2=some (.box e (bdW C [] l x).1))/\p.1∈sp.to.bx.map (·.1))∨(∃e l,p.2=some (.row e l))/\p.1∈sp.to.rw.map (·.1)
 bx:∀s∈sp.to.bx.map (·.1),isBx (t.tb s 1)=true
 rw:∀s∈sp.to.rw.map (·.1),(tln (t.tb s 1)).isSome=true
 fr:∀s,lkT t.fr s= .un∨∃p∈sp.te.ks,∃x,lkT t.fr s=(bdV C [] p.2 x).1
theorem yyB {sp:Sl K} {fs:List (FV K)} {env out:List (DV K)} (hE:okS sp env=true) (hwo:wt (ctT sp.te) out=true):TT C sp (endT C sp (entL C sp fs env) out):=by
 obtain ⟨o1,o2,o3,o4,o5,o6⟩:=ypR hE
 rw[yqX] at hwo
 obtain ⟨ab,c1,rfl,w12,w6⟩:=yde hwo
 obtain ⟨a,b1,rfl,w1,w4⟩:=yde w12
 let ts0:=entL C sp fs env
 let F1:=ts0.od.filter fun x=>ye9 sp.kp x.1&&isBx x.2
 let F2:=ts0.od.filter fun x=>ye9 sp.kp x.1&& !isBx x.2
 have ht:endT C sp ts0 (a++b1++c1)=⟨(bdS C [] sp.te.ks a).1,(bdB C [] sp.te.bx b1).1++F1++bdR sp.te.rw c1++F2,[],[],[]⟩:=by
  unfold endT
  simp only
  rw[List.append_assoc,yqZ sp.te.ks a (b1++c1) w1]
  simp only
  rw[ypW sp.te.bx b1 c1 w4]
 obtain ⟨i1,i2⟩:=yjd (C:=C) (rg:= []) (hh:= []) o6
 have h0d:(ts0.od.map (·.1)).Nodup:=by
  show ((bdT C sp.ti [] [] env).od.map (·.1)).Nodup
  rw[i1];exact o1.nd
 obtain ⟨ai,bi,ci,_,v1,v2,v3,ei⟩:=yh9 (rg:= []) (hh:= []) (C:=C) o6
 have hod:ts0.od=(bdB C [] sp.ti.bx bi).1++bdR sp.ti.rw ci:=by
  show (bdT C sp.ti [] [] env).od=_
  rw[ei]
 obtain ⟨p1,p2⟩:=yjl (C:=C) (rg:= []) sp.ti.bx bi v2
 obtain ⟨q1,q2⟩:=yiU sp.ti.rw ci v3
 have isb:∀x∈(bdB C [] sp.ti.bx bi).1,isBx x.2=true:=fun x hx=>by obtain ⟨k,_,_,y,_,e⟩:=p2 x hx;rw[e];rfl
 have isr:∀x∈bdR sp.ti.rw ci,isBx x.2=false:=fun x hx=>by obtain ⟨k,_,_,y,e⟩:=q2 x hx;rw[e];rfl
 have nF1:F1.map (·.1)=sp.kbx.map (·.1):=by
  show (ts0.od.filter _).map _=_
  rw[hod,List.filter_append,List.map_append]
  have e2:(bdR sp.ti.rw ci).filter (fun x=>ye9 sp.kp x.1&&isBx x.2)= []:=List.filter_eq_nil_iff.2 fun x hx=>by rw[isr x hx];simp
  rw[e2,List.map_nil,List.append_nil]
  exact yio p1 fun x hx=>by rw[isb x hx,Bool.and_true]
 have nF2:F2.map (·.1)=sp.krw.map (·.1):=by
  show (ts0.od.filter _).map _=_
  rw[hod,List.filter_append,List.map_append]
  have e2:(bdB C [] sp.ti.bx bi).1.filter (fun x=>ye9 sp.kp x.1&& !isBx x.2)= []:=List.filter_eq_nil_iff.2 fun x hx=>by rw[isb x hx];simp
  rw[e2,List.map_nil,List.nil_append]
  exact yio q1 fun x hx=>by rw[isr x hx];simp
 obtain ⟨x1,x2⟩:=yjl (C:=C) (rg:= []) sp.te.bx b1 w4
 obtain ⟨y1,y2⟩:=yiU sp.te.rw c1 w6
 have nt:(endT C sp ts0 (a++b1++c1)).od.map (·.1)=sp.te.bx.map (·.1)++sp.kbx.map (·.1)++sp.te.rw.map (·.1)++sp.krw.map (·.1):=by
  rw[ht];simp only[List.map_append,nF1,nF2,x1,y1]
 have hto:sp.to.bx.map (·.1)++sp.to.rw.map (·.1)=sp.te.bx.map (·.1)++sp.kbx.map (·.1)++sp.te.rw.map (·.1)++sp.krw.map (·.1):=by
  show (sp.te.bx++sp.kbx).map (·.1)++(sp.te.rw++sp.krw).map (·.1)=_
  simp only[List.map_append,List.append_assoc]
 have nd:((endT C sp ts0 (a++b1++c1)).od.map (·.1)).Nodup:=by rw[nt,<-hto];exact o2.nd
 have ent:∀p∈(endT C sp ts0 (a++b1++c1)).od,((∃e l x,okKs (sp.to.bx.map (·.1)) (sp.to.rw.map (·.1)) l=true∧(l≠ []∧wt (ctVs l) x=true)∧p.2=some (.box e (bdW C [] l x).1))∧p.1∈sp.to.bx.map (·.1))∨(∃e l,p.2=some (.row e l))∧p.1∈sp.to.rw.map (·.1):=by
  intro p hp
  rw[ht] at hp
  simp only[List.mem_append] at hp
  have tobx:∀k,k∈sp.te.bx∨k∈sp.kbx->k∈sp.to.bx:=fun k hk=>List.mem_append.2 hk
  rcases hp with ((hp|hp)|hp)|hp
  ·obtain ⟨k,hk,e2,x,ew,e3⟩:=x2 p hp
   have:=o2.bx k (tobx k (.inl hk))
   exact .inl ⟨⟨_,_,x,this.1,⟨this.2,ew⟩,e3⟩,by rw[e2];exact List.mem_map_of_mem (f:=(·.1)) (tobx k (.inl hk))⟩
  ·obtain ⟨m1,m2⟩:=List.mem_filter.1 hp
   simp only[Bool.and_eq_true] at m2
   rw[hod] at m1
   rcases List.mem_append.1 m1 with m1|m1
   ·obtain ⟨k,hk,e2,x,ew,e3⟩:=p2 p m1
    have hkb:k∈sp.kbx:=List.mem_filter.2 ⟨hk,by rw[<-e2];exact m2.1⟩
    have:=o2.bx k (tobx k (.inr hkb))
    exact .inl ⟨⟨_,_,x,this.1,⟨this.2,ew⟩,e3⟩,by rw[e2];exact List.mem_map_of_mem (f:=(·.1)) (tobx k (.inr hkb))⟩
   ·rw[isr p m1] at m2;cases m2.2
  ·obtain ⟨k,hk,e2,x,e3⟩:=y2 p hp
   exact .inr ⟨⟨_,x,e3⟩,by rw[e2];exact List.mem_map_of_mem (f:=(·.1)) (show k∈sp.te.rw++sp.krw from List.mem_append_left _ hk)⟩
  ·obtain ⟨m1,m2⟩:=List.mem_filter.1 hp
   simp only[Bool.and_eq_true,Bool.not_eq_true'] at m2
   rw[hod] at m1
   rcases List.mem_append.1 m1 with m1|m1
   ·rw[isb p m1] at m2;cases m2.2
   ·obtain ⟨k,hk,e2,x,e3⟩:=q2 p m1
    have hkr:k∈sp.krw:=List.mem_filter.2 ⟨hk,by rw[<-e2];exact m2.1⟩
    exact .inr ⟨⟨_,x,e3⟩,by rw[e2];exact List.mem_map_of_mem (f:=(·.1)) (show k∈sp.te.rw++sp.krw from List.mem_append_right _ hkr)⟩
 have disj:∀s,s∈sp.to.bx.map (·.1)->s∈sp.to.rw.map (·.1)->False:=fun s h1 h2=>(List.nodup_append.1 o2.nd).2.2 s h1 s h2 rfl
 refine ⟨nt,rfl,nd,ent,fun s hs=> ?_,fun s hs=> ?_,fun s=> ?_⟩
 ·have hm:s∈(endT C sp ts0 (a++b1++c1)).od.map (·.1):=by rw[nt,← hto];exact List.mem_append_left _ hs
  obtain ⟨p,hp,rfl⟩:=List.mem_map.1 hm
  show isBx (lkB (endT C sp ts0 (a++b1++c1)).od p.1)=true
  rw[ye3 nd (show (p.1,p.2)∈_ from hp)]
  rcases ent p hp with ⟨⟨e,l,x,_,_,a3⟩,_⟩|⟨_,a2⟩
  ·rw[a3];rfl
  ·exact (disj _ hs a2).elim
 ·have hm:s∈(endT C sp ts0 (a++b1++c1)).od.map (·.1):=by rw[nt,← hto];exact List.mem_append_right _ hs
  obtain ⟨p,hp,rfl⟩:=List.mem_map.1 hm
  show (tln (lkB (endT C sp ts0 (a++b1++c1)).od p.1)).isSome=true
  rw[ye3 nd (show (p.1,p.2)∈_ from hp)]
  rcases ent p hp with ⟨_,a4⟩|⟨⟨e,l,a1⟩,_⟩
  ·exact (disj _ a4 hs).elim
  ·rw[a1];rfl
 ·show lkT (endT C sp ts0 (a++b1++c1)).fr s= .un∨∃p∈sp.te.ks,∃x,lkT (endT C sp ts0 (a++b1++c1)).fr s=(bdV C [] p.2 x).1
  rw[ht]
  rcases ysh (C:=C) (rg:= []) sp.te.ks a s with e|⟨p,hp,_,x,e⟩
  ·exact .inl e
  ·exact .inr ⟨p,hp,x,e⟩
theorem yBZ {sp:Sl K} {fs:List (FV K)} {env env' out:List (DV K)} (hE:okS sp env=true) (hw:wt (ctT sp.to) env'=true) (hk:kpt (entL C sp fs env) (bdT C sp.to [] [] env') sp.kp (eqDV (selL sp env') out)):
  wt (ctT sp.te) out=true/\(bdT C sp.to [] [] env').fr=(endT C sp (entL C sp fs env) out).fr/\
  ∀s,lkB (endT C sp (entL C sp fs env) out).od s=lkB (bdT C sp.to [] [] env').od s∨eqB (lkB (endT C sp (entL C sp fs env) out).od s) (lkB (bdT C sp.to [] [] env').od s):=by
 obtain ⟨o1,o2,o3,o4,o5,o6⟩:=ypR hE
 obtain ⟨hkp,hsel⟩:=yvV hk
 have hsel:=yvb hsel
 obtain ⟨a,b12,c12,e0,w1,w2,w3,e1⟩:=yh9 (rg:= []) (hh:= []) (C:=C) hw
 have w2':wt (ctB sp.te.bx++ctB sp.kbx) b12=true:=by rw[<-yAr];exact w2
 have w3':wt (ctR sp.te.rw++ctR sp.krw) c12=true:=by rw[<-yA1];exact w3
 obtain ⟨b1,b2,rfl,w4,w5⟩:=yde w2'
 obtain ⟨c1,c2,rfl,w6,w7⟩:=yde w3'
 have hout:out=a++b1++c1:=by
  rw[<-hsel,e0]
  unfold selL
  simp only
  have l1:(ctS sp.te.ks).length=a.length:=(yq3 w1).symm
  have l2:(ctB sp.te.bx).length=b1.length:=(yq3 w4).symm
  have l3:(ctB sp.kbx).length=b2.length:=(yq3 w5).symm
  have l4:sp.te.rw.length=c1.length:=by have:=yq3 w6;unfold ctR at this;rw[List.length_map] at this;exact this.symm
  rw[l1,l2,l3,l4]
  rw[show a++(b1++b2)++(c1++c2)=(a++b1)++(b2++(c1++c2)) by simp[List.append_assoc]]
  rw[List.take_left' (by simp),show a.length+b1.length+b2.length=(a++b1).length+b2.length by simp,List.drop_append,List.drop_of_length_le (by omega),List.nil_append,Nat.add_sub_cancel_left,List.drop_left,List.take_left]
 have hwo:wt (ctT sp.te) out=true:=by rw[hout,yqX];exact yhQ (yhQ w1 w4) w6
 let ts0:=entL C sp fs env
 let F1:=ts0.od.filter fun x=>ye9 sp.kp x.1&&isBx x.2
 let F2:=ts0.od.filter fun x=>ye9 sp.kp x.1&& !isBx x.2
 have ht:endT C sp ts0 out=⟨(bdS C [] sp.te.ks a).1,(bdB C [] sp.te.bx b1).1++F1++bdR sp.te.rw c1++F2,[],[],[]⟩:=by
  unfold endT
  simp only
  rw[hout,List.append_assoc,yqZ sp.te.ks a (b1++c1) w1]
  simp only
  rw[ypW sp.te.bx b1 c1 w4]
 have ht1:bdT C sp.to [] [] env'=⟨(bdS C [] sp.te.ks a).1,(bdB C [] sp.te.bx b1).1++(bdB C [] sp.kbx b2).1++(bdR sp.te.rw c1++bdR sp.krw c2),[],[],[]⟩:=by
  rw[e1]
  show (⟨(bdS C [] sp.te.ks a).1,(bdB C [] (sp.te.bx++sp.kbx) (b1++b2)).1++bdR (sp.te.rw++sp.krw) (c1++c2),[],[],[]⟩:TS K)=_
  rw[yvO _ _ _ _ w4,yuY _ _ _ _ w6]
 obtain ⟨i1,i2⟩:=yjd (C:=C) (rg:= []) (hh:= []) o6
 have h0d:(ts0.od.map (·.1)).Nodup:=by
  show ((bdT C sp.ti [] [] env).od.map (·.1)).Nodup
  rw[i1];exact o1.nd
 obtain ⟨ai,bi,ci,_,v1,v2,v3,ei⟩:=yh9 (rg:= []) (hh:= []) (C:=C) o6
 have hod:ts0.od=(bdB C [] sp.ti.bx bi).1++bdR sp.ti.rw ci:=by
  show (bdT C sp.ti [] [] env).od=_
  rw[ei]
 obtain ⟨p1,p2⟩:=yjl (C:=C) (rg:= []) sp.ti.bx bi v2
 obtain ⟨q1,q2⟩:=yiU sp.ti.rw ci v3
 have isb:∀x∈(bdB C [] sp.ti.bx bi).1,isBx x.2=true:=fun x hx=>by obtain ⟨k,_,_,y,_,e⟩:=p2 x hx;rw[e];rfl
 have isr:∀x∈bdR sp.ti.rw ci,isBx x.2=false:=fun x hx=>by obtain ⟨k,_,_,y,e⟩:=q2 x hx;rw[e];rfl
 have nF1:F1.map (·.1)=sp.kbx.map (·.1):=by
  show (ts0.od.filter _).map _=_
  rw[hod,List.filter_append,List.map_append]
  have e2:(bdR sp.ti.rw ci).filter (fun x=>ye9 sp.kp x.1&&isBx x.2)= []:=List.filter_eq_nil_iff.2 fun x hx=>by rw[isr x hx];simp
  rw[e2,List.map_nil,List.append_nil]
  exact yio p1 fun x hx=>by rw[isb x hx,Bool.and_true]
 have nF2:F2.map (·.1)=sp.krw.map (·.1):=by
  show (ts0.od.filter _).map _=_
  rw[hod,List.filter_append,List.map_append]
  have e2:(bdB C [] sp.ti.bx bi).1.filter (fun x=>ye9 sp.kp x.1&& !isBx x.2)= []:=List.filter_eq_nil_iff.2 fun x hx=>by rw[isb x hx];simp
  rw[e2,List.map_nil,List.nil_append]
  exact yio q1 fun x hx=>by rw[isr x hx];simp
 obtain ⟨x1,x2⟩:=yjl (C:=C) (rg:= []) sp.te.bx b1 w4
 obtain ⟨y1,y2⟩:=yiU sp.te.rw c1 w6
 obtain ⟨x3,x4⟩:=yjl (C:=C) (rg:= []) sp.kbx b2 w5
 obtain ⟨y3,y4⟩:=yiU sp.krw c2 w7
 have nt:(endT C sp ts0 out).od.map (·.1)=sp.te.bx.map (·.1)++sp.kbx.map (·.1)++sp.te.rw.map (·.1)++sp.krw.map (·.1):=by
  rw[ht];simp only[List.map_append,nF1,nF2,x1,y1]
 have nt1:(bdT C sp.to [] [] env').od.map (·.1)=sp.te.bx.map (·.1)++sp.kbx.map (·.1)++sp.te.rw.map (·.1)++sp.krw.map (·.1):=by
  rw[ht1];simp only[List.map_append,x1,x3,y1,y3,List.append_assoc]
 have hto:sp.to.bx.map (·.1)++sp.to.rw.map (·.1)=sp.te.bx.map (·.1)++sp.kbx.map (·.1)++sp.te.rw.map (·.1)++sp.krw.map (·.1):=by
  show (sp.te.bx++sp.kbx).map (·.1)++(sp.te.rw++sp.krw).map (·.1)=_
  simp only[List.map_append,List.append_assoc]
 have nd:((endT C sp ts0 out).od.map (·.1)).Nodup:=by rw[nt,<-hto];exact o2.nd
 have nd1:((bdT C sp.to [] [] env').od.map (·.1)).Nodup:=by rw[nt1,<-hto];exact o2.nd
 have kept:∀s b,(s,b)∈ts0.od→ye9 sp.kp s=true→(s,b)∈(endT C sp ts0 out).od→eqB (lkB (endT C sp ts0 out).od s) (lkB (bdT C sp.to [] [] env').od s):=by
  intro s b hm hs he
  have:=hkp s (yhg.1 hs)
  rw[ye3 nd he]
  have e2:ts0.tb s 1=b:=ye3 h0d hm
  rw[<-e2];exact this
 have main:∀s,lkB (endT C sp ts0 out).od s=lkB (bdT C sp.to [] [] env').od s∨eqB (lkB (endT C sp ts0 out).od s) (lkB (bdT C sp.to [] [] env').od s):=by
  intro s
  by_cases hs:s∈(endT C sp ts0 out).od.map (·.1)
  ·obtain ⟨p,hp,rfl⟩:=List.mem_map.1 hs
   have hp':=hp
   rw[ht] at hp'
   simp only[List.mem_append] at hp'
   rcases hp' with ((hp'|hp')|hp')|hp'
   ·left
    rw[ye3 nd (show (p.1,p.2)∈_ from hp),ye3 nd1 (show (p.1,p.2)∈_ by rw[ht1];simp only[List.mem_append];exact .inl (.inl hp'))]
   ·have:=List.mem_filter.1 hp'
    simp only[Bool.and_eq_true] at this
    exact .inr (kept p.1 p.2 this.1 this.2.1 hp)
   ·left
    rw[ye3 nd (show (p.1,p.2)∈_ from hp),ye3 nd1 (show (p.1,p.2)∈_ by rw[ht1];simp only[List.mem_append];exact .inr (.inl hp'))]
   ·have:=List.mem_filter.1 hp'
    simp only[Bool.and_eq_true] at this
    exact .inr (kept p.1 p.2 this.1 this.2.1 hp)
  ·left
   have no:∀ {l:List (Nat×Option (TB K))},s∉l.map (·.1)→lkB l s=none:=by
    intro l hl
    cases hq:lkB l s with
    |none=>rfl
    |some b=>exact absurd (List.mem_map_of_mem (f:=(·.1)) (yhU hq)) hl
   rw[no hs,no (by rw[nt1,<-nt];exact hs)]
 exact ⟨hwo,by rw[ht1];show _=(endT C sp ts0 out).fr;rw[ht],main⟩
end
def EndK (C:Cx K) (sp:Sl K) (t:TS K) (χ:Nat→Nat→Bool) (H:Hp) (n:Nat) (av:AV) (S1:St):Prop:=
 ∃χ',ViOk t χ'∧(∀s b,2000000≤s→t.tb s 1=some b→χ' s 1=χ s 1)∧(∃us,ydX t sp.res=some us∧av=ydJ (aTs C t χ' us))∧S1.hp=H∧S1.nx=n∧
  ∀s b,lkB t.od s=some b->χ' s 1=false->S1.M (.l s 1)=some (bT C t χ' b)
theorem ys8 {C:Cx K} {t t1:TS K} {χ:Nat→Nat→Bool} (hf:t1.fr=t.fr) (ht:∀s c,t.tb s c=t1.tb s c∨eqB (t.tb s c) (t1.tb s c)):∀ {l:List (Nat×Option Nat)} {us:List (TV K)},ydX t1 l=some us→∃us',ydX t l=some us'∧aTs C t1 χ us=aTs C t1 χ us'
 | [],us,h=>by cases h;exact ⟨[],rfl,rfl⟩
 | p :: l, us,h=>by
   simp only[ydX] at h
   split at h
   ·rename_i v vs h1 h2
    cases h
    obtain ⟨us',e1,e2⟩:=ys8 (C:=C) (χ:=χ) hf ht h2
    have key:∃v',resT t p=some v'∧aT C t1 χ v=aT C t1 χ v':=by
     obtain ⟨s,q⟩:=p
     cases q with
     |none=>simp only[resT] at h1⊢;cases h1;exact ⟨_,rfl,by rw[hf]⟩
     | some q=>
       have boxes:∀ {s c e:Nat} {cs:List (TV K)},t1.tb s c=some (.box e cs)→∃cs',t.tb s c=some (.box e cs')∧aTs C t1 χ cs=aTs C t1 χ cs':=by
        intro s c e cs hb
        rcases ht s c with k|k
        ·exact ⟨cs,by rw[k,hb],rfl⟩
        ·rw[hb] at k
         unfold eqB at k
         split at k
         ·rename_i e1 l1 e2 l2 q1 q2
          cases q2
          split at k
          ·rename_i hbq
           have:=nbeq.1 hbq;subst this
           exact ⟨_,q1,(yoe _ _ k).symm⟩
          ·exact k.elim
         ·rename_i q2;cases q2
         ·exact k.elim
       have hfs:lkT t1.fr s=lkT t.fr s:=by rw[hf]
       cases q with
       | zero=>
         simp only[resT] at h1⊢
         rw[hfs] at h1
         split at h1
         ·rename_i s' c o e
          split at h1
          ·rename_i e' cs hb
           obtain ⟨cs',b1,b2⟩:=boxes hb
           rw[b1]
           simp only
           have:=congrArg (fun l=>l[o]?) b2
           simp only[ycZ,List.getElem?_map,h1] at this
           cases hq:cs'[o]? with
           |none=>rw[hq] at this;cases this
           |some w=>rw[hq] at this;exact ⟨w,rfl,Option.some.inj this⟩
          ·cases h1
         ·cases h1
       | succ q=>
         simp only[resT] at h1⊢
         rw[hfs] at h1
         split at h1
         ·rename_i s' c o e
          split at h1
          ·rename_i e' cs hb
           obtain ⟨cs',b1,b2⟩:=boxes hb
           rw[b1]
           simp only[tldc] at h1⊢
           have hl:cs.length=cs'.length:=by have:=congrArg List.length b2;rwa[ypz,ypz] at this
           split at h1
           ·rename_i hb2
            rw[hl] at hb2
            rw[hb2]
            cases h1
            refine ⟨_,rfl,?_⟩
            simp only[aT,ycZ] at b2⊢
            rw[List.map_take,List.map_drop,List.map_take,List.map_drop,b2]
           ·cases h1
          ·cases h1
         ·cases h1
    obtain ⟨v',k1,k2⟩:=key
    exact ⟨v'::us',by simp only[ydX,k1,e1],by simp only[aTs,k2,e2]⟩
   ·cases h
theorem yuQ {C:Cx K} {sp:Sl K} {fs:List (FV K)} {env out:List (DV K)} (hE:okS sp env=true) {χ:Nat→Nat→Bool} {H:Hp} {n:Nat} {av:AV} {S1:St} (h:EndL C sp (entL C sp fs env) χ out H n av S1):
  TT C sp (endT C sp (entL C sp fs env) out)/\EndK C sp (endT C sp (entL C sp fs env) out) χ H n av S1:=by
 obtain ⟨env',χ',h0,h1,h2,h3,⟨us,hus,h4⟩,h5,h6,_,h7⟩:=h
 obtain ⟨a2,a3,a4⟩:=yBZ hE h0 h1
 have a1:=yyB (C:=C) (fs:=fs) hE a2
 have htb:∀s c,(endT C sp (entL C sp fs env) out).tb s c=(bdT C sp.to [] [] env').tb s c∨eqB ((endT C sp (entL C sp fs env) out).tb s c) ((bdT C sp.to [] [] env').tb s c):=by
  intro s c
  unfold TS.tb
  cases Nat.beq c 1 with
  |true=>exact a4 s
  | false=>cases Nat.beq c 2 with
    |true=>left;rfl
    |false=>left;rfl
 have hln:∀s c,tln ((bdT C sp.to [] [] env').tb s c)=tln ((endT C sp (entL C sp fs env) out).tb s c):=by
  intro s c
  rcases htb s c with e|e
  ·rw[e]
  ·exact ((ysY (C:=C) (t:=bdT C sp.to [] [] env') (χ:=χ') e).1).symm
 refine ⟨a1,χ',fun s c hx=> ?_,fun s b hs hb=> ?_,?_,h5,h6,fun s b hb hx=> ?_⟩
 ·obtain ⟨e,he⟩:=h2 s c hx
  rcases htb s c with q|q
  ·exact ⟨e,by rw[q];exact he⟩
  ·exact ⟨e,(ysY (C:=C) (t:=bdT C sp.to [] [] env') (χ:=χ') q).2.2.1 e he⟩
 ·rcases htb s 1 with q|q
  ·exact h3 s b hs (by rw[<-q];exact hb)
  ·have e2:=(ysY (C:=C) (t:=bdT C sp.to [] [] env') (χ:=χ') q).2.1
   rw[hb] at e2
   cases hq:(bdT C sp.to [] [] env').tb s 1 with
   |none=>rw[hq] at e2;cases e2
   |some b1=>exact h3 s b1 hs hq
 ·obtain ⟨us',e1,e2⟩:=ys8 (C:=C) (χ:=χ') a3 htb hus
  exact ⟨us',e1,by rw[h4,e2,yji hln]⟩
 ·have hb':bTx C (bdT C sp.to [] [] env') χ' (lkB (bdT C sp.to [] [] env').od s)=bTx C (bdT C sp.to [] [] env') χ' (some b):=by
   rcases a4 s with q|q
   ·rw[<-q,hb]
   ·have:=(ysY (C:=C) (t:=bdT C sp.to [] [] env') (χ:=χ') q).2.1
    rw[hb] at this
    exact this.symm
  cases hq:lkB (bdT C sp.to [] [] env').od s with
  |none=>rw[hq] at hb';cases hb'
  | some b1=>
    rw[hq] at hb'
    have e3:=h7 s b1 hq hx
    rw[e3]
    have e4:bT C (bdT C sp.to [] [] env') χ' b1=bT C (bdT C sp.to [] [] env') χ' b:=Option.some.inj hb'
    rw[e4]
    cases b<;>simp only[bT,yji hln]
end Go.AV
end
noncomputable section
namespace Go.AV
open Go.RowKit Go.RG Go.Lib
variable {K:Nat->Type}
structure MOk (ts ts0:TS K) (M:RM) (τ:Tm):Prop where
 nod:(plsR M.r++M.b.map (·.2)).Nodup
 b:∀s k,lkA M.b s=some k->s∈τ.bx.map (·.1)/\∃e cs,ts.tb k.1 k.2=some (.box e cs)
 r:∀s o,lkA M.r s=some o->s∈τ.rw.map (·.1)
 rk:∀s k,lkA M.r s=some (some k)->∃n,tln (ts.tb k.1 k.2)=some n/\tln (ts0.tb s 1)=some n
 bx:∀s∈τ.bx.map (·.1),∃k,lkA M.b s=some k
 rw:∀s∈τ.rw.map (·.1),∃o,lkA M.r s=some o
theorem yqa {α:Type} {l:List (Nat×α)} {s:Nat}:(l.any fun q=>Nat.beq q.1 s)=true↔s∈l.map (·.1):=by
 rw[List.any_eq_true]
 constructor
 ·rintro ⟨x,hx,h⟩;rw[<-nbeq.1 h];exact List.mem_map_of_mem hx
 ·intro h;obtain ⟨x,hx,rfl⟩:=List.mem_map.1 h;exact ⟨x,hx,nbeq.2 rfl⟩
section
variable {P:Program} {C:Cx K} {R:RR K} {ts:TS K} {χ:Nat->Nat->Bool} {ds:DS}
theorem yzQ (hC:CxOk P C) {τ:Tm} (ho:TmOk τ) {env:List (DV K)} {M:RM} (h:rdM C τ ts=some (env,M)) (hγ:GM P C R ts χ ds):MOk ts (bdT C τ [] [] env) M τ:=by
 have hw:=yyY h
 unfold rdM at h
 split at h
 rotate_left
 ·cases h
 rename_i a m1 h1
 split at h
 rotate_left
 ·cases h
 rename_i b M' h2
 split at h
 rotate_left
 ·cases h
 rename_i c h3 h4
 simp only[Option.some.injEq,Prod.mk.injEq] at h
 obtain ⟨rfl,rfl⟩:=h
 simp only[Bool.and_eq_true] at h4
 obtain ⟨hnod,hdom⟩:=h4
 simp only[ywq,Bool.and_eq_true] at hdom
 obtain ⟨⟨hdb,hdr⟩,hdis⟩:=hdom
 obtain ⟨_,t2⟩:=ys0 (P:=P) (ts1:=ts) (rg:= []) (χ:=χ) (ξ:=fun _=>false) (ρ:=fun _=>none) (ds:=ds) (p:=fun _=>False) hC (fun id w q=>by cases q) τ.bx m1 M' b h2
 obtain ⟨od1,e2,g2,f2⟩:=t2 c
 obtain ⟨gb1,gb2⟩:=yty τ.rw c h3
 have hbx:∀s∈τ.bx.map (·.1),∃q e cs,lkA M'.b s=some q∧ts.tb q.1 q.2=some (.box e cs):=fun s hs=>by
  obtain ⟨q,e,cs,cs1,a1,a2,_⟩:=f2 s (by rw[g2];exact yqa.2 hs)
  exact ⟨q,e,cs,a1,a2⟩
 have hrw:∀s∈τ.rw.map (·.1),lkA M'.r s=some none∨∃q n,lkA M'.r s=some (some q)∧tln (ts.tb q.1 q.2)=some n∧tln ((bdT C τ [] [] (a++b++c)).tb s 1)=some n:=fun s hs=>by
  obtain ⟨e,⟨a1,_⟩|⟨q,l',a1,a2,a3⟩⟩:=gb2 s (by rw[gb1];exact yqa.2 hs)
  ·exact .inl a1
  ·refine .inr ⟨q,l'.length,a1,(hγ.trow hC a2).1,?_⟩
   have hod:(bdT C τ [] [] (a++b++c)).od=(bdB C [] τ.bx b).1++bdR τ.rw c:=by
    unfold bdT
    rw[List.append_assoc,yqZ τ.ks a (b++c) (yth _ _ _ _ h1)]
    simp only
    rw[ypW τ.bx b c (yts _ _ _ _ h2)]
   have hl:lkB (bdT C τ [] [] (a++b++c)).od s=some (.row e l'):=by
    refine ye3 (by rw[(yjd (C:=C) (rg:= []) (hh:= []) hw).1];exact ho.nd) ?_
    rw[hod];exact List.mem_append_right _ (yhU a3)
   show tln (lkB (bdT C τ [] [] (a++b++c)).od s)=_
   rw[hl];rfl
 refine ⟨ylD hnod,fun s k hs=> ?_,fun s o hs=>yqa.1 (yfd hs hdr),fun s k hs=> ?_,fun s hs=> ?_,fun s hs=> ?_⟩
 ·have hm:=yqa.1 (yfd hs hdb)
  obtain ⟨q,e,cs,a1,a2⟩:=hbx s hm
  rw[hs] at a1;cases a1
  exact ⟨hm,e,cs,a2⟩
 ·rcases hrw s (yqa.1 (yfd hs hdr)) with q|⟨q,n,a1,a2,a3⟩
  ·rw[hs] at q;cases q
  ·rw[hs] at a1;cases a1;exact ⟨n,a2,a3⟩
 ·obtain ⟨q,e,cs,a1,_⟩:=hbx s hs;exact ⟨q,a1⟩
 ·rcases hrw s hs with q|⟨q,n,a1,_⟩
  ·exact ⟨_,q⟩
  ·exact ⟨_,a1⟩
end
theorem ylR:∀(a b:List (Nat×Option (TB K))) (s:Nat),memB (a++b) s=(memB a s||memB b s)
 | [],b,s=>rfl
 | p::a,b,s=>by
   show (Nat.beq p.1 s||memB (a++b) s)=((Nat.beq p.1 s||memB a s)||memB b s)
   rw[ylR a b s,Bool.or_assoc]
section
variable {m:RM} {n:Nat->Nat}
theorem ywp (c:Nat):∀(l r:List (Nat×Option (TB K))) (s:Nat),lkB (plL m n c l++r) s=match l.find? (fun p=>decide (plQ m n p.1=some (s,c))) with
  |some p=>mapB (plV m n) p.2
  |none=>lkB r s
 | [],r,s=>rfl
 | p :: l,r,s=>by
   have ih:=ywp c l r s
   simp only[plL,List.find?]
   cases hq:plQ m n p.1 with
   |none=>simp only[reduceCtorEq,decide_false];exact ih
   | some q=>
     simp only
     cases hb:Nat.beq q.2 c with
     | true=>
       have:=nbeq.1 hb
       rw[List.cons_append,ycf]
       by_cases hs:q.1=s
       ·rw[if_pos hs]
        have:(some q=some (s,c)):=by rw[<-hs,<-this]
        simp only[this,decide_true]
       ·rw[if_neg hs]
        have:¬(some q=some (s,c)):=fun e=>hs (by rw[Option.some.inj e])
        simp only[this,decide_false];exact ih
     | false=>
       have:¬(some q=some (s,c)):=fun e=>by rw[Option.some.inj e,nbeq.2 rfl] at hb;cases hb
       simp only[this,decide_false];exact ih
theorem ysI (c:Nat):∀(l:List (Nat×Option (TB K))) (s:Nat),memB (plL m n c l) s=true↔∃p∈l,plQ m n p.1=some (s,c)
 | [],s=>⟨fun h=>(by cases h),fun ⟨p,hp,_⟩=>(by cases hp)⟩
 | p ::l,s=>by
   have ih:=ysI c l s
   simp only[plL]
   have skip:(¬plQ m n p.1=some (s,c))→(memB (plL m n c l) s=true↔∃q∈p::l,plQ m n q.1=some (s,c)):=by
    intro h
    rw[ih]
    constructor
    ·rintro ⟨q,hq,e⟩;exact ⟨q,List.mem_cons_of_mem _ hq,e⟩
    ·rintro ⟨q,hq,e⟩
     rcases List.mem_cons.1 hq with rfl|hq
     ·exact absurd e h
     ·exact ⟨q,hq,e⟩
   split
   ·rename_i q hq
    split
    ·rename_i hb
     have hc:=nbeq.1 hb
     show (Nat.beq q.1 s||memB (plL m n c l) s)=true↔_
     rw[Bool.or_eq_true,ih]
     constructor
     ·rintro (h|⟨x,hx,e⟩)
      ·exact ⟨p,List.mem_cons_self,by rw[hq,<-nbeq.1 h,<-hc]⟩
      ·exact ⟨x,List.mem_cons_of_mem _ hx,e⟩
     ·rintro ⟨x,hx,e⟩
      rcases List.mem_cons.1 hx with rfl|hx
      ·rw[hq] at e;left;rw[Option.some.inj e];exact nbeq.2 rfl
      ·exact .inr ⟨x,hx,e⟩
    ·rename_i hb
     exact skip fun e=>by rw[hq] at e;rw[Option.some.inj e,nbeq.2 rfl] at hb;cases hb
   ·rename_i hq;exact skip fun e=>by rw[hq] at e;cases e
end
theorem ywN (g:Nat×Nat→Option KB) (c:Nat):∀(l:List (Nat×Nat)) (r:List (Nat×Option KB)) (s:Nat),lkO ((l.filterMap fun q=>if q.2=c then some (q.1,g q) else none)++r) s=if (s,c)∈l then g (s,c) else lkO r s
 | [],r,s=>by simp
 | q ::l,r,s=>by
   have ih:=ywN g c l r s
   rw[List.filterMap_cons]
   by_cases hc:q.2=c
   ·simp only[if_pos hc]
    rw[List.cons_append,yic]
    by_cases hs:q.1=s
    ·have e:q=(s,c):=Prod.ext hs hc
     simp only[hs,if_true]
     rw[if_pos (by rw[e];exact List.mem_cons_self),e]
    ·rw[if_neg hs,ih]
     have:(s,c)≠q:=fun e=>hs (by rw[<-e])
     simp only[List.mem_cons,this,false_or]
   ·simp only[if_neg hc]
    rw[ih]
    have:(s,c)≠q:=fun e=>hc (by rw[<-e])
    simp only[List.mem_cons,this,false_or]
theorem ymP (g:Nat×Nat→Option KB) (c:Nat):∀(l:List (Nat×Nat)) (r:List (Nat×Option KB)) (s:Nat),memO ((l.filterMap fun q=>if q.2=c then some (q.1,g q) else none)++r) s=true↔(s,c)∈l∨memO r s=true
 | [],r,s=>by simp
 | q ::l,r,s=>by
   have ih:=ymP g c l r s
   rw[List.filterMap_cons]
   by_cases hc:q.2=c
   ·simp only[if_pos hc]
    rw[List.cons_append]
    show (Nat.beq q.1 s||memO _ s)=true↔_
    rw[Bool.or_eq_true,ih,nbeq,List.mem_cons]
    constructor
    ·rintro (h|h|h)
     ·exact .inl (.inl (Prod.ext h.symm hc.symm))
     ·exact .inl (.inr h)
     ·exact .inr h
    ·rintro ((h|h)|h)
     ·exact .inl (by rw[<-h])
     ·exact .inr (.inl h)
     ·exact .inr (.inr h)
   ·simp only[if_neg hc]
    rw[ih,List.mem_cons]
    have:(s,c)≠q:=fun e=>hc (by rw[<-e])
    simp only[this,false_or]
theorem yjL {α β:Type} {f:α→β} (hf:∀x y,f x=f y→x=y):∀ {l:List α},l.Nodup→(l.map f).Nodup
 | [],_=>List.nodup_nil
 | a::l,h=>by
   obtain ⟨h1,h2⟩:=List.nodup_cons.1 h
   refine List.nodup_cons.2 ⟨fun hm=> ?_,yjL hf h2⟩
   obtain ⟨b,hb,e⟩:=List.mem_map.1 hm
   rw[hf b a e] at hb;exact h1 hb
def goL (t:TS K) (χ':Nat→Nat→Bool) (M:RM) (n:Nat→Nat) (x:Nat):Option K2:=match lkB t.od x,χ' x 1 with
 |some _,false=>plQ M n x
 |_,_=>none
def gOut (t:TS K) (χ':Nat->Nat->Bool) (M:RM) (n:Nat->Nat):List (K2×K2):=(innM (goL t χ' M n) t.od).map fun p=>((p.1,1),p.2)
def gBs (t:TS K) (χ':Nat->Nat->Bool) (M:RM) (n:Nat->Nat):List Nat:=((innM (goL t χ' M n) t.od).filter fun p=> !Nat.ble 2000000 p.1).map fun p=>p.2.1
def gChi (sp:Sl K) (t:TS K) (χ χ':Nat→Nat→Bool) (M:RM) (n:Nat→Nat) (s c:Nat):Bool:=match (yiV sp t).find? (fun p=>decide (plQ M n p.1=some (s,c))) with
 |some p=>p.2.isSome&&χ' p.1 1
 |none=>χ s c
def gKb (C:Cx K) (t:TS K) (χ':Nat→Nat→Bool) (out:List (K2×K2)) (q:Nat×Nat):Option KB:=match lkZ out q with
 |some x=>(lkB t.od x.1).map fun b=>⟨(bT C t χ' b).e,(bT C t χ' b).sz,reAs (fun d c=>lkE out (d,c)) (bT C t χ' b).cells,false⟩
 |none=>none
def gDs (C:Cx K) (t:TS K) (χ':Nat→Nat→Bool) (inn:List (Nat×K2)) (out:List (K2×K2)) (ds:DS):DS:=
 let pl:=out.map (·.2)++inn.map (·.2)
 ⟨ds.fr,(pl.filterMap fun q=>if q.2=1 then some (q.1,gKb C t χ' out q) else none)++ds.od,(pl.filterMap fun q=>if q.2=2 then some (q.1,gKb C t χ' out q) else none)++ds.nw,ds.H,ds.nx⟩
section
variable {P:Program} {C:Cx K} {R:RR K} {ts ts0 t:TS K} {χ χ':Nat->Nat->Bool} {ds:DS}
structure CE (P:Program) (C:Cx K) (R:RR K) (ts ts0 t:TS K) (χ χ':Nat→Nat→Bool) (ds:DS) (sp:Sl K) (d:Option Nat) (M:RM) (inn:List (Nat×K2)):Prop where
 hC:CxOk P C
 hγ:GM P C R ts χ ds
 hk:DOk ds
 hM:MOk ts ts0 M sp.ti
 hti:TmOk sp.ti
 h0:∀s,s∈tiN sp->s∈ts0.od.map (·.1)
 hin:∀s k,(s,k)∈inn↔rhoM χ M s=some k/\s∈ts0.od.map (·.1)
 n2:(inn.map (·.2)).Nodup
 big:∀s∈tiN sp,2000000<=s
 tbx:∀s∈sp.te.bx.map (·.1),2000000<=s->s∈sp.ti.bx.map (·.1)
 trw:∀s∈sp.te.rw.map (·.1),2000000<=s->s∈sp.ti.rw.map (·.1)
 fresh:∀s∈newL sp,1000000<=s/\s<1000064/\memB ts.nw (yal d s)=false/\yal d s<2000000
 tt:TT C sp t
 vi:ViOk t χ'
 lv:∀s b,2000000<=s->t.tb s 1=some b->χ' s 1=xiM χ M s
 len:∀s k,2000000<=s->tln (t.tb s 1)=some k->tln (ts0.tb s 1)=some k
variable {sp:Sl K} {d:Option Nat} {M:RM} {inn:List (Nat×K2)}
theorem CE.obx (h:CE P C R ts ts0 t χ χ' ds sp d M inn) {s:Nat} (hs:s∈sp.to.bx.map (·.1)) (hb:2000000≤s):s∈sp.ti.bx.map (·.1):=by
 obtain ⟨k,hk,rfl⟩:=List.mem_map.1 hs
 rcases List.mem_append.1 (show k∈sp.te.bx++sp.kbx from hk) with hk|hk
 ·exact h.tbx _ (List.mem_map_of_mem hk) hb
 ·exact List.mem_map_of_mem (List.mem_filter.1 hk).1
theorem CE.orw (h:CE P C R ts ts0 t χ χ' ds sp d M inn) {s:Nat} (hs:s∈sp.to.rw.map (·.1)) (hb:2000000≤s):s∈sp.ti.rw.map (·.1):=by
 obtain ⟨k,hk,rfl⟩:=List.mem_map.1 hs
 rcases List.mem_append.1 (show k∈sp.te.rw++sp.krw from hk) with hk|hk
 ·exact h.trw _ (List.mem_map_of_mem hk) hb
 ·exact List.mem_map_of_mem (List.mem_filter.1 hk).1
theorem CE.nob (h:CE P C R ts ts0 t χ χ' ds sp d M inn) {s:Nat} (hs:s∈sp.ti.rw.map (·.1)):lkA M.b s=none:=by
 cases hq:lkA M.b s with
 |none=>rfl
 |some k=>exact ((List.nodup_append.1 h.hti.nd).2.2 s (h.hM.b s k hq).1 s hs rfl).elim
theorem CE.big' (_h:CE P C R ts ts0 t χ χ' ds sp d M inn) {s:Nat} {q:Nat×Nat} (hb:2000000≤s) (hq:plQ M (yal d) s=some q):lkA M.b s=some q∨(lkA M.b s=none∧lkA M.r s=some (some q)):=by
 unfold plQ at hq
 rw[Nat.ble_eq_true_of_le hb] at hq
 simp only at hq
 split at hq
 ·rename_i k e;cases hq;exact .inl e
 ·rename_i e
  split at hq
  ·rename_i k e2;cases hq;exact .inr ⟨e,e2⟩
  ·cases hq
theorem ycw {s:Nat} (hb:¬2000000≤s):plQ M (yal d) s=some (yal d s,2):=by
 unfold plQ
 have:Nat.ble 2000000 s=false:=by cases hq:Nat.ble 2000000 s with|false=>rfl|true=>exact absurd (Nat.le_of_ble_eq_true hq) hb
 rw[this]
theorem yoX {s:Nat} {k:Nat×Nat} (hb:2000000≤s) (hq:lkA M.b s=some k):plQ M (yal d) s=some k:=by
 unfold plQ
 rw[Nat.ble_eq_true_of_le hb]
 simp only[hq]
theorem yr3 {s:Nat} {k:Nat×Nat} (hb:2000000≤s) (hn:lkA M.b s=none) (hq:lkA M.r s=some (some k)):plQ M (yal d) s=some k:=by
 unfold plQ
 rw[Nat.ble_eq_true_of_le hb]
 simp only[hn,hq]
theorem CE.lent (h:CE P C R ts ts0 t χ χ' ds sp d M inn) {s:Nat} {q:Nat×Nat} (hb:2000000≤s) (hq:plQ M (yal d) s=some q):∃b,ts.tb q.1 q.2=some b:=by
 rcases h.big' hb hq with e|⟨_,e⟩
 ·obtain ⟨_,e,cs,hc⟩:=h.hM.b s q e;exact ⟨_,hc⟩
 ·obtain ⟨n,hn,_⟩:=h.hM.rk s q e
  cases ht:ts.tb q.1 q.2 with
  |none=>rw[ht] at hn;cases hn
  |some b=>exact ⟨b,rfl⟩
theorem CE.newm (h:CE P C R ts ts0 t χ χ' ds sp d M inn) {s:Nat} (hs:s∈t.od.map (·.1)) (hb:¬2000000≤s):s∈newL sp:=by
 have hsm:Nat.ble 2000000 s=false:=by cases hq:Nat.ble 2000000 s with|false=>rfl|true=>exact absurd (Nat.le_of_ble_eq_true hq) hb
 unfold newL
 rw[List.mem_filter]
 refine ⟨?_,by rw[hsm];rfl⟩
 rw[h.tt.nm] at hs
 simp only[List.mem_append] at hs⊢
 rcases hs with ((hs|hs)|hs)|hs
 ·exact .inl hs
 ·obtain ⟨k,hk,rfl⟩:=List.mem_map.1 hs
  exact absurd (h.big k.1 (List.mem_append_left _ (List.mem_map_of_mem (f:=(·.1)) (List.mem_filter.1 hk).1))) hb
 ·exact .inr hs
 ·obtain ⟨k,hk,rfl⟩:=List.mem_map.1 hs
  exact absurd (h.big k.1 (List.mem_append_right _ (List.mem_map_of_mem (f:=(·.1)) (List.mem_filter.1 hk).1))) hb
theorem CE.new (h:CE P C R ts ts0 t χ χ' ds sp d M inn) {s:Nat} (hs:s∈t.od.map (·.1)) (hb:¬2000000≤s):1000000≤s∧s<1000064∧memB ts.nw (yal d s)=false∧yal d s<2000000:=
 h.fresh s (h.newm hs hb)
theorem CE.inj (h:CE P C R ts ts0 t χ χ' ds sp d M inn) {s s':Nat} {q:Nat×Nat} (hs:s∈t.od.map (·.1)∨s∈tiN sp) (hs':s'∈t.od.map (·.1)∨s'∈tiN sp) (hq:plQ M (yal d) s=some q) (hq':plQ M (yal d) s'=some q):s=s':=by
 have nl:∀ {x y:Nat},y∈t.od.map (·.1)→2000000≤x→¬2000000≤y→plQ M (yal d) x=some q→plQ M (yal d) y=some q→False:=by
  intro x y hy hx hn e1 e2
  obtain ⟨b,hb⟩:=h.lent hx e1
  rw[ycw hn] at e2
  cases e2
  have:=(h.new hy hn).2.2.1
  have hm:memB ts.nw (yal d y)=true:=yg4 (show lkB ts.nw (yal d y)=some b from hb)
  rw[this] at hm;cases hm
 have tb:∀ {x:Nat},(x∈t.od.map (·.1)∨x∈tiN sp)->¬2000000<=x->x∈t.od.map (·.1):=fun hx hn=>hx.elim id fun hx=>absurd (h.big _ hx) hn
 by_cases b1:2000000<=s<;>by_cases b2:2000000<=s'
 ·obtain ⟨nr,nb,nd⟩:=List.nodup_append.1 h.hM.nod
  rcases h.big' b1 hq with e1|⟨_,e1⟩<;>rcases h.big' b2 hq' with e2|⟨_,e2⟩
  ·exact ylM nb e1 e2
  ·exact absurd rfl (nd q (yeN e2) q (yeL e1))
  ·exact absurd rfl (nd q (yeN e1) q (yeL e2))
  ·exact yjK nr e1 e2
 ·exact (nl (tb hs' b2) b1 b2 hq hq').elim
 ·exact (nl (tb hs b1) b2 b1 hq' hq).elim
 ·rw[ycw b1] at hq;rw[ycw b2] at hq'
  have:yal d s=yal d s':=by rw[<-hq'] at hq;exact congrArg Prod.fst (Option.some.inj hq)
  unfold yal at this;omega
theorem CE.fnd (h:CE P C R ts ts0 t χ χ' ds sp d M inn) {q:Nat×Nat}:((yiV sp t).find? (fun p=>decide (plQ M (yal d) p.1=some q))=none∧(∀s,s∈t.od.map (·.1)∨s∈tiN sp→plQ M (yal d) s≠some q))∨
  (∃p∈t.od,plQ M (yal d) p.1=some q/\(yiV sp t).find? (fun p=>decide (plQ M (yal d) p.1=some q))=some p)∨
  (∃p,p.2=none/\p.1∈tiN sp/\plQ M (yal d) p.1=some q/\p.1∉t.od.map (·.1)/\(yiV sp t).find? (fun p=>decide (plQ M (yal d) p.1=some q))=some p):=by
 cases hf:(yiV sp t).find? (fun p=>decide (plQ M (yal d) p.1=some q)) with
 | none=>
   have:=List.find?_eq_none.1 hf
   refine .inl ⟨rfl,fun s hs e=> ?_⟩
   rcases hs with hs|hs
   ·obtain ⟨p,hp,rfl⟩:=List.mem_map.1 hs
    exact this p (List.mem_append_left _ hp) (decide_eq_true e)
   ·exact this (s,none) (List.mem_append_right _ (List.mem_map_of_mem (f:=fun s=>(s,none)) hs)) (decide_eq_true e)
 | some p=>
   have e:plQ M (yal d) p.1=some q:=by have:=List.find?_some hf;simpa using this
   unfold yiV at hf
   rw[List.find?_append] at hf
   cases hg:t.od.find? (fun p=>decide (plQ M (yal d) p.1=some q)) with
   | some p'=>
     rw[hg] at hf
     simp only[Option.some_or,Option.some.injEq] at hf
     subst hf
     exact .inr (.inl ⟨p',List.mem_of_find?_eq_some hg,e,rfl⟩)
   | none=>
     rw[hg] at hf
     simp only[Option.none_or] at hf
     have hm:=List.mem_of_find?_eq_some hf
     obtain ⟨s,hs,rfl⟩:=List.mem_map.1 hm
     refine .inr (.inr ⟨_,rfl,hs,e,fun hn=> ?_,rfl⟩)
     obtain ⟨p',hp',e'⟩:=List.mem_map.1 hn
     have:=List.find?_eq_none.1 hg p' hp'
     exact this (decide_eq_true (by rw[e'];exact e))
theorem CE.at_told (h:CE P C R ts ts0 t χ χ' ds sp d M inn) {p:Nat×Option (TB K)} (hp:p∈t.od) {q:Nat×Nat} (hq:plQ M (yal d) p.1=some q):(yiV sp t).find? (fun p=>decide (plQ M (yal d) p.1=some q))=some p:=by
 rcases h.fnd (q:=q) with ⟨_,h2⟩|⟨p',h1,h2,h3⟩|⟨p',_,h2,h3,h4,_⟩
 ·exact absurd hq (h2 p.1 (.inl (List.mem_map_of_mem (f:=(·.1)) hp)))
 ·rw[h3]
  have e:=h.inj (.inl (List.mem_map_of_mem (f:=(·.1)) h1)) (.inl (List.mem_map_of_mem (f:=(·.1)) hp)) h2 hq
  have e2:p'.2=p.2:=by rw[<-ye3 h.tt.nd (show (p'.1,p'.2)∈_ from h1),e,ye3 h.tt.nd (show (p.1,p.2)∈_ from hp)]
  rw[show p'=p from Prod.ext e e2]
 ·have e:=h.inj (.inr h2) (.inl (List.mem_map_of_mem (f:=(·.1)) hp)) h3 hq
  exact absurd (by rw[e];exact List.mem_map_of_mem (f:=(·.1)) hp) h4
theorem yhS (s c:Nat) (hc:c=1∨c=2):(aft0 sp (yal d) M t ts).tb s c=match (yiV sp t).find? (fun p=>decide (plQ M (yal d) p.1=some (s,c))) with
  |some p=>mapB (plV M (yal d)) p.2
  |none=>ts.tb s c:=by
 rcases hc with rfl|rfl
 ·exact ywp 1 _ _ s
 ·exact ywp 2 _ _ s
theorem CE.qc (h:CE P C R ts ts0 t χ χ' ds sp d M inn) {s:Nat} {q:Nat×Nat} (hq:plQ M (yal d) s=some q):q.2=1∨q.2=2:=by
 by_cases hb:2000000<=s
 ·obtain ⟨b,hb⟩:=h.lent hb hq;exact tb_c hb
 ·rw[ycw hb] at hq;cases hq;exact .inr rfl
theorem CE.told_tb (h:CE P C R ts ts0 t χ χ' ds sp d M inn) {p:Nat×Option (TB K)} (hp:p∈t.od) {q:Nat×Nat} (hq:plQ M (yal d) p.1=some q):(aft0 sp (yal d) M t ts).tb q.1 q.2=mapB (plV M (yal d)) p.2∧gChi sp t χ χ' M (yal d) q.1 q.2=(p.2.isSome&&χ' p.1 1):=by
 have:=h.at_told hp (q:=q) hq
 refine ⟨?_,?_⟩
 ·rw[yhS q.1 q.2 (h.qc hq),this]
 ·unfold gChi;rw[this]
theorem CE.tsome (h:CE P C R ts ts0 t χ χ' ds sp d M inn) {p:Nat×Option (TB K)} (hp:p∈t.od):∃b,p.2=some b∧lkB t.od p.1=some b:=by
 have:=ye3 h.tt.nd (show (p.1,p.2)∈_ from hp)
 rcases h.tt.ent p hp with ⟨⟨e,l,x,_,_,e3⟩,_⟩|⟨⟨e,l,e3⟩,_⟩
 ·exact ⟨_,e3,by rw[this,e3]⟩
 ·exact ⟨_,e3,by rw[this,e3]⟩
theorem CE.bxχ (h:CE P C R ts ts0 t χ χ' ds sp d M inn) {s:Nat} (hs:isBx (t.tb s 1)=true):χ' s 1=false:=by
 cases hx:χ' s 1 with
 |false=>rfl
 |true=>obtain ⟨e,he⟩:=h.vi s 1 hx;rw[he] at hs;cases hs
theorem CE.lrow (h:CE P C R ts ts0 t χ χ' ds sp d M inn) {s:Nat} (hs:s∈sp.to.rw.map (·.1)) (hb:2000000≤s):lkA M.b s=none∧∃o,lkA M.r s=some o∧χ' s 1=(match o with|none=>true|some k=>χ k.1 k.2):=by
 have h1:=h.orw hs hb
 have h2:=h.nob h1
 obtain ⟨o,ho⟩:=h.hM.rw s h1
 refine ⟨h2,o,ho,?_⟩
 cases hq:t.tb s 1 with
 |none=>have:=h.tt.rw s hs;rw[hq] at this;cases this
 | some b=>
   rw[h.lv s b hb hq]
   unfold xiM
   rw[h2,ho]
   cases o<;>rfl
theorem CE.mono (h:CE P C R ts ts0 t χ χ' ds sp d M inn):Mono ts (aft0 sp (yal d) M t ts) χ (gChi sp t χ χ' M (yal d)):=by
 refine ⟨fun _ _ q=>q,fun s c q=> ?_,fun s c q=> ?_⟩
 ·rcases q with q|⟨q1,q2⟩
  ·exact .inl q
  ·refine .inr ⟨q1,?_⟩
   show memB (plL M (yal d) 2 (yiV sp t)++ts.nw) s=true
   rw[ylR,q2,Bool.or_true]
 ·have hc:c=1∨c=2:=q.elim .inl fun q=> .inr q.1
  rcases h.fnd (q:=(s,c)) with ⟨h1,h2⟩|⟨p,h1,h2,h3⟩|⟨p,h1,h2,h3,h4,h5⟩
  ·right
   rw[yhS s c hc,h1]
   unfold gChi
   rw[h1]
   exact ⟨rfl,rfl⟩
  ·obtain ⟨b,e1,e2⟩:=h.tsome h1
   obtain ⟨g1,g2⟩:=h.told_tb h1 h2
   have hb:2000000≤p.1:=by
    apply Decidable.byContradiction
    intro hn
    rw[ycw hn] at h2
    cases h2
    have:=(h.new (List.mem_map_of_mem (f:=(·.1)) h1) hn).2.2.1
    rcases q with q|⟨_,q⟩
    ·cases q
    ·rw[this] at q;cases q
   rcases h.tt.ent p h1 with ⟨⟨e,l,x,_,_,e3⟩,e4⟩|⟨⟨e,l,e3⟩,e4⟩
   ·left
    rw[g1,g2,e3]
    exact ⟨rfl,by rw[h.bxχ (h.tt.bx p.1 e4)];rfl⟩
   ·right
    obtain ⟨a1,o,a2,a3⟩:=h.lrow e4 hb
    have a4:lkA M.r p.1=some (some (s,c)):=by
     rcases h.big' hb h2 with e|⟨_,e⟩
     ·rw[a1] at e;cases e
     ·exact e
    rw[a2] at a4;cases a4
    have htl:tln (t.tb p.1 1)=some l.length:=by
     show tln (lkB t.od p.1)=_
     rw[e2,<-e1,e3];rfl
    obtain ⟨k,k1,k2⟩:=h.hM.rk p.1 (s,c) a2
    have:=h.len p.1 _ hb htl
    rw[k2] at this;cases this
    rw[g1,g2,e3]
    exact ⟨k1.symm,by rw[a3];rfl⟩
  ·left
   rw[yhS s c hc,h5]
   unfold gChi
   rw[h5]
   simp only[h1]
   exact ⟨rfl,rfl⟩
theorem CE.okt (h:CE P C R ts ts0 t χ χ' ds sp d M inn) {s:Nat} {q:Nat×Nat} (hs:s∈t.od.map (·.1)∨s∈tiN sp) (hq:plQ M (yal d) s=some q):okr (aft0 sp (yal d) M t ts) q.1 q.2:=by
 by_cases hb:2000000<=s
 ·obtain ⟨b,hb⟩:=h.lent hb hq
  exact h.mono.ok _ _ (yBj hb)
 ·have hs':s∈t.od.map (·.1):=hs.elim id fun hs=>absurd (h.big _ hs) hb
  rcases h.qc hq with e|e
  ·exact .inl e
  ·refine .inr ⟨e,?_⟩
   show memB (plL M (yal d) 2 (yiV sp t)++ts.nw) q.1=true
   rw[ylR]
   obtain ⟨p,hp,rfl⟩:=List.mem_map.1 hs'
   rw[(ysI 2 (yiV sp t) q.1).2 ⟨p,List.mem_append_left _ hp,by rw[hq,<-e]⟩];rfl
theorem CE.go (h:CE P C R ts ts0 t χ χ' ds sp d M inn) {s:Nat} {q:K2}:((s,1),q)∈gOut t χ' M (yal d)↔s∈t.od.map (·.1)∧χ' s 1=false∧plQ M (yal d) s=some q:=by
 unfold gOut
 rw[List.mem_map]
 constructor
 ·rintro ⟨p,hp,e⟩
  obtain ⟨a,b⟩:=yeQ.1 (show (p.1,p.2)∈_ from hp)
  simp only[Prod.mk.injEq,and_true] at e
  obtain ⟨rfl,rfl⟩:=e
  refine ⟨b,?_⟩
  unfold goL at a
  split at a
  ·rename_i e1 e2;exact ⟨e2,a⟩
  ·cases a
 ·rintro ⟨a,b,c⟩
  refine ⟨(s,q),yeQ.2 ⟨?_,a⟩,rfl⟩
  obtain ⟨p,hp,rfl⟩:=List.mem_map.1 a
  obtain ⟨b0,_,e2⟩:=h.tsome hp
  unfold goL
  rw[e2,b];exact c
theorem CE.out1 (_h:CE P C R ts ts0 t χ χ' ds sp d M inn) {p:K2×K2} (hp:p∈gOut t χ' M (yal d)):p.1.2=1:=by
 unfold gOut at hp
 obtain ⟨q,_,rfl⟩:=List.mem_map.1 hp;rfl
theorem CE.on1 (h:CE P C R ts ts0 t χ χ' ds sp d M inn):((gOut t χ' M (yal d)).map (·.1)).Nodup:=by
 unfold gOut
 rw[List.map_map]
 have:=yo2 (g:=goL t χ' M (yal d)) h.tt.nd
 rw[show ((fun x:K2×K2=>x.1)∘fun p:Nat×K2=>((p.1,1),p.2))=(fun x:Nat=>((x,1):K2))∘(·.1) from rfl,<-List.map_map]
 exact yjL (fun x y e=>by simpa using e) this
theorem CE.on2 (h:CE P C R ts ts0 t χ χ' ds sp d M inn):((gOut t χ' M (yal d)).map (·.2)).Nodup:=by
 have hgo:∀s q,s∈t.od.map (·.1)→goL t χ' M (yal d) s=some q→plQ M (yal d) s=some q:=by
  intro s q _ a
  unfold goL at a
  split at a
  ·exact a
  ·cases a
 unfold gOut
 rw[List.map_map]
 show ((innM (goL t χ' M (yal d)) t.od).map (·.2)).Nodup
 have key:∀(l:List (Nat×Option (TB K))),(∀p∈l,p∈t.od)→(l.map (·.1)).Nodup→((innM (goL t χ' M (yal d)) l).map (·.2)).Nodup:=by
  intro l
  induction l with
  |nil=>intro _ _;exact List.nodup_nil
  | cons p l ih=>
    intro hl hn
    obtain ⟨h1,h2⟩:=List.nodup_cons.1 (show (p.1::l.map (·.1)).Nodup from hn)
    have ih:=ih (fun p hp=>hl p (List.mem_cons_of_mem _ hp)) h2
    unfold innM
    rw[List.filterMap_cons]
    cases hg:goL t χ' M (yal d) p.1 with
    |none=>exact ih
    | some k=>
      simp only[Option.map_some,List.map_cons]
      refine List.nodup_cons.2 ⟨fun hm=> ?_,ih⟩
      obtain ⟨q,hq,e⟩:=List.mem_map.1 hm
      obtain ⟨a,b⟩:=yeQ.1 (show (q.1,q.2)∈innM (goL t χ' M (yal d)) l from hq)
      have m1:p.1∈t.od.map (·.1):=List.mem_map_of_mem (f:=(·.1)) (hl p List.mem_cons_self)
      have m2:q.1∈t.od.map (·.1):=by
       obtain ⟨x,hx,e'⟩:=List.mem_map.1 b
       rw[<-e'];exact List.mem_map_of_mem (f:=(·.1)) (hl x (List.mem_cons_of_mem _ hx))
      have:=h.inj (.inl m2) (.inl m1) (by rw[<-e];exact hgo _ _ m2 a) (hgo _ _ m1 hg)
      rw[this] at b;exact h1 b
 exact key t.od (fun p hp=>hp) h.tt.nd
theorem CE.f1 (h:CE P C R ts ts0 t χ χ' ds sp d M inn) {s:Nat} {q:K2} (hs:s∈t.od.map (·.1)) (hx:χ' s 1=false) (hq:plQ M (yal d) s=some q):lkE (gOut t χ' M (yal d)) (s,1)=some q:=
 yvv h.on1 (h.go.2 ⟨hs,hx,hq⟩)
theorem CE.back (h:CE P C R ts ts0 t χ χ' ds sp d M inn):ypU P C t (aft0 sp (yal d) M t ts) χ' (gChi sp t χ χ' M (yal d)) M (yal d) (fun x c=>lkE (gOut t χ' M (yal d)) (x,c)):=by
 have nm:∀ {s:Nat} {b:TB K},t.tb s 1=some b->(s,some b)∈t.od:=fun hb=>yhU hb
 have rowN:∀ {s k:Nat},tln (t.tb s 1)=some k→∃e l,(s,some (.row e l))∈t.od∧l.length=k∧s∈sp.to.rw.map (·.1)∧s∈t.od.map (·.1):=by
  intro s k hk
  cases hq:t.tb s 1 with
  |none=>rw[hq] at hk;cases hk
  | some b=>
    have hm:=nm hq
    rcases h.tt.ent _ hm with ⟨⟨e,l,x,_,_,e3⟩,_⟩|⟨⟨e,l,e3⟩,e4⟩
    ·have e3:some b=_:=e3
     rw[hq,e3] at hk;cases hk
    ·have e3:some b=_:=e3
     rw[hq,e3] at hk
     simp only[tln,Option.some.injEq] at hk
     rw[e3] at hm
     exact ⟨e,l,hm,hk,e4,List.mem_map_of_mem (f:=(·.1)) hm⟩
 have ble:∀ {s:Nat},¬2000000<=s->Nat.ble 2000000 s=false:=fun {s} hb=>by cases hq:Nat.ble 2000000 s with|false=>rfl|true=>exact absurd (Nat.le_of_ble_eq_true hq) hb
 refine ⟨fun s k hk hx=> ?_,fun s k hk hx=> ?_,fun s hs=> ?_⟩
 ·obtain ⟨e,l,hm,hl,h1,h2⟩:=rowN hk
  by_cases hb:2000000<=s
  ·obtain ⟨a1,o,a2,a3⟩:=h.lrow h1 hb
   rw[hx] at a3
   cases o with
   |none=>cases a3
   | some q=>
     have hq:=yr3 (d:=d) hb a1 a2
     obtain ⟨g1,g2⟩:=h.told_tb hm hq
     refine ⟨q,?_,h.f1 h2 hx hq,h.okt (.inl h2) hq,by rw[g1];show tln (some (TB.row e l))=_;rw[<-hl];rfl,by rw[g2];simp[hx]⟩
     simp only[plV,Nat.ble_eq_true_of_le hb,a2]
  ·have hq:=ycw (M:=M) (d:=d) hb
   obtain ⟨g1,g2⟩:=h.told_tb hm hq
   refine ⟨(yal d s,2),?_,h.f1 h2 hx hq,h.okt (.inl h2) hq,by rw[g1];show tln (some (TB.row e l))=_;rw[<-hl];rfl,by rw[g2];simp[hx]⟩
   simp only[plV,ble hb]
 ·obtain ⟨e,l,hm,hl,h1,h2⟩:=rowN hk
  have hk0:k=0:=by
   obtain ⟨e',he⟩:=h.vi s 1 hx
   rw[he] at hk;cases hk;rfl
  subst hk0
  by_cases hb:2000000<=s
  ·obtain ⟨a1,o,a2,a3⟩:=h.lrow h1 hb
   cases o with
   | none=>
     have:plV (K:=K) M (yal d) (.rw s 1)= .nil:=by simp only[plV,Nat.ble_eq_true_of_le hb,a2]
     rw[this];exact .nil
   | some q=>
     have hq:=yr3 (d:=d) hb a1 a2
     obtain ⟨g1,g2⟩:=h.told_tb hm hq
     have:plV (K:=K) M (yal d) (.rw s 1)= .rw q.1 q.2:=by simp only[plV,Nat.ble_eq_true_of_le hb,a2]
     rw[this]
     exact .rwn _ _ (h.okt (.inl h2) hq) (by rw[g1];show tln (some (TB.row e l))=_;rw[<-hl];rfl) (by rw[g2];simp[hx])
  ·have hq:=ycw (M:=M) (d:=d) hb
   obtain ⟨g1,g2⟩:=h.told_tb hm hq
   have:plV (K:=K) M (yal d) (.rw s 1)= .rw (yal d s) 2:=by simp only[plV,ble hb]
   rw[this]
   exact .rwn _ _ (h.okt (.inl h2) hq) (by rw[g1];show tln (some (TB.row e l))=_;rw[<-hl];rfl) (by rw[g2];simp[hx])
 ·have hx:=h.bxχ hs
  cases hq0:t.tb s 1 with
  |none=>rw[hq0] at hs;cases hs
  | some b=>
    have hm:=nm hq0
    have h2:s∈t.od.map (·.1):=List.mem_map_of_mem (f:=(·.1)) hm
    have h1:s∈sp.to.bx.map (·.1):=by
     rcases h.tt.ent _ hm with ⟨_,e4⟩|⟨⟨e,l,e3⟩,_⟩
     ·exact e4
     ·have e3:some b=_:=e3
      rw[hq0,e3] at hs;cases hs
    by_cases hb:2000000<=s
    ·obtain ⟨k,hk⟩:=h.hM.bx s (h.obx h1 hb)
     have hq:=yoX (d:=d) hb hk
     exact ⟨k,fun o=>by simp only[plV,Nat.ble_eq_true_of_le hb,hk],h.f1 h2 hx hq,h.okt (.inl h2) hq⟩
    ·have hq:=ycw (M:=M) (d:=d) hb
     exact ⟨(yal d s,2),fun o=>by simp only[plV,ble hb],h.f1 h2 hx hq,h.okt (.inl h2) hq⟩
theorem CE.blk (h:CE P C R ts ts0 t χ χ' ds sp d M inn) {p:Nat×Option (TB K)} (hp:p∈t.od) {b:TB K} (hb:p.2=some b) {b':TB K} (hm:mapB (plV M (yal d)) (some b)=some b'):
  MR P C (aft0 sp (yal d) M t ts) (gChi sp t χ χ' M (yal d)) b' ⟨(bT C t χ' b).e,(bT C t χ' b).sz,reAs (fun x c=>lkE (gOut t χ' M (yal d)) (x,c)) (bT C t χ' b).cells,false⟩/\(bT C t χ' b).sz≠0:=by
 refine yx6 h.hC h.back h.tt.rw h.tt.bx ?_ hm
 rcases h.tt.ent p hp with ⟨⟨e,l,x,a1,a2,e3⟩,_⟩|⟨⟨e,l,e3⟩,_⟩
 ·rw[hb] at e3;exact .inl ⟨e,l,x,a1,a2,Option.some.inj e3⟩
 ·rw[hb] at e3;exact .inr ⟨e,l,Option.some.inj e3⟩
theorem CE.kbo (h:CE P C R ts ts0 t χ χ' ds sp d M inn) {p:Nat×Option (TB K)} (hp:p∈t.od) {b:TB K} (hb:p.2=some b) (hx:χ' p.1 1=false) {q:Nat×Nat} (hq:plQ M (yal d) p.1=some q):
  q∈(gOut t χ' M (yal d)).map (·.2)/\gKb C t χ' (gOut t χ' M (yal d)) q=some ⟨(bT C t χ' b).e,(bT C t χ' b).sz,reAs (fun x c=>lkE (gOut t χ' M (yal d)) (x,c)) (bT C t χ' b).cells,false⟩:=by
 have hm:=h.go.2 ⟨List.mem_map_of_mem (f:=(·.1)) hp,hx,hq⟩
 refine ⟨List.mem_map.2 ⟨_,hm,rfl⟩,?_⟩
 unfold gKb
 rw[yvI h.on2 hm]
 simp only
 rw[ye3 h.tt.nd (show (p.1,p.2)∈_ from hp),hb]
 rfl
theorem CE.dkb (h:CE P C R ts ts0 t χ χ' ds sp d M inn) (x c:Nat):(gDs C t χ' inn (gOut t χ' M (yal d)) ds).kb x c=if (x,c)∈(gOut t χ' M (yal d)).map (·.2)++inn.map (·.2) then gKb C t χ' (gOut t χ' M (yal d)) (x,c) else ds.kb x c:=by
 have hpl:(x,c)∈(gOut t χ' M (yal d)).map (·.2)++inn.map (·.2)→c=1∨c=2:=by
  intro hm
  rcases List.mem_append.1 hm with hm|hm
  ·obtain ⟨p,hp,e⟩:=List.mem_map.1 hm
   have e1:=h.out1 hp
   have hp':((p.1.1,1),p.2)∈gOut t χ' M (yal d):=by rw[<-e1];exact hp
   have:=h.qc (h.go.1 hp').2.2
   rw[e] at this;exact this
  ·obtain ⟨p,hp,e⟩:=List.mem_map.1 hm
   have hr:=((h.hin p.1 p.2).1 hp).1
   have:∃b,ts.tb p.2.1 p.2.2=some b:=by
    unfold rhoM at hr
    split at hr
    ·rename_i k e2;cases hr
     obtain ⟨_,e',cs,hc⟩:=h.hM.b _ _ e2;exact ⟨_,hc⟩
    ·split at hr
     ·rename_i k e2
      split at hr
      ·cases hr
      ·cases hr
       obtain ⟨n,hn,_⟩:=h.hM.rk _ _ e2
       cases ht:ts.tb p.2.1 p.2.2 with
       |none=>rw[ht] at hn;cases hn
       |some b=>exact ⟨b,rfl⟩
     ·cases hr
   obtain ⟨b,hb⟩:=this
   have:=tb_c hb
   rw[e] at this;exact this
 unfold DS.kb gDs
 cases h1:Nat.beq c 1 with
 | true=>
   have:=nbeq.1 h1;subst this
   exact ywN _ 1 _ _ x
 | false=>
   cases h2:Nat.beq c 2 with
   | true=>
     have:=nbeq.1 h2;subst this
     exact ywN _ 2 _ _ x
   | false=>
     simp only
     rw[if_neg]
     intro hm
     rcases hpl hm with e|e
     ·subst e;cases h1
     ·subst e;cases h2
theorem CE.rho (h:CE P C R ts ts0 t χ χ' ds sp d M inn) {s:Nat} {q:Nat×Nat} (hs:s∈tiN sp) (hr:rhoM χ M s=some q):plQ M (yal d) s=some q:=by
 have hb:=h.big s hs
 unfold rhoM at hr
 split at hr
 ·rename_i k e;cases hr;exact yoX hb e
 ·rename_i e
  split at hr
  ·rename_i k e2
   split at hr
   ·cases hr
   ·cases hr;exact yr3 hb e e2
  ·cases hr
theorem CE.innp (h:CE P C R ts ts0 t χ χ' ds sp d M inn) (h00:∀s,s∈ts0.od.map (·.1)→s∈tiN sp) {q:Nat×Nat} (hq:q∈inn.map (·.2)):∃s∈tiN sp,(s,q)∈inn∧plQ M (yal d) s=some q:=by
 obtain ⟨p,hp,rfl⟩:=List.mem_map.1 hq
 obtain ⟨a,b⟩:=(h.hin p.1 p.2).1 hp
 exact ⟨p.1,h00 _ b,hp,h.rho (h00 _ b) a⟩
theorem CE.gm (h:CE P C R ts ts0 t χ χ' ds sp d M inn) (h00:∀s,s∈ts0.od.map (·.1)→s∈tiN sp):GM P C R (aft0 sp (yal d) M t ts) (gChi sp t χ χ' M (yal d)) (gDs C t χ' inn (gOut t χ' M (yal d)) ds):=by
 have hm:=h.mono
 have notpl:∀ {s c:Nat},(∀x,x∈t.od.map (·.1)∨x∈tiN sp→plQ M (yal d) x≠some (s,c))→(s,c)∉(gOut t χ' M (yal d)).map (·.2)++inn.map (·.2):=by
  intro s c hn hp
  rcases List.mem_append.1 hp with hp|hp
  ·obtain ⟨p,hp,e⟩:=List.mem_map.1 hp
   have e1:=h.out1 hp
   have hp':((p.1.1,1),p.2)∈gOut t χ' M (yal d):=by rw[<-e1];exact hp
   obtain ⟨a,_,b⟩:=h.go.1 hp'
   exact hn _ (.inl a) (by rw[b,e])
  ·obtain ⟨x,a,_,b⟩:=h.innp h00 hp
   exact hn x (.inr a) b
 refine ⟨fun u=>(h.hγ.fr u).mono hm,fun s c b hb hx=> ?_,fun s c hx=> ?_,fun s hs=> ?_,h.hγ.hp,fun s b hs hb=> ?_⟩
 ·have hc:=tb_c hb
  rcases h.fnd (q:=(s,c)) with ⟨h1,h2⟩|⟨p,h1,h2,h3⟩|⟨p,h1,h2,h3,h4,h5⟩
  ·rw[yhS s c hc,h1] at hb
   unfold gChi at hx
   rw[h1] at hx
   obtain ⟨kb,k1,k2⟩:=h.hγ.mb s c b hb hx
   exact ⟨kb,by rw[h.dkb,if_neg (notpl h2)];exact k1,k2.mono hm⟩
  ·obtain ⟨b0,e1,e2⟩:=h.tsome h1
   obtain ⟨g1,g2⟩:=h.told_tb h1 h2
   rw[show (aft0 sp (yal d) M t ts).tb s c=mapB (plV M (yal d)) p.2 from g1,e1] at hb
   rw[show gChi sp t χ χ' M (yal d) s c=(p.2.isSome&&χ' p.1 1) from g2,e1] at hx
   have hx':χ' p.1 1=false:=by simpa using hx
   obtain ⟨k1,k2⟩:=h.kbo h1 e1 hx' h2
   exact ⟨_,by rw[h.dkb,if_pos (List.mem_append_left _ k1)];exact k2,(h.blk h1 e1 hb).1⟩
  ·rw[yhS s c hc,h5] at hb
   simp only[h1] at hb
   cases hb
 ·rcases h.fnd (q:=(s,c)) with ⟨h1,h2⟩|⟨p,h1,h2,h3⟩|⟨p,h1,h2,h3,h4,h5⟩
  ·unfold gChi at hx
   rw[h1] at hx
   obtain ⟨e,he⟩:=h.hγ.vi s c hx
   exact ⟨e,by rw[yhS s c (tb_c he),h1];exact he⟩
  ·obtain ⟨b0,e1,e2⟩:=h.tsome h1
   obtain ⟨g1,g2⟩:=h.told_tb h1 h2
   rw[show gChi sp t χ χ' M (yal d) s c=(p.2.isSome&&χ' p.1 1) from g2,e1] at hx
   obtain ⟨e,he⟩:=h.vi p.1 1 (by simpa using hx)
   have he':lkB t.od p.1=some (.row e []):=he
   rw[e2] at he'
   exact ⟨e,by rw[show (aft0 sp (yal d) M t ts).tb s c=mapB (plV M (yal d)) p.2 from g1,e1,he'];rfl⟩
  ·unfold gChi at hx
   rw[h5] at hx
   simp only[h1] at hx
   cases hx
 ·have hs':memB (plL M (yal d) 2 (yiV sp t)++ts.nw) s=false:=hs
  rw[ylR,Bool.or_eq_false_iff] at hs'
  have h1:=h.hγ.nw s hs'.2
  cases hq:memO (gDs C t χ' inn (gOut t χ' M (yal d)) ds).nw s with
  |false=>rfl
  | true=>
    rcases (ymP _ 2 _ _ s).1 hq with e|e
    ·exfalso
     have hno:∀x,x∈t.od.map (·.1)∨x∈tiN sp→plQ M (yal d) x≠some (s,2):=by
      intro x hx e
      have:memB (plL M (yal d) 2 (yiV sp t)) s=true:=by
       rw[ysI]
       rcases hx with hx|hx
       ·obtain ⟨p,hp,rfl⟩:=List.mem_map.1 hx
        exact ⟨p,List.mem_append_left _ hp,e⟩
       ·exact ⟨(x,none),List.mem_append_right _ (List.mem_map_of_mem (f:=fun s=>(s,none)) hx),e⟩
      rw[hs'.1] at this;cases this
     exact notpl hno e
    ·rw[h1] at e;cases e
 ·have hc:(1:Nat)=1∨(1:Nat)=2:= .inl rfl
  rcases h.fnd (q:=(s,1)) with ⟨h1,h2⟩|⟨p,h1,h2,h3⟩|⟨p,h1,h2,h3,h4,h5⟩
  ·rw[yhS s 1 hc,h1] at hb
   unfold gChi
   rw[h1]
   exact h.hγ.lv s b hs hb
  ·obtain ⟨b0,e1,e2⟩:=h.tsome h1
   obtain ⟨g1,g2⟩:=h.told_tb h1 h2
   rw[show gChi sp t χ χ' M (yal d) s 1=(p.2.isSome&&χ' p.1 1) from g2,e1]
   simp only[Option.isSome_some,Bool.true_and]
   have hbg:2000000≤p.1:=by
    apply Decidable.byContradiction
    intro hn
    rw[ycw hn] at h2;cases h2
   obtain ⟨b1,hb1⟩:=h.lent hbg h2
   rw[h.hγ.lv s b1 hs hb1]
   rcases h.tt.ent p h1 with ⟨_,e4⟩|⟨_,e4⟩
   ·rw[h.bxχ (h.tt.bx p.1 e4)]
    obtain ⟨k,hk⟩:=h.hM.bx p.1 (h.obx e4 hbg)
    have:=yoX (d:=d) hbg hk
    rw[h2] at this;cases this
    obtain ⟨_,e,cs,hcs⟩:=h.hM.b _ _ hk
    exact h.hγ.box hcs
   ·obtain ⟨a1,o,a2,a3⟩:=h.lrow e4 hbg
    rcases h.big' hbg h2 with e|⟨_,e⟩
    ·rw[a1] at e;cases e
    ·rw[a2] at e;cases e
     rw[a3]
  ·rw[yhS s 1 hc,h5] at hb
   simp only[h1] at hb
   cases hb
theorem CE.dok (h:CE P C R ts ts0 t χ χ' ds sp d M inn):DOk (gDs C t χ' inn (gOut t χ' M (yal d)) ds):=by
 intro x c b hb
 rw[h.dkb] at hb
 split at hb
 ·unfold gKb at hb
  split at hb
  ·rename_i y hy
   obtain ⟨b0,e1,e2⟩:=Option.map_eq_some_iff.1 hb
   subst e2
   have hm:=yhU e1
   obtain ⟨b',hb'⟩:∃b',mapB (plV M (yal d)) (some b0)=some b':=by cases b0<;>exact ⟨_,rfl⟩
   exact ⟨(h.blk hm rfl hb').2,fun q=>(by cases q)⟩
  ·cases hb
 ·exact h.hk x c b hb
theorem CE.oko (h:CE P C R ts ts0 t χ χ' ds sp d M inn) {S1:St} (hS:∀s b,lkB t.od s=some b→χ' s 1=false→S1.M (.l s 1)=some (bT C t χ' b)):yxS inn (gOut t χ' M (yal d)) (gBs t χ' M (yal d)) (toD ds).cnt S1:=by
 refine ⟨h.on1,h.on2,fun p hp=> ?_,fun p hp=> ?_⟩
 ·have e1:=h.out1 hp
  have hp':((p.1.1,1),p.2)∈gOut t χ' M (yal d):=by rw[<-e1];exact hp
  obtain ⟨a,b,c⟩:=h.go.1 hp'
  obtain ⟨y,hy,e⟩:=List.mem_map.1 a
  obtain ⟨b0,e2,e3⟩:=h.tsome hy
  rw[e] at e3
  refine ⟨_,by rw[e1];exact hS _ b0 e3 b,?_⟩
  obtain ⟨b',hb'⟩:∃b',mapB (plV M (yal d)) (some b0)=some b':=by cases b0<;>exact ⟨_,rfl⟩
  exact (h.blk hy e2 hb').2
 ·have e1:=h.out1 hp
  have hp':((p.1.1,1),p.2)∈gOut t χ' M (yal d):=by rw[<-e1];exact hp
  obtain ⟨a,b,c⟩:=h.go.1 hp'
  by_cases hb:2000000<=p.1.1
  ·refine .inl ⟨e1,?_⟩
   have hti:p.1.1∈tiN sp∧rhoM χ M p.1.1=some p.2:=by
    obtain ⟨y,hy,e⟩:=List.mem_map.1 a
    rcases h.tt.ent y hy with ⟨_,e4⟩|⟨_,e4⟩
    ·rw[e] at e4
     have:=h.obx e4 hb
     obtain ⟨k,hk⟩:=h.hM.bx _ this
     have hq:=yoX (d:=d) hb hk
     rw[c] at hq;cases hq
     exact ⟨List.mem_append_left _ this,by unfold rhoM;rw[hk]⟩
    ·rw[e] at e4
     obtain ⟨a1,o,a2,a3⟩:=h.lrow e4 hb
     rcases h.big' hb c with q|⟨_,q⟩
     ·rw[a1] at q;cases q
     ·rw[a2] at q;cases q
      refine ⟨List.mem_append_right _ (h.orw e4 hb),?_⟩
      unfold rhoM
      rw[a1,a2]
      simp only
      rw[if_neg]
      rw[b] at a3
      simp only at a3
      rw[<-a3];simp
   exact (h.hin _ _).2 ⟨hti.2,h.h0 _ hti.1⟩
  ·right
   have hq:=ycw (M:=M) (d:=d) hb
   rw[c] at hq
   have hq:=Option.some.inj hq
   rw[hq]
   have hf:=(h.new a hb).2.2.1
   refine ⟨?_,?_⟩
   ·unfold gBs
    refine List.mem_map.2 ⟨(p.1.1,p.2),List.mem_filter.2 ⟨?_,?_⟩,by rw[hq]⟩
    ·obtain ⟨x,hx,e⟩:=List.mem_map.1 (show ((p.1.1,1),p.2)∈(innM (goL t χ' M (yal d)) t.od).map _ from hp')
     simp only[Prod.mk.injEq,and_true] at e
     rw[<-e.1,<-e.2];exact hx
    ·have:Nat.ble 2000000 p.1.1=false:=by cases hq:Nat.ble 2000000 p.1.1 with|false=>rfl|true=>exact absurd (Nat.le_of_ble_eq_true hq) hb
     rw[this];rfl
   ·show 2=ds.cn (yal d p.1.1)+1
    unfold DS.cn
    rw[h.hγ.nw _ hf]
theorem CE.bl (h:CE P C R ts ts0 t χ χ' ds sp d M inn) (h00:∀s,s∈ts0.od.map (·.1)→s∈tiN sp) {S1:St} (hS:∀s b,lkB t.od s=some b→χ' s 1=false→S1.M (.l s 1)=some (bT C t χ' b)) (hh:S1.hp=(toD ds).hp) (hn:S1.nx=(toD ds).nx):
  (toD ds).backL inn (gOut t χ' M (yal d)) (gBs t χ' M (yal d)) S1=toD (gDs C t χ' inn (gOut t χ' M (yal d)) ds):=by
 refine St.ext4 (fun _=>rfl) (fun k=> ?_) (fun s=> ?_) hn
 ·cases k with
  |h o=>exact congrFun hh o
  | l x c =>
    show (match lkZ (gOut t χ' M (yal d)) (x,c) with|some q=>(S1.M (.l q.1 q.2)).map (Blk.re fun d c=>lkE _ (d,c))|none=>match lkZ inn (x,c) with|some _=>none|none=>(toD ds).M (.l x c))=((gDs C t χ' inn (gOut t χ' M (yal d)) ds).kb x c).map KB.blk
    rw[h.dkb]
    cases ho:lkZ (gOut t χ' M (yal d)) (x,c) with
    | some q=>
      have hm:=yiM ho
      have e1:=h.out1 hm
      have hm':((q.1,1),(x,c))∈gOut t χ' M (yal d):=by rw[show (1:Nat)=q.2 from e1.symm];exact hm
      obtain ⟨a,b,c'⟩:=h.go.1 hm'
      obtain ⟨y,hy,e⟩:=List.mem_map.1 a
      obtain ⟨b0,e2,e3⟩:=h.tsome hy
      rw[e] at e3
      rw[if_pos (List.mem_append_left _ (List.mem_map.2 ⟨_,hm,rfl⟩))]
      unfold gKb
      rw[ho]
      simp only
      rw[e3,show q.2=1 from e1,hS _ b0 e3 b]
      rfl
    | none=>
      simp only
      have hno:(x,c)∉(gOut t χ' M (yal d)).map (·.2):=fun hm=>by
       obtain ⟨p,hp,e⟩:=List.mem_map.1 hm
       exact ytq ho p.1 (by rw[<-e];exact hp)
      cases hi:lkZ inn (x,c) with
      | some y=>
        rw[if_pos (List.mem_append_right _ (List.mem_map.2 ⟨_,yiM hi,rfl⟩))]
        unfold gKb
        rw[ho];rfl
      | none=>
        rw[if_neg]
        ·rfl
        ·intro hm
         rcases List.mem_append.1 hm with hm|hm
         ·exact hno hm
         ·obtain ⟨p,hp,e⟩:=List.mem_map.1 hm
          exact ytq hi p.1 (by rw[<-e];exact hp)
 ·show cntB (gBs t χ' M (yal d)) ds.cn s=(gDs C t χ' inn (gOut t χ' M (yal d)) ds).cn s
  unfold cntB
  have hmem:s∈gBs t χ' M (yal d)→(s,2)∈(gOut t χ' M (yal d)).map (·.2)∧memO ds.nw s=false:=by
   intro hs
   unfold gBs at hs
   obtain ⟨p,hp,rfl⟩:=List.mem_map.1 hs
   obtain ⟨hp1,hp2⟩:=List.mem_filter.1 hp
   have hb:¬2000000<=p.1:=fun q=>by rw[Nat.ble_eq_true_of_le q] at hp2;cases hp2
   have hm:((p.1,1),p.2)∈gOut t χ' M (yal d):=List.mem_map.2 ⟨p,hp1,rfl⟩
   obtain ⟨a,_,c⟩:=h.go.1 hm
   rw[ycw hb] at c
   have c:=Option.some.inj c
   rw[<-c] at hm⊢
   exact ⟨List.mem_map.2 ⟨_,hm,rfl⟩,h.hγ.nw _ (h.new a hb).2.2.1⟩
  unfold DS.cn
  by_cases hs:s∈gBs t χ' M (yal d)
  ·rw[if_pos hs]
   obtain ⟨a,b⟩:=hmem hs
   rw[b]
   have:memO (gDs C t χ' inn (gOut t χ' M (yal d)) ds).nw s=true:=(ymP _ 2 _ _ s).2 (.inl (List.mem_append_left _ a))
   rw[this]
  ·rw [if_neg hs]
   have : memO (gDs C t χ' inn (gOut t χ' M (yal d)) ds).nw s=memO ds.nw s:=by
    have lentm:∀ {y:Nat},2000000≤y→plQ M (yal d) y=some (s,2)→rhoM χ M y=some (s,2)→memO ds.nw s=true:=by
     intro y hy hq hr
     obtain ⟨b,hb⟩:=h.lent hy hq
     have hxf:χ s 2=false:=by
      unfold rhoM at hr
      split at hr
      ·rename_i k e;cases hr
       obtain ⟨_,e',cs,hc⟩:=h.hM.b _ _ e
       exact h.hγ.box hc
      ·split at hr
       ·rename_i k e
        split at hr
        ·cases hr
        ·rename_i hn;cases hr;simpa using hn
       ·cases hr
     obtain ⟨kb,hkb,_⟩:=h.hγ.mb s 2 b hb hxf
     have hkb':lkO ds.nw s=some kb:=hkb
     cases hmm:memO ds.nw s with
     |true=>rfl
     | false=>
       have:∀(l:List (Nat×Option KB)),memO l s=false→lkO l s=none:=by
        intro l
        induction l with
        |nil=>intro _;rfl
        | cons p l ih=>
          intro hq
          have hq':(Nat.beq p.1 s||memO l s)=false:=hq
          rw[Bool.or_eq_false_iff] at hq'
          rw[yic,if_neg (fun e=>by rw[nbeq.2 e] at hq';cases hq'.1)]
          exact ih hq'.2
       rw[this _ hmm] at hkb';cases hkb'
    cases hq:memO (gDs C t χ' inn (gOut t χ' M (yal d)) ds).nw s with
    | false=>
      cases hr:memO ds.nw s with
      |false=>rfl
      | true=>
        have:memO (gDs C t χ' inn (gOut t χ' M (yal d)) ds).nw s=true:=(ymP _ 2 _ _ s).2 (.inr hr)
        rw[hq] at this;cases this
    | true=>
      rcases (ymP _ 2 _ _ s).1 hq with e|e
      ·rcases List.mem_append.1 e with e|e
       ·obtain ⟨p,hp,e⟩:=List.mem_map.1 e
        have e1:=h.out1 hp
        have hp':((p.1.1,1),(s,2))∈gOut t χ' M (yal d):=by rw[<-e1,<-e];exact hp
        obtain ⟨a,b,c⟩:=h.go.1 hp'
        by_cases hb:2000000<=p.1.1
        ·have ok:=(h.oko hS).goes _ hp'
         rcases ok with ⟨_,ok⟩|⟨ok,_⟩
         ·exact (lentm hb c ((h.hin _ _).1 ok).1).symm
         ·exact absurd ok hs
        ·exfalso
         refine hs ?_
         unfold gBs
         refine List.mem_map.2 ⟨(p.1.1,(s,2)),List.mem_filter.2 ⟨?_,?_⟩,rfl⟩
         ·obtain ⟨x,hx,e⟩:=List.mem_map.1 (show ((p.1.1,1),(s,2))∈(innM (goL t χ' M (yal d)) t.od).map _ from hp')
          simp only[Prod.mk.injEq,and_true] at e
          have:x=(p.1.1,(s,2)):=Prod.ext e.1 (by rw[e.2])
          rw[<-this];exact hx
         ·have:Nat.ble 2000000 p.1.1=false:=by cases hq:Nat.ble 2000000 p.1.1 with|false=>rfl|true=>exact absurd (Nat.le_of_ble_eq_true hq) hb
          rw[this];rfl
       ·obtain ⟨x,hx,hi,hq2⟩:=h.innp h00 e
        exact (lentm (h.big x hx) hq2 ((h.hin _ _).1 hi).1).symm
      ·exact e.symm
   rw[this]
theorem CE.val (h:CE P C R ts ts0 t χ χ' ds sp d M inn) (hks:∀p∈sp.te.ks,okK (sp.to.bx.map (·.1)) (sp.to.rw.map (·.1)) p.2=true) {us:List (TV K)} (hu:ydX t sp.res=some us):
  TR P C (aft0 sp (yal d) M t ts) (gChi sp t χ χ' M (yal d)) (tres (plVs M (yal d) us)) (reA (fun x c=>lkE (gOut t χ' M (yal d)) (x,c)) (ydJ (aTs C t χ' us))):=by
 have slot:∀s,TR P C (aft0 sp (yal d) M t ts) (gChi sp t χ χ' M (yal d)) (plV M (yal d) (lkT t.fr s)) (reA (fun x c=>lkE (gOut t χ' M (yal d)) (x,c)) (aT C t χ' (lkT t.fr s))):=by
  intro s
  rcases h.tt.fr s with e|⟨p,hp,x,e⟩
  ·rw[e];exact .un _
  ·rw[e];exact ytC h.hC h.back h.tt.rw h.tt.bx p.2 x (hks p hp)
 have cells:∀ {s c e:Nat} {cs:List (TV K)},t.tb s c=some (.box e cs)→TL P C (aft0 sp (yal d) M t ts) (gChi sp t χ χ' M (yal d)) (plVs M (yal d) cs) (reAs (fun x c=>lkE (gOut t χ' M (yal d)) (x,c)) (aTs C t χ' cs)):=by
  intro s c e cs hb
  have hc:c=1:=by
   rcases tb_c hb with q|q
   ·exact q
   ·subst q
    have hb':lkB t.nw s=some (.box e cs):=hb
    rw[h.tt.nw] at hb';cases hb'
  subst hc
  rcases h.tt.ent _ (yhU (show lkB t.od s=_ from hb)) with ⟨⟨e',l,x,a1,_,e3⟩,_⟩|⟨⟨e',l,e3⟩,_⟩
  ·have e3:=Option.some.inj e3
   cases e3
   exact ytw h.hC h.back h.tt.rw h.tt.bx l x a1
  ·have e3:=Option.some.inj e3
   cases e3
 have all : ∀(l:List (Nat×Option Nat)) (us:List (TV K)),ydX t l=some us→TL P C (aft0 sp (yal d) M t ts) (gChi sp t χ χ' M (yal d)) (plVs M (yal d) us) (reAs (fun x c=>lkE (gOut t χ' M (yal d)) (x,c)) (aTs C t χ' us)):=by
  intro l
  induction l with
  |nil=>intro us hu;cases hu;exact .nil
  | cons p l ih=>
    intro us hu
    simp only[ydX] at hu
    split at hu
    ·rename_i v vs h1 h2
     cases hu
     simp only[plVs,aTs,reAs]
     refine .cons ?_ (ih vs h2)
     obtain ⟨s,q⟩:=p
     cases q with
     |none=>simp only[resT] at h1;cases h1;exact slot s
     | some q=>
       cases q with
       | zero=>
         simp only[resT] at h1
         split at h1
         ·rename_i s' c o e
          split at h1
          ·rename_i e' cs hb
           obtain ⟨_,c2⟩:=cells hb
           refine c2 o _ _ (by rw[yjr,List.getElem?_map,h1];rfl) (by rw[yil,ycZ,List.map_map,List.getElem?_map,h1];rfl)
          ·cases h1
         ·cases h1
       | succ q=>
         simp only[resT] at h1
         split at h1
         ·rename_i s' c o e
          split at h1
          ·rename_i e' cs hb
           have c0:=cells hb
           simp only[tldc] at h1
           split at h1
           ·cases h1
            have c1:=(c0.drop o).take (q+1)
            simp only[plV,aT,reA]
            refine .agg _ _ ?_ ?_
            ·have:=c1.1
             simp[yjr,yil,ycZ,List.map_take,List.map_drop]
            ·have:=c1.2
             simpa [yjr,yil,ycZ,List.map_take,List.map_drop] using this
           ·cases h1
          ·cases h1
         ·cases h1
    ·cases hu
 have ht:=all sp.res us hu
 have e:∀vs:List AV,reA (fun x c=>lkE (gOut t χ' M (yal d)) (x,c)) (ydJ vs)=ydJ (reAs (fun x c=>lkE (gOut t χ' M (yal d)) (x,c)) vs):=by
  intro vs
  cases vs with
  |nil=>rfl
  |cons a r=>cases r<;>rfl
 rw[e]
 exact ypt ht
theorem CE.val' (h:CE P C R ts ts0 t χ χ' ds sp d M inn) (hks:∀p∈sp.te.ks,okK (sp.to.bx.map (·.1)) (sp.to.rw.map (·.1)) p.2=true):
  TR P C (aft0 sp (yal d) M t ts) (gChi sp t χ χ' M (yal d)) (tres (plVs M (yal d) ((ydX t sp.res).getD []))) (reA (fun x c=>lkE (gOut t χ' M (yal d)) (x,c)) (ydJ (aTs C t χ' ((ydX t sp.res).getD [])))):=by
 cases hu:ydX t sp.res with
 |some us=>exact h.val hks hu
 |none=>exact .tup [] [] rfl (fun j u v hq=>by simp at hq)
end
end Go.AV
end
noncomputable section
namespace Go.AV
open Go.RowKit Go.RG Go.Lib
variable {K:Nat->Type}
def SLOk (P:Program) (C:Cx K) (L:List (Sl K)):Prop:=∀sp∈L,SlOk P C sp
theorem yoO {C:Cx K} {ts:TS K} {f:Nat} {vs:List (TV K)} {sp:Sl K} {env:List (DV K)} {m:RM}:∀ {L:List (Sl K)},ykd C ts f vs L=some (sp,env,m)→sp∈L∧sp.f=f∧vs.length=npL sp∧rdM C sp.ti ⟨zipT vs 0,ts.od,ts.nw,ts.rg,ts.h⟩=some (env,m)
 | [],h=>by cases h
 | q ::L,h=>by
   simp only[ykd] at h
   split at h
   ·rename_i hb
    simp only[Bool.and_eq_true] at hb
    split at h
    ·rename_i env' m' hr
     simp only[Option.some.injEq,Prod.mk.injEq] at h
     obtain ⟨rfl,rfl,rfl⟩:=h
     exact ⟨List.mem_cons_self,nbeq.1 hb.1,nbeq.1 hb.2,hr⟩
    ·obtain ⟨a,b⟩:=yoO h
     exact ⟨List.mem_cons_of_mem _ a,b⟩
   ·obtain ⟨a,b⟩:=yoO h
    exact ⟨List.mem_cons_of_mem _ a,b⟩
theorem yw3:∀ {cs:List CT} {p:List (DV K)→Prop},exC cs p→∃env,wt cs env=true∧p env
 | [],p,h=>⟨[],rfl,h⟩
 | c::cs,p,h=>by
   obtain ⟨x,h⟩:=h
   obtain ⟨env,hw,h⟩:=yw3 h
   refine ⟨_,?_,h⟩
   cases c<;>simp only[inC,wt,Bool.true_and,hw,Bool.and_true]<;>exact nbeq.2 rfl
theorem ypf {ts0:TS K} {p:Prop}:∀ {l:List (Nat×Option (TB K))},lenL ts0 l p→(∀x∈l,2000000≤x.1→∃n,tln x.2=some n∧tln (ts0.tb x.1 1)=some n)∧p
 | [],h=>⟨fun x hx=>(by cases hx),h⟩
 | x ::r,h=>by
   simp only[lenL] at h
   split at h
   ·rename_i hb
    split at h
    ·rename_i n m e1 e2
     obtain ⟨rfl,h⟩:=h
     obtain ⟨a,b⟩:=ypf h
     refine ⟨fun y hy hb=> ?_,b⟩
     rcases List.mem_cons.1 hy with rfl|hy
     ·exact ⟨_,e1,e2⟩
     ·exact a y hy hb
    ·exact h.elim
   ·rename_i hb
    obtain ⟨a,b⟩:=ypf h
    refine ⟨fun y hy hb'=> ?_,b⟩
    rcases List.mem_cons.1 hy with rfl|hy
    ·rw[Nat.ble_eq_true_of_le hb'] at hb;cases hb
    ·exact a y hy hb'
theorem yp8 {ts:TS K} {d:Option Nat}:∀ {l:List Nat},ytU ts d l=true→∀s∈l,1000000≤s∧s<1000064∧memB ts.nw (yal d s)=false∧yal d s<2000000
 | [],_,s,hs=>by cases hs
 | x::l,h,s,hs=>by
   simp only[ytU,Bool.and_eq_true,Bool.not_eq_true'] at h
   obtain ⟨⟨⟨⟨h1,h2⟩,h3⟩,h4⟩,h5⟩:=h
   rcases List.mem_cons.1 hs with rfl|hs
   ·exact ⟨Nat.le_of_ble_eq_true h1,Nat.le_of_ble_eq_true h2,h3,Nat.le_of_ble_eq_true h4⟩
   ·exact yp8 h5 s hs
theorem yrM {a b:List Nat} (h:subN (a.filter bigN) b=true):∀s∈a,2000000≤s→s∈b:=fun s hs hb=>
 yhg.1 (List.all_eq_true.1 h s (List.mem_filter.2 ⟨hs,Nat.ble_eq_true_of_le hb⟩))
section
variable {P:Program} {C:Cx K} {R:RR K} {ts:TS K} {χ:Nat->Nat->Bool} {ds:DS} {B:Base} [GB P B] {N:Nat} {ro:Option Nat}
structure CL (P:Program) (C:Cx K) (R:RR K) (ts:TS K) (χ:Nat→Nat→Bool) (ds:DS) (sp:Sl K) (d:Option Nat) (M:RM) (fs:List (FV K)) (env out:List (DV K)) (f:FuncId) (vs:List AV):Prop where
 hE:okS sp env=true
 wo:wt (ctT sp.te) out=true
 n1:((entL C sp fs env).od.map (·.1)).Nodup
 lend:ym2 (innM (rhoM χ M) (entL C sp fs env).od) (toD ds).M
 con:∀H n,ybf P f (vs.map (reA (finL (innM (rhoM χ M) (entL C sp fs env).od)))) (memL (innM (rhoM χ M) (entL C sp fs env).od) (toD ds).M) H n (EndL C sp (entL C sp fs env) (χ1 (xiM χ M)) out H n)
 h00:∀s,s∈(entL C sp fs env).od.map (·.1)↔s∈tiN sp
 ce:∀χ',TT C sp (endT C sp (entL C sp fs env) out)→ViOk (endT C sp (entL C sp fs env) out) χ'→(∀s b,2000000≤s→(endT C sp (entL C sp fs env) out).tb s 1=some b→χ' s 1=xiM χ M s)→
  CE P C R ts (entL C sp fs env) (endT C sp (entL C sp fs env) out) χ χ' ds sp d M (innM (rhoM χ M) (entL C sp fs env).od)
 xi:∀s,xiM χ M s=true->∃e,lkB (entL C sp fs env).od s=some (.row e [])
theorem yoa (hC:CxOk P C) {Φ:List (Sp K)} (hS:SsOk P C Φ) {L:List (Sl K)} (hL:SLOk P C L) (hγ:GM P C R ts χ ds) (hk:DOk ds) {d:Option Nat} {f:FuncId} {us:List (TV K)} {vs:List AV} (ht:TL P C ts χ us vs) {sp:Sl K} {env:List (DV K)} {M:RM} {dr:Bool} {X:TS K→Prop}
  (hp:ykd C ts f us L=some (sp,env,M)) (h:ylg C Φ dr ts d sp env M us X):∃fs out,CL P C R ts χ ds sp d M fs env out f vs/\X (aftL sp d M (endT C sp (entL C sp fs env) out) ts)/\(dr=true->sp.te.rw= [])/\∀p∈sp.te.ks,okK (sp.to.bx.map (·.1)) (sp.to.rw.map (·.1)) p.2=true:=by
 obtain ⟨h1,rfl,h3,h4⟩:=yoO hp
 unfold ylg at h
 split at h
 rotate_left
 ·exact h.elim
 rename_i fs hf hck
 simp only[Bool.and_eq_true] at hck
 obtain ⟨⟨hok,hfr⟩,hdr⟩:=hck
 obtain ⟨out,hwo,hW,hlen⟩:=yw3 h
 obtain ⟨hlen,hX⟩:=ypf hlen
 have hE:okS sp env=true:=by unfold okS;rw[hok,yyY h4];rfl
 obtain ⟨o1,o2,o3,o4,o5,o6⟩:=ypR hE
 obtain ⟨i1,i2⟩:=yjd (C:=C) (rg:= []) (hh:= []) o6
 have hnm:(entL C sp fs env).od.map (·.1)=tiN sp:=i1
 have n1:((entL C sp fs env).od.map (·.1)).Nodup:=by rw[hnm];exact o1.nd
 have h2:∀s∈(entL C sp fs env).od.map (·.1),2000000<=s:=fun s hs=>o3 s (by rw[hnm] at hs;exact hs)
 obtain ⟨b1,b2⟩:=yr4 hC hS hγ hk (hL sp h1) ht h4 hf h3 n1 h2 hW
 have hm:Mono ts ⟨zipT us 0,ts.od,ts.nw,ts.rg,ts.h⟩ χ χ:=⟨fun _ _ q=>q,fun _ _ q=>q,fun _ _ _=> .inr ⟨rfl,rfl⟩⟩
 have hA:GM P C R ⟨zipT us 0,ts.od,ts.nw,ts.rg,ts.h⟩ χ {ds with fr:=entF vs 0}:=
  ⟨fun t=>(ymX 0 t ht).mono hm,fun s c b hb hx=>by obtain ⟨kb,a,b⟩:=hγ.mb s c b hb hx;exact ⟨kb,a,b.mono hm⟩,hγ.vi,hγ.nw,hγ.hp,hγ.lv⟩
 have hM0:=yzQ hC o1 h4 hA
 have hM:MOk ts (entL C sp fs env) M sp.ti:=⟨hM0.nod,hM0.b,hM0.r,hM0.rk,hM0.bx,hM0.rw⟩
 obtain ⟨r1,r2,r3,r4,r5⟩:=yy5 hC (rg:= []) (fun id w q=>by cases q) h4 [] hA
 have hok':=hok
 simp only[okN,Bool.and_eq_true] at hok'
 obtain ⟨⟨⟨⟨⟨⟨_,_⟩,_⟩,hb⟩,hr⟩,_⟩,_⟩:=hok'
 refine ⟨fs,out,⟨hE,hwo,n1,b1,b2,fun s=>by rw[hnm],fun χ' htt hvi hlv=> ?_,fun s hs=>(r3 s hs).2⟩,hX,fun q=> ?_,fun p hp=>o2.ks p hp⟩
 ·refine ⟨hC,hγ,hk,hM,o1,fun s hs=>by rw[hnm];exact hs,fun s k=>yeQ,ypo r4 n1,fun s hs=>o3 s hs,yrM hb,yrM hr,yp8 hfr,htt,hvi,hlv,fun s k hs hk=> ?_⟩
  cases hq:(endT C sp (entL C sp fs env) out).tb s 1 with
  |none=>rw[hq] at hk;cases hk
  | some b=>
    have hmem:=yhU (show lkB (endT C sp (entL C sp fs env) out).od s=some b from hq)
    rw[hq] at hk
    have hod:(endT C sp (entL C sp fs env) out).od=(bdB C [] sp.te.bx (bdS C [] sp.te.ks out).2).1++((entL C sp fs env).od.filter fun x=>ye9 sp.kp x.1&&isBx x.2)++endR C sp out++(entL C sp fs env).od.filter fun x=>ye9 sp.kp x.1&& !isBx x.2:=rfl
    rw[hod] at hmem
    simp only[List.mem_append] at hmem
    rcases hmem with ((hmem|hmem)|hmem)|hmem
    ·obtain ⟨_,_,e⟩:=yrO (C:=C) (rg:= []) sp.te.bx (bdS C [] sp.te.ks out).2 _ hmem
     have e:some b=_:=e
     rw[e] at hk;cases hk
    ·have:=(List.mem_filter.1 hmem).2
     simp only[Bool.and_eq_true] at this
     cases b<;>first|(cases hk;done)|(cases this.2;done)
    ·obtain ⟨n,e1,e2⟩:=hlen _ hmem hs
     have e1:tln (some b)=some n:=e1
     rw[hk] at e1;cases e1;exact e2
    ·have:=(List.mem_filter.1 hmem).1
     show tln (lkB (entL C sp fs env).od s)=_
     rw[ye3 n1 this];exact hk
 ·rw[q] at hdr
  simp only[Bool.not_true,Bool.false_or] at hdr
  exact List.isEmpty_iff.1 hdr
theorem χ1_one (ξ:Nat->Bool) (s:Nat):χ1 ξ s 1=ξ s:=by simp[χ1]
variable {L:List AO} {Q:KS->Prop} {i:Nat}
theorem yyk (hC:CxOk P C) {Φ:List (Sp K)} (hS:SsOk P C Φ) {Ls:List (Sl K)} (hL:SLOk P C Ls) {o:AO} (e0:L[i]? =some o) (hg:gok o.guard ds.fr=true) (hγ:GM P C R ts χ ds) {f:FuncId} {us:List (TV K)} {vs:List AV} (ht:TL P C ts χ us vs) (ho:CalO o ds f vs) {sp:Sl K} {env:List (DV K)} {M:RM} {dr:Bool} {X:TS K→Prop}
  (hp:ykd C ts f us Ls=some (sp,env,M)) (h:ylg C Φ dr ts o.dst sp env M us X) (k:∀ts' χ' ds',GM P C R ts' χ' ds'->DOk ds'->X ts'->ts'.rg=ts.rg->WD P B N ro L (i+1) Q ds'):WD P B N ro L i Q ds:=by
 refine yxg (hs:=fun _=>false) e0 hg fun hk=> ?_
 obtain ⟨fs,out,hcl,hX,_,hks⟩:=yoa hC hS hL hγ hk ht hp h
 have fin:yfM P (.f f) vs (toD ds) fun v S'=>∃ds',S'.put o.dst v=toD ds'∧DOk ds'∧WD P B N ro L (i+1) Q ds':=by
  refine .inr (.inr ⟨f,_,rfl,hcl.lend,(hcl.con (toD ds).hp (toD ds).nx).mono fun av S1 hend=> ?_⟩)
  obtain ⟨htt,hend⟩:=yuQ hcl.hE hend
  obtain ⟨χ',a1,a2,⟨us,a3,a3'⟩,a4,a5,a6⟩:=hend
  have hce:=hcl.ce χ' htt a1 fun s b hs hb=>by rw[a2 s b hs hb,χ1_one]
  refine ⟨gOut (endT C sp (entL C sp fs env) out) χ' M (yal o.dst),gBs (endT C sp (entL C sp fs env) out) χ' M (yal o.dst),hce.oko a6,_,?_,hce.dok.put (d:=o.dst),k _ _ _ ((hce.gm fun s hs=>(hcl.h00 s).1 hs).put (hce.val hks a3)) hce.dok.put (by unfold aftL at hX;rw[a3] at hX;exact hX) ?_⟩
  ·rw[hce.bl (fun s hs=>(hcl.h00 s).1 hs) a6 a4 a5,ycs,a3']
  ·show (TS.put _ _ _).rg=_
   rw[yb2];rfl
 rcases ho with ⟨args,h1,h2⟩|⟨x,args,first,cap,h1,h2,h3⟩
 ·rw[h1];simp only[aop];rw[ycE,h2];exact fin
 ·rw[h1];simp only[aop];rw[ycE,h2];simp only;rw[h3];exact fin
end
section
variable {C:Cx K} {t:TS K}
theorem yBu {χ χ':Nat→Nat→Bool} (h:∀s c n,tln (t.tb s c)=some n→χ s c=χ' s c):∀u:TV K,aT C t χ u=aT C t χ' u
 |u=>(aT_chi2 h u)
where
 aT_chi2 {χ χ':Nat->Nat->Bool} (h:∀s c n,tln (t.tb s c)=some n->χ s c=χ' s c):∀u:TV K,aT C t χ u=aT C t χ' u
 | .rw s c=>by
   simp only[aT]
   cases hq:tln (t.tb s c) with
   |none=>rfl
   |some n=>simp only[h s c n hq]
 | .agg cs=>by simp only[aT,aTs_chi2 h cs]
 | .tup cs=>by simp only[aT,aTs_chi2 h cs]
 | .fn f a c=>by simp only[aT,aTs_chi2 h a,aTs_chi2 h c]
 | .cn _ v=>by simp only[aT,aT_chi2 h v]
 | .it _ _| .bl _| .st _| .sl _ _| .nil| .un| .px _ _ _| .lb _| .li _ _| .em| .pr _ _ _ _ _| .ep _ _ _ _| .gs _ _| .nptr| .fv _ _ _| .yl _=>by simp only[aT]
 aTs_chi2 {χ χ':Nat->Nat->Bool} (h:∀s c n,tln (t.tb s c)=some n->χ s c=χ' s c):∀us:List (TV K),aTs C t χ us=aTs C t χ' us
 | []=>rfl
 |u::us=>by simp only[aTs,aT_chi2 h u,aTs_chi2 h us]
theorem yww {χ χ':Nat→Nat→Bool} (h:∀s c n,tln (t.tb s c)=some n→χ s c=χ' s c) (us:List (TV K)):aTs C t χ us=aTs C t χ' us:=by
 rw[ycZ,ycZ]
 exact List.map_congr_left fun u _=>yBu h u
theorem yBv {χ χ':Nat→Nat→Bool} (h:∀s c n,tln (t.tb s c)=some n→χ s c=χ' s c) (b:TB K):bT C t χ b=bT C t χ' b:=by
 cases b<;>simp only[bT,yww h]
end
def chiD (t:TS K) (ξ:Nat->Bool) (s c:Nat):Bool:=decide (c=1)&&((lkB t.od s).isSome&&(Nat.ble 2000000 s&&ξ s))
section
variable {P:Program} {C:Cx K} {R:RR K} {ts:TS K} {χ:Nat->Nat->Bool} {ds:DS}
def effL (C:Cx K) (us:List (TV K)) (t:TS K) (χ':Nat→Nat→Bool) (M:RM) (d:Option Nat) (inn:List (Nat×K2)):REff:=
 let out:=gOut t χ' M (yal d);let f:=fun x c=>lkE out (x,c)
 ⟨reA f (ydJ (aTs C t χ' us)),inn.map (fun p=>(p.2,none))++(out.map fun p=>(p,Blk.re f (match lkB t.od p.1.1 with|some b=>bT C t χ' b|none=>⟨0,0,[]⟩))).map fun p=>(p.1.2,some p.2),gBs t χ' M (yal d),none⟩
theorem yym (hC:CxOk P C) {Φ:List (Sp K)} (hS:SsOk P C Φ) {Ls:List (Sl K)} (hL:SLOk P C Ls) {LD:List (AO×List Nat)} {QD:St→Prop} {i:Nat} {acc:List Foot} {o:AO} {fre:List Nat} (e0:LD[i]? =some (o,fre)) (hg:gok o.guard ds.fr=true) (hγ:GM P C R ts χ ds) (hk:DOk ds)
  {f:FuncId} {us:List (TV K)} {vs:List AV} (ht:TL P C ts χ us vs) (ho:CalO o ds f vs) {sp:Sl K} {env:List (DV K)} {M:RM} {X:TS K->Prop} (hp:ykd C ts f us Ls=some (sp,env,M)) (h:ylg C Φ true ts o.dst sp env M us X)
  (k:∀e ts' χ' ds',(∀q∈e.mem.map (·.1),q∈plcs sp o.dst M)->e.H=none->(∀s∈e.bump,(s,2)∈plcs sp o.dst M)->GM P C R ts' χ' ds'->DOk ds'->X ts'->ts'.rg=ts.rg->ykI (yc1 o.op (toD ds) e) acc fre/\DD P LD (i+1) (acc++ [yc1 o.op (toD ds) e]) QD ds'):DD P LD i acc QD ds:=by
 obtain ⟨fs,out,hcl,hX,hrw,hks⟩:=yoa hC hS hL hγ hk ht hp h
 have hrw:=hrw rfl
 obtain ⟨o1,o2,o3,o4,o5,o6⟩:=ypR hcl.hE
 refine yu6 e0 hg fun _=> ?_
 have htt:=yyB (C:=C) (fs:=fs) hcl.hE hcl.wo
 have hrn:∀s c m,tln ((endT C sp (entL C sp fs env) out).tb s c)=some m→c=1∧2000000≤s∧∃e l,lkB (endT C sp (entL C sp fs env) out).od s=some (.row e l)∧lkB (entL C sp fs env).od s=some (.row e l):=by
  intro s c m hm
  cases hq:(endT C sp (entL C sp fs env) out).tb s c with
  |none=>rw[hq] at hm;cases hm
  | some b=>
    have hc:c=1:=by
     rcases tb_c hq with e|e
     ·exact e
     ·subst e;cases hq
    subst hc
    have hmem:=yhU (show lkB (endT C sp (entL C sp fs env) out).od s=some b from hq)
    have hl:=show lkB (endT C sp (entL C sp fs env) out).od s=some b from hq
    rw[hq] at hm
    have hod:(endT C sp (entL C sp fs env) out).od=(bdB C [] sp.te.bx (bdS C [] sp.te.ks out).2).1++((entL C sp fs env).od.filter fun x=>ye9 sp.kp x.1&&isBx x.2)++endR C sp out++(entL C sp fs env).od.filter fun x=>ye9 sp.kp x.1&& !isBx x.2:=rfl
    rw[hod] at hmem
    simp only[List.mem_append] at hmem
    rcases hmem with ((hmem|hmem)|hmem)|hmem
    ·obtain ⟨_,_,e⟩:=yrO (C:=C) (rg:= []) sp.te.bx (bdS C [] sp.te.ks out).2 _ hmem
     have e:some b=_:=e
     rw[e] at hm;cases hm
    ·have:=(List.mem_filter.1 hmem).2
     simp only[Bool.and_eq_true] at this
     cases b<;>first|(cases hm;done)|(cases this.2;done)
    ·unfold endR at hmem
     rw[hrw] at hmem
     simp[bdR] at hmem
    ·have hm0:=(List.mem_filter.1 hmem).1
     have hn:s∈tiN sp:=(hcl.h00 s).1 (List.mem_map_of_mem (f:=(·.1)) hm0)
     have hl0:=ye3 hcl.n1 hm0
     refine ⟨rfl,o3 s hn,?_⟩
     rcases htt.ent _ (yhU hl) with ⟨⟨e,l,x,_,_,e3⟩,_⟩|⟨⟨e,l,e3⟩,_⟩
     ·have e3:some b=_:=e3
      rw[e3] at hm;cases hm
     ·have e3:some b=_:=e3
      exact ⟨e,l,by rw[hl,e3],by rw[hl0,e3]⟩
 have hvi:ViOk (endT C sp (entL C sp fs env) out) (chiD (endT C sp (entL C sp fs env) out) (xiM χ M)):=by
  intro s c hx
  simp only[chiD,Bool.and_eq_true,decide_eq_true_eq] at hx
  obtain ⟨rfl,h1,h2,h3⟩:=hx
  obtain ⟨e,he⟩:=hcl.xi s h3
  obtain ⟨b,hb⟩:=Option.isSome_iff_exists.1 h1
  have h2:=Nat.le_of_ble_eq_true h2
  refine ⟨e,?_⟩
  show lkB (endT C sp (entL C sp fs env) out).od s=_
  rcases htt.ent _ (yhU hb) with ⟨_,e4⟩|⟨⟨e',l,e3⟩,e4⟩
  ·
   exfalso
   have hti:s∈sp.ti.bx.map (·.1):=by
    obtain ⟨k',hk',e5⟩:=List.mem_map.1 e4
    have e5:k'.1=s:=e5
    rcases List.mem_append.1 (show k'∈sp.te.bx++sp.kbx from hk') with hk'|hk'
    ·have hok:=hcl.hE
     simp only[okS,okN,Bool.and_eq_true] at hok
     exact yrM hok.1.1.1.1.2 s (by rw[<-e5];exact List.mem_map_of_mem (f:=(·.1)) hk') h2
    ·rw[<-e5];exact List.mem_map_of_mem (f:=(·.1)) (List.mem_filter.1 hk').1
   obtain ⟨e6,cs,e7⟩:=yzz (C:=C) (rg:= []) (hh:= []) o6 o1 hti
   have he':lkB (bdT C sp.ti [] [] env).od s=_:=he
   rw[e7] at he';cases he'
  ·have e3:some b=_:=e3
   rw[hb,e3]
   obtain ⟨_,_,e8,l8,q1,q2⟩:=hrn s 1 l.length (by show tln (lkB (endT C sp (entL C sp fs env) out).od s)=_;rw[hb,e3];rfl)
   rw[he] at q2
   rw[hb,e3] at q1
   rw[q1,<-q2]
 have hlv:∀s b,2000000≤s→(endT C sp (entL C sp fs env) out).tb s 1=some b→chiD (endT C sp (entL C sp fs env) out) (xiM χ M) s 1=xiM χ M s:=by
  intro s b hs hb
  have hb':lkB (endT C sp (entL C sp fs env) out).od s=some b:=hb
  unfold chiD
  rw[hb',Nat.ble_eq_true_of_le hs]
  simp
 have hce:=hcl.ce _ htt hvi hlv
 have hend:∀av S1,EndL C sp (entL C sp fs env) (χ1 (xiM χ M)) out (toD ds).hp (toD ds).nx av S1→(∃us,ydX (endT C sp (entL C sp fs env) out) sp.res=some us∧av=ydJ (aTs C (endT C sp (entL C sp fs env) out) (chiD (endT C sp (entL C sp fs env) out) (xiM χ M)) us))∧S1.hp=(toD ds).hp∧S1.nx=(toD ds).nx∧
   ∀s b,lkB (endT C sp (entL C sp fs env) out).od s=some b->chiD (endT C sp (entL C sp fs env) out) (xiM χ M) s 1=false->S1.M (.l s 1)=some (bT C (endT C sp (entL C sp fs env) out) (chiD (endT C sp (entL C sp fs env) out) (xiM χ M)) b):=by
  intro av S1 hend
  obtain ⟨_,χ',a1,a2,⟨us,a3,a3'⟩,a4,a5,a6⟩:=yuQ hcl.hE hend
  have agr:∀s c n,tln ((endT C sp (entL C sp fs env) out).tb s c)=some n→χ' s c=chiD (endT C sp (entL C sp fs env) out) (xiM χ M) s c:=by
   intro s c n hn
   obtain ⟨rfl,hs,e,l,q1,_⟩:=hrn s c n hn
   rw[a2 s _ hs (show (endT C sp (entL C sp fs env) out).tb s 1=some _ from q1),χ1_one,hlv s _ hs (show (endT C sp (entL C sp fs env) out).tb s 1=some _ from q1)]
  refine ⟨⟨us,a3,by rw[a3',yww agr]⟩,a4,a5,fun s b hb hx=> ?_⟩
  rw[<-yBv agr]
  refine a6 s b hb ?_
  rcases htt.ent _ (yhU hb) with ⟨⟨e,l,x,_,_,e3⟩,_⟩|⟨⟨e,l,e3⟩,_⟩
  ·cases hq:χ' s 1 with
   |false=>rfl
   | true=>
     obtain ⟨e',he⟩:=a1 s 1 hq
     have he':lkB (endT C sp (entL C sp fs env) out).od s=_:=he
     have e3:some b=_:=e3
     rw[hb,e3] at he';cases he'
  ·have e3:some b=_:=e3
   rw[agr s 1 l.length (by show tln (lkB (endT C sp (entL C sp fs env) out).od s)=_;rw[hb,e3];rfl)]
   exact hx
 let t:=endT C sp (entL C sp fs env) out
 let χd:=chiD t (xiM χ M)
 let inn:=innM (rhoM χ M) (entL C sp fs env).od
 let e:REff:=effL C ((ydX t sp.res).getD []) t χd M o.dst inn
 let outB:List ((K2×K2)×Blk):=(gOut t χd M (yal o.dst)).map fun p=>(p,Blk.re (fun x c=>lkE (gOut t χd M (yal o.dst)) (x,c)) (match lkB t.od p.1.1 with|some b=>bT C t χd b|none=>⟨0,0,[]⟩))
 have hfst:outB.map (·.1)=gOut t χd M (yal o.dst):=by
  show ((gOut t χd M (yal o.dst)).map _).map _=_
  rw[List.map_map]
  exact (List.map_congr_left (fun _ _=>rfl)).trans (List.map_id _)
 have hblk:∀ {S1:St},(∀s b,lkB t.od s=some b→χd s 1=false→S1.M (.l s 1)=some (bT C t χd b))→∀p∈outB,(S1.M (.l p.1.1.1 p.1.1.2)).map (Blk.re fun d c=>lkE (outB.map (·.1)) (d,c))=some p.2:=by
  intro S1 hS p hp
  obtain ⟨q,hq,rfl⟩:=List.mem_map.1 hp
  have e1:=hce.out1 hq
  have hq':((q.1.1,1),q.2)∈gOut t χd M (yal o.dst):=by rw[<-e1];exact hq
  obtain ⟨a,b,_⟩:=hce.go.1 hq'
  obtain ⟨y,hy,ey⟩:=List.mem_map.1 a
  obtain ⟨b0,_,e3⟩:=hce.tsome hy
  rw[ey] at e3
  have:=hS _ b0 e3 b
  show (S1.M (.l q.1.1 q.1.2)).map _=some (Blk.re _ (match lkB t.od q.1.1 with|some b=>bT C t χd b|none=>⟨0,0,[]⟩))
  rw[show q.1.2=1 from e1,this,hfst,show lkB t.od q.1.1=some b0 from e3]
  rfl
 have hE:ymB P (.f f) vs (toD ds) e:=by
  refine .inr (.inr ⟨f,inn,outB,rfl,hcl.lend,rfl,rfl,(hcl.con (toD ds).hp (toD ds).nx).mono fun av S1 hrun=> ?_⟩)
  obtain ⟨⟨us,a0,a1⟩,a2,a3,a4⟩:=hend av S1 hrun
  refine ⟨by rw[hfst];exact hce.oko a4,by rw[hfst,a1];show _=reA _ (ydJ (aTs C t χd ((ydX t sp.res).getD [])));rw[show ydX t sp.res=some us from a0];rfl,a2,a3,hblk a4⟩
 let Sf:St:=⟨(toD ds).fr,fun k=>match k with| .h x=>(toD ds).M (.h x)| .l s c=>if c=1 then (lkB t.od s).map (bT C t χd) else none,(toD ds).cnt,(toD ds).nx⟩
 have hSf:∀s b,lkB t.od s=some b→χd s 1=false→Sf.M (.l s 1)=some (bT C t χd b):=by
  intro s b hb _
  show (if (1:Nat)=1 then (lkB t.od s).map (bT C t χd) else none)=_
  rw[if_pos rfl,hb];rfl
 have hmst:e.mst (toD ds)=toD (gDs C t χd inn (gOut t χd M (yal o.dst)) ds):=by
  have h1:=yq4 (S:=toD ds) (S1:=Sf) (inn:=inn) (out:=outB) (e:=e) rfl rfl rfl rfl (by rw[hfst];exact hce.on2) (hblk hSf)
  rw[hfst] at h1
  rw[<-h1]
  exact hce.bl (fun s hs=>(hcl.h00 s).1 hs) hSf rfl rfl
 have hpl:∀q∈e.mem.map (·.1),q∈plcs sp o.dst M:=by
  have lent:∀ {s:Nat} {q:Nat×Nat},2000000≤s→plQ M (yal o.dst) s=some q→q∈plcs sp o.dst M:=by
   intro s q hb hq
   rcases hce.big' hb hq with e|⟨_,e⟩
   ·exact List.mem_append_left _ (List.mem_append_left _ (yeL e))
   ·exact List.mem_append_left _ (List.mem_append_right _ (yeN e))
  intro q hq
  obtain ⟨x,hx,rfl⟩:=List.mem_map.1 hq
  rcases List.mem_append.1 (show x∈inn.map (fun p=>(p.2,none))++outB.map (fun p=>(p.1.2,some p.2)) from hx) with hx|hx
  ·obtain ⟨p,hp,rfl⟩:=List.mem_map.1 hx
   obtain ⟨s,hs,_,hq⟩:=hce.innp (fun s hs=>(hcl.h00 s).1 hs) (List.mem_map_of_mem (f:=(·.2)) hp)
   exact lent (hce.big s hs) hq
  ·obtain ⟨p,hp,rfl⟩:=List.mem_map.1 hx
   obtain ⟨y,hy,rfl⟩:=List.mem_map.1 hp
   have e1:=hce.out1 hy
   have hy':((y.1.1,1),y.2)∈gOut t χd M (yal o.dst):=by rw[<-e1];exact hy
   obtain ⟨a,_,c⟩:=hce.go.1 hy'
   by_cases hb:2000000<=y.1.1
   ·exact lent hb c
   ·rw[ycw hb] at c
    have c:=Option.some.inj c
    show y.2∈_
    rw[<-c]
    refine List.mem_append_right _ (List.mem_map.2 ⟨y.1.1,?_,rfl⟩)
    exact hce.newm a hb
 have hbs:∀s∈e.bump,(s,2)∈plcs sp o.dst M:=by
  intro s hs
  obtain ⟨p,hp,rfl⟩:=List.mem_map.1 (show s∈((innM (goL t χd M (yal o.dst)) t.od).filter fun p=> !Nat.ble 2000000 p.1).map fun p=>p.2.1 from hs)
  obtain ⟨hp1,hp2⟩:=List.mem_filter.1 hp
  have hb:¬2000000<=p.1:=fun q=>by rw[Nat.ble_eq_true_of_le q] at hp2;cases hp2
  have hm:((p.1,1),p.2)∈gOut t χd M (yal o.dst):=List.mem_map.2 ⟨p,hp1,rfl⟩
  obtain ⟨a,_,c⟩:=hce.go.1 hm
  rw[ycw hb] at c
  have c:=Option.some.inj c
  rw[<-c]
  exact List.mem_append_right _ (List.mem_map.2 ⟨p.1,hce.newm a hb,rfl⟩)
 obtain ⟨k1,k2⟩:=k e _ _ _ hpl rfl hbs ((hce.gm fun s hs=>(hcl.h00 s).1 hs).put (hce.val' hks)) (hce.dok.put (d:=o.dst)) hX (by show (TS.put _ _ _).rg=_;rw[yb2];rfl)
 have fin:∀K:REff→Prop,K e→eop (fun _=>false) P o.op o.dst (toD ds) K:=by
  intro K hK
  rcases ho with ⟨args,h1,h2⟩|⟨x,args,first,cap,h1,h2,h3⟩
  ·rw[h1];simp only[eop];rw[ycE,h2];exact ⟨_,hE,hK⟩
  ·rw[h1];simp only[eop];rw[ycE,h2];simp only;rw[h3];exact ⟨_,hE,hK⟩
 apply fin
 refine And.intro k1 ?_
 rw[show e.app o.dst (toD ds)=toD ((gDs C t χd inn (gOut t χd M (yal o.dst)) ds).put o.dst e.v) by unfold REff.app;rw[hmst,ycs]]
 exact k2 (hce.dok.put (d:=o.dst))
end
end Go.AV
end
