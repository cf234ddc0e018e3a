/- General texts and own ones, joined: what the program computes, told of abstract states, and the laws of plain data. No condition. -/
import Derived.Test.YtecfpoklnfaihaaMd
import Derived.Test.YtecfpoklnfaihaaRows
import Derived.Test.YtecfpoklnfaihaaMa
import Derived.Test.YtecfpoklnfaihaaMc
import Derived.KernelRfl
noncomputable section
namespace Go.AV
open Go.RowKit Go.RG Go.Lib
variable {K:Nat->Type}
section
variable {P:Program} {C:Cx K} {R:RR K} {ts ts1:TS K} {χ:Nat->Nat->Bool} {ds:DS} {B:Base} [GB P B] {N:Nat} {ro:Option Nat}
theorem yii (p:Nat×TV K) (r:List (Nat×TV K)) (t:Nat):lkR (p::r) t=if p.1=t then some p.2 else lkR r t:=by
 show (match Nat.beq p.1 t with|true=>some p.2|false=>lkR r t)=_
 cases h:Nat.beq p.1 t with
 |true=>simp[nbeq.1 h]
 |false=>simp only;rw[if_neg (fun e=>by rw[nbeq.2 e] at h;cases h)]
theorem ExtR.refl {rg:List (Nat×TV K)}:ExtR rg rg:=fun _ _ h=>h
theorem ExtR.trans {a b c:List (Nat×TV K)} (h:ExtR a b) (k:ExtR b c):ExtR a c:=fun id w q=>k id w (h id w q)
def Same (ts ts':TS K):Prop:=ts'.od=ts.od/\ts'.nw=ts.nw
theorem yis:∀(k:Kd) (v:TV K) (rg:List (Nat×TV K)),ExtR rg (tagV k v rg).2
 | .kp id,v,rg=>by
   simp only[tagV]
   split
   ·rename_i h1 h2
    intro id' w h
    rw[yii]
    split
    ·rename_i e;simp only at e;subst e;rw[h2] at h;cases h
    ·exact h
   ·exact .refl
 | .agg l,v,rg=>by
   cases v with
   | agg vs=>
     simp only[tagV]
     exact tagVs_ext l vs rg
   |_=>exact .refl
 | .it _,v,rg=> .refl
 | .bl,v,rg=> .refl
 | .st,v,rg=> .refl
 | .sl _,v,rg=> .refl
 | .v _,v,rg=> .refl
 | .row _,v,rg=> .refl
 | .px _ _,v,rg=> .refl
 | .nil,v,rg=> .refl
 | .np,v,rg=> .refl
 | .fn _ _ _,v,rg=> .refl
 | .un,v,rg=> .refl
where tagVs_ext:∀(l:List Kd) (vs:List (TV K)) (rg:List (Nat×TV K)),ExtR rg (yhs l vs rg).2
 | [],vs,rg=> .refl
 |k::l,[],rg=> .refl
 | k::l,v::vs,rg=>by
   simp only[yhs]
   exact (yis k v rg).trans (tagVs_ext l vs _)
theorem Mono.same {ts ts':TS K} (hs:Same ts ts') (hx:ExtR ts.rg ts'.rg):Mono ts ts' χ χ:=by
 have ht:∀s c,ts'.tb s c=ts.tb s c:=by intro s c;unfold TS.tb;rw[hs.1,hs.2]
 refine ⟨hx,fun s c h=> ?_,fun s c _=> .inr ⟨by rw[ht],rfl⟩⟩
 rcases h with h|⟨h1,h2⟩
 ·exact .inl h
 ·exact .inr ⟨h1,by rw[hs.2];exact h2⟩
mutual
theorem ywr:∀(k:Kd) (v:TV K) (rg:List (Nat×TV K)) (a:AV) (ts':TS K),TR P C ts χ v a→Mono ts ts' χ χ→ExtR (tagV k v rg).2 ts'.rg→TR P C ts' χ (tagV k v rg).1 a
 | .kp id,v,rg,a,ts',h,hm,hx=>by
   simp only[tagV] at hx⊢
   split
   ·rename_i h1 h2
    rw[h1,h2] at hx
    exact .cn id v a (hx id v (by rw[yii];simp)) h1 (h.noref h1).1
   ·exact h.mono hm
 | .agg l, .agg vs,rg,a,ts',h,hm,hx=>by
   simp only[tagV] at hx⊢
   obtain ⟨az,rfl,t1,t2⟩:=h.agg'
   have:=ypw l vs rg az ts' ⟨t1,t2⟩ hm hx
   exact .agg _ _ this.1 this.2
 | .agg l, .un,rg,a,ts',h,hm,hx=>h.mono hm
 | .agg l, .lb b,rg,a,ts',h,hm,hx=>h.mono hm
 | .agg l, .bl b,rg,a,ts',h,hm,hx=>h.mono hm
 | .agg l, .li k n,rg,a,ts',h,hm,hx=>h.mono hm
 | .agg l, .it k n,rg,a,ts',h,hm,hx=>h.mono hm
 | .agg l, .st s,rg,a,ts',h,hm,hx=>h.mono hm
 | .agg l, .tup s,rg,a,ts',h,hm,hx=>h.mono hm
 | .agg l, .nil,rg,a,ts',h,hm,hx=>h.mono hm
 | .agg l, .em,rg,a,ts',h,hm,hx=>h.mono hm
 | .agg l, .sl _ _,rg,a,ts',h,hm,hx=>h.mono hm
 | .agg l, .rw _ _,rg,a,ts',h,hm,hx=>h.mono hm
 | .agg l, .px _ _ _,rg,a,ts',h,hm,hx=>h.mono hm
 | .agg l, .pr _ _ _ _ _,rg,a,ts',h,hm,hx=>h.mono hm
 | .agg l, .ep _ _ _ _,rg,a,ts',h,hm,hx=>h.mono hm
 | .agg l, .gs _ _,rg,a,ts',h,hm,hx=>h.mono hm
 | .agg l, .nptr,rg,a,ts',h,hm,hx=>h.mono hm
 | .agg l, .fn _ _ _,rg,a,ts',h,hm,hx=>h.mono hm
 | .agg l, .fv _ _ _,rg,a,ts',h,hm,hx=>h.mono hm
 | .agg l, .yl _,rg,a,ts',h,hm,hx=>h.mono hm
 | .agg l, .cn _ _,rg,a,ts',h,hm,hx=>h.mono hm
 | .it _,v,rg,a,ts',h,hm,hx=>h.mono hm
 | .bl,v,rg,a,ts',h,hm,hx=>h.mono hm
 | .st,v,rg,a,ts',h,hm,hx=>h.mono hm
 | .sl _,v,rg,a,ts',h,hm,hx=>h.mono hm
 | .v _,v,rg,a,ts',h,hm,hx=>h.mono hm
 | .row _,v,rg,a,ts',h,hm,hx=>h.mono hm
 | .px _ _,v,rg,a,ts',h,hm,hx=>h.mono hm
 | .nil,v,rg,a,ts',h,hm,hx=>h.mono hm
 | .np,v,rg,a,ts',h,hm,hx=>h.mono hm
 | .fn _ _ _,v,rg,a,ts',h,hm,hx=>h.mono hm
 | .un,v,rg,a,ts',h,hm,hx=>h.mono hm
theorem ypw:∀(l:List Kd) (vs:List (TV K)) (rg:List (Nat×TV K)) (az:List AV) (ts':TS K),TL P C ts χ vs az→Mono ts ts' χ χ→ExtR (yhs l vs rg).2 ts'.rg→TL P C ts' χ (yhs l vs rg).1 az
 | [],vs,rg,az,ts',h,hm,hx=>h.mono hm
 |k::l,[],rg,az,ts',h,hm,hx=>h.mono hm
 | k ::l,v::vs,rg,az,ts',h,hm,hx=>by
   cases az with
   |nil=>simp[TL] at h
   | cons a az=>
     simp only[yhs] at hx⊢
     exact .cons (ywr k v rg a ts' h.head.1 hm ((yis.tagVs_ext l vs _).trans hx)) (ypw l vs _ az ts' h.head.2 hm hx)
end
theorem yoo:∀(l:List (Nat×Kd)) (ts:TS K),ExtR ts.rg (tagS l ts).rg∧(tagS l ts).nw=ts.nw∧(tagS l ts).h=ts.h
 | [],ts=>⟨.refl,rfl,rfl⟩
 | p::l,ts=>by
   simp only[tagS]
   have:=yoo l ⟨(p.1,(tagV p.2 (lkT ts.fr p.1) ts.rg).1)::ts.fr,ts.od,ts.nw,(tagV p.2 (lkT ts.fr p.1) ts.rg).2,ts.h⟩
   exact ⟨(yis _ _ _).trans this.1,this.2.1,this.2.2⟩
theorem yv8:∀(l:List (Nat×Kd)) (ts:TS K),GM P C R ts χ ds→GM P C R (tagS l ts) χ ds
 | [],ts,h=>h
 | p::l,ts,h=>by
   simp only[tagS]
   refine yv8 l _ ?_
   have hm:Mono ts ⟨(p.1,(tagV p.2 (lkT ts.fr p.1) ts.rg).1)::ts.fr,ts.od,ts.nw,(tagV p.2 (lkT ts.fr p.1) ts.rg).2,ts.h⟩ χ χ:=Mono.same ⟨rfl,rfl⟩ (yis _ _ _)
   refine ⟨fun t=> ?_,fun s c b hb hx=> ?_,h.vi,h.nw,h.hp,h.lv⟩
   ·show TR P C _ χ (lkT ((p.1,_)::ts.fr) t) _
    rw[ycn]
    split
    ·rename_i e;rw[<-e];exact ywr p.2 _ ts.rg _ _ (h.fr p.1) hm .refl
    ·exact (h.fr t).mono hm
   ·obtain ⟨kb,h1,h2⟩:=h.mb s c b hb hx
    exact ⟨kb,h1,h2.mono hm⟩
theorem ypT:∀(l:List Kd) (vs:List (TV K)) (rg:List (Nat×TV K)),(yhs l vs rg).1.length=vs.length
 | [],vs,rg=>rfl
 |k::l,[],rg=>rfl
 |k::l,v::vs,rg=>by simp only[yhs,List.length_cons,ypT l vs]
theorem ylN:∀(l:List (Nat×Nat×List Kd)) (ts:TS K),ExtR ts.rg (tagB l ts).rg∧(tagB l ts).nw=ts.nw∧(tagB l ts).h=ts.h
 | [],ts=>⟨.refl,rfl,rfl⟩
 | p::l,ts=>by
   simp only[tagB]
   split
   ·rename_i e cs hb
    have:=ylN l ⟨ts.fr,(p.1,some (.box e (yhs p.2.2 cs ts.rg).1))::ts.od,ts.nw,(yhs p.2.2 cs ts.rg).2,ts.h⟩
    exact ⟨(yis.tagVs_ext _ _ _).trans this.1,this.2.1,this.2.2⟩
   ·exact ylN l ts
theorem yrZ:∀(l:List (Nat×Nat×List Kd)) (ts:TS K),GM P C R ts χ ds→GM P C R (tagB l ts) χ ds
 | [],ts,h=>h
 | p ::l,ts,h=>by
   simp only[tagB]
   split
   ·rename_i e cs hb
    refine yrZ l _ ?_
    have htb:∀s c,(⟨ts.fr,(p.1,some (.box e (yhs p.2.2 cs ts.rg).1))::ts.od,ts.nw,(yhs p.2.2 cs ts.rg).2,ts.h⟩:TS K).tb s c=if s=p.1/\c=1 then some (.box e (yhs p.2.2 cs ts.rg).1) else ts.tb s c:=fun s c=>ycD ts p.1 1 (some (.box e (yhs p.2.2 cs ts.rg).1)) (.inl rfl) s c
    have hbx:ts.tb p.1 1=some (.box e cs):=hb
    have hm:Mono ts ⟨ts.fr,(p.1,some (.box e (yhs p.2.2 cs ts.rg).1))::ts.od,ts.nw,(yhs p.2.2 cs ts.rg).2,ts.h⟩ χ χ:=by
     refine ⟨yis.tagVs_ext _ _ _,fun s c q=>q,fun s c _=> .inr ⟨?_,rfl⟩⟩
     rw[htb]
     split
     ·rename_i q;obtain ⟨rfl,rfl⟩:=q;rw[hbx];rfl
     ·rfl
    refine ⟨fun t=>(h.fr t).mono hm,fun s c b hb' hx=> ?_,fun s c hx=> ?_,h.nw,h.hp,fun s b q e=> ?_⟩
    rotate_right
    ·rw[htb] at e
     split at e
     ·rename_i q';obtain ⟨rfl,_⟩:=q';exact h.lv _ _ q hbx
     ·exact h.lv s b q e
    ·rw[htb] at hb'
     split at hb'
     ·rename_i q
      obtain ⟨rfl,rfl⟩:=q
      cases hb'
      obtain ⟨kb,h1,h2⟩:=h.mb _ _ _ hbx hx
      refine ⟨kb,h1,?_⟩
      have t:=ypw (P:=P) (C:=C) (ts:=ts) (χ:=χ) p.2.2 cs ts.rg kb.cells _ ⟨h2.2.2.1,h2.2.2.2⟩ hm .refl
      exact ⟨h2.1,by rw[ypT];exact h2.2.1,t.1,t.2⟩
     ·obtain ⟨kb,h1,h2⟩:=h.mb s c b hb' hx
      exact ⟨kb,h1,h2.mono hm⟩
    ·obtain ⟨e',h1⟩:=h.vi s c hx
     refine ⟨e',?_⟩
     rw[htb]
     split
     ·rename_i q;obtain ⟨rfl,rfl⟩:=q;rw[hbx] at h1;cases h1
     ·exact h1
   ·exact yrZ l ts h
theorem ypD {τ:Tm} (h:GM P C R ts χ ds):GM P C R (tagT τ ts) χ ds:=yrZ _ _ (yv8 _ _ h)
theorem yeJ (τ:Tm) (ts:TS K):ExtR ts.rg (tagT τ ts).rg:=(yoo τ.ks ts).1.trans (ylN τ.bx _).1
def curC:(cs:List CT)→(List (DV K)→Prop)→Cur K Prop cs
 | [],p=>p []
 |_::cs,p=>fun x=>curC cs fun env=>p (inC _ x::env)
theorem yAF (c:CT) (x:CTy K c):outC c (inC c x)=some x:=by
 cases c with
 |l e=>exact dif_pos rfl
 |v t=>exact dif_pos rfl
 |i=>rfl
 |b=>rfl
 |s=>rfl
theorem yA7 {x:DV K} {n:Int} (h:outI x=some n): .i n=x:=by
 cases x<;>first|(cases h;rfl)|(cases h;done)
theorem yxG {x:DV K} {n:Bool} (h:yAz x=some n): .b n=x:=by
 cases x<;>first|(cases h;rfl)|(cases h;done)
theorem yBg {x:DV K} {n:Str} (h:outS x=some n): .s n=x:=by
 cases x<;>first|(cases h;rfl)|(cases h;done)
theorem yBf {e:Nat} {x:DV K} {l:List (K e)} (h:outL e x=some l): .l e l=x:=by
 cases x with
 |l e' l'=>obtain ⟨rfl,rfl⟩:=ye5 h;rfl
 |_=>cases h
theorem yAb {t:Nat} {x:DV K} {y:K t} (h:outT t x=some y): .v t y=x:=by
 cases x with
 | v t' y'=>
   simp only[outT] at h
   split at h
   ·rename_i e;subst e;cases h;rfl
   ·cases h
 |_=>cases h
theorem yAX {c:CT} {x:DV K} {y:CTy K c} (h:outC c x=some y):inC c y=x:=by
 cases c with
 |l e=>exact yBf h
 |v t=>exact yAb h
 |i=>exact yA7 h
 |b=>exact yxG h
 |s=>exact yBg h
theorem ysM:∀(cs:List CT) (p:List (DV K)→Prop) (env:List (DV K)),apC False cs (curC cs p) env→p env
 | [],p,[],h=>h
 | [],p,_::_,h=>h.elim
 |c::cs,p,[],h=>h.elim
 | c::cs,p,x::env,h=>by
   simp only[apC] at h
   split at h
   ·rename_i y hy
    have:=ysM cs _ env h
    rw[yAX hy] at this;exact this
   ·exact h.elim
theorem yov:∀(cs:List CT) (p:List (DV K)→Prop) (q:List (DV K)→Prop),(∀env,q env→p env)→allC cs fun env=>q env→apC False cs (curC cs p) env
 | [],p,q,h=>fun hq=>h [] hq
 | c::cs,p,q,h=>fun x=>by
   have:=yov cs (fun env=>p (inC c x::env)) (fun env=>q (inC c x::env)) (fun env=>h _)
   show allC cs fun env=>q (inC c x::env)->(match outC c (inC c x) with|some y=>apC False cs (curC (c::cs) p y) env|none=>False)
   rw[yAF]
   exact this
variable (P C R) in
def Kq (rg:List (Nat×TV K)) (Q:AEx->TS K->Prop) (e:AEx) (ks:KS):Prop:=KOk ks/\∃ts χ,GM P C R ts χ (ofK ks)/\ExtR rg ts.rg/\Q e ts
theorem Kq.mono {rg rg':List (Nat×TV K)} {Q:AEx→TS K→Prop} {e:AEx} {ks:KS} (h:Kq P C R rg Q e ks) (hx:ExtR rg' rg):Kq P C R rg' Q e ks:=by
 obtain ⟨a,ts,χ,b,c,d⟩:=h
 exact ⟨a,ts,χ,b,hx.trans c,d⟩
theorem yzB (C:Cx K) (ts:TS K) (s:Nat):(fz C ts s).rg=ts.rg:=by unfold fz;split<;>rfl
theorem fz_h (C:Cx K) (ts:TS K) (s:Nat):(fz C ts s).h=ts.h:=by unfold fz;split<;>rfl
theorem ExtR.eq {a b:List (Nat×TV K)} (h:b=a):ExtR a b:=h▸ .refl
theorem yvH (C:Cx K):∀(n:Nat) (vs:List (TV K)) (ts:TS K),(fzA C n vs ts).rg=ts.rg
 |0,_,_=>rfl
 | n+1,vs,ts=>by
   simp only[fzA]
   split
   ·rfl
   ·split
    ·rw[yzB,yvH C n]
    ·rw[yzB]
theorem yvx (C:Cx K) (fr:List (Nat×TV K)):∀(l:List (Nat×Kd)) (ts:TS K),(fzT C fr l ts).rg=ts.rg
 | [],_=>rfl
 | (t,k)::r,ts=>by
   cases k with
   | sl e=>
     simp only[fzT]
     rw[yvx C fr r]
     split
     ·rw[yzB]
     ·rfl
   |_=>simp only[fzT];exact yvx C fr r ts
theorem yyE (hB:yds B) (hC:CxOk P C) (f:TS K→List (TV K)):∀(l:List AOpd) (ts:TS K),REk P C R B N ts (l.foldl (fun ts x=>fzA C 9 [tea ts.fr x] ts) ts)∧(l.foldl (fun ts x=>fzA C 9 [tea ts.fr x] ts) ts).rg=ts.rg
 | [],ts=>⟨.refl,rfl⟩
 | x::l,ts=>by
   have _:=(inferInstance:GB P B)
   obtain ⟨a,b⟩:=yyE hB hC f l (fzA C 9 [tea ts.fr x] ts)
   exact ⟨(ytg hB hC _ _ _).trans a,by rw[List.foldl_cons,b,yvH]⟩
theorem yAK (hB:yds B) (hC:CxOk P C) {F:Cf K} (hF:F.C=C) {o:AO}:(frzA F o ts=ts∨REt P C R B N ts (frzA F o ts))∧(frzA F o ts).rg=ts.rg:=by
 have go:∀(args:List AOpd),REt P C R B N ts (args.foldl (fun ts x=>fzA F.C 9 [tea ts.fr x] ts) (er ts))∧(args.foldl (fun ts x=>fzA F.C 9 [tea ts.fr x] ts) (er ts)).rg=ts.rg:=by
  intro args
  rw[hF]
  obtain ⟨a,b⟩:=yyE (N:=N) hB hC (fun _=> []) args (er ts)
  exact ⟨(yAe hB hC).thenk a,b⟩
 unfold frzA frzs
 split
 ·exact ⟨.inl rfl,rfl⟩
 ·exact ⟨.inr (go _).1,(go _).2⟩
section
variable {L:List AO} {i:Nat}
theorem yCC (hB:yds B) {Q:KS→Prop} (h:REt P C R B N ts ts1) (hk:DOk ds) (hγ:GM P C R ts χ ds) (k:∀ks ξ,KOk ks→GM P C R ts1 ξ (ofK ks)→WD P B N ro L i Q (ofK ks)):WD P B N ro L i Q ds:=
 yCt fun _=>(h χ ds hk hγ).mono fun ks ⟨h1,ξ,h2⟩=>k ks ξ h1 h2
theorem yB9 {Q:KS→Prop} (e:L.drop i= []) (h:DOk ds→RE B N (toD ds) Q):WD P B N ro L i Q ds:=by
 have _:=(inferInstance:GB P B)
 intro ops pre suf he ht a G hR
 rw[e] at ht
 cases suf with
 | cons x suf=>
   simp only[yhF] at ht
   split at ht<;>cases ht
 | nil=>
   obtain ⟨ks1,G1,h1,h2,h3⟩:=h hR.2 a G hR.1
   simp only[List.length_nil,List.range'_zero,wpOpsIn]
   rw[<-h1]
   exact ⟨ks1,G1,h2,rfl,h3⟩
theorem ynW {g:Option (Nat×Bool)} {fr:List (Nat×AV)} {d:Nat} {b:Bool} (e:g=some (d,b)) (h:lkF fr d= .bl b):gok g fr=true:=by
 subst e;simp only[gok,h];cases b<;>rfl
theorem yn5 {g:Option (Nat×Bool)} {fr:List (Nat×AV)} {d:Nat} {b c:Bool} (e:g=some (d,b)) (h:lkF fr d= .bl c) (hn:c≠b):gno g fr=true:=by
 subst e;simp only[gno,h];cases b<;>cases c<;>first|rfl|exact absurd rfl hn
variable (P C R B N ro) in
def YOk (rY:Nat) (Y:Option (Nat×(Nat→Option (Nat×Bool)→AOpd→List AOpd→TS K→(Bool→TS K→Prop)→Prop))):Prop:=∀y,Y=some y→∀(L:List AO) (i:Nat) (o:AO) (x:AOpd) (args:List AOpd) (ts:TS K) (χ:Nat→Nat→Bool) (ds:DS) (X:Bool→TS K→Prop) (Q:KS→Prop),
 L[i]? =some o->gok o.guard ds.fr=true->o.op= .calv x args->GM P C R ts χ ds->DOk ds->lkR ts.rg y.1=some (.yl rY)->y.2 N o.guard x args ts X->
 (∀b ts' χ' ks',GM P C R ts' χ' (ofK ks')->KOk ks'->ExtR ts.rg ts'.rg->X b ts'->WD P B N ro L (i+1) Q ((ofK ks').put o.dst (.bl b)))->WD P B N ro L i Q ds
theorem yAZ (hB:yds B) (hC:CxOk P C) {F:Cf K} (hF:F.C=C) (hS:SsOk P C F.S) (hL:SLOk P C F.L) (hN:F.N=N) {rY:Nat} (hY:YOk P C R B N ro rY F.Y) {o:AO} {X:TS K→Prop} {Q:KS→Prop} (e0:L[i]? =some o) (hγ:GM P C R ts χ ds) (hk:DOk ds) (hg:gok o.guard ds.fr=true) (hYI:∀y,F.Y=some y→lkR ts.rg y.1=some (.yl rY)) (h:step F false o ts X)
  (k:∀ts' χ' ds',GM P C R ts' χ' ds'->DOk ds'->X ts'->ExtR ts.rg ts'.rg->WD P B N ro L (i+1) Q ds'):WD P B N ro L i Q ds:=by
 have calls:∀ {f:FuncId} {us:List (TV K)} {vs:List AV},TL P C ts χ us vs→CalO o ds f vs→yxj F.C F.S ts o.dst f us X→WD P B N ro L i Q ds:=by
  intro f us vs ht ho h
  rw[hF] at h
  obtain ⟨vs',kl,d1,v,ts',χ',c1,c2,c3,c4,c5,_,_⟩:=yo7 hC hS hγ hk ht ho h
  exact ytf e0 hg c1 (k ts' χ' _ c2 c3.put c4 (.eq c5))
 have callL:∀ {f:FuncId} {us:List (TV K)} {vs:List AV} {sp:Sl K} {env:List (DV K)} {M:RM},TL P C ts χ us vs→CalO o ds f vs→ykd F.C ts f us F.L=some (sp,env,M)→ylg F.C F.S false ts o.dst sp env M us X→WD P B N ro L i Q ds:=by
  intro f us vs sp env M ht ho hp h
  rw[hF] at h hp
  exact yyk hC hS hL e0 hg hγ ht ho hp h fun a b c d e f g=>k a b c d e f (.eq g)
 have rest:yrh o.op=true→step F true o ts X→WD P B N ro L i Q ds:=by
  intro hn h
  obtain ⟨e,ds',ts',χ',h1,h2,h3,h4,h5,h6⟩:=ytM hC hγ hk hF hn h
  have hc:isMC o.op=false:=by cases hop:o.op<;>rw[hop] at hn<;>first|rfl|(cases hn;done)
  exact WD_e e0 hg (fun _=>h1) hc (k ts' χ' ds' h4 h1.ok h5 (.eq h6))
 cases ho:o.op with
 | call f args=>
   unfold step at h;rw[ho] at h
   simp only at h
   split at h
   ·rename_i sp env M hp
    exact callL (TL.tea hγ args) (.inl ⟨args,ho,rfl⟩) hp h
   ·exact calls (TL.tea hγ args) (.inl ⟨args,ho,rfl⟩) h
 | calv x args=>
   unfold step at h;rw[ho] at h
   simp only at h
   have hx:=hγ.tev x
   split at h
   ·rename_i f a c ex
    rw[ex] at hx
    generalize hv:ev (lkF ds.fr) x=v at hx
    cases hx with
    | fn _ _ _ a' c' ha hc h1 h2=>
      split at h
      ·rename_i sp env M hp
       exact callL (((show TL P C ts χ a a' from ⟨ha,h1⟩).app (TL.tea hγ args)).app ⟨hc,h2⟩) (.inr ⟨x,args,a',c',ho,hv,rfl⟩) hp h
      ·exact calls (((show TL P C ts χ a a' from ⟨ha,h1⟩).app (TL.tea hγ args)).app ⟨hc,h2⟩) (.inr ⟨x,args,a',c',ho,hv,rfl⟩) h
   ·rename_i ps rs V ex
    rw[ex] at hx
    cases hx with
    | fv _ _ _ _ hV hv=>
      rw[hF] at h
      obtain ⟨f,vs,vs',kl,d1,w,ts',χ',c1,c2,c3,c4,c5,_⟩:=ys5 hC hγ hk hV ho rfl hv (TL.tea hγ args) h
      exact ytf e0 hg c1 (k ts' χ' _ c2 c3.put c4 (.eq c5))
   ·split at h
    ·rename_i id u y _ hu hy
     split at h
     ·rename_i hid
      rw[hN] at h
      refine hY y hy L i o x args ts χ ds _ Q e0 hg ho hγ hk (hYI y hy) h fun b ts' χ' ks' a1 a2 a3 a4=> ?_
      exact k _ χ' _ (a1.put (d:=o.dst) (TR.lb b)) (yhn a2).put a4 (by rw[yb2];exact a3)
     ·exact h.elim
    ·exact h.elim
   ·exact h.elim
 | len x=>
   cases hs:yCZ F.N x with
   | false=>
     refine rest (by rw[ho];rfl) ?_
     unfold step at h⊢;rw[ho] at h⊢
     simp only[hs] at h⊢
     exact h
   | true=>
     unfold step at h;rw[ho] at h
     simp only[hs,Bool.not_true,Bool.or_false] at h
     unfold tlen at h
     split at h
     ·rename_i e l ex
      have hx:=hγ.tev x
      rw[ex] at hx
      cases x with
      |c v=>cases hs
      | t n=>
        obtain ⟨z,xs,hxs,hv⟩:=hx.sli
        refine yCh (t:=n) (by rw[<-hN];exact Nat.le_of_ble_eq_true hs) hv fun hm=> ?_
        refine rest (by rw[ho];rfl) ?_
        unfold step;rw[ho]
        simp only[Bool.true_or]
        unfold tlen
        rw[ex]
        exact h hm
     ·rename_i ex
      refine rest (by rw[ho];rfl) ?_
      unfold step;rw[ho];simp only[Bool.true_or];unfold tlen;rw[ex];exact h
     ·rename_i ex
      refine rest (by rw[ho];rfl) ?_
      unfold step;rw[ho];simp only[Bool.true_or];unfold tlen;rw[ex];exact h
     ·rename_i s c ex
      refine rest (by rw[ho];rfl) ?_
      unfold step;rw[ho];simp only[Bool.true_or];unfold tlen;rw[ex];exact h
     ·exact h.elim
 | eq g kind x y=>
   have other:(match tqv ts (.eq g kind x y) with|some (cs,v)=>andL cs (X (ts.put o.dst v))|none=>False)→WD P B N ro L i Q ds:=by
    intro h
    refine rest (by rw[ho];rfl) ?_
    unfold step;rw[ho];simp only[teqn];exact h
   unfold step at h;rw[ho] at h
   simp only[teqn] at h
   split at h
   ·exact other h
   ·rename_i hk4
    have hk4:=Nat.eq_of_beq_eq_true hk4
    subst hk4
    have hx:=hγ.tev x
    have hy:=hγ.tev y
    split at h
    ·rename_i e l ex
     rw[ex] at hx
     split at h
     ·rename_i ey
      rw[ey] at hy
      obtain ⟨z,xs,hxs,hv⟩:=hx.sli
      generalize hw:ev (lkF ds.fr) y=w at hy
      cases hy
      refine yBQ e0 hg ho hv hw fun b hb=> ?_
      exact k _ χ _ (hγ.put (TR.bl _)) hk.put (h b fun q=>List.length_eq_zero_iff.1 (hb q)) (.eq (yb2 _ _ _))
     ·exact other h
    ·exact other h
 | _=>
   refine rest (by rw[ho];rfl) ?_
   unfold step at h⊢;rw[ho] at h⊢;exact h
theorem yxe (hB:yds B) (hC:CxOk P C) {F:Cf K} (hF:F.C=C) (hS:SsOk P C F.S) (hL:SLOk P C F.L) (hN:F.N=N) {rY:Nat} (hY:YOk P C R B N ro rY F.Y) {X:TS K→Prop} {Q:KS→Prop}:∀(L':List AO) (i:Nat) (ts:TS K) (χ:Nat→Nat→Bool) (ds:DS),L.drop i=L'→GM P C R ts χ ds→DOk ds→(∀y,F.Y=some y→lkR ts.rg y.1=some (.yl rY))→tops F L' ts X→
  (∀ts' χ' ds',GM P C R ts' χ' ds'->DOk ds'->X ts'->ExtR ts.rg ts'.rg->RE B N (toD ds') Q)->WD P B N ro L i Q ds
 | [],i,ts,χ,ds,e,hγ,hk,_,h,fin=>yB9 e fun _=>fin ts χ ds hγ hk h .refl
 | o ::r,i,ts,χ,ds,e,hγ,hk,hYI,h,fin=>by
   have e0:L[i]? =some o:=by
    have:=congrArg (·[0]?) e
    simpa using this
   have e1:L.drop (i+1)=r:=by rw[<-List.drop_drop,e];rfl
   have next:∀ {ts ts2:TS K} {χ2:Nat→Nat→Bool} {ds2:DS},(∀ts' χ' ds',GM P C R ts' χ' ds'→DOk ds'→X ts'→ExtR ts.rg ts'.rg→RE B N (toD ds') Q)→(∀y,F.Y=some y→lkR ts.rg y.1=some (.yl rY))→GM P C R ts2 χ2 ds2→DOk ds2→tops F r ts2 X→ExtR ts.rg ts2.rg→WD P B N ro L (i+1) Q ds2:=by
    intro ts ts2 χ2 ds2 fin hYI a b c d
    exact yxe hB hC hF hS hL hN hY r (i+1) ts2 χ2 ds2 e1 a b (fun y e=>d _ _ (hYI y e)) c fun ts3 χ3 ds3 p q s t=>fin ts3 χ3 ds3 p q s (d.trans t)
   have main:∀ {ts:TS K} {χ:Nat→Nat→Bool} {ds:DS},GM P C R ts χ ds→DOk ds→(∀y,F.Y=some y→lkR ts.rg y.1=some (.yl rY))→topg F o (fun t=>tops F r t X) ts→(∀ts' χ' ds',GM P C R ts' χ' ds'→DOk ds'→X ts'→ExtR ts.rg ts'.rg→RE B N (toD ds') Q)→WD P B N ro L i Q ds:=by
    intro ts χ ds hγ hk hYI h fin
    have run:∀ {ts0:TS K} {ds0:DS},GM P C R ts0 χ ds0→DOk ds0→ts0.rg=ts.rg→gok o.guard ds0.fr=true→step F false o ts0 (fun t=>tops F r t X)→WD P B N ro L i Q ds0:=by
     intro ts0 ds0 hγ0 hk0 hr hg hst
     exact yAZ hB hC hF hS hL hN hY e0 hγ0 hk0 hg (by rw[hr];exact hYI) hst fun ts2 χ2 ds2 a b c d=>next fin hYI a b c ((ExtR.eq hr).trans d)
    have skip:∀ {ts0:TS K} {ds0:DS},GM P C R ts0 χ ds0→DOk ds0→ts0.rg=ts.rg→gno o.guard ds0.fr=true→tops F r (ts0.put o.dst (.tup [])) X→WD P B N ro L i Q ds0:=by
     intro ts0 ds0 hγ0 hk0 hr hg hst
     exact yCY e0 hg (next fin hYI (hγ0.put (.tup [] [] rfl (fun j u v h=>by simp at h))) hk0.put hst (.eq ((yb2 _ _ _).trans hr)))
    unfold topg tgd at h
    split at h
    ·rename_i hg
     exact run hγ hk rfl (by rw[hg];rfl) h
    ·rename_i d b hg
     have hd:=(hγ.fr d).s
     split at h
     ·rename_i c hc
      rw[hc] at hd
      have hv:=hd.lbi
      split at h
      ·rename_i hcb
       have:c=b:=by cases c<;>cases b<;>first|rfl|cases hcb
       subst this
       exact run hγ hk rfl (ynW hg hv) h
      ·rename_i hcb
       exact skip hγ hk rfl (yn5 hg hv (by intro q;subst q;cases c<;>cases hcb)) h
     ·rename_i c hc
      rw[hc] at hd
      have hv:=hd.bli
      obtain ⟨h1,h2⟩:=h
      refine yzZ hv (fun hb=> ?_) (fun hb=> ?_)
      ·have hh:=h1 hb
       have g1:=hγ.put (d:=some d) (TR.lb (P:=P) (C:=C) (ts:=ts) (χ:=χ) true)
       have v1:lkF (ds.put (some d) (.bl true)).fr d= .bl true:=by show lkF ((d, .bl true)::ds.fr) d=_;rw[yby];simp
       cases b with
       |true=>exact run g1 hk.put (yb2 _ _ _) (ynW hg v1) hh
       |false=>exact skip g1 hk.put (yb2 _ _ _) (yn5 hg v1 (by simp)) hh
      ·have hh:=h2 hb
       have g1:=hγ.put (d:=some d) (TR.lb (P:=P) (C:=C) (ts:=ts) (χ:=χ) false)
       have v1:lkF (ds.put (some d) (.bl false)).fr d= .bl false:=by show lkF ((d, .bl false)::ds.fr) d=_;rw[yby];simp
       cases b with
       |true=>exact skip g1 hk.put (yb2 _ _ _) (yn5 hg v1 (by simp)) hh
       |false=>exact run g1 hk.put (yb2 _ _ _) (ynW hg v1) hh
     ·rename_i hc
      rw[hc] at hd
      obtain ⟨vs,hv,hl,_⟩:=hd.tup'
      have:vs= []:=List.eq_nil_of_length_eq_zero hl
      subst this
      exact skip hγ hk rfl (by rw[hg];simp only[gno,hv]) h
     ·exact h.elim
   obtain ⟨hfr,hrg⟩:=yAK (N:=N) (ts:=ts) hB hC hF (o:=o)
   rcases hfr with hq|hq
   ·rw[tops,hq] at h;exact main hγ hk hYI h fin
   ·rw[tops] at h
    exact yCC hB hq hk hγ fun ks ξ a b=>main b (yhn a) (by rw[hrg];exact hYI) h fun ts' χ' ds' p q s t=>fin ts' χ' ds' p q s (by rw[<-hrg];exact t)
end
section
structure LeF (f:Foot) (t:TFt):Prop where
 rk:∀k∈f.rk,(∃o,k= .h o)∨∃q∈t.rk,k= .l q.1 q.2
 wk:∀q∈f.wk,q∈t.wk
 wh:f.wh=false
 bs:∀s∈f.bs,(s,2)∈t.wk
theorem ylH:∀ {l:List (Nat×Nat)} {q:Nat×Nat},q∈l→memQ l q=true
 | p::r,q,h=>by
   show ((Nat.beq p.1 q.1&&Nat.beq p.2 q.2)||memQ r q)=true
   rcases List.mem_cons.1 h with rfl|h
   ·rw[nbeq.2 rfl,nbeq.2 rfl];rfl
   ·rw[ylH h,Bool.or_true]
theorem yCN {a b:Foot} {s t:TFt} (ha:LeF a s) (hb:LeF b t) (h:okT s t=true):okF a b:=by
 simp only[okT,Bool.and_eq_true,List.all_eq_true,Bool.not_eq_true'] at h
 obtain ⟨h1,h2⟩:=h
 have nk:∀ {q:Nat×Nat} {k:Key} {l:List (Nat×Nat)},memQ l q=false→((∃o,k= .h o)∨∃r∈l,k= .l r.1 r.2)→Key.l q.1 q.2≠k:=by
  rintro q k l hq (⟨o,rfl⟩|⟨r,hr,rfl⟩) e
  ·cases e
  ·simp only[Key.l.injEq] at e
   have:q=r:=Prod.ext e.1 e.2
   subst this
   rw[ylH hr] at hq;cases hq
 refine ⟨yb1.2 fun q hq=>⟨yb1.2 fun k hk=>nk (h1 q (ha.wk q hq)).1 (hb.rk k hk),yb1.2 fun r hr e=> ?_⟩,yb1.2 fun q hq=>yb1.2 fun k hk=>nk (h2 q (hb.wk q hq)) (ha.rk k hk),fun e=>(by rw[ha.wh] at e;cases e),fun e=>(by rw[hb.wh] at e;cases e),yb1.2 fun q hq=>yb1.2 fun r hr e=> ?_⟩
 ·subst e
  have:=(h1 q (ha.wk q hq)).2
  rw[ylH (hb.wk q hr)] at this;cases this
 ·subst e
  have:=(h1 (q,2) (ha.bs q hq)).2
  rw[ylH (hb.bs q hr)] at this;cases this
def LeA (acc:List Foot) (tacc:List TFt):Prop:=acc.length=tacc.length/\∀(j:Nat) (f:Foot) (t:TFt),acc[j]? =some f->tacc[j]? =some t->LeF f t
theorem LeA.snoc {acc:List Foot} {tacc:List TFt} {f:Foot} {t:TFt} (h:LeA acc tacc) (k:LeF f t):LeA (acc++ [f]) (tacc++ [t]):=by
 refine ⟨by simp[h.1],fun j g s a b=> ?_⟩
 by_cases hj:j<acc.length
 ·rw[List.getElem?_append_left hj] at a
  rw[List.getElem?_append_left (by rw[<-h.1];exact hj)] at b
  exact h.2 j g s a b
 ·rw[List.getElem?_append_right (by omega)] at a
  rw[List.getElem?_append_right (by rw[<-h.1];omega),<-h.1] at b
  cases hq:j-acc.length with
  |zero=>rw[hq] at a b;simp at a b;subst a;subst b;exact k
  |succ m=>rw[hq] at a;simp at a
theorem yoc {f:Foot} {t:TFt} {acc:List Foot} {tacc:List TFt} (hf:LeF f t) (ha:LeA acc tacc):∀(fre:List Nat),okTs t tacc fre=true→ykI f acc fre
 | [],_=>trivial
 | j ::r,h=>by
   simp only[okTs,Bool.and_eq_true] at h
   refine ⟨?_,yoc hf ha r h.2⟩
   show wpo acc[j]? (okF f)
   cases hj:acc[j]? with
   |none=>trivial
   | some g=>
     have hlt:j<tacc.length:=by rw[<-ha.1];exact (List.getElem?_eq_some_iff.1 hj).1
     have ht:tacc[j]? =some tacc[j]:=List.getElem?_eq_getElem hlt
     rw[ht] at h
     exact yCN hf (ha.2 j g _ hj ht) h.1
def LeK (l:List Key) (t:List (Nat×Nat)):Prop:=∀k∈l,(∃o,k= .h o)∨∃q∈t,k= .l q.1 q.2
theorem LeK.app {a b:List Key} {s t:List (Nat×Nat)} (h:LeK a s) (k:LeK b t):LeK (a++b) (s++t):=by
 intro x hx
 rcases List.mem_append.1 hx with hx|hx
 ·rcases h x hx with q|⟨r,hr,e⟩
  ·exact .inl q
  ·exact .inr ⟨r,List.mem_append_left _ hr,e⟩
 ·rcases k x hx with q|⟨r,hr,e⟩
  ·exact .inl q
  ·exact .inr ⟨r,List.mem_append_right _ hr,e⟩
theorem LeK.nil {t:List (Nat×Nat)}:LeK [] t:=fun k h=>by cases h
theorem TR.hascn {u:TV K} {v:AV} (h:TR P C ts χ u v):∀id w,u.s≠ .cn id w:=by
 intro id w e
 cases h with
 |cn id' u v h hn hv=>simp only[TV.s] at e;rw[e] at hn;cases hn
 |_=>cases e
theorem ypp {v:AV} (h:v.noL=true):LeK (ybx v) []∧LeK (key1 v) []:=by
 cases v with
 | gs k n=>cases k with
   |h o=>exact ⟨fun k hk=>by simp[ybx] at hk;exact .inl ⟨o,hk⟩,fun k hk=>by simp[key1] at hk;exact .inl ⟨o,hk⟩⟩
   |l d c=>cases h
 | pt k n=>cases k with
   |h o=>exact ⟨fun k hk=>by simp[ybx] at hk;exact .inl ⟨o,hk⟩,fun k hk=>by simp[key1] at hk;exact .inl ⟨o,hk⟩⟩
   |l d c=>cases h
 | agg cs=>
   refine ⟨fun k hk=> ?_, .nil⟩
   simp only[ybx,List.mem_flatMap] at hk
   obtain ⟨x,hx,hk⟩:=hk
   have hn:x.noL=true:=yie.1 (show noLs cs=true from h) x hx
   cases x with
   | gs q n=>cases q with
     |h o=>simp[key1] at hk;exact .inl ⟨o,hk⟩
     |l d c=>cases hn
   | pt q n=>cases q with
     |h o=>simp[key1] at hk;exact .inl ⟨o,hk⟩
     |l d c=>cases hn
   |_=>simp[key1] at hk
 |_=>exact ⟨.nil, .nil⟩
theorem yvW {u:TV K} {v:AV} {l:List (Nat×Nat)} (h:TR P C ts χ u v) (hl:tky1 ts u=some l):LeK (key1 v) l∧((∀vs,v≠ .agg vs)→LeK (ybx v) l):=by
 have hs:=h.s
 have hc:=h.hascn
 unfold tky1 at hl
 revert hs hc hl
 generalize u.s=w
 intro hl hs hc
 have no:∀ {v:AV} {l:List (Nat×Nat)},v.noL=true→LeK (key1 v) l∧((∀vs,v≠ .agg vs)→LeK (ybx v) l):=by
  intro v l hv
  obtain ⟨a,b⟩:=ypp hv
  have up:∀ {x:List Key},LeK x []->LeK x l:=fun hx k hk=>(hx k hk).imp id (fun ⟨q,hq,_⟩=>by cases hq)
  exact ⟨up b,fun _=>up a⟩
 cases hs with
 |un v=>cases hl
 |lb b=>exact no rfl
 |bl b=>exact no rfl
 |li k n=>exact no rfl
 |it k n=>exact no rfl
 |st s=>exact no rfl
 |agg us vs _ _=>exact ⟨.nil,fun hn=>absurd rfl (hn vs)⟩
 |tup us vs _ _=>exact ⟨.nil,fun _=> .nil⟩
 |nil=>exact no rfl
 |em z=>exact no rfl
 |sl e l z n xs hn hx=>exact no rfl
 |rwd s c v hr hn ho=>simp only[hn] at hl;cases hl
 | rw s c n hr hn hx=>
   simp only[hn,Option.some.injEq] at hl;subst hl
   exact ⟨fun k hk=>by simp[key1] at hk;exact .inr ⟨_,List.mem_singleton.2 rfl,hk⟩,fun _ k hk=>by simp[ybx] at hk;exact .inr ⟨_,List.mem_singleton.2 rfl,hk⟩⟩
 |rwn s c hr h hx=>exact no rfl
 | px s c off hr=>
   cases hl
   exact ⟨fun k hk=>by simp[key1] at hk;exact .inr ⟨_,List.mem_singleton.2 rfl,hk⟩,fun _ k hk=>by simp[ybx] at hk;exact .inr ⟨_,List.mem_singleton.2 rfl,hk⟩⟩
 | pr e s c i of hr hx=>
   cases hl
   exact ⟨fun k hk=>by simp[key1] at hk;exact .inr ⟨_,List.mem_singleton.2 rfl,hk⟩,fun _ k hk=>by simp[ybx] at hk;exact .inr ⟨_,List.mem_singleton.2 rfl,hk⟩⟩
 |ep e l i of xs hx=>exact no rfl
 |gs l i xs hx=>exact no rfl
 |nptr=>exact no rfl
 |fn f a c a' c' _ _ _ _=>exact ⟨.nil,fun _=> .nil⟩
 |fv ps rs F v h hv=>exact no (by rw[<-yha,hv];exact h.1)
 |yl r=>exact no rfl
 |cn id u v h hn hv=>exact absurd rfl (hc id u)
theorem yjc {f:TV K→Option (List (Nat×Nat))} {g:AV→List Key} (hf:∀u v l,TR P C ts χ u v→f u=some l→LeK (g v) l):∀(us:List (TV K)) (vs:List AV) (l:List (Nat×Nat)),TL P C ts χ us vs→tkys ts f us=some l→LeK (vs.flatMap g) l
 | [],vs,l,t,h=>by
   have:vs= []:=List.eq_nil_of_length_eq_zero t.1
   subst this;exact .nil
 | u ::us,vs,l,t,h=>by
   cases vs with
   |nil=>simp[TL] at t
   | cons v vs=>
     simp only[tkys] at h
     split at h
     ·rename_i a b h1 h2
      cases h
      rw[List.flatMap_cons]
      exact (hf u v a t.head.1 h1).app (yjc hf us vs b t.head.2 h2)
     ·cases h
theorem yq7 {u:TV K} {v:AV} {l:List (Nat×Nat)} (h:TR P C ts χ u v) (hl:tky ts u=some l):LeK (ybx v) l:=by
 unfold tky at hl
 split at hl
 ·rename_i cs e
  have hs:=h.s
  rw[e] at hs
  obtain ⟨vs,rfl,a,b⟩:=hs.agg'
  exact yjc (g:=key1) (fun u v l h hl=>(yvW h hl).1) cs vs l ⟨a,b⟩ hl
 ·rename_i hne
  refine (yvW h hl).2 ?_
  rintro vs rfl
  have hs:=h.s
  have hc:=h.hascn
  have hdead:u.s≠ .un:=by
   intro e;unfold tky1 at hl;rw[e] at hl;cases hl
  revert hs hc hne hdead
  generalize u.s=w
  intro hne hs hc hdead
  cases hs with
  |un v=>exact hdead rfl
  |agg us vs _ _=>exact hne _ rfl
  |rwd s c v hr h ho=>cases ho
  |fv ps rs F v h hv=>obtain ⟨_,_,h1,_⟩:=h;rw[<-hv] at h1;cases h1
  |cn id u v h hn hv=>exact hc _ _ rfl
theorem yvT {u:AOp} (hγ:GM P C R ts χ ds) {l:List (Nat×Nat)} (h:tkys ts (tky ts) ((opds u).map (tea ts.fr))=some l):LeK ((opds u).flatMap fun x=>ybx (ev (lkF ds.fr) x)) l:=by
 have:=yjc (g:=ybx) (fun u v l h hl=>yq7 h hl) _ _ l (TL.tea hγ (opds u)) h
 rw[List.flatMap_map] at this
 exact this
theorem LeF.skip:LeF yg6 ⟨[],[]⟩:=⟨fun k h=>(by cases h),fun q h=>(by cases h),rfl,fun s h=>(by cases h)⟩
variable {LD:List (AO×List Nat)} {QD:St->Prop} {i:Nat} {acc:List Foot}
theorem yyj {o:AO} {fre:List Nat} {f:FuncId} {vs vs':List AV} {kl:List (Nat×Nat)} {d1:DS} {v:AV} (e0:LD[i]? =some (o,fre)) (hg:gok o.guard ds.fr=true) (hc:yu2 P o ds f vs vs' kl d1 v)
  (hf:ykI (yc1 o.op (toD ds) ⟨v,kl.map (fun k=>(k,none)),[],none⟩) acc fre) (k:DD P LD (i+1) (acc++ [yc1 o.op (toD ds) ⟨v,kl.map (fun k=>(k,none)),[],none⟩]) QD (d1.put o.dst v)):DD P LD i acc QD ds:=by
 refine yu6 e0 hg fun hk=> ?_
 have hmst:REff.mst ⟨v,kl.map (fun k=>(k,none)),[],none⟩ (toD ds)=toD d1∧ymB P (.f f) vs (toD ds) ⟨v,kl.map (fun k=>(k,none)),[],none⟩∧DOk d1:=by
  rcases hc.way with hw|⟨rfl,rfl,rfl,hfl⟩
  ·obtain ⟨a1,a2,a3,_⟩:=ylL vs ds vs' kl d1 hk hw
   have hmst:REff.mst ⟨v,kl.map (fun k=>(k,none)),[],none⟩ (toD ds)=toD d1:=by
    have h1:(pubL vs (toD ds)).2=(toD ds).kills (pkL vs (toD ds)):=yuN vs (toD ds)
    rw[a1,a2] at h1
    simp only at h1
    rw[h1]
    unfold REff.mst St.kills REff.cntF
    simp only[St.mk.injEq,yig,true_and,and_true]
    funext q
    have:∀(l:List (Nat×Nat)) (M:Key→Option Blk),List.foldl (fun M (p:Key×Option Blk)=>updK M p.1 p.2) M ((l.map fun k=>(k,(none:Option Blk))).map fun p=>(Key.l p.1.1 p.1.2,p.2))=l.foldl (fun M k=>updK M (.l k.1 k.2) none) M:=by
     intro l
     induction l with
     |nil=>intro M;rfl
     |cons a l ih=>intro M;simp only[List.map_cons,List.foldl_cons];exact ih _
    show (List.foldl (fun M (p:Key×Option Blk)=>updK M p.1 p.2) (toD ds).M ((kl.map fun k=>(k,(none:Option Blk))).map fun p=>(Key.l p.1.1 p.1.2,p.2))) q=_
    rw[this]
   exact ⟨hmst, .inl ⟨rfl,by rw[a2],ylc a1 hc.nl hc.pure ⟨rfl,hmst.symm⟩⟩,a3⟩
  ·exact ⟨yd6 v _, .inr (.inl ⟨rfl,f,v,rfl,hc.nl,fun H n=>ybc.dwkA (hc.pure H n),hfl,rfl⟩),hk⟩
 obtain ⟨hmst,hE,a3⟩:=hmst
 have fin:∀K:REff→Prop,K ⟨v,kl.map (fun k=>(k,none)),[],none⟩→eop (fun _=>false) P o.op o.dst (toD ds) K:=by
  intro K hK
  rcases hc.ho with ⟨args,h1,h2⟩|⟨x,args,first,cap,h1,h2,h3⟩
  ·rw[h1];simp only[eop];rw[ycE,h2];exact ⟨_,hE,hK⟩
  ·rw[h1];simp only[eop];rw[ycE,h2];simp only;rw[h3];exact ⟨_,hE,hK⟩
 refine fin _ ⟨hf,?_⟩
 rw[show REff.app ⟨v,kl.map (fun k=>(k,none)),[],none⟩ o.dst (toD ds)=toD (d1.put o.dst v) by unfold REff.app;rw[hmst,ycs]]
 exact k a3.put
theorem yBq {o:AO} {fre:List Nat} {e:REff} {ds':DS} (e0:LD[i]? =some (o,fre)) (hg:gok o.guard ds.fr=true) (h:Eff o.op o.dst ds e ds') (hc:isMC o.op=false) (hf:ykI (yc1 o.op (toD ds) e) acc fre) (k:DD P LD (i+1) (acc++ [yc1 o.op (toD ds) e]) QD ds'):DD P LD i acc QD ds:=by
 refine yu6 e0 hg fun hk=> ?_
 obtain ⟨h1,h2,h3⟩:=h
 have hE:∀K:REff→Prop,K e→eop (fun _=>false) P o.op o.dst (toD ds) K:=by
  intro K hK
  cases hop:o.op<;>rw[hop] at h1 hc<;>first|(cases hc;done)|(simp only[eop];rw[h1];exact hK)
 refine hE _ ⟨hf,?_⟩
 rw[h2]
 exact k h3
theorem yjp:∀ {us:List (TV K)} {q:Nat×Nat},(∃u∈us,u.s= .rw q.1 q.2)→q∈yrS us
 | [],_,⟨u,h,_⟩=>by cases h
 | v::us,q,⟨u,h,e⟩=>by
   simp only[yrS]
   rcases List.mem_cons.1 h with rfl|h
   ·rw[e];simp
   ·have:=yjp ⟨u,h,e⟩
    split
    ·exact List.mem_cons_of_mem _ this
    ·exact this
theorem yko {q:Nat×Nat}:∀ {us:List (TV K)} {l:List (Nat×Nat)},tkys ts (tky ts) us=some l→(∃u∈us,u.s= .rw q.1 q.2)→q∈l
 | [],_,_,⟨u,h,_⟩=>by cases h
 | v ::us,l,h,⟨u,hu,e⟩=>by
   simp only[tkys] at h
   split at h
   ·rename_i a b h1 h2
    cases h
    rcases List.mem_cons.1 hu with rfl|hu
    ·refine List.mem_append_left _ ?_
     unfold tky at h1
     rw[e] at h1
     simp only at h1
     unfold tky1 at h1
     rw[e] at h1
     simp only at h1
     split at h1
     ·cases h1;simp
     ·cases h1
    ·exact List.mem_append_right _ (yko h2 ⟨u,hu,e⟩)
   ·cases h
theorem yzV (hC:CxOk P C) {F:Cf K} (hF:F.C=C) (hS:SsOk P C F.S) (hL:SLOk P C F.L) {o:AO} {fre:List Nat} {tacc:List TFt} {Rn:List TFt→TS K→Prop} (e0:LD[i]? =some (o,fre)) (hγ:GM P C R ts χ ds) (hk:DOk ds) (hg:gok o.guard ds.fr=true) (ha:LeA acc tacc) (h:yuI F o fre tacc Rn ts)
  (k:∀acc' tacc' ts' χ' ds',LeA acc' tacc'->GM P C R ts' χ' ds'->DOk ds'->Rn tacc' ts'->ts'.rg=ts.rg->DD P LD (i+1) acc' QD ds'):DD P LD i acc QD ds:=by
 unfold yuI at h
 split at h
 rotate_left
 ·exact h.elim
 rename_i t ht
 split at h
 rotate_left
 ·exact h.elim
 rename_i hok
 have calls:∀ {f:FuncId} {vs vs':List AV} {kl:List (Nat×Nat)} {d1:DS} {v:AV} {ts':TS K} {χ':Nat→Nat→Bool},yu2 P o ds f vs vs' kl d1 v→GM P C R ts' χ' (d1.put o.dst v)→DOk d1→Rn (tacc++ [t]) ts'→ts'.rg=ts.rg→LeK (rkOf o.op (toD ds)) t.rk→(∀q∈kl,q∈t.wk)→(∀q∈kl,q∈t.rk)→DD P LD i acc QD ds:=by
  intro f vs vs' kl d1 v ts' χ' c1 c2 c3 c4 c5 hrk hwk hwr
  have hle:LeF (yc1 o.op (toD ds) ⟨v,kl.map (fun k=>(k,none)),[],none⟩) t:=by
   refine ⟨fun k hk'=> ?_,fun q hq=>hwk q ?_,rfl,fun s hs=>by cases hs⟩
   ·rcases List.mem_append.1 hk' with hq|hq
    ·exact hrk k hq
    ·have hic:ykV o.op=true:=by rcases c1.ho with ⟨args,h1,_⟩|⟨x,args,first,cap,h1,_⟩<;>rw[h1]<;>rfl
     rw[hic] at hq
     obtain ⟨p,hp,rfl⟩:=List.mem_map.1 hq
     obtain ⟨q,hq',rfl⟩:=List.mem_map.1 hp
     exact .inr ⟨q,hwr q hq',rfl⟩
   have hq':q∈(kl.map fun k=>(k,(none:Option Blk))).map (·.1):=hq
   simpa using hq'
  exact yyj e0 hg c1 (yoc hle ha fre hok) (k _ _ ts' χ' _ (ha.snoc hle) c2 c3.put c4 c5)
 have callL:∀ {f:FuncId} {us:List (TV K)} {vs:List AV} {sp:Sl K} {env:List (DV K)} {M:RM} {l:List (Nat×Nat)},TL P C ts χ us vs→CalO o ds f vs→ykd C ts f us F.L=some (sp,env,M)→ylg C F.S true ts o.dst sp env M us (Rn (tacc++ [t]))→LeK (rkOf o.op (toD ds)) l→t=⟨l++plcs sp o.dst M,plcs sp o.dst M⟩→DD P LD i acc QD ds:=by
  intro f us vs sp env M l ht ho hp h hrk het
  refine yym hC hS hL e0 hg hγ hk ht ho hp h fun e ts' χ' ds' a1 a2 a3 a4 a5 a6 a7=> ?_
  have hle:LeF (yc1 o.op (toD ds) e) t:=by
   rw[het]
   refine ⟨fun k hk'=> ?_,fun q hq=>a1 q hq,by show e.H.isSome=false;rw[a2];rfl,fun s hs=>a3 s hs⟩
   rcases List.mem_append.1 hk' with hq|hq
   ·rcases hrk k hq with r|⟨r,hr,e⟩
    ·exact .inl r
    ·exact .inr ⟨r,List.mem_append_left _ hr,e⟩
   ·have hic:ykV o.op=true:=by rcases ho with ⟨args,h1,_⟩|⟨x,args,first,cap,h1,_⟩<;>rw[h1]<;>rfl
    rw[hic] at hq
    obtain ⟨p,hp,rfl⟩:=List.mem_map.1 hq
    exact .inr ⟨p.1,List.mem_append_right _ (a1 p.1 (List.mem_map_of_mem (f:=(·.1)) hp)),rfl⟩
  exact ⟨yoc hle ha fre hok,k _ _ ts' χ' ds' (ha.snoc hle) a4 a5 a6 a7⟩
 have rest:yrh o.op=true→DD P LD i acc QD ds:=by
  intro hn
  obtain ⟨e,ds',ts',χ',h1,h2,h3,h4,h5,h6⟩:=ytM hC hγ hk hF hn h
  have hc:isMC o.op=false:=by cases hop:o.op<;>rw[hop] at hn<;>first|rfl|(cases hn;done)
  have hle:LeF (yc1 o.op (toD ds) e) t:=by
   by_cases hmv:∃x,o.op= .mv x
   ·obtain ⟨x,hop⟩:=hmv
    unfold tft at ht
    rw[hop] at ht
    cases ht
    have hE:effA (fun _=>false) o.op o.dst (toD ds)=some e:=h1.1
    rw[hop] at hE
    simp only[effA,pval,effP,Option.map_some,Option.some.injEq] at hE
    subst hE
    rw[hop]
    exact ⟨fun k h=>(by cases h),fun q h=>(by cases h),rfl,fun s h=>(by cases h)⟩
   have ht':∃l,tkys ts (tky ts) ((opds o.op).map (tea ts.fr))=some l∧t=⟨l,twk' ts o⟩:=by
    unfold tft at ht
    cases hop:o.op<;>rw[hop] at ht hn<;>first|(cases hn;done)|skip
    case mv x=>exact absurd ⟨x,hop⟩ hmv
    all_goals
     simp only at ht
     split at ht
     ·rename_i l hl;cases ht;exact ⟨l,hl,rfl⟩
     ·cases ht
   obtain ⟨l,hl,rfl⟩:=ht'
   have hrk:=yvT hγ hl
   have hnc:ykV o.op=false:=by cases hop:o.op<;>rw[hop] at hn<;>first|rfl|(cases hn;done)
   refine ⟨?_,fun q hq=> ?_,by show e.H.isSome=false;rw[h3];rfl,fun s hs=> ?_⟩
   rotate_right
   ·have hE:effA (fun _=>false) o.op o.dst (toD ds)=some e:=by cases hop:o.op<;>rw[hop] at hn<;>first|(cases hn;done)|(rw[← hop];exact h1.1)
    obtain ⟨al,rfl⟩:=yxp hE hs
    show _∈twk' ts o
    unfold twk'
    cases hop:o.op<;>rw[hop] at al hn<;>first|(cases al;done)|(cases hn;done)|simp
   ·show LeK (rkOf o.op (toD ds)++_) l
    rw[hnc]
    simp only[List.append_nil]
    have:rkOf o.op (toD ds)=(opds o.op).flatMap fun x=>ybx (ev (lkF ds.fr) x):=by
     cases hop:o.op<;>rw[hop] at hn<;>first|rfl|(cases hn;done)|skip
     case mv x=>exact absurd ⟨x,hop⟩ hmv
    rw[this];exact hrk
   ·have hq':q∈e.mem.map (·.1):=hq
    obtain ⟨x,hx,rfl⟩:=List.mem_map.1 hq'
    exact h2 x hx
  exact yBq e0 hg h1 hc (yoc hle ha fre hok) (k _ _ ts' χ' ds' (ha.snoc hle) h4 h1.ok h5 h6)
 cases ho:o.op with
 | call f args=>
   have h0:=h
   unfold step at h;rw[ho] at h
   simp only at h
   unfold tft at ht;rw[ho] at ht
   simp only at ht
   split at ht
   ·rename_i l hl
    split at h
    ·rename_i sp env M hp
     rw[hp] at ht
     cases ht
     rw[hF] at h hp
     have hrk:=yjc (g:=ybx) (fun u v l h hl=>yq7 h hl) _ _ l (TL.tea hγ args) hl
     rw[List.flatMap_map] at hrk
     exact callL (TL.tea hγ args) (.inl ⟨args,ho,rfl⟩) hp h (by rw[ho];exact hrk) rfl
    rename_i hp
    rw[hp] at ht
    rw[hF] at h ht
    cases ht
    obtain ⟨vs',kl,d1,v,ts',χ',c1,c2,c3,c4,c5,c7,c6⟩:=yo7 hC hS hγ hk (TL.tea hγ args) (.inl ⟨args,ho,rfl⟩) h
    have hrk:=yjc (g:=ybx) (fun u v l h hl=>yq7 h hl) _ _ l (TL.tea hγ args) hl
    rw[List.flatMap_map] at hrk
    refine calls c1 c2 c3 c4 c5 (by rw[ho];exact hrk) (fun q hq=> ?_) ?_
    cases hfl:flS C F.S f with
    |true=>rw[c7 hfl] at hq;cases hq
    |false=>exact yjp (c6 q hq)
    ·exact fun q hq=>yko hl (c6 q hq)
   ·cases ht
 | calv x args=>
   unfold step at h;rw[ho] at h
   simp only at h
   unfold tft at ht;rw[ho] at ht
   simp only at ht
   split at ht
   rotate_left
   ·cases ht
   rename_i ca l hca hl
   have hrk:=yjc (g:=ybx) (fun u v l h hl=>yq7 h hl) _ _ l (TL.tea hγ args) hl
   rw[List.flatMap_map] at hrk
   have hx:=hγ.tev x
   split at h
   ·rename_i f a c ex
    rw[ex] at hx
    rw[ex] at ht
    simp only at ht
    generalize hv:ev (lkF ds.fr) x=w at hx
    cases hx with
    | fn _ _ _ a' c' ha' hc' h1 h2=>
      have ta:TL P C ts χ a a':=⟨ha',h1⟩
      have tc:TL P C ts χ c c':=⟨hc',h2⟩
      have hrk':LeK (rkOf o.op (toD ds)) (ca++l):=by
       rw[ho]
       show LeK (yuw (ev (lkF ds.fr) x)++args.flatMap fun y=>ybx (ev (lkF ds.fr) y)) _
       rw[hv]
       refine LeK.app ?_ hrk
       unfold yA2 at hca
       have ex':(tea ts.fr x).s= .fn f a c:=ex
       rw[ex'] at hca
       have:=yjc (g:=ybx) (fun u v l h hl=>yq7 h hl) _ _ ca (ta.app tc) hca
       rw[List.flatMap_append] at this
       exact this
      split at h
      ·rename_i sp env M hp
       rw[hp] at ht
       cases ht
       rw[hF] at h hp
       exact callL ((ta.app (TL.tea hγ args)).app tc) (.inr ⟨x,args,a',c',ho,hv,rfl⟩) hp h hrk' rfl
      rename_i hp
      rw[hp] at ht
      cases ht
      rw[hF] at h
      obtain ⟨vs',kl,d1,v,ts',χ',c1,c2,c3,c4,c5,_,c6⟩:=yo7 hC hS hγ hk ((ta.app (TL.tea hγ args)).app tc) (.inr ⟨x,args,a',c',ho,hv,rfl⟩) h
      refine calls c1 c2 c3 c4 c5 hrk' (fun q hq=>yjp (c6 q hq)) (fun q hq=>by
       obtain ⟨u,hu,e⟩:=c6 q hq
       have hca':tkys ts (tky ts) (a++c)=some ca:=by
        unfold yA2 at hca
        rw[show (tea ts.fr x).s= .fn f a c from ex] at hca
        exact hca
       rcases List.mem_append.1 hu with hu|hu
       ·rcases List.mem_append.1 hu with hu|hu
        ·exact List.mem_append_left _ (yko hca' ⟨u,List.mem_append_left _ hu,e⟩)
        ·exact List.mem_append_right _ (yko hl ⟨u,hu,e⟩)
       ·exact List.mem_append_left _ (yko hca' ⟨u,List.mem_append_right _ hu,e⟩))
   ·rename_i ps rs V ex
    rw[ex] at hx
    rw[ex] at ht
    cases ht
    generalize hv:ev (lkF ds.fr) x=w at hx
    cases hx with
    | fv _ _ _ _ hV hv'=>
      rw[hF] at h
      obtain ⟨f,vs,vs',kl,d1,v,ts',χ',c1,c2,c3,c4,c5,c6⟩:=ys5 hC hγ hk hV ho hv hv' (TL.tea hγ args) h
      refine calls c1 c2 c3 c4 c5 ?_ (fun q hq=>yjp (c6 q hq)) (fun q hq=>List.mem_append_right _ (yko hl (c6 q hq)))
      rw[ho]
      show LeK (yuw (ev (lkF ds.fr) x)++args.flatMap fun y=>ybx (ev (lkF ds.fr) y)) _
      rw[hv]
      refine LeK.app ?_ hrk
      obtain ⟨g1,_,_,f',a,c,g4,_⟩:=hV
      rw[<-hv',yha] at g1
      cases w with
      | fn f0 a0 c0=>
        simp only[AV.noL,Bool.and_eq_true] at g1
        intro q hq
        simp only[yuw,List.mem_append,List.mem_flatMap] at hq
        rcases hq with ⟨y,hy,hq⟩|⟨y,hy,hq⟩
        ·rcases (ypp (yie.1 g1.1 y hy)).1 q hq with r|⟨r,hr,_⟩
         ·exact .inl r
         ·cases hr
        ·rcases (ypp (yie.1 g1.2 y hy)).1 q hq with r|⟨r,hr,_⟩
         ·exact .inl r
         ·cases hr
      |_=>exact .nil
   ·exact absurd h (by simp)
   ·exact h.elim
 |_=>exact rest (by rw[ho];rfl)
theorem yuW (hC:CxOk P C) {F:Cf K} (hF:F.C=C) (hS:SsOk P C F.S) (hL:SLOk P C F.L) {X:TS K→Prop} {Q:KS→Prop}:∀(L':List (AO×List Nat)) (i:Nat) (acc:List Foot) (tacc:List TFt) (ts:TS K) (χ:Nat→Nat→Bool) (ds:DS),LD.drop i=L'→LeA acc tacc→GM P C R ts χ ds→DOk ds→tdrw F L' tacc ts X→
  (∀ts' χ' ds',GM P C R ts' χ' ds'->DOk ds'->X ts'->ExtR ts.rg ts'.rg->RE B N (toD ds') Q)->DD P LD i acc (fun S=>RE B N S Q) ds
 | [],i,acc,tacc,ts,χ,ds,e,ha,hγ,hk,h,fin=>by
   have _:=(inferInstance:GB P B)
   intro _
   rw[e]
   exact fin ts χ ds hγ hk h .refl
 | (o,fre)::r,i,acc,tacc,ts,χ,ds,e,ha,hγ,hk,h,fin=>by
   have e0:LD[i]? =some (o,fre):=by
    have:=congrArg (·[0]?) e
    simpa using this
   have e1:LD.drop (i+1)=r:=by rw[<-List.drop_drop,e];rfl
   have next:∀ {ts2:TS K} {χ2:Nat→Nat→Bool} {ds2:DS} {acc2:List Foot} {tacc2:List TFt},LeA acc2 tacc2→GM P C R ts2 χ2 ds2→DOk ds2→tdrw F r tacc2 ts2 X→ts2.rg=ts.rg→DD P LD (i+1) acc2 (fun S=>RE B N S Q) ds2:=by
    intro ts2 χ2 ds2 acc2 tacc2 la a b c d
    exact yuW hC hF hS hL r (i+1) acc2 tacc2 ts2 χ2 ds2 e1 la a b c fun ts3 χ3 ds3 p q s t=>fin ts3 χ3 ds3 p q s (by rw[<-d];exact t)
   have run:∀ {ts0:TS K} {ds0:DS},GM P C R ts0 χ ds0→DOk ds0→ts0.rg=ts.rg→gok o.guard ds0.fr=true→yuI F o fre tacc (fun acc t=>tdrw F r acc t X) ts0→DD P LD i acc (fun S=>RE B N S Q) ds0:=by
    intro ts0 ds0 hγ0 hk0 hr hg hst
    exact yzV hC hF hS hL e0 hγ0 hk0 hg ha hst fun acc2 tacc2 ts2 χ2 ds2 la a b c d=>next la a b c (d.trans hr)
   have skip:∀ {ts0:TS K} {ds0:DS},GM P C R ts0 χ ds0→DOk ds0→ts0.rg=ts.rg→gno o.guard ds0.fr=true→tdrw F r (tacc++ [⟨[],[]⟩]) (ts0.put o.dst (.tup [])) X→DD P LD i acc (fun S=>RE B N S Q) ds0:=by
    intro ts0 ds0 hγ0 hk0 hr hg hst
    exact yCX e0 hg (next (ha.snoc LeF.skip) (hγ0.put (.tup [] [] rfl (fun j u v h=>by simp at h))) hk0.put hst ((yb2 _ _ _).trans hr))
   rw[tdrw] at h
   unfold tdg tgd at h
   split at h
   ·rename_i hg
    exact run hγ hk rfl (by rw[hg];rfl) h
   ·rename_i d b hg
    have hd:=(hγ.fr d).s
    split at h
    ·rename_i c hc
     rw[hc] at hd
     have hv:=hd.lbi
     split at h
     ·rename_i hcb
      have:c=b:=by cases c<;>cases b<;>first|rfl|cases hcb
      subst this
      exact run hγ hk rfl (ynW hg hv) h
     ·rename_i hcb
      exact skip hγ hk rfl (yn5 hg hv (by intro q;subst q;cases c<;>cases hcb)) h
    ·rename_i c hc
     rw[hc] at hd
     have hv:=hd.bli
     obtain ⟨h1,h2⟩:=h
     refine yz6 hv (fun hb=> ?_) (fun hb=> ?_)
     ·have hh:=h1 hb
      have g1:=hγ.put (d:=some d) (TR.lb (P:=P) (C:=C) (ts:=ts) (χ:=χ) true)
      have v1:lkF (ds.put (some d) (.bl true)).fr d= .bl true:=by show lkF ((d, .bl true)::ds.fr) d=_;rw[yby];simp
      cases b with
      |true=>exact run g1 hk.put (yb2 _ _ _) (ynW hg v1) hh
      |false=>exact skip g1 hk.put (yb2 _ _ _) (yn5 hg v1 (by simp)) hh
     ·have hh:=h2 hb
      have g1:=hγ.put (d:=some d) (TR.lb (P:=P) (C:=C) (ts:=ts) (χ:=χ) false)
      have v1:lkF (ds.put (some d) (.bl false)).fr d= .bl false:=by show lkF ((d, .bl false)::ds.fr) d=_;rw[yby];simp
      cases b with
      |true=>exact skip g1 hk.put (yb2 _ _ _) (yn5 hg v1 (by simp)) hh
      |false=>exact run g1 hk.put (yb2 _ _ _) (ynW hg v1) hh
    ·rename_i hc
     rw[hc] at hd
     obtain ⟨vs,hv,hl,_⟩:=hd.tup'
     have:vs= []:=List.eq_nil_of_length_eq_zero hl
     subst this
     exact skip hγ hk rfl (by rw[hg];simp only[gno,hv]) h
    ·exact h.elim
theorem yAD (hB:yds B) (hC:CxOk P C) {F:Cf K} (hF:F.C=C) (L:List (AO×List Nat)):REk P C R B N ts (frzD F L ts)∧(frzD F L ts).rg=ts.rg:=by
 have _:=(inferInstance:GB P B)
 unfold frzD
 rw[hF]
 generalize (L.flatMap fun p=>(frzO F ts.fr p.1.op).flatMap fun x=>match x with| .t n=> [srcD L 9 n]| .c _=> [])=l
 induction l generalizing ts with
 |nil=>exact ⟨.refl,rfl⟩
 | cons n l ih=>
   obtain ⟨a,b⟩:=ih (ts:=fzA C 9 [lkT ts.fr n] ts)
   exact ⟨(ytg hB hC _ _ _).trans a,by rw[List.foldl_cons,b,yvH]⟩
end
section
theorem yBm {Q:AEx→TS K→Prop} {e:AEx} {rg:List (Nat×TV K)} (hB:yds B) (hC:CxOk P C) (hγ:GM P C R ts χ ds) (hk:DOk ds) (hx:ExtR rg ts.rg) (h:Q e (er ts)):RE B N (toD ds) (Kq P C R rg Q e):=
 have _:=(inferInstance:GB P B)
 (yAe (N:=N) hB hC χ ds hk hγ).mono fun ks ⟨h1,ξ,h2⟩=>⟨h1,er ts,ξ,h2,hx,h⟩
theorem yAU (C:Cx K) (fr:List (Nat×TV K)):∀(l:List (Nat×Kd)) (ts:TS K),(fzT C fr l ts).h=ts.h
 | [],_=>rfl
 | (t,k)::r,ts=>by
   cases k with
   | sl e=>
     simp only[fzT]
     rw[yAU C fr r]
     split
     ·exact fz_h C ts _
     ·rfl
   |_=>simp only[fzT];exact yAU C fr r ts
theorem yqQ {hh:List RS} (hR:∀H n,R ts.h H n→R hh H n) (hB:yds B) (hC:CxOk P C) {τ:Tm} {rg:List (Nat×TV K)} {J:List (DV K)→Prop} {ks:KS} (hk:KOk ks) (hγ:GM P C R ts χ (ofK ks)) (hx:ExtR rg ts.rg) (h:rdJ C τ ts J):
  RE B N (toS ks) fun ks'=>∃env,J env/\KOk ks'/\∃ξ,GM P C R (bdT C τ rg hh env) ξ (ofK ks'):=by
 have _:=(inferInstance:GB P B)
 unfold rdJ at h
 split at h
 ·rename_i env he
  have h1:=yvU (R:=R) (N:=N) hB hC ts.fr τ.ks ts
  have h2:=(yCg (R:=R) (N:=N) (rg:=rg) hB hC (by rw[yvx];exact hx) he hh (by rw[yAU];exact hR)).k
  exact ((h1.trans h2) χ ks hk hγ).mono fun ks' ⟨a,b⟩=>⟨env,h,a,b⟩
 ·exact h.elim
theorem yzR {a b:RS} (h:eqRS a b=true):a=b:=by
 cases a<;>cases b<;>first|rfl|(cases h;done)|(rw[nbeq.1 h])
theorem yyw:∀ {a b:List RS},eqH a b=true→a=b
 | [],[],_=>rfl
 | [],_::_,h=>by cases h
 |_::_,[],h=>by cases h
 | x::a,y::b,h=>by
   simp only[eqH,Bool.and_eq_true] at h
   rw[yzR h.1,yyw h.2]
theorem yvf {C:Cx K} {τ:Tm} {h:List RS} {ts:TS K} {J:List (DV K)→Prop} (q:rdH C τ h ts J):ts.h=h∧rdJ C τ ts J:=by
 unfold rdH at q
 split at q
 ·rename_i e;exact ⟨yyw e,q⟩
 ·exact q.elim
theorem yhb {c:ye0} {Q Q':AEx->KS->Prop} {ks:KS} (h:WK P B N ro c Q ks) (hq:∀e ks,Q e ks->Q' e ks):WK P B N ro c Q' ks:=have _:=(inferInstance:GB P B);fun x hx a G hR=>wpIn_mono (h x hx a G hR) fun _ _ _ hp=>ylA.mono hq hp
theorem yCm (C:Cx K) (τ:Tm) (rg:List (Nat×TV K)) (hh:List RS) (env:List (DV K)):(bdT C τ rg hh env).rg=rg:=rfl
def IOk (P:Program) (I:List (Nat×AFn)):Prop:=∀f c,lkI I f=some c->trF P f=some c
theorem ywL (τ:Tm) (ts:TS K):(tagT τ ts).h=ts.h:=(ylN τ.bx _).2.2.trans (yoo τ.ks ts).2.2
theorem YOk.none {B:Base} {N:Nat} {ro:Option Nat} {R:RR K} {rY:Nat}:YOk P C R B N ro rY none:=fun y h=>by cases h
theorem yjT {g:Nat→Option Nat} (hg:injx g) {s t:Nat} (h:g s=some t):∀l:List (Nat×TV K),lkT (reix g l) t=lkT l s
 | []=>rfl
 | p ::r=>by
   have ih:=yjT hg h r
   show lkT (match g p.1 with|some t=>(t,p.2)::reix g r|none=>reix g r) t=lkT ((p.1,p.2)::r) s
   rw[ycn]
   by_cases e:p.1=s
   ·rw[if_pos e,e,h];simp only;rw[ycn,if_pos rfl]
   ·rw[if_neg e]
    split
    ·rename_i u hu
     rw[ycn,if_neg (fun q=>e (hg _ _ _ hu (by rw[q];exact h)))];exact ih
    ·exact ih
theorem ygV {g:Nat→Option Nat} {t:Nat} (h:∀s,g s≠some t):∀l:List (Nat×TV K),lkT (reix g l) t= .un
 | []=>rfl
 | p::r=>by
   show lkT (match g p.1 with|some t=>(t,p.2)::reix g r|none=>reix g r) t=_
   split
   ·rename_i u hu
    rw[ycn,if_neg (fun q=>h p.1 (by rw[hu,q]))];exact ygV h r
   ·exact ygV h r
def memV:List (Nat×TV K)→Nat→Bool
 | [],_=>false
 |p::r,t=>Nat.beq p.1 t||memV r t
theorem yu0 (a b:List (Nat×TV K)) (t:Nat):lkT (a++b) t=if memV a t=true then lkT a t else lkT b t:=by
 induction a with
 |nil=>rfl
 | cons p a ih=>
   have hm:memV (p::a) t=(Nat.beq p.1 t||memV a t):=rfl
   show lkT ((p.1,p.2)::(a++b)) t=if _ then lkT ((p.1,p.2)::a) t else _
   rw[ycn,ycn,ih,hm]
   by_cases e:p.1=t
   ·rw[if_pos e,if_pos e,nbeq.2 e];rfl
   ·rw[if_neg e,if_neg e]
    have:Nat.beq p.1 t=false:=by
     cases h:Nat.beq p.1 t with
     |false=>rfl
     |true=>exact absurd (nbeq.1 h) e
    rw[this,Bool.false_or]
theorem ym9 {g:Nat→Option Nat} {t:Nat} (h:∀s,g s≠some t):∀l:List (Nat×TV K),memV (reix g l) t=false
 | []=>rfl
 | p ::r=>by
   simp only[reix]
   split
   ·rename_i u hu
    have hb:Nat.beq u t=false:=by
     cases q:Nat.beq u t with
     |false=>rfl
     |true=>exact absurd (hu.trans (congrArg some (nbeq.1 q))) (h p.1)
    show (Nat.beq u t||memV (reix g r) t)=false
    rw[hb,ym9 h r];rfl
   ·exact ym9 h r
theorem yhE {g:Nat→Option Nat} (hg:injx g) {s t:Nat} (h:g s=some t):∀l:List (Nat×TV K),memV (reix g l) t=false→lkT l s= .un
 | [],_=>rfl
 | p::r,hm=>by
   simp only[reix] at hm
   show lkT ((p.1,p.2)::r) s=_
   rw[ycn]
   by_cases e:p.1=s
   ·rw[e,h] at hm
    simp[memV,nbeq.2] at hm
   ·rw[if_neg e]
    split at hm
    ·simp only[memV,Bool.or_eq_false_iff] at hm;exact yhE hg h r hm.2
    ·exact yhE hg h r hm
theorem yuR:∀(us:List (TV K)) (i t:Nat),lkT (zipT us i) t=if i≤t then (us[t-i]?).getD .un else .un
 | [],i,t=>by simp[zipT,lkT]
 | u ::r,i,t=>by
   simp only[zipT]
   rw[ycn,yuR r (i+1) t]
   by_cases h:i=t
   ·subst h;simp
   ·rw[if_neg h]
    by_cases h2:i<=t
    ·have h3:i+1≤t:=by omega
     rw[if_pos h2,if_pos h3,show t-i=(t-(i+1))+1 from by omega,List.getElem?_cons_succ]
    ·have h3:¬i+1≤t:=by omega
     rw[if_neg h2,if_neg h3]
theorem yta:∀(us:List (TV K)) (i t:Nat),memV (zipT us i) t=decide (i≤t∧t<i+us.length)
 | [],i,t=>by simp[zipT,memV]
 | u ::r,i,t=>by
   simp only[zipT,memV,yta r (i+1) t,List.length_cons]
   by_cases h:i=t
   ·subst h;simp[nbeq.2]
   ·have hb:Nat.beq i t=false:=by
     cases q:Nat.beq i t with
     |false=>rfl
     |true=>exact absurd (nbeq.1 q) h
    rw[hb,Bool.false_or]
    simp only[decide_eq_decide];omega
theorem GM.frame {ks:KS} (h:GM P C R ts χ (ofK ks)) {R':RR K} {fr':List (Nat×TV K)} {rg':List (Nat×TV K)} {h':List RS} {frk':List (Nat×AV)} {H':Hp} {n':Nat} (hx:ExtR ts.rg rg') (hL:R'.L=R.L)
  (hfr:∀t,TR P C ⟨fr',ts.od,ts.nw,rg',h'⟩ χ (lkT fr' t) (lkF frk' t)) (hp:R' h' H' n'):GM P C R' ⟨fr',ts.od,ts.nw,rg',h'⟩ χ (ofK ⟨frk',ks.mem,H',n'⟩):=by
 have hm:Mono ts ⟨fr',ts.od,ts.nw,rg',h'⟩ χ χ:=⟨hx,fun _ _ q=>q,fun _ _ _=> .inr ⟨rfl,rfl⟩⟩
 refine ⟨hfr,fun s c b hb hx=> ?_,h.vi,h.nw,hp,fun s b q e=>by rw[hL];exact h.lv s b q e⟩
 obtain ⟨kb,h1,h2⟩:=h.mb s c b hb hx
 exact ⟨kb,h1,h2.mono hm⟩
theorem ymq {id r:Nat} {u:TV K} {v:AV} (h:isY id u=true) (ht:TR P C ts χ u v) (hr:lkR ts.rg id=some (.yl r)):v= .yld r:=by
 unfold isY at h
 split at h
 ·rename_i i w
  have:=nbeq.1 h;subst this
  cases ht with
  |cn _ _ _ h1 _ h2=>rw[hr] at h1;cases h1;cases h2;rfl
 ·cases h
def lsR:RS→LS
 | .rdy=> .ready
 | .busy=> .busy
 | .ret=> .ret
 | .ex i=> .exit i
def RR.push (R:RR K) (r:Nat) (f:LS->Blk):RR K:=⟨fun h H n=>∃st h',h=st::h'/\H r=some (f (lsR st))/\R.R h' (fun o=>if o=r then none else H o) n,R.L⟩
theorem RR.push_out {R:RR K} {r:Nat} {f:LS→Blk} {st:RS} {h:List RS} {H:Hp} {n:Nat} (q:R.push r f (st::h) H n):H r=some (f (lsR st))∧R.R h (fun o=>if o=r then none else H o) n:=by
 obtain ⟨st',h',e,a,b⟩:=q
 cases e;exact ⟨a,b⟩
theorem RR.push_set {R:RR K} {r:Nat} {f:LS→Blk} {st st':RS} {h:List RS} {H:Hp} {n:Nat} (q:R.push r f (st::h) H n):R.push r f (st'::h) (fun o=>if o=r then some (f (lsR st')) else H o) n:=by
 refine ⟨st',h,rfl,if_pos rfl,?_⟩
 have:(fun o=>if o=r then none else (if o=r then some (f (lsR st')) else H o))=fun o=>if o=r then none else H o:=by
  funext o
  by_cases e:o=r
  ·simp[e]
  ·simp[e]
 rw[this];exact (RR.push_out q).2
theorem yBK {g:Option (Nat×Bool)} {ds:DS} (hγ:GM P C R ts χ ds) (h:okG g ts.fr=true):gok g ds.fr=true:=by
 unfold okG at h
 split at h
 ·rfl
 ·rename_i d b
  have hd:=(hγ.fr d).s
  split at h
  ·rename_i c e;rw[e] at hd;simp only[gok,hd.bli];exact h
  ·rename_i c e;rw[e] at hd;simp only[gok,hd.lbi];exact h
  ·cases h
theorem TL.at2 {us:List (TV K)} {vs:List AV} (t:TL P C ts χ us vs) (j:Nat):TR P C ts χ ((us[j]?).getD .un) ((vs[j]?).getD .un):=by
 cases hu:us[j]? with
 |none=>exact .un _
 | some u=>
   have hj:j<vs.length:=by rw[t.1];exact (List.getElem?_eq_some_iff.1 hu).1
   rw[List.getElem?_eq_getElem hj]
   exact t.2 j u _ hu (List.getElem?_eq_getElem hj)
theorem yCK:∀(ps:List Nat) (us:List (TV K)) (vs:List AV) (a:List (Nat×TV K)) (b:List (Nat×AV)),TL P C ts χ us vs→(∀t,TR P C ts χ (lkT a t) (lkF b t))→∀t,TR P C ts χ (lkT ((ps.zip us).foldl (fun l p=>p::l) a) t) (lkF ((ps.zip vs).foldl (fun l p=>p::l) b) t)
 | [],us,vs,a,b,_,h=>h
 | p::ps,[],vs,a,b,t,h=>by
   have:vs= []:=List.eq_nil_of_length_eq_zero t.1
   subst this;exact h
 |p::ps,u::us,[],a,b,t,h=>by simp[TL] at t
 | p::ps,u::us,v::vs,a,b,t,h=>by
   simp only[List.zip_cons_cons,List.foldl_cons]
   refine yCK ps us vs _ _ t.head.2 fun q=> ?_
   rw[ycn,yby]
   simp only
   split
   ·exact t.head.1
   ·exact h q
theorem yB5 (hC:CxOk P C):∀(A:An K) {B:Base} [GB P B] {N:Nat} {ro:Option Nat} {R:RR K} {F:Cf K} {rY:Nat},yds B→F.C=C→SsOk P C F.S→SLOk P C F.L→F.N=N→IOk P F.I→(F.rd=false→ro=none)→(F.I= []∨∀h H n m,R h H n→n≤m→R h H m)→YOk P C R B N ro rY F.Y→
  ∀(c:ye0) (Q:AEx->TS K->Prop) (ts:TS K) (χ:Nat->Nat->Bool) (ks:KS),KOk ks->GM P C R ts χ (ofK ks)->(∀y,F.Y=some y->lkR ts.rg y.1=some (.yl rY))->Dn F A c Q ts->WK P B N ro c (Kq P C R ts.rg Q) ks:=by
 intro A
 induction A with
 | o =>
   intro B _ N ro R F rY hB hF hS hL hN hI hr hRm hY c Q ts χ ks hk hγ hYI h
   have at':∀ {e:AEx},Q e ts->Kq P C R ts.rg Q e ks:=fun h=>⟨hk,ts,χ,hγ, .refl,h⟩
   cases c with
   |skip=>exact yAg (at' h)
   |exit id=>exact yzD (at' h)
   |ret=>exact yBV (at' h)
   | ops L=>
     refine yCH ?_
     exact yxe (L:=L) hB hC hF hS hL hN hY L 0 ts χ (ofK ks) rfl hγ (yhn hk) hYI h fun ts' χ' ds' a b d e=>yBm hB hC a b e d
   | drw L=>
     obtain ⟨f1,f2⟩:=yAD (R:=R) (N:=N) (ts:=ts) hB hC hF L
     refine yx3 fun _=>(f1 χ ks hk hγ).mono fun ks' ⟨hk',ξ,hγ'⟩=>yB4 ?_
     exact yuW (LD:=L) hC hF hS hL L 0 [] [] _ ξ (ofK ks') rfl ⟨rfl,fun j f t h=>by simp at h⟩ hγ' (yhn hk') h fun ts' χ' ds' a b d e=>yBm hB hC a b (by rw[<-f2];exact e) d
   |_=>exact h.elim
 | s a b iha ihb=>
   intro B _ N ro R F rY hB hF hS hL hN hI hr hRm hY c Q ts χ ks hk hγ hYI h
   cases c with
   | seq x y=>
     refine yy4 (yhb (iha hB hF hS hL hN hI hr hRm hY x _ ts χ ks hk hγ hYI h) fun e ks' hq=> ?_)
     obtain ⟨h1,ts',χ',h2,h3,h4⟩:=hq
     cases e with
     |n=>exact yhb (ihb hB hF hS hL hN hI hr hRm hY y Q ts' χ' ks' h1 h2 (fun y e=>h3 _ _ (hYI y e)) h4) fun e ks2 hq=>hq.mono h3
     |x id=>exact ⟨h1,ts',χ',h2,h3,h4⟩
     |r=>exact ⟨h1,ts',χ',h2,h3,h4⟩
   |_=>exact h.elim
 | c a b iha ihb=>
   intro B _ N ro R F rY hB hF hS hL hN hI hr hRm hY c Q ts χ ks hk hγ hYI h
   cases c with
   | cond u x y=>
     have hu:=hγ.tev u
     unfold Dn at h
     split at h
     ·rename_i e
      rw[e] at hu
      exact yrg (b:=true) hu.lbi (fun _=>iha hB hF hS hL hN hI hr hRm hY x Q ts χ ks hk hγ hYI h) (fun q=>by cases q)
     ·rename_i e
      rw[e] at hu
      exact yrg (b:=false) hu.lbi (fun q=>by cases q) (fun _=>ihb hB hF hS hL hN hI hr hRm hY y Q ts χ ks hk hγ hYI h)
     ·rename_i q e
      rw[e] at hu
      exact yrg (b:=q) hu.bli (fun hq=>iha hB hF hS hL hN hI hr hRm hY x Q ts χ ks hk hγ hYI (h.1 hq)) (fun hq=>ihb hB hF hS hL hN hI hr hRm hY y Q ts χ ks hk hγ hYI (h.2 hq))
     ·exact h.elim
   |_=>exact h.elim
 | b a iha=>
   intro B _ N ro R F rY hB hF hS hL hN hI hr hRm hY c Q ts χ ks hk hγ hYI h
   cases c with
   | block id x=>
     refine yxX (yhb (iha hB hF hS hL hN hI hr hRm hY x _ ts χ ks hk hγ hYI h) fun e ks' hq=> ?_)
     obtain ⟨h1,ts',χ',h2,h3,h4⟩:=hq
     cases e with
     |n=>exact ⟨h1,ts',χ',h2,h3,h4⟩
     |r=>exact ⟨h1,ts',χ',h2,h3,h4⟩
     | x i=>
       show bkQ id _ (.x i) ks'
       simp only at h4
       unfold bkQ
       simp only
       split at h4
       ·rename_i e;try rw[e]
        exact ⟨h1,ts',χ',h2,h3,h4⟩
       ·rename_i e;try rw[e]
        exact ⟨h1,ts',χ',h2,h3,h4⟩
   |_=>exact h.elim
 | l τ a iha=>
   intro B _ N ro R F rY hB hF hS hL hN hI hr hRm hY c Q ts χ ks hk hγ hYI h
   cases c with
   | loop x=>
     refine yA9 fun Y hYl=> ?_
     let Sem:List (DV K)->Prop:=fun env=>∀ks',KOk ks'->(∃ξ,GM P C R (bdT F.C τ (tagT τ ts).rg ts.h env) ξ (ofK ks'))->WK P B N ro x (sqQ (Kq P C R ts.rg Q) Y) ks'
     have go:∀ {ts':TS K} {χ':Nat→Nat→Bool} {ks':KS},KOk ks'→GM P C R ts' χ' (ofK ks')→ExtR (tagT τ ts).rg ts'.rg→ts'.h=ts.h→rdJ F.C τ ts' (apC False (ctT τ) (curC (ctT τ) Sem))→Y ks':=by
      intro ts' χ' ks' hk' hγ' hx' hh hj
      refine hYl ks' (yx3 fun _=> ?_)
      rw[hF] at hj
      refine (yqQ (hh:=ts.h) (fun H n q=>by rw[hh] at q;exact q) hB hC hk' hγ' hx' hj).mono fun ks2 ⟨env,e1,e2,ξ,e3⟩=> ?_
      exact ysM _ _ _ e1 ks2 e2 ⟨ξ,by rw[hF];exact e3⟩
     refine go hk (ypD hγ) .refl (ywL τ ts) (h (curC (ctT τ) Sem) (yov _ _ _ fun env hd=> ?_))
     rintro ks' hk' ⟨ξ,hγ'⟩
     refine yhb (iha env hB hF hS hL hN hI hr hRm hY x _ _ ξ ks' hk' hγ' (fun y e=>yeJ τ ts _ _ (hYI y e)) hd) fun e ks2 hq=> ?_
     obtain ⟨h1,ts',χ',h2,h3,h4⟩:=hq
     rw[yCm] at h3
     cases e with
     |n=>obtain ⟨g1,g2⟩:=yvf h4;exact go h1 h2 h3 g1 g2
     |x id=>exact ⟨h1,ts',χ',h2,(yeJ τ ts).trans h3,h4⟩
     |r=>exact ⟨h1,ts',χ',h2,(yeJ τ ts).trans h3,h4⟩
   |_=>exact h.elim
 | j τ a b iha ihb=>
   intro B _ N ro R F rY hB hF hS hL hN hI hr hRm hY c Q ts χ ks hk hγ hYI h
   cases c with
   | seq x y=>
     let Sem:List (DV K)->Prop:=fun env=>∀ks',KOk ks'->(∃ξ,GM P C R (bdT F.C τ (tagT τ ts).rg ts.h env) ξ (ofK ks'))->WK P B N ro y (Kq P C R ts.rg Q) ks'
     have hd:=h (curC (ctT τ) Sem) (yov _ _ _ fun env hd=>by
      rintro ks' hk' ⟨ξ,hγ'⟩
      exact yhb (ihb env hB hF hS hL hN hI hr hRm hY y Q _ ξ ks' hk' hγ' (fun y e=>yeJ τ ts _ _ (hYI y e)) hd) fun e ks2 hq=>hq.mono (yeJ τ ts))
     refine yy4 (yhb (iha hB hF hS hL hN hI hr hRm hY x _ (tagT τ ts) χ ks hk (ypD hγ) (fun y e=>yeJ τ ts _ _ (hYI y e)) hd) fun e ks' hq=> ?_)
     obtain ⟨h1,ts',χ',h2,h3,h4⟩:=hq
     cases e with
     | n=>
       refine yx3 fun _=> ?_
       simp only at h4
       rw[hF] at h4
       obtain ⟨g1,g2⟩:=yvf h4
       refine (yqQ (hh:=ts.h) (fun H n q=>by rw[g1] at q;exact q) hB hC h1 h2 h3 g2).mono fun ks2 ⟨env,e1,e2,ξ,e3⟩=> ?_
       exact ysM _ _ _ e1 ks2 e2 ⟨ξ,by rw[hF];exact e3⟩
     |x id=>exact ⟨h1,ts',χ',h2,(yeJ τ ts).trans h3,h4⟩
     |r=>exact ⟨h1,ts',χ',h2,(yeJ τ ts).trans h3,h4⟩
   |_=>exact h.elim
 | g id τ τY ai aa ab ih1 ih2 ih3=>
   intro B _ N ro R F rY hB hF hS hL hN hI hr hRm hY c Q ts χ ks hk hγ hYI h
   cases c with
   | rng u ps aA aB=>
     subst hF
     unfold Dn at h
     split at h
     ·exact h.elim
     rename_i hrd
     have hro:=hr hrd
     subst hro
     refine yx3 fun _=>(yqQ (hh:=ts.h) (fun H n q=>by rw[ywL] at q;exact q) hB hC hk (ypD hγ) .refl h).mono fun ks1 ⟨env,h1,hk1,ξ1,hγ1⟩=> ?_
     have hrg:(bdT F.C τ (tagT τ ts).rg ts.h env).rg=(tagT τ ts).rg:=rfl
     have hnw:(bdT F.C τ (tagT τ ts).rg ts.h env).nw= []:=rfl
     have hh1:(bdT F.C τ (tagT τ ts).rg ts.h env).h=ts.h:=rfl
     generalize bdT F.C τ (tagT τ ts).rg ts.h env=ts1 at h1 hγ1 hrg hnw hh1
     split at h1
     case h_2=>exact h1.elim
     rename_i f fa fc hu
     split at h1
     case h_2=>exact h1.elim
     rename_i c2 hc2
     replace hRm:=hRm.resolve_left (fun e=>by rw[e] at hc2;cases hc2)
     split at h1
     case h_2=>exact h1.elim
     rename_i hcond
     simp only[Bool.and_eq_true] at hcond
     obtain ⟨⟨hid,hlen⟩,hnil⟩:=hcond
     rw[<-hrg] at hid
     have hid:lkR ts1.rg id=none:=by
      cases hq:lkR ts1.rg id with
      |none=>rfl
      |some w=>rw[hq] at hid;cases hid
     have hlen:=Nat.le_of_ble_eq_true hlen
     have hres:c2.res= []:=by
      cases hq:c2.res with
      |nil=>rfl
      |cons a b=>rw[hq] at hnil;cases hnil
     have hu':=hγ1.tev u
     rw[hu] at hu'
     generalize hv:ev (lkF (ofK ks1).fr) u=v at hu'
     cases hu' with
     | fn _ _ _ a' c' ha hc hta htc=>
       refine yBE (hI f c2 hc2) hres hv (by simp;omega) hB fun B2 _ tm asg body yv rest hB2 hH htm hxs hA hBd hps=> ?_
       subst hN
       let f0:LS->Blk:=rcdB tm ps asg body
       have h2:=h1 ks1.nx
       have hx1:ExtR ts1.rg ((id, .yl ks1.nx)::ts1.rg):=fun id' w hw=>by
        rw[yii]
        split
        ·rename_i e;simp only at e;subst e;rw[hid] at hw;cases hw
        ·exact hw
       have hRm2:∀h H n m,R.push ks1.nx f0 h H n->n<=m->R.push ks1.nx f0 h H m:=fun h H n m ⟨st,h',a1,a2,a3⟩ hm=>⟨st,h',a1,a2,hRm _ _ _ _ a3 hm⟩
       have hγ2:GM P F.C (R.push ks1.nx f0) (rngS id ks1.nx c2.N fa fc ts1) ξ1 (ofK (rngK c2.N (a'++ .yld ks1.nx::c') (f0 .ready) ks1)):=by
        refine GM.frame hγ1 hx1 rfl (fun t=> ?_) ⟨.rdy,ts1.h,rfl,if_pos rfl,?_⟩
        ·have hm:Mono ts1 (rngS id ks1.nx c2.N fa fc ts1) ξ1 ξ1:=⟨hx1,fun _ _ q=>q,fun _ _ _=> .inr ⟨rfl,rfl⟩⟩
         have hyT:TR P F.C (rngS id ks1.nx c2.N fa fc ts1) ξ1 (.cn id (.yl ks1.nx)) (.yld ks1.nx):= .cn id (.yl ks1.nx) _ (by show lkR ((id, .yl ks1.nx)::ts1.rg) id=_;rw[yii,if_pos rfl]) rfl (.yl _)
         have hTL:TL P F.C (rngS id ks1.nx c2.N fa fc ts1) ξ1 (fa++ .cn id (.yl ks1.nx)::fc) (a'++ .yld ks1.nx::c'):=((show TL P F.C ts1 ξ1 fa a' from ⟨ha,hta⟩).mono hm).app (.cons hyT ((show TL P F.C ts1 ξ1 fc c' from ⟨hc,htc⟩).mono hm))
         show TR P F.C (rngS id ks1.nx c2.N fa fc ts1) ξ1 (lkT (zipT (fa++ .cn id (.yl ks1.nx)::fc) 0++(c2.N, .cn id (.yl ks1.nx))::reix (upx (c2.N+1)) ts1.fr) t) (lkF (entF (a'++ .yld ks1.nx::c') 0++(c2.N, .yld ks1.nx)::reix (upx (c2.N+1)) ks1.fr) t)
         rw[yu0,yta,ym4,yoQ,hTL.1]
         by_cases ht:0<=t/\t<0+(fa++ .cn id (.yl ks1.nx)::fc).length
         ·rw[if_pos (decide_eq_true ht),if_pos (decide_eq_true ht),yuR,ymM,if_pos (Nat.zero_le _),if_pos (Nat.zero_le _)]
          exact hTL.at2 _
         ·rw[if_neg (by simpa using ht),if_neg (by simpa using ht),ycn,yby]
          simp only
          by_cases h3:c2.N=t
          ·rw[if_pos h3,if_pos h3];exact hyT
          ·rw[if_neg h3,if_neg h3]
           by_cases h4:c2.N<t
           ·have hg:upx (c2.N+1) (t-(c2.N+1))=some t:=by simp only[upx,Option.some.injEq];omega
            rw[yjT (ykw _) hg,yeT (ykw _) hg]
            exact (hγ1.fr _).mono hm
           ·rw[ygV (fun s e=>by simp only[upx,Option.some.injEq] at e;omega)]
            exact .un _
        ·have:(fun o=>if o=ks1.nx then none else (if o=ks1.nx then some (f0 .ready) else ks1.H o))=ks1.H:=by
          funext o
          by_cases e:o=ks1.nx
          ·rw[if_pos e,e,hH]
          ·simp[e]
         rw[this];exact hRm _ _ _ _ hγ1.hp (Nat.le_succ _)
       have hbk:∀ {t8:TS K} {χ8:Nat→Nat→Bool} {ks8:KS} {h8:List RS} {R':RR K} {H':Hp} (m:Nat),GM P F.C (R.push ks1.nx f0) t8 χ8 (ofK ks8)→R'.L=R.L→R' h8 H' ks8.nx→GM P F.C R' ⟨reix (dnx m) t8.fr,t8.od,t8.nw,t8.rg,h8⟩ χ8 (ofK ⟨reix (dnx m) ks8.fr,ks8.mem,H',ks8.nx⟩):=by
        intro t8 χ8 ks8 h8 R' H' m hg hL hp
        refine GM.frame hg .refl hL (fun t=> ?_) hp
        have hm:Mono t8 ⟨reix (dnx m) t8.fr,t8.od,t8.nw,t8.rg,h8⟩ χ8 χ8:=⟨fun _ _ q=>q,fun _ _ q=>q,fun _ _ _=> .inr ⟨rfl,rfl⟩⟩
        have hd:dnx m (t+m)=some t:=ylJ.2 rfl
        rw[yjT (ypa _) hd,yeT (ypa _) hd]
        exact (hg.fr _).mono hm
       refine yhb (ih1 (rY:=ks1.nx) (F:={C:=F.C,S:=F.S,L:=F.L,N:=c2.N,I:=F.I,Y:=some (id,_),rd:=false}) hB2 rfl hS hL rfl hI (fun _=>rfl) (.inr hRm2) ?_ c2.body _ _ ξ1 _ (show KOk (rngK c2.N (a'++ .yld ks1.nx::c') (f0 .ready) ks1) from hk1) hγ2 (fun y hy=>by cases hy;show lkR ((id, .yl ks1.nx)::ts1.rg) id=_;rw[yii,if_pos rfl]) h2) ?_
       ·intro y hy L i o x args t χt ds X Qd e0 hg ho hγt hkt hlk hrun k
        cases hy
        simp only at hlk hrun
        refine yCt fun _=>RE.bind (yAe (N:=c2.N) hB2 hC χt ds hkt hγt) fun ks3 _ ⟨hk3,ξ3,hγ3⟩=>(yqQ (hh:=t.h) (R:=R.push ks1.nx f0) (N:=c2.N) (fun H n q=>by rw[ywL] at q;exact q) hB2 hC hk3 (ypD hγ3) .refl hrun).mono fun ks4 ⟨env2,h4,hk4,ξ4,hγ4⟩=> ?_
        have hrg4:(bdT F.C τY (tagT τY (er t)).rg t.h env2).rg=(tagT τY (er t)).rg:=rfl
        have hh4:(bdT F.C τY (tagT τY (er t)).rg t.h env2).h=t.h:=rfl
        generalize bdT F.C τY (tagT τY (er t)).rg t.h env2=t4 at h4 hγ4 hrg4 hh4
        split at h4
        case h_2=>exact h4.elim
        rename_i _ _ tl hcond4 hth
        simp only[Bool.and_eq_true] at hcond4
        obtain ⟨⟨⟨q1,q2⟩,q3⟩,q4⟩:=hcond4
        have hext4:ExtR t.rg t4.rg:=by rw[hrg4];exact yeJ τY (er t)
        have hlk4:=hext4 _ _ hlk
        have hx4:=ymq q2 (hγ4.tea x) hlk4
        have hy4:=ymq q1 (hγ4.fr c2.N) hlk4
        have hp4:=hγ4.hp
        rw[hh4,hth] at hp4
        have hH4:=(RR.push_out hp4).1
        refine yCI hB2 e0 (yBK hγ4 q4) ho hx4 hy4 hH4 htm hxs (nbeq.1 q3) hps hA hBd fun B3 _ l hB3=> ?_
        have hγ5:GM P F.C (R.push ks1.nx f0) (yldS c2.N F.N (ps.toList.zip (args.map (tea t4.fr))) t4) ξ4 (ofK (yldK c2.N F.N (ps.toList.zip (args.map (ev (lkF ks4.fr)))) ks4)):=by
         refine GM.frame hγ4 .refl rfl (fun t'=> ?_) hγ4.hp
         have hm:Mono t4 (yldS c2.N F.N (ps.toList.zip (args.map (tea t4.fr))) t4) ξ4 ξ4:=⟨fun _ _ q=>q,fun _ _ q=>q,fun _ _ _=> .inr ⟨rfl,rfl⟩⟩
         refine yCK ps.toList (args.map (tea t4.fr)) (args.map (ev (lkF ks4.fr))) _ _ ((TL.tea hγ4 args).mono hm) (fun t'=> ?_) t'
         rw[yu0,ym4]
         have hbase:∀ {b1 b2:Bool},(b1=false->lkT (reix (acx (c2.N+1) F.N) t4.fr) t'= .un)->(b2=false->lkF (reix (acx (c2.N+1) F.N) ks4.fr) t'= .un)->True:=fun _ _=>trivial
         by_cases ht:t'<F.N
         ·have hg1:acx (c2.N+1) F.N (t'+(c2.N+1))=some t':=yju.2 ⟨rfl,ht⟩
          have hno:∀s,upx F.N s≠some t':=fun s e=>by simp only[upx,Option.some.injEq] at e;omega
          have e1:(if memV (reix (acx (c2.N+1) F.N) t4.fr) t'=true then lkT (reix (acx (c2.N+1) F.N) t4.fr) t' else lkT (reix (upx F.N) t4.fr) t')=lkT t4.fr (t'+(c2.N+1)):=by
           split
           ·exact yjT (ykj _ _) hg1 _
           ·rename_i hm'
            rw[ygV hno]
            exact (yhE (ykj _ _) hg1 _ (by simpa using hm')).symm
          have e2:(if memI (reix (acx (c2.N+1) F.N) ks4.fr) t'=true then lkF (reix (acx (c2.N+1) F.N) ks4.fr) t' else lkF (reix (upx F.N) ks4.fr) t')=lkF ks4.fr (t'+(c2.N+1)):=by
           split
           ·exact yeT (ykj _ _) hg1 _
           ·rename_i hm'
            rw[yf2 hno]
            exact (yga (ykj _ _) hg1 _ (by simpa using hm')).symm
          rw[e1,e2]
          exact (hγ4.fr _).mono hm
         ·have hno:∀s,acx (c2.N+1) F.N s≠some t':=fun s e=>ht (yju.1 e).2
          have hg1:upx F.N (t'-F.N)=some t':=by simp only[upx,Option.some.injEq];omega
          rw[ym9 hno,yjF hno,if_neg (by simp),if_neg (by simp),yjT (ykw _) hg1,yeT (ykw _) hg1]
          exact (hγ4.fr _).mono hm
        refine yhb (ih2 (rY:=0) (F:={C:=F.C,S:=F.S,L:=F.L,N:=F.N,I:=F.I,Y:=none,rd:=true}) hB3 rfl hS hL rfl hI (fun e=>by cases e) (.inr hRm2) YOk.none aA _ _ ξ4 _ (show KOk (yldK c2.N F.N (ps.toList.zip (args.map (ev (lkF ks4.fr)))) ks4) from hk4) hγ5 (fun y e=>by cases e) h4) fun e ks6 hq6=> ?_
        obtain ⟨hk6,t6,χ6,hγ6,hx6,hq6⟩:=hq6
        cases e with
        |x id'=>exact hq6.elim
        |r=>exact hq6.elim
        | n=>
          simp only[asgT] at hq6
          split at hq6
          case h_2=>exact hq6.elim
          rename_i _ _ h6 hy6 hh6
          have hp6:=hγ6.hp
          rw[hh6] at hp6
          have hlk6:=hx6 _ _ hlk4
          refine ⟨(RR.push_out hp6).1,ymq hy6 (hγ6.fr _) hlk6,?_⟩
          have hγ7:GM P F.C (R.push ks1.nx f0) (setS (.busy::h6) t6) χ6 (ofK (ygP ks1.nx (f0 .busy) ks6)):=
           GM.frame hγ6 .refl rfl (fun t'=>TR.mono (ts:=t6) (ts':=⟨t6.fr,t6.od,t6.nw,t6.rg, .busy::h6⟩) (χ:=χ6) (χ':=χ6) ⟨fun _ _ q=>q,fun _ _ q=>q,fun _ _ _=> .inr ⟨rfl,rfl⟩⟩ (hγ6.fr t')) (RR.push_set (st':= .busy) hp6)
          refine yhb (ih3 (rY:=0) (F:={C:=F.C,S:=F.S,L:=F.L,N:=F.N,I:=F.I,Y:=none,rd:=true}) hB3 rfl hS hL rfl hI (fun e=>by cases e) (.inr hRm2) YOk.none aB _ _ χ6 _ (show KOk (ygP ks1.nx (f0 .busy) ks6) from hk6) hγ7 (fun y e=>by cases e) hq6) fun e ks8 hq8=> ?_
          obtain ⟨hk8,t8,χ8,hγ8,hx8,hq8⟩:=hq8
          simp only[rndT] at hq8
          split at hq8
          case h_2=>exact hq8.elim
          rename_i _ _ h8 hy8 hh8
          have hp8:=hγ8.hp
          rw[hh8] at hp8
          have hlk8:=hx8 _ _ hlk6
          refine ⟨(RR.push_out hp8).1,ymq hy8 (hγ8.fr _) hlk8,?_⟩
          have hext8:ExtR t.rg t8.rg:=(hext4.trans hx6).trans hx8
          have key:∀(st:RS) (b:Bool),X b (bkS F.N (st::h8) t8)→WD P B2 c2.N none L (i+1) Qd ((ofK (bkK F.N (ygP ks1.nx (f0 (lsR st)) ks8))).put o.dst (.bl b)):=fun st b hX=>
           k b (bkS F.N (st::h8) t8) χ8 (bkK F.N (ygP ks1.nx (f0 (lsR st)) ks8)) (show GM P F.C (R.push ks1.nx f0) (bkS F.N (st::h8) t8) χ8 (ofK ⟨reix (dnx F.N) ks8.fr,ks8.mem,fun o=>if o=ks1.nx then some (f0 (lsR st)) else ks8.H o,ks8.nx⟩) from hbk F.N hγ8 rfl (RR.push_set (st':=st) hp8)) hk8 hext8 hX
          cases e with
          |n=>exact key .rdy true hq8
          |r=>exact key .ret false hq8
          |x i'=>exact key (.ex i') false hq8
       ·rintro e ks9 ⟨hk9,t9,χ9,hγ9,hx9,hq9⟩
        have hlk9:lkR t9.rg id=some (.yl ks1.nx):=hx9 _ _ (by show lkR ((id, .yl ks1.nx)::ts1.rg) id=_;rw[yii,if_pos rfl])
        have hext9:ExtR ts.rg t9.rg:=((yeJ τ ts).trans (by rw[<-hrg];exact hx1)).trans hx9
        have fin:∀e,(∀i,e≠ .x i)→rngT id c2.N Q e t9→rngQ ks1.nx c2.N (Kq P F.C R ts.rg Q) e ks9:=by
         intro e he hq9
         have hq9:(match isY id (lkT t9.fr c2.N),t9.h with
          |true, .rdy::h=>Q .n (dnS c2.N h t9)
          |true, .ret::h=>Q .r (dnS c2.N h t9)
          |true, .ex i::h=>Q (.x i) (dnS c2.N h t9)
          |_,_=>False):=by
          cases e with
          |x i=>exact absurd rfl (he i)
          |n=>exact hq9
          |r=>exact hq9
         have goal:lkF ks9.fr c2.N= .yld ks1.nx∧∃j,lsOf (ks9.H ks1.nx)=some j∧(match j with
          | .busy=>False
          | .ready=>Kq P F.C R ts.rg Q .n (dnK ks1.nx c2.N ks9)
          | .ret=>Kq P F.C R ts.rg Q .r (dnK ks1.nx c2.N ks9)
          | .exit id=>Kq P F.C R ts.rg Q (.x id) (dnK ks1.nx c2.N ks9)):=by
          have hp9:=hγ9.hp
          have key:∀ {st:RS} {h:List RS} {e':AEx},t9.h=st::h→Q e' (dnS c2.N h t9)→lsOf (ks9.H ks1.nx)=some (lsR st)∧Kq P F.C R ts.rg Q e' (dnK ks1.nx c2.N ks9):=by
           intro st h e' hh hQ
           rw[hh] at hp9
           obtain ⟨a1,a2⟩:=RR.push_out hp9
           refine ⟨by rw[show ks9.H ks1.nx=_ from a1];rfl,hk9,dnS c2.N h t9,χ9,hbk (c2.N+1) hγ9 rfl a2,hext9,hQ⟩
          split at hq9
          ·rename_i h hy hh
           obtain ⟨a1,a2⟩:=key hh hq9
           exact ⟨ymq hy (hγ9.fr _) hlk9,_,a1,a2⟩
          ·rename_i h hy hh
           obtain ⟨a1,a2⟩:=key hh hq9
           exact ⟨ymq hy (hγ9.fr _) hlk9,_,a1,a2⟩
          ·rename_i i h hy hh
           obtain ⟨a1,a2⟩:=key hh hq9
           exact ⟨ymq hy (hγ9.fr _) hlk9,_,a1,a2⟩
          ·exact hq9.elim
         cases e with
         |x i=>exact absurd rfl (he i)
         |n=>exact goal
         |r=>exact goal
        cases e with
        |x i=>exact hq9.elim
        |n=>exact fin .n (fun i e=>by cases e) hq9
        |r=>exact fin .r (fun i e=>by cases e) hq9
   |_=>exact h.elim
end
theorem yuZ {c:ye0} {Q Q':AEx→KS→Prop} {ks:KS} (h:WK P B N ro c Q ks) (hq:∀e ks,KOk ks→Q e ks→RE B N (toS ks) (Q' e)):WK P B N ro c Q' ks:=by
 have _:=(inferInstance:GB P B)
 intro x hx a G hR
 refine wpIn_mono (h x hx a G hR) ?_
 rintro e a' w' ⟨ks1,G1,h1,h2,h3⟩
 have go:∀e',Q e' ks1→∃ks2 G2,RelK B N ks2 a' G2∧G2.w=w'∧Q' e' ks2:=by
  intro e' h3
  obtain ⟨ks2,G2,k1,k2,k3⟩:=hq e' ks1 h1.2 h3 a' G1 h1.1
  exact ⟨ks2,G2,k2,by rw[k1,h2],k3⟩
 cases e with
 |normal=>exact go .n h3
 |exit id=>exact go (.x id) h3
 |ret=>exact go .r h3
 |goto l=>exact h3.elim
 |panic ch=>exact h3.elim
 |outgrown=>exact h3.elim
theorem yzw {ks:KS} (hk:KOk ks) (hγ:GM P C R ts χ (ofK ks)) {q:Nat×Option Nat} {u:TV K} (h:resT ts q=some u):∃v,res1 (toS ks) q=some v∧TR P C ts χ u v:=by
 have box:∀ {t s c o e:Nat} {cs:List (TV K)},(lkT ts.fr t).s= .px s c o→ts.tb s c=some (.box e cs)→∃kb:KB,(toS ks).fr t= .pt (.l s c) o∧tgt (toS ks) (.pt (.l s c) o)=some (kb.cells,o)∧TL P C ts χ cs kb.cells:=by
  intro t s c o e cs e1 e2
  have ht:=(hγ.fr t).s
  rw[e1] at ht
  obtain ⟨kb,h1,h2⟩:=hγ.mb s c _ e2 (hγ.box e2)
  refine ⟨kb,ht.pxi,?_,h2.2.2.1,h2.2.2.2⟩
  have hz:=(yhn hk s c kb h1).1
  show ((toS ks).M (.l s c)).bind _=_
  rw[<-ygZ]
  show (((ofK ks).kb s c).map KB.blk).bind _=_
  rw[h1]
  exact if_neg hz
 unfold resT at h
 split at h
 ·cases h;exact ⟨_,rfl,hγ.fr _⟩
 ·split at h
  ·rename_i s c o e1
   split at h
   ·rename_i e cs e2
    obtain ⟨kb,b1,b2,b3⟩:=box e1 e2
    obtain ⟨v,h1,h2⟩:=b3.at' h
    exact ⟨v,by simp only[res1,b1,b2,Option.bind_some];exact h1,h2⟩
   ·cases h
  ·cases h
 ·rename_i t sz
  split at h
  ·rename_i s c o e1
   split at h
   ·rename_i e cs e2
    obtain ⟨kb,b1,b2,b3⟩:=box e1 e2
    obtain ⟨v,h1,h2⟩:=yow b3 h
    refine ⟨v,?_,h2⟩
    simp only[res1,b1,b2,Option.bind_some]
    simp only[kld] at h1
    exact h1
   ·cases h
  ·cases h
theorem yoW {ks:KS} (hk:KOk ks) (hγ:GM P C R ts χ (ofK ks)):∀(l:List (Nat×Option Nat)) (us:List (TV K)),ydX ts l=some us→∃vs,resL (toS ks) l=some vs∧TL P C ts χ us vs
 | [],us,h=>by cases h;exact ⟨[],rfl, .nil⟩
 | q::l,us,h=>by
   simp only[ydX] at h
   split at h
   ·rename_i v vs h1 h2
    cases h
    obtain ⟨a,a1,a2⟩:=yzw hk hγ h1
    obtain ⟨az,b1,b2⟩:=yoW hk hγ l vs h2
    exact ⟨a::az,by simp only[resL,a1,b1], .cons a2 b2⟩
   ·cases h
theorem ywf (hC:CxOk P C):∀(rs:List Nat) (us:List (TV K)) (vs:List AV) (p:List (DV K)→Prop),outR C rs us p→TL P C ts χ us vs→∃xs,p xs∧noLs vs=true∧dwks vs=xs.map (dvA C)
 | [],[],vs,p,h,t=>by
   have:vs= []:=List.eq_nil_of_length_eq_zero t.1
   subst this;exact ⟨[],h,rfl,rfl⟩
 | r ::rs,u::us,vs,p,h,t=>by
   cases vs with
   |nil=>simp[TL] at t
   | cons v vs=>
     simp only[outR] at h
     split at h
     ·rename_i x e
      obtain ⟨xs,a1,a2,a3⟩:=ywf hC rs us vs _ h t.head.2
      obtain ⟨b1,b2,_⟩:=yo9 hC e t.head.1
      exact ⟨.v r x::xs,a1,by simp[noLs,b2,a2],by simp only[dwks,List.map_cons,a3,b1];rfl⟩
     ·exact h.elim
 | [],_::_,_,_,h,_=>h.elim
 |_::_,[],_,_,h,_=>h.elim
theorem yBn:∀ {x r:List (DV K)},eqR x r→x=r:=by
 have one:∀ {t t':Nat} {x:K t} {y:K t'},(if h:t=t' then h▸x=y else False)→(DV.v t x:DV K)= .v t' y:=by
  intro t t' x y h
  split at h
  ·rename_i e;subst e;subst h;rfl
  ·exact h.elim
 intro x
 induction x with
 |nil=>intro r h;cases r with|nil=>rfl|cons=>exact h.elim
 | cons a x ih=>
   intro r h
   cases r with
   |nil=>cases a<;>first|exact h.elim|(cases x<;>exact h.elim)
   | cons b r=>
     cases a with
     | v t y=>
       cases b with
       | v t' z=>
         cases x with
         | nil=>
           cases r with
           |nil=>rw[one h]
           |cons=>cases ih h.2
         | cons c x=>
           have h':(if h:t=t' then h▸y=z else False)/\eqR (c::x) r:=h
           rw[one h'.1,ih h'.2]
       |_=>cases x<;>cases r<;>exact h.elim
     |_=>cases b<;>cases x<;>cases r<;>exact h.elim
theorem ysK (hB:yds B) (hC:CxOk P C) (res:List (Nat×Option Nat)):∀(n:Nat) (ts:TS K),REk P C R B N ts (retF C res ts n)
 |0,ts=> .refl
 | n+1,ts=>by
   have _:=(inferInstance:GB P B)
   simp only[retF]
   split
   ·split
    ·exact .refl
    ·exact (ytg hB hC 9 _ ts).trans (ysK hB hC res n _)
   ·exact .refl
theorem yvG (hC:CxOk P C):∀(ps:List PD) (env:List (AD K)) (i:Nat),env.length=ps.length→(∀F,AD.f F∈env→FOk P C F)→∀t,TR P C ts χ (lkT (entT C ps env i) t) (lkF (entF (ye6 C ps env) i) t)
 | [],[],i,_,_,t=> .un _
 | [],_::_,i,h,_,t=>by simp at h
 |_::_,[],i,h,_,t=>by simp at h
 | p ::ps,x::env,i,h,hF,t=>by
   have ih:=yvG hC ps env (i+1) (by simpa using h) (fun F hf=>hF F (List.mem_cons_of_mem _ hf)) t
   have bad:TR P C ts χ (lkT ([]:List (Nat×TV K)) t) (lkF (entF (ye6 C (p::ps) (x::env)) i) t):= .un _
   have cons:∀ {u:TV K},TR P C ts χ u (penc C p x)→TR P C ts χ (lkT ((i,u)::entT C ps env (i+1)) t) (lkF (entF (ye6 C (p::ps) (x::env)) i) t):=by
    intro u hu
    show TR P C ts χ _ (lkF ((i,penc C p x)::entF (ye6 C ps env) (i+1)) t)
    rw[ycn,yby]
    simp only
    split
    ·exact hu
    ·exact ih
   cases p with
   | v t'=>
     cases x with
     | d y=>
       cases y with
       | v t2 z=>
         simp only[entT]
         refine cons ?_
         split
         ·rename_i e;subst e;exact (ymR hC t2 z).1
         ·exact .un _
       |_=>exact bad
     |f F=>exact bad
   | p t' =>
     cases x with
     | d y=>
       cases y with
       | v t2 z=>
         simp only[entT]
         refine cons ?_
         split
         ·rename_i e;subst e
          have:penc C (.p t2) (.d (.v t2 z))= .ep ((C.E t2).c z) (0*(C.E t2).sz+0):=by simp[penc]
          rw[this]
          exact .ep t2 [z] 0 0 _ (by simp[cl,hC.dw])
         ·exact .un _
       |_=>exact bad
     |f F=>exact bad
   | f az bs=>
     cases x with
     |d y=>exact bad
     | f F=>
       simp only[entT]
       exact cons (.fv az bs F _ (hF F List.mem_cons_self) (hF F List.mem_cons_self).2.1)
theorem yqg (hC:CxOk P C):∀(ps:List PD) (env:List (AD K)),(∀F,AD.f F∈env→FOk P C F)→noLs (ye6 C ps env)=true
 | [],_,_=>by simp[ye6,noLs]
 |_::_,[],_=>by simp[ye6,noLs]
 | p ::ps,x::env,hF=>by
   have ih:=yqg hC ps env (fun F hf=>hF F (List.mem_cons_of_mem _ hf))
   have dv:∀y:DV K,(dvA C y).noL=true:=by
    intro y
    cases y with
    |v t z=>exact (ymR (P:=P) (ts:=⟨[],[],[],[],[]⟩) (χ:=fun _ _=>false) hC t z).2.1
    |_=>rfl
   simp only[ye6,noLs,ih,Bool.and_true]
   cases x with
   |f F=>cases p<;>exact (hF F List.mem_cons_self).1
   | d y =>
     cases p with
     | p t'=>
       cases y with
       | v t2 z=>
         simp only[penc]
         split<;>rfl
       |_=>rfl
     |_=>exact dv y
theorem yqG (C:Cx K):∀(ps:List PD) (env:List (AD K)),env.length=ps.length→(ye6 C ps env).length=ps.length
 | [],[],_=>rfl
 | [],_::_,h=>by simp at h
 |_::_,[],h=>by simp at h
 |p::ps,x::env,h=>by simp only[ye6,List.length_cons];rw[yqG C ps env (by simpa using h)]
end
mutual
theorem yxc (m:Nat):∀u:AV,hlt m (dwk u)=hlt m u
 | .agg cs=>by simp only[dwk,hlt];exact ygX m cs
 | .tup cs=>by simp only[dwk,hlt];exact ygX m cs
 | .fn f a c=>by simp only[dwk,hlt,ygX m a,ygX m c]
 | .sl z n xs=>by simp only[dwk,hlt];exact ygX m xs
 | .ep xs off=>by simp only[dwk,hlt];exact ygX m xs
 | .gs k n=>rfl
 | .pt k n=>rfl
 | .bl b=>rfl
 | .it k n=>rfl
 | .st s=>rfl
 | .nptr=>rfl
 | .nfn=>rfl
 | .un=>rfl
 | .yld o=>rfl
 | .rcd _ _ _ _ _=>rfl
theorem ygX (m:Nat):∀l:List AV,hlts m (dwks l)=hlts m l
 | []=>rfl
 |u::r=>by simp only[dwks,hlts,yxc m u,ygX m r]
end
theorem yyh {P:Program} {C:Cx K} (hC:CxOk P C) (r:List (DV K)) (m:Nat):hlt m (ydJ (r.map (dvA C)))=true:=by
 have one:∀x:DV K,hlt m (dvA C x)=true:=by
  intro x
  cases x with
  | v t y=>
    have h:=hC.hl t y m
    show hlt m (match (C.T t).g with|true=> .agg ((C.E t).c y)|false=>((C.E t).c y).headD .un)=true
    split
    ·simpa only[hlt] using h
    ·cases hq:(C.E t).c y with
     |nil=>rfl
     |cons a b=>rw[hq] at h;simp only[hlts,Bool.and_eq_true] at h;exact h.1
  |_=>rfl
 have all:∀l:List (DV K),hlts m (l.map (dvA C))=true:=by
  intro l
  induction l with
  |nil=>rfl
  |cons x l ih=>simp only[List.map_cons,hlts,one x,ih,Bool.and_self]
 match r with
 | []=>rfl
 | [x]=>exact one x
 |x::y::l=>have:=all (x::y::l);simpa only[List.map_cons,ydJ,hlt] using this
theorem yBw {P:Program} {F:Cf K} (hC:CxOk P F.C) (hS:SsOk P F.C F.S) (hL:SLOk P F.C F.L) {f:FuncId} {c:AFn} (hF:trF P f=some c) {A:An K} {ps:List PD} {rs:List Nat} (hN:F.N=c.N) (hps:ps.length≤c.N) {env:List (AD K)} {r:List (DV K)} (hlen:env.length=ps.length) (hFs:∀G,AD.f G∈env→FOk P F.C G)
  (h:DnF F A c ps rs env r) (hI:IOk P F.I) (hY:F.Y=none):Pure P f (ye6 F.C ps env) (ydJ (r.map (dvA F.C))):=by
 intro H n
 refine ybc.dwkR (ybc.shr (Post:=fun av=>dwk av=ydJ (r.map (dvA F.C))) ?_ fun av hP m=>by rw[<-yxc,hP];exact yyh hC r m)
 refine yuT hF (by rw[yqG _ _ _ hlen];exact hps) (yqg hC ps env hFs) fun B _ hB=> ?_
 let R:RR K:=⟨fun _ H' n'=>H'=H/\n<=n',fun _=>false⟩
 let ks0:KS:=entK (ye6 F.C ps env) H n
 let ts0:TS K:=⟨entT F.C ps env 0,[],[],[],[]⟩
 have hk0:KOk ks0:=fun d b hb=>by cases hb
 have hg0:GM P F.C R ts0 (fun _ _=>false) (ofK ks0):=by
  refine ⟨fun t=>yvG hC ps env 0 hlen hFs t,fun s c b hb _=> ?_,fun s c h=>by (cases h),fun s _=>rfl,⟨rfl,Nat.le_refl _⟩,fun s b _ hb=>(by cases hb)⟩
  rcases tb_c hb with rfl|rfl<;>cases hb
 have hmain:=yB5 hC A (ro:=none) (R:=R) (rY:=0) hB rfl hS hL hN hI (fun _=>rfl) (.inr fun _ _ _ _ q hm=>⟨q.1,Nat.le_trans q.2 hm⟩) (by rw[hY];exact YOk.none) c.body _ ts0 _ ks0 hk0 hg0 (fun y e=>by rw[hY] at e;cases e) h
 refine yuZ hmain fun e ks hk hq=> ?_
 obtain ⟨_,ts,χ,hγ,_,hq⟩:=hq
 have fin:retD F.C c.res rs (fun x=>eqR x r) .r ts→RE B c.N (toS ks) (retK c.res (fun av H' n'=>dwk av=ydJ (r.map (dvA F.C))∧H'=H∧n≤n') .r):=by
  intro hq
  simp only[retD] at hq
  refine (ysK hB hC c.res 9 ts χ ks hk hγ).mono fun ks' ⟨hk',ξ,hγ'⟩=> ?_
  split at hq
  ·rename_i us hus
   obtain ⟨vs,h1,h2⟩:=yoW hk' hγ' c.res us hus
   obtain ⟨xs,h3,h4,h5⟩:=ywf hC rs us vs _ hq h2
   have:=yBn h3
   subst this
   show wpv (resA (toS ks') c.res) _
   unfold resA
   rw[h1]
   have hA:∀(vs:List AV) (xs:List AV),noLs vs=true→dwks vs=xs→(match vs with| [u]=>u|us=>AV.tup us).noL=true∧dwk (match vs with| [u]=>u|us=>AV.tup us)=ydJ xs:=by
    intro vs xs hn hd
    match vs,hn,hd with
    | [],_,hd=>subst hd;exact ⟨rfl,rfl⟩
    | [v],hn,hd=>subst hd;exact ⟨by simpa [noLs] using hn,rfl⟩
    |v::v'::vs,hn,hd=>subst hd;exact ⟨hn,rfl⟩
   obtain ⟨a1,a2⟩:=hA vs _ h4 h5
   exact ⟨a1,by rw[yop];exact a2,hγ'.hp.1,hγ'.hp.2⟩
  ·exact hq.elim
 cases e with
 |x id=>exact hq.elim
 |r=>exact fin hq
 |n=>exact fin hq
end Go.AV
end
noncomputable section
namespace Go.AV
open Go.RowKit Go.RG Go.Lib
variable {K:Nat->Type}
section
variable {P:Program} {C:Cx K} {ts:TS K} {χ:Nat->Nat->Bool}
theorem yDe {P:Program} {C:Cx K} {R:RR K} {ts:TS K} {χ:Nat→Nat→Bool} {ks:KS} (hk:KOk ks) (hγ:GM P C R ts χ (ofK ks)) {s:Nat} {b:TB K} (hb:lkB ts.od s=some b) (hx:χ s 1=false):BW (ks.M (.l s 1)) (some (bT C ts χ b)):=by
 obtain ⟨kb,h1,h2⟩:=hγ.mb s 1 b hb hx
 have h1':lkO (yqA ks.mem) s=some kb:=h1
 rw[yij] at h1'
 have:ks.M (.l s 1)=some kb.blk:=by rw[M_l1,h1'];rfl
 rw[this]
 exact h2.canon (hk s kb h1').1
theorem yBI {us:List (TV K)} {vs:List AV} (t:TL P C ts χ us vs):VWs vs (aTs C ts χ us):=by
 refine ⟨by rw[ycZ,List.length_map];exact t.1,fun j u v p q=> ?_⟩
 rw[ycZ,List.getElem?_map] at q
 obtain ⟨x,e1,rfl⟩:=Option.map_eq_some_iff.1 q
 exact (t.2 j x u e1 p).canon
theorem yAm (vs:List AV):(match vs with| [u]=>u|us=>AV.tup us)=ydJ vs:=by
 cases vs with
 |nil=>rfl
 |cons a r=>cases r<;>rfl
theorem yzI {vs ws:List AV} (h:VWs vs ws):VW (ydJ vs) (ydJ ws):=by
 match vs,ws,h with
 | [],[],h=>exact VW.tup h
 | [v],[w],h=>exact h.2 0 v w rfl rfl
 |v::v'::r,w::w'::q,h=>exact VW.tup h
 | [],_::_,h=>simp[VWs] at h
 |_::_,[],h=>simp[VWs] at h
 | [_],_::_::_,h=>simp[VWs] at h
 |_::_::_,[_],h=>simp[VWs] at h
def endS (C:Cx K) (t:TS K) (χ:Nat→Nat→Bool) (S:St):St:={S with M:=fun k=>match k with
 | .h o=>S.M (.h o)
 | .l d c=>if c=1 then (match lkB t.od d with
   |some b=>if χ d 1=true then S.M (.l d c) else some (bT C t χ b)
   |none=>S.M (.l d c)) else S.M (.l d c)}
theorem BW.refl {S:St} {k:Key} (h:∀b,S.M k=some b→b.sz≠0):BW (S.M k) (S.M k):=by
 cases hb:S.M k with
 |none=>trivial
 |some b=>exact ⟨h b hb,rfl,rfl,rfl,fun j u v p q=>by rw[p] at q;cases q;exact VW.refl _⟩
end
def EndG (C:Cx K) (sp:Sl K) (ts0:TS K) (χ:Nat→Nat→Bool) (out:List (DV K)) (H:Hp) (n:Nat) (av:AV) (S1:St):Prop:=
 ∃env' χ',wt (ctT sp.to) env'=true∧kpt ts0 (bdT C sp.to [] [] env') sp.kp (eqDV (selL sp env') out)∧ViOk (bdT C sp.to [] [] env') χ'∧(∀s b,2000000≤s→(bdT C sp.to [] [] env').tb s 1=some b→χ' s 1=χ s 1)∧
  (∃us,ydX (bdT C sp.to [] [] env') sp.res=some us/\av=ydJ (aTs C (bdT C sp.to [] [] env') χ' us))/\S1.hp=H/\n<=S1.nx/\(∀d,S1.cnt d=1)/\
  ∀s b,lkB (bdT C sp.to [] [] env').od s=some b->χ' s 1=false->S1.M (.l s 1)=some (bT C (bdT C sp.to [] [] env') χ' b)
section
variable {P:Program} {C:Cx K} {ts:TS K} {χ:Nat->Nat->Bool} {m:Nat}
theorem ywI (m:Nat) (a b:List AV):hlts m (a++b)=(hlts m a&&hlts m b):=by
 induction a with
 |nil=>simp[hlts]
 |cons x a ih=>simp[hlts,ih,Bool.and_assoc]
theorem ywo (hC:CxOk P C) (e:Nat) (l:List (K e)):hlts m (cl (C.E e) l)=true:=by
 induction l with
 |nil=>rfl
 |cons x l ih=>show hlts m ((C.E e).c x++cl (C.E e) l)=true;rw[ywI,hC.hl,ih];rfl
theorem yBr:∀l:List Str,hlts m (l.map .st)=true
 | []=>rfl
 |_::r=>by simp only[List.map_cons,hlts,hlt,yBr r];rfl
mutual
theorem yy6 (hC:CxOk P C):∀v:TV K,noyV v=true→hlt m (aT C ts χ v)=true
 | .lb b,_=>rfl
 | .bl b,_=>rfl
 | .li k n,_=>rfl
 | .it k n,_=>rfl
 | .st s,_=>rfl
 | .agg cs,h=>by simp only[noyV] at h;simp only[aT,hlt];exact ygb hC h
 | .tup cs,h=>by simp only[noyV] at h;simp only[aT,hlt];exact ygb hC h
 | .nil,_=>rfl
 | .em,_=>rfl
 | .sl e l,_=>by simp only[aT,slA,hlt];exact ywo hC e l
 | .rw s c,_=>by
   simp only[aT]
   split
   ·split<;>rfl
   ·rfl
 | .px s c o,_=>rfl
 | .pr e s c i of,_=>rfl
 | .ep e l i of,_=>by simp only[aT,hlt];exact ywo hC e l
 | .gs l i,_=>by simp only[aT,hlt];exact yBr l
 | .nptr,_=>rfl
 | .fn f a c,h=>by simp only[noyV,Bool.and_eq_true] at h;simp only[aT,hlt,Bool.and_eq_true];exact ⟨ygb hC h.1,ygb hC h.2⟩
 | .fv _ _ F,h=>by simp[noyV] at h
 | .yl r,h=>by simp[noyV] at h
 | .cn _ v,h=>by simp only[noyV] at h;simp only[aT];exact yy6 hC v h
 | .un,_=>rfl
theorem ygb (hC:CxOk P C):∀ {l:List (TV K)},ycM l=true→hlts m (aTs C ts χ l)=true
 | [],_=>rfl
 |v::r,h=>by simp only[ycM,Bool.and_eq_true] at h;simp only[aTs,hlts,Bool.and_eq_true];exact ⟨yy6 hC v h.1,ygb hC h.2⟩
end
theorem yvJ:∀ {l:List AV},hlts m l=true→hlt m (ydJ l)=true
 | [],_=>rfl
 | [v],h=>by simp only[hlts,Bool.and_true] at h;exact h
 |v::v'::r,h=>h
end
theorem ytI:∀ {l:List (TV K)} {j:Nat} {v:TV K},ycM l=true→l[j]? =some v→noyV v=true
 | [],_,_,_,h=>by simp at h
 |a::r,0,v,hn,h=>by simp only[ycM,Bool.and_eq_true] at hn;simp at h;exact h▸hn.1
 |a::r,j+1,v,hn,h=>by simp only[ycM,Bool.and_eq_true] at hn;simp at h;exact ytI hn.2 h
theorem ynQ:∀(n:Nat) {l:List (TV K)},ycM l=true→ycM (l.take n)=true
 |0,_,_=>by simp[ycM]
 |n+1,[],_=>rfl
 |n+1,a::r,h=>by simp only[ycM,Bool.and_eq_true] at h;simp only[List.take_succ_cons,ycM,Bool.and_eq_true];exact ⟨h.1,ynQ n h.2⟩
theorem yn4:∀(n:Nat) {l:List (TV K)},ycM l=true→ycM (l.drop n)=true
 |0,_,h=>by simpa using h
 |n+1,[],_=>rfl
 |n+1,a::r,h=>by simp only[ycM,Bool.and_eq_true] at h;simp only[List.drop_succ_cons];exact yn4 n h.2
section
variable {P:Program} {C:Cx K}
theorem yzC (hC:CxOk P C) (t:Nat) (x:K t):noyV (inV C t x)=true:=by
 have h:=hC.ny t x
 unfold inV
 split
 ·exact h
 ·split
  ·rename_i v e;rw[e] at h;simpa [ycM] using h
  ·rfl
mutual
theorem ywj (hC:CxOk P C):∀(k:Kd) (r:List (DV K)),noyV (bdV C [] k r).1=true
 | k,r=>by
   unfold bdV
   split
   all_goals first
    |rfl
    |(simp only[noyV];exact yid hC _ _)
    |(simp only[noyV,Bool.and_eq_true];exact ⟨yid hC _ _,yid hC _ _⟩)
    |((try dsimp only);split<;>first|rfl|exact yzC hC _ _|(simp only[lkR] at*;done)|(rename_i h;cases h))
theorem yid (hC:CxOk P C):∀(l:List Kd) (r:List (DV K)),ycM (bdVs C [] l r).1=true
 | [],r=>by simp[bdVs,ycM]
 |k::q,r=>by simp only[bdVs,ycM,Bool.and_eq_true];exact ⟨ywj hC k r,yid hC q _⟩
end
def tbNo:TB K→Bool
 | .box _ cs=>ycM cs
 | .row _ _=>true
 | .lrow _ _ cs=>ycM cs
structure NoY (ts:TS K):Prop where
 fr:∀t,noyV (lkT ts.fr t)=true
 od:∀s b,lkB ts.od s=some b->tbNo b=true
 nw:ts.nw= []
theorem ywn (hC:CxOk P C):∀(l:List (Nat×Kd)) (r:List (DV K)) (t:Nat),noyV (lkT (bdS C [] l r).1 t)=true
 | [],_,_=>rfl
 | k::q,r,t=>by
   simp only[bdS,lkT]
   split
   ·exact ywj hC _ _
   ·exact ywn hC q _ t
theorem yzU (hC:CxOk P C) (ks:List Kd) (env:List (DV K)):ycM (bdW C [] ks env).1=true:=by
 unfold bdW
 split
 ·split
  ·split
   ·dsimp only
    split
    ·exact hC.ny _ _
    ·rfl
   ·rfl
  ·exact yid hC _ _
 ·exact yid hC _ _
theorem yv5 {Pr:TB K→Prop}:∀(l:List (Nat×Option (TB K))),(∀p∈l,∀c,p.2=some c→Pr c)→∀s b,lkB l s=some b→Pr b
 | [],_,s,b,h=>by cases h
 | q::l,hl,s,b,h=>by
   simp only[lkB] at h
   split at h
   ·exact hl q List.mem_cons_self b h
   ·exact yv5 l (fun p hp=>hl p (List.mem_cons_of_mem _ hp)) s b h
theorem yvR (hC:CxOk P C):∀(l:List (Nat×Nat×List Kd)) (r:List (DV K)),∀p∈(bdB C [] l r).1,∀c,p.2=some c→tbNo c=true
 | [],_,p,hp=>by simp[bdB] at hp
 | k::q,r,p,hp=>by
   simp only[bdB] at hp
   rcases List.mem_cons.1 hp with rfl|hp
   ·intro c hc;cases hc;exact yzU hC _ _
   ·exact yvR hC q _ p hp
theorem yzA:∀(l:List (Nat×Nat)) (r:List (DV K)),∀p∈bdR (K:=K) l r,∀c,p.2=some c→tbNo c=true:=by
 intro l
 induction l with
 |nil=>intro r p hp;simp[bdR] at hp
 | cons k q ih=>
   intro r p hp
   cases r with
   |nil=>simp[bdR] at hp
   | cons x r=>
     cases x with
     | l e xs=>
       simp only[bdR] at hp
       rcases List.mem_cons.1 hp with rfl|hp
       ·intro c hc
        split at hc
        ·cases hc;rfl
        ·cases hc
       ·exact ih r p hp
     |_=>simp[bdR] at hp
theorem yAo (hC:CxOk P C) (τ:Tm) (env:List (DV K)):NoY (bdT C τ [] [] env):=
 ⟨fun t=>ywn hC _ _ t,yv5 _ fun p hp=>by
   rcases List.mem_append.1 hp with hp|hp
   ·exact yvR hC _ _ p hp
   ·exact yzA _ _ p hp,rfl⟩
theorem yyW {ts:TS K} (h:NoY ts) {s c:Nat} {b:TB K} (hb:ts.tb s c=some b):tbNo b=true:=by
 unfold TS.tb at hb
 split at hb
 ·exact h.od s b hb
 ·split at hb
  ·rw[h.nw] at hb;cases hb
  ·cases hb
theorem yu4 {ts:TS K} (h:NoY ts):∀(l:List (Nat×Option Nat)) (us:List (TV K)),ydX ts l=some us→ycM us=true
 | [],us,e=>by cases e;rfl
 | p ::r,us,e=>by
   simp only[ydX] at e
   split at e
   ·rename_i v vs h1 h2
    cases e
    simp only[ycM,Bool.and_eq_true]
    refine ⟨?_,yu4 h r vs h2⟩
    unfold resT at h1
    split at h1
    ·cases h1;exact h.fr _
    ·split at h1
     ·split at h1
      ·rename_i hb;exact ytI (show ycM _=true from yyW h hb) h1
      ·cases h1
     ·cases h1
    ·split at h1
     ·split at h1
      ·rename_i hb
       have hn:ycM _=true:=yyW h hb
       simp only[tldc] at h1
       split at h1
       ·cases h1;exact ynQ _ (yn4 _ hn)
       ·cases h1
      ·cases h1
     ·cases h1
   ·cases e
theorem yzv (hC:CxOk P C) {ts:TS K} {χ:Nat→Nat→Bool} {m:Nat} {b:TB K} (h:tbNo b=true):hlts m (bT C ts χ b).cells=true:=by
 cases b with
 |box e cs=>exact ygb hC h
 |row e l=>exact ywo hC e l
 |lrow e n cs=>exact ygb hC h
theorem yAE {ts:TS K} (h:NoY ts) {s:Nat} {b:TB K} (hb:lkB ts.od s=some b):tbNo b=true:=h.od s b hb
end
theorem yBA {P:Program} {F:Cf K} (hC:CxOk P F.C) (hS:SsOk P F.C F.S) (hL:SLOk P F.C F.L) {f:FuncId} {c:AFn} (hF:trF P f=some c) {A:An K} {sp:Sl K} (hf:sp.f=f) (hN:F.N=c.N) (hres:c.res=sp.res) (hnp:npL sp≤c.N)
  {fs:List (FV K)} {env out:List (DV K)} (hE:okS sp env=true) (hfs:∀G∈fs,FOk P F.C G) (h:DnL F A c sp fs env out) (hI:IOk P F.I) (hY:F.Y=none) {χ:Nat->Nat->Bool} (hv:ViOk (entL F.C sp fs env) χ) (H:Hp) (n:Nat):
  ybf P sp.f (argT F.C sp (entL F.C sp fs env) χ) (memT F.C (entL F.C sp fs env) χ) H n (EndL F.C sp (entL F.C sp fs env) χ out H n):=by
 subst hf
 let R:RR K:=⟨fun _ H' n'=>H'=H/\n<=n',fun s=>χ s 1⟩
 obtain ⟨g0,k0,m0⟩:=yC5 (R:=R) (H:=H) (n:=n) hC hE hfs hv ⟨rfl,Nat.le_refl _⟩ rfl
 have hal:(argT F.C sp (entL F.C sp fs env) χ).length<=c.N:=by unfold argT;simpa using hnp
 have main:=yuh (Post:=fun av ks=>∃ξ env' us vs,wt (ctT sp.to) env'=true∧GM P F.C R (bdT F.C sp.to [] [] env') ξ (ofK ks)∧kpt (entL F.C sp fs env) (bdT F.C sp.to [] [] env') sp.kp (eqDV (selL sp env') out)∧
   ydX (bdT F.C sp.to [] [] env') sp.res=some us/\TL P F.C (bdT F.C sp.to [] [] env') ξ us vs/\av=ydJ vs) hF hal m0 k0 fun B _ hB=>by
  have hmain:=yB5 hC A (ro:=none) (R:=R) (rY:=0) hB rfl hS hL hN hI (fun _=>rfl) (.inr fun _ _ _ _ q hm=>⟨q.1,Nat.le_trans q.2 hm⟩) (by rw[hY];exact YOk.none) c.body _ _ χ _ k0 g0 (fun y e=>by rw[hY] at e;cases e) h
  refine yuZ hmain fun e ks hk hq=> ?_
  obtain ⟨_,ts,χ',hγ,hx,hq⟩:=hq
  have fin:rdJ F.C sp.to (frF F.C sp ts) (fun env'=>match ydX (bdT F.C sp.to [] [] env') sp.res with|some _=>kpt (entL F.C sp fs env) (bdT F.C sp.to [] [] env') sp.kp (eqDV (selL sp env') out)|none=>False)→RE B c.N (toS ks) (yA3 c.res (fun av ks=>∃ξ env' us vs,wt (ctT sp.to) env'=true∧GM P F.C R (bdT F.C sp.to [] [] env') ξ (ofK ks)∧kpt (entL F.C sp fs env) (bdT F.C sp.to [] [] env') sp.kp (eqDV (selL sp env') out)∧
    ydX (bdT F.C sp.to [] [] env') sp.res=some us/\TL P F.C (bdT F.C sp.to [] [] env') ξ us vs/\av=ydJ vs) .r):=by
   intro hq
   have hfr:REk P F.C R B c.N ts (frF F.C sp ts):=by
    unfold frF
    split
    ·exact ysK hB hC sp.res 9 ts
    ·exact .refl
   refine RE.bind (hfr χ' ks hk hγ) fun ks0 hk ⟨_,ξ0,hγ⟩=> ?_
   refine (yqQ (rg:= []) (hh:= []) (fun _ _ h=>h) hB hC hk hγ (fun id w q=>by cases q) (yBL hq)).mono fun ks' ⟨env',⟨h0,h1⟩,h2,ξ,h3⟩=> ?_
   cases hu:ydX (bdT F.C sp.to [] [] env') sp.res with
   |none=>rw[hu] at h1;exact h1.elim
   | some us=>
     rw[hu] at h1
     obtain ⟨vs,r1,r2⟩:=yoW h2 h3 c.res us (by rw[hres];exact hu)
     show wpv (resA (toS ks') c.res) _
     unfold resA
     rw[r1]
     exact ⟨ξ,env',us,vs,h0,h3,h1,hu,r2,yAm vs⟩
  cases e with
  |x id=>exact hq.elim
  |r=>exact fin hq
  |n=>exact fin hq
 rw[yDa] at main
 refine ybf.shr (Post:=EndG F.C sp (entL F.C sp fs env) χ out H n) (main.canon ?_) fun av S1 hP=> ?_
 rotate_left
 ·obtain ⟨env',χ',h0,h2,hvi,hlv,⟨us,hus,rfl⟩,hH,hn,hcnt,hM⟩:=hP
  have ny:=yAo hC sp.to env'
  refine ⟨fun d=>(lkB (bdT F.C sp.to [] [] env').od d).isSome&& !χ' d 1,fun o=>by rw[<-hH];rfl,hn,?_,fun d b ht hb=> ?_,env',χ',h0,h2,hvi,hlv,⟨us,hus,rfl⟩,?_,rfl,fun d=>hcnt d,fun s b hb hx=> ?_⟩
  ·have:=yu4 ny sp.res us hus
   exact yvJ (ygb hC this)
  ·simp only[Bool.and_eq_true,Bool.not_eq_true'] at ht
   obtain ⟨tb,htb⟩:=Option.isSome_iff_exists.1 ht.1
   rw[hM d tb htb ht.2] at hb
   cases hb
   exact yzv hC (yAE ny htb)
  ·funext o;show S1.M (.h o)=H o;rw[<-hH];rfl
  ·show (if ((lkB (bdT F.C sp.to [] [] env').od s).isSome&& !χ' s 1)=true∧1=1 then S1.M (.l s 1) else none)=_
   rw[if_pos ⟨by rw[hb,hx];rfl,rfl⟩]
   exact hM s b hb hx
 rintro av S1 ⟨ks,rfl,hk,ξ,env',us,vs,h0,h1,h2,hus,h4,rfl⟩
 refine ⟨_,endS F.C (bdT F.C sp.to [] [] env') ξ (toS ks),yzI (yBI h4),rfl,rfl,fun o=>rfl,fun d c'=> ?_,env',ξ,h0,h2,h1.vi,fun s b q hb=>(h1.lv s b q hb).symm,⟨us,hus,rfl⟩,h1.hp.1,h1.hp.2,fun d=>rfl,fun s b hb hx=> ?_⟩
 ·have hz:∀b,(toS ks).M (.l d c')=some b→b.sz≠0:=by
   intro b hb
   obtain ⟨rfl,kb,e1,rfl⟩:=M_lc ks hb
   exact (hk d kb e1).1
  show BW _ (if c'=1 then _ else _)
  split
  ·rename_i e;subst e
   split
   ·rename_i b hb
    split
    ·exact BW.refl hz
    ·rename_i hx;exact yDe hk h1 hb (by simpa using hx)
   ·exact BW.refl hz
  ·exact BW.refl hz
 ·simp only[endS,hb,hx,Bool.false_eq_true,if_false,if_true]
theorem yt3 {c:CT} {x:DV K} {y:CTy K c} (h:outC c x=some y):x=inC c y:=by
 cases c with
 |i=>cases x<;>simp only[outC,outI] at h<;>cases h;rfl
 |b=>cases x<;>simp only[outC,yAz] at h<;>cases h;rfl
 |s=>cases x<;>simp only[outC,outS] at h<;>cases h;rfl
 | l e=>
   cases x with
   | l e' l=>
     simp only[outC,outL] at h
     obtain ⟨rfl,rfl⟩:=ye5 h
     rfl
   |_=>simp only[outC,outL] at h;cases h
 | v t=>
   cases x with
   | v t' x=>
     simp only[outC,outT] at h
     split at h
     ·rename_i e;subst e;cases h;rfl
     ·cases h
   |_=>simp only[outC,outT] at h;cases h
theorem yg9 {f:Cur K Prop []} {out:List (DV K)} (h:yr7 [] f out):out= []∧f:=by
 cases out with
 |nil=>exact ⟨rfl,h⟩
 |cons x r=>exact h.elim
theorem yhc {c:CT} {co:List CT} {f:Cur K Prop (c::co)} {out:List (DV K)} (h:yr7 (c::co) f out):∃(y:CTy K c) (r:List (DV K)),out=inC c y::r∧yr7 co (f y) r:=by
 cases out with
 |nil=>exact h.elim
 | cons x r=>
   have h:(match outC c x with|some y=>yr7 co (f y) r|none=>False):=h
   revert h
   cases e:outC c x with
   |none=>exact fun h=>h.elim
   |some y=>exact fun h=>⟨y,r,by rw[yt3 e],h⟩
theorem yj8 {co:List CT} {f:Cur K (Cur K Prop co) []} {env out:List (DV K)} (h:apIn co [] f env out):env= []∧yr7 co f out:=by
 cases env with
 |nil=>exact ⟨rfl,h⟩
 |cons x r=>exact h.elim
theorem ycQ {co:List CT} {c:CT} {ci:List CT} {f:Cur K (Cur K Prop co) (c::ci)} {env out:List (DV K)} (h:apIn co (c::ci) f env out):∃(y:CTy K c) (r:List (DV K)),env=inC c y::r∧apIn co ci (f y) r out:=by
 cases env with
 |nil=>exact h.elim
 | cons x r=>
   have h:(match outC c x with|some y=>apIn co ci (f y) r out|none=>False):=h
   revert h
   cases e:outC c x with
   |none=>exact fun h=>h.elim
   |some y=>exact fun h=>⟨y,r,by rw[yt3 e],h⟩
theorem yj1 {ci co:List CT} {f:FsTy K (Cur K (Cur K Prop co) ci) []} {fs:List (FV K)} {env out:List (DV K)} (h:apFs ci co [] f fs env out):fs= []∧apIn co ci f env out:=by
 cases fs with
 |nil=>exact ⟨rfl,h⟩
 |cons x r=>exact h.elim
theorem ynb {ci co:List CT} {p:Nat×List Nat×List Nat} {l:List (Nat×List Nat×List Nat)} {f:FsTy K (Cur K (Cur K Prop co) ci) (p::l)} {fs:List (FV K)} {env out:List (DV K)} (h:apFs ci co (p::l) f fs env out):∃(F:FV K) (r:List (FV K)),fs=F::r∧apFs ci co l (f (curF p.2.2 p.2.1 F.W)) r env out:=by
 cases fs with
 |nil=>exact h.elim
 |cons x r=>exact ⟨x,r,rfl,h⟩
def SlC (P:Program) (C:Cx K) (sp:Sl K) (fs:List (FV K)) (env out:List (DV K)):Prop:=∀χ,ViOk (entL C sp fs env) χ->∀H n,ybf P sp.f (argT C sp (entL C sp fs env) χ) (memT C (entL C sp fs env) χ) H n (EndL C sp (entL C sp fs env) χ out H n)
theorem yk6 {P:Program} {F:Cf K} (hC:CxOk P F.C) (hS:SsOk P F.C F.S) (hL:SLOk P F.C F.L) {f:FuncId} {c:AFn} (hF:trF P f=some c) {A:An K} {sp:Sl K} (hf:sp.f=f) (hN:F.N=c.N) (hres:c.res=sp.res) (hnp:npL sp≤c.N)
  {fs:List (FV K)} {env out:List (DV K)} (hE:okS sp env=true) (hfs:∀G∈fs,FOk P F.C G) {X:Prop} (h:X) (e:X=DnL F A c sp fs env out) (hI:IOk P F.I:=by exact fun f c h=>by cases h) (hY:F.Y=none:=by rfl):SlC P F.C sp fs env out:=fun χ hv H n=>yBA hC hS hL hF hf hN hres hnp hE hfs (e▸h) hI hY hv H n
theorem yaD {P:Program} {C:Cx K}:SLOk P C []:=fun sp h=>by cases h
theorem yjI {P:Program} {C:Cx K} {sp:Sl K} {l:List (Sl K)} (h:SlOk P C sp) (k:SLOk P C l):SLOk P C (sp::l):=fun q hq=>by
 rcases List.mem_cons.1 hq with rfl|hq
 ·exact h
 ·exact k q hq
end Go.AV
end
noncomputable section
namespace Go.AV
open Go.RowKit Go.RG Go.Lib
variable {K:Nat->Type}
theorem yak {c:Bool} {a b a' b':Prop} (h:cnd c a b) (ha:a->a') (hb:b->b'):cnd c a' b':=⟨fun e=>ha (h.1 e),fun e=>hb (h.2 e)⟩
structure Tb (K:Nat→Type) (X:Type) where
 g:Bool
 c:X->List (TV K)
 rd:List (TV K)->Option X
 tb:Option (X->UInt8)
 ob:Option (UInt8->X)
 fl:Bool
 E:Enc X
structure TbOk (P:Program) (C:Cx K) {X:Type} (b:Tb K X):Prop where
 c:∀(x:X) ts χ,((b.E).c x).length=(b.c x).length/\∀(j:Nat) (u:TV K) (v:AV),(b.c x)[j]? =some u->(b.E.c x)[j]? =some v->TR P C ts χ u v
 rd:∀(cs:List (TV K)) (x:X) ts χ (vs:List AV),b.rd cs=some x->vs.length=cs.length->(∀(j:Nat) (u:TV K) (v:AV),cs[j]? =some u->vs[j]? =some v->TR P C ts χ u v)->dwks vs=b.E.c x
 g:b.g=false->b.E.sz=1
 dw:∀x:X,dwks (b.E.c x)=b.E.c x
 tb:∀f,b.tb=some f->∀x,∃n,b.E.c x= [.it .u8 n]/\f x=UInt8.ofNat n.toNat
 ob:∀f,b.ob=some f->∀y:UInt8,b.E.c (f y)= [.it .u8 y.toNat]
 fl:b.fl=true->∀x:X,yhe (b.E.c x)=true
 nr:∀x,ybQ (b.c x)=true
 hl:∀x m,hlts m (b.E.c x)=true
 ny:∀x,ycM (b.c x)=true
def tbI (k:IntKind):Tb K Int:=⟨false,fun n=> [.it k n],fun cs=>match cs with
 | [u]=>match tint u with
   |some (k',n)=>if k'=k then some n else none
   |none=>none
 |_=>none,(match k with| .u8=>some toB|_=>none),(match k with| .u8=>some ofB|_=>none),true,eI k⟩
def tbB:Tb K Bool:=⟨false,fun b=> [.bl b],fun cs=>match cs with
 | [u]=>tbo u
 |_=>none,none,none,true,eB⟩
def tbS:Tb K Str:=⟨false,fun s=> [.st s],fun cs=>match cs with
 | [.st s]=>some s
 |_=>none,none,none,true,eS⟩
def tbL (e:Nat) (E:Enc (K e)):Tb K (List (K e)):=⟨false,fun l=> [.sl e l],fun cs=>match cs with
 | [.sl e' l]=>ylv e' e l
 | [.nil]=>some []
 | [.em]=>some []
 |_=>none,none,none,false,eSl E⟩
def ycA {A B:Type} (a:Tb K A) (b:Tb K B):Tb K (A×B):=⟨true,fun x=>a.c x.1++b.c x.2,fun cs=>match a.rd (cs.take a.E.sz),b.rd (cs.drop a.E.sz) with
 |some x,some y=>some (x,y)
 |_,_=>none,none,none,a.fl&&b.fl,⟨fun x=>a.E.c x.1++b.E.c x.2,a.E.sz+b.E.sz,by have:=a.E.pos;omega,fun x=>by rw[List.length_append,a.E.len,b.E.len],fun x=>by rw[yte,a.E.no,b.E.no];rfl,fun x=>by rw[List.all_append,a.E.one,b.E.one];rfl⟩⟩
def yl4 {A X:Type} (a:Tb K A) (f:X→A) (g:A→X) (E:Enc X):Tb K X:=⟨true,fun x=>a.c (f x),fun cs=>match a.rd cs with
 |some y=>some (g y)
 |none=>none,none,none,a.fl,E⟩
def yjv {A X:Type} (a:Enc A) (f:X->A):Enc X:=⟨fun x=>a.c (f x),a.sz,a.pos,fun x=>a.len _,fun x=>a.no _,fun x=>a.one _⟩
def tbU:Tb K Unit:=⟨false,fun _=> [.lb true],fun _=>none,none,none,false,⟨fun _=> [.bl true],1,by omega,fun _=>rfl,fun _=>rfl,fun _=>rfl⟩⟩
theorem ytl (m:Nat) (a b:List AV):hlts m (a++b)=(hlts m a&&hlts m b):=by
 induction a with
 |nil=>simp[hlts]
 |cons x a ih=>simp[hlts,ih,Bool.and_assoc]
theorem yDP {T:Type} {E:Enc T} (h:∀x m,hlts m (E.c x)=true) (l:List T) (m:Nat):hlts m (cl E l)=true:=by
 induction l with
 |nil=>rfl
 |cons x l ih=>show hlts m (E.c x++cl E l)=true;rw[ytl,h,ih];rfl
theorem yvQ {T:Type} {E:Enc T} (h:∀x m,hlts m (E.c x)=true):∀l m,hlts m ((eSl E).c l)=true:=fun l m=>by
 show hlts m [slA E l]=true
 simp only[hlts,slA,hlt,yDP h,Bool.and_true]
section
variable {P:Program} {C:Cx K}
theorem at1 {α:Type} {x u:α} {j:Nat} (h: [x][j]? =some u):j=0∧u=x:=by
 cases j with
 |zero=>simp at h;exact ⟨rfl,h.symm⟩
 |succ j=>simp at h
theorem len1 {α:Type} {l:List α} (h:l.length=1):∃x,l= [x]:=by
 match l,h with
 | [x],_=>exact ⟨x,rfl⟩
theorem yfh (k:IntKind):TbOk P C (tbI k:Tb K Int):=by
 refine ⟨fun x ts χ=>⟨rfl,fun j u v hu hv=> ?_⟩,fun cs x ts χ vs h hl ht=> ?_,fun _=>rfl,fun _=>rfl,fun f hf x=> ?_,fun f hf x=> ?_,fun _ _=>rfl,fun _=>rfl,fun _ _=>rfl,fun _=>rfl⟩
 ·obtain ⟨rfl,rfl⟩:=at1 hu;obtain ⟨_,rfl⟩:=at1 hv;exact .it k x
 ·simp only[tbI] at h
  split at h
  ·rename_i u
   obtain ⟨v,rfl⟩:=len1 hl
   split at h
   ·rename_i k' n hn
    split at h
    ·rename_i e;cases h;subst e;rw[TR.int (ht 0 _ _ rfl rfl) hn];rfl
    ·cases h
   ·cases h
  ·cases h
 ·cases k<;>simp[tbI] at hf;subst hf;exact ⟨x,rfl,rfl⟩
 ·cases k<;>simp[tbI] at hf;subst hf;rfl
theorem yzf:TbOk P C (tbB:Tb K Bool):=by
 refine ⟨fun x ts χ=>⟨rfl,fun j u v hu hv=> ?_⟩,fun cs x ts χ vs h hl ht=> ?_,fun _=>rfl,fun _=>rfl,fun f hf x=>(by cases hf),fun f hf x=>(by cases hf),fun _ _=>rfl,fun _=>rfl,fun _ _=>rfl,fun _=>rfl⟩
 ·obtain ⟨rfl,rfl⟩:=at1 hu;obtain ⟨_,rfl⟩:=at1 hv;exact .bl x
 ·simp only[tbB] at h
  split at h
  ·obtain ⟨v,rfl⟩:=len1 hl;rw[TR.bool (ht 0 _ _ rfl rfl) h];rfl
  ·cases h
theorem ytD:TbOk P C (tbS:Tb K Str):=by
 refine ⟨fun x ts χ=>⟨rfl,fun j u v hu hv=> ?_⟩,fun cs x ts χ vs h hl ht=> ?_,fun _=>rfl,fun _=>rfl,fun f hf x=>(by cases hf),fun f hf x=>(by cases hf),fun _ _=>rfl,fun _=>rfl,fun _ _=>rfl,fun _=>rfl⟩
 ·obtain ⟨rfl,rfl⟩:=at1 hu;obtain ⟨_,rfl⟩:=at1 hv;exact .st x
 ·simp only[tbS] at h
  split at h
  ·obtain ⟨v,rfl⟩:=len1 hl;cases h;rw[TR.str (ht 0 _ _ rfl rfl)];rfl
  ·cases h
theorem yzX {T:Type} {E:Enc T} (h:∀x,dwks (E.c x)=E.c x) (l:List T):dwks (cl E l)=cl E l:=by
 induction l with
 |nil=>rfl
 |cons x l ih=>show dwks (E.c x++cl E l)=E.c x++cl E l;rw[yc5,h,ih]
theorem yy0 {T:Type} {E:Enc T} (h:∀x,dwks (E.c x)=E.c x):∀l,dwks ((eSl E).c l)=(eSl E).c l:=fun l=>by
 show [dwk (slA E l)]= [slA E l]
 simp only[slA,dwk,yzX h]
theorem yew (e:Nat) {E:Enc (K e)} (hE:C.E e=E) (hd:∀x,dwks (E.c x)=E.c x) (hh:∀x m,hlts m (E.c x)=true):TbOk P C (tbL e E):=by
 refine ⟨fun x ts χ=>⟨rfl,fun j u v hu hv=> ?_⟩,fun cs x ts χ vs h hl ht=> ?_,fun _=>rfl,fun x=> ?_,fun f hf x=>(by cases hf),fun f hf x=>(by cases hf),fun h=>(by cases h),fun _=>rfl,fun x m=>yvQ hh x m,fun _=>rfl⟩
 ·obtain ⟨rfl,rfl⟩:=at1 hu;obtain ⟨_,rfl⟩:=at1 hv;exact .sl e x false _ _ rfl (by rw[hE];exact yzX hd x)
 ·simp only[tbL] at h
  split at h
  ·obtain ⟨v,rfl⟩:=len1 hl
   obtain ⟨rfl,h⟩:=ye5 h
   obtain ⟨z,xs,h1,rfl⟩:=(ht 0 _ _ rfl rfl).sli
   subst h
   show [dwk (AV.sl z _ xs)]=_
   simp only[dwk,h1,hE];rfl
  ·obtain ⟨v,rfl⟩:=len1 hl;cases h
   have:=ht 0 _ _ rfl rfl
   cases this;rfl
  ·obtain ⟨v,rfl⟩:=len1 hl;cases h
   have:=ht 0 _ _ rfl rfl
   cases this;rfl
  ·cases h
 ·show [dwk (slA E x)]= [slA E x]
  simp only[slA,dwk,yzX hd]
theorem yw4 (a b:List AV):yhe (a++b)=(yhe a&&yhe b):=by
 induction a with
 |nil=>simp[yhe]
 |cons x a ih=>simp[yhe,ih,Bool.and_assoc]
theorem ysL (a b:List (TV K)):ybQ (a++b)=(ybQ a&&ybQ b):=by
 induction a with
 |nil=>simp[ybQ]
 |cons x a ih=>simp[ybQ,ih,Bool.and_assoc]
theorem yxb (a b:List (TV K)):ycM (a++b)=(ycM a&&ycM b):=by
 induction a with
 |nil=>simp[ycM]
 |cons x a ih=>simp[ycM,ih,Bool.and_assoc]
theorem ybz {A B:Type} {a:Tb K A} {b:Tb K B} (ha:TbOk P C a) (hb:TbOk P C b):TbOk P C (ycA a b):=by
 refine ⟨fun x ts χ=> ?_,fun cs x ts χ vs h hl ht=> ?_,fun h=>(by cases h),fun x=> ?_,fun f hf x=>(by cases hf),fun f hf x=>(by cases hf),fun h x=> ?_,fun x=> ?_,fun x m=>by show hlts m (a.E.c x.1++b.E.c x.2)=true;rw[ytl,ha.hl,hb.hl];rfl,fun x=>by show ycM (a.c x.1++b.c x.2)=true;rw[yxb,ha.ny,hb.ny];rfl⟩
 ·exact TL.app (ts:=ts) (χ:=χ) (P:=P) (C:=C) (us:=a.c x.1) (us':=b.c x.2) (vs:=a.E.c x.1) (vs':=b.E.c x.2) (ha.c x.1 ts χ) (hb.c x.2 ts χ)
 ·simp only[ycA] at h
  split at h
  ·rename_i x1 y1 h1 h2
   cases h
   have t:TL P C ts χ cs vs:=⟨hl,ht⟩
   have e1:=ha.rd _ _ ts χ _ h1 (t.take a.E.sz).1 (t.take a.E.sz).2
   have e2:=hb.rd _ _ ts χ _ h2 (t.drop a.E.sz).1 (t.drop a.E.sz).2
   show dwks vs=a.E.c x1++b.E.c y1
   rw[<-e1,<-e2,<-yc5,List.take_append_drop]
  ·cases h
 ·show dwks (a.E.c x.1++b.E.c x.2)=_;rw[yc5,ha.dw,hb.dw];rfl
 ·have h':(a.fl&&b.fl)=true:=h
  rw[Bool.and_eq_true] at h'
  show yhe (a.E.c x.1++b.E.c x.2)=true
  rw[yw4,ha.fl h'.1,hb.fl h'.2];rfl
 ·show ybQ (a.c x.1++b.c x.2)=true;rw[ysL,ha.nr,hb.nr];rfl
theorem yfk {A X:Type} {a:Tb K A} {f:X→A} {g:A→X} {E:Enc X} (ha:TbOk P C a) (hfg:∀y,f (g y)=y) (hE:∀x,E.c x=a.E.c (f x)):TbOk P C (yl4 a f g E):=by
 refine ⟨fun x ts χ=> ?_,fun cs x ts χ vs h hl ht=> ?_,fun h=>(by cases h),fun x=> ?_,fun f hf x=>(by cases hf),fun f hf x=>(by cases hf),fun h x=> ?_,fun x=>ha.nr (f x),fun x m=>by show hlts m (E.c x)=true;rw[hE];exact ha.hl _ m,fun x=>ha.ny (f x)⟩
 ·have:=ha.c (f x) ts χ;rw[<-hE] at this;exact this
 ·simp only[yl4] at h
  split at h
  ·rename_i y hy;cases h;show dwks vs=E.c (g y);rw[hE,hfg];exact ha.rd _ _ ts χ _ hy hl ht
  ·cases h
 ·show dwks (E.c x)=E.c x;rw[hE];exact ha.dw _
 ·show yhe (E.c x)=true;rw[hE];exact ha.fl h _
theorem yBN:TbOk P C (tbU:Tb K Unit):=by
 refine ⟨fun x ts χ=>⟨rfl,fun j u v hu hv=> ?_⟩,fun cs x ts χ vs h hl ht=>(by cases h),fun _=>rfl,fun _=>rfl,fun f hf x=>(by cases hf),fun f hf x=>(by cases hf),fun h=>(by cases h),fun _=>rfl,fun _ _=>rfl,fun _=>rfl⟩
 obtain ⟨rfl,rfl⟩:=at1 hu;obtain ⟨_,rfl⟩:=at1 hv;exact .lb true
end
section
variable {TC:Type} {KF:TC->Type} {code:Nat->TC}
def cxOf (TF:(c:TC)→Tb (fun t=>KF (code t)) (KF c)):Cx (fun t=>KF (code t)):=
 ⟨fun t=>⟨(TF (code t)).g,(TF (code t)).c,(TF (code t)).rd,(TF (code t)).tb,(TF (code t)).ob,(TF (code t)).fl⟩,fun t=>(TF (code t)).E⟩
theorem yzo {P:Program} {TF:(c:TC)→Tb (fun t=>KF (code t)) (KF c)} (h:∀c,TbOk P (cxOf TF) (TF c)):CxOk P (cxOf TF):=
 ⟨fun t x ts χ=>(h (code t)).c x ts χ,fun t cs x ts χ vs a b c=>(h (code t)).rd cs x ts χ vs a b c,fun t e=>(h (code t)).g e,fun t x=>(h (code t)).dw x,fun t f e=>(h (code t)).tb f e,fun t f e=>(h (code t)).ob f e,fun t e=>(h (code t)).fl e,fun t x=>(h (code t)).nr x,fun t=>(h _).hl,fun t=>(h _).ny⟩
def lkC (d:TC):List (Nat×TC)→Nat→TC
 | [],_=>d
 | p::r,t=>match Nat.beq p.1 t with
   |true=>p.2
   |false=>lkC d r t
end
theorem yjG {rs:List Nat} {p:Nat} {ps:List PD} {w:WTy K rs (.v p::ps)} {a:List (AD K)} {b:List (DV K)} (h:appW rs (.v p::ps) w a b):∃(x:K p) (a':List (AD K)),a= .d (.v p x)::a'∧appW rs ps (w x) a' b:=by
 cases a with
 |nil=>exact h.elim
 | cons u a'=>
   simp only[appW] at h
   split at h
   ·rename_i y hy
    cases u with
    |f F=>simp[outP] at hy
    | d x=>
      cases x with
      | v t x=>
        simp only[outP] at hy
        split at hy
        ·rename_i e;subst e;cases hy;exact ⟨x,a',rfl,h⟩
        ·cases hy
      |_=>simp[outP] at hy
   ·exact h.elim
theorem yCo {rs:List Nat} {p:Nat} {ps:List PD} {w:WTy K rs (.p p::ps)} {a:List (AD K)} {b:List (DV K)} (h:appW rs (.p p::ps) w a b):∃(x:K p) (a':List (AD K)),a= .d (.v p x)::a'∧appW rs ps (w x) a' b:=by
 cases a with
 |nil=>exact h.elim
 | cons u a'=>
   simp only[appW] at h
   split at h
   ·rename_i y hy
    cases u with
    |f F=>simp[outP] at hy
    | d x=>
      cases x with
      | v t x=>
        simp only[outP] at hy
        split at hy
        ·rename_i e;subst e;cases hy;exact ⟨x,a',rfl,h⟩
        ·cases hy
      |_=>simp[outP] at hy
   ·exact h.elim
theorem yBR {rs az bs:List Nat} {ps:List PD} {w:WTy K rs (.f az bs::ps)} {a:List (AD K)} {b:List (DV K)} (h:appW rs (.f az bs::ps) w a b):∃(F:FV K) (a':List (AD K)),a= .f F::a'∧appW rs ps (w (curF bs az F.W)) a' b:=by
 cases a with
 |nil=>exact h.elim
 | cons u a'=>
   simp only[appW] at h
   split at h
   ·rename_i y hy
    cases u with
    |f F=>simp only[outP] at hy;cases hy;exact ⟨F,a',rfl,h⟩
    |d x=>cases x<;>simp[outP] at hy
   ·exact h.elim
theorem yqC {rs:List Nat} {w:WTy K rs []} {a:List (AD K)} {b:List (DV K)} (h:appW rs [] w a b):a= []∧apR rs w b:=by
 cases a with
 |nil=>exact ⟨rfl,h⟩
 |cons u a'=>exact h.elim
theorem yrF {r:Nat} {rs:List Nat} {w:RTy K (r::rs)} {b:List (DV K)} (h:apR (r::rs) w b):∃(x:K r) (b':List (DV K)),b= .v r x::b'∧apR rs (w x) b':=by
 cases b with
 |nil=>exact h.elim
 | cons u b'=>
   cases u with
   | v t x=>
     have h':(if e:t=r then apR rs (w (e▸x)) b' else False):=h
     by_cases e:t=r
     ·subst e;rw[dif_pos rfl] at h';exact ⟨x,b',rfl,h'⟩
     ·rw[dif_neg e] at h';exact h'.elim
   |_=>exact h.elim
theorem yve {w:RTy K []} {b:List (DV K)} (h:apR [] w b):b= []∧w:=by
 cases b with
 |nil=>exact ⟨rfl,h⟩
 |cons u b'=>exact h.elim
theorem yDB {P:Program}:IOk P []:=fun f c h=>by cases h
def kps (a:Nat):Nat→List Kd
 |0=> []
 |n+1=> .kp a::kps (a+1) n
def huR:(rs:List Nat)→RTy K rs→(List (DV K)→Prop)→Prop
 | [],w,D=> @Eq Prop w (D [])
 |r::rs,w,D=>∀x:K r,huR rs (w x) fun b=>D (.v r x::b)
def huW (rs:List Nat):(ps:List PD)→WTy K rs ps→(List (AD K)→List (DV K)→Prop)→Prop
 | [],w,D=>huR rs w (D [])
 | .v p::ps,w,D=>∀x:K p,huW rs ps (w x) fun a=>D (.d (.v p x)::a)
 | .p p::ps,w,D=>∀x:K p,huW rs ps (w x) fun a=>D (.d (.v p x)::a)
 | .f az bs::ps,w,D=>∀F:FV K,huW rs ps (w (curF bs az F.W)) fun a=>D (.f F::a)
theorem yyQ:∀ {rs:List Nat} {w:RTy K rs} {D:List (DV K)→Prop} {b:List (DV K)},huR rs w D→apR rs w b→D b
 | [],w,D,b,e,h=>by
   obtain ⟨rfl,h⟩:=yve h
   have e: @Eq Prop w (D []):=e
   exact e▸h
 | r::rs,w,D,b,e,h=>by
   obtain ⟨x,b',rfl,k⟩:=yrF h
   exact yyQ (rs:=rs) (w:=w x) (D:=fun b=>D (.v r x::b)) (e x) k
theorem yto {rs:List Nat}:∀ {ps:List PD} {w:WTy K rs ps} {D:List (AD K)→List (DV K)→Prop} {a:List (AD K)} {b:List (DV K)},huW rs ps w D→appW rs ps w a b→a.length=ps.length∧D a b
 | [],w,D,a,b,e,h=>by
   obtain ⟨rfl,h⟩:=yqC h
   exact ⟨rfl,yyQ (w:=w) e h⟩
 | .v p::ps,w,D,a,b,e,h=>by
   obtain ⟨x,a',rfl,k⟩:=yjG h
   obtain ⟨h1,h2⟩:=yto (ps:=ps) (w:=w x) (D:=fun a=>D (.d (.v p x)::a)) (e x) k
   exact ⟨by simp[h1],h2⟩
 | .p p::ps,w,D,a,b,e,h=>by
   obtain ⟨x,a',rfl,k⟩:=yCo h
   obtain ⟨h1,h2⟩:=yto (ps:=ps) (w:=w x) (D:=fun a=>D (.d (.v p x)::a)) (e x) k
   exact ⟨by simp[h1],h2⟩
 | .f az bs::ps,w,D,a,b,e,h=>by
   obtain ⟨F,a',rfl,k⟩:=yBR h
   obtain ⟨h1,h2⟩:=yto (ps:=ps) (w:=w (curF bs az F.W)) (D:=fun a=>D (.f F::a)) (e F) k
   exact ⟨by simp[h1],h2⟩
theorem yay {P:Program} {F:Cf K} (hC:CxOk P F.C) (hS:SsOk P F.C F.S) (hL:SLOk P F.C F.L) {f:FuncId} {c:AFn} (hF:trF P f=some c) {A:An K} {ps:List PD} {rs:List Nat} {w:WTy K rs ps} (hN:F.N=c.N) (hps:Nat.ble ps.length c.N=true) (e:huW rs ps w (DnF F A c ps rs)) (hI:IOk P F.I:=by exact yDB) (hY:F.Y=none:=by rfl):SpOk P F.C ⟨f,ps,rs,appW rs ps w⟩:=fun env r hFs h=>by
 obtain ⟨h1,h2⟩:=yto e h
 exact ⟨h1,yBw hC hS hL hF hN (Nat.le_of_ble_eq_true hps) h1 hFs h2 hI hY⟩
theorem yaE {P:Program} {C:Cx K}:SsOk P C []:=fun sp h=>by cases h
theorem yas {P:Program} {C:Cx K} {sp:Sp K} {l:List (Sp K)} (h:SpOk P C sp) (k:SsOk P C l):SsOk P C (sp::l):=fun q hq=>by
 rcases List.mem_cons.1 hq with rfl|hq
 ·exact h
 ·exact k q hq
end Go.AV
end
noncomputable section
namespace Go.Proofs.Ytecfpoklnfaihaa
open Go.RowKit Go.RG
def wlo (z:Int):Int:=z % 18446744073709551616
def wca (x y:Int):Int:=(x+y)/18446744073709551616
theorem yuo (x y:Int) (hx:0≤x) (hy:0≤y) (w:World):(callFunc 69 #[.int .u64 x, .int .u64 y, .int .u64 0]).run Try.prog w= .ok (.value (.tuple #[.int .u64 (wlo (x+y)), .int .u64 (wca x y)])) w:=by
 rw[run_callFunc_extern Try.func69 (by kernel_rfl) (by kernel_rfl) (by kernel_rfl) (e:=add64Entry) (by kernel_rfl),run_add64 x y 0 hx hy (by omega) (by omega)]
 simp only[Result.andThen,Int.add_zero]
 rfl
end Go.Proofs.Ytecfpoklnfaihaa
end
noncomputable section
namespace Go.Proofs.Ytecfpoklnfaihaa
open Go.RowKit Go.RG
def yfA (n:Nat):Array Value:=rowf 128 fun j=> .bool (n.testBit j)
theorem ybU (n:Nat):(yfA n).size=128:=ygM _ _
theorem tb (L k:Nat):((((L/2^k:Nat):Int) % 2)==1)=L.testBit k:=by
 rw[Nat.testBit_eq_decide_div_mod_eq,Bool.eq_iff_iff]
 simp only[beq_iff_eq,decide_eq_true_eq]
 generalize L/2^k=q
 omega
def ymy (L H k:Nat):Array Value:=rowf 128 fun j=> .bool (if j<64 then decide (j<k)&&L.testBit j else decide (j<64+k)&&H.testBit (j-64))
theorem yuF (L H:Nat):ymy L H 0=rowf 128 fun _=> .bool false:=by
 refine yfr fun j hj=> ?_
 by_cases h:j<64
 ·simp[h]
 ·simp[h]
theorem yuz (L H k:Nat) (h:k<64):((ymy L H k).setIfInBounds k (.bool (L.testBit k))).setIfInBounds (64+k) (.bool (H.testBit k))=ymy L H (k+1):=by
 unfold ymy
 rw[yox,yox]
 refine yfr fun j hj=> ?_
 by_cases e:j=64+k
 ·subst e;rw[if_pos rfl,if_neg (by omega)];simp
 ·rw[if_neg e]
  by_cases e2:j=k
  ·subst e2;simp[h]
  ·rw[if_neg e2]
   by_cases h3:j<64
   ·simp only[h3,if_true]
    congr 2
    rw[Bool.eq_iff_iff];simp;omega
   ·simp only[h3,if_false]
    congr 2
    rw[Bool.eq_iff_iff];simp;omega
theorem yu5 (L H:Nat) (hL:L<2^64) (hH:H<2^64):ymy L H 64=yfA (H*2^64+L):=by
 unfold ymy yfA
 refine yfr fun j hj=> ?_
 congr 1
 rw[Nat.mul_comm]
 by_cases h:j<64
 ·rw[if_pos h,Nat.testBit_two_pow_mul_add _ hL,if_pos h]
  simp[h]
 ·rw[if_neg h,Nat.testBit_two_pow_mul_add _ hL,if_neg h]
  simp;omega
theorem yyC (w:World):(zeroValue 102).run Try.prog w= .ok (.agg (rowf 128 fun _=> .bool false)) w:=by kernel_rfl
theorem ym5:(Try.prog.info? 102).map (·.size)=some 128:=by kernel_rfl
theorem ysS (L k:Nat):((L/2^k:Nat):Int)/2=((L/2^(k+1):Nat):Int):=by
 rw[Nat.pow_succ,<-Nat.div_div_eq_div_mul];omega
set_option maxRecDepth 100000 in
set_option maxHeartbeats 1000000 in
theorem yzr (hi:Int) (L H:Nat) (hL:L<2^64) (hH:IntKind.u64.wrap hi=(H:Int)) (hH2:H<2^64) (w:World):
  Calls Try.prog 61 #[.int .i64 hi, .int .u64 (L:Int)] w fun e w'=>e= .returned (.agg (yfA (H*2^64+L)))/\Below w.heap.size w w':=by
 have hz:=yyC
 have hL':=hid hL
 have hH':=hid hH2
 clear hL hH2
 go_enter Try.func61,Try.ntmps61
 go_wp2
 go_loopw [1,6,7] (fun l h i wr=>∃k:Nat,k≤64∧i= .int .i64 k∧l= .int .u64 ((L/2^k:Nat):Int)∧h= .int .u64 ((H/2^k:Nat):Int)∧wr.heap[w.heap.size+1]? =some (.cells (ymy L H k) 102 (0,0))∧wr.heap[w.heap.size]? =some (.cells (rowf 128 fun _=> .bool false) 102 (0,0))∧Below w.heap.size w wr)
  (fun _ _ i _=>64-(intOf i).toNat)
 case atStart=>
  refine ⟨0,Nat.zero_le _,rfl,by simp,by simp,?_,?_,((Below.refl _ _).alloc (Nat.le_refl _) _).alloc (by simp) _⟩
  ·rw[yor,if_pos (by simp),yuF]
  ·rw[yor,if_neg (by simp),yor,if_pos rfl]
 case round=>
  obtain ⟨k,hk,rfl,rfl,rfl,hb,hb0,hbel⟩:=hrel
  clear hz hH
  have HB:=hid hb
  have HB0:=hid hb0
  have hsz:=lt_of_block hb
  by_cases hlt:k<64
  ·have c1:=(ybN hb k).1
   have f1:=(ybN hb k).2
   have c2:=(ybN hb (64+k)).1
   have f2:=(ybN hb (64+k)).2
   unfold ymy at c1 c2
   rw[rowf_get _ _ _ (by omega)] at c1 c2
   have t1:=hid (tb L k)
   have t2:=hid (tb H k)
   have d1:=hid (ysS L k)
   have d2:=hid (ysS H k)
   generalize hx:(L/2^k:Nat)=x at*
   generalize hy:(H/2^k:Nat)=y at*
   have hxb:x<2^64:=by rw[<-hx];exact Nat.lt_of_le_of_lt (Nat.div_le_self _ _) hL'.out
   have hyb:y<2^64:=by rw[<-hy];exact Nat.lt_of_le_of_lt (Nat.div_le_self _ _) hH'.out
   have u1:Hid (IntKind.u64.wrap ((x:Int)/2)=((L/2^(k+1):Nat):Int)):=by rw[<-d1.out,IntKind.wrap_u64];exact hid (by omega)
   have u2:Hid (IntKind.u64.wrap ((y:Int)/2)=((H/2^(k+1):Nat):Int)):=by rw[<-d2.out,IntKind.wrap_u64];exact hid (by omega)
   clear hb hb0 hx hy hxb hyb
   go_wp2
   go_roundw
   case rel=>
    refine ⟨k+1,by omega,by go_num,by rw[u1.out],by rw[u2.out],?_,?_,(hbel.setCell (by simp) _).setCell (by simp) _⟩
    ·rw[ylb,if_pos rfl,ylb,if_pos rfl,HB.out,<-yuz L H k hlt,<-t1.out,<-t2.out];rfl
    ·rw[ylb,if_neg (by omega),ylb,if_neg (by omega),HB0.out]
   case measure=>simp[intOf];omega
  ·obtain rfl:k=64:=by omega
   have E:=hid (yu5 L H hL'.out hH'.out)
   have hsz2:=lt_of_block hb0
   clear hb hb0
   generalize (L/2^64:Nat)=x
   generalize (H/2^64:Nat)=y
   go_wp2_with (first
    |(refine wpList_load_row rfl 102 (.tmp 5) rfl (w.heap.size+1) rfl 102 (ymy L H 64) (0,0) _ HB.out Try.underlying102 rfl (by rw[ym5,E.out,ybU]) ?_)
    |((refine yiK rfl 102 (.tmp 4) (.tmp 29) rfl w.heap.size rfl (ymy L H 64) rfl HB0.out (by rw[E.out,ybU,ygM]) (by rw[ym5,E.out,ybU]) (ytj fun _=>rfl) ?_);intro w2 hg2 hgr2 hs2))
   refine yCG (g:=w.heap.size) (cs:=ymy L H 64) (t:=102) (fr:=(0,0)) Try.results61 rfl rfl hg2 Try.underlying102 rfl (by rw[ym5,E.out,ybU]) ⟨by rw[E.out],hbel.grown hgr2 (by omega) (fun k hk=>by cases hk;exact Nat.le_refl _)⟩
def car (a b k:Nat):Nat:=(a % 2^k+b % 2^k)/2^k
theorem yxr (a b k:Nat):(car a b k+(a.testBit k).toNat+(b.testBit k).toNat)/2=car a b (k+1)∧decide ((car a b k+(a.testBit k).toNat+(b.testBit k).toNat) % 2=1)=(a+b).testBit k:=by
 have hp:0<2^k:=Nat.two_pow_pos k
 have e1:∀x:Nat,(x.testBit k).toNat=x/2^k % 2:=fun x=>by rw[Nat.testBit_eq_decide_div_mod_eq];rcases Nat.mod_two_eq_zero_or_one (x/2^k) with h|h<;>simp[h]
 have e2:∀x:Nat,x % 2^(k+1)=x % 2^k+2^k*(x/2^k % 2):=fun x=>by exact Nat.mod_pow_succ
 have e3:(a+b)/2^k=car a b k+(a/2^k+b/2^k):=by
  unfold car
  rw[<-Nat.add_mul_div_left _ _ hp]
  congr 1
  have h1:=Nat.mod_add_div a (2^k)
  have h2:=Nat.mod_add_div b (2^k)
  rw[Nat.mul_add];omega
 rw[e1,e1]
 refine ⟨?_,?_⟩
 ·have e4:car a b (k+1)=(car a b k+(a/2^k % 2+b/2^k % 2))/2:=by
   unfold car
   rw[e2,e2,Nat.pow_succ,<-Nat.div_div_eq_div_mul,<-Nat.add_mul_div_left _ _ hp]
   congr 2
   rw[Nat.mul_add];omega
  rw[e4,Nat.add_assoc]
 ·rw[Nat.testBit_eq_decide_div_mod_eq,e3]
  congr 1
  rw[eq_iff_iff]
  omega
theorem yBz (a b k:Nat):car a b k≤1:=by
 unfold car
 have hp:0<2^k:=Nat.two_pow_pos k
 have h1:=Nat.mod_lt a hp
 have h2:=Nat.mod_lt b hp
 have:(a % 2^k+b % 2^k)/2^k<2:=Nat.div_lt_of_lt_mul (by omega)
 omega
def yiO (a b k:Nat):Array Value:=rowf 128 fun j=> .bool (decide (j<k)&&(a+b).testBit j)
theorem yrk (a b:Nat):yiO a b 0=rowf 128 fun _=> .bool false:=yfr fun j _=>by simp
theorem ysD (a b k:Nat):(yiO a b k).setIfInBounds k (.bool ((a+b).testBit k))=yiO a b (k+1):=by
 unfold yiO
 rw[yox]
 refine yfr fun j _=> ?_
 by_cases e:j=k
 ·subst e;simp
 ·rw[if_neg e];congr 2;rw[Bool.eq_iff_iff];simp;omega
theorem yuJ (a b:Nat):yiO a b 128=yfA (a+b):=yfr fun j h=>by simp[h]
theorem yA0 (a b k c:Nat) (x y:Bool) (hc:car a b k=c) (hx:a.testBit k=x) (hy:b.testBit k=y):
  ((((c:Int)+(x.toNat:Int)+(y.toNat:Int)) % 2)==1)=(a+b).testBit k/\((c:Int)+(x.toNat:Int)+(y.toNat:Int))/2=(car a b (k+1):Int):=by
 have h:=yxr a b k
 rw[hc,hx,hy] at h
 rw[<-h.1,<-h.2]
 refine ⟨?_,by omega⟩
 rw[Bool.eq_iff_iff];simp only[beq_iff_eq,decide_eq_true_eq];omega
set_option maxRecDepth 100000 in
set_option maxHeartbeats 2000000 in
theorem yv7 (m n:Nat) (w:World):
  Calls Try.prog 60 #[.agg (yfA m), .agg (yfA n)] w fun e w'=>e= .returned (.agg (yfA (m+n)))/\Below w.heap.size w w':=by
 have hz:=yyC
 have hbm:=hid (ybU m)
 go_enter Try.func60,Try.ntmps60
 go_wp2
 go_loopw [6,7] (fun c i wr=>∃k:Nat,k≤128∧i= .int .i64 k∧c= .int .i64 (car m n k)∧wr.heap[w.heap.size]? =some (.cells (yfA m) 102 (0,0))∧wr.heap[w.heap.size+1]? =some (.cells (yfA n) 102 (0,0))∧wr.heap[w.heap.size+1+1+1]? =some (.cells (yiO m n k) 102 (0,0))∧wr.heap[w.heap.size+1+1]? =some (.cells (rowf 128 fun _=> .bool false) 102 (0,0))∧Below w.heap.size w wr)
  (fun _ i _=>128-(intOf i).toNat)
 case atStart=>
  refine ⟨0,Nat.zero_le _,rfl,by simp[car,Nat.mod_one],?_,?_,?_,?_,((((Below.refl _ _).alloc (Nat.le_refl _) _).alloc (by simp) _).alloc (by simp;omega) _).alloc (by simp;omega) _⟩
  ·exact (new4 w _ _ _ _).1
  ·exact (new4 w _ _ _ _).2.1
  ·rw[yrk];exact (new4 w _ _ _ _).2.2.2
  ·exact (new4 w _ _ _ _).2.2.1
 case round=>
  obtain ⟨k,hk,rfl,rfl,hbm1,hbn1,hbo,hbr,hbel⟩:=hrel
  clear hz
  have HM:=hid hbm1
  have HN:=hid hbn1
  have HO:=hid hbo
  have HR:=hid hbr
  have hsz:=lt_of_block hbo
  by_cases hlt:k<128
  ·have c1:=(ybN hbm1 k).1
   have c2:=(ybN hbn1 k).1
   have c3:=(ybN hbo k).1
   have f3:=(ybN hbo k).2
   unfold yfA at c1 c2
   unfold yiO at c3
   rw[rowf_get _ _ _ (by omega)] at c1 c2 c3
   have hcl:=yBz m n k
   have hst:=hid (yA0 m n k _ _ _ rfl rfl rfl)
   generalize hx:m.testBit k=x at*
   generalize hy:n.testBit k=y at*
   generalize hc:car m n k=c at*
   clear hx hy hc hbm1 hbn1 hbo hbr
   cases x<;>cases y
   all_goals
    simp only[Bool.toNat_true,Bool.toNat_false] at hst
    go_wp2
    go_roundw
    case rel=>
     refine ⟨k+1,by omega,by go_num,?_,?_,?_,?_,?_,hbel.setCell (by simp;omega) _⟩
     ·rw[<-hst.out.2];congr 2<;>omega
     ·rw[ylb,if_neg (by omega),HM.out]
     ·rw[ylb,if_neg (by omega),HN.out]
     ·rw[ylb,if_pos rfl,HO.out,← ysD,← hst.out.1]
      simp only[Option.map_some,yss,Option.some.injEq,Obj.cells.injEq,and_true]
      congr 4
     ·rw[ylb,if_neg (by omega),HR.out]
    case measure=>simp[intOf];omega
  ·obtain rfl:k=128:=by omega
   have E:=hid (yuJ m n)
   clear hbm1 hbn1 hbo hbr
   generalize car m n 128=c at*
   go_wp2_with (first
    |(refine wpList_load_row rfl 102 (.tmp 5) rfl (w.heap.size+1+1+1) rfl 102 (yiO m n 128) (0,0) _ HO.out Try.underlying102 rfl (by rw[ym5,E.out,ybU]) ?_)
    |((refine yiK rfl 102 (.tmp 4) (.tmp 31) rfl (w.heap.size+1+1) rfl (yiO m n 128) rfl HR.out (by rw[E.out,ybU,ygM]) (by rw[ym5,E.out,ybU]) (ytj fun _=>rfl) ?_);intro w2 hg2 hgr2 hs2))
   refine yCG (g:=w.heap.size+1+1) (cs:=yiO m n 128) (t:=102) (fr:=(0,0)) Try.results60 rfl rfl hg2 Try.underlying102 rfl (by rw[ym5,E.out,ybU]) ⟨by rw[E.out],hbel.grown hgr2 (by omega) (fun k hk=>by cases hk;omega)⟩
theorem yqi (H j:Nat):H/2^j=2*(H/2^(j+1))+(H.testBit j).toNat:=by
 rw[Nat.pow_succ,<-Nat.div_div_eq_div_mul,Nat.testBit_eq_decide_div_mod_eq]
 generalize H/2^j=q
 rcases Nat.mod_two_eq_zero_or_one q with h|h<;>simp[h]<;>omega
set_option maxRecDepth 100000 in
set_option maxHeartbeats 2000000 in
theorem ysu (n H L:Nat) (hH:H=n/2^64 % 2^64) (hL:L=n % 2^64) (w:World):
  Calls Try.prog 59 #[.agg (yfA n)] w fun e w'=>e= .returned (.tuple #[.int .i64 (wrap64 (H:Int)), .int .u64 (L:Int)])/\Below w.heap.size w w':=by
 have hHb:H<2^64:=by rw[hH];exact Nat.mod_lt _ (Nat.two_pow_pos 64)
 have hLb:L<2^64:=by rw[hL];exact Nat.mod_lt _ (Nat.two_pow_pos 64)
 have tH:∀j,j<64→n.testBit (64+j)=H.testBit j:=by
  intro j hj;rw[hH,Nat.testBit_mod_two_pow,Nat.testBit_div_two_pow];simp[hj];rw[Nat.add_comm]
 have tL:∀j,j<64→n.testBit j=L.testBit j:=by
  intro j hj;rw[hL,Nat.testBit_mod_two_pow];simp[hj]
 have HB:=hid hHb
 have LB:=hid hLb
 have TH:=hid tH
 have TL:=hid tL
 clear hH hL hHb hLb tH tL
 go_enter Try.func59,Try.ntmps59
 go_wp2
 go_loopw [4,5,6] (fun h l i wr=>∃m:Nat,m≤64∧i= .int .i64 ((m:Int)-1)∧h= .int .u64 ((H/2^m:Nat):Int)∧l= .int .u64 ((L/2^m:Nat):Int)∧wr.heap[w.heap.size]? =some (.cells (yfA n) 102 (0,0))∧Below w.heap.size w wr)
  (fun _ _ i _=>(intOf i+1).toNat)
 case atStart=>
  refine ⟨64,Nat.le_refl _,rfl,?_,?_,hnew rfl,Below.new w _⟩
  ·rw[Nat.div_eq_of_lt HB.out];rfl
  ·rw[Nat.div_eq_of_lt LB.out];rfl
 case round=>
  obtain ⟨m,hm,rfl,rfl,rfl,hb,hbel⟩:=hrel
  cases m with
  | zero=>
    have e1:Hid ((H/2^0:Nat)=H):=hid (by simp)
    have e2:Hid ((L/2^0:Nat)=L):=hid (by simp)
    clear hb
    generalize (H/2^0:Nat)=x at*
    generalize (L/2^0:Nat)=y at*
    go_wp2
    go_ret2
    exact ⟨by rw[e1.out,e2.out];rfl,hbel⟩
  | succ j=>
    rw[show (((j+1:Nat):Int)-1)=(j:Int) from by omega]
    have c1:=(ybN hb (64+j)).1
    have c2:=(ybN hb j).1
    unfold yfA at c1 c2
    rw[rowf_get _ _ _ (by omega)] at c1 c2
    rw[TH.out j (by omega)] at c1
    rw[TL.out j (by omega)] at c2
    have s1:=hid (yqi H j)
    have s2:=hid (yqi L j)
    have b1:H/2^j<2^64:=Nat.lt_of_le_of_lt (Nat.div_le_self _ _) HB.out
    have b2:L/2^j<2^64:=Nat.lt_of_le_of_lt (Nat.div_le_self _ _) LB.out
    rw[s1.out] at b1
    rw[s2.out] at b2
    have BB:=hid hb
    clear hb
    generalize (H/2^(j+1):Nat)=x at*
    generalize (L/2^(j+1):Nat)=y at*
    generalize H.testBit j=p at*
    generalize L.testBit j=q at*
    have v1:IntKind.u64.wrap (2*(x:Int))=2*(x:Int):=by rw[IntKind.wrap_u64];omega
    have v2:IntKind.u64.wrap (2*(y:Int))=2*(y:Int):=by rw[IntKind.wrap_u64];omega
    cases p<;>cases q
    all_goals
     simp only[Bool.toNat_true,Bool.toNat_false] at s1 s2 b1 b2
     have v3:IntKind.u64.wrap (2*(x:Int)+1)=2*(x:Int)+1:=by rw[IntKind.wrap_u64];omega
     have v4:IntKind.u64.wrap (2*(y:Int)+1)=2*(y:Int)+1:=by rw[IntKind.wrap_u64];omega
     have B1:=hid b1
     have B2:=hid b2
     clear b1 b2
     go_wp2
     go_roundw
     case rel=>exact ⟨j,by omega,rfl,by rw[s1.out];go_num,by rw[s2.out];go_num,BB.out,hbel⟩
     case measure=>simp[intOf]
def allB (n:Nat):Bool:=(List.range 64).all fun j=>n.testBit (64+j)==n.testBit 63
theorem yz9 (n k:Nat) (h1:64≤k) (h2:k<128) (h:n.testBit k≠n.testBit 63):allB n=false:=by
 cases he:allB n with
 |false=>rfl
 | true=>
   exfalso
   have:=List.all_eq_true.1 he (k-64) (List.mem_range.2 (by omega))
   rw[show 64+(k-64)=k from by omega] at this
   exact h (by simpa using this)
def intV (n L:Nat):Value:= .tuple #[.int .i64 (if allB n then wrap64 (L:Int) else 0), .bool (allB n)]
theorem yz7 {n L:Nat} (h:allB n=false):Value.tuple #[.int .i64 0, .bool false]=intV n L:=by simp[intV,h]
theorem yxP {n L:Nat} (h:allB n=true):Value.tuple #[.int .i64 (wrap64 (L:Int)), .bool true]=intV n L:=by simp[intV,h]
theorem yvn {v u:Value} (h:v=u):Ending.returned v= .returned u:=by rw[h]
theorem ymF {B:Nat} {a w:World} (h:Below B a w) (n:Nat):Below B a (w.drewN n):=⟨h.os,h.tape,h.output,h.size,h.block⟩
theorem yxx (n:Nat) (h:∀j,64≤j→j<128→n.testBit j=n.testBit 63):allB n=true:=by
 refine List.all_eq_true.2 fun j hj=> ?_
 rw[h (64+j) (by omega) (by have:=List.mem_range.1 hj;omega)]
 simp
set_option maxRecDepth 100000 in
set_option maxHeartbeats 2000000 in
theorem yyc (n L:Nat) (H:Nat) (hH:H=n/2^64 % 2^64) (hL:L=n % 2^64) (w:World):
  Calls Try.prog 44 #[.agg (yfA n)] w fun e w'=>e= .returned (intV n L)/\Below w.heap.size w w':=by
 have HL:=hid hL
 have HH:=hid hH
 clear hL hH
 go_enter Try.func44,Try.ntmps44
 go_wp2
 go_loopw [4] (fun i wr=>∃k:Nat,64≤k∧k≤128∧i= .int .i64 k∧wr.heap[w.heap.size]? =some (.cells (yfA n) 102 (0,0))∧Hid (∀j,64≤j→j<k→n.testBit j=n.testBit 63)∧Below w.heap.size w wr)
  (fun i _=>(128-intOf i).toNat)
 case atStart=>
  exact ⟨64,by omega,by omega,rfl,hnew rfl,hid (fun j h1 h2=>by omega),Below.new w _⟩
 case round=>
  obtain ⟨k,hk1,hk2,rfl,hb,hall,hbel⟩:=hrel
  have BB:=hid hb
  by_cases hlt:k<128
  ·have c1:=(ybN hb k).1
   have c2:=(ybN hb 63).1
   unfold yfA at c1 c2
   rw[rowf_get _ _ _ (by omega)] at c1 c2
   clear hb
   have AN:=hid (yz9 n k hk1 hlt)
   generalize hx:n.testBit k=x at*
   generalize hy:n.testBit 63=y at*
   have HX:=hid hx
   clear hx
   have HY:=hid hy
   clear hy
   have hki:(k:Int)<128:=by omega
   have HS:Hid (x=y→∀j,64≤j→j<k+1→n.testBit j=y):=hid fun hxy j h1 h2=>by
    rcases Nat.lt_or_ge j k with h|h
    ·exact hall.out j h1 h
    ·rw[show j=k from by omega,HX.out,hxy]
   cases x<;>cases y
   all_goals
    go_wp2
    go_quiet (fail)
    go_wp2
    first
     |(go_ret2;exact ⟨yvn (yz7 (AN.out (by simp))),ymF hbel _⟩)
     | (go_roundw
        case rel=>exact ⟨k+1,by omega,by omega,by go_num,BB.out,hid (HS.out (by simp)),ymF hbel _⟩
        case measure=>simp[intOf];omega)
  ·obtain rfl:k=128:=by omega
   have AY:=hid (yxx n hall.out)
   clear hb
   go_wp2_with (first
    |(refine wpList_load_row rfl 102 (.tmp 1) rfl w.heap.size rfl 102 (yfA n) (0,0) _ BB.out Try.underlying102 rfl (by rw[ym5,ybU]) ?_)
    |(go_at_call 59;refine (ysu n H L HH.out HL.out _).mono ?_;rintro e w2 ⟨rfl,hb2⟩))
   go_ret2
   exact ⟨yvn (yxP AY.out),Below.step hbel hb2⟩
end Go.Proofs.Ytecfpoklnfaihaa
end
noncomputable section
namespace Go.AV
open Go.RowKit Go.RG Go.Lib
theorem ykh {P:Program} {f:FuncId} {fn:Func} (hfn:P.funcs[f]? =some fn) (hb:(if fn.name== "runtime.NumGoroutine" then none else fn.body).isSome=true) {args:List AV} {v:AV} (hn:v.noL=true)
  (h:∀(G:Gh) (vs:List Value),GOK P G.w G.I->(∀b,G.I b->b<G.w.heap.size)->VRs G args vs->Calls P f vs.toArray G.w fun e w'=>∃x,e= .returned x/\(∀G',VR G' v x)/\Below G.w.heap.size G.w w'):Pure P f args v:=by
 intro H n G vs hg hM hV
 obtain ⟨b,hb⟩:=Option.isSome_iff_exists.1 hb
 split at hb
 ·cases hb
 ·rename_i hname
  have hcall:(callFunc f vs).run P G.w= .ok (.enter f vs) G.w:=by
   simp only[callFunc,Sem.run_bind,run_program,Result.andThen_ok,hfn]
   rw[if_neg hname]
   simp[hb]
  unfold yiE
  rw[hcall]
  have h0:=h G vs.toList hg hM.lt hV
  rw[Array.toArray_toList] at h0
  refine Calls.mono h0 ?_
  rintro e w' ⟨x,rfl,hx,hbl⟩
  obtain ⟨G',g1,_,g3⟩:=hM.grow hbl.size hbl.block hbl.os hbl.tape hbl.output
  exact ⟨x,v,H,n,G',rfl,⟨rfl,rfl,rfl⟩,g1,g3,hx G',hn⟩
theorem Pure.congr {P:Program} {f:FuncId} {a a':List AV} {v v':AV} (h:Pure P f a v) (ha:a=a') (hv:v=v'):Pure P f a' v':=by subst ha;subst hv;exact h
theorem VR.itv {G:Gh} {k:IntKind} {n:Int} {v:Value} (h:VR G (.it k n) v):v= .int k n:=by
 cases h;rfl
theorem vs2 {G:Gh} {a b:AV} {vs:List Value} (h:VRs G [a,b] vs):∃x y,vs= [x,y]∧VR G a x∧VR G b y:=by
 match vs,h with
 | [x,y],h=>exact ⟨x,y,rfl,h.head,h.tail.head⟩
 | [],h=>have:=h.1;simp at this
 | [_],h=>have:=h.1;simp at this
 |_::_::_::_,h=>have:=h.1;simp at this
theorem vs1 {G:Gh} {a:AV} {vs:List Value} (h:VRs G [a] vs):∃x,vs= [x]∧VR G a x:=by
 match vs,h with
 | [x],h=>exact ⟨x,rfl,h.head⟩
 | [],h=>have:=h.1;simp at this
 |_::_::_,h=>have:=h.1;simp at this
theorem vs3 {G:Gh} {a b c:AV} {vs:List Value} (h:VRs G [a,b,c] vs):∃x y z,vs= [x,y,z]∧VR G a x∧VR G b y∧VR G c z:=by
 match vs,h with
 | [x,y,z],h=>exact ⟨x,y,z,rfl,h.head,h.tail.head,h.tail.tail.head⟩
 | [],h=>have:=h.1;simp at this
 | [_],h=>have:=h.1;simp at this
 | [_,_],h=>have:=h.1;simp at this
 |_::_::_::_::_,h=>have:=h.1;simp at this
theorem yyn {P:Program} {f:FuncId} {args:List AV} {v:AV} (hn:v.noL=true) (h:∀(G:Gh) (vs:List Value),VRs G args vs→∃x,(callFunc f vs.toArray).run P G.w= .ok (.value x) G.w∧∀G',VR G' v x):Pure P f args v:=by
 intro H n G vs hg hM hV
 obtain ⟨x,h0,hx⟩:=h G vs.toList hV
 rw[Array.toArray_toList] at h0
 unfold yiE
 rw[h0]
 exact ⟨x,v,H,n,G,rfl,⟨rfl,rfl,rfl⟩,hM,rfl,hx G,hn⟩
end Go.AV
end
noncomputable section
namespace Go.Proofs.Ytecfpoklnfaihaa
open Go.AV
set_option maxRecDepth 1000000
def c3:AFn:=cF Try.prog 3
theorem t3:trF Try.prog 3=some c3:=tF (by kernel_rfl)
def c4:AFn:=cF Try.prog 4
theorem t4:trF Try.prog 4=some c4:=tF (by kernel_rfl)
def c5:AFn:=cF Try.prog 5
theorem t5:trF Try.prog 5=some c5:=tF (by kernel_rfl)
def c6:AFn:=cF Try.prog 6
theorem t6:trF Try.prog 6=some c6:=tF (by kernel_rfl)
def c7:AFn:=cF Try.prog 7
theorem t7:trF Try.prog 7=some c7:=tF (by kernel_rfl)
def c8:AFn:=cF Try.prog 8
theorem t8:trF Try.prog 8=some c8:=tF (by kernel_rfl)
def c9:AFn:=cF Try.prog 9
theorem t9:trF Try.prog 9=some c9:=tF (by kernel_rfl)
def c10:AFn:=cF Try.prog 10
theorem t10:trF Try.prog 10=some c10:=tF (by kernel_rfl)
def c11:AFn:=cF Try.prog 11
theorem t11:trF Try.prog 11=some c11:=tF (by kernel_rfl)
def c12:AFn:=cF Try.prog 12
theorem t12:trF Try.prog 12=some c12:=tF (by kernel_rfl)
def c13:AFn:=cF Try.prog 13
theorem t13:trF Try.prog 13=some c13:=tF (by kernel_rfl)
def c14:AFn:=cF Try.prog 14
theorem t14:trF Try.prog 14=some c14:=tF (by kernel_rfl)
def c15:AFn:=cF Try.prog 15
theorem t15:trF Try.prog 15=some c15:=tF (by kernel_rfl)
def c16:AFn:=cF Try.prog 16
theorem t16:trF Try.prog 16=some c16:=tF (by kernel_rfl)
def c17:AFn:=cF Try.prog 17
theorem t17:trF Try.prog 17=some c17:=tF (by kernel_rfl)
def c18:AFn:=cF Try.prog 18
theorem t18:trF Try.prog 18=some c18:=tF (by kernel_rfl)
def c19:AFn:=cF Try.prog 19
theorem t19:trF Try.prog 19=some c19:=tF (by kernel_rfl)
def c20:AFn:=cF Try.prog 20
theorem t20:trF Try.prog 20=some c20:=tF (by kernel_rfl)
def c21:AFn:=cF Try.prog 21
theorem t21:trF Try.prog 21=some c21:=tF (by kernel_rfl)
def c22:AFn:=cF Try.prog 22
theorem t22:trF Try.prog 22=some c22:=tF (by kernel_rfl)
def c23:AFn:=cF Try.prog 23
theorem t23:trF Try.prog 23=some c23:=tF (by kernel_rfl)
def c24:AFn:=cF Try.prog 24
theorem t24:trF Try.prog 24=some c24:=tF (by kernel_rfl)
def c25:AFn:=cF Try.prog 25
theorem t25:trF Try.prog 25=some c25:=tF (by kernel_rfl)
def c26:AFn:=cF Try.prog 26
theorem t26:trF Try.prog 26=some c26:=tF (by kernel_rfl)
def c27:AFn:=cF Try.prog 27
theorem t27:trF Try.prog 27=some c27:=tF (by kernel_rfl)
def c28:AFn:=cF Try.prog 28
theorem t28:trF Try.prog 28=some c28:=tF (by kernel_rfl)
def c29:AFn:=cF Try.prog 29
theorem t29:trF Try.prog 29=some c29:=tF (by kernel_rfl)
def c30:AFn:=cF Try.prog 30
theorem t30:trF Try.prog 30=some c30:=tF (by kernel_rfl)
def c31:AFn:=cF Try.prog 31
theorem t31:trF Try.prog 31=some c31:=tF (by kernel_rfl)
def c32:AFn:=cF Try.prog 32
theorem t32:trF Try.prog 32=some c32:=tF (by kernel_rfl)
def c33:AFn:=cF Try.prog 33
theorem t33:trF Try.prog 33=some c33:=tF (by kernel_rfl)
def c34:AFn:=cF Try.prog 34
theorem t34:trF Try.prog 34=some c34:=tF (by kernel_rfl)
def c35:AFn:=cF Try.prog 35
theorem t35:trF Try.prog 35=some c35:=tF (by kernel_rfl)
def c36:AFn:=cF Try.prog 36
theorem t36:trF Try.prog 36=some c36:=tF (by kernel_rfl)
def c37:AFn:=cF Try.prog 37
theorem t37:trF Try.prog 37=some c37:=tF (by kernel_rfl)
def c38:AFn:=cF Try.prog 38
theorem t38:trF Try.prog 38=some c38:=tF (by kernel_rfl)
def c39:AFn:=cF Try.prog 39
theorem t39:trF Try.prog 39=some c39:=tF (by kernel_rfl)
def c40:AFn:=cF Try.prog 40
theorem t40:trF Try.prog 40=some c40:=tF (by kernel_rfl)
def c41:AFn:=cF Try.prog 41
theorem t41:trF Try.prog 41=some c41:=tF (by kernel_rfl)
def c42:AFn:=cF Try.prog 42
theorem t42:trF Try.prog 42=some c42:=tF (by kernel_rfl)
def c43:AFn:=cF Try.prog 43
theorem t43:trF Try.prog 43=some c43:=tF (by kernel_rfl)
def c45:AFn:=cF Try.prog 45
theorem t45:trF Try.prog 45=some c45:=tF (by kernel_rfl)
def c46:AFn:=cF Try.prog 46
theorem t46:trF Try.prog 46=some c46:=tF (by kernel_rfl)
def c47:AFn:=cF Try.prog 47
theorem t47:trF Try.prog 47=some c47:=tF (by kernel_rfl)
def c48:AFn:=cF Try.prog 48
theorem t48:trF Try.prog 48=some c48:=tF (by kernel_rfl)
def c49:AFn:=cF Try.prog 49
theorem t49:trF Try.prog 49=some c49:=tF (by kernel_rfl)
def c50:AFn:=cF Try.prog 50
theorem t50:trF Try.prog 50=some c50:=tF (by kernel_rfl)
def c51:AFn:=cF Try.prog 51
theorem t51:trF Try.prog 51=some c51:=tF (by kernel_rfl)
def c52:AFn:=cF Try.prog 52
theorem t52:trF Try.prog 52=some c52:=tF (by kernel_rfl)
def c53:AFn:=cF Try.prog 53
theorem t53:trF Try.prog 53=some c53:=tF (by kernel_rfl)
def c54:AFn:=cF Try.prog 54
theorem t54:trF Try.prog 54=some c54:=tF (by kernel_rfl)
def c55:AFn:=cF Try.prog 55
theorem t55:trF Try.prog 55=some c55:=tF (by kernel_rfl)
def c56:AFn:=cF Try.prog 56
theorem t56:trF Try.prog 56=some c56:=tF (by kernel_rfl)
def c57:AFn:=cF Try.prog 57
theorem t57:trF Try.prog 57=some c57:=tF (by kernel_rfl)
def c58:AFn:=cF Try.prog 58
theorem t58:trF Try.prog 58=some c58:=tF (by kernel_rfl)
def c62:AFn:=cF Try.prog 62
theorem t62:trF Try.prog 62=some c62:=tF (by kernel_rfl)
def c63:AFn:=cF Try.prog 63
theorem t63:trF Try.prog 63=some c63:=tF (by kernel_rfl)
def c64:AFn:=cF Try.prog 64
theorem t64:trF Try.prog 64=some c64:=tF (by kernel_rfl)
def c65:AFn:=cF Try.prog 65
theorem t65:trF Try.prog 65=some c65:=tF (by kernel_rfl)
def c66:AFn:=cF Try.prog 66
theorem t66:trF Try.prog 66=some c66:=tF (by kernel_rfl)
def c67:AFn:=cF Try.prog 67
theorem t67:trF Try.prog 67=some c67:=tF (by kernel_rfl)
def c68:AFn:=cF Try.prog 68
theorem t68:trF Try.prog 68=some c68:=tF (by kernel_rfl)
def c70:AFn:=cF Try.prog 70
theorem t70:trF Try.prog 70=some c70:=tF (by kernel_rfl)
def c71:AFn:=cF Try.prog 71
theorem t71:trF Try.prog 71=some c71:=tF (by kernel_rfl)
end Go.Proofs.Ytecfpoklnfaihaa
end
