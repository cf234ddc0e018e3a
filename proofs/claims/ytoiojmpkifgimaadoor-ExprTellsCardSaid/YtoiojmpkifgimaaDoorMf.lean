/- General texts and own ones, joined: what the program computes, told of abstract states, and the laws of plain data. No condition. -/
import Derived.Test.YtoiojmpkifgimaaDoorMe
import Derived.Test.YtoiojmpkifgimaaDoorMd
import Derived.KernelRfl
import Derived.Test.YtoiojmpkifgimaaDoorMb
noncomputable section
namespace Go.Proofs.YtoiojmpkifgimaaDoor
open Go.AV Go.RowKit
set_option maxRecDepth 100000 in
theorem yiq  {r0 : Bool} (h : ybh r0) : Pure Tryd.prog 4 [] (.bl r0) := by
 have e : Pure Tryd.prog yb5.f (yax CC yb5.ps []) (yaP (([.v 4 r0] : List (DV KK)).map (dvA CC))) = Pure Tryd.prog 4 [] (.bl r0) := by kernel_rfl
 have w : yb5.W [] [.v 4 r0] = ybh r0 := by kernel_rfl
 exact e.mp (yhQ _ _ (fun F h => by simp at h) (w.mpr h)).2
set_option maxRecDepth 100000 in
theorem yfJ {a0 : List yac} {a1 : Int} {a2 : Int} {r0 : E6} {r1 : Int} (h : ycb a0 a1 a2 r0 r1) : Pure Tryd.prog 5 [slA yaj a0, .it .i64 a1, .it .i64 a2] (.tup [.agg (yaf r0), .it .i64 r1]) := by
 have e : Pure Tryd.prog ycn.f (yax CC ycn.ps [.d (.v 22 a0), .d (.v 3 a1), .d (.v 3 a2)]) (yaP (([.v 28 r0, .v 3 r1] : List (DV KK)).map (dvA CC))) = Pure Tryd.prog 5 [slA yaj a0, .it .i64 a1, .it .i64 a2] (.tup [.agg (yaf r0), .it .i64 r1]) := by kernel_rfl
 have w : ycn.W [.d (.v 22 a0), .d (.v 3 a1), .d (.v 3 a2)] [.v 28 r0, .v 3 r1] = ycb a0 a1 a2 r0 r1 := by kernel_rfl
 exact e.mp (yiF _ _ (fun F h => by simp at h) (w.mpr h)).2
set_option maxRecDepth 100000 in
theorem ydk {a0 : E6} {r0 : X} (h : ydm a0 r0) : Pure Tryd.prog 6 [.agg (yaf a0)] (.agg (yad r0)) := by
 have e : Pure Tryd.prog ycU.f (yax CC ycU.ps [.d (.v 28 a0)]) (yaP (([.v 34 r0] : List (DV KK)).map (dvA CC))) = Pure Tryd.prog 6 [.agg (yaf a0)] (.agg (yad r0)) := by kernel_rfl
 have w : ycU.W [.d (.v 28 a0)] [.v 34 r0] = ydm a0 r0 := by kernel_rfl
 exact e.mp (yjf _ _ (fun F h => by simp at h) (w.mpr h)).2
set_option maxRecDepth 100000 in
theorem yg1 {a0 : E6} {r0 : Bool} (h : ycz a0 r0) : Pure Tryd.prog 7 [.agg (yaf a0)] (.bl r0) := by
 have e : Pure Tryd.prog ycR.f (yax CC ycR.ps [.d (.v 28 a0)]) (yaP (([.v 4 r0] : List (DV KK)).map (dvA CC))) = Pure Tryd.prog 7 [.agg (yaf a0)] (.bl r0) := by kernel_rfl
 have w : ycR.W [.d (.v 28 a0)] [.v 4 r0] = ycz a0 r0 := by kernel_rfl
 exact e.mp (yjB _ _ (fun F h => by simp at h) (w.mpr h)).2
set_option maxRecDepth 100000 in
theorem ykR {a0 : E6} {r0 : Str} (h : ycv a0 r0) : Pure Tryd.prog 8 [.agg (yaf a0)] (.st r0) := by
 have e : Pure Tryd.prog ycV.f (yax CC ycV.ps [.d (.v 28 a0)]) (yaP (([.v 9 r0] : List (DV KK)).map (dvA CC))) = Pure Tryd.prog 8 [.agg (yaf a0)] (.st r0) := by kernel_rfl
 have w : ycV.W [.d (.v 28 a0)] [.v 9 r0] = ycv a0 r0 := by kernel_rfl
 exact e.mp (yje _ _ (fun F h => by simp at h) (w.mpr h)).2
set_option maxRecDepth 100000 in
theorem ylM {a0 : X} {r0 : Bool} (h : ybB a0 r0) : Pure Tryd.prog 9 [.agg (yad a0)] (.bl r0) := by
 have e : Pure Tryd.prog yb4.f (yax CC yb4.ps [.d (.v 34 a0)]) (yaP (([.v 4 r0] : List (DV KK)).map (dvA CC))) = Pure Tryd.prog 9 [.agg (yad a0)] (.bl r0) := by kernel_rfl
 have w : yb4.W [.d (.v 34 a0)] [.v 4 r0] = ybB a0 r0 := by kernel_rfl
 exact e.mp (yex _ _ (fun F h => by simp at h) (w.mpr h)).2
set_option maxRecDepth 100000 in
theorem ykm {a0 : X} {r0 : Int} (h : ybE a0 r0) : Pure Tryd.prog 10 [.agg (yad a0)] (.it .i64 r0) := by
 have e : Pure Tryd.prog ybH.f (yax CC ybH.ps [.d (.v 34 a0)]) (yaP (([.v 3 r0] : List (DV KK)).map (dvA CC))) = Pure Tryd.prog 10 [.agg (yad a0)] (.it .i64 r0) := by kernel_rfl
 have w : ybH.W [.d (.v 34 a0)] [.v 3 r0] = ybE a0 r0 := by kernel_rfl
 exact e.mp (yee _ _ (fun F h => by simp at h) (w.mpr h)).2
set_option maxRecDepth 100000 in
theorem yjF {a0 : E6} {r0 : Int} (h : yb7 a0 r0) : Pure Tryd.prog 11 [.agg (yaf a0)] (.it .i64 r0) := by
 have e : Pure Tryd.prog ybQ.f (yax CC ybQ.ps [.d (.v 28 a0)]) (yaP (([.v 3 r0] : List (DV KK)).map (dvA CC))) = Pure Tryd.prog 11 [.agg (yaf a0)] (.it .i64 r0) := by kernel_rfl
 have w : ybQ.W [.d (.v 28 a0)] [.v 3 r0] = yb7 a0 r0 := by kernel_rfl
 exact e.mp (yfc _ _ (fun F h => by simp at h) (w.mpr h)).2
set_option maxRecDepth 100000 in
theorem yls {a0 : X} {r0 : Str} (h : ybq a0 r0) : Pure Tryd.prog 12 [.agg (yad a0)] (.st r0) := by
 have e : Pure Tryd.prog ycu.f (yax CC ycu.ps [.d (.v 34 a0)]) (yaP (([.v 9 r0] : List (DV KK)).map (dvA CC))) = Pure Tryd.prog 12 [.agg (yad a0)] (.st r0) := by kernel_rfl
 have w : ycu.W [.d (.v 34 a0)] [.v 9 r0] = ybq a0 r0 := by kernel_rfl
 exact e.mp (ygY _ _ (fun F h => by simp at h) (w.mpr h)).2
set_option maxRecDepth 100000 in
theorem yfh {a0 : X} {a1 : X} {r0 : Bool} (h : ybs a0 a1 r0) : Pure Tryd.prog 13 [.agg (yad a0), .agg (yad a1)] (.bl r0) := by
 have e : Pure Tryd.prog ycx.f (yax CC ycx.ps [.d (.v 34 a0), .d (.v 34 a1)]) (yaP (([.v 4 r0] : List (DV KK)).map (dvA CC))) = Pure Tryd.prog 13 [.agg (yad a0), .agg (yad a1)] (.bl r0) := by kernel_rfl
 have w : ycx.W [.d (.v 34 a0), .d (.v 34 a1)] [.v 4 r0] = ybs a0 a1 r0 := by kernel_rfl
 exact e.mp (yg2 _ _ (fun F h => by simp at h) (w.mpr h)).2
set_option maxRecDepth 100000 in
theorem ykC {a0 : E6} {a1 : E6} {r0 : Bool} (h : ydg a0 a1 r0) : Pure Tryd.prog 14 [.agg (yaf a0), .agg (yaf a1)] (.bl r0) := by
 have e : Pure Tryd.prog ycT.f (yax CC ycT.ps [.d (.v 28 a0), .d (.v 28 a1)]) (yaP (([.v 4 r0] : List (DV KK)).map (dvA CC))) = Pure Tryd.prog 14 [.agg (yaf a0), .agg (yaf a1)] (.bl r0) := by kernel_rfl
 have w : ycT.W [.d (.v 28 a0), .d (.v 28 a1)] [.v 4 r0] = ydg a0 a1 r0 := by kernel_rfl
 exact e.mp (yjT _ _ (fun F h => by simp at h) (w.mpr h)).2
set_option maxRecDepth 100000 in
theorem yjL {a0 : E6} {r0 : List E6} (h : ycQ a0 r0) : Pure Tryd.prog 15 [.agg (yaf a0)] (slA yah r0) := by
 have e : Pure Tryd.prog ycp.f (yax CC ycp.ps [.d (.v 28 a0)]) (yaP (([.v 26 r0] : List (DV KK)).map (dvA CC))) = Pure Tryd.prog 15 [.agg (yaf a0)] (slA yah r0) := by kernel_rfl
 have w : ycp.W [.d (.v 28 a0)] [.v 26 r0] = ycQ a0 r0 := by kernel_rfl
 exact e.mp (yiv _ _ (fun F h => by simp at h) (w.mpr h)).2
mutual
def ylb : X → Prop
 | .mk _ _ _ _ _ L => L.length <= 1000000000 /\ yju L
def yju : List X → Prop
 | [] => True
 | x :: r => ylb x /\ yju r
end
theorem yrP {L : List X} (h : yju L) : ∀ x ∈ L, ylb x := by
 induction L with
 | nil => intro x hx; cases hx
 | cons y L ih =>
   intro x hx
   rcases List.mem_cons.1 hx with rfl | hx
   ·exact h.1
   ·exact ih h.2 x hx
section
variable {hs : Nat -> Bool} {P : Program} {CA : Cal -> List AV -> St -> (AV -> St -> Prop) -> Prop} {o : AO} {r : List AO} {Q : St -> Prop} {S : St}
theorem rA (h : aop hs CA o.op o.dst S fun v S' => runA hs CA r Q (S'.put o.dst v)) (hg : o.guard = none := by rfl) : runA hs CA (o :: r) Q S := by
 simp only [runA, hg]; exact h
theorem rN (h : Q S) : runA hs CA [] Q S := h
def isQ : AOp → Bool
 | .mv .. | .bin .. | .eq .. | .un .. | .fad .. | .iad .. | .len .. | .mkf .. => true
 | _ => false
theorem rP {u : AOp} {v : AV} {d : Option Nat} (hq : isQ u = true) (hp : pval (yaz S) (ev S.fr) u = some v) (k : runA hs CA r Q (S.put d v)) : runA hs CA (⟨d, none, u⟩ :: r) Q S := by
 refine rA ?_
 cases u <;> first | (cases hq; done) | (simp only [aop, hp, wpv]; exact k)
theorem rLd {g : Bool} {sz off : Nat} {x : AOpd} {us : List AV} {v : AV} {d : Option Nat} (ht : tgt S (ev S.fr x) = some (us, off)) (hv : (if g then (if off + sz ≤ us.length then some (AV.agg ((us.drop off).take sz)) else none) else us[off]?) = some v) (k : runA hs CA r Q (S.put d v)) : runA hs CA (⟨d, none, .ld g sz x⟩ :: r) Q S := by
 refine rA ?_
 simp only [aop, ht, wpv, hv]; exact k
theorem rBox {e sz : Nat} {x : AOpd} {cs : List AV} {d : Option Nat} (hx : (ev S.fr x).cells = cs) (hl : cs.length = sz) (h1 : cs.all AV.one = true) (h0 : 0 < sz) (hh : hOk (ybw hs S (site d)) cs = true) (k : runA hs CA r Q ((S.new hs (site d) ⟨e, sz, cs⟩).put d (.pt (ybw hs S (site d)) 0))) : runA hs CA (⟨d, none, .box e sz x⟩ :: r) Q S := by
 refine rA ?_
 simp only [aop, hx]; exact ⟨hl, h1, h0, hh, k⟩
theorem rSto {sz off : Nat} {x y : AOpd} {ky : Key} {b : Blk} {cs : List AV} {d : Option Nat} (hx : ev S.fr x = .pt ky off) (hm : S.M ky = some b) (hz : b.sz ≠ 0) (hy : (ev S.fr y).cells = cs) (hl : cs.length = sz) (h1 : cs.all AV.one = true) (hb : off + sz ≤ b.cells.length) (hh : hOk ky (b.cells.take off ++ cs ++ b.cells.drop (off + sz)) = true) (k : runA hs CA r Q ((S.setM ky { b with cells := b.cells.take off ++ cs ++ b.cells.drop (off + sz) }).put d .un)) : runA hs CA (⟨d, none, .sto sz x y⟩ :: r) Q S := by
 refine rA ?_
 simp only [aop, hx, hm, wpv, hy]; exact ⟨hz, hl, h1, hb, hh, k⟩
theorem yoS {f : FuncId} {args : List AOpd} {d : Option Nat} {vs : List AV} {Post : AV → Hp → Nat → Prop} (hv : args.map (ev S.fr) = vs) (hn : noLs vs = true) (hc : yao P f vs S.hp S.nx Post) (k : ∀ v H' n', Post v H' n' → runA hs (ybo P) r Q ((S.withH H' n').put d v)) : runA hs (ybo P) (⟨d, none, .call f args⟩ :: r) Q S := by
 refine rA ?_
 show ybo P (.f f) (args.map (ev S.fr)) S _
 rw [hv]
 refine .inl ?_
 unfold ye6
 rw [yfN _ _ hn]
 exact ⟨hn, hc.mono k⟩
theorem rYld {q : Nat} {x : AOpd} {args : List AOpd} {d : Option Nat} {vs : List AV} {Post : AV → Hp → Nat → Prop} (hx : ev S.fr x = .yld q) (hv : args.map (ev S.fr) = vs) (hn : noLs vs = true) (hc : ybO P q vs S.hp S.nx Post) (k : ∀ v H' n', Post v H' n' → runA hs (ybo P) r Q ((S.withH H' n').put d v)) : runA hs (ybo P) (⟨d, none, .calv x args⟩ :: r) Q S := by
 refine rA ?_
 simp only [aop, hx]
 rw [hv]
 refine .inl ?_
 unfold ye6
 rw [yfN _ _ hn]
 exact ⟨hn, hc.mono k⟩
end
section
variable {hs : Nat -> Bool} {oo : Option Nat} {P : Program} {a b : ybC} {Q : AEx -> St -> Prop} {S : St}
theorem wI {α : Type} {o : Option α} {u : α} {K : α -> Prop} (h : o = some u) (k : K u) : wpv o K := by subst h; exact k
theorem wS (h : wpA hs oo P a (fun e S' => match e with | .n => wpA hs oo P b Q S' | e => Q e S') S) : wpA hs oo P (.seq a b) Q S := h
theorem wO {l : List AO} (h : runA hs (ybo P) l (Q .n) S) : wpA hs oo P (.ops l) Q S := h
theorem wC {u : AOpd} {c : Bool} (hv : ev S.fr u = .bl c) (h1 : c = true → wpA hs oo P a Q S) (h2 : c = false → wpA hs oo P b Q S) : wpA hs oo P (.cond u a b) Q S := by
 simp only [wpA, hv]; exact ⟨h1, h2⟩
end
theorem wK {hs : Nat -> Bool} {oo : Option Nat} {P : Program} {Q : AEx -> St -> Prop} {S : St} (h : Q .n S) : wpA hs oo P .skip Q S := h
theorem wE {hs : Nat -> Bool} {oo : Option Nat} {P : Program} {Q : AEx -> St -> Prop} {S : St} {i : Nat} (h : Q (.x i) S) : wpA hs oo P (.exit i) Q S := h
theorem wR {hs : Nat -> Bool} {oo : Option Nat} {P : Program} {Q : AEx -> St -> Prop} {S : St} (h : Q .r S) : wpA hs oo P .ret Q S := h
theorem wBk {hs : Nat -> Bool} {oo : Option Nat} {P : Program} {a : ybC} {Q : AEx -> St -> Prop} {S : St} {id : Nat} (h : wpA hs oo P a (fun e S' => match e with | .x i => if i = id then Q .n S' else Q (.x i) S' | e => Q e S') S) : wpA hs oo P (.block id a) Q S := h
theorem yaC (f : Key -> Option Blk) (k : Key) (v : Option Blk) : updK f k v k = v := by simp [updK]
theorem yhu {α : Type} (f : Nat → α) (d : Nat) {v : α} (h : f d = v) : upd f d v = f := by
 funext t; unfold upd; split
 ·rename_i e; rw [e, h]
 ·rfl
theorem yqc {S : St} {a b c d : AV} (h1 : S.fr 1 = a) (h12 : S.fr 12 = b) (h13 : S.fr 13 = c) (h14 : S.fr 14 = d) : S = ⟨upd (upd (upd (upd S.fr 1 a) 12 b) 13 c) 14 d, S.M, S.cnt, S.nx⟩ := by
 rw [yhu S.fr 1 h1, yhu S.fr 12 h12, yhu S.fr 13 h13, yhu S.fr 14 h14]
theorem ysJ : ∀ (L : List X) (i : Nat) (x : X), L[i]? = some x → ((yal L).drop (i * 8)).take 8 = yad x ∧ i * 8 + 8 ≤ (yal L).length
 | [], i, x, h => by simp at h
 | y :: L, 0, x, h => by
   simp only [List.getElem?_cons_zero, Option.some.injEq] at h; subst h
   have hl := yaq y
   simp only [yal, Nat.zero_mul, List.drop_zero, List.length_append]
   exact ⟨by rw [List.take_append_of_le_length (by omega), List.take_of_length_le (by omega)], by omega⟩
 | y :: L, i + 1, x, h => by
   have hl := yaq y
   obtain ⟨a, b⟩ := ysJ L i x (by simpa using h)
   simp only [yal, List.length_append]
   refine ⟨?_, by omega⟩
   rw [show (i + 1) * 8 = (yad y).length + i * 8 by omega, <- List.drop_drop, List.drop_left]; exact a
theorem yoQ {o : Nat} {J : List X → Hp → Nat → Prop} {Jx : Hp → Nat → Prop} (hJ : ∀ x r H n, J (x :: r) H n → ybO Tryd.prog o [.agg (yad x)] H n fun v H' n' => (v = .bl true ∧ J r H' n') ∨ (v = .bl false ∧ Jx H' n')) :
  ∀ (N : Nat) (e : X) (r : List X) (H : Hp) (n : Nat), SizeOf.sizeOf e <= N -> ylb e -> J (wl e ++ r) H n -> yao Tryd.prog 25 [.agg (yad e), .yld o] H n fun v H' n' => (v = .bl true /\ J r H' n') ∨ (v = .bl false /\ Jx H' n') := by
 intro N
 induction N with
 | zero => intro e r H n h; cases e; simp at h
 | succ N ih =>
   intro e r H n hN hok hJe
   obtain ⟨k, op, v, tb, nm, L⟩ := e
   obtain ⟨vk, vn, vs⟩ := v
   simp only [ylb] at hok
   obtain ⟨hL, hoks⟩ := hok
   have hJ0 := hJ _ _ _ _ (show J (yab.mk k op ⟨vk, vn, vs⟩ tb nm L :: (wls L ++ r)) H n by simpa [wl] using hJe)
   refine yd2 t25 (fun _ => false) (show 2 <= 23 by omega) ?_
   have hno := yaF (.mk k op ⟨vk, vn, vs⟩ tb nm L)
   have hone := yaJ (.mk k op ⟨vk, vn, vs⟩ tb nm L)
   have hlen := yaq (.mk k op ⟨vk, vn, vs⟩ tb nm L)
   have hce : yad (.mk k op ⟨vk, vn, vs⟩ tb nm L) = [.it .i64 k, .it .i64 op, .it .i64 vk, .it .i64 vn, .st vs, .st tb, .st nm, .sl false L.length (yal L)] := rfl
   refine wS (wO ?_)
   refine rBox (cs := yad (.mk k op ⟨vk, vn, vs⟩ tb nm L)) rfl hlen hone (by omega) rfl ?_
   refine rP rfl rfl ?_
   refine wS (wS (wO ?_))
   refine rP rfl rfl ?_
   refine rLd (us := yad (.mk k op ⟨vk, vn, vs⟩ tb nm L)) (off := 0) rfl rfl ?_
   refine rYld (q := o) rfl (vs := [.agg (yad (.mk k op ⟨vk, vn, vs⟩ tb nm L))]) rfl rfl hJ0 ?_
   rintro v H1 n1 (⟨rfl, hj⟩ | ⟨rfl, hj⟩)
   ·refine rP rfl rfl ?_
    refine rN ?_
    refine wC (c := false) ?_ (fun q => (by cases q)) (fun _ => ?_)
    ·rfl
    refine wS (wS (wO ?_))
    refine rP (v := .pt (.l 2 1) 7) rfl rfl ?_
    refine rLd (us := yad (.mk k op ⟨vk, vn, vs⟩ tb nm L)) (off := 7) (v := .sl false L.length (yal L)) rfl rfl ?_
    refine rP (v := .it .i64 L.length) rfl rfl ?_
    refine rP (v := .it .i64 0) rfl rfl ?_
    refine rN ?_
    show ∃ I : Nat -> St -> Prop, _
    refine ⟨fun m S => ∃ (i : Nat) (fr : Nat -> AV) (M : Key -> Option Blk) (cnt : Nat -> Nat) (nx : Nat), S = ⟨upd (upd (upd (upd fr 1 (.yld o)) 12 (.sl false L.length (yal L))) 13 (.it .i64 L.length)) 14 (.it .i64 (i : Int)), M, cnt, nx⟩ /\ i <= L.length /\ m = L.length - i /\ J (wls (L.drop i) ++ r) (fun o => M (.h o)) nx, ⟨_, 0, _, _, _, _, yqc (a := .yld o) (b := .sl false L.length (yal L)) (c := .it .i64 L.length) (d := .it .i64 0) rfl rfl rfl rfl, by omega, rfl, ?_⟩, ?_⟩
    ·simp only [List.drop_zero]
     exact hj
    ·rintro m S' ⟨i, fr, M, cnt, nx, rfl, hi, rfl, hji⟩
     refine wS (wO ?_)
     refine rP (v := .bl (decide ((i : Int) < L.length))) rfl rfl ?_
     refine rN ?_
     refine wS ?_
     by_cases hlt : i < L.length
     ·refine wC (c := true) ?_ (fun _ => ?_) (fun q => (by cases q))
      ·show AV.bl (decide ((i : Int) < L.length)) = .bl true
       rw [decide_eq_true (by omega)]
      refine wK ?_
      obtain ⟨x, hx⟩ : ∃ x, L[i]? = some x := ⟨_, List.getElem?_eq_getElem hlt⟩
      have hxm := List.mem_of_getElem? hx
      obtain ⟨hc1, hc2⟩ := ysJ L i x hx
      have hdr : L.drop i = x :: L.drop (i + 1) := by
       obtain ⟨h1, h2⟩ := List.getElem?_eq_some_iff.1 hx
       rw [List.drop_eq_getElem_cons h1, h2]
      have hji' : J (wl x ++ (wls (L.drop (i + 1)) ++ r)) (fun o => M (.h o)) nx := by
       rw [hdr] at hji
       simpa [wls] using hji
      have hsz : SizeOf.sizeOf x ≤ N := by
       have h1 := List.sizeOf_lt_of_mem hxm
       simp only [yab.mk.sizeOf_spec] at hN
       omega
      have hcon := ih x (wls (L.drop (i + 1)) ++ r) (fun o => M (.h o)) nx hsz (yrP hoks x hxm) hji'
      have xlen := yaq x
      have xone := yaJ x
      have xno := yaF x
      refine wS (wBk (wS (wO ?_)))
      refine rP (v := .ep (yal L) (i * 8)) rfl ?_ ?_
      ·show (if 0 ≤ (i : Int) ∧ (i : Int) < (L.length : Int) then some (AV.ep (yal L) ((i : Int).toNat * 8)) else none) = _
       rw [if_pos ⟨by omega, by omega⟩]; rfl
      refine rLd (us := yal L) (off := i * 8) (v := .agg (yad x)) rfl ?_ ?_
      ·show (if i * 8 + 8 ≤ (yal L).length then some (AV.agg (((yal L).drop (i * 8)).take 8)) else none) = _
       rw [if_pos hc2, hc1]
      refine rBox (cs := [.it .i64 0, .it .i64 0, .it .i64 0, .it .i64 0, .st [], .st [], .st [], .sl true 0 []]) rfl rfl rfl (by omega) rfl ?_
      refine rSto (ky := .l 6 (cnt 6 + 1)) (off := 0) (b := ⟨34, 8, [.it .i64 0, .it .i64 0, .it .i64 0, .it .i64 0, .st [], .st [], .st [], .sl true 0 []]⟩) (cs := yad x) rfl ?_ (by decide) rfl xlen xone (Nat.le_refl 8) rfl ?_
      ·exact yaC _ _ _
      refine rN ?_
      refine wS (wO ?_)
      refine rLd (us := yad x) (off := 0) (v := .agg (yad x)) ?_ ?_ ?_
      ·show ((updK _ (.l 6 (cnt 6 + 1)) (some _) (.l 6 (cnt 6 + 1))).bind _) = _
       rw [yaC]
       show some ([] ++ yad x ++ [], 0) = _
       simp
      ·show (if 0 + 8 ≤ (yad x).length then some (AV.agg (((yad x).drop 0).take 8)) else none) = _
       rw [if_pos (by omega), List.drop_zero, List.take_of_length_le (by omega)]
      refine rP rfl rfl ?_
      refine yoS (f := 25) (vs := [.agg (yad x), .yld o]) rfl ?_ hcon ?_
      ·simp [noLs, AV.noL, xno]
      rintro v H2 n2 (⟨rfl, hj2⟩ | ⟨rfl, hj2⟩)
      ·refine rP rfl rfl ?_
       refine rN ?_
       refine wC (c := false) ?_ (fun q => (by cases q)) (fun _ => ?_)
       ·rfl
       refine wK ?_
       refine wO ?_
       refine rP (v := .it .i64 ((i + 1 : Nat) : Int)) rfl ?_ ?_
       ·show some (AV.it .i64 (IntKind.i64.wrap ((i : Int) + 1))) = _
        rw [show IntKind.i64.wrap ((i : Int) + 1) = (i : Int) + 1 by simp [IntKind.wrap, IntKind.bits, IntKind.signed]; omega]; rfl
       refine rP rfl rfl ?_
       refine rN ?_
       exact ⟨L.length - (i + 1), by omega, i + 1, _, _, _, _, yqc (a := .yld o) (b := .sl false L.length (yal L)) (c := .it .i64 L.length) (d := .it .i64 ((i + 1 : Nat) : Int)) rfl rfl rfl rfl, by omega, rfl, hj2⟩
      ·refine rP rfl rfl ?_
       refine rN ?_
       refine wC (c := true) ?_ (fun _ => ?_) (fun q => (by cases q))
       ·rfl
       refine wS (wO ?_)
       refine rP rfl rfl ?_
       exact wI rfl ⟨rfl, .inr ⟨rfl, hj2⟩⟩
     ·refine wC (c := false) ?_ (fun q => (by cases q)) (fun _ => ?_)
      ·show AV.bl (decide ((i : Int) < L.length)) = .bl false
       rw [decide_eq_false (by omega)]
      refine wE ?_
      have hdr : L.drop i = [] := List.drop_eq_nil_of_le (by omega)
      rw [hdr] at hji
      refine wS (wO ?_)
      refine rP rfl rfl ?_
      exact wI rfl ⟨rfl, .inl ⟨rfl, hji⟩⟩
   ·refine rP rfl rfl ?_
    refine rN ?_
    refine wC (c := true) ?_ (fun _ => ?_) (fun q => (by cases q))
    ·rfl
    refine wS (wO ?_)
    refine rP rfl rfl ?_
    exact wI rfl ⟨rfl, .inr ⟨rfl, hj⟩⟩
theorem yqm {cs : List AV} (hl : cs.length = 8) (h1 : cs.all AV.one = true) (hno : noLs cs = true) {H : Hp} {n : Nat} : yao Tryd.prog 16 [.agg cs] H n fun v H' n' => v = .fn (.func 24) [] [.pt (.h n) 0] ∧ H' = (fun o => if o = n then some ⟨34, 8, cs⟩ else H o) ∧ n' = n + 1 := by
 refine yd2 t16 (fun s => s == 1) (show 1 <= 4 by omega) ?_
 refine wS (wO ?_)
 refine rBox (cs := cs) rfl hl h1 (by omega) hno ?_
 refine rP rfl rfl ?_
 refine rN ?_
 refine wS (wO ?_)
 refine rP (v := .fn (.func 24) [] [.pt (.h n) 0]) rfl rfl ?_
 refine rP rfl rfl ?_
 refine rN ?_
 refine wR ?_
 refine wI rfl ⟨rfl, rfl, ?_, rfl⟩
 funext o
 show updK (yeY H) (.h n) (some _) (.h o) = _
 simp only [updK, Key.h.injEq, yeY]
theorem yoj {e : X} {k o : Nat} {H : Hp} {n : Nat} {Post : AV → Hp → Nat → Prop} (hk : H k = some ⟨34, 8, yad e⟩) (hc : yao Tryd.prog 25 [.agg (yad e), .yld o] H n Post) : yao Tryd.prog 24 [.yld o, .pt (.h k) 0] H n fun _ H' n' => ∃ v, Post v H' n' := by
 have hl := yaq e
 have hno := yaF e
 refine yd2 t24 (fun _ => false) (show 2 <= 6 by omega) ?_
 refine wO ?_
 refine rLd (us := yad e) (off := 0) (v := .agg (yad e)) ?_ ?_ ?_
 ·show (H k).bind _ = _
  rw [hk]; rfl
 ·show (if 0 + 8 ≤ (yad e).length then some (AV.agg (((yad e).drop 0).take 8)) else none) = _
  rw [if_pos (by omega), List.drop_zero, List.take_of_length_le (by omega)]
 refine rP rfl rfl ?_
 refine yoS (f := 25) (vs := [.agg (yad e), .yld o]) rfl ?_ hc ?_
 ·simp [noLs, AV.noL, hno]
 intro v H' n' hP
 refine rN ?_
 exact wI rfl ⟨rfl, v, hP⟩
theorem ycD (M : Key -> Option Blk) (k j : Nat) (b : Option Blk) : updK M (.h k) b (.h j) = if j = k then b else M (.h j) := by simp only [updK, Key.h.injEq]
theorem wRng {hs : Nat → Bool} {P : Program} {Q : AEx → St → Prop} {S : St} {N : Nat} {g : AOpd} {ps : Array Tmp} {asg body : Code} {f : FuncId} {first cap : List AV} {Post : AV → Hp → Nat → Prop} (hg : ev S.fr g = .fn (.func f) first cap) (he : ∀ vs w, (callFunc f vs).run P w = .ok (.enter f vs) w)
  (hn : noLs (first ++ [.yld S.nx] ++ cap) = true) (hc : yao P f (first ++ [.yld S.nx] ++ cap) (S.lay N ps asg body).hp (S.nx + 1) Post) (k : ∀ v H' n', Post v H' n' -> yh4 Q S.nx ((S.lay N ps asg body).withH H' n')) : wpA hs none P (.rng N g ps asg body) Q S := by
 simp only [wpA, hg]
 refine ⟨trivial, ?_⟩
 unfold ye6
 rw [yfN _ _ hn]
 exact ⟨hn, he, hc.mono k⟩
mutual
theorem yqq : ∀ e : X, (wl e).length ≤ 1000000000 → ylb e
 | .mk k o v t n L, h => by
   simp only [wl, List.length_cons] at h
   obtain ⟨a, b⟩ := yp0 L (by omega)
   exact ⟨by omega, b⟩
theorem yp0 : ∀ L : List X, (wls L).length ≤ 1000000000 → L.length ≤ (wls L).length ∧ yju L
 | [], _ => ⟨Nat.le_refl _, trivial⟩
 | x :: r, h => by
   simp only [wls, List.length_append] at h
   obtain ⟨a, b⟩ := yp0 r (by omega)
   have hx := yqq x (by omega)
   have : 1 <= (wl x).length := by cases x; simp [wl]
   refine ⟨?_, hx, b⟩
   simp only [wls, List.length_append, List.length_cons]; omega
end
end Go.Proofs.YtoiojmpkifgimaaDoor
end
noncomputable section
namespace Go.Proofs.YtoiojmpkifgimaaDoor
open Go.AV Go.RowKit
section
variable {hs : Nat -> Bool} {P : Program} {r : List (AO × List Nat)} {acc : List Foot} {fre : List Nat} {Q : St -> Prop} {S : St} {d : Option Nat} {gd : Option (Nat × Bool)} {v : AV} {u : AOp}
def qa (acc : List Foot) : Prop := ∀ b ∈ acc, b.wk = [] /\ b.wh = false /\ b.bs = []
theorem yo5 : qa [] := fun b h => by cases h
def gOk (S : St) : Option (Nat × Bool) → Prop
 | none => True
 | some (g, b) => S.fr g = .bl b
theorem yji {K K' : REff → Prop} (h : eop hs P u d S K) (hk : ∀ e, K e → K' e) : eop hs P u d S K' := by
 have w : ∀ {o : Option REff}, wpv o K → wpv o K' := fun h => by
  obtain ⟨x, e, k⟩ := ybU h
  exact wI e (hk _ k)
 cases u <;> simp only [eop] at h ⊢
 case call => obtain ⟨e, h1, h2⟩ := h; exact ⟨e, h1, hk _ h2⟩
 case calv =>
  split at h
  ·obtain ⟨e, h1, h2⟩ := h; exact ⟨e, h1, hk _ h2⟩
  ·obtain ⟨e, h1, h2⟩ := h; exact ⟨e, h1, hk _ h2⟩
  ·exact h
 all_goals exact w h
theorem dQ (he : eop hs P u d S fun e => e = eff1 v) (hqa : qa acc) (hg : gOk S gd) (k : ∀ acc, qa acc → runD hs P r acc Q (S.put d v)) : runD hs P ((⟨d, gd, u⟩, fre) :: r) acc Q S := by
 have hq : ∀ e, e = eff1 v → ygc (ybv u S e) acc fre ∧ runD hs P r (acc ++ [ybv u S e]) Q (e.app d S) := by
  rintro e rfl
  refine ⟨yaA.2 fun j _ => ?_, ?_⟩
  ·cases hj : acc[j]? with
   | none => trivial
   | some b =>
     obtain ⟨b1, b2, b3⟩ := hqa b (List.mem_of_getElem? hj)
     show okF _ b
     unfold okF
     rw [b1, b2, b3]
     exact ⟨trivial, trivial, fun h => (by cases h), fun h => (by cases h), trivial⟩
  ·have : (eff1 v).app d S = S.put d v := by unfold REff.app; rw [ybG]; rfl
   rw [this]
   refine k _ fun b hb => ?_
   rcases List.mem_append.1 hb with hb | hb
   ·exact hqa b hb
   ·simp only [List.mem_singleton] at hb; subst hb; exact ⟨rfl, rfl, rfl⟩
 cases gd with
 | none => exact yji he hq
 | some gb =>
   obtain ⟨g, b⟩ := gb
   have hg : S.fr g = .bl b := hg
   simp only [runD]
   rw [hg]
   simp only [if_pos]
   exact yji he hq
def isP : AOp → Bool
 | .mv .. | .bin .. | .eq .. | .un .. | .fad .. | .iad .. | .len .. | .mkf .. | .pick .. | .ext .. | .mnx .. => true
 | _ => false
theorem dP (hq : isP u = true) (hp : pval (yaz S) (ev S.fr) u = some v) (hqa : qa acc) (hg : gOk S gd) (k : ∀ acc, qa acc → runD hs P r acc Q (S.put d v)) : runD hs P ((⟨d, gd, u⟩, fre) :: r) acc Q S := by
 refine dQ ?_ hqa hg k
 cases u <;> first | (cases hq; done) | (simp only [eop, effA, hp]; rfl)
theorem dLd {g : Bool} {sz off : Nat} {x : AOpd} {us : List AV} (ht : tgt S (ev S.fr x) = some (us, off)) (hv : (if g then (if off + sz ≤ us.length then some (AV.agg ((us.drop off).take sz)) else none) else us[off]?) = some v) (hqa : qa acc) (hg : gOk S gd) (k : ∀ acc, qa acc → runD hs P r acc Q (S.put d v)) : runD hs P ((⟨d, gd, .ld g sz x⟩, fre) :: r) acc Q S := by
 refine dQ ?_ hqa hg k
 show wpv (ylA g sz (tgt S (ev S.fr x))) _
 rw [ht]
 simp only [ylA, Option.bind_some]
 cases g with
 | true =>
   simp only [if_true] at hv ⊢
   split at hv
   ·rename_i h; rw [if_pos h]; cases hv; rfl
   ·cases hv
 | false =>
   simp only [Bool.false_eq_true, if_false] at hv ⊢
   rw [hv]; rfl
theorem ygs {f : FuncId} {vs : List AV} (hn : noLs vs = true) (hp : Pure P f vs v) : yhY P (.f f) vs S (eff1 v) := by
 refine .inl ⟨rfl, ?_, ?_⟩
 ·rw [yoY _ _ hn]; rfl
 ·unfold ye6
  rw [yfN _ _ hn]
  refine ⟨hn, (hp S.hp S.nx).mono ?_⟩
  rintro av H' n' ⟨rfl, rfl, rfl⟩
  exact ⟨rfl, by rw [ybG]; exact ygP S⟩
theorem yh6 {f : FuncId} {args : List AOpd} {vs : List AV} (hv : args.map (ev S.fr) = vs) (hn : noLs vs = true) (hp : Pure P f vs v) (hqa : qa acc) (hg : gOk S gd) (k : ∀ acc, qa acc → runD hs P r acc Q (S.put d v)) : runD hs P ((⟨d, gd, .call f args⟩, fre) :: r) acc Q S := by
 refine dQ ?_ hqa hg k
 refine ⟨eff1 v, ?_, rfl⟩
 rw [hv]; exact ygs hn hp
theorem dN (h : Q S) : runD hs P [] acc Q S := h
end
section
variable {hs : Nat -> Bool} {P : Program} {r : List AO} {Q : St -> Prop} {S : St} {d : Option Nat} {v : AV}
theorem ym6 {f : FuncId} {args : List AOpd} {vs : List AV} (hv : args.map (ev S.fr) = vs) (hn : noLs vs = true) (hp : Pure P f vs v) (k : runA hs (ybo P) r Q (S.put d v)) : runA hs (ybo P) (⟨d, none, .call f args⟩ :: r) Q S := by
 refine yoS hv hn (hp S.hp S.nx) ?_
 rintro av H' n' ⟨rfl, rfl, rfl⟩
 rw [ygP]; exact k
variable {CA : Cal -> List AV -> St -> (AV -> St -> Prop) -> Prop}
theorem rP2 {u : AOp} (hq : isP u = true) (hp : pval (yaz S) (ev S.fr) u = some v) (k : runA hs CA r Q (S.put d v)) : runA hs CA (⟨d, none, u⟩ :: r) Q S := by
 refine rA ?_
 cases u <;> first | (cases hq; done) | (simp only [aop, hp, wpv]; exact k)
theorem rG {g : Nat} {b : Bool} {u : AOp} (hg : S.fr g = .bl b) (k : runA hs CA (⟨d, none, u⟩ :: r) Q S) : runA hs CA (⟨d, some (g, b), u⟩ :: r) Q S := by
 simp only [runA, hg, if_pos] at k ⊢; exact k
theorem rSll {sz : Nat} {x : AOpd} {lo hi : Option AOpd} {z : Bool} {n : Nat} {xs : List AV} (hx : ev S.fr x = .sl z n xs) (hp : pval (yaz S) (ev S.fr) (.sll sz x lo hi) = some v) (k : runA hs CA r Q (S.put d v)) : runA hs CA (⟨d, none, .sll sz x lo hi⟩ :: r) Q S := by
 refine rA ?_
 simp only [aop, hx]
 exact wI hp k
end
end Go.Proofs.YtoiojmpkifgimaaDoor
end
noncomputable section
namespace Go.Proofs.YtoiojmpkifgimaaDoor
open Go.AV Go.RowKit
theorem ps0 : (rngX Tryd.prog 3 0).1 = #[82] := by kernel_rfl
theorem ps1 : (rngX Tryd.prog 3 1).1 = #[101] := by kernel_rfl
abbrev zX : List AV := [.it .i64 0, .it .i64 0, .it .i64 0, .it .i64 0, .st [], .st [], .st [], .sl true 0 []]
structure JA (m : E6) (ps : Array Tmp) (asg body : Code) (fr : List AV) (H : Hp) (n : Nat) (L : List X) (H' : Hp) (p : Nat) : Prop where
 lt : n + 5 <= p
 old : ∀ k, k < n -> H' k = H k
 rcd : H' (n + 4) = some ⟨0, 0, .rcd ps asg body .ready :: fr⟩
 b4 : H' n = some ⟨4, 1, [.bl false]⟩
 b12 : H' (n + 1) = some ⟨26, 1, [slA yah (pa m)]⟩
 b13 : ∃ i : Nat, H' (n + 2) = some ⟨3, 1, [.it .i64 i]⟩ /\ ((pa m).drop i).map told = L /\ i <= (pa m).length
section
variable {m : E6} {ps : Array Tmp} {asg body : Code} {fr : List AV} {H : Hp} {n : Nat}
theorem yrW (wf : WF m) (hlen : (pa m).length ≤ 1000) (hfr : fr.length = 112) (h12 : (fr[12]?).getD (.tup []) = .pt (.h (n + 1)) 0) (h13 : (fr[13]?).getD (.tup []) = .pt (.h (n + 2)) 0) (hps : ps = #[82]) (hA : trC Tryd.prog 112 asg = some ysL) (hB : trC Tryd.prog 112 body = some yrp) {x : X} {r : List X} {H' : Hp} {p : Nat} (J : JA m ps asg body fr H n (x :: r) H' p) :
  ybO Tryd.prog (n + 4) [.agg (yad x)] H' p fun v H'' p' => (v = .bl true /\ JA m ps asg body fr H n r H'' p') ∨ (v = .bl false /\ False) := by
 have xlen := yaq x
 have xone := yaJ x
 have xno := yaF x
 obtain ⟨hlt, hold, hrc, hb4, hb12, i, hb13, hL, hi⟩ := J
 subst hps
 have hil : i < (pa m).length := by
  rcases Nat.lt_or_ge i (pa m).length with h | h
  ·exact h
  ·rw [List.drop_of_length_le h] at hL; cases hL
 rw [List.drop_eq_getElem_cons hil] at hL
 simp only [List.map_cons, List.cons.injEq] at hL
 obtain ⟨hx, hr⟩ := hL
 have hy := List.getElem?_eq_getElem hil
 have wy := ytH wf _ (List.getElem_mem hil)
 have wx := (yjm wy).1
 have ylen := yaE (pa m)[i]
 have yno := yaI (pa m)[i]
 have hsame : ybs x (told (pa m)[i]) true := by
  rw [hx]
  have := yk1 (by rw [<- hx]; exact wx) (by rw [<- hx]; exact wx) (a := x) (b := x)
  rw [(yjx x x).2 rfl] at this; exact this
 refine ymm (fun _ => false) hA hB (e := 0) (fr := fr) hrc hfr rfl ?_
 refine wO ?_
 refine rBox (cs := zX) rfl rfl rfl (by omega) rfl ?_
 refine rSto (ky := .l 14 1) (off := 0) (b := ⟨34, 8, zX⟩) (cs := yad x) rfl ?_ (by decide) rfl xlen xone (Nat.le_refl 8) rfl ?_
 ·show updK (yeY H') (.l 14 1) (some _) (.l 14 1) = _
  exact yaC _ _ _
 refine rN ?_
 refine ⟨?_, ?_⟩
 ·show lsOf (H' (n + 4)) = _
  rw [hrc]; rfl
 have hco : ∀ {S : St}, S.fr 12 = .pt (.h (n + 1)) 0 → S.fr 13 = .pt (.h (n + 2)) 0 → S.fr 14 = .pt (.l 14 1) 0 → S.M (.l 14 1) = some ⟨34, 8, yad x⟩ → (∀ k, S.M (.h k) = if k = n + 4 then some ⟨0, 0, .rcd #[82] asg body .busy :: fr⟩ else H' k) → S.nx = p →
   wpA (fun _ => false) (some (n + 4)) Tryd.prog yrp (rndQ (n + 4) fun v H'' p' => (v = .bl true /\ JA m #[82] asg body fr H n r H'' p') ∨ (v = .bl false /\ False)) S := by
  intro S f12 f13 f14 m14 hM hn
  have M12 : S.M (.h (n + 1)) = some ⟨26, 1, [slA yah (pa m)]⟩ := by rw [hM, if_neg (by omega)]; exact hb12
  have M13 : S.M (.h (n + 2)) = some ⟨3, 1, [.it .i64 i]⟩ := by rw [hM, if_neg (by omega)]; exact hb13
  have ld12 : tgt S (.pt (.h (n + 1)) 0) = some ([slA yah (pa m)], 0) := by
   show (S.M (.h (n + 1))).bind _ = _
   rw [M12]; rfl
  have ld13 : tgt S (.pt (.h (n + 2)) 0) = some ([.it .i64 i], 0) := by
   show (S.M (.h (n + 2))).bind _ = _
   rw [M13]; rfl
  have ld14 : tgt S (.pt (.l 14 1) 0) = some (yad x, 0) := by
   show (S.M (.l 14 1)).bind _ = _
   rw [m14]; rfl
  refine wBk (wS (wS (.inl ?_)))
  refine dLd (us := [.it .i64 i]) (off := 0) (v := .it .i64 i) (by show tgt S (S.fr 13) = _; rw [f13]; exact ld13) rfl yo5 trivial fun _ q0 => ?_
  refine dLd (us := [slA yah (pa m)]) (off := 0) (v := slA yah (pa m)) (by show tgt S (S.fr 12) = _; rw [f12]; exact ld12) rfl q0 trivial fun _ q0 => ?_
  refine dP (v := .it .i64 (pa m).length) rfl rfl q0 trivial fun _ q0 => ?_
  refine dP (v := .bl false) rfl ?_ q0 trivial fun _ q0 => ?_
  ·show some (AV.bl (decide (((pa m).length : Int) ≤ (i : Int)))) = _
   rw [decide_eq_false (by omega)]
  refine dP (v := .bl false) rfl rfl q0 trivial fun _ q0 => ?_
  refine dLd (us := yad x) (off := 0) (v := .agg (yad x)) (by show tgt S (S.fr 14) = _; rw [f14]; exact ld14) ?_ q0 rfl fun _ q0 => ?_
  ·show (if 0 + 8 ≤ (yad x).length then some (AV.agg (((yad x).drop 0).take 8)) else none) = _
   rw [if_pos (by omega), List.drop_zero, List.take_of_length_le (by omega)]
  refine dLd (us := [slA yah (pa m)]) (off := 0) (v := slA yah (pa m)) (by show tgt S (S.fr 12) = _; rw [f12]; exact ld12) rfl q0 rfl fun _ q0 => ?_
  refine dLd (us := [.it .i64 i]) (off := 0) (v := .it .i64 i) (by show tgt S (S.fr 13) = _; rw [f13]; exact ld13) rfl q0 rfl fun _ q0 => ?_
  refine dP (v := .ep (cl yah (pa m)) (i * 8)) rfl ?_ q0 rfl fun _ q0 => ?_
  ·show (if 0 ≤ (i : Int) ∧ (i : Int) < ((pa m).length : Int) then some (AV.ep (cl yah (pa m)) ((i : Int).toNat * 8)) else none) = _
   rw [if_pos ⟨by omega, by omega⟩]; rfl
  refine dLd (us := cl yah (pa m)) (off := i * 8) (v := .agg (yaf (pa m)[i])) rfl ?_ q0 rfl fun _ q0 => ?_
  ·show (if i * 8 + 8 ≤ (cl yah (pa m)).length then some (AV.agg (((cl yah (pa m)).drop (i * 8)).take 8)) else none) = _
   have h1 := yqG yah hy 0 8 (show 0 + 8 <= 8 by omega)
   have h2 := ye1 yah (pa m)
   have h3 : yah.sz = 8 := rfl
   rw [h3] at h1 h2
   rw [if_pos (by omega), show i * 8 = i * 8 + 0 from rfl, h1]
   show some (AV.agg (((yaf (pa m)[i]).drop 0).take 8)) = _
   rw [List.drop_zero, List.take_of_length_le (by omega)]
  refine yh6 (vs := [.agg (yaf (pa m)[i])]) (v := .agg (yad (told (pa m)[i]))) rfl ?_ (ydk (ypb wy)) q0 rfl fun _ q0 => ?_
  ·simp [noLs, AV.noL, yno]
  refine yh6 (vs := [.agg (yad x), .agg (yad (told (pa m)[i]))]) (v := .bl true) rfl ?_ (yfh hsame) q0 rfl fun _ q0 => ?_
  ·simp [noLs, AV.noL, xno, yaF]
  refine dP (v := .bl false) rfl rfl q0 rfl fun _ q0 => ?_
  refine dP (v := .bl false) rfl rfl q0 trivial fun _ q0 => ?_
  refine dN ?_
  refine wC (c := false) rfl (fun q => (by cases q)) (fun _ => ?_)
  refine wK ?_
  refine wO ?_
  refine rLd (us := [.it .i64 i]) (off := 0) (v := .it .i64 i) (by show tgt S (S.fr 13) = _; rw [f13]; exact ld13) rfl ?_
  refine rP (v := .it .i64 ((i + 1 : Nat) : Int)) rfl ?_ ?_
  ·show some (AV.it .i64 (IntKind.i64.wrap ((i : Int) + 1))) = _
   rw [wrap64 (by omega) (by omega)]; rfl
  refine rSto (ky := .h (n + 2)) (off := 0) (b := ⟨3, 1, [.it .i64 i]⟩) (cs := [.it .i64 ((i + 1 : Nat) : Int)]) f13 M13 (by exact Nat.succ_ne_zero 0) rfl rfl rfl (Nat.le_refl 1) rfl ?_
  refine rN ?_
  have upd : ∀ k, updK S.M (.h (n + 2)) (some ⟨3, 1, [.it .i64 ((i + 1 : Nat) : Int)]⟩) (.h k) = if k = n + 2 then some ⟨3, 1, [.it .i64 ((i + 1 : Nat) : Int)]⟩ else if k = n + 4 then some ⟨0, 0, .rcd #[82] asg body .busy :: fr⟩ else H' k := fun k => by rw [ycD, hM]
  refine ⟨?_, .inl ⟨rfl, ?_⟩⟩
  ·show lsOf (updK S.M (.h (n + 2)) _ (.h (n + 4))) = _
   rw [ycD, if_neg (by omega), hM, if_pos rfl]; rfl
  ·have hq : ∀ k, updK (updK S.M (.h (n + 2)) (some ⟨3, 1, [.it .i64 ((i + 1 : Nat) : Int)]⟩)) (.h (n + 4)) ((updK S.M (.h (n + 2)) (some ⟨3, 1, [.it .i64 ((i + 1 : Nat) : Int)]⟩) (.h (n + 4))).map fun b => ⟨b.e, b.sz, setJ .ready b.cells⟩) (.h k) = if k = n + 4 then some ⟨0, 0, .rcd #[82] asg body .ready :: fr⟩ else if k = n + 2 then some ⟨3, 1, [.it .i64 ((i + 1 : Nat) : Int)]⟩ else H' k := fun k => by
    rw [ycD]
    split
    ·rw [upd, if_neg (by omega), if_pos rfl]; rfl
    ·rename_i h
     rw [upd, if_neg (c := k = n + 4) h]
   refine ⟨by show n + 5 <= S.nx; omega, fun k hk => ?_, ?_, ?_, ?_, i + 1, ?_, hr, hil⟩
   ·exact (hq k).trans (by rw [if_neg (by omega), if_neg (by omega)]; exact hold k hk)
   ·exact (hq (n + 4)).trans (if_pos rfl)
   ·exact (hq n).trans (by rw [if_neg (by omega), if_neg (by omega)]; exact hb4)
   ·exact (hq (n + 1)).trans (by rw [if_neg (by omega), if_neg (by omega)]; exact hb12)
   ·exact (hq (n + 2)).trans (by rw [if_neg (by omega), if_pos rfl])
 refine hco h12 h13 rfl ?_ (fun k => ?_) rfl
 ·show updK (updK (yeY H') (.l 14 1) (some ⟨34, 8, zX⟩)) (.l 14 1) (some ⟨34, 8, [] ++ yad x ++ []⟩) (.l 14 1) = _
  rw [yaC]; simp
 ·show updK _ (.h (n + 4)) _ (.h k) = _
  rw [ycD]
  split
  ·show (H' (n + 4)).map _ = _
   rw [hrc]; rfl
  ·rfl
end
end Go.Proofs.YtoiojmpkifgimaaDoor
end
noncomputable section
namespace Go.Proofs.YtoiojmpkifgimaaDoor
open Go.AV Go.RowKit
section
variable {m : E6} {H : Hp} {n : Nat} {hs : Nat -> Bool} {Q : AEx -> St -> Prop} {S : St}
set_option maxRecDepth 100000 in
theorem rngA (wf : WF m) (hlen : (pa m).length ≤ 1000) (f81 : S.fr 81 = .fn (.func 24) [] [.pt (.h (n + 3)) 0]) (f12 : S.fr 12 = .pt (.h (n + 1)) 0) (f13 : S.fr 13 = .pt (.h (n + 2)) 0) (hn : S.nx = n + 4) (ho : ∀ k, k < n → S.M (.h k) = H k) (b4 : S.M (.h n) = some ⟨4, 1, [.bl false]⟩) (b12 : S.M (.h (n + 1)) = some ⟨26, 1, [slA yah (pa m)]⟩) (b13 : S.M (.h (n + 2)) = some ⟨3, 1, [.it .i64 0]⟩) (hk : S.M (.h (n + 3)) = some ⟨34, 8, yad (told m)⟩)
  (k : ∀ S', S'.fr = S.fr -> (∀ d c, S'.M (.l d c) = S.M (.l d c)) -> S'.cnt = S.cnt -> n + 4 <= S'.nx -> (∀ k, k < n -> S'.M (.h k) = H k) -> S'.M (.h n) = some ⟨4, 1, [.bl false]⟩ -> S'.M (.h (n + 1)) = some ⟨26, 1, [slA yah (pa m)]⟩ -> S'.M (.h (n + 2)) = some ⟨3, 1, [.it .i64 (pa m).length]⟩ -> Q .n S') :
  wpA hs none Tryd.prog (.rng 112 (.t 81) (rngX Tryd.prog 3 0).1 (rngX Tryd.prog 3 0).2.1 (rngX Tryd.prog 3 0).2.2) Q S := by
 obtain ⟨fr, M, cnt, nx⟩ := S
 have hn : nx = n + 4 := hn
 subst hn
 have hfr : ∀ (t : Nat) (u : AV), t < 112 → fr t = u → u.noL = true → ((((List.range 112).map fun t => cln (fr t))[t]?).getD (.tup [])) = u := by
  intro t u ht hu hno
  rw [List.getElem?_map, List.getElem?_range ht]
  show cln (fr t) = _
  rw [hu]; unfold cln; rw [if_pos hno]
 have hwl : (wl (told m)).length <= 1000000000 := by rw [ykc, List.length_map]; omega
 have hc : yao Tryd.prog 24 [.yld (n + 4), .pt (.h (n + 3)) 0] (St.lay 112 ⟨fr, M, cnt, n + 4⟩ (rngX Tryd.prog 3 0).1 (rngX Tryd.prog 3 0).2.1 (rngX Tryd.prog 3 0).2.2).hp (n + 5) fun _ H' n' => JA m (rngX Tryd.prog 3 0).1 (rngX Tryd.prog 3 0).2.1 (rngX Tryd.prog 3 0).2.2 ((List.range 112).map fun t => cln (fr t)) H n [] H' n' := by
  refine (yoj (e := told m) ?_ (yoQ (J := JA m (rngX Tryd.prog 3 0).1 (rngX Tryd.prog 3 0).2.1 (rngX Tryd.prog 3 0).2.2 ((List.range 112).map fun t => cln (fr t)) H n) (Jx := fun _ _ => False) (fun x r H' p J => yrW wf hlen (by simp) (hfr 12 _ (by omega) f12 rfl) (hfr 13 _ (by omega) f13 rfl) ps0 ytR ytP J) (SizeOf.sizeOf (told m)) (told m) [] _ (n + 5) (Nat.le_refl _) (yqq _ hwl) ?_)).mono ?_
  ·show updK M (.h (n + 4)) _ (.h (n + 3)) = _
   rw [ycD, if_neg (by omega)]; exact hk
  ·refine ⟨Nat.le_refl _, fun k hk => ?_, yaC _ _ _, ?_, ?_, 0, ?_, ?_, by omega⟩
   ·show updK M (.h (n + 4)) _ (.h k) = _
    rw [ycD, if_neg (by omega)]; exact ho k hk
   ·show updK M (.h (n + 4)) _ (.h n) = _
    rw [ycD, if_neg (by omega)]; exact b4
   ·show updK M (.h (n + 4)) _ (.h (n + 1)) = _
    rw [ycD, if_neg (by omega)]; exact b12
   ·show updK M (.h (n + 4)) _ (.h (n + 2)) = _
    rw [ycD, if_neg (by omega)]; exact b13
   ·rw [List.drop_zero, List.append_nil, ykc]
  ·rintro _ H' n' ⟨v, ⟨_, h⟩ | ⟨_, h⟩⟩
   ·exact h
   ·exact h.elim
 refine wRng (f := 24) (first := []) (cap := [.pt (.h (n + 3)) 0]) f81 (Go.AV.enters_of t24) rfl hc ?_
 intro v H' n' J
 unfold yh4
 rw [show (((St.lay 112 ⟨fr, M, cnt, n + 4⟩ (rngX Tryd.prog 3 0).1 (rngX Tryd.prog 3 0).2.1 (rngX Tryd.prog 3 0).2.2).withH H' n').M (.h (n + 4))) = H' (n + 4) from rfl, J.rcd]
 obtain ⟨i, i1, i2, i3⟩ := J.b13
 have hi : i = (pa m).length := by
  have := congrArg List.length i2
  simp only [List.length_map, List.length_drop, List.length_nil] at this
  omega
 subst hi
 have hq : ∀ k, k ≠ n + 4 → (((St.lay 112 ⟨fr, M, cnt, n + 4⟩ (rngX Tryd.prog 3 0).1 (rngX Tryd.prog 3 0).2.1 (rngX Tryd.prog 3 0).2.2).withH H' n').kill (.h (n + 4))).M (.h k) = H' k := fun k hk => by
  show updK _ (.h (n + 4)) _ (.h k) = _
  rw [ycD, if_neg hk]; rfl
 refine k _ rfl (fun d c => rfl) rfl (by have := J.lt; show n + 4 <= n'; omega) (fun k hk => (hq k (by omega)).trans (J.old k hk)) ((hq n (by omega)).trans J.b4) ((hq (n + 1) (by omega)).trans J.b12) ((hq (n + 2) (by omega)).trans i1)
end
structure JB (ps : Array Tmp) (asg body : Code) (fr : List AV) (H : Hp) (n : Nat) (c : Int) (j : LS) (H' : Hp) (p : Nat) : Prop where
 lt : n + 3 <= p
 old : ∀ k, k < n -> H' k = H k
 rcd : H' (n + 2) = some ⟨0, 0, .rcd ps asg body j :: fr⟩
 b15 : H' n = some ⟨3, 1, [.it .i64 c]⟩
section
variable {ps : Array Tmp} {asg body : Code} {fr : List AV} {H : Hp} {n : Nat}
theorem ys5 (hfr : fr.length = 112) (h15 : (fr[15]?).getD (.tup []) = .pt (.h n) 0) (hps : ps = #[101]) (hA : trC Tryd.prog 112 asg = some ysQ) (hB : trC Tryd.prog 112 body = some yrc) {x : X} {H' : Hp} {p : Nat} (J : JB ps asg body fr H n 0 .ready H' p) :
  ybO Tryd.prog (n + 2) [.agg (yad x)] H' p fun v H'' p' => v = .bl false /\ JB ps asg body fr H n 1 (.exit 2) H'' p' := by
 obtain ⟨hlt, hold, hrc, hb⟩ := J
 subst hps
 refine ymm (fun _ => false) hA hB (e := 0) (fr := fr) hrc hfr rfl ?_
 refine wK ?_
 refine ⟨?_, ?_⟩
 ·show lsOf (H' (n + 2)) = _
  rw [hrc]; rfl
 have hco : ∀ {S : St}, S.fr 15 = .pt (.h n) 0 → (∀ k, S.M (.h k) = if k = n + 2 then some ⟨0, 0, .rcd #[101] asg body .busy :: fr⟩ else H' k) → S.nx = p →
   wpA (fun _ => false) (some (n + 2)) Tryd.prog yrc (rndQ (n + 2) fun v H'' p' => v = .bl false /\ JB #[101] asg body fr H n 1 (.exit 2) H'' p') S := by
  intro S f15 hM hn
  have M15 : S.M (.h n) = some ⟨3, 1, [.it .i64 0]⟩ := by rw [hM, if_neg (by omega)]; exact hb
  refine wBk (wS (wO ?_))
  refine rLd (us := [.it .i64 0]) (off := 0) (v := .it .i64 0) ?_ rfl ?_
  ·show tgt S (S.fr 15) = _
   rw [f15]
   show (S.M (.h n)).bind _ = _
   rw [M15]; rfl
  refine rP (v := .it .i64 1) rfl rfl ?_
  refine rSto (ky := .h n) (off := 0) (b := ⟨3, 1, [.it .i64 0]⟩) (cs := [.it .i64 1]) f15 M15 (by exact Nat.succ_ne_zero 0) rfl rfl rfl (Nat.le_refl 1) rfl ?_
  refine rN ?_
  refine wE ?_
  dsimp only
  rw [if_neg (show ¬ (2 : Nat) = 3 by omega)]
  have upd : ∀ k, updK S.M (.h n) (some ⟨3, 1, [.it .i64 1]⟩) (.h k) = if k = n then some ⟨3, 1, [.it .i64 1]⟩ else if k = n + 2 then some ⟨0, 0, .rcd #[101] asg body .busy :: fr⟩ else H' k := fun k => by rw [ycD, hM]
  refine ⟨?_, rfl, ?_⟩
  ·show lsOf (updK S.M (.h n) _ (.h (n + 2))) = _
   rw [ycD, if_neg (by omega), hM, if_pos rfl]; rfl
  ·have hq : ∀ k, updK (updK S.M (.h n) (some ⟨3, 1, [.it .i64 1]⟩)) (.h (n + 2)) ((updK S.M (.h n) (some ⟨3, 1, [.it .i64 1]⟩) (.h (n + 2))).map fun b => ⟨b.e, b.sz, setJ (.exit 2) b.cells⟩) (.h k) = if k = n + 2 then some ⟨0, 0, .rcd #[101] asg body (.exit 2) :: fr⟩ else if k = n then some ⟨3, 1, [.it .i64 1]⟩ else H' k := fun k => by
    rw [ycD]
    split
    ·rw [upd, if_neg (by omega), if_pos rfl]; rfl
    ·rename_i h
     rw [upd, if_neg (c := k = n + 2) h]
   refine ⟨by show n + 3 <= S.nx; omega, fun k hk => ?_, ?_, ?_⟩
   ·exact (hq k).trans (by rw [if_neg (by omega), if_neg (by omega)]; exact hold k hk)
   ·exact (hq (n + 2)).trans (if_pos rfl)
   ·exact (hq n).trans (by rw [if_neg (by omega), if_pos rfl])
 refine hco h15 (fun k => ?_) rfl
 show updK _ (.h (n + 2)) _ (.h k) = _
 rw [ycD]
 split
 ·show (H' (n + 2)).map _ = _
  rw [hrc]; rfl
 ·rfl
end
section
variable {e : X} {n : Nat} {hs : Nat -> Bool} {Q : AEx -> St -> Prop} {S : St}
set_option maxRecDepth 100000 in
theorem rngB (hwl : (wl e).length ≤ 1000000000) (f100 : S.fr 100 = .fn (.func 24) [] [.pt (.h (n + 1)) 0]) (f15 : S.fr 15 = .pt (.h n) 0) (hn : S.nx = n + 2) (b15 : S.M (.h n) = some ⟨3, 1, [.it .i64 0]⟩) (hk : S.M (.h (n + 1)) = some ⟨34, 8, yad e⟩)
  (k : ∀ S', S'.fr = S.fr -> n + 2 <= S'.nx -> (∀ k, k < n -> S'.M (.h k) = S.M (.h k)) -> S'.M (.h n) = some ⟨3, 1, [.it .i64 1]⟩ -> Q (.x 2) S') :
  wpA hs none Tryd.prog (.rng 112 (.t 100) (rngX Tryd.prog 3 1).1 (rngX Tryd.prog 3 1).2.1 (rngX Tryd.prog 3 1).2.2) Q S := by
 obtain ⟨fr, M, cnt, nx⟩ := S
 have hn : nx = n + 2 := hn
 subst hn
 have hfr : ((((List.range 112).map fun t => cln (fr t))[15]?).getD (.tup [])) = .pt (.h n) 0 := by
  show cln (fr 15) = _
  rw [show fr 15 = .pt (.h n) 0 from f15]; rfl
 have hc : yao Tryd.prog 24 [.yld (n + 2), .pt (.h (n + 1)) 0] (St.lay 112 ⟨fr, M, cnt, n + 2⟩ (rngX Tryd.prog 3 1).1 (rngX Tryd.prog 3 1).2.1 (rngX Tryd.prog 3 1).2.2).hp (n + 3) fun _ H' n' => JB (rngX Tryd.prog 3 1).1 (rngX Tryd.prog 3 1).2.1 (rngX Tryd.prog 3 1).2.2 ((List.range 112).map fun t => cln (fr t)) (fun o => M (.h o)) n 1 (.exit 2) H' n' := by
  refine (yoj (e := e) ?_ (yoQ (J := fun L H' p => L = wl e /\ JB (rngX Tryd.prog 3 1).1 (rngX Tryd.prog 3 1).2.1 (rngX Tryd.prog 3 1).2.2 ((List.range 112).map fun t => cln (fr t)) (fun o => M (.h o)) n 0 .ready H' p) (Jx := fun H' p => JB (rngX Tryd.prog 3 1).1 (rngX Tryd.prog 3 1).2.1 (rngX Tryd.prog 3 1).2.2 ((List.range 112).map fun t => cln (fr t)) (fun o => M (.h o)) n 1 (.exit 2) H' p) (fun x r H' p J => (ys5 (x := x) (by simp) hfr ps1 ytV ytJ J.2).mono fun _ _ _ h => .inr h) (SizeOf.sizeOf e) e [] _ (n + 3) (Nat.le_refl _) (yqq _ hwl) ?_)).mono ?_
  ·show updK M (.h (n + 2)) _ (.h (n + 1)) = _
   rw [ycD, if_neg (by omega)]; exact hk
  ·refine ⟨by simp, Nat.le_refl _, fun k hk => ?_, yaC _ _ _, ?_⟩
   ·show updK M (.h (n + 2)) _ (.h k) = _
    rw [ycD, if_neg (by omega)]
   ·show updK M (.h (n + 2)) _ (.h n) = _
    rw [ycD, if_neg (by omega)]; exact b15
  ·rintro _ H' n' ⟨v, ⟨_, h⟩ | ⟨_, h⟩⟩
   ·have := h.1
    cases e; simp [wl] at this
   ·exact h
 refine wRng (f := 24) (first := []) (cap := [.pt (.h (n + 1)) 0]) f100 (Go.AV.enters_of t24) rfl hc ?_
 intro v H' n' J
 unfold yh4
 rw [show (((St.lay 112 ⟨fr, M, cnt, n + 2⟩ (rngX Tryd.prog 3 1).1 (rngX Tryd.prog 3 1).2.1 (rngX Tryd.prog 3 1).2.2).withH H' n').M (.h (n + 2))) = H' (n + 2) from rfl, J.rcd]
 have hq : ∀ k, k ≠ n + 2 → (((St.lay 112 ⟨fr, M, cnt, n + 2⟩ (rngX Tryd.prog 3 1).1 (rngX Tryd.prog 3 1).2.1 (rngX Tryd.prog 3 1).2.2).withH H' n').kill (.h (n + 2))).M (.h k) = H' k := fun k hk => by
  show updK _ (.h (n + 2)) _ (.h k) = _
  rw [ycD, if_neg hk]; rfl
 refine k _ rfl (by have := J.lt; show n + 2 <= n'; omega) (fun k hk => (hq k (by omega)).trans (J.old k hk)) ((hq n (by omega)).trans J.b15)
end
end Go.Proofs.YtoiojmpkifgimaaDoor
end
noncomputable section
namespace Go.Proofs.YtoiojmpkifgimaaDoor
open Go.AV Go.RowKit
noncomputable abbrev cD : ybC := .seq (.ops ysl) .ret
noncomputable abbrev cC : ybC := .seq (.ops yth) (.seq (.seq (.ops yq6) (.block 2 (.rng 112 (.t 100) (rngX Tryd.prog 3 1).1 (rngX Tryd.prog 3 1).2.1 (rngX Tryd.prog 3 1).2.2))) cD)
noncomputable abbrev cB : ybC := .seq (.ops ysN) (.seq (.ops ytm) (.seq (.seq (.ops yrE) (.block 0 (.rng 112 (.t 81) (rngX Tryd.prog 3 0).1 (rngX Tryd.prog 3 0).2.1 (rngX Tryd.prog 3 0).2.2))) cC))
noncomputable abbrev cA : ybC := .seq (.seq (.drw r3_9) (.cond (.t 77) (.seq (.ops ysj) .ret) .skip)) cB
def hsF (s : Nat) : Bool := s == 4 || s == 12 || s == 13 || s == 15
def ylZ (H : Hp) (n : Nat) (av : AV) (H' : Hp) (n' : Nat) : Prop := (∃ av', av' = AV.bl true /\ ((av' = av ∨ av = .sl true 0 [] /\ av' = .sl false 0 []) ∨ ∃ q m b, av = .gs (.h q) m /\ n <= q /\ H' q = some b /\ b.cells.length = m * b.sz /\ b.sz ≠ 0 /\ noLs b.cells = true /\ av' = .sl false m b.cells)) /\ (∀ o, o < n -> H' o = H o) /\ n <= n'
section
variable {m k : E6} {w : Str} {H : Hp} {n : Nat} {S : St}
theorem segD {p : Nat} {u : List E6} (f4 : S.fr 4 = .pt (.h n) 0) (f12 : S.fr 12 = .pt (.h (n + 1)) 0) (f13 : S.fr 13 = .pt (.h (n + 2)) 0) (f15 : S.fr 15 = .pt (.h p) 0) (b4 : S.M (.h n) = some ⟨4, 1, [.bl false]⟩) (b12 : S.M (.h (n + 1)) = some ⟨26, 1, [slA yah u]⟩) (b13 : S.M (.h (n + 2)) = some ⟨3, 1, [.it .i64 u.length]⟩) (b15 : S.M (.h p) = some ⟨3, 1, [.it .i64 1]⟩)
  (ho : ∀ k, k < n -> S.M (.h k) = H k) (hn : n <= S.nx) : wpA hsF none Tryd.prog cD (retQ [(4, some 0)] (ylZ H n)) S := by
 refine wS (wO ?_)
 refine rLd (us := [.it .i64 u.length]) (off := 0) (v := .it .i64 u.length) ?_ rfl ?_
 ·show tgt S (S.fr 13) = _
  rw [f13]; show (S.M (.h (n + 2))).bind _ = _
  rw [b13]; rfl
 refine rLd (us := [slA yah u]) (off := 0) (v := slA yah u) ?_ rfl ?_
 ·show tgt S (S.fr 12) = _
  rw [f12]; show (S.M (.h (n + 1))).bind _ = _
  rw [b12]; rfl
 refine rP2 (v := .it .i64 u.length) rfl rfl ?_
 refine rP2 (v := .bl true) rfl ?_ ?_
 ·show (some _).map _ = _
  simp
 refine rP2 (v := .bl true) rfl rfl ?_
 refine rG rfl ?_
 refine rLd (us := [.it .i64 1]) (off := 0) (v := .it .i64 1) ?_ rfl ?_
 ·show tgt S (S.fr 15) = _
  rw [f15]; show (S.M (.h p)).bind _ = _
  rw [b15]; rfl
 refine rG rfl ?_
 refine rP2 (v := .bl true) rfl rfl ?_
 refine rP2 (v := .bl true) rfl rfl ?_
 refine rSto (ky := .h n) (off := 0) (b := ⟨4, 1, [.bl false]⟩) (cs := [.bl true]) f4 b4 (by exact Nat.succ_ne_zero 0) rfl rfl rfl (Nat.le_refl 1) rfl ?_
 refine rN ?_
 refine wR ?_
 refine wI (u := .bl true) ?_ ?_
 ·show (resL _ [(4, some 0)]).map _ = _
  have : res1 (((((((((((S.put (some 104) (.it .i64 u.length)).put (some 105) (slA yah u)).put (some 106) (.it .i64 u.length)).put (some 107) (.bl true)).put (some 108) (.bl true)).put (some 109) (.it .i64 1)).put (some 110) (.bl true)).put (some 111) (.bl true)).setM (.h n) ⟨4, 1, [.bl true]⟩).put none .un)) (4, some 0) = some (.bl true) := by
   show (tgt _ (S.fr 4)).bind _ = _
   rw [f4]
   show ((updK S.M (.h n) (some ⟨4, 1, [.bl true]⟩) (.h n)).bind _).bind _ = _
   rw [yaC]; rfl
  simp only [resL]
  erw [this]; rfl
 ·refine ⟨rfl, ⟨_, rfl, .inl (.inl rfl)⟩, fun o h => ?_, hn⟩
  show updK S.M (.h n) _ (.h o) = _
  rw [ycD, if_neg (by omega)]; exact ho o h
theorem segC {u : List E6} (wf : WF m) (hlen : (pa m).length ≤ 1000) (f4 : S.fr 4 = .pt (.h n) 0) (f9 : S.fr 9 = .pt (.l 9 1) 0) (f12 : S.fr 12 = .pt (.h (n + 1)) 0) (f13 : S.fr 13 = .pt (.h (n + 2)) 0) (m9 : S.M (.l 9 1) = some ⟨34, 8, yad (told m)⟩) (b4 : S.M (.h n) = some ⟨4, 1, [.bl false]⟩) (b12 : S.M (.h (n + 1)) = some ⟨26, 1, [slA yah u]⟩) (b13 : S.M (.h (n + 2)) = some ⟨3, 1, [.it .i64 u.length]⟩)
  (ho : ∀ k, k < n -> S.M (.h k) = H k) (hn : n + 3 <= S.nx) : wpA hsF none Tryd.prog cC (retQ [(4, some 0)] (ylZ H n)) S := by
 have hl := yaq (told m)
 have hno := yaF (told m)
 have h1 := yaJ (told m)
 obtain ⟨p, hp⟩ : ∃ p, S.nx = p := ⟨_, rfl⟩
 have hpn : n + 3 <= p := by omega
 refine wS (wO ?_)
 refine rBox (cs := [.it .i64 0]) rfl rfl rfl (by omega) rfl ?_
 refine rSto (ky := .h p) (off := 0) (b := ⟨3, 1, [.it .i64 0]⟩) (cs := [.it .i64 0]) ?_ ?_ (by decide) rfl rfl rfl (Nat.le_refl 1) rfl ?_
 ·show AV.pt (.h S.nx) 0 = _
  rw [hp]
 ·show updK S.M (.h S.nx) _ (.h p) = _
  rw [hp, yaC]
 refine rN ?_
 have hco : ∀ {T : St}, T.fr 4 = .pt (.h n) 0 → T.fr 9 = .pt (.l 9 1) 0 → T.fr 12 = .pt (.h (n + 1)) 0 → T.fr 13 = .pt (.h (n + 2)) 0 → T.fr 15 = .pt (.h p) 0 → T.M (.l 9 1) = some ⟨34, 8, yad (told m)⟩ → (∀ k, T.M (.h k) = if k = p then some ⟨3, 1, [.it .i64 0]⟩ else S.M (.h k)) → T.nx = p + 1 →
   wpA hsF none Tryd.prog (.seq (.seq (.ops yq6) (.block 2 (.rng 112 (.t 100) (rngX Tryd.prog 3 1).1 (rngX Tryd.prog 3 1).2.1 (rngX Tryd.prog 3 1).2.2))) cD) (retQ [(4, some 0)] (ylZ H n)) T := by
  intro T g4 g9 g12 g13 g15 gm9 gM gn
  refine wS (wS (wO ?_))
  refine rLd (us := yad (told m)) (off := 0) (v := .agg (yad (told m))) ?_ ?_ ?_
  ·show tgt T (T.fr 9) = _
   rw [g9]; show (T.M (.l 9 1)).bind _ = _
   rw [gm9]; rfl
  ·show (if 0 + 8 ≤ (yad (told m)).length then some (AV.agg (((yad (told m)).drop 0).take 8)) else none) = _
   rw [if_pos (by omega), List.drop_zero, List.take_of_length_le (by omega)]
  refine yoS (f := 16) (vs := [.agg (yad (told m))]) rfl ?_ (yqm hl h1 hno) ?_
  ·simp [noLs, AV.noL, hno]
  rintro v H1 n1 ⟨rfl, rfl, rfl⟩
  refine rN ?_
  refine wBk ?_
  have hnx : (T.put (some 99) (AV.agg (yad (told m)))).nx = p + 1 := gn
  rw [hnx]
  have hH : ∀ k, k ≠ p + 1 → (if k = p + 1 then (some ⟨34, 8, yad (told m)⟩ : Option Blk) else (T.put (some 99) (AV.agg (yad (told m)))).hp k) = if k = p then some ⟨3, 1, [.it .i64 0]⟩ else S.M (.h k) := fun k hk => by
   rw [if_neg hk]; exact gM k
  refine rngB (e := told m) (n := p) ?_ rfl g15 rfl ?_ ?_ ?_
  ·rw [ykc, List.length_map]; omega
  ·show (if p = p + 1 then _ else _) = _
   exact (hH p (by omega)).trans (if_pos rfl)
  ·show (if p + 1 = p + 1 then _ else _) = _
   exact if_pos rfl
  ·intro S' hf hn' ho' hb'
   have old : ∀ k, k < p → S'.M (.h k) = S.M (.h k) := fun k hk => by
    rw [ho' k hk]
    exact (hH k (by omega)).trans (if_neg (by omega))
   dsimp only
   rw [if_pos rfl]
   exact segD (p := p) (u := u) (by rw [hf]; exact g4) (by rw [hf]; exact g12) (by rw [hf]; exact g13) (by rw [hf]; exact g15) (by rw [old n (by omega)]; exact b4) (by rw [old _ (by omega)]; exact b12) (by rw [old _ (by omega)]; exact b13) hb' (fun k hk => by rw [old k (by omega)]; exact ho k hk) (by omega)
 refine hco f4 f9 f12 f13 ?_ ?_ (fun k => ?_) ?_
 ·show AV.pt (.h S.nx) 0 = _
  rw [hp]
 ·exact m9
 ·show updK (updK S.M (.h S.nx) (some ⟨3, 1, [.it .i64 0]⟩)) (.h p) (some ⟨3, 1, [.it .i64 0]⟩) (.h k) = _
  rw [hp, ycD, ycD]
  split <;> rfl
 ·show S.nx + 1 = _
  rw [hp]
end
end Go.Proofs.YtoiojmpkifgimaaDoor
end
noncomputable section
namespace Go.Proofs.YtoiojmpkifgimaaDoor
open Go.AV Go.RowKit
section
variable {m k : E6} {w : Str} {H : Hp} {n : Nat} {S : St}
theorem segB (wf : WF m) (hlen : (pa m).length ≤ 1000) (f4 : S.fr 4 = .pt (.h n) 0) (f5 : S.fr 5 = .pt (.l 5 1) 0) (f9 : S.fr 9 = .pt (.l 9 1) 0) (m5 : S.M (.l 5 1) = some ⟨28, 8, yaf m⟩) (m9 : S.M (.l 9 1) = some ⟨34, 8, yad (told m)⟩) (b4 : S.M (.h n) = some ⟨4, 1, [.bl false]⟩)
  (ho : ∀ k, k < n -> S.M (.h k) = H k) (hn : S.nx = n + 1) : wpA hsF none Tryd.prog cB (retQ [(4, some 0)] (ylZ H n)) S := by
 have hl := yaq (told m)
 have hno := yaF (told m)
 have h1 := yaJ (told m)
 have gl := yaE m
 have gno := yaI m
 refine wS (wO ?_)
 refine rLd (us := yaf m) (off := 0) (v := .agg (yaf m)) ?_ ?_ ?_
 ·show tgt S (S.fr 5) = _
  rw [f5]; show (S.M (.l 5 1)).bind _ = _
  rw [m5]; rfl
 ·show (if 0 + 8 ≤ (yaf m).length then some (AV.agg (((yaf m).drop 0).take 8)) else none) = _
  rw [if_pos (by omega), List.drop_zero, List.take_of_length_le (by omega)]
 refine ym6 (vs := [.agg (yaf m)]) (v := slA yah (pa m)) rfl ?_ (yjL (ypc wf hlen)) ?_
 ·simp [noLs, AV.noL, gno]
 refine rBox (cs := [.sl true 0 []]) rfl rfl rfl (by omega) rfl ?_
 refine rSto (ky := .h (n + 1)) (off := 0) (b := ⟨26, 1, [.sl true 0 []]⟩) (cs := [slA yah (pa m)]) ?_ ?_ (by decide) rfl rfl rfl (Nat.le_refl 1) ?_ ?_
 ·show AV.pt (.h S.nx) 0 = _
  rw [hn]
 ·show updK S.M (.h S.nx) _ (.h (n + 1)) = _
  rw [hn, yaC]
 ·rfl
 refine rN ?_
 refine wS (wO ?_)
 refine rBox (cs := [.it .i64 0]) rfl rfl rfl (by omega) rfl ?_
 refine rSto (ky := .h (n + 2)) (off := 0) (b := ⟨3, 1, [.it .i64 0]⟩) (cs := [.it .i64 0]) ?_ ?_ (by decide) rfl rfl rfl (Nat.le_refl 1) rfl ?_
 ·show AV.pt (.h (S.nx + 1)) 0 = _
  rw [hn]
 ·show updK (updK (updK S.M (.h S.nx) (some ⟨26, 1, [.sl true 0 []]⟩)) (.h (n + 1)) (some ⟨26, 1, [] ++ [slA yah (pa m)] ++ []⟩)) (.h (S.nx + 1)) (some ⟨3, 1, [.it .i64 0]⟩) (.h (n + 2)) = _
  rw [hn, yaC]
 refine rN ?_
 have hco : ∀ {T : St}, T.fr 4 = .pt (.h n) 0 → T.fr 9 = .pt (.l 9 1) 0 → T.fr 12 = .pt (.h (n + 1)) 0 → T.fr 13 = .pt (.h (n + 2)) 0 → T.M (.l 9 1) = some ⟨34, 8, yad (told m)⟩ → (∀ k, T.M (.h k) = if k = n + 2 then some ⟨3, 1, [.it .i64 0]⟩ else if k = n + 1 then some ⟨26, 1, [slA yah (pa m)]⟩ else S.M (.h k)) → T.nx = n + 3 →
   wpA hsF none Tryd.prog (.seq (.seq (.ops yrE) (.block 0 (.rng 112 (.t 81) (rngX Tryd.prog 3 0).1 (rngX Tryd.prog 3 0).2.1 (rngX Tryd.prog 3 0).2.2))) cC) (retQ [(4, some 0)] (ylZ H n)) T := by
  intro T g4 g9 g12 g13 gm9 gM gn
  refine wS (wS (wO ?_))
  refine rLd (us := yad (told m)) (off := 0) (v := .agg (yad (told m))) ?_ ?_ ?_
  ·show tgt T (T.fr 9) = _
   rw [g9]; show (T.M (.l 9 1)).bind _ = _
   rw [gm9]; rfl
  ·show (if 0 + 8 ≤ (yad (told m)).length then some (AV.agg (((yad (told m)).drop 0).take 8)) else none) = _
   rw [if_pos (by omega), List.drop_zero, List.take_of_length_le (by omega)]
  refine yoS (f := 16) (vs := [.agg (yad (told m))]) rfl ?_ (yqm hl h1 hno) ?_
  ·simp [noLs, AV.noL, hno]
  rintro v H1 n1 ⟨rfl, rfl, rfl⟩
  refine rN ?_
  refine wBk ?_
  have hnx : (T.put (some 80) (AV.agg (yad (told m)))).nx = n + 3 := gn
  rw [hnx]
  have hH : ∀ k, k ≠ n + 3 → (if k = n + 3 then (some ⟨34, 8, yad (told m)⟩ : Option Blk) else (T.put (some 80) (AV.agg (yad (told m)))).hp k) = if k = n + 2 then some ⟨3, 1, [.it .i64 0]⟩ else if k = n + 1 then some ⟨26, 1, [slA yah (pa m)]⟩ else S.M (.h k) := fun k hk => by
   rw [if_neg hk]; exact gM k
  refine rngA (m := m) (H := H) (n := n) wf hlen rfl g12 g13 rfl (fun k hk => ?_) ?_ ?_ ?_ ?_ ?_
  ·exact (hH k (by omega)).trans (by rw [if_neg (by omega), if_neg (by omega)]; exact ho k hk)
  ·exact (hH n (by omega)).trans (by rw [if_neg (by omega), if_neg (by omega)]; exact b4)
  ·exact (hH (n + 1) (by omega)).trans (by rw [if_neg (by omega), if_pos rfl])
  ·exact (hH (n + 2) (by omega)).trans (if_pos rfl)
  ·show (if n + 3 = n + 3 then _ else _) = _
   exact if_pos rfl
  ·intro S' hf hl' hc' hn' ho' hb4 hb12 hb13
   exact segC (u := pa m) wf hlen (by rw [hf]; exact g4) (by rw [hf]; exact g9) (by rw [hf]; exact g12) (by rw [hf]; exact g13) (by rw [hl']; exact gm9) hb4 hb12 hb13 ho' (by omega)
 refine hco f4 f9 ?_ ?_ m9 (fun k => ?_) ?_
 ·show AV.pt (.h S.nx) 0 = _
  rw [hn]
 ·show AV.pt (.h (S.nx + 1)) 0 = _
  rw [hn]
 ·show updK (updK (updK (updK S.M (.h S.nx) (some ⟨26, 1, [.sl true 0 []]⟩)) (.h (n + 1)) (some ⟨26, 1, [slA yah (pa m)]⟩)) (.h (S.nx + 1)) (some ⟨3, 1, [.it .i64 0]⟩)) (.h (n + 2)) (some ⟨3, 1, [.it .i64 0]⟩) (.h k) = _
  rw [hn, ycD, ycD, ycD, ycD]
  split
  ·rfl
  ·split <;> rfl
 ·show S.nx + 1 + 1 = _
  rw [hn]
structure Two (m k : E6) (w : Str) : Prop where
 wm : WF m
 wk : WF k
 dm : dep m <= 1000
 dk : dep k <= 1000
 lm : (pa m).length <= 1000
 sh : ybq (told m) w
theorem segA (t : Two m k w) (f4 : S.fr 4 = .pt (.h n) 0) (f5 : S.fr 5 = .pt (.l 5 1) 0) (f7 : S.fr 7 = .pt (.l 7 1) 0) (f9 : S.fr 9 = .pt (.l 9 1) 0) (f10 : S.fr 10 = .pt (.l 10 1) 0) (f11 : S.fr 11 = .st w) (m5 : S.M (.l 5 1) = some ⟨28, 8, yaf m⟩) (m7 : S.M (.l 7 1) = some ⟨28, 8, yaf k⟩) (m9 : S.M (.l 9 1) = some ⟨34, 8, yad (told m)⟩) (m10 : S.M (.l 10 1) = some ⟨34, 8, yad (told k)⟩) (b4 : S.M (.h n) = some ⟨4, 1, [.bl false]⟩)
  (ho : ∀ k, k < n -> S.M (.h k) = H k) (hn : S.nx = n + 1) : wpA hsF none Tryd.prog cA (retQ [(4, some 0)] (ylZ H n)) S := by
 obtain ⟨wx, dx⟩ := yjm t.wm
 obtain ⟨wx', dx'⟩ := yjm t.wk
 have G := ymK wx (by rw [dx]; exact t.dm)
 have G' := ynO t.wm t.dm
 rw [dx] at G
 generalize (decide (dep m <= 20) && gX false (told m)) = g at G G'
 have D := ylT wx (by rw [dx]; exact t.dm)
 rw [dx] at D
 have D' := yqh t.wm t.dm
 have E1 := yk1 wx wx'
 have E2 := yqF t.wm (b := k)
 have e12 : eqE m k = eqX (told m) (told k) := rfl
 rw [e12] at E2
 generalize eqX (told m) (told k) = q at E1 E2
 have E3 := yk1 wx wx
 rw [(yjx _ _).2 rfl] at E3
 have ml := yaE m
 have mno := yaI m
 have kl := yaE k
 have kno := yaI k
 have el := yaq (told m)
 have eno := yaF (told m)
 have fl := yaq (told k)
 have fno := yaF (told k)
 have l5 : tgt S (.pt (.l 5 1) 0) = some (yaf m, 0) := by
  show (S.M (.l 5 1)).bind _ = _
  rw [m5]; rfl
 have l7 : tgt S (.pt (.l 7 1) 0) = some (yaf k, 0) := by
  show (S.M (.l 7 1)).bind _ = _
  rw [m7]; rfl
 have l9 : tgt S (.pt (.l 9 1) 0) = some (yad (told m), 0) := by
  show (S.M (.l 9 1)).bind _ = _
  rw [m9]; rfl
 have l10 : tgt S (.pt (.l 10 1) 0) = some (yad (told k), 0) := by
  show (S.M (.l 10 1)).bind _ = _
  rw [m10]; rfl
 have al : ∀ {cs : List AV}, cs.length = 8 → (if 0 + 8 ≤ cs.length then some (AV.agg ((cs.drop 0).take 8)) else none) = some (.agg cs) := fun {cs} h => by
  rw [if_pos (by omega), List.drop_zero, List.take_of_length_le (by omega)]
 refine wS (wS (.inl ?_))
 refine dLd (us := yad (told m)) (off := 0) (v := .agg (yad (told m))) (by show tgt S (S.fr 9) = _; rw [f9]; exact l9) (al el) yo5 trivial fun _ q0 => ?_
 refine yh6 (vs := [.agg (yad (told m))]) (v := .bl g) rfl (by simp [noLs, AV.noL, eno]) (ylM G) q0 trivial fun _ q0 => ?_
 refine dLd (us := yaf m) (off := 0) (v := .agg (yaf m)) (by show tgt S (S.fr 5) = _; rw [f5]; exact l5) (al ml) q0 trivial fun _ q0 => ?_
 refine yh6 (vs := [.agg (yaf m)]) (v := .bl g) rfl (by simp [noLs, AV.noL, mno]) (yg1 G') q0 trivial fun _ q0 => ?_
 refine dP (v := .bl false) rfl ?_ q0 trivial fun _ q0 => ?_
 ·clear G G'; cases g <;> rfl
 refine dP (v := .bl false) rfl rfl q0 trivial fun _ q0 => ?_
 refine dLd (us := yad (told m)) (off := 0) (v := .agg (yad (told m))) (by show tgt S (S.fr 9) = _; rw [f9]; exact l9) (al el) q0 rfl fun _ q0 => ?_
 refine yh6 (vs := [.agg (yad (told m))]) (v := .it .i64 (dep m : Nat)) rfl (by simp [noLs, AV.noL, eno]) (ykm D) q0 rfl fun _ q0 => ?_
 refine dLd (us := yaf m) (off := 0) (v := .agg (yaf m)) (by show tgt S (S.fr 5) = _; rw [f5]; exact l5) (al ml) q0 rfl fun _ q0 => ?_
 refine yh6 (vs := [.agg (yaf m)]) (v := .it .i64 (dep m : Nat)) rfl (by simp [noLs, AV.noL, mno]) (yjF D') q0 rfl fun _ q0 => ?_
 refine dP (v := .bl false) rfl ?_ q0 rfl fun _ q0 => ?_
 ·show (some _).map _ = _
  simp
 refine dP (v := .bl false) rfl rfl q0 trivial fun _ q0 => ?_
 refine dP (v := .bl false) rfl rfl q0 trivial fun _ q0 => ?_
 refine dLd (us := yad (told m)) (off := 0) (v := .agg (yad (told m))) (by show tgt S (S.fr 9) = _; rw [f9]; exact l9) (al el) q0 rfl fun _ q0 => ?_
 refine yh6 (vs := [.agg (yad (told m))]) (v := .st w) rfl (by simp [noLs, AV.noL, eno]) (yls t.sh) q0 rfl fun _ q0 => ?_
 refine dP (v := .st w) rfl (by show some (S.fr 11) = _; rw [f11]) q0 rfl fun _ q0 => ?_
 refine dP (v := .bl false) rfl ?_ q0 rfl fun _ q0 => ?_
 ·show (some _).map _ = _
  simp
 refine dP (v := .bl false) rfl rfl q0 trivial fun _ q0 => ?_
 refine dP (v := .bl false) rfl rfl q0 trivial fun _ q0 => ?_
 refine dLd (us := yad (told m)) (off := 0) (v := .agg (yad (told m))) (by show tgt S (S.fr 9) = _; rw [f9]; exact l9) (al el) q0 rfl fun _ q0 => ?_
 refine dLd (us := yad (told k)) (off := 0) (v := .agg (yad (told k))) (by show tgt S (S.fr 10) = _; rw [f10]; exact l10) (al fl) q0 rfl fun _ q0 => ?_
 refine yh6 (vs := [.agg (yad (told m)), .agg (yad (told k))]) (v := .bl q) rfl (by simp [noLs, AV.noL, eno, fno]) (yfh E1) q0 rfl fun _ q0 => ?_
 refine dLd (us := yaf m) (off := 0) (v := .agg (yaf m)) (by show tgt S (S.fr 5) = _; rw [f5]; exact l5) (al ml) q0 rfl fun _ q0 => ?_
 refine dLd (us := yaf k) (off := 0) (v := .agg (yaf k)) (by show tgt S (S.fr 7) = _; rw [f7]; exact l7) (al kl) q0 rfl fun _ q0 => ?_
 refine yh6 (vs := [.agg (yaf m), .agg (yaf k)]) (v := .bl q) rfl (by simp [noLs, AV.noL, mno, kno]) (ykC E2) q0 rfl fun _ q0 => ?_
 refine dP (v := .bl false) rfl ?_ q0 rfl fun _ q0 => ?_
 ·clear E1 E2; cases q <;> rfl
 refine dP (v := .bl false) rfl rfl q0 trivial fun _ q0 => ?_
 refine dP (v := .bl false) rfl rfl q0 trivial fun _ q0 => ?_
 refine dLd (us := yad (told m)) (off := 0) (v := .agg (yad (told m))) (by show tgt S (S.fr 9) = _; rw [f9]; exact l9) (al el) q0 rfl fun _ q0 => ?_
 refine dLd (us := yaf m) (off := 0) (v := .agg (yaf m)) (by show tgt S (S.fr 5) = _; rw [f5]; exact l5) (al ml) q0 rfl fun _ q0 => ?_
 refine yh6 (vs := [.agg (yaf m)]) (v := .agg (yad (told m))) rfl (by simp [noLs, AV.noL, mno]) (ydk (ypb t.wm)) q0 rfl fun _ q0 => ?_
 refine yh6 (vs := [.agg (yad (told m)), .agg (yad (told m))]) (v := .bl true) rfl (by simp [noLs, AV.noL, eno]) (yfh E3) q0 rfl fun _ q0 => ?_
 refine dP (v := .bl false) rfl rfl q0 rfl fun _ q0 => ?_
 refine dP (v := .bl false) rfl rfl q0 trivial fun _ q0 => ?_
 refine dN ?_
 refine wC (c := false) rfl (fun q => (by cases q)) (fun _ => ?_)
 refine wK ?_
 exact segB t.wm t.lm f4 f5 f9 m5 m9 b4 ho hn
end
end Go.Proofs.YtoiojmpkifgimaaDoor
end
noncomputable section
namespace Go.Proofs.YtoiojmpkifgimaaDoor
open Go.AV Go.RowKit
theorem yjJ {cs : List AV} (h : noLs cs = true) : ∀ k ∈ cs.flatMap key1, ∀ a b, k ≠ .l a b := by
 intro k hk a b e
 subst e
 obtain ⟨u, hu, hk⟩ := List.mem_flatMap.1 hk
 have hn := yd3.1 h u hu
 have no : ∀ {l : List Key} {q : Key}, l = [q] → Key.l a b ∈ l → q = .l a b := fun e h => by
  rw [e] at h; exact (List.mem_singleton.1 h).symm
 cases u with
 | pt q o => have := no rfl hk; subst this; exact Bool.false_ne_true hn
 | gs q o => have := no rfl hk; subst this; exact Bool.false_ne_true hn
 | _ => cases hk
def aP (acc : List Foot) : Prop := qa acc /\ ∀ b ∈ acc, ∀ k ∈ b.rk, k ≠ .l 9 1 /\ k ≠ .l 10 1
section
variable {P : Program} {r : List (AO × List Nat)} {acc : List Foot} {fre : List Nat} {Q : St -> Prop} {S : St} {d : Option Nat} {v : AV} {u : AOp}
theorem dBq (he : eop hsF P u d S fun e => e = eff1 v) (ha : aP acc) (hk : ∀ k ∈ rkOf u S, k ≠ .l 9 1 ∧ k ≠ .l 10 1) (k : ∀ acc, aP acc → runD hsF P r acc Q (S.put d v)) : runD hsF P ((⟨d, none, u⟩, fre) :: r) acc Q S := by
 refine yji he ?_
 rintro e rfl
 refine ⟨yaA.2 fun j _ => ?_, ?_⟩
 ·cases hj : acc[j]? with
  | none => trivial
  | some b =>
    obtain ⟨b1, b2, b3⟩ := ha.1 b (List.mem_of_getElem? hj)
    show okF _ b
    unfold okF
    rw [b1, b2, b3]
    exact ⟨trivial, trivial, fun h => (by cases h), fun h => (by cases h), trivial⟩
 ·have : (eff1 v).app d S = S.put d v := by unfold REff.app; rw [ybG]; rfl
  rw [this]
  refine k _ ⟨fun b hb => ?_, fun b hb => ?_⟩
  ·rcases List.mem_append.1 hb with hb | hb
   ·exact ha.1 b hb
   ·simp only [List.mem_singleton] at hb; subst hb; exact ⟨rfl, rfl, rfl⟩
  ·rcases List.mem_append.1 hb with hb | hb
   ·exact ha.2 b hb
   ·simp only [List.mem_singleton] at hb
    subst hb
    intro q hq
    have hq : q ∈ rkOf u S ++ (match yg0 u with | true => ([] : List Key) | false => []) := hq
    rcases List.mem_append.1 hq with hq | hq
    ·exact hk q hq
    ·split at hq <;> cases hq
end
theorem appE {v : AV} {a b : Nat} {B : Option Blk} {bs : List Nat} {d : Option Nat} {S : St} : (⟨v, [((a, b), B)], bs, none⟩ : REff).app d S = (⟨S.fr, updK S.M (.l a b) B, cntB bs S.cnt, S.nx⟩ : St).put d v := by
 have : (⟨v, [((a, b), B)], bs, none⟩ : REff).mst S = ⟨S.fr, updK S.M (.l a b) B, cntB bs S.cnt, S.nx⟩ := by
  unfold REff.mst
  congr 1
 unfold REff.app
 rw [this]
theorem ymi {S : St} {q c : Nat} {x : X} (hm : S.M (.l q c) = some ⟨34, 8, zX⟩) : yiT 8 S (.pt (.l q c) 0) (.agg (yad x)) = some ⟨.un, [((q, c), some ⟨34, 8, yad x⟩)], [], none⟩ := by
 simp only [yiT, hm, Option.bind_some]
 rw [if_pos ⟨by omega, yaq x, yaJ x, by show 0 + 8 <= 8; omega, rfl⟩]
 show some (⟨AV.un, [((q, c), some ⟨34, 8, [] ++ yad x ++ []⟩)], [], none⟩ : REff) = _
 simp
theorem dE {P : Program} {r : List (AO × List Nat)} {acc : List Foot} {fre : List Nat} {Q : St → Prop} {S : St} {d : Option Nat} {u : AOp} (e : REff) (hc : ∀ K, eop hsF P u d S K = wpv (effA hsF u d S) K) (he : effA hsF u d S = some e) (hk : ygc (ybv u S e) acc fre) (k : runD hsF P r (acc ++ [ybv u S e]) Q (e.app d S)) : runD hsF P ((⟨d, none, u⟩, fre) :: r) acc Q S := by
 show eop hsF P u d S _
 rw [hc]
 exact wI he ⟨hk, k⟩
section
variable {m k : E6} {S : St} {Q : St -> Prop}
theorem reg5 {P : Program} (hP : P = Tryd.prog) (wm : WF m) (wk : WF k) (f5 : S.fr 5 = .pt (.l 5 1) 0) (f7 : S.fr 7 = .pt (.l 7 1) 0) (m5 : S.M (.l 5 1) = some ⟨28, 8, yaf m⟩) (m7 : S.M (.l 7 1) = some ⟨28, 8, yaf k⟩) (c9 : S.cnt 9 = 0) (c10 : S.cnt 10 = 0)
  (h : ∀ T, (∀ t, t < 9 -> T.fr t = S.fr t) -> T.fr 9 = .pt (.l 9 1) 0 -> T.fr 10 = .pt (.l 10 1) 0 -> T.M (.l 5 1) = S.M (.l 5 1) -> T.M (.l 7 1) = S.M (.l 7 1) -> T.M (.l 9 1) = some ⟨34, 8, yad (told m)⟩ -> T.M (.l 10 1) = some ⟨34, 8, yad (told k)⟩ -> (∀ o, T.M (.h o) = S.M (.h o)) -> T.nx = S.nx -> Q T) : runD hsF P r3_5 [] Q S := by
 subst hP
 have ml := yaE m
 have mno := yaI m
 have kl := yaE k
 have kno := yaI k
 have el := yaq (told m)
 have fl := yaq (told k)
 have e1 := yaJ (told m)
 have e2 := yaJ (told k)
 have al : ∀ {cs : List AV}, cs.length = 8 → (if 0 + 8 ≤ cs.length then effP (some (AV.agg ((cs.drop 0).take 8))) else none) = some (eff1 (.agg cs)) := fun {cs} h => by
  rw [if_pos (by omega), List.drop_zero, List.take_of_length_le (by omega)]; rfl
 refine dBq (v := .agg (yaf m)) ?_ ⟨yo5, fun b hb => by cases hb⟩ ?_ fun _ q0 => ?_
 ·show wpv (ylA true 8 (tgt S (S.fr 5))) _
  rw [f5, show tgt S (.pt (.l 5 1) 0) = some (yaf m, 0) by show (S.M (.l 5 1)).bind _ = _; rw [m5]; rfl]
  exact wI (al ml) rfl
 ·intro q hq
  have hq : q ∈ Go.AV.keyOf (S.fr 5) ++ [] := hq
  rw [f5] at hq
  simp only [Go.AV.keyOf, List.append_nil, List.mem_singleton] at hq
  subst hq; exact ⟨by simp, by simp⟩
 refine dBq (v := .agg (yad (told m))) ?_ q0 ?_ fun _ q0 => ?_
 ·exact ⟨_, ygs (vs := [.agg (yaf m)]) (by simp [noLs, AV.noL, mno]) (ydk (ypb wm)), rfl⟩
 ·intro q hq
  have hq : q ∈ (yaf m).flatMap key1 ++ [] := hq
  rw [List.append_nil] at hq
  exact ⟨yjJ mno q hq _ _, yjJ mno q hq _ _⟩
 refine dBq (v := .agg (yaf k)) ?_ q0 ?_ fun _ q0 => ?_
 ·show wpv (ylA true 8 (tgt S (S.fr 7))) _
  rw [f7, show tgt S (.pt (.l 7 1) 0) = some (yaf k, 0) by show (S.M (.l 7 1)).bind _ = _; rw [m7]; rfl]
  exact wI (al kl) rfl
 ·intro q hq
  have hq : q ∈ Go.AV.keyOf (S.fr 7) ++ [] := hq
  rw [f7] at hq
  simp only [Go.AV.keyOf, List.append_nil, List.mem_singleton] at hq
  subst hq; exact ⟨by simp, by simp⟩
 refine dBq (v := .agg (yad (told k))) ?_ q0 ?_ fun acc q0 => ?_
 ·exact ⟨_, ygs (vs := [.agg (yaf k)]) (by simp [noLs, AV.noL, kno]) (ydk (ypb wk)), rfl⟩
 ·intro q hq
  have hq : q ∈ (yaf k).flatMap key1 ++ [] := hq
  rw [List.append_nil] at hq
  exact ⟨yjJ kno q hq _ _, yjJ kno q hq _ _⟩
 have ok : ∀ (s : Nat) (ft b : Foot), (s = 9 ∨ s = 10) → ft.rk = [] → ft.wk = [(s, 1)] → ft.wh = false → ft.rh = false → ft.bs = [s] → (∀ k ∈ b.rk, k ≠ .l 9 1 ∧ k ≠ .l 10 1) → (∀ q ∈ b.wk, (s, 1) ≠ q) → b.wh = false → s ∉ b.bs → okF ft b := by
  intro s ft b hs h1 h2 h3 h4 h5 g1 g2 g3 g4
  unfold okF
  rw [h1, h2, h3, h4, h5, g3]
  refine ⟨And.intro (And.intro (yaA.2 fun q hq e => ?_) (yaA.2 fun q hq => g2 q hq)) trivial, yaA.2 fun _ _ => trivial, fun h => (by cases h), fun h => (by cases h), And.intro (yaA.2 fun t ht e => ?_) trivial⟩
  ·subst e
   rcases hs with rfl | rfl
   ·exact (g1 _ hq).1 rfl
   ·exact (g1 _ hq).2 rfl
  ·subst e; exact g4 ht
 refine dE ⟨.pt (.l 9 1) 0, [((9, 1), some ⟨34, 8, zX⟩)], [9], none⟩ (fun _ => rfl) ?_ ?_ ?_
 ·show (if (AV.agg zX).cells.length = 8 ∧ (AV.agg zX).cells.all AV.one = true ∧ 0 < 8 then ycC hsF 9 _ [] ⟨34, 8, (AV.agg zX).cells⟩ (fun k => AV.pt k 0) else none) = _
  rw [if_pos ⟨rfl, rfl, by omega⟩]
  unfold ycC
  rw [if_pos (show hsF 9 = false from rfl)]
  show some (⟨AV.pt (.l 9 (S.cnt 9 + 1)) 0, [((9, S.cnt 9 + 1), some ⟨34, 8, zX⟩)], [9], none⟩ : REff) = _
  rw [c9]
 ·refine yaA.2 fun j _ => ?_
  cases hj : acc[j]? with
  | none => trivial
  | some b =>
    obtain ⟨b1, b2, b3⟩ := q0.1 b (List.mem_of_getElem? hj)
    exact ok 9 _ b (.inl rfl) rfl rfl rfl rfl rfl (q0.2 b (List.mem_of_getElem? hj)) (by rw [b1]; intro q hq; cases hq) b2 (by rw [b3]; simp)
 rw [appE]
 refine dE ⟨.pt (.l 10 1) 0, [((10, 1), some ⟨34, 8, zX⟩)], [10], none⟩ (fun _ => rfl) ?_ ?_ ?_
 ·show (if (AV.agg zX).cells.length = 8 ∧ (AV.agg zX).cells.all AV.one = true ∧ 0 < 8 then ycC hsF 10 _ [] ⟨34, 8, (AV.agg zX).cells⟩ (fun k => AV.pt k 0) else none) = _
  rw [if_pos ⟨rfl, rfl, by omega⟩]
  unfold ycC
  rw [if_pos (show hsF 10 = false from rfl)]
  show some (⟨AV.pt (.l 10 (S.cnt 10 + 1)) 0, [((10, S.cnt 10 + 1), some ⟨34, 8, zX⟩)], [10], none⟩ : REff) = _
  rw [c10]
 ·refine yaA.2 fun j _ => ?_
  cases hj : (acc ++ [ybv _ _ _])[j]? with
  | none => trivial
  | some b =>
    rcases List.mem_append.1 (List.mem_of_getElem? hj) with hb | hb
    ·obtain ⟨b1, b2, b3⟩ := q0.1 b hb
     exact ok 10 _ b (.inr rfl) rfl rfl rfl rfl rfl (q0.2 b hb) (by rw [b1]; intro q hq; cases hq) b2 (by rw [b3]; simp)
    ·simp only [List.mem_singleton] at hb
     subst hb
     refine ok 10 _ _ (.inr rfl) rfl rfl rfl rfl rfl ?_ ?_ rfl ?_
     ·intro q hq; cases hq
     ·intro q hq
      have hq : q ∈ [(9, 1)] := hq
      simp only [List.mem_singleton] at hq
      subst hq; simp
     ·show 10 ∉ [9]
      simp
 rw [appE]
 refine dE ⟨.un, [((9, 1), some ⟨34, 8, yad (told m)⟩)], [], none⟩ (fun _ => rfl) ?_ trivial ?_
 ·simp only [effA]
  refine ymi ?_
  show updK S.M (.l 9 1) (some ⟨34, 8, zX⟩) (.l 9 1) = _
  exact yaC _ _ _
 rw [appE]
 refine dE ⟨.un, [((10, 1), some ⟨34, 8, yad (told k)⟩)], [], none⟩ (fun _ => rfl) ?_ trivial ?_
 ·simp only [effA]
  refine ymi ?_
  show updK (updK S.M (.l 9 1) (some ⟨34, 8, zX⟩)) (.l 10 1) (some ⟨34, 8, zX⟩) (.l 10 1) = _
  exact yaC _ _ _
 rw [appE]
 refine h _ (fun t ht => ?_) rfl rfl rfl rfl ?_ ?_ (fun o => rfl) rfl
 ·show upd (upd (upd (upd (upd (upd S.fr 36 _) 37 _) 38 _) 39 _) 9 _) 10 _ t = S.fr t
  rw [yhb _ _ (by omega), yhb _ _ (by omega), yhb _ _ (by omega), yhb _ _ (by omega), yhb _ _ (by omega), yhb _ _ (by omega)]
 ·show updK (updK (updK (updK S.M (.l 9 1) (some ⟨34, 8, zX⟩)) (.l 10 1) (some ⟨34, 8, zX⟩)) (.l 9 1) (some ⟨34, 8, yad (told m)⟩)) (.l 10 1) (some ⟨34, 8, yad (told k)⟩) (.l 9 1) = _
  rw [show updK (updK (updK (updK S.M (.l 9 1) (some ⟨34, 8, zX⟩)) (.l 10 1) (some ⟨34, 8, zX⟩)) (.l 9 1) (some ⟨34, 8, yad (told m)⟩)) (.l 10 1) (some ⟨34, 8, yad (told k)⟩) (.l 9 1) = updK (updK (updK S.M (.l 9 1) (some ⟨34, 8, zX⟩)) (.l 10 1) (some ⟨34, 8, zX⟩)) (.l 9 1) (some ⟨34, 8, yad (told m)⟩) (.l 9 1) from rfl, yaC]
 ·show updK (updK (updK (updK S.M (.l 9 1) (some ⟨34, 8, zX⟩)) (.l 10 1) (some ⟨34, 8, zX⟩)) (.l 9 1) (some ⟨34, 8, yad (told m)⟩)) (.l 10 1) (some ⟨34, 8, yad (told k)⟩) (.l 10 1) = _
  exact yaC _ _ _
end
end Go.Proofs.YtoiojmpkifgimaaDoor
end
noncomputable section
namespace Go.Proofs.YtoiojmpkifgimaaDoor
open Go.AV Go.RowKit
theorem yp8 {l : List yac} {b : Int} (h0 : 0 ≤ b) (h1 : b ≤ l.length) : (if 0 ≤ (0 : Int) ∧ (0 : Int) ≤ b ∧ b ≤ (l.length : Int) then some (AV.sl false (b.toNat - (0 : Int).toNat) (((cl yaj l).drop ((0 : Int).toNat * 7)).take ((b.toNat - (0 : Int).toNat) * 7))) else none) = some (slA yaj (yeF l 0 b)) := by
 rw [if_pos ⟨by omega, h0, h1⟩]
 have h := yny yaj l (0 : Int).toNat (b.toNat - (0 : Int).toNat)
 have h3 : yaj.sz = 7 := rfl
 rw [h3] at h
 rw [h]
 have hl : (yeF l 0 b).length = b.toNat - (0 : Int).toNat := by
  show ((l.drop (0 : Int).toNat).take (b.toNat - (0 : Int).toNat)).length = _
  rw [List.length_take, List.length_drop]; simp; omega
 unfold slA
 rw [hl]; rfl
theorem yqs {m : E6} (wf : WF m) (hd : dep m ≤ 1000) : ∃ w, ybq (told m) w ∧ ((decide (dep m ≤ 20) && gX false (told m)) = true → ycv m w) ∧ ((decide (dep m ≤ 20) && gX false (told m)) = false → w = []) := by
 obtain ⟨wx, dx⟩ := yjm wf
 have G := ymK wx (by rw [dx]; exact hd)
 rw [dx] at G
 cases hg : (decide (dep m <= 20) && gX false (told m)) with
 | true =>
   rw [Bool.and_eq_true, decide_eq_true_eq] at hg
   obtain ⟨s, hs⟩ := Sh.of wx false hg.2
   exact ⟨s, yqf wx (by rw [dx]; exact hg.1) hg.2 hs, fun _ => yqo hs m rfl (by rw [dx]; omega), fun c => (by cases c)⟩
 | false =>
   rw [hg] at G
   exact ⟨[], ⟨false, by rw [ybM]; exact G, fun _ => rfl, fun c => (by cases c)⟩, fun c => (by cases c), fun _ => rfl⟩
theorem ynG {a0 a1 : List Pt} (h0 : ∀ p ∈ a0, PtOk p) (h1 : ∀ p ∈ a1, PtOk p) (H : Hp) (n : Nat) : yao Tryd.prog 3 [slA yaj a0, slA yaj a1] H n (ylZ H n) := by
 have big : (0 : Int) + 4 ^ (25 + 1) <= 1152921504606846976 := by decide
 have cut : ∀ l : List Pt, 0 <= (if (40 : Int) < (l.length : Int) then (40 : Int) else (l.length : Int)) /\ (if (40 : Int) < (l.length : Int) then (40 : Int) else (l.length : Int)) <= l.length := fun l => by split <;> omega
 have len : ∀ l : List Pt, (yeF l 0 (if (40 : Int) < (l.length : Int) then (40 : Int) else (l.length : Int))).length ≤ 40 := fun l => by
  show ((l.drop (0 : Int).toNat).take (Int.toNat _ - (0 : Int).toNat)).length <= _
  rw [List.length_take]
  split <;> simp <;> omega
 obtain ⟨m, x, m1, m2, m3, m4, m5, m6⟩ := ypU (ylf h0 0 (if (40 : Int) < (a0.length : Int) then (40 : Int) else (a0.length : Int))) 25 0 rfl (by omega) 0 (by omega) big
 obtain ⟨k, y, k1, k2, k3, k4, k5, k6⟩ := ypU (ylf h1 0 (if (40 : Int) < (a1.length : Int) then (40 : Int) else (a1.length : Int))) 25 0 rfl (by omega) 0 (by omega) big
 have lm : (pa m).length <= 1000 := by have := len a0; omega
 obtain ⟨w, w1, w2, w3⟩ := yqs m2 (by omega)
 have T2 : Two m k w := ⟨m2, k2, by omega, by omega, lm, w1⟩
 have G' := ynO m2 (by omega)
 have ml := yaE m
 have mno := yaI m
 have mon := ycK m
 have kl := yaE k
 have kno := yaI k
 have kon := ycK k
 have al : ∀ {cs : List AV}, cs.length = 8 → (if 0 + 8 ≤ cs.length then some (AV.agg ((cs.drop 0).take 8)) else none) = some (.agg cs) := fun {cs} h => by
  rw [if_pos (by omega), List.drop_zero, List.take_of_length_le (by omega)]
 refine yd2 t3 hsF (show 2 <= 112 by omega) ?_
 refine wS (wO ?_)
 refine rBox (cs := [.bl false]) rfl rfl rfl (by omega) rfl ?_
 refine rN ?_
 refine wS (wS (wO ?_))
 refine ym6 (vs := []) (v := .bl true) rfl rfl (yiq yod) ?_
 refine rP2 (v := .bl false) rfl rfl ?_
 refine rN ?_
 refine wC (c := false) rfl (fun q => (by cases q)) (fun _ => ?_)
 refine wK ?_
 refine wS (wO ?_)
 refine rP2 (v := slA yaj a0) rfl rfl ?_
 refine rP2 (v := slA yaj a0) rfl rfl ?_
 refine rP2 (v := .it .i64 a0.length) rfl rfl ?_
 refine rP2 (v := .it .i64 (if (40 : Int) < (a0.length : Int) then (40 : Int) else (a0.length : Int))) rfl rfl ?_
 refine rSll (v := slA yaj (yeF a0 0 (if (40 : Int) < (a0.length : Int) then (40 : Int) else (a0.length : Int)))) rfl (yp8 (cut a0).1 (cut a0).2) ?_
 refine ym6 (vs := [slA yaj (yeF a0 0 (if (40 : Int) < (a0.length : Int) then (40 : Int) else (a0.length : Int))), .it .i64 0, .it .i64 0]) (v := .tup [.agg (yaf m), .it .i64 x]) rfl rfl (yfJ m1) ?_
 refine rP2 (v := .tup [.agg (yaf m), .it .i64 x]) rfl rfl ?_
 refine rP2 (v := .agg (yaf m)) rfl rfl ?_
 refine rP2 (v := .it .i64 x) rfl rfl ?_
 refine rBox (cs := zX) rfl rfl rfl (by omega) rfl ?_
 refine rSto (ky := .l 5 1) (off := 0) (b := ⟨28, 8, zX⟩) (cs := yaf m) rfl ?_ (by decide) rfl ml mon (Nat.le_refl 8) rfl ?_
 ·show updK (updK (yeY H) (.h n) (some ⟨4, 1, [.bl false]⟩)) (.l 5 1) (some ⟨28, 8, zX⟩) (.l 5 1) = _
  exact yaC _ _ _
 refine rP2 (v := .it .i64 x) rfl rfl ?_
 refine rN ?_
 refine wS (wO ?_)
 refine rP2 (v := slA yaj a1) rfl rfl ?_
 refine rP2 (v := slA yaj a1) rfl rfl ?_
 refine rP2 (v := .it .i64 a1.length) rfl rfl ?_
 refine rP2 (v := .it .i64 (if (40 : Int) < (a1.length : Int) then (40 : Int) else (a1.length : Int))) rfl rfl ?_
 refine rSll (v := slA yaj (yeF a1 0 (if (40 : Int) < (a1.length : Int) then (40 : Int) else (a1.length : Int)))) rfl (yp8 (cut a1).1 (cut a1).2) ?_
 refine ym6 (vs := [slA yaj (yeF a1 0 (if (40 : Int) < (a1.length : Int) then (40 : Int) else (a1.length : Int))), .it .i64 0, .it .i64 0]) (v := .tup [.agg (yaf k), .it .i64 y]) rfl rfl (yfJ k1) ?_
 refine rP2 (v := .tup [.agg (yaf k), .it .i64 y]) rfl rfl ?_
 refine rP2 (v := .agg (yaf k)) rfl rfl ?_
 refine rP2 (v := .it .i64 y) rfl rfl ?_
 refine rBox (cs := zX) rfl rfl rfl (by omega) rfl ?_
 refine rSto (ky := .l 7 1) (off := 0) (b := ⟨28, 8, zX⟩) (cs := yaf k) rfl ?_ (by decide) rfl kl kon (Nat.le_refl 8) rfl ?_
 ·show updK (updK (updK (updK (yeY H) (.h n) (some ⟨4, 1, [.bl false]⟩)) (.l 5 1) (some ⟨28, 8, zX⟩)) (.l 5 1) (some ⟨28, 8, [] ++ yaf m ++ []⟩)) (.l 7 1) (some ⟨28, 8, zX⟩) (.l 7 1) = _
  exact yaC _ _ _
 refine rP2 (v := .it .i64 y) rfl rfl ?_
 refine rN ?_
 refine wS (.inl (reg5 rfl m2 k2 rfl rfl ?_ ?_ rfl rfl ?_))
 ·show updK (updK (updK (yeY H) (.h n) (some ⟨4, 1, [.bl false]⟩)) (.l 5 1) (some ⟨28, 8, zX⟩)) (.l 5 1) (some ⟨28, 8, [] ++ yaf m ++ []⟩) (.l 5 1) = _
  rw [yaC]; simp
 ·show updK (updK (updK (updK (updK (yeY H) (.h n) (some ⟨4, 1, [.bl false]⟩)) (.l 5 1) (some ⟨28, 8, zX⟩)) (.l 5 1) (some ⟨28, 8, [] ++ yaf m ++ []⟩)) (.l 7 1) (some ⟨28, 8, zX⟩)) (.l 7 1) (some ⟨28, 8, [] ++ yaf k ++ []⟩) (.l 7 1) = _
  rw [yaC]; simp
 intro T tf f9 f10 t5 t7 t9 t10 th tn
 have f4 : T.fr 4 = .pt (.h n) 0 := (tf 4 (by omega)).trans rfl
 have f5 : T.fr 5 = .pt (.l 5 1) 0 := (tf 5 (by omega)).trans rfl
 have f7 : T.fr 7 = .pt (.l 7 1) 0 := (tf 7 (by omega)).trans rfl
 have M5 : T.M (.l 5 1) = some ⟨28, 8, yaf m⟩ := t5.trans (by
  show updK (updK (updK (yeY H) (.h n) (some ⟨4, 1, [.bl false]⟩)) (.l 5 1) (some ⟨28, 8, zX⟩)) (.l 5 1) (some ⟨28, 8, [] ++ yaf m ++ []⟩) (.l 5 1) = _
  rw [yaC]; simp)
 have M7 : T.M (.l 7 1) = some ⟨28, 8, yaf k⟩ := t7.trans (by
  show updK (updK (updK (updK (updK (yeY H) (.h n) (some ⟨4, 1, [.bl false]⟩)) (.l 5 1) (some ⟨28, 8, zX⟩)) (.l 5 1) (some ⟨28, 8, [] ++ yaf m ++ []⟩)) (.l 7 1) (some ⟨28, 8, zX⟩)) (.l 7 1) (some ⟨28, 8, [] ++ yaf k ++ []⟩) (.l 7 1) = _
  rw [yaC]; simp)
 have hb : T.M (.h n) = some ⟨4, 1, [.bl false]⟩ := (th n).trans (by
  show updK (yeY H) (.h n) (some ⟨4, 1, [.bl false]⟩) (.h n) = _
  exact yaC _ _ _)
 have ho : ∀ k, k < n → T.M (.h k) = H k := fun k hk => (th k).trans (by
  show updK (yeY H) (.h n) (some ⟨4, 1, [.bl false]⟩) (.h k) = _
  rw [ycD, if_neg (by omega)]; rfl)
 have hn : T.nx = n + 1 := tn
 refine wS (wO ?_)
 refine rP2 (v := .st []) rfl rfl ?_
 refine rN ?_
 refine wS (wS (wO ?_))
 refine rLd (us := yaf m) (off := 0) (v := .agg (yaf m)) ?_ (al ml) ?_
 ·show tgt T (T.fr 5) = _
  rw [f5]; show (T.M (.l 5 1)).bind _ = _
  rw [M5]; rfl
 refine ym6 (vs := [.agg (yaf m)]) (v := .bl (decide (dep m <= 20) && gX false (told m))) rfl ?_ (yg1 G') ?_
 ·simp [noLs, AV.noL, mno]
 refine rN ?_
 refine wC (c := decide (dep m <= 20) && gX false (told m)) rfl (fun hg => ?_) (fun hg => ?_)
 ·refine wO ?_
  refine rLd (us := yaf m) (off := 0) (v := .agg (yaf m)) ?_ (al ml) ?_
  ·show tgt T (T.fr 5) = _
   rw [f5]; show (T.M (.l 5 1)).bind _ = _
   rw [M5]; rfl
  refine ym6 (vs := [.agg (yaf m)]) (v := .st w) rfl ?_ (ykR (w2 hg)) ?_
  ·simp [noLs, AV.noL, mno]
  refine rP2 (v := .st w) rfl rfl ?_
  refine rN ?_
  exact segA T2 f4 f5 f7 f9 f10 rfl M5 M7 t9 t10 hb ho hn
 ·refine wK ?_
  refine segA T2 f4 f5 f7 f9 f10 ?_ M5 M7 t9 t10 hb ho hn
  rw [w3 hg]; rfl
theorem yng {a0 a1 : List Pt} (h0 : ∀ p ∈ a0, PtOk p) (h1 : ∀ p ∈ a1, PtOk p) : Pure Tryd.prog 3 [slA yaj a0, slA yaj a1] (.bl true) := by
 intro H n
 refine yao.shr (Post := fun av => av = .bl true) (ynG h0 h1 H n) ?_
 rintro av rfl
 exact ⟨rfl, fun m => rfl⟩
end Go.Proofs.YtoiojmpkifgimaaDoor
end
noncomputable section
namespace Go.Proofs.YtoiojmpkifgimaaDoor
open Go.AV Go.RowKit
def ybl (v : yac) : Prop := (fun n : Int => (Lit.int .u8 n).wf = true) v.Kind /\ (fun n : Int => (Lit.int .u8 n).wf = true) v.Op /\ (fun n : Int => (Lit.int .u8 n).wf = true) v.Value /\ (fun n : Int => (Lit.int .u8 n).wf = true) v.Parts /\ (fun n : Int => (Lit.int .i64 n).wf = true) v.N /\ (fun s : Str => s.length <= maxLen) v.Name /\ (fun s : Str => s.length <= maxLen) v.Table
theorem ydf : ylP Tryd.prog 50 yaj.c ybl := by
 intro us h
 have r := h.fields Tryd.underlying50
 obtain ⟨v0, q0, rfl, h0, r⟩ := r.first (yf8 Tryd.underlying5)
 obtain ⟨v1, q1, rfl, h1, r⟩ := r.first (yf8 Tryd.underlying5)
 obtain ⟨v2, q2, rfl, h2, r⟩ := r.first (yf8 Tryd.underlying5)
 obtain ⟨v3, q3, rfl, h3, r⟩ := r.first (yf8 Tryd.underlying5)
 obtain ⟨v4, q4, rfl, h4, r⟩ := r.first (yf8 Tryd.underlying2)
 obtain ⟨v5, q5, rfl, h5, r⟩ := r.first (ymP Tryd.underlying9)
 obtain ⟨v6, q6, rfl, h6, r⟩ := r.first (ymP Tryd.underlying9)
 obtain rfl := r.last
 exact ⟨⟨v0, v1, v2, v3, v4, v5, v6⟩, rfl, h0, h1, h2, h3, h4, h5, h6⟩
def ydM (a0 a1 : List yac) (_ : Bool) : Prop := (∀ p ∈ a0, PtOk p) /\ ∀ p ∈ a1, PtOk p
def yj1 : Prop := ∀ (a0 : (List yac)) (a1 : (List yac)), (fun l : List yac => l.length <= maxLen /\ ∀ v ∈ l, ybl v) a0 -> (fun l : List yac => l.length <= maxLen /\ ∀ v ∈ l, ybl v) a1 -> ydM a0 a1 true
theorem yip {a0 : (List yac)} {a1 : (List yac)} (h : ydM a0 a1 true) : Pure Tryd.prog 3 [slA yaj a0, slA yaj a1] (.bl true) := yng h.1 h.2
end Go.Proofs.YtoiojmpkifgimaaDoor
end
noncomputable section
namespace Go.Proofs.YtoiojmpkifgimaaDoor
open Go.AV
theorem ptok {p : Pt} (h : ybl p) : PtOk p := by
 obtain ⟨h1, h2, h3, h4, h5, _⟩ := h
 have a := wfu8.1 h1
 have b := wfu8.1 h2
 have c := wfu8.1 h3
 have d := wfu8.1 h4
 have e := wf64.1 h5
 exact ⟨a.1, a.2, b.1, b.2, c.1, c.2, d.1, d.2, e⟩
theorem yil : yj1 := fun _ _ h0 h1 => ⟨fun p hp => ptok (h0.2 p hp), fun p hp => ptok (h1.2 p hp)⟩
end Go.Proofs.YtoiojmpkifgimaaDoor
end
