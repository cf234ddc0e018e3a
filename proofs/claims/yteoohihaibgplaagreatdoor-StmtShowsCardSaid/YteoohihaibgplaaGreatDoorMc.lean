/- General texts and own ones, joined: what the program computes, told of abstract states, and the laws of plain data. No condition. -/
import Derived.Test.YteoohihaibgplaaGreatDoorMb
noncomputable section
namespace Go.AV
open Go.RowKit Go.RG Go.Lib
variable {K : Nat → Type}
def VW (u v : AV) : Prop := ∀ (G : Gh) (x : Value), VR G u x → VR G v x
theorem VW.refl (u : AV) : VW u u := fun _ _ h => h
theorem VW.trans {u v w : AV} (h : VW u v) (k : VW v w) : VW u w := fun G x q => k G x (h G x q)
theorem VW.un (u : AV) : VW u .un := fun _ x _ => .un x
theorem VW.dwk (u : AV) : VW u (AV.dwk u) := fun _ _ h => h.dwk
def VWs (us vs : List AV) : Prop := us.length = vs.length ∧ ∀ (j : Nat) (u v : AV), us[j]? = some u → vs[j]? = some v → VW u v
theorem VW.agg {us vs : List AV} (h : VWs us vs) : VW (.agg us) (.agg vs) := fun G x hx => by
 obtain ⟨xs, e, h1, h2, h3⟩ := hx.agg_inv
 rw [e]
 refine .agg vs xs (by rw [h1, h.1]) (fun j u x hu hx => ?_) h3
 have hj : j < us.length := by rw [h.1]; exact (List.getElem?_eq_some_iff.1 hu).1
 exact h.2 j us[j] u (List.getElem?_eq_getElem hj) hu G x (h2 j _ x (List.getElem?_eq_getElem hj) hx)
theorem VW.tup {us vs : List AV} (h : VWs us vs) : VW (.tup us) (.tup vs) := fun G x hx => by
 obtain ⟨xs, e, h1, h2⟩ := hx.tup_inv
 rw [e]
 refine .tup vs xs (by rw [h1, h.1]) (fun j u x hu hx => ?_)
 have hj : j < us.length := by rw [h.1]; exact (List.getElem?_eq_some_iff.1 hu).1
 exact h.2 j us[j] u (List.getElem?_eq_getElem hj) hu G x (h2 j _ x (List.getElem?_eq_getElem hj) hx)
theorem VW.fn {f : Fn} {us vs us' vs' : List AV} (h : VWs us vs) (h' : VWs us' vs') : VW (.fn f us us') (.fn f vs vs') := fun G x hx => by
 obtain ⟨xa, xc, e, h1, h2, h3, h4⟩ := hx.fn_inv
 rw [e]
 refine .fn f vs vs' xa xc (by rw [h1, h.1]) (by rw [h2, h'.1]) (fun j u x hu hx => ?_) (fun j u x hu hx => ?_)
 ·have hj : j < us.length := by rw [h.1]; exact (List.getElem?_eq_some_iff.1 hu).1
  exact h.2 j us[j] u (List.getElem?_eq_getElem hj) hu G x (h3 j _ x (List.getElem?_eq_getElem hj) hx)
 ·have hj : j < us'.length := by rw [h'.1]; exact (List.getElem?_eq_some_iff.1 hu).1
  exact h'.2 j us'[j] u (List.getElem?_eq_getElem hj) hu G x (h4 j _ x (List.getElem?_eq_getElem hj) hx)
mutual
def aT (C : Cx K) (ts : TS K) (χ : Nat → Nat → Bool) : TV K → AV
 | .lb b => .bl b
 | .bl b => .bl b
 | .li k n => .it k n
 | .it k n => .it k n
 | .st s => .st s
 | .agg cs => .agg (aTs C ts χ cs)
 | .tup cs => .tup (aTs C ts χ cs)
 | .nil => .sl true 0 []
 | .em => .sl false 0 []
 | .sl e l => slA (C.E e) l
 | .rw s c => match tln (ts.tb s c) with
   | some n => match χ s c with
     | true => .sl true 0 []
     | false => .gs (.l s c) n
   | none => .un
 | .px s c o => .pt (.l s c) o
 | .pr e s c i of => .pt (.l s c) (i * (C.E e).sz + of)
 | .ep e l i of => .ep (cl (C.E e) l) (i * (C.E e).sz + of)
 | .gs l i => .ep (l.map .st) i
 | .nptr => .nptr
 | .fn f a c => .fn (.func f) (aTs C ts χ a) (aTs C ts χ c)
 | .fv _ _ F => F.av
 | .cn _ v => aT C ts χ v
 | .un => .un
def aTs (C : Cx K) (ts : TS K) (χ : Nat → Nat → Bool) : List (TV K) → List AV
 | [] => []
 | v :: r => aT C ts χ v :: aTs C ts χ r
end
theorem ycs (C : Cx K) (ts : TS K) (χ : Nat → Nat → Bool) : ∀ l : List (TV K), aTs C ts χ l = l.map (aT C ts χ)
 | [] => rfl
 | u :: r => by rw [aTs, ycs C ts χ r]; rfl
section
variable {P : Program} {C : Cx K} {ts : TS K} {χ : Nat → Nat → Bool}
theorem TR.canon {u : TV K} {v : AV} (h : TR P C ts χ u v) : VW v (aT C ts χ u) := by
 have hL : ∀ {us : List (TV K)} {vs : List AV}, vs.length = us.length → (∀ (j : Nat) (u : TV K) (v : AV), us[j]? = some u → vs[j]? = some v → VW v (aT C ts χ u)) → VWs vs (aTs C ts χ us) := by
  intro us vs hl ih
  refine ⟨by rw [ycs, List.length_map]; exact hl, fun j v w hv hw => ?_⟩
  rw [ycs, List.getElem?_map] at hw
  obtain ⟨u, h1, rfl⟩ := Option.map_eq_some_iff.1 hw
  exact ih j u v h1 hv
 induction h with
 | un v => exact VW.un v
 | lb b => exact .refl _
 | bl b => exact .refl _
 | li k n => exact .refl _
 | it k n => exact .refl _
 | st s => exact .refl _
 | agg us vs hl _ ih => simp only [aT]; exact VW.agg (hL hl ih)
 | tup us vs hl _ ih => simp only [aT]; exact VW.tup (hL hl ih)
 | nil => exact .refl _
 | em z => exact VW.dwk (.sl z 0 [])
 | sl e l z n xs hn hx =>
   subst hn
   have := VW.dwk (.sl z l.length xs)
   simp only [AV.dwk] at this
   rw [hx] at this
   exact this
 | rwd s c v hr h h1 => simp only [aT, h]; exact VW.un v
 | rw s c n hr h hx => simp only [aT, h, hx]; exact .refl _
 | rwn s c hr h hx => simp only [aT, h, hx]; exact .refl _
 | px s c off hr => exact .refl _
 | pr e s c i of hr hx => exact .refl _
 | ep e l i of xs hx =>
   have := VW.dwk (.ep xs (i * (C.E e).sz + of))
   simp only [AV.dwk] at this
   rw [hx] at this
   exact this
 | gs l i xs hx =>
   have := VW.dwk (.ep xs i)
   simp only [AV.dwk] at this
   rw [hx] at this
   exact this
 | nptr => exact .refl _
 | fn f a c a' c' ha hc _ _ ih ih' => simp only [aT]; exact VW.fn (hL ha ih) (hL hc ih')
 | fv ps rs F v h hv => simp only [aT]; rw [← hv]; exact VW.dwk v
 | cn id u v h hn _ ih => simp only [aT]; exact ih
end
def BW : Option Blk → Option Blk → Prop
 | none, none => True
 | some b, some b' => b.sz ≠ 0 ∧ b'.sz = b.sz ∧ b'.e = b.e ∧ VWs b.cells b'.cells
 | _, _ => False
theorem MRel.canon {B : Base} {S S' : St} {G : Gh} (h : MRel B S G) (hc : S'.cnt = S.cnt) (hn : S'.nx = S.nx) (hh : ∀ o, S'.M (.h o) = S.M (.h o)) (hl : ∀ d c, BW (S.M (.l d c)) (S'.M (.l d c))) : MRel B S' G := by
 have hold : ∀ k, ybW S' k ↔ ybW S k := fun k => by cases k <;> simp only [ybW, hc, hn]
 have hnone : ∀ k, S'.M k = none ↔ S.M k = none := by
  intro k
  cases k with
  | h o => rw [hh]
  | l d c =>
    have := hl d c
    cases h1 : S.M (.l d c) <;> cases h2 : S'.M (.l d c) <;> rw [h1, h2] at this <;> first | exact this.elim | simp
 refine { h with blk := ?_, dead := fun k => (h.dead k).trans ?_, live := fun k b hb => ?_, nx := by rw [hn]; exact h.nx, hno := fun k b hb => ?_ }
 ·intro k
  cases k with
  | h o => rw [hh]; exact h.blk _
  | l d c =>
    have h1 := h.blk (.l d c)
    have h2 := hl d c
    cases hb : S.M (.l d c) with
    | none =>
      cases hb' : S'.M (.l d c) with
      | none => rw [hb] at h1; exact h1
      | some b' => rw [hb, hb'] at h2; exact h2.elim
    | some b =>
      cases hb' : S'.M (.l d c) with
      | none => rw [hb, hb'] at h2; exact h2.elim
      | some b' =>
        rw [hb] at h1; rw [hb, hb'] at h2
        obtain ⟨z, e1, e2, e3, e4⟩ := h2
        cases hk : G.κ (.l d c) with
        | none => rw [hk] at h1; exact h1.elim
        | some r =>
          rw [hk] at h1
          obtain ⟨cur, c1, c2, c3, c4, c5, c6, c7⟩ := (yaC.cell z).1 h1
          refine (yaC.cell (by rw [e1]; exact z)).2 ⟨cur, by rw [e2]; exact c1, by rw [e1]; exact c2, c3, by rw [e1]; exact c4, by rw [← e3]; exact c5, fun j u x p q => ?_, fun j x p q => c7 j x (by rw [e3]; exact p) q⟩
          have hj : j < b.cells.length := by rw [e3]; exact (List.getElem?_eq_some_iff.1 p).1
          exact e4 j _ u (List.getElem?_eq_getElem hj) p G x (c6 j _ x (List.getElem?_eq_getElem hj) q)
 ·unfold yc9; rw [hold, hnone]
 ·refine (hold k).2 ?_
  cases hb0 : S.M k with
  | none => rw [(hnone k).2 hb0] at hb; cases hb
  | some b0 => exact h.live k b0 hb0
 ·cases k with
  | h o => rw [hh] at hb; exact h.hno _ b hb
  | l d c => rfl
theorem ybf.weak {P : Program} {f : FuncId} {args args' : List AV} {mem mem' : Nat → Option Blk} {H : Hp} {n : Nat} {Post : AV → St → Prop} (h : ybf P f args' mem' H n Post) (ha : VWs args args') (hm : ∀ d, BW (mem d) (mem' d)) : ybf P f args mem H n Post := by
 intro G vs hg hM hV
 refine h G vs hg (hM.canon rfl rfl (fun _ => rfl) fun d c => ?_) ⟨hV.1.trans ha.1, fun j u x p q => ?_⟩
 ·show BW (if c = 1 then mem d else none) (if c = 1 then mem' d else none)
  split
  ·exact hm d
  ·trivial
 ·have hj : j < args.length := by rw [ha.1]; exact (List.getElem?_eq_some_iff.1 p).1
  exact ha.2 j _ u (List.getElem?_eq_getElem hj) p G x (hV.2 j _ x (List.getElem?_eq_getElem hj) q)
theorem ybf.canon {P : Program} {f : FuncId} {args : List AV} {mem : Nat → Option Blk} {H : Hp} {n : Nat} {Post Post' : AV → St → Prop} (h : ybf P f args mem H n Post)
  (hp : ∀ av S1, Post av S1 → ∃ av' S1', VW av av' ∧ S1'.cnt = S1.cnt ∧ S1'.nx = S1.nx ∧ (∀ o, S1'.M (.h o) = S1.M (.h o)) ∧ (∀ d c, BW (S1.M (.l d c)) (S1'.M (.l d c))) ∧ Post' av' S1') : ybf P f args mem H n Post' := by
 intro G vs hg hM hV
 refine (h G vs hg hM hV).mono ?_
 rintro e w' ⟨v, av, S1, G1, rfl, hP, hM1, hw, hv⟩
 obtain ⟨av', S1', a1, a2, a3, a4, a5, a6⟩ := hp av S1 hP
 exact ⟨v, av', S1', G1, rfl, a6, hM1.canon a2 a3 a4 a5, hw, a1 G1 v hv⟩
def bT (C : Cx K) (ts : TS K) (χ : Nat → Nat → Bool) : TB K → Blk
 | .box e cs => ⟨e, cs.length, aTs C ts χ cs⟩
 | .row e l => ⟨e, (C.E e).sz, cl (C.E e) l⟩
 | .lrow e _ cs => ⟨e, (C.E e).sz, aTs C ts χ cs⟩
theorem MR.canon {P : Program} {C : Cx K} {ts : TS K} {χ : Nat → Nat → Bool} {b : TB K} {kb : KB} (h : MR P C ts χ b kb) (hz : kb.sz ≠ 0) : BW (some kb.blk) (some (bT C ts χ b)) := by
 have hL : ∀ {us : List (TV K)} {vs : List AV}, vs.length = us.length → (∀ (j : Nat) (u : TV K) (v : AV), us[j]? = some u → vs[j]? = some v → TR P C ts χ u v) → VWs vs (aTs C ts χ us) := by
  intro us vs hl ih
  refine ⟨by rw [ycs, List.length_map]; exact hl, fun j v w hv hw => ?_⟩
  rw [ycs, List.getElem?_map] at hw
  obtain ⟨u, h1, rfl⟩ := Option.map_eq_some_iff.1 hw
  exact (ih j u v h1 hv).canon
 cases b with
 | box e cs => exact ⟨hz, h.2.1.symm, h.1.symm, hL h.2.2.1 h.2.2.2⟩
 | row e l =>
   refine ⟨hz, h.2.1.symm, h.1.symm, ?_⟩
   show VWs kb.cells (cl (C.E e) l)
   rw [← h.2.2]
   refine ⟨(ybG _).symm, fun j u v hu hv => ?_⟩
   obtain ⟨w, e1, rfl⟩ := ydS _ j v hv
   rw [show kb.cells[j]? = some u from hu] at e1; cases e1
   exact VW.dwk u
 | lrow e n cs => exact ⟨hz, h.2.1.symm, h.1.symm, hL h.2.2.1 h.2.2.2.2⟩
mutual
def alv (ts : TS K) : TV K → Bool
 | .agg cs => alvs ts cs
 | .tup cs => alvs ts cs
 | .fn _ a c => alvs ts a && alvs ts c
 | .rw s c => (tln (ts.tb s c)).isSome
 | .cn _ v => alv ts v
 | _ => true
def alvs (ts : TS K) : List (TV K) → Bool
 | [] => true
 | v :: r => alv ts v && alvs ts r
end
section
variable {P : Program} {C : Cx K} {ts : TS K} {χ : Nat → Nat → Bool}
theorem ylh (hC : CxOk P C) (e : Nat) (l : List (K e)) : dwks (cl (C.E e) l) = cl (C.E e) l := by
 rw [yc5]
 unfold cl
 rw [List.map_flatMap]
 congr 1
 funext x
 rw [← yc5]
 exact hC.dw e x
theorem yw3 {us : List (TV K)} (h : alvs ts us = true) {j : Nat} {u : TV K} (hu : us[j]? = some u) : alv ts u = true := by
 induction us generalizing j with
 | nil => simp at hu
 | cons x us ih =>
   simp only [alvs, Bool.and_eq_true] at h
   cases j with
   | zero => simp at hu; subst hu; exact h.1
   | succ j => exact ih h.2 (by simpa using hu)
theorem TR.self (hC : CxOk P C) {u : TV K} {v : AV} (h : TR P C ts χ u v) : alv ts u = true → TR P C ts χ u (aT C ts χ u) := by
 have hL : ∀ {us : List (TV K)} {vs : List AV}, vs.length = us.length → alvs ts us = true → (∀ (j : Nat) (u : TV K) (v : AV), us[j]? = some u → vs[j]? = some v → alv ts u = true → TR P C ts χ u (aT C ts χ u)) → ∀ (j : Nat) (u : TV K) (v : AV), us[j]? = some u → (aTs C ts χ us)[j]? = some v → TR P C ts χ u v := by
  intro us vs hl ha ih j u v hu hv
  rw [ycs, List.getElem?_map, hu] at hv
  cases hv
  have hj : j < vs.length := by rw [hl]; exact (List.getElem?_eq_some_iff.1 hu).1
  exact ih j u _ hu (List.getElem?_eq_getElem hj) (yw3 ha hu)
 have hlen : ∀ us : List (TV K), (aTs C ts χ us).length = us.length := fun us => by rw [ycs, List.length_map]
 induction h with
 | un v => exact fun _ => .un _
 | lb b => exact fun _ => .lb b
 | bl b => exact fun _ => .bl b
 | li k n => exact fun _ => .li k n
 | it k n => exact fun _ => .it k n
 | st s => exact fun _ => .st s
 | agg us vs hl _ ih => intro ha; simp only [aT]; exact .agg us _ (hlen us) (hL hl (by simpa only [alv] using ha) ih)
 | tup us vs hl _ ih => intro ha; simp only [aT]; exact .tup us _ (hlen us) (hL hl (by simpa only [alv] using ha) ih)
 | nil => exact fun _ => .nil
 | em z => exact fun _ => .em false
 | sl e l z n xs hn hx => exact fun _ => .sl e l false _ _ rfl (ylh hC e l)
 | rwd s c v hr h h1 => intro ha; simp [alv, h] at ha
 | rw s c n hr h hx => intro _; simp only [aT, h, hx]; exact .rw s c n hr h hx
 | rwn s c hr h hx => intro _; simp only [aT, h, hx]; exact .rwn s c hr h hx
 | px s c off hr => exact fun _ => .px s c off hr
 | pr e s c i of hr hx => exact fun _ => .pr e s c i of hr hx
 | ep e l i of xs hx => exact fun _ => .ep e l i of _ (ylh hC e l)
 | gs l i xs hx => exact fun _ => .gs l i _ (yt3 l)
 | nptr => exact fun _ => .nptr
 | fn f a c a' c' hla hlc _ _ ih ih' => intro ha; simp only [alv, Bool.and_eq_true] at ha; simp only [aT]; exact .fn f a c _ _ (hlen a) (hlen c) (hL hla ha.1 ih) (hL hlc ha.2 ih')
 | fv ps rs F v h hv => exact fun _ => .fv ps rs F _ h h.2.1
 | cn id u v h hn _ ih => intro ha; simp only [aT]; exact .cn id u _ h hn (ih (by simpa only [alv] using ha))
end
end Go.AV
end
noncomputable section
namespace Go.AV
open Go.RowKit Go.RG Go.Lib
variable {K : Nat → Type}
section
variable {P : Program} {C : Cx K} {R : RR K} {ts ts' : TS K} {χ χ' : Nat → Nat → Bool} {ds : DS}
theorem yg3 : ∀ {cs : List Prop} {p : Prop}, andL cs p → AllP cs ∧ p
 | [], _, h => ⟨trivial, h⟩
 | _ :: r, _, h => ⟨⟨h.1, (yg3 (cs := r) h.2).1⟩, (yg3 (cs := r) h.2).2⟩
theorem ydB {α : Type} {o : Option α} {X : α → Prop} (h : wpo' o X) : ∃ x, o = some x ∧ X x := by
 cases o with
 | none => exact h.elim
 | some x => exact ⟨x, rfl, h⟩
theorem GM.live (h : GM P C R ts χ ds) {s c : Nat} {b : TB K} (hb : ts.tb s c = some b) (hx : χ s c = false) : ya3 (toD ds) (.l s c) = true := by
 obtain ⟨kb, h1, _⟩ := h.mb s c b hb hx
 show ((ds.kb s c).map KB.blk).isSome = true
 rw [h1]; rfl
theorem GM.box (h : GM P C R ts χ ds) {s c e : Nat} {cs : List (TV K)} (hb : ts.tb s c = some (.box e cs)) : χ s c = false := by
 cases hx : χ s c with
 | false => rfl
 | true => obtain ⟨e', h1⟩ := h.vi s c hx; rw [hb] at h1; cases h1
theorem GM.lrow (h : GM P C R ts χ ds) {s c e n : Nat} {cs : List (TV K)} (hb : ts.tb s c = some (.lrow e n cs)) : χ s c = false := by
 cases hx : χ s c with
 | false => rfl
 | true => obtain ⟨e', h1⟩ := h.vi s c hx; rw [hb] at h1; cases h1
theorem yxD {op : BinOp} {k : IntKind} {a b : Int} {lit : Bool} {cs : List Prop} {w : TV K} (h : tnum op k a b lit = some (cs, w)) (hc : AllP cs) (hs : yyv op = false) :
  ∃ D v, kbin op k a b = some (D, v) ∧ AllP D ∧ TR P C ts χ w v := by
 cases op <;> simp only [tnum] at h <;> simp only [kbin, binI, kok] <;> first
  | (cases h; done)
  | (cases h; exact ⟨_, _, rfl, trivial, .it _ _⟩)
  | (cases h; exact ⟨_, _, rfl, trivial, .bl _⟩)
  | (split at h
     ·split at h
      ·cases h
      ·rename_i h0; cases h; exact ⟨_, _, rfl, ⟨h0, trivial⟩, .it _ _⟩
     ·cases h; exact ⟨_, _, rfl, hc, .it _ _⟩)
  | (cases hs; done)
theorem yw7 {op : BinOp} {k : IntKind} {a b : Int} {lit : Bool} {cs : List Prop} {w : TV K} (h : tshi op k a b lit = some (cs, w)) (hc : AllP cs) : (op = .shl ∨ op = .shr) ∧
  ∃ D v, kshi op k a b = some (D, v) ∧ AllP D ∧ TR P C ts χ w v := by
 cases op <;> simp only [tshi, tsh] at h <;> first | (cases h; done) | skip
 all_goals
  cases lit with
  | true =>
    simp only at h
    split at h
    ·cases h
    ·rename_i h0; cases h; exact ⟨by simp, _, _, rfl, ⟨h0, trivial⟩, .it _ _⟩
  | false => simp only at h; cases h; exact ⟨by simp, _, _, rfl, hc, .it _ _⟩
theorem yw0 {op : BinOp} {a b : Str} {cs : List Prop} {w : TV K} (h : tstr op a b = some (cs, w)) (hc : AllP cs) : ∃ D v, kstr op a b = some (D, v) ∧ AllP D ∧ TR P C ts χ w v := by
 cases op <;> simp only [tstr] at h <;> simp only [kstr, binS, kok] <;> first
  | (cases h; done)
  | (cases h; exact ⟨_, _, rfl, hc, .st _⟩)
  | (cases h; exact ⟨_, _, rfl, trivial, .bl _⟩)
theorem TR.pxi {s c o : Nat} {v : AV} (h : TR P C ts χ (.px s c o) v) : v = .pt (.l s c) o := by cases h; rfl
theorem TR.lbi {b : Bool} {v : AV} (h : TR P C ts χ (.lb b) v) : v = .bl b := by cases h; rfl
theorem TR.bli {b : Bool} {v : AV} (h : TR P C ts χ (.bl b) v) : v = .bl b := by cases h; rfl
theorem TR.str {s : Str} {v : AV} (h : TR P C ts χ (.st s) v) : v = .st s := by cases h; rfl
theorem yxl {op : BinOp} {x y : TV K} {u v : AV} {cs : List Prop} {w : TV K} (hx : TR P C ts χ x u) (hy : TR P C ts χ y v) (h : tbin op x y = some (cs, w)) (hc : AllP cs) :
  ∃ D z, (match u, v with
   | .it k a, .it k' b => if op = .shl ∨ op = .shr then kshi op k a b else if k = k' then kbin op k a b else none
   | .st a, .st b => kstr op a b
   | _, _ => none) = some (D, z) ∧ AllP D ∧ TR P C ts χ w z := by
 unfold tbin at h
 split at h
 ·rw [hx.str, hy.str]; exact yw0 h hc
 ·split at h
  ·rename_i k a k' b e1 e2
   rw [hx.int e1, hy.int e2]
   simp only
   split at h
   ·obtain ⟨q, r⟩ := yw7 (P := P) (C := C) (ts := ts) (χ := χ) h hc
    rw [if_pos q]; exact r
   ·rename_i hs
    split at h
    ·rename_i e
     rw [if_neg (by rintro (rfl | rfl) <;> cases hs), if_pos e]
     exact yxD h hc hs
    ·cases h
  ·cases h
theorem ys7 {k : Nat} {x y : TV K} {u v : AV} {b : Bool} (hx : TR P C ts χ x u) (hy : TR P C ts χ y v) (h : teq1 k x y = some b) : k ≤ 2 ∧ eq1 k u v = some b := by
 unfold teq1 at h
 split at h
 ·split at h
  ·rename_i e1 e2; cases h; rw [hx.bool e1, hy.bool e2]; exact ⟨by omega, rfl⟩
  ·cases h
 ·split at h
  ·rename_i e1 e2
   split at h
   ·rename_i e; cases h; rw [hx.int e1, hy.int e2]; exact ⟨by omega, by simp [eq1, e]⟩
   ·cases h
  ·cases h
 ·cases h; rw [hx.str, hy.str]; exact ⟨by omega, rfl⟩
 ·cases h
theorem ysE : ∀ {ks : List Nat} {xs ys : List (TV K)} {us vs : List AV} {b : Bool}, us.length = xs.length → vs.length = ys.length → (∀ (j : Nat) (u : TV K) (v : AV), xs[j]? = some u → us[j]? = some v → TR P C ts χ u v) →
  (∀ (j : Nat) (u : TV K) (v : AV), ys[j]? = some u → vs[j]? = some v → TR P C ts χ u v) → teqL ks xs ys = some b → eqL ks us vs = some b
 | [], [], [], us, vs, b, h1, h2, _, _, h => by
   cases us with
   | cons => simp at h1
   | nil => cases vs with
     | cons => simp at h2
     | nil => exact h
 | k :: ks, x :: xs, y :: ys, us, vs, b, h1, h2, hx, hy, h => by
   cases us with
   | nil => simp at h1
   | cons u us => cases vs with
     | nil => simp at h2
     | cons v vs =>
       simp only [teqL] at h
       split at h
       ·rename_i p q e1 e2
        cases h
        have a1 := (ys7 (hx 0 x u rfl rfl).s (hy 0 y v rfl rfl).s e1).2
        have a2 := ysE (us := us) (vs := vs) (by simpa using h1) (by simpa using h2) (fun j u v a b => hx (j + 1) u v (by simpa using a) (by simpa using b)) (fun j u v a b => hy (j + 1) u v (by simpa using a) (by simpa using b)) e2
        simp only [eqL, a1, a2]
       ·cases h
 | [], _ :: _, _, _, _, _, _, _, _, _, h => by simp [teqL] at h
 | [], [], _ :: _, _, _, _, _, _, _, _, h => by simp [teqL] at h
 | _ :: _, [], _, _, _, _, _, _, _, _, h => by simp [teqL] at h
 | _ :: _, _ :: _, [], _, _, _, _, _, _, _, h => by simp [teqL] at h
theorem TR.agg' {us : List (TV K)} {v : AV} (h : TR P C ts χ (.agg us) v) : ∃ vs, v = .agg vs ∧ vs.length = us.length ∧ ∀ (j : Nat) (u : TV K) (v : AV), us[j]? = some u → vs[j]? = some v → TR P C ts χ u v := by
 cases h with
 | agg us vs hl h => exact ⟨vs, rfl, hl, h⟩
theorem TR.tup' {us : List (TV K)} {v : AV} (h : TR P C ts χ (.tup us) v) : ∃ vs, v = .tup vs ∧ vs.length = us.length ∧ ∀ (j : Nat) (u : TV K) (v : AV), us[j]? = some u → vs[j]? = some v → TR P C ts χ u v := by
 cases h with
 | tup us vs hl h => exact ⟨vs, rfl, hl, h⟩
theorem TR.one1 {u : TV K} {v : AV} (h : TR P C ts χ u v) : ytK u = true → v.one = true := by
 cases h with
 | rwd s c v hr h h1 => exact fun _ => h1
 | fv ps rs F v h hv => intro _; rw [← ync, hv]; exact h.2.2.1
 | _ => intro h; first | rfl | (cases h; done)
theorem TR.one {u : TV K} {v : AV} (h : TR P C ts χ u v) (ht : tone u = true) : v.one = true := by
 cases h with
 | cn id u v h hn hv => exact hv.one1 ht
 | rwd s c v hr h h1 => exact h1
 | fv ps rs F v h hv => rw [← ync, hv]; exact h.2.2.1
 | _ => first | rfl | (cases ht; done)
theorem ype {v : AV} (h : v.one = true) : v.cells = [v] := by cases v <;> first | rfl | (cases h; done)
theorem TR.cells {u : TV K} {v : AV} (h : TR P C ts χ u v) (hu : u.s ≠ .un) : (v.cells).length = (tcl u).length ∧ ∀ (j : Nat) (w : TV K) (x : AV), (tcl u)[j]? = some w → v.cells[j]? = some x → TR P C ts χ w x := by
 have one : v.cells = [v] → (v.cells).length = [u].length ∧ ∀ (j : Nat) (w : TV K) (x : AV), [u][j]? = some w → v.cells[j]? = some x → TR P C ts χ w x := by
  intro e2
  rw [e2]
  refine ⟨rfl, fun j w x h1 h2 => ?_⟩
  cases j with
  | zero => simp at h1 h2; subst h1; subst h2; exact h
  | succ j => simp at h1
 have hs := h.s
 unfold tcl
 split
 ·rename_i cs e
  rw [e] at hs
  obtain ⟨vs, rfl, a, b⟩ := hs.agg'
  exact ⟨a, b⟩
 ·rename_i hne
  refine one ?_
  have hnc : ∀ id w, u.s ≠ .cn id w := by
   intro id w e
   cases h with
   | cn id' u v h hn hv => simp only [TV.s] at e; rw [e] at hn; cases hn
   | _ => cases e
  revert hs hne hu hnc
  generalize hw : u.s = w
  intro hu hs hne hnc
  cases hs with
  | agg us vs hl h => exact (hne _ rfl).elim
  | un v => exact (hu rfl).elim
  | rwd s c v hr h h1 => exact ype h1
  | fv ps rs F v h hv => exact ype (by rw [← ync, hv]; exact h.2.2.1)
  | cn id u' v h hn hv => exact (hnc _ _ rfl).elim
  | _ => rfl
variable (P C ts χ) in
def TL (us : List (TV K)) (vs : List AV) : Prop := vs.length = us.length ∧ ∀ (j : Nat) (u : TV K) (v : AV), us[j]? = some u → vs[j]? = some v → TR P C ts χ u v
theorem TL.app {us us' : List (TV K)} {vs vs' : List AV} (h : TL P C ts χ us vs) (k : TL P C ts χ us' vs') : TL P C ts χ (us ++ us') (vs ++ vs') := by
 refine ⟨by simp [h.1, k.1], fun j u v h1 h2 => ?_⟩
 by_cases hj : j < us.length
 ·rw [List.getElem?_append_left hj] at h1
  rw [List.getElem?_append_left (by rw [h.1]; exact hj)] at h2
  exact h.2 j u v h1 h2
 ·rw [List.getElem?_append_right (by omega)] at h1
  rw [List.getElem?_append_right (by rw [h.1]; omega), h.1] at h2
  exact k.2 _ u v h1 h2
theorem TL.take {us : List (TV K)} {vs : List AV} (h : TL P C ts χ us vs) (n : Nat) : TL P C ts χ (us.take n) (vs.take n) := by
 refine ⟨by simp [h.1], fun j u v h1 h2 => ?_⟩
 rw [List.getElem?_take] at h1 h2
 split at h1
 ·rename_i hj; rw [if_pos hj] at h2; exact h.2 j u v h1 h2
 ·cases h1
theorem TL.drop {us : List (TV K)} {vs : List AV} (h : TL P C ts χ us vs) (n : Nat) : TL P C ts χ (us.drop n) (vs.drop n) := by
 refine ⟨by simp [h.1], fun j u v h1 h2 => ?_⟩
 rw [List.getElem?_drop] at h1 h2
 exact h.2 _ u v h1 h2
theorem TL.at' {us : List (TV K)} {vs : List AV} (h : TL P C ts χ us vs) {j : Nat} {u : TV K} (hj : us[j]? = some u) : ∃ v, vs[j]? = some v ∧ TR P C ts χ u v := by
 have hlt : j < vs.length := by rw [h.1]; exact (List.getElem?_eq_some_iff.1 hj).1
 exact ⟨vs[j], List.getElem?_eq_getElem hlt, h.2 j u _ hj (List.getElem?_eq_getElem hlt)⟩
theorem TL.mono (hm : Mono ts ts' χ χ') {us : List (TV K)} {vs : List AV} (h : TL P C ts χ us vs) : TL P C ts' χ' us vs := ⟨h.1, fun j u v a b => (h.2 j u v a b).mono hm⟩
theorem TL.nil : TL P C ts χ [] [] := ⟨rfl, fun j u v h => by simp at h⟩
theorem TL.cons {u : TV K} {v : AV} {us : List (TV K)} {vs : List AV} (h : TR P C ts χ u v) (k : TL P C ts χ us vs) : TL P C ts χ (u :: us) (v :: vs) := TL.app (us := [u]) (vs := [v]) ⟨rfl, fun j u' v' h1 h2 => by cases j with | zero => simp at h1 h2; subst h1; subst h2; exact h | succ j => simp at h1⟩ k
theorem TL.head {u : TV K} {v : AV} {us : List (TV K)} {vs : List AV} (h : TL P C ts χ (u :: us) (v :: vs)) : TR P C ts χ u v ∧ TL P C ts χ us vs :=
 ⟨h.2 0 u v rfl rfl, by simpa using h.1, fun j u v a b => h.2 (j + 1) u v (by simpa using a) (by simpa using b)⟩
theorem TL.cvAs (z : List AV) : TL P C ts χ (cvAs z) z := yjL z
theorem TL.one : ∀ {us : List (TV K)} {vs : List AV}, TL P C ts χ us vs → us.all tone = true → vs.all AV.one = true
 | [], [], _, _ => rfl
 | [], _ :: _, h, _ => by simp [TL] at h
 | _ :: _, [], h, _ => by simp [TL] at h
 | u :: us, v :: vs, h, ht => by
   simp only [List.all_cons, Bool.and_eq_true] at ht ⊢
   exact ⟨h.head.1.one ht.1, TL.one h.head.2 ht.2⟩
theorem TL.mapS {us : List (TV K)} {vs : List AV} (h : TL P C ts χ us vs) : TL P C ts χ (us.map TV.s) vs := by
 refine ⟨by simp [h.1], fun j u v h1 h2 => ?_⟩
 rw [List.getElem?_map] at h1
 obtain ⟨w, e1, rfl⟩ := Option.map_eq_some_iff.1 h1
 exact (h.2 j w v e1 h2).s
theorem TL.tea (h : GM P C R ts χ ds) : ∀ (l : List AOpd), TL P C ts χ (l.map (tea ts.fr)) (l.map (ev (lkF ds.fr)))
 | [] => .nil
 | x :: l => .cons (h.tea x) (TL.tea h l)
theorem TL.tev (h : GM P C R ts χ ds) : ∀ (l : List AOpd), TL P C ts χ (l.map (tev ts.fr)) (l.map (ev (lkF ds.fr)))
 | [] => .nil
 | x :: l => .cons (h.tev x) (TL.tev h l)
theorem TR.tcl {u : TV K} {v : AV} (h : TR P C ts χ u v) (ht : (tcl u).all tone = true) : TL P C ts χ (tcl u) v.cells ∧ v.cells.all AV.one = true := by
 have hu : u.s ≠ .un := by
  intro e
  cases u with
  | un => simp [Go.AV.tcl, TV.s, tone, ytK] at ht
  | cn id w => simp only [TV.s] at e; subst e; simp [Go.AV.tcl, TV.s, tone, ytK] at ht
  | _ => cases e
 have := h.cells hu
 exact ⟨this, TL.one this ht⟩
theorem ynD : ∀ (l : List (Nat × Nat × TV K)) (m : List (Nat × Nat × AV)) (cells : List (TV K)) (cells' : List AV) (cs : List (TV K)), TL P C ts χ cells cells' → m.length = l.length →
  (∀ (j : Nat) (p : Nat × Nat × TV K) (q : Nat × Nat × AV), l[j]? = some p → m[j]? = some q → q.1 = p.1 ∧ q.2.1 = p.2.1 ∧ TR P C ts χ p.2.2 q.2.2) → yq1 cells l = some cs → ∃ cs', yia cells' m = some cs' ∧ TL P C ts χ cs cs'
 | [], m, cells, cells', cs, h, hl, _, e => by
   cases m with
   | cons => simp at hl
   | nil => cases e; exact ⟨cells', rfl, h⟩
 | (off, sz, v) :: l, m, cells, cells', cs, h, hl, hh, e => by
   cases m with
   | nil => simp at hl
   | cons q m =>
     obtain ⟨off', sz', v'⟩ := q
     obtain ⟨e1, e2, e3⟩ := hh 0 _ _ rfl rfl
     simp only at e1 e2 e3
     subst e1; subst e2
     simp only [yq1] at e
     split at e
     ·rename_i hc
      simp only [Bool.and_eq_true] at hc
      obtain ⟨⟨c1, c2⟩, c3⟩ := hc
      obtain ⟨t1, t2⟩ := e3.tcl c3
      have c1' := nbeq.1 c1
      have hc' : v'.cells.length = sz' ∧ off' + sz' ≤ cells'.length ∧ v'.cells.all AV.one = true := ⟨by rw [t1.1, c1'], by rw [h.1]; exact Nat.le_of_ble_eq_true c2, t2⟩
      simp only [yia]
      rw [if_pos hc']
      exact ynD l m _ _ cs (((h.take off').app t1).app (h.drop (off' + sz'))) (by simpa using hl) (fun j p q a b => hh (j + 1) p q (by simpa using a) (by simpa using b)) e
     ·cases e
theorem yuz {mx : Bool} {k : IntKind} : ∀ (r : List (TV K)) (r' : List AV) (a : Int) (w : TV K), TL P C ts χ r r' → tmnL mx k a r = some w → ∃ v, mnL mx k a r' = some v ∧ TR P C ts χ w v
 | [], r', a, w, h, e => by
   cases r' with
   | cons => simp [TL] at h
   | nil => cases e; exact ⟨_, rfl, .it _ _⟩
 | x :: r, r', a, w, h, e => by
   cases r' with
   | nil => simp [TL] at h
   | cons y r' =>
     simp only [tmnL] at e
     split at e
     ·rename_i k' b e1
      have hy := h.head.1.int e1
      subst hy
      split at e
      ·rename_i ek
       obtain ⟨v, h1, h2⟩ := yuz r r' _ w h.head.2 e
       refine ⟨v, ?_, h2⟩
       simp only [mnL]
       rw [if_pos ek, ← h1]
       cases mx <;> rfl
      ·cases e
     ·cases e
theorem ykg (h : GM P C R ts χ ds) {d a : Int} {x : Option AOpd} (e : tbnd ts.fr d x = some a) : bnd (ev (lkF ds.fr)) d x = some a := by
 cases x with
 | none => exact e
 | some x =>
   simp only [tbnd] at e
   split at e
   ·rename_i k n e1
    cases e
    simp only [bnd, (h.tev x).int e1]
   ·cases e
theorem yy3 {g : Bool} {kind : Nat} {x y : TV K} {u v : AV} {live : Key → Bool} {cs : List Prop} {w : TV K} (hx : TR P C ts χ x u) (hy : TR P C ts χ y v) (h : teq g kind x y = some (cs, w)) (hc : AllP cs) :
  ∃ D z, keq live g kind u v = some (D, z) ∧ AllP D ∧ TR P C ts χ w z := by
 unfold teq at h
 split at h
 ·split at h
  ·cases h; cases hx; cases hy; exact ⟨[], .bl (!g), rfl, trivial, .lb _⟩
  ·cases h
 ·split at h
  ·cases h; cases hx; cases hy; exact ⟨[], .bl (!g), by cases g <;> rfl, trivial, .lb _⟩
  ·cases h
 ·split at h
  ·rename_i b e1
   cases h
   obtain ⟨hk, e2⟩ := ys7 hx hy e1
   refine ⟨[], .bl (ngB g b), ?_, trivial, .bl _⟩
   have hk' : kind = 0 ∨ kind = 1 ∨ kind = 2 := by omega
   have : eqP live kind u v = some b := by
    rcases hk' with rfl | rfl | rfl <;> exact e2
   have hns : ∀ z n xs, u ≠ .sl z n xs := by
    rintro z n xs rfl
    rcases hk' with rfl | rfl | rfl <;> simp [eq1] at e2
   unfold keq
   split
   ·exact absurd rfl (hns _ _ _)
   ·exact absurd rfl (hns _ _ _)
   ·exact absurd rfl (hns _ _ _)
   ·rw [this]; rfl
  ·cases h
theorem ytM : ∀ {cs : List (TV K)} {vs : List AV} {k : IntKind} {l : List Int}, TL P C ts χ cs vs → selI cs = some (k, l) → l.length = cs.length ∧ ∀ (j : Nat) (n : Int), l[j]? = some n → vs[j]? = some (.it k n)
 | [], vs, k, l, t, h => by simp [selI] at h
 | v :: r, [], k, l, t, h => by simp [TL] at t
 | v :: r, w :: vs, k, l, t, h => by
   simp only [selI] at h
   split at h
   ·rename_i k0 n0 h0
    have hw : w = .it k0 n0 := t.head.1.s.int h0
    split at h
    ·cases h
     refine ⟨rfl, fun j n hj => ?_⟩
     cases j with
     | zero => simp at hj; subst hj; simp [hw]
     | succ j => simp at hj
    ·split at h
     ·rename_i k' l' h1
      split at h
      ·rename_i e
       cases h
       subst e
       obtain ⟨a, b⟩ := ytM t.head.2 h1
       refine ⟨by simp [a], fun j n hj => ?_⟩
       cases j with
       | zero => simp at hj; subst hj; simp [hw]
       | succ j => simpa using b j n (by simpa using hj)
      ·cases h
     ·cases h
   ·cases h
theorem yta : ∀ {cs : List (TV K)} {vs : List AV} {l : List Str}, TL P C ts χ cs vs → selS cs = some l → l.length = cs.length ∧ ∀ (j : Nat) (n : Str), l[j]? = some n → vs[j]? = some (.st n)
 | [], vs, l, t, h => by simp only [selS] at h; cases h; exact ⟨rfl, fun j n hj => by simp at hj⟩
 | v :: r, [], l, t, h => by simp [TL] at t
 | v :: r, w :: vs, l, t, h => by
   simp only [selS] at h
   split at h
   ·rename_i s l' h0 h1
    cases h
    have hs := t.head.1.s
    rw [h0] at hs
    have hw : w = .st s := hs.str
    obtain ⟨a, b⟩ := yta t.head.2 h1
    refine ⟨by simp [a], fun j n hj => ?_⟩
    cases j with
    | zero => simp at hj; subst hj; simp [hw]
    | succ j => simpa using b j n (by simpa using hj)
   ·cases h
theorem ywZ {us : List (TV K)} {vs : List AV} {len : Nat} {i : Int} {cs : List Prop} {w : TV K} (t : TL P C ts χ us vs) (h : tsel us len i = some (cs, w)) (hl : Nat.ble len us.length = true) (hc : AllP cs) : cs = [0 ≤ i ∧ i < len] ∧ TR P C ts χ w ((vs[i.toNat]?).getD .un) := by
 unfold tsel at h
 have hl' := Nat.le_of_ble_eq_true hl
 split at h
 ·rename_i k l h1
  cases h
  refine ⟨rfl, ?_⟩
  obtain ⟨a, b⟩ := ytM t h1
  have h0 : 0 ≤ i ∧ i < len := hc.1
  have hlt : i.toNat < l.length := by omega
  rw [b _ _ (List.getElem?_eq_getElem hlt), List.getElem?_eq_getElem hlt]
  exact .it _ _
 ·split at h
  ·rename_i l h1
   cases h
   refine ⟨rfl, ?_⟩
   obtain ⟨a, b⟩ := yta t h1
   have h0 : 0 ≤ i ∧ i < len := hc.1
   have hlt : i.toNat < l.length := by omega
   rw [b _ _ (List.getElem?_eq_getElem hlt), List.getElem?_eq_getElem hlt]
   exact .st _
  ·cases h
theorem yxZ (hγ : GM P C R ts χ ds) {u : AOp} {cs : List Prop} {w : TV K} (h : tqv ts u = some (cs, w)) (hc : AllP cs) :
  yxR u = false ∧ ∃ D v, kpv (ya3 (toD ds)) ds.fr u = some (D, v) ∧ AllP D ∧ TR P C ts χ w v := by
 have lvx : ∀ {s c : Nat} {v : TV K}, tlvx ts s c v = some (cs, w) → cs = [] ∧ w = v ∧ ya3 (toD ds) (.l s c) = true := by
  intro s c v e
  unfold tlvx at e
  split at e
  ·rename_i e' cs' e1; cases e; exact ⟨rfl, rfl, hγ.live e1 (hγ.box e1)⟩
  ·cases e
 have lv : ∀ {s c : Nat} {v : TV K}, χ s c = false → yuU ts s c v = some (cs, w) → cs = [] ∧ w = v ∧ ya3 (toD ds) (.l s c) = true := by
  intro s c v hx e
  unfold yuU at e
  split at e
  ·rename_i b e1; cases e; exact ⟨rfl, rfl, hγ.live e1 hx⟩
  ·cases e
 unfold tqv at h
 simp only at h
 split at h
 case h_1 x =>
  cases h; exact ⟨rfl, [], _, rfl, trivial, hγ.tea x⟩
 case h_2 z parts =>
  split at h
  ·rename_i cs' e
   cases h
   obtain ⟨cs2, e2, t⟩ := ynD (P := P) (C := C) (ts := ts) (χ := χ) _ (parts.map fun p => (p.1, p.2.1, ev (lkF ds.fr) p.2.2)) _ z _ (TL.cvAs z) (by simp) (fun j p q a b => by
    rw [List.getElem?_map] at a b
    cases hp : parts[j]? with
    | none => rw [hp] at a; cases a
    | some r => rw [hp] at a b; cases a; cases b; exact ⟨rfl, rfl, hγ.tea _⟩) e
   refine ⟨rfl, [], .agg cs2, ?_, trivial, .agg _ _ t.1 t.2⟩
   simp only [kpv, pval, e2, kok, Option.map_some]
  ·cases h
 case h_3 x =>
  have hx := hγ.tev x
  split at h
  ·rename_i s c o e
   rw [e] at hx
   obtain ⟨rfl, rfl, hl⟩ := lvx h
   have ev' : ev (lkF ds.fr) x = .pt (.l s c) o := hx.pxi
   refine ⟨rfl, [], _, ?_, trivial, ev' ▸ hx⟩
   simp only [kpv, pval, ev', hl, if_true, kok]
  ·rename_i e' s c i o e
   rw [e] at hx
   cases hx' : (ev (lkF ds.fr) x) with
   | pt k off =>
     rw [hx'] at hx
     cases hx with
     | pr _ _ _ _ _ hr hxx =>
       obtain ⟨rfl, rfl, hl⟩ := lv hxx h
       refine ⟨rfl, [], .pt (.l s c) _, ?_, trivial, .pr _ _ _ _ _ hr hxx⟩
       simp only [kpv, pval, hx', hl, if_true, kok]
   | _ => rw [hx'] at hx; cases hx
  ·rename_i e' l i o e
   rw [e] at hx
   cases h
   cases hx' : (ev (lkF ds.fr) x) with
   | ep xs off =>
     rw [hx'] at hx
     refine ⟨rfl, [], .ep xs off, ?_, trivial, hx⟩
     simp only [kpv, pval, hx', kok]
   | _ => rw [hx'] at hx; cases hx
  ·rename_i l i e
   rw [e] at hx
   cases h
   cases hx' : (ev (lkF ds.fr) x) with
   | ep xs off =>
     rw [hx'] at hx
     refine ⟨rfl, [], .ep xs off, ?_, trivial, hx⟩
     simp only [kpv, pval, hx', kok]
   | _ => rw [hx'] at hx; cases hx
  ·rename_i f a c e
   rw [e] at hx
   cases h
   cases hx' : (ev (lkF ds.fr) x) with
   | fn f' a' c' =>
     rw [hx'] at hx
     have : f' = .func f := by cases hx; rfl
     subst this
     refine ⟨rfl, [], .fn (.func f) a' c', ?_, trivial, hx⟩
     simp only [kpv, pval, hx', kok]
   | _ => rw [hx'] at hx; cases hx
  ·rename_i ps rs V e
   rw [e] at hx
   cases h
   have hx2 := hx
   cases hx with
   | fv _ _ _ _ hF hv =>
     obtain ⟨_, _, _, f, a, c, e1, _⟩ := hF
     rw [e1] at hv
     cases hx' : (ev (lkF ds.fr) x) with
     | fn f' a' c' =>
       rw [hx'] at hv hx2
       simp only [dwk, AV.fn.injEq] at hv
       obtain ⟨rfl, _, _⟩ := hv
       refine ⟨rfl, [], .fn (.func f) a' c', ?_, trivial, hx2⟩
       simp only [kpv, pval, hx', kok]
     | _ => rw [hx'] at hv; simp [dwk] at hv
  ·cases h
 case h_4 op x y =>
  obtain ⟨D, z, h1, h2, h3⟩ := yxl (hγ.tev x) (hγ.tev y) h hc
  exact ⟨rfl, D, z, h1, h2, h3⟩
 case h_5 g k x y =>
  have hx := hγ.tev x
  have hy := hγ.tev y
  split at h
  ·rename_i s c o e1
   split at h
   ·rename_i e2
    obtain ⟨rfl, rfl, hl⟩ := lvx h
    rw [e1] at hx
    rw [e2] at hy
    have a := hx.pxi
    have b : ev (lkF ds.fr) y = .nptr := by
     generalize ev (lkF ds.fr) y = v at hy
     cases hy; rfl
    refine ⟨rfl, [], .bl g, ?_, trivial, .lb _⟩
    simp only [kpv, a, b, keq, eqP, hl, if_true, Option.map_some, kok]
    cases g <;> rfl
   ·cases h
  ·obtain ⟨D, z, h1, h2, h3⟩ := yy3 (live := ya3 (toD ds)) hx hy h hc
   exact ⟨rfl, D, z, h1, h2, h3⟩
 case h_6 g ks x y =>
  have hx := hγ.tev x
  have hy := hγ.tev y
  split at h
  ·rename_i a b e1 e2
   rw [e1] at hx; rw [e2] at hy
   obtain ⟨us, f1, t1, t2⟩ := hx.agg'
   obtain ⟨vs, f2, t3, t4⟩ := hy.agg'
   split at h
   ·rename_i r e3
    cases h
    have := ysE t1 t3 t2 t4 e3
    refine ⟨rfl, [], .bl (ngB g r), ?_, trivial, .bl _⟩
    simp only [kpv, f1, f2, this, kok, Option.map_some]
   ·cases h
  ·cases h
 case h_7 op x =>
  have hx := hγ.tev x
  split at h
  ·split at h
   ·rename_i k n e
    cases h
    have := hx.int e
    refine ⟨rfl, [], .it k _, ?_, trivial, .it _ _⟩
    simp only [kpv, pval, this, kok]
   ·cases h
  ·split at h
   ·rename_i b e
    cases h
    rw [e] at hx
    have : ev (lkF ds.fr) x = .bl b := hx.lbi
    refine ⟨rfl, [], .bl (!b), ?_, trivial, .lb _⟩
    simp only [kpv, pval, this, kok]
   ·rename_i b e
    cases h
    rw [e] at hx
    have : ev (lkF ds.fr) x = .bl b := hx.bli
    refine ⟨rfl, [], .bl (!b), ?_, trivial, .bl _⟩
    simp only [kpv, pval, this, kok]
   ·cases h
  ·cases h
 case h_8 k x =>
  split at h
  ·rename_i k' n e
   cases h
   have := (hγ.tev x).int e
   refine ⟨rfl, [], .it k _, ?_, trivial, .it _ _⟩
   simp only [kpv, pval, this, kok]
  ·cases h
 case h_9 x =>
  have hx := hγ.tev x
  split at h
  ·rename_i l e
   cases h
   rw [e] at hx
   refine ⟨rfl, [], .st l, ?_, trivial, .st _⟩
   simp only [kpv, pval, hx.str, kok]
  ·cases h
 case h_10 x lo hi =>
  have hx := hγ.tev x
  split at h
  ·rename_i l e
   rw [e] at hx
   split at h
   ·rename_i a b e1 e2
    cases h
    refine ⟨rfl, _, .st ((l.drop a.toNat).take (b.toNat - a.toNat)), ?_, hc, .st _⟩
    simp only [kpv, hx.str, ykg hγ e1, ykg hγ e2, ksls]
   ·cases h
  ·cases h
 case h_11 off x =>
  have hx := hγ.tev x
  split at h
  ·rename_i s c o e
   rw [e] at hx
   obtain ⟨rfl, rfl, hl⟩ := lvx h
   cases hx' : (ev (lkF ds.fr) x) with
   | pt k off' =>
     rw [hx'] at hx
     cases hx with
     | px _ _ _ hr =>
       refine ⟨rfl, [], .pt (.l s c) (o + off), ?_, trivial, .px _ _ _ hr⟩
       simp only [kpv, pval, hx', hl, if_true, kok]
   | _ => rw [hx'] at hx; cases hx
  ·rename_i e' s c i o e
   rw [e] at hx
   cases hx' : (ev (lkF ds.fr) x) with
   | pt k off' =>
     rw [hx'] at hx
     cases hx with
     | pr _ _ _ _ _ hr hxx =>
       obtain ⟨rfl, rfl, hl⟩ := lv hxx h
       refine ⟨rfl, [], .pt (.l s c) (i * (C.E e').sz + o + off), ?_, trivial, by rw [Nat.add_assoc]; exact .pr _ _ _ _ _ hr hxx⟩
       simp only [kpv, pval, hx', hl, if_true, kok]
   | _ => rw [hx'] at hx; cases hx
  ·rename_i e' l i o e
   rw [e] at hx
   cases h
   cases hx' : (ev (lkF ds.fr) x) with
   | ep xs off' =>
     rw [hx'] at hx
     cases hx with
     | ep _ _ _ _ _ hxx =>
       refine ⟨rfl, [], .ep xs (i * (C.E e').sz + o + off), ?_, trivial, by rw [Nat.add_assoc]; exact .ep _ _ _ _ _ hxx⟩
       simp only [kpv, pval, hx', kok]
   | _ => rw [hx'] at hx; cases hx
  ·cases h
 case h_12 g off sz x =>
  have hx := hγ.tev x
  split at h
  ·rename_i us e
   rw [e] at hx
   obtain ⟨vs, f1, t⟩ := hx.agg'
   have t : TL P C ts χ us vs := t
   split at h
   ·cases h
    refine ⟨rfl, [], .agg ((vs.drop off).take sz), ?_, trivial, .agg _ _ ((t.drop off).take sz).1 ((t.drop off).take sz).2⟩
    simp only [kpv, pval, f1, kok, if_true]
   ·split at h
    ·rename_i v e1
     cases h
     obtain ⟨v', e2, e3⟩ := t.at' e1
     refine ⟨rfl, [], v', ?_, trivial, e3⟩
     simp only [kpv, pval, f1, e2, kok, Bool.false_eq_true, if_false]
    ·cases h
  ·cases h
 case h_13 len sz x i =>
  have hx := hγ.tev x
  have hi := hγ.tev i
  split at h
  ·rename_i s c o k n e1 e2
   rw [e1] at hx; rw [e2] at hi
   split at h
   ·rename_i hb
    obtain ⟨rfl, rfl, hl⟩ := lvx h
    cases hx' : (ev (lkF ds.fr) x) with
    | pt q off' =>
      rw [hx'] at hx
      cases hx with
      | px _ _ _ hr =>
        refine ⟨rfl, [0 ≤ n ∧ n < len], .pt (.l s c) (o + n.toNat * sz), ?_, ⟨hb, trivial⟩, .px _ _ _ hr⟩
        simp only [kpv, hx', hi.int (k := k) (n := n) rfl, hl]
    | _ => rw [hx'] at hx; cases hx
   ·cases h
  ·rename_i l o e1
   rw [e1] at hx
   split at h
   ·rename_i k n e2
    cases h
    cases hx' : (ev (lkF ds.fr) x) with
    | ep xs off' =>
      rw [hx'] at hx
      cases hx with
      | gs _ _ _ hxx =>
        refine ⟨rfl, [0 ≤ n ∧ n < len], .ep xs (o + n.toNat * sz), ?_, ?_, .gs _ _ _ hxx⟩
        ·simp only [kpv, hx', hi.int e2]
        ·exact hc
    | _ => rw [hx'] at hx; cases hx
   ·cases h
  ·cases h
 case h_14 x i =>
  have hx := hγ.tev x
  split at h
  ·rename_i l k n e1 e2
   rw [e1] at hx
   cases h
   refine ⟨rfl, _, _, ?_, hc, .it _ _⟩
   simp only [kpv, hx.str, (hγ.tev i).int e2, bAt]
  ·cases h
 case h_15 g len sz x i =>
  have hx := hγ.tev x
  have hi := hγ.tev i
  split at h
  ·rename_i us k n e1 e2
   rw [e1] at hx; rw [e2] at hi
   obtain ⟨vs, f1, t⟩ := hx.agg'
   have t : TL P C ts χ us vs := t
   split at h
   ·rename_i hb
    split at h
    ·cases h
     refine ⟨rfl, [], .agg ((vs.drop (n.toNat * sz)).take sz), ?_, trivial, .agg _ _ ((t.drop _).take sz).1 ((t.drop _).take sz).2⟩
     simp only [kpv, pval, f1, hi.int (k := k) (n := n) rfl, kok, if_true, if_pos hb, Bool.not_true, Bool.false_and]
    ·split at h
     ·rename_i v e3
      cases h
      obtain ⟨v', e4, e5⟩ := t.at' e3
      cases hq : (!false && Nat.beq sz 1 && Nat.ble len vs.length) with
      | false =>
        refine ⟨rfl, [], v', ?_, trivial, e5⟩
        simp only [kpv, pval, f1, hi.int (k := k) (n := n) rfl, e4, kok, hq, Bool.false_eq_true, if_false, if_pos hb]
      | true =>
        refine ⟨rfl, [0 ≤ n ∧ n < len], v', ?_, ⟨hb, trivial⟩, e5⟩
        have h1 : sz = 1 := by simp only [Bool.and_eq_true] at hq; exact nbeq.1 hq.1.2
        subst h1
        rw [Nat.mul_one] at e4
        simp only [kpv, f1, hi.int (k := k) (n := n) rfl, hq, e4, Option.getD_some]
     ·cases h
   ·cases h
  ·rename_i us k n e1 e2
   rw [e1] at hx; rw [e2] at hi
   obtain ⟨vs, f1, t⟩ := hx.agg'
   have t : TL P C ts χ us vs := t
   split at h
   ·rename_i hq
    have hq0 := hq
    simp only [Bool.and_eq_true] at hq
    obtain ⟨e3, e4⟩ := ywZ t h hq.2 hc
    refine ⟨rfl, [0 ≤ n ∧ n < len], _, ?_, by rw [← e3]; exact hc, e4⟩
    rw [← t.1] at hq0
    simp only [kpv, f1, hi.int (k := k) (n := n) rfl, hq0]
   ·cases h
  ·cases h
 case h_16 x i =>
  have hx := hγ.tev x
  split at h
  ·rename_i us e
   rw [e] at hx
   obtain ⟨vs, f1, t⟩ := hx.tup'
   have t : TL P C ts χ us vs := t
   split at h
   ·rename_i v e1
    cases h
    obtain ⟨v', e2, e3⟩ := t.at' e1
    refine ⟨rfl, [], v', ?_, trivial, e3⟩
    simp only [kpv, pval, f1, e2, kok]
   ·cases h
  ·cases h
 case h_17 x =>
  have hx := hγ.tev x
  split at h
  ·rename_i l e
   cases h
   rw [e] at hx
   refine ⟨rfl, [], .it .i64 (l.length : Int), ?_, trivial, .it _ _⟩
   simp only [kpv, pval, hx.str, kok]
  ·cases h
 case h_18 mx xs =>
  split at h
  ·cases h
  ·rename_i x r
   split at h
   ·rename_i k a e1
    split at h
    ·rename_i v e2
     cases h
     obtain ⟨v', e3, e4⟩ := yuz _ _ a w (TL.tev hγ r) e2
     refine ⟨rfl, [], v', ?_, trivial, e4⟩
     simp only [kpv, pval, List.map_cons, (hγ.tev x).int e1, e3, kok]
    ·cases h
   ·cases h
 case h_19 f a c =>
  cases h
  refine ⟨rfl, [], .fn (.func f) (a.map (ev (lkF ds.fr))) (c.map (ev (lkF ds.fr))), ?_, trivial, .fn _ _ _ _ _ (TL.tea hγ a).1 (TL.tea hγ c).1 (TL.tea hγ a).2 (TL.tea hγ c).2⟩
  simp only [kpv, pval, kok]
 case h_20 => cases h
end
end Go.AV
end
noncomputable section
namespace Go.AV
open Go.RowKit Go.RG Go.Lib
variable {K : Nat → Type}
mutual
theorem yoC : ∀ (u : AV), dwk (dwk u) = dwk u
 | .agg cs => by simp only [dwk]; rw [ycI cs]
 | .tup cs => by simp only [dwk]; rw [ycI cs]
 | .fn f a c => by simp only [dwk]; rw [ycI a, ycI c]
 | .sl z n xs => by simp only [dwk]; rw [ycI xs]
 | .ep xs off => by simp only [dwk]; rw [ycI xs]
 | .gs k n => rfl
 | .pt k n => rfl
 | .bl b => rfl
 | .it k n => rfl
 | .st s => rfl
 | .nptr => rfl
 | .nfn => rfl
 | .un => rfl
 | .yld o => rfl
 | .rcd a b c d => rfl
theorem ycI : ∀ (l : List AV), dwks (dwks l) = dwks l
 | [] => rfl
 | x :: l => by simp only [dwks]; rw [yoC x, ycI l]
end
theorem ybX (a b : List AV) : dwks (a ++ b) = dwks a ++ dwks b := by simp [yc5]
theorem ye2 (a : List AV) (n : Nat) : dwks (a.take n) = (dwks a).take n := by simp [yc5, List.map_take]
theorem ygn (a : List AV) (n : Nat) : dwks (a.drop n) = (dwks a).drop n := by simp [yc5, List.map_drop]
mutual
theorem ynZ : ∀ (u : AV), dwk (weak u) = dwk u
 | .agg cs => by simp only [weak, dwk]; rw [yfe cs]
 | .tup cs => by simp only [weak, dwk]; rw [yfe cs]
 | .fn f a c => by simp only [weak, dwk]; rw [yfe a, yfe c]
 | .sl z n xs => rfl
 | .ep xs off => rfl
 | .gs k n => rfl
 | .pt k n => rfl
 | .bl b => rfl
 | .it k n => rfl
 | .st s => rfl
 | .nptr => rfl
 | .nfn => rfl
 | .un => rfl
 | .yld o => rfl
 | .rcd a b c d => rfl
theorem yfe : ∀ (l : List AV), dwks (yhH l) = dwks l
 | [] => rfl
 | x :: l => by simp only [yhH, dwks]; rw [ynZ x, yfe l]
end
theorem ycV {l : List AV} {T : Type} {E : Enc T} {k : List T} (h : dwks l = cl E k) : noLs l = true := by rw [← ydx, h]; exact yAc E k
section
variable {P : Program} {C : Cx K} {R : RR K} {ts ts' : TS K} {χ χ' : Nat → Nat → Bool} {ds : DS}
theorem TR.undwk {u : TV K} {w : AV} (h : TR P C ts χ u w) : ∀ {v : AV}, w = dwk v → TR P C ts χ u v := by
 have hL : ∀ {us : List (TV K)} {ws : List AV}, ws.length = us.length → (∀ (j : Nat) (u : TV K) (w : AV), us[j]? = some u → ws[j]? = some w → ∀ {v : AV}, w = dwk v → TR P C ts χ u v) → ∀ {vs : List AV}, ws = dwks vs → vs.length = us.length ∧ ∀ (j : Nat) (u : TV K) (v : AV), us[j]? = some u → vs[j]? = some v → TR P C ts χ u v := by
  intro us ws hl hh vs e
  subst e
  refine ⟨by rw [← hl, ybG], fun j u v h1 h2 => hh j u (dwk v) h1 (by rw [yc5, List.getElem?_map, h2]; rfl) rfl⟩
 induction h with
 | un w => exact fun _ => .un _
 | lb b => intro v e; cases v <;> simp [dwk] at e; subst e; exact .lb _
 | bl b => intro v e; cases v <;> simp [dwk] at e; subst e; exact .bl _
 | li k n => intro v e; cases v <;> simp [dwk] at e; obtain ⟨rfl, rfl⟩ := e; exact .li _ _
 | it k n => intro v e; cases v <;> simp [dwk] at e; obtain ⟨rfl, rfl⟩ := e; exact .it _ _
 | st s => intro v e; cases v <;> simp [dwk] at e; subst e; exact .st _
 | agg us ws hl _ ih =>
   intro v e
   cases v with
   | agg vs => simp only [dwk, AV.agg.injEq] at e; obtain ⟨a, b⟩ := hL hl ih e; exact .agg us vs a b
   | _ => simp [dwk] at e
 | tup us ws hl _ ih =>
   intro v e
   cases v with
   | tup vs => simp only [dwk, AV.tup.injEq] at e; obtain ⟨a, b⟩ := hL hl ih e; exact .tup us vs a b
   | _ => simp [dwk] at e
 | nil => intro v e; cases v <;> simp [dwk] at e
 | em z =>
   intro v e
   cases v with
   | sl z' n xs =>
     simp only [dwk, AV.sl.injEq] at e
     obtain ⟨_, rfl, e⟩ := e
     have : xs = [] := by cases xs with | nil => rfl | cons => simp [dwks] at e
     subst this; exact .em _
   | _ => simp [dwk] at e
 | sl e0 l z n xs hn hx =>
   intro v e
   cases v with
   | sl z' n' xs' =>
     simp only [dwk, AV.sl.injEq] at e
     obtain ⟨_, rfl, rfl⟩ := e
     exact .sl e0 l _ _ _ hn (by rw [← hx, ycI])
   | _ => simp [dwk] at e
 | rwd s c w hr h h1 => intro v e; subst e; exact .rwd s c v hr h (by rw [← ync]; exact h1)
 | rw s c n hr h hx => intro v e; cases v <;> simp [dwk] at e; obtain ⟨rfl, rfl⟩ := e; exact .rw _ _ _ hr h hx
 | rwn s c hr h hx => intro v e; cases v <;> simp [dwk] at e
 | px s c off hr => intro v e; cases v <;> simp [dwk] at e; obtain ⟨rfl, rfl⟩ := e; exact .px _ _ _ hr
 | pr e0 s c i of hr hx => intro v e; cases v <;> simp [dwk] at e; obtain ⟨rfl, rfl⟩ := e; exact .pr _ _ _ _ _ hr hx
 | ep e0 l i of xs hx =>
   intro v e
   cases v with
   | ep xs' off =>
     simp only [dwk, AV.ep.injEq] at e
     obtain ⟨rfl, rfl⟩ := e
     exact .ep e0 l i of _ (by rw [← hx, ycI])
   | _ => simp [dwk] at e
 | gs l i xs hx =>
   intro v e
   cases v with
   | ep xs' off =>
     simp only [dwk, AV.ep.injEq] at e
     obtain ⟨rfl, rfl⟩ := e
     exact .gs l _ _ (by rw [← hx, ycI])
   | _ => simp [dwk] at e
 | nptr => intro v e; cases v <;> simp [dwk] at e; exact .nptr
 | fn f a c a' c' ha hc _ _ ih ih' =>
   intro v e
   cases v with
   | fn f' a2 c2 =>
     simp only [dwk, AV.fn.injEq] at e
     obtain ⟨rfl, e1, e2⟩ := e
     obtain ⟨p1, p2⟩ := hL ha ih e1
     obtain ⟨q1, q2⟩ := hL hc ih' e2
     exact .fn f a c a2 c2 p1 q1 p2 q2
   | _ => simp [dwk] at e
 | fv ps rs F w h hv => intro v e; subst e; exact .fv ps rs F v h (by rw [← hv, yoC])
 | cn id u w h hn _ ih => intro v e; exact .cn id u v h hn (ih e)
theorem TR.pri {e s c i of : Nat} {v : AV} (h : TR P C ts χ (.pr e s c i of) v) : χ s c = false ∧ v = .pt (.l s c) (i * (C.E e).sz + of) := by cases h; exact ⟨by assumption, rfl⟩
theorem TR.epi {e i of : Nat} {l : List (K e)} {v : AV} (h : TR P C ts χ (.ep e l i of) v) : ∃ xs, dwks xs = cl (C.E e) l ∧ v = .ep xs (i * (C.E e).sz + of) := by cases h; exact ⟨_, by assumption, rfl⟩
theorem yrD : ∀ (l : List Str) {xs : List AV}, dwks xs = l.map .st → xs = l.map .st
 | [], xs, h => by cases xs with | nil => rfl | cons x xs => simp [dwks] at h
 | s :: l, xs, h => by
   cases xs with
   | nil => simp [dwks] at h
   | cons x xs =>
     simp only [dwks, List.map_cons, List.cons.injEq] at h
     rw [yrD l h.2, List.map_cons]
     congr 1
     cases x <;> simp [dwk] at h
     rw [h.1]
theorem TR.gsi {i : Nat} {l : List Str} {v : AV} (h : TR P C ts χ (.gs l i) v) : ∃ xs, dwks xs = l.map .st ∧ v = .ep xs i := by cases h; exact ⟨_, by assumption, rfl⟩
theorem TR.sli {e : Nat} {l : List (K e)} {v : AV} (h : TR P C ts χ (.sl e l) v) : ∃ z xs, dwks xs = cl (C.E e) l ∧ v = .sl z l.length xs := by
 cases h with
 | sl _ _ z n xs hn hx => subst hn; exact ⟨z, xs, hx, rfl⟩
theorem TR.rwi {s c : Nat} {n : Nat} {v : AV} (h : TR P C ts χ (.rw s c) v) (hn : tln (ts.tb s c) = some n) : (χ s c = false ∧ v = .gs (.l s c) n) ∨ (χ s c = true ∧ n = 0 ∧ v = .sl true 0 []) := by
 cases h with
 | rwd _ _ _ _ h => rw [hn] at h; cases h
 | rw _ _ n' _ h hx => rw [hn] at h; cases h; exact .inl ⟨hx, rfl⟩
 | rwn _ _ _ h hx => rw [hn] at h; cases h; exact .inr ⟨hx, rfl, rfl⟩
theorem TR.twk {u : TV K} {v : AV} (h : TR P C ts χ u v) : TR P C ts χ (Go.AV.twk u) (weak v) := by
 have hs := h.s
 unfold Go.AV.twk
 revert hs
 have hnc : ∀ id w, u.s ≠ .cn id w := by
  intro id w e
  cases h with
  | cn id' u v h hn hv => simp only [TV.s] at e; rw [e] at hn; cases hn
  | _ => cases e
 revert hnc
 generalize u.s = w
 intro hnc hs
 cases hs with
 | un v => exact .un _
 | lb b => exact .lb b
 | bl b => exact .bl b
 | li k n => exact .li k n
 | it k n => exact .it k n
 | st s => exact .st s
 | agg us vs hl h => exact .un _
 | tup us vs hl h => exact .un _
 | nil => exact .em _
 | em z => exact .em _
 | sl e l z n xs hn hx => exact .sl e l _ n xs hn hx
 | rwd s c v hr h h1 => exact .un _
 | rw s c n hr h hx => exact .un _
 | rwn s c hr h hx => exact .un _
 | px s c off hr => exact .px s c off hr
 | pr e s c i of hr hx => exact .pr e s c i of hr hx
 | ep e l i of xs hx => exact .ep e l i of xs hx
 | gs l i xs hx => exact .gs l i xs hx
 | nptr => exact .nptr
 | fn f a c a' c' ha hc h h' => exact .un _
 | fv ps rs F v h hv => exact .fv ps rs F _ h (by rw [ynZ]; exact hv)
 | cn id u v h hn hv => exact (hnc _ _ rfl).elim
theorem ydE {e e' : Nat} {l : List (K e)} {l' : List (K e')} (h : ykU e e' l = some l') : ∃ he : e = e', he ▸ l = l' := by
 unfold ykU at h
 split at h
 ·rename_i he; exact ⟨he, Option.some.inj h⟩
 ·cases h
theorem ynl (hC : CxOk P C) {e : Nat} : ∀ (n : Nat) (cs : List (TV K)) (vs : List AV) (l : List (K e)), ytf (C.T e).rd (C.E e).sz n cs = some l → TL P C ts χ cs vs → cs.length = n * (C.E e).sz → dwks vs = cl (C.E e) l ∧ l.length = n
 | 0, cs, vs, l, h, t, hl => by
   cases h
   have : vs = [] := List.eq_nil_of_length_eq_zero (by rw [t.1, hl]; simp)
   subst this; exact ⟨rfl, rfl⟩
 | n + 1, cs, vs, l, h, t, hl => by
   simp only [ytf] at h
   split at h
   ·rename_i x r h1 h2
    cases h
    obtain ⟨a1, a2⟩ := ynl hC n _ (vs.drop (C.E e).sz) r h2 (t.drop _) (by rw [List.length_drop, hl, Nat.add_mul]; omega)
    have b1 := (t.take (C.E e).sz).mapS
    have b2 := hC.rd e _ x ts χ _ h1 (by rw [b1.1]) b1.2
    refine ⟨?_, by simp [a2]⟩
    rw [show cl (C.E e) (x :: r) = (C.E e).c x ++ cl (C.E e) r by simp [cl], ← a1, ← b2, ← ybX, List.take_append_drop]
   ·cases h
theorem GM.trow (hC : CxOk P C) (h : GM P C R ts χ ds) {s c e : Nat} {l : List (K e)} (hr : trow C e (ts.tb s c) = some l) : tln (ts.tb s c) = some l.length ∧ (χ s c = true → l = []) ∧ (χ s c = false → ∃ kb, ds.kb s c = some kb ∧ kb.e = e ∧ kb.sz = (C.E e).sz ∧ dwks kb.cells = cl (C.E e) l) := by
 unfold Go.AV.trow at hr
 split at hr
 ·rename_i e' l' hb
  obtain ⟨rfl, rfl⟩ := ydE hr
  refine ⟨by rw [hb]; rfl, fun hx => ?_, fun hx => ?_⟩
  ·obtain ⟨e2, h2⟩ := h.vi s c hx
   rw [hb] at h2
   cases h2; rfl
  ·obtain ⟨kb, h1, h2⟩ := h.mb s c _ hb hx
   exact ⟨kb, h1, h2⟩
 ·rename_i e' n cs hb
  split at hr
  ·rename_i he
   have := nbeq.1 he; subst this
   have hx := h.lrow hb
   obtain ⟨kb, h1, h2, h3, h4, h5, h6⟩ := h.mb s c _ hb hx
   obtain ⟨a1, a2⟩ := ynl hC n cs kb.cells l hr ⟨h4, h6⟩ h5
   exact ⟨by rw [hb, a2]; rfl, fun q => (by rw [hx] at q; cases q), fun _ => ⟨kb, h1, h2, h3, a1⟩⟩
  ·cases hr
 ·cases hr
theorem ylX (hC : CxOk P C) {e : Nat} {l : List (K e)} {cells : List AV} {i : Nat} {y : K e} (hc : dwks cells = cl (C.E e) l) (hy : l[i]? = some y) : TL P C ts χ ((C.T e).c y) ((cells.drop (i * (C.E e).sz)).take (C.E e).sz) := by
 obtain ⟨c1, c2⟩ := hC.c e y ts χ
 have h1 : dwks ((cells.drop (i * (C.E e).sz)).take (C.E e).sz) = (C.E e).c y := by
  rw [ye2, ygn, hc]
  have := yzj (C.E e) hy 0 (C.E e).sz (by omega)
  rw [Nat.add_zero] at this
  rw [this, List.drop_zero, List.take_of_length_le (by rw [(C.E e).len]; exact Nat.le_refl _)]
 have hlen : ((cells.drop (i * (C.E e).sz)).take (C.E e).sz).length = ((C.T e).c y).length := by
  rw [← c1, ← h1, ybG]
 refine ⟨hlen, fun j u v h2 h3 => ?_⟩
 refine TR.undwk (c2 j u (dwk v) h2 ?_) rfl
 rw [← h1, yc5, List.getElem?_map, h3]; rfl
theorem ym7 {g : Bool} {sz off : Nat} {cs : List (TV K)} {vs : List AV} {u : TV K} (t : TL P C ts χ cs vs) (h : tldc g sz off cs = some u) : ∃ v, kld g sz vs off = some v ∧ TR P C ts χ u v := by
 unfold tldc at h
 split at h
 ·split at h
  ·rename_i hb
   cases h
   have := Nat.le_of_ble_eq_true hb
   refine ⟨.agg ((vs.drop off).take sz), ?_, .agg _ _ ((t.drop off).take sz).1 ((t.drop off).take sz).2⟩
   simp only [kld]
   rw [if_pos (by rw [t.1]; exact this)]
  ·cases h
 ·obtain ⟨v, h1, h2⟩ := t.at' h
  exact ⟨v, h1, h2⟩
theorem yvR {e : Nat} {l : List (K e)} {cells : List AV} {i : Nat} {y : K e} (hc : dwks cells = cl (C.E e) l) (hy : l[i]? = some y) : i * (C.E e).sz ≤ cells.length := by
 rw [← ybG cells, hc, yi8]
 exact Nat.mul_le_mul_right _ (Nat.le_of_lt (List.getElem?_eq_some_iff.1 hy).1)
theorem yvM {g : Bool} {w of o sz : Nat} {cells : List AV} {v : AV} (hoo : o ≤ cells.length) (hw : (g = true → of + w ≤ sz) ∧ (g = false → of < sz)) (h : kld g w ((cells.drop o).take sz) of = some v) : kld g w cells (o + of) = some v := by
 cases g with
 | true =>
   simp only [kld] at h ⊢
   split at h
   ·rename_i hle
    cases h
    have h1 := hw.1 rfl
    simp only [List.length_take, List.length_drop] at hle
    rw [if_pos (by omega)]
    congr 2
    rw [List.drop_take, List.drop_drop, List.take_take]
    congr 1
    omega
   ·cases h
 | false =>
   simp only [kld] at h ⊢
   have h1 := hw.2 rfl
   rw [List.getElem?_take, if_pos h1, List.getElem?_drop] at h
   exact h
theorem yte {g : Bool} {w of : Nat} {cs : List (TV K)} {u : TV K} (h : tldc g w of cs = some u) : (g = true → of + w ≤ cs.length) ∧ (g = false → of < cs.length) := by
 unfold tldc at h
 split at h
 ·split at h
  ·rename_i hb; exact ⟨fun _ => Nat.le_of_ble_eq_true hb, fun e => by cases e⟩
  ·cases h
 ·exact ⟨fun e => by (cases e), fun _ => (List.getElem?_eq_some_iff.1 h).1⟩
variable (P C R) in
def SR (o : AO) (ts : TS K) (ds : DS) (X : TS K → Prop) : Prop := ∃ e ds' ts' χ', Eff o.op o.dst ds e ds' ∧ (∀ p ∈ e.mem, p.1 ∈ twk' ts o) ∧ e.H = none ∧ GM P C R ts' χ' ds' ∧ X ts' ∧ ts'.rg = ts.rg
theorem ycl (ts : TS K) (d : Option Nat) (u : TV K) : (ts.put d u).rg = ts.rg := by cases d <;> rfl
theorem yp5 {g : Bool} {sz : Nat} {x : AOpd} {d : Option Nat} {v : AV} (hk : DOk ds) (h : (∃ s c off b, ev (lkF ds.fr) x = .pt (.l s c) off ∧ ds.kb s c = some b ∧ kld g sz b.cells off = some v) ∨ ∃ xs off, ev (lkF ds.fr) x = .ep xs off ∧ kld g sz xs off = some v) : Eff (.ld g sz x) d ds (eff1 v) (ds.put d v) := by
 refine yq5 (C := []) ?_ trivial hk
 rcases h with ⟨s, c, off, b, h1, h2, h3⟩ | ⟨xs, off, h1, h2⟩
 ·simp only [kx, h1, h2, h3]
 ·simp only [kx, h1, h2]
theorem ygf {o : AO} {X : TS K → Prop} {u : TV K} {v : AV} (hγ : GM P C R ts χ ds) (hv : TR P C ts χ u v) (he : Eff o.op o.dst ds (eff1 v) (ds.put o.dst v)) (hX : X (ts.put o.dst u)) : SR P C R o ts ds X :=
 ⟨_, _, _, χ, he, fun p hp => (by cases hp), rfl, hγ.put hv, hX, ycl _ _ _⟩
theorem yzz (hC : CxOk P C) (hγ : GM P C R ts χ ds) (hk : DOk ds) {o : AO} {g : Bool} {sz : Nat} {x : AOpd} {X : TS K → Prop} (ho : o.op = .ld g sz x) (h : tld C g sz ts (fun v => X (ts.put o.dst v)) (tev ts.fr x)) : SR P C R o ts ds X := by
 have hx := hγ.tev x
 have pxc : ∀ {s c off : Nat} {cs : List (TV K)} {kb : KB}, tev ts.fr x = .px s c off → ds.kb s c = some kb → TL P C ts χ cs kb.cells → wpo' (tldc g sz off cs) (fun v => X (ts.put o.dst v)) → SR P C R o ts ds X := by
  intro s c off cs kb e h1 t hw
  obtain ⟨u, h2, hX⟩ := ydB hw
  rw [e] at hx
  obtain ⟨v, h3, h4⟩ := ym7 t h2
  exact ygf hγ h4 (by rw [ho]; exact yp5 hk (.inl ⟨s, c, off, kb, hx.pxi, h1, h3⟩)) hX
 unfold tld at h
 split at h
 ·rename_i s c off e
  split at h
  ·rename_i e' cs hb
   obtain ⟨kb, h1, _, _, h4, h5⟩ := hγ.mb s c _ hb (hγ.box hb)
   exact pxc e h1 ⟨h4, h5⟩ h
  ·rename_i e' n cs hb
   obtain ⟨kb, h1, _, _, h4, _, h5⟩ := hγ.mb s c _ hb (hγ.lrow hb)
   exact pxc e h1 ⟨h4, h5⟩ h
  ·exact h.elim
 ·rename_i e' s c i of e
  obtain ⟨l, hl, y, hy, hw⟩ := ydB h
  obtain ⟨u, h2, hX⟩ := ydB hw
  rw [e] at hx
  have hx' := hx.pri
  obtain ⟨kb, k1, k2, k3, k4⟩ := (hγ.trow hC hl).2.2 hx'.1
  have t := ylX (P := P) (ts := ts) (χ := χ) hC k4 hy
  obtain ⟨v, h3, h4⟩ := ym7 t h2
  have hin := yte h2
  rw [← (hC.c e' y ts χ).1, (C.E e').len] at hin
  exact ygf hγ h4 (by rw [ho]; exact yp5 hk (.inl ⟨s, c, _, kb, hx'.2, k1, yvM (yvR k4 hy) hin h3⟩)) hX
 ·rename_i e' l i of e
  obtain ⟨y, hy, hw⟩ := h
  obtain ⟨u, h2, hX⟩ := ydB hw
  rw [e] at hx
  obtain ⟨xs, hxs, hev⟩ := hx.epi
  have t := ylX (P := P) (ts := ts) (χ := χ) hC hxs hy
  obtain ⟨v, h3, h4⟩ := ym7 t h2
  have hin := yte h2
  rw [← (hC.c e' y ts χ).1, (C.E e').len] at hin
  exact ygf hγ h4 (by rw [ho]; exact yp5 hk (.inr ⟨xs, _, hev, yvM (yvR hxs hy) hin h3⟩)) hX
 ·rename_i l i e
  rw [e] at hx
  obtain ⟨xs, hxs, hev⟩ := hx.gsi
  obtain rfl := yrD l hxs
  split at h
  ·split at h
   ·rename_i hb
    have hb := Bool.and_eq_true_iff.1 hb
    have hi : i = 0 := nbeq.1 hb.1
    have hs : sz = (l.map AV.st).length := by rw [List.length_map]; exact nbeq.1 hb.2
    have hkl : kld true sz (l.map AV.st) i = some (.agg (l.map .st)) := by
     simp only [kld, hi, hs, List.drop_zero, List.take_length]
     first | done | simp
    refine ygf (v := .agg (l.map .st)) hγ ?_ (by rw [ho]; exact yp5 hk (.inr ⟨_, _, hev, hkl⟩)) h
    refine .agg _ _ (by simp) fun j u v h1 h2 => ?_
    rw [List.getElem?_map] at h1 h2
    cases hj : l[j]? with
    | none => rw [hj] at h1; cases h1
    | some s => rw [hj] at h1 h2; cases h1; cases h2; exact .st s
   ·exact h.elim
  ·obtain ⟨y, hy, hX⟩ := h
   have hkl : kld false sz (l.map AV.st) i = some (.st y) := by
    simp only [kld, List.getElem?_map, hy, Option.map_some]
   exact ygf (v := .st y) hγ (.st y) (by rw [ho]; exact yp5 hk (.inr ⟨_, _, hev, hkl⟩)) hX
 ·exact h.elim
theorem ybT (p : Nat × Option (TB K)) (r : List (Nat × Option (TB K))) (t : Nat) : lkB (p :: r) t = if p.1 = t then p.2 else lkB r t := by
 show (match Nat.beq p.1 t with | true => p.2 | false => lkB r t) = _
 cases h : Nat.beq p.1 t with
 | true => simp [nbeq.1 h]
 | false => simp only; rw [if_neg (fun e => by rw [nbeq.2 e] at h; cases h)]
theorem yce (ts : TS K) (q c : Nat) (b : Option (TB K)) (hc : c = 1 ∨ c = 2) (s c' : Nat) : (ts.setb q c b).tb s c' = if s = q ∧ c' = c then b else ts.tb s c' := by
 have h1 : ∀ (ts : TS K) (s : Nat), ts.tb s 1 = lkB ts.od s := fun _ _ => rfl
 have h2 : ∀ (ts : TS K) (s : Nat), ts.tb s 2 = lkB ts.nw s := fun _ _ => rfl
 have h3 : ∀ (ts : TS K) (s : Nat) (c : Nat), c ≠ 1 → c ≠ 2 → ts.tb s c = none := by
  intro ts s c n1 n2
  unfold TS.tb
  cases e1 : Nat.beq c 1 with
  | true => exact absurd (nbeq.1 e1) n1
  | false => cases e2 : Nat.beq c 2 with
    | true => exact absurd (nbeq.1 e2) n2
    | false => rfl
 by_cases k1 : c' = 1
 ·subst k1
  rw [h1, h1]
  rcases hc with rfl | rfl
  ·show lkB ((q, b) :: ts.od) s = _
   rw [ybT]
   by_cases e : q = s
   ·subst e; simp
   ·rw [if_neg e, if_neg (fun x => e x.1.symm)]
  ·rw [if_neg (fun x => by cases x.2)]; rfl
 ·by_cases k2 : c' = 2
  ·subst k2
   rw [h2, h2]
   rcases hc with rfl | rfl
   ·rw [if_neg (fun x => by cases x.2)]; rfl
   ·show lkB ((q, b) :: ts.nw) s = _
    rw [ybT]
    by_cases e : q = s
    ·subst e; simp
    ·rw [if_neg e, if_neg (fun x => e x.1.symm)]
  ·rw [h3 _ _ _ k1 k2, h3 _ _ _ k1 k2, if_neg]
   rintro ⟨_, rfl⟩
   rcases hc with rfl | rfl
   ·exact k1 rfl
   ·exact k2 rfl
def updχ (χ : Nat → Nat → Bool) (s c : Nat) (v : Bool) : Nat → Nat → Bool := fun s' c' => if s' = s ∧ c' = c then v else χ s' c'
theorem yc4 (ts : TS K) (q c : Nat) (b : Option (TB K)) : (ts.setb q c b).rg = ts.rg := by unfold TS.setb; split <;> rfl
theorem yrJ (ts : TS K) (q c : Nat) (b : Option (TB K)) : (ts.setb q c b).h = ts.h := by unfold TS.setb; split <;> rfl
theorem yod (ts : TS K) (q c : Nat) (b : Option (TB K)) : (ts.setb q c b).fr = ts.fr := by unfold TS.setb; split <;> rfl
theorem yk5 (ts : TS K) (q c : Nat) (b : Option (TB K)) (hc : c = 1 ∨ c = 2) {s c' : Nat} (h : okr ts s c') : okr (ts.setb q c b) s c' := by
 rcases h with h | ⟨h1, h2⟩
 ·exact .inl h
 ·refine .inr ⟨h1, ?_⟩
  rcases hc with rfl | rfl
  ·exact h2
  ·show (Nat.beq q s || memB ts.nw s) = true
   rw [h2, Bool.or_true]
theorem Mono.setb {s c : Nat} {b : Option (TB K)} {v : Bool} (hc : c = 1 ∨ c = 2) (h : okr ts s c → (tln b = none ∧ v = false) ∨ (tln b = tln (ts.tb s c) ∧ v = χ s c)) : Mono ts (ts.setb s c b) χ (updχ χ s c v) := by
 refine ⟨fun id u q => by rw [yc4]; exact q, fun s' c' q => yk5 ts s c b hc q, fun s' c' q => ?_⟩
 rw [yce ts s c b hc]
 unfold updχ
 by_cases e : s' = s ∧ c' = c
 ·obtain ⟨rfl, rfl⟩ := e
  simpa using h q
 ·rw [if_neg e, if_neg e]; exact .inr ⟨rfl, rfl⟩
theorem GM.setb {s c : Nat} {b : Option (TB K)} {kb : Option KB} (hγ : GM P C R ts χ ds) (hc : c = 1 ∨ c = 2) (hm : Mono ts (ts.setb s c b) χ (updχ χ s c false)) (hb : ∀ b', b = some b' → ∃ k', kb = some k' ∧ MR P C ts χ b' k') (hl : ∀ b', b = some b' → c = 1 → 2000000 ≤ s → R.L s = false) : GM P C R (ts.setb s c b) (updχ χ s c false) (ds.set s c kb) := by
 refine ⟨fun t => ?_, fun s' c' b' h1 h2 => ?_, fun s' c' h1 => ?_, fun s' h1 => ?_, by rw [yrJ, ywV, ym1]; exact hγ.hp, fun s' b9 q9 e9 => ?_⟩
 rotate_right
 ·rw [yce ts s c _ hc] at e9
  unfold updχ
  by_cases e : s' = s ∧ 1 = c
  ·rw [if_pos e] at e9 ⊢; obtain ⟨rfl, e2⟩ := e; exact hl b9 e9 e2.symm q9
  ·rw [if_neg e] at e9 ⊢; exact hγ.lv s' b9 q9 e9
 ·rw [yod, yp6]; exact (hγ.fr t).mono hm
 ·rw [yce ts s c b hc] at h1
  rw [ypX ds s c kb hc]
  unfold updχ at h2
  by_cases e : s' = s ∧ c' = c
  ·rw [if_pos e] at h1 ⊢
   obtain ⟨k', q1, q2⟩ := hb b' h1
   exact ⟨k', q1, q2.mono hm⟩
  ·rw [if_neg e] at h1 h2 ⊢
   obtain ⟨k', q1, q2⟩ := hγ.mb s' c' b' h1 h2
   exact ⟨k', q1, q2.mono hm⟩
 ·unfold updχ at h1
  rw [yce ts s c b hc]
  by_cases e : s' = s ∧ c' = c
  ·rw [if_pos e] at h1; cases h1
  ·rw [if_neg e] at h1 ⊢; exact hγ.vi s' c' h1
 ·rcases hc with rfl | rfl
  ·exact hγ.nw s' h1
  ·have h1' : (Nat.beq s s' || memB ts.nw s') = false := h1
   simp only [Bool.or_eq_false_iff] at h1'
   show (Nat.beq s s' || memO ds.nw s') = false
   rw [h1'.1, hγ.nw s' h1'.2]; rfl
theorem GM.setv {s e : Nat} (hγ : GM P C R ts χ ds) (hn : memB ts.nw s = false) : GM P C R (ts.setb s 2 (some (.row e []))) (updχ χ s 2 true) ds := by
 have hm : Mono ts (ts.setb s 2 (some (.row e []))) χ (updχ χ s 2 true) := Mono.setb (.inr rfl) (fun q => by
  rcases q with q | ⟨_, q⟩
  ·cases q
  ·rw [hn] at q; cases q)
 refine ⟨fun t => ?_, fun s' c' b' h1 h2 => ?_, fun s' c' h1 => ?_, fun s' h1 => ?_, by rw [yrJ]; exact hγ.hp, fun s' b9 q9 e9 => ?_⟩
 rotate_right
 ·rw [yce ts s 2 _ (.inr rfl)] at e9
  unfold updχ
  by_cases e : s' = s ∧ 1 = 2
  ·cases e.2
  ·rw [if_neg e] at e9 ⊢; exact hγ.lv s' b9 q9 e9
 ·rw [yod]; exact (hγ.fr t).mono hm
 ·rw [yce ts s 2 _ (.inr rfl)] at h1
  unfold updχ at h2
  by_cases e : s' = s ∧ c' = 2
  ·rw [if_pos e] at h2; cases h2
  ·rw [if_neg e] at h1 h2
   obtain ⟨k', q1, q2⟩ := hγ.mb s' c' b' h1 h2
   exact ⟨k', q1, q2.mono hm⟩
 ·unfold updχ at h1
  rw [yce ts s 2 _ (.inr rfl)]
  by_cases e : s' = s ∧ c' = 2
  ·rw [if_pos e]; exact ⟨_, rfl⟩
  ·rw [if_neg e] at h1 ⊢; exact hγ.vi s' c' h1
 ·have h1' : (Nat.beq s s' || memB ts.nw s') = false := h1
  simp only [Bool.or_eq_false_iff] at h1'
  exact hγ.nw s' h1'.2
theorem tb_c {s c : Nat} {b : TB K} (h : ts.tb s c = some b) : c = 1 ∨ c = 2 := by
 unfold TS.tb at h
 split at h
 ·rename_i e; exact .inl (nbeq.1 e)
 ·split at h
  ·rename_i e; exact .inr (nbeq.1 e)
  ·cases h
theorem yfO : ∀ {l : List (Nat × Option (TB K))} {s : Nat} {b : TB K}, lkB l s = some b → memB l s = true
 | [], _, _, h => by cases h
 | p :: r, s, b, h => by
   rw [ybT] at h
   show (Nat.beq p.1 s || memB r s) = true
   split at h
   ·rename_i e; rw [nbeq.2 e]; rfl
   ·rw [yfO h, Bool.or_true]
theorem yx5 {s c : Nat} {b : TB K} (h : ts.tb s c = some b) : okr ts s c := by
 rcases tb_c h with rfl | rfl
 ·exact .inl rfl
 ·exact .inr ⟨rfl, yfO h⟩
theorem ymV {cs vs : List (TV K)} {cs' vs' : List AV} {off sz : Nat} (h : TL P C ts χ cs cs') (k : TL P C ts χ vs vs') (hs : vs.length = sz) : TL P C ts χ (yhw cs off vs) (cs'.take off ++ vs' ++ cs'.drop (off + sz)) := by
 unfold yhw
 rw [hs]
 exact ((h.take off).app k).app (h.drop _)
theorem yua {sz : Nat} {x y : AOpd} {d : Option Nat} {s c off : Nat} {b : KB} (hk : DOk ds) (h1 : ev (lkF ds.fr) x = .pt (.l s c) off) (h2 : ds.kb s c = some b) (h3 : (ev (lkF ds.fr) y).cells.length = sz) (h4 : (ev (lkF ds.fr) y).cells.all AV.one = true) (h5 : off + sz ≤ b.cells.length) :
  Eff (.sto sz x y) d ds ⟨.un, [((s, c), some ⟨b.e, b.sz, b.cells.take off ++ (ev (lkF ds.fr) y).cells ++ b.cells.drop (off + sz)⟩)], [], none⟩ ((ds.set s c (some ⟨b.e, b.sz, b.cells.take off ++ (ev (lkF ds.fr) y).cells ++ b.cells.drop (off + sz), false⟩)).put d .un) := by
 refine yq5 (C := []) ?_ trivial hk
 simp only [kx, h1, h2]
 rw [if_pos ⟨h3, h4, h5⟩]
theorem yxC (hC : CxOk P C) (hγ : GM P C R ts χ ds) (hk : DOk ds) {o : AO} {sz : Nat} {x y : AOpd} {X : TS K → Prop} (ho : o.op = .sto sz x y) (h : tsto C sz ts (tcl (tea ts.fr y)) (fun t => X (t.put o.dst .un)) (tev ts.fr x)) : SR P C R o ts ds X := by
 have hx := hγ.tev x
 unfold tsto at h
 split at h
 ·rename_i s c off e
  rw [e] at hx
  split at h
  ·rename_i e' cs hb
   split at h
   ·rename_i hc
    simp only [Bool.and_eq_true] at hc
    obtain ⟨⟨c1, c2⟩, c3⟩ := hc
    have c1 := nbeq.1 c1
    obtain ⟨t1, t2⟩ := (hγ.tea y).tcl c2
    have hχ := hγ.box hb
    obtain ⟨kb, k1, k2, k3, k4, k5⟩ := hγ.mb s c _ hb hχ
    have hE := yua (sz := sz) (d := o.dst) hk hx.pxi k1 (by rw [t1.1, c1]) t2 (by rw [k4]; exact Nat.le_of_ble_eq_true c3)
    have hm : Mono ts (ts.setb s c (some (.box e' (yhw cs off (tcl (tea ts.fr y)))))) χ (updχ χ s c false) := Mono.setb (tb_c hb) (fun _ => .inl ⟨rfl, rfl⟩)
    have hsp := ymV (off := off) (show TL P C ts χ cs kb.cells from ⟨k4, k5⟩) t1 c1
    have hlen : (yhw cs off (tcl (tea ts.fr y))).length = cs.length := by
     have := Nat.le_of_ble_eq_true c3
     unfold yhw
     simp only [List.length_append, List.length_take, List.length_drop, c1]; omega
    refine ⟨_, _, _, _, by rw [ho]; exact hE, fun p hp => ?_, rfl, (hγ.setb (tb_c hb) hm (fun b' hb' => ⟨_, rfl, ?_⟩) fun _ _ e9 q9 => by subst e9; exact (hγ.lv _ _ q9 hb).trans hχ).put (.un _), h, by rw [ycl, yc4]⟩
    ·simp only [List.mem_singleton] at hp; subst hp; simp only [twk', ho, e, trf, List.mem_singleton]
    ·cases hb'
     exact ⟨k2, by rw [hlen]; exact k3, hsp.1, hsp.2⟩
   ·exact h.elim
  ·exact h.elim
 ·rename_i e' s c i of e
  rw [e] at hx
  split at h
  ·rename_i hc
   simp only [Bool.and_eq_true] at hc
   obtain ⟨⟨c1, c2⟩, c4⟩ := hc
   have c1 := nbeq.1 c1
   have c4 := Nat.le_of_ble_eq_true c4
   obtain ⟨t1, t2⟩ := (hγ.tea y).tcl c2
   obtain ⟨l, hl, y0, hy, hw⟩ := ydB h
   obtain ⟨y', hy', hX⟩ := ydB hw
   obtain ⟨hχ, hev⟩ := hx.pri
   obtain ⟨hln, _, hkb⟩ := hγ.trow hC hl
   obtain ⟨kb, k1, k2, k3, k4⟩ := hkb hχ
   have hil : i < l.length := (List.getElem?_eq_some_iff.1 hy).1
   have hclen : kb.cells.length = l.length * (C.E e').sz := by rw [← ybG kb.cells, k4, yi8]
   have hoff : i * (C.E e').sz + of + sz ≤ kb.cells.length := by
    rw [hclen]
    have : (i + 1) * (C.E e').sz ≤ l.length * (C.E e').sz := Nat.mul_le_mul_right _ hil
    rw [Nat.add_mul] at this
    omega
   have hE := yua (sz := sz) (d := o.dst) hk hev k1 (by rw [t1.1, c1]) t2 hoff
   have hbt : ∃ b0, ts.tb s c = some b0 := by
    cases hq : ts.tb s c with
    | none => rw [hq] at hln; cases hln
    | some b0 => exact ⟨b0, rfl⟩
   obtain ⟨b0, hb0⟩ := hbt
   have hm : Mono ts (ts.setb s c (some (.row e' (l.set i y')))) χ (updχ χ s c false) := Mono.setb (tb_c hb0) (fun _ => .inr ⟨by rw [hln]; simp [tln], hχ.symm⟩)
   have hcells : dwks (kb.cells.take (i * (C.E e').sz + of) ++ (ev (lkF ds.fr) y).cells ++ kb.cells.drop (i * (C.E e').sz + of + sz)) = cl (C.E e') (l.set i y') := by
    have tt := ymV (off := of) (ylX (P := P) (ts := ts) (χ := χ) hC k4 hy) t1 c1
    have hd := hC.rd e' _ y' ts χ _ hy' (by rw [tt.mapS.1]) tt.mapS.2
    rw [ybX, ybX, ye2, ygn] at hd
    rw [ybX, ybX, ye2, ygn, k4]
    have hch : dwks ((kb.cells.drop (i * (C.E e').sz)).take (C.E e').sz) = (C.E e').c y0 := by
     rw [ye2, ygn, k4]
     have := yzj (C.E e') hy 0 (C.E e').sz (by omega)
     rw [Nat.add_zero] at this
     rw [this, List.drop_zero, List.take_of_length_le (by rw [(C.E e').len]; exact Nat.le_refl _)]
    rw [hch] at hd
    refine yx9 (C.E e') hy of sz c4 ?_
    exact hd
   refine ⟨_, _, _, _, by rw [ho]; exact hE, fun p hp => ?_, rfl, (hγ.setb (tb_c hb0) hm (fun b' hb' => ⟨_, rfl, ?_⟩) fun _ _ e9 q9 => by subst e9; exact (hγ.lv _ _ q9 hb0).trans hχ).put (.un _), hX, by rw [ycl, yc4]⟩
   ·simp only [List.mem_singleton] at hp; subst hp; simp only [twk', ho, e, trf, List.mem_singleton]
   ·cases hb'
    exact ⟨k2, k3, hcells⟩
  ·exact h.elim
 ·exact h.elim
end
end Go.AV
end
noncomputable section
namespace Go.AV
open Go.RowKit Go.RG Go.Lib
variable {K : Nat → Type}
section
variable {P : Program} {C : Cx K} {R : RR K} {ts ts' : TS K} {χ χ' : Nat → Nat → Bool} {ds : DS}
theorem yfi {d : Nat} {p : Prop} (h : ylC ts d p) : memB ts.nw d = false ∧ p := by
 unfold ylC at h
 split at h
 ·exact h.elim
 ·rename_i e; exact ⟨e, h⟩
theorem yrA {s : Nat} (h : memB ts.nw s = false) : ¬ okr ts s 2 := by
 rintro (q | ⟨_, q⟩)
 ·cases q
 ·rw [h] at q; cases q
theorem Mono.new {s : Nat} {b : Option (TB K)} {v : Bool} (h : memB ts.nw s = false) : Mono ts (ts.setb s 2 b) χ (updχ χ s 2 v) := Mono.setb (.inr rfl) (fun q => (yrA h q).elim)
theorem ynj (ts : TS K) (s : Nat) (b : Option (TB K)) : okr (ts.setb s 2 b) s 2 := .inr ⟨rfl, by show (Nat.beq s s || memB ts.nw s) = true; rw [nbeq.2 rfl]; rfl⟩
theorem yty {o : AO} {X : TS K → Prop} {b : TB K} {kb : KB} {w : Nat → TV K} {v : AV} {e : REff} (hγ : GM P C R ts χ ds) (hn : memB ts.nw (site o.dst) = false) (hE : Eff o.op o.dst ds e ((ds.set (site o.dst) 2 (some kb)).put o.dst v))
  (he : ∀ p ∈ e.mem, p.1 ∈ twk' ts o) (hH : e.H = none) (hM : MR P C ts χ b kb) (hv : okr (ts.setb (site o.dst) 2 (some b)) (site o.dst) 2 → TR P C (ts.setb (site o.dst) 2 (some b)) (updχ χ (site o.dst) 2 false) (w (site o.dst)) v) (hX : X (tnew ts o.dst b w)) : SR P C R o ts ds X := by
 have hg := hγ.setb (s := site o.dst) (c := 2) (b := some b) (kb := some kb) (.inr rfl) (Mono.new hn) (fun b' hb' => ⟨kb, rfl, by cases hb'; exact hM⟩) (fun _ _ e9 _ => by cases e9)
 exact ⟨e, _, _, _, hE, he, hH, hg.put (hv (ynj _ _ _)), hX, by rw [ycl, yc4]⟩
theorem yhY (χ : Nat → Nat → Bool) (s c : Nat) (v : Bool) : updχ χ s c v s c = v := by simp [updχ]
theorem yqd (ts : TS K) (s : Nat) (b : Option (TB K)) : (ts.setb s 2 b).tb s 2 = b := by rw [yce ts s 2 b (.inr rfl)]; simp
theorem yxu (hγ : GM P C R ts χ ds) (hk : DOk ds) {F : Cf K} {o : AO} {e sz : Nat} {x : AOpd} {X : TS K → Prop} {dr : Bool} (ho : o.op = .box e sz x) (h : step F dr o ts X) : SR P C R o ts ds X := by
 unfold step at h
 rw [ho] at h
 simp only at h
 split at h
 ·rename_i hc
  simp only [Bool.and_eq_true] at hc
  obtain ⟨⟨c1, c2⟩, c3⟩ := hc
  obtain ⟨hn, hX⟩ := yfi h
  obtain ⟨t1, t2⟩ := (hγ.tea x).tcl c2
  have c1 := nbeq.1 c1
  have hE : Eff o.op o.dst ds ⟨.pt (.l (site o.dst) 2) 0, [((site o.dst, 2), some ⟨e, sz, (ev (lkF ds.fr) x).cells⟩)], [site o.dst], none⟩ ((ds.set (site o.dst) 2 (some ⟨e, sz, (ev (lkF ds.fr) x).cells, false⟩)).put o.dst (.pt (.l (site o.dst) 2) 0)) := by
   rw [ho]
   refine yq5 (C := []) ?_ trivial hk
   simp only [kx, hγ.nw _ hn]
   rw [if_pos ⟨by rw [t1.1, c1], t2, Nat.le_of_ble_eq_true c3⟩]
  refine yty (b := .box e (Go.AV.tcl (Go.AV.tea ts.fr x))) (w := fun s => .px s 2 0) hγ hn hE (fun p hp => ?_) rfl ⟨rfl, c1.symm, t1.1, t1.2⟩ (fun q => .px _ _ _ q) hX
  simp only [List.mem_singleton] at hp; subst hp; simp [twk', ho]
 ·exact h.elim
theorem ypm : ∀ (l : List (Nat × Nat × TV K)) (cells cs : List (TV K)), yq1 cells l = some cs → cs.length = cells.length
 | [], cells, cs, h => by cases h; rfl
 | (off, sz, v) :: l, cells, cs, h => by
   simp only [yq1] at h
   split at h
   ·rename_i hc
    simp only [Bool.and_eq_true] at hc
    have c1 := nbeq.1 hc.1.1
    have c2 := Nat.le_of_ble_eq_true hc.1.2
    rw [ypm l _ cs h]
    simp only [List.length_append, List.length_take, List.length_drop, c1]; omega
   ·cases h
theorem TL.rep {us : List (TV K)} {vs : List AV} (h : TL P C ts χ us vs) : ∀ n, TL P C ts χ (List.replicate n us).flatten (List.replicate n vs).flatten
 | 0 => .nil
 | n + 1 => by rw [List.replicate_succ, List.replicate_succ, List.flatten_cons, List.flatten_cons]; exact h.app (TL.rep h n)
theorem ytD {α : Type} (z : List α) : ∀ n, (List.replicate n z).flatten.length = n * z.length
 | 0 => by simp
 | n + 1 => by rw [List.replicate_succ, List.flatten_cons, List.length_append, ytD z n, Nat.add_mul]; omega
theorem TL.twk {us : List (TV K)} {vs : List AV} (h : TL P C ts χ us vs) : TL P C ts χ (us.map Go.AV.twk) (vs.map weak) := by
 refine ⟨by simp [h.1], fun j u v h1 h2 => ?_⟩
 rw [List.getElem?_map] at h1 h2
 obtain ⟨u', e1, rfl⟩ := Option.map_eq_some_iff.1 h1
 obtain ⟨v', e2, rfl⟩ := Option.map_eq_some_iff.1 h2
 exact (h.2 j u' v' e1 e2).twk
theorem ywM (hγ : GM P C R ts χ ds) (hk : DOk ds) {F : Cf K} (hF : F.C = C) {o : AO} {e sz n : Nat} {z : List AV} {parts : List (Nat × Nat × AOpd)} {X : TS K → Prop} {dr : Bool} (ho : o.op = .bsl e sz n z parts) (h : step F dr o ts X) : SR P C R o ts ds X := by
 unfold step at h
 rw [ho, hF] at h
 simp only at h
 split at h
 ·rename_i hc
  simp only [Bool.and_eq_true] at hc
  obtain ⟨⟨c1, c2⟩, c3⟩ := hc
  have c1 := nbeq.1 c1
  have c2 := nbeq.1 c2
  have c3 := Nat.le_of_ble_eq_true c3
  obtain ⟨hn, h⟩ := yfi h
  obtain ⟨cs, hcs, hX⟩ := ydB h
  obtain ⟨cs', e2, t⟩ := ynD (P := P) (C := C) (ts := ts) (χ := χ) _ (parts.map fun p => (p.1, p.2.1, ev (lkF ds.fr) p.2.2)) _ (ycu z n) _ (TL.rep (TL.cvAs z) n) (by simp) (fun j p q a b => by
   rw [List.getElem?_map] at a b
   cases hp : parts[j]? with
   | none => rw [hp] at a; cases a
   | some r => rw [hp] at a b; cases a; cases b; exact ⟨rfl, rfl, hγ.tea _⟩) hcs
  have hz : 0 < sz := by rw [← c2]; exact (C.E e).pos
  have hE : Eff o.op o.dst ds ⟨.gs (.l (site o.dst) 2) n, [((site o.dst, 2), some ⟨e, sz, cs'.map weak⟩)], [site o.dst], none⟩ ((ds.set (site o.dst) 2 (some ⟨e, sz, cs'.map weak, false⟩)).put o.dst (.gs (.l (site o.dst) 2) n)) := by
   rw [ho]
   refine yq5 (C := []) ?_ trivial hk
   simp only [kx, hγ.nw _ hn, e2]
   rw [if_pos ⟨c1, hz, c3⟩]
  have hcl : cs.length = n * sz := by rw [ypm _ _ _ hcs, ytD]; rw [← (TL.cvAs (P := P) (C := C) (ts := ts) (χ := χ) z).1, c1]
  refine yty (b := .lrow e n (cs.map Go.AV.twk)) (w := trw) hγ hn hE (fun p hp => ?_) rfl ⟨rfl, c2.symm, (TL.twk t).1, by simp [hcl, c2], (TL.twk t).2⟩ (fun q => .rw _ _ n q (by rw [yqd]; rfl) (yhY _ _ _ _)) hX
  simp only [List.mem_singleton] at hp; subst hp; simp [twk', ho]
 ·exact h.elim
theorem yzh {x y : AOpd} {k k' : IntKind} {n m : Int} (h : eqO x y = true) (hx : ev (lkF ds.fr) x = .it k n) (hy : ev (lkF ds.fr) y = .it k' m) : n = m := by
 unfold eqO at h
 split at h
 ·have := nbeq.1 h; subst this; rw [hx] at hy; cases hy; rfl
 ·have := of_decide_eq_true h
  simp only [ev] at hx hy
  cases hx; cases hy; exact this
 ·cases h
theorem yvS {T : Type} (E : Enc T) (v : T) : ∀ n, cl E (List.replicate n v) = (List.replicate n (E.c v)).flatten
 | 0 => rfl
 | n + 1 => by rw [List.replicate_succ, List.replicate_succ, List.flatten_cons, ← yvS E v n]; simp [cl]
theorem yrX (z : List AV) : ∀ n, dwks (List.replicate n z).flatten = (List.replicate n (dwks z)).flatten
 | 0 => rfl
 | n + 1 => by rw [List.replicate_succ, List.replicate_succ, List.flatten_cons, List.flatten_cons, ybX, yrX z n]
theorem ywv (hC : CxOk P C) (hγ : GM P C R ts χ ds) (hk : DOk ds) {F : Cf K} (hF : F.C = C) {o : AO} {e sz bytes : Nat} {z : List AV} {x y : AOpd} {X : TS K → Prop} {dr : Bool} (ho : o.op = .mks e sz bytes z x y) (h : step F dr o ts X) : SR P C R o ts ds X := by
 unfold step at h
 rw [ho, hF] at h
 simp only at h
 split at h
 ·rename_i k q k' q' v e1 e2 e3
  split at h
  ·rename_i hc
   simp only [Bool.and_eq_true] at hc
   obtain ⟨⟨c1, c2⟩, c3⟩ := hc
   have c1 := nbeq.1 c1
   have c2 := nbeq.1 c2
   obtain ⟨hn, h0, h1, h2, hX⟩ := yfi h
   have hx := (hγ.tev x).int e1
   have hy := (hγ.tev y).int e2
   have hqq := yzh c3 hx hy
   have hz : 0 < sz := by rw [← c2]; exact (C.E e).pos
   have hE : Eff o.op o.dst ds ⟨.gs (.l (site o.dst) 2) q.toNat, [((site o.dst, 2), some ⟨e, sz, ycu z q.toNat⟩)], [site o.dst], none⟩ ((ds.set (site o.dst) 2 (some ⟨e, sz, ycu z q.toNat, false⟩)).put o.dst (.gs (.l (site o.dst) 2) q.toNat)) := by
    rw [ho]
    refine ⟨?_, yoB (b := ⟨e, sz, ycu z q.toNat, false⟩) (hγ.nw _ hn), DOk.put (hk.set (.inr rfl) fun x hx => by cases hx; exact ⟨Nat.pos_iff_ne_zero.1 hz, fun q => by cases q⟩)⟩
    simp only [effA]
    rw [ycr, hx, hy]
    simp only
    rw [if_pos ⟨hqq, h0, c1, hz, h1, h2⟩, yiN (hγ.nw _ hn)]
    rfl
   have hcells : dwks (ycu z q.toNat) = cl (C.E e) (List.replicate q.toNat v) := by
    have t := (TL.cvAs (P := P) (C := C) (ts := ts) (χ := χ) z).mapS
    have := hC.rd e _ v ts χ z e3 t.1 t.2
    unfold ycu
    rw [yrX, this, yvS]
   refine yty (b := .row e (List.replicate q.toNat v)) (w := trw) hγ hn hE (fun p hp => ?_) rfl ⟨rfl, c2.symm, hcells⟩ (fun q => .rw _ _ _ q (by rw [yqd]; simp [tln]) (yhY _ _ _ _)) hX
   simp only [List.mem_singleton] at hp; subst hp; simp [twk', ho]
  ·exact h.elim
 ·exact h.elim
theorem yrY {s c n : Nat} (h : tln (ts.tb s c) = some n) : okr ts s c := by
 cases hq : ts.tb s c with
 | none => rw [hq] at h; cases h
 | some b0 => exact yx5 hq
theorem yxi (hC : CxOk P C) (hγ : GM P C R ts χ ds) (hk : DOk ds) {F : Cf K} (hF : F.C = C) {o : AO} {sz : Nat} {x i : AOpd} {X : TS K → Prop} {dr : Bool} (ho : o.op = .iad sz x i) (h : step F dr o ts X) : SR P C R o ts ds X := by
 unfold step at h
 rw [ho, hF] at h
 simp only at h
 split at h
 ·rename_i k q e1
  have hi := (hγ.tev i).int e1
  have hx := hγ.tev x
  unfold tiad at h
  split at h
  ·rename_i e l ex
   split at h
   ·rename_i hz
    have hz := nbeq.1 hz
    obtain ⟨h0, h1, hX⟩ := h
    rw [ex] at hx
    obtain ⟨z, xs, hxs, hv⟩ := hx.sli
    refine ygf hγ (TR.ep e l q.toNat 0 xs hxs) ?_ hX
    rw [ho]
    refine yq5 (C := [0 ≤ q ∧ q < (l.length : Int)]) ?_ ⟨⟨h0, h1⟩, trivial⟩ hk
    simp only [kx, kpv, hv, hi, hz, Nat.add_zero]
   ·exact h.elim
  ·rename_i s c ex
   split at h
   ·rename_i hz
    have hz := nbeq.1 hz
    obtain ⟨l, hl, h0, h1, hX⟩ := ydB h
    rw [ex] at hx
    obtain ⟨g1, g2, g3⟩ := hγ.trow hC hl
    rcases hx.rwi g1 with ⟨hχ, hv⟩ | ⟨hχ, hn, _⟩
    ·have hro : okr ts s c := yrY g1
     refine ygf hγ (TR.pr _ s c q.toNat 0 hro hχ) ?_ hX
     rw [ho]
     refine yq5 (C := [0 ≤ q ∧ q < (l.length : Int)]) ?_ ⟨⟨h0, h1⟩, trivial⟩ hk
     obtain ⟨kb, k1, _⟩ := g3 hχ
     have hlv : ya3 (toD ds) (.l s c) = true := by show ((ds.kb s c).map KB.blk).isSome = true; rw [k1]; rfl
     simp only [kx, kpv, hv, hi, hlv, hz, Nat.add_zero]
    ·rw [hn] at h1; exact absurd h1 (by omega)
   ·exact h.elim
  ·exact h.elim
 ·exact h.elim
theorem yjA {u : AOp} {d : Option Nat} {D : List Prop} {v : AV} (hk : DOk ds) (hm : yxR u = false) (h : kpv (ya3 (toD ds)) ds.fr u = some (D, v)) (hD : AllP D) : Eff u d ds (eff1 v) (ds.put d v) := by
 refine yq5 (C := D) ?_ hD hk
 unfold kx
 split <;> first | (cases hm; done) | (rw [h])
theorem ywP (hγ : GM P C R ts χ ds) (hk : DOk ds) {o : AO} {x : AOpd} {X : TS K → Prop} (ho : o.op = .len x) (h : tlen C true ts (fun v => X (ts.put o.dst v)) (tev ts.fr x)) : SR P C R o ts ds X := by
 have hx := hγ.tev x
 have fin : ∀ {u : TV K} {v : AV}, TR P C ts χ u v → pval (ya3 (toD ds)) (ev (lkF ds.fr)) (.len x) = some v → X (ts.put o.dst u) → SR P C R o ts ds X := by
  intro u v hv hp hX
  refine ygf hγ hv ?_ hX
  rw [ho]
  exact yjA hk rfl (show kok (pval (ya3 (toD ds)) (ev (lkF ds.fr)) (.len x)) = some ([], v) by rw [hp]; rfl) trivial
 unfold tlen at h
 split at h
 ·rename_i e l ex
  rw [ex] at hx
  obtain ⟨z, xs, hxs, hv⟩ := hx.sli
  exact fin (.it .i64 _) (by simp only [pval, hv]) h
 ·rename_i ex
  rw [ex] at hx
  have : ev (lkF ds.fr) x = .sl true 0 [] := by
   revert hx; generalize ev (lkF ds.fr) x = w; intro hx; cases hx; rfl
  exact fin (.li .i64 0) (by simp only [pval, this]; rfl) h
 ·rename_i ex
  rw [ex] at hx
  have : ∃ z, ev (lkF ds.fr) x = .sl z 0 [] := by
   revert hx; generalize ev (lkF ds.fr) x = w; intro hx; cases hx; exact ⟨_, rfl⟩
  obtain ⟨z, this⟩ := this
  exact fin (.li .i64 0) (by simp only [pval, this]; rfl) h
 ·rename_i s c ex
  rw [ex] at hx
  have go : ∀ {n : Nat} {b : TB K} {u : TV K}, ts.tb s c = some b → tln (some b) = some n → TR P C ts χ u (.it .i64 (n : Int)) → X (ts.put o.dst u) → SR P C R o ts ds X := by
   intro n b u hb hn hu hX
   rcases hx.rwi (n := n) (by rw [hb]; exact hn) with ⟨hχ, hv⟩ | ⟨hχ, h0, hv⟩
   ·exact fin hu (by simp only [pval, hv, hγ.live hb hχ, if_true]) hX
   ·subst h0; exact fin hu (by simp only [pval, hv]) hX
  split at h
  ·rename_i e l hb; exact go hb rfl (.it _ _) h
  ·rename_i e n cs hb; exact go hb rfl (.li _ _) h
  ·exact h.elim
 ·exact h.elim
end
end Go.AV
end
noncomputable section
namespace Go.AV
open Go.RowKit Go.RG Go.Lib
variable {K : Nat → Type}
section
variable {P : Program} {C : Cx K} {R : RR K} {ts ts' : TS K} {χ χ' : Nat → Nat → Bool} {ds : DS}
theorem ytb {b : Bool} {c : Prop} (h : AllP (ifL b c)) : b = false → c := by
 intro e; subst e; exact h.1
theorem ysI (hC : CxOk P C) (hγ : GM P C R ts χ ds) {s c e : Nat} {l : List (K e)} (hl : trow C e (ts.tb s c) = some l) (h : tfew (ts.tb s c) = true) : l.length ≤ 1000 := by
 obtain ⟨g1, _⟩ := hγ.trow hC hl
 unfold tfew at h
 split at h
 ·rename_i e' n cs hb
  rw [hb] at g1
  cases g1
  exact Nat.le_of_ble_eq_true h
 ·cases h
theorem yxx (hC : CxOk P C) (hγ : GM P C R ts χ ds) {e : Nat} {u : TV K} {v : AV} {l2 : List (K e)} (hv : TR P C ts χ u v) (h : tsrc C e ts u = some l2) : ∃ ys, srcA (toD ds) v = some (l2.length, ys) ∧ dwks ys = cl (C.E e) l2 := by
 unfold tsrc at h
 split at h
 ·obtain ⟨rfl, rfl⟩ := ydE h
  obtain ⟨z, xs, hx, rfl⟩ := hv.sli
  exact ⟨xs, rfl, hx⟩
 ·rename_i s c
  obtain ⟨g1, g2, g3⟩ := hγ.trow hC h
  rcases hv.rwi g1 with ⟨hχ, rfl⟩ | ⟨hχ, h0, rfl⟩
  ·obtain ⟨kb, k1, k2, k3, k4⟩ := g3 hχ
   refine ⟨kb.cells, ?_, k4⟩
   show (((ds.kb s c).map KB.blk).bind fun b => if b.sz = 0 then none else some (l2.length, b.cells)) = _
   rw [k1]
   show (if kb.sz = 0 then none else some (l2.length, kb.cells)) = _
   rw [if_neg (by rw [k3]; exact Nat.pos_iff_ne_zero.1 (C.E e).pos)]
  ·have := g2 hχ; subst this
   exact ⟨[], rfl, rfl⟩
 ·cases h; cases hv; exact ⟨[], rfl, rfl⟩
 ·cases h; cases hv; exact ⟨[], rfl, rfl⟩
 ·cases h
theorem ysL (hC : CxOk P C) (hγ : GM P C R ts χ ds) {e : Nat} {u : TV K} {l2 : List (K e)} (h : tsrc C e ts u = some l2) (hc : AllP (ifL (ysf ts u) (l2.length ≤ 400000000))) : l2.length ≤ 400000000 := by
 cases hs : ysf ts u with
 | false => exact ytb hc hs
 | true =>
   unfold ysf at hs
   split at hs
   ·have := ysI hC hγ (by simpa [tsrc] using h) hs; omega
   ·simp only [tsrc] at h; cases h; simp
   ·simp only [tsrc] at h; cases h; simp
   ·cases hs
theorem GM.kill {s c : Nat} (hγ : GM P C R ts χ ds) (hc : c = 1 ∨ c = 2) : GM P C R (ts.setb s c none) (updχ χ s c false) ds := by
 have hm : Mono ts (ts.setb s c none) χ (updχ χ s c false) := Mono.setb hc (fun _ => .inl ⟨rfl, rfl⟩)
 refine ⟨fun t => ?_, fun s' c' b' h1 h2 => ?_, fun s' c' h1 => ?_, fun s' h1 => ?_, by rw [yrJ]; exact hγ.hp, fun s' b9 q9 e9 => ?_⟩
 rotate_right
 ·rw [yce ts s c _ hc] at e9
  unfold updχ
  by_cases e : s' = s ∧ 1 = c
  ·rw [if_pos e] at e9; cases e9
  ·rw [if_neg e] at e9 ⊢; exact hγ.lv s' b9 q9 e9
 ·rw [yod]; exact (hγ.fr t).mono hm
 ·rw [yce ts s c none hc] at h1
  unfold updχ at h2
  by_cases e : s' = s ∧ c' = c
  ·rw [if_pos e] at h1; cases h1
  ·rw [if_neg e] at h1 h2
   obtain ⟨k', q1, q2⟩ := hγ.mb s' c' b' h1 h2
   exact ⟨k', q1, q2.mono hm⟩
 ·unfold updχ at h1
  rw [yce ts s c none hc]
  by_cases e : s' = s ∧ c' = c
  ·rw [if_pos e] at h1; cases h1
  ·rw [if_neg e] at h1 ⊢; exact hγ.vi s' c' h1
 ·rcases hc with rfl | rfl
  ·exact hγ.nw s' h1
  ·have h1' : (Nat.beq s s' || memB ts.nw s') = false := h1
   simp only [Bool.or_eq_false_iff] at h1'
   exact hγ.nw s' h1'.2
structure AppC (u : AOp) (d : Option Nat) (ds : DS) (x : AOpd) (e sz m : Nat) (ys : List AV) : Prop where
 eff : effA (fun _ => false) u d (toD ds) = yeB (fun _ => false) (site d) e sz m ys (toD ds) (ev (lkF ds.fr) x)
 pos : 0 < sz
theorem yqn {u : AOp} {d : Option Nat} {x : AOpd} {e sz m n : Nat} {ys xs : List AV} (hk : DOk ds) (hA : AppC u d ds x e sz m ys) (hx : ev (lkF ds.fr) x = .sl true n xs) (hm : 0 < m) (hnw : memO ds.nw (site d) = false) :
  Eff u d ds ⟨.gs (.l (site d) 2) m, [((site d, 2), some ⟨e, sz, ys⟩)], [site d], none⟩ ((ds.set (site d) 2 (some ⟨e, sz, ys, false⟩)).put d (.gs (.l (site d) 2) m)) := by
 refine ⟨?_, yoB (b := ⟨e, sz, ys, false⟩) hnw, DOk.put (hk.set (.inr rfl) fun x hx => by cases hx; exact ⟨Nat.pos_iff_ne_zero.1 hA.pos, fun q => by cases q⟩)⟩
 rw [hA.eff, hx]
 simp only [yeB]
 rw [if_neg (by omega), yiN hnw]
 rfl
theorem ysw {u : AOp} {d : Option Nat} {x : AOpd} {e sz m n : Nat} {ys xs : List AV} (hk : DOk ds) (hA : AppC u d ds x e sz m ys) (hx : ev (lkF ds.fr) x = .sl true n xs) (hm : m = 0) :
  Eff u d ds (eff1 (.sl true 0 [])) (ds.put d (.sl true 0 [])) := by
 refine ⟨?_, yfC _ d ds, hk.put⟩
 rw [hA.eff, hx]
 simp only [yeB]
 rw [if_pos hm]
theorem yqh {u : AOp} {d : Option Nat} {x : AOpd} {e sz m n s c : Nat} {ys : List AV} {kb : KB} (hk : DOk ds) (hA : AppC u d ds x e sz m ys) (hx : ev (lkF ds.fr) x = .gs (.l s c) n) (hm : ds.kb s c = some kb) (he : kb.e = e) (hz : kb.sz = sz) (hl : kb.cells.length = n * sz) (hn : n ≤ 1000000000) (hnw : memO ds.nw (site d) = false) :
  Eff u d ds ⟨.gs (.l (site d) 2) (n + m), [((s, c), none), ((site d, 2), some ⟨e, sz, kb.cells ++ ys⟩)], [site d], none⟩ (((ds.set s c none).set (site d) 2 (some ⟨e, sz, kb.cells ++ ys, false⟩)).put d (.gs (.l (site d) 2) (n + m))) := by
 have hcc := kb_c hm
 refine ⟨?_, yvn (b := ⟨e, sz, kb.cells ++ ys, false⟩) hnw hcc, DOk.put ((hk.set (hcc.imp id (·.1)) fun x hx => by cases hx).set (.inr rfl) fun x hx => by cases hx; exact ⟨Nat.pos_iff_ne_zero.1 hA.pos, fun q => by cases q⟩)⟩
 rw [hA.eff, hx]
 simp only [yeB]
 show (((ds.kb s c).map KB.blk).bind _) = _
 rw [hm]
 simp only [Option.map_some, Option.bind_some, KB.blk]
 rw [if_pos ⟨he, hz, hl, hn⟩, yiN hnw]
 rfl
theorem ysA (hC : CxOk P C) (hγ : GM P C R ts χ ds) (hk : DOk ds) {o : AO} {x : AOpd} {e : Nat} {l2 : List (K e)} {c2 : List Prop} {ys : List AV} {X : TS K → Prop} (h : tapp C e o.dst ts l2 c2 X (tev ts.fr x)) (hA : AllP c2 → AppC o.op o.dst ds x e (C.E e).sz l2.length ys) (hys : dwks ys = cl (C.E e) l2)
  (hw : twk' ts o = (site o.dst, 2) :: trf (tev ts.fr x)) : SR P C R o ts ds X := by
 have hx := hγ.tev x
 have hyl : ys.length = l2.length * (C.E e).sz := by rw [← ybG ys, hys, yi8]
 have nilC : ∀ {ts0 : TS K} {χ0 : Nat → Nat → Bool}, GM P C R ts0 χ0 ds → memB ts0.nw (site o.dst) = false → ts0.rg = ts.rg → AllP c2 → ev (lkF ds.fr) x = .sl true 0 [] → X (tnew ts0 o.dst (.row e l2) trw) → SR P C R o ts ds X := by
  intro ts0 χ0 hγ0 hn hrg hc hev hX
  have hnw := hγ0.nw _ hn
  by_cases h0 : l2 = []
  ·subst h0
   have hE := ysw hk (hA hc) hev rfl
   refine ⟨_, _, _, _, hE, fun p hp => (by cases hp), rfl, GM.put (hγ0.setv hn) ?_, hX, by rw [ycl, yc4, hrg]⟩
   exact .rwn _ _ (ynj _ _ _) (by rw [yqd]; rfl) (yhY _ _ _ _)
  ·have hm : 0 < l2.length := List.length_pos_iff.2 h0
   have hE := yqn hk (hA hc) hev hm hnw
   have hg := hγ0.setb (s := site o.dst) (c := 2) (b := some (.row e l2)) (kb := some ⟨e, (C.E e).sz, ys, false⟩) (.inr rfl) (Mono.new hn) (fun b' hb' => ⟨_, rfl, by cases hb'; exact ⟨rfl, rfl, hys⟩⟩) (fun _ _ e9 _ => by cases e9)
   refine ⟨_, _, _, _, hE, fun p hp => ?_, rfl, hg.put (.rw _ _ _ (ynj _ _ _) (by rw [yqd]; rfl) (yhY _ _ _ _)), hX, by rw [ycl, yc4, hrg]⟩
   simp only [List.mem_singleton] at hp; subst hp; rw [hw]; simp
 unfold tapp at h
 split at h
 ·rename_i ex
  obtain ⟨hn, h⟩ := yfi h
  obtain ⟨hc, hX⟩ := yg3 h
  rw [ex] at hx
  have hev : ev (lkF ds.fr) x = .sl true 0 [] := by
   revert hx; generalize ev (lkF ds.fr) x = w; intro hx; cases hx; rfl
  exact nilC hγ hn rfl hc hev hX
 ·rename_i s c ex
  obtain ⟨hn, h⟩ := yfi h
  obtain ⟨l, hl, h⟩ := ydB h
  obtain ⟨hc1, h⟩ := yg3 h
  obtain ⟨hc, hX⟩ := yg3 h
  rw [ex] at hx
  obtain ⟨g1, g2, g3⟩ := hγ.trow hC hl
  have hok := yrY g1
  have hcc : c = 1 ∨ c = 2 := hok.imp id (·.1)
  have hne : ¬ (s = site o.dst ∧ c = 2) := by
   rintro ⟨rfl, rfl⟩; exact yrA hn hok
  have hn' : memB (ts.setb s c none).nw (site o.dst) = false := by
   rcases hcc with rfl | rfl
   ·exact hn
   ·show (Nat.beq s (site o.dst) || memB ts.nw (site o.dst)) = false
    rw [hn, Bool.or_false]
    cases hq : Nat.beq s (site o.dst) with
    | false => rfl
    | true => exact (hne ⟨nbeq.1 hq, rfl⟩).elim
  rcases hx.rwi g1 with ⟨hχ, hv⟩ | ⟨hχ, hz, hv⟩
  ·obtain ⟨kb, k1, k2, k3, k4⟩ := g3 hχ
   have hlen : l.length ≤ 1000000000 := by
    cases hf : tfew (ts.tb s c) with
    | false => exact ytb hc1 hf
    | true => have := ysI hC hγ hl hf; omega
   have hkl : kb.cells.length = l.length * (C.E e).sz := by rw [← ybG kb.cells, k4, yi8]
   have hE := yqh hk (hA hc) hv k1 k2 k3 hkl hlen (hγ.nw _ hn)
   have hg1 := hγ.setb (s := s) (c := c) (b := none) (kb := none) hcc (Mono.setb hcc (fun _ => .inl ⟨rfl, rfl⟩)) (fun b' hb' => by cases hb') (fun _ h9 => by cases h9)
   have hg2 := hg1.setb (s := site o.dst) (c := 2) (b := some (.row e (l ++ l2))) (kb := some ⟨e, (C.E e).sz, kb.cells ++ ys, false⟩) (.inr rfl) (Mono.new hn') (fun b' hb' => ⟨_, rfl, by cases hb'; exact ⟨rfl, rfl, by show dwks (kb.cells ++ ys) = _; rw [ybX, k4, hys, yyA]⟩⟩) (fun _ _ e9 _ => by cases e9)
   refine ⟨_, _, _, _, hE, fun p hp => ?_, rfl, hg2.put (.rw _ _ _ (ynj _ _ _) (by rw [yqd]; simp [tln]) (yhY _ _ _ _)), hX, by rw [ycl, yc4, yc4]⟩
   simp only [List.mem_cons, List.not_mem_nil, or_false] at hp
   rw [hw, ex]
   rcases hp with rfl | rfl <;> simp [trf]
  ·have := g2 hχ; subst this
   exact nilC (hγ.kill (s := s) (c := c) hcc) hn' (yc4 _ _ _ _) hc hv (by simpa using hX)
 ·exact h.elim
theorem yoE {e : Nat} {f : K e → UInt8} (hC : CxOk P C) (hf : (C.T e).tb = some f) : ∀ (l : List (K e)) (ys : List AV), dwks ys = cl (C.E e) l → yfc ys = some (l.map f) ∧ ys.length = l.length
 | [], ys, h => by
   have : ys = [] := by cases ys with | nil => rfl | cons => simp [dwks, cl] at h
   subst this; exact ⟨rfl, rfl⟩
 | x :: l, ys, h => by
   obtain ⟨n, h1, h2⟩ := hC.tb e f hf x
   rw [show cl (C.E e) (x :: l) = (C.E e).c x ++ cl (C.E e) l by simp [cl], h1] at h
   cases ys with
   | nil => simp [dwks] at h
   | cons y ys =>
     simp only [dwks, List.cons_append, List.nil_append, List.cons.injEq] at h
     obtain ⟨a1, a2⟩ := yoE hC hf l ys h.2
     have : y = .it .u8 n := by
      have h1 := h.1
      cases y <;> simp [dwk] at h1
      obtain ⟨rfl, rfl⟩ := h1; rfl
     subst this
     exact ⟨by simp only [yfc, ywQ, a1, List.map_cons, h2], by simp [a2]⟩
theorem yxb (hC : CxOk P C) (hγ : GM P C R ts χ ds) (hk : DOk ds) {F : Cf K} (hF : F.C = C) {o : AO} {x : AOpd} {X : TS K → Prop} {dr : Bool} (ho : o.op = .b2s x) (h : step F dr o ts X) : SR P C R o ts ds X := by
 unfold step at h
 rw [ho, hF] at h
 simp only at h
 have hx := hγ.tev x
 have fin : ∀ {s : Str}, effA (fun _ => false) (.b2s x) o.dst (toD ds) = some (eff1 (.st s)) → X (ts.put o.dst (.st s)) → SR P C R o ts ds X := by
  intro s he hX
  exact ygf hγ (.st s) (by rw [ho]; exact ⟨he, yfC _ _ _, hk.put⟩) hX
 split at h
 ·rename_i e l ex
  rw [ex] at hx
  obtain ⟨z, xs, hxs, hv⟩ := hx.sli
  split at h
  ·rename_i f hf
   obtain ⟨b1, b2⟩ := yoE hC hf l xs hxs
   refine fin ?_ h
   simp only [effA]
   rw [ycr, hv]
   simp only
   rw [if_pos b2, b1]; rfl
  ·exact h.elim
 ·rename_i s c ex
  rw [ex] at hx
  split at h
  ·rename_i f l hf hl
   obtain ⟨g1, g2, g3⟩ := hγ.trow hC hl
   rcases hx.rwi g1 with ⟨hχ, hv⟩ | ⟨hχ, h0, hv⟩
   ·obtain ⟨kb, k1, k2, k3, k4⟩ := g3 hχ
    obtain ⟨b1, b2⟩ := yoE hC hf l kb.cells k4
    refine fin ?_ h
    simp only [effA]
    rw [ycr, hv]
    simp only
    show (((ds.kb s c).map KB.blk).bind _) = _
    rw [k1]
    simp only [Option.map_some, Option.bind_some, KB.blk]
    rw [if_pos ⟨by rw [k3]; exact Nat.pos_iff_ne_zero.1 (C.E _).pos, b2⟩, b1]; rfl
   ·have := g2 hχ; subst this
    refine fin ?_ h
    simp only [effA]
    rw [ycr, hv]
    rfl
  ·exact h.elim
 ·rename_i ex
  rw [ex] at hx
  have hev : ev (lkF ds.fr) x = .sl true 0 [] := by
   revert hx; generalize ev (lkF ds.fr) x = w; intro hx; cases hx; rfl
  refine fin ?_ h
  simp only [effA]
  rw [ycr, hev]
  rfl
 ·exact h.elim
structure yyN (s c : Nat) (ts ts' : TS K) (χ χ' : Nat → Nat → Bool) : Prop where
 rg : ∀ id u, lkR ts.rg id = some u → lkR ts'.rg id = some u
 ok : ∀ s c, okr ts s c → okr ts' s c
 pl : ∀ s' c', ¬ (s' = s ∧ c' = c) → okr ts s' c' → (tln (ts'.tb s' c') = none ∧ χ' s' c' = false) ∨ (tln (ts'.tb s' c') = tln (ts.tb s' c') ∧ χ' s' c' = χ s' c')
theorem ypj (s c : Nat) (l : List (TV K)) (j : Nat) : (yiq s c l)[j]? = (l[j]?).map (yhc s c) := by
 induction l generalizing j with
 | nil => simp [yiq]
 | cons x l ih => cases j with
   | zero => simp [yiq]
   | succ j => simp [yiq, ih]
theorem ymU (s c : Nat) (l : List (TV K)) : (yiq s c l).length = l.length := by
 induction l with
 | nil => rfl
 | cons x l ih => simp [yiq, ih]
theorem beq2 {a b c d : Nat} (h : (Nat.beq a b && Nat.beq c d) = false) : ¬ (b = a ∧ d = c) := by
 rintro ⟨rfl, rfl⟩; rw [nbeq.2 rfl, nbeq.2 rfl] at h; cases h
theorem TR.drop {s c : Nat} (hm : yyN s c ts ts' χ χ') {u : TV K} {v : AV} (h : TR P C ts χ u v) : TR P C ts' χ' (yhc s c u) v := by
 induction h with
 | cn id u v h hn hv _ => exact .cn id u v (hm.rg id u h) hn (hv.noref hn).1
 | un v => exact .un v
 | lb b => exact .lb b
 | bl b => exact .bl b
 | li k n => exact .li k n
 | it k n => exact .it k n
 | st s => exact .st s
 | agg us vs hl _ ih =>
   refine .agg _ vs (by rw [ymU]; exact hl) (fun j u v h1 h2 => ?_)
   rw [ypj] at h1
   obtain ⟨u', e1, rfl⟩ := Option.map_eq_some_iff.1 h1
   exact ih j u' v e1 h2
 | tup us vs hl _ ih =>
   refine .tup _ vs (by rw [ymU]; exact hl) (fun j u v h1 h2 => ?_)
   rw [ypj] at h1
   obtain ⟨u', e1, rfl⟩ := Option.map_eq_some_iff.1 h1
   exact ih j u' v e1 h2
 | nil => exact .nil
 | em z => exact .em z
 | sl e l z n xs hn hx => exact .sl e l z n xs hn hx
 | rwd s' c' v hr h ho =>
   simp only [yhc]
   split
   ·exact .un _
   ·rename_i e
    refine .rwd s' c' v (hm.ok s' c' hr) ?_ ho
    rcases hm.pl s' c' (beq2 e) hr with h1 | h1
    ·exact h1.1
    ·rw [h1.1]; exact h
 | rw s' c' n hr h hx =>
   simp only [yhc]
   split
   ·exact .un _
   ·rename_i e
    rcases hm.pl s' c' (beq2 e) hr with h1 | h1
    ·exact .rwd s' c' _ (hm.ok s' c' hr) h1.1 rfl
    ·exact .rw s' c' n (hm.ok s' c' hr) (by rw [h1.1]; exact h) (by rw [h1.2]; exact hx)
 | rwn s' c' hr h hx =>
   simp only [yhc]
   split
   ·exact .un _
   ·rename_i e
    rcases hm.pl s' c' (beq2 e) hr with h1 | h1
    ·exact .rwd s' c' _ (hm.ok s' c' hr) h1.1 rfl
    ·exact .rwn s' c' (hm.ok s' c' hr) (by rw [h1.1]; exact h) (by rw [h1.2]; exact hx)
 | px s' c' off hr => exact .px s' c' off (hm.ok s' c' hr)
 | pr e0 s' c' i of hr hx =>
   simp only [yhc]
   split
   ·exact .un _
   ·rename_i e
    refine .pr e0 s' c' i of (hm.ok s' c' hr) ?_
    rcases hm.pl s' c' (beq2 e) hr with h1 | h1
    ·exact h1.2
    ·rw [h1.2]; exact hx
 | ep e l i of xs hx => exact .ep e l i of xs hx
 | gs l i xs hx => exact .gs l i xs hx
 | nptr => exact .nptr
 | fn f a c a' c' ha hc _ _ ih ih' => exact .un _
 | fv ps rs F v h hv => exact .fv ps rs F v h hv
theorem ynH (f : TV K → TV K) (hf : f .un = .un) : ∀ (l : List (Nat × TV K)) (t : Nat), lkT (mapF f l) t = f (lkT l t)
 | [], t => hf.symm
 | p :: r, t => by
   rw [show mapF f (p :: r) = (p.1, f p.2) :: mapF f r from rfl, yek, ynH f hf r t]
   rw [show p :: r = (p.1, p.2) :: r from rfl, yek]
   split <;> rfl
theorem mapM_at (f : TV K → TV K) : ∀ (l : List (Nat × Option (TB K))) (t : Nat), lkB (mapM f l) t = mapB f (lkB l t)
 | [], t => rfl
 | p :: r, t => by
   rw [show mapM f (p :: r) = (p.1, mapB f p.2) :: mapM f r from rfl, ybT, ybT, mapM_at f r t]
   split <;> rfl
theorem yg4 (f : TV K → TV K) : ∀ (l : List (Nat × Option (TB K))) (t : Nat), memB (mapM f l) t = memB l t
 | [], t => rfl
 | p :: r, t => by show (Nat.beq p.1 t || memB (mapM f r) t) = (Nat.beq p.1 t || memB r t); rw [yg4 f r t]
theorem yn5 (ts : TS K) (f : TV K → TV K) (s c : Nat) : (ts.mapv f).tb s c = mapB f (ts.tb s c) := by
 unfold TS.tb TS.mapv
 cases Nat.beq c 1 with
 | true => exact mapM_at f _ _
 | false => cases Nat.beq c 2 with
   | true => exact mapM_at f _ _
   | false => rfl
theorem yqo (f : TV K → TV K) (b : Option (TB K)) : tln (mapB f b) = tln b := by
 cases b with
 | none => rfl
 | some b => cases b <;> rfl
theorem GM.lvt (hγ : GM P C R ts χ ds) {s n : Nat} (h : 2000000 ≤ s) (hn : tln (ts.tb s 1) = some n) : R.L s = χ s 1 := by
 cases hq : ts.tb s 1 with
 | none => rw [hq] at hn; cases hn
 | some b => exact hγ.lv s b h hq
theorem GM.cut {s c e : Nat} {l : List (K e)} {kb : Option KB} {v : Bool} {ds' : DS} (hγ : GM P C R ts χ ds) (hc : c = 1 ∨ c = 2) (hok : okr ts s c) (hds : ds' = match v with | true => ds | false => ds.set s c kb)
  (hb : v = false → ∃ k', kb = some k' ∧ k'.e = e ∧ k'.sz = (C.E e).sz ∧ dwks k'.cells = cl (C.E e) l) (hv : v = true → l = []) (hl : c = 1 → 2000000 ≤ s → R.L s = v) : GM P C R ((ts.mapv (yhc s c)).setb s c (some (.row e l))) (updχ χ s c v) ds' := by
 have hokm : ∀ s' c', okr ts s' c' → okr (ts.mapv (yhc s c)) s' c' := by
  intro s' c' q
  rcases q with q | ⟨q1, q2⟩
  ·exact .inl q
  ·exact .inr ⟨q1, by show memB (mapM _ ts.nw) s' = true; rw [yg4]; exact q2⟩
 have hm : yyN s c ts ((ts.mapv (yhc s c)).setb s c (some (.row e l))) χ (updχ χ s c v) := by
  refine ⟨fun id u q => by rw [yc4]; exact q, fun s' c' q => yk5 _ _ _ _ hc (hokm s' c' q), fun s' c' hne q => .inr ⟨?_, ?_⟩⟩
  ·rw [yce _ s c _ hc, if_neg hne, yn5, yqo]
  ·unfold updχ; rw [if_neg hne]
 have hkb : ∀ s' c', ¬ (s' = s ∧ c' = c) → ds'.kb s' c' = ds.kb s' c' := by
  intro s' c' hne
  subst hds
  cases v with
  | true => rfl
  | false => show (ds.set s c kb).kb s' c' = _; rw [ypX ds s c kb hc, if_neg hne]
 refine ⟨fun t => ?_, fun s' c' b' h1 h2 => ?_, fun s' c' h1 => ?_, fun s' h1 => ?_, ?_, fun s' b9 q9 e9 => ?_⟩
 rotate_right
 ·rw [yce _ s c _ hc] at e9
  unfold updχ
  by_cases e : s' = s ∧ 1 = c
  ·rw [if_pos e]; obtain ⟨rfl, e2⟩ := e; exact hl e2.symm q9
  ·rw [if_neg e] at e9 ⊢
   rw [yn5] at e9
   cases hq : ts.tb s' 1 with
   | none => rw [hq] at e9; cases e9
   | some b0 => exact hγ.lv s' b0 q9 hq
 rotate_right
 ·rw [yrJ]
  show R ts.h ds'.H ds'.nx
  subst hds
  cases v with
  | true => exact hγ.hp
  | false => show R ts.h (ds.set s c kb).H (ds.set s c kb).nx; rw [ywV, ym1]; exact hγ.hp
 ·rw [yod]
  show TR P C _ _ (lkT (mapF (yhc s c) ts.fr) t) _
  rw [ynH _ rfl]
  have : lkF ds'.fr t = lkF ds.fr t := by
   subst hds
   cases v with
   | true => rfl
   | false => show lkF (ds.set s c kb).fr t = _; rw [yp6]
  rw [this]
  exact (hγ.fr t).drop hm
 ·rw [yce _ s c _ hc] at h1
  unfold updχ at h2
  by_cases e' : s' = s ∧ c' = c
  ·rw [if_pos e'] at h1 h2
   obtain ⟨rfl, rfl⟩ := e'
   subst h2
   obtain ⟨k', q1, q2, q3, q4⟩ := hb rfl
   cases h1
   refine ⟨k', ?_, q2, q3, q4⟩
   subst hds
   show (ds.set s' c' kb).kb s' c' = _
   rw [ypX ds s' c' kb hc]; simpa using q1
  ·rw [if_neg e'] at h1 h2
   rw [yn5] at h1
   rw [hkb s' c' e']
   cases hq : ts.tb s' c' with
   | none => rw [hq] at h1; cases h1
   | some b0 =>
     rw [hq] at h1
     obtain ⟨k', q1, q2⟩ := hγ.mb s' c' b0 hq h2
     refine ⟨k', q1, ?_⟩
     cases b0 with
     | row e0 l0 => cases h1; exact q2
     | box e0 cs =>
       cases h1
       refine ⟨q2.1, by simpa using q2.2.1, by simpa using q2.2.2.1, fun j u v a b => ?_⟩
       rw [List.getElem?_map] at a
       obtain ⟨u', e1, rfl⟩ := Option.map_eq_some_iff.1 a
       exact (q2.2.2.2 j u' v e1 b).drop hm
     | lrow e0 n cs =>
       cases h1
       refine ⟨q2.1, q2.2.1, by simpa using q2.2.2.1, by simpa using q2.2.2.2.1, fun j u v a b => ?_⟩
       rw [List.getElem?_map] at a
       obtain ⟨u', e1, rfl⟩ := Option.map_eq_some_iff.1 a
       exact (q2.2.2.2.2 j u' v e1 b).drop hm
 ·unfold updχ at h1
  rw [yce _ s c _ hc]
  by_cases e' : s' = s ∧ c' = c
  ·rw [if_pos e'] at h1 ⊢
   have := hv h1; subst this
   exact ⟨_, rfl⟩
  ·rw [if_neg e'] at h1 ⊢
   obtain ⟨e0, h3⟩ := hγ.vi s' c' h1
   exact ⟨e0, by rw [yn5, h3]; rfl⟩
 ·have hmem : memB ts.nw s' = false := by
   rcases hc with rfl | rfl
   ·rw [← yg4 (yhc s 1)]; exact h1
   ·have h1' : (Nat.beq s s' || memB (mapM (yhc s 2) ts.nw) s') = false := h1
    simp only [Bool.or_eq_false_iff] at h1'
    rw [← yg4 (yhc s 2)]; exact h1'.2
  have := hγ.nw s' hmem
  subst hds
  cases v with
  | true => exact this
  | false =>
    show memO (ds.set s c kb).nw s' = false
    rcases hc with rfl | rfl
    ·exact this
    ·have h1' : (Nat.beq s s' || memB (mapM (yhc s 2) ts.nw) s') = false := h1
     simp only [Bool.or_eq_false_iff] at h1'
     show (Nat.beq s s' || memO ds.nw s') = false
     rw [h1'.1, this]; rfl
theorem ysx {T : Type} {l : List T} {a b : Int} (h : 0 ≤ a ∧ a ≤ b ∧ b ≤ l.length) : (ypZ l a b).length = b.toNat - a.toNat := by
 unfold ypZ; simp; omega
theorem yxn (hC : CxOk P C) (hγ : GM P C R ts χ ds) (hk : DOk ds) {F : Cf K} (hF : F.C = C) {o : AO} {sz : Nat} {x : AOpd} {lo hi : Option AOpd} {X : TS K → Prop} {dr : Bool} (ho : o.op = .sll sz x lo hi) (h : step F dr o ts X) : SR P C R o ts ds X := by
 unfold step at h
 rw [ho, hF] at h
 simp only at h
 have hx := hγ.tev x
 have slc : ∀ {z : Bool} {n : Nat} {xs : List AV} {a b : Int} {u : TV K}, ev (lkF ds.fr) x = .sl z n xs → bnd (ev (lkF ds.fr)) 0 lo = some a → bnd (ev (lkF ds.fr)) n hi = some b → (0 ≤ a ∧ a ≤ b ∧ b ≤ n) → TR P C ts χ u (.sl z (b.toNat - a.toNat) ((xs.drop (a.toNat * sz)).take ((b.toNat - a.toNat) * sz))) → X (ts.put o.dst u) → SR P C R o ts ds X := by
  intro z n xs a b u hev h1 h2 hc hu hX
  refine ygf hγ hu ?_ hX
  rw [ho]
  refine ⟨?_, yfC _ _ _, hk.put⟩
  simp only [effA]
  rw [ycr, hev]
  simp only [ylG, pval]
  rw [hev]
  simp only
  rw [h1, h2]
  simp only
  rw [if_pos hc]; rfl
 split at h
 ·rename_i e l ex
  rw [ex] at hx
  obtain ⟨z, xs, hxs, hv⟩ := hx.sli
  split at h
  ·rename_i a b hz e1 e2
   have hz := nbeq.1 hz
   obtain ⟨hc, hX⟩ := h
   refine slc hv (ykg hγ e1) (ykg hγ e2) hc (.sl e _ z _ _ (ysx hc).symm ?_) hX
   rw [ye2, ygn, hxs, hz]
   exact yvB (C.E e) l a.toNat (b.toNat - a.toNat)
  ·exact h.elim
 ·rename_i s c ex
  rw [ex] at hx
  split at h
  ·rename_i l hz hl
   have hz := nbeq.1 hz
   split at h
   ·rename_i b e2
    obtain ⟨hc, hX⟩ := h
    obtain ⟨g1, g2, g3⟩ := hγ.trow hC hl
    have hok := yrY g1
    have hcc : c = 1 ∨ c = 2 := hok.imp id (·.1)
    rcases hx.rwi g1 with ⟨hχ, hv⟩ | ⟨hχ, h0, hv⟩
    ·obtain ⟨kb, k1, k2, k3, k4⟩ := g3 hχ
     have hcc2 := kb_c k1
     have hlt : (l.take b.toNat).length = b.toNat := by simp; omega
     have hE : Eff (.sll sz x none hi) o.dst ds ⟨.gs (.l s c) b.toNat, [((s, c), some ⟨kb.e, kb.sz, kb.cells.take (b.toNat * sz)⟩)], [], none⟩ ((ds.set s c (some ⟨kb.e, kb.sz, kb.cells.take (b.toNat * sz), false⟩)).put o.dst (.gs (.l s c) b.toNat)) := by
      refine ⟨?_, yuD (b := ⟨kb.e, kb.sz, kb.cells.take (b.toNat * sz), false⟩) hcc2, DOk.put (hk.set hcc fun x hx => by cases hx; exact ⟨by show kb.sz ≠ 0; rw [k3]; exact Nat.pos_iff_ne_zero.1 (C.E _).pos, fun q => by cases q⟩)⟩
      simp only [effA]
      rw [ycr, hv]
      simp only [ylG]
      rw [show bnd (ev (lkF ds.fr)) 0 none = some 0 from rfl, ykg hγ e2]
      simp only [ypu]
      show (((ds.kb s c).map KB.blk).bind _) = _
      rw [k1]
      simp only [Option.map_some, Option.bind_some, KB.blk]
      rw [if_pos ⟨by rw [k3, hz], by rw [hz]; exact (C.E _).pos, hc.1, hc.2, by rw [← ybG kb.cells, k4, yi8, hz]; exact Nat.le_refl _⟩]
     have hg := hγ.cut (s := s) (c := c) (e := tbe (ts.tb s c)) (l := l.take b.toNat) (kb := some ⟨kb.e, kb.sz, kb.cells.take (b.toNat * sz), false⟩) (v := false) hcc hok rfl (fun _ => ⟨_, rfl, k2, k3, by
      show dwks (kb.cells.take (b.toNat * sz)) = _
      rw [ye2, k4, hz]
      have := yvB (C.E (tbe (ts.tb s c))) l 0 b.toNat
      simpa using this⟩) (fun q => by cases q) (fun e9 q9 => by subst e9; exact (hγ.lvt q9 g1).trans hχ)
     refine ⟨_, _, _, _, by rw [ho]; exact hE, fun p hp => ?_, rfl, hg.put (.rw s c b.toNat ?_ ?_ (yhY _ _ _ _)), hX, by rw [ycl, yc4]; rfl⟩
     ·simp only [List.mem_singleton] at hp; subst hp; simp [twk', ho, ex, trf]
     ·refine yk5 _ _ _ _ hcc ?_
      rcases hok with q | ⟨q1, q2⟩
      ·exact .inl q
      ·exact .inr ⟨q1, by show memB (mapM _ ts.nw) s = true; rw [yg4]; exact q2⟩
     ·rw [yce _ s c _ hcc]; simp only [and_self, if_true, tln]; rw [hlt]
    ·have := g2 hχ; subst this
     have hb0 : b = 0 := by have := hc.2; simp at this; omega
     subst hb0
     have e2' : bnd (ev (lkF ds.fr)) ((0 : Nat) : Int) hi = some 0 := ykg hγ e2
     have hE : Eff (.sll sz x none hi) o.dst ds (eff1 (.sl true 0 [])) (ds.put o.dst (.sl true 0 [])) := by
      refine ⟨?_, yfC _ _ _, hk.put⟩
      simp only [effA]
      rw [ycr, hv]
      simp only [ylG, pval]
      rw [hv]
      simp only
      rw [show bnd (ev (lkF ds.fr)) 0 none = some 0 from rfl, e2']
      simp only
      rw [if_pos ⟨by omega, by omega, by omega⟩]
      simp [effP]
     have hg := hγ.cut (s := s) (c := c) (e := tbe (ts.tb s c)) (l := ([] : List (K (tbe (ts.tb s c))))) (kb := none) (v := true) hcc hok rfl (fun q => by cases q) (fun _ => rfl) (fun e9 q9 => by subst e9; exact (hγ.lvt q9 g1).trans hχ)
     refine ⟨_, _, _, _, by rw [ho]; exact hE, fun p hp => (by cases hp), rfl, hg.put (.rwn s c ?_ ?_ (yhY _ _ _ _)), hX, by rw [ycl, yc4]; rfl⟩
     ·refine yk5 _ _ _ _ hcc ?_
      rcases hok with q | ⟨q1, q2⟩
      ·exact .inl q
      ·exact .inr ⟨q1, by show memB (mapM _ ts.nw) s = true; rw [yg4]; exact q2⟩
     ·rw [yce _ s c _ hcc]; simp [tln]
   ·exact h.elim
  ·exact h.elim
 ·exact h.elim
theorem yu3 (hγ : GM P C R ts χ ds) (hk : DOk ds) {F : Cf K} {o : AO} {c a b : AOpd} {X : TS K → Prop} {dr : Bool} (ho : o.op = .pick c a b) (h : step F dr o ts X) : SR P C R o ts ds X := by
 unfold step at h
 rw [ho] at h
 simp only at h
 have hc := hγ.tev c
 have fin : ∀ {u : TV K} {v : AV}, TR P C ts χ u v → pval (ya3 (toD ds)) (ev (lkF ds.fr)) (.pick c a b) = some v → X (ts.put o.dst u) → SR P C R o ts ds X := by
  intro u v hv hp hX
  refine ygf hγ hv ?_ hX
  rw [ho]
  exact yjA hk rfl (show kok (pval (ya3 (toD ds)) (ev (lkF ds.fr)) (.pick c a b)) = some ([], v) by rw [hp]; rfl) trivial
 split at h
 ·rename_i ex; rw [ex] at hc
  exact fin (hγ.tea a) (by simp only [pval, hc.lbi]) h
 ·rename_i ex; rw [ex] at hc
  exact fin (hγ.tea b) (by simp only [pval, hc.lbi]) h
 ·exact h.elim
theorem yyM (hC : CxOk P C) (hγ : GM P C R ts χ ds) (hk : DOk ds) {F : Cf K} (hF : F.C = C) {o : AO} {e sz bytes : Nat} {x y : AOpd} {X : TS K → Prop} {dr : Bool} (ho : o.op = .app e sz bytes x y) (h : step F dr o ts X) : SR P C R o ts ds X := by
 unfold step at h
 rw [ho, hF] at h
 simp only at h
 split at h
 ·rename_i hc
  simp only [Bool.and_eq_true] at hc
  have hz := nbeq.1 hc.1
  have hb := Nat.le_of_ble_eq_true hc.2
  obtain ⟨l2, hl2, h⟩ := ydB h
  obtain ⟨ys, hs, hys⟩ := yxx hC hγ (hγ.tev y) hl2
  refine ysA hC hγ hk h (fun hA => ?_) hys (by rw [twk', ho])
  refine ⟨?_, (C.E e).pos⟩
  rw [ho]
  simp only [effA]
  rw [ycr, hs, Option.bind_some, if_pos ⟨by rw [← hz]; exact (C.E e).pos, hb, by rw [← ybG ys, hys, yi8, hz], ysL hC hγ hl2 hA⟩, hz]
 ·exact h.elim
theorem ywX (hC : CxOk P C) (hγ : GM P C R ts χ ds) (hk : DOk ds) {F : Cf K} (hF : F.C = C) {o : AO} {e : Nat} {x y : AOpd} {X : TS K → Prop} {dr : Bool} (ho : o.op = .apps e x y) (h : step F dr o ts X) : SR P C R o ts ds X := by
 unfold step at h
 rw [ho, hF] at h
 simp only at h
 split at h
 ·rename_i l f ey hf
  have hy := hγ.tev y
  rw [ey] at hy
  have hsz : (C.E e).sz = 1 := by
   have := hC.ob e f hf 0
   rw [← (C.E e).len (f 0), this]; rfl
  have hys : dwks (encB l) = cl (C.E e) (l.map f) := by
   clear hy ey h
   induction l with
   | nil => rfl
   | cons b l ih =>
     rw [List.map_cons, show cl (C.E e) (f b :: l.map f) = (C.E e).c (f b) ++ cl (C.E e) (l.map f) by simp [cl], hC.ob e f hf b, ← ih]
     rfl
  refine ysA hC hγ hk (ys := encB l) h (fun hA => ?_) hys (by rw [twk', ho])
  refine ⟨?_, (C.E e).pos⟩
  rw [ho]
  simp only [effA]
  rw [ycr, hy.str]
  simp only
  rw [if_pos hA.1, hsz, List.length_map]
 ·exact h.elim
def yqN : AOp → Bool
 | .call .. | .calv .. => false
 | _ => true
theorem yrn (hC : CxOk P C) (hγ : GM P C R ts χ ds) (hk : DOk ds) {F : Cf K} (hF : F.C = C) {o : AO} {X : TS K → Prop} (hn : yqN o.op = true) (h : step F true o ts X) : SR P C R o ts ds X := by
 have quiet : ∀ {u : AOp}, o.op = u → (match tqv ts u with | some (cs, v) => andL cs (X (ts.put o.dst v)) | none => False) → SR P C R o ts ds X := by
  intro u ho h
  split at h
  ·rename_i cs v e
   obtain ⟨hc, hX⟩ := yg3 h
   obtain ⟨hm, D, w, h1, h2, h3⟩ := yxZ hγ e hc
   refine ygf hγ h3 ?_ hX
   rw [ho]
   exact yjA hk hm h1 h2
  ·exact h.elim
 cases ho : o.op with
 | ld g sz x => unfold step at h; rw [ho, hF] at h; exact yzz hC hγ hk ho h
 | sto sz x y => unfold step at h; rw [ho, hF] at h; exact yxC hC hγ hk ho h
 | pick c a b => exact yu3 hγ hk ho h
 | box e sz x => exact yxu hγ hk ho h
 | bsl e sz n z parts => exact ywM hγ hk hF ho h
 | mks e sz b z x y => exact ywv hC hγ hk hF ho h
 | iad sz x i => exact yxi hC hγ hk hF ho h
 | len x => unfold step at h; rw [ho, hF] at h; exact ywP hγ hk ho h
 | app e sz b x y => exact yyM hC hγ hk hF ho h
 | apps e x y => exact ywX hC hγ hk hF ho h
 | b2s x => exact yxb hC hγ hk hF ho h
 | sll sz x lo hi => exact yxn hC hγ hk hF ho h
 | call f args => rw [ho] at hn; cases hn
 | calv x args => rw [ho] at hn; cases hn
 | _ => unfold step at h; rw [ho] at h; exact quiet ho h
end
end Go.AV
end
noncomputable section
namespace Go.AV
open Go.RowKit Go.RG Go.Lib
variable {K : Nat → Type}
def χ1 (χ : Nat → Bool) : Nat → Nat → Bool := fun s c => decide (c = 1) && χ s
section
variable {P : Program} {C : Cx K} {R : RR K} {ts ts1 : TS K} {χ : Nat → Nat → Bool} {ξ : Nat → Bool} {ds : DS} {B : Base} {N : Nat} {ρ : Nat → Option (Nat × Nat)} {p : Nat × Nat → Prop}
theorem TR.noL' {u : TV K} {v : AV} (h : TR P C ts χ u v) (hn : yaZ u = true) : v.noL = true := (h.noref (ts' := ts) (χ' := χ) hn).2
variable (P C ts ts1 χ ξ ds ρ p) in
def TM (u u1 : TV K) : Prop := ∀ v, TR P C ts χ u v → ∃ v1, TR P C ts1 (χ1 ξ) u1 v1 ∧ RV ρ (toD ds) p v1 v
theorem TM.un (u : TV K) : TM P C ts ts1 χ ξ ds ρ p u .un := fun v _ => ⟨.un, .un _, .un _⟩
theorem TM.noref {u : TV K} (h : yaZ u = true) : TM P C ts ts1 χ ξ ds ρ p u u := fun v hv => ⟨v, (hv.noref h).1, .no v (hv.noL' h)⟩
theorem TM.list : ∀ {us us1 : List (TV K)} {vs : List AV}, us1.length = us.length → (∀ (j : Nat) (u u1 : TV K), us[j]? = some u → us1[j]? = some u1 → TM P C ts ts1 χ ξ ds ρ p u u1) → TL P C ts χ us vs →
  ∃ vs1, TL P C ts1 (χ1 ξ) us1 vs1 ∧ vs1.length = vs.length ∧ ∀ (j : Nat) (a b : AV), vs1[j]? = some a → vs[j]? = some b → RV ρ (toD ds) p a b
 | [], us1, vs, hl, _, t => by
   have h1 : us1 = [] := List.eq_nil_of_length_eq_zero hl
   have h2 : vs = [] := List.eq_nil_of_length_eq_zero t.1
   subst h1; subst h2
   exact ⟨[], .nil, rfl, fun j a b h => by simp at h⟩
 | u :: us, us1, vs, hl, hh, t => by
   cases us1 with
   | nil => simp at hl
   | cons u1 us1 => cases vs with
     | nil => simp [TL] at t
     | cons v vs =>
       obtain ⟨v1, a1, a2⟩ := hh 0 u u1 rfl rfl v t.head.1
       obtain ⟨vs1, b1, b2, b3⟩ := TM.list (us := us) (us1 := us1) (vs := vs) (by simpa using hl) (fun j u u1 x y => hh (j + 1) u u1 (by simpa using x) (by simpa using y)) t.head.2
       refine ⟨v1 :: vs1, .cons a1 b1, by simp [b2], fun j a b x y => ?_⟩
       cases j with
       | zero => simp at x y; subst x; subst y; exact a2
       | succ j => exact b3 j a b (by simpa using x) (by simpa using y)
theorem TM.agg {us us1 : List (TV K)} (hl : us1.length = us.length) (hh : ∀ (j : Nat) (u u1 : TV K), us[j]? = some u → us1[j]? = some u1 → TM P C ts ts1 χ ξ ds ρ p u u1) : TM P C ts ts1 χ ξ ds ρ p (.agg us) (.agg us1) := by
 intro v hv
 obtain ⟨vs, rfl, t⟩ := hv.agg'
 obtain ⟨vs1, a, b, c⟩ := TM.list hl hh t
 exact ⟨.agg vs1, .agg _ _ a.1 a.2, .agg _ _ b c⟩
theorem TM.tup {us us1 : List (TV K)} (hl : us1.length = us.length) (hh : ∀ (j : Nat) (u u1 : TV K), us[j]? = some u → us1[j]? = some u1 → TM P C ts ts1 χ ξ ds ρ p u u1) : TM P C ts ts1 χ ξ ds ρ p (.tup us) (.tup us1) := by
 intro v hv
 obtain ⟨vs, rfl, t⟩ := hv.tup'
 obtain ⟨vs1, a, b, c⟩ := TM.list hl hh t
 exact ⟨.tup vs1, .tup _ _ a.1 a.2, .tup _ _ b c⟩
theorem TM.fn {f : Nat} {us us1 ws ws1 : List (TV K)} (hl : us1.length = us.length) (hh : ∀ (j : Nat) (u u1 : TV K), us[j]? = some u → us1[j]? = some u1 → TM P C ts ts1 χ ξ ds ρ p u u1)
  (hl' : ws1.length = ws.length) (hh' : ∀ (j : Nat) (u u1 : TV K), ws[j]? = some u → ws1[j]? = some u1 → TM P C ts ts1 χ ξ ds ρ p u u1) : TM P C ts ts1 χ ξ ds ρ p (.fn f us ws) (.fn f us1 ws1) := by
 intro v hv
 cases hv with
 | fn _ _ _ a' c' ha hc h h' =>
   obtain ⟨vs1, a, b, c⟩ := TM.list hl hh (show TL P C ts χ us a' from ⟨ha, h⟩)
   obtain ⟨vs2, a2, b2, c2⟩ := TM.list hl' hh' (show TL P C ts χ ws c' from ⟨hc, h'⟩)
   exact ⟨.fn (.func f) vs1 vs2, .fn _ _ _ _ _ a.1 a2.1 a.2 a2.2, .fn _ _ _ _ _ b c b2 c2⟩
theorem TM.cn {id : Nat} {u : TV K} (hrg : ∀ id w, lkR ts.rg id = some w → lkR ts1.rg id = some w) : TM P C ts ts1 χ ξ ds ρ p (.cn id u) (.cn id u) := by
 intro v hv
 cases hv with
 | cn _ _ _ h hn hv => exact ⟨v, .cn id u v (hrg _ _ h) hn (hv.noref hn).1, .no v (hv.noL' hn)⟩
theorem TM.strip {id : Nat} {u u1 : TV K} (h : TM P C ts ts1 χ ξ ds ρ p u u1) : TM P C ts ts1 χ ξ ds ρ p (.cn id u) u1 := by
 intro v hv
 cases hv with
 | cn _ _ _ _ hn hv => exact h v hv
theorem TM.rw {s c s1 n : Nat} (hn : tln (ts.tb s c) = some n) (hn1 : tln (ts1.tb s1 1) = some n) (h0 : χ s c = false → ρ s1 = some (s, c) ∧ ξ s1 = false) (h1 : χ s c = true → ξ s1 = true) : TM P C ts ts1 χ ξ ds ρ p (.rw s c) (.rw s1 1) := by
 intro v hv
 rcases hv.rwi hn with ⟨hx, rfl⟩ | ⟨hx, rfl, rfl⟩
 ·obtain ⟨q1, q2⟩ := h0 hx
  exact ⟨.gs (.l s1 1) n, .rw s1 1 n (.inl rfl) hn1 (by simp [χ1, q2]), .gs s1 n (s, c) q1⟩
 ·exact ⟨.sl true 0 [], .rwn s1 1 (.inl rfl) hn1 (by simp [χ1, h1 hx]), .no _ rfl⟩
theorem TM.nilrw {s1 : Nat} (hn1 : tln (ts1.tb s1 1) = some 0) (h1 : ξ s1 = true) : TM P C ts ts1 χ ξ ds ρ p .nil (.rw s1 1) := by
 intro v hv
 cases hv
 exact ⟨.sl true 0 [], .rwn s1 1 (.inl rfl) hn1 (by simp [χ1, h1]), .no _ rfl⟩
theorem TM.px {s c s1 o : Nat} (h : ρ s1 = some (s, c)) : TM P C ts ts1 χ ξ ds ρ p (.px s c o) (.px s1 1 o) := by
 intro v hv
 rw [hv.pxi]
 exact ⟨.pt (.l s1 1) o, .px _ _ _ (.inl rfl), .pt s1 o (s, c) h⟩
theorem TM.pr {e s c i o s1 : Nat} (h : χ s c = false → ρ s1 = some (s, c) ∧ ξ s1 = false) : TM P C ts ts1 χ ξ ds ρ p (.pr e s c i o) (.pr e s1 1 i o) := by
 intro v hv
 obtain ⟨hx, rfl⟩ := hv.pri
 obtain ⟨q1, q2⟩ := h hx
 exact ⟨.pt (.l s1 1) _, .pr _ _ _ _ _ (.inl rfl) (by simp [χ1, q2]), .pt s1 _ (s, c) q1⟩
theorem TM.fz (hC : CxOk P C) (hγ : GM P C R ts χ ds) {s c e : Nat} {l : List (K e)} (hl : trow C e (ts.tb s c) = some l) (hp : χ s c = false → p (s, c)) : TM P C ts ts1 χ ξ ds ρ p (.rw s c) (.sl e l) := by
 intro v hv
 obtain ⟨g1, g2, g3⟩ := hγ.trow hC hl
 rcases hv.rwi g1 with ⟨hx, rfl⟩ | ⟨hx, h0, rfl⟩
 ·obtain ⟨kb, k1, k2, k3, k4⟩ := g3 hx
  refine ⟨.sl false l.length kb.cells, .sl e l _ _ _ rfl k4, ?_⟩
  exact .pub (s, c) l.length kb.blk (hp hx) (by show (ds.kb s c).map KB.blk = _; rw [k1]; rfl) (by show kb.cells.length = l.length * kb.sz; rw [k3, ← ybG kb.cells, k4, yi8]) (by show kb.sz ≠ 0; rw [k3]; exact Nat.pos_iff_ne_zero.1 (C.E e).pos) (ycV k4)
 ·have := g2 hx; subst this
  exact ⟨.sl true 0 [], .sl e [] _ _ _ rfl rfl, .no _ rfl⟩
theorem TM.sem {u u1 : TV K} (h : ∀ v, TR P C ts χ u v → TR P C ts1 (χ1 ξ) u1 v ∧ v.noL = true) : TM P C ts ts1 χ ξ ds ρ p u u1 := fun v hv => ⟨v, (h v hv).1, .no v (h v hv).2⟩
variable (P C ts ts1 χ ξ ds ρ p) in
def BM (b b1 : TB K) : Prop := ∀ kb, MR P C ts χ b kb → ∃ cells1, MR P C ts1 (χ1 ξ) b1 ⟨kb.e, kb.sz, cells1, false⟩ ∧ RVL ρ (toD ds) p cells1 kb.cells
theorem BM.row {e : Nat} {l : List (K e)} : BM P C ts ts1 χ ξ ds ρ p (.row e l) (.row e l) := fun kb h => ⟨kb.cells, h, RVL.no (ycV h.2.2)⟩
theorem BM.box {e : Nat} {cs cs1 : List (TV K)} (hl : cs1.length = cs.length) (hh : ∀ (j : Nat) (u u1 : TV K), cs[j]? = some u → cs1[j]? = some u1 → TM P C ts ts1 χ ξ ds ρ p u u1) : BM P C ts ts1 χ ξ ds ρ p (.box e cs) (.box e cs1) := by
 intro kb h
 obtain ⟨vs1, a, b, c⟩ := TM.list hl hh (show TL P C ts χ cs kb.cells from ⟨h.2.2.1, h.2.2.2⟩)
 exact ⟨vs1, ⟨h.1, by rw [hl]; exact h.2.1, a.1, a.2⟩, b, c⟩
theorem BM.lrow {e n : Nat} {cs cs1 : List (TV K)} (hl : cs1.length = cs.length) (hh : ∀ (j : Nat) (u u1 : TV K), cs[j]? = some u → cs1[j]? = some u1 → TM P C ts ts1 χ ξ ds ρ p u u1) : BM P C ts ts1 χ ξ ds ρ p (.lrow e n cs) (.lrow e n cs1) := by
 intro kb h
 obtain ⟨vs1, a, b, c⟩ := TM.list hl hh (show TL P C ts χ cs kb.cells from ⟨h.2.2.1, h.2.2.2.2⟩)
 exact ⟨vs1, ⟨h.1, h.2.1, a.1, by rw [hl]; exact h.2.2.2.1, a.2⟩, b, c⟩
theorem BM.lr {e n : Nat} {cs : List (TV K)} {l : List (K e)} (hC : CxOk P C) (hc : ytf (C.T e).rd (C.E e).sz n cs = some l) : BM P C ts ts1 χ ξ ds ρ p (.lrow e n cs) (.row e l) := by
 intro kb h
 obtain ⟨a1, a2⟩ := ynl hC n cs kb.cells l hc ⟨h.2.2.1, h.2.2.2.2⟩ h.2.2.2.1
 exact ⟨kb.cells, ⟨h.1, h.2.1, a1⟩, RVL.no (ycV a1)⟩
theorem yra (g : Nat → AV) : ∀ (l : List (Nat × TV K)) (t : Nat), (lkF (l.map fun p => (p.1, g p.1)) t = g t) ∨ (lkF (l.map fun p => (p.1, g p.1)) t = .un ∧ lkT l t = .un)
 | [], t => .inr ⟨rfl, rfl⟩
 | p :: r, t => by
   rw [List.map_cons, ydb, show p :: r = (p.1, p.2) :: r from rfl, yek]
   simp only
   by_cases e : p.1 = t
   ·subst e; simp
   ·rw [if_neg e, if_neg e]; exact yra g r t
theorem yl3 (q : Nat → Bool) (g : Nat → KB) : ∀ (l : List (Nat × Option (TB K))) (s : Nat), lkM ((l.filter fun p => q p.1).map fun p => (p.1, g p.1)) s = if memB l s = true ∧ q s = true then some (g s) else none
 | [], s => by simp [lkM, memB]
 | p :: r, s => by
   have hm : memB (p :: r) s = (Nat.beq p.1 s || memB r s) := rfl
   rw [hm]
   by_cases e : p.1 = s
   ·subst e
    rw [nbeq.2 rfl]
    cases hq : q p.1 with
    | true =>
      rw [List.filter_cons, if_pos hq, List.map_cons, yn8]; simp
    | false =>
      rw [List.filter_cons, if_neg (by rw [hq]; simp), yl3 q g r p.1]; simp [hq]
   ·have hb : Nat.beq p.1 s = false := by
     cases h : Nat.beq p.1 s with
     | false => rfl
     | true => exact absurd (nbeq.1 h) e
    rw [hb, Bool.false_or]
    cases hq : q p.1 with
    | true => rw [List.filter_cons, if_pos hq, List.map_cons, yn8]; simp only [e, if_false]; exact yl3 q g r s
    | false => rw [List.filter_cons, if_neg (by rw [hq]; simp)]; exact yl3 q g r s
theorem yxI (hB : ydZ B) (hγ : GM P C R ts χ ds) (hk : DOk ds) (ρ : Nat → Option (Nat × Nat)) (p : Nat × Nat → Prop) (ξ : Nat → Bool) (ts1 : TS K) (hnw : ts1.nw = []) (hhp : ∀ H n, R ts.h H n → R ts1.h H n)
  (hρ : ∀ s k, ρ s = some k → χ k.1 k.2 = false ∧ ∃ b b1, ts.tb k.1 k.2 = some b ∧ lkB ts1.od s = some b1 ∧ BM P C ts ts1 χ ξ ds ρ p b b1)
  (hm : ∀ s b1, lkB ts1.od s = some b1 → ξ s = false → ∃ k, ρ s = some k) (hv : ∀ s, ξ s = true → ρ s = none ∧ ∃ e, lkB ts1.od s = some (.row e []))
  (hlv : ∀ s b1, 2000000 ≤ s → lkB ts1.od s = some b1 → R.L s = ξ s) (hfix : ∀ s k, 2000000 ≤ s → ρ s = some k → k = (s, 1)) (inj : ∀ s s' k, ρ s = some k → ρ s' = some k → s = s') (hp : ∀ k, p k → χ k.1 k.2 = false ∧ ∃ e l, trow C e (ts.tb k.1 k.2) = some l ∧ ∀ s, ρ s ≠ some k) (hC : CxOk P C)
  (fr : ∀ t, TM P C ts ts1 χ ξ ds ρ p (lkT ts.fr t) (lkT ts1.fr t)) {X : KS → Prop} (h : ∀ ks, KOk ks → GM P C R ts1 (χ1 ξ) (ofK ks) → X ks) : RE B N (toD ds) X := by
 have hg : ∀ t, ∃ v1, TR P C ts1 (χ1 ξ) (lkT ts1.fr t) v1 ∧ RV ρ (toD ds) p v1 (lkF ds.fr t) := fun t => fr t _ (hγ.fr t)
 let g : Nat → AV := fun t => Classical.choose (hg t)
 have hg' : ∀ t, TR P C ts1 (χ1 ξ) (lkT ts1.fr t) (g t) ∧ RV ρ (toD ds) p (g t) (lkF ds.fr t) := fun t => Classical.choose_spec (hg t)
 have hgm : ∀ s, ∃ kb1 : KB, ∀ k, ρ s = some k → ∃ kb b1, ds.kb k.1 k.2 = some kb ∧ lkB ts1.od s = some b1 ∧ kb1.e = kb.e ∧ kb1.sz = kb.sz ∧ kb1.q = false ∧ MR P C ts1 (χ1 ξ) b1 kb1 ∧ RVL ρ (toD ds) p kb1.cells kb.cells := by
  intro s
  cases hs : ρ s with
  | none => exact ⟨⟨0, 0, [], false⟩, fun k hk => by cases hk⟩
  | some k =>
    obtain ⟨h0, b, b1, h1, h2, h3⟩ := hρ s k hs
    obtain ⟨kb, k1, k2⟩ := hγ.mb k.1 k.2 b h1 h0
    obtain ⟨cells1, c1, c2⟩ := h3 kb k2
    exact ⟨⟨kb.e, kb.sz, cells1, false⟩, fun k' hk' => by cases hk'; exact ⟨kb, b1, k1, h2, rfl, rfl, rfl, c1, c2⟩⟩
 let gm : Nat → KB := fun s => Classical.choose (hgm s)
 have hgm' : ∀ s k, ρ s = some k → ∃ kb b1, ds.kb k.1 k.2 = some kb ∧ lkB ts1.od s = some b1 ∧ (gm s).e = kb.e ∧ (gm s).sz = kb.sz ∧ (gm s).q = false ∧ MR P C ts1 (χ1 ξ) b1 (gm s) ∧ RVL ρ (toD ds) p (gm s).cells kb.cells := fun s => Classical.choose_spec (hgm s)
 let ks1 : KS := ⟨ts1.fr.map fun p => (p.1, g p.1), (ts1.od.filter fun p => (ρ p.1).isSome).map fun p => (p.1, gm p.1), ds.H, ds.nx⟩
 have hmem : ∀ s, lkM ks1.mem s = if (ρ s).isSome = true then some (gm s) else none := by
  intro s
  show lkM ((ts1.od.filter fun p => (ρ p.1).isSome).map fun p => (p.1, gm p.1)) s = _
  rw [yl3 (fun s => (ρ s).isSome) gm ts1.od s]
  by_cases hs : (ρ s).isSome = true
  ·obtain ⟨k, hk'⟩ := Option.isSome_iff_exists.1 hs
   obtain ⟨_, b, b1, _, h2, _⟩ := hρ s k hk'
   rw [if_pos ⟨yfO h2, hs⟩, if_pos hs]
  ·rw [if_neg (fun q => hs q.2), if_neg hs]
 have hok : KOk ks1 := by
  intro s b hb
  rw [hmem] at hb
  split at hb
  ·rename_i hs
   cases hb
   obtain ⟨k, hk'⟩ := Option.isSome_iff_exists.1 hs
   obtain ⟨kb, b1, h1, h2, h3, h4, h5, _⟩ := hgm' s k hk'
   exact ⟨by rw [h4]; exact (hk k.1 k.2 kb h1).1, fun q => by rw [h5] at q; cases q⟩
  ·cases hb
 refine RE.of (ks1 := ks1) hB (ρ := ρ) (p := p) { dom := ?_, at' := ?_, inj := inj, disj := ?_, pub := ?_, fr := ?_, H := fun _ => rfl, nx := rfl, fix := fun d k hd h => hfix d k hd h } hok (h ks1 hok ⟨?_, ?_, ?_, ?_, hhp _ _ hγ.hp, fun s b q e => by rw [hlv s b q e]; simp [χ1]⟩)
 ·intro d b1 hb
  rw [hmem] at hb
  split at hb
  ·rename_i hs; exact Option.isSome_iff_exists.1 hs
  ·cases hb
 ·intro d k hd
  obtain ⟨kb, b1, h1, h2, h3, h4, h5, h6, h7⟩ := hgm' d k hd
  refine ⟨kb.blk, gm d, by show (ds.kb k.1 k.2).map KB.blk = _; rw [h1]; rfl, (hk k.1 k.2 kb h1).1, by rw [hmem, hd]; rfl, h3, h4, h7⟩
 ·intro k d hp' hd; obtain ⟨_, e, l, _, h3⟩ := hp k hp'; exact h3 d hd
 ·intro k hp'
  obtain ⟨h0, e, l, h1, _⟩ := hp k hp'
  obtain ⟨kb, k1, k2, k3, k4⟩ := (hγ.trow hC h1).2.2 h0
  exact ⟨kb.blk, by show (ds.kb k.1 k.2).map KB.blk = _; rw [k1]; rfl, (hk k.1 k.2 kb k1).1⟩
 ·intro t
  show RV ρ (toD ds) p (lkF (ts1.fr.map fun p => (p.1, g p.1)) t) (lkF ds.fr t)
  rcases yra g ts1.fr t with e | ⟨e, _⟩
  ·rw [e]; exact (hg' t).2
  ·rw [e]; exact .un _
 ·intro t
  show TR P C ts1 (χ1 ξ) (lkT ts1.fr t) (lkF (ts1.fr.map fun p => (p.1, g p.1)) t)
  rcases yra g ts1.fr t with e | ⟨e, e2⟩
  ·rw [e]; exact (hg' t).1
  ·rw [e, e2]; exact .un _
 ·intro s c b hb hx
  rcases tb_c hb with rfl | rfl
  ·have hx' : ξ s = false := by simpa [χ1] using hx
   obtain ⟨k, hk'⟩ := hm s b hb hx'
   obtain ⟨kb, b1, h1, h2, h3, h4, h5, h6, h7⟩ := hgm' s k hk'
   have : b1 = b := by
    have hb' : lkB ts1.od s = some b := hb
    rw [h2] at hb'; exact Option.some.inj hb'
   subst this
   refine ⟨gm s, ?_, h6⟩
   show lkO (yqy ks1.mem) s = _
   rw [yiV, hmem, hk']; rfl
  ·have hb' : lkB ts1.nw s = some b := hb
   rw [hnw] at hb'; cases hb'
 ·intro s c hx
  simp only [χ1, Bool.and_eq_true, decide_eq_true_eq] at hx
  obtain ⟨rfl, hx⟩ := hx
  exact (hv s hx).2
 ·intro s _; rfl
end
end Go.AV
end
noncomputable section
namespace Go.AV
open Go.RowKit Go.RG Go.Lib
variable {K : Nat → Type}
section
variable {P : Program} {C : Cx K} {R : RR K} {ts ts1 : TS K} {χ : Nat → Nat → Bool} {ξ : Nat → Bool} {ds : DS} {B : Base} {N : Nat} {ρ : Nat → Option (Nat × Nat)} {p : Nat × Nat → Prop}
theorem yk8 (A : Nat → Nat → Option (TV K)) (D : Nat → Nat → Option Nat) (l : List (TV K)) : (rnVs A D l).length = l.length := by
 induction l with
 | nil => rfl
 | cons x l ih => simp [rnVs, ih]
variable (P C R ts ts1 χ ξ ds ρ p) in
structure RnOk (A : Nat → Nat → Option (TV K)) (D : Nat → Nat → Option Nat) : Prop where
 cx : CxOk P C
 γ : GM P C R ts χ ds
 A : ∀ s c w, A s c = some w → (∃ s1 n, w = .rw s1 1 ∧ tln (ts.tb s c) = some n ∧ tln (ts1.tb s1 1) = some n ∧ (χ s c = false → ρ s1 = some (s, c) ∧ ξ s1 = false) ∧ (χ s c = true → ξ s1 = true)) ∨
  (∃ e l, w = .sl e l ∧ trow C e (ts.tb s c) = some l ∧ (χ s c = false → p (s, c)))
 D : ∀ s c s1, D s c = some s1 → ρ s1 = some (s, c)
 rg : ∀ id w, lkR ts.rg id = some w → lkR ts1.rg id = some w
mutual
theorem yrz {A : Nat → Nat → Option (TV K)} {D : Nat → Nat → Option Nat} (h : RnOk P C R ts ts1 χ ξ ds ρ p A D) : ∀ u, TM P C ts ts1 χ ξ ds ρ p u (rnV A D u)
 | .un => TM.un _
 | .lb b => TM.noref rfl
 | .bl b => TM.noref rfl
 | .li k n => TM.noref rfl
 | .it k n => TM.noref rfl
 | .st s => TM.noref rfl
 | .agg cs => TM.agg (yk8 A D cs) (ylo h cs)
 | .tup cs => TM.tup (yk8 A D cs) (ylo h cs)
 | .nil => TM.noref rfl
 | .em => TM.noref rfl
 | .sl e l => TM.noref rfl
 | .rw s c => by
   simp only [rnV]
   split
   ·rename_i w e
    rcases h.A s c w e with ⟨s1, n, rfl, h1, h2, h3, h4⟩ | ⟨e0, l, rfl, h1, h2⟩
    ·exact TM.rw h1 h2 h3 h4
    ·exact TM.fz h.cx h.γ h1 h2
   ·exact TM.un _
 | .px s c o => by
   simp only [rnV]
   split
   ·rename_i s1 e; exact TM.px (h.D s c s1 e)
   ·exact TM.un _
 | .pr e0 s c i o => by
   simp only [rnV]
   split
   ·rename_i s1 c1 e
    rcases h.A s c _ e with ⟨s2, n, e1, h1, h2, h3, h4⟩ | ⟨e0, l, e1, _⟩
    ·cases e1; exact TM.pr h3
    ·cases e1
   ·exact TM.un _
 | .ep e l i o => TM.noref rfl
 | .gs l i => TM.noref rfl
 | .nptr => TM.noref rfl
 | .fn f a c => TM.fn (yk8 A D a) (ylo h a) (yk8 A D c) (ylo h c)
 | .fv ps rs F => TM.noref rfl
 | .cn id v => TM.cn h.rg
theorem ylo {A : Nat → Nat → Option (TV K)} {D : Nat → Nat → Option Nat} (h : RnOk P C R ts ts1 χ ξ ds ρ p A D) : ∀ (us : List (TV K)) (j : Nat) (u u1 : TV K), us[j]? = some u → (rnVs A D us)[j]? = some u1 → TM P C ts ts1 χ ξ ds ρ p u u1
 | [], j, u, u1, h1, _ => by simp at h1
 | x :: us, j, u, u1, h1, h2 => by
   cases j with
   | zero => simp [rnVs] at h1 h2; subst h1; subst h2; exact yrz h x
   | succ j => exact ylo h us j u u1 (by simpa using h1) (by simpa [rnVs] using h2)
end
theorem BM.map {A : Nat → Nat → Option (TV K)} {D : Nat → Nat → Option Nat} (h : RnOk P C R ts ts1 χ ξ ds ρ p A D) {b b1 : TB K} (hb : mapB (rnV A D) (some b) = some b1) : BM P C ts ts1 χ ξ ds ρ p b b1 := by
 have hc : ∀ (cs : List (TV K)) (j : Nat) (u u1 : TV K), cs[j]? = some u → (cs.map (rnV A D))[j]? = some u1 → TM P C ts ts1 χ ξ ds ρ p u u1 := by
  intro cs j u u1 h1 h2
  rw [List.getElem?_map, h1] at h2
  cases h2; exact yrz h u
 cases b with
 | box e cs => cases hb; exact BM.box (by simp) (hc cs)
 | row e l => cases hb; exact BM.row
 | lrow e n cs => cases hb; exact BM.lrow (by simp) (hc cs)
theorem yq6 (a b : List (Nat × Option (TB K))) (s : Nat) : lkB (a ++ b) s = if memB a s = true then lkB a s else lkB b s := by
 induction a with
 | nil => rfl
 | cons p a ih =>
   have hm : memB (p :: a) s = (Nat.beq p.1 s || memB a s) := rfl
   rw [List.cons_append, ybT, ybT, ih, hm]
   by_cases e : p.1 = s
   ·rw [if_pos e, if_pos e, nbeq.2 e]; rfl
   ·rw [if_neg e, if_neg e]
    have : Nat.beq p.1 s = false := by
     cases h : Nat.beq p.1 s with
     | false => rfl
     | true => exact absurd (nbeq.1 h) e
    rw [this, Bool.false_or]
def REt (P : Program) (C : Cx K) (R : RR K) (B : Base) (N : Nat) (ts ts1 : TS K) : Prop := ∀ χ ds, DOk ds → GM P C R ts χ ds → RE B N (toD ds) (fun ks => KOk ks ∧ ∃ ξ, GM P C R ts1 ξ (ofK ks))
theorem yqO {nw : List (Nat × Option (TB K))} {s : Nat} (h : memB (nwL nw) s = true) : s < 2000000 := by
 induction nw with
 | nil => cases h
 | cons p r ih =>
   simp only [nwL] at h
   split at h
   ·exact ih h
   ·rename_i hp
    simp only [memB, Bool.or_eq_true] at h
    rcases h with h | h
    ·have := nbeq.1 h; subst this
     exact Nat.lt_of_not_le fun q => by rw [Nat.ble_eq_true_of_le q] at hp; cases hp
    ·exact ih h
theorem yyo {nw : List (Nat × Option (TB K))} {s : Nat} (h : s < 2000000) : lkB (nwL nw) s = lkB nw s := by
 induction nw with
 | nil => rfl
 | cons p r ih =>
   simp only [nwL]
   split
   ·rename_i hp
    have := Nat.le_of_ble_eq_true hp
    rw [ih, ybT, if_neg (by omega)]
   ·rw [ybT, ybT, ih]
theorem yzn (hB : ydZ B) (hC : CxOk P C) : REt P C R B N ts (er ts) := by
 intro χ ds hk hγ
 let cc : Nat → Nat := fun s => if memB (nwL ts.nw) s = true then 2 else 1
 let ρ : Nat → Option (Nat × Nat) := fun s => match ts.tb s (cc s) with
  | some _ => if χ s (cc s) = true then none else some (s, cc s)
  | none => none
 let ξ : Nat → Bool := fun s => χ s (cc s)
 have hlk : ∀ s, lkB (nwL ts.nw ++ ts.od) s = ts.tb s (cc s) := by
  intro s
  rw [yq6]
  by_cases h : memB (nwL ts.nw) s = true
  ·rw [if_pos h]; show _ = ts.tb s (if memB (nwL ts.nw) s = true then 2 else 1); rw [if_pos h]; exact yyo (yqO h)
  ·rw [if_neg h]; show _ = ts.tb s (if memB (nwL ts.nw) s = true then 2 else 1); rw [if_neg h]; rfl
 have hod : ∀ s, lkB (er ts).od s = mapB (rnV (erA ts) (erB ts)) (ts.tb s (cc s)) := by
  intro s; show lkB (mapM _ (nwL ts.nw ++ ts.od)) s = _; rw [mapM_at, hlk]
 have hρi : ∀ s k, ρ s = some k → k = (s, cc s) ∧ χ s (cc s) = false ∧ ∃ b, ts.tb s (cc s) = some b := by
  intro s k h
  have h' : (match ts.tb s (cc s) with | some _ => if χ s (cc s) = true then none else some (s, cc s) | none => none) = some k := h
  split at h'
  ·rename_i b hb
   split at h'
   ·cases h'
   ·rename_i hx
    cases h'
    exact ⟨rfl, by simpa using hx, b, hb⟩
  ·cases h'
 have hρs : ∀ s b, ts.tb s (cc s) = some b → χ s (cc s) = false → ρ s = some (s, cc s) := by
  intro s b hb hx
  show (match ts.tb s (cc s) with | some _ => if χ s (cc s) = true then none else some (s, cc s) | none => none) = _
  rw [hb]; simp [hx]
 have hN : ∀ s c s1, erN (nwL ts.nw) s c = some s1 → s1 = s ∧ c = cc s := by
  intro s c s1 h
  unfold erN at h
  show s1 = s ∧ c = if memB (nwL ts.nw) s = true then 2 else 1
  split at h
  ·rename_i hm
   rw [if_pos hm]
   split at h
   ·rename_i e; cases h; exact ⟨rfl, nbeq.1 e⟩
   ·cases h
  ·rename_i hm
   rw [if_neg (by rw [hm]; simp)]
   split at h
   ·rename_i e; cases h; exact ⟨rfl, nbeq.1 e⟩
   ·cases h
 have hRn : RnOk P C R ts (er ts) χ ξ ds ρ (fun _ => False) (erA ts) (erB ts) := by
  refine ⟨hC, hγ, ?_, ?_, fun _ _ h => h⟩
  ·intro s c w h
   unfold erA at h
   split at h
   ·rename_i n hn
    split at h
    ·rename_i s1 h1
     cases h
     obtain ⟨rfl, rfl⟩ := hN s c s1 h1
     refine .inl ⟨s1, n, rfl, hn, ?_, fun hx => ⟨?_, hx⟩, fun hx => hx⟩
     ·show tln (lkB (er ts).od s1) = _
      rw [hod, yqo]; exact hn
     ·cases hq : ts.tb s1 (cc s1) with
      | none => rw [hq] at hn; cases hn
      | some b => exact hρs s1 b hq hx
    ·cases h
   ·cases h
  ·intro s c s1 h
   unfold erB at h
   split at h
   ·rename_i e cs hb
    obtain ⟨rfl, rfl⟩ := hN s c s1 h
    exact hρs s1 _ hb (hγ.box hb)
   ·cases h
 have hlv : ∀ s b1, 2000000 ≤ s → lkB (er ts).od s = some b1 → R.L s = ξ s := by
  intro s b1 q e
  have hm : ¬ memB (nwL ts.nw) s = true := fun hm => by have := yqO hm; omega
  have hc : cc s = 1 := if_neg hm
  rw [hod, hc] at e
  show _ = χ s (cc s)
  rw [hc]
  cases hq : ts.tb s 1 with
  | none => rw [hq] at e; cases e
  | some b => exact hγ.lv s b q hq
 refine yxI hB hγ hk ρ (fun _ => False) ξ (er ts) rfl (fun _ _ h => h) ?_ ?_ ?_ hlv ?_ ?_ (fun k h => h.elim) hC ?_ (fun ks h1 h2 => ⟨h1, _, h2⟩)
 ·intro s k h
  obtain ⟨rfl, h1, b, hb⟩ := hρi s k h
  refine ⟨h1, b, ?_⟩
  cases hm : mapB (rnV (erA ts) (erB ts)) (some b) with
  | none => cases b <;> cases hm
  | some b1 => exact ⟨b1, hb, by rw [hod, hb]; exact hm, BM.map hRn hm⟩
 ·intro s b1 h hx
  rw [hod] at h
  cases hq : ts.tb s (cc s) with
  | none => rw [hq] at h; cases h
  | some b => exact ⟨_, hρs s b hq hx⟩
 ·intro s hx
  obtain ⟨e, h1⟩ := hγ.vi s (cc s) hx
  refine ⟨?_, e, by rw [hod, h1]; rfl⟩
  show (match ts.tb s (cc s) with | some _ => if χ s (cc s) = true then none else some (s, cc s) | none => none) = none
  rw [h1]
  exact if_pos hx
 ·intro s k hs h
  have e1 := (hρi s k h).1
  have hm : ¬ memB (nwL ts.nw) s = true := fun hm => by have := yqO hm; omega
  rw [e1]; show (s, if memB (nwL ts.nw) s = true then 2 else 1) = _; rw [if_neg hm]
 ·intro s s' k h h'
  have e1 := (hρi s k h).1
  have e2 := (hρi s' k h').1
  rw [e1] at e2
  exact (Prod.mk.inj e2).1
 ·intro t
  show TM _ _ _ _ _ _ _ _ _ (lkT ts.fr t) (lkT (mapF (rnV (erA ts) (erB ts)) ts.fr) t)
  rw [ynH _ rfl]
  exact yrz hRn _
theorem RE.bind {S : St} {X Y : KS → Prop} (h : RE B N S X) (k : ∀ ks, KOk ks → X ks → RE B N (toS ks) Y) : RE B N S Y := by
 intro a G hR
 obtain ⟨ks1, G1, h1, h2, h3⟩ := h a G hR
 obtain ⟨ks2, G2, k1, k2, k3⟩ := k ks1 h2.2 h3 a G1 h2.1
 exact ⟨ks2, G2, by rw [k1, h1], k2, k3⟩
theorem REt.trans {ts2 : TS K} (h : REt P C R B N ts ts1) (k : REt P C R B N ts1 ts2) : REt P C R B N ts ts2 := by
 intro χ ds hk hγ
 refine RE.bind (h χ ds hk hγ) fun ks hko ⟨_, ξ, hg⟩ => ?_
 rw [← yh8]
 exact k ξ (ofK ks) (yhp hko) hg
def REk (P : Program) (C : Cx K) (R : RR K) (B : Base) (N : Nat) (ts ts1 : TS K) : Prop := ∀ χ ks, KOk ks → GM P C R ts χ (ofK ks) → RE B N (toS ks) (fun ks => KOk ks ∧ ∃ ξ, GM P C R ts1 ξ (ofK ks))
theorem REt.k (h : REt P C R B N ts ts1) : REk P C R B N ts ts1 := by
 intro χ ks hk hγ
 have := h χ (ofK ks) (yhp hk) hγ
 rw [yh8] at this
 exact this
theorem REk.refl : REk P C R B N ts ts := fun χ ks hk hγ => RE.id hk ⟨hk, χ, hγ⟩
theorem REk.trans {ts2 : TS K} (h : REk P C R B N ts ts1) (k : REk P C R B N ts1 ts2) : REk P C R B N ts ts2 := fun χ ks hk hγ => RE.bind (h χ ks hk hγ) fun ks' hko ⟨_, ξ, hg⟩ => k ξ ks' hko hg
theorem REt.thenk {ts2 : TS K} (h : REt P C R B N ts ts1) (k : REk P C R B N ts1 ts2) : REt P C R B N ts ts2 := fun χ ds hk hγ => RE.bind (h χ ds hk hγ) fun ks' hko ⟨_, ξ, hg⟩ => k ξ ks' hko hg
theorem ywN (hB : ydZ B) (hC : CxOk P C) (s0 : Nat) : REk P C R B N ts (fz C ts s0) := by
 intro χ ks hk hγ
 unfold fz
 split
 rotate_left
 ·exact RE.id hk ⟨hk, χ, hγ⟩
 ·rename_i l hnw hl
  rw [← yh8]
  generalize he0 : tbe (ts.tb s0 1) = e0 at l hl
  let A := fzS ts s0 (.sl e0 l)
  let D := fzB ts
  let tsF : TS K := ⟨mapF (rnV A D) ts.fr, (s0, none) :: mapM (rnV A D) ts.od, [], ts.rg, ts.h⟩
  let ρ : Nat → Option (Nat × Nat) := fun s => if s = s0 then none else match ts.tb s 1 with
   | some _ => if χ s 1 = true then none else some (s, 1)
   | none => none
  let ξ : Nat → Bool := fun s => if s = s0 then false else χ s 1
  let p : Nat × Nat → Prop := fun k => k = (s0, 1) ∧ χ s0 1 = false
  have hod : ∀ s, s ≠ s0 → lkB tsF.od s = mapB (rnV A D) (ts.tb s 1) := by
   intro s hs
   show lkB ((s0, none) :: mapM (rnV A D) ts.od) s = _
   rw [ybT, if_neg (fun e => hs e.symm), mapM_at]; rfl
  have hod0 : lkB tsF.od s0 = none := by show lkB ((s0, none) :: mapM (rnV A D) ts.od) s0 = _; rw [ybT, if_pos rfl]
  have hρi : ∀ s k, ρ s = some k → s ≠ s0 ∧ k = (s, 1) ∧ χ s 1 = false ∧ ∃ b, ts.tb s 1 = some b := by
   intro s k h
   have h' : (if s = s0 then none else match ts.tb s 1 with | some _ => if χ s 1 = true then none else some (s, 1) | none => none) = some k := h
   split at h'
   ·cases h'
   ·rename_i hs
    split at h'
    ·rename_i b hb
     split at h'
     ·cases h'
     ·rename_i hx; cases h'; exact ⟨hs, rfl, by simpa using hx, b, hb⟩
    ·cases h'
  have hρs : ∀ s b, s ≠ s0 → ts.tb s 1 = some b → χ s 1 = false → ρ s = some (s, 1) := by
   intro s b hs hb hx
   show (if s = s0 then none else match ts.tb s 1 with | some _ => if χ s 1 = true then none else some (s, 1) | none => none) = _
   rw [if_neg hs, hb]; simp [hx]
  have hRn : RnOk P C R ts tsF χ ξ (ofK ks) ρ p A D := by
   refine ⟨hC, hγ, ?_, ?_, fun _ _ h => h⟩
   ·intro s c w h
    have h' : fzS ts s0 (.sl e0 l) s c = some w := h
    unfold fzS at h'
    split at h'
    ·rename_i hc
     have := nbeq.1 hc; subst this
     split at h'
     ·rename_i hs
      have := nbeq.1 hs; subst this
      cases h'
      exact .inr ⟨e0, l, rfl, hl, fun hx => ⟨rfl, hx⟩⟩
     ·rename_i hs
      have hs' : s ≠ s0 := fun e => by rw [nbeq.2 e] at hs; cases hs
      split at h'
      ·rename_i n hn
       cases h'
       refine .inl ⟨s, n, rfl, hn, ?_, fun hx => ⟨?_, ?_⟩, fun hx => ?_⟩
       ·show tln (lkB tsF.od s) = _
        rw [hod s hs', yqo]; exact hn
       ·cases hq : ts.tb s 1 with
        | none => rw [hq] at hn; cases hn
        | some b => exact hρs s b hs' hq hx
       ·show (if s = s0 then false else χ s 1) = false; rw [if_neg hs']; exact hx
       ·show (if s = s0 then false else χ s 1) = true; rw [if_neg hs']; exact hx
      ·cases h'
    ·cases h'
   ·intro s c s1 h
    have h' : fzB ts s c = some s1 := h
    unfold fzB at h'
    split at h'
    ·rename_i e cs hc hb
     cases h'
     have := nbeq.1 hc; subst this
     refine hρs _ _ ?_ hb (hγ.box hb)
     rintro rfl
     rw [hb] at hl; cases hl
    ·cases h'
  have hlv : ∀ s b1, 2000000 ≤ s → lkB tsF.od s = some b1 → R.L s = ξ s := by
   intro s b1 q e
   have hs : s ≠ s0 := by rintro rfl; rw [hod0] at e; cases e
   rw [hod s hs] at e
   show _ = (if s = s0 then false else χ s 1)
   rw [if_neg hs]
   cases hq : ts.tb s 1 with
   | none => rw [hq] at e; cases e
   | some b => exact hγ.lv s b q hq
  refine yxI hB hγ (yhp hk) ρ p ξ tsF rfl (fun _ _ h => h) ?_ ?_ ?_ hlv (fun s k _ h => (hρi s k h).2.1) ?_ ?_ hC ?_ (fun ks h1 h2 => ⟨h1, _, h2⟩)
  ·intro s k h
   obtain ⟨hs, rfl, h1, b, hb⟩ := hρi s k h
   refine ⟨h1, b, ?_⟩
   cases hm : mapB (rnV A D) (some b) with
   | none => cases b <;> cases hm
   | some b1 => exact ⟨b1, hb, by rw [hod s hs, hb]; exact hm, BM.map hRn hm⟩
  ·intro s b1 h hx
   have hs : s ≠ s0 := by rintro rfl; rw [hod0] at h; cases h
   rw [hod s hs] at h
   have hx' : χ s 1 = false := by
    have : (if s = s0 then false else χ s 1) = false := hx
    rw [if_neg hs] at this; exact this
   cases hq : ts.tb s 1 with
   | none => rw [hq] at h; cases h
   | some b => exact ⟨_, hρs s b hs hq hx'⟩
  ·intro s hx
   have hx' : (if s = s0 then false else χ s 1) = true := hx
   split at hx'
   ·cases hx'
   ·rename_i hs
    obtain ⟨e, h1⟩ := hγ.vi s 1 hx'
    refine ⟨?_, e, by rw [hod s hs, h1]; rfl⟩
    show (if s = s0 then none else match ts.tb s 1 with | some _ => if χ s 1 = true then none else some (s, 1) | none => none) = none
    rw [if_neg hs, h1]
    exact if_pos hx'
  ·intro s s' k h h'
   have e1 := (hρi s k h).2.1
   have e2 := (hρi s' k h').2.1
   rw [e1] at e2
   exact (Prod.mk.inj e2).1
  ·rintro k ⟨rfl, hx⟩
   refine ⟨hx, e0, l, hl, fun s h => ?_⟩
   obtain ⟨hs, e1, _⟩ := hρi s _ h
   exact hs (Prod.mk.inj e1).1.symm
  ·intro t
   show TM _ _ _ _ _ _ _ _ _ (lkT ts.fr t) (lkT (mapF (rnV A D) ts.fr) t)
   rw [ynH _ rfl]
   exact yrz hRn _
theorem yrL (hB : ydZ B) (hC : CxOk P C) : ∀ (n : Nat) (vs : List (TV K)) (ts : TS K), REk P C R B N ts (fzA C n vs ts)
 | 0, _, _ => .refl
 | n + 1, vs, ts => by
   simp only [fzA]
   split
   ·exact .refl
   ·split
    ·exact (yrL hB hC n _ ts).trans (ywN hB hC _)
    ·exact ywN hB hC _
theorem ysT (hB : ydZ B) (hC : CxOk P C) (fr : List (Nat × TV K)) : ∀ (l : List (Nat × Kd)) (ts : TS K), REk P C R B N ts (fzT C fr l ts)
 | [], _ => .refl
 | (t, k) :: r, ts => by
   cases k with
   | sl e =>
     simp only [fzT]
     refine REk.trans ?_ (ysT hB hC fr r _)
     split
     ·exact ywN hB hC _
     ·exact .refl
   | _ => simp only [fzT]; exact ysT hB hC fr r ts
end
end Go.AV
end
noncomputable section
namespace Go.AV
open Go.RowKit Go.RG Go.Lib
variable {K : Nat → Type}
theorem yfZ {α : Type} (p : Nat × α) (r : List (Nat × α)) (t : Nat) : lkA (p :: r) t = if p.1 = t then some p.2 else lkA r t := by
 show (match Nat.beq p.1 t with | true => some p.2 | false => lkA r t) = _
 cases h : Nat.beq p.1 t with
 | true => simp [nbeq.1 h]
 | false => simp only; rw [if_neg (fun e => by rw [nbeq.2 e] at h; cases h)]
def SubA {α : Type} (m m' : List (Nat × α)) : Prop := ∀ s x, lkA m s = some x → lkA m' s = some x
theorem yqZ {α : Type} {eq : α → α → Bool} (heq : ∀ a b, eq a b = true → a = b) {m m' : List (Nat × α)} {s : Nat} {x : α} (h : addA eq m s x = some m') : SubA m m' ∧ lkA m' s = some x := by
 unfold addA at h
 split at h
 ·rename_i e
  cases h
  refine ⟨fun t y hy => ?_, by rw [yfZ]; simp⟩
  rw [yfZ]
  split
  ·rename_i e'; simp only at e'; subst e'; rw [e] at hy; cases hy
  ·exact hy
 ·rename_i q e
  split at h
  ·rename_i hq
   cases h
   exact ⟨fun _ _ h => h, by rw [e, heq _ _ hq]⟩
  ·cases h
theorem yg9 {p q : Nat × Nat} (h : ylO p q = true) : p = q := by
 unfold ylO at h
 simp only [Bool.and_eq_true] at h
 exact Prod.ext (nbeq.1 h.1) (nbeq.1 h.2)
theorem yr0 : ∀ {p q : Option (Nat × Nat)}, yyb p q = true → p = q
 | none, none, _ => rfl
 | some p, some q, h => by rw [yg9 (show ylO p q = true from h)]
 | none, some _, h => by cases h
 | some _, none, h => by cases h
structure SubM (m m' : RM) : Prop where
 r : SubA m.r m'.r
 b : SubA m.b m'.b
theorem SubM.refl {m : RM} : SubM m m := ⟨fun _ _ h => h, fun _ _ h => h⟩
theorem SubM.trans {a b c : RM} (h : SubM a b) (k : SubM b c) : SubM a c := ⟨fun s x q => k.r s x (h.r s x q), fun s x q => k.b s x (h.b s x q)⟩
section
variable {P : Program} {C : Cx K} {R : RR K} {ts ts1 : TS K} {χ : Nat → Nat → Bool} {ξ : Nat → Bool} {ds : DS} {B : Base} {N : Nat} {ρ : Nat → Option (Nat × Nat)} {p : Nat × Nat → Prop} {rg : List (Nat × TV K)}
theorem ynS (hC : CxOk P C) {t : Nat} {u : TV K} {x : K t} {v : AV} (h : outV C t u = some x) (hv : TR P C ts χ u v) : dwk v = eV C t x ∧ v.noL = true ∧ ∀ (ts' : TS K) (χ' : Nat → Nat → Bool), TR P C ts' χ' (inV C t x) v := by
 unfold outV at h
 unfold eV inV
 have hs := hv.s
 revert h hs
 generalize hw : u.s = w
 intro h hs
 cases hg : (C.T t).g with
 | true =>
   rw [hg] at h
   cases w with
   | agg cs =>
     simp only at h ⊢
     obtain ⟨vs, rfl, a, b⟩ := hs.agg'
     have tl := (show TL P C ts χ cs vs from ⟨a, b⟩).mapS
     have hd := hC.rd t _ x ts χ vs h tl.1 tl.2
     refine ⟨by simp only [dwk, hd], ?_, fun ts' χ' => ?_⟩
     ·simp only [AV.noL]; rw [← ydx, hd]; exact (C.E t).no x
     ·obtain ⟨c1, c2⟩ := hC.c t x ts' χ'
      refine .agg _ _ (by rw [← c1, ← hd, ybG]) (fun j u' v' h1 h2 => ?_)
      refine TR.undwk (c2 j u' (dwk v') h1 ?_) rfl
      rw [← hd, yc5, List.getElem?_map, h2]; rfl
   | _ => cases h
 | false =>
   rw [hg] at h
   have hsz := hC.g t hg
   have go : (C.T t).rd [w] = some x → dwk v = ((C.E t).c x).headD .un ∧ v.noL = true ∧ ∀ (ts' : TS K) (χ' : Nat → Nat → Bool), TR P C ts' χ' (match (C.T t).c x with | [v] => v | _ => .un) v := by
    intro h
    have tl : TL P C ts χ [w] [v] := .cons hs .nil
    have hd := hC.rd t [w] x ts χ [v] h tl.1 tl.2
    simp only [dwks] at hd
    refine ⟨by rw [← hd]; rfl, ?_, fun ts' χ' => ?_⟩
    ·have := (C.E t).no x
     rw [← hd] at this
     simp only [noLs, Bool.and_true] at this
     rw [← yfH]; exact this
    ·obtain ⟨c1, c2⟩ := hC.c t x ts' χ'
     rw [← hd] at c1 c2
     cases hc : (C.T t).c x with
     | nil => rw [hc] at c1; simp at c1
     | cons a r => cases r with
       | cons b r => rw [hc] at c1; simp at c1
       | nil => rw [hc] at c2; exact (c2 0 a (dwk v) rfl rfl).undwk rfl
   cases w with
   | agg cs => cases h
   | _ => exact go h
variable (P C ts ts1 χ ξ ρ) in
structure Good (M : RM) : Prop where
 r : ∀ s k, lkA M.r s = some (some k) → ∀ n, tln (ts.tb k.1 k.2) = some n → tln (ts1.tb s 1) = some n ∧ (χ k.1 k.2 = false → ρ s = some k ∧ ξ s = false) ∧ (χ k.1 k.2 = true → ξ s = true)
 rn : ∀ s k, lkA M.r s = some (some k) → ∃ n, tln (ts.tb k.1 k.2) = some n
 n : ∀ s, lkA M.r s = some none → tln (ts1.tb s 1) = some 0 ∧ ξ s = true
 b : ∀ s k, lkA M.b s = some k → ρ s = some k
 rg : ts1.rg = rg
theorem Good.sub {M m : RM} (h : Good (rg := rg) ts ts1 χ ξ ρ M) (k : SubM m M) : Good (rg := rg) ts ts1 χ ξ ρ m :=
 ⟨fun s q a => h.r s q (k.r _ _ a), fun s q a => h.rn s q (k.r _ _ a), fun s a => h.n s (k.r _ _ a), fun s q a => h.b s q (k.b _ _ a), h.rg⟩
def ExtR (rg rg' : List (Nat × TV K)) : Prop := ∀ id w, lkR rg id = some w → lkR rg' id = some w
theorem TM.stp {u : TV K} : ∀ {w u1 : TV K}, u.s = w → TM P C ts ts1 χ ξ ds ρ p w u1 → TM P C ts ts1 χ ξ ds ρ p u u1 := by
 intro w u1 e t
 cases u with
 | cn id v => simp only [TV.s] at e; subst e; exact TM.strip t
 | _ => simp only [TV.s] at e; subst e; exact t
theorem ygD (hC : CxOk P C) (hx : ExtR rg ts.rg) {k : Kd} {u : TV K} {m m' : RM} {a : List (DV K)} (h : rd1 C k u m = some (a, m')) : SubM m m' ∧ ∀ r, ∃ u1, bdV C rg k (a ++ r) = (u1, r) ∧ (Good (rg := rg) ts ts1 χ ξ ρ m' → TM P C ts ts1 χ ξ ds ρ p u u1) := by
 have st := @TM.stp K P C ts ts1 χ ξ ds ρ p u
 cases k with
 | it k =>
   simp only [rd1] at h
   split at h
   ·rename_i k' n e
    split at h
    ·rename_i ek
     subst ek; cases h
     refine ⟨.refl, fun r => ⟨.it k n, rfl, fun _ => ?_⟩⟩
     have e2 : u.s = .it k n ∨ u.s = .li k n := by
      revert e; generalize u.s = w; intro e
      cases w <;> simp [tint] at e
      ·obtain ⟨rfl, rfl⟩ := e; exact .inr rfl
      ·obtain ⟨rfl, rfl⟩ := e; exact .inl rfl
     rcases e2 with e2 | e2
     ·exact st e2 (TM.noref rfl)
     ·exact st e2 (TM.sem fun v hv => by cases hv; exact ⟨.it k n, rfl⟩)
    ·cases h
   ·cases h
 | bl =>
   simp only [rd1] at h
   split at h
   ·rename_i b e
    cases h
    refine ⟨.refl, fun r => ⟨.bl b, rfl, fun _ => ?_⟩⟩
    have e2 : u.s = .bl b ∨ u.s = .lb b := by
     revert e; generalize u.s = w; intro e
     cases w <;> simp [tbo] at e
     ·subst e; exact .inr rfl
     ·subst e; exact .inl rfl
    rcases e2 with e2 | e2
    ·exact st e2 (TM.noref rfl)
    ·exact st e2 (TM.sem fun v hv => by cases hv; exact ⟨.bl b, rfl⟩)
   ·cases h
 | st =>
   simp only [rd1] at h
   split at h
   ·rename_i s e
    cases h
    exact ⟨.refl, fun r => ⟨.st s, rfl, fun _ => st e (TM.noref rfl)⟩⟩
   ·cases h
 | sl e =>
   simp only [rd1] at h
   have bd : ∀ (l : List (K e)) r, bdV C rg (.sl e) (.l e l :: r) = (.sl e l, r) := by
    intro l r; simp [bdV, ykU]
   split at h
   ·rename_i e' l eu
    split at h
    ·rename_i l' hl
     obtain ⟨rfl, rfl⟩ := ydE hl
     cases h
     exact ⟨.refl, fun r => ⟨_, bd _ r, fun _ => st eu (TM.noref rfl)⟩⟩
    ·cases h
   ·rename_i eu
    cases h
    exact ⟨.refl, fun r => ⟨_, bd [] r, fun _ => st eu (TM.sem fun v hv => by cases hv; exact ⟨.sl e [] _ _ _ rfl rfl, rfl⟩)⟩⟩
   ·rename_i eu
    cases h
    exact ⟨.refl, fun r => ⟨_, bd [] r, fun _ => st eu (TM.sem fun v hv => by cases hv; exact ⟨.sl e [] _ _ _ rfl rfl, rfl⟩)⟩⟩
   ·cases h
 | v t =>
   simp only [rd1] at h
   split at h
   ·rename_i x e
    cases h
    refine ⟨.refl, fun r => ⟨inV C t x, by simp [bdV], fun _ => TM.sem fun v hv => ?_⟩⟩
    obtain ⟨_, a2, a3⟩ := ynS hC e hv
    exact ⟨a3 _ _, a2⟩
   ·cases h
 | agg l => simp only [rd1] at h; cases h
 | row s =>
   simp only [rd1] at h
   split at h
   ·rename_i s' c e
    unfold addR at h
    split at h
    ·rename_i r' hr
     cases h
     obtain ⟨h1, h2⟩ := yqZ (fun _ _ => yr0) hr
     refine ⟨⟨h1, fun _ _ q => q⟩, fun r => ⟨.rw s 1, rfl, fun hg => st e ?_⟩⟩
     obtain ⟨n, hn⟩ := hg.rn s (s', c) h2
     obtain ⟨g1, g2, g3⟩ := hg.r s (s', c) h2 n hn
     exact TM.rw hn g1 g2 g3
    ·cases h
   ·rename_i e
    unfold addR at h
    split at h
    ·rename_i r' hr
     cases h
     obtain ⟨h1, h2⟩ := yqZ (fun _ _ => yr0) hr
     refine ⟨⟨h1, fun _ _ q => q⟩, fun r => ⟨.rw s 1, rfl, fun hg => st e ?_⟩⟩
     obtain ⟨g1, g2⟩ := hg.n s h2
     exact TM.nilrw g1 g2
    ·cases h
   ·cases h
 | px s off =>
   simp only [rd1] at h
   split at h
   ·rename_i s' c off' e
    split at h
    ·rename_i ho
     have := nbeq.1 ho; subst this
     unfold addB at h
     split at h
     ·rename_i b' hb
      cases h
      obtain ⟨h1, h2⟩ := yqZ (fun _ _ => yg9) hb
      exact ⟨⟨fun _ _ q => q, h1⟩, fun r => ⟨.px s 1 off, rfl, fun hg => st e (TM.px (hg.b s (s', c) h2))⟩⟩
     ·cases h
    ·cases h
   ·cases h
 | kp id =>
   simp only [rd1] at h
   split at h
   ·rename_i id' w
    split at h
    ·rename_i hi
     have := nbeq.1 hi; subst this
     cases h
     refine ⟨.refl, fun r => ⟨match lkR rg id with | some v => .cn id v | none => .un, rfl, fun hg => ?_⟩⟩
     cases hr : lkR rg id with
     | none => exact TM.un _
     | some v =>
       intro v0 hv
       cases hv with
       | cn _ _ _ h1 hn hv =>
         have := hx id v hr
         rw [h1] at this; cases this
         exact ⟨v0, .cn id w v0 (by rw [hg.rg]; exact hr) hn (hv.noref hn).1, .no v0 (hv.noL' hn)⟩
    ·cases h
   ·cases h
 | nil =>
   simp only [rd1] at h
   split at h
   ·rename_i e
    cases h
    exact ⟨.refl, fun r => ⟨.nil, rfl, fun _ => st e (TM.noref rfl)⟩⟩
   ·cases h
 | np =>
   simp only [rd1] at h
   split at h
   ·rename_i e
    cases h
    exact ⟨.refl, fun r => ⟨.nptr, rfl, fun _ => st e (TM.noref rfl)⟩⟩
   ·cases h
 | fn f x y => simp only [rd1] at h; cases h
 | un =>
   simp only [rd1] at h
   cases h
   exact ⟨.refl, fun r => ⟨.un, by cases r <;> rfl, fun _ => TM.un _⟩⟩
mutual
theorem yvT (hC : CxOk P C) (hx : ExtR rg ts.rg) : ∀ (k : Kd) (u : TV K) (m m' : RM) (a : List (DV K)), rdV C k u m = some (a, m') → SubM m m' ∧ ∀ r, ∃ u1, bdV C rg k (a ++ r) = (u1, r) ∧ (Good (rg := rg) ts ts1 χ ξ ρ m' → TM P C ts ts1 χ ξ ds ρ p u u1)
 | .agg l, u, m, m', a, h => by
   simp only [rdV] at h
   split at h
   ·rename_i vs e
    obtain ⟨h1, h2⟩ := ylq hC hx l vs m m' a h
    refine ⟨h1, fun r => ?_⟩
    obtain ⟨us1, e1, e2, e3⟩ := h2 r
    refine ⟨.agg us1, by simp only [bdV, e1], fun hg => ?_⟩
    exact TM.stp e (TM.agg e2 (e3 hg))
   ·cases h
 | .fn f x y, u, m, m', a, h => by
   simp only [rdV] at h
   split at h
   ·rename_i f' x' y' e
    split at h
    ·rename_i hf
     have := nbeq.1 hf; subst this
     split at h
     ·rename_i a1 m1 h1
      split at h
      ·rename_i a2 m2 h2
       cases h
       obtain ⟨s1, t1⟩ := ylq hC hx x x' m m1 a1 h1
       obtain ⟨s2, t2⟩ := ylq hC hx y y' m1 m' a2 h2
       refine ⟨s1.trans s2, fun r => ?_⟩
       obtain ⟨us1, e1, e2, f1⟩ := t1 (a2 ++ r)
       obtain ⟨us2, e3, e4, f2⟩ := t2 r
       refine ⟨.fn f us1 us2, by rw [List.append_assoc]; simp only [bdV, e1, e3], fun hg => ?_⟩
       exact TM.stp e (TM.fn e2 (f1 (hg.sub s2)) e4 (f2 hg))
      ·cases h
     ·cases h
    ·cases h
   ·cases h
 | .np, u, m, m', a, h => ygD hC hx h
 | .it k, u, m, m', a, h => ygD hC hx h
 | .bl, u, m, m', a, h => ygD hC hx h
 | .st, u, m, m', a, h => ygD hC hx h
 | .sl e, u, m, m', a, h => ygD hC hx h
 | .v t, u, m, m', a, h => ygD hC hx h
 | .row s, u, m, m', a, h => ygD hC hx h
 | .px s o, u, m, m', a, h => ygD hC hx h
 | .kp id, u, m, m', a, h => ygD hC hx h
 | .nil, u, m, m', a, h => ygD hC hx h
 | .un, u, m, m', a, h => ygD hC hx h
theorem ylq (hC : CxOk P C) (hx : ExtR rg ts.rg) : ∀ (l : List Kd) (us : List (TV K)) (m m' : RM) (a : List (DV K)), rdVs C l us m = some (a, m') → SubM m m' ∧ ∀ r, ∃ us1, bdVs C rg l (a ++ r) = (us1, r) ∧ us1.length = us.length ∧ (Good (rg := rg) ts ts1 χ ξ ρ m' → ∀ (j : Nat) (u u1 : TV K), us[j]? = some u → us1[j]? = some u1 → TM P C ts ts1 χ ξ ds ρ p u u1)
 | [], [], m, m', a, h => by
   simp only [rdVs] at h; cases h
   exact ⟨.refl, fun r => ⟨[], rfl, rfl, fun _ j u u1 h => by simp at h⟩⟩
 | k :: l, u :: us, m, m', a, h => by
   simp only [rdVs] at h
   split at h
   ·rename_i a1 m1 h1
    split at h
    ·rename_i a2 m2 h2
     cases h
     obtain ⟨s1, t1⟩ := yvT hC hx k u m m1 a1 h1
     obtain ⟨s2, t2⟩ := ylq hC hx l us m1 m' a2 h2
     refine ⟨s1.trans s2, fun r => ?_⟩
     obtain ⟨u1, e1, f1⟩ := t1 (a2 ++ r)
     obtain ⟨us1, e2, e3, f2⟩ := t2 r
     refine ⟨u1 :: us1, ?_, by simp [e3], fun hg j u' u1' x y => ?_⟩
     ·rw [List.append_assoc]; simp only [bdVs, e1, e2]
     ·cases j with
      | zero => simp at x y; subst x; subst y; exact f1 (hg.sub s2)
      | succ j => exact f2 hg j u' u1' (by simpa using x) (by simpa using y)
    ·cases h
   ·cases h
 | [], _ :: _, _, _, _, h => by simp [rdVs] at h
 | _ :: _, [], _, _, _, h => by simp [rdVs] at h
end
theorem yt4 (hC : CxOk P C) (hx : ExtR rg ts.rg) : ∀ (l : List (Nat × Kd)) (m m' : RM) (a : List (DV K)), rdS C ts.fr l m = some (a, m') → SubM m m' ∧ ∀ r, ∃ fr1, bdS C rg l (a ++ r) = (fr1, r) ∧ (Good (rg := rg) ts ts1 χ ξ ρ m' → ∀ t, TM P C ts ts1 χ ξ ds ρ p (lkT ts.fr t) (lkT fr1 t))
 | [], m, m', a, h => by
   simp only [rdS] at h; cases h
   exact ⟨.refl, fun r => ⟨[], rfl, fun _ t => TM.un _⟩⟩
 | k :: l, m, m', a, h => by
   simp only [rdS] at h
   split at h
   ·rename_i a1 m1 h1
    split at h
    ·rename_i a2 m2 h2
     cases h
     obtain ⟨s1, t1⟩ := yvT hC hx k.2 (lkT ts.fr k.1) m m1 a1 h1
     obtain ⟨s2, t2⟩ := yt4 hC hx l m1 m' a2 h2
     refine ⟨s1.trans s2, fun r => ?_⟩
     obtain ⟨u1, e1, f1⟩ := t1 (a2 ++ r)
     obtain ⟨fr1, e2, f2⟩ := t2 r
     refine ⟨(k.1, u1) :: fr1, ?_, fun hg t => ?_⟩
     ·rw [List.append_assoc]; simp only [bdS, e1, e2]
     ·rw [yek]
      split
      ·rename_i e; rw [← e]; exact f1 (hg.sub s2)
      ·exact f2 hg t
    ·cases h
   ·cases h
theorem yxS (hC : CxOk P C) (hx : ExtR rg ts.rg) (l : List Kd) (us : List (TV K)) (m m' : RM) (a : List (DV K)) (h : rdW C l us m = some (a, m')) (e : Nat) : SubM m m' ∧ ∀ r, ∃ us1, bdW C rg l (a ++ r) = (us1, r) ∧ (Good (rg := rg) ts ts1 χ ξ ρ m' → BM P C ts ts1 χ ξ ds ρ p (.box e us) (.box e us1)) := by
 have gen : rdVs C l us m = some (a, m') → (∀ r, bdW C rg l (a ++ r) = bdVs C rg l (a ++ r)) → SubM m m' ∧ ∀ r, ∃ us1, bdW C rg l (a ++ r) = (us1, r) ∧ (Good (rg := rg) ts ts1 χ ξ ρ m' → BM P C ts ts1 χ ξ ds ρ p (.box e us) (.box e us1)) := by
  intro h hb
  obtain ⟨s1, t1⟩ := ylq (P := P) (ts1 := ts1) (χ := χ) (ξ := ξ) (ρ := ρ) (ds := ds) (p := p) hC hx l us m m' a h
  refine ⟨s1, fun r => ?_⟩
  obtain ⟨us1, e1, e2, f1⟩ := t1 r
  exact ⟨us1, by rw [hb]; exact e1, fun hg => BM.box e2 (f1 hg)⟩
 unfold rdW at h
 split at h
 ·rename_i t
  split at h
  ·rename_i hg
   split at h
   ·rename_i x hx'
    cases h
    refine ⟨.refl, fun r => ⟨(C.T t).c x, by simp [bdW, hg], fun _ kb hkb => ?_⟩⟩
    obtain ⟨k1, k2, k3, k4⟩ := hkb
    obtain ⟨_, b2, b3⟩ := ynS hC hx' (.agg us kb.cells k3 k4)
    have b4 := b3 ts1 (χ1 ξ)
    rw [show inV C t x = .agg ((C.T t).c x) by unfold inV; rw [hg]] at b4
    obtain ⟨vs, e1, c1, c2⟩ := b4.agg'
    cases e1
    have hl : us.length = ((C.T t).c x).length := by rw [← k3, c1]
    refine ⟨kb.cells, ⟨k1, by rw [k2, hl], by rw [c1], c2⟩, RVL.no ?_⟩
    simpa only [AV.noL] using b2
   ·cases h
  ·rename_i hg
   exact gen h fun r => by simp [bdW, hg]
 ·rename_i hn
  refine gen h fun r => ?_
  unfold bdW
  split
  ·rename_i t; exact absurd rfl (hn t)
  ·rfl
theorem yrG (hC : CxOk P C) (hx : ExtR rg ts.rg) : ∀ (l : List (Nat × Nat × List Kd)) (m m' : RM) (a : List (DV K)), rdB C ts l m = some (a, m') → SubM m m' ∧ ∀ r, ∃ od1, bdB C rg l (a ++ r) = (od1, r) ∧ (∀ s, memB od1 s = l.any fun q => Nat.beq q.1 s) ∧ (∀ s, memB od1 s = true → ∃ q e cs cs1, lkA m'.b s = some q ∧ ts.tb q.1 q.2 = some (.box e cs) ∧ lkB od1 s = some (.box e cs1) ∧
   (Good (rg := rg) ts ts1 χ ξ ρ m' → BM P C ts ts1 χ ξ ds ρ p (.box e cs) (.box e cs1)))
 | [], m, m', a, h => by
   simp only [rdB] at h; cases h
   exact ⟨.refl, fun r => ⟨[], rfl, fun s => rfl, fun s h => by cases h⟩⟩
 | k :: l, m, m', a, h => by
   simp only [rdB] at h
   split at h
   ·rename_i q hq
    split at h
    ·rename_i e cs hb
     split at h
     ·rename_i he
      have he := nbeq.1 he
      split at h
      ·rename_i a1 m1 h1
       split at h
       ·rename_i a2 m2 h2
        cases h
        obtain ⟨s1, t1⟩ := yxS (P := P) (ts1 := ts1) (χ := χ) (ξ := ξ) (ρ := ρ) (ds := ds) (p := p) hC hx k.2.2 cs m m1 a1 h1 e
        obtain ⟨s2, t2⟩ := yrG hC hx l m1 m' a2 h2
        refine ⟨s1.trans s2, fun r => ?_⟩
        obtain ⟨us1, e1, f1⟩ := t1 (a2 ++ r)
        obtain ⟨od1, e2, g2, f2⟩ := t2 r
        refine ⟨(k.1, some (.box k.2.1 us1)) :: od1, ?_, fun s => ?_, fun s hs => ?_⟩
        ·rw [List.append_assoc]; simp only [bdB, e1, e2]
        ·show (Nat.beq k.1 s || memB od1 s) = _; rw [g2, List.any_cons]
        ·rw [ybT]
         by_cases ek : k.1 = s
         ·subst ek
          refine ⟨q, e, cs, us1, (s1.trans s2).b _ _ hq, hb, by simp [he], fun hg => f1 (hg.sub s2)⟩
         ·rw [if_neg ek]
          have hs' : memB od1 s = true := by
           have : (Nat.beq k.1 s || memB od1 s) = true := hs
           have hb' : Nat.beq k.1 s = false := by
            cases hh : Nat.beq k.1 s with
            | false => rfl
            | true => exact absurd (nbeq.1 hh) ek
           rwa [hb', Bool.false_or] at this
          exact f2 s hs'
       ·cases h
      ·cases h
     ·cases h
    ·cases h
   ·cases h
theorem yr3 {m : RM} : ∀ (l : List (Nat × Nat)) (a : List (DV K)), rdR C ts m l = some a → (∀ s, memB (bdR l a) s = l.any fun q => Nat.beq q.1 s) ∧ ∀ s, memB (bdR l a) s = true → ∃ e, (lkA m.r s = some none ∧ lkB (bdR l a) s = some (.row e [])) ∨ ∃ q l', lkA m.r s = some (some q) ∧ trow C e (ts.tb q.1 q.2) = some l' ∧ lkB (bdR l a) s = some (.row e l')
 | [], a, h => by
   simp only [rdR] at h; cases h
   exact ⟨fun s => rfl, fun s h => by cases h⟩
 | k :: l, a, h => by
   have step : ∀ {x : List (K k.2)} {b : List (DV K)}, rdR C ts m l = some b → (lkA m.r k.1 = some none ∧ x = [] ∨ ∃ q, lkA m.r k.1 = some (some q) ∧ trow C k.2 (ts.tb q.1 q.2) = some x) → (∀ s, memB (bdR (k :: l) (.l k.2 x :: b)) s = (k :: l).any fun q => Nat.beq q.1 s) ∧
     ∀ s, memB (bdR (k :: l) (.l k.2 x :: b)) s = true → ∃ e, (lkA m.r s = some none ∧ lkB (bdR (k :: l) (.l k.2 x :: b)) s = some (.row e [])) ∨ ∃ q l', lkA m.r s = some (some q) ∧ trow C e (ts.tb q.1 q.2) = some l' ∧ lkB (bdR (k :: l) (.l k.2 x :: b)) s = some (.row e l') := by
    intro x b hb hx
    obtain ⟨g1, g2⟩ := yr3 l b hb
    have e : bdR (k :: l) (.l k.2 x :: b) = (k.1, some (.row k.2 x)) :: bdR l b := by simp [bdR, ykU]
    rw [e]
    refine ⟨fun s => ?_, fun s hs => ?_⟩
    ·show (Nat.beq k.1 s || memB (bdR l b) s) = _; rw [g1, List.any_cons]
    ·rw [ybT]
     by_cases ek : k.1 = s
     ·subst ek
      rcases hx with ⟨h1, rfl⟩ | ⟨q, h1, h2⟩
      ·exact ⟨k.2, .inl ⟨h1, by simp⟩⟩
      ·exact ⟨k.2, .inr ⟨q, x, h1, h2, by simp⟩⟩
     ·rw [if_neg ek]
      refine g2 s ?_
      have : (Nat.beq k.1 s || memB (bdR l b) s) = true := hs
      have hb' : Nat.beq k.1 s = false := by
       cases hh : Nat.beq k.1 s with
       | false => rfl
       | true => exact absurd (nbeq.1 hh) ek
      rwa [hb', Bool.false_or] at this
   simp only [rdR] at h
   split at h
   ·rename_i hq
    obtain ⟨b, hb, rfl⟩ := Option.map_eq_some_iff.1 h
    exact step hb (.inl ⟨hq, rfl⟩)
   ·rename_i q hq
    split at h
    ·rename_i l' hl
     obtain ⟨b, hb, rfl⟩ := Option.map_eq_some_iff.1 h
     exact step hb (.inr ⟨q, hq, hl⟩)
    ·cases h
   ·cases h
theorem ypY : ∀ {l : List (Nat × Nat)} {q : Nat × Nat}, q ∈ l → yuT l q = true
 | p :: r, q, h => by
   show (ylO p q || yuT r q) = true
   rcases List.mem_cons.1 h with rfl | h
   ·have : ylO q q = true := by unfold ylO; rw [nbeq.2 rfl, nbeq.2 rfl]; rfl
    rw [this]; rfl
   ·rw [ypY h, Bool.or_true]
theorem yk6 : ∀ {l : List (Nat × Nat)}, yti l = true → l.Nodup
 | [], _ => List.nodup_nil
 | p :: r, h => by
   simp only [yti, Bool.and_eq_true, Bool.not_eq_true'] at h
   refine List.nodup_cons.2 ⟨fun hm => ?_, yk6 h.2⟩
   rw [ypY hm] at h; cases h.1
theorem ydu : ∀ {m : List (Nat × Option (Nat × Nat))} {s : Nat} {k : Nat × Nat}, lkA m s = some (some k) → k ∈ plsR m
 | [], _, _, h => by cases h
 | (t, x) :: r, s, k, h => by
   rw [yfZ] at h
   split at h
   ·cases h; simp [plsR]
   ·have := ydu h
    cases x with
    | none => exact this
    | some q => exact List.mem_cons_of_mem _ this
theorem yio : ∀ {m : List (Nat × Option (Nat × Nat))} {s s' : Nat} {k : Nat × Nat}, (plsR m).Nodup → lkA m s = some (some k) → lkA m s' = some (some k) → s = s'
 | [], _, _, _, _, h, _ => by cases h
 | (t, x) :: r, s, s', k, hn, h, h' => by
   rw [yfZ] at h h'
   cases x with
   | none =>
     split at h
     ·cases h
     ·split at h'
      ·cases h'
      ·exact yio (m := r) hn h h'
   | some q =>
     have hn' := List.nodup_cons.1 (show (q :: plsR r).Nodup from hn)
     split at h
     ·rename_i e1
      split at h'
      ·rename_i e2; simp only at e1 e2; rw [← e1, ← e2]
      ·cases h; exact absurd (ydu h') hn'.1
     ·split at h'
      ·cases h'; exact absurd (ydu h) hn'.1
      ·exact yio hn'.2 h h'
theorem ydw : ∀ {m : List (Nat × (Nat × Nat))} {s : Nat} {k : Nat × Nat}, lkA m s = some k → k ∈ m.map (·.2)
 | [], _, _, h => by cases h
 | (t, x) :: r, s, k, h => by
   rw [yfZ] at h
   split at h
   ·cases h; simp
   ·exact List.mem_cons_of_mem _ (ydw h)
theorem yk0 : ∀ {m : List (Nat × (Nat × Nat))} {s s' : Nat} {k : Nat × Nat}, (m.map (·.2)).Nodup → lkA m s = some k → lkA m s' = some k → s = s'
 | [], _, _, _, _, h, _ => by cases h
 | (t, x) :: r, s, s', k, hn, h, h' => by
   rw [yfZ] at h h'
   have hn' := List.nodup_cons.1 (show (x :: r.map (·.2)).Nodup from hn)
   split at h
   ·rename_i e1
    split at h'
    ·rename_i e2; simp only at e1 e2; rw [← e1, ← e2]
    ·cases h; exact absurd (ydw h') hn'.1
   ·split at h'
    ·cases h'; exact absurd (ydw h) hn'.1
    ·exact yk0 hn'.2 h h'
theorem ydY {α : Type} {m : List (Nat × α)} {s : Nat} {x : α} {f : Nat × α → Bool} (h : lkA m s = some x) (ha : m.all f = true) : f (s, x) = true := by
 induction m with
 | nil => cases h
 | cons q m ih =>
   rw [yfZ] at h
   simp only [List.all_cons, Bool.and_eq_true] at ha
   split at h
   ·rename_i e; cases h; subst e; exact ha.1
   ·exact ih h ha.2
theorem yyH (hB : ydZ B) (hC : CxOk P C) (hx : ExtR rg ts.rg) {τ : Tm} {env : List (DV K)} (h : rdT C τ ts = some env) (hh : List (HO K)) (hR : ∀ h h' H n, R h H n → R h' H n) : REt P C R B N ts (bdT C τ rg hh env) := by
 intro χ ds hk hγ
 unfold rdT at h
 split at h
 rotate_left
 ·cases h
 rename_i a m1 h1
 split at h
 rotate_left
 ·cases h
 rename_i b M h2
 split at h
 rotate_left
 ·cases h
 rename_i c h3 h4
 cases h
 simp only [Bool.and_eq_true] at h4
 obtain ⟨⟨hnod, hdom⟩, hfixM⟩ := h4
 simp only [fixM, Bool.and_eq_true] at hfixM
 simp only [ys2, Bool.and_eq_true] at hdom
 obtain ⟨⟨hdb, hdr⟩, hdis⟩ := hdom
 have hnod := yk6 hnod
 obtain ⟨nr, nb, ndis⟩ := List.nodup_append.1 hnod
 let ρ : Nat → Option (Nat × Nat) := fun s => match lkA M.b s with
  | some k => some k
  | none => match lkA M.r s with
    | some (some k) => if χ k.1 k.2 = true then none else some k
    | _ => none
 let ξ : Nat → Bool := fun s => match lkA M.b s with
  | some _ => false
  | none => match lkA M.r s with
    | some none => true
    | some (some k) => χ k.1 k.2
    | none => false
 obtain ⟨rb, gb1, gb2⟩ := yr3 τ.rw c h3 |> fun x => (⟨rfl, x.1, x.2⟩ : (bdR τ.rw c = bdR τ.rw c) ∧ _ ∧ _)
 have hbname : ∀ s k, lkA M.b s = some k → τ.bx.any (fun q => Nat.beq q.1 s) = true := fun s k hs => ydY hs hdb
 have hrname : ∀ s k, lkA M.r s = some k → τ.rw.any (fun q => Nat.beq q.1 s) = true := fun s k hs => ydY hs hdr
 have hapart : ∀ s, τ.bx.any (fun q => Nat.beq q.1 s) = true → τ.rw.any (fun q => Nat.beq q.1 s) = true → False := by
  intro s q1 q2
  obtain ⟨x, hx1, hx2⟩ := List.any_eq_true.1 q1
  obtain ⟨y, hy1, hy2⟩ := List.any_eq_true.1 q2
  have := List.all_eq_true.1 (List.all_eq_true.1 hdis x hx1) y hy1
  rw [nbeq.1 hx2, nbeq.1 hy2, nbeq.2 rfl] at this; cases this
 have hbr : ∀ s k k', lkA M.b s = some k → lkA M.r s = some k' → False := fun s k k' q1 q2 => hapart s (hbname s k q1) (hrname s k' q2)
 have hρb : ∀ s k, lkA M.b s = some k → ρ s = some k := by
  intro s k hs
  show (match lkA M.b s with | some k => some k | none => _) = _
  rw [hs]
 have hρr : ∀ s k, lkA M.r s = some (some k) → ρ s = (if χ k.1 k.2 = true then none else some k) ∧ ξ s = χ k.1 k.2 := by
  intro s k hs
  have hn : lkA M.b s = none := by
   cases hq : lkA M.b s with
   | none => rfl
   | some k' => exact (hbr s k' _ hq hs).elim
  constructor
  ·show (match lkA M.b s with | some k => some k | none => match lkA M.r s with | some (some k) => if χ k.1 k.2 = true then none else some k | _ => none) = _
   rw [hn, hs]
  ·show (match lkA M.b s with | some _ => false | none => match lkA M.r s with | some none => true | some (some k) => χ k.1 k.2 | none => false) = _
   rw [hn, hs]
 have hξn : ∀ s, lkA M.r s = some none → ρ s = none ∧ ξ s = true := by
  intro s hs
  have hn : lkA M.b s = none := by
   cases hq : lkA M.b s with
   | none => rfl
   | some k' => exact (hbr s k' _ hq hs).elim
  constructor
  ·show (match lkA M.b s with | some k => some k | none => match lkA M.r s with | some (some k) => if χ k.1 k.2 = true then none else some k | _ => none) = _
   rw [hn, hs]
  ·show (match lkA M.b s with | some _ => false | none => match lkA M.r s with | some none => true | some (some k) => χ k.1 k.2 | none => false) = _
   rw [hn, hs]
 have hρi : ∀ s k, ρ s = some k → (lkA M.b s = some k) ∨ (lkA M.r s = some (some k) ∧ χ k.1 k.2 = false) := by
  intro s k hs
  have hs' : (match lkA M.b s with | some k => some k | none => match lkA M.r s with | some (some k) => if χ k.1 k.2 = true then none else some k | _ => none) = some k := hs
  split at hs'
  ·rename_i k' e; cases hs'; exact .inl e
  ·split at hs'
   ·rename_i k' e
    split at hs'
    ·cases hs'
    ·rename_i hx'; cases hs'; exact .inr ⟨e, by simpa using hx'⟩
   ·cases hs'
 let tsS : TS K := bdT C τ rg hh (a ++ b ++ c)
 obtain ⟨sub1, t1⟩ := yt4 (P := P) (ts1 := tsS) (χ := χ) (ξ := ξ) (ρ := ρ) (ds := ds) (p := fun _ => False) hC hx τ.ks ⟨yvb τ.rw, yvr τ.bx⟩ m1 a h1
 obtain ⟨sub2, t2⟩ := yrG (P := P) (ts1 := tsS) (χ := χ) (ξ := ξ) (ρ := ρ) (ds := ds) (p := fun _ => False) hC hx τ.bx m1 M b h2
 obtain ⟨fr1, e1, f1⟩ := t1 (b ++ c)
 obtain ⟨od1, e2, g2, f2⟩ := t2 c
 have hS : tsS = ⟨fr1, od1 ++ bdR τ.rw c, [], rg, hh⟩ := by
  show bdT C τ rg hh (a ++ b ++ c) = _
  unfold bdT
  rw [List.append_assoc, e1]
  simp only
  rw [e2]
 have hlk : ∀ s, lkB tsS.od s = if memB od1 s = true then lkB od1 s else lkB (bdR τ.rw c) s := by
  intro s; rw [hS]; exact yq6 _ _ s
 have hrowlk : ∀ s, τ.rw.any (fun q => Nat.beq q.1 s) = true → lkB tsS.od s = lkB (bdR τ.rw c) s := by
  intro s hs
  rw [hlk, if_neg]
  intro hm
  rw [g2] at hm
  exact hapart s hm hs
 have hGood : Good (rg := rg) ts tsS χ ξ ρ M := by
  refine ⟨?_, ?_, ?_, hρb, by rw [hS]⟩
  ·intro s k hs n hn
   obtain ⟨r1, r2⟩ := hρr s k hs
   have hnm := hrname s _ hs
   obtain ⟨e, ⟨q1, _⟩ | ⟨q, l', q1, q2, q3⟩⟩ := gb2 s (by rw [gb1]; exact hnm)
   ·rw [hs] at q1; cases q1
   ·rw [hs] at q1; cases q1
    refine ⟨?_, fun hx' => ⟨by rw [r1, hx']; rfl, by rw [r2, hx']⟩, fun hx' => by rw [r2, hx']⟩
    show tln (lkB tsS.od s) = _
    rw [hrowlk s hnm, q3]
    rw [(hγ.trow hC q2).1] at hn
    exact hn
  ·intro s k hs
   obtain ⟨e, ⟨q1, _⟩ | ⟨q, l', q1, q2, q3⟩⟩ := gb2 s (by rw [gb1]; exact hrname s _ hs)
   ·rw [hs] at q1; cases q1
   ·rw [hs] at q1; cases q1
    exact ⟨_, (hγ.trow hC q2).1⟩
  ·intro s hs
   obtain ⟨r1, r2⟩ := hξn s hs
   refine ⟨?_, r2⟩
   have hnm := hrname s _ hs
   obtain ⟨e, ⟨q1, q3⟩ | ⟨q, l', q1, q2, q3⟩⟩ := gb2 s (by rw [gb1]; exact hnm)
   ·show tln (lkB tsS.od s) = _
    rw [hrowlk s hnm, q3]; rfl
   ·rw [hs] at q1; cases q1
 have hlv : ∀ s b1, 2000000 ≤ s → lkB tsS.od s = some b1 → R.L s = ξ s := by
  intro s b1 h2 e9
  have hbl : Nat.ble 2000000 s = true := Nat.ble_eq_true_of_le h2
  rw [hlk] at e9
  by_cases hm : memB od1 s = true
  ·obtain ⟨q, e, cs, cs1, q1, q2, _⟩ := f2 s hm
   have h8 := ydY q1 hfixM.1
   simp only [hbl, Bool.not_true, Bool.false_or] at h8
   have := yg9 h8
   subst this
   have h7 : ξ s = false := by
    show (match lkA M.b s with | some _ => false | none => match lkA M.r s with | some none => true | some (some k) => χ k.1 k.2 | none => false) = _
    rw [q1]
   rw [h7]
   exact (hγ.lv s _ h2 q2).trans (hγ.box q2)
  ·rw [if_neg hm] at e9
   obtain ⟨e, ⟨q1, _⟩ | ⟨q, l', q1, q2, q3⟩⟩ := gb2 s (yfO e9)
   ·have h8 := ydY q1 hfixM.2
    simp [hbl] at h8
   ·have h8 := ydY q1 hfixM.2
    simp only [hbl, Bool.not_true, Bool.false_or] at h8
    have := yg9 h8
    subst this
    rw [(hρr s _ q1).2]
    have h6 := (hγ.trow hC q2).1
    cases hq : ts.tb s 1 with
    | none => rw [hq] at h6; cases h6
    | some b => exact hγ.lv s b h2 hq
 refine yxI hB hγ hk ρ (fun _ => False) ξ tsS (by rw [hS]) (fun H n => hR _ _ H n) ?_ ?_ ?_ hlv ?_ ?_ (fun k h => h.elim) hC ?_ (fun ks h1 h2 => ⟨h1, _, h2⟩)
 ·intro s k hs
  rcases hρi s k hs with hb | ⟨hr, hx'⟩
  ·have hm : memB od1 s = true := by rw [g2]; exact hbname s k hb
   obtain ⟨q, e, cs, cs1, q1, q2, q3, q4⟩ := f2 s hm
   rw [hb] at q1; cases q1
   exact ⟨hγ.box q2, _, _, q2, by rw [hlk, if_pos hm]; exact q3, q4 hGood⟩
  ·have hnm := hrname s _ hr
   obtain ⟨e, ⟨q1, _⟩ | ⟨q, l', q1, q2, q3⟩⟩ := gb2 s (by rw [gb1]; exact hnm)
   ·rw [hr] at q1; cases q1
   ·rw [hr] at q1; cases q1
    refine ⟨hx', ?_⟩
    have q3' : lkB tsS.od s = some (.row e l') := by rw [hrowlk s hnm]; exact q3
    unfold trow at q2
    split at q2
    ·rename_i e' l0 hb
     obtain ⟨rfl, rfl⟩ := ydE q2
     exact ⟨_, _, hb, q3', BM.row⟩
    ·rename_i e' n cs hb
     split at q2
     ·rename_i he
      have := nbeq.1 he; subst this
      exact ⟨_, _, hb, q3', BM.lr hC q2⟩
     ·cases q2
    ·cases q2
 ·intro s b1 hs hxx
  rw [hlk] at hs
  by_cases hm : memB od1 s = true
  ·obtain ⟨q, e, cs, cs1, q1, _⟩ := f2 s hm
   exact ⟨q, hρb s q q1⟩
  ·rw [if_neg hm] at hs
   have hm2 := yfO hs
   obtain ⟨e, ⟨q1, _⟩ | ⟨q, l', q1, q2, q3⟩⟩ := gb2 s hm2
   ·rw [(hξn s q1).2] at hxx; cases hxx
   ·obtain ⟨r1, r2⟩ := hρr s q q1
    rw [r2] at hxx
    exact ⟨q, by rw [r1, hxx]; rfl⟩
 ·intro s hs
  have hs' : (match lkA M.b s with | some _ => false | none => match lkA M.r s with | some none => true | some (some k) => χ k.1 k.2 | none => false) = true := hs
  split at hs'
  ·cases hs'
  ·split at hs'
   ·rename_i hr
    obtain ⟨r1, r2⟩ := hξn s hr
    refine ⟨r1, ?_⟩
    have hnm := hrname s _ hr
    obtain ⟨e, ⟨q1, q3⟩ | ⟨q, l', q1, q2, q3⟩⟩ := gb2 s (by rw [gb1]; exact hnm)
    ·exact ⟨e, by rw [hrowlk s hnm]; exact q3⟩
    ·rw [hr] at q1; cases q1
   ·rename_i k hr
    obtain ⟨r1, r2⟩ := hρr s k hr
    refine ⟨by rw [r1, if_pos hs'], ?_⟩
    have hnm := hrname s _ hr
    obtain ⟨e, ⟨q1, q3⟩ | ⟨q, l', q1, q2, q3⟩⟩ := gb2 s (by rw [gb1]; exact hnm)
    ·rw [hr] at q1; cases q1
    ·rw [hr] at q1; cases q1
     have := (hγ.trow hC q2).2.1 hs'
     subst this
     exact ⟨e, by rw [hrowlk s hnm]; exact q3⟩
   ·cases hs'
 ·intro s k h2 hs
  have hbl : Nat.ble 2000000 s = true := Nat.ble_eq_true_of_le h2
  rcases hρi s k hs with q1 | ⟨q1, _⟩
  ·have := ydY q1 hfixM.1
   simp only [hbl, Bool.not_true, Bool.false_or] at this
   exact yg9 this
  ·have := ydY q1 hfixM.2
   simp only [hbl, Bool.not_true, Bool.false_or] at this
   exact yg9 this
 ·intro s s' k hs hs'
  rcases hρi s k hs with q1 | ⟨q1, _⟩ <;> rcases hρi s' k hs' with q2 | ⟨q2, _⟩
  ·exact yk0 nb q1 q2
  ·exact absurd rfl (ndis k (ydu q2) k (ydw q1))
  ·exact absurd rfl (ndis k (ydu q1) k (ydw q2))
  ·exact yio nr q1 q2
 ·intro t
  have := f1 (hGood.sub sub2) t
  rw [hS]; rw [hS] at this
  exact this
end
end Go.AV
end
noncomputable section
namespace Go.AV
open Go.RowKit Go.RG Go.Lib
variable {K : Nat → Type}
section
variable {P : Program} {C : Cx K} {R : RR K} {ts ts1 : TS K} {χ : Nat → Nat → Bool} {ds : DS} {B : Base} [GB P B] {N : Nat} {ro : Option Nat}
theorem yle (hC : CxOk P C) (t : Nat) (x : K t) : TR P C ts χ (inV C t x) (eV C t x) ∧ (eV C t x).noL = true ∧ dwk (eV C t x) = eV C t x := by
 obtain ⟨c1, c2⟩ := hC.c t x ts χ
 have hno := (C.E t).no x
 have hdw := hC.dw t x
 unfold inV eV
 cases hg : (C.T t).g with
 | true => exact ⟨.agg _ _ c1 c2, hno, by simp only [dwk, hdw]⟩
 | false =>
   have hl := (C.E t).len x
   rw [hC.g t hg] at hl
   cases he : (C.E t).c x with
   | nil => rw [he] at hl; cases hl
   | cons a r =>
     cases r with
     | cons b r => rw [he] at hl; simp at hl
     | nil =>
       rw [he] at c1 c2 hno hdw
       simp only [noLs, Bool.and_true] at hno
       simp only [dwks, List.cons.injEq, and_true] at hdw
       cases hc : (C.T t).c x with
       | nil => rw [hc] at c1; simp at c1
       | cons u r => cases r with
         | cons b r => rw [hc] at c1; simp at c1
         | nil => rw [hc] at c2; exact ⟨c2 0 u a rfl rfl, hno, hdw⟩
mutual
theorem yy1 : ∀ (u : TV K) (v : AV), yaZ u = true → TR P C ts χ u v → dwk v = tAV C u
 | .un, v, h, _ => by simp [yaZ] at h
 | .lb b, v, _, t => by rw [t.lbi]; rfl
 | .bl b, v, _, t => by rw [t.bli]; rfl
 | .li k n, v, _, t => by rw [t.int (k := k) (n := n) rfl]; rfl
 | .it k n, v, _, t => by rw [t.int (k := k) (n := n) rfl]; rfl
 | .st s, v, _, t => by rw [t.str]; rfl
 | .agg us, v, h, t => by
   obtain ⟨vs, rfl, a, b⟩ := t.agg'
   simp only [yaZ] at h
   simp only [dwk, tAV, yh6 us vs h ⟨a, b⟩]
 | .tup us, v, h, t => by
   obtain ⟨vs, rfl, a, b⟩ := t.tup'
   simp only [yaZ] at h
   simp only [dwk, tAV, yh6 us vs h ⟨a, b⟩]
 | .nil, v, _, t => by cases t; rfl
 | .em, v, _, t => by cases t; rfl
 | .sl e l, v, _, t => by
   obtain ⟨z, xs, hx, rfl⟩ := t.sli
   simp only [dwk, hx, tAV, slA]
 | .rw s c, v, h, _ => by simp [yaZ] at h
 | .px s c o, v, h, _ => by simp [yaZ] at h
 | .pr e s c i o, v, h, _ => by simp [yaZ] at h
 | .ep e l i o, v, _, t => by
   obtain ⟨xs, hx, rfl⟩ := t.epi
   simp only [dwk, hx, tAV]
 | .gs l i, v, _, t => by
   obtain ⟨xs, hx, rfl⟩ := t.gsi
   simp only [dwk, hx, tAV]
 | .nptr, v, _, t => by cases t; rfl
 | .fn f a c, v, h, t => by
   simp only [yaZ, Bool.and_eq_true] at h
   cases t with
   | fn _ _ _ a' c' ha hc h1 h2 => simp only [dwk, tAV, yh6 a a' h.1 ⟨ha, h1⟩, yh6 c c' h.2 ⟨hc, h2⟩]
 | .fv ps rs F, v, _, t => by cases t with | fv _ _ _ _ h hv => exact hv
 | .cn id v', v, h, _ => by simp [yaZ] at h
theorem yh6 : ∀ (us : List (TV K)) (vs : List AV), ybr us = true → TL P C ts χ us vs → dwks vs = tAVs C us
 | [], vs, _, t => by
   have : vs = [] := List.eq_nil_of_length_eq_zero t.1
   subst this; rfl
 | u :: us, vs, h, t => by
   cases vs with
   | nil => simp [TL] at t
   | cons v vs =>
     simp only [ybr, Bool.and_eq_true] at h
     simp only [dwks, tAVs, yy1 u v h.1 t.head.1, yh6 us vs h.2 t.head.2]
end
theorem yqH (hC : CxOk P C) {pd : PD} {u : TV K} {v : AV} {x : AD K} (h : out1 C pd u = some x) (hv : TR P C ts χ u v) : v.noL = true ∧ dwk v = penc C pd x ∧ ∃ y, x = .d y := by
 cases pd with
 | v t =>
   simp only [out1] at h
   split at h
   ·rename_i y e
    cases h
    obtain ⟨a1, a2, _⟩ := ynS hC e hv
    exact ⟨a2, a1, _, rfl⟩
   ·cases h
 | p t =>
   simp only [out1] at h
   split at h
   ·rename_i e x' eu
    split at h
    ·rename_i he
     subst he
     cases h
     have := hv.s
     rw [eu] at this
     obtain ⟨xs, hx, rfl⟩ := this.epi
     refine ⟨rfl, ?_, _, rfl⟩
     simp only [dwk, hx, penc, dif_pos, cl, List.flatMap_cons, List.flatMap_nil, List.append_nil]
     simp
    ·cases h
   ·cases h
 | f ps rs => simp only [out1] at h; cases h
theorem yoc (hC : CxOk P C) : ∀ (ps : List PD) (us : List (TV K)) (vs : List AV) (xs : List (AD K)), outD C ps us = some xs → TL P C ts χ us vs → noLs vs = true ∧ dwks vs = ybj C ps xs ∧ xs.length = ps.length ∧ (∀ x ∈ xs, ∃ y, x = .d y)
 | [], [], vs, xs, h, t => by
   cases h
   have : vs = [] := List.eq_nil_of_length_eq_zero t.1
   subst this; exact ⟨rfl, rfl, rfl, fun x hx => by cases hx⟩
 | p :: ps, u :: us, vs, xs, h, t => by
   cases vs with
   | nil => simp [TL] at t
   | cons v vs =>
     simp only [outD] at h
     split at h
     ·rename_i x r h1 h2
      cases h
      obtain ⟨a1, a2, a3⟩ := yqH hC h1 t.head.1
      obtain ⟨b1, b2, b3, b4⟩ := yoc hC ps us vs r h2 t.head.2
      refine ⟨by simp [noLs, a1, b1], by simp only [dwks, ybj, a2, b2], by simp [b3], fun x hx => ?_⟩
      rcases List.mem_cons.1 hx with rfl | hx
      ·exact a3
      ·exact b4 x hx
     ·cases h
 | [], _ :: _, _, _, h, _ => by simp [outD] at h
 | _ :: _, [], _, _, h, _ => by simp [outD] at h
theorem ylk (C : Cx K) : ∀ (ps qs : List PD) (xs ys : List (AD K)), xs.length = ps.length → ybj C (ps ++ qs) (xs ++ ys) = ybj C ps xs ++ ybj C qs ys
 | [], qs, xs, ys, h => by
   have : xs = [] := List.eq_nil_of_length_eq_zero h
   subst this; rfl
 | p :: ps, qs, xs, ys, h => by
   cases xs with
   | nil => simp at h
   | cons x xs => simp only [List.cons_append, ybj]; rw [ylk C ps qs xs ys (by simpa using h)]
theorem yuj (C : Cx K) : ∀ (ps : List PD) (e : List (DV K)), allV ps = true → e.length = ps.length → ybj C ps (e.map .d) = e.map (dvA C)
 | [], [], _, _ => rfl
 | [], _ :: _, _, h => by simp at h
 | p :: ps, [], _, h => by simp at h
 | p :: ps, y :: e, h, hl => by
   cases p with
   | v t => simp only [List.map_cons, ybj]; rw [yuj C ps e h (by simpa using hl)]; rfl
   | p t => cases h
   | f a b => cases h
def SsOk (P : Program) (C : Cx K) (Φ : List (Sp K)) : Prop := ∀ sp ∈ Φ, SpOk P C sp
theorem yv2 {Φ : List (Sp K)} {f : Nat} {sp : Sp K} (h : lkS Φ f = some sp) : sp ∈ Φ ∧ sp.f = f := by
 induction Φ with
 | nil => cases h
 | cons q Φ ih =>
   simp only [lkS] at h
   split at h
   ·rename_i e; cases h; exact ⟨List.mem_cons_self, nbeq.1 e⟩
   ·exact ⟨List.mem_cons_of_mem _ (ih h).1, (ih h).2⟩
theorem yk2 (hC : CxOk P C) {Φ : List (Sp K)} (hS : SsOk P C Φ) {pd : PD} {u : TV K} {v : AV} {x : AD K} (h : yuJ C Φ pd u = some x) (hv : TR P C ts χ u v) : v.noL = true ∧ dwk v = penc C pd x ∧ ∀ F, x = .f F → FOk P C F := by
 have data : out1 C pd u = some x → v.noL = true ∧ dwk v = penc C pd x ∧ ∀ F, x = .f F → FOk P C F := by
  intro h
  obtain ⟨a, b, y, rfl⟩ := yqH hC h hv
  exact ⟨a, b, fun F e => by cases e⟩
 cases pd with
 | v t => exact data h
 | p t => exact data h
 | f ps rs =>
   simp only [yuJ] at h
   have hs := hv.s
   split at h
   ·rename_i ps' rs' F e
    cases h
    rw [e] at hs
    cases hs with
    | fv _ _ _ _ hF hv' => exact ⟨by rw [← yfH, hv']; exact hF.1, hv', fun F' e => by cases e; exact hF⟩
   ·rename_i f a c e
    rw [e] at hs
    split at h
    ·rename_i sp hsp
     obtain ⟨hmem, hf⟩ := yv2 hsp
     split at h
     ·rename_i xa xc ho
      split at h
      ·rename_i hall
       cases h
       simp only [Bool.and_eq_true] at hall
       obtain ⟨⟨hall, hna⟩, hnc⟩ := hall
       unfold yx3 at ho
       split at ho
       ·rename_i xa' xc' h1 h2
        cases ho
        cases hs with
        | fn _ _ _ a' c' ha hc t1 t2 =>
          have ta : TL P C ts χ a a' := ⟨ha, t1⟩
          have tc : TL P C ts χ c c' := ⟨hc, t2⟩
          obtain ⟨p1, p2, p3, p4⟩ := yoc hC _ a a' xa h1 ta
          obtain ⟨q1, q2, q3, q4⟩ := yoc hC _ c c' xc h2 tc
          have ea := yh6 a a' hna ta
          have ec := yh6 c c' hnc tc
          have hdv : dwk (.fn (.func f) a' c') = .fn (.func f) (tAVs C a) (tAVs C c) := by simp only [dwk, ea, ec]
          refine ⟨by simp [AV.noL, p1, q1], hdv, fun F e => ?_⟩
          cases e
          refine ⟨?_, ?_, rfl, f, tAVs C a, tAVs C c, rfl, fun en r hW => ?_⟩
          ·rw [← hdv, yfH]; simp [AV.noL, p1, q1]
          ·rw [← hdv, yoC]
          ·simp only at hW
           split at hW
           ·rename_i hlen
            have hlen := nbeq.1 hlen
            obtain ⟨hl, hP⟩ := hS sp hmem _ _ (fun F hF => by
             rcases List.mem_append.1 hF with hF | hF
             ·rcases List.mem_append.1 hF with hF | hF
              ·obtain ⟨y, hy⟩ := p4 _ hF; cases hy
              ·obtain ⟨y, _, hy⟩ := List.mem_map.1 hF; cases hy
             ·obtain ⟨y, hy⟩ := q4 _ hF; cases hy) hW
            rw [hf] at hP
            have hps : sp.ps = sp.ps.take a.length ++ ((sp.ps.drop a.length).take ps.length ++ sp.ps.drop (a.length + ps.length)) := by
             rw [← List.drop_drop, List.take_append_drop, List.take_append_drop]
            simp only [List.length_append, List.length_map] at hl
            have hal : (sp.ps.take a.length).length = xa.length := p3.symm
            have hml : ((sp.ps.drop a.length).take ps.length).length = ps.length := by
             rw [q3, p3] at hl
             simp only [List.length_take, List.length_drop] at hl ⊢
             omega
            rw [hps, List.append_assoc, ylk C _ _ _ _ p3, ylk C _ _ _ _ (by simp [hlen, hml]), ← p2, ← q2, ea, ec, yuj C _ _ hall (by rw [hml, hlen]), ← List.append_assoc] at hP
            exact hP
           ·exact hW.elim
       ·cases ho
      ·cases h
     ·cases h
    ·cases h
   ·cases h
theorem yqP (hC : CxOk P C) {Φ : List (Sp K)} (hS : SsOk P C Φ) : ∀ (ps : List PD) (us : List (TV K)) (vs : List AV) (xs : List (AD K)), outA C Φ ps us = some xs → TL P C ts χ us vs → noLs vs = true ∧ dwks vs = ybj C ps xs ∧ ∀ F, AD.f F ∈ xs → FOk P C F
 | [], [], vs, xs, h, t => by
   cases h
   have : vs = [] := List.eq_nil_of_length_eq_zero t.1
   subst this; exact ⟨rfl, rfl, fun F hF => by cases hF⟩
 | p :: ps, u :: us, vs, xs, h, t => by
   cases vs with
   | nil => simp [TL] at t
   | cons v vs =>
     simp only [outA] at h
     split at h
     ·rename_i x r h1 h2
      cases h
      obtain ⟨a1, a2, a3⟩ := yk2 hC hS h1 t.head.1
      obtain ⟨b1, b2, b3⟩ := yqP hC hS ps us vs r h2 t.head.2
      refine ⟨by simp [noLs, a1, b1], by simp only [dwks, ybj, a2, b2], fun F hF => ?_⟩
      rcases List.mem_cons.1 hF with e | hF
      ·exact a3 F e.symm
      ·exact b3 F hF
     ·cases h
 | [], _ :: _, _, _, h, _ => by simp [outA] at h
 | _ :: _, [], _, _, h, _ => by simp [outA] at h
structure Kil (ts ts' : TS K) (χ χ' : Nat → Nat → Bool) : Prop where
 m : Mono ts ts' χ χ'
 d : ∀ s c, tln (ts.tb s c) = none → χ s c = false → tln (ts'.tb s c) = none ∧ χ' s c = false
theorem Kil.refl {ts : TS K} {χ : Nat → Nat → Bool} : Kil ts ts χ χ := ⟨.refl, fun _ _ a b => ⟨a, b⟩⟩
theorem Kil.trans {ts ts' ts'' : TS K} {χ χ' χ'' : Nat → Nat → Bool} (h : Kil ts ts' χ χ') (k : Kil ts' ts'' χ' χ'') : Kil ts ts'' χ χ'' := ⟨h.m.trans k.m k.d, fun s c a b => k.d s c (h.d s c a b).1 (h.d s c a b).2⟩
theorem Kil.one {ts : TS K} {χ : Nat → Nat → Bool} {s c : Nat} (hc : c = 1 ∨ c = 2) : Kil ts (ts.setb s c none) χ (updχ χ s c false) := by
 refine ⟨Mono.setb hc (fun _ => .inl ⟨rfl, rfl⟩), fun s' c' a b => ?_⟩
 rw [yce ts s c none hc]
 unfold updχ
 by_cases e : s' = s ∧ c' = c
 ·rw [if_pos e, if_pos e]; exact ⟨rfl, rfl⟩
 ·rw [if_neg e, if_neg e]; exact ⟨a, b⟩
theorem yrS (hC : CxOk P C) {Φ : List (Sp K)} (hS : SsOk P C Φ) : ∀ (ps : List PD) (us : List (TV K)) (xs : List (AD K)), outA C Φ ps us = some xs → ∀ u ∈ us, ∀ (ts : TS K) (χ : Nat → Nat → Bool) (v : AV), TR P C ts χ u v → v.noL = true
 | [], [], _, _, u, hu, _, _, _, _ => by cases hu
 | p :: ps, w :: us, xs, h, u, hu, ts, χ, v, hv => by
   simp only [outA] at h
   split at h
   ·rename_i x r h1 h2
    rcases List.mem_cons.1 hu with rfl | hu
    ·exact (yk2 hC hS h1 hv).1
    ·exact yrS hC hS ps us r h2 u hu ts χ v hv
   ·cases h
 | [], _ :: _, _, h, _, _, _, _, _, _ => by simp [outA] at h
 | _ :: _, [], _, h, _, _, _, _, _, _ => by simp [outA] at h
theorem yr9 (hC : CxOk P C) : ∀ (ps : List PD) (us : List (TV K)) (xs : List (AD K)), outD C ps us = some xs → ∀ u ∈ us, ∀ (ts : TS K) (χ : Nat → Nat → Bool) (v : AV), TR P C ts χ u v → v.noL = true
 | [], [], _, _, u, hu, _, _, _, _ => by cases hu
 | p :: ps, w :: us, xs, h, u, hu, ts, χ, v, hv => by
   simp only [outD] at h
   split at h
   ·rename_i x r h1 h2
    rcases List.mem_cons.1 hu with rfl | hu
    ·exact (yqH hC h1 hv).1
    ·exact yr9 hC ps us r h2 u hu ts χ v hv
   ·cases h
 | [], _ :: _, _, h, _, _, _, _, _, _ => by simp [outD] at h
 | _ :: _, [], _, h, _, _, _, _, _, _ => by simp [outD] at h
theorem yjp (hC : CxOk P C) : ∀ (us : List (TV K)) (vs : List AV) (ts : TS K) (χ : Nat → Nat → Bool) (ds : DS) (ws : List (TV K)) (ts' : TS K), DOk ds → GM P C R ts χ ds → TL P C ts χ us vs → yqL C ts us = some (ws, ts') → (∀ w ∈ ws, ∀ (ts : TS K) (χ : Nat → Nat → Bool) (v : AV), TR P C ts χ w v → v.noL = true) →
  ∃ vs' kl ds1 χ', yfJ vs ds = some (vs', kl, ds1) ∧ noLs vs' = true ∧ TL P C ts' χ' ws vs' ∧ GM P C R ts' χ' ds1 ∧ DOk ds1 ∧ ts'.rg = ts.rg ∧ Kil ts ts' χ χ' ∧ (∀ k ∈ kl, ∃ u ∈ us, u.s = .rw k.1 k.2)
 | [], vs, ts, χ, ds, ws, ts', hk, hγ, t, h, hn => by
   cases h
   have : vs = [] := List.eq_nil_of_length_eq_zero t.1
   subst this
   exact ⟨[], [], ds, χ, rfl, rfl, .nil, hγ, hk, rfl, .refl, fun k hk => by cases hk⟩
 | u :: us, vs, ts, χ, ds, ws, ts', hk, hγ, t, h, hn => by
   cases vs with
   | nil => simp [TL] at t
   | cons v vs =>
     have quiet : ∀ {ws2 : List (TV K)}, yqL C ts us = some (ws2, ts') → ws = u :: ws2 → ∃ vs' kl ds1 χ', yfJ (v :: vs) ds = some (vs', kl, ds1) ∧ noLs vs' = true ∧ TL P C ts' χ' ws vs' ∧ GM P C R ts' χ' ds1 ∧ DOk ds1 ∧ ts'.rg = ts.rg ∧ Kil ts ts' χ χ' ∧ (∀ k ∈ kl, ∃ u' ∈ u :: us, u'.s = .rw k.1 k.2) := by
      intro ws2 h2 e
      subst e
      have hv : v.noL = true := hn u List.mem_cons_self ts χ v t.head.1
      obtain ⟨vs', kl, ds1, χ', a1, a2, a3, a4, a5, a6, a7, a8⟩ := yjp hC us vs ts χ ds ws2 ts' hk hγ t.head.2 h2 (fun w hw => hn w (List.mem_cons_of_mem _ hw))
      refine ⟨v :: vs', kl, ds1, χ', ?_, by simp [noLs, hv, a2], .cons (t.head.1.mono a7.m) a3, a4, a5, a6, a7, fun k hk => ?_⟩
      ·simp only [yfJ, hv, a1]
      ·obtain ⟨u', h1, h2⟩ := a8 k hk; exact ⟨u', List.mem_cons_of_mem _ h1, h2⟩
     simp only [yqL] at h
     split at h
     ·rename_i s c eu
      split at h
      ·rename_i l hl
       split at h
       ·rename_i ws2 ts2 h2
        cases h
        have hs := t.head.1.s
        rw [eu] at hs
        obtain ⟨g1, g2, g3⟩ := hγ.trow hC hl
        have hcc : c = 1 ∨ c = 2 := (yrY g1).imp id (·.1)
        rcases hs.rwi g1 with ⟨hχ, rfl⟩ | ⟨hχ, h0, rfl⟩
        ·obtain ⟨kb, k1, k2, k3, k4⟩ := g3 hχ
         have hγ1 := hγ.setb (s := s) (c := c) (b := none) (kb := none) hcc (Kil.one hcc).m (fun b' hb' => by cases hb') (fun _ h9 => by cases h9)
         have hk1 : DOk (ds.set s c none) := hk.set hcc (fun x hx => by cases hx)
         obtain ⟨vs', kl, ds1, χ', a1, a2, a3, a4, a5, a6, a7, a8⟩ := yjp hC us vs (ts.setb s c none) (updχ χ s c false) (ds.set s c none) ws2 ts' hk1 hγ1 (t.head.2.mono (Kil.one hcc).m) h2 (fun w hw => hn w (List.mem_cons_of_mem _ hw))
         refine ⟨.sl false l.length kb.cells :: vs', (s, c) :: kl, ds1, χ', ?_, by simp [noLs, AV.noL, a2], .cons (.sl _ l _ _ _ rfl k4) a3, a4, a5, by rw [a6, yc4], (Kil.one hcc).trans a7, fun k hk => ?_⟩
         ·have hb : (Nat.beq kb.cells.length (l.length * kb.sz) && noLs kb.cells) = true := by
           rw [Bool.and_eq_true]
           exact ⟨nbeq.2 (by rw [k3, ← ybG kb.cells, k4, yi8]), ycV k4⟩
          simp only [yfJ, AV.noL, k1, hb, a1]
         ·rcases List.mem_cons.1 hk with rfl | hk
          ·exact ⟨u, List.mem_cons_self, eu⟩
          ·obtain ⟨u', h1, h2⟩ := a8 k hk; exact ⟨u', List.mem_cons_of_mem _ h1, h2⟩
        ·have hnil := g2 hχ
         have hγ1 := hγ.kill (s := s) (c := c) hcc
         obtain ⟨vs', kl, ds1, χ', a1, a2, a3, a4, a5, a6, a7, a8⟩ := yjp hC us vs (ts.setb s c none) (updχ χ s c false) ds ws2 ts' hk hγ1 (t.head.2.mono (Kil.one hcc).m) h2 (fun w hw => hn w (List.mem_cons_of_mem _ hw))
         refine ⟨.sl true 0 [] :: vs', kl, ds1, χ', ?_, by simp [noLs, AV.noL, a2], .cons (by rw [hnil]; exact .sl _ [] _ _ _ rfl rfl) a3, a4, a5, by rw [a6, yc4], (Kil.one hcc).trans a7, fun k hk => ?_⟩
         ·simp only [yfJ, AV.noL, a1]
         ·obtain ⟨u', h1, h2⟩ := a8 k hk; exact ⟨u', List.mem_cons_of_mem _ h1, h2⟩
       ·cases h
      ·cases h
     ·rename_i hne
      split at h
      ·rename_i ws2 ts2 h2
       cases h
       exact quiet h2 rfl
      ·cases h
theorem yup (hC : CxOk P C) : ∀ (rs : List Nat) (p : List (DV K) → List (TV K) → Prop), exR C rs p → ∃ r us, p r us ∧ noLs (r.map (dvA C)) = true ∧ ∀ (ts : TS K) (χ : Nat → Nat → Bool), TL P C ts χ us (r.map (dvA C))
 | [], p, h => ⟨[], [], h, rfl, fun _ _ => .nil⟩
 | t :: rs, p, h => by
   obtain ⟨z, h⟩ := h
   obtain ⟨r, us, h1, h2, h3⟩ := yup hC rs _ h
   exact ⟨.v t z :: r, inV C t z :: us, h1, by simp only [List.map_cons, noLs, h2, Bool.and_true]; exact (yle (P := P) (ts := ⟨[], [], [], [], []⟩) (χ := fun _ _ => false) hC t z).2.1, fun ts χ => .cons (yle hC t z).1 (h3 ts χ)⟩
theorem yoK {us : List (TV K)} {vs : List AV} (h : TL P C ts χ us vs) : TR P C ts χ (tres us) (ybk vs) := by
 match us, vs, h with
 | [], [], h => exact .tup _ _ rfl (fun j u v h => by simp at h)
 | [u], [v], h => exact h.head.1
 | u :: u' :: us, v :: v' :: vs, h => exact .tup _ _ h.1 h.2
 | [], _ :: _, h => simp [TL] at h
 | _ :: _, [], h => simp [TL] at h
 | [_], _ :: _ :: _, h => simp [TL] at h
 | _ :: _ :: _, [_], h => simp [TL] at h
theorem ykC {f : FuncId} {vs vs' : List AV} {S : St} {S1 : St} {v : AV} {k : AV → St → Prop} (hp : pubL vs S = (vs', S1)) (hn : noLs vs' = true) (hF : Pure P f (dwks vs') v) (h : k v S1) : yrU P (.f f) vs S k := by
 unfold yrU
 rw [hp]
 refine ⟨hn, (ya7.dwkA (hF S1.hp S1.nx)).mono ?_⟩
 rintro av H' n' ⟨rfl, rfl, rfl⟩
 rw [ysq]
 exact h
theorem yp4 : ∀ (a : List AV) {vs vs' : List AV} {ds d1 : DS} {kl : List (Nat × Nat)}, noLs a = true → yfJ vs ds = some (vs', kl, d1) → yfJ (a ++ vs) ds = some (a ++ vs', kl, d1)
 | [], _, _, _, _, _, _, h => h
 | x :: a, vs, vs', ds, d1, kl, hn, h => by
   simp only [noLs, Bool.and_eq_true] at hn
   simp only [List.cons_append, yfJ, hn.1, yp4 a hn.2 h]
theorem ypi : ∀ (a : List AV) (ds : DS), noLs a = true → yfJ a ds = some (a, [], ds)
 | [], _, _ => rfl
 | x :: a, ds, hn => by
   simp only [noLs, Bool.and_eq_true] at hn
   simp only [yfJ, hn.1, ypi a ds hn.2]
theorem yjR : ∀ (vs : List AV) {c vs' : List AV} {ds d1 : DS} {kl : List (Nat × Nat)}, noLs c = true → yfJ vs ds = some (vs', kl, d1) → yfJ (vs ++ c) ds = some (vs' ++ c, kl, d1)
 | [], c, vs', ds, d1, kl, hn, h => by cases h; exact ypi c _ hn
 | x :: vs, c, vs', ds, d1, kl, hn, h => by
   simp only [List.cons_append, yfJ] at h ⊢
   split at h
   ·split at h
    ·rename_i h1; cases h; simp only [yjR vs hn h1, List.cons_append]
    ·cases h
   ·split at h
    ·split at h
     ·split at h
      ·split at h
       ·rename_i hkb _ hb _ _ _ _ h1; cases h; simp only [yjR vs hn h1, hb, hkb, List.cons_append]
       ·cases h
      ·cases h
     ·cases h
    ·cases h
theorem yk1 {a b : List AV} : noLs (a ++ b) = (noLs a && noLs b) := by
 induction a with
 | nil => rfl
 | cons x a ih => simp only [List.cons_append, noLs, ih, Bool.and_assoc]
structure ys4 (P : Program) (o : AO) (ds : DS) (f : FuncId) (vs vs' : List AV) (kl : List (Nat × Nat)) (d1 : DS) (v : AV) : Prop where
 ho : CalO o ds f vs
 nl : noLs vs' = true
 pure : Pure P f (dwks vs') v
 way : yfJ vs ds = some (vs', kl, d1) ∨ (kl = [] ∧ d1 = ds ∧ vs' = vs.map (vwV (toD ds).M) ∧ v.flat = true)
theorem yv1 {M : Key → Option Blk} {v : AV} (h : v.noL = true) : vw1 M v = v := by
 unfold vw1
 split
 ·simp [AV.noL] at h
 ·rfl
theorem yv0 (hC : CxOk P C) (hγ : GM P C R ts χ ds) (hk : DOk ds) {u : TV K} {v : AV} (h : TR P C ts χ u v) : TR P C ts χ (vt1 C ts u) (vw1 (toD ds).M v) := by
 unfold vt1
 split
 ·rename_i s c eu
  split
  ·rename_i l hl
   have hs := h.s
   rw [eu] at hs
   obtain ⟨g1, g2, g3⟩ := hγ.trow hC hl
   rcases hs.rwi g1 with ⟨hχ, rfl⟩ | ⟨hχ, h0, rfl⟩
   ·obtain ⟨kb, k1, k2, k3, k4⟩ := g3 hχ
    have hm : (toD ds).M (.l s c) = some kb.blk := by show (ds.kb s c).map KB.blk = _; rw [k1]; rfl
    have hcond : kb.blk.cells.length = l.length * kb.blk.sz ∧ kb.blk.sz ≠ 0 ∧ noLs kb.blk.cells = true :=
     ⟨by show kb.cells.length = _ * kb.sz; rw [k3, ← ybG kb.cells, k4, yi8], (hk s c kb k1).1, ycV k4⟩
    simp only [vw1, hm]
    rw [if_pos hcond]
    exact .sl _ l _ _ _ rfl k4
   ·have := g2 hχ
    rw [this]
    exact .sl _ [] _ _ _ rfl rfl
  ·exact .un _
 ·rename_i hne
  have hv : vw1 (toD ds).M v = v ∨ u.s = .un := by
   have hs := h.s
   revert hs hne
   generalize u.s = w
   intro hne hs
   cases hs with
   | rwd s c v _ _ _ => exact absurd rfl (hne s c)
   | rw s c n _ _ _ => exact absurd rfl (hne s c)
   | rwn s c _ _ _ => exact absurd rfl (hne s c)
   | un v => exact .inr rfl
   | fv ps rs F v hF hv' =>
     left
     obtain ⟨g1, _⟩ := hF
     exact yv1 (by rw [← yfH, hv']; exact g1)
   | cn id w v hl hn hv' => exact .inl (yv1 (hv'.noref hn (ts' := ts) (χ' := χ)).2)
   | _ => exact .inl rfl
  rcases hv with e | e
  ·rw [e]; exact h
  ·cases u with
   | un => exact .un _
   | cn id w =>
     cases h with
     | cn _ _ _ hl hn hv' =>
       simp only [TV.s] at e
       subst e
       simp [yaZ] at hn
   | _ => cases e
theorem yxP (hC : CxOk P C) (hγ : GM P C R ts χ ds) (hk : DOk ds) {u : TV K} {v : AV} (h : TR P C ts χ u v) : TR P C ts χ (vtV C ts u) (vwV (toD ds).M v) := by
 unfold vtV
 split
 ·rename_i cs eu
  have hs := h.s
  rw [eu] at hs
  obtain ⟨vs, rfl, hl, hc⟩ := hs.agg'
  refine .agg _ _ (by simpa using hl) fun j u' v' p q => ?_
  rw [List.getElem?_map] at p q
  obtain ⟨x, h1, rfl⟩ := Option.map_eq_some_iff.1 p
  obtain ⟨y, h2, rfl⟩ := Option.map_eq_some_iff.1 q
  exact yv0 hC hγ hk (hc j x y h1 h2)
 ·rename_i hne
  have h1 := yv0 hC hγ hk h
  cases v with
  | agg cs =>
    have hs := h.s
    revert hs
    cases hw : u.s with
    | agg us => exact absurd hw (hne us)
    | un =>
      intro _
      have : vt1 C ts u = u := by unfold vt1; rw [hw]
      rw [this]
      cases u with
      | un => exact .un _
      | cn id w =>
        cases h with
        | cn _ _ _ hl hn hv' => simp only [TV.s] at hw; subst hw; simp [yaZ] at hn
      | _ => cases hw
    | rw s c =>
      intro hs
      cases hs with
      | rwd _ _ _ _ _ h0 => cases h0
    | fv ps rs F =>
      intro hs
      cases hs with
      | fv _ _ _ _ hF hv' =>
        obtain ⟨_, _, _, f, a, c, e, _⟩ := hF
        rw [e] at hv'; simp [dwk] at hv'
    | cn id w =>
      intro _
      cases u with
      | cn id' w' =>
        cases h with
        | cn _ _ _ hl hn hv' => simp only [TV.s] at hw; subst hw; simp [yaZ] at hn
      | _ => cases hw
    | _ => intro hs; cases hs
  | _ => exact h1
theorem yzq (hC : CxOk P C) (hγ : GM P C R ts χ ds) (hk : DOk ds) {us : List (TV K)} {vs : List AV} (h : TL P C ts χ us vs) : TL P C ts χ (us.map (vtV C ts)) (vs.map (vwV (toD ds).M)) := by
 refine ⟨by simpa using h.1, fun j u v p q => ?_⟩
 rw [List.getElem?_map] at p q
 obtain ⟨x, h1, rfl⟩ := Option.map_eq_some_iff.1 p
 obtain ⟨y, h2, rfl⟩ := Option.map_eq_some_iff.1 q
 exact yxP hC hγ hk (h.2 j x y h1 h2)
theorem ywI (hC : CxOk P C) {t : Nat} (h : (C.T t).fl = true) (x : K t) : (eV C t x).flat = true := by
 have := hC.fl t h x
 unfold eV
 split
 ·exact this
 ·rename_i hg
  have h1 := hC.g t hg
  have h2 := (C.E t).len x
  rw [h1] at h2
  obtain ⟨v, hv⟩ := List.length_eq_one_iff.1 h2
  rw [hv] at this ⊢
  simp only [yfU, Bool.and_true] at this
  exact this
theorem yr6 (hC : CxOk P C) : ∀ (rs : List Nat) (p : List (DV K) → List (TV K) → Prop), rs.all (fun t => (C.T t).fl) = true → exR C rs p → ∃ r us, p r us ∧ noLs (r.map (dvA C)) = true ∧ (∀ (ts : TS K) (χ : Nat → Nat → Bool), TL P C ts χ us (r.map (dvA C))) ∧ yfU (r.map (dvA C)) = true
 | [], p, _, h => ⟨[], [], h, rfl, fun _ _ => .nil, rfl⟩
 | t :: rs, p, hf, h => by
   obtain ⟨z, h⟩ := h
   simp only [List.all_cons, Bool.and_eq_true] at hf
   obtain ⟨r, us, h1, h2, h3, h4⟩ := yr6 hC rs _ hf.2 h
   obtain ⟨q1, q2, q3⟩ := yle (P := P) (ts := ⟨[], [], [], [], []⟩) (χ := fun _ _ => false) hC t z
   refine ⟨.v t z :: r, inV C t z :: us, h1, by simp [noLs, dvA, q2, h2], fun ts χ => .cons (yle (P := P) (ts := ts) (χ := χ) hC t z).1 (h3 ts χ), ?_⟩
   simp only [List.map_cons, yfU, dvA, ywI hC hf.1 z, h4, Bool.and_true]
theorem ysz : ∀ {vs : List AV}, yfU vs = true → (ybk vs).flat = true
 | [], _ => rfl
 | [v], h => by simpa [yfU, ybk] using h
 | v :: w :: vs, h => h
theorem ynP (hC : CxOk P C) {Φ : List (Sp K)} (hS : SsOk P C Φ) (hγ : GM P C R ts χ ds) (hk : DOk ds) {o : AO} {f : Nat} {us : List (TV K)} {vs : List AV} {X : TS K → Prop} (ht : TL P C ts χ us vs) (ho : CalO o ds f vs) (h : ytn C Φ ts o.dst f us X) :
  ∃ vs' kl d1 v ts' χ', ys4 P o ds f vs vs' kl d1 v ∧ GM P C R ts' χ' (d1.put o.dst v) ∧ DOk d1 ∧ X ts' ∧ ts'.rg = ts.rg ∧ (flS C Φ f = true → kl = []) ∧ (∀ k ∈ kl, ∃ u ∈ us, u.s = .rw k.1 k.2) := by
 unfold ytn at h
 split at h
 rotate_left
 ·exact h.elim
 rename_i sp h1
 obtain ⟨hmem, hf⟩ := yv2 h1
 split at h
 ·rename_i hfl
  split at h
  ·rename_i env he
   have tv := yzq hC hγ hk ht
   obtain ⟨b1, b2, b3⟩ := yqP hC hS _ _ _ _ he tv
   obtain ⟨r, rs, ⟨hW, hX⟩, n1, n2, n3⟩ := yr6 (P := P) hC _ _ hfl h
   obtain ⟨_, hP⟩ := hS sp hmem env r b3 hW
   rw [hf] at hP
   exact ⟨vs.map (vwV (toD ds).M), [], ds, ybk (r.map (dvA C)), _, χ, ⟨ho, b1, by rw [b2]; exact hP, .inr ⟨rfl, rfl, rfl, ysz n3⟩⟩, hγ.put (yoK (n2 _ _)), hk, hX, by rw [ycl], fun _ => rfl, fun k hk => by cases hk⟩
  ·exact h.elim
 ·rename_i hfl
  split at h
  rotate_left
  ·exact h.elim
  rename_i ws ts2 h2
  split at h
  ·rename_i env he
   obtain ⟨vs', kl, ds1, χ', a1, a2, a3, a4, a5, a6, a7, a8⟩ := yjp hC us vs ts χ ds ws ts2 hk hγ ht h2 (yrS hC hS _ _ _ he)
   obtain ⟨b1, b2, b3⟩ := yqP hC hS _ _ _ _ he a3
   obtain ⟨r, rs, ⟨hW, hX⟩, n1, n2⟩ := yup (P := P) hC _ _ h
   obtain ⟨_, hP⟩ := hS sp hmem env r b3 hW
   rw [hf] at hP
   exact ⟨vs', kl, ds1, ybk (r.map (dvA C)), _, χ', ⟨ho, a2, by rw [b2]; exact hP, .inl a1⟩, a4.put (yoK (n2 _ _)), a5, hX, by rw [ycl]; exact a6, fun hq => (by unfold flS at hq; rw [h1] at hq; simp only at hq; rw [hfl] at hq; cases hq), a8⟩
  ·exact h.elim
theorem ysa (hC : CxOk P C) (hγ : GM P C R ts χ ds) (hk : DOk ds) {o : AO} {F : FV K} (hF : FOk P C F) {ps rs : List Nat} {x : AOpd} {args : List AOpd} {v : AV} (hop : o.op = .calv x args) (hx : ev (lkF ds.fr) x = v) (hv : dwk v = F.av) {us : List (TV K)} {X : TS K → Prop} (ht : TL P C ts χ us (args.map (ev (lkF ds.fr)))) (h : ywC C ts o.dst F ps rs us X) :
  ∃ f vs vs' kl d1 w ts' χ', ys4 P o ds f vs vs' kl d1 w ∧ GM P C R ts' χ' (d1.put o.dst w) ∧ DOk d1 ∧ X ts' ∧ ts'.rg = ts.rg ∧ (∀ k ∈ kl, ∃ u ∈ us, u.s = .rw k.1 k.2) := by
 unfold ywC at h
 split at h
 ·rename_i ws ts2 h2
  split at h
  ·rename_i env he
   obtain ⟨vs', kl, ds1, χ', a1, a2, a3, a4, a5, a6, a7, a8⟩ := yjp hC us _ ts χ ds ws ts2 hk hγ ht h2 (yr9 hC _ _ _ he)
   obtain ⟨b1, b2, b3, b4⟩ := yoc hC _ _ _ _ he a3
   obtain ⟨r, rr, ⟨hW, hX⟩, n1, n2⟩ := yup (P := P) hC _ _ h
   obtain ⟨g1, g2, g3, f, a, c, g4, g5⟩ := hF
   have hP := g5 _ _ hW
   rw [g4] at hv
   cases v with
   | fn f' a' c' =>
     simp only [dwk, AV.fn.injEq] at hv
     obtain ⟨rfl, e1, e2⟩ := hv
     have hnl : noLs a' = true ∧ noLs c' = true := by
      rw [g4] at g1
      simp only [AV.noL, Bool.and_eq_true] at g1
      rw [← e1, ← e2, ydx, ydx] at g1
      exact g1
     have henv : (env.filterMap adD).map (dvA C) = dwks vs' := by
      rw [b2]
      clear he h hX hW hP b2 b1
      induction env generalizing ps with
      | nil => cases ps <;> rfl
      | cons y env ih =>
        cases ps with
        | nil => simp at b3
        | cons q ps =>
          obtain ⟨z, rfl⟩ := b4 y List.mem_cons_self
          simp only [List.filterMap_cons, adD, List.map_cons, ybj]
          rw [ih (by simpa using b3) (fun x hx => b4 x (List.mem_cons_of_mem _ hx))]
          rfl
     have hpub := yp4 a' hnl.1 (yjR _ hnl.2 a1)
     refine ⟨f, a' ++ (args.map (ev (lkF ds.fr)) ++ c'), a' ++ (vs' ++ c'), kl, ds1, ybk (r.map (dvA C)), _, χ', ⟨.inr ⟨x, args, a', c', hop, hx, by rw [List.append_assoc]⟩, by simp [yk1, hnl, a2], ?_, .inl hpub⟩, a4.put (yoK (n2 _ _)), a5, hX, by rw [ycl]; exact a6, a8⟩
     rw [ybX, ybX, e1, e2, ← henv, ← List.append_assoc]
     exact hP
   | _ => simp [dwk] at hv
  ·exact h.elim
 ·exact h.elim
section
variable {L : List AO} {Q : KS → Prop} {i : Nat}
theorem ysd {o : AO} {f : FuncId} {vs vs' : List AV} {kl : List (Nat × Nat)} {d1 : DS} {v : AV} (e0 : L[i]? = some o) (hg : gok o.guard ds.fr = true) (h : ys4 P o ds f vs vs' kl d1 v) (k : WD P B N ro L (i + 1) Q (d1.put o.dst v)) : WD P B N ro L i Q ds := by
 refine ysH (hs := fun _ => false) e0 hg fun hk => ?_
 have fin : ygc P (.f f) vs (toD ds) fun v S' => ∃ ds', S'.put o.dst v = toD ds' ∧ DOk ds' ∧ WD P B N ro L (i + 1) Q ds' := by
  rcases h.way with hw | ⟨rfl, rfl, rfl, hfl⟩
  ·obtain ⟨a1, a2, a3, _⟩ := yk9 vs ds vs' kl d1 hk hw
   exact .inl (ykC a1 h.nl h.pure ⟨_, ycm d1 o.dst v, a3.put, k⟩)
  ·exact .inr (.inl ⟨f, v, rfl, h.nl, fun H n => ya7.dwkA (h.pure H n), hfl, _, ycm d1 o.dst v, hk.put, k⟩)
 rcases h.ho with ⟨args, h1, h2⟩ | ⟨x, args, first, cap, h1, h2, h3⟩
 ·rw [h1]; simp only [aop]; rw [ycr, h2]; exact fin
 ·rw [h1]; simp only [aop]; rw [ycr, h2]; simp only; rw [h3]; exact fin
end
end
end Go.AV
end
noncomputable section
namespace Go.AV
open Go.RowKit Go.RG Go.Lib
variable {K : Nat → Type}
def memT (C : Cx K) (ts : TS K) (χ : Nat → Nat → Bool) (s : Nat) : Option Blk := match χ s 1 with
 | true => none
 | false => (lkB ts.od s).map (bT C ts χ)
def argT (C : Cx K) (sp : Sl K) (ts0 : TS K) (χ : Nat → Nat → Bool) : List AV := (List.range (npL sp)).map fun i => aT C ts0 χ (lkT ts0.fr i)
def ViOk (ts : TS K) (χ : Nat → Nat → Bool) : Prop := ∀ s c, χ s c = true → ∃ e, ts.tb s c = some (.row e [])
def EndL (C : Cx K) (sp : Sl K) (ts0 : TS K) (χ : Nat → Nat → Bool) (out : List (DV K)) (H : Hp) (n : Nat) (av : AV) (S1 : St) : Prop :=
 ∃ env' χ', wt (ctT sp.to) env' = true ∧ kpt ts0 (bdT C sp.to [] [] env') sp.kp (eqDV (selL sp env') out) ∧ ViOk (bdT C sp.to [] [] env') χ' ∧ (∀ s b, 2000000 ≤ s → (bdT C sp.to [] [] env').tb s 1 = some b → χ' s 1 = χ s 1) ∧
  (∃ us, ydp (bdT C sp.to [] [] env') sp.res = some us ∧ av = ybk (aTs C (bdT C sp.to [] [] env') χ' us)) ∧ S1.hp = H ∧ S1.nx = n ∧ (∀ d, S1.cnt d = 1) ∧
  ∀ s b, lkB (bdT C sp.to [] [] env').od s = some b → χ' s 1 = false → S1.M (.l s 1) = some (bT C (bdT C sp.to [] [] env') χ' b)
def SlOk (P : Program) (C : Cx K) (sp : Sl K) : Prop := ∀ (fs : List (FV K)) (env out : List (DV K)), fs.length = sp.fs.length → (∀ F ∈ fs, FOk P C F) → sp.W fs env out →
 ∀ χ, ViOk (entL C sp fs env) χ → ∀ H n, ybf P sp.f (argT C sp (entL C sp fs env) χ) (memT C (entL C sp fs env) χ) H n (EndL C sp (entL C sp fs env) χ out H n)
def kbT (C : Cx K) (ts : TS K) (χ : Nat → Nat → Bool) (s : Nat) : KB := match lkB ts.od s with
 | some b => ⟨(bT C ts χ b).e, (bT C ts χ b).sz, (bT C ts χ b).cells, false⟩
 | none => ⟨0, 0, [], false⟩
def memK (C : Cx K) (ts : TS K) (χ : Nat → Nat → Bool) : List (Nat × KB) := (ts.od.filter fun p => (lkB ts.od p.1).isSome && !χ p.1 1).map fun p => (p.1, kbT C ts χ p.1)
theorem yqT (C : Cx K) (ts : TS K) (χ : Nat → Nat → Bool) (s : Nat) : lkM (memK C ts χ) s = if (lkB ts.od s).isSome && !χ s 1 then some (kbT C ts χ s) else none := by
 unfold memK
 rw [yl3 (fun s => (lkB ts.od s).isSome && !χ s 1) (kbT C ts χ) ts.od s]
 by_cases h : ((lkB ts.od s).isSome && !χ s 1) = true
 ·have hm : memB ts.od s = true := by
   simp only [Bool.and_eq_true] at h
   obtain ⟨b, hb⟩ := Option.isSome_iff_exists.1 h.1
   exact yfO hb
  rw [if_pos ⟨hm, h⟩, if_pos h]
 ·rw [if_neg (fun q => h q.2), if_neg h]
theorem yyj (C : Cx K) (ts : TS K) (χ : Nat → Nat → Bool) : (fun d => (lkM (memK C ts χ) d).map KB.blk) = memT C ts χ := by
 funext s
 rw [yqT]
 unfold memT kbT
 cases hx : χ s 1 with
 | true => simp
 | false =>
   cases hb : lkB ts.od s with
   | none => simp
   | some b => simp [KB.blk]
theorem yfK : ∀ {l : List Nat} {s : Nat}, ydW l s = true ↔ s ∈ l
 | [], s => by simp [ydW]
 | x :: l, s => by
   have ih := yfK (l := l) (s := s)
   simp only [ydW, Bool.or_eq_true, nbeq, List.mem_cons, ih]
   constructor <;> rintro (h | h) <;> first | exact .inl h.symm | exact .inr h
theorem yn3 : ∀ {l : List Nat}, ysM l = true → l.Nodup
 | [], _ => List.nodup_nil
 | x :: l, h => by
   simp only [ysM, Bool.and_eq_true, Bool.not_eq_true'] at h
   obtain ⟨h1, h2⟩ := h
   refine List.nodup_cons.2 ⟨fun hm => ?_, yn3 h2⟩
   rw [yfK.2 hm] at h1
   cases h1
structure TmOk (τ : Tm) : Prop where
 nd : (τ.bx.map (·.1) ++ τ.rw.map (·.1)).Nodup
 ns : (τ.ks.map (·.1)).Nodup
 ks : ∀ p ∈ τ.ks, okK (τ.bx.map (·.1)) (τ.rw.map (·.1)) p.2 = true
 bx : ∀ p ∈ τ.bx, okKs (τ.bx.map (·.1)) (τ.rw.map (·.1)) p.2.2 = true ∧ p.2.2 ≠ []
theorem ysY {τ : Tm} (h : okTm τ = true) : TmOk τ := by
 simp only [okTm, Bool.and_eq_true] at h
 obtain ⟨⟨⟨h1, h2⟩, h3⟩, h4⟩ := h
 refine ⟨yn3 h1, yn3 h2, fun p hp => List.all_eq_true.1 h3 p hp, fun p hp => ?_⟩
 have := List.all_eq_true.1 h4 p hp
 simp only [Bool.and_eq_true, Bool.not_eq_true'] at this
 exact ⟨this.1, fun e => by rw [e] at this; simp at this⟩
theorem ycA : ∀ {c1 c2 : List CT} {env : List (DV K)}, wt (c1 ++ c2) env = true → ∃ a b, env = a ++ b ∧ wt c1 a = true ∧ wt c2 b = true
 | [], c2, env, h => ⟨[], env, rfl, rfl, h⟩
 | c :: c1, c2, [], h => by simp [wt] at h
 | c :: c1, c2, x :: env, h => by
   simp only [List.cons_append, wt, Bool.and_eq_true] at h
   obtain ⟨a, b, rfl, h1, h2⟩ := ycA h.2
   exact ⟨x :: a, b, rfl, by simp only [wt, Bool.and_eq_true]; exact ⟨h.1, h1⟩, h2⟩
theorem ygp : ∀ {c1 c2 : List CT} {a b : List (DV K)}, wt c1 a = true → wt c2 b = true → wt (c1 ++ c2) (a ++ b) = true
 | [], c2, [], b, _, h => h
 | [], c2, _ :: _, b, h, _ => by simp [wt] at h
 | c :: c1, c2, [], b, h, _ => by simp [wt] at h
 | c :: c1, c2, x :: a, b, h, k => by
   simp only [wt, Bool.and_eq_true] at h
   simp only [List.cons_append, wt, Bool.and_eq_true]
   exact ⟨h.1, ygp h.2 k⟩
theorem ypN : ∀ {c : List CT} {a : List (DV K)}, wt c a = true → a.length = c.length
 | [], [], _ => rfl
 | [], _ :: _, h => by simp [wt] at h
 | _ :: _, [], h => by simp [wt] at h
 | c :: cs, x :: a, h => by
   simp only [wt, Bool.and_eq_true] at h
   simp [ypN h.2]
section
variable {C : Cx K} {rg : List (Nat × TV K)}
theorem ygu {k : Kd} {u : TV K} {m m' : RM} {a : List (DV K)} (h : rd1 C k u m = some (a, m')) : wt (ctV k) a = true := by
 cases k with
 | it k =>
   simp only [rd1] at h
   split at h
   ·split at h <;> cases h; simp [wt, ctV]
   ·cases h
 | bl => simp only [rd1] at h; split at h <;> cases h; simp [wt, ctV]
 | st => simp only [rd1] at h; split at h <;> cases h; simp [wt, ctV]
 | sl e =>
   simp only [rd1] at h
   split at h
   ·split at h <;> cases h; simp [wt, ctV]
   ·cases h; simp [wt, ctV]
   ·cases h; simp [wt, ctV]
   ·cases h
 | v t => simp only [rd1] at h; split at h <;> cases h; simp [wt, ctV]
 | agg l => simp only [rd1] at h; cases h
 | fn f a c => simp only [rd1] at h; cases h
 | row s =>
   simp only [rd1] at h
   split at h
   ·unfold addR at h; split at h <;> cases h; rfl
   ·unfold addR at h; split at h <;> cases h; rfl
   ·cases h
 | px s o =>
   simp only [rd1] at h
   split at h
   ·split at h
    ·unfold addB at h; split at h <;> cases h; rfl
    ·cases h
   ·cases h
 | kp id =>
   simp only [rd1] at h
   split at h
   ·split at h <;> cases h; rfl
   ·cases h
 | nil => simp only [rd1] at h; split at h <;> cases h; rfl
 | np => simp only [rd1] at h; split at h <;> cases h; rfl
 | un => simp only [rd1] at h; cases h; rfl
mutual
theorem yvV : ∀ (k : Kd) (u : TV K) (m m' : RM) (a : List (DV K)), rdV C k u m = some (a, m') → wt (ctV k) a = true
 | .agg l, u, m, m', a, h => by
   simp only [rdV] at h
   split at h
   ·simp only [ctV]; exact yjC l _ m m' a h
   ·cases h
 | .fn f x y, u, m, m', a, h => by
   simp only [rdV] at h
   split at h
   ·split at h
    ·split at h
     ·rename_i h1
      split at h
      ·rename_i h2
       cases h
       simp only [ctV]
       exact ygp (yjC x _ _ _ _ h1) (yjC y _ _ _ _ h2)
      ·cases h
     ·cases h
    ·cases h
   ·cases h
 | .it k, u, m, m', a, h => ygu (C := C) (u := u) h
 | .bl, u, m, m', a, h => ygu (C := C) (u := u) h
 | .st, u, m, m', a, h => ygu (C := C) (u := u) h
 | .sl e, u, m, m', a, h => ygu (C := C) (u := u) h
 | .v t, u, m, m', a, h => ygu (C := C) (u := u) h
 | .row s, u, m, m', a, h => ygu (C := C) (u := u) h
 | .px s o, u, m, m', a, h => ygu (C := C) (u := u) h
 | .kp id, u, m, m', a, h => ygu (C := C) (u := u) h
 | .nil, u, m, m', a, h => ygu (C := C) (u := u) h
 | .np, u, m, m', a, h => ygu (C := C) (u := u) h
 | .un, u, m, m', a, h => ygu (C := C) (u := u) h
theorem yjC : ∀ (l : List Kd) (us : List (TV K)) (m m' : RM) (a : List (DV K)), rdVs C l us m = some (a, m') → wt (ctVs l) a = true
 | [], [], m, m', a, h => by simp only [rdVs] at h; cases h; rfl
 | k :: l, u :: us, m, m', a, h => by
   simp only [rdVs] at h
   split at h
   ·rename_i h1
    split at h
    ·rename_i h2
     cases h
     simp only [ctVs]
     exact ygp (yvV k u _ _ _ h1) (yjC l us _ _ _ h2)
    ·cases h
   ·cases h
 | [], _ :: _, _, _, _, h => by simp [rdVs] at h
 | _ :: _, [], _, _, _, h => by simp [rdVs] at h
end
theorem yr5 {fr : List (Nat × TV K)} : ∀ (l : List (Nat × Kd)) (m m' : RM) (a : List (DV K)), rdS C fr l m = some (a, m') → wt (ctS l) a = true
 | [], m, m', a, h => by simp only [rdS] at h; cases h; rfl
 | p :: l, m, m', a, h => by
   simp only [rdS] at h
   split at h
   ·rename_i h1
    split at h
    ·rename_i h2
     cases h
     exact ygp (yvV p.2 _ _ _ _ h1) (yr5 l _ _ _ h2)
    ·cases h
   ·cases h
theorem yzm {l : List Kd} {us : List (TV K)} {m m' : RM} {a : List (DV K)} (h : rdW C l us m = some (a, m')) : wt (ctVs l) a = true := by
 unfold rdW at h
 split at h
 ·split at h
  ·split at h
   ·cases h; simp [ctVs, ctV, wt]
   ·cases h
  ·exact yjC _ _ _ _ _ h
 ·exact yjC _ _ _ _ _ h
theorem yrW {ts : TS K} : ∀ (l : List (Nat × Nat × List Kd)) (m m' : RM) (a : List (DV K)), rdB C ts l m = some (a, m') → wt (ctB l) a = true
 | [], m, m', a, h => by simp only [rdB] at h; cases h; rfl
 | p :: l, m, m', a, h => by
   simp only [rdB] at h
   split at h
   ·split at h
    ·split at h
     ·split at h
      ·rename_i h1
       split at h
       ·rename_i h2
        cases h
        exact ygp (yzm h1) (yrW l _ _ _ h2)
       ·cases h
      ·cases h
     ·cases h
    ·cases h
   ·cases h
def ctR (l : List (Nat × Nat)) : List CT := l.map fun p => .l p.2
theorem ysh {ts : TS K} {m : RM} : ∀ (l : List (Nat × Nat)) (a : List (DV K)), rdR C ts m l = some a → wt (ctR l) a = true
 | [], a, h => by simp only [rdR] at h; cases h; rfl
 | p :: l, a, h => by
   simp only [rdR] at h
   split at h
   ·obtain ⟨b, h1, rfl⟩ := Option.map_eq_some_iff.1 h
    simp only [ctR, List.map_cons, wt, Bool.and_eq_true]
    exact ⟨nbeq.2 rfl, ysh l b h1⟩
   ·split at h
    ·obtain ⟨b, h1, rfl⟩ := Option.map_eq_some_iff.1 h
     simp only [ctR, List.map_cons, wt, Bool.and_eq_true]
     exact ⟨nbeq.2 rfl, ysh l b h1⟩
    ·cases h
   ·cases h
theorem ypO (τ : Tm) : ctT τ = ctS τ.ks ++ ctB τ.bx ++ ctR τ.rw := rfl
theorem yy8 {ts : TS K} {τ : Tm} {env : List (DV K)} (h : rdT C τ ts = some env) : wt (ctT τ) env = true := by
 unfold rdT at h
 split at h
 ·rename_i h1
  split at h
  ·rename_i h2
   split at h
   ·rename_i h3 _
    cases h
    rw [ypO]
    exact ygp (ygp (yr5 _ _ _ _ h1) (yrW _ _ _ _ h2)) (ysh _ _ h3)
   ·cases h
  ·cases h
 ·cases h
theorem ywa {ts : TS K} {τ : Tm} {env : List (DV K)} {M : RM} (h : rdM C τ ts = some (env, M)) : wt (ctT τ) env = true := by
 unfold rdM at h
 split at h
 ·rename_i h1
  split at h
  ·rename_i h2
   split at h
   ·rename_i h3 _
    cases h
    rw [ypO]
    exact ygp (ygp (yr5 _ _ _ _ h1) (yrW _ _ _ _ h2)) (ysh _ _ h3)
   ·cases h
  ·cases h
 ·cases h
theorem yyr {ts : TS K} {τ : Tm} {J : List (DV K) → Prop} (h : rdJ C τ ts J) : rdJ C τ ts fun env => wt (ctT τ) env = true ∧ J env := by
 unfold rdJ at h ⊢
 split at h
 ·rename_i env h1
  exact ⟨yy8 h1, h⟩
 ·exact h
mutual
theorem yrR : ∀ (k : Kd) (a r : List (DV K)), wt (ctV k) a = true → bdV C rg k (a ++ r) = ((bdV C rg k a).1, r)
 | .agg l, a, r, h => by
   simp only [ctV] at h
   simp only [bdV, yjU l a r h]
 | .fn f x y, a, r, h => by
   simp only [ctV] at h
   obtain ⟨a1, a2, rfl, h1, h2⟩ := ycA h
   simp only [bdV]
   rw [List.append_assoc, yjU x a1 (a2 ++ r) h1, yjU x a1 a2 h1]
   simp only
   rw [yjU y a2 r h2]
 | .it k, a, r, h => by
   cases a with
   | nil => simp [ctV, wt] at h
   | cons x a => cases a with
     | cons y a => simp [ctV, wt] at h
     | nil => cases x <;> first | rfl | (simp [ctV, wt] at h; done)
 | .bl, a, r, h => by
   cases a with
   | nil => simp [ctV, wt] at h
   | cons x a => cases a with
     | cons y a => simp [ctV, wt] at h
     | nil => cases x <;> first | rfl | (simp [ctV, wt] at h; done)
 | .st, a, r, h => by
   cases a with
   | nil => simp [ctV, wt] at h
   | cons x a => cases a with
     | cons y a => simp [ctV, wt] at h
     | nil => cases x <;> first | rfl | (simp [ctV, wt] at h; done)
 | .sl e, a, r, h => by
   cases a with
   | nil => simp [ctV, wt] at h
   | cons x a => cases a with
     | cons y a => simp [ctV, wt] at h
     | nil => cases x <;> first | (simp only [bdV, List.cons_append, List.nil_append]; done) | (simp [ctV, wt] at h; done)
 | .v t, a, r, h => by
   cases a with
   | nil => simp [ctV, wt] at h
   | cons x a => cases a with
     | cons y a => simp [ctV, wt] at h
     | nil => cases x <;> first | (simp only [bdV, List.cons_append, List.nil_append]; done) | (simp [ctV, wt] at h; done)
 | .row s, a, r, h => by cases a with | nil => cases r <;> rfl | cons x a => simp [ctV, wt] at h
 | .px s o, a, r, h => by cases a with | nil => cases r <;> rfl | cons x a => simp [ctV, wt] at h
 | .kp id, a, r, h => by cases a with | nil => cases r <;> rfl | cons x a => simp [ctV, wt] at h
 | .nil, a, r, h => by cases a with | nil => cases r <;> rfl | cons x a => simp [ctV, wt] at h
 | .np, a, r, h => by cases a with | nil => cases r <;> rfl | cons x a => simp [ctV, wt] at h
 | .un, a, r, h => by cases a with | nil => cases r <;> rfl | cons x a => simp [ctV, wt] at h
theorem yjU : ∀ (l : List Kd) (a r : List (DV K)), wt (ctVs l) a = true → bdVs C rg l (a ++ r) = ((bdVs C rg l a).1, r)
 | [], a, r, h => by cases a with | nil => rfl | cons x a => simp [ctVs, wt] at h
 | k :: l, a, r, h => by
   simp only [ctVs] at h
   obtain ⟨a1, a2, rfl, h1, h2⟩ := ycA h
   simp only [bdVs]
   rw [List.append_assoc, yrR k a1 (a2 ++ r) h1, yrR k a1 a2 h1]
   simp only
   rw [yjU l a2 r h2]
end
theorem yqg : ∀ (l : List (Nat × Kd)) (a r : List (DV K)), wt (ctS l) a = true → bdS C rg l (a ++ r) = ((bdS C rg l a).1, r)
 | [], a, r, h => by cases a with | nil => rfl | cons x a => simp [ctS, wt] at h
 | p :: l, a, r, h => by
   obtain ⟨a1, a2, rfl, h1, h2⟩ := ycA (show wt (ctV p.2 ++ ctS l) a = true from h)
   simp only [bdS]
   rw [List.append_assoc, yrR p.2 a1 (a2 ++ r) h1, yrR p.2 a1 a2 h1]
   simp only
   rw [yqg l a2 r h2]
theorem yqc {l : List Kd} (h : ∀ t, l = [.v t] → (C.T t).g = false) (a : List (DV K)) : bdW C rg l a = bdVs C rg l a := by
 unfold bdW
 split
 ·rename_i t
  rw [h t rfl]
 ·rfl
theorem ypW (l : List Kd) (a r : List (DV K)) (h : wt (ctVs l) a = true) : bdW C rg l (a ++ r) = ((bdW C rg l a).1, r) := by
 by_cases hw : ∃ t, l = [.v t] ∧ (C.T t).g = true
 ·obtain ⟨t, rfl, hg⟩ := hw
  cases a with
  | nil => simp [ctVs, ctV, wt] at h
  | cons x a =>
    cases a with
    | cons y a => simp [ctVs, ctV, wt] at h
    | nil => cases x <;> first | (simp [bdW, hg]; done) | (simp [ctVs, ctV, wt] at h; done)
 ·have hn : ∀ t, l = [.v t] → (C.T t).g = false := fun t e => by
   cases hg : (C.T t).g with
   | false => rfl
   | true => exact absurd ⟨t, e, hg⟩ hw
  rw [yqc hn, yqc hn]; exact yjU l a r h
theorem ypk : ∀ (l : List (Nat × Nat × List Kd)) (a r : List (DV K)), wt (ctB l) a = true → bdB C rg l (a ++ r) = ((bdB C rg l a).1, r)
 | [], a, r, h => by cases a with | nil => rfl | cons x a => simp [ctB, wt] at h
 | p :: l, a, r, h => by
   obtain ⟨a1, a2, rfl, h1, h2⟩ := ycA (show wt (ctVs p.2.2 ++ ctB l) a = true from h)
   simp only [bdB]
   rw [List.append_assoc, ypW p.2.2 a1 (a2 ++ r) h1, ypW p.2.2 a1 a2 h1]
   simp only
   rw [ypk l a2 r h2]
theorem yt8 : ∀ (l l' : List (Nat × Nat × List Kd)) (a b : List (DV K)), wt (ctB l) a = true → (bdB C rg (l ++ l') (a ++ b)).1 = (bdB C rg l a).1 ++ (bdB C rg l' b).1
 | [], l', a, b, h => by cases a with | nil => rfl | cons x a => simp [ctB, wt] at h
 | p :: l, l', a, b, h => by
   obtain ⟨a1, a2, rfl, h1, h2⟩ := ycA (show wt (ctVs p.2.2 ++ ctB l) a = true from h)
   simp only [List.cons_append, bdB]
   rw [List.append_assoc, ypW p.2.2 a1 (a2 ++ b) h1, ypW p.2.2 a1 a2 h1]
   simp only
   rw [yt8 l l' a2 b h2]
theorem ytJ : ∀ (l l' : List (Nat × Nat)) (a b : List (DV K)), wt (ctR l) a = true → bdR (l ++ l') (a ++ b) = bdR l a ++ bdR l' b
 | [], l', a, b, h => by cases a with | nil => rfl | cons x a => simp [ctR, wt] at h
 | p :: l, l', a, b, h => by
   cases a with
   | nil => simp [ctR, wt] at h
   | cons x a =>
     simp only [ctR, List.map_cons, wt, Bool.and_eq_true] at h
     have ih := ytJ l l' a b h.2
     cases x with
     | l e k => simp only [List.cons_append, bdR, ih]
     | _ => simp at h
theorem yhF : ∀ (l : List (Nat × Nat × List Kd)) (a : List (DV K)), wt (ctB l) a = true → (bdB C rg l a).1.map (·.1) = l.map (·.1) ∧ ∀ p ∈ (bdB C rg l a).1, ∃ k ∈ l, p.1 = k.1 ∧ ∃ x, wt (ctVs k.2.2) x = true ∧ p.2 = some (.box k.2.1 (bdW C rg k.2.2 x).1)
 | [], a, _ => ⟨rfl, fun p h => by cases h⟩
 | k :: l, a, h => by
   obtain ⟨a1, a2, rfl, h3, h4⟩ := ycA (show wt (ctVs k.2.2 ++ ctB l) a = true from h)
   obtain ⟨h1, h2⟩ := yhF l a2 h4
   have hw := ypW (C := C) (rg := rg) k.2.2 a1 a2 h3
   refine ⟨by simp only [bdB, hw, List.map_cons, h1], fun p hp => ?_⟩
   simp only [bdB, hw] at hp
   rcases List.mem_cons.1 hp with rfl | hp
   ·exact ⟨k, List.mem_cons_self, rfl, a1, h3, rfl⟩
   ·obtain ⟨k', e1, e2⟩ := h2 p hp
    exact ⟨k', List.mem_cons_of_mem _ e1, e2⟩
theorem yqA : ∀ (l : List (Nat × Nat × List Kd)) (a : List (DV K)), ∀ p ∈ (bdB C rg l a).1, ∃ e cs, p.2 = some (.box e cs)
 | [], a, p, hp => by cases hp
 | k :: l, a, p, hp => by
   simp only [bdB] at hp
   rcases List.mem_cons.1 hp with rfl | hp
   ·exact ⟨_, _, rfl⟩
   ·exact yqA l _ p hp
theorem yhD : ∀ (l : List (Nat × Nat)) (a : List (DV K)), wt (ctR l) a = true → (bdR l a).map (·.1) = l.map (·.1) ∧ ∀ p ∈ bdR l a, ∃ k ∈ l, p.1 = k.1 ∧ ∃ x, p.2 = some (.row k.2 x)
 | [], a, h => ⟨by simp [bdR], fun p hp => by simp [bdR] at hp⟩
 | k :: l, a, h => by
   cases a with
   | nil => simp [ctR, wt] at h
   | cons x a =>
     simp only [ctR, List.map_cons, wt, Bool.and_eq_true] at h
     obtain ⟨h1, h2⟩ := yhD l a h.2
     cases x with
     | l e k' =>
       have he := nbeq.1 h.1
       subst he
       have hb : bdR (k :: l) (.l k.2 k' :: a) = (k.1, some (.row k.2 k')) :: bdR l a := by simp only [bdR, ykU, dif_pos]
       rw [hb]
       refine ⟨by simp only [List.map_cons, h1], fun p hp => ?_⟩
       rcases List.mem_cons.1 hp with rfl | hp
       ·exact ⟨k, List.mem_cons_self, rfl, k', rfl⟩
       ·obtain ⟨k'', e1, e2⟩ := h2 p hp
        exact ⟨k'', List.mem_cons_of_mem _ e1, e2⟩
     | _ => simp at h
theorem ygA {τ : Tm} {hh : List (HO K)} {env : List (DV K)} (h : wt (ctT τ) env = true) : ∃ a b c, env = a ++ b ++ c ∧ wt (ctS τ.ks) a = true ∧ wt (ctB τ.bx) b = true ∧ wt (ctR τ.rw) c = true ∧ bdT C τ rg hh env = ⟨(bdS C rg τ.ks a).1, (bdB C rg τ.bx b).1 ++ bdR τ.rw c, [], rg, hh⟩ := by
 rw [ypO] at h
 obtain ⟨ab, c, rfl, h1, h3⟩ := ycA h
 obtain ⟨a, b, rfl, h1, h2⟩ := ycA h1
 refine ⟨a, b, c, rfl, h1, h2, h3, ?_⟩
 unfold bdT
 rw [List.append_assoc, yqg τ.ks a (b ++ c) h1]
 simp only
 rw [ypk τ.bx b c h2]
theorem yhR {τ : Tm} {hh : List (HO K)} {env : List (DV K)} (h : wt (ctT τ) env = true) : (bdT C τ rg hh env).od.map (·.1) = τ.bx.map (·.1) ++ τ.rw.map (·.1) ∧
  ∀ p ∈ (bdT C τ rg hh env).od, (∃ k ∈ τ.bx, p.1 = k.1 ∧ ∃ x, wt (ctVs k.2.2) x = true ∧ p.2 = some (.box k.2.1 (bdW C rg k.2.2 x).1)) ∨ ∃ k ∈ τ.rw, p.1 = k.1 ∧ ∃ x, p.2 = some (.row k.2 x) := by
 obtain ⟨a, b, c, _, h1, h2, h3, e⟩ := ygA (rg := rg) (hh := hh) (C := C) h
 rw [e]
 obtain ⟨x1, x2⟩ := yhF (C := C) (rg := rg) τ.bx b h2
 obtain ⟨y1, y2⟩ := yhD τ.rw c h3
 refine ⟨by simp only [List.map_append, x1, y1], fun p hp => ?_⟩
 rcases List.mem_append.1 hp with hp | hp
 ·exact .inl (x2 p hp)
 ·exact .inr (y2 p hp)
theorem ydI {l : List (Nat × Option (TB K))} (hn : (l.map (·.1)).Nodup) {s : Nat} {b : Option (TB K)} (h : (s, b) ∈ l) : lkB l s = b := by
 induction l with
 | nil => cases h
 | cons p l ih =>
   obtain ⟨h1, h2⟩ := List.nodup_cons.1 (show (p.1 :: l.map (·.1)).Nodup from hn)
   rw [ybT]
   rcases List.mem_cons.1 h with rfl | h
   ·rw [if_pos rfl]
   ·rw [if_neg (fun e => h1 (by rw [e]; exact List.mem_map_of_mem (f := (·.1)) h))]; exact ih h2 h
theorem ygo {l : List (Nat × Option (TB K))} {s : Nat} {b : TB K} (h : lkB l s = some b) : (s, some b) ∈ l := by
 induction l with
 | nil => cases h
 | cons p l ih =>
   rw [ybT] at h
   split at h
   ·rename_i e; rw [← e, ← h]; exact List.mem_cons_self
   ·exact List.mem_cons_of_mem _ (ih h)
theorem yxo {τ : Tm} {hh : List (HO K)} {env : List (DV K)} (h : wt (ctT τ) env = true) (ho : TmOk τ) {s : Nat} (hs : s ∈ τ.rw.map (·.1)) : ∃ e l, lkB (bdT C τ rg hh env).od s = some (.row e l) := by
 obtain ⟨h1, h2⟩ := yhR (C := C) (rg := rg) (hh := hh) h
 have hm : s ∈ (bdT C τ rg hh env).od.map (·.1) := by rw [h1]; exact List.mem_append_right _ hs
 obtain ⟨p, hp, rfl⟩ := List.mem_map.1 hm
 have hl := ydI (by rw [h1]; exact ho.nd) (show (p.1, p.2) ∈ _ from hp)
 rcases h2 p hp with ⟨k, hk, e1, _⟩ | ⟨k, hk, e1, x, e2⟩
 ·refine absurd ?_ ((List.nodup_append.1 ho.nd).2.2 p.1 (by rw [e1]; exact List.mem_map_of_mem (f := (·.1)) hk) p.1 hs)
  rfl
 ·exact ⟨_, x, by rw [hl, e2]⟩
theorem yxF {τ : Tm} {hh : List (HO K)} {env : List (DV K)} (h : wt (ctT τ) env = true) (ho : TmOk τ) {s : Nat} (hs : s ∈ τ.bx.map (·.1)) : ∃ e cs, lkB (bdT C τ rg hh env).od s = some (.box e cs) := by
 obtain ⟨h1, h2⟩ := yhR (C := C) (rg := rg) (hh := hh) h
 have hm : s ∈ (bdT C τ rg hh env).od.map (·.1) := by rw [h1]; exact List.mem_append_left _ hs
 obtain ⟨p, hp, rfl⟩ := List.mem_map.1 hm
 have hl := ydI (by rw [h1]; exact ho.nd) (show (p.1, p.2) ∈ _ from hp)
 rcases h2 p hp with ⟨k, hk, e1, x, _, e2⟩ | ⟨k, hk, e1, _⟩
 ·exact ⟨_, _, by rw [hl, e2]⟩
 ·refine absurd ?_ ((List.nodup_append.1 ho.nd).2.2 p.1 hs p.1 (by rw [e1]; exact List.mem_map_of_mem (f := (·.1)) hk))
  rfl
theorem ysg : ∀ (l : List Kd) (a : List (DV K)), (bdVs C rg l a).1.length = l.length
 | [], a => rfl
 | k :: l, a => by simp only [bdVs, List.length_cons, ysg l]
theorem yqJ : ∀ (l : List (Nat × Kd)) (a : List (DV K)) (t : Nat), lkT (bdS C rg l a).1 t = .un ∨ ∃ p ∈ l, p.1 = t ∧ ∃ x, lkT (bdS C rg l a).1 t = (bdV C rg p.2 x).1
 | [], a, t => .inl rfl
 | p :: l, a, t => by
   simp only [bdS]
   rw [yek]
   split
   ·rename_i e; exact .inr ⟨p, List.mem_cons_self, e, a, rfl⟩
   ·rcases yqJ l (bdV C rg p.2 a).2 t with h | ⟨q, hq, e1, x, e2⟩
    ·exact .inl h
    ·exact .inr ⟨q, List.mem_cons_of_mem _ hq, e1, x, e2⟩
end
section
variable {P : Program} {C : Cx K} {ts : TS K} {χ : Nat → Nat → Bool}
mutual
theorem ypF : ∀ u : TV K, yaZ u = true → alv ts u = true
 | .agg cs, h => by simp only [yaZ] at h; simp only [alv, yfh cs h]
 | .tup cs, h => by simp only [yaZ] at h; simp only [alv, yfh cs h]
 | .fn f a c, h => by simp only [yaZ, Bool.and_eq_true] at h; simp only [alv, yfh a h.1, yfh c h.2, Bool.and_self]
 | .rw _ _, h => by simp [yaZ] at h
 | .cn _ _, h => by simp [yaZ] at h
 | .it _ _, _ | .bl _, _ | .st _, _ | .sl _ _, _ | .nil, _ | .un, _ | .px _ _ _, _ | .lb _, _ | .li _ _, _ | .em, _ | .pr _ _ _ _ _, _ | .ep _ _ _ _, _ | .gs _ _, _ | .nptr, _ | .fv _ _ _, _ => rfl
theorem yfh : ∀ us : List (TV K), ybr us = true → alvs ts us = true
 | [], _ => rfl
 | u :: us, h => by simp only [ybr, Bool.and_eq_true] at h; simp only [alvs, ypF u h.1, yfh us h.2, Bool.and_self]
end
theorem yvL (hC : CxOk P C) (t : Nat) (x : K t) : inV C t x = .un ∨ yaZ (inV C t x) = true := by
 have := hC.nr t x
 unfold inV
 split
 ·right; simpa only [yaZ] using this
 ·split
  ·rename_i v e; rw [e] at this; simp only [ybr, Bool.and_true] at this; exact .inr this
  ·exact .inl rfl
theorem ynm (hC : CxOk P C) (t : Nat) (x : K t) : TR P C ts χ (inV C t x) (aT C ts χ (inV C t x)) := by
 rcases yvL hC t x with e | e
 ·rw [e]; exact .un _
 ·exact (yle hC t x).1.self hC (ypF _ e)
mutual
theorem yrE (hC : CxOk P C) (hv : ViOk ts χ) {bx rw : List Nat} (hrw : ∀ s, s ∈ rw → (tln (ts.tb s 1)).isSome = true) : ∀ (k : Kd) (a : List (DV K)), okK bx rw k = true → TR P C ts χ (bdV C [] k a).1 (aT C ts χ (bdV C [] k a).1)
 | .it k, a, _ => by cases a with
   | nil => exact .un _
   | cons x a => cases x <;> first | exact .it k _ | exact .un _
 | .bl, a, _ => by cases a with
   | nil => exact .un _
   | cons x a => cases x <;> first | exact .bl _ | exact .un _
 | .st, a, _ => by cases a with
   | nil => exact .un _
   | cons x a => cases x <;> first | exact .st _ | exact .un _
 | .sl e, a, _ => by cases a with
   | nil => exact .un _
   | cons x a => cases x with
     | l e' l =>
       simp only [bdV]
       split
       ·exact .sl e _ false _ _ rfl (ylh hC e _)
       ·exact .un _
     | _ => exact .un _
 | .v t, a, _ => by cases a with
   | nil => exact .un _
   | cons x a => cases x with
     | v t' x =>
       simp only [bdV]
       split
       ·exact ynm hC t _
       ·exact .un _
     | _ => exact .un _
 | .row s, a, h => by
   simp only [okK] at h
   have hs := hrw s (yfK.1 h)
   obtain ⟨n, hn⟩ := Option.isSome_iff_exists.1 hs
   have e : (bdV C [] (.row s) a).1 = .rw s 1 := by cases a <;> rfl
   rw [e]
   simp only [aT, hn]
   cases hx : χ s 1 with
   | true =>
     obtain ⟨e, he⟩ := hv s 1 hx
     rw [he] at hn; cases hn
     exact .rwn s 1 (.inl rfl) (by rw [he]; rfl) hx
   | false => exact .rw s 1 n (.inl rfl) hn hx
 | .px s o, a, _ => by
   have e : (bdV C [] (.px s o) a).1 = .px s 1 o := by cases a <;> rfl
   rw [e]; exact .px s 1 o (.inl rfl)
 | .kp id, a, h => by simp [okK] at h
 | .nil, a, _ => by
   have e : (bdV C [] .nil a).1 = .nil := by cases a <;> rfl
   rw [e]; exact .nil
 | .np, a, _ => by
   have e : (bdV C [] .np a).1 = .nptr := by cases a <;> rfl
   rw [e]; exact .nptr
 | .un, a, _ => by
   have e : (bdV C [] .un a).1 = .un := by cases a <;> rfl
   rw [e]; exact .un _
 | .agg l, a, h => by
   simp only [okK] at h
   have := ygM hC hv hrw l a h
   simp only [bdV, aT]
   exact .agg _ _ this.1 this.2
 | .fn f x y, a, h => by
   simp only [okK, Bool.and_eq_true] at h
   have h1 := ygM hC hv hrw x a h.1
   have h2 := ygM hC hv hrw y (bdVs C [] x a).2 h.2
   simp only [bdV, aT]
   exact .fn f _ _ _ _ h1.1 h2.1 h1.2 h2.2
theorem ygM (hC : CxOk P C) (hv : ViOk ts χ) {bx rw : List Nat} (hrw : ∀ s, s ∈ rw → (tln (ts.tb s 1)).isSome = true) : ∀ (l : List Kd) (a : List (DV K)), okKs bx rw l = true → TL P C ts χ (bdVs C [] l a).1 (aTs C ts χ (bdVs C [] l a).1)
 | [], a, _ => .nil
 | k :: l, a, h => by
   simp only [okKs, Bool.and_eq_true] at h
   simp only [bdVs, aTs]
   exact .cons (yrE hC hv hrw k a h.1) (ygM hC hv hrw l _ h.2)
end
theorem yuS (hC : CxOk P C) (hv : ViOk ts χ) {bx rw : List Nat} (hrw : ∀ s, s ∈ rw → (tln (ts.tb s 1)).isSome = true) (l : List Kd) (a : List (DV K)) (h : okKs bx rw l = true) : TL P C ts χ (bdW C [] l a).1 (aTs C ts χ (bdW C [] l a).1) := by
 by_cases hw : ∃ t, l = [.v t] ∧ (C.T t).g = true
 ·obtain ⟨t, rfl, hg⟩ := hw
  have key : ∀ x : K t, TL P C ts χ ((C.T t).c x) (aTs C ts χ ((C.T t).c x)) := fun x => by
   have := ynm (P := P) (ts := ts) (χ := χ) hC t x
   rw [show inV C t x = .agg ((C.T t).c x) by unfold inV; rw [hg]] at this
   simp only [aT] at this
   obtain ⟨vs, e, c1, c2⟩ := this.agg'
   cases e
   exact ⟨c1, c2⟩
  unfold bdW
  simp only [hg]
  split
  ·split
   ·exact key _
   ·exact .nil
  ·exact .nil
 ·rw [yqc (fun t e => by
   cases hg : (C.T t).g with
   | false => rfl
   | true => exact absurd ⟨t, e, hg⟩ hw)]
  exact ygM hC hv hrw l a h
theorem yuA (hC : CxOk P C) {l : List Kd} {a : List (DV K)} (h : wt (ctVs l) a = true) (hl : l ≠ []) : (bdW C [] l a).1.length ≠ 0 := by
 by_cases hw : ∃ t, l = [.v t] ∧ (C.T t).g = true
 ·obtain ⟨t, rfl, hg⟩ := hw
  cases a with
  | nil => simp [ctVs, ctV, wt] at h
  | cons x a =>
    cases a with
    | cons y a => simp [ctVs, ctV, wt] at h
    | nil =>
      cases x with
      | v t' x =>
        simp only [ctVs, ctV, List.append_nil, wt, Bool.and_true] at h
        have := nbeq.1 h; subst this
        simp only [bdW, hg, dif_pos]
        have h1 := (hC.c t x ⟨[], [], [], [], []⟩ (fun _ _ => false)).1
        have h2 := (C.E t).len x
        have h3 := (C.E t).pos
        omega
      | _ => simp [ctVs, ctV, wt] at h
 ·rw [yqc (fun t e => by
   cases hg : (C.T t).g with
   | false => rfl
   | true => exact absurd ⟨t, e, hg⟩ hw)]
  rw [ysg]
  exact fun q => hl (List.eq_nil_of_length_eq_zero q)
theorem yuG : ∀ (l : List (Nat × List Nat × List Nat)) (fs : List (FV K)) (fr : List (Nat × TV K)) (t : Nat), (∃ p F, p ∈ l ∧ F ∈ fs ∧ p.1 = t ∧ lkT (zipF l fs ++ fr) t = .fv p.2.1 p.2.2 F) ∨ lkT (zipF l fs ++ fr) t = lkT fr t
 | [], _, _, _ => .inr rfl
 | _ :: _, [], _, _ => .inr rfl
 | p :: l, F :: fs, fr, t => by
   show (∃ p' F', _ ∧ _ ∧ _ ∧ lkT ((p.1, .fv p.2.1 p.2.2 F) :: (zipF l fs ++ fr)) t = _) ∨ lkT ((p.1, .fv p.2.1 p.2.2 F) :: (zipF l fs ++ fr)) t = _
   rw [yek]
   split
   ·rename_i e; exact .inl ⟨p, F, List.mem_cons_self, List.mem_cons_self, e, rfl⟩
   ·rcases yuG l fs fr t with ⟨p', F', h1, h2, h3, h4⟩ | h
    ·exact .inl ⟨p', F', List.mem_cons_of_mem _ h1, List.mem_cons_of_mem _ h2, h3, h4⟩
    ·exact .inr h
theorem yre : ∀ (l : List AV) (i t : Nat), lkF (entF l i) t = if i ≤ t then (l[t - i]?).getD .un else .un
 | [], i, t => by simp [entF, lkF]
 | u :: l, i, t => by
   show lkF ((i, u) :: entF l (i + 1)) t = _
   rw [ydb, yre l (i + 1) t]
   simp only
   by_cases h : i = t
   ·subst h; simp
   ·rw [if_neg h]
    by_cases h2 : i ≤ t
    ·rw [if_pos h2, if_pos (by omega), show t - i = (t - (i + 1)) + 1 by omega, List.getElem?_cons_succ]
    ·rw [if_neg h2, if_neg (by omega)]
def okS (sp : Sl K) (env : List (DV K)) : Bool := okN sp && wt (ctT sp.ti) env
theorem ypQ {sp : Sl K} {env : List (DV K)} (h : okS sp env = true) : TmOk sp.ti ∧ TmOk sp.to ∧ (∀ s ∈ sp.ti.bx.map (·.1) ++ sp.ti.rw.map (·.1), 2000000 ≤ s) ∧ (∀ p ∈ sp.fs, p.1 < npL sp) ∧ (∀ p ∈ sp.ti.ks, p.1 < npL sp) ∧ wt (ctT sp.ti) env = true := by
 simp only [okS, okN, Bool.and_eq_true] at h
 obtain ⟨⟨⟨⟨⟨⟨⟨h1, h2⟩, h3⟩, _⟩, _⟩, h4⟩, h5⟩, h6⟩ := h
 exact ⟨ysY h1, ysY h2, fun s hs => Nat.le_of_ble_eq_true (List.all_eq_true.1 h3 s hs), fun p hp => Nat.le_of_ble_eq_true (List.all_eq_true.1 h4 p hp), fun p hp => Nat.le_of_ble_eq_true (List.all_eq_true.1 h5 p hp), h6⟩
theorem yzi (hC : CxOk P C) {sp : Sl K} {fs : List (FV K)} {env : List (DV K)} (hE : okS sp env = true) (hfs : ∀ F ∈ fs, FOk P C F) (hv : ViOk (entL C sp fs env) χ) {R : RR K} {H : Hp} {n : Nat} (hR : R [] H n) (hL : R.L = fun s => χ s 1) :
  GM P C R (entL C sp fs env) χ (ofK ⟨entF (argT C sp (entL C sp fs env) χ) 0, memK C (entL C sp fs env) χ, H, n⟩) ∧ KOk ⟨entF (argT C sp (entL C sp fs env) χ) 0, memK C (entL C sp fs env) χ, H, n⟩ ∧ ∀ d b, lkM (memK C (entL C sp fs env) χ) d = some b → 2000000 ≤ d := by
 obtain ⟨o1, _, o3, o4, o5, o6⟩ := ypQ hE
 obtain ⟨n1, n2⟩ := yhR (C := C) (rg := []) (hh := []) o6
 have hrw : ∀ s, s ∈ sp.ti.rw.map (·.1) → (tln ((entL C sp fs env).tb s 1)).isSome = true := fun s hs => by
  obtain ⟨e, l, hl⟩ := yxo (C := C) (rg := []) (hh := []) o6 o1 hs
  show (tln (lkB (bdT C sp.ti [] [] env).od s)).isSome = true
  rw [hl]; rfl
 obtain ⟨a, b, c, _, w1, w2, w3, we⟩ := ygA (rg := []) (hh := []) (C := C) o6
 have hfr : ∀ t, TR P C (entL C sp fs env) χ (lkT (entL C sp fs env).fr t) (aT C (entL C sp fs env) χ (lkT (entL C sp fs env).fr t)) ∧ (npL sp ≤ t → lkT (entL C sp fs env).fr t = .un) := by
  intro t
  rcases yuG sp.fs fs (bdT C sp.ti [] [] env).fr t with ⟨p, F, a1, a2, a3, a4⟩ | a1
  ·rw [show lkT (entL C sp fs env).fr t = .fv p.2.1 p.2.2 F from a4]
   refine ⟨.fv _ _ _ _ (hfs F a2) (hfs F a2).2.1, fun q => ?_⟩
   have := o4 p a1
   omega
  ·rw [show lkT (entL C sp fs env).fr t = lkT (bdT C sp.ti [] [] env).fr t from a1]
   rw [we]
   rcases yqJ (C := C) (rg := []) sp.ti.ks a t with e | ⟨p, hp, e1, x, e2⟩
   ·rw [e]; exact ⟨.un _, fun _ => rfl⟩
   ·rw [e2]
    refine ⟨yrE hC hv hrw p.2 x (o1.ks p hp), fun q => ?_⟩
    have := o5 p hp
    omega
 have hmem : ∀ d b, lkM (memK C (entL C sp fs env) χ) d = some b → ∃ b0, lkB (entL C sp fs env).od d = some b0 ∧ χ d 1 = false ∧ b = kbT C (entL C sp fs env) χ d := by
  intro d b hb
  rw [yqT] at hb
  split at hb
  ·rename_i hc
   simp only [Bool.and_eq_true, Bool.not_eq_true'] at hc
   obtain ⟨b0, hb0⟩ := Option.isSome_iff_exists.1 hc.1
   exact ⟨b0, hb0, hc.2, (Option.some.inj hb).symm⟩
  ·cases hb
 have hent : ∀ s b, lkB (entL C sp fs env).od s = some b → s ∈ sp.ti.bx.map (·.1) ++ sp.ti.rw.map (·.1) ∧ ((∃ e l x, okKs (sp.ti.bx.map (·.1)) (sp.ti.rw.map (·.1)) l = true ∧ (l ≠ [] ∧ wt (ctVs l) x = true) ∧ b = .box e (bdW C [] l x).1) ∨ ∃ e l, b = .row e l) := by
  intro s b hb
  have hm := ygo (show lkB (bdT C sp.ti [] [] env).od s = some b from hb)
  refine ⟨by rw [← n1]; exact List.mem_map_of_mem (f := (·.1)) hm, ?_⟩
  rcases n2 _ hm with ⟨k, hk, _, x, ew, e2⟩ | ⟨k, hk, _, x, e2⟩
  ·exact .inl ⟨_, _, x, (o1.bx k hk).1, ⟨(o1.bx k hk).2, ew⟩, Option.some.inj e2⟩
  ·exact .inr ⟨_, _, Option.some.inj e2⟩
 refine ⟨⟨fun t => ?_, fun s c b hb hx => ?_, hv, fun s _ => rfl, ?_, fun s b _ _ => by rw [hL]⟩, fun d b hb => ?_, fun d b hb => ?_⟩
 ·show TR P C _ χ _ (lkF (entF (argT C sp (entL C sp fs env) χ) 0) t)
  rw [yre, if_pos (Nat.zero_le _), Nat.sub_zero]
  unfold argT
  rw [List.getElem?_map]
  by_cases ht : t < npL sp
  ·rw [List.getElem?_range ht]; exact (hfr t).1
  ·rw [List.getElem?_eq_none (by simp; omega), (hfr t).2 (by omega)]; exact .un _
 ·rcases tb_c hb with rfl | rfl
  ·have hb' : lkB (entL C sp fs env).od s = some b := hb
   refine ⟨kbT C (entL C sp fs env) χ s, ?_, ?_⟩
   ·show lkO (yqy (memK C (entL C sp fs env) χ)) s = _
    rw [yiV, yqT, if_pos (by rw [hb', hx]; rfl)]
   ·have hk : kbT C (entL C sp fs env) χ s = ⟨(bT C (entL C sp fs env) χ b).e, (bT C (entL C sp fs env) χ b).sz, (bT C (entL C sp fs env) χ b).cells, false⟩ := by unfold kbT; rw [hb']
    rw [hk]
    rcases (hent s b hb').2 with ⟨e, l, x, h1, _, rfl⟩ | ⟨e, l, rfl⟩
    ·obtain ⟨q1, q2⟩ := yuS hC hv hrw l x h1
     exact ⟨rfl, rfl, q1, q2⟩
    ·exact ⟨rfl, rfl, ylh hC e l⟩
  ·cases hb
 ·exact hR
 ·obtain ⟨b0, e1, e2, rfl⟩ := hmem d b hb
  unfold kbT
  rw [e1]
  refine ⟨?_, fun q => by cases q⟩
  rcases (hent d b0 e1).2 with ⟨e, l, x, h1, h2, rfl⟩ | ⟨e, l, rfl⟩
  ·have := yuA hC h2.2 h2.1
   simp only [bT]; exact this
  ·have := (C.E e).pos; simp only [bT]; omega
 ·obtain ⟨b0, e1, _, _⟩ := hmem d b hb
  exact o3 d (hent d b0 e1).1
end
end Go.AV
end
noncomputable section
namespace Go.AV
open Go.RowKit Go.RG Go.Lib
variable {K : Nat → Type}
def rhoM (χ : Nat → Nat → Bool) (M : RM) (s : Nat) : Option (Nat × Nat) := match lkA M.b s with
 | some k => some k
 | none => match lkA M.r s with
   | some (some k) => if χ k.1 k.2 = true then none else some k
   | _ => none
def xiM (χ : Nat → Nat → Bool) (M : RM) (s : Nat) : Bool := match lkA M.b s with
 | some _ => false
 | none => match lkA M.r s with
   | some none => true
   | some (some k) => χ k.1 k.2
   | none => false
section
variable {P : Program} {C : Cx K} {R : RR K} {ts ts1 : TS K} {χ : Nat → Nat → Bool} {ξ : Nat → Bool} {ds : DS} {B : Base} {N : Nat} {ρ : Nat → Option (Nat × Nat)} {p : Nat × Nat → Prop} {rg : List (Nat × TV K)}
theorem ywc (hC : CxOk P C) (hx : ExtR rg ts.rg) {τ : Tm} {env : List (DV K)} {M1 : RM} (h : rdM C τ ts = some (env, M1)) (hh : List (HO K)) (hγ : GM P C R ts χ ds) :
  (∀ s k, rhoM χ M1 s = some k → χ k.1 k.2 = false ∧ ∃ b b1, ts.tb k.1 k.2 = some b ∧ lkB (bdT C τ rg hh env).od s = some b1 ∧ BM P C ts (bdT C τ rg hh env) χ (xiM χ M1) ds (rhoM χ M1) (fun _ => False) b b1) ∧
  (∀ s b1, lkB (bdT C τ rg hh env).od s = some b1 → xiM χ M1 s = false → ∃ k, rhoM χ M1 s = some k) ∧ (∀ s, xiM χ M1 s = true → rhoM χ M1 s = none ∧ ∃ e, lkB (bdT C τ rg hh env).od s = some (.row e [])) ∧
  (∀ s s' k, rhoM χ M1 s = some k → rhoM χ M1 s' = some k → s = s') ∧ ∀ t, TM P C ts (bdT C τ rg hh env) χ (xiM χ M1) ds (rhoM χ M1) (fun _ => False) (lkT ts.fr t) (lkT (bdT C τ rg hh env).fr t) := by
 unfold rdM at h
 split at h
 rotate_left
 ·cases h
 rename_i a m1 h1
 split at h
 rotate_left
 ·cases h
 rename_i b M h2
 split at h
 rotate_left
 ·cases h
 rename_i c h3 h4
 simp only [Option.some.injEq, Prod.mk.injEq] at h
 obtain ⟨rfl, rfl⟩ := h
 simp only [Bool.and_eq_true] at h4
 obtain ⟨hnod, hdom⟩ := h4
 simp only [ys2, Bool.and_eq_true] at hdom
 obtain ⟨⟨hdb, hdr⟩, hdis⟩ := hdom
 have hnod := yk6 hnod
 obtain ⟨nr, nb, ndis⟩ := List.nodup_append.1 hnod
 let ρ : Nat → Option (Nat × Nat) := rhoM χ M
 let ξ : Nat → Bool := xiM χ M
 obtain ⟨rb, gb1, gb2⟩ := yr3 τ.rw c h3 |> fun x => (⟨rfl, x.1, x.2⟩ : (bdR τ.rw c = bdR τ.rw c) ∧ _ ∧ _)
 have hbname : ∀ s k, lkA M.b s = some k → τ.bx.any (fun q => Nat.beq q.1 s) = true := fun s k hs => ydY hs hdb
 have hrname : ∀ s k, lkA M.r s = some k → τ.rw.any (fun q => Nat.beq q.1 s) = true := fun s k hs => ydY hs hdr
 have hapart : ∀ s, τ.bx.any (fun q => Nat.beq q.1 s) = true → τ.rw.any (fun q => Nat.beq q.1 s) = true → False := by
  intro s q1 q2
  obtain ⟨x, hx1, hx2⟩ := List.any_eq_true.1 q1
  obtain ⟨y, hy1, hy2⟩ := List.any_eq_true.1 q2
  have := List.all_eq_true.1 (List.all_eq_true.1 hdis x hx1) y hy1
  rw [nbeq.1 hx2, nbeq.1 hy2, nbeq.2 rfl] at this; cases this
 have hbr : ∀ s k k', lkA M.b s = some k → lkA M.r s = some k' → False := fun s k k' q1 q2 => hapart s (hbname s k q1) (hrname s k' q2)
 have hρb : ∀ s k, lkA M.b s = some k → ρ s = some k := by
  intro s k hs
  show (match lkA M.b s with | some k => some k | none => _) = _
  rw [hs]
 have hρr : ∀ s k, lkA M.r s = some (some k) → ρ s = (if χ k.1 k.2 = true then none else some k) ∧ ξ s = χ k.1 k.2 := by
  intro s k hs
  have hn : lkA M.b s = none := by
   cases hq : lkA M.b s with
   | none => rfl
   | some k' => exact (hbr s k' _ hq hs).elim
  constructor
  ·show (match lkA M.b s with | some k => some k | none => match lkA M.r s with | some (some k) => if χ k.1 k.2 = true then none else some k | _ => none) = _
   rw [hn, hs]
  ·show (match lkA M.b s with | some _ => false | none => match lkA M.r s with | some none => true | some (some k) => χ k.1 k.2 | none => false) = _
   rw [hn, hs]
 have hξn : ∀ s, lkA M.r s = some none → ρ s = none ∧ ξ s = true := by
  intro s hs
  have hn : lkA M.b s = none := by
   cases hq : lkA M.b s with
   | none => rfl
   | some k' => exact (hbr s k' _ hq hs).elim
  constructor
  ·show (match lkA M.b s with | some k => some k | none => match lkA M.r s with | some (some k) => if χ k.1 k.2 = true then none else some k | _ => none) = _
   rw [hn, hs]
  ·show (match lkA M.b s with | some _ => false | none => match lkA M.r s with | some none => true | some (some k) => χ k.1 k.2 | none => false) = _
   rw [hn, hs]
 have hρi : ∀ s k, ρ s = some k → (lkA M.b s = some k) ∨ (lkA M.r s = some (some k) ∧ χ k.1 k.2 = false) := by
  intro s k hs
  have hs' : (match lkA M.b s with | some k => some k | none => match lkA M.r s with | some (some k) => if χ k.1 k.2 = true then none else some k | _ => none) = some k := hs
  split at hs'
  ·rename_i k' e; cases hs'; exact .inl e
  ·split at hs'
   ·rename_i k' e
    split at hs'
    ·cases hs'
    ·rename_i hx'; cases hs'; exact .inr ⟨e, by simpa using hx'⟩
   ·cases hs'
 let tsS : TS K := bdT C τ rg hh (a ++ b ++ c)
 obtain ⟨sub1, t1⟩ := yt4 (P := P) (ts1 := tsS) (χ := χ) (ξ := ξ) (ρ := ρ) (ds := ds) (p := fun _ => False) hC hx τ.ks ⟨[], []⟩ m1 a h1
 obtain ⟨sub2, t2⟩ := yrG (P := P) (ts1 := tsS) (χ := χ) (ξ := ξ) (ρ := ρ) (ds := ds) (p := fun _ => False) hC hx τ.bx m1 M b h2
 obtain ⟨fr1, e1, f1⟩ := t1 (b ++ c)
 obtain ⟨od1, e2, g2, f2⟩ := t2 c
 have hS : tsS = ⟨fr1, od1 ++ bdR τ.rw c, [], rg, hh⟩ := by
  show bdT C τ rg hh (a ++ b ++ c) = _
  unfold bdT
  rw [List.append_assoc, e1]
  simp only
  rw [e2]
 have hlk : ∀ s, lkB tsS.od s = if memB od1 s = true then lkB od1 s else lkB (bdR τ.rw c) s := by
  intro s; rw [hS]; exact yq6 _ _ s
 have hrowlk : ∀ s, τ.rw.any (fun q => Nat.beq q.1 s) = true → lkB tsS.od s = lkB (bdR τ.rw c) s := by
  intro s hs
  rw [hlk, if_neg]
  intro hm
  rw [g2] at hm
  exact hapart s hm hs
 have hGood : Good (rg := rg) ts tsS χ ξ ρ M := by
  refine ⟨?_, ?_, ?_, hρb, by rw [hS]⟩
  ·intro s k hs n hn
   obtain ⟨r1, r2⟩ := hρr s k hs
   have hnm := hrname s _ hs
   obtain ⟨e, ⟨q1, _⟩ | ⟨q, l', q1, q2, q3⟩⟩ := gb2 s (by rw [gb1]; exact hnm)
   ·rw [hs] at q1; cases q1
   ·rw [hs] at q1; cases q1
    refine ⟨?_, fun hx' => ⟨by rw [r1, hx']; rfl, by rw [r2, hx']⟩, fun hx' => by rw [r2, hx']⟩
    show tln (lkB tsS.od s) = _
    rw [hrowlk s hnm, q3]
    rw [(hγ.trow hC q2).1] at hn
    exact hn
  ·intro s k hs
   obtain ⟨e, ⟨q1, _⟩ | ⟨q, l', q1, q2, q3⟩⟩ := gb2 s (by rw [gb1]; exact hrname s _ hs)
   ·rw [hs] at q1; cases q1
   ·rw [hs] at q1; cases q1
    exact ⟨_, (hγ.trow hC q2).1⟩
  ·intro s hs
   obtain ⟨r1, r2⟩ := hξn s hs
   refine ⟨?_, r2⟩
   have hnm := hrname s _ hs
   obtain ⟨e, ⟨q1, q3⟩ | ⟨q, l', q1, q2, q3⟩⟩ := gb2 s (by rw [gb1]; exact hnm)
   ·show tln (lkB tsS.od s) = _
    rw [hrowlk s hnm, q3]; rfl
   ·rw [hs] at q1; cases q1
 show (∀ s k, ρ s = some k → χ k.1 k.2 = false ∧ ∃ b b1, ts.tb k.1 k.2 = some b ∧ lkB tsS.od s = some b1 ∧ BM P C ts tsS χ ξ ds ρ (fun _ => False) b b1) ∧ (∀ s b1, lkB tsS.od s = some b1 → ξ s = false → ∃ k, ρ s = some k) ∧ (∀ s, ξ s = true → ρ s = none ∧ ∃ e, lkB tsS.od s = some (.row e [])) ∧
  (∀ s s' k, ρ s = some k → ρ s' = some k → s = s') ∧ ∀ t, TM P C ts tsS χ ξ ds ρ (fun _ => False) (lkT ts.fr t) (lkT tsS.fr t)
 refine ⟨?_, ?_, ?_, ?_, ?_⟩
 ·intro s k hs
  rcases hρi s k hs with hb | ⟨hr, hx'⟩
  ·have hm : memB od1 s = true := by rw [g2]; exact hbname s k hb
   obtain ⟨q, e, cs, cs1, q1, q2, q3, q4⟩ := f2 s hm
   rw [hb] at q1; cases q1
   exact ⟨hγ.box q2, _, _, q2, by rw [hlk, if_pos hm]; exact q3, q4 hGood⟩
  ·have hnm := hrname s _ hr
   obtain ⟨e, ⟨q1, _⟩ | ⟨q, l', q1, q2, q3⟩⟩ := gb2 s (by rw [gb1]; exact hnm)
   ·rw [hr] at q1; cases q1
   ·rw [hr] at q1; cases q1
    refine ⟨hx', ?_⟩
    have q3' : lkB tsS.od s = some (.row e l') := by rw [hrowlk s hnm]; exact q3
    unfold trow at q2
    split at q2
    ·rename_i e' l0 hb
     obtain ⟨rfl, rfl⟩ := ydE q2
     exact ⟨_, _, hb, q3', BM.row⟩
    ·rename_i e' n cs hb
     split at q2
     ·rename_i he
      have := nbeq.1 he; subst this
      exact ⟨_, _, hb, q3', BM.lr hC q2⟩
     ·cases q2
    ·cases q2
 ·intro s b1 hs hxx
  rw [hlk] at hs
  by_cases hm : memB od1 s = true
  ·obtain ⟨q, e, cs, cs1, q1, _⟩ := f2 s hm
   exact ⟨q, hρb s q q1⟩
  ·rw [if_neg hm] at hs
   have hm2 := yfO hs
   obtain ⟨e, ⟨q1, _⟩ | ⟨q, l', q1, q2, q3⟩⟩ := gb2 s hm2
   ·rw [(hξn s q1).2] at hxx; cases hxx
   ·obtain ⟨r1, r2⟩ := hρr s q q1
    rw [r2] at hxx
    exact ⟨q, by rw [r1, hxx]; rfl⟩
 ·intro s hs
  have hs' : (match lkA M.b s with | some _ => false | none => match lkA M.r s with | some none => true | some (some k) => χ k.1 k.2 | none => false) = true := hs
  split at hs'
  ·cases hs'
  ·split at hs'
   ·rename_i hr
    obtain ⟨r1, r2⟩ := hξn s hr
    refine ⟨r1, ?_⟩
    have hnm := hrname s _ hr
    obtain ⟨e, ⟨q1, q3⟩ | ⟨q, l', q1, q2, q3⟩⟩ := gb2 s (by rw [gb1]; exact hnm)
    ·exact ⟨e, by rw [hrowlk s hnm]; exact q3⟩
    ·rw [hr] at q1; cases q1
   ·rename_i k hr
    obtain ⟨r1, r2⟩ := hρr s k hr
    refine ⟨by rw [r1, if_pos hs'], ?_⟩
    have hnm := hrname s _ hr
    obtain ⟨e, ⟨q1, q3⟩ | ⟨q, l', q1, q2, q3⟩⟩ := gb2 s (by rw [gb1]; exact hnm)
    ·rw [hr] at q1; cases q1
    ·rw [hr] at q1; cases q1
     have := (hγ.trow hC q2).2.1 hs'
     subst this
     exact ⟨e, by rw [hrowlk s hnm]; exact q3⟩
   ·cases hs'
 ·intro s s' k hs hs'
  rcases hρi s k hs with q1 | ⟨q1, _⟩ <;> rcases hρi s' k hs' with q2 | ⟨q2, _⟩
  ·exact yk0 nb q1 q2
  ·exact absurd rfl (ndis k (ydu q2) k (ydw q1))
  ·exact absurd rfl (ndis k (ydu q1) k (ydw q2))
  ·exact yio nr q1 q2
 ·intro t
  have := f1 (hGood.sub sub2) t
  rw [hS]; rw [hS] at this
  exact this
end
mutual
theorem ynM (f : Nat → Nat → Option K2) : ∀ u : AV, u.noL = true → reA f u = u
 | .gs (.l d c) n, h => by simp [AV.noL] at h
 | .pt (.l d c) o, h => by simp [AV.noL] at h
 | .agg cs, h => by simp only [AV.noL] at h; simp only [reA, yg7 f cs h]
 | .tup cs, h => by simp only [AV.noL] at h; simp only [reA, yg7 f cs h]
 | .fn g a c, h => by simp only [AV.noL, Bool.and_eq_true] at h; simp only [reA, yg7 f a h.1, yg7 f c h.2]
 | .gs (.h _) _, _ => rfl
 | .pt (.h _) _, _ => rfl
 | .un, _ => rfl
 | .bl _, _ => rfl
 | .it _ _, _ => rfl
 | .st _, _ => rfl
 | .sl _ _ _, _ => rfl
 | .ep _ _, _ => rfl
 | .nptr, _ => rfl
 | .nfn, _ => rfl
 | .yld _, _ => rfl
 | .rcd _ _ _ _, _ => rfl
theorem yg7 (f : Nat → Nat → Option K2) : ∀ l : List AV, noLs l = true → reAs f l = l
 | [], _ => rfl
 | u :: r, h => by simp only [noLs, Bool.and_eq_true] at h; simp only [reAs, ynM f u h.1, yg7 f r h.2]
end
theorem RV.vw {ρ : Nat → Option (Nat × Nat)} {S : St} {f : Nat → Nat → Option K2} (hf : ∀ d k, ρ d = some k → f k.1 k.2 = some (d, 1)) {u v : AV} (h : RV ρ S (fun _ => False) u v) : VW (reA f v) u := by
 have hL : ∀ {us vs : List AV}, us.length = vs.length → (∀ (j : Nat) (u v : AV), us[j]? = some u → vs[j]? = some v → VW (reA f v) u) → VWs (reAs f vs) us := by
  intro us vs hl hh
  refine ⟨by rw [ydA]; exact hl.symm, fun j a b p q => ?_⟩
  obtain ⟨w, e1, rfl⟩ := ygv p
  exact hh j b w q e1
 induction h with
 | no u h => rw [ynM f u h]; exact VW.refl _
 | un v => exact VW.un _
 | gs d n k h => simp only [reA, hf d k h]; exact VW.refl _
 | pt d off k h => simp only [reA, hf d k h]; exact VW.refl _
 | pub k n b hp => exact hp.elim
 | nil => exact VW.dwk (.sl true 0 [])
 | ep xs off w =>
   intro G x hx
   obtain ⟨b, base, g, e, a1, a2, a3, a4, a5⟩ := VR.ep_inv (show VR G (.ep xs off) x from hx)
   rw [e, show base + off = (base + off) + 0 from rfl]
   have hsub : ∀ (j : Nat) (u : AV), ((xs.drop off).take w)[j]? = some u → xs[off + j]? = some u := by
    intro j u hu
    simp only [List.getElem?_take, List.getElem?_drop] at hu
    split at hu
    ·exact hu
    ·cases hu
   refine .ep _ 0 b (base + off) (fun j => g (off + j)) a1 ?_ ?_ ?_ (ynK (fun u hu => List.mem_of_mem_drop (List.mem_of_mem_take hu)) a5)
   ·intro j u hu; have := a2 _ u (hsub j u hu); rw [Nat.add_assoc]; exact this
   ·intro j u hu; exact a3 _ u (hsub j u hu)
   ·intro j u hu; exact a4 _ u (hsub j u hu)
 | agg us vs hl h ih => simp only [reA]; exact VW.agg (hL hl ih)
 | tup us vs hl h ih => simp only [reA]; exact VW.tup (hL hl ih)
 | fn g us vs us' vs' hl h hl' h' ih ih' => simp only [reA]; exact VW.fn (hL hl ih) (hL hl' ih')
def innM {β : Type} (g : Nat → Option K2) (l : List (Nat × β)) : List (Nat × K2) := l.filterMap fun p => (g p.1).map fun k => (p.1, k)
theorem ydy {β : Type} {g : Nat → Option K2} {l : List (Nat × β)} {s : Nat} {k : K2} : (s, k) ∈ innM g l ↔ g s = some k ∧ s ∈ l.map (·.1) := by
 unfold innM
 rw [List.mem_filterMap]
 constructor
 ·rintro ⟨p, hp, h⟩
  obtain ⟨k', e1, e2⟩ := Option.map_eq_some_iff.1 h
  cases e2
  exact ⟨e1, List.mem_map_of_mem hp⟩
 ·rintro ⟨h, hm⟩
  obtain ⟨p, hp, rfl⟩ := List.mem_map.1 hm
  exact ⟨p, hp, by rw [h]; rfl⟩
theorem yoq {β : Type} {g : Nat → Option K2} : ∀ {l : List (Nat × β)}, (l.map (·.1)).Nodup → ((innM g l).map (·.1)).Nodup
 | [], _ => List.nodup_nil
 | p :: l, h => by
   obtain ⟨h1, h2⟩ := List.nodup_cons.1 (show (p.1 :: l.map (·.1)).Nodup from h)
   have ih := yoq (g := g) h2
   unfold innM
   rw [List.filterMap_cons]
   cases hg : g p.1 with
   | none => exact ih
   | some k =>
     simp only [Option.map_some, List.map_cons]
     refine List.nodup_cons.2 ⟨fun hm => ?_, ih⟩
     obtain ⟨q, hq, e⟩ := List.mem_map.1 hm
     have := (ydy.1 (show (q.1, q.2) ∈ innM g l from hq)).2
     rw [e] at this; exact h1 this
theorem yn0 {β : Type} {g : Nat → Option K2} (inj : ∀ s s' k, g s = some k → g s' = some k → s = s') : ∀ {l : List (Nat × β)}, (l.map (·.1)).Nodup → ((innM g l).map (·.2)).Nodup
 | [], _ => List.nodup_nil
 | p :: l, h => by
   obtain ⟨h1, h2⟩ := List.nodup_cons.1 (show (p.1 :: l.map (·.1)).Nodup from h)
   have ih := yn0 inj h2
   unfold innM
   rw [List.filterMap_cons]
   cases hg : g p.1 with
   | none => exact ih
   | some k =>
     simp only [Option.map_some, List.map_cons]
     refine List.nodup_cons.2 ⟨fun hm => ?_, ih⟩
     obtain ⟨q, hq, e⟩ := List.mem_map.1 hm
     obtain ⟨a, b⟩ := ydy.1 (show (q.1, q.2) ∈ innM g l from hq)
     have := inj q.1 p.1 k (by rw [a, e]) hg
     rw [this] at b; exact h1 b
theorem ytU {α β : Type} [DecidableEq α] {l : List (α × β)} (hn : (l.map (·.1)).Nodup) {a : α} {b : β} (h : (a, b) ∈ l) : lkE l a = some b := by
 induction l with
 | nil => cases h
 | cons p l ih =>
   obtain ⟨h1, h2⟩ := List.nodup_cons.1 (show (p.1 :: l.map (·.1)).Nodup from hn)
   simp only [lkE]
   rcases List.mem_cons.1 h with rfl | h
   ·rw [if_pos rfl]
   ·rw [if_neg (fun e => h1 (by rw [e]; exact List.mem_map_of_mem (f := (·.1)) h))]; exact ih h2 h
theorem ytP {α β : Type} [DecidableEq β] {l : List (α × β)} (hn : (l.map (·.2)).Nodup) {a : α} {b : β} (h : (a, b) ∈ l) : lkZ l b = some a := by
 induction l with
 | nil => cases h
 | cons p l ih =>
   obtain ⟨h1, h2⟩ := List.nodup_cons.1 (show (p.2 :: l.map (·.2)).Nodup from hn)
   simp only [lkZ]
   rcases List.mem_cons.1 h with rfl | h
   ·rw [if_pos rfl]
   ·rw [if_neg (fun e => h1 (by rw [e]; exact List.mem_map_of_mem (f := (·.2)) h))]; exact ih h2 h
mutual
theorem yxM {C : Cx K} {ts ts' : TS K} {χ : Nat → Nat → Bool} (h : ∀ s c, ts.tb s c = ts'.tb s c) : ∀ u : TV K, aT C ts χ u = aT C ts' χ u
 | .rw s c => by simp only [aT, h]
 | .agg cs => by simp only [aT, ym5 h cs]
 | .tup cs => by simp only [aT, ym5 h cs]
 | .fn f a c => by simp only [aT, ym5 h a, ym5 h c]
 | .cn _ v => by simp only [aT, yxM h v]
 | .it _ _ | .bl _ | .st _ | .sl _ _ | .nil | .un | .px _ _ _ | .lb _ | .li _ _ | .em | .pr _ _ _ _ _ | .ep _ _ _ _ | .gs _ _ | .nptr | .fv _ _ _ => by simp only [aT]
theorem ym5 {C : Cx K} {ts ts' : TS K} {χ : Nat → Nat → Bool} (h : ∀ s c, ts.tb s c = ts'.tb s c) : ∀ us : List (TV K), aTs C ts χ us = aTs C ts' χ us
 | [] => rfl
 | u :: us => by simp only [aTs, yxM h u, ym5 h us]
end
theorem yuB {K : Nat → Type} : ∀ {l : List (Nat × Option (TB K))} {s : Nat}, memB l s = true → s ∈ l.map (·.1)
 | [], _, h => by cases h
 | p :: l, s, h => by
   have h' : (Nat.beq p.1 s || memB l s) = true := h
   simp only [Bool.or_eq_true] at h'
   rcases h' with h1 | h1
   ·rw [← nbeq.1 h1]; exact List.mem_cons_self
   ·exact List.mem_cons_of_mem _ (yuB h1)
theorem BW.trans {a b c : Option Blk} (h : BW a b) (k : BW b c) : BW a c := by
 cases a with
 | none => cases b with
   | none => exact k
   | some b => exact h.elim
 | some a => cases b with
   | none => exact h.elim
   | some b => cases c with
     | none => exact k.elim
     | some c =>
       obtain ⟨a1, a2, a3, a4, a5⟩ := h
       obtain ⟨b1, b2, b3, b4, b5⟩ := k
       refine ⟨a1, b2.trans a2, b3.trans a3, a4.trans b4, fun j u v p q => ?_⟩
       have hj : j < b.cells.length := by rw [b4]; exact (List.getElem?_eq_some_iff.1 q).1
       exact (a5 j u _ p (List.getElem?_eq_getElem hj)).trans (b5 j _ v (List.getElem?_eq_getElem hj) q)
section
variable {P : Program} {C : Cx K} {R : RR K} {ts : TS K} {χ : Nat → Nat → Bool} {ds : DS}
theorem ylH : ∀ {us : List (TV K)} {vs : List AV} (i t : Nat), TL P C ts χ us vs → TR P C ts χ (lkT (zipT us i) t) (lkF (entF vs i) t)
 | [], vs, i, t, _ => .un _
 | u :: us, [], i, t, h => by have := h.1; simp at this
 | u :: us, v :: vs, i, t, h => by
   show TR P C ts χ (lkT ((i, u) :: zipT us (i + 1)) t) (lkF ((i, v) :: entF vs (i + 1)) t)
   rw [yek, ydb]
   simp only
   split
   ·exact h.head.1
   ·exact ylH (i + 1) t h.head.2
theorem yrm {Φ : List (Sp K)} {fr fr' : List (Nat × TV K)} : ∀ {l : List (Nat × List Nat × List Nat)} {fs : List (FV K)} (t : Nat), ypM C Φ fr l = some fs → lkT (zipF l fs ++ fr') t = lkT fr' t ∨ ∃ ps rs F, lkT (zipF l fs ++ fr') t = .fv ps rs F ∧ F ∈ fs ∧ yuJ C Φ (.f ps rs) (lkT fr t) = some (.f F)
 | [], fs, t, h => by cases h; exact .inl rfl
 | p :: l, fs, t, h => by
   simp only [ypM] at h
   split at h
   ·rename_i F fs' h1 h2
    cases h
    show lkT ((p.1, .fv p.2.1 p.2.2 F) :: (zipF l fs' ++ fr')) t = _ ∨ ∃ ps rs F', lkT ((p.1, .fv p.2.1 p.2.2 F) :: (zipF l fs' ++ fr')) t = _ ∧ _ ∧ _
    rw [yek]
    split
    ·rename_i e; subst e; exact .inr ⟨_, _, F, rfl, List.mem_cons_self, h1⟩
    ·rcases yrm t h2 with e | ⟨ps, rs, F', e1, e2, e3⟩
     ·exact .inl e
     ·exact .inr ⟨ps, rs, F', e1, List.mem_cons_of_mem _ e2, e3⟩
   ·cases h
theorem yuN (hC : CxOk P C) (hγ : GM P C R ts χ ds) (hk : DOk ds) {sp : Sl K} {us : List (TV K)} {vs : List AV} {env : List (DV K)} {M : RM} {fs : List (FV K)} (ht : TL P C ts χ us vs)
  (h : rdM C sp.ti ⟨zipT us 0, ts.od, ts.nw, ts.rg, ts.h⟩ = some (env, M)) (hn : ((entL C sp fs env).od.map (·.1)).Nodup) (h2 : ∀ s ∈ (entL C sp fs env).od.map (·.1), 2000000 ≤ s) :
  ViOk (entL C sp fs env) (χ1 (xiM χ M)) ∧ ylV (innM (rhoM χ M) (entL C sp fs env).od) (toD ds).M ∧
  (∀ d, BW (memL (innM (rhoM χ M) (entL C sp fs env).od) (toD ds).M d) (memT C (entL C sp fs env) (χ1 (xiM χ M)) d)) ∧
  (∀ d k, rhoM χ M d = some k → finL (innM (rhoM χ M) (entL C sp fs env).od) k.1 k.2 = some (d, 1)) ∧
  ∀ t, VW (reA (finL (innM (rhoM χ M) (entL C sp fs env).od)) (lkF (entF vs 0) t)) (aT C (entL C sp fs env) (χ1 (xiM χ M)) (lkT (bdT C sp.ti [] [] env).fr t)) := by
 have hm : Mono ts ⟨zipT us 0, ts.od, ts.nw, ts.rg, ts.h⟩ χ χ := ⟨fun _ _ q => q, fun _ _ q => q, fun _ _ _ => .inr ⟨rfl, rfl⟩⟩
 have hA : GM P C R ⟨zipT us 0, ts.od, ts.nw, ts.rg, ts.h⟩ χ { ds with fr := entF vs 0 } :=
  ⟨fun t => (ylH 0 t ht).mono hm, fun s c b hb hx => by obtain ⟨kb, a, b⟩ := hγ.mb s c b hb hx; exact ⟨kb, a, b.mono hm⟩, hγ.vi, hγ.nw, hγ.hp, hγ.lv⟩
 obtain ⟨r1, r2, r3, r4, r5⟩ := ywc hC (rg := []) (fun id w q => by cases q) h [] hA
 have hod : (entL C sp fs env).od = (bdT C sp.ti [] [] env).od := rfl
 have htb : ∀ s c, (bdT C sp.ti [] [] env).tb s c = (entL C sp fs env).tb s c := fun s c => rfl
 have hnm : ∀ s k, rhoM χ M s = some k → s ∈ (entL C sp fs env).od.map (·.1) := fun s k hs => by
  obtain ⟨_, b, b1, _, e, _⟩ := r1 s k hs
  exact yuB (yfO e)
 have hin : ∀ d k, rhoM χ M d = some k → finL (innM (rhoM χ M) (entL C sp fs env).od) k.1 k.2 = some (d, 1) := fun d k hd => by
  unfold finL
  rw [show lkZ (innM (rhoM χ M) (entL C sp fs env).od) (k.1, k.2) = some d from ytP (yn0 r4 hn) (ydy.2 ⟨hd, hnm d k hd⟩)]
  rfl
 have hkb : ∀ (k : Nat × Nat) (b : TB K), ts.tb k.1 k.2 = some b → χ k.1 k.2 = false → ∃ kb, ds.kb k.1 k.2 = some kb ∧ MR P C ⟨zipT us 0, ts.od, ts.nw, ts.rg, ts.h⟩ χ b kb ∧ (toD ds).M (.l k.1 k.2) = some kb.blk ∧ kb.sz ≠ 0 := fun k b hb hx => by
  obtain ⟨kb, e1, e2⟩ := hA.mb k.1 k.2 b hb hx
  exact ⟨kb, e1, e2, by show (ds.kb k.1 k.2).map KB.blk = _; rw [show ds.kb k.1 k.2 = some kb from e1]; rfl, (hk k.1 k.2 kb e1).1⟩
 refine ⟨?_, ⟨yoq hn, yn0 r4 hn, fun p hp => ?_⟩, fun d => ?_, hin, fun t => ?_⟩
 ·intro s c hx
  simp only [χ1, Bool.and_eq_true, decide_eq_true_eq] at hx
  obtain ⟨rfl, hx⟩ := hx
  exact (r3 s hx).2
 ·obtain ⟨a, b⟩ := ydy.1 (show (p.1, p.2) ∈ _ from hp)
  obtain ⟨hx, b0, b1, e, _⟩ := r1 _ _ a
  obtain ⟨kb, _, _, e3, e4⟩ := hkb p.2 b0 e hx
  exact ⟨h2 _ b, kb.blk, e3, e4⟩
 ·cases hd : rhoM χ M d with
  | none =>
    have e1 : memL (innM (rhoM χ M) (entL C sp fs env).od) (toD ds).M d = none := by
     unfold memL
     cases he : lkE (innM (rhoM χ M) (entL C sp fs env).od) d with
     | none => rfl
     | some k => have := (ydy.1 (yp0 he)).1; rw [hd] at this; cases this
    have e2 : memT C (entL C sp fs env) (χ1 (xiM χ M)) d = none := by
     unfold memT
     cases hx : χ1 (xiM χ M) d 1 with
     | true => rfl
     | false =>
       simp only
       cases hb : lkB (entL C sp fs env).od d with
       | none => rfl
       | some b1 =>
         obtain ⟨k, hk'⟩ := r2 d b1 hb (by simpa [χ1] using hx)
         rw [hd] at hk'; cases hk'
    rw [e1, e2]; trivial
  | some k =>
    obtain ⟨hx, b, b1, e1, e2, e3⟩ := r1 d k hd
    obtain ⟨kb, q1, q2, q3, q4⟩ := hkb k b e1 hx
    obtain ⟨cells1, c1, c2⟩ := e3 kb q2
    have hx0 : χ1 (xiM χ M) d 1 = false := by
     cases hq : xiM χ M d with
     | true => rw [(r3 d hq).1] at hd; cases hd
     | false => simp [χ1, hq]
    have e4 : memL (innM (rhoM χ M) (entL C sp fs env).od) (toD ds).M d = some (Blk.re (finL (innM (rhoM χ M) (entL C sp fs env).od)) kb.blk) := by
     unfold memL
     rw [ytU (yoq hn) (ydy.2 ⟨hd, hnm d k hd⟩)]
     simp only [Option.bind_some]
     rw [q3]; rfl
    have e5 : memT C (entL C sp fs env) (χ1 (xiM χ M)) d = some (bT C (entL C sp fs env) (χ1 (xiM χ M)) b1) := by
     unfold memT
     rw [hx0, show lkB (entL C sp fs env).od d = some b1 from e2]; rfl
    rw [e4, e5]
    have w1 : BW (some (Blk.re (finL (innM (rhoM χ M) (entL C sp fs env).od)) kb.blk)) (some ⟨kb.e, kb.sz, cells1⟩) := by
     refine ⟨q4, rfl, rfl, ?_, fun j u v p q => ?_⟩
     ·show (reAs _ kb.cells).length = cells1.length
      rw [ydA]; exact c2.1.symm
     ·obtain ⟨w, f1, rfl⟩ := ygv p
      exact (c2.2 j v w q f1).vw hin
    have w2 := c1.canon (show (⟨kb.e, kb.sz, cells1, false⟩ : KB).sz ≠ 0 from q4)
    have e6 : bT C (entL C sp fs env) (χ1 (xiM χ M)) b1 = bT C (bdT C sp.ti [] [] env) (χ1 (xiM χ M)) b1 := by
     cases b1 <;> simp only [bT, ym5 (fun s c => (htb s c).symm)]
    rw [e6]
    exact w1.trans w2
 ·obtain ⟨v1, t1, t2⟩ := r5 t _ (hA.fr t)
  rw [← yxM htb]
  exact (t2.vw hin).trans t1.canon
theorem yuu (hC : CxOk P C) {Φ : List (Sp K)} (hS : SsOk P C Φ) {sp : Sl K} {us : List (TV K)} {vs : List AV} {env : List (DV K)} {fs : List (FV K)} {χ0 : Nat → Nat → Bool} {f : Nat → Nat → Option K2} (ht : TL P C ts χ us vs)
  (hf : ypM C Φ (zipT us 0) sp.fs = some fs) (hl : us.length = npL sp) (hv : ∀ t, VW (reA f (lkF (entF vs 0) t)) (aT C (entL C sp fs env) χ0 (lkT (bdT C sp.ti [] [] env).fr t))) : VWs (vs.map (reA f)) (argT C sp (entL C sp fs env) χ0) := by
 refine ⟨by unfold argT; rw [List.length_map, List.length_map, List.length_range, ← hl]; exact ht.1, fun j u w hu hw => ?_⟩
 rw [List.getElem?_map] at hu
 obtain ⟨v, e1, rfl⟩ := Option.map_eq_some_iff.1 hu
 unfold argT at hw
 rw [List.getElem?_map] at hw
 obtain ⟨i, e2, rfl⟩ := Option.map_eq_some_iff.1 hw
 have hi : i = j := by
  have hj : j < npL sp := by simpa using (List.getElem?_eq_some_iff.1 e2).1
  rw [List.getElem?_range hj] at e2; exact (Option.some.inj e2).symm
 subst hi
 have hvi : lkF (entF vs 0) i = v := by rw [yre, if_pos (Nat.zero_le _), Nat.sub_zero, e1]; rfl
 have ht' := ylH 0 i ht
 rw [hvi] at ht'
 have hv' := hv i
 rw [hvi] at hv'
 rcases yrm (fr' := (bdT C sp.ti [] [] env).fr) i hf with e | ⟨ps, rs, F, e, _, e3⟩
 ·rw [show lkT (entL C sp fs env).fr i = lkT (bdT C sp.ti [] [] env).fr i from e]; exact hv'
 ·rw [show lkT (entL C sp fs env).fr i = .fv ps rs F from e]
  obtain ⟨q1, q2, _⟩ := yk2 hC hS e3 ht'
  rw [ynM f v q1]
  have q3 : dwk v = F.av := q2
  simp only [aT]
  rw [← q3]
  exact VW.dwk v
theorem yo3 (hC : CxOk P C) {Φ : List (Sp K)} (hS : SsOk P C Φ) {us : List (TV K)} {vs : List AV} (ht : TL P C ts χ us vs) : ∀ {l : List (Nat × List Nat × List Nat)} {fs : List (FV K)}, ypM C Φ (zipT us 0) l = some fs → fs.length = l.length ∧ ∀ F ∈ fs, FOk P C F
 | [], fs, h => by cases h; exact ⟨rfl, fun F hF => by cases hF⟩
 | p :: l, fs, h => by
   simp only [ypM] at h
   split at h
   ·rename_i F fs' h1 h2
    cases h
    obtain ⟨a, b⟩ := yo3 hC hS ht h2
    refine ⟨by simp [a], fun G hG => ?_⟩
    rcases List.mem_cons.1 hG with rfl | hG
    ·exact (yk2 hC hS h1 (ylH 0 p.1 ht)).2.2 _ rfl
    ·exact b G hG
   ·cases h
theorem yrb (hC : CxOk P C) {Φ : List (Sp K)} (hS : SsOk P C Φ) (hγ : GM P C R ts χ ds) (hk : DOk ds) {sp : Sl K} (hL : SlOk P C sp) {us : List (TV K)} {vs : List AV} {env out : List (DV K)} {M : RM} {fs : List (FV K)} (ht : TL P C ts χ us vs)
  (h : rdM C sp.ti ⟨zipT us 0, ts.od, ts.nw, ts.rg, ts.h⟩ = some (env, M)) (hf : ypM C Φ (zipT us 0) sp.fs = some fs) (hl : us.length = npL sp) (hn : ((entL C sp fs env).od.map (·.1)).Nodup) (h2 : ∀ s ∈ (entL C sp fs env).od.map (·.1), 2000000 ≤ s) (hW : sp.W fs env out) :
  ylV (innM (rhoM χ M) (entL C sp fs env).od) (toD ds).M ∧ ∀ H n, ybf P sp.f (vs.map (reA (finL (innM (rhoM χ M) (entL C sp fs env).od)))) (memL (innM (rhoM χ M) (entL C sp fs env).od) (toD ds).M) H n (EndL C sp (entL C sp fs env) (χ1 (xiM χ M)) out H n) := by
 obtain ⟨a1, a2, a3, a4, a5⟩ := yuN hC hγ hk ht h hn h2
 obtain ⟨b1, b2⟩ := yo3 hC hS ht hf
 exact ⟨a2, fun H n => (hL fs env out b1 b2 hW _ a1 H n).weak (yuu hC hS ht hf hl a5) a3⟩
end
structure ypz (P : Program) (C : Cx K) (t1 t2 : TS K) (χ' χ2 : Nat → Nat → Bool) (m : RM) (n : Nat → Nat) (f : Nat → Nat → Option K2) : Prop where
 r : ∀ s k, tln (t1.tb s 1) = some k → χ' s 1 = false → ∃ q : K2, plV (K := K) m n (.rw s 1) = .rw q.1 q.2 ∧ f s 1 = some q ∧ okr t2 q.1 q.2 ∧ tln (t2.tb q.1 q.2) = some k ∧ χ2 q.1 q.2 = false
 nr : ∀ s k, tln (t1.tb s 1) = some k → χ' s 1 = true → TR P C t2 χ2 (plV m n (.rw s 1)) (.sl true 0 [])
 b : ∀ s, isBx (t1.tb s 1) = true → ∃ q : K2, (∀ o, plV (K := K) m n (.px s 1 o) = .px q.1 q.2 o) ∧ f s 1 = some q ∧ okr t2 q.1 q.2
section
variable {P : Program} {C : Cx K} {t1 t2 : TS K} {χ' χ2 : Nat → Nat → Bool} {m : RM} {n : Nat → Nat} {f : Nat → Nat → Option K2}
mutual
theorem yqa : ∀ u : TV K, yaZ u = true → plV m n u = u
 | .agg cs, h => by simp only [yaZ] at h; simp only [plV, ygW cs h]
 | .fn f a c, h => by simp only [yaZ, Bool.and_eq_true] at h; simp only [plV, ygW a h.1, ygW c h.2]
 | .rw _ _, h => by simp [yaZ] at h
 | .px _ _ _, h => by simp [yaZ] at h
 | .un, _ | .tup _, _ | .cn _ _, _ | .it _ _, _ | .bl _, _ | .st _, _ | .sl _ _, _ | .nil, _ | .lb _, _ | .li _ _, _ | .em, _ | .pr _ _ _ _ _, _ | .ep _ _ _ _, _ | .gs _ _, _ | .nptr, _ | .fv _ _ _, _ => by simp only [plV]
theorem ygW : ∀ us : List (TV K), ybr us = true → plVs m n us = us
 | [], _ => rfl
 | u :: us, h => by simp only [ybr, Bool.and_eq_true] at h; simp only [plVs, yqa u h.1, ygW us h.2]
end
theorem yr2 (hC : CxOk P C) (t : Nat) (x : K t) : TR P C t2 χ2 (plV m n (inV C t x)) (reA f (aT C t1 χ' (inV C t x))) := by
 rcases yvL hC t x with e | e
 ·rw [e]; exact .un _
 ·obtain ⟨a, b⟩ := (ynm (ts := t1) (χ := χ') hC t x).noref (ts' := t2) (χ' := χ2) e
  rw [yqa _ e, ynM f _ b]; exact a
mutual
theorem yrC (hC : CxOk P C) (h : ypz P C t1 t2 χ' χ2 m n f) {bx rw : List Nat} (hrw : ∀ s, s ∈ rw → (tln (t1.tb s 1)).isSome = true) (hbx : ∀ s, s ∈ bx → isBx (t1.tb s 1) = true) : ∀ (k : Kd) (a : List (DV K)), okK bx rw k = true → TR P C t2 χ2 (plV m n (bdV C [] k a).1) (reA f (aT C t1 χ' (bdV C [] k a).1))
 | .it k, a, _ => by cases a with
   | nil => exact .un _
   | cons x a => cases x <;> first | exact .it k _ | exact .un _
 | .bl, a, _ => by cases a with
   | nil => exact .un _
   | cons x a => cases x <;> first | exact .bl _ | exact .un _
 | .st, a, _ => by cases a with
   | nil => exact .un _
   | cons x a => cases x <;> first | exact .st _ | exact .un _
 | .sl e, a, _ => by cases a with
   | nil => exact .un _
   | cons x a => cases x with
     | l e' l =>
       simp only [bdV]
       split
       ·exact .sl e _ false _ _ rfl (ylh hC e _)
       ·exact .un _
     | _ => exact .un _
 | .v t, a, _ => by cases a with
   | nil => exact .un _
   | cons x a => cases x with
     | v t' x =>
       simp only [bdV]
       split
       ·exact yr2 hC t _
       ·exact .un _
     | _ => exact .un _
 | .row s, a, hk => by
   simp only [okK] at hk
   obtain ⟨k, hk⟩ := Option.isSome_iff_exists.1 (hrw s (yfK.1 hk))
   have e : (bdV C [] (.row s) a).1 = .rw s 1 := by cases a <;> rfl
   rw [e]
   simp only [aT, hk]
   cases hx : χ' s 1 with
   | true => exact h.nr s k hk hx
   | false =>
     obtain ⟨q, e1, e2, e3, e4, e5⟩ := h.r s k hk hx
     rw [e1]
     simp only [reA, e2]
     exact .rw _ _ k e3 e4 e5
 | .px s o, a, hk => by
   simp only [okK] at hk
   have e : (bdV C [] (.px s o) a).1 = .px s 1 o := by cases a <;> rfl
   obtain ⟨q, e1, e2, e3⟩ := h.b s (hbx s (yfK.1 hk))
   rw [e, e1 o]
   simp only [aT, reA, e2]
   exact .px _ _ o e3
 | .kp id, a, hk => by simp [okK] at hk
 | .nil, a, _ => by
   have e : (bdV C [] .nil a).1 = .nil := by cases a <;> rfl
   rw [e]; exact .nil
 | .np, a, _ => by
   have e : (bdV C [] .np a).1 = .nptr := by cases a <;> rfl
   rw [e]; exact .nptr
 | .un, a, _ => by
   have e : (bdV C [] .un a).1 = .un := by cases a <;> rfl
   rw [e]; exact .un _
 | .agg l, a, hk => by
   simp only [okK] at hk
   have := ygQ hC h hrw hbx l a hk
   simp only [bdV, aT, plV, reA]
   exact .agg _ _ this.1 this.2
 | .fn g x y, a, hk => by
   simp only [okK, Bool.and_eq_true] at hk
   have h1 := ygQ hC h hrw hbx x a hk.1
   have h2 := ygQ hC h hrw hbx y (bdVs C [] x a).2 hk.2
   simp only [bdV, aT, plV, reA]
   exact .fn g _ _ _ _ h1.1 h2.1 h1.2 h2.2
theorem ygQ (hC : CxOk P C) (h : ypz P C t1 t2 χ' χ2 m n f) {bx rw : List Nat} (hrw : ∀ s, s ∈ rw → (tln (t1.tb s 1)).isSome = true) (hbx : ∀ s, s ∈ bx → isBx (t1.tb s 1) = true) : ∀ (l : List Kd) (a : List (DV K)), okKs bx rw l = true → TL P C t2 χ2 (plVs m n (bdVs C [] l a).1) (reAs f (aTs C t1 χ' (bdVs C [] l a).1))
 | [], a, _ => .nil
 | k :: l, a, hk => by
   simp only [okKs, Bool.and_eq_true] at hk
   simp only [bdVs, aTs, plVs, reAs]
   exact .cons (yrC hC h hrw hbx k a hk.1) (ygQ hC h hrw hbx l _ hk.2)
end
theorem yrs (hC : CxOk P C) (h : ypz P C t1 t2 χ' χ2 m n f) {bx rw : List Nat} (hrw : ∀ s, s ∈ rw → (tln (t1.tb s 1)).isSome = true) (hbx : ∀ s, s ∈ bx → isBx (t1.tb s 1) = true) (l : List Kd) (a : List (DV K)) (hk : okKs bx rw l = true) : TL P C t2 χ2 (plVs m n (bdW C [] l a).1) (reAs f (aTs C t1 χ' (bdW C [] l a).1)) := by
 by_cases hw : ∃ t, l = [.v t] ∧ (C.T t).g = true
 ·obtain ⟨t, rfl, hg⟩ := hw
  have key : ∀ x : K t, TL P C t2 χ2 (plVs m n ((C.T t).c x)) (reAs f (aTs C t1 χ' ((C.T t).c x))) := fun x => by
   have := yr2 (P := P) (t1 := t1) (t2 := t2) (χ' := χ') (χ2 := χ2) (m := m) (n := n) (f := f) hC t x
   rw [show inV C t x = .agg ((C.T t).c x) by unfold inV; rw [hg]] at this
   simp only [aT, plV, reA] at this
   obtain ⟨vs, e, c1, c2⟩ := this.agg'
   cases e
   exact ⟨c1, c2⟩
  unfold bdW
  simp only [hg]
  split
  ·split
   ·exact key _
   ·exact .nil
  ·exact .nil
 ·rw [yqc (fun t e => by
   cases hg : (C.T t).g with
   | false => rfl
   | true => exact absurd ⟨t, e, hg⟩ hw)]
  exact ygQ hC h hrw hbx l a hk
theorem yiC (m : RM) (n : Nat → Nat) : ∀ us : List (TV K), plVs m n us = us.map (plV m n)
 | [] => rfl
 | u :: us => by rw [plVs, yiC m n us]; rfl
theorem yyC (hC : CxOk P C) (e : Nat) (l : List (K e)) : noLs (cl (C.E e) l) = true := ycV (ylh hC e l)
theorem yvu (hC : CxOk P C) (h : ypz P C t1 t2 χ' χ2 m n f) {bx rw : List Nat} (hrw : ∀ s, s ∈ rw → (tln (t1.tb s 1)).isSome = true) (hbx : ∀ s, s ∈ bx → isBx (t1.tb s 1) = true) {b b' : TB K}
  (hb : (∃ e l x, okKs bx rw l = true ∧ (l ≠ [] ∧ wt (ctVs l) x = true) ∧ b = .box e (bdW C [] l x).1) ∨ ∃ e l, b = .row e l) (hm : mapB (plV m n) (some b) = some b') :
  MR P C t2 χ2 b' ⟨(bT C t1 χ' b).e, (bT C t1 χ' b).sz, reAs f (bT C t1 χ' b).cells, false⟩ ∧ (bT C t1 χ' b).sz ≠ 0 := by
 rcases hb with ⟨e, l, x, h1, h2, rfl⟩ | ⟨e, l, rfl⟩
 ·cases hm
  obtain ⟨a1, a2⟩ := yrs hC h hrw hbx l x h1
  rw [yiC] at a1 a2
  refine ⟨⟨rfl, by simp [bT], a1, a2⟩, ?_⟩
  have := yuA hC h2.2 h2.1
  simp only [bT]; exact this
 ·cases hm
  refine ⟨⟨rfl, rfl, ?_⟩, ?_⟩
  ·show dwks (reAs f (cl (C.E e) l)) = _
   rw [yg7 f _ (yyC hC e l)]; exact ylh hC e l
  ·have := (C.E e).pos; simp only [bT]; omega
end
section
variable {P : Program} {C : Cx K} {ts : TS K} {χ : Nat → Nat → Bool}
theorem yzr {a b : TV K} {r q : List (TV K)} (h : eqTs (a :: r) (b :: q)) : eqT a b ∧ eqTs r q := by
 cases r with
 | nil => cases q with
   | nil => exact ⟨by simpa only [eqTs] using h, by simp only [eqTs]⟩
   | cons y q => simp only [eqTs] at h
 | cons x r => simpa only [eqTs] using h
end
theorem yts : ∀ {x y : DV K}, eqD1 x y → x = y := by
 intro x y h1
 cases x <;> cases y <;> simp only [eqD1] at h1 <;> first
  | exact h1.elim
  | (rw [h1]; done)
  | (split at h1
     next e => subst e; simp only at h1; rw [h1]
     next => exact h1.elim)
theorem yuH : ∀ {a b : List (DV K)}, eqDV a b → a = b
 | [], [], _ => rfl
 | [], _ :: _, h => by simp [eqDV] at h
 | _ :: _, [], h => by simp [eqDV] at h
 | [x], [y], h => by simp only [eqDV] at h; rw [yts h]
 | [x], _ :: _ :: _, h => by simp [eqDV] at h
 | x :: x' :: a, [y], h => by simp [eqDV] at h
 | x :: x' :: a, y :: y' :: b, h => by
   simp only [eqDV] at h
   rw [yts h.1, yuH (show eqDV (x' :: a) (y' :: b) from h.2)]
end Go.AV
end
