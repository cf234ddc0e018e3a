/-
  Small laws for the evaluation of abstract code.
-/
import Derived.Test.YtkmehmgocelkiaaAvW
namespace Go.AV
open Go.RowKit Go.RG Go.Lib

section
variable {P : Program}

/-- a call of a pure function -/
theorem call_pure {f : FuncId} {args : List AV} {v : AV} {S : St} {K : AV → St → Prop} (hp : Pure P f args v) (hn : noLs args = true) (hK : K v S) : CallsA P (.f f) args S K := by
  unfold CallsA
  rw [pubL_noL args S hn]
  refine ⟨hn, (hp S.hp S.nx).mono ?_⟩
  rintro av H' n' ⟨rfl, rfl, rfl⟩
  rw [withH_self]
  exact hK

/-- a call by its contract -/
theorem call_by {f : FuncId} {args : List AV} {S : St} {K : AV → St → Prop} {Post : AV → Hp → Nat → Prop} (hp : Contract P f args S.hp S.nx Post) (hn : noLs args = true) (hK : ∀ v H' n', Post v H' n' → K v (S.withH H' n')) : CallsA P (.f f) args S K := by
  unfold CallsA
  rw [pubL_noL args S hn]
  exact ⟨hn, hp.mono hK⟩

theorem pure_of {f : FuncId} {F : AFn} (hF : trF P f = some F) {args : List AV} {v : AV} (hN : args.length ≤ F.N) (hw : ∀ H n, wpA (fun _ => false) none (CallsA P) F.body (retQ F.res fun av H' n' => av = v ∧ H' = H ∧ n' = n) (entry args H n)) : Pure P f args v :=
  fun H n => contract_of hF (fun _ => false) hN (hw H n)

theorem updK_at (f : Key → Option Blk) (k : Key) (v : Option Blk) : updK f k v k = v := by simp [updK]
theorem updK_ne (f : Key → Option Blk) {k q : Key} (v : Option Blk) (h : q ≠ k) : updK f k v q = f q := by simp [updK, h]

theorem noLs_map {α : Type} (f : α → AV) (l : List α) (h : ∀ x, (f x).noL = true) : noLs (l.map f) = true := by
  induction l with
  | nil => rfl
  | cons x l ih => simp [noLs, h, ih]
theorem noLs_append (a b : List AV) : noLs (a ++ b) = (noLs a && noLs b) := by
  induction a with
  | nil => simp [noLs]
  | cons x a ih => simp [noLs, ih, Bool.and_assoc]
end
end Go.AV
namespace Go.AV
open Go.RowKit Go.RG Go.Lib

/-! ### evaluation, first order: no continuation under a binder -/
section
variable {hs : Nat → Bool} {oo : Option Nat} {CA : Cal → List AV → St → (AV → St → Prop) → Prop} {d : Option Nat} {r : List AO} {Q : St → Prop} {S : St}

def wpR (hs : Nat → Bool) (CA : Cal → List AV → St → (AV → St → Prop) → Prop) (v : Option AV) (d : Option Nat) (r : List AO) (Q : St → Prop) (S : St) : Prop := wpv v fun v => runA hs CA r Q (S.put d v)
theorem wpR_some (v : AV) : wpR hs CA (some v) d r Q S = runA hs CA r Q (S.put d v) := rfl
theorem wpR_none : wpR hs CA none d r Q S = False := rfl
theorem wpR_ite (c : Prop) [Decidable c] (x : Option AV) : wpR hs CA (if c then x else none) d r Q S = (c ∧ wpR hs CA x d r Q S) := by
  split
  · rename_i h; simp [h]
  · rename_i h; simp [h, wpR_none]

theorem R_mv (x : AOpd) : runA hs CA (⟨d, none, .mv x⟩ :: r) Q S = wpR hs CA (pval (liveB S) (ev S.fr) (.mv x)) d r Q S := rfl
theorem R_pick (c a b : AOpd) : runA hs CA (⟨d, none, .pick c a b⟩ :: r) Q S = wpR hs CA (pval (liveB S) (ev S.fr) (.pick c a b)) d r Q S := rfl
theorem R_bld (z : List AV) (p : List (Nat × Nat × AOpd)) : runA hs CA (⟨d, none, .bld z p⟩ :: r) Q S = wpR hs CA (pval (liveB S) (ev S.fr) (.bld z p)) d r Q S := rfl
theorem R_nck (x : AOpd) : runA hs CA (⟨d, none, .nck x⟩ :: r) Q S = wpR hs CA (pval (liveB S) (ev S.fr) (.nck x)) d r Q S := rfl
theorem R_bin (o : BinOp) (x y : AOpd) : runA hs CA (⟨d, none, .bin o x y⟩ :: r) Q S = wpR hs CA (pval (liveB S) (ev S.fr) (.bin o x y)) d r Q S := rfl
theorem R_eq (g : Bool) (k : Nat) (x y : AOpd) : runA hs CA (⟨d, none, .eq g k x y⟩ :: r) Q S = wpR hs CA (pval (liveB S) (ev S.fr) (.eq g k x y)) d r Q S := rfl
theorem R_eqs (g : Bool) (k : List Nat) (x y : AOpd) : runA hs CA (⟨d, none, .eqs g k x y⟩ :: r) Q S = wpR hs CA (pval (liveB S) (ev S.fr) (.eqs g k x y)) d r Q S := rfl
theorem R_un (o : UnOp) (x : AOpd) : runA hs CA (⟨d, none, .un o x⟩ :: r) Q S = wpR hs CA (pval (liveB S) (ev S.fr) (.un o x)) d r Q S := rfl
theorem R_cvi (k : IntKind) (x : AOpd) : runA hs CA (⟨d, none, .cvi k x⟩ :: r) Q S = wpR hs CA (pval (liveB S) (ev S.fr) (.cvi k x)) d r Q S := rfl
theorem R_cvs (x : AOpd) : runA hs CA (⟨d, none, .cvs x⟩ :: r) Q S = wpR hs CA (pval (liveB S) (ev S.fr) (.cvs x)) d r Q S := rfl
theorem R_sls (x : AOpd) (l h : Option AOpd) : runA hs CA (⟨d, none, .sls x l h⟩ :: r) Q S = wpR hs CA (pval (liveB S) (ev S.fr) (.sls x l h)) d r Q S := rfl
def sllR (hs : Nat → Bool) (CA : Cal → List AV → St → (AV → St → Prop) → Prop) (x : AV) (sz : Nat) (lo : Option Int) (hi : Int → Option Int) (v : Option AV) (d : Option Nat) (r : List AO) (Q : St → Prop) (S : St) : Prop := match x with
  | .gs k n => cutR sz S k n lo (hi n) fun v S' => runA hs CA r Q (S'.put d v)
  | _ => wpR hs CA v d r Q S
theorem sllR_sl {z : Bool} {n sz : Nat} {xs : List AV} {lo : Option Int} {hi : Int → Option Int} {v : Option AV} : sllR hs CA (.sl z n xs) sz lo hi v d r Q S = wpR hs CA v d r Q S := rfl
def cutB (hs : Nat → Bool) (CA : Cal → List AV → St → (AV → St → Prop) → Prop) (b : Option Blk) (k : Key) (n sz : Nat) (q : Int) (d : Option Nat) (r : List AO) (Q : St → Prop) (S : St) : Prop := wpv b fun b => b.sz = sz ∧ 0 < sz ∧ 0 ≤ q ∧ q ≤ n ∧ n * sz ≤ b.cells.length ∧ hOk k (b.cells.take (q.toNat * sz)) = true ∧ runA hs CA r Q ((S.setM k { b with cells := b.cells.take (q.toNat * sz) }).put d (.gs k q.toNat))
theorem cutB_some {e sz' : Nat} {cs : List AV} {k : Key} {n sz : Nat} {q : Int} : cutB hs CA (some ⟨e, sz', cs⟩) k n sz q d r Q S = (sz' = sz ∧ 0 < sz ∧ 0 ≤ q ∧ q ≤ n ∧ n * sz ≤ cs.length ∧ hOk k (cs.take (q.toNat * sz)) = true ∧ runA hs CA r Q ((S.setM k ⟨e, sz', cs.take (q.toNat * sz)⟩).put d (.gs k q.toNat))) := rfl
def cutQ (hs : Nat → Bool) (CA : Cal → List AV → St → (AV → St → Prop) → Prop) (k : Key) (n sz : Nat) (lo hi : Option Int) (d : Option Nat) (r : List AO) (Q : St → Prop) (S : St) : Prop := cutR sz S k n lo hi fun v S' => runA hs CA r Q (S'.put d v)
theorem sllR_gs {k : Key} {n sz : Nat} {lo : Option Int} {hi : Int → Option Int} {v : Option AV} : sllR hs CA (.gs k n) sz lo hi v d r Q S = cutQ hs CA k n sz lo (hi n) d r Q S := rfl
theorem cutQ_some {k : Key} {n sz : Nat} {q : Int} : cutQ hs CA k n sz (some 0) (some q) d r Q S = cutB hs CA (S.M k) k n sz q d r Q S := rfl
theorem R_sll (z : Nat) (x : AOpd) (l h : Option AOpd) : runA hs CA (⟨d, none, .sll z x l h⟩ :: r) Q S = sllR hs CA (ev S.fr x) z (bnd (ev S.fr) 0 l) (fun n => bnd (ev S.fr) n h) (pval (liveB S) (ev S.fr) (.sll z x l h)) d r Q S := by
  simp only [runA, aop, sllR]
  cases hx : ev S.fr x <;> rfl
theorem R_fad (o : Nat) (x : AOpd) : runA hs CA (⟨d, none, .fad o x⟩ :: r) Q S = wpR hs CA (pval (liveB S) (ev S.fr) (.fad o x)) d r Q S := rfl
theorem R_fld (g : Bool) (o z : Nat) (x : AOpd) : runA hs CA (⟨d, none, .fld g o z x⟩ :: r) Q S = wpR hs CA (pval (liveB S) (ev S.fr) (.fld g o z x)) d r Q S := rfl
theorem R_iad (z : Nat) (x i : AOpd) : runA hs CA (⟨d, none, .iad z x i⟩ :: r) Q S = wpR hs CA (pval (liveB S) (ev S.fr) (.iad z x i)) d r Q S := rfl
theorem R_iada (l z : Nat) (x i : AOpd) : runA hs CA (⟨d, none, .iada l z x i⟩ :: r) Q S = wpR hs CA (pval (liveB S) (ev S.fr) (.iada l z x i)) d r Q S := rfl
theorem R_idxs (x i : AOpd) : runA hs CA (⟨d, none, .idxs x i⟩ :: r) Q S = wpR hs CA (pval (liveB S) (ev S.fr) (.idxs x i)) d r Q S := rfl
theorem R_idxa (g : Bool) (l z : Nat) (x i : AOpd) : runA hs CA (⟨d, none, .idxa g l z x i⟩ :: r) Q S = wpR hs CA (pval (liveB S) (ev S.fr) (.idxa g l z x i)) d r Q S := rfl
theorem R_ext (x : AOpd) (i : Nat) : runA hs CA (⟨d, none, .ext x i⟩ :: r) Q S = wpR hs CA (pval (liveB S) (ev S.fr) (.ext x i)) d r Q S := rfl
theorem R_lens (x : AOpd) : runA hs CA (⟨d, none, .lens x⟩ :: r) Q S = wpR hs CA (pval (liveB S) (ev S.fr) (.lens x)) d r Q S := rfl
theorem R_len (x : AOpd) : runA hs CA (⟨d, none, .len x⟩ :: r) Q S = wpR hs CA (pval (liveB S) (ev S.fr) (.len x)) d r Q S := rfl
theorem R_mnx (m : Bool) (l : List AOpd) : runA hs CA (⟨d, none, .mnx m l⟩ :: r) Q S = wpR hs CA (pval (liveB S) (ev S.fr) (.mnx m l)) d r Q S := rfl
theorem R_mkf (f : Fn) (p c : List AOpd) : runA hs CA (⟨d, none, .mkf f p c⟩ :: r) Q S = wpR hs CA (pval (liveB S) (ev S.fr) (.mkf f p c)) d r Q S := rfl
theorem R_nil : runA hs CA [] Q S = Q S := rfl
theorem R_box {e sz : Nat} {x : AOpd} : runA hs CA (⟨d, none, .box e sz x⟩ :: r) Q S = ((ev S.fr x).cells.length = sz ∧ (ev S.fr x).cells.all AV.one = true ∧ 0 < sz ∧ hOk (keyAt hs S (site d)) (ev S.fr x).cells = true ∧
    runA hs CA r Q ((S.new hs (site d) ⟨e, sz, (ev S.fr x).cells⟩).put d (.pt (keyAt hs S (site d)) 0))) := rfl
def bslR (hs : Nat → Bool) (CA : Cal → List AV → St → (AV → St → Prop) → Prop) (cs : Option (List AV)) (e sz len : Nat) (d : Option Nat) (r : List AO) (Q : St → Prop) (S : St) : Prop :=
  wpv cs fun cs => hOk (keyAt hs S (site d)) (cs.map weak) = true ∧ runA hs CA r Q ((S.new hs (site d) ⟨e, sz, cs.map weak⟩).put d (.gs (keyAt hs S (site d)) len))
theorem bslR_some {cs : List AV} {e sz len : Nat} : bslR hs CA (some cs) e sz len d r Q S = (hOk (keyAt hs S (site d)) (cs.map weak) = true ∧ runA hs CA r Q ((S.new hs (site d) ⟨e, sz, cs.map weak⟩).put d (.gs (keyAt hs S (site d)) len))) := rfl
theorem R_bsl {e sz len : Nat} {z : List AV} {parts : List (Nat × Nat × AOpd)} : runA hs CA (⟨d, none, .bsl e sz len z parts⟩ :: r) Q S = (z.length = sz ∧ 0 < sz ∧ len * sz ≤ 16777216 ∧ bslR hs CA (fillA (zerosL z len) (parts.map fun p => (p.1, p.2.1, ev S.fr p.2.2))) e sz len d r Q S) := rfl
def mksR (hs : Nat → Bool) (CA : Cal → List AV → St → (AV → St → Prop) → Prop) (l c : AV) (e sz bytes : Nat) (z : List AV) (d : Option Nat) (r : List AO) (Q : St → Prop) (S : St) : Prop :=
  match l, c with
  | .it _ n, .it _ m => n = m ∧ 0 ≤ n ∧ z.length = sz ∧ 0 < sz ∧ bytes * n.toNat ≤ 281474976710656 ∧ n ≤ 1000000000 ∧ hOk (keyAt hs S (site d)) (zerosL z n.toNat) = true ∧ runA hs CA r Q ((S.new hs (site d) ⟨e, sz, zerosL z n.toNat⟩).put d (.gs (keyAt hs S (site d)) n.toNat))
  | _, _ => False
theorem mksR_it {k k' : IntKind} {n m : Int} {e sz bytes : Nat} {z : List AV} : mksR hs CA (.it k n) (.it k' m) e sz bytes z d r Q S = (n = m ∧ 0 ≤ n ∧ z.length = sz ∧ 0 < sz ∧ bytes * n.toNat ≤ 281474976710656 ∧ n ≤ 1000000000 ∧ hOk (keyAt hs S (site d)) (zerosL z n.toNat) = true ∧
    runA hs CA r Q ((S.new hs (site d) ⟨e, sz, zerosL z n.toNat⟩).put d (.gs (keyAt hs S (site d)) n.toNat))) := rfl
theorem R_mks {e sz bytes : Nat} {z : List AV} {l c : AOpd} : runA hs CA (⟨d, none, .mks e sz bytes z l c⟩ :: r) Q S = mksR hs CA (ev S.fr l) (ev S.fr c) e sz bytes z d r Q S := rfl
def ldR (hs : Nat → Bool) (CA : Cal → List AV → St → (AV → St → Prop) → Prop) (p : Option (List AV × Nat)) (g : Bool) (sz : Nat) (d : Option Nat) (r : List AO) (Q : St → Prop) (S : St) : Prop :=
  wpv p fun p => wpv (if g then (if p.2 + sz ≤ p.1.length then some (.agg ((p.1.drop p.2).take sz)) else none) else p.1[p.2]?) fun v => runA hs CA r Q (S.put d v)
theorem ldR_one {us : List AV} {off sz : Nat} : ldR hs CA (some (us, off)) false sz d r Q S = wpR hs CA us[off]? d r Q S := rfl
theorem ldR_agg {us : List AV} {off sz : Nat} : ldR hs CA (some (us, off)) true sz d r Q S = (off + sz ≤ us.length ∧ runA hs CA r Q (S.put d (.agg ((us.drop off).take sz)))) := by
  unfold ldR
  simp only [wpv_some, if_true]
  split
  · rename_i h; simp [h, wpv_some]
  · rename_i h; simp [h, wpv_none]
theorem R_ld {g : Bool} {sz : Nat} {x : AOpd} : runA hs CA (⟨d, none, .ld g sz x⟩ :: r) Q S = ldR hs CA (tgt S (ev S.fr x)) g sz d r Q S := rfl
def stoR (hs : Nat → Bool) (CA : Cal → List AV → St → (AV → St → Prop) → Prop) (p v : AV) (sz : Nat) (d : Option Nat) (r : List AO) (Q : St → Prop) (S : St) : Prop :=
  match p with
  | .pt k off => wpv (S.M k) fun b => b.sz ≠ 0 ∧ v.cells.length = sz ∧ v.cells.all AV.one = true ∧ off + sz ≤ b.cells.length ∧ hOk k (b.cells.take off ++ v.cells ++ b.cells.drop (off + sz)) = true ∧
        runA hs CA r Q ((S.setM k { b with cells := b.cells.take off ++ v.cells ++ b.cells.drop (off + sz) }).put d .un)
  | _ => False
def stoB (hs : Nat → Bool) (CA : Cal → List AV → St → (AV → St → Prop) → Prop) (b : Option Blk) (k : Key) (off : Nat) (v : AV) (sz : Nat) (d : Option Nat) (r : List AO) (Q : St → Prop) (S : St) : Prop :=
  wpv b fun b => b.sz ≠ 0 ∧ v.cells.length = sz ∧ v.cells.all AV.one = true ∧ off + sz ≤ b.cells.length ∧ hOk k (b.cells.take off ++ v.cells ++ b.cells.drop (off + sz)) = true ∧
        runA hs CA r Q ((S.setM k { b with cells := b.cells.take off ++ v.cells ++ b.cells.drop (off + sz) }).put d .un)
theorem stoR_pt {k : Key} {off sz : Nat} {v : AV} : stoR hs CA (.pt k off) v sz d r Q S = stoB hs CA (S.M k) k off v sz d r Q S := rfl
theorem stoB_some {e sz' : Nat} {cs : List AV} {k : Key} {off sz : Nat} {v : AV} : stoB hs CA (some ⟨e, sz', cs⟩) k off v sz d r Q S = (sz' ≠ 0 ∧ v.cells.length = sz ∧ v.cells.all AV.one = true ∧ off + sz ≤ cs.length ∧ hOk k (cs.take off ++ v.cells ++ cs.drop (off + sz)) = true ∧
        runA hs CA r Q ((S.setM k ⟨e, sz', cs.take off ++ v.cells ++ cs.drop (off + sz)⟩).put d .un)) := rfl
theorem R_sto {sz : Nat} {x y : AOpd} : runA hs CA (⟨d, none, .sto sz x y⟩ :: r) Q S = stoR hs CA (ev S.fr x) (ev S.fr y) sz d r Q S := rfl
def appR (hs : Nat → Bool) (CA : Cal → List AV → St → (AV → St → Prop) → Prop) (s : AV) (m : Nat) (ys : List AV) (e sz : Nat) (d : Option Nat) (r : List AO) (Q : St → Prop) (S : St) : Prop :=
  aapp hs (site d) e sz m ys S (fun v S' => runA hs CA r Q (S'.put d v)) s
def appB (hs : Nat → Bool) (CA : Cal → List AV → St → (AV → St → Prop) → Prop) (b : Option Blk) (k : Key) (n m : Nat) (ys : List AV) (e sz : Nat) (d : Option Nat) (r : List AO) (Q : St → Prop) (S : St) : Prop :=
  wpv b fun b => b.e = e ∧ b.sz = sz ∧ b.cells.length = n * sz ∧ n ≤ 1000000000 ∧ (isH k = true → hs (site d) = true) ∧ hOk (keyAt hs (S.kill k) (site d)) (b.cells ++ ys) = true ∧
    runA hs CA r Q (((S.kill k).new hs (site d) ⟨e, sz, b.cells ++ ys⟩).put d (.gs (keyAt hs (S.kill k) (site d)) (n + m)))
theorem appR_nil {n m : Nat} {xs ys : List AV} {e sz : Nat} : appR hs CA (.sl true n xs) m ys e sz d r Q S = if m = 0 then runA hs CA r Q (S.put d (.sl true 0 [])) else (hOk (keyAt hs S (site d)) ys = true ∧ runA hs CA r Q ((S.new hs (site d) ⟨e, sz, ys⟩).put d (.gs (keyAt hs S (site d)) m))) := rfl
theorem appR_gs {n m : Nat} {k : Key} {ys : List AV} {e sz : Nat} : appR hs CA (.gs k n) m ys e sz d r Q S = appB hs CA (S.M k) k n m ys e sz d r Q S := rfl
theorem appB_some {e' sz' : Nat} {cs : List AV} {n m : Nat} {k : Key} {ys : List AV} {e sz : Nat} : appB hs CA (some ⟨e', sz', cs⟩) k n m ys e sz d r Q S = (e' = e ∧ sz' = sz ∧ cs.length = n * sz ∧ n ≤ 1000000000 ∧ (isH k = true → hs (site d) = true) ∧ hOk (keyAt hs (S.kill k) (site d)) (cs ++ ys) = true ∧
    runA hs CA r Q (((S.kill k).new hs (site d) ⟨e, sz, cs ++ ys⟩).put d (.gs (keyAt hs (S.kill k) (site d)) (n + m)))) := rfl
def appS (hs : Nat → Bool) (CA : Cal → List AV → St → (AV → St → Prop) → Prop) (p : Option (Nat × List AV)) (s : AV) (e sz : Nat) (d : Option Nat) (r : List AO) (Q : St → Prop) (S : St) : Prop :=
  wpv p fun p => p.2.length = p.1 * sz ∧ p.1 ≤ 400000000 ∧ appR hs CA s p.1 p.2 e sz d r Q S
theorem appS_some {m : Nat} {ys : List AV} {s : AV} {e sz : Nat} : appS hs CA (some (m, ys)) s e sz d r Q S = (ys.length = m * sz ∧ m ≤ 400000000 ∧ appR hs CA s m ys e sz d r Q S) := rfl
theorem R_app {e sz bytes : Nat} {x y : AOpd} : runA hs CA (⟨d, none, .app e sz bytes x y⟩ :: r) Q S = (0 < sz ∧ bytes ≤ 100000 ∧ appS hs CA (srcA S (ev S.fr y)) (ev S.fr x) e sz d r Q S) := rfl
def appsR (hs : Nat → Bool) (CA : Cal → List AV → St → (AV → St → Prop) → Prop) (y s : AV) (e : Nat) (d : Option Nat) (r : List AO) (Q : St → Prop) (S : St) : Prop :=
  match y with
  | .st l => l.length ≤ 400000000 ∧ appR hs CA s l.length (encB l) e 1 d r Q S
  | _ => False
theorem appsR_st {l : List UInt8} {s : AV} {e : Nat} : appsR hs CA (.st l) s e d r Q S = (l.length ≤ 400000000 ∧ appR hs CA s l.length (encB l) e 1 d r Q S) := rfl
theorem R_apps {e : Nat} {x y : AOpd} : runA hs CA (⟨d, none, .apps e x y⟩ :: r) Q S = appsR hs CA (ev S.fr y) (ev S.fr x) e d r Q S := by
  simp only [runA, aop, appsR, appR]
  split <;> simp_all
def strR (hs : Nat → Bool) (CA : Cal → List AV → St → (AV → St → Prop) → Prop) (l : Option (List UInt8)) (d : Option Nat) (r : List AO) (Q : St → Prop) (S : St) : Prop := wpv l fun l => runA hs CA r Q (S.put d (.st l))
theorem strR_some {l : List UInt8} : strR hs CA (some l) d r Q S = runA hs CA r Q (S.put d (.st l)) := rfl
def b2sB (hs : Nat → Bool) (CA : Cal → List AV → St → (AV → St → Prop) → Prop) (b : Option Blk) (n : Nat) (d : Option Nat) (r : List AO) (Q : St → Prop) (S : St) : Prop := wpv b fun b => b.sz ≠ 0 ∧ b.cells.length = n ∧ strR hs CA (bytesA b.cells) d r Q S
theorem b2sB_some {e sz n : Nat} {cs : List AV} : b2sB hs CA (some ⟨e, sz, cs⟩) n d r Q S = (sz ≠ 0 ∧ cs.length = n ∧ strR hs CA (bytesA cs) d r Q S) := rfl
def b2sR (hs : Nat → Bool) (CA : Cal → List AV → St → (AV → St → Prop) → Prop) (v : AV) (d : Option Nat) (r : List AO) (Q : St → Prop) (S : St) : Prop :=
  match v with
  | .sl _ n xs => xs.length = n ∧ strR hs CA (bytesA xs) d r Q S
  | .gs k n => b2sB hs CA (S.M k) n d r Q S
  | _ => False
theorem b2sR_sl {z : Bool} {n : Nat} {xs : List AV} : b2sR hs CA (.sl z n xs) d r Q S = (xs.length = n ∧ strR hs CA (bytesA xs) d r Q S) := rfl
theorem b2sR_gs {k : Key} {n : Nat} : b2sR hs CA (.gs k n) d r Q S = b2sB hs CA (S.M k) n d r Q S := rfl
theorem R_b2s {x : AOpd} : runA hs CA (⟨d, none, .b2s x⟩ :: r) Q S = b2sR hs CA (ev S.fr x) d r Q S := by
  simp only [runA, aop, b2sR]
  cases ev S.fr x <;> rfl
def callR (hs : Nat → Bool) (CA : Cal → List AV → St → (AV → St → Prop) → Prop) (f : FuncId) (args : List AV) (d : Option Nat) (r : List AO) (Q : St → Prop) (S : St) : Prop := CA (.f f) args S fun v S' => runA hs CA r Q (S'.put d v)
theorem R_call {f : FuncId} {args : List AOpd} : runA hs CA (⟨d, none, .call f args⟩ :: r) Q S = callR hs CA f (args.map (ev S.fr)) d r Q S := rfl
def yldR (hs : Nat → Bool) (CA : Cal → List AV → St → (AV → St → Prop) → Prop) (o : Nat) (args : List AV) (d : Option Nat) (r : List AO) (Q : St → Prop) (S : St) : Prop := CA (.y o) args S fun v S' => runA hs CA r Q (S'.put d v)
def calvR (hs : Nat → Bool) (CA : Cal → List AV → St → (AV → St → Prop) → Prop) (v : AV) (args : List AV) (d : Option Nat) (r : List AO) (Q : St → Prop) (S : St) : Prop :=
  match v with
  | .fn (.func f) first cap => callR hs CA f (first ++ args ++ cap) d r Q S
  | .yld o => yldR hs CA o args d r Q S
  | _ => False
theorem calvR_yld {o : Nat} {args : List AV} : calvR hs CA (.yld o) args d r Q S = yldR hs CA o args d r Q S := rfl
theorem calvR_fn {f : FuncId} {first cap args : List AV} : calvR hs CA (.fn (.func f) first cap) args d r Q S = callR hs CA f (first ++ args ++ cap) d r Q S := rfl
theorem R_calv {x : AOpd} {args : List AOpd} : runA hs CA (⟨d, none, .calv x args⟩ :: r) Q S = calvR hs CA (ev S.fr x) (args.map (ev S.fr)) d r Q S := by
  simp only [runA, aop, calvR]
  cases hx : ev S.fr x with
  | fn f a c => cases f <;> rfl
  | _ => rfl
def gR (hs : Nat → Bool) (CA : Cal → List AV → St → (AV → St → Prop) → Prop) (v : AV) (b : Bool) (o : AO) (r : List AO) (Q : St → Prop) (S : St) : Prop :=
  match v with
  | .bl c => if c = b then runA hs CA (o :: r) Q S else runA hs CA r Q (S.put o.dst (.tup []))
  | .tup [] => runA hs CA r Q (S.put o.dst (.tup []))
  | _ => False
theorem gR_bl {c b : Bool} {u : AOp} : gR hs CA (.bl c) b ⟨d, none, u⟩ r Q S = if c = b then runA hs CA (⟨d, none, u⟩ :: r) Q S else runA hs CA r Q (S.put d (.tup [])) := rfl
theorem gR_no {b : Bool} {u : AOp} : gR hs CA (.tup []) b ⟨d, none, u⟩ r Q S = runA hs CA r Q (S.put d (.tup [])) := rfl
theorem R_grd {g : Nat} {b : Bool} {u : AOp} : runA hs CA (⟨d, some (g, b), u⟩ :: r) Q S = gR hs CA (S.fr g) b ⟨d, none, u⟩ r Q S := by
  simp only [runA, gR]
  split <;> simp_all [runA]

theorem put_some (fr : Nat → AV) (M : Key → Option Blk) (cnt : Nat → Nat) (nx t : Nat) (v : AV) : St.put ⟨fr, M, cnt, nx⟩ (some t) v = ⟨upd fr t v, M, cnt, nx⟩ := rfl
theorem put_none (S : St) (v : AV) : S.put none v = S := rfl
theorem new_mk (fr : Nat → AV) (M : Key → Option Blk) (cnt : Nat → Nat) (nx t : Nat) (b : Blk) : St.new hs ⟨fr, M, cnt, nx⟩ t b = if hs t = true then ⟨fr, updK M (.h nx) (some b), cnt, nx + 1⟩ else ⟨fr, updK M (.l t (cnt t + 1)) (some b), upd cnt t (cnt t + 1), nx⟩ := rfl
theorem key_mk (S : St) (t : Nat) : keyAt hs S t = if hs t = true then .h S.nx else .l t (S.cnt t + 1) := rfl
theorem new_l (fr : Nat → AV) (M : Key → Option Blk) (cnt : Nat → Nat) (nx t : Nat) (b : Blk) (h : hs t = false) : St.new hs ⟨fr, M, cnt, nx⟩ t b = ⟨fr, updK M (.l t (cnt t + 1)) (some b), upd cnt t (cnt t + 1), nx⟩ := by simp [St.new, h]
theorem new_h (fr : Nat → AV) (M : Key → Option Blk) (cnt : Nat → Nat) (nx t : Nat) (b : Blk) (h : hs t = true) : St.new hs ⟨fr, M, cnt, nx⟩ t b = ⟨fr, updK M (.h nx) (some b), cnt, nx + 1⟩ := by simp [St.new, h]
theorem key_l (S : St) (t : Nat) (h : hs t = false) : keyAt hs S t = .l t (S.cnt t + 1) := by simp [keyAt, h]
theorem key_h (S : St) (t : Nat) (h : hs t = true) : keyAt hs S t = .h S.nx := by simp [keyAt, h]
theorem setM_mk (fr : Nat → AV) (M : Key → Option Blk) (cnt : Nat → Nat) (nx : Nat) (k : Key) (b : Blk) : St.setM ⟨fr, M, cnt, nx⟩ k b = ⟨fr, updK M k (some b), cnt, nx⟩ := rfl
theorem kill_mk (fr : Nat → AV) (M : Key → Option Blk) (cnt : Nat → Nat) (nx : Nat) (k : Key) : St.kill ⟨fr, M, cnt, nx⟩ k = ⟨fr, updK M k none, cnt, nx⟩ := rfl
theorem liveB_mk (fr : Nat → AV) (M : Key → Option Blk) (cnt : Nat → Nat) (nx : Nat) (k : Key) : liveB ⟨fr, M, cnt, nx⟩ k = (M k).isSome := rfl
theorem hOk_l (d c : Nat) (cs : List AV) : hOk (.l d c) cs = true := rfl
theorem hOk_h (o : Nat) (cs : List AV) : hOk (.h o) cs = noLs cs := rfl
def tgtB (b : Option Blk) (off : Nat) : Option (List AV × Nat) := b.bind fun b => if b.sz = 0 then none else some (b.cells, off)
theorem tgtB_some (e sz : Nat) (cs : List AV) (off : Nat) : tgtB (some ⟨e, sz + 1, cs⟩) off = some (cs, off) := rfl
theorem tgt_pt (S : St) (k : Key) (off : Nat) : tgt S (.pt k off) = tgtB (S.M k) off := rfl
def srcB (b : Option Blk) (m : Nat) : Option (Nat × List AV) := b.bind fun b => if b.sz = 0 then none else some (m, b.cells)
theorem srcB_some (e sz : Nat) (cs : List AV) (m : Nat) : srcB (some ⟨e, sz + 1, cs⟩) m = some (m, cs) := rfl
theorem srcA_sl (S : St) (z : Bool) (m : Nat) (ys : List AV) : srcA S (.sl z m ys) = some (m, ys) := rfl
theorem srcA_gs (S : St) (k : Key) (m : Nat) : srcA S (.gs k m) = srcB (S.M k) m := rfl
theorem tgt_ep (S : St) (xs : List AV) (off : Nat) : tgt S (.ep xs off) = some (xs, off) := rfl
theorem ev_t (fr : Nat → AV) (t : Nat) : ev fr (.t t) = fr t := rfl
theorem ev_c (fr : Nat → AV) (v : AV) : ev fr (.c v) = v := rfl
theorem upd_app {α : Type} (f : Nat → α) (d t : Nat) (v : α) : upd f d v t = if t = d then v else f t := rfl
theorem updK_app (f : Key → Option Blk) (k q : Key) (v : Option Blk) : updK f k v q = if q = k then v else f q := rfl
theorem argF_zero (a : AV) (l : List AV) : argF (a :: l) 0 = a := rfl
theorem argF_succ (a : AV) (l : List AV) (t : Nat) : argF (a :: l) (t + 1) = argF l t := by simp [argF]
theorem argF_nil (t : Nat) : argF [] t = .tup [] := by simp [argF]
theorem heapM_h (H : Hp) (o : Nat) : heapM H (.h o) = H o := rfl
theorem heapM_l (H : Hp) (d c : Nat) : heapM H (.l d c) = none := rfl
def hpM (M : Key → Option Blk) : Hp := fun o => M (.h o)
theorem hp_mk (fr : Nat → AV) (M : Key → Option Blk) (cnt : Nat → Nat) (nx : Nat) : St.hp ⟨fr, M, cnt, nx⟩ = hpM M := rfl
theorem hpM_heapM (H : Hp) : hpM (heapM H) = H := rfl
theorem hpM_l (M : Key → Option Blk) (d c : Nat) (v : Option Blk) : hpM (updK M (.l d c) v) = hpM M := by funext o; simp [hpM, updK]
theorem hpM_h (M : Key → Option Blk) (o : Nat) (v : Option Blk) : hpM (updK M (.h o) v) = fun q => if q = o then v else hpM M q := by funext q; simp [hpM, updK]
theorem i64_id {n : Int} (h0 : -9223372036854775808 ≤ n) (h1 : n ≤ 9223372036854775807) : IntKind.i64.wrap n = n := by rw [IntKind.wrap_i64]; omega
/-- the objects, with one of them turned -/
def hset (H : Hp) (o : Nat) (b : Option Blk) : Hp := fun q => if q = o then b else H q
theorem hset_app (H : Hp) (o q : Nat) (b : Option Blk) : hset H o b q = if q = o then b else H q := rfl
theorem hpM_hset (M : Key → Option Blk) (o : Nat) (v : Option Blk) : hpM (updK M (.h o) v) = hset (hpM M) o v := by funext q; simp [hpM, updK, hset]
theorem site_some (d : Nat) : site (some d) = d := rfl
theorem cells_agg (cs : List AV) : AV.cells (.agg cs) = cs := rfl
theorem cells_bl (b : Bool) : AV.cells (.bl b) = [.bl b] := rfl
theorem cells_it (k : IntKind) (n : Int) : AV.cells (.it k n) = [.it k n] := rfl
theorem cells_st (l : List UInt8) : AV.cells (.st l) = [.st l] := rfl
theorem cells_sl (z : Bool) (n : Nat) (xs : List AV) : AV.cells (.sl z n xs) = [.sl z n xs] := rfl
theorem cells_gs (k : Key) (n : Nat) : AV.cells (.gs k n) = [.gs k n] := rfl
theorem cells_pt (k : Key) (n : Nat) : AV.cells (.pt k n) = [.pt k n] := rfl
theorem cells_ep (xs : List AV) (n : Nat) : AV.cells (.ep xs n) = [.ep xs n] := rfl
theorem cells_fn (f : Fn) (a c : List AV) : AV.cells (.fn f a c) = [.fn f a c] := rfl
theorem cells_nptr : AV.cells .nptr = [.nptr] := rfl
theorem cells_nfn : AV.cells .nfn = [.nfn] := rfl
theorem cells_yld (o : Nat) : AV.cells (.yld o) = [.yld o] := rfl
theorem sto_set {α : Type} (f : α → AV) (l : List α) (i : Nat) (x : α) (h : i < l.length) : List.take i (l.map f) ++ [f x] ++ List.drop (i + 1) (l.map f) = (l.set i x).map f := by
  rw [List.set_eq_take_append_cons_drop, if_pos h, List.map_append, List.map_cons, List.map_take, List.map_drop, List.append_assoc, List.singleton_append]
theorem noLs_its {α : Type} (k : IntKind) (f : α → Int) (l : List α) : noLs (l.map fun x => .it k (f x)) = true := noLs_map _ l fun _ => rfl
theorem noLs_it (k : IntKind) (l : List Int) : noLs (l.map (AV.it k)) = true := noLs_map _ l fun _ => rfl
theorem noLs_bl (l : List Bool) : noLs (l.map AV.bl) = true := noLs_map _ l fun _ => rfl
theorem noLs_st (l : List (List UInt8)) : noLs (l.map AV.st) = true := noLs_map _ l fun _ => rfl
end

section
variable {hs : Nat → Bool} {oo : Option Nat} {CA : Cal → List AV → St → (AV → St → Prop) → Prop} {Q : AEx → St → Prop} {S : St}

/-- another exit than the normal one -/
def AEx.other : AEx → Bool
  | .n => false
  | _ => true

theorem runA_mono (hCA : ∀ f args S K K', (∀ v S', K v S' → K' v S') → CA f args S K → CA f args S K') : True := trivial

theorem w_ops {l : List AO} (h : runA hs CA l (Q .n) S) : wpA hs oo CA (.ops l) Q S := h
theorem w_skip (h : Q .n S) : wpA hs oo CA .skip Q S := h
theorem w_ret (h : Q .r S) : wpA hs oo CA .ret Q S := h
theorem w_exit {id : Nat} (h : Q (.x id) S) : wpA hs oo CA (.exit id) Q S := h
theorem w_cond {c : AOpd} {t e : ACode} {b : Bool} (he : ev S.fr c = .bl b) (ht : b = true → wpA hs oo CA t Q S) (hf : b = false → wpA hs oo CA e Q S) : wpA hs oo CA (.cond c t e) Q S := by
  simp only [wpA, he]; exact ⟨ht, hf⟩

/-- behind a code that is not walked yet: its end is told by K -/
theorem w_seq {a b : ACode} (h : ∀ K : AEx → St → Prop, (∀ S', wpA hs oo CA b Q S' → K .n S') → (∀ e S', e.other = true → Q e S' → K e S') → wpA hs oo CA a K S) : wpA hs oo CA (.seq a b) Q S := by
  refine h _ (fun S' h => h) (fun e S' he hq => ?_)
  cases e with
  | n => cases he
  | x id => exact hq
  | r => exact hq
theorem w_seq_ops {l : List AO} {b : ACode} (h : ∀ K : St → Prop, (∀ S', wpA hs oo CA b Q S' → K S') → runA hs CA l K S) : wpA hs oo CA (.seq (.ops l) b) Q S := h _ fun _ h => h
theorem w_ops_k {l : List AO} (h : ∀ K : St → Prop, (∀ S', Q .n S' → K S') → runA hs CA l K S) : wpA hs oo CA (.ops l) Q S := h _ fun _ h => h
theorem w_block {id : Nat} {c : ACode} (h : ∀ K : AEx → St → Prop, (∀ S', Q .n S' → K (.x id) S') → (∀ e S', Q e S' → e ≠ .x id → K e S') → wpA hs oo CA c K S) : wpA hs oo CA (.block id c) Q S := by
  refine h _ (fun S' h => ?_) (fun e S' hq hne => ?_)
  · show if id = id then _ else _
    rw [if_pos rfl]; exact h
  · cases e with
    | n => exact hq
    | x i =>
      show if i = id then _ else _
      rw [if_neg (fun e => hne (by rw [e]))]; exact hq
    | r => exact hq
theorem w_loop {c : ACode} (I : Nat → St → Prop) (n : Nat) (h0 : I n S) (h : ∀ n S', I n S' → ∀ K : AEx → St → Prop, (∀ m S'', m < n → I m S'' → K .n S'') → (∀ e S'', e.other = true → Q e S'' → K e S'') → wpA hs oo CA c K S') : wpA hs oo CA (.loop c) Q S := by
  refine ⟨I, ⟨n, h0⟩, fun n S' hI => h n S' hI _ (fun m S'' hm hI' => ⟨m, hm, hI'⟩) (fun e S'' he hq => ?_)⟩
  cases e with
  | n => cases he
  | x id => exact hq
  | r => exact hq
theorem w_assoc {a b c : ACode} (h : wpA hs oo CA (.seq a (.seq b c)) Q S) : wpA hs oo CA (.seq (.seq a b) c) Q S := by
  simp only [wpA] at h ⊢
  refine Eq.mp (congrFun (congrArg (wpA hs oo CA a) (funext fun e => funext fun S' => ?_)) S) h
  cases e <;> rfl
theorem w_seq_cond {c : AOpd} {t e k : ACode} {b : Bool} (he : ev S.fr c = .bl b) (ht : b = true → wpA hs oo CA (.seq t k) Q S) (hf : b = false → wpA hs oo CA (.seq e k) Q S) : wpA hs oo CA (.seq (.cond c t e) k) Q S := by
  simp only [wpA, he] at ht hf ⊢; exact ⟨ht, hf⟩
theorem w_seq_skip {k : ACode} (h : wpA hs oo CA k Q S) : wpA hs oo CA (.seq .skip k) Q S := h
theorem w_seq_exit {id : Nat} {k : ACode} (h : Q (.x id) S) : wpA hs oo CA (.seq (.exit id) k) Q S := h
theorem w_seq_ret {k : ACode} (h : Q .r S) : wpA hs oo CA (.seq .ret k) Q S := h
theorem w_seq_block {id : Nat} {c k : ACode} (h : ∀ K : AEx → St → Prop, (∀ S', wpA hs oo CA k Q S' → K (.x id) S') → (∀ S', wpA hs oo CA k Q S' → K .n S') → (∀ e S', e.other = true → e ≠ .x id → Q e S' → K e S') → wpA hs oo CA c K S) : wpA hs oo CA (.seq (.block id c) k) Q S := by
  refine w_seq fun K hK hK' => w_block fun K2 h1 h2 => ?_
  exact h K2 (fun S' hq => h1 S' (hK S' hq)) (fun S' hq => h2 .n S' (hK S' hq) (by intro e; cases e)) (fun e S' he hne hq => h2 e S' (hK' e S' he hq) hne)
end

section
variable {hs : Nat → Bool} {oo : Option Nat} {P : Program} {d : Option Nat} {r : List AO} {Q : St → Prop} {S : St}
theorem callR_pure {f : FuncId} {args : List AV} {v : AV} (hp : Pure P f args v) (hn : noLs args = true) (hK : runA hs (CallsA P) r Q (S.put d v)) : callR hs (CallsA P) f args d r Q S := call_pure hp hn hK
theorem callR_by {f : FuncId} {args : List AV} {Post : AV → Hp → Nat → Prop} (hp : Contract P f args S.hp S.nx Post) (hn : noLs args = true) (hK : ∀ v H' n', Post v H' n' → runA hs (CallsA P) r Q ((S.withH H' n').put d v)) : callR hs (CallsA P) f args d r Q S := call_by hp hn hK
end
/-! ### regions that draw -/
section
variable {hs : Nat → Bool} {oo : Option Nat} {CA : Cal → List AV → St → (AV → St → Prop) → Prop} {d : Option Nat} {r : List (AO × List Nat)} {fre : List Nat} {acc : List Foot} {Q : St → Prop} {S : St}

theorem w_seq_drw {Q : AEx → St → Prop} {l : List (AO × List Nat)} {b : ACode} (h : ∀ K : St → Prop, (∀ S', wpA hs oo CA b Q S' → K S') → runD hs CA l [] K S) : wpA hs oo CA (.seq (.drw l) b) Q S := h _ fun _ h => h
theorem w_drw_k {Q : AEx → St → Prop} {l : List (AO × List Nat)} (h : ∀ K : St → Prop, (∀ S', Q .n S' → K S') → runD hs CA l [] K S) : wpA hs oo CA (.drw l) Q S := h _ fun _ h => h

/-- a value comes up -/
def dP (hs : Nat → Bool) (CA : Cal → List AV → St → (AV → St → Prop) → Prop) (v : Option AV) (rk : List Key) (d : Option Nat) (fre : List Nat) (r : List (AO × List Nat)) (acc : List Foot) (Q : St → Prop) (S : St) : Prop :=
  wpv v fun v => okAcc ⟨rk, [], heapy rk, false⟩ acc fre ∧ runD hs CA r (acc ++ [⟨rk, [], heapy rk, false⟩]) Q (S.put d v)
theorem dP_some (v : AV) (rk : List Key) : dP hs CA (some v) rk d fre r acc Q S = (okAcc ⟨rk, [], heapy rk, false⟩ acc fre ∧ runD hs CA r (acc ++ [⟨rk, [], heapy rk, false⟩]) Q (S.put d v)) := rfl
theorem dP_none (rk : List Key) : dP hs CA none rk d fre r acc Q S = False := rfl
theorem dP_ite (c : Prop) [Decidable c] (x : Option AV) (rk : List Key) : dP hs CA (if c then x else none) rk d fre r acc Q S = (c ∧ dP hs CA x rk d fre r acc Q S) := by
  split
  · rename_i h; simp [h]
  · rename_i h; simp [h, dP_none]
/-- the keys of what an operation looks at -/
def rkL (fr : Nat → AV) : List AOpd → List Key
  | [] => []
  | x :: r => keyOf (ev fr x) ++ rkL fr r
theorem rkL_eq (fr : Nat → AV) (l : List AOpd) : rkL fr l = l.flatMap fun x => keyOf (ev fr x) := by
  induction l with
  | nil => rfl
  | cons x l ih => simp [rkL, ih]
theorem rkL_nil (fr : Nat → AV) : rkL fr [] = [] := rfl
theorem rkL_cons (fr : Nat → AV) (x : AOpd) (l : List AOpd) : rkL fr (x :: l) = keyOf (ev fr x) ++ rkL fr l := rfl
def keysL : List AV → List Key
  | [] => []
  | x :: r => keyOf x ++ keysL r
theorem keysL_nil : keysL [] = [] := rfl
theorem keysL_cons (x : AV) (l : List AV) : keysL (x :: l) = keyOf x ++ keysL l := rfl
theorem keysL_eq (l : List AV) : keysL l = l.flatMap keyOf := by
  induction l with
  | nil => rfl
  | cons x l ih => simp [keysL, ih]
def keys1 : List AV → List Key
  | [] => []
  | x :: r => key1 x ++ keys1 r
theorem keyOf_agg (cs : List AV) : keyOf (.agg cs) = keys1 cs := by
  induction cs with
  | nil => rfl
  | cons x l ih => simp only [keyOf, List.flatMap_cons, keys1] at ih ⊢; rw [ih]
theorem keyOf_bl (b : Bool) : keyOf (.bl b) = [] := rfl
theorem key1_bl (b : Bool) : key1 (.bl b) = [] := rfl
theorem keyOf_it (k : IntKind) (n : Int) : keyOf (.it k n) = [] := rfl
theorem key1_it (k : IntKind) (n : Int) : key1 (.it k n) = [] := rfl
theorem keyOf_st (l : List UInt8) : keyOf (.st l) = [] := rfl
theorem key1_st (l : List UInt8) : key1 (.st l) = [] := rfl
theorem keyOf_tup (l : List AV) : keyOf (.tup l) = [] := rfl
theorem key1_tup (l : List AV) : key1 (.tup l) = [] := rfl
theorem keyOf_sl (z : Bool) (n : Nat) (xs : List AV) : keyOf (.sl z n xs) = [] := rfl
theorem key1_sl (z : Bool) (n : Nat) (xs : List AV) : key1 (.sl z n xs) = [] := rfl
theorem keyOf_gs (k : Key) (n : Nat) : keyOf (.gs k n) = [k] := rfl
theorem key1_gs (k : Key) (n : Nat) : key1 (.gs k n) = [k] := rfl
theorem keyOf_pt (k : Key) (n : Nat) : keyOf (.pt k n) = [k] := rfl
theorem key1_pt (k : Key) (n : Nat) : key1 (.pt k n) = [k] := rfl
theorem keyOf_ep (xs : List AV) (n : Nat) : keyOf (.ep xs n) = [] := rfl
theorem key1_ep (xs : List AV) (n : Nat) : key1 (.ep xs n) = [] := rfl
theorem keyOf_fn (f : Fn) (a c : List AV) : keyOf (.fn f a c) = [] := rfl
theorem key1_fn (f : Fn) (a c : List AV) : key1 (.fn f a c) = [] := rfl
theorem keyOf_nptr : keyOf .nptr = [] := rfl
theorem key1_nptr : key1 .nptr = [] := rfl
theorem keyOf_nfn : keyOf .nfn = [] := rfl
theorem key1_nfn : key1 .nfn = [] := rfl
theorem keyOf_un : keyOf .un = [] := rfl
theorem key1_un : key1 .un = [] := rfl
theorem keyOf_yld (o : Nat) : keyOf (.yld o) = [] := rfl
theorem key1_yld (o : Nat) : key1 (.yld o) = [] := rfl
theorem key1_agg (cs : List AV) : key1 (.agg cs) = [] := rfl
theorem zerosL_zero (z : List AV) : zerosL z 0 = [] := rfl
theorem zerosL_succ (z : List AV) (n : Nat) : zerosL z (n + 1) = z ++ zerosL z n := by simp [zerosL, List.replicate_succ]
theorem keys1_nil : keys1 [] = [] := rfl
theorem keys1_cons (x : AV) (l : List AV) : keys1 (x :: l) = key1 x ++ keys1 l := rfl

theorem D_nil : runD hs CA [] acc Q S = Q S := rfl
theorem D_val {u : AOp} (hu : ∀ (d : Option Nat) (S : St), effA hs u d S = effP (pval (liveB S) (ev S.fr) u)) (hc : ∀ K, eop hs CA u d S K = wpv (effA hs u d S) K) (hi : ∀ e, footOf u S e = ⟨(opds u).flatMap fun x => keyOf (ev S.fr x), e.mem.map (·.1), false || heapy ((opds u).flatMap fun x => keyOf (ev S.fr x)), e.H.isSome⟩) :
    runD hs CA ((⟨d, none, u⟩, fre) :: r) acc Q S = dP hs CA (pval (liveB S) (ev S.fr) u) (rkL S.fr (opds u)) d fre r acc Q S := by
  simp only [runD, hc, hu, hi, dP, rkL_eq, Bool.false_or]
  cases pval (liveB S) (ev S.fr) u with
  | none => rfl
  | some v =>
    show (_ ∧ runD hs CA r _ Q ((eff1 v).app d S)) = _
    unfold REff.app
    rw [mst_eff1]
    rfl
theorem D_mv (x : AOpd) : runD hs CA ((⟨d, none, .mv x⟩, fre) :: r) acc Q S = dP hs CA (pval (liveB S) (ev S.fr) (.mv x)) (rkL S.fr [x]) d fre r acc Q S := D_val (fun _ _ => rfl) (fun _ => rfl) (fun _ => rfl)
theorem D_pick (c x y : AOpd) : runD hs CA ((⟨d, none, .pick c x y⟩, fre) :: r) acc Q S = dP hs CA (pval (liveB S) (ev S.fr) (.pick c x y)) (rkL S.fr [c, x, y]) d fre r acc Q S := D_val (fun _ _ => rfl) (fun _ => rfl) (fun _ => rfl)
theorem D_bld (z : List AV) (p : List (Nat × Nat × AOpd)) : runD hs CA ((⟨d, none, .bld z p⟩, fre) :: r) acc Q S = dP hs CA (pval (liveB S) (ev S.fr) (.bld z p)) (rkL S.fr (p.map fun p => p.2.2)) d fre r acc Q S := D_val (fun _ _ => rfl) (fun _ => rfl) (fun _ => rfl)
theorem D_nck (x : AOpd) : runD hs CA ((⟨d, none, .nck x⟩, fre) :: r) acc Q S = dP hs CA (pval (liveB S) (ev S.fr) (.nck x)) (rkL S.fr [x]) d fre r acc Q S := D_val (fun _ _ => rfl) (fun _ => rfl) (fun _ => rfl)
theorem D_bin (o : BinOp) (x y : AOpd) : runD hs CA ((⟨d, none, .bin o x y⟩, fre) :: r) acc Q S = dP hs CA (pval (liveB S) (ev S.fr) (.bin o x y)) (rkL S.fr [x, y]) d fre r acc Q S := D_val (fun _ _ => rfl) (fun _ => rfl) (fun _ => rfl)
theorem D_eq (g : Bool) (k : Nat) (x y : AOpd) : runD hs CA ((⟨d, none, .eq g k x y⟩, fre) :: r) acc Q S = dP hs CA (pval (liveB S) (ev S.fr) (.eq g k x y)) (rkL S.fr [x, y]) d fre r acc Q S := D_val (fun _ _ => rfl) (fun _ => rfl) (fun _ => rfl)
theorem D_eqs (g : Bool) (k : List Nat) (x y : AOpd) : runD hs CA ((⟨d, none, .eqs g k x y⟩, fre) :: r) acc Q S = dP hs CA (pval (liveB S) (ev S.fr) (.eqs g k x y)) (rkL S.fr [x, y]) d fre r acc Q S := D_val (fun _ _ => rfl) (fun _ => rfl) (fun _ => rfl)
theorem D_un (o : UnOp) (x : AOpd) : runD hs CA ((⟨d, none, .un o x⟩, fre) :: r) acc Q S = dP hs CA (pval (liveB S) (ev S.fr) (.un o x)) (rkL S.fr [x]) d fre r acc Q S := D_val (fun _ _ => rfl) (fun _ => rfl) (fun _ => rfl)
theorem D_cvi (k : IntKind) (x : AOpd) : runD hs CA ((⟨d, none, .cvi k x⟩, fre) :: r) acc Q S = dP hs CA (pval (liveB S) (ev S.fr) (.cvi k x)) (rkL S.fr [x]) d fre r acc Q S := D_val (fun _ _ => rfl) (fun _ => rfl) (fun _ => rfl)
theorem D_cvs (x : AOpd) : runD hs CA ((⟨d, none, .cvs x⟩, fre) :: r) acc Q S = dP hs CA (pval (liveB S) (ev S.fr) (.cvs x)) (rkL S.fr [x]) d fre r acc Q S := D_val (fun _ _ => rfl) (fun _ => rfl) (fun _ => rfl)
theorem D_sls (x : AOpd) (l h : Option AOpd) : runD hs CA ((⟨d, none, .sls x l h⟩, fre) :: r) acc Q S = dP hs CA (pval (liveB S) (ev S.fr) (.sls x l h)) (rkL S.fr (x :: (l.toList ++ h.toList))) d fre r acc Q S := D_val (fun _ _ => rfl) (fun _ => rfl) (fun _ => rfl)
theorem D_fad (o : Nat) (x : AOpd) : runD hs CA ((⟨d, none, .fad o x⟩, fre) :: r) acc Q S = dP hs CA (pval (liveB S) (ev S.fr) (.fad o x)) (rkL S.fr [x]) d fre r acc Q S := D_val (fun _ _ => rfl) (fun _ => rfl) (fun _ => rfl)
theorem D_fld (g : Bool) (o z : Nat) (x : AOpd) : runD hs CA ((⟨d, none, .fld g o z x⟩, fre) :: r) acc Q S = dP hs CA (pval (liveB S) (ev S.fr) (.fld g o z x)) (rkL S.fr [x]) d fre r acc Q S := D_val (fun _ _ => rfl) (fun _ => rfl) (fun _ => rfl)
theorem D_iad (z : Nat) (x i : AOpd) : runD hs CA ((⟨d, none, .iad z x i⟩, fre) :: r) acc Q S = dP hs CA (pval (liveB S) (ev S.fr) (.iad z x i)) (rkL S.fr [x, i]) d fre r acc Q S := D_val (fun _ _ => rfl) (fun _ => rfl) (fun _ => rfl)
theorem D_iada (l z : Nat) (x i : AOpd) : runD hs CA ((⟨d, none, .iada l z x i⟩, fre) :: r) acc Q S = dP hs CA (pval (liveB S) (ev S.fr) (.iada l z x i)) (rkL S.fr [x, i]) d fre r acc Q S := D_val (fun _ _ => rfl) (fun _ => rfl) (fun _ => rfl)
theorem D_idxs (x i : AOpd) : runD hs CA ((⟨d, none, .idxs x i⟩, fre) :: r) acc Q S = dP hs CA (pval (liveB S) (ev S.fr) (.idxs x i)) (rkL S.fr [x, i]) d fre r acc Q S := D_val (fun _ _ => rfl) (fun _ => rfl) (fun _ => rfl)
theorem D_idxa (g : Bool) (l z : Nat) (x i : AOpd) : runD hs CA ((⟨d, none, .idxa g l z x i⟩, fre) :: r) acc Q S = dP hs CA (pval (liveB S) (ev S.fr) (.idxa g l z x i)) (rkL S.fr [x, i]) d fre r acc Q S := D_val (fun _ _ => rfl) (fun _ => rfl) (fun _ => rfl)
theorem D_ext (x : AOpd) (i : Nat) : runD hs CA ((⟨d, none, .ext x i⟩, fre) :: r) acc Q S = dP hs CA (pval (liveB S) (ev S.fr) (.ext x i)) (rkL S.fr [x]) d fre r acc Q S := D_val (fun _ _ => rfl) (fun _ => rfl) (fun _ => rfl)
theorem D_lens (x : AOpd) : runD hs CA ((⟨d, none, .lens x⟩, fre) :: r) acc Q S = dP hs CA (pval (liveB S) (ev S.fr) (.lens x)) (rkL S.fr [x]) d fre r acc Q S := D_val (fun _ _ => rfl) (fun _ => rfl) (fun _ => rfl)
theorem D_len (x : AOpd) : runD hs CA ((⟨d, none, .len x⟩, fre) :: r) acc Q S = dP hs CA (pval (liveB S) (ev S.fr) (.len x)) (rkL S.fr [x]) d fre r acc Q S := D_val (fun _ _ => rfl) (fun _ => rfl) (fun _ => rfl)
theorem D_mnx (m : Bool) (l : List AOpd) : runD hs CA ((⟨d, none, .mnx m l⟩, fre) :: r) acc Q S = dP hs CA (pval (liveB S) (ev S.fr) (.mnx m l)) (rkL S.fr l) d fre r acc Q S := D_val (fun _ _ => rfl) (fun _ => rfl) (fun _ => rfl)
theorem D_mkf (f : Fn) (p c : List AOpd) : runD hs CA ((⟨d, none, .mkf f p c⟩, fre) :: r) acc Q S = dP hs CA (pval (liveB S) (ev S.fr) (.mkf f p c)) (rkL S.fr (p ++ c)) d fre r acc Q S := D_val (fun _ _ => rfl) (fun _ => rfl) (fun _ => rfl)

/-- an effect comes up -/
def dE (hs : Nat → Bool) (CA : Cal → List AV → St → (AV → St → Prop) → Prop) (e : Option REff) (rk : List Key) (d : Option Nat) (fre : List Nat) (r : List (AO × List Nat)) (acc : List Foot) (Q : St → Prop) (S : St) : Prop :=
  wpv e fun e => okAcc ⟨rk, e.mem.map (·.1), heapy rk, e.H.isSome⟩ acc fre ∧ runD hs CA r (acc ++ [⟨rk, e.mem.map (·.1), heapy rk, e.H.isSome⟩]) Q (e.app d S)
theorem dE_some (e : REff) (rk : List Key) : dE hs CA (some e) rk d fre r acc Q S = (okAcc ⟨rk, e.mem.map (·.1), heapy rk, e.H.isSome⟩ acc fre ∧ runD hs CA r (acc ++ [⟨rk, e.mem.map (·.1), heapy rk, e.H.isSome⟩]) Q (e.app d S)) := rfl
theorem dE_none (rk : List Key) : dE hs CA none rk d fre r acc Q S = False := rfl
theorem dE_ite (c : Prop) [Decidable c] (x : Option REff) (rk : List Key) : dE hs CA (if c then x else none) rk d fre r acc Q S = (c ∧ dE hs CA x rk d fre r acc Q S) := by
  split
  · rename_i h; simp [h]
  · rename_i h; simp [h, dE_none]
theorem D_eff {u : AOp} (hc : ∀ K, eop hs CA u d S K = wpv (effA hs u d S) K) (hi : ∀ e, footOf u S e = ⟨(opds u).flatMap fun x => keyOf (ev S.fr x), e.mem.map (·.1), false || heapy ((opds u).flatMap fun x => keyOf (ev S.fr x)), e.H.isSome⟩) :
    runD hs CA ((⟨d, none, u⟩, fre) :: r) acc Q S = dE hs CA (effA hs u d S) (rkL S.fr (opds u)) d fre r acc Q S := by
  simp only [runD, hc, hi, dE, rkL_eq, Bool.false_or]
theorem D_sll (z : Nat) (x : AOpd) (l h : Option AOpd) : runD hs CA ((⟨d, none, .sll z x l h⟩, fre) :: r) acc Q S = dE hs CA (effA hs (.sll z x l h) d S) (rkL S.fr (x :: (l.toList ++ h.toList))) d fre r acc Q S := D_eff (fun _ => rfl) (fun _ => rfl)
theorem effA_sll {sz : Nat} {x : AOpd} {lo hi : Option AOpd} : effA hs (.sll sz x lo hi) d S = effSll sz S (ev S.fr x) (bnd (ev S.fr) 0 lo) (bnd (ev S.fr) ((match ev S.fr x with | .gs _ n => n | _ => 0 : Nat) : Int) hi) (pval (liveB S) (ev S.fr) (.sll sz x lo hi)) := rfl
theorem effSll_sl {sz n : Nat} {z : Bool} {xs : List AV} {lo hi : Option Int} {v : Option AV} : effSll sz S (.sl z n xs) lo hi v = effP v := rfl
theorem effSll_gs {sz q c n : Nat} {lo hi : Option Int} {v : Option AV} : effSll sz S (.gs (.l q c) n) lo hi v = effCut sz S q c n lo hi := rfl
theorem D_box {e sz : Nat} {x : AOpd} : runD hs CA ((⟨d, none, .box e sz x⟩, fre) :: r) acc Q S = dE hs CA (effA hs (.box e sz x) d S) (rkL S.fr [x]) d fre r acc Q S := D_eff (fun _ => rfl) (fun _ => rfl)
theorem D_bsl {e sz len : Nat} {z : List AV} {p : List (Nat × Nat × AOpd)} : runD hs CA ((⟨d, none, .bsl e sz len z p⟩, fre) :: r) acc Q S = dE hs CA (effA hs (.bsl e sz len z p) d S) (rkL S.fr (p.map fun p => p.2.2)) d fre r acc Q S := D_eff (fun _ => rfl) (fun _ => rfl)
theorem D_ld {g : Bool} {sz : Nat} {x : AOpd} : runD hs CA ((⟨d, none, .ld g sz x⟩, fre) :: r) acc Q S = dE hs CA (effA hs (.ld g sz x) d S) (rkL S.fr [x]) d fre r acc Q S := D_eff (fun _ => rfl) (fun _ => rfl)
theorem D_sto {sz : Nat} {x y : AOpd} : runD hs CA ((⟨d, none, .sto sz x y⟩, fre) :: r) acc Q S = dE hs CA (effA hs (.sto sz x y) d S) (rkL S.fr [x, y]) d fre r acc Q S := D_eff (fun _ => rfl) (fun _ => rfl)
theorem D_app {e sz bytes : Nat} {x y : AOpd} : runD hs CA ((⟨d, none, .app e sz bytes x y⟩, fre) :: r) acc Q S = dE hs CA (effA hs (.app e sz bytes x y) d S) (rkL S.fr [x, y]) d fre r acc Q S := D_eff (fun _ => rfl) (fun _ => rfl)
theorem D_apps {e : Nat} {x y : AOpd} : runD hs CA ((⟨d, none, .apps e x y⟩, fre) :: r) acc Q S = dE hs CA (effA hs (.apps e x y) d S) (rkL S.fr [x, y]) d fre r acc Q S := D_eff (fun _ => rfl) (fun _ => rfl)
def callD (hs : Nat → Bool) (CA : Cal → List AV → St → (AV → St → Prop) → Prop) (f : FuncId) (args : List AV) (rk : List Key) (d : Option Nat) (fre : List Nat) (r : List (AO × List Nat)) (acc : List Foot) (Q : St → Prop) (S : St) : Prop :=
  ∃ e, CallE CA (.f f) args S e ∧ okAcc ⟨rk, e.mem.map (·.1), true, e.H.isSome⟩ acc fre ∧ runD hs CA r (acc ++ [⟨rk, e.mem.map (·.1), true, e.H.isSome⟩]) Q (e.app d S)
theorem D_call {f : FuncId} {args : List AOpd} : runD hs CA ((⟨d, none, .call f args⟩, fre) :: r) acc Q S = callD hs CA f (args.map (ev S.fr)) (rkL S.fr args) d fre r acc Q S := by
  simp only [runD, eop, callD, footOf, rkOf, opds, rkL_eq, isCall, Bool.true_or]
def yldD (hs : Nat → Bool) (CA : Cal → List AV → St → (AV → St → Prop) → Prop) (o : Nat) (args : List AV) (rk : List Key) (d : Option Nat) (fre : List Nat) (r : List (AO × List Nat)) (acc : List Foot) (Q : St → Prop) (S : St) : Prop :=
  ∃ e, CallE CA (.y o) args S e ∧ okAcc ⟨rk, e.mem.map (·.1), true, e.H.isSome⟩ acc fre ∧ runD hs CA r (acc ++ [⟨rk, e.mem.map (·.1), true, e.H.isSome⟩]) Q (e.app d S)
def calvD (hs : Nat → Bool) (CA : Cal → List AV → St → (AV → St → Prop) → Prop) (v : AV) (args : List AV) (rk : List Key) (d : Option Nat) (fre : List Nat) (r : List (AO × List Nat)) (acc : List Foot) (Q : St → Prop) (S : St) : Prop :=
  match v with
  | .fn (.func f) first cap => callD hs CA f (first ++ args ++ cap) (keysL first ++ keysL cap ++ rk) d fre r acc Q S
  | .yld o => yldD hs CA o args rk d fre r acc Q S
  | _ => False
theorem calvD_yld {o : Nat} {args : List AV} {rk : List Key} : calvD hs CA (.yld o) args rk d fre r acc Q S = yldD hs CA o args rk d fre r acc Q S := rfl
theorem calvD_fn {f : FuncId} {first cap args : List AV} {rk : List Key} : calvD hs CA (.fn (.func f) first cap) args rk d fre r acc Q S = callD hs CA f (first ++ args ++ cap) (keysL first ++ keysL cap ++ rk) d fre r acc Q S := rfl
theorem D_calv {x : AOpd} {args : List AOpd} : runD hs CA ((⟨d, none, .calv x args⟩, fre) :: r) acc Q S = calvD hs CA (ev S.fr x) (args.map (ev S.fr)) (rkL S.fr args) d fre r acc Q S := by
  simp only [runD, eop, calvD, callD, yldD, footOf, rkOf, rkL_eq, keysL_eq, isCall, Bool.true_or]
  cases hx : ev S.fr x with
  | fn f a c => cases f <;> simp only [rkCap]
  | yld o => simp only [rkCap, List.nil_append]
  | _ => rfl
def gD (hs : Nat → Bool) (CA : Cal → List AV → St → (AV → St → Prop) → Prop) (v : AV) (b : Bool) (u : AOp) (d : Option Nat) (fre : List Nat) (r : List (AO × List Nat)) (acc : List Foot) (Q : St → Prop) (S : St) : Prop :=
  match v with
  | .bl c => if c = b then runD hs CA ((⟨d, none, u⟩, fre) :: r) acc Q S else runD hs CA r (acc ++ [footSkip]) Q (S.put d (.tup []))
  | .tup [] => runD hs CA r (acc ++ [footSkip]) Q (S.put d (.tup []))
  | _ => False
theorem gD_bl {c b : Bool} {u : AOp} : gD hs CA (.bl c) b u d fre r acc Q S = if c = b then runD hs CA ((⟨d, none, u⟩, fre) :: r) acc Q S else runD hs CA r (acc ++ [footSkip]) Q (S.put d (.tup [])) := rfl
theorem gD_no {b : Bool} {u : AOp} : gD hs CA (.tup []) b u d fre r acc Q S = runD hs CA r (acc ++ [footSkip]) Q (S.put d (.tup [])) := rfl
theorem D_grd {g : Nat} {b : Bool} {u : AOp} : runD hs CA ((⟨d, some (g, b), u⟩, fre) :: r) acc Q S = gD hs CA (S.fr g) b u d fre r acc Q S := by
  simp only [runD, gD]
  cases hx : S.fr g with
  | tup l => cases l <;> rfl
  | _ => rfl
theorem footSkip_eq : footSkip = ⟨[], [], false, false⟩ := rfl

theorem okAcc_cons (ft : Foot) (acc : List Foot) (j : Nat) (fre : List Nat) : okAcc ft acc (j :: fre) = (wpo acc[j]? (okF ft) ∧ okAcc ft acc fre) := rfl
theorem okAcc_nil (ft : Foot) (acc : List Foot) : okAcc ft acc [] = True := rfl
theorem wpo_okF (ft g : Foot) : wpo (some g) (okF ft) = okF ft g := rfl
def apL (wk : List (Nat × Nat)) (rk : List Key) (wk' : List (Nat × Nat)) : Prop := allL (fun p => allL (fun k => Key.l p.1 p.2 ≠ k) rk ∧ allL (fun q => p ≠ q) wk') wk
def apL1 (wk : List (Nat × Nat)) (rk : List Key) : Prop := allL (fun p => allL (fun k => Key.l p.1 p.2 ≠ k) rk) wk
def neK (a b : Nat) (rk : List Key) : Prop := allL (fun k => Key.l a b ≠ k) rk
def neP (a b : Nat) (wk : List (Nat × Nat)) : Prop := allL (fun q => (a, b) ≠ q) wk
theorem okF_mk (rk rk' : List Key) (wk wk' : List (Nat × Nat)) (rh rh' wh wh' : Bool) : okF ⟨rk, wk, rh, wh⟩ ⟨rk', wk', rh', wh'⟩ = (apL wk rk' wk' ∧ apL1 wk' rk ∧ (wh = true → rh' = false ∧ wh' = false) ∧ (wh' = true → rh = false)) := rfl
theorem apL_nil (rk : List Key) (wk' : List (Nat × Nat)) : apL [] rk wk' = True := rfl
theorem apL_cons (a b : Nat) (wk : List (Nat × Nat)) (rk : List Key) (wk' : List (Nat × Nat)) : apL ((a, b) :: wk) rk wk' = ((neK a b rk ∧ neP a b wk') ∧ apL wk rk wk') := rfl
theorem apL1_nil (rk : List Key) : apL1 [] rk = True := rfl
theorem apL1_cons (a b : Nat) (wk : List (Nat × Nat)) (rk : List Key) : apL1 ((a, b) :: wk) rk = (neK a b rk ∧ apL1 wk rk) := rfl
theorem neK_nil (a b : Nat) : neK a b [] = True := rfl
theorem neK_l (a b c d : Nat) (rk : List Key) : neK a b (.l c d :: rk) = (¬ (a = c ∧ b = d) ∧ neK a b rk) := by
  simp only [neK, allL, ne_eq, Key.l.injEq]
theorem neK_h (a b o : Nat) (rk : List Key) : neK a b (.h o :: rk) = neK a b rk := by
  simp [neK, allL]
theorem neP_nil (a b : Nat) : neP a b [] = True := rfl
theorem neP_cons (a b c d : Nat) (wk : List (Nat × Nat)) : neP a b ((c, d) :: wk) = (¬ (a = c ∧ b = d) ∧ neP a b wk) := by
  simp only [neP, allL, ne_eq, Prod.mk.injEq]
theorem heapy_nil : heapy [] = false := rfl
theorem heapy_l (a b : Nat) (r : List Key) : heapy (.l a b :: r) = heapy r := by simp [heapy, isH]
theorem heapy_h (o : Nat) (r : List Key) : heapy (.h o :: r) = true := by simp [heapy, isH]

/-- the state behind an effect -/
def memL : List ((Nat × Nat) × Option Blk) → (Key → Option Blk) → Key → Option Blk
  | [], M => M
  | p :: l, M => memL l (updK M (.l p.1.1 p.1.2) p.2)
def cntB : Option Nat → (Nat → Nat) → Nat → Nat
  | none, c => c
  | some s, c => upd c s (c s + 1)
def hM (H : Hp) (M : Key → Option Blk) : Key → Option Blk := fun k => match k with
  | .h o => H o
  | .l d c => M (.l d c)
theorem memL_nil (M : Key → Option Blk) : memL [] M = M := rfl
theorem memL_cons (p : (Nat × Nat) × Option Blk) (l : List ((Nat × Nat) × Option Blk)) (M : Key → Option Blk) : memL (p :: l) M = memL l (updK M (.l p.1.1 p.1.2) p.2) := rfl
theorem cntB_none (c : Nat → Nat) : cntB none c = c := rfl
theorem cntB_some (s : Nat) (c : Nat → Nat) : cntB (some s) c = upd c s (c s + 1) := rfl
theorem hM_h (H : Hp) (M : Key → Option Blk) (o : Nat) : hM H M (.h o) = H o := rfl
theorem hM_l (H : Hp) (M : Key → Option Blk) (d c : Nat) : hM H M (.l d c) = M (.l d c) := rfl
theorem hpM_hM (H : Hp) (M : Key → Option Blk) : hpM (hM H M) = H := rfl
theorem memL_eq (l : List ((Nat × Nat) × Option Blk)) : ∀ M, memL l M = (l.map fun p => ((.l p.1.1 p.1.2 : Key), p.2)).foldl (fun M p => updK M p.1 p.2) M := by
  induction l with
  | nil => intro M; rfl
  | cons p l ih => intro M; simp only [memL, List.map_cons, List.foldl_cons]; exact ih _
theorem app_mk (v : AV) (mem : List ((Nat × Nat) × Option Blk)) (bump : Option Nat) (d : Option Nat) (fr : Nat → AV) (M : Key → Option Blk) (cnt : Nat → Nat) (nx : Nat) : REff.app ⟨v, mem, bump, none⟩ d ⟨fr, M, cnt, nx⟩ = St.put ⟨fr, memL mem M, cntB bump cnt, nx⟩ d v := by
  unfold REff.app REff.mst
  congr 1
  simp only [St.mk.injEq, true_and, and_true]
  refine ⟨?_, ?_⟩
  · funext k
    rw [memL_eq]
    cases k <;> rfl
  · cases bump <;> rfl
theorem app_mkH (v : AV) (bump : Option Nat) (H : Hp) (n : Nat) (d : Option Nat) (fr : Nat → AV) (M : Key → Option Blk) (cnt : Nat → Nat) (nx : Nat) : REff.app ⟨v, [], bump, some (H, n)⟩ d ⟨fr, M, cnt, nx⟩ = St.put ⟨fr, hM H M, cntB bump cnt, n⟩ d v := by
  unfold REff.app REff.mst
  congr 1
  simp only [St.mk.injEq, true_and, and_true]
  refine ⟨?_, ?_⟩
  · funext k
    cases k <;> rfl
  · cases bump <;> rfl
theorem withH_mk (fr : Nat → AV) (M : Key → Option Blk) (cnt : Nat → Nat) (nx : Nat) (H : Hp) (n : Nat) : St.withH ⟨fr, M, cnt, nx⟩ H n = ⟨fr, hM H M, cnt, n⟩ := by
  unfold St.withH
  simp only [St.mk.injEq, true_and, and_true]
  funext k
  cases k <;> rfl

theorem effA_box {e sz : Nat} {x : AOpd} : effA hs (.box e sz x) d S = if (ev S.fr x).cells.length = sz ∧ (ev S.fr x).cells.all AV.one = true ∧ 0 < sz then effNew hs (site d) S [] ⟨e, sz, (ev S.fr x).cells⟩ (fun k => .pt k 0) else none := rfl
def effFill (hs : Nat → Bool) (d : Nat) (S : St) (cs : Option (List AV)) (e sz len : Nat) : Option REff := cs.bind fun cs => effNew hs d S [] ⟨e, sz, cs.map weak⟩ fun k => .gs k len
theorem effFill_some {t : Nat} {cs : List AV} {e sz len : Nat} : effFill hs t S (some cs) e sz len = effNew hs t S [] ⟨e, sz, cs.map weak⟩ fun k => .gs k len := rfl
theorem effA_bsl {e sz len : Nat} {z : List AV} {p : List (Nat × Nat × AOpd)} : effA hs (.bsl e sz len z p) d S = if z.length = sz ∧ 0 < sz ∧ len * sz ≤ 16777216 then effFill hs (site d) S (fillA (zerosL z len) (p.map fun p => (p.1, p.2.1, ev S.fr p.2.2))) e sz len else none := rfl
theorem effA_ld {g : Bool} {sz : Nat} {x : AOpd} : effA hs (.ld g sz x) d S = effLd g sz (tgt S (ev S.fr x)) := rfl
theorem effA_sto {sz : Nat} {x y : AOpd} : effA hs (.sto sz x y) d S = effSto sz S (ev S.fr x) (ev S.fr y) := rfl
def effAppS (hs : Nat → Bool) (d : Nat) (p : Option (Nat × List AV)) (e sz bytes : Nat) (S : St) (x : AV) : Option REff := p.bind fun p => if 0 < sz ∧ bytes ≤ 100000 ∧ p.2.length = p.1 * sz ∧ p.1 ≤ 400000000 then effApp hs d e sz p.1 p.2 S x else none
theorem effAppS_some {t m : Nat} {ys : List AV} {e sz bytes : Nat} {x : AV} : effAppS hs t (some (m, ys)) e sz bytes S x = if 0 < sz ∧ bytes ≤ 100000 ∧ ys.length = m * sz ∧ m ≤ 400000000 then effApp hs t e sz m ys S x else none := rfl
theorem effA_app {e sz bytes : Nat} {x y : AOpd} : effA hs (.app e sz bytes x y) d S = effAppS hs (site d) (srcA S (ev S.fr y)) e sz bytes S (ev S.fr x) := rfl
def effAppT (hs : Nat → Bool) (d : Nat) (y : AV) (e : Nat) (S : St) (x : AV) : Option REff := match y with
  | .st l => if l.length ≤ 400000000 then effApp hs d e 1 l.length (encB l) S x else none
  | _ => none
theorem effAppT_st {t : Nat} {l : List UInt8} {e : Nat} {x : AV} : effAppT hs t (.st l) e S x = if l.length ≤ 400000000 then effApp hs t e 1 l.length (encB l) S x else none := rfl
theorem effA_apps {e : Nat} {x y : AOpd} : effA hs (.apps e x y) d S = effAppT hs (site d) (ev S.fr y) e S (ev S.fr x) := rfl
theorem effApp_nil {t e sz m n : Nat} {ys xs : List AV} : effApp hs t e sz m ys S (.sl true n xs) = if m = 0 then some (eff1 (.sl true 0 [])) else effNew hs t S [] ⟨e, sz, ys⟩ fun k => .gs k m := rfl
def effAppB (hs : Nat → Bool) (t e sz m q c n : Nat) (ys : List AV) (S : St) (b : Option Blk) : Option REff := b.bind fun b => if b.e = e ∧ b.sz = sz ∧ b.cells.length = n * sz ∧ n ≤ 1000000000 then effNew hs t S [(q, c)] ⟨e, sz, b.cells ++ ys⟩ fun k => .gs k (n + m) else none
theorem effAppB_some {t e sz m q c n e' sz' : Nat} {ys cs : List AV} : effAppB hs t e sz m q c n ys S (some ⟨e', sz', cs⟩) = if e' = e ∧ sz' = sz ∧ cs.length = n * sz ∧ n ≤ 1000000000 then effNew hs t S [(q, c)] ⟨e, sz, cs ++ ys⟩ fun k => .gs k (n + m) else none := rfl
theorem effApp_gs {t e sz m q c n : Nat} {ys : List AV} : effApp hs t e sz m ys S (.gs (.l q c) n) = effAppB hs t e sz m q c n ys S (S.M (.l q c)) := rfl
theorem effLd_one {us : List AV} {off sz : Nat} : effLd false sz (some (us, off)) = effP us[off]? := rfl
theorem effLd_agg {us : List AV} {off sz : Nat} : effLd true sz (some (us, off)) = if off + sz ≤ us.length then some (eff1 (.agg ((us.drop off).take sz))) else none := rfl
theorem effP_some (v : AV) : effP (some v) = some (eff1 v) := rfl
theorem effP_none : effP none = none := rfl
theorem eff1_mk (v : AV) : eff1 v = ⟨v, [], none, none⟩ := rfl
theorem effNew_l {t : Nat} {ks : List (Nat × Nat)} {b : Blk} {v : Key → AV} : effNew hs t S ks b v = if hs t = false then some ⟨v (.l t (S.cnt t + 1)), ks.map (fun k => (k, none)) ++ [((t, S.cnt t + 1), some b)], some t, none⟩ else none := rfl
def effStoL (b : Option Blk) (q c off sz : Nat) (y : AV) : Option REff := b.bind fun b => if b.sz ≠ 0 ∧ y.cells.length = sz ∧ y.cells.all AV.one = true ∧ off + sz ≤ b.cells.length then some ⟨.un, [((q, c), some { b with cells := b.cells.take off ++ y.cells ++ b.cells.drop (off + sz) })], none, none⟩ else none
theorem effStoL_some {e sz' q c off sz : Nat} {cs : List AV} {y : AV} : effStoL (some ⟨e, sz', cs⟩) q c off sz y = if sz' ≠ 0 ∧ y.cells.length = sz ∧ y.cells.all AV.one = true ∧ off + sz ≤ cs.length then some ⟨.un, [((q, c), some ⟨e, sz', cs.take off ++ y.cells ++ cs.drop (off + sz)⟩)], none, none⟩ else none := rfl
theorem effSto_l {q c off sz : Nat} {y : AV} : effSto sz S (.pt (.l q c) off) y = effStoL (S.M (.l q c)) q c off sz y := by
  simp only [effSto, effStoL, hOk, and_true]
def effStoH (b : Option Blk) (o off sz : Nat) (y : AV) (H : Hp) (nx : Nat) : Option REff := b.bind fun b => if b.sz ≠ 0 ∧ y.cells.length = sz ∧ y.cells.all AV.one = true ∧ off + sz ≤ b.cells.length ∧ noLs (b.cells.take off ++ y.cells ++ b.cells.drop (off + sz)) = true then some ⟨.un, [], none, some (fun q => if q = o then some { b with cells := b.cells.take off ++ y.cells ++ b.cells.drop (off + sz) } else H q, nx)⟩ else none
theorem effStoH_some {e sz' o off sz nx : Nat} {H : Hp} {cs : List AV} {y : AV} : effStoH (some ⟨e, sz', cs⟩) o off sz y H nx = if sz' ≠ 0 ∧ y.cells.length = sz ∧ y.cells.all AV.one = true ∧ off + sz ≤ cs.length ∧ noLs (cs.take off ++ y.cells ++ cs.drop (off + sz)) = true then some ⟨.un, [], none, some (fun q => if q = o then some ⟨e, sz', cs.take off ++ y.cells ++ cs.drop (off + sz)⟩ else H q, nx)⟩ else none := rfl
theorem effSto_h {o off sz : Nat} {y : AV} : effSto sz S (.pt (.h o) off) y = effStoH (S.M (.h o)) o off sz y S.hp S.nx := rfl
end

section
variable {hs : Nat → Bool} {oo : Option Nat} {P : Program} {d : Option Nat} {r : List (AO × List Nat)} {fre : List Nat} {acc : List Foot} {Q : St → Prop} {S : St} {rk : List Key}
theorem callD_pure {f : FuncId} {args : List AV} {v : AV} (hp : Pure P f args v) (hn : noLs args = true) (hok : okAcc ⟨rk, [], true, false⟩ acc fre) (hK : runD hs (CallsA P) r (acc ++ [⟨rk, [], true, false⟩]) Q (S.put d v)) : callD hs (CallsA P) f args rk d fre r acc Q S := by
  refine ⟨eff1 v, ⟨rfl, by rw [pkL_noL _ _ hn]; rfl, ?_⟩, hok, ?_⟩
  · refine call_pure hp hn ⟨rfl, ?_⟩
    rw [mst_eff1]
  · unfold REff.app; rw [mst_eff1]; exact hK
theorem callD_det {f : FuncId} {args : List AV} {v : AV} {H' : Hp} {n' : Nat} (hp : Contract P f args S.hp S.nx fun av H1 n1 => av = v ∧ H1 = H' ∧ n1 = n') (hn : noLs args = true) (hok : okAcc ⟨rk, [], true, true⟩ acc fre) (hK : runD hs (CallsA P) r (acc ++ [⟨rk, [], true, true⟩]) Q ((S.withH H' n').put d v)) : callD hs (CallsA P) f args rk d fre r acc Q S := by
  have e1 : REff.mst ⟨v, [], none, some (H', n')⟩ S = S.withH H' n' := by
    unfold REff.mst St.withH
    simp only [St.mk.injEq, true_and, and_true]
    refine ⟨?_, rfl⟩
    funext k
    cases k <;> rfl
  refine ⟨⟨v, [], none, some (H', n')⟩, ⟨rfl, by rw [pkL_noL _ _ hn]; rfl, ?_⟩, hok, ?_⟩
  · refine call_by hp hn ?_
    rintro av H1 n1 ⟨rfl, rfl, rfl⟩
    exact ⟨rfl, e1.symm⟩
  · unfold REff.app; rw [e1]; exact hK
end
section
variable {hs : Nat → Bool} {oo : Option Nat} {P : Program} {d : Option Nat} {r : List AO} {Q : St → Prop} {S : St}
/-- rows of the caller's own are handed over -/
theorem callR_pub {f : FuncId} {args args' : List AV} {S' : St} {v : AV} (hpub : pubL args S = (args', S')) (hp : Pure P f args' v) (hn : noLs args' = true) (hK : runA hs (CallsA P) r Q (S'.put d v)) : callR hs (CallsA P) f args d r Q S := by
  unfold callR CallsA
  rw [hpub]
  refine ⟨hn, (hp S'.hp S'.nx).mono ?_⟩
  rintro av H' n' ⟨rfl, rfl, rfl⟩
  rw [withH_self]
  exact hK
theorem callR_pubBy {f : FuncId} {args args' : List AV} {S' : St} {Post : AV → Hp → Nat → Prop} (hpub : pubL args S = (args', S')) (hp : Contract P f args' S'.hp S'.nx Post) (hn : noLs args' = true) (hK : ∀ v H' n', Post v H' n' → runA hs (CallsA P) r Q ((S'.withH H' n').put d v)) : callR hs (CallsA P) f args d r Q S := by
  unfold callR CallsA
  rw [hpub]
  exact ⟨hn, hp.mono hK⟩
end

section
variable {hs : Nat → Bool} {P : Program} {d : Option Nat} {r : List AO} {Q : St → Prop} {S : St}
/-- a yield, by what it does -/
theorem yldR_by {o : Nat} {args : List AV} {Post : AV → Hp → Nat → Prop} (hp : ContractY P o args S.hp S.nx Post) (hn : noLs args = true) (hK : ∀ v H' n', Post v H' n' → runA hs (CallsA P) r Q ((S.withH H' n').put d v)) : yldR hs (CallsA P) o args d r Q S := by
  unfold yldR CallsA
  rw [pubL_noL _ _ hn]
  exact ⟨hn, hp.mono hK⟩
end
/-! ### ranges over functions -/
/-- an iterator that yields so many rows of values, as long as its objects are as 'Keep' says -/
def Iter (P : Program) (f : FuncId) (first cap : List AV) (xs : List (List AV)) (Keep : Hp → Prop) : Prop :=
  ∀ (o : Nat) (J : Nat → Hp → Nat → Prop) (Jx : Hp → Nat → Prop) (H : Hp) (n : Nat), (∀ i H n, J i H n → Keep H) →
    (∀ i x, xs[i]? = some x → ∀ H n, J i H n → ContractY P o x H n fun v H' n' => (v = .bl true ∧ J (i + 1) H' n') ∨ (v = .bl false ∧ Jx H' n')) →
    J 0 H n → Contract P f (first ++ [.yld o] ++ cap) H n fun _ H' n' => J xs.length H' n' ∨ Jx H' n'

section
variable {hs hs' : Nat → Bool} {oo : Option Nat} {P : Program} {Q : AEx → St → Prop} {S : St}

theorem w_range {f : FuncId} {F : AFn} (tF : trF P f = some F) {first cap : List AV} {xs : List (List AV)} {Keep : Hp → Prop} (hI : Iter P f first cap xs Keep) {N : Nat} {g : AOpd} {ps : Array Tmp} {asg body : Code} {aA aB : ACode} (tA : trC P N asg = some aA) (tB : trC P N body = some aB)
    (he : ev S.fr g = .fn (.func f) first cap) (hin : inR oo S) (hn : noLs (first ++ cap) = true) (hps : ∀ x ∈ xs, x.length = ps.size) (J : Nat → Hp → Nat → Prop) (Jr : Hp → Nat → Prop) (Je : Nat → Hp → Nat → Prop)
    (hK : ∀ i H n, J i H n → Keep H) (h0 : J 0 (S.lay N ps asg body).hp (S.nx + 1))
    (hb : ∀ i x H n, xs[i]? = some x → J i H n → H S.nx = some (recB N S.fr ps asg body) → rndA hs' (CallsA P) S.nx aA aB (fun v H' n' => (v = .bl true ∧ H' S.nx = some (recB N S.fr ps asg body) ∧ J (i + 1) H' n') ∨ (v = .bl false ∧ ((lsOf (H' S.nx) = some .ret ∧ Jr H' n') ∨ ∃ id, lsOf (H' S.nx) = some (.exit id) ∧ Je id H' n')))
      ⟨rfr ((List.range N).map fun t => cln (S.fr t)) ps.toList x, heapM H, fun _ => 0, n⟩)
    (hend : ∀ H n, J xs.length H n → Q .n (((S.lay N ps asg body).withH H n).kill (.h S.nx)))
    (hret : ∀ H n, Jr H n → Q .r (((S.lay N ps asg body).withH H n).kill (.h S.nx)))
    (hex : ∀ id H n, Je id H n → Q (.x id) (((S.lay N ps asg body).withH H n).kill (.h S.nx))) : wpA hs oo (CallsA P) (.rng N g ps asg body) Q S := by
  simp only [wpA, he]
  have hnl : noLs (first ++ [.yld S.nx] ++ cap) = true := by
    rw [noLs_append, noLs_append]
    rw [noLs_append, Bool.and_eq_true] at hn
    simp [hn.1, hn.2, noLs, AV.noL]
  refine ⟨hin, ?_⟩
  unfold CallsA
  rw [pubL_noL _ _ hnl]
  refine ⟨hnl, enters_of tF, ?_⟩
  have hend' : ∀ H n j, lsOf (H S.nx) = some j → (match j with | .ready => Q .n (((S.lay N ps asg body).withH H n).kill (.h S.nx)) | .ret => Q .r (((S.lay N ps asg body).withH H n).kill (.h S.nx)) | .exit id => Q (.x id) (((S.lay N ps asg body).withH H n).kill (.h S.nx)) | .busy => False) → rngEnd Q S.nx ((S.lay N ps asg body).withH H n) := by
    intro H n j hj hq
    unfold rngEnd
    have : ((S.lay N ps asg body).withH H n).M (.h S.nx) = H S.nx := rfl
    rw [this, hj]
    cases j <;> exact hq
  refine (hI S.nx (fun i H n => H S.nx = some (recB N S.fr ps asg body) ∧ J i H n) (fun H n => (lsOf (H S.nx) = some .ret ∧ Jr H n) ∨ ∃ id, lsOf (H S.nx) = some (.exit id) ∧ Je id H n) _ _ (fun i H n h => hK i H n h.2) ?_ ⟨?_, h0⟩).mono ?_
  · rintro i x hx H n ⟨h1, h2⟩
    refine (yield_of hs' tA tB h1 (by simp) (hps x (List.mem_of_getElem? hx)).symm (hb i x H n hx h2 h1)).mono ?_
    rintro v H' n' (⟨a, b, c⟩ | ⟨a, b⟩)
    · exact .inl ⟨a, b, c⟩
    · exact .inr ⟨a, b⟩
  · show updK S.M (.h S.nx) _ (.h S.nx) = _
    rw [updK_at]
  · rintro v H' n' (⟨h1, h2⟩ | ⟨h1, h2⟩ | ⟨id, h1, h2⟩)
    · exact hend' H' n' .ready (by rw [h1]; rfl) (hend H' n' h2)
    · exact hend' H' n' .ret h1 (hret H' n' h2)
    · exact hend' H' n' (.exit id) h1 (hex id H' n' h2)
end
end Go.AV
