/-
  Typed states: types out of parts; a function's relation out of its code.
-/
import Derived.Test.YteoohihaibgplaaDoorDnD
namespace Go.AV
open Go.RowKit Go.RG Go.Lib
variable {K : Nat → Type}

theorem cnd_mono {c : Bool} {a b a' b' : Prop} (h : cnd c a b) (ha : a → a') (hb : b → b') : cnd c a' b' := ⟨fun e => ha (h.1 e), fun e => hb (h.2 e)⟩
/-- a type's cells, however they are told -/
structure Tb (K : Nat → Type) (X : Type) where
  g : Bool
  c : X → List (TV K)
  rd : List (TV K) → Option X
  tb : Option (X → UInt8)
  ob : Option (UInt8 → X)
  fl : Bool
  E : Enc X
structure TbOk (P : Program) (C : Cx K) {X : Type} (b : Tb K X) : Prop where
  c : ∀ (x : X) ts χ, ((b.E).c x).length = (b.c x).length ∧ ∀ (j : Nat) (u : TV K) (v : AV), (b.c x)[j]? = some u → (b.E.c x)[j]? = some v → TR P C ts χ u v
  rd : ∀ (cs : List (TV K)) (x : X) ts χ (vs : List AV), b.rd cs = some x → vs.length = cs.length → (∀ (j : Nat) (u : TV K) (v : AV), cs[j]? = some u → vs[j]? = some v → TR P C ts χ u v) → dwks vs = b.E.c x
  g : b.g = false → b.E.sz = 1
  dw : ∀ x : X, dwks (b.E.c x) = b.E.c x
  tb : ∀ f, b.tb = some f → ∀ x, ∃ n, b.E.c x = [.it .u8 n] ∧ f x = UInt8.ofNat n.toNat
  ob : ∀ f, b.ob = some f → ∀ y : UInt8, b.E.c (f y) = [.it .u8 y.toNat]
  fl : b.fl = true → ∀ x : X, flats (b.E.c x) = true
  nr : ∀ x, norefVs (b.c x) = true

def tbI (k : IntKind) : Tb K Int := ⟨false, fun n => [.it k n], fun cs => match cs with
  | [u] => match tint u with
    | some (k', n) => if k' = k then some n else none
    | none => none
  | _ => none, (match k with | .u8 => some toB | _ => none), (match k with | .u8 => some ofB | _ => none), true, eI k⟩
def tbB : Tb K Bool := ⟨false, fun b => [.bl b], fun cs => match cs with
  | [u] => tbo u
  | _ => none, none, none, true, eB⟩
def tbS : Tb K Str := ⟨false, fun s => [.st s], fun cs => match cs with
  | [.st s] => some s
  | _ => none, none, none, true, eS⟩
def tbL (e : Nat) (E : Enc (K e)) : Tb K (List (K e)) := ⟨false, fun l => [.sl e l], fun cs => match cs with
  | [.sl e' l] => castL e' e l
  | [.nil] => some []
  | [.em] => some []
  | _ => none, none, none, false, eSl E⟩
def tbCat {A B : Type} (a : Tb K A) (b : Tb K B) : Tb K (A × B) := ⟨true, fun x => a.c x.1 ++ b.c x.2, fun cs => match a.rd (cs.take a.E.sz), b.rd (cs.drop a.E.sz) with
  | some x, some y => some (x, y)
  | _, _ => none, none, none, a.fl && b.fl, ⟨fun x => a.E.c x.1 ++ b.E.c x.2, a.E.sz + b.E.sz, by have := a.E.pos; omega, fun x => by rw [List.length_append, a.E.len, b.E.len], fun x => by rw [noLs_app, a.E.no, b.E.no]; rfl, fun x => by rw [List.all_append, a.E.one, b.E.one]; rfl⟩⟩
/-- a struct of one field or more -/
def tbIso {A X : Type} (a : Tb K A) (f : X → A) (g : A → X) (E : Enc X) : Tb K X := ⟨true, fun x => a.c (f x), fun cs => match a.rd cs with
  | some y => some (g y)
  | none => none, none, none, a.fl, E⟩
def encIso {A X : Type} (a : Enc A) (f : X → A) : Enc X := ⟨fun x => a.c (f x), a.sz, a.pos, fun x => a.len _, fun x => a.no _, fun x => a.one _⟩
/-- a type of no place -/
def tbU : Tb K Unit := ⟨false, fun _ => [.lb true], fun _ => none, none, none, false, ⟨fun _ => [.bl true], 1, by omega, fun _ => rfl, fun _ => rfl, fun _ => rfl⟩⟩

section
variable {P : Program} {C : Cx K}
theorem at1 {α : Type} {x u : α} {j : Nat} (h : [x][j]? = some u) : j = 0 ∧ u = x := by
  cases j with
  | zero => simp at h; exact ⟨rfl, h.symm⟩
  | succ j => simp at h
theorem len1 {α : Type} {l : List α} (h : l.length = 1) : ∃ x, l = [x] := by
  match l, h with
  | [x], _ => exact ⟨x, rfl⟩
theorem tbI_ok (k : IntKind) : TbOk P C (tbI k : Tb K Int) := by
  refine ⟨fun x ts χ => ⟨rfl, fun j u v hu hv => ?_⟩, fun cs x ts χ vs h hl ht => ?_, fun _ => rfl, fun _ => rfl, fun f hf x => ?_, fun f hf x => ?_, fun _ _ => rfl, fun _ => rfl⟩
  · obtain ⟨rfl, rfl⟩ := at1 hu; obtain ⟨_, rfl⟩ := at1 hv; exact .it k x
  · simp only [tbI] at h
    split at h
    · rename_i u
      obtain ⟨v, rfl⟩ := len1 hl
      split at h
      · rename_i k' n hn
        split at h
        · rename_i e; cases h; subst e; rw [TR.int (ht 0 _ _ rfl rfl) hn]; rfl
        · cases h
      · cases h
    · cases h
  · cases k <;> simp [tbI] at hf; subst hf; exact ⟨x, rfl, rfl⟩
  · cases k <;> simp [tbI] at hf; subst hf; rfl
theorem tbB_ok : TbOk P C (tbB : Tb K Bool) := by
  refine ⟨fun x ts χ => ⟨rfl, fun j u v hu hv => ?_⟩, fun cs x ts χ vs h hl ht => ?_, fun _ => rfl, fun _ => rfl, fun f hf x => (by cases hf), fun f hf x => (by cases hf), fun _ _ => rfl, fun _ => rfl⟩
  · obtain ⟨rfl, rfl⟩ := at1 hu; obtain ⟨_, rfl⟩ := at1 hv; exact .bl x
  · simp only [tbB] at h
    split at h
    · obtain ⟨v, rfl⟩ := len1 hl; rw [TR.bool (ht 0 _ _ rfl rfl) h]; rfl
    · cases h
theorem tbS_ok : TbOk P C (tbS : Tb K Str) := by
  refine ⟨fun x ts χ => ⟨rfl, fun j u v hu hv => ?_⟩, fun cs x ts χ vs h hl ht => ?_, fun _ => rfl, fun _ => rfl, fun f hf x => (by cases hf), fun f hf x => (by cases hf), fun _ _ => rfl, fun _ => rfl⟩
  · obtain ⟨rfl, rfl⟩ := at1 hu; obtain ⟨_, rfl⟩ := at1 hv; exact .st x
  · simp only [tbS] at h
    split at h
    · obtain ⟨v, rfl⟩ := len1 hl; cases h; rw [TR.str (ht 0 _ _ rfl rfl)]; rfl
    · cases h
theorem cl_dw {T : Type} {E : Enc T} (h : ∀ x, dwks (E.c x) = E.c x) (l : List T) : dwks (cl E l) = cl E l := by
  induction l with
  | nil => rfl
  | cons x l ih => show dwks (E.c x ++ cl E l) = E.c x ++ cl E l; rw [dwks_app, h, ih]
theorem tbL_ok (e : Nat) {E : Enc (K e)} (hE : C.E e = E) (hd : ∀ x, dwks (E.c x) = E.c x) : TbOk P C (tbL e E) := by
  refine ⟨fun x ts χ => ⟨rfl, fun j u v hu hv => ?_⟩, fun cs x ts χ vs h hl ht => ?_, fun _ => rfl, fun x => ?_, fun f hf x => (by cases hf), fun f hf x => (by cases hf), fun h => (by cases h), fun _ => rfl⟩
  · obtain ⟨rfl, rfl⟩ := at1 hu; obtain ⟨_, rfl⟩ := at1 hv; exact .sl e x false _ _ rfl (by rw [hE]; exact cl_dw hd x)
  · simp only [tbL] at h
    split at h
    · obtain ⟨v, rfl⟩ := len1 hl
      obtain ⟨rfl, h⟩ := castL_out h
      obtain ⟨z, xs, h1, rfl⟩ := (ht 0 _ _ rfl rfl).sli
      subst h
      show [dwk (AV.sl z _ xs)] = _
      simp only [dwk, h1, hE]; rfl
    · obtain ⟨v, rfl⟩ := len1 hl; cases h
      have := ht 0 _ _ rfl rfl
      cases this; rfl
    · obtain ⟨v, rfl⟩ := len1 hl; cases h
      have := ht 0 _ _ rfl rfl
      cases this; rfl
    · cases h
  · show [dwk (slA E x)] = [slA E x]
    simp only [slA, dwk, cl_dw hd]
theorem flats_app (a b : List AV) : flats (a ++ b) = (flats a && flats b) := by
  induction a with
  | nil => simp [flats]
  | cons x a ih => simp [flats, ih, Bool.and_assoc]
theorem norefVs_app (a b : List (TV K)) : norefVs (a ++ b) = (norefVs a && norefVs b) := by
  induction a with
  | nil => simp [norefVs]
  | cons x a ih => simp [norefVs, ih, Bool.and_assoc]
theorem tbCat_ok {A B : Type} {a : Tb K A} {b : Tb K B} (ha : TbOk P C a) (hb : TbOk P C b) : TbOk P C (tbCat a b) := by
  refine ⟨fun x ts χ => ?_, fun cs x ts χ vs h hl ht => ?_, fun h => (by cases h), fun x => ?_, fun f hf x => (by cases hf), fun f hf x => (by cases hf), fun h x => ?_, fun x => ?_⟩
  · exact TL.app (ts := ts) (χ := χ) (P := P) (C := C) (us := a.c x.1) (us' := b.c x.2) (vs := a.E.c x.1) (vs' := b.E.c x.2) (ha.c x.1 ts χ) (hb.c x.2 ts χ)
  · simp only [tbCat] at h
    split at h
    · rename_i x1 y1 h1 h2
      cases h
      have t : TL P C ts χ cs vs := ⟨hl, ht⟩
      have e1 := ha.rd _ _ ts χ _ h1 (t.take a.E.sz).1 (t.take a.E.sz).2
      have e2 := hb.rd _ _ ts χ _ h2 (t.drop a.E.sz).1 (t.drop a.E.sz).2
      show dwks vs = a.E.c x1 ++ b.E.c y1
      rw [← e1, ← e2, ← dwks_app, List.take_append_drop]
    · cases h
  · show dwks (a.E.c x.1 ++ b.E.c x.2) = _; rw [dwks_app, ha.dw, hb.dw]; rfl
  · have h' : (a.fl && b.fl) = true := h
    rw [Bool.and_eq_true] at h'
    show flats (a.E.c x.1 ++ b.E.c x.2) = true
    rw [flats_app, ha.fl h'.1, hb.fl h'.2]; rfl
  · show norefVs (a.c x.1 ++ b.c x.2) = true; rw [norefVs_app, ha.nr, hb.nr]; rfl
theorem tbIso_ok {A X : Type} {a : Tb K A} {f : X → A} {g : A → X} {E : Enc X} (ha : TbOk P C a) (hfg : ∀ y, f (g y) = y) (hE : ∀ x, E.c x = a.E.c (f x)) : TbOk P C (tbIso a f g E) := by
  refine ⟨fun x ts χ => ?_, fun cs x ts χ vs h hl ht => ?_, fun h => (by cases h), fun x => ?_, fun f hf x => (by cases hf), fun f hf x => (by cases hf), fun h x => ?_, fun x => ha.nr (f x)⟩
  · have := ha.c (f x) ts χ; rw [← hE] at this; exact this
  · simp only [tbIso] at h
    split at h
    · rename_i y hy; cases h; show dwks vs = E.c (g y); rw [hE, hfg]; exact ha.rd _ _ ts χ _ hy hl ht
    · cases h
  · show dwks (E.c x) = E.c x; rw [hE]; exact ha.dw _
  · show flats (E.c x) = true; rw [hE]; exact ha.fl h _
theorem tbU_ok : TbOk P C (tbU : Tb K Unit) := by
  refine ⟨fun x ts χ => ⟨rfl, fun j u v hu hv => ?_⟩, fun cs x ts χ vs h hl ht => (by cases h), fun _ => rfl, fun _ => rfl, fun f hf x => (by cases hf), fun f hf x => (by cases hf), fun h => (by cases h), fun _ => rfl⟩
  obtain ⟨rfl, rfl⟩ := at1 hu; obtain ⟨_, rfl⟩ := at1 hv; exact .lb true
end

/-! ### a family of types out of codes -/
section
variable {TC : Type} {KF : TC → Type} {code : Nat → TC}
def cxOf (TF : (c : TC) → Tb (fun t => KF (code t)) (KF c)) : Cx (fun t => KF (code t)) :=
  ⟨fun t => ⟨(TF (code t)).g, (TF (code t)).c, (TF (code t)).rd, (TF (code t)).tb, (TF (code t)).ob, (TF (code t)).fl⟩, fun t => (TF (code t)).E⟩
theorem cxOf_ok {P : Program} {TF : (c : TC) → Tb (fun t => KF (code t)) (KF c)} (h : ∀ c, TbOk P (cxOf TF) (TF c)) : CxOk P (cxOf TF) :=
  ⟨fun t x ts χ => (h (code t)).c x ts χ, fun t cs x ts χ vs a b c => (h (code t)).rd cs x ts χ vs a b c, fun t e => (h (code t)).g e, fun t x => (h (code t)).dw x, fun t f e => (h (code t)).tb f e, fun t f e => (h (code t)).ob f e, fun t e => (h (code t)).fl e, fun t x => (h (code t)).nr x⟩
def lkC (d : TC) : List (Nat × TC) → Nat → TC
  | [], _ => d
  | p :: r, t => match Nat.beq p.1 t with
    | true => p.2
    | false => lkC d r t
end

/-! ### what a relation is handed -/
theorem appW_v {rs : List Nat} {p : Nat} {ps : List PD} {w : WTy K rs (.v p :: ps)} {a : List (AD K)} {b : List (DV K)} (h : appW rs (.v p :: ps) w a b) : ∃ (x : K p) (a' : List (AD K)), a = .d (.v p x) :: a' ∧ appW rs ps (w x) a' b := by
  cases a with
  | nil => exact h.elim
  | cons u a' =>
    simp only [appW] at h
    split at h
    · rename_i y hy
      cases u with
      | f F => simp [outP] at hy
      | d x =>
        cases x with
        | v t x =>
          simp only [outP] at hy
          split at hy
          · rename_i e; subst e; cases hy; exact ⟨x, a', rfl, h⟩
          · cases hy
        | _ => simp [outP] at hy
    · exact h.elim
theorem appW_f {rs as bs : List Nat} {ps : List PD} {w : WTy K rs (.f as bs :: ps)} {a : List (AD K)} {b : List (DV K)} (h : appW rs (.f as bs :: ps) w a b) : ∃ (F : FV K) (a' : List (AD K)), a = .f F :: a' ∧ appW rs ps (w (curF bs as F.W)) a' b := by
  cases a with
  | nil => exact h.elim
  | cons u a' =>
    simp only [appW] at h
    split at h
    · rename_i y hy
      cases u with
      | f F => simp only [outP] at hy; cases hy; exact ⟨F, a', rfl, h⟩
      | d x => cases x <;> simp [outP] at hy
    · exact h.elim
theorem appW_n {rs : List Nat} {w : WTy K rs []} {a : List (AD K)} {b : List (DV K)} (h : appW rs [] w a b) : a = [] ∧ apR rs w b := by
  cases a with
  | nil => exact ⟨rfl, h⟩
  | cons u a' => exact h.elim
theorem apR_v {r : Nat} {rs : List Nat} {w : RTy K (r :: rs)} {b : List (DV K)} (h : apR (r :: rs) w b) : ∃ (x : K r) (b' : List (DV K)), b = .v r x :: b' ∧ apR rs (w x) b' := by
  cases b with
  | nil => exact h.elim
  | cons u b' =>
    cases u with
    | v t x =>
      have h' : (if e : t = r then apR rs (w (e ▸ x)) b' else False) := h
      by_cases e : t = r
      · subst e; rw [dif_pos rfl] at h'; exact ⟨x, b', rfl, h'⟩
      · rw [dif_neg e] at h'; exact h'.elim
    | _ => exact h.elim
theorem apR_n {w : RTy K []} {b : List (DV K)} (h : apR [] w b) : b = [] ∧ w := by
  cases b with
  | nil => exact ⟨rfl, h⟩
  | cons u b' => exact h.elim
theorem DnF_by {P : Program} {F : Cf K} (hC : CxOk P F.C) (hS : SsOk P F.C F.S) {f : FuncId} {c : AFn} (hF : trF P f = some c) {A : An K} {ps : List PD} {rs : List Nat} (hN : F.N = c.N) (hps : ps.length ≤ c.N) {env : List (AD K)} {r : List (DV K)} (hlen : env.length = ps.length) (hFs : ∀ G, AD.f G ∈ env → FOk P F.C G)
    {X : Prop} (h : X) (e : X = DnF F A c ps rs env r) : Pure P f (pencs F.C ps env) (tresA (r.map (dvA F.C))) := DnF_ok hC hS hF hN hps hlen hFs (e ▸ h)
theorem SsOk_n {P : Program} {C : Cx K} : SsOk P C [] := fun sp h => by cases h
theorem SsOk_c {P : Program} {C : Cx K} {sp : Sp K} {l : List (Sp K)} (h : SpOk P C sp) (k : SsOk P C l) : SsOk P C (sp :: l) := fun q hq => by
  rcases List.mem_cons.1 hq with rfl | hq
  · exact h
  · exact k q hq
end Go.AV

