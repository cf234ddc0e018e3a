/-
  Typed states: what they say of abstract ones.
-/
import Derived.Test.YteoohihaibgplaaDoorDn
namespace Go.AV
open Go.RowKit Go.RG Go.Lib

/-! ### whether slices are nil is forgotten, deep -/
mutual
def dwk : AV → AV
  | .sl _ n xs => .sl false n (dwks xs)
  | .agg cs => .agg (dwks cs)
  | .tup cs => .tup (dwks cs)
  | .fn f a c => .fn f (dwks a) (dwks c)
  | .ep xs off => .ep (dwks xs) off
  | u => u
def dwks : List AV → List AV
  | [] => []
  | u :: r => dwk u :: dwks r
end
theorem dwks_map : ∀ (l : List AV), dwks l = l.map dwk
  | [] => rfl
  | x :: l => by simp only [dwks, List.map_cons, dwks_map l]
theorem dwks_at (l : List AV) (j : Nat) (u : AV) (h : (dwks l)[j]? = some u) : ∃ v, l[j]? = some v ∧ u = dwk v := by
  rw [dwks_map, List.getElem?_map] at h
  obtain ⟨v, h1, h2⟩ := Option.map_eq_some_iff.1 h
  exact ⟨v, h1, h2.symm⟩
theorem dwks_len (l : List AV) : (dwks l).length = l.length := by rw [dwks_map]; simp
mutual
theorem dwk_noL : ∀ (u : AV), (dwk u).noL = u.noL
  | .agg cs => by simp only [dwk, AV.noL]; exact dwks_noL cs
  | .tup cs => by simp only [dwk, AV.noL]; exact dwks_noL cs
  | .fn f a c => by simp only [dwk, AV.noL, dwks_noL]
  | .sl z n xs => rfl
  | .gs k n => rfl
  | .pt k n => rfl
  | .bl b => rfl
  | .it k n => rfl
  | .st s => rfl
  | .nptr => rfl
  | .ep xs off => rfl
  | .nfn => rfl
  | .un => rfl
  | .yld o => rfl
  | .rcd a b c d => rfl
theorem dwks_noL : ∀ (l : List AV), noLs (dwks l) = noLs l
  | [] => rfl
  | x :: l => by simp only [dwks, noLs, dwk_noL, dwks_noL]
end
theorem VR.dwk {G : Gh} {u : AV} {v : Value} (h : VR G u v) : VR G (AV.dwk u) v := by
  induction h with
  | agg cs vs hl h h1 ih => exact .agg _ vs (by rw [dwks_len]; exact hl) (fun j u x hu hx => by obtain ⟨w, e1, rfl⟩ := dwks_at cs j u hu; exact ih j w x e1 hx) h1
  | tup cs vs hl h ih => exact .tup _ vs (by rw [dwks_len]; exact hl) (fun j u x hu hx => by obtain ⟨w, e1, rfl⟩ := dwks_at cs j u hu; exact ih j w x e1 hx)
  | nsl z n xs hn hx => exact .nsl false n _ hn (by rw [hx]; rfl)
  | esl n xs hn hx a cap => exact .esl n _ hn (by rw [hx]; rfl) a cap
  | sl n xs b off cap f hI hc h h1 hn hm hq ih => exact .sl n _ b off cap f hI (fun j u hu => by obtain ⟨w, e1, rfl⟩ := dwks_at xs j u hu; exact hc j w e1) (fun j u hu => by obtain ⟨w, e1, rfl⟩ := dwks_at xs j u hu; exact ih j w e1) (fun j u hu => by obtain ⟨w, e1, rfl⟩ := dwks_at xs j u hu; exact h1 j w e1) hn hm (by rw [dwks_noL]; exact hq)
  | fn f a c va vc ha hc h h' ih ih' => exact .fn f _ _ va vc (by rw [dwks_len]; exact ha) (by rw [dwks_len]; exact hc) (fun j u x hu hx => by obtain ⟨w, e1, rfl⟩ := dwks_at a j u hu; exact ih j w x e1 hx) (fun j u x hu hx => by obtain ⟨w, e1, rfl⟩ := dwks_at c j u hu; exact ih' j w x e1 hx)
  | bl b => exact .bl b
  | it k n => exact .it k n
  | st s b h => exact .st s b h
  | gs k n b cap hk => exact .gs k n b cap hk
  | gsd k n v hk h1 => exact .gsd k n v hk h1
  | nptr => exact .nptr
  | pt k off b cap hk => exact .pt k off b cap hk
  | ptd k off v hk h1 => exact .ptd k off v hk h1
  | ep xs off b base f hI hc h h1 hq ih => exact .ep _ off b base f hI (fun j u hu => by obtain ⟨w, e1, rfl⟩ := dwks_at xs j u hu; exact hc j w e1) (fun j u hu => by obtain ⟨w, e1, rfl⟩ := dwks_at xs j u hu; exact ih j w e1) (fun j u hu => by obtain ⟨w, e1, rfl⟩ := dwks_at xs j u hu; exact h1 j w e1) (by rw [dwks_noL]; exact hq)
  | nfn => exact .nfn
  | yld o l cap hk => exact .yld o l cap hk
  | yldd o v hk h1 => exact .yldd o v hk h1
  | un v => exact .un v
theorem VRs.dwk {G : Gh} {us : List AV} {vs : List Value} (h : VRs G us vs) : VRs G (dwks us) vs :=
  ⟨by rw [dwks_len]; exact h.1, fun j u x hu hx => by obtain ⟨w, e1, rfl⟩ := dwks_at us j u hu; exact (h.2 j w x e1 hx).dwk⟩
theorem Contract.dwkA {P : Program} {f : FuncId} {args : List AV} {H : Hp} {n : Nat} {Post : AV → Hp → Nat → Prop} (h : Contract P f (dwks args) H n Post) : Contract P f args H n Post := fun G vs hg hM hV => h G vs hg hM hV.dwk
theorem Contract.dwkR {P : Program} {f : FuncId} {args : List AV} {H : Hp} {n : Nat} {Post : AV → Hp → Nat → Prop} (h : Contract P f args H n fun av H' n' => Post (AV.dwk av) H' n') : Contract P f args H n Post := fun G vs hg hM hV =>
  (h G vs hg hM hV).mono fun _ _ ⟨v, av, H', n', G', a1, a2, a3, a4, a5, a6⟩ => ⟨v, AV.dwk av, H', n', G', a1, a2, a3, a4, a5.dwk, by rw [dwk_noL]; exact a6⟩
theorem dwk_one {u : AV} : (dwk u).one = u.one := by cases u <;> rfl

/-! ### the relation -/
variable {K : Nat → Type}
/-- data, as it is handed over -/
def eV (C : Cx K) (t : Nat) (x : K t) : AV := match (C.T t).g with
  | true => .agg ((C.E t).c x)
  | false => ((C.E t).c x).headD .un
def dvA (C : Cx K) : DV K → AV
  | .v t x => eV C t x
  | _ => .un
def tresA : List AV → AV
  | [v] => v
  | vs => .tup vs
/-- a function value does as its relation says -/
def FOk (P : Program) (C : Cx K) (F : FV K) : Prop := F.av.noL = true ∧ dwk F.av = F.av ∧ F.av.one = true ∧
  ∃ (f : Nat) (a c : List AV), F.av = .fn (.func f) a c ∧ ∀ (e r : List (DV K)), F.W e r → Pure P f (a ++ e.map (dvA C) ++ c) (tresA (r.map (dvA C)))
def penc (C : Cx K) : PD → AD K → AV
  | .p t, .d (.v t' x) => if h : t' = t then .ep ((C.E t).c (h ▸ x)) 0 else .un
  | _, .d x => dvA C x
  | _, .f F => F.av
def pencs (C : Cx K) : List PD → List (AD K) → List AV
  | p :: ps, x :: xs => penc C p x :: pencs C ps xs
  | _, _ => []
/-- a function does as its relation says -/
def SpOk (P : Program) (C : Cx K) (sp : Sp K) : Prop := ∀ (env : List (AD K)) (r : List (DV K)), (∀ F, AD.f F ∈ env → FOk P C F) → sp.W env r → env.length = sp.ps.length ∧ Pure P sp.f (pencs C sp.ps env) (tresA (r.map (dvA C)))

/-- a place that may be told of -/
def okr (ts : TS K) (s c : Nat) : Prop := c = 1 ∨ (c = 2 ∧ memB ts.nw s = true)

section
variable (P : Program) (C : Cx K) (ts : TS K) (χ : Nat → Nat → Bool)
inductive TR : TV K → AV → Prop
  | un (v : AV) : TR .un v
  | lb (b : Bool) : TR (.lb b) (.bl b)
  | bl (b : Bool) : TR (.bl b) (.bl b)
  | li (k : IntKind) (n : Int) : TR (.li k n) (.it k n)
  | it (k : IntKind) (n : Int) : TR (.it k n) (.it k n)
  | st (s : Str) : TR (.st s) (.st s)
  | agg (us : List (TV K)) (vs : List AV) (hl : vs.length = us.length) (h : ∀ (j : Nat) (u : TV K) (v : AV), us[j]? = some u → vs[j]? = some v → TR u v) : TR (.agg us) (.agg vs)
  | tup (us : List (TV K)) (vs : List AV) (hl : vs.length = us.length) (h : ∀ (j : Nat) (u : TV K) (v : AV), us[j]? = some u → vs[j]? = some v → TR u v) : TR (.tup us) (.tup vs)
  | nil : TR .nil (.sl true 0 [])
  | em (z : Bool) : TR .em (.sl z 0 [])
  | sl (e : Nat) (l : List (K e)) (z : Bool) (n : Nat) (xs : List AV) (hn : n = l.length) (hx : dwks xs = cl (C.E e) l) : TR (.sl e l) (.sl z n xs)
  | rwd (s c : Nat) (v : AV) (hr : okr ts s c) (h : tln (ts.tb s c) = none) (h1 : v.one = true) : TR (.rw s c) v
  | rw (s c n : Nat) (hr : okr ts s c) (h : tln (ts.tb s c) = some n) (hx : χ s c = false) : TR (.rw s c) (.gs (.l s c) n)
  | rwn (s c : Nat) (hr : okr ts s c) (h : tln (ts.tb s c) = some 0) (hx : χ s c = true) : TR (.rw s c) (.sl true 0 [])
  | px (s c off : Nat) (hr : okr ts s c) : TR (.px s c off) (.pt (.l s c) off)
  | pr (e s c i of : Nat) (hr : okr ts s c) (hx : χ s c = false) : TR (.pr e s c i of) (.pt (.l s c) (i * (C.E e).sz + of))
  | ep (e : Nat) (l : List (K e)) (i of : Nat) (xs : List AV) (hx : dwks xs = cl (C.E e) l) : TR (.ep e l i of) (.ep xs (i * (C.E e).sz + of))
  | gs (l : List Str) (i : Nat) (xs : List AV) (hx : dwks xs = l.map .st) : TR (.gs l i) (.ep xs i)
  | nptr : TR .nptr .nptr
  | fn (f : Nat) (a c : List (TV K)) (a' c' : List AV) (ha : a'.length = a.length) (hc : c'.length = c.length) (h : ∀ (j : Nat) (u : TV K) (v : AV), a[j]? = some u → a'[j]? = some v → TR u v)
      (h' : ∀ (j : Nat) (u : TV K) (v : AV), c[j]? = some u → c'[j]? = some v → TR u v) : TR (.fn f a c) (.fn (.func f) a' c')
  | fv (ps rs : List Nat) (F : FV K) (v : AV) (h : FOk P C F) (hv : dwk v = F.av) : TR (.fv ps rs F) v
  | cn (id : Nat) (u : TV K) (v : AV) (h : lkR ts.rg id = some u) (hn : norefV u = true) (hv : TR u v) : TR (.cn id u) v
end

/-- what the types' cells are -/
structure CxOk (P : Program) (C : Cx K) : Prop where
  c : ∀ (t : Nat) (x : K t) ts χ, ((C.E t).c x).length = ((C.T t).c x).length ∧ ∀ (j : Nat) (u : TV K) (v : AV), ((C.T t).c x)[j]? = some u → ((C.E t).c x)[j]? = some v → TR P C ts χ u v
  rd : ∀ (t : Nat) (cs : List (TV K)) (x : K t) ts χ (vs : List AV), (C.T t).rd cs = some x → vs.length = cs.length → (∀ (j : Nat) (u : TV K) (v : AV), cs[j]? = some u → vs[j]? = some v → TR P C ts χ u v) → dwks vs = (C.E t).c x
  g : ∀ t, (C.T t).g = false → (C.E t).sz = 1
  dw : ∀ t (x : K t), dwks ((C.E t).c x) = (C.E t).c x
  tb : ∀ t f, (C.T t).tb = some f → ∀ x, ∃ n, (C.E t).c x = [.it .u8 n] ∧ f x = UInt8.ofNat n.toNat
  ob : ∀ t f, (C.T t).ob = some f → ∀ b : UInt8, (C.E t).c (f b) = [.it .u8 b.toNat]
  fl : ∀ t, (C.T t).fl = true → ∀ x, flats ((C.E t).c x) = true
  nr : ∀ t x, norefVs ((C.T t).c x) = true

section
variable {P : Program} {C : Cx K} {R : List (HO K) → Hp → Nat → Prop} {ts ts' : TS K} {χ χ' : Nat → Nat → Bool}
theorem TR.s {u : TV K} {v : AV} (h : TR P C ts χ u v) : TR P C ts χ u.s v := by
  cases h with
  | cn id u v h hn hv => exact hv
  | un v => exact .un v
  | lb b => exact .lb b
  | bl b => exact .bl b
  | li k n => exact .li k n
  | it k n => exact .it k n
  | st s => exact .st s
  | agg us vs hl h => exact .agg us vs hl h
  | tup us vs hl h => exact .tup us vs hl h
  | nil => exact .nil
  | em z => exact .em z
  | sl e l z n xs hn hx => exact .sl e l z n xs hn hx
  | rwd s c v hr h h1 => exact .rwd s c v hr h h1
  | rw s c n hr h hx => exact .rw s c n hr h hx
  | rwn s c hr h hx => exact .rwn s c hr h hx
  | px s c off hr => exact .px s c off hr
  | pr e s c i of hr hx => exact .pr e s c i of hr hx
  | ep e l i of xs hx => exact .ep e l i of xs hx
  | gs l i xs hx => exact .gs l i xs hx
  | nptr => exact .nptr
  | fn f a c a' c' ha hc h h' => exact .fn f a c a' c' ha hc h h'
  | fv ps rs F v h hv => exact .fv ps rs F v h hv
/-- what is told stays told -/
structure Mono (ts ts' : TS K) (χ χ' : Nat → Nat → Bool) : Prop where
  rg : ∀ id u, lkR ts.rg id = some u → lkR ts'.rg id = some u
  ok : ∀ s c, okr ts s c → okr ts' s c
  pl : ∀ s c, okr ts s c → (tln (ts'.tb s c) = none ∧ χ' s c = false) ∨ (tln (ts'.tb s c) = tln (ts.tb s c) ∧ χ' s c = χ s c)
theorem TR.mono (hm : Mono ts ts' χ χ') {u : TV K} {v : AV} (h : TR P C ts χ u v) : TR P C ts' χ' u v := by
  induction h with
  | cn id u v h hn _ ih => exact .cn id u v (hm.rg id u h) hn ih
  | un v => exact .un v
  | lb b => exact .lb b
  | bl b => exact .bl b
  | li k n => exact .li k n
  | it k n => exact .it k n
  | st s => exact .st s
  | agg us vs hl _ ih => exact .agg us vs hl ih
  | tup us vs hl _ ih => exact .tup us vs hl ih
  | nil => exact .nil
  | em z => exact .em z
  | sl e l z n xs hn hx => exact .sl e l z n xs hn hx
  | rwd s c v hr h ho =>
    refine .rwd s c v (hm.ok s c hr) ?_ ho
    rcases hm.pl s c hr with h1 | h1
    · exact h1.1
    · rw [h1.1]; exact h
  | rw s c n hr h hx =>
    rcases hm.pl s c hr with h1 | h1
    · exact .rwd s c _ (hm.ok s c hr) h1.1 rfl
    · exact .rw s c n (hm.ok s c hr) (by rw [h1.1]; exact h) (by rw [h1.2]; exact hx)
  | rwn s c hr h hx =>
    rcases hm.pl s c hr with h1 | h1
    · exact .rwd s c _ (hm.ok s c hr) h1.1 rfl
    · exact .rwn s c (hm.ok s c hr) (by rw [h1.1]; exact h) (by rw [h1.2]; exact hx)
  | px s c off hr => exact .px s c off (hm.ok s c hr)
  | pr e s c i of hr hx =>
    refine .pr e s c i of (hm.ok s c hr) ?_
    rcases hm.pl s c hr with h1 | h1
    · exact h1.2
    · rw [h1.2]; exact hx
  | ep e l i of xs hx => exact .ep e l i of xs hx
  | gs l i xs hx => exact .gs l i xs hx
  | nptr => exact .nptr
  | fn f a c a' c' ha hc _ _ ih ih' => exact .fn f a c a' c' ha hc ih ih'
  | fv ps rs F v h hv => exact .fv ps rs F v h hv
theorem Mono.refl : Mono ts ts χ χ := ⟨fun _ _ h => h, fun _ _ h => h, fun _ _ _ => .inr ⟨rfl, rfl⟩⟩
theorem Mono.put {d : Option Nat} {u : TV K} : Mono ts (ts.put d u) χ χ := by
  cases d with
  | none => exact .refl
  | some d => exact ⟨fun _ _ h => h, fun _ _ h => h, fun _ _ _ => .inr ⟨rfl, rfl⟩⟩
theorem Mono.trans {ts'' : TS K} {χ'' : Nat → Nat → Bool} (h : Mono ts ts' χ χ') (k : Mono ts' ts'' χ' χ'') (hv : ∀ s c, tln (ts'.tb s c) = none → χ' s c = false → tln (ts''.tb s c) = none ∧ χ'' s c = false) : Mono ts ts'' χ χ'' :=
  ⟨fun _ _ q => k.rg _ _ (h.rg _ _ q), fun _ _ q => k.ok _ _ (h.ok _ _ q), fun s c q => by
    rcases h.pl s c q with h1 | h1
    · exact .inl (hv s c h1.1 h1.2)
    · rcases k.pl s c (h.ok s c q) with h2 | h2
      · exact .inl h2
      · exact .inr ⟨h2.1.trans h1.1, h2.2.trans h1.2⟩⟩
/-- what leads to no place is so in every state -/
theorem TR.noref {u : TV K} {v : AV} (h : TR P C ts χ u v) : norefV u = true → TR P C ts' χ' u v ∧ v.noL = true := by
  have hL : ∀ {us : List (TV K)} {vs : List AV}, vs.length = us.length → norefVs us = true → (∀ (j : Nat) (u : TV K) (v : AV), us[j]? = some u → vs[j]? = some v → norefV u = true → TR P C ts' χ' u v ∧ v.noL = true) →
      (∀ (j : Nat) (u : TV K) (v : AV), us[j]? = some u → vs[j]? = some v → TR P C ts' χ' u v) ∧ noLs vs = true := by
    intro us
    induction us with
    | nil => intro vs hl _ _; exact ⟨fun j u v h => by simp at h, by cases vs with | nil => rfl | cons x r => simp at hl⟩
    | cons x r ih =>
      intro vs hl hn hh
      cases vs with
      | nil => simp at hl
      | cons y q =>
        simp only [norefVs, Bool.and_eq_true] at hn
        obtain ⟨a1, a2⟩ := ih (vs := q) (by simpa using hl) hn.2 (fun j u v h1 h2 => hh (j + 1) u v (by simpa using h1) (by simpa using h2))
        obtain ⟨b1, b2⟩ := hh 0 x y rfl rfl hn.1
        refine ⟨fun j u v h1 h2 => ?_, by simp [noLs, a2, b2]⟩
        cases j with
        | zero => simp at h1 h2; subst h1; subst h2; exact b1
        | succ j => exact a1 j u v (by simpa using h1) (by simpa using h2)
  induction h with
  | cn id u v h _ _ ih => intro hn; simp [norefV] at hn
  | un v => intro hn; simp [norefV] at hn
  | lb b => exact fun _ => ⟨.lb b, rfl⟩
  | bl b => exact fun _ => ⟨.bl b, rfl⟩
  | li k n => exact fun _ => ⟨.li k n, rfl⟩
  | it k n => exact fun _ => ⟨.it k n, rfl⟩
  | st s => exact fun _ => ⟨.st s, rfl⟩
  | agg us vs hl _ ih =>
    intro hn
    obtain ⟨a, b⟩ := hL hl (by simpa only [norefV] using hn) ih
    exact ⟨.agg us vs hl a, by simpa only [AV.noL] using b⟩
  | tup us vs hl _ ih =>
    intro hn
    obtain ⟨a, b⟩ := hL hl (by simpa only [norefV] using hn) ih
    exact ⟨.tup us vs hl a, by simpa only [AV.noL] using b⟩
  | nil => exact fun _ => ⟨.nil, rfl⟩
  | em z => exact fun _ => ⟨.em z, rfl⟩
  | sl e l z n xs hn hx => exact fun _ => ⟨.sl e l z n xs hn hx, rfl⟩
  | rwd s c v hr h h1 => intro hn; simp [norefV] at hn
  | rw s c n hr h hx => intro hn; simp [norefV] at hn
  | rwn s c hr h hx => intro hn; simp [norefV] at hn
  | px s c off hr => intro hn; simp [norefV] at hn
  | pr e s c i of hr hx => intro hn; simp [norefV] at hn
  | ep e l i of xs hx => exact fun _ => ⟨.ep e l i of xs hx, rfl⟩
  | gs l i xs hx => exact fun _ => ⟨.gs l i xs hx, rfl⟩
  | nptr => exact fun _ => ⟨.nptr, rfl⟩
  | fn f a c a' c' ha hc _ _ ih ih' =>
    intro hn
    simp only [norefV, Bool.and_eq_true] at hn
    obtain ⟨a1, a2⟩ := hL ha hn.1 ih
    obtain ⟨b1, b2⟩ := hL hc hn.2 ih'
    exact ⟨.fn f a c a' c' ha hc a1 b1, by simp [AV.noL, a2, b2]⟩
  | fv ps rs F v h hv => exact fun _ => ⟨.fv ps rs F v h hv, by rw [← dwk_noL, hv]; exact h.1⟩

variable (P C ts χ) in
def MR (b : TB K) (kb : KB) : Prop := match b with
  | .box e cs => kb.e = e ∧ kb.sz = cs.length ∧ kb.cells.length = cs.length ∧ ∀ (j : Nat) (u : TV K) (v : AV), cs[j]? = some u → kb.cells[j]? = some v → TR P C ts χ u v
  | .row e l => kb.e = e ∧ kb.sz = (C.E e).sz ∧ dwks kb.cells = cl (C.E e) l
  | .lrow e n cs => kb.e = e ∧ kb.sz = (C.E e).sz ∧ kb.cells.length = cs.length ∧ cs.length = n * (C.E e).sz ∧ ∀ (j : Nat) (u : TV K) (v : AV), cs[j]? = some u → kb.cells[j]? = some v → TR P C ts χ u v
theorem MR.mono (hm : Mono ts ts' χ χ') {b : TB K} {kb : KB} (h : MR P C ts χ b kb) : MR P C ts' χ' b kb := by
  cases b with
  | box e cs => exact ⟨h.1, h.2.1, h.2.2.1, fun j u v a b => (h.2.2.2 j u v a b).mono hm⟩
  | row e l => exact h
  | lrow e n cs => exact ⟨h.1, h.2.1, h.2.2.1, h.2.2.2.1, fun j u v a b => (h.2.2.2.2 j u v a b).mono hm⟩
variable (P C R ts χ) in
structure GM (ds : DS) : Prop where
  fr : ∀ t, TR P C ts χ (lkT ts.fr t) (lkF ds.fr t)
  mb : ∀ s c b, ts.tb s c = some b → χ s c = false → ∃ kb, ds.kb s c = some kb ∧ MR P C ts χ b kb
  vi : ∀ s c, χ s c = true → ∃ e, ts.tb s c = some (.row e [])
  nw : ∀ s, memB ts.nw s = false → memO ds.nw s = false
  hp : R ts.h ds.H ds.nx
theorem lkT_put (fr : List (Nat × TV K)) (d t : Nat) (u : TV K) : lkT ((d, u) :: fr) t = if d = t then u else lkT fr t := by
  show (match Nat.beq d t with | true => u | false => lkT fr t) = _
  cases h : Nat.beq d t with
  | true => simp [nbeq.1 h]
  | false => simp only; rw [if_neg (fun e => by rw [nbeq.2 e] at h; cases h)]
theorem GM.put {ds : DS} (h : GM P C R ts χ ds) {d : Option Nat} {u : TV K} {v : AV} (hv : TR P C ts χ u v) : GM P C R (ts.put d u) χ (ds.put d v) := by
  cases d with
  | none => exact h
  | some d =>
    refine ⟨fun t => TR.mono Mono.put ?_, fun s c b hb hx => ?_, h.vi, h.nw, h.hp⟩
    · show TR P C ts χ (lkT ((d, u) :: ts.fr) t) (lkF ((d, v) :: ds.fr) t)
      rw [lkT_put, lkF_cons]
      simp only
      split
      · exact hv
      · exact h.fr t
    · obtain ⟨kb, h1, h2⟩ := h.mb s c b hb hx
      exact ⟨kb, by rw [← h1]; rfl, h2.mono Mono.put⟩
theorem strsA_eq : ∀ {cs : List AV} {l : List Str}, strsA cs = some l → cs = l.map .st := by
  intro cs
  induction cs with
  | nil => intro l h; simp [strsA] at h; subst h; rfl
  | cons x cs ih =>
    intro l h
    cases x with
    | st s =>
      simp only [strsA] at h
      cases h' : strsA cs with
      | none => rw [h'] at h; simp at h
      | some m => rw [h'] at h; simp at h; subst h; rw [ih h']; rfl
    | _ => simp [strsA] at h
theorem dwks_st (l : List Str) : dwks (l.map AV.st) = l.map AV.st := by
  induction l with
  | nil => rfl
  | cons s l ih => simp only [List.map_cons, dwks, ih]; rfl
mutual
theorem cvA_ok : ∀ (v : AV), TR P C ts χ (cvA v) v
  | .bl b => .lb b
  | .it k n => .li k n
  | .st s => .st s
  | .agg cs => by rw [cvA]; exact .agg _ _ (cvAs_ok cs).1 (cvAs_ok cs).2
  | .tup cs => by rw [cvA]; exact .tup _ _ (cvAs_ok cs).1 (cvAs_ok cs).2
  | .sl true 0 [] => .nil
  | .sl true (n + 1) xs => .un _
  | .sl true 0 (x :: xs) => .un _
  | .sl false n xs => .un _
  | .nptr => .nptr
  | .fn (.func f) [] [] => .fn f [] [] [] [] rfl rfl (fun j u v h => by simp at h) (fun j u v h => by simp at h)
  | .fn (.func f) (a :: r) c => .un _
  | .fn (.func f) [] (a :: r) => .un _
  | .fn (.method n) a c => .un _
  | .fn (.methodOf t n) a c => .un _
  | .fn (.via t a b p) _ _ => .un _
  | .fn (.yield l) a c => .un _
  | .gs k n => .un _
  | .pt k n => .un _
  | .ep xs off => by
    rw [cvA]
    cases h : strsA xs with
    | none => exact .un _
    | some l => exact .gs l off xs (by rw [strsA_eq h]; exact dwks_st l)
  | .nfn => .un _
  | .un => .un _
  | .yld o => .un _
  | .rcd a b c d => .un _
theorem cvAs_ok : ∀ (l : List AV), l.length = (cvAs (K := K) l).length ∧ ∀ (j : Nat) (u : TV K) (v : AV), (cvAs l)[j]? = some u → l[j]? = some v → TR P C ts χ u v
  | [] => ⟨rfl, fun j u v h => by simp [cvAs] at h⟩
  | x :: l => by
    obtain ⟨a, b⟩ := cvAs_ok l
    refine ⟨by simp [cvAs, ← a], fun j u v h1 h2 => ?_⟩
    cases j with
    | zero => simp [cvAs] at h1 h2; subst h1; subst h2; exact cvA_ok x
    | succ j => exact b j u v (by simpa [cvAs] using h1) (by simpa using h2)
end
theorem GM.tea {ds : DS} (h : GM P C R ts χ ds) (x : AOpd) : TR P C ts χ (Go.AV.tea ts.fr x) (ev (lkF ds.fr) x) := by
  cases x with
  | t n => exact h.fr n
  | c v => exact cvA_ok v
theorem GM.tev {ds : DS} (h : GM P C R ts χ ds) (x : AOpd) : TR P C ts χ (Go.AV.tev ts.fr x) (ev (lkF ds.fr) x) := (h.tea x).s
/-! inversions -/
theorem TR.int {u : TV K} {v : AV} {k : IntKind} {n : Int} (h : TR P C ts χ u v) (e : tint u = some (k, n)) : v = .it k n := by
  cases h <;> first | (simp [tint] at e; obtain ⟨rfl, rfl⟩ := e; rfl) | (simp [tint] at e; done)
theorem TR.bool {u : TV K} {v : AV} {b : Bool} (h : TR P C ts χ u v) (e : tbo u = some b) : v = .bl b := by
  cases h <;> first | (simp [tbo] at e; subst e; rfl) | (simp [tbo] at e; done)
end
end Go.AV

