/-
  What comes in, read as data, is told by abstract values of its type; a law's statement out of its contract.
-/
import Derived.Test.YteoohihaibgplaaDoorAvG
import Derived.WalkKit
import Derived.ProofKit
import Derived.OpenShut
import Derived.ShutString
import Derived.ChangeOld
import Derived.ChangeSlices
import Derived.Below
import Derived.WideShapes
namespace Go.AV
open Go.RowKit Go.RG Go.Lib Go.WideShapes Go.ChangeShapes

/-- types of plain data, that lie cell by cell -/
def coverF (P : Program) (pl : TypeId → Bool) : List Field → Nat → Option Nat
  | [], o => some o
  | f :: r, o => if f.offset = o ∧ pl f.type = true then coverF P pl r (o + P.cellsOf f.type) else none
def plainT (P : Program) : Nat → TypeId → Bool
  | 0, _ => false
  | k + 1, t => match P.underlying t with
    | some .bool => P.cellsOf t == 1
    | some (.int _) => P.cellsOf t == 1
    | some .string => P.cellsOf t == 1
    | some (.slice e) => P.cellsOf t == 1 && plainT P k e && decide (0 < P.cellsOf e)
    | some (.struct fs) => coverF P (plainT P k) fs.toList 0 == some (P.cellsOf t)
    | _ => false

mutual
inductive Typed (P : Program) : TypeId → List AV → Prop
  | bl (t : TypeId) (b : Bool) (h : P.underlying t = some .bool) : Typed P t [.bl b]
  | it (t : TypeId) (k : IntKind) (n : Int) (h : P.underlying t = some (.int k)) (hw : (Lit.int k n).wf = true) : Typed P t [.it k n]
  | st (t : TypeId) (l : List UInt8) (h : P.underlying t = some .string) (hw : l.length ≤ maxLen) : Typed P t [.st l]
  | sl (t e : TypeId) (h : P.underlying t = some (.slice e)) (rows : List (List AV)) (hr : ∀ r ∈ rows, Typed P e r) (hm : rows.length ≤ maxLen) : Typed P t [.sl false rows.length rows.flatten]
  | stc (t : TypeId) (fs : Array Field) (h : P.underlying t = some (.struct fs)) (us : List AV) (hf : TypedF P fs.toList us) : Typed P t us
inductive TypedF (P : Program) : List Field → List AV → Prop
  | nil : TypedF P [] []
  | cons (f : Field) (r : List Field) (p q : List AV) (hp : Typed P f.type p) (hq : TypedF P r q) : TypedF P (f :: r) (p ++ q)
end

theorem list_choose {α : Type} {Q : Nat → α → Prop} : ∀ (n : Nat), (∀ i, i < n → ∃ x, Q i x) → ∃ l : List α, l.length = n ∧ ∀ (i : Nat) (x : α), l[i]? = some x → Q i x
  | 0, _ => ⟨[], rfl, fun i x h => by simp at h⟩
  | n + 1, h => by
    obtain ⟨l, h1, h2⟩ := list_choose n fun i hi => h i (by omega)
    obtain ⟨x, hx⟩ := h n (by omega)
    refine ⟨l ++ [x], by simp [h1], fun i y hy => ?_⟩
    by_cases hi : i < l.length
    · rw [List.getElem?_append_left hi] at hy; exact h2 i y hy
    · rw [List.getElem?_append_right (by omega)] at hy
      have : i - l.length = 0 := by
        have := (List.getElem?_eq_some_iff.1 hy).1
        simp at this; omega
      rw [this] at hy
      simp at hy; subst hy
      have : i = n := by omega
      rw [this]; exact hx

theorem flatten_get {sz : Nat} (h0 : 0 < sz) : ∀ (rows : List (List AV)), (∀ r ∈ rows, r.length = sz) → ∀ (j : Nat) (u : AV), rows.flatten[j]? = some u → ∃ r, rows[j / sz]? = some r ∧ r[j % sz]? = some u
  | [], _, j, u, h => by simp at h
  | r :: rows, hr, j, u, h => by
    have hl : r.length = sz := hr r (by simp)
    rw [List.flatten_cons] at h
    by_cases hj : j < sz
    · rw [List.getElem?_append_left (by omega)] at h
      rw [Nat.div_eq_of_lt hj, Nat.mod_eq_of_lt hj]
      exact ⟨r, rfl, h⟩
    · rw [List.getElem?_append_right (by omega), hl] at h
      obtain ⟨q, h1, h2⟩ := flatten_get h0 rows (fun r hq => hr r (by simp [hq])) (j - sz) u h
      have e1 : j / sz = (j - sz) / sz + 1 := Nat.div_eq_sub_div h0 (by omega)
      have e2 : j % sz = (j - sz) % sz := (Nat.mod_eq_sub_mod (by omega))
      rw [e1, e2]
      exact ⟨q, by simpa using h1, h2⟩

section
variable {H : Type} {enc : TypeId × Value → H} {P : Program} {G : Gh} {base : Nat} {held : Bool}

/-- cells that are told -/
def TC (G : Gh) (us : List AV) (cs : List Value) : Prop := us.length = cs.length ∧ (∀ (j : Nat) (u : AV) (x : Value), us[j]? = some u → cs[j]? = some x → VR G u x) ∧ noLs us = true ∧ ∀ u ∈ us, u.one = true
theorem TC.one1 {u : AV} {x : Value} (h : VR G u x) (hn : u.noL = true) (ho : u.one = true) : TC G [u] [x] := by
  refine ⟨rfl, fun j u' x' hu hx => ?_, by simp [noLs, hn], by simp [ho]⟩
  cases j with
  | zero => simp at hu hx; subst hu; subst hx; exact h
  | succ j => simp at hu
theorem TC.append {us vs : List AV} {cs ds : List Value} (h : TC G us cs) (k : TC G vs ds) : TC G (us ++ vs) (cs ++ ds) := by
  refine ⟨by simp [h.1, k.1], fun j u x hu hx => ?_, by rw [noLs_append, h.2.2.1, k.2.2.1]; rfl, fun u hu => ?_⟩
  · by_cases hj : j < us.length
    · rw [List.getElem?_append_left hj] at hu
      rw [List.getElem?_append_left (by rw [← h.1]; exact hj)] at hx
      exact h.2.1 j u x hu hx
    · rw [List.getElem?_append_right (by omega)] at hu
      rw [List.getElem?_append_right (by rw [← h.1]; omega)] at hx
      rw [← h.1] at hx
      exact k.2.1 _ u x hu hx
  · rcases List.mem_append.1 hu with q | q
    · exact h.2.2.2 u q
    · exact k.2.2.2 u q

theorem trod_av (hI : ∀ b, b < G.w.heap.size → G.I b) : ∀ (fuel k : Nat) (t : TypeId) (cs : List Value) (x : DataW H × List MemPlace), plainT P k t = true → DataW.trod enc P G.w base (fun _ => true) held fuel t cs = some x → cs.length = P.cellsOf t → ∃ us, TC G us cs ∧ Typed P t us := by
  intro fuel
  induction fuel with
  | zero => intro k t cs x _ h; simp [DataW.trod] at h
  | succ fuel ih =>
    intro k t cs x hp h hlen
    cases k with
    | zero => cases hp
    | succ k =>
      simp only [plainT] at hp
      split at hp
      · rename_i ht
        obtain ⟨b, rfl, _⟩ := DataW.trod_bool ht h
        exact ⟨_, TC.one1 (.bl b) rfl rfl, .bl t b ht⟩
      · rename_i kk ht
        obtain ⟨n, rfl, _, hw⟩ := DataW.trod_int ht h
        exact ⟨_, TC.one1 (.it kk n) rfl rfl, .it t kk n ht hw⟩
      · rename_i ht
        obtain ⟨s, rfl, _, hw⟩ := DataW.trod_string ht h
        exact ⟨_, TC.one1 (.st _ s rfl) rfl rfl, .st t _ ht (by simpa using hw)⟩
      · rename_i e ht
        simp only [Bool.and_eq_true, decide_eq_true_eq] at hp
        obtain ⟨⟨hp1, hp2⟩, hp3⟩ := hp
        rcases DataW.trod_slice ht h with ⟨rfl, _⟩ | ⟨a, len, cap, elems, rest, n, hfu, rfl, _, hb, hl, hm, hel, hg, hsp, _⟩
        · exact ⟨_, TC.one1 (.nsl false 0 [] rfl rfl) rfl rfl, .sl t e ht [] (fun r hr => by cases hr) (by simp)⟩
        · cases hfu
          by_cases hl0 : len = 0
          · subst hl0
            exact ⟨_, TC.one1 (.esl 0 [] rfl rfl a cap) rfl rfl, .sl t e ht [] (fun r hr => by cases hr) (by simp)⟩
          · have hone : ∀ i, i < len → ∃ us : List AV, Typed P e us ∧ ∃ csi, G.w.cells? base (a.add (i * P.cellsOf e)) (P.cellsOf e) = some csi ∧ csi.length = P.cellsOf e ∧ TC G us csi := by
              intro i hi
              have h1 := hg i hi
              rw [List.getElem?_eq_getElem (by rw [hel]; exact hi)] at h1
              obtain ⟨csi, h2, h3⟩ := Option.bind_eq_some_iff.1 h1
              have hcl : csi.length = P.cellsOf e := (World.cells?_some h2).2.1
              obtain ⟨us, u1, u2⟩ := ih k e csi _ hp2 h3 hcl
              exact ⟨us, u2, csi, h2, hcl, u1⟩
            obtain ⟨rows, r1, r2⟩ := list_choose len hone
            have hrl : ∀ r ∈ rows, r.length = P.cellsOf e := by
              intro r hr
              obtain ⟨i, hi⟩ := List.getElem?_of_mem hr
              obtain ⟨_, csi, _, q2, q3⟩ := r2 i r hi
              rw [q3.1, q2]
            have hcell : ∀ (j : Nat) (u : AV), rows.flatten[j]? = some u → ∃ y, G.w.cell? (a.add j) = some y ∧ VR G u y ∧ u.one = true ∧ u.noL = true := by
              intro j u hu
              obtain ⟨r, q1, q2⟩ := flatten_get hp3 rows hrl j u hu
              obtain ⟨_, csi, s1, s2, s3⟩ := r2 _ r q1
              have hq : j % P.cellsOf e < P.cellsOf e := Nat.mod_lt _ hp3
              have hcs := (World.cells?_some s1).2.2 (j % P.cellsOf e) hq
              have e1 : (a.add (j / P.cellsOf e * P.cellsOf e)).add (j % P.cellsOf e) = a.add j := by
                rw [Addr.add_add]
                congr 1
                rw [Nat.mul_comm]; exact Nat.div_add_mod j _
              rw [e1] at hcs
              have hx : csi[j % P.cellsOf e]? = some csi[j % P.cellsOf e] := List.getElem?_eq_getElem (by rw [s2]; exact hq)
              refine ⟨csi[j % P.cellsOf e], ?_, s3.2.1 _ u _ q2 hx, s3.2.2.2 u (List.mem_of_getElem? q2), noLs_at s3.2.2.1 _ u q2⟩
              rw [hcs, hx]
            have hne : 0 < rows.flatten.length := by
              match rows, r1, hrl with
              | r :: rows, _, hrl =>
                rw [List.flatten_cons, List.length_append, hrl r (by simp)]; omega
              | [], r1, _ => simp at r1; omega
            obtain ⟨y0, c0, _⟩ := hcell 0 _ (List.getElem?_eq_getElem hne)
            have ha0 : a.add 0 = a := by cases a; simp [Addr.add]
            rw [ha0] at c0
            obtain ⟨ab, ao, asp⟩ := a
            have hspot : asp = none := by
              cases asp with
              | none => rfl
              | some q =>
                unfold World.cell? at c0
                split at c0
                · simp at c0
                · cases c0
            subst hspot
            have hblk : ab < G.w.heap.size := World.block_lt_of_cell? G.w _ c0
            have hxs : ∀ (j : Nat) (u : AV), rows.flatten[j]? = some u → ∃ y, G.w.cell? ⟨ab, ao + j, none⟩ = some y ∧ VR G u y ∧ u.one = true ∧ u.noL = true := by
              intro j u hu
              have := hcell j u hu
              rwa [Addr.add_lit] at this
            have hno : noLs rows.flatten = true := noLs_mem.2 fun u hu => by
              obtain ⟨j, hj⟩ := List.getElem?_of_mem hu
              obtain ⟨y, _, _, _, q⟩ := hxs j u hj
              exact q
            have hty : Typed P t [.sl false rows.length rows.flatten] := .sl t e ht rows (fun r hr => by
              obtain ⟨i, hi⟩ := List.getElem?_of_mem hr
              exact (r2 i r hi).1) (by rw [r1]; omega)
            rw [r1] at hty
            refine ⟨[.sl false len rows.flatten], TC.one1 (.sl len rows.flatten ab ao cap (fun j => (G.w.cell? ⟨ab, ao + j, none⟩).getD undef) (hI ab hblk) ?_ ?_ ?_ hl (by omega) hno) rfl rfl, hty⟩
            · intro j u hu
              obtain ⟨y, q1, _⟩ := hxs j u hu
              rw [q1]; rfl
            · intro j u hu
              obtain ⟨y, q1, q2, _⟩ := hxs j u hu
              simp only [q1, Option.getD_some]; exact q2
            · intro j u hu
              obtain ⟨y, q1, q2, q3, _⟩ := hxs j u hu
              simp only [q1, Option.getD_some]; exact q2.one q3
      · rename_i fs ht
        obtain ⟨xs, n, hfu, _, hcl, hxl, hf⟩ := DataW.trod_struct ht h
        cases hfu
        have key : ∀ (l : List Field) (i o : Nat) (tot : Nat), fs.toList.drop i = l → coverF P (plainT P k) l o = some tot → o ≤ cs.length → tot = cs.length → ∃ us, TC G us (cs.drop o) ∧ TypedF P l us := by
          intro l
          induction l with
          | nil =>
            intro i o tot _ hc ho htot
            simp only [coverF, Option.some.injEq] at hc
            subst hc
            rw [List.drop_eq_nil_of_le (by omega)]
            exact ⟨[], ⟨rfl, fun j u x hu => by simp at hu, rfl, fun u hu => by cases hu⟩, .nil⟩
          | cons f l ihl =>
            intro i o tot hd hc ho htot
            simp only [coverF] at hc
            split at hc
            · rename_i hcnd
              have hfi : fs[i]? = some f := by
                have : fs.toList[i]? = some f := by
                  have := congrArg (·[0]?) hd
                  simpa using this
                simpa using this
              have hi : i < fs.size := (Array.getElem?_eq_some_iff.1 hfi).1
              have h1 := hf i f hfi
              rw [List.getElem?_eq_getElem (by rw [hxl]; exact hi), hcnd.1] at h1
              have hmono : ∀ (l : List Field) (o tot : Nat), coverF P (plainT P k) l o = some tot → o ≤ tot := by
                intro l
                induction l with
                | nil => intro o tot h; simp only [coverF, Option.some.injEq] at h; omega
                | cons g l ihm =>
                  intro o tot h
                  simp only [coverF] at h
                  split at h
                  · have := ihm _ _ h; omega
                  · cases h
              have hle := hmono _ _ _ hc
              obtain ⟨us, u1, u2⟩ := ih k f.type _ _ hcnd.2 h1 (by simp; omega)
              obtain ⟨vs, v1, v2⟩ := ihl (i + 1) _ tot (by rw [← List.drop_drop, hd]; rfl) hc (by omega) htot
              refine ⟨us ++ vs, ?_, .cons f l us vs u2 v2⟩
              have := u1.append v1
              rw [← List.drop_drop, List.take_append_drop] at this
              exact this
            · cases hc
        obtain ⟨us, u1, u2⟩ := key fs.toList 0 0 _ rfl (by simpa using hp) (Nat.zero_le _) hlen.symm
        exact ⟨us, by simpa using u1, .stc t fs ht us u2⟩
      · cases hp

/-- the ghost of a world in which nothing has been laid yet -/
def G0 (w : World) : Gh := ⟨fun _ => none, deadOf (hSt (fun _ => none) 0), fun b => b < w.heap.size, w⟩
theorem MRel0 (w : World) : MRel (gBase (G0 w) 0) (hSt (fun _ => none) 0) (G0 w) := by
  refine { blk := ?_, inj := fun k k' r r' h => (by cases h), dead := fun k => Iff.rfl, live := ?_, apart := fun k r h => (by cases h), lt := fun b h => h, loc := fun d c r h => (by cases h), keep := fun k r h => (by cases h), heap := fun o r h => (by cases h), nx := Nat.le_refl _, gone := fun o _ h => h, I0 := fun b h => h, I1 := fun b h => .inl h, os := rfl, tape := rfl, output := rfl, size := Nat.le_refl _, same := fun b _ _ => rfl, hno := ?_ }
  · intro k; cases k <;> trivial
  · intro k b h; cases k <;> cases h
  · intro k b h; cases k <;> cases h

/-- a program without such variables -/
theorem GOK.none {P : Program} {w : World} {I : Nat → Prop} (h : gTabs.all (fun p => (P.globalNamed p.1).isNone) = true) (h' : P.globalNamed "internal/bytealg.MaxLen" = .none) (h2 : gErrs.all (fun n => (P.globalNamed n).isNone) = true := by kernel_rfl) : GOK P w I :=
  ⟨fun name avs hm g hg => (by have := List.all_eq_true.1 h _ hm; rw [hg] at this; cases this), fun g hg => (by rw [h'] at hg; cases hg), fun name hm g hg => (by have := List.all_eq_true.1 h2 _ hm; rw [hg] at this; cases this)⟩
/-- what a law's run is, out of its contract -/
theorem run_of_pure {f : FuncId} {args : List AV} {vs : Array Value} {w : World} (hg : GOK P w fun b => b < w.heap.size) (hp : Pure P f args (.bl true)) (hV : VRs (G0 w) args vs.toList) : CallW P f vs w fun e w' => e = .returned (.bool true) ∧ Below w.heap.size w w' := by
  refine (hp (fun _ => none) 0 (G0 w) vs hg (MRel0 w) hV).mono ?_
  rintro e w' ⟨v, av, H', n', G', rfl, ⟨rfl, rfl, rfl⟩, hM, rfl, hv, _⟩
  exact ⟨by rw [hv.bl_inv], hM.os, hM.tape, hM.output, hM.size, fun k hk => hM.same k hk (fun k' r hr => by cases hr)⟩
end
/-- what comes in of a type is one of these data -/
def ToldT (P : Program) (t : TypeId) {T : Type} (c : T → List AV) (R : T → Prop) : Prop := ∀ us, Typed P t us → ∃ v : T, us = c v ∧ R v
theorem told_str {P : Program} {t : TypeId} (ht : P.underlying t = some .string) : ToldT P t eS.c (fun s => s.length ≤ maxLen) := by
  intro us h
  cases h with
  | bl _ b h => rw [ht] at h; cases h
  | it _ k n h => rw [ht] at h; cases h
  | st _ l h hw => exact ⟨l, rfl, hw⟩
  | sl _ e h => rw [ht] at h; cases h
  | stc _ fs h => rw [ht] at h; cases h
theorem Typed.fields {P : Program} {t : TypeId} {fs : Array Field} (ht : P.underlying t = some (.struct fs)) {us : List AV} (h : Typed P t us) : TypedF P fs.toList us := by
  cases h with
  | bl _ b h => rw [ht] at h; cases h
  | it _ k n h => rw [ht] at h; cases h
  | st _ l h => rw [ht] at h; cases h
  | sl _ e h => rw [ht] at h; cases h
  | stc _ fs h us hf => rw [ht] at h; cases h; exact hf
theorem TypedF.first {P : Program} {f : Field} {r : List Field} {us : List AV} (h : TypedF P (f :: r) us) {T : Type} {c : T → List AV} {R : T → Prop} (hc : ToldT P f.type c R) : ∃ v q, us = c v ++ q ∧ R v ∧ TypedF P r q := by
  cases h with
  | cons _ _ p q hp hq =>
    obtain ⟨v, rfl, h2⟩ := hc _ hp
    exact ⟨v, q, rfl, h2, hq⟩
theorem TypedF.last {P : Program} {us : List AV} (h : TypedF P [] us) : us = [] := by
  cases h; rfl

section
variable {H : Type} {enc : TypeId × Value → H} {P : Program} {w : World} {r : Reach} {v : Value} {d : DataW H} {p : List MemPlace} {held : Bool}
def cellT (P : Program) (t : TypeId) : Bool := match P.underlying t with
  | some .bool => true
  | some (.int _) => true
  | some .string => true
  | some (.slice _) => true
  | _ => false
/-- an argument that is a cell -/
theorem told_cell {t : TypeId} (k : Nat) (hp : plainT P k t = true) (hc : cellT P t = true) {T : Type} {av : T → AV} {R : T → Prop} (ht : ToldT P t (fun x => [av x]) R) {b0 : Nat} (ok : Value.okWide P w r b0 t v) (h : DataW.Trod enc P w 0 (fun _ => true) held t v d p) : ∃ x, VR (G0 w) (av x) v ∧ R x := by
  obtain ⟨fuel, h⟩ := h
  have h1 : v.cells.toList = [v] ∧ P.cellsOf t = 1 := by
    cases k with
    | zero => cases hp
    | succ k =>
      unfold cellT at hc
      unfold plainT at hp
      revert hc
      revert hp
      cases hu : P.underlying t with
      | none => intro _ hc; cases hc
      | some u =>
        cases u with
        | bool => intro hp _; obtain ⟨b, rfl⟩ := okWide_bool hu ok; exact ⟨rfl, by simpa using hp⟩
        | int k => intro hp _; obtain ⟨n, rfl⟩ := okWide_int hu ok; exact ⟨rfl, by simpa using hp⟩
        | string => intro hp _; obtain ⟨b, rfl⟩ := okWide_string hu ok; exact ⟨rfl, by simpa using hp⟩
        | slice e => intro hp _; obtain ⟨a, len, cap, rfl⟩ := okWide_slice hu ok; exact ⟨rfl, by simp at hp; exact hp.1.1⟩
        | _ => intro _ hc; cases hc
  rw [h1.1] at h
  obtain ⟨us, q1, q2⟩ := trod_av (G := G0 w) (fun b hb => hb) fuel k t [v] _ hp h (by simp [h1.2])
  obtain ⟨x, rfl, hR⟩ := ht us q2
  exact ⟨x, q1.2.1 0 _ _ rfl rfl, hR⟩
theorem VRs.nil (G : Gh) : VRs G [] [] := ⟨rfl, fun j u x h => by simp at h⟩
theorem calls_of_callW {f : FuncId} {F : AFn} (hF : trF P f = some F) {vs : Array Value} {Q : Ending → World → Prop} (h : CallW P f vs w Q) : Calls P f vs w Q := by
  unfold CallW at h
  rw [enters_of hF vs w] at h
  exact h
end
end Go.AV

