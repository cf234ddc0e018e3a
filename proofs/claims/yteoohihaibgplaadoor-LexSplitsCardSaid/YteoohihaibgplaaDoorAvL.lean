/-
  Code from a state as data on: triples over what the machine does; operations that are evaluated by the kernel.
-/
import Derived.Test.YteoohihaibgplaaDoorAvK
import Derived.KernelRfl
namespace Go.AV
open Go.RowKit Go.RG Go.Lib
theorem noLs_append (a b : List AV) : noLs (a ++ b) = (noLs a && noLs b) := by
  induction a with
  | nil => simp [noLs]
  | cons x a ih => simp [noLs, ih, Bool.and_assoc]

/-! ### cutting a state -/
mutual
def okV (live : Nat → Bool) : AV → Bool
  | .agg cs => okVs live cs
  | .tup vs => okVs live vs
  | .fn _ a c => okVs live a && okVs live c
  | .gs (.l d c) _ => Nat.beq c 1 && live d
  | .pt (.l d c) _ => Nat.beq c 1 && live d
  | _ => true
def okVs (live : Nat → Bool) : List AV → Bool
  | [] => true
  | u :: r => okV live u && okVs live r
end
def scrub (live : Nat → Bool) (u : AV) : AV := match okV live u with
  | true => u
  | false => .un
def scrubB (live : Nat → Bool) (b : KB) : KB := match b.q with
  | true => b
  | false => ⟨b.e, b.sz, b.cells.map (scrub live), noLs (b.cells.map (scrub live))⟩
def hasM (m : List (Nat × KB)) (d : Nat) : Bool := (lkM m d).isSome
def KS.put (ks : KS) (d : Option Nat) (v : AV) : KS := match d with
  | some d => ⟨(d, v) :: ks.fr, ks.mem, ks.H, ks.nx⟩
  | none => ks
def memN (l : List Nat) (t : Nat) : Bool := match l with
  | [] => false
  | x :: r => Nat.beq x t || memN r t
def pickF (live : Nat → Bool) (fr : List (Nat × AV)) : List Nat → List (Nat × AV)
  | [] => []
  | t :: r => (t, scrub live (lkF fr t)) :: pickF live fr r
def pickM (live : Nat → Bool) (m : List (Nat × KB)) : List Nat → List (Nat × KB)
  | [] => []
  | d :: r => match lkM m d with
    | some b => (d, scrubB live b) :: pickM live m r
    | none => pickM live m r
/-- some slots and places alone -/
def KS.keep (ks : KS) (ts ds : List Nat) : KS := let live := fun s => memN ds s && hasM ks.mem s; ⟨pickF live ks.fr ts, pickM live ks.mem ds, ks.H, ks.nx⟩

mutual
theorem RV.same {ρ : Nat → Option (Nat × Nat)} {S : St} {p : Nat × Nat → Prop} {live : Nat → Bool} (hρ : ∀ d, live d = true → ρ d = some (d, 1)) : ∀ (u : AV), okV live u = true → RV ρ S p u u
  | .agg cs, h => .agg cs cs rfl fun j u v hu hv => by rw [hu] at hv; cases hv; exact RVs.same hρ cs (by simpa only [okV] using h) j u hu
  | .tup cs, h => .tup cs cs rfl fun j u v hu hv => by rw [hu] at hv; cases hv; exact RVs.same hρ cs (by simpa only [okV] using h) j u hu
  | .fn f a c, h => by
    simp only [okV, Bool.and_eq_true] at h
    exact .fn f a a c c rfl (fun j u v hu hv => by rw [hu] at hv; cases hv; exact RVs.same hρ a h.1 j u hu) rfl (fun j u v hu hv => by rw [hu] at hv; cases hv; exact RVs.same hρ c h.2 j u hu)
  | .gs (.l d c) n, h => by
    simp only [okV, Bool.and_eq_true] at h
    rw [nbeq.1 h.1]
    exact .gs d n (d, 1) (hρ d h.2)
  | .pt (.l d c) n, h => by
    simp only [okV, Bool.and_eq_true] at h
    rw [nbeq.1 h.1]
    exact .pt d n (d, 1) (hρ d h.2)
  | .gs (.h o) n, _ => .no _ rfl
  | .pt (.h o) n, _ => .no _ rfl
  | .bl b, _ => .no _ rfl
  | .it k n, _ => .no _ rfl
  | .st s, _ => .no _ rfl
  | .sl z n xs, _ => .no _ rfl
  | .nptr, _ => .no _ rfl
  | .ep xs off, _ => .no _ rfl
  | .nfn, _ => .no _ rfl
  | .un, _ => .no _ rfl
  | .yld o, _ => .no _ rfl
  | .rcd a b c d, _ => .no _ rfl
theorem RVs.same {ρ : Nat → Option (Nat × Nat)} {S : St} {p : Nat × Nat → Prop} {live : Nat → Bool} (hρ : ∀ d, live d = true → ρ d = some (d, 1)) : ∀ (l : List AV), okVs live l = true → ∀ (j : Nat) (u : AV), l[j]? = some u → RV ρ S p u u
  | [], _, j, u, hu => by simp at hu
  | x :: l, h, j, u, hu => by
    simp only [okVs, Bool.and_eq_true] at h
    cases j with
    | zero => simp at hu; subst hu; exact RV.same hρ x h.1
    | succ j => exact RVs.same hρ l h.2 j u (by simpa using hu)
end

section
variable {ρ : Nat → Option (Nat × Nat)} {S : St} {p : Nat × Nat → Prop} {live : Nat → Bool}
theorem RV.scrub (hρ : ∀ d, live d = true → ρ d = some (d, 1)) (u : AV) : RV ρ S p (scrub live u) u := by
  unfold AV.scrub
  split
  · rename_i h; exact RV.same hρ u h
  · exact .un u
theorem RVL.scrub (hρ : ∀ d, live d = true → ρ d = some (d, 1)) (l : List AV) : RVL ρ S p (l.map (scrub live)) l := by
  refine ⟨by simp, fun j u v hu hv => ?_⟩
  rw [List.getElem?_map, hv] at hu
  simp only [Option.map_some, Option.some.injEq] at hu
  rw [← hu]; exact RV.scrub hρ v
theorem RVL.no {l : List AV} (h : noLs l = true) : RVL ρ S p l l := ⟨rfl, fun j u v hu hv => by rw [hu] at hv; cases hv; exact .no u (noLs_at h j u hu)⟩
theorem RVL.scrubB (hρ : ∀ d, live d = true → ρ d = some (d, 1)) {b : KB} (hb : b.q = true → noLs b.cells = true) : RVL ρ S p (scrubB live b).cells b.cells := by
  unfold AV.scrubB
  split
  · rename_i h; exact RVL.no (hb h)
  · exact RVL.scrub hρ _
theorem scrubB_sz (b : KB) : (scrubB live b).sz = b.sz := by unfold scrubB; split <;> rfl
theorem scrubB_q (b : KB) (hb : b.q = true → noLs b.cells = true) : (scrubB live b).q = true → noLs (scrubB live b).cells = true := by
  unfold scrubB
  split
  · rename_i h; exact fun _ => hb h
  · exact fun h => h
theorem lkM_pick (m : List (Nat × KB)) (ds : List Nat) (d : Nat) : lkM (pickM live m ds) d = if memN ds d = true then (lkM m d).map (scrubB live) else none := by
  induction ds with
  | nil => simp [pickM, lkM, memN]
  | cons x ds ih =>
    simp only [pickM, memN]
    by_cases h : x = d
    · subst h
      cases hl : lkM m x with
      | none => simp only; rw [ih, hl]; simp
      | some b => simp only; rw [lkM_cons]; simp [nbeq.2 rfl]
    · have hb : Nat.beq x d = false := by
        cases hq : Nat.beq x d with
        | true => exact absurd (nbeq.1 hq) h
        | false => rfl
      simp only [hb, Bool.false_or]
      cases hl : lkM m x with
      | none => simp only; exact ih
      | some b => simp only; rw [lkM_cons, if_neg h]; exact ih
end

/-! ### triples -/
section
variable (P : Program) (B : Base) (N : Nat) (ro : Option Nat)

def RelK (ks : KS) (a : Act) (G : Gh) : Prop := Rel B N (toS ks) a G ∧ KOk ks
def exK (Q : AEx → KS → Prop) : Exit → KS → Prop
  | .normal, ks => Q .n ks
  | .exit id, ks => Q (.x id) ks
  | .ret, ks => Q .r ks
  | _, _ => False
def PostK (Q : AEx → KS → Prop) : Exit → Act → World → Prop := fun e a w => ∃ ks G, RelK B N ks a G ∧ G.w = w ∧ exK Q e ks
/-- a state is told anew -/
def RE (S : St) (X : KS → Prop) : Prop := ∀ a G, Rel B N S a G → ∃ ks1 G1, G1.w = G.w ∧ RelK B N ks1 a G1 ∧ X ks1
/-- code, from a state on -/
def WK (ac : ACode) (Q : AEx → KS → Prop) (ks : KS) : Prop := ∀ c, trC P N c = some ac → ∀ a G, RelK B N ks a G → c.wpIn (FR ro) 0 P (PostK B N Q) a G.w
def nQ (Q : KS → Prop) : AEx → KS → Prop := fun e ks => match e with
  | .n => Q ks
  | _ => False
end

section
variable {P : Program} {B : Base} [GB P B] {N : Nat} {ro : Option Nat} {hs : Nat → Bool} {L : List AO} {Q : KS → Prop} {ks : KS} {i : Nat}

theorem RE.id {X : KS → Prop} (hk : KOk ks) (h : X ks) : RE B N (toS ks) X := fun _ G hR => ⟨ks, G, rfl, ⟨hR, hk⟩, h⟩
theorem RE.mono {S : St} {X Y : KS → Prop} (h : RE B N S X) (hxy : ∀ ks, X ks → Y ks) : RE B N S Y := fun a G hR => by
  obtain ⟨k, G1, h1, h2, h3⟩ := h a G hR
  exact ⟨k, G1, h1, h2, hxy k h3⟩
theorem RE.of {S : St} {ks1 : KS} {X : KS → Prop} (hB : LentB B) {ρ : Nat → Option (Nat × Nat)} {p : Nat × Nat → Prop} (hR : ReK S ks1 ρ p) (hk : KOk ks1) (h : X ks1) : RE B N S X := fun a G hr => by
  obtain ⟨G1, e1, e2⟩ := rek_ok hr hB hR
  exact ⟨ks1, G1, e1, ⟨e2, hk⟩, h⟩

theorem WK_re {c : ACode} {Q : AEx → KS → Prop} (h : KOk ks → RE B N (toS ks) (WK P B N ro c Q)) : WK P B N ro c Q ks := by
  have _ := (inferInstance : GB P B)
  intro c' ht a G hR
  obtain ⟨k1, G1, e1, e2, e3⟩ := h hR.2 a G hR.1
  rw [← e1]
  exact e3 c' ht a G1 e2

theorem KOk.put {d : Option Nat} {v : AV} (h : KOk ks) : KOk (ks.put d v) := by cases d <;> exact h

end
end Go.AV

