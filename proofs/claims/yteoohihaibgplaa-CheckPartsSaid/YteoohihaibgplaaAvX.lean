/-
  Rules for code over states as data: a row is made one for good, a state is cut; operations one by one, in the order of the text or drawn.
-/
import Derived.Test.YteoohihaibgplaaAvN
namespace Go.AV
open Go.RowKit Go.RG Go.Lib

def isMC : AOp → Bool
  | .call .. | .calv .. => true
  | _ => false
def keepR (r : KR KS) (ts ds : List Nat) : KR KS := match r with
  | some (C, ks) => some (C, ks.keep ts ds)
  | none => none

/-! ### a row is made one for good -/
mutual
def pubA (s : Nat) (b : KB) : AV → AV
  | .agg cs => .agg (pubAs s b cs)
  | .tup cs => .tup (pubAs s b cs)
  | .fn f a c => .fn f (pubAs s b a) (pubAs s b c)
  | .gs (.l d c) n => match Nat.beq d s && Nat.beq c 1 with
    | true => .sl false n b.cells
    | false => .gs (.l d c) n
  | u => u
def pubAs (s : Nat) (b : KB) : List AV → List AV
  | [] => []
  | u :: r => pubA s b u :: pubAs s b r
end
mutual
def pubP (s : Nat) (b : KB) : AV → List Prop
  | .agg cs => pubPs s b cs
  | .tup cs => pubPs s b cs
  | .fn _ a c => pubPs s b a ++ pubPs s b c
  | .gs (.l d c) n => match Nat.beq d s && Nat.beq c 1 with
    | true => [b.cells.length = n * b.sz]
    | false => []
  | _ => []
def pubPs (s : Nat) (b : KB) : List AV → List Prop
  | [] => []
  | u :: r => pubP s b u ++ pubPs s b r
end
def pubB (s : Nat) (b : KB) (live : Nat → Bool) (x : KB) : KB := match x.q with
  | true => x
  | false => ⟨x.e, x.sz, (pubAs s b x.cells).map (scrub live), noLs ((pubAs s b x.cells).map (scrub live))⟩
def pubF (s : Nat) (b : KB) (live : Nat → Bool) : List (Nat × AV) → List (Nat × AV)
  | [] => []
  | p :: r => (p.1, scrub live (pubA s b p.2)) :: pubF s b live r
def pubM (s : Nat) (b : KB) (live : Nat → Bool) : List (Nat × KB) → List (Nat × KB)
  | [] => []
  | p :: r => match live p.1 with
    | true => (p.1, pubB s b live p.2) :: pubM s b live r
    | false => pubM s b live r
def pubFP (s : Nat) (b : KB) : List (Nat × AV) → List Prop
  | [] => []
  | p :: r => pubP s b p.2 ++ pubFP s b r
def pubMP (s : Nat) (b : KB) : List (Nat × KB) → List Prop
  | [] => []
  | p :: r => (match p.2.q with | true => [] | false => pubPs s b p.2.cells) ++ pubMP s b r
def KS.pub (ks : KS) (s : Nat) : KR KS := match lkM ks.mem s with
  | some b => match b.q || noLs b.cells with
    | true => let live := fun x => !Nat.beq x s && hasM ks.mem x
      some (pubFP s b ks.fr ++ pubMP s b ks.mem, ⟨pubF s b live ks.fr, pubM s b live ks.mem, ks.H, ks.nx⟩)
    | false => none
  | none => none

mutual
theorem RV.pubA {ρ : Nat → Option (Nat × Nat)} {S : St} {p : Nat × Nat → Prop} {live : Nat → Bool} (hρ : ∀ d, live d = true → ρ d = some (d, 1)) {s : Nat} {b : KB} (hp : p (s, 1)) (hm : S.M (.l s 1) = some b.blk) (hz : b.sz ≠ 0) (hq : noLs b.cells = true) : ∀ (u : AV), AllP (pubP s b u) → okV live (AV.pubA s b u) = true → RV ρ S p (AV.pubA s b u) u
  | .agg cs, h, k => by
    simp only [AV.pubA]
    simp only [AV.pubA, okV] at k
    exact .agg _ _ (pubAs_len s b cs) (fun j u v hu hv => RVs.pubA hρ hp hm hz hq cs h k j u v hu hv)
  | .tup cs, h, k => by
    simp only [AV.pubA]
    simp only [AV.pubA, okV] at k
    exact .tup _ _ (pubAs_len s b cs) (fun j u v hu hv => RVs.pubA hρ hp hm hz hq cs h k j u v hu hv)
  | .fn f a c, h, k => by
    simp only [AV.pubA]
    simp only [AV.pubA, okV, Bool.and_eq_true] at k
    simp only [pubP] at h
    obtain ⟨h1, h2⟩ := AllP_append h
    exact .fn f _ _ _ _ (pubAs_len s b a) (fun j u v hu hv => RVs.pubA hρ hp hm hz hq a h1 k.1 j u v hu hv) (pubAs_len s b c) (fun j u v hu hv => RVs.pubA hρ hp hm hz hq c h2 k.2 j u v hu hv)
  | .gs (.l d c) n, h, k => by
    simp only [AV.pubA] at k ⊢
    simp only [pubP] at h
    cases hb : Nat.beq d s && Nat.beq c 1 with
    | true =>
      rw [hb] at h
      simp only
      simp only [Bool.and_eq_true] at hb
      have e1 := nbeq.1 hb.1; have e2 := nbeq.1 hb.2
      subst e1; subst e2
      exact .pub (d, 1) n b.blk hp hm h.1 hz hq
    | false =>
      rw [hb] at k
      simp only at k ⊢
      exact RV.same hρ _ k
  | .gs (.h o) n, _, _ => .no _ rfl
  | .pt (.l d c) n, _, k => RV.same hρ _ k
  | .pt (.h o) n, _, _ => .no _ rfl
  | .bl b, _, _ => .no _ rfl
  | .it k n, _, _ => .no _ rfl
  | .st s, _, _ => .no _ rfl
  | .sl z n xs, _, _ => .no _ rfl
  | .nptr, _, _ => .no _ rfl
  | .ep xs off, _, _ => .no _ rfl
  | .nfn, _, _ => .no _ rfl
  | .un, _, _ => .no _ rfl
  | .yld o, _, _ => .no _ rfl
  | .rcd a b c d, _, _ => .no _ rfl
theorem pubAs_len (s : Nat) (b : KB) : ∀ (l : List AV), (pubAs s b l).length = l.length
  | [] => rfl
  | u :: r => by simp only [pubAs, List.length_cons, pubAs_len s b r]
theorem RVs.pubA {ρ : Nat → Option (Nat × Nat)} {S : St} {p : Nat × Nat → Prop} {live : Nat → Bool} (hρ : ∀ d, live d = true → ρ d = some (d, 1)) {s : Nat} {b : KB} (hp : p (s, 1)) (hm : S.M (.l s 1) = some b.blk) (hz : b.sz ≠ 0) (hq : noLs b.cells = true) : ∀ (l : List AV), AllP (pubPs s b l) → okVs live (pubAs s b l) = true → ∀ (j : Nat) (u v : AV), (pubAs s b l)[j]? = some u → l[j]? = some v → RV ρ S p u v
  | [], _, _, j, u, v, hu, hv => by simp at hv
  | x :: l, h, k, j, u, v, hu, hv => by
    simp only [pubAs, okVs, Bool.and_eq_true] at k
    simp only [pubPs] at h
    obtain ⟨h1, h2⟩ := AllP_append h
    cases j with
    | zero => simp [pubAs] at hu hv; subst hu; subst hv; exact RV.pubA hρ hp hm hz hq x h1 k.1
    | succ j => exact RVs.pubA hρ hp hm hz hq l h2 k.2 j u v (by simpa [pubAs] using hu) (by simpa using hv)
end

section
variable {P : Program} {B : Base} {N : Nat} {ro : Option Nat} {hs : Nat → Bool} {ks : KS}

theorem RE_pub (hB : ∀ d c, B.κ (.l d c) = none) (hk : KOk ks) {s : Nat} {C : List Prop} {ks' : KS} (e : ks.pub s = some (C, ks')) (hC : AllP C) {X : KS → Prop} (h : KOk ks' → X ks') : RE B N (toS ks) X := by
  unfold KS.pub at e
  split at e
  case h_2 => cases e
  rename_i b hb
  split at e
  case h_2 => cases e
  rename_i hqq
  simp only [Option.some.injEq, Prod.mk.injEq] at e
  obtain ⟨rfl, rfl⟩ := e
  obtain ⟨hC1, hC2⟩ := AllP_append hC
  have hz := (hk s b hb).1
  have hq : noLs b.cells = true := by
    rcases Bool.or_eq_true_iff.1 hqq with q | q
    · exact (hk s b hb).2 q
    · exact q
  let live : Nat → Bool := fun x => !Nat.beq x s && hasM ks.mem x
  have hls : live s = false := by simp [live, nbeq.2]
  let ρ : Nat → Option (Nat × Nat) := fun x => if live x = true then some (x, 1) else none
  have hρ : ∀ d, live d = true → ρ d = some (d, 1) := fun d h => by show (if live d = true then some (d, 1) else none) = _; rw [if_pos h]
  let p : Nat × Nat → Prop := fun k => k = (s, 1)
  have hm : (toS ks).M (.l s 1) = some b.blk := by show ks.M (.l s 1) = _; rw [M_l1, hb]; rfl
  have hM : ∀ (m : List (Nat × KB)) (x : Nat), lkM (pubM s b live m) x = if live x = true then (lkM m x).map (pubB s b live) else none := by
    intro m
    induction m with
    | nil => intro x; simp [pubM, lkM]
    | cons q m ih =>
      intro x
      simp only [pubM]
      rw [lkM_cons]
      cases hl : live q.1 with
      | true =>
        simp only
        rw [lkM_cons]
        by_cases h : q.1 = x
        · subst h; simp [hl]
        · simp only [h, if_false]; exact ih x
      | false =>
        simp only
        rw [ih]
        by_cases h : q.1 = x
        · subst h; simp [hl]
        · simp [h]
  have hMP : ∀ (m : List (Nat × KB)) (x : Nat) (b' : KB), AllP (pubMP s b m) → lkM m x = some b' → b'.q = false → AllP (pubPs s b b'.cells) := by
    intro m
    induction m with
    | nil => intro x b' _ h; cases h
    | cons q m ih =>
      intro x b' h hl hq
      simp only [pubMP] at h
      obtain ⟨h1, h2⟩ := AllP_append h
      rw [lkM_cons] at hl
      split at hl
      · cases hl; rw [hq] at h1; exact h1
      · exact ih x b' h2 hl hq
  have hkk : KOk ⟨pubF s b live ks.fr, pubM s b live ks.mem, ks.H, ks.nx⟩ := by
    intro x b' hl
    have hl' : lkM (pubM s b live ks.mem) x = some b' := hl
    rw [hM] at hl'
    split at hl'
    · obtain ⟨b0, h1, h2⟩ := Option.map_eq_some_iff.1 hl'
      subst h2
      unfold pubB
      split
      · exact hk x b0 h1
      · exact ⟨(hk x b0 h1).1, fun q => q⟩
    · cases hl'
  refine RE.of (ks1 := ⟨pubF s b live ks.fr, pubM s b live ks.mem, ks.H, ks.nx⟩) hB (ρ := ρ) (p := p) { dom := ?_, at' := ?_, inj := ?_, disj := ?_, pub := ?_, fr := ?_, H := fun _ => rfl, nx := rfl } hkk (h hkk)
  · intro d b1 hl
    have hl' : lkM (pubM s b live ks.mem) d = some b1 := hl
    rw [hM] at hl'
    split at hl'
    · rename_i hd; exact ⟨(d, 1), hρ d hd⟩
    · cases hl'
  · intro d k hd
    have hd' : (if live d = true then some (d, 1) else none) = some k := hd
    split at hd'
    · rename_i hl
      cases hd'
      have hm' : hasM ks.mem d = true := by simp only [live, Bool.and_eq_true] at hl; exact hl.2
      obtain ⟨b0, hb0⟩ := Option.isSome_iff_exists.1 (show (lkM ks.mem d).isSome = true from hm')
      have hk0 := hk d b0 hb0
      refine ⟨b0.blk, pubB s b live b0, by show ks.M (.l d 1) = _; rw [M_l1, hb0]; rfl, hk0.1, by show lkM (pubM s b live ks.mem) d = _; rw [hM, if_pos hl, hb0]; rfl, ?_, ?_, ?_⟩
      · unfold pubB; split <;> rfl
      · unfold pubB; split <;> rfl
      · unfold pubB
        split
        · rename_i hq0; exact RVL.no (hk0.2 hq0)
        · rename_i hq0
          have hAll := hMP ks.mem d b0 hC2 hb0 hq0
          refine ⟨by simp [pubAs_len]; rfl, fun j u v hu hv => ?_⟩
          have hu' : ((pubAs s b b0.cells).map (scrub live))[j]? = some u := hu
          rw [List.getElem?_map] at hu'
          obtain ⟨u0, e1, e2⟩ := Option.map_eq_some_iff.1 hu'
          subst e2
          unfold scrub
          split
          · rename_i hok
            -- one cell
            have : ∀ (l : List AV) (j : Nat) (u0 v : AV), AllP (pubPs s b l) → (pubAs s b l)[j]? = some u0 → l[j]? = some v → AllP (pubP s b v) ∧ u0 = AV.pubA s b v := by
              intro l
              induction l with
              | nil => intro j u0 v _ _ h; simp at h
              | cons x l ih =>
                intro j u0 v h hu hv
                simp only [pubPs] at h
                obtain ⟨h1, h2⟩ := AllP_append h
                cases j with
                | zero => simp [pubAs] at hu hv; subst hv; exact ⟨h1, hu.symm⟩
                | succ j => exact ih j u0 v h2 (by simpa [pubAs] using hu) (by simpa using hv)
            obtain ⟨h1, h2⟩ := this b0.cells j u0 v hAll e1 hv
            subst h2
            exact RV.pubA (p := p) hρ rfl hm hz hq v h1 hok
          · exact .un v
    · cases hd'
  · intro d d' k h1 h2
    have h1' : (if live d = true then some (d, 1) else none) = some k := h1
    have h2' : (if live d' = true then some (d', 1) else none) = some k := h2
    split at h1'
    · cases h1'
      split at h2'
      · cases h2'; rfl
      · cases h2'
    · cases h1'
  · intro k d hp h1
    have hp' : k = (s, 1) := hp
    subst hp'
    have h1' : (if live d = true then some (d, 1) else none) = some (s, 1) := h1
    split at h1'
    · rename_i hl
      simp only [Option.some.injEq, Prod.mk.injEq, and_true] at h1'
      subst h1'; rw [hls] at hl; cases hl
    · cases h1'
  · intro k hp
    have hp' : k = (s, 1) := hp
    subst hp'
    exact ⟨b.blk, hm, hz⟩
  · intro t
    have : ∀ (l : List (Nat × AV)), AllP (pubFP s b l) → RV ρ (toS ks) p (lkF (pubF s b live l) t) (lkF l t) := by
      intro l
      induction l with
      | nil => intro _; exact .un _
      | cons q l ih =>
        intro h
        simp only [pubFP] at h
        obtain ⟨h1, h2⟩ := AllP_append h
        simp only [pubF]
        rw [lkF_cons, lkF_cons]
        split
        · show RV ρ (toS ks) p (scrub live (AV.pubA s b q.2)) q.2
          unfold scrub
          split
          · rename_i hok; exact RV.pubA (p := p) hρ rfl hm hz hq q.2 h1 hok
          · exact .un _
        · exact ih h2
    exact this ks.fr hC1

theorem KOk.keep {ts ds : List Nat} (hk : KOk ks) : KOk (ks.keep ts ds) := by
  intro x b' hl
  have hl' : lkM (pickM (fun s => memN ds s && hasM ks.mem s) ks.mem ds) x = some b' := hl
  rw [lkM_pick] at hl'
  split at hl'
  · obtain ⟨b0, h1, h2⟩ := Option.map_eq_some_iff.1 hl'
    subst h2
    exact ⟨by rw [scrubB_sz]; exact (hk x b0 h1).1, scrubB_q b0 (hk x b0 h1).2⟩
  · cases hl'

theorem RE_keep (hB : ∀ d c, B.κ (.l d c) = none) (hk : KOk ks) {ts ds : List Nat} {X : KS → Prop} (h : X (ks.keep ts ds)) : RE B N (toS ks) X := by
  let live : Nat → Bool := fun s => memN ds s && hasM ks.mem s
  let ρ : Nat → Option (Nat × Nat) := fun x => if live x = true then some (x, 1) else none
  have hρ : ∀ d, live d = true → ρ d = some (d, 1) := fun d h => by show (if live d = true then some (d, 1) else none) = _; rw [if_pos h]
  refine RE.of hB (ρ := ρ) (ks1 := ks.keep ts ds) (p := fun _ => False) { dom := ?_, at' := ?_, inj := ?_, disj := fun k d h => h.elim, pub := fun k h => h.elim, fr := ?_, H := fun _ => rfl, nx := rfl } hk.keep h
  · intro d b1 hl
    have hl' : lkM (pickM live ks.mem ds) d = some b1 := hl
    rw [lkM_pick] at hl'
    split at hl'
    · rename_i hd
      obtain ⟨b0, h1, h2⟩ := Option.map_eq_some_iff.1 hl'
      exact ⟨(d, 1), hρ d (by simp [live, hd, hasM, h1])⟩
    · cases hl'
  · intro d k hd
    have hd' : (if live d = true then some (d, 1) else none) = some k := hd
    split at hd'
    · rename_i hl
      cases hd'
      simp only [live, Bool.and_eq_true] at hl
      obtain ⟨b0, hb0⟩ := Option.isSome_iff_exists.1 (show (lkM ks.mem d).isSome = true from hl.2)
      refine ⟨b0.blk, scrubB live b0, by show ks.M (.l d 1) = _; rw [M_l1, hb0]; rfl, (hk d b0 hb0).1, by show lkM (pickM live ks.mem ds) d = _; rw [lkM_pick, if_pos hl.1, hb0]; rfl, scrubB_e b0, scrubB_sz b0, RVL.scrubB hρ (hk d b0 hb0).2⟩
    · cases hd'
  · intro d d' k h1 h2
    have h1' : (if live d = true then some (d, 1) else none) = some k := h1
    have h2' : (if live d' = true then some (d', 1) else none) = some k := h2
    split at h1'
    · cases h1'
      split at h2'
      · cases h2'; rfl
      · cases h2'
    · cases h1'
  · intro t
    rcases lkF_pick (live := live) ks.fr ts t with e | e
    · show RV _ _ _ (lkF (pickF live ks.fr ts) t) _
      rw [e]; exact RV.scrub hρ _
    · show RV _ _ _ (lkF (pickF live ks.fr ts) t) _
      rw [e]; exact .un _

end

/-! ### a state in the midst of a region is told as a state -/
def lkN : List (Nat × Nat) → Nat → Option Nat
  | [], _ => none
  | p :: r, t => match Nat.beq p.1 t with
    | true => some p.2
    | false => lkN r t
def lvD (ds : DS) (ms : List (Nat × Nat)) (d c : Nat) : Bool := match lkN ms d with
  | some c' => Nat.beq c c' && (ds.kb d c).isSome
  | none => false
mutual
def okD (lv : Nat → Nat → Bool) : AV → Bool
  | .agg cs => okDs lv cs
  | .tup vs => okDs lv vs
  | .fn _ a c => okDs lv a && okDs lv c
  | .gs (.l d c) _ => lv d c
  | .pt (.l d c) _ => lv d c
  | _ => true
def okDs (lv : Nat → Nat → Bool) : List AV → Bool
  | [] => true
  | u :: r => okD lv u && okDs lv r
end
mutual
def renA : AV → AV
  | .agg cs => .agg (renAs cs)
  | .tup vs => .tup (renAs vs)
  | .fn f a c => .fn f (renAs a) (renAs c)
  | .gs (.l d _) n => .gs (.l d 1) n
  | .pt (.l d _) n => .pt (.l d 1) n
  | u => u
def renAs : List AV → List AV
  | [] => []
  | u :: r => renA u :: renAs r
end
def scrubD (lv : Nat → Nat → Bool) (u : AV) : AV := match okD lv u with
  | true => renA u
  | false => .un
def scrubDB (lv : Nat → Nat → Bool) (b : KB) : KB := match b.q with
  | true => b
  | false => ⟨b.e, b.sz, b.cells.map (scrubD lv), noLs (b.cells.map (scrubD lv))⟩
def pickFD (lv : Nat → Nat → Bool) (fr : List (Nat × AV)) : List Nat → List (Nat × AV)
  | [] => []
  | t :: r => (t, scrubD lv (lkF fr t)) :: pickFD lv fr r
def pickMD (ds : DS) (lv : Nat → Nat → Bool) : List (Nat × Nat) → List (Nat × KB)
  | [] => []
  | p :: r => match lv p.1 p.2, ds.kb p.1 p.2 with
    | true, some b => (p.1, scrubDB lv b) :: pickMD ds lv r
    | _, _ => pickMD ds lv r
def DS.keep (ds : DS) (ts : List Nat) (ms : List (Nat × Nat)) : KS := ⟨pickFD (lvD ds ms) ds.fr ts, pickMD ds (lvD ds ms) ms, ds.H, ds.nx⟩

theorem renAs_len : ∀ (l : List AV), (renAs l).length = l.length
  | [] => rfl
  | u :: r => by simp only [renAs, List.length_cons, renAs_len r]
mutual
theorem RV.ren {ρ : Nat → Option (Nat × Nat)} {S : St} {p : Nat × Nat → Prop} {lv : Nat → Nat → Bool} (hρ : ∀ d c, lv d c = true → ρ d = some (d, c)) : ∀ (u : AV), okD lv u = true → RV ρ S p (renA u) u
  | .agg cs, h => .agg _ cs (renAs_len cs) fun j u v hu hv => RVs.ren hρ cs (by simpa only [okD] using h) j u v hu hv
  | .tup cs, h => .tup _ cs (renAs_len cs) fun j u v hu hv => RVs.ren hρ cs (by simpa only [okD] using h) j u v hu hv
  | .fn f a c, h => by
    simp only [okD, Bool.and_eq_true] at h
    exact .fn f _ a _ c (renAs_len a) (fun j u v hu hv => RVs.ren hρ a h.1 j u v hu hv) (renAs_len c) (fun j u v hu hv => RVs.ren hρ c h.2 j u v hu hv)
  | .gs (.l d c) n, h => .gs d n (d, c) (hρ d c h)
  | .pt (.l d c) n, h => .pt d n (d, c) (hρ d c h)
  | .gs (.h o) n, _ => .no _ rfl
  | .pt (.h o) n, _ => .no _ rfl
  | .bl b, _ => .no _ rfl
  | .it k n, _ => .no _ rfl
  | .st s, _ => .no _ rfl
  | .sl z n xs, _ => .no _ rfl
  | .nptr, _ => .no _ rfl
  | .ep xs off, _ => .no _ rfl
  | .nfn, _ => .no _ rfl
  | .un, _ => .no _ rfl
  | .yld o, _ => .no _ rfl
  | .rcd a b c d, _ => .no _ rfl
theorem RVs.ren {ρ : Nat → Option (Nat × Nat)} {S : St} {p : Nat × Nat → Prop} {lv : Nat → Nat → Bool} (hρ : ∀ d c, lv d c = true → ρ d = some (d, c)) : ∀ (l : List AV), okDs lv l = true → ∀ (j : Nat) (u v : AV), (renAs l)[j]? = some u → l[j]? = some v → RV ρ S p u v
  | [], _, j, u, v, hu, hv => by simp at hv
  | x :: l, h, j, u, v, hu, hv => by
    simp only [okDs, Bool.and_eq_true] at h
    cases j with
    | zero => simp [renAs] at hu hv; subst hu; subst hv; exact RV.ren hρ x h.1
    | succ j => exact RVs.ren hρ l h.2 j u v (by simpa [renAs] using hu) (by simpa using hv)
end

section
variable {P : Program} {B : Base} {N : Nat} {ro : Option Nat} {hs : Nat → Bool} {ds : DS}

theorem RE_keepD (hB : ∀ d c, B.κ (.l d c) = none) (hk : DOk ds) {ts : List Nat} {ms : List (Nat × Nat)} {X : KS → Prop} (h : KOk (ds.keep ts ms) → X (ds.keep ts ms)) : RE B N (toD ds) X := by
  let lv := lvD ds ms
  let ρ : Nat → Option (Nat × Nat) := fun d => match lkN ms d with
    | some c => if (ds.kb d c).isSome then some (d, c) else none
    | none => none
  have hρ : ∀ d c, lv d c = true → ρ d = some (d, c) := by
    intro d c h
    have h' : lvD ds ms d c = true := h
    unfold lvD at h'
    show (match lkN ms d with | some c => if (ds.kb d c).isSome then some (d, c) else none | none => none) = _
    split at h'
    · rename_i c' e
      simp only [Bool.and_eq_true] at h'
      have := nbeq.1 h'.1; subst this
      rw [if_pos h'.2]
    · cases h'
  have hsc : ∀ (u : AV) (S : St) (p : Nat × Nat → Prop), RV ρ S p (scrubD lv u) u := by
    intro u S p
    unfold scrubD
    split
    · rename_i h; exact RV.ren hρ u h
    · exact .un u
  have hu : ∀ d c c', lv d c = true → lv d c' = true → c = c' := by
    intro d c c' h1 h2
    have a := hρ d c h1; have b := hρ d c' h2
    rw [a] at b; cases b; rfl
  have hM : ∀ (l : List (Nat × Nat)) (d : Nat) (b1 : KB), lkM (pickMD ds lv l) d = some b1 → ∃ c b, lv d c = true ∧ ds.kb d c = some b ∧ b1 = scrubDB lv b := by
    intro l
    induction l with
    | nil => intro d b1 h; cases h
    | cons p l ih =>
      intro d b1 h
      simp only [pickMD] at h
      split at h
      · rename_i b hl hb
        rw [lkM_cons] at h
        split at h
        · rename_i e
          simp only at e; subst e
          cases h
          exact ⟨p.2, b, hl, hb, rfl⟩
        · exact ih d b1 h
      · exact ih d b1 h
  have hF : ∀ (l : List (Nat × Nat)) (d c : Nat) (b : KB), (d, c) ∈ l → lv d c = true → ds.kb d c = some b → lkM (pickMD ds lv l) d = some (scrubDB lv b) := by
    intro l
    induction l with
    | nil => intro d c b h; cases h
    | cons p l ih =>
      intro d c b h hl hb
      simp only [pickMD]
      split
      · rename_i b' hl' hb'
        rw [lkM_cons]
        by_cases e : p.1 = d
        · subst e
          have := hu p.1 c p.2 hl hl'; subst this
          rw [hb] at hb'; cases hb'
          simp
        · rw [if_neg e]
          rcases List.mem_cons.1 h with q | q
          · rw [← q] at e; exact absurd rfl e
          · exact ih d c b q hl hb
      · rename_i hno
        rcases List.mem_cons.1 h with q | q
        · subst q; exact (hno b hl hb).elim
        · exact ih d c b q hl hb
  have hkk : KOk (ds.keep ts ms) := by
    intro d b1 hl
    obtain ⟨c, b, _, h2, h3⟩ := hM ms d b1 hl
    subst h3
    obtain ⟨k1, k2⟩ := hk d c b h2
    unfold scrubDB
    split
    · exact ⟨k1, k2⟩
    · exact ⟨k1, fun q => q⟩
  have hmem : ∀ (l : List (Nat × Nat)) d c, lkN l d = some c → (d, c) ∈ l := by
    intro l
    induction l with
    | nil => intro d c h; cases h
    | cons p l ih =>
      intro d c h
      simp only [lkN] at h
      split at h
      · rename_i e
        have := nbeq.1 e; subst this
        cases h; simp
      · exact List.mem_cons_of_mem _ (ih d c h)
  have hat : ∀ d k, ρ d = some k → ∃ c b, k = (d, c) ∧ (d, c) ∈ ms ∧ lv d c = true ∧ ds.kb d c = some b := by
    intro d k hd
    have hd' : (match lkN ms d with | some c => if (ds.kb d c).isSome then some (d, c) else none | none => none) = some k := hd
    split at hd'
    · rename_i c e
      split at hd'
      · rename_i hs'
        cases hd'
        obtain ⟨b, hb⟩ := Option.isSome_iff_exists.1 hs'
        refine ⟨c, b, rfl, hmem ms d c e, ?_, hb⟩
        show lvD ds ms d c = true
        unfold lvD
        rw [e]; simp only; rw [nbeq.2 rfl, hs']; rfl
      · cases hd'
    · cases hd'
  refine RE.of (ks1 := ds.keep ts ms) hB (ρ := ρ) (p := fun _ => False) { dom := ?_, at' := ?_, inj := ?_, disj := fun k d h => h.elim, pub := fun k h => h.elim, fr := ?_, H := fun _ => rfl, nx := rfl } hkk (h hkk)
  · intro d b1 hl
    obtain ⟨c, b, h1, h2, h3⟩ := hM ms d b1 hl
    exact ⟨(d, c), hρ d c h1⟩
  · intro d k hd
    obtain ⟨c, b, rfl, h1, h2, h3⟩ := hat d k hd
    obtain ⟨k1, k2⟩ := hk d c b h3
    refine ⟨b.blk, scrubDB lv b, by show (ds.kb d c).map KB.blk = _; rw [h3]; rfl, k1, hF ms d c b h1 h2 h3, ?_, ?_, ?_⟩
    · unfold scrubDB; split <;> rfl
    · unfold scrubDB; split <;> rfl
    · unfold scrubDB
      split
      · rename_i hq; exact RVL.no (k2 hq)
      · refine ⟨by simp; rfl, fun j u v hu hv => ?_⟩
        have hu' : (b.cells.map (scrubD lv))[j]? = some u := hu
        rw [List.getElem?_map, show b.cells[j]? = some v from hv] at hu'
        simp only [Option.map_some, Option.some.injEq] at hu'
        rw [← hu']; exact hsc v _ _
  · intro d d' k h1 h2
    obtain ⟨c, b, rfl, _⟩ := hat d k h1
    obtain ⟨c', b', e, _⟩ := hat d' _ h2
    cases e; rfl
  · intro t
    have : ∀ (l : List Nat), lkF (pickFD lv ds.fr l) t = scrubD lv (lkF ds.fr t) ∨ lkF (pickFD lv ds.fr l) t = .un := by
      intro l
      induction l with
      | nil => exact .inr rfl
      | cons x l ih =>
        simp only [pickFD]
        rw [lkF_cons]
        simp only
        split
        · rename_i e; subst e; exact .inl rfl
        · exact ih
    rcases this ts with e | e
    · show RV _ _ _ (lkF (pickFD lv ds.fr ts) t) _
      rw [e]; exact hsc _ _ _
    · show RV _ _ _ (lkF (pickFD lv ds.fr ts) t) _
      rw [e]; exact .un _
end

/-! ### operations in the order of the text -/
section
variable (P : Program) (B : Base) (N : Nat) (ro : Option Nat)
def RelD (ds : DS) (a : Act) (G : Gh) : Prop := Rel B N (toD ds) a G ∧ DOk ds
/-- operations from the i-th on -/
def WD (L : List AO) (i : Nat) (Q : KS → Prop) (ds : DS) : Prop := ∀ ops pre suf, ops.toList = pre ++ suf → trOps P N ops suf = some (L.drop i) → ∀ a G, RelD B N ds a G → wpOpsIn (FR ro) 0 P ops (PostK B N (nQ Q)) (List.range' pre.length suf.length) a G.w
end
section
variable {P : Program} {B : Base} {N : Nat} {ro : Option Nat} {hs : Nat → Bool} {L : List AO} {Q : KS → Prop} {ds : DS} {i : Nat}

theorem drop_at {o : AO} (e : L[i]? = some o) : L.drop i = o :: L.drop (i + 1) := by
  have hi := (List.getElem?_eq_some_iff.1 e).1
  rw [List.drop_eq_getElem_cons hi]
  congr 1
  exact (List.getElem?_eq_some_iff.1 e).2
theorem WD_drop {j : Nat} (e : L.drop i = L.drop j) (h : WD P B N ro L j Q ds) : WD P B N ro L i Q ds := by
  intro ops pre suf he ht
  rw [e] at ht
  exact h ops pre suf he ht
theorem WD_re (h : DOk ds → RE B N (toD ds) (fun ks => WD P B N ro L i Q (ofK ks))) : WD P B N ro L i Q ds := by
  intro ops pre suf he ht a G hR
  obtain ⟨k1, G1, e1, e2, e3⟩ := h hR.2 a G hR.1
  rw [← e1]
  exact e3 ops pre suf he ht a G1 ⟨by rw [ofK_toD]; exact e2.1, ofK_ok e2.2⟩
/-- the end of the operations -/
theorem WD_end (hB : ∀ d c, B.κ (.l d c) = none) {ts : List Nat} {ms : List (Nat × Nat)} {ks' : KS} (e : L.drop i = []) (e2 : ds.keep ts ms = ks') (h : Q ks') : WD P B N ro L i Q ds := by
  intro ops pre suf he ht a G hR
  rw [e] at ht
  cases suf with
  | nil =>
    obtain ⟨k1, G1, q1, q2, q3⟩ := RE_keepD (ts := ts) (ms := ms) (X := Q) hB hR.2 (fun _ => e2 ▸ h) a G hR.1
    exact ⟨k1, G1, q2, q1, q3⟩
  | cons o r =>
    simp only [trOps] at ht
    split at ht <;> cases ht
theorem WD_keep (hB : ∀ d c, B.κ (.l d c) = none) {ts : List Nat} {ms : List (Nat × Nat)} {ks' : KS} (e2 : ds.keep ts ms = ks') (h : WD P B N ro L i Q (ofK ks')) : WD P B N ro L i Q ds := WD_re fun hk => RE_keepD (ts := ts) (ms := ms) hB hk fun _ => e2 ▸ h

/-- is an operation wanted here -/
def gok (g : Option (Nat × Bool)) (fr : List (Nat × AV)) : Bool := match g with
  | none => true
  | some (d, b) => match lkF fr d with
    | .bl c => c == b
    | _ => false
def gno (g : Option (Nat × Bool)) (fr : List (Nat × AV)) : Bool := match g with
  | none => false
  | some (d, b) => match lkF fr d with
    | .bl c => c == !b
    | .tup [] => true
    | _ => false

theorem WD_aop {o : AO} (e : L[i]? = some o) (hg : gok o.guard ds.fr = true) (h : DOk ds → aop hs (CallsA P) o.op o.dst (toD ds) (fun v S' => ∃ ds', S'.put o.dst v = toD ds' ∧ DOk ds' ∧ WD P B N ro L (i + 1) Q ds')) : WD P B N ro L i Q ds := by
  intro ops pre suf he ht a G hR
  rw [drop_at e] at ht
  cases suf with
  | nil => simp [trOps] at ht
  | cons x suf =>
    have hat : ops[pre.length]? = some x := by rw [← Array.getElem?_toList, he]; simp
    simp only [trOps] at ht
    split at ht <;> first | (cases ht; done) | skip
    rename_i u g us h1 h2 h3 h4
    simp only [Option.some.injEq, List.cons.injEq] at ht
    obtain ⟨h5, h6⟩ := ht
    subst h5; subst h6
    rw [List.length_cons, List.range'_succ]
    simp only [wpOpsIn, hat]
    have hwant : Region.wanted x (yielded ops a.tmps) = true := by
      cases hx : x.guard with
      | none => simp [Region.wanted, hx]
      | some jb =>
        obtain ⟨j, want⟩ := jb
        rw [hx] at h2
        simp only [trGuard] at h2
        split at h2 <;> first | (cases h2; done) | skip
        rename_i d' hd
        split at h2 <;> first | (cases h2; done) | skip
        rename_i hdN
        cases h2
        simp only [gok] at hg
        split at hg
        · rename_i c hc
          have hdt : d' < a.tmps.size := by rw [hR.1.tsize]; exact hdN
          have hslot := hR.1.slot d' a.tmps[d'] (Array.getElem?_eq_getElem hdt)
          rw [show (toD ds).fr d' = .bl c from hc] at hslot
          have hb : a.tmps[d']? = some (.bool c) := by rw [Array.getElem?_eq_getElem hdt, hslot.bl_inv]
          simp [Region.wanted, hx, yielded, hd, hb]; simpa using hg
        · cases hg
    rw [if_pos hwant]
    refine aop_okR hR.1 h1 (h hR.2) fun av v S' G' hK hR' hv => ?_
    obtain ⟨ds', e1, e2, e3⟩ := hK
    have := e3 ops (pre ++ [x]) suf (by rw [he]; simp) h4 _ G' ⟨by rw [← e1]; exact hR'.put hv, e2⟩
    simpa using this
theorem WD_skp {o : AO} (e : L[i]? = some o) (hg : gno o.guard ds.fr = true) (h : WD P B N ro L (i + 1) Q (ds.put o.dst (.tup []))) : WD P B N ro L i Q ds := by
  intro ops pre suf he ht a G hR
  rw [drop_at e] at ht
  cases suf with
  | nil => simp [trOps] at ht
  | cons x suf =>
    have hat : ops[pre.length]? = some x := by rw [← Array.getElem?_toList, he]; simp
    simp only [trOps] at ht
    split at ht <;> first | (cases ht; done) | skip
    rename_i u g us h1 h2 h3 h4
    simp only [Option.some.injEq, List.cons.injEq] at ht
    obtain ⟨h5, h6⟩ := ht
    subst h5; subst h6
    rw [List.length_cons, List.range'_succ]
    simp only [wpOpsIn, hat]
    have hwant : Region.wanted x (yielded ops a.tmps) = false := by
      cases hx : x.guard with
      | none =>
        rw [hx] at h2
        simp only [trGuard, Option.some.injEq] at h2; subst h2
        cases hg
      | some jb =>
        obtain ⟨j, want⟩ := jb
        rw [hx] at h2
        simp only [trGuard] at h2
        split at h2 <;> first | (cases h2; done) | skip
        rename_i d' hd
        split at h2 <;> first | (cases h2; done) | skip
        rename_i hdN
        cases h2
        have hdt : d' < a.tmps.size := by rw [hR.1.tsize]; exact hdN
        have hslot := hR.1.slot d' a.tmps[d'] (Array.getElem?_eq_getElem hdt)
        simp only [gno] at hg
        split at hg
        · rename_i c hc
          rw [show (toD ds).fr d' = .bl c from hc] at hslot
          have hb : a.tmps[d']? = some (.bool c) := by rw [Array.getElem?_eq_getElem hdt, hslot.bl_inv]
          have hg' : c = !want := by simpa using hg
          simp [Region.wanted, hx, yielded, hd, hb, hg']
        · rename_i hc
          rw [show (toD ds).fr d' = .tup [] from hc] at hslot
          obtain ⟨vs, q0, q1, _⟩ := hslot.tup_inv
          have hb : a.tmps[d']? = some (.tuple vs) := by rw [Array.getElem?_eq_getElem hdt, q0]
          simp [Region.wanted, hx, yielded, hd, hb]
        · cases hg
    rw [if_neg (by rw [hwant]; simp)]
    refine ⟨fun _ _ => trivial, ?_⟩
    have := h ops (pre ++ [x]) suf (by rw [he]; simp) h4 (a.put x.dst undef) G ⟨by rw [← putD_toD]; exact hR.1.put (.tup [] #[] rfl (fun j u x hu => by simp at hu)), hR.2.put⟩
    simpa using this

/-- one operation by its effect -/
theorem WD_e {o : AO} {e : REff} {ds' : DS} (e0 : L[i]? = some o) (hg : gok o.guard ds.fr = true) (h : DOk ds → Eff o.op o.dst ds e ds') (hc : isMC o.op = false) (k : WD P B N ro L (i + 1) Q ds') : WD P B N ro L i Q ds := by
  refine WD_aop (hs := fun _ => false) e0 hg fun hk => ?_
  obtain ⟨h1, h2, h3⟩ := h hk
  have hE : EffOk (fun _ => false) P o.op o.dst (toD ds) e := by
    cases hop : o.op <;> rw [hop] at h1 hc <;> first | exact h1 | (cases hc; done)
  exact eff_ok hE ⟨ds', h2, h3, k⟩

/-- several operations, evaluated by the kernel -/
def kst (o : AO) (ds : DS) : KR (REff × DS) := match gok o.guard ds.fr with
  | true => kx o.op o.dst ds
  | false => match gno o.guard ds.fr with
    | true => some ([], eff1 (.tup []), ds.put o.dst (.tup []))
    | false => none
def kcs : List AO → DS → Option (List Prop)
  | [], _ => some []
  | o :: r, ds => match kst o ds with
    | some (C, _, d1) => match kcs r d1 with
      | some C' => some (C ++ C')
      | none => none
    | none => none
def kds : List AO → DS → DS
  | [], ds => ds
  | o :: r, ds => match kst o ds with
    | some (_, _, d1) => kds r d1
    | none => ds
theorem kx_mc {u : AOp} {d : Option Nat} {ds : DS} {r : List Prop × REff × DS} (h : kx u d ds = some r) : isMC u = false := by
  cases u <;> first | rfl | (simp only [kx, reduceCtorEq] at h; done)
theorem WD_q' : ∀ (k i : Nat) (ds : DS) (C : List Prop), kcs ((L.drop i).take k) ds = some C → AllP C → WD P B N ro L (i + k) Q (kds ((L.drop i).take k) ds) → WD P B N ro L i Q ds := by
  intro k
  induction k with
  | zero => intro i ds C e hC h; simpa [kds] using h
  | succ k ih =>
    intro i ds C e hC h
    cases ho : L[i]? with
    | none =>
      have hi : L.length ≤ i := by rw [List.getElem?_eq_none_iff] at ho; exact ho
      rw [List.drop_eq_nil_of_le hi] at h
      simp only [List.take_nil, kds] at h
      exact WD_drop (by rw [List.drop_eq_nil_of_le hi, List.drop_eq_nil_of_le (by omega)]) h
    | some o =>
      rw [drop_at ho] at e h
      simp only [List.take_succ_cons, kcs] at e
      simp only [List.take_succ_cons, kds] at h
      split at e
      · rename_i C1 e1 d1 h1
        rw [h1] at h
        simp only at h
        split at e
        · rename_i C2 h2
          cases e
          obtain ⟨hC1, hC2⟩ := AllP_append hC
          have hk := ih (i + 1) d1 C2 h2 hC2 (by rw [show i + 1 + k = i + (k + 1) by omega]; exact h)
          unfold kst at h1
          split at h1
          · rename_i hg
            exact WD_e ho hg (fun hk => kx_ok h1 hC1 hk) (kx_mc h1) hk
          · split at h1
            · rename_i hg
              cases h1
              exact WD_skp ho hg hk
            · cases h1
        · cases e
      · cases e
theorem WD_q (k j : Nat) (C : List Prop) (e : kcs ((L.drop i).take k) ds = some C) (hj : i + k = j) (hC : AllP C) (h : WD P B N ro L j Q (kds ((L.drop i).take k) ds)) : WD P B N ro L i Q ds := by
  subst hj
  exact WD_q' k i ds C e hC h
/-- both ways of a bool -/
theorem WD_bool {d : Nat} {b : Bool} (hv : lkF ds.fr d = .bl b) (h1 : b = true → WD P B N ro L i Q (ds.put (some d) (.bl true))) (h2 : b = false → WD P B N ro L i Q (ds.put (some d) (.bl false))) : WD P B N ro L i Q ds := by
  have key : toD ds = toD (ds.put (some d) (.bl b)) := by
    rw [← putD_toD]
    unfold toD St.put
    simp only [St.mk.injEq, and_true]
    funext t
    unfold upd
    by_cases h : t = d
    · subst h; simp [hv]
    · simp [h]
  have hh : WD P B N ro L i Q (ds.put (some d) (.bl b)) := by cases b; exact h2 rfl; exact h1 rfl
  intro ops pre suf he ht a G hR
  exact hh ops pre suf he ht a G ⟨by rw [← key]; exact hR.1, hR.2.put⟩
theorem WD_len {t n : Nat} {z : Bool} {xs : List AV} (ht : t < N) (e : lkF ds.fr t = .sl z n xs) (h : n ≤ maxLen → WD P B N ro L i Q ds) : WD P B N ro L i Q ds := by
  intro ops pre suf he hts a G hR
  refine h ?_ ops pre suf he hts a G hR
  have hdt : t < a.tmps.size := by rw [hR.1.tsize]; exact ht
  have hslot := hR.1.slot t a.tmps[t] (Array.getElem?_eq_getElem hdt)
  rw [show (toD ds).fr t = .sl z n xs from e] at hslot
  rcases hslot.sl_inv with ⟨_, h0, _⟩ | ⟨_, h0, _⟩ | ⟨_, b, off, cap, f, _, _, _, _, _, _, hm, _⟩
  · rw [h0]; exact Nat.zero_le _
  · rw [h0]; exact Nat.zero_le _
  · exact hm
theorem WD_row {s c : Nat} {b : KB} (e : ds.kb s c = some b) (h : b.cells.length ≤ maxLen * b.sz → WD P B N ro L i Q ds) : WD P B N ro L i Q ds := by
  intro ops pre suf he hts a G hR
  refine h ?_ ops pre suf he hts a G hR
  have hm : (toD ds).M (.l s c) = some b.blk := by show (ds.kb s c).map KB.blk = _; rw [e]; rfl
  obtain ⟨r, hr, cur, c1, c2, c3, c4, c5, _⟩ := hR.1.toMRel.κcell hm (hR.2 s c b e).1
  have : cur.size ≤ maxLen * b.sz := by rw [c2]; exact Nat.mul_le_mul_right _ c3
  exact Nat.le_trans c5 this
theorem WD_pub (hB : ∀ d c, B.κ (.l d c) = none) {s : Nat} {ts : List Nat} {ms : List (Nat × Nat)} {ts2 ds2 : List Nat} {C : List Prop} {ks' : KS} (e : keepR ((ds.keep ts ms).pub s) ts2 ds2 = some (C, ks')) (hC : AllP C) (h : WD P B N ro L i Q (ofK ks')) : WD P B N ro L i Q ds := by
  unfold keepR at e
  split at e
  · rename_i C1 k1 e1
    simp only [Option.some.injEq, Prod.mk.injEq] at e
    obtain ⟨rfl, rfl⟩ := e
    refine WD_keep hB (ts := ts) (ms := ms) (ks' := ds.keep ts ms) rfl ?_
    refine WD_re fun hk => ?_
    rw [ofK_toD]
    refine RE_pub hB (fun d b hb => hk d 1 b (by show lkO (someL (ds.keep ts ms).mem) d = some b; rw [lkO_some]; exact hb)) e1 hC fun hk1 => ?_
    refine WD_re fun hk2 => ?_
    rw [ofK_toD]
    exact RE_keep hB hk1 h
  · cases e
end

/-! ### operations in a drawn order -/
def keyNe : Key → Key → Bool
  | .l a b, .l c d => !(Nat.beq a c && Nat.beq b d)
  | .h _, .l _ _ => true
  | .l _ _, .h _ => true
  | .h a, .h b => !Nat.beq a b
theorem keyNe_ok {a b : Key} (h : keyNe a b = true) : a ≠ b := by
  rintro rfl
  cases a <;> simp [keyNe, nbeq.2] at h
def okFB (a b : Foot) : Bool := (a.wk.all fun p => (b.rk.all fun k => keyNe (.l p.1 p.2) k) && (b.wk.all fun q => keyNe (.l p.1 p.2) (.l q.1 q.2))) && (b.wk.all fun p => a.rk.all fun k => keyNe (.l p.1 p.2) k) && (!a.wh || (!b.rh && !b.wh)) && (!b.wh || !a.rh)
def okAccB (ft : Foot) (acc : List Foot) : List Nat → Bool
  | [] => true
  | j :: r => (match acc[j]? with | some x => okFB ft x | none => true) && okAccB ft acc r
theorem okFB_ok {a b : Foot} (h : okFB a b = true) : okF a b := by
  simp only [okFB, Bool.and_eq_true, List.all_eq_true] at h
  obtain ⟨⟨⟨h1, h2⟩, h3⟩, h4⟩ := h
  refine ⟨allL_iff.2 fun p hp => ⟨allL_iff.2 fun k hk => keyNe_ok ((h1 p hp).1 k hk), allL_iff.2 fun q hq => ?_⟩, allL_iff.2 fun p hp => allL_iff.2 fun k hk => keyNe_ok (h2 p hp k hk), fun hw => ?_, fun hw => ?_⟩
  · intro e; subst e; exact keyNe_ok ((h1 p hp).2 p hq) rfl
  · rw [hw] at h3; simpa using h3
  · rw [hw] at h4; simpa using h4
theorem okAccB_ok {ft : Foot} {acc : List Foot} {fre : List Nat} (h : okAccB ft acc fre = true) : okAcc ft acc fre := by
  induction fre with
  | nil => trivial
  | cons j r ih =>
    simp only [okAccB, Bool.and_eq_true] at h
    refine ⟨?_, ih h.2⟩
    cases hj : acc[j]? with
    | none => show wpo acc[j]? (okF ft); rw [hj]; trivial
    | some x => rw [hj] at h; show wpo acc[j]? (okF ft); rw [hj]; exact okFB_ok h.1

def DD (P : Program) (L : List (AO × List Nat)) (i : Nat) (acc : List Foot) (Q : St → Prop) (ds : DS) : Prop := DOk ds → runD (fun _ => false) P (L.drop i) acc Q (toD ds)
section
variable {P : Program} {B : Base} {N : Nat} {L : List (AO × List Nat)} {Q : St → Prop} {ds : DS} {i : Nat} {acc : List Foot}

theorem dropD_at {o : AO × List Nat} (e : L[i]? = some o) : L.drop i = o :: L.drop (i + 1) := by
  have hi := (List.getElem?_eq_some_iff.1 e).1
  rw [List.drop_eq_getElem_cons hi]
  congr 1
  exact (List.getElem?_eq_some_iff.1 e).2
theorem DD_end (hB : ∀ d c, B.κ (.l d c) = none) {ts : List Nat} {ms : List (Nat × Nat)} {ks' : KS} {X : KS → Prop} (e : L.drop i = []) (e2 : ds.keep ts ms = ks') (h : X ks') : DD P L i acc (fun S => RE B N S X) ds := by
  intro hk
  rw [e]
  exact RE_keepD (ts := ts) (ms := ms) hB hk fun _ => e2 ▸ h
theorem DD_eop {o : AO} {fre : List Nat} (e0 : L[i]? = some (o, fre)) (hg : gok o.guard ds.fr = true) (h : DOk ds → eop (fun _ => false) P o.op o.dst (toD ds) fun e => okAcc (footOf o.op (toD ds) e) acc fre ∧ runD (fun _ => false) P (L.drop (i + 1)) (acc ++ [footOf o.op (toD ds) e]) Q (e.app o.dst (toD ds))) : DD P L i acc Q ds := by
  intro hk
  rw [dropD_at e0]
  simp only [runD]
  cases hq : o.guard with
  | none => exact h hk
  | some p =>
    obtain ⟨g, b⟩ := p
    rw [hq] at hg
    simp only [gok] at hg
    split at hg
    · rename_i c hc
      simp only
      rw [show (toD ds).fr g = .bl c from hc]
      simp only
      rw [if_pos (by simpa using hg)]
      exact h hk
    · cases hg
theorem DD_e {o : AO} {fre : List Nat} {e : REff} {ds' : DS} (e0 : L[i]? = some (o, fre)) (hg : gok o.guard ds.fr = true) (h : DOk ds → Eff o.op o.dst ds e ds') (hc : isMC o.op = false) (hf : okAccB (footOf o.op (toD ds) e) acc fre = true) (k : DD P L (i + 1) (acc ++ [footOf o.op (toD ds) e]) Q ds') : DD P L i acc Q ds := by
  refine DD_eop e0 hg fun hk => ?_
  obtain ⟨h1, h2, h3⟩ := h hk
  have hE : ∀ K : REff → Prop, K e → eop (fun _ => false) P o.op o.dst (toD ds) K := by
    intro K hK
    cases hop : o.op <;> rw [hop] at h1 hc <;> first | (cases hc; done) | (simp only [eop]; rw [h1]; exact hK)
  refine hE _ ⟨okAccB_ok hf, ?_⟩
  rw [h2]
  exact k h3
theorem DD_skp {o : AO} {fre : List Nat} (e0 : L[i]? = some (o, fre)) (hg : gno o.guard ds.fr = true) (k : DD P L (i + 1) (acc ++ [footSkip]) Q (ds.put o.dst (.tup []))) : DD P L i acc Q ds := by
  intro hk
  rw [dropD_at e0]
  simp only [runD]
  cases hq : o.guard with
  | none => rw [hq] at hg; cases hg
  | some p =>
    obtain ⟨g, b⟩ := p
    rw [hq] at hg
    simp only [gno] at hg
    simp only
    split at hg
    · rename_i c hc
      rw [show (toD ds).fr g = .bl c from hc]
      simp only
      have : c = !b := by simpa using hg
      rw [if_neg (by rw [this]; cases b <;> simp), putD_toD]
      exact k hk.put
    · rename_i hc
      rw [show (toD ds).fr g = .tup [] from hc]
      simp only
      rw [putD_toD]
      exact k hk.put
    · cases hg
def kfs : List (AO × List Nat) → DS → List Foot → List Foot
  | [], _, acc => acc
  | o :: r, ds, acc => match kst o.1 ds with
    | some (_, e, d1) => kfs r d1 (acc ++ [match gok o.1.guard ds.fr with | true => footOf o.1.op (toD ds) e | false => footSkip])
    | none => acc
def kcD : List (AO × List Nat) → DS → List Foot → Option (List Prop)
  | [], _, _ => some []
  | o :: r, ds, acc => match kst o.1 ds with
    | some (C, e, d1) =>
      match (match gok o.1.guard ds.fr with | true => okAccB (footOf o.1.op (toD ds) e) acc o.2 | false => true) with
      | true => match kcD r d1 (acc ++ [match gok o.1.guard ds.fr with | true => footOf o.1.op (toD ds) e | false => footSkip]) with
        | some C' => some (C ++ C')
        | none => none
      | false => none
    | none => none
def kdD : List (AO × List Nat) → DS → DS
  | [], ds => ds
  | o :: r, ds => match kst o.1 ds with
    | some (_, _, d1) => kdD r d1
    | none => ds
theorem DD_q' : ∀ (k i : Nat) (ds : DS) (acc : List Foot) (C : List Prop), kcD ((L.drop i).take k) ds acc = some C → AllP C → DD P L (i + k) (kfs ((L.drop i).take k) ds acc) Q (kdD ((L.drop i).take k) ds) → DD P L i acc Q ds := by
  intro k
  induction k with
  | zero => intro i ds acc C e hC h; simpa [kdD, kfs] using h
  | succ k ih =>
    intro i ds acc C e hC h
    cases ho : L[i]? with
    | none =>
      have hi : L.length ≤ i := by rw [List.getElem?_eq_none_iff] at ho; exact ho
      rw [List.drop_eq_nil_of_le hi] at h
      simp only [List.take_nil, kdD, kfs] at h
      unfold DD at h ⊢
      rw [List.drop_eq_nil_of_le hi]
      rw [List.drop_eq_nil_of_le (by omega)] at h
      exact h
    | some o =>
      rw [dropD_at ho] at e h
      simp only [List.take_succ_cons, kcD] at e
      simp only [List.take_succ_cons, kdD, kfs] at h
      split at e
      · rename_i C1 e1 d1 h1
        rw [h1] at h
        simp only at h
        split at e
        · rename_i hok
          split at e
          · rename_i C2 h2
            cases e
            obtain ⟨hC1, hC2⟩ := AllP_append hC
            have hk := ih (i + 1) d1 _ C2 h2 hC2 (by rw [show i + 1 + k = i + (k + 1) by omega]; exact h)
            obtain ⟨o, fre⟩ := o
            unfold kst at h1
            simp only at h1 hok hk
            split at h1
            · rename_i hg
              rw [hg] at hok hk
              exact DD_e ho hg (fun hk => kx_ok h1 hC1 hk) (kx_mc h1) hok hk
            · rename_i hg0
              rw [hg0] at hk
              split at h1
              · rename_i hg
                cases h1
                exact DD_skp ho hg hk
              · cases h1
          · cases e
        · cases e
      · cases e
theorem DD_q (k j : Nat) (C : List Prop) (e : kcD ((L.drop i).take k) ds acc = some C) (hj : i + k = j) (hC : AllP C) (h : DD P L j (kfs ((L.drop i).take k) ds acc) Q (kdD ((L.drop i).take k) ds)) : DD P L i acc Q ds := by
  subst hj
  exact DD_q' k i ds acc C e hC h
theorem DD_bool {d : Nat} {b : Bool} (hv : lkF ds.fr d = .bl b) (h1 : b = true → DD P L i acc Q (ds.put (some d) (.bl true))) (h2 : b = false → DD P L i acc Q (ds.put (some d) (.bl false))) : DD P L i acc Q ds := by
  have key : toD ds = toD (ds.put (some d) (.bl b)) := by
    rw [← putD_toD]
    unfold toD St.put
    simp only [St.mk.injEq, and_true]
    funext t
    unfold upd
    by_cases h : t = d
    · subst h; simp [hv]
    · simp [h]
  have hh : DD P L i acc Q (ds.put (some d) (.bl b)) := by cases b; exact h2 rfl; exact h1 rfl
  intro hk
  rw [key]
  exact hh hk.put
end
end Go.AV
