/-
  Rules for code over states as data: a row is made one for good, a state is cut; operations one by one, in the order of the text or drawn.
-/
import Derived.Test.YteoohihaibgplaaDoorAvN
namespace Go.AV
open Go.RowKit Go.RG Go.Lib

def isMC : AOp → Bool
  | .call .. | .calv .. => true
  | _ => false
/-! ### a row is made one for good -/
mutual
def pubA (s : Nat) (b : KB) : AV → AV
  | .agg cs => .agg (pubAs s b cs)
  | .tup cs => .tup (pubAs s b cs)
  | .fn f a c => .fn f (pubAs s b a) (pubAs s b c)
  | .gs (.l d c) n => match Nat.beq d s && Nat.beq c 1 with
    | true => .sl false n b.cells
    | false => .gs (.l d c) n
  | u => u
def pubAs (s : Nat) (b : KB) : List AV → List AV
  | [] => []
  | u :: r => pubA s b u :: pubAs s b r
end
mutual
def pubP (s : Nat) (b : KB) : AV → List Prop
  | .agg cs => pubPs s b cs
  | .tup cs => pubPs s b cs
  | .fn _ a c => pubPs s b a ++ pubPs s b c
  | .gs (.l d c) n => match Nat.beq d s && Nat.beq c 1 with
    | true => [b.cells.length = n * b.sz]
    | false => []
  | _ => []
def pubPs (s : Nat) (b : KB) : List AV → List Prop
  | [] => []
  | u :: r => pubP s b u ++ pubPs s b r
end
def pubB (s : Nat) (b : KB) (live : Nat → Bool) (x : KB) : KB := match x.q with
  | true => x
  | false => ⟨x.e, x.sz, (pubAs s b x.cells).map (scrub live), noLs ((pubAs s b x.cells).map (scrub live))⟩
def pubF (s : Nat) (b : KB) (live : Nat → Bool) : List (Nat × AV) → List (Nat × AV)
  | [] => []
  | p :: r => (p.1, scrub live (pubA s b p.2)) :: pubF s b live r
def pubM (s : Nat) (b : KB) (live : Nat → Bool) : List (Nat × KB) → List (Nat × KB)
  | [] => []
  | p :: r => match live p.1 with
    | true => (p.1, pubB s b live p.2) :: pubM s b live r
    | false => pubM s b live r
def pubFP (s : Nat) (b : KB) : List (Nat × AV) → List Prop
  | [] => []
  | p :: r => pubP s b p.2 ++ pubFP s b r
def pubMP (s : Nat) (b : KB) : List (Nat × KB) → List Prop
  | [] => []
  | p :: r => (match p.2.q with | true => [] | false => pubPs s b p.2.cells) ++ pubMP s b r
def KS.pub (ks : KS) (s : Nat) : KR KS := match lkM ks.mem s with
  | some b => match b.q || noLs b.cells with
    | true => let live := fun x => !Nat.beq x s && hasM ks.mem x
      some (pubFP s b ks.fr ++ pubMP s b ks.mem, ⟨pubF s b live ks.fr, pubM s b live ks.mem, ks.H, ks.nx⟩)
    | false => none
  | none => none

mutual
theorem RV.pubA {ρ : Nat → Option (Nat × Nat)} {S : St} {p : Nat × Nat → Prop} {live : Nat → Bool} (hρ : ∀ d, live d = true → ρ d = some (d, 1)) {s : Nat} {b : KB} (hp : p (s, 1)) (hm : S.M (.l s 1) = some b.blk) (hz : b.sz ≠ 0) (hq : noLs b.cells = true) : ∀ (u : AV), AllP (pubP s b u) → okV live (AV.pubA s b u) = true → RV ρ S p (AV.pubA s b u) u
  | .agg cs, h, k => by
    simp only [AV.pubA]
    simp only [AV.pubA, okV] at k
    exact .agg _ _ (pubAs_len s b cs) (fun j u v hu hv => RVs.pubA hρ hp hm hz hq cs h k j u v hu hv)
  | .tup cs, h, k => by
    simp only [AV.pubA]
    simp only [AV.pubA, okV] at k
    exact .tup _ _ (pubAs_len s b cs) (fun j u v hu hv => RVs.pubA hρ hp hm hz hq cs h k j u v hu hv)
  | .fn f a c, h, k => by
    simp only [AV.pubA]
    simp only [AV.pubA, okV, Bool.and_eq_true] at k
    simp only [pubP] at h
    obtain ⟨h1, h2⟩ := AllP_append h
    exact .fn f _ _ _ _ (pubAs_len s b a) (fun j u v hu hv => RVs.pubA hρ hp hm hz hq a h1 k.1 j u v hu hv) (pubAs_len s b c) (fun j u v hu hv => RVs.pubA hρ hp hm hz hq c h2 k.2 j u v hu hv)
  | .gs (.l d c) n, h, k => by
    simp only [AV.pubA] at k ⊢
    simp only [pubP] at h
    cases hb : Nat.beq d s && Nat.beq c 1 with
    | true =>
      rw [hb] at h
      simp only
      simp only [Bool.and_eq_true] at hb
      have e1 := nbeq.1 hb.1; have e2 := nbeq.1 hb.2
      subst e1; subst e2
      exact .pub (d, 1) n b.blk hp hm h.1 hz hq
    | false =>
      rw [hb] at k
      simp only at k ⊢
      exact RV.same hρ _ k
  | .gs (.h o) n, _, _ => .no _ rfl
  | .pt (.l d c) n, _, k => RV.same hρ _ k
  | .pt (.h o) n, _, _ => .no _ rfl
  | .bl b, _, _ => .no _ rfl
  | .it k n, _, _ => .no _ rfl
  | .st s, _, _ => .no _ rfl
  | .sl z n xs, _, _ => .no _ rfl
  | .nptr, _, _ => .no _ rfl
  | .ep xs off, _, _ => .no _ rfl
  | .nfn, _, _ => .no _ rfl
  | .un, _, _ => .no _ rfl
  | .yld o, _, _ => .no _ rfl
  | .rcd a b c d, _, _ => .no _ rfl
theorem pubAs_len (s : Nat) (b : KB) : ∀ (l : List AV), (pubAs s b l).length = l.length
  | [] => rfl
  | u :: r => by simp only [pubAs, List.length_cons, pubAs_len s b r]
theorem RVs.pubA {ρ : Nat → Option (Nat × Nat)} {S : St} {p : Nat × Nat → Prop} {live : Nat → Bool} (hρ : ∀ d, live d = true → ρ d = some (d, 1)) {s : Nat} {b : KB} (hp : p (s, 1)) (hm : S.M (.l s 1) = some b.blk) (hz : b.sz ≠ 0) (hq : noLs b.cells = true) : ∀ (l : List AV), AllP (pubPs s b l) → okVs live (pubAs s b l) = true → ∀ (j : Nat) (u v : AV), (pubAs s b l)[j]? = some u → l[j]? = some v → RV ρ S p u v
  | [], _, _, j, u, v, hu, hv => by simp at hv
  | x :: l, h, k, j, u, v, hu, hv => by
    simp only [pubAs, okVs, Bool.and_eq_true] at k
    simp only [pubPs] at h
    obtain ⟨h1, h2⟩ := AllP_append h
    cases j with
    | zero => simp [pubAs] at hu hv; subst hu; subst hv; exact RV.pubA hρ hp hm hz hq x h1 k.1
    | succ j => exact RVs.pubA hρ hp hm hz hq l h2 k.2 j u v (by simpa [pubAs] using hu) (by simpa using hv)
end

section
variable {P : Program} {B : Base} [GB P B] {N : Nat} {ro : Option Nat} {hs : Nat → Bool} {ks : KS}

theorem KOk.keep {ts ds : List Nat} (hk : KOk ks) : KOk (ks.keep ts ds) := by
  intro x b' hl
  have hl' : lkM (pickM (fun s => memN ds s && hasM ks.mem s) ks.mem ds) x = some b' := hl
  rw [lkM_pick] at hl'
  split at hl'
  · obtain ⟨b0, h1, h2⟩ := Option.map_eq_some_iff.1 hl'
    subst h2
    exact ⟨by rw [scrubB_sz]; exact (hk x b0 h1).1, scrubB_q b0 (hk x b0 h1).2⟩
  · cases hl'

end

/-! ### a state in the midst of a region is told as a state -/
def lkN : List (Nat × Nat) → Nat → Option Nat
  | [], _ => none
  | p :: r, t => match Nat.beq p.1 t with
    | true => some p.2
    | false => lkN r t
def lvD (ds : DS) (ms : List (Nat × Nat)) (d c : Nat) : Bool := match lkN ms d with
  | some c' => Nat.beq c c' && (ds.kb d c).isSome
  | none => false
mutual
def okD (lv : Nat → Nat → Bool) : AV → Bool
  | .agg cs => okDs lv cs
  | .tup vs => okDs lv vs
  | .fn _ a c => okDs lv a && okDs lv c
  | .gs (.l d c) _ => lv d c
  | .pt (.l d c) _ => lv d c
  | _ => true
def okDs (lv : Nat → Nat → Bool) : List AV → Bool
  | [] => true
  | u :: r => okD lv u && okDs lv r
end
mutual
def renA : AV → AV
  | .agg cs => .agg (renAs cs)
  | .tup vs => .tup (renAs vs)
  | .fn f a c => .fn f (renAs a) (renAs c)
  | .gs (.l d _) n => .gs (.l d 1) n
  | .pt (.l d _) n => .pt (.l d 1) n
  | u => u
def renAs : List AV → List AV
  | [] => []
  | u :: r => renA u :: renAs r
end
def scrubD (lv : Nat → Nat → Bool) (u : AV) : AV := match okD lv u with
  | true => renA u
  | false => .un
def scrubDB (lv : Nat → Nat → Bool) (b : KB) : KB := match b.q with
  | true => b
  | false => ⟨b.e, b.sz, b.cells.map (scrubD lv), noLs (b.cells.map (scrubD lv))⟩
def pickFD (lv : Nat → Nat → Bool) (fr : List (Nat × AV)) : List Nat → List (Nat × AV)
  | [] => []
  | t :: r => (t, scrubD lv (lkF fr t)) :: pickFD lv fr r
def pickMD (ds : DS) (lv : Nat → Nat → Bool) : List (Nat × Nat) → List (Nat × KB)
  | [] => []
  | p :: r => match lv p.1 p.2, ds.kb p.1 p.2 with
    | true, some b => (p.1, scrubDB lv b) :: pickMD ds lv r
    | _, _ => pickMD ds lv r
def DS.keep (ds : DS) (ts : List Nat) (ms : List (Nat × Nat)) : KS := ⟨pickFD (lvD ds ms) ds.fr ts, pickMD ds (lvD ds ms) ms, ds.H, ds.nx⟩

section
variable {P : Program} {B : Base} [GB P B] {N : Nat} {ro : Option Nat} {hs : Nat → Bool} {ds : DS}

end

/-! ### operations in the order of the text -/
section
variable (P : Program) (B : Base) (N : Nat) (ro : Option Nat)
def RelD (ds : DS) (a : Act) (G : Gh) : Prop := Rel B N (toD ds) a G ∧ DOk ds
/-- operations from the i-th on -/
def WD (L : List AO) (i : Nat) (Q : KS → Prop) (ds : DS) : Prop := ∀ ops pre suf, ops.toList = pre ++ suf → trOps P N ops suf = some (L.drop i) → ∀ a G, RelD B N ds a G → wpOpsIn (FR ro) 0 P ops (PostK B N (nQ Q)) (List.range' pre.length suf.length) a G.w
end
section
variable {P : Program} {B : Base} [GB P B] {N : Nat} {ro : Option Nat} {hs : Nat → Bool} {L : List AO} {Q : KS → Prop} {ds : DS} {i : Nat}

theorem drop_at {o : AO} (e : L[i]? = some o) : L.drop i = o :: L.drop (i + 1) := by
  have hi := (List.getElem?_eq_some_iff.1 e).1
  rw [List.drop_eq_getElem_cons hi]
  congr 1
  exact (List.getElem?_eq_some_iff.1 e).2
theorem WD_re (h : DOk ds → RE B N (toD ds) (fun ks => WD P B N ro L i Q (ofK ks))) : WD P B N ro L i Q ds := by
  have _ := (inferInstance : GB P B)
  intro ops pre suf he ht a G hR
  obtain ⟨k1, G1, e1, e2, e3⟩ := h hR.2 a G hR.1
  rw [← e1]
  exact e3 ops pre suf he ht a G1 ⟨by rw [ofK_toD]; exact e2.1, ofK_ok e2.2⟩
/-- is an operation wanted here -/
def gok (g : Option (Nat × Bool)) (fr : List (Nat × AV)) : Bool := match g with
  | none => true
  | some (d, b) => match lkF fr d with
    | .bl c => c == b
    | _ => false
def gno (g : Option (Nat × Bool)) (fr : List (Nat × AV)) : Bool := match g with
  | none => false
  | some (d, b) => match lkF fr d with
    | .bl c => c == !b
    | .tup [] => true
    | _ => false

theorem WD_aop {o : AO} (e : L[i]? = some o) (hg : gok o.guard ds.fr = true) (h : DOk ds → aop hs (CallsA P) o.op o.dst (toD ds) (fun v S' => ∃ ds', S'.put o.dst v = toD ds' ∧ DOk ds' ∧ WD P B N ro L (i + 1) Q ds')) : WD P B N ro L i Q ds := by
  intro ops pre suf he ht a G hR
  rw [drop_at e] at ht
  cases suf with
  | nil => simp [trOps] at ht
  | cons x suf =>
    have hat : ops[pre.length]? = some x := by rw [← Array.getElem?_toList, he]; simp
    simp only [trOps] at ht
    split at ht <;> first | (cases ht; done) | skip
    rename_i u g us h1 h2 h3 h4
    simp only [Option.some.injEq, List.cons.injEq] at ht
    obtain ⟨h5, h6⟩ := ht
    subst h5; subst h6
    rw [List.length_cons, List.range'_succ]
    simp only [wpOpsIn, hat]
    have hwant : Region.wanted x (yielded ops a.tmps) = true := by
      cases hx : x.guard with
      | none => simp [Region.wanted, hx]
      | some jb =>
        obtain ⟨j, want⟩ := jb
        rw [hx] at h2
        simp only [trGuard] at h2
        split at h2 <;> first | (cases h2; done) | skip
        rename_i d' hd
        split at h2 <;> first | (cases h2; done) | skip
        rename_i hdN
        cases h2
        simp only [gok] at hg
        split at hg
        · rename_i c hc
          have hdt : d' < a.tmps.size := by rw [hR.1.tsize]; exact hdN
          have hslot := hR.1.slot d' a.tmps[d'] (Array.getElem?_eq_getElem hdt)
          rw [show (toD ds).fr d' = .bl c from hc] at hslot
          have hb : a.tmps[d']? = some (.bool c) := by rw [Array.getElem?_eq_getElem hdt, hslot.bl_inv]
          simp [Region.wanted, hx, yielded, hd, hb]; simpa using hg
        · cases hg
    rw [if_pos hwant]
    refine aop_okR hR.1 h1 (h hR.2) fun av v S' G' hK hR' hv => ?_
    obtain ⟨ds', e1, e2, e3⟩ := hK
    have := e3 ops (pre ++ [x]) suf (by rw [he]; simp) h4 _ G' ⟨by rw [← e1]; exact hR'.put hv, e2⟩
    simpa using this
theorem WD_skp {o : AO} (e : L[i]? = some o) (hg : gno o.guard ds.fr = true) (h : WD P B N ro L (i + 1) Q (ds.put o.dst (.tup []))) : WD P B N ro L i Q ds := by
  have _ := (inferInstance : GB P B)
  intro ops pre suf he ht a G hR
  rw [drop_at e] at ht
  cases suf with
  | nil => simp [trOps] at ht
  | cons x suf =>
    have hat : ops[pre.length]? = some x := by rw [← Array.getElem?_toList, he]; simp
    simp only [trOps] at ht
    split at ht <;> first | (cases ht; done) | skip
    rename_i u g us h1 h2 h3 h4
    simp only [Option.some.injEq, List.cons.injEq] at ht
    obtain ⟨h5, h6⟩ := ht
    subst h5; subst h6
    rw [List.length_cons, List.range'_succ]
    simp only [wpOpsIn, hat]
    have hwant : Region.wanted x (yielded ops a.tmps) = false := by
      cases hx : x.guard with
      | none =>
        rw [hx] at h2
        simp only [trGuard, Option.some.injEq] at h2; subst h2
        cases hg
      | some jb =>
        obtain ⟨j, want⟩ := jb
        rw [hx] at h2
        simp only [trGuard] at h2
        split at h2 <;> first | (cases h2; done) | skip
        rename_i d' hd
        split at h2 <;> first | (cases h2; done) | skip
        rename_i hdN
        cases h2
        have hdt : d' < a.tmps.size := by rw [hR.1.tsize]; exact hdN
        have hslot := hR.1.slot d' a.tmps[d'] (Array.getElem?_eq_getElem hdt)
        simp only [gno] at hg
        split at hg
        · rename_i c hc
          rw [show (toD ds).fr d' = .bl c from hc] at hslot
          have hb : a.tmps[d']? = some (.bool c) := by rw [Array.getElem?_eq_getElem hdt, hslot.bl_inv]
          have hg' : c = !want := by simpa using hg
          simp [Region.wanted, hx, yielded, hd, hb, hg']
        · rename_i hc
          rw [show (toD ds).fr d' = .tup [] from hc] at hslot
          obtain ⟨vs, q0, q1, _⟩ := hslot.tup_inv
          have hb : a.tmps[d']? = some (.tuple vs) := by rw [Array.getElem?_eq_getElem hdt, q0]
          simp [Region.wanted, hx, yielded, hd, hb]
        · cases hg
    rw [if_neg (by rw [hwant]; simp)]
    refine ⟨fun _ _ => trivial, ?_⟩
    have := h ops (pre ++ [x]) suf (by rw [he]; simp) h4 (a.put x.dst undef) G ⟨by rw [← putD_toD]; exact hR.1.put (.tup [] #[] rfl (fun j u x hu => by simp at hu)), hR.2.put⟩
    simpa using this

/-- one operation by its effect -/
theorem WD_e {o : AO} {e : REff} {ds' : DS} (e0 : L[i]? = some o) (hg : gok o.guard ds.fr = true) (h : DOk ds → Eff o.op o.dst ds e ds') (hc : isMC o.op = false) (k : WD P B N ro L (i + 1) Q ds') : WD P B N ro L i Q ds := by
  refine WD_aop (hs := fun _ => false) e0 hg fun hk => ?_
  obtain ⟨h1, h2, h3⟩ := h hk
  have hE : EffOk (fun _ => false) P o.op o.dst (toD ds) e := by
    cases hop : o.op <;> rw [hop] at h1 hc <;> first | exact h1 | (cases hc; done)
  exact eff_ok hE ⟨ds', h2, h3, k⟩

/-- both ways of a bool -/
theorem WD_bool {d : Nat} {b : Bool} (hv : lkF ds.fr d = .bl b) (h1 : b = true → WD P B N ro L i Q (ds.put (some d) (.bl true))) (h2 : b = false → WD P B N ro L i Q (ds.put (some d) (.bl false))) : WD P B N ro L i Q ds := by
  have _ := (inferInstance : GB P B)
  have key : toD ds = toD (ds.put (some d) (.bl b)) := by
    rw [← putD_toD]
    unfold toD St.put
    simp only [St.mk.injEq, and_true]
    funext t
    unfold upd
    by_cases h : t = d
    · subst h; simp [hv]
    · simp [h]
  have hh : WD P B N ro L i Q (ds.put (some d) (.bl b)) := by cases b; exact h2 rfl; exact h1 rfl
  intro ops pre suf he ht a G hR
  exact hh ops pre suf he ht a G ⟨by rw [← key]; exact hR.1, hR.2.put⟩
theorem WD_len {t n : Nat} {z : Bool} {xs : List AV} (ht : t < N) (e : lkF ds.fr t = .sl z n xs) (h : n ≤ maxLen → WD P B N ro L i Q ds) : WD P B N ro L i Q ds := by
  have _ := (inferInstance : GB P B)
  intro ops pre suf he hts a G hR
  refine h ?_ ops pre suf he hts a G hR
  have hdt : t < a.tmps.size := by rw [hR.1.tsize]; exact ht
  have hslot := hR.1.slot t a.tmps[t] (Array.getElem?_eq_getElem hdt)
  rw [show (toD ds).fr t = .sl z n xs from e] at hslot
  rcases hslot.sl_inv with ⟨_, h0, _⟩ | ⟨_, h0, _⟩ | ⟨_, b, off, cap, f, _, _, _, _, _, _, hm, _⟩
  · rw [h0]; exact Nat.zero_le _
  · rw [h0]; exact Nat.zero_le _
  · exact hm
end

/-! ### operations in a drawn order -/
def DD (P : Program) (L : List (AO × List Nat)) (i : Nat) (acc : List Foot) (Q : St → Prop) (ds : DS) : Prop := DOk ds → runD (fun _ => false) P (L.drop i) acc Q (toD ds)
section
variable {P : Program} {B : Base} [GB P B] {N : Nat} {L : List (AO × List Nat)} {Q : St → Prop} {ds : DS} {i : Nat} {acc : List Foot}

theorem dropD_at {o : AO × List Nat} (e : L[i]? = some o) : L.drop i = o :: L.drop (i + 1) := by
  have hi := (List.getElem?_eq_some_iff.1 e).1
  rw [List.drop_eq_getElem_cons hi]
  congr 1
  exact (List.getElem?_eq_some_iff.1 e).2
theorem DD_eop {o : AO} {fre : List Nat} (e0 : L[i]? = some (o, fre)) (hg : gok o.guard ds.fr = true) (h : DOk ds → eop (fun _ => false) P o.op o.dst (toD ds) fun e => okAcc (footOf o.op (toD ds) e) acc fre ∧ runD (fun _ => false) P (L.drop (i + 1)) (acc ++ [footOf o.op (toD ds) e]) Q (e.app o.dst (toD ds))) : DD P L i acc Q ds := by
  intro hk
  rw [dropD_at e0]
  simp only [runD]
  cases hq : o.guard with
  | none => exact h hk
  | some p =>
    obtain ⟨g, b⟩ := p
    rw [hq] at hg
    simp only [gok] at hg
    split at hg
    · rename_i c hc
      simp only
      rw [show (toD ds).fr g = .bl c from hc]
      simp only
      rw [if_pos (by simpa using hg)]
      exact h hk
    · cases hg
theorem DD_skp {o : AO} {fre : List Nat} (e0 : L[i]? = some (o, fre)) (hg : gno o.guard ds.fr = true) (k : DD P L (i + 1) (acc ++ [footSkip]) Q (ds.put o.dst (.tup []))) : DD P L i acc Q ds := by
  intro hk
  rw [dropD_at e0]
  simp only [runD]
  cases hq : o.guard with
  | none => rw [hq] at hg; cases hg
  | some p =>
    obtain ⟨g, b⟩ := p
    rw [hq] at hg
    simp only [gno] at hg
    simp only
    split at hg
    · rename_i c hc
      rw [show (toD ds).fr g = .bl c from hc]
      simp only
      have : c = !b := by simpa using hg
      rw [if_neg (by rw [this]; cases b <;> simp), putD_toD]
      exact k hk.put
    · rename_i hc
      rw [show (toD ds).fr g = .tup [] from hc]
      simp only
      rw [putD_toD]
      exact k hk.put
    · cases hg
theorem DD_bool {d : Nat} {b : Bool} (hv : lkF ds.fr d = .bl b) (h1 : b = true → DD P L i acc Q (ds.put (some d) (.bl true))) (h2 : b = false → DD P L i acc Q (ds.put (some d) (.bl false))) : DD P L i acc Q ds := by
  have key : toD ds = toD (ds.put (some d) (.bl b)) := by
    rw [← putD_toD]
    unfold toD St.put
    simp only [St.mk.injEq, and_true]
    funext t
    unfold upd
    by_cases h : t = d
    · subst h; simp [hv]
    · simp [h]
  have hh : DD P L i acc Q (ds.put (some d) (.bl b)) := by cases b; exact h2 rfl; exact h1 rfl
  intro hk
  rw [key]
  exact hh hk.put
end
end Go.AV

